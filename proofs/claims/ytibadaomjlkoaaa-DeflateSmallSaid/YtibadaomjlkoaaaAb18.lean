import Derived.Test.YtibadaomjlkoaaaG2
set_option linter.unusedVariables false
set_option linter.unusedSimpArgs false
open Go.RowKit
namespace Go.Proofs.Ytibadaomjlkoaaa
def oC:AH→Bool
 |[]=>true
 | .one true _ _::_=>false
 | .bG true _ _::_=>false
 |_::M=>oC M
theorem o6:∀{M:AH},oC M=true→∀{i g:Nat}{x:af},slot M i g≠some (true,x)
 |[],_,i,g,x,hs=>by simp[slot]at hs
 |o::M,h,0,g,x,hs=>by
  simp only[slot,List.getElem?_cons_zero]at hs
  cases o with
  |gone=>cases hs
  |one own g' y=>
   cases own with
   |true=>cases h
   |false=>simp only[bc]at hs;split at hs<;>simp at hs
  |bG own n y=>
   cases own with
   |true=>cases h
   |false=>simp only[bc]at hs;split at hs<;>simp at hs
 |o::M,h,i+1,g,x,hs=>by
  have h':oC M=true:=by
   cases o with
   |gone=>exact h
   |one own g' y=>cases own<;>first|exact h|cases h
   |bG own n y=>cases own<;>first|exact h|cases h
  exact o6 h' (i:=i) (g:=g) (x:=x) (by simpa[slot]using hs)
theorem aa.law {P:Program}{g:Nat}{args:List AV}{M:AH}(h:aa P g args M (fun r _=>r=.bo true) (fun _ _=>False))(hn:oC M=true){ρ:Env}{w:World}(hs:aU ρ M w)(aA:AV.dK ρ args):
 Calls P g (AV.cl ρ args).toArray w fun e w'=>e=.returned (.bool true)∧Below w.heap.size w w':=by
 unfold aa at h
 refine Calls.mono (h.2 ρ w hs aA) fun e w' he=>?_
 obtain⟨ρ',M',h1,h2,h3⟩:=he
 cases e with
 |returned v=>
  obtain⟨r,e1,e2,e3⟩:=h3
  subst e3
  exact⟨by rw[e1];rfl,⟨h2.os,h2.tape,h2.output,h2.size,fun k hk=>h2.frame k hk fun i g x q hs _=>absurd hs (o6 hn)⟩⟩
 |panicked ch=>obtain⟨r,e1,e2,e3⟩:=h3;exact e3.elim
 |outgrown=>exact h3.elim
end Go.Proofs.Ytibadaomjlkoaaa
