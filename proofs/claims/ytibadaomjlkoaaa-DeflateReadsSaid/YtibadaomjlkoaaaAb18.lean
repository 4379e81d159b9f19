import Derived.Test.YtibadaomjlkoaaaG2
set_option linter.unusedVariables false
set_option linter.unusedSimpArgs false
open Go.RowKit
namespace Go.Proofs.Ytibadaomjlkoaaa
def pM:AH→Bool
 |[]=>true
 | .one true _ _::_=>false
 | .aX true _ _::_=>false
 |_::M=>pM M
theorem qg:∀{M:AH},pM M=true→∀{i g:Nat}{x:af},slot M i g≠some (true,x)
 |[],_,i,g,x,hs=>by simp[slot]at hs
 |o::M,h,0,g,x,hs=>by
  simp only[slot,List.getElem?_cons_zero]at hs
  cases o with
  |gone=>cases hs
  |one own g' y=>
   cases own with
   |true=>cases h
   |false=>simp only[bq]at hs;split at hs<;>simp at hs
  |aX own n y=>
   cases own with
   |true=>cases h
   |false=>simp only[bq]at hs;split at hs<;>simp at hs
 |o::M,h,i+1,g,x,hs=>by
  have h':pM M=true:=by
   cases o with
   |gone=>exact h
   |one own g' y=>cases own<;>first|exact h|cases h
   |aX own n y=>cases own<;>first|exact h|cases h
  exact qg h' (i:=i) (g:=g) (x:=x) (by simpa[slot]using hs)
theorem aa.law {P:Program}{g:Nat}{args:List AV}{M:AH}(h:aa P g args M (fun r _=>r=.bo true) (fun _ _=>False))(hn:pM M=true){ρ:Env}{w:World}(hs:aW ρ M w)(aF:AV.eb ρ args):
 Calls P g (AV.cl ρ args).toArray w fun e w'=>e=.returned (.bool true)∧Below w.heap.size w w':=by
 unfold aa at h
 refine Calls.mono (h.2 ρ w hs aF) fun e w' he=>?_
 obtain⟨ρ',M',h1,h2,h3⟩:=he
 cases e with
 |returned v=>
  obtain⟨r,e1,e2,e3⟩:=h3
  subst e3
  exact⟨by rw[e1];rfl,⟨h2.os,h2.tape,h2.output,h2.size,fun k hk=>h2.frame k hk fun i g x q hs _=>absurd hs (qg hn)⟩⟩
 |panicked ch=>obtain⟨r,e1,e2,e3⟩:=h3;exact e3.elim
 |outgrown=>exact h3.elim
end Go.Proofs.Ytibadaomjlkoaaa
