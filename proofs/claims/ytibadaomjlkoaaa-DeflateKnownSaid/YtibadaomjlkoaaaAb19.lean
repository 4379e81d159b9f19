import Derived.Test.YtibadaomjlkoaaaAb18
import Derived.Carry
import Derived.ChangeSame
import Derived.ProofKit
import Derived.Deep.Slices
set_option linter.unusedVariables false
set_option linter.unusedSimpArgs false
open Go.ChangeShapes Go.WideShapes Go.ChangeAt Go.RowKit
namespace Go.Proofs.Ytibadaomjlkoaaa
theorem Hn {P:Program}{fits:TypeId→Bool}:∀{d:Nat}{e count off n:Nat},rowAt P fits d e count off n=true→off≤count*P.cellsOf e
 |0,e,count,off,n,h=>by simp[rowAt]at h
 |d+1,e,count,off,n,h=>by
  unfold rowAt at h
  simp only at h
  split at h
  ·cases h
  ·rename_i hs
   have cB:0<P.cellsOf e:=Nat.pos_of_ne_zero hs
   have Z7:=Nat.div_add_mod off (P.cellsOf e)
   simp only[Bool.or_eq_true,Bool.and_eq_true,decide_eq_true_eq,beq_iff_eq]at h
   rcases h with⟨⟨h1,h2⟩,_⟩|⟨h1,_⟩
   ·have:off/P.cellsOf e*P.cellsOf e≤count*P.cellsOf e:=Nat.mul_le_mul_right _ (by omega)
    rw[Nat.mul_comm (off/P.cellsOf e)]at this
    omega
   ·have:(off/P.cellsOf e+1)*P.cellsOf e≤count*P.cellsOf e:=Nat.mul_le_mul_right _ h1
    rw[Nat.add_mul,Nat.one_mul,Nat.mul_comm (off/P.cellsOf e)]at this
    have:=Nat.mod_lt off cB
    omega
theorem wB {P:Program}:∀{d:Nat}{e count off u n:Nat},liesAt P d e count off u n=true→off≤count*P.cellsOf e
 |0,e,count,off,u,n,h=>by simp[liesAt]at h
 |d+1,e,count,off,u,n,h=>by
  unfold liesAt at h
  simp only[Bool.or_eq_true]at h
  rcases h with h|h
  ·exact Hn h
  ·split at h
   ·exact wB h
   ·cases h
theorem EF {P:Program}{w:World}{r:Reach}{base:Nat}{a:Addr}{e n:Nat}(h:w.has P r base a e n):a.spot=none∧∃c el fr,w.heap[a.block]?=some (.cells c el fr)∧a.off≤c.size:=by
 obtain⟨_,hs,row,cells,h1,h2⟩:=h
 refine⟨hs,?_⟩
 have hle:=wB h2
 unfold World.shape? at h1
 split at h1
 ·rename_i c el fr hc
  injection h1 with h1;injection h1 with e1 e2
  subst e1;subst e2
  refine⟨c,el,fr,hc,Nat.le_trans hle ?_⟩
  rw[Nat.mul_comm];exact Nat.mul_div_le _ _
 ·cases h1
theorem xC {ρ:Env}{M:AH}{w:World}{x:ae}{l:Option (Nat×Nat)}(h:aR ρ M w)(hn:nP M=true)
 (hl:(∃b base,l=some (b,base)∧bH (jE ρ M.length 0 l) false x b base w)∨(l=none∧x.bI)):
 aR (jE ρ M.length 0 l) (M++[.one false 0 x]) w∧nP (M++[.one false 0 x])=true∧∀i g l',ρ i g=some l'→jE ρ M.length 0 l i g=some l':=by
 have jq:∀g,(ρ M.length g).isSome=false:=fun g=>by
  cases hh:(ρ M.length g).isSome with
  |false=>rfl
  |true=>exact absurd (h.nw _ _ hh) (Nat.lt_irrefl _)
 have jB:=dp (l:=l) (jq 0)
 have rl:∀M:AH,nP M=true→nP (M++[.one false 0 x])=true:=by
  intro M
  induction M with
  |nil=>intro _;rfl
  |cons o M ih=>
   intro h
   cases o with
   |gone=>exact ih h
   |one own g y=>cases own with
    |true=>cases h
    |false=>exact ih h
   |bu own m y=>cases own with
    |true=>cases h
    |false=>exact ih h
 have A4:=rl M hn
 have Et:∀{i g own y},slot (M++[AO.one false 0 x]) i g=some (own,y)→(slot M i g=some (own,y)∧i<M.length)∨(i=M.length∧g=0∧own=false∧y=x):=by
  intro i g own y hs
  unfold slot at hs⊢
  rcases Nat.lt_trichotomy i M.length with aZ|rfl|Ga
  ·rw[List.getElem?_append_left aZ]at hs;exact .inl ⟨hs,aZ⟩
  ·rw[List.getElem?_append_right (Nat.le_refl _)]at hs
   simp only[Nat.sub_self,List.getElem?_cons_zero,a9]at hs
   split at hs
   ·injection hs with hs;injection hs with e1 e2;exact .inr ⟨rfl,‹_›,e1.symm,e2.symm⟩
   ·cases hs
  ·rw[List.getElem?_eq_none (by simp;omega)]at hs;cases hs
 refine⟨⟨?_,?_,?_,?_,?_⟩,A4,jB⟩
 ·intro i g hi
  rcases dD i g hi with h1|⟨rfl,_⟩
  ·have:=h.nw i g h1;simp;omega
  ·simp
 ·intro i g own g' y hm hi
  rcases dD i g hi with h1|⟨rfl,rfl⟩
  ·have aZ:=h.nw i g h1
   rw[List.getElem?_append_left aZ]at hm
   exact h.tag i g own g' y hm h1
  ·exact Nat.zero_le _
 ·intro i g own m y hm hi
  rcases dD i g hi with h1|⟨rfl,rfl⟩
  ·have aZ:=h.nw i g h1
   rw[List.getElem?_append_left aZ]at hm
   exact h.bu i g own m y hm h1
  ·rw[List.getElem?_append_right (Nat.le_refl _)]at hm;simp at hm
 ·intro i g own y hs
  rcases Et hs with⟨h1,_⟩|⟨rfl,rfl,rfl,rfl⟩
  ·rcases h.holds i g own y h1 with⟨q,e1,e2⟩|⟨e1,e2⟩
   ·exact .inl ⟨q,jB _ _ _ e1,e2.ext jB rfl⟩
   ·exact .inr ⟨jB _ _ _ e1,e2⟩
  ·rcases hl with⟨b,base,rfl,h2⟩|⟨rfl,h2⟩
   ·exact .inl ⟨(b,base),ar _ _ _ _,h2⟩
   ·exact .inr ⟨ar _ _ _ _,h2⟩
 ·intro i g y i' g' bn y' q q' hs
  exact absurd hs (om A4)
theorem J9 (w:World):aR (fun _ _=>none) [] w:=
 ⟨fun i g h=>by simp at h,fun i g own g' x h=>by simp at h,fun i g own m x h=>by simp at h,fun i g own x h=>by simp[slot]at h,fun i g x i' g' bn x' q q' h=>by simp[slot]at h⟩
structure nH (w:World)(M:AH)(ρ:Env)(vs:List Value)(as:List AV):Prop where
 OB:aR ρ M w
 no:nP M=true
 ok:AV.dC ρ as
 eq:vs=AV.cl ρ as
theorem nH.nil (w:World):nH w [] (fun _ _=>none) [] []:=⟨J9 w,rfl,trivial,rfl⟩
theorem nH.snoc {w:World}{M:AH}{ρ:Env}{vs:List Value}{as:List AV}(h:nH w M ρ vs as){v:Value}{a:AV}(aA:a.ok ρ)(hv:v=a.c ρ):nH w M ρ (vs++[v]) (as++[a]):=by
 refine⟨h.OB,h.no,?_,?_⟩
 ·exact iB h.ok ⟨aA,trivial⟩
 ·rw[fI,←h.eq,hv];rfl
theorem nH.grow {w:World}{M M':AH}{ρ ρ':Env}{vs:List Value}{as:List AV}(h:nH w M ρ vs as)(hs:aR ρ' M' w)(hn:nP M'=true)(he:∀i g l,ρ i g=some l→ρ' i g=some l):nH w M' ρ' vs as:=
 ⟨hs,hn,AV.fO he as h.ok,by rw[h.eq,AV.jD he as h.ok]⟩
section
variable{H:Type}{enc:TypeId×Value→H}{P:Program}{w:World}
theorem xk {k:IntKind}{n:Int}(h:(Lit.int k n).wf=true):k.min≤n∧n≤k.max:=by
 simpa[Lit.wf]using h
theorem nH.int {b0:Nat}{M:AH}{ρ:Env}{vs:List Value}{as:List AV}(h:nH w M ρ vs as){t:TypeId}{k:IntKind}{v:Value}{d:DataW H}{ps:List MemPlace}(ht:P.underlying t=some (.int k))(gN:Value.okWide P w .any b0 t v)(hd:DataW.Trod enc P w 0 (fun _=>true) true t v d ps):
 ∃n,(k.min≤n∧n≤k.max)∧nH w M ρ (vs++[v]) (as++[.int k n]):=by
 obtain⟨n,rfl,_,_,hw⟩:=open_int ht gN hd
 exact⟨n,xk hw,h.snoc trivial rfl⟩
theorem nH.bool {b0:Nat}{M:AH}{ρ:Env}{vs:List Value}{as:List AV}(h:nH w M ρ vs as){t:TypeId}{v:Value}{d:DataW H}{ps:List MemPlace}(ht:P.underlying t=some .bool)(gN:Value.okWide P w .any b0 t v)(hd:DataW.Trod enc P w 0 (fun _=>true) true t v d ps):
 ∃b,nH w M ρ (vs++[v]) (as++[.bo b]):=by
 obtain⟨b,rfl,_⟩:=open_bool ht gN hd
 exact⟨b,h.snoc trivial rfl⟩
theorem nH.ints {b0:Nat}{M:AH}{ρ:Env}{vs:List Value}{as:List AV}(h:nH w M ρ vs as){t e:TypeId}{k:IntKind}{v:Value}{d:DataW H}{ps:List MemPlace}(ht:P.underlying t=some (.slice e))(he:P.underlying e=some (.int k))(hc:P.cellsOf e=1)
 (gN:Value.okWide P w .any b0 t v)(hd:DataW.Trod enc P w 0 (fun _=>true) true t v d ps):
 ∃xs c ρ',(xs.length≤c∧c≤9223372036854775807)∧(∀x∈xs,k.min≤x∧x≤k.max)∧nH w (M++[.one false 0 (.ints k xs c)]) ρ' (vs++[v]) (as++[.sl M.length 0 0 xs.length c]):=by
 obtain⟨a,len,cap,rfl⟩:=okWide_slice ht gN
 obtain⟨fuel,hf⟩:=hd
 rcases open_ints ht he hc hf with⟨h0,_⟩|⟨a',UW,WI,zs,h0,_,tT,Sm,Ep,_,II,MT⟩
 ·simp[Value.cells]at h0
  obtain⟨rfl,rfl,rfl⟩:=h0
  obtain⟨h1,h2,h3⟩:=xC (x:=.ints k [] 0) (l:=none) h.OB h.no (.inr ⟨rfl,rfl,rfl⟩)
  refine⟨[],0,_,⟨Nat.le_refl _,by omega⟩,by simp,(h.grow h1 h2 h3).snoc (by simp[AV.ok,ar]) (by simp[AV.c,ar])⟩
 ·simp[Value.cells]at h0
  obtain⟨rfl,rfl,rfl⟩:=h0
  simp only[if_true]at Ep
  have PL:w.has P .any b0 a' e cap:=by
   simp only[Value.okWide,ht,Cell.okWide,Cell.ok]at gN
   exact gN.2.2
  obtain⟨MX,c,el,fr,dA,oA⟩:=EF PL
  obtain⟨b,off,sp⟩:=a'
  simp only at MX dA oA
  subst MX
  have IH:∀i,i<cap→c[off+i]?=some (.int k (zs.getD i 0)):=by
   intro i hi
   have:=II i (by omega)
   rw[bW]at this
   simpa[World.cell?,dA]using this
  have er:off+cap≤c.size:=by
   rcases Nat.eq_zero_or_pos cap with h0|h0
   ·omega
   ·have:=(Array.getElem?_eq_some_iff.1 (IH (cap-1) (by omega))).1
    omega
  have lK:(zs.take len).length=len:=by simp;omega
  obtain⟨h1,h2,h3⟩:=xC (x:=.ints k (zs.take len) cap) (l:=some (b,off)) h.OB h.no (.inl ⟨b,off,rfl,.mk' rfl ⟨c,el,fr,dA,er,fun i v hv=>by
   simp only[ae.at,Option.map_eq_some_iff]at hv
   obtain⟨z,hz,rfl⟩:=hv
   have hi:i<len:=by have:=(List.getElem?_eq_some_iff.1 hz).1;omega
   refine⟨trivial,?_⟩
   rw[IH i (by omega)]
   rw[List.getElem?_take,if_pos hi]at hz
   simp[AV.c,List.getD_eq_getElem?_getD,hz],fun h=>by cases h⟩⟩)
  refine⟨zs.take len,cap,_,⟨by omega,by unfold maxLen at Sm;omega⟩,fun x hx=>xk (MT x (List.mem_of_mem_take hx)),(h.grow h1 h2 h3).snoc (by simp[AV.ok,ar]) ?_⟩
  rw[lK];simp[AV.c,ar]
theorem nH.law {f:Nat}{M:AH}{ρ:Env}{vs:List Value}{as:List AV}(h:nH w M ρ vs as){args:Array Value}(jW:args.toList=vs)(hc:aa P f as M (fun r _=>r=.bo true) (fun _ _=>False)):
 Calls P f args w fun e w'=>e=.returned (.bool true)∧Below w.heap.size w w':=by
 have:=aa.law hc h.no h.OB h.ok
 rw[←h.eq,←jW]at this
 simpa using this
end
section
variable{H:Type}{enc:TypeId×Value→H}{P:Program}
theorem vb {f:Func}{s:ChangeSpec}{apart fresh handsOn again:Bool}{W W':World}{args:Array Value}{v:Value}{ds gs:List (DataW H)}{before pa pv:List MemPlace}
 (hW:DataW.Whole enc P f.params.toList s.vars apart W args.toList ds gs before)
 (rQ:∀(b:Nat)(sp:Nat→Bool)(hd:Bool),DataW.TrodAll enc P W' b sp hd f.resultTypes.toList (v.resultList f.resultTypes.size) (s.fn H (ds++gs)).results [])
 (jW:DataW.TrodAll enc P W' 0 (fun b=>decide (b<W.heap.size)) true f.params.toList args.toList (s.fn H (ds++gs)).args pa)
 (PZ:DataW.TrodAll enc P W' 0 (fun _=>true) true f.params.toList args.toList (s.fn H (ds++gs)).args pa)
 (MU:∀sp:Nat→Bool,DataW.TrodVars enc P W' sp s.vars (s.fn H (ds++gs)).vars pv)
 (Qu:before=pa++pv)(hb:Below W.heap.size W W')
 (aA:∀(j:Nat)(t:TypeId)(r:Value),f.resultTypes[j]?=some t→(v.resultList f.resultTypes.size)[j]?=some r→Value.okWide P W' .any 0 t r):
 s.post enc P f apart fresh handsOn again W args v W':=by
 have aZ:∀p∈before,p.block<W.heap.size:=fun p hp=>hW.lt p hp
 refine⟨ds,gs,before,[],pa,pv,hW,rQ _ _ _,jW,MU _,World.keptBut_mono (fun p hp=>⟨hp,?_⟩) (hb.frame (·∈before)),fun _=>?_⟩
 ·rw[Qu,List.mem_append]at hp
  exact Or.inr hp
 ·obtain⟨_,_,_,_,_,hz,hn⟩:=hW
  refine⟨aA,_,_,([]++pa)++pv,⟨[]++pa,pv,trodAll_append PZ (rQ _ _ _),MU _,rfl,?_,?_⟩,?_⟩
  ·intro b off hp
   have A6:MemPlace.cell b off∈before:=by rw[Qu];simpa using hp
   rw[hb.frozen (aZ _ A6)]
   exact hz b off A6
  ·intro ha
   have:=hn ha
   rw[Qu]at this
   simpa using this
  ·intro p hp _
   rw[Qu]
   simpa using hp
theorem jv (hl:laidOutB P=true){W W':World}(hb:Below W.heap.size W W')(sp:Nat→Bool)(MX:∀b,b<W.heap.size→sp b=true):
 ∀{ts:List TypeId}{vs:List Value}{ds:List (DataW H)}{ps:List MemPlace},ts.all (fun t=>P.readableRec t&&decide (t<P.types.size))=true→
  DataW.TrodAll enc P W 0 (fun _=>true) true ts vs ds ps→(∀x∈ps,x.block<W.heap.size)→DataW.TrodAll enc P W' 0 sp true ts vs ds ps
 |[],vs,ds,ps,_,h,_=>by
  cases vs<;>cases ds<;>simp[DataW.TrodAll]at h⊢
  exact h
 |t::ts,vs,ds,ps,hr,h,aZ=>by
  obtain⟨v,NK,d,ds',p,q,rfl,rfl,rfl,h1,h2⟩:=trodAll_cons h
  simp only[List.all_cons,Bool.and_eq_true,decide_eq_true_eq]at hr
  refine⟨p,q,?_,jv hl hb sp MX (by simpa using hr.2) h2 (fun x hx=>aZ x (by simp[hx])),rfl⟩
  exact WideElems.Trod_stays hl hr.1.1 hr.1.2 h1 (fun x hx=>hb.same (aZ x (by simp[hx]))) (fun x hx=>MX _ (aZ x (by simp[hx])))
theorem H4 (hl:laidOutB P=true){f:Func}{s:ChangeSpec}{apart fresh handsOn again:Bool}{W W':World}{args:Array Value}{ds:List (DataW H)}{before:List MemPlace}{tb:TypeId}
 (hW:DataW.Whole enc P f.params.toList s.vars apart W args.toList ds [] before)(hv:s.vars=[])
 (hr:f.params.toList.all (fun t=>P.readableRec t&&decide (t<P.types.size))=true)(Xh:f.resultTypes=#[tb])(Xg:P.underlying tb=some .bool)
 (hs:(s.fn H ds).results=[.lit (.bool true)]∧(s.fn H ds).args=ds∧(s.fn H ds).vars=[])(hb:Below W.heap.size W W'):
 s.post enc P f apart fresh handsOn again W args (.bool true) W':=by
 have aZ:∀p∈before,p.block<W.heap.size:=fun p hp=>hW.lt p hp
 have Zf:=hW
 obtain⟨p,q,hA,hV,rfl,_,_⟩:=hW
 rw[hv]at hV
 have hq:q=[]:=by simpa[DataW.TrodVars]using hV
 subst hq
 have BW:∀x∈p,x.block<W.heap.size:=fun x hx=>aZ x (by simp[hx])
 refine vb (pa:=p) (pv:=[]) Zf (fun b sp hd=>?_) ?_ ?_ (fun sp=>?_) rfl hb ?_
 ·rw[List.append_nil,hs.1,Xh]
  exact⟨[],[],shut_bool Xg true,rfl,rfl⟩
 ·rw[List.append_nil,hs.2.1]
  exact jv hl hb _ (fun b h=>by simpa using h) hr hA BW
 ·rw[List.append_nil,hs.2.1]
  exact jv hl hb _ (fun _ _=>rfl) hr hA BW
 ·rw[List.append_nil,hs.2.2,hv];rfl
 ·intro j t r hj Vh
  rw[Xh]at hj Vh
  match j with
  |0=>
   simp[Value.resultList]at hj Vh
   subst hj;subst Vh
   exact okWide_bool_mk Xg true
  |j+1=>simp at hj
end
end Go.Proofs.Ytibadaomjlkoaaa
