import Derived.Test.YtibadaomjlkoaaaAb18
import Derived.Carry
import Derived.ChangeSame
import Derived.ProofKit
import Derived.Deep.Slices
set_option linter.unusedVariables false
set_option linter.unusedSimpArgs false
open Go.ChangeShapes Go.WideShapes Go.ChangeAt Go.RowKit
namespace Go.Proofs.Ytibadaomjlkoaaa
theorem Iw {P:Program}{fits:TypeId→Bool}:∀{d:Nat}{e count off n:Nat},rowAt P fits d e count off n=true→off≤count*P.cellsOf e
 |0,e,count,off,n,h=>by simp[rowAt]at h
 |d+1,e,count,off,n,h=>by
  unfold rowAt at h
  simp only at h
  split at h
  ·cases h
  ·rename_i hs
   have cK:0<P.cellsOf e:=Nat.pos_of_ne_zero hs
   have hdm:=Nat.div_add_mod off (P.cellsOf e)
   simp only[Bool.or_eq_true,Bool.and_eq_true,decide_eq_true_eq,beq_iff_eq]at h
   rcases h with⟨⟨h1,h2⟩,_⟩|⟨h1,_⟩
   ·have:off/P.cellsOf e*P.cellsOf e≤count*P.cellsOf e:=Nat.mul_le_mul_right _ (by omega)
    rw[Nat.mul_comm (off/P.cellsOf e)]at this
    omega
   ·have:(off/P.cellsOf e+1)*P.cellsOf e≤count*P.cellsOf e:=Nat.mul_le_mul_right _ h1
    rw[Nat.add_mul,Nat.one_mul,Nat.mul_comm (off/P.cellsOf e)]at this
    have:=Nat.mod_lt off cK
    omega
theorem xe {P:Program}:∀{d:Nat}{e count off u n:Nat},liesAt P d e count off u n=true→off≤count*P.cellsOf e
 |0,e,count,off,u,n,h=>by simp[liesAt]at h
 |d+1,e,count,off,u,n,h=>by
  unfold liesAt at h
  simp only[Bool.or_eq_true]at h
  rcases h with h|h
  ·exact Iw h
  ·split at h
   ·exact xe h
   ·cases h
theorem FD {P:Program}{w:World}{r:Reach}{base:Nat}{a:Addr}{e n:Nat}(h:w.has P r base a e n):a.spot=none∧∃c el fr,w.heap[a.block]?=some (.cells c el fr)∧a.off≤c.size:=by
 obtain⟨_,hs,row,cells,h1,h2⟩:=h
 refine⟨hs,?_⟩
 have hle:=xe h2
 unfold World.shape? at h1
 split at h1
 ·rename_i c el fr hc
  injection h1 with h1;injection h1 with e1 e2
  subst e1;subst e2
  refine⟨c,el,fr,hc,Nat.le_trans hle ?_⟩
  rw[Nat.mul_comm];exact Nat.mul_div_le _ _
 ·cases h1
theorem ya {ρ:Env}{M:AH}{w:World}{x:af}{l:Option (Nat×Nat)}(h:aU ρ M w)(hn:oC M=true)
 (hl:(∃b base,l=some (b,base)∧bO (j8 ρ M.length 0 l) false x b base w)∨(l=none∧x.bP)):
 aU (j8 ρ M.length 0 l) (M++[.one false 0 x]) w∧oC (M++[.one false 0 x])=true∧∀i g l',ρ i g=some l'→j8 ρ M.length 0 l i g=some l':=by
 have jM:∀g,(ρ M.length g).isSome=false:=fun g=>by
  cases hh:(ρ M.length g).isSome with
  |false=>rfl
  |true=>exact absurd (h.n8 _ _ hh) (Nat.lt_irrefl _)
 have jZ:=dx (l:=l) (jM 0)
 have rY:∀M:AH,oC M=true→oC (M++[.one false 0 x])=true:=by
  intro M
  induction M with
  |nil=>intro _;rfl
  |cons o M ih=>
   intro h
   cases o with
   |gone=>exact ih h
   |one own g y=>cases own with
    |true=>cases h
    |false=>exact ih h
   |bG own m y=>cases own with
    |true=>cases h
    |false=>exact ih h
 have BN:=rY M hn
 have Ft:∀{i g own y},slot (M++[AO.one false 0 x]) i g=some (own,y)→(slot M i g=some (own,y)∧i<M.length)∨(i=M.length∧g=0∧own=false∧y=x):=by
  intro i g own y hs
  unfold slot at hs⊢
  rcases Nat.lt_trichotomy i M.length with a9|rfl|Hc
  ·rw[List.getElem?_append_left a9]at hs;exact .inl ⟨hs,a9⟩
  ·rw[List.getElem?_append_right (Nat.le_refl _)]at hs
   simp only[Nat.sub_self,List.getElem?_cons_zero,bc]at hs
   split at hs
   ·injection hs with hs;injection hs with e1 e2;exact .inr ⟨rfl,‹_›,e1.symm,e2.symm⟩
   ·cases hs
  ·rw[List.getElem?_eq_none (by simp;omega)]at hs;cases hs
 refine⟨⟨?_,?_,?_,?_,?_⟩,BN,jZ⟩
 ·intro i g hi
  rcases dM i g hi with h1|⟨rfl,_⟩
  ·have:=h.n8 i g h1;simp;omega
  ·simp
 ·intro i g own g' y hm hi
  rcases dM i g hi with h1|⟨rfl,rfl⟩
  ·have a9:=h.n8 i g h1
   rw[List.getElem?_append_left a9]at hm
   exact h.tag i g own g' y hm h1
  ·exact Nat.zero_le _
 ·intro i g own m y hm hi
  rcases dM i g hi with h1|⟨rfl,rfl⟩
  ·have a9:=h.n8 i g h1
   rw[List.getElem?_append_left a9]at hm
   exact h.bG i g own m y hm h1
  ·rw[List.getElem?_append_right (Nat.le_refl _)]at hm;simp at hm
 ·intro i g own y hs
  rcases Ft hs with⟨h1,_⟩|⟨rfl,rfl,rfl,rfl⟩
  ·rcases h.holds i g own y h1 with⟨q,e1,e2⟩|⟨e1,e2⟩
   ·exact .inl ⟨q,jZ _ _ _ e1,e2.ext jZ rfl⟩
   ·exact .inr ⟨jZ _ _ _ e1,e2⟩
  ·rcases hl with⟨b,base,rfl,h2⟩|⟨rfl,h2⟩
   ·exact .inl ⟨(b,base),au _ _ _ _,h2⟩
   ·exact .inr ⟨au _ _ _ _,h2⟩
 ·intro i g y i' g' bt y' q q' hs
  exact absurd hs (o6 BN)
theorem Ln (w:World):aU (fun _ _=>none) [] w:=
 ⟨fun i g h=>by simp at h,fun i g own g' x h=>by simp at h,fun i g own m x h=>by simp at h,fun i g own x h=>by simp[slot]at h,fun i g x i' g' bt x' q q' h=>by simp[slot]at h⟩
structure ot (w:World)(M:AH)(ρ:Env)(vs:List Value)(as:List AV):Prop where
 Qe:aU ρ M w
 no:oC M=true
 ok:AV.dK ρ as
 eq:vs=AV.cl ρ as
theorem ot.nil (w:World):ot w [] (fun _ _=>none) [] []:=⟨Ln w,rfl,trivial,rfl⟩
theorem ot.snoc {w:World}{M:AH}{ρ:Env}{vs:List Value}{as:List AV}(h:ot w M ρ vs as){v:Value}{a:AV}(aA:a.ok ρ)(hv:v=a.c ρ):ot w M ρ (vs++[v]) (as++[a]):=by
 refine⟨h.Qe,h.no,?_,?_⟩
 ·exact iU h.ok ⟨aA,trivial⟩
 ·rw[fV,←h.eq,hv];rfl
theorem ot.grow {w:World}{M M':AH}{ρ ρ':Env}{vs:List Value}{as:List AV}(h:ot w M ρ vs as)(hs:aU ρ' M' w)(hn:oC M'=true)(he:∀i g l,ρ i g=some l→ρ' i g=some l):ot w M' ρ' vs as:=
 ⟨hs,hn,AV.gm he as h.ok,by rw[h.eq,AV.j7 he as h.ok]⟩
section
variable{H:Type}{enc:TypeId×Value→H}{P:Program}{w:World}
theorem xR {k:IntKind}{n:Int}(h:(Lit.int k n).wf=true):k.min≤n∧n≤k.max:=by
 simpa[Lit.wf]using h
theorem ot.int {b0:Nat}{M:AH}{ρ:Env}{vs:List Value}{as:List AV}(h:ot w M ρ vs as){t:TypeId}{k:IntKind}{v:Value}{d:DataW H}{ps:List MemPlace}(ht:P.underlying t=some (.int k))(gW:Value.okWide P w .any b0 t v)(hd:DataW.Trod enc P w 0 (fun _=>true) true t v d ps):
 ∃n,(k.min≤n∧n≤k.max)∧ot w M ρ (vs++[v]) (as++[.int k n]):=by
 obtain⟨n,rfl,_,_,hw⟩:=open_int ht gW hd
 exact⟨n,xR hw,h.snoc trivial rfl⟩
theorem ot.bool {b0:Nat}{M:AH}{ρ:Env}{vs:List Value}{as:List AV}(h:ot w M ρ vs as){t:TypeId}{v:Value}{d:DataW H}{ps:List MemPlace}(ht:P.underlying t=some .bool)(gW:Value.okWide P w .any b0 t v)(hd:DataW.Trod enc P w 0 (fun _=>true) true t v d ps):
 ∃b,ot w M ρ (vs++[v]) (as++[.bo b]):=by
 obtain⟨b,rfl,_⟩:=open_bool ht gW hd
 exact⟨b,h.snoc trivial rfl⟩
theorem ot.ints {b0:Nat}{M:AH}{ρ:Env}{vs:List Value}{as:List AV}(h:ot w M ρ vs as){t e:TypeId}{k:IntKind}{v:Value}{d:DataW H}{ps:List MemPlace}(ht:P.underlying t=some (.slice e))(he:P.underlying e=some (.int k))(hc:P.cellsOf e=1)
 (gW:Value.okWide P w .any b0 t v)(hd:DataW.Trod enc P w 0 (fun _=>true) true t v d ps):
 ∃xs c ρ',(xs.length≤c∧c≤9223372036854775807)∧(∀x∈xs,k.min≤x∧x≤k.max)∧ot w (M++[.one false 0 (.ints k xs c)]) ρ' (vs++[v]) (as++[.sl M.length 0 0 xs.length c]):=by
 obtain⟨a,len,cap,rfl⟩:=okWide_slice ht gW
 obtain⟨fuel,hf⟩:=hd
 rcases open_ints ht he hc hf with⟨h0,_⟩|⟨a',WH,Yu,zs,h0,_,uJ,T5,Fq,_,JU,Ow⟩
 ·simp[Value.cells]at h0
  obtain⟨rfl,rfl,rfl⟩:=h0
  obtain⟨h1,h2,h3⟩:=ya (x:=.ints k [] 0) (l:=none) h.Qe h.no (.inr ⟨rfl,rfl,rfl⟩)
  refine⟨[],0,_,⟨Nat.le_refl _,by omega⟩,by simp,(h.grow h1 h2 h3).snoc (by simp[AV.ok,au]) (by simp[AV.c,au])⟩
 ·simp[Value.cells]at h0
  obtain⟨rfl,rfl,rfl⟩:=h0
  simp only[if_true]at Fq
  have Rj:w.has P .any b0 a' e cap:=by
   simp only[Value.okWide,ht,Cell.okWide,Cell.ok]at gW
   exact gW.2.2
  obtain⟨Jr,c,el,fr,dJ,pg⟩:=FD Rj
  obtain⟨b,off,sp⟩:=a'
  simp only at Jr dJ pg
  subst Jr
  have JT:∀i,i<cap→c[off+i]?=some (.int k (zs.getD i 0)):=by
   intro i hi
   have:=JU i (by omega)
   rw[cf]at this
   simpa[World.cell?,dJ]using this
  have eJ:off+cap≤c.size:=by
   rcases Nat.eq_zero_or_pos cap with h0|h0
   ·omega
   ·have:=(Array.getElem?_eq_some_iff.1 (JT (cap-1) (by omega))).1
    omega
  have lY:(zs.take len).length=len:=by simp;omega
  obtain⟨h1,h2,h3⟩:=ya (x:=.ints k (zs.take len) cap) (l:=some (b,off)) h.Qe h.no (.inl ⟨b,off,rfl,.mk' rfl ⟨c,el,fr,dJ,eJ,fun i v hv=>by
   simp only[af.at,Option.map_eq_some_iff]at hv
   obtain⟨z,hz,rfl⟩:=hv
   have hi:i<len:=by have:=(List.getElem?_eq_some_iff.1 hz).1;omega
   refine⟨trivial,?_⟩
   rw[JT i (by omega)]
   rw[List.getElem?_take,if_pos hi]at hz
   simp[AV.c,List.getD_eq_getElem?_getD,hz],fun h=>by cases h⟩⟩)
  refine⟨zs.take len,cap,_,⟨by omega,by unfold maxLen at T5;omega⟩,fun x hx=>xR (Ow x (List.mem_of_mem_take hx)),(h.grow h1 h2 h3).snoc (by simp[AV.ok,au]) ?_⟩
  rw[lY];simp[AV.c,au]
theorem ot.law {f:Nat}{M:AH}{ρ:Env}{vs:List Value}{as:List AV}(h:ot w M ρ vs as){args:Array Value}(jO:args.toList=vs)(hc:aa P f as M (fun r _=>r=.bo true) (fun _ _=>False)):
 Calls P f args w fun e w'=>e=.returned (.bool true)∧Below w.heap.size w w':=by
 have:=aa.law hc h.no h.Qe h.ok
 rw[←h.eq,←jO]at this
 simpa using this
end
section
variable{H:Type}{enc:TypeId×Value→H}{P:Program}
theorem vL {f:Func}{s:ChangeSpec}{apart fresh handsOn again:Bool}{W W':World}{args:Array Value}{v:Value}{ds gs:List (DataW H)}{before pa pv:List MemPlace}
 (hW:DataW.Whole enc P f.params.toList s.vars apart W args.toList ds gs before)
 (sx:∀(b:Nat)(sp:Nat→Bool)(hd:Bool),DataW.TrodAll enc P W' b sp hd f.resultTypes.toList (v.resultList f.resultTypes.size) (s.fn H (ds++gs)).results [])
 (jO:DataW.TrodAll enc P W' 0 (fun b=>decide (b<W.heap.size)) true f.params.toList args.toList (s.fn H (ds++gs)).args pa)
 (Rx:DataW.TrodAll enc P W' 0 (fun _=>true) true f.params.toList args.toList (s.fn H (ds++gs)).args pa)
 (Ox:∀sp:Nat→Bool,DataW.TrodVars enc P W' sp s.vars (s.fn H (ds++gs)).vars pv)
 (Sa:before=pa++pv)(hb:Below W.heap.size W W')
 (aA:∀(j:Nat)(t:TypeId)(r:Value),f.resultTypes[j]?=some t→(v.resultList f.resultTypes.size)[j]?=some r→Value.okWide P W' .any 0 t r):
 s.post enc P f apart fresh handsOn again W args v W':=by
 have a9:∀p∈before,p.block<W.heap.size:=fun p hp=>hW.lt p hp
 refine⟨ds,gs,before,[],pa,pv,hW,sx _ _ _,jO,Ox _,World.keptBut_mono (fun p hp=>⟨hp,?_⟩) (hb.frame (·∈before)),fun _=>?_⟩
 ·rw[Sa,List.mem_append]at hp
  exact Or.inr hp
 ·obtain⟨_,_,_,_,_,hz,hn⟩:=hW
  refine⟨aA,_,_,([]++pa)++pv,⟨[]++pa,pv,trodAll_append Rx (sx _ _ _),Ox _,rfl,?_,?_⟩,?_⟩
  ·intro b off hp
   have BP:MemPlace.cell b off∈before:=by rw[Sa];simpa using hp
   rw[hb.frozen (a9 _ BP)]
   exact hz b off BP
  ·intro ha
   have:=hn ha
   rw[Sa]at this
   simpa using this
  ·intro p hp _
   rw[Sa]
   simpa using hp
theorem jT (hl:laidOutB P=true){W W':World}(hb:Below W.heap.size W W')(sp:Nat→Bool)(Jr:∀b,b<W.heap.size→sp b=true):
 ∀{ts:List TypeId}{vs:List Value}{ds:List (DataW H)}{ps:List MemPlace},ts.all (fun t=>P.readableRec t&&decide (t<P.types.size))=true→
  DataW.TrodAll enc P W 0 (fun _=>true) true ts vs ds ps→(∀x∈ps,x.block<W.heap.size)→DataW.TrodAll enc P W' 0 sp true ts vs ds ps
 |[],vs,ds,ps,_,h,_=>by
  cases vs<;>cases ds<;>simp[DataW.TrodAll]at h⊢
  exact h
 |t::ts,vs,ds,ps,hr,h,a9=>by
  obtain⟨v,Ph,d,ds',p,q,rfl,rfl,rfl,h1,h2⟩:=trodAll_cons h
  simp only[List.all_cons,Bool.and_eq_true,decide_eq_true_eq]at hr
  refine⟨p,q,?_,jT hl hb sp Jr (by simpa using hr.2) h2 (fun x hx=>a9 x (by simp[hx])),rfl⟩
  exact WideElems.Trod_stays hl hr.1.1 hr.1.2 h1 (fun x hx=>hb.same (a9 x (by simp[hx]))) (fun x hx=>Jr _ (a9 x (by simp[hx])))
theorem Ji (hl:laidOutB P=true){f:Func}{s:ChangeSpec}{apart fresh handsOn again:Bool}{W W':World}{args:Array Value}{ds:List (DataW H)}{before:List MemPlace}{tb:TypeId}
 (hW:DataW.Whole enc P f.params.toList s.vars apart W args.toList ds [] before)(hv:s.vars=[])
 (hr:f.params.toList.all (fun t=>P.readableRec t&&decide (t<P.types.size))=true)(YZ:f.resultTypes=#[tb])(YY:P.underlying tb=some .bool)
 (hs:(s.fn H ds).results=[.lit (.bool true)]∧(s.fn H ds).args=ds∧(s.fn H ds).vars=[])(hb:Below W.heap.size W W'):
 s.post enc P f apart fresh handsOn again W args (.bool true) W':=by
 have a9:∀p∈before,p.block<W.heap.size:=fun p hp=>hW.lt p hp
 have hW0:=hW
 obtain⟨p,q,hA,hV,rfl,_,_⟩:=hW
 rw[hv]at hV
 have hq:q=[]:=by simpa[DataW.TrodVars]using hV
 subst hq
 have CI:∀x∈p,x.block<W.heap.size:=fun x hx=>a9 x (by simp[hx])
 refine vL (pa:=p) (pv:=[]) hW0 (fun b sp hd=>?_) ?_ ?_ (fun sp=>?_) rfl hb ?_
 ·rw[List.append_nil,hs.1,YZ]
  exact⟨[],[],shut_bool YY true,rfl,rfl⟩
 ·rw[List.append_nil,hs.2.1]
  exact jT hl hb _ (fun b h=>by simpa using h) hr hA CI
 ·rw[List.append_nil,hs.2.1]
  exact jT hl hb _ (fun _ _=>rfl) hr hA CI
 ·rw[List.append_nil,hs.2.2,hv];rfl
 ·intro j t r hj W6
  rw[YZ]at hj W6
  match j with
  |0=>
   simp[Value.resultList]at hj W6
   subst hj;subst W6
   exact okWide_bool_mk YY true
  |j+1=>simp at hj
end
end Go.Proofs.Ytibadaomjlkoaaa
