import Derived.Test.YtibadaomjlkoaaaAb18
import Derived.Carry
import Derived.ChangeSame
import Derived.ProofKit
import Derived.Deep.Slices
set_option linter.unusedVariables false
set_option linter.unusedSimpArgs false
open Go.ChangeShapes Go.WideShapes Go.ChangeAt Go.RowKit
namespace Go.Proofs.Ytibadaomjlkoaaa
theorem KE {P:Program}{fits:TypeId→Bool}:∀{d:Nat}{e count off n:Nat},rowAt P fits d e count off n=true→off≤count*P.cellsOf e
 |0,e,count,off,n,h=>by simp[rowAt]at h
 |d+1,e,count,off,n,h=>by
  unfold rowAt at h
  simp only at h
  split at h
  ·cases h
  ·rename_i hs
   have cY:0<P.cellsOf e:=Nat.pos_of_ne_zero hs
   have hdm:=Nat.div_add_mod off (P.cellsOf e)
   simp only[Bool.or_eq_true,Bool.and_eq_true,decide_eq_true_eq,beq_iff_eq]at h
   rcases h with⟨⟨h1,h2⟩,_⟩|⟨h1,_⟩
   ·have:off/P.cellsOf e*P.cellsOf e≤count*P.cellsOf e:=Nat.mul_le_mul_right _ (by omega)
    rw[Nat.mul_comm (off/P.cellsOf e)]at this
    omega
   ·have:(off/P.cellsOf e+1)*P.cellsOf e≤count*P.cellsOf e:=Nat.mul_le_mul_right _ h1
    rw[Nat.add_mul,Nat.one_mul,Nat.mul_comm (off/P.cellsOf e)]at this
    have:=Nat.mod_lt off cY
    omega
theorem yS {P:Program}:∀{d:Nat}{e count off u n:Nat},liesAt P d e count off u n=true→off≤count*P.cellsOf e
 |0,e,count,off,u,n,h=>by simp[liesAt]at h
 |d+1,e,count,off,u,n,h=>by
  unfold liesAt at h
  simp only[Bool.or_eq_true]at h
  rcases h with h|h
  ·exact KE h
  ·split at h
   ·exact yS h
   ·cases h
theorem HG {P:Program}{w:World}{r:Reach}{base:Nat}{a:Addr}{e n:Nat}(h:w.has P r base a e n):a.spot=none∧∃c el fr,w.heap[a.block]?=some (.cells c el fr)∧a.off≤c.size:=by
 obtain⟨_,hs,row,cells,h1,h2⟩:=h
 refine⟨hs,?_⟩
 have hle:=yS h2
 unfold World.shape? at h1
 split at h1
 ·rename_i c el fr hc
  injection h1 with h1;injection h1 with e1 e2
  subst e1;subst e2
  refine⟨c,el,fr,hc,Nat.le_trans hle ?_⟩
  rw[Nat.mul_comm];exact Nat.mul_div_le _ _
 ·cases h1
theorem zU {ρ:Env}{M:AH}{w:World}{x:af}{l:Option (Nat×Nat)}(h:aW ρ M w)(hn:pM M=true)
 (hl:(∃b base,l=some (b,base)∧b8 (kO ρ M.length 0 l) false x b base w)∨(l=none∧x.b9)):
 aW (kO ρ M.length 0 l) (M++[.one false 0 x]) w∧pM (M++[.one false 0 x])=true∧∀i g l',ρ i g=some l'→kO ρ M.length 0 l i g=some l':=by
 have ku:∀g,(ρ M.length g).isSome=false:=fun g=>by
  cases hh:(ρ M.length g).isSome with
  |false=>rfl
  |true=>exact absurd (h.pr _ _ hh) (Nat.lt_irrefl _)
 have kK:=dI (l:=l) (ku 0)
 have tL:∀M:AH,pM M=true→pM (M++[.one false 0 x])=true:=by
  intro M
  induction M with
  |nil=>intro _;rfl
  |cons o M ih=>
   intro h
   cases o with
   |gone=>exact ih h
   |one own g y=>cases own with
    |true=>cases h
    |false=>exact ih h
   |aX own m y=>cases own with
    |true=>cases h
    |false=>exact ih h
 have Bl:=tL M hn
 have Hx:∀{i g own y},slot (M++[AO.one false 0 x]) i g=some (own,y)→(slot M i g=some (own,y)∧i<M.length)∨(i=M.length∧g=0∧own=false∧y=x):=by
  intro i g own y hs
  unfold slot at hs⊢
  rcases Nat.lt_trichotomy i M.length with bh|rfl|Jn
  ·rw[List.getElem?_append_left bh]at hs;exact .inl ⟨hs,bh⟩
  ·rw[List.getElem?_append_right (Nat.le_refl _)]at hs
   simp only[Nat.sub_self,List.getElem?_cons_zero,bq]at hs
   split at hs
   ·injection hs with hs;injection hs with e1 e2;exact .inr ⟨rfl,‹_›,e1.symm,e2.symm⟩
   ·cases hs
  ·rw[List.getElem?_eq_none (by simp;omega)]at hs;cases hs
 refine⟨⟨?_,?_,?_,?_,?_⟩,Bl,kK⟩
 ·intro i g hi
  rcases ek i g hi with h1|⟨rfl,_⟩
  ·have:=h.pr i g h1;simp;omega
  ·simp
 ·intro i g own g' y hm hi
  rcases ek i g hi with h1|⟨rfl,rfl⟩
  ·have bh:=h.pr i g h1
   rw[List.getElem?_append_left bh]at hm
   exact h.tag i g own g' y hm h1
  ·exact Nat.zero_le _
 ·intro i g own m y hm hi
  rcases ek i g hi with h1|⟨rfl,rfl⟩
  ·have bh:=h.pr i g h1
   rw[List.getElem?_append_left bh]at hm
   exact h.aX i g own m y hm h1
  ·rw[List.getElem?_append_right (Nat.le_refl _)]at hm;simp at hm
 ·intro i g own y hs
  rcases Hx hs with⟨h1,_⟩|⟨rfl,rfl,rfl,rfl⟩
  ·rcases h.holds i g own y h1 with⟨q,e1,e2⟩|⟨e1,e2⟩
   ·exact .inl ⟨q,kK _ _ _ e1,e2.ext kK rfl⟩
   ·exact .inr ⟨kK _ _ _ e1,e2⟩
  ·rcases hl with⟨b,base,rfl,h2⟩|⟨rfl,h2⟩
   ·exact .inl ⟨(b,base),ay _ _ _ _,h2⟩
   ·exact .inr ⟨ay _ _ _ _,h2⟩
 ·intro i g y i' g' bJ y' q q' hs
  exact absurd hs (qg Bl)
theorem NN (w:World):aW (fun _ _=>none) [] w:=
 ⟨fun i g h=>by simp at h,fun i g own g' x h=>by simp at h,fun i g own m x h=>by simp at h,fun i g own x h=>by simp[slot]at h,fun i g x i' g' bJ x' q q' h=>by simp[slot]at h⟩
structure pG (w:World)(M:AH)(ρ:Env)(vs:List Value)(as:List AV):Prop where
 S1:aW ρ M w
 no:pM M=true
 ok:AV.eb ρ as
 eq:vs=AV.cl ρ as
theorem pG.nil (w:World):pG w [] (fun _ _=>none) [] []:=⟨NN w,rfl,trivial,rfl⟩
theorem pG.snoc {w:World}{M:AH}{ρ:Env}{vs:List Value}{as:List AV}(h:pG w M ρ vs as){v:Value}{a:AV}(aF:a.ok ρ)(hv:v=a.c ρ):pG w M ρ (vs++[v]) (as++[a]):=by
 refine⟨h.S1,h.no,?_,?_⟩
 ·exact jB h.ok ⟨aF,trivial⟩
 ·rw[gW,←h.eq,hv];rfl
theorem pG.grow {w:World}{M M':AH}{ρ ρ':Env}{vs:List Value}{as:List AV}(h:pG w M ρ vs as)(hs:aW ρ' M' w)(hn:pM M'=true)(he:∀i g l,ρ i g=some l→ρ' i g=some l):pG w M' ρ' vs as:=
 ⟨hs,hn,AV.hU he as h.ok,by rw[h.eq,AV.kM he as h.ok]⟩
section
variable{H:Type}{enc:TypeId×Value→H}{P:Program}{w:World}
theorem zz {k:IntKind}{n:Int}(h:(Lit.int k n).wf=true):k.min≤n∧n≤k.max:=by
 simpa[Lit.wf]using h
theorem pG.int {b0:Nat}{M:AH}{ρ:Env}{vs:List Value}{as:List AV}(h:pG w M ρ vs as){t:TypeId}{k:IntKind}{v:Value}{d:DataW H}{ps:List MemPlace}(ht:P.underlying t=some (.int k))(iN:Value.okWide P w .any b0 t v)(hd:DataW.Trod enc P w 0 (fun _=>true) true t v d ps):
 ∃n,(k.min≤n∧n≤k.max)∧pG w M ρ (vs++[v]) (as++[.int k n]):=by
 obtain⟨n,rfl,_,_,hw⟩:=open_int ht iN hd
 exact⟨n,zz hw,h.snoc trivial rfl⟩
theorem pG.bool {b0:Nat}{M:AH}{ρ:Env}{vs:List Value}{as:List AV}(h:pG w M ρ vs as){t:TypeId}{v:Value}{d:DataW H}{ps:List MemPlace}(ht:P.underlying t=some .bool)(iN:Value.okWide P w .any b0 t v)(hd:DataW.Trod enc P w 0 (fun _=>true) true t v d ps):
 ∃b,pG w M ρ (vs++[v]) (as++[.bo b]):=by
 obtain⟨b,rfl,_⟩:=open_bool ht iN hd
 exact⟨b,h.snoc trivial rfl⟩
theorem pG.ints {b0:Nat}{M:AH}{ρ:Env}{vs:List Value}{as:List AV}(h:pG w M ρ vs as){t e:TypeId}{k:IntKind}{v:Value}{d:DataW H}{ps:List MemPlace}(ht:P.underlying t=some (.slice e))(he:P.underlying e=some (.int k))(hc:P.cellsOf e=1)
 (iN:Value.okWide P w .any b0 t v)(hd:DataW.Trod enc P w 0 (fun _=>true) true t v d ps):
 ∃xs c ρ',(xs.length≤c∧c≤9223372036854775807)∧(∀x∈xs,k.min≤x∧x≤k.max)∧pG w (M++[.one false 0 (.ints k xs c)]) ρ' (vs++[v]) (as++[.sl M.length 0 0 xs.length c]):=by
 obtain⟨a,len,cap,rfl⟩:=okWide_slice ht iN
 obtain⟨fuel,hf⟩:=hd
 rcases open_ints ht he hc hf with⟨h0,_⟩|⟨a',ZS,aaP,zs,h0,_,tM,WZ,Ep,_,L9,Q1⟩
 ·simp[Value.cells]at h0
  obtain⟨rfl,rfl,rfl⟩:=h0
  obtain⟨h1,h2,h3⟩:=zU (x:=.ints k [] 0) (l:=none) h.S1 h.no (.inr ⟨rfl,rfl,rfl⟩)
  refine⟨[],0,_,⟨Nat.le_refl _,by omega⟩,by simp,(h.grow h1 h2 h3).snoc (by simp[AV.ok,ay]) (by simp[AV.c,ay])⟩
 ·simp[Value.cells]at h0
  obtain⟨rfl,rfl,rfl⟩:=h0
  simp only[if_true]at Ep
  have T9:w.has P .any b0 a' e cap:=by
   simp only[Value.okWide,ht,Cell.okWide,Cell.ok]at iN
   exact iN.2.2
  obtain⟨Q5,c,el,fr,dY,m8⟩:=HG T9
  obtain⟨b,off,sp⟩:=a'
  simp only at Q5 dY m8
  subst Q5
  have L8:∀i,i<cap→c[off+i]?=some (.int k (zs.getD i 0)):=by
   intro i hi
   have:=L9 i (by omega)
   rw[cn]at this
   simpa[World.cell?,dY]using this
  have fb:off+cap≤c.size:=by
   rcases Nat.eq_zero_or_pos cap with h0|h0
   ·omega
   ·have:=(Array.getElem?_eq_some_iff.1 (L8 (cap-1) (by omega))).1
    omega
  have m7:(zs.take len).length=len:=by simp;omega
  obtain⟨h1,h2,h3⟩:=zU (x:=.ints k (zs.take len) cap) (l:=some (b,off)) h.S1 h.no (.inl ⟨b,off,rfl,.mk' rfl ⟨c,el,fr,dY,fb,fun i v hv=>by
   simp only[af.at,Option.map_eq_some_iff]at hv
   obtain⟨z,hz,rfl⟩:=hv
   have hi:i<len:=by have:=(List.getElem?_eq_some_iff.1 hz).1;omega
   refine⟨trivial,?_⟩
   rw[L8 i (by omega)]
   rw[List.getElem?_take,if_pos hi]at hz
   simp[AV.c,List.getD_eq_getElem?_getD,hz],fun h=>by cases h⟩⟩)
  refine⟨zs.take len,cap,_,⟨by omega,by unfold maxLen at WZ;omega⟩,fun x hx=>zz (Q1 x (List.mem_of_mem_take hx)),(h.grow h1 h2 h3).snoc (by simp[AV.ok,ay]) ?_⟩
  rw[m7];simp[AV.c,ay]
theorem pG.law {f:Nat}{M:AH}{ρ:Env}{vs:List Value}{as:List AV}(h:pG w M ρ vs as){args:Array Value}(kz:args.toList=vs)(hc:aa P f as M (fun r _=>r=.bo true) (fun _ _=>False)):
 Calls P f args w fun e w'=>e=.returned (.bool true)∧Below w.heap.size w w':=by
 have:=aa.law hc h.no h.S1 h.ok
 rw[←h.eq,←kz]at this
 simpa using this
end
section
variable{H:Type}{enc:TypeId×Value→H}{P:Program}
theorem xE {f:Func}{s:ChangeSpec}{apart fresh handsOn again:Bool}{W W':World}{args:Array Value}{v:Value}{ds gs:List (DataW H)}{before pa pv:List MemPlace}
 (hW:DataW.Whole enc P f.params.toList s.vars apart W args.toList ds gs before)
 (ui:∀(b:Nat)(sp:Nat→Bool)(hd:Bool),DataW.TrodAll enc P W' b sp hd f.resultTypes.toList (v.resultList f.resultTypes.size) (s.fn H (ds++gs)).results [])
 (kz:DataW.TrodAll enc P W' 0 (fun b=>decide (b<W.heap.size)) true f.params.toList args.toList (s.fn H (ds++gs)).args pa)
 (Un:DataW.TrodAll enc P W' 0 (fun _=>true) true f.params.toList args.toList (s.fn H (ds++gs)).args pa)
 (Q2:∀sp:Nat→Bool,DataW.TrodVars enc P W' sp s.vars (s.fn H (ds++gs)).vars pv)
 (UW:before=pa++pv)(hb:Below W.heap.size W W')
 (aF:∀(j:Nat)(t:TypeId)(r:Value),f.resultTypes[j]?=some t→(v.resultList f.resultTypes.size)[j]?=some r→Value.okWide P W' .any 0 t r):
 s.post enc P f apart fresh handsOn again W args v W':=by
 have bh:∀p∈before,p.block<W.heap.size:=fun p hp=>hW.lt p hp
 refine⟨ds,gs,before,[],pa,pv,hW,ui _ _ _,kz,Q2 _,World.keptBut_mono (fun p hp=>⟨hp,?_⟩) (hb.frame (·∈before)),fun _=>?_⟩
 ·rw[UW,List.mem_append]at hp
  exact Or.inr hp
 ·obtain⟨_,_,_,_,_,hz,hn⟩:=hW
  refine⟨aF,_,_,([]++pa)++pv,⟨[]++pa,pv,trodAll_append Un (ui _ _ _),Q2 _,rfl,?_,?_⟩,?_⟩
  ·intro b off hp
   have Bn:MemPlace.cell b off∈before:=by rw[UW];simpa using hp
   rw[hb.frozen (bh _ Bn)]
   exact hz b off Bn
  ·intro ha
   have:=hn ha
   rw[UW]at this
   simpa using this
  ·intro p hp _
   rw[UW]
   simpa using hp
theorem kD (hl:laidOutB P=true){W W':World}(hb:Below W.heap.size W W')(sp:Nat→Bool)(Q5:∀b,b<W.heap.size→sp b=true):
 ∀{ts:List TypeId}{vs:List Value}{ds:List (DataW H)}{ps:List MemPlace},ts.all (fun t=>P.readableRec t&&decide (t<P.types.size))=true→
  DataW.TrodAll enc P W 0 (fun _=>true) true ts vs ds ps→(∀x∈ps,x.block<W.heap.size)→DataW.TrodAll enc P W' 0 sp true ts vs ds ps
 |[],vs,ds,ps,_,h,_=>by
  cases vs<;>cases ds<;>simp[DataW.TrodAll]at h⊢
  exact h
 |t::ts,vs,ds,ps,hr,h,bh=>by
  obtain⟨v,RZ,d,ds',p,q,rfl,rfl,rfl,h1,h2⟩:=trodAll_cons h
  simp only[List.all_cons,Bool.and_eq_true,decide_eq_true_eq]at hr
  refine⟨p,q,?_,kD hl hb sp Q5 (by simpa using hr.2) h2 (fun x hx=>bh x (by simp[hx])),rfl⟩
  exact WideElems.Trod_stays hl hr.1.1 hr.1.2 h1 (fun x hx=>hb.same (bh x (by simp[hx]))) (fun x hx=>Q5 _ (bh x (by simp[hx])))
theorem Ls (hl:laidOutB P=true){f:Func}{s:ChangeSpec}{apart fresh handsOn again:Bool}{W W':World}{args:Array Value}{ds:List (DataW H)}{before:List MemPlace}{tb:TypeId}
 (hW:DataW.Whole enc P f.params.toList s.vars apart W args.toList ds [] before)(hv:s.vars=[])
 (hr:f.params.toList.all (fun t=>P.readableRec t&&decide (t<P.types.size))=true)(hrt:f.resultTypes=#[tb])(htb:P.underlying tb=some .bool)
 (hs:(s.fn H ds).results=[.lit (.bool true)]∧(s.fn H ds).args=ds∧(s.fn H ds).vars=[])(hb:Below W.heap.size W W'):
 s.post enc P f apart fresh handsOn again W args (.bool true) W':=by
 have bh:∀p∈before,p.block<W.heap.size:=fun p hp=>hW.lt p hp
 have hW0:=hW
 obtain⟨p,q,hA,hV,rfl,_,_⟩:=hW
 rw[hv]at hV
 have hq:q=[]:=by simpa[DataW.TrodVars]using hV
 subst hq
 have EC:∀x∈p,x.block<W.heap.size:=fun x hx=>bh x (by simp[hx])
 refine xE (pa:=p) (pv:=[]) hW0 (fun b sp hd=>?_) ?_ ?_ (fun sp=>?_) rfl hb ?_
 ·rw[List.append_nil,hs.1,hrt]
  exact⟨[],[],shut_bool htb true,rfl,rfl⟩
 ·rw[List.append_nil,hs.2.1]
  exact kD hl hb _ (fun b h=>by simpa using h) hr hA EC
 ·rw[List.append_nil,hs.2.1]
  exact kD hl hb _ (fun _ _=>rfl) hr hA EC
 ·rw[List.append_nil,hs.2.2,hv];rfl
 ·intro j t r hj hrr
  rw[hrt]at hj hrr
  match j with
  |0=>
   simp[Value.resultList]at hj hrr
   subst hj;subst hrr
   exact okWide_bool_mk htb true
  |j+1=>simp at hj
end
end Go.Proofs.Ytibadaomjlkoaaa
