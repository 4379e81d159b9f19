import Derived.Test.YtibadaomjlkoaaaAb19
set_option linter.unusedVariables false
set_option linter.unusedSimpArgs false
open Go.ChangeShapes Go.WideShapes Go.ChangeAt Go.RowKit Go.Deep
namespace Go.Proofs.Ytibadaomjlkoaaa
inductive LK where
 |int (k:IntKind)|bool
def iZ (rec:TypeId→Option (List LK))(P:Program)(total:Nat):List Field→Nat→Option (List LK)
 |[],o=>if o=total then some []else none
 |f::l,o=>match rec f.type,iZ rec P total l (o+P.cellsOf f.type)with
  |some a,some b=>if f.offset=o∧a.length=P.cellsOf f.type then some (a++b)else none
  |_,_=>none
def nR (P:Program):Nat→TypeId→Option (List LK)
 |0,_=>none
 |n+1,t=>match P.underlying t with
  |some (.int k)=>some [.int k]
  |some .bool=>some [.bool]
  |some (.struct fs)=>iZ (nR P n) P (P.cellsOf t) fs.toList 0
  |_=>none
def Uu:LK→AV→Prop
 | .int k,.int k' n=>k'=k∧k.min≤n∧n≤k.max
 | .bool,.bo _=>True
 |_,_=>False
def pn:List LK→List AV→Prop
 |[],[]=>True
 |k::l,v::vs=>Uu k v∧pn l vs
 |_,_=>False
theorem mX:∀{l:List LK}{vs:List AV},pn l vs→vs.length=l.length
 |[],[],_=>rfl
 |k::l,v::vs,h=>by simp[mX h.2]
 |[],_::_,h=>h.elim
 |_::_,[],h=>h.elim
theorem r9:∀{l l':List LK}{vs Ph:List AV},pn l vs→pn l' Ph→pn (l++l') (vs++Ph)
 |[],l',[],Ph,_,h=>h
 |k::l,l',v::vs,Ph,h,h'=>⟨h.1,r9 h.2 h'⟩
 |[],_,_::_,_,h,_=>h.elim
 |_::_,_,[],_,h,_=>h.elim
theorem CU {k:LK}{v:AV}(h:Uu k v)(ρ ρ':Env):v.c ρ=v.c ρ'∧v.ok ρ:=by
 cases k<;>cases v<;>first|exact h.elim|exact⟨rfl,trivial⟩
theorem pk:∀{l:List LK}{vs:List AV},pn l vs→∀(ρ ρ':Env),AV.cl ρ vs=AV.cl ρ' vs∧AV.dK ρ vs
 |[],[],_,_,_=>⟨rfl,trivial⟩
 |k::l,v::vs,h,ρ,ρ'=>by
  obtain⟨h1,h2⟩:=CU h.1 ρ ρ'
  obtain⟨h3,h4⟩:=pk h.2 ρ ρ'
  exact⟨by simp only[AV.cl,h1,h3],h2,h4⟩
 |[],_::_,h,_,_=>h.elim
 |_::_,[],h,_,_=>h.elim
def EA:LK→AV
 | .int k=>.int k 0
 | .bool=>.bo false
theorem nt:∀l:List LK,pn l (l.map EA)
 |[]=>trivial
 | .int k::l=>⟨⟨rfl,by cases k<;>decide,by cases k<;>decide⟩,nt l⟩
 | .bool::l=>⟨trivial,nt l⟩
section
variable{H:Type}{enc:TypeId×Value→H}{P:Program}{w:World}{base:Nat}{spare:Nat→Bool}{held:Bool}
theorem lU {rec:TypeId→Option (List LK)}{total:Nat}{cs:List Value}(hlen:cs.length=total)
 (uG:∀t L,rec t=some L→∀fuel cs (x:DataW H×List MemPlace),DataW.trod enc P w base spare held fuel t cs=some x→∃vs,pn L vs∧∀ρ,cs=AV.cl ρ vs):
 ∀(l:List Field)(o:Nat)(L:List LK),iZ rec P total l o=some L→
  (∀f∈l,∃n x,DataW.trod enc P w base spare held n f.type ((cs.drop f.offset).take (P.cellsOf f.type))=some x)→∃vs,pn L vs∧∀ρ,cs.drop o=AV.cl ρ vs
 |[],o,L,h,_=>by
  simp only[iZ]at h
  split at h
  ·injection h with h;subst h
   exact⟨[],trivial,fun ρ=>by rw[List.drop_eq_nil_of_le (by omega)];rfl⟩
  ·cases h
 |f::l,o,L,h,ht=>by
  simp only[iZ]at h
  split at h
  ·rename_i a b ha hb
   split at h
   ·rename_i hc
    injection h with h;subst h
    obtain⟨n,x,hx⟩:=ht f List.mem_cons_self
    obtain⟨vs,h1,h2⟩:=uG _ _ ha n _ x hx
    obtain⟨Ph,h3,h4⟩:=lU hlen uG l _ b hb (fun g hg=>ht g (List.mem_cons_of_mem _ hg))
    refine⟨vs++Ph,r9 h1 h3,fun ρ=>?_⟩
    rw[fV,←h2 ρ,←h4 ρ,hc.1,←List.drop_drop,List.take_append_drop]
   ·cases h
  ·cases h
theorem mM:∀(n:Nat)(t:TypeId)(L:List LK),nR P n t=some L→∀fuel cs (x:DataW H×List MemPlace),DataW.trod enc P w base spare held fuel t cs=some x→∃vs,pn L vs∧∀ρ,cs=AV.cl ρ vs
 |0,t,L,h,_,_,_,_=>by simp[nR]at h
 |n+1,t,L,h,fuel,cs,x,hx=>by
  simp only[nR]at h
  split at h
  ·rename_i k ht
   injection h with h;subst h
   obtain⟨m,rfl,_,hw⟩:=DataW.trod_int ht hx
   exact⟨[.int k m],⟨⟨rfl,xR hw⟩,trivial⟩,fun ρ=>rfl⟩
  ·rename_i ht
   injection h with h;subst h
   obtain⟨b,rfl,_⟩:=DataW.trod_bool ht hx
   exact⟨[.bo b],⟨trivial,trivial⟩,fun ρ=>rfl⟩
  ·rename_i fs ht
   obtain⟨xs,m,_,_,hl,eJ,hf⟩:=DataW.trod_struct ht hx
   obtain⟨vs,h1,h2⟩:=lU hl (mM n) fs.toList 0 L h (fun f yR=>by
    obtain⟨i,hi⟩:=List.getElem?_of_mem yR
    have kv:fs[i]?=some f:=by simpa using hi
    have a9:i<xs.length:=by
     have:=(Array.getElem?_eq_some_iff.1 kv).1
     omega
    refine⟨m,xs[i],?_⟩
    rw[hf i f kv,List.getElem?_eq_getElem a9])
   exact⟨vs,h1,fun ρ=>by have:=h2 ρ;rwa[List.drop_zero]at this⟩
  ·cases h
end
section
variable{H:Type}{enc:TypeId×Value→H}{P:Program}{w:World}
theorem ot.struct {b0:Nat}{M:AH}{ρ:Env}{vs:List Value}{as:List AV}(h:ot w M ρ vs as){t:TypeId}{fs:Array Field}{v:Value}{d:DataW H}{ps:List MemPlace}{L:List LK}(ht:P.underlying t=some (.struct fs))(hL:nR P 8 t=some L)
 (gW:Value.okWide P w .any b0 t v)(hd:DataW.Trod enc P w 0 (fun _=>true) true t v d ps):
 ∃l,pn L l∧ot w M ρ (vs++[v]) (as++[.agg l]):=by
 obtain⟨fuel,hf⟩:=hd
 simp only[Value.okWide,ht]at gW
 obtain⟨cs,rfl,_,_⟩:=gW
 obtain⟨l,h1,h2⟩:=mM 8 t L hL fuel _ _ hf
 refine⟨l,h1,h.snoc (pk h1 ρ ρ).2 ?_⟩
 have:=h2 ρ
 simp only[Value.cells]at this
 simp[AV.c,←this]
theorem ot.cJ {b0:Nat}{M:AH}{ρ:Env}{vs:List Value}{as:List AV}(h:ot w M ρ vs as){t e:TypeId}{v:Value}{d:DataW H}{ps:List MemPlace}{L:List LK}(ht:P.underlying t=some (.slice e))(hL:nR P 8 e=some L)(hc:(Nat.beq L.length (P.cellsOf e)&&Nat.blt 0 L.length)=true)
 (gW:Value.okWide P w .any b0 t v)(hd:DataW.Trod enc P w 0 (fun _=>true) true t v d ps):
 ∃m c get ρ',(m≤c∧c≤9223372036854775807)∧(∀j,pn L (get j))∧ot w (M++[.one false 0 (.cJ L.length m get c)]) ρ' (vs++[v]) (as++[.sl M.length 0 0 m c]):=by
 simp only[Bool.and_eq_true]at hc
 have eJ:L.length=P.cellsOf e:=Nat.eq_of_beq_eq_true hc.1
 have cK:0<L.length:=by simpa using hc.2
 obtain⟨a,len,cap,rfl⟩:=okWide_slice ht gW
 obtain⟨fuel,hf⟩:=hd
 rcases open_slice ht hf with⟨h0,_⟩|⟨a',WH,Yu,m,n,D,Pl,h0,_,uJ,T5,hm,_,Ny⟩
 ·simp[Value.cells]at h0
  obtain⟨rfl,rfl,rfl⟩:=h0
  obtain⟨h1,h2,h3⟩:=ya (x:=.cJ L.length 0 (fun _=>L.map EA) 0) (l:=none) h.Qe h.no (.inr ⟨rfl,rfl,rfl⟩)
  exact⟨0,0,_,_,⟨Nat.le_refl _,by omega⟩,fun j=>nt L,(h.grow h1 h2 h3).snoc (by simp[AV.ok,au]) (by simp[AV.c,au])⟩
 ·simp[Value.cells]at h0
  obtain⟨rfl,rfl,rfl⟩:=h0
  simp only[if_true]at hm
  subst hm
  have Rj:w.has P .any b0 a' e m:=by
   simp only[Value.okWide,ht,Cell.okWide,Cell.ok]at gW
   exact gW.2.2
  obtain⟨Jr,c,el,fr,dJ,pg⟩:=FD Rj
  obtain⟨b,off,sp⟩:=a'
  simp only at Jr dJ pg
  subst Jr
  have hall:∀i,i<m→∃l,pn L l∧∀(ρ:Env)(j:Nat) v,l[j]?=some v→c[off+(i*L.length+j)]?=some (v.c ρ):=by
   intro i hi
   obtain⟨Kf,h1,h2⟩:=Ny i hi
   obtain⟨l,h3,h4⟩:=mM 8 e L hL n Kf _ h2
   refine⟨l,h3,fun ρ j v hv=>?_⟩
   obtain⟨_,oI,JU⟩:=World.cells?_some h1
   have hj:j<L.length:=by rw[←mX h3];exact(List.getElem?_eq_some_iff.1 hv).1
   have:=JU j (by omega)
   rw[h4 ρ,AV.aY,List.getElem?_map,hv]at this
   rw[cf,cf]at this
   simp[World.cell?,dJ]at this
   rw[eJ,←Nat.add_assoc];exact this
  obtain⟨get,cq⟩:=choose_lt (α:=List AV) hall
  have XT:off+m*L.length≤c.size:=by
   rcases Nat.eq_zero_or_pos m with h0|h0
   ·subst h0;omega
   ·obtain⟨g1,g2⟩:=cq (m-1) (by omega)
    have hl:=mX g1
    have:=g2 (fun _ _=>none) (L.length-1) _ (List.getElem?_eq_getElem (by omega))
    have:=(Array.getElem?_eq_some_iff.1 this).1
    have e:(m-1)*L.length+L.length=m*L.length:=by
     rw[←Nat.succ_mul];congr 1;omega
    omega
  let get':Nat→List AV:=fun j=>if j<m then get j else L.map EA
  have fS:∀j,pn L (get' j):=fun j=>by
   show pn L (if j<m then get j else L.map EA)
   split
   ·exact(cq j ‹_›).1
   ·exact nt L
  have fB:∀(nq:Env)(k:Nat)(v:AV),(af.cJ L.length len get' m).at k=some v→v.ok nq∧c[off+k]?=some (v.c nq):=by
   intro nq k v hv
   simp only[af.at]at hv
   split at hv
   ·rename_i hk
    have hj:k/L.length<len:=(Nat.div_lt_iff_lt_mul cK).2 hk
    have e:get' (k/L.length)=get (k/L.length):=if_pos (by omega)
    rw[e]at hv
    obtain⟨g1,g2⟩:=cq (k/L.length) (by omega)
    refine⟨((AV.aK _ _).1 (pk g1 _ (fun _ _=>none)).2) v (List.mem_of_getElem? hv),?_⟩
    rw[←g2 _ _ v hv,Nat.mul_comm,Nat.div_add_mod]
   ·cases hv
  obtain⟨h1,h2,h3⟩:=ya (x:=.cJ L.length len get' m) (l:=some (b,off)) h.Qe h.no (.inl ⟨b,off,rfl,.mk' rfl ⟨c,el,fr,dJ,XT,fB _,fun h=>(by cases h)⟩⟩)
  exact⟨len,m,get',_,⟨by omega,by unfold maxLen at T5;omega⟩,fS,(h.grow h1 h2 h3).snoc (by simp[AV.ok,au]) (by simp[AV.c,au])⟩
end
end Go.Proofs.Ytibadaomjlkoaaa
