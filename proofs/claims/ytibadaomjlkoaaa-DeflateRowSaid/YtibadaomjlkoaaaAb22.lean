import Derived.Test.YtibadaomjlkoaaaAb19
set_option linter.unusedVariables false
set_option linter.unusedSimpArgs false
open Go.ChangeShapes Go.WideShapes Go.ChangeAt Go.RowKit Go.Deep
namespace Go.Proofs.Ytibadaomjlkoaaa
inductive LK where
 |int (k:IntKind)|bool
def iM (rec:TypeId→Option (List LK))(P:Program)(total:Nat):List Field→Nat→Option (List LK)
 |[],o=>if o=total then some []else none
 |f::l,o=>match rec f.type,iM rec P total l (o+P.cellsOf f.type)with
  |some a,some b=>if f.offset=o∧a.length=P.cellsOf f.type then some (a++b)else none
  |_,_=>none
def nv (P:Program):Nat→TypeId→Option (List LK)
 |0,_=>none
 |n+1,t=>match P.underlying t with
  |some (.int k)=>some [.int k]
  |some .bool=>some [.bool]
  |some (.struct fs)=>iM (nv P n) P (P.cellsOf t) fs.toList 0
  |_=>none
def Tf:LK→AV→Prop
 | .int k,.int k' n=>k'=k∧k.min≤n∧n≤k.max
 | .bool,.bo _=>True
 |_,_=>False
def oS:List LK→List AV→Prop
 |[],[]=>True
 |k::l,v::vs=>Tf k v∧oS l vs
 |_,_=>False
theorem mE:∀{l:List LK}{vs:List AV},oS l vs→vs.length=l.length
 |[],[],_=>rfl
 |k::l,v::vs,h=>by simp[mE h.2]
 |[],_::_,h=>h.elim
 |_::_,[],h=>h.elim
theorem rG:∀{l l':List LK}{vs Ob:List AV},oS l vs→oS l' Ob→oS (l++l') (vs++Ob)
 |[],l',[],Ob,_,h=>h
 |k::l,l',v::vs,Ob,h,h'=>⟨h.1,rG h.2 h'⟩
 |[],_,_::_,_,h,_=>h.elim
 |_::_,_,[],_,h,_=>h.elim
theorem Co {k:LK}{v:AV}(h:Tf k v)(ρ ρ':Env):v.c ρ=v.c ρ'∧v.ok ρ:=by
 cases k<;>cases v<;>first|exact h.elim|exact⟨rfl,trivial⟩
theorem oR:∀{l:List LK}{vs:List AV},oS l vs→∀(ρ ρ':Env),AV.cl ρ vs=AV.cl ρ' vs∧AV.dE ρ vs
 |[],[],_,_,_=>⟨rfl,trivial⟩
 |k::l,v::vs,h,ρ,ρ'=>by
  obtain⟨h1,h2⟩:=Co h.1 ρ ρ'
  obtain⟨h3,h4⟩:=oR h.2 ρ ρ'
  exact⟨by simp only[AV.cl,h1,h3],h2,h4⟩
 |[],_::_,h,_,_=>h.elim
 |_::_,[],h,_,_=>h.elim
def DQ:LK→AV
 | .int k=>.int k 0
 | .bool=>.bo false
theorem mT:∀l:List LK,oS l (l.map DQ)
 |[]=>trivial
 | .int k::l=>⟨⟨rfl,by cases k<;>decide,by cases k<;>decide⟩,mT l⟩
 | .bool::l=>⟨trivial,mT l⟩
section
variable{H:Type}{enc:TypeId×Value→H}{P:Program}{w:World}{base:Nat}{spare:Nat→Bool}{held:Bool}
theorem lB {rec:TypeId→Option (List LK)}{total:Nat}{cs:List Value}(hlen:cs.length=total)
 (ud:∀t L,rec t=some L→∀fuel cs (x:DataW H×List MemPlace),DataW.trod enc P w base spare held fuel t cs=some x→∃vs,oS L vs∧∀ρ,cs=AV.cl ρ vs):
 ∀(l:List Field)(o:Nat)(L:List LK),iM rec P total l o=some L→
  (∀f∈l,∃n x,DataW.trod enc P w base spare held n f.type ((cs.drop f.offset).take (P.cellsOf f.type))=some x)→∃vs,oS L vs∧∀ρ,cs.drop o=AV.cl ρ vs
 |[],o,L,h,_=>by
  simp only[iM]at h
  split at h
  ·injection h with h;subst h
   exact⟨[],trivial,fun ρ=>by rw[List.drop_eq_nil_of_le (by omega)];rfl⟩
  ·cases h
 |f::l,o,L,h,ht=>by
  simp only[iM]at h
  split at h
  ·rename_i a b ha hb
   split at h
   ·rename_i hc
    injection h with h;subst h
    obtain⟨n,x,hx⟩:=ht f List.mem_cons_self
    obtain⟨vs,h1,h2⟩:=ud _ _ ha n _ x hx
    obtain⟨Ob,h3,h4⟩:=lB hlen ud l _ b hb (fun g hg=>ht g (List.mem_cons_of_mem _ hg))
    refine⟨vs++Ob,rG h1 h3,fun ρ=>?_⟩
    rw[fJ,←h2 ρ,←h4 ρ,hc.1,←List.drop_drop,List.take_append_drop]
   ·cases h
  ·cases h
theorem mm:∀(n:Nat)(t:TypeId)(L:List LK),nv P n t=some L→∀fuel cs (x:DataW H×List MemPlace),DataW.trod enc P w base spare held fuel t cs=some x→∃vs,oS L vs∧∀ρ,cs=AV.cl ρ vs
 |0,t,L,h,_,_,_,_=>by simp[nv]at h
 |n+1,t,L,h,fuel,cs,x,hx=>by
  simp only[nv]at h
  split at h
  ·rename_i k ht
   injection h with h;subst h
   obtain⟨m,rfl,_,hw⟩:=DataW.trod_int ht hx
   exact⟨[.int k m],⟨⟨rfl,xA hw⟩,trivial⟩,fun ρ=>rfl⟩
  ·rename_i ht
   injection h with h;subst h
   obtain⟨b,rfl,_⟩:=DataW.trod_bool ht hx
   exact⟨[.bo b],⟨trivial,trivial⟩,fun ρ=>rfl⟩
  ·rename_i fs ht
   obtain⟨xs,m,_,_,hl,ep,hf⟩:=DataW.trod_struct ht hx
   obtain⟨vs,h1,h2⟩:=lB hl (mm n) fs.toList 0 L h (fun f yv=>by
    obtain⟨i,hi⟩:=List.getElem?_of_mem yv
    have j7:fs[i]?=some f:=by simpa using hi
    have a8:i<xs.length:=by
     have:=(Array.getElem?_eq_some_iff.1 j7).1
     omega
    refine⟨m,xs[i],?_⟩
    rw[hf i f j7,List.getElem?_eq_getElem a8])
   exact⟨vs,h1,fun ρ=>by have:=h2 ρ;rwa[List.drop_zero]at this⟩
  ·cases h
end
section
variable{H:Type}{enc:TypeId×Value→H}{P:Program}{w:World}
theorem nT.struct {b0:Nat}{M:AH}{ρ:Env}{vs:List Value}{as:List AV}(h:nT w M ρ vs as){t:TypeId}{fs:Array Field}{v:Value}{d:DataW H}{ps:List MemPlace}{L:List LK}(ht:P.underlying t=some (.struct fs))(hL:nv P 8 t=some L)
 (fY:Value.okWide P w .any b0 t v)(hd:DataW.Trod enc P w 0 (fun _=>true) true t v d ps):
 ∃l,oS L l∧nT w M ρ (vs++[v]) (as++[.agg l]):=by
 obtain⟨fuel,hf⟩:=hd
 simp only[Value.okWide,ht]at fY
 obtain⟨cs,rfl,_,_⟩:=fY
 obtain⟨l,h1,h2⟩:=mm 8 t L hL fuel _ _ hf
 refine⟨l,h1,h.snoc (oR h1 ρ ρ).2 ?_⟩
 have:=h2 ρ
 simp only[Value.cells]at this
 simp[AV.c,←this]
theorem nT.cJ {b0:Nat}{M:AH}{ρ:Env}{vs:List Value}{as:List AV}(h:nT w M ρ vs as){t e:TypeId}{v:Value}{d:DataW H}{ps:List MemPlace}{L:List LK}(ht:P.underlying t=some (.slice e))(hL:nv P 8 e=some L)(hc:(Nat.beq L.length (P.cellsOf e)&&Nat.blt 0 L.length)=true)
 (fY:Value.okWide P w .any b0 t v)(hd:DataW.Trod enc P w 0 (fun _=>true) true t v d ps):
 ∃m c get ρ',(m≤c∧c≤9223372036854775807)∧(∀j,oS L (get j))∧nT w (M++[.one false 0 (.cJ L.length m get c)]) ρ' (vs++[v]) (as++[.sl M.length 0 0 m c]):=by
 simp only[Bool.and_eq_true]at hc
 have ep:L.length=P.cellsOf e:=Nat.eq_of_beq_eq_true hc.1
 have cE:0<L.length:=by simpa using hc.2
 obtain⟨a,len,cap,rfl⟩:=okWide_slice ht fY
 obtain⟨fuel,hf⟩:=hd
 rcases open_slice ht hf with⟨h0,_⟩|⟨a',Vl,Xc,m,n,D,Pl,h0,_,ug,SQ,hm,_,Mu⟩
 ·simp[Value.cells]at h0
  obtain⟨rfl,rfl,rfl⟩:=h0
  obtain⟨h1,h2,h3⟩:=xN (x:=.cJ L.length 0 (fun _=>L.map DQ) 0) (l:=none) h.O2 h.no (.inr ⟨rfl,rfl,rfl⟩)
  exact⟨0,0,_,_,⟨Nat.le_refl _,by omega⟩,fun j=>mT L,(h.grow h1 h2 h3).snoc (by simp[AV.ok,ar]) (by simp[AV.c,ar])⟩
 ·simp[Value.cells]at h0
  obtain⟨rfl,rfl,rfl⟩:=h0
  simp only[if_true]at hm
  subst hm
  have Qc:w.has P .any b0 a' e m:=by
   simp only[Value.okWide,ht,Cell.okWide,Cell.ok]at fY
   exact fY.2.2
  obtain⟨IC,c,el,fr,dC,oM⟩:=EV Qc
  obtain⟨b,off,sp⟩:=a'
  simp only at IC dC oM
  subst IC
  have hall:∀i,i<m→∃l,oS L l∧∀(ρ:Env)(j:Nat) v,l[j]?=some v→c[off+(i*L.length+j)]?=some (v.c ρ):=by
   intro i hi
   obtain⟨Ju,h1,h2⟩:=Mu i hi
   obtain⟨l,h3,h4⟩:=mm 8 e L hL n Ju _ h2
   refine⟨l,h3,fun ρ j v hv=>?_⟩
   obtain⟨_,oO,I9⟩:=World.cells?_some h1
   have hj:j<L.length:=by rw[←mE h3];exact(List.getElem?_eq_some_iff.1 hv).1
   have:=I9 j (by omega)
   rw[h4 ρ,AV.aW,List.getElem?_map,hv]at this
   rw[bY,bY]at this
   simp[World.cell?,dC]at this
   rw[ep,←Nat.add_assoc];exact this
  obtain⟨get,ck⟩:=choose_lt (α:=List AV) hall
  have Ws:off+m*L.length≤c.size:=by
   rcases Nat.eq_zero_or_pos m with h0|h0
   ·subst h0;omega
   ·obtain⟨g1,g2⟩:=ck (m-1) (by omega)
    have hl:=mE g1
    have:=g2 (fun _ _=>none) (L.length-1) _ (List.getElem?_eq_getElem (by omega))
    have:=(Array.getElem?_eq_some_iff.1 this).1
    have e:(m-1)*L.length+L.length=m*L.length:=by
     rw[←Nat.succ_mul];congr 1;omega
    omega
  let get':Nat→List AV:=fun j=>if j<m then get j else L.map DQ
  have fG:∀j,oS L (get' j):=fun j=>by
   show oS L (if j<m then get j else L.map DQ)
   split
   ·exact(ck j ‹_›).1
   ·exact mT L
  have fm:∀(mR:Env)(k:Nat)(v:AV),(ae.cJ L.length len get' m).at k=some v→v.ok mR∧c[off+k]?=some (v.c mR):=by
   intro mR k v hv
   simp only[ae.at]at hv
   split at hv
   ·rename_i hk
    have hj:k/L.length<len:=(Nat.div_lt_iff_lt_mul cE).2 hk
    have e:get' (k/L.length)=get (k/L.length):=if_pos (by omega)
    rw[e]at hv
    obtain⟨g1,g2⟩:=ck (k/L.length) (by omega)
    refine⟨((AV.aH _ _).1 (oR g1 _ (fun _ _=>none)).2) v (List.mem_of_getElem? hv),?_⟩
    rw[←g2 _ _ v hv,Nat.mul_comm,Nat.div_add_mod]
   ·cases hv
  obtain⟨h1,h2,h3⟩:=xN (x:=.cJ L.length len get' m) (l:=some (b,off)) h.O2 h.no (.inl ⟨b,off,rfl,.mk' rfl ⟨c,el,fr,dC,Ws,fm _,fun h=>(by cases h)⟩⟩)
  exact⟨len,m,get',_,⟨by omega,by unfold maxLen at SQ;omega⟩,fG,(h.grow h1 h2 h3).snoc (by simp[AV.ok,ar]) (by simp[AV.c,ar])⟩
end
end Go.Proofs.Ytibadaomjlkoaaa
