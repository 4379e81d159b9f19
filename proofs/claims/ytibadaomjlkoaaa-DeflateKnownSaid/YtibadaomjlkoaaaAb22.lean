import Derived.Test.YtibadaomjlkoaaaAb19
set_option linter.unusedVariables false
set_option linter.unusedSimpArgs false
open Go.ChangeShapes Go.WideShapes Go.ChangeAt Go.RowKit Go.Deep
namespace Go.Proofs.Ytibadaomjlkoaaa
inductive LK where
 |int (k:IntKind)|bool
def iF (rec:TypeId→Option (List LK))(P:Program)(total:Nat):List Field→Nat→Option (List LK)
 |[],o=>if o=total then some []else none
 |f::l,o=>match rec f.type,iF rec P total l (o+P.cellsOf f.type)with
  |some a,some b=>if f.offset=o∧a.length=P.cellsOf f.type then some (a++b)else none
  |_,_=>none
def nc (P:Program):Nat→TypeId→Option (List LK)
 |0,_=>none
 |n+1,t=>match P.underlying t with
  |some (.int k)=>some [.int k]
  |some .bool=>some [.bool]
  |some (.struct fs)=>iF (nc P n) P (P.cellsOf t) fs.toList 0
  |_=>none
def SO:LK→AV→Prop
 | .int k,.int k' n=>k'=k∧k.min≤n∧n≤k.max
 | .bool,.bo _=>True
 |_,_=>False
def oG:List LK→List AV→Prop
 |[],[]=>True
 |k::l,v::vs=>SO k v∧oG l vs
 |_,_=>False
theorem mo:∀{l:List LK}{vs:List AV},oG l vs→vs.length=l.length
 |[],[],_=>rfl
 |k::l,v::vs,h=>by simp[mo h.2]
 |[],_::_,h=>h.elim
 |_::_,[],h=>h.elim
theorem ru:∀{l l':List LK}{vs NK:List AV},oG l vs→oG l' NK→oG (l++l') (vs++NK)
 |[],l',[],NK,_,h=>h
 |k::l,l',v::vs,NK,h,h'=>⟨h.1,ru h.2 h'⟩
 |[],_,_::_,_,h,_=>h.elim
 |_::_,_,[],_,h,_=>h.elim
theorem B8 {k:LK}{v:AV}(h:SO k v)(ρ ρ':Env):v.c ρ=v.c ρ'∧v.ok ρ:=by
 cases k<;>cases v<;>first|exact h.elim|exact⟨rfl,trivial⟩
theorem oF:∀{l:List LK}{vs:List AV},oG l vs→∀(ρ ρ':Env),AV.cl ρ vs=AV.cl ρ' vs∧AV.dC ρ vs
 |[],[],_,_,_=>⟨rfl,trivial⟩
 |k::l,v::vs,h,ρ,ρ'=>by
  obtain⟨h1,h2⟩:=B8 h.1 ρ ρ'
  obtain⟨h3,h4⟩:=oF h.2 ρ ρ'
  exact⟨by simp only[AV.cl,h1,h3],h2,h4⟩
 |[],_::_,h,_,_=>h.elim
 |_::_,[],h,_,_=>h.elim
def Dz:LK→AV
 | .int k=>.int k 0
 | .bool=>.bo false
theorem mJ:∀l:List LK,oG l (l.map Dz)
 |[]=>trivial
 | .int k::l=>⟨⟨rfl,by cases k<;>decide,by cases k<;>decide⟩,mJ l⟩
 | .bool::l=>⟨trivial,mJ l⟩
section
variable{H:Type}{enc:TypeId×Value→H}{P:Program}{w:World}{base:Nat}{spare:Nat→Bool}{held:Bool}
theorem lq {rec:TypeId→Option (List LK)}{total:Nat}{cs:List Value}(hlen:cs.length=total)
 (tP:∀t L,rec t=some L→∀fuel cs (x:DataW H×List MemPlace),DataW.trod enc P w base spare held fuel t cs=some x→∃vs,oG L vs∧∀ρ,cs=AV.cl ρ vs):
 ∀(l:List Field)(o:Nat)(L:List LK),iF rec P total l o=some L→
  (∀f∈l,∃n x,DataW.trod enc P w base spare held n f.type ((cs.drop f.offset).take (P.cellsOf f.type))=some x)→∃vs,oG L vs∧∀ρ,cs.drop o=AV.cl ρ vs
 |[],o,L,h,_=>by
  simp only[iF]at h
  split at h
  ·injection h with h;subst h
   exact⟨[],trivial,fun ρ=>by rw[List.drop_eq_nil_of_le (by omega)];rfl⟩
  ·cases h
 |f::l,o,L,h,ht=>by
  simp only[iF]at h
  split at h
  ·rename_i a b ha hb
   split at h
   ·rename_i hc
    injection h with h;subst h
    obtain⟨n,x,hx⟩:=ht f List.mem_cons_self
    obtain⟨vs,h1,h2⟩:=tP _ _ ha n _ x hx
    obtain⟨NK,h3,h4⟩:=lq hlen tP l _ b hb (fun g hg=>ht g (List.mem_cons_of_mem _ hg))
    refine⟨vs++NK,ru h1 h3,fun ρ=>?_⟩
    rw[fI,←h2 ρ,←h4 ρ,hc.1,←List.drop_drop,List.take_append_drop]
   ·cases h
  ·cases h
theorem mb:∀(n:Nat)(t:TypeId)(L:List LK),nc P n t=some L→∀fuel cs (x:DataW H×List MemPlace),DataW.trod enc P w base spare held fuel t cs=some x→∃vs,oG L vs∧∀ρ,cs=AV.cl ρ vs
 |0,t,L,h,_,_,_,_=>by simp[nc]at h
 |n+1,t,L,h,fuel,cs,x,hx=>by
  simp only[nc]at h
  split at h
  ·rename_i k ht
   injection h with h;subst h
   obtain⟨m,rfl,_,hw⟩:=DataW.trod_int ht hx
   exact⟨[.int k m],⟨⟨rfl,xk hw⟩,trivial⟩,fun ρ=>rfl⟩
  ·rename_i ht
   injection h with h;subst h
   obtain⟨b,rfl,_⟩:=DataW.trod_bool ht hx
   exact⟨[.bo b],⟨trivial,trivial⟩,fun ρ=>rfl⟩
  ·rename_i fs ht
   obtain⟨xs,m,_,_,hl,er,hf⟩:=DataW.trod_struct ht hx
   obtain⟨vs,h1,h2⟩:=lq hl (mb n) fs.toList 0 L h (fun f yj=>by
    obtain⟨i,hi⟩:=List.getElem?_of_mem yj
    have jV:fs[i]?=some f:=by simpa using hi
    have aZ:i<xs.length:=by
     have:=(Array.getElem?_eq_some_iff.1 jV).1
     omega
    refine⟨m,xs[i],?_⟩
    rw[hf i f jV,List.getElem?_eq_getElem aZ])
   exact⟨vs,h1,fun ρ=>by have:=h2 ρ;rwa[List.drop_zero]at this⟩
  ·cases h
end
section
variable{H:Type}{enc:TypeId×Value→H}{P:Program}{w:World}
theorem nH.struct {b0:Nat}{M:AH}{ρ:Env}{vs:List Value}{as:List AV}(h:nH w M ρ vs as){t:TypeId}{fs:Array Field}{v:Value}{d:DataW H}{ps:List MemPlace}{L:List LK}(ht:P.underlying t=some (.struct fs))(hL:nc P 8 t=some L)
 (gN:Value.okWide P w .any b0 t v)(hd:DataW.Trod enc P w 0 (fun _=>true) true t v d ps):
 ∃l,oG L l∧nH w M ρ (vs++[v]) (as++[.agg l]):=by
 obtain⟨fuel,hf⟩:=hd
 simp only[Value.okWide,ht]at gN
 obtain⟨cs,rfl,_,_⟩:=gN
 obtain⟨l,h1,h2⟩:=mb 8 t L hL fuel _ _ hf
 refine⟨l,h1,h.snoc (oF h1 ρ ρ).2 ?_⟩
 have:=h2 ρ
 simp only[Value.cells]at this
 simp[AV.c,←this]
theorem nH.cI {b0:Nat}{M:AH}{ρ:Env}{vs:List Value}{as:List AV}(h:nH w M ρ vs as){t e:TypeId}{v:Value}{d:DataW H}{ps:List MemPlace}{L:List LK}(ht:P.underlying t=some (.slice e))(hL:nc P 8 e=some L)(hc:(Nat.beq L.length (P.cellsOf e)&&Nat.blt 0 L.length)=true)
 (gN:Value.okWide P w .any b0 t v)(hd:DataW.Trod enc P w 0 (fun _=>true) true t v d ps):
 ∃m c get ρ',(m≤c∧c≤9223372036854775807)∧(∀j,oG L (get j))∧nH w (M++[.one false 0 (.cI L.length m get c)]) ρ' (vs++[v]) (as++[.sl M.length 0 0 m c]):=by
 simp only[Bool.and_eq_true]at hc
 have er:L.length=P.cellsOf e:=Nat.eq_of_beq_eq_true hc.1
 have cB:0<L.length:=by simpa using hc.2
 obtain⟨a,len,cap,rfl⟩:=okWide_slice ht gN
 obtain⟨fuel,hf⟩:=hd
 rcases open_slice ht hf with⟨h0,_⟩|⟨a',UW,WI,m,n,D,Pl,h0,_,tT,Sm,hm,_,L6⟩
 ·simp[Value.cells]at h0
  obtain⟨rfl,rfl,rfl⟩:=h0
  obtain⟨h1,h2,h3⟩:=xC (x:=.cI L.length 0 (fun _=>L.map Dz) 0) (l:=none) h.OB h.no (.inr ⟨rfl,rfl,rfl⟩)
  exact⟨0,0,_,_,⟨Nat.le_refl _,by omega⟩,fun j=>mJ L,(h.grow h1 h2 h3).snoc (by simp[AV.ok,ar]) (by simp[AV.c,ar])⟩
 ·simp[Value.cells]at h0
  obtain⟨rfl,rfl,rfl⟩:=h0
  simp only[if_true]at hm
  subst hm
  have PL:w.has P .any b0 a' e m:=by
   simp only[Value.okWide,ht,Cell.okWide,Cell.ok]at gN
   exact gN.2.2
  obtain⟨MX,c,el,fr,dA,oA⟩:=EF PL
  obtain⟨b,off,sp⟩:=a'
  simp only at MX dA oA
  subst MX
  have hall:∀i,i<m→∃l,oG L l∧∀(ρ:Env)(j:Nat) v,l[j]?=some v→c[off+(i*L.length+j)]?=some (v.c ρ):=by
   intro i hi
   obtain⟨I6,h1,h2⟩:=L6 i hi
   obtain⟨l,h3,h4⟩:=mb 8 e L hL n I6 _ h2
   refine⟨l,h3,fun ρ j v hv=>?_⟩
   obtain⟨_,oB,II⟩:=World.cells?_some h1
   have hj:j<L.length:=by rw[←mo h3];exact(List.getElem?_eq_some_iff.1 hv).1
   have:=II j (by omega)
   rw[h4 ρ,AV.aU,List.getElem?_map,hv]at this
   rw[bW,bW]at this
   simp[World.cell?,dA]at this
   rw[er,←Nat.add_assoc];exact this
  obtain⟨get,cj⟩:=choose_lt (α:=List AV) hall
  have V3:off+m*L.length≤c.size:=by
   rcases Nat.eq_zero_or_pos m with h0|h0
   ·subst h0;omega
   ·obtain⟨g1,g2⟩:=cj (m-1) (by omega)
    have hl:=mo g1
    have:=g2 (fun _ _=>none) (L.length-1) _ (List.getElem?_eq_getElem (by omega))
    have:=(Array.getElem?_eq_some_iff.1 this).1
    have e:(m-1)*L.length+L.length=m*L.length:=by
     rw[←Nat.succ_mul];congr 1;omega
    omega
  let get':Nat→List AV:=fun j=>if j<m then get j else L.map Dz
  have fE:∀j,oG L (get' j):=fun j=>by
   show oG L (if j<m then get j else L.map Dz)
   split
   ·exact(cj j ‹_›).1
   ·exact mJ L
  have fk:∀(mH:Env)(k:Nat)(v:AV),(ae.cI L.length len get' m).at k=some v→v.ok mH∧c[off+k]?=some (v.c mH):=by
   intro mH k v hv
   simp only[ae.at]at hv
   split at hv
   ·rename_i hk
    have hj:k/L.length<len:=(Nat.div_lt_iff_lt_mul cB).2 hk
    have e:get' (k/L.length)=get (k/L.length):=if_pos (by omega)
    rw[e]at hv
    obtain⟨g1,g2⟩:=cj (k/L.length) (by omega)
    refine⟨((AV.aJ _ _).1 (oF g1 _ (fun _ _=>none)).2) v (List.mem_of_getElem? hv),?_⟩
    rw[←g2 _ _ v hv,Nat.mul_comm,Nat.div_add_mod]
   ·cases hv
  obtain⟨h1,h2,h3⟩:=xC (x:=.cI L.length len get' m) (l:=some (b,off)) h.OB h.no (.inl ⟨b,off,rfl,.mk' rfl ⟨c,el,fr,dA,V3,fk _,fun h=>(by cases h)⟩⟩)
  exact⟨len,m,get',_,⟨by omega,by unfold maxLen at Sm;omega⟩,fE,(h.grow h1 h2 h3).snoc (by simp[AV.ok,ar]) (by simp[AV.c,ar])⟩
end
end Go.Proofs.Ytibadaomjlkoaaa
