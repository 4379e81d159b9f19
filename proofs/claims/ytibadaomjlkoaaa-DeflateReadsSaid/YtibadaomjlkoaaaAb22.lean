import Derived.Test.YtibadaomjlkoaaaAb19
set_option linter.unusedVariables false
set_option linter.unusedSimpArgs false
open Go.ChangeShapes Go.WideShapes Go.ChangeAt Go.RowKit Go.Deep
namespace Go.Proofs.Ytibadaomjlkoaaa
inductive LK where
 |int (k:IntKind)|bool
def jG (rec:TypeId→Option (List LK))(P:Program)(total:Nat):List Field→Nat→Option (List LK)
 |[],o=>if o=total then some []else none
 |f::l,o=>match rec f.type,jG rec P total l (o+P.cellsOf f.type)with
  |some a,some b=>if f.offset=o∧a.length=P.cellsOf f.type then some (a++b)else none
  |_,_=>none
def oY (P:Program):Nat→TypeId→Option (List LK)
 |0,_=>none
 |n+1,t=>match P.underlying t with
  |some (.int k)=>some [.int k]
  |some .bool=>some [.bool]
  |some (.struct fs)=>jG (oY P n) P (P.cellsOf t) fs.toList 0
  |_=>none
def Xu:LK→AV→Prop
 | .int k,.int k' n=>k'=k∧k.min≤n∧n≤k.max
 | .bool,.bo _=>True
 |_,_=>False
def qu:List LK→List AV→Prop
 |[],[]=>True
 |k::l,v::vs=>Xu k v∧qu l vs
 |_,_=>False
theorem n6:∀{l:List LK}{vs:List AV},qu l vs→vs.length=l.length
 |[],[],_=>rfl
 |k::l,v::vs,h=>by simp[n6 h.2]
 |[],_::_,h=>h.elim
 |_::_,[],h=>h.elim
theorem tP:∀{l l':List LK}{vs RZ:List AV},qu l vs→qu l' RZ→qu (l++l') (vs++RZ)
 |[],l',[],RZ,_,h=>h
 |k::l,l',v::vs,RZ,h,h'=>⟨h.1,tP h.2 h'⟩
 |[],_,_::_,_,h,_=>h.elim
 |_::_,_,[],_,h,_=>h.elim
theorem EN {k:LK}{v:AV}(h:Xu k v)(ρ ρ':Env):v.c ρ=v.c ρ'∧v.ok ρ:=by
 cases k<;>cases v<;>first|exact h.elim|exact⟨rfl,trivial⟩
theorem qt:∀{l:List LK}{vs:List AV},qu l vs→∀(ρ ρ':Env),AV.cl ρ vs=AV.cl ρ' vs∧AV.eb ρ vs
 |[],[],_,_,_=>⟨rfl,trivial⟩
 |k::l,v::vs,h,ρ,ρ'=>by
  obtain⟨h1,h2⟩:=EN h.1 ρ ρ'
  obtain⟨h3,h4⟩:=qt h.2 ρ ρ'
  exact⟨by simp only[AV.cl,h1,h3],h2,h4⟩
 |[],_::_,h,_,_=>h.elim
 |_::_,[],h,_,_=>h.elim
def GG:LK→AV
 | .int k=>.int k 0
 | .bool=>.bo false
theorem ov:∀l:List LK,qu l (l.map GG)
 |[]=>trivial
 | .int k::l=>⟨⟨rfl,by cases k<;>decide,by cases k<;>decide⟩,ov l⟩
 | .bool::l=>⟨trivial,ov l⟩
section
variable{H:Type}{enc:TypeId×Value→H}{P:Program}{w:World}{base:Nat}{spare:Nat→Bool}{held:Bool}
theorem mP {rec:TypeId→Option (List LK)}{total:Nat}{cs:List Value}(hlen:cs.length=total)
 (wm:∀t L,rec t=some L→∀fuel cs (x:DataW H×List MemPlace),DataW.trod enc P w base spare held fuel t cs=some x→∃vs,qu L vs∧∀ρ,cs=AV.cl ρ vs):
 ∀(l:List Field)(o:Nat)(L:List LK),jG rec P total l o=some L→
  (∀f∈l,∃n x,DataW.trod enc P w base spare held n f.type ((cs.drop f.offset).take (P.cellsOf f.type))=some x)→∃vs,qu L vs∧∀ρ,cs.drop o=AV.cl ρ vs
 |[],o,L,h,_=>by
  simp only[jG]at h
  split at h
  ·injection h with h;subst h
   exact⟨[],trivial,fun ρ=>by rw[List.drop_eq_nil_of_le (by omega)];rfl⟩
  ·cases h
 |f::l,o,L,h,ht=>by
  simp only[jG]at h
  split at h
  ·rename_i a b ha hb
   split at h
   ·rename_i hc
    injection h with h;subst h
    obtain⟨n,x,hx⟩:=ht f List.mem_cons_self
    obtain⟨vs,h1,h2⟩:=wm _ _ ha n _ x hx
    obtain⟨RZ,h3,h4⟩:=mP hlen wm l _ b hb (fun g hg=>ht g (List.mem_cons_of_mem _ hg))
    refine⟨vs++RZ,tP h1 h3,fun ρ=>?_⟩
    rw[gW,←h2 ρ,←h4 ρ,hc.1,←List.drop_drop,List.take_append_drop]
   ·cases h
  ·cases h
theorem nQ:∀(n:Nat)(t:TypeId)(L:List LK),oY P n t=some L→∀fuel cs (x:DataW H×List MemPlace),DataW.trod enc P w base spare held fuel t cs=some x→∃vs,qu L vs∧∀ρ,cs=AV.cl ρ vs
 |0,t,L,h,_,_,_,_=>by simp[oY]at h
 |n+1,t,L,h,fuel,cs,x,hx=>by
  simp only[oY]at h
  split at h
  ·rename_i k ht
   injection h with h;subst h
   obtain⟨m,rfl,_,hw⟩:=DataW.trod_int ht hx
   exact⟨[.int k m],⟨⟨rfl,zz hw⟩,trivial⟩,fun ρ=>rfl⟩
  ·rename_i ht
   injection h with h;subst h
   obtain⟨b,rfl,_⟩:=DataW.trod_bool ht hx
   exact⟨[.bo b],⟨trivial,trivial⟩,fun ρ=>rfl⟩
  ·rename_i fs ht
   obtain⟨xs,m,_,_,hl,fb,hf⟩:=DataW.trod_struct ht hx
   obtain⟨vs,h1,h2⟩:=mP hl (nQ n) fs.toList 0 L h (fun f AJ=>by
    obtain⟨i,hi⟩:=List.getElem?_of_mem AJ
    have lf:fs[i]?=some f:=by simpa using hi
    have bh:i<xs.length:=by
     have:=(Array.getElem?_eq_some_iff.1 lf).1
     omega
    refine⟨m,xs[i],?_⟩
    rw[hf i f lf,List.getElem?_eq_getElem bh])
   exact⟨vs,h1,fun ρ=>by have:=h2 ρ;rwa[List.drop_zero]at this⟩
  ·cases h
end
section
variable{H:Type}{enc:TypeId×Value→H}{P:Program}{w:World}
theorem pG.struct {b0:Nat}{M:AH}{ρ:Env}{vs:List Value}{as:List AV}(h:pG w M ρ vs as){t:TypeId}{fs:Array Field}{v:Value}{d:DataW H}{ps:List MemPlace}{L:List LK}(ht:P.underlying t=some (.struct fs))(hL:oY P 8 t=some L)
 (iN:Value.okWide P w .any b0 t v)(hd:DataW.Trod enc P w 0 (fun _=>true) true t v d ps):
 ∃l,qu L l∧pG w M ρ (vs++[v]) (as++[.agg l]):=by
 obtain⟨fuel,hf⟩:=hd
 simp only[Value.okWide,ht]at iN
 obtain⟨cs,rfl,_,_⟩:=iN
 obtain⟨l,h1,h2⟩:=nQ 8 t L hL fuel _ _ hf
 refine⟨l,h1,h.snoc (qt h1 ρ ρ).2 ?_⟩
 have:=h2 ρ
 simp only[Value.cells]at this
 simp[AV.c,←this]
theorem pG.cw {b0:Nat}{M:AH}{ρ:Env}{vs:List Value}{as:List AV}(h:pG w M ρ vs as){t e:TypeId}{v:Value}{d:DataW H}{ps:List MemPlace}{L:List LK}(ht:P.underlying t=some (.slice e))(hL:oY P 8 e=some L)(hc:(Nat.beq L.length (P.cellsOf e)&&Nat.blt 0 L.length)=true)
 (iN:Value.okWide P w .any b0 t v)(hd:DataW.Trod enc P w 0 (fun _=>true) true t v d ps):
 ∃m c get ρ',(m≤c∧c≤9223372036854775807)∧(∀j,qu L (get j))∧pG w (M++[.one false 0 (.cw L.length m get c)]) ρ' (vs++[v]) (as++[.sl M.length 0 0 m c]):=by
 simp only[Bool.and_eq_true]at hc
 have fb:L.length=P.cellsOf e:=Nat.eq_of_beq_eq_true hc.1
 have cY:0<L.length:=by simpa using hc.2
 obtain⟨a,len,cap,rfl⟩:=okWide_slice ht iN
 obtain⟨fuel,hf⟩:=hd
 rcases open_slice ht hf with⟨h0,_⟩|⟨a',ZS,aaP,m,n,D,Pl,h0,_,tM,WZ,hm,_,P9⟩
 ·simp[Value.cells]at h0
  obtain⟨rfl,rfl,rfl⟩:=h0
  obtain⟨h1,h2,h3⟩:=zU (x:=.cw L.length 0 (fun _=>L.map GG) 0) (l:=none) h.S1 h.no (.inr ⟨rfl,rfl,rfl⟩)
  exact⟨0,0,_,_,⟨Nat.le_refl _,by omega⟩,fun j=>ov L,(h.grow h1 h2 h3).snoc (by simp[AV.ok,ay]) (by simp[AV.c,ay])⟩
 ·simp[Value.cells]at h0
  obtain⟨rfl,rfl,rfl⟩:=h0
  simp only[if_true]at hm
  subst hm
  have T9:w.has P .any b0 a' e m:=by
   simp only[Value.okWide,ht,Cell.okWide,Cell.ok]at iN
   exact iN.2.2
  obtain⟨Q5,c,el,fr,dY,m8⟩:=HG T9
  obtain⟨b,off,sp⟩:=a'
  simp only at Q5 dY m8
  subst Q5
  have hall:∀i,i<m→∃l,qu L l∧∀(ρ:Env)(j:Nat) v,l[j]?=some v→c[off+(i*L.length+j)]?=some (v.c ρ):=by
   intro i hi
   obtain⟨Mw,h1,h2⟩:=P9 i hi
   obtain⟨l,h3,h4⟩:=nQ 8 e L hL n Mw _ h2
   refine⟨l,h3,fun ρ j v hv=>?_⟩
   obtain⟨_,o8,L9⟩:=World.cells?_some h1
   have hj:j<L.length:=by rw[←n6 h3];exact(List.getElem?_eq_some_iff.1 hv).1
   have:=L9 j (by omega)
   rw[h4 ρ,AV.bc,List.getElem?_map,hv]at this
   rw[cn,cn]at this
   simp[World.cell?,dY]at this
   rw[fb,←Nat.add_assoc];exact this
  obtain⟨get,cH⟩:=choose_lt (α:=List AV) hall
  have aaz:off+m*L.length≤c.size:=by
   rcases Nat.eq_zero_or_pos m with h0|h0
   ·subst h0;omega
   ·obtain⟨g1,g2⟩:=cH (m-1) (by omega)
    have hl:=n6 g1
    have:=g2 (fun _ _=>none) (L.length-1) _ (List.getElem?_eq_getElem (by omega))
    have:=(Array.getElem?_eq_some_iff.1 this).1
    have e:(m-1)*L.length+L.length=m*L.length:=by
     rw[←Nat.succ_mul];congr 1;omega
    omega
  let get':Nat→List AV:=fun j=>if j<m then get j else L.map GG
  have gR:∀j,qu L (get' j):=fun j=>by
   show qu L (if j<m then get j else L.map GG)
   split
   ·exact(cH j ‹_›).1
   ·exact ov L
  have fX:∀(ot:Env)(k:Nat)(v:AV),(af.cw L.length len get' m).at k=some v→v.ok ot∧c[off+k]?=some (v.c ot):=by
   intro ot k v hv
   simp only[af.at]at hv
   split at hv
   ·rename_i hk
    have hj:k/L.length<len:=(Nat.div_lt_iff_lt_mul cY).2 hk
    have e:get' (k/L.length)=get (k/L.length):=if_pos (by omega)
    rw[e]at hv
    obtain⟨g1,g2⟩:=cH (k/L.length) (by omega)
    refine⟨((AV.aQ _ _).1 (qt g1 _ (fun _ _=>none)).2) v (List.mem_of_getElem? hv),?_⟩
    rw[←g2 _ _ v hv,Nat.mul_comm,Nat.div_add_mod]
   ·cases hv
  obtain⟨h1,h2,h3⟩:=zU (x:=.cw L.length len get' m) (l:=some (b,off)) h.S1 h.no (.inl ⟨b,off,rfl,.mk' rfl ⟨c,el,fr,dY,aaz,fX _,fun h=>(by cases h)⟩⟩)
  exact⟨len,m,get',_,⟨by omega,by unfold maxLen at WZ;omega⟩,gR,(h.grow h1 h2 h3).snoc (by simp[AV.ok,ay]) (by simp[AV.c,ay])⟩
end
end Go.Proofs.Ytibadaomjlkoaaa
