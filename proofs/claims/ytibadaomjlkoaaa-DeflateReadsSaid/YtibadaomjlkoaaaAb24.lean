import Derived.Test.YtibadaomjlkoaaaAb22
set_option linter.unusedVariables false
set_option linter.unusedSimpArgs false
open Go.ChangeShapes Go.WideShapes Go.ChangeAt Go.RowKit Go.Deep
namespace Go.Proofs.Ytibadaomjlkoaaa
inductive LX where
 |int (k:IntKind)|bool|sl (k:IntKind)
def v8 (P:Program)(u:TypeId):Option LX:=
 match P.underlying u with
 |some (.int k)=>some (.int k)
 |some .bool=>some .bool
 |some (.slice e)=>match P.underlying e with
  |some (.int k)=>if P.cellsOf e=1 then some (.sl k)else none
  |_=>none
 |_=>none
def v3 (rec:TypeId→Option (List TypeId))(P:Program)(total:Nat):List Field→Nat→Option (List TypeId)
 |[],o=>if o=total then some []else none
 |f::l,o=>match rec f.type,v3 rec P total l (o+P.cellsOf f.type)with
  |some a,some b=>if f.offset=o∧a.length=P.cellsOf f.type then some (a++b)else none
  |_,_=>none
def Ct (P:Program):Nat→TypeId→Option (List TypeId)
 |0,_=>none
 |n+1,t=>match P.underlying t with
  |some (.struct fs)=>v3 (Ct P n) P (P.cellsOf t) fs.toList 0
  |some (.int _)=>some [t]
  |some .bool=>some [t]
  |some (.slice _)=>some [t]
  |_=>none
def CL:List LX→AH→(List AV→AH→Prop)→Prop
 |[],M,K=>K [] M
 | .int k::L,M,K=>∃n,(k.min≤n∧n≤k.max)∧CL L M fun l M'=>K (.int k n::l) M'
 | .bool::L,M,K=>∃b,CL L M fun l M'=>K (.bo b::l) M'
 | .sl k::L,M,K=>∃xs c,(xs.length≤c∧c≤9223372036854775807)∧(∀x∈xs,k.min≤x∧x≤k.max)∧CL L (M++[.one false 0 (.ints k xs c)]) fun l M'=>K (.sl M.length 0 0 xs.length c::l) M'
theorem lp:∀{L:List LX}{M:AH}{K K':List AV→AH→Prop},CL L M K→(∀l M',K l M'→K' l M')→CL L M K'
 |[],_,_,_,h,hk=>hk _ _ h
 | .int k::L,M,K,K',⟨n,h1,h2⟩,hk=>⟨n,h1,lp h2 fun l M' h=>hk _ _ h⟩
 | .bool::L,M,K,K',⟨b,h2⟩,hk=>⟨b,lp h2 fun l M' h=>hk _ _ h⟩
 | .sl k::L,M,K,K',⟨xs,c,h1,h2,h3⟩,hk=>⟨xs,c,h1,h2,lp h3 fun l M' h=>hk _ _ h⟩
section
variable{H:Type}{enc:TypeId×Value→H}{P:Program}{w:World}{base:Nat}{spare:Nat→Bool}{held:Bool}
theorem tI {rec:TypeId→Option (List TypeId)}{total:Nat}{cs:List Value}(hlen:cs.length=total)
 (wm:∀t L,rec t=some L→∀fuel cs (x:DataW H×List MemPlace),DataW.trod enc P w base spare held fuel t cs=some x→cs.length=L.length∧∀(i:Nat) u,L[i]?=some u→∃v n y,cs[i]?=some v∧DataW.trod enc P w base spare held n u [v]=some y):
 ∀(l:List Field)(o:Nat)(L:List TypeId),v3 rec P total l o=some L→
  (∀f∈l,∃n x,DataW.trod enc P w base spare held n f.type ((cs.drop f.offset).take (P.cellsOf f.type))=some x)→(cs.drop o).length=L.length∧∀(i:Nat) u,L[i]?=some u→∃v n y,(cs.drop o)[i]?=some v∧DataW.trod enc P w base spare held n u [v]=some y
 |[],o,L,h,_=>by
  simp only[v3]at h
  split at h
  ·injection h with h;subst h
   exact⟨by rw[List.drop_eq_nil_of_le (by omega)];rfl,fun i u hu=>by simp at hu⟩
  ·cases h
 |f::l,o,L,h,ht=>by
  simp only[v3]at h
  split at h
  ·rename_i a b ha hb
   split at h
   ·rename_i hc
    injection h with h;subst h
    obtain⟨n,x,hx⟩:=ht f List.mem_cons_self
    obtain⟨h1,h2⟩:=wm _ _ ha n _ x hx
    obtain⟨h3,h4⟩:=tI hlen wm l _ b hb (fun g hg=>ht g (List.mem_cons_of_mem _ hg))
    rw[hc.1]at h1 h2
    have e:cs.drop o=(cs.drop o).take (P.cellsOf f.type)++cs.drop (o+P.cellsOf f.type):=by rw[←List.drop_drop,List.take_append_drop]
    refine⟨by rw[e,List.length_append,h1,h3,List.length_append],fun i u hu=>?_⟩
    rw[e]
    by_cases hi:i<a.length
    ·rw[List.getElem?_append_left hi]at hu
     rw[List.getElem?_append_left (by omega)]
     exact h2 i u hu
    ·rw[List.getElem?_append_right (by omega)]at hu
     rw[List.getElem?_append_right (by omega),h1]
     exact h4 _ u hu
   ·cases h
  ·cases h
theorem vZ:∀(n:Nat)(t:TypeId)(L:List TypeId),Ct P n t=some L→∀fuel cs (x:DataW H×List MemPlace),DataW.trod enc P w base spare held fuel t cs=some x→cs.length=L.length∧∀(i:Nat) u,L[i]?=some u→∃v n y,cs[i]?=some v∧DataW.trod enc P w base spare held n u [v]=some y
 |0,t,L,h,_,_,_,_=>by simp[Ct]at h
 |n+1,t,L,h,fuel,cs,x,hx=>by
  have one:∀v,cs=[v]→L=[t]→cs.length=L.length∧∀(i:Nat) u,L[i]?=some u→∃v n y,cs[i]?=some v∧DataW.trod enc P w base spare held n u [v]=some y:=by
   rintro v rfl rfl
   refine⟨rfl,fun i u hu=>?_⟩
   cases i with
   |zero=>simp at hu;subst hu;exact⟨v,fuel,x,rfl,hx⟩
   |succ i=>simp at hu
  simp only[Ct]at h
  split at h
  ·rename_i fs ht
   obtain⟨xs,m,_,_,hl,fb,hf⟩:=DataW.trod_struct ht hx
   have:=tI hl (vZ n) fs.toList 0 L h (fun f AJ=>by
    obtain⟨i,hi⟩:=List.getElem?_of_mem AJ
    have lf:fs[i]?=some f:=by simpa using hi
    have bh:i<xs.length:=by
     have:=(Array.getElem?_eq_some_iff.1 lf).1
     omega
    refine⟨m,xs[i],?_⟩
    rw[hf i f lf,List.getElem?_eq_getElem bh])
   rwa[List.drop_zero]at this
  ·rename_i k ht
   obtain⟨m,e,_,_⟩:=DataW.trod_int ht hx
   exact one _ e (by injection h with h;exact h.symm)
  ·rename_i ht
   obtain⟨b,e,_⟩:=DataW.trod_bool ht hx
   exact one _ e (by injection h with h;exact h.symm)
  ·rename_i e0 ht
   rcases DataW.trod_slice ht hx with⟨e,_⟩|⟨a,len,cap,elems,rest,n',_,e,_⟩
   ·exact one _ e (by injection h with h;exact h.symm)
   ·exact one _ e (by injection h with h;exact h.symm)
  ·cases h
end
section
variable{H:Type}{enc:TypeId×Value→H}{P:Program}{w:World}
theorem Cm {b0:Nat}:∀(us:List TypeId)(L:List LX)(cs:List Value)(M:AH)(ρ:Env)(vs:List Value)(as:List AV),us.mapM (v8 P)=some L→cs.length=us.length→
 (∀(i:Nat) u,us[i]?=some u→∃v n y,cs[i]?=some v∧Value.okWide P w .any b0 u v∧DataW.trod enc P w 0 (fun _=>true) true n u [v]=some y)→pG w M ρ vs as→CL L M fun l M'=>l.length=cs.length∧∃ρ',pG w M' ρ' (vs++cs) (as++l)
 |[],L,cs,M,ρ,vs,as,hL,hc,_,h=>by
  obtain rfl:cs=[]:=List.eq_nil_of_length_eq_zero hc
  simp at hL;subst hL
  exact⟨rfl,ρ,by simpa using h⟩
 |u::us,L,[],M,ρ,vs,as,hL,hc,_,h=>by simp at hc
 |u::us,L,v::cs,M,ρ,vs,as,hL,hc,hall,h=>by
  rw[List.mapM_cons]at hL
  cases hk:v8 P u with
  |none=>rw[hk]at hL;cases hL
  |some k=>
   cases hr:us.mapM (v8 P)with
   |none=>rw[hk,hr]at hL;cases hL
   |some L'=>
    rw[hk,hr]at hL
    obtain rfl:k::L'=L:=by simpa using hL
    obtain⟨v',n,y,h1,h2,h3⟩:=hall 0 u rfl
    obtain rfl:v=v':=by simpa using h1
    have ih:=fun M ρ vs as=>Cm us L' cs M ρ vs as hr (by simpa using hc) (fun i u' hu=>hall (i+1) u' (by simpa using hu))
    have fin:∀(a:AV)(M':AH)(ρ':Env),pG w M' ρ' (vs++[v]) (as++[a])→CL L' M' fun l mK=>(a::l).length=(v::cs).length∧∃iG,pG w mK iG (vs++v::cs) (as++a::l):=by
     intro a M' ρ' Dr
     refine lp (ih M' ρ' _ _ Dr) fun l mK hl=>?_
     obtain⟨h5,iG,h6⟩:=hl
     exact⟨by simp[h5],iG,by simpa using h6⟩
    unfold v8 at hk
    split at hk
    ·rename_i kk ht
     cases hk
     obtain⟨m,e,_,hw⟩:=DataW.trod_int ht h3
     obtain rfl:v=.int kk m:=by simpa using e
     exact⟨m,zz hw,fin (.int kk m) M ρ (h.snoc trivial rfl)⟩
    ·rename_i ht
     cases hk
     obtain⟨b,e,_⟩:=DataW.trod_bool ht h3
     obtain rfl:v=.bool b:=by simpa using e
     exact⟨b,fin (.bo b) M ρ (h.snoc trivial rfl)⟩
    ·rename_i e0 ht
     split at hk
     ·rename_i kk he
      split at hk
      ·rename_i hce
       cases hk
       have hv:v.cells.toList=[v]:=by
        obtain⟨a,len,cap,rfl⟩:=okWide_slice ht h2
        rfl
       obtain⟨xs,c,ρ',h5,h6,h7⟩:=h.ints ht he hce h2 (d:=y.1) (ps:=y.2) ⟨n,by rw[hv];exact h3⟩
       exact⟨xs,c,h5,h6,fin _ _ _ h7⟩
      ·cases hk
     ·cases hk
    ·cases hk
theorem mapM_mem {α β:Type}{f:α→Option β}:∀{l:List α}{L:List β},l.mapM f=some L→∀{u:α},u∈l→∃k,f u=some k
 |[],_,_,u,h=>by cases h
 |a::l,L,hL,u,h=>by
  rw[List.mapM_cons]at hL
  cases hk:f a with
  |none=>rw[hk]at hL;cases hL
  |some k=>
   cases hr:l.mapM f with
   |none=>rw[hk,hr]at hL;cases hL
   |some L'=>
    rcases List.mem_cons.1 h with rfl|h
    ·exact⟨k,hk⟩
    ·exact mapM_mem hr h
theorem pG.mixed {b0:Nat}{M:AH}{ρ:Env}{vs:List Value}{as:List AV}(h:pG w M ρ vs as){t:TypeId}{fs:Array Field}{v:Value}{d:DataW H}{ps:List MemPlace}{us:List TypeId}{L:List LX}(ht:P.underlying t=some (.struct fs))(hu:Ct P 8 t=some us)(hc:P.cellTypes P.depth t=some us)(hL:us.mapM (v8 P)=some L)
 (iN:Value.okWide P w .any b0 t v)(hd:DataW.Trod enc P w 0 (fun _=>true) true t v d ps):
 CL L M fun l M'=>∃ρ',pG w M' ρ' (vs++[v]) (as++[.agg l]):=by
 obtain⟨fuel,hf⟩:=hd
 simp only[Value.okWide,ht]at iN
 obtain⟨cs,rfl,fb,ts,lL,_,dY⟩:=iN
 rw[hc]at lL
 cases lL
 have AJ:DataW.trod enc P w 0 (fun _=>true) true fuel t cs.toList=some (d,ps):=hf
 obtain⟨h1,h2⟩:=vZ 8 t us hu fuel _ _ AJ
 refine lp (Cm (enc:=enc) (b0:=b0) us L cs.toList M ρ vs as hL h1 (fun i u hi=>?_) h) fun l M' hl=>?_
 ·obtain⟨v,n,y,h3,h4⟩:=h2 i u hi
  refine⟨v,n,y,h3,?_,h4⟩
  have gv:i<us.length:=(List.getElem?_eq_some_iff.1 hi).1
  obtain⟨u',h5,h6⟩:=dY i v (by simpa using h3)
  rw[Nat.mod_eq_of_lt gv,hi]at h5
  cases h5
  have kJ:u∈us:=List.mem_of_getElem? hi
  have U4:∃k,v8 P u=some k:=mapM_mem hL kJ
  obtain⟨k,hk⟩:=U4
  unfold v8 at hk
  unfold Value.okWide
  split at hk
  ·rename_i kk hu;rw[hu];exact h6
  ·rename_i hu;rw[hu];exact h6
  ·rename_i e hu;rw[hu];exact h6
  ·cases hk
 ·obtain⟨hlen,ρ',hr⟩:=hl
  refine⟨ρ',hr.S1,hr.no,?_,?_⟩
  ·have:=hr.ok
   rw[AV.aQ]at this⊢
   intro x hx
   rcases List.mem_append.1 hx with hx|hx
   ·exact this x (List.mem_append_left _ hx)
   ·obtain rfl:=List.mem_singleton.1 hx
    show AV.eb ρ' l
    rw[AV.aQ]
    exact fun y hy=>this y (List.mem_append_right _ hy)
  ·have:=hr.eq
   rw[gW]at this⊢
   have o8:vs.length=(AV.cl ρ' as).length:=by
    have:=congrArg List.length this
    simp only[List.length_append,AV.bc,List.length_map]at this⊢
    omega
   obtain⟨e1,e2⟩:=List.append_inj this o8
   rw[←e1]
   simp[AV.cl,AV.c,←e2]
end
end Go.Proofs.Ytibadaomjlkoaaa
