import Derived.Test.YtibadaomjlkoaaaG2
set_option linter.unusedVariables false
set_option linter.unusedSimpArgs false
open Go.RowKit
namespace Go.Proofs.Ytibadaomjlkoaaa
def DU {σ:Type}(I:σ→Prop)(μ:σ→Nat)(A:σ→List (Nat×AV))(H:σ→AH)(Q:jr→AA→AH→Prop)(k:Nat)(e:jr)(a:AA)(M:AH):Prop:=
 match e with
 | .normal=>∃s l M',(I s∧μ s<k)∧xV l a∧l.map (·.1)=(A s).map (·.1)∧Vw M M' (l.map (·.2)) ((A s).map (·.2))∧j5 M' (H s)
 |e=>Q e a M
theorem Df {ρ:Env}{D:List Deferred}{n:Nat}{a:AA}{act:Act}(hA:bQ ρ D n a act):∀{l:List (Nat×AV)},xV l a→AV.eb ρ (l.map (·.2))
 |[],_=>trivial
 |x::l,h=>⟨(show x.2.ok ρ from h.1▸hA.ok _),Df hA h.2⟩
theorem JS {ρ ρ':Env}{D:List Deferred}{n:Nat}{a:AA}{act:Act}(hA:bQ ρ D n a act){l l':List (Nat×AV)}(ha:xV l a)(hk:l.map (·.1)=l'.map (·.1))
 (h3:AV.cl ρ' (l'.map (·.2))=AV.cl ρ (l.map (·.2)))(h4:AV.eb ρ' (l'.map (·.2))):bQ ρ' D n (mN l' fun t=>act.tmps.getD t undef) act:=by
 refine⟨hA.defers,hA.size,fun t=>?_,fun t=>?_⟩
 ·simp only[mN]
  split
  ·rename_i v qp
   clear ha h3 hk
   induction l' with
   |nil=>cases qp
   |cons y l' ih=>
    simp only[xS]at qp
    split at qp
    ·injection qp with qp;subst qp;exact h4.1
    ·exact ih h4.2 qp
  ·exact trivial
 ·simp only[mN]
  split
  ·rename_i v qp
   have hg:=hA.get t
   clear h4
   induction l' generalizing l with
   |nil=>cases qp
   |cons y l' ih=>
    cases l with
    |nil=>cases hk
    |cons x l=>
     simp only[List.map_cons,List.cons.injEq]at hk
     simp only[List.map_cons,AV.cl,List.cons.injEq]at h3
     simp only[xS]at qp
     split at qp
     ·rename_i hb
      injection qp with qp;subst qp
      have ht:t=y.1:=Nat.eq_of_beq_eq_true hb
      have Js:=ha.1
      rw[h3.1,←Js,hk.1,←ht];exact hg
     ·exact ih ha.2 hk.2 h3.2 qp
  ·rfl
theorem WA.V5 {x:Cx}{σ:Type}(I:σ→Prop)(μ:σ→Nat)(A:σ→List (Nat×AV))(H:σ→AH)(s0:σ)
 (hT:av x.P x.T)(hm:x.P.follows .mixedOrders=true){c:Code}(cg:ai x.pl c=true){Q:jr→AA→AH→Prop}{Kp:AV→AH→Prop}{a:AA}{M:AH}
 (h0:∃l M',I s0∧xV l a∧l.map (·.1)=(A s0).map (·.1)∧Vw M M' (l.map (·.2)) ((A s0).map (·.2))∧j5 M' (H s0))(hlen:∀s,Nat.ble M.length (H s).length=true)(hA:∀s,Lb (H s).length (A s)=true)(hH:∀s,kq (H s).length (H s))
 (nV:∀s,I s→∀d,bO x c (DU I μ A H Q (μ s)) Kp (mN (A s) d) (H s)):
 WA x.P x.r x.D x.n (.loop c) Q Kp a M:=by
 unfold WA
 intro pin D0 ρ0 w0 MT nj Ws CC Qd
 let Inv:Nat→Act→World→Prop:=fun k act w=>dH pin act∧∃s ρ,I s∧μ s=k∧aW ρ (H s) w∧Ext ρ0 M w0 ρ (H s) w∧∃D d,Marks w0.heap.size D0 D w∧bQ ρ D x.n (mN (A s) d) act
 have hle:∀s,M.length≤(H s).length:=fun s=>by simpa using hlen s
 have aa9:∀(s:σ)(d:Nat→Value),xV (A s) (mN (A s) d)∨True:=fun _ _=>.inr trivial
 have mk:∀s ρ M' a' aP w' l N D,dH pin aP→I s→aW ρ M' w'→Ext ρ0 M w0 ρ M' w'→Marks w0.heap.size D0 D w'→bQ ρ D x.n a' aP→xV l a'→l.map (·.1)=(A s).map (·.1)→Vw M' N (l.map (·.2)) ((A s).map (·.2))→j5 N (H s)→Inv (μ s) aP w':=by
  intro s ρ M' a' aP w' l N D JV hI h1 h2 lM h3 h4 h5 h6 h7
  obtain⟨ρ',b1,b2,b3,b4⟩:=h6 ρ w' h1 (Df h3 h4)
  have xQ:=JS h3 h4 h5 b3 b4
  obtain⟨k1,k2⟩:=q8 CC.pr b1 (h2.trans b2) h7 (hH s) (hle s)
  refine⟨JV,s,_,hI,rfl,k1,k2,D,fun t=>aP.tmps.getD t undef,lM,xQ.defers,xQ.size,fun t=>?_,fun t=>?_⟩
  ·have aF:=xQ.ok t
   simp only[mN]at aF⊢
   split
   ·rename_i v hv
    rw[hv]at aF
    exact AV.pN v (oQ (hA s) hv) aF
   ·exact trivial
  ·have hg:=xQ.get t
   have aF:=xQ.ok t
   simp only[mN]at hg aF⊢
   split
   ·rename_i v hv
    rw[hv]at hg aF
    simp only at hg aF
    rw[AV.Ec (oQ (hA s) hv) aF];exact hg
   ·rfl
 obtain⟨l0,N0,i1,i2,i3,i4,i5⟩:=h0
 have a8:=mk s0 ρ0 M a MT w0 l0 N0 D0 Ws i1 CC (Ext.refl _ _ _) (Marks.refl _ _ _) Qd i2 i3 i4 i5
 refine wpIn_loop (fun act w=>∃k,Inv k act w) (fun act w=>by classical exact if h:∃k,Inv k act w then Classical.choose (di h)else 0) ⟨_,a8⟩ ?_
 intro act w hI
 have T1:=Classical.choose_spec (di hI)
 rw[dif_pos hI]
 generalize Classical.choose (di hI)=k at*
 obtain⟨⟨JV,s,ρ,hIs,rfl,hs,hE,D,d,Jj,ha⟩,T0⟩:=T1
 refine wpIn_mono (gV hT hm c cg _ Kp _ _ ρ w act D hs hE Jj ha nj JV (nV s hIs d)) fun e aP w' hq=>?_
 obtain⟨hq,sT⟩:=hq
 cases e with
 |normal=>
  obtain⟨ρ',M',a',D',h1,h2,WH,h3,s',l',N',⟨h4,h5⟩,h6,h7,h8,h9⟩:=hq
  have Jc:=mk s' ρ' M' a' aP w' l' N' D' sT h4 h1 h2 WH h3 h6 h7 h8 h9
  have hex:∃k,Inv k aP w':=⟨_,Jc⟩
  refine⟨hex,?_⟩
  rw[dif_pos hex]
  have:=(Classical.choose_spec (di hex)).2 _ Jc
  omega
 |exit id=>exact⟨hq,sT⟩
 |ret=>exact⟨hq,sT⟩
 |panic ch=>exact⟨hq,sT⟩
 |goto l=>exact hq.elim
 |outgrown=>exact hq.elim
theorem Vw.trans {M M' mK:AH}{l l' l'':List AV}(h:Vw M M' l l')(h':Vw M' mK l' l''):Vw M mK l l'':=by
 intro ρ w hs aF
 obtain⟨ot,a1,a2,a3,a4⟩:=h ρ w hs aF
 obtain⟨e9,b1,b2,b3,b4⟩:=h' ot w a1 a4
 exact⟨e9,b1,a2.trans b2,b3.trans a3,b4⟩
def oS (k gk i gi:Nat)(v v':AV):Prop:=
 v'=v∨(∃o n c,v=.sl k gk o n c∧v'=.sl i gi o n c)∨(∃o,v=.ptr k gk o∧v'=.ptr i gi o)
def ZR (k gk i gi:Nat):List AV→List AV→Prop
 |[],[]=>True
 |v::l,v'::l'=>oS k gk i gi v v'∧ZR k gk i gi l l'
 |_,_=>False
theorem oS.same {k gk i gi:Nat}{v:AV}:oS k gk i gi v v:=.inl rfl
theorem oS.sl {k gk i gi o n c:Nat}:oS k gk i gi (.sl k gk o n c) (.sl i gi o n c):=.inr (.inl ⟨o,n,c,rfl,rfl⟩)
theorem Vw.move {M:AH}{i k gi gk:Nat}{x y:af}{l l':List AV}(hi:M[i]?=some (.one true gi x))(hk:M[k]?=some (.one true gk y))(pe:Nat.beq i k=false)(hl:ZR k gk i (gi+1) l l'):
 Vw M ((M.set i (.one true (gi+1) y)).set k .gone) l l':=by
 have eN:i≠k:=Nat.ne_of_beq_eq_false pe
 have gv:i<M.length:=(List.getElem?_eq_some_iff.1 hi).1
 have JW:k<M.length:=(List.getElem?_eq_some_iff.1 hk).1
 intro ρ w hs aF
 obtain⟨loc,wq⟩:∃loc,ρ k gk=some loc:=by
  rcases hs.holds k gk true y (ao hk)with⟨q,e1,_⟩|⟨e1,_⟩
  ·exact⟨_,e1⟩
  ·exact⟨_,e1⟩
 have ku:(ρ i (gi+1)).isSome=false:=by
  cases hh:(ρ i (gi+1)).isSome with
  |false=>rfl
  |true=>exact absurd (hs.tag i _ true gi x hi hh) (by omega)
 have kK:=dI (l:=loc) ku
 have fW:∀{g own z},slot ((M.set i (AO.one true (gi+1) y)).set k .gone) i g=some (own,z)→g=gi+1∧own=true∧z=y:=by
  intro g own z h
  unfold slot at h
  rw[List.getElem?_set_ne (Ne.symm eN),List.getElem?_set_self (by simpa using gv)]at h
  simp only[bq]at h
  split at h
  ·injection h with h;injection h with a b;exact⟨‹_›,a.symm,b.symm⟩
  ·cases h
 have pC:∀{g own z},slot ((M.set i (AO.one true (gi+1) y)).set k .gone) k g=some (own,z)→False:=by
  intro g own z h
  unfold slot at h
  rw[List.getElem?_set_self (by simpa using JW)]at h
  cases h
 have hs3:∀{j g:Nat},j≠i→j≠k→slot ((M.set i (AO.one true (gi+1) y)).set k .gone) j g=slot M j g:=by
  intro j g h1 h2
  unfold slot
  rw[List.getElem?_set_ne (Ne.symm h2),List.getElem?_set_ne (Ne.symm h1)]
 have cH:∀{j g:Nat},j≠i→kO ρ i (gi+1) loc j g=ρ j g:=fun h=>by simp[kO,h]
 refine⟨kO ρ i (gi+1) loc,⟨?_,?_,?_,?_,?_⟩,⟨kK,Nat.le_refl _,fun _ _ _=>rfl,?_,rfl,rfl,rfl⟩,?_⟩
 ·intro j g h
  rcases ek j g h with h1|⟨rfl,_⟩
  ·simpa using hs.pr j g h1
  ·simpa using gv
 ·intro j g own g' z hm h
  by_cases h1:j=i
  ·subst h1
   rw[List.getElem?_set_ne (Ne.symm eN),List.getElem?_set_self (by simpa using gv)]at hm
   injection hm with hm;injection hm with _ e _;subst e
   rcases ek j g h with h2|⟨_,rfl⟩
   ·have:=hs.tag j g true gi x hi h2;omega
   ·exact Nat.le_refl _
  ·by_cases h2:j=k
   ·subst h2
    rw[List.getElem?_set_self (by simpa using JW)]at hm;cases hm
   ·rw[List.getElem?_set_ne (Ne.symm h2),List.getElem?_set_ne (Ne.symm h1)]at hm
    rw[cH h1]at h
    exact hs.tag j g own g' z hm h
 ·intro j g own m z hm h
  by_cases h1:j=i
  ·subst h1
   rw[List.getElem?_set_ne (Ne.symm eN),List.getElem?_set_self (by simpa using gv)]at hm;cases hm
  ·by_cases h2:j=k
   ·subst h2
    rw[List.getElem?_set_self (by simpa using JW)]at hm;cases hm
   ·rw[List.getElem?_set_ne (Ne.symm h2),List.getElem?_set_ne (Ne.symm h1)]at hm
    rw[cH h1]at h
    exact hs.aX j g own m z hm h
 ·intro j g own z h
  by_cases h1:j=i
  ·subst h1
   obtain⟨rfl,rfl,rfl⟩:=fW h
   rw[ay]
   rcases hs.holds k gk true z (ao hk)with⟨q,e1,e2⟩|⟨e1,e2⟩
   ·rw[wq]at e1;injection e1 with e1;subst e1
    exact .inl ⟨q,rfl,e2.ext kK rfl⟩
   ·rw[wq]at e1;injection e1 with e1;subst e1
    exact .inr ⟨rfl,e2⟩
  ·by_cases h2:j=k
   ·subst h2;exact(pC h).elim
   ·rw[hs3 h1 h2]at h
    rw[cH h1]
    rcases hs.holds j g own z h with⟨q,e1,e2⟩|e
    ·exact .inl ⟨q,e1,e2.ext kK rfl⟩
    ·exact .inr e
 ·intro j g z j' g' bJ z' q q' h h' e e' he
  have old:∀{j g own z q},slot ((M.set i (AO.one true (gi+1) y)).set k .gone) j g=some (own,z)→kO ρ i (gi+1) loc j g=some (some q)→
   ∃j0 g0,slot M j0 g0=some (own,z)∧ρ j0 g0=some (some q)∧((j=i∧g=gi+1∧j0=k∧g0=gk)∨(j≠i∧j≠k∧j0=j∧g0=g)):=by
   intro j g own z q h e
   by_cases h1:j=i
   ·subst h1
    obtain⟨rfl,rfl,rfl⟩:=fW h
    rw[ay]at e;injection e with e;subst e
    exact⟨k,gk,ao hk,wq,.inl ⟨rfl,rfl,rfl,rfl⟩⟩
   ·by_cases h2:j=k
    ·subst h2;exact(pC h).elim
    ·rw[hs3 h1 h2]at h;rw[cH h1]at e
     exact⟨j,g,h,e,.inr ⟨h1,h2,rfl,rfl⟩⟩
  obtain⟨a,b,c1,c2,c3⟩:=old h e
  obtain⟨a',b',d1,d2,d3⟩:=old h' e'
  obtain⟨f1,f2⟩:=hs.apart a b z a' b' bJ z' q q' c1 d1 c2 d2 he
  rcases c3 with⟨r1,r2,r3,r4⟩|⟨r1,r2,r3,r4⟩<;>rcases d3 with⟨t1,t2,t3,t4⟩|⟨t1,t2,t3,t4⟩
  ·exact⟨r1.trans t1.symm,r2.trans t2.symm⟩
  ·exact absurd (t3.symm.trans (f1.symm.trans r3)) t2
  ·exact absurd (r3.symm.trans (f1.trans t3)) r2
  ·exact⟨r3.symm.trans (f1.trans t3),r4.symm.trans (f2.trans t4)⟩
 ·intro j g z q h e hb
  by_cases h1:j=i
  ·subst h1
   obtain⟨rfl,_,rfl⟩:=fW h
   rw[ay]at e;injection e with e;subst e
   exact⟨k,gk,z,q,ao hk,wq,rfl⟩
  ·by_cases h2:j=k
   ·subst h2;exact(pC h).elim
   ·rw[hs3 h1 h2]at h;rw[cH h1]at e
    exact⟨j,g,z,q,h,e,rfl⟩
 ·have one:∀v v',oS k gk i (gi+1) v v'→v.ok ρ→v'.c (kO ρ i (gi+1) loc)=v.c ρ∧v'.ok (kO ρ i (gi+1) loc):=by
   intro v v' h hv
   rcases h with rfl|⟨o,n,c,rfl,rfl⟩|⟨o,rfl,rfl⟩
   ·exact⟨AV.dr kK _ hv,AV.cW kK _ hv⟩
   ·simp[AV.c,AV.ok,ay,wq]
   ·simp[AV.c,AV.ok,ay,wq]
  have all:∀l l':List AV,ZR k gk i (gi+1) l l'→AV.eb ρ l→AV.cl (kO ρ i (gi+1) loc) l'=AV.cl ρ l∧AV.eb (kO ρ i (gi+1) loc) l':=by
   intro l
   induction l with
   |nil=>intro l' h _;cases l' with
    |nil=>exact⟨rfl,trivial⟩
    |cons _ _=>cases h
   |cons v l ih=>
    intro l' h aF
    cases l' with
    |nil=>cases h
    |cons v' l'=>
     obtain⟨g1,g2⟩:=ih l' h.2 aF.2
     obtain⟨g3,g4⟩:=one v v' h.1 aF.1
     exact⟨by simp only[AV.cl,g1,g3],g4,g2⟩
  exact all l l' hl aF
end Go.Proofs.Ytibadaomjlkoaaa
