import Derived.Test.YtibadaomjlkoaaaG2
set_option linter.unusedVariables false
set_option linter.unusedSimpArgs false
open Go.RowKit
namespace Go.Proofs.Ytibadaomjlkoaaa
def B9 {σ:Type}(I:σ→Prop)(μ:σ→Nat)(A:σ→List (Nat×AV))(H:σ→AH)(Q:jm→AA→AH→Prop)(k:Nat)(e:jm)(a:AA)(M:AH):Prop:=
 match e with
 | .normal=>∃s l M',(I s∧μ s<k)∧v3 l a∧l.map (·.1)=(A s).map (·.1)∧Vw M M' (l.map (·.2)) ((A s).map (·.2))∧jr M' (H s)
 |e=>Q e a M
theorem BB {ρ:Env}{D:List Deferred}{n:Nat}{a:AA}{act:Act}(hA:bE ρ D n a act):∀{l:List (Nat×AV)},v3 l a→AV.dK ρ (l.map (·.2))
 |[],_=>trivial
 |x::l,h=>⟨(show x.2.ok ρ from h.1▸hA.ok _),BB hA h.2⟩
theorem HH {ρ ρ':Env}{D:List Deferred}{n:Nat}{a:AA}{act:Act}(hA:bE ρ D n a act){l l':List (Nat×AV)}(ha:v3 l a)(hk:l.map (·.1)=l'.map (·.1))
 (h3:AV.cl ρ' (l'.map (·.2))=AV.cl ρ (l.map (·.2)))(h4:AV.dK ρ' (l'.map (·.2))):bE ρ' D n (lS l' fun t=>act.tmps.getD t undef) act:=by
 refine⟨hA.defers,hA.size,fun t=>?_,fun t=>?_⟩
 ·simp only[lS]
  split
  ·rename_i v ph
   clear ha h3 hk
   induction l' with
   |nil=>cases ph
   |cons y l' ih=>
    simp only[vX]at ph
    split at ph
    ·injection ph with ph;subst ph;exact h4.1
    ·exact ih h4.2 ph
  ·exact trivial
 ·simp only[lS]
  split
  ·rename_i v ph
   have hg:=hA.get t
   clear h4
   induction l' generalizing l with
   |nil=>cases ph
   |cons y l' ih=>
    cases l with
    |nil=>cases hk
    |cons x l=>
     simp only[List.map_cons,List.cons.injEq]at hk
     simp only[List.map_cons,AV.cl,List.cons.injEq]at h3
     simp only[vX]at ph
     split at ph
     ·rename_i hb
      injection ph with ph;subst ph
      have ht:t=y.1:=Nat.eq_of_beq_eq_true hb
      have NF:=ha.1
      rw[h3.1,←NF,hk.1,←ht];exact hg
     ·exact ih ha.2 hk.2 h3.2 ph
  ·rfl
theorem WA.Ta {x:Cx}{σ:Type}(I:σ→Prop)(μ:σ→Nat)(A:σ→List (Nat×AV))(H:σ→AH)(s0:σ)
 (hT:aq x.P x.T)(hm:x.P.follows .mixedOrders=true){c:Code}(bW:aj x.pl c=true){Q:jm→AA→AH→Prop}{Kp:AV→AH→Prop}{a:AA}{M:AH}
 (h0:∃l M',I s0∧v3 l a∧l.map (·.1)=(A s0).map (·.1)∧Vw M M' (l.map (·.2)) ((A s0).map (·.2))∧jr M' (H s0))(hlen:∀s,Nat.ble M.length (H s).length=true)(hA:∀s,I1 (H s).length (A s)=true)(hH:∀s,mi (H s).length (H s))
 (mR:∀s,I s→∀d,bT x c (B9 I μ A H Q (μ s)) Kp (lS (A s) d) (H s)):
 WA x.P x.r x.D x.n (.loop c) Q Kp a M:=by
 unfold WA
 intro pin D0 ρ0 w0 KA mj Ty AW NG
 let Inv:Nat→Act→World→Prop:=fun k act w=>dw pin act∧∃s ρ,I s∧μ s=k∧aU ρ (H s) w∧Ext ρ0 M w0 ρ (H s) w∧∃D d,Marks w0.heap.size D0 D w∧bE ρ D x.n (lS (A s) d) act
 have hle:∀s,M.length≤(H s).length:=fun s=>by simpa using hlen s
 have aaj:∀(s:σ)(d:Nat→Value),v3 (A s) (lS (A s) d)∨True:=fun _ _=>.inr trivial
 have mk:∀s ρ M' a' aJ w' l N D,dw pin aJ→I s→aU ρ M' w'→Ext ρ0 M w0 ρ M' w'→Marks w0.heap.size D0 D w'→bE ρ D x.n a' aJ→v3 l a'→l.map (·.1)=(A s).map (·.1)→Vw M' N (l.map (·.2)) ((A s).map (·.2))→jr N (H s)→Inv (μ s) aJ w':=by
  intro s ρ M' a' aJ w' l N D HM hI h1 h2 kP h3 h4 h5 h6 h7
  obtain⟨ρ',b1,b2,b3,b4⟩:=h6 ρ w' h1 (BB h3 h4)
  have vV:=HH h3 h4 h5 b3 b4
  obtain⟨k1,k2⟩:=pW AW.n8 b1 (h2.trans b2) h7 (hH s) (hle s)
  refine⟨HM,s,_,hI,rfl,k1,k2,D,fun t=>aJ.tmps.getD t undef,kP,vV.defers,vV.size,fun t=>?_,fun t=>?_⟩
  ·have aA:=vV.ok t
   simp only[lS]at aA⊢
   split
   ·rename_i v hv
    rw[hv]at aA
    exact AV.oE v (nK (hA s) hv) aA
   ·exact trivial
  ·have hg:=vV.get t
   have aA:=vV.ok t
   simp only[lS]at hg aA⊢
   split
   ·rename_i v hv
    rw[hv]at hg aA
    simp only at hg aA
    rw[AV.Cm (nK (hA s) hv) aA];exact hg
   ·rfl
 obtain⟨l0,N0,i1,i2,i3,i4,i5⟩:=h0
 have dI:=mk s0 ρ0 M a KA w0 l0 N0 D0 Ty i1 AW (Ext.refl _ _ _) (Marks.refl _ _ _) NG i2 i3 i4 i5
 refine wpIn_loop (fun act w=>∃k,Inv k act w) (fun act w=>by classical exact if h:∃k,Inv k act w then Classical.choose (cY h)else 0) ⟨_,dI⟩ ?_
 intro act w hI
 have Ra:=Classical.choose_spec (cY hI)
 rw[dif_pos hI]
 generalize Classical.choose (cY hI)=k at*
 obtain⟨⟨HM,s,ρ,X1,rfl,hs,hE,D,d,JC,ha⟩,Q9⟩:=Ra
 refine wpIn_mono (fU hT hm c bW _ Kp _ _ ρ w act D hs hE JC ha mj HM (mR s X1 d)) fun e aJ w' hq=>?_
 obtain⟨hq,rj⟩:=hq
 cases e with
 |normal=>
  obtain⟨ρ',M',a',D',h1,h2,TP,h3,s',l',N',⟨h4,h5⟩,h6,h7,h8,h9⟩:=hq
  have G2:=mk s' ρ' M' a' aJ w' l' N' D' rj h4 h1 h2 TP h3 h6 h7 h8 h9
  have hex:∃k,Inv k aJ w':=⟨_,G2⟩
  refine⟨hex,?_⟩
  rw[dif_pos hex]
  have:=(Classical.choose_spec (cY hex)).2 _ G2
  omega
 |exit id=>exact⟨hq,rj⟩
 |ret=>exact⟨hq,rj⟩
 |panic ch=>exact⟨hq,rj⟩
 |goto l=>exact hq.elim
 |outgrown=>exact hq.elim
theorem Vw.trans {M M' lO:AH}{l l' YJ:List AV}(h:Vw M M' l l')(h':Vw M' lO l' YJ):Vw M lO l YJ:=by
 intro ρ w hs aA
 obtain⟨nq,a1,a2,a3,a4⟩:=h ρ w hs aA
 obtain⟨eH,b1,b2,b3,b4⟩:=h' nq w a1 a4
 exact⟨eH,b1,a2.trans b2,b3.trans a3,b4⟩
def nM (k gk i gi:Nat)(v v':AV):Prop:=
 v'=v∨(∃o n c,v=.sl k gk o n c∧v'=.sl i gi o n c)∨(∃o,v=.ptr k gk o∧v'=.ptr i gi o)
def WG (k gk i gi:Nat):List AV→List AV→Prop
 |[],[]=>True
 |v::l,v'::l'=>nM k gk i gi v v'∧WG k gk i gi l l'
 |_,_=>False
theorem nM.same {k gk i gi:Nat}{v:AV}:nM k gk i gi v v:=.inl rfl
theorem nM.sl {k gk i gi o n c:Nat}:nM k gk i gi (.sl k gk o n c) (.sl i gi o n c):=.inr (.inl ⟨o,n,c,rfl,rfl⟩)
theorem Vw.move {M:AH}{i k gi gk:Nat}{x y:af}{l l':List AV}(hi:M[i]?=some (.one true gi x))(hk:M[k]?=some (.one true gk y))(nX:Nat.beq i k=false)(hl:WG k gk i (gi+1) l l'):
 Vw M ((M.set i (.one true (gi+1) y)).set k .gone) l l':=by
 have eU:i≠k:=Nat.ne_of_beq_eq_false nX
 have jq:i<M.length:=(List.getElem?_eq_some_iff.1 hi).1
 have HO:k<M.length:=(List.getElem?_eq_some_iff.1 hk).1
 intro ρ w hs aA
 obtain⟨loc,uI⟩:∃loc,ρ k gk=some loc:=by
  rcases hs.holds k gk true y (ak hk)with⟨q,e1,_⟩|⟨e1,_⟩
  ·exact⟨_,e1⟩
  ·exact⟨_,e1⟩
 have jM:(ρ i (gi+1)).isSome=false:=by
  cases hh:(ρ i (gi+1)).isSome with
  |false=>rfl
  |true=>exact absurd (hs.tag i _ true gi x hi hh) (by omega)
 have jZ:=dx (l:=loc) jM
 have gJ:∀{g own z},slot ((M.set i (AO.one true (gi+1) y)).set k .gone) i g=some (own,z)→g=gi+1∧own=true∧z=y:=by
  intro g own z h
  unfold slot at h
  rw[List.getElem?_set_ne (Ne.symm eU),List.getElem?_set_self (by simpa using jq)]at h
  simp only[bc]at h
  split at h
  ·injection h with h;injection h with a b;exact⟨‹_›,a.symm,b.symm⟩
  ·cases h
 have om:∀{g own z},slot ((M.set i (AO.one true (gi+1) y)).set k .gone) k g=some (own,z)→False:=by
  intro g own z h
  unfold slot at h
  rw[List.getElem?_set_self (by simpa using HO)]at h
  cases h
 have W3:∀{j g:Nat},j≠i→j≠k→slot ((M.set i (AO.one true (gi+1) y)).set k .gone) j g=slot M j g:=by
  intro j g h1 h2
  unfold slot
  rw[List.getElem?_set_ne (Ne.symm h2),List.getElem?_set_ne (Ne.symm h1)]
 have cq:∀{j g:Nat},j≠i→j8 ρ i (gi+1) loc j g=ρ j g:=fun h=>by simp[j8,h]
 refine⟨j8 ρ i (gi+1) loc,⟨?_,?_,?_,?_,?_⟩,⟨jZ,Nat.le_refl _,fun _ _ _=>rfl,?_,rfl,rfl,rfl⟩,?_⟩
 ·intro j g h
  rcases dM j g h with h1|⟨rfl,_⟩
  ·simpa using hs.n8 j g h1
  ·simpa using jq
 ·intro j g own g' z hm h
  by_cases h1:j=i
  ·subst h1
   rw[List.getElem?_set_ne (Ne.symm eU),List.getElem?_set_self (by simpa using jq)]at hm
   injection hm with hm;injection hm with _ e _;subst e
   rcases dM j g h with h2|⟨_,rfl⟩
   ·have:=hs.tag j g true gi x hi h2;omega
   ·exact Nat.le_refl _
  ·by_cases h2:j=k
   ·subst h2
    rw[List.getElem?_set_self (by simpa using HO)]at hm;cases hm
   ·rw[List.getElem?_set_ne (Ne.symm h2),List.getElem?_set_ne (Ne.symm h1)]at hm
    rw[cq h1]at h
    exact hs.tag j g own g' z hm h
 ·intro j g own m z hm h
  by_cases h1:j=i
  ·subst h1
   rw[List.getElem?_set_ne (Ne.symm eU),List.getElem?_set_self (by simpa using jq)]at hm;cases hm
  ·by_cases h2:j=k
   ·subst h2
    rw[List.getElem?_set_self (by simpa using HO)]at hm;cases hm
   ·rw[List.getElem?_set_ne (Ne.symm h2),List.getElem?_set_ne (Ne.symm h1)]at hm
    rw[cq h1]at h
    exact hs.bG j g own m z hm h
 ·intro j g own z h
  by_cases h1:j=i
  ·subst h1
   obtain⟨rfl,rfl,rfl⟩:=gJ h
   rw[au]
   rcases hs.holds k gk true z (ak hk)with⟨q,e1,e2⟩|⟨e1,e2⟩
   ·rw[uI]at e1;injection e1 with e1;subst e1
    exact .inl ⟨q,rfl,e2.ext jZ rfl⟩
   ·rw[uI]at e1;injection e1 with e1;subst e1
    exact .inr ⟨rfl,e2⟩
  ·by_cases h2:j=k
   ·subst h2;exact(om h).elim
   ·rw[W3 h1 h2]at h
    rw[cq h1]
    rcases hs.holds j g own z h with⟨q,e1,e2⟩|e
    ·exact .inl ⟨q,e1,e2.ext jZ rfl⟩
    ·exact .inr e
 ·intro j g z j' g' bt z' q q' h h' e e' he
  have old:∀{j g own z q},slot ((M.set i (AO.one true (gi+1) y)).set k .gone) j g=some (own,z)→j8 ρ i (gi+1) loc j g=some (some q)→
   ∃j0 g0,slot M j0 g0=some (own,z)∧ρ j0 g0=some (some q)∧((j=i∧g=gi+1∧j0=k∧g0=gk)∨(j≠i∧j≠k∧j0=j∧g0=g)):=by
   intro j g own z q h e
   by_cases h1:j=i
   ·subst h1
    obtain⟨rfl,rfl,rfl⟩:=gJ h
    rw[au]at e;injection e with e;subst e
    exact⟨k,gk,ak hk,uI,.inl ⟨rfl,rfl,rfl,rfl⟩⟩
   ·by_cases h2:j=k
    ·subst h2;exact(om h).elim
    ·rw[W3 h1 h2]at h;rw[cq h1]at e
     exact⟨j,g,h,e,.inr ⟨h1,h2,rfl,rfl⟩⟩
  obtain⟨a,b,c1,c2,c3⟩:=old h e
  obtain⟨a',b',d1,d2,d3⟩:=old h' e'
  obtain⟨f1,f2⟩:=hs.apart a b z a' b' bt z' q q' c1 d1 c2 d2 he
  rcases c3 with⟨r1,r2,r3,r4⟩|⟨r1,r2,r3,r4⟩<;>rcases d3 with⟨t1,t2,t3,t4⟩|⟨t1,t2,t3,t4⟩
  ·exact⟨r1.trans t1.symm,r2.trans t2.symm⟩
  ·exact absurd (t3.symm.trans (f1.symm.trans r3)) t2
  ·exact absurd (r3.symm.trans (f1.trans t3)) r2
  ·exact⟨r3.symm.trans (f1.trans t3),r4.symm.trans (f2.trans t4)⟩
 ·intro j g z q h e hb
  by_cases h1:j=i
  ·subst h1
   obtain⟨rfl,_,rfl⟩:=gJ h
   rw[au]at e;injection e with e;subst e
   exact⟨k,gk,z,q,ak hk,uI,rfl⟩
  ·by_cases h2:j=k
   ·subst h2;exact(om h).elim
   ·rw[W3 h1 h2]at h;rw[cq h1]at e
    exact⟨j,g,z,q,h,e,rfl⟩
 ·have one:∀v v',nM k gk i (gi+1) v v'→v.ok ρ→v'.c (j8 ρ i (gi+1) loc)=v.c ρ∧v'.ok (j8 ρ i (gi+1) loc):=by
   intro v v' h hv
   rcases h with rfl|⟨o,n,c,rfl,rfl⟩|⟨o,rfl,rfl⟩
   ·exact⟨AV.de jZ _ hv,AV.cF jZ _ hv⟩
   ·simp[AV.c,AV.ok,au,uI]
   ·simp[AV.c,AV.ok,au,uI]
  have all:∀l l':List AV,WG k gk i (gi+1) l l'→AV.dK ρ l→AV.cl (j8 ρ i (gi+1) loc) l'=AV.cl ρ l∧AV.dK (j8 ρ i (gi+1) loc) l':=by
   intro l
   induction l with
   |nil=>intro l' h _;cases l' with
    |nil=>exact⟨rfl,trivial⟩
    |cons _ _=>cases h
   |cons v l ih=>
    intro l' h aA
    cases l' with
    |nil=>cases h
    |cons v' l'=>
     obtain⟨g1,g2⟩:=ih l' h.2 aA.2
     obtain⟨g3,g4⟩:=one v v' h.1 aA.1
     exact⟨by simp only[AV.cl,g1,g3],g4,g2⟩
  exact all l l' hl aA
end Go.Proofs.Ytibadaomjlkoaaa
