import Derived.Test.YtibadaomjlkoaaaAb21
set_option linter.unusedVariables false
set_option linter.unusedSimpArgs false
open Go.RowKit
namespace Go.Proofs.Ytibadaomjlkoaaa
theorem aa.QG {x:Cx}(hT:aq x.P x.T)(hm:x.P.follows .mixedOrders=true){g:Nat}{fn:Func}{c:Code}(hf:x.P.funcs[g]?=some fn)(hb:fn.body=some c)(hg:oJ x.P g=true)(bW:aj x.pl c=true)(hr:x.r=none)(hD:x.D=[])
 {args:List AV}{M:AH}{K Kp:AV→AH→Prop}(hn:fn.ntmps=x.n)(hle:Nat.ble args.length x.n=true)
 (h:WA x.P x.r x.D x.n c (ax x.T fn.results.toList K) Kp (ao args) M):aa x.P g args M K Kp:=by
 unfold aa
 refine⟨hg,fun ρ w hs aA=>?_⟩
 have Rb:args.length≤x.n:=by simpa using hle
 have hlen:(AV.cl ρ args).toArray.size=args.length:=by simp[AV.aY]
 have ha:bE ρ x.D x.n (ao args) {tmps:=(AV.cl ρ args).toArray++Array.replicate (fn.ntmps-(AV.cl ρ args).toArray.size) undef,defers:=[]}:=by
  refine⟨hD.symm,?_,fun t=>?_,fun t=>?_⟩
  ·rw[Array.size_append,Array.size_replicate,hlen,hn];omega
  ·simp only[ao];split
   ·exact(AV.aK ρ args).1 aA _ (List.mem_of_getElem? ‹_›)
   ·exact trivial
  ·simp only[ao,Array.getD_eq_getD_getElem?]
   by_cases ht:t<args.length
   ·rw[Array.getElem?_append_left (by rw[hlen];exact ht)]
    simp[AV.aY,List.getElem?_eq_getElem ht]
   ·rw[Array.getElem?_append_right (by rw[hlen];omega),List.getElem?_eq_none (by omega)]
    simp only[Array.getElem?_replicate]
    split<;>rfl
 have hw:=(by unfold WA at h;exact wpIn_mono (h [] x.D ρ w _ (Ar _) (dw.nil _) hs ha) fun _ _ _ h=>h.1)
 rw[hD]at hw
 refine callsIn_wide.1 (callsIn_of_wp_marks (F:=Fence.wide) (n:=0) hf hb trivial (wpIn_mono (Q:=eK ρ M w [] x.n (ax x.T fn.results.toList K) Kp) ?_ fun e act w' hq=>?_))
 ·rw[hr]at hw;exact hw
 ·have fin:∀(ρ':Env)(M':AH)(a':AA)(D':List Deferred),aU ρ' M' w'→Ext ρ M w ρ' M' w'→Marks w.heap.size [] D' w'→bE ρ' D' x.n a' act→(yk x.T M' a' fn.results.toList fun vs=>match vs with|[v]=>K v M'|vs=>K (.aL vs) M')→
   LeavesInM Fence.wide 0 x.P fn act.tmps (iq ρ M w K Kp) act.defers .returning w':=by
   intro ρ' M' a' D' h1 h2 ⟨rs,CD,Fw,xu⟩ h3 h4
   rw[h3.defers,CD,List.append_nil]
   refine cX (by simp) (fun w2 g1 g2=>?_) rs w' Fw xu h1 h2
   obtain⟨vs,k1,k2,k3⟩:=iP hT g1 h3 _ _ h4
   have yQ:(fn.results.mapM (qP act.tmps)).run x.P w2=Result.ok (AV.cl ρ' vs).toArray w2:=by
    rw[Array.mapM_eq_mapM_toList]
    simp[k3]
   show∃v,(results fn act.tmps).run x.P w2=.ok v w2∧iq ρ M w K Kp (.returned v) w2
   rw[iO]
   simp only[Sem.run_bind,yQ]
   match vs,k1,k2 with
   |[v],k1,k2=>exact⟨v.c ρ',by simp[AV.cl],ρ',M',g1,g2,v,rfl,k2.1,k1⟩
   |[],k1,k2=>exact⟨(AV.aL []).c ρ',by simp[AV.cl,AV.c],ρ',M',g1,g2,.aL [],rfl,k2,k1⟩
   |v::u::vs,k1,k2=>exact⟨(AV.aL (v::u::vs)).c ρ',by simp[AV.cl,AV.c],ρ',M',g1,g2,.aL (v::u::vs),rfl,k2,k1⟩
  cases e with
  |normal=>obtain⟨ρ',M',a',D',h1,h2,hm,h3,h4⟩:=hq;exact fin ρ' M' a' D' h1 h2 hm h3 h4
  |ret=>obtain⟨ρ',M',a',D',h1,h2,hm,h3,h4⟩:=hq;exact fin ρ' M' a' D' h1 h2 hm h3 h4
  |exit id=>obtain⟨ρ',M',a',D',h1,h2,hm,h3,h4⟩:=hq;exact h4.elim
  |panic ch=>
   obtain⟨ρ',M',v,D',h1,h2,⟨rs,CD,Fw,xu⟩,h3,h4,h5,h6⟩:=hq
   show LeavesInM Fence.wide 0 x.P fn act.tmps (iq ρ M w K Kp) act.defers (.panicking ch) w'
   rw[h3,CD,List.append_nil]
   refine cX (F:=Fence.wide) (n:=0) (P:=x.P) (fn:=fn) (tmps:=act.tmps) (R:=iq ρ M w K Kp) (u:=.panicking ch) (by simp) (fun w2 g1 g2=>?_) rs w' Fw xu h1 h2
   show iq ρ M w K Kp (.panicked ch) w2
   exact⟨ρ',M',g1,g2,v,h4,h5,h6⟩
  |goto l=>exact hq.elim
  |outgrown=>exact hq.elim
def kh:Nat→Code→Code
 |0,c=>c
 |k+1,.seq _ d=>kh k d
 |_+1,c=>c
def sq (x:Cx)(P:AA→AH→Prop)(Q:jm→AA→AH→Prop)(Kp:AV→AH→Prop):Nat→Code→AA→AH→Prop
 |0,_,a,M=>P a M
 |k+1,.seq c d,a,M=>av x c (B6 (sq x P Q Kp k d) Q) Kp a M
 |_+1,_,_,_=>False
@[irreducible] def m9 {σ:Type}(l:σ→List (Nat×AV))(H:σ→AH)(a:AA)(M:AH):Prop:=∃s,v3 (l s) a∧jr M (H s)
theorem m9.mk {σ:Type}{l:σ→List (Nat×AV)}{H:σ→AH}{a:AA}{M:AH}(s:σ)(h1:v3 (l s) a)(h2:jr M (H s)):m9 l H a M:=by unfold m9;exact⟨s,h1,h2⟩
theorem WA.last {x:Cx}(hT:aq x.P x.T)(hm:x.P.follows .mixedOrders=true){c:Code}(bW:aj x.pl c=true){Q:jm→AA→AH→Prop}{Kp:AV→AH→Prop}{a:AA}{M:AH}(h:av x c Q Kp a M):WA x.P x.r x.D x.n c Q Kp a M:=by
 rw[dD]at h
 exact Bk hT hm bW h
theorem WA.cut {x:Cx}(hT:aq x.P x.T)(hm:x.P.follows .mixedOrders=true){σ:Type}(l:σ→List (Nat×AV))(H:σ→AH){M0:AH}(hlen:∀s,Nat.ble M0.length (H s).length=true)(hA:∀s,I1 (H s).length (l s)=true)(hH:∀s,mi (H s).length (H s)){Q:jm→AA→AH→Prop}{Kp:AV→AH→Prop}:
 ∀(k:Nat)(c:Code)(a:AA),aj x.pl c=true→sq x (m9 l H) Q Kp k c a M0→(∀s d0,WA x.P x.r x.D x.n (kh k c) Q Kp (lS (l s) d0) (H s))→WA x.P x.r x.D x.n c Q Kp a M0:=by
 intro k c a bW h hd
 unfold WA
 intro pin D0 ρ0 w0 KA Xj Ty AW NG
 have hle:∀s,M0.length≤(H s).length:=fun s=>by simpa using hlen s
 have key:∀(k:Nat)(c:Code)(a:AA)(M:AH)(ρ:Env)(w:World)(act:Act)(D:List Deferred),aj x.pl c=true→sq x (m9 l H) Q Kp k c a M→(∀s d0,WA x.P x.r x.D x.n (kh k c) Q Kp (lS (l s) d0) (H s))→
  aU ρ M w→Ext ρ0 M0 w0 ρ M w→Marks w0.heap.size D0 D w→bE ρ D x.n a act→eR pin c=true→dw pin act→c.wpIn (FW x.r) 0 x.P (FX pin ρ0 M0 w0 D0 x.n Q Kp) act w:=by
  intro k
  induction k with
  |zero=>
   intro c a M ρ w act D bW h hd hs hE hM ha mj hp
   have h':m9 l H a M:=h
   unfold m9 at h'
   obtain⟨s,h1,h2⟩:=h'
   obtain⟨k1,k2⟩:=pW AW.n8 hs hE h2 (hH s) (hle s)
   have oo:=hd s (fun t=>act.tmps.getD t undef)
   unfold WA at oo
   exact wpIn_mono (oo pin D _ w act mj hp k1 (BF ha (hA s) h1)) fun e aJ w' hq=>⟨hq.1.from k2 k1 hM,hq.2⟩
  |succ k ih=>
   intro c a M ρ w act D bW h hd hs hE hM ha mj hp
   cases c with
   |seq c d=>
    simp only[aj,Bool.and_eq_true]at bW
    simp only[eR,Bool.and_eq_true]at mj
    have h':av x c (B6 (sq x (m9 l H) Q Kp k d) Q) Kp a M:=h
    rw[dD]at h'
    refine wpIn_seq (wpIn_mono (fU hT hm c bW.1 _ Kp a M ρ w act D hs hE hM ha mj.1 hp h') fun e aJ w' hq=>?_)
    obtain⟨hq,xm⟩:=hq
    cases e with
    |normal=>
     obtain⟨ρ',M',a',D',h1,h2,vW,h3,h4⟩:=hq
     exact ih d a' M' ρ' w' aJ D' bW.2 h4 hd h1 h2 vW h3 mj.2 xm
    |exit id=>exact⟨hq,xm⟩
    |ret=>exact⟨hq,xm⟩
    |panic ch=>exact⟨hq,xm⟩
    |goto l=>exact hq.elim
    |outgrown=>exact hq.elim
   |_=>exact h.elim
 exact key k c a M0 ρ0 w0 KA D0 bW h hd AW (Ext.refl _ _ _) (Marks.refl _ _ _) NG Xj Ty
end Go.Proofs.Ytibadaomjlkoaaa
