import Derived.Test.YtibadaomjlkoaaaAb21
set_option linter.unusedVariables false
set_option linter.unusedSimpArgs false
open Go.RowKit
namespace Go.Proofs.Ytibadaomjlkoaaa
theorem aa.O3 {x:Cx}(hT:ao x.P x.T)(hm:x.P.follows .mixedOrders=true){g:Nat}{fn:Func}{c:Code}(hf:x.P.funcs[g]?=some fn)(hb:fn.body=some c)(hg:nU x.P g=true)(bO:aj x.pl c=true)(hr:x.r=none)(hD:x.D=[])
 {args:List AV}{M:AH}{K Kp:AV→AH→Prop}(hn:fn.ntmps=x.n)(hle:Nat.ble args.length x.n=true)
 (h:WA x.P x.r x.D x.n c (az x.T fn.results.toList K) Kp (au args) M):aa x.P g args M K Kp:=by
 unfold aa
 refine⟨hg,fun ρ w hs aA=>?_⟩
 have PD:args.length≤x.n:=by simpa using hle
 have hlen:(AV.cl ρ args).toArray.size=args.length:=by simp[AV.aU]
 have ha:bs ρ x.D x.n (au args) {tmps:=(AV.cl ρ args).toArray++Array.replicate (fn.ntmps-(AV.cl ρ args).toArray.size) undef,defers:=[]}:=by
  refine⟨hD.symm,?_,fun t=>?_,fun t=>?_⟩
  ·rw[Array.size_append,Array.size_replicate,hlen,hn];omega
  ·simp only[au];split
   ·exact(AV.aJ ρ args).1 aA _ (List.mem_of_getElem? ‹_›)
   ·exact trivial
  ·simp only[au,Array.getD_eq_getD_getElem?]
   by_cases ht:t<args.length
   ·rw[Array.getElem?_append_left (by rw[hlen];exact ht)]
    simp[AV.aU,List.getElem?_eq_getElem ht]
   ·rw[Array.getElem?_append_right (by rw[hlen];omega),List.getElem?_eq_none (by omega)]
    simp only[Array.getElem?_replicate]
    split<;>rfl
 have hw:=(by unfold WA at h;exact wpIn_mono (h [] x.D ρ w _ (zP _) (dm.nil _) hs ha) fun _ _ _ h=>h.1)
 rw[hD]at hw
 refine callsIn_wide.1 (callsIn_of_wp_marks (F:=Fence.wide) (n:=0) hf hb trivial (wpIn_mono (Q:=ew ρ M w [] x.n (az x.T fn.results.toList K) Kp) ?_ fun e act w' hq=>?_))
 ·rw[hr]at hw;exact hw
 ·have fin:∀(ρ':Env)(M':AH)(a':AA)(D':List Deferred),aR ρ' M' w'→Ext ρ M w ρ' M' w'→Marks w.heap.size [] D' w'→bs ρ' D' x.n a' act→(xL x.T M' a' fn.results.toList fun vs=>match vs with|[v]=>K v M'|vs=>K (.aG vs) M')→
   LeavesInM Fence.wide 0 x.P fn act.tmps (gV ρ M w K Kp) act.defers .returning w':=by
   intro ρ' M' a' D' h1 h2 ⟨rs,BR,Ew,yk⟩ h3 h4
   rw[h3.defers,BR,List.append_nil]
   refine cK (by simp) (fun w2 g1 g2=>?_) rs w' Ew yk h1 h2
   obtain⟨vs,k1,k2,k3⟩:=iq hT g1 h3 _ _ h4
   have yi:(fn.results.mapM (qf act.tmps)).run x.P w2=Result.ok (AV.cl ρ' vs).toArray w2:=by
    rw[Array.mapM_eq_mapM_toList]
    simp[k3]
   show∃v,(results fn act.tmps).run x.P w2=.ok v w2∧gV ρ M w K Kp (.returned v) w2
   rw[il]
   simp only[Sem.run_bind,yi]
   match vs,k1,k2 with
   |[v],k1,k2=>exact⟨v.c ρ',by simp[AV.cl],ρ',M',g1,g2,v,rfl,k2.1,k1⟩
   |[],k1,k2=>exact⟨(AV.aG []).c ρ',by simp[AV.cl,AV.c],ρ',M',g1,g2,.aG [],rfl,k2,k1⟩
   |v::u::vs,k1,k2=>exact⟨(AV.aG (v::u::vs)).c ρ',by simp[AV.cl,AV.c],ρ',M',g1,g2,.aG (v::u::vs),rfl,k2,k1⟩
  cases e with
  |normal=>obtain⟨ρ',M',a',D',h1,h2,hm,h3,h4⟩:=hq;exact fin ρ' M' a' D' h1 h2 hm h3 h4
  |ret=>obtain⟨ρ',M',a',D',h1,h2,hm,h3,h4⟩:=hq;exact fin ρ' M' a' D' h1 h2 hm h3 h4
  |exit id=>obtain⟨ρ',M',a',D',h1,h2,hm,h3,h4⟩:=hq;exact h4.elim
  |panic ch=>
   obtain⟨ρ',M',v,D',h1,h2,⟨rs,BR,Ew,yk⟩,h3,h4,h5,h6⟩:=hq
   show LeavesInM Fence.wide 0 x.P fn act.tmps (gV ρ M w K Kp) act.defers (.panicking ch) w'
   rw[h3,BR,List.append_nil]
   refine cK (F:=Fence.wide) (n:=0) (P:=x.P) (fn:=fn) (tmps:=act.tmps) (R:=gV ρ M w K Kp) (u:=.panicking ch) (by simp) (fun w2 g1 g2=>?_) rs w' Ew yk h1 h2
   show gV ρ M w K Kp (.panicked ch) w2
   exact⟨ρ',M',g1,g2,v,h4,h5,h6⟩
  |goto l=>exact hq.elim
  |outgrown=>exact hq.elim
def jJ:Nat→Code→Code
 |0,c=>c
 |k+1,.seq _ d=>jJ k d
 |_+1,c=>c
def rK (x:Cx)(P:AA→AH→Prop)(Q:iT→AA→AH→Prop)(Kp:AV→AH→Prop):Nat→Code→AA→AH→Prop
 |0,_,a,M=>P a M
 |k+1,.seq c d,a,M=>ax x c (Bk (rK x P Q Kp k d) Q) Kp a M
 |_+1,_,_,_=>False
@[irreducible] def mw {σ:Type}(l:σ→List (Nat×AV))(H:σ→AH)(a:AA)(M:AH):Prop:=∃s,vw (l s) a∧iV M (H s)
theorem mw.mk {σ:Type}{l:σ→List (Nat×AV)}{H:σ→AH}{a:AA}{M:AH}(s:σ)(h1:vw (l s) a)(h2:iV M (H s)):mw l H a M:=by unfold mw;exact⟨s,h1,h2⟩
theorem WA.last {x:Cx}(hT:ao x.P x.T)(hm:x.P.follows .mixedOrders=true){c:Code}(bO:aj x.pl c=true){Q:iT→AA→AH→Prop}{Kp:AV→AH→Prop}{a:AA}{M:AH}(h:ax x c Q Kp a M):WA x.P x.r x.D x.n c Q Kp a M:=by
 rw[dw]at h
 exact Ax hT hm bO h
theorem WA.cut {x:Cx}(hT:ao x.P x.T)(hm:x.P.follows .mixedOrders=true){σ:Type}(l:σ→List (Nat×AV))(H:σ→AH){M0:AH}(hlen:∀s,Nat.ble M0.length (H s).length=true)(hA:∀s,HN (H s).length (l s)=true)(hH:∀s,lJ (H s).length (H s)){Q:iT→AA→AH→Prop}{Kp:AV→AH→Prop}:
 ∀(k:Nat)(c:Code)(a:AA),aj x.pl c=true→rK x (mw l H) Q Kp k c a M0→(∀s d0,WA x.P x.r x.D x.n (jJ k c) Q Kp (lj (l s) d0) (H s))→WA x.P x.r x.D x.n c Q Kp a M0:=by
 intro k c a bO h hd
 unfold WA
 intro pin D0 ρ0 w0 Jp Vt RQ Ab Md
 have hle:∀s,M0.length≤(H s).length:=fun s=>by simpa using hlen s
 have key:∀(k:Nat)(c:Code)(a:AA)(M:AH)(ρ:Env)(w:World)(act:Act)(D:List Deferred),aj x.pl c=true→rK x (mw l H) Q Kp k c a M→(∀s d0,WA x.P x.r x.D x.n (jJ k c) Q Kp (lj (l s) d0) (H s))→
  aR ρ M w→Ext ρ0 M0 w0 ρ M w→Marks w0.heap.size D0 D w→bs ρ D x.n a act→eG pin c=true→dm pin act→c.wpIn (FW x.r) 0 x.P (EV pin ρ0 M0 w0 D0 x.n Q Kp) act w:=by
  intro k
  induction k with
  |zero=>
   intro c a M ρ w act D bO h hd hs hE hM ha lL hp
   have h':mw l H a M:=h
   unfold mw at h'
   obtain⟨s,h1,h2⟩:=h'
   obtain⟨k1,k2⟩:=pj Ab.nw hs hE h2 (hH s) (hle s)
   have nE:=hd s (fun t=>act.tmps.getD t undef)
   unfold WA at nE
   exact wpIn_mono (nE pin D _ w act lL hp k1 (AW ha (hA s) h1)) fun e aH w' hq=>⟨hq.1.from k2 k1 hM,hq.2⟩
  |succ k ih=>
   intro c a M ρ w act D bO h hd hs hE hM ha lL hp
   cases c with
   |seq c d=>
    simp only[aj,Bool.and_eq_true]at bO
    simp only[eG,Bool.and_eq_true]at lL
    have h':ax x c (Bk (rK x (mw l H) Q Kp k d) Q) Kp a M:=h
    rw[dw]at h'
    refine wpIn_seq (wpIn_mono (fH hT hm c bO.1 _ Kp a M ρ w act D hs hE hM ha lL.1 hp h') fun e aH w' hq=>?_)
    obtain⟨hq,wI⟩:=hq
    cases e with
    |normal=>
     obtain⟨ρ',M',a',D',h1,h2,vp,h3,h4⟩:=hq
     exact ih d a' M' ρ' w' aH D' bO.2 h4 hd h1 h2 vp h3 lL.2 wI
    |exit id=>exact⟨hq,wI⟩
    |ret=>exact⟨hq,wI⟩
    |panic ch=>exact⟨hq,wI⟩
    |goto l=>exact hq.elim
    |outgrown=>exact hq.elim
   |_=>exact h.elim
 exact key k c a M0 ρ0 w0 Jp D0 bO h hd Ab (Ext.refl _ _ _) (Marks.refl _ _ _) Md Vt RQ
end Go.Proofs.Ytibadaomjlkoaaa
