import Derived.Test.YtibadaomjlkoaaaAb21
set_option linter.unusedVariables false
set_option linter.unusedSimpArgs false
open Go.RowKit
namespace Go.Proofs.Ytibadaomjlkoaaa
theorem aa.Lv {x:Cx}(hT:av x.P x.T)(hm:x.P.follows .mixedOrders=true){g:Nat}{fn:Func}{c:Code}(hf:x.P.funcs[g]?=some fn)(hb:fn.body=some c)(hg:pS x.P g=true)(cg:ai x.pl c=true)(hr:x.r=none)(hD:x.D=[])
 {args:List AV}{M:AH}{K Kp:AV→AH→Prop}(hn:fn.ntmps=x.n)(hle:Nat.ble args.length x.n=true)
 (h:WA x.P x.r x.D x.n c (ar x.T fn.results.toList K) Kp (aq args) M):aa x.P g args M K Kp:=by
 unfold aa
 refine⟨hg,fun ρ w hs aF=>?_⟩
 have T2:args.length≤x.n:=by simpa using hle
 have hlen:(AV.cl ρ args).toArray.size=args.length:=by simp[AV.bc]
 have ha:bQ ρ x.D x.n (aq args) {tmps:=(AV.cl ρ args).toArray++Array.replicate (fn.ntmps-(AV.cl ρ args).toArray.size) undef,defers:=[]}:=by
  refine⟨hD.symm,?_,fun t=>?_,fun t=>?_⟩
  ·rw[Array.size_append,Array.size_replicate,hlen,hn];omega
  ·simp only[aq];split
   ·exact(AV.aQ ρ args).1 aF _ (List.mem_of_getElem? ‹_›)
   ·exact trivial
  ·simp only[aq,Array.getD_eq_getD_getElem?]
   by_cases ht:t<args.length
   ·rw[Array.getElem?_append_left (by rw[hlen];exact ht)]
    simp[AV.bc,List.getElem?_eq_getElem ht]
   ·rw[Array.getElem?_append_right (by rw[hlen];omega),List.getElem?_eq_none (by omega)]
    simp only[Array.getElem?_replicate]
    split<;>rfl
 have hw:=(by unfold WA at h;exact wpIn_mono (h [] x.D ρ w _ (Cg _) (dH.nil _) hs ha) fun _ _ _ h=>h.1)
 rw[hD]at hw
 refine callsIn_wide.1 (callsIn_of_wp_marks (F:=Fence.wide) (n:=0) hf hb trivial (wpIn_mono (Q:=fc ρ M w [] x.n (ar x.T fn.results.toList K) Kp) ?_ fun e act w' hq=>?_))
 ·rw[hr]at hw;exact hw
 ·have fin:∀(ρ':Env)(M':AH)(a':AA)(D':List Deferred),aW ρ' M' w'→Ext ρ M w ρ' M' w'→Marks w.heap.size [] D' w'→bQ ρ' D' x.n a' act→(Ad x.T M' a' fn.results.toList fun vs=>match vs with|[v]=>K v M'|vs=>K (.aE vs) M')→
   LeavesInM Fence.wide 0 x.P fn act.tmps (jf ρ M w K Kp) act.defers .returning w':=by
   intro ρ' M' a' D' h1 h2 ⟨rs,Ev,Hz,uH⟩ h3 h4
   rw[h3.defers,Ev,List.append_nil]
   refine dh (by simp) (fun w2 g1 g2=>?_) rs w' Hz uH h1 h2
   obtain⟨vs,k1,k2,k3⟩:=jv hT g1 h3 _ _ h4
   have AG:(fn.results.mapM (ss act.tmps)).run x.P w2=Result.ok (AV.cl ρ' vs).toArray w2:=by
    rw[Array.mapM_eq_mapM_toList]
    simp[k3]
   show∃v,(results fn act.tmps).run x.P w2=.ok v w2∧jf ρ M w K Kp (.returned v) w2
   rw[ju]
   simp only[Sem.run_bind,AG]
   match vs,k1,k2 with
   |[v],k1,k2=>exact⟨v.c ρ',by simp[AV.cl],ρ',M',g1,g2,v,rfl,k2.1,k1⟩
   |[],k1,k2=>exact⟨(AV.aE []).c ρ',by simp[AV.cl,AV.c],ρ',M',g1,g2,.aE [],rfl,k2,k1⟩
   |v::u::vs,k1,k2=>exact⟨(AV.aE (v::u::vs)).c ρ',by simp[AV.cl,AV.c],ρ',M',g1,g2,.aE (v::u::vs),rfl,k2,k1⟩
  cases e with
  |normal=>obtain⟨ρ',M',a',D',h1,h2,hm,h3,h4⟩:=hq;exact fin ρ' M' a' D' h1 h2 hm h3 h4
  |ret=>obtain⟨ρ',M',a',D',h1,h2,hm,h3,h4⟩:=hq;exact fin ρ' M' a' D' h1 h2 hm h3 h4
  |exit id=>obtain⟨ρ',M',a',D',h1,h2,hm,h3,h4⟩:=hq;exact h4.elim
  |panic ch=>
   obtain⟨ρ',M',v,D',h1,h2,⟨rs,Ev,Hz,uH⟩,h3,h4,h5,h6⟩:=hq
   show LeavesInM Fence.wide 0 x.P fn act.tmps (jf ρ M w K Kp) act.defers (.panicking ch) w'
   rw[h3,Ev,List.append_nil]
   refine dh (F:=Fence.wide) (n:=0) (P:=x.P) (fn:=fn) (tmps:=act.tmps) (R:=jf ρ M w K Kp) (u:=.panicking ch) (by simp) (fun w2 g1 g2=>?_) rs w' Hz uH h1 h2
   show jf ρ M w K Kp (.panicked ch) w2
   exact⟨ρ',M',g1,g2,v,h4,h5,h6⟩
  |goto l=>exact hq.elim
  |outgrown=>exact hq.elim
def kT:Nat→Code→Code
 |0,c=>c
 |k+1,.seq _ d=>kT k d
 |_+1,c=>c
def sv (x:Cx)(P:AA→AH→Prop)(Q:jr→AA→AH→Prop)(Kp:AV→AH→Prop):Nat→Code→AA→AH→Prop
 |0,_,a,M=>P a M
 |k+1,.seq c d,a,M=>au x c (DN (sv x P Q Kp k d) Q) Kp a M
 |_+1,_,_,_=>False
@[irreducible] def lB {σ:Type}(l:σ→List (Nat×AV))(H:σ→AH)(a:AA)(M:AH):Prop:=∃s,xV (l s) a∧j5 M (H s)
theorem lB.mk {σ:Type}{l:σ→List (Nat×AV)}{H:σ→AH}{a:AA}{M:AH}(s:σ)(h1:xV (l s) a)(h2:j5 M (H s)):lB l H a M:=by unfold lB;exact⟨s,h1,h2⟩
theorem WA.last {x:Cx}(hT:av x.P x.T)(hm:x.P.follows .mixedOrders=true){c:Code}(cg:ai x.pl c=true){Q:jr→AA→AH→Prop}{Kp:AV→AH→Prop}{a:AA}{M:AH}(h:au x c Q Kp a M):WA x.P x.r x.D x.n c Q Kp a M:=by
 rw[dU]at h
 exact C1 hT hm cg h
theorem WA.cut {x:Cx}(hT:av x.P x.T)(hm:x.P.follows .mixedOrders=true){σ:Type}(l:σ→List (Nat×AV))(H:σ→AH){M0:AH}(hlen:∀s,Nat.ble M0.length (H s).length=true)(hA:∀s,Lb (H s).length (l s)=true)(hH:∀s,kq (H s).length (H s)){Q:jr→AA→AH→Prop}{Kp:AV→AH→Prop}:
 ∀(k:Nat)(c:Code)(a:AA),ai x.pl c=true→sv x (lB l H) Q Kp k c a M0→(∀s d0,WA x.P x.r x.D x.n (kT k c) Q Kp (mN (l s) d0) (H s))→WA x.P x.r x.D x.n c Q Kp a M0:=by
 intro k c a cg h hd
 unfold WA
 intro pin D0 ρ0 w0 MT aag Ws CC Qd
 have hle:∀s,M0.length≤(H s).length:=fun s=>by simpa using hlen s
 have key:∀(k:Nat)(c:Code)(a:AA)(M:AH)(ρ:Env)(w:World)(act:Act)(D:List Deferred),ai x.pl c=true→sv x (lB l H) Q Kp k c a M→(∀s d0,WA x.P x.r x.D x.n (kT k c) Q Kp (mN (l s) d0) (H s))→
  aW ρ M w→Ext ρ0 M0 w0 ρ M w→Marks w0.heap.size D0 D w→bQ ρ D x.n a act→fm pin c=true→dH pin act→c.wpIn (FW x.r) 0 x.P (HX pin ρ0 M0 w0 D0 x.n Q Kp) act w:=by
  intro k
  induction k with
  |zero=>
   intro c a M ρ w act D cg h hd hs hE hM ha nj hp
   have h':lB l H a M:=h
   unfold lB at h'
   obtain⟨s,h1,h2⟩:=h'
   obtain⟨k1,k2⟩:=q8 CC.pr hs hE h2 (hH s) (hle s)
   have mv:=hd s (fun t=>act.tmps.getD t undef)
   unfold WA at mv
   exact wpIn_mono (mv pin D _ w act nj hp k1 (Dj ha (hA s) h1)) fun e aP w' hq=>⟨hq.1.from k2 k1 hM,hq.2⟩
  |succ k ih=>
   intro c a M ρ w act D cg h hd hs hE hM ha nj hp
   cases c with
   |seq c d=>
    simp only[ai,Bool.and_eq_true]at cg
    simp only[fm,Bool.and_eq_true]at nj
    have h':au x c (DN (sv x (lB l H) Q Kp k d) Q) Kp a M:=h
    rw[dU]at h'
    refine wpIn_seq (wpIn_mono (gV hT hm c cg.1 _ Kp a M ρ w act D hs hE hM ha nj.1 hp h') fun e aP w' hq=>?_)
    obtain⟨hq,y5⟩:=hq
    cases e with
    |normal=>
     obtain⟨ρ',M',a',D',h1,h2,xR,h3,h4⟩:=hq
     exact ih d a' M' ρ' w' aP D' cg.2 h4 hd h1 h2 xR h3 nj.2 y5
    |exit id=>exact⟨hq,y5⟩
    |ret=>exact⟨hq,y5⟩
    |panic ch=>exact⟨hq,y5⟩
    |goto l=>exact hq.elim
    |outgrown=>exact hq.elim
   |_=>exact h.elim
 exact key k c a M0 ρ0 w0 MT D0 cg h hd CC (Ext.refl _ _ _) (Marks.refl _ _ _) Qd aag Ws
end Go.Proofs.Ytibadaomjlkoaaa
