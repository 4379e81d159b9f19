/- Cuts: behind some of a code's parts, all but what is named is forgotten. -/
import Derived.Test.YteinenklppbjkaaAb21
set_option linter.unusedVariables false
set_option linter.unusedSimpArgs false
open Go.RowKit
namespace Go.Proofs.Yteinenklppbjkaa

theorem CallA.introW {x : Cx} (hT : TabOK x.P x.T) (hm : x.P.follows .mixedOrders = true) {g : Nat} {fn : Func} {c : Code} (hf : x.P.funcs[g]? = some fn) (hb : fn.body = some c) (hg : goodF x.P g = true) (hpl : plansB x.pl c = true) (hr : x.r = none) (hD : x.D = [])
    {args : List AV} {M : AH} {K Kp : AV → AH → Prop} (hn : fn.ntmps = x.n) (hle : Nat.ble args.length x.n = true)
    (h : WA x.P x.r x.D x.n c (postA x.T fn.results.toList K) Kp (initA args) M) : CallA x.P g args M K Kp := by
  unfold CallA
  refine ⟨hg, fun ρ w hs hok => ?_⟩
  have hle' : args.length ≤ x.n := by simpa using hle
  have hlen : (AV.cl ρ args).toArray.size = args.length := by simp [AV.cl_eq]
  have ha : ActR ρ x.D x.n (initA args) { tmps := (AV.cl ρ args).toArray ++ Array.replicate (fn.ntmps - (AV.cl ρ args).toArray.size) undef, defers := [] } := by
    refine ⟨hD.symm, ?_, fun t => ?_, fun t => ?_⟩
    · rw [Array.size_append, Array.size_replicate, hlen, hn]; omega
    · simp only [initA]; split
      · exact (AV.okl_iff ρ args).1 hok _ (List.mem_of_getElem? ‹_›)
      · exact trivial
    · simp only [initA, Array.getD_eq_getD_getElem?]
      by_cases ht : t < args.length
      · rw [Array.getElem?_append_left (by rw [hlen]; exact ht)]
        simp [AV.cl_eq, List.getElem?_eq_getElem ht]
      · rw [Array.getElem?_append_right (by rw [hlen]; omega), List.getElem?_eq_none (by omega)]
        simp only [Array.getElem?_replicate]
        split <;> rfl
  have hw := (by unfold WA at h; exact wpIn_mono (h [] x.D ρ w _ (offC_nil _) (PinOK.nil _) hs ha) fun _ _ _ h => h.1)
  rw [hD] at hw
  refine callsIn_wide.1 (callsIn_of_wp_marks (F := Fence.wide) (n := 0) hf hb trivial (wpIn_mono (Q := LiftQ ρ M w [] x.n (postA x.T fn.results.toList K) Kp) ?_ fun e act w' hq => ?_))
  · rw [hr] at hw; exact hw
  · have fin : ∀ (ρ' : Env) (M' : AH) (a' : AA) (D' : List Deferred), Sim ρ' M' w' → Ext ρ M w ρ' M' w' → Marks w.heap.size [] D' w' → ActR ρ' D' x.n a' act → (resL x.T M' a' fn.results.toList fun vs => match vs with | [v] => K v M' | vs => K (.tup vs) M') →
        LeavesInM Fence.wide 0 x.P fn act.tmps (EndR ρ M w K Kp) act.defers .returning w' := by
      intro ρ' M' a' D' h1 h2 ⟨rs, hrs, hnd, hbl⟩ h3 h4
      rw [h3.defers, hrs, List.append_nil]
      refine leaves_marks (by simp) (fun w2 g1 g2 => ?_) rs w' hnd hbl h1 h2
      obtain ⟨vs, k1, k2, k3⟩ := resL_sound hT g1 h3 _ _ h4
      have hmap : (fn.results.mapM (resS act.tmps)).run x.P w2 = Result.ok (AV.cl ρ' vs).toArray w2 := by
        rw [Array.mapM_eq_mapM_toList]
        simp [k3]
      show ∃ v, (results fn act.tmps).run x.P w2 = .ok v w2 ∧ EndR ρ M w K Kp (.returned v) w2
      rw [results_eq]
      simp only [Sem.run_bind, hmap]
      match vs, k1, k2 with
      | [v], k1, k2 => exact ⟨v.c ρ', by simp [AV.cl], ρ', M', g1, g2, v, rfl, k2.1, k1⟩
      | [], k1, k2 => exact ⟨(AV.tup []).c ρ', by simp [AV.cl, AV.c], ρ', M', g1, g2, .tup [], rfl, k2, k1⟩
      | v :: u :: vs, k1, k2 => exact ⟨(AV.tup (v :: u :: vs)).c ρ', by simp [AV.cl, AV.c], ρ', M', g1, g2, .tup (v :: u :: vs), rfl, k2, k1⟩
    cases e with
    | normal => obtain ⟨ρ', M', a', D', h1, h2, hm, h3, h4⟩ := hq; exact fin ρ' M' a' D' h1 h2 hm h3 h4
    | ret => obtain ⟨ρ', M', a', D', h1, h2, hm, h3, h4⟩ := hq; exact fin ρ' M' a' D' h1 h2 hm h3 h4
    | exit id => obtain ⟨ρ', M', a', D', h1, h2, hm, h3, h4⟩ := hq; exact h4.elim
    | panic ch =>
      obtain ⟨ρ', M', v, D', h1, h2, ⟨rs, hrs, hnd, hbl⟩, h3, h4, h5, h6⟩ := hq
      show LeavesInM Fence.wide 0 x.P fn act.tmps (EndR ρ M w K Kp) act.defers (.panicking ch) w'
      rw [h3, hrs, List.append_nil]
      refine leaves_marks (F := Fence.wide) (n := 0) (P := x.P) (fn := fn) (tmps := act.tmps) (R := EndR ρ M w K Kp) (u := .panicking ch) (by simp) (fun w2 g1 g2 => ?_) rs w' hnd hbl h1 h2
      show EndR ρ M w K Kp (.panicked ch) w2
      exact ⟨ρ', M', g1, g2, v, h4, h5, h6⟩
    | goto l => exact hq.elim
    | outgrown => exact hq.elim

/-- What stands behind the first k parts. -/
def tailC : Nat → Code → Code
  | 0, c => c
  | k + 1, .seq _ d => tailC k d
  | _ + 1, c => c
/-- The first k parts, and then P. -/
def preK (x : Cx) (P : AA → AH → Prop) (Q : AEx → AA → AH → Prop) (Kp : AV → AH → Prop) : Nat → Code → AA → AH → Prop
  | 0, _, a, M => P a M
  | k + 1, .seq c d, a, M => codeO x c (seqQ (preK x P Q Kp k d) Q) Kp a M
  | _ + 1, _, _, _ => False
/-- What a cut leaves, shut. -/
@[irreducible] def cutP {σ : Type} (l : σ → List (Nat × AV)) (H : σ → AH) (a : AA) (M : AH) : Prop := ∃ s, agr (l s) a ∧ subA M (H s)
theorem cutP.mk {σ : Type} {l : σ → List (Nat × AV)} {H : σ → AH} {a : AA} {M : AH} (s : σ) (h1 : agr (l s) a) (h2 : subA M (H s)) : cutP l H a M := by unfold cutP; exact ⟨s, h1, h2⟩
theorem WA.last {x : Cx} (hT : TabOK x.P x.T) (hm : x.P.follows .mixedOrders = true) {c : Code} (hpl : plansB x.pl c = true) {Q : AEx → AA → AH → Prop} {Kp : AV → AH → Prop} {a : AA} {M : AH} (h : codeO x c Q Kp a M) : WA x.P x.r x.D x.n c Q Kp a M := by
  rw [codeO_eq] at h
  exact codeA_sound hT hm hpl h
theorem WA.cut {x : Cx} (hT : TabOK x.P x.T) (hm : x.P.follows .mixedOrders = true) {σ : Type} (l : σ → List (Nat × AV)) (H : σ → AH) {M0 : AH} (hlen : ∀ s, Nat.ble M0.length (H s).length = true) (hA : ∀ s, nbL (H s).length (l s) = true) (hH : ∀ s, nbH (H s).length (H s)) {Q : AEx → AA → AH → Prop} {Kp : AV → AH → Prop} :
    ∀ (k : Nat) (c : Code) (a : AA), plansB x.pl c = true → preK x (cutP l H) Q Kp k c a M0 → (∀ s d0, WA x.P x.r x.D x.n (tailC k c) Q Kp (ofL (l s) d0) (H s)) → WA x.P x.r x.D x.n c Q Kp a M0 := by
  intro k c a hpl h hd
  unfold WA
  intro pin D0 ρ0 w0 act0 hof0 hp0 hs0 ha0
  have hle : ∀ s, M0.length ≤ (H s).length := fun s => by simpa using hlen s
  have key : ∀ (k : Nat) (c : Code) (a : AA) (M : AH) (ρ : Env) (w : World) (act : Act) (D : List Deferred), plansB x.pl c = true → preK x (cutP l H) Q Kp k c a M → (∀ s d0, WA x.P x.r x.D x.n (tailC k c) Q Kp (ofL (l s) d0) (H s)) →
      Sim ρ M w → Ext ρ0 M0 w0 ρ M w → Marks w0.heap.size D0 D w → ActR ρ D x.n a act → offC pin c = true → PinOK pin act → c.wpIn (FW x.r) 0 x.P (LiftP pin ρ0 M0 w0 D0 x.n Q Kp) act w := by
    intro k
    induction k with
    | zero =>
      intro c a M ρ w act D hpl h hd hs hE hM ha hof hp
      have h' : cutP l H a M := h
      unfold cutP at h'
      obtain ⟨s, h1, h2⟩ := h'
      obtain ⟨k1, k2⟩ := sim_sub hs0.dom hs hE h2 (hH s) (hle s)
      have hd' := hd s (fun t => act.tmps.getD t undef)
      unfold WA at hd'
      exact wpIn_mono (hd' pin D _ w act hof hp k1 (actR_sub ha (hA s) h1)) fun e act' w' hq => ⟨hq.1.from k2 k1 hM, hq.2⟩
    | succ k ih =>
      intro c a M ρ w act D hpl h hd hs hE hM ha hof hp
      cases c with
      | seq c d =>
        simp only [plansB, Bool.and_eq_true] at hpl
        simp only [offC, Bool.and_eq_true] at hof
        have h' : codeO x c (seqQ (preK x (cutP l H) Q Kp k d) Q) Kp a M := h
        rw [codeO_eq] at h'
        refine wpIn_seq (wpIn_mono (codeA_pin hT hm c hpl.1 _ Kp a M ρ w act D hs hE hM ha hof.1 hp h') fun e act' w' hq => ?_)
        obtain ⟨hq, hp'⟩ := hq
        cases e with
        | normal =>
          obtain ⟨ρ', M', a', D', h1, h2, hM', h3, h4⟩ := hq
          exact ih d a' M' ρ' w' act' D' hpl.2 h4 hd h1 h2 hM' h3 hof.2 hp'
        | exit id => exact ⟨hq, hp'⟩
        | ret => exact ⟨hq, hp'⟩
        | panic ch => exact ⟨hq, hp'⟩
        | goto l => exact hq.elim
        | outgrown => exact hq.elim
      | _ => exact h.elim
  exact key k c a M0 ρ0 w0 act0 D0 hpl h hd hs0 (Ext.refl _ _ _) (Marks.refl _ _ _) ha0 hof0 hp0
end Go.Proofs.Yteinenklppbjkaa
