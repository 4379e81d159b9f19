/- Layer 8, plainly: what runs of streams have in common. -/
import Derived.Test.YteinenklppbjkaaZ11

set_option linter.unusedVariables false

set_option linter.unusedSimpArgs false

open Go.RowKit

namespace Go.Proofs.Yteinenklppbjkaa

/-- No failure is nought. -/
def DP.nz {α : Type} : DP α → Prop
  | .ret _ => True
  | .fail e => e ≠ 0
  | .get _ k => ∀ v, (k v).nz
  | .align k => k.nz
  | .come _ k => k.nz
  | .back _ k => ∀ v, (k v).nz
  | .dist _ k => k.nz
  | .room _ k => k.nz
theorem DP.nz_bind {α β : Type} {f : α → DP β} (hf : ∀ x, (f x).nz) : ∀ p : DP α, p.nz → (p.bind f).nz := by
  intro p
  induction p with
  | ret x => intro _; exact hf x
  | fail e => intro h; exact h
  | get n k ih => intro h v; exact ih v (h v)
  | align k ih => intro h; exact ih h
  | come c k ih => intro h; exact ih h
  | back d k ih => intro h v; exact ih v (h v)
  | dist d k ih => intro h; exact ih h
  | room n k ih => intro h; exact ih h
theorem DP.nz_run {α : Type} {row : List Bool} {lim : Nat} : ∀ (p : DP α) (s : DS) {e : Int}, p.nz → p.run row lim s = .error e → e ≠ 0 := by
  intro p
  induction p with
  | ret x => intro s e _ h; cases h
  | fail e => intro s e' hp h; simp only [DP.run] at h; injection h with h; rw [← h]; exact hp
  | get n k ih => intro s e hp h; simp only [DP.run] at h; split at h; exact ih _ _ (hp _) h; injection h with h; omega
  | align k ih => intro s e hp h; exact ih _ hp h
  | come c k ih => intro s e hp h; simp only [DP.run] at h; split at h; injection h with h; omega; exact ih _ hp h
  | back d k ih => intro s e hp h; simp only [DP.run] at h; split at h; injection h with h; omega; exact ih _ _ (hp _) h
  | dist d k ih => intro s e hp h; simp only [DP.run] at h; split at h; injection h with h; omega; exact ih _ hp h
  | room n k ih => intro s e hp h; simp only [DP.run] at h; split at h; injection h with h; omega; exact ih _ hp h
theorem nz_sym (es : List ((Int × Int) × Int)) : ∀ f c n, (pSym es f c n).nz
  | 0, _, _ => by show (60 : Int) ≠ 0; decide
  | f + 1, c, n => by
    simp only [pSym]
    split
    · show (60 : Int) ≠ 0; decide
    · split
      · trivial
      · exact fun v => nz_sym es f _ _
theorem nz_far (s each : Nat) : (pFar s each).nz := by
  unfold pFar
  split
  · trivial
  · exact fun v => trivial
theorem nz_copy (d : Nat) : ∀ n, (pCopy d n).nz
  | 0 => trivial
  | n + 1 => fun v => nz_copy d n
theorem nz_syms (A B : List ((Int × Int) × Int)) : ∀ f, (pSyms A B f).nz
  | 0 => by show (50 : Int) ≠ 0; decide
  | f + 1 => by
    rw [pSyms]
    refine DP.nz_bind (fun v => ?_) _ (nz_sym A _ _ _)
    split
    · exact nz_syms A B f
    split
    · trivial
    split
    · show (80 : Int) ≠ 0; decide
    refine DP.nz_bind (fun n => ?_) _ ?_
    · refine DP.nz_bind (fun d => ?_) _ (nz_sym B _ _ _)
      split
      · show (80 : Int) ≠ 0; decide
      · refine DP.nz_bind (fun z => ?_) _ (nz_far _ _)
        exact DP.nz_bind (fun _ => nz_syms A B f) _ (nz_copy _ _)
    · split
      · refine DP.nz_bind (fun z => ?_) _ (nz_far _ _)
        trivial
      · trivial
theorem nz_raw : ∀ n, (pRaw n).nz
  | 0 => trivial
  | n + 1 => fun v => nz_raw n
theorem nz_ord : ∀ n i ls, (pOrd n i ls).nz
  | 0, _, _ => trivial
  | n + 1, i, ls => fun v => nz_ord n _ _
theorem nz_tab (ls : List Int) : (pTab ls).nz := by
  unfold pTab
  split
  · trivial
  · rename_i h; exact h
theorem nz_lens (T : List ((Int × Int) × Int)) (n : Nat) : ∀ f l, (pLens T n f l).nz
  | 0, _ => trivial
  | f + 1, l => by
    rw [pLens]
    split
    · trivial
    refine DP.nz_bind (fun v => ?_) _ (nz_sym T _ _ _)
    split
    · exact nz_lens T n f _
    refine DP.nz_bind (fun r => ?_) _ ?_
    · split
      · show (80 : Int) ≠ 0; decide
      · exact nz_lens T n f _
    · split
      · split
        · show (80 : Int) ≠ 0; decide
        · exact fun v => trivial
      · split
        · exact fun v => trivial
        · exact fun v => trivial
theorem nz_dyn : pDyn.nz := by
  intro a b c
  split
  · show (80 : Int) ≠ 0; decide
  refine DP.nz_bind (fun ls => ?_) _ (nz_ord _ _ _)
  refine DP.nz_bind (fun T => ?_) _ (nz_tab _)
  refine DP.nz_bind (fun l => ?_) _ (nz_lens _ _ _ _)
  split
  · show (80 : Int) ≠ 0; decide
  refine DP.nz_bind (fun A => ?_) _ (nz_tab _)
  exact DP.nz_bind (fun B => nz_syms _ _ _) _ (nz_tab _)
theorem nz_block (k : Int) : (pBlock k).nz := by
  unfold pBlock
  split
  · intro n m
    show (if n + m = 65535 then DP.room n (pRaw n.toNat) else DP.fail 80 : DP Unit).nz
    split
    · exact nz_raw _
    · show (80 : Int) ≠ 0; decide
  split
  · unfold pFixed
    generalize FU = f
    exact nz_syms _ _ f
  split
  · exact nz_dyn
  · show (80 : Int) ≠ 0; decide
theorem nz_inf : ∀ f, (pInf f).nz
  | 0 => by show (50 : Int) ≠ 0; decide
  | f + 1 => by
    intro last k
    refine DP.nz_bind (fun _ => ?_) _ (nz_block _)
    split
    · exact nz_inf f
    · trivial
/-! Inflate's answers. -/
theorem infR_nz {xs : List Int} {lim : Nat} {e : Int} (h : infR xs lim = .error e) : e ≠ 0 := by
  rw [infR_def] at h
  exact DP.nz_run _ _ (nz_inf _) h
theorem infR_lim {xs : List Int} {lim lim' : Nat} (hl : lim ≤ lim') : (∀ r, infR xs lim = .ok r → infR xs lim' = .ok r) ∧ ∀ e, infR xs lim = .error e → e = 81 ∨ infR xs lim' = .error e := by
  rw [infR_def, infR_def]
  exact DP.run_lim hl _ _
theorem infR_ok {xs : List Int} {lim : Nat} {s : DS} (h : infR xs lim = .ok ((), s)) : 1 ≤ s.a ∧ s.out.length ≤ lim := by
  rw [infR_def, show FI = 8000000 + 1 from rfl, pInf] at h
  rw [DP.run] at h
  split at h
  · have := DP.run_len _ _ (by show 0 ≤ lim; omega) h
    have h2 : 0 + 1 ≤ s.a := this.2.2
    exact ⟨by omega, this.1⟩
  · cases h
theorem unpack_takeN (xs : List Int) (k : Nat) (h : k ≤ xs.length) : (unpack xs).take (8 * k) = unpack (xs.take k) := by
  conv => lhs; rw [← List.take_append_drop k xs, unpack_append]
  have : (unpack (xs.take k)).length = 8 * k := by rw [unpack_length, List.length_take, Nat.min_eq_left h]
  rw [← this, List.take_left]
theorem infR_behind {xs zs : List Int} {lim : Nat} {s : DS} (h : infR xs lim = .ok ((), s)) (hal : s.a ≤ 8 * xs.length) : infR (xs.take ((s.a + 7) / 8) ++ zs) lim = .ok ((), s) := by
  rw [infR_def] at h ⊢
  have hn : (s.a + 7) / 8 ≤ xs.length := by omega
  have e1 := unpack_takeN xs _ hn
  have el : (unpack (xs.take ((s.a + 7) / 8))).length = 8 * ((s.a + 7) / 8) := by rw [unpack_length, List.length_take, Nat.min_eq_left hn]
  refine DP.run_behind (m := 8 * ((s.a + 7) / 8)) (row := unpack xs) ?_ (by rw [unpack_length]; omega) (by rw [unpack_append, List.length_append, el]; omega) _ _ h (by omega) (by show 0 ≤ lim; omega)
  rw [e1, unpack_append, ← el, List.take_left]
theorem infR_part {xs : List Int} {lim : Nat} {s : DS} (h : infR xs lim = .ok ((), s)) (hal : s.a ≤ 8 * xs.length) : infR (xs.take ((s.a + 7) / 8 - 1)) lim = .error 50 := by
  obtain ⟨h1, _⟩ := infR_ok h
  rw [infR_def] at h ⊢
  have hn : (s.a + 7) / 8 - 1 ≤ xs.length := by omega
  rw [← unpack_takeN xs _ hn]
  exact DP.run_part (by rw [unpack_length]; omega) (by omega) _ _ h (by show 0 ≤ _; omega) (by omega) (by show 0 ≤ lim; omega)
end Go.Proofs.Yteinenklppbjkaa
