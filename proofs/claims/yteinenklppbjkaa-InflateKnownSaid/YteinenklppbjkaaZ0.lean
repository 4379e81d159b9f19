/- Layer 8, plain: a reader of streams as a tree of operations; what its runs have in common. -/
import Derived.Test.YteinenklppbjkaaGb

set_option linter.unusedVariables false

set_option linter.unusedSimpArgs false

open Go.RowKit

namespace Go.Proofs.Yteinenklppbjkaa

/-- Operations on bits and bytes. -/
inductive DP (α : Type) where
  | ret (x : α)
  | fail (e : Int)
  | get (n : Nat) (k : Int → DP α)
  | align (k : DP α)
  | come (c : Int) (k : DP α)
  | back (d : Nat) (k : Int → DP α)
  | dist (d : Int) (k : DP α)
  | room (n : Int) (k : DP α)
/-- How far it came. -/
structure DS where
  a : Nat
  out : List Int
def DP.run {α : Type} (row : List Bool) (lim : Nat) : DP α → DS → Except Int (α × DS)
  | .ret x, s => .ok (x, s)
  | .fail e, _ => .error e
  | .get n k, s => if s.a + n ≤ row.length then (k (num ((row.drop s.a).take n))).run row lim { s with a := s.a + n } else .error 50
  | .align k, s => k.run row lim { s with a := (s.a + 7) / 8 * 8 }
  | .come c k, s => if lim ≤ s.out.length then .error 81 else k.run row lim { s with out := s.out ++ [c] }
  | .back d k, s => if s.out.length < d then .error 70 else (k (s.out.getD (s.out.length - d) 0)).run row lim s
  | .dist d k, s => if (s.out.length : Int) < d then .error 70 else k.run row lim s
  | .room n k, s => if (lim : Int) - s.out.length < n then .error 81 else k.run row lim s
def DP.bind {α β : Type} : DP α → (α → DP β) → DP β
  | .ret x, f => f x
  | .fail e, _ => .fail e
  | .get n k, f => .get n fun v => (k v).bind f
  | .align k, f => .align (k.bind f)
  | .come c k, f => .come c (k.bind f)
  | .back d k, f => .back d fun v => (k v).bind f
  | .dist d k, f => .dist d (k.bind f)
  | .room n k, f => .room n (k.bind f)
theorem DP.run_bind {α β : Type} {row : List Bool} {lim : Nat} (f : α → DP β) : ∀ (p : DP α) (s : DS), (p.bind f).run row lim s = match p.run row lim s with
    | .ok (x, s') => (f x).run row lim s'
    | .error e => .error e := by
  intro p
  induction p with
  | ret x => intro s; rfl
  | fail e => intro s; rfl
  | get n k ih => intro s; simp only [DP.bind, DP.run]; split; exact ih _ _; rfl
  | align k ih => intro s; simp only [DP.bind, DP.run]; exact ih _
  | come c k ih => intro s; simp only [DP.bind, DP.run]; split; rfl; exact ih _
  | back d k ih => intro s; simp only [DP.bind, DP.run]; split; rfl; exact ih _ _
  | dist d k ih => intro s; simp only [DP.bind, DP.run]; split; rfl; exact ih _
  | room n k ih => intro s; simp only [DP.bind, DP.run]; split; rfl; exact ih _
/-- Bytes come within the limit. -/
theorem DP.run_len {α : Type} {row : List Bool} {lim : Nat} : ∀ (p : DP α) (s : DS) {x : α} {s' : DS}, s.out.length ≤ lim → p.run row lim s = .ok (x, s') → s'.out.length ≤ lim ∧ s.out.length ≤ s'.out.length ∧ s.a ≤ s'.a := by
  intro p
  induction p with
  | ret x => intro s x s' h e; simp only [DP.run, Except.ok.injEq, Prod.mk.injEq] at e; obtain ⟨_, rfl⟩ := e; exact ⟨h, Nat.le_refl _, Nat.le_refl _⟩
  | fail e => intro s x s' h e; cases e
  | get n k ih =>
    intro s x s' h e; simp only [DP.run] at e; split at e
    · have := ih _ _ (by exact h) e; exact ⟨this.1, this.2.1, Nat.le_trans (Nat.le_add_right _ _) this.2.2⟩
    · cases e
  | align k ih =>
    intro s x s' h e; simp only [DP.run] at e
    have := ih _ (by exact h) e
    exact ⟨this.1, this.2.1, Nat.le_trans (by show s.a ≤ (s.a + 7) / 8 * 8; omega) this.2.2⟩
  | come c k ih =>
    intro s x s' h e; simp only [DP.run] at e; split at e
    · cases e
    · rename_i hl
      have := ih _ (by show (s.out ++ [c]).length ≤ lim; rw [List.length_append, List.length_singleton]; omega) e
      have h2 : (s.out ++ [c]).length ≤ s'.out.length := this.2.1
      rw [List.length_append] at h2
      exact ⟨this.1, by omega, this.2.2⟩
  | back d k ih => intro s x s' h e; simp only [DP.run] at e; split at e; cases e; exact ih _ _ h e
  | dist d k ih => intro s x s' h e; simp only [DP.run] at e; split at e; cases e; exact ih _ h e
  | room n k ih => intro s x s' h e; simp only [DP.run] at e; split at e; cases e; exact ih _ h e
/-- A greater limit tells the same, or more. -/
theorem DP.run_lim {α : Type} {row : List Bool} {lim lim' : Nat} (hl : lim ≤ lim') : ∀ (p : DP α) (s : DS), (∀ r, p.run row lim s = .ok r → p.run row lim' s = .ok r) ∧ ∀ e, p.run row lim s = .error e → e = 81 ∨ p.run row lim' s = .error e := by
  intro p
  induction p with
  | ret x => intro s; exact ⟨fun r h => h, fun e h => by cases h⟩
  | fail e => intro s; exact ⟨fun r h => (by cases h), fun e h => .inr h⟩
  | get n k ih =>
    intro s; simp only [DP.run]; split
    · exact ih _ _
    · exact ⟨fun r h => (by cases h), fun e h => .inr h⟩
  | align k ih => intro s; exact ih _
  | come c k ih =>
    intro s; simp only [DP.run]
    by_cases h1 : lim ≤ s.out.length
    · rw [if_pos h1]; exact ⟨fun r h => (by cases h), fun e h => (by injection h with h; exact .inl h.symm)⟩
    · rw [if_neg h1, if_neg (by omega)]; exact ih _
  | back d k ih =>
    intro s; simp only [DP.run]; split
    · exact ⟨fun r h => (by cases h), fun e h => .inr h⟩
    · exact ih _ _
  | dist d k ih =>
    intro s; simp only [DP.run]; split
    · exact ⟨fun r h => (by cases h), fun e h => .inr h⟩
    · exact ih _
  | room n k ih =>
    intro s; simp only [DP.run]
    by_cases h1 : (lim : Int) - s.out.length < n
    · rw [if_pos h1]; exact ⟨fun r h => (by cases h), fun e h => (by injection h with h; exact .inl h.symm)⟩
    · rw [if_neg h1, if_neg (by omega)]; exact ih _
/-- What stands behind plays no part. -/
theorem DP.run_behind {α : Type} {row row' : List Bool} {lim : Nat} {m : Nat} (hr : row.take m = row'.take m) (hm : m ≤ row.length) (hm' : m ≤ row'.length) : ∀ (p : DP α) (s : DS) {x : α} {s' : DS}, p.run row lim s = .ok (x, s') → s'.a ≤ m → s.out.length ≤ lim → p.run row' lim s = .ok (x, s') := by
  intro p
  induction p with
  | ret x => intro s x s' e _ _; exact e
  | fail e => intro s x s' h _ _; cases h
  | get n k ih =>
    intro s x s' e ha ho; simp only [DP.run] at e ⊢; split at e
    · rename_i hn
      have hl := DP.run_len _ _ (by exact ho) e
      have hle : s.a + n ≤ m := Nat.le_trans hl.2.2 ha
      have hseg : (row'.drop s.a).take n = (row.drop s.a).take n := by
        have : ∀ l : List Bool, (l.drop s.a).take n = ((l.take m).drop s.a).take n := fun l => by
          rw [List.drop_take, List.take_take, Nat.min_eq_left (by omega)]
        rw [this row', this row, hr]
      rw [if_pos (by omega), hseg]
      exact ih _ _ e ha ho
    · cases e
  | align k ih => intro s x s' e ha ho; exact ih _ e ha ho
  | come c k ih =>
    intro s x s' e ha ho; simp only [DP.run] at e ⊢; split at e
    · cases e
    · rename_i h1; rw [if_neg h1]; exact ih _ e ha (by show (s.out ++ [c]).length ≤ lim; rw [List.length_append, List.length_singleton]; omega)
  | back d k ih =>
    intro s x s' e ha ho; simp only [DP.run] at e ⊢; split at e
    · cases e
    · rename_i h1; rw [if_neg h1]; exact ih _ _ e ha ho
  | dist d k ih =>
    intro s x s' e ha ho; simp only [DP.run] at e ⊢; split at e
    · cases e
    · rename_i h1; rw [if_neg h1]; exact ih _ e ha ho
  | room n k ih =>
    intro s x s' e ha ho; simp only [DP.run] at e ⊢; split at e
    · cases e
    · rename_i h1; rw [if_neg h1]; exact ih _ e ha ho
/-- Of a part (of whole bytes) the end of bits is told. -/
theorem DP.run_part {α : Type} {row : List Bool} {lim : Nat} {m : Nat} (hm : m ≤ row.length) (h8 : m % 8 = 0) : ∀ (p : DP α) (s : DS) {x : α} {s' : DS}, p.run row lim s = .ok (x, s') → s.a ≤ m → m < s'.a → s.out.length ≤ lim → p.run (row.take m) lim s = .error 50 := by
  intro p
  induction p with
  | ret x =>
    intro s x s' e ha hm' _
    simp only [DP.run, Except.ok.injEq, Prod.mk.injEq] at e
    obtain ⟨_, rfl⟩ := e
    omega
  | fail e => intro s x s' h _ _ _; cases h
  | get n k ih =>
    intro s x s' e ha hm' ho; simp only [DP.run] at e ⊢; split at e
    · by_cases h2 : s.a + n ≤ m
      · have hseg : ((row.take m).drop s.a).take n = (row.drop s.a).take n := by
          rw [List.drop_take, List.take_take, Nat.min_eq_left (by omega)]
        rw [if_pos (by rw [List.length_take]; omega), hseg]
        exact ih _ _ e h2 hm' ho
      · rw [if_neg (by rw [List.length_take]; omega)]
    · cases e
  | align k ih => intro s x s' e ha hm' ho; exact ih _ e (by show (s.a + 7) / 8 * 8 ≤ m; omega) hm' ho
  | come c k ih =>
    intro s x s' e ha hm' ho; simp only [DP.run] at e ⊢; split at e
    · cases e
    · rename_i h1; rw [if_neg h1]; exact ih _ e ha hm' (by show (s.out ++ [c]).length ≤ lim; rw [List.length_append, List.length_singleton]; omega)
  | back d k ih =>
    intro s x s' e ha hm' ho; simp only [DP.run] at e ⊢; split at e
    · cases e
    · rename_i h1; rw [if_neg h1]; exact ih _ _ e ha hm' ho
  | dist d k ih =>
    intro s x s' e ha hm' ho; simp only [DP.run] at e ⊢; split at e
    · cases e
    · rename_i h1; rw [if_neg h1]; exact ih _ e ha hm' ho
  | room n k ih =>
    intro s x s' e ha hm' ho; simp only [DP.run] at e ⊢; split at e
    · cases e
    · rename_i h1; rw [if_neg h1]; exact ih _ e ha hm' ho
/-- The same stream behind other bytes. -/
theorem DP.run_shift {α : Type} {row pre : List Bool} {po : List Int} {lim lim' : Nat} (h8 : pre.length % 8 = 0) (hl : lim + po.length ≤ lim') : ∀ (p : DP α) (s : DS) {x : α} {s' : DS}, p.run row lim s = .ok (x, s') →
    p.run (pre ++ row) lim' ⟨pre.length + s.a, po ++ s.out⟩ = .ok (x, ⟨pre.length + s'.a, po ++ s'.out⟩) := by
  intro p
  induction p with
  | ret x => intro s x s' e; simp only [DP.run, Except.ok.injEq, Prod.mk.injEq] at e; obtain ⟨rfl, rfl⟩ := e; rfl
  | fail e => intro s x s' e; cases e
  | get n k ih =>
    intro s x s' e; simp only [DP.run] at e ⊢; split at e
    · rename_i hn
      rw [if_pos (by rw [List.length_append]; omega), List.drop_append, List.drop_of_length_le (by omega), List.nil_append, show pre.length + s.a - pre.length = s.a by omega, show pre.length + s.a + n = pre.length + (s.a + n) by omega]
      exact ih _ _ e
    · cases e
  | align k ih =>
    intro s x s' e; simp only [DP.run] at e ⊢
    rw [show (pre.length + s.a + 7) / 8 * 8 = pre.length + (s.a + 7) / 8 * 8 by omega]
    exact ih _ e
  | come c k ih =>
    intro s x s' e; simp only [DP.run] at e ⊢; split at e
    · cases e
    · rename_i h1
      rw [if_neg (by rw [List.length_append]; omega), List.append_assoc]
      exact ih _ e
  | back d k ih =>
    intro s x s' e; simp only [DP.run] at e ⊢; split at e
    · cases e
    · rename_i h1
      rw [if_neg (by rw [List.length_append]; omega)]
      by_cases hd : d = 0
      · subst hd
        rw [Nat.sub_zero] at e ⊢
        rw [List.getD_eq_getElem?_getD, List.getElem?_eq_none (Nat.le_refl _)] at e ⊢
        exact ih _ _ e
      · have hg : (po ++ s.out).getD ((po ++ s.out).length - d) 0 = s.out.getD (s.out.length - d) 0 := by
          rw [List.length_append, show po.length + s.out.length - d = po.length + (s.out.length - d) by omega]
          rw [List.getD_eq_getElem?_getD, List.getD_eq_getElem?_getD, List.getElem?_append_right (by omega), Nat.add_sub_cancel_left]
        rw [hg]
        exact ih _ _ e
  | dist d k ih =>
    intro s x s' e; simp only [DP.run] at e ⊢; split at e
    · cases e
    · rw [if_neg (by rw [List.length_append]; omega)]; exact ih _ e
  | room n k ih =>
    intro s x s' e; simp only [DP.run] at e ⊢; split at e
    · cases e
    · rw [if_neg (by rw [List.length_append]; omega)]; exact ih _ e
end Go.Proofs.Yteinenklppbjkaa
