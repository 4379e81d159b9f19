/- One object of an abstract heap is put anew. -/
import Derived.Test.YtaioclggifdnhaaAb3
set_option linter.unusedVariables false
set_option linter.unusedSimpArgs false
open Go.RowKit
namespace Go.Proofs.Ytaioclggifdnhaa

theorem lt_of_heap {w : World} {b : Nat} {o : Obj} (h : w.heap[b]? = some o) : b < w.heap.size := (Array.getElem?_eq_some_iff.1 h).1
theorem Holds.lt {ρ : Env} {own : Bool} {x : Cont} {b base : Nat} {w : World} (h : Holds ρ own x b base w) : b < w.heap.size := by
  rcases h.all with ⟨_, c, e, fr, h1, _⟩ | ⟨_, _, h1⟩
  · exact lt_of_heap h1
  · cases x with
    | map kk es => obtain ⟨_, _, h1, _⟩ := h1; exact lt_of_heap h1
    | loop l st pd fn n a ps as bd df => obtain ⟨_, _, h1, _⟩ := h1; exact lt_of_heap h1
    | cells _ => exact h1.elim
    | ints _ _ _ => exact h1.elim
    | bools _ _ => exact h1.elim
    | tab _ _ _ _ => exact h1.elim

theorem sim_put {ρ ρ' : Env} {M M' : AH} {w w' : World} {i g : Nat} {x' : Cont} (h : Sim ρ M w)
    (hlen : M.length ≤ M'.length) (hget : ∀ i', i' ≠ i → M'[i']? = M[i']?) (hnew : M'[i]? = some (.one true g x'))
    (hρ : ∀ i' g' l, ρ i' g' = some l → ρ' i' g' = some l) (hρ' : ∀ i' g', (ρ' i' g').isSome = true → (ρ i' g').isSome = true ∨ (i' = i ∧ g' = g))
    (htag : ∀ g', (ρ i g').isSome = true → g' ≤ g)
    (hw : ∀ b, b < w.heap.size → (∀ g0 x0 q0, slot M i g0 = some (true, x0) → ρ i g0 = some (some q0) → q0.1 ≠ b) → w'.heap[b]? = w.heap[b]?)
    (hsz : w.heap.size ≤ w'.heap.size) (hos : w'.os = w.os) (htape : w'.tape = w.tape) (hout : w'.output = w.output)
    (hloc : (∃ q, ρ' i g = some (some q) ∧ Holds ρ' true x' q.1 q.2 w' ∧ (w.heap.size ≤ q.1 ∨ ∃ g0 x0 q0, slot M i g0 = some (true, x0) ∧ ρ i g0 = some (some q0) ∧ q0.1 = q.1)) ∨ (ρ' i g = some none ∧ x'.virt)) :
    Sim ρ' M' w' ∧ Ext ρ M w ρ' M' w' := by
  have hs1 : ∀ g' own x, slot M' i g' = some (own, x) → g' = g ∧ own = true ∧ x = x' := by
    intro g' own x hs
    unfold slot at hs
    rw [hnew] at hs
    simp only [slotO] at hs
    split at hs
    · injection hs with hs; injection hs with a b; exact ⟨‹_›, a.symm, b.symm⟩
    · cases hs
  have hs2 : ∀ i' g', i' ≠ i → slot M' i' g' = slot M i' g' := by
    intro i' g' hne
    unfold slot
    rw [hget i' hne]
  have hlt : i < M'.length := (List.getElem?_eq_some_iff.1 hnew).1
  -- an old object's block is old
  have hold : ∀ i' g' own x q, slot M i' g' = some (own, x) → ρ i' g' = some (some q) → Holds ρ own x q.1 q.2 w := by
    intro i' g' own x q hs hq
    rcases h.holds i' g' own x hs with ⟨q', e1, e2⟩ | ⟨e1, _⟩
    · rw [hq] at e1; injection e1 with e1; injection e1 with e1; subst e1; exact e2
    · rw [hq] at e1; cases e1
  have hkeep : ∀ i' g' own x q, i' ≠ i → slot M i' g' = some (own, x) → ρ i' g' = some (some q) → w'.heap[q.1]? = w.heap[q.1]? := by
    intro i' g' own x q hne hs hq
    refine hw _ (hold i' g' own x q hs hq).lt fun g0 x0 q0 a1 a2 e => hne ?_
    exact (h.apart i g0 x0 i' g' own x q0 q a1 hs a2 hq e).1.symm
  have hback : ∀ i' g', i' ≠ i → ∀ l, ρ' i' g' = some l → (∃ own x, slot M i' g' = some (own, x)) → ρ i' g' = some l := by
    intro i' g' hne l hl ⟨own, x, hs⟩
    rcases h.holds i' g' own x hs with ⟨q', e1, _⟩ | ⟨e1, _⟩
    · rw [hρ _ _ _ e1] at hl; rw [e1]; exact hl
    · rw [hρ _ _ _ e1] at hl; rw [e1]; exact hl
  constructor
  · refine ⟨?_, ?_, ?_, ?_, ?_⟩
    · intro i' g' hi
      rcases hρ' i' g' hi with h1 | ⟨rfl, _⟩
      · exact Nat.lt_of_lt_of_le (h.dom i' g' h1) hlen
      · exact hlt
    · intro i' g' own g1 x hm hi
      by_cases hne : i' = i
      · subst hne
        rw [hnew] at hm; injection hm with hm; injection hm with _ e _
        subst e
        rcases hρ' i' g' hi with h1 | ⟨_, rfl⟩
        · exact htag _ h1
        · exact Nat.le_refl _
      · rw [hget i' hne] at hm
        rcases hρ' i' g' hi with h1 | ⟨rfl, _⟩
        · exact h.tag i' g' own g1 x hm h1
        · exact absurd rfl hne
    · intro i' g' own m x hm hi
      by_cases hne : i' = i
      · subst hne; rw [hnew] at hm; cases hm
      · rw [hget i' hne] at hm
        rcases hρ' i' g' hi with h1 | ⟨rfl, _⟩
        · exact h.fam i' g' own m x hm h1
        · exact absurd rfl hne
    · intro i' g' own x hs
      by_cases hne : i' = i
      · subst hne
        obtain ⟨rfl, rfl, rfl⟩ := hs1 g' own x hs
        rcases hloc with ⟨q, h1, h2, _⟩ | hv
        · exact .inl ⟨q, h1, h2⟩
        · exact .inr hv
      · rw [hs2 i' g' hne] at hs
        rcases h.holds i' g' own x hs with ⟨q, h1, h2⟩ | ⟨h1, h2⟩
        · exact .inl ⟨q, hρ _ _ _ h1, h2.ext hρ (hkeep i' g' own x q hne hs h1)⟩
        · exact .inr ⟨hρ _ _ _ h1, h2⟩
    · intro i1 g1 x1 i2 g2 own2 x2 q1 q2 hs1' hs2' hq1 hq2 he
      by_cases h1 : i1 = i
      · by_cases h2 : i2 = i
        · subst h1; subst h2
          exact ⟨rfl, (hs1 g1 _ _ hs1').1.trans (hs1 g2 _ _ hs2').1.symm⟩
        · exfalso
          subst h1
          obtain ⟨rfl, _, rfl⟩ := hs1 g1 _ _ hs1'
          rw [hs2 i2 g2 h2] at hs2'
          have hq2' := hback i2 g2 h2 _ hq2 ⟨_, _, hs2'⟩
          have hl2 := (hold i2 g2 own2 x2 q2 hs2' hq2').lt
          rcases hloc with ⟨q, e1, _, e3 | ⟨g0, x0, q0, a1, a2, a3⟩⟩ | ⟨e1, _⟩
          · rw [hq1] at e1; injection e1 with e1; injection e1 with e1; subst e1; omega
          · rw [hq1] at e1; injection e1 with e1; injection e1 with e1; subst e1
            exact h2 (h.apart i1 g0 x0 i2 g2 own2 x2 q0 q2 a1 hs2' a2 hq2' (a3.trans he)).1.symm
          · rw [hq1] at e1; cases e1
      · rw [hs2 i1 g1 h1] at hs1'
        have hq1' := hback i1 g1 h1 _ hq1 ⟨_, _, hs1'⟩
        by_cases h2 : i2 = i
        · exfalso
          subst h2
          obtain ⟨rfl, _, rfl⟩ := hs1 g2 _ _ hs2'
          have hl1 := (hold i1 g1 true x1 q1 hs1' hq1').lt
          rcases hloc with ⟨q, e1, _, e3 | ⟨g0, x0, q0, a1, a2, a3⟩⟩ | ⟨e1, _⟩
          · rw [hq2] at e1; injection e1 with e1; injection e1 with e1; subst e1; omega
          · rw [hq2] at e1; injection e1 with e1; injection e1 with e1; subst e1
            exact h1 (h.apart i1 g1 x1 i2 g0 true x0 q1 q0 hs1' a1 hq1' a2 (he.trans a3.symm)).1
          · rw [hq2] at e1; cases e1
        · rw [hs2 i2 g2 h2] at hs2'
          have hq2' := hback i2 g2 h2 _ hq2 ⟨_, _, hs2'⟩
          exact h.apart i1 g1 x1 i2 g2 own2 x2 q1 q2 hs1' hs2' hq1' hq2' he
  · refine ⟨hρ, hsz, fun b hb hn => hw b hb fun g0 x0 q0 a1 a2 => hn i g0 x0 q0 a1 a2, ?_, hos, htape, hout⟩
    intro i' g' x q hs hq hb
    by_cases hne : i' = i
    · subst hne
      obtain ⟨rfl, _, rfl⟩ := hs1 g' _ _ hs
      rcases hloc with ⟨q', e1, _, e3 | ⟨g0, x0, q0, a1, a2, a3⟩⟩ | ⟨e1, _⟩
      · rw [hq] at e1; injection e1 with e1; injection e1 with e1; subst e1; omega
      · rw [hq] at e1; injection e1 with e1; injection e1 with e1; subst e1
        exact ⟨i', g0, x0, q0, a1, a2, a3⟩
      · rw [hq] at e1; cases e1
    · rw [hs2 i' g' hne] at hs
      exact ⟨i', g', x, q, hs, hback i' g' hne _ hq ⟨_, _, hs⟩, rfl⟩

/-- The environment with one name more. -/
def upE (ρ : Env) (i g : Nat) (l : Option (Nat × Nat)) : Env := fun i' g' => if i' = i ∧ g' = g then some l else ρ i' g'
theorem upE_same (ρ : Env) (i g : Nat) (l : Option (Nat × Nat)) : upE ρ i g l i g = some l := by simp [upE]
theorem upE_ext {ρ : Env} {i g : Nat} {l : Option (Nat × Nat)} (h : (ρ i g).isSome = false) : ∀ i' g' l', ρ i' g' = some l' → upE ρ i g l i' g' = some l' := by
  intro i' g' l' e
  unfold upE
  split
  · rename_i hh; obtain ⟨rfl, rfl⟩ := hh; rw [e] at h; simp at h
  · exact e
theorem upE_back {ρ : Env} {i g : Nat} {l : Option (Nat × Nat)} : ∀ i' g', (upE ρ i g l i' g').isSome = true → (ρ i' g').isSome = true ∨ (i' = i ∧ g' = g) := by
  intro i' g' e
  unfold upE at e
  split at e
  · exact .inr ‹_›
  · exact .inl e

/-- A new object behind all others. -/
theorem sim_new {ρ : Env} {M : AH} {w w' : World} {x : Cont} {l : Option (Nat × Nat)} (h : Sim ρ M w)
    (hw : ∀ b, b < w.heap.size → w'.heap[b]? = w.heap[b]?) (hsz : w.heap.size ≤ w'.heap.size) (hos : w'.os = w.os) (htape : w'.tape = w.tape) (hout : w'.output = w.output)
    (hl : (∃ b base, l = some (b, base) ∧ w.heap.size ≤ b ∧ Holds (upE ρ M.length 0 l) true x b base w') ∨ (l = none ∧ x.virt)) :
    Sim (upE ρ M.length 0 l) (M ++ [.one true 0 x]) w' ∧ Ext ρ M w (upE ρ M.length 0 l) (M ++ [.one true 0 x]) w' := by
  have hun : ∀ g, (ρ M.length g).isSome = false := fun g => by
    cases hh : (ρ M.length g).isSome with
    | false => rfl
    | true => exact absurd (h.dom _ _ hh) (Nat.lt_irrefl _)
  refine sim_put (i := M.length) (g := 0) (x' := x) h (by simp) ?_ (by simp) (upE_ext (hun 0)) upE_back (fun g' hg => by rw [hun g'] at hg; cases hg) (fun b hb _ => hw b hb) hsz hos htape hout ?_
  · intro i' hne
    rcases Nat.lt_or_ge i' M.length with hlt | hge
    · exact List.getElem?_append_left hlt
    · rw [List.getElem?_eq_none (by simp; omega), List.getElem?_eq_none hge]
  · rcases hl with ⟨b, base, rfl, h1, h2⟩ | ⟨rfl, hv⟩
    · exact .inl ⟨(b, base), upE_same _ _ _ _, h2, .inl h1⟩
    · exact .inr ⟨upE_same _ _ _ _, hv⟩

theorem slot_one {M : AH} {i g : Nat} {own : Bool} {x : Cont} (h : M[i]? = some (.one own g x)) : slot M i g = some (own, x) := by
  simp [slot, h, slotO]

/-- An object's contents, written in place. -/
theorem sim_set {ρ : Env} {M : AH} {w w' : World} {i g : Nat} {x x' : Cont} {q : Nat × Nat} (h : Sim ρ M w) (hm : M[i]? = some (.one true g x)) (hq : ρ i g = some (some q))
    (hw : ∀ b, b ≠ q.1 → w'.heap[b]? = w.heap[b]?) (hsz : w'.heap.size = w.heap.size) (hos : w'.os = w.os) (htape : w'.tape = w.tape) (hout : w'.output = w.output)
    (hh : Holds ρ true x' q.1 q.2 w') : Sim ρ (M.set i (.one true g x')) w' ∧ Ext ρ M w ρ (M.set i (.one true g x')) w' := by
  have hlt : i < M.length := (List.getElem?_eq_some_iff.1 hm).1
  refine sim_put (i := i) (g := g) (x' := x') h (by simp) (fun i' hne => by rw [List.getElem?_set_ne (Ne.symm hne)]) (by simp [hlt]) (fun _ _ _ e => e) (fun _ _ e => .inl e) (fun g' hg => h.tag i g' true g x hm hg)
    (fun b hb hn => hw b fun e => hn g x q (slot_one hm) hq e.symm) (by omega) hos htape hout (.inl ⟨q, hq, hh, .inr ⟨g, x, q, slot_one hm, hq, rfl⟩⟩)

/-- An object at a new place (behind an append). -/
theorem sim_retag {ρ : Env} {M : AH} {w w' : World} {i g : Nat} {x x' : Cont} {l : Option (Nat × Nat)} (h : Sim ρ M w) (hm : M[i]? = some (.one true g x))
    (hw : ∀ b, b < w.heap.size → (∀ q, ρ i g = some (some q) → q.1 ≠ b) → w'.heap[b]? = w.heap[b]?) (hsz : w.heap.size ≤ w'.heap.size) (hos : w'.os = w.os) (htape : w'.tape = w.tape) (hout : w'.output = w.output)
    (hl : (∃ b base, l = some (b, base) ∧ (w.heap.size ≤ b ∨ ∃ q, ρ i g = some (some q) ∧ q.1 = b) ∧ Holds (upE ρ i (g + 1) l) true x' b base w') ∨ (l = none ∧ x'.virt)) :
    Sim (upE ρ i (g + 1) l) (M.set i (.one true (g + 1) x')) w' ∧ Ext ρ M w (upE ρ i (g + 1) l) (M.set i (.one true (g + 1) x')) w' := by
  have hlt : i < M.length := (List.getElem?_eq_some_iff.1 hm).1
  have hun : (ρ i (g + 1)).isSome = false := by
    cases hh : (ρ i (g + 1)).isSome with
    | false => rfl
    | true => exact absurd (h.tag i _ true g x hm hh) (by omega)
  refine sim_put (i := i) (g := g + 1) (x' := x') h (by simp) (fun i' hne => by rw [List.getElem?_set_ne (Ne.symm hne)]) (by simp [hlt]) (upE_ext hun) upE_back (fun g' hg => by have := h.tag i g' true g x hm hg; omega)
    (fun b hb hn => hw b hb fun q hq => hn g x q (slot_one hm) hq) hsz hos htape hout ?_
  rcases hl with ⟨b, base, rfl, h1, h2⟩ | ⟨rfl, hv⟩
  · refine .inl ⟨(b, base), upE_same _ _ _ _, h2, ?_⟩
    rcases h1 with h1 | ⟨q, hq, h1⟩
    · exact .inl h1
    · exact .inr ⟨g, x, q, slot_one hm, hq, h1⟩
  · exact .inr ⟨upE_same _ _ _ _, hv⟩

end Go.Proofs.Ytaioclggifdnhaa
