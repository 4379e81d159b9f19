/- Layer 6, plain: what lies ahead in a row: pairs of the row ahead, and frequencies. -/
import Derived.Test.YtdnmbmnfglbfoaaH18

set_option linter.unusedVariables false

set_option linter.unusedSimpArgs false

open Go.RowKit

namespace Go.Proofs.Ytdnmbmnfglbfoaa

/-! Sums. -/
def sumI (g : It → Int) : List It → Int
  | [] => 0
  | x :: l => g x + sumI g l
theorem sumI_append (g : It → Int) : ∀ l l' : List It, sumI g (l ++ l') = sumI g l + sumI g l'
  | [], l' => by simp [sumI]
  | x :: l, l' => by simp only [List.cons_append, sumI, sumI_append g l l']; omega
theorem sumI_perm {g : It → Int} {l l' : List It} (h : l.Perm l') : sumI g l = sumI g l' := by
  induction h with
  | nil => rfl
  | cons x _ ih => simp only [sumI, ih]
  | swap x y l => simp only [sumI]; omega
  | trans _ _ a b => rw [a, b]
theorem sumI_congr {g h : It → Int} : ∀ {l : List It}, (∀ x ∈ l, g x = h x) → sumI g l = sumI h l
  | [], _ => rfl
  | x :: l, e => by simp only [sumI]; rw [e x (List.mem_cons_self ..), sumI_congr fun y hy => e y (List.mem_cons_of_mem _ hy)]
theorem sumI_nn {g : It → Int} : ∀ {l : List It}, (∀ x ∈ l, 0 ≤ g x) → 0 ≤ sumI g l
  | [], _ => Int.le_refl _
  | x :: l, e => by
    have := e x (List.mem_cons_self ..)
    have := sumI_nn (g := g) (l := l) fun y hy => e y (List.mem_cons_of_mem _ hy)
    simp only [sumI]; omega
theorem sumI_zero {g : It → Int} {l : List It} (h : ∀ x ∈ l, g x = 0) : sumI g l = 0 := by
  rw [sumI_congr (h := fun _ => 0) h]
  clear h
  induction l with
  | nil => rfl
  | cons x l ih => simp only [sumI, ih]; rfl
def sumN : Nat → (Nat → Int) → Int
  | 0, _ => 0
  | n + 1, g => sumN n g + g n
theorem sumN_congr {g h : Nat → Int} : ∀ {n : Nat}, (∀ i, i < n → g i = h i) → sumN n g = sumN n h
  | 0, _ => rfl
  | n + 1, e => by simp only [sumN]; rw [e n (Nat.lt_succ_self n), sumN_congr fun i hi => e i (by omega)]
theorem sumN_add (n : Nat) (g h : Nat → Int) : sumN n (fun i => g i + h i) = sumN n g + sumN n h := by
  induction n with
  | zero => rfl
  | succ n ih => simp only [sumN, ih]; omega
theorem sumN_mul (n : Nat) (c : Int) (g : Nat → Int) : sumN n (fun i => c * g i) = c * sumN n g := by
  induction n with
  | zero => simp [sumN]
  | succ n ih => simp only [sumN, ih, Int.mul_add]
theorem sumN_le {g h : Nat → Int} : ∀ {n : Nat}, (∀ i, i < n → g i ≤ h i) → sumN n g ≤ sumN n h
  | 0, _ => Int.le_refl _
  | n + 1, e => by
    have := e n (Nat.lt_succ_self n)
    have := sumN_le (n := n) fun i hi => e i (by omega)
    simp only [sumN]; omega
theorem sumN_zero (n : Nat) : sumN n (fun _ => 0) = 0 := by
  induction n with
  | zero => rfl
  | succ n ih => simp only [sumN, ih]; rfl
theorem sumN_one (n : Nat) : sumN n (fun _ => 1) = n := by
  induction n with
  | zero => rfl
  | succ n ih => simp only [sumN, ih]; omega
theorem sumN_at {n j : Nat} (g : Nat → Int) (h : j < n) : sumN n (fun i => if i = j then g i else 0) = g j := by
  induction n with
  | zero => omega
  | succ n ih =>
    simp only [sumN]
    by_cases e : j = n
    · subst e
      rw [if_pos rfl, sumN_congr (h := fun _ => 0) fun i hi => if_neg (by omega), sumN_zero]; omega
    · rw [ih (by omega), if_neg (by omega)]; omega
/-- How often the symbol i itself lies in a list. -/
def cntU (i : Nat) (l : List It) : Int := sumI (fun x => if x.u = i then 1 else 0) l
theorem cntU_nn (i : Nat) (l : List It) : 0 ≤ cntU i l := sumI_nn fun x _ => by split <;> omega
theorem cntU_mem {i : Nat} : ∀ {l : List It}, (∃ x ∈ l, x.u = i) → 1 ≤ cntU i l
  | [], h => by obtain ⟨x, hx, _⟩ := h; cases hx
  | y :: l, h => by
    obtain ⟨x, hx, e⟩ := h
    have h0 := cntU_nn i l
    unfold cntU at h0 ⊢
    simp only [sumI]
    rcases List.mem_cons.1 hx with rfl | hx
    · rw [if_pos e]; omega
    · have := cntU_mem (l := l) ⟨x, hx, e⟩
      unfold cntU at this
      split <;> omega
theorem cntU_not {i : Nat} {l : List It} (h : ∀ x ∈ l, x.u ≠ i) : cntU i l = 0 := sumI_zero fun x hx => if_neg (h x hx)
theorem cntU_le {i : Nat} : ∀ {l : List It}, l.Pairwise (fun a b => a.u ≠ b.u) → cntU i l ≤ 1
  | [], _ => by show (0 : Int) ≤ 1; omega
  | x :: l, h => by
    obtain ⟨h1, h2⟩ := List.pairwise_cons.1 h
    unfold cntU
    simp only [sumI]
    split
    · rename_i e
      have := cntU_not (i := i) (l := l) fun y hy => by have := h1 y hy; omega
      unfold cntU at this
      omega
    · have := cntU_le (i := i) h2
      unfold cntU at this
      omega
theorem sumI_cnt {n : Nat} (h : Nat → Int) : ∀ {l : List It}, (∀ x ∈ l, x.u < n) → sumI (fun x => h x.u) l = sumN n (fun i => h i * cntU i l)
  | [], _ => by
    rw [sumN_congr (h := fun _ => 0) fun i _ => by simp [cntU, sumI], sumN_zero]; rfl
  | x :: l, e => by
    have hx := e x (List.mem_cons_self ..)
    have ih := sumI_cnt (n := n) h (l := l) fun y hy => e y (List.mem_cons_of_mem _ hy)
    simp only [sumI]
    rw [ih, sumN_congr (g := fun i => h i * cntU i (x :: l)) (h := fun i => (if i = x.u then h i else 0) + h i * cntU i l) (fun i _ => by
      show h i * ((if x.u = i then 1 else 0) + cntU i l) = _
      rw [Int.mul_add]
      by_cases e : i = x.u
      · rw [if_pos e, if_pos e.symm]; omega
      · rw [if_neg e, if_neg (fun h => e h.symm)]; omega), sumN_add, sumN_at _ hx]

/-! Pairs. -/
theorem pairUp_sum (g : It → Int) : ∀ (l : List It) (m : Nat), m ≤ (pairUp l).length → (((pairUp l).take m).map fun q => g q.1 + g q.2).sum = sumI g (l.take (2 * m))
  | _, 0, _ => by simp [sumI]
  | [], m + 1, h => by simp [pairUp] at h
  | [_], m + 1, h => by simp [pairUp] at h
  | a :: b :: r, m + 1, h => by
    simp only [pairUp, List.length_cons, Nat.add_le_add_iff_right] at h
    have ih := pairUp_sum g r m h
    rw [show 2 * (m + 1) = 2 * m + 1 + 1 by omega]
    simp only [pairUp, List.take_succ_cons, List.map_cons, List.sum_cons, sumI]
    rw [ih]; omega
theorem pairUp_in : ∀ (l : List It) (m : Nat) {y : It}, m ≤ (pairUp l).length → y ∈ l.take (2 * m) → ∃ q ∈ (pairUp l).take m, y = q.1 ∨ y = q.2
  | _, 0, _, _, h => by simp at h
  | [], m + 1, _, h, _ => by simp [pairUp] at h
  | [_], m + 1, _, h, _ => by simp [pairUp] at h
  | a :: b :: r, m + 1, y, h, hy => by
    simp only [pairUp, List.length_cons, Nat.add_le_add_iff_right] at h
    rw [show 2 * (m + 1) = 2 * m + 1 + 1 by omega] at hy
    simp only [List.take_succ_cons, List.mem_cons] at hy
    simp only [pairUp, List.take_succ_cons, List.mem_cons]
    rcases hy with rfl | rfl | hy
    · exact ⟨_, .inl rfl, .inl rfl⟩
    · exact ⟨_, .inl rfl, .inr rfl⟩
    · obtain ⟨q, h1, h2⟩ := pairUp_in r m h hy
      exact ⟨q, .inr h1, h2⟩
theorem pairUp_sorted : ∀ {l : List It}, l.Pairwise leI → (pairUp l).Pairwise fun p q => p.1.w + p.2.w ≤ q.1.w + q.2.w
  | [], _ => List.Pairwise.nil
  | [_], _ => List.Pairwise.nil
  | a :: b :: r, h => by
    obtain ⟨h1, h2⟩ := List.pairwise_cons.1 h
    obtain ⟨h3, h4⟩ := List.pairwise_cons.1 h2
    refine List.Pairwise.cons (fun q hq => ?_) (pairUp_sorted h4)
    obtain ⟨q1, q2⟩ := pairUp_mem (a := q.1) (b := q.2) (l := r) hq
    have a1 := h1 _ (List.mem_cons_of_mem _ q1)
    have a2 := h3 _ q2
    unfold leI at a1 a2
    show a.w + b.w ≤ q.1.w + q.2.w
    omega

/-! A row's items. -/
section

variable (fr : List Int)

abbrev nF : Nat := (usedF fr).length

/-- The frequency of a symbol that has one. -/
def fF (i : Nat) : Int := fr.getD ((usedF fr).getD i 0) 0
/-- The items of a row in order. -/
def srt (k : Nat) : List It := sortI (rowsF fr k).all
def pF (k : Nat) : List (It × It) := pairsF (rowsF fr k).all
theorem pF_eq (k : Nat) : pF fr k = pairUp (srt fr k) := rfl
def npF (k : Nat) : List It := (pF fr k).mapIdx fun j q => ⟨q.1.w + q.2.w, (j : Int), (rowsF fr k).m + j⟩
def nlF (k : Nat) : List It := (List.range (nF fr)).map fun i => ⟨fF fr i, (((pF fr k).length + i : Nat) : Int), i⟩
theorem numF_row (k : Nat) : numF (rowsF fr (k + 1)).all.length (rowsF fr (k + 1)).all = npF fr k ++ nlF fr k := by
  apply List.ext_getElem
  · rw [numF_len, rowsF_len]; simp [npF, nlF, pF, pairsF_len]
  · intro j h1 h2
    rw [numF_len] at h1
    have hd : ∀ (L : List It) (h : j < L.length), L[j] = L.getD j default := fun L h => by simp [List.getD_eq_getElem?_getD, h]
    rw [hd _ (by rw [numF_len]; exact h1), numF_getD _ _ _ h1, if_pos h1]
    by_cases hj : j < (pF fr k).length
    · rw [show (rowsF fr (k + 1)).all.getD j default = _ from next_lo hj, List.getElem_append_left (by simpa [npF] using hj)]
      simp only [npF, List.getElem_mapIdx, upI, outI, List.getD_eq_getElem?_getD, List.getElem?_mapIdx]
      rw [List.getElem?_eq_getElem (show j < (pairsF (rowsF fr k).all).length from hj)]
      rfl
    · have hlo : (npF fr k).length ≤ j := by simp [npF]; omega
      rw [show (rowsF fr (k + 1)).all.getD j default = _ from next_hi (by show (pF fr k).length ≤ j; omega), List.getElem_append_right hlo]
      have hnl : (npF fr k).length = (pF fr k).length := by simp [npF]
      have hj2 : j - (pF fr k).length < (usedF fr).length := by
        rw [rowsF_len] at h1
        have : (pF fr k).length = (rowsF fr k).all.length / 2 := pairsF_len _
        omega
      have hg : (lvF fr).getD (j - (pairsF (rowsF fr k).all).length) default = ⟨fF fr (j - (pF fr k).length), 0, j - (pF fr k).length⟩ := lvF_get hj2
      rw [hg]
      simp only [nlF, List.getElem_map, List.getElem_range, hnl]
      rw [show (pF fr k).length + (j - (pF fr k).length) = j by omega]
end

end Go.Proofs.Ytdnmbmnfglbfoaa
