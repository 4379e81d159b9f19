/- Layer 6, plain: the lengths make a code, and none costs less. -/
import Derived.Test.YtdnmbmnfglbfoaaH20

set_option linter.unusedVariables false

set_option linter.unusedSimpArgs false

open Go.RowKit

namespace Go.Proofs.Ytdnmbmnfglbfoaa

/-- What the levels of a symbol take of the room. -/
def wid (k u : Nat) : Int := 2 ^ (k + 1) - 2 ^ (k + 1 - u)
theorem wid_zero (k : Nat) : wid k 0 = 0 := by simp [wid]
theorem wid_succ (k u : Nat) (h : u ≤ k) : wid (k + 1) (u + 1) = 2 ^ (k + 1) + wid k u := by
  unfold wid
  rw [show k + 1 + 1 - (u + 1) = k + 1 - u by omega, Int.pow_succ (2 : Int) (k + 1)]
  omega
theorem pow2_pos (n : Nat) : (0 : Int) < 2 ^ n := by exact_mod_cast Nat.two_pow_pos n
theorem pow2_le {a b : Nat} (h : a ≤ b) : (2 : Int) ^ a ≤ 2 ^ b := by exact_mod_cast Nat.pow_le_pow_right (by omega) h
theorem wid_nn (k u : Nat) : 0 ≤ wid k u := by
  unfold wid
  have := pow2_le (show k + 1 - u ≤ k + 1 by omega)
  omega
theorem sumN_nn {n : Nat} {g : Nat → Int} (h : ∀ i, i < n → 0 ≤ g i) : 0 ≤ sumN n g := by
  have := sumN_le (n := n) h
  rwa [sumN_zero] at this
theorem sumN_two {n i j : Nat} {g : Nat → Int} (h : ∀ x, x < n → 0 ≤ g x) (hi : i < n) (hj : j < n) (hij : i ≠ j) : g i + g j ≤ sumN n g := by
  rw [← sumN_at g hi, ← sumN_at g hj, ← sumN_add]
  refine sumN_le fun x hx => ?_
  have := h x hx
  by_cases e : x = i
  · rw [if_pos e, if_neg (by omega)]; omega
  · rw [if_neg e]; split <;> omega
section

variable {fr : List Int}

structure RowOk (fr : List Int) (k t : Nat) : Prop where
  ub : ∀ i, i < nF fr → 0 ≤ uT fr k t i ∧ uT fr k t i ≤ k
  mono : ∀ i j, i < nF fr → j < nF fr → fF fr j < fF fr i → uT fr k t i ≤ uT fr k t j
  none : ∀ i, i < nF fr → aT fr k t i ≤ 0 → uT fr k t i = 0
  cost : wT fr k t = sumN (nF fr) (fun i => fF fr i * uT fr k t i)
  width : sumN (nF fr) (fun i => wid k (uT fr k t i).toNat) = (t : Int) * 2 ^ k
theorem rowOk (hb : fr.any badI = false) (hl : fr.length ≤ 320) : ∀ k t, k ≤ 15 → t ≤ (srt fr k).length → RowOk fr k t
  | 0, t, _, ht => by
    rw [srt_zero] at ht
    obtain rfl : t = 0 := by simpa using ht
    have hu : ∀ i, uT fr 0 0 i = 0 := fun i => rfl
    refine ⟨fun i _ => by rw [hu]; simp, fun i j _ _ _ => by rw [hu, hu]; exact Int.le_refl _, fun i _ _ => hu i, ?_, ?_⟩
    · rw [sumN_congr (h := fun _ => 0) fun i _ => by rw [hu]; simp, sumN_zero]; rfl
    · rw [sumN_congr (h := fun _ => 0) fun i _ => by rw [hu]; exact wid_zero 0, sumN_zero]; simp
  | k + 1, t, hk, ht => by
    obtain ⟨m, h1, h2, h3, h4, h5, h6, h7⟩ := row_step hb hl (show k ≤ 15 by omega) ht
    have ih := rowOk hb hl k (2 * m) (by omega) h1
    refine ⟨?_, ?_, ?_, ?_, ?_⟩
    · intro i hi
      have a := ih.ub i hi
      have b := h5 i hi
      rw [h3 i hi]; omega
    · intro i j hi hj hw
      have a := ih.mono i j hi hj hw
      have b := h6 i j hi hj hw
      rw [h3 i hi, h3 j hj]; omega
    · intro i hi ha
      have a := h7 i hi
      have b := h5 i hi
      have c := ih.none i hi (by omega)
      rw [h3 i hi, c]; omega
    · rw [h4, ih.cost, ← sumN_add]
      exact sumN_congr fun i hi => by rw [h3 i hi, Int.mul_add]
    · have e : ∀ i, i < nF fr → wid (k + 1) (uT fr (k + 1) t i).toNat = wid k (uT fr k (2 * m) i).toNat + 2 ^ (k + 1) * aT fr (k + 1) t i := by
        intro i hi
        have a := ih.ub i hi
        have b := h5 i hi
        rcases (show aT fr (k + 1) t i = 0 ∨ aT fr (k + 1) t i = 1 by omega) with c | c
        · have d := ih.none i hi (by have := h7 i hi; omega)
          rw [h3 i hi, c, d]
          show wid (k + 1) 0 = wid k 0 + _
          rw [wid_zero, wid_zero]; simp
        · rw [h3 i hi, c, show (uT fr k (2 * m) i + 1).toNat = (uT fr k (2 * m) i).toNat + 1 by omega, wid_succ k _ (by omega)]; omega
      rw [sumN_congr e, sumN_add, sumN_mul, ih.width, h2, Int.pow_succ]
      push_cast
      rw [Int.add_mul, Int.mul_comm 2 (m : Int), Int.mul_assoc, Int.mul_comm (2 ^ k * 2) (sumN _ _), Int.mul_comm 2 (2 ^ k)]
/-- The length of the code of the i-th symbol that has one. -/
def lenT (fr : List Int) (K i : Nat) : Int := uT fr K (2 * nF fr - 2) i
theorem srt_len (k : Nat) : (srt fr k).length = (rowsF fr k).all.length := sortI_len _
theorem len_ok (hb : fr.any badI = false) (hl : fr.length ≤ 320) {K : Nat} (h1 : 1 ≤ K) (h15 : K ≤ 15) (hn : 2 ≤ nF fr) (hK : nF fr ≤ 2 ^ K) :
    (∀ i, i < nF fr → 1 ≤ lenT fr K i ∧ lenT fr K i ≤ K) ∧ (∀ i j, i < nF fr → j < nF fr → fF fr j < fF fr i → lenT fr K i ≤ lenT fr K j) ∧
      sumN (nF fr) (fun i => 2 ^ (15 - (lenT fr K i).toNat)) = 32768 ∧ wT fr K (2 * nF fr - 2) = sumN (nF fr) (fun i => fF fr i * lenT fr K i) := by
  have ok := rowOk hb hl K (2 * nF fr - 2) h15 (by rw [srt_len]; exact rowsF_enough fr h1 hK)
  have hw := ok.width
  have e1 : sumN (nF fr) (fun i => 2 ^ (K + 1 - (lenT fr K i).toNat)) = 2 ^ (K + 1) := by
    have a : sumN (nF fr) (fun i => wid K (lenT fr K i).toNat + 2 ^ (K + 1 - (lenT fr K i).toNat)) = nF fr * 2 ^ (K + 1) := by
      rw [sumN_congr (h := fun _ => 2 ^ (K + 1) * 1) fun i _ => by unfold wid; omega, sumN_mul, sumN_one, Int.mul_comm]
    rw [sumN_add] at a
    have b : sumN (nF fr) (fun i => wid K (lenT fr K i).toNat) = ((2 * nF fr - 2 : Nat) : Int) * 2 ^ K := hw
    rw [b, Int.pow_succ] at a
    rw [Int.pow_succ]
    have c : ((2 * nF fr - 2 : Nat) : Int) = 2 * (nF fr : Int) - 2 := by omega
    rw [c, Int.sub_mul, Int.mul_comm (2 ^ K) 2, ← Int.mul_assoc, Int.mul_comm (nF fr : Int) 2] at a
    omega
  have hpos : ∀ i, i < nF fr → 1 ≤ lenT fr K i := by
    intro i hi
    have a := (ok.ub i hi).1
    rcases Int.lt_or_le 0 (lenT fr K i) with h | h
    · omega
    · exfalso
      have h0 : lenT fr K i = 0 := Int.le_antisymm h a
      obtain ⟨j, hj, hij⟩ : ∃ j, j < nF fr ∧ i ≠ j := by
        by_cases e : i = 0
        · exact ⟨1, by omega, by omega⟩
        · exact ⟨0, by omega, e⟩
      have := sumN_two (g := fun i => (2 : Int) ^ (K + 1 - (lenT fr K i).toNat)) (fun x _ => Int.le_of_lt (pow2_pos _)) hi hj hij
      rw [e1] at this
      simp only [h0] at this
      have p := pow2_pos (K + 1 - (lenT fr K j).toNat)
      simp only [Int.toNat_zero, Nat.sub_zero] at this
      omega
  refine ⟨fun i hi => ⟨hpos i hi, (ok.ub i hi).2⟩, ok.mono, ?_, ok.cost⟩
  have e2 : sumN (nF fr) (fun i => 2 * 2 ^ (15 - (lenT fr K i).toNat)) = sumN (nF fr) (fun i => 2 ^ (15 - K) * 2 ^ (K + 1 - (lenT fr K i).toNat)) := by
    refine sumN_congr fun i hi => ?_
    have a := hpos i hi
    have b := (ok.ub i hi).2
    have b' : lenT fr K i ≤ K := b
    rw [← Int.pow_add, show 15 - K + (K + 1 - (lenT fr K i).toNat) = (15 - (lenT fr K i).toNat) + 1 by omega, Int.pow_succ, Int.mul_comm]
  rw [sumN_mul, sumN_mul, e1, ← Int.pow_add, show 15 - K + (K + 1) = 16 by omega] at e2
  have : (2 : Int) ^ 16 = 65536 := by decide
  omega

/-! No other one costs less. -/
theorem sub_min : ∀ {s x : List It}, x.Sublist s → s.Pairwise leI → sumI (fun y => y.w) (s.take x.length) ≤ sumI (fun y => y.w) x := by
  intro s x h
  induction h with
  | slnil => intro _; exact Int.le_refl _
  | @cons x s a h ih =>
    intro hp
    obtain ⟨h1, h2⟩ := List.pairwise_cons.1 hp
    have i := ih h2
    cases hx : x.length with
    | zero => rw [hx] at i; simpa using i
    | succ m =>
      rw [hx] at i
      have hle := h.length_le
      have hm : m < s.length := by omega
      rw [List.take_succ_eq_append_getElem hm, sumI_append] at i
      have := h1 s[m] (List.getElem_mem hm)
      unfold leI at this
      simp only [List.take_succ_cons, sumI] at i ⊢
      omega
  | @cons_cons x s a h ih =>
    intro hp
    obtain ⟨h1, h2⟩ := List.pairwise_cons.1 hp
    have i := ih h2
    simp only [List.length_cons, List.take_succ_cons, sumI]
    omega
theorem nl_sum (g : It → Int) (p : It → Bool) (q : Nat) : ∀ n : Nat, sumI g (((List.range n).map fun i => (⟨fF fr i, ((q + i : Nat) : Int), i⟩ : It)).filter p) = sumN n (fun i => if p ⟨fF fr i, ((q + i : Nat) : Int), i⟩ = true then g ⟨fF fr i, ((q + i : Nat) : Int), i⟩ else 0)
  | 0 => rfl
  | n + 1 => by
    rw [List.range_succ, List.map_append, List.filter_append, sumI_append, nl_sum g p q n]
    simp only [sumN, List.map_cons, List.map_nil, List.filter_cons, List.filter_nil]
    split <;> simp [sumI]
theorem sumI_one (l : List It) : sumI (fun _ => 1) l = l.length := by
  induction l with
  | nil => rfl
  | cons x l ih => simp only [sumI, ih, List.length_cons]; omega
theorem row_min {k m t : Nat} {b : Nat → Nat} (hb : ∀ i, i < nF fr → b i ≤ 1) (hm : 2 * m ≤ (srt fr k).length) (ht : (t : Int) = m + sumN (nF fr) (fun i => (b i : Int))) :
    t ≤ (srt fr (k + 1)).length ∧ wT fr (k + 1) t ≤ wT fr k (2 * m) + sumN (nF fr) (fun i => fF fr i * b i) := by
  have hml : m ≤ (pF fr k).length := by
    have : (pF fr k).length = (srt fr k).length / 2 := pairUp_len _
    omega
  obtain ⟨X, hX, hs⟩ := List.exists_perm_sublist (((List.take_sublist m (npF fr k))).append (List.filter_sublist (p := fun x : It => decide (b x.u = 1)) (l := nlF fr k))) (srt_perm (fr := fr) k).symm
  have hlen : (X.length : Int) = t := by
    rw [← sumI_one, sumI_perm hX, sumI_append, sumI_one, List.length_take, np_len, Nat.min_eq_left hml, ht]
    unfold nlF
    rw [nl_sum]
    congr 1
    refine sumN_congr fun i hi => ?_
    have := hb i hi
    simp only [decide_eq_true_eq]
    split <;> omega
  have hle := hs.length_le
  refine ⟨by omega, ?_⟩
  have h1 := sub_min hs (srt_sorted (k + 1))
  rw [show X.length = t by omega] at h1
  have h2 : sumI (fun y => y.w) X = wT fr k (2 * m) + sumN (nF fr) (fun i => fF fr i * b i) := by
    rw [sumI_perm hX, sumI_append, np_sum (k := k) (fun x => x.w) (fun q => q.1.w + q.2.w) (fun _ _ => rfl) m hml]
    have h3 := pairUp_sum (fun x => x.w) (srt fr k) m hml
    have h3' : (((pF fr k).take m).map fun q => q.1.w + q.2.w).sum = wT fr k (2 * m) := h3
    rw [h3']
    congr 1
    unfold nlF
    rw [nl_sum]
    refine sumN_congr fun i hi => ?_
    have := hb i hi
    simp only [decide_eq_true_eq]
    split
    · rename_i h; rw [h]; omega
    · rename_i h; rw [show b i = 0 by omega]; simp
  rw [← h2]
  exact h1
theorem opt : ∀ (k : Nat) (c : Nat → Nat) (t : Nat), (∀ i, i < nF fr → c i ≤ k) → sumN (nF fr) (fun i => wid k (c i)) = (t : Int) * 2 ^ k → t ≤ (srt fr k).length ∧ wT fr k t ≤ sumN (nF fr) (fun i => fF fr i * c i)
  | 0, c, t, hc, h => by
    have h0 : ∀ i, i < nF fr → c i = 0 := fun i hi => Nat.le_zero.1 (hc i hi)
    rw [sumN_congr (h := fun _ => 0) (fun i hi => by rw [h0 i hi]; exact wid_zero 0), sumN_zero] at h
    obtain rfl : t = 0 := by simp at h; omega
    refine ⟨Nat.zero_le _, ?_⟩
    rw [sumN_congr (h := fun _ => 0) (fun i hi => by rw [h0 i hi]; simp), sumN_zero]
    exact Int.le_refl _
  | k + 1, c, t, hc, h => by
    have e : ∀ i, i < nF fr → wid (k + 1) (c i) = wid k (c i - 1) + 2 ^ (k + 1) * ((if c i = 0 then 0 else 1 : Nat) : Int) := by
      intro i hi
      have := hc i hi
      by_cases h0 : c i = 0
      · rw [if_pos h0, h0, wid_zero, Nat.zero_sub, wid_zero]; simp
      · rw [if_neg h0]
        obtain ⟨d, hd⟩ : ∃ d, c i = d + 1 := ⟨c i - 1, by omega⟩
        rw [hd, wid_succ k d (by omega), Nat.add_sub_cancel]; omega
    rw [sumN_congr e, sumN_add, sumN_mul] at h
    have hw := sumN_nn (n := nF fr) (g := fun i => wid k (c i - 1)) fun i _ => wid_nn _ _
    have hB := sumN_nn (n := nF fr) (g := fun i => ((if c i = 0 then 0 else 1 : Nat) : Int)) fun i _ => Int.natCast_nonneg _
    generalize hBe : sumN (nF fr) (fun i => ((if c i = 0 then 0 else 1 : Nat) : Int)) = B at h hB
    have hp := pow2_pos (k + 1)
    have h' : sumN (nF fr) (fun i => wid k (c i - 1)) = ((t : Int) - B) * 2 ^ (k + 1) := by
      rw [Int.sub_mul, Int.mul_comm B]; omega
    have htB : 0 ≤ (t : Int) - B := by
      rw [h'] at hw
      rcases Int.lt_or_le ((t : Int) - B) 0 with hneg | hok
      · have := Int.mul_neg_of_neg_of_pos hneg hp
        omega
      · exact hok
    obtain ⟨m, hm⟩ : ∃ m : Nat, (t : Int) - B = m := ⟨((t : Int) - B).toNat, by omega⟩
    rw [hm, Int.pow_succ] at h'
    obtain ⟨i1, i2⟩ := opt k (fun i => c i - 1) (2 * m) (fun i hi => by have := hc i hi; show c i - 1 ≤ k; omega) (by
      rw [h']; push_cast; rw [Int.mul_comm 2 (m : Int), Int.mul_assoc, Int.mul_comm 2 (2 ^ k)])
    obtain ⟨j1, j2⟩ := row_min (fr := fr) (k := k) (m := m) (t := t) (b := fun i => if c i = 0 then 0 else 1) (fun i _ => by show (if c i = 0 then 0 else 1) ≤ 1; split <;> omega) i1 (by rw [hBe]; omega)
    refine ⟨j1, Int.le_trans j2 ?_⟩
    have : sumN (nF fr) (fun i => fF fr i * c i) = sumN (nF fr) (fun i => fF fr i * ((c i - 1 : Nat) : Int)) + sumN (nF fr) (fun i => fF fr i * ((if c i = 0 then 0 else 1 : Nat) : Int)) := by
      rw [← sumN_add]
      refine sumN_congr fun i hi => ?_
      rw [← Int.mul_add]
      congr 1
      split <;> omega
    omega
end

end Go.Proofs.Ytdnmbmnfglbfoaa
