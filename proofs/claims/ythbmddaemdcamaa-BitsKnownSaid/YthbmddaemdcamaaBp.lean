/- Bits, plainly: what is laid is read. -/
import Derived.Test.YthbmddaemdcamaaRe4
import Derived.Test.YthbmddaemdcamaaAb20
set_option linter.unusedVariables false
set_option linter.unusedSimpArgs false
open Go.RowKit
namespace Go.Proofs.Ythbmddaemdcamaa

theorem bitsOf_num : ∀ (k : Nat) (l : List Bool), l.length ≤ k → bitsOf (num l) k = l ++ List.replicate (k - l.length) false
  | 0, l, h => by
    have : l = [] := List.eq_nil_of_length_eq_zero (by omega)
    subst this; rfl
  | k + 1, [], _ => by simp [num, bitsOf_zero]
  | k + 1, b :: l, h => by
    have hl : l.length ≤ k := by simpa using h
    have e1 : (num (b :: l)) / 2 = num l := by simp only [num]; split <;> omega
    have e2 : decide (num (b :: l) % 2 = 1) = b := by
      simp only [num]; cases b
      · simp
      · simp
    simp only [bitsOf, e1, e2, bitsOf_num k l hl, List.cons_append, List.length_cons]
    rw [show k + 1 - (l.length + 1) = k - l.length from by omega]
theorem bitsOf_split (v : Int) : ∀ (p q : Nat), bitsOf v (p + q) = bitsOf (v % 2 ^ p) p ++ bitsOf (v / 2 ^ p) q
  | 0, q => by simp [bitsOf]
  | p + 1, q => by
    have h1 : v % 2 ^ (p + 1) % 2 = v % 2 := by
      rw [Int.pow_succ, Int.mul_comm]; exact Int.emod_emod_of_dvd v (Int.dvd_mul_right 2 _)
    have h2 : v % 2 ^ (p + 1) / 2 = v / 2 % 2 ^ p := by
      have hp : (0 : Int) < 2 ^ p := Int.pow_pos (by decide)
      have a1 := Int.emod_add_mul_ediv v (2 ^ (p + 1))
      have a2 := Int.emod_add_mul_ediv (v / 2) (2 ^ p)
      have a3 : v / 2 / 2 ^ p = v / 2 ^ (p + 1) := by rw [Int.ediv_ediv_of_nonneg (by decide), Int.pow_succ, Int.mul_comm]
      rw [a3] at a2
      have a4 : (2 : Int) ^ (p + 1) * (v / 2 ^ (p + 1)) = 2 * (2 ^ p * (v / 2 ^ (p + 1))) := by rw [Int.pow_succ, Int.mul_comm (2 ^ p) 2, Int.mul_assoc]
      rw [a4] at a1
      omega
    have h3 : v / 2 ^ (p + 1) = v / 2 / 2 ^ p := by rw [Int.ediv_ediv_of_nonneg (by decide), Int.pow_succ, Int.mul_comm]
    rw [show p + 1 + q = (p + q) + 1 from by omega]
    simp only [bitsOf, h1, h2, h3, List.cons_append, bitsOf_split (v / 2) p q]

theorem unpack_append (a b : List Int) : unpack (a ++ b) = unpack a ++ unpack b := by simp [unpack]
theorem unpack_packB : ∀ (k : Nat) (l : List Bool), 8 * k ≤ l.length → unpack (packB k l) = l.take (8 * k)
  | 0, l, _ => by simp [packB, unpack]
  | k + 1, l, h => by
    have hl : (l.take 8).length = 8 := by simp; omega
    rw [packB, unpack_cons, bitsOf_num 8 _ (by omega), unpack_packB k _ (by simp; omega), hl]
    simp only [Nat.sub_self, List.replicate_zero, List.append_nil]
    rw [show 8 * (k + 1) = 8 + 8 * k from by omega, List.take_add]
/-- What bytes of a row tell: the row, and zeros. -/
theorem unpack_bytesF (row : List Bool) : ∃ k, k < 8 ∧ unpack (bytesF row) = row ++ List.replicate k false ∧ 8 * (bytesF row).length = row.length + k := by
  have hpl := packF_length row
  have hr := rest_length row
  have h1 : unpack (packF row) = row.take (8 * (row.length / 8)) := unpack_packB _ _ (by omega)
  unfold bytesF
  split
  · rename_i h
    refine ⟨0, by omega, ?_, by omega⟩
    rw [h1, List.take_of_length_le (by omega)]; simp
  · rename_i h
    refine ⟨8 - row.length % 8, by omega, ?_, by simp; omega⟩
    rw [unpack_append, h1, unpack_cons, bitsOf_num 8 _ (by omega), hr]
    show _ ++ (rest row ++ List.replicate (8 - row.length % 8) false ++ []) = _
    rw [List.append_nil, ← List.append_assoc]
    congr 1
    exact List.take_append_drop _ _
theorem bytesF_byte (row : List Bool) : ∀ x ∈ bytesF row, 0 ≤ x ∧ x < 256 := by
  rw [bytesF_pack]; exact packB_byte _ _
/-- A number that was laid in a row is got from its bytes. -/
theorem getF_row (row : List Bool) (a n : Nat) (hn : n ≤ 24) (h : a + n ≤ row.length) : getF (bytesF row) a n = (num ((row.drop a).take n), a + n, 0) := by
  obtain ⟨k, hk, hu, hl⟩ := unpack_bytesF row
  simp only [getF]
  rw [if_neg (by omega), if_neg (by omega), hu, List.drop_append_of_le_length (by omega), List.take_append_of_le_length (by simp; omega)]
  rfl
theorem num_row (p q : List Bool) (v : Int) (n : Nat) (h0 : 0 ≤ v) (h : v < 2 ^ n) : num (((p ++ (bitsOf v n ++ q)).drop p.length).take n) = v := by
  rw [List.drop_left, List.take_append_of_le_length (by rw [bitsOf_length]; exact Nat.le_refl _), List.take_of_length_le (by rw [bitsOf_length]; exact Nat.le_refl _), num_bitsOf n v h0 h]
theorem bytesF_length (row : List Bool) : (bytesF row).length = (row.length + 7) / 8 := by rw [bytesF_pack, packB_length]
theorem putF_ok {row : List Bool} {v : Int} {n : Nat} (hn : n ≤ 24) (hv : v < 2 ^ n) (hr : row.length + n ≤ 8388608) : putF row v n = (row ++ bitsOf v n, 0) := by
  have hm : mayB v n = true := by simp only [mayB, decide_eq_true_eq]; exact ⟨by omega, by omega, by simpa using hv⟩
  simp only [putF, hm]
  rw [if_neg (by simp), if_neg (by omega)]; rfl
end Go.Proofs.Ythbmddaemdcamaa
