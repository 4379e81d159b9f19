/- Bits, plainly: rows of bits, the numbers that they are, the bytes that they lie in. -/
import Derived.Test.YthbmddaemdcamaaAb17
set_option linter.unusedVariables false
set_option linter.unusedSimpArgs false
open Go.RowKit
namespace Go.Proofs.Ythbmddaemdcamaa

def num : List Bool → Int
  | [] => 0
  | b :: l => (if b then 1 else 0) + 2 * num l
def bitsOf : Int → Nat → List Bool
  | _, 0 => []
  | v, n + 1 => decide (v % 2 = 1) :: bitsOf (v / 2) n
def packB : Nat → List Bool → List Int
  | 0, _ => []
  | k + 1, l => num (l.take 8) :: packB k (l.drop 8)
def packF (row : List Bool) : List Int := packB (row.length / 8) row
def rest (row : List Bool) : List Bool := row.drop (8 * (row.length / 8))

theorem num_nonneg : ∀ l : List Bool, 0 ≤ num l
  | [] => Int.le_refl 0
  | b :: l => by have := num_nonneg l; simp only [num]; split <;> omega
theorem num_lt : ∀ l : List Bool, num l < 2 ^ l.length
  | [] => by simp [num]
  | b :: l => by
    have := num_lt l
    simp only [num, List.length_cons, Int.pow_succ]
    split <;> omega
theorem num_append : ∀ l l' : List Bool, num (l ++ l') = num l + 2 ^ l.length * num l'
  | [], l' => by simp [num]
  | b :: l, l' => by
    simp only [List.cons_append, num, num_append l l', List.length_cons, Int.pow_succ, Int.mul_add]
    have : 2 ^ l.length * 2 * num l' = 2 * (2 ^ l.length * num l') := by rw [Int.mul_comm (2 ^ l.length) 2, Int.mul_assoc]
    omega
theorem bitsOf_length : ∀ (n : Nat) (v : Int), (bitsOf v n).length = n
  | 0, v => rfl
  | n + 1, v => by simp [bitsOf, bitsOf_length n]
theorem num_bitsOf : ∀ (n : Nat) (v : Int), 0 ≤ v → v < 2 ^ n → num (bitsOf v n) = v
  | 0, v, h1, h2 => by simp [bitsOf, num] at *; omega
  | n + 1, v, h1, h2 => by
    rw [Int.pow_succ] at h2
    simp only [bitsOf, num, decide_eq_true_eq]
    rw [num_bitsOf n (v / 2) (by omega) (by omega)]
    split <;> omega
theorem packB_length : ∀ (k : Nat) (l : List Bool), (packB k l).length = k
  | 0, l => rfl
  | k + 1, l => by simp [packB, packB_length k]
theorem packF_length (row : List Bool) : (packF row).length = row.length / 8 := packB_length _ _
theorem rest_length (row : List Bool) : (rest row).length = row.length % 8 := by simp [rest]; omega
theorem packB_byte : ∀ (k : Nat) (l : List Bool), ∀ x ∈ packB k l, 0 ≤ x ∧ x < 256
  | 0, l, x, h => by cases h
  | k + 1, l, x, h => by
    simp only [packB, List.mem_cons] at h
    rcases h with rfl | h
    · refine ⟨num_nonneg _, Int.lt_of_lt_of_le (num_lt _) ?_⟩
      have : (l.take 8).length ≤ 8 := by simp; omega
      calc (2 : Int) ^ (l.take 8).length ≤ 2 ^ 8 := by exact_mod_cast Nat.pow_le_pow_right (by omega) this
        _ = 256 := by decide
    · exact packB_byte k _ x h
theorem packB_append : ∀ (k j : Nat) (l : List Bool), packB (k + j) l = packB k l ++ packB j (l.drop (8 * k))
  | 0, j, l => by simp [packB]
  | k + 1, j, l => by
    rw [show k + 1 + j = (k + j) + 1 from by omega]
    simp only [packB, packB_append k j, List.drop_drop, List.cons_append]
    rw [show 8 + 8 * k = 8 * (k + 1) from by omega]
theorem packB_take : ∀ (k : Nat) (l l' : List Bool), 8 * k ≤ l.length → packB k (l ++ l') = packB k l
  | 0, l, l', _ => rfl
  | k + 1, l, l', h => by
    simp only [packB]
    rw [List.take_append_of_le_length (by omega), List.drop_append_of_le_length (by omega), packB_take k _ _ (by simp; omega)]

/-! The writer's own way. -/
def layL (xs : List Int) (a n : Int) : Nat → List Int × Int × Int
  | 0 => (xs, a, n)
  | k + 1 => layL (xs ++ [a % 256]) (shrF .u32 a 8) (n - 8) k

theorem shrF_num8 (l : List Bool) (h : 8 ≤ l.length) : shrF .u32 (num l) 8 = num (l.drop 8) ∧ num l % 256 = num (l.take 8) := by
  have h1 := num_append (l.take 8) (l.drop 8)
  rw [List.take_append_drop] at h1
  have h2 : (l.take 8).length = 8 := by simp; omega
  have h3 := num_lt (l.take 8)
  have h4 := num_nonneg (l.take 8)
  rw [h2] at h1 h3
  have e : (2 : Int) ^ 8 = 256 := by decide
  rw [e] at h1 h3
  have h5 : shrF .u32 (num l) 8 = num l / 256 := by
    simp only [shrF, IntKind.bits]
    rw [Int.fdiv_eq_ediv_of_nonneg _ (by decide)]; rfl
  constructor
  · rw [h5]; omega
  · omega

theorem layL_num : ∀ (k : Nat) (xs : List Int) (l : List Bool), k = l.length / 8 → layL xs (num l) l.length k = (xs ++ packB k l, num (l.drop (8 * k)), ((l.length % 8 : Nat) : Int))
  | 0, xs, l, h => by
    simp only [layL, packB, List.append_nil, Nat.mul_zero, List.drop_zero, Prod.mk.injEq, true_and]; omega
  | k + 1, xs, l, h => by
    obtain ⟨h1, h2⟩ := shrF_num8 l (by omega)
    have h3 := layL_num k (xs ++ [num (l.take 8)]) (l.drop 8) (by simp; omega)
    simp only [layL, h1, h2]
    have : ((l.length : Nat) : Int) - 8 = ((l.drop 8).length : Nat) := by simp; omega
    rw [this, h3]
    simp only [packB, List.append_assoc, List.singleton_append, List.drop_drop, Prod.mk.injEq, true_and]
    refine ⟨by congr 2; omega, by simp; omega⟩

theorem or_u32 {a b : Nat} (ha : a < 2 ^ 32) (hb : b < 2 ^ 32) : bitF .or .u32 (a : Int) (b : Int) = ((a ||| b : Nat) : Int) := by
  have h1 : (BitVec.ofInt 32 (a : Int) ||| BitVec.ofInt 32 (b : Int)).toNat = a ||| b := by
    rw [BitVec.toNat_or, BitVec.ofInt_natCast, BitVec.ofInt_natCast, BitVec.toNat_ofNat, BitVec.toNat_ofNat, Nat.mod_eq_of_lt ha, Nat.mod_eq_of_lt hb]
  have h2 : (a ||| b) < 2 ^ 32 := Nat.or_lt_two_pow ha hb
  have h3 : IntKind.u32.wrap ((a ||| b : Nat) : Int) = ((a ||| b : Nat) : Int) := by
    generalize (a ||| b) = z at *
    simp [IntKind.wrap, IntKind.bits, IntKind.signed]; omega
  show IntKind.u32.wrap ((BitVec.ofInt 32 (a : Int) ||| BitVec.ofInt 32 (b : Int)).toNat : Int) = _
  rw [h1, h3]
theorem or_shl {a v : Int} {n k : Nat} (ha0 : 0 ≤ a) (ha : a < 2 ^ n) (hv0 : 0 ≤ v) (hv : v < 2 ^ k) (hnk : n + k ≤ 32) : bitF .or .u32 a (shlF .u32 v n) = a + 2 ^ n * v := by
  obtain ⟨a, rfl⟩ := Int.eq_ofNat_of_zero_le ha0
  obtain ⟨v, rfl⟩ := Int.eq_ofNat_of_zero_le hv0
  have ha' : a < 2 ^ n := by exact_mod_cast ha
  have hv' : v < 2 ^ k := by exact_mod_cast hv
  have hlt : v * 2 ^ n < 2 ^ 32 := by
    calc v * 2 ^ n < 2 ^ k * 2 ^ n := Nat.mul_lt_mul_of_pos_right hv' (Nat.pow_pos (by omega))
      _ = 2 ^ (k + n) := (Nat.pow_add 2 k n).symm
      _ ≤ 2 ^ 32 := Nat.pow_le_pow_right (by omega) (by omega)
  have ha32 : a < 2 ^ 32 := Nat.lt_of_lt_of_le ha' (Nat.pow_le_pow_right (by omega) (by omega))
  have e1 : shlF .u32 (v : Int) n = ((v * 2 ^ n : Nat) : Int) := by
    simp only [shlF, IntKind.bits, Int.toNat_natCast, Nat.min_eq_left (show n ≤ 32 by omega)]
    have : (v : Int) * 2 ^ n = ((v * 2 ^ n : Nat) : Int) := by push_cast; rfl
    rw [this]
    simp [IntKind.wrap, IntKind.bits, IntKind.signed]
    omega
  rw [e1]
  have hor : a ||| v * 2 ^ n = v * 2 ^ n + a := by
    rw [Nat.or_comm, Nat.mul_comm, Nat.two_pow_add_eq_or_of_lt ha']
  rw [or_u32 ha32 hlt, hor]
  push_cast
  rw [Int.mul_comm, Int.add_comm]

/-- What a number that is laid does to a writer. -/
theorem layL_row (row : List Bool) (v : Int) (k : Nat) (hk : k ≤ 24) (h0 : 0 ≤ v) (hv : v < 2 ^ k) :
    layL (packF row) (bitF .or .u32 (num (rest row)) (shlF .u32 v ((row.length % 8 : Nat) : Int))) (((row.length % 8 : Nat) : Int) + k) ((row.length % 8 + k) / 8) =
      (packF (row ++ bitsOf v k), num (rest (row ++ bitsOf v k)), (((row ++ bitsOf v k).length % 8 : Nat) : Int)) := by
  have hr := rest_length row
  have hn := num_lt (rest row)
  rw [hr] at hn
  rw [or_shl (num_nonneg _) hn h0 hv (by omega)]
  have e1 : num (rest row) + 2 ^ (row.length % 8) * v = num (rest row ++ bitsOf v k) := by
    rw [num_append, hr, num_bitsOf k v h0 hv]
  have hl : (rest row ++ bitsOf v k).length = row.length % 8 + k := by simp [hr, bitsOf_length]
  have e2 : ((row.length % 8 : Nat) : Int) + k = ((rest row ++ bitsOf v k).length : Nat) := by rw [hl]; push_cast; rfl
  rw [e1, e2, layL_num _ _ _ (by rw [hl])]
  have hrl : row.length = 8 * (row.length / 8) + row.length % 8 := by omega
  have hL : (row ++ bitsOf v k).length / 8 = row.length / 8 + (row.length % 8 + k) / 8 := by simp [bitsOf_length]; omega
  have hd : (row ++ bitsOf v k).drop (8 * (row.length / 8)) = rest row ++ bitsOf v k := by
    rw [List.drop_append_of_le_length (by omega)]; rfl
  simp only [Prod.mk.injEq]
  refine ⟨?_, ?_, ?_⟩
  · unfold packF
    rw [hL, packB_append, hd, packB_take (row.length / 8) row _ (by omega)]
  · unfold rest
    rw [hL, Nat.mul_add, ← List.drop_drop, hd]; rfl
  · rw [hl]; simp [bitsOf_length]
end Go.Proofs.Ythbmddaemdcamaa
