/- Numbers that are read: plainly; the reader's Get and Align, walked. -/
import Derived.Test.YthbmddaemdcamaaBi2
set_option linter.unusedVariables false
set_option linter.unusedSimpArgs false
open Go.RowKit
namespace Go.Proofs.Ythbmddaemdcamaa
set_option maxRecDepth 10000

def unpack (xs : List Int) : List Bool := xs.flatMap fun b => bitsOf b 8
theorem unpack_cons (x : Int) (xs : List Int) : unpack (x :: xs) = bitsOf x 8 ++ unpack xs := rfl
theorem unpack_length : ∀ xs : List Int, (unpack xs).length = 8 * xs.length
  | [] => rfl
  | x :: xs => by simp only [unpack_cons, List.length_append, bitsOf_length, unpack_length xs, List.length_cons]; omega
theorem unpack_drop : ∀ (k : Nat) (xs : List Int), (unpack xs).drop (8 * k) = unpack (xs.drop k)
  | 0, xs => rfl
  | k + 1, [] => by simp [unpack]
  | k + 1, x :: xs => by
    rw [unpack_cons, show 8 * (k + 1) = (bitsOf x 8).length + 8 * k from by rw [bitsOf_length]; omega, List.drop_append, show (bitsOf x 8).length + 8 * k - (bitsOf x 8).length = 8 * k from by omega, unpack_drop k xs, List.drop_eq_nil_of_le (by omega)]; simp
theorem num_drop (l : List Bool) (k : Nat) (h : k ≤ l.length) : num (l.drop k) = num l / 2 ^ k ∧ num (l.take k) = num l % 2 ^ k := by
  have h1 := num_append (l.take k) (l.drop k)
  rw [List.take_append_drop] at h1
  have h2 : (l.take k).length = k := by simp; omega
  have h3 := num_lt (l.take k)
  have h4 := num_nonneg (l.take k)
  rw [h2] at h1 h3
  have hp : (0 : Int) < 2 ^ k := Int.pow_pos (by decide)
  constructor
  · rw [h1, Int.add_mul_ediv_left _ _ (by omega), Int.ediv_eq_zero_of_lt h4 h3, Int.zero_add]
  · rw [h1, Int.add_mul_emod_self_left, Int.emod_eq_of_lt h4 h3]

/-- A piece of a byte. -/
theorem piece (xs : List Int) (hxs : ∀ x ∈ xs, 0 ≤ x ∧ x < 256) (a k : Nat) (ha : a / 8 < xs.length) (hk : k ≤ 8 - a % 8) :
    num (((unpack xs).drop a).take k) = (xs.getD (a / 8) 0 / 2 ^ (a % 8)) % 2 ^ k := by
  have hx := hxs _ (List.getElem_mem ha)
  have e1 : (unpack xs).drop a = ((unpack xs).drop (8 * (a / 8))).drop (a % 8) := by rw [List.drop_drop]; congr 1; omega
  rw [e1, unpack_drop, List.drop_eq_getElem_cons ha, unpack_cons, List.drop_append_of_le_length (by rw [bitsOf_length]; omega), List.take_append_of_le_length (by simp [bitsOf_length]; omega)]
  rw [(num_drop _ k (by simp [bitsOf_length]; omega)).2, (num_drop _ (a % 8) (by rw [bitsOf_length]; omega)).1, num_bitsOf 8 _ hx.1 (by have := hx.2; omega)]
  rw [show xs.getD (a / 8) 0 = xs[a / 8] from by simp [List.getD_eq_getElem?_getD, ha]]

theorem and_u32 {a b : Nat} (ha : a < 2 ^ 32) (hb : b < 2 ^ 32) : bitF .and .u32 (a : Int) (b : Int) = ((a &&& b : Nat) : Int) := by
  have h1 : (BitVec.ofInt 32 (a : Int) &&& BitVec.ofInt 32 (b : Int)).toNat = a &&& b := by
    rw [BitVec.toNat_and, BitVec.ofInt_natCast, BitVec.ofInt_natCast, BitVec.toNat_ofNat, BitVec.toNat_ofNat, Nat.mod_eq_of_lt ha, Nat.mod_eq_of_lt hb]
  have h2 : (a &&& b) < 2 ^ 32 := Nat.and_lt_two_pow _ hb
  have h3 : IntKind.u32.wrap ((a &&& b : Nat) : Int) = ((a &&& b : Nat) : Int) := by
    generalize (a &&& b) = z at *
    simp [IntKind.wrap, IntKind.bits, IntKind.signed]; omega
  show IntKind.u32.wrap ((BitVec.ofInt 32 (a : Int) &&& BitVec.ofInt 32 (b : Int)).toNat : Int) = _
  rw [h1, h3]
theorem i64_wrap {z : Nat} (h : z < 2 ^ 63) : IntKind.i64.wrap (z : Int) = (z : Int) := by
  simp [IntKind.wrap, IntKind.bits, IntKind.signed]; omega
theorem and7_i64 {a : Nat} (ha : a < 2 ^ 62) : bitF .and .i64 (a : Int) 7 = ((a % 8 : Nat) : Int) := by
  have h1 : (BitVec.ofInt 64 (a : Int) &&& BitVec.ofInt 64 (7 : Int)).toNat = a % 8 := by
    rw [BitVec.toNat_and, show BitVec.ofInt 64 (7 : Int) = 7#64 from rfl, BitVec.ofInt_natCast, BitVec.toNat_ofNat, Nat.mod_eq_of_lt (by omega)]
    exact Nat.and_two_pow_sub_one_eq_mod a 3
  show IntKind.i64.wrap ((BitVec.ofInt 64 (a : Int) &&& BitVec.ofInt 64 (7 : Int)).toNat : Int) = _
  rw [h1, i64_wrap (by omega)]
theorem andNot7_i64 {a : Nat} (ha : a < 2 ^ 62) : bitF .andNot .i64 (a : Int) 7 = ((a / 8 * 8 : Nat) : Int) := by
  have h1 : (BitVec.ofInt 64 (a : Int) &&& ~~~ BitVec.ofInt 64 (7 : Int)).toNat = a / 8 * 8 := by
    rw [BitVec.toNat_and, show (~~~ BitVec.ofInt 64 (7 : Int)).toNat = 2 ^ 64 - (7 + 1) from rfl, BitVec.ofInt_natCast, BitVec.toNat_ofNat, Nat.mod_eq_of_lt (by omega)]
    apply Nat.eq_of_testBit_eq
    intro i
    rw [Nat.testBit_and, Nat.testBit_two_pow_sub_succ (by decide)]
    rw [show a / 8 * 8 = 2 ^ 3 * (a / 2 ^ 3) from by omega, Nat.testBit_two_pow_mul, Nat.testBit_div_two_pow]
    by_cases h3 : 3 ≤ i
    · have h7 : Nat.testBit 7 i = false := Nat.testBit_lt_two_pow (Nat.lt_of_lt_of_le (by decide : 7 < 2 ^ 3) (Nat.pow_le_pow_right (by omega) h3))
      rw [h7, show i - 3 + 3 = i from by omega]
      by_cases h64 : i < 64
      · simp [h3, h64]
      · have : Nat.testBit a i = false := Nat.testBit_lt_two_pow (Nat.lt_of_lt_of_le ha (Nat.pow_le_pow_right (by omega) (by omega)))
        simp [this]
    · have : i = 0 ∨ i = 1 ∨ i = 2 := by omega
      rcases this with rfl | rfl | rfl <;> simp <;> (intros; decide)
  show IntKind.i64.wrap ((BitVec.ofInt 64 (a : Int) &&& ~~~ BitVec.ofInt 64 (7 : Int)).toNat : Int) = _
  rw [h1, i64_wrap (by omega)]
theorem shr3_i64 (a : Nat) : shrF .i64 (a : Int) 3 = ((a / 8 : Nat) : Int) := by
  simp only [shrF, IntKind.bits]
  rw [Int.fdiv_eq_ediv_of_nonneg _ (by decide)]; rfl
theorem shr_u32 {x : Int} {r : Nat} (hr : r ≤ 32) : shrF .u32 x (r : Int) = x / 2 ^ r := by
  simp only [shrF, IntKind.bits, Int.toNat_natCast]
  rw [Nat.min_eq_left hr, Int.fdiv_eq_ediv_of_nonneg _ (Int.le_of_lt (Int.pow_pos (by decide)))]
theorem shl1_u32 {k : Nat} (hk : k ≤ 31) : shlF .u32 1 (k : Int) = ((2 ^ k : Nat) : Int) := by
  have : (2 : Nat) ^ k < 2 ^ 32 := Nat.pow_lt_pow_right (by omega) (by omega)
  simp only [shlF, IntKind.bits, Int.toNat_natCast, Nat.min_eq_left (show k ≤ 32 by omega), Int.one_mul]
  rw [show (2 : Int) ^ k = ((2 ^ k : Nat) : Int) from by push_cast; rfl]
  generalize (2 : Nat) ^ k = z at *
  simp [IntKind.wrap, IntKind.bits, IntKind.signed]; omega
/-- The mask of a piece. -/
theorem mask_u32 {x k : Nat} (hx : x < 2 ^ 32) (hk : k ≤ 31) : bitF .and .u32 (x : Int) ((((2 ^ k : Nat) : Int) - 1) % 4294967296) = ((x % 2 ^ k : Nat) : Int) := by
  have hp : 0 < 2 ^ k := Nat.pow_pos (by omega)
  have : (2 : Nat) ^ k < 2 ^ 32 := Nat.pow_lt_pow_right (by omega) (by omega)
  have e : (((2 ^ k : Nat) : Int) - 1) % 4294967296 = ((2 ^ k - 1 : Nat) : Int) := by
    generalize (2 : Nat) ^ k = z at *
    omega
  rw [e, and_u32 hx (by omega), Nat.and_two_pow_sub_one_eq_mod]

/-- Get, plainly: the number, the place behind, the answer. -/
def getF (xs : List Int) (a : Nat) (n : Int) : Int × Nat × Int :=
  if ¬ (0 ≤ n ∧ n ≤ 24) then (0, a, 1) else if (8 * xs.length : Int) - a < n then (0, a, 50) else (num (((unpack xs).drop a).take n.toNat), a + n.toNat, 0)

theorem ralign_call {xs : List Int} {a : Nat} {g c : Nat} (hb : xs.length ≤ 70368744177664) (ha : a ≤ 8 * xs.length) {K Kp : AV → AH → Prop}
    (h : K (.int .i64 0) (rdA xs ((a + 7) / 8 * 8 : Nat) g c)) : CallA Try.prog 23 [.ptr 0 0 0] (rdA xs a g c) K Kp := by
  refine walk23 (fun _ => [0]) [] rfl ?_
  repeat (refine And.intro (by first | exact rfl | omega) ?_)
  have e := andNot7_i64 (a := a + 7) (by omega)
  rw [← e] at h
  exact h

set_option maxHeartbeats 1000000 in
theorem get_call {xs : List Int} {a : Nat} {n : Int} {g c : Nat} (hb : xs.length ≤ 70368744177664) (ha : a ≤ 8 * xs.length) (hxs : ∀ x ∈ xs, 0 ≤ x ∧ x < 256) {Kp} :
    CallA Try.prog 15 [.ptr 0 0 0, .int .i64 n] (rdA xs a g c)
      (fun r M => r = .tup [.int .u32 (getF xs a n).1, .int .i64 (getF xs a n).2.2] ∧ M = rdA xs (getF xs a n).2.1 g c) Kp := by
  refine walk15 (fun _ => [0, 1]) [] rfl ?_
  repeat (refine And.intro (by first | exact rfl | omega) ?_)
  refine may_call fun b hb' => ?_
  rw [may_iff (by omega)] at hb'
  have hmay : b = true ↔ 0 ≤ n ∧ n ≤ 24 := by
    rw [hb']; simp only [mayB, decide_eq_true_eq]
    exact ⟨fun h => ⟨h.1, h.2.1⟩, fun h => ⟨h.1, h.2, Int.pow_pos (by decide)⟩⟩
  clear hb'
  refine And.intro (fun h1 => ?_) (fun h1 => ?_)
  · have hb0 : b = false := by simpa using h1
    subst hb0
    have e : getF xs a n = (0, a, 1) := by simp only [getF]; rw [if_pos (fun h => by simpa using hmay.2 h)]
    rw [e]
    exact And.intro rfl rfl
  · have hb0 : b = true := by simpa using h1
    subst hb0
    have hn := hmay.1 rfl
    refine left_call hb (by omega) ?_
    refine And.intro (fun h2 => ?_) (fun h2 => ?_)
    · simp only [decide_eq_true_eq] at h2
      have e : getF xs a n = (0, a, 50) := by simp only [getF]; rw [if_neg (fun h => h hn), if_pos h2]
      rw [e]
      exact And.intro rfl rfl
    · simp only [decide_eq_false_iff_not] at h2
      obtain ⟨n, rfl⟩ := Int.eq_ofNat_of_zero_le hn.1
      have e : getF xs a n = (num (((unpack xs).drop a).take n), a + n, 0) := by simp only [getF]; rw [if_neg (fun h => h hn), if_neg h2]; rfl
      rw [e]
      have hu := unpack_length xs
      refine WA.loop (σ := Nat) (fun got => got ≤ n) (fun got => n - got)
        (fun got => [(0, .ptr 0 0 0), (1, .int .i64 n), (6, .int .u32 (num (((unpack xs).drop a).take got))), (7, .int .i64 got)]) (fun got => rdA xs ((a + got : Nat) : Int) g c) 0 tb_ok mixed (by kernel_rfl)
        ⟨Nat.zero_le _, ?_, ?_⟩ (fun _ => rfl) (fun _ => rfl) (fun _ => ⟨rfl, trivial, trivial⟩) ?_
      · exact And.intro rfl (And.intro rfl (And.intro rfl (And.intro rfl trivial)))
      · exact And.intro rfl (And.intro rfl trivial)
      · intro got hg d
        have e7 := and7_i64 (a := a + got) (by omega)
        have e3 := shr3_i64 (a + got)
        refine And.intro (fun hc => ?_) (fun hc => ?_)
        · simp only [decide_eq_true_eq] at hc
          repeat (refine And.intro (by first | exact rfl | omega | (rw [e7]; omega) | (rw [e3]; omega)) ?_)
          obtain ⟨kN, hkN⟩ : ∃ kN : Nat, kN = min (8 - (a + got) % 8) (n - got) := ⟨_, rfl⟩
          have hk : min ((8 : Int) - bitF BinOp.and IntKind.i64 ((a + got : Nat) : Int) 7) ((n : Int) - (got : Int)) = (kN : Int) := by rw [e7]; omega
          refine Exists.intro (got + kN) (And.intro ⟨by omega, show n - (got + kN) < n - got by omega⟩ (And.intro (And.intro rfl (And.intro rfl (And.intro (congrArg (AV.int .u32) ?_) (And.intro (congrArg (AV.int .i64) ?_) trivial)))) (And.intro ?_ (And.intro rfl trivial))))
          · show bitF .or .u32 _ (shlF .u32 (bitF .and .u32 (shrF .u32 (xs.getD ((shrF .i64 ((a + got : Nat) : Int) 3).toNat + 0) 0 % 4294967296) (bitF .and .i64 ((a + got : Nat) : Int) 7)) ((shlF .u32 1 (min ((8 : Int) - bitF BinOp.and IntKind.i64 ((a + got : Nat) : Int) 7) ((n : Int) - (got : Int))) - 1) % 4294967296)) got) = _
            rw [hk, e7, e3, Int.toNat_natCast, Nat.add_zero, shl1_u32 (by omega)]
            have hlt8 : (a + got) / 8 < xs.length := by omega
            obtain ⟨y, hy⟩ : ∃ y : Nat, xs.getD ((a + got) / 8) 0 = (y : Int) ∧ y < 256 := by
              have hx := hxs _ (List.getElem_mem hlt8)
              have : xs.getD ((a + got) / 8) 0 = xs[(a + got) / 8] := by simp [List.getD_eq_getElem?_getD, hlt8]
              exact ⟨xs[(a + got) / 8].toNat, by rw [this]; omega, by omega⟩
            have hp := piece xs hxs (a + got) kN hlt8 (by omega)
            have hym : (xs.getD ((a + got) / 8) 0) % 4294967296 = (y : Int) := by rw [hy.1]; omega
            rw [hym, shr_u32 (by omega)]
            rw [hy.1] at hp
            have hcast : ∀ r : Nat, (y : Int) / 2 ^ r = ((y / 2 ^ r : Nat) : Int) := fun r => by push_cast; rfl
            rw [hcast] at hp ⊢
            have hyr : y / 2 ^ ((a + got) % 8) < 2 ^ 32 := Nat.lt_of_le_of_lt (Nat.div_le_self _ _) (by omega)
            rw [mask_u32 hyr (by omega)]
            have hl : (((unpack xs).drop a).take got).length = got := by simp; omega
            have h1 := num_lt (((unpack xs).drop a).take got)
            rw [hl] at h1
            have h2 : ((y / 2 ^ ((a + got) % 8) % 2 ^ kN : Nat) : Int) < 2 ^ kN := by exact_mod_cast Nat.mod_lt _ (Nat.pow_pos (by omega))
            rw [or_shl (num_nonneg _) h1 (by omega) h2 (by omega)]
            have h3 : ((unpack xs).drop a).take (got + kN) = ((unpack xs).drop a).take got ++ ((unpack xs).drop (a + got)).take kN := by
              rw [List.take_add, List.drop_drop]
            rw [h3, num_append, hl, hp]
            push_cast
            rfl
          · show (got : Int) + min ((8 : Int) - bitF BinOp.and IntKind.i64 ((a + got : Nat) : Int) 7) ((n : Int) - (got : Int)) = _
            rw [hk]; push_cast; rfl
          · show AO.one true 0 (.cells [.sl 1 g 0 xs.length c, .int .i64 ((a + (got + kN) : Nat) : Int)]) = AO.one true 0 (.cells [.sl 1 g 0 xs.length c, .int .i64 (((a + got : Nat) : Int) + min ((8 : Int) - bitF BinOp.and IntKind.i64 ((a + got : Nat) : Int) 7) ((n : Int) - (got : Int)))])
            rw [hk, show ((a + (got + kN) : Nat) : Int) = ((a + got : Nat) : Int) + (kN : Int) from by push_cast; omega]
        · simp only [decide_eq_false_iff_not] at hc
          obtain rfl : got = n := by omega
          exact And.intro rfl rfl
end Go.Proofs.Ythbmddaemdcamaa
