/- Layer 6: turn; what each tells. -/
import Derived.Test.YteinenklppbjkaaH5

import Derived.Test.YteinenklppbjkaaGb

set_option linter.unusedVariables false

set_option linter.unusedSimpArgs false

open Go.RowKit

namespace Go.Proofs.Yteinenklppbjkaa

set_option maxRecDepth 10000

theorem wrap64_nat {z : Nat} (h : z < 2 ^ 63) : IntKind.i64.wrap (z : Int) = (z : Int) := by
  simp [IntKind.wrap, IntKind.bits, IntKind.signed]; omega
theorem shl64 {x k : Nat} (h : x * 2 ^ k < 2 ^ 63) (hk : k ≤ 64) : shlF .i64 (x : Int) (k : Int) = ((x * 2 ^ k : Nat) : Int) := by
  simp only [shlF, IntKind.bits, Int.toNat_natCast, Nat.min_eq_left hk]
  have : (x : Int) * 2 ^ k = ((x * 2 ^ k : Nat) : Int) := by push_cast; rfl
  rw [this, wrap64_nat h]
theorem shl64_1 {x : Nat} (h : x < 2 ^ 62) : shlF .i64 (x : Int) 1 = ((2 * x : Nat) : Int) := by
  have := shl64 (x := x) (k := 1) (by omega) (by omega)
  rw [Nat.mul_comm 2 x]
  exact this
theorem or64 {a b : Nat} (ha : a < 2 ^ 62) (hb : b < 2 ^ 62) : bitF .or .i64 (a : Int) (b : Int) = ((a ||| b : Nat) : Int) := by
  have h1 : (BitVec.ofInt 64 (a : Int) ||| BitVec.ofInt 64 (b : Int)).toNat = a ||| b := by
    rw [BitVec.toNat_or, BitVec.ofInt_natCast, BitVec.ofInt_natCast, BitVec.toNat_ofNat, BitVec.toNat_ofNat, Nat.mod_eq_of_lt (by omega), Nat.mod_eq_of_lt (by omega)]
  have h2 : (a ||| b) < 2 ^ 62 := Nat.or_lt_two_pow ha hb
  show IntKind.i64.wrap ((BitVec.ofInt 64 (a : Int) ||| BitVec.ofInt 64 (b : Int)).toNat : Int) = _
  rw [h1, wrap64_nat (by omega)]
theorem or64_bit {a b : Nat} (ha : a < 2 ^ 61) (hb : b < 2) : bitF .or .i64 ((2 * a : Nat) : Int) (b : Int) = ((2 * a + b : Nat) : Int) := by
  rw [or64 (by omega) (by omega)]
  have := Nat.two_pow_add_eq_or_of_lt (i := 1) (b := b) (by omega) a
  rw [show 2 ^ 1 * a = 2 * a by omega] at this
  rw [this]
theorem and64_1 {a : Nat} (ha : a < 2 ^ 62) : bitF .and .i64 (a : Int) 1 = ((a % 2 : Nat) : Int) := by
  have h1 : (BitVec.ofInt 64 (a : Int) &&& BitVec.ofInt 64 (1 : Int)).toNat = a % 2 := by
    rw [BitVec.toNat_and, show BitVec.ofInt 64 (1 : Int) = 1#64 from rfl, BitVec.ofInt_natCast, BitVec.toNat_ofNat, Nat.mod_eq_of_lt (by omega)]
    exact Nat.and_two_pow_sub_one_eq_mod a 1
  show IntKind.i64.wrap ((BitVec.ofInt 64 (a : Int) &&& BitVec.ofInt 64 (1 : Int)).toNat : Int) = _
  rw [h1, wrap64_nat (by omega)]
theorem shrK64 {x k : Nat} (hk : k ≤ 64) : shrF .i64 (x : Int) (k : Int) = ((x / 2 ^ k : Nat) : Int) := by
  simp only [shrF, IntKind.bits, Int.toNat_natCast, Nat.min_eq_left hk]
  have : (2 : Int) ^ k = ((2 ^ k : Nat) : Int) := by push_cast; rfl
  rw [this, Int.fdiv_eq_ediv_of_nonneg _ (Int.natCast_nonneg _)]; rfl
theorem shr64_1 {x : Nat} : shrF .i64 (x : Int) 1 = ((x / 2 : Nat) : Int) := shrK64 (k := 1) (by omega)

/-- The last n bits, the other way round. -/
def turnG : Nat → Nat → Nat → Nat
  | 0, _, o => o
  | n + 1, c, o => turnG n (c / 2) (2 * o + c % 2)
theorem turn_call {code n : Nat} {M : AH} {K Kp : AV → AH → Prop} (hc : code < 2 ^ 30) (hn : n ≤ 30) (hK : K (.int .u16 ((turnG n code 0 % 65536 : Nat) : Int)) M) : CallA Try.prog 46 [.int .i64 code, .int .i64 n] M K Kp := by
  refine CallA.at0 (v := .int .u16 ((turnG n code 0 % 65536 : Nat) : Int)) ?_ (fun _ => rfl) rfl (fun _ => rfl) hK
  refine step46 (fun _ => []) [] rfl ?_
  repeat ((conv => whnf); first | with_reducible refine O_step ?_ | with_reducible refine S_step ?_ | with_reducible refine D_step ?_ | with_reducible refine RO.exit ?_ | with_reducible refine RO.ret ?_ | ((with_reducible refine And.intro ?sc ?_); case sc => exact side))
  refine WO.go (σ := Nat × Nat × Nat) (fun (i, c, o) => i ≤ n ∧ c < 2 ^ 30 ∧ o < 2 ^ i ∧ turnG (n - i) c o = turnG n code 0) (fun (i, _, _) => n - i)
    (fun (i, c, o) => [(0, .int .i64 (c : Int)), (5, .int .i64 (o : Int)), (6, .int .i64 n), (7, .int .i64 (i : Int))]) (fun _ => []) (0, code, 0) tb_ok mixed (by kernel_rfl) ⟨Nat.zero_le _, hc, by decide, rfl⟩ (And.intro rfl (And.intro rfl (And.intro rfl (And.intro rfl (trivial))))) trivial (fun _ => rfl) (fun _ => rfl) (fun _ => trivial) ?_
  rintro ⟨i, cc, o⟩ ⟨h1, h2, h3, h4⟩ d
  repeat ((conv => whnf); first | with_reducible refine O_step ?_ | with_reducible refine S_step ?_ | with_reducible refine D_step ?_ | with_reducible refine RO.exit ?_ | with_reducible refine RO.ret ?_ | ((with_reducible refine And.intro ?sc ?_); case sc => exact side))
  refine And.intro (fun hd => ?_) (fun hd => ?_)
  · simp only [decide_eq_true_eq] at hd
    have hp : (2 : Nat) ^ i ≤ 2 ^ 30 := Nat.pow_le_pow_right (by omega) (by omega)
    have e1 : shlF .i64 (o : Int) 1 = ((2 * o : Nat) : Int) := shl64_1 (by omega)
    have e2 : bitF .and .i64 (cc : Int) 1 = ((cc % 2 : Nat) : Int) := and64_1 (by omega)
    have e3 : bitF .or .i64 ((2 * o : Nat) : Int) ((cc % 2 : Nat) : Int) = ((2 * o + cc % 2 : Nat) : Int) := or64_bit (by omega) (by omega)
    have e4 : shrF .i64 (cc : Int) 1 = ((cc / 2 : Nat) : Int) := shr64_1
    obtain ⟨j, hj⟩ : ∃ j, n - i = j + 1 := ⟨n - i - 1, by omega⟩
    repeat ((conv => whnf); first | with_reducible refine O_step ?_ | with_reducible refine S_step ?_ | with_reducible refine D_step ?_ | with_reducible refine RO.exit ?_ | with_reducible refine RO.ret ?_ | ((with_reducible refine And.intro ?sc ?_); case sc => exact side))
    refine RO.same (i + 1, cc / 2, 2 * o + cc % 2) ⟨by omega, by omega, by rw [Nat.pow_succ]; omega, ?_⟩ (show n - (i + 1) < n - i by omega) (And.intro ?_ (And.intro ?_ (And.intro rfl (And.intro rfl trivial)))) trivial
    · rw [hj] at h4
      rw [show n - (i + 1) = j by omega, ← h4]; rfl
    · show AV.int .i64 (shrF .i64 (cc : Int) 1) = _
      rw [e4]
    · show AV.int .i64 (bitF .or .i64 (shlF .i64 (o : Int) 1) (bitF .and .i64 (cc : Int) 1)) = _
      rw [e1, e2, e3]
  · simp only [decide_eq_false_iff_not] at hd
    have hi : i = n := by omega
    repeat ((conv => whnf); first | with_reducible refine O_step ?_ | with_reducible refine S_step ?_ | with_reducible refine D_step ?_ | with_reducible refine RO.exit ?_ | with_reducible refine RO.ret ?_ | ((with_reducible refine And.intro ?sc ?_); case sc => exact side))
    refine And.intro ?_ rfl
    show AV.int .u16 ((o : Int) % 65536) = _
    rw [hi, Nat.sub_self] at h4
    have h4 : o = turnG n code 0 := h4
    rw [h4]; rfl
end Go.Proofs.Yteinenklppbjkaa
