/- The writer of bits, walked. -/
import Derived.Test.YthbmddaemdcamaaBi0
import Derived.Test.YthbmddaemdcamaaTb
set_option linter.unusedVariables false
set_option linter.unusedSimpArgs false
open Go.RowKit
namespace Go.Proofs.Ythbmddaemdcamaa
set_option maxRecDepth 10000

theorem may_call {M : AH} {K Kp : AV → AH → Prop} {v n : Int} (h : ∀ b : Bool, (b = true ↔ (0 ≤ n ∧ n ≤ 24 ∧ shrF .u32 v n = 0)) → K (.bo b) M) : CallA Try.prog 29 [.int .u32 v, .int .i64 n] M K Kp := by
  refine walk29 (fun _ => []) [] rfl ?_
  refine And.intro (fun h1 => And.intro (fun h2 => And.intro ?_ ?_) (fun h2 => ?_)) (fun h1 => ?_)
  all_goals simp only [decide_eq_true_eq, decide_eq_false_iff_not] at h1
  · exact h1
  all_goals refine h _ ?_
  · simp only [decide_eq_true_eq] at *
    simp only [*, true_and]
  · simp only [decide_eq_true_eq, decide_eq_false_iff_not] at *
    simp only [*, false_and, and_false]; simp
  · simp only [h1, false_and]; simp

/-- A writer: its two objects. -/
def wr (g : Nat) (c : Nat) (xs : List Int) (a n : Int) : AH := [.one true 0 (.cells [.sl 1 g 0 xs.length c, .int .u32 a, .int .i64 n]), .one true g (.ints .u8 xs c)]
def wrA (row : List Bool) (g c : Nat) : AH := wr g c (packF row) (num (rest row)) ((row.length % 8 : Nat) : Int)

theorem len_call {g c : Nat} {xs : List Int} {a n : Int} (hn : 0 ≤ n ∧ n < 8) (hl : xs.length ≤ 1048576) {K Kp : AV → AH → Prop}
    (h : K (.int .i64 (8 * xs.length + n)) (wr g c xs a n)) : CallA Try.prog 13 [.ptr 0 0 0] (wr g c xs a n) K Kp := by
  refine walk13 (fun _ => [0]) [] rfl ?_
  repeat (refine And.intro (by first | exact rfl | omega) ?_)
  exact h

theorem lay_call {xs : List Int} {v a n k : Int} {g c : Nat} (hn : 0 ≤ n ∧ n < 8) (hk : 0 ≤ k ∧ k ≤ 32) (hl : xs.length ≤ 1048576) (hxc : xs.length ≤ c) {Kp} :
    CallA Try.prog 28 [.ptr 0 0 0, .int .u32 v, .int .i64 k] (wr g c xs a n)
      (fun r M => ∃ g' c' xs' a' n', r = .tup [] ∧ M = wr g' c' xs' a' n' ∧ xs'.length ≤ c' ∧ layL xs (bitF .or .u32 a (shlF .u32 v n)) (n + k) ((n + k).toNat / 8) = (xs', a', n')) Kp := by
  refine walk28 (fun _ => [0]) [] rfl ?_
  repeat (refine And.intro (by first | exact rfl | omega) ?_)
  refine WA.loop (σ := Nat × Nat × List Int × Int × Int) (fun (g', c', xs', a', n') => xs'.length ≤ c' ∧ 0 ≤ n' ∧ n' ≤ 40 ∧ xs'.length * 8 + n' ≤ 8 * xs.length + 40 ∧ layL xs (bitF .or .u32 a (shlF .u32 v n)) (n + k) ((n + k).toNat / 8) = layL xs' a' n' (n'.toNat / 8))
    (fun (g', c', xs', a', n') => n'.toNat) (fun _ => [(0, .ptr 0 0 0)]) (fun (g', c', xs', a', n') => wr g' c' xs' a' n') (g, c, xs, bitF .or .u32 a (shlF .u32 v n), n + k) tb_ok mixed (by kernel_rfl)
    ⟨?_, ⟨rfl, trivial⟩, ⟨rfl, rfl, trivial⟩⟩ (fun _ => rfl) (fun _ => rfl) (fun _ => ⟨rfl, trivial, trivial⟩) ?_
  · refine ⟨by omega, by omega, by omega, by omega, rfl⟩
  · rintro ⟨g', c', xs', a', n'⟩ ⟨h0, h1, h2, h3, h4⟩ d
    repeat (refine And.intro (by first | exact rfl | omega) ?_)
    refine And.intro (fun hc => ?_) (fun hc => ?_)
    · simp only [decide_eq_true_eq] at hc
      repeat (refine And.intro (by first | exact rfl | exact Nat.le_of_ble_eq_true rfl | omega) ?_)
      intro ys hys
      obtain rfl : ys = [a' % 256] := hys
      repeat (refine And.intro (by first | exact rfl | omega | (dsimp only; omega)) ?_)
      intro c1 hc1
      repeat (refine And.intro (by first | exact rfl | omega) ?_)
      refine ⟨(g' + 1, c1, xs' ++ [a' % 256], shrF .u32 a' 8, n' - 8), ⟨⟨by simp; omega, by omega, by omega, by simp; omega, ?_⟩, by simp only; omega⟩, ⟨rfl, trivial⟩, ⟨?_, rfl, trivial⟩⟩
      · rw [h4, show n'.toNat / 8 = (n' - 8).toNat / 8 + 1 from by omega]; rfl
      · simp only [wr, List.length_append, List.length_cons, List.length_nil]; rfl
    · simp only [decide_eq_false_iff_not] at hc
      refine ⟨g', c', xs', a', n', rfl, rfl, h0, ?_⟩
      have : n'.toNat / 8 = 0 := by omega
      rw [h4, this]; rfl

/-- Put, plainly. -/
def mayB (v n : Int) : Bool := decide (0 ≤ n ∧ n ≤ 24 ∧ v < 2 ^ n.toNat)
def putF (row : List Bool) (v n : Int) : List Bool × Int :=
  if mayB v n = false then (row, 1) else if row.length + n > 8388608 then (row, 2) else (row ++ bitsOf v n.toNat, 0)

theorem may_iff {v n : Int} (hv : 0 ≤ v) : (0 ≤ n ∧ n ≤ 24 ∧ shrF .u32 v n = 0) ↔ mayB v n = true := by
  simp only [mayB, decide_eq_true_eq]
  constructor
  · rintro ⟨h1, h2, h3⟩
    refine ⟨h1, h2, ?_⟩
    simp only [shrF, IntKind.bits] at h3
    rw [Nat.min_eq_left (by omega), Int.fdiv_eq_ediv_of_nonneg _ (Int.le_of_lt (Int.pow_pos (by decide)))] at h3
    have hp : (0 : Int) < 2 ^ n.toNat := Int.pow_pos (by decide)
    exact Int.lt_of_not_ge fun hge => by
      have := Int.ediv_le_ediv hp hge
      rw [Int.ediv_self (by omega)] at this
      omega
  · rintro ⟨h1, h2, h3⟩
    refine ⟨h1, h2, ?_⟩
    simp only [shrF, IntKind.bits]
    rw [Nat.min_eq_left (by omega), Int.fdiv_eq_ediv_of_nonneg _ (Int.le_of_lt (Int.pow_pos (by decide)))]
    exact Int.ediv_eq_zero_of_lt hv h3

theorem put_call {row : List Bool} {v n : Int} {g c : Nat} (hv : 0 ≤ v) (hr : row.length ≤ 8388608) (hc : (packF row).length ≤ c) {Kp} :
    CallA Try.prog 10 [.ptr 0 0 0, .int .u32 v, .int .i64 n] (wrA row g c)
      (fun r M => ∃ g' c', r = .int .i64 (putF row v n).2 ∧ M = wrA (putF row v n).1 g' c' ∧ (packF (putF row v n).1).length ≤ c' ∧ (putF row v n).1.length ≤ 8388608) Kp := by
  have hpl := packF_length row
  refine walk10 (fun _ => [0]) [] rfl ?_
  repeat (refine And.intro (by first | exact rfl | omega) ?_)
  refine may_call fun b hb => ?_
  rw [may_iff hv] at hb
  have hmay : mayB v n = b := by cases b <;> cases hm : mayB v n <;> simp_all
  clear hb
  refine And.intro (fun h1 => ?_) (fun h1 => ?_)
  · have h1' : b = false := by simpa using h1
    subst h1'
    have e : putF row v n = (row, 1) := by simp [putF, hmay]
    rw [e]
    exact ⟨g, c, rfl, rfl, hc, hr⟩
  · have h1' : b = true := by simpa using h1
    subst h1'
    have hm := hmay
    simp only [mayB, decide_eq_true_eq] at hm
    refine len_call (by omega) (by omega) ?_
    repeat (refine And.intro (by first | exact rfl | omega) ?_)
    have hlen : (8 * ((packF row).length : Int) + ((row.length % 8 : Nat) : Int)) = row.length := by rw [hpl]; omega
    refine And.intro (fun h2 => ?_) (fun h2 => ?_)
    · simp only [decide_eq_true_eq] at h2
      rw [hlen] at h2
      have e : putF row v n = (row, 2) := by simp [putF, hmay, h2]
      rw [e]
      exact ⟨g, c, rfl, rfl, hc, hr⟩
    · simp only [decide_eq_false_iff_not] at h2
      rw [hlen] at h2
      refine CallA.mono (lay_call (by omega) (by omega) (by omega) hc) ?_ (fun _ _ h => h)
      rintro r M ⟨g', c', xs', a', n', rfl, rfl, hxc, hL⟩
      obtain ⟨k, rfl⟩ := Int.eq_ofNat_of_zero_le hm.1
      rw [show (((row.length % 8 : Nat) : Int) + (k : Int)).toNat / 8 = (row.length % 8 + k) / 8 from by omega, layL_row row v k (by omega) hv (by simpa using hm.2.2)] at hL
      injection hL with e1 e2; injection e2 with e2 e3
      subst e1; subst e2; subst e3
      have e : putF row v k = (row ++ bitsOf v k, 0) := by simp only [putF, hmay, Int.toNat_natCast]; rw [if_neg (by simp), if_neg (by omega)]
      rw [e]
      exact ⟨g', c', rfl, rfl, hxc, by simp [bitsOf_length]; omega⟩

/-- Align, plainly. -/
def alignF (row : List Bool) : List Bool := row ++ bitsOf 0 ((8 - row.length % 8) % 8)
theorem align_call {row : List Bool} {g c : Nat} (hr : row.length ≤ 8388608) (hc : (packF row).length ≤ c) {Kp} :
    CallA Try.prog 18 [.ptr 0 0 0] (wrA row g c)
      (fun r M => ∃ g' c', r = .int .i64 0 ∧ M = wrA (alignF row) g' c' ∧ (packF (alignF row)).length ≤ c' ∧ (alignF row).length ≤ 8388608) Kp := by
  have hpl := packF_length row
  refine walk18 (fun _ => [0]) [] rfl ?_
  repeat (refine And.intro (by first | exact rfl | omega) ?_)
  refine And.intro (fun h1 => ?_) (fun h1 => ?_)
  · simp only [decide_eq_true_eq] at h1
    repeat (refine And.intro (by first | exact rfl | omega) ?_)
    refine CallA.mono (lay_call (by omega) (by omega) (by omega) hc) ?_ (fun _ _ h => h)
    rintro r M ⟨g', c', xs', a', n', rfl, rfl, hxc, hL⟩
    have hk : (8 - row.length % 8) % 8 = 8 - row.length % 8 := by omega
    rw [show (8 : Int) - ((row.length % 8 : Nat) : Int) = ((8 - row.length % 8 : Nat) : Int) from by omega,
      show (((row.length % 8 : Nat) : Int) + ((8 - row.length % 8 : Nat) : Int)).toNat / 8 = (row.length % 8 + (8 - row.length % 8)) / 8 from by omega,
      layL_row row 0 (8 - row.length % 8) (by omega) (by omega) (Int.pow_pos (by decide)), ← hk] at hL
    injection hL with e1 e2; injection e2 with e2 e3
    subst e1; subst e2; subst e3
    exact ⟨g', c', rfl, rfl, hxc, by simp [alignF, bitsOf_length]; omega⟩
  · simp only [decide_eq_false_iff_not] at h1
    have e : alignF row = row := by
      have : row.length % 8 = 0 := by omega
      simp [alignF, this, bitsOf]
    rw [e]
    exact ⟨g, c, rfl, rfl, hc, hr⟩
end Go.Proofs.Ythbmddaemdcamaa
