/- The document's own bits, walked: Number. -/
import Derived.Test.YthbmddaemdcamaaRe0
set_option linter.unusedVariables false
set_option linter.unusedSimpArgs false
open Go.RowKit
namespace Go.Proofs.Ythbmddaemdcamaa
set_option maxRecDepth 10000

theorem rnumber_call {xs : List Bool} {c0 c : Nat} (hl : xs.length ≤ 31) {K Kp : AV → AH → Prop} (h : K (.int .u32 (num xs)) [.one false 0 (.bools xs c)]) :
    CallA Try.prog 32 [.sl 0 0 0 xs.length c0] [.one false 0 (.bools xs c)] K Kp := by
  refine walk32 (fun _ => [0]) [] rfl ?_
  repeat (refine And.intro (by first | exact rfl | omega) ?_)
  refine WA.loop (σ := Nat) (fun j => j ≤ xs.length) (fun j => j)
    (fun j => [(0, .sl 0 0 0 xs.length c0), (3, .int .u32 (num (xs.drop j))), (4, .int .i64 ((j : Int) - 1))]) (fun _ => [.one false 0 (.bools xs c)]) xs.length tb_ok mixed (by kernel_rfl)
    ⟨Nat.le_refl _, And.intro rfl (And.intro ?_ (And.intro rfl trivial)), And.intro rfl trivial⟩ (fun _ => rfl) (fun _ => rfl) (fun _ => ⟨trivial, trivial⟩) ?_
  · show AV.int .u32 0 = AV.int .u32 (num (xs.drop xs.length))
    simp [num]
  rintro j hj d
  refine And.intro (fun hc => ?_) (fun hc => ?_)
  · simp only [decide_eq_true_eq] at hc
    obtain ⟨j, rfl⟩ : ∃ j', j = j' + 1 := ⟨j - 1, by omega⟩
    repeat (refine And.intro (by first | exact rfl | omega) ?_)
    have hjl : j < xs.length := by omega
    have hd : xs.drop j = xs[j] :: xs.drop (j + 1) := List.drop_eq_getElem_cons hjl
    have hg : xs.getD ((((j + 1 : Nat) : Int) - 1).toNat + 0) false = xs[j] := by
      rw [show (((j + 1 : Nat) : Int) - 1).toNat + 0 = j from by omega]; simp [List.getD_eq_getElem?_getD, hjl]
    have hlt := num_lt (xs.drop (j + 1))
    have h0 := num_nonneg (xs.drop (j + 1))
    have h31 : (2 : Int) ^ (xs.drop (j + 1)).length ≤ 2 ^ 30 := by exact_mod_cast Nat.pow_le_pow_right (by omega) (by simp; omega)
    refine And.intro (fun hb => ?_) (fun hb => ?_)
    · rw [hg] at hb
      repeat (refine And.intro (by first | exact rfl | omega) ?_)
      refine Exists.intro j (And.intro ⟨by omega, show j < j + 1 by omega⟩ (And.intro (And.intro rfl (And.intro ?_ (And.intro ?_ trivial))) (And.intro rfl trivial)))
      · show AV.int .u32 (((2 * num (xs.drop (j + 1))) % 4294967296 + 1) % 4294967296) = AV.int .u32 (num (xs.drop j))
        rw [hd, num, hb]; congr 1; simp only [if_true]; omega
      · show AV.int .i64 (((j + 1 : Nat) : Int) - 1 - 1) = AV.int .i64 ((j : Int) - 1)
        congr 1; omega
    · rw [hg] at hb
      repeat (refine And.intro (by first | exact rfl | omega) ?_)
      refine Exists.intro j (And.intro ⟨by omega, show j < j + 1 by omega⟩ (And.intro (And.intro rfl (And.intro ?_ (And.intro ?_ trivial))) (And.intro rfl trivial)))
      · show AV.int .u32 ((2 * num (xs.drop (j + 1))) % 4294967296) = AV.int .u32 (num (xs.drop j))
        rw [hd, num, hb]; congr 1; simp only [Bool.false_eq_true, if_false]; omega
      · show AV.int .i64 (((j + 1 : Nat) : Int) - 1 - 1) = AV.int .i64 ((j : Int) - 1)
        congr 1; omega
  · simp only [decide_eq_false_iff_not] at hc
    obtain rfl : j = 0 := by omega
    exact h

/-- Two rows of bytes, compared. -/
theorem same_call {xs ys : List Int} {c0 c1 c d : Nat} (hx : xs.length ≤ 1000000000) (hy : ys.length ≤ 1000000000) {K Kp : AV → AH → Prop} (h : K (.bo (decide (xs = ys))) [.one false 0 (.ints .u8 xs c), .one false 0 (.ints .u8 ys d)]) :
    CallA Try.prog 11 [.sl 0 0 0 xs.length c0, .sl 1 0 0 ys.length c1] [.one false 0 (.ints .u8 xs c), .one false 0 (.ints .u8 ys d)] K Kp := by
  refine walk11 (fun _ => [0, 1]) [] rfl ?_
  refine And.intro (fun h1 => ?_) (fun h1 => ?_)
  · have e : decide (xs = ys) = false := by
      simp only [Bool.not_eq_true', decide_eq_false_iff_not] at h1
      rw [decide_eq_false_iff_not]; rintro rfl; exact h1 rfl
    rw [e] at h; exact h
  · have hlen : xs.length = ys.length := by
      have : ((xs.length : Nat) : Int) = ys.length := by simpa using h1
      omega
    refine WA.loop (σ := Nat) (fun j => j ≤ xs.length ∧ xs.take j = ys.take j) (fun j => xs.length - j)
      (fun j => [(0, .sl 0 0 0 xs.length c0), (1, .sl 1 0 0 ys.length c1), (5, .int .i64 (j : Int))]) (fun _ => [.one false 0 (.ints .u8 xs c), .one false 0 (.ints .u8 ys d)]) 0 tb_ok mixed (by kernel_rfl)
      ⟨⟨Nat.zero_le _, by simp⟩, And.intro rfl (And.intro rfl (And.intro rfl trivial)), And.intro rfl (And.intro rfl trivial)⟩ (fun _ => rfl) (fun _ => rfl) (fun _ => ⟨trivial, trivial, trivial⟩) ?_
    rintro j ⟨hj, ht⟩ dd
    refine And.intro (fun hc => ?_) (fun hc => ?_)
    · simp only [decide_eq_true_eq] at hc
      repeat (refine And.intro (by first | exact rfl | omega) ?_)
      have hjx : j < xs.length := by omega
      have hjy : j < ys.length := by omega
      have hgx : xs.getD (((j : Int)).toNat + 0) 0 = xs[j] := by simp [List.getD_eq_getElem?_getD, hjx]
      have hgy : ys.getD (((j : Int)).toNat + 0) 0 = ys[j] := by simp [List.getD_eq_getElem?_getD, hjy]
      refine And.intro (fun hb => ?_) (fun hb => ?_)
      · rw [hgx, hgy] at hb
        have e : decide (xs = ys) = false := by
          rw [decide_eq_false_iff_not]; rintro rfl; simp at hb
        rw [e] at h; exact h
      · rw [hgx, hgy] at hb
        repeat (refine And.intro (by first | exact rfl | omega) ?_)
        refine Exists.intro (j + 1) (And.intro ⟨⟨by omega, ?_⟩, show xs.length - (j + 1) < xs.length - j by omega⟩ (And.intro (And.intro rfl (And.intro rfl (And.intro ?_ trivial))) (And.intro rfl (And.intro rfl trivial))))
        · rw [List.take_succ_eq_append_getElem hjx, List.take_succ_eq_append_getElem hjy, ht]
          simp at hb; rw [hb]
        · show AV.int .i64 ((j : Int) + 1) = AV.int .i64 ((j + 1 : Nat) : Int)
          push_cast; rfl
    · simp only [decide_eq_false_iff_not] at hc
      have hjn : j = xs.length := by omega
      have e : decide (xs = ys) = true := by
        rw [decide_eq_true_eq]
        rw [hjn, List.take_length, hlen, List.take_length] at ht
        exact ht
      rw [e] at h; exact h
end Go.Proofs.Ythbmddaemdcamaa
