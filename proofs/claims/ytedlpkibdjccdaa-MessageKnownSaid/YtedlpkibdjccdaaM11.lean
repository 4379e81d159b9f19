/- Layer 23: slices.Equal, slices.Clone. -/
import Derived.Test.YtedlpkibdjccdaaM10

set_option linter.unusedVariables false

set_option linter.unusedSimpArgs false

open Go.RowKit

namespace Go.Proofs.Ytedlpkibdjccdaa

set_option maxRecDepth 10000

theorem equal32_call {xs ys : List Int} {c0 c1 c d : Nat} (hx : xs.length ≤ 1000000000) (hy : ys.length ≤ 1000000000) {K Kp : AV → AH → Prop} (h : K (.bo (decide (xs = ys))) [.one false 0 (.ints .u32 xs c), .one false 0 (.ints .u32 ys d)]) :
    CallA Try.prog 38 [.sl 0 0 0 xs.length c0, .sl 1 0 0 ys.length c1] [.one false 0 (.ints .u32 xs c), .one false 0 (.ints .u32 ys d)] K Kp := by
  refine step38 (fun _ => [0, 1]) [] rfl ?_
  repeat ((conv => whnf); first | with_reducible refine O_step ?_ | with_reducible refine S_step ?_ | with_reducible refine D_step ?_ | with_reducible refine RO.exit ?_ | with_reducible refine RO.ret ?_ | ((with_reducible refine And.intro ?sc ?_); case sc => exact side) | ((with_reducible refine br_f ?sc ?_); case sc => exact sideB) | ((with_reducible refine br_t ?sc ?_); case sc => exact sideB))
  refine And.intro (fun h1 => ?_) (fun h1 => ?_)
  · have hne : xs ≠ ys := by rintro rfl; simp at h1
    repeat ((conv => whnf); first | with_reducible refine O_step ?_ | with_reducible refine S_step ?_ | with_reducible refine D_step ?_ | with_reducible refine RO.exit ?_ | with_reducible refine RO.ret ?_ | ((with_reducible refine And.intro ?sc ?_); case sc => exact side) | ((with_reducible refine br_f ?sc ?_); case sc => exact sideB) | ((with_reducible refine br_t ?sc ?_); case sc => exact sideB))
    rw [decide_eq_false hne] at h
    exact h
  · have hlen : xs.length = ys.length := by
      have : ((xs.length : Nat) : Int) = ys.length := by simpa using h1
      omega
    repeat ((conv => whnf); first | with_reducible refine O_step ?_ | with_reducible refine S_step ?_ | with_reducible refine D_step ?_ | with_reducible refine RO.exit ?_ | with_reducible refine RO.ret ?_ | ((with_reducible refine And.intro ?sc ?_); case sc => exact side) | ((with_reducible refine br_f ?sc ?_); case sc => exact sideB) | ((with_reducible refine br_t ?sc ?_); case sc => exact sideB))
    refine WO.go (σ := Nat) (fun j => j ≤ xs.length ∧ xs.take j = ys.take j) (fun j => xs.length - j)
      (fun j => [(0, .sl 0 0 0 xs.length c0), (1, .sl 1 0 0 ys.length c1), (12, .int .i64 xs.length), (13, .int .i64 j)])
      (fun j => [.one false 0 (.ints .u32 xs c), .one false 0 (.ints .u32 ys d)]) 0 tb_ok mixed (by kernel_rfl)
      ⟨Nat.zero_le _, by simp⟩ (And.intro rfl (And.intro rfl (And.intro rfl (And.intro rfl (trivial))))) (And.intro rfl (And.intro rfl (trivial))) (fun _ => rfl) (fun _ => rfl) (fun _ => ⟨trivial, trivial, trivial⟩) ?_
    rintro j ⟨hj, ht⟩ dd
    repeat ((conv => whnf); first | with_reducible refine O_step ?_ | with_reducible refine S_step ?_ | with_reducible refine D_step ?_ | with_reducible refine RO.exit ?_ | with_reducible refine RO.ret ?_ | ((with_reducible refine And.intro ?sc ?_); case sc => exact side) | ((with_reducible refine br_f ?sc ?_); case sc => exact sideB) | ((with_reducible refine br_t ?sc ?_); case sc => exact sideB))
    refine And.intro (fun hc => ?_) (fun hc => ?_)
    · have hc' : (j : Int) < xs.length := of_decide_eq_true hc
      have hjx : j < xs.length := by omega
      have hjy : j < ys.length := by omega
      have hgx : xs.getD (((j : Int)).toNat + 0) 0 = xs[j] := by simp [List.getD_eq_getElem?_getD, hjx]
      have hgy : ys.getD (((j : Int)).toNat + 0) 0 = ys[j] := by simp [List.getD_eq_getElem?_getD, hjy]
      repeat ((conv => whnf); first | with_reducible refine O_step ?_ | with_reducible refine S_step ?_ | with_reducible refine D_step ?_ | with_reducible refine RO.exit ?_ | with_reducible refine RO.ret ?_ | ((with_reducible refine And.intro ?sc ?_); case sc => exact side) | ((with_reducible refine br_f ?sc ?_); case sc => exact sideB) | ((with_reducible refine br_t ?sc ?_); case sc => exact sideB))
      refine And.intro (fun hb => ?_) (fun hb => ?_)
      · rw [hgx, hgy] at hb
        have hne : xs ≠ ys := by rintro rfl; simp at hb
        repeat ((conv => whnf); first | with_reducible refine O_step ?_ | with_reducible refine S_step ?_ | with_reducible refine D_step ?_ | with_reducible refine RO.exit ?_ | with_reducible refine RO.ret ?_ | ((with_reducible refine And.intro ?sc ?_); case sc => exact side) | ((with_reducible refine br_f ?sc ?_); case sc => exact sideB) | ((with_reducible refine br_t ?sc ?_); case sc => exact sideB))
        rw [decide_eq_false hne] at h
        exact h
      · rw [hgx, hgy] at hb
        repeat ((conv => whnf); first | with_reducible refine O_step ?_ | with_reducible refine S_step ?_ | with_reducible refine D_step ?_ | with_reducible refine RO.exit ?_ | with_reducible refine RO.ret ?_ | ((with_reducible refine And.intro ?sc ?_); case sc => exact side) | ((with_reducible refine br_f ?sc ?_); case sc => exact sideB) | ((with_reducible refine br_t ?sc ?_); case sc => exact sideB))
        refine RO.same (j + 1) ⟨by omega, ?_⟩ (show xs.length - (j + 1) < xs.length - j by omega) (And.intro rfl (And.intro rfl (And.intro rfl (And.intro rfl (trivial))))) (And.intro rfl (And.intro rfl (trivial)))
        rw [List.take_succ_eq_append_getElem hjx, List.take_succ_eq_append_getElem hjy, ht]
        simp at hb; rw [hb]
    · have hc' : ¬ (j : Int) < xs.length := of_decide_eq_false hc
      have hjn : j = xs.length := by omega
      have he : xs = ys := by
        rw [hjn, List.take_length, hlen, List.take_length] at ht
        exact ht
      repeat ((conv => whnf); first | with_reducible refine O_step ?_ | with_reducible refine S_step ?_ | with_reducible refine D_step ?_ | with_reducible refine RO.exit ?_ | with_reducible refine RO.ret ?_ | ((with_reducible refine And.intro ?sc ?_); case sc => exact side) | ((with_reducible refine br_f ?sc ?_); case sc => exact sideB) | ((with_reducible refine br_t ?sc ?_); case sc => exact sideB))
      rw [decide_eq_true he] at h
      exact h
theorem equal8_call {xs ys : List Int} {c0 c1 c d : Nat} (hx : xs.length ≤ 1000000000) (hy : ys.length ≤ 1000000000) {K Kp : AV → AH → Prop} (h : K (.bo (decide (xs = ys))) [.one false 0 (.ints .u8 xs c), .one false 0 (.ints .u8 ys d)]) :
    CallA Try.prog 39 [.sl 0 0 0 xs.length c0, .sl 1 0 0 ys.length c1] [.one false 0 (.ints .u8 xs c), .one false 0 (.ints .u8 ys d)] K Kp := by
  refine step39 (fun _ => [0, 1]) [] rfl ?_
  repeat ((conv => whnf); first | with_reducible refine O_step ?_ | with_reducible refine S_step ?_ | with_reducible refine D_step ?_ | with_reducible refine RO.exit ?_ | with_reducible refine RO.ret ?_ | ((with_reducible refine And.intro ?sc ?_); case sc => exact side) | ((with_reducible refine br_f ?sc ?_); case sc => exact sideB) | ((with_reducible refine br_t ?sc ?_); case sc => exact sideB))
  refine And.intro (fun h1 => ?_) (fun h1 => ?_)
  · have hne : xs ≠ ys := by rintro rfl; simp at h1
    repeat ((conv => whnf); first | with_reducible refine O_step ?_ | with_reducible refine S_step ?_ | with_reducible refine D_step ?_ | with_reducible refine RO.exit ?_ | with_reducible refine RO.ret ?_ | ((with_reducible refine And.intro ?sc ?_); case sc => exact side) | ((with_reducible refine br_f ?sc ?_); case sc => exact sideB) | ((with_reducible refine br_t ?sc ?_); case sc => exact sideB))
    rw [decide_eq_false hne] at h
    exact h
  · have hlen : xs.length = ys.length := by
      have : ((xs.length : Nat) : Int) = ys.length := by simpa using h1
      omega
    repeat ((conv => whnf); first | with_reducible refine O_step ?_ | with_reducible refine S_step ?_ | with_reducible refine D_step ?_ | with_reducible refine RO.exit ?_ | with_reducible refine RO.ret ?_ | ((with_reducible refine And.intro ?sc ?_); case sc => exact side) | ((with_reducible refine br_f ?sc ?_); case sc => exact sideB) | ((with_reducible refine br_t ?sc ?_); case sc => exact sideB))
    refine WO.go (σ := Nat) (fun j => j ≤ xs.length ∧ xs.take j = ys.take j) (fun j => xs.length - j)
      (fun j => [(0, .sl 0 0 0 xs.length c0), (1, .sl 1 0 0 ys.length c1), (12, .int .i64 xs.length), (13, .int .i64 j)])
      (fun j => [.one false 0 (.ints .u8 xs c), .one false 0 (.ints .u8 ys d)]) 0 tb_ok mixed (by kernel_rfl)
      ⟨Nat.zero_le _, by simp⟩ (And.intro rfl (And.intro rfl (And.intro rfl (And.intro rfl (trivial))))) (And.intro rfl (And.intro rfl (trivial))) (fun _ => rfl) (fun _ => rfl) (fun _ => ⟨trivial, trivial, trivial⟩) ?_
    rintro j ⟨hj, ht⟩ dd
    repeat ((conv => whnf); first | with_reducible refine O_step ?_ | with_reducible refine S_step ?_ | with_reducible refine D_step ?_ | with_reducible refine RO.exit ?_ | with_reducible refine RO.ret ?_ | ((with_reducible refine And.intro ?sc ?_); case sc => exact side) | ((with_reducible refine br_f ?sc ?_); case sc => exact sideB) | ((with_reducible refine br_t ?sc ?_); case sc => exact sideB))
    refine And.intro (fun hc => ?_) (fun hc => ?_)
    · have hc' : (j : Int) < xs.length := of_decide_eq_true hc
      have hjx : j < xs.length := by omega
      have hjy : j < ys.length := by omega
      have hgx : xs.getD (((j : Int)).toNat + 0) 0 = xs[j] := by simp [List.getD_eq_getElem?_getD, hjx]
      have hgy : ys.getD (((j : Int)).toNat + 0) 0 = ys[j] := by simp [List.getD_eq_getElem?_getD, hjy]
      repeat ((conv => whnf); first | with_reducible refine O_step ?_ | with_reducible refine S_step ?_ | with_reducible refine D_step ?_ | with_reducible refine RO.exit ?_ | with_reducible refine RO.ret ?_ | ((with_reducible refine And.intro ?sc ?_); case sc => exact side) | ((with_reducible refine br_f ?sc ?_); case sc => exact sideB) | ((with_reducible refine br_t ?sc ?_); case sc => exact sideB))
      refine And.intro (fun hb => ?_) (fun hb => ?_)
      · rw [hgx, hgy] at hb
        have hne : xs ≠ ys := by rintro rfl; simp at hb
        repeat ((conv => whnf); first | with_reducible refine O_step ?_ | with_reducible refine S_step ?_ | with_reducible refine D_step ?_ | with_reducible refine RO.exit ?_ | with_reducible refine RO.ret ?_ | ((with_reducible refine And.intro ?sc ?_); case sc => exact side) | ((with_reducible refine br_f ?sc ?_); case sc => exact sideB) | ((with_reducible refine br_t ?sc ?_); case sc => exact sideB))
        rw [decide_eq_false hne] at h
        exact h
      · rw [hgx, hgy] at hb
        repeat ((conv => whnf); first | with_reducible refine O_step ?_ | with_reducible refine S_step ?_ | with_reducible refine D_step ?_ | with_reducible refine RO.exit ?_ | with_reducible refine RO.ret ?_ | ((with_reducible refine And.intro ?sc ?_); case sc => exact side) | ((with_reducible refine br_f ?sc ?_); case sc => exact sideB) | ((with_reducible refine br_t ?sc ?_); case sc => exact sideB))
        refine RO.same (j + 1) ⟨by omega, ?_⟩ (show xs.length - (j + 1) < xs.length - j by omega) (And.intro rfl (And.intro rfl (And.intro rfl (And.intro rfl (trivial))))) (And.intro rfl (And.intro rfl (trivial)))
        rw [List.take_succ_eq_append_getElem hjx, List.take_succ_eq_append_getElem hjy, ht]
        simp at hb; rw [hb]
    · have hc' : ¬ (j : Int) < xs.length := of_decide_eq_false hc
      have hjn : j = xs.length := by omega
      have he : xs = ys := by
        rw [hjn, List.take_length, hlen, List.take_length] at ht
        exact ht
      repeat ((conv => whnf); first | with_reducible refine O_step ?_ | with_reducible refine S_step ?_ | with_reducible refine D_step ?_ | with_reducible refine RO.exit ?_ | with_reducible refine RO.ret ?_ | ((with_reducible refine And.intro ?sc ?_); case sc => exact side) | ((with_reducible refine br_f ?sc ?_); case sc => exact sideB) | ((with_reducible refine br_t ?sc ?_); case sc => exact sideB))
      rw [decide_eq_true he] at h
      exact h
theorem equaln32_call {ys : List Int} {c1 d : Nat} (hy : ys.length ≤ 1000000000) {K Kp : AV → AH → Prop} (h : K (.bo (decide ([] = ys))) [.one false 0 (.ints .u32 ys d)]) :
    CallA Try.prog 38 [.ns, .sl 0 0 0 ys.length c1] [.one false 0 (.ints .u32 ys d)] K Kp := by
  refine step38 (fun _ => [0]) [] rfl ?_
  repeat ((conv => whnf); first | with_reducible refine O_step ?_ | with_reducible refine S_step ?_ | with_reducible refine D_step ?_ | with_reducible refine RO.exit ?_ | with_reducible refine RO.ret ?_ | ((with_reducible refine And.intro ?sc ?_); case sc => exact side) | ((with_reducible refine br_f ?sc ?_); case sc => exact sideB) | ((with_reducible refine br_t ?sc ?_); case sc => exact sideB))
  refine And.intro (fun h1 => ?_) (fun h1 => ?_)
  · have hne : ([] : List Int) ≠ ys := by rintro rfl; simp at h1
    repeat ((conv => whnf); first | with_reducible refine O_step ?_ | with_reducible refine S_step ?_ | with_reducible refine D_step ?_ | with_reducible refine RO.exit ?_ | with_reducible refine RO.ret ?_ | ((with_reducible refine And.intro ?sc ?_); case sc => exact side) | ((with_reducible refine br_f ?sc ?_); case sc => exact sideB) | ((with_reducible refine br_t ?sc ?_); case sc => exact sideB))
    rw [decide_eq_false hne] at h
    exact h
  · have hlen : 0 = ys.length := by
      have : ((0 : Nat) : Int) = ys.length := by simpa using h1
      omega
    have he : ([] : List Int) = ys := (List.length_eq_zero_iff.1 hlen.symm).symm
    repeat ((conv => whnf); first | with_reducible refine O_step ?_ | with_reducible refine S_step ?_ | with_reducible refine D_step ?_ | with_reducible refine RO.exit ?_ | with_reducible refine RO.ret ?_ | ((with_reducible refine And.intro ?sc ?_); case sc => exact side) | ((with_reducible refine br_f ?sc ?_); case sc => exact sideB) | ((with_reducible refine br_t ?sc ?_); case sc => exact sideB))
    refine WO.rounds 1 tb_ok mixed (by kernel_rfl) ?_
    repeat ((conv => whnf); first | with_reducible refine O_step ?_ | with_reducible refine S_step ?_ | with_reducible refine D_step ?_ | with_reducible refine RO.exit ?_ | with_reducible refine RO.ret ?_ | ((with_reducible refine And.intro ?sc ?_); case sc => exact side) | ((with_reducible refine br_f ?sc ?_); case sc => exact sideB) | ((with_reducible refine br_t ?sc ?_); case sc => exact sideB))
    rw [decide_eq_true he] at h
    exact h
theorem equaln8_call {ys : List Int} {c1 d : Nat} (hy : ys.length ≤ 1000000000) {K Kp : AV → AH → Prop} (h : K (.bo (decide ([] = ys))) [.one false 0 (.ints .u8 ys d)]) :
    CallA Try.prog 39 [.ns, .sl 0 0 0 ys.length c1] [.one false 0 (.ints .u8 ys d)] K Kp := by
  refine step39 (fun _ => [0]) [] rfl ?_
  repeat ((conv => whnf); first | with_reducible refine O_step ?_ | with_reducible refine S_step ?_ | with_reducible refine D_step ?_ | with_reducible refine RO.exit ?_ | with_reducible refine RO.ret ?_ | ((with_reducible refine And.intro ?sc ?_); case sc => exact side) | ((with_reducible refine br_f ?sc ?_); case sc => exact sideB) | ((with_reducible refine br_t ?sc ?_); case sc => exact sideB))
  refine And.intro (fun h1 => ?_) (fun h1 => ?_)
  · have hne : ([] : List Int) ≠ ys := by rintro rfl; simp at h1
    repeat ((conv => whnf); first | with_reducible refine O_step ?_ | with_reducible refine S_step ?_ | with_reducible refine D_step ?_ | with_reducible refine RO.exit ?_ | with_reducible refine RO.ret ?_ | ((with_reducible refine And.intro ?sc ?_); case sc => exact side) | ((with_reducible refine br_f ?sc ?_); case sc => exact sideB) | ((with_reducible refine br_t ?sc ?_); case sc => exact sideB))
    rw [decide_eq_false hne] at h
    exact h
  · have hlen : 0 = ys.length := by
      have : ((0 : Nat) : Int) = ys.length := by simpa using h1
      omega
    have he : ([] : List Int) = ys := (List.length_eq_zero_iff.1 hlen.symm).symm
    repeat ((conv => whnf); first | with_reducible refine O_step ?_ | with_reducible refine S_step ?_ | with_reducible refine D_step ?_ | with_reducible refine RO.exit ?_ | with_reducible refine RO.ret ?_ | ((with_reducible refine And.intro ?sc ?_); case sc => exact side) | ((with_reducible refine br_f ?sc ?_); case sc => exact sideB) | ((with_reducible refine br_t ?sc ?_); case sc => exact sideB))
    refine WO.rounds 1 tb_ok mixed (by kernel_rfl) ?_
    repeat ((conv => whnf); first | with_reducible refine O_step ?_ | with_reducible refine S_step ?_ | with_reducible refine D_step ?_ | with_reducible refine RO.exit ?_ | with_reducible refine RO.ret ?_ | ((with_reducible refine And.intro ?sc ?_); case sc => exact side) | ((with_reducible refine br_f ?sc ?_); case sc => exact sideB) | ((with_reducible refine br_t ?sc ?_); case sc => exact sideB))
    rw [decide_eq_true he] at h
    exact h
theorem clone32_call {xs : List Int} {c0 c : Nat} (hb : xs.length ≤ 17592186044416) {Kp} :
    CallA Try.prog 18 [.sl 0 0 0 xs.length c0] [.one false 0 (.ints .u32 xs c)]
      (fun r M => ∃ g' c', r = .sl 1 g' 0 xs.length c' ∧ M = [.one false 0 (.ints .u32 xs c), .one true g' (.ints .u32 xs c')] ∧ xs.length ≤ c') Kp := by
  refine CallA.post_view ?_
  refine walk18 (fun _ => []) [] rfl ?_
  refine And.intro rfl ?_
  intro b hb
  refine And.intro (fun h1 => ?_) (fun h1 => ?_)
  · obtain ⟨rfl, rfl⟩ := hb (by simpa using h1)
    exact ⟨_, _, Vw.nil (x := .ints .u32 [] 0) ⟨rfl, rfl⟩, 0, 0, rfl, rfl, Nat.le_refl _⟩
  · repeat (refine And.intro (by first | exact rfl | exact Nat.le_of_ble_eq_true rfl | omega | (dsimp only; omega) | (refine ⟨rfl, rfl, rfl, Nat.le_refl _, Nat.le_refl _⟩)) ?_)
    intro ys hys
    have hys' : ys = xs := by rw [hys]; simp
    subst hys'
    repeat (refine And.intro (by first | exact rfl | omega | (dsimp only; omega)) ?_)
    intro c1 hc1
    refine ⟨_, _, Vw.refl _ _, 1, c1, ?_, rfl, by omega⟩
    show AV.sl 1 1 0 (0 + ys.length) c1 = _
    rw [Nat.zero_add]
end Go.Proofs.Ytedlpkibdjccdaa
