/- Layer 6, the reference: wrong. -/
import Derived.Test.YtdnmbmnfglbfoaaH10

set_option linter.unusedVariables false

set_option linter.unusedSimpArgs false

open Go.RowKit

namespace Go.Proofs.Ytdnmbmnfglbfoaa

set_option maxRecDepth 10000

theorem shr_room (a : Nat) (h : a ≤ 15) : shrF .i64 32768 (a : Int) = ((2 ^ (15 - a) : Nat) : Int) := by
  have : ∀ a, a < 16 → shrF .i64 32768 ((a : Nat) : Int) = ((2 ^ (15 - a) : Nat) : Int) := by decide
  exact this a (by omega)
section

variable {ls : List Int} {c c0 : Nat} {K Kp : AV → AH → Prop}

theorem wrong_call (hl : ls.length ≤ 2000) (hu : ∀ x ∈ ls, 0 ≤ x ∧ x < 256) (hK : K (.int .i64 (eachE ls)) [.one false 0 (.ints .u8 ls c)]) :
    CallA Try.prog 41 [.sl 0 0 0 ls.length c0] [.one false 0 (.ints .u8 ls c)] K Kp := by
  refine step41 (fun _ => []) [] rfl ?_
  repeat ((conv => whnf); first | with_reducible refine O_step ?_ | with_reducible refine S_step ?_ | with_reducible refine D_step ?_ | with_reducible refine RO.exit ?_ | with_reducible refine RO.ret ?_ | ((with_reducible refine And.intro ?sc ?_); case sc => exact side) | ((with_reducible refine br_f ?sc ?_); case sc => exact sideB) | ((with_reducible refine br_t ?sc ?_); case sc => exact sideB))
  refine And.intro (fun b1 => ?_) (fun b1 => ?_)
  · have b1' : (320 : Int) < ls.length := by simpa using b1
    have hb : badL ls = true := by unfold badL; rw [show decide (320 < ls.length) = true by rw [decide_eq_true_eq]; omega]; rfl
    have e := eachE_bad hb
    rw [e] at hK
    repeat ((conv => whnf); first | with_reducible refine O_step ?_ | with_reducible refine S_step ?_ | with_reducible refine D_step ?_ | with_reducible refine RO.exit ?_ | with_reducible refine RO.ret ?_ | ((with_reducible refine And.intro ?sc ?_); case sc => exact side) | ((with_reducible refine br_f ?sc ?_); case sc => exact sideB) | ((with_reducible refine br_t ?sc ?_); case sc => exact sideB))
    exact hK
  have b1' : ¬ (320 : Int) < ls.length := by simpa using b1
  have hd1 : decide (320 < ls.length) = false := by rw [decide_eq_false_iff_not]; omega
  repeat ((conv => whnf); first | with_reducible refine O_step ?_ | with_reducible refine S_step ?_ | with_reducible refine D_step ?_ | with_reducible refine RO.exit ?_ | with_reducible refine RO.ret ?_ | ((with_reducible refine And.intro ?sc ?_); case sc => exact side))
  refine WO.go (σ := Nat) (fun i => i ≤ ls.length ∧ ∀ j, j < i → badU (ls.getD j 0) = false) (fun i => ls.length - i)
    (fun i => [(0, .sl 0 0 0 ls.length c0), (3, .int .i64 (sumK ls i : Int)), (4, .int .i64 (cntK ls i : Int)), (5, .int .i64 (i : Int))])
    (fun _ => [.one false 0 (.ints .u8 ls c)]) 0 tb_ok mixed (by kernel_rfl) ⟨Nat.zero_le _, fun j hj => absurd hj (Nat.not_lt_zero j)⟩ (And.intro rfl (And.intro rfl (And.intro rfl (And.intro rfl (trivial))))) (And.intro rfl (trivial)) (fun _ => rfl) (fun _ => rfl) (fun _ => ⟨trivial, trivial⟩) ?_
  rintro i ⟨hi, hg⟩ d
  have hs1 := sumK_le ls i
  have hc1 := cntK_le ls i
  repeat ((conv => whnf); first | with_reducible refine O_step ?_ | with_reducible refine S_step ?_ | with_reducible refine D_step ?_ | with_reducible refine RO.exit ?_ | with_reducible refine RO.ret ?_ | ((with_reducible refine And.intro ?sc ?_); case sc => exact side))
  refine And.intro (fun hc => ?_) (fun hc => ?_)
  · simp only [decide_eq_true_eq] at hc
    have hil : i < ls.length := by omega
    have hm : ls.getD i 0 ∈ ls := getD_memI' hil
    have hu1 := hu _ hm
    repeat ((conv => whnf); first | with_reducible refine O_step ?_ | with_reducible refine S_step ?_ | with_reducible refine D_step ?_ | with_reducible refine RO.exit ?_ | with_reducible refine RO.ret ?_ | ((with_reducible refine And.intro ?sc ?_); case sc => exact side))
    refine And.intro (fun hb => ?_) (fun hb => ?_)
    · have hb' : 15 < ls.getD i 0 := by simpa using hb
      have hbb : badL ls = true := by
        unfold badL
        rw [show ls.any badU = true by rw [List.any_eq_true]; exact ⟨_, hm, by simpa [badU] using hb'⟩]; simp
      have e := eachE_bad hbb
      rw [e] at hK
      repeat ((conv => whnf); first | with_reducible refine O_step ?_ | with_reducible refine S_step ?_ | with_reducible refine D_step ?_ | with_reducible refine RO.exit ?_ | with_reducible refine RO.ret ?_ | ((with_reducible refine And.intro ?sc ?_); case sc => exact side) | ((with_reducible refine br_f ?sc ?_); case sc => exact sideB) | ((with_reducible refine br_t ?sc ?_); case sc => exact sideB))
      exact hK
    · have hb' : ¬ 15 < ls.getD i 0 := by simpa using hb
      have hg' : ∀ j, j < i + 1 → badU (ls.getD j 0) = false := by
        intro j hj
        by_cases e : j = i
        · subst e; simpa [badU] using hb'
        · exact hg j (by omega)
      repeat ((conv => whnf); first | with_reducible refine O_step ?_ | with_reducible refine S_step ?_ | with_reducible refine D_step ?_ | with_reducible refine RO.exit ?_ | with_reducible refine RO.ret ?_ | ((with_reducible refine And.intro ?sc ?_); case sc => exact side))
      refine And.intro (fun hd => ?_) (fun hd => ?_)
      · have hd' : 0 < ls.getD i 0 := by simpa using hd
        obtain ⟨a, ha⟩ : ∃ a : Nat, ls.getD i 0 = (a : Int) := ⟨(ls.getD i 0).toNat, by omega⟩
        have hga : ls.getD ((i : Int).toNat + 0) 0 = (a : Int) := ha
        have hsh : shrF .i64 32768 (ls.getD ((i : Int).toNat + 0) 0) = ((2 ^ (15 - a) : Nat) : Int) := by rw [hga]; exact shr_room a (by omega)
        have hpw : 2 ^ (15 - a) ≤ 2 ^ 15 := Nat.pow_le_pow_right (by omega) (by omega)
        have hpw2 : (2 ^ 15 : Nat) = 32768 := by decide
        rw [hpw2] at hpw
        have hsn : 0 ≤ ls.getD ((i : Int).toNat + 0) 0 := by rw [hga]; omega
        have hov : -9223372036854775808 ≤ (sumK ls i : Int) + shrF .i64 32768 (ls.getD ((i : Int).toNat + 0) 0) ∧ (sumK ls i : Int) + shrF .i64 32768 (ls.getD ((i : Int).toNat + 0) 0) ≤ 9223372036854775807 := by
          rw [hsh]
          generalize 2 ^ (15 - a) = z at *
          omega
        have e1 : sumK ls (i + 1) = sumK ls i + 2 ^ (15 - a) := by simp only [sumK, if_pos hd']; rw [ha, Int.toNat_natCast]
        have e2 : cntK ls (i + 1) = cntK ls i + 1 := by simp only [cntK, if_pos hd']
        repeat ((conv => whnf); first | with_reducible refine O_step ?_ | with_reducible refine S_step ?_ | with_reducible refine D_step ?_ | with_reducible refine RO.exit ?_ | with_reducible refine RO.ret ?_ | ((with_reducible refine And.intro ?sc ?_); case sc => exact side))
        refine RO.same (i + 1) ⟨by omega, hg'⟩ (show ls.length - (i + 1) < ls.length - i by omega) (And.intro rfl (And.intro ?_ (And.intro ?_ (And.intro rfl trivial)))) (And.intro rfl (trivial))
        · show AV.int .i64 ((sumK ls i : Int) + shrF .i64 32768 (ls.getD ((i : Int).toNat + 0) 0)) = AV.int .i64 (sumK ls (i + 1) : Int)
          rw [hsh, e1]; congr 1
        · show AV.int .i64 ((cntK ls i : Int) + 1) = AV.int .i64 (cntK ls (i + 1) : Int)
          rw [e2]; rfl
      · have hd' : ¬ 0 < ls.getD i 0 := by simpa using hd
        have e1 : sumK ls (i + 1) = sumK ls i := by simp only [sumK, if_neg hd', Nat.add_zero]
        have e2 : cntK ls (i + 1) = cntK ls i := by simp only [cntK, if_neg hd', Nat.add_zero]
        repeat ((conv => whnf); first | with_reducible refine O_step ?_ | with_reducible refine S_step ?_ | with_reducible refine D_step ?_ | with_reducible refine RO.exit ?_ | with_reducible refine RO.ret ?_ | ((with_reducible refine And.intro ?sc ?_); case sc => exact side))
        refine RO.same (i + 1) ⟨by omega, hg'⟩ (show ls.length - (i + 1) < ls.length - i by omega) (And.intro rfl (And.intro ?_ (And.intro ?_ (And.intro rfl trivial)))) (And.intro rfl (trivial))
        · show AV.int .i64 _ = AV.int .i64 (sumK ls (i + 1) : Int)
          rw [e1]
        · show AV.int .i64 _ = AV.int .i64 (cntK ls (i + 1) : Int)
          rw [e2]
  have hin : i = ls.length := by simp only [decide_eq_false_iff_not] at hc; omega
  subst hin
  have hb : badL ls = false := by
    unfold badL; rw [hd1]
    simp only [Bool.false_or, List.any_eq_false]
    intro x hx
    obtain ⟨j, hj, rfl⟩ := List.getElem_of_mem hx
    have := hg j hj
    rw [List.getD_eq_getElem?_getD, List.getElem?_eq_getElem hj] at this
    simpa using this
  repeat ((conv => whnf); first | with_reducible refine O_step ?_ | with_reducible refine S_step ?_ | with_reducible refine D_step ?_ | with_reducible refine RO.exit ?_ | with_reducible refine RO.ret ?_ | ((with_reducible refine And.intro ?sc ?_); case sc => exact side) | ((with_reducible refine br_f ?sc ?_); case sc => exact sideB) | ((with_reducible refine br_t ?sc ?_); case sc => exact sideB))
  refine And.intro (fun f1 => ?_) (fun f1 => ?_)
  · have f1' : (sumK ls ls.length : Int) = 32768 := by simpa using f1
    have hf : makesK ls = true := by unfold makesK; rw [show decide (sumK ls ls.length = 32768) = true by rw [decide_eq_true_eq]; omega]; rfl
    have e := eachE_ok hb hf
    rw [e] at hK
    repeat ((conv => whnf); first | with_reducible refine O_step ?_ | with_reducible refine S_step ?_ | with_reducible refine D_step ?_ | with_reducible refine RO.exit ?_ | with_reducible refine RO.ret ?_ | ((with_reducible refine And.intro ?sc ?_); case sc => exact side) | ((with_reducible refine br_f ?sc ?_); case sc => exact sideB) | ((with_reducible refine br_t ?sc ?_); case sc => exact sideB))
    exact hK
  have f1' : ¬ (sumK ls ls.length : Int) = 32768 := by simpa using f1
  repeat ((conv => whnf); first | with_reducible refine O_step ?_ | with_reducible refine S_step ?_ | with_reducible refine D_step ?_ | with_reducible refine RO.exit ?_ | with_reducible refine RO.ret ?_ | ((with_reducible refine And.intro ?sc ?_); case sc => exact side) | ((with_reducible refine br_f ?sc ?_); case sc => exact sideB) | ((with_reducible refine br_t ?sc ?_); case sc => exact sideB))
  refine And.intro (fun f2 => ?_) (fun f2 => ?_)
  · have f2' : (cntK ls ls.length : Int) = 0 := by simpa using f2
    have hf : makesK ls = true := by unfold makesK; rw [show decide (cntK ls ls.length = 0) = true by rw [decide_eq_true_eq]; omega]; simp
    have e := eachE_ok hb hf
    rw [e] at hK
    repeat ((conv => whnf); first | with_reducible refine O_step ?_ | with_reducible refine S_step ?_ | with_reducible refine D_step ?_ | with_reducible refine RO.exit ?_ | with_reducible refine RO.ret ?_ | ((with_reducible refine And.intro ?sc ?_); case sc => exact side) | ((with_reducible refine br_f ?sc ?_); case sc => exact sideB) | ((with_reducible refine br_t ?sc ?_); case sc => exact sideB))
    exact hK
  have f2' : ¬ (cntK ls ls.length : Int) = 0 := by simpa using f2
  repeat ((conv => whnf); first | with_reducible refine O_step ?_ | with_reducible refine S_step ?_ | with_reducible refine D_step ?_ | with_reducible refine RO.exit ?_ | with_reducible refine RO.ret ?_ | ((with_reducible refine And.intro ?sc ?_); case sc => exact side) | ((with_reducible refine br_f ?sc ?_); case sc => exact sideB) | ((with_reducible refine br_t ?sc ?_); case sc => exact sideB))
  refine And.intro (fun f3 => ?_) (fun f3 => ?_)
  · have f3' : (cntK ls ls.length : Int) = 1 := by simpa using f3
    repeat ((conv => whnf); first | with_reducible refine O_step ?_ | with_reducible refine S_step ?_ | with_reducible refine D_step ?_ | with_reducible refine RO.exit ?_ | with_reducible refine RO.ret ?_ | ((with_reducible refine And.intro ?sc ?_); case sc => exact side) | ((with_reducible refine br_f ?sc ?_); case sc => exact sideB) | ((with_reducible refine br_t ?sc ?_); case sc => exact sideB))
    refine And.intro (fun f4 => ?_) (fun f4 => ?_)
    · have f4' : (sumK ls ls.length : Int) = 16384 := by simpa using f4
      have hf : makesK ls = true := by unfold makesK; rw [show decide (cntK ls ls.length = 1) = true by rw [decide_eq_true_eq]; omega, show decide (sumK ls ls.length = 16384) = true by rw [decide_eq_true_eq]; omega]; simp
      have e := eachE_ok hb hf
      rw [e] at hK
      repeat ((conv => whnf); first | with_reducible refine O_step ?_ | with_reducible refine S_step ?_ | with_reducible refine D_step ?_ | with_reducible refine RO.exit ?_ | with_reducible refine RO.ret ?_ | ((with_reducible refine And.intro ?sc ?_); case sc => exact side) | ((with_reducible refine br_f ?sc ?_); case sc => exact sideB) | ((with_reducible refine br_t ?sc ?_); case sc => exact sideB))
      exact hK
    · have f4' : ¬ (sumK ls ls.length : Int) = 16384 := by simpa using f4
      have hf : makesK ls = false := by unfold makesK; rw [show decide (sumK ls ls.length = 32768) = false by rw [decide_eq_false_iff_not]; omega, show decide (cntK ls ls.length = 0) = false by rw [decide_eq_false_iff_not]; omega, show decide (sumK ls ls.length = 16384) = false by rw [decide_eq_false_iff_not]; omega]; simp
      have e := eachE_no hb hf
      rw [e] at hK
      repeat ((conv => whnf); first | with_reducible refine O_step ?_ | with_reducible refine S_step ?_ | with_reducible refine D_step ?_ | with_reducible refine RO.exit ?_ | with_reducible refine RO.ret ?_ | ((with_reducible refine And.intro ?sc ?_); case sc => exact side) | ((with_reducible refine br_f ?sc ?_); case sc => exact sideB) | ((with_reducible refine br_t ?sc ?_); case sc => exact sideB))
      exact hK
  · have f3' : ¬ (cntK ls ls.length : Int) = 1 := by simpa using f3
    have hf : makesK ls = false := by unfold makesK; rw [show decide (sumK ls ls.length = 32768) = false by rw [decide_eq_false_iff_not]; omega, show decide (cntK ls ls.length = 0) = false by rw [decide_eq_false_iff_not]; omega, show decide (cntK ls ls.length = 1) = false by rw [decide_eq_false_iff_not]; omega]; rfl
    have e := eachE_no hb hf
    rw [e] at hK
    repeat ((conv => whnf); first | with_reducible refine O_step ?_ | with_reducible refine S_step ?_ | with_reducible refine D_step ?_ | with_reducible refine RO.exit ?_ | with_reducible refine RO.ret ?_ | ((with_reducible refine And.intro ?sc ?_); case sc => exact side) | ((with_reducible refine br_f ?sc ?_); case sc => exact sideB) | ((with_reducible refine br_t ?sc ?_); case sc => exact sideB))
    exact hK
end

end Go.Proofs.Ytdnmbmnfglbfoaa
