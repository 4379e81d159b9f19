/- Layer 6: each; Codes; New. -/
import Derived.Test.YteinenklppbjkaaH9

set_option linter.unusedVariables false

set_option linter.unusedSimpArgs false

open Go.RowKit

namespace Go.Proofs.Yteinenklppbjkaa

set_option maxRecDepth 10000

theorem shl_room (a : Nat) (h : a ≤ 15) : shlF .i64 1 ((15 - (a : Int)) % 256) = ((2 ^ (15 - a) : Nat) : Int) := by
  have : ∀ a, a < 16 → shlF .i64 1 ((15 - ((a : Nat) : Int)) % 256) = ((2 ^ (15 - a) : Nat) : Int) := by decide
  exact this a (by omega)
theorem eachE_bad {ls : List Int} (h : badL ls = true) : eachE ls = 1 := by unfold eachE; rw [if_pos h]
theorem eachE_no {ls : List Int} (h : badL ls = false) (h2 : makesK ls = false) : eachE ls = 60 := by unfold eachE; rw [h, h2]; rfl
theorem eachE_ok {ls : List Int} (h : badL ls = false) (h2 : makesK ls = true) : eachE ls = 0 := by unfold eachE; rw [h, h2]; rfl
section

variable {ls : List Int} {c c0 : Nat} {K Kp : AV → AH → Prop}

theorem getD_memI' {l : List Int} {j : Nat} {d : Int} (h : j < l.length) : l.getD j d ∈ l := by
  rw [List.getD_eq_getElem?_getD, List.getElem?_eq_getElem h]; exact List.getElem_mem h
theorem eachC_call {o0 : List Int} {co : Nat} (hl : ls.length ≤ 2000) (hu : ∀ x ∈ ls, 0 ≤ x ∧ x < 256) (ho : ls.length ≤ 320 → o0.length = ls.length ∧ co = ls.length)
    (hK : K (.int .i64 (eachE ls)) (codH ls c co (if eachE ls = 0 then layC (tellS ls 15).2 o0 else o0))) :
    CallA Try.prog 44 [.sl 0 0 0 ls.length c0, .fn (.func 45) [] [.ptr 2 0 0]] (codH ls c co o0) K Kp := by
  refine step44 (fun _ => []) [] rfl ?_
  repeat ((conv => whnf); first | with_reducible refine O_step ?_ | with_reducible refine S_step ?_ | with_reducible refine D_step ?_ | with_reducible refine RO.exit ?_ | with_reducible refine RO.ret ?_ | ((with_reducible refine And.intro ?sc ?_); case sc => exact side) | ((with_reducible refine br_f ?sc ?_); case sc => exact sideB) | ((with_reducible refine br_t ?sc ?_); case sc => exact sideB))
  refine And.intro (fun b1 => ?_) (fun b1 => ?_)
  · have b1' : (320 : Int) < ls.length := by simpa using b1
    have hb : badL ls = true := by unfold badL; rw [show decide (320 < ls.length) = true by rw [decide_eq_true_eq]; omega]; rfl
    have e := eachE_bad hb
    rw [e] at hK
    repeat ((conv => whnf); first | with_reducible refine O_step ?_ | with_reducible refine S_step ?_ | with_reducible refine D_step ?_ | with_reducible refine RO.exit ?_ | with_reducible refine RO.ret ?_ | ((with_reducible refine And.intro ?sc ?_); case sc => exact side) | ((with_reducible refine br_f ?sc ?_); case sc => exact sideB) | ((with_reducible refine br_t ?sc ?_); case sc => exact sideB))
    exact hK
  have b1' : ¬ (320 : Int) < ls.length := by simpa using b1
  have hd1 : decide (320 < ls.length) = false := by rw [decide_eq_false_iff_not]; omega
  repeat ((conv => whnf); first | with_reducible refine O_step ?_ | with_reducible refine S_step ?_ | with_reducible refine D_step ?_ | with_reducible refine RO.exit ?_ | with_reducible refine RO.ret ?_ | ((with_reducible refine And.intro ?sc ?_); case sc => exact side) | ((with_reducible refine br_f ?sc ?_); case sc => exact sideB) | ((with_reducible refine br_t ?sc ?_); case sc => exact sideB))
  refine hasU_at (i := 0) (xs := ls) rfl rfl (by omega) ?_
  repeat ((conv => whnf); first | with_reducible refine O_step ?_ | with_reducible refine S_step ?_ | with_reducible refine D_step ?_ | with_reducible refine RO.exit ?_ | with_reducible refine RO.ret ?_ | ((with_reducible refine And.intro ?sc ?_); case sc => exact side) | ((with_reducible refine br_f ?sc ?_); case sc => exact sideB) | ((with_reducible refine br_t ?sc ?_); case sc => exact sideB))
  refine And.intro (fun b2 => ?_) (fun b2 => ?_)
  · have hb : badL ls = true := by unfold badL; rw [b2]; simp
    have e := eachE_bad hb
    rw [e] at hK
    repeat ((conv => whnf); first | with_reducible refine O_step ?_ | with_reducible refine S_step ?_ | with_reducible refine D_step ?_ | with_reducible refine RO.exit ?_ | with_reducible refine RO.ret ?_ | ((with_reducible refine And.intro ?sc ?_); case sc => exact side) | ((with_reducible refine br_f ?sc ?_); case sc => exact sideB) | ((with_reducible refine br_t ?sc ?_); case sc => exact sideB))
    exact hK
  have hb : badL ls = false := by unfold badL; rw [b2, hd1]; rfl
  have h15 : ∀ i, i < ls.length → 0 ≤ ls.getD i 0 ∧ ls.getD i 0 ≤ 15 := by
    intro i hi
    have hm : ls.getD i 0 ∈ ls := getD_memI' hi
    have h1 := List.any_eq_false.1 b2 _ hm
    have h2 := hu _ hm
    simp only [badU, decide_eq_true_eq] at h1
    omega
  repeat ((conv => whnf); first | with_reducible refine O_step ?_ | with_reducible refine S_step ?_ | with_reducible refine D_step ?_ | with_reducible refine RO.exit ?_ | with_reducible refine RO.ret ?_ | ((with_reducible refine And.intro ?sc ?_); case sc => exact side))
  refine WO.go (σ := Nat) (fun i => i ≤ ls.length) (fun i => ls.length - i)
    (fun i => [(0, .sl 0 0 0 ls.length c0), (1, .fn (.func 45) [] [.ptr 2 0 0]), (5, .int .i64 (32768 - (sumK ls i : Int))), (6, .int .i64 (cntK ls i : Int)), (20, .sl 0 0 0 ls.length c0), (21, .int .i64 ls.length), (22, .int .i64 (i : Int))])
    (fun _ => codH ls c co o0) 0 tb_ok mixed (by kernel_rfl) (Nat.zero_le _) (And.intro rfl (And.intro rfl (And.intro rfl (And.intro rfl (And.intro rfl (And.intro rfl (And.intro rfl (trivial)))))))) (And.intro rfl (And.intro rfl (And.intro rfl (trivial)))) (fun _ => rfl) (fun _ => rfl) (fun _ => ⟨trivial, trivial, rfl, trivial⟩) ?_
  intro i hi d
  have hi : i ≤ ls.length := hi
  have hs1 := sumK_le ls i
  have hc1 := cntK_le ls i
  repeat ((conv => whnf); first | with_reducible refine O_step ?_ | with_reducible refine S_step ?_ | with_reducible refine D_step ?_ | with_reducible refine RO.exit ?_ | with_reducible refine RO.ret ?_ | ((with_reducible refine And.intro ?sc ?_); case sc => exact side))
  refine And.intro (fun hc => ?_) (fun hc => ?_)
  · simp only [decide_eq_true_eq] at hc
    obtain ⟨l1, l2⟩ := h15 i (by omega)
    repeat ((conv => whnf); first | with_reducible refine O_step ?_ | with_reducible refine S_step ?_ | with_reducible refine D_step ?_ | with_reducible refine RO.exit ?_ | with_reducible refine RO.ret ?_ | ((with_reducible refine And.intro ?sc ?_); case sc => exact side))
    refine And.intro (fun hd => ?_) (fun hd => ?_)
    · have hd' : 0 < ls.getD i 0 := by simpa using hd
      obtain ⟨a, ha⟩ : ∃ a : Nat, ls.getD i 0 = (a : Int) := ⟨(ls.getD i 0).toNat, by omega⟩
      have hg : ls.getD ((i : Int).toNat + 0) 0 = (a : Int) := ha
      have hsh : shlF .i64 1 ((15 - ls.getD ((i : Int).toNat + 0) 0) % 256) = ((2 ^ (15 - a) : Nat) : Int) := by rw [hg]; exact shl_room a (by omega)
      have hpw : 2 ^ (15 - a) ≤ 2 ^ 15 := Nat.pow_le_pow_right (by omega) (by omega)
      have hpw2 : (2 ^ 15 : Nat) = 32768 := by decide
      rw [hpw2] at hpw
      have hov : -9223372036854775808 ≤ 32768 - (sumK ls i : Int) - shlF .i64 1 ((15 - ls.getD ((i : Int).toNat + 0) 0) % 256) ∧ 32768 - (sumK ls i : Int) - shlF .i64 1 ((15 - ls.getD ((i : Int).toNat + 0) 0) % 256) ≤ 9223372036854775807 := by
        rw [hsh]
        generalize 2 ^ (15 - a) = z at *
        omega
      have e1 : sumK ls (i + 1) = sumK ls i + 2 ^ (15 - a) := by simp only [sumK, if_pos hd']; rw [ha, Int.toNat_natCast]
      have e2 : cntK ls (i + 1) = cntK ls i + 1 := by simp only [cntK, if_pos hd']
      repeat ((conv => whnf); first | with_reducible refine O_step ?_ | with_reducible refine S_step ?_ | with_reducible refine D_step ?_ | with_reducible refine RO.exit ?_ | with_reducible refine RO.ret ?_ | ((with_reducible refine And.intro ?sc ?_); case sc => exact side))
      refine RO.same (i + 1) (by show i + 1 ≤ _; omega) (show ls.length - (i + 1) < ls.length - i by omega) (And.intro rfl (And.intro rfl (And.intro ?_ (And.intro ?_ (And.intro rfl (And.intro rfl (And.intro rfl (trivial)))))))) (And.intro rfl (And.intro rfl (And.intro rfl (trivial))))
      · show AV.int .i64 (32768 - (sumK ls i : Int) - shlF .i64 1 ((15 - ls.getD ((i : Int).toNat + 0) 0) % 256)) = AV.int .i64 (32768 - (sumK ls (i + 1) : Int))
        rw [hsh, e1]; congr 1; push_cast; omega
      · show AV.int .i64 ((cntK ls i : Int) + 1) = AV.int .i64 (cntK ls (i + 1) : Int)
        rw [e2]; rfl
    · have hd' : ¬ 0 < ls.getD i 0 := by simpa using hd
      have e1 : sumK ls (i + 1) = sumK ls i := by simp only [sumK, if_neg hd', Nat.add_zero]
      have e2 : cntK ls (i + 1) = cntK ls i := by simp only [cntK, if_neg hd', Nat.add_zero]
      repeat ((conv => whnf); first | with_reducible refine O_step ?_ | with_reducible refine S_step ?_ | with_reducible refine D_step ?_ | with_reducible refine RO.exit ?_ | with_reducible refine RO.ret ?_ | ((with_reducible refine And.intro ?sc ?_); case sc => exact side))
      refine RO.same (i + 1) (by show i + 1 ≤ _; omega) (show ls.length - (i + 1) < ls.length - i by omega) (And.intro rfl (And.intro rfl (And.intro ?_ (And.intro ?_ (And.intro rfl (And.intro rfl (And.intro rfl (trivial)))))))) (And.intro rfl (And.intro rfl (And.intro rfl (trivial))))
      · show AV.int .i64 _ = AV.int .i64 (32768 - (sumK ls (i + 1) : Int))
        rw [e1]
      · show AV.int .i64 _ = AV.int .i64 (cntK ls (i + 1) : Int)
        rw [e2]
  have hin : i = ls.length := by simp only [decide_eq_false_iff_not] at hc; omega
  subst hin
  repeat ((conv => whnf); first | with_reducible refine O_step ?_ | with_reducible refine S_step ?_ | with_reducible refine D_step ?_ | with_reducible refine RO.exit ?_ | with_reducible refine RO.ret ?_ | ((with_reducible refine And.intro ?sc ?_); case sc => exact side) | ((with_reducible refine br_f ?sc ?_); case sc => exact sideB) | ((with_reducible refine br_t ?sc ?_); case sc => exact sideB))
  refine And.intro (fun f1 => ?_) (fun f1 => ?_)
  · have f1' : ¬ 32768 - (sumK ls ls.length : Int) = 0 := by simpa using f1
    repeat ((conv => whnf); first | with_reducible refine O_step ?_ | with_reducible refine S_step ?_ | with_reducible refine D_step ?_ | with_reducible refine RO.exit ?_ | with_reducible refine RO.ret ?_ | ((with_reducible refine And.intro ?sc ?_); case sc => exact side) | ((with_reducible refine br_f ?sc ?_); case sc => exact sideB) | ((with_reducible refine br_t ?sc ?_); case sc => exact sideB))
    refine And.intro (fun f2 => ?_) (fun f2 => ?_)
    · have f2' : (0 : Int) < (cntK ls ls.length : Int) := by simpa using f2
      repeat ((conv => whnf); first | with_reducible refine O_step ?_ | with_reducible refine S_step ?_ | with_reducible refine D_step ?_ | with_reducible refine RO.exit ?_ | with_reducible refine RO.ret ?_ | ((with_reducible refine And.intro ?sc ?_); case sc => exact side) | ((with_reducible refine br_f ?sc ?_); case sc => exact sideB) | ((with_reducible refine br_t ?sc ?_); case sc => exact sideB))
      refine And.intro (fun f3 => ?_) (fun f3 => ?_)
      · have f3' : (1 : Int) < (cntK ls ls.length : Int) := by simpa using f3
        have hf : makesK ls = false := by
          unfold makesK
          rw [show decide (sumK ls ls.length = 32768) = false by rw [decide_eq_false_iff_not]; omega, show decide (cntK ls ls.length = 0) = false by rw [decide_eq_false_iff_not]; omega, show decide (cntK ls ls.length = 1) = false by rw [decide_eq_false_iff_not]; omega]; rfl
        have e := eachE_no hb hf
        rw [e] at hK
        repeat ((conv => whnf); first | with_reducible refine O_step ?_ | with_reducible refine S_step ?_ | with_reducible refine D_step ?_ | with_reducible refine RO.exit ?_ | with_reducible refine RO.ret ?_ | ((with_reducible refine And.intro ?sc ?_); case sc => exact side) | ((with_reducible refine br_f ?sc ?_); case sc => exact sideB) | ((with_reducible refine br_t ?sc ?_); case sc => exact sideB))
        exact hK
      · have f3' : ¬ (1 : Int) < (cntK ls ls.length : Int) := by simpa using f3
        repeat ((conv => whnf); first | with_reducible refine O_step ?_ | with_reducible refine S_step ?_ | with_reducible refine D_step ?_ | with_reducible refine RO.exit ?_ | with_reducible refine RO.ret ?_ | ((with_reducible refine And.intro ?sc ?_); case sc => exact side) | ((with_reducible refine br_f ?sc ?_); case sc => exact sideB) | ((with_reducible refine br_t ?sc ?_); case sc => exact sideB))
        refine And.intro (fun f4 => ?_) (fun f4 => ?_)
        · have f4' : ¬ 32768 - (sumK ls ls.length : Int) = 16384 := by simpa using f4
          have hf : makesK ls = false := by
            unfold makesK
            rw [show decide (sumK ls ls.length = 32768) = false by rw [decide_eq_false_iff_not]; omega, show decide (cntK ls ls.length = 0) = false by rw [decide_eq_false_iff_not]; omega, show decide (sumK ls ls.length = 16384) = false by rw [decide_eq_false_iff_not]; omega]; simp
          have e := eachE_no hb hf
          rw [e] at hK
          repeat ((conv => whnf); first | with_reducible refine O_step ?_ | with_reducible refine S_step ?_ | with_reducible refine D_step ?_ | with_reducible refine RO.exit ?_ | with_reducible refine RO.ret ?_ | ((with_reducible refine And.intro ?sc ?_); case sc => exact side) | ((with_reducible refine br_f ?sc ?_); case sc => exact sideB) | ((with_reducible refine br_t ?sc ?_); case sc => exact sideB))
          exact hK
        · have f4' : 32768 - (sumK ls ls.length : Int) = 16384 := by simpa using f4
          have hf : makesK ls = true := by
            unfold makesK
            rw [show decide (cntK ls ls.length = 1) = true by rw [decide_eq_true_eq]; omega, show decide (sumK ls ls.length = 16384) = true by rw [decide_eq_true_eq]; omega]; simp
          have e := eachE_ok hb hf
          rw [e] at hK
          rw [if_pos rfl] at hK
          have hl3 : ls.length ≤ 320 := by omega
          repeat ((conv => whnf); first | with_reducible refine O_step ?_ | with_reducible refine S_step ?_ | with_reducible refine D_step ?_ | with_reducible refine RO.exit ?_ | with_reducible refine RO.ret ?_ | ((with_reducible refine And.intro ?sc ?_); case sc => exact side))
          refine WO.go (σ := Nat × Nat × List (Nat × Nat × Nat)) (fun s => s.1 ≤ 15 ∧ s.2 = tellS ls s.1) (fun s => 15 - s.1)
            (fun s => [(0, .sl 0 0 0 ls.length c0), (1, .fn (.func 45) [] [.ptr 2 0 0]), (9, .int .i64 (s.2.1 : Int)), (10, .int .i64 ((s.1 : Int) + 1))])
            (fun s => codH ls c co (layC s.2.2 o0)) (0, 0, []) tb_ok mixed (by kernel_rfl) ⟨Nat.zero_le _, rfl⟩ (And.intro rfl (And.intro rfl (And.intro rfl (And.intro rfl (trivial))))) (And.intro rfl (And.intro rfl (And.intro rfl (trivial)))) (fun _ => rfl) (fun _ => rfl) (fun s => ⟨trivial, trivial, rfl, trivial⟩) ?_
          rintro ⟨n, x⟩ ⟨n1, n2⟩ d
          simp only at n1 n2
          have hxb := tellS_le ls n
          rw [← n2] at hxb
          have hp : 2 ^ n ≤ 2 ^ 15 := Nat.pow_le_pow_right (by omega) n1
          have hpm : 2 ^ n * ls.length ≤ 2 ^ 15 * 320 := Nat.mul_le_mul hp hl3
          have hpe : (2 ^ 15 * 320 : Nat) = 10485760 := by decide
          rw [hpe] at hpm
          have hx1 : x.1 ≤ 10485760 := by omega
          repeat ((conv => whnf); first | with_reducible refine O_step ?_ | with_reducible refine S_step ?_ | with_reducible refine D_step ?_ | with_reducible refine RO.exit ?_ | with_reducible refine RO.ret ?_ | ((with_reducible refine And.intro ?sc ?_); case sc => exact side))
          refine And.intro (fun hn => ?_) (fun hn => ?_)
          · have hn' : (n : Int) + 1 ≤ 15 := by simpa using hn
            have hsh2 : shlF .i64 (x.1 : Int) 1 = ((2 * x.1 : Nat) : Int) := shl64_1 (by omega)
            repeat ((conv => whnf); first | with_reducible refine O_step ?_ | with_reducible refine S_step ?_ | with_reducible refine D_step ?_ | with_reducible refine RO.exit ?_ | with_reducible refine RO.ret ?_ | ((with_reducible refine And.intro ?sc ?_); case sc => exact side))
            refine WO.go (σ := Nat × Nat × List (Nat × Nat × Nat)) (fun s => s.1 ≤ ls.length ∧ s.2 = rowS ls (n + 1) s.1 (2 * x.1, x.2)) (fun s => ls.length - s.1)
              (fun s => [(0, .sl 0 0 0 ls.length c0), (1, .fn (.func 45) [] [.ptr 2 0 0]), (9, .int .i64 (s.2.1 : Int)), (10, .int .i64 ((n : Int) + 1)), (56, .sl 0 0 0 ls.length c0), (57, .int .i64 ls.length), (58, .int .i64 (s.1 : Int))])
              (fun s => codH ls c co (layC s.2.2 o0)) (0, 2 * x.1, x.2) tb_ok mixed (by kernel_rfl) ⟨Nat.zero_le _, rfl⟩ (And.intro rfl (And.intro rfl (And.intro ?_ (And.intro rfl (And.intro rfl (And.intro rfl (And.intro rfl (trivial)))))))) (And.intro rfl (And.intro rfl (And.intro rfl (trivial)))) (fun _ => rfl) (fun _ => rfl) (fun s => ⟨trivial, trivial, rfl, trivial⟩) ?_
            · show AV.int .i64 (shlF .i64 (x.1 : Int) 1) = AV.int .i64 ((2 * x.1 : Nat) : Int)
              rw [hsh2]
            rintro ⟨i, y⟩ ⟨i1, i2⟩ d
            simp only at i1 i2
            have hyb := rowS_le ls (n + 1) (2 * x.1, x.2) i
            rw [← i2] at hyb
            have hy1 : y.1 ≤ 2 * x.1 + i := hyb
            have hy2 : y.1 < 2 ^ 30 := by omega
            repeat ((conv => whnf); first | with_reducible refine O_step ?_ | with_reducible refine S_step ?_ | with_reducible refine D_step ?_ | with_reducible refine RO.exit ?_ | with_reducible refine RO.ret ?_ | ((with_reducible refine And.intro ?sc ?_); case sc => exact side))
            refine And.intro (fun hi => ?_) (fun hi => ?_)
            · simp only [decide_eq_true_eq] at hi
              have hi' : i < ls.length := by omega
              have hlr : -9223372036854775808 ≤ ls.getD ((i : Int).toNat + 0) 0 ∧ ls.getD ((i : Int).toNat + 0) 0 ≤ 9223372036854775807 := by
                have := h15 i hi'
                rw [Int.toNat_natCast, Nat.add_zero]; omega
              repeat ((conv => whnf); first | with_reducible refine O_step ?_ | with_reducible refine S_step ?_ | with_reducible refine D_step ?_ | with_reducible refine RO.exit ?_ | with_reducible refine RO.ret ?_ | ((with_reducible refine And.intro ?sc ?_); case sc => exact side))
              refine And.intro (fun hk => ?_) (fun hk => ?_)
              · have hk' : ls.getD i 0 = ((n + 1 : Nat) : Int) := by simpa using hk
                repeat ((conv => whnf); first | with_reducible refine O_step ?_ | with_reducible refine S_step ?_ | with_reducible refine D_step ?_ | with_reducible refine RO.exit ?_ | with_reducible refine RO.ret ?_ | ((with_reducible refine And.intro ?sc ?_); case sc => exact side))
                refine codes1_call (s := i) (code := y.1) (n := n + 1) (by rw [layC_len, (ho hl3).1]; omega) (by rw [layC_len, (ho hl3).1, (ho hl3).2]) (by rw [(ho hl3).2]; omega) hy2 (by omega) ?_
                rw [← layC_snoc y.2 (i, y.1, n + 1)]
                repeat ((conv => whnf); first | with_reducible refine O_step ?_ | with_reducible refine S_step ?_ | with_reducible refine D_step ?_ | with_reducible refine RO.exit ?_ | with_reducible refine RO.ret ?_ | ((with_reducible refine And.intro ?sc ?_); case sc => exact side))
                refine RO.same (i + 1, y.1 + 1, y.2 ++ [(i, y.1, n + 1)]) ⟨by show i + 1 ≤ _; omega, ?_⟩ (show ls.length - (i + 1) < ls.length - i by omega) (And.intro rfl (And.intro rfl (And.intro rfl (And.intro rfl (And.intro rfl (And.intro rfl (And.intro rfl (trivial)))))))) (And.intro rfl (And.intro rfl (And.intro rfl (trivial))))
                show _ = rowS ls (n + 1) (i + 1) (2 * x.1, x.2)
                rw [rowS_succ, ← i2]
                unfold stepS
                rw [if_pos hk']
              · have hk' : ¬ ls.getD i 0 = ((n + 1 : Nat) : Int) := by simpa using hk
                repeat ((conv => whnf); first | with_reducible refine O_step ?_ | with_reducible refine S_step ?_ | with_reducible refine D_step ?_ | with_reducible refine RO.exit ?_ | with_reducible refine RO.ret ?_ | ((with_reducible refine And.intro ?sc ?_); case sc => exact side))
                refine RO.same (i + 1, y) ⟨by show i + 1 ≤ _; omega, ?_⟩ (show ls.length - (i + 1) < ls.length - i by omega) (And.intro rfl (And.intro rfl (And.intro rfl (And.intro rfl (And.intro rfl (And.intro rfl (And.intro rfl (trivial)))))))) (And.intro rfl (And.intro rfl (And.intro rfl (trivial))))
                show _ = rowS ls (n + 1) (i + 1) (2 * x.1, x.2)
                rw [rowS_succ, ← i2]
                unfold stepS
                rw [if_neg hk']
            · have hi' : i = ls.length := by simp only [decide_eq_false_iff_not] at hi; omega
              repeat ((conv => whnf); first | with_reducible refine O_step ?_ | with_reducible refine S_step ?_ | with_reducible refine D_step ?_ | with_reducible refine RO.exit ?_ | with_reducible refine RO.ret ?_ | ((with_reducible refine And.intro ?sc ?_); case sc => exact side))
              refine RO.same (n + 1, y) ⟨by show n + 1 ≤ 15; omega, ?_⟩ (show 15 - (n + 1) < 15 - n by omega) (And.intro rfl (And.intro rfl (And.intro rfl (And.intro rfl (trivial))))) (And.intro rfl (And.intro rfl (And.intro rfl (trivial))))
              show y = rowS ls (n + 1) ls.length (2 * (tellS ls n).1, (tellS ls n).2)
              rw [i2, hi', n2]
          · have hn' : ¬ (n : Int) + 1 ≤ 15 := by simpa using hn
            have hn15 : n = 15 := by omega
            subst hn15
            rw [← n2] at hK
            repeat ((conv => whnf); first | with_reducible refine O_step ?_ | with_reducible refine S_step ?_ | with_reducible refine D_step ?_ | with_reducible refine RO.exit ?_ | with_reducible refine RO.ret ?_ | ((with_reducible refine And.intro ?sc ?_); case sc => exact side))
            exact hK
    · have f2' : ¬ (0 : Int) < (cntK ls ls.length : Int) := by simpa using f2
      have hf : makesK ls = true := by
        unfold makesK
        rw [show decide (cntK ls ls.length = 0) = true by rw [decide_eq_true_eq]; omega]; simp
      have e := eachE_ok hb hf
      rw [e] at hK
      rw [if_pos rfl] at hK
      have hl3 : ls.length ≤ 320 := by omega
      repeat ((conv => whnf); first | with_reducible refine O_step ?_ | with_reducible refine S_step ?_ | with_reducible refine D_step ?_ | with_reducible refine RO.exit ?_ | with_reducible refine RO.ret ?_ | ((with_reducible refine And.intro ?sc ?_); case sc => exact side))
      refine WO.go (σ := Nat × Nat × List (Nat × Nat × Nat)) (fun s => s.1 ≤ 15 ∧ s.2 = tellS ls s.1) (fun s => 15 - s.1)
        (fun s => [(0, .sl 0 0 0 ls.length c0), (1, .fn (.func 45) [] [.ptr 2 0 0]), (9, .int .i64 (s.2.1 : Int)), (10, .int .i64 ((s.1 : Int) + 1))])
        (fun s => codH ls c co (layC s.2.2 o0)) (0, 0, []) tb_ok mixed (by kernel_rfl) ⟨Nat.zero_le _, rfl⟩ (And.intro rfl (And.intro rfl (And.intro rfl (And.intro rfl (trivial))))) (And.intro rfl (And.intro rfl (And.intro rfl (trivial)))) (fun _ => rfl) (fun _ => rfl) (fun s => ⟨trivial, trivial, rfl, trivial⟩) ?_
      rintro ⟨n, x⟩ ⟨n1, n2⟩ d
      simp only at n1 n2
      have hxb := tellS_le ls n
      rw [← n2] at hxb
      have hp : 2 ^ n ≤ 2 ^ 15 := Nat.pow_le_pow_right (by omega) n1
      have hpm : 2 ^ n * ls.length ≤ 2 ^ 15 * 320 := Nat.mul_le_mul hp hl3
      have hpe : (2 ^ 15 * 320 : Nat) = 10485760 := by decide
      rw [hpe] at hpm
      have hx1 : x.1 ≤ 10485760 := by omega
      repeat ((conv => whnf); first | with_reducible refine O_step ?_ | with_reducible refine S_step ?_ | with_reducible refine D_step ?_ | with_reducible refine RO.exit ?_ | with_reducible refine RO.ret ?_ | ((with_reducible refine And.intro ?sc ?_); case sc => exact side))
      refine And.intro (fun hn => ?_) (fun hn => ?_)
      · have hn' : (n : Int) + 1 ≤ 15 := by simpa using hn
        have hsh2 : shlF .i64 (x.1 : Int) 1 = ((2 * x.1 : Nat) : Int) := shl64_1 (by omega)
        repeat ((conv => whnf); first | with_reducible refine O_step ?_ | with_reducible refine S_step ?_ | with_reducible refine D_step ?_ | with_reducible refine RO.exit ?_ | with_reducible refine RO.ret ?_ | ((with_reducible refine And.intro ?sc ?_); case sc => exact side))
        refine WO.go (σ := Nat × Nat × List (Nat × Nat × Nat)) (fun s => s.1 ≤ ls.length ∧ s.2 = rowS ls (n + 1) s.1 (2 * x.1, x.2)) (fun s => ls.length - s.1)
          (fun s => [(0, .sl 0 0 0 ls.length c0), (1, .fn (.func 45) [] [.ptr 2 0 0]), (9, .int .i64 (s.2.1 : Int)), (10, .int .i64 ((n : Int) + 1)), (56, .sl 0 0 0 ls.length c0), (57, .int .i64 ls.length), (58, .int .i64 (s.1 : Int))])
          (fun s => codH ls c co (layC s.2.2 o0)) (0, 2 * x.1, x.2) tb_ok mixed (by kernel_rfl) ⟨Nat.zero_le _, rfl⟩ (And.intro rfl (And.intro rfl (And.intro ?_ (And.intro rfl (And.intro rfl (And.intro rfl (And.intro rfl (trivial)))))))) (And.intro rfl (And.intro rfl (And.intro rfl (trivial)))) (fun _ => rfl) (fun _ => rfl) (fun s => ⟨trivial, trivial, rfl, trivial⟩) ?_
        · show AV.int .i64 (shlF .i64 (x.1 : Int) 1) = AV.int .i64 ((2 * x.1 : Nat) : Int)
          rw [hsh2]
        rintro ⟨i, y⟩ ⟨i1, i2⟩ d
        simp only at i1 i2
        have hyb := rowS_le ls (n + 1) (2 * x.1, x.2) i
        rw [← i2] at hyb
        have hy1 : y.1 ≤ 2 * x.1 + i := hyb
        have hy2 : y.1 < 2 ^ 30 := by omega
        repeat ((conv => whnf); first | with_reducible refine O_step ?_ | with_reducible refine S_step ?_ | with_reducible refine D_step ?_ | with_reducible refine RO.exit ?_ | with_reducible refine RO.ret ?_ | ((with_reducible refine And.intro ?sc ?_); case sc => exact side))
        refine And.intro (fun hi => ?_) (fun hi => ?_)
        · simp only [decide_eq_true_eq] at hi
          have hi' : i < ls.length := by omega
          have hlr : -9223372036854775808 ≤ ls.getD ((i : Int).toNat + 0) 0 ∧ ls.getD ((i : Int).toNat + 0) 0 ≤ 9223372036854775807 := by
            have := h15 i hi'
            rw [Int.toNat_natCast, Nat.add_zero]; omega
          repeat ((conv => whnf); first | with_reducible refine O_step ?_ | with_reducible refine S_step ?_ | with_reducible refine D_step ?_ | with_reducible refine RO.exit ?_ | with_reducible refine RO.ret ?_ | ((with_reducible refine And.intro ?sc ?_); case sc => exact side))
          refine And.intro (fun hk => ?_) (fun hk => ?_)
          · have hk' : ls.getD i 0 = ((n + 1 : Nat) : Int) := by simpa using hk
            repeat ((conv => whnf); first | with_reducible refine O_step ?_ | with_reducible refine S_step ?_ | with_reducible refine D_step ?_ | with_reducible refine RO.exit ?_ | with_reducible refine RO.ret ?_ | ((with_reducible refine And.intro ?sc ?_); case sc => exact side))
            refine codes1_call (s := i) (code := y.1) (n := n + 1) (by rw [layC_len, (ho hl3).1]; omega) (by rw [layC_len, (ho hl3).1, (ho hl3).2]) (by rw [(ho hl3).2]; omega) hy2 (by omega) ?_
            rw [← layC_snoc y.2 (i, y.1, n + 1)]
            repeat ((conv => whnf); first | with_reducible refine O_step ?_ | with_reducible refine S_step ?_ | with_reducible refine D_step ?_ | with_reducible refine RO.exit ?_ | with_reducible refine RO.ret ?_ | ((with_reducible refine And.intro ?sc ?_); case sc => exact side))
            refine RO.same (i + 1, y.1 + 1, y.2 ++ [(i, y.1, n + 1)]) ⟨by show i + 1 ≤ _; omega, ?_⟩ (show ls.length - (i + 1) < ls.length - i by omega) (And.intro rfl (And.intro rfl (And.intro rfl (And.intro rfl (And.intro rfl (And.intro rfl (And.intro rfl (trivial)))))))) (And.intro rfl (And.intro rfl (And.intro rfl (trivial))))
            show _ = rowS ls (n + 1) (i + 1) (2 * x.1, x.2)
            rw [rowS_succ, ← i2]
            unfold stepS
            rw [if_pos hk']
          · have hk' : ¬ ls.getD i 0 = ((n + 1 : Nat) : Int) := by simpa using hk
            repeat ((conv => whnf); first | with_reducible refine O_step ?_ | with_reducible refine S_step ?_ | with_reducible refine D_step ?_ | with_reducible refine RO.exit ?_ | with_reducible refine RO.ret ?_ | ((with_reducible refine And.intro ?sc ?_); case sc => exact side))
            refine RO.same (i + 1, y) ⟨by show i + 1 ≤ _; omega, ?_⟩ (show ls.length - (i + 1) < ls.length - i by omega) (And.intro rfl (And.intro rfl (And.intro rfl (And.intro rfl (And.intro rfl (And.intro rfl (And.intro rfl (trivial)))))))) (And.intro rfl (And.intro rfl (And.intro rfl (trivial))))
            show _ = rowS ls (n + 1) (i + 1) (2 * x.1, x.2)
            rw [rowS_succ, ← i2]
            unfold stepS
            rw [if_neg hk']
        · have hi' : i = ls.length := by simp only [decide_eq_false_iff_not] at hi; omega
          repeat ((conv => whnf); first | with_reducible refine O_step ?_ | with_reducible refine S_step ?_ | with_reducible refine D_step ?_ | with_reducible refine RO.exit ?_ | with_reducible refine RO.ret ?_ | ((with_reducible refine And.intro ?sc ?_); case sc => exact side))
          refine RO.same (n + 1, y) ⟨by show n + 1 ≤ 15; omega, ?_⟩ (show 15 - (n + 1) < 15 - n by omega) (And.intro rfl (And.intro rfl (And.intro rfl (And.intro rfl (trivial))))) (And.intro rfl (And.intro rfl (And.intro rfl (trivial))))
          show y = rowS ls (n + 1) ls.length (2 * (tellS ls n).1, (tellS ls n).2)
          rw [i2, hi', n2]
      · have hn' : ¬ (n : Int) + 1 ≤ 15 := by simpa using hn
        have hn15 : n = 15 := by omega
        subst hn15
        rw [← n2] at hK
        repeat ((conv => whnf); first | with_reducible refine O_step ?_ | with_reducible refine S_step ?_ | with_reducible refine D_step ?_ | with_reducible refine RO.exit ?_ | with_reducible refine RO.ret ?_ | ((with_reducible refine And.intro ?sc ?_); case sc => exact side))
        exact hK
  · have f1' : 32768 - (sumK ls ls.length : Int) = 0 := by simpa using f1
    have hf : makesK ls = true := by
      unfold makesK
      rw [show decide (sumK ls ls.length = 32768) = true by rw [decide_eq_true_eq]; omega]; rfl
    have e := eachE_ok hb hf
    rw [e] at hK
    rw [if_pos rfl] at hK
    have hl3 : ls.length ≤ 320 := by omega
    repeat ((conv => whnf); first | with_reducible refine O_step ?_ | with_reducible refine S_step ?_ | with_reducible refine D_step ?_ | with_reducible refine RO.exit ?_ | with_reducible refine RO.ret ?_ | ((with_reducible refine And.intro ?sc ?_); case sc => exact side))
    refine WO.go (σ := Nat × Nat × List (Nat × Nat × Nat)) (fun s => s.1 ≤ 15 ∧ s.2 = tellS ls s.1) (fun s => 15 - s.1)
      (fun s => [(0, .sl 0 0 0 ls.length c0), (1, .fn (.func 45) [] [.ptr 2 0 0]), (9, .int .i64 (s.2.1 : Int)), (10, .int .i64 ((s.1 : Int) + 1))])
      (fun s => codH ls c co (layC s.2.2 o0)) (0, 0, []) tb_ok mixed (by kernel_rfl) ⟨Nat.zero_le _, rfl⟩ (And.intro rfl (And.intro rfl (And.intro rfl (And.intro rfl (trivial))))) (And.intro rfl (And.intro rfl (And.intro rfl (trivial)))) (fun _ => rfl) (fun _ => rfl) (fun s => ⟨trivial, trivial, rfl, trivial⟩) ?_
    rintro ⟨n, x⟩ ⟨n1, n2⟩ d
    simp only at n1 n2
    have hxb := tellS_le ls n
    rw [← n2] at hxb
    have hp : 2 ^ n ≤ 2 ^ 15 := Nat.pow_le_pow_right (by omega) n1
    have hpm : 2 ^ n * ls.length ≤ 2 ^ 15 * 320 := Nat.mul_le_mul hp hl3
    have hpe : (2 ^ 15 * 320 : Nat) = 10485760 := by decide
    rw [hpe] at hpm
    have hx1 : x.1 ≤ 10485760 := by omega
    repeat ((conv => whnf); first | with_reducible refine O_step ?_ | with_reducible refine S_step ?_ | with_reducible refine D_step ?_ | with_reducible refine RO.exit ?_ | with_reducible refine RO.ret ?_ | ((with_reducible refine And.intro ?sc ?_); case sc => exact side))
    refine And.intro (fun hn => ?_) (fun hn => ?_)
    · have hn' : (n : Int) + 1 ≤ 15 := by simpa using hn
      have hsh2 : shlF .i64 (x.1 : Int) 1 = ((2 * x.1 : Nat) : Int) := shl64_1 (by omega)
      repeat ((conv => whnf); first | with_reducible refine O_step ?_ | with_reducible refine S_step ?_ | with_reducible refine D_step ?_ | with_reducible refine RO.exit ?_ | with_reducible refine RO.ret ?_ | ((with_reducible refine And.intro ?sc ?_); case sc => exact side))
      refine WO.go (σ := Nat × Nat × List (Nat × Nat × Nat)) (fun s => s.1 ≤ ls.length ∧ s.2 = rowS ls (n + 1) s.1 (2 * x.1, x.2)) (fun s => ls.length - s.1)
        (fun s => [(0, .sl 0 0 0 ls.length c0), (1, .fn (.func 45) [] [.ptr 2 0 0]), (9, .int .i64 (s.2.1 : Int)), (10, .int .i64 ((n : Int) + 1)), (56, .sl 0 0 0 ls.length c0), (57, .int .i64 ls.length), (58, .int .i64 (s.1 : Int))])
        (fun s => codH ls c co (layC s.2.2 o0)) (0, 2 * x.1, x.2) tb_ok mixed (by kernel_rfl) ⟨Nat.zero_le _, rfl⟩ (And.intro rfl (And.intro rfl (And.intro ?_ (And.intro rfl (And.intro rfl (And.intro rfl (And.intro rfl (trivial)))))))) (And.intro rfl (And.intro rfl (And.intro rfl (trivial)))) (fun _ => rfl) (fun _ => rfl) (fun s => ⟨trivial, trivial, rfl, trivial⟩) ?_
      · show AV.int .i64 (shlF .i64 (x.1 : Int) 1) = AV.int .i64 ((2 * x.1 : Nat) : Int)
        rw [hsh2]
      rintro ⟨i, y⟩ ⟨i1, i2⟩ d
      simp only at i1 i2
      have hyb := rowS_le ls (n + 1) (2 * x.1, x.2) i
      rw [← i2] at hyb
      have hy1 : y.1 ≤ 2 * x.1 + i := hyb
      have hy2 : y.1 < 2 ^ 30 := by omega
      repeat ((conv => whnf); first | with_reducible refine O_step ?_ | with_reducible refine S_step ?_ | with_reducible refine D_step ?_ | with_reducible refine RO.exit ?_ | with_reducible refine RO.ret ?_ | ((with_reducible refine And.intro ?sc ?_); case sc => exact side))
      refine And.intro (fun hi => ?_) (fun hi => ?_)
      · simp only [decide_eq_true_eq] at hi
        have hi' : i < ls.length := by omega
        have hlr : -9223372036854775808 ≤ ls.getD ((i : Int).toNat + 0) 0 ∧ ls.getD ((i : Int).toNat + 0) 0 ≤ 9223372036854775807 := by
          have := h15 i hi'
          rw [Int.toNat_natCast, Nat.add_zero]; omega
        repeat ((conv => whnf); first | with_reducible refine O_step ?_ | with_reducible refine S_step ?_ | with_reducible refine D_step ?_ | with_reducible refine RO.exit ?_ | with_reducible refine RO.ret ?_ | ((with_reducible refine And.intro ?sc ?_); case sc => exact side))
        refine And.intro (fun hk => ?_) (fun hk => ?_)
        · have hk' : ls.getD i 0 = ((n + 1 : Nat) : Int) := by simpa using hk
          repeat ((conv => whnf); first | with_reducible refine O_step ?_ | with_reducible refine S_step ?_ | with_reducible refine D_step ?_ | with_reducible refine RO.exit ?_ | with_reducible refine RO.ret ?_ | ((with_reducible refine And.intro ?sc ?_); case sc => exact side))
          refine codes1_call (s := i) (code := y.1) (n := n + 1) (by rw [layC_len, (ho hl3).1]; omega) (by rw [layC_len, (ho hl3).1, (ho hl3).2]) (by rw [(ho hl3).2]; omega) hy2 (by omega) ?_
          rw [← layC_snoc y.2 (i, y.1, n + 1)]
          repeat ((conv => whnf); first | with_reducible refine O_step ?_ | with_reducible refine S_step ?_ | with_reducible refine D_step ?_ | with_reducible refine RO.exit ?_ | with_reducible refine RO.ret ?_ | ((with_reducible refine And.intro ?sc ?_); case sc => exact side))
          refine RO.same (i + 1, y.1 + 1, y.2 ++ [(i, y.1, n + 1)]) ⟨by show i + 1 ≤ _; omega, ?_⟩ (show ls.length - (i + 1) < ls.length - i by omega) (And.intro rfl (And.intro rfl (And.intro rfl (And.intro rfl (And.intro rfl (And.intro rfl (And.intro rfl (trivial)))))))) (And.intro rfl (And.intro rfl (And.intro rfl (trivial))))
          show _ = rowS ls (n + 1) (i + 1) (2 * x.1, x.2)
          rw [rowS_succ, ← i2]
          unfold stepS
          rw [if_pos hk']
        · have hk' : ¬ ls.getD i 0 = ((n + 1 : Nat) : Int) := by simpa using hk
          repeat ((conv => whnf); first | with_reducible refine O_step ?_ | with_reducible refine S_step ?_ | with_reducible refine D_step ?_ | with_reducible refine RO.exit ?_ | with_reducible refine RO.ret ?_ | ((with_reducible refine And.intro ?sc ?_); case sc => exact side))
          refine RO.same (i + 1, y) ⟨by show i + 1 ≤ _; omega, ?_⟩ (show ls.length - (i + 1) < ls.length - i by omega) (And.intro rfl (And.intro rfl (And.intro rfl (And.intro rfl (And.intro rfl (And.intro rfl (And.intro rfl (trivial)))))))) (And.intro rfl (And.intro rfl (And.intro rfl (trivial))))
          show _ = rowS ls (n + 1) (i + 1) (2 * x.1, x.2)
          rw [rowS_succ, ← i2]
          unfold stepS
          rw [if_neg hk']
      · have hi' : i = ls.length := by simp only [decide_eq_false_iff_not] at hi; omega
        repeat ((conv => whnf); first | with_reducible refine O_step ?_ | with_reducible refine S_step ?_ | with_reducible refine D_step ?_ | with_reducible refine RO.exit ?_ | with_reducible refine RO.ret ?_ | ((with_reducible refine And.intro ?sc ?_); case sc => exact side))
        refine RO.same (n + 1, y) ⟨by show n + 1 ≤ 15; omega, ?_⟩ (show 15 - (n + 1) < 15 - n by omega) (And.intro rfl (And.intro rfl (And.intro rfl (And.intro rfl (trivial))))) (And.intro rfl (And.intro rfl (And.intro rfl (trivial))))
        show y = rowS ls (n + 1) ls.length (2 * (tellS ls n).1, (tellS ls n).2)
        rw [i2, hi', n2]
    · have hn' : ¬ (n : Int) + 1 ≤ 15 := by simpa using hn
      have hn15 : n = 15 := by omega
      subst hn15
      rw [← n2] at hK
      repeat ((conv => whnf); first | with_reducible refine O_step ?_ | with_reducible refine S_step ?_ | with_reducible refine D_step ?_ | with_reducible refine RO.exit ?_ | with_reducible refine RO.ret ?_ | ((with_reducible refine And.intro ?sc ?_); case sc => exact side))
      exact hK
theorem eachN_call (hl : ls.length ≤ 2000) (hu : ∀ x ∈ ls, 0 ≤ x ∧ x < 256)
    (hK : K (.int .i64 (eachE ls)) (newH ls c (if eachE ls = 0 then layM (tellS ls 15).2 [] else []))) :
    CallA Try.prog 44 [.sl 0 0 0 ls.length c0, .fn (.func 64) [] [.ptr 3 0 0]] (newH ls c []) K Kp := by
  refine step44 (fun _ => []) [] rfl ?_
  repeat ((conv => whnf); first | with_reducible refine O_step ?_ | with_reducible refine S_step ?_ | with_reducible refine D_step ?_ | with_reducible refine RO.exit ?_ | with_reducible refine RO.ret ?_ | ((with_reducible refine And.intro ?sc ?_); case sc => exact side) | ((with_reducible refine br_f ?sc ?_); case sc => exact sideB) | ((with_reducible refine br_t ?sc ?_); case sc => exact sideB))
  refine And.intro (fun b1 => ?_) (fun b1 => ?_)
  · have b1' : (320 : Int) < ls.length := by simpa using b1
    have hb : badL ls = true := by unfold badL; rw [show decide (320 < ls.length) = true by rw [decide_eq_true_eq]; omega]; rfl
    have e := eachE_bad hb
    rw [e] at hK
    repeat ((conv => whnf); first | with_reducible refine O_step ?_ | with_reducible refine S_step ?_ | with_reducible refine D_step ?_ | with_reducible refine RO.exit ?_ | with_reducible refine RO.ret ?_ | ((with_reducible refine And.intro ?sc ?_); case sc => exact side) | ((with_reducible refine br_f ?sc ?_); case sc => exact sideB) | ((with_reducible refine br_t ?sc ?_); case sc => exact sideB))
    exact hK
  have b1' : ¬ (320 : Int) < ls.length := by simpa using b1
  have hd1 : decide (320 < ls.length) = false := by rw [decide_eq_false_iff_not]; omega
  repeat ((conv => whnf); first | with_reducible refine O_step ?_ | with_reducible refine S_step ?_ | with_reducible refine D_step ?_ | with_reducible refine RO.exit ?_ | with_reducible refine RO.ret ?_ | ((with_reducible refine And.intro ?sc ?_); case sc => exact side) | ((with_reducible refine br_f ?sc ?_); case sc => exact sideB) | ((with_reducible refine br_t ?sc ?_); case sc => exact sideB))
  refine hasU_at (i := 0) (xs := ls) rfl rfl (by omega) ?_
  repeat ((conv => whnf); first | with_reducible refine O_step ?_ | with_reducible refine S_step ?_ | with_reducible refine D_step ?_ | with_reducible refine RO.exit ?_ | with_reducible refine RO.ret ?_ | ((with_reducible refine And.intro ?sc ?_); case sc => exact side) | ((with_reducible refine br_f ?sc ?_); case sc => exact sideB) | ((with_reducible refine br_t ?sc ?_); case sc => exact sideB))
  refine And.intro (fun b2 => ?_) (fun b2 => ?_)
  · have hb : badL ls = true := by unfold badL; rw [b2]; simp
    have e := eachE_bad hb
    rw [e] at hK
    repeat ((conv => whnf); first | with_reducible refine O_step ?_ | with_reducible refine S_step ?_ | with_reducible refine D_step ?_ | with_reducible refine RO.exit ?_ | with_reducible refine RO.ret ?_ | ((with_reducible refine And.intro ?sc ?_); case sc => exact side) | ((with_reducible refine br_f ?sc ?_); case sc => exact sideB) | ((with_reducible refine br_t ?sc ?_); case sc => exact sideB))
    exact hK
  have hb : badL ls = false := by unfold badL; rw [b2, hd1]; rfl
  have h15 : ∀ i, i < ls.length → 0 ≤ ls.getD i 0 ∧ ls.getD i 0 ≤ 15 := by
    intro i hi
    have hm : ls.getD i 0 ∈ ls := getD_memI' hi
    have h1 := List.any_eq_false.1 b2 _ hm
    have h2 := hu _ hm
    simp only [badU, decide_eq_true_eq] at h1
    omega
  repeat ((conv => whnf); first | with_reducible refine O_step ?_ | with_reducible refine S_step ?_ | with_reducible refine D_step ?_ | with_reducible refine RO.exit ?_ | with_reducible refine RO.ret ?_ | ((with_reducible refine And.intro ?sc ?_); case sc => exact side))
  refine WO.go (σ := Nat) (fun i => i ≤ ls.length) (fun i => ls.length - i)
    (fun i => [(0, .sl 0 0 0 ls.length c0), (1, .fn (.func 64) [] [.ptr 3 0 0]), (5, .int .i64 (32768 - (sumK ls i : Int))), (6, .int .i64 (cntK ls i : Int)), (20, .sl 0 0 0 ls.length c0), (21, .int .i64 ls.length), (22, .int .i64 (i : Int))])
    (fun _ => newH ls c []) 0 tb_ok mixed (by kernel_rfl) (Nat.zero_le _) (And.intro rfl (And.intro rfl (And.intro rfl (And.intro rfl (And.intro rfl (And.intro rfl (And.intro rfl (trivial)))))))) (And.intro rfl (And.intro rfl (And.intro rfl (And.intro rfl (trivial))))) (fun _ => rfl) (fun _ => rfl) (fun _ => newH_nb) ?_
  intro i hi d
  have hi : i ≤ ls.length := hi
  have hs1 := sumK_le ls i
  have hc1 := cntK_le ls i
  repeat ((conv => whnf); first | with_reducible refine O_step ?_ | with_reducible refine S_step ?_ | with_reducible refine D_step ?_ | with_reducible refine RO.exit ?_ | with_reducible refine RO.ret ?_ | ((with_reducible refine And.intro ?sc ?_); case sc => exact side))
  refine And.intro (fun hc => ?_) (fun hc => ?_)
  · simp only [decide_eq_true_eq] at hc
    obtain ⟨l1, l2⟩ := h15 i (by omega)
    repeat ((conv => whnf); first | with_reducible refine O_step ?_ | with_reducible refine S_step ?_ | with_reducible refine D_step ?_ | with_reducible refine RO.exit ?_ | with_reducible refine RO.ret ?_ | ((with_reducible refine And.intro ?sc ?_); case sc => exact side))
    refine And.intro (fun hd => ?_) (fun hd => ?_)
    · have hd' : 0 < ls.getD i 0 := by simpa using hd
      obtain ⟨a, ha⟩ : ∃ a : Nat, ls.getD i 0 = (a : Int) := ⟨(ls.getD i 0).toNat, by omega⟩
      have hg : ls.getD ((i : Int).toNat + 0) 0 = (a : Int) := ha
      have hsh : shlF .i64 1 ((15 - ls.getD ((i : Int).toNat + 0) 0) % 256) = ((2 ^ (15 - a) : Nat) : Int) := by rw [hg]; exact shl_room a (by omega)
      have hpw : 2 ^ (15 - a) ≤ 2 ^ 15 := Nat.pow_le_pow_right (by omega) (by omega)
      have hpw2 : (2 ^ 15 : Nat) = 32768 := by decide
      rw [hpw2] at hpw
      have hov : -9223372036854775808 ≤ 32768 - (sumK ls i : Int) - shlF .i64 1 ((15 - ls.getD ((i : Int).toNat + 0) 0) % 256) ∧ 32768 - (sumK ls i : Int) - shlF .i64 1 ((15 - ls.getD ((i : Int).toNat + 0) 0) % 256) ≤ 9223372036854775807 := by
        rw [hsh]
        generalize 2 ^ (15 - a) = z at *
        omega
      have e1 : sumK ls (i + 1) = sumK ls i + 2 ^ (15 - a) := by simp only [sumK, if_pos hd']; rw [ha, Int.toNat_natCast]
      have e2 : cntK ls (i + 1) = cntK ls i + 1 := by simp only [cntK, if_pos hd']
      repeat ((conv => whnf); first | with_reducible refine O_step ?_ | with_reducible refine S_step ?_ | with_reducible refine D_step ?_ | with_reducible refine RO.exit ?_ | with_reducible refine RO.ret ?_ | ((with_reducible refine And.intro ?sc ?_); case sc => exact side))
      refine RO.same (i + 1) (by show i + 1 ≤ _; omega) (show ls.length - (i + 1) < ls.length - i by omega) (And.intro rfl (And.intro rfl (And.intro ?_ (And.intro ?_ (And.intro rfl (And.intro rfl (And.intro rfl (trivial)))))))) (And.intro rfl (And.intro rfl (And.intro rfl (And.intro rfl (trivial)))))
      · show AV.int .i64 (32768 - (sumK ls i : Int) - shlF .i64 1 ((15 - ls.getD ((i : Int).toNat + 0) 0) % 256)) = AV.int .i64 (32768 - (sumK ls (i + 1) : Int))
        rw [hsh, e1]; congr 1; push_cast; omega
      · show AV.int .i64 ((cntK ls i : Int) + 1) = AV.int .i64 (cntK ls (i + 1) : Int)
        rw [e2]; rfl
    · have hd' : ¬ 0 < ls.getD i 0 := by simpa using hd
      have e1 : sumK ls (i + 1) = sumK ls i := by simp only [sumK, if_neg hd', Nat.add_zero]
      have e2 : cntK ls (i + 1) = cntK ls i := by simp only [cntK, if_neg hd', Nat.add_zero]
      repeat ((conv => whnf); first | with_reducible refine O_step ?_ | with_reducible refine S_step ?_ | with_reducible refine D_step ?_ | with_reducible refine RO.exit ?_ | with_reducible refine RO.ret ?_ | ((with_reducible refine And.intro ?sc ?_); case sc => exact side))
      refine RO.same (i + 1) (by show i + 1 ≤ _; omega) (show ls.length - (i + 1) < ls.length - i by omega) (And.intro rfl (And.intro rfl (And.intro ?_ (And.intro ?_ (And.intro rfl (And.intro rfl (And.intro rfl (trivial)))))))) (And.intro rfl (And.intro rfl (And.intro rfl (And.intro rfl (trivial)))))
      · show AV.int .i64 _ = AV.int .i64 (32768 - (sumK ls (i + 1) : Int))
        rw [e1]
      · show AV.int .i64 _ = AV.int .i64 (cntK ls (i + 1) : Int)
        rw [e2]
  have hin : i = ls.length := by simp only [decide_eq_false_iff_not] at hc; omega
  subst hin
  repeat ((conv => whnf); first | with_reducible refine O_step ?_ | with_reducible refine S_step ?_ | with_reducible refine D_step ?_ | with_reducible refine RO.exit ?_ | with_reducible refine RO.ret ?_ | ((with_reducible refine And.intro ?sc ?_); case sc => exact side) | ((with_reducible refine br_f ?sc ?_); case sc => exact sideB) | ((with_reducible refine br_t ?sc ?_); case sc => exact sideB))
  refine And.intro (fun f1 => ?_) (fun f1 => ?_)
  · have f1' : ¬ 32768 - (sumK ls ls.length : Int) = 0 := by simpa using f1
    repeat ((conv => whnf); first | with_reducible refine O_step ?_ | with_reducible refine S_step ?_ | with_reducible refine D_step ?_ | with_reducible refine RO.exit ?_ | with_reducible refine RO.ret ?_ | ((with_reducible refine And.intro ?sc ?_); case sc => exact side) | ((with_reducible refine br_f ?sc ?_); case sc => exact sideB) | ((with_reducible refine br_t ?sc ?_); case sc => exact sideB))
    refine And.intro (fun f2 => ?_) (fun f2 => ?_)
    · have f2' : (0 : Int) < (cntK ls ls.length : Int) := by simpa using f2
      repeat ((conv => whnf); first | with_reducible refine O_step ?_ | with_reducible refine S_step ?_ | with_reducible refine D_step ?_ | with_reducible refine RO.exit ?_ | with_reducible refine RO.ret ?_ | ((with_reducible refine And.intro ?sc ?_); case sc => exact side) | ((with_reducible refine br_f ?sc ?_); case sc => exact sideB) | ((with_reducible refine br_t ?sc ?_); case sc => exact sideB))
      refine And.intro (fun f3 => ?_) (fun f3 => ?_)
      · have f3' : (1 : Int) < (cntK ls ls.length : Int) := by simpa using f3
        have hf : makesK ls = false := by
          unfold makesK
          rw [show decide (sumK ls ls.length = 32768) = false by rw [decide_eq_false_iff_not]; omega, show decide (cntK ls ls.length = 0) = false by rw [decide_eq_false_iff_not]; omega, show decide (cntK ls ls.length = 1) = false by rw [decide_eq_false_iff_not]; omega]; rfl
        have e := eachE_no hb hf
        rw [e] at hK
        repeat ((conv => whnf); first | with_reducible refine O_step ?_ | with_reducible refine S_step ?_ | with_reducible refine D_step ?_ | with_reducible refine RO.exit ?_ | with_reducible refine RO.ret ?_ | ((with_reducible refine And.intro ?sc ?_); case sc => exact side) | ((with_reducible refine br_f ?sc ?_); case sc => exact sideB) | ((with_reducible refine br_t ?sc ?_); case sc => exact sideB))
        exact hK
      · have f3' : ¬ (1 : Int) < (cntK ls ls.length : Int) := by simpa using f3
        repeat ((conv => whnf); first | with_reducible refine O_step ?_ | with_reducible refine S_step ?_ | with_reducible refine D_step ?_ | with_reducible refine RO.exit ?_ | with_reducible refine RO.ret ?_ | ((with_reducible refine And.intro ?sc ?_); case sc => exact side) | ((with_reducible refine br_f ?sc ?_); case sc => exact sideB) | ((with_reducible refine br_t ?sc ?_); case sc => exact sideB))
        refine And.intro (fun f4 => ?_) (fun f4 => ?_)
        · have f4' : ¬ 32768 - (sumK ls ls.length : Int) = 16384 := by simpa using f4
          have hf : makesK ls = false := by
            unfold makesK
            rw [show decide (sumK ls ls.length = 32768) = false by rw [decide_eq_false_iff_not]; omega, show decide (cntK ls ls.length = 0) = false by rw [decide_eq_false_iff_not]; omega, show decide (sumK ls ls.length = 16384) = false by rw [decide_eq_false_iff_not]; omega]; simp
          have e := eachE_no hb hf
          rw [e] at hK
          repeat ((conv => whnf); first | with_reducible refine O_step ?_ | with_reducible refine S_step ?_ | with_reducible refine D_step ?_ | with_reducible refine RO.exit ?_ | with_reducible refine RO.ret ?_ | ((with_reducible refine And.intro ?sc ?_); case sc => exact side) | ((with_reducible refine br_f ?sc ?_); case sc => exact sideB) | ((with_reducible refine br_t ?sc ?_); case sc => exact sideB))
          exact hK
        · have f4' : 32768 - (sumK ls ls.length : Int) = 16384 := by simpa using f4
          have hf : makesK ls = true := by
            unfold makesK
            rw [show decide (cntK ls ls.length = 1) = true by rw [decide_eq_true_eq]; omega, show decide (sumK ls ls.length = 16384) = true by rw [decide_eq_true_eq]; omega]; simp
          have e := eachE_ok hb hf
          rw [e] at hK
          rw [if_pos rfl] at hK
          have hl3 : ls.length ≤ 320 := by omega
          repeat ((conv => whnf); first | with_reducible refine O_step ?_ | with_reducible refine S_step ?_ | with_reducible refine D_step ?_ | with_reducible refine RO.exit ?_ | with_reducible refine RO.ret ?_ | ((with_reducible refine And.intro ?sc ?_); case sc => exact side))
          refine WO.go (σ := Nat × Nat × List (Nat × Nat × Nat)) (fun s => s.1 ≤ 15 ∧ s.2 = tellS ls s.1) (fun s => 15 - s.1)
            (fun s => [(0, .sl 0 0 0 ls.length c0), (1, .fn (.func 64) [] [.ptr 3 0 0]), (9, .int .i64 (s.2.1 : Int)), (10, .int .i64 ((s.1 : Int) + 1))])
            (fun s => newH ls c (layM s.2.2 [])) (0, 0, []) tb_ok mixed (by kernel_rfl) ⟨Nat.zero_le _, rfl⟩ (And.intro rfl (And.intro rfl (And.intro rfl (And.intro rfl (trivial))))) (And.intro rfl (And.intro rfl (And.intro rfl (And.intro rfl (trivial))))) (fun _ => rfl) (fun _ => rfl) (fun s => newH_nb) ?_
          rintro ⟨n, x⟩ ⟨n1, n2⟩ d
          simp only at n1 n2
          have hxb := tellS_le ls n
          rw [← n2] at hxb
          have hp : 2 ^ n ≤ 2 ^ 15 := Nat.pow_le_pow_right (by omega) n1
          have hpm : 2 ^ n * ls.length ≤ 2 ^ 15 * 320 := Nat.mul_le_mul hp hl3
          have hpe : (2 ^ 15 * 320 : Nat) = 10485760 := by decide
          rw [hpe] at hpm
          have hx1 : x.1 ≤ 10485760 := by omega
          repeat ((conv => whnf); first | with_reducible refine O_step ?_ | with_reducible refine S_step ?_ | with_reducible refine D_step ?_ | with_reducible refine RO.exit ?_ | with_reducible refine RO.ret ?_ | ((with_reducible refine And.intro ?sc ?_); case sc => exact side))
          refine And.intro (fun hn => ?_) (fun hn => ?_)
          · have hn' : (n : Int) + 1 ≤ 15 := by simpa using hn
            have hsh2 : shlF .i64 (x.1 : Int) 1 = ((2 * x.1 : Nat) : Int) := shl64_1 (by omega)
            repeat ((conv => whnf); first | with_reducible refine O_step ?_ | with_reducible refine S_step ?_ | with_reducible refine D_step ?_ | with_reducible refine RO.exit ?_ | with_reducible refine RO.ret ?_ | ((with_reducible refine And.intro ?sc ?_); case sc => exact side))
            refine WO.go (σ := Nat × Nat × List (Nat × Nat × Nat)) (fun s => s.1 ≤ ls.length ∧ s.2 = rowS ls (n + 1) s.1 (2 * x.1, x.2)) (fun s => ls.length - s.1)
              (fun s => [(0, .sl 0 0 0 ls.length c0), (1, .fn (.func 64) [] [.ptr 3 0 0]), (9, .int .i64 (s.2.1 : Int)), (10, .int .i64 ((n : Int) + 1)), (56, .sl 0 0 0 ls.length c0), (57, .int .i64 ls.length), (58, .int .i64 (s.1 : Int))])
              (fun s => newH ls c (layM s.2.2 [])) (0, 2 * x.1, x.2) tb_ok mixed (by kernel_rfl) ⟨Nat.zero_le _, rfl⟩ (And.intro rfl (And.intro rfl (And.intro ?_ (And.intro rfl (And.intro rfl (And.intro rfl (And.intro rfl (trivial)))))))) (And.intro rfl (And.intro rfl (And.intro rfl (And.intro rfl (trivial))))) (fun _ => rfl) (fun _ => rfl) (fun s => newH_nb) ?_
            · show AV.int .i64 (shlF .i64 (x.1 : Int) 1) = AV.int .i64 ((2 * x.1 : Nat) : Int)
              rw [hsh2]
            rintro ⟨i, y⟩ ⟨i1, i2⟩ d
            simp only at i1 i2
            have hyb := rowS_le ls (n + 1) (2 * x.1, x.2) i
            rw [← i2] at hyb
            have hy1 : y.1 ≤ 2 * x.1 + i := hyb
            have hy2 : y.1 < 2 ^ 30 := by omega
            repeat ((conv => whnf); first | with_reducible refine O_step ?_ | with_reducible refine S_step ?_ | with_reducible refine D_step ?_ | with_reducible refine RO.exit ?_ | with_reducible refine RO.ret ?_ | ((with_reducible refine And.intro ?sc ?_); case sc => exact side))
            refine And.intro (fun hi => ?_) (fun hi => ?_)
            · simp only [decide_eq_true_eq] at hi
              have hi' : i < ls.length := by omega
              have hlr : -9223372036854775808 ≤ ls.getD ((i : Int).toNat + 0) 0 ∧ ls.getD ((i : Int).toNat + 0) 0 ≤ 9223372036854775807 := by
                have := h15 i hi'
                rw [Int.toNat_natCast, Nat.add_zero]; omega
              repeat ((conv => whnf); first | with_reducible refine O_step ?_ | with_reducible refine S_step ?_ | with_reducible refine D_step ?_ | with_reducible refine RO.exit ?_ | with_reducible refine RO.ret ?_ | ((with_reducible refine And.intro ?sc ?_); case sc => exact side))
              refine And.intro (fun hk => ?_) (fun hk => ?_)
              · have hk' : ls.getD i 0 = ((n + 1 : Nat) : Int) := by simpa using hk
                repeat ((conv => whnf); first | with_reducible refine O_step ?_ | with_reducible refine S_step ?_ | with_reducible refine D_step ?_ | with_reducible refine RO.exit ?_ | with_reducible refine RO.ret ?_ | ((with_reducible refine And.intro ?sc ?_); case sc => exact side))
                refine new1_call (s := i) (code := y.1) (n := n + 1) (by omega) hy2 (by omega) ?_
                rw [← layM_snoc y.2 (i, y.1, n + 1)]
                repeat ((conv => whnf); first | with_reducible refine O_step ?_ | with_reducible refine S_step ?_ | with_reducible refine D_step ?_ | with_reducible refine RO.exit ?_ | with_reducible refine RO.ret ?_ | ((with_reducible refine And.intro ?sc ?_); case sc => exact side))
                refine RO.same (i + 1, y.1 + 1, y.2 ++ [(i, y.1, n + 1)]) ⟨by show i + 1 ≤ _; omega, ?_⟩ (show ls.length - (i + 1) < ls.length - i by omega) (And.intro rfl (And.intro rfl (And.intro rfl (And.intro rfl (And.intro rfl (And.intro rfl (And.intro rfl (trivial)))))))) (And.intro rfl (And.intro rfl (And.intro rfl (And.intro rfl (trivial)))))
                show _ = rowS ls (n + 1) (i + 1) (2 * x.1, x.2)
                rw [rowS_succ, ← i2]
                unfold stepS
                rw [if_pos hk']
              · have hk' : ¬ ls.getD i 0 = ((n + 1 : Nat) : Int) := by simpa using hk
                repeat ((conv => whnf); first | with_reducible refine O_step ?_ | with_reducible refine S_step ?_ | with_reducible refine D_step ?_ | with_reducible refine RO.exit ?_ | with_reducible refine RO.ret ?_ | ((with_reducible refine And.intro ?sc ?_); case sc => exact side))
                refine RO.same (i + 1, y) ⟨by show i + 1 ≤ _; omega, ?_⟩ (show ls.length - (i + 1) < ls.length - i by omega) (And.intro rfl (And.intro rfl (And.intro rfl (And.intro rfl (And.intro rfl (And.intro rfl (And.intro rfl (trivial)))))))) (And.intro rfl (And.intro rfl (And.intro rfl (And.intro rfl (trivial)))))
                show _ = rowS ls (n + 1) (i + 1) (2 * x.1, x.2)
                rw [rowS_succ, ← i2]
                unfold stepS
                rw [if_neg hk']
            · have hi' : i = ls.length := by simp only [decide_eq_false_iff_not] at hi; omega
              repeat ((conv => whnf); first | with_reducible refine O_step ?_ | with_reducible refine S_step ?_ | with_reducible refine D_step ?_ | with_reducible refine RO.exit ?_ | with_reducible refine RO.ret ?_ | ((with_reducible refine And.intro ?sc ?_); case sc => exact side))
              refine RO.same (n + 1, y) ⟨by show n + 1 ≤ 15; omega, ?_⟩ (show 15 - (n + 1) < 15 - n by omega) (And.intro rfl (And.intro rfl (And.intro rfl (And.intro rfl (trivial))))) (And.intro rfl (And.intro rfl (And.intro rfl (And.intro rfl (trivial)))))
              show y = rowS ls (n + 1) ls.length (2 * (tellS ls n).1, (tellS ls n).2)
              rw [i2, hi', n2]
          · have hn' : ¬ (n : Int) + 1 ≤ 15 := by simpa using hn
            have hn15 : n = 15 := by omega
            subst hn15
            rw [← n2] at hK
            repeat ((conv => whnf); first | with_reducible refine O_step ?_ | with_reducible refine S_step ?_ | with_reducible refine D_step ?_ | with_reducible refine RO.exit ?_ | with_reducible refine RO.ret ?_ | ((with_reducible refine And.intro ?sc ?_); case sc => exact side))
            exact hK
    · have f2' : ¬ (0 : Int) < (cntK ls ls.length : Int) := by simpa using f2
      have hf : makesK ls = true := by
        unfold makesK
        rw [show decide (cntK ls ls.length = 0) = true by rw [decide_eq_true_eq]; omega]; simp
      have e := eachE_ok hb hf
      rw [e] at hK
      rw [if_pos rfl] at hK
      have hl3 : ls.length ≤ 320 := by omega
      repeat ((conv => whnf); first | with_reducible refine O_step ?_ | with_reducible refine S_step ?_ | with_reducible refine D_step ?_ | with_reducible refine RO.exit ?_ | with_reducible refine RO.ret ?_ | ((with_reducible refine And.intro ?sc ?_); case sc => exact side))
      refine WO.go (σ := Nat × Nat × List (Nat × Nat × Nat)) (fun s => s.1 ≤ 15 ∧ s.2 = tellS ls s.1) (fun s => 15 - s.1)
        (fun s => [(0, .sl 0 0 0 ls.length c0), (1, .fn (.func 64) [] [.ptr 3 0 0]), (9, .int .i64 (s.2.1 : Int)), (10, .int .i64 ((s.1 : Int) + 1))])
        (fun s => newH ls c (layM s.2.2 [])) (0, 0, []) tb_ok mixed (by kernel_rfl) ⟨Nat.zero_le _, rfl⟩ (And.intro rfl (And.intro rfl (And.intro rfl (And.intro rfl (trivial))))) (And.intro rfl (And.intro rfl (And.intro rfl (And.intro rfl (trivial))))) (fun _ => rfl) (fun _ => rfl) (fun s => newH_nb) ?_
      rintro ⟨n, x⟩ ⟨n1, n2⟩ d
      simp only at n1 n2
      have hxb := tellS_le ls n
      rw [← n2] at hxb
      have hp : 2 ^ n ≤ 2 ^ 15 := Nat.pow_le_pow_right (by omega) n1
      have hpm : 2 ^ n * ls.length ≤ 2 ^ 15 * 320 := Nat.mul_le_mul hp hl3
      have hpe : (2 ^ 15 * 320 : Nat) = 10485760 := by decide
      rw [hpe] at hpm
      have hx1 : x.1 ≤ 10485760 := by omega
      repeat ((conv => whnf); first | with_reducible refine O_step ?_ | with_reducible refine S_step ?_ | with_reducible refine D_step ?_ | with_reducible refine RO.exit ?_ | with_reducible refine RO.ret ?_ | ((with_reducible refine And.intro ?sc ?_); case sc => exact side))
      refine And.intro (fun hn => ?_) (fun hn => ?_)
      · have hn' : (n : Int) + 1 ≤ 15 := by simpa using hn
        have hsh2 : shlF .i64 (x.1 : Int) 1 = ((2 * x.1 : Nat) : Int) := shl64_1 (by omega)
        repeat ((conv => whnf); first | with_reducible refine O_step ?_ | with_reducible refine S_step ?_ | with_reducible refine D_step ?_ | with_reducible refine RO.exit ?_ | with_reducible refine RO.ret ?_ | ((with_reducible refine And.intro ?sc ?_); case sc => exact side))
        refine WO.go (σ := Nat × Nat × List (Nat × Nat × Nat)) (fun s => s.1 ≤ ls.length ∧ s.2 = rowS ls (n + 1) s.1 (2 * x.1, x.2)) (fun s => ls.length - s.1)
          (fun s => [(0, .sl 0 0 0 ls.length c0), (1, .fn (.func 64) [] [.ptr 3 0 0]), (9, .int .i64 (s.2.1 : Int)), (10, .int .i64 ((n : Int) + 1)), (56, .sl 0 0 0 ls.length c0), (57, .int .i64 ls.length), (58, .int .i64 (s.1 : Int))])
          (fun s => newH ls c (layM s.2.2 [])) (0, 2 * x.1, x.2) tb_ok mixed (by kernel_rfl) ⟨Nat.zero_le _, rfl⟩ (And.intro rfl (And.intro rfl (And.intro ?_ (And.intro rfl (And.intro rfl (And.intro rfl (And.intro rfl (trivial)))))))) (And.intro rfl (And.intro rfl (And.intro rfl (And.intro rfl (trivial))))) (fun _ => rfl) (fun _ => rfl) (fun s => newH_nb) ?_
        · show AV.int .i64 (shlF .i64 (x.1 : Int) 1) = AV.int .i64 ((2 * x.1 : Nat) : Int)
          rw [hsh2]
        rintro ⟨i, y⟩ ⟨i1, i2⟩ d
        simp only at i1 i2
        have hyb := rowS_le ls (n + 1) (2 * x.1, x.2) i
        rw [← i2] at hyb
        have hy1 : y.1 ≤ 2 * x.1 + i := hyb
        have hy2 : y.1 < 2 ^ 30 := by omega
        repeat ((conv => whnf); first | with_reducible refine O_step ?_ | with_reducible refine S_step ?_ | with_reducible refine D_step ?_ | with_reducible refine RO.exit ?_ | with_reducible refine RO.ret ?_ | ((with_reducible refine And.intro ?sc ?_); case sc => exact side))
        refine And.intro (fun hi => ?_) (fun hi => ?_)
        · simp only [decide_eq_true_eq] at hi
          have hi' : i < ls.length := by omega
          have hlr : -9223372036854775808 ≤ ls.getD ((i : Int).toNat + 0) 0 ∧ ls.getD ((i : Int).toNat + 0) 0 ≤ 9223372036854775807 := by
            have := h15 i hi'
            rw [Int.toNat_natCast, Nat.add_zero]; omega
          repeat ((conv => whnf); first | with_reducible refine O_step ?_ | with_reducible refine S_step ?_ | with_reducible refine D_step ?_ | with_reducible refine RO.exit ?_ | with_reducible refine RO.ret ?_ | ((with_reducible refine And.intro ?sc ?_); case sc => exact side))
          refine And.intro (fun hk => ?_) (fun hk => ?_)
          · have hk' : ls.getD i 0 = ((n + 1 : Nat) : Int) := by simpa using hk
            repeat ((conv => whnf); first | with_reducible refine O_step ?_ | with_reducible refine S_step ?_ | with_reducible refine D_step ?_ | with_reducible refine RO.exit ?_ | with_reducible refine RO.ret ?_ | ((with_reducible refine And.intro ?sc ?_); case sc => exact side))
            refine new1_call (s := i) (code := y.1) (n := n + 1) (by omega) hy2 (by omega) ?_
            rw [← layM_snoc y.2 (i, y.1, n + 1)]
            repeat ((conv => whnf); first | with_reducible refine O_step ?_ | with_reducible refine S_step ?_ | with_reducible refine D_step ?_ | with_reducible refine RO.exit ?_ | with_reducible refine RO.ret ?_ | ((with_reducible refine And.intro ?sc ?_); case sc => exact side))
            refine RO.same (i + 1, y.1 + 1, y.2 ++ [(i, y.1, n + 1)]) ⟨by show i + 1 ≤ _; omega, ?_⟩ (show ls.length - (i + 1) < ls.length - i by omega) (And.intro rfl (And.intro rfl (And.intro rfl (And.intro rfl (And.intro rfl (And.intro rfl (And.intro rfl (trivial)))))))) (And.intro rfl (And.intro rfl (And.intro rfl (And.intro rfl (trivial)))))
            show _ = rowS ls (n + 1) (i + 1) (2 * x.1, x.2)
            rw [rowS_succ, ← i2]
            unfold stepS
            rw [if_pos hk']
          · have hk' : ¬ ls.getD i 0 = ((n + 1 : Nat) : Int) := by simpa using hk
            repeat ((conv => whnf); first | with_reducible refine O_step ?_ | with_reducible refine S_step ?_ | with_reducible refine D_step ?_ | with_reducible refine RO.exit ?_ | with_reducible refine RO.ret ?_ | ((with_reducible refine And.intro ?sc ?_); case sc => exact side))
            refine RO.same (i + 1, y) ⟨by show i + 1 ≤ _; omega, ?_⟩ (show ls.length - (i + 1) < ls.length - i by omega) (And.intro rfl (And.intro rfl (And.intro rfl (And.intro rfl (And.intro rfl (And.intro rfl (And.intro rfl (trivial)))))))) (And.intro rfl (And.intro rfl (And.intro rfl (And.intro rfl (trivial)))))
            show _ = rowS ls (n + 1) (i + 1) (2 * x.1, x.2)
            rw [rowS_succ, ← i2]
            unfold stepS
            rw [if_neg hk']
        · have hi' : i = ls.length := by simp only [decide_eq_false_iff_not] at hi; omega
          repeat ((conv => whnf); first | with_reducible refine O_step ?_ | with_reducible refine S_step ?_ | with_reducible refine D_step ?_ | with_reducible refine RO.exit ?_ | with_reducible refine RO.ret ?_ | ((with_reducible refine And.intro ?sc ?_); case sc => exact side))
          refine RO.same (n + 1, y) ⟨by show n + 1 ≤ 15; omega, ?_⟩ (show 15 - (n + 1) < 15 - n by omega) (And.intro rfl (And.intro rfl (And.intro rfl (And.intro rfl (trivial))))) (And.intro rfl (And.intro rfl (And.intro rfl (And.intro rfl (trivial)))))
          show y = rowS ls (n + 1) ls.length (2 * (tellS ls n).1, (tellS ls n).2)
          rw [i2, hi', n2]
      · have hn' : ¬ (n : Int) + 1 ≤ 15 := by simpa using hn
        have hn15 : n = 15 := by omega
        subst hn15
        rw [← n2] at hK
        repeat ((conv => whnf); first | with_reducible refine O_step ?_ | with_reducible refine S_step ?_ | with_reducible refine D_step ?_ | with_reducible refine RO.exit ?_ | with_reducible refine RO.ret ?_ | ((with_reducible refine And.intro ?sc ?_); case sc => exact side))
        exact hK
  · have f1' : 32768 - (sumK ls ls.length : Int) = 0 := by simpa using f1
    have hf : makesK ls = true := by
      unfold makesK
      rw [show decide (sumK ls ls.length = 32768) = true by rw [decide_eq_true_eq]; omega]; rfl
    have e := eachE_ok hb hf
    rw [e] at hK
    rw [if_pos rfl] at hK
    have hl3 : ls.length ≤ 320 := by omega
    repeat ((conv => whnf); first | with_reducible refine O_step ?_ | with_reducible refine S_step ?_ | with_reducible refine D_step ?_ | with_reducible refine RO.exit ?_ | with_reducible refine RO.ret ?_ | ((with_reducible refine And.intro ?sc ?_); case sc => exact side))
    refine WO.go (σ := Nat × Nat × List (Nat × Nat × Nat)) (fun s => s.1 ≤ 15 ∧ s.2 = tellS ls s.1) (fun s => 15 - s.1)
      (fun s => [(0, .sl 0 0 0 ls.length c0), (1, .fn (.func 64) [] [.ptr 3 0 0]), (9, .int .i64 (s.2.1 : Int)), (10, .int .i64 ((s.1 : Int) + 1))])
      (fun s => newH ls c (layM s.2.2 [])) (0, 0, []) tb_ok mixed (by kernel_rfl) ⟨Nat.zero_le _, rfl⟩ (And.intro rfl (And.intro rfl (And.intro rfl (And.intro rfl (trivial))))) (And.intro rfl (And.intro rfl (And.intro rfl (And.intro rfl (trivial))))) (fun _ => rfl) (fun _ => rfl) (fun s => newH_nb) ?_
    rintro ⟨n, x⟩ ⟨n1, n2⟩ d
    simp only at n1 n2
    have hxb := tellS_le ls n
    rw [← n2] at hxb
    have hp : 2 ^ n ≤ 2 ^ 15 := Nat.pow_le_pow_right (by omega) n1
    have hpm : 2 ^ n * ls.length ≤ 2 ^ 15 * 320 := Nat.mul_le_mul hp hl3
    have hpe : (2 ^ 15 * 320 : Nat) = 10485760 := by decide
    rw [hpe] at hpm
    have hx1 : x.1 ≤ 10485760 := by omega
    repeat ((conv => whnf); first | with_reducible refine O_step ?_ | with_reducible refine S_step ?_ | with_reducible refine D_step ?_ | with_reducible refine RO.exit ?_ | with_reducible refine RO.ret ?_ | ((with_reducible refine And.intro ?sc ?_); case sc => exact side))
    refine And.intro (fun hn => ?_) (fun hn => ?_)
    · have hn' : (n : Int) + 1 ≤ 15 := by simpa using hn
      have hsh2 : shlF .i64 (x.1 : Int) 1 = ((2 * x.1 : Nat) : Int) := shl64_1 (by omega)
      repeat ((conv => whnf); first | with_reducible refine O_step ?_ | with_reducible refine S_step ?_ | with_reducible refine D_step ?_ | with_reducible refine RO.exit ?_ | with_reducible refine RO.ret ?_ | ((with_reducible refine And.intro ?sc ?_); case sc => exact side))
      refine WO.go (σ := Nat × Nat × List (Nat × Nat × Nat)) (fun s => s.1 ≤ ls.length ∧ s.2 = rowS ls (n + 1) s.1 (2 * x.1, x.2)) (fun s => ls.length - s.1)
        (fun s => [(0, .sl 0 0 0 ls.length c0), (1, .fn (.func 64) [] [.ptr 3 0 0]), (9, .int .i64 (s.2.1 : Int)), (10, .int .i64 ((n : Int) + 1)), (56, .sl 0 0 0 ls.length c0), (57, .int .i64 ls.length), (58, .int .i64 (s.1 : Int))])
        (fun s => newH ls c (layM s.2.2 [])) (0, 2 * x.1, x.2) tb_ok mixed (by kernel_rfl) ⟨Nat.zero_le _, rfl⟩ (And.intro rfl (And.intro rfl (And.intro ?_ (And.intro rfl (And.intro rfl (And.intro rfl (And.intro rfl (trivial)))))))) (And.intro rfl (And.intro rfl (And.intro rfl (And.intro rfl (trivial))))) (fun _ => rfl) (fun _ => rfl) (fun s => newH_nb) ?_
      · show AV.int .i64 (shlF .i64 (x.1 : Int) 1) = AV.int .i64 ((2 * x.1 : Nat) : Int)
        rw [hsh2]
      rintro ⟨i, y⟩ ⟨i1, i2⟩ d
      simp only at i1 i2
      have hyb := rowS_le ls (n + 1) (2 * x.1, x.2) i
      rw [← i2] at hyb
      have hy1 : y.1 ≤ 2 * x.1 + i := hyb
      have hy2 : y.1 < 2 ^ 30 := by omega
      repeat ((conv => whnf); first | with_reducible refine O_step ?_ | with_reducible refine S_step ?_ | with_reducible refine D_step ?_ | with_reducible refine RO.exit ?_ | with_reducible refine RO.ret ?_ | ((with_reducible refine And.intro ?sc ?_); case sc => exact side))
      refine And.intro (fun hi => ?_) (fun hi => ?_)
      · simp only [decide_eq_true_eq] at hi
        have hi' : i < ls.length := by omega
        have hlr : -9223372036854775808 ≤ ls.getD ((i : Int).toNat + 0) 0 ∧ ls.getD ((i : Int).toNat + 0) 0 ≤ 9223372036854775807 := by
          have := h15 i hi'
          rw [Int.toNat_natCast, Nat.add_zero]; omega
        repeat ((conv => whnf); first | with_reducible refine O_step ?_ | with_reducible refine S_step ?_ | with_reducible refine D_step ?_ | with_reducible refine RO.exit ?_ | with_reducible refine RO.ret ?_ | ((with_reducible refine And.intro ?sc ?_); case sc => exact side))
        refine And.intro (fun hk => ?_) (fun hk => ?_)
        · have hk' : ls.getD i 0 = ((n + 1 : Nat) : Int) := by simpa using hk
          repeat ((conv => whnf); first | with_reducible refine O_step ?_ | with_reducible refine S_step ?_ | with_reducible refine D_step ?_ | with_reducible refine RO.exit ?_ | with_reducible refine RO.ret ?_ | ((with_reducible refine And.intro ?sc ?_); case sc => exact side))
          refine new1_call (s := i) (code := y.1) (n := n + 1) (by omega) hy2 (by omega) ?_
          rw [← layM_snoc y.2 (i, y.1, n + 1)]
          repeat ((conv => whnf); first | with_reducible refine O_step ?_ | with_reducible refine S_step ?_ | with_reducible refine D_step ?_ | with_reducible refine RO.exit ?_ | with_reducible refine RO.ret ?_ | ((with_reducible refine And.intro ?sc ?_); case sc => exact side))
          refine RO.same (i + 1, y.1 + 1, y.2 ++ [(i, y.1, n + 1)]) ⟨by show i + 1 ≤ _; omega, ?_⟩ (show ls.length - (i + 1) < ls.length - i by omega) (And.intro rfl (And.intro rfl (And.intro rfl (And.intro rfl (And.intro rfl (And.intro rfl (And.intro rfl (trivial)))))))) (And.intro rfl (And.intro rfl (And.intro rfl (And.intro rfl (trivial)))))
          show _ = rowS ls (n + 1) (i + 1) (2 * x.1, x.2)
          rw [rowS_succ, ← i2]
          unfold stepS
          rw [if_pos hk']
        · have hk' : ¬ ls.getD i 0 = ((n + 1 : Nat) : Int) := by simpa using hk
          repeat ((conv => whnf); first | with_reducible refine O_step ?_ | with_reducible refine S_step ?_ | with_reducible refine D_step ?_ | with_reducible refine RO.exit ?_ | with_reducible refine RO.ret ?_ | ((with_reducible refine And.intro ?sc ?_); case sc => exact side))
          refine RO.same (i + 1, y) ⟨by show i + 1 ≤ _; omega, ?_⟩ (show ls.length - (i + 1) < ls.length - i by omega) (And.intro rfl (And.intro rfl (And.intro rfl (And.intro rfl (And.intro rfl (And.intro rfl (And.intro rfl (trivial)))))))) (And.intro rfl (And.intro rfl (And.intro rfl (And.intro rfl (trivial)))))
          show _ = rowS ls (n + 1) (i + 1) (2 * x.1, x.2)
          rw [rowS_succ, ← i2]
          unfold stepS
          rw [if_neg hk']
      · have hi' : i = ls.length := by simp only [decide_eq_false_iff_not] at hi; omega
        repeat ((conv => whnf); first | with_reducible refine O_step ?_ | with_reducible refine S_step ?_ | with_reducible refine D_step ?_ | with_reducible refine RO.exit ?_ | with_reducible refine RO.ret ?_ | ((with_reducible refine And.intro ?sc ?_); case sc => exact side))
        refine RO.same (n + 1, y) ⟨by show n + 1 ≤ 15; omega, ?_⟩ (show 15 - (n + 1) < 15 - n by omega) (And.intro rfl (And.intro rfl (And.intro rfl (And.intro rfl (trivial))))) (And.intro rfl (And.intro rfl (And.intro rfl (And.intro rfl (trivial)))))
        show y = rowS ls (n + 1) ls.length (2 * (tellS ls n).1, (tellS ls n).2)
        rw [i2, hi', n2]
    · have hn' : ¬ (n : Int) + 1 ≤ 15 := by simpa using hn
      have hn15 : n = 15 := by omega
      subst hn15
      rw [← n2] at hK
      repeat ((conv => whnf); first | with_reducible refine O_step ?_ | with_reducible refine S_step ?_ | with_reducible refine D_step ?_ | with_reducible refine RO.exit ?_ | with_reducible refine RO.ret ?_ | ((with_reducible refine And.intro ?sc ?_); case sc => exact side))
      exact hK
end

end Go.Proofs.Yteinenklppbjkaa
