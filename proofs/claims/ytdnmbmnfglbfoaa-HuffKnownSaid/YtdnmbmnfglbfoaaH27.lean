/- Layer 6: again. -/
import Derived.Test.YtdnmbmnfglbfoaaLH0

set_option linter.unusedVariables false

set_option linter.unusedSimpArgs false

open Go.RowKit

namespace Go.Proofs.Ytdnmbmnfglbfoaa

set_option maxRecDepth 10000

theorem ag_len : ∃ L : List Int, lengthsF [3, 3, 3, 1, 1, 1, 1, 9, 9] 4 = (L, 0) ∧ L.length = 9 := ⟨(lengthsF [3, 3, 3, 1, 1, 1, 1, 9, 9] 4).1, by decide +kernel⟩
section

variable {K Kp : AV → AH → Prop}

theorem again_call (hK : K (.bo true) []) : CallA Try.prog 24 [] [] K Kp := by
  obtain ⟨L, hL, hl⟩ := ag_len
  refine CallA.post_asB ?_
  refine CallA.post_sub ?_
  refine step24 (fun _ => [1, 2, 3]) [] rfl ?_
  repeat ((conv => whnf); first | with_reducible refine O_step ?_ | with_reducible refine S_step ?_ | with_reducible refine D_step ?_ | with_reducible refine RO.exit ?_ | with_reducible refine RO.ret ?_ | ((with_reducible refine And.intro ?sc ?_); case sc => exact side) | ((with_reducible refine br_f ?sc ?_); case sc => exact sideB) | ((with_reducible refine br_t ?sc ?_); case sc => exact sideB))
  refine lengths_at (i := 0) (fr := [3, 3, 3, 1, 1, 1, 1, 9, 9]) rfl rfl (by decide) fun g1 c1 hc1 => ?_
  rw [hL] at hc1 ⊢
  have hc1' : L.length ≤ c1 := hc1
  repeat ((conv => whnf); first | with_reducible refine O_step ?_ | with_reducible refine S_step ?_ | with_reducible refine D_step ?_ | with_reducible refine RO.exit ?_ | with_reducible refine RO.ret ?_ | ((with_reducible refine And.intro ?sc ?_); case sc => exact side) | ((with_reducible refine br_f ?sc ?_); case sc => exact sideB) | ((with_reducible refine br_t ?sc ?_); case sc => exact sideB))
  refine lengths_at (i := 0) (fr := [3, 3, 3, 1, 1, 1, 1, 9, 9]) rfl rfl (by decide) fun g2 c2 hc2 => ?_
  rw [hL]
  repeat ((conv => whnf); first | with_reducible refine O_step ?_ | with_reducible refine S_step ?_ | with_reducible refine D_step ?_ | with_reducible refine RO.exit ?_ | with_reducible refine RO.ret ?_ | ((with_reducible refine And.intro ?sc ?_); case sc => exact side) | ((with_reducible refine br_f ?sc ?_); case sc => exact sideB) | ((with_reducible refine br_t ?sc ?_); case sc => exact sideB))
  refine And.intro (fun x1 => ?_) (fun x1 => ?_)
  · exfalso; simp [hl] at x1
  repeat ((conv => whnf); first | with_reducible refine O_step ?_ | with_reducible refine S_step ?_ | with_reducible refine D_step ?_ | with_reducible refine RO.exit ?_ | with_reducible refine RO.ret ?_ | ((with_reducible refine And.intro ?sc ?_); case sc => exact side) | ((with_reducible refine br_f ?sc ?_); case sc => exact sideB) | ((with_reducible refine br_t ?sc ?_); case sc => exact sideB))
  refine And.intro (fun x2 => ?_) (fun x2 => ?_)
  · exfalso; simp [hl] at x2
  repeat ((conv => whnf); first | with_reducible refine O_step ?_ | with_reducible refine S_step ?_ | with_reducible refine D_step ?_ | with_reducible refine RO.exit ?_ | with_reducible refine RO.ret ?_ | ((with_reducible refine And.intro ?sc ?_); case sc => exact side) | ((with_reducible refine br_f ?sc ?_); case sc => exact sideB) | ((with_reducible refine br_t ?sc ?_); case sc => exact sideB))
  refine WO.go (σ := Nat × List Int) (fun s => s.1 ≤ 9 ∧ s.2.length = 9 ∧ ∀ j, s.1 ≤ j → s.2.getD j 0 = L.getD j 0) (fun s => 9 - s.1)
    (fun s => [(1, .sl 0 0 0 9 9), (2, .sl 1 g1 0 L.length c1), (4, .sl 2 g2 0 L.length c2), (6, .int .i64 (s.1 : Int))])
    (fun s => [.one true 0 (.ints .i64 [3, 3, 3, 1, 1, 1, 1, 9, 9] 9), .one true g1 (.ints .u8 s.2 c1), .one true g2 (.ints .u8 L c2)]) (0, L) tb_ok mixed (by kernel_rfl) ⟨Nat.zero_le _, hl, fun _ _ => rfl⟩ (And.intro rfl (And.intro rfl (And.intro rfl (And.intro rfl (trivial))))) (And.intro rfl (And.intro rfl (And.intro rfl (trivial)))) (fun _ => rfl) (fun _ => rfl) (fun _ => ⟨trivial, trivial, trivial, trivial⟩) ?_
  rintro ⟨i, A⟩ ⟨i1, i2, i3⟩ d
  simp only at i1 i2 i3
  repeat ((conv => whnf); first | with_reducible refine O_step ?_ | with_reducible refine S_step ?_ | with_reducible refine D_step ?_ | with_reducible refine RO.exit ?_ | with_reducible refine RO.ret ?_ | ((with_reducible refine And.intro ?sc ?_); case sc => exact side) | ((with_reducible refine br_f ?sc ?_); case sc => exact sideB) | ((with_reducible refine br_t ?sc ?_); case sc => exact sideB))
  refine And.intro (fun hi => ?_) (fun hi => ?_)
  · have hil : i < 9 := by simp only [decide_eq_true_eq] at hi; omega
    have hiL : i < L.length := by omega
    have hAc : A.length ≤ c1 := by omega
    have he : A.getD ((i : Int).toNat + 0) 0 = L.getD ((i : Int).toNat + 0) 0 := i3 i (Nat.le_refl _)
    repeat ((conv => whnf); first | with_reducible refine O_step ?_ | with_reducible refine S_step ?_ | with_reducible refine D_step ?_ | with_reducible refine RO.exit ?_ | with_reducible refine RO.ret ?_ | ((with_reducible refine And.intro ?sc ?_); case sc => exact side) | ((with_reducible refine br_f ?sc ?_); case sc => exact sideB) | ((with_reducible refine br_t ?sc ?_); case sc => exact sideB))
    refine And.intro (fun hq => ?_) (fun hq => ?_)
    · exfalso
      have hq' : (!decide (A.getD ((i : Int).toNat + 0) 0 = L.getD ((i : Int).toNat + 0) 0)) = true := hq
      rw [he] at hq'; simp at hq'
    repeat ((conv => whnf); first | with_reducible refine O_step ?_ | with_reducible refine S_step ?_ | with_reducible refine D_step ?_ | with_reducible refine RO.exit ?_ | with_reducible refine RO.ret ?_ | ((with_reducible refine And.intro ?sc ?_); case sc => exact side) | ((with_reducible refine br_f ?sc ?_); case sc => exact sideB) | ((with_reducible refine br_t ?sc ?_); case sc => exact sideB))
    refine RO.same (i + 1, A.set i 77) ⟨by show i + 1 ≤ _; omega, by show (A.set i 77).length = 9; rw [List.length_set]; exact i2, fun j hj => ?_⟩ (show 9 - (i + 1) < 9 - i by omega) (And.intro rfl (And.intro rfl (And.intro rfl (And.intro rfl (trivial))))) (And.intro rfl (And.intro rfl (And.intro rfl (trivial))))
    have hj : i + 1 ≤ j := hj
    show (A.set i 77).getD j 0 = _
    rw [List.getD_eq_getElem?_getD, List.getElem?_set_ne (by omega), ← List.getD_eq_getElem?_getD]
    exact i3 j (by omega)
  · repeat ((conv => whnf); first | with_reducible refine O_step ?_ | with_reducible refine S_step ?_ | with_reducible refine D_step ?_ | with_reducible refine RO.exit ?_ | with_reducible refine RO.ret ?_ | ((with_reducible refine And.intro ?sc ?_); case sc => exact side) | ((with_reducible refine br_f ?sc ?_); case sc => exact sideB) | ((with_reducible refine br_t ?sc ?_); case sc => exact sideB))
    refine lengths_at (i := 0) (fr := [3, 3, 3, 1, 1, 1, 1, 9, 9]) rfl rfl (by decide) fun g3 c3 hc3 => ?_
    rw [hL]
    repeat ((conv => whnf); first | with_reducible refine O_step ?_ | with_reducible refine S_step ?_ | with_reducible refine D_step ?_ | with_reducible refine RO.exit ?_ | with_reducible refine RO.ret ?_ | ((with_reducible refine And.intro ?sc ?_); case sc => exact side) | ((with_reducible refine br_f ?sc ?_); case sc => exact sideB) | ((with_reducible refine br_t ?sc ?_); case sc => exact sideB))
    refine WO.go (σ := Nat) (fun k => k ≤ 9) (fun k => 9 - k)
      (fun k => [(4, .sl 2 g2 0 L.length c2), (7, .sl 3 g3 0 L.length c3), (9, .int .i64 (k : Int))])
      (fun _ => [.gone, .gone, .one true g2 (.ints .u8 L c2), .one true g3 (.ints .u8 L c3)]) 0 tb_ok mixed (by kernel_rfl) (Nat.zero_le _) (And.intro rfl (And.intro rfl (And.intro rfl (trivial)))) (And.intro trivial (And.intro trivial (And.intro rfl (And.intro rfl (trivial))))) (fun _ => rfl) (fun _ => rfl) (fun _ => ⟨trivial, trivial, trivial, trivial, trivial⟩) ?_
    intro k hk d2
    have hk : k ≤ 9 := hk
    repeat ((conv => whnf); first | with_reducible refine O_step ?_ | with_reducible refine S_step ?_ | with_reducible refine D_step ?_ | with_reducible refine RO.exit ?_ | with_reducible refine RO.ret ?_ | ((with_reducible refine And.intro ?sc ?_); case sc => exact side) | ((with_reducible refine br_f ?sc ?_); case sc => exact sideB) | ((with_reducible refine br_t ?sc ?_); case sc => exact sideB))
    refine And.intro (fun hq => ?_) (fun hq => ?_)
    · have hkl : k < L.length := by simp only [decide_eq_true_eq] at hq; omega
      repeat ((conv => whnf); first | with_reducible refine O_step ?_ | with_reducible refine S_step ?_ | with_reducible refine D_step ?_ | with_reducible refine RO.exit ?_ | with_reducible refine RO.ret ?_ | ((with_reducible refine And.intro ?sc ?_); case sc => exact side) | ((with_reducible refine br_f ?sc ?_); case sc => exact sideB) | ((with_reducible refine br_t ?sc ?_); case sc => exact sideB))
      refine RO.same (k + 1) (by show k + 1 ≤ _; omega) (show 9 - (k + 1) < 9 - k by omega) (And.intro rfl (And.intro rfl (And.intro rfl (trivial)))) (And.intro trivial (And.intro trivial (And.intro rfl (And.intro rfl (trivial)))))
    · repeat ((conv => whnf); first | with_reducible refine O_step ?_ | with_reducible refine S_step ?_ | with_reducible refine D_step ?_ | with_reducible refine RO.exit ?_ | with_reducible refine RO.ret ?_ | ((with_reducible refine And.intro ?sc ?_); case sc => exact side) | ((with_reducible refine br_f ?sc ?_); case sc => exact sideB) | ((with_reducible refine br_t ?sc ?_); case sc => exact sideB))
      exact Exists.intro [] (And.intro trivial (And.intro trivial (And.intro rfl ⟨true, rfl, hK⟩)))
end

end Go.Proofs.Ytdnmbmnfglbfoaa
