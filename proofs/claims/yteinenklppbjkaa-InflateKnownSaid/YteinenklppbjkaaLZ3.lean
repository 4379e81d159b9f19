/- Layer 8: streams with one thing wrong. -/
import Derived.Test.YteinenklppbjkaaZ12

import Derived.Test.YteinenklppbjkaaZk

set_option linter.unusedVariables false

set_option linter.unusedSimpArgs false

open Go.RowKit

namespace Go.Proofs.Yteinenklppbjkaa

set_option maxRecDepth 10000

def rowW (vs ns : List Int) (k : Nat) : List Bool := ((vs.zip ns).take k).flatMap fun p => bitsOf p.1 p.2.toNat
def rowsW : List (List AV) := [[.sl 0 0 0 2 2, .sl 1 0 0 2 2, .int .i64 50], [.sl 2 0 0 4 4, .sl 3 0 0 4 4, .int .i64 70], [.sl 4 0 0 3 3, .sl 5 0 0 3 3, .int .i64 80], [.sl 6 0 0 5 5, .sl 7 0 0 5 5, .int .i64 80], [.sl 8 0 0 5 5, .sl 9 0 0 5 5, .int .i64 80], [.sl 10 0 0 9 9, .sl 11 0 0 9 9, .int .i64 60], [.sl 12 0 0 10 10, .sl 13 0 0 10 10, .int .i64 80], [.sl 14 0 0 13 13, .sl 15 0 0 13 13, .int .i64 80], [.sl 16 0 0 13 13, .sl 17 0 0 13 13, .int .i64 80], [.sl 18 0 0 10 10, .sl 19 0 0 10 10, .int .i64 60]]
def wH : AH := [.one true 0 (.ints .i64 [1, 1] 2), .one true 0 (.ints .i64 [1, 2] 2), .one true 0 (.ints .i64 [1, 1, 64, 0] 4), .one true 0 (.ints .i64 [1, 2, 7, 5] 4), .one true 0 (.ints .i64 [1, 1, 99] 3), .one true 0 (.ints .i64 [1, 2, 8] 3), .one true 0 (.ints .i64 [1, 2, 30, 0, 0] 5), .one true 0 (.ints .i64 [1, 2, 5, 5, 4] 5), .one true 0 (.ints .i64 [1, 2, 0, 30, 0] 5), .one true 0 (.ints .i64 [1, 2, 5, 5, 4] 5), .one true 0 (.ints .i64 [1, 2, 0, 0, 0, 1, 1, 1, 0] 9), .one true 0 (.ints .i64 [1, 2, 5, 5, 4, 3, 3, 3, 3] 9), .one true 0 (.ints .i64 [1, 2, 0, 0, 0, 1, 0, 0, 0, 0] 10), .one true 0 (.ints .i64 [1, 2, 5, 5, 4, 3, 3, 3, 3, 1] 10), .one true 0 (.ints .i64 [1, 2, 0, 0, 0, 0, 0, 1, 0, 0, 127, 0, 127] 13), .one true 0 (.ints .i64 [1, 2, 5, 5, 4, 3, 3, 3, 3, 1, 7, 1, 7] 13), .one true 0 (.ints .i64 [1, 2, 0, 0, 0, 0, 0, 1, 0, 0, 127, 0, 109] 13), .one true 0 (.ints .i64 [1, 2, 5, 5, 4, 3, 3, 3, 3, 1, 7, 1, 7] 13), .one true 0 (.ints .i64 [1, 2, 0, 0, 0, 0, 0, 1, 0, 1] 10), .one true 0 (.ints .i64 [1, 2, 5, 5, 4, 3, 3, 3, 3, 1] 10), .one true 0 (.tab 3 10 (fun j => rowsW.getD j []) 10)]
theorem rowsW_nb21 : ∀ j, AV.nbl 21 (rowsW.getD j []) = true := by
  intro j
  rcases Nat.lt_or_ge j 10 with h | h
  · have : ∀ j, j < 10 → AV.nbl 21 (rowsW.getD j []) = true := by decide
    exact this j h
  · rw [List.getD_eq_getElem?_getD, List.getElem?_eq_none (show rowsW.length ≤ j from h)]; rfl
theorem rowsW_nb23 : ∀ j, AV.nbl 23 (rowsW.getD j []) = true := by
  intro j
  rcases Nat.lt_or_ge j 10 with h | h
  · have : ∀ j, j < 10 → AV.nbl 23 (rowsW.getD j []) = true := by decide
    exact this j h
  · rw [List.getD_eq_getElem?_getD, List.getElem?_eq_none (show rowsW.length ≤ j from h)]; rfl
theorem wH_nb : nbH 21 wH := ⟨trivial, trivial, trivial, trivial, trivial, trivial, trivial, trivial, trivial, trivial, trivial, trivial, trivial, trivial, trivial, trivial, trivial, trivial, trivial, trivial, rowsW_nb21, trivial⟩
theorem wH_nb23 {g c : Nat} {r : List Bool} : nbH 23 (wH ++ [wo 22 g c r, wb g c r]) := ⟨trivial, trivial, trivial, trivial, trivial, trivial, trivial, trivial, trivial, trivial, trivial, trivial, trivial, trivial, trivial, trivial, trivial, trivial, trivial, trivial, rowsW_nb23, rfl, trivial, trivial⟩
abbrev rV0 (k : Nat) : List Bool := rowW [1, 1] [1, 2] k

abbrev rV1 (k : Nat) : List Bool := rowW [1, 1, 64, 0] [1, 2, 7, 5] k

abbrev rV2 (k : Nat) : List Bool := rowW [1, 1, 99] [1, 2, 8] k

abbrev rV3 (k : Nat) : List Bool := rowW [1, 2, 30, 0, 0] [1, 2, 5, 5, 4] k

abbrev rV4 (k : Nat) : List Bool := rowW [1, 2, 0, 30, 0] [1, 2, 5, 5, 4] k

abbrev rV5 (k : Nat) : List Bool := rowW [1, 2, 0, 0, 0, 1, 1, 1, 0] [1, 2, 5, 5, 4, 3, 3, 3, 3] k

abbrev rV6 (k : Nat) : List Bool := rowW [1, 2, 0, 0, 0, 1, 0, 0, 0, 0] [1, 2, 5, 5, 4, 3, 3, 3, 3, 1] k

abbrev rV7 (k : Nat) : List Bool := rowW [1, 2, 0, 0, 0, 0, 0, 1, 0, 0, 127, 0, 127] [1, 2, 5, 5, 4, 3, 3, 3, 3, 1, 7, 1, 7] k

abbrev rV8 (k : Nat) : List Bool := rowW [1, 2, 0, 0, 0, 0, 0, 1, 0, 0, 127, 0, 109] [1, 2, 5, 5, 4, 3, 3, 3, 3, 1, 7, 1, 7] k

abbrev rV9 (k : Nat) : List Bool := rowW [1, 2, 0, 0, 0, 0, 0, 1, 0, 1] [1, 2, 5, 5, 4, 3, 3, 3, 3, 1] k

section

variable {K Kp : AV → AH → Prop}

set_option maxHeartbeats 4000000 in
theorem wrong_call8 (h : K (.bo true) []) : CallA Try.prog 9 [] [] K Kp := by
  refine CallA.post_asB ?_
  refine CallA.post_sub ?_
  refine step9 (fun _ => [0, 1, 2, 3, 4, 5, 6, 7, 8, 9, 10, 11, 12, 13, 14, 15, 16, 17, 18, 19, 20]) [] rfl ?_
  repeat ((conv => whnf); first | with_reducible refine O_step ?_ | with_reducible refine S_step ?_ | with_reducible refine D_step ?_ | with_reducible refine RO.exit ?_ | with_reducible refine RO.ret ?_ | ((with_reducible refine And.intro ?sc ?_); case sc => exact side) | ((with_reducible refine br_f ?sc ?_); case sc => exact sideB) | ((with_reducible refine br_t ?sc ?_); case sc => exact sideB))
  refine WO.gov (σ := Nat) (fun i => i ≤ 10) (fun i => 10 - i) (fun i => [(1, .sl 20 0 0 10 10), (2, .int .i64 (i : Int))]) (fun _ => wH) 0 tb_ok mixed (by kernel_rfl) [(1, .sl 20 0 0 10 10), (2, .int .i64 0)] _ (Nat.zero_le _) (And.intro rfl (And.intro rfl (trivial))) rfl
    (Vw.tab (i := 20) (fun j => rowsW.getD j []) rfl ?_) (And.intro rfl (And.intro rfl (And.intro rfl (And.intro rfl (And.intro rfl (And.intro rfl (And.intro rfl (And.intro rfl (And.intro rfl (And.intro rfl (And.intro rfl (And.intro rfl (And.intro rfl (And.intro rfl (And.intro rfl (And.intro rfl (And.intro rfl (And.intro rfl (And.intro rfl (And.intro rfl (And.intro rfl (trivial)))))))))))))))))))))) (fun _ => rfl) (fun _ => rfl) (fun _ => wH_nb) ?_
  · intro r hr
    refine congrArg (fun l => List.getD l r []) (?_ : rowsW = _)
    kernel_rfl
  intro i hi d
  have hi : i ≤ 10 := hi
  refine Or.elim (Nat.lt_or_ge i 10) (fun hl => ?_) (fun hl => ?_)
  · match i, hl with
    | 0, _ =>
      repeat ((conv => whnf); first | with_reducible refine O_step ?_ | with_reducible refine S_step ?_ | with_reducible refine D_step ?_ | with_reducible refine RO.exit ?_ | with_reducible refine RO.ret ?_ | ((with_reducible refine And.intro ?sc ?_); case sc => exact side) | ((with_reducible refine br_f ?sc ?_); case sc => exact sideB) | ((with_reducible refine br_t ?sc ?_); case sc => exact sideB))
      refine WO.gov (σ := Nat × Nat × Nat) (fun (k, gw, cw) => k ≤ 2 ∧ (packF (rV0 k)).length ≤ cw) (fun (k, _) => 2 - k) (fun (k, gw, cw) => [(1, .sl 20 0 0 10 10), (2, .int .i64 ((0 : Nat) : Int)), (3, .ptr 21 0 0), (4, .int .i64 (k : Int))])
        (fun (k, gw, cw) => wH ++ [wo 22 gw cw (rV0 k), wb gw cw (rV0 k)]) (0, 0, 0) tb_ok mixed (by kernel_rfl)
        [(1, .sl 20 0 0 10 10), (2, .int .i64 ((0 : Nat) : Int)), (3, .ptr 21 0 0), (4, .int .i64 0)] _ ⟨Nat.zero_le _, by decide⟩ (And.intro rfl (And.intro rfl (And.intro rfl (And.intro rfl (trivial))))) rfl (Vw.writer (i := 21) rfl) (And.intro rfl (And.intro rfl (And.intro rfl (And.intro rfl (And.intro rfl (And.intro rfl (And.intro rfl (And.intro rfl (And.intro rfl (And.intro rfl (And.intro rfl (And.intro rfl (And.intro rfl (And.intro rfl (And.intro rfl (And.intro rfl (And.intro rfl (And.intro rfl (And.intro rfl (And.intro rfl (And.intro rfl (And.intro rfl (And.intro rfl (trivial)))))))))))))))))))))))) (fun _ => rfl) (fun _ => rfl) (fun _ => wH_nb23) ?_
      rintro ⟨k, gw, cw⟩ ⟨hk, hcw⟩ d2
      repeat ((conv => whnf); first | with_reducible refine O_step ?_ | with_reducible refine S_step ?_ | with_reducible refine D_step ?_ | with_reducible refine RO.exit ?_ | with_reducible refine RO.ret ?_ | ((with_reducible refine And.intro ?sc ?_); case sc => exact side) | ((with_reducible refine br_f ?sc ?_); case sc => exact sideB) | ((with_reducible refine br_t ?sc ?_); case sc => exact sideB))
      refine And.intro (fun hq => ?_) (fun hq => ?_)
      · have hkl : k < 2 := by simp only [decide_eq_true_eq] at hq; omega
        have hall : ∀ k, k < 2 → 0 ≤ (([1, 1] : List Int)).getD k 0 ∧ (([1, 1] : List Int)).getD k 0 < 2 ^ ((([1, 2] : List Int)).getD k 0).toNat ∧ (([1, 1] : List Int)).getD k 0 < 4294967296 ∧ 0 ≤ (([1, 2] : List Int)).getD k 0 ∧ (([1, 2] : List Int)).getD k 0 ≤ 24 ∧ (rV0 k).length ≤ 100 ∧ rV0 (k + 1) = rV0 k ++ bitsOf ((([1, 1] : List Int)).getD k 0) ((([1, 2] : List Int)).getD k 0).toNat := by decide
        obtain ⟨a1, a2, a3, a4, a5, a6, a7⟩ := hall k hkl
        obtain ⟨v, hv⟩ : ∃ v, (([1, 1] : List Int)).getD k 0 = v := ⟨_, rfl⟩
        obtain ⟨m, hm⟩ : ∃ m : Nat, (([1, 2] : List Int)).getD k 0 = (m : Int) := ⟨((([1, 2] : List Int)).getD k 0).toNat, by omega⟩
        rw [hv, hm, Int.toNat_natCast] at a7
        rw [hv, hm, Int.toNat_natCast] at a2
        rw [hv] at a1 a3
        rw [hm] at a4 a5
        have e1 : v % 4294967296 = v := by omega
        have ek : ((k : Int)).toNat + 0 = k := by omega
        have hput : putF (rV0 k) v (m : Int) = (rV0 (k + 1), 0) := by rw [a7]; exact putF_ok (by omega) a2 (by omega)
        repeat ((conv => whnf); first | with_reducible refine O_step ?_ | with_reducible refine S_step ?_ | with_reducible refine D_step ?_ | with_reducible refine RO.exit ?_ | with_reducible refine RO.ret ?_ | ((with_reducible refine And.intro ?sc ?_); case sc => exact side) | ((with_reducible refine br_f ?sc ?_); case sc => exact sideB) | ((with_reducible refine br_t ?sc ?_); case sc => exact sideB))
        rw [ek, hv, hm, e1]
        refine put_at (i := 21) (j := 22) (row := rV0 k) (row' := rV0 (k + 1)) (v := v) (n := (m : Int)) rfl rfl rfl a1 (by omega) hcw hput fun g2 c2 hc2 _ => ?_
        repeat ((conv => whnf); first | with_reducible refine O_step ?_ | with_reducible refine S_step ?_ | with_reducible refine D_step ?_ | with_reducible refine RO.exit ?_ | with_reducible refine RO.ret ?_ | ((with_reducible refine And.intro ?sc ?_); case sc => exact side) | ((with_reducible refine br_f ?sc ?_); case sc => exact sideB) | ((with_reducible refine br_t ?sc ?_); case sc => exact sideB))
        refine RO.same (k + 1, g2, c2) ⟨hkl, hc2⟩ (show 2 - (k + 1) < 2 - k by omega) (And.intro rfl (And.intro rfl (And.intro rfl (And.intro rfl (trivial))))) (And.intro rfl (And.intro rfl (And.intro rfl (And.intro rfl (And.intro rfl (And.intro rfl (And.intro rfl (And.intro rfl (And.intro rfl (And.intro rfl (And.intro rfl (And.intro rfl (And.intro rfl (And.intro rfl (And.intro rfl (And.intro rfl (And.intro rfl (And.intro rfl (And.intro rfl (And.intro rfl (And.intro rfl (And.intro rfl (And.intro rfl (trivial))))))))))))))))))))))))
      · obtain rfl : k = 2 := by simp only [decide_eq_false_iff_not] at hq; omega
        have hX : bytesF (rV0 2) = [3] := by decide +kernel
        repeat ((conv => whnf); first | with_reducible refine O_step ?_ | with_reducible refine S_step ?_ | with_reducible refine D_step ?_ | with_reducible refine RO.exit ?_ | with_reducible refine RO.ret ?_ | ((with_reducible refine And.intro ?sc ?_); case sc => exact side) | ((with_reducible refine br_f ?sc ?_); case sc => exact sideB) | ((with_reducible refine br_t ?sc ?_); case sc => exact sideB))
        refine bytes_at (i := 21) (j := 22) (row := rV0 2) rfl rfl rfl (by decide) hcw fun g3 c3 hc3 => ?_
        rw [hX] at hc3 ⊢
        repeat ((conv => whnf); first | with_reducible refine O_step ?_ | with_reducible refine S_step ?_ | with_reducible refine D_step ?_ | with_reducible refine RO.exit ?_ | with_reducible refine RO.ret ?_ | ((with_reducible refine And.intro ?sc ?_); case sc => exact side) | ((with_reducible refine br_f ?sc ?_); case sc => exact sideB) | ((with_reducible refine br_t ?sc ?_); case sc => exact sideB))
        refine inflate_at (i := 23) (xs := [3]) (limit := 100) rfl rfl hc3 (by decide) (by decide) (by decide) (fun h => absurd h (by decide)) (fun g c s _ _ e1 _ _ => ?_) (fun e _ _ e1 => ?_)
        · have e2 : infR [3] 100 = .ok ((), s) := e1
          rw [zw0] at e2
          cases e2
        · have e2 : infR [3] 100 = .error e := e1
          rw [zw0] at e2
          obtain rfl : (50 : Int) = e := by injection e2
          repeat ((conv => whnf); first | with_reducible refine O_step ?_ | with_reducible refine S_step ?_ | with_reducible refine D_step ?_ | with_reducible refine RO.exit ?_ | with_reducible refine RO.ret ?_ | ((with_reducible refine And.intro ?sc ?_); case sc => exact side) | ((with_reducible refine br_f ?sc ?_); case sc => exact sideB) | ((with_reducible refine br_t ?sc ?_); case sc => exact sideB))
          refine RO.same (0 + 1) (by decide) (by decide) (And.intro rfl (And.intro rfl (trivial))) (And.intro rfl (And.intro rfl (And.intro rfl (And.intro rfl (And.intro rfl (And.intro rfl (And.intro rfl (And.intro rfl (And.intro rfl (And.intro rfl (And.intro rfl (And.intro rfl (And.intro rfl (And.intro rfl (And.intro rfl (And.intro rfl (And.intro rfl (And.intro rfl (And.intro rfl (And.intro rfl (And.intro rfl (trivial))))))))))))))))))))))
    | 1, _ =>
      repeat ((conv => whnf); first | with_reducible refine O_step ?_ | with_reducible refine S_step ?_ | with_reducible refine D_step ?_ | with_reducible refine RO.exit ?_ | with_reducible refine RO.ret ?_ | ((with_reducible refine And.intro ?sc ?_); case sc => exact side) | ((with_reducible refine br_f ?sc ?_); case sc => exact sideB) | ((with_reducible refine br_t ?sc ?_); case sc => exact sideB))
      refine WO.gov (σ := Nat × Nat × Nat) (fun (k, gw, cw) => k ≤ 4 ∧ (packF (rV1 k)).length ≤ cw) (fun (k, _) => 4 - k) (fun (k, gw, cw) => [(1, .sl 20 0 0 10 10), (2, .int .i64 ((1 : Nat) : Int)), (3, .ptr 21 0 0), (4, .int .i64 (k : Int))])
        (fun (k, gw, cw) => wH ++ [wo 22 gw cw (rV1 k), wb gw cw (rV1 k)]) (0, 0, 0) tb_ok mixed (by kernel_rfl)
        [(1, .sl 20 0 0 10 10), (2, .int .i64 ((1 : Nat) : Int)), (3, .ptr 21 0 0), (4, .int .i64 0)] _ ⟨Nat.zero_le _, by decide⟩ (And.intro rfl (And.intro rfl (And.intro rfl (And.intro rfl (trivial))))) rfl (Vw.writer (i := 21) rfl) (And.intro rfl (And.intro rfl (And.intro rfl (And.intro rfl (And.intro rfl (And.intro rfl (And.intro rfl (And.intro rfl (And.intro rfl (And.intro rfl (And.intro rfl (And.intro rfl (And.intro rfl (And.intro rfl (And.intro rfl (And.intro rfl (And.intro rfl (And.intro rfl (And.intro rfl (And.intro rfl (And.intro rfl (And.intro rfl (And.intro rfl (trivial)))))))))))))))))))))))) (fun _ => rfl) (fun _ => rfl) (fun _ => wH_nb23) ?_
      rintro ⟨k, gw, cw⟩ ⟨hk, hcw⟩ d2
      repeat ((conv => whnf); first | with_reducible refine O_step ?_ | with_reducible refine S_step ?_ | with_reducible refine D_step ?_ | with_reducible refine RO.exit ?_ | with_reducible refine RO.ret ?_ | ((with_reducible refine And.intro ?sc ?_); case sc => exact side) | ((with_reducible refine br_f ?sc ?_); case sc => exact sideB) | ((with_reducible refine br_t ?sc ?_); case sc => exact sideB))
      refine And.intro (fun hq => ?_) (fun hq => ?_)
      · have hkl : k < 4 := by simp only [decide_eq_true_eq] at hq; omega
        have hall : ∀ k, k < 4 → 0 ≤ (([1, 1, 64, 0] : List Int)).getD k 0 ∧ (([1, 1, 64, 0] : List Int)).getD k 0 < 2 ^ ((([1, 2, 7, 5] : List Int)).getD k 0).toNat ∧ (([1, 1, 64, 0] : List Int)).getD k 0 < 4294967296 ∧ 0 ≤ (([1, 2, 7, 5] : List Int)).getD k 0 ∧ (([1, 2, 7, 5] : List Int)).getD k 0 ≤ 24 ∧ (rV1 k).length ≤ 100 ∧ rV1 (k + 1) = rV1 k ++ bitsOf ((([1, 1, 64, 0] : List Int)).getD k 0) ((([1, 2, 7, 5] : List Int)).getD k 0).toNat := by decide
        obtain ⟨a1, a2, a3, a4, a5, a6, a7⟩ := hall k hkl
        obtain ⟨v, hv⟩ : ∃ v, (([1, 1, 64, 0] : List Int)).getD k 0 = v := ⟨_, rfl⟩
        obtain ⟨m, hm⟩ : ∃ m : Nat, (([1, 2, 7, 5] : List Int)).getD k 0 = (m : Int) := ⟨((([1, 2, 7, 5] : List Int)).getD k 0).toNat, by omega⟩
        rw [hv, hm, Int.toNat_natCast] at a7
        rw [hv, hm, Int.toNat_natCast] at a2
        rw [hv] at a1 a3
        rw [hm] at a4 a5
        have e1 : v % 4294967296 = v := by omega
        have ek : ((k : Int)).toNat + 0 = k := by omega
        have hput : putF (rV1 k) v (m : Int) = (rV1 (k + 1), 0) := by rw [a7]; exact putF_ok (by omega) a2 (by omega)
        repeat ((conv => whnf); first | with_reducible refine O_step ?_ | with_reducible refine S_step ?_ | with_reducible refine D_step ?_ | with_reducible refine RO.exit ?_ | with_reducible refine RO.ret ?_ | ((with_reducible refine And.intro ?sc ?_); case sc => exact side) | ((with_reducible refine br_f ?sc ?_); case sc => exact sideB) | ((with_reducible refine br_t ?sc ?_); case sc => exact sideB))
        rw [ek, hv, hm, e1]
        refine put_at (i := 21) (j := 22) (row := rV1 k) (row' := rV1 (k + 1)) (v := v) (n := (m : Int)) rfl rfl rfl a1 (by omega) hcw hput fun g2 c2 hc2 _ => ?_
        repeat ((conv => whnf); first | with_reducible refine O_step ?_ | with_reducible refine S_step ?_ | with_reducible refine D_step ?_ | with_reducible refine RO.exit ?_ | with_reducible refine RO.ret ?_ | ((with_reducible refine And.intro ?sc ?_); case sc => exact side) | ((with_reducible refine br_f ?sc ?_); case sc => exact sideB) | ((with_reducible refine br_t ?sc ?_); case sc => exact sideB))
        refine RO.same (k + 1, g2, c2) ⟨hkl, hc2⟩ (show 4 - (k + 1) < 4 - k by omega) (And.intro rfl (And.intro rfl (And.intro rfl (And.intro rfl (trivial))))) (And.intro rfl (And.intro rfl (And.intro rfl (And.intro rfl (And.intro rfl (And.intro rfl (And.intro rfl (And.intro rfl (And.intro rfl (And.intro rfl (And.intro rfl (And.intro rfl (And.intro rfl (And.intro rfl (And.intro rfl (And.intro rfl (And.intro rfl (And.intro rfl (And.intro rfl (And.intro rfl (And.intro rfl (And.intro rfl (And.intro rfl (trivial))))))))))))))))))))))))
      · obtain rfl : k = 4 := by simp only [decide_eq_false_iff_not] at hq; omega
        have hX : bytesF (rV1 4) = [3, 2] := by decide +kernel
        repeat ((conv => whnf); first | with_reducible refine O_step ?_ | with_reducible refine S_step ?_ | with_reducible refine D_step ?_ | with_reducible refine RO.exit ?_ | with_reducible refine RO.ret ?_ | ((with_reducible refine And.intro ?sc ?_); case sc => exact side) | ((with_reducible refine br_f ?sc ?_); case sc => exact sideB) | ((with_reducible refine br_t ?sc ?_); case sc => exact sideB))
        refine bytes_at (i := 21) (j := 22) (row := rV1 4) rfl rfl rfl (by decide) hcw fun g3 c3 hc3 => ?_
        rw [hX] at hc3 ⊢
        repeat ((conv => whnf); first | with_reducible refine O_step ?_ | with_reducible refine S_step ?_ | with_reducible refine D_step ?_ | with_reducible refine RO.exit ?_ | with_reducible refine RO.ret ?_ | ((with_reducible refine And.intro ?sc ?_); case sc => exact side) | ((with_reducible refine br_f ?sc ?_); case sc => exact sideB) | ((with_reducible refine br_t ?sc ?_); case sc => exact sideB))
        refine inflate_at (i := 23) (xs := [3, 2]) (limit := 100) rfl rfl hc3 (by decide) (by decide) (by decide) (fun h => absurd h (by decide)) (fun g c s _ _ e1 _ _ => ?_) (fun e _ _ e1 => ?_)
        · have e2 : infR [3, 2] 100 = .ok ((), s) := e1
          rw [zw1] at e2
          cases e2
        · have e2 : infR [3, 2] 100 = .error e := e1
          rw [zw1] at e2
          obtain rfl : (70 : Int) = e := by injection e2
          repeat ((conv => whnf); first | with_reducible refine O_step ?_ | with_reducible refine S_step ?_ | with_reducible refine D_step ?_ | with_reducible refine RO.exit ?_ | with_reducible refine RO.ret ?_ | ((with_reducible refine And.intro ?sc ?_); case sc => exact side) | ((with_reducible refine br_f ?sc ?_); case sc => exact sideB) | ((with_reducible refine br_t ?sc ?_); case sc => exact sideB))
          refine RO.same (1 + 1) (by decide) (by decide) (And.intro rfl (And.intro rfl (trivial))) (And.intro rfl (And.intro rfl (And.intro rfl (And.intro rfl (And.intro rfl (And.intro rfl (And.intro rfl (And.intro rfl (And.intro rfl (And.intro rfl (And.intro rfl (And.intro rfl (And.intro rfl (And.intro rfl (And.intro rfl (And.intro rfl (And.intro rfl (And.intro rfl (And.intro rfl (And.intro rfl (And.intro rfl (trivial))))))))))))))))))))))
    | 2, _ =>
      repeat ((conv => whnf); first | with_reducible refine O_step ?_ | with_reducible refine S_step ?_ | with_reducible refine D_step ?_ | with_reducible refine RO.exit ?_ | with_reducible refine RO.ret ?_ | ((with_reducible refine And.intro ?sc ?_); case sc => exact side) | ((with_reducible refine br_f ?sc ?_); case sc => exact sideB) | ((with_reducible refine br_t ?sc ?_); case sc => exact sideB))
      refine WO.gov (σ := Nat × Nat × Nat) (fun (k, gw, cw) => k ≤ 3 ∧ (packF (rV2 k)).length ≤ cw) (fun (k, _) => 3 - k) (fun (k, gw, cw) => [(1, .sl 20 0 0 10 10), (2, .int .i64 ((2 : Nat) : Int)), (3, .ptr 21 0 0), (4, .int .i64 (k : Int))])
        (fun (k, gw, cw) => wH ++ [wo 22 gw cw (rV2 k), wb gw cw (rV2 k)]) (0, 0, 0) tb_ok mixed (by kernel_rfl)
        [(1, .sl 20 0 0 10 10), (2, .int .i64 ((2 : Nat) : Int)), (3, .ptr 21 0 0), (4, .int .i64 0)] _ ⟨Nat.zero_le _, by decide⟩ (And.intro rfl (And.intro rfl (And.intro rfl (And.intro rfl (trivial))))) rfl (Vw.writer (i := 21) rfl) (And.intro rfl (And.intro rfl (And.intro rfl (And.intro rfl (And.intro rfl (And.intro rfl (And.intro rfl (And.intro rfl (And.intro rfl (And.intro rfl (And.intro rfl (And.intro rfl (And.intro rfl (And.intro rfl (And.intro rfl (And.intro rfl (And.intro rfl (And.intro rfl (And.intro rfl (And.intro rfl (And.intro rfl (And.intro rfl (And.intro rfl (trivial)))))))))))))))))))))))) (fun _ => rfl) (fun _ => rfl) (fun _ => wH_nb23) ?_
      rintro ⟨k, gw, cw⟩ ⟨hk, hcw⟩ d2
      repeat ((conv => whnf); first | with_reducible refine O_step ?_ | with_reducible refine S_step ?_ | with_reducible refine D_step ?_ | with_reducible refine RO.exit ?_ | with_reducible refine RO.ret ?_ | ((with_reducible refine And.intro ?sc ?_); case sc => exact side) | ((with_reducible refine br_f ?sc ?_); case sc => exact sideB) | ((with_reducible refine br_t ?sc ?_); case sc => exact sideB))
      refine And.intro (fun hq => ?_) (fun hq => ?_)
      · have hkl : k < 3 := by simp only [decide_eq_true_eq] at hq; omega
        have hall : ∀ k, k < 3 → 0 ≤ (([1, 1, 99] : List Int)).getD k 0 ∧ (([1, 1, 99] : List Int)).getD k 0 < 2 ^ ((([1, 2, 8] : List Int)).getD k 0).toNat ∧ (([1, 1, 99] : List Int)).getD k 0 < 4294967296 ∧ 0 ≤ (([1, 2, 8] : List Int)).getD k 0 ∧ (([1, 2, 8] : List Int)).getD k 0 ≤ 24 ∧ (rV2 k).length ≤ 100 ∧ rV2 (k + 1) = rV2 k ++ bitsOf ((([1, 1, 99] : List Int)).getD k 0) ((([1, 2, 8] : List Int)).getD k 0).toNat := by decide
        obtain ⟨a1, a2, a3, a4, a5, a6, a7⟩ := hall k hkl
        obtain ⟨v, hv⟩ : ∃ v, (([1, 1, 99] : List Int)).getD k 0 = v := ⟨_, rfl⟩
        obtain ⟨m, hm⟩ : ∃ m : Nat, (([1, 2, 8] : List Int)).getD k 0 = (m : Int) := ⟨((([1, 2, 8] : List Int)).getD k 0).toNat, by omega⟩
        rw [hv, hm, Int.toNat_natCast] at a7
        rw [hv, hm, Int.toNat_natCast] at a2
        rw [hv] at a1 a3
        rw [hm] at a4 a5
        have e1 : v % 4294967296 = v := by omega
        have ek : ((k : Int)).toNat + 0 = k := by omega
        have hput : putF (rV2 k) v (m : Int) = (rV2 (k + 1), 0) := by rw [a7]; exact putF_ok (by omega) a2 (by omega)
        repeat ((conv => whnf); first | with_reducible refine O_step ?_ | with_reducible refine S_step ?_ | with_reducible refine D_step ?_ | with_reducible refine RO.exit ?_ | with_reducible refine RO.ret ?_ | ((with_reducible refine And.intro ?sc ?_); case sc => exact side) | ((with_reducible refine br_f ?sc ?_); case sc => exact sideB) | ((with_reducible refine br_t ?sc ?_); case sc => exact sideB))
        rw [ek, hv, hm, e1]
        refine put_at (i := 21) (j := 22) (row := rV2 k) (row' := rV2 (k + 1)) (v := v) (n := (m : Int)) rfl rfl rfl a1 (by omega) hcw hput fun g2 c2 hc2 _ => ?_
        repeat ((conv => whnf); first | with_reducible refine O_step ?_ | with_reducible refine S_step ?_ | with_reducible refine D_step ?_ | with_reducible refine RO.exit ?_ | with_reducible refine RO.ret ?_ | ((with_reducible refine And.intro ?sc ?_); case sc => exact side) | ((with_reducible refine br_f ?sc ?_); case sc => exact sideB) | ((with_reducible refine br_t ?sc ?_); case sc => exact sideB))
        refine RO.same (k + 1, g2, c2) ⟨hkl, hc2⟩ (show 3 - (k + 1) < 3 - k by omega) (And.intro rfl (And.intro rfl (And.intro rfl (And.intro rfl (trivial))))) (And.intro rfl (And.intro rfl (And.intro rfl (And.intro rfl (And.intro rfl (And.intro rfl (And.intro rfl (And.intro rfl (And.intro rfl (And.intro rfl (And.intro rfl (And.intro rfl (And.intro rfl (And.intro rfl (And.intro rfl (And.intro rfl (And.intro rfl (And.intro rfl (And.intro rfl (And.intro rfl (And.intro rfl (And.intro rfl (And.intro rfl (trivial))))))))))))))))))))))))
      · obtain rfl : k = 3 := by simp only [decide_eq_false_iff_not] at hq; omega
        have hX : bytesF (rV2 3) = [27, 3] := by decide +kernel
        repeat ((conv => whnf); first | with_reducible refine O_step ?_ | with_reducible refine S_step ?_ | with_reducible refine D_step ?_ | with_reducible refine RO.exit ?_ | with_reducible refine RO.ret ?_ | ((with_reducible refine And.intro ?sc ?_); case sc => exact side) | ((with_reducible refine br_f ?sc ?_); case sc => exact sideB) | ((with_reducible refine br_t ?sc ?_); case sc => exact sideB))
        refine bytes_at (i := 21) (j := 22) (row := rV2 3) rfl rfl rfl (by decide) hcw fun g3 c3 hc3 => ?_
        rw [hX] at hc3 ⊢
        repeat ((conv => whnf); first | with_reducible refine O_step ?_ | with_reducible refine S_step ?_ | with_reducible refine D_step ?_ | with_reducible refine RO.exit ?_ | with_reducible refine RO.ret ?_ | ((with_reducible refine And.intro ?sc ?_); case sc => exact side) | ((with_reducible refine br_f ?sc ?_); case sc => exact sideB) | ((with_reducible refine br_t ?sc ?_); case sc => exact sideB))
        refine inflate_at (i := 23) (xs := [27, 3]) (limit := 100) rfl rfl hc3 (by decide) (by decide) (by decide) (fun h => absurd h (by decide)) (fun g c s _ _ e1 _ _ => ?_) (fun e _ _ e1 => ?_)
        · have e2 : infR [27, 3] 100 = .ok ((), s) := e1
          rw [zw2] at e2
          cases e2
        · have e2 : infR [27, 3] 100 = .error e := e1
          rw [zw2] at e2
          obtain rfl : (80 : Int) = e := by injection e2
          repeat ((conv => whnf); first | with_reducible refine O_step ?_ | with_reducible refine S_step ?_ | with_reducible refine D_step ?_ | with_reducible refine RO.exit ?_ | with_reducible refine RO.ret ?_ | ((with_reducible refine And.intro ?sc ?_); case sc => exact side) | ((with_reducible refine br_f ?sc ?_); case sc => exact sideB) | ((with_reducible refine br_t ?sc ?_); case sc => exact sideB))
          refine RO.same (2 + 1) (by decide) (by decide) (And.intro rfl (And.intro rfl (trivial))) (And.intro rfl (And.intro rfl (And.intro rfl (And.intro rfl (And.intro rfl (And.intro rfl (And.intro rfl (And.intro rfl (And.intro rfl (And.intro rfl (And.intro rfl (And.intro rfl (And.intro rfl (And.intro rfl (And.intro rfl (And.intro rfl (And.intro rfl (And.intro rfl (And.intro rfl (And.intro rfl (And.intro rfl (trivial))))))))))))))))))))))
    | 3, _ =>
      repeat ((conv => whnf); first | with_reducible refine O_step ?_ | with_reducible refine S_step ?_ | with_reducible refine D_step ?_ | with_reducible refine RO.exit ?_ | with_reducible refine RO.ret ?_ | ((with_reducible refine And.intro ?sc ?_); case sc => exact side) | ((with_reducible refine br_f ?sc ?_); case sc => exact sideB) | ((with_reducible refine br_t ?sc ?_); case sc => exact sideB))
      refine WO.gov (σ := Nat × Nat × Nat) (fun (k, gw, cw) => k ≤ 5 ∧ (packF (rV3 k)).length ≤ cw) (fun (k, _) => 5 - k) (fun (k, gw, cw) => [(1, .sl 20 0 0 10 10), (2, .int .i64 ((3 : Nat) : Int)), (3, .ptr 21 0 0), (4, .int .i64 (k : Int))])
        (fun (k, gw, cw) => wH ++ [wo 22 gw cw (rV3 k), wb gw cw (rV3 k)]) (0, 0, 0) tb_ok mixed (by kernel_rfl)
        [(1, .sl 20 0 0 10 10), (2, .int .i64 ((3 : Nat) : Int)), (3, .ptr 21 0 0), (4, .int .i64 0)] _ ⟨Nat.zero_le _, by decide⟩ (And.intro rfl (And.intro rfl (And.intro rfl (And.intro rfl (trivial))))) rfl (Vw.writer (i := 21) rfl) (And.intro rfl (And.intro rfl (And.intro rfl (And.intro rfl (And.intro rfl (And.intro rfl (And.intro rfl (And.intro rfl (And.intro rfl (And.intro rfl (And.intro rfl (And.intro rfl (And.intro rfl (And.intro rfl (And.intro rfl (And.intro rfl (And.intro rfl (And.intro rfl (And.intro rfl (And.intro rfl (And.intro rfl (And.intro rfl (And.intro rfl (trivial)))))))))))))))))))))))) (fun _ => rfl) (fun _ => rfl) (fun _ => wH_nb23) ?_
      rintro ⟨k, gw, cw⟩ ⟨hk, hcw⟩ d2
      repeat ((conv => whnf); first | with_reducible refine O_step ?_ | with_reducible refine S_step ?_ | with_reducible refine D_step ?_ | with_reducible refine RO.exit ?_ | with_reducible refine RO.ret ?_ | ((with_reducible refine And.intro ?sc ?_); case sc => exact side) | ((with_reducible refine br_f ?sc ?_); case sc => exact sideB) | ((with_reducible refine br_t ?sc ?_); case sc => exact sideB))
      refine And.intro (fun hq => ?_) (fun hq => ?_)
      · have hkl : k < 5 := by simp only [decide_eq_true_eq] at hq; omega
        have hall : ∀ k, k < 5 → 0 ≤ (([1, 2, 30, 0, 0] : List Int)).getD k 0 ∧ (([1, 2, 30, 0, 0] : List Int)).getD k 0 < 2 ^ ((([1, 2, 5, 5, 4] : List Int)).getD k 0).toNat ∧ (([1, 2, 30, 0, 0] : List Int)).getD k 0 < 4294967296 ∧ 0 ≤ (([1, 2, 5, 5, 4] : List Int)).getD k 0 ∧ (([1, 2, 5, 5, 4] : List Int)).getD k 0 ≤ 24 ∧ (rV3 k).length ≤ 100 ∧ rV3 (k + 1) = rV3 k ++ bitsOf ((([1, 2, 30, 0, 0] : List Int)).getD k 0) ((([1, 2, 5, 5, 4] : List Int)).getD k 0).toNat := by decide
        obtain ⟨a1, a2, a3, a4, a5, a6, a7⟩ := hall k hkl
        obtain ⟨v, hv⟩ : ∃ v, (([1, 2, 30, 0, 0] : List Int)).getD k 0 = v := ⟨_, rfl⟩
        obtain ⟨m, hm⟩ : ∃ m : Nat, (([1, 2, 5, 5, 4] : List Int)).getD k 0 = (m : Int) := ⟨((([1, 2, 5, 5, 4] : List Int)).getD k 0).toNat, by omega⟩
        rw [hv, hm, Int.toNat_natCast] at a7
        rw [hv, hm, Int.toNat_natCast] at a2
        rw [hv] at a1 a3
        rw [hm] at a4 a5
        have e1 : v % 4294967296 = v := by omega
        have ek : ((k : Int)).toNat + 0 = k := by omega
        have hput : putF (rV3 k) v (m : Int) = (rV3 (k + 1), 0) := by rw [a7]; exact putF_ok (by omega) a2 (by omega)
        repeat ((conv => whnf); first | with_reducible refine O_step ?_ | with_reducible refine S_step ?_ | with_reducible refine D_step ?_ | with_reducible refine RO.exit ?_ | with_reducible refine RO.ret ?_ | ((with_reducible refine And.intro ?sc ?_); case sc => exact side) | ((with_reducible refine br_f ?sc ?_); case sc => exact sideB) | ((with_reducible refine br_t ?sc ?_); case sc => exact sideB))
        rw [ek, hv, hm, e1]
        refine put_at (i := 21) (j := 22) (row := rV3 k) (row' := rV3 (k + 1)) (v := v) (n := (m : Int)) rfl rfl rfl a1 (by omega) hcw hput fun g2 c2 hc2 _ => ?_
        repeat ((conv => whnf); first | with_reducible refine O_step ?_ | with_reducible refine S_step ?_ | with_reducible refine D_step ?_ | with_reducible refine RO.exit ?_ | with_reducible refine RO.ret ?_ | ((with_reducible refine And.intro ?sc ?_); case sc => exact side) | ((with_reducible refine br_f ?sc ?_); case sc => exact sideB) | ((with_reducible refine br_t ?sc ?_); case sc => exact sideB))
        refine RO.same (k + 1, g2, c2) ⟨hkl, hc2⟩ (show 5 - (k + 1) < 5 - k by omega) (And.intro rfl (And.intro rfl (And.intro rfl (And.intro rfl (trivial))))) (And.intro rfl (And.intro rfl (And.intro rfl (And.intro rfl (And.intro rfl (And.intro rfl (And.intro rfl (And.intro rfl (And.intro rfl (And.intro rfl (And.intro rfl (And.intro rfl (And.intro rfl (And.intro rfl (And.intro rfl (And.intro rfl (And.intro rfl (And.intro rfl (And.intro rfl (And.intro rfl (And.intro rfl (And.intro rfl (And.intro rfl (trivial))))))))))))))))))))))))
      · obtain rfl : k = 5 := by simp only [decide_eq_false_iff_not] at hq; omega
        have hX : bytesF (rV3 5) = [245, 0, 0] := by decide +kernel
        repeat ((conv => whnf); first | with_reducible refine O_step ?_ | with_reducible refine S_step ?_ | with_reducible refine D_step ?_ | with_reducible refine RO.exit ?_ | with_reducible refine RO.ret ?_ | ((with_reducible refine And.intro ?sc ?_); case sc => exact side) | ((with_reducible refine br_f ?sc ?_); case sc => exact sideB) | ((with_reducible refine br_t ?sc ?_); case sc => exact sideB))
        refine bytes_at (i := 21) (j := 22) (row := rV3 5) rfl rfl rfl (by decide) hcw fun g3 c3 hc3 => ?_
        rw [hX] at hc3 ⊢
        repeat ((conv => whnf); first | with_reducible refine O_step ?_ | with_reducible refine S_step ?_ | with_reducible refine D_step ?_ | with_reducible refine RO.exit ?_ | with_reducible refine RO.ret ?_ | ((with_reducible refine And.intro ?sc ?_); case sc => exact side) | ((with_reducible refine br_f ?sc ?_); case sc => exact sideB) | ((with_reducible refine br_t ?sc ?_); case sc => exact sideB))
        refine inflate_at (i := 23) (xs := [245, 0, 0]) (limit := 100) rfl rfl hc3 (by decide) (by decide) (by decide) (fun h => absurd h (by decide)) (fun g c s _ _ e1 _ _ => ?_) (fun e _ _ e1 => ?_)
        · have e2 : infR [245, 0, 0] 100 = .ok ((), s) := e1
          rw [zw3] at e2
          cases e2
        · have e2 : infR [245, 0, 0] 100 = .error e := e1
          rw [zw3] at e2
          obtain rfl : (80 : Int) = e := by injection e2
          repeat ((conv => whnf); first | with_reducible refine O_step ?_ | with_reducible refine S_step ?_ | with_reducible refine D_step ?_ | with_reducible refine RO.exit ?_ | with_reducible refine RO.ret ?_ | ((with_reducible refine And.intro ?sc ?_); case sc => exact side) | ((with_reducible refine br_f ?sc ?_); case sc => exact sideB) | ((with_reducible refine br_t ?sc ?_); case sc => exact sideB))
          refine RO.same (3 + 1) (by decide) (by decide) (And.intro rfl (And.intro rfl (trivial))) (And.intro rfl (And.intro rfl (And.intro rfl (And.intro rfl (And.intro rfl (And.intro rfl (And.intro rfl (And.intro rfl (And.intro rfl (And.intro rfl (And.intro rfl (And.intro rfl (And.intro rfl (And.intro rfl (And.intro rfl (And.intro rfl (And.intro rfl (And.intro rfl (And.intro rfl (And.intro rfl (And.intro rfl (trivial))))))))))))))))))))))
    | 4, _ =>
      repeat ((conv => whnf); first | with_reducible refine O_step ?_ | with_reducible refine S_step ?_ | with_reducible refine D_step ?_ | with_reducible refine RO.exit ?_ | with_reducible refine RO.ret ?_ | ((with_reducible refine And.intro ?sc ?_); case sc => exact side) | ((with_reducible refine br_f ?sc ?_); case sc => exact sideB) | ((with_reducible refine br_t ?sc ?_); case sc => exact sideB))
      refine WO.gov (σ := Nat × Nat × Nat) (fun (k, gw, cw) => k ≤ 5 ∧ (packF (rV4 k)).length ≤ cw) (fun (k, _) => 5 - k) (fun (k, gw, cw) => [(1, .sl 20 0 0 10 10), (2, .int .i64 ((4 : Nat) : Int)), (3, .ptr 21 0 0), (4, .int .i64 (k : Int))])
        (fun (k, gw, cw) => wH ++ [wo 22 gw cw (rV4 k), wb gw cw (rV4 k)]) (0, 0, 0) tb_ok mixed (by kernel_rfl)
        [(1, .sl 20 0 0 10 10), (2, .int .i64 ((4 : Nat) : Int)), (3, .ptr 21 0 0), (4, .int .i64 0)] _ ⟨Nat.zero_le _, by decide⟩ (And.intro rfl (And.intro rfl (And.intro rfl (And.intro rfl (trivial))))) rfl (Vw.writer (i := 21) rfl) (And.intro rfl (And.intro rfl (And.intro rfl (And.intro rfl (And.intro rfl (And.intro rfl (And.intro rfl (And.intro rfl (And.intro rfl (And.intro rfl (And.intro rfl (And.intro rfl (And.intro rfl (And.intro rfl (And.intro rfl (And.intro rfl (And.intro rfl (And.intro rfl (And.intro rfl (And.intro rfl (And.intro rfl (And.intro rfl (And.intro rfl (trivial)))))))))))))))))))))))) (fun _ => rfl) (fun _ => rfl) (fun _ => wH_nb23) ?_
      rintro ⟨k, gw, cw⟩ ⟨hk, hcw⟩ d2
      repeat ((conv => whnf); first | with_reducible refine O_step ?_ | with_reducible refine S_step ?_ | with_reducible refine D_step ?_ | with_reducible refine RO.exit ?_ | with_reducible refine RO.ret ?_ | ((with_reducible refine And.intro ?sc ?_); case sc => exact side) | ((with_reducible refine br_f ?sc ?_); case sc => exact sideB) | ((with_reducible refine br_t ?sc ?_); case sc => exact sideB))
      refine And.intro (fun hq => ?_) (fun hq => ?_)
      · have hkl : k < 5 := by simp only [decide_eq_true_eq] at hq; omega
        have hall : ∀ k, k < 5 → 0 ≤ (([1, 2, 0, 30, 0] : List Int)).getD k 0 ∧ (([1, 2, 0, 30, 0] : List Int)).getD k 0 < 2 ^ ((([1, 2, 5, 5, 4] : List Int)).getD k 0).toNat ∧ (([1, 2, 0, 30, 0] : List Int)).getD k 0 < 4294967296 ∧ 0 ≤ (([1, 2, 5, 5, 4] : List Int)).getD k 0 ∧ (([1, 2, 5, 5, 4] : List Int)).getD k 0 ≤ 24 ∧ (rV4 k).length ≤ 100 ∧ rV4 (k + 1) = rV4 k ++ bitsOf ((([1, 2, 0, 30, 0] : List Int)).getD k 0) ((([1, 2, 5, 5, 4] : List Int)).getD k 0).toNat := by decide
        obtain ⟨a1, a2, a3, a4, a5, a6, a7⟩ := hall k hkl
        obtain ⟨v, hv⟩ : ∃ v, (([1, 2, 0, 30, 0] : List Int)).getD k 0 = v := ⟨_, rfl⟩
        obtain ⟨m, hm⟩ : ∃ m : Nat, (([1, 2, 5, 5, 4] : List Int)).getD k 0 = (m : Int) := ⟨((([1, 2, 5, 5, 4] : List Int)).getD k 0).toNat, by omega⟩
        rw [hv, hm, Int.toNat_natCast] at a7
        rw [hv, hm, Int.toNat_natCast] at a2
        rw [hv] at a1 a3
        rw [hm] at a4 a5
        have e1 : v % 4294967296 = v := by omega
        have ek : ((k : Int)).toNat + 0 = k := by omega
        have hput : putF (rV4 k) v (m : Int) = (rV4 (k + 1), 0) := by rw [a7]; exact putF_ok (by omega) a2 (by omega)
        repeat ((conv => whnf); first | with_reducible refine O_step ?_ | with_reducible refine S_step ?_ | with_reducible refine D_step ?_ | with_reducible refine RO.exit ?_ | with_reducible refine RO.ret ?_ | ((with_reducible refine And.intro ?sc ?_); case sc => exact side) | ((with_reducible refine br_f ?sc ?_); case sc => exact sideB) | ((with_reducible refine br_t ?sc ?_); case sc => exact sideB))
        rw [ek, hv, hm, e1]
        refine put_at (i := 21) (j := 22) (row := rV4 k) (row' := rV4 (k + 1)) (v := v) (n := (m : Int)) rfl rfl rfl a1 (by omega) hcw hput fun g2 c2 hc2 _ => ?_
        repeat ((conv => whnf); first | with_reducible refine O_step ?_ | with_reducible refine S_step ?_ | with_reducible refine D_step ?_ | with_reducible refine RO.exit ?_ | with_reducible refine RO.ret ?_ | ((with_reducible refine And.intro ?sc ?_); case sc => exact side) | ((with_reducible refine br_f ?sc ?_); case sc => exact sideB) | ((with_reducible refine br_t ?sc ?_); case sc => exact sideB))
        refine RO.same (k + 1, g2, c2) ⟨hkl, hc2⟩ (show 5 - (k + 1) < 5 - k by omega) (And.intro rfl (And.intro rfl (And.intro rfl (And.intro rfl (trivial))))) (And.intro rfl (And.intro rfl (And.intro rfl (And.intro rfl (And.intro rfl (And.intro rfl (And.intro rfl (And.intro rfl (And.intro rfl (And.intro rfl (And.intro rfl (And.intro rfl (And.intro rfl (And.intro rfl (And.intro rfl (And.intro rfl (And.intro rfl (And.intro rfl (And.intro rfl (And.intro rfl (And.intro rfl (And.intro rfl (And.intro rfl (trivial))))))))))))))))))))))))
      · obtain rfl : k = 5 := by simp only [decide_eq_false_iff_not] at hq; omega
        have hX : bytesF (rV4 5) = [5, 30, 0] := by decide +kernel
        repeat ((conv => whnf); first | with_reducible refine O_step ?_ | with_reducible refine S_step ?_ | with_reducible refine D_step ?_ | with_reducible refine RO.exit ?_ | with_reducible refine RO.ret ?_ | ((with_reducible refine And.intro ?sc ?_); case sc => exact side) | ((with_reducible refine br_f ?sc ?_); case sc => exact sideB) | ((with_reducible refine br_t ?sc ?_); case sc => exact sideB))
        refine bytes_at (i := 21) (j := 22) (row := rV4 5) rfl rfl rfl (by decide) hcw fun g3 c3 hc3 => ?_
        rw [hX] at hc3 ⊢
        repeat ((conv => whnf); first | with_reducible refine O_step ?_ | with_reducible refine S_step ?_ | with_reducible refine D_step ?_ | with_reducible refine RO.exit ?_ | with_reducible refine RO.ret ?_ | ((with_reducible refine And.intro ?sc ?_); case sc => exact side) | ((with_reducible refine br_f ?sc ?_); case sc => exact sideB) | ((with_reducible refine br_t ?sc ?_); case sc => exact sideB))
        refine inflate_at (i := 23) (xs := [5, 30, 0]) (limit := 100) rfl rfl hc3 (by decide) (by decide) (by decide) (fun h => absurd h (by decide)) (fun g c s _ _ e1 _ _ => ?_) (fun e _ _ e1 => ?_)
        · have e2 : infR [5, 30, 0] 100 = .ok ((), s) := e1
          rw [zw4] at e2
          cases e2
        · have e2 : infR [5, 30, 0] 100 = .error e := e1
          rw [zw4] at e2
          obtain rfl : (80 : Int) = e := by injection e2
          repeat ((conv => whnf); first | with_reducible refine O_step ?_ | with_reducible refine S_step ?_ | with_reducible refine D_step ?_ | with_reducible refine RO.exit ?_ | with_reducible refine RO.ret ?_ | ((with_reducible refine And.intro ?sc ?_); case sc => exact side) | ((with_reducible refine br_f ?sc ?_); case sc => exact sideB) | ((with_reducible refine br_t ?sc ?_); case sc => exact sideB))
          refine RO.same (4 + 1) (by decide) (by decide) (And.intro rfl (And.intro rfl (trivial))) (And.intro rfl (And.intro rfl (And.intro rfl (And.intro rfl (And.intro rfl (And.intro rfl (And.intro rfl (And.intro rfl (And.intro rfl (And.intro rfl (And.intro rfl (And.intro rfl (And.intro rfl (And.intro rfl (And.intro rfl (And.intro rfl (And.intro rfl (And.intro rfl (And.intro rfl (And.intro rfl (And.intro rfl (trivial))))))))))))))))))))))
    | 5, _ =>
      repeat ((conv => whnf); first | with_reducible refine O_step ?_ | with_reducible refine S_step ?_ | with_reducible refine D_step ?_ | with_reducible refine RO.exit ?_ | with_reducible refine RO.ret ?_ | ((with_reducible refine And.intro ?sc ?_); case sc => exact side) | ((with_reducible refine br_f ?sc ?_); case sc => exact sideB) | ((with_reducible refine br_t ?sc ?_); case sc => exact sideB))
      refine WO.gov (σ := Nat × Nat × Nat) (fun (k, gw, cw) => k ≤ 9 ∧ (packF (rV5 k)).length ≤ cw) (fun (k, _) => 9 - k) (fun (k, gw, cw) => [(1, .sl 20 0 0 10 10), (2, .int .i64 ((5 : Nat) : Int)), (3, .ptr 21 0 0), (4, .int .i64 (k : Int))])
        (fun (k, gw, cw) => wH ++ [wo 22 gw cw (rV5 k), wb gw cw (rV5 k)]) (0, 0, 0) tb_ok mixed (by kernel_rfl)
        [(1, .sl 20 0 0 10 10), (2, .int .i64 ((5 : Nat) : Int)), (3, .ptr 21 0 0), (4, .int .i64 0)] _ ⟨Nat.zero_le _, by decide⟩ (And.intro rfl (And.intro rfl (And.intro rfl (And.intro rfl (trivial))))) rfl (Vw.writer (i := 21) rfl) (And.intro rfl (And.intro rfl (And.intro rfl (And.intro rfl (And.intro rfl (And.intro rfl (And.intro rfl (And.intro rfl (And.intro rfl (And.intro rfl (And.intro rfl (And.intro rfl (And.intro rfl (And.intro rfl (And.intro rfl (And.intro rfl (And.intro rfl (And.intro rfl (And.intro rfl (And.intro rfl (And.intro rfl (And.intro rfl (And.intro rfl (trivial)))))))))))))))))))))))) (fun _ => rfl) (fun _ => rfl) (fun _ => wH_nb23) ?_
      rintro ⟨k, gw, cw⟩ ⟨hk, hcw⟩ d2
      repeat ((conv => whnf); first | with_reducible refine O_step ?_ | with_reducible refine S_step ?_ | with_reducible refine D_step ?_ | with_reducible refine RO.exit ?_ | with_reducible refine RO.ret ?_ | ((with_reducible refine And.intro ?sc ?_); case sc => exact side) | ((with_reducible refine br_f ?sc ?_); case sc => exact sideB) | ((with_reducible refine br_t ?sc ?_); case sc => exact sideB))
      refine And.intro (fun hq => ?_) (fun hq => ?_)
      · have hkl : k < 9 := by simp only [decide_eq_true_eq] at hq; omega
        have hall : ∀ k, k < 9 → 0 ≤ (([1, 2, 0, 0, 0, 1, 1, 1, 0] : List Int)).getD k 0 ∧ (([1, 2, 0, 0, 0, 1, 1, 1, 0] : List Int)).getD k 0 < 2 ^ ((([1, 2, 5, 5, 4, 3, 3, 3, 3] : List Int)).getD k 0).toNat ∧ (([1, 2, 0, 0, 0, 1, 1, 1, 0] : List Int)).getD k 0 < 4294967296 ∧ 0 ≤ (([1, 2, 5, 5, 4, 3, 3, 3, 3] : List Int)).getD k 0 ∧ (([1, 2, 5, 5, 4, 3, 3, 3, 3] : List Int)).getD k 0 ≤ 24 ∧ (rV5 k).length ≤ 100 ∧ rV5 (k + 1) = rV5 k ++ bitsOf ((([1, 2, 0, 0, 0, 1, 1, 1, 0] : List Int)).getD k 0) ((([1, 2, 5, 5, 4, 3, 3, 3, 3] : List Int)).getD k 0).toNat := by decide
        obtain ⟨a1, a2, a3, a4, a5, a6, a7⟩ := hall k hkl
        obtain ⟨v, hv⟩ : ∃ v, (([1, 2, 0, 0, 0, 1, 1, 1, 0] : List Int)).getD k 0 = v := ⟨_, rfl⟩
        obtain ⟨m, hm⟩ : ∃ m : Nat, (([1, 2, 5, 5, 4, 3, 3, 3, 3] : List Int)).getD k 0 = (m : Int) := ⟨((([1, 2, 5, 5, 4, 3, 3, 3, 3] : List Int)).getD k 0).toNat, by omega⟩
        rw [hv, hm, Int.toNat_natCast] at a7
        rw [hv, hm, Int.toNat_natCast] at a2
        rw [hv] at a1 a3
        rw [hm] at a4 a5
        have e1 : v % 4294967296 = v := by omega
        have ek : ((k : Int)).toNat + 0 = k := by omega
        have hput : putF (rV5 k) v (m : Int) = (rV5 (k + 1), 0) := by rw [a7]; exact putF_ok (by omega) a2 (by omega)
        repeat ((conv => whnf); first | with_reducible refine O_step ?_ | with_reducible refine S_step ?_ | with_reducible refine D_step ?_ | with_reducible refine RO.exit ?_ | with_reducible refine RO.ret ?_ | ((with_reducible refine And.intro ?sc ?_); case sc => exact side) | ((with_reducible refine br_f ?sc ?_); case sc => exact sideB) | ((with_reducible refine br_t ?sc ?_); case sc => exact sideB))
        rw [ek, hv, hm, e1]
        refine put_at (i := 21) (j := 22) (row := rV5 k) (row' := rV5 (k + 1)) (v := v) (n := (m : Int)) rfl rfl rfl a1 (by omega) hcw hput fun g2 c2 hc2 _ => ?_
        repeat ((conv => whnf); first | with_reducible refine O_step ?_ | with_reducible refine S_step ?_ | with_reducible refine D_step ?_ | with_reducible refine RO.exit ?_ | with_reducible refine RO.ret ?_ | ((with_reducible refine And.intro ?sc ?_); case sc => exact side) | ((with_reducible refine br_f ?sc ?_); case sc => exact sideB) | ((with_reducible refine br_t ?sc ?_); case sc => exact sideB))
        refine RO.same (k + 1, g2, c2) ⟨hkl, hc2⟩ (show 9 - (k + 1) < 9 - k by omega) (And.intro rfl (And.intro rfl (And.intro rfl (And.intro rfl (trivial))))) (And.intro rfl (And.intro rfl (And.intro rfl (And.intro rfl (And.intro rfl (And.intro rfl (And.intro rfl (And.intro rfl (And.intro rfl (And.intro rfl (And.intro rfl (And.intro rfl (And.intro rfl (And.intro rfl (And.intro rfl (And.intro rfl (And.intro rfl (And.intro rfl (And.intro rfl (And.intro rfl (And.intro rfl (And.intro rfl (And.intro rfl (trivial))))))))))))))))))))))))
      · obtain rfl : k = 9 := by simp only [decide_eq_false_iff_not] at hq; omega
        have hX : bytesF (rV5 9) = [5, 0, 146, 0] := by decide +kernel
        repeat ((conv => whnf); first | with_reducible refine O_step ?_ | with_reducible refine S_step ?_ | with_reducible refine D_step ?_ | with_reducible refine RO.exit ?_ | with_reducible refine RO.ret ?_ | ((with_reducible refine And.intro ?sc ?_); case sc => exact side) | ((with_reducible refine br_f ?sc ?_); case sc => exact sideB) | ((with_reducible refine br_t ?sc ?_); case sc => exact sideB))
        refine bytes_at (i := 21) (j := 22) (row := rV5 9) rfl rfl rfl (by decide) hcw fun g3 c3 hc3 => ?_
        rw [hX] at hc3 ⊢
        repeat ((conv => whnf); first | with_reducible refine O_step ?_ | with_reducible refine S_step ?_ | with_reducible refine D_step ?_ | with_reducible refine RO.exit ?_ | with_reducible refine RO.ret ?_ | ((with_reducible refine And.intro ?sc ?_); case sc => exact side) | ((with_reducible refine br_f ?sc ?_); case sc => exact sideB) | ((with_reducible refine br_t ?sc ?_); case sc => exact sideB))
        refine inflate_at (i := 23) (xs := [5, 0, 146, 0]) (limit := 100) rfl rfl hc3 (by decide) (by decide) (by decide) (fun h => absurd h (by decide)) (fun g c s _ _ e1 _ _ => ?_) (fun e _ _ e1 => ?_)
        · have e2 : infR [5, 0, 146, 0] 100 = .ok ((), s) := e1
          rw [zw5] at e2
          cases e2
        · have e2 : infR [5, 0, 146, 0] 100 = .error e := e1
          rw [zw5] at e2
          obtain rfl : (60 : Int) = e := by injection e2
          repeat ((conv => whnf); first | with_reducible refine O_step ?_ | with_reducible refine S_step ?_ | with_reducible refine D_step ?_ | with_reducible refine RO.exit ?_ | with_reducible refine RO.ret ?_ | ((with_reducible refine And.intro ?sc ?_); case sc => exact side) | ((with_reducible refine br_f ?sc ?_); case sc => exact sideB) | ((with_reducible refine br_t ?sc ?_); case sc => exact sideB))
          refine RO.same (5 + 1) (by decide) (by decide) (And.intro rfl (And.intro rfl (trivial))) (And.intro rfl (And.intro rfl (And.intro rfl (And.intro rfl (And.intro rfl (And.intro rfl (And.intro rfl (And.intro rfl (And.intro rfl (And.intro rfl (And.intro rfl (And.intro rfl (And.intro rfl (And.intro rfl (And.intro rfl (And.intro rfl (And.intro rfl (And.intro rfl (And.intro rfl (And.intro rfl (And.intro rfl (trivial))))))))))))))))))))))
    | 6, _ =>
      repeat ((conv => whnf); first | with_reducible refine O_step ?_ | with_reducible refine S_step ?_ | with_reducible refine D_step ?_ | with_reducible refine RO.exit ?_ | with_reducible refine RO.ret ?_ | ((with_reducible refine And.intro ?sc ?_); case sc => exact side) | ((with_reducible refine br_f ?sc ?_); case sc => exact sideB) | ((with_reducible refine br_t ?sc ?_); case sc => exact sideB))
      refine WO.gov (σ := Nat × Nat × Nat) (fun (k, gw, cw) => k ≤ 10 ∧ (packF (rV6 k)).length ≤ cw) (fun (k, _) => 10 - k) (fun (k, gw, cw) => [(1, .sl 20 0 0 10 10), (2, .int .i64 ((6 : Nat) : Int)), (3, .ptr 21 0 0), (4, .int .i64 (k : Int))])
        (fun (k, gw, cw) => wH ++ [wo 22 gw cw (rV6 k), wb gw cw (rV6 k)]) (0, 0, 0) tb_ok mixed (by kernel_rfl)
        [(1, .sl 20 0 0 10 10), (2, .int .i64 ((6 : Nat) : Int)), (3, .ptr 21 0 0), (4, .int .i64 0)] _ ⟨Nat.zero_le _, by decide⟩ (And.intro rfl (And.intro rfl (And.intro rfl (And.intro rfl (trivial))))) rfl (Vw.writer (i := 21) rfl) (And.intro rfl (And.intro rfl (And.intro rfl (And.intro rfl (And.intro rfl (And.intro rfl (And.intro rfl (And.intro rfl (And.intro rfl (And.intro rfl (And.intro rfl (And.intro rfl (And.intro rfl (And.intro rfl (And.intro rfl (And.intro rfl (And.intro rfl (And.intro rfl (And.intro rfl (And.intro rfl (And.intro rfl (And.intro rfl (And.intro rfl (trivial)))))))))))))))))))))))) (fun _ => rfl) (fun _ => rfl) (fun _ => wH_nb23) ?_
      rintro ⟨k, gw, cw⟩ ⟨hk, hcw⟩ d2
      repeat ((conv => whnf); first | with_reducible refine O_step ?_ | with_reducible refine S_step ?_ | with_reducible refine D_step ?_ | with_reducible refine RO.exit ?_ | with_reducible refine RO.ret ?_ | ((with_reducible refine And.intro ?sc ?_); case sc => exact side) | ((with_reducible refine br_f ?sc ?_); case sc => exact sideB) | ((with_reducible refine br_t ?sc ?_); case sc => exact sideB))
      refine And.intro (fun hq => ?_) (fun hq => ?_)
      · have hkl : k < 10 := by simp only [decide_eq_true_eq] at hq; omega
        have hall : ∀ k, k < 10 → 0 ≤ (([1, 2, 0, 0, 0, 1, 0, 0, 0, 0] : List Int)).getD k 0 ∧ (([1, 2, 0, 0, 0, 1, 0, 0, 0, 0] : List Int)).getD k 0 < 2 ^ ((([1, 2, 5, 5, 4, 3, 3, 3, 3, 1] : List Int)).getD k 0).toNat ∧ (([1, 2, 0, 0, 0, 1, 0, 0, 0, 0] : List Int)).getD k 0 < 4294967296 ∧ 0 ≤ (([1, 2, 5, 5, 4, 3, 3, 3, 3, 1] : List Int)).getD k 0 ∧ (([1, 2, 5, 5, 4, 3, 3, 3, 3, 1] : List Int)).getD k 0 ≤ 24 ∧ (rV6 k).length ≤ 100 ∧ rV6 (k + 1) = rV6 k ++ bitsOf ((([1, 2, 0, 0, 0, 1, 0, 0, 0, 0] : List Int)).getD k 0) ((([1, 2, 5, 5, 4, 3, 3, 3, 3, 1] : List Int)).getD k 0).toNat := by decide
        obtain ⟨a1, a2, a3, a4, a5, a6, a7⟩ := hall k hkl
        obtain ⟨v, hv⟩ : ∃ v, (([1, 2, 0, 0, 0, 1, 0, 0, 0, 0] : List Int)).getD k 0 = v := ⟨_, rfl⟩
        obtain ⟨m, hm⟩ : ∃ m : Nat, (([1, 2, 5, 5, 4, 3, 3, 3, 3, 1] : List Int)).getD k 0 = (m : Int) := ⟨((([1, 2, 5, 5, 4, 3, 3, 3, 3, 1] : List Int)).getD k 0).toNat, by omega⟩
        rw [hv, hm, Int.toNat_natCast] at a7
        rw [hv, hm, Int.toNat_natCast] at a2
        rw [hv] at a1 a3
        rw [hm] at a4 a5
        have e1 : v % 4294967296 = v := by omega
        have ek : ((k : Int)).toNat + 0 = k := by omega
        have hput : putF (rV6 k) v (m : Int) = (rV6 (k + 1), 0) := by rw [a7]; exact putF_ok (by omega) a2 (by omega)
        repeat ((conv => whnf); first | with_reducible refine O_step ?_ | with_reducible refine S_step ?_ | with_reducible refine D_step ?_ | with_reducible refine RO.exit ?_ | with_reducible refine RO.ret ?_ | ((with_reducible refine And.intro ?sc ?_); case sc => exact side) | ((with_reducible refine br_f ?sc ?_); case sc => exact sideB) | ((with_reducible refine br_t ?sc ?_); case sc => exact sideB))
        rw [ek, hv, hm, e1]
        refine put_at (i := 21) (j := 22) (row := rV6 k) (row' := rV6 (k + 1)) (v := v) (n := (m : Int)) rfl rfl rfl a1 (by omega) hcw hput fun g2 c2 hc2 _ => ?_
        repeat ((conv => whnf); first | with_reducible refine O_step ?_ | with_reducible refine S_step ?_ | with_reducible refine D_step ?_ | with_reducible refine RO.exit ?_ | with_reducible refine RO.ret ?_ | ((with_reducible refine And.intro ?sc ?_); case sc => exact side) | ((with_reducible refine br_f ?sc ?_); case sc => exact sideB) | ((with_reducible refine br_t ?sc ?_); case sc => exact sideB))
        refine RO.same (k + 1, g2, c2) ⟨hkl, hc2⟩ (show 10 - (k + 1) < 10 - k by omega) (And.intro rfl (And.intro rfl (And.intro rfl (And.intro rfl (trivial))))) (And.intro rfl (And.intro rfl (And.intro rfl (And.intro rfl (And.intro rfl (And.intro rfl (And.intro rfl (And.intro rfl (And.intro rfl (And.intro rfl (And.intro rfl (And.intro rfl (And.intro rfl (And.intro rfl (And.intro rfl (And.intro rfl (And.intro rfl (And.intro rfl (And.intro rfl (And.intro rfl (And.intro rfl (And.intro rfl (And.intro rfl (trivial))))))))))))))))))))))))
      · obtain rfl : k = 10 := by simp only [decide_eq_false_iff_not] at hq; omega
        have hX : bytesF (rV6 10) = [5, 0, 2, 0] := by decide +kernel
        repeat ((conv => whnf); first | with_reducible refine O_step ?_ | with_reducible refine S_step ?_ | with_reducible refine D_step ?_ | with_reducible refine RO.exit ?_ | with_reducible refine RO.ret ?_ | ((with_reducible refine And.intro ?sc ?_); case sc => exact side) | ((with_reducible refine br_f ?sc ?_); case sc => exact sideB) | ((with_reducible refine br_t ?sc ?_); case sc => exact sideB))
        refine bytes_at (i := 21) (j := 22) (row := rV6 10) rfl rfl rfl (by decide) hcw fun g3 c3 hc3 => ?_
        rw [hX] at hc3 ⊢
        repeat ((conv => whnf); first | with_reducible refine O_step ?_ | with_reducible refine S_step ?_ | with_reducible refine D_step ?_ | with_reducible refine RO.exit ?_ | with_reducible refine RO.ret ?_ | ((with_reducible refine And.intro ?sc ?_); case sc => exact side) | ((with_reducible refine br_f ?sc ?_); case sc => exact sideB) | ((with_reducible refine br_t ?sc ?_); case sc => exact sideB))
        refine inflate_at (i := 23) (xs := [5, 0, 2, 0]) (limit := 100) rfl rfl hc3 (by decide) (by decide) (by decide) (fun h => absurd h (by decide)) (fun g c s _ _ e1 _ _ => ?_) (fun e _ _ e1 => ?_)
        · have e2 : infR [5, 0, 2, 0] 100 = .ok ((), s) := e1
          rw [zw6] at e2
          cases e2
        · have e2 : infR [5, 0, 2, 0] 100 = .error e := e1
          rw [zw6] at e2
          obtain rfl : (80 : Int) = e := by injection e2
          repeat ((conv => whnf); first | with_reducible refine O_step ?_ | with_reducible refine S_step ?_ | with_reducible refine D_step ?_ | with_reducible refine RO.exit ?_ | with_reducible refine RO.ret ?_ | ((with_reducible refine And.intro ?sc ?_); case sc => exact side) | ((with_reducible refine br_f ?sc ?_); case sc => exact sideB) | ((with_reducible refine br_t ?sc ?_); case sc => exact sideB))
          refine RO.same (6 + 1) (by decide) (by decide) (And.intro rfl (And.intro rfl (trivial))) (And.intro rfl (And.intro rfl (And.intro rfl (And.intro rfl (And.intro rfl (And.intro rfl (And.intro rfl (And.intro rfl (And.intro rfl (And.intro rfl (And.intro rfl (And.intro rfl (And.intro rfl (And.intro rfl (And.intro rfl (And.intro rfl (And.intro rfl (And.intro rfl (And.intro rfl (And.intro rfl (And.intro rfl (trivial))))))))))))))))))))))
    | 7, _ =>
      repeat ((conv => whnf); first | with_reducible refine O_step ?_ | with_reducible refine S_step ?_ | with_reducible refine D_step ?_ | with_reducible refine RO.exit ?_ | with_reducible refine RO.ret ?_ | ((with_reducible refine And.intro ?sc ?_); case sc => exact side) | ((with_reducible refine br_f ?sc ?_); case sc => exact sideB) | ((with_reducible refine br_t ?sc ?_); case sc => exact sideB))
      refine WO.gov (σ := Nat × Nat × Nat) (fun (k, gw, cw) => k ≤ 13 ∧ (packF (rV7 k)).length ≤ cw) (fun (k, _) => 13 - k) (fun (k, gw, cw) => [(1, .sl 20 0 0 10 10), (2, .int .i64 ((7 : Nat) : Int)), (3, .ptr 21 0 0), (4, .int .i64 (k : Int))])
        (fun (k, gw, cw) => wH ++ [wo 22 gw cw (rV7 k), wb gw cw (rV7 k)]) (0, 0, 0) tb_ok mixed (by kernel_rfl)
        [(1, .sl 20 0 0 10 10), (2, .int .i64 ((7 : Nat) : Int)), (3, .ptr 21 0 0), (4, .int .i64 0)] _ ⟨Nat.zero_le _, by decide⟩ (And.intro rfl (And.intro rfl (And.intro rfl (And.intro rfl (trivial))))) rfl (Vw.writer (i := 21) rfl) (And.intro rfl (And.intro rfl (And.intro rfl (And.intro rfl (And.intro rfl (And.intro rfl (And.intro rfl (And.intro rfl (And.intro rfl (And.intro rfl (And.intro rfl (And.intro rfl (And.intro rfl (And.intro rfl (And.intro rfl (And.intro rfl (And.intro rfl (And.intro rfl (And.intro rfl (And.intro rfl (And.intro rfl (And.intro rfl (And.intro rfl (trivial)))))))))))))))))))))))) (fun _ => rfl) (fun _ => rfl) (fun _ => wH_nb23) ?_
      rintro ⟨k, gw, cw⟩ ⟨hk, hcw⟩ d2
      repeat ((conv => whnf); first | with_reducible refine O_step ?_ | with_reducible refine S_step ?_ | with_reducible refine D_step ?_ | with_reducible refine RO.exit ?_ | with_reducible refine RO.ret ?_ | ((with_reducible refine And.intro ?sc ?_); case sc => exact side) | ((with_reducible refine br_f ?sc ?_); case sc => exact sideB) | ((with_reducible refine br_t ?sc ?_); case sc => exact sideB))
      refine And.intro (fun hq => ?_) (fun hq => ?_)
      · have hkl : k < 13 := by simp only [decide_eq_true_eq] at hq; omega
        have hall : ∀ k, k < 13 → 0 ≤ (([1, 2, 0, 0, 0, 0, 0, 1, 0, 0, 127, 0, 127] : List Int)).getD k 0 ∧ (([1, 2, 0, 0, 0, 0, 0, 1, 0, 0, 127, 0, 127] : List Int)).getD k 0 < 2 ^ ((([1, 2, 5, 5, 4, 3, 3, 3, 3, 1, 7, 1, 7] : List Int)).getD k 0).toNat ∧ (([1, 2, 0, 0, 0, 0, 0, 1, 0, 0, 127, 0, 127] : List Int)).getD k 0 < 4294967296 ∧ 0 ≤ (([1, 2, 5, 5, 4, 3, 3, 3, 3, 1, 7, 1, 7] : List Int)).getD k 0 ∧ (([1, 2, 5, 5, 4, 3, 3, 3, 3, 1, 7, 1, 7] : List Int)).getD k 0 ≤ 24 ∧ (rV7 k).length ≤ 100 ∧ rV7 (k + 1) = rV7 k ++ bitsOf ((([1, 2, 0, 0, 0, 0, 0, 1, 0, 0, 127, 0, 127] : List Int)).getD k 0) ((([1, 2, 5, 5, 4, 3, 3, 3, 3, 1, 7, 1, 7] : List Int)).getD k 0).toNat := by decide
        obtain ⟨a1, a2, a3, a4, a5, a6, a7⟩ := hall k hkl
        obtain ⟨v, hv⟩ : ∃ v, (([1, 2, 0, 0, 0, 0, 0, 1, 0, 0, 127, 0, 127] : List Int)).getD k 0 = v := ⟨_, rfl⟩
        obtain ⟨m, hm⟩ : ∃ m : Nat, (([1, 2, 5, 5, 4, 3, 3, 3, 3, 1, 7, 1, 7] : List Int)).getD k 0 = (m : Int) := ⟨((([1, 2, 5, 5, 4, 3, 3, 3, 3, 1, 7, 1, 7] : List Int)).getD k 0).toNat, by omega⟩
        rw [hv, hm, Int.toNat_natCast] at a7
        rw [hv, hm, Int.toNat_natCast] at a2
        rw [hv] at a1 a3
        rw [hm] at a4 a5
        have e1 : v % 4294967296 = v := by omega
        have ek : ((k : Int)).toNat + 0 = k := by omega
        have hput : putF (rV7 k) v (m : Int) = (rV7 (k + 1), 0) := by rw [a7]; exact putF_ok (by omega) a2 (by omega)
        repeat ((conv => whnf); first | with_reducible refine O_step ?_ | with_reducible refine S_step ?_ | with_reducible refine D_step ?_ | with_reducible refine RO.exit ?_ | with_reducible refine RO.ret ?_ | ((with_reducible refine And.intro ?sc ?_); case sc => exact side) | ((with_reducible refine br_f ?sc ?_); case sc => exact sideB) | ((with_reducible refine br_t ?sc ?_); case sc => exact sideB))
        rw [ek, hv, hm, e1]
        refine put_at (i := 21) (j := 22) (row := rV7 k) (row' := rV7 (k + 1)) (v := v) (n := (m : Int)) rfl rfl rfl a1 (by omega) hcw hput fun g2 c2 hc2 _ => ?_
        repeat ((conv => whnf); first | with_reducible refine O_step ?_ | with_reducible refine S_step ?_ | with_reducible refine D_step ?_ | with_reducible refine RO.exit ?_ | with_reducible refine RO.ret ?_ | ((with_reducible refine And.intro ?sc ?_); case sc => exact side) | ((with_reducible refine br_f ?sc ?_); case sc => exact sideB) | ((with_reducible refine br_t ?sc ?_); case sc => exact sideB))
        refine RO.same (k + 1, g2, c2) ⟨hkl, hc2⟩ (show 13 - (k + 1) < 13 - k by omega) (And.intro rfl (And.intro rfl (And.intro rfl (And.intro rfl (trivial))))) (And.intro rfl (And.intro rfl (And.intro rfl (And.intro rfl (And.intro rfl (And.intro rfl (And.intro rfl (And.intro rfl (And.intro rfl (And.intro rfl (And.intro rfl (And.intro rfl (And.intro rfl (And.intro rfl (And.intro rfl (And.intro rfl (And.intro rfl (And.intro rfl (And.intro rfl (And.intro rfl (And.intro rfl (And.intro rfl (And.intro rfl (trivial))))))))))))))))))))))))
      · obtain rfl : k = 13 := by simp only [decide_eq_false_iff_not] at hq; omega
        have hX : bytesF (rV7 13) = [5, 0, 128, 192, 223, 31] := by decide +kernel
        repeat ((conv => whnf); first | with_reducible refine O_step ?_ | with_reducible refine S_step ?_ | with_reducible refine D_step ?_ | with_reducible refine RO.exit ?_ | with_reducible refine RO.ret ?_ | ((with_reducible refine And.intro ?sc ?_); case sc => exact side) | ((with_reducible refine br_f ?sc ?_); case sc => exact sideB) | ((with_reducible refine br_t ?sc ?_); case sc => exact sideB))
        refine bytes_at (i := 21) (j := 22) (row := rV7 13) rfl rfl rfl (by decide) hcw fun g3 c3 hc3 => ?_
        rw [hX] at hc3 ⊢
        repeat ((conv => whnf); first | with_reducible refine O_step ?_ | with_reducible refine S_step ?_ | with_reducible refine D_step ?_ | with_reducible refine RO.exit ?_ | with_reducible refine RO.ret ?_ | ((with_reducible refine And.intro ?sc ?_); case sc => exact side) | ((with_reducible refine br_f ?sc ?_); case sc => exact sideB) | ((with_reducible refine br_t ?sc ?_); case sc => exact sideB))
        refine inflate_at (i := 23) (xs := [5, 0, 128, 192, 223, 31]) (limit := 100) rfl rfl hc3 (by decide) (by decide) (by decide) (fun h => absurd h (by decide)) (fun g c s _ _ e1 _ _ => ?_) (fun e _ _ e1 => ?_)
        · have e2 : infR [5, 0, 128, 192, 223, 31] 100 = .ok ((), s) := e1
          rw [zw7] at e2
          cases e2
        · have e2 : infR [5, 0, 128, 192, 223, 31] 100 = .error e := e1
          rw [zw7] at e2
          obtain rfl : (80 : Int) = e := by injection e2
          repeat ((conv => whnf); first | with_reducible refine O_step ?_ | with_reducible refine S_step ?_ | with_reducible refine D_step ?_ | with_reducible refine RO.exit ?_ | with_reducible refine RO.ret ?_ | ((with_reducible refine And.intro ?sc ?_); case sc => exact side) | ((with_reducible refine br_f ?sc ?_); case sc => exact sideB) | ((with_reducible refine br_t ?sc ?_); case sc => exact sideB))
          refine RO.same (7 + 1) (by decide) (by decide) (And.intro rfl (And.intro rfl (trivial))) (And.intro rfl (And.intro rfl (And.intro rfl (And.intro rfl (And.intro rfl (And.intro rfl (And.intro rfl (And.intro rfl (And.intro rfl (And.intro rfl (And.intro rfl (And.intro rfl (And.intro rfl (And.intro rfl (And.intro rfl (And.intro rfl (And.intro rfl (And.intro rfl (And.intro rfl (And.intro rfl (And.intro rfl (trivial))))))))))))))))))))))
    | 8, _ =>
      repeat ((conv => whnf); first | with_reducible refine O_step ?_ | with_reducible refine S_step ?_ | with_reducible refine D_step ?_ | with_reducible refine RO.exit ?_ | with_reducible refine RO.ret ?_ | ((with_reducible refine And.intro ?sc ?_); case sc => exact side) | ((with_reducible refine br_f ?sc ?_); case sc => exact sideB) | ((with_reducible refine br_t ?sc ?_); case sc => exact sideB))
      refine WO.gov (σ := Nat × Nat × Nat) (fun (k, gw, cw) => k ≤ 13 ∧ (packF (rV8 k)).length ≤ cw) (fun (k, _) => 13 - k) (fun (k, gw, cw) => [(1, .sl 20 0 0 10 10), (2, .int .i64 ((8 : Nat) : Int)), (3, .ptr 21 0 0), (4, .int .i64 (k : Int))])
        (fun (k, gw, cw) => wH ++ [wo 22 gw cw (rV8 k), wb gw cw (rV8 k)]) (0, 0, 0) tb_ok mixed (by kernel_rfl)
        [(1, .sl 20 0 0 10 10), (2, .int .i64 ((8 : Nat) : Int)), (3, .ptr 21 0 0), (4, .int .i64 0)] _ ⟨Nat.zero_le _, by decide⟩ (And.intro rfl (And.intro rfl (And.intro rfl (And.intro rfl (trivial))))) rfl (Vw.writer (i := 21) rfl) (And.intro rfl (And.intro rfl (And.intro rfl (And.intro rfl (And.intro rfl (And.intro rfl (And.intro rfl (And.intro rfl (And.intro rfl (And.intro rfl (And.intro rfl (And.intro rfl (And.intro rfl (And.intro rfl (And.intro rfl (And.intro rfl (And.intro rfl (And.intro rfl (And.intro rfl (And.intro rfl (And.intro rfl (And.intro rfl (And.intro rfl (trivial)))))))))))))))))))))))) (fun _ => rfl) (fun _ => rfl) (fun _ => wH_nb23) ?_
      rintro ⟨k, gw, cw⟩ ⟨hk, hcw⟩ d2
      repeat ((conv => whnf); first | with_reducible refine O_step ?_ | with_reducible refine S_step ?_ | with_reducible refine D_step ?_ | with_reducible refine RO.exit ?_ | with_reducible refine RO.ret ?_ | ((with_reducible refine And.intro ?sc ?_); case sc => exact side) | ((with_reducible refine br_f ?sc ?_); case sc => exact sideB) | ((with_reducible refine br_t ?sc ?_); case sc => exact sideB))
      refine And.intro (fun hq => ?_) (fun hq => ?_)
      · have hkl : k < 13 := by simp only [decide_eq_true_eq] at hq; omega
        have hall : ∀ k, k < 13 → 0 ≤ (([1, 2, 0, 0, 0, 0, 0, 1, 0, 0, 127, 0, 109] : List Int)).getD k 0 ∧ (([1, 2, 0, 0, 0, 0, 0, 1, 0, 0, 127, 0, 109] : List Int)).getD k 0 < 2 ^ ((([1, 2, 5, 5, 4, 3, 3, 3, 3, 1, 7, 1, 7] : List Int)).getD k 0).toNat ∧ (([1, 2, 0, 0, 0, 0, 0, 1, 0, 0, 127, 0, 109] : List Int)).getD k 0 < 4294967296 ∧ 0 ≤ (([1, 2, 5, 5, 4, 3, 3, 3, 3, 1, 7, 1, 7] : List Int)).getD k 0 ∧ (([1, 2, 5, 5, 4, 3, 3, 3, 3, 1, 7, 1, 7] : List Int)).getD k 0 ≤ 24 ∧ (rV8 k).length ≤ 100 ∧ rV8 (k + 1) = rV8 k ++ bitsOf ((([1, 2, 0, 0, 0, 0, 0, 1, 0, 0, 127, 0, 109] : List Int)).getD k 0) ((([1, 2, 5, 5, 4, 3, 3, 3, 3, 1, 7, 1, 7] : List Int)).getD k 0).toNat := by decide
        obtain ⟨a1, a2, a3, a4, a5, a6, a7⟩ := hall k hkl
        obtain ⟨v, hv⟩ : ∃ v, (([1, 2, 0, 0, 0, 0, 0, 1, 0, 0, 127, 0, 109] : List Int)).getD k 0 = v := ⟨_, rfl⟩
        obtain ⟨m, hm⟩ : ∃ m : Nat, (([1, 2, 5, 5, 4, 3, 3, 3, 3, 1, 7, 1, 7] : List Int)).getD k 0 = (m : Int) := ⟨((([1, 2, 5, 5, 4, 3, 3, 3, 3, 1, 7, 1, 7] : List Int)).getD k 0).toNat, by omega⟩
        rw [hv, hm, Int.toNat_natCast] at a7
        rw [hv, hm, Int.toNat_natCast] at a2
        rw [hv] at a1 a3
        rw [hm] at a4 a5
        have e1 : v % 4294967296 = v := by omega
        have ek : ((k : Int)).toNat + 0 = k := by omega
        have hput : putF (rV8 k) v (m : Int) = (rV8 (k + 1), 0) := by rw [a7]; exact putF_ok (by omega) a2 (by omega)
        repeat ((conv => whnf); first | with_reducible refine O_step ?_ | with_reducible refine S_step ?_ | with_reducible refine D_step ?_ | with_reducible refine RO.exit ?_ | with_reducible refine RO.ret ?_ | ((with_reducible refine And.intro ?sc ?_); case sc => exact side) | ((with_reducible refine br_f ?sc ?_); case sc => exact sideB) | ((with_reducible refine br_t ?sc ?_); case sc => exact sideB))
        rw [ek, hv, hm, e1]
        refine put_at (i := 21) (j := 22) (row := rV8 k) (row' := rV8 (k + 1)) (v := v) (n := (m : Int)) rfl rfl rfl a1 (by omega) hcw hput fun g2 c2 hc2 _ => ?_
        repeat ((conv => whnf); first | with_reducible refine O_step ?_ | with_reducible refine S_step ?_ | with_reducible refine D_step ?_ | with_reducible refine RO.exit ?_ | with_reducible refine RO.ret ?_ | ((with_reducible refine And.intro ?sc ?_); case sc => exact side) | ((with_reducible refine br_f ?sc ?_); case sc => exact sideB) | ((with_reducible refine br_t ?sc ?_); case sc => exact sideB))
        refine RO.same (k + 1, g2, c2) ⟨hkl, hc2⟩ (show 13 - (k + 1) < 13 - k by omega) (And.intro rfl (And.intro rfl (And.intro rfl (And.intro rfl (trivial))))) (And.intro rfl (And.intro rfl (And.intro rfl (And.intro rfl (And.intro rfl (And.intro rfl (And.intro rfl (And.intro rfl (And.intro rfl (And.intro rfl (And.intro rfl (And.intro rfl (And.intro rfl (And.intro rfl (And.intro rfl (And.intro rfl (And.intro rfl (And.intro rfl (And.intro rfl (And.intro rfl (And.intro rfl (And.intro rfl (And.intro rfl (trivial))))))))))))))))))))))))
      · obtain rfl : k = 13 := by simp only [decide_eq_false_iff_not] at hq; omega
        have hX : bytesF (rV8 13) = [5, 0, 128, 192, 95, 27] := by decide +kernel
        repeat ((conv => whnf); first | with_reducible refine O_step ?_ | with_reducible refine S_step ?_ | with_reducible refine D_step ?_ | with_reducible refine RO.exit ?_ | with_reducible refine RO.ret ?_ | ((with_reducible refine And.intro ?sc ?_); case sc => exact side) | ((with_reducible refine br_f ?sc ?_); case sc => exact sideB) | ((with_reducible refine br_t ?sc ?_); case sc => exact sideB))
        refine bytes_at (i := 21) (j := 22) (row := rV8 13) rfl rfl rfl (by decide) hcw fun g3 c3 hc3 => ?_
        rw [hX] at hc3 ⊢
        repeat ((conv => whnf); first | with_reducible refine O_step ?_ | with_reducible refine S_step ?_ | with_reducible refine D_step ?_ | with_reducible refine RO.exit ?_ | with_reducible refine RO.ret ?_ | ((with_reducible refine And.intro ?sc ?_); case sc => exact side) | ((with_reducible refine br_f ?sc ?_); case sc => exact sideB) | ((with_reducible refine br_t ?sc ?_); case sc => exact sideB))
        refine inflate_at (i := 23) (xs := [5, 0, 128, 192, 95, 27]) (limit := 100) rfl rfl hc3 (by decide) (by decide) (by decide) (fun h => absurd h (by decide)) (fun g c s _ _ e1 _ _ => ?_) (fun e _ _ e1 => ?_)
        · have e2 : infR [5, 0, 128, 192, 95, 27] 100 = .ok ((), s) := e1
          rw [zw8] at e2
          cases e2
        · have e2 : infR [5, 0, 128, 192, 95, 27] 100 = .error e := e1
          rw [zw8] at e2
          obtain rfl : (80 : Int) = e := by injection e2
          repeat ((conv => whnf); first | with_reducible refine O_step ?_ | with_reducible refine S_step ?_ | with_reducible refine D_step ?_ | with_reducible refine RO.exit ?_ | with_reducible refine RO.ret ?_ | ((with_reducible refine And.intro ?sc ?_); case sc => exact side) | ((with_reducible refine br_f ?sc ?_); case sc => exact sideB) | ((with_reducible refine br_t ?sc ?_); case sc => exact sideB))
          refine RO.same (8 + 1) (by decide) (by decide) (And.intro rfl (And.intro rfl (trivial))) (And.intro rfl (And.intro rfl (And.intro rfl (And.intro rfl (And.intro rfl (And.intro rfl (And.intro rfl (And.intro rfl (And.intro rfl (And.intro rfl (And.intro rfl (And.intro rfl (And.intro rfl (And.intro rfl (And.intro rfl (And.intro rfl (And.intro rfl (And.intro rfl (And.intro rfl (And.intro rfl (And.intro rfl (trivial))))))))))))))))))))))
    | 9, _ =>
      repeat ((conv => whnf); first | with_reducible refine O_step ?_ | with_reducible refine S_step ?_ | with_reducible refine D_step ?_ | with_reducible refine RO.exit ?_ | with_reducible refine RO.ret ?_ | ((with_reducible refine And.intro ?sc ?_); case sc => exact side) | ((with_reducible refine br_f ?sc ?_); case sc => exact sideB) | ((with_reducible refine br_t ?sc ?_); case sc => exact sideB))
      refine WO.gov (σ := Nat × Nat × Nat) (fun (k, gw, cw) => k ≤ 10 ∧ (packF (rV9 k)).length ≤ cw) (fun (k, _) => 10 - k) (fun (k, gw, cw) => [(1, .sl 20 0 0 10 10), (2, .int .i64 ((9 : Nat) : Int)), (3, .ptr 21 0 0), (4, .int .i64 (k : Int))])
        (fun (k, gw, cw) => wH ++ [wo 22 gw cw (rV9 k), wb gw cw (rV9 k)]) (0, 0, 0) tb_ok mixed (by kernel_rfl)
        [(1, .sl 20 0 0 10 10), (2, .int .i64 ((9 : Nat) : Int)), (3, .ptr 21 0 0), (4, .int .i64 0)] _ ⟨Nat.zero_le _, by decide⟩ (And.intro rfl (And.intro rfl (And.intro rfl (And.intro rfl (trivial))))) rfl (Vw.writer (i := 21) rfl) (And.intro rfl (And.intro rfl (And.intro rfl (And.intro rfl (And.intro rfl (And.intro rfl (And.intro rfl (And.intro rfl (And.intro rfl (And.intro rfl (And.intro rfl (And.intro rfl (And.intro rfl (And.intro rfl (And.intro rfl (And.intro rfl (And.intro rfl (And.intro rfl (And.intro rfl (And.intro rfl (And.intro rfl (And.intro rfl (And.intro rfl (trivial)))))))))))))))))))))))) (fun _ => rfl) (fun _ => rfl) (fun _ => wH_nb23) ?_
      rintro ⟨k, gw, cw⟩ ⟨hk, hcw⟩ d2
      repeat ((conv => whnf); first | with_reducible refine O_step ?_ | with_reducible refine S_step ?_ | with_reducible refine D_step ?_ | with_reducible refine RO.exit ?_ | with_reducible refine RO.ret ?_ | ((with_reducible refine And.intro ?sc ?_); case sc => exact side) | ((with_reducible refine br_f ?sc ?_); case sc => exact sideB) | ((with_reducible refine br_t ?sc ?_); case sc => exact sideB))
      refine And.intro (fun hq => ?_) (fun hq => ?_)
      · have hkl : k < 10 := by simp only [decide_eq_true_eq] at hq; omega
        have hall : ∀ k, k < 10 → 0 ≤ (([1, 2, 0, 0, 0, 0, 0, 1, 0, 1] : List Int)).getD k 0 ∧ (([1, 2, 0, 0, 0, 0, 0, 1, 0, 1] : List Int)).getD k 0 < 2 ^ ((([1, 2, 5, 5, 4, 3, 3, 3, 3, 1] : List Int)).getD k 0).toNat ∧ (([1, 2, 0, 0, 0, 0, 0, 1, 0, 1] : List Int)).getD k 0 < 4294967296 ∧ 0 ≤ (([1, 2, 5, 5, 4, 3, 3, 3, 3, 1] : List Int)).getD k 0 ∧ (([1, 2, 5, 5, 4, 3, 3, 3, 3, 1] : List Int)).getD k 0 ≤ 24 ∧ (rV9 k).length ≤ 100 ∧ rV9 (k + 1) = rV9 k ++ bitsOf ((([1, 2, 0, 0, 0, 0, 0, 1, 0, 1] : List Int)).getD k 0) ((([1, 2, 5, 5, 4, 3, 3, 3, 3, 1] : List Int)).getD k 0).toNat := by decide
        obtain ⟨a1, a2, a3, a4, a5, a6, a7⟩ := hall k hkl
        obtain ⟨v, hv⟩ : ∃ v, (([1, 2, 0, 0, 0, 0, 0, 1, 0, 1] : List Int)).getD k 0 = v := ⟨_, rfl⟩
        obtain ⟨m, hm⟩ : ∃ m : Nat, (([1, 2, 5, 5, 4, 3, 3, 3, 3, 1] : List Int)).getD k 0 = (m : Int) := ⟨((([1, 2, 5, 5, 4, 3, 3, 3, 3, 1] : List Int)).getD k 0).toNat, by omega⟩
        rw [hv, hm, Int.toNat_natCast] at a7
        rw [hv, hm, Int.toNat_natCast] at a2
        rw [hv] at a1 a3
        rw [hm] at a4 a5
        have e1 : v % 4294967296 = v := by omega
        have ek : ((k : Int)).toNat + 0 = k := by omega
        have hput : putF (rV9 k) v (m : Int) = (rV9 (k + 1), 0) := by rw [a7]; exact putF_ok (by omega) a2 (by omega)
        repeat ((conv => whnf); first | with_reducible refine O_step ?_ | with_reducible refine S_step ?_ | with_reducible refine D_step ?_ | with_reducible refine RO.exit ?_ | with_reducible refine RO.ret ?_ | ((with_reducible refine And.intro ?sc ?_); case sc => exact side) | ((with_reducible refine br_f ?sc ?_); case sc => exact sideB) | ((with_reducible refine br_t ?sc ?_); case sc => exact sideB))
        rw [ek, hv, hm, e1]
        refine put_at (i := 21) (j := 22) (row := rV9 k) (row' := rV9 (k + 1)) (v := v) (n := (m : Int)) rfl rfl rfl a1 (by omega) hcw hput fun g2 c2 hc2 _ => ?_
        repeat ((conv => whnf); first | with_reducible refine O_step ?_ | with_reducible refine S_step ?_ | with_reducible refine D_step ?_ | with_reducible refine RO.exit ?_ | with_reducible refine RO.ret ?_ | ((with_reducible refine And.intro ?sc ?_); case sc => exact side) | ((with_reducible refine br_f ?sc ?_); case sc => exact sideB) | ((with_reducible refine br_t ?sc ?_); case sc => exact sideB))
        refine RO.same (k + 1, g2, c2) ⟨hkl, hc2⟩ (show 10 - (k + 1) < 10 - k by omega) (And.intro rfl (And.intro rfl (And.intro rfl (And.intro rfl (trivial))))) (And.intro rfl (And.intro rfl (And.intro rfl (And.intro rfl (And.intro rfl (And.intro rfl (And.intro rfl (And.intro rfl (And.intro rfl (And.intro rfl (And.intro rfl (And.intro rfl (And.intro rfl (And.intro rfl (And.intro rfl (And.intro rfl (And.intro rfl (And.intro rfl (And.intro rfl (And.intro rfl (And.intro rfl (And.intro rfl (And.intro rfl (trivial))))))))))))))))))))))))
      · obtain rfl : k = 10 := by simp only [decide_eq_false_iff_not] at hq; omega
        have hX : bytesF (rV9 10) = [5, 0, 128, 32] := by decide +kernel
        repeat ((conv => whnf); first | with_reducible refine O_step ?_ | with_reducible refine S_step ?_ | with_reducible refine D_step ?_ | with_reducible refine RO.exit ?_ | with_reducible refine RO.ret ?_ | ((with_reducible refine And.intro ?sc ?_); case sc => exact side) | ((with_reducible refine br_f ?sc ?_); case sc => exact sideB) | ((with_reducible refine br_t ?sc ?_); case sc => exact sideB))
        refine bytes_at (i := 21) (j := 22) (row := rV9 10) rfl rfl rfl (by decide) hcw fun g3 c3 hc3 => ?_
        rw [hX] at hc3 ⊢
        repeat ((conv => whnf); first | with_reducible refine O_step ?_ | with_reducible refine S_step ?_ | with_reducible refine D_step ?_ | with_reducible refine RO.exit ?_ | with_reducible refine RO.ret ?_ | ((with_reducible refine And.intro ?sc ?_); case sc => exact side) | ((with_reducible refine br_f ?sc ?_); case sc => exact sideB) | ((with_reducible refine br_t ?sc ?_); case sc => exact sideB))
        refine inflate_at (i := 23) (xs := [5, 0, 128, 32]) (limit := 100) rfl rfl hc3 (by decide) (by decide) (by decide) (fun h => absurd h (by decide)) (fun g c s _ _ e1 _ _ => ?_) (fun e _ _ e1 => ?_)
        · have e2 : infR [5, 0, 128, 32] 100 = .ok ((), s) := e1
          rw [zw9] at e2
          cases e2
        · have e2 : infR [5, 0, 128, 32] 100 = .error e := e1
          rw [zw9] at e2
          obtain rfl : (60 : Int) = e := by injection e2
          repeat ((conv => whnf); first | with_reducible refine O_step ?_ | with_reducible refine S_step ?_ | with_reducible refine D_step ?_ | with_reducible refine RO.exit ?_ | with_reducible refine RO.ret ?_ | ((with_reducible refine And.intro ?sc ?_); case sc => exact side) | ((with_reducible refine br_f ?sc ?_); case sc => exact sideB) | ((with_reducible refine br_t ?sc ?_); case sc => exact sideB))
          refine RO.same (9 + 1) (by decide) (by decide) (And.intro rfl (And.intro rfl (trivial))) (And.intro rfl (And.intro rfl (And.intro rfl (And.intro rfl (And.intro rfl (And.intro rfl (And.intro rfl (And.intro rfl (And.intro rfl (And.intro rfl (And.intro rfl (And.intro rfl (And.intro rfl (And.intro rfl (And.intro rfl (And.intro rfl (And.intro rfl (And.intro rfl (And.intro rfl (And.intro rfl (And.intro rfl (trivial))))))))))))))))))))))
  · obtain rfl : i = 10 := by omega
    repeat ((conv => whnf); first | with_reducible refine O_step ?_ | with_reducible refine S_step ?_ | with_reducible refine D_step ?_ | with_reducible refine RO.exit ?_ | with_reducible refine RO.ret ?_ | ((with_reducible refine And.intro ?sc ?_); case sc => exact side) | ((with_reducible refine br_f ?sc ?_); case sc => exact sideB) | ((with_reducible refine br_t ?sc ?_); case sc => exact sideB))
    exact ⟨[], subA_nil _, trivial, rfl, ⟨true, rfl, h⟩⟩
end

end Go.Proofs.Yteinenklppbjkaa
