/- Layer 6: a table's Read. -/
import Derived.Test.YteinenklppbjkaaH11

import Derived.Test.YteinenklppbjkaaGb

set_option linter.unusedVariables false

set_option linter.unusedSimpArgs false

open Go.RowKit

namespace Go.Proofs.Yteinenklppbjkaa

set_option maxRecDepth 10000

/-- What Read answers, plainly: the symbol, the place behind, the error. -/
def readG (es : List ((Int × Int) × Int)) (row : List Bool) : Nat → Nat → Nat → Nat → Int × Nat × Int
  | 0, _, _, a => (0, a, 50)
  | f + 1, c, n, a => match findZ ((c : Int), (n : Int)) es with
    | none => (0, a, 60)
    | some z => if 0 ≤ z then (z, a, 0) else if row.length ≤ a then (0, a, 50) else readG es row f (2 * c + (if row.getD a false then 1 else 0)) (n + 1) (a + 1)
def treadF (es : List ((Int × Int) × Int)) (row : List Bool) (a : Nat) : Int × Nat × Int := readG es row (row.length - a + 1) 0 0 a
def trdH (g c : Nat) (xs : List Int) (a : Nat) (es : List ((Int × Int) × Int)) : AH := [ro 1 g c xs a, rb g c xs, .one true 0 (.map (.pair .i64 .i64) (mzM es)), .one true 0 (.cells [.mp 2 0])]
section

variable {K Kp : AV → AH → Prop} {xs : List Int} {g c : Nat} {es : List ((Int × Int) × Int)}

theorem tread_call {a : Nat} (hb : xs.length ≤ 1000000) (ha : a ≤ 8 * xs.length) (hxs : ∀ x ∈ xs, 0 ≤ x ∧ x < 256) (hes : ∀ k z, findZ k es = some z → k.2 ≤ 15)
    (hK : K (.tup [.int .i64 (treadF es (unpack xs) a).1, .int .i64 (treadF es (unpack xs) a).2.2]) (trdH g c xs (treadF es (unpack xs) a).2.1 es)) :
    CallA Try.prog 63 [.ptr 3 0 0, .ptr 0 0 0] (trdH g c xs a es) K Kp := by
  refine CallA.post_sub ?_
  refine step63 (fun _ => [2, 3, 4]) [] rfl ?_
  repeat ((conv => whnf); first | with_reducible refine O_step ?_ | with_reducible refine S_step ?_ | with_reducible refine D_step ?_ | with_reducible refine RO.exit ?_ | with_reducible refine RO.ret ?_ | ((with_reducible refine And.intro ?sc ?_); case sc => exact side) | ((with_reducible refine br_f ?sc ?_); case sc => exact sideB) | ((with_reducible refine br_t ?sc ?_); case sc => exact sideB))
  have hul := unpack_length xs
  refine WO.go (σ := Nat × Nat × Nat) (fun (cb, n, b) => cb < 2 ^ n ∧ n ≤ 16 ∧ b ≤ 8 * xs.length ∧ readG es (unpack xs) (8 * xs.length - b + 1) cb n b = treadF es (unpack xs) a) (fun (_, _, b) => 8 * xs.length - b)
    (fun _ => [(0, .ptr 3 0 0), (1, .ptr 0 0 0), (6, .ptr 4 0 0)]) (fun (cb, n, b) => [ro 1 g c xs b, rb g c xs, .one true 0 (.map (.pair .i64 .i64) (mzM es)), .one true 0 (.cells [.mp 2 0]), .one true 0 (.cells [.int .i64 (cb : Int), .int .i64 (n : Int)])]) (0, 0, a) tb_ok mixed (by kernel_rfl) ⟨by decide, by decide, ha, by unfold treadF; rw [hul]⟩ (And.intro rfl (And.intro rfl (And.intro rfl (trivial)))) (And.intro rfl (And.intro rfl (And.intro rfl (And.intro rfl (And.intro rfl (trivial)))))) (fun _ => rfl) (fun _ => rfl) (fun _ => ⟨rfl, trivial, mz_nb _ (.pair .i64 .i64) _, rfl, rfl, trivial⟩) ?_
  rintro ⟨cb, n, b⟩ ⟨h1, h2, h3, h4⟩ d
  have hcb : cb < 2 ^ 16 := Nat.lt_of_lt_of_le h1 (Nat.pow_le_pow_right (by omega) h2)
  simp only [readG] at h4
  repeat ((conv => whnf); first | with_reducible refine O_step ?_ | with_reducible refine S_step ?_ | with_reducible refine D_step ?_ | with_reducible refine RO.exit ?_ | with_reducible refine RO.ret ?_ | ((with_reducible refine And.intro ?sc ?_); case sc => exact side))
  refine And.intro (fun v hv => ?_) (fun hv => ?_)
  · have hv' := hv
    rw [findM_mz] at hv'
    cases hz : findZ ((cb : Int), (n : Int)) es with
    | none => rw [hz] at hv'; cases hv'
    | some z =>
    rw [hz] at hv' h4
    obtain rfl : AV.int .i64 z = v := by simpa using hv'
    have hn15 : n ≤ 15 := by have := hes _ _ hz; simp only at this; omega
    simp only at h4
    repeat ((conv => whnf); first | with_reducible refine O_step ?_ | with_reducible refine S_step ?_ | with_reducible refine D_step ?_ | with_reducible refine RO.exit ?_ | with_reducible refine RO.ret ?_ | ((with_reducible refine And.intro ?sc ?_); case sc => exact side) | ((with_reducible refine br_f ?sc ?_); case sc => exact sideB) | ((with_reducible refine br_t ?sc ?_); case sc => exact sideB))
    refine And.intro (fun hs => ?_) (fun hs => ?_)
    · have hs' : 0 ≤ z := by simpa using hs
      rw [if_pos hs'] at h4
      rw [← h4] at hK
      repeat ((conv => whnf); first | with_reducible refine O_step ?_ | with_reducible refine S_step ?_ | with_reducible refine D_step ?_ | with_reducible refine RO.exit ?_ | with_reducible refine RO.ret ?_ | ((with_reducible refine And.intro ?sc ?_); case sc => exact side) | ((with_reducible refine br_f ?sc ?_); case sc => exact sideB) | ((with_reducible refine br_t ?sc ?_); case sc => exact sideB))
      exact Exists.intro (trdH g c xs b es) (And.intro (And.intro rfl (And.intro rfl (And.intro rfl (And.intro rfl (trivial))))) (And.intro ⟨rfl, trivial, mz_nb _ (.pair .i64 .i64) _, rfl, trivial⟩ (And.intro rfl hK)))
    · have hs' : ¬ 0 ≤ z := by simpa using hs
      rw [if_neg hs'] at h4
      by_cases hbl : (unpack xs).length ≤ b
      · rw [if_pos hbl] at h4
        have hp : getF xs b 1 = (0, b, 50) := by
          unfold getF; rw [if_neg (by omega), if_pos (by omega)]
        rw [← h4] at hK
        repeat ((conv => whnf); first | with_reducible refine O_step ?_ | with_reducible refine S_step ?_ | with_reducible refine D_step ?_ | with_reducible refine RO.exit ?_ | with_reducible refine RO.ret ?_ | ((with_reducible refine And.intro ?sc ?_); case sc => exact side) | ((with_reducible refine br_f ?sc ?_); case sc => exact sideB) | ((with_reducible refine br_t ?sc ?_); case sc => exact sideB))
        refine get_at (i := 0) (j := 1) rfl rfl rfl (by omega) h3 hxs hp ?_
        repeat ((conv => whnf); first | with_reducible refine O_step ?_ | with_reducible refine S_step ?_ | with_reducible refine D_step ?_ | with_reducible refine RO.exit ?_ | with_reducible refine RO.ret ?_ | ((with_reducible refine And.intro ?sc ?_); case sc => exact side) | ((with_reducible refine br_f ?sc ?_); case sc => exact sideB) | ((with_reducible refine br_t ?sc ?_); case sc => exact sideB))
        exact Exists.intro (trdH g c xs b es) (And.intro (And.intro rfl (And.intro rfl (And.intro rfl (And.intro rfl (trivial))))) (And.intro ⟨rfl, trivial, mz_nb _ (.pair .i64 .i64) _, rfl, trivial⟩ (And.intro rfl hK)))
      · rw [if_neg hbl] at h4
        generalize hbz : (if (unpack xs).getD b false = true then 1 else 0) = bz at h4
        have hbz2 : bz < 2 := by rw [← hbz]; split <;> omega
        have hp : getF xs b 1 = ((bz : Int), b + 1, 0) := by
          unfold getF; rw [if_neg (by omega), if_neg (by omega)]
          have hlt : b < (unpack xs).length := by omega
          have : ((unpack xs).drop b).take (1 : Int).toNat = [(unpack xs)[b]] := by
            rw [show (1 : Int).toNat = 1 from rfl, List.take_one, List.head?_drop, List.getElem?_eq_getElem hlt]; rfl
          rw [this, ← hbz, List.getD_eq_getElem?_getD, List.getElem?_eq_getElem hlt]
          cases (unpack xs)[b] <;> rfl
        have e1 : shlF .i64 (cb : Int) 1 = ((2 * cb : Nat) : Int) := shl64_1 (by omega)
        have e2 : bitF .or .i64 ((2 * cb : Nat) : Int) (bz : Int) = ((2 * cb + bz : Nat) : Int) := or64_bit (by omega) hbz2
        repeat ((conv => whnf); first | with_reducible refine O_step ?_ | with_reducible refine S_step ?_ | with_reducible refine D_step ?_ | with_reducible refine RO.exit ?_ | with_reducible refine RO.ret ?_ | ((with_reducible refine And.intro ?sc ?_); case sc => exact side) | ((with_reducible refine br_f ?sc ?_); case sc => exact sideB) | ((with_reducible refine br_t ?sc ?_); case sc => exact sideB))
        refine get_at (i := 0) (j := 1) rfl rfl rfl (by omega) h3 hxs hp ?_
        repeat ((conv => whnf); first | with_reducible refine O_step ?_ | with_reducible refine S_step ?_ | with_reducible refine D_step ?_ | with_reducible refine RO.exit ?_ | with_reducible refine RO.ret ?_ | ((with_reducible refine And.intro ?sc ?_); case sc => exact side) | ((with_reducible refine br_f ?sc ?_); case sc => exact sideB) | ((with_reducible refine br_t ?sc ?_); case sc => exact sideB))
        refine RO.same (2 * cb + bz, n + 1, b + 1) ⟨by rw [Nat.pow_succ]; omega, by omega, by omega, ?_⟩ (show 8 * xs.length - (b + 1) < 8 * xs.length - b by omega) (And.intro rfl (And.intro rfl (And.intro rfl (trivial)))) (And.intro rfl (And.intro rfl (And.intro rfl (And.intro rfl (And.intro ?_ trivial)))))
        · rw [← h4, show 8 * xs.length - b = 8 * xs.length - (b + 1) + 1 by omega]
        · show AO.one true 0 (.cells [.int .i64 ((2 * cb + bz : Nat) : Int), .int .i64 ((n + 1 : Nat) : Int)]) = AO.one true 0 (.cells [.int .i64 (bitF .or .i64 (shlF .i64 (cb : Int) 1) (bz : Int)), .int .i64 ((n : Int) + 1)])
          rw [e1, e2]; rfl
  · have hv' : findZ ((cb : Int), (n : Int)) es = none := by
      have : (findZ ((cb : Int), (n : Int)) es).map (AV.int .i64) = none := by rw [← findM_mz]; exact hv
      simpa using this
    rw [hv'] at h4
    simp only at h4
    rw [← h4] at hK
    repeat ((conv => whnf); first | with_reducible refine O_step ?_ | with_reducible refine S_step ?_ | with_reducible refine D_step ?_ | with_reducible refine RO.exit ?_ | with_reducible refine RO.ret ?_ | ((with_reducible refine And.intro ?sc ?_); case sc => exact side) | ((with_reducible refine br_f ?sc ?_); case sc => exact sideB) | ((with_reducible refine br_t ?sc ?_); case sc => exact sideB))
    exact Exists.intro (trdH g c xs b es) (And.intro (And.intro rfl (And.intro rfl (And.intro rfl (And.intro rfl (trivial))))) (And.intro ⟨rfl, trivial, mz_nb _ (.pair .i64 .i64) _, rfl, trivial⟩ (And.intro rfl hK)))
end

end Go.Proofs.Yteinenklppbjkaa
