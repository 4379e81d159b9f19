/- Layer 23: a pen's number, when it writes. -/
import Derived.Test.YtedlpkibdjccdaaM0

set_option linter.unusedVariables false

set_option linter.unusedSimpArgs false

open Go.RowKit

namespace Go.Proofs.Ytedlpkibdjccdaa

set_option maxRecDepth 10000


theorem numW_call {v : Int} {n g cb gs cS cB : Nat} {c0 : AV} {R : List AV} {b S B : List Int} {K Kp : AV → AH → Prop} (hn : n ≤ 8) (hv : 0 ≤ v ∧ v < 18446744073709551616) (hb : b.length ≤ cb) (hb1 : b.length ≤ 1000000000) (h0 : c0.nb 4 = true) (hR : AV.nbl 4 R = true)
    (h : ∀ g' cb', (b ++ beW v n).length ≤ cb' → K (.int .u64 v) [.one true 0 (.cells (c0 :: .tt :: .sl 1 g' 0 (b ++ beW v n).length cb' :: R)), .one true g' (.ints .u8 (b ++ beW v n) cb'), .one true gs (.ints .u32 S cS), .one false 0 (.ints .u8 B cB)]) :
    CallA Try.prog 22 [.ptr 0 0 0, .int .u64 v, .int .i64 n] [.one true 0 (.cells (c0 :: .tt :: .sl 1 g 0 b.length cb :: R)), .one true g (.ints .u8 b cb), .one true gs (.ints .u32 S cS), .one false 0 (.ints .u8 B cB)] K Kp := by
  refine step22 (fun _ => [0]) [] rfl ?_
  repeat ((conv => whnf); first | with_reducible refine O_step ?_ | with_reducible refine S_step ?_ | with_reducible refine D_step ?_ | with_reducible refine RO.exit ?_ | with_reducible refine RO.ret ?_ | ((with_reducible refine And.intro ?sc ?_); case sc => exact side) | ((with_reducible refine br_f ?sc ?_); case sc => exact sideB) | ((with_reducible refine br_t ?sc ?_); case sc => exact sideB))
  refine WO.go (σ := Nat × Nat × Nat × List Int) (fun (k, g, cb, ys) => k ≤ n ∧ ys.length ≤ cb ∧ ys ++ beW v k = b ++ beW v n) (fun (k, _) => k)
    (fun (k, g, cb, ys) => [(0, .ptr 0 0 0), (1, .int .u64 v), (7, .int .i64 ((k : Int) - 1))])
    (fun (k, g, cb, ys) => [.one true 0 (.cells (c0 :: .tt :: .sl 1 g 0 ys.length cb :: R)), .one true g (.ints .u8 ys cb), .one true gs (.ints .u32 S cS), .one false 0 (.ints .u8 B cB)]) (n, g, cb, b) tb_ok mixed (by kernel_rfl)
    ⟨Nat.le_refl _, hb, rfl⟩ (And.intro rfl (And.intro rfl (And.intro rfl (trivial)))) (subA_refl _) (fun _ => rfl) (fun _ => rfl) (fun _ => ⟨by simp [AO.nb, Cont.nb, AV.nbl, AV.nb, h0, hR], trivial, trivial, trivial, trivial⟩) ?_
  rintro ⟨k, g, cb, ys⟩ ⟨h1, h2, h3⟩ d
  have hl := congrArg List.length h3
  simp only [List.length_append, beW_length] at hl
  repeat ((conv => whnf); first | with_reducible refine O_step ?_ | with_reducible refine S_step ?_ | with_reducible refine D_step ?_ | with_reducible refine RO.exit ?_ | with_reducible refine RO.ret ?_ | ((with_reducible refine And.intro ?sc ?_); case sc => exact side) | ((with_reducible refine br_f ?sc ?_); case sc => exact sideB) | ((with_reducible refine br_t ?sc ?_); case sc => exact sideB))
  refine And.intro (fun hc => ?_) (fun hc => ?_)
  · have hc' : 0 ≤ (k : Int) - 1 := of_decide_eq_true hc
    obtain ⟨k, rfl⟩ : ∃ j, k = j + 1 := ⟨k - 1, by omega⟩
    have e8 : (8 : Int) * (((k + 1 : Nat) : Int) - 1) = ((8 * k : Nat) : Int) := by push_cast; omega
    repeat ((conv => whnf); first | with_reducible refine O_step ?_ | with_reducible refine S_step ?_ | with_reducible refine D_step ?_ | with_reducible refine RO.exit ?_ | with_reducible refine RO.ret ?_ | ((with_reducible refine And.intro ?sc ?_); case sc => exact side) | ((with_reducible refine br_f ?sc ?_); case sc => exact sideB) | ((with_reducible refine br_t ?sc ?_); case sc => exact sideB))
    intro zs hzs
    have hz : zs = [v / 2 ^ (8 * k) % 256] := by
      rw [hzs]
      show [shrF .u64 v (8 * (((k + 1 : Nat) : Int) - 1)) % 256] = _
      rw [e8, shr64 (by omega)]
    subst hz
    repeat ((conv => whnf); first | with_reducible refine O_step ?_ | with_reducible refine S_step ?_ | with_reducible refine D_step ?_ | with_reducible refine RO.exit ?_ | with_reducible refine RO.ret ?_ | ((with_reducible refine And.intro ?sc ?_); case sc => exact side) | ((with_reducible refine br_f ?sc ?_); case sc => exact sideB) | ((with_reducible refine br_t ?sc ?_); case sc => exact sideB))
    intro c2 hc2
    repeat ((conv => whnf); first | with_reducible refine O_step ?_ | with_reducible refine S_step ?_ | with_reducible refine D_step ?_ | with_reducible refine RO.exit ?_ | with_reducible refine RO.ret ?_ | ((with_reducible refine And.intro ?sc ?_); case sc => exact side) | ((with_reducible refine br_f ?sc ?_); case sc => exact sideB) | ((with_reducible refine br_t ?sc ?_); case sc => exact sideB))
    refine RO.same (k, g + 1, c2, ys ++ [v / 2 ^ (8 * k) % 256]) ⟨by omega, by rw [List.length_append]; exact hc2, by rw [List.append_assoc]; exact h3⟩ (Nat.lt_succ_self k) (And.intro rfl (And.intro rfl (And.intro ?_ trivial))) (And.intro ?_ (And.intro rfl (And.intro rfl (And.intro rfl (trivial)))))
    · show AV.int .i64 (((k + 1 : Nat) : Int) - 1 - 1) = AV.int .i64 ((k : Int) - 1)
      congr 1; push_cast; omega
    · show AO.one true 0 (.cells (c0 :: .tt :: .sl 1 (g + 1) 0 (ys ++ [v / 2 ^ (8 * k) % 256]).length c2 :: R)) = AO.one true 0 (.cells (c0 :: .tt :: .sl 1 (g + 1) 0 (ys.length + 1) c2 :: R))
      rw [List.length_append]; rfl
  · have hc' : ¬ 0 ≤ (k : Int) - 1 := of_decide_eq_false hc
    obtain rfl : k = 0 := by omega
    simp only [beW, List.append_nil] at h3
    subst h3
    repeat ((conv => whnf); first | with_reducible refine O_step ?_ | with_reducible refine S_step ?_ | with_reducible refine D_step ?_ | with_reducible refine RO.exit ?_ | with_reducible refine RO.ret ?_ | ((with_reducible refine And.intro ?sc ?_); case sc => exact side) | ((with_reducible refine br_f ?sc ?_); case sc => exact sideB) | ((with_reducible refine br_t ?sc ?_); case sc => exact sideB))
    exact h g cb h2
theorem numH_call {v : Int} {n g cb : Nat} {c0 : AV} {R : List AV} {b : List Int} {K Kp : AV → AH → Prop} (hn : n ≤ 8) (hv : 0 ≤ v ∧ v < 18446744073709551616) (hb : b.length ≤ cb) (hb1 : b.length ≤ 1000000000) (h0 : c0.nb 2 = true) (hR : AV.nbl 2 R = true)
    (h : ∀ g' cb', (b ++ beW v n).length ≤ cb' → K (.int .u64 v) [.one true 0 (.cells (c0 :: .tt :: .sl 1 g' 0 (b ++ beW v n).length cb' :: R)), .one true g' (.ints .u8 (b ++ beW v n) cb')]) :
    CallA Try.prog 22 [.ptr 0 0 0, .int .u64 v, .int .i64 n] [.one true 0 (.cells (c0 :: .tt :: .sl 1 g 0 b.length cb :: R)), .one true g (.ints .u8 b cb)] K Kp := by
  refine step22 (fun _ => [0]) [] rfl ?_
  repeat ((conv => whnf); first | with_reducible refine O_step ?_ | with_reducible refine S_step ?_ | with_reducible refine D_step ?_ | with_reducible refine RO.exit ?_ | with_reducible refine RO.ret ?_ | ((with_reducible refine And.intro ?sc ?_); case sc => exact side) | ((with_reducible refine br_f ?sc ?_); case sc => exact sideB) | ((with_reducible refine br_t ?sc ?_); case sc => exact sideB))
  refine WO.go (σ := Nat × Nat × Nat × List Int) (fun (k, g, cb, ys) => k ≤ n ∧ ys.length ≤ cb ∧ ys ++ beW v k = b ++ beW v n) (fun (k, _) => k)
    (fun (k, g, cb, ys) => [(0, .ptr 0 0 0), (1, .int .u64 v), (7, .int .i64 ((k : Int) - 1))])
    (fun (k, g, cb, ys) => [.one true 0 (.cells (c0 :: .tt :: .sl 1 g 0 ys.length cb :: R)), .one true g (.ints .u8 ys cb)]) (n, g, cb, b) tb_ok mixed (by kernel_rfl)
    ⟨Nat.le_refl _, hb, rfl⟩ (And.intro rfl (And.intro rfl (And.intro rfl (trivial)))) (subA_refl _) (fun _ => rfl) (fun _ => rfl) (fun _ => ⟨by simp [AO.nb, Cont.nb, AV.nbl, AV.nb, h0, hR], trivial, trivial⟩) ?_
  rintro ⟨k, g, cb, ys⟩ ⟨h1, h2, h3⟩ d
  have hl := congrArg List.length h3
  simp only [List.length_append, beW_length] at hl
  repeat ((conv => whnf); first | with_reducible refine O_step ?_ | with_reducible refine S_step ?_ | with_reducible refine D_step ?_ | with_reducible refine RO.exit ?_ | with_reducible refine RO.ret ?_ | ((with_reducible refine And.intro ?sc ?_); case sc => exact side) | ((with_reducible refine br_f ?sc ?_); case sc => exact sideB) | ((with_reducible refine br_t ?sc ?_); case sc => exact sideB))
  refine And.intro (fun hc => ?_) (fun hc => ?_)
  · have hc' : 0 ≤ (k : Int) - 1 := of_decide_eq_true hc
    obtain ⟨k, rfl⟩ : ∃ j, k = j + 1 := ⟨k - 1, by omega⟩
    have e8 : (8 : Int) * (((k + 1 : Nat) : Int) - 1) = ((8 * k : Nat) : Int) := by push_cast; omega
    repeat ((conv => whnf); first | with_reducible refine O_step ?_ | with_reducible refine S_step ?_ | with_reducible refine D_step ?_ | with_reducible refine RO.exit ?_ | with_reducible refine RO.ret ?_ | ((with_reducible refine And.intro ?sc ?_); case sc => exact side) | ((with_reducible refine br_f ?sc ?_); case sc => exact sideB) | ((with_reducible refine br_t ?sc ?_); case sc => exact sideB))
    intro zs hzs
    have hz : zs = [v / 2 ^ (8 * k) % 256] := by
      rw [hzs]
      show [shrF .u64 v (8 * (((k + 1 : Nat) : Int) - 1)) % 256] = _
      rw [e8, shr64 (by omega)]
    subst hz
    repeat ((conv => whnf); first | with_reducible refine O_step ?_ | with_reducible refine S_step ?_ | with_reducible refine D_step ?_ | with_reducible refine RO.exit ?_ | with_reducible refine RO.ret ?_ | ((with_reducible refine And.intro ?sc ?_); case sc => exact side) | ((with_reducible refine br_f ?sc ?_); case sc => exact sideB) | ((with_reducible refine br_t ?sc ?_); case sc => exact sideB))
    intro c2 hc2
    repeat ((conv => whnf); first | with_reducible refine O_step ?_ | with_reducible refine S_step ?_ | with_reducible refine D_step ?_ | with_reducible refine RO.exit ?_ | with_reducible refine RO.ret ?_ | ((with_reducible refine And.intro ?sc ?_); case sc => exact side) | ((with_reducible refine br_f ?sc ?_); case sc => exact sideB) | ((with_reducible refine br_t ?sc ?_); case sc => exact sideB))
    refine RO.same (k, g + 1, c2, ys ++ [v / 2 ^ (8 * k) % 256]) ⟨by omega, by rw [List.length_append]; exact hc2, by rw [List.append_assoc]; exact h3⟩ (Nat.lt_succ_self k) (And.intro rfl (And.intro rfl (And.intro ?_ trivial))) (And.intro ?_ (And.intro rfl trivial))
    · show AV.int .i64 (((k + 1 : Nat) : Int) - 1 - 1) = AV.int .i64 ((k : Int) - 1)
      congr 1; push_cast; omega
    · show AO.one true 0 (.cells (c0 :: .tt :: .sl 1 (g + 1) 0 (ys ++ [v / 2 ^ (8 * k) % 256]).length c2 :: R)) = AO.one true 0 (.cells (c0 :: .tt :: .sl 1 (g + 1) 0 (ys.length + 1) c2 :: R))
      rw [List.length_append]; rfl
  · have hc' : ¬ 0 ≤ (k : Int) - 1 := of_decide_eq_false hc
    obtain rfl : k = 0 := by omega
    simp only [beW, List.append_nil] at h3
    subst h3
    repeat ((conv => whnf); first | with_reducible refine O_step ?_ | with_reducible refine S_step ?_ | with_reducible refine D_step ?_ | with_reducible refine RO.exit ?_ | with_reducible refine RO.ret ?_ | ((with_reducible refine And.intro ?sc ?_); case sc => exact side) | ((with_reducible refine br_f ?sc ?_); case sc => exact sideB) | ((with_reducible refine br_t ?sc ?_); case sc => exact sideB))
    exact h g cb h2
end Go.Proofs.Ytedlpkibdjccdaa
