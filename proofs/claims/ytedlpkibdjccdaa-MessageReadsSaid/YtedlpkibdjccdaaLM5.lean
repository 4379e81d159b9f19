/- Layer 23: MessageReads. -/
import Derived.Test.YtedlpkibdjccdaaLM0

import Derived.Test.YtedlpkibdjccdaaN7

set_option linter.unusedVariables false

set_option linter.unusedSimpArgs false

open Go.RowKit

namespace Go.Proofs.Ytedlpkibdjccdaa

set_option maxRecDepth 10000

theorem mReads_call {b : List Int} {c : Nat} (hb : ∀ x ∈ b, in8 x) (kb : b.length ≤ c) :
    CallA Try.prog 4 [.sl 0 0 0 b.length c] [.one false 0 (.ints .u8 b c)] (fun r _ => r = .bo true) (fun _ _ => False) := by
  refine step4 (fun _ => [0, 1, 2, 3, 4, 5, 6, 7]) [] rfl ?_
  repeat ((conv => whnf); first | with_reducible refine O_step ?_ | with_reducible refine S_step ?_ | with_reducible refine D_step ?_ | with_reducible refine RO.exit ?_ | with_reducible refine RO.ret ?_ | ((with_reducible refine And.intro ?sc ?_); case sc => exact side) | ((with_reducible refine br_f ?sc ?_); case sc => exact sideB) | ((with_reducible refine br_t ?sc ?_); case sc => exact sideB))
  refine And.intro (fun hc => ?_) (fun hc => ?_)
  · repeat ((conv => whnf); first | with_reducible refine O_step ?_ | with_reducible refine S_step ?_ | with_reducible refine D_step ?_ | with_reducible refine RO.exit ?_ | with_reducible refine RO.ret ?_ | ((with_reducible refine And.intro ?sc ?_); case sc => exact side) | ((with_reducible refine br_f ?sc ?_); case sc => exact sideB) | ((with_reducible refine br_t ?sc ?_); case sc => exact sideB))
    rfl
  have hl1 : b.length ≤ 3000 := by have := of_decide_eq_false hc; omega
  repeat ((conv => whnf); first | with_reducible refine O_step ?_ | with_reducible refine S_step ?_ | with_reducible refine D_step ?_ | with_reducible refine RO.exit ?_ | with_reducible refine RO.ret ?_ | ((with_reducible refine And.intro ?sc ?_); case sc => exact side) | ((with_reducible refine br_f ?sc ?_); case sc => exact sideB) | ((with_reducible refine br_t ?sc ?_); case sc => exact sideB))
  intro zs hzs
  obtain rfl : b = zs := by rw [hzs]; exact List.take_length.symm
  repeat ((conv => whnf); first | with_reducible refine O_step ?_ | with_reducible refine S_step ?_ | with_reducible refine D_step ?_ | with_reducible refine RO.exit ?_ | with_reducible refine RO.ret ?_ | ((with_reducible refine And.intro ?sc ?_); case sc => exact side) | ((with_reducible refine br_f ?sc ?_); case sc => exact sideB) | ((with_reducible refine br_t ?sc ?_); case sc => exact sideB))
  intro c1 k1
  repeat ((conv => whnf); first | with_reducible refine O_step ?_ | with_reducible refine S_step ?_ | with_reducible refine D_step ?_ | with_reducible refine RO.exit ?_ | with_reducible refine RO.ret ?_ | ((with_reducible refine And.intro ?sc ?_); case sc => exact side) | ((with_reducible refine br_f ?sc ?_); case sc => exact sideB) | ((with_reducible refine br_t ?sc ?_); case sc => exact sideB))
  refine mread_at (b := b) (Y := b) (cY := c1) (i := 1) (gi := 0) (off := 0) (o1 := true) (slot_one rfl) (by omega) (by rw [List.drop_zero, List.take_length]) hb (by omega) k1 (fun gS dS gD dD j1 j2 => ?_)
  repeat ((conv => whnf); first | with_reducible refine O_step ?_ | with_reducible refine S_step ?_ | with_reducible refine D_step ?_ | with_reducible refine RO.exit ?_ | with_reducible refine RO.ret ?_ | ((with_reducible refine And.intro ?sc ?_); case sc => exact side) | ((with_reducible refine br_f ?sc ?_); case sc => exact sideB) | ((with_reducible refine br_t ?sc ?_); case sc => exact sideB))
  refine rread_at (b := b) (Y := b) (cY := c) (i := 0) (gi := 0) (off := 0) (o1 := false) rfl (by omega) (by rw [List.drop_zero, List.take_length]) hb (by omega) kb (fun gS2 dS2 gD2 dD2 j3 j4 => ?_)
  have om := rdM_ok hb
  have hml : (rdM b).sums.length ≤ 256 ∧ (rdM b).body.length ≤ 524288 := by
    by_cases hk : rdOk b
    · exact ⟨(rd_back hb hk).2.2.2.1, (rd_back hb hk).2.2.2.2.1⟩
    · rw [(rd_no hk).1]; exact ⟨Nat.zero_le _, Nat.zero_le _⟩
  repeat ((conv => whnf); first | with_reducible refine O_step ?_ | with_reducible refine S_step ?_ | with_reducible refine D_step ?_ | with_reducible refine RO.exit ?_ | with_reducible refine RO.ret ?_ | ((with_reducible refine And.intro ?sc ?_); case sc => exact side) | ((with_reducible refine br_f ?sc ?_); case sc => exact sideB) | ((with_reducible refine br_t ?sc ?_); case sc => exact sideB))
  refine sameR_at (a := rdM b) (b := rdM b) (i0 := 2) (g0 := gS) (c0 := dS) (i1 := 3) (g1 := gD) (c1 := dD) (i2 := 5) (g2 := gS2) (c2 := dS2) (i3 := 6) (g3 := gD2) (c3 := dD2) (slot_one rfl) (slot_one rfl) (slot_one rfl) (slot_one rfl) om om ⟨by omega, by omega⟩ ⟨by omega, by omega⟩ ?_
  rw [decide_eq_true (show rdM b = rdM b from rfl)]
  repeat ((conv => whnf); first | with_reducible refine O_step ?_ | with_reducible refine S_step ?_ | with_reducible refine D_step ?_ | with_reducible refine RO.exit ?_ | with_reducible refine RO.ret ?_ | ((with_reducible refine And.intro ?sc ?_); case sc => exact side) | ((with_reducible refine br_f ?sc ?_); case sc => exact sideB) | ((with_reducible refine br_t ?sc ?_); case sc => exact sideB))
  intro zs hzs
  obtain rfl : b = zs := by rw [hzs]; exact List.take_length.symm
  repeat ((conv => whnf); first | with_reducible refine O_step ?_ | with_reducible refine S_step ?_ | with_reducible refine D_step ?_ | with_reducible refine RO.exit ?_ | with_reducible refine RO.ret ?_ | ((with_reducible refine And.intro ?sc ?_); case sc => exact side) | ((with_reducible refine br_f ?sc ?_); case sc => exact sideB) | ((with_reducible refine br_t ?sc ?_); case sc => exact sideB))
  intro zs hzs
  obtain rfl : b = zs := by rw [hzs]; exact List.take_length.symm
  repeat ((conv => whnf); first | with_reducible refine O_step ?_ | with_reducible refine S_step ?_ | with_reducible refine D_step ?_ | with_reducible refine RO.exit ?_ | with_reducible refine RO.ret ?_ | ((with_reducible refine And.intro ?sc ?_); case sc => exact side) | ((with_reducible refine br_f ?sc ?_); case sc => exact sideB) | ((with_reducible refine br_t ?sc ?_); case sc => exact sideB))
  refine WO.go (σ := Nat × List Int) (fun (i, ys) => i ≤ (rdM b).body.length ∧ ys.length = (rdM b).body.length) (fun (i, _) => (rdM b).body.length - i) (fun (i, ys) => [(0, .sl 0 0 0 b.length c), (3, .sl 1 0 0 b.length c1), (4, .ptr 4 0 0), (10, .int .i64 i)])
    (fun (i, ys) => [.one false 0 (.ints .u8 b c), .one true 0 (.ints .u8 b c1), .gone, .one true gD (.ints .u8 ys dD), .one true 0 (.cells (msL (.bo (rdM b).has) (.bo (rdM b).full) (.sl 2 gS 0 (rdM b).sums.length dS) (.sl 3 gD 0 (rdM b).body.length dD) (rdM b))), .gone, .gone, .gone])
    (0, (rdM b).body) tb_ok mixed (by kernel_rfl) ⟨Nat.zero_le _, rfl⟩ (And.intro rfl (And.intro rfl (And.intro rfl (And.intro rfl (trivial))))) (And.intro rfl (And.intro rfl (And.intro trivial (And.intro rfl (And.intro rfl ⟨trivial, trivial, trivial, trivial⟩))))) (fun _ => rfl) (fun _ => rfl) (fun _ => ⟨trivial, trivial, trivial, trivial, rfl, trivial, trivial, trivial, trivial⟩) ?_
  rintro ⟨i, ys⟩ ⟨hi, hy⟩ d
  repeat ((conv => whnf); first | with_reducible refine O_step ?_ | with_reducible refine S_step ?_ | with_reducible refine D_step ?_ | with_reducible refine RO.exit ?_ | with_reducible refine RO.ret ?_ | ((with_reducible refine And.intro ?sc ?_); case sc => exact side) | ((with_reducible refine br_f ?sc ?_); case sc => exact sideB) | ((with_reducible refine br_t ?sc ?_); case sc => exact sideB))
  refine And.intro (fun hw => ?_) (fun hw => ?_)
  · have hw' : (i : Int) < (rdM b).body.length := of_decide_eq_true hw
    repeat ((conv => whnf); first | with_reducible refine O_step ?_ | with_reducible refine S_step ?_ | with_reducible refine D_step ?_ | with_reducible refine RO.exit ?_ | with_reducible refine RO.ret ?_ | ((with_reducible refine And.intro ?sc ?_); case sc => exact side) | ((with_reducible refine br_f ?sc ?_); case sc => exact sideB) | ((with_reducible refine br_t ?sc ?_); case sc => exact sideB))
    refine RO.same (i + 1, ys.set i 7) ⟨by omega, by rw [List.length_set]; exact hy⟩ (show (rdM b).body.length - (i + 1) < (rdM b).body.length - i by omega) (And.intro rfl (And.intro rfl (And.intro rfl (And.intro rfl (trivial))))) (And.intro rfl (And.intro rfl (And.intro trivial (And.intro rfl (And.intro rfl ⟨trivial, trivial, trivial, trivial⟩)))))
  · have hw' : ¬ (i : Int) < (rdM b).body.length := of_decide_eq_false hw
    repeat ((conv => whnf); first | with_reducible refine O_step ?_ | with_reducible refine S_step ?_ | with_reducible refine D_step ?_ | with_reducible refine RO.exit ?_ | with_reducible refine RO.ret ?_ | ((with_reducible refine And.intro ?sc ?_); case sc => exact side) | ((with_reducible refine br_f ?sc ?_); case sc => exact sideB) | ((with_reducible refine br_t ?sc ?_); case sc => exact sideB))
    intro zs hzs
    obtain rfl : b = zs := by rw [hzs]; exact List.take_length.symm
    repeat ((conv => whnf); first | with_reducible refine O_step ?_ | with_reducible refine S_step ?_ | with_reducible refine D_step ?_ | with_reducible refine RO.exit ?_ | with_reducible refine RO.ret ?_ | ((with_reducible refine And.intro ?sc ?_); case sc => exact side) | ((with_reducible refine br_f ?sc ?_); case sc => exact sideB) | ((with_reducible refine br_t ?sc ?_); case sc => exact sideB))
    intro zs hzs
    obtain rfl : b = zs := by rw [hzs]; exact List.take_length.symm
    repeat ((conv => whnf); first | with_reducible refine O_step ?_ | with_reducible refine S_step ?_ | with_reducible refine D_step ?_ | with_reducible refine RO.exit ?_ | with_reducible refine RO.ret ?_ | ((with_reducible refine And.intro ?sc ?_); case sc => exact side) | ((with_reducible refine br_f ?sc ?_); case sc => exact sideB) | ((with_reducible refine br_t ?sc ?_); case sc => exact sideB))
    refine writes_at ?_
    repeat ((conv => whnf); first | with_reducible refine O_step ?_ | with_reducible refine S_step ?_ | with_reducible refine D_step ?_ | with_reducible refine RO.exit ?_ | with_reducible refine RO.ret ?_ | ((with_reducible refine And.intro ?sc ?_); case sc => exact side) | ((with_reducible refine br_f ?sc ?_); case sc => exact sideB) | ((with_reducible refine br_t ?sc ?_); case sc => exact sideB))
    rfl
theorem messageReads_law (b : List Int) (c : Nat) (k : b.length ≤ c ∧ c ≤ 9223372036854775807) (l : ∀ x ∈ b, IntKind.u8.min ≤ x ∧ x ≤ IntKind.u8.max) :
    CallA Try.prog 4 [.sl 0 0 0 b.length c] [.one false 0 (.ints .u8 b c)] (fun r _ => r = .bo true) (fun _ _ => False) :=
  mReads_call (fun x hx => ⟨(l x hx).1, Int.lt_of_le_of_lt (show x ≤ 255 from (l x hx).2) (by decide)⟩) k.1
end Go.Proofs.Ytedlpkibdjccdaa
