/- Layer 23: MessageAny. -/
import Derived.Test.YtedlpkibdjccdaaLM0

set_option linter.unusedVariables false

set_option linter.unusedSimpArgs false

open Go.RowKit

namespace Go.Proofs.Ytedlpkibdjccdaa

set_option maxRecDepth 10000

theorem mAny_call {b : List Int} {c : Nat} (hb : ∀ x ∈ b, in8 x) (kb : b.length ≤ c) :
    CallA Try.prog 7 [.sl 0 0 0 b.length c] [.one false 0 (.ints .u8 b c)] (fun r _ => r = .bo true) (fun _ _ => False) := by
  refine step7 (fun _ => [0, 1, 2, 3, 4]) [] rfl ?_
  repeat ((conv => whnf); first | with_reducible refine O_step ?_ | with_reducible refine S_step ?_ | with_reducible refine D_step ?_ | with_reducible refine RO.exit ?_ | with_reducible refine RO.ret ?_ | ((with_reducible refine And.intro ?sc ?_); case sc => exact side) | ((with_reducible refine br_f ?sc ?_); case sc => exact sideB) | ((with_reducible refine br_t ?sc ?_); case sc => exact sideB))
  refine And.intro (fun hc => ?_) (fun hc => ?_)
  · repeat ((conv => whnf); first | with_reducible refine O_step ?_ | with_reducible refine S_step ?_ | with_reducible refine D_step ?_ | with_reducible refine RO.exit ?_ | with_reducible refine RO.ret ?_ | ((with_reducible refine And.intro ?sc ?_); case sc => exact side) | ((with_reducible refine br_f ?sc ?_); case sc => exact sideB) | ((with_reducible refine br_t ?sc ?_); case sc => exact sideB))
    rfl
  have hl1 : b.length ≤ 3000 := by have := of_decide_eq_false hc; omega
  repeat ((conv => whnf); first | with_reducible refine O_step ?_ | with_reducible refine S_step ?_ | with_reducible refine D_step ?_ | with_reducible refine RO.exit ?_ | with_reducible refine RO.ret ?_ | ((with_reducible refine And.intro ?sc ?_); case sc => exact side) | ((with_reducible refine br_f ?sc ?_); case sc => exact sideB) | ((with_reducible refine br_t ?sc ?_); case sc => exact sideB))
  refine mread_at (b := b) (Y := b) (cY := c) (i := 0) (gi := 0) (off := 0) (o1 := false) rfl (by omega) (by rw [List.drop_zero, List.take_length]) hb (by omega) kb (fun gS dS gD dD j1 j2 => ?_)
  have oz : okM (zeroM 0) := ⟨(by decide : in8 0), (by decide : in32 0), (by decide : in32 0), (by decide : in32 0), (by decide : in16 0), (by decide : in16 0), (fun x hx => by cases hx), (by decide : in32 0), (by decide : in8 0), (by decide : in16 0), (by decide : in16 0), (by decide : in32 0), (fun x hx => by cases hx)⟩
  by_cases hk : rdOk b
  · obtain ⟨r1, r2, r3, r4, r5, r6, r7, r8⟩ := rd_back hb hk
    have re := (rd_ok hk).2.2
    obtain ⟨k, hkn⟩ := Int.eq_ofNat_of_zero_le (show 0 ≤ rdN b by omega)
    rw [re, hkn]
    rw [hkn] at r6 r7 r8
    have hw : wrOk (rdM b) := ⟨r3, by omega, r2⟩
    obtain ⟨w1, w2⟩ := wr_ok hw
    rw [Int.toNat_natCast] at r8
    repeat ((conv => whnf); first | with_reducible refine O_step ?_ | with_reducible refine S_step ?_ | with_reducible refine D_step ?_ | with_reducible refine RO.exit ?_ | with_reducible refine RO.ret ?_ | ((with_reducible refine And.intro ?sc ?_); case sc => exact side) | ((with_reducible refine br_f ?sc ?_); case sc => exact sideB) | ((with_reducible refine br_t ?sc ?_); case sc => exact sideB))
    refine And.intro (fun hc => absurd (of_decide_eq_true hc) (by omega)) (fun hc => ?_)
    repeat ((conv => whnf); first | with_reducible refine O_step ?_ | with_reducible refine S_step ?_ | with_reducible refine D_step ?_ | with_reducible refine RO.exit ?_ | with_reducible refine RO.ret ?_ | ((with_reducible refine And.intro ?sc ?_); case sc => exact side) | ((with_reducible refine br_f ?sc ?_); case sc => exact sideB) | ((with_reducible refine br_t ?sc ?_); case sc => exact sideB))
    refine mwrite_at (m := rdM b) (i := 1) (gi := gS) (cS := dS) (j := 2) (gj := gD) (cB := dD) (slot_one rfl) (slot_one rfl) r1 (by omega) (by omega) j1 j2 (fun gw cw kw => ?_)
    rw [w2]
    rw [w1] at kw ⊢
    have hin : ∀ x ∈ wireF (rdM b), 0 ≤ x ∧ x < 256 := by rw [← w1]; exact wrB_in8 r1
    repeat ((conv => whnf); first | with_reducible refine O_step ?_ | with_reducible refine S_step ?_ | with_reducible refine D_step ?_ | with_reducible refine RO.exit ?_ | with_reducible refine RO.ret ?_ | ((with_reducible refine And.intro ?sc ?_); case sc => exact side) | ((with_reducible refine br_f ?sc ?_); case sc => exact sideB) | ((with_reducible refine br_t ?sc ?_); case sc => exact sideB))
    refine br_t (decide_eq_true (by omega)) ?_
    repeat ((conv => whnf); first | with_reducible refine O_step ?_ | with_reducible refine S_step ?_ | with_reducible refine D_step ?_ | with_reducible refine RO.exit ?_ | with_reducible refine RO.ret ?_ | ((with_reducible refine And.intro ?sc ?_); case sc => exact side) | ((with_reducible refine br_f ?sc ?_); case sc => exact sideB) | ((with_reducible refine br_t ?sc ?_); case sc => exact sideB))
    refine br_t (decide_eq_true (by omega)) ?_
    repeat ((conv => whnf); first | with_reducible refine O_step ?_ | with_reducible refine S_step ?_ | with_reducible refine D_step ?_ | with_reducible refine RO.exit ?_ | with_reducible refine RO.ret ?_ | ((with_reducible refine And.intro ?sc ?_); case sc => exact side) | ((with_reducible refine br_f ?sc ?_); case sc => exact sideB) | ((with_reducible refine br_t ?sc ?_); case sc => exact sideB))
    intro zs hzs
    obtain rfl : zs = wireF (rdM b) := by rw [hzs]; exact List.take_length
    repeat ((conv => whnf); first | with_reducible refine O_step ?_ | with_reducible refine S_step ?_ | with_reducible refine D_step ?_ | with_reducible refine RO.exit ?_ | with_reducible refine RO.ret ?_ | ((with_reducible refine And.intro ?sc ?_); case sc => exact side) | ((with_reducible refine br_f ?sc ?_); case sc => exact sideB) | ((with_reducible refine br_t ?sc ?_); case sc => exact sideB))
    intro zs hzs
    obtain rfl : zs = wireF (rdM b) := by rw [hzs, List.drop_zero, r8]; rfl
    repeat ((conv => whnf); first | with_reducible refine O_step ?_ | with_reducible refine S_step ?_ | with_reducible refine D_step ?_ | with_reducible refine RO.exit ?_ | with_reducible refine RO.ret ?_ | ((with_reducible refine And.intro ?sc ?_); case sc => exact side) | ((with_reducible refine br_f ?sc ?_); case sc => exact sideB) | ((with_reducible refine br_t ?sc ?_); case sc => exact sideB))
    refine writes_at ?_
    repeat ((conv => whnf); first | with_reducible refine O_step ?_ | with_reducible refine S_step ?_ | with_reducible refine D_step ?_ | with_reducible refine RO.exit ?_ | with_reducible refine RO.ret ?_ | ((with_reducible refine And.intro ?sc ?_); case sc => exact side) | ((with_reducible refine br_f ?sc ?_); case sc => exact sideB) | ((with_reducible refine br_t ?sc ?_); case sc => exact sideB))
    rfl
  · obtain ⟨r1, r2⟩ := rd_no hk
    rw [r1, r2]
    rcases rd_err b with h | h | h | h
    · rw [h]
      repeat ((conv => whnf); first | with_reducible refine O_step ?_ | with_reducible refine S_step ?_ | with_reducible refine D_step ?_ | with_reducible refine RO.exit ?_ | with_reducible refine RO.ret ?_ | ((with_reducible refine And.intro ?sc ?_); case sc => exact side) | ((with_reducible refine br_f ?sc ?_); case sc => exact sideB) | ((with_reducible refine br_t ?sc ?_); case sc => exact sideB))
      refine sameZ_at (m := zeroM 0) (i := 1) (gi := gS) (cS := dS) (j := 2) (gj := gD) (cB := dD) (by rw [← r1]; exact slot_one rfl) (by rw [← r1]; exact slot_one rfl) oz (by decide) (by decide) ?_
      rw [decide_eq_true (show zeroM 0 = zeroM 0 from rfl)]
      repeat ((conv => whnf); first | with_reducible refine O_step ?_ | with_reducible refine S_step ?_ | with_reducible refine D_step ?_ | with_reducible refine RO.exit ?_ | with_reducible refine RO.ret ?_ | ((with_reducible refine And.intro ?sc ?_); case sc => exact side) | ((with_reducible refine br_f ?sc ?_); case sc => exact sideB) | ((with_reducible refine br_t ?sc ?_); case sc => exact sideB))
      refine writes_at ?_
      repeat ((conv => whnf); first | with_reducible refine O_step ?_ | with_reducible refine S_step ?_ | with_reducible refine D_step ?_ | with_reducible refine RO.exit ?_ | with_reducible refine RO.ret ?_ | ((with_reducible refine And.intro ?sc ?_); case sc => exact side) | ((with_reducible refine br_f ?sc ?_); case sc => exact sideB) | ((with_reducible refine br_t ?sc ?_); case sc => exact sideB))
      rfl
    · rw [h]
      repeat ((conv => whnf); first | with_reducible refine O_step ?_ | with_reducible refine S_step ?_ | with_reducible refine D_step ?_ | with_reducible refine RO.exit ?_ | with_reducible refine RO.ret ?_ | ((with_reducible refine And.intro ?sc ?_); case sc => exact side) | ((with_reducible refine br_f ?sc ?_); case sc => exact sideB) | ((with_reducible refine br_t ?sc ?_); case sc => exact sideB))
      refine sameZ_at (m := zeroM 0) (i := 1) (gi := gS) (cS := dS) (j := 2) (gj := gD) (cB := dD) (by rw [← r1]; exact slot_one rfl) (by rw [← r1]; exact slot_one rfl) oz (by decide) (by decide) ?_
      rw [decide_eq_true (show zeroM 0 = zeroM 0 from rfl)]
      repeat ((conv => whnf); first | with_reducible refine O_step ?_ | with_reducible refine S_step ?_ | with_reducible refine D_step ?_ | with_reducible refine RO.exit ?_ | with_reducible refine RO.ret ?_ | ((with_reducible refine And.intro ?sc ?_); case sc => exact side) | ((with_reducible refine br_f ?sc ?_); case sc => exact sideB) | ((with_reducible refine br_t ?sc ?_); case sc => exact sideB))
      refine writes_at ?_
      repeat ((conv => whnf); first | with_reducible refine O_step ?_ | with_reducible refine S_step ?_ | with_reducible refine D_step ?_ | with_reducible refine RO.exit ?_ | with_reducible refine RO.ret ?_ | ((with_reducible refine And.intro ?sc ?_); case sc => exact side) | ((with_reducible refine br_f ?sc ?_); case sc => exact sideB) | ((with_reducible refine br_t ?sc ?_); case sc => exact sideB))
      rfl
    · rw [h]
      repeat ((conv => whnf); first | with_reducible refine O_step ?_ | with_reducible refine S_step ?_ | with_reducible refine D_step ?_ | with_reducible refine RO.exit ?_ | with_reducible refine RO.ret ?_ | ((with_reducible refine And.intro ?sc ?_); case sc => exact side) | ((with_reducible refine br_f ?sc ?_); case sc => exact sideB) | ((with_reducible refine br_t ?sc ?_); case sc => exact sideB))
      refine sameZ_at (m := zeroM 0) (i := 1) (gi := gS) (cS := dS) (j := 2) (gj := gD) (cB := dD) (by rw [← r1]; exact slot_one rfl) (by rw [← r1]; exact slot_one rfl) oz (by decide) (by decide) ?_
      rw [decide_eq_true (show zeroM 0 = zeroM 0 from rfl)]
      repeat ((conv => whnf); first | with_reducible refine O_step ?_ | with_reducible refine S_step ?_ | with_reducible refine D_step ?_ | with_reducible refine RO.exit ?_ | with_reducible refine RO.ret ?_ | ((with_reducible refine And.intro ?sc ?_); case sc => exact side) | ((with_reducible refine br_f ?sc ?_); case sc => exact sideB) | ((with_reducible refine br_t ?sc ?_); case sc => exact sideB))
      refine writes_at ?_
      repeat ((conv => whnf); first | with_reducible refine O_step ?_ | with_reducible refine S_step ?_ | with_reducible refine D_step ?_ | with_reducible refine RO.exit ?_ | with_reducible refine RO.ret ?_ | ((with_reducible refine And.intro ?sc ?_); case sc => exact side) | ((with_reducible refine br_f ?sc ?_); case sc => exact sideB) | ((with_reducible refine br_t ?sc ?_); case sc => exact sideB))
      rfl
    · rw [h]
      repeat ((conv => whnf); first | with_reducible refine O_step ?_ | with_reducible refine S_step ?_ | with_reducible refine D_step ?_ | with_reducible refine RO.exit ?_ | with_reducible refine RO.ret ?_ | ((with_reducible refine And.intro ?sc ?_); case sc => exact side) | ((with_reducible refine br_f ?sc ?_); case sc => exact sideB) | ((with_reducible refine br_t ?sc ?_); case sc => exact sideB))
      refine sameZ_at (m := zeroM 0) (i := 1) (gi := gS) (cS := dS) (j := 2) (gj := gD) (cB := dD) (by rw [← r1]; exact slot_one rfl) (by rw [← r1]; exact slot_one rfl) oz (by decide) (by decide) ?_
      rw [decide_eq_true (show zeroM 0 = zeroM 0 from rfl)]
      repeat ((conv => whnf); first | with_reducible refine O_step ?_ | with_reducible refine S_step ?_ | with_reducible refine D_step ?_ | with_reducible refine RO.exit ?_ | with_reducible refine RO.ret ?_ | ((with_reducible refine And.intro ?sc ?_); case sc => exact side) | ((with_reducible refine br_f ?sc ?_); case sc => exact sideB) | ((with_reducible refine br_t ?sc ?_); case sc => exact sideB))
      refine writes_at ?_
      repeat ((conv => whnf); first | with_reducible refine O_step ?_ | with_reducible refine S_step ?_ | with_reducible refine D_step ?_ | with_reducible refine RO.exit ?_ | with_reducible refine RO.ret ?_ | ((with_reducible refine And.intro ?sc ?_); case sc => exact side) | ((with_reducible refine br_f ?sc ?_); case sc => exact sideB) | ((with_reducible refine br_t ?sc ?_); case sc => exact sideB))
      rfl
theorem messageAny_law (b : List Int) (c : Nat) (k : b.length ≤ c ∧ c ≤ 9223372036854775807) (l : ∀ x ∈ b, IntKind.u8.min ≤ x ∧ x ≤ IntKind.u8.max) :
    CallA Try.prog 7 [.sl 0 0 0 b.length c] [.one false 0 (.ints .u8 b c)] (fun r _ => r = .bo true) (fun _ _ => False) :=
  mAny_call (fun x hx => ⟨(l x hx).1, Int.lt_of_le_of_lt (show x ≤ 255 from (l x hx).2) (by decide)⟩) k.1
end Go.Proofs.Ytedlpkibdjccdaa
