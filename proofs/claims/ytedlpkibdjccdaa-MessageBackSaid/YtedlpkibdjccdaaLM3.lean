/- Layer 23: MessageBack. -/
import Derived.Test.YtedlpkibdjccdaaLM0

set_option linter.unusedVariables false

set_option linter.unusedSimpArgs false

open Go.RowKit

namespace Go.Proofs.Ytedlpkibdjccdaa

set_option maxRecDepth 10000

section

variable {K Kp : AV → AH → Prop} {m : Msg} {X : List Int} {cut : Int} {cS cB cX : Nat}

theorem mBack_call (o : okM m) (kS : m.sums.length ≤ cS) (kB : m.body.length ≤ cB) (kX : X.length ≤ cX) (hX : ∀ x ∈ X, in8 x) (hcut : -9223372036854775808 ≤ cut ∧ cut ≤ 9223372036854775807) :
    CallA Try.prog 5 [mV m 0 0 cS 1 0 cB, .sl 2 0 0 X.length cX, .int .i64 cut] [.one false 0 (.ints .u32 m.sums cS), .one false 0 (.ints .u8 m.body cB), .one false 0 (.ints .u8 X cX)] (fun r _ => r = .bo true) (fun _ _ => False) := by
  have hty := o.ty
  refine step5 (fun _ => [0, 1, 2, 3, 4, 5, 6, 7]) [] rfl ?_
  repeat ((conv => whnf); first | with_reducible refine O_step ?_ | with_reducible refine S_step ?_ | with_reducible refine D_step ?_ | with_reducible refine RO.exit ?_ | with_reducible refine RO.ret ?_ | ((with_reducible refine And.intro ?sc ?_); case sc => exact side) | ((with_reducible refine br_f ?sc ?_); case sc => exact sideB) | ((with_reducible refine br_t ?sc ?_); case sc => exact sideB))
  refine And.intro (fun hc => ?_) (fun hc => ?_)
  · repeat ((conv => whnf); first | with_reducible refine O_step ?_ | with_reducible refine S_step ?_ | with_reducible refine D_step ?_ | with_reducible refine RO.exit ?_ | with_reducible refine RO.ret ?_ | ((with_reducible refine And.intro ?sc ?_); case sc => exact side) | ((with_reducible refine br_f ?sc ?_); case sc => exact sideB) | ((with_reducible refine br_t ?sc ?_); case sc => exact sideB))
    rfl
  have hl1 : m.body.length ≤ 2000 := by have := of_decide_eq_false hc; omega
  repeat ((conv => whnf); first | with_reducible refine O_step ?_ | with_reducible refine S_step ?_ | with_reducible refine D_step ?_ | with_reducible refine RO.exit ?_ | with_reducible refine RO.ret ?_ | ((with_reducible refine And.intro ?sc ?_); case sc => exact side) | ((with_reducible refine br_f ?sc ?_); case sc => exact sideB) | ((with_reducible refine br_t ?sc ?_); case sc => exact sideB))
  refine And.intro (fun hc => ?_) (fun hc => ?_)
  · repeat ((conv => whnf); first | with_reducible refine O_step ?_ | with_reducible refine S_step ?_ | with_reducible refine D_step ?_ | with_reducible refine RO.exit ?_ | with_reducible refine RO.ret ?_ | ((with_reducible refine And.intro ?sc ?_); case sc => exact side) | ((with_reducible refine br_f ?sc ?_); case sc => exact sideB) | ((with_reducible refine br_t ?sc ?_); case sc => exact sideB))
    rfl
  have hl2 : m.sums.length ≤ 256 := by have := of_decide_eq_false hc; omega
  repeat ((conv => whnf); first | with_reducible refine O_step ?_ | with_reducible refine S_step ?_ | with_reducible refine D_step ?_ | with_reducible refine RO.exit ?_ | with_reducible refine RO.ret ?_ | ((with_reducible refine And.intro ?sc ?_); case sc => exact side) | ((with_reducible refine br_f ?sc ?_); case sc => exact sideB) | ((with_reducible refine br_t ?sc ?_); case sc => exact sideB))
  refine And.intro (fun hc => ?_) (fun hc => ?_)
  · repeat ((conv => whnf); first | with_reducible refine O_step ?_ | with_reducible refine S_step ?_ | with_reducible refine D_step ?_ | with_reducible refine RO.exit ?_ | with_reducible refine RO.ret ?_ | ((with_reducible refine And.intro ?sc ?_); case sc => exact side) | ((with_reducible refine br_f ?sc ?_); case sc => exact sideB) | ((with_reducible refine br_t ?sc ?_); case sc => exact sideB))
    rfl
  have hl3 : X.length ≤ 200 := by have := of_decide_eq_false hc; omega
  repeat ((conv => whnf); first | with_reducible refine O_step ?_ | with_reducible refine S_step ?_ | with_reducible refine D_step ?_ | with_reducible refine RO.exit ?_ | with_reducible refine RO.ret ?_ | ((with_reducible refine And.intro ?sc ?_); case sc => exact side) | ((with_reducible refine br_f ?sc ?_); case sc => exact sideB) | ((with_reducible refine br_t ?sc ?_); case sc => exact sideB))
  refine mwrite_at (i := 0) (gi := 0) (cS := cS) (j := 1) (gj := 0) (cB := cB) rfl rfl o (by omega) (by omega) kS kB (fun ga ca ka => ?_)
  by_cases ht : 1 ≤ m.ty ∧ m.ty ≤ 6
  · by_cases hof : m = ofM m
    · have hm : wrOk m := ⟨ht, by omega, hof.symm⟩
      obtain ⟨hb, he⟩ := wr_ok hm
      rw [hb] at ka
      rw [he, hb]
      have hwl := wireF_len m
      have hbl := bodyF_le hl2 (show m.body.length ≤ 524288 by omega)
      have hw8 : ∀ x ∈ wireF m, in8 x := by rw [← hb]; exact wrB_in8 o
      obtain ⟨q1, q2, q3, q4⟩ := rd_wire o ht hl2 (by omega) hof.symm X
      repeat ((conv => whnf); first | with_reducible refine O_step ?_ | with_reducible refine S_step ?_ | with_reducible refine D_step ?_ | with_reducible refine RO.exit ?_ | with_reducible refine RO.ret ?_ | ((with_reducible refine And.intro ?sc ?_); case sc => exact side) | ((with_reducible refine br_f ?sc ?_); case sc => exact sideB) | ((with_reducible refine br_t ?sc ?_); case sc => exact sideB))
      refine And.intro (fun hc => absurd (of_decide_eq_true hc) (by omega)) (fun hc => ?_)
      repeat ((conv => whnf); first | with_reducible refine O_step ?_ | with_reducible refine S_step ?_ | with_reducible refine D_step ?_ | with_reducible refine RO.exit ?_ | with_reducible refine RO.ret ?_ | ((with_reducible refine And.intro ?sc ?_); case sc => exact side) | ((with_reducible refine br_f ?sc ?_); case sc => exact sideB) | ((with_reducible refine br_t ?sc ?_); case sc => exact sideB))
      refine And.intro (fun hc => absurd (of_decide_eq_true hc) (by omega)) (fun hc => ?_)
      repeat ((conv => whnf); first | with_reducible refine O_step ?_ | with_reducible refine S_step ?_ | with_reducible refine D_step ?_ | with_reducible refine RO.exit ?_ | with_reducible refine RO.ret ?_ | ((with_reducible refine And.intro ?sc ?_); case sc => exact side) | ((with_reducible refine br_f ?sc ?_); case sc => exact sideB) | ((with_reducible refine br_t ?sc ?_); case sc => exact sideB))
      refine ofR_at (i := 0) (j := 1) (gi := 0) (gj := 0) rfl rfl o (fun sv dv kv => ?_)
      repeat ((conv => whnf); first | with_reducible refine O_step ?_ | with_reducible refine S_step ?_ | with_reducible refine D_step ?_ | with_reducible refine RO.exit ?_ | with_reducible refine RO.ret ?_ | ((with_reducible refine And.intro ?sc ?_); case sc => exact side) | ((with_reducible refine br_f ?sc ?_); case sc => exact sideB) | ((with_reducible refine br_t ?sc ?_); case sc => exact sideB))
      refine sameOf_at (i := 0) (j := 1) (gi := 0) (gj := 0) rfl rfl o (by omega) (by omega) kv ?_
      rw [decide_eq_true hof]
      repeat ((conv => whnf); first | with_reducible refine O_step ?_ | with_reducible refine S_step ?_ | with_reducible refine D_step ?_ | with_reducible refine RO.exit ?_ | with_reducible refine RO.ret ?_ | ((with_reducible refine And.intro ?sc ?_); case sc => exact side) | ((with_reducible refine br_f ?sc ?_); case sc => exact sideB) | ((with_reducible refine br_t ?sc ?_); case sc => exact sideB))
      intro zs hzs
      obtain rfl : zs = wireF m := by rw [hzs]; exact List.take_length
      repeat ((conv => whnf); first | with_reducible refine O_step ?_ | with_reducible refine S_step ?_ | with_reducible refine D_step ?_ | with_reducible refine RO.exit ?_ | with_reducible refine RO.ret ?_ | ((with_reducible refine And.intro ?sc ?_); case sc => exact side) | ((with_reducible refine br_f ?sc ?_); case sc => exact sideB) | ((with_reducible refine br_t ?sc ?_); case sc => exact sideB))
      intro c1 k1
      repeat ((conv => whnf); first | with_reducible refine O_step ?_ | with_reducible refine S_step ?_ | with_reducible refine D_step ?_ | with_reducible refine RO.exit ?_ | with_reducible refine RO.ret ?_ | ((with_reducible refine And.intro ?sc ?_); case sc => exact side) | ((with_reducible refine br_f ?sc ?_); case sc => exact sideB) | ((with_reducible refine br_t ?sc ?_); case sc => exact sideB))
      intro zs hzs
      obtain rfl : X = zs := by rw [hzs]; exact List.take_length.symm
      repeat ((conv => whnf); first | with_reducible refine O_step ?_ | with_reducible refine S_step ?_ | with_reducible refine D_step ?_ | with_reducible refine RO.exit ?_ | with_reducible refine RO.ret ?_ | ((with_reducible refine And.intro ?sc ?_); case sc => exact side) | ((with_reducible refine br_f ?sc ?_); case sc => exact sideB) | ((with_reducible refine br_t ?sc ?_); case sc => exact sideB))
      intro c2 k2
      repeat ((conv => whnf); first | with_reducible refine O_step ?_ | with_reducible refine S_step ?_ | with_reducible refine D_step ?_ | with_reducible refine RO.exit ?_ | with_reducible refine RO.ret ?_ | ((with_reducible refine And.intro ?sc ?_); case sc => exact side) | ((with_reducible refine br_f ?sc ?_); case sc => exact sideB) | ((with_reducible refine br_t ?sc ?_); case sc => exact sideB))
      have e1 : 0 + (wireF m).length + X.length = (wireF m ++ X).length := by rw [List.length_append, Nat.zero_add]
      rw [e1] at k2
      refine (show CallA Try.prog 15 [.sl 5 (0 + 1 + 1) 0 (0 + (wireF m).length + X.length) c2] _ _ _ from ?_)
      rw [e1]
      refine mread_at (b := wireF m ++ X) (Y := wireF m ++ X) (cY := c2) (i := 5) (gi := 0 + 1 + 1) (off := 0) (o1 := true) (slot_one rfl) (by omega) (by rw [List.drop_zero, List.take_length]) (fun x hx => (List.mem_append.1 hx).elim (hw8 x) (hX x)) (by rw [List.length_append]; omega) k2 (fun gS dS gD dD j1 j2 => ?_)
      rw [q2, q3, q4]
      rw [q2] at j1 j2
      repeat ((conv => whnf); first | with_reducible refine O_step ?_ | with_reducible refine S_step ?_ | with_reducible refine D_step ?_ | with_reducible refine RO.exit ?_ | with_reducible refine RO.ret ?_ | ((with_reducible refine And.intro ?sc ?_); case sc => exact side) | ((with_reducible refine br_f ?sc ?_); case sc => exact sideB) | ((with_reducible refine br_t ?sc ?_); case sc => exact sideB))
      refine sameR_at (a := m) (b := m) (i0 := 6) (g0 := gS) (c0 := dS) (i1 := 7) (g1 := gD) (c1 := dD) (i2 := 0) (g2 := 0) (i3 := 1) (g3 := 0) (slot_one rfl) (slot_one rfl) rfl rfl o o ⟨by omega, by omega⟩ ⟨by omega, by omega⟩ ?_
      rw [decide_eq_true (show m = m from rfl)]
      have hn0 : (0 : Int) < (wireF m).length := by omega
      have hr1 : cut.tmod (wireF m).length < (wireF m).length := Int.tmod_lt_of_pos _ hn0
      have hr2 : -((wireF m).length : Int) < cut.tmod (wireF m).length := Int.lt_tmod_of_pos _ hn0
      generalize hR : cut.tmod (wireF m).length = R at hr1 hr2
      repeat ((conv => whnf); first | with_reducible refine O_step ?_ | with_reducible refine S_step ?_ | with_reducible refine D_step ?_ | with_reducible refine RO.exit ?_ | with_reducible refine RO.ret ?_ | ((with_reducible refine And.intro ?sc ?_); case sc => exact side) | ((with_reducible refine br_f ?sc ?_); case sc => exact sideB) | ((with_reducible refine br_t ?sc ?_); case sc => exact sideB))
      refine And.intro (fun hc => ?_) (fun hc => ?_)
      · have hc' := of_decide_eq_true hc
        rw [hR] at hc'
        obtain ⟨k, hk⟩ := Int.eq_ofNat_of_zero_le (show 0 ≤ R + (wireF m).length by omega)
        repeat ((conv => whnf); first | with_reducible refine O_step ?_ | with_reducible refine S_step ?_ | with_reducible refine D_step ?_ | with_reducible refine RO.exit ?_ | with_reducible refine RO.ret ?_ | ((with_reducible refine And.intro ?sc ?_); case sc => exact side) | ((with_reducible refine br_f ?sc ?_); case sc => exact sideB) | ((with_reducible refine br_t ?sc ?_); case sc => exact sideB))
        rw [hR, hk]
        have hkl : k < (wireF m).length := by omega
        obtain ⟨p1, p2⟩ := rd_part o ht hl2 (by omega) hkl
        obtain ⟨p3, p4⟩ := rd_no p1
        have hkn : ((wireF m).take k).length = k := by rw [List.length_take]; omega
        have oz : okM (zeroM 0) := ⟨(by decide : in8 0), (by decide : in32 0), (by decide : in32 0), (by decide : in32 0), (by decide : in16 0), (by decide : in16 0), (fun x hx => by cases hx), (by decide : in32 0), (by decide : in8 0), (by decide : in16 0), (by decide : in16 0), (by decide : in32 0), (fun x hx => by cases hx)⟩
        refine (show CallA Try.prog 15 [.sl 4 ga 0 k ca] _ _ _ from ?_)
        have e2 : AV.sl 4 ga 0 k ca = .sl 4 ga 0 ((wireF m).take k).length ca := by rw [hkn]
        rw [e2]
        refine mread_at (b := (wireF m).take k) (Y := wireF m) (cY := ca) (i := 4) (gi := ga) (off := 0) (o1 := true) (slot_one rfl) (by omega) (by rw [hkn, List.drop_zero]) (fun x hx => hw8 x (List.mem_of_mem_take hx)) (by rw [hkn]; omega) (by rw [hkn]; omega) (fun gS2 dS2 gD2 dD2 j3 j4 => ?_)
        rw [p3, p4, p2]
        repeat ((conv => whnf); first | with_reducible refine O_step ?_ | with_reducible refine S_step ?_ | with_reducible refine D_step ?_ | with_reducible refine RO.exit ?_ | with_reducible refine RO.ret ?_ | ((with_reducible refine And.intro ?sc ?_); case sc => exact side) | ((with_reducible refine br_f ?sc ?_); case sc => exact sideB) | ((with_reducible refine br_t ?sc ?_); case sc => exact sideB))
        refine sameZ_at (m := zeroM 0) (i := 9) (gi := gS2) (cS := dS2) (j := 10) (gj := gD2) (cB := dD2) (slot_one rfl) (slot_one rfl) oz (by decide) (by decide) ?_
        rw [decide_eq_true (show zeroM 0 = zeroM 0 from rfl)]
        repeat ((conv => whnf); first | with_reducible refine O_step ?_ | with_reducible refine S_step ?_ | with_reducible refine D_step ?_ | with_reducible refine RO.exit ?_ | with_reducible refine RO.ret ?_ | ((with_reducible refine And.intro ?sc ?_); case sc => exact side) | ((with_reducible refine br_f ?sc ?_); case sc => exact sideB) | ((with_reducible refine br_t ?sc ?_); case sc => exact sideB))
        refine writes_at ?_
        repeat ((conv => whnf); first | with_reducible refine O_step ?_ | with_reducible refine S_step ?_ | with_reducible refine D_step ?_ | with_reducible refine RO.exit ?_ | with_reducible refine RO.ret ?_ | ((with_reducible refine And.intro ?sc ?_); case sc => exact side) | ((with_reducible refine br_f ?sc ?_); case sc => exact sideB) | ((with_reducible refine br_t ?sc ?_); case sc => exact sideB))
        rfl
      · have hc' := of_decide_eq_false hc
        rw [hR] at hc'
        obtain ⟨k, hk⟩ := Int.eq_ofNat_of_zero_le (show 0 ≤ R by omega)
        repeat ((conv => whnf); first | with_reducible refine O_step ?_ | with_reducible refine S_step ?_ | with_reducible refine D_step ?_ | with_reducible refine RO.exit ?_ | with_reducible refine RO.ret ?_ | ((with_reducible refine And.intro ?sc ?_); case sc => exact side) | ((with_reducible refine br_f ?sc ?_); case sc => exact sideB) | ((with_reducible refine br_t ?sc ?_); case sc => exact sideB))
        rw [hR, hk]
        have hkl : k < (wireF m).length := by omega
        obtain ⟨p1, p2⟩ := rd_part o ht hl2 (by omega) hkl
        obtain ⟨p3, p4⟩ := rd_no p1
        have hkn : ((wireF m).take k).length = k := by rw [List.length_take]; omega
        have oz : okM (zeroM 0) := ⟨(by decide : in8 0), (by decide : in32 0), (by decide : in32 0), (by decide : in32 0), (by decide : in16 0), (by decide : in16 0), (fun x hx => by cases hx), (by decide : in32 0), (by decide : in8 0), (by decide : in16 0), (by decide : in16 0), (by decide : in32 0), (fun x hx => by cases hx)⟩
        refine (show CallA Try.prog 15 [.sl 4 ga 0 k ca] _ _ _ from ?_)
        have e2 : AV.sl 4 ga 0 k ca = .sl 4 ga 0 ((wireF m).take k).length ca := by rw [hkn]
        rw [e2]
        refine mread_at (b := (wireF m).take k) (Y := wireF m) (cY := ca) (i := 4) (gi := ga) (off := 0) (o1 := true) (slot_one rfl) (by omega) (by rw [hkn, List.drop_zero]) (fun x hx => hw8 x (List.mem_of_mem_take hx)) (by rw [hkn]; omega) (by rw [hkn]; omega) (fun gS2 dS2 gD2 dD2 j3 j4 => ?_)
        rw [p3, p4, p2]
        repeat ((conv => whnf); first | with_reducible refine O_step ?_ | with_reducible refine S_step ?_ | with_reducible refine D_step ?_ | with_reducible refine RO.exit ?_ | with_reducible refine RO.ret ?_ | ((with_reducible refine And.intro ?sc ?_); case sc => exact side) | ((with_reducible refine br_f ?sc ?_); case sc => exact sideB) | ((with_reducible refine br_t ?sc ?_); case sc => exact sideB))
        refine sameZ_at (m := zeroM 0) (i := 9) (gi := gS2) (cS := dS2) (j := 10) (gj := gD2) (cB := dD2) (slot_one rfl) (slot_one rfl) oz (by decide) (by decide) ?_
        rw [decide_eq_true (show zeroM 0 = zeroM 0 from rfl)]
        repeat ((conv => whnf); first | with_reducible refine O_step ?_ | with_reducible refine S_step ?_ | with_reducible refine D_step ?_ | with_reducible refine RO.exit ?_ | with_reducible refine RO.ret ?_ | ((with_reducible refine And.intro ?sc ?_); case sc => exact side) | ((with_reducible refine br_f ?sc ?_); case sc => exact sideB) | ((with_reducible refine br_t ?sc ?_); case sc => exact sideB))
        refine writes_at ?_
        repeat ((conv => whnf); first | with_reducible refine O_step ?_ | with_reducible refine S_step ?_ | with_reducible refine D_step ?_ | with_reducible refine RO.exit ?_ | with_reducible refine RO.ret ?_ | ((with_reducible refine And.intro ?sc ?_); case sc => exact side) | ((with_reducible refine br_f ?sc ?_); case sc => exact sideB) | ((with_reducible refine br_t ?sc ?_); case sc => exact sideB))
        rfl
    · have hno : ¬ wrOk m := fun h => hof h.2.2.symm
      have he : wrE m = 231 := by rw [wrE, if_neg (not_not_intro ht), if_neg (by omega), if_pos (fun h => hof h.symm)]
      rw [he, wr_no hno]
      repeat ((conv => whnf); first | with_reducible refine O_step ?_ | with_reducible refine S_step ?_ | with_reducible refine D_step ?_ | with_reducible refine RO.exit ?_ | with_reducible refine RO.ret ?_ | ((with_reducible refine And.intro ?sc ?_); case sc => exact side) | ((with_reducible refine br_f ?sc ?_); case sc => exact sideB) | ((with_reducible refine br_t ?sc ?_); case sc => exact sideB))
      refine And.intro (fun hc => absurd (of_decide_eq_true hc) (by omega)) (fun hc => ?_)
      repeat ((conv => whnf); first | with_reducible refine O_step ?_ | with_reducible refine S_step ?_ | with_reducible refine D_step ?_ | with_reducible refine RO.exit ?_ | with_reducible refine RO.ret ?_ | ((with_reducible refine And.intro ?sc ?_); case sc => exact side) | ((with_reducible refine br_f ?sc ?_); case sc => exact sideB) | ((with_reducible refine br_t ?sc ?_); case sc => exact sideB))
      refine And.intro (fun hc => absurd (of_decide_eq_true hc) (by omega)) (fun hc => ?_)
      repeat ((conv => whnf); first | with_reducible refine O_step ?_ | with_reducible refine S_step ?_ | with_reducible refine D_step ?_ | with_reducible refine RO.exit ?_ | with_reducible refine RO.ret ?_ | ((with_reducible refine And.intro ?sc ?_); case sc => exact side) | ((with_reducible refine br_f ?sc ?_); case sc => exact sideB) | ((with_reducible refine br_t ?sc ?_); case sc => exact sideB))
      refine ofR_at (i := 0) (j := 1) (gi := 0) (gj := 0) rfl rfl o (fun sv dv kv => ?_)
      repeat ((conv => whnf); first | with_reducible refine O_step ?_ | with_reducible refine S_step ?_ | with_reducible refine D_step ?_ | with_reducible refine RO.exit ?_ | with_reducible refine RO.ret ?_ | ((with_reducible refine And.intro ?sc ?_); case sc => exact side) | ((with_reducible refine br_f ?sc ?_); case sc => exact sideB) | ((with_reducible refine br_t ?sc ?_); case sc => exact sideB))
      refine sameOf_at (i := 0) (j := 1) (gi := 0) (gj := 0) rfl rfl o (by omega) (by omega) kv ?_
      rw [decide_eq_false hof]
      repeat ((conv => whnf); first | with_reducible refine O_step ?_ | with_reducible refine S_step ?_ | with_reducible refine D_step ?_ | with_reducible refine RO.exit ?_ | with_reducible refine RO.ret ?_ | ((with_reducible refine And.intro ?sc ?_); case sc => exact side) | ((with_reducible refine br_f ?sc ?_); case sc => exact sideB) | ((with_reducible refine br_t ?sc ?_); case sc => exact sideB))
      refine writes_at ?_
      repeat ((conv => whnf); first | with_reducible refine O_step ?_ | with_reducible refine S_step ?_ | with_reducible refine D_step ?_ | with_reducible refine RO.exit ?_ | with_reducible refine RO.ret ?_ | ((with_reducible refine And.intro ?sc ?_); case sc => exact side) | ((with_reducible refine br_f ?sc ?_); case sc => exact sideB) | ((with_reducible refine br_t ?sc ?_); case sc => exact sideB))
      rfl
  · have hno : ¬ wrOk m := fun h => ht h.1
    have he : wrE m = 230 := by rw [wrE, if_pos ht]
    rw [he, wr_no hno]
    repeat ((conv => whnf); first | with_reducible refine O_step ?_ | with_reducible refine S_step ?_ | with_reducible refine D_step ?_ | with_reducible refine RO.exit ?_ | with_reducible refine RO.ret ?_ | ((with_reducible refine And.intro ?sc ?_); case sc => exact side) | ((with_reducible refine br_f ?sc ?_); case sc => exact sideB) | ((with_reducible refine br_t ?sc ?_); case sc => exact sideB))
    refine And.intro (fun hc => ?_) (fun hc => ?_)
    · skip
      repeat ((conv => whnf); first | with_reducible refine O_step ?_ | with_reducible refine S_step ?_ | with_reducible refine D_step ?_ | with_reducible refine RO.exit ?_ | with_reducible refine RO.ret ?_ | ((with_reducible refine And.intro ?sc ?_); case sc => exact side) | ((with_reducible refine br_f ?sc ?_); case sc => exact sideB) | ((with_reducible refine br_t ?sc ?_); case sc => exact sideB))
      refine writes_at ?_
      repeat ((conv => whnf); first | with_reducible refine O_step ?_ | with_reducible refine S_step ?_ | with_reducible refine D_step ?_ | with_reducible refine RO.exit ?_ | with_reducible refine RO.ret ?_ | ((with_reducible refine And.intro ?sc ?_); case sc => exact side) | ((with_reducible refine br_f ?sc ?_); case sc => exact sideB) | ((with_reducible refine br_t ?sc ?_); case sc => exact sideB))
      rfl
    · have hx := of_decide_eq_false hc
      repeat ((conv => whnf); first | with_reducible refine O_step ?_ | with_reducible refine S_step ?_ | with_reducible refine D_step ?_ | with_reducible refine RO.exit ?_ | with_reducible refine RO.ret ?_ | ((with_reducible refine And.intro ?sc ?_); case sc => exact side) | ((with_reducible refine br_f ?sc ?_); case sc => exact sideB) | ((with_reducible refine br_t ?sc ?_); case sc => exact sideB))
      refine And.intro (fun hc => ?_) (fun hc => absurd (of_decide_eq_false hc) (by omega))
      repeat ((conv => whnf); first | with_reducible refine O_step ?_ | with_reducible refine S_step ?_ | with_reducible refine D_step ?_ | with_reducible refine RO.exit ?_ | with_reducible refine RO.ret ?_ | ((with_reducible refine And.intro ?sc ?_); case sc => exact side) | ((with_reducible refine br_f ?sc ?_); case sc => exact sideB) | ((with_reducible refine br_t ?sc ?_); case sc => exact sideB))
      refine writes_at ?_
      repeat ((conv => whnf); first | with_reducible refine O_step ?_ | with_reducible refine S_step ?_ | with_reducible refine D_step ?_ | with_reducible refine RO.exit ?_ | with_reducible refine RO.ret ?_ | ((with_reducible refine And.intro ?sc ?_); case sc => exact side) | ((with_reducible refine br_f ?sc ?_); case sc => exact sideB) | ((with_reducible refine br_t ?sc ?_); case sc => exact sideB))
      rfl
end

theorem messageBack_law (ty : Int) (k_ty : IntKind.u8.min ≤ ty ∧ ty ≤ IntKind.u8.max) (life : Int) (k_life : IntKind.u32.min ≤ life ∧ life ≤ IntKind.u32.max) (frame : Int) (k_frame : IntKind.u32.min ≤ frame ∧ frame ≤ IntKind.u32.max) (base : Int) (k_base : IntKind.u32.min ≤ base ∧ base ≤ IntKind.u32.max) (has : Bool) (full : Bool) (w : Int) (k_w : IntKind.u16.min ≤ w ∧ w ≤ IntKind.u16.max) (h : Int) (k_h : IntKind.u16.min ≤ h ∧ h ≤ IntKind.u16.max) (sums : List Int) (c_sums : Nat) (k_sums : sums.length ≤ c_sums ∧ c_sums ≤ 9223372036854775807) (l_sums : ∀ x ∈ sums, IntKind.u32.min ≤ x ∧ x ≤ IntKind.u32.max) (seq : Int) (k_seq : IntKind.u32.min ≤ seq ∧ seq ≤ IntKind.u32.max) (kind : Int) (k_kind : IntKind.u8.min ≤ kind ∧ kind ≤ IntKind.u8.max) (ex : Int) (k_ex : IntKind.u16.min ≤ ex ∧ ex ≤ IntKind.u16.max) (ey : Int) (k_ey : IntKind.u16.min ≤ ey ∧ ey ≤ IntKind.u16.max) (code : Int) (k_code : IntKind.u32.min ≤ code ∧ code ≤ IntKind.u32.max) (body : List Int) (c_body : Nat) (k_body : body.length ≤ c_body ∧ c_body ≤ 9223372036854775807) (l_body : ∀ x ∈ body, IntKind.u8.min ≤ x ∧ x ≤ IntKind.u8.max) (behind : List Int) (c2 : Nat) (k2 : behind.length ≤ c2 ∧ c2 ≤ 9223372036854775807) (l2 : ∀ x ∈ behind, IntKind.u8.min ≤ x ∧ x ≤ IntKind.u8.max) (cut : Int) (k3 : IntKind.i64.min ≤ cut ∧ cut ≤ IntKind.i64.max) :
    CallA Try.prog 5 [.agg [.int .u8 ty, .int .u32 life, .int .u32 frame, .int .u32 base, .bo has, .bo full, .int .u16 w, .int .u16 h, .sl 0 0 0 sums.length c_sums, .int .u32 seq, .int .u8 kind, .int .u16 ex, .int .u16 ey, .int .u32 code, .sl 1 0 0 body.length c_body], .sl 2 0 0 behind.length c2, .int .i64 cut] [.one false 0 (.ints .u32 sums c_sums), .one false 0 (.ints .u8 body c_body), .one false 0 (.ints .u8 behind c2)] (fun r _ => r = .bo true) (fun _ _ => False) :=
  mBack_call (m := ⟨ty, life, frame, base, has, full, w, h, sums, seq, kind, ex, ey, code, body⟩) ⟨⟨k_ty.1, Int.lt_of_le_of_lt (show ty ≤ 255 from k_ty.2) (by decide)⟩, ⟨k_life.1, Int.lt_of_le_of_lt (show life ≤ 4294967295 from k_life.2) (by decide)⟩, ⟨k_frame.1, Int.lt_of_le_of_lt (show frame ≤ 4294967295 from k_frame.2) (by decide)⟩, ⟨k_base.1, Int.lt_of_le_of_lt (show base ≤ 4294967295 from k_base.2) (by decide)⟩, ⟨k_w.1, Int.lt_of_le_of_lt (show w ≤ 65535 from k_w.2) (by decide)⟩, ⟨k_h.1, Int.lt_of_le_of_lt (show h ≤ 65535 from k_h.2) (by decide)⟩, (fun x hx => ⟨(l_sums x hx).1, Int.lt_of_le_of_lt (show x ≤ 4294967295 from (l_sums x hx).2) (by decide)⟩), ⟨k_seq.1, Int.lt_of_le_of_lt (show seq ≤ 4294967295 from k_seq.2) (by decide)⟩, ⟨k_kind.1, Int.lt_of_le_of_lt (show kind ≤ 255 from k_kind.2) (by decide)⟩, ⟨k_ex.1, Int.lt_of_le_of_lt (show ex ≤ 65535 from k_ex.2) (by decide)⟩, ⟨k_ey.1, Int.lt_of_le_of_lt (show ey ≤ 65535 from k_ey.2) (by decide)⟩, ⟨k_code.1, Int.lt_of_le_of_lt (show code ≤ 4294967295 from k_code.2) (by decide)⟩, (fun x hx => ⟨(l_body x hx).1, Int.lt_of_le_of_lt (show x ≤ 255 from (l_body x hx).2) (by decide)⟩)⟩ k_sums.1 k_body.1 k2.1 (fun x hx => ⟨(l2 x hx).1, Int.lt_of_le_of_lt (show x ≤ 255 from (l2 x hx).2) (by decide)⟩) k3
end Go.Proofs.Ytedlpkibdjccdaa
