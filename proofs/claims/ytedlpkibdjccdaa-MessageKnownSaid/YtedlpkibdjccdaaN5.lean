/- Layer 23: own, writes. -/
import Derived.Test.YtedlpkibdjccdaaM20

import Derived.Test.YtedlpkibdjccdaaN2

import Derived.Test.YtedlpkibdjccdaaMq

import Derived.Test.YtedlpkibdjccdaaPk2

set_option linter.unusedVariables false

set_option linter.unusedSimpArgs false

open Go.RowKit

namespace Go.Proofs.Ytedlpkibdjccdaa

set_option maxRecDepth 10000

section

variable {K Kp : AV → AH → Prop} {m : Msg} {cS cB : Nat}

theorem own_call (ls : m.sums.length ≤ 1000000) (lb : m.body.length ≤ 1000000)
    (h : ∀ g1 c1 g2 c2, m.sums.length ≤ c1 → m.body.length ≤ c2 → K (mV m 2 g1 c1 3 g2 c2) [.one false 0 (.ints .u32 m.sums cS), .one false 0 (.ints .u8 m.body cB), .one true g1 (.ints .u32 m.sums c1), .one true g2 (.ints .u8 m.body c2)]) :
    CallA Try.prog 10 [mV m 0 0 cS 1 0 cB] [.one false 0 (.ints .u32 m.sums cS), .one false 0 (.ints .u8 m.body cB)] K Kp := by
  refine CallA.post_pick ?_
  refine step10 (fun _ => [2]) [] rfl ?_
  repeat ((conv => whnf); first | with_reducible refine O_step ?_ | with_reducible refine S_step ?_ | with_reducible refine D_step ?_ | with_reducible refine RO.exit ?_ | with_reducible refine RO.ret ?_ | ((with_reducible refine And.intro ?sc ?_); case sc => exact side) | ((with_reducible refine br_f ?sc ?_); case sc => exact sideB) | ((with_reducible refine br_t ?sc ?_); case sc => exact sideB))
  intro zs hzs
  obtain rfl : zs = m.sums := by rw [hzs]; exact List.take_length
  repeat ((conv => whnf); first | with_reducible refine O_step ?_ | with_reducible refine S_step ?_ | with_reducible refine D_step ?_ | with_reducible refine RO.exit ?_ | with_reducible refine RO.ret ?_ | ((with_reducible refine And.intro ?sc ?_); case sc => exact side) | ((with_reducible refine br_f ?sc ?_); case sc => exact sideB) | ((with_reducible refine br_t ?sc ?_); case sc => exact sideB))
  intro c1 k1
  repeat ((conv => whnf); first | with_reducible refine O_step ?_ | with_reducible refine S_step ?_ | with_reducible refine D_step ?_ | with_reducible refine RO.exit ?_ | with_reducible refine RO.ret ?_ | ((with_reducible refine And.intro ?sc ?_); case sc => exact side) | ((with_reducible refine br_f ?sc ?_); case sc => exact sideB) | ((with_reducible refine br_t ?sc ?_); case sc => exact sideB))
  intro zs hzs
  obtain rfl : zs = m.body := by rw [hzs]; exact List.take_length
  repeat ((conv => whnf); first | with_reducible refine O_step ?_ | with_reducible refine S_step ?_ | with_reducible refine D_step ?_ | with_reducible refine RO.exit ?_ | with_reducible refine RO.ret ?_ | ((with_reducible refine And.intro ?sc ?_); case sc => exact side) | ((with_reducible refine br_f ?sc ?_); case sc => exact sideB) | ((with_reducible refine br_t ?sc ?_); case sc => exact sideB))
  intro c2 k2
  repeat ((conv => whnf); first | with_reducible refine O_step ?_ | with_reducible refine S_step ?_ | with_reducible refine D_step ?_ | with_reducible refine RO.exit ?_ | with_reducible refine RO.ret ?_ | ((with_reducible refine And.intro ?sc ?_); case sc => exact side) | ((with_reducible refine br_f ?sc ?_); case sc => exact sideB) | ((with_reducible refine br_t ?sc ?_); case sc => exact sideB))
  refine ⟨[.sha 0, .sha 1, .own 4, .own 5], mV m 2 1 c1 3 1 c2, [.one false 0 (.ints .u32 m.sums cS), .one false 0 (.ints .u8 m.body cB), .one true 1 (.ints .u32 m.sums c1), .one true 1 (.ints .u8 m.body c2)], ⟨?_, rfl, ⟨trivial, trivial, trivial, trivial, trivial⟩, ?_, fun i hi => ?_⟩, h 1 c1 1 c2 (by omega) (by omega)⟩
  · exact ⟨⟨rfl, .one false 0 (.ints .u32 m.sums cS), rfl, rfl⟩, ⟨rfl, .one false 0 (.ints .u8 m.body cB), rfl, rfl⟩, ⟨by simp [AO.rn, Cont.rn], rfl⟩, ⟨by simp [AO.rn, Cont.rn], rfl⟩, trivial⟩
  · show AV.agg (msL (.bo m.has) (.bo m.full) (.sl 4 1 0 m.sums.length c1) (.sl 5 1 0 m.body.length c2) m) = AV.agg (msL (.bo m.has) (.bo m.full) (.sl 4 1 0 (0 + m.sums.length) c1) (.sl 5 1 0 (0 + m.body.length) c2) m)
    rw [Nat.zero_add, Nat.zero_add]
  · match i, hi with
    | 0, _ => exact .inr rfl
    | 1, _ => exact .inr rfl
/-- Write of a message without slices; its bytes stay readable behind an append. -/
theorem mwriteK_call (o : okM m) (hs : m.sums = []) (hb : m.body = []) (hh : m.has = false) (hf : m.full = false) (h : ∀ c, (wrB m).length ≤ c → K (.tup [.sl 0 0 0 (wrB m).length c, .int .i64 (wrE m)]) [.fam true 1 (fun _ => .ints .u8 (wrB m) c)]) :
    CallA Try.prog 11 [.agg (msL .ff .ff .ns .ns m)] [] K Kp := by
  refine CallA.post_pick ?_
  refine CallA.post_view ?_
  refine CallA.view ((Vw.canon (M := []) (x := .ints .u32 [] 0) (l' := [.agg (msL (.bo m.has) (.bo m.full) (.sl 0 0 0 m.sums.length 0) .ns m)]) ⟨rfl, rfl⟩
      (cnL_cons (cnV_agg (msL_cn (cnV_isB (.inr (.inl ⟨rfl, hh⟩))) (cnV_isB (.inr (.inl ⟨rfl, hf⟩))) (by rw [hs]; exact cnV_nsl _) (cnV_refl _ _))) (cnL_nil _))).trans (Vw.canon (x := .ints .u8 [] 0) (l' := [mV m 0 0 0 1 0 0]) ⟨rfl, rfl⟩
      (cnL_cons (cnV_agg (msL_cn (cnV_refl _ _) (cnV_refl _ _) (cnV_refl _ _) (by rw [hb]; exact cnV_nsl _))) (cnL_nil _)))) ?_
  refine mwrite_at (m := m) (by rw [hs]; rfl) (by rw [hb]; rfl) o (by rw [hs]; decide) (by rw [hb]; decide) (by rw [hs]; decide) (by rw [hb]; decide) (fun g c hc => ?_)
  refine ⟨.tup [.sl 3 0 0 (wrB m).length c, .int .i64 (wrE m)], _, Vw.keep (i := 2) (g := g) (x := .ints .u8 (wrB m) c) rfl rfl rfl rfl, [.own 3], .tup [.sl 0 0 0 (wrB m).length c, .int .i64 (wrE m)], [.fam true 1 (fun _ => .ints .u8 (wrB m) c)], ⟨⟨⟨rfl, rfl⟩, trivial⟩, rfl, ⟨fun _ => trivial, trivial⟩, rfl, fun i hi => absurd hi (Nat.not_lt_zero _)⟩, h c hc⟩
/-- The example. -/
def m7 : Msg := ⟨6, 0, 0, 0, false, false, 0, 0, [], 7, 0, 0, 0, 0, []⟩
theorem m7_ok : okM m7 := ⟨(by decide : in8 6), (by decide : in32 0), (by decide : in32 0), (by decide : in32 0), (by decide : in16 0), (by decide : in16 0), (fun x hx => by cases hx), (by decide : in32 7), (by decide : in8 0), (by decide : in16 0), (by decide : in16 0), (by decide : in32 0), (fun x hx => by cases hx)⟩
theorem m7_wr : wrOk m7 := by decide
theorem m7_b : wrB m7 = [6, 0, 0, 0, 4, 0, 0, 0, 7] := by
  rw [(wr_ok m7_wr).1]; decide
theorem m7_rd : rdM [6, 0, 0, 0, 4, 0, 0, 0, 7, 9] = m7 ∧ rdN [6, 0, 0, 0, 4, 0, 0, 0, 7, 9] = 9 ∧ rdE [6, 0, 0, 0, 4, 0, 0, 0, 7, 9] = 0 := by
  have h := rd_wire m7_ok (by decide) (by decide) (by decide) m7_wr.2.2 [9]
  have e : wireF m7 ++ [9] = [6, 0, 0, 0, 4, 0, 0, 0, 7, 9] := by
    rw [← (wr_ok m7_wr).1, m7_b]; rfl
  rw [e] at h
  refine ⟨h.2.1, ?_, h.2.2.2⟩
  rw [h.2.2.1, wireF_len]; decide
theorem writes_call (h : K (.bo true) []) : CallA Try.prog 14 [] [] K Kp := by
  refine CallA.post_pick ?_
  refine step14 (fun _ => [0, 1, 2, 3, 4, 5]) [] rfl ?_
  repeat ((conv => whnf); first | with_reducible refine O_step ?_ | with_reducible refine S_step ?_ | with_reducible refine D_step ?_ | with_reducible refine RO.exit ?_ | with_reducible refine RO.ret ?_ | ((with_reducible refine And.intro ?sc ?_); case sc => exact side) | ((with_reducible refine br_f ?sc ?_); case sc => exact sideB) | ((with_reducible refine br_t ?sc ?_); case sc => exact sideB))
  refine mwriteK_call (m := m7) m7_ok rfl rfl rfl rfl (fun c hc => ?_)
  rw [m7_b] at hc ⊢
  rw [(wr_ok m7_wr).2]
  repeat ((conv => whnf); first | with_reducible refine O_step ?_ | with_reducible refine S_step ?_ | with_reducible refine D_step ?_ | with_reducible refine RO.exit ?_ | with_reducible refine RO.ret ?_ | ((with_reducible refine And.intro ?sc ?_); case sc => exact side) | ((with_reducible refine br_f ?sc ?_); case sc => exact sideB) | ((with_reducible refine br_t ?sc ?_); case sc => exact sideB))
  intro zs hzs
  obtain rfl : zs = [9] := hzs
  repeat ((conv => whnf); first | with_reducible refine O_step ?_ | with_reducible refine S_step ?_ | with_reducible refine D_step ?_ | with_reducible refine RO.exit ?_ | with_reducible refine RO.ret ?_ | ((with_reducible refine And.intro ?sc ?_); case sc => exact side) | ((with_reducible refine br_f ?sc ?_); case sc => exact sideB) | ((with_reducible refine br_t ?sc ?_); case sc => exact sideB))
  refine And.intro (fun hin => ?_) (fun hout c' hc' => ?_)
  · repeat ((conv => whnf); first | with_reducible refine O_step ?_ | with_reducible refine S_step ?_ | with_reducible refine D_step ?_ | with_reducible refine RO.exit ?_ | with_reducible refine RO.ret ?_ | ((with_reducible refine And.intro ?sc ?_); case sc => exact side) | ((with_reducible refine br_f ?sc ?_); case sc => exact sideB) | ((with_reducible refine br_t ?sc ?_); case sc => exact sideB))
    refine (show CallA Try.prog 15 [.sl 0 0 0 [6, 0, 0, 0, 4, 0, 0, 0, 7, 9].length c] _ _ _ from ?_)
    refine mread_at (b := [6, 0, 0, 0, 4, 0, 0, 0, 7, 9]) (Y := [6, 0, 0, 0, 4, 0, 0, 0, 7, 9]) (cY := c) (o1 := true) rfl (by omega) rfl (by decide) (by decide) hin (fun gS cS gD cD k1 k2 => ?_)
    obtain ⟨r1, r2, r3⟩ := m7_rd
    rw [r1, r2, r3]
    repeat ((conv => whnf); first | with_reducible refine O_step ?_ | with_reducible refine S_step ?_ | with_reducible refine D_step ?_ | with_reducible refine RO.exit ?_ | with_reducible refine RO.ret ?_ | ((with_reducible refine And.intro ?sc ?_); case sc => exact side) | ((with_reducible refine br_f ?sc ?_); case sc => exact sideB) | ((with_reducible refine br_t ?sc ?_); case sc => exact sideB))
    intro zs hzs
    obtain rfl : zs = [6, 0, 0, 0, 4, 0, 0, 0, 7] := by rw [hzs]; rfl
    repeat ((conv => whnf); first | with_reducible refine O_step ?_ | with_reducible refine S_step ?_ | with_reducible refine D_step ?_ | with_reducible refine RO.exit ?_ | with_reducible refine RO.ret ?_ | ((with_reducible refine And.intro ?sc ?_); case sc => exact side) | ((with_reducible refine br_f ?sc ?_); case sc => exact sideB) | ((with_reducible refine br_t ?sc ?_); case sc => exact sideB))
    refine br_t (str_const _ rfl) ?_
    repeat ((conv => whnf); first | with_reducible refine O_step ?_ | with_reducible refine S_step ?_ | with_reducible refine D_step ?_ | with_reducible refine RO.exit ?_ | with_reducible refine RO.ret ?_ | ((with_reducible refine And.intro ?sc ?_); case sc => exact side) | ((with_reducible refine br_f ?sc ?_); case sc => exact sideB) | ((with_reducible refine br_t ?sc ?_); case sc => exact sideB))
    exact ⟨[], .bo true, [], ⟨trivial, rfl, trivial, rfl, fun i hi => absurd hi (Nat.not_lt_zero _)⟩, h⟩
  · repeat ((conv => whnf); first | with_reducible refine O_step ?_ | with_reducible refine S_step ?_ | with_reducible refine D_step ?_ | with_reducible refine RO.exit ?_ | with_reducible refine RO.ret ?_ | ((with_reducible refine And.intro ?sc ?_); case sc => exact side) | ((with_reducible refine br_f ?sc ?_); case sc => exact sideB) | ((with_reducible refine br_t ?sc ?_); case sc => exact sideB))
    refine (show CallA Try.prog 15 [.sl 2 0 0 [6, 0, 0, 0, 4, 0, 0, 0, 7, 9].length c'] _ _ _ from ?_)
    refine mread_at (b := [6, 0, 0, 0, 4, 0, 0, 0, 7, 9]) (Y := [6, 0, 0, 0, 4, 0, 0, 0, 7, 9]) (cY := c') (o1 := true) rfl (by omega) rfl (by decide) (by decide) hc' (fun gS cS gD cD k1 k2 => ?_)
    obtain ⟨r1, r2, r3⟩ := m7_rd
    rw [r1, r2, r3]
    repeat ((conv => whnf); first | with_reducible refine O_step ?_ | with_reducible refine S_step ?_ | with_reducible refine D_step ?_ | with_reducible refine RO.exit ?_ | with_reducible refine RO.ret ?_ | ((with_reducible refine And.intro ?sc ?_); case sc => exact side) | ((with_reducible refine br_f ?sc ?_); case sc => exact sideB) | ((with_reducible refine br_t ?sc ?_); case sc => exact sideB))
    intro zs hzs
    obtain rfl : zs = [6, 0, 0, 0, 4, 0, 0, 0, 7] := by rw [hzs]; rfl
    repeat ((conv => whnf); first | with_reducible refine O_step ?_ | with_reducible refine S_step ?_ | with_reducible refine D_step ?_ | with_reducible refine RO.exit ?_ | with_reducible refine RO.ret ?_ | ((with_reducible refine And.intro ?sc ?_); case sc => exact side) | ((with_reducible refine br_f ?sc ?_); case sc => exact sideB) | ((with_reducible refine br_t ?sc ?_); case sc => exact sideB))
    refine br_t (str_const _ rfl) ?_
    repeat ((conv => whnf); first | with_reducible refine O_step ?_ | with_reducible refine S_step ?_ | with_reducible refine D_step ?_ | with_reducible refine RO.exit ?_ | with_reducible refine RO.ret ?_ | ((with_reducible refine And.intro ?sc ?_); case sc => exact side) | ((with_reducible refine br_f ?sc ?_); case sc => exact sideB) | ((with_reducible refine br_t ?sc ?_); case sc => exact sideB))
    exact ⟨[], .bo true, [], ⟨trivial, rfl, trivial, rfl, fun i hi => absurd hi (Nat.not_lt_zero _)⟩, h⟩
theorem writes_at {M : AH} (h : K (.bo true) M) : CallA Try.prog 14 [] M K Kp :=
  CallA.at0 (v := .bo true) (writes_call ⟨rfl, rfl⟩) (fun _ => rfl) rfl (fun _ => rfl) h
end

end Go.Proofs.Ytedlpkibdjccdaa
