/- Layer 23: same. -/
import Derived.Test.YtedlpkibdjccdaaM11

import Derived.Test.YtedlpkibdjccdaaPk

set_option linter.unusedVariables false

set_option linter.unusedSimpArgs false

open Go.RowKit

namespace Go.Proofs.Ytedlpkibdjccdaa

set_option maxRecDepth 10000

/-- A message's cells. -/
abbrev msL (hv fv sv dv : AV) (m : Msg) : List AV := [.int .u8 m.ty, .int .u32 m.life, .int .u32 m.frame, .int .u32 m.base, hv, fv, .int .u16 m.w, .int .u16 m.h, sv, .int .u32 m.seq, .int .u8 m.kind, .int .u16 m.ex, .int .u16 m.ey, .int .u32 m.code, dv]

theorem winI0 {t : List TE} {m c : Nat} {k : IntKind} {xs : List Int} : WinC t m 0 (.ints k xs c) (.ints k xs c) := WinC.same rfl (fun h => h)
theorem msL_cn {k : Nat} {hv fv sv dv a3 a4 a5 a6 : AV} {m : Msg} (h3 : cnV k hv a3) (h4 : cnV k fv a4) (h5 : cnV k sv a5) (h6 : cnV k dv a6) :
    cnL k (msL hv fv sv dv m) (msL a3 a4 a5 a6 m) := by
  simp only [cnL]
  exact ⟨_, _, rfl, cnV_refl _ _, _, _, rfl, cnV_refl _ _, _, _, rfl, cnV_refl _ _, _, _, rfl, cnV_refl _ _, _, _, rfl, h3, _, _, rfl, h4, _, _, rfl, cnV_refl _ _, _, _, rfl, cnV_refl _ _, _, _, rfl, h5, _, _, rfl, cnV_refl _ _, _, _, rfl, cnV_refl _ _, _, _, rfl, cnV_refl _ _, _, _, rfl, cnV_refl _ _, _, _, rfl, cnV_refl _ _, _, _, rfl, h6, rfl⟩
theorem cnV_nsl (k : Nat) : cnV k .ns (.sl k 0 0 0 0) := by simp [cnV]

abbrev sa4 (a b : Msg) (c0 c1 c2 d2 : Nat) : AH := [.one false 0 (.ints .u32 a.sums c0), .one false 0 (.ints .u8 a.body c1), .one false 0 (.ints .u32 b.sums c2), .one false 0 (.ints .u8 b.body d2)]

theorem same4_call {a b : Msg} {c0 c1 c2 d2 e0 e1 e2 e3 : Nat} {K Kp : AV → AH → Prop} (la : a.sums.length ≤ 1000000000 ∧ a.body.length ≤ 1000000000) (ls : b.sums.length ≤ 1000000000) (lb : b.body.length ≤ 1000000000)
    (h1 : a = b → K (.bo true) (sa4 a b c0 c1 c2 d2 ++ [.gone, .gone])) (h0 : a ≠ b → K (.bo false) (sa4 a b c0 c1 c2 d2 ++ [.gone, .gone])) :
    CallA Try.prog 21 [.agg (msL (.bo a.has) (.bo a.full) (.sl 0 0 0 a.sums.length e0) (.sl 1 0 0 a.body.length e1) a), .agg (msL (.bo b.has) (.bo b.full) (.sl 2 0 0 b.sums.length e2) (.sl 3 0 0 b.body.length e3) b)] (sa4 a b c0 c1 c2 d2) K Kp := by
  refine CallA.post_sub ?_
  refine step21 (fun _ => [4, 5]) [] rfl ?_
  repeat ((conv => whnf); first | with_reducible refine O_step ?_ | with_reducible refine S_step ?_ | with_reducible refine D_step ?_ | with_reducible refine RO.exit ?_ | with_reducible refine RO.ret ?_ | ((with_reducible refine And.intro ?sc ?_); case sc => exact side) | ((with_reducible refine br_f ?sc ?_); case sc => exact sideB) | ((with_reducible refine br_t ?sc ?_); case sc => exact sideB))
  refine Iff.mpr and_comm (And.intro (fun hc => ?_) (fun hc_ty => ?_))
  · have hne : a ≠ b := by rintro rfl; simp_all
    repeat ((conv => whnf); first | with_reducible refine O_step ?_ | with_reducible refine S_step ?_ | with_reducible refine D_step ?_ | with_reducible refine RO.exit ?_ | with_reducible refine RO.ret ?_ | ((with_reducible refine And.intro ?sc ?_); case sc => exact side) | ((with_reducible refine br_f ?sc ?_); case sc => exact sideB) | ((with_reducible refine br_t ?sc ?_); case sc => exact sideB))
    refine Exists.intro _ (And.intro ?_ (And.intro ?_ (And.intro ?_ (h0 hne))))
    · exact (And.intro rfl (And.intro rfl (And.intro rfl (And.intro rfl (And.intro trivial (And.intro trivial (trivial)))))))
    · exact ⟨trivial, trivial, trivial, trivial, trivial, trivial, trivial⟩
    · rfl
  repeat ((conv => whnf); first | with_reducible refine O_step ?_ | with_reducible refine S_step ?_ | with_reducible refine D_step ?_ | with_reducible refine RO.exit ?_ | with_reducible refine RO.ret ?_ | ((with_reducible refine And.intro ?sc ?_); case sc => exact side) | ((with_reducible refine br_f ?sc ?_); case sc => exact sideB) | ((with_reducible refine br_t ?sc ?_); case sc => exact sideB))
  refine Iff.mpr and_comm (And.intro (fun hc => ?_) (fun hc_life => ?_))
  · have hne : a ≠ b := by rintro rfl; simp_all
    repeat ((conv => whnf); first | with_reducible refine O_step ?_ | with_reducible refine S_step ?_ | with_reducible refine D_step ?_ | with_reducible refine RO.exit ?_ | with_reducible refine RO.ret ?_ | ((with_reducible refine And.intro ?sc ?_); case sc => exact side) | ((with_reducible refine br_f ?sc ?_); case sc => exact sideB) | ((with_reducible refine br_t ?sc ?_); case sc => exact sideB))
    refine Exists.intro _ (And.intro ?_ (And.intro ?_ (And.intro ?_ (h0 hne))))
    · exact (And.intro rfl (And.intro rfl (And.intro rfl (And.intro rfl (And.intro trivial (And.intro trivial (trivial)))))))
    · exact ⟨trivial, trivial, trivial, trivial, trivial, trivial, trivial⟩
    · rfl
  repeat ((conv => whnf); first | with_reducible refine O_step ?_ | with_reducible refine S_step ?_ | with_reducible refine D_step ?_ | with_reducible refine RO.exit ?_ | with_reducible refine RO.ret ?_ | ((with_reducible refine And.intro ?sc ?_); case sc => exact side) | ((with_reducible refine br_f ?sc ?_); case sc => exact sideB) | ((with_reducible refine br_t ?sc ?_); case sc => exact sideB))
  refine Iff.mpr and_comm (And.intro (fun hc => ?_) (fun hc_frame => ?_))
  · have hne : a ≠ b := by rintro rfl; simp_all
    repeat ((conv => whnf); first | with_reducible refine O_step ?_ | with_reducible refine S_step ?_ | with_reducible refine D_step ?_ | with_reducible refine RO.exit ?_ | with_reducible refine RO.ret ?_ | ((with_reducible refine And.intro ?sc ?_); case sc => exact side) | ((with_reducible refine br_f ?sc ?_); case sc => exact sideB) | ((with_reducible refine br_t ?sc ?_); case sc => exact sideB))
    refine Exists.intro _ (And.intro ?_ (And.intro ?_ (And.intro ?_ (h0 hne))))
    · exact (And.intro rfl (And.intro rfl (And.intro rfl (And.intro rfl (And.intro trivial (And.intro trivial (trivial)))))))
    · exact ⟨trivial, trivial, trivial, trivial, trivial, trivial, trivial⟩
    · rfl
  repeat ((conv => whnf); first | with_reducible refine O_step ?_ | with_reducible refine S_step ?_ | with_reducible refine D_step ?_ | with_reducible refine RO.exit ?_ | with_reducible refine RO.ret ?_ | ((with_reducible refine And.intro ?sc ?_); case sc => exact side) | ((with_reducible refine br_f ?sc ?_); case sc => exact sideB) | ((with_reducible refine br_t ?sc ?_); case sc => exact sideB))
  refine Iff.mpr and_comm (And.intro (fun hc => ?_) (fun hc_base => ?_))
  · have hne : a ≠ b := by rintro rfl; simp_all
    repeat ((conv => whnf); first | with_reducible refine O_step ?_ | with_reducible refine S_step ?_ | with_reducible refine D_step ?_ | with_reducible refine RO.exit ?_ | with_reducible refine RO.ret ?_ | ((with_reducible refine And.intro ?sc ?_); case sc => exact side) | ((with_reducible refine br_f ?sc ?_); case sc => exact sideB) | ((with_reducible refine br_t ?sc ?_); case sc => exact sideB))
    refine Exists.intro _ (And.intro ?_ (And.intro ?_ (And.intro ?_ (h0 hne))))
    · exact (And.intro rfl (And.intro rfl (And.intro rfl (And.intro rfl (And.intro trivial (And.intro trivial (trivial)))))))
    · exact ⟨trivial, trivial, trivial, trivial, trivial, trivial, trivial⟩
    · rfl
  repeat ((conv => whnf); first | with_reducible refine O_step ?_ | with_reducible refine S_step ?_ | with_reducible refine D_step ?_ | with_reducible refine RO.exit ?_ | with_reducible refine RO.ret ?_ | ((with_reducible refine And.intro ?sc ?_); case sc => exact side) | ((with_reducible refine br_f ?sc ?_); case sc => exact sideB) | ((with_reducible refine br_t ?sc ?_); case sc => exact sideB))
  refine Iff.mpr and_comm (And.intro (fun hc => ?_) (fun hc_has => ?_))
  · have hne : a ≠ b := by rintro rfl; simp_all
    repeat ((conv => whnf); first | with_reducible refine O_step ?_ | with_reducible refine S_step ?_ | with_reducible refine D_step ?_ | with_reducible refine RO.exit ?_ | with_reducible refine RO.ret ?_ | ((with_reducible refine And.intro ?sc ?_); case sc => exact side) | ((with_reducible refine br_f ?sc ?_); case sc => exact sideB) | ((with_reducible refine br_t ?sc ?_); case sc => exact sideB))
    refine Exists.intro _ (And.intro ?_ (And.intro ?_ (And.intro ?_ (h0 hne))))
    · exact (And.intro rfl (And.intro rfl (And.intro rfl (And.intro rfl (And.intro trivial (And.intro trivial (trivial)))))))
    · exact ⟨trivial, trivial, trivial, trivial, trivial, trivial, trivial⟩
    · rfl
  repeat ((conv => whnf); first | with_reducible refine O_step ?_ | with_reducible refine S_step ?_ | with_reducible refine D_step ?_ | with_reducible refine RO.exit ?_ | with_reducible refine RO.ret ?_ | ((with_reducible refine And.intro ?sc ?_); case sc => exact side) | ((with_reducible refine br_f ?sc ?_); case sc => exact sideB) | ((with_reducible refine br_t ?sc ?_); case sc => exact sideB))
  refine Iff.mpr and_comm (And.intro (fun hc => ?_) (fun hc_full => ?_))
  · have hne : a ≠ b := by rintro rfl; simp_all
    repeat ((conv => whnf); first | with_reducible refine O_step ?_ | with_reducible refine S_step ?_ | with_reducible refine D_step ?_ | with_reducible refine RO.exit ?_ | with_reducible refine RO.ret ?_ | ((with_reducible refine And.intro ?sc ?_); case sc => exact side) | ((with_reducible refine br_f ?sc ?_); case sc => exact sideB) | ((with_reducible refine br_t ?sc ?_); case sc => exact sideB))
    refine Exists.intro _ (And.intro ?_ (And.intro ?_ (And.intro ?_ (h0 hne))))
    · exact (And.intro rfl (And.intro rfl (And.intro rfl (And.intro rfl (And.intro trivial (And.intro trivial (trivial)))))))
    · exact ⟨trivial, trivial, trivial, trivial, trivial, trivial, trivial⟩
    · rfl
  repeat ((conv => whnf); first | with_reducible refine O_step ?_ | with_reducible refine S_step ?_ | with_reducible refine D_step ?_ | with_reducible refine RO.exit ?_ | with_reducible refine RO.ret ?_ | ((with_reducible refine And.intro ?sc ?_); case sc => exact side) | ((with_reducible refine br_f ?sc ?_); case sc => exact sideB) | ((with_reducible refine br_t ?sc ?_); case sc => exact sideB))
  refine Iff.mpr and_comm (And.intro (fun hc => ?_) (fun hc_w => ?_))
  · have hne : a ≠ b := by rintro rfl; simp_all
    repeat ((conv => whnf); first | with_reducible refine O_step ?_ | with_reducible refine S_step ?_ | with_reducible refine D_step ?_ | with_reducible refine RO.exit ?_ | with_reducible refine RO.ret ?_ | ((with_reducible refine And.intro ?sc ?_); case sc => exact side) | ((with_reducible refine br_f ?sc ?_); case sc => exact sideB) | ((with_reducible refine br_t ?sc ?_); case sc => exact sideB))
    refine Exists.intro _ (And.intro ?_ (And.intro ?_ (And.intro ?_ (h0 hne))))
    · exact (And.intro rfl (And.intro rfl (And.intro rfl (And.intro rfl (And.intro trivial (And.intro trivial (trivial)))))))
    · exact ⟨trivial, trivial, trivial, trivial, trivial, trivial, trivial⟩
    · rfl
  repeat ((conv => whnf); first | with_reducible refine O_step ?_ | with_reducible refine S_step ?_ | with_reducible refine D_step ?_ | with_reducible refine RO.exit ?_ | with_reducible refine RO.ret ?_ | ((with_reducible refine And.intro ?sc ?_); case sc => exact side) | ((with_reducible refine br_f ?sc ?_); case sc => exact sideB) | ((with_reducible refine br_t ?sc ?_); case sc => exact sideB))
  refine Iff.mpr and_comm (And.intro (fun hc => ?_) (fun hc_h => ?_))
  · have hne : a ≠ b := by rintro rfl; simp_all
    repeat ((conv => whnf); first | with_reducible refine O_step ?_ | with_reducible refine S_step ?_ | with_reducible refine D_step ?_ | with_reducible refine RO.exit ?_ | with_reducible refine RO.ret ?_ | ((with_reducible refine And.intro ?sc ?_); case sc => exact side) | ((with_reducible refine br_f ?sc ?_); case sc => exact sideB) | ((with_reducible refine br_t ?sc ?_); case sc => exact sideB))
    refine Exists.intro _ (And.intro ?_ (And.intro ?_ (And.intro ?_ (h0 hne))))
    · exact (And.intro rfl (And.intro rfl (And.intro rfl (And.intro rfl (And.intro trivial (And.intro trivial (trivial)))))))
    · exact ⟨trivial, trivial, trivial, trivial, trivial, trivial, trivial⟩
    · rfl
  repeat ((conv => whnf); first | with_reducible refine O_step ?_ | with_reducible refine S_step ?_ | with_reducible refine D_step ?_ | with_reducible refine RO.exit ?_ | with_reducible refine RO.ret ?_ | ((with_reducible refine And.intro ?sc ?_); case sc => exact side) | ((with_reducible refine br_f ?sc ?_); case sc => exact sideB) | ((with_reducible refine br_t ?sc ?_); case sc => exact sideB))
  refine CallA.lift [.win 0 0 0, .win 2 0 0] (equal32_call (xs := a.sums) (ys := b.sums) (c0 := e0) (c1 := e2) (c := c0) (d := c2) (K := fun r M => r = .bo (decide (a.sums = b.sums)) ∧ M = [.one false 0 (.ints .u32 a.sums c0), .one false 0 (.ints .u32 b.sums c2)]) (Kp := fun _ _ => False) (by omega) (by omega) ⟨rfl, rfl⟩) rfl rfl ⟨⟨_, _, _, rfl, rfl, winI0⟩, ⟨_, _, _, rfl, rfl, winI0⟩, trivial⟩ ⟨trivial, trivial, trivial⟩ ?_ (fun _ _ h => h.elim)
  rintro r M' ⟨rfl, rfl⟩
  refine ⟨⟨rfl, rfl, rfl⟩, ?_⟩
  repeat ((conv => whnf); first | with_reducible refine O_step ?_ | with_reducible refine S_step ?_ | with_reducible refine D_step ?_ | with_reducible refine RO.exit ?_ | with_reducible refine RO.ret ?_ | ((with_reducible refine And.intro ?sc ?_); case sc => exact side) | ((with_reducible refine br_f ?sc ?_); case sc => exact sideB) | ((with_reducible refine br_t ?sc ?_); case sc => exact sideB))
  refine Iff.mpr and_comm (And.intro (fun hc => ?_) (fun hc_sums => ?_))
  · have hne : a ≠ b := by rintro rfl; simp_all
    repeat ((conv => whnf); first | with_reducible refine O_step ?_ | with_reducible refine S_step ?_ | with_reducible refine D_step ?_ | with_reducible refine RO.exit ?_ | with_reducible refine RO.ret ?_ | ((with_reducible refine And.intro ?sc ?_); case sc => exact side) | ((with_reducible refine br_f ?sc ?_); case sc => exact sideB) | ((with_reducible refine br_t ?sc ?_); case sc => exact sideB))
    refine Exists.intro _ (And.intro ?_ (And.intro ?_ (And.intro ?_ (h0 hne))))
    · exact (And.intro rfl (And.intro rfl (And.intro rfl (And.intro rfl (And.intro trivial (And.intro trivial (trivial)))))))
    · exact ⟨trivial, trivial, trivial, trivial, trivial, trivial, trivial⟩
    · rfl
  repeat ((conv => whnf); first | with_reducible refine O_step ?_ | with_reducible refine S_step ?_ | with_reducible refine D_step ?_ | with_reducible refine RO.exit ?_ | with_reducible refine RO.ret ?_ | ((with_reducible refine And.intro ?sc ?_); case sc => exact side) | ((with_reducible refine br_f ?sc ?_); case sc => exact sideB) | ((with_reducible refine br_t ?sc ?_); case sc => exact sideB))
  refine Iff.mpr and_comm (And.intro (fun hc => ?_) (fun hc_seq => ?_))
  · have hne : a ≠ b := by rintro rfl; simp_all
    repeat ((conv => whnf); first | with_reducible refine O_step ?_ | with_reducible refine S_step ?_ | with_reducible refine D_step ?_ | with_reducible refine RO.exit ?_ | with_reducible refine RO.ret ?_ | ((with_reducible refine And.intro ?sc ?_); case sc => exact side) | ((with_reducible refine br_f ?sc ?_); case sc => exact sideB) | ((with_reducible refine br_t ?sc ?_); case sc => exact sideB))
    refine Exists.intro _ (And.intro ?_ (And.intro ?_ (And.intro ?_ (h0 hne))))
    · exact (And.intro rfl (And.intro rfl (And.intro rfl (And.intro rfl (And.intro trivial (And.intro trivial (trivial)))))))
    · exact ⟨trivial, trivial, trivial, trivial, trivial, trivial, trivial⟩
    · rfl
  repeat ((conv => whnf); first | with_reducible refine O_step ?_ | with_reducible refine S_step ?_ | with_reducible refine D_step ?_ | with_reducible refine RO.exit ?_ | with_reducible refine RO.ret ?_ | ((with_reducible refine And.intro ?sc ?_); case sc => exact side) | ((with_reducible refine br_f ?sc ?_); case sc => exact sideB) | ((with_reducible refine br_t ?sc ?_); case sc => exact sideB))
  refine Iff.mpr and_comm (And.intro (fun hc => ?_) (fun hc_event => ?_))
  · have hne : a ≠ b := by rintro rfl; simp_all
    repeat ((conv => whnf); first | with_reducible refine O_step ?_ | with_reducible refine S_step ?_ | with_reducible refine D_step ?_ | with_reducible refine RO.exit ?_ | with_reducible refine RO.ret ?_ | ((with_reducible refine And.intro ?sc ?_); case sc => exact side) | ((with_reducible refine br_f ?sc ?_); case sc => exact sideB) | ((with_reducible refine br_t ?sc ?_); case sc => exact sideB))
    refine Exists.intro _ (And.intro ?_ (And.intro ?_ (And.intro ?_ (h0 hne))))
    · exact (And.intro rfl (And.intro rfl (And.intro rfl (And.intro rfl (And.intro trivial (And.intro trivial (trivial)))))))
    · exact ⟨trivial, trivial, trivial, trivial, trivial, trivial, trivial⟩
    · rfl
  repeat ((conv => whnf); first | with_reducible refine O_step ?_ | with_reducible refine S_step ?_ | with_reducible refine D_step ?_ | with_reducible refine RO.exit ?_ | with_reducible refine RO.ret ?_ | ((with_reducible refine And.intro ?sc ?_); case sc => exact side) | ((with_reducible refine br_f ?sc ?_); case sc => exact sideB) | ((with_reducible refine br_t ?sc ?_); case sc => exact sideB))
  refine CallA.lift [.win 1 0 0, .win 3 0 0] (equal8_call (xs := a.body) (ys := b.body) (c0 := e1) (c1 := e3) (c := c1) (d := d2) (K := fun r M => r = .bo (decide (a.body = b.body)) ∧ M = [.one false 0 (.ints .u8 a.body c1), .one false 0 (.ints .u8 b.body d2)]) (Kp := fun _ _ => False) (by omega) (by omega) ⟨rfl, rfl⟩) rfl rfl ⟨⟨_, _, _, rfl, rfl, winI0⟩, ⟨_, _, _, rfl, rfl, winI0⟩, trivial⟩ ⟨trivial, trivial, trivial⟩ ?_ (fun _ _ h => h.elim)
  rintro r M' ⟨rfl, rfl⟩
  refine ⟨⟨rfl, rfl, rfl⟩, ?_⟩
  repeat ((conv => whnf); first | with_reducible refine O_step ?_ | with_reducible refine S_step ?_ | with_reducible refine D_step ?_ | with_reducible refine RO.exit ?_ | with_reducible refine RO.ret ?_ | ((with_reducible refine And.intro ?sc ?_); case sc => exact side) | ((with_reducible refine br_f ?sc ?_); case sc => exact sideB) | ((with_reducible refine br_t ?sc ?_); case sc => exact sideB))
  by_cases hc_body : a.body = b.body
  · have he : a = b := by
      have := hc_event
      cases a; cases b; simp_all
    rw [decide_eq_true hc_body]
    refine Exists.intro _ (And.intro ?_ (And.intro ?_ (And.intro ?_ (h1 he))))
    · exact (And.intro rfl (And.intro rfl (And.intro rfl (And.intro rfl (And.intro trivial (And.intro trivial (trivial)))))))
    · exact ⟨trivial, trivial, trivial, trivial, trivial, trivial, trivial⟩
    · rfl
  · have hne : a ≠ b := by rintro rfl; simp_all
    rw [decide_eq_false hc_body]
    refine Exists.intro _ (And.intro ?_ (And.intro ?_ (And.intro ?_ (h0 hne))))
    · exact (And.intro rfl (And.intro rfl (And.intro rfl (And.intro rfl (And.intro trivial (And.intro trivial (trivial)))))))
    · exact ⟨trivial, trivial, trivial, trivial, trivial, trivial, trivial⟩
    · rfl

/-- The same with the slices at names of their own. -/
theorem same4_at {M : AH} {a b : Msg} {i0 g0 c0 i1 g1 c1 i2 g2 c2 i3 g3 d2 e0 e1 e2 e3 : Nat} {o0 o1 o2 o3 : Bool} {K Kp : AV → AH → Prop} (w0 : slot M i0 g0 = some (o0, .ints .u32 a.sums c0)) (w1 : slot M i1 g1 = some (o1, .ints .u8 a.body c1)) (w2 : slot M i2 g2 = some (o2, .ints .u32 b.sums c2)) (w3 : slot M i3 g3 = some (o3, .ints .u8 b.body d2))
    (la : a.sums.length ≤ 1000000000 ∧ a.body.length ≤ 1000000000) (ls : b.sums.length ≤ 1000000000) (lb : b.body.length ≤ 1000000000)
    (h1 : a = b → K (.bo true) (M ++ [.gone, .gone])) (h0 : a ≠ b → K (.bo false) (M ++ [.gone, .gone])) :
    CallA Try.prog 21 [.agg (msL (.bo a.has) (.bo a.full) (.sl i0 g0 0 a.sums.length e0) (.sl i1 g1 0 a.body.length e1) a), .agg (msL (.bo b.has) (.bo b.full) (.sl i2 g2 0 b.sums.length e2) (.sl i3 g3 0 b.body.length e3) b)] M K Kp := by
  refine CallA.lift [.win i0 g0 0, .win i1 g1 0, .win i2 g2 0, .win i3 g3 0] (same4_call (Kp := fun _ _ => False) (K := fun r M' => M' = sa4 a b c0 c1 c2 d2 ++ [.gone, .gone] ∧ ((a = b ∧ r = .bo true) ∨ (a ≠ b ∧ r = .bo false))) la ls lb (fun e => ⟨rfl, .inl ⟨e, rfl⟩⟩) (fun e => ⟨rfl, .inr ⟨e, rfl⟩⟩)) rfl rfl
    ⟨⟨_, _, _, rfl, w0, winI0⟩, ⟨_, _, _, rfl, w1, winI0⟩, ⟨_, _, _, rfl, w2, winI0⟩, ⟨_, _, _, rfl, w3, winI0⟩, trivial⟩ ⟨trivial, trivial, trivial, trivial, trivial⟩ ?_ (fun _ _ h => h.elim)
  rintro r M' ⟨rfl, ⟨e, rfl⟩ | ⟨e, rfl⟩⟩
  · exact ⟨⟨rfl, rfl, rfl, rfl, rfl⟩, h1 e⟩
  · exact ⟨⟨rfl, rfl, rfl, rfl, rfl⟩, h0 e⟩
theorem sameN {a b : Msg} {hv fv : AV} {c0 c3 c1 c2 d1 d2 : Nat} {K Kp : AV → AH → Prop} (kh : isB hv a.has) (kf : isB fv a.full) (hs : a.sums = []) (hb : a.body = []) (la : a.sums.length ≤ 1000000000 ∧ a.body.length ≤ 1000000000) (ls : b.sums.length ≤ 1000000000) (lb : b.body.length ≤ 1000000000)
    (h1 : a = b → K (.bo true) ([.one false 0 (.ints .u32 b.sums c2), .one false 0 (.ints .u8 b.body d2)] ++ [.gone, .gone]))
    (h0 : a ≠ b → K (.bo false) ([.one false 0 (.ints .u32 b.sums c2), .one false 0 (.ints .u8 b.body d2)] ++ [.gone, .gone])) :
    CallA Try.prog 21 [.agg (msL hv fv (.ns) (.ns) a), .agg (msL (.bo b.has) (.bo b.full) (.sl 0 0 0 b.sums.length c1) (.sl 1 0 0 b.body.length d1) b)] [.one false 0 (.ints .u32 b.sums c2), .one false 0 (.ints .u8 b.body d2)] K Kp := by
  refine CallA.post_pick ?_
  refine CallA.view ((Vw.canon (M := [.one false 0 (.ints .u32 b.sums c2), .one false 0 (.ints .u8 b.body d2)]) (x := .ints .u32 [] 0) (l' := [.agg (msL (.bo a.has) (.bo a.full) (.sl 2 0 0 a.sums.length 0) .ns a), .agg (msL (.bo b.has) (.bo b.full) (.sl 0 0 0 b.sums.length c1) (.sl 1 0 0 b.body.length d1) b)]) ⟨rfl, rfl⟩
      (cnL_cons (cnV_agg (msL_cn (cnV_isB kh) (cnV_isB kf) (by rw [hs]; exact cnV_nsl _) (cnV_refl _ _))) (cnL_refl _ _))).trans (Vw.canon (x := .ints .u8 [] 0) (l' := [.agg (msL (.bo a.has) (.bo a.full) (.sl 2 0 0 a.sums.length 0) (.sl 3 0 0 a.body.length 0) a), .agg (msL (.bo b.has) (.bo b.full) (.sl 0 0 0 b.sums.length c1) (.sl 1 0 0 b.body.length d1) b)]) ⟨rfl, rfl⟩
      (cnL_cons (cnV_agg (msL_cn (cnV_refl _ _) (cnV_refl _ _) (cnV_refl _ _) (by rw [hb]; exact cnV_nsl _))) (cnL_refl _ _)))) ?_
  exact same4_at (a := a) (b := b) (by rw [hs]; rfl) (by rw [hb]; rfl) rfl rfl la ls lb (fun e => ⟨[.sha 0, .sha 1, .own 4, .own 5], .bo true, ([.one false 0 (.ints .u32 b.sums c2), .one false 0 (.ints .u8 b.body d2), .gone, .gone] : AH), ⟨⟨⟨rfl, .one false 0 (.ints .u32 b.sums c2), rfl, rfl⟩, ⟨rfl, .one false 0 (.ints .u8 b.body d2), rfl, rfl⟩, ⟨rfl, rfl⟩, ⟨rfl, rfl⟩, trivial⟩, rfl, ⟨trivial, trivial, trivial, trivial, trivial⟩, rfl, fun i hi => by match i, hi with | 0, _ => exact .inr rfl | 1, _ => exact .inr rfl⟩, h1 e⟩)
    (fun e => ⟨[.sha 0, .sha 1, .own 4, .own 5], .bo false, ([.one false 0 (.ints .u32 b.sums c2), .one false 0 (.ints .u8 b.body d2), .gone, .gone] : AH), ⟨⟨⟨rfl, .one false 0 (.ints .u32 b.sums c2), rfl, rfl⟩, ⟨rfl, .one false 0 (.ints .u8 b.body d2), rfl, rfl⟩, ⟨rfl, rfl⟩, ⟨rfl, rfl⟩, trivial⟩, rfl, ⟨trivial, trivial, trivial, trivial, trivial⟩, rfl, fun i hi => by match i, hi with | 0, _ => exact .inr rfl | 1, _ => exact .inr rfl⟩, h0 e⟩)
theorem sameS {a b : Msg} {hv fv : AV} {c0 c3 c1 c2 d1 d2 : Nat} {K Kp : AV → AH → Prop} (kh : isB hv a.has) (kf : isB fv a.full) (hb : a.body = []) (la : a.sums.length ≤ 1000000000 ∧ a.body.length ≤ 1000000000) (ls : b.sums.length ≤ 1000000000) (lb : b.body.length ≤ 1000000000)
    (h1 : a = b → K (.bo true) ([.one false 0 (.ints .u32 a.sums c0), .one false 0 (.ints .u32 b.sums c2), .one false 0 (.ints .u8 b.body d2)] ++ [.gone, .gone]))
    (h0 : a ≠ b → K (.bo false) ([.one false 0 (.ints .u32 a.sums c0), .one false 0 (.ints .u32 b.sums c2), .one false 0 (.ints .u8 b.body d2)] ++ [.gone, .gone])) :
    CallA Try.prog 21 [.agg (msL hv fv (.sl 0 0 0 a.sums.length c3) (.ns) a), .agg (msL (.bo b.has) (.bo b.full) (.sl 1 0 0 b.sums.length c1) (.sl 2 0 0 b.body.length d1) b)] [.one false 0 (.ints .u32 a.sums c0), .one false 0 (.ints .u32 b.sums c2), .one false 0 (.ints .u8 b.body d2)] K Kp := by
  refine CallA.post_pick ?_
  refine CallA.view (Vw.canon (M := [.one false 0 (.ints .u32 a.sums c0), .one false 0 (.ints .u32 b.sums c2), .one false 0 (.ints .u8 b.body d2)]) (x := .ints .u8 [] 0) (l' := [.agg (msL (.bo a.has) (.bo a.full) (.sl 0 0 0 a.sums.length c3) (.sl 3 0 0 a.body.length 0) a), .agg (msL (.bo b.has) (.bo b.full) (.sl 1 0 0 b.sums.length c1) (.sl 2 0 0 b.body.length d1) b)]) ⟨rfl, rfl⟩
      (cnL_cons (cnV_agg (msL_cn (cnV_isB kh) (cnV_isB kf) (cnV_refl _ _) (by rw [hb]; exact cnV_nsl _))) (cnL_refl _ _))) ?_
  exact same4_at (a := a) (b := b) rfl (by rw [hb]; rfl) rfl rfl la ls lb (fun e => ⟨[.sha 0, .sha 1, .sha 2, .own 4, .own 5], .bo true, ([.one false 0 (.ints .u32 a.sums c0), .one false 0 (.ints .u32 b.sums c2), .one false 0 (.ints .u8 b.body d2), .gone, .gone] : AH), ⟨⟨⟨rfl, .one false 0 (.ints .u32 a.sums c0), rfl, rfl⟩, ⟨rfl, .one false 0 (.ints .u32 b.sums c2), rfl, rfl⟩, ⟨rfl, .one false 0 (.ints .u8 b.body d2), rfl, rfl⟩, ⟨rfl, rfl⟩, ⟨rfl, rfl⟩, trivial⟩, rfl, ⟨trivial, trivial, trivial, trivial, trivial, trivial⟩, rfl, fun i hi => by match i, hi with | 0, _ => exact .inr rfl | 1, _ => exact .inr rfl | 2, _ => exact .inr rfl⟩, h1 e⟩)
    (fun e => ⟨[.sha 0, .sha 1, .sha 2, .own 4, .own 5], .bo false, ([.one false 0 (.ints .u32 a.sums c0), .one false 0 (.ints .u32 b.sums c2), .one false 0 (.ints .u8 b.body d2), .gone, .gone] : AH), ⟨⟨⟨rfl, .one false 0 (.ints .u32 a.sums c0), rfl, rfl⟩, ⟨rfl, .one false 0 (.ints .u32 b.sums c2), rfl, rfl⟩, ⟨rfl, .one false 0 (.ints .u8 b.body d2), rfl, rfl⟩, ⟨rfl, rfl⟩, ⟨rfl, rfl⟩, trivial⟩, rfl, ⟨trivial, trivial, trivial, trivial, trivial, trivial⟩, rfl, fun i hi => by match i, hi with | 0, _ => exact .inr rfl | 1, _ => exact .inr rfl | 2, _ => exact .inr rfl⟩, h0 e⟩)
theorem sameB {a b : Msg} {hv fv : AV} {c0 c3 c1 c2 d1 d2 : Nat} {K Kp : AV → AH → Prop} (kh : isB hv a.has) (kf : isB fv a.full) (hs : a.sums = []) (la : a.sums.length ≤ 1000000000 ∧ a.body.length ≤ 1000000000) (ls : b.sums.length ≤ 1000000000) (lb : b.body.length ≤ 1000000000)
    (h1 : a = b → K (.bo true) ([.one false 0 (.ints .u8 a.body c0), .one false 0 (.ints .u32 b.sums c2), .one false 0 (.ints .u8 b.body d2)] ++ [.gone, .gone]))
    (h0 : a ≠ b → K (.bo false) ([.one false 0 (.ints .u8 a.body c0), .one false 0 (.ints .u32 b.sums c2), .one false 0 (.ints .u8 b.body d2)] ++ [.gone, .gone])) :
    CallA Try.prog 21 [.agg (msL hv fv (.ns) (.sl 0 0 0 a.body.length c3) a), .agg (msL (.bo b.has) (.bo b.full) (.sl 1 0 0 b.sums.length c1) (.sl 2 0 0 b.body.length d1) b)] [.one false 0 (.ints .u8 a.body c0), .one false 0 (.ints .u32 b.sums c2), .one false 0 (.ints .u8 b.body d2)] K Kp := by
  refine CallA.post_pick ?_
  refine CallA.view (Vw.canon (M := [.one false 0 (.ints .u8 a.body c0), .one false 0 (.ints .u32 b.sums c2), .one false 0 (.ints .u8 b.body d2)]) (x := .ints .u32 [] 0) (l' := [.agg (msL (.bo a.has) (.bo a.full) (.sl 3 0 0 a.sums.length 0) (.sl 0 0 0 a.body.length c3) a), .agg (msL (.bo b.has) (.bo b.full) (.sl 1 0 0 b.sums.length c1) (.sl 2 0 0 b.body.length d1) b)]) ⟨rfl, rfl⟩
      (cnL_cons (cnV_agg (msL_cn (cnV_isB kh) (cnV_isB kf) (by rw [hs]; exact cnV_nsl _) (cnV_refl _ _))) (cnL_refl _ _))) ?_
  exact same4_at (a := a) (b := b) (by rw [hs]; rfl) rfl rfl rfl la ls lb (fun e => ⟨[.sha 0, .sha 1, .sha 2, .own 4, .own 5], .bo true, ([.one false 0 (.ints .u8 a.body c0), .one false 0 (.ints .u32 b.sums c2), .one false 0 (.ints .u8 b.body d2), .gone, .gone] : AH), ⟨⟨⟨rfl, .one false 0 (.ints .u8 a.body c0), rfl, rfl⟩, ⟨rfl, .one false 0 (.ints .u32 b.sums c2), rfl, rfl⟩, ⟨rfl, .one false 0 (.ints .u8 b.body d2), rfl, rfl⟩, ⟨rfl, rfl⟩, ⟨rfl, rfl⟩, trivial⟩, rfl, ⟨trivial, trivial, trivial, trivial, trivial, trivial⟩, rfl, fun i hi => by match i, hi with | 0, _ => exact .inr rfl | 1, _ => exact .inr rfl | 2, _ => exact .inr rfl⟩, h1 e⟩)
    (fun e => ⟨[.sha 0, .sha 1, .sha 2, .own 4, .own 5], .bo false, ([.one false 0 (.ints .u8 a.body c0), .one false 0 (.ints .u32 b.sums c2), .one false 0 (.ints .u8 b.body d2), .gone, .gone] : AH), ⟨⟨⟨rfl, .one false 0 (.ints .u8 a.body c0), rfl, rfl⟩, ⟨rfl, .one false 0 (.ints .u32 b.sums c2), rfl, rfl⟩, ⟨rfl, .one false 0 (.ints .u8 b.body d2), rfl, rfl⟩, ⟨rfl, rfl⟩, ⟨rfl, rfl⟩, trivial⟩, rfl, ⟨trivial, trivial, trivial, trivial, trivial, trivial⟩, rfl, fun i hi => by match i, hi with | 0, _ => exact .inr rfl | 1, _ => exact .inr rfl | 2, _ => exact .inr rfl⟩, h0 e⟩)
end Go.Proofs.Ytedlpkibdjccdaa
