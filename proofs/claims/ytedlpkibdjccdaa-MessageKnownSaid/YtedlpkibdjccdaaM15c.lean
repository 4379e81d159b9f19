/- Layer 23: over when it reads, its answer in the canonical form. -/
import Derived.Test.YtedlpkibdjccdaaM15

import Derived.Test.YtedlpkibdjccdaaPk

set_option linter.unusedVariables false

set_option linter.unusedSimpArgs false

open Go.RowKit

namespace Go.Proofs.Ytedlpkibdjccdaa

set_option maxRecDepth 10000

theorem pgL_cn {k : Nat} {c0 c1 bv hv fv sv dv a0 a1 a2 a3 a4 a5 a6 : AV} {m : Msg} (h0 : cnV k c0 a0) (h1 : cnV k c1 a1) (h2 : cnV k bv a2) (h3 : cnV k hv a3) (h4 : cnV k fv a4) (h5 : cnV k sv a5) (h6 : cnV k dv a6) :
    cnL k (pgL c0 c1 bv hv fv sv dv m) (pgL a0 a1 a2 a3 a4 a5 a6 m) := by
  simp only [cnL]
  exact ⟨_, _, rfl, h0, _, _, rfl, h1, _, _, rfl, h2, _, _, rfl, cnV_refl _ _, _, _, rfl, cnV_refl _ _, _, _, rfl, cnV_refl _ _, _, _, rfl, cnV_refl _ _, _, _, rfl, h3, _, _, rfl, h4, _, _, rfl, cnV_refl _ _, _, _, rfl, cnV_refl _ _, _, _, rfl, h5, _, _, rfl, cnV_refl _ _, _, _, rfl, cnV_refl _ _, _, _, rfl, cnV_refl _ _, _, _, rfl, cnV_refl _ _, _, _, rfl, cnV_refl _ _, _, _, rfl, h6, rfl⟩

/-- The page, its bytes, sums, a body, and an empty array. -/
abbrev pgC (bad : Bool) (jb gb ob cb gS cS gD cD lb : Nat) (X : List Int) (cX : Nat) (m : Msg) : AH :=
  [.one true 0 (.cells (pgL (.bo bad) .ff (.sl jb gb ob lb cb) (.bo m.has) (.bo m.full) (.sl 2 gS 0 m.sums.length cS) (.sl 3 gD 0 m.body.length cD) m)), .one false 0 (.ints .u8 X cX), .one true gS (.ints .u32 m.sums cS), .one true gD (.ints .u8 m.body cD), .one true 0 (.ints .u8 [] 0)]

theorem overRc_call {s : RSt} {off c cX : Nat} {X : List Int} {K Kp : AV → AH → Prop} (o : inX X off c s.l) (hcX : X.length ≤ cX) (ht : 1 ≤ s.m.ty ∧ s.m.ty ≤ 6) (hm : s.m = zeroM s.m.ty) (hb : s.bad = false)
    (h : ∀ jb gb ob cb gS cS gD cD, (readF s).m.sums.length ≤ cS → (readF s).m.body.length ≤ cD → (jb = 1 ∨ jb = 4) → (jb = 1 → gb = 0) →
      K (.tup []) (pgC (readF s).bad jb gb ob cb gS cS gD cD (readF s).l.length X cX (readF s).m)) :
    CallA Try.prog 20 [.ptr 0 0 0] (pgR .ff .ff .ff .ns .ns off c s.l X cX s.m) K Kp := by
  refine CallA.post_pick ?_
  refine CallA.post_view ?_
  refine overR_call o hcX ht hm hb (fun c0' bv hv' fv' sv dv Z k1 k2 k3 k4 k5 => ?_)
  have main : ∀ jb gb ob cb : Nat, (jb = 1 ∨ jb = 4) → (jb = 1 → gb = 0) → cnV 10 bv (.sl (if jb = 4 then 10 else 1) gb ob (readF s).l.length cb) →
      ∃ r' M'', Vw [AO.one true 0 (.cells (pgL c0' .ff bv hv' fv' sv dv (readF s).m)), .one false 0 (.ints .u8 X cX), .gone, .gone, .gone, .gone, .gone, .gone, .gone, Z] M'' [.tup []] [r'] ∧ ∃ t r'_1 N, PickA 2 r' M'' t r'_1 N ∧ K r'_1 N := by
    intro jb gb ob cb hj hg hbv
    have v1 := Vw.cells (M := [AO.one true 0 (.cells (pgL c0' .ff bv hv' fv' sv dv (readF s).m)), .one false 0 (.ints .u8 X cX), .gone, .gone, .gone, .gone, .gone, .gone, .gone, Z]) (i := 0) (x := .ints .u8 [] 0) (l := [.tup []]) rfl
      (pgL_cn (cnV_isB k1) (cnV_refl 10 .ff) hbv (cnV_isB k3) (cnV_isB k4) (cnV_refl 10 sv) (cnV_refl 10 dv)) ⟨rfl, rfl⟩
    cases k5 with
    | N e1 e2 =>
      have v2 := Vw.cells (M := [AO.one true 0 (.cells (pgL (.bo (readF s).bad) .ff (.sl (if jb = 4 then 10 else 1) gb ob (readF s).l.length cb) (.bo (readF s).m.has) (.bo (readF s).m.full) .ns .ns (readF s).m)), .one false 0 (.ints .u8 X cX), .gone, .gone, .gone, .gone, .gone, .gone, .gone, .one true 0 (.ints .u32 [] 0), .one true 0 (.ints .u8 [] 0)]) (i := 0) (x := .ints .u32 [] 0) (l := [.tup []]) rfl
        (pgL_cn (cnV_refl 11 _) (cnV_refl 11 .ff) (cnV_refl 11 _) (cnV_refl 11 _) (cnV_refl 11 _) (cnV_nsl 11) (cnV_refl 11 .ns)) ⟨rfl, rfl⟩
      have v3 := Vw.cells (M := [AO.one true 0 (.cells (pgL (.bo (readF s).bad) .ff (.sl (if jb = 4 then 10 else 1) gb ob (readF s).l.length cb) (.bo (readF s).m.has) (.bo (readF s).m.full) (.sl 11 0 0 0 0) .ns (readF s).m)), .one false 0 (.ints .u8 X cX), .gone, .gone, .gone, .gone, .gone, .gone, .gone, .one true 0 (.ints .u32 [] 0), .one true 0 (.ints .u8 [] 0), .one true 0 (.ints .u32 [] 0)]) (i := 0) (x := .ints .u8 [] 0) (l := [.tup []]) rfl
        (pgL_cn (cnV_refl 12 _) (cnV_refl 12 .ff) (cnV_refl 12 _) (cnV_refl 12 _) (cnV_refl 12 _) (cnV_refl 12 _) (cnV_nsl 12)) ⟨rfl, rfl⟩
      refine ⟨_, _, v1.trans (v2.trans v3), [.own 0, .sha 1, .own 11, .own 12, .own 10], .tup [], _, ?_, h jb gb ob cb 0 0 0 0 (by simp [e1]) (by simp [e2]) hj hg⟩
      rw [pgC, e1, e2]
      rcases hj with rfl | rfl
      · exact ⟨⟨⟨rfl, rfl⟩, ⟨rfl, _, rfl, rfl⟩, ⟨rfl, rfl⟩, ⟨rfl, rfl⟩, ⟨rfl, rfl⟩, trivial⟩, rfl, ⟨rfl, trivial, trivial, trivial, trivial, trivial⟩, rfl, fun i hi => by match i, hi with | 0, _ => exact .inl rfl | 1, _ => exact .inr rfl⟩
      · exact ⟨⟨⟨rfl, rfl⟩, ⟨rfl, _, rfl, rfl⟩, ⟨rfl, rfl⟩, ⟨rfl, rfl⟩, ⟨rfl, rfl⟩, trivial⟩, rfl, ⟨rfl, trivial, trivial, trivial, trivial, trivial⟩, rfl, fun i hi => by match i, hi with | 0, _ => exact .inl rfl | 1, _ => exact .inr rfl⟩
    | S e2 =>
      have v3 := Vw.cells (M := [AO.one true 0 (.cells (pgL (.bo (readF s).bad) .ff (.sl (if jb = 4 then 10 else 1) gb ob (readF s).l.length cb) (.bo (readF s).m.has) (.bo (readF s).m.full) (.sl 9 0 0 (readF s).m.sums.length (readF s).m.sums.length) .ns (readF s).m)), .one false 0 (.ints .u8 X cX), .gone, .gone, .gone, .gone, .gone, .gone, .gone, .one true 0 (.ints .u32 (readF s).m.sums (readF s).m.sums.length), .one true 0 (.ints .u8 [] 0)]) (i := 0) (x := .ints .u8 [] 0) (l := [.tup []]) rfl
        (pgL_cn (cnV_refl 11 _) (cnV_refl 11 .ff) (cnV_refl 11 _) (cnV_refl 11 _) (cnV_refl 11 _) (cnV_refl 11 _) (cnV_nsl 11)) ⟨rfl, rfl⟩
      refine ⟨_, _, v1.trans v3, [.own 0, .sha 1, .own 9, .own 11, .own 10], .tup [], _, ?_, h jb gb ob cb 0 _ 0 0 (Nat.le_refl _) (by simp [e2]) hj hg⟩
      rw [pgC, e2]
      rcases hj with rfl | rfl
      · exact ⟨⟨⟨rfl, rfl⟩, ⟨rfl, _, rfl, rfl⟩, ⟨rfl, rfl⟩, ⟨rfl, rfl⟩, ⟨rfl, rfl⟩, trivial⟩, rfl, ⟨rfl, trivial, trivial, trivial, trivial, trivial⟩, rfl, fun i hi => by match i, hi with | 0, _ => exact .inl rfl | 1, _ => exact .inr rfl⟩
      · exact ⟨⟨⟨rfl, rfl⟩, ⟨rfl, _, rfl, rfl⟩, ⟨rfl, rfl⟩, ⟨rfl, rfl⟩, ⟨rfl, rfl⟩, trivial⟩, rfl, ⟨rfl, trivial, trivial, trivial, trivial, trivial⟩, rfl, fun i hi => by match i, hi with | 0, _ => exact .inl rfl | 1, _ => exact .inr rfl⟩
    | B g d e1 e2 =>
      have v3 := Vw.cells (M := [AO.one true 0 (.cells (pgL (.bo (readF s).bad) .ff (.sl (if jb = 4 then 10 else 1) gb ob (readF s).l.length cb) (.bo (readF s).m.has) (.bo (readF s).m.full) .ns (.sl 9 g 0 (readF s).m.body.length d) (readF s).m)), .one false 0 (.ints .u8 X cX), .gone, .gone, .gone, .gone, .gone, .gone, .gone, .one true g (.ints .u8 (readF s).m.body d), .one true 0 (.ints .u8 [] 0)]) (i := 0) (x := .ints .u32 [] 0) (l := [.tup []]) rfl
        (pgL_cn (cnV_refl 11 _) (cnV_refl 11 .ff) (cnV_refl 11 _) (cnV_refl 11 _) (cnV_refl 11 _) (cnV_nsl 11) (cnV_refl 11 _)) ⟨rfl, rfl⟩
      refine ⟨_, _, v1.trans v3, [.own 0, .sha 1, .own 11, .own 9, .own 10], .tup [], _, ?_, h jb gb ob cb 0 0 g d (by simp [e1]) e2 hj hg⟩
      rw [pgC, e1]
      rcases hj with rfl | rfl
      · exact ⟨⟨⟨rfl, rfl⟩, ⟨rfl, _, rfl, rfl⟩, ⟨rfl, rfl⟩, ⟨rfl, rfl⟩, ⟨rfl, rfl⟩, trivial⟩, rfl, ⟨rfl, trivial, trivial, trivial, trivial, trivial⟩, rfl, fun i hi => by match i, hi with | 0, _ => exact .inl rfl | 1, _ => exact .inr rfl⟩
      · exact ⟨⟨⟨rfl, rfl⟩, ⟨rfl, _, rfl, rfl⟩, ⟨rfl, rfl⟩, ⟨rfl, rfl⟩, ⟨rfl, rfl⟩, trivial⟩, rfl, ⟨rfl, trivial, trivial, trivial, trivial, trivial⟩, rfl, fun i hi => by match i, hi with | 0, _ => exact .inl rfl | 1, _ => exact .inr rfl⟩
  rcases k2 with ⟨off2, c2, rfl⟩ | ⟨rfl, hq⟩
  · exact main 1 0 off2 c2 (.inl rfl) (fun _ => rfl) (cnV_refl _ _)
  · exact main 4 0 0 0 (.inr rfl) (fun h => by cases h) (by rw [hq]; exact cnV_nsl 10)
end Go.Proofs.Ytedlpkibdjccdaa
