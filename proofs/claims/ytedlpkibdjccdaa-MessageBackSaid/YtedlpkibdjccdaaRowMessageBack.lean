/- The law MessageBack: for every input it answers true, and every argument reads behind the call as it read before. No condition. -/
import Derived.Test.YtedlpkibdjccdaaLM3
import Derived.Test.YtedlpkibdjccdaaAb24
import Derived.Test.YtedlpkibdjccdaaRows
namespace Go.Proofs.Ytedlpkibdjccdaa.messageBack
open Go.ChangeShapes Go.WideShapes Go.ChangeAt Go.RowKit
set_option linter.unusedVariables false

theorem own : ownKnob Try.prog.godebug = none := by kernel_rfl
theorem laid : laidOutB Try.prog = true := by kernel_rfl

set_option maxRecDepth 100000 in
theorem lifted (os : Os) (started : os.Started) (H : Type) (enc : TypeId × Value → H) :
    ReturnsInHanded {} Try.checked os 5 .any (Rows.messageBackSpec.pre6 enc Try.prog Try.f5 Rows.messageBackRow.domain false) (Rows.messageBackSpec.post enc Try.prog Try.f5 false true false false) := by
  refine returnsInHanded_of_change (C := Try.checked) own started (by kernel_rfl) Try.func5
    (ChangeSpec.witness6 (enc := enc) (C := Try.checked) false ⟨#[], #[.agg #[.int .u8 0, .int .u32 0, .int .u32 0, .int .u32 0, .bool false, .bool false, .int .u16 0, .int .u16 0, .slice none 0 0, .int .u32 0, .int .u8 0, .int .u16 0, .int .u16 0, .int .u32 0, .slice none 0 0], .slice none 0 0, .int .i64 0], []⟩ 8 (by kernel_rfl) (by kernel_rfl) (by kernel_rfl) (by kernel_rfl)) ?_
  intro W base args ds gs before hval0 hW hcnd _
  have hval : ∀ (j : Nat) t v, Try.f5.params[j]? = some t → args[j]? = some v → Value.okWide Try.prog W .any base t v := hval0
  have hW' := hW
  obtain ⟨p, q, hA0, hV, rfl, hfz, hnd⟩ := hW
  have hA : DataW.TrodAll enc Try.prog W 0 (fun _ => true) true Try.f5.params.toList args.toList ds p := hA0
  rw [Try.params5] at hA hval
  obtain ⟨v0, vs0, d0, ds0, p0, q0, hargs, rfl, rfl, h0, r0⟩ := trodAll_cons hA
  obtain ⟨v1, vs1, d1, ds1, p1, q1, rfl, rfl, rfl, h1, r1⟩ := trodAll_cons r0
  obtain ⟨v2, vs2, d2, ds2, p2, q2, rfl, rfl, rfl, h2, r2⟩ := trodAll_cons r1
  obtain ⟨rfl, rfl, rfl⟩ := trodAll_nil r2
  obtain rfl : args = #[v0, v1, v2] := by cases args; simp_all
  obtain ⟨rfl, rfl⟩ := trodVars_none hV
  have b0 := RdA.nil W
  obtain ⟨m0_0, k0_0, m0_1, k0_1, m0_2, k0_2, m0_3, k0_3, m0_4, m0_5, m0_6, k0_6, m0_7, k0_7, m0_8, c0_8, k0_8, l0_8, m0_9, k0_9, m0_10, k0_10, m0_11, k0_11, m0_12, k0_12, m0_13, k0_13, m0_14, c0_14, k0_14, l0_14, r0', b1⟩ := b0.mixed (us := [5, 22, 22, 22, 4, 4, 23, 23, 24, 22, 5, 23, 23, 22, 27]) (L := [.int .u8, .int .u32, .int .u32, .int .u32, .bool, .bool, .int .u16, .int .u16, .sl .u32, .int .u32, .int .u8, .int .u16, .int .u16, .int .u32, .sl .u8]) Try.underlying29 (by kernel_rfl) (by kernel_rfl) (by kernel_rfl) (hval 0 29 v0 rfl rfl) h0
  obtain ⟨x1, c1, r1, y1, z1, b2⟩ := b1.ints Try.underlying27 Try.underlying5 (by kernel_rfl) (hval 1 27 v1 rfl rfl) h1
  obtain ⟨x2, y2, b3⟩ := b2.int Try.underlying3 (hval 2 3 v2 rfl rfl) h2
  clear hA0 hval0
  refine (b3.law rfl (messageBack_law m0_0 k0_0 m0_1 k0_1 m0_2 k0_2 m0_3 k0_3 m0_4 m0_5 m0_6 k0_6 m0_7 k0_7 m0_8 c0_8 k0_8 l0_8 m0_9 k0_9 m0_10 k0_10 m0_11 k0_11 m0_12 k0_12 m0_13 k0_13 m0_14 c0_14 k0_14 l0_14 x1 c1 y1 z1 x2 y2)).mono fun e W' ⟨he, hb⟩ => ?_
  subst he
  exact ⟨_, rfl, law_post laid hW' rfl (by kernel_rfl) rfl Try.underlying4 ⟨rfl, rfl, rfl⟩ hb⟩

theorem over : Rows.messageBackRow.holds Try.pinned (OpenSpec.ofChange Rows.messageBackSpec) :=
  OpenClaim.holds_of_wide 5 Try.f5 rfl rfl rfl rfl rfl rfl rfl ⟨rfl, rfl, rfl, rfl, rfl⟩ rfl rfl rfl rfl rfl (by kernel_rfl) Try.func5 (by kernel_rfl)
    (of_decide_eq_true (by kernel_rfl)) (by unfold Func.isWrapper; first | (rw [if_pos (by decide +kernel)]; kernel_rfl) | (rw [if_neg (by decide +kernel)]; exact ⟨rfl, rfl⟩))
    (fun os started H enc _ => lifted os started H enc)

/-- The statement. -/
theorem proved : Rows.MessageBackSaid := over
#print axioms proved
end Go.Proofs.Ytedlpkibdjccdaa.messageBack
