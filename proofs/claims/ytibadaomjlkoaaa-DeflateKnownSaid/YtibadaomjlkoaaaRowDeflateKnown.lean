import Derived.Test.YtibadaomjlkoaaaDL2
import Derived.Test.YtibadaomjlkoaaaAb24
import Derived.Test.YtibadaomjlkoaaaRows
namespace Go.Proofs.Ytibadaomjlkoaaa.deflateKnown
open Go.ChangeShapes Go.WideShapes Go.ChangeAt Go.RowKit
set_option linter.unusedVariables false
theorem own:ownKnob Try.prog.godebug=none:=by kernel_rfl
theorem laid:laidOutB Try.prog=true:=by kernel_rfl
set_option maxRecDepth 100000 in
theorem lifted (os:Os)(started:os.Started)(H:Type)(enc:TypeId×Value→H):
 ReturnsInHanded {} Try.checked os 7 .any (Rows.deflateKnownSpec.pre6 enc Try.prog Try.f7 Rows.deflateKnownRow.domain false) (Rows.deflateKnownSpec.post enc Try.prog Try.f7 false true false false):=by
 refine returnsInHanded_of_change (C:=Try.checked) own started (by kernel_rfl) Try.func7
  (ChangeSpec.witness6 (enc:=enc) (C:=Try.checked) false ⟨#[],#[],[]⟩ 8 (by kernel_rfl) (by kernel_rfl) (by kernel_rfl) (by kernel_rfl)) ?_
 intro W base args ds gs before MV hW YZ _
 have gN:∀(j:Nat) t v,Try.f7.params[j]?=some t→args[j]?=some v→Value.okWide Try.prog W .any base t v:=MV
 have Zg:=hW
 obtain⟨p,q,XR,hV,rfl,Z4,Ew⟩:=hW
 have hA:DataW.TrodAll enc Try.prog W 0 (fun _=>true) true Try.f7.params.toList args.toList ds p:=XR
 rw[Try.params7]at hA gN
 obtain⟨rfl,rfl,rfl⟩:=trodAll_none hA
 obtain⟨rfl,rfl⟩:=trodVars_none hV
 have b0:=nH.nil W
 clear XR MV
 refine(b0.law rfl (qK)).mono fun e W' ⟨he,hb⟩=>?_
 subst he
 exact⟨_,rfl,H4 laid Zg rfl (by kernel_rfl) rfl Try.underlying4 ⟨rfl,rfl,rfl⟩ hb⟩
theorem over:Rows.deflateKnownRow.holds Try.pinned (OpenSpec.ofChange Rows.deflateKnownSpec):=
 OpenClaim.holds_of_wide 7 Try.f7 rfl rfl rfl rfl rfl rfl rfl ⟨rfl,rfl,rfl,rfl,rfl⟩ rfl rfl rfl rfl rfl (by kernel_rfl) Try.func7 (by kernel_rfl)
  (of_decide_eq_true (by kernel_rfl)) (by unfold Func.isWrapper;first|(rw[if_pos (by decide+kernel)];kernel_rfl)|(rw[if_neg (by decide+kernel)];exact⟨rfl,rfl⟩))
  (fun os started H enc _=>lifted os started H enc)
theorem proved:Rows.DeflateKnownSaid:=over
#print axioms proved
end Go.Proofs.Ytibadaomjlkoaaa.deflateKnown
