import Derived.Test.YtibadaomjlkoaaaDL5
import Derived.Test.YtibadaomjlkoaaaAb24
import Derived.Test.YtibadaomjlkoaaaRows
namespace Go.Proofs.Ytibadaomjlkoaaa.deflateReads
open Go.ChangeShapes Go.WideShapes Go.ChangeAt Go.RowKit
set_option linter.unusedVariables false
theorem own:ownKnob Try.prog.godebug=none:=by kernel_rfl
theorem laid:laidOutB Try.prog=true:=by kernel_rfl
set_option maxRecDepth 100000 in
theorem lifted (os:Os)(started:os.Started)(H:Type)(enc:TypeId×Value→H):
 ReturnsInHanded {} Try.checked os 3 .any (Rows.deflateReadsSpec.pre6 enc Try.prog Try.f3 Rows.deflateReadsRow.domain false) (Rows.deflateReadsSpec.post enc Try.prog Try.f3 false true false false):=by
 refine returnsInHanded_of_change (C:=Try.checked) own started (by kernel_rfl) Try.func3
  (ChangeSpec.witness6 (enc:=enc) (C:=Try.checked) false ⟨#[],#[.slice none 0 0],[]⟩ 8 (by kernel_rfl) (by kernel_rfl) (by kernel_rfl) (by kernel_rfl)) ?_
 intro W base args ds gs before Q3 hW aa3 _
 have iN:∀(j:Nat) t v,Try.f3.params[j]?=some t→args[j]?=some v→Value.okWide Try.prog W .any base t v:=Q3
 have hW':=hW
 obtain⟨p,q,hA0,hV,rfl,hfz,Hz⟩:=hW
 have hA:DataW.TrodAll enc Try.prog W 0 (fun _=>true) true Try.f3.params.toList args.toList ds p:=hA0
 rw[Try.params3]at hA iN
 obtain⟨v0,vs0,d0,ds0,p0,q0,kz,rfl,rfl,h0,r0⟩:=trodAll_cons hA
 obtain⟨rfl,rfl,rfl⟩:=trodAll_nil r0
 obtain rfl:args=#[v0]:=by cases args;simp_all
 obtain⟨rfl,rfl⟩:=trodVars_none hV
 have b0:=pG.nil W
 obtain⟨x0,c0,r0,y0,z0,b1⟩:=b0.ints Try.underlying22 Try.underlying5 (by kernel_rfl) (iN 0 22 v0 rfl rfl) h0
 clear hA0 Q3
 refine(b1.law rfl (s8 x0 c0 y0 z0)).mono fun e W' ⟨he,hb⟩=>?_
 subst he
 exact⟨_,rfl,Ls laid hW' rfl (by kernel_rfl) rfl Try.underlying4 ⟨rfl,rfl,rfl⟩ hb⟩
theorem over:Rows.deflateReadsRow.holds Try.pinned (OpenSpec.ofChange Rows.deflateReadsSpec):=
 OpenClaim.holds_of_wide 3 Try.f3 rfl rfl rfl rfl rfl rfl rfl ⟨rfl,rfl,rfl,rfl,rfl⟩ rfl rfl rfl rfl rfl (by kernel_rfl) Try.func3 (by kernel_rfl)
  (of_decide_eq_true (by kernel_rfl)) (by unfold Func.isWrapper;first|(rw[if_pos (by decide+kernel)];kernel_rfl)|(rw[if_neg (by decide+kernel)];exact⟨rfl,rfl⟩))
  (fun os started H enc _=>lifted os started H enc)
theorem proved:Rows.DeflateReadsSaid:=over
#print axioms proved
end Go.Proofs.Ytibadaomjlkoaaa.deflateReads
