import Derived.Test.YtibadaomjlkoaaaDL1
import Derived.Test.YtibadaomjlkoaaaAb24
import Derived.Test.YtibadaomjlkoaaaRows
namespace Go.Proofs.Ytibadaomjlkoaaa.deflateBack
open Go.ChangeShapes Go.WideShapes Go.ChangeAt Go.RowKit
set_option linter.unusedVariables false
theorem own:ownKnob Try.prog.godebug=none:=by kernel_rfl
theorem laid:laidOutB Try.prog=true:=by kernel_rfl
set_option maxRecDepth 100000 in
theorem lifted (os:Os)(started:os.Started)(H:Type)(enc:TypeId×Value→H):
 ReturnsInHanded {} Try.checked os 5 .any (Rows.deflateBackSpec.pre6 enc Try.prog Try.f5 Rows.deflateBackRow.domain false) (Rows.deflateBackSpec.post enc Try.prog Try.f5 false true false false):=by
 refine returnsInHanded_of_change (C:=Try.checked) own started (by kernel_rfl) Try.func5
  (ChangeSpec.witness6 (enc:=enc) (C:=Try.checked) false ⟨#[],#[.slice none 0 0,.slice none 0 0],[]⟩ 8 (by kernel_rfl) (by kernel_rfl) (by kernel_rfl) (by kernel_rfl)) ?_
 intro W base args ds gs before MS hW YW _
 have fY:∀(j:Nat) t v,Try.f5.params[j]?=some t→args[j]?=some v→Value.okWide Try.prog W .any base t v:=MS
 have Zd:=hW
 obtain⟨p,q,XO,hV,rfl,Z3,Ey⟩:=hW
 have hA:DataW.TrodAll enc Try.prog W 0 (fun _=>true) true Try.f5.params.toList args.toList ds p:=XO
 rw[Try.params5]at hA fY
 obtain⟨v0,ZE,d0,ds0,p0,q0,jv,rfl,rfl,h0,r0⟩:=trodAll_cons hA
 obtain⟨v1,ZD,d1,ds1,p1,q1,rfl,rfl,rfl,h1,r1⟩:=trodAll_cons r0
 obtain⟨rfl,rfl,rfl⟩:=trodAll_nil r1
 obtain rfl:args=#[v0,v1]:=by cases args;simp_all
 obtain⟨rfl,rfl⟩:=trodVars_none hV
 have b0:=nM.nil W
 obtain⟨x0,c0,r0,y0,z0,b1⟩:=b0.ints Try.underlying22 Try.underlying5 (by kernel_rfl) (fY 0 22 v0 rfl rfl) h0
 obtain⟨x1,c1,r1,y1,z1,b2⟩:=b1.ints Try.underlying22 Try.underlying5 (by kernel_rfl) (fY 1 22 v1 rfl rfl) h1
 clear XO MS
 refine(b2.law rfl (rU x0 c0 y0 z0 x1 c1 y1 z1)).mono fun e W' ⟨he,hb⟩=>?_
 subst he
 exact⟨_,rfl,H4 laid Zd rfl (by kernel_rfl) rfl Try.underlying4 ⟨rfl,rfl,rfl⟩ hb⟩
theorem over:Rows.deflateBackRow.holds Try.pinned (OpenSpec.ofChange Rows.deflateBackSpec):=
 OpenClaim.holds_of_wide 5 Try.f5 rfl rfl rfl rfl rfl rfl rfl ⟨rfl,rfl,rfl,rfl,rfl⟩ rfl rfl rfl rfl rfl (by kernel_rfl) Try.func5 (by kernel_rfl)
  (of_decide_eq_true (by kernel_rfl)) (by unfold Func.isWrapper;first|(rw[if_pos (by decide+kernel)];kernel_rfl)|(rw[if_neg (by decide+kernel)];exact⟨rfl,rfl⟩))
  (fun os started H enc _=>lifted os started H enc)
theorem proved:Rows.DeflateBackSaid:=over
#print axioms proved
end Go.Proofs.Ytibadaomjlkoaaa.deflateBack
