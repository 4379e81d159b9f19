import Derived.Test.YtibadaomjlkoaaaDL3
import Derived.Test.YtibadaomjlkoaaaAb24
import Derived.Test.YtibadaomjlkoaaaRows
namespace Go.Proofs.Ytibadaomjlkoaaa.deflateRow
open Go.ChangeShapes Go.WideShapes Go.ChangeAt Go.RowKit
set_option linter.unusedVariables false
theorem own:ownKnob Try.prog.godebug=none:=by kernel_rfl
theorem laid:laidOutB Try.prog=true:=by kernel_rfl
set_option maxRecDepth 100000 in
theorem lifted (os:Os)(started:os.Started)(H:Type)(enc:TypeId×Value→H):
 ReturnsInHanded {} Try.checked os 6 .any (Rows.deflateRowSpec.pre6 enc Try.prog Try.f6 Rows.deflateRowRow.domain false) (Rows.deflateRowSpec.post enc Try.prog Try.f6 false true false false):=by
 refine returnsInHanded_of_change (C:=Try.checked) own started (by kernel_rfl) Try.func6
  (ChangeSpec.witness6 (enc:=enc) (C:=Try.checked) false ⟨#[],#[.int .u8 0,.int .u16 0],[]⟩ 8 (by kernel_rfl) (by kernel_rfl) (by kernel_rfl) (by kernel_rfl)) ?_
 intro W base args ds gs before Nr hW Zo _
 have fY:∀(j:Nat) t v,Try.f6.params[j]?=some t→args[j]?=some v→Value.okWide Try.prog W .any base t v:=Nr
 have ZD:=hW
 obtain⟨p,q,Yg,hV,rfl,hfz,EM⟩:=hW
 have hA:DataW.TrodAll enc Try.prog W 0 (fun _=>true) true Try.f6.params.toList args.toList ds p:=Yg
 rw[Try.params6]at hA fY
 obtain⟨v0,Z5,d0,ds0,p0,q0,jy,rfl,rfl,h0,r0⟩:=trodAll_cons hA
 obtain⟨v1,Z4,d1,ds1,p1,q1,rfl,rfl,rfl,h1,r1⟩:=trodAll_cons r0
 obtain⟨rfl,rfl,rfl⟩:=trodAll_nil r1
 obtain rfl:args=#[v0,v1]:=by cases args;simp_all
 obtain⟨rfl,rfl⟩:=trodVars_none hV
 have b0:=nT.nil W
 obtain⟨x0,y0,b1⟩:=b0.int Try.underlying5 (fY 0 5 v0 rfl rfl) h0
 obtain⟨x1,y1,b2⟩:=b1.int Try.underlying33 (fY 1 33 v1 rfl rfl) h1
 clear Yg Nr
 refine(b2.law rfl (uH x0 y0 x1 y1)).mono fun e W' ⟨he,hb⟩=>?_
 subst he
 exact⟨_,rfl,Is laid ZD rfl (by kernel_rfl) rfl Try.underlying4 ⟨rfl,rfl,rfl⟩ hb⟩
theorem over:Rows.deflateRowRow.holds Try.pinned (OpenSpec.ofChange Rows.deflateRowSpec):=
 OpenClaim.holds_of_wide 6 Try.f6 rfl rfl rfl rfl rfl rfl rfl ⟨rfl,rfl,rfl,rfl,rfl⟩ rfl rfl rfl rfl rfl (by kernel_rfl) Try.func6 (by kernel_rfl)
  (of_decide_eq_true (by kernel_rfl)) (by unfold Func.isWrapper;first|(rw[if_pos (by decide+kernel)];kernel_rfl)|(rw[if_neg (by decide+kernel)];exact⟨rfl,rfl⟩))
  (fun os started H enc _=>lifted os started H enc)
theorem proved:Rows.DeflateRowSaid:=over
#print axioms proved
end Go.Proofs.Ytibadaomjlkoaaa.deflateRow
