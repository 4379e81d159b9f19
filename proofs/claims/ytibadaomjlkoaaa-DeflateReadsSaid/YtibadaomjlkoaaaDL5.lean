import Derived.Test.YtibadaomjlkoaaaGdq
import Derived.Test.YtibadaomjlkoaaaGdn
set_option linter.unusedVariables false
set_option linter.unusedSimpArgs false
open Go.RowKit
namespace Go.Proofs.Ytibadaomjlkoaaa
set_option maxRecDepth 10000
set_option maxHeartbeats 4000000 in
theorem s8 (b:List Int)(c:Nat)(hc:b.length≤c∧c≤9223372036854775807)(hx:∀x∈b,IntKind.u8.min≤x∧x≤IntKind.u8.max):
 aa Try.prog 3 [.sl 0 0 0 b.length c] [.one false 0 (.ints .u8 b c)] (fun r _=>r=.bo true) (fun _ _=>False):=by
 have hu:∀x∈b,0≤x∧x<256:=by
  intro x uG
  have h1:0≤x:=(hx x uG).1
  have h2:x≤255:=(hx x uG).2
  omega
 refine aa.nG ?_
 refine Vm (fun _=>[]) [] rfl ?_
 refine Qs ?_
 refine And.intro (fun h1=>?_) (fun h1=>?_)
 ·refine Qs ?_
  exact⟨true,rfl,rfl⟩
 have iA:b.length≤400:=by have:=of_decide_eq_false h1;omega
 have Xb:=wM hu
 have hYl:(fp b).length≤20000:=by
  have h3:=(CX b).2.2
  have h4:=BH b.length b (by omega)
  omega
 obtain⟨a,ha,qJ⟩:=zl hu (by omega) (zs:=[]) (lim:=b.length) (Nat.le_refl _)
 rw[List.append_nil]at ha
 obtain⟨Y,hY⟩:∃Y,fp b=Y:=⟨_,rfl⟩
 rw[hY]at Xb hYl ha qJ
 refine Qs ?_
 refine wL (i:=0) (xs:=b) rfl rfl (by omega) hc.1 (Nat.le_refl _) hu hY fun g2 c2 k2=>?_
 refine Qs ?_
 refine Lw (i:=1) (xs:=Y) (limit:=(b.length:Int)) rfl rfl (by omega) Xb (by omega) k2 (Nat.le_refl _) (fun h=>by omega) (fun g3 c3 s3 _ _ e3 iV AL=>?_) (fun er e _ _ e3 _=>?_)
 rotate_left
 ·rw[Int.toNat_natCast,ha]at e3
  cases e3
 rw[Int.toNat_natCast,ha]at e3
 obtain rfl:(⟨a,b⟩:DS)=s3:=by injection e3 with e3;injection e3
 have en:(((a+7)/8:Nat):Int)=(Y.length:Int):=by rw[qJ]
 refine Qs ?_
 intro ys sP
 obtain rfl:b=ys:=by rw[sP];show _=List.take b.length (List.drop 0 b);rw[List.drop_zero,List.take_length]
 refine Qs ?_
 intro ys sP
 obtain rfl:b=ys:=by rw[sP];simp
 refine Qs ?_
 refine fi (decide_eq_true en) ?_
 refine Qs ?_
 refine Lp ?_
 refine Qs ?_
 exact⟨true,rfl,rfl⟩
end Go.Proofs.Ytibadaomjlkoaaa
