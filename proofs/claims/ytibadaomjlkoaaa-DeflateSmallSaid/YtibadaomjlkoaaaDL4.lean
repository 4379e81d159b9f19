import Derived.Test.YtibadaomjlkoaaaGdo
import Derived.Test.YtibadaomjlkoaaaGdn
set_option linter.unusedVariables false
set_option linter.unusedSimpArgs false
open Go.RowKit
namespace Go.Proofs.Ytibadaomjlkoaaa
set_option maxRecDepth 10000
set_option maxHeartbeats 4000000 in
theorem ry (b:List Int)(c:Nat)(hc:b.length≤c∧c≤9223372036854775807)(hx:∀x∈b,IntKind.u8.min≤x∧x≤IntKind.u8.max):
 aa Try.prog 4 [.sl 0 0 0 b.length c] [.one false 0 (.ints .u8 b c)] (fun r _=>r=.bo true) (fun _ _=>False):=by
 have hu:∀x∈b,0≤x∧x<256:=by
  intro x AS
  have h1:0≤x:=(hx x AS).1
  have h2:x≤255:=(hx x AS).2
  omega
 refine aa.p8 ?_
 refine Sw (fun _=>[]) [] rfl ?_
 refine Qs ?_
 refine And.intro (fun h1=>?_) (fun h1=>?_)
 ·refine Qs ?_
  exact⟨true,rfl,rfl⟩
 have l6:b.length≤1200:=by have:=of_decide_eq_false h1;omega
 have Zj:=u3 b
 have hYs:(ek b).length≤b.length+5:=by
  have h3:=Zj.2.2
  have h4:=zS b.length b (by omega)
  omega
 have hYf:(ek b).length≤(10+iM (bb b)+7)/8:=by
  have h3:=Zj.2.1
  have h4:=oa (bx (bb b))
  rw[Iv hu (by omega)]at h4
  omega
 obtain⟨Y,hY⟩:∃Y,ek b=Y:=⟨_,rfl⟩
 rw[hY]at hYs hYf
 refine Qs ?_
 intro zs fe
 obtain rfl:b=zs:=by rw[fe];simp
 refine Qs ?_
 intro c4 xr
 refine Qs ?_
 refine u2 (i:=1) (xs:=b) rfl rfl (by omega) xr (Nat.le_refl _) hu hY fun g2 c2 k2=>?_
 refine Qs ?_
 intro ys sw
 obtain rfl:b=ys:=by rw[sw];simp
 refine Qs ?_
 intro ys sw
 obtain rfl:b=ys:=by rw[sw];simp
 refine Qs ?_
 refine B0 (n:=b.length) (by omega) ?_
 refine Qs ?_
 refine Kl (decide_eq_true (show(Y.length:Int)≤((b.length+5:Nat):Int) by omega)) ?_
 refine Qs ?_
 refine Hk (i:=0) (xs:=b) rfl rfl (by omega) hc.1 (Nat.le_refl _) hu ?_
 refine Qs ?_
 refine Kl (decide_eq_true (show(Y.length:Int)≤(((10+iM (bb b)+7)/8:Nat):Int) by omega)) ?_
 refine Qs ?_
 refine Jf ?_
 refine Qs ?_
 exact⟨true,rfl,rfl⟩
end Go.Proofs.Ytibadaomjlkoaaa
