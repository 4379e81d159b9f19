import Derived.Test.YtibadaomjlkoaaaGdn
set_option linter.unusedVariables false
set_option linter.unusedSimpArgs false
open Go.RowKit
namespace Go.Proofs.Ytibadaomjlkoaaa
set_option maxRecDepth 10000
set_option maxHeartbeats 4000000 in
theorem rU (b:List Int)(c:Nat)(hc:b.length≤c∧c≤9223372036854775807)(hx:∀x∈b,IntKind.u8.min≤x∧x≤IntKind.u8.max)
 (z:List Int)(cz:Nat)(Z7:z.length≤cz∧cz≤9223372036854775807)(W7:∀x∈z,IntKind.u8.min≤x∧x≤IntKind.u8.max):
 aa Try.prog 5 [.sl 0 0 0 b.length c,.sl 1 0 0 z.length cz] [.one false 0 (.ints .u8 b c),.one false 0 (.ints .u8 z cz)] (fun r _=>r=.bo true) (fun _ _=>False):=by
 have hu:∀x∈b,0≤x∧x<256:=by
  intro x wG
  have h1:0≤x:=(hx x wG).1
  have h2:x≤255:=(hx x wG).2
  omega
 have Yi:∀x∈z,0≤x∧x<256:=by
  intro x wG
  have h1:0≤x:=(W7 x wG).1
  have h2:x≤255:=(W7 x wG).2
  omega
 refine aa.pB ?_
 refine QR (fun _=>[]) [] rfl ?_
 refine Qs ?_
 refine And.intro (fun h1=>?_) (fun h1=>?_)
 ·refine Qs ?_
  exact⟨true,rfl,rfl⟩
 have lE:b.length≤6000:=by have:=of_decide_eq_false h1;omega
 refine Qs ?_
 refine And.intro (fun h2=>?_) (fun h2=>?_)
 ·refine Qs ?_
  exact⟨true,rfl,rfl⟩
 have QN:z.length≤200:=by have:=of_decide_eq_false h2;omega
 have QI:=ur hu
 have Zb:(eL b).length≤20000:=by
  have h3:=(Av b).2.2
  have h4:=zf b.length b (by omega)
  omega
 obtain⟨a,ha,uV⟩:=wY hu (by omega) (zs:=z) (lim:=b.length) (Nat.le_refl _)
 obtain⟨Y,hY⟩:∃Y,eL b=Y:=⟨_,rfl⟩
 rw[hY]at QI Zb ha uV
 have Za:∀x∈Y++z,0≤x∧x<256:=by
  intro x hx
  rcases List.mem_append.1 hx with h|h
  ·exact QI x h
  ·exact Yi x h
 refine Qs ?_
 refine iP (i:=0) (xs:=b) rfl rfl (by omega) hc.1 (Nat.le_refl _) hu hY fun g2 c2 k2=>?_
 refine Qs ?_
 refine iP (i:=0) (xs:=b) rfl rfl (by omega) hc.1 (Nat.le_refl _) hu hY fun g3 c3 k3=>?_
 refine Qs ?_
 intro ys kZ
 obtain rfl:Y=ys:=by rw[kZ];simp
 refine Qs ?_
 intro c4 yi
 refine Qs ?_
 intro zs eT
 obtain rfl:z=zs:=by rw[eT];simp
 refine Qs ?_
 intro c5 EF
 have VZ:(Y++z).length≤c5:=by rw[List.length_append];omega
 refine Qs ?_
 refine Ep (i:=4) (xs:=Y++z) (lim:=b.length) rfl rfl ?_ VZ (by rw[List.length_append];omega) Za (by omega) ha fun g6 c6 h6=>?_
 ·rw[List.length_append];omega
 have en:(((a+7)/8:Nat):Int)=(Y.length:Int):=by rw[uV]
 refine Qs ?_
 intro ys kZ
 obtain rfl:Y=ys:=by rw[kZ];simp
 refine Qs ?_
 intro ys kZ
 obtain rfl:Y=ys:=by rw[kZ];simp
 have ZQ:(!((fq Y).toList==(fq Y).toList))=false:=by simp
 have Xg:(!((fq b).toList==(fq b).toList))=false:=by simp
 refine Qs ?_
 refine T2 (congrArg not (decide_eq_true en)) ?_
 refine Qs ?_
 intro ys kZ
 obtain rfl:b=ys:=by rw[kZ];show _=List.take b.length (List.drop 0 b);rw[List.drop_zero,List.take_length]
 refine Qs ?_
 intro ys kZ
 obtain rfl:b=ys:=by rw[kZ];simp
 refine Qs ?_
 refine And.intro (fun q=>?_) (fun q=>?_)
 ·have q:0<Y.length:=by have q:(0:Int)<(Y.length:Int):=of_decide_eq_true q;omega
  have hY0:0≤Y.getD ((0:Int).toNat+0) 0∧Y.getD ((0:Int).toNat+0) 0<256:=QI (Y.getD 0 0) (by rw[List.getD_eq_getElem?_getD,List.getElem?_eq_getElem q];exact List.getElem_mem _)
  refine Qs ?_
  refine iP (i:=0) (xs:=b) rfl rfl (by omega) hc.1 (Nat.le_refl _) hu hY fun g7 c7 k7=>?_
  refine Qs ?_
  intro ys kZ
  obtain rfl:Y=ys:=by rw[kZ];simp
  refine Qs ?_
  intro ys kZ
  obtain rfl:Y=ys:=by rw[kZ];simp
  refine Qs ?_
  refine zZ ?_
  refine Qs ?_
  exact⟨true,rfl,rfl⟩
 ·refine Qs ?_
  refine iP (i:=0) (xs:=b) rfl rfl (by omega) hc.1 (Nat.le_refl _) hu hY fun g7 c7 k7=>?_
  refine Qs ?_
  intro ys kZ
  obtain rfl:Y=ys:=by rw[kZ];simp
  refine Qs ?_
  intro ys kZ
  obtain rfl:Y=ys:=by rw[kZ];simp
  refine Qs ?_
  refine zZ ?_
  refine Qs ?_
  exact⟨true,rfl,rfl⟩
end Go.Proofs.Ytibadaomjlkoaaa
