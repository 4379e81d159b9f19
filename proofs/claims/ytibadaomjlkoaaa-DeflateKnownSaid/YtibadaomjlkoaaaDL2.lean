import Derived.Test.YtibadaomjlkoaaaGdn
set_option linter.unusedVariables false
set_option linter.unusedSimpArgs false
open Go.RowKit
namespace Go.Proofs.Ytibadaomjlkoaaa
set_option maxRecDepth 10000
theorem Lt:(dQ []).length≤2:=by
 have h:=(uu []).2.1
 have h2:(bg (bV (b9 []))).length=2:=by decide+kernel
 omega
section
variable{M:AH}{K Kp:AV→AH→Prop}
theorem vr {xs:List Int}{c c0:Nat}(hx:524288<xs.length)(h:K (.aG [.ns,.int .i64 2]) [.one false 0 (.ints .u8 xs c)]):
 aa Try.prog 8 [.sl 0 0 0 xs.length c0] [.one false 0 (.ints .u8 xs c)] K Kp:=by
 refine ME (fun _=>[]) [] rfl ?_
 refine Qs ?_
 refine And.intro (fun q=>?_) (fun q=>absurd (show(524288:Int)<(xs.length:Int) by omega) (of_decide_eq_false q))
 refine Qs ?_
 exact h
theorem yu {i g n c co:Nat}{o:Bool}{xs:List Int}(hi:M[i]?=some (.one o g (.ints .u8 xs co)))(hn:n=xs.length)(hx:524288<xs.length)(h:K (.aG [.ns,.int .i64 2]) M):aa Try.prog 8 [.sl i g 0 n c] M K Kp:=by
 subst hn
 refine aa.lift [.ep i g 0] (vr (xs:=xs) (c0:=c) (c:=co) (K:=fun r N=>r=.aG [.ns,.int .i64 2]∧N=[.one false 0 (.ints .u8 xs co)]) (Kp:=fun _ _=>False) hx ⟨rfl,rfl⟩) rfl rfl ⟨⟨_,_,_,rfl,ak hi,eh.same rfl (fun h=>h)⟩,trivial⟩ ⟨trivial,trivial⟩ ?_ (fun _ _ h=>h.elim)
 rintro r M' ⟨rfl,rfl⟩
 rw[←List.append_nil M]at h
 exact⟨⟨rfl,rfl⟩,h⟩
end
set_option maxHeartbeats 4000000 in
theorem qK:aa Try.prog 7 [] [] (fun r _=>r=.bo true) (fun _ _=>False):=by
 have JA:=Lt
 have Su:=oK (xs:=[]) (fun x hx=>by cases hx)
 obtain⟨a,ha,uW⟩:=qL (xs:=[]) (fun x hx=>by cases hx) (by decide) (zs:=[]) (lim:=0) (by decide)
 rw[List.append_nil]at ha
 obtain⟨Y0,XJ⟩:∃Y,dQ []=Y:=⟨_,rfl⟩
 rw[XJ]at JA Su ha uW
 refine aa.py ?_
 refine QP (fun _=>[3,5]) [] rfl ?_
 refine Qs ?_
 refine aa.view (Vw.xU (x:=.ints .u8 [] 0) (l':=[.sl 0 0 0 0 0]) ⟨rfl,rfl⟩ (And.intro (.inr ⟨rfl,rfl⟩) trivial)) ?_
 refine ur (i:=0) (xs:=[]) rfl rfl (by decide) (by decide) (by decide) (fun x hx=>by cases hx) XJ fun g1 c1 h1=>?_
 refine Qs ?_
 refine x7 (i:=1) (xs:=Y0) (lim:=0) rfl rfl rfl h1 (by omega) Su (by decide) ha fun g2 c2 h2=>?_
 have en:(((a+7)/8:Nat):Int)=(Y0.length:Int):=by rw[uW]
 refine Qs ?_
 refine T3 (congrArg not (decide_eq_true en)) ?_
 refine Qs ?_
 refine And.intro (fun q=>absurd (show(2:Int)<(Y0.length:Int)from of_decide_eq_true q) (by omega)) (fun _=>?_)
 refine Qs ?_
 obtain⟨N,hN⟩:∃N:Nat,524289=N:=⟨_,rfl⟩
 refine WO.go (σ:=Nat×Int×List Int) (fun(i,v,xs)=>i≤N∧(0≤v∧v<4294967296)∧xs.length=N∧∀x∈xs,0≤x∧x<256) (fun(i,_,_)=>N-i)
  (fun(i,v,_)=>[(6,.sl 3 0 0 N N),(7,.int .u32 v),(8,.int .i64 (i:Int))]) (fun(_,_,xs)=>[.gone,.gone,.gone,.one true 0 (.ints .u8 xs N)]) (0,1,List.replicate 524289 0) ag mixed (by kernel_rfl)
  ⟨Nat.zero_le _,by decide,by rw[←hN];exact List.length_replicate,fun x hx=>by rw[List.eq_of_mem_replicate hx];decide⟩ (aI (congrArg (fun n=>AV.sl 3 0 0 n n) hN) (aI rfl (aI rfl trivial))) (aI trivial (aI trivial (aI trivial (aI (congrArg (fun n=>AO.one true 0 (.ints .u8 (List.replicate 524289 0) n)) hN.symm) trivial)))) (fun _=>rfl) (fun _=>rfl) (fun _=>⟨trivial,trivial,trivial,trivial,trivial⟩) ?_
 rintro⟨i,v,xs⟩ ⟨i1,i2,i3,i4⟩ d
 refine Qs ?_
 refine And.intro (fun q=>?_) (fun q=>?_)
 ·have hi:i<N:=by have q:(i:Int)<(N:Int):=of_decide_eq_true q;omega
  refine Qs ?_
  refine RO.same (i+1,_,_) ?_ (show N-(i+1)<N-i by omega) (aI rfl (aI rfl (aI rfl (trivial)))) (aI trivial (aI trivial (aI trivial (aI rfl (trivial)))))
  refine⟨hi,⟨Int.emod_nonneg _ (by decide),Int.emod_lt_of_pos _ (by decide)⟩,by rw[List.length_set];exact i3,fun x hx=>?_⟩
  rcases List.mem_or_eq_of_mem_set hx with h|rfl
  ·exact i4 x h
  ·exact⟨Int.emod_nonneg _ (by decide),Int.emod_lt_of_pos _ (by decide)⟩
 ·have hi:i=N:=by have q:¬(i:Int)<(N:Int):=of_decide_eq_false q;omega
  obtain⟨W,hW⟩:∃W,xs.take 70000=W:=⟨_,rfl⟩
  have XK:W.length=70000:=by rw[←hW,List.length_take];omega
  have V6:∀x∈W,0≤x∧x<256:=fun x hx=>i4 x (List.mem_of_mem_take (by rw[hW];exact hx))
  have Sv:=oK V6
  have Ze:(dQ W).length≤70010:=by
   have h3:=(uu W).2.2
   have h4:=zh W.length W (by omega)
   omega
  obtain⟨a3,Gf,XI⟩:=qL V6 (by omega) (zs:=[]) (lim:=70000) (by omega)
  rw[List.append_nil]at Gf
  obtain⟨Y,hY⟩:∃Y,dQ W=Y:=⟨_,rfl⟩
  rw[hY]at Sv Ze Gf XI
  refine Qs ?_
  refine yu (i:=3) (xs:=xs) rfl i3.symm (by omega) ?_
  refine Qs ?_
  refine rA (i:=3) (off:=0) (xs:=W) (ys:=xs) rfl ?_ (by rw[XK,List.drop_zero,hW]) (by omega) (by omega) (by omega) V6 hY fun g4 c4 h4=>?_
  ·rw[XK];rfl
  refine Qs ?_
  refine x7 (i:=4) (xs:=Y) (lim:=70000) rfl rfl rfl h4 (by omega) Sv (by decide) Gf fun g5 c5 h5=>?_
  have Zs:(((a3+7)/8:Nat):Int)=(Y.length:Int):=by rw[XI]
  refine Qs ?_
  refine Jb (decide_eq_true Zs) ?_
  refine Qs ?_
  intro ys rP
  obtain rfl:W=ys:=by rw[rP];show _=List.take W.length (List.drop 0 W);rw[List.drop_zero,List.take_length]
  refine Qs ?_
  intro ys rP
  obtain rfl:W=ys:=by rw[rP];show _=List.take 70000 (List.drop 0 xs);rw[List.drop_zero,hW]
  refine Qs ?_
  refine Jb (decide_eq_true (show(Y.length:Int)≤70010 by omega)) ?_
  refine Qs ?_
  refine H0 ?_
  refine Qs ?_
  exact⟨true,rfl,rfl⟩
end Go.Proofs.Ytibadaomjlkoaaa
