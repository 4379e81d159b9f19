import Derived.Test.YtibadaomjlkoaaaDw
import Derived.Test.YtibadaomjlkoaaaGdn
set_option linter.unusedVariables false
set_option linter.unusedSimpArgs false
open Go.RowKit
namespace Go.Proofs.Ytibadaomjlkoaaa
set_option maxRecDepth 10000
def rJ (c:Int)(n i:Nat):List Int:=List.replicate i c++List.replicate (n-i) 0
theorem GI {c:Int}{n i:Nat}(h:i≤n):(rJ c n i).length=n:=by unfold rJ;simp;omega
theorem GH {c:Int}{n i:Nat}(h:i<n):(rJ c n i).set i c=rJ c n (i+1):=by
 unfold rJ
 obtain⟨m,hm⟩:∃m,n-i=m+1:=⟨n-i-1,by omega⟩
 rw[hm,show n-(i+1)=m by omega,List.set_append_right _ _ (by simp),List.length_replicate,Nat.sub_self,List.replicate_succ,List.set_cons_zero,List.replicate_succ',List.append_assoc]
 rfl
theorem xd (c:Int)(n:Nat):rJ c n n=List.replicate n c:=by unfold rJ;rw[Nat.sub_self];exact List.append_nil _
set_option maxHeartbeats 4000000 in
theorem uH (c:Int)(hc:IntKind.u8.min≤c∧c≤IntKind.u8.max)(y:Int)(hy:IntKind.u16.min≤y∧y≤IntKind.u16.max):
 aa Try.prog 6 [.int .u8 c,.int .u16 y] [] (fun r _=>r=.bo true) (fun _ _=>False):=by
 have hc:0≤c∧c<256:=by
  have h1:0≤c:=hc.1
  have h2:c≤255:=hc.2
  omega
 have hy:0≤y∧y<65536:=by
  have h1:0≤y:=hy.1
  have h2:y≤65535:=hy.2
  omega
 obtain⟨N,hN⟩:∃N:Nat,y.tmod 60000=(N:Int):=⟨(y.tmod 60000).toNat,by rw[Int.tmod_eq_emod_of_nonneg hy.1];omega⟩
 have hNl:N<60000:=by rw[Int.tmod_eq_emod_of_nonneg hy.1]at hN;omega
 have hX:∀x∈List.replicate N c,0≤x∧x<256:=fun x hx=>by rw[List.eq_of_mem_replicate hx];exact hc
 have Wv:(List.replicate N c).length=N:=List.length_replicate
 have Q9:=uI hX
 have X8:=FO (n:=N) hc
 obtain⟨a,ha,uj⟩:=xk hX (by omega) (zs:=[]) (lim:=N) (by omega)
 rw[List.append_nil]at ha
 obtain⟨X,Ww⟩:∃X,List.replicate N c=X:=⟨_,rfl⟩
 rw[Ww]at hX Wv Q9 X8 ha uj
 obtain⟨Y,hY⟩:∃Y,eL X=Y:=⟨_,rfl⟩
 rw[hY]at Q9 X8 ha uj
 refine aa.pJ ?_
 refine Rh (fun _=>[0,2]) [] rfl ?_
 have Yb:(y.tmod 60000).toNat=N:=by rw[hN];rfl
 refine Qs ?_
 refine WO.go (σ:=Nat) (fun i=>i≤N) (fun i=>N-i)
  (fun i=>[(0,.int .u8 c),(5,.int .i64 (N:Int)),(6,.sl 0 0 0 N N),(7,.int .i64 (i:Int))]) (fun i=>[.one true 0 (.ints .u8 (rJ c N i) N)]) 0 ag mixed (by kernel_rfl)
  (Nat.zero_le _) (aI rfl (aI (congrArg (AV.int .i64) hN) (aI (congrArg (fun n=>AV.sl 0 0 0 n n) Yb) (aI rfl trivial)))) (aI (congrArg (fun n=>AO.one true 0 (.ints .u8 (List.replicate n 0) n)) Yb.symm) trivial) (fun _=>rfl) (fun _=>rfl) (fun _=>⟨trivial,trivial⟩) ?_
 intro i hi d
 have hi:i≤N:=hi
 have wU:=GI (c:=c) hi
 refine Qs ?_
 refine And.intro (fun q=>?_) (fun q=>?_)
 ·have hq:i<N:=by have q:(i:Int)<(N:Int):=of_decide_eq_true q;omega
  refine Qs ?_
  refine RO.same (i+1) hq (show N-(i+1)<N-i by omega) (aI rfl (aI rfl (aI rfl (aI rfl (trivial))))) (aI (congrArg (fun l=>AO.one true 0 (.ints .u8 l N)) ?_) trivial)
  exact(GH hq).symm
 ·have hq:i=N:=by have q:¬(i:Int)<(N:Int):=of_decide_eq_false q;omega
  subst hq
  rw[xd,Ww]
  rw[xd,Ww]at wU
  refine Qs ?_
  refine uG (i:=0) (xs:=X) rfl Wv.symm (by omega) (by omega) (Nat.le_refl _) hX hY fun g1 c1 h1=>?_
  refine Qs ?_
  refine ED (i:=1) (xs:=Y) (lim:=i) rfl rfl rfl h1 (by omega) Q9 (by omega) ha fun g2 c2 h2=>?_
  have en:(((a+7)/8:Nat):Int)=(Y.length:Int):=by rw[uj]
  have e8:8*(Y.length:Int)≤13*((i:Int)/258)+60:=by omega
  have et:((i:Int)).tdiv 258=(i:Int)/258:=Int.tdiv_eq_ediv_of_nonneg (by omega)
  refine Qs ?_
  refine JA (decide_eq_true en) ?_
  refine Qs ?_
  intro ys rY
  obtain rfl:X=ys:=by rw[rY];show _=List.take X.length (List.drop 0 X);rw[List.drop_zero,List.take_length]
  refine Qs ?_
  intro ys rY
  obtain rfl:X=ys:=by rw[rY];show _=List.take i (List.drop 0 X);rw[List.drop_zero,←Wv,List.take_length]
  refine Qs ?_
  refine JA (decide_eq_true (show 8*(Y.length:Int)≤13*((i:Int)).tdiv 258+60 by rw[et];exact e8)) ?_
  refine Qs ?_
  refine Ip ?_
  refine Qs ?_
  exact⟨true,rfl,rfl⟩
end Go.Proofs.Ytibadaomjlkoaaa
