import Derived.Test.YtibadaomjlkoaaaGdb
import Derived.Test.YtibadaomjlkoaaaGb
set_option linter.unusedVariables false
set_option linter.unusedSimpArgs false
open Go.RowKit
namespace Go.Proofs.Ytibadaomjlkoaaa
set_option maxRecDepth 10000
theorem z5 (a:Nat)(h:a≤15):ba .i64 1 ((15-(a:Int))%256)=((2^(15-a):Nat):Int):=by
 have:∀a,a<16→ba .i64 1 ((15-((a:Nat):Int))%256)=((2^(15-a):Nat):Int):=by decide
 exact this a (by omega)
theorem iD {ls:List Int}(h:fW ls=true):aE ls=1:=by unfold aE;rw[if_pos h]
theorem m8 {ls:List Int}(h:fW ls=false)(h2:bF ls=false):aE ls=60:=by unfold aE;rw[h,h2];rfl
theorem gF {ls:List Int}(h:fW ls=false)(h2:bF ls=true):aE ls=0:=by unfold aE;rw[h,h2];rfl
section
variable{ls:List Int}{c c0:Nat}{K Kp:AV→AH→Prop}
theorem pj {l:List Int}{j:Nat}{d:Int}(h:j<l.length):l.getD j d∈l:=by
 rw[List.getD_eq_getElem?_getD,List.getElem?_eq_getElem h];exact List.getElem_mem h
theorem CZ {o0:List Int}{co:Nat}(hl:ls.length≤2000)(hu:∀x∈ls,0≤x∧x<256)(ho:ls.length≤320→o0.length=ls.length∧co=ls.length)
 (hK:K (.int .i64 (aE ls)) (u7 ls c co (if aE ls=0 then oh (aH ls 15).2 o0 else o0))):
 aa Try.prog 80 [.sl 0 0 0 ls.length c0,.fn (.func 81) [] [.ptr 2 0 0]] (u7 ls c co o0) K Kp:=by
 refine H9 (fun _=>[]) [] rfl ?_
 refine Qs ?_
 refine And.intro (fun b1=>?_) (fun b1=>?_)
 ·have Wt:(320:Int)<ls.length:=by simpa using b1
  have hb:fW ls=true:=by unfold fW;rw[show decide (320<ls.length)=true by rw[decide_eq_true_eq];omega];rfl
  have e:=iD hb
  rw[e]at hK
  refine Qs ?_
  exact hK
 have Wt:¬(320:Int)<ls.length:=by simpa using b1
 have sQ:decide (320<ls.length)=false:=by rw[decide_eq_false_iff_not];omega
 refine Qs ?_
 refine FE (i:=0) (xs:=ls) rfl rfl (by omega) ?_
 refine Qs ?_
 refine And.intro (fun b2=>?_) (fun b2=>?_)
 ·have hb:fW ls=true:=by unfold fW;rw[b2];simp
  have e:=iD hb
  rw[e]at hK
  refine Qs ?_
  exact hK
 have hb:fW ls=false:=by unfold fW;rw[b2,sQ];rfl
 have rq:∀i,i<ls.length→0≤ls.getD i 0∧ls.getD i 0≤15:=by
  intro i hi
  have hm:ls.getD i 0∈ls:=pj hi
  have h1:=List.any_eq_false.1 b2 _ hm
  have h2:=hu _ hm
  simp only[rC,decide_eq_true_eq]at h1
  omega
 refine Rs ?_
 refine WO.go (σ:=Nat) (fun i=>i≤ls.length) (fun i=>ls.length-i)
  (fun i=>[(0,.sl 0 0 0 ls.length c0),(1,.fn (.func 81) [] [.ptr 2 0 0]),(5,.int .i64 (32768-(bB ls i:Int))),(6,.int .i64 (bY ls i:Int)),(20,.sl 0 0 0 ls.length c0),(21,.int .i64 ls.length),(22,.int .i64 (i:Int))])
  (fun _=>u7 ls c co o0) 0 ae mixed (by kernel_rfl) (Nat.zero_le _) (aI rfl (aI rfl (aI rfl (aI rfl (aI rfl (aI rfl (aI rfl (trivial)))))))) (aI rfl (aI rfl (aI rfl (trivial)))) (fun _=>rfl) (fun _=>rfl) (fun _=>⟨trivial,trivial,rfl,trivial⟩) ?_
 intro i hi d
 have hi:i≤ls.length:=hi
 have gJ:=xW ls i
 have uL:=y9 ls i
 refine Rs ?_
 refine And.intro (fun hc=>?_) (fun hc=>?_)
 ·simp only[decide_eq_true_eq]at hc
  obtain⟨l1,l2⟩:=rq i (by omega)
  refine Rs ?_
  refine And.intro (fun hd=>?_) (fun hd=>?_)
  ·have oo:0<ls.getD i 0:=by simpa using hd
   obtain⟨a,ha⟩:∃a:Nat,ls.getD i 0=(a:Int):=⟨(ls.getD i 0).toNat,by omega⟩
   have hg:ls.getD ((i:Int).toNat+0) 0=(a:Int):=ha
   have HL:ba .i64 1 ((15-ls.getD ((i:Int).toNat+0) 0)%256)=((2^(15-a):Nat):Int):=by rw[hg];exact z5 a (by omega)
   have Ju:2^(15-a)≤2^15:=Nat.pow_le_pow_right (by omega) (by omega)
   have QZ:(2^15:Nat)=32768:=by decide
   rw[QZ]at Ju
   have Xg:-9223372036854775808≤32768-(bB ls i:Int)-ba .i64 1 ((15-ls.getD ((i:Int).toNat+0) 0)%256)∧32768-(bB ls i:Int)-ba .i64 1 ((15-ls.getD ((i:Int).toNat+0) 0)%256)≤9223372036854775807:=by
    rw[HL]
    generalize 2^(15-a)=z at*
    omega
   have e1:bB ls (i+1)=bB ls i+2^(15-a):=by simp only[bB,if_pos oo];rw[ha,Int.toNat_natCast]
   have e2:bY ls (i+1)=bY ls i+1:=by simp only[bY,if_pos oo]
   refine Rs ?_
   refine RO.same (i+1) (by show i+1≤_;omega) (show ls.length-(i+1)<ls.length-i by omega) (And.intro rfl (And.intro rfl (And.intro ?_ (And.intro ?_ (aI rfl (aI rfl (aI rfl (trivial)))))))) (aI rfl (aI rfl (aI rfl (trivial))))
   ·show AV.int .i64 (32768-(bB ls i:Int)-ba .i64 1 ((15-ls.getD ((i:Int).toNat+0) 0)%256))=AV.int .i64 (32768-(bB ls (i+1):Int))
    rw[HL,e1];congr 1;push_cast;omega
   ·show AV.int .i64 ((bY ls i:Int)+1)=AV.int .i64 (bY ls (i+1):Int)
    rw[e2];rfl
  ·have oo:¬0<ls.getD i 0:=by simpa using hd
   have e1:bB ls (i+1)=bB ls i:=by simp only[bB,if_neg oo,Nat.add_zero]
   have e2:bY ls (i+1)=bY ls i:=by simp only[bY,if_neg oo,Nat.add_zero]
   refine Rs ?_
   refine RO.same (i+1) (by show i+1≤_;omega) (show ls.length-(i+1)<ls.length-i by omega) (And.intro rfl (And.intro rfl (And.intro ?_ (And.intro ?_ (aI rfl (aI rfl (aI rfl (trivial)))))))) (aI rfl (aI rfl (aI rfl (trivial))))
   ·show AV.int .i64 _=AV.int .i64 (32768-(bB ls (i+1):Int))
    rw[e1]
   ·show AV.int .i64 _=AV.int .i64 (bY ls (i+1):Int)
    rw[e2]
 have BP:i=ls.length:=by simp only[decide_eq_false_iff_not]at hc;omega
 subst BP
 refine Qs ?_
 refine And.intro (fun f1=>?_) (fun f1=>?_)
 ·have Yg:¬32768-(bB ls ls.length:Int)=0:=by simpa using f1
  refine Qs ?_
  refine And.intro (fun f2=>?_) (fun f2=>?_)
  ·have Yf:(0:Int)<(bY ls ls.length:Int):=by simpa using f2
   refine Qs ?_
   refine And.intro (fun f3=>?_) (fun f3=>?_)
   ·have Ye:(1:Int)<(bY ls ls.length:Int):=by simpa using f3
    have hf:bF ls=false:=by
     unfold bF
     rw[show decide (bB ls ls.length=32768)=false by rw[decide_eq_false_iff_not];omega,show decide (bY ls ls.length=0)=false by rw[decide_eq_false_iff_not];omega,show decide (bY ls ls.length=1)=false by rw[decide_eq_false_iff_not];omega];rfl
    have e:=m8 hb hf
    rw[e]at hK
    refine Qs ?_
    exact hK
   ·have Ye:¬(1:Int)<(bY ls ls.length:Int):=by simpa using f3
    refine Qs ?_
    refine And.intro (fun f4=>?_) (fun f4=>?_)
    ·have Yd:¬32768-(bB ls ls.length:Int)=16384:=by simpa using f4
     have hf:bF ls=false:=by
      unfold bF
      rw[show decide (bB ls ls.length=32768)=false by rw[decide_eq_false_iff_not];omega,show decide (bY ls ls.length=0)=false by rw[decide_eq_false_iff_not];omega,show decide (bB ls ls.length=16384)=false by rw[decide_eq_false_iff_not];omega];simp
     have e:=m8 hb hf
     rw[e]at hK
     refine Qs ?_
     exact hK
    ·have Yd:32768-(bB ls ls.length:Int)=16384:=by simpa using f4
     have hf:bF ls=true:=by
      unfold bF
      rw[show decide (bY ls ls.length=1)=true by rw[decide_eq_true_eq];omega,show decide (bB ls ls.length=16384)=true by rw[decide_eq_true_eq];omega];simp
     have e:=gF hb hf
     rw[e]at hK
     rw[if_pos rfl]at hK
     have kQ:ls.length≤320:=by omega
     refine Rs ?_
     refine WO.go (σ:=Nat×Nat×List (Nat×Nat×Nat)) (fun s=>s.1≤15∧s.2=aH ls s.1) (fun s=>15-s.1)
      (fun s=>[(0,.sl 0 0 0 ls.length c0),(1,.fn (.func 81) [] [.ptr 2 0 0]),(9,.int .i64 (s.2.1:Int)),(10,.int .i64 ((s.1:Int)+1))])
      (fun s=>u7 ls c co (oh s.2.2 o0)) (0,0,[]) ae mixed (by kernel_rfl) ⟨Nat.zero_le _,rfl⟩ (aI rfl (aI rfl (aI rfl (aI rfl (trivial))))) (aI rfl (aI rfl (aI rfl (trivial)))) (fun _=>rfl) (fun _=>rfl) (fun s=>⟨trivial,trivial,rfl,trivial⟩) ?_
     rintro⟨n,x⟩ ⟨n1,n2⟩ d
     simp only at n1 n2
     have yK:=iK ls n
     rw[←n2]at yK
     have hp:2^n≤2^15:=Nat.pow_le_pow_right (by omega) n1
     have BM:2^n*ls.length≤2^15*320:=Nat.mul_le_mul hp kQ
     have Jv:(2^15*320:Nat)=10485760:=by decide
     rw[Jv]at BM
     have CA:x.1≤10485760:=by omega
     refine Rs ?_
     refine And.intro (fun hn=>?_) (fun hn=>?_)
     ·have BN:(n:Int)+1≤15:=by simpa using hn
      have uD:ba .i64 (x.1:Int) 1=((2*x.1:Nat):Int):=jA (by omega)
      refine Rs ?_
      refine WO.go (σ:=Nat×Nat×List (Nat×Nat×Nat)) (fun s=>s.1≤ls.length∧s.2=cZ ls (n+1) s.1 (2*x.1,x.2)) (fun s=>ls.length-s.1)
       (fun s=>[(0,.sl 0 0 0 ls.length c0),(1,.fn (.func 81) [] [.ptr 2 0 0]),(9,.int .i64 (s.2.1:Int)),(10,.int .i64 ((n:Int)+1)),(56,.sl 0 0 0 ls.length c0),(57,.int .i64 ls.length),(58,.int .i64 (s.1:Int))])
       (fun s=>u7 ls c co (oh s.2.2 o0)) (0,2*x.1,x.2) ae mixed (by kernel_rfl) ⟨Nat.zero_le _,rfl⟩ (And.intro rfl (And.intro rfl (And.intro ?_ (aI rfl (aI rfl (aI rfl (aI rfl (trivial)))))))) (aI rfl (aI rfl (aI rfl (trivial)))) (fun _=>rfl) (fun _=>rfl) (fun s=>⟨trivial,trivial,rfl,trivial⟩) ?_
      ·show AV.int .i64 (ba .i64 (x.1:Int) 1)=AV.int .i64 ((2*x.1:Nat):Int)
       rw[uD]
      rintro⟨i,y⟩ ⟨i1,i2⟩ d
      simp only at i1 i2
      have qo:=jE ls (n+1) (2*x.1,x.2) i
      rw[←i2]at qo
      have Th:y.1≤2*x.1+i:=qo
      have Jo:y.1<2^30:=by omega
      refine Rs ?_
      refine And.intro (fun hi=>?_) (fun hi=>?_)
      ·simp only[decide_eq_true_eq]at hi
       have kv:i<ls.length:=by omega
       have TR:-9223372036854775808≤ls.getD ((i:Int).toNat+0) 0∧ls.getD ((i:Int).toNat+0) 0≤9223372036854775807:=by
        have:=rq i kv
        rw[Int.toNat_natCast,Nat.add_zero];omega
       refine Rs ?_
       refine And.intro (fun hk=>?_) (fun hk=>?_)
       ·have mQ:ls.getD i 0=((n+1:Nat):Int):=by simpa using hk
        refine Rs ?_
        refine na (s:=i) (code:=y.1) (n:=n+1) (by rw[eS,(ho kQ).1];omega) (by rw[eS,(ho kQ).1,(ho kQ).2]) (by rw[(ho kQ).2];omega) Jo (by omega) ?_
        rw[←nT y.2 (i,y.1,n+1)]
        refine Rs ?_
        refine RO.same (i+1,y.1+1,y.2++[(i,y.1,n+1)]) ⟨by show i+1≤_;omega,?_⟩ (show ls.length-(i+1)<ls.length-i by omega) (aI rfl (aI rfl (aI rfl (aI rfl (aI rfl (aI rfl (aI rfl (trivial)))))))) (aI rfl (aI rfl (aI rfl (trivial))))
        show _=cZ ls (n+1) (i+1) (2*x.1,x.2)
        rw[bf,←i2]
        unfold dR
        rw[if_pos mQ]
       ·have mQ:¬ls.getD i 0=((n+1:Nat):Int):=by simpa using hk
        refine Rs ?_
        refine RO.same (i+1,y) ⟨by show i+1≤_;omega,?_⟩ (show ls.length-(i+1)<ls.length-i by omega) (aI rfl (aI rfl (aI rfl (aI rfl (aI rfl (aI rfl (aI rfl (trivial)))))))) (aI rfl (aI rfl (aI rfl (trivial))))
        show _=cZ ls (n+1) (i+1) (2*x.1,x.2)
        rw[bf,←i2]
        unfold dR
        rw[if_neg mQ]
      ·have kv:i=ls.length:=by simp only[decide_eq_false_iff_not]at hi;omega
       refine Rs ?_
       refine RO.same (n+1,y) ⟨by show n+1≤15;omega,?_⟩ (show 15-(n+1)<15-n by omega) (aI rfl (aI rfl (aI rfl (aI rfl (trivial))))) (aI rfl (aI rfl (aI rfl (trivial))))
       show y=cZ ls (n+1) ls.length (2*(aH ls n).1,(aH ls n).2)
       rw[i2,kv,n2]
     ·have BN:¬(n:Int)+1≤15:=by simpa using hn
      have sB:n=15:=by omega
      subst sB
      rw[←n2]at hK
      refine Rs ?_
      exact hK
  ·have Yf:¬(0:Int)<(bY ls ls.length:Int):=by simpa using f2
   have hf:bF ls=true:=by
    unfold bF
    rw[show decide (bY ls ls.length=0)=true by rw[decide_eq_true_eq];omega];simp
   have e:=gF hb hf
   rw[e]at hK
   rw[if_pos rfl]at hK
   have kQ:ls.length≤320:=by omega
   refine Rs ?_
   refine WO.go (σ:=Nat×Nat×List (Nat×Nat×Nat)) (fun s=>s.1≤15∧s.2=aH ls s.1) (fun s=>15-s.1)
    (fun s=>[(0,.sl 0 0 0 ls.length c0),(1,.fn (.func 81) [] [.ptr 2 0 0]),(9,.int .i64 (s.2.1:Int)),(10,.int .i64 ((s.1:Int)+1))])
    (fun s=>u7 ls c co (oh s.2.2 o0)) (0,0,[]) ae mixed (by kernel_rfl) ⟨Nat.zero_le _,rfl⟩ (aI rfl (aI rfl (aI rfl (aI rfl (trivial))))) (aI rfl (aI rfl (aI rfl (trivial)))) (fun _=>rfl) (fun _=>rfl) (fun s=>⟨trivial,trivial,rfl,trivial⟩) ?_
   rintro⟨n,x⟩ ⟨n1,n2⟩ d
   simp only at n1 n2
   have yK:=iK ls n
   rw[←n2]at yK
   have hp:2^n≤2^15:=Nat.pow_le_pow_right (by omega) n1
   have BM:2^n*ls.length≤2^15*320:=Nat.mul_le_mul hp kQ
   have Jv:(2^15*320:Nat)=10485760:=by decide
   rw[Jv]at BM
   have CA:x.1≤10485760:=by omega
   refine Rs ?_
   refine And.intro (fun hn=>?_) (fun hn=>?_)
   ·have BN:(n:Int)+1≤15:=by simpa using hn
    have uD:ba .i64 (x.1:Int) 1=((2*x.1:Nat):Int):=jA (by omega)
    refine Rs ?_
    refine WO.go (σ:=Nat×Nat×List (Nat×Nat×Nat)) (fun s=>s.1≤ls.length∧s.2=cZ ls (n+1) s.1 (2*x.1,x.2)) (fun s=>ls.length-s.1)
     (fun s=>[(0,.sl 0 0 0 ls.length c0),(1,.fn (.func 81) [] [.ptr 2 0 0]),(9,.int .i64 (s.2.1:Int)),(10,.int .i64 ((n:Int)+1)),(56,.sl 0 0 0 ls.length c0),(57,.int .i64 ls.length),(58,.int .i64 (s.1:Int))])
     (fun s=>u7 ls c co (oh s.2.2 o0)) (0,2*x.1,x.2) ae mixed (by kernel_rfl) ⟨Nat.zero_le _,rfl⟩ (And.intro rfl (And.intro rfl (And.intro ?_ (aI rfl (aI rfl (aI rfl (aI rfl (trivial)))))))) (aI rfl (aI rfl (aI rfl (trivial)))) (fun _=>rfl) (fun _=>rfl) (fun s=>⟨trivial,trivial,rfl,trivial⟩) ?_
    ·show AV.int .i64 (ba .i64 (x.1:Int) 1)=AV.int .i64 ((2*x.1:Nat):Int)
     rw[uD]
    rintro⟨i,y⟩ ⟨i1,i2⟩ d
    simp only at i1 i2
    have qo:=jE ls (n+1) (2*x.1,x.2) i
    rw[←i2]at qo
    have Th:y.1≤2*x.1+i:=qo
    have Jo:y.1<2^30:=by omega
    refine Rs ?_
    refine And.intro (fun hi=>?_) (fun hi=>?_)
    ·simp only[decide_eq_true_eq]at hi
     have kv:i<ls.length:=by omega
     have TR:-9223372036854775808≤ls.getD ((i:Int).toNat+0) 0∧ls.getD ((i:Int).toNat+0) 0≤9223372036854775807:=by
      have:=rq i kv
      rw[Int.toNat_natCast,Nat.add_zero];omega
     refine Rs ?_
     refine And.intro (fun hk=>?_) (fun hk=>?_)
     ·have mQ:ls.getD i 0=((n+1:Nat):Int):=by simpa using hk
      refine Rs ?_
      refine na (s:=i) (code:=y.1) (n:=n+1) (by rw[eS,(ho kQ).1];omega) (by rw[eS,(ho kQ).1,(ho kQ).2]) (by rw[(ho kQ).2];omega) Jo (by omega) ?_
      rw[←nT y.2 (i,y.1,n+1)]
      refine Rs ?_
      refine RO.same (i+1,y.1+1,y.2++[(i,y.1,n+1)]) ⟨by show i+1≤_;omega,?_⟩ (show ls.length-(i+1)<ls.length-i by omega) (aI rfl (aI rfl (aI rfl (aI rfl (aI rfl (aI rfl (aI rfl (trivial)))))))) (aI rfl (aI rfl (aI rfl (trivial))))
      show _=cZ ls (n+1) (i+1) (2*x.1,x.2)
      rw[bf,←i2]
      unfold dR
      rw[if_pos mQ]
     ·have mQ:¬ls.getD i 0=((n+1:Nat):Int):=by simpa using hk
      refine Rs ?_
      refine RO.same (i+1,y) ⟨by show i+1≤_;omega,?_⟩ (show ls.length-(i+1)<ls.length-i by omega) (aI rfl (aI rfl (aI rfl (aI rfl (aI rfl (aI rfl (aI rfl (trivial)))))))) (aI rfl (aI rfl (aI rfl (trivial))))
      show _=cZ ls (n+1) (i+1) (2*x.1,x.2)
      rw[bf,←i2]
      unfold dR
      rw[if_neg mQ]
    ·have kv:i=ls.length:=by simp only[decide_eq_false_iff_not]at hi;omega
     refine Rs ?_
     refine RO.same (n+1,y) ⟨by show n+1≤15;omega,?_⟩ (show 15-(n+1)<15-n by omega) (aI rfl (aI rfl (aI rfl (aI rfl (trivial))))) (aI rfl (aI rfl (aI rfl (trivial))))
     show y=cZ ls (n+1) ls.length (2*(aH ls n).1,(aH ls n).2)
     rw[i2,kv,n2]
   ·have BN:¬(n:Int)+1≤15:=by simpa using hn
    have sB:n=15:=by omega
    subst sB
    rw[←n2]at hK
    refine Rs ?_
    exact hK
 ·have Yg:32768-(bB ls ls.length:Int)=0:=by simpa using f1
  have hf:bF ls=true:=by
   unfold bF
   rw[show decide (bB ls ls.length=32768)=true by rw[decide_eq_true_eq];omega];rfl
  have e:=gF hb hf
  rw[e]at hK
  rw[if_pos rfl]at hK
  have kQ:ls.length≤320:=by omega
  refine Rs ?_
  refine WO.go (σ:=Nat×Nat×List (Nat×Nat×Nat)) (fun s=>s.1≤15∧s.2=aH ls s.1) (fun s=>15-s.1)
   (fun s=>[(0,.sl 0 0 0 ls.length c0),(1,.fn (.func 81) [] [.ptr 2 0 0]),(9,.int .i64 (s.2.1:Int)),(10,.int .i64 ((s.1:Int)+1))])
   (fun s=>u7 ls c co (oh s.2.2 o0)) (0,0,[]) ae mixed (by kernel_rfl) ⟨Nat.zero_le _,rfl⟩ (aI rfl (aI rfl (aI rfl (aI rfl (trivial))))) (aI rfl (aI rfl (aI rfl (trivial)))) (fun _=>rfl) (fun _=>rfl) (fun s=>⟨trivial,trivial,rfl,trivial⟩) ?_
  rintro⟨n,x⟩ ⟨n1,n2⟩ d
  simp only at n1 n2
  have yK:=iK ls n
  rw[←n2]at yK
  have hp:2^n≤2^15:=Nat.pow_le_pow_right (by omega) n1
  have BM:2^n*ls.length≤2^15*320:=Nat.mul_le_mul hp kQ
  have Jv:(2^15*320:Nat)=10485760:=by decide
  rw[Jv]at BM
  have CA:x.1≤10485760:=by omega
  refine Rs ?_
  refine And.intro (fun hn=>?_) (fun hn=>?_)
  ·have BN:(n:Int)+1≤15:=by simpa using hn
   have uD:ba .i64 (x.1:Int) 1=((2*x.1:Nat):Int):=jA (by omega)
   refine Rs ?_
   refine WO.go (σ:=Nat×Nat×List (Nat×Nat×Nat)) (fun s=>s.1≤ls.length∧s.2=cZ ls (n+1) s.1 (2*x.1,x.2)) (fun s=>ls.length-s.1)
    (fun s=>[(0,.sl 0 0 0 ls.length c0),(1,.fn (.func 81) [] [.ptr 2 0 0]),(9,.int .i64 (s.2.1:Int)),(10,.int .i64 ((n:Int)+1)),(56,.sl 0 0 0 ls.length c0),(57,.int .i64 ls.length),(58,.int .i64 (s.1:Int))])
    (fun s=>u7 ls c co (oh s.2.2 o0)) (0,2*x.1,x.2) ae mixed (by kernel_rfl) ⟨Nat.zero_le _,rfl⟩ (And.intro rfl (And.intro rfl (And.intro ?_ (aI rfl (aI rfl (aI rfl (aI rfl (trivial)))))))) (aI rfl (aI rfl (aI rfl (trivial)))) (fun _=>rfl) (fun _=>rfl) (fun s=>⟨trivial,trivial,rfl,trivial⟩) ?_
   ·show AV.int .i64 (ba .i64 (x.1:Int) 1)=AV.int .i64 ((2*x.1:Nat):Int)
    rw[uD]
   rintro⟨i,y⟩ ⟨i1,i2⟩ d
   simp only at i1 i2
   have qo:=jE ls (n+1) (2*x.1,x.2) i
   rw[←i2]at qo
   have Th:y.1≤2*x.1+i:=qo
   have Jo:y.1<2^30:=by omega
   refine Rs ?_
   refine And.intro (fun hi=>?_) (fun hi=>?_)
   ·simp only[decide_eq_true_eq]at hi
    have kv:i<ls.length:=by omega
    have TR:-9223372036854775808≤ls.getD ((i:Int).toNat+0) 0∧ls.getD ((i:Int).toNat+0) 0≤9223372036854775807:=by
     have:=rq i kv
     rw[Int.toNat_natCast,Nat.add_zero];omega
    refine Rs ?_
    refine And.intro (fun hk=>?_) (fun hk=>?_)
    ·have mQ:ls.getD i 0=((n+1:Nat):Int):=by simpa using hk
     refine Rs ?_
     refine na (s:=i) (code:=y.1) (n:=n+1) (by rw[eS,(ho kQ).1];omega) (by rw[eS,(ho kQ).1,(ho kQ).2]) (by rw[(ho kQ).2];omega) Jo (by omega) ?_
     rw[←nT y.2 (i,y.1,n+1)]
     refine Rs ?_
     refine RO.same (i+1,y.1+1,y.2++[(i,y.1,n+1)]) ⟨by show i+1≤_;omega,?_⟩ (show ls.length-(i+1)<ls.length-i by omega) (aI rfl (aI rfl (aI rfl (aI rfl (aI rfl (aI rfl (aI rfl (trivial)))))))) (aI rfl (aI rfl (aI rfl (trivial))))
     show _=cZ ls (n+1) (i+1) (2*x.1,x.2)
     rw[bf,←i2]
     unfold dR
     rw[if_pos mQ]
    ·have mQ:¬ls.getD i 0=((n+1:Nat):Int):=by simpa using hk
     refine Rs ?_
     refine RO.same (i+1,y) ⟨by show i+1≤_;omega,?_⟩ (show ls.length-(i+1)<ls.length-i by omega) (aI rfl (aI rfl (aI rfl (aI rfl (aI rfl (aI rfl (aI rfl (trivial)))))))) (aI rfl (aI rfl (aI rfl (trivial))))
     show _=cZ ls (n+1) (i+1) (2*x.1,x.2)
     rw[bf,←i2]
     unfold dR
     rw[if_neg mQ]
   ·have kv:i=ls.length:=by simp only[decide_eq_false_iff_not]at hi;omega
    refine Rs ?_
    refine RO.same (n+1,y) ⟨by show n+1≤15;omega,?_⟩ (show 15-(n+1)<15-n by omega) (aI rfl (aI rfl (aI rfl (aI rfl (trivial))))) (aI rfl (aI rfl (aI rfl (trivial))))
    show y=cZ ls (n+1) ls.length (2*(aH ls n).1,(aH ls n).2)
    rw[i2,kv,n2]
  ·have BN:¬(n:Int)+1≤15:=by simpa using hn
   have sB:n=15:=by omega
   subst sB
   rw[←n2]at hK
   refine Rs ?_
   exact hK
theorem CY (hl:ls.length≤2000)(hu:∀x∈ls,0≤x∧x<256)
 (hK:K (.int .i64 (aE ls)) (qg ls c (if aE ls=0 then cy (aH ls 15).2 []else[]))):
 aa Try.prog 80 [.sl 0 0 0 ls.length c0,.fn (.func 102) [] [.ptr 3 0 0]] (qg ls c []) K Kp:=by
 refine H9 (fun _=>[]) [] rfl ?_
 refine Qs ?_
 refine And.intro (fun b1=>?_) (fun b1=>?_)
 ·have Wt:(320:Int)<ls.length:=by simpa using b1
  have hb:fW ls=true:=by unfold fW;rw[show decide (320<ls.length)=true by rw[decide_eq_true_eq];omega];rfl
  have e:=iD hb
  rw[e]at hK
  refine Qs ?_
  exact hK
 have Wt:¬(320:Int)<ls.length:=by simpa using b1
 have sQ:decide (320<ls.length)=false:=by rw[decide_eq_false_iff_not];omega
 refine Qs ?_
 refine FE (i:=0) (xs:=ls) rfl rfl (by omega) ?_
 refine Qs ?_
 refine And.intro (fun b2=>?_) (fun b2=>?_)
 ·have hb:fW ls=true:=by unfold fW;rw[b2];simp
  have e:=iD hb
  rw[e]at hK
  refine Qs ?_
  exact hK
 have hb:fW ls=false:=by unfold fW;rw[b2,sQ];rfl
 have rq:∀i,i<ls.length→0≤ls.getD i 0∧ls.getD i 0≤15:=by
  intro i hi
  have hm:ls.getD i 0∈ls:=pj hi
  have h1:=List.any_eq_false.1 b2 _ hm
  have h2:=hu _ hm
  simp only[rC,decide_eq_true_eq]at h1
  omega
 refine Rs ?_
 refine WO.go (σ:=Nat) (fun i=>i≤ls.length) (fun i=>ls.length-i)
  (fun i=>[(0,.sl 0 0 0 ls.length c0),(1,.fn (.func 102) [] [.ptr 3 0 0]),(5,.int .i64 (32768-(bB ls i:Int))),(6,.int .i64 (bY ls i:Int)),(20,.sl 0 0 0 ls.length c0),(21,.int .i64 ls.length),(22,.int .i64 (i:Int))])
  (fun _=>qg ls c []) 0 ae mixed (by kernel_rfl) (Nat.zero_le _) (aI rfl (aI rfl (aI rfl (aI rfl (aI rfl (aI rfl (aI rfl (trivial)))))))) (aI rfl (aI rfl (aI rfl (aI rfl (trivial))))) (fun _=>rfl) (fun _=>rfl) (fun _=>jI) ?_
 intro i hi d
 have hi:i≤ls.length:=hi
 have gJ:=xW ls i
 have uL:=y9 ls i
 refine Rs ?_
 refine And.intro (fun hc=>?_) (fun hc=>?_)
 ·simp only[decide_eq_true_eq]at hc
  obtain⟨l1,l2⟩:=rq i (by omega)
  refine Rs ?_
  refine And.intro (fun hd=>?_) (fun hd=>?_)
  ·have oo:0<ls.getD i 0:=by simpa using hd
   obtain⟨a,ha⟩:∃a:Nat,ls.getD i 0=(a:Int):=⟨(ls.getD i 0).toNat,by omega⟩
   have hg:ls.getD ((i:Int).toNat+0) 0=(a:Int):=ha
   have HL:ba .i64 1 ((15-ls.getD ((i:Int).toNat+0) 0)%256)=((2^(15-a):Nat):Int):=by rw[hg];exact z5 a (by omega)
   have Ju:2^(15-a)≤2^15:=Nat.pow_le_pow_right (by omega) (by omega)
   have QZ:(2^15:Nat)=32768:=by decide
   rw[QZ]at Ju
   have Xg:-9223372036854775808≤32768-(bB ls i:Int)-ba .i64 1 ((15-ls.getD ((i:Int).toNat+0) 0)%256)∧32768-(bB ls i:Int)-ba .i64 1 ((15-ls.getD ((i:Int).toNat+0) 0)%256)≤9223372036854775807:=by
    rw[HL]
    generalize 2^(15-a)=z at*
    omega
   have e1:bB ls (i+1)=bB ls i+2^(15-a):=by simp only[bB,if_pos oo];rw[ha,Int.toNat_natCast]
   have e2:bY ls (i+1)=bY ls i+1:=by simp only[bY,if_pos oo]
   refine Rs ?_
   refine RO.same (i+1) (by show i+1≤_;omega) (show ls.length-(i+1)<ls.length-i by omega) (And.intro rfl (And.intro rfl (And.intro ?_ (And.intro ?_ (aI rfl (aI rfl (aI rfl (trivial)))))))) (aI rfl (aI rfl (aI rfl (aI rfl (trivial)))))
   ·show AV.int .i64 (32768-(bB ls i:Int)-ba .i64 1 ((15-ls.getD ((i:Int).toNat+0) 0)%256))=AV.int .i64 (32768-(bB ls (i+1):Int))
    rw[HL,e1];congr 1;push_cast;omega
   ·show AV.int .i64 ((bY ls i:Int)+1)=AV.int .i64 (bY ls (i+1):Int)
    rw[e2];rfl
  ·have oo:¬0<ls.getD i 0:=by simpa using hd
   have e1:bB ls (i+1)=bB ls i:=by simp only[bB,if_neg oo,Nat.add_zero]
   have e2:bY ls (i+1)=bY ls i:=by simp only[bY,if_neg oo,Nat.add_zero]
   refine Rs ?_
   refine RO.same (i+1) (by show i+1≤_;omega) (show ls.length-(i+1)<ls.length-i by omega) (And.intro rfl (And.intro rfl (And.intro ?_ (And.intro ?_ (aI rfl (aI rfl (aI rfl (trivial)))))))) (aI rfl (aI rfl (aI rfl (aI rfl (trivial)))))
   ·show AV.int .i64 _=AV.int .i64 (32768-(bB ls (i+1):Int))
    rw[e1]
   ·show AV.int .i64 _=AV.int .i64 (bY ls (i+1):Int)
    rw[e2]
 have BP:i=ls.length:=by simp only[decide_eq_false_iff_not]at hc;omega
 subst BP
 refine Qs ?_
 refine And.intro (fun f1=>?_) (fun f1=>?_)
 ·have Yg:¬32768-(bB ls ls.length:Int)=0:=by simpa using f1
  refine Qs ?_
  refine And.intro (fun f2=>?_) (fun f2=>?_)
  ·have Yf:(0:Int)<(bY ls ls.length:Int):=by simpa using f2
   refine Qs ?_
   refine And.intro (fun f3=>?_) (fun f3=>?_)
   ·have Ye:(1:Int)<(bY ls ls.length:Int):=by simpa using f3
    have hf:bF ls=false:=by
     unfold bF
     rw[show decide (bB ls ls.length=32768)=false by rw[decide_eq_false_iff_not];omega,show decide (bY ls ls.length=0)=false by rw[decide_eq_false_iff_not];omega,show decide (bY ls ls.length=1)=false by rw[decide_eq_false_iff_not];omega];rfl
    have e:=m8 hb hf
    rw[e]at hK
    refine Qs ?_
    exact hK
   ·have Ye:¬(1:Int)<(bY ls ls.length:Int):=by simpa using f3
    refine Qs ?_
    refine And.intro (fun f4=>?_) (fun f4=>?_)
    ·have Yd:¬32768-(bB ls ls.length:Int)=16384:=by simpa using f4
     have hf:bF ls=false:=by
      unfold bF
      rw[show decide (bB ls ls.length=32768)=false by rw[decide_eq_false_iff_not];omega,show decide (bY ls ls.length=0)=false by rw[decide_eq_false_iff_not];omega,show decide (bB ls ls.length=16384)=false by rw[decide_eq_false_iff_not];omega];simp
     have e:=m8 hb hf
     rw[e]at hK
     refine Qs ?_
     exact hK
    ·have Yd:32768-(bB ls ls.length:Int)=16384:=by simpa using f4
     have hf:bF ls=true:=by
      unfold bF
      rw[show decide (bY ls ls.length=1)=true by rw[decide_eq_true_eq];omega,show decide (bB ls ls.length=16384)=true by rw[decide_eq_true_eq];omega];simp
     have e:=gF hb hf
     rw[e]at hK
     rw[if_pos rfl]at hK
     have kQ:ls.length≤320:=by omega
     refine Rs ?_
     refine WO.go (σ:=Nat×Nat×List (Nat×Nat×Nat)) (fun s=>s.1≤15∧s.2=aH ls s.1) (fun s=>15-s.1)
      (fun s=>[(0,.sl 0 0 0 ls.length c0),(1,.fn (.func 102) [] [.ptr 3 0 0]),(9,.int .i64 (s.2.1:Int)),(10,.int .i64 ((s.1:Int)+1))])
      (fun s=>qg ls c (cy s.2.2 [])) (0,0,[]) ae mixed (by kernel_rfl) ⟨Nat.zero_le _,rfl⟩ (aI rfl (aI rfl (aI rfl (aI rfl (trivial))))) (aI rfl (aI rfl (aI rfl (aI rfl (trivial))))) (fun _=>rfl) (fun _=>rfl) (fun s=>jI) ?_
     rintro⟨n,x⟩ ⟨n1,n2⟩ d
     simp only at n1 n2
     have yK:=iK ls n
     rw[←n2]at yK
     have hp:2^n≤2^15:=Nat.pow_le_pow_right (by omega) n1
     have BM:2^n*ls.length≤2^15*320:=Nat.mul_le_mul hp kQ
     have Jv:(2^15*320:Nat)=10485760:=by decide
     rw[Jv]at BM
     have CA:x.1≤10485760:=by omega
     refine Rs ?_
     refine And.intro (fun hn=>?_) (fun hn=>?_)
     ·have BN:(n:Int)+1≤15:=by simpa using hn
      have uD:ba .i64 (x.1:Int) 1=((2*x.1:Nat):Int):=jA (by omega)
      refine Rs ?_
      refine WO.go (σ:=Nat×Nat×List (Nat×Nat×Nat)) (fun s=>s.1≤ls.length∧s.2=cZ ls (n+1) s.1 (2*x.1,x.2)) (fun s=>ls.length-s.1)
       (fun s=>[(0,.sl 0 0 0 ls.length c0),(1,.fn (.func 102) [] [.ptr 3 0 0]),(9,.int .i64 (s.2.1:Int)),(10,.int .i64 ((n:Int)+1)),(56,.sl 0 0 0 ls.length c0),(57,.int .i64 ls.length),(58,.int .i64 (s.1:Int))])
       (fun s=>qg ls c (cy s.2.2 [])) (0,2*x.1,x.2) ae mixed (by kernel_rfl) ⟨Nat.zero_le _,rfl⟩ (And.intro rfl (And.intro rfl (And.intro ?_ (aI rfl (aI rfl (aI rfl (aI rfl (trivial)))))))) (aI rfl (aI rfl (aI rfl (aI rfl (trivial))))) (fun _=>rfl) (fun _=>rfl) (fun s=>jI) ?_
      ·show AV.int .i64 (ba .i64 (x.1:Int) 1)=AV.int .i64 ((2*x.1:Nat):Int)
       rw[uD]
      rintro⟨i,y⟩ ⟨i1,i2⟩ d
      simp only at i1 i2
      have qo:=jE ls (n+1) (2*x.1,x.2) i
      rw[←i2]at qo
      have Th:y.1≤2*x.1+i:=qo
      have Jo:y.1<2^30:=by omega
      refine Rs ?_
      refine And.intro (fun hi=>?_) (fun hi=>?_)
      ·simp only[decide_eq_true_eq]at hi
       have kv:i<ls.length:=by omega
       have TR:-9223372036854775808≤ls.getD ((i:Int).toNat+0) 0∧ls.getD ((i:Int).toNat+0) 0≤9223372036854775807:=by
        have:=rq i kv
        rw[Int.toNat_natCast,Nat.add_zero];omega
       refine Rs ?_
       refine And.intro (fun hk=>?_) (fun hk=>?_)
       ·have mQ:ls.getD i 0=((n+1:Nat):Int):=by simpa using hk
        refine Rs ?_
        refine q7 (s:=i) (code:=y.1) (n:=n+1) (by omega) Jo (by omega) ?_
        rw[←nS y.2 (i,y.1,n+1)]
        refine Rs ?_
        refine RO.same (i+1,y.1+1,y.2++[(i,y.1,n+1)]) ⟨by show i+1≤_;omega,?_⟩ (show ls.length-(i+1)<ls.length-i by omega) (aI rfl (aI rfl (aI rfl (aI rfl (aI rfl (aI rfl (aI rfl (trivial)))))))) (aI rfl (aI rfl (aI rfl (aI rfl (trivial)))))
        show _=cZ ls (n+1) (i+1) (2*x.1,x.2)
        rw[bf,←i2]
        unfold dR
        rw[if_pos mQ]
       ·have mQ:¬ls.getD i 0=((n+1:Nat):Int):=by simpa using hk
        refine Rs ?_
        refine RO.same (i+1,y) ⟨by show i+1≤_;omega,?_⟩ (show ls.length-(i+1)<ls.length-i by omega) (aI rfl (aI rfl (aI rfl (aI rfl (aI rfl (aI rfl (aI rfl (trivial)))))))) (aI rfl (aI rfl (aI rfl (aI rfl (trivial)))))
        show _=cZ ls (n+1) (i+1) (2*x.1,x.2)
        rw[bf,←i2]
        unfold dR
        rw[if_neg mQ]
      ·have kv:i=ls.length:=by simp only[decide_eq_false_iff_not]at hi;omega
       refine Rs ?_
       refine RO.same (n+1,y) ⟨by show n+1≤15;omega,?_⟩ (show 15-(n+1)<15-n by omega) (aI rfl (aI rfl (aI rfl (aI rfl (trivial))))) (aI rfl (aI rfl (aI rfl (aI rfl (trivial)))))
       show y=cZ ls (n+1) ls.length (2*(aH ls n).1,(aH ls n).2)
       rw[i2,kv,n2]
     ·have BN:¬(n:Int)+1≤15:=by simpa using hn
      have sB:n=15:=by omega
      subst sB
      rw[←n2]at hK
      refine Rs ?_
      exact hK
  ·have Yf:¬(0:Int)<(bY ls ls.length:Int):=by simpa using f2
   have hf:bF ls=true:=by
    unfold bF
    rw[show decide (bY ls ls.length=0)=true by rw[decide_eq_true_eq];omega];simp
   have e:=gF hb hf
   rw[e]at hK
   rw[if_pos rfl]at hK
   have kQ:ls.length≤320:=by omega
   refine Rs ?_
   refine WO.go (σ:=Nat×Nat×List (Nat×Nat×Nat)) (fun s=>s.1≤15∧s.2=aH ls s.1) (fun s=>15-s.1)
    (fun s=>[(0,.sl 0 0 0 ls.length c0),(1,.fn (.func 102) [] [.ptr 3 0 0]),(9,.int .i64 (s.2.1:Int)),(10,.int .i64 ((s.1:Int)+1))])
    (fun s=>qg ls c (cy s.2.2 [])) (0,0,[]) ae mixed (by kernel_rfl) ⟨Nat.zero_le _,rfl⟩ (aI rfl (aI rfl (aI rfl (aI rfl (trivial))))) (aI rfl (aI rfl (aI rfl (aI rfl (trivial))))) (fun _=>rfl) (fun _=>rfl) (fun s=>jI) ?_
   rintro⟨n,x⟩ ⟨n1,n2⟩ d
   simp only at n1 n2
   have yK:=iK ls n
   rw[←n2]at yK
   have hp:2^n≤2^15:=Nat.pow_le_pow_right (by omega) n1
   have BM:2^n*ls.length≤2^15*320:=Nat.mul_le_mul hp kQ
   have Jv:(2^15*320:Nat)=10485760:=by decide
   rw[Jv]at BM
   have CA:x.1≤10485760:=by omega
   refine Rs ?_
   refine And.intro (fun hn=>?_) (fun hn=>?_)
   ·have BN:(n:Int)+1≤15:=by simpa using hn
    have uD:ba .i64 (x.1:Int) 1=((2*x.1:Nat):Int):=jA (by omega)
    refine Rs ?_
    refine WO.go (σ:=Nat×Nat×List (Nat×Nat×Nat)) (fun s=>s.1≤ls.length∧s.2=cZ ls (n+1) s.1 (2*x.1,x.2)) (fun s=>ls.length-s.1)
     (fun s=>[(0,.sl 0 0 0 ls.length c0),(1,.fn (.func 102) [] [.ptr 3 0 0]),(9,.int .i64 (s.2.1:Int)),(10,.int .i64 ((n:Int)+1)),(56,.sl 0 0 0 ls.length c0),(57,.int .i64 ls.length),(58,.int .i64 (s.1:Int))])
     (fun s=>qg ls c (cy s.2.2 [])) (0,2*x.1,x.2) ae mixed (by kernel_rfl) ⟨Nat.zero_le _,rfl⟩ (And.intro rfl (And.intro rfl (And.intro ?_ (aI rfl (aI rfl (aI rfl (aI rfl (trivial)))))))) (aI rfl (aI rfl (aI rfl (aI rfl (trivial))))) (fun _=>rfl) (fun _=>rfl) (fun s=>jI) ?_
    ·show AV.int .i64 (ba .i64 (x.1:Int) 1)=AV.int .i64 ((2*x.1:Nat):Int)
     rw[uD]
    rintro⟨i,y⟩ ⟨i1,i2⟩ d
    simp only at i1 i2
    have qo:=jE ls (n+1) (2*x.1,x.2) i
    rw[←i2]at qo
    have Th:y.1≤2*x.1+i:=qo
    have Jo:y.1<2^30:=by omega
    refine Rs ?_
    refine And.intro (fun hi=>?_) (fun hi=>?_)
    ·simp only[decide_eq_true_eq]at hi
     have kv:i<ls.length:=by omega
     have TR:-9223372036854775808≤ls.getD ((i:Int).toNat+0) 0∧ls.getD ((i:Int).toNat+0) 0≤9223372036854775807:=by
      have:=rq i kv
      rw[Int.toNat_natCast,Nat.add_zero];omega
     refine Rs ?_
     refine And.intro (fun hk=>?_) (fun hk=>?_)
     ·have mQ:ls.getD i 0=((n+1:Nat):Int):=by simpa using hk
      refine Rs ?_
      refine q7 (s:=i) (code:=y.1) (n:=n+1) (by omega) Jo (by omega) ?_
      rw[←nS y.2 (i,y.1,n+1)]
      refine Rs ?_
      refine RO.same (i+1,y.1+1,y.2++[(i,y.1,n+1)]) ⟨by show i+1≤_;omega,?_⟩ (show ls.length-(i+1)<ls.length-i by omega) (aI rfl (aI rfl (aI rfl (aI rfl (aI rfl (aI rfl (aI rfl (trivial)))))))) (aI rfl (aI rfl (aI rfl (aI rfl (trivial)))))
      show _=cZ ls (n+1) (i+1) (2*x.1,x.2)
      rw[bf,←i2]
      unfold dR
      rw[if_pos mQ]
     ·have mQ:¬ls.getD i 0=((n+1:Nat):Int):=by simpa using hk
      refine Rs ?_
      refine RO.same (i+1,y) ⟨by show i+1≤_;omega,?_⟩ (show ls.length-(i+1)<ls.length-i by omega) (aI rfl (aI rfl (aI rfl (aI rfl (aI rfl (aI rfl (aI rfl (trivial)))))))) (aI rfl (aI rfl (aI rfl (aI rfl (trivial)))))
      show _=cZ ls (n+1) (i+1) (2*x.1,x.2)
      rw[bf,←i2]
      unfold dR
      rw[if_neg mQ]
    ·have kv:i=ls.length:=by simp only[decide_eq_false_iff_not]at hi;omega
     refine Rs ?_
     refine RO.same (n+1,y) ⟨by show n+1≤15;omega,?_⟩ (show 15-(n+1)<15-n by omega) (aI rfl (aI rfl (aI rfl (aI rfl (trivial))))) (aI rfl (aI rfl (aI rfl (aI rfl (trivial)))))
     show y=cZ ls (n+1) ls.length (2*(aH ls n).1,(aH ls n).2)
     rw[i2,kv,n2]
   ·have BN:¬(n:Int)+1≤15:=by simpa using hn
    have sB:n=15:=by omega
    subst sB
    rw[←n2]at hK
    refine Rs ?_
    exact hK
 ·have Yg:32768-(bB ls ls.length:Int)=0:=by simpa using f1
  have hf:bF ls=true:=by
   unfold bF
   rw[show decide (bB ls ls.length=32768)=true by rw[decide_eq_true_eq];omega];rfl
  have e:=gF hb hf
  rw[e]at hK
  rw[if_pos rfl]at hK
  have kQ:ls.length≤320:=by omega
  refine Rs ?_
  refine WO.go (σ:=Nat×Nat×List (Nat×Nat×Nat)) (fun s=>s.1≤15∧s.2=aH ls s.1) (fun s=>15-s.1)
   (fun s=>[(0,.sl 0 0 0 ls.length c0),(1,.fn (.func 102) [] [.ptr 3 0 0]),(9,.int .i64 (s.2.1:Int)),(10,.int .i64 ((s.1:Int)+1))])
   (fun s=>qg ls c (cy s.2.2 [])) (0,0,[]) ae mixed (by kernel_rfl) ⟨Nat.zero_le _,rfl⟩ (aI rfl (aI rfl (aI rfl (aI rfl (trivial))))) (aI rfl (aI rfl (aI rfl (aI rfl (trivial))))) (fun _=>rfl) (fun _=>rfl) (fun s=>jI) ?_
  rintro⟨n,x⟩ ⟨n1,n2⟩ d
  simp only at n1 n2
  have yK:=iK ls n
  rw[←n2]at yK
  have hp:2^n≤2^15:=Nat.pow_le_pow_right (by omega) n1
  have BM:2^n*ls.length≤2^15*320:=Nat.mul_le_mul hp kQ
  have Jv:(2^15*320:Nat)=10485760:=by decide
  rw[Jv]at BM
  have CA:x.1≤10485760:=by omega
  refine Rs ?_
  refine And.intro (fun hn=>?_) (fun hn=>?_)
  ·have BN:(n:Int)+1≤15:=by simpa using hn
   have uD:ba .i64 (x.1:Int) 1=((2*x.1:Nat):Int):=jA (by omega)
   refine Rs ?_
   refine WO.go (σ:=Nat×Nat×List (Nat×Nat×Nat)) (fun s=>s.1≤ls.length∧s.2=cZ ls (n+1) s.1 (2*x.1,x.2)) (fun s=>ls.length-s.1)
    (fun s=>[(0,.sl 0 0 0 ls.length c0),(1,.fn (.func 102) [] [.ptr 3 0 0]),(9,.int .i64 (s.2.1:Int)),(10,.int .i64 ((n:Int)+1)),(56,.sl 0 0 0 ls.length c0),(57,.int .i64 ls.length),(58,.int .i64 (s.1:Int))])
    (fun s=>qg ls c (cy s.2.2 [])) (0,2*x.1,x.2) ae mixed (by kernel_rfl) ⟨Nat.zero_le _,rfl⟩ (And.intro rfl (And.intro rfl (And.intro ?_ (aI rfl (aI rfl (aI rfl (aI rfl (trivial)))))))) (aI rfl (aI rfl (aI rfl (aI rfl (trivial))))) (fun _=>rfl) (fun _=>rfl) (fun s=>jI) ?_
   ·show AV.int .i64 (ba .i64 (x.1:Int) 1)=AV.int .i64 ((2*x.1:Nat):Int)
    rw[uD]
   rintro⟨i,y⟩ ⟨i1,i2⟩ d
   simp only at i1 i2
   have qo:=jE ls (n+1) (2*x.1,x.2) i
   rw[←i2]at qo
   have Th:y.1≤2*x.1+i:=qo
   have Jo:y.1<2^30:=by omega
   refine Rs ?_
   refine And.intro (fun hi=>?_) (fun hi=>?_)
   ·simp only[decide_eq_true_eq]at hi
    have kv:i<ls.length:=by omega
    have TR:-9223372036854775808≤ls.getD ((i:Int).toNat+0) 0∧ls.getD ((i:Int).toNat+0) 0≤9223372036854775807:=by
     have:=rq i kv
     rw[Int.toNat_natCast,Nat.add_zero];omega
    refine Rs ?_
    refine And.intro (fun hk=>?_) (fun hk=>?_)
    ·have mQ:ls.getD i 0=((n+1:Nat):Int):=by simpa using hk
     refine Rs ?_
     refine q7 (s:=i) (code:=y.1) (n:=n+1) (by omega) Jo (by omega) ?_
     rw[←nS y.2 (i,y.1,n+1)]
     refine Rs ?_
     refine RO.same (i+1,y.1+1,y.2++[(i,y.1,n+1)]) ⟨by show i+1≤_;omega,?_⟩ (show ls.length-(i+1)<ls.length-i by omega) (aI rfl (aI rfl (aI rfl (aI rfl (aI rfl (aI rfl (aI rfl (trivial)))))))) (aI rfl (aI rfl (aI rfl (aI rfl (trivial)))))
     show _=cZ ls (n+1) (i+1) (2*x.1,x.2)
     rw[bf,←i2]
     unfold dR
     rw[if_pos mQ]
    ·have mQ:¬ls.getD i 0=((n+1:Nat):Int):=by simpa using hk
     refine Rs ?_
     refine RO.same (i+1,y) ⟨by show i+1≤_;omega,?_⟩ (show ls.length-(i+1)<ls.length-i by omega) (aI rfl (aI rfl (aI rfl (aI rfl (aI rfl (aI rfl (aI rfl (trivial)))))))) (aI rfl (aI rfl (aI rfl (aI rfl (trivial)))))
     show _=cZ ls (n+1) (i+1) (2*x.1,x.2)
     rw[bf,←i2]
     unfold dR
     rw[if_neg mQ]
   ·have kv:i=ls.length:=by simp only[decide_eq_false_iff_not]at hi;omega
    refine Rs ?_
    refine RO.same (n+1,y) ⟨by show n+1≤15;omega,?_⟩ (show 15-(n+1)<15-n by omega) (aI rfl (aI rfl (aI rfl (aI rfl (trivial))))) (aI rfl (aI rfl (aI rfl (aI rfl (trivial)))))
    show y=cZ ls (n+1) ls.length (2*(aH ls n).1,(aH ls n).2)
    rw[i2,kv,n2]
  ·have BN:¬(n:Int)+1≤15:=by simpa using hn
   have sB:n=15:=by omega
   subst sB
   rw[←n2]at hK
   refine Rs ?_
   exact hK
end
end Go.Proofs.Ytibadaomjlkoaaa
open Go.RowKit
namespace Go.Proofs.Ytibadaomjlkoaaa
set_option maxRecDepth 10000
theorem jJ (t:List TE)(m:Nat)(mk:MK)(ez:List ((Int×Int)×Int)):(af.map mk (lA ez)).rn t m=af.map mk (lA ez):=by
 simp[af.rn,lA,AV.rn]
theorem wW (t:List TE)(mk:MK)(ez:List ((Int×Int)×Int)):(af.map mk (lA ez)).w0 t:=by
 intro p hp
 obtain⟨q,_,rfl⟩:=List.mem_map.1 hp
 rfl
theorem lT (k:Nat)(mk:MK)(ez:List ((Int×Int)×Int)):(af.map mk (lA ez)).nb k:=by
 intro p hp
 obtain⟨q,_,rfl⟩:=List.mem_map.1 hp
 rfl
def ay (ls:List Int):List Int×Int:=if aE ls=0 then(oh (aH ls 15).2 (List.replicate ls.length 0),0)else([],aE ls)
section
variable{ls:List Int}{c c0:Nat}{K Kp:AV→AH→Prop}
theorem C3 (hl:ls.length≤2000)(hu:∀x∈ls,0≤x∧x<256):
 aa Try.prog 47 [.sl 0 0 0 ls.length c0] [.one false 0 (.ints .u8 ls c)]
  (fun r M=>∃g' c',r=.aL [.sl 1 g' 0 (ay ls).1.length c',.int .i64 (ay ls).2]∧M=[.one false 0 (.ints .u8 ls c),.one true g' (.ints .u16 (ay ls).1 c')]∧(ay ls).1.length≤c') Kp:=by
 refine aa.cU ?_
 refine aa.fi ?_
 refine PT (fun _=>[]) [] rfl ?_
 refine Qs ?_
 refine CZ (co:=(min (ls.length:Int) 320).toNat) (o0:=List.replicate (min (ls.length:Int) 320).toNat 0) hl hu (fun h=>?_) ?_
 ·have:(min (ls.length:Int) 320).toNat=ls.length:=by omega
  exact⟨by rw[List.length_replicate,this],this⟩
 refine Qs ?_
 refine And.intro (fun h1=>?_) (fun h1=>?_)
 ·have l6:¬aE ls=0:=by simpa using h1
  refine Qs ?_
  refine⟨_,_,Vw.canon (x:=.ints .u16 [] 0) ⟨rfl,rfl⟩ (bU (n9 (bU (by simp only[gX];exact .inr rfl) (bU (jh _ _) (eY _)))) (eY _)),[.e9 0,.own 3],.aL [.sl 1 0 0 0 0,.int .i64 (aE ls)],[.one false 0 (.ints .u8 ls c),.one true 0 (.ints .u16 [] 0)],⟨⟨⟨rfl,_,rfl,rfl⟩,⟨rfl,rfl⟩,trivial⟩,rfl,⟨trivial,trivial,trivial⟩,rfl,?_⟩,?_⟩
  ·intro i hi
   match i,hi with
   |0,_=>exact .inr rfl
  ·unfold ay
   rw[if_neg l6]
   exact⟨0,0,rfl,rfl,Nat.le_refl _⟩
 ·have l6:aE ls=0:=by simpa using h1
  have hb:fW ls=false:=by
   cases hb:fW ls with
   |false=>rfl
   |true=>rw[iD hb]at l6;cases l6
  have kQ:ls.length≤320:=by
   unfold fW at hb
   simp only[Bool.or_eq_false_iff,decide_eq_false_iff_not]at hb
   omega
  have hm:(min (ls.length:Int) 320).toNat=ls.length:=by omega
  refine Qs ?_
  refine⟨_,_,Vw.refl _ _,[.e9 0,.own 1],.aL [.sl 1 0 0 (min (ls.length:Int) 320).toNat (min (ls.length:Int) 320).toNat,.int .i64 0],[.one false 0 (.ints .u8 ls c),.one true 0 (.ints .u16 (if aE ls=0 then oh (aH ls 15).2 (List.replicate (min (ls.length:Int) 320).toNat 0)else List.replicate (min (ls.length:Int) 320).toNat 0) (min (ls.length:Int) 320).toNat)],⟨⟨⟨rfl,_,rfl,rfl⟩,⟨rfl,rfl⟩,trivial⟩,rfl,⟨trivial,trivial,trivial⟩,rfl,?_⟩,?_⟩
  ·intro i hi
   match i,hi with
   |0,_=>exact .inr rfl
  ·unfold ay
   rw[if_pos l6,if_pos l6,hm]
   exact⟨0,ls.length,by simp only[eS,List.length_replicate],rfl,by simp only[eS,List.length_replicate];exact Nat.le_refl _⟩
theorem G7 (hl:ls.length≤2000)(hu:∀x∈ls,0≤x∧x<256):
 aa Try.prog 88 [.sl 0 0 0 ls.length c0] [.one false 0 (.ints .u8 ls c)]
  (fun r M=>(aE ls≠0∧r=.aL [.np,.int .i64 (aE ls)]∧M=[.one false 0 (.ints .u8 ls c)])∨(aE ls=0∧r=.aL [.ptr 2 0 0,.int .i64 0]∧M=[.one false 0 (.ints .u8 ls c),.one true 0 (.map (.pair .i64 .i64) (lA (cy (aH ls 15).2 []))),.one true 0 (.cells [.mp 1 0])])) Kp:=by
 refine aa.cU ?_
 refine Pv (fun _=>[]) [] rfl ?_
 refine Qs ?_
 refine CY hl hu ?_
 refine Qs ?_
 refine And.intro (fun h1=>?_) (fun h1=>?_)
 ·have l6:¬aE ls=0:=by simpa using h1
  refine Qs ?_
  refine⟨[.e9 0],.aL [.np,.int .i64 (aE ls)],[.one false 0 (.ints .u8 ls c)],⟨⟨⟨rfl,_,rfl,rfl⟩,trivial⟩,rfl,⟨trivial,trivial⟩,rfl,?_⟩,.inl ⟨l6,rfl,rfl⟩⟩
  intro i hi
  match i,hi with
  |0,_=>exact .inr rfl
 ·have l6:aE ls=0:=by simpa using h1
  rw[if_pos l6]
  refine Qs ?_
  refine⟨[.e9 0,.own 1,.own 2],.aL [.ptr 2 0 0,.int .i64 0],[.one false 0 (.ints .u8 ls c),.one true 0 (.map (.pair .i64 .i64) (lA (cy (aH ls 15).2 []))),.one true 0 (.cells [.mp 1 0])],⟨⟨⟨rfl,_,rfl,rfl⟩,⟨?_,rfl⟩,⟨rfl,rfl⟩,trivial⟩,rfl,⟨trivial,?_,rfl,trivial⟩,rfl,?_⟩,.inr ⟨l6,rfl,rfl⟩⟩
  ·show _=some (AO.one true 0 ((af.map (.pair .i64 .i64) (lA (cy (aH ls 15).2 []))).rn _ _))
   rw[jJ];rfl
  ·exact wW _ (.pair .i64 .i64) _
  intro i hi
  match i,hi with
  |0,_=>exact .inr rfl
end
end Go.Proofs.Ytibadaomjlkoaaa
open Go.RowKit
namespace Go.Proofs.Ytibadaomjlkoaaa
set_option maxRecDepth 10000
def mz (es:List ((Int×Int)×Int))(row:List Bool):Nat→Nat→Nat→Nat→Int×Nat×Int
 |0,_,_,a=>(0,a,50)
 |f+1,c,n,a=>match bS ((c:Int),(n:Int)) es with
  |none=>(0,a,60)
  |some z=>if 0≤z then(z,a,0)else if row.length≤a then(0,a,50)else mz es row f (2*c+(if row.getD a false then 1 else 0)) (n+1) (a+1)
def eL (es:List ((Int×Int)×Int))(row:List Bool)(a:Nat):Int×Nat×Int:=mz es row (row.length-a+1) 0 0 a
def F6 (g c:Nat)(xs:List Int)(a:Nat)(es:List ((Int×Int)×Int)):AH:=[ro 1 g c xs a,rb g c xs,.one true 0 (.map (.pair .i64 .i64) (lA es)),.one true 0 (.cells [.mp 2 0])]
section
variable{K Kp:AV→AH→Prop}{xs:List Int}{g c:Nat}{es:List ((Int×Int)×Int)}
theorem BT {a:Nat}(hb:xs.length≤1000000)(ha:a≤8*xs.length)(AR:∀x∈xs,0≤x∧x<256)(mf:∀k z,bS k es=some z→k.2≤15)
 (hK:K (.aL [.int .i64 (eL es (unpack xs) a).1,.int .i64 (eL es (unpack xs) a).2.2]) (F6 g c xs (eL es (unpack xs) a).2.1 es)):
 aa Try.prog 101 [.ptr 3 0 0,.ptr 0 0 0] (F6 g c xs a es) K Kp:=by
 refine aa.bs ?_
 refine Lj (fun _=>[2,3,4]) [] rfl ?_
 refine Qs ?_
 have Fs:=bH xs
 refine WO.go (σ:=Nat×Nat×Nat) (fun(cb,n,b)=>cb<2^n∧n≤16∧b≤8*xs.length∧mz es (unpack xs) (8*xs.length-b+1) cb n b=eL es (unpack xs) a) (fun(_,_,b)=>8*xs.length-b)
  (fun _=>[(0,.ptr 3 0 0),(1,.ptr 0 0 0),(6,.ptr 4 0 0)]) (fun(cb,n,b)=>[ro 1 g c xs b,rb g c xs,.one true 0 (.map (.pair .i64 .i64) (lA es)),.one true 0 (.cells [.mp 2 0]),.one true 0 (.cells [.int .i64 (cb:Int),.int .i64 (n:Int)])]) (0,0,a) ae mixed (by kernel_rfl) ⟨by decide,by decide,ha,by unfold eL;rw[Fs]⟩ (aI rfl (aI rfl (aI rfl (trivial)))) (aI rfl (aI rfl (aI rfl (aI rfl (aI rfl (trivial)))))) (fun _=>rfl) (fun _=>rfl) (fun _=>⟨rfl,trivial,lT _ (.pair .i64 .i64) _,rfl,rfl,trivial⟩) ?_
 rintro⟨cb,n,b⟩ ⟨h1,h2,h3,h4⟩ d
 have hcb:cb<2^16:=Nat.lt_of_lt_of_le h1 (Nat.pow_le_pow_right (by omega) h2)
 simp only[mz]at h4
 refine Rs ?_
 refine And.intro (fun v hv=>?_) (fun hv=>?_)
 ·have qw:=hv
  rw[je]at qw
  cases hz:bS ((cb:Int),(n:Int)) es with
  |none=>rw[hz]at qw;cases qw
  |some z=>
  rw[hz]at qw h4
  obtain rfl:AV.int .i64 z=v:=by simpa using qw
  have sB:n≤15:=by have:=mf _ _ hz;simp only at this;omega
  simp only at h4
  refine Qs ?_
  refine And.intro (fun hs=>?_) (fun hs=>?_)
  ·have vS:0≤z:=by simpa using hs
   rw[if_pos vS]at h4
   rw[←h4]at hK
   refine Qs ?_
   exact Exists.intro (F6 g c xs b es) (And.intro (aI rfl (aI rfl (aI rfl (aI rfl (trivial))))) (And.intro ⟨rfl,trivial,lT _ (.pair .i64 .i64) _,rfl,trivial⟩ (And.intro rfl hK)))
  ·have vS:¬0≤z:=by simpa using hs
   rw[if_neg vS]at h4
   by_cases xu:(unpack xs).length≤b
   ·rw[if_pos xu]at h4
    have hp:mg xs b 1=(0,b,50):=by
     unfold mg;rw[if_neg (by omega),if_pos (by omega)]
    rw[←h4]at hK
    refine Qs ?_
    refine get_at (i:=0) (j:=1) rfl rfl rfl (by omega) h3 AR hp ?_
    refine Qs ?_
    exact Exists.intro (F6 g c xs b es) (And.intro (aI rfl (aI rfl (aI rfl (aI rfl (trivial))))) (And.intro ⟨rfl,trivial,lT _ (.pair .i64 .i64) _,rfl,trivial⟩ (And.intro rfl hK)))
   ·rw[if_neg xu]at h4
    generalize Zl:(if(unpack xs).getD b false=true then 1 else 0)=bz at h4
    have XR:bz<2:=by rw[←Zl];split<;>omega
    have hp:mg xs b 1=((bz:Int),b+1,0):=by
     unfold mg;rw[if_neg (by omega),if_neg (by omega)]
     have a9:b<(unpack xs).length:=by omega
     have:((unpack xs).drop b).take (1:Int).toNat=[(unpack xs)[b]]:=by
      rw[show(1:Int).toNat=1 from rfl,List.take_one,List.head?_drop,List.getElem?_eq_getElem a9];rfl
     rw[this,←Zl,List.getD_eq_getElem?_getD,List.getElem?_eq_getElem a9]
     cases(unpack xs)[b]<;>rfl
    have e1:ba .i64 (cb:Int) 1=((2*cb:Nat):Int):=jA (by omega)
    have e2:cm .or .i64 ((2*cb:Nat):Int) (bz:Int)=((2*cb+bz:Nat):Int):=Ap (by omega) XR
    refine Qs ?_
    refine get_at (i:=0) (j:=1) rfl rfl rfl (by omega) h3 AR hp ?_
    refine Qs ?_
    refine RO.same (2*cb+bz,n+1,b+1) ⟨by rw[Nat.pow_succ];omega,by omega,by omega,?_⟩ (show 8*xs.length-(b+1)<8*xs.length-b by omega) (aI rfl (aI rfl (aI rfl (trivial)))) (And.intro rfl (And.intro rfl (And.intro rfl (And.intro rfl (And.intro ?_ trivial)))))
    ·rw[←h4,show 8*xs.length-b=8*xs.length-(b+1)+1 by omega]
    ·show AO.one true 0 (.cells [.int .i64 ((2*cb+bz:Nat):Int),.int .i64 ((n+1:Nat):Int)])=AO.one true 0 (.cells [.int .i64 (cm .or .i64 (ba .i64 (cb:Int) 1) (bz:Int)),.int .i64 ((n:Int)+1)])
     rw[e1,e2];rfl
 ·have qw:bS ((cb:Int),(n:Int)) es=none:=by
   have:(bS ((cb:Int),(n:Int)) es).map (AV.int .i64)=none:=by rw[←je];exact hv
   simpa using this
  rw[qw]at h4
  simp only at h4
  rw[←h4]at hK
  refine Qs ?_
  exact Exists.intro (F6 g c xs b es) (And.intro (aI rfl (aI rfl (aI rfl (aI rfl (trivial))))) (And.intro ⟨rfl,trivial,lT _ (.pair .i64 .i64) _,rfl,trivial⟩ (And.intro rfl hK)))
end
end Go.Proofs.Ytibadaomjlkoaaa
open Go.RowKit
namespace Go.Proofs.Ytibadaomjlkoaaa
set_option maxRecDepth 10000
section
variable{M:AH}{K Kp:AV→AH→Prop}
theorem u4 {i g n c0 co:Nat}{o:Bool}{ls:List Int}(hi:M[i]?=some (.one o g (.ints .u8 ls co)))(hn:n=ls.length)(hl:ls.length≤2000)(hu:∀x∈ls,0≤x∧x<256)
 (h:∀g' c',(ay ls).1.length≤c'→K (.aL [.sl M.length g' 0 (ay ls).1.length c',.int .i64 (ay ls).2]) (M++[.one true g' (.ints .u16 (ay ls).1 c')])):aa Try.prog 47 [.sl i g 0 n c0] M K Kp:=by
 subst hn
 refine aa.lift [.eI i g 0] (C3 (ls:=ls) (c0:=c0) (c:=co) (Kp:=fun _ _=>False) hl hu) rfl rfl ⟨⟨_,_,_,rfl,ak hi,eG.same rfl (fun h=>h)⟩,trivial⟩ ⟨trivial,trivial⟩ ?_ (fun _ _ h=>h.elim)
 rintro r M' ⟨g',c',rfl,rfl,r8⟩
 exact⟨⟨rfl,rfl⟩,h g' c' r8⟩
theorem o8 {i g n c0 co:Nat}{o:Bool}{fr:List Int}{limit:Int}(hi:M[i]?=some (.one o g (.ints .i64 fr co)))(hn:n=fr.length)(hl:fr.length≤2000)
 (h:∀g' c',(bm fr limit).1.length≤c'→K (.aL [.sl M.length g' 0 (bm fr limit).1.length c',.int .i64 (bm fr limit).2]) (M++[.one true g' (.ints .u8 (bm fr limit).1 c')])):aa Try.prog 46 [.sl i g 0 n c0,.int .i64 limit] M K Kp:=by
 subst hn
 refine aa.lift [.eI i g 0] (yD (fr:=fr) (c0:=c0) (c:=co) (limit:=limit) (Kp:=fun _ _=>False) hl) rfl rfl ⟨⟨_,_,_,rfl,ak hi,eG.same rfl (fun h=>h)⟩,trivial⟩ ⟨trivial,trivial⟩ ?_ (fun _ _ h=>h.elim)
 rintro r M' ⟨g',c',rfl,rfl,r8⟩
 exact⟨⟨rfl,rfl⟩,h g' c' r8⟩
end
end Go.Proofs.Ytibadaomjlkoaaa
open Go.RowKit
namespace Go.Proofs.Ytibadaomjlkoaaa
set_option maxRecDepth 10000
section
variable{M:AH}{K Kp:AV→AH→Prop}
theorem Nr {i g n c0 co:Nat}{o:Bool}{ls:List Int}(hi:M[i]?=some (.one o g (.ints .u8 ls co)))(hn:n=ls.length)(hl:ls.length≤2000)(hu:∀x∈ls,0≤x∧x<256)
 (h0:aE ls≠0→K (.aL [.np,.int .i64 (aE ls)]) M)
 (h1:aE ls=0→K (.aL [.ptr (M.length+1) 0 0,.int .i64 0]) (M++[.one true 0 (.map (.pair .i64 .i64) (lA (cy (aH ls 15).2 []))),.one true 0 (.cells [.mp M.length 0])])):aa Try.prog 88 [.sl i g 0 n c0] M K Kp:=by
 subst hn
 refine aa.lift [.eI i g 0] (G7 (ls:=ls) (c0:=c0) (c:=co) (Kp:=fun _ _=>False) hl hu) rfl rfl ⟨⟨_,_,_,rfl,ak hi,eG.same rfl (fun h=>h)⟩,trivial⟩ ⟨trivial,trivial⟩ ?_ (fun _ _ h=>h.elim)
 rintro r M' (⟨e,rfl,rfl⟩|⟨e,rfl,rfl⟩)
 ·refine⟨⟨rfl,rfl⟩,?_⟩
  have:=h0 e
  rw[←List.append_nil M]at this
  exact this
 ·refine⟨⟨rfl,rfl⟩,?_⟩
  have:=h1 e
  rw[←jJ [.eI i g 0] M.length (.pair .i64 .i64) (cy (aH ls 15).2 [])]at this
  exact this
end
end Go.Proofs.Ytibadaomjlkoaaa
open Go.RowKit
namespace Go.Proofs.Ytibadaomjlkoaaa
set_option maxRecDepth 10000
section
variable{ls:List Int}{c c0:Nat}{K Kp:AV→AH→Prop}
end
end Go.Proofs.Ytibadaomjlkoaaa
