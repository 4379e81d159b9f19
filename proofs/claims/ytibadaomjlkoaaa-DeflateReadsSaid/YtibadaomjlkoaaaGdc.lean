import Derived.Test.YtibadaomjlkoaaaGdb
import Derived.Test.YtibadaomjlkoaaaGb
set_option linter.unusedVariables false
set_option linter.unusedSimpArgs false
open Go.RowKit
namespace Go.Proofs.Ytibadaomjlkoaaa
set_option maxRecDepth 10000
theorem BS (a:Nat)(h:a≤15):bg .i64 1 ((15-(a:Int))%256)=((2^(15-a):Nat):Int):=by
 have:∀a,a<16→bg .i64 1 ((15-((a:Nat):Int))%256)=((2^(15-a):Nat):Int):=by decide
 exact this a (by omega)
theorem eZ {ls:List Int}(h:eh ls=true):aB ls=1:=by unfold aB;rw[if_pos h]
theorem jS {ls:List Int}(h:eh ls=false)(h2:a9 ls=false):aB ls=60:=by unfold aB;rw[h,h2];rfl
theorem eK {ls:List Int}(h:eh ls=false)(h2:a9 ls=true):aB ls=0:=by unfold aB;rw[h,h2];rfl
section
variable{ls:List Int}{c c0:Nat}{K Kp:AV→AH→Prop}
theorem jQ {l:List Int}{j:Nat}{d:Int}(h:j<l.length):l.getD j d∈l:=by
 rw[List.getD_eq_getElem?_getD,List.getElem?_eq_getElem h];exact List.getElem_mem h
theorem ET {o0:List Int}{co:Nat}(hl:ls.length≤2000)(hu:∀x∈ls,0≤x∧x<256)(ho:ls.length≤320→o0.length=ls.length∧co=ls.length)
 (hK:K (.int .i64 (aB ls)) (wP ls c co (if aB ls=0 then pA (aK ls 15).2 o0 else o0))):
 aa Try.prog 80 [.sl 0 0 0 ls.length c0,.fn (.func 81) [] [.ptr 2 0 0]] (wP ls c co o0) K Kp:=by
 refine Kg (fun _=>[]) [] rfl ?_
 refine Qs ?_
 refine And.intro (fun b1=>?_) (fun b1=>?_)
 ·have Vg:(320:Int)<ls.length:=by simpa using b1
  have hb:eh ls=true:=by unfold eh;rw[show decide (320<ls.length)=true by rw[decide_eq_true_eq];omega];rfl
  have e:=eZ hb
  rw[e]at hK
  refine Qs ?_
  exact hK
 have Vg:¬(320:Int)<ls.length:=by simpa using b1
 have uk:decide (320<ls.length)=false:=by rw[decide_eq_false_iff_not];omega
 refine Qs ?_
 refine HH (i:=0) (xs:=ls) rfl rfl (by omega) ?_
 refine Qs ?_
 refine And.intro (fun b2=>?_) (fun b2=>?_)
 ·have hb:eh ls=true:=by unfold eh;rw[b2];simp
  have e:=eZ hb
  rw[e]at hK
  refine Qs ?_
  exact hK
 have hb:eh ls=false:=by unfold eh;rw[b2,uk];rfl
 have qs:∀i,i<ls.length→0≤ls.getD i 0∧ls.getD i 0≤15:=by
  intro i hi
  have hm:ls.getD i 0∈ls:=jQ hi
  have h1:=List.any_eq_false.1 b2 _ hm
  have h2:=hu _ hm
  simp only[ng,decide_eq_true_eq]at h1
  omega
 refine Rs ?_
 refine WO.go (σ:=Nat) (fun i=>i≤ls.length) (fun i=>ls.length-i)
  (fun i=>[(0,.sl 0 0 0 ls.length c0),(1,.fn (.func 81) [] [.ptr 2 0 0]),(5,.int .i64 (32768-(aY ls i:Int))),(6,.int .i64 (bn ls i:Int)),(20,.sl 0 0 0 ls.length c0),(21,.int .i64 ls.length),(22,.int .i64 (i:Int))])
  (fun _=>wP ls c co o0) 0 ae mixed (by kernel_rfl) (Nat.zero_le _) (aI rfl (aI rfl (aI rfl (aI rfl (aI rfl (aI rfl (aI rfl (trivial)))))))) (aI rfl (aI rfl (aI rfl (trivial)))) (fun _=>rfl) (fun _=>rfl) (fun _=>⟨trivial,trivial,rfl,trivial⟩) ?_
 intro i hi d
 have hi:i≤ls.length:=hi
 have fW:=uw ls i
 have pD:=uO ls i
 refine Rs ?_
 refine And.intro (fun hc=>?_) (fun hc=>?_)
 ·simp only[decide_eq_true_eq]at hc
  obtain⟨l1,l2⟩:=qs i (by omega)
  refine Rs ?_
  refine And.intro (fun hd=>?_) (fun hd=>?_)
  ·have mv:0<ls.getD i 0:=by simpa using hd
   obtain⟨a,ha⟩:∃a:Nat,ls.getD i 0=(a:Int):=⟨(ls.getD i 0).toNat,by omega⟩
   have hg:ls.getD ((i:Int).toNat+0) 0=(a:Int):=ha
   have CB:bg .i64 1 ((15-ls.getD ((i:Int).toNat+0) 0)%256)=((2^(15-a):Nat):Int):=by rw[hg];exact BS a (by omega)
   have Jd:2^(15-a)≤2^15:=Nat.pow_le_pow_right (by omega) (by omega)
   have LH:(2^15:Nat)=32768:=by decide
   rw[LH]at Jd
   have Zn:-9223372036854775808≤32768-(aY ls i:Int)-bg .i64 1 ((15-ls.getD ((i:Int).toNat+0) 0)%256)∧32768-(aY ls i:Int)-bg .i64 1 ((15-ls.getD ((i:Int).toNat+0) 0)%256)≤9223372036854775807:=by
    rw[CB]
    generalize 2^(15-a)=z at*
    omega
   have e1:aY ls (i+1)=aY ls i+2^(15-a):=by simp only[aY,if_pos mv];rw[ha,Int.toNat_natCast]
   have e2:bn ls (i+1)=bn ls i+1:=by simp only[bn,if_pos mv]
   refine Rs ?_
   refine RO.same (i+1) (by show i+1≤_;omega) (show ls.length-(i+1)<ls.length-i by omega) (And.intro rfl (And.intro rfl (And.intro ?_ (And.intro ?_ (aI rfl (aI rfl (aI rfl (trivial)))))))) (aI rfl (aI rfl (aI rfl (trivial))))
   ·show AV.int .i64 (32768-(aY ls i:Int)-bg .i64 1 ((15-ls.getD ((i:Int).toNat+0) 0)%256))=AV.int .i64 (32768-(aY ls (i+1):Int))
    rw[CB,e1];congr 1;push_cast;omega
   ·show AV.int .i64 ((bn ls i:Int)+1)=AV.int .i64 (bn ls (i+1):Int)
    rw[e2];rfl
  ·have mv:¬0<ls.getD i 0:=by simpa using hd
   have e1:aY ls (i+1)=aY ls i:=by simp only[aY,if_neg mv,Nat.add_zero]
   have e2:bn ls (i+1)=bn ls i:=by simp only[bn,if_neg mv,Nat.add_zero]
   refine Rs ?_
   refine RO.same (i+1) (by show i+1≤_;omega) (show ls.length-(i+1)<ls.length-i by omega) (And.intro rfl (And.intro rfl (And.intro ?_ (And.intro ?_ (aI rfl (aI rfl (aI rfl (trivial)))))))) (aI rfl (aI rfl (aI rfl (trivial))))
   ·show AV.int .i64 _=AV.int .i64 (32768-(aY ls (i+1):Int))
    rw[e1]
   ·show AV.int .i64 _=AV.int .i64 (bn ls (i+1):Int)
    rw[e2]
 have Bn:i=ls.length:=by simp only[decide_eq_false_iff_not]at hc;omega
 subst Bn
 refine Qs ?_
 refine And.intro (fun f1=>?_) (fun f1=>?_)
 ·have Xy:¬32768-(aY ls ls.length:Int)=0:=by simpa using f1
  refine Qs ?_
  refine And.intro (fun f2=>?_) (fun f2=>?_)
  ·have Xx:(0:Int)<(bn ls ls.length:Int):=by simpa using f2
   refine Qs ?_
   refine And.intro (fun f3=>?_) (fun f3=>?_)
   ·have Xw:(1:Int)<(bn ls ls.length:Int):=by simpa using f3
    have hf:a9 ls=false:=by
     unfold a9
     rw[show decide (aY ls ls.length=32768)=false by rw[decide_eq_false_iff_not];omega,show decide (bn ls ls.length=0)=false by rw[decide_eq_false_iff_not];omega,show decide (bn ls ls.length=1)=false by rw[decide_eq_false_iff_not];omega];rfl
    have e:=jS hb hf
    rw[e]at hK
    refine Qs ?_
    exact hK
   ·have Xw:¬(1:Int)<(bn ls ls.length:Int):=by simpa using f3
    refine Qs ?_
    refine And.intro (fun f4=>?_) (fun f4=>?_)
    ·have Xv:¬32768-(aY ls ls.length:Int)=16384:=by simpa using f4
     have hf:a9 ls=false:=by
      unfold a9
      rw[show decide (aY ls ls.length=32768)=false by rw[decide_eq_false_iff_not];omega,show decide (bn ls ls.length=0)=false by rw[decide_eq_false_iff_not];omega,show decide (aY ls ls.length=16384)=false by rw[decide_eq_false_iff_not];omega];simp
     have e:=jS hb hf
     rw[e]at hK
     refine Qs ?_
     exact hK
    ·have Xv:32768-(aY ls ls.length:Int)=16384:=by simpa using f4
     have hf:a9 ls=true:=by
      unfold a9
      rw[show decide (bn ls ls.length=1)=true by rw[decide_eq_true_eq];omega,show decide (aY ls ls.length=16384)=true by rw[decide_eq_true_eq];omega];simp
     have e:=eK hb hf
     rw[e]at hK
     rw[if_pos rfl]at hK
     have kv:ls.length≤320:=by omega
     refine Rs ?_
     refine WO.go (σ:=Nat×Nat×List (Nat×Nat×Nat)) (fun s=>s.1≤15∧s.2=aK ls s.1) (fun s=>15-s.1)
      (fun s=>[(0,.sl 0 0 0 ls.length c0),(1,.fn (.func 81) [] [.ptr 2 0 0]),(9,.int .i64 (s.2.1:Int)),(10,.int .i64 ((s.1:Int)+1))])
      (fun s=>wP ls c co (pA s.2.2 o0)) (0,0,[]) ae mixed (by kernel_rfl) ⟨Nat.zero_le _,rfl⟩ (aI rfl (aI rfl (aI rfl (aI rfl (trivial))))) (aI rfl (aI rfl (aI rfl (trivial)))) (fun _=>rfl) (fun _=>rfl) (fun s=>⟨trivial,trivial,rfl,trivial⟩) ?_
     rintro⟨n,x⟩ ⟨n1,n2⟩ d
     simp only at n1 n2
     have sR:=ij ls n
     rw[←n2]at sR
     have hp:2^n≤2^15:=Nat.pow_le_pow_right (by omega) n1
     have Bk:2^n*ls.length≤2^15*320:=Nat.mul_le_mul hp kv
     have Jf:(2^15*320:Nat)=10485760:=by decide
     rw[Jf]at Bk
     have Dp:x.1≤10485760:=by omega
     refine Rs ?_
     refine And.intro (fun hn=>?_) (fun hn=>?_)
     ·have Bl:(n:Int)+1≤15:=by simpa using hn
      have wj:bg .i64 (x.1:Int) 1=((2*x.1:Nat):Int):=kg (by omega)
      refine Rs ?_
      refine WO.go (σ:=Nat×Nat×List (Nat×Nat×Nat)) (fun s=>s.1≤ls.length∧s.2=cJ ls (n+1) s.1 (2*x.1,x.2)) (fun s=>ls.length-s.1)
       (fun s=>[(0,.sl 0 0 0 ls.length c0),(1,.fn (.func 81) [] [.ptr 2 0 0]),(9,.int .i64 (s.2.1:Int)),(10,.int .i64 ((n:Int)+1)),(56,.sl 0 0 0 ls.length c0),(57,.int .i64 ls.length),(58,.int .i64 (s.1:Int))])
       (fun s=>wP ls c co (pA s.2.2 o0)) (0,2*x.1,x.2) ae mixed (by kernel_rfl) ⟨Nat.zero_le _,rfl⟩ (And.intro rfl (And.intro rfl (And.intro ?_ (aI rfl (aI rfl (aI rfl (aI rfl (trivial)))))))) (aI rfl (aI rfl (aI rfl (trivial)))) (fun _=>rfl) (fun _=>rfl) (fun s=>⟨trivial,trivial,rfl,trivial⟩) ?_
      ·show AV.int .i64 (bg .i64 (x.1:Int) 1)=AV.int .i64 ((2*x.1:Nat):Int)
       rw[wj]
      rintro⟨i,y⟩ ⟨i1,i2⟩ d
      simp only at i1 i2
      have pR:=ja ls (n+1) (2*x.1,x.2) i
      rw[←i2]at pR
      have We:y.1≤2*x.1+i:=pR
      have LA:y.1<2^30:=by omega
      refine Rs ?_
      refine And.intro (fun hi=>?_) (fun hi=>?_)
      ·simp only[decide_eq_true_eq]at hi
       have lf:i<ls.length:=by omega
       have U2:-9223372036854775808≤ls.getD ((i:Int).toNat+0) 0∧ls.getD ((i:Int).toNat+0) 0≤9223372036854775807:=by
        have:=qs i lf
        rw[Int.toNat_natCast,Nat.add_zero];omega
       refine Rs ?_
       refine And.intro (fun hk=>?_) (fun hk=>?_)
       ·have mr:ls.getD i 0=((n+1:Nat):Int):=by simpa using hk
        refine Rs ?_
        refine oa (s:=i) (code:=y.1) (n:=n+1) (by rw[fo,(ho kv).1];omega) (by rw[fo,(ho kv).1,(ho kv).2]) (by rw[(ho kv).2];omega) LA (by omega) ?_
        rw[←o5 y.2 (i,y.1,n+1)]
        refine Rs ?_
        refine RO.same (i+1,y.1+1,y.2++[(i,y.1,n+1)]) ⟨by show i+1≤_;omega,?_⟩ (show ls.length-(i+1)<ls.length-i by omega) (aI rfl (aI rfl (aI rfl (aI rfl (aI rfl (aI rfl (aI rfl (trivial)))))))) (aI rfl (aI rfl (aI rfl (trivial))))
        show _=cJ ls (n+1) (i+1) (2*x.1,x.2)
        rw[aZ,←i2]
        unfold dD
        rw[if_pos mr]
       ·have mr:¬ls.getD i 0=((n+1:Nat):Int):=by simpa using hk
        refine Rs ?_
        refine RO.same (i+1,y) ⟨by show i+1≤_;omega,?_⟩ (show ls.length-(i+1)<ls.length-i by omega) (aI rfl (aI rfl (aI rfl (aI rfl (aI rfl (aI rfl (aI rfl (trivial)))))))) (aI rfl (aI rfl (aI rfl (trivial))))
        show _=cJ ls (n+1) (i+1) (2*x.1,x.2)
        rw[aZ,←i2]
        unfold dD
        rw[if_neg mr]
      ·have lf:i=ls.length:=by simp only[decide_eq_false_iff_not]at hi;omega
       refine Rs ?_
       refine RO.same (n+1,y) ⟨by show n+1≤15;omega,?_⟩ (show 15-(n+1)<15-n by omega) (aI rfl (aI rfl (aI rfl (aI rfl (trivial))))) (aI rfl (aI rfl (aI rfl (trivial))))
       show y=cJ ls (n+1) ls.length (2*(aK ls n).1,(aK ls n).2)
       rw[i2,lf,n2]
     ·have Bl:¬(n:Int)+1≤15:=by simpa using hn
      have rI:n=15:=by omega
      subst rI
      rw[←n2]at hK
      refine Rs ?_
      exact hK
  ·have Xx:¬(0:Int)<(bn ls ls.length:Int):=by simpa using f2
   have hf:a9 ls=true:=by
    unfold a9
    rw[show decide (bn ls ls.length=0)=true by rw[decide_eq_true_eq];omega];simp
   have e:=eK hb hf
   rw[e]at hK
   rw[if_pos rfl]at hK
   have kv:ls.length≤320:=by omega
   refine Rs ?_
   refine WO.go (σ:=Nat×Nat×List (Nat×Nat×Nat)) (fun s=>s.1≤15∧s.2=aK ls s.1) (fun s=>15-s.1)
    (fun s=>[(0,.sl 0 0 0 ls.length c0),(1,.fn (.func 81) [] [.ptr 2 0 0]),(9,.int .i64 (s.2.1:Int)),(10,.int .i64 ((s.1:Int)+1))])
    (fun s=>wP ls c co (pA s.2.2 o0)) (0,0,[]) ae mixed (by kernel_rfl) ⟨Nat.zero_le _,rfl⟩ (aI rfl (aI rfl (aI rfl (aI rfl (trivial))))) (aI rfl (aI rfl (aI rfl (trivial)))) (fun _=>rfl) (fun _=>rfl) (fun s=>⟨trivial,trivial,rfl,trivial⟩) ?_
   rintro⟨n,x⟩ ⟨n1,n2⟩ d
   simp only at n1 n2
   have sR:=ij ls n
   rw[←n2]at sR
   have hp:2^n≤2^15:=Nat.pow_le_pow_right (by omega) n1
   have Bk:2^n*ls.length≤2^15*320:=Nat.mul_le_mul hp kv
   have Jf:(2^15*320:Nat)=10485760:=by decide
   rw[Jf]at Bk
   have Dp:x.1≤10485760:=by omega
   refine Rs ?_
   refine And.intro (fun hn=>?_) (fun hn=>?_)
   ·have Bl:(n:Int)+1≤15:=by simpa using hn
    have wj:bg .i64 (x.1:Int) 1=((2*x.1:Nat):Int):=kg (by omega)
    refine Rs ?_
    refine WO.go (σ:=Nat×Nat×List (Nat×Nat×Nat)) (fun s=>s.1≤ls.length∧s.2=cJ ls (n+1) s.1 (2*x.1,x.2)) (fun s=>ls.length-s.1)
     (fun s=>[(0,.sl 0 0 0 ls.length c0),(1,.fn (.func 81) [] [.ptr 2 0 0]),(9,.int .i64 (s.2.1:Int)),(10,.int .i64 ((n:Int)+1)),(56,.sl 0 0 0 ls.length c0),(57,.int .i64 ls.length),(58,.int .i64 (s.1:Int))])
     (fun s=>wP ls c co (pA s.2.2 o0)) (0,2*x.1,x.2) ae mixed (by kernel_rfl) ⟨Nat.zero_le _,rfl⟩ (And.intro rfl (And.intro rfl (And.intro ?_ (aI rfl (aI rfl (aI rfl (aI rfl (trivial)))))))) (aI rfl (aI rfl (aI rfl (trivial)))) (fun _=>rfl) (fun _=>rfl) (fun s=>⟨trivial,trivial,rfl,trivial⟩) ?_
    ·show AV.int .i64 (bg .i64 (x.1:Int) 1)=AV.int .i64 ((2*x.1:Nat):Int)
     rw[wj]
    rintro⟨i,y⟩ ⟨i1,i2⟩ d
    simp only at i1 i2
    have pR:=ja ls (n+1) (2*x.1,x.2) i
    rw[←i2]at pR
    have We:y.1≤2*x.1+i:=pR
    have LA:y.1<2^30:=by omega
    refine Rs ?_
    refine And.intro (fun hi=>?_) (fun hi=>?_)
    ·simp only[decide_eq_true_eq]at hi
     have lf:i<ls.length:=by omega
     have U2:-9223372036854775808≤ls.getD ((i:Int).toNat+0) 0∧ls.getD ((i:Int).toNat+0) 0≤9223372036854775807:=by
      have:=qs i lf
      rw[Int.toNat_natCast,Nat.add_zero];omega
     refine Rs ?_
     refine And.intro (fun hk=>?_) (fun hk=>?_)
     ·have mr:ls.getD i 0=((n+1:Nat):Int):=by simpa using hk
      refine Rs ?_
      refine oa (s:=i) (code:=y.1) (n:=n+1) (by rw[fo,(ho kv).1];omega) (by rw[fo,(ho kv).1,(ho kv).2]) (by rw[(ho kv).2];omega) LA (by omega) ?_
      rw[←o5 y.2 (i,y.1,n+1)]
      refine Rs ?_
      refine RO.same (i+1,y.1+1,y.2++[(i,y.1,n+1)]) ⟨by show i+1≤_;omega,?_⟩ (show ls.length-(i+1)<ls.length-i by omega) (aI rfl (aI rfl (aI rfl (aI rfl (aI rfl (aI rfl (aI rfl (trivial)))))))) (aI rfl (aI rfl (aI rfl (trivial))))
      show _=cJ ls (n+1) (i+1) (2*x.1,x.2)
      rw[aZ,←i2]
      unfold dD
      rw[if_pos mr]
     ·have mr:¬ls.getD i 0=((n+1:Nat):Int):=by simpa using hk
      refine Rs ?_
      refine RO.same (i+1,y) ⟨by show i+1≤_;omega,?_⟩ (show ls.length-(i+1)<ls.length-i by omega) (aI rfl (aI rfl (aI rfl (aI rfl (aI rfl (aI rfl (aI rfl (trivial)))))))) (aI rfl (aI rfl (aI rfl (trivial))))
      show _=cJ ls (n+1) (i+1) (2*x.1,x.2)
      rw[aZ,←i2]
      unfold dD
      rw[if_neg mr]
    ·have lf:i=ls.length:=by simp only[decide_eq_false_iff_not]at hi;omega
     refine Rs ?_
     refine RO.same (n+1,y) ⟨by show n+1≤15;omega,?_⟩ (show 15-(n+1)<15-n by omega) (aI rfl (aI rfl (aI rfl (aI rfl (trivial))))) (aI rfl (aI rfl (aI rfl (trivial))))
     show y=cJ ls (n+1) ls.length (2*(aK ls n).1,(aK ls n).2)
     rw[i2,lf,n2]
   ·have Bl:¬(n:Int)+1≤15:=by simpa using hn
    have rI:n=15:=by omega
    subst rI
    rw[←n2]at hK
    refine Rs ?_
    exact hK
 ·have Xy:32768-(aY ls ls.length:Int)=0:=by simpa using f1
  have hf:a9 ls=true:=by
   unfold a9
   rw[show decide (aY ls ls.length=32768)=true by rw[decide_eq_true_eq];omega];rfl
  have e:=eK hb hf
  rw[e]at hK
  rw[if_pos rfl]at hK
  have kv:ls.length≤320:=by omega
  refine Rs ?_
  refine WO.go (σ:=Nat×Nat×List (Nat×Nat×Nat)) (fun s=>s.1≤15∧s.2=aK ls s.1) (fun s=>15-s.1)
   (fun s=>[(0,.sl 0 0 0 ls.length c0),(1,.fn (.func 81) [] [.ptr 2 0 0]),(9,.int .i64 (s.2.1:Int)),(10,.int .i64 ((s.1:Int)+1))])
   (fun s=>wP ls c co (pA s.2.2 o0)) (0,0,[]) ae mixed (by kernel_rfl) ⟨Nat.zero_le _,rfl⟩ (aI rfl (aI rfl (aI rfl (aI rfl (trivial))))) (aI rfl (aI rfl (aI rfl (trivial)))) (fun _=>rfl) (fun _=>rfl) (fun s=>⟨trivial,trivial,rfl,trivial⟩) ?_
  rintro⟨n,x⟩ ⟨n1,n2⟩ d
  simp only at n1 n2
  have sR:=ij ls n
  rw[←n2]at sR
  have hp:2^n≤2^15:=Nat.pow_le_pow_right (by omega) n1
  have Bk:2^n*ls.length≤2^15*320:=Nat.mul_le_mul hp kv
  have Jf:(2^15*320:Nat)=10485760:=by decide
  rw[Jf]at Bk
  have Dp:x.1≤10485760:=by omega
  refine Rs ?_
  refine And.intro (fun hn=>?_) (fun hn=>?_)
  ·have Bl:(n:Int)+1≤15:=by simpa using hn
   have wj:bg .i64 (x.1:Int) 1=((2*x.1:Nat):Int):=kg (by omega)
   refine Rs ?_
   refine WO.go (σ:=Nat×Nat×List (Nat×Nat×Nat)) (fun s=>s.1≤ls.length∧s.2=cJ ls (n+1) s.1 (2*x.1,x.2)) (fun s=>ls.length-s.1)
    (fun s=>[(0,.sl 0 0 0 ls.length c0),(1,.fn (.func 81) [] [.ptr 2 0 0]),(9,.int .i64 (s.2.1:Int)),(10,.int .i64 ((n:Int)+1)),(56,.sl 0 0 0 ls.length c0),(57,.int .i64 ls.length),(58,.int .i64 (s.1:Int))])
    (fun s=>wP ls c co (pA s.2.2 o0)) (0,2*x.1,x.2) ae mixed (by kernel_rfl) ⟨Nat.zero_le _,rfl⟩ (And.intro rfl (And.intro rfl (And.intro ?_ (aI rfl (aI rfl (aI rfl (aI rfl (trivial)))))))) (aI rfl (aI rfl (aI rfl (trivial)))) (fun _=>rfl) (fun _=>rfl) (fun s=>⟨trivial,trivial,rfl,trivial⟩) ?_
   ·show AV.int .i64 (bg .i64 (x.1:Int) 1)=AV.int .i64 ((2*x.1:Nat):Int)
    rw[wj]
   rintro⟨i,y⟩ ⟨i1,i2⟩ d
   simp only at i1 i2
   have pR:=ja ls (n+1) (2*x.1,x.2) i
   rw[←i2]at pR
   have We:y.1≤2*x.1+i:=pR
   have LA:y.1<2^30:=by omega
   refine Rs ?_
   refine And.intro (fun hi=>?_) (fun hi=>?_)
   ·simp only[decide_eq_true_eq]at hi
    have lf:i<ls.length:=by omega
    have U2:-9223372036854775808≤ls.getD ((i:Int).toNat+0) 0∧ls.getD ((i:Int).toNat+0) 0≤9223372036854775807:=by
     have:=qs i lf
     rw[Int.toNat_natCast,Nat.add_zero];omega
    refine Rs ?_
    refine And.intro (fun hk=>?_) (fun hk=>?_)
    ·have mr:ls.getD i 0=((n+1:Nat):Int):=by simpa using hk
     refine Rs ?_
     refine oa (s:=i) (code:=y.1) (n:=n+1) (by rw[fo,(ho kv).1];omega) (by rw[fo,(ho kv).1,(ho kv).2]) (by rw[(ho kv).2];omega) LA (by omega) ?_
     rw[←o5 y.2 (i,y.1,n+1)]
     refine Rs ?_
     refine RO.same (i+1,y.1+1,y.2++[(i,y.1,n+1)]) ⟨by show i+1≤_;omega,?_⟩ (show ls.length-(i+1)<ls.length-i by omega) (aI rfl (aI rfl (aI rfl (aI rfl (aI rfl (aI rfl (aI rfl (trivial)))))))) (aI rfl (aI rfl (aI rfl (trivial))))
     show _=cJ ls (n+1) (i+1) (2*x.1,x.2)
     rw[aZ,←i2]
     unfold dD
     rw[if_pos mr]
    ·have mr:¬ls.getD i 0=((n+1:Nat):Int):=by simpa using hk
     refine Rs ?_
     refine RO.same (i+1,y) ⟨by show i+1≤_;omega,?_⟩ (show ls.length-(i+1)<ls.length-i by omega) (aI rfl (aI rfl (aI rfl (aI rfl (aI rfl (aI rfl (aI rfl (trivial)))))))) (aI rfl (aI rfl (aI rfl (trivial))))
     show _=cJ ls (n+1) (i+1) (2*x.1,x.2)
     rw[aZ,←i2]
     unfold dD
     rw[if_neg mr]
   ·have lf:i=ls.length:=by simp only[decide_eq_false_iff_not]at hi;omega
    refine Rs ?_
    refine RO.same (n+1,y) ⟨by show n+1≤15;omega,?_⟩ (show 15-(n+1)<15-n by omega) (aI rfl (aI rfl (aI rfl (aI rfl (trivial))))) (aI rfl (aI rfl (aI rfl (trivial))))
    show y=cJ ls (n+1) ls.length (2*(aK ls n).1,(aK ls n).2)
    rw[i2,lf,n2]
  ·have Bl:¬(n:Int)+1≤15:=by simpa using hn
   have rI:n=15:=by omega
   subst rI
   rw[←n2]at hK
   refine Rs ?_
   exact hK
theorem ES (hl:ls.length≤2000)(hu:∀x∈ls,0≤x∧x<256)
 (hK:K (.int .i64 (aB ls)) (rB ls c (if aB ls=0 then bx (aK ls 15).2 []else[]))):
 aa Try.prog 80 [.sl 0 0 0 ls.length c0,.fn (.func 102) [] [.ptr 3 0 0]] (rB ls c []) K Kp:=by
 refine Kg (fun _=>[]) [] rfl ?_
 refine Qs ?_
 refine And.intro (fun b1=>?_) (fun b1=>?_)
 ·have Vg:(320:Int)<ls.length:=by simpa using b1
  have hb:eh ls=true:=by unfold eh;rw[show decide (320<ls.length)=true by rw[decide_eq_true_eq];omega];rfl
  have e:=eZ hb
  rw[e]at hK
  refine Qs ?_
  exact hK
 have Vg:¬(320:Int)<ls.length:=by simpa using b1
 have uk:decide (320<ls.length)=false:=by rw[decide_eq_false_iff_not];omega
 refine Qs ?_
 refine HH (i:=0) (xs:=ls) rfl rfl (by omega) ?_
 refine Qs ?_
 refine And.intro (fun b2=>?_) (fun b2=>?_)
 ·have hb:eh ls=true:=by unfold eh;rw[b2];simp
  have e:=eZ hb
  rw[e]at hK
  refine Qs ?_
  exact hK
 have hb:eh ls=false:=by unfold eh;rw[b2,uk];rfl
 have qs:∀i,i<ls.length→0≤ls.getD i 0∧ls.getD i 0≤15:=by
  intro i hi
  have hm:ls.getD i 0∈ls:=jQ hi
  have h1:=List.any_eq_false.1 b2 _ hm
  have h2:=hu _ hm
  simp only[ng,decide_eq_true_eq]at h1
  omega
 refine Rs ?_
 refine WO.go (σ:=Nat) (fun i=>i≤ls.length) (fun i=>ls.length-i)
  (fun i=>[(0,.sl 0 0 0 ls.length c0),(1,.fn (.func 102) [] [.ptr 3 0 0]),(5,.int .i64 (32768-(aY ls i:Int))),(6,.int .i64 (bn ls i:Int)),(20,.sl 0 0 0 ls.length c0),(21,.int .i64 ls.length),(22,.int .i64 (i:Int))])
  (fun _=>rB ls c []) 0 ae mixed (by kernel_rfl) (Nat.zero_le _) (aI rfl (aI rfl (aI rfl (aI rfl (aI rfl (aI rfl (aI rfl (trivial)))))))) (aI rfl (aI rfl (aI rfl (aI rfl (trivial))))) (fun _=>rfl) (fun _=>rfl) (fun _=>kp) ?_
 intro i hi d
 have hi:i≤ls.length:=hi
 have fW:=uw ls i
 have pD:=uO ls i
 refine Rs ?_
 refine And.intro (fun hc=>?_) (fun hc=>?_)
 ·simp only[decide_eq_true_eq]at hc
  obtain⟨l1,l2⟩:=qs i (by omega)
  refine Rs ?_
  refine And.intro (fun hd=>?_) (fun hd=>?_)
  ·have mv:0<ls.getD i 0:=by simpa using hd
   obtain⟨a,ha⟩:∃a:Nat,ls.getD i 0=(a:Int):=⟨(ls.getD i 0).toNat,by omega⟩
   have hg:ls.getD ((i:Int).toNat+0) 0=(a:Int):=ha
   have CB:bg .i64 1 ((15-ls.getD ((i:Int).toNat+0) 0)%256)=((2^(15-a):Nat):Int):=by rw[hg];exact BS a (by omega)
   have Jd:2^(15-a)≤2^15:=Nat.pow_le_pow_right (by omega) (by omega)
   have LH:(2^15:Nat)=32768:=by decide
   rw[LH]at Jd
   have Zn:-9223372036854775808≤32768-(aY ls i:Int)-bg .i64 1 ((15-ls.getD ((i:Int).toNat+0) 0)%256)∧32768-(aY ls i:Int)-bg .i64 1 ((15-ls.getD ((i:Int).toNat+0) 0)%256)≤9223372036854775807:=by
    rw[CB]
    generalize 2^(15-a)=z at*
    omega
   have e1:aY ls (i+1)=aY ls i+2^(15-a):=by simp only[aY,if_pos mv];rw[ha,Int.toNat_natCast]
   have e2:bn ls (i+1)=bn ls i+1:=by simp only[bn,if_pos mv]
   refine Rs ?_
   refine RO.same (i+1) (by show i+1≤_;omega) (show ls.length-(i+1)<ls.length-i by omega) (And.intro rfl (And.intro rfl (And.intro ?_ (And.intro ?_ (aI rfl (aI rfl (aI rfl (trivial)))))))) (aI rfl (aI rfl (aI rfl (aI rfl (trivial)))))
   ·show AV.int .i64 (32768-(aY ls i:Int)-bg .i64 1 ((15-ls.getD ((i:Int).toNat+0) 0)%256))=AV.int .i64 (32768-(aY ls (i+1):Int))
    rw[CB,e1];congr 1;push_cast;omega
   ·show AV.int .i64 ((bn ls i:Int)+1)=AV.int .i64 (bn ls (i+1):Int)
    rw[e2];rfl
  ·have mv:¬0<ls.getD i 0:=by simpa using hd
   have e1:aY ls (i+1)=aY ls i:=by simp only[aY,if_neg mv,Nat.add_zero]
   have e2:bn ls (i+1)=bn ls i:=by simp only[bn,if_neg mv,Nat.add_zero]
   refine Rs ?_
   refine RO.same (i+1) (by show i+1≤_;omega) (show ls.length-(i+1)<ls.length-i by omega) (And.intro rfl (And.intro rfl (And.intro ?_ (And.intro ?_ (aI rfl (aI rfl (aI rfl (trivial)))))))) (aI rfl (aI rfl (aI rfl (aI rfl (trivial)))))
   ·show AV.int .i64 _=AV.int .i64 (32768-(aY ls (i+1):Int))
    rw[e1]
   ·show AV.int .i64 _=AV.int .i64 (bn ls (i+1):Int)
    rw[e2]
 have Bn:i=ls.length:=by simp only[decide_eq_false_iff_not]at hc;omega
 subst Bn
 refine Qs ?_
 refine And.intro (fun f1=>?_) (fun f1=>?_)
 ·have Xy:¬32768-(aY ls ls.length:Int)=0:=by simpa using f1
  refine Qs ?_
  refine And.intro (fun f2=>?_) (fun f2=>?_)
  ·have Xx:(0:Int)<(bn ls ls.length:Int):=by simpa using f2
   refine Qs ?_
   refine And.intro (fun f3=>?_) (fun f3=>?_)
   ·have Xw:(1:Int)<(bn ls ls.length:Int):=by simpa using f3
    have hf:a9 ls=false:=by
     unfold a9
     rw[show decide (aY ls ls.length=32768)=false by rw[decide_eq_false_iff_not];omega,show decide (bn ls ls.length=0)=false by rw[decide_eq_false_iff_not];omega,show decide (bn ls ls.length=1)=false by rw[decide_eq_false_iff_not];omega];rfl
    have e:=jS hb hf
    rw[e]at hK
    refine Qs ?_
    exact hK
   ·have Xw:¬(1:Int)<(bn ls ls.length:Int):=by simpa using f3
    refine Qs ?_
    refine And.intro (fun f4=>?_) (fun f4=>?_)
    ·have Xv:¬32768-(aY ls ls.length:Int)=16384:=by simpa using f4
     have hf:a9 ls=false:=by
      unfold a9
      rw[show decide (aY ls ls.length=32768)=false by rw[decide_eq_false_iff_not];omega,show decide (bn ls ls.length=0)=false by rw[decide_eq_false_iff_not];omega,show decide (aY ls ls.length=16384)=false by rw[decide_eq_false_iff_not];omega];simp
     have e:=jS hb hf
     rw[e]at hK
     refine Qs ?_
     exact hK
    ·have Xv:32768-(aY ls ls.length:Int)=16384:=by simpa using f4
     have hf:a9 ls=true:=by
      unfold a9
      rw[show decide (bn ls ls.length=1)=true by rw[decide_eq_true_eq];omega,show decide (aY ls ls.length=16384)=true by rw[decide_eq_true_eq];omega];simp
     have e:=eK hb hf
     rw[e]at hK
     rw[if_pos rfl]at hK
     have kv:ls.length≤320:=by omega
     refine Rs ?_
     refine WO.go (σ:=Nat×Nat×List (Nat×Nat×Nat)) (fun s=>s.1≤15∧s.2=aK ls s.1) (fun s=>15-s.1)
      (fun s=>[(0,.sl 0 0 0 ls.length c0),(1,.fn (.func 102) [] [.ptr 3 0 0]),(9,.int .i64 (s.2.1:Int)),(10,.int .i64 ((s.1:Int)+1))])
      (fun s=>rB ls c (bx s.2.2 [])) (0,0,[]) ae mixed (by kernel_rfl) ⟨Nat.zero_le _,rfl⟩ (aI rfl (aI rfl (aI rfl (aI rfl (trivial))))) (aI rfl (aI rfl (aI rfl (aI rfl (trivial))))) (fun _=>rfl) (fun _=>rfl) (fun s=>kp) ?_
     rintro⟨n,x⟩ ⟨n1,n2⟩ d
     simp only at n1 n2
     have sR:=ij ls n
     rw[←n2]at sR
     have hp:2^n≤2^15:=Nat.pow_le_pow_right (by omega) n1
     have Bk:2^n*ls.length≤2^15*320:=Nat.mul_le_mul hp kv
     have Jf:(2^15*320:Nat)=10485760:=by decide
     rw[Jf]at Bk
     have Dp:x.1≤10485760:=by omega
     refine Rs ?_
     refine And.intro (fun hn=>?_) (fun hn=>?_)
     ·have Bl:(n:Int)+1≤15:=by simpa using hn
      have wj:bg .i64 (x.1:Int) 1=((2*x.1:Nat):Int):=kg (by omega)
      refine Rs ?_
      refine WO.go (σ:=Nat×Nat×List (Nat×Nat×Nat)) (fun s=>s.1≤ls.length∧s.2=cJ ls (n+1) s.1 (2*x.1,x.2)) (fun s=>ls.length-s.1)
       (fun s=>[(0,.sl 0 0 0 ls.length c0),(1,.fn (.func 102) [] [.ptr 3 0 0]),(9,.int .i64 (s.2.1:Int)),(10,.int .i64 ((n:Int)+1)),(56,.sl 0 0 0 ls.length c0),(57,.int .i64 ls.length),(58,.int .i64 (s.1:Int))])
       (fun s=>rB ls c (bx s.2.2 [])) (0,2*x.1,x.2) ae mixed (by kernel_rfl) ⟨Nat.zero_le _,rfl⟩ (And.intro rfl (And.intro rfl (And.intro ?_ (aI rfl (aI rfl (aI rfl (aI rfl (trivial)))))))) (aI rfl (aI rfl (aI rfl (aI rfl (trivial))))) (fun _=>rfl) (fun _=>rfl) (fun s=>kp) ?_
      ·show AV.int .i64 (bg .i64 (x.1:Int) 1)=AV.int .i64 ((2*x.1:Nat):Int)
       rw[wj]
      rintro⟨i,y⟩ ⟨i1,i2⟩ d
      simp only at i1 i2
      have pR:=ja ls (n+1) (2*x.1,x.2) i
      rw[←i2]at pR
      have We:y.1≤2*x.1+i:=pR
      have LA:y.1<2^30:=by omega
      refine Rs ?_
      refine And.intro (fun hi=>?_) (fun hi=>?_)
      ·simp only[decide_eq_true_eq]at hi
       have lf:i<ls.length:=by omega
       have U2:-9223372036854775808≤ls.getD ((i:Int).toNat+0) 0∧ls.getD ((i:Int).toNat+0) 0≤9223372036854775807:=by
        have:=qs i lf
        rw[Int.toNat_natCast,Nat.add_zero];omega
       refine Rs ?_
       refine And.intro (fun hk=>?_) (fun hk=>?_)
       ·have mr:ls.getD i 0=((n+1:Nat):Int):=by simpa using hk
        refine Rs ?_
        refine sG (s:=i) (code:=y.1) (n:=n+1) (by omega) LA (by omega) ?_
        rw[←oZ y.2 (i,y.1,n+1)]
        refine Rs ?_
        refine RO.same (i+1,y.1+1,y.2++[(i,y.1,n+1)]) ⟨by show i+1≤_;omega,?_⟩ (show ls.length-(i+1)<ls.length-i by omega) (aI rfl (aI rfl (aI rfl (aI rfl (aI rfl (aI rfl (aI rfl (trivial)))))))) (aI rfl (aI rfl (aI rfl (aI rfl (trivial)))))
        show _=cJ ls (n+1) (i+1) (2*x.1,x.2)
        rw[aZ,←i2]
        unfold dD
        rw[if_pos mr]
       ·have mr:¬ls.getD i 0=((n+1:Nat):Int):=by simpa using hk
        refine Rs ?_
        refine RO.same (i+1,y) ⟨by show i+1≤_;omega,?_⟩ (show ls.length-(i+1)<ls.length-i by omega) (aI rfl (aI rfl (aI rfl (aI rfl (aI rfl (aI rfl (aI rfl (trivial)))))))) (aI rfl (aI rfl (aI rfl (aI rfl (trivial)))))
        show _=cJ ls (n+1) (i+1) (2*x.1,x.2)
        rw[aZ,←i2]
        unfold dD
        rw[if_neg mr]
      ·have lf:i=ls.length:=by simp only[decide_eq_false_iff_not]at hi;omega
       refine Rs ?_
       refine RO.same (n+1,y) ⟨by show n+1≤15;omega,?_⟩ (show 15-(n+1)<15-n by omega) (aI rfl (aI rfl (aI rfl (aI rfl (trivial))))) (aI rfl (aI rfl (aI rfl (aI rfl (trivial)))))
       show y=cJ ls (n+1) ls.length (2*(aK ls n).1,(aK ls n).2)
       rw[i2,lf,n2]
     ·have Bl:¬(n:Int)+1≤15:=by simpa using hn
      have rI:n=15:=by omega
      subst rI
      rw[←n2]at hK
      refine Rs ?_
      exact hK
  ·have Xx:¬(0:Int)<(bn ls ls.length:Int):=by simpa using f2
   have hf:a9 ls=true:=by
    unfold a9
    rw[show decide (bn ls ls.length=0)=true by rw[decide_eq_true_eq];omega];simp
   have e:=eK hb hf
   rw[e]at hK
   rw[if_pos rfl]at hK
   have kv:ls.length≤320:=by omega
   refine Rs ?_
   refine WO.go (σ:=Nat×Nat×List (Nat×Nat×Nat)) (fun s=>s.1≤15∧s.2=aK ls s.1) (fun s=>15-s.1)
    (fun s=>[(0,.sl 0 0 0 ls.length c0),(1,.fn (.func 102) [] [.ptr 3 0 0]),(9,.int .i64 (s.2.1:Int)),(10,.int .i64 ((s.1:Int)+1))])
    (fun s=>rB ls c (bx s.2.2 [])) (0,0,[]) ae mixed (by kernel_rfl) ⟨Nat.zero_le _,rfl⟩ (aI rfl (aI rfl (aI rfl (aI rfl (trivial))))) (aI rfl (aI rfl (aI rfl (aI rfl (trivial))))) (fun _=>rfl) (fun _=>rfl) (fun s=>kp) ?_
   rintro⟨n,x⟩ ⟨n1,n2⟩ d
   simp only at n1 n2
   have sR:=ij ls n
   rw[←n2]at sR
   have hp:2^n≤2^15:=Nat.pow_le_pow_right (by omega) n1
   have Bk:2^n*ls.length≤2^15*320:=Nat.mul_le_mul hp kv
   have Jf:(2^15*320:Nat)=10485760:=by decide
   rw[Jf]at Bk
   have Dp:x.1≤10485760:=by omega
   refine Rs ?_
   refine And.intro (fun hn=>?_) (fun hn=>?_)
   ·have Bl:(n:Int)+1≤15:=by simpa using hn
    have wj:bg .i64 (x.1:Int) 1=((2*x.1:Nat):Int):=kg (by omega)
    refine Rs ?_
    refine WO.go (σ:=Nat×Nat×List (Nat×Nat×Nat)) (fun s=>s.1≤ls.length∧s.2=cJ ls (n+1) s.1 (2*x.1,x.2)) (fun s=>ls.length-s.1)
     (fun s=>[(0,.sl 0 0 0 ls.length c0),(1,.fn (.func 102) [] [.ptr 3 0 0]),(9,.int .i64 (s.2.1:Int)),(10,.int .i64 ((n:Int)+1)),(56,.sl 0 0 0 ls.length c0),(57,.int .i64 ls.length),(58,.int .i64 (s.1:Int))])
     (fun s=>rB ls c (bx s.2.2 [])) (0,2*x.1,x.2) ae mixed (by kernel_rfl) ⟨Nat.zero_le _,rfl⟩ (And.intro rfl (And.intro rfl (And.intro ?_ (aI rfl (aI rfl (aI rfl (aI rfl (trivial)))))))) (aI rfl (aI rfl (aI rfl (aI rfl (trivial))))) (fun _=>rfl) (fun _=>rfl) (fun s=>kp) ?_
    ·show AV.int .i64 (bg .i64 (x.1:Int) 1)=AV.int .i64 ((2*x.1:Nat):Int)
     rw[wj]
    rintro⟨i,y⟩ ⟨i1,i2⟩ d
    simp only at i1 i2
    have pR:=ja ls (n+1) (2*x.1,x.2) i
    rw[←i2]at pR
    have We:y.1≤2*x.1+i:=pR
    have LA:y.1<2^30:=by omega
    refine Rs ?_
    refine And.intro (fun hi=>?_) (fun hi=>?_)
    ·simp only[decide_eq_true_eq]at hi
     have lf:i<ls.length:=by omega
     have U2:-9223372036854775808≤ls.getD ((i:Int).toNat+0) 0∧ls.getD ((i:Int).toNat+0) 0≤9223372036854775807:=by
      have:=qs i lf
      rw[Int.toNat_natCast,Nat.add_zero];omega
     refine Rs ?_
     refine And.intro (fun hk=>?_) (fun hk=>?_)
     ·have mr:ls.getD i 0=((n+1:Nat):Int):=by simpa using hk
      refine Rs ?_
      refine sG (s:=i) (code:=y.1) (n:=n+1) (by omega) LA (by omega) ?_
      rw[←oZ y.2 (i,y.1,n+1)]
      refine Rs ?_
      refine RO.same (i+1,y.1+1,y.2++[(i,y.1,n+1)]) ⟨by show i+1≤_;omega,?_⟩ (show ls.length-(i+1)<ls.length-i by omega) (aI rfl (aI rfl (aI rfl (aI rfl (aI rfl (aI rfl (aI rfl (trivial)))))))) (aI rfl (aI rfl (aI rfl (aI rfl (trivial)))))
      show _=cJ ls (n+1) (i+1) (2*x.1,x.2)
      rw[aZ,←i2]
      unfold dD
      rw[if_pos mr]
     ·have mr:¬ls.getD i 0=((n+1:Nat):Int):=by simpa using hk
      refine Rs ?_
      refine RO.same (i+1,y) ⟨by show i+1≤_;omega,?_⟩ (show ls.length-(i+1)<ls.length-i by omega) (aI rfl (aI rfl (aI rfl (aI rfl (aI rfl (aI rfl (aI rfl (trivial)))))))) (aI rfl (aI rfl (aI rfl (aI rfl (trivial)))))
      show _=cJ ls (n+1) (i+1) (2*x.1,x.2)
      rw[aZ,←i2]
      unfold dD
      rw[if_neg mr]
    ·have lf:i=ls.length:=by simp only[decide_eq_false_iff_not]at hi;omega
     refine Rs ?_
     refine RO.same (n+1,y) ⟨by show n+1≤15;omega,?_⟩ (show 15-(n+1)<15-n by omega) (aI rfl (aI rfl (aI rfl (aI rfl (trivial))))) (aI rfl (aI rfl (aI rfl (aI rfl (trivial)))))
     show y=cJ ls (n+1) ls.length (2*(aK ls n).1,(aK ls n).2)
     rw[i2,lf,n2]
   ·have Bl:¬(n:Int)+1≤15:=by simpa using hn
    have rI:n=15:=by omega
    subst rI
    rw[←n2]at hK
    refine Rs ?_
    exact hK
 ·have Xy:32768-(aY ls ls.length:Int)=0:=by simpa using f1
  have hf:a9 ls=true:=by
   unfold a9
   rw[show decide (aY ls ls.length=32768)=true by rw[decide_eq_true_eq];omega];rfl
  have e:=eK hb hf
  rw[e]at hK
  rw[if_pos rfl]at hK
  have kv:ls.length≤320:=by omega
  refine Rs ?_
  refine WO.go (σ:=Nat×Nat×List (Nat×Nat×Nat)) (fun s=>s.1≤15∧s.2=aK ls s.1) (fun s=>15-s.1)
   (fun s=>[(0,.sl 0 0 0 ls.length c0),(1,.fn (.func 102) [] [.ptr 3 0 0]),(9,.int .i64 (s.2.1:Int)),(10,.int .i64 ((s.1:Int)+1))])
   (fun s=>rB ls c (bx s.2.2 [])) (0,0,[]) ae mixed (by kernel_rfl) ⟨Nat.zero_le _,rfl⟩ (aI rfl (aI rfl (aI rfl (aI rfl (trivial))))) (aI rfl (aI rfl (aI rfl (aI rfl (trivial))))) (fun _=>rfl) (fun _=>rfl) (fun s=>kp) ?_
  rintro⟨n,x⟩ ⟨n1,n2⟩ d
  simp only at n1 n2
  have sR:=ij ls n
  rw[←n2]at sR
  have hp:2^n≤2^15:=Nat.pow_le_pow_right (by omega) n1
  have Bk:2^n*ls.length≤2^15*320:=Nat.mul_le_mul hp kv
  have Jf:(2^15*320:Nat)=10485760:=by decide
  rw[Jf]at Bk
  have Dp:x.1≤10485760:=by omega
  refine Rs ?_
  refine And.intro (fun hn=>?_) (fun hn=>?_)
  ·have Bl:(n:Int)+1≤15:=by simpa using hn
   have wj:bg .i64 (x.1:Int) 1=((2*x.1:Nat):Int):=kg (by omega)
   refine Rs ?_
   refine WO.go (σ:=Nat×Nat×List (Nat×Nat×Nat)) (fun s=>s.1≤ls.length∧s.2=cJ ls (n+1) s.1 (2*x.1,x.2)) (fun s=>ls.length-s.1)
    (fun s=>[(0,.sl 0 0 0 ls.length c0),(1,.fn (.func 102) [] [.ptr 3 0 0]),(9,.int .i64 (s.2.1:Int)),(10,.int .i64 ((n:Int)+1)),(56,.sl 0 0 0 ls.length c0),(57,.int .i64 ls.length),(58,.int .i64 (s.1:Int))])
    (fun s=>rB ls c (bx s.2.2 [])) (0,2*x.1,x.2) ae mixed (by kernel_rfl) ⟨Nat.zero_le _,rfl⟩ (And.intro rfl (And.intro rfl (And.intro ?_ (aI rfl (aI rfl (aI rfl (aI rfl (trivial)))))))) (aI rfl (aI rfl (aI rfl (aI rfl (trivial))))) (fun _=>rfl) (fun _=>rfl) (fun s=>kp) ?_
   ·show AV.int .i64 (bg .i64 (x.1:Int) 1)=AV.int .i64 ((2*x.1:Nat):Int)
    rw[wj]
   rintro⟨i,y⟩ ⟨i1,i2⟩ d
   simp only at i1 i2
   have pR:=ja ls (n+1) (2*x.1,x.2) i
   rw[←i2]at pR
   have We:y.1≤2*x.1+i:=pR
   have LA:y.1<2^30:=by omega
   refine Rs ?_
   refine And.intro (fun hi=>?_) (fun hi=>?_)
   ·simp only[decide_eq_true_eq]at hi
    have lf:i<ls.length:=by omega
    have U2:-9223372036854775808≤ls.getD ((i:Int).toNat+0) 0∧ls.getD ((i:Int).toNat+0) 0≤9223372036854775807:=by
     have:=qs i lf
     rw[Int.toNat_natCast,Nat.add_zero];omega
    refine Rs ?_
    refine And.intro (fun hk=>?_) (fun hk=>?_)
    ·have mr:ls.getD i 0=((n+1:Nat):Int):=by simpa using hk
     refine Rs ?_
     refine sG (s:=i) (code:=y.1) (n:=n+1) (by omega) LA (by omega) ?_
     rw[←oZ y.2 (i,y.1,n+1)]
     refine Rs ?_
     refine RO.same (i+1,y.1+1,y.2++[(i,y.1,n+1)]) ⟨by show i+1≤_;omega,?_⟩ (show ls.length-(i+1)<ls.length-i by omega) (aI rfl (aI rfl (aI rfl (aI rfl (aI rfl (aI rfl (aI rfl (trivial)))))))) (aI rfl (aI rfl (aI rfl (aI rfl (trivial)))))
     show _=cJ ls (n+1) (i+1) (2*x.1,x.2)
     rw[aZ,←i2]
     unfold dD
     rw[if_pos mr]
    ·have mr:¬ls.getD i 0=((n+1:Nat):Int):=by simpa using hk
     refine Rs ?_
     refine RO.same (i+1,y) ⟨by show i+1≤_;omega,?_⟩ (show ls.length-(i+1)<ls.length-i by omega) (aI rfl (aI rfl (aI rfl (aI rfl (aI rfl (aI rfl (aI rfl (trivial)))))))) (aI rfl (aI rfl (aI rfl (aI rfl (trivial)))))
     show _=cJ ls (n+1) (i+1) (2*x.1,x.2)
     rw[aZ,←i2]
     unfold dD
     rw[if_neg mr]
   ·have lf:i=ls.length:=by simp only[decide_eq_false_iff_not]at hi;omega
    refine Rs ?_
    refine RO.same (n+1,y) ⟨by show n+1≤15;omega,?_⟩ (show 15-(n+1)<15-n by omega) (aI rfl (aI rfl (aI rfl (aI rfl (trivial))))) (aI rfl (aI rfl (aI rfl (aI rfl (trivial)))))
    show y=cJ ls (n+1) ls.length (2*(aK ls n).1,(aK ls n).2)
    rw[i2,lf,n2]
  ·have Bl:¬(n:Int)+1≤15:=by simpa using hn
   have rI:n=15:=by omega
   subst rI
   rw[←n2]at hK
   refine Rs ?_
   exact hK
end
end Go.Proofs.Ytibadaomjlkoaaa
open Go.RowKit
namespace Go.Proofs.Ytibadaomjlkoaaa
set_option maxRecDepth 10000
theorem kr (t:List TE)(m:Nat)(mk:MK)(ez:List ((Int×Int)×Int)):(af.map mk (mm ez)).rn t m=af.map mk (mm ez):=by
 simp[af.rn,mm,AV.rn]
theorem yK (t:List TE)(mk:MK)(ez:List ((Int×Int)×Int)):(af.map mk (mm ez)).w0 t:=by
 intro p hp
 obtain⟨q,_,rfl⟩:=List.mem_map.1 hp
 rfl
theorem mO (k:Nat)(mk:MK)(ez:List ((Int×Int)×Int)):(af.map mk (mm ez)).nb k:=by
 intro p hp
 obtain⟨q,_,rfl⟩:=List.mem_map.1 hp
 rfl
def aA (ls:List Int):List Int×Int:=if aB ls=0 then(pA (aK ls 15).2 (List.replicate ls.length 0),0)else([],aB ls)
section
variable{ls:List Int}{c c0:Nat}{K Kp:AV→AH→Prop}
theorem EW (hl:ls.length≤2000)(hu:∀x∈ls,0≤x∧x<256):
 aa Try.prog 47 [.sl 0 0 0 ls.length c0] [.one false 0 (.ints .u8 ls c)]
  (fun r M=>∃g' c',r=.aE [.sl 1 g' 0 (aA ls).1.length c',.int .i64 (aA ls).2]∧M=[.one false 0 (.ints .u8 ls c),.one true g' (.ints .u16 (aA ls).1 c')]∧(aA ls).1.length≤c') Kp:=by
 refine aa.cQ ?_
 refine aa.eS ?_
 refine SE (fun _=>[]) [] rfl ?_
 refine Qs ?_
 refine ET (co:=(min (ls.length:Int) 320).toNat) (o0:=List.replicate (min (ls.length:Int) 320).toNat 0) hl hu (fun h=>?_) ?_
 ·have:(min (ls.length:Int) 320).toNat=ls.length:=by omega
  exact⟨by rw[List.length_replicate,this],this⟩
 refine Qs ?_
 refine And.intro (fun h1=>?_) (fun h1=>?_)
 ·have iA:¬aB ls=0:=by simpa using h1
  refine Qs ?_
  refine⟨_,_,Vw.canon (x:=.ints .u16 [] 0) ⟨rfl,rfl⟩ (bL (mF (bL (by simp only[iE];exact .inr rfl) (bL (iB _ _) (ee _)))) (ee _)),[.dE 0,.own 3],.aE [.sl 1 0 0 0 0,.int .i64 (aB ls)],[.one false 0 (.ints .u8 ls c),.one true 0 (.ints .u16 [] 0)],⟨⟨⟨rfl,_,rfl,rfl⟩,⟨rfl,rfl⟩,trivial⟩,rfl,⟨trivial,trivial,trivial⟩,rfl,?_⟩,?_⟩
  ·intro i hi
   match i,hi with
   |0,_=>exact .inr rfl
  ·unfold aA
   rw[if_neg iA]
   exact⟨0,0,rfl,rfl,Nat.le_refl _⟩
 ·have iA:aB ls=0:=by simpa using h1
  have hb:eh ls=false:=by
   cases hb:eh ls with
   |false=>rfl
   |true=>rw[eZ hb]at iA;cases iA
  have kv:ls.length≤320:=by
   unfold eh at hb
   simp only[Bool.or_eq_false_iff,decide_eq_false_iff_not]at hb
   omega
  have hm:(min (ls.length:Int) 320).toNat=ls.length:=by omega
  refine Qs ?_
  refine⟨_,_,Vw.refl _ _,[.dE 0,.own 1],.aE [.sl 1 0 0 (min (ls.length:Int) 320).toNat (min (ls.length:Int) 320).toNat,.int .i64 0],[.one false 0 (.ints .u8 ls c),.one true 0 (.ints .u16 (if aB ls=0 then pA (aK ls 15).2 (List.replicate (min (ls.length:Int) 320).toNat 0)else List.replicate (min (ls.length:Int) 320).toNat 0) (min (ls.length:Int) 320).toNat)],⟨⟨⟨rfl,_,rfl,rfl⟩,⟨rfl,rfl⟩,trivial⟩,rfl,⟨trivial,trivial,trivial⟩,rfl,?_⟩,?_⟩
  ·intro i hi
   match i,hi with
   |0,_=>exact .inr rfl
  ·unfold aA
   rw[if_pos iA,if_pos iA,hm]
   exact⟨0,ls.length,by simp only[fo,List.length_replicate],rfl,by simp only[fo,List.length_replicate];exact Nat.le_refl _⟩
theorem Ji (hl:ls.length≤2000)(hu:∀x∈ls,0≤x∧x<256):
 aa Try.prog 88 [.sl 0 0 0 ls.length c0] [.one false 0 (.ints .u8 ls c)]
  (fun r M=>(aB ls≠0∧r=.aE [.np,.int .i64 (aB ls)]∧M=[.one false 0 (.ints .u8 ls c)])∨(aB ls=0∧r=.aE [.ptr 2 0 0,.int .i64 0]∧M=[.one false 0 (.ints .u8 ls c),.one true 0 (.map (.pair .i64 .i64) (mm (bx (aK ls 15).2 []))),.one true 0 (.cells [.mp 1 0])])) Kp:=by
 refine aa.cQ ?_
 refine Sd (fun _=>[]) [] rfl ?_
 refine Qs ?_
 refine ES hl hu ?_
 refine Qs ?_
 refine And.intro (fun h1=>?_) (fun h1=>?_)
 ·have iA:¬aB ls=0:=by simpa using h1
  refine Qs ?_
  refine⟨[.dE 0],.aE [.np,.int .i64 (aB ls)],[.one false 0 (.ints .u8 ls c)],⟨⟨⟨rfl,_,rfl,rfl⟩,trivial⟩,rfl,⟨trivial,trivial⟩,rfl,?_⟩,.inl ⟨iA,rfl,rfl⟩⟩
  intro i hi
  match i,hi with
  |0,_=>exact .inr rfl
 ·have iA:aB ls=0:=by simpa using h1
  rw[if_pos iA]
  refine Qs ?_
  refine⟨[.dE 0,.own 1,.own 2],.aE [.ptr 2 0 0,.int .i64 0],[.one false 0 (.ints .u8 ls c),.one true 0 (.map (.pair .i64 .i64) (mm (bx (aK ls 15).2 []))),.one true 0 (.cells [.mp 1 0])],⟨⟨⟨rfl,_,rfl,rfl⟩,⟨?_,rfl⟩,⟨rfl,rfl⟩,trivial⟩,rfl,⟨trivial,?_,rfl,trivial⟩,rfl,?_⟩,.inr ⟨iA,rfl,rfl⟩⟩
  ·show _=some (AO.one true 0 ((af.map (.pair .i64 .i64) (mm (bx (aK ls 15).2 []))).rn _ _))
   rw[kr];rfl
  ·exact yK _ (.pair .i64 .i64) _
  intro i hi
  match i,hi with
  |0,_=>exact .inr rfl
end
end Go.Proofs.Ytibadaomjlkoaaa
open Go.RowKit
namespace Go.Proofs.Ytibadaomjlkoaaa
set_option maxRecDepth 10000
def nD (es:List ((Int×Int)×Int))(row:List Bool):Nat→Nat→Nat→Nat→Int×Nat×Int
 |0,_,_,a=>(0,a,50)
 |f+1,c,n,a=>match cf ((c:Int),(n:Int)) es with
  |none=>(0,a,60)
  |some z=>if 0≤z then(z,a,0)else if row.length≤a then(0,a,50)else nD es row f (2*c+(if row.getD a false then 1 else 0)) (n+1) (a+1)
def fe (es:List ((Int×Int)×Int))(row:List Bool)(a:Nat):Int×Nat×Int:=nD es row (row.length-a+1) 0 0 a
def H7 (g c:Nat)(xs:List Int)(a:Nat)(es:List ((Int×Int)×Int)):AH:=[ro 1 g c xs a,rb g c xs,.one true 0 (.map (.pair .i64 .i64) (mm es)),.one true 0 (.cells [.mp 2 0])]
section
variable{K Kp:AV→AH→Prop}{xs:List Int}{g c:Nat}{es:List ((Int×Int)×Int)}
theorem Dy {a:Nat}(hb:xs.length≤1000000)(ha:a≤8*xs.length)(Ay:∀x∈xs,0≤x∧x<256)(m9:∀k z,cf k es=some z→k.2≤15)
 (hK:K (.aE [.int .i64 (fe es (unpack xs) a).1,.int .i64 (fe es (unpack xs) a).2.2]) (H7 g c xs (fe es (unpack xs) a).2.1 es)):
 aa Try.prog 101 [.ptr 3 0 0,.ptr 0 0 0] (H7 g c xs a es) K Kp:=by
 refine aa.bI ?_
 refine NI (fun _=>[2,3,4]) [] rfl ?_
 refine Qs ?_
 have uh:=aL xs
 refine WO.go (σ:=Nat×Nat×Nat) (fun(cb,n,b)=>cb<2^n∧n≤16∧b≤8*xs.length∧nD es (unpack xs) (8*xs.length-b+1) cb n b=fe es (unpack xs) a) (fun(_,_,b)=>8*xs.length-b)
  (fun _=>[(0,.ptr 3 0 0),(1,.ptr 0 0 0),(6,.ptr 4 0 0)]) (fun(cb,n,b)=>[ro 1 g c xs b,rb g c xs,.one true 0 (.map (.pair .i64 .i64) (mm es)),.one true 0 (.cells [.mp 2 0]),.one true 0 (.cells [.int .i64 (cb:Int),.int .i64 (n:Int)])]) (0,0,a) ae mixed (by kernel_rfl) ⟨by decide,by decide,ha,by unfold fe;rw[uh]⟩ (aI rfl (aI rfl (aI rfl (trivial)))) (aI rfl (aI rfl (aI rfl (aI rfl (aI rfl (trivial)))))) (fun _=>rfl) (fun _=>rfl) (fun _=>⟨rfl,trivial,mO _ (.pair .i64 .i64) _,rfl,rfl,trivial⟩) ?_
 rintro⟨cb,n,b⟩ ⟨h1,h2,h3,h4⟩ d
 have hcb:cb<2^16:=Nat.lt_of_lt_of_le h1 (Nat.pow_le_pow_right (by omega) h2)
 simp only[nD]at h4
 refine Rs ?_
 refine And.intro (fun v hv=>?_) (fun hv=>?_)
 ·have rS:=hv
  rw[jR]at rS
  cases hz:cf ((cb:Int),(n:Int)) es with
  |none=>rw[hz]at rS;cases rS
  |some z=>
  rw[hz]at rS h4
  obtain rfl:AV.int .i64 z=v:=by simpa using rS
  have rI:n≤15:=by have:=m9 _ _ hz;simp only at this;omega
  simp only at h4
  refine Qs ?_
  refine And.intro (fun hs=>?_) (fun hs=>?_)
  ·have xL:0≤z:=by simpa using hs
   rw[if_pos xL]at h4
   rw[←h4]at hK
   refine Qs ?_
   exact Exists.intro (H7 g c xs b es) (And.intro (aI rfl (aI rfl (aI rfl (aI rfl (trivial))))) (And.intro ⟨rfl,trivial,mO _ (.pair .i64 .i64) _,rfl,trivial⟩ (And.intro rfl hK)))
  ·have xL:¬0≤z:=by simpa using hs
   rw[if_neg xL]at h4
   by_cases uH:(unpack xs).length≤b
   ·rw[if_pos uH]at h4
    have hp:nd xs b 1=(0,b,50):=by
     unfold nd;rw[if_neg (by omega),if_pos (by omega)]
    rw[←h4]at hK
    refine Qs ?_
    refine get_at (i:=0) (j:=1) rfl rfl rfl (by omega) h3 Ay hp ?_
    refine Qs ?_
    exact Exists.intro (H7 g c xs b es) (And.intro (aI rfl (aI rfl (aI rfl (aI rfl (trivial))))) (And.intro ⟨rfl,trivial,mO _ (.pair .i64 .i64) _,rfl,trivial⟩ (And.intro rfl hK)))
   ·rw[if_neg uH]at h4
    generalize hbz:(if(unpack xs).getD b false=true then 1 else 0)=bz at h4
    have aax:bz<2:=by rw[←hbz];split<;>omega
    have hp:nd xs b 1=((bz:Int),b+1,0):=by
     unfold nd;rw[if_neg (by omega),if_neg (by omega)]
     have bh:b<(unpack xs).length:=by omega
     have:((unpack xs).drop b).take (1:Int).toNat=[(unpack xs)[b]]:=by
      rw[show(1:Int).toNat=1 from rfl,List.take_one,List.head?_drop,List.getElem?_eq_getElem bh];rfl
     rw[this,←hbz,List.getD_eq_getElem?_getD,List.getElem?_eq_getElem bh]
     cases(unpack xs)[b]<;>rfl
    have e1:bg .i64 (cb:Int) 1=((2*cb:Nat):Int):=kg (by omega)
    have e2:cG .or .i64 ((2*cb:Nat):Int) (bz:Int)=((2*cb+bz:Nat):Int):=Ce (by omega) aax
    refine Qs ?_
    refine get_at (i:=0) (j:=1) rfl rfl rfl (by omega) h3 Ay hp ?_
    refine Qs ?_
    refine RO.same (2*cb+bz,n+1,b+1) ⟨by rw[Nat.pow_succ];omega,by omega,by omega,?_⟩ (show 8*xs.length-(b+1)<8*xs.length-b by omega) (aI rfl (aI rfl (aI rfl (trivial)))) (And.intro rfl (And.intro rfl (And.intro rfl (And.intro rfl (And.intro ?_ trivial)))))
    ·rw[←h4,show 8*xs.length-b=8*xs.length-(b+1)+1 by omega]
    ·show AO.one true 0 (.cells [.int .i64 ((2*cb+bz:Nat):Int),.int .i64 ((n+1:Nat):Int)])=AO.one true 0 (.cells [.int .i64 (cG .or .i64 (bg .i64 (cb:Int) 1) (bz:Int)),.int .i64 ((n:Int)+1)])
     rw[e1,e2];rfl
 ·have rS:cf ((cb:Int),(n:Int)) es=none:=by
   have:(cf ((cb:Int),(n:Int)) es).map (AV.int .i64)=none:=by rw[←jR];exact hv
   simpa using this
  rw[rS]at h4
  simp only at h4
  rw[←h4]at hK
  refine Qs ?_
  exact Exists.intro (H7 g c xs b es) (And.intro (aI rfl (aI rfl (aI rfl (aI rfl (trivial))))) (And.intro ⟨rfl,trivial,mO _ (.pair .i64 .i64) _,rfl,trivial⟩ (And.intro rfl hK)))
end
end Go.Proofs.Ytibadaomjlkoaaa
open Go.RowKit
namespace Go.Proofs.Ytibadaomjlkoaaa
set_option maxRecDepth 10000
section
variable{M:AH}{K Kp:AV→AH→Prop}
theorem wN {i g n c0 co:Nat}{o:Bool}{ls:List Int}(hi:M[i]?=some (.one o g (.ints .u8 ls co)))(hn:n=ls.length)(hl:ls.length≤2000)(hu:∀x∈ls,0≤x∧x<256)
 (h:∀g' c',(aA ls).1.length≤c'→K (.aE [.sl M.length g' 0 (aA ls).1.length c',.int .i64 (aA ls).2]) (M++[.one true g' (.ints .u16 (aA ls).1 c')])):aa Try.prog 47 [.sl i g 0 n c0] M K Kp:=by
 subst hn
 refine aa.lift [.cP i g 0] (EW (ls:=ls) (c0:=c0) (c:=co) (Kp:=fun _ _=>False) hl hu) rfl rfl ⟨⟨_,_,_,rfl,ao hi,cq.same rfl (fun h=>h)⟩,trivial⟩ ⟨trivial,trivial⟩ ?_ (fun _ _ h=>h.elim)
 rintro r M' ⟨g',c',rfl,rfl,nU⟩
 exact⟨⟨rfl,rfl⟩,h g' c' nU⟩
theorem qk {i g n c0 co:Nat}{o:Bool}{fr:List Int}{limit:Int}(hi:M[i]?=some (.one o g (.ints .i64 fr co)))(hn:n=fr.length)(hl:fr.length≤2000)
 (h:∀g' c',(bw fr limit).1.length≤c'→K (.aE [.sl M.length g' 0 (bw fr limit).1.length c',.int .i64 (bw fr limit).2]) (M++[.one true g' (.ints .u8 (bw fr limit).1 c')])):aa Try.prog 46 [.sl i g 0 n c0,.int .i64 limit] M K Kp:=by
 subst hn
 refine aa.lift [.cP i g 0] (Ar (fr:=fr) (c0:=c0) (c:=co) (limit:=limit) (Kp:=fun _ _=>False) hl) rfl rfl ⟨⟨_,_,_,rfl,ao hi,cq.same rfl (fun h=>h)⟩,trivial⟩ ⟨trivial,trivial⟩ ?_ (fun _ _ h=>h.elim)
 rintro r M' ⟨g',c',rfl,rfl,nU⟩
 exact⟨⟨rfl,rfl⟩,h g' c' nU⟩
end
end Go.Proofs.Ytibadaomjlkoaaa
open Go.RowKit
namespace Go.Proofs.Ytibadaomjlkoaaa
set_option maxRecDepth 10000
section
variable{M:AH}{K Kp:AV→AH→Prop}
theorem P0 {i g n c0 co:Nat}{o:Bool}{ls:List Int}(hi:M[i]?=some (.one o g (.ints .u8 ls co)))(hn:n=ls.length)(hl:ls.length≤2000)(hu:∀x∈ls,0≤x∧x<256)
 (h0:aB ls≠0→K (.aE [.np,.int .i64 (aB ls)]) M)
 (h1:aB ls=0→K (.aE [.ptr (M.length+1) 0 0,.int .i64 0]) (M++[.one true 0 (.map (.pair .i64 .i64) (mm (bx (aK ls 15).2 []))),.one true 0 (.cells [.mp M.length 0])])):aa Try.prog 88 [.sl i g 0 n c0] M K Kp:=by
 subst hn
 refine aa.lift [.cP i g 0] (Ji (ls:=ls) (c0:=c0) (c:=co) (Kp:=fun _ _=>False) hl hu) rfl rfl ⟨⟨_,_,_,rfl,ao hi,cq.same rfl (fun h=>h)⟩,trivial⟩ ⟨trivial,trivial⟩ ?_ (fun _ _ h=>h.elim)
 rintro r M' (⟨e,rfl,rfl⟩|⟨e,rfl,rfl⟩)
 ·refine⟨⟨rfl,rfl⟩,?_⟩
  have:=h0 e
  rw[←List.append_nil M]at this
  exact this
 ·refine⟨⟨rfl,rfl⟩,?_⟩
  have:=h1 e
  rw[←kr [.cP i g 0] M.length (.pair .i64 .i64) (bx (aK ls 15).2 [])]at this
  exact this
end
end Go.Proofs.Ytibadaomjlkoaaa
open Go.RowKit
namespace Go.Proofs.Ytibadaomjlkoaaa
set_option maxRecDepth 10000
theorem Kx (a:Nat)(h:a≤15):bS .i64 32768 (a:Int)=((2^(15-a):Nat):Int):=by
 have:∀a,a<16→bS .i64 32768 ((a:Nat):Int)=((2^(15-a):Nat):Int):=by decide
 exact this a (by omega)
section
variable{ls:List Int}{c c0:Nat}{K Kp:AV→AH→Prop}
theorem Dx (hl:ls.length≤2000)(hu:∀x∈ls,0≤x∧x<256)(hK:K (.int .i64 (aB ls)) [.one false 0 (.ints .u8 ls c)]):
 aa Try.prog 85 [.sl 0 0 0 ls.length c0] [.one false 0 (.ints .u8 ls c)] K Kp:=by
 refine Sg (fun _=>[]) [] rfl ?_
 refine Qs ?_
 refine And.intro (fun b1=>?_) (fun b1=>?_)
 ·have Vg:(320:Int)<ls.length:=by simpa using b1
  have hb:eh ls=true:=by unfold eh;rw[show decide (320<ls.length)=true by rw[decide_eq_true_eq];omega];rfl
  have e:=eZ hb
  rw[e]at hK
  refine Qs ?_
  exact hK
 have Vg:¬(320:Int)<ls.length:=by simpa using b1
 have uk:decide (320<ls.length)=false:=by rw[decide_eq_false_iff_not];omega
 refine Rs ?_
 refine WO.go (σ:=Nat) (fun i=>i≤ls.length∧∀j,j<i→ng (ls.getD j 0)=false) (fun i=>ls.length-i)
  (fun i=>[(0,.sl 0 0 0 ls.length c0),(3,.int .i64 (aY ls i:Int)),(4,.int .i64 (bn ls i:Int)),(5,.int .i64 (i:Int))])
  (fun _=>[.one false 0 (.ints .u8 ls c)]) 0 ae mixed (by kernel_rfl) ⟨Nat.zero_le _,fun j hj=>absurd hj (Nat.not_lt_zero j)⟩ (aI rfl (aI rfl (aI rfl (aI rfl (trivial))))) (aI rfl (trivial)) (fun _=>rfl) (fun _=>rfl) (fun _=>⟨trivial,trivial⟩) ?_
 rintro i ⟨hi,hg⟩ d
 have fW:=uw ls i
 have pD:=uO ls i
 refine Rs ?_
 refine And.intro (fun hc=>?_) (fun hc=>?_)
 ·simp only[decide_eq_true_eq]at hc
  have gv:i<ls.length:=by omega
  have hm:ls.getD i 0∈ls:=jQ gv
  have LC:=hu _ hm
  refine Rs ?_
  refine And.intro (fun hb=>?_) (fun hb=>?_)
  ·have na:15<ls.getD i 0:=by simpa using hb
   have W8:eh ls=true:=by
    unfold eh
    rw[show ls.any ng=true by rw[List.any_eq_true];exact⟨_,hm,by simpa[ng]using na⟩];simp
   have e:=eZ W8
   rw[e]at hK
   refine Qs ?_
   exact hK
  ·have na:¬15<ls.getD i 0:=by simpa using hb
   have HB:∀j,j<i+1→ng (ls.getD j 0)=false:=by
    intro j hj
    by_cases e:j=i
    ·subst e;simpa[ng]using na
    ·exact hg j (by omega)
   refine Rs ?_
   refine And.intro (fun hd=>?_) (fun hd=>?_)
   ·have mv:0<ls.getD i 0:=by simpa using hd
    obtain⟨a,ha⟩:∃a:Nat,ls.getD i 0=(a:Int):=⟨(ls.getD i 0).toNat,by omega⟩
    have hga:ls.getD ((i:Int).toNat+0) 0=(a:Int):=ha
    have CB:bS .i64 32768 (ls.getD ((i:Int).toNat+0) 0)=((2^(15-a):Nat):Int):=by rw[hga];exact Kx a (by omega)
    have Jd:2^(15-a)≤2^15:=Nat.pow_le_pow_right (by omega) (by omega)
    have LH:(2^15:Nat)=32768:=by decide
    rw[LH]at Jd
    have UT:0≤ls.getD ((i:Int).toNat+0) 0:=by rw[hga];omega
    have Zn:-9223372036854775808≤(aY ls i:Int)+bS .i64 32768 (ls.getD ((i:Int).toNat+0) 0)∧(aY ls i:Int)+bS .i64 32768 (ls.getD ((i:Int).toNat+0) 0)≤9223372036854775807:=by
     rw[CB]
     generalize 2^(15-a)=z at*
     omega
    have e1:aY ls (i+1)=aY ls i+2^(15-a):=by simp only[aY,if_pos mv];rw[ha,Int.toNat_natCast]
    have e2:bn ls (i+1)=bn ls i+1:=by simp only[bn,if_pos mv]
    refine Rs ?_
    refine RO.same (i+1) ⟨by omega,HB⟩ (show ls.length-(i+1)<ls.length-i by omega) (And.intro rfl (And.intro ?_ (And.intro ?_ (And.intro rfl trivial)))) (aI rfl (trivial))
    ·show AV.int .i64 ((aY ls i:Int)+bS .i64 32768 (ls.getD ((i:Int).toNat+0) 0))=AV.int .i64 (aY ls (i+1):Int)
     rw[CB,e1];congr 1
    ·show AV.int .i64 ((bn ls i:Int)+1)=AV.int .i64 (bn ls (i+1):Int)
     rw[e2];rfl
   ·have mv:¬0<ls.getD i 0:=by simpa using hd
    have e1:aY ls (i+1)=aY ls i:=by simp only[aY,if_neg mv,Nat.add_zero]
    have e2:bn ls (i+1)=bn ls i:=by simp only[bn,if_neg mv,Nat.add_zero]
    refine Rs ?_
    refine RO.same (i+1) ⟨by omega,HB⟩ (show ls.length-(i+1)<ls.length-i by omega) (And.intro rfl (And.intro ?_ (And.intro ?_ (And.intro rfl trivial)))) (aI rfl (trivial))
    ·show AV.int .i64 _=AV.int .i64 (aY ls (i+1):Int)
     rw[e1]
    ·show AV.int .i64 _=AV.int .i64 (bn ls (i+1):Int)
     rw[e2]
 have Bn:i=ls.length:=by simp only[decide_eq_false_iff_not]at hc;omega
 subst Bn
 have hb:eh ls=false:=by
  unfold eh;rw[uk]
  simp only[Bool.false_or,List.any_eq_false]
  intro x hx
  obtain⟨j,hj,rfl⟩:=List.getElem_of_mem hx
  have:=hg j hj
  rw[List.getD_eq_getElem?_getD,List.getElem?_eq_getElem hj]at this
  simpa using this
 refine Qs ?_
 refine And.intro (fun f1=>?_) (fun f1=>?_)
 ·have Xy:(aY ls ls.length:Int)=32768:=by simpa using f1
  have hf:a9 ls=true:=by unfold a9;rw[show decide (aY ls ls.length=32768)=true by rw[decide_eq_true_eq];omega];rfl
  have e:=eK hb hf
  rw[e]at hK
  refine Qs ?_
  exact hK
 have Xy:¬(aY ls ls.length:Int)=32768:=by simpa using f1
 refine Qs ?_
 refine And.intro (fun f2=>?_) (fun f2=>?_)
 ·have Xx:(bn ls ls.length:Int)=0:=by simpa using f2
  have hf:a9 ls=true:=by unfold a9;rw[show decide (bn ls ls.length=0)=true by rw[decide_eq_true_eq];omega];simp
  have e:=eK hb hf
  rw[e]at hK
  refine Qs ?_
  exact hK
 have Xx:¬(bn ls ls.length:Int)=0:=by simpa using f2
 refine Qs ?_
 refine And.intro (fun f3=>?_) (fun f3=>?_)
 ·have Xw:(bn ls ls.length:Int)=1:=by simpa using f3
  refine Qs ?_
  refine And.intro (fun f4=>?_) (fun f4=>?_)
  ·have Xv:(aY ls ls.length:Int)=16384:=by simpa using f4
   have hf:a9 ls=true:=by unfold a9;rw[show decide (bn ls ls.length=1)=true by rw[decide_eq_true_eq];omega,show decide (aY ls ls.length=16384)=true by rw[decide_eq_true_eq];omega];simp
   have e:=eK hb hf
   rw[e]at hK
   refine Qs ?_
   exact hK
  ·have Xv:¬(aY ls ls.length:Int)=16384:=by simpa using f4
   have hf:a9 ls=false:=by unfold a9;rw[show decide (aY ls ls.length=32768)=false by rw[decide_eq_false_iff_not];omega,show decide (bn ls ls.length=0)=false by rw[decide_eq_false_iff_not];omega,show decide (aY ls ls.length=16384)=false by rw[decide_eq_false_iff_not];omega];simp
   have e:=jS hb hf
   rw[e]at hK
   refine Qs ?_
   exact hK
 ·have Xw:¬(bn ls ls.length:Int)=1:=by simpa using f3
  have hf:a9 ls=false:=by unfold a9;rw[show decide (aY ls ls.length=32768)=false by rw[decide_eq_false_iff_not];omega,show decide (bn ls ls.length=0)=false by rw[decide_eq_false_iff_not];omega,show decide (bn ls ls.length=1)=false by rw[decide_eq_false_iff_not];omega];rfl
  have e:=jS hb hf
  rw[e]at hK
  refine Qs ?_
  exact hK
end
end Go.Proofs.Ytibadaomjlkoaaa
