import Derived.Test.YtibadaomjlkoaaaGdj
import Derived.Test.YtibadaomjlkoaaaGdh
import Derived.Test.YtibadaomjlkoaaaGdi
set_option linter.unusedVariables false
set_option linter.unusedSimpArgs false
open Go.RowKit
namespace Go.Proofs.Ytibadaomjlkoaaa
section
variable(xs:List Int)
def Cw (key:Int×Int):Nat→Nat
 |0=>0
 |a+1=>if a+3≤xs.length∧pB xs a=key then a+1 else Cw key a
structure QG (a:Nat)(s:rU):Prop where
 len:s.2.length=xs.length
 es:∀k,(cf k s.1).getD 0=(Cw xs k a:Int)
 ah:∀i,i<a→i+3≤xs.length→s.2.getD i 0=(Cw xs (pB xs i) i:Int)
end
section
variable{xs:List Int}
theorem QG.note {a:Nat}{s:rU}(h:QG xs a s):QG xs (a+1) (jD xs a s):=by
 unfold jD
 split
 ·rename_i hc
  refine⟨by simp only[List.length_set];exact h.len,fun k=>?_,fun i hi h3=>?_⟩
  ·simp only
   rw[jk]
   simp only[Cw]
   by_cases he:pB xs a=k
   ·rw[if_pos he.symm,if_pos ⟨hc,he⟩];rfl
   ·rw[if_neg (fun x=>he x.symm),if_neg (fun x=>he x.2)]
    exact h.es k
  ·simp only
   rw[jg]
   by_cases he:a=i
   ·subst he
    have hl:=h.len
    rw[if_pos ⟨rfl,by omega⟩]
    exact h.es _
   ·rw[if_neg (fun x=>he x.1)]
    exact h.ah i (by omega) h3
 ·rename_i hc
  refine⟨h.len,fun k=>?_,fun i hi h3=>?_⟩
  ·simp only[Cw]
   rw[if_neg (fun x=>hc x.1)]
   exact h.es k
  ·exact h.ah i (by omega) h3
theorem QG.notes:∀(k a:Nat){s:rU},QG xs a s→QG xs (a+k) (bW xs k a s)
 |0,a,s,h=>h
 |k+1,a,s,h=>by
  have:=QG.notes k (a+1) h.note
  rw[show a+(k+1)=a+1+k by omega]
  exact this
theorem QG.start (xs:List Int):QG xs 0 ([],List.replicate xs.length 0):=
 ⟨List.length_replicate,fun k=>rfl,fun i h=>absurd h (Nat.not_lt_zero i)⟩
end
end Go.Proofs.Ytibadaomjlkoaaa
open Go.RowKit
namespace Go.Proofs.Ytibadaomjlkoaaa
def fH (k:Nat):Nat:=if 7<k then(k-4)/4 else 0
def dR (k:Nat):Nat:=if 3<k then(k-2)/2 else 0
def mU:Nat→Nat
 |0=>3
 |k+1=>mU k+2^fH k
def fw:Nat→Nat
 |0=>1
 |k+1=>fw k+2^dR k
def vU (k:Nat):Nat×Nat:=if k=28 then(258,0)else(mU k,fH k)
theorem lE:∀k,k<29→3≤mU k∧mU k≤300∧fH k≤6:=by decide+kernel
theorem oh:∀k,k<30→1≤fw k∧fw k≤40000∧dR k≤14:=by decide+kernel
theorem Tp (k:Nat)(h:k<29):(vU k).1≤300∧(vU k).2≤6:=by
 have:=lE k h
 unfold vU
 split
 ·exact⟨by decide,by decide⟩
 ·exact⟨this.2.1,this.2.2⟩
end Go.Proofs.Ytibadaomjlkoaaa
open Go.RowKit
namespace Go.Proofs.Ytibadaomjlkoaaa
set_option maxRecDepth 10000
section
variable{K Kp:AV→AH→Prop}
def UN (a b:Nat):AV:=.aE [.int .i64 (a:Int),.int .i64 (b:Int)]
theorem Py {k:Nat}(h:k≠28):vU k=(mU k,fH k):=if_neg h
theorem Ck (i:Nat):(if 7<i then(((257+i:Nat):Int)-261).tdiv 4 else 0)=(fH i:Int):=by
 unfold fH
 split
 ·rw[show((257+i:Nat):Int)-261=((i-4:Nat):Int) by omega]
  rw[Int.tdiv_eq_ediv_of_nonneg (by omega)];rfl
 ·rfl
theorem Cl (i:Nat):(if 3<i then((i:Int)-2).tdiv 2 else 0)=(dR i:Int):=by
 unfold dR
 split
 ·rw[show(i:Int)-2=((i-2:Nat):Int) by omega]
  rw[Int.tdiv_eq_ediv_of_nonneg (by omega)];rfl
 ·rfl
theorem JL {k:Nat}(hk:k<29)(h:K (UN (vU k).1 (vU k).2) []):aa Try.prog 54 [.int .i64 ((257+k:Nat):Int)] [] K Kp:=by
 refine aa.bI ?_
 refine SD (fun _=>[]) [] rfl ?_
 refine Qs ?_
 refine And.intro (fun h1=>?_) (fun h1=>?_)
 ·have Jk:k=28:=by have h1:((257+k:Nat):Int)=285:=of_decide_eq_true h1;omega
  subst Jk
  refine Qs ?_
  exact⟨[],cU _,trivial,rfl,h⟩
 ·have Jk:k≠28:=by have h1:¬((257+k:Nat):Int)=285:=of_decide_eq_false h1;omega
  rw[Py Jk]at h
  refine Qs ?_
  refine WO.go (σ:=Nat) (fun i=>i≤k) (fun i=>k-i) (fun i=>[(0,.int .i64 ((257+k:Nat):Int)),(4,.int .i64 (mU i:Int)),(5,.int .i64 ((257+i:Nat):Int))]) (fun _=>[]) 0 ae mixed (by kernel_rfl)
   (Nat.zero_le _) (aI rfl (aI rfl (aI rfl (trivial)))) (trivial) (fun _=>rfl) (fun _=>rfl) (fun _=>trivial) ?_
  intro i hi d
  have hi:i≤k:=hi
  refine Qs ?_
  refine And.intro (fun q=>?_) (fun q=>?_)
  ·have hq:7<i:=by have q:(264:Int)<((257+i:Nat):Int):=of_decide_eq_true q;omega
   refine Qs ?_
   have em:(((257+i:Nat):Int)-261).tdiv 4=(fH i:Int):=by have:=Ck i;rw[if_pos hq]at this;exact this
   rw[em]
   have hm:=(lE i (by omega)).2.2
   have hb:=(lE i (by omega)).2.1
   have es:bg .i64 1 ((fH i:Nat):Int)=((2^fH i:Nat):Int):=gE (by omega)
   have h2:(2:Nat)^fH i≤2^6:=Nat.pow_le_pow_right (by decide) hm
   have h3:0≤bg .i64 1 ((fH i:Nat):Int)∧bg .i64 1 ((fH i:Nat):Int)≤16384:=by rw[es];exact⟨Int.natCast_nonneg _,Int.ofNat_le.2 (Nat.le_trans h2 (by decide))⟩
   have h4:(mU i:Int)+bg .i64 1 ((fH i:Nat):Int)=(mU (i+1):Int):=by rw[es];simp only[mU];omega
   refine Qs ?_
   refine And.intro (fun r1=>?_) (fun r1=>?_)
   ·have pe:i=k:=by have r1:((257+i:Nat):Int)=((257+k:Nat):Int):=of_decide_eq_true r1;omega
    subst pe
    refine Qs ?_
    exact⟨[],cU _,trivial,rfl,h⟩
   ·have pe:i<k:=by have r1:¬((257+i:Nat):Int)=((257+k:Nat):Int):=of_decide_eq_false r1;omega
    refine Qs ?_
    refine RO.same (i+1) pe (Nat.sub_lt_sub_left pe (Nat.lt_succ_self i)) (aI rfl (aI (congrArg (AV.int .i64) h4) (aI rfl trivial))) (trivial)
  ·have hq:¬7<i:=by have q:¬(264:Int)<((257+i:Nat):Int):=of_decide_eq_false q;omega
   refine Qs ?_
   have em:(0:Int)=(fH i:Int):=by have:=Ck i;rw[if_neg hq]at this;exact this
   rw[em]
   have hm:=(lE i (by omega)).2.2
   have hb:=(lE i (by omega)).2.1
   have es:bg .i64 1 ((fH i:Nat):Int)=((2^fH i:Nat):Int):=gE (by omega)
   have h2:(2:Nat)^fH i≤2^6:=Nat.pow_le_pow_right (by decide) hm
   have h3:0≤bg .i64 1 ((fH i:Nat):Int)∧bg .i64 1 ((fH i:Nat):Int)≤16384:=by rw[es];exact⟨Int.natCast_nonneg _,Int.ofNat_le.2 (Nat.le_trans h2 (by decide))⟩
   have h4:(mU i:Int)+bg .i64 1 ((fH i:Nat):Int)=(mU (i+1):Int):=by rw[es];simp only[mU];omega
   refine Qs ?_
   refine And.intro (fun r1=>?_) (fun r1=>?_)
   ·have pe:i=k:=by have r1:((257+i:Nat):Int)=((257+k:Nat):Int):=of_decide_eq_true r1;omega
    subst pe
    refine Qs ?_
    exact⟨[],cU _,trivial,rfl,h⟩
   ·have pe:i<k:=by have r1:¬((257+i:Nat):Int)=((257+k:Nat):Int):=of_decide_eq_false r1;omega
    refine Qs ?_
    refine RO.same (i+1) pe (Nat.sub_lt_sub_left pe (Nat.lt_succ_self i)) (aI rfl (aI (congrArg (AV.int .i64) h4) (aI rfl trivial))) (trivial)
theorem JB {k:Nat}(hk:k<30)(h:K (UN (fw k) (dR k)) []):aa Try.prog 55 [.int .i64 (k:Int)] [] K Kp:=by
 refine aa.bI ?_
 refine SC (fun _=>[]) [] rfl ?_
 refine Qs ?_
 refine WO.go (σ:=Nat) (fun i=>i≤k) (fun i=>k-i) (fun i=>[(0,.int .i64 (k:Int)),(4,.int .i64 (fw i:Int)),(5,.int .i64 (i:Int))]) (fun _=>[]) 0 ae mixed (by kernel_rfl)
  (Nat.zero_le _) (aI rfl (aI rfl (aI rfl (trivial)))) (trivial) (fun _=>rfl) (fun _=>rfl) (fun _=>trivial) ?_
 intro i hi d
 have hi:i≤k:=hi
 refine Qs ?_
 refine And.intro (fun q=>?_) (fun q=>?_)
 ·have hq:3<i:=by have q:(3:Int)<(i:Int):=of_decide_eq_true q;omega
  refine Qs ?_
  have em:((i:Int)-2).tdiv 2=(dR i:Int):=by have:=Cl i;rw[if_pos hq]at this;exact this
  rw[em]
  have hm:=(oh i (by omega)).2.2
  have hb:=(oh i (by omega)).2.1
  have es:bg .i64 1 ((dR i:Nat):Int)=((2^dR i:Nat):Int):=gE (by omega)
  have h2:(2:Nat)^dR i≤2^14:=Nat.pow_le_pow_right (by decide) hm
  have h3:0≤bg .i64 1 ((dR i:Nat):Int)∧bg .i64 1 ((dR i:Nat):Int)≤16384:=by rw[es];exact⟨Int.natCast_nonneg _,Int.ofNat_le.2 (Nat.le_trans h2 (by decide))⟩
  have h4:(fw i:Int)+bg .i64 1 ((dR i:Nat):Int)=(fw (i+1):Int):=by rw[es];simp only[fw];omega
  refine Qs ?_
  refine And.intro (fun r1=>?_) (fun r1=>?_)
  ·have pe:i=k:=by have r1:(i:Int)=(k:Int):=of_decide_eq_true r1;omega
   subst pe
   refine Qs ?_
   exact⟨[],cU _,trivial,rfl,h⟩
  ·have pe:i<k:=by have r1:¬(i:Int)=(k:Int):=of_decide_eq_false r1;omega
   refine Qs ?_
   refine RO.same (i+1) pe (Nat.sub_lt_sub_left pe (Nat.lt_succ_self i)) (aI rfl (aI (congrArg (AV.int .i64) h4) (aI rfl trivial))) (trivial)
 ·have hq:¬3<i:=by have q:¬(3:Int)<(i:Int):=of_decide_eq_false q;omega
  refine Qs ?_
  have em:(0:Int)=(dR i:Int):=by have:=Cl i;rw[if_neg hq]at this;exact this
  rw[em]
  have hm:=(oh i (by omega)).2.2
  have hb:=(oh i (by omega)).2.1
  have es:bg .i64 1 ((dR i:Nat):Int)=((2^dR i:Nat):Int):=gE (by omega)
  have h2:(2:Nat)^dR i≤2^14:=Nat.pow_le_pow_right (by decide) hm
  have h3:0≤bg .i64 1 ((dR i:Nat):Int)∧bg .i64 1 ((dR i:Nat):Int)≤16384:=by rw[es];exact⟨Int.natCast_nonneg _,Int.ofNat_le.2 (Nat.le_trans h2 (by decide))⟩
  have h4:(fw i:Int)+bg .i64 1 ((dR i:Nat):Int)=(fw (i+1):Int):=by rw[es];simp only[fw];omega
  refine Qs ?_
  refine And.intro (fun r1=>?_) (fun r1=>?_)
  ·have pe:i=k:=by have r1:(i:Int)=(k:Int):=of_decide_eq_true r1;omega
   subst pe
   refine Qs ?_
   exact⟨[],cU _,trivial,rfl,h⟩
  ·have pe:i<k:=by have r1:¬(i:Int)=(k:Int):=of_decide_eq_false r1;omega
   refine Qs ?_
   refine RO.same (i+1) pe (Nat.sub_lt_sub_left pe (Nat.lt_succ_self i)) (aI rfl (aI (congrArg (AV.int .i64) h4) (aI rfl trivial))) (trivial)
theorem Qy {M:AH}{k:Nat}{v:Int}(hv:v=((257+k:Nat):Int))(hk:k<29)(h:K (UN (vU k).1 (vU k).2) M):aa Try.prog 54 [.int .i64 v] M K Kp:=by
 subst hv
 exact aa.Y2 (v:=UN (vU k).1 (vU k).2) (JL hk ⟨rfl,rfl⟩) (fun _=>rfl) rfl (fun _=>rfl) h
theorem Qn {M:AH}{k:Nat}(hk:k<30)(h:K (UN (fw k) (dR k)) M):aa Try.prog 55 [.int .i64 (k:Int)] M K Kp:=
 aa.Y2 (v:=UN (fw k) (dR k)) (JB hk ⟨rfl,rfl⟩) (fun _=>rfl) rfl (fun _=>rfl) h
end
end Go.Proofs.Ytibadaomjlkoaaa
open Go.RowKit
namespace Go.Proofs.Ytibadaomjlkoaaa
set_option maxRecDepth 10000
section
variable{K Kp:AV→AH→Prop}
end
end Go.Proofs.Ytibadaomjlkoaaa
