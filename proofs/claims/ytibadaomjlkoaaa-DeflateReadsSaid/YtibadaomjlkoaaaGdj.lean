import Derived.Test.YtibadaomjlkoaaaGdi
import Derived.Test.YtibadaomjlkoaaaGb
import Derived.Test.YtibadaomjlkoaaaGdb
import Derived.Test.YtibadaomjlkoaaaGdf
import Derived.Test.YtibadaomjlkoaaaGdh
import Derived.Test.YtibadaomjlkoaaaGdc
import Derived.Test.YtibadaomjlkoaaaGx
set_option linter.unusedVariables false
set_option linter.unusedSimpArgs false
open Go.RowKit
namespace Go.Proofs.Ytibadaomjlkoaaa
set_option maxRecDepth 10000
theorem QB {a b:Nat}(ha:a<2^62)(hb:b<2^62):cG .and .i64 (a:Int) (b:Int)=((a&&&b:Nat):Int):=by
 have h1:(BitVec.ofInt 64 (a:Int)&&&BitVec.ofInt 64 (b:Int)).toNat=a&&&b:=by
  rw[BitVec.toNat_and,BitVec.ofInt_natCast,BitVec.ofInt_natCast,BitVec.toNat_ofNat,BitVec.toNat_ofNat,Nat.mod_eq_of_lt (by omega),Nat.mod_eq_of_lt (by omega)]
 have h2:(a&&&b)<2^62:=Nat.and_lt_two_pow _ hb
 show IntKind.i64.wrap ((BitVec.ofInt 64 (a:Int)&&&BitVec.ofInt 64 (b:Int)).toNat:Int)=_
 rw[h1,wh (by omega)]
theorem Cq {x k:Nat}(hx:x<2^31)(hk:k≤31):cG .and .i64 (x:Int) ((2^k:Nat)-1:Int)=((x%2^k:Nat):Int):=by
 have hp:0<2^k:=Nat.pow_pos (by omega)
 have:(2:Nat)^k<2^32:=Nat.pow_lt_pow_right (by omega) (by omega)
 have e:(((2^k:Nat):Int)-1)=((2^k-1:Nat):Int):=by
  generalize(2:Nat)^k=z at*
  omega
 rw[e,QB (by omega) (by omega),Nat.and_two_pow_sub_one_eq_mod]
theorem zV {x k:Nat}(hk:k≤31):bS .i64 (x:Int) (k:Int)=((x/2^k:Nat):Int):=by
 unfold bS
 rw[Nat.min_eq_left (by simp[IntKind.bits];omega),Int.toNat_natCast,Int.fdiv_eq_ediv_of_nonneg _ (Int.le_of_lt (Int.pow_pos (by decide)))]
 push_cast
 rfl
def vk (each v:Nat):Nat→Nat→Nat
 |0,n=>n
 |f+1,n=>if 2*each≤v/2^n then vk each v f (n+1)else n
def bj (v each:Nat):Nat×Nat×Nat:=if v<2*each then(v,0,0)else(vk each v 20 0*each+v/2^vk each v 20 0,v%2^vk each v 20 0,vk each v 20 0)
theorem ny {each v:Nat}:∀f n,v/2^(n+f)<2*each→v/2^vk each v f n<2*each∧n≤vk each v f n∧vk each v f n≤n+f∧(n<vk each v f n→2*each≤v/2^(vk each v f n-1))
 |0,n,h=>⟨h,Nat.le_refl _,Nat.le_refl _,fun h=>absurd h (Nat.lt_irrefl _)⟩
 |f+1,n,h=>by
  simp only[vk]
  split
  ·rename_i hc
   obtain⟨a,b,c,d⟩:=ny (each:=each) (v:=v) f (n+1) (by rw[show n+1+f=n+(f+1) by omega];exact h)
   refine⟨a,by omega,by omega,fun _=>?_⟩
   by_cases e:n+1<vk each v f (n+1)
   ·exact d e
   ·rw[show vk each v f (n+1)-1=n by omega];exact hc
  ·exact⟨by omega,Nat.le_refl _,by omega,fun h=>absurd h (Nat.lt_irrefl _)⟩
section
variable{K Kp:AV→AH→Prop}
def BC (s ex n:Int):AV:=.agg [.int .i64 s,.int .i64 ex,.int .i64 n]
theorem gE {n:Nat}(h:n≤30):bg .i64 1 (n:Int)=((2^n:Nat):Int):=by
 have h1:(2:Nat)^n<2^31:=Nat.pow_lt_pow_right (by omega) (by omega)
 have:=GX (x:=1) (k:=n) (by omega) (by omega)
 rw[Nat.one_mul]at this
 exact this
theorem JE {v each:Nat}(hv:v<32768)(he:each=2∨each=4)(h:K (BC (bj v each).1 (bj v each).2.1 (bj v each).2.2) []):
 aa Try.prog 72 [.int .i64 (v:Int),.int .i64 (each:Int)] [] K Kp:=by
 rcases he with rfl|rfl
 rotate_left
 refine aa.bI ?_
 refine Ki (fun _=>[]) [] rfl ?_
 refine Qs ?_
 refine And.intro (fun h1=>?_) (fun h1=>?_)
 ·have iA:v<2*4:=by simp only[decide_eq_true_eq]at h1;omega
  unfold bj at h
  rw[if_pos iA]at h
  refine Qs ?_
  exact⟨[],cU _,trivial,rfl,h⟩
 ·have iA:¬v<2*4:=by simp only[decide_eq_false_iff_not]at h1;omega
  unfold bj at h
  rw[if_neg iA]at h
  have hb:v/2^(0+20)<2*4:=by
   have:v/2^(0+20)=0:=Nat.div_eq_of_lt (by omega)
   omega
  obtain⟨s1,s2,s3,s4⟩:=ny 20 0 hb
  obtain⟨N,hN⟩:∃N,vk 4 v 20 0=N:=⟨_,rfl⟩
  rw[hN]at s1 s2 s3 s4 h
  refine Qs ?_
  refine WO.go (σ:=Nat) (fun n=>n≤20∧vk 4 v (20-n) n=N) (fun n=>20-n) (fun n=>[(0,.int .i64 (v:Int)),(1,.int .i64 ((4:Nat):Int)),(4,.ptr 0 0 0),(5,.int .i64 (n:Int))])
   (fun _=>[.one true 0 (.cells [.int .i64 0,.int .i64 0,.int .i64 0])]) 0 ae mixed (by kernel_rfl) ⟨Nat.zero_le _,hN⟩ (aI rfl (aI rfl (aI rfl (aI rfl (trivial))))) (aI rfl (trivial)) (fun _=>rfl) (fun _=>rfl) (fun _=>⟨rfl,trivial⟩) ?_
  rintro n ⟨j1,j2⟩ d
  have e1:bS .i64 (v:Int) (n:Int)=((v/2^n:Nat):Int):=zV (by omega)
  have e3:v/2^n<32768:=Nat.lt_of_le_of_lt (Nat.div_le_self _ _) hv
  refine Qs ?_
  refine And.intro (fun q1=>?_) (fun q1=>?_)
  ·have q1:2*((4:Nat):Int)≤bS .i64 (v:Int) (n:Int):=of_decide_eq_true q1
   rw[e1]at q1
   have hn:n<20:=by
    rcases Nat.lt_or_ge n 20 with h|h
    ·exact h
    ·exfalso
     obtain rfl:n=20:=by omega
     rw[Nat.zero_add]at hb
     omega
   rw[show 20-n=(20-(n+1))+1 by omega,vk,if_pos (by omega)]at j2
   refine Qs ?_
   refine RO.same (n+1) ⟨hn,j2⟩ (Nat.sub_lt_sub_left hn (Nat.lt_succ_self n)) (aI rfl (aI rfl (aI rfl (aI rfl (trivial))))) (aI rfl (trivial))
  ·have q1:¬2*((4:Nat):Int)≤bS .i64 (v:Int) (n:Int):=of_decide_eq_false q1
   rw[e1]at q1
   have P1:n=N:=by
    rw[←j2]
    rcases Nat.lt_or_ge n 20 with h|h
    ·rw[show 20-n=(20-(n+1))+1 by omega,vk,if_neg (by omega)]
    ·obtain rfl:n=20:=by omega
     rfl
   subst P1
   have aak:n≤14:=by
    rcases Nat.lt_or_ge 14 n with h|h
    ·exfalso
     have h5:=s4 (by omega)
     have h6:(2:Nat)^14≤2^(n-1):=Nat.pow_le_pow_right (by omega) (by omega)
     have h7:v/2^(n-1)≤v/2^14:=Nat.div_le_div_left h6 (by omega)
     omega
    ·exact h
   have e2:bg .i64 1 (n:Int)=((2^n:Nat):Int):=gE (by omega)
   have e4:cG .and .i64 (v:Int) (((2^n:Nat):Int)-1)=((v%2^n:Nat):Int):=Cq (by omega) (by omega)
   have e5:(2:Nat)^n<2^15:=Nat.pow_lt_pow_right (by omega) (by omega)
   have e6:0≤bS .i64 (v:Int) (n:Int)∧bS .i64 (v:Int) (n:Int)<32768:=by rw[e1];exact⟨Int.natCast_nonneg _,Int.ofNat_lt.2 e3⟩
   have e7:0≤bg .i64 1 (n:Int)∧bg .i64 1 (n:Int)<32768:=by rw[e2];exact⟨Int.natCast_nonneg _,Int.ofNat_lt.2 e5⟩
   have r1:((n:Int)+1)*((4:Nat):Int)+bS .i64 (v:Int) (n:Int)-((4:Nat):Int)=((n*4+v/2^n:Nat):Int):=by rw[e1];omega
   have r2:cG .and .i64 (v:Int) (bg .i64 1 (n:Int)-1)=((v%2^n:Nat):Int):=by rw[e2,e4]
   refine Qs ?_
   refine⟨[],cU _,trivial,rfl,?_⟩
   show K (BC (((n:Int)+1)*((4:Nat):Int)+bS .i64 (v:Int) (n:Int)-((4:Nat):Int)) (cG .and .i64 (v:Int) (bg .i64 1 (n:Int)-1)) (n:Int)) []
   rw[r1,r2]
   exact h
 refine aa.bI ?_
 refine Ki (fun _=>[]) [] rfl ?_
 refine Qs ?_
 refine And.intro (fun h1=>?_) (fun h1=>?_)
 ·have iA:v<2*2:=by simp only[decide_eq_true_eq]at h1;omega
  unfold bj at h
  rw[if_pos iA]at h
  refine Qs ?_
  exact⟨[],cU _,trivial,rfl,h⟩
 ·have iA:¬v<2*2:=by simp only[decide_eq_false_iff_not]at h1;omega
  unfold bj at h
  rw[if_neg iA]at h
  have hb:v/2^(0+20)<2*2:=by
   have:v/2^(0+20)=0:=Nat.div_eq_of_lt (by omega)
   omega
  obtain⟨s1,s2,s3,s4⟩:=ny 20 0 hb
  obtain⟨N,hN⟩:∃N,vk 2 v 20 0=N:=⟨_,rfl⟩
  rw[hN]at s1 s2 s3 s4 h
  refine Qs ?_
  refine WO.go (σ:=Nat) (fun n=>n≤20∧vk 2 v (20-n) n=N) (fun n=>20-n) (fun n=>[(0,.int .i64 (v:Int)),(1,.int .i64 ((2:Nat):Int)),(4,.ptr 0 0 0),(5,.int .i64 (n:Int))])
   (fun _=>[.one true 0 (.cells [.int .i64 0,.int .i64 0,.int .i64 0])]) 0 ae mixed (by kernel_rfl) ⟨Nat.zero_le _,hN⟩ (aI rfl (aI rfl (aI rfl (aI rfl (trivial))))) (aI rfl (trivial)) (fun _=>rfl) (fun _=>rfl) (fun _=>⟨rfl,trivial⟩) ?_
  rintro n ⟨j1,j2⟩ d
  have e1:bS .i64 (v:Int) (n:Int)=((v/2^n:Nat):Int):=zV (by omega)
  have e3:v/2^n<32768:=Nat.lt_of_le_of_lt (Nat.div_le_self _ _) hv
  refine Qs ?_
  refine And.intro (fun q1=>?_) (fun q1=>?_)
  ·have q1:2*((2:Nat):Int)≤bS .i64 (v:Int) (n:Int):=of_decide_eq_true q1
   rw[e1]at q1
   have hn:n<20:=by
    rcases Nat.lt_or_ge n 20 with h|h
    ·exact h
    ·exfalso
     obtain rfl:n=20:=by omega
     rw[Nat.zero_add]at hb
     omega
   rw[show 20-n=(20-(n+1))+1 by omega,vk,if_pos (by omega)]at j2
   refine Qs ?_
   refine RO.same (n+1) ⟨hn,j2⟩ (Nat.sub_lt_sub_left hn (Nat.lt_succ_self n)) (aI rfl (aI rfl (aI rfl (aI rfl (trivial))))) (aI rfl (trivial))
  ·have q1:¬2*((2:Nat):Int)≤bS .i64 (v:Int) (n:Int):=of_decide_eq_false q1
   rw[e1]at q1
   have P1:n=N:=by
    rw[←j2]
    rcases Nat.lt_or_ge n 20 with h|h
    ·rw[show 20-n=(20-(n+1))+1 by omega,vk,if_neg (by omega)]
    ·obtain rfl:n=20:=by omega
     rfl
   subst P1
   have aak:n≤14:=by
    rcases Nat.lt_or_ge 14 n with h|h
    ·exfalso
     have h5:=s4 (by omega)
     have h6:(2:Nat)^14≤2^(n-1):=Nat.pow_le_pow_right (by omega) (by omega)
     have h7:v/2^(n-1)≤v/2^14:=Nat.div_le_div_left h6 (by omega)
     omega
    ·exact h
   have e2:bg .i64 1 (n:Int)=((2^n:Nat):Int):=gE (by omega)
   have e4:cG .and .i64 (v:Int) (((2^n:Nat):Int)-1)=((v%2^n:Nat):Int):=Cq (by omega) (by omega)
   have e5:(2:Nat)^n<2^15:=Nat.pow_lt_pow_right (by omega) (by omega)
   have e6:0≤bS .i64 (v:Int) (n:Int)∧bS .i64 (v:Int) (n:Int)<32768:=by rw[e1];exact⟨Int.natCast_nonneg _,Int.ofNat_lt.2 e3⟩
   have e7:0≤bg .i64 1 (n:Int)∧bg .i64 1 (n:Int)<32768:=by rw[e2];exact⟨Int.natCast_nonneg _,Int.ofNat_lt.2 e5⟩
   have r1:((n:Int)+1)*((2:Nat):Int)+bS .i64 (v:Int) (n:Int)-((2:Nat):Int)=((n*2+v/2^n:Nat):Int):=by rw[e1];omega
   have r2:cG .and .i64 (v:Int) (bg .i64 1 (n:Int)-1)=((v%2^n:Nat):Int):=by rw[e2,e4]
   refine Qs ?_
   refine⟨[],cU _,trivial,rfl,?_⟩
   show K (BC (((n:Int)+1)*((2:Nat):Int)+bS .i64 (v:Int) (n:Int)-((2:Nat):Int)) (cG .and .i64 (v:Int) (bg .i64 1 (n:Int)-1)) (n:Int)) []
   rw[r1,r2]
   exact h
def bp (l:Nat):Nat×Nat×Nat:=if l=258 then(285,0,0)else((bj (l-3) 4).1+257,(bj (l-3) 4).2.1,(bj (l-3) 4).2.2)
theorem AX {M:AH}{v each:Nat}(hv:v<32768)(he:each=2∨each=4)(h:K (BC (bj v each).1 (bj v each).2.1 (bj v each).2.2) M):
 aa Try.prog 72 [.int .i64 (v:Int),.int .i64 (each:Int)] M K Kp:=
 aa.Y2 (v:=BC (bj v each).1 (bj v each).2.1 (bj v each).2.2) (JE hv he ⟨rfl,rfl⟩) (fun _=>rfl) rfl (fun _=>rfl) h
theorem AU {l:Nat}(hl:3≤l∧l≤258)(h:K (BC (bp l).1 (bp l).2.1 (bp l).2.2) []):aa Try.prog 71 [.int .i64 (l:Int)] [] K Kp:=by
 refine aa.bI ?_
 refine Sq (fun _=>[]) [] rfl ?_
 unfold bp at h
 refine Qs ?_
 refine And.intro (fun h1=>?_) (fun h1=>?_)
 ·have iA:l=258:=by simp only[decide_eq_true_eq]at h1;omega
  rw[if_pos iA]at h
  refine Qs ?_
  exact⟨[],cU _,trivial,rfl,h⟩
 ·have iA:¬l=258:=by simp only[decide_eq_false_iff_not]at h1;omega
  rw[if_neg iA]at h
  have e1:(l:Int)-3=((l-3:Nat):Int):=by omega
  refine Qs ?_
  rw[e1]
  refine AX (v:=l-3) (each:=4) (by omega) (.inr rfl) ?_
  obtain⟨⟨s,ex,n⟩,hS⟩:∃S,bj (l-3) 4=S:=⟨_,rfl⟩
  have hs:s<1000:=by
   have:(bj (l-3) 4).1<1000:=by
    unfold bj
    split
    ·simp only;omega
    ·have hb:(l-3)/2^(0+20)<2*4:=by
      have:(l-3)/2^(0+20)=0:=Nat.div_eq_of_lt (by omega)
      omega
     have:=(ny 20 0 hb).2.2.1
     have h9:(l-3)/2^vk 4 (l-3) 20 0≤l-3:=Nat.div_le_self _ _
     simp only
     omega
   rw[hS]at this
   exact this
  rw[hS]at h⊢
  refine Qs ?_
  exact⟨[],cU _,trivial,rfl,h⟩
theorem wK {M:AH}{l:Nat}(hl:3≤l∧l≤258)(h:K (BC (bp l).1 (bp l).2.1 (bp l).2.2) M):aa Try.prog 71 [.int .i64 (l:Int)] M K Kp:=
 aa.Y2 (v:=BC (bp l).1 (bp l).2.1 (bp l).2.2) (AU hl ⟨rfl,rfl⟩) (fun _=>rfl) rfl (fun _=>rfl) h
end
end Go.Proofs.Ytibadaomjlkoaaa
open Go.RowKit
namespace Go.Proofs.Ytibadaomjlkoaaa
theorem gS {v each:Nat}(he:each=2∨each=4)(hv:v<32768):
 (bj v each).2.1<2^(bj v each).2.2∧(bj v each).2.2≤13∧(bj v each).1<30+30*(each-2)∧
 (if(bj v each).1<2*each then(bj v each).2.2=0∧(bj v each).2.1=0∧(bj v each).1=v else(bj v each).1/each-1=(bj v each).2.2∧(each+(bj v each).1%each)*2^((bj v each).1/each-1)+(bj v each).2.1=v):=by
 have hb:v/2^(0+20)<2*each:=by
  have:v/2^(0+20)=0:=Nat.div_eq_of_lt (by omega)
  omega
 obtain⟨s1,s2,s3,s4⟩:=ny 20 0 hb
 unfold bj
 by_cases h:v<2*each
 ·rw[if_pos h]
  refine⟨by show 0<2^0;decide,Nat.zero_le _,by show v<_;omega,?_⟩
  rw[if_pos (show(v,0,0).1<2*each from h)]
  exact⟨rfl,rfl,rfl⟩
 ·rw[if_neg h]
  obtain⟨n,hn⟩:∃n,vk each v 20 0=n:=⟨_,rfl⟩
  rw[hn]at s1 s3 s4⊢
  simp only
  have hn1:1≤n:=by
   rcases Nat.eq_zero_or_pos n with h0|h0
   ·subst h0
    rw[Nat.pow_zero,Nat.div_one]at s1
    omega
   ·exact h0
  have h5:=s4 (by omega)
  obtain⟨m,rfl⟩:∃m,n=m+1:=⟨n-1,by omega⟩
  rw[Nat.add_sub_cancel]at h5
  have hm:m≤12:=by
   rcases Nat.lt_or_ge 12 m with h6|h6
   ·exfalso
    have h7:(2:Nat)^13≤2^m:=Nat.pow_le_pow_right (by omega) h6
    have h8:v/2^m≤v/2^13:=Nat.div_le_div_left h7 (by omega)
    omega
   ·exact h6
  have hq:v/2^(m+1)=v/2^m/2:=by rw[Nat.pow_succ,Nat.div_div_eq_div_mul]
  obtain⟨q,hqe⟩:∃q,v/2^(m+1)=q:=⟨_,rfl⟩
  have CD:each≤q:=by rw[←hqe,hq];omega
  rw[hqe]at s1⊢
  have hd:((m+1)*each+q)/each=m+2∧((m+1)*each+q)%each=q-each:=by
   rcases he with rfl|rfl<;>omega
  rw[hd.1,hd.2,if_neg (by rcases he with rfl|rfl<;>omega)]
  refine⟨Nat.mod_lt _ (Nat.two_pow_pos _),by omega,by rcases he with rfl|rfl<;>omega,rfl,?_⟩
  rw[show each+(q-each)=q by omega,show m+2-1=m+1 by omega,←hqe,Nat.mul_comm]
  exact Nat.div_add_mod _ _
theorem gN {l:Nat}(hl:3≤l∧l≤258):(bp l).2.1<2^(bp l).2.2∧(bp l).2.2≤5∧257≤(bp l).1∧(bp l).1≤285∧((bp l).1=285↔l=258):=by
 have:∀l,l<259→3≤l→(bp l).2.1<2^(bp l).2.2∧(bp l).2.2≤5∧257≤(bp l).1∧(bp l).1≤285∧((bp l).1=285↔l=258):=by decide+kernel
 exact this l (by omega) hl.1
theorem yC {row p q:List Bool}{lim:Nat}{v each:Nat}{s:DS}(he:each=2∨each=4)(hv:v<32768)(hr:row=p++(bitsOf (((bj v each).2.1:Nat):Int) (bj v each).2.2++q))(ha:s.a=p.length):
 (mY (bj v each).1 each).run row lim s=.ok ((v:Int),{s with a:=s.a+(bj v each).2.2}):=by
 obtain⟨h1,h2,h3,h4⟩:=gS he hv
 unfold mY
 by_cases hc:(bj v each).1<2*each
 ·rw[if_pos hc]at h4⊢
  obtain⟨a,b,e⟩:=h4
  rw[a,e];rfl
 ·rw[if_neg hc]at h4⊢
  obtain⟨a,e⟩:=h4
  rw[a]at e⊢
  rw[DP.dx hr ha (Int.natCast_nonneg _) (by exact_mod_cast h1),DP.run]
  refine congrArg (fun z=>Except.ok (z,_)) ?_
  rw[←Int.natCast_add,e]
def uW (A D:List Int)(t:Tk):List Bool:=
 if t.l=0 then bf A t.b else bf A ((bp t.l).1:Nat)++(bitsOf (((bp t.l).2.1:Nat):Int) (bp t.l).2.2++(bf D ((bj (t.d-1) 2).1:Nat)++bitsOf (((bj (t.d-1) 2).2.1:Nat):Int) (bj (t.d-1) 2).2.2))
structure QE (A D:List Int)(t:Tk):Prop where
 one:t.l=0→0≤t.b∧t.b<256∧j8 A t.b
 rep:t.l≠0→3≤t.l∧t.l≤258∧1≤t.d∧t.d≤32768∧j8 A ((bp t.l).1:Nat)∧j8 D ((bj (t.d-1) 2).1:Nat)
theorem j9 {A:List Int}{s:Int}(h:j8 A s):(bf A s).length≤15:=by
 rw[BB];have:=h.2.2.2;omega
theorem Nx {A D:List Int}{t:Tk}(h:QE A D t):(uW A D t).length≤48:=by
 unfold uW
 split
 ·rename_i hl
  have:=j9 (h.one hl).2.2
  omega
 ·rename_i hl
  obtain⟨a,b,c,d,e,f⟩:=h.rep hl
  have h1:=j9 e
  have h2:=j9 f
  have h3:=(gN ⟨a,b⟩).2.1
  have h4:=(gS (v:=t.d-1) (.inl rfl) (by omega)).2.1
  simp only[List.length_append,ak]
  omega
def bY (A D:List Int)(l:List Tk):List Bool:=l.flatMap (uW A D)
theorem qS {A D:List Int}:∀(l:List Tk),(∀t∈l,QE A D t)→(bY A D l).length≤48*l.length
 |[],_=>Nat.le_refl _
 |t::l,h=>by
  have h1:=Nx (h t List.mem_cons_self)
  have h2:=qS l (fun t ht=>h t (List.mem_cons_of_mem _ ht))
  unfold bY at*
  rw[List.flatMap_cons,List.length_append,List.length_cons]
  omega
theorem kU {A:List Int}(he:aB A=0){s:Int}(h:j8 A s){row p q:List Bool}{lim:Nat}{st:DS}(hr:row=p++(bf A s++q))(ha:st.a=p.length):
 (pZ (bx (aj A) [])).run row lim st=.ok (s,{st with a:=st.a+(bf A s).length}):=by
 obtain⟨t,t1,t2,t3,t4,t5⟩:=yb he h
 have hl:(bf A s).length=t.2.2:=by rw[BB,t5]
 have hle:st.a≤row.length:=by rw[hr,ha];simp
 rw[u0 (gP A),uV hle]
 rw[IJ t1 (by rw[hr,ha];simp only[List.length_append,hl];omega) (by
  unfold gF
  rw[hr,ha,List.drop_left,Nat.add_sub_cancel_left,List.take_append_of_le_length (by rw[hl];exact Nat.le_refl _),List.take_of_length_le (by rw[hl];exact Nat.le_refl _),t3])]
 simp only[if_true,t2,hl]
theorem I3 {row p q:List Bool}{lim l:Nat}{o:List Int}(hl:3≤l∧l≤258)(hr:row=p++(bitsOf (((bp l).2.1:Nat):Int) (bp l).2.2++q)):
 (if(((bp l).1:Nat):Int)<285 then(mY ((((bp l).1:Nat):Int)-257).toNat 4).bind fun z=>.ret (3+z)else .ret 258:DP Int).run row lim ⟨p.length,o⟩=.ok ((l:Int),⟨p.length+(bp l).2.2,o⟩):=by
 obtain⟨l1,l2,l3,l4,l5⟩:=gN hl
 by_cases h:l=258
 ·subst h;rfl
 ·have aa8:¬(bp l).1=285:=fun e=>h (l5.1 e)
  rw[if_pos (by omega)]
  unfold bp at hr⊢
  rw[if_neg h]at hr⊢
  simp only at hr⊢
  rw[show((((bj (l-3) 4).1+257:Nat):Int)-257).toNat=(bj (l-3) 4).1 by omega,DP.run_bind,yC (v:=l-3) (.inr rfl) (by omega) hr rfl]
  simp only[DP.run]
  rw[show(3:Int)+((l-3:Nat):Int)=(l:Int) by omega]
theorem oB {xs:List Int}{a:Nat}(h:a<xs.length):xs.take a++[xs.getD a 0]=xs.take (a+1):=by
 rw[List.take_succ_eq_append_getElem h,List.getD_eq_getElem?_getD,List.getElem?_eq_getElem h];rfl
theorem dJ {xs:List Int}{a j:Nat}(h:j<a):(xs.take a).getD j 0=xs.getD j 0:=by
 simp only[List.getD_eq_getElem?_getD,List.getElem?_take,if_pos h]
theorem vH {xs:List Int}{row:List Bool}{lim d p:Nat}(hl:xs.length≤lim)(uk:1≤d):∀(n a:Nat),d≤a→a+n≤xs.length→(∀i,i<n→xs.getD (a-d+i) 0=xs.getD (a+i) 0)→
 (jz d n).run row lim ⟨p,xs.take a⟩=.ok ((),⟨p,xs.take (a+n)⟩)
 |0,a,_,_,_=>rfl
 |n+1,a,hd,ha,h=>by
  have hlen:(xs.take a).length=a:=by rw[List.length_take];omega
  rw[jz,DP.run,if_neg (show¬(xs.take a).length<d by omega),DP.run,if_neg (show¬lim≤(xs.take a).length by omega)]
  have hv:(xs.take a).getD ((xs.take a).length-d) 0=xs.getD a 0:=by
   rw[hlen,dJ (by omega)]
   have:=h 0 (by omega)
   rwa[Nat.add_zero,Nat.add_zero]at this
  show DP.run row lim _ ⟨p,xs.take a++[(xs.take a).getD ((xs.take a).length-d) 0]⟩=_
  rw[hv,oB (by omega),vH hl uk n (a+1) (by omega) (by omega) (fun i hi=>by
   have:=h (i+1) (by omega)
   rw[show a+1-d+i=a-d+(i+1) by omega,show a+1+i=a+(i+1) by omega];exact this),show a+1+n=a+(n+1) by omega]
theorem qe {xs:List Int}{A D:List Int}(hA:aB A=0)(hD:aB D=0)(sU:j8 A 256){row q:List Bool}{lim:Nat}(hl:xs.length≤lim):
 ∀(ts:List Tk)(f a:Nat)(p:List Bool),lJ xs a ts→a≤xs.length→(∀t∈ts,QE A D t)→ts.length<f→row=p++(bY A D ts++(bf A 256++q))→
 (dQ (bx (aj A) []) (bx (aj D) []) f).run row lim ⟨p.length,xs.take a⟩=.ok ((),⟨p.length+(bY A D ts).length+(bf A 256).length,xs⟩)
 |ts,0,a,p,_,_,_,hf,_=>absurd hf (Nat.not_lt_zero _)
 |[],f+1,a,p,ht,ha,hc,hf,hr=>by
  have qJ:xs.take a=xs:=by
   cases ht with
   |done h=>exact List.take_of_length_le h
  rw[dQ,DP.run_bind,kU hA sU (p:=p) (q:=q) (by rw[hr];rfl) rfl]
  simp only
  rw[if_neg (by decide),if_pos trivial,qJ]
  rfl
 |t::ts,f+1,a,p,ht,ha,hc,hf,hr=>by
  cases ht with
  |step bh aF lL=>
  have CI:=hc t List.mem_cons_self
  have ih:=fun(a:Nat) (p:List Bool) h1 h2 h3=>qe hA hD sU (row:=row) (q:=q) hl ts f a p h1 h2 (fun t ht=>hc t (List.mem_cons_of_mem _ ht)) (by simp only[List.length_cons]at hf;omega) h3
  have kH:bY A D (t::ts)=uW A D t++bY A D ts:=by unfold bY;rw[List.flatMap_cons]
  rw[kH]at hr⊢
  rw[dQ,DP.run_bind]
  by_cases hz:t.l=0
  ·obtain⟨b1,b2,b3⟩:=CI.one hz
   have hB:uW A D t=bf A t.b:=by unfold uW;rw[if_pos hz]
   rw[hB]at hr⊢
   rw[hz]at lL
   have W7:=(aF.one hz).1
   have hlen:(xs.take a).length=a:=by rw[List.length_take];omega
   rw[kU hA b3 (p:=p) (q:=bY A D ts++(bf A 256++q)) (by rw[hr];simp only[List.append_assoc]) rfl]
   simp only
   rw[if_pos b2,DP.run,if_neg (show¬lim≤(xs.take a).length by omega)]
   show DP.run row lim _ ⟨p.length+(bf A t.b).length,xs.take a++[t.b]⟩=_
   rw[W7,oB bh,←W7]
   have:=ih (a+1) (p++bf A t.b) lL (by omega) (by rw[hr];simp only[List.append_assoc])
   rw[List.length_append]at this
   rw[this,List.length_append]
   simp only[Nat.add_assoc]
  ·obtain⟨c1,c2,c3,c4,c5,c6⟩:=CI.rep hz
   obtain⟨_,r1,r2,r3,r4,r5⟩:=aF.rep hz
   obtain⟨l1,l2,l3,l4,l5⟩:=gN ⟨c1,c2⟩
   have hB:uW A D t=bf A ((bp t.l).1:Nat)++(bitsOf (((bp t.l).2.1:Nat):Int) (bp t.l).2.2++(bf D ((bj (t.d-1) 2).1:Nat)++bitsOf (((bj (t.d-1) 2).2.1:Nat):Int) (bj (t.d-1) 2).2.2)):=by unfold uW;rw[if_neg hz]
   rw[hB]at hr⊢
   have Bi:row=p++(bf A ((bp t.l).1:Nat)++(bitsOf (((bp t.l).2.1:Nat):Int) (bp t.l).2.2++(bf D ((bj (t.d-1) 2).1:Nat)++(bitsOf (((bj (t.d-1) 2).2.1:Nat):Int) (bj (t.d-1) 2).2.2++(bY A D ts++(bf A 256++q)))))):=by
    rw[hr];simp only[List.append_assoc]
   have hlen:(xs.take a).length=a:=by rw[List.length_take];omega
   obtain⟨_,f2,f3,_⟩:=gS (v:=t.d-1) (.inl rfl) (by omega)
   have h2:(bp t.l).1≥257:=l3
   rw[kU hA c5 (p:=p) Bi rfl]
   simp only
   rw[if_neg (by omega),if_neg (by omega),if_neg (by omega),DP.run_bind]
   have UU:row=(p++bf A ((bp t.l).1:Nat))++(bitsOf (((bp t.l).2.1:Nat):Int) (bp t.l).2.2++(bf D ((bj (t.d-1) 2).1:Nat)++(bitsOf (((bj (t.d-1) 2).2.1:Nat):Int) (bj (t.d-1) 2).2.2++(bY A D ts++(bf A 256++q))))):=by
    rw[Bi];simp only[List.append_assoc]
   have e2:=I3 (lim:=lim) (o:=xs.take a) ⟨c1,c2⟩ UU
   rw[List.length_append]at e2
   rw[e2]
   simp only
   have Wp:row=(p++bf A ((bp t.l).1:Nat)++bitsOf (((bp t.l).2.1:Nat):Int) (bp t.l).2.2)++(bf D ((bj (t.d-1) 2).1:Nat)++(bitsOf (((bj (t.d-1) 2).2.1:Nat):Int) (bj (t.d-1) 2).2.2++(bY A D ts++(bf A 256++q)))):=by
    rw[Bi];simp only[List.append_assoc]
   rw[DP.run_bind,kU hD c6 (p:=p++bf A ((bp t.l).1:Nat)++bitsOf (((bp t.l).2.1:Nat):Int) (bp t.l).2.2) Wp (by simp only[List.length_append,ak])]
   simp only
   rw[if_neg (by omega),Int.toNat_natCast,DP.run_bind]
   have hr4:row=(p++bf A ((bp t.l).1:Nat)++bitsOf (((bp t.l).2.1:Nat):Int) (bp t.l).2.2++bf D ((bj (t.d-1) 2).1:Nat))++(bitsOf (((bj (t.d-1) 2).2.1:Nat):Int) (bj (t.d-1) 2).2.2++(bY A D ts++(bf A 256++q))):=by
    rw[Bi];simp only[List.append_assoc]
   rw[yC (v:=t.d-1) (.inl rfl) (by omega) hr4 (by simp only[List.length_append,ak])]
   simp only
   have ed:(1:Int)+((t.d-1:Nat):Int)=(t.d:Int):=by omega
   rw[ed,DP.run,if_neg (show¬((xs.take a).length:Int)<(t.d:Int) by omega),Int.toNat_natCast,Int.toNat_natCast,DP.run_bind,vH hl r2 t.l a r3 aF.le.2 r5]
   simp only
   have aal:max t.l 1=t.l:=by omega
   rw[aal]at lL
   have:=ih (a+t.l) (p++bf A ((bp t.l).1:Nat)++bitsOf (((bp t.l).2.1:Nat):Int) (bp t.l).2.2++bf D ((bj (t.d-1) 2).1:Nat)++bitsOf (((bj (t.d-1) 2).2.1:Nat):Int) (bj (t.d-1) 2).2.2) lL aF.le.2 (by rw[Bi];simp only[List.append_assoc])
   simp only[List.length_append,ak]at this⊢
   rw[this]
   simp only[Nat.add_assoc]
end Go.Proofs.Ytibadaomjlkoaaa
open Go.RowKit
namespace Go.Proofs.Ytibadaomjlkoaaa
set_option maxRecDepth 10000
theorem jm {L:List Int}(he:aB L=0):aA L=((aA L).1,0)∧(aA L).1.length=L.length:=by
 unfold aA
 rw[if_pos he]
 exact⟨rfl,by simp only[fo,List.length_replicate]⟩
theorem lD {L:List Int}(he:aB L=0){row:List Bool}{s k:Nat}{ex:Int}(h:j8 L (s:Int))(hk:k≤24)(hex:ex<2^k)(hr:row.length+15+k≤8388608):
 codeF row (aA L).1 L s ex (k:Int)=row++(bf L s++bitsOf ex k):=by
 have hb:=qV he h
 have hl:=j9 h
 have h4:=h.2.2
 rw[Int.toNat_natCast]at hb h4
 unfold codeF
 obtain⟨m,hm⟩:∃m:Nat,L.getD s 0=(m:Int):=⟨(L.getD s 0).toNat,by omega⟩
 have hs:bf L (s:Int)=bitsOf ((aA L).1.getD s 0) m:=by unfold bf;rw[Int.toNat_natCast,hm,Int.toNat_natCast]
 rw[hm,Int.toNat_natCast]at hb
 rw[hm]at h4
 rw[hm,Af (by omega) hb.2 (by omega)]
 simp only
 rw[Af hk hex (by rw[List.length_append,ak];omega),hs,List.append_assoc]
section
variable{K Kp:AV→AH→Prop}{row:List Bool}{g c:Nat}{ts:List Tk}{gt ct:Nat}{A:List Int}{ga ca:Nat}{D:List Int}{gd cd:Nat}
theorem wO (E:AH)(i:Nat){o:Bool}{g5 co c3 s k:Nat}{ex:Int}(hi:E[i]?=some (.one o g5 (.ints .u16 (aA A).1 co)))(he:aB A=0)(hs:j8 A (s:Int))(hk:k≤24)(hex:0≤ex∧ex<2^k)(hr:row.length+15+k≤8388608)(hc:(aU row).length≤c)
 (lN:(bu [.own 0,.own 1,.own 2,.own 3,.own 4,.cP (i+5) g5 0]&&AV.nq [.own 0,.own 1,.own 2,.own 3,.own 4,.cP (i+5) g5 0] [.ptr 0 0 0,.sl 5 0 0 (aA A).1.length c3,.sl 3 ga 0 A.length ca,.agg [.int .i64 (s:Int),.int .i64 ex,.int .i64 (k:Int)]])=true)
 (h:∀g' c',(aU (row++(bf A s++bitsOf ex k))).length≤c'→K (.aE []) (ic (dX ts gt ct A ga ca D gd cd) (row++(bf A s++bitsOf ex k)) g' c'++E)):
 aa Try.prog 48 [.ptr 0 0 0,.sl (i+5) g5 0 (aA A).1.length c3,.sl 3 ga 0 A.length ca,.agg [.int .i64 (s:Int),.int .i64 ex,.int .i64 (k:Int)]] (ic (dX ts gt ct A ga ca D gd cd) row g c++E) K Kp:=by
 have h2:s<A.length:=by have:=hs.2.1;omega
 have qs:=hs.2.2
 rw[Int.toNat_natCast]at qs
 have Xk:0≤A.getD s 0∧A.getD s 0<256:=by omega
 obtain⟨rJ,gm⟩:=qV he hs
 rw[Int.toNat_natCast]at rJ gm
 have hp:=mf (show(A.getD s 0).toNat≤15 by omega)
 have Ve:=mf hk
 have e15:(2:Int)^15=32768:=by decide
 have e24:(2:Int)^24=16777216:=by decide
 replace gm:(aA A).1.getD s 0<65536:=by omega
 have L0:0≤ex∧ex<4294967296:=by omega
 refine aa.lift [.own 0,.own 1,.own 2,.own 3,.own 4,.cP (i+5) g5 0] (EZ (ts:=ts) (gt:=gt) (ct:=ct) (A:=A) (ga:=ga) (ca:=ca) (D:=D) (gd:=gd) (cd:=cd) (row:=row) (g:=g) (c:=c) (cs:=(aA A).1) (c1:=co) (c3:=c3) (s:=s) (ex:=ex) (n:=(k:Int))
  (K:=fun r N=>∃g' c',r=.aE []∧N=ic (dX ts gt ct A ga ca D gd cd) (codeF row (aA A).1 A s ex (k:Int)) g' c'++[.one false 0 (.ints .u16 (aA A).1 co)]∧(aU (codeF row (aA A).1 A s ex (k:Int))).length≤c') (Kp:=fun _ _=>False)
  (by rw[(jm he).2];exact h2) h2 ⟨rJ,gm⟩ Xk L0 (by omega) hc (fun g' c' h1 _=>⟨g',c',rfl,rfl,h1⟩)) rfl lN ⟨⟨rfl,rfl⟩,⟨rfl,rfl⟩,⟨rfl,rfl⟩,⟨rfl,rfl⟩,⟨rfl,rfl⟩,⟨_,_,_,rfl,ao hi,cq.same rfl (fun h=>h)⟩,trivial⟩ ⟨rfl,trivial,fun j=>rfl,trivial,trivial,trivial,trivial⟩ ?_ (fun _ _ h=>h.elim)
 rintro r M' ⟨g',c',rfl,rfl,h1⟩
 refine⟨⟨rfl,rfl,rfl,rfl,rfl,rfl,rfl⟩,?_⟩
 rw[lD he hs hk hex.2 hr]at h1
 have h3:=h g' c' h1
 rw[←lD he hs hk hex.2 hr,←List.append_nil (ic _ _ _ _++E)]at h3
 exact h3
theorem MA (E:AH)(i:Nat){o:Bool}{g5 co c3 s k:Nat}{ex:Int}(hi:E[i]?=some (.one o g5 (.ints .u16 (aA D).1 co)))(he:aB D=0)(hs:j8 D (s:Int))(hk:k≤24)(hex:0≤ex∧ex<2^k)(hr:row.length+15+k≤8388608)(hc:(aU row).length≤c)
 (lN:(bu [.own 0,.own 1,.own 2,.own 3,.own 4,.cP (i+5) g5 0]&&AV.nq [.own 0,.own 1,.own 2,.own 3,.own 4,.cP (i+5) g5 0] [.ptr 0 0 0,.sl 5 0 0 (aA D).1.length c3,.sl 4 gd 0 D.length cd,.agg [.int .i64 (s:Int),.int .i64 ex,.int .i64 (k:Int)]])=true)
 (h:∀g' c',(aU (row++(bf D s++bitsOf ex k))).length≤c'→K (.aE []) (ic (dX ts gt ct A ga ca D gd cd) (row++(bf D s++bitsOf ex k)) g' c'++E)):
 aa Try.prog 48 [.ptr 0 0 0,.sl (i+5) g5 0 (aA D).1.length c3,.sl 4 gd 0 D.length cd,.agg [.int .i64 (s:Int),.int .i64 ex,.int .i64 (k:Int)]] (ic (dX ts gt ct A ga ca D gd cd) row g c++E) K Kp:=by
 have h2:s<D.length:=by have:=hs.2.1;omega
 have qs:=hs.2.2
 rw[Int.toNat_natCast]at qs
 have Xk:0≤D.getD s 0∧D.getD s 0<256:=by omega
 obtain⟨rJ,gm⟩:=qV he hs
 rw[Int.toNat_natCast]at rJ gm
 have hp:=mf (show(D.getD s 0).toNat≤15 by omega)
 have Ve:=mf hk
 have e15:(2:Int)^15=32768:=by decide
 have e24:(2:Int)^24=16777216:=by decide
 replace gm:(aA D).1.getD s 0<65536:=by omega
 have L0:0≤ex∧ex<4294967296:=by omega
 refine aa.lift [.own 0,.own 1,.own 2,.own 3,.own 4,.cP (i+5) g5 0] (EY (ts:=ts) (gt:=gt) (ct:=ct) (A:=A) (ga:=ga) (ca:=ca) (D:=D) (gd:=gd) (cd:=cd) (row:=row) (g:=g) (c:=c) (cs:=(aA D).1) (c1:=co) (c3:=c3) (s:=s) (ex:=ex) (n:=(k:Int))
  (K:=fun r N=>∃g' c',r=.aE []∧N=ic (dX ts gt ct A ga ca D gd cd) (codeF row (aA D).1 D s ex (k:Int)) g' c'++[.one false 0 (.ints .u16 (aA D).1 co)]∧(aU (codeF row (aA D).1 D s ex (k:Int))).length≤c') (Kp:=fun _ _=>False)
  (by rw[(jm he).2];exact h2) h2 ⟨rJ,gm⟩ Xk L0 (by omega) hc (fun g' c' h1 _=>⟨g',c',rfl,rfl,h1⟩)) rfl lN ⟨⟨rfl,rfl⟩,⟨rfl,rfl⟩,⟨rfl,rfl⟩,⟨rfl,rfl⟩,⟨rfl,rfl⟩,⟨_,_,_,rfl,ao hi,cq.same rfl (fun h=>h)⟩,trivial⟩ ⟨rfl,trivial,fun j=>rfl,trivial,trivial,trivial,trivial⟩ ?_ (fun _ _ h=>h.elim)
 rintro r M' ⟨g',c',rfl,rfl,h1⟩
 refine⟨⟨rfl,rfl,rfl,rfl,rfl,rfl,rfl⟩,?_⟩
 rw[lD he hs hk hex.2 hr]at h1
 have h3:=h g' c' h1
 rw[←lD he hs hk hex.2 hr,←List.append_nil (ic _ _ _ _++E)]at h3
 exact h3
end
end Go.Proofs.Ytibadaomjlkoaaa
open Go.RowKit
namespace Go.Proofs.Ytibadaomjlkoaaa
set_option maxRecDepth 10000
theorem Dz (A D:List Int)(l:List Tk){i:Nat}(h:i<l.length):bY A D (l.take (i+1))=bY A D (l.take i)++uW A D (l.getD i default):=by
 rw[List.take_succ_eq_append_getElem h,List.getD_eq_getElem?_getD,List.getElem?_eq_getElem h]
 unfold bY
 rw[List.flatMap_append];simp
section
variable{K Kp:AV→AH→Prop}{row:List Bool}{g c:Nat}{ts:List Tk}{gt ct:Nat}{A:List Int}{ga ca:Nat}{D:List Int}{gd cd:Nat}
theorem UC {X Y:af}{g5 g6:Nat}(hX:X.nb 7)(hY:Y.nb 7):kq 7 (ic (dX ts gt ct A ga ca D gd cd) row g c++[AO.one true g5 X,AO.one true g6 Y]):=⟨rfl,trivial,fun j=>rfl,trivial,trivial,hX,hY,trivial⟩
theorem wH (hA:aB A=0)(hD:aB D=0)(hAb:∀x∈A,0≤x∧x<256)(hDb:∀x∈D,0≤x∧x<256)(Nl:A.length≤2000)(Rm:D.length≤2000)(sU:j8 A 256)(lL:∀t∈ts,QE A D t)(m7:ts.length≤150000)(CI:ts.length≤ct)
 (hr:row.length+48*ts.length+48≤8388608)(hc:(aU row).length≤c)
 (h:∀g' c',(aU (row++(bY A D ts++bf A 256))).length≤c'→K (.aE []) (ic (dX ts gt ct A ga ca D gd cd) (row++(bY A D ts++bf A 256)) g' c')):
 aa Try.prog 43 [.ptr 0 0 0] (ic (dX ts gt ct A ga ca D gd cd) row g c) K Kp:=by
 obtain⟨Zw,T3⟩:=jm hA
 obtain⟨hcD,Zq⟩:=jm hD
 refine aa.bI ?_
 refine SH (fun _=>[0,7]) [] rfl ?_
 refine Qs ?_
 refine wN (i:=3) (ls:=A) rfl rfl Nl hAb fun g5 c5 Jp=>?_
 rw[Zw]
 refine Qs ?_
 refine wN (i:=4) (ls:=D) rfl rfl Rm hDb fun g6 c6 Jo=>?_
 rw[hcD]
 refine Qs ?_
 refine WO.go (σ:=Nat×List Bool×Nat×Nat) (fun(i,r,g,c)=>i≤ts.length∧r=row++bY A D (ts.take i)∧(aU r).length≤c) (fun(i,_)=>ts.length-i)
  (fun(i,r,g,c)=>[(0,.ptr 0 0 0),(2,.sl 5 g5 0 (aA A).1.length c5),(4,.sl 6 g6 0 (aA D).1.length c6),(27,.sl 2 gt 0 ts.length ct),(28,.int .i64 (ts.length:Int)),(29,.int .i64 (i:Int))])
  (fun(i,r,g,c)=>ic (dX ts gt ct A ga ca D gd cd) r g c++[AO.one true g5 (.ints .u16 (aA A).1 c5),AO.one true g6 (.ints .u16 (aA D).1 c6)]) (0,row,g,c) ae mixed (by kernel_rfl)
  ⟨Nat.zero_le _,by show row=row++[];rw[List.append_nil],hc⟩ (aI rfl (aI rfl (aI rfl (aI rfl (aI rfl (aI rfl (trivial))))))) (aI rfl (aI rfl (aI rfl (aI rfl (aI rfl (aI rfl (aI rfl (trivial)))))))) (fun _=>rfl) (fun _=>rfl) (fun _=>UC trivial trivial) ?_
 rintro⟨i,r,g,c⟩ ⟨i1,i2,i3⟩ d
 have fJ:r.length≤row.length+48*i:=by
  rw[i2,List.length_append]
  have:=qS (A:=A) (D:=D) (ts.take i) (fun t ht=>lL t (List.mem_of_mem_take ht))
  rw[List.length_take]at this
  omega
 refine Qs ?_
 refine And.intro (fun q1=>?_) (fun q1=>?_)
 ·have gv:i<ts.length:=by simp only[decide_eq_true_eq]at q1;omega
  have kJ:ts.getD i default∈ts:=by
   rw[List.getD_eq_getElem?_getD,List.getElem?_eq_getElem gv];exact List.getElem_mem _
  have UT:=Dz A D ts gv
  obtain⟨t,ht⟩:∃t,ts.getD i default=t:=⟨_,rfl⟩
  rw[ht]at kJ UT
  have WY:=lL t kJ
  refine Qs ?_
  refine And.intro (fun q2=>?_) (fun q2=>?_)
  ·have q2:((ts.getD i default).l:Int)=0:=of_decide_eq_true q2
   rw[ht]at q2
   have hz:t.l=0:=by omega
   have hb:=WY.one hz
   have W8:0≤(ts.getD (i:Int).toNat default).b∧(ts.getD (i:Int).toNat default).b<256:=by
    show 0≤(ts.getD i default).b∧(ts.getD i default).b<256
    rw[ht];exact⟨hb.1,hb.2.1⟩
   obtain⟨b,hbn⟩:∃b:Nat,(ts.getD (i:Int).toNat default).b=(b:Int):=⟨(ts.getD (i:Int).toNat default).b.toNat,by omega⟩
   have hbt:t.b=(b:Int):=by rw[←ht];exact hbn
   rw[hbt]at hb
   refine Qs ?_
   rw[hbn]
   refine wO [AO.one true g5 (.ints .u16 (aA A).1 c5),AO.one true g6 (.ints .u16 (aA D).1 c6),AO.one true 0 (.cells (ts.getD (i:Int).toNat default).row)] 0 (s:=b) (k:=0) (ex:=0) rfl hA hb.2.2 (by decide) (by decide) (by omega) i3 rfl (fun g' c' h1=>?_)
   have dY:r++(bf A (b:Int)++bitsOf 0 0)=row++bY A D (ts.take (i+1)):=by
    rw[UT,i2,List.append_assoc]
    unfold uW
    rw[if_pos hz,hbt]
    simp[bitsOf]
   rw[dY]at h1⊢
   refine Qs ?_
   refine RO.same (i+1,row++bY A D (ts.take (i+1)),g',c') ⟨gv,rfl,h1⟩ (Nat.sub_lt_sub_left gv (Nat.lt_succ_self i)) (aI rfl (aI rfl (aI rfl (aI rfl (aI rfl (aI rfl (trivial))))))) (aI rfl (aI rfl (aI rfl (aI rfl (aI rfl (aI rfl (aI rfl (trivial))))))))
  ·have q2:¬((ts.getD i default).l:Int)=0:=of_decide_eq_false q2
   rw[ht]at q2
   have hz:¬t.l=0:=by omega
   obtain⟨m1,m2,m3,m4,m5,m6⟩:=WY.rep hz
   have kv:3≤(ts.getD (i:Int).toNat default).l∧(ts.getD (i:Int).toNat default).l≤258:=by
    show 3≤(ts.getD i default).l∧(ts.getD i default).l≤258
    rw[ht];exact⟨m1,m2⟩
   have Qb:1≤(ts.getD (i:Int).toNat default).d∧(ts.getD (i:Int).toNat default).d≤32768:=by
    show 1≤(ts.getD i default).d∧(ts.getD i default).d≤32768
    rw[ht];exact⟨m3,m4⟩
   refine Qs ?_
   refine wK kv ?_
   obtain⟨l1,l2,l3,l4,_⟩:=gN kv
   have bh:bp (ts.getD (i:Int).toNat default).l=bp t.l:=by rw[←ht];rfl
   rw[bh]at l1 l2⊢
   obtain⟨f1,f2,f3,_⟩:=gS (v:=(ts.getD (i:Int).toNat default).d-1) (.inl rfl) (by omega)
   have P8:bj ((ts.getD (i:Int).toNat default).d-1) 2=bj (t.d-1) 2:=by rw[←ht];rfl
   rw[P8]at f1 f2 f3
   have ed:(((ts.getD (i:Int).toNat default).d:Nat):Int)-1=(((ts.getD (i:Int).toNat default).d-1:Nat):Int):=by omega
   have uH:(bitsOf (((bp t.l).2.1:Nat):Int) (bp t.l).2.2).length=(bp t.l).2.2:=ak _ _
   have de:=j9 m5
   refine Qs ?_
   refine wO [AO.one true g5 (.ints .u16 (aA A).1 c5),AO.one true g6 (.ints .u16 (aA D).1 c6),AO.one true 0 (.cells (ts.getD (i:Int).toNat default).row)] 0 (s:=(bp t.l).1) (k:=(bp t.l).2.2) (ex:=(((bp t.l).2.1:Nat):Int)) rfl hA m5 (by omega) ⟨Int.natCast_nonneg _,by exact_mod_cast l1⟩ (by omega) i3 rfl (fun g1 c1 h1=>?_)
   refine Qs ?_
   rw[ed]
   refine AX (by omega) (.inl rfl) ?_
   rw[P8]
   refine Qs ?_
   refine MA [AO.one true g5 (.ints .u16 (aA A).1 c5),AO.one true g6 (.ints .u16 (aA D).1 c6),AO.one true 0 (.cells (ts.getD (i:Int).toNat default).row)] 1 (s:=(bj (t.d-1) 2).1) (k:=(bj (t.d-1) 2).2.2) (ex:=(((bj (t.d-1) 2).2.1:Nat):Int)) rfl hD m6 (by omega) ⟨Int.natCast_nonneg _,by exact_mod_cast f1⟩ (by rw[List.length_append,List.length_append];omega) h1 rfl (fun g2 c2 h2=>?_)
   have dY:r++(bf A (((bp t.l).1:Nat):Int)++bitsOf (((bp t.l).2.1:Nat):Int) (bp t.l).2.2)++(bf D (((bj (t.d-1) 2).1:Nat):Int)++bitsOf (((bj (t.d-1) 2).2.1:Nat):Int) (bj (t.d-1) 2).2.2)=row++bY A D (ts.take (i+1)):=by
    rw[UT,i2]
    unfold uW
    rw[if_neg hz]
    simp only[List.append_assoc]
   rw[dY]at h2⊢
   refine Qs ?_
   refine RO.same (i+1,row++bY A D (ts.take (i+1)),g2,c2) ⟨gv,rfl,h2⟩ (Nat.sub_lt_sub_left gv (Nat.lt_succ_self i)) (aI rfl (aI rfl (aI rfl (aI rfl (aI rfl (aI rfl (trivial))))))) (aI rfl (aI rfl (aI rfl (aI rfl (aI rfl (aI rfl (aI rfl (trivial))))))))
 ·have WQ:i=ts.length:=by simp only[decide_eq_false_iff_not]at q1;omega
  subst WQ
  rw[List.take_length]at i2
  refine Qs ?_
  refine wO [AO.one true g5 (.ints .u16 (aA A).1 c5),AO.one true g6 (.ints .u16 (aA D).1 c6)] 0 (s:=256) (k:=0) (ex:=0) rfl hA sU (by decide) (by decide) (by omega) i3 rfl (fun g' c' h1=>?_)
  have dY:r++(bf A ((256:Nat):Int)++bitsOf 0 0)=row++(bY A D ts++bf A 256):=by
   rw[i2];simp[bitsOf]
  rw[dY]at h1⊢
  refine Qs ?_
  exact⟨ic (dX ts gt ct A ga ca D gd cd) (row++(bY A D ts++bf A 256)) g' c',(aI rfl (aI rfl (aI rfl (aI rfl (aI rfl (trivial)))))),(dX ts gt ct A ga ca D gd cd).ok,rfl,h g' c' h1⟩
end
end Go.Proofs.Ytibadaomjlkoaaa
open Go.RowKit
namespace Go.Proofs.Ytibadaomjlkoaaa
theorem sZ:aB bG=0:=by decide+kernel
theorem zc:aB dC=0:=by decide+kernel
theorem n5 {s:Nat}(h:s<288):j8 bG (s:Int):=by
 have h1:∀s,s<288→1≤bG.getD s 0∧bG.getD s 0≤15:=by decide+kernel
 have h2:bG.length=288:=by decide+kernel
 exact⟨Int.natCast_nonneg _,by omega,by rw[Int.toNat_natCast];exact(h1 s h).1,by rw[Int.toNat_natCast];exact(h1 s h).2⟩
theorem Mm {s:Nat}(h:s<32):j8 dC (s:Int):=by
 have h1:∀s,s<32→1≤dC.getD s 0∧dC.getD s 0≤15:=by decide+kernel
 have h2:dC.length=32:=by decide+kernel
 exact⟨Int.natCast_nonneg _,by omega,by rw[Int.toNat_natCast];exact(h1 s h).1,by rw[Int.toNat_natCast];exact(h1 s h).2⟩
theorem sX {xs:List Int}(hb:∀x∈xs,0≤x∧x<256){a:Nat}(ha:a<xs.length):0≤xs.getD a 0∧xs.getD a 0<256:=by
 refine hb _ ?_
 rw[List.getD_eq_getElem?_getD,List.getElem?_eq_getElem ha]
 exact List.getElem_mem _
theorem nh.fixed {xs:List Int}{a:Nat}{t:Tk}(hb:∀x∈xs,0≤x∧x<256)(ha:a<xs.length)(h:nh xs a t):QE bG dC t:=by
 refine⟨fun hz=>?_,fun hz=>?_⟩
 ·have h1:=(h.one hz).1
  have h2:=sX hb ha
  rw[←h1]at h2
  obtain⟨b,W8⟩:∃b:Nat,t.b=(b:Int):=⟨t.b.toNat,by omega⟩
  rw[W8]at h2⊢
  exact⟨h2.1,h2.2,n5 (by omega)⟩
 ·obtain⟨_,r1,r2,r3,r4,_⟩:=h.rep hz
  have hl:3≤t.l∧t.l≤258:=⟨r1,h.le.1⟩
  have h4:=(gN hl).2.2.2.1
  have h5:=(gS (v:=t.d-1) (.inl rfl) (by omega)).2.2.1
  exact⟨hl.1,hl.2,r2,r4,n5 (by omega),Mm (by omega)⟩
theorem lJ.all {xs:List Int}{P:Tk→Prop}(hP:∀a t,a<xs.length→nh xs a t→P t):∀{ts:List Tk}{a:Nat},lJ xs a ts→∀t∈ts,P t
 |[],_,_,t,ht=>by cases ht
 |t::ts,a,.step h1 h2 h3,u,hu=>by
  rcases List.mem_cons.1 hu with rfl|hu
  ·exact hP a _ h1 h2
  ·exact lJ.all hP h3 u hu
theorem lJ.length_le {xs:List Int}:∀{ts:List Tk}{a:Nat},lJ xs a ts→a≤xs.length→a+ts.length≤xs.length
 |[],a,_,h=>h
 |t::ts,a,.step h1 h2 h3,h=>by
  have:=lJ.length_le h3 (by have:=h2.le;omega)
  simp only[List.length_cons]
  omega
theorem pY {xs:List Int}(hb:∀x∈xs,0≤x∧x<256):∀t∈cI xs,QE bG dC t:=lJ.all (fun a t h1 h2=>h2.fixed hb h1) (lP xs)
theorem qR (xs:List Int):(cI xs).length≤xs.length:=by
 have:=(lP xs).length_le (Nat.zero_le _)
 omega
def cy (ts:List Tk):List Bool:=bitsOf 3 3++(bY bG dC ts++bf bG 256)
theorem Bf:1000000<FU:=by unfold FU;decide
theorem vI:gJ 1=dQ (bx (aj bG) []) (bx (aj dC) []) FU:=by
 unfold gJ KV
 rw[if_neg (by decide),if_pos rfl]
theorem Mk {xs:List Int}(hb:∀x∈xs,0≤x∧x<256)(hx:xs.length≤1000000){row p q:List Bool}{lim:Nat}(hl:xs.length≤lim)(hr:row=p++(bY bG dC (cI xs)++(bf bG 256++q))){F:Nat}(hF:1000000<F):
 (dQ (bx (aj bG) []) (bx (aj dC) []) F).run row lim ⟨p.length,[]⟩=.ok ((),⟨p.length+(bY bG dC (cI xs)).length+(bf bG 256).length,xs⟩):=by
 have hs:=qe (xs:=xs) sZ zc (n5 (s:=256) (by omega)) (row:=row) (q:=q) hl (cI xs) F 0 p (lP xs) (Nat.zero_le _) (pY hb) (Nat.lt_of_le_of_lt (Nat.le_trans (qR xs) hx) hF) hr
 rw[List.take_zero]at hs
 exact hs
theorem Jw {xs:List Int}(hb:∀x∈xs,0≤x∧x<256)(hx:xs.length≤1000000){row p q:List Bool}{lim:Nat}(hl:xs.length≤lim)(hr:row=p++(bY bG dC (cI xs)++(bf bG 256++q))):
 (gJ 1).run row lim ⟨p.length,[]⟩=.ok ((),⟨p.length+(bY bG dC (cI xs)).length+(bf bG 256).length,xs⟩):=by
 rw[vI]
 exact Mk hb hx hl hr Bf
theorem sA {row p q:List Bool}{lim f:Nat}{last k:Int}{s s':DS}(hl:0≤last∧last<2)(hk:0≤k∧k<4)(hr:row=p++(bitsOf last 1++(bitsOf k 2++q)))(ha:s.a=p.length)
 (hB:(gJ k).run row lim ⟨s.a+3,s.out⟩=.ok ((),s')):(il (f+1)).run row lim s=if last=0 then(il f).run row lim s' else .ok ((),s'):=by
 have e1:(2:Int)^1=2:=by decide
 have e2:(2:Int)^2=4:=by decide
 rw[il,DP.dx (v:=last) (n:=1) hr ha hl.1 (by rw[e1];exact hl.2),
  DP.dx (p:=p++bitsOf last 1) (v:=k) (n:=2) (q:=q) (by rw[hr];simp only[List.append_assoc]) (by rw[List.length_append,ak,←ha]) hk.1 (by rw[e2];exact hk.2),DP.run_bind]
 simp only
 rw[show s.a+1+2=s.a+3 from rfl,hB]
 simp only
 split
 ·rfl
 ·rfl
theorem Qk {xs:List Int}(hb:∀x∈xs,0≤x∧x<256)(hx:xs.length≤1000000){row q:List Bool}{lim f:Nat}(hl:xs.length≤lim)(hr:row=cy (cI xs)++q):
 (il (f+1)).run row lim ⟨0,[]⟩=.ok ((),⟨(cy (cI xs)).length,xs⟩):=by
 have h3:bitsOf 3 3=bitsOf 1 1++bitsOf 1 2:=by decide
 have Bi:row=[]++(bitsOf 1 1++(bitsOf 1 2++(bY bG dC (cI xs)++(bf bG 256++q)))):=by
  rw[hr,cy,h3];simp only[List.append_assoc,List.nil_append]
 have Wp:row=bitsOf 3 3++(bY bG dC (cI xs)++(bf bG 256++q)):=by
  rw[hr,cy];simp only[List.append_assoc]
 have hB:=Jw hb hx hl Wp
 have:=sA (f:=f) (last:=1) (k:=1) (s:=⟨0,[]⟩) (by decide) (by decide) Bi rfl hB
 rw[if_neg (by decide)]at this
 rw[this,cy]
 simp only[List.length_append,Nat.add_assoc]
theorem Cz {row:List Bool}{ys zs:List Int}{lim:Nat}{s:DS}(h:∀q f,(il (f+1)).run (row++q) lim ⟨0,[]⟩=.ok ((),s))(hy:∃k,unpack ys=row++k):jJ (ys++zs) lim=.ok ((),s):=by
 obtain⟨k,hk⟩:=hy
 rw[nR,fk,hk,List.append_assoc,show FI=8000000+1 from rfl]
 exact h _ _
theorem Ql {xs:List Int}(hb:∀x∈xs,0≤x∧x<256)(hx:xs.length≤1000000){zs:List Int}{lim:Nat}(hl:xs.length≤lim):
 jJ (bC (cy (cI xs))++zs) lim=.ok ((),⟨(cy (cI xs)).length,xs⟩):=by
 obtain⟨k,hk,h1,h2⟩:=kC (cy (cI xs))
 exact Cz (fun q f=>Qk hb hx hl rfl) ⟨_,h1⟩
end Go.Proofs.Ytibadaomjlkoaaa
open Go.RowKit
namespace Go.Proofs.Ytibadaomjlkoaaa
set_option maxRecDepth 10000
theorem Vw.short {M:AH}{i g c n:Nat}{k:IntKind}{xs:List Int}{l:List AV}(hm:M[i]?=some (.one true g (.ints k xs c))):Vw M (M.set i (.one true g (.ints k (xs.take n) c))) l l:=by
 intro ρ w hs aF
 obtain⟨h1,h2⟩:=lU (x':=.ints k (xs.take n) c) hs hm (Nat.le_refl _) (fun j v hv=>by
  simp only[af.at,Option.map_eq_some_iff]at hv⊢
  obtain⟨z,hz,rfl⟩:=hv
  rw[List.getElem?_take]at hz
  split at hz
  ·exact⟨_,⟨z,hz,rfl⟩,rfl,trivial⟩
  ·cases hz) (fun h=>⟨by rw[h.1];simp,h.2⟩)
 exact⟨ρ,h1,h2,rfl,aF⟩
section
variable{K Kp:AV→AH→Prop}
theorem Jt {n:Nat}(hn:1≤n∧n≤1000000)(h:∀c,n≤c→K (.sl 0 0 0 0 c) [.one true 0 (.ints .u8 [] c)]):aa Try.prog 69 [.ns,.int .i64 (n:Int)] [] K Kp:=by
 refine aa.eS ?_
 refine Ss (fun _=>[]) [] rfl ?_
 refine Qs ?_
 refine And.intro (fun h2=>?_) (fun h2=>?_)
 rotate_left
 ·exfalso;have h2:¬(0:Int)<(n:Int)-(0-0):=of_decide_eq_false h2;omega
 have e:((n:Int)-(0-0)).toNat=n:=by omega
 have hb:0≤(n:Int)-(0-0)∧(n:Int)-(0-0)≤140737488355328∧((n:Int)-(0-0)).toNat*1≤140737488355328:=by omega
 refine Qs ?_
 intro c1 pD
 refine Qs ?_
 refine⟨.sl 0 0 0 0 c1,[.one true 0 (.ints .u8 [] c1)],?_,h c1 (by omega)⟩
 exact Vw.short (M:=[.one true 0 (.ints .u8 (List.replicate ((n:Int)-(0-0)).toNat 0) c1)]) (i:=0) (n:=0) rfl
theorem HK {M:AH}{n:Nat}(hn:1≤n∧n≤1000000)(h:∀c,n≤c→K (.sl M.length 0 0 0 c) (M++[.one true 0 (.ints .u8 [] c)])):aa Try.prog 69 [.ns,.int .i64 (n:Int)] M K Kp:=by
 refine aa.lift [] (Jt (K:=fun r N=>∃c,n≤c∧r=.sl 0 0 0 0 c∧N=[.one true 0 (.ints .u8 [] c)]) (Kp:=fun _ _=>False) hn (fun c hc=>⟨c,hc,rfl,rfl⟩)) rfl rfl trivial trivial ?_ (fun _ _ h=>h.elim)
 rintro r M' ⟨c,hc,rfl,rfl⟩
 exact⟨rfl,h c hc⟩
theorem A0 {xs ys:List Int}{c1 c2 d1 d2:Nat}(hl:1≤xs.length+ys.length∧xs.length+ys.length≤1000000)
 (h:∀g c,xs.length+ys.length≤c→K (.sl 3 g 0 (xs++ys).length c) [.one false 0 (.cells [.sl 1 0 0 xs.length c1,.sl 2 0 0 ys.length c2]),.one false 0 (.ints .u8 xs d1),.one false 0 (.ints .u8 ys d2),.one true g (.ints .u8 (xs++ys) c)]):
 aa Try.prog 41 [.sl 0 0 0 2 2] [.one false 0 (.cells [.sl 1 0 0 xs.length c1,.sl 2 0 0 ys.length c2]),.one false 0 (.ints .u8 xs d1),.one false 0 (.ints .u8 ys d2)] K Kp:=by
 refine Km (fun _=>[]) [] rfl ?_
 refine Qs ?_
 refine WO.rounds 3 ae mixed (by kernel_rfl) ?_
 have e1:(0:Int)+(xs.length:Int)+(ys.length:Int)=((xs.length+ys.length:Nat):Int):=by omega
 refine Qs ?_
 rw[e1]
 refine HK (by omega) fun c hc=>?_
 refine Qs ?_
 refine WO.rounds 3 ae mixed (by kernel_rfl) ?_
 refine Qs ?_
 intro zs dk
 obtain rfl:xs=zs:=by rw[dk];simp
 refine Qs ?_
 intro c3 AK
 refine Qs ?_
 intro zs dk
 obtain rfl:ys=zs:=by rw[dk];simp
 refine Qs ?_
 intro c4 jM
 refine Qs ?_
 have h3:=h 2 c4 (by omega)
 rw[show(xs++ys).length=0+xs.length+ys.length by rw[List.length_append];omega]at h3
 exact h3
theorem AZ {x0 x1 x2 x3:List Int}{c0 c1 c2 c3 d0 d1 d2 d3:Nat}(hl:1≤x0.length+x1.length+x2.length+x3.length∧x0.length+x1.length+x2.length+x3.length≤1000000)
 (h:∀g c,x0.length+x1.length+x2.length+x3.length≤c→K (.sl 5 g 0 (x0++x1++x2++x3).length c) [.one false 0 (.cells [.sl 1 0 0 x0.length c0,.sl 2 0 0 x1.length c1,.sl 3 0 0 x2.length c2,.sl 4 0 0 x3.length c3]),.one false 0 (.ints .u8 x0 d0),.one false 0 (.ints .u8 x1 d1),.one false 0 (.ints .u8 x2 d2),.one false 0 (.ints .u8 x3 d3),.one true g (.ints .u8 (x0++x1++x2++x3) c)]):
 aa Try.prog 41 [.sl 0 0 0 4 4] [.one false 0 (.cells [.sl 1 0 0 x0.length c0,.sl 2 0 0 x1.length c1,.sl 3 0 0 x2.length c2,.sl 4 0 0 x3.length c3]),.one false 0 (.ints .u8 x0 d0),.one false 0 (.ints .u8 x1 d1),.one false 0 (.ints .u8 x2 d2),.one false 0 (.ints .u8 x3 d3)] K Kp:=by
 refine Km (fun _=>[]) [] rfl ?_
 refine Qs ?_
 refine WO.rounds 5 ae mixed (by kernel_rfl) ?_
 have e1:(0:Int)+(x0.length:Int)+(x1.length:Int)+(x2.length:Int)+(x3.length:Int)=((x0.length+x1.length+x2.length+x3.length:Nat):Int):=by omega
 refine Qs ?_
 rw[e1]
 refine HK (by omega) fun c hc=>?_
 refine Qs ?_
 refine WO.rounds 5 ae mixed (by kernel_rfl) ?_
 refine Qs ?_
 intro zs dk
 obtain rfl:x0=zs:=by rw[dk];simp
 refine Qs ?_
 intro b0 Ma
 refine Qs ?_
 intro zs dk
 obtain rfl:x1=zs:=by rw[dk];simp
 refine Qs ?_
 intro b1 rJ
 refine Qs ?_
 intro zs dk
 obtain rfl:x2=zs:=by rw[dk];simp
 refine Qs ?_
 intro b2 gm
 refine Qs ?_
 intro zs dk
 obtain rfl:x3=zs:=by rw[dk];simp
 refine Qs ?_
 intro b3 AL
 refine Qs ?_
 have h3:=h 4 b3 (by omega)
 rw[show(x0++x1++x2++x3).length=0+x0.length+x1.length+x2.length+x3.length by simp only[List.length_append];omega]at h3
 exact h3
end
end Go.Proofs.Ytibadaomjlkoaaa
