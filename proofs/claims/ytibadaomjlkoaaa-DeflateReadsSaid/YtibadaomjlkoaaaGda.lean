import Derived.Test.YtibadaomjlkoaaaGx
set_option linter.unusedVariables false
set_option linter.unusedSimpArgs false
open Go.RowKit
namespace Go.Proofs.Ytibadaomjlkoaaa
set_option maxRecDepth 10000
theorem aa.nG {P:Program}{g:Nat}{args:List AV}{M:AH}{K Kp:AV→AH→Prop}(h:aa P g args M (fun r M'=>∃b,r.MJ=some b∧K (.bo b) M') Kp):aa P g args M K Kp:=by
 unfold aa at*
 refine⟨h.1,fun ρ w hs aF=>Calls.mono (h.2 ρ w hs aF) fun e w' he=>?_⟩
 obtain⟨ρ',M',h1,h2,h3⟩:=he
 cases e with
 |returned v=>
  obtain⟨r,e1,e2,b,h4,h5⟩:=h3
  exact⟨ρ',M',h1,h2,.bo b,by rw[e1,AV.xa ρ' h4];rfl,trivial,h5⟩
 |panicked ch=>exact⟨ρ',M',h1,h2,h3⟩
 |outgrown=>exact h3.elim
structure It where
 w:Int
 k:Int
 u:Nat
 deriving DecidableEq,Inhabited
def iW (a b:It):Bool:=decide (a.w<b.w)||(decide (a.w=b.w)&&decide (a.k<b.k))
abbrev ob (u n:Nat)(cu:Nat→Nat)(x:It):List AV:=[.int .i64 x.w,.int .i64 x.k,.sl u x.u 0 n (cu x.u)]
abbrev gU (u n:Nat)(cu:Nat→Nat)(L:List It):Nat→List AV:=fun j=>ob u n cu (L.getD j default)
def C5 (n:Nat)(cu:Nat→Nat)(x:It):List AV:=[.int .i64 x.w,.int .i64 x.k,.sl 2 x.u 0 n (cu x.u)]
def gI (n:Nat)(cu:Nat→Nat)(L:List It):Nat→List AV:=fun j=>C5 n cu (L.getD j default)
def uF (us:Nat→List Int)(cu:Nat→Nat):Nat→af:=fun r=>.ints .i64 (us r) (cu r)
def qH (n:Nat)(cu:Nat→Nat)(us:Nat→List Int)(m g h hc c:Nat)(L:List It):AH:=[.one true 0 (.cells [.sl 1 g 0 h hc]),.one true g (.cw 3 L.length (gI n cu L) c),.aX false m (uF us cu)]
theorem G9 {n m g h hc c:Nat}{cu:Nat→Nat}{us:Nat→List Int}{L:List It}:kq (qH n cu us m g h hc c L).length (qH n cu us m g h hc c L):=⟨rfl,fun _=>rfl,fun _=>trivial,trivial⟩
def dp (L:List It)(i j:Nat):List It:=(L.set i (L.getD j default)).set j (L.getD i default)
theorem bH (L:List It)(i j:Nat):(dp L i j).length=L.length:=by simp[dp]
section
variable{n m g h hc c:Nat}{cu:Nat→Nat}{us:Nat→List Int}{L:List It}{K Kp:AV→AH→Prop}
theorem su (hK:K (.int .i64 (h:Int)) (qH n cu us m g h hc c L)):aa Try.prog 94 [.sl 1 g 0 h hc] (qH n cu us m g h hc c L) K Kp:=by
 refine R9 (fun _=>[]) [] rfl ?_
 refine Rs ?_
 exact hK
theorem mc {i j:Nat}{vi vj:Int}(Wh:vi=(i:Int))(Z4:vj=(j:Int))(hi:i<h)(hj:j<h)(hh:h≤L.length)(hK:K (.bo (iW (L.getD i default) (L.getD j default))) (qH n cu us m g h hc c L)):
 aa Try.prog 121 [.sl 1 g 0 h hc,.int .i64 vi,.int .i64 vj] (qH n cu us m g h hc c L) K Kp:=by
 subst Wh;subst Z4
 refine aa.nG ?_
 refine NF (fun _=>[1]) [] rfl ?_
 refine Qs ?_
 refine And.intro (fun h1=>?_) (fun h1=>?_)
 ·refine Qs ?_
  refine⟨_,rfl,?_⟩
  have e:iW (L.getD i default) (L.getD j default)=true:=by unfold iW;simp only[Int.toNat_natCast]at h1;rw[h1];rfl
  rw[e]at hK;exact hK
 ·refine Qs ?_
  refine And.intro (fun h2=>?_) (fun h2=>?_)
  ·refine Qs ?_
   refine⟨_,rfl,?_⟩
   have e:iW (L.getD i default) (L.getD j default)=decide ((L.getD i default).k<(L.getD j default).k):=by unfold iW;simp only[Int.toNat_natCast]at h1 h2;rw[h1,h2];simp
   rw[e]at hK;exact hK
  ·refine Qs ?_
   refine⟨_,rfl,?_⟩
   have e:iW (L.getD i default) (L.getD j default)=false:=by unfold iW;simp only[Int.toNat_natCast]at h1 h2;rw[h1,h2];simp
   rw[e]at hK;exact hK
theorem My {b:Bool}{p:Prop}(hb:b=true)(h:p):bK b p:=by subst hb;exact h
theorem Ke (i j:Nat)(hi:i<L.length)(hj:j<L.length):(fun r=>match Nat.beq r j with|true=>dv (match Nat.beq j i with|true=>dv (gI n cu L i) 0 (gI n cu L j)|false=>gI n cu L j) 0 (gI n cu L i)|false=>match Nat.beq r i with|true=>dv (gI n cu L i) 0 (gI n cu L j)|false=>gI n cu L r)=gI n cu (dp L i j):=by
 have key:∀a b:Nat,dv (gI n cu L a) 0 (gI n cu L b)=gI n cu L b:=fun a b=>rfl
 funext r
 have hg:gI n cu (dp L i j) r=if r=j then gI n cu L i else if r=i then gI n cu L j else gI n cu L r:=by
  unfold gI dp
  by_cases h1:r=j
  ·subst h1;rw[if_pos rfl];simp[List.getD_eq_getElem?_getD,hj]
  ·by_cases h2:r=i
   ·subst h2;rw[if_neg h1,if_pos rfl,List.getD_eq_getElem?_getD,List.getElem?_set_ne (Ne.symm h1),List.getElem?_set_self hi];rfl
   ·rw[if_neg h1,if_neg h2];simp[List.getD_eq_getElem?_getD,List.getElem?_set_ne (Ne.symm h1),List.getElem?_set_ne (Ne.symm h2)]
 rw[hg]
 cases h1:Nat.beq r j with
 |true=>
  obtain rfl:=Nat.eq_of_beq_eq_true h1
  rw[if_pos rfl]
  cases Nat.beq r i<;>rfl
 |false=>
  rw[if_neg (Nat.ne_of_beq_eq_false h1)]
  cases h2:Nat.beq r i with
  |true=>
   obtain rfl:=Nat.eq_of_beq_eq_true h2
   rw[if_pos rfl];exact key _ _
  |false=>rw[if_neg (Nat.ne_of_beq_eq_false h2)]
theorem mb {i j:Nat}{vi vj:Int}(Wh:vi=(i:Int))(Z4:vj=(j:Int))(hi:i<h)(hj:j<h)(hh:h≤L.length)(tM:L.length≤c)(hK:K (.aE []) (qH n cu us m g h hc c (dp L i j))):
 aa Try.prog 122 [.sl 1 g 0 h hc,.int .i64 vi,.int .i64 vj] (qH n cu us m g h hc c L) K Kp:=by
 subst Wh;subst Z4
 have lf:i<L.length:=by omega
 have qG:j<L.length:=by omega
 rw[show qH n cu us m g h hc c (dp L i j)=[AO.one true 0 (.cells [.sl 1 g 0 h hc]),AO.one true g (.cw 3 L.length (gI n cu (dp L i j)) c),AO.aX false m (uF us cu)] by unfold qH;rw[bH],←Ke i j lf qG]at hK
 refine ND (fun _=>[1]) [] rfl ?_
 refine Qs ?_
 conv=>whnf
 refine(My ?_ ?_:bK (Nat.ble 3 (match Nat.beq (j:Int).toNat (i:Int).toNat with|true=>dv (gI n cu L (i:Int).toNat) 0 (gI n cu L (j:Int).toNat)|false=>gI n cu L (j:Int).toNat).length) _)
 ·cases Nat.beq (j:Int).toNat (i:Int).toNat<;>rfl
 refine Qs ?_
 exact hK
end
end Go.Proofs.Ytibadaomjlkoaaa
open Go.RowKit
namespace Go.Proofs.Ytibadaomjlkoaaa
set_option maxRecDepth 10000
def j7 (n:Nat)(L:List It)(i:Nat):Nat:=if 2*i+2<n∧iW (L.getD (2*i+2) default) (L.getD (2*i+1) default)=true then 2*i+2 else 2*i+1
def gh:Nat→Nat→List It→Nat→List It
 |0,_,L,_=>L
 |f+1,n,L,i=>if 2*i+1<n then if iW (L.getD (j7 n L i) default) (L.getD i default)=true then gh f n (dp L i (j7 n L i)) (j7 n L i)else L else L
def lx (n:Nat)(L:List It)(i:Nat):List It:=gh (n-i) n L i
theorem o6 {n i:Nat}{L:List It}(h:2*i+1<n):i<j7 n L i∧j7 n L i<n:=by unfold j7;split<;>omega
theorem wJ:∀(f f' n:Nat)(L:List It)(i:Nat),n-i≤f→n-i≤f'→gh f n L i=gh f' n L i
 |0,0,_,_,_,_,_=>rfl
 |0,f'+1,n,L,i,h,_=>by simp only[gh];rw[if_neg (by omega)]
 |f+1,0,n,L,i,_,h=>by simp only[gh];rw[if_neg (by omega)]
 |f+1,f'+1,n,L,i,h,h'=>by
  simp only[gh]
  by_cases h1:2*i+1<n
  ·have hk:=o6 (L:=L) h1
   rw[if_pos h1,if_pos h1,wJ f f' n _ _ (by omega) (by omega)]
  ·rw[if_neg h1,if_neg h1]
theorem Mt (n:Nat)(L:List It)(i:Nat):lx n L i=if 2*i+1<n then if iW (L.getD (j7 n L i) default) (L.getD i default)=true then lx n (dp L i (j7 n L i)) (j7 n L i)else L else L:=by
 unfold lx
 by_cases h1:2*i+1<n
 ·have hk:=o6 (L:=L) h1
  obtain⟨f,hf⟩:∃f,n-i=f+1:=⟨n-i-1,by omega⟩
  rw[if_pos h1,hf,gh,if_pos h1,wJ f (n-j7 n L i) n _ _ (by omega) (Nat.le_refl _)]
 ·rw[if_neg h1]
  cases hf:n-i with
  |zero=>rfl
  |succ f=>simp only[gh];rw[if_neg h1]
theorem zk:∀(f n:Nat)(L:List It)(i:Nat),(gh f n L i).length=L.length
 |0,_,_,_=>rfl
 |f+1,n,L,i=>by
  simp only[gh]
  split
  ·split
   ·rw[zk f,bH]
   ·rfl
  ·rfl
theorem jl (n:Nat)(L:List It)(i:Nat):(lx n L i).length=L.length:=zk _ _ _ _
section
variable{n m g h dz c:Nat}{cu:Nat→Nat}{us:Nat→List Int}{K Kp:AV→AH→Prop}
theorem zi {L:List It}{i0 N:Nat}{vi vN:Int}(Wh:vi=(i0:Int))(hvN:vN=(N:Int))(hi:i0≤N)(hN:N≤h)(hh:h≤L.length)(tM:L.length≤c)(hb:L.length≤1099511627776)(hK:∀b,K (.bo b) (qH n cu us m g h dz c (lx N L i0))):
 aa Try.prog 96 [.jZ 131 (.ptr 0 0 0),.int .i64 vi,.int .i64 vN] (qH n cu us m g h dz c L) K Kp:=by
 subst Wh;subst hvN
 refine aa.nG ?_
 refine R7 (fun _=>[]) [] rfl ?_
 refine Rs ?_
 refine WO.go (σ:=Nat×List It) (fun s=>s.1≤N∧s.2.length=L.length∧lx N s.2 s.1=lx N L i0) (fun s=>N-s.1)
  (fun s=>[(0,.jZ 131 (.ptr 0 0 0)),(1,.int .i64 i0),(2,.int .i64 N),(6,.ff),(7,.int .i64 (s.1:Int))])
  (fun s=>qH n cu us m g h dz c s.2) (i0,L) ae mixed (by kernel_rfl) ⟨hi,rfl,rfl⟩ (aI rfl (aI rfl (aI rfl (aI rfl (aI rfl (trivial)))))) (aI rfl (aI rfl (aI rfl (trivial)))) (fun _=>rfl) (fun _=>rfl) (fun _=>G9) ?_
 rintro⟨i,L'⟩ ⟨h1,h2,h3⟩ d
 simp only at h1 h2 h3
 have hd:=Mt N L' i
 refine Rs ?_
 refine And.intro (fun hc=>?_) (fun hc=>?_)
 ·simp only[decide_eq_true_eq]at hc
  rw[if_neg (by omega),h3]at hd
  refine Qs ?_
  refine⟨_,rfl,?_⟩
  have:=hK (decide ((i0:Int)<i))
  rw[hd]at this
  exact this
 ·simp only[decide_eq_false_iff_not]at hc
  rw[if_pos (by omega)]at hd
  refine Qs ?_
  refine And.intro (fun JY=>?_) (fun JY=>?_)
  ·simp only[decide_eq_true_eq]at JY
   refine Qs ?_
   conv=>whnf
   refine Exists.intro 121 (Exists.intro (some 129) (And.intro (by kernel_rfl) ?_))
   refine Qs ?_
   refine mc (i:=2*i+2) (j:=2*i+1) (L:=L') (by show 2*(i:Int)+1+1=_;omega) (by show 2*(i:Int)+1=_;omega) (show 2*i+2<h by omega) (by omega) (by omega) ?_
   refine Qs ?_
   refine And.intro (fun AK=>?_) (fun AK=>?_)
   ·have hk:j7 N L' i=2*i+2:=by unfold j7;rw[if_pos ⟨by omega,AK⟩]
    refine Qs ?_
    conv=>whnf
    refine Exists.intro 121 (Exists.intro (some 129) (And.intro (by kernel_rfl) ?_))
    refine Qs ?_
    refine mc (i:=2*i+2) (j:=i) (L:=L') (by show 2*(i:Int)+1+1=_;omega) rfl (by omega) (by omega) (by omega) ?_
    rw[hk]at hd
    refine Qs ?_
    refine And.intro (fun hx=>?_) (fun hx=>?_)
    ·rw[if_neg (by simpa using hx),h3]at hd
     refine Qs ?_
     refine⟨_,rfl,?_⟩
     have:=hK (decide ((i0:Int)<i))
     rw[hd]at this
     exact this
    ·rw[if_pos (by simpa using hx),h3]at hd
     refine Qs ?_
     conv=>whnf
     refine Exists.intro 122 (Exists.intro (some 129) (And.intro (by kernel_rfl) ?_))
     refine Qs ?_
     refine mb (i:=i) (j:=2*i+2) (L:=L') rfl (by show 2*(i:Int)+1+1=_;omega) (by omega) (by omega) (by omega) (by omega) ?_
     refine Qs ?_
     refine RO.same (2*i+2,dp L' i (2*i+2)) ⟨by show _≤N;omega,by rw[bH];exact h2,hd.symm⟩ (show N-(2*i+2)<N-i by omega) (And.intro rfl (And.intro rfl (And.intro rfl (And.intro rfl (And.intro ?_ trivial))))) (aI rfl (aI rfl (aI rfl (trivial))))
     show AV.int .i64 (2*(i:Int)+1+1)=AV.int .i64 ((2*i+2:Nat):Int)
     congr 1
   ·have hk:j7 N L' i=2*i+1:=by unfold j7;rw[if_neg (by rintro⟨_,h⟩;rw[h]at AK;cases AK)]
    refine Qs ?_
    conv=>whnf
    refine Exists.intro 121 (Exists.intro (some 129) (And.intro (by kernel_rfl) ?_))
    refine Qs ?_
    refine mc (i:=2*i+1) (j:=i) (L:=L') (by show 2*(i:Int)+1=_;omega) rfl (by omega) (by omega) (by omega) ?_
    rw[hk]at hd
    refine Qs ?_
    refine And.intro (fun hx=>?_) (fun hx=>?_)
    ·rw[if_neg (by simpa using hx),h3]at hd
     refine Qs ?_
     refine⟨_,rfl,?_⟩
     have:=hK (decide ((i0:Int)<i))
     rw[hd]at this
     exact this
    ·rw[if_pos (by simpa using hx),h3]at hd
     refine Qs ?_
     conv=>whnf
     refine Exists.intro 122 (Exists.intro (some 129) (And.intro (by kernel_rfl) ?_))
     refine Qs ?_
     refine mb (i:=i) (j:=2*i+1) (L:=L') rfl (by show 2*(i:Int)+1=_;omega) (by omega) (by omega) (by omega) (by omega) ?_
     refine Qs ?_
     refine RO.same (2*i+1,dp L' i (2*i+1)) ⟨by show _≤N;omega,by rw[bH];exact h2,hd.symm⟩ (show N-(2*i+1)<N-i by omega) (And.intro rfl (And.intro rfl (And.intro rfl (And.intro rfl (And.intro ?_ trivial))))) (aI rfl (aI rfl (aI rfl (trivial))))
     show AV.int .i64 (2*(i:Int)+1)=AV.int .i64 ((2*i+1:Nat):Int)
     congr 1
  ·have hk:j7 N L' i=2*i+1:=by unfold j7;rw[if_neg (by rintro⟨h,_⟩;simp at JY;omega)]
   refine Qs ?_
   conv=>whnf
   refine Exists.intro 121 (Exists.intro (some 129) (And.intro (by kernel_rfl) ?_))
   refine Qs ?_
   refine mc (i:=2*i+1) (j:=i) (L:=L') (by show 2*(i:Int)+1=_;omega) rfl (by omega) (by omega) (by omega) ?_
   rw[hk]at hd
   refine Qs ?_
   refine And.intro (fun hx=>?_) (fun hx=>?_)
   ·rw[if_neg (by simpa using hx),h3]at hd
    refine Qs ?_
    refine⟨_,rfl,?_⟩
    have:=hK (decide ((i0:Int)<i))
    rw[hd]at this
    exact this
   ·rw[if_pos (by simpa using hx),h3]at hd
    refine Qs ?_
    conv=>whnf
    refine Exists.intro 122 (Exists.intro (some 129) (And.intro (by kernel_rfl) ?_))
    refine Qs ?_
    refine mb (i:=i) (j:=2*i+1) (L:=L') rfl (by show 2*(i:Int)+1=_;omega) (by omega) (by omega) (by omega) (by omega) ?_
    refine Qs ?_
    refine RO.same (2*i+1,dp L' i (2*i+1)) ⟨by show _≤N;omega,by rw[bH];exact h2,hd.symm⟩ (show N-(2*i+1)<N-i by omega) (And.intro rfl (And.intro rfl (And.intro rfl (And.intro rfl (And.intro ?_ trivial))))) (aI rfl (aI rfl (aI rfl (trivial))))
    show AV.int .i64 (2*(i:Int)+1)=AV.int .i64 ((2*i+1:Nat):Int)
    congr 1
def iX (n:Nat):Nat→List It→List It
 |0,L=>L
 |i+1,L=>iX n i (lx n L i)
theorem yY (n:Nat):∀(i:Nat)(L:List It),(iX n i L).length=L.length
 |0,_=>rfl
 |i+1,L=>by rw[iX,yY n i,jl]
theorem I7 {L:List It}(hh:h≤L.length)(tM:L.length≤c)(hb:L.length≤1099511627776)(hK:K (.aE []) (qH n cu us m g h dz c (iX h (h/2) L))):
 aa Try.prog 78 [.jZ 131 (.ptr 0 0 0)] (qH n cu us m g h dz c L) K Kp:=by
 have hq:Int.tdiv (h:Int) 2=((h/2:Nat):Int):=by rw[Int.tdiv_eq_ediv_of_nonneg (by omega)];rfl
 refine Sl (fun _=>[]) [] rfl ?_
 refine Qs ?_
 conv=>whnf
 refine Exists.intro 94 (Exists.intro (some 129) (And.intro (by kernel_rfl) ?_))
 refine Qs ?_
 refine su ?_
 refine Rs ?_
 refine WO.go (σ:=Nat×List It) (fun s=>s.1≤h/2∧s.2.length=L.length∧iX h s.1 s.2=iX h (h/2) L) (fun s=>s.1)
  (fun s=>[(0,.jZ 131 (.ptr 0 0 0)),(2,.int .i64 h),(3,.int .i64 ((s.1:Int)-1))])
  (fun s=>qH n cu us m g h dz c s.2) (h/2,L) ae mixed (by kernel_rfl) ⟨Nat.le_refl _,rfl,rfl⟩ (And.intro rfl (And.intro rfl (And.intro ?_ trivial))) (aI rfl (aI rfl (aI rfl (trivial)))) (fun _=>rfl) (fun _=>rfl) (fun _=>G9) ?_
 ·show AV.int .i64 (Int.tdiv (h:Int) 2-1)=AV.int .i64 (((h/2:Nat):Int)-1)
  rw[hq]
 rintro⟨i,L'⟩ ⟨h1,h2,h3⟩ d
 simp only at h1 h2 h3
 refine Rs ?_
 refine And.intro (fun hc=>?_) (fun hc=>?_)
 ·simp only[decide_eq_true_eq]at hc
  obtain⟨j,rfl⟩:∃j,i=j+1:=⟨i-1,by omega⟩
  refine Rs ?_
  refine zi (L:=L') (h:=h) (c:=c) (i0:=j) (N:=h) (by show((j+1:Nat):Int)-1=_;omega) rfl (by omega) (by omega) (by omega) (by omega) (by omega) fun b=>?_
  refine Rs ?_
  refine RO.same (j,lx h L' j) ⟨by show j≤_;omega,by rw[jl];exact h2,h3⟩ (Nat.lt_succ_self j) (And.intro rfl (And.intro rfl (And.intro ?_ trivial))) (aI rfl (aI rfl (aI rfl (trivial))))
  show AV.int .i64 (((j+1:Nat):Int)-1-1)=AV.int .i64 ((j:Int)-1)
  congr 1;omega
 ·simp only[decide_eq_false_iff_not]at hc
  obtain rfl:i=0:=by omega
  refine Rs ?_
  simp only[iX]at h3
  subst h3
  exact hK
end
end Go.Proofs.Ytibadaomjlkoaaa
open Go.RowKit
namespace Go.Proofs.Ytibadaomjlkoaaa
set_option maxRecDepth 10000
def fg (h:Nat)(L:List It):List It:=lx (h-1) (dp L 0 (h-1)) 0
theorem eG (h:Nat)(L:List It):(fg h L).length=L.length:=by unfold fg;rw[jl,bH]
section
variable{n m g h dz c:Nat}{cu:Nat→Nat}{us:Nat→List Int}{K Kp:AV→AH→Prop}
theorem IL {L:List It}(hh:h+1≤L.length)(Qc:h+1≤dz)(hb:L.length≤1099511627776)(hK:K (.jZ 127 (.agg (C5 n cu (L.getD h default)))) (qH n cu us m g h dz c L)):
 aa Try.prog 123 [.ptr 0 0 0] (qH n cu us m g (h+1) dz c L) K Kp:=by
 refine aa.bI ?_
 have e:(((h+1:Nat):Int)-1).toNat=h:=by omega
 refine NC (fun _=>[]) [] rfl ?_
 refine Qs ?_
 refine Exists.intro (qH n cu us m g (((h+1:Nat):Int)-1).toNat dz c L) (And.intro (aI rfl (aI rfl (aI rfl (trivial)))) (And.intro G9 (And.intro rfl ?_)))
 show K (.jZ 127 (.agg (C5 n cu (L.getD (((h+1:Nat):Int)-1).toNat default)))) _
 rw[e]
 exact hK
theorem Je {L:List It}(hh:h+1≤L.length)(tM:L.length≤c)(Qc:h+1≤dz)(hb:L.length≤1099511627776)(hK:K (.jZ 127 (.agg (C5 n cu ((fg (h+1) L).getD h default)))) (qH n cu us m g h dz c (fg (h+1) L))):
 aa Try.prog 97 [.jZ 131 (.ptr 0 0 0)] (qH n cu us m g (h+1) dz c L) K Kp:=by
 refine R6 (fun _=>[]) [] rfl ?_
 refine Qs ?_
 conv=>whnf
 refine Exists.intro 94 (Exists.intro (some 129) (And.intro (by kernel_rfl) ?_))
 refine Qs ?_
 refine su ?_
 refine Qs ?_
 conv=>whnf
 refine Exists.intro 122 (Exists.intro (some 129) (And.intro (by kernel_rfl) ?_))
 refine Qs ?_
 refine mb (i:=0) (j:=h) (L:=L) rfl (by show((h+1:Nat):Int)-1=_;omega) (by omega) (by omega) (by omega) (by omega) ?_
 refine Rs ?_
 refine zi (L:=dp L 0 h) (h:=h+1) (c:=c) (i0:=0) (N:=h) rfl (by show((h+1:Nat):Int)-1=_;omega) (by omega) (by omega) (by rw[bH];omega) (by rw[bH];omega) (by rw[bH];omega) fun b=>?_
 refine Qs ?_
 conv=>whnf
 refine Exists.intro 123 (Exists.intro none (And.intro (by kernel_rfl) ?_))
 refine IL (L:=fg (h+1) L) (by rw[eG];omega) (by omega) (by rw[eG];omega) ?_
 refine Rs ?_
 exact hK
def qO (a g h dz:Nat):AO:=.one true 0 (.cells [.sl a g 0 h dz])
def aO (u n:Nat)(cu:Nat→Nat)(g c:Nat)(L:List It):AO:=.one true g (.cw 3 L.length (gU u n cu L) c)
theorem Y7 {M:AH}{fn q a u h':Nat}{args:List AV}{r0:AV}{L L':List It}(h0:∀K:AV→AH→Prop,K r0 (qH n cu us m g h' dz c L')→aa Try.prog fn args (qH n cu us m g h dz c L) K (fun _ _=>False))
 (hq:M[q]?=some (qO a g h dz))(ha:M[a]?=some (aO u n cu g c L))(hu:M[u]?=some (.aX false m (uF us cu)))(eN:(Nat.beq q a||Nat.beq q u||Nat.beq a u)=false)
 (kz:AV.nq [.own q,.own a,.dE u] args=true)(hK:K (r0.rn [.own q,.own a,.dE u] M.length) ((M.set q (qO a g h' dz)).set a (aO u n cu g c L'))):
 aa Try.prog fn (AV.mX [.own q,.own a,.dE u] M.length args) M K Kp:=by
 simp only[Bool.or_eq_false_iff]at eN
 refine aa.lift [.own q,.own a,.dE u] (h0 (fun r M=>r=r0∧M=qH n cu us m g h' dz c L') ⟨rfl,rfl⟩) rfl
  (by simp[bu,TE.ec,TE.i,eN.1.1,eN.1.2,eN.2,kz]) ⟨⟨hq,rfl⟩,⟨ha,rfl⟩,⟨rfl,_,hu,rfl⟩,trivial⟩ ⟨rfl,fun _=>rfl,fun _=>trivial,trivial⟩ ?_ (fun _ _ h=>h.elim)
 rintro r M' ⟨rfl,rfl⟩
 refine⟨⟨rfl,rfl,rfl,rfl⟩,?_⟩
 rw[←List.append_nil ((M.set q _).set a _)]at hK
 exact hK
theorem NT {M:AH}{q a u:Nat}{L:List It}(hq:M[q]?=some (qO a g h dz))(ha:M[a]?=some (aO u n cu g c L))(hu:M[u]?=some (.aX false m (uF us cu)))(eN:(Nat.beq q a||Nat.beq q u||Nat.beq a u)=false)
 (hK:K (.int .i64 (h:Int)) ((M.set q (qO a g h dz)).set a (aO u n cu g c L))):
 aa Try.prog 94 [.sl a g 0 h dz] M K Kp:=
 Y7 (args:=[.sl 1 g 0 h dz]) (fun K hk=>su hk) hq ha hu eN rfl hK
theorem Hu {M:AH}{q a u:Nat}{L:List It}(hq:M[q]?=some (qO a g h dz))(ha:M[a]?=some (aO u n cu g c L))(hu:M[u]?=some (.aX false m (uF us cu)))(eN:(Nat.beq q a||Nat.beq q u||Nat.beq a u)=false)
 (hh:h≤L.length)(tM:L.length≤c)(hb:L.length≤1099511627776)(hK:K (.aE []) ((M.set q (qO a g h dz)).set a (aO u n cu g c (iX h (h/2) L)))):
 aa Try.prog 78 [.jZ 131 (.ptr q 0 0)] M K Kp:=
 Y7 (args:=[.jZ 131 (.ptr 0 0 0)]) (fun K hk=>I7 hh tM hb hk) hq ha hu eN rfl hK
theorem PY {M:AH}{q a u:Nat}{L:List It}(hq:M[q]?=some (qO a g (h+1) dz))(ha:M[a]?=some (aO u n cu g c L))(hu:M[u]?=some (.aX false m (uF us cu)))(eN:(Nat.beq q a||Nat.beq q u||Nat.beq a u)=false)
 (hh:h+1≤L.length)(tM:L.length≤c)(Qc:h+1≤dz)(hb:L.length≤1099511627776)
 (hK:K (.jZ 127 (.agg (ob u n cu ((fg (h+1) L).getD h default)))) ((M.set q (qO a g h dz)).set a (aO u n cu g c (fg (h+1) L)))):
 aa Try.prog 97 [.jZ 131 (.ptr q 0 0)] M K Kp:=
 Y7 (args:=[.jZ 131 (.ptr 0 0 0)]) (fun K hk=>Je hh tM Qc hb hk) hq ha hu eN rfl hK
theorem Ib {L:List It}(hh:h+1≤L.length)(tM:L.length≤c)(Qc:h+1≤dz)(hb:L.length≤1099511627776)(hK:K (.agg (C5 n cu ((fg (h+1) L).getD h default))) (qH n cu us m g h dz c (fg (h+1) L))):
 aa Try.prog 79 [.ptr 0 0 0] (qH n cu us m g (h+1) dz c L) K Kp:=by
 refine aa.bI ?_
 refine Sk (fun _=>[]) [] rfl ?_
 refine Qs ?_
 refine PY (q:=0) (a:=1) (u:=2) (L:=L) rfl rfl rfl rfl hh tM Qc hb ?_
 refine Qs ?_
 exact Exists.intro (qH n cu us m g h dz c (fg (h+1) L)) (And.intro (aI rfl (aI rfl (aI rfl (trivial)))) (And.intro G9 (And.intro rfl hK)))
theorem Ny {M:AH}{q a u:Nat}{L:List It}(hq:M[q]?=some (qO a g (h+1) dz))(ha:M[a]?=some (aO u n cu g c L))(hu:M[u]?=some (.aX false m (uF us cu)))(eN:(Nat.beq q a||Nat.beq q u||Nat.beq a u)=false)
 (hh:h+1≤L.length)(tM:L.length≤c)(Qc:h+1≤dz)(hb:L.length≤1099511627776)
 (hK:K (.agg (ob u n cu ((fg (h+1) L).getD h default))) ((M.set q (qO a g h dz)).set a (aO u n cu g c (fg (h+1) L)))):
 aa Try.prog 79 [.ptr q 0 0] M K Kp:=
 Y7 (args:=[.ptr 0 0 0]) (fun K hk=>Ib hh tM Qc hb hk) hq ha hu eN rfl hK
theorem r8 {M:AH}{q a u:Nat}{L:List It}(hq:M[q]?=some (qO a g (h+1) dz))(ha:M[a]?=some (aO u n cu g c L))(hu:M[u]?=some (.aX false m (uF us cu)))(eN:(Nat.beq q a||Nat.beq q u||Nat.beq a u)=false)
 (hh:h+1≤L.length)(tM:L.length≤c)(Qc:h+1≤dz)(hb:L.length≤1099511627776)(x:It)(hx:(fg (h+1) L).getD h default=x)(Tz:x.u<m)(hqu:Nat.blt q M.length=true)
 (hK:K (.agg [.int .i64 x.w,.int .i64 x.k,.sl M.length 0 0 n (cu x.u)]) ((M.set q (qO a g h dz)).set a (aO u n cu g c (fg (h+1) L))++[.one false 0 (.ints .i64 (us x.u) (cu x.u))])):
 aa Try.prog 79 [.ptr q 0 0] M K Kp:=by
 refine aa.eS (Ny hq ha hu eN hh tM Qc hb ?_)
 rw[hx]
 simp only[Bool.or_eq_false_iff]at eN
 refine⟨_,_,Vw.pull (i:=u) (g:=x.u) (x:=.ints .i64 (us x.u) (cu x.u)) ?_ ?_,hK⟩
 ·unfold slot
  rw[List.getElem?_set_ne (Nat.ne_of_beq_eq_false eN.2),List.getElem?_set_ne (Nat.ne_of_beq_eq_false eN.1.2),hu]
  simp only[bq,if_pos Tz,uF]
 ·simp[AV.ik,AV.rm,sw]
end
end Go.Proofs.Ytibadaomjlkoaaa
open Go.RowKit
namespace Go.Proofs.Ytibadaomjlkoaaa
set_option maxRecDepth 10000
theorem Vw.cw {M:AH}{i g sz n c:Nat}{get:Nat→List AV}{l:List AV}(get':Nat→List AV)(hm:M[i]?=some (.one true g (.cw sz n get c)))(h:∀r,r<n→get' r=get r):Vw M (M.set i (.one true g (.cw sz n get' c))) l l:=by
 intro ρ w hs aF
 obtain⟨h1,h2⟩:=lU (x':=.cw sz n get' c) hs hm (Nat.le_refl _) (fun k v hv=>by
  have UR:(af.cw sz n get c).at k=some v:=by
   simp only[af.at]at hv⊢
   split at hv
   ·rename_i bh
    rw[if_pos bh,←h _ (Nat.div_lt_of_lt_mul (by rw[Nat.mul_comm];exact bh))];exact hv
   ·cases hv
  refine⟨v,UR,rfl,?_⟩
  rcases hs.holds i g true _ (ao hm)with⟨q,e1,e2⟩|⟨_,e2⟩
  ·obtain⟨c,e,fr,k1,k2,k3,k4⟩:=e2.out rfl
   exact(k3 k v UR).1
  ·exfalso
   simp only[af.at]at UR
   obtain⟨rfl,_⟩:=e2
   simp at UR) (fun h=>h)
 exact⟨ρ,h1,h2,rfl,aF⟩
def xr (n:Nat)(cu:Nat→Nat)(c:Nat)(L:List It):AO:=.one false 0 (.cw 3 L.length (gU 1 n cu L) c)
section
variable{n m c c0:Nat}{cu:Nat→Nat}{us:Nat→List Int}{L:List It}{Kp:AV→AH→Prop}
theorem C4 (hb:L.length≤1000000000):aa Try.prog 93 [.sl 0 0 0 L.length c0] [xr n cu c L,.aX false m (uF us cu)]
 (fun r M=>∃g' c',r=.sl 2 g' 0 L.length c'∧M=[xr n cu c L,.aX false m (uF us cu),aO 1 n cu g' c' L]∧L.length≤c') Kp:=by
 refine aa.eS ?_
 refine Sa (fun _=>[]) [] rfl ?_
 refine Qs ?_
 intro b hb
 refine Qs ?_
 refine And.intro (fun h1=>?_) (fun h1=>?_)
 ·obtain⟨h2,rfl⟩:=hb (by simpa using h1)
  refine Qs ?_
  refine⟨_,_,Vw.nil (x:=.cw 3 L.length (gU 1 n cu L) 0) ⟨h2,rfl⟩,0,0,?_,rfl,by omega⟩
  show AV.sl 2 0 0 0 0=AV.sl 2 0 0 L.length 0
  rw[h2]
 ·refine Qs ?_
  refine And.intro (fun q _=>⟨rfl,rfl⟩) ?_
  refine And.intro ⟨by omega,by show(0+L.length)*40≤_;omega⟩ ?_
  refine Exists.intro (gU 1 n cu L) (And.intro (fun q _=>by rw[if_neg (Nat.not_lt_zero q)];rfl) (fun c1 pD=>?_))
  refine Qs ?_
  refine⟨_,_,Vw.refl _ _,1,c1,?_,?_,by omega⟩
  ·show AV.sl 2 1 0 (0+L.length) c1=_
   rw[Nat.zero_add]
  ·show[xr n cu c L,AO.aX false m (uF us cu),AO.one true 1 (.cw 3 (0+L.length) (gU 1 n cu L) c1)]=_
   rw[Nat.zero_add];rfl
theorem C3 {xs:List Int}(hb:xs.length≤17592186044416){Kp}:
 aa Try.prog 95 [.sl 0 0 0 xs.length c0] [.one false 0 (.ints .i64 xs c)]
  (fun r M=>∃g' c',r=.sl 1 g' 0 xs.length c'∧M=[.one false 0 (.ints .i64 xs c),.one true g' (.ints .i64 xs c')]∧xs.length≤c') Kp:=by
 refine aa.eS ?_
 refine R8 (fun _=>[]) [] rfl ?_
 refine Qs ?_
 intro b hb
 refine Qs ?_
 refine And.intro (fun h1=>?_) (fun h1=>?_)
 ·obtain⟨rfl,rfl⟩:=hb (by simpa using h1)
  refine Qs ?_
  exact⟨_,_,Vw.nil (x:=.ints .i64 [] 0) ⟨rfl,rfl⟩,0,0,rfl,rfl,Nat.le_refl _⟩
 ·refine Qs ?_
  intro ys sP
  obtain rfl:xs=ys:=by rw[sP];simp
  refine Qs ?_
  intro c1 pD
  refine Qs ?_
  refine⟨_,_,Vw.refl _ _,1,c1,?_,rfl,by omega⟩
  show AV.sl 1 1 0 (0+xs.length) c1=_
  rw[Nat.zero_add]
theorem zp {M:AH}{K:AV→AH→Prop}{i g n co:Nat}{o:Bool}{xs:List Int}(hi:M[i]?=some (.one o g (.ints .i64 xs co)))(hn:n=xs.length)(hb:xs.length≤17592186044416)
 (h:∀g' c',xs.length≤c'→K (.sl M.length g' 0 xs.length c') (M++[.one true g' (.ints .i64 xs c')])):aa Try.prog 95 [.sl i g 0 n c] M K Kp:=by
 subst hn
 refine aa.lift [.cP i g 0] (C3 (xs:=xs) (c0:=c) (c:=co) (Kp:=fun _ _=>False) hb) rfl rfl ⟨⟨_,_,_,rfl,ao hi,cq.same rfl (fun h=>h)⟩,trivial⟩ ⟨trivial,trivial⟩ ?_ (fun _ _ h=>h.elim)
 rintro r M' ⟨g',c',rfl,rfl,nU⟩
 exact⟨⟨rfl,rfl⟩,h g' c' nU⟩
def fz (i:Nat)(L:List It):List It:=L.mapIdx fun j x=>if j<i then{x with k:=(j:Int)}else x
theorem eJ (i:Nat)(L:List It):(fz i L).length=L.length:=by simp[fz]
theorem k9 (i:Nat)(L:List It)(j:Nat)(hj:j<L.length):(fz i L).getD j default=if j<i then{L.getD j default with k:=(j:Int)}else L.getD j default:=by
 simp[fz,List.getD_eq_getElem?_getD,hj]
theorem yG {u:Nat}(i:Nat)(L:List It)(r:Nat)(hr:r<L.length)(hi:i<L.length):
 gU u n cu (fz (i+1) L) r=(match Nat.beq r i with|true=>dv (gU u n cu (fz i L) i) 1 [.int .i64 (i:Int)]|false=>gU u n cu (fz i L) r):=by
 cases h:Nat.beq r i with
 |true=>
  obtain rfl:=Nat.eq_of_beq_eq_true h
  show ob u n cu ((fz (r+1) L).getD r default)=dv (ob u n cu ((fz r L).getD r default)) 1 [.int .i64 (r:Int)]
  rw[k9 _ _ _ hr,k9 _ _ _ hr,if_pos (by omega),if_neg (by omega)]
  rfl
 |false=>
  have eN:=Nat.ne_of_beq_eq_false h
  show ob u n cu ((fz (i+1) L).getD r default)=ob u n cu ((fz i L).getD r default)
  rw[k9 _ _ _ hr,k9 _ _ _ hr]
  by_cases h1:r<i
  ·rw[if_pos (by omega),if_pos h1]
  ·rw[if_neg (by omega),if_neg h1]
end
end Go.Proofs.Ytibadaomjlkoaaa
open Go.RowKit
namespace Go.Proofs.Ytibadaomjlkoaaa
set_option maxRecDepth 10000
theorem lh {L:List It}{j:Nat}(h:j<L.length):L.getD j default∈L:=by
 rw[List.getD_eq_getElem?_getD,List.getElem?_eq_getElem h];exact List.getElem_mem h
theorem yN {L:List It}{i j:Nat}(hi:i<L.length)(hj:j<L.length){x:It}(h:x∈dp L i j):x∈L:=by
 unfold dp at h
 rcases List.mem_or_eq_of_mem_set h with h|rfl
 ·rcases List.mem_or_eq_of_mem_set h with h|rfl
  ·exact h
  ·exact lh hj
 ·exact lh hi
theorem yO:∀{f n:Nat}{L:List It}{i:Nat},n≤L.length→∀{x:It},x∈gh f n L i→x∈L
 |0,_,_,_,_,_,h=>h
 |f+1,n,L,i,hn,x,h=>by
  simp only[gh]at h
  split at h
  ·rename_i h1
   have hk:=o6 (L:=L) h1
   split at h
   ·exact yN (by omega) (by omega) (yO (by rw[bH];exact hn) h)
   ·exact h
  ·exact h
theorem yP {n:Nat}{L:List It}{i:Nat}(hn:n≤L.length){x:It}(h:x∈lx n L i):x∈L:=yO hn h
theorem sI {n:Nat}{x:It}:∀(i:Nat){L:List It},n≤L.length→x∈iX n i L→x∈L
 |0,_,_,h=>h
 |i+1,L,hn,h=>yP hn (sI i (by rw[jl];exact hn) h)
theorem iy {h:Nat}{L:List It}(h0:0<h)(hn:h≤L.length){x:It}(hx:x∈fg h L):x∈L:=by
 unfold fg at hx
 exact yN (by omega) (by omega) (yP (by rw[bH];omega) hx)
theorem Co {i:Nat}{L:List It}{x:It}(h:x∈fz i L):∃y∈L,y.w=x.w∧y.u=x.u:=by
 obtain⟨j,hj,rfl⟩:=List.getElem_of_mem h
 have qG:j<L.length:=by simpa[fz]using hj
 refine⟨L[j],List.getElem_mem qG,?_⟩
 simp only[fz,List.getElem_mapIdx]
 split<;>exact⟨rfl,rfl⟩
theorem yH (L:List It):fz 0 L=L:=by
 apply List.ext_getElem?
 intro j
 simp[fz]
def eF:Nat→List It→List It
 |0,_=>[]
 |h+1,L=>(fg (h+1) L).getD h default::eF h (fg (h+1) L)
def cz:List It→List (It×It)
 |a::b::r=>(a,b)::cz r
 |_=>[]
def dV (L:List It):List It:=iX L.length (L.length/2) (fz L.length L)
theorem lS (L:List It):(dV L).length=L.length:=by unfold dV;rw[yY,eJ]
def az (L:List It):List (It×It):=cz (eF L.length (dV L))
def bm (ps:List (It×It)):List It:=ps.mapIdx fun j p=>⟨p.1.w+p.2.w,0,j⟩
def Bh (us:Nat→List Int)(ps:List (It×It))(j:Nat):List Int:=List.zipWith (·+·) (us (ps.getD j default).1.u) (us (ps.getD j default).2.u)
theorem dg (ps:List (It×It)):(bm ps).length=ps.length:=by simp[bm]
theorem IM:∀l:List It,l.length≤1→cz l=[]
 |[],_=>rfl
 |[_],_=>rfl
 |_::_::_,h=>by simp at h
theorem oM:∀(h:Nat)(L:List It),(eF h L).length=h
 |0,_=>rfl
 |h+1,L=>by simp[eF,oM h]
def M7 (m:Nat)(B:Int)(x:It):Prop:=x.u<m∧0≤x.w∧x.w≤B
theorem Bt {us:Nat→List Int}{ps:List (It×It)}{p:It×It}{r:Nat}(h:r<ps.length):Bh us (ps++[p]) r=Bh us ps r:=by
 unfold Bh;simp[List.getD_eq_getElem?_getD,List.getElem?_append_left h]
theorem Bv {us:Nat→List Int}{ps:List (It×It)}{a b:It}:Bh us (ps++[(a,b)]) ps.length=List.zipWith (·+·) (us a.u) (us b.u):=by
 unfold Bh;simp[List.getD_eq_getElem?_getD]
theorem yD {ps:List (It×It)}{p:It×It}{r:Nat}(h:r<ps.length):(bm (ps++[p])).getD r default=(bm ps).getD r default:=by
 unfold bm;rw[List.mapIdx_append,List.getD_eq_getElem?_getD,List.getElem?_append_left (by simpa using h),←List.getD_eq_getElem?_getD]
theorem yE {ps:List (It×It)}{a b:It}:(bm (ps++[(a,b)])).getD ps.length default=⟨a.w+b.w,0,ps.length⟩:=by
 unfold bm;simp[List.getD_eq_getElem?_getD]
theorem D5 {ps:List (It×It)}{r:Nat}(h:r<ps.length):((bm ps).getD r default).u=r:=by
 unfold bm;simp[List.getD_eq_getElem?_getD,h]
structure uQ (n m:Nat)(us:Nat→List Int)(B Bu:Int)(L:List It):Prop where
 len:L.length≤1000000
 items:∀x∈L,M7 m B x
 ul:∀r,r<m→(us r).length=n
 uv:∀r,r<m→∀v∈us r,0≤v∧v≤Bu
 hn:n≤1000000
 hB:B≤2305843009213693952
 Vc:Bu≤2305843009213693952
section
variable{n m c c0:Nat}{cu:Nat→Nat}{us:Nat→List Int}{L:List It}{Kp:AV→AH→Prop}{B Bu:Int}
theorem uu (ok:uQ n m us B Bu L){r:Nat}(hr:r<m){i:Nat}(hi:i<n):0≤(us r).getD i 0∧(us r).getD i 0≤Bu:=by
 have hl:=ok.ul r hr
 have:(us r).getD i 0∈us r:=by
  rw[List.getD_eq_getElem?_getD,List.getElem?_eq_getElem (by omega)];exact List.getElem_mem _
 exact ok.uv r hr _ this
theorem DY (ok:uQ n m us B Bu L):aa Try.prog 77 [.sl 0 0 0 L.length c0] [xr n cu c L,.aX false m (uF us cu)]
 (fun r M=>∃g' c' cv,r=.sl 3 g' 0 (az L).length c'∧M=[xr n cu c L,.aX false m (uF us cu),.aX true (az L).length (uF (Bh us (az L)) cv),aO 2 n cv g' c' (bm (az L))]∧(az L).length≤c') Kp:=by
 have hlen:=ok.len
 refine aa.cQ ?_
 refine Sm (fun _=>[8,9]) [] rfl ?_
 refine Qs ?_
 refine aa.mono (C4 (n:=n) (m:=m) (cu:=cu) (us:=us) (L:=L) (Kp:=fun _ _=>False) (by omega)) ?_ (fun _ _ h=>h.elim)
 rintro r M ⟨gC,cC,rfl,rfl,hcC⟩
 refine Rs ?_
 refine WO.go (σ:=Nat×List It) (fun s=>s.1≤L.length∧s.2=fz s.1 L) (fun s=>L.length-s.1)
  (fun s=>[(2,.ns),(3,.ptr 3 0 0),(14,.int .i64 L.length),(15,.int .i64 (s.1:Int))])
  (fun s=>[xr n cu c L,.aX false m (uF us cu),aO 1 n cu gC cC s.2,qO 2 gC L.length cC]) (0,L) ae mixed (by kernel_rfl) ⟨Nat.zero_le _,(yH L).symm⟩ (aI rfl (aI rfl (aI rfl (aI rfl (trivial))))) (aI rfl (aI rfl (aI rfl (aI rfl (trivial))))) (fun _=>rfl) (fun _=>rfl) (fun _=>⟨fun _=>rfl,fun _=>trivial,fun _=>rfl,rfl,trivial⟩) ?_
 rintro⟨i,L1⟩ ⟨h1,h2⟩ d
 simp only at h1 h2
 have EE:L1.length=L.length:=by rw[h2,eJ]
 refine Rs ?_
 refine And.intro (fun hc=>?_) (fun hc=>?_)
 ·simp only[decide_eq_true_eq]at hc
  refine Qs ?_
  refine RO.mk (i+1,fz (i+1) L) [(2,.ns),(3,.ptr 3 0 0),(14,.int .i64 L.length),(15,.int .i64 ((i:Int)+1))] _ ⟨by show i+1≤_;omega,rfl⟩ (show L.length-(i+1)<L.length-i by omega) (aI rfl (aI rfl (aI rfl (aI rfl (trivial))))) rfl (Vw.cw (i:=2) (gU 1 n cu (fz (i+1) L)) rfl ?_) ?_
  ·intro r hr
   rw[EE]at hr
   have:=yG (u:=1) (n:=n) (cu:=cu) i L r hr (by omega)
   rw[this,h2]
   rfl
  ·refine And.intro rfl (And.intro rfl (And.intro ?_ (And.intro rfl trivial)))
   show aO 1 n cu gC cC (fz (i+1) L)=AO.one true gC (.cw 3 L1.length (gU 1 n cu (fz (i+1) L)) cC)
   unfold aO
   rw[EE,eJ]
 ·simp only[decide_eq_false_iff_not]at hc
  obtain rfl:i=L.length:=by omega
  have tM:L1.length≤cC:=by omega
  refine Rs ?_
  refine Hu (q:=3) (a:=2) (u:=1) (L:=L1) rfl rfl rfl rfl (by omega) tM (by omega) ?_
  have a8:iX L.length (L.length/2) L1=dV L:=by rw[h2];rfl
  rw[a8]
  refine Rs ?_
  refine WO.Dv (σ:=Nat×List It×List (It×It)×Nat×Nat×(Nat→Nat)) (fun(h,Lc,ps,gO,cO,cv)=>Lc.length=L.length∧h≤L.length∧ps++cz (eF h Lc)=az L∧(∀x∈Lc,M7 m B x)∧(bm ps).length≤cO∧2*ps.length+h≤L.length) (fun(h,_,_,_,_,_)=>h)
   (fun(h,Lc,ps,gO,cO,cv)=>[(3,.ptr 3 0 0),(5,.sl 5 gO 0 (bm ps).length cO)])
   (fun(h,Lc,ps,gO,cO,cv)=>[xr n cu c L,.aX false m (uF us cu),aO 1 n cu gC cC Lc,qO 2 gC h cC,.aX true ps.length (uF (Bh us ps) cv),aO 4 n cv gO cO (bm ps)]) (L.length,dV L,[],0,0,fun _=>0) ae mixed (by kernel_rfl)
   [(3,.ptr 3 0 0),(5,.ns)] _ ⟨lS L,Nat.le_refl _,rfl,?_,Nat.zero_le _,by simp⟩ (aI rfl (aI rfl (trivial))) rfl (Vw.trans (Vw.Qo (own:=true) (f:=uF (Bh us []) (fun _=>0))) (Vw.pz (x:=.cw 3 (bm []).length (gU 4 n (fun _=>0) (bm [])) 0) ⟨rfl,rfl⟩ ?_)) (aI rfl (aI rfl (aI rfl (aI rfl (aI rfl (aI rfl (trivial))))))) (fun _=>rfl) (fun _=>rfl) (fun _=>⟨fun _=>rfl,fun _=>trivial,fun _=>rfl,rfl,fun _=>trivial,fun _=>rfl,trivial⟩) ?_
  ·intro x hx
   obtain⟨y,hy,e1,e2⟩:=Co (sI _ (by rw[eJ];exact Nat.le_refl _) hx)
   have:=ok.items y hy
   unfold M7 at this⊢
   rw[←e1,←e2];exact this
  ·exact And.intro (.inl rfl) (And.intro (.inr ⟨rfl,rfl⟩) trivial)
  rintro⟨h,Lc,ps,gO,cO,cv⟩ ⟨i1,i2,i3,i4,i5,i6⟩ d
  refine Rs ?_
  refine NT (q:=3) (a:=2) (u:=1) (L:=Lc) rfl rfl rfl rfl ?_
  refine Rs ?_
  refine And.intro (fun hc=>?_) (fun hc=>?_)
  ·simp only[decide_eq_true_eq]at hc
   obtain⟨h',rfl⟩:∃h',h=h'+2:=⟨h-2,by omega⟩
   have TB:(fg (h'+2) Lc).getD (h'+1) default∈Lc:=iy (by omega) (by omega) (lh (by rw[eG];omega))
   generalize Ur:fg (h'+2) Lc=L2
   have o8:L2.length=Lc.length:=by rw[←Ur,eG]
   have Xm:∀x∈L2,M7 m B x:=fun x hx=>i4 x (iy (by omega) (by omega) (Ur▸hx))
   rw[Ur]at TB
   generalize Dp:L2.getD (h'+1) default=x1
   have TA:(fg (h'+1) L2).getD h' default∈L2:=iy (by omega) (by omega) (lh (by rw[eG];omega))
   generalize HJ:fg (h'+1) L2=L3
   have kv:L3.length=Lc.length:=by rw[←HJ,eG,o8]
   have Qe:∀x∈L3,M7 m B x:=fun x hx=>Xm x (iy (by omega) (by omega) (HJ▸hx))
   rw[HJ]at TA
   generalize Zg:L3.getD h' default=x2
   rw[Dp]at TB
   rw[Zg]at TA
   obtain⟨Zd,k1a,k1b⟩:=i4 x1 TB
   obtain⟨Zc,k2a,k2b⟩:=Xm x2 TA
   have hB:=ok.hB
   have Vc:=ok.Vc
   have hn:=ok.hn
   have LC:=ok.ul _ Zd
   have hu2:=ok.ul _ Zc
   refine Rs ?_
   refine r8 (q:=3) (a:=2) (u:=1) (h:=h'+1) (L:=Lc) rfl rfl rfl rfl (by omega) (by omega) (by omega) (by omega) x1 (by rw[Ur];exact Dp) Zd rfl ?_
   rw[Ur]
   refine Rs ?_
   refine r8 (q:=3) (a:=2) (u:=1) (h:=h') (L:=L2) rfl rfl rfl rfl (by omega) (by omega) (by omega) (by omega) x2 (by rw[HJ];exact Zg) Zc rfl ?_
   rw[HJ]
   refine Rs ?_
   refine And.intro ?_ ?_
   ·refine Rs ?_
    refine zp (i:=6) (xs:=us x1.u) rfl LC.symm (by omega) fun gx cx hcx=>?_
    refine Rs ?_
    refine WO.go (σ:=Nat×List Int) (fun s=>s.1≤n∧s.2.length=n∧(∀j,j<s.1→s.2.getD j 0=(us x1.u).getD j 0+(us x2.u).getD j 0)∧∀j,s.1≤j→s.2.getD j 0=(us x1.u).getD j 0) (fun s=>n-s.1)
     (fun s=>[(3,.ptr 3 0 0),(5,.sl 5 gO 0 (bm ps).length cO),(8,.ptr 11 0 0),(41,.sl 7 0 0 n (cu x2.u)),(42,.int .i64 n),(43,.int .i64 (s.1:Int))])
     (fun s=>[xr n cu c L,.aX false m (uF us cu),aO 1 n cu gC cC L3,qO 2 gC h' cC,.aX true ps.length (uF (Bh us ps) cv),aO 4 n cv gO cO (bm ps),.gone,.one false 0 (.ints .i64 (us x2.u) (cu x2.u)),.gone,.gone,.one true gx (.ints .i64 s.2 cx),.one true 0 (.cells [.int .i64 (x1.w+x2.w),.int .i64 0,.sl 10 gx 0 (us x1.u).length cx])]) (0,us x1.u) ae mixed (by kernel_rfl) ⟨Nat.zero_le _,LC,fun j hj=>absurd hj (Nat.not_lt_zero j),fun _ _=>rfl⟩ (aI rfl (aI rfl (aI rfl (aI rfl (aI rfl (aI rfl (trivial))))))) (aI rfl (aI rfl (aI rfl (aI rfl (aI rfl (aI rfl (aI trivial (aI rfl (aI trivial (aI trivial (aI rfl (aI rfl (trivial))))))))))))) (fun _=>rfl) (fun _=>rfl) (fun _=>⟨fun _=>rfl,fun _=>trivial,fun _=>rfl,rfl,fun _=>trivial,fun _=>rfl,trivial,trivial,trivial,trivial,trivial,rfl,trivial⟩) ?_
    rintro⟨i,ys⟩ ⟨j1,j2,j3,j4⟩ d
    simp only at j1 j2 j3 j4
    refine Rs ?_
    refine And.intro (fun hc=>?_) (fun hc=>?_)
    ·simp only[decide_eq_true_eq]at hc
     have hi:i<n:=by omega
     have b1:=uu ok Zd (i:=i) (by omega)
     have b2:=uu ok Zc (i:=i) (by omega)
     have gQ:=j4 i (Nat.le_refl _)
     have Zn:-9223372036854775808≤ys.getD ((i:Int).toNat+0) 0+(us x2.u).getD ((i:Int).toNat+0) 0∧ys.getD ((i:Int).toNat+0) 0+(us x2.u).getD ((i:Int).toNat+0) 0≤9223372036854775807:=by
      simp only[Int.toNat_natCast,Nat.add_zero];omega
     refine Qs ?_
     refine RO.same (i+1,ys.set ((i:Int).toNat+0) (ys.getD ((i:Int).toNat+0) 0+(us x2.u).getD ((i:Int).toNat+0) 0)) ⟨by show i+1≤n;omega,by simpa using j2,?_,?_⟩ (show n-(i+1)<n-i by omega) (aI rfl (aI rfl (aI rfl (aI rfl (aI rfl (aI rfl (trivial))))))) (aI rfl (aI rfl (aI rfl (aI rfl (aI rfl (aI rfl (aI trivial (aI rfl (aI trivial (aI trivial (aI rfl (aI rfl (trivial)))))))))))))
     ·intro j hj
      simp only[Int.toNat_natCast,Nat.add_zero]
      by_cases LV:j=i
      ·subst LV
       simp only[List.getD_eq_getElem?_getD,List.getElem?_set_self (show j<ys.length by omega)]at gQ⊢
       simp only[Option.getD_some,gQ]
      ·have:=j3 j (by have:j<i+1:=hj;omega)
       simp only[List.getD_eq_getElem?_getD,List.getElem?_set_ne (Ne.symm LV)]at this⊢
       exact this
     ·intro j hj
      have qG:i+1≤j:=hj
      simp only[Int.toNat_natCast,Nat.add_zero]
      have:=j4 j (by omega)
      simp only[List.getD_eq_getElem?_getD,List.getElem?_set_ne (show i≠j by omega)]at this⊢
      exact this
    ·simp only[decide_eq_false_iff_not]at hc
     have Bn:i=n:=by omega
     have sP:ys=List.zipWith (·+·) (us x1.u) (us x2.u):=by
      apply List.ext_getElem
      ·simp;omega
      ·intro j q1 q2
       have:=j3 j (by omega)
       simp only[List.getD_eq_getElem?_getD,List.getElem?_eq_getElem q1,List.getElem?_eq_getElem (show j<(us x1.u).length by omega),List.getElem?_eq_getElem (show j<(us x2.u).length by omega),Option.getD_some]at this
       rw[this,List.getElem_zipWith]
     have Jg:=dg ps
     refine Rs ?_
     refine And.intro (fun q hq=>?_) ?_
     ·match q,hq with
      |0,_=>exact⟨rfl,rfl⟩
     refine And.intro ⟨by show(bm ps).length+1≤_;omega,by show((bm ps).length+1)*40≤_;omega⟩ ?_
     refine Exists.intro (fun q=>if q<ps.length then gU 4 n cv (bm ps) q else[.int .i64 (x1.w+x2.w),.int .i64 0,.sl 10 gx 0 (us x1.u).length cx]) (And.intro (fun q hq=>?_) (fun c1 pD=>?_))
     ·by_cases xM:q<(bm ps).length
      ·rw[if_pos xM]
       show(if q<ps.length then _ else _)=_
       rw[if_pos (by omega)]
      ·have Bj:q<(bm ps).length+1:=hq
       have eW:q-(bm ps).length=0:=by omega
       rw[if_neg xM,eW]
       show(if q<ps.length then _ else _)=_
       rw[if_neg (by omega)]
       rfl
     have wv:(bm ps).length+1≤c1:=pD
     refine Rs ?_
     refine RO.mk (h',L3,ps++[(x1,x2)],gO+1,c1,fun r=>if r=ps.length then cx else cv r) [(3,.ptr 3 0 0),(5,.sl 5 (gO+1) 0 ((bm ps).length+1) c1)] _ ⟨by omega,by omega,?_,Qe,?_,?_⟩ (show h'<h'+2 by omega) (aI rfl (aI rfl (trivial))) rfl
      (Vw.freeze (iu:=4) (k:=10) (o:=5) (uF (Bh us (ps++[(x1,x2)])) (fun r=>if r=ps.length then cx else cv r)) (gU 4 n (fun r=>if r=ps.length then cx else cv r) (bm (ps++[(x1,x2)]))) rfl rfl rfl rfl ?_ ?_ ?_ ?_) ?_
     ·rw[←i3]
      simp only[eF,Ur,HJ,Dp,Zg,cz,List.append_assoc,List.singleton_append]
     ·show(bm (ps++[(x1,x2)])).length≤c1
      rw[dg,List.length_append];simp only[List.length_singleton];omega
     ·show 2*(ps++[(x1,x2)]).length+h'≤L.length
      rw[List.length_append];simp only[List.length_singleton];omega
     ·intro r hr
      show af.ints .i64 _ _=af.ints .i64 _ _
      simp only[Bt hr,if_neg (Nat.ne_of_lt hr)]
     ·show af.ints .i64 _ _=af.ints .i64 ys cx
      simp only[Bv,if_true,sP]
     ·intro r hr
      have Dr:r<(bm ps).length+1:=hr
      show AV.ik _ (ob 4 n _ ((bm (ps++[(x1,x2)])).getD r default))=(if r<ps.length then _ else _)
      by_cases fJ:r<ps.length
      ·rw[if_pos fJ,yD fJ]
       show _=[AV.int .i64 ((bm ps).getD r default).w,AV.int .i64 ((bm ps).getD r default).k,AV.sl 4 ((bm ps).getD r default).u 0 n (cv ((bm ps).getD r default).u)]
       simp only[AV.ik,AV.rm,D5 fJ,bR (show¬(4=4∧r=ps.length) by omega),if_neg (Nat.ne_of_lt fJ)]
      ·obtain rfl:r=ps.length:=by omega
       rw[if_neg fJ,yE]
       simp only[AV.ik,AV.rm,fS,if_true,LC]
     ·show AV.ik _ [AV.ptr 3 0 0,AV.sl 5 (gO+1) 0 (bm (ps++[(x1,x2)])).length c1]=[AV.ptr 3 0 0,AV.sl 5 (gO+1) 0 ((bm ps).length+1) c1]
      rw[dg,List.length_append,Jg]
      rfl
     ·refine And.intro rfl (And.intro rfl (And.intro rfl (And.intro rfl (And.intro ?_ (And.intro ?_ trivial)))))
      ·show AO.aX true (ps++[(x1,x2)]).length _=AO.aX true (ps.length+1) _
       rw[List.length_append];rfl
      ·show aO 4 n _ (gO+1) c1 (bm (ps++[(x1,x2)]))=AO.one true (gO+1) (.cw 3 ((bm ps).length+1) _ c1)
       unfold aO
       rw[dg (ps++[(x1,x2)]),List.length_append,Jg];rfl
   ·refine Rs ?_
    refine zp (i:=6) (xs:=us x1.u) rfl LC.symm (by omega) fun gx cx hcx=>?_
    refine Rs ?_
    refine WO.go (σ:=Nat×List Int) (fun s=>s.1≤n∧s.2.length=n∧(∀j,j<s.1→s.2.getD j 0=(us x1.u).getD j 0+(us x2.u).getD j 0)∧∀j,s.1≤j→s.2.getD j 0=(us x1.u).getD j 0) (fun s=>n-s.1)
     (fun s=>[(3,.ptr 3 0 0),(5,.sl 5 gO 0 (bm ps).length cO),(8,.ptr 10 0 0),(41,.sl 7 0 0 n (cu x2.u)),(42,.int .i64 n),(43,.int .i64 (s.1:Int))])
     (fun s=>[xr n cu c L,.aX false m (uF us cu),aO 1 n cu gC cC L3,qO 2 gC h' cC,.aX true ps.length (uF (Bh us ps) cv),aO 4 n cv gO cO (bm ps),.gone,.one false 0 (.ints .i64 (us x2.u) (cu x2.u)),.gone,.gone,.one true 0 (.cells [.int .i64 (x1.w+x2.w),.int .i64 0,.sl 11 gx 0 (us x1.u).length cx]),.one true gx (.ints .i64 s.2 cx)]) (0,us x1.u) ae mixed (by kernel_rfl) ⟨Nat.zero_le _,LC,fun j hj=>absurd hj (Nat.not_lt_zero j),fun _ _=>rfl⟩ (aI rfl (aI rfl (aI rfl (aI rfl (aI rfl (aI rfl (trivial))))))) (aI rfl (aI rfl (aI rfl (aI rfl (aI rfl (aI rfl (aI trivial (aI rfl (aI trivial (aI trivial (aI rfl (aI rfl (trivial))))))))))))) (fun _=>rfl) (fun _=>rfl) (fun _=>⟨fun _=>rfl,fun _=>trivial,fun _=>rfl,rfl,fun _=>trivial,fun _=>rfl,trivial,trivial,trivial,trivial,rfl,trivial,trivial⟩) ?_
    rintro⟨i,ys⟩ ⟨j1,j2,j3,j4⟩ d
    simp only at j1 j2 j3 j4
    refine Rs ?_
    refine And.intro (fun hc=>?_) (fun hc=>?_)
    ·simp only[decide_eq_true_eq]at hc
     have hi:i<n:=by omega
     have b1:=uu ok Zd (i:=i) (by omega)
     have b2:=uu ok Zc (i:=i) (by omega)
     have gQ:=j4 i (Nat.le_refl _)
     have Zn:-9223372036854775808≤ys.getD ((i:Int).toNat+0) 0+(us x2.u).getD ((i:Int).toNat+0) 0∧ys.getD ((i:Int).toNat+0) 0+(us x2.u).getD ((i:Int).toNat+0) 0≤9223372036854775807:=by
      simp only[Int.toNat_natCast,Nat.add_zero];omega
     refine Qs ?_
     refine RO.same (i+1,ys.set ((i:Int).toNat+0) (ys.getD ((i:Int).toNat+0) 0+(us x2.u).getD ((i:Int).toNat+0) 0)) ⟨by show i+1≤n;omega,by simpa using j2,?_,?_⟩ (show n-(i+1)<n-i by omega) (aI rfl (aI rfl (aI rfl (aI rfl (aI rfl (aI rfl (trivial))))))) (aI rfl (aI rfl (aI rfl (aI rfl (aI rfl (aI rfl (aI trivial (aI rfl (aI trivial (aI trivial (aI rfl (aI rfl (trivial)))))))))))))
     ·intro j hj
      simp only[Int.toNat_natCast,Nat.add_zero]
      by_cases LV:j=i
      ·subst LV
       simp only[List.getD_eq_getElem?_getD,List.getElem?_set_self (show j<ys.length by omega)]at gQ⊢
       simp only[Option.getD_some,gQ]
      ·have:=j3 j (by have:j<i+1:=hj;omega)
       simp only[List.getD_eq_getElem?_getD,List.getElem?_set_ne (Ne.symm LV)]at this⊢
       exact this
     ·intro j hj
      have qG:i+1≤j:=hj
      simp only[Int.toNat_natCast,Nat.add_zero]
      have:=j4 j (by omega)
      simp only[List.getD_eq_getElem?_getD,List.getElem?_set_ne (show i≠j by omega)]at this⊢
      exact this
    ·simp only[decide_eq_false_iff_not]at hc
     have Bn:i=n:=by omega
     have sP:ys=List.zipWith (·+·) (us x1.u) (us x2.u):=by
      apply List.ext_getElem
      ·simp;omega
      ·intro j q1 q2
       have:=j3 j (by omega)
       simp only[List.getD_eq_getElem?_getD,List.getElem?_eq_getElem q1,List.getElem?_eq_getElem (show j<(us x1.u).length by omega),List.getElem?_eq_getElem (show j<(us x2.u).length by omega),Option.getD_some]at this
       rw[this,List.getElem_zipWith]
     have Jg:=dg ps
     refine Rs ?_
     refine And.intro (fun q hq=>?_) ?_
     ·match q,hq with
      |0,_=>exact⟨rfl,rfl⟩
     refine And.intro ⟨by show(bm ps).length+1≤_;omega,by show((bm ps).length+1)*40≤_;omega⟩ ?_
     refine Exists.intro (fun q=>if q<ps.length then gU 4 n cv (bm ps) q else[.int .i64 (x1.w+x2.w),.int .i64 0,.sl 11 gx 0 (us x1.u).length cx]) (And.intro (fun q hq=>?_) (fun c1 pD=>?_))
     ·by_cases xM:q<(bm ps).length
      ·rw[if_pos xM]
       show(if q<ps.length then _ else _)=_
       rw[if_pos (by omega)]
      ·have Bj:q<(bm ps).length+1:=hq
       have eW:q-(bm ps).length=0:=by omega
       rw[if_neg xM,eW]
       show(if q<ps.length then _ else _)=_
       rw[if_neg (by omega)]
       rfl
     have wv:(bm ps).length+1≤c1:=pD
     refine Rs ?_
     refine RO.mk (h',L3,ps++[(x1,x2)],gO+1,c1,fun r=>if r=ps.length then cx else cv r) [(3,.ptr 3 0 0),(5,.sl 5 (gO+1) 0 ((bm ps).length+1) c1)] _ ⟨by omega,by omega,?_,Qe,?_,?_⟩ (show h'<h'+2 by omega) (aI rfl (aI rfl (trivial))) rfl
      (Vw.freeze (iu:=4) (k:=11) (o:=5) (uF (Bh us (ps++[(x1,x2)])) (fun r=>if r=ps.length then cx else cv r)) (gU 4 n (fun r=>if r=ps.length then cx else cv r) (bm (ps++[(x1,x2)]))) rfl rfl rfl rfl ?_ ?_ ?_ ?_) ?_
     ·rw[←i3]
      simp only[eF,Ur,HJ,Dp,Zg,cz,List.append_assoc,List.singleton_append]
     ·show(bm (ps++[(x1,x2)])).length≤c1
      rw[dg,List.length_append];simp only[List.length_singleton];omega
     ·show 2*(ps++[(x1,x2)]).length+h'≤L.length
      rw[List.length_append];simp only[List.length_singleton];omega
     ·intro r hr
      show af.ints .i64 _ _=af.ints .i64 _ _
      simp only[Bt hr,if_neg (Nat.ne_of_lt hr)]
     ·show af.ints .i64 _ _=af.ints .i64 ys cx
      simp only[Bv,if_true,sP]
     ·intro r hr
      have Dr:r<(bm ps).length+1:=hr
      show AV.ik _ (ob 4 n _ ((bm (ps++[(x1,x2)])).getD r default))=(if r<ps.length then _ else _)
      by_cases fJ:r<ps.length
      ·rw[if_pos fJ,yD fJ]
       show _=[AV.int .i64 ((bm ps).getD r default).w,AV.int .i64 ((bm ps).getD r default).k,AV.sl 4 ((bm ps).getD r default).u 0 n (cv ((bm ps).getD r default).u)]
       simp only[AV.ik,AV.rm,D5 fJ,bR (show¬(4=4∧r=ps.length) by omega),if_neg (Nat.ne_of_lt fJ)]
      ·obtain rfl:r=ps.length:=by omega
       rw[if_neg fJ,yE]
       simp only[AV.ik,AV.rm,fS,if_true,LC]
     ·show AV.ik _ [AV.ptr 3 0 0,AV.sl 5 (gO+1) 0 (bm (ps++[(x1,x2)])).length c1]=[AV.ptr 3 0 0,AV.sl 5 (gO+1) 0 ((bm ps).length+1) c1]
      rw[dg,List.length_append,Jg]
      rfl
     ·refine And.intro rfl (And.intro rfl (And.intro rfl (And.intro rfl (And.intro ?_ (And.intro ?_ trivial)))))
      ·show AO.aX true (ps++[(x1,x2)]).length _=AO.aX true (ps.length+1) _
       rw[List.length_append];rfl
      ·show aO 4 n _ (gO+1) c1 (bm (ps++[(x1,x2)]))=AO.one true (gO+1) (.cw 3 ((bm ps).length+1) _ c1)
       unfold aO
       rw[dg (ps++[(x1,x2)]),List.length_append,Jg];rfl
  ·simp only[decide_eq_false_iff_not]at hc
   have e:ps=az L:=by rw[←i3,IM _ (by rw[oM];omega),List.append_nil]
   subst e
   refine Rs ?_
   refine⟨[.dE 0,.dE 1,.own 4,.own 5],.sl 3 gO 0 (az L).length cO,[xr n cu c L,.aX false m (uF us cu),.aX true (az L).length (uF (Bh us (az L)) cv),aO 2 n cv gO cO (bm (az L))],⟨?_,rfl,?_,?_,?_⟩,gO,cO,cv,rfl,rfl,by rw[←dg];exact i5⟩
   ·exact⟨⟨rfl,_,rfl,rfl⟩,⟨rfl,_,rfl,rfl⟩,⟨rfl,rfl⟩,⟨rfl,rfl⟩,trivial⟩
   ·exact⟨fun _=>rfl,fun _=>trivial,fun _=>trivial,fun _=>rfl,trivial⟩
   ·show AV.sl 5 gO 0 (az L).length cO=AV.sl 5 gO 0 (bm (az L)).length cO
    rw[dg]
   ·intro i hi
    match i,hi with
    |0,_=>exact .inr rfl
    |1,_=>exact .inr rfl
end
end Go.Proofs.Ytibadaomjlkoaaa
open Go.RowKit
namespace Go.Proofs.Ytibadaomjlkoaaa
set_option maxRecDepth 10000
def jX (x:Int):Bool:=decide (x<0)||decide (1099511627776<x)
def ng (x:Int):Bool:=decide (15<x)
section
variable{xs:List Int}{c c0:Nat}{K Kp:AV→AH→Prop}
theorem JP {x:Int}{M:AH}(hM:M=[.one false 0 (.ints .i64 xs c)])(hK:K (.bo (jX x)) M):aa Try.prog 76 [.int .i64 x] M K Kp:=by
 subst hM
 refine aa.nG ?_
 refine Sn (fun _=>[]) [] rfl ?_
 refine Qs ?_
 refine And.intro (fun h1=>?_) (fun h1=>?_)
 ·refine Qs ?_
  refine⟨_,rfl,?_⟩
  have e:jX x=true:=by unfold jX;rw[h1];rfl
  rw[e]at hK;exact hK
 ·refine Qs ?_
  refine⟨_,rfl,?_⟩
  have e:jX x=decide (1099511627776<x):=by unfold jX;rw[h1];rfl
  rw[e]at hK;exact hK
theorem JO {x:Int}{M:AH}(hM:M=[.one false 0 (.ints .u8 xs c)])(hK:K (.bo (ng x)) M):aa Try.prog 99 [.int .u8 x] M K Kp:=by
 subst hM
 refine R4 (fun _=>[]) [] rfl ?_
 refine Qs ?_
 exact hK
theorem I9 (hl:xs.length≤1000000000)(hK:∀r:Int,(0≤r↔xs.any jX=true)→K (.int .i64 r) [.one false 0 (.ints .i64 xs c)]):
 aa Try.prog 92 [.sl 0 0 0 xs.length c0,.fn (.func 76) [] []] [.one false 0 (.ints .i64 xs c)] K Kp:=by
 refine Sb (fun _=>[0]) [] rfl ?_
 refine Rs ?_
 refine WO.go (σ:=Nat) (fun i=>i≤xs.length∧∀j,j<i→jX (xs.getD j 0)=false) (fun i=>xs.length-i)
  (fun i=>[(0,.sl 0 0 0 xs.length c0),(1,.fn (.func 76) [] []),(7,.int .i64 xs.length),(8,.int .i64 (i:Int))]) (fun i=>[.one false 0 (.ints .i64 xs c)]) 0 ae mixed (by kernel_rfl) ⟨Nat.zero_le _,fun j hj=>absurd hj (Nat.not_lt_zero j)⟩ (aI rfl (aI rfl (aI rfl (aI rfl (trivial))))) (aI rfl (trivial)) (fun _=>rfl) (fun _=>rfl) (fun _=>⟨trivial,trivial⟩) ?_
 rintro i ⟨h1,h2⟩ d
 refine Rs ?_
 refine And.intro (fun hc=>?_) (fun hc=>?_)
 ·simp only[decide_eq_true_eq]at hc
  refine Rs ?_
  refine JP (x:=xs.getD ((i:Int).toNat+0) 0) rfl ?_
  refine Rs ?_
  refine And.intro (fun hb=>?_) (fun hb=>?_)
  ·refine Rs ?_
   refine hK _ ⟨fun _=>?_,fun _=>by omega⟩
   rw[List.any_eq_true]
   refine⟨xs.getD i 0,?_,by simpa using hb⟩
   rw[List.getD_eq_getElem?_getD,List.getElem?_eq_getElem (show i<xs.length by omega)];exact List.getElem_mem _
  ·refine Rs ?_
   refine RO.same (i+1) ⟨by omega,fun j hj=>?_⟩ (show xs.length-(i+1)<xs.length-i by omega) (aI rfl (aI rfl (aI rfl (aI rfl (trivial))))) (aI rfl (trivial))
   by_cases e:j=i
   ·subst e;simpa using hb
   ·exact h2 j (by omega)
 ·simp only[decide_eq_false_iff_not]at hc
  have:xs.any jX=false:=by
   rw[List.any_eq_false]
   intro x hx
   obtain⟨j,hj,rfl⟩:=List.getElem_of_mem hx
   have:=h2 j (by omega)
   rw[List.getD_eq_getElem?_getD,List.getElem?_eq_getElem hj]at this
   simpa using this
  refine Rs ?_
  exact hK _ ⟨fun h=>by omega,fun h=>by rw[this]at h;cases h⟩
theorem I8 (hl:xs.length≤1000000000)(hK:∀r:Int,(0≤r↔xs.any ng=true)→K (.int .i64 r) [.one false 0 (.ints .u8 xs c)]):
 aa Try.prog 103 [.sl 0 0 0 xs.length c0,.fn (.func 99) [] []] [.one false 0 (.ints .u8 xs c)] K Kp:=by
 refine NG (fun _=>[0]) [] rfl ?_
 refine Rs ?_
 refine WO.go (σ:=Nat) (fun i=>i≤xs.length∧∀j,j<i→ng (xs.getD j 0)=false) (fun i=>xs.length-i)
  (fun i=>[(0,.sl 0 0 0 xs.length c0),(1,.fn (.func 99) [] []),(7,.int .i64 xs.length),(8,.int .i64 (i:Int))]) (fun i=>[.one false 0 (.ints .u8 xs c)]) 0 ae mixed (by kernel_rfl) ⟨Nat.zero_le _,fun j hj=>absurd hj (Nat.not_lt_zero j)⟩ (aI rfl (aI rfl (aI rfl (aI rfl (trivial))))) (aI rfl (trivial)) (fun _=>rfl) (fun _=>rfl) (fun _=>⟨trivial,trivial⟩) ?_
 rintro i ⟨h1,h2⟩ d
 refine Rs ?_
 refine And.intro (fun hc=>?_) (fun hc=>?_)
 ·simp only[decide_eq_true_eq]at hc
  refine Rs ?_
  refine JO (x:=xs.getD ((i:Int).toNat+0) 0) rfl ?_
  refine Rs ?_
  refine And.intro (fun hb=>?_) (fun hb=>?_)
  ·refine Rs ?_
   refine hK _ ⟨fun _=>?_,fun _=>by omega⟩
   rw[List.any_eq_true]
   refine⟨xs.getD i 0,?_,by simpa using hb⟩
   rw[List.getD_eq_getElem?_getD,List.getElem?_eq_getElem (show i<xs.length by omega)];exact List.getElem_mem _
  ·refine Rs ?_
   refine RO.same (i+1) ⟨by omega,fun j hj=>?_⟩ (show xs.length-(i+1)<xs.length-i by omega) (aI rfl (aI rfl (aI rfl (aI rfl (trivial))))) (aI rfl (trivial))
   by_cases e:j=i
   ·subst e;simpa using hb
   ·exact h2 j (by omega)
 ·simp only[decide_eq_false_iff_not]at hc
  have:xs.any ng=false:=by
   rw[List.any_eq_false]
   intro x hx
   obtain⟨j,hj,rfl⟩:=List.getElem_of_mem hx
   have:=h2 j (by omega)
   rw[List.getD_eq_getElem?_getD,List.getElem?_eq_getElem hj]at this
   simpa using this
  refine Rs ?_
  exact hK _ ⟨fun h=>by omega,fun h=>by rw[this]at h;cases h⟩
theorem Jr (hl:xs.length≤1000000000)(hK:K (.bo (xs.any jX)) [.one false 0 (.ints .i64 xs c)]):
 aa Try.prog 75 [.sl 0 0 0 xs.length c0,.fn (.func 76) [] []] [.one false 0 (.ints .i64 xs c)] K Kp:=by
 refine So (fun _=>[]) [] rfl ?_
 refine Rs ?_
 refine I9 hl fun r hr=>?_
 refine Rs ?_
 have:decide ((0:Int)≤r)=xs.any jX:=by rw[Bool.eq_iff_iff,decide_eq_true_eq];exact hr
 rw[←this]at hK
 exact hK
theorem Jq (hl:xs.length≤1000000000)(hK:K (.bo (xs.any ng)) [.one false 0 (.ints .u8 xs c)]):
 aa Try.prog 98 [.sl 0 0 0 xs.length c0,.fn (.func 99) [] []] [.one false 0 (.ints .u8 xs c)] K Kp:=by
 refine R5 (fun _=>[]) [] rfl ?_
 refine Rs ?_
 refine I8 hl fun r hr=>?_
 refine Rs ?_
 have:decide ((0:Int)≤r)=xs.any ng:=by rw[Bool.eq_iff_iff,decide_eq_true_eq];exact hr
 rw[←this]at hK
 exact hK
theorem HH {M:AH}{i g n co:Nat}{o:Bool}(hi:M[i]?=some (.one o g (.ints .u8 xs co)))(hn:n=xs.length)(hl:xs.length≤1000000000)(hK:K (.bo (xs.any ng)) M):
 aa Try.prog 98 [.sl i g 0 n c,.fn (.func 99) [] []] M K Kp:=by
 subst hn
 refine aa.lift [.cP i g 0] (Jq (xs:=xs) (c0:=c) (c:=co) (K:=fun r M=>r=.bo (xs.any ng)∧M=[.one false 0 (.ints .u8 xs co)]) (Kp:=fun _ _=>False) hl ⟨rfl,rfl⟩) rfl rfl ⟨⟨_,_,_,rfl,ao hi,cq.same rfl (fun h=>h)⟩,trivial⟩ ⟨trivial,trivial⟩ ?_ (fun _ _ h=>h.elim)
 rintro r M' ⟨rfl,rfl⟩
 refine⟨⟨rfl,rfl⟩,?_⟩
 rw[←List.append_nil M]at hK
 exact hK
theorem KT {M:AH}{a g u n m k:Nat}{o:Bool}{cu:Nat→Nat}{us:Nat→List Int}{L:List It}{B Bu:Int}(ok:uQ n m us B Bu L)(ha:M[a]?=some (.one o g (.cw 3 L.length (gU u n cu L) c)))(hu:M[u]?=some (.aX false m (uF us cu)))(hk:k=L.length)
 (hK:∀g' c' cv,(az L).length≤c'→K (.sl (M.length+1) g' 0 (az L).length c') (M++[.aX true (az L).length (uF (Bh us (az L)) cv),aO M.length n cv g' c' (bm (az L))])):
 aa Try.prog 77 [.sl a g 0 k c0] M K Kp:=by
 subst hk
 refine aa.lift [.cP a g 0,.dE u] (DY (c0:=c0) (c:=c) (cu:=cu) (Kp:=fun _ _=>False) ok) rfl rfl ⟨⟨_,_,_,rfl,ao ha,cq.same rfl (fun h=>h)⟩,⟨rfl,_,hu,rfl⟩,trivial⟩ ⟨fun _=>rfl,fun _=>trivial,trivial⟩ ?_ (fun _ _ h=>h.elim)
 rintro r M' ⟨g',c',cv,rfl,rfl,h⟩
 exact⟨⟨rfl,rfl,rfl⟩,hK g' c' cv h⟩
end
end Go.Proofs.Ytibadaomjlkoaaa
