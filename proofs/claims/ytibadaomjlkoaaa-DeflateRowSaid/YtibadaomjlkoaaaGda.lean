import Derived.Test.YtibadaomjlkoaaaGx
set_option linter.unusedVariables false
set_option linter.unusedSimpArgs false
open Go.RowKit
namespace Go.Proofs.Ytibadaomjlkoaaa
set_option maxRecDepth 10000
theorem aa.pJ {P:Program}{g:Nat}{args:List AV}{M:AH}{K Kp:AV→AH→Prop}(h:aa P g args M (fun r M'=>∃b,r.JH=some b∧K (.bo b) M') Kp):aa P g args M K Kp:=by
 unfold aa at*
 refine⟨h.1,fun ρ w hs aA=>Calls.mono (h.2 ρ w hs aA) fun e w' he=>?_⟩
 obtain⟨ρ',M',h1,h2,h3⟩:=he
 cases e with
 |returned v=>
  obtain⟨r,e1,e2,b,h4,h5⟩:=h3
  exact⟨ρ',M',h1,h2,.bo b,by rw[e1,AV.uW ρ' h4];rfl,trivial,h5⟩
 |panicked ch=>exact⟨ρ',M',h1,h2,h3⟩
 |outgrown=>exact h3.elim
structure It where
 w:Int
 k:Int
 u:Nat
 deriving DecidableEq,Inhabited
def gK (a b:It):Bool:=decide (a.w<b.w)||(decide (a.w=b.w)&&decide (a.k<b.k))
abbrev mL (u n:Nat)(cu:Nat→Nat)(x:It):List AV:=[.int .i64 x.w,.int .i64 x.k,.sl u x.u 0 n (cu x.u)]
abbrev gU (u n:Nat)(cu:Nat→Nat)(L:List It):Nat→List AV:=fun j=>mL u n cu (L.getD j default)
def AX (n:Nat)(cu:Nat→Nat)(x:It):List AV:=[.int .i64 x.w,.int .i64 x.k,.sl 2 x.u 0 n (cu x.u)]
def gI (n:Nat)(cu:Nat→Nat)(L:List It):Nat→List AV:=fun j=>AX n cu (L.getD j default)
def uF (us:Nat→List Int)(cu:Nat→Nat):Nat→ae:=fun r=>.ints .i64 (us r) (cu r)
def qH (n:Nat)(cu:Nat→Nat)(us:Nat→List Int)(m g h hc c:Nat)(L:List It):AH:=[.one true 0 (.cells [.sl 1 g 0 h hc]),.one true g (.cJ 3 L.length (gI n cu L) c),.bw false m (uF us cu)]
theorem Ei {n m g h hc c:Nat}{cu:Nat→Nat}{us:Nat→List Int}{L:List It}:lQ (qH n cu us m g h hc c L).length (qH n cu us m g h hc c L):=⟨rfl,fun _=>rfl,fun _=>trivial,trivial⟩
def cV (L:List It)(i j:Nat):List It:=(L.set i (L.getD j default)).set j (L.getD i default)
theorem bn (L:List It)(i j:Nat):(cV L i j).length=L.length:=by simp[cV]
section
variable{n m g h hc c:Nat}{cu:Nat→Nat}{us:Nat→List Int}{L:List It}{K Kp:AV→AH→Prop}
theorem qt (hK:K (.int .i64 (h:Int)) (qH n cu us m g h hc c L)):aa Try.prog 94 [.sl 1 g 0 h hc] (qH n cu us m g h hc c L) K Kp:=by
 refine Oi (fun _=>[]) [] rfl ?_
 refine Rs ?_
 exact hK
theorem kO {i j:Nat}{vi vj:Int}(R7:vi=(i:Int))(Vx:vj=(j:Int))(hi:i<h)(hj:j<h)(hh:h≤L.length)(hK:K (.bo (gK (L.getD i default) (L.getD j default))) (qH n cu us m g h hc c L)):
 aa Try.prog 121 [.sl 1 g 0 h hc,.int .i64 vi,.int .i64 vj] (qH n cu us m g h hc c L) K Kp:=by
 subst R7;subst Vx
 refine aa.pJ ?_
 refine Ks (fun _=>[1]) [] rfl ?_
 refine Qs ?_
 refine And.intro (fun h1=>?_) (fun h1=>?_)
 ·refine Qs ?_
  refine⟨_,rfl,?_⟩
  have e:gK (L.getD i default) (L.getD j default)=true:=by unfold gK;simp only[Int.toNat_natCast]at h1;rw[h1];rfl
  rw[e]at hK;exact hK
 ·refine Qs ?_
  refine And.intro (fun h2=>?_) (fun h2=>?_)
  ·refine Qs ?_
   refine⟨_,rfl,?_⟩
   have e:gK (L.getD i default) (L.getD j default)=decide ((L.getD i default).k<(L.getD j default).k):=by unfold gK;simp only[Int.toNat_natCast]at h1 h2;rw[h1,h2];simp
   rw[e]at hK;exact hK
  ·refine Qs ?_
   refine⟨_,rfl,?_⟩
   have e:gK (L.getD i default) (L.getD j default)=false:=by unfold gK;simp only[Int.toNat_natCast]at h1 h2;rw[h1,h2];simp
   rw[e]at hK;exact hK
theorem Jw {b:Bool}{p:Prop}(hb:b=true)(h:p):bq b p:=by subst hb;exact h
theorem Hn (i j:Nat)(hi:i<L.length)(hj:j<L.length):(fun r=>match Nat.beq r j with|true=>c8 (match Nat.beq j i with|true=>c8 (gI n cu L i) 0 (gI n cu L j)|false=>gI n cu L j) 0 (gI n cu L i)|false=>match Nat.beq r i with|true=>c8 (gI n cu L i) 0 (gI n cu L j)|false=>gI n cu L r)=gI n cu (cV L i j):=by
 have key:∀a b:Nat,c8 (gI n cu L a) 0 (gI n cu L b)=gI n cu L b:=fun a b=>rfl
 funext r
 have hg:gI n cu (cV L i j) r=if r=j then gI n cu L i else if r=i then gI n cu L j else gI n cu L r:=by
  unfold gI cV
  by_cases h1:r=j
  ·subst h1;rw[if_pos rfl];simp[List.getD_eq_getElem?_getD,hj]
  ·by_cases h2:r=i
   ·subst h2;rw[if_neg h1,if_pos rfl,List.getD_eq_getElem?_getD,List.getElem?_set_ne (Ne.symm h1),List.getElem?_set_self hi];rfl
   ·rw[if_neg h1,if_neg h2];simp[List.getD_eq_getElem?_getD,List.getElem?_set_ne (Ne.symm h1),List.getElem?_set_ne (Ne.symm h2)]
 rw[hg]
 cases h1:Nat.beq r j with
 |true=>
  obtain rfl:=Nat.eq_of_beq_eq_true h1
  rw[if_pos rfl]
  cases Nat.beq r i<;>rfl
 |false=>
  rw[if_neg (Nat.ne_of_beq_eq_false h1)]
  cases h2:Nat.beq r i with
  |true=>
   obtain rfl:=Nat.eq_of_beq_eq_true h2
   rw[if_pos rfl];exact key _ _
  |false=>rw[if_neg (Nat.ne_of_beq_eq_false h2)]
theorem kM {i j:Nat}{vi vj:Int}(R7:vi=(i:Int))(Vx:vj=(j:Int))(hi:i<h)(hj:j<h)(hh:h≤L.length)(ug:L.length≤c)(hK:K (.aL []) (qH n cu us m g h hc c (cV L i j))):
 aa Try.prog 122 [.sl 1 g 0 h hc,.int .i64 vi,.int .i64 vj] (qH n cu us m g h hc c L) K Kp:=by
 subst R7;subst Vx
 have j7:i<L.length:=by omega
 have rD:j<L.length:=by omega
 rw[show qH n cu us m g h hc c (cV L i j)=[AO.one true 0 (.cells [.sl 1 g 0 h hc]),AO.one true g (.cJ 3 L.length (gI n cu (cV L i j)) c),AO.bw false m (uF us cu)] by unfold qH;rw[bn],←Hn i j j7 rD]at hK
 refine Kr (fun _=>[1]) [] rfl ?_
 refine Qs ?_
 conv=>whnf
 refine(Jw ?_ ?_:bq (Nat.ble 3 (match Nat.beq (j:Int).toNat (i:Int).toNat with|true=>c8 (gI n cu L (i:Int).toNat) 0 (gI n cu L (j:Int).toNat)|false=>gI n cu L (j:Int).toNat).length) _)
 ·cases Nat.beq (j:Int).toNat (i:Int).toNat<;>rfl
 refine Qs ?_
 exact hK
end
end Go.Proofs.Ytibadaomjlkoaaa
open Go.RowKit
namespace Go.Proofs.Ytibadaomjlkoaaa
set_option maxRecDepth 10000
def je (n:Nat)(L:List It)(i:Nat):Nat:=if 2*i+2<n∧gK (L.getD (2*i+2) default) (L.getD (2*i+1) default)=true then 2*i+2 else 2*i+1
def fq:Nat→Nat→List It→Nat→List It
 |0,_,L,_=>L
 |f+1,n,L,i=>if 2*i+1<n then if gK (L.getD (je n L i) default) (L.getD i default)=true then fq f n (cV L i (je n L i)) (je n L i)else L else L
def kh (n:Nat)(L:List It)(i:Nat):List It:=fq (n-i) n L i
theorem ny {n i:Nat}{L:List It}(h:2*i+1<n):i<je n L i∧je n L i<n:=by unfold je;split<;>omega
theorem uD:∀(f f' n:Nat)(L:List It)(i:Nat),n-i≤f→n-i≤f'→fq f n L i=fq f' n L i
 |0,0,_,_,_,_,_=>rfl
 |0,f'+1,n,L,i,h,_=>by simp only[fq];rw[if_neg (by omega)]
 |f+1,0,n,L,i,_,h=>by simp only[fq];rw[if_neg (by omega)]
 |f+1,f'+1,n,L,i,h,h'=>by
  simp only[fq]
  by_cases h1:2*i+1<n
  ·have hk:=ny (L:=L) h1
   rw[if_pos h1,if_pos h1,uD f f' n _ _ (by omega) (by omega)]
  ·rw[if_neg h1,if_neg h1]
theorem Jr (n:Nat)(L:List It)(i:Nat):kh n L i=if 2*i+1<n then if gK (L.getD (je n L i) default) (L.getD i default)=true then kh n (cV L i (je n L i)) (je n L i)else L else L:=by
 unfold kh
 by_cases h1:2*i+1<n
 ·have hk:=ny (L:=L) h1
  obtain⟨f,hf⟩:∃f,n-i=f+1:=⟨n-i-1,by omega⟩
  rw[if_pos h1,hf,fq,if_pos h1,uD f (n-je n L i) n _ _ (by omega) (Nat.le_refl _)]
 ·rw[if_neg h1]
  cases hf:n-i with
  |zero=>rfl
  |succ f=>simp only[fq];rw[if_neg h1]
theorem xj:∀(f n:Nat)(L:List It)(i:Nat),(fq f n L i).length=L.length
 |0,_,_,_=>rfl
 |f+1,n,L,i=>by
  simp only[fq]
  split
  ·split
   ·rw[xj f,bn]
   ·rfl
  ·rfl
theorem ic (n:Nat)(L:List It)(i:Nat):(kh n L i).length=L.length:=xj _ _ _ _
section
variable{n m g h dk c:Nat}{cu:Nat→Nat}{us:Nat→List Int}{K Kp:AV→AH→Prop}
theorem xh {L:List It}{i0 N:Nat}{vi vN:Int}(R7:vi=(i0:Int))(YK:vN=(N:Int))(hi:i0≤N)(hN:N≤h)(hh:h≤L.length)(ug:L.length≤c)(hb:L.length≤1099511627776)(hK:∀b,K (.bo b) (qH n cu us m g h dk c (kh N L i0))):
 aa Try.prog 96 [.ja 131 (.ptr 0 0 0),.int .i64 vi,.int .i64 vN] (qH n cu us m g h dk c L) K Kp:=by
 subst R7;subst YK
 refine aa.pJ ?_
 refine Og (fun _=>[]) [] rfl ?_
 refine Rs ?_
 refine WO.go (σ:=Nat×List It) (fun s=>s.1≤N∧s.2.length=L.length∧kh N s.2 s.1=kh N L i0) (fun s=>N-s.1)
  (fun s=>[(0,.ja 131 (.ptr 0 0 0)),(1,.int .i64 i0),(2,.int .i64 N),(6,.ff),(7,.int .i64 (s.1:Int))])
  (fun s=>qH n cu us m g h dk c s.2) (i0,L) ag mixed (by kernel_rfl) ⟨hi,rfl,rfl⟩ (aI rfl (aI rfl (aI rfl (aI rfl (aI rfl (trivial)))))) (aI rfl (aI rfl (aI rfl (trivial)))) (fun _=>rfl) (fun _=>rfl) (fun _=>Ei) ?_
 rintro⟨i,L'⟩ ⟨h1,h2,h3⟩ d
 simp only at h1 h2 h3
 have hd:=Jr N L' i
 refine Rs ?_
 refine And.intro (fun hc=>?_) (fun hc=>?_)
 ·simp only[decide_eq_true_eq]at hc
  rw[if_neg (by omega),h3]at hd
  refine Qs ?_
  refine⟨_,rfl,?_⟩
  have:=hK (decide ((i0:Int)<i))
  rw[hd]at this
  exact this
 ·simp only[decide_eq_false_iff_not]at hc
  rw[if_pos (by omega)]at hd
  refine Qs ?_
  refine And.intro (fun My=>?_) (fun My=>?_)
  ·simp only[decide_eq_true_eq]at My
   refine Qs ?_
   conv=>whnf
   refine Exists.intro 121 (Exists.intro (some 129) (And.intro (by kernel_rfl) ?_))
   refine Qs ?_
   refine kO (i:=2*i+2) (j:=2*i+1) (L:=L') (by show 2*(i:Int)+1+1=_;omega) (by show 2*(i:Int)+1=_;omega) (show 2*i+2<h by omega) (by omega) (by omega) ?_
   refine Qs ?_
   refine And.intro (fun At=>?_) (fun At=>?_)
   ·have hk:je N L' i=2*i+2:=by unfold je;rw[if_pos ⟨by omega,At⟩]
    refine Qs ?_
    conv=>whnf
    refine Exists.intro 121 (Exists.intro (some 129) (And.intro (by kernel_rfl) ?_))
    refine Qs ?_
    refine kO (i:=2*i+2) (j:=i) (L:=L') (by show 2*(i:Int)+1+1=_;omega) rfl (by omega) (by omega) (by omega) ?_
    rw[hk]at hd
    refine Qs ?_
    refine And.intro (fun hx=>?_) (fun hx=>?_)
    ·rw[if_neg (by simpa using hx),h3]at hd
     refine Qs ?_
     refine⟨_,rfl,?_⟩
     have:=hK (decide ((i0:Int)<i))
     rw[hd]at this
     exact this
    ·rw[if_pos (by simpa using hx),h3]at hd
     refine Qs ?_
     conv=>whnf
     refine Exists.intro 122 (Exists.intro (some 129) (And.intro (by kernel_rfl) ?_))
     refine Qs ?_
     refine kM (i:=i) (j:=2*i+2) (L:=L') rfl (by show 2*(i:Int)+1+1=_;omega) (by omega) (by omega) (by omega) (by omega) ?_
     refine Qs ?_
     refine RO.same (2*i+2,cV L' i (2*i+2)) ⟨by show _≤N;omega,by rw[bn];exact h2,hd.symm⟩ (show N-(2*i+2)<N-i by omega) (And.intro rfl (And.intro rfl (And.intro rfl (And.intro rfl (And.intro ?_ trivial))))) (aI rfl (aI rfl (aI rfl (trivial))))
     show AV.int .i64 (2*(i:Int)+1+1)=AV.int .i64 ((2*i+2:Nat):Int)
     congr 1
   ·have hk:je N L' i=2*i+1:=by unfold je;rw[if_neg (by rintro⟨_,h⟩;rw[h]at At;cases At)]
    refine Qs ?_
    conv=>whnf
    refine Exists.intro 121 (Exists.intro (some 129) (And.intro (by kernel_rfl) ?_))
    refine Qs ?_
    refine kO (i:=2*i+1) (j:=i) (L:=L') (by show 2*(i:Int)+1=_;omega) rfl (by omega) (by omega) (by omega) ?_
    rw[hk]at hd
    refine Qs ?_
    refine And.intro (fun hx=>?_) (fun hx=>?_)
    ·rw[if_neg (by simpa using hx),h3]at hd
     refine Qs ?_
     refine⟨_,rfl,?_⟩
     have:=hK (decide ((i0:Int)<i))
     rw[hd]at this
     exact this
    ·rw[if_pos (by simpa using hx),h3]at hd
     refine Qs ?_
     conv=>whnf
     refine Exists.intro 122 (Exists.intro (some 129) (And.intro (by kernel_rfl) ?_))
     refine Qs ?_
     refine kM (i:=i) (j:=2*i+1) (L:=L') rfl (by show 2*(i:Int)+1=_;omega) (by omega) (by omega) (by omega) (by omega) ?_
     refine Qs ?_
     refine RO.same (2*i+1,cV L' i (2*i+1)) ⟨by show _≤N;omega,by rw[bn];exact h2,hd.symm⟩ (show N-(2*i+1)<N-i by omega) (And.intro rfl (And.intro rfl (And.intro rfl (And.intro rfl (And.intro ?_ trivial))))) (aI rfl (aI rfl (aI rfl (trivial))))
     show AV.int .i64 (2*(i:Int)+1)=AV.int .i64 ((2*i+1:Nat):Int)
     congr 1
  ·have hk:je N L' i=2*i+1:=by unfold je;rw[if_neg (by rintro⟨h,_⟩;simp at My;omega)]
   refine Qs ?_
   conv=>whnf
   refine Exists.intro 121 (Exists.intro (some 129) (And.intro (by kernel_rfl) ?_))
   refine Qs ?_
   refine kO (i:=2*i+1) (j:=i) (L:=L') (by show 2*(i:Int)+1=_;omega) rfl (by omega) (by omega) (by omega) ?_
   rw[hk]at hd
   refine Qs ?_
   refine And.intro (fun hx=>?_) (fun hx=>?_)
   ·rw[if_neg (by simpa using hx),h3]at hd
    refine Qs ?_
    refine⟨_,rfl,?_⟩
    have:=hK (decide ((i0:Int)<i))
    rw[hd]at this
    exact this
   ·rw[if_pos (by simpa using hx),h3]at hd
    refine Qs ?_
    conv=>whnf
    refine Exists.intro 122 (Exists.intro (some 129) (And.intro (by kernel_rfl) ?_))
    refine Qs ?_
    refine kM (i:=i) (j:=2*i+1) (L:=L') rfl (by show 2*(i:Int)+1=_;omega) (by omega) (by omega) (by omega) (by omega) ?_
    refine Qs ?_
    refine RO.same (2*i+1,cV L' i (2*i+1)) ⟨by show _≤N;omega,by rw[bn];exact h2,hd.symm⟩ (show N-(2*i+1)<N-i by omega) (And.intro rfl (And.intro rfl (And.intro rfl (And.intro rfl (And.intro ?_ trivial))))) (aI rfl (aI rfl (aI rfl (trivial))))
    show AV.int .i64 (2*(i:Int)+1)=AV.int .i64 ((2*i+1:Nat):Int)
    congr 1
def gM (n:Nat):Nat→List It→List It
 |0,L=>L
 |i+1,L=>gM n i (kh n L i)
theorem wP (n:Nat):∀(i:Nat)(L:List It),(gM n i L).length=L.length
 |0,_=>rfl
 |i+1,L=>by rw[gM,wP n i,ic]
theorem Ge {L:List It}(hh:h≤L.length)(ug:L.length≤c)(hb:L.length≤1099511627776)(hK:K (.aL []) (qH n cu us m g h dk c (gM h (h/2) L))):
 aa Try.prog 78 [.ja 131 (.ptr 0 0 0)] (qH n cu us m g h dk c L) K Kp:=by
 have hq:Int.tdiv (h:Int) 2=((h/2:Nat):Int):=by rw[Int.tdiv_eq_ediv_of_nonneg (by omega)];rfl
 refine Ov (fun _=>[]) [] rfl ?_
 refine Qs ?_
 conv=>whnf
 refine Exists.intro 94 (Exists.intro (some 129) (And.intro (by kernel_rfl) ?_))
 refine Qs ?_
 refine qt ?_
 refine Rs ?_
 refine WO.go (σ:=Nat×List It) (fun s=>s.1≤h/2∧s.2.length=L.length∧gM h s.1 s.2=gM h (h/2) L) (fun s=>s.1)
  (fun s=>[(0,.ja 131 (.ptr 0 0 0)),(2,.int .i64 h),(3,.int .i64 ((s.1:Int)-1))])
  (fun s=>qH n cu us m g h dk c s.2) (h/2,L) ag mixed (by kernel_rfl) ⟨Nat.le_refl _,rfl,rfl⟩ (And.intro rfl (And.intro rfl (And.intro ?_ trivial))) (aI rfl (aI rfl (aI rfl (trivial)))) (fun _=>rfl) (fun _=>rfl) (fun _=>Ei) ?_
 ·show AV.int .i64 (Int.tdiv (h:Int) 2-1)=AV.int .i64 (((h/2:Nat):Int)-1)
  rw[hq]
 rintro⟨i,L'⟩ ⟨h1,h2,h3⟩ d
 simp only at h1 h2 h3
 refine Rs ?_
 refine And.intro (fun hc=>?_) (fun hc=>?_)
 ·simp only[decide_eq_true_eq]at hc
  obtain⟨j,rfl⟩:∃j,i=j+1:=⟨i-1,by omega⟩
  refine Rs ?_
  refine xh (L:=L') (h:=h) (c:=c) (i0:=j) (N:=h) (by show((j+1:Nat):Int)-1=_;omega) rfl (by omega) (by omega) (by omega) (by omega) (by omega) fun b=>?_
  refine Rs ?_
  refine RO.same (j,kh h L' j) ⟨by show j≤_;omega,by rw[ic];exact h2,h3⟩ (Nat.lt_succ_self j) (And.intro rfl (And.intro rfl (And.intro ?_ trivial))) (aI rfl (aI rfl (aI rfl (trivial))))
  show AV.int .i64 (((j+1:Nat):Int)-1-1)=AV.int .i64 ((j:Int)-1)
  congr 1;omega
 ·simp only[decide_eq_false_iff_not]at hc
  obtain rfl:i=0:=by omega
  refine Rs ?_
  simp only[gM]at h3
  subst h3
  exact hK
end
end Go.Proofs.Ytibadaomjlkoaaa
open Go.RowKit
namespace Go.Proofs.Ytibadaomjlkoaaa
set_option maxRecDepth 10000
def eA (h:Nat)(L:List It):List It:=kh (h-1) (cV L 0 (h-1)) 0
theorem dN (h:Nat)(L:List It):(eA h L).length=L.length:=by unfold eA;rw[ic,bn]
section
variable{n m g h dk c:Nat}{cu:Nat→Nat}{us:Nat→List Int}{K Kp:AV→AH→Prop}
theorem FT {L:List It}(hh:h+1≤L.length)(Mx:h+1≤dk)(hb:L.length≤1099511627776)(hK:K (.ja 127 (.agg (AX n cu (L.getD h default)))) (qH n cu us m g h dk c L)):
 aa Try.prog 123 [.ptr 0 0 0] (qH n cu us m g (h+1) dk c L) K Kp:=by
 refine aa.cj ?_
 have e:(((h+1:Nat):Int)-1).toNat=h:=by omega
 refine Kq (fun _=>[]) [] rfl ?_
 refine Qs ?_
 refine Exists.intro (qH n cu us m g (((h+1:Nat):Int)-1).toNat dk c L) (And.intro (aI rfl (aI rfl (aI rfl (trivial)))) (And.intro Ei (And.intro rfl ?_)))
 show K (.ja 127 (.agg (AX n cu (L.getD (((h+1:Nat):Int)-1).toNat default)))) _
 rw[e]
 exact hK
theorem Gk {L:List It}(hh:h+1≤L.length)(ug:L.length≤c)(Mx:h+1≤dk)(hb:L.length≤1099511627776)(hK:K (.ja 127 (.agg (AX n cu ((eA (h+1) L).getD h default)))) (qH n cu us m g h dk c (eA (h+1) L))):
 aa Try.prog 97 [.ja 131 (.ptr 0 0 0)] (qH n cu us m g (h+1) dk c L) K Kp:=by
 refine Of (fun _=>[]) [] rfl ?_
 refine Qs ?_
 conv=>whnf
 refine Exists.intro 94 (Exists.intro (some 129) (And.intro (by kernel_rfl) ?_))
 refine Qs ?_
 refine qt ?_
 refine Qs ?_
 conv=>whnf
 refine Exists.intro 122 (Exists.intro (some 129) (And.intro (by kernel_rfl) ?_))
 refine Qs ?_
 refine kM (i:=0) (j:=h) (L:=L) rfl (by show((h+1:Nat):Int)-1=_;omega) (by omega) (by omega) (by omega) (by omega) ?_
 refine Rs ?_
 refine xh (L:=cV L 0 h) (h:=h+1) (c:=c) (i0:=0) (N:=h) rfl (by show((h+1:Nat):Int)-1=_;omega) (by omega) (by omega) (by rw[bn];omega) (by rw[bn];omega) (by rw[bn];omega) fun b=>?_
 refine Qs ?_
 conv=>whnf
 refine Exists.intro 123 (Exists.intro none (And.intro (by kernel_rfl) ?_))
 refine FT (L:=eA (h+1) L) (by rw[dN];omega) (by omega) (by rw[dN];omega) ?_
 refine Rs ?_
 exact hK
def qO (a g h dk:Nat):AO:=.one true 0 (.cells [.sl a g 0 h dk])
def aO (u n:Nat)(cu:Nat→Nat)(g c:Nat)(L:List It):AO:=.one true g (.cJ 3 L.length (gU u n cu L) c)
theorem Uz {M:AH}{fn q a u h':Nat}{args:List AV}{r0:AV}{L L':List It}(h0:∀K:AV→AH→Prop,K r0 (qH n cu us m g h' dk c L')→aa Try.prog fn args (qH n cu us m g h dk c L) K (fun _ _=>False))
 (hq:M[q]?=some (qO a g h dk))(ha:M[a]?=some (aO u n cu g c L))(hu:M[u]?=some (.bw false m (uF us cu)))(eK:(Nat.beq q a||Nat.beq q u||Nat.beq a u)=false)
 (jy:AV.o8 [.own q,.own a,.fb u] args=true)(hK:K (r0.rn [.own q,.own a,.fb u] M.length) ((M.set q (qO a g h' dk)).set a (aO u n cu g c L'))):
 aa Try.prog fn (AV.ri [.own q,.own a,.fb u] M.length args) M K Kp:=by
 simp only[Bool.or_eq_false_iff]at eK
 refine aa.lift [.own q,.own a,.fb u] (h0 (fun r M=>r=r0∧M=qH n cu us m g h' dk c L') ⟨rfl,rfl⟩) rfl
  (by simp[bE,TE.eX,TE.i,eK.1.1,eK.1.2,eK.2,jy]) ⟨⟨hq,rfl⟩,⟨ha,rfl⟩,⟨rfl,_,hu,rfl⟩,trivial⟩ ⟨rfl,fun _=>rfl,fun _=>trivial,trivial⟩ ?_ (fun _ _ h=>h.elim)
 rintro r M' ⟨rfl,rfl⟩
 refine⟨⟨rfl,rfl,rfl,rfl⟩,?_⟩
 rw[←List.append_nil ((M.set q _).set a _)]at hK
 exact hK
theorem KD {M:AH}{q a u:Nat}{L:List It}(hq:M[q]?=some (qO a g h dk))(ha:M[a]?=some (aO u n cu g c L))(hu:M[u]?=some (.bw false m (uF us cu)))(eK:(Nat.beq q a||Nat.beq q u||Nat.beq a u)=false)
 (hK:K (.int .i64 (h:Int)) ((M.set q (qO a g h dk)).set a (aO u n cu g c L))):
 aa Try.prog 94 [.sl a g 0 h dk] M K Kp:=
 Uz (args:=[.sl 1 g 0 h dk]) (fun K hk=>qt hk) hq ha hu eK rfl hK
theorem EC {M:AH}{q a u:Nat}{L:List It}(hq:M[q]?=some (qO a g h dk))(ha:M[a]?=some (aO u n cu g c L))(hu:M[u]?=some (.bw false m (uF us cu)))(eK:(Nat.beq q a||Nat.beq q u||Nat.beq a u)=false)
 (hh:h≤L.length)(ug:L.length≤c)(hb:L.length≤1099511627776)(hK:K (.aL []) ((M.set q (qO a g h dk)).set a (aO u n cu g c (gM h (h/2) L)))):
 aa Try.prog 78 [.ja 131 (.ptr q 0 0)] M K Kp:=
 Uz (args:=[.ja 131 (.ptr 0 0 0)]) (fun K hk=>Ge hh ug hb hk) hq ha hu eK rfl hK
theorem Mk {M:AH}{q a u:Nat}{L:List It}(hq:M[q]?=some (qO a g (h+1) dk))(ha:M[a]?=some (aO u n cu g c L))(hu:M[u]?=some (.bw false m (uF us cu)))(eK:(Nat.beq q a||Nat.beq q u||Nat.beq a u)=false)
 (hh:h+1≤L.length)(ug:L.length≤c)(Mx:h+1≤dk)(hb:L.length≤1099511627776)
 (hK:K (.ja 127 (.agg (mL u n cu ((eA (h+1) L).getD h default)))) ((M.set q (qO a g h dk)).set a (aO u n cu g c (eA (h+1) L)))):
 aa Try.prog 97 [.ja 131 (.ptr q 0 0)] M K Kp:=
 Uz (args:=[.ja 131 (.ptr 0 0 0)]) (fun K hk=>Gk hh ug Mx hb hk) hq ha hu eK rfl hK
theorem Fs {L:List It}(hh:h+1≤L.length)(ug:L.length≤c)(Mx:h+1≤dk)(hb:L.length≤1099511627776)(hK:K (.agg (AX n cu ((eA (h+1) L).getD h default))) (qH n cu us m g h dk c (eA (h+1) L))):
 aa Try.prog 79 [.ptr 0 0 0] (qH n cu us m g (h+1) dk c L) K Kp:=by
 refine aa.cj ?_
 refine Ou (fun _=>[]) [] rfl ?_
 refine Qs ?_
 refine Mk (q:=0) (a:=1) (u:=2) (L:=L) rfl rfl rfl rfl hh ug Mx hb ?_
 refine Qs ?_
 exact Exists.intro (qH n cu us m g h dk c (eA (h+1) L)) (And.intro (aI rfl (aI rfl (aI rfl (trivial)))) (And.intro Ei (And.intro rfl hK)))
theorem Kl {M:AH}{q a u:Nat}{L:List It}(hq:M[q]?=some (qO a g (h+1) dk))(ha:M[a]?=some (aO u n cu g c L))(hu:M[u]?=some (.bw false m (uF us cu)))(eK:(Nat.beq q a||Nat.beq q u||Nat.beq a u)=false)
 (hh:h+1≤L.length)(ug:L.length≤c)(Mx:h+1≤dk)(hb:L.length≤1099511627776)
 (hK:K (.agg (mL u n cu ((eA (h+1) L).getD h default))) ((M.set q (qO a g h dk)).set a (aO u n cu g c (eA (h+1) L)))):
 aa Try.prog 79 [.ptr q 0 0] M K Kp:=
 Uz (args:=[.ptr 0 0 0]) (fun K hk=>Fs hh ug Mx hb hk) hq ha hu eK rfl hK
theorem qh {M:AH}{q a u:Nat}{L:List It}(hq:M[q]?=some (qO a g (h+1) dk))(ha:M[a]?=some (aO u n cu g c L))(hu:M[u]?=some (.bw false m (uF us cu)))(eK:(Nat.beq q a||Nat.beq q u||Nat.beq a u)=false)
 (hh:h+1≤L.length)(ug:L.length≤c)(Mx:h+1≤dk)(hb:L.length≤1099511627776)(x:It)(hx:(eA (h+1) L).getD h default=x)(PD:x.u<m)(hqu:Nat.blt q M.length=true)
 (hK:K (.agg [.int .i64 x.w,.int .i64 x.k,.sl M.length 0 0 n (cu x.u)]) ((M.set q (qO a g h dk)).set a (aO u n cu g c (eA (h+1) L))++[.one false 0 (.ints .i64 (us x.u) (cu x.u))])):
 aa Try.prog 79 [.ptr q 0 0] M K Kp:=by
 refine aa.eV (Kl hq ha hu eK hh ug Mx hb ?_)
 rw[hx]
 simp only[Bool.or_eq_false_iff]at eK
 refine⟨_,_,Vw.pull (i:=u) (g:=x.u) (x:=.ints .i64 (us x.u) (cu x.u)) ?_ ?_,hK⟩
 ·unfold slot
  rw[List.getElem?_set_ne (Nat.ne_of_beq_eq_false eK.2),List.getElem?_set_ne (Nat.ne_of_beq_eq_false eK.1.2),hu]
  simp only[a9,if_pos PD,uF]
 ·simp[AV.jc,AV.rm,qv]
end
end Go.Proofs.Ytibadaomjlkoaaa
open Go.RowKit
namespace Go.Proofs.Ytibadaomjlkoaaa
set_option maxRecDepth 10000
theorem Vw.cJ {M:AH}{i g sz n c:Nat}{get:Nat→List AV}{l:List AV}(get':Nat→List AV)(hm:M[i]?=some (.one true g (.cJ sz n get c)))(h:∀r,r<n→get' r=get r):Vw M (M.set i (.one true g (.cJ sz n get' c))) l l:=by
 intro ρ w hs aA
 obtain⟨h1,h2⟩:=kE (x':=.cJ sz n get' c) hs hm (Nat.le_refl _) (fun k v hv=>by
  have QR:(ae.cJ sz n get c).at k=some v:=by
   simp only[ae.at]at hv⊢
   split at hv
   ·rename_i a8
    rw[if_pos a8,←h _ (Nat.div_lt_of_lt_mul (by rw[Nat.mul_comm];exact a8))];exact hv
   ·cases hv
  refine⟨v,QR,rfl,?_⟩
  rcases hs.holds i g true _ (ak hm)with⟨q,e1,e2⟩|⟨_,e2⟩
  ·obtain⟨c,e,fr,k1,k2,k3,k4⟩:=e2.out rfl
   exact(k3 k v QR).1
  ·exfalso
   simp only[ae.at]at QR
   obtain⟨rfl,_⟩:=e2
   simp at QR) (fun h=>h)
 exact⟨ρ,h1,h2,rfl,aA⟩
def vd (n:Nat)(cu:Nat→Nat)(c:Nat)(L:List It):AO:=.one false 0 (.cJ 3 L.length (gU 1 n cu L) c)
section
variable{n m c c0:Nat}{cu:Nat→Nat}{us:Nat→List Int}{L:List It}{Kp:AV→AH→Prop}
theorem AW (hb:L.length≤1000000000):aa Try.prog 93 [.sl 0 0 0 L.length c0] [vd n cu c L,.bw false m (uF us cu)]
 (fun r M=>∃g' c',r=.sl 2 g' 0 L.length c'∧M=[vd n cu c L,.bw false m (uF us cu),aO 1 n cu g' c' L]∧L.length≤c') Kp:=by
 refine aa.eV ?_
 refine Oj (fun _=>[]) [] rfl ?_
 refine Qs ?_
 intro b hb
 refine Qs ?_
 refine And.intro (fun h1=>?_) (fun h1=>?_)
 ·obtain⟨h2,rfl⟩:=hb (by simpa using h1)
  refine Qs ?_
  refine⟨_,_,Vw.nil (x:=.cJ 3 L.length (gU 1 n cu L) 0) ⟨h2,rfl⟩,0,0,?_,rfl,by omega⟩
  show AV.sl 2 0 0 0 0=AV.sl 2 0 0 L.length 0
  rw[h2]
 ·refine Qs ?_
  refine And.intro (fun q _=>⟨rfl,rfl⟩) ?_
  refine And.intro ⟨by omega,by show(0+L.length)*40≤_;omega⟩ ?_
  refine Exists.intro (gU 1 n cu L) (And.intro (fun q _=>by rw[if_neg (Nat.not_lt_zero q)];rfl) (fun c1 ui=>?_))
  refine Qs ?_
  refine⟨_,_,Vw.refl _ _,1,c1,?_,?_,by omega⟩
  ·show AV.sl 2 1 0 (0+L.length) c1=_
   rw[Nat.zero_add]
  ·show[vd n cu c L,AO.bw false m (uF us cu),AO.one true 1 (.cJ 3 (0+L.length) (gU 1 n cu L) c1)]=_
   rw[Nat.zero_add];rfl
theorem AU {xs:List Int}(hb:xs.length≤17592186044416){Kp}:
 aa Try.prog 95 [.sl 0 0 0 xs.length c0] [.one false 0 (.ints .i64 xs c)]
  (fun r M=>∃g' c',r=.sl 1 g' 0 xs.length c'∧M=[.one false 0 (.ints .i64 xs c),.one true g' (.ints .i64 xs c')]∧xs.length≤c') Kp:=by
 refine aa.eV ?_
 refine Oh (fun _=>[]) [] rfl ?_
 refine Qs ?_
 intro b hb
 refine Qs ?_
 refine And.intro (fun h1=>?_) (fun h1=>?_)
 ·obtain⟨rfl,rfl⟩:=hb (by simpa using h1)
  refine Qs ?_
  exact⟨_,_,Vw.nil (x:=.ints .i64 [] 0) ⟨rfl,rfl⟩,0,0,rfl,rfl,Nat.le_refl _⟩
 ·refine Qs ?_
  intro ys rY
  obtain rfl:xs=ys:=by rw[rY];simp
  refine Qs ?_
  intro c1 ui
  refine Qs ?_
  refine⟨_,_,Vw.refl _ _,1,c1,?_,rfl,by omega⟩
  show AV.sl 1 1 0 (0+xs.length) c1=_
  rw[Nat.zero_add]
theorem xq {M:AH}{K:AV→AH→Prop}{i g n co:Nat}{o:Bool}{xs:List Int}(hi:M[i]?=some (.one o g (.ints .i64 xs co)))(hn:n=xs.length)(hb:xs.length≤17592186044416)
 (h:∀g' c',xs.length≤c'→K (.sl M.length g' 0 xs.length c') (M++[.one true g' (.ints .i64 xs c')])):aa Try.prog 95 [.sl i g 0 n c] M K Kp:=by
 subst hn
 refine aa.lift [.ew i g 0] (AU (xs:=xs) (c0:=c) (c:=co) (Kp:=fun _ _=>False) hb) rfl rfl ⟨⟨_,_,_,rfl,ak hi,eB.same rfl (fun h=>h)⟩,trivial⟩ ⟨trivial,trivial⟩ ?_ (fun _ _ h=>h.elim)
 rintro r M' ⟨g',c',rfl,rfl,rF⟩
 exact⟨⟨rfl,rfl⟩,h g' c' rF⟩
def eR (i:Nat)(L:List It):List It:=L.mapIdx fun j x=>if j<i then{x with k:=(j:Int)}else x
theorem dU (i:Nat)(L:List It):(eR i L).length=L.length:=by simp[eR]
theorem j5 (i:Nat)(L:List It)(j:Nat)(hj:j<L.length):(eR i L).getD j default=if j<i then{L.getD j default with k:=(j:Int)}else L.getD j default:=by
 simp[eR,List.getD_eq_getElem?_getD,hj]
theorem wx {u:Nat}(i:Nat)(L:List It)(r:Nat)(hr:r<L.length)(hi:i<L.length):
 gU u n cu (eR (i+1) L) r=(match Nat.beq r i with|true=>c8 (gU u n cu (eR i L) i) 1 [.int .i64 (i:Int)]|false=>gU u n cu (eR i L) r):=by
 cases h:Nat.beq r i with
 |true=>
  obtain rfl:=Nat.eq_of_beq_eq_true h
  show mL u n cu ((eR (r+1) L).getD r default)=c8 (mL u n cu ((eR r L).getD r default)) 1 [.int .i64 (r:Int)]
  rw[j5 _ _ _ hr,j5 _ _ _ hr,if_pos (by omega),if_neg (by omega)]
  rfl
 |false=>
  have eK:=Nat.ne_of_beq_eq_false h
  show mL u n cu ((eR (i+1) L).getD r default)=mL u n cu ((eR i L).getD r default)
  rw[j5 _ _ _ hr,j5 _ _ _ hr]
  by_cases h1:r<i
  ·rw[if_pos (by omega),if_pos h1]
  ·rw[if_neg (by omega),if_neg h1]
end
end Go.Proofs.Ytibadaomjlkoaaa
open Go.RowKit
namespace Go.Proofs.Ytibadaomjlkoaaa
set_option maxRecDepth 10000
theorem j9 {L:List It}{j:Nat}(h:j<L.length):L.getD j default∈L:=by
 rw[List.getD_eq_getElem?_getD,List.getElem?_eq_getElem h];exact List.getElem_mem h
theorem wE {L:List It}{i j:Nat}(hi:i<L.length)(hj:j<L.length){x:It}(h:x∈cV L i j):x∈L:=by
 unfold cV at h
 rcases List.mem_or_eq_of_mem_set h with h|rfl
 ·rcases List.mem_or_eq_of_mem_set h with h|rfl
  ·exact h
  ·exact j9 hj
 ·exact j9 hi
theorem wF:∀{f n:Nat}{L:List It}{i:Nat},n≤L.length→∀{x:It},x∈fq f n L i→x∈L
 |0,_,_,_,_,_,h=>h
 |f+1,n,L,i,hn,x,h=>by
  simp only[fq]at h
  split at h
  ·rename_i h1
   have hk:=ny (L:=L) h1
   split at h
   ·exact wE (by omega) (by omega) (wF (by rw[bn];exact hn) h)
   ·exact h
  ·exact h
theorem wG {n:Nat}{L:List It}{i:Nat}(hn:n≤L.length){x:It}(h:x∈kh n L i):x∈L:=wF hn h
theorem qF {n:Nat}{x:It}:∀(i:Nat){L:List It},n≤L.length→x∈gM n i L→x∈L
 |0,_,_,h=>h
 |i+1,L,hn,h=>wG hn (qF i (by rw[ic];exact hn) h)
theorem fV {h:Nat}{L:List It}(h0:0<h)(hn:h≤L.length){x:It}(hx:x∈eA h L):x∈L:=by
 unfold eA at hx
 exact wE (by omega) (by omega) (wG (by rw[bn];omega) hx)
theorem z9 {i:Nat}{L:List It}{x:It}(h:x∈eR i L):∃y∈L,y.w=x.w∧y.u=x.u:=by
 obtain⟨j,hj,rfl⟩:=List.getElem_of_mem h
 have rD:j<L.length:=by simpa[eR]using hj
 refine⟨L[j],List.getElem_mem rD,?_⟩
 simp only[eR,List.getElem_mapIdx]
 split<;>exact⟨rfl,rfl⟩
theorem wy (L:List It):eR 0 L=L:=by
 apply List.ext_getElem?
 intro j
 simp[eR]
def dM:Nat→List It→List It
 |0,_=>[]
 |h+1,L=>(eA (h+1) L).getD h default::dM h (eA (h+1) L)
def bZ:List It→List (It×It)
 |a::b::r=>(a,b)::bZ r
 |_=>[]
def dy (L:List It):List It:=gM L.length (L.length/2) (eR L.length L)
theorem kC (L:List It):(dy L).length=L.length:=by unfold dy;rw[wP,dU]
def av (L:List It):List (It×It):=bZ (dM L.length (dy L))
def aY (ps:List (It×It)):List It:=ps.mapIdx fun j p=>⟨p.1.w+p.2.w,0,j⟩
def yX (us:Nat→List Int)(ps:List (It×It))(j:Nat):List Int:=List.zipWith (·+·) (us (ps.getD j default).1.u) (us (ps.getD j default).2.u)
theorem cK (ps:List (It×It)):(aY ps).length=ps.length:=by simp[aY]
theorem FV:∀l:List It,l.length≤1→bZ l=[]
 |[],_=>rfl
 |[_],_=>rfl
 |_::_::_,h=>by simp at h
theorem nd:∀(h:Nat)(L:List It),(dM h L).length=h
 |0,_=>rfl
 |h+1,L=>by simp[dM,nd h]
def JX (m:Nat)(B:Int)(x:It):Prop:=x.u<m∧0≤x.w∧x.w≤B
theorem zd {us:Nat→List Int}{ps:List (It×It)}{p:It×It}{r:Nat}(h:r<ps.length):yX us (ps++[p]) r=yX us ps r:=by
 unfold yX;simp[List.getD_eq_getElem?_getD,List.getElem?_append_left h]
theorem ze {us:Nat→List Int}{ps:List (It×It)}{a b:It}:yX us (ps++[(a,b)]) ps.length=List.zipWith (·+·) (us a.u) (us b.u):=by
 unfold yX;simp[List.getD_eq_getElem?_getD]
theorem wq {ps:List (It×It)}{p:It×It}{r:Nat}(h:r<ps.length):(aY (ps++[p])).getD r default=(aY ps).getD r default:=by
 unfold aY;rw[List.mapIdx_append,List.getD_eq_getElem?_getD,List.getElem?_append_left (by simpa using h),←List.getD_eq_getElem?_getD]
theorem wu {ps:List (It×It)}{a b:It}:(aY (ps++[(a,b)])).getD ps.length default=⟨a.w+b.w,0,ps.length⟩:=by
 unfold aY;simp[List.getD_eq_getElem?_getD]
theorem BM {ps:List (It×It)}{r:Nat}(h:r<ps.length):((aY ps).getD r default).u=r:=by
 unfold aY;simp[List.getD_eq_getElem?_getD,h]
structure sB (n m:Nat)(us:Nat→List Int)(B Bu:Int)(L:List It):Prop where
 len:L.length≤1000000
 items:∀x∈L,JX m B x
 ul:∀r,r<m→(us r).length=n
 uv:∀r,r<m→∀v∈us r,0≤v∧v≤Bu
 hn:n≤1000000
 hB:B≤2305843009213693952
 Rb:Bu≤2305843009213693952
section
variable{n m c c0:Nat}{cu:Nat→Nat}{us:Nat→List Int}{L:List It}{Kp:AV→AH→Prop}{B Bu:Int}
theorem sa (ok:sB n m us B Bu L){r:Nat}(hr:r<m){i:Nat}(hi:i<n):0≤(us r).getD i 0∧(us r).getD i 0≤Bu:=by
 have hl:=ok.ul r hr
 have:(us r).getD i 0∈us r:=by
  rw[List.getD_eq_getElem?_getD,List.getElem?_eq_getElem (by omega)];exact List.getElem_mem _
 exact ok.uv r hr _ this
theorem BI (ok:sB n m us B Bu L):aa Try.prog 77 [.sl 0 0 0 L.length c0] [vd n cu c L,.bw false m (uF us cu)]
 (fun r M=>∃g' c' cv,r=.sl 3 g' 0 (av L).length c'∧M=[vd n cu c L,.bw false m (uF us cu),.bw true (av L).length (uF (yX us (av L)) cv),aO 2 n cv g' c' (aY (av L))]∧(av L).length≤c') Kp:=by
 have hlen:=ok.len
 refine aa.de ?_
 refine Ow (fun _=>[8,9]) [] rfl ?_
 refine Qs ?_
 refine aa.mono (AW (n:=n) (m:=m) (cu:=cu) (us:=us) (L:=L) (Kp:=fun _ _=>False) (by omega)) ?_ (fun _ _ h=>h.elim)
 rintro r M ⟨gC,cC,rfl,rfl,hcC⟩
 refine Rs ?_
 refine WO.go (σ:=Nat×List It) (fun s=>s.1≤L.length∧s.2=eR s.1 L) (fun s=>L.length-s.1)
  (fun s=>[(2,.ns),(3,.ptr 3 0 0),(14,.int .i64 L.length),(15,.int .i64 (s.1:Int))])
  (fun s=>[vd n cu c L,.bw false m (uF us cu),aO 1 n cu gC cC s.2,qO 2 gC L.length cC]) (0,L) ag mixed (by kernel_rfl) ⟨Nat.zero_le _,(wy L).symm⟩ (aI rfl (aI rfl (aI rfl (aI rfl (trivial))))) (aI rfl (aI rfl (aI rfl (aI rfl (trivial))))) (fun _=>rfl) (fun _=>rfl) (fun _=>⟨fun _=>rfl,fun _=>trivial,fun _=>rfl,rfl,trivial⟩) ?_
 rintro⟨i,L1⟩ ⟨h1,h2⟩ d
 simp only at h1 h2
 have J0:L1.length=L.length:=by rw[h2,dU]
 refine Rs ?_
 refine And.intro (fun hc=>?_) (fun hc=>?_)
 ·simp only[decide_eq_true_eq]at hc
  refine Qs ?_
  refine RO.mk (i+1,eR (i+1) L) [(2,.ns),(3,.ptr 3 0 0),(14,.int .i64 L.length),(15,.int .i64 ((i:Int)+1))] _ ⟨by show i+1≤_;omega,rfl⟩ (show L.length-(i+1)<L.length-i by omega) (aI rfl (aI rfl (aI rfl (aI rfl (trivial))))) rfl (Vw.cJ (i:=2) (gU 1 n cu (eR (i+1) L)) rfl ?_) ?_
  ·intro r hr
   rw[J0]at hr
   have:=wx (u:=1) (n:=n) (cu:=cu) i L r hr (by omega)
   rw[this,h2]
   rfl
  ·refine And.intro rfl (And.intro rfl (And.intro ?_ (And.intro rfl trivial)))
   show aO 1 n cu gC cC (eR (i+1) L)=AO.one true gC (.cJ 3 L1.length (gU 1 n cu (eR (i+1) L)) cC)
   unfold aO
   rw[J0,dU]
 ·simp only[decide_eq_false_iff_not]at hc
  obtain rfl:i=L.length:=by omega
  have ug:L1.length≤cC:=by omega
  refine Rs ?_
  refine EC (q:=3) (a:=2) (u:=1) (L:=L1) rfl rfl rfl rfl (by omega) ug (by omega) ?_
  have dB:gM L.length (L.length/2) L1=dy L:=by rw[h2];rfl
  rw[dB]
  refine Rs ?_
  refine WO.MD (σ:=Nat×List It×List (It×It)×Nat×Nat×(Nat→Nat)) (fun(h,Lc,ps,gO,cO,cv)=>Lc.length=L.length∧h≤L.length∧ps++bZ (dM h Lc)=av L∧(∀x∈Lc,JX m B x)∧(aY ps).length≤cO∧2*ps.length+h≤L.length) (fun(h,_,_,_,_,_)=>h)
   (fun(h,Lc,ps,gO,cO,cv)=>[(3,.ptr 3 0 0),(5,.sl 5 gO 0 (aY ps).length cO)])
   (fun(h,Lc,ps,gO,cO,cv)=>[vd n cu c L,.bw false m (uF us cu),aO 1 n cu gC cC Lc,qO 2 gC h cC,.bw true ps.length (uF (yX us ps) cv),aO 4 n cv gO cO (aY ps)]) (L.length,dy L,[],0,0,fun _=>0) ag mixed (by kernel_rfl)
   [(3,.ptr 3 0 0),(5,.ns)] _ ⟨kC L,Nat.le_refl _,rfl,?_,Nat.zero_le _,by simp⟩ (aI rfl (aI rfl (trivial))) rfl (Vw.trans (Vw.Tg (own:=true) (f:=uF (yX us []) (fun _=>0))) (Vw.z6 (x:=.cJ 3 (aY []).length (gU 4 n (fun _=>0) (aY [])) 0) ⟨rfl,rfl⟩ ?_)) (aI rfl (aI rfl (aI rfl (aI rfl (aI rfl (aI rfl (trivial))))))) (fun _=>rfl) (fun _=>rfl) (fun _=>⟨fun _=>rfl,fun _=>trivial,fun _=>rfl,rfl,fun _=>trivial,fun _=>rfl,trivial⟩) ?_
  ·intro x hx
   obtain⟨y,hy,e1,e2⟩:=z9 (qF _ (by rw[dU];exact Nat.le_refl _) hx)
   have:=ok.items y hy
   unfold JX at this⊢
   rw[←e1,←e2];exact this
  ·exact And.intro (.inl rfl) (And.intro (.inr ⟨rfl,rfl⟩) trivial)
  rintro⟨h,Lc,ps,gO,cO,cv⟩ ⟨i1,i2,i3,i4,i5,i6⟩ d
  refine Rs ?_
  refine KD (q:=3) (a:=2) (u:=1) (L:=Lc) rfl rfl rfl rfl ?_
  refine Rs ?_
  refine And.intro (fun hc=>?_) (fun hc=>?_)
  ·simp only[decide_eq_true_eq]at hc
   obtain⟨h',rfl⟩:∃h',h=h'+2:=⟨h-2,by omega⟩
   have PF:(eA (h'+2) Lc).getD (h'+1) default∈Lc:=fV (by omega) (by omega) (j9 (by rw[dN];omega))
   generalize Qu:eA (h'+2) Lc=L2
   have oO:L2.length=Lc.length:=by rw[←Qu,dN]
   have S8:∀x∈L2,JX m B x:=fun x hx=>i4 x (fV (by omega) (by omega) (Qu▸hx))
   rw[Qu]at PF
   generalize B4:L2.getD (h'+1) default=x1
   have PE:(eA (h'+1) L2).getD h' default∈L2:=fV (by omega) (by omega) (j9 (by rw[dN];omega))
   generalize EZ:eA (h'+1) L2=L3
   have kv:L3.length=Lc.length:=by rw[←EZ,dN,oO]
   have MC:∀x∈L3,JX m B x:=fun x hx=>S8 x (fV (by omega) (by omega) (EZ▸hx))
   rw[EZ]at PE
   generalize UK:L3.getD h' default=x2
   rw[B4]at PF
   rw[UK]at PE
   obtain⟨UF,k1a,k1b⟩:=i4 x1 PF
   obtain⟨UE,Z9,Z8⟩:=S8 x2 PE
   have hB:=ok.hB
   have Rb:=ok.Rb
   have hn:=ok.hn
   have QS:=ok.ul _ UF
   have hu2:=ok.ul _ UE
   refine Rs ?_
   refine qh (q:=3) (a:=2) (u:=1) (h:=h'+1) (L:=Lc) rfl rfl rfl rfl (by omega) (by omega) (by omega) (by omega) x1 (by rw[Qu];exact B4) UF rfl ?_
   rw[Qu]
   refine Rs ?_
   refine qh (q:=3) (a:=2) (u:=1) (h:=h') (L:=L2) rfl rfl rfl rfl (by omega) (by omega) (by omega) (by omega) x2 (by rw[EZ];exact UK) UE rfl ?_
   rw[EZ]
   refine Rs ?_
   refine And.intro ?_ ?_
   ·refine Rs ?_
    refine xq (i:=6) (xs:=us x1.u) rfl QS.symm (by omega) fun gx cx Zm=>?_
    refine Rs ?_
    refine WO.go (σ:=Nat×List Int) (fun s=>s.1≤n∧s.2.length=n∧(∀j,j<s.1→s.2.getD j 0=(us x1.u).getD j 0+(us x2.u).getD j 0)∧∀j,s.1≤j→s.2.getD j 0=(us x1.u).getD j 0) (fun s=>n-s.1)
     (fun s=>[(3,.ptr 3 0 0),(5,.sl 5 gO 0 (aY ps).length cO),(8,.ptr 11 0 0),(41,.sl 7 0 0 n (cu x2.u)),(42,.int .i64 n),(43,.int .i64 (s.1:Int))])
     (fun s=>[vd n cu c L,.bw false m (uF us cu),aO 1 n cu gC cC L3,qO 2 gC h' cC,.bw true ps.length (uF (yX us ps) cv),aO 4 n cv gO cO (aY ps),.gone,.one false 0 (.ints .i64 (us x2.u) (cu x2.u)),.gone,.gone,.one true gx (.ints .i64 s.2 cx),.one true 0 (.cells [.int .i64 (x1.w+x2.w),.int .i64 0,.sl 10 gx 0 (us x1.u).length cx])]) (0,us x1.u) ag mixed (by kernel_rfl) ⟨Nat.zero_le _,QS,fun j hj=>absurd hj (Nat.not_lt_zero j),fun _ _=>rfl⟩ (aI rfl (aI rfl (aI rfl (aI rfl (aI rfl (aI rfl (trivial))))))) (aI rfl (aI rfl (aI rfl (aI rfl (aI rfl (aI rfl (aI trivial (aI rfl (aI trivial (aI trivial (aI rfl (aI rfl (trivial))))))))))))) (fun _=>rfl) (fun _=>rfl) (fun _=>⟨fun _=>rfl,fun _=>trivial,fun _=>rfl,rfl,fun _=>trivial,fun _=>rfl,trivial,trivial,trivial,trivial,trivial,rfl,trivial⟩) ?_
    rintro⟨i,ys⟩ ⟨j1,j2,j3,j4⟩ d
    simp only at j1 j2 j3 j4
    refine Rs ?_
    refine And.intro (fun hc=>?_) (fun hc=>?_)
    ·simp only[decide_eq_true_eq]at hc
     have hi:i<n:=by omega
     have b1:=sa ok UF (i:=i) (by omega)
     have b2:=sa ok UE (i:=i) (by omega)
     have fE:=j4 i (Nat.le_refl _)
     have VQ:-9223372036854775808≤ys.getD ((i:Int).toNat+0) 0+(us x2.u).getD ((i:Int).toNat+0) 0∧ys.getD ((i:Int).toNat+0) 0+(us x2.u).getD ((i:Int).toNat+0) 0≤9223372036854775807:=by
      simp only[Int.toNat_natCast,Nat.add_zero];omega
     refine Qs ?_
     refine RO.same (i+1,ys.set ((i:Int).toNat+0) (ys.getD ((i:Int).toNat+0) 0+(us x2.u).getD ((i:Int).toNat+0) 0)) ⟨by show i+1≤n;omega,by simpa using j2,?_,?_⟩ (show n-(i+1)<n-i by omega) (aI rfl (aI rfl (aI rfl (aI rfl (aI rfl (aI rfl (trivial))))))) (aI rfl (aI rfl (aI rfl (aI rfl (aI rfl (aI rfl (aI trivial (aI rfl (aI trivial (aI trivial (aI rfl (aI rfl (trivial)))))))))))))
     ·intro j hj
      simp only[Int.toNat_natCast,Nat.add_zero]
      by_cases IY:j=i
      ·subst IY
       simp only[List.getD_eq_getElem?_getD,List.getElem?_set_self (show j<ys.length by omega)]at fE⊢
       simp only[Option.getD_some,fE]
      ·have:=j3 j (by have:j<i+1:=hj;omega)
       simp only[List.getD_eq_getElem?_getD,List.getElem?_set_ne (Ne.symm IY)]at this⊢
       exact this
     ·intro j hj
      have rD:i+1≤j:=hj
      simp only[Int.toNat_natCast,Nat.add_zero]
      have:=j4 j (by omega)
      simp only[List.getD_eq_getElem?_getD,List.getElem?_set_ne (show i≠j by omega)]at this⊢
      exact this
    ·simp only[decide_eq_false_iff_not]at hc
     have Bk:i=n:=by omega
     have rY:ys=List.zipWith (·+·) (us x1.u) (us x2.u):=by
      apply List.ext_getElem
      ·simp;omega
      ·intro j q1 q2
       have:=j3 j (by omega)
       simp only[List.getD_eq_getElem?_getD,List.getElem?_eq_getElem q1,List.getElem?_eq_getElem (show j<(us x1.u).length by omega),List.getElem?_eq_getElem (show j<(us x2.u).length by omega),Option.getD_some]at this
       rw[this,List.getElem_zipWith]
     have IK:=cK ps
     refine Rs ?_
     refine And.intro (fun q hq=>?_) ?_
     ·match q,hq with
      |0,_=>exact⟨rfl,rfl⟩
     refine And.intro ⟨by show(aY ps).length+1≤_;omega,by show((aY ps).length+1)*40≤_;omega⟩ ?_
     refine Exists.intro (fun q=>if q<ps.length then gU 4 n cv (aY ps) q else[.int .i64 (x1.w+x2.w),.int .i64 0,.sl 10 gx 0 (us x1.u).length cx]) (And.intro (fun q hq=>?_) (fun c1 ui=>?_))
     ·by_cases IE:q<(aY ps).length
      ·rw[if_pos IE]
       show(if q<ps.length then _ else _)=_
       rw[if_pos (by omega)]
      ·have Bg:q<(aY ps).length+1:=hq
       have eJ:q-(aY ps).length=0:=by omega
       rw[if_neg IE,eJ]
       show(if q<ps.length then _ else _)=_
       rw[if_neg (by omega)]
       rfl
     have Cg:(aY ps).length+1≤c1:=ui
     refine Rs ?_
     refine RO.mk (h',L3,ps++[(x1,x2)],gO+1,c1,fun r=>if r=ps.length then cx else cv r) [(3,.ptr 3 0 0),(5,.sl 5 (gO+1) 0 ((aY ps).length+1) c1)] _ ⟨by omega,by omega,?_,MC,?_,?_⟩ (show h'<h'+2 by omega) (aI rfl (aI rfl (trivial))) rfl
      (Vw.freeze (iu:=4) (k:=10) (o:=5) (uF (yX us (ps++[(x1,x2)])) (fun r=>if r=ps.length then cx else cv r)) (gU 4 n (fun r=>if r=ps.length then cx else cv r) (aY (ps++[(x1,x2)]))) rfl rfl rfl rfl ?_ ?_ ?_ ?_) ?_
     ·rw[←i3]
      simp only[dM,Qu,EZ,B4,UK,bZ,List.append_assoc,List.singleton_append]
     ·show(aY (ps++[(x1,x2)])).length≤c1
      rw[cK,List.length_append];simp only[List.length_singleton];omega
     ·show 2*(ps++[(x1,x2)]).length+h'≤L.length
      rw[List.length_append];simp only[List.length_singleton];omega
     ·intro r hr
      show ae.ints .i64 _ _=ae.ints .i64 _ _
      simp only[zd hr,if_neg (Nat.ne_of_lt hr)]
     ·show ae.ints .i64 _ _=ae.ints .i64 ys cx
      simp only[ze,if_true,rY]
     ·intro r hr
      have EL:r<(aY ps).length+1:=hr
      show AV.jc _ (mL 4 n _ ((aY (ps++[(x1,x2)])).getD r default))=(if r<ps.length then _ else _)
      by_cases oK:r<ps.length
      ·rw[if_pos oK,wq oK]
       show _=[AV.int .i64 ((aY ps).getD r default).w,AV.int .i64 ((aY ps).getD r default).k,AV.sl 4 ((aY ps).getD r default).u 0 n (cv ((aY ps).getD r default).u)]
       simp only[AV.jc,AV.rm,BM oK,bM (show¬(4=4∧r=ps.length) by omega),if_neg (Nat.ne_of_lt oK)]
      ·obtain rfl:r=ps.length:=by omega
       rw[if_neg oK,wu]
       simp only[AV.jc,AV.rm,gR,if_true,QS]
     ·show AV.jc _ [AV.ptr 3 0 0,AV.sl 5 (gO+1) 0 (aY (ps++[(x1,x2)])).length c1]=[AV.ptr 3 0 0,AV.sl 5 (gO+1) 0 ((aY ps).length+1) c1]
      rw[cK,List.length_append,IK]
      rfl
     ·refine And.intro rfl (And.intro rfl (And.intro rfl (And.intro rfl (And.intro ?_ (And.intro ?_ trivial)))))
      ·show AO.bw true (ps++[(x1,x2)]).length _=AO.bw true (ps.length+1) _
       rw[List.length_append];rfl
      ·show aO 4 n _ (gO+1) c1 (aY (ps++[(x1,x2)]))=AO.one true (gO+1) (.cJ 3 ((aY ps).length+1) _ c1)
       unfold aO
       rw[cK (ps++[(x1,x2)]),List.length_append,IK];rfl
   ·refine Rs ?_
    refine xq (i:=6) (xs:=us x1.u) rfl QS.symm (by omega) fun gx cx Zm=>?_
    refine Rs ?_
    refine WO.go (σ:=Nat×List Int) (fun s=>s.1≤n∧s.2.length=n∧(∀j,j<s.1→s.2.getD j 0=(us x1.u).getD j 0+(us x2.u).getD j 0)∧∀j,s.1≤j→s.2.getD j 0=(us x1.u).getD j 0) (fun s=>n-s.1)
     (fun s=>[(3,.ptr 3 0 0),(5,.sl 5 gO 0 (aY ps).length cO),(8,.ptr 10 0 0),(41,.sl 7 0 0 n (cu x2.u)),(42,.int .i64 n),(43,.int .i64 (s.1:Int))])
     (fun s=>[vd n cu c L,.bw false m (uF us cu),aO 1 n cu gC cC L3,qO 2 gC h' cC,.bw true ps.length (uF (yX us ps) cv),aO 4 n cv gO cO (aY ps),.gone,.one false 0 (.ints .i64 (us x2.u) (cu x2.u)),.gone,.gone,.one true 0 (.cells [.int .i64 (x1.w+x2.w),.int .i64 0,.sl 11 gx 0 (us x1.u).length cx]),.one true gx (.ints .i64 s.2 cx)]) (0,us x1.u) ag mixed (by kernel_rfl) ⟨Nat.zero_le _,QS,fun j hj=>absurd hj (Nat.not_lt_zero j),fun _ _=>rfl⟩ (aI rfl (aI rfl (aI rfl (aI rfl (aI rfl (aI rfl (trivial))))))) (aI rfl (aI rfl (aI rfl (aI rfl (aI rfl (aI rfl (aI trivial (aI rfl (aI trivial (aI trivial (aI rfl (aI rfl (trivial))))))))))))) (fun _=>rfl) (fun _=>rfl) (fun _=>⟨fun _=>rfl,fun _=>trivial,fun _=>rfl,rfl,fun _=>trivial,fun _=>rfl,trivial,trivial,trivial,trivial,rfl,trivial,trivial⟩) ?_
    rintro⟨i,ys⟩ ⟨j1,j2,j3,j4⟩ d
    simp only at j1 j2 j3 j4
    refine Rs ?_
    refine And.intro (fun hc=>?_) (fun hc=>?_)
    ·simp only[decide_eq_true_eq]at hc
     have hi:i<n:=by omega
     have b1:=sa ok UF (i:=i) (by omega)
     have b2:=sa ok UE (i:=i) (by omega)
     have fE:=j4 i (Nat.le_refl _)
     have VQ:-9223372036854775808≤ys.getD ((i:Int).toNat+0) 0+(us x2.u).getD ((i:Int).toNat+0) 0∧ys.getD ((i:Int).toNat+0) 0+(us x2.u).getD ((i:Int).toNat+0) 0≤9223372036854775807:=by
      simp only[Int.toNat_natCast,Nat.add_zero];omega
     refine Qs ?_
     refine RO.same (i+1,ys.set ((i:Int).toNat+0) (ys.getD ((i:Int).toNat+0) 0+(us x2.u).getD ((i:Int).toNat+0) 0)) ⟨by show i+1≤n;omega,by simpa using j2,?_,?_⟩ (show n-(i+1)<n-i by omega) (aI rfl (aI rfl (aI rfl (aI rfl (aI rfl (aI rfl (trivial))))))) (aI rfl (aI rfl (aI rfl (aI rfl (aI rfl (aI rfl (aI trivial (aI rfl (aI trivial (aI trivial (aI rfl (aI rfl (trivial)))))))))))))
     ·intro j hj
      simp only[Int.toNat_natCast,Nat.add_zero]
      by_cases IY:j=i
      ·subst IY
       simp only[List.getD_eq_getElem?_getD,List.getElem?_set_self (show j<ys.length by omega)]at fE⊢
       simp only[Option.getD_some,fE]
      ·have:=j3 j (by have:j<i+1:=hj;omega)
       simp only[List.getD_eq_getElem?_getD,List.getElem?_set_ne (Ne.symm IY)]at this⊢
       exact this
     ·intro j hj
      have rD:i+1≤j:=hj
      simp only[Int.toNat_natCast,Nat.add_zero]
      have:=j4 j (by omega)
      simp only[List.getD_eq_getElem?_getD,List.getElem?_set_ne (show i≠j by omega)]at this⊢
      exact this
    ·simp only[decide_eq_false_iff_not]at hc
     have Bk:i=n:=by omega
     have rY:ys=List.zipWith (·+·) (us x1.u) (us x2.u):=by
      apply List.ext_getElem
      ·simp;omega
      ·intro j q1 q2
       have:=j3 j (by omega)
       simp only[List.getD_eq_getElem?_getD,List.getElem?_eq_getElem q1,List.getElem?_eq_getElem (show j<(us x1.u).length by omega),List.getElem?_eq_getElem (show j<(us x2.u).length by omega),Option.getD_some]at this
       rw[this,List.getElem_zipWith]
     have IK:=cK ps
     refine Rs ?_
     refine And.intro (fun q hq=>?_) ?_
     ·match q,hq with
      |0,_=>exact⟨rfl,rfl⟩
     refine And.intro ⟨by show(aY ps).length+1≤_;omega,by show((aY ps).length+1)*40≤_;omega⟩ ?_
     refine Exists.intro (fun q=>if q<ps.length then gU 4 n cv (aY ps) q else[.int .i64 (x1.w+x2.w),.int .i64 0,.sl 11 gx 0 (us x1.u).length cx]) (And.intro (fun q hq=>?_) (fun c1 ui=>?_))
     ·by_cases IE:q<(aY ps).length
      ·rw[if_pos IE]
       show(if q<ps.length then _ else _)=_
       rw[if_pos (by omega)]
      ·have Bg:q<(aY ps).length+1:=hq
       have eJ:q-(aY ps).length=0:=by omega
       rw[if_neg IE,eJ]
       show(if q<ps.length then _ else _)=_
       rw[if_neg (by omega)]
       rfl
     have Cg:(aY ps).length+1≤c1:=ui
     refine Rs ?_
     refine RO.mk (h',L3,ps++[(x1,x2)],gO+1,c1,fun r=>if r=ps.length then cx else cv r) [(3,.ptr 3 0 0),(5,.sl 5 (gO+1) 0 ((aY ps).length+1) c1)] _ ⟨by omega,by omega,?_,MC,?_,?_⟩ (show h'<h'+2 by omega) (aI rfl (aI rfl (trivial))) rfl
      (Vw.freeze (iu:=4) (k:=11) (o:=5) (uF (yX us (ps++[(x1,x2)])) (fun r=>if r=ps.length then cx else cv r)) (gU 4 n (fun r=>if r=ps.length then cx else cv r) (aY (ps++[(x1,x2)]))) rfl rfl rfl rfl ?_ ?_ ?_ ?_) ?_
     ·rw[←i3]
      simp only[dM,Qu,EZ,B4,UK,bZ,List.append_assoc,List.singleton_append]
     ·show(aY (ps++[(x1,x2)])).length≤c1
      rw[cK,List.length_append];simp only[List.length_singleton];omega
     ·show 2*(ps++[(x1,x2)]).length+h'≤L.length
      rw[List.length_append];simp only[List.length_singleton];omega
     ·intro r hr
      show ae.ints .i64 _ _=ae.ints .i64 _ _
      simp only[zd hr,if_neg (Nat.ne_of_lt hr)]
     ·show ae.ints .i64 _ _=ae.ints .i64 ys cx
      simp only[ze,if_true,rY]
     ·intro r hr
      have EL:r<(aY ps).length+1:=hr
      show AV.jc _ (mL 4 n _ ((aY (ps++[(x1,x2)])).getD r default))=(if r<ps.length then _ else _)
      by_cases oK:r<ps.length
      ·rw[if_pos oK,wq oK]
       show _=[AV.int .i64 ((aY ps).getD r default).w,AV.int .i64 ((aY ps).getD r default).k,AV.sl 4 ((aY ps).getD r default).u 0 n (cv ((aY ps).getD r default).u)]
       simp only[AV.jc,AV.rm,BM oK,bM (show¬(4=4∧r=ps.length) by omega),if_neg (Nat.ne_of_lt oK)]
      ·obtain rfl:r=ps.length:=by omega
       rw[if_neg oK,wu]
       simp only[AV.jc,AV.rm,gR,if_true,QS]
     ·show AV.jc _ [AV.ptr 3 0 0,AV.sl 5 (gO+1) 0 (aY (ps++[(x1,x2)])).length c1]=[AV.ptr 3 0 0,AV.sl 5 (gO+1) 0 ((aY ps).length+1) c1]
      rw[cK,List.length_append,IK]
      rfl
     ·refine And.intro rfl (And.intro rfl (And.intro rfl (And.intro rfl (And.intro ?_ (And.intro ?_ trivial)))))
      ·show AO.bw true (ps++[(x1,x2)]).length _=AO.bw true (ps.length+1) _
       rw[List.length_append];rfl
      ·show aO 4 n _ (gO+1) c1 (aY (ps++[(x1,x2)]))=AO.one true (gO+1) (.cJ 3 ((aY ps).length+1) _ c1)
       unfold aO
       rw[cK (ps++[(x1,x2)]),List.length_append,IK];rfl
  ·simp only[decide_eq_false_iff_not]at hc
   have e:ps=av L:=by rw[←i3,FV _ (by rw[nd];omega),List.append_nil]
   subst e
   refine Rs ?_
   refine⟨[.fb 0,.fb 1,.own 4,.own 5],.sl 3 gO 0 (av L).length cO,[vd n cu c L,.bw false m (uF us cu),.bw true (av L).length (uF (yX us (av L)) cv),aO 2 n cv gO cO (aY (av L))],⟨?_,rfl,?_,?_,?_⟩,gO,cO,cv,rfl,rfl,by rw[←cK];exact i5⟩
   ·exact⟨⟨rfl,_,rfl,rfl⟩,⟨rfl,_,rfl,rfl⟩,⟨rfl,rfl⟩,⟨rfl,rfl⟩,trivial⟩
   ·exact⟨fun _=>rfl,fun _=>trivial,fun _=>trivial,fun _=>rfl,trivial⟩
   ·show AV.sl 5 gO 0 (av L).length cO=AV.sl 5 gO 0 (aY (av L)).length cO
    rw[cK]
   ·intro i hi
    match i,hi with
    |0,_=>exact .inr rfl
    |1,_=>exact .inr rfl
end
end Go.Proofs.Ytibadaomjlkoaaa
open Go.RowKit
namespace Go.Proofs.Ytibadaomjlkoaaa
set_option maxRecDepth 10000
def iX (x:Int):Bool:=decide (x<0)||decide (1099511627776<x)
def qZ (x:Int):Bool:=decide (15<x)
section
variable{xs:List Int}{c c0:Nat}{K Kp:AV→AH→Prop}
theorem GU {x:Int}{M:AH}(hM:M=[.one false 0 (.ints .i64 xs c)])(hK:K (.bo (iX x)) M):aa Try.prog 76 [.int .i64 x] M K Kp:=by
 subst hM
 refine aa.pJ ?_
 refine Ox (fun _=>[]) [] rfl ?_
 refine Qs ?_
 refine And.intro (fun h1=>?_) (fun h1=>?_)
 ·refine Qs ?_
  refine⟨_,rfl,?_⟩
  have e:iX x=true:=by unfold iX;rw[h1];rfl
  rw[e]at hK;exact hK
 ·refine Qs ?_
  refine⟨_,rfl,?_⟩
  have e:iX x=decide (1099511627776<x):=by unfold iX;rw[h1];rfl
  rw[e]at hK;exact hK
theorem GS {x:Int}{M:AH}(hM:M=[.one false 0 (.ints .u8 xs c)])(hK:K (.bo (qZ x)) M):aa Try.prog 99 [.int .u8 x] M K Kp:=by
 subst hM
 refine Od (fun _=>[]) [] rfl ?_
 refine Qs ?_
 exact hK
theorem Gg (hl:xs.length≤1000000000)(hK:∀r:Int,(0≤r↔xs.any iX=true)→K (.int .i64 r) [.one false 0 (.ints .i64 xs c)]):
 aa Try.prog 92 [.sl 0 0 0 xs.length c0,.fn (.func 76) [] []] [.one false 0 (.ints .i64 xs c)] K Kp:=by
 refine Ok (fun _=>[0]) [] rfl ?_
 refine Rs ?_
 refine WO.go (σ:=Nat) (fun i=>i≤xs.length∧∀j,j<i→iX (xs.getD j 0)=false) (fun i=>xs.length-i)
  (fun i=>[(0,.sl 0 0 0 xs.length c0),(1,.fn (.func 76) [] []),(7,.int .i64 xs.length),(8,.int .i64 (i:Int))]) (fun i=>[.one false 0 (.ints .i64 xs c)]) 0 ag mixed (by kernel_rfl) ⟨Nat.zero_le _,fun j hj=>absurd hj (Nat.not_lt_zero j)⟩ (aI rfl (aI rfl (aI rfl (aI rfl (trivial))))) (aI rfl (trivial)) (fun _=>rfl) (fun _=>rfl) (fun _=>⟨trivial,trivial⟩) ?_
 rintro i ⟨h1,h2⟩ d
 refine Rs ?_
 refine And.intro (fun hc=>?_) (fun hc=>?_)
 ·simp only[decide_eq_true_eq]at hc
  refine Rs ?_
  refine GU (x:=xs.getD ((i:Int).toNat+0) 0) rfl ?_
  refine Rs ?_
  refine And.intro (fun hb=>?_) (fun hb=>?_)
  ·refine Rs ?_
   refine hK _ ⟨fun _=>?_,fun _=>by omega⟩
   rw[List.any_eq_true]
   refine⟨xs.getD i 0,?_,by simpa using hb⟩
   rw[List.getD_eq_getElem?_getD,List.getElem?_eq_getElem (show i<xs.length by omega)];exact List.getElem_mem _
  ·refine Rs ?_
   refine RO.same (i+1) ⟨by omega,fun j hj=>?_⟩ (show xs.length-(i+1)<xs.length-i by omega) (aI rfl (aI rfl (aI rfl (aI rfl (trivial))))) (aI rfl (trivial))
   by_cases e:j=i
   ·subst e;simpa using hb
   ·exact h2 j (by omega)
 ·simp only[decide_eq_false_iff_not]at hc
  have:xs.any iX=false:=by
   rw[List.any_eq_false]
   intro x hx
   obtain⟨j,hj,rfl⟩:=List.getElem_of_mem hx
   have:=h2 j (by omega)
   rw[List.getD_eq_getElem?_getD,List.getElem?_eq_getElem hj]at this
   simpa using this
  refine Rs ?_
  exact hK _ ⟨fun h=>by omega,fun h=>by rw[this]at h;cases h⟩
theorem Gf (hl:xs.length≤1000000000)(hK:∀r:Int,(0≤r↔xs.any qZ=true)→K (.int .i64 r) [.one false 0 (.ints .u8 xs c)]):
 aa Try.prog 103 [.sl 0 0 0 xs.length c0,.fn (.func 99) [] []] [.one false 0 (.ints .u8 xs c)] K Kp:=by
 refine Kt (fun _=>[0]) [] rfl ?_
 refine Rs ?_
 refine WO.go (σ:=Nat) (fun i=>i≤xs.length∧∀j,j<i→qZ (xs.getD j 0)=false) (fun i=>xs.length-i)
  (fun i=>[(0,.sl 0 0 0 xs.length c0),(1,.fn (.func 99) [] []),(7,.int .i64 xs.length),(8,.int .i64 (i:Int))]) (fun i=>[.one false 0 (.ints .u8 xs c)]) 0 ag mixed (by kernel_rfl) ⟨Nat.zero_le _,fun j hj=>absurd hj (Nat.not_lt_zero j)⟩ (aI rfl (aI rfl (aI rfl (aI rfl (trivial))))) (aI rfl (trivial)) (fun _=>rfl) (fun _=>rfl) (fun _=>⟨trivial,trivial⟩) ?_
 rintro i ⟨h1,h2⟩ d
 refine Rs ?_
 refine And.intro (fun hc=>?_) (fun hc=>?_)
 ·simp only[decide_eq_true_eq]at hc
  refine Rs ?_
  refine GS (x:=xs.getD ((i:Int).toNat+0) 0) rfl ?_
  refine Rs ?_
  refine And.intro (fun hb=>?_) (fun hb=>?_)
  ·refine Rs ?_
   refine hK _ ⟨fun _=>?_,fun _=>by omega⟩
   rw[List.any_eq_true]
   refine⟨xs.getD i 0,?_,by simpa using hb⟩
   rw[List.getD_eq_getElem?_getD,List.getElem?_eq_getElem (show i<xs.length by omega)];exact List.getElem_mem _
  ·refine Rs ?_
   refine RO.same (i+1) ⟨by omega,fun j hj=>?_⟩ (show xs.length-(i+1)<xs.length-i by omega) (aI rfl (aI rfl (aI rfl (aI rfl (trivial))))) (aI rfl (trivial))
   by_cases e:j=i
   ·subst e;simpa using hb
   ·exact h2 j (by omega)
 ·simp only[decide_eq_false_iff_not]at hc
  have:xs.any qZ=false:=by
   rw[List.any_eq_false]
   intro x hx
   obtain⟨j,hj,rfl⟩:=List.getElem_of_mem hx
   have:=h2 j (by omega)
   rw[List.getD_eq_getElem?_getD,List.getElem?_eq_getElem hj]at this
   simpa using this
  refine Rs ?_
  exact hK _ ⟨fun h=>by omega,fun h=>by rw[this]at h;cases h⟩
theorem Gw (hl:xs.length≤1000000000)(hK:K (.bo (xs.any iX)) [.one false 0 (.ints .i64 xs c)]):
 aa Try.prog 75 [.sl 0 0 0 xs.length c0,.fn (.func 76) [] []] [.one false 0 (.ints .i64 xs c)] K Kp:=by
 refine Oy (fun _=>[]) [] rfl ?_
 refine Rs ?_
 refine Gg hl fun r hr=>?_
 refine Rs ?_
 have:decide ((0:Int)≤r)=xs.any iX:=by rw[Bool.eq_iff_iff,decide_eq_true_eq];exact hr
 rw[←this]at hK
 exact hK
theorem Gv (hl:xs.length≤1000000000)(hK:K (.bo (xs.any qZ)) [.one false 0 (.ints .u8 xs c)]):
 aa Try.prog 98 [.sl 0 0 0 xs.length c0,.fn (.func 99) [] []] [.one false 0 (.ints .u8 xs c)] K Kp:=by
 refine Oe (fun _=>[]) [] rfl ?_
 refine Rs ?_
 refine Gf hl fun r hr=>?_
 refine Rs ?_
 have:decide ((0:Int)≤r)=xs.any qZ:=by rw[Bool.eq_iff_iff,decide_eq_true_eq];exact hr
 rw[←this]at hK
 exact hK
theorem EW {M:AH}{i g n co:Nat}{o:Bool}(hi:M[i]?=some (.one o g (.ints .u8 xs co)))(hn:n=xs.length)(hl:xs.length≤1000000000)(hK:K (.bo (xs.any qZ)) M):
 aa Try.prog 98 [.sl i g 0 n c,.fn (.func 99) [] []] M K Kp:=by
 subst hn
 refine aa.lift [.ew i g 0] (Gv (xs:=xs) (c0:=c) (c:=co) (K:=fun r M=>r=.bo (xs.any qZ)∧M=[.one false 0 (.ints .u8 xs co)]) (Kp:=fun _ _=>False) hl ⟨rfl,rfl⟩) rfl rfl ⟨⟨_,_,_,rfl,ak hi,eB.same rfl (fun h=>h)⟩,trivial⟩ ⟨trivial,trivial⟩ ?_ (fun _ _ h=>h.elim)
 rintro r M' ⟨rfl,rfl⟩
 refine⟨⟨rfl,rfl⟩,?_⟩
 rw[←List.append_nil M]at hK
 exact hK
theorem HU {M:AH}{a g u n m k:Nat}{o:Bool}{cu:Nat→Nat}{us:Nat→List Int}{L:List It}{B Bu:Int}(ok:sB n m us B Bu L)(ha:M[a]?=some (.one o g (.cJ 3 L.length (gU u n cu L) c)))(hu:M[u]?=some (.bw false m (uF us cu)))(hk:k=L.length)
 (hK:∀g' c' cv,(av L).length≤c'→K (.sl (M.length+1) g' 0 (av L).length c') (M++[.bw true (av L).length (uF (yX us (av L)) cv),aO M.length n cv g' c' (aY (av L))])):
 aa Try.prog 77 [.sl a g 0 k c0] M K Kp:=by
 subst hk
 refine aa.lift [.ew a g 0,.fb u] (BI (c0:=c0) (c:=c) (cu:=cu) (Kp:=fun _ _=>False) ok) rfl rfl ⟨⟨_,_,_,rfl,ak ha,eB.same rfl (fun h=>h)⟩,⟨rfl,_,hu,rfl⟩,trivial⟩ ⟨fun _=>rfl,fun _=>trivial,trivial⟩ ?_ (fun _ _ h=>h.elim)
 rintro r M' ⟨g',c',cv,rfl,rfl,h⟩
 exact⟨⟨rfl,rfl,rfl⟩,hK g' c' cv h⟩
end
end Go.Proofs.Ytibadaomjlkoaaa
