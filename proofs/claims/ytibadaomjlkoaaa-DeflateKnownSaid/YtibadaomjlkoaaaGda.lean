import Derived.Test.YtibadaomjlkoaaaGx
set_option linter.unusedVariables false
set_option linter.unusedSimpArgs false
open Go.RowKit
namespace Go.Proofs.Ytibadaomjlkoaaa
set_option maxRecDepth 10000
theorem aa.py {P:Program}{g:Nat}{args:List AV}{M:AH}{K Kp:AV→AH→Prop}(h:aa P g args M (fun r M'=>∃b,r.Ji=some b∧K (.bo b) M') Kp):aa P g args M K Kp:=by
 unfold aa at*
 refine⟨h.1,fun ρ w hs aA=>Calls.mono (h.2 ρ w hs aA) fun e w' he=>?_⟩
 obtain⟨ρ',M',h1,h2,h3⟩:=he
 cases e with
 |returned v=>
  obtain⟨r,e1,e2,b,h4,h5⟩:=h3
  exact⟨ρ',M',h1,h2,.bo b,by rw[e1,AV.uK ρ' h4];rfl,trivial,h5⟩
 |panicked ch=>exact⟨ρ',M',h1,h2,h3⟩
 |outgrown=>exact h3.elim
structure It where
 w:Int
 k:Int
 u:Nat
 deriving DecidableEq,Inhabited
def gF (a b:It):Bool:=decide (a.w<b.w)||(decide (a.w=b.w)&&decide (a.k<b.k))
abbrev mz (u n:Nat)(cu:Nat→Nat)(x:It):List AV:=[.int .i64 x.w,.int .i64 x.k,.sl u x.u 0 n (cu x.u)]
abbrev gU (u n:Nat)(cu:Nat→Nat)(L:List It):Nat→List AV:=fun j=>mz u n cu (L.getD j default)
def AD (n:Nat)(cu:Nat→Nat)(x:It):List AV:=[.int .i64 x.w,.int .i64 x.k,.sl 2 x.u 0 n (cu x.u)]
def gI (n:Nat)(cu:Nat→Nat)(L:List It):Nat→List AV:=fun j=>AD n cu (L.getD j default)
def uF (us:Nat→List Int)(cu:Nat→Nat):Nat→ae:=fun r=>.ints .i64 (us r) (cu r)
def qH (n:Nat)(cu:Nat→Nat)(us:Nat→List Int)(m g h hc c:Nat)(L:List It):AH:=[.one true 0 (.cells [.sl 1 g 0 h hc]),.one true g (.cI 3 L.length (gI n cu L) c),.bu false m (uF us cu)]
theorem DX {n m g h hc c:Nat}{cu:Nat→Nat}{us:Nat→List Int}{L:List It}:lJ (qH n cu us m g h hc c L).length (qH n cu us m g h hc c L):=⟨rfl,fun _=>rfl,fun _=>trivial,trivial⟩
def cU (L:List It)(i j:Nat):List It:=(L.set i (L.getD j default)).set j (L.getD i default)
theorem bm (L:List It)(i j:Nat):(cU L i j).length=L.length:=by simp[cU]
section
variable{n m g h hc c:Nat}{cu:Nat→Nat}{us:Nat→List Int}{L:List It}{K Kp:AV→AH→Prop}
theorem qg (hK:K (.int .i64 (h:Int)) (qH n cu us m g h hc c L)):aa Try.prog 94 [.sl 1 g 0 h hc] (qH n cu us m g h hc c L) K Kp:=by
 refine NR (fun _=>[]) [] rfl ?_
 refine Rs ?_
 exact hK
theorem kJ {i j:Nat}{vi vj:Int}(Rz:vi=(i:Int))(U7:vj=(j:Int))(hi:i<h)(hj:j<h)(hh:h≤L.length)(hK:K (.bo (gF (L.getD i default) (L.getD j default))) (qH n cu us m g h hc c L)):
 aa Try.prog 121 [.sl 1 g 0 h hc,.int .i64 vi,.int .i64 vj] (qH n cu us m g h hc c L) K Kp:=by
 subst Rz;subst U7
 refine aa.py ?_
 refine J2 (fun _=>[1]) [] rfl ?_
 refine Qs ?_
 refine And.intro (fun h1=>?_) (fun h1=>?_)
 ·refine Qs ?_
  refine⟨_,rfl,?_⟩
  have e:gF (L.getD i default) (L.getD j default)=true:=by unfold gF;simp only[Int.toNat_natCast]at h1;rw[h1];rfl
  rw[e]at hK;exact hK
 ·refine Qs ?_
  refine And.intro (fun h2=>?_) (fun h2=>?_)
  ·refine Qs ?_
   refine⟨_,rfl,?_⟩
   have e:gF (L.getD i default) (L.getD j default)=decide ((L.getD i default).k<(L.getD j default).k):=by unfold gF;simp only[Int.toNat_natCast]at h1 h2;rw[h1,h2];simp
   rw[e]at hK;exact hK
  ·refine Qs ?_
   refine⟨_,rfl,?_⟩
   have e:gF (L.getD i default) (L.getD j default)=false:=by unfold gF;simp only[Int.toNat_natCast]at h1 h2;rw[h1,h2];simp
   rw[e]at hK;exact hK
theorem I8 {b:Bool}{p:Prop}(hb:b=true)(h:p):bp b p:=by subst hb;exact h
theorem G3 (i j:Nat)(hi:i<L.length)(hj:j<L.length):(fun r=>match Nat.beq r j with|true=>cZ (match Nat.beq j i with|true=>cZ (gI n cu L i) 0 (gI n cu L j)|false=>gI n cu L j) 0 (gI n cu L i)|false=>match Nat.beq r i with|true=>cZ (gI n cu L i) 0 (gI n cu L j)|false=>gI n cu L r)=gI n cu (cU L i j):=by
 have key:∀a b:Nat,cZ (gI n cu L a) 0 (gI n cu L b)=gI n cu L b:=fun a b=>rfl
 funext r
 have hg:gI n cu (cU L i j) r=if r=j then gI n cu L i else if r=i then gI n cu L j else gI n cu L r:=by
  unfold gI cU
  by_cases h1:r=j
  ·subst h1;rw[if_pos rfl];simp[List.getD_eq_getElem?_getD,hj]
  ·by_cases h2:r=i
   ·subst h2;rw[if_neg h1,if_pos rfl,List.getD_eq_getElem?_getD,List.getElem?_set_ne (Ne.symm h1),List.getElem?_set_self hi];rfl
   ·rw[if_neg h1,if_neg h2];simp[List.getD_eq_getElem?_getD,List.getElem?_set_ne (Ne.symm h1),List.getElem?_set_ne (Ne.symm h2)]
 rw[hg]
 cases h1:Nat.beq r j with
 |true=>
  obtain rfl:=Nat.eq_of_beq_eq_true h1
  rw[if_pos rfl]
  cases Nat.beq r i<;>rfl
 |false=>
  rw[if_neg (Nat.ne_of_beq_eq_false h1)]
  cases h2:Nat.beq r i with
  |true=>
   obtain rfl:=Nat.eq_of_beq_eq_true h2
   rw[if_pos rfl];exact key _ _
  |false=>rw[if_neg (Nat.ne_of_beq_eq_false h2)]
theorem kI {i j:Nat}{vi vj:Int}(Rz:vi=(i:Int))(U7:vj=(j:Int))(hi:i<h)(hj:j<h)(hh:h≤L.length)(tT:L.length≤c)(hK:K (.aG []) (qH n cu us m g h hc c (cU L i j))):
 aa Try.prog 122 [.sl 1 g 0 h hc,.int .i64 vi,.int .i64 vj] (qH n cu us m g h hc c L) K Kp:=by
 subst Rz;subst U7
 have jV:i<L.length:=by omega
 have rp:j<L.length:=by omega
 rw[show qH n cu us m g h hc c (cU L i j)=[AO.one true 0 (.cells [.sl 1 g 0 h hc]),AO.one true g (.cI 3 L.length (gI n cu (cU L i j)) c),AO.bu false m (uF us cu)] by unfold qH;rw[bm],←G3 i j jV rp]at hK
 refine J1 (fun _=>[1]) [] rfl ?_
 refine Qs ?_
 conv=>whnf
 refine(I8 ?_ ?_:bp (Nat.ble 3 (match Nat.beq (j:Int).toNat (i:Int).toNat with|true=>cZ (gI n cu L (i:Int).toNat) 0 (gI n cu L (j:Int).toNat)|false=>gI n cu L (j:Int).toNat).length) _)
 ·cases Nat.beq (j:Int).toNat (i:Int).toNat<;>rfl
 refine Qs ?_
 exact hK
end
end Go.Proofs.Ytibadaomjlkoaaa
open Go.RowKit
namespace Go.Proofs.Ytibadaomjlkoaaa
set_option maxRecDepth 10000
def iY (n:Nat)(L:List It)(i:Nat):Nat:=if 2*i+2<n∧gF (L.getD (2*i+2) default) (L.getD (2*i+1) default)=true then 2*i+2 else 2*i+1
def fo:Nat→Nat→List It→Nat→List It
 |0,_,L,_=>L
 |f+1,n,L,i=>if 2*i+1<n then if gF (L.getD (iY n L i) default) (L.getD i default)=true then fo f n (cU L i (iY n L i)) (iY n L i)else L else L
def kd (n:Nat)(L:List It)(i:Nat):List It:=fo (n-i) n L i
theorem nh {n i:Nat}{L:List It}(h:2*i+1<n):i<iY n L i∧iY n L i<n:=by unfold iY;split<;>omega
theorem uo:∀(f f' n:Nat)(L:List It)(i:Nat),n-i≤f→n-i≤f'→fo f n L i=fo f' n L i
 |0,0,_,_,_,_,_=>rfl
 |0,f'+1,n,L,i,h,_=>by simp only[fo];rw[if_neg (by omega)]
 |f+1,0,n,L,i,_,h=>by simp only[fo];rw[if_neg (by omega)]
 |f+1,f'+1,n,L,i,h,h'=>by
  simp only[fo]
  by_cases h1:2*i+1<n
  ·have hk:=nh (L:=L) h1
   rw[if_pos h1,if_pos h1,uo f f' n _ _ (by omega) (by omega)]
  ·rw[if_neg h1,if_neg h1]
theorem I3 (n:Nat)(L:List It)(i:Nat):kd n L i=if 2*i+1<n then if gF (L.getD (iY n L i) default) (L.getD i default)=true then kd n (cU L i (iY n L i)) (iY n L i)else L else L:=by
 unfold kd
 by_cases h1:2*i+1<n
 ·have hk:=nh (L:=L) h1
  obtain⟨f,hf⟩:∃f,n-i=f+1:=⟨n-i-1,by omega⟩
  rw[if_pos h1,hf,fo,if_pos h1,uo f (n-iY n L i) n _ _ (by omega) (Nat.le_refl _)]
 ·rw[if_neg h1]
  cases hf:n-i with
  |zero=>rfl
  |succ f=>simp only[fo];rw[if_neg h1]
theorem wY:∀(f n:Nat)(L:List It)(i:Nat),(fo f n L i).length=L.length
 |0,_,_,_=>rfl
 |f+1,n,L,i=>by
  simp only[fo]
  split
  ·split
   ·rw[wY f,bm]
   ·rfl
  ·rfl
theorem g9 (n:Nat)(L:List It)(i:Nat):(kd n L i).length=L.length:=wY _ _ _ _
section
variable{n m g h dh c:Nat}{cu:Nat→Nat}{us:Nat→List Int}{K Kp:AV→AH→Prop}
theorem wW {L:List It}{i0 N:Nat}{vi vN:Int}(Rz:vi=(i0:Int))(Yk:vN=(N:Int))(hi:i0≤N)(hN:N≤h)(hh:h≤L.length)(tT:L.length≤c)(hb:L.length≤1099511627776)(hK:∀b,K (.bo b) (qH n cu us m g h dh c (kd N L i0))):
 aa Try.prog 96 [.iU 131 (.ptr 0 0 0),.int .i64 vi,.int .i64 vN] (qH n cu us m g h dh c L) K Kp:=by
 subst Rz;subst Yk
 refine aa.py ?_
 refine NP (fun _=>[]) [] rfl ?_
 refine Rs ?_
 refine WO.go (σ:=Nat×List It) (fun s=>s.1≤N∧s.2.length=L.length∧kd N s.2 s.1=kd N L i0) (fun s=>N-s.1)
  (fun s=>[(0,.iU 131 (.ptr 0 0 0)),(1,.int .i64 i0),(2,.int .i64 N),(6,.ff),(7,.int .i64 (s.1:Int))])
  (fun s=>qH n cu us m g h dh c s.2) (i0,L) ag mixed (by kernel_rfl) ⟨hi,rfl,rfl⟩ (aI rfl (aI rfl (aI rfl (aI rfl (aI rfl (trivial)))))) (aI rfl (aI rfl (aI rfl (trivial)))) (fun _=>rfl) (fun _=>rfl) (fun _=>DX) ?_
 rintro⟨i,L'⟩ ⟨h1,h2,h3⟩ d
 simp only at h1 h2 h3
 have hd:=I3 N L' i
 refine Rs ?_
 refine And.intro (fun hc=>?_) (fun hc=>?_)
 ·simp only[decide_eq_true_eq]at hc
  rw[if_neg (by omega),h3]at hd
  refine Qs ?_
  refine⟨_,rfl,?_⟩
  have:=hK (decide ((i0:Int)<i))
  rw[hd]at this
  exact this
 ·simp only[decide_eq_false_iff_not]at hc
  rw[if_pos (by omega)]at hd
  refine Qs ?_
  refine And.intro (fun Ma=>?_) (fun Ma=>?_)
  ·simp only[decide_eq_true_eq]at Ma
   refine Qs ?_
   conv=>whnf
   refine Exists.intro 121 (Exists.intro (some 129) (And.intro (by kernel_rfl) ?_))
   refine Qs ?_
   refine kJ (i:=2*i+2) (j:=2*i+1) (L:=L') (by show 2*(i:Int)+1+1=_;omega) (by show 2*(i:Int)+1=_;omega) (show 2*i+2<h by omega) (by omega) (by omega) ?_
   refine Qs ?_
   refine And.intro (fun Ah=>?_) (fun Ah=>?_)
   ·have hk:iY N L' i=2*i+2:=by unfold iY;rw[if_pos ⟨by omega,Ah⟩]
    refine Qs ?_
    conv=>whnf
    refine Exists.intro 121 (Exists.intro (some 129) (And.intro (by kernel_rfl) ?_))
    refine Qs ?_
    refine kJ (i:=2*i+2) (j:=i) (L:=L') (by show 2*(i:Int)+1+1=_;omega) rfl (by omega) (by omega) (by omega) ?_
    rw[hk]at hd
    refine Qs ?_
    refine And.intro (fun hx=>?_) (fun hx=>?_)
    ·rw[if_neg (by simpa using hx),h3]at hd
     refine Qs ?_
     refine⟨_,rfl,?_⟩
     have:=hK (decide ((i0:Int)<i))
     rw[hd]at this
     exact this
    ·rw[if_pos (by simpa using hx),h3]at hd
     refine Qs ?_
     conv=>whnf
     refine Exists.intro 122 (Exists.intro (some 129) (And.intro (by kernel_rfl) ?_))
     refine Qs ?_
     refine kI (i:=i) (j:=2*i+2) (L:=L') rfl (by show 2*(i:Int)+1+1=_;omega) (by omega) (by omega) (by omega) (by omega) ?_
     refine Qs ?_
     refine RO.same (2*i+2,cU L' i (2*i+2)) ⟨by show _≤N;omega,by rw[bm];exact h2,hd.symm⟩ (show N-(2*i+2)<N-i by omega) (And.intro rfl (And.intro rfl (And.intro rfl (And.intro rfl (And.intro ?_ trivial))))) (aI rfl (aI rfl (aI rfl (trivial))))
     show AV.int .i64 (2*(i:Int)+1+1)=AV.int .i64 ((2*i+2:Nat):Int)
     congr 1
   ·have hk:iY N L' i=2*i+1:=by unfold iY;rw[if_neg (by rintro⟨_,h⟩;rw[h]at Ah;cases Ah)]
    refine Qs ?_
    conv=>whnf
    refine Exists.intro 121 (Exists.intro (some 129) (And.intro (by kernel_rfl) ?_))
    refine Qs ?_
    refine kJ (i:=2*i+1) (j:=i) (L:=L') (by show 2*(i:Int)+1=_;omega) rfl (by omega) (by omega) (by omega) ?_
    rw[hk]at hd
    refine Qs ?_
    refine And.intro (fun hx=>?_) (fun hx=>?_)
    ·rw[if_neg (by simpa using hx),h3]at hd
     refine Qs ?_
     refine⟨_,rfl,?_⟩
     have:=hK (decide ((i0:Int)<i))
     rw[hd]at this
     exact this
    ·rw[if_pos (by simpa using hx),h3]at hd
     refine Qs ?_
     conv=>whnf
     refine Exists.intro 122 (Exists.intro (some 129) (And.intro (by kernel_rfl) ?_))
     refine Qs ?_
     refine kI (i:=i) (j:=2*i+1) (L:=L') rfl (by show 2*(i:Int)+1=_;omega) (by omega) (by omega) (by omega) (by omega) ?_
     refine Qs ?_
     refine RO.same (2*i+1,cU L' i (2*i+1)) ⟨by show _≤N;omega,by rw[bm];exact h2,hd.symm⟩ (show N-(2*i+1)<N-i by omega) (And.intro rfl (And.intro rfl (And.intro rfl (And.intro rfl (And.intro ?_ trivial))))) (aI rfl (aI rfl (aI rfl (trivial))))
     show AV.int .i64 (2*(i:Int)+1)=AV.int .i64 ((2*i+1:Nat):Int)
     congr 1
  ·have hk:iY N L' i=2*i+1:=by unfold iY;rw[if_neg (by rintro⟨h,_⟩;simp at Ma;omega)]
   refine Qs ?_
   conv=>whnf
   refine Exists.intro 121 (Exists.intro (some 129) (And.intro (by kernel_rfl) ?_))
   refine Qs ?_
   refine kJ (i:=2*i+1) (j:=i) (L:=L') (by show 2*(i:Int)+1=_;omega) rfl (by omega) (by omega) (by omega) ?_
   rw[hk]at hd
   refine Qs ?_
   refine And.intro (fun hx=>?_) (fun hx=>?_)
   ·rw[if_neg (by simpa using hx),h3]at hd
    refine Qs ?_
    refine⟨_,rfl,?_⟩
    have:=hK (decide ((i0:Int)<i))
    rw[hd]at this
    exact this
   ·rw[if_pos (by simpa using hx),h3]at hd
    refine Qs ?_
    conv=>whnf
    refine Exists.intro 122 (Exists.intro (some 129) (And.intro (by kernel_rfl) ?_))
    refine Qs ?_
    refine kI (i:=i) (j:=2*i+1) (L:=L') rfl (by show 2*(i:Int)+1=_;omega) (by omega) (by omega) (by omega) (by omega) ?_
    refine Qs ?_
    refine RO.same (2*i+1,cU L' i (2*i+1)) ⟨by show _≤N;omega,by rw[bm];exact h2,hd.symm⟩ (show N-(2*i+1)<N-i by omega) (And.intro rfl (And.intro rfl (And.intro rfl (And.intro rfl (And.intro ?_ trivial))))) (aI rfl (aI rfl (aI rfl (trivial))))
    show AV.int .i64 (2*(i:Int)+1)=AV.int .i64 ((2*i+1:Nat):Int)
    congr 1
def gG (n:Nat):Nat→List It→List It
 |0,L=>L
 |i+1,L=>gG n i (kd n L i)
theorem wH (n:Nat):∀(i:Nat)(L:List It),(gG n i L).length=L.length
 |0,_=>rfl
 |i+1,L=>by rw[gG,wH n i,g9]
theorem FX {L:List It}(hh:h≤L.length)(tT:L.length≤c)(hb:L.length≤1099511627776)(hK:K (.aG []) (qH n cu us m g h dh c (gG h (h/2) L))):
 aa Try.prog 78 [.iU 131 (.ptr 0 0 0)] (qH n cu us m g h dh c L) K Kp:=by
 have hq:Int.tdiv (h:Int) 2=((h/2:Nat):Int):=by rw[Int.tdiv_eq_ediv_of_nonneg (by omega)];rfl
 refine N3 (fun _=>[]) [] rfl ?_
 refine Qs ?_
 conv=>whnf
 refine Exists.intro 94 (Exists.intro (some 129) (And.intro (by kernel_rfl) ?_))
 refine Qs ?_
 refine qg ?_
 refine Rs ?_
 refine WO.go (σ:=Nat×List It) (fun s=>s.1≤h/2∧s.2.length=L.length∧gG h s.1 s.2=gG h (h/2) L) (fun s=>s.1)
  (fun s=>[(0,.iU 131 (.ptr 0 0 0)),(2,.int .i64 h),(3,.int .i64 ((s.1:Int)-1))])
  (fun s=>qH n cu us m g h dh c s.2) (h/2,L) ag mixed (by kernel_rfl) ⟨Nat.le_refl _,rfl,rfl⟩ (And.intro rfl (And.intro rfl (And.intro ?_ trivial))) (aI rfl (aI rfl (aI rfl (trivial)))) (fun _=>rfl) (fun _=>rfl) (fun _=>DX) ?_
 ·show AV.int .i64 (Int.tdiv (h:Int) 2-1)=AV.int .i64 (((h/2:Nat):Int)-1)
  rw[hq]
 rintro⟨i,L'⟩ ⟨h1,h2,h3⟩ d
 simp only at h1 h2 h3
 refine Rs ?_
 refine And.intro (fun hc=>?_) (fun hc=>?_)
 ·simp only[decide_eq_true_eq]at hc
  obtain⟨j,rfl⟩:∃j,i=j+1:=⟨i-1,by omega⟩
  refine Rs ?_
  refine wW (L:=L') (h:=h) (c:=c) (i0:=j) (N:=h) (by show((j+1:Nat):Int)-1=_;omega) rfl (by omega) (by omega) (by omega) (by omega) (by omega) fun b=>?_
  refine Rs ?_
  refine RO.same (j,kd h L' j) ⟨by show j≤_;omega,by rw[g9];exact h2,h3⟩ (Nat.lt_succ_self j) (And.intro rfl (And.intro rfl (And.intro ?_ trivial))) (aI rfl (aI rfl (aI rfl (trivial))))
  show AV.int .i64 (((j+1:Nat):Int)-1-1)=AV.int .i64 ((j:Int)-1)
  congr 1;omega
 ·simp only[decide_eq_false_iff_not]at hc
  obtain rfl:i=0:=by omega
  refine Rs ?_
  simp only[gG]at h3
  subst h3
  exact hK
end
end Go.Proofs.Ytibadaomjlkoaaa
open Go.RowKit
namespace Go.Proofs.Ytibadaomjlkoaaa
set_option maxRecDepth 10000
def eA (h:Nat)(L:List It):List It:=kd (h-1) (cU L 0 (h-1)) 0
theorem dK (h:Nat)(L:List It):(eA h L).length=L.length:=by unfold eA;rw[g9,bm]
section
variable{n m g h dh c:Nat}{cu:Nat→Nat}{us:Nat→List Int}{K Kp:AV→AH→Prop}
theorem FA {L:List It}(hh:h+1≤L.length)(L9:h+1≤dh)(hb:L.length≤1099511627776)(hK:K (.iU 127 (.agg (AD n cu (L.getD h default)))) (qH n cu us m g h dh c L)):
 aa Try.prog 123 [.ptr 0 0 0] (qH n cu us m g (h+1) dh c L) K Kp:=by
 refine aa.cg ?_
 have e:(((h+1:Nat):Int)-1).toNat=h:=by omega
 refine J0 (fun _=>[]) [] rfl ?_
 refine Qs ?_
 refine Exists.intro (qH n cu us m g (((h+1:Nat):Int)-1).toNat dh c L) (And.intro (aI rfl (aI rfl (aI rfl (trivial)))) (And.intro DX (And.intro rfl ?_)))
 show K (.iU 127 (.agg (AD n cu (L.getD (((h+1:Nat):Int)-1).toNat default)))) _
 rw[e]
 exact hK
theorem F3 {L:List It}(hh:h+1≤L.length)(tT:L.length≤c)(L9:h+1≤dh)(hb:L.length≤1099511627776)(hK:K (.iU 127 (.agg (AD n cu ((eA (h+1) L).getD h default)))) (qH n cu us m g h dh c (eA (h+1) L))):
 aa Try.prog 97 [.iU 131 (.ptr 0 0 0)] (qH n cu us m g (h+1) dh c L) K Kp:=by
 refine NO (fun _=>[]) [] rfl ?_
 refine Qs ?_
 conv=>whnf
 refine Exists.intro 94 (Exists.intro (some 129) (And.intro (by kernel_rfl) ?_))
 refine Qs ?_
 refine qg ?_
 refine Qs ?_
 conv=>whnf
 refine Exists.intro 122 (Exists.intro (some 129) (And.intro (by kernel_rfl) ?_))
 refine Qs ?_
 refine kI (i:=0) (j:=h) (L:=L) rfl (by show((h+1:Nat):Int)-1=_;omega) (by omega) (by omega) (by omega) (by omega) ?_
 refine Rs ?_
 refine wW (L:=cU L 0 h) (h:=h+1) (c:=c) (i0:=0) (N:=h) rfl (by show((h+1:Nat):Int)-1=_;omega) (by omega) (by omega) (by rw[bm];omega) (by rw[bm];omega) (by rw[bm];omega) fun b=>?_
 refine Qs ?_
 conv=>whnf
 refine Exists.intro 123 (Exists.intro none (And.intro (by kernel_rfl) ?_))
 refine FA (L:=eA (h+1) L) (by rw[dK];omega) (by omega) (by rw[dK];omega) ?_
 refine Rs ?_
 exact hK
def qO (a g h dh:Nat):AO:=.one true 0 (.cells [.sl a g 0 h dh])
def aO (u n:Nat)(cu:Nat→Nat)(g c:Nat)(L:List It):AO:=.one true g (.cI 3 L.length (gU u n cu L) c)
theorem Ua {M:AH}{fn q a u h':Nat}{args:List AV}{r0:AV}{L L':List It}(h0:∀K:AV→AH→Prop,K r0 (qH n cu us m g h' dh c L')→aa Try.prog fn args (qH n cu us m g h dh c L) K (fun _ _=>False))
 (hq:M[q]?=some (qO a g h dh))(ha:M[a]?=some (aO u n cu g c L))(hu:M[u]?=some (.bu false m (uF us cu)))(eJ:(Nat.beq q a||Nat.beq q u||Nat.beq a u)=false)
 (jW:AV.oT [.own q,.own a,.eZ u] args=true)(hK:K (r0.rn [.own q,.own a,.eZ u] M.length) ((M.set q (qO a g h' dh)).set a (aO u n cu g c L'))):
 aa Try.prog fn (AV.qZ [.own q,.own a,.eZ u] M.length args) M K Kp:=by
 simp only[Bool.or_eq_false_iff]at eJ
 refine aa.lift [.own q,.own a,.eZ u] (h0 (fun r M=>r=r0∧M=qH n cu us m g h' dh c L') ⟨rfl,rfl⟩) rfl
  (by simp[bB,TE.eV,TE.i,eJ.1.1,eJ.1.2,eJ.2,jW]) ⟨⟨hq,rfl⟩,⟨ha,rfl⟩,⟨rfl,_,hu,rfl⟩,trivial⟩ ⟨rfl,fun _=>rfl,fun _=>trivial,trivial⟩ ?_ (fun _ _ h=>h.elim)
 rintro r M' ⟨rfl,rfl⟩
 refine⟨⟨rfl,rfl,rfl,rfl⟩,?_⟩
 rw[←List.append_nil ((M.set q _).set a _)]at hK
 exact hK
theorem Kd {M:AH}{q a u:Nat}{L:List It}(hq:M[q]?=some (qO a g h dh))(ha:M[a]?=some (aO u n cu g c L))(hu:M[u]?=some (.bu false m (uF us cu)))(eJ:(Nat.beq q a||Nat.beq q u||Nat.beq a u)=false)
 (hK:K (.int .i64 (h:Int)) ((M.set q (qO a g h dh)).set a (aO u n cu g c L))):
 aa Try.prog 94 [.sl a g 0 h dh] M K Kp:=
 Ua (args:=[.sl 1 g 0 h dh]) (fun K hk=>qg hk) hq ha hu eJ rfl hK
theorem Em {M:AH}{q a u:Nat}{L:List It}(hq:M[q]?=some (qO a g h dh))(ha:M[a]?=some (aO u n cu g c L))(hu:M[u]?=some (.bu false m (uF us cu)))(eJ:(Nat.beq q a||Nat.beq q u||Nat.beq a u)=false)
 (hh:h≤L.length)(tT:L.length≤c)(hb:L.length≤1099511627776)(hK:K (.aG []) ((M.set q (qO a g h dh)).set a (aO u n cu g c (gG h (h/2) L)))):
 aa Try.prog 78 [.iU 131 (.ptr q 0 0)] M K Kp:=
 Ua (args:=[.iU 131 (.ptr 0 0 0)]) (fun K hk=>FX hh tT hb hk) hq ha hu eJ rfl hK
theorem LR {M:AH}{q a u:Nat}{L:List It}(hq:M[q]?=some (qO a g (h+1) dh))(ha:M[a]?=some (aO u n cu g c L))(hu:M[u]?=some (.bu false m (uF us cu)))(eJ:(Nat.beq q a||Nat.beq q u||Nat.beq a u)=false)
 (hh:h+1≤L.length)(tT:L.length≤c)(L9:h+1≤dh)(hb:L.length≤1099511627776)
 (hK:K (.iU 127 (.agg (mz u n cu ((eA (h+1) L).getD h default)))) ((M.set q (qO a g h dh)).set a (aO u n cu g c (eA (h+1) L)))):
 aa Try.prog 97 [.iU 131 (.ptr q 0 0)] M K Kp:=
 Ua (args:=[.iU 131 (.ptr 0 0 0)]) (fun K hk=>F3 hh tT L9 hb hk) hq ha hu eJ rfl hK
theorem E9 {L:List It}(hh:h+1≤L.length)(tT:L.length≤c)(L9:h+1≤dh)(hb:L.length≤1099511627776)(hK:K (.agg (AD n cu ((eA (h+1) L).getD h default))) (qH n cu us m g h dh c (eA (h+1) L))):
 aa Try.prog 79 [.ptr 0 0 0] (qH n cu us m g (h+1) dh c L) K Kp:=by
 refine aa.cg ?_
 refine N2 (fun _=>[]) [] rfl ?_
 refine Qs ?_
 refine LR (q:=0) (a:=1) (u:=2) (L:=L) rfl rfl rfl rfl hh tT L9 hb ?_
 refine Qs ?_
 exact Exists.intro (qH n cu us m g h dh c (eA (h+1) L)) (And.intro (aI rfl (aI rfl (aI rfl (trivial)))) (And.intro DX (And.intro rfl hK)))
theorem JW {M:AH}{q a u:Nat}{L:List It}(hq:M[q]?=some (qO a g (h+1) dh))(ha:M[a]?=some (aO u n cu g c L))(hu:M[u]?=some (.bu false m (uF us cu)))(eJ:(Nat.beq q a||Nat.beq q u||Nat.beq a u)=false)
 (hh:h+1≤L.length)(tT:L.length≤c)(L9:h+1≤dh)(hb:L.length≤1099511627776)
 (hK:K (.agg (mz u n cu ((eA (h+1) L).getD h default))) ((M.set q (qO a g h dh)).set a (aO u n cu g c (eA (h+1) L)))):
 aa Try.prog 79 [.ptr q 0 0] M K Kp:=
 Ua (args:=[.ptr 0 0 0]) (fun K hk=>E9 hh tT L9 hb hk) hq ha hu eJ rfl hK
theorem p5 {M:AH}{q a u:Nat}{L:List It}(hq:M[q]?=some (qO a g (h+1) dh))(ha:M[a]?=some (aO u n cu g c L))(hu:M[u]?=some (.bu false m (uF us cu)))(eJ:(Nat.beq q a||Nat.beq q u||Nat.beq a u)=false)
 (hh:h+1≤L.length)(tT:L.length≤c)(L9:h+1≤dh)(hb:L.length≤1099511627776)(x:It)(hx:(eA (h+1) L).getD h default=x)(O9:x.u<m)(ZS:Nat.blt q M.length=true)
 (hK:K (.agg [.int .i64 x.w,.int .i64 x.k,.sl M.length 0 0 n (cu x.u)]) ((M.set q (qO a g h dh)).set a (aO u n cu g c (eA (h+1) L))++[.one false 0 (.ints .i64 (us x.u) (cu x.u))])):
 aa Try.prog 79 [.ptr q 0 0] M K Kp:=by
 refine aa.eU (JW hq ha hu eJ hh tT L9 hb ?_)
 rw[hx]
 simp only[Bool.or_eq_false_iff]at eJ
 refine⟨_,_,Vw.pull (i:=u) (g:=x.u) (x:=.ints .i64 (us x.u) (cu x.u)) ?_ ?_,hK⟩
 ·unfold slot
  rw[List.getElem?_set_ne (Nat.ne_of_beq_eq_false eJ.2),List.getElem?_set_ne (Nat.ne_of_beq_eq_false eJ.1.2),hu]
  simp only[a9,if_pos O9,uF]
 ·simp[AV.iW,AV.rm,qi]
end
end Go.Proofs.Ytibadaomjlkoaaa
open Go.RowKit
namespace Go.Proofs.Ytibadaomjlkoaaa
set_option maxRecDepth 10000
theorem Vw.cI {M:AH}{i g sz n c:Nat}{get:Nat→List AV}{l:List AV}(get':Nat→List AV)(hm:M[i]?=some (.one true g (.cI sz n get c)))(h:∀r,r<n→get' r=get r):Vw M (M.set i (.one true g (.cI sz n get' c))) l l:=by
 intro ρ w hs aA
 obtain⟨h1,h2⟩:=kA (x':=.cI sz n get' c) hs hm (Nat.le_refl _) (fun k v hv=>by
  have Qq:(ae.cI sz n get c).at k=some v:=by
   simp only[ae.at]at hv⊢
   split at hv
   ·rename_i aZ
    rw[if_pos aZ,←h _ (Nat.div_lt_of_lt_mul (by rw[Nat.mul_comm];exact aZ))];exact hv
   ·cases hv
  refine⟨v,Qq,rfl,?_⟩
  rcases hs.holds i g true _ (ak hm)with⟨q,e1,e2⟩|⟨_,e2⟩
  ·obtain⟨c,e,fr,k1,k2,k3,k4⟩:=e2.out rfl
   exact(k3 k v Qq).1
  ·exfalso
   simp only[ae.at]at Qq
   obtain⟨rfl,_⟩:=e2
   simp at Qq) (fun h=>h)
 exact⟨ρ,h1,h2,rfl,aA⟩
def u0 (n:Nat)(cu:Nat→Nat)(c:Nat)(L:List It):AO:=.one false 0 (.cI 3 L.length (gU 1 n cu L) c)
section
variable{n m c c0:Nat}{cu:Nat→Nat}{us:Nat→List Int}{L:List It}{Kp:AV→AH→Prop}
theorem AB (hb:L.length≤1000000000):aa Try.prog 93 [.sl 0 0 0 L.length c0] [u0 n cu c L,.bu false m (uF us cu)]
 (fun r M=>∃g' c',r=.sl 2 g' 0 L.length c'∧M=[u0 n cu c L,.bu false m (uF us cu),aO 1 n cu g' c' L]∧L.length≤c') Kp:=by
 refine aa.eU ?_
 refine NS (fun _=>[]) [] rfl ?_
 refine Qs ?_
 intro b hb
 refine Qs ?_
 refine And.intro (fun h1=>?_) (fun h1=>?_)
 ·obtain⟨h2,rfl⟩:=hb (by simpa using h1)
  refine Qs ?_
  refine⟨_,_,Vw.nil (x:=.cI 3 L.length (gU 1 n cu L) 0) ⟨h2,rfl⟩,0,0,?_,rfl,by omega⟩
  show AV.sl 2 0 0 0 0=AV.sl 2 0 0 L.length 0
  rw[h2]
 ·refine Qs ?_
  refine And.intro (fun q _=>⟨rfl,rfl⟩) ?_
  refine And.intro ⟨by omega,by show(0+L.length)*40≤_;omega⟩ ?_
  refine Exists.intro (gU 1 n cu L) (And.intro (fun q _=>by rw[if_neg (Nat.not_lt_zero q)];rfl) (fun c1 tW=>?_))
  refine Qs ?_
  refine⟨_,_,Vw.refl _ _,1,c1,?_,?_,by omega⟩
  ·show AV.sl 2 1 0 (0+L.length) c1=_
   rw[Nat.zero_add]
  ·show[u0 n cu c L,AO.bu false m (uF us cu),AO.one true 1 (.cI 3 (0+L.length) (gU 1 n cu L) c1)]=_
   rw[Nat.zero_add];rfl
theorem Az {xs:List Int}(hb:xs.length≤17592186044416){Kp}:
 aa Try.prog 95 [.sl 0 0 0 xs.length c0] [.one false 0 (.ints .i64 xs c)]
  (fun r M=>∃g' c',r=.sl 1 g' 0 xs.length c'∧M=[.one false 0 (.ints .i64 xs c),.one true g' (.ints .i64 xs c')]∧xs.length≤c') Kp:=by
 refine aa.eU ?_
 refine NQ (fun _=>[]) [] rfl ?_
 refine Qs ?_
 intro b hb
 refine Qs ?_
 refine And.intro (fun h1=>?_) (fun h1=>?_)
 ·obtain⟨rfl,rfl⟩:=hb (by simpa using h1)
  refine Qs ?_
  exact⟨_,_,Vw.nil (x:=.ints .i64 [] 0) ⟨rfl,rfl⟩,0,0,rfl,rfl,Nat.le_refl _⟩
 ·refine Qs ?_
  intro ys rP
  obtain rfl:xs=ys:=by rw[rP];simp
  refine Qs ?_
  intro c1 tW
  refine Qs ?_
  refine⟨_,_,Vw.refl _ _,1,c1,?_,rfl,by omega⟩
  show AV.sl 1 1 0 (0+xs.length) c1=_
  rw[Nat.zero_add]
theorem xa {M:AH}{K:AV→AH→Prop}{i g n co:Nat}{o:Bool}{xs:List Int}(hi:M[i]?=some (.one o g (.ints .i64 xs co)))(hn:n=xs.length)(hb:xs.length≤17592186044416)
 (h:∀g' c',xs.length≤c'→K (.sl M.length g' 0 xs.length c') (M++[.one true g' (.ints .i64 xs c')])):aa Try.prog 95 [.sl i g 0 n c] M K Kp:=by
 subst hn
 refine aa.lift [.ep i g 0] (Az (xs:=xs) (c0:=c) (c:=co) (Kp:=fun _ _=>False) hb) rfl rfl ⟨⟨_,_,_,rfl,ak hi,eh.same rfl (fun h=>h)⟩,trivial⟩ ⟨trivial,trivial⟩ ?_ (fun _ _ h=>h.elim)
 rintro r M' ⟨g',c',rfl,rfl,rr⟩
 exact⟨⟨rfl,rfl⟩,h g' c' rr⟩
def eQ (i:Nat)(L:List It):List It:=L.mapIdx fun j x=>if j<i then{x with k:=(j:Int)}else x
theorem dN (i:Nat)(L:List It):(eQ i L).length=L.length:=by simp[eQ]
theorem jS (i:Nat)(L:List It)(j:Nat)(hj:j<L.length):(eQ i L).getD j default=if j<i then{L.getD j default with k:=(j:Int)}else L.getD j default:=by
 simp[eQ,List.getD_eq_getElem?_getD,hj]
theorem wi {u:Nat}(i:Nat)(L:List It)(r:Nat)(hr:r<L.length)(hi:i<L.length):
 gU u n cu (eQ (i+1) L) r=(match Nat.beq r i with|true=>cZ (gU u n cu (eQ i L) i) 1 [.int .i64 (i:Int)]|false=>gU u n cu (eQ i L) r):=by
 cases h:Nat.beq r i with
 |true=>
  obtain rfl:=Nat.eq_of_beq_eq_true h
  show mz u n cu ((eQ (r+1) L).getD r default)=cZ (mz u n cu ((eQ r L).getD r default)) 1 [.int .i64 (r:Int)]
  rw[jS _ _ _ hr,jS _ _ _ hr,if_pos (by omega),if_neg (by omega)]
  rfl
 |false=>
  have eJ:=Nat.ne_of_beq_eq_false h
  show mz u n cu ((eQ (i+1) L).getD r default)=mz u n cu ((eQ i L).getD r default)
  rw[jS _ _ _ hr,jS _ _ _ hr]
  by_cases h1:r<i
  ·rw[if_pos (by omega),if_pos h1]
  ·rw[if_neg (by omega),if_neg h1]
end
end Go.Proofs.Ytibadaomjlkoaaa
open Go.RowKit
namespace Go.Proofs.Ytibadaomjlkoaaa
set_option maxRecDepth 10000
theorem jZ {L:List It}{j:Nat}(h:j<L.length):L.getD j default∈L:=by
 rw[List.getD_eq_getElem?_getD,List.getElem?_eq_getElem h];exact List.getElem_mem h
theorem wv {L:List It}{i j:Nat}(hi:i<L.length)(hj:j<L.length){x:It}(h:x∈cU L i j):x∈L:=by
 unfold cU at h
 rcases List.mem_or_eq_of_mem_set h with h|rfl
 ·rcases List.mem_or_eq_of_mem_set h with h|rfl
  ·exact h
  ·exact jZ hj
 ·exact jZ hi
theorem wx:∀{f n:Nat}{L:List It}{i:Nat},n≤L.length→∀{x:It},x∈fo f n L i→x∈L
 |0,_,_,_,_,_,h=>h
 |f+1,n,L,i,hn,x,h=>by
  simp only[fo]at h
  split at h
  ·rename_i h1
   have hk:=nh (L:=L) h1
   split at h
   ·exact wv (by omega) (by omega) (wx (by rw[bm];exact hn) h)
   ·exact h
  ·exact h
theorem wy {n:Nat}{L:List It}{i:Nat}(hn:n≤L.length){x:It}(h:x∈kd n L i):x∈L:=wx hn h
theorem qt {n:Nat}{x:It}:∀(i:Nat){L:List It},n≤L.length→x∈gG n i L→x∈L
 |0,_,_,h=>h
 |i+1,L,hn,h=>wy hn (qt i (by rw[g9];exact hn) h)
theorem fU {h:Nat}{L:List It}(h0:0<h)(hn:h≤L.length){x:It}(hx:x∈eA h L):x∈L:=by
 unfold eA at hx
 exact wv (by omega) (by omega) (wy (by rw[bm];omega) hx)
theorem zU {i:Nat}{L:List It}{x:It}(h:x∈eQ i L):∃y∈L,y.w=x.w∧y.u=x.u:=by
 obtain⟨j,hj,rfl⟩:=List.getElem_of_mem h
 have rp:j<L.length:=by simpa[eQ]using hj
 refine⟨L[j],List.getElem_mem rp,?_⟩
 simp only[eQ,List.getElem_mapIdx]
 split<;>exact⟨rfl,rfl⟩
theorem wj (L:List It):eQ 0 L=L:=by
 apply List.ext_getElem?
 intro j
 simp[eQ]
def dJ:Nat→List It→List It
 |0,_=>[]
 |h+1,L=>(eA (h+1) L).getD h default::dJ h (eA (h+1) L)
def bX:List It→List (It×It)
 |a::b::r=>(a,b)::bX r
 |_=>[]
def dx (L:List It):List It:=gG L.length (L.length/2) (eQ L.length L)
theorem ky (L:List It):(dx L).length=L.length:=by unfold dx;rw[wH,dN]
def av (L:List It):List (It×It):=bX (dJ L.length (dx L))
def aY (ps:List (It×It)):List It:=ps.mapIdx fun j p=>⟨p.1.w+p.2.w,0,j⟩
def yO (us:Nat→List Int)(ps:List (It×It))(j:Nat):List Int:=List.zipWith (·+·) (us (ps.getD j default).1.u) (us (ps.getD j default).2.u)
theorem cJ (ps:List (It×It)):(aY ps).length=ps.length:=by simp[aY]
theorem FB:∀l:List It,l.length≤1→bX l=[]
 |[],_=>rfl
 |[_],_=>rfl
 |_::_::_,h=>by simp at h
theorem mU:∀(h:Nat)(L:List It),(dJ h L).length=h
 |0,_=>rfl
 |h+1,L=>by simp[dJ,mU h]
def Jy (m:Nat)(B:Int)(x:It):Prop:=x.u<m∧0≤x.w∧x.w≤B
theorem y0 {us:Nat→List Int}{ps:List (It×It)}{p:It×It}{r:Nat}(h:r<ps.length):yO us (ps++[p]) r=yO us ps r:=by
 unfold yO;simp[List.getD_eq_getElem?_getD,List.getElem?_append_left h]
theorem y5 {us:Nat→List Int}{ps:List (It×It)}{a b:It}:yO us (ps++[(a,b)]) ps.length=List.zipWith (·+·) (us a.u) (us b.u):=by
 unfold yO;simp[List.getD_eq_getElem?_getD]
theorem we {ps:List (It×It)}{p:It×It}{r:Nat}(h:r<ps.length):(aY (ps++[p])).getD r default=(aY ps).getD r default:=by
 unfold aY;rw[List.mapIdx_append,List.getD_eq_getElem?_getD,List.getElem?_append_left (by simpa using h),←List.getD_eq_getElem?_getD]
theorem wg {ps:List (It×It)}{a b:It}:(aY (ps++[(a,b)])).getD ps.length default=⟨a.w+b.w,0,ps.length⟩:=by
 unfold aY;simp[List.getD_eq_getElem?_getD]
theorem Bx {ps:List (It×It)}{r:Nat}(h:r<ps.length):((aY ps).getD r default).u=r:=by
 unfold aY;simp[List.getD_eq_getElem?_getD,h]
structure sj (n m:Nat)(us:Nat→List Int)(B Bu:Int)(L:List It):Prop where
 len:L.length≤1000000
 items:∀x∈L,Jy m B x
 ul:∀r,r<m→(us r).length=n
 uv:∀r,r<m→∀v∈us r,0≤v∧v≤Bu
 hn:n≤1000000
 hB:B≤2305843009213693952
 QK:Bu≤2305843009213693952
section
variable{n m c c0:Nat}{cu:Nat→Nat}{us:Nat→List Int}{L:List It}{Kp:AV→AH→Prop}{B Bu:Int}
theorem rW (ok:sj n m us B Bu L){r:Nat}(hr:r<m){i:Nat}(hi:i<n):0≤(us r).getD i 0∧(us r).getD i 0≤Bu:=by
 have hl:=ok.ul r hr
 have:(us r).getD i 0∈us r:=by
  rw[List.getD_eq_getElem?_getD,List.getElem?_eq_getElem (by omega)];exact List.getElem_mem _
 exact ok.uv r hr _ this
theorem Bs (ok:sj n m us B Bu L):aa Try.prog 77 [.sl 0 0 0 L.length c0] [u0 n cu c L,.bu false m (uF us cu)]
 (fun r M=>∃g' c' cv,r=.sl 3 g' 0 (av L).length c'∧M=[u0 n cu c L,.bu false m (uF us cu),.bu true (av L).length (uF (yO us (av L)) cv),aO 2 n cv g' c' (aY (av L))]∧(av L).length≤c') Kp:=by
 have hlen:=ok.len
 refine aa.dc ?_
 refine N4 (fun _=>[8,9]) [] rfl ?_
 refine Qs ?_
 refine aa.mono (AB (n:=n) (m:=m) (cu:=cu) (us:=us) (L:=L) (Kp:=fun _ _=>False) (by omega)) ?_ (fun _ _ h=>h.elim)
 rintro r M ⟨gC,cC,rfl,rfl,Z8⟩
 refine Rs ?_
 refine WO.go (σ:=Nat×List It) (fun s=>s.1≤L.length∧s.2=eQ s.1 L) (fun s=>L.length-s.1)
  (fun s=>[(2,.ns),(3,.ptr 3 0 0),(14,.int .i64 L.length),(15,.int .i64 (s.1:Int))])
  (fun s=>[u0 n cu c L,.bu false m (uF us cu),aO 1 n cu gC cC s.2,qO 2 gC L.length cC]) (0,L) ag mixed (by kernel_rfl) ⟨Nat.zero_le _,(wj L).symm⟩ (aI rfl (aI rfl (aI rfl (aI rfl (trivial))))) (aI rfl (aI rfl (aI rfl (aI rfl (trivial))))) (fun _=>rfl) (fun _=>rfl) (fun _=>⟨fun _=>rfl,fun _=>trivial,fun _=>rfl,rfl,trivial⟩) ?_
 rintro⟨i,L1⟩ ⟨h1,h2⟩ d
 simp only at h1 h2
 have JC:L1.length=L.length:=by rw[h2,dN]
 refine Rs ?_
 refine And.intro (fun hc=>?_) (fun hc=>?_)
 ·simp only[decide_eq_true_eq]at hc
  refine Qs ?_
  refine RO.mk (i+1,eQ (i+1) L) [(2,.ns),(3,.ptr 3 0 0),(14,.int .i64 L.length),(15,.int .i64 ((i:Int)+1))] _ ⟨by show i+1≤_;omega,rfl⟩ (show L.length-(i+1)<L.length-i by omega) (aI rfl (aI rfl (aI rfl (aI rfl (trivial))))) rfl (Vw.cI (i:=2) (gU 1 n cu (eQ (i+1) L)) rfl ?_) ?_
  ·intro r hr
   rw[JC]at hr
   have:=wi (u:=1) (n:=n) (cu:=cu) i L r hr (by omega)
   rw[this,h2]
   rfl
  ·refine And.intro rfl (And.intro rfl (And.intro ?_ (And.intro rfl trivial)))
   show aO 1 n cu gC cC (eQ (i+1) L)=AO.one true gC (.cI 3 L1.length (gU 1 n cu (eQ (i+1) L)) cC)
   unfold aO
   rw[JC,dN]
 ·simp only[decide_eq_false_iff_not]at hc
  obtain rfl:i=L.length:=by omega
  have tT:L1.length≤cC:=by omega
  refine Rs ?_
  refine Em (q:=3) (a:=2) (u:=1) (L:=L1) rfl rfl rfl rfl (by omega) tT (by omega) ?_
  have dz:gG L.length (L.length/2) L1=dx L:=by rw[h2];rfl
  rw[dz]
  refine Rs ?_
  refine WO.Mf (σ:=Nat×List It×List (It×It)×Nat×Nat×(Nat→Nat)) (fun(h,Lc,ps,gO,cO,cv)=>Lc.length=L.length∧h≤L.length∧ps++bX (dJ h Lc)=av L∧(∀x∈Lc,Jy m B x)∧(aY ps).length≤cO∧2*ps.length+h≤L.length) (fun(h,_,_,_,_,_)=>h)
   (fun(h,Lc,ps,gO,cO,cv)=>[(3,.ptr 3 0 0),(5,.sl 5 gO 0 (aY ps).length cO)])
   (fun(h,Lc,ps,gO,cO,cv)=>[u0 n cu c L,.bu false m (uF us cu),aO 1 n cu gC cC Lc,qO 2 gC h cC,.bu true ps.length (uF (yO us ps) cv),aO 4 n cv gO cO (aY ps)]) (L.length,dx L,[],0,0,fun _=>0) ag mixed (by kernel_rfl)
   [(3,.ptr 3 0 0),(5,.ns)] _ ⟨ky L,Nat.le_refl _,rfl,?_,Nat.zero_le _,by simp⟩ (aI rfl (aI rfl (trivial))) rfl (Vw.trans (Vw.SP (own:=true) (f:=uF (yO us []) (fun _=>0))) (Vw.xU (x:=.cI 3 (aY []).length (gU 4 n (fun _=>0) (aY [])) 0) ⟨rfl,rfl⟩ ?_)) (aI rfl (aI rfl (aI rfl (aI rfl (aI rfl (aI rfl (trivial))))))) (fun _=>rfl) (fun _=>rfl) (fun _=>⟨fun _=>rfl,fun _=>trivial,fun _=>rfl,rfl,fun _=>trivial,fun _=>rfl,trivial⟩) ?_
  ·intro x hx
   obtain⟨y,hy,e1,e2⟩:=zU (qt _ (by rw[dN];exact Nat.le_refl _) hx)
   have:=ok.items y hy
   unfold Jy at this⊢
   rw[←e1,←e2];exact this
  ·exact And.intro (.inl rfl) (And.intro (.inr ⟨rfl,rfl⟩) trivial)
  rintro⟨h,Lc,ps,gO,cO,cv⟩ ⟨i1,i2,i3,i4,i5,i6⟩ d
  refine Rs ?_
  refine Kd (q:=3) (a:=2) (u:=1) (L:=Lc) rfl rfl rfl rfl ?_
  refine Rs ?_
  refine And.intro (fun hc=>?_) (fun hc=>?_)
  ·simp only[decide_eq_true_eq]at hc
   obtain⟨h',rfl⟩:∃h',h=h'+2:=⟨h-2,by omega⟩
   have Pb:(eA (h'+2) Lc).getD (h'+1) default∈Lc:=fU (by omega) (by omega) (jZ (by rw[dK];omega))
   generalize P3:eA (h'+2) Lc=L2
   have oB:L2.length=Lc.length:=by rw[←P3,dK]
   have SG:∀x∈L2,Jy m B x:=fun x hx=>i4 x (fU (by omega) (by omega) (P3▸hx))
   rw[P3]at Pb
   generalize BO:L2.getD (h'+1) default=x1
   have Pa:(eA (h'+1) L2).getD h' default∈L2:=fU (by omega) (by omega) (jZ (by rw[dK];omega))
   generalize EI:eA (h'+1) L2=L3
   have kq:L3.length=Lc.length:=by rw[←EI,dK,oB]
   have Me:∀x∈L3,Jy m B x:=fun x hx=>SG x (fU (by omega) (by omega) (EI▸hx))
   rw[EI]at Pa
   generalize Ul:L3.getD h' default=x2
   rw[BO]at Pb
   rw[Ul]at Pa
   obtain⟨Ug,ZM,ZL⟩:=i4 x1 Pb
   obtain⟨Uf,ZK,ZJ⟩:=SG x2 Pa
   have hB:=ok.hB
   have QK:=ok.QK
   have hn:=ok.hn
   have Qr:=ok.ul _ Ug
   have ZR:=ok.ul _ Uf
   refine Rs ?_
   refine p5 (q:=3) (a:=2) (u:=1) (h:=h'+1) (L:=Lc) rfl rfl rfl rfl (by omega) (by omega) (by omega) (by omega) x1 (by rw[P3];exact BO) Ug rfl ?_
   rw[P3]
   refine Rs ?_
   refine p5 (q:=3) (a:=2) (u:=1) (h:=h') (L:=L2) rfl rfl rfl rfl (by omega) (by omega) (by omega) (by omega) x2 (by rw[EI];exact Ul) Uf rfl ?_
   rw[EI]
   refine Rs ?_
   refine And.intro ?_ ?_
   ·refine Rs ?_
    refine xa (i:=6) (xs:=us x1.u) rfl Qr.symm (by omega) fun gx cx YX=>?_
    refine Rs ?_
    refine WO.go (σ:=Nat×List Int) (fun s=>s.1≤n∧s.2.length=n∧(∀j,j<s.1→s.2.getD j 0=(us x1.u).getD j 0+(us x2.u).getD j 0)∧∀j,s.1≤j→s.2.getD j 0=(us x1.u).getD j 0) (fun s=>n-s.1)
     (fun s=>[(3,.ptr 3 0 0),(5,.sl 5 gO 0 (aY ps).length cO),(8,.ptr 11 0 0),(41,.sl 7 0 0 n (cu x2.u)),(42,.int .i64 n),(43,.int .i64 (s.1:Int))])
     (fun s=>[u0 n cu c L,.bu false m (uF us cu),aO 1 n cu gC cC L3,qO 2 gC h' cC,.bu true ps.length (uF (yO us ps) cv),aO 4 n cv gO cO (aY ps),.gone,.one false 0 (.ints .i64 (us x2.u) (cu x2.u)),.gone,.gone,.one true gx (.ints .i64 s.2 cx),.one true 0 (.cells [.int .i64 (x1.w+x2.w),.int .i64 0,.sl 10 gx 0 (us x1.u).length cx])]) (0,us x1.u) ag mixed (by kernel_rfl) ⟨Nat.zero_le _,Qr,fun j hj=>absurd hj (Nat.not_lt_zero j),fun _ _=>rfl⟩ (aI rfl (aI rfl (aI rfl (aI rfl (aI rfl (aI rfl (trivial))))))) (aI rfl (aI rfl (aI rfl (aI rfl (aI rfl (aI rfl (aI trivial (aI rfl (aI trivial (aI trivial (aI rfl (aI rfl (trivial))))))))))))) (fun _=>rfl) (fun _=>rfl) (fun _=>⟨fun _=>rfl,fun _=>trivial,fun _=>rfl,rfl,fun _=>trivial,fun _=>rfl,trivial,trivial,trivial,trivial,trivial,rfl,trivial⟩) ?_
    rintro⟨i,ys⟩ ⟨j1,j2,j3,j4⟩ d
    simp only at j1 j2 j3 j4
    refine Rs ?_
    refine And.intro (fun hc=>?_) (fun hc=>?_)
    ·simp only[decide_eq_true_eq]at hc
     have hi:i<n:=by omega
     have b1:=rW ok Ug (i:=i) (by omega)
     have b2:=rW ok Uf (i:=i) (by omega)
     have fC:=j4 i (Nat.le_refl _)
     have Vq:-9223372036854775808≤ys.getD ((i:Int).toNat+0) 0+(us x2.u).getD ((i:Int).toNat+0) 0∧ys.getD ((i:Int).toNat+0) 0+(us x2.u).getD ((i:Int).toNat+0) 0≤9223372036854775807:=by
      simp only[Int.toNat_natCast,Nat.add_zero];omega
     refine Qs ?_
     refine RO.same (i+1,ys.set ((i:Int).toNat+0) (ys.getD ((i:Int).toNat+0) 0+(us x2.u).getD ((i:Int).toNat+0) 0)) ⟨by show i+1≤n;omega,by simpa using j2,?_,?_⟩ (show n-(i+1)<n-i by omega) (aI rfl (aI rfl (aI rfl (aI rfl (aI rfl (aI rfl (trivial))))))) (aI rfl (aI rfl (aI rfl (aI rfl (aI rfl (aI rfl (aI trivial (aI rfl (aI trivial (aI trivial (aI rfl (aI rfl (trivial)))))))))))))
     ·intro j hj
      simp only[Int.toNat_natCast,Nat.add_zero]
      by_cases Ix:j=i
      ·subst Ix
       simp only[List.getD_eq_getElem?_getD,List.getElem?_set_self (show j<ys.length by omega)]at fC⊢
       simp only[Option.getD_some,fC]
      ·have:=j3 j (by have:j<i+1:=hj;omega)
       simp only[List.getD_eq_getElem?_getD,List.getElem?_set_ne (Ne.symm Ix)]at this⊢
       exact this
     ·intro j hj
      have rp:i+1≤j:=hj
      simp only[Int.toNat_natCast,Nat.add_zero]
      have:=j4 j (by omega)
      simp only[List.getD_eq_getElem?_getD,List.getElem?_set_ne (show i≠j by omega)]at this⊢
      exact this
    ·simp only[decide_eq_false_iff_not]at hc
     have A6:i=n:=by omega
     have rP:ys=List.zipWith (·+·) (us x1.u) (us x2.u):=by
      apply List.ext_getElem
      ·simp;omega
      ·intro j q1 q2
       have:=j3 j (by omega)
       simp only[List.getD_eq_getElem?_getD,List.getElem?_eq_getElem q1,List.getElem?_eq_getElem (show j<(us x1.u).length by omega),List.getElem?_eq_getElem (show j<(us x2.u).length by omega),Option.getD_some]at this
       rw[this,List.getElem_zipWith]
     have Im:=cJ ps
     refine Rs ?_
     refine And.intro (fun q hq=>?_) ?_
     ·match q,hq with
      |0,_=>exact⟨rfl,rfl⟩
     refine And.intro ⟨by show(aY ps).length+1≤_;omega,by show((aY ps).length+1)*40≤_;omega⟩ ?_
     refine Exists.intro (fun q=>if q<ps.length then gU 4 n cv (aY ps) q else[.int .i64 (x1.w+x2.w),.int .i64 0,.sl 10 gx 0 (us x1.u).length cx]) (And.intro (fun q hq=>?_) (fun c1 tW=>?_))
     ·by_cases Ig:q<(aY ps).length
      ·rw[if_pos Ig]
       show(if q<ps.length then _ else _)=_
       rw[if_pos (by omega)]
      ·have A2:q<(aY ps).length+1:=hq
       have eI:q-(aY ps).length=0:=by omega
       rw[if_neg Ig,eI]
       show(if q<ps.length then _ else _)=_
       rw[if_neg (by omega)]
       rfl
     have B0:(aY ps).length+1≤c1:=tW
     refine Rs ?_
     refine RO.mk (h',L3,ps++[(x1,x2)],gO+1,c1,fun r=>if r=ps.length then cx else cv r) [(3,.ptr 3 0 0),(5,.sl 5 (gO+1) 0 ((aY ps).length+1) c1)] _ ⟨by omega,by omega,?_,Me,?_,?_⟩ (show h'<h'+2 by omega) (aI rfl (aI rfl (trivial))) rfl
      (Vw.freeze (iu:=4) (k:=10) (o:=5) (uF (yO us (ps++[(x1,x2)])) (fun r=>if r=ps.length then cx else cv r)) (gU 4 n (fun r=>if r=ps.length then cx else cv r) (aY (ps++[(x1,x2)]))) rfl rfl rfl rfl ?_ ?_ ?_ ?_) ?_
     ·rw[←i3]
      simp only[dJ,P3,EI,BO,Ul,bX,List.append_assoc,List.singleton_append]
     ·show(aY (ps++[(x1,x2)])).length≤c1
      rw[cJ,List.length_append];simp only[List.length_singleton];omega
     ·show 2*(ps++[(x1,x2)]).length+h'≤L.length
      rw[List.length_append];simp only[List.length_singleton];omega
     ·intro r hr
      show ae.ints .i64 _ _=ae.ints .i64 _ _
      simp only[y0 hr,if_neg (Nat.ne_of_lt hr)]
     ·show ae.ints .i64 _ _=ae.ints .i64 ys cx
      simp only[y5,if_true,rP]
     ·intro r hr
      have Ev:r<(aY ps).length+1:=hr
      show AV.iW _ (mz 4 n _ ((aY (ps++[(x1,x2)])).getD r default))=(if r<ps.length then _ else _)
      by_cases ov:r<ps.length
      ·rw[if_pos ov,we ov]
       show _=[AV.int .i64 ((aY ps).getD r default).w,AV.int .i64 ((aY ps).getD r default).k,AV.sl 4 ((aY ps).getD r default).u 0 n (cv ((aY ps).getD r default).u)]
       simp only[AV.iW,AV.rm,Bx ov,bK (show¬(4=4∧r=ps.length) by omega),if_neg (Nat.ne_of_lt ov)]
      ·obtain rfl:r=ps.length:=by omega
       rw[if_neg ov,wg]
       simp only[AV.iW,AV.rm,gM,if_true,Qr]
     ·show AV.iW _ [AV.ptr 3 0 0,AV.sl 5 (gO+1) 0 (aY (ps++[(x1,x2)])).length c1]=[AV.ptr 3 0 0,AV.sl 5 (gO+1) 0 ((aY ps).length+1) c1]
      rw[cJ,List.length_append,Im]
      rfl
     ·refine And.intro rfl (And.intro rfl (And.intro rfl (And.intro rfl (And.intro ?_ (And.intro ?_ trivial)))))
      ·show AO.bu true (ps++[(x1,x2)]).length _=AO.bu true (ps.length+1) _
       rw[List.length_append];rfl
      ·show aO 4 n _ (gO+1) c1 (aY (ps++[(x1,x2)]))=AO.one true (gO+1) (.cI 3 ((aY ps).length+1) _ c1)
       unfold aO
       rw[cJ (ps++[(x1,x2)]),List.length_append,Im];rfl
   ·refine Rs ?_
    refine xa (i:=6) (xs:=us x1.u) rfl Qr.symm (by omega) fun gx cx YX=>?_
    refine Rs ?_
    refine WO.go (σ:=Nat×List Int) (fun s=>s.1≤n∧s.2.length=n∧(∀j,j<s.1→s.2.getD j 0=(us x1.u).getD j 0+(us x2.u).getD j 0)∧∀j,s.1≤j→s.2.getD j 0=(us x1.u).getD j 0) (fun s=>n-s.1)
     (fun s=>[(3,.ptr 3 0 0),(5,.sl 5 gO 0 (aY ps).length cO),(8,.ptr 10 0 0),(41,.sl 7 0 0 n (cu x2.u)),(42,.int .i64 n),(43,.int .i64 (s.1:Int))])
     (fun s=>[u0 n cu c L,.bu false m (uF us cu),aO 1 n cu gC cC L3,qO 2 gC h' cC,.bu true ps.length (uF (yO us ps) cv),aO 4 n cv gO cO (aY ps),.gone,.one false 0 (.ints .i64 (us x2.u) (cu x2.u)),.gone,.gone,.one true 0 (.cells [.int .i64 (x1.w+x2.w),.int .i64 0,.sl 11 gx 0 (us x1.u).length cx]),.one true gx (.ints .i64 s.2 cx)]) (0,us x1.u) ag mixed (by kernel_rfl) ⟨Nat.zero_le _,Qr,fun j hj=>absurd hj (Nat.not_lt_zero j),fun _ _=>rfl⟩ (aI rfl (aI rfl (aI rfl (aI rfl (aI rfl (aI rfl (trivial))))))) (aI rfl (aI rfl (aI rfl (aI rfl (aI rfl (aI rfl (aI trivial (aI rfl (aI trivial (aI trivial (aI rfl (aI rfl (trivial))))))))))))) (fun _=>rfl) (fun _=>rfl) (fun _=>⟨fun _=>rfl,fun _=>trivial,fun _=>rfl,rfl,fun _=>trivial,fun _=>rfl,trivial,trivial,trivial,trivial,rfl,trivial,trivial⟩) ?_
    rintro⟨i,ys⟩ ⟨j1,j2,j3,j4⟩ d
    simp only at j1 j2 j3 j4
    refine Rs ?_
    refine And.intro (fun hc=>?_) (fun hc=>?_)
    ·simp only[decide_eq_true_eq]at hc
     have hi:i<n:=by omega
     have b1:=rW ok Ug (i:=i) (by omega)
     have b2:=rW ok Uf (i:=i) (by omega)
     have fC:=j4 i (Nat.le_refl _)
     have Vq:-9223372036854775808≤ys.getD ((i:Int).toNat+0) 0+(us x2.u).getD ((i:Int).toNat+0) 0∧ys.getD ((i:Int).toNat+0) 0+(us x2.u).getD ((i:Int).toNat+0) 0≤9223372036854775807:=by
      simp only[Int.toNat_natCast,Nat.add_zero];omega
     refine Qs ?_
     refine RO.same (i+1,ys.set ((i:Int).toNat+0) (ys.getD ((i:Int).toNat+0) 0+(us x2.u).getD ((i:Int).toNat+0) 0)) ⟨by show i+1≤n;omega,by simpa using j2,?_,?_⟩ (show n-(i+1)<n-i by omega) (aI rfl (aI rfl (aI rfl (aI rfl (aI rfl (aI rfl (trivial))))))) (aI rfl (aI rfl (aI rfl (aI rfl (aI rfl (aI rfl (aI trivial (aI rfl (aI trivial (aI trivial (aI rfl (aI rfl (trivial)))))))))))))
     ·intro j hj
      simp only[Int.toNat_natCast,Nat.add_zero]
      by_cases Ix:j=i
      ·subst Ix
       simp only[List.getD_eq_getElem?_getD,List.getElem?_set_self (show j<ys.length by omega)]at fC⊢
       simp only[Option.getD_some,fC]
      ·have:=j3 j (by have:j<i+1:=hj;omega)
       simp only[List.getD_eq_getElem?_getD,List.getElem?_set_ne (Ne.symm Ix)]at this⊢
       exact this
     ·intro j hj
      have rp:i+1≤j:=hj
      simp only[Int.toNat_natCast,Nat.add_zero]
      have:=j4 j (by omega)
      simp only[List.getD_eq_getElem?_getD,List.getElem?_set_ne (show i≠j by omega)]at this⊢
      exact this
    ·simp only[decide_eq_false_iff_not]at hc
     have A6:i=n:=by omega
     have rP:ys=List.zipWith (·+·) (us x1.u) (us x2.u):=by
      apply List.ext_getElem
      ·simp;omega
      ·intro j q1 q2
       have:=j3 j (by omega)
       simp only[List.getD_eq_getElem?_getD,List.getElem?_eq_getElem q1,List.getElem?_eq_getElem (show j<(us x1.u).length by omega),List.getElem?_eq_getElem (show j<(us x2.u).length by omega),Option.getD_some]at this
       rw[this,List.getElem_zipWith]
     have Im:=cJ ps
     refine Rs ?_
     refine And.intro (fun q hq=>?_) ?_
     ·match q,hq with
      |0,_=>exact⟨rfl,rfl⟩
     refine And.intro ⟨by show(aY ps).length+1≤_;omega,by show((aY ps).length+1)*40≤_;omega⟩ ?_
     refine Exists.intro (fun q=>if q<ps.length then gU 4 n cv (aY ps) q else[.int .i64 (x1.w+x2.w),.int .i64 0,.sl 11 gx 0 (us x1.u).length cx]) (And.intro (fun q hq=>?_) (fun c1 tW=>?_))
     ·by_cases Ig:q<(aY ps).length
      ·rw[if_pos Ig]
       show(if q<ps.length then _ else _)=_
       rw[if_pos (by omega)]
      ·have A2:q<(aY ps).length+1:=hq
       have eI:q-(aY ps).length=0:=by omega
       rw[if_neg Ig,eI]
       show(if q<ps.length then _ else _)=_
       rw[if_neg (by omega)]
       rfl
     have B0:(aY ps).length+1≤c1:=tW
     refine Rs ?_
     refine RO.mk (h',L3,ps++[(x1,x2)],gO+1,c1,fun r=>if r=ps.length then cx else cv r) [(3,.ptr 3 0 0),(5,.sl 5 (gO+1) 0 ((aY ps).length+1) c1)] _ ⟨by omega,by omega,?_,Me,?_,?_⟩ (show h'<h'+2 by omega) (aI rfl (aI rfl (trivial))) rfl
      (Vw.freeze (iu:=4) (k:=11) (o:=5) (uF (yO us (ps++[(x1,x2)])) (fun r=>if r=ps.length then cx else cv r)) (gU 4 n (fun r=>if r=ps.length then cx else cv r) (aY (ps++[(x1,x2)]))) rfl rfl rfl rfl ?_ ?_ ?_ ?_) ?_
     ·rw[←i3]
      simp only[dJ,P3,EI,BO,Ul,bX,List.append_assoc,List.singleton_append]
     ·show(aY (ps++[(x1,x2)])).length≤c1
      rw[cJ,List.length_append];simp only[List.length_singleton];omega
     ·show 2*(ps++[(x1,x2)]).length+h'≤L.length
      rw[List.length_append];simp only[List.length_singleton];omega
     ·intro r hr
      show ae.ints .i64 _ _=ae.ints .i64 _ _
      simp only[y0 hr,if_neg (Nat.ne_of_lt hr)]
     ·show ae.ints .i64 _ _=ae.ints .i64 ys cx
      simp only[y5,if_true,rP]
     ·intro r hr
      have Ev:r<(aY ps).length+1:=hr
      show AV.iW _ (mz 4 n _ ((aY (ps++[(x1,x2)])).getD r default))=(if r<ps.length then _ else _)
      by_cases ov:r<ps.length
      ·rw[if_pos ov,we ov]
       show _=[AV.int .i64 ((aY ps).getD r default).w,AV.int .i64 ((aY ps).getD r default).k,AV.sl 4 ((aY ps).getD r default).u 0 n (cv ((aY ps).getD r default).u)]
       simp only[AV.iW,AV.rm,Bx ov,bK (show¬(4=4∧r=ps.length) by omega),if_neg (Nat.ne_of_lt ov)]
      ·obtain rfl:r=ps.length:=by omega
       rw[if_neg ov,wg]
       simp only[AV.iW,AV.rm,gM,if_true,Qr]
     ·show AV.iW _ [AV.ptr 3 0 0,AV.sl 5 (gO+1) 0 (aY (ps++[(x1,x2)])).length c1]=[AV.ptr 3 0 0,AV.sl 5 (gO+1) 0 ((aY ps).length+1) c1]
      rw[cJ,List.length_append,Im]
      rfl
     ·refine And.intro rfl (And.intro rfl (And.intro rfl (And.intro rfl (And.intro ?_ (And.intro ?_ trivial)))))
      ·show AO.bu true (ps++[(x1,x2)]).length _=AO.bu true (ps.length+1) _
       rw[List.length_append];rfl
      ·show aO 4 n _ (gO+1) c1 (aY (ps++[(x1,x2)]))=AO.one true (gO+1) (.cI 3 ((aY ps).length+1) _ c1)
       unfold aO
       rw[cJ (ps++[(x1,x2)]),List.length_append,Im];rfl
  ·simp only[decide_eq_false_iff_not]at hc
   have e:ps=av L:=by rw[←i3,FB _ (by rw[mU];omega),List.append_nil]
   subst e
   refine Rs ?_
   refine⟨[.eZ 0,.eZ 1,.own 4,.own 5],.sl 3 gO 0 (av L).length cO,[u0 n cu c L,.bu false m (uF us cu),.bu true (av L).length (uF (yO us (av L)) cv),aO 2 n cv gO cO (aY (av L))],⟨?_,rfl,?_,?_,?_⟩,gO,cO,cv,rfl,rfl,by rw[←cJ];exact i5⟩
   ·exact⟨⟨rfl,_,rfl,rfl⟩,⟨rfl,_,rfl,rfl⟩,⟨rfl,rfl⟩,⟨rfl,rfl⟩,trivial⟩
   ·exact⟨fun _=>rfl,fun _=>trivial,fun _=>trivial,fun _=>rfl,trivial⟩
   ·show AV.sl 5 gO 0 (av L).length cO=AV.sl 5 gO 0 (aY (av L)).length cO
    rw[cJ]
   ·intro i hi
    match i,hi with
    |0,_=>exact .inr rfl
    |1,_=>exact .inr rfl
end
end Go.Proofs.Ytibadaomjlkoaaa
open Go.RowKit
namespace Go.Proofs.Ytibadaomjlkoaaa
set_option maxRecDepth 10000
def iR (x:Int):Bool:=decide (x<0)||decide (1099511627776<x)
def qQ (x:Int):Bool:=decide (15<x)
section
variable{xs:List Int}{c c0:Nat}{K Kp:AV→AH→Prop}
theorem GA {x:Int}{M:AH}(hM:M=[.one false 0 (.ints .i64 xs c)])(hK:K (.bo (iR x)) M):aa Try.prog 76 [.int .i64 x] M K Kp:=by
 subst hM
 refine aa.py ?_
 refine N5 (fun _=>[]) [] rfl ?_
 refine Qs ?_
 refine And.intro (fun h1=>?_) (fun h1=>?_)
 ·refine Qs ?_
  refine⟨_,rfl,?_⟩
  have e:iR x=true:=by unfold iR;rw[h1];rfl
  rw[e]at hK;exact hK
 ·refine Qs ?_
  refine⟨_,rfl,?_⟩
  have e:iR x=decide (1099511627776<x):=by unfold iR;rw[h1];rfl
  rw[e]at hK;exact hK
theorem Gz {x:Int}{M:AH}(hM:M=[.one false 0 (.ints .u8 xs c)])(hK:K (.bo (qQ x)) M):aa Try.prog 99 [.int .u8 x] M K Kp:=by
 subst hM
 refine NM (fun _=>[]) [] rfl ?_
 refine Qs ?_
 exact hK
theorem FZ (hl:xs.length≤1000000000)(hK:∀r:Int,(0≤r↔xs.any iR=true)→K (.int .i64 r) [.one false 0 (.ints .i64 xs c)]):
 aa Try.prog 92 [.sl 0 0 0 xs.length c0,.fn (.func 76) [] []] [.one false 0 (.ints .i64 xs c)] K Kp:=by
 refine NT (fun _=>[0]) [] rfl ?_
 refine Rs ?_
 refine WO.go (σ:=Nat) (fun i=>i≤xs.length∧∀j,j<i→iR (xs.getD j 0)=false) (fun i=>xs.length-i)
  (fun i=>[(0,.sl 0 0 0 xs.length c0),(1,.fn (.func 76) [] []),(7,.int .i64 xs.length),(8,.int .i64 (i:Int))]) (fun i=>[.one false 0 (.ints .i64 xs c)]) 0 ag mixed (by kernel_rfl) ⟨Nat.zero_le _,fun j hj=>absurd hj (Nat.not_lt_zero j)⟩ (aI rfl (aI rfl (aI rfl (aI rfl (trivial))))) (aI rfl (trivial)) (fun _=>rfl) (fun _=>rfl) (fun _=>⟨trivial,trivial⟩) ?_
 rintro i ⟨h1,h2⟩ d
 refine Rs ?_
 refine And.intro (fun hc=>?_) (fun hc=>?_)
 ·simp only[decide_eq_true_eq]at hc
  refine Rs ?_
  refine GA (x:=xs.getD ((i:Int).toNat+0) 0) rfl ?_
  refine Rs ?_
  refine And.intro (fun hb=>?_) (fun hb=>?_)
  ·refine Rs ?_
   refine hK _ ⟨fun _=>?_,fun _=>by omega⟩
   rw[List.any_eq_true]
   refine⟨xs.getD i 0,?_,by simpa using hb⟩
   rw[List.getD_eq_getElem?_getD,List.getElem?_eq_getElem (show i<xs.length by omega)];exact List.getElem_mem _
  ·refine Rs ?_
   refine RO.same (i+1) ⟨by omega,fun j hj=>?_⟩ (show xs.length-(i+1)<xs.length-i by omega) (aI rfl (aI rfl (aI rfl (aI rfl (trivial))))) (aI rfl (trivial))
   by_cases e:j=i
   ·subst e;simpa using hb
   ·exact h2 j (by omega)
 ·simp only[decide_eq_false_iff_not]at hc
  have:xs.any iR=false:=by
   rw[List.any_eq_false]
   intro x hx
   obtain⟨j,hj,rfl⟩:=List.getElem_of_mem hx
   have:=h2 j (by omega)
   rw[List.getD_eq_getElem?_getD,List.getElem?_eq_getElem hj]at this
   simpa using this
  refine Rs ?_
  exact hK _ ⟨fun h=>by omega,fun h=>by rw[this]at h;cases h⟩
theorem FY (hl:xs.length≤1000000000)(hK:∀r:Int,(0≤r↔xs.any qQ=true)→K (.int .i64 r) [.one false 0 (.ints .u8 xs c)]):
 aa Try.prog 103 [.sl 0 0 0 xs.length c0,.fn (.func 99) [] []] [.one false 0 (.ints .u8 xs c)] K Kp:=by
 refine J3 (fun _=>[0]) [] rfl ?_
 refine Rs ?_
 refine WO.go (σ:=Nat) (fun i=>i≤xs.length∧∀j,j<i→qQ (xs.getD j 0)=false) (fun i=>xs.length-i)
  (fun i=>[(0,.sl 0 0 0 xs.length c0),(1,.fn (.func 99) [] []),(7,.int .i64 xs.length),(8,.int .i64 (i:Int))]) (fun i=>[.one false 0 (.ints .u8 xs c)]) 0 ag mixed (by kernel_rfl) ⟨Nat.zero_le _,fun j hj=>absurd hj (Nat.not_lt_zero j)⟩ (aI rfl (aI rfl (aI rfl (aI rfl (trivial))))) (aI rfl (trivial)) (fun _=>rfl) (fun _=>rfl) (fun _=>⟨trivial,trivial⟩) ?_
 rintro i ⟨h1,h2⟩ d
 refine Rs ?_
 refine And.intro (fun hc=>?_) (fun hc=>?_)
 ·simp only[decide_eq_true_eq]at hc
  refine Rs ?_
  refine Gz (x:=xs.getD ((i:Int).toNat+0) 0) rfl ?_
  refine Rs ?_
  refine And.intro (fun hb=>?_) (fun hb=>?_)
  ·refine Rs ?_
   refine hK _ ⟨fun _=>?_,fun _=>by omega⟩
   rw[List.any_eq_true]
   refine⟨xs.getD i 0,?_,by simpa using hb⟩
   rw[List.getD_eq_getElem?_getD,List.getElem?_eq_getElem (show i<xs.length by omega)];exact List.getElem_mem _
  ·refine Rs ?_
   refine RO.same (i+1) ⟨by omega,fun j hj=>?_⟩ (show xs.length-(i+1)<xs.length-i by omega) (aI rfl (aI rfl (aI rfl (aI rfl (trivial))))) (aI rfl (trivial))
   by_cases e:j=i
   ·subst e;simpa using hb
   ·exact h2 j (by omega)
 ·simp only[decide_eq_false_iff_not]at hc
  have:xs.any qQ=false:=by
   rw[List.any_eq_false]
   intro x hx
   obtain⟨j,hj,rfl⟩:=List.getElem_of_mem hx
   have:=h2 j (by omega)
   rw[List.getD_eq_getElem?_getD,List.getElem?_eq_getElem hj]at this
   simpa using this
  refine Rs ?_
  exact hK _ ⟨fun h=>by omega,fun h=>by rw[this]at h;cases h⟩
theorem Ge (hl:xs.length≤1000000000)(hK:K (.bo (xs.any iR)) [.one false 0 (.ints .i64 xs c)]):
 aa Try.prog 75 [.sl 0 0 0 xs.length c0,.fn (.func 76) [] []] [.one false 0 (.ints .i64 xs c)] K Kp:=by
 refine N6 (fun _=>[]) [] rfl ?_
 refine Rs ?_
 refine FZ hl fun r hr=>?_
 refine Rs ?_
 have:decide ((0:Int)≤r)=xs.any iR:=by rw[Bool.eq_iff_iff,decide_eq_true_eq];exact hr
 rw[←this]at hK
 exact hK
theorem Gd (hl:xs.length≤1000000000)(hK:K (.bo (xs.any qQ)) [.one false 0 (.ints .u8 xs c)]):
 aa Try.prog 98 [.sl 0 0 0 xs.length c0,.fn (.func 99) [] []] [.one false 0 (.ints .u8 xs c)] K Kp:=by
 refine NN (fun _=>[]) [] rfl ?_
 refine Rs ?_
 refine FY hl fun r hr=>?_
 refine Rs ?_
 have:decide ((0:Int)≤r)=xs.any qQ:=by rw[Bool.eq_iff_iff,decide_eq_true_eq];exact hr
 rw[←this]at hK
 exact hK
theorem EG {M:AH}{i g n co:Nat}{o:Bool}(hi:M[i]?=some (.one o g (.ints .u8 xs co)))(hn:n=xs.length)(hl:xs.length≤1000000000)(hK:K (.bo (xs.any qQ)) M):
 aa Try.prog 98 [.sl i g 0 n c,.fn (.func 99) [] []] M K Kp:=by
 subst hn
 refine aa.lift [.ep i g 0] (Gd (xs:=xs) (c0:=c) (c:=co) (K:=fun r M=>r=.bo (xs.any qQ)∧M=[.one false 0 (.ints .u8 xs co)]) (Kp:=fun _ _=>False) hl ⟨rfl,rfl⟩) rfl rfl ⟨⟨_,_,_,rfl,ak hi,eh.same rfl (fun h=>h)⟩,trivial⟩ ⟨trivial,trivial⟩ ?_ (fun _ _ h=>h.elim)
 rintro r M' ⟨rfl,rfl⟩
 refine⟨⟨rfl,rfl⟩,?_⟩
 rw[←List.append_nil M]at hK
 exact hK
theorem Hz {M:AH}{a g u n m k:Nat}{o:Bool}{cu:Nat→Nat}{us:Nat→List Int}{L:List It}{B Bu:Int}(ok:sj n m us B Bu L)(ha:M[a]?=some (.one o g (.cI 3 L.length (gU u n cu L) c)))(hu:M[u]?=some (.bu false m (uF us cu)))(hk:k=L.length)
 (hK:∀g' c' cv,(av L).length≤c'→K (.sl (M.length+1) g' 0 (av L).length c') (M++[.bu true (av L).length (uF (yO us (av L)) cv),aO M.length n cv g' c' (aY (av L))])):
 aa Try.prog 77 [.sl a g 0 k c0] M K Kp:=by
 subst hk
 refine aa.lift [.ep a g 0,.eZ u] (Bs (c0:=c0) (c:=c) (cu:=cu) (Kp:=fun _ _=>False) ok) rfl rfl ⟨⟨_,_,_,rfl,ak ha,eh.same rfl (fun h=>h)⟩,⟨rfl,_,hu,rfl⟩,trivial⟩ ⟨fun _=>rfl,fun _=>trivial,trivial⟩ ?_ (fun _ _ h=>h.elim)
 rintro r M' ⟨g',c',cv,rfl,rfl,h⟩
 exact⟨⟨rfl,rfl,rfl⟩,hK g' c' cv h⟩
end
end Go.Proofs.Ytibadaomjlkoaaa
