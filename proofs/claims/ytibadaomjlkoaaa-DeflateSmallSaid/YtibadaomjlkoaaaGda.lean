import Derived.Test.YtibadaomjlkoaaaGx
set_option linter.unusedVariables false
set_option linter.unusedSimpArgs false
open Go.RowKit
namespace Go.Proofs.Ytibadaomjlkoaaa
set_option maxRecDepth 10000
theorem aa.p8 {P:Program}{g:Nat}{args:List AV}{M:AH}{K Kp:AV→AH→Prop}(h:aa P g args M (fun r M'=>∃b,r.Kt=some b∧K (.bo b) M') Kp):aa P g args M K Kp:=by
 unfold aa at*
 refine⟨h.1,fun ρ w hs aA=>Calls.mono (h.2 ρ w hs aA) fun e w' he=>?_⟩
 obtain⟨ρ',M',h1,h2,h3⟩:=he
 cases e with
 |returned v=>
  obtain⟨r,e1,e2,b,h4,h5⟩:=h3
  exact⟨ρ',M',h1,h2,.bo b,by rw[e1,AV.vl ρ' h4];rfl,trivial,h5⟩
 |panicked ch=>exact⟨ρ',M',h1,h2,h3⟩
 |outgrown=>exact h3.elim
structure It where
 w:Int
 k:Int
 u:Nat
 deriving DecidableEq,Inhabited
def g8 (a b:It):Bool:=decide (a.w<b.w)||(decide (a.w=b.w)&&decide (a.k<b.k))
abbrev nc (u n:Nat)(cu:Nat→Nat)(x:It):List AV:=[.int .i64 x.w,.int .i64 x.k,.sl u x.u 0 n (cu x.u)]
abbrev gU (u n:Nat)(cu:Nat→Nat)(L:List It):Nat→List AV:=fun j=>nc u n cu (L.getD j default)
def Bo (n:Nat)(cu:Nat→Nat)(x:It):List AV:=[.int .i64 x.w,.int .i64 x.k,.sl 2 x.u 0 n (cu x.u)]
def gI (n:Nat)(cu:Nat→Nat)(L:List It):Nat→List AV:=fun j=>Bo n cu (L.getD j default)
def uF (us:Nat→List Int)(cu:Nat→Nat):Nat→af:=fun r=>.ints .i64 (us r) (cu r)
def qH (n:Nat)(cu:Nat→Nat)(us:Nat→List Int)(m g h hc c:Nat)(L:List It):AH:=[.one true 0 (.cells [.sl 1 g 0 h hc]),.one true g (.cJ 3 L.length (gI n cu L) c),.bG false m (uF us cu)]
theorem E1 {n m g h hc c:Nat}{cu:Nat→Nat}{us:Nat→List Int}{L:List It}:mi (qH n cu us m g h hc c L).length (qH n cu us m g h hc c L):=⟨rfl,fun _=>rfl,fun _=>trivial,trivial⟩
def c9 (L:List It)(i j:Nat):List It:=(L.set i (L.getD j default)).set j (L.getD i default)
theorem br (L:List It)(i j:Nat):(c9 L i j).length=L.length:=by simp[c9]
section
variable{n m g h hc c:Nat}{cu:Nat→Nat}{us:Nat→List Int}{L:List It}{K Kp:AV→AH→Prop}
theorem qQ (hK:K (.int .i64 (h:Int)) (qH n cu us m g h hc c L)):aa Try.prog 94 [.sl 1 g 0 h hc] (qH n cu us m g h hc c L) K Kp:=by
 refine Pr (fun _=>[]) [] rfl ?_
 refine Rs ?_
 exact hK
theorem lh {i j:Nat}{vi vj:Int}(Tl:vi=(i:Int))(WU:vj=(j:Int))(hi:i<h)(hj:j<h)(hh:h≤L.length)(hK:K (.bo (g8 (L.getD i default) (L.getD j default))) (qH n cu us m g h hc c L)):
 aa Try.prog 121 [.sl 1 g 0 h hc,.int .i64 vi,.int .i64 vj] (qH n cu us m g h hc c L) K Kp:=by
 subst Tl;subst WU
 refine aa.p8 ?_
 refine Lg (fun _=>[1]) [] rfl ?_
 refine Qs ?_
 refine And.intro (fun h1=>?_) (fun h1=>?_)
 ·refine Qs ?_
  refine⟨_,rfl,?_⟩
  have e:g8 (L.getD i default) (L.getD j default)=true:=by unfold g8;simp only[Int.toNat_natCast]at h1;rw[h1];rfl
  rw[e]at hK;exact hK
 ·refine Qs ?_
  refine And.intro (fun h2=>?_) (fun h2=>?_)
  ·refine Qs ?_
   refine⟨_,rfl,?_⟩
   have e:g8 (L.getD i default) (L.getD j default)=decide ((L.getD i default).k<(L.getD j default).k):=by unfold g8;simp only[Int.toNat_natCast]at h1 h2;rw[h1,h2];simp
   rw[e]at hK;exact hK
  ·refine Qs ?_
   refine⟨_,rfl,?_⟩
   have e:g8 (L.getD i default) (L.getD j default)=false:=by unfold g8;simp only[Int.toNat_natCast]at h1 h2;rw[h1,h2];simp
   rw[e]at hK;exact hK
theorem Kh {b:Bool}{p:Prop}(hb:b=true)(h:p):bu b p:=by subst hb;exact h
theorem H7 (i j:Nat)(hi:i<L.length)(hj:j<L.length):(fun r=>match Nat.beq r j with|true=>di (match Nat.beq j i with|true=>di (gI n cu L i) 0 (gI n cu L j)|false=>gI n cu L j) 0 (gI n cu L i)|false=>match Nat.beq r i with|true=>di (gI n cu L i) 0 (gI n cu L j)|false=>gI n cu L r)=gI n cu (c9 L i j):=by
 have key:∀a b:Nat,di (gI n cu L a) 0 (gI n cu L b)=gI n cu L b:=fun a b=>rfl
 funext r
 have hg:gI n cu (c9 L i j) r=if r=j then gI n cu L i else if r=i then gI n cu L j else gI n cu L r:=by
  unfold gI c9
  by_cases h1:r=j
  ·subst h1;rw[if_pos rfl];simp[List.getD_eq_getElem?_getD,hj]
  ·by_cases h2:r=i
   ·subst h2;rw[if_neg h1,if_pos rfl,List.getD_eq_getElem?_getD,List.getElem?_set_ne (Ne.symm h1),List.getElem?_set_self hi];rfl
   ·rw[if_neg h1,if_neg h2];simp[List.getD_eq_getElem?_getD,List.getElem?_set_ne (Ne.symm h1),List.getElem?_set_ne (Ne.symm h2)]
 rw[hg]
 cases h1:Nat.beq r j with
 |true=>
  obtain rfl:=Nat.eq_of_beq_eq_true h1
  rw[if_pos rfl]
  cases Nat.beq r i<;>rfl
 |false=>
  rw[if_neg (Nat.ne_of_beq_eq_false h1)]
  cases h2:Nat.beq r i with
  |true=>
   obtain rfl:=Nat.eq_of_beq_eq_true h2
   rw[if_pos rfl];exact key _ _
  |false=>rw[if_neg (Nat.ne_of_beq_eq_false h2)]
theorem lg {i j:Nat}{vi vj:Int}(Tl:vi=(i:Int))(WU:vj=(j:Int))(hi:i<h)(hj:j<h)(hh:h≤L.length)(uJ:L.length≤c)(hK:K (.aL []) (qH n cu us m g h hc c (c9 L i j))):
 aa Try.prog 122 [.sl 1 g 0 h hc,.int .i64 vi,.int .i64 vj] (qH n cu us m g h hc c L) K Kp:=by
 subst Tl;subst WU
 have kv:i<L.length:=by omega
 have rZ:j<L.length:=by omega
 rw[show qH n cu us m g h hc c (c9 L i j)=[AO.one true 0 (.cells [.sl 1 g 0 h hc]),AO.one true g (.cJ 3 L.length (gI n cu (c9 L i j)) c),AO.bG false m (uF us cu)] by unfold qH;rw[br],←H7 i j kv rZ]at hK
 refine Lf (fun _=>[1]) [] rfl ?_
 refine Qs ?_
 conv=>whnf
 refine(Kh ?_ ?_:bu (Nat.ble 3 (match Nat.beq (j:Int).toNat (i:Int).toNat with|true=>di (gI n cu L (i:Int).toNat) 0 (gI n cu L (j:Int).toNat)|false=>gI n cu L (j:Int).toNat).length) _)
 ·cases Nat.beq (j:Int).toNat (i:Int).toNat<;>rfl
 refine Qs ?_
 exact hK
end
end Go.Proofs.Ytibadaomjlkoaaa
open Go.RowKit
namespace Go.Proofs.Ytibadaomjlkoaaa
set_option maxRecDepth 10000
def ju (n:Nat)(L:List It)(i:Nat):Nat:=if 2*i+2<n∧g8 (L.getD (2*i+2) default) (L.getD (2*i+1) default)=true then 2*i+2 else 2*i+1
def fG:Nat→Nat→List It→Nat→List It
 |0,_,L,_=>L
 |f+1,n,L,i=>if 2*i+1<n then if g8 (L.getD (ju n L i) default) (L.getD i default)=true then fG f n (c9 L i (ju n L i)) (ju n L i)else L else L
def kE (n:Nat)(L:List It)(i:Nat):List It:=fG (n-i) n L i
theorem nU {n i:Nat}{L:List It}(h:2*i+1<n):i<ju n L i∧ju n L i<n:=by unfold ju;split<;>omega
theorem u0:∀(f f' n:Nat)(L:List It)(i:Nat),n-i≤f→n-i≤f'→fG f n L i=fG f' n L i
 |0,0,_,_,_,_,_=>rfl
 |0,f'+1,n,L,i,h,_=>by simp only[fG];rw[if_neg (by omega)]
 |f+1,0,n,L,i,_,h=>by simp only[fG];rw[if_neg (by omega)]
 |f+1,f'+1,n,L,i,h,h'=>by
  simp only[fG]
  by_cases h1:2*i+1<n
  ·have hk:=nU (L:=L) h1
   rw[if_pos h1,if_pos h1,u0 f f' n _ _ (by omega) (by omega)]
  ·rw[if_neg h1,if_neg h1]
theorem Kc (n:Nat)(L:List It)(i:Nat):kE n L i=if 2*i+1<n then if g8 (L.getD (ju n L i) default) (L.getD i default)=true then kE n (c9 L i (ju n L i)) (ju n L i)else L else L:=by
 unfold kE
 by_cases h1:2*i+1<n
 ·have hk:=nU (L:=L) h1
  obtain⟨f,hf⟩:∃f,n-i=f+1:=⟨n-i-1,by omega⟩
  rw[if_pos h1,hf,fG,if_pos h1,u0 f (n-ju n L i) n _ _ (by omega) (Nat.le_refl _)]
 ·rw[if_neg h1]
  cases hf:n-i with
  |zero=>rfl
  |succ f=>simp only[fG];rw[if_neg h1]
theorem xG:∀(f n:Nat)(L:List It)(i:Nat),(fG f n L i).length=L.length
 |0,_,_,_=>rfl
 |f+1,n,L,i=>by
  simp only[fG]
  split
  ·split
   ·rw[xG f,br]
   ·rfl
  ·rfl
theorem iE (n:Nat)(L:List It)(i:Nat):(kE n L i).length=L.length:=xG _ _ _ _
section
variable{n m g h dt c:Nat}{cu:Nat→Nat}{us:Nat→List Int}{K Kp:AV→AH→Prop}
theorem xE {L:List It}{i0 N:Nat}{vi vN:Int}(Tl:vi=(i0:Int))(Z2:vN=(N:Int))(hi:i0≤N)(hN:N≤h)(hh:h≤L.length)(uJ:L.length≤c)(hb:L.length≤1099511627776)(hK:∀b,K (.bo b) (qH n cu us m g h dt c (kE N L i0))):
 aa Try.prog 96 [.jo 131 (.ptr 0 0 0),.int .i64 vi,.int .i64 vN] (qH n cu us m g h dt c L) K Kp:=by
 subst Tl;subst Z2
 refine aa.p8 ?_
 refine Pp (fun _=>[]) [] rfl ?_
 refine Rs ?_
 refine WO.go (σ:=Nat×List It) (fun s=>s.1≤N∧s.2.length=L.length∧kE N s.2 s.1=kE N L i0) (fun s=>N-s.1)
  (fun s=>[(0,.jo 131 (.ptr 0 0 0)),(1,.int .i64 i0),(2,.int .i64 N),(6,.ff),(7,.int .i64 (s.1:Int))])
  (fun s=>qH n cu us m g h dt c s.2) (i0,L) ae mixed (by kernel_rfl) ⟨hi,rfl,rfl⟩ (aI rfl (aI rfl (aI rfl (aI rfl (aI rfl (trivial)))))) (aI rfl (aI rfl (aI rfl (trivial)))) (fun _=>rfl) (fun _=>rfl) (fun _=>E1) ?_
 rintro⟨i,L'⟩ ⟨h1,h2,h3⟩ d
 simp only at h1 h2 h3
 have hd:=Kc N L' i
 refine Rs ?_
 refine And.intro (fun hc=>?_) (fun hc=>?_)
 ·simp only[decide_eq_true_eq]at hc
  rw[if_neg (by omega),h3]at hd
  refine Qs ?_
  refine⟨_,rfl,?_⟩
  have:=hK (decide ((i0:Int)<i))
  rw[hd]at this
  exact this
 ·simp only[decide_eq_false_iff_not]at hc
  rw[if_pos (by omega)]at hd
  refine Qs ?_
  refine And.intro (fun NC=>?_) (fun NC=>?_)
  ·simp only[decide_eq_true_eq]at NC
   refine Qs ?_
   conv=>whnf
   refine Exists.intro 121 (Exists.intro (some 129) (And.intro (by kernel_rfl) ?_))
   refine Qs ?_
   refine lh (i:=2*i+2) (j:=2*i+1) (L:=L') (by show 2*(i:Int)+1+1=_;omega) (by show 2*(i:Int)+1=_;omega) (show 2*i+2<h by omega) (by omega) (by omega) ?_
   refine Qs ?_
   refine And.intro (fun A2=>?_) (fun A2=>?_)
   ·have hk:ju N L' i=2*i+2:=by unfold ju;rw[if_pos ⟨by omega,A2⟩]
    refine Qs ?_
    conv=>whnf
    refine Exists.intro 121 (Exists.intro (some 129) (And.intro (by kernel_rfl) ?_))
    refine Qs ?_
    refine lh (i:=2*i+2) (j:=i) (L:=L') (by show 2*(i:Int)+1+1=_;omega) rfl (by omega) (by omega) (by omega) ?_
    rw[hk]at hd
    refine Qs ?_
    refine And.intro (fun hx=>?_) (fun hx=>?_)
    ·rw[if_neg (by simpa using hx),h3]at hd
     refine Qs ?_
     refine⟨_,rfl,?_⟩
     have:=hK (decide ((i0:Int)<i))
     rw[hd]at this
     exact this
    ·rw[if_pos (by simpa using hx),h3]at hd
     refine Qs ?_
     conv=>whnf
     refine Exists.intro 122 (Exists.intro (some 129) (And.intro (by kernel_rfl) ?_))
     refine Qs ?_
     refine lg (i:=i) (j:=2*i+2) (L:=L') rfl (by show 2*(i:Int)+1+1=_;omega) (by omega) (by omega) (by omega) (by omega) ?_
     refine Qs ?_
     refine RO.same (2*i+2,c9 L' i (2*i+2)) ⟨by show _≤N;omega,by rw[br];exact h2,hd.symm⟩ (show N-(2*i+2)<N-i by omega) (And.intro rfl (And.intro rfl (And.intro rfl (And.intro rfl (And.intro ?_ trivial))))) (aI rfl (aI rfl (aI rfl (trivial))))
     show AV.int .i64 (2*(i:Int)+1+1)=AV.int .i64 ((2*i+2:Nat):Int)
     congr 1
   ·have hk:ju N L' i=2*i+1:=by unfold ju;rw[if_neg (by rintro⟨_,h⟩;rw[h]at A2;cases A2)]
    refine Qs ?_
    conv=>whnf
    refine Exists.intro 121 (Exists.intro (some 129) (And.intro (by kernel_rfl) ?_))
    refine Qs ?_
    refine lh (i:=2*i+1) (j:=i) (L:=L') (by show 2*(i:Int)+1=_;omega) rfl (by omega) (by omega) (by omega) ?_
    rw[hk]at hd
    refine Qs ?_
    refine And.intro (fun hx=>?_) (fun hx=>?_)
    ·rw[if_neg (by simpa using hx),h3]at hd
     refine Qs ?_
     refine⟨_,rfl,?_⟩
     have:=hK (decide ((i0:Int)<i))
     rw[hd]at this
     exact this
    ·rw[if_pos (by simpa using hx),h3]at hd
     refine Qs ?_
     conv=>whnf
     refine Exists.intro 122 (Exists.intro (some 129) (And.intro (by kernel_rfl) ?_))
     refine Qs ?_
     refine lg (i:=i) (j:=2*i+1) (L:=L') rfl (by show 2*(i:Int)+1=_;omega) (by omega) (by omega) (by omega) (by omega) ?_
     refine Qs ?_
     refine RO.same (2*i+1,c9 L' i (2*i+1)) ⟨by show _≤N;omega,by rw[br];exact h2,hd.symm⟩ (show N-(2*i+1)<N-i by omega) (And.intro rfl (And.intro rfl (And.intro rfl (And.intro rfl (And.intro ?_ trivial))))) (aI rfl (aI rfl (aI rfl (trivial))))
     show AV.int .i64 (2*(i:Int)+1)=AV.int .i64 ((2*i+1:Nat):Int)
     congr 1
  ·have hk:ju N L' i=2*i+1:=by unfold ju;rw[if_neg (by rintro⟨h,_⟩;simp at NC;omega)]
   refine Qs ?_
   conv=>whnf
   refine Exists.intro 121 (Exists.intro (some 129) (And.intro (by kernel_rfl) ?_))
   refine Qs ?_
   refine lh (i:=2*i+1) (j:=i) (L:=L') (by show 2*(i:Int)+1=_;omega) rfl (by omega) (by omega) (by omega) ?_
   rw[hk]at hd
   refine Qs ?_
   refine And.intro (fun hx=>?_) (fun hx=>?_)
   ·rw[if_neg (by simpa using hx),h3]at hd
    refine Qs ?_
    refine⟨_,rfl,?_⟩
    have:=hK (decide ((i0:Int)<i))
    rw[hd]at this
    exact this
   ·rw[if_pos (by simpa using hx),h3]at hd
    refine Qs ?_
    conv=>whnf
    refine Exists.intro 122 (Exists.intro (some 129) (And.intro (by kernel_rfl) ?_))
    refine Qs ?_
    refine lg (i:=i) (j:=2*i+1) (L:=L') rfl (by show 2*(i:Int)+1=_;omega) (by omega) (by omega) (by omega) (by omega) ?_
    refine Qs ?_
    refine RO.same (2*i+1,c9 L' i (2*i+1)) ⟨by show _≤N;omega,by rw[br];exact h2,hd.symm⟩ (show N-(2*i+1)<N-i by omega) (And.intro rfl (And.intro rfl (And.intro rfl (And.intro rfl (And.intro ?_ trivial))))) (aI rfl (aI rfl (aI rfl (trivial))))
    show AV.int .i64 (2*(i:Int)+1)=AV.int .i64 ((2*i+1:Nat):Int)
    congr 1
def g9 (n:Nat):Nat→List It→List It
 |0,L=>L
 |i+1,L=>g9 n i (kE n L i)
theorem xk (n:Nat):∀(i:Nat)(L:List It),(g9 n i L).length=L.length
 |0,_=>rfl
 |i+1,L=>by rw[g9,xk n i,iE]
theorem GX {L:List It}(hh:h≤L.length)(uJ:L.length≤c)(hb:L.length≤1099511627776)(hK:K (.aL []) (qH n cu us m g h dt c (g9 h (h/2) L))):
 aa Try.prog 78 [.jo 131 (.ptr 0 0 0)] (qH n cu us m g h dt c L) K Kp:=by
 have hq:Int.tdiv (h:Int) 2=((h/2:Nat):Int):=by rw[Int.tdiv_eq_ediv_of_nonneg (by omega)];rfl
 refine PB (fun _=>[]) [] rfl ?_
 refine Qs ?_
 conv=>whnf
 refine Exists.intro 94 (Exists.intro (some 129) (And.intro (by kernel_rfl) ?_))
 refine Qs ?_
 refine qQ ?_
 refine Rs ?_
 refine WO.go (σ:=Nat×List It) (fun s=>s.1≤h/2∧s.2.length=L.length∧g9 h s.1 s.2=g9 h (h/2) L) (fun s=>s.1)
  (fun s=>[(0,.jo 131 (.ptr 0 0 0)),(2,.int .i64 h),(3,.int .i64 ((s.1:Int)-1))])
  (fun s=>qH n cu us m g h dt c s.2) (h/2,L) ae mixed (by kernel_rfl) ⟨Nat.le_refl _,rfl,rfl⟩ (And.intro rfl (And.intro rfl (And.intro ?_ trivial))) (aI rfl (aI rfl (aI rfl (trivial)))) (fun _=>rfl) (fun _=>rfl) (fun _=>E1) ?_
 ·show AV.int .i64 (Int.tdiv (h:Int) 2-1)=AV.int .i64 (((h/2:Nat):Int)-1)
  rw[hq]
 rintro⟨i,L'⟩ ⟨h1,h2,h3⟩ d
 simp only at h1 h2 h3
 refine Rs ?_
 refine And.intro (fun hc=>?_) (fun hc=>?_)
 ·simp only[decide_eq_true_eq]at hc
  obtain⟨j,rfl⟩:∃j,i=j+1:=⟨i-1,by omega⟩
  refine Rs ?_
  refine xE (L:=L') (h:=h) (c:=c) (i0:=j) (N:=h) (by show((j+1:Nat):Int)-1=_;omega) rfl (by omega) (by omega) (by omega) (by omega) (by omega) fun b=>?_
  refine Rs ?_
  refine RO.same (j,kE h L' j) ⟨by show j≤_;omega,by rw[iE];exact h2,h3⟩ (Nat.lt_succ_self j) (And.intro rfl (And.intro rfl (And.intro ?_ trivial))) (aI rfl (aI rfl (aI rfl (trivial))))
  show AV.int .i64 (((j+1:Nat):Int)-1-1)=AV.int .i64 ((j:Int)-1)
  congr 1;omega
 ·simp only[decide_eq_false_iff_not]at hc
  obtain rfl:i=0:=by omega
  refine Rs ?_
  simp only[g9]at h3
  subst h3
  exact hK
end
end Go.Proofs.Ytibadaomjlkoaaa
open Go.RowKit
namespace Go.Proofs.Ytibadaomjlkoaaa
set_option maxRecDepth 10000
def eM (h:Nat)(L:List It):List It:=kE (h-1) (c9 L 0 (h-1)) 0
theorem dY (h:Nat)(L:List It):(eM h L).length=L.length:=by unfold eM;rw[iE,br]
section
variable{n m g h dt c:Nat}{cu:Nat→Nat}{us:Nat→List Int}{K Kp:AV→AH→Prop}
theorem GA {L:List It}(hh:h+1≤L.length)(NB:h+1≤dt)(hb:L.length≤1099511627776)(hK:K (.jo 127 (.agg (Bo n cu (L.getD h default)))) (qH n cu us m g h dt c L)):
 aa Try.prog 123 [.ptr 0 0 0] (qH n cu us m g (h+1) dt c L) K Kp:=by
 refine aa.bs ?_
 have e:(((h+1:Nat):Int)-1).toNat=h:=by omega
 refine Le (fun _=>[]) [] rfl ?_
 refine Qs ?_
 refine Exists.intro (qH n cu us m g (((h+1:Nat):Int)-1).toNat dt c L) (And.intro (aI rfl (aI rfl (aI rfl (trivial)))) (And.intro E1 (And.intro rfl ?_)))
 show K (.jo 127 (.agg (Bo n cu (L.getD (((h+1:Nat):Int)-1).toNat default)))) _
 rw[e]
 exact hK
theorem G3 {L:List It}(hh:h+1≤L.length)(uJ:L.length≤c)(NB:h+1≤dt)(hb:L.length≤1099511627776)(hK:K (.jo 127 (.agg (Bo n cu ((eM (h+1) L).getD h default)))) (qH n cu us m g h dt c (eM (h+1) L))):
 aa Try.prog 97 [.jo 131 (.ptr 0 0 0)] (qH n cu us m g (h+1) dt c L) K Kp:=by
 refine Po (fun _=>[]) [] rfl ?_
 refine Qs ?_
 conv=>whnf
 refine Exists.intro 94 (Exists.intro (some 129) (And.intro (by kernel_rfl) ?_))
 refine Qs ?_
 refine qQ ?_
 refine Qs ?_
 conv=>whnf
 refine Exists.intro 122 (Exists.intro (some 129) (And.intro (by kernel_rfl) ?_))
 refine Qs ?_
 refine lg (i:=0) (j:=h) (L:=L) rfl (by show((h+1:Nat):Int)-1=_;omega) (by omega) (by omega) (by omega) (by omega) ?_
 refine Rs ?_
 refine xE (L:=c9 L 0 h) (h:=h+1) (c:=c) (i0:=0) (N:=h) rfl (by show((h+1:Nat):Int)-1=_;omega) (by omega) (by omega) (by rw[br];omega) (by rw[br];omega) (by rw[br];omega) fun b=>?_
 refine Qs ?_
 conv=>whnf
 refine Exists.intro 123 (Exists.intro none (And.intro (by kernel_rfl) ?_))
 refine GA (L:=eM (h+1) L) (by rw[dY];omega) (by omega) (by rw[dY];omega) ?_
 refine Rs ?_
 exact hK
def qO (a g h dt:Nat):AO:=.one true 0 (.cells [.sl a g 0 h dt])
def aO (u n:Nat)(cu:Nat→Nat)(g c:Nat)(L:List It):AO:=.one true g (.cJ 3 L.length (gU u n cu L) c)
theorem VS {M:AH}{fn q a u h':Nat}{args:List AV}{r0:AV}{L L':List It}(h0:∀K:AV→AH→Prop,K r0 (qH n cu us m g h' dt c L')→aa Try.prog fn args (qH n cu us m g h dt c L) K (fun _ _=>False))
 (hq:M[q]?=some (qO a g h dt))(ha:M[a]?=some (aO u n cu g c L))(hu:M[u]?=some (.bG false m (uF us cu)))(eU:(Nat.beq q a||Nat.beq q u||Nat.beq a u)=false)
 (jO:AV.pE [.own q,.own a,.e9 u] args=true)(hK:K (r0.rn [.own q,.own a,.e9 u] M.length) ((M.set q (qO a g h' dt)).set a (aO u n cu g c L'))):
 aa Try.prog fn (AV.rM [.own q,.own a,.e9 u] M.length args) M K Kp:=by
 simp only[Bool.or_eq_false_iff]at eU
 refine aa.lift [.own q,.own a,.e9 u] (h0 (fun r M=>r=r0∧M=qH n cu us m g h' dt c L') ⟨rfl,rfl⟩) rfl
  (by simp[bL,TE.fl,TE.i,eU.1.1,eU.1.2,eU.2,jO]) ⟨⟨hq,rfl⟩,⟨ha,rfl⟩,⟨rfl,_,hu,rfl⟩,trivial⟩ ⟨rfl,fun _=>rfl,fun _=>trivial,trivial⟩ ?_ (fun _ _ h=>h.elim)
 rintro r M' ⟨rfl,rfl⟩
 refine⟨⟨rfl,rfl,rfl,rfl⟩,?_⟩
 rw[←List.append_nil ((M.set q _).set a _)]at hK
 exact hK
theorem Lr {M:AH}{q a u:Nat}{L:List It}(hq:M[q]?=some (qO a g h dt))(ha:M[a]?=some (aO u n cu g c L))(hu:M[u]?=some (.bG false m (uF us cu)))(eU:(Nat.beq q a||Nat.beq q u||Nat.beq a u)=false)
 (hK:K (.int .i64 (h:Int)) ((M.set q (qO a g h dt)).set a (aO u n cu g c L))):
 aa Try.prog 94 [.sl a g 0 h dt] M K Kp:=
 VS (args:=[.sl 1 g 0 h dt]) (fun K hk=>qQ hk) hq ha hu eU rfl hK
theorem Fm {M:AH}{q a u:Nat}{L:List It}(hq:M[q]?=some (qO a g h dt))(ha:M[a]?=some (aO u n cu g c L))(hu:M[u]?=some (.bG false m (uF us cu)))(eU:(Nat.beq q a||Nat.beq q u||Nat.beq a u)=false)
 (hh:h≤L.length)(uJ:L.length≤c)(hb:L.length≤1099511627776)(hK:K (.aL []) ((M.set q (qO a g h dt)).set a (aO u n cu g c (g9 h (h/2) L)))):
 aa Try.prog 78 [.jo 131 (.ptr q 0 0)] M K Kp:=
 VS (args:=[.jo 131 (.ptr 0 0 0)]) (fun K hk=>GX hh uJ hb hk) hq ha hu eU rfl hK
theorem Np {M:AH}{q a u:Nat}{L:List It}(hq:M[q]?=some (qO a g (h+1) dt))(ha:M[a]?=some (aO u n cu g c L))(hu:M[u]?=some (.bG false m (uF us cu)))(eU:(Nat.beq q a||Nat.beq q u||Nat.beq a u)=false)
 (hh:h+1≤L.length)(uJ:L.length≤c)(NB:h+1≤dt)(hb:L.length≤1099511627776)
 (hK:K (.jo 127 (.agg (nc u n cu ((eM (h+1) L).getD h default)))) ((M.set q (qO a g h dt)).set a (aO u n cu g c (eM (h+1) L)))):
 aa Try.prog 97 [.jo 131 (.ptr q 0 0)] M K Kp:=
 VS (args:=[.jo 131 (.ptr 0 0 0)]) (fun K hk=>G3 hh uJ NB hb hk) hq ha hu eU rfl hK
theorem Ga {L:List It}(hh:h+1≤L.length)(uJ:L.length≤c)(NB:h+1≤dt)(hb:L.length≤1099511627776)(hK:K (.agg (Bo n cu ((eM (h+1) L).getD h default))) (qH n cu us m g h dt c (eM (h+1) L))):
 aa Try.prog 79 [.ptr 0 0 0] (qH n cu us m g (h+1) dt c L) K Kp:=by
 refine aa.bs ?_
 refine PA (fun _=>[]) [] rfl ?_
 refine Qs ?_
 refine Np (q:=0) (a:=1) (u:=2) (L:=L) rfl rfl rfl rfl hh uJ NB hb ?_
 refine Qs ?_
 exact Exists.intro (qH n cu us m g h dt c (eM (h+1) L)) (And.intro (aI rfl (aI rfl (aI rfl (trivial)))) (And.intro E1 (And.intro rfl hK)))
theorem K9 {M:AH}{q a u:Nat}{L:List It}(hq:M[q]?=some (qO a g (h+1) dt))(ha:M[a]?=some (aO u n cu g c L))(hu:M[u]?=some (.bG false m (uF us cu)))(eU:(Nat.beq q a||Nat.beq q u||Nat.beq a u)=false)
 (hh:h+1≤L.length)(uJ:L.length≤c)(NB:h+1≤dt)(hb:L.length≤1099511627776)
 (hK:K (.agg (nc u n cu ((eM (h+1) L).getD h default))) ((M.set q (qO a g h dt)).set a (aO u n cu g c (eM (h+1) L)))):
 aa Try.prog 79 [.ptr q 0 0] M K Kp:=
 VS (args:=[.ptr 0 0 0]) (fun K hk=>Ga hh uJ NB hb hk) hq ha hu eU rfl hK
theorem qD {M:AH}{q a u:Nat}{L:List It}(hq:M[q]?=some (qO a g (h+1) dt))(ha:M[a]?=some (aO u n cu g c L))(hu:M[u]?=some (.bG false m (uF us cu)))(eU:(Nat.beq q a||Nat.beq q u||Nat.beq a u)=false)
 (hh:h+1≤L.length)(uJ:L.length≤c)(NB:h+1≤dt)(hb:L.length≤1099511627776)(x:It)(hx:(eM (h+1) L).getD h default=x)(QM:x.u<m)(hqu:Nat.blt q M.length=true)
 (hK:K (.agg [.int .i64 x.w,.int .i64 x.k,.sl M.length 0 0 n (cu x.u)]) ((M.set q (qO a g h dt)).set a (aO u n cu g c (eM (h+1) L))++[.one false 0 (.ints .i64 (us x.u) (cu x.u))])):
 aa Try.prog 79 [.ptr q 0 0] M K Kp:=by
 refine aa.fi (K9 hq ha hu eU hh uJ NB hb ?_)
 rw[hx]
 simp only[Bool.or_eq_false_iff]at eU
 refine⟨_,_,Vw.pull (i:=u) (g:=x.u) (x:=.ints .i64 (us x.u) (cu x.u)) ?_ ?_,hK⟩
 ·unfold slot
  rw[List.getElem?_set_ne (Nat.ne_of_beq_eq_false eU.2),List.getElem?_set_ne (Nat.ne_of_beq_eq_false eU.1.2),hu]
  simp only[bc,if_pos QM,uF]
 ·simp[AV.js,AV.rm,qS]
end
end Go.Proofs.Ytibadaomjlkoaaa
open Go.RowKit
namespace Go.Proofs.Ytibadaomjlkoaaa
set_option maxRecDepth 10000
theorem Vw.cJ {M:AH}{i g sz n c:Nat}{get:Nat→List AV}{l:List AV}(get':Nat→List AV)(hm:M[i]?=some (.one true g (.cJ sz n get c)))(h:∀r,r<n→get' r=get r):Vw M (M.set i (.one true g (.cJ sz n get' c))) l l:=by
 intro ρ w hs aA
 obtain⟨h1,h2⟩:=kY (x':=.cJ sz n get' c) hs hm (Nat.le_refl _) (fun k v hv=>by
  have R7:(af.cJ sz n get c).at k=some v:=by
   simp only[af.at]at hv⊢
   split at hv
   ·rename_i a9
    rw[if_pos a9,←h _ (Nat.div_lt_of_lt_mul (by rw[Nat.mul_comm];exact a9))];exact hv
   ·cases hv
  refine⟨v,R7,rfl,?_⟩
  rcases hs.holds i g true _ (ak hm)with⟨q,e1,e2⟩|⟨_,e2⟩
  ·obtain⟨c,e,fr,k1,k2,k3,k4⟩:=e2.out rfl
   exact(k3 k v R7).1
  ·exfalso
   simp only[af.at]at R7
   obtain⟨rfl,_⟩:=e2
   simp at R7) (fun h=>h)
 exact⟨ρ,h1,h2,rfl,aA⟩
def vC (n:Nat)(cu:Nat→Nat)(c:Nat)(L:List It):AO:=.one false 0 (.cJ 3 L.length (gU 1 n cu L) c)
section
variable{n m c c0:Nat}{cu:Nat→Nat}{us:Nat→List Int}{L:List It}{Kp:AV→AH→Prop}
theorem Bn (hb:L.length≤1000000000):aa Try.prog 93 [.sl 0 0 0 L.length c0] [vC n cu c L,.bG false m (uF us cu)]
 (fun r M=>∃g' c',r=.sl 2 g' 0 L.length c'∧M=[vC n cu c L,.bG false m (uF us cu),aO 1 n cu g' c' L]∧L.length≤c') Kp:=by
 refine aa.fi ?_
 refine Ps (fun _=>[]) [] rfl ?_
 refine Qs ?_
 intro b hb
 refine Qs ?_
 refine And.intro (fun h1=>?_) (fun h1=>?_)
 ·obtain⟨h2,rfl⟩:=hb (by simpa using h1)
  refine Qs ?_
  refine⟨_,_,Vw.nil (x:=.cJ 3 L.length (gU 1 n cu L) 0) ⟨h2,rfl⟩,0,0,?_,rfl,by omega⟩
  show AV.sl 2 0 0 0 0=AV.sl 2 0 0 L.length 0
  rw[h2]
 ·refine Qs ?_
  refine And.intro (fun q _=>⟨rfl,rfl⟩) ?_
  refine And.intro ⟨by omega,by show(0+L.length)*40≤_;omega⟩ ?_
  refine Exists.intro (gU 1 n cu L) (And.intro (fun q _=>by rw[if_neg (Nat.not_lt_zero q)];rfl) (fun c1 uL=>?_))
  refine Qs ?_
  refine⟨_,_,Vw.refl _ _,1,c1,?_,?_,by omega⟩
  ·show AV.sl 2 1 0 (0+L.length) c1=_
   rw[Nat.zero_add]
  ·show[vC n cu c L,AO.bG false m (uF us cu),AO.one true 1 (.cJ 3 (0+L.length) (gU 1 n cu L) c1)]=_
   rw[Nat.zero_add];rfl
theorem Bm {xs:List Int}(hb:xs.length≤17592186044416){Kp}:
 aa Try.prog 95 [.sl 0 0 0 xs.length c0] [.one false 0 (.ints .i64 xs c)]
  (fun r M=>∃g' c',r=.sl 1 g' 0 xs.length c'∧M=[.one false 0 (.ints .i64 xs c),.one true g' (.ints .i64 xs c')]∧xs.length≤c') Kp:=by
 refine aa.fi ?_
 refine Pq (fun _=>[]) [] rfl ?_
 refine Qs ?_
 intro b hb
 refine Qs ?_
 refine And.intro (fun h1=>?_) (fun h1=>?_)
 ·obtain⟨rfl,rfl⟩:=hb (by simpa using h1)
  refine Qs ?_
  exact⟨_,_,Vw.nil (x:=.ints .i64 [] 0) ⟨rfl,rfl⟩,0,0,rfl,rfl,Nat.le_refl _⟩
 ·refine Qs ?_
  intro ys sw
  obtain rfl:xs=ys:=by rw[sw];simp
  refine Qs ?_
  intro c1 uL
  refine Qs ?_
  refine⟨_,_,Vw.refl _ _,1,c1,?_,rfl,by omega⟩
  show AV.sl 1 1 0 (0+xs.length) c1=_
  rw[Nat.zero_add]
theorem xK {M:AH}{K:AV→AH→Prop}{i g n co:Nat}{o:Bool}{xs:List Int}(hi:M[i]?=some (.one o g (.ints .i64 xs co)))(hn:n=xs.length)(hb:xs.length≤17592186044416)
 (h:∀g' c',xs.length≤c'→K (.sl M.length g' 0 xs.length c') (M++[.one true g' (.ints .i64 xs c')])):aa Try.prog 95 [.sl i g 0 n c] M K Kp:=by
 subst hn
 refine aa.lift [.eI i g 0] (Bm (xs:=xs) (c0:=c) (c:=co) (Kp:=fun _ _=>False) hb) rfl rfl ⟨⟨_,_,_,rfl,ak hi,eG.same rfl (fun h=>h)⟩,trivial⟩ ⟨trivial,trivial⟩ ?_ (fun _ _ h=>h.elim)
 rintro r M' ⟨g',c',rfl,rfl,r8⟩
 exact⟨⟨rfl,rfl⟩,h g' c' r8⟩
def fb (i:Nat)(L:List It):List It:=L.mapIdx fun j x=>if j<i then{x with k:=(j:Int)}else x
theorem ee (i:Nat)(L:List It):(fb i L).length=L.length:=by simp[fb]
theorem ks (i:Nat)(L:List It)(j:Nat)(hj:j<L.length):(fb i L).getD j default=if j<i then{L.getD j default with k:=(j:Int)}else L.getD j default:=by
 simp[fb,List.getD_eq_getElem?_getD,hj]
theorem wR {u:Nat}(i:Nat)(L:List It)(r:Nat)(hr:r<L.length)(hi:i<L.length):
 gU u n cu (fb (i+1) L) r=(match Nat.beq r i with|true=>di (gU u n cu (fb i L) i) 1 [.int .i64 (i:Int)]|false=>gU u n cu (fb i L) r):=by
 cases h:Nat.beq r i with
 |true=>
  obtain rfl:=Nat.eq_of_beq_eq_true h
  show nc u n cu ((fb (r+1) L).getD r default)=di (nc u n cu ((fb r L).getD r default)) 1 [.int .i64 (r:Int)]
  rw[ks _ _ _ hr,ks _ _ _ hr,if_pos (by omega),if_neg (by omega)]
  rfl
 |false=>
  have eU:=Nat.ne_of_beq_eq_false h
  show nc u n cu ((fb (i+1) L).getD r default)=nc u n cu ((fb i L).getD r default)
  rw[ks _ _ _ hr,ks _ _ _ hr]
  by_cases h1:r<i
  ·rw[if_pos (by omega),if_pos h1]
  ·rw[if_neg (by omega),if_neg h1]
end
end Go.Proofs.Ytibadaomjlkoaaa
open Go.RowKit
namespace Go.Proofs.Ytibadaomjlkoaaa
set_option maxRecDepth 10000
theorem kz {L:List It}{j:Nat}(h:j<L.length):L.getD j default∈L:=by
 rw[List.getD_eq_getElem?_getD,List.getElem?_eq_getElem h];exact List.getElem_mem h
theorem wZ {L:List It}{i j:Nat}(hi:i<L.length)(hj:j<L.length){x:It}(h:x∈c9 L i j):x∈L:=by
 unfold c9 at h
 rcases List.mem_or_eq_of_mem_set h with h|rfl
 ·rcases List.mem_or_eq_of_mem_set h with h|rfl
  ·exact h
  ·exact kz hj
 ·exact kz hi
theorem w8:∀{f n:Nat}{L:List It}{i:Nat},n≤L.length→∀{x:It},x∈fG f n L i→x∈L
 |0,_,_,_,_,_,h=>h
 |f+1,n,L,i,hn,x,h=>by
  simp only[fG]at h
  split at h
  ·rename_i h1
   have hk:=nU (L:=L) h1
   split at h
   ·exact wZ (by omega) (by omega) (w8 (by rw[br];exact hn) h)
   ·exact h
  ·exact h
theorem w9 {n:Nat}{L:List It}{i:Nat}(hn:n≤L.length){x:It}(h:x∈kE n L i):x∈L:=w8 hn h
theorem q8 {n:Nat}{x:It}:∀(i:Nat){L:List It},n≤L.length→x∈g9 n i L→x∈L
 |0,_,_,h=>h
 |i+1,L,hn,h=>w9 hn (q8 i (by rw[iE];exact hn) h)
theorem gy {h:Nat}{L:List It}(h0:0<h)(hn:h≤L.length){x:It}(hx:x∈eM h L):x∈L:=by
 unfold eM at hx
 exact wZ (by omega) (by omega) (w9 (by rw[br];omega) hx)
theorem Ay {i:Nat}{L:List It}{x:It}(h:x∈fb i L):∃y∈L,y.w=x.w∧y.u=x.u:=by
 obtain⟨j,hj,rfl⟩:=List.getElem_of_mem h
 have rZ:j<L.length:=by simpa[fb]using hj
 refine⟨L[j],List.getElem_mem rZ,?_⟩
 simp only[fb,List.getElem_mapIdx]
 split<;>exact⟨rfl,rfl⟩
theorem wS (L:List It):fb 0 L=L:=by
 apply List.ext_getElem?
 intro j
 simp[fb]
def dW:Nat→List It→List It
 |0,_=>[]
 |h+1,L=>(eM (h+1) L).getD h default::dW h (eM (h+1) L)
def cg:List It→List (It×It)
 |a::b::r=>(a,b)::cg r
 |_=>[]
def dF (L:List It):List It:=g9 L.length (L.length/2) (fb L.length L)
theorem kW (L:List It):(dF L).length=L.length:=by unfold dF;rw[xk,ee]
def aw (L:List It):List (It×It):=cg (dW L.length (dF L))
def a8 (ps:List (It×It)):List It:=ps.mapIdx fun j p=>⟨p.1.w+p.2.w,0,j⟩
def zo (us:Nat→List Int)(ps:List (It×It))(j:Nat):List Int:=List.zipWith (·+·) (us (ps.getD j default).1.u) (us (ps.getD j default).2.u)
theorem cW (ps:List (It×It)):(a8 ps).length=ps.length:=by simp[a8]
theorem GC:∀l:List It,l.length≤1→cg l=[]
 |[],_=>rfl
 |[_],_=>rfl
 |_::_::_,h=>by simp at h
theorem nG:∀(h:Nat)(L:List It),(dW h L).length=h
 |0,_=>rfl
 |h+1,L=>by simp[dW,nG h]
def KK (m:Nat)(B:Int)(x:It):Prop:=x.u<m∧0≤x.w∧x.w≤B
theorem zC {us:Nat→List Int}{ps:List (It×It)}{p:It×It}{r:Nat}(h:r<ps.length):zo us (ps++[p]) r=zo us ps r:=by
 unfold zo;simp[List.getD_eq_getElem?_getD,List.getElem?_append_left h]
theorem zD {us:Nat→List Int}{ps:List (It×It)}{a b:It}:zo us (ps++[(a,b)]) ps.length=List.zipWith (·+·) (us a.u) (us b.u):=by
 unfold zo;simp[List.getD_eq_getElem?_getD]
theorem wO {ps:List (It×It)}{p:It×It}{r:Nat}(h:r<ps.length):(a8 (ps++[p])).getD r default=(a8 ps).getD r default:=by
 unfold a8;rw[List.mapIdx_append,List.getD_eq_getElem?_getD,List.getElem?_append_left (by simpa using h),←List.getD_eq_getElem?_getD]
theorem wP {ps:List (It×It)}{a b:It}:(a8 (ps++[(a,b)])).getD ps.length default=⟨a.w+b.w,0,ps.length⟩:=by
 unfold a8;simp[List.getD_eq_getElem?_getD]
theorem Ci {ps:List (It×It)}{r:Nat}(h:r<ps.length):((a8 ps).getD r default).u=r:=by
 unfold a8;simp[List.getD_eq_getElem?_getD,h]
structure sZ (n m:Nat)(us:Nat→List Int)(B Bu:Int)(L:List It):Prop where
 len:L.length≤1000000
 items:∀x∈L,KK m B x
 ul:∀r,r<m→(us r).length=n
 uv:∀r,r<m→∀v∈us r,0≤v∧v≤Bu
 hn:n≤1000000
 hB:B≤2305843009213693952
 Sq:Bu≤2305843009213693952
section
variable{n m c c0:Nat}{cu:Nat→Nat}{us:Nat→List Int}{L:List It}{Kp:AV→AH→Prop}{B Bu:Int}
theorem sE (ok:sZ n m us B Bu L){r:Nat}(hr:r<m){i:Nat}(hi:i<n):0≤(us r).getD i 0∧(us r).getD i 0≤Bu:=by
 have hl:=ok.ul r hr
 have:(us r).getD i 0∈us r:=by
  rw[List.getD_eq_getElem?_getD,List.getElem?_eq_getElem (by omega)];exact List.getElem_mem _
 exact ok.uv r hr _ this
theorem Ce (ok:sZ n m us B Bu L):aa Try.prog 77 [.sl 0 0 0 L.length c0] [vC n cu c L,.bG false m (uF us cu)]
 (fun r M=>∃g' c' cv,r=.sl 3 g' 0 (aw L).length c'∧M=[vC n cu c L,.bG false m (uF us cu),.bG true (aw L).length (uF (zo us (aw L)) cv),aO 2 n cv g' c' (a8 (aw L))]∧(aw L).length≤c') Kp:=by
 have hlen:=ok.len
 refine aa.cU ?_
 refine PC (fun _=>[8,9]) [] rfl ?_
 refine Qs ?_
 refine aa.mono (Bn (n:=n) (m:=m) (cu:=cu) (us:=us) (L:=L) (Kp:=fun _ _=>False) (by omega)) ?_ (fun _ _ h=>h.elim)
 rintro r M ⟨gC,cC,rfl,rfl,hcC⟩
 refine Rs ?_
 refine WO.go (σ:=Nat×List It) (fun s=>s.1≤L.length∧s.2=fb s.1 L) (fun s=>L.length-s.1)
  (fun s=>[(2,.ns),(3,.ptr 3 0 0),(14,.int .i64 L.length),(15,.int .i64 (s.1:Int))])
  (fun s=>[vC n cu c L,.bG false m (uF us cu),aO 1 n cu gC cC s.2,qO 2 gC L.length cC]) (0,L) ae mixed (by kernel_rfl) ⟨Nat.zero_le _,(wS L).symm⟩ (aI rfl (aI rfl (aI rfl (aI rfl (trivial))))) (aI rfl (aI rfl (aI rfl (aI rfl (trivial))))) (fun _=>rfl) (fun _=>rfl) (fun _=>⟨fun _=>rfl,fun _=>trivial,fun _=>rfl,rfl,trivial⟩) ?_
 rintro⟨i,L1⟩ ⟨h1,h2⟩ d
 simp only at h1 h2
 have JF:L1.length=L.length:=by rw[h2,ee]
 refine Rs ?_
 refine And.intro (fun hc=>?_) (fun hc=>?_)
 ·simp only[decide_eq_true_eq]at hc
  refine Qs ?_
  refine RO.mk (i+1,fb (i+1) L) [(2,.ns),(3,.ptr 3 0 0),(14,.int .i64 L.length),(15,.int .i64 ((i:Int)+1))] _ ⟨by show i+1≤_;omega,rfl⟩ (show L.length-(i+1)<L.length-i by omega) (aI rfl (aI rfl (aI rfl (aI rfl (trivial))))) rfl (Vw.cJ (i:=2) (gU 1 n cu (fb (i+1) L)) rfl ?_) ?_
  ·intro r hr
   rw[JF]at hr
   have:=wR (u:=1) (n:=n) (cu:=cu) i L r hr (by omega)
   rw[this,h2]
   rfl
  ·refine And.intro rfl (And.intro rfl (And.intro ?_ (And.intro rfl trivial)))
   show aO 1 n cu gC cC (fb (i+1) L)=AO.one true gC (.cJ 3 L1.length (gU 1 n cu (fb (i+1) L)) cC)
   unfold aO
   rw[JF,ee]
 ·simp only[decide_eq_false_iff_not]at hc
  obtain rfl:i=L.length:=by omega
  have uJ:L1.length≤cC:=by omega
  refine Rs ?_
  refine Fm (q:=3) (a:=2) (u:=1) (L:=L1) rfl rfl rfl rfl (by omega) uJ (by omega) ?_
  have dI:g9 L.length (L.length/2) L1=dF L:=by rw[h2];rfl
  rw[dI]
  refine Rs ?_
  refine WO.KW (σ:=Nat×List It×List (It×It)×Nat×Nat×(Nat→Nat)) (fun(h,Lc,ps,gO,cO,cv)=>Lc.length=L.length∧h≤L.length∧ps++cg (dW h Lc)=aw L∧(∀x∈Lc,KK m B x)∧(a8 ps).length≤cO∧2*ps.length+h≤L.length) (fun(h,_,_,_,_,_)=>h)
   (fun(h,Lc,ps,gO,cO,cv)=>[(3,.ptr 3 0 0),(5,.sl 5 gO 0 (a8 ps).length cO)])
   (fun(h,Lc,ps,gO,cO,cv)=>[vC n cu c L,.bG false m (uF us cu),aO 1 n cu gC cC Lc,qO 2 gC h cC,.bG true ps.length (uF (zo us ps) cv),aO 4 n cv gO cO (a8 ps)]) (L.length,dF L,[],0,0,fun _=>0) ae mixed (by kernel_rfl)
   [(3,.ptr 3 0 0),(5,.ns)] _ ⟨kW L,Nat.le_refl _,rfl,?_,Nat.zero_le _,by simp⟩ (aI rfl (aI rfl (trivial))) rfl (Vw.trans (Vw.Uv (own:=true) (f:=uF (zo us []) (fun _=>0))) (Vw.yv (x:=.cJ 3 (a8 []).length (gU 4 n (fun _=>0) (a8 [])) 0) ⟨rfl,rfl⟩ ?_)) (aI rfl (aI rfl (aI rfl (aI rfl (aI rfl (aI rfl (trivial))))))) (fun _=>rfl) (fun _=>rfl) (fun _=>⟨fun _=>rfl,fun _=>trivial,fun _=>rfl,rfl,fun _=>trivial,fun _=>rfl,trivial⟩) ?_
  ·intro x hx
   obtain⟨y,hy,e1,e2⟩:=Ay (q8 _ (by rw[ee];exact Nat.le_refl _) hx)
   have:=ok.items y hy
   unfold KK at this⊢
   rw[←e1,←e2];exact this
  ·exact And.intro (.inl rfl) (And.intro (.inr ⟨rfl,rfl⟩) trivial)
  rintro⟨h,Lc,ps,gO,cO,cv⟩ ⟨i1,i2,i3,i4,i5,i6⟩ d
  refine Rs ?_
  refine Lr (q:=3) (a:=2) (u:=1) (L:=Lc) rfl rfl rfl rfl ?_
  refine Rs ?_
  refine And.intro (fun hc=>?_) (fun hc=>?_)
  ·simp only[decide_eq_true_eq]at hc
   obtain⟨h',rfl⟩:∃h',h=h'+2:=⟨h-2,by omega⟩
   have QO:(eM (h'+2) Lc).getD (h'+1) default∈Lc:=gy (by omega) (by omega) (kz (by rw[dY];omega))
   generalize RB:eM (h'+2) Lc=L2
   have oI:L2.length=Lc.length:=by rw[←RB,dY]
   have Um:∀x∈L2,KK m B x:=fun x hx=>i4 x (gy (by omega) (by omega) (RB▸hx))
   rw[RB]at QO
   generalize CA:L2.getD (h'+1) default=x1
   have QN:(eM (h'+1) L2).getD h' default∈L2:=gy (by omega) (by omega) (kz (by rw[dY];omega))
   generalize FH:eM (h'+1) L2=L3
   have kQ:L3.length=Lc.length:=by rw[←FH,dY,oI]
   have NH:∀x∈L3,KK m B x:=fun x hx=>Um x (gy (by omega) (by omega) (FH▸hx))
   rw[FH]at QN
   generalize V4:L3.getD h' default=x2
   rw[CA]at QO
   rw[V4]at QN
   obtain⟨VZ,k1a,k1b⟩:=i4 x1 QO
   obtain⟨VY,k2a,k2b⟩:=Um x2 QN
   have hB:=ok.hB
   have Sq:=ok.Sq
   have hn:=ok.hn
   have R8:=ok.ul _ VZ
   have hu2:=ok.ul _ VY
   refine Rs ?_
   refine qD (q:=3) (a:=2) (u:=1) (h:=h'+1) (L:=Lc) rfl rfl rfl rfl (by omega) (by omega) (by omega) (by omega) x1 (by rw[RB];exact CA) VZ rfl ?_
   rw[RB]
   refine Rs ?_
   refine qD (q:=3) (a:=2) (u:=1) (h:=h') (L:=L2) rfl rfl rfl rfl (by omega) (by omega) (by omega) (by omega) x2 (by rw[FH];exact V4) VY rfl ?_
   rw[FH]
   refine Rs ?_
   refine And.intro ?_ ?_
   ·refine Rs ?_
    refine xK (i:=6) (xs:=us x1.u) rfl R8.symm (by omega) fun gx cx hcx=>?_
    refine Rs ?_
    refine WO.go (σ:=Nat×List Int) (fun s=>s.1≤n∧s.2.length=n∧(∀j,j<s.1→s.2.getD j 0=(us x1.u).getD j 0+(us x2.u).getD j 0)∧∀j,s.1≤j→s.2.getD j 0=(us x1.u).getD j 0) (fun s=>n-s.1)
     (fun s=>[(3,.ptr 3 0 0),(5,.sl 5 gO 0 (a8 ps).length cO),(8,.ptr 11 0 0),(41,.sl 7 0 0 n (cu x2.u)),(42,.int .i64 n),(43,.int .i64 (s.1:Int))])
     (fun s=>[vC n cu c L,.bG false m (uF us cu),aO 1 n cu gC cC L3,qO 2 gC h' cC,.bG true ps.length (uF (zo us ps) cv),aO 4 n cv gO cO (a8 ps),.gone,.one false 0 (.ints .i64 (us x2.u) (cu x2.u)),.gone,.gone,.one true gx (.ints .i64 s.2 cx),.one true 0 (.cells [.int .i64 (x1.w+x2.w),.int .i64 0,.sl 10 gx 0 (us x1.u).length cx])]) (0,us x1.u) ae mixed (by kernel_rfl) ⟨Nat.zero_le _,R8,fun j hj=>absurd hj (Nat.not_lt_zero j),fun _ _=>rfl⟩ (aI rfl (aI rfl (aI rfl (aI rfl (aI rfl (aI rfl (trivial))))))) (aI rfl (aI rfl (aI rfl (aI rfl (aI rfl (aI rfl (aI trivial (aI rfl (aI trivial (aI trivial (aI rfl (aI rfl (trivial))))))))))))) (fun _=>rfl) (fun _=>rfl) (fun _=>⟨fun _=>rfl,fun _=>trivial,fun _=>rfl,rfl,fun _=>trivial,fun _=>rfl,trivial,trivial,trivial,trivial,trivial,rfl,trivial⟩) ?_
    rintro⟨i,ys⟩ ⟨j1,j2,j3,j4⟩ d
    simp only at j1 j2 j3 j4
    refine Rs ?_
    refine And.intro (fun hc=>?_) (fun hc=>?_)
    ·simp only[decide_eq_true_eq]at hc
     have hi:i<n:=by omega
     have b1:=sE ok VZ (i:=i) (by omega)
     have b2:=sE ok VY (i:=i) (by omega)
     have fR:=j4 i (Nat.le_refl _)
     have Xg:-9223372036854775808≤ys.getD ((i:Int).toNat+0) 0+(us x2.u).getD ((i:Int).toNat+0) 0∧ys.getD ((i:Int).toNat+0) 0+(us x2.u).getD ((i:Int).toNat+0) 0≤9223372036854775807:=by
      simp only[Int.toNat_natCast,Nat.add_zero];omega
     refine Qs ?_
     refine RO.same (i+1,ys.set ((i:Int).toNat+0) (ys.getD ((i:Int).toNat+0) 0+(us x2.u).getD ((i:Int).toNat+0) 0)) ⟨by show i+1≤n;omega,by simpa using j2,?_,?_⟩ (show n-(i+1)<n-i by omega) (aI rfl (aI rfl (aI rfl (aI rfl (aI rfl (aI rfl (trivial))))))) (aI rfl (aI rfl (aI rfl (aI rfl (aI rfl (aI rfl (aI trivial (aI rfl (aI trivial (aI trivial (aI rfl (aI rfl (trivial)))))))))))))
     ·intro j hj
      simp only[Int.toNat_natCast,Nat.add_zero]
      by_cases JJ:j=i
      ·subst JJ
       simp only[List.getD_eq_getElem?_getD,List.getElem?_set_self (show j<ys.length by omega)]at fR⊢
       simp only[Option.getD_some,fR]
      ·have:=j3 j (by have:j<i+1:=hj;omega)
       simp only[List.getD_eq_getElem?_getD,List.getElem?_set_ne (Ne.symm JJ)]at this⊢
       exact this
     ·intro j hj
      have rZ:i+1≤j:=hj
      simp only[Int.toNat_natCast,Nat.add_zero]
      have:=j4 j (by omega)
      simp only[List.getD_eq_getElem?_getD,List.getElem?_set_ne (show i≠j by omega)]at this⊢
      exact this
    ·simp only[decide_eq_false_iff_not]at hc
     have BP:i=n:=by omega
     have sw:ys=List.zipWith (·+·) (us x1.u) (us x2.u):=by
      apply List.ext_getElem
      ·simp;omega
      ·intro j q1 q2
       have:=j3 j (by omega)
       simp only[List.getD_eq_getElem?_getD,List.getElem?_eq_getElem q1,List.getElem?_eq_getElem (show j<(us x1.u).length by omega),List.getElem?_eq_getElem (show j<(us x2.u).length by omega),Option.getD_some]at this
       rw[this,List.getElem_zipWith]
     have Jz:=cW ps
     refine Rs ?_
     refine And.intro (fun q hq=>?_) ?_
     ·match q,hq with
      |0,_=>exact⟨rfl,rfl⟩
     refine And.intro ⟨by show(a8 ps).length+1≤_;omega,by show((a8 ps).length+1)*40≤_;omega⟩ ?_
     refine Exists.intro (fun q=>if q<ps.length then gU 4 n cv (a8 ps) q else[.int .i64 (x1.w+x2.w),.int .i64 0,.sl 10 gx 0 (us x1.u).length cx]) (And.intro (fun q hq=>?_) (fun c1 uL=>?_))
     ·by_cases Jt:q<(a8 ps).length
      ·rw[if_pos Jt]
       show(if q<ps.length then _ else _)=_
       rw[if_pos (by omega)]
      ·have BL:q<(a8 ps).length+1:=hq
       have cI:q-(a8 ps).length=0:=by omega
       rw[if_neg Jt,cI]
       show(if q<ps.length then _ else _)=_
       rw[if_neg (by omega)]
       rfl
     have CM:(a8 ps).length+1≤c1:=uL
     refine Rs ?_
     refine RO.mk (h',L3,ps++[(x1,x2)],gO+1,c1,fun r=>if r=ps.length then cx else cv r) [(3,.ptr 3 0 0),(5,.sl 5 (gO+1) 0 ((a8 ps).length+1) c1)] _ ⟨by omega,by omega,?_,NH,?_,?_⟩ (show h'<h'+2 by omega) (aI rfl (aI rfl (trivial))) rfl
      (Vw.freeze (iu:=4) (k:=10) (o:=5) (uF (zo us (ps++[(x1,x2)])) (fun r=>if r=ps.length then cx else cv r)) (gU 4 n (fun r=>if r=ps.length then cx else cv r) (a8 (ps++[(x1,x2)]))) rfl rfl rfl rfl ?_ ?_ ?_ ?_) ?_
     ·rw[←i3]
      simp only[dW,RB,FH,CA,V4,cg,List.append_assoc,List.singleton_append]
     ·show(a8 (ps++[(x1,x2)])).length≤c1
      rw[cW,List.length_append];simp only[List.length_singleton];omega
     ·show 2*(ps++[(x1,x2)]).length+h'≤L.length
      rw[List.length_append];simp only[List.length_singleton];omega
     ·intro r hr
      show af.ints .i64 _ _=af.ints .i64 _ _
      simp only[zC hr,if_neg (Nat.ne_of_lt hr)]
     ·show af.ints .i64 _ _=af.ints .i64 ys cx
      simp only[zD,if_true,sw]
     ·intro r hr
      have Fv:r<(a8 ps).length+1:=hr
      show AV.js _ (nc 4 n _ ((a8 (ps++[(x1,x2)])).getD r default))=(if r<ps.length then _ else _)
      by_cases pe:r<ps.length
      ·rw[if_pos pe,wO pe]
       show _=[AV.int .i64 ((a8 ps).getD r default).w,AV.int .i64 ((a8 ps).getD r default).k,AV.sl 4 ((a8 ps).getD r default).u 0 n (cv ((a8 ps).getD r default).u)]
       simp only[AV.js,AV.rm,Ci pe,bR (show¬(4=4∧r=ps.length) by omega),if_neg (Nat.ne_of_lt pe)]
      ·obtain rfl:r=ps.length:=by omega
       rw[if_neg pe,wP]
       simp only[AV.js,AV.rm,ia,if_true,R8]
     ·show AV.js _ [AV.ptr 3 0 0,AV.sl 5 (gO+1) 0 (a8 (ps++[(x1,x2)])).length c1]=[AV.ptr 3 0 0,AV.sl 5 (gO+1) 0 ((a8 ps).length+1) c1]
      rw[cW,List.length_append,Jz]
      rfl
     ·refine And.intro rfl (And.intro rfl (And.intro rfl (And.intro rfl (And.intro ?_ (And.intro ?_ trivial)))))
      ·show AO.bG true (ps++[(x1,x2)]).length _=AO.bG true (ps.length+1) _
       rw[List.length_append];rfl
      ·show aO 4 n _ (gO+1) c1 (a8 (ps++[(x1,x2)]))=AO.one true (gO+1) (.cJ 3 ((a8 ps).length+1) _ c1)
       unfold aO
       rw[cW (ps++[(x1,x2)]),List.length_append,Jz];rfl
   ·refine Rs ?_
    refine xK (i:=6) (xs:=us x1.u) rfl R8.symm (by omega) fun gx cx hcx=>?_
    refine Rs ?_
    refine WO.go (σ:=Nat×List Int) (fun s=>s.1≤n∧s.2.length=n∧(∀j,j<s.1→s.2.getD j 0=(us x1.u).getD j 0+(us x2.u).getD j 0)∧∀j,s.1≤j→s.2.getD j 0=(us x1.u).getD j 0) (fun s=>n-s.1)
     (fun s=>[(3,.ptr 3 0 0),(5,.sl 5 gO 0 (a8 ps).length cO),(8,.ptr 10 0 0),(41,.sl 7 0 0 n (cu x2.u)),(42,.int .i64 n),(43,.int .i64 (s.1:Int))])
     (fun s=>[vC n cu c L,.bG false m (uF us cu),aO 1 n cu gC cC L3,qO 2 gC h' cC,.bG true ps.length (uF (zo us ps) cv),aO 4 n cv gO cO (a8 ps),.gone,.one false 0 (.ints .i64 (us x2.u) (cu x2.u)),.gone,.gone,.one true 0 (.cells [.int .i64 (x1.w+x2.w),.int .i64 0,.sl 11 gx 0 (us x1.u).length cx]),.one true gx (.ints .i64 s.2 cx)]) (0,us x1.u) ae mixed (by kernel_rfl) ⟨Nat.zero_le _,R8,fun j hj=>absurd hj (Nat.not_lt_zero j),fun _ _=>rfl⟩ (aI rfl (aI rfl (aI rfl (aI rfl (aI rfl (aI rfl (trivial))))))) (aI rfl (aI rfl (aI rfl (aI rfl (aI rfl (aI rfl (aI trivial (aI rfl (aI trivial (aI trivial (aI rfl (aI rfl (trivial))))))))))))) (fun _=>rfl) (fun _=>rfl) (fun _=>⟨fun _=>rfl,fun _=>trivial,fun _=>rfl,rfl,fun _=>trivial,fun _=>rfl,trivial,trivial,trivial,trivial,rfl,trivial,trivial⟩) ?_
    rintro⟨i,ys⟩ ⟨j1,j2,j3,j4⟩ d
    simp only at j1 j2 j3 j4
    refine Rs ?_
    refine And.intro (fun hc=>?_) (fun hc=>?_)
    ·simp only[decide_eq_true_eq]at hc
     have hi:i<n:=by omega
     have b1:=sE ok VZ (i:=i) (by omega)
     have b2:=sE ok VY (i:=i) (by omega)
     have fR:=j4 i (Nat.le_refl _)
     have Xg:-9223372036854775808≤ys.getD ((i:Int).toNat+0) 0+(us x2.u).getD ((i:Int).toNat+0) 0∧ys.getD ((i:Int).toNat+0) 0+(us x2.u).getD ((i:Int).toNat+0) 0≤9223372036854775807:=by
      simp only[Int.toNat_natCast,Nat.add_zero];omega
     refine Qs ?_
     refine RO.same (i+1,ys.set ((i:Int).toNat+0) (ys.getD ((i:Int).toNat+0) 0+(us x2.u).getD ((i:Int).toNat+0) 0)) ⟨by show i+1≤n;omega,by simpa using j2,?_,?_⟩ (show n-(i+1)<n-i by omega) (aI rfl (aI rfl (aI rfl (aI rfl (aI rfl (aI rfl (trivial))))))) (aI rfl (aI rfl (aI rfl (aI rfl (aI rfl (aI rfl (aI trivial (aI rfl (aI trivial (aI trivial (aI rfl (aI rfl (trivial)))))))))))))
     ·intro j hj
      simp only[Int.toNat_natCast,Nat.add_zero]
      by_cases JJ:j=i
      ·subst JJ
       simp only[List.getD_eq_getElem?_getD,List.getElem?_set_self (show j<ys.length by omega)]at fR⊢
       simp only[Option.getD_some,fR]
      ·have:=j3 j (by have:j<i+1:=hj;omega)
       simp only[List.getD_eq_getElem?_getD,List.getElem?_set_ne (Ne.symm JJ)]at this⊢
       exact this
     ·intro j hj
      have rZ:i+1≤j:=hj
      simp only[Int.toNat_natCast,Nat.add_zero]
      have:=j4 j (by omega)
      simp only[List.getD_eq_getElem?_getD,List.getElem?_set_ne (show i≠j by omega)]at this⊢
      exact this
    ·simp only[decide_eq_false_iff_not]at hc
     have BP:i=n:=by omega
     have sw:ys=List.zipWith (·+·) (us x1.u) (us x2.u):=by
      apply List.ext_getElem
      ·simp;omega
      ·intro j q1 q2
       have:=j3 j (by omega)
       simp only[List.getD_eq_getElem?_getD,List.getElem?_eq_getElem q1,List.getElem?_eq_getElem (show j<(us x1.u).length by omega),List.getElem?_eq_getElem (show j<(us x2.u).length by omega),Option.getD_some]at this
       rw[this,List.getElem_zipWith]
     have Jz:=cW ps
     refine Rs ?_
     refine And.intro (fun q hq=>?_) ?_
     ·match q,hq with
      |0,_=>exact⟨rfl,rfl⟩
     refine And.intro ⟨by show(a8 ps).length+1≤_;omega,by show((a8 ps).length+1)*40≤_;omega⟩ ?_
     refine Exists.intro (fun q=>if q<ps.length then gU 4 n cv (a8 ps) q else[.int .i64 (x1.w+x2.w),.int .i64 0,.sl 11 gx 0 (us x1.u).length cx]) (And.intro (fun q hq=>?_) (fun c1 uL=>?_))
     ·by_cases Jt:q<(a8 ps).length
      ·rw[if_pos Jt]
       show(if q<ps.length then _ else _)=_
       rw[if_pos (by omega)]
      ·have BL:q<(a8 ps).length+1:=hq
       have cI:q-(a8 ps).length=0:=by omega
       rw[if_neg Jt,cI]
       show(if q<ps.length then _ else _)=_
       rw[if_neg (by omega)]
       rfl
     have CM:(a8 ps).length+1≤c1:=uL
     refine Rs ?_
     refine RO.mk (h',L3,ps++[(x1,x2)],gO+1,c1,fun r=>if r=ps.length then cx else cv r) [(3,.ptr 3 0 0),(5,.sl 5 (gO+1) 0 ((a8 ps).length+1) c1)] _ ⟨by omega,by omega,?_,NH,?_,?_⟩ (show h'<h'+2 by omega) (aI rfl (aI rfl (trivial))) rfl
      (Vw.freeze (iu:=4) (k:=11) (o:=5) (uF (zo us (ps++[(x1,x2)])) (fun r=>if r=ps.length then cx else cv r)) (gU 4 n (fun r=>if r=ps.length then cx else cv r) (a8 (ps++[(x1,x2)]))) rfl rfl rfl rfl ?_ ?_ ?_ ?_) ?_
     ·rw[←i3]
      simp only[dW,RB,FH,CA,V4,cg,List.append_assoc,List.singleton_append]
     ·show(a8 (ps++[(x1,x2)])).length≤c1
      rw[cW,List.length_append];simp only[List.length_singleton];omega
     ·show 2*(ps++[(x1,x2)]).length+h'≤L.length
      rw[List.length_append];simp only[List.length_singleton];omega
     ·intro r hr
      show af.ints .i64 _ _=af.ints .i64 _ _
      simp only[zC hr,if_neg (Nat.ne_of_lt hr)]
     ·show af.ints .i64 _ _=af.ints .i64 ys cx
      simp only[zD,if_true,sw]
     ·intro r hr
      have Fv:r<(a8 ps).length+1:=hr
      show AV.js _ (nc 4 n _ ((a8 (ps++[(x1,x2)])).getD r default))=(if r<ps.length then _ else _)
      by_cases pe:r<ps.length
      ·rw[if_pos pe,wO pe]
       show _=[AV.int .i64 ((a8 ps).getD r default).w,AV.int .i64 ((a8 ps).getD r default).k,AV.sl 4 ((a8 ps).getD r default).u 0 n (cv ((a8 ps).getD r default).u)]
       simp only[AV.js,AV.rm,Ci pe,bR (show¬(4=4∧r=ps.length) by omega),if_neg (Nat.ne_of_lt pe)]
      ·obtain rfl:r=ps.length:=by omega
       rw[if_neg pe,wP]
       simp only[AV.js,AV.rm,ia,if_true,R8]
     ·show AV.js _ [AV.ptr 3 0 0,AV.sl 5 (gO+1) 0 (a8 (ps++[(x1,x2)])).length c1]=[AV.ptr 3 0 0,AV.sl 5 (gO+1) 0 ((a8 ps).length+1) c1]
      rw[cW,List.length_append,Jz]
      rfl
     ·refine And.intro rfl (And.intro rfl (And.intro rfl (And.intro rfl (And.intro ?_ (And.intro ?_ trivial)))))
      ·show AO.bG true (ps++[(x1,x2)]).length _=AO.bG true (ps.length+1) _
       rw[List.length_append];rfl
      ·show aO 4 n _ (gO+1) c1 (a8 (ps++[(x1,x2)]))=AO.one true (gO+1) (.cJ 3 ((a8 ps).length+1) _ c1)
       unfold aO
       rw[cW (ps++[(x1,x2)]),List.length_append,Jz];rfl
  ·simp only[decide_eq_false_iff_not]at hc
   have e:ps=aw L:=by rw[←i3,GC _ (by rw[nG];omega),List.append_nil]
   subst e
   refine Rs ?_
   refine⟨[.e9 0,.e9 1,.own 4,.own 5],.sl 3 gO 0 (aw L).length cO,[vC n cu c L,.bG false m (uF us cu),.bG true (aw L).length (uF (zo us (aw L)) cv),aO 2 n cv gO cO (a8 (aw L))],⟨?_,rfl,?_,?_,?_⟩,gO,cO,cv,rfl,rfl,by rw[←cW];exact i5⟩
   ·exact⟨⟨rfl,_,rfl,rfl⟩,⟨rfl,_,rfl,rfl⟩,⟨rfl,rfl⟩,⟨rfl,rfl⟩,trivial⟩
   ·exact⟨fun _=>rfl,fun _=>trivial,fun _=>trivial,fun _=>rfl,trivial⟩
   ·show AV.sl 5 gO 0 (aw L).length cO=AV.sl 5 gO 0 (a8 (aw L)).length cO
    rw[cW]
   ·intro i hi
    match i,hi with
    |0,_=>exact .inr rfl
    |1,_=>exact .inr rfl
end
end Go.Proofs.Ytibadaomjlkoaaa
open Go.RowKit
namespace Go.Proofs.Ytibadaomjlkoaaa
set_option maxRecDepth 10000
def jk (x:Int):Bool:=decide (x<0)||decide (1099511627776<x)
def rC (x:Int):Bool:=decide (15<x)
section
variable{xs:List Int}{c c0:Nat}{K Kp:AV→AH→Prop}
theorem HE {x:Int}{M:AH}(hM:M=[.one false 0 (.ints .i64 xs c)])(hK:K (.bo (jk x)) M):aa Try.prog 76 [.int .i64 x] M K Kp:=by
 subst hM
 refine aa.p8 ?_
 refine PD (fun _=>[]) [] rfl ?_
 refine Qs ?_
 refine And.intro (fun h1=>?_) (fun h1=>?_)
 ·refine Qs ?_
  refine⟨_,rfl,?_⟩
  have e:jk x=true:=by unfold jk;rw[h1];rfl
  rw[e]at hK;exact hK
 ·refine Qs ?_
  refine⟨_,rfl,?_⟩
  have e:jk x=decide (1099511627776<x):=by unfold jk;rw[h1];rfl
  rw[e]at hK;exact hK
theorem HD {x:Int}{M:AH}(hM:M=[.one false 0 (.ints .u8 xs c)])(hK:K (.bo (rC x)) M):aa Try.prog 99 [.int .u8 x] M K Kp:=by
 subst hM
 refine Pm (fun _=>[]) [] rfl ?_
 refine Qs ?_
 exact hK
theorem GZ (hl:xs.length≤1000000000)(hK:∀r:Int,(0≤r↔xs.any jk=true)→K (.int .i64 r) [.one false 0 (.ints .i64 xs c)]):
 aa Try.prog 92 [.sl 0 0 0 xs.length c0,.fn (.func 76) [] []] [.one false 0 (.ints .i64 xs c)] K Kp:=by
 refine Pt (fun _=>[0]) [] rfl ?_
 refine Rs ?_
 refine WO.go (σ:=Nat) (fun i=>i≤xs.length∧∀j,j<i→jk (xs.getD j 0)=false) (fun i=>xs.length-i)
  (fun i=>[(0,.sl 0 0 0 xs.length c0),(1,.fn (.func 76) [] []),(7,.int .i64 xs.length),(8,.int .i64 (i:Int))]) (fun i=>[.one false 0 (.ints .i64 xs c)]) 0 ae mixed (by kernel_rfl) ⟨Nat.zero_le _,fun j hj=>absurd hj (Nat.not_lt_zero j)⟩ (aI rfl (aI rfl (aI rfl (aI rfl (trivial))))) (aI rfl (trivial)) (fun _=>rfl) (fun _=>rfl) (fun _=>⟨trivial,trivial⟩) ?_
 rintro i ⟨h1,h2⟩ d
 refine Rs ?_
 refine And.intro (fun hc=>?_) (fun hc=>?_)
 ·simp only[decide_eq_true_eq]at hc
  refine Rs ?_
  refine HE (x:=xs.getD ((i:Int).toNat+0) 0) rfl ?_
  refine Rs ?_
  refine And.intro (fun hb=>?_) (fun hb=>?_)
  ·refine Rs ?_
   refine hK _ ⟨fun _=>?_,fun _=>by omega⟩
   rw[List.any_eq_true]
   refine⟨xs.getD i 0,?_,by simpa using hb⟩
   rw[List.getD_eq_getElem?_getD,List.getElem?_eq_getElem (show i<xs.length by omega)];exact List.getElem_mem _
  ·refine Rs ?_
   refine RO.same (i+1) ⟨by omega,fun j hj=>?_⟩ (show xs.length-(i+1)<xs.length-i by omega) (aI rfl (aI rfl (aI rfl (aI rfl (trivial))))) (aI rfl (trivial))
   by_cases e:j=i
   ·subst e;simpa using hb
   ·exact h2 j (by omega)
 ·simp only[decide_eq_false_iff_not]at hc
  have:xs.any jk=false:=by
   rw[List.any_eq_false]
   intro x hx
   obtain⟨j,hj,rfl⟩:=List.getElem_of_mem hx
   have:=h2 j (by omega)
   rw[List.getD_eq_getElem?_getD,List.getElem?_eq_getElem hj]at this
   simpa using this
  refine Rs ?_
  exact hK _ ⟨fun h=>by omega,fun h=>by rw[this]at h;cases h⟩
theorem GY (hl:xs.length≤1000000000)(hK:∀r:Int,(0≤r↔xs.any rC=true)→K (.int .i64 r) [.one false 0 (.ints .u8 xs c)]):
 aa Try.prog 103 [.sl 0 0 0 xs.length c0,.fn (.func 99) [] []] [.one false 0 (.ints .u8 xs c)] K Kp:=by
 refine Lh (fun _=>[0]) [] rfl ?_
 refine Rs ?_
 refine WO.go (σ:=Nat) (fun i=>i≤xs.length∧∀j,j<i→rC (xs.getD j 0)=false) (fun i=>xs.length-i)
  (fun i=>[(0,.sl 0 0 0 xs.length c0),(1,.fn (.func 99) [] []),(7,.int .i64 xs.length),(8,.int .i64 (i:Int))]) (fun i=>[.one false 0 (.ints .u8 xs c)]) 0 ae mixed (by kernel_rfl) ⟨Nat.zero_le _,fun j hj=>absurd hj (Nat.not_lt_zero j)⟩ (aI rfl (aI rfl (aI rfl (aI rfl (trivial))))) (aI rfl (trivial)) (fun _=>rfl) (fun _=>rfl) (fun _=>⟨trivial,trivial⟩) ?_
 rintro i ⟨h1,h2⟩ d
 refine Rs ?_
 refine And.intro (fun hc=>?_) (fun hc=>?_)
 ·simp only[decide_eq_true_eq]at hc
  refine Rs ?_
  refine HD (x:=xs.getD ((i:Int).toNat+0) 0) rfl ?_
  refine Rs ?_
  refine And.intro (fun hb=>?_) (fun hb=>?_)
  ·refine Rs ?_
   refine hK _ ⟨fun _=>?_,fun _=>by omega⟩
   rw[List.any_eq_true]
   refine⟨xs.getD i 0,?_,by simpa using hb⟩
   rw[List.getD_eq_getElem?_getD,List.getElem?_eq_getElem (show i<xs.length by omega)];exact List.getElem_mem _
  ·refine Rs ?_
   refine RO.same (i+1) ⟨by omega,fun j hj=>?_⟩ (show xs.length-(i+1)<xs.length-i by omega) (aI rfl (aI rfl (aI rfl (aI rfl (trivial))))) (aI rfl (trivial))
   by_cases e:j=i
   ·subst e;simpa using hb
   ·exact h2 j (by omega)
 ·simp only[decide_eq_false_iff_not]at hc
  have:xs.any rC=false:=by
   rw[List.any_eq_false]
   intro x hx
   obtain⟨j,hj,rfl⟩:=List.getElem_of_mem hx
   have:=h2 j (by omega)
   rw[List.getD_eq_getElem?_getD,List.getElem?_eq_getElem hj]at this
   simpa using this
  refine Rs ?_
  exact hK _ ⟨fun h=>by omega,fun h=>by rw[this]at h;cases h⟩
theorem Hg (hl:xs.length≤1000000000)(hK:K (.bo (xs.any jk)) [.one false 0 (.ints .i64 xs c)]):
 aa Try.prog 75 [.sl 0 0 0 xs.length c0,.fn (.func 76) [] []] [.one false 0 (.ints .i64 xs c)] K Kp:=by
 refine PE (fun _=>[]) [] rfl ?_
 refine Rs ?_
 refine GZ hl fun r hr=>?_
 refine Rs ?_
 have:decide ((0:Int)≤r)=xs.any jk:=by rw[Bool.eq_iff_iff,decide_eq_true_eq];exact hr
 rw[←this]at hK
 exact hK
theorem Hf (hl:xs.length≤1000000000)(hK:K (.bo (xs.any rC)) [.one false 0 (.ints .u8 xs c)]):
 aa Try.prog 98 [.sl 0 0 0 xs.length c0,.fn (.func 99) [] []] [.one false 0 (.ints .u8 xs c)] K Kp:=by
 refine Pn (fun _=>[]) [] rfl ?_
 refine Rs ?_
 refine GY hl fun r hr=>?_
 refine Rs ?_
 have:decide ((0:Int)≤r)=xs.any rC:=by rw[Bool.eq_iff_iff,decide_eq_true_eq];exact hr
 rw[←this]at hK
 exact hK
theorem FE {M:AH}{i g n co:Nat}{o:Bool}(hi:M[i]?=some (.one o g (.ints .u8 xs co)))(hn:n=xs.length)(hl:xs.length≤1000000000)(hK:K (.bo (xs.any rC)) M):
 aa Try.prog 98 [.sl i g 0 n c,.fn (.func 99) [] []] M K Kp:=by
 subst hn
 refine aa.lift [.eI i g 0] (Hf (xs:=xs) (c0:=c) (c:=co) (K:=fun r M=>r=.bo (xs.any rC)∧M=[.one false 0 (.ints .u8 xs co)]) (Kp:=fun _ _=>False) hl ⟨rfl,rfl⟩) rfl rfl ⟨⟨_,_,_,rfl,ak hi,eG.same rfl (fun h=>h)⟩,trivial⟩ ⟨trivial,trivial⟩ ?_ (fun _ _ h=>h.elim)
 rintro r M' ⟨rfl,rfl⟩
 refine⟨⟨rfl,rfl⟩,?_⟩
 rw[←List.append_nil M]at hK
 exact hK
theorem II {M:AH}{a g u n m k:Nat}{o:Bool}{cu:Nat→Nat}{us:Nat→List Int}{L:List It}{B Bu:Int}(ok:sZ n m us B Bu L)(ha:M[a]?=some (.one o g (.cJ 3 L.length (gU u n cu L) c)))(hu:M[u]?=some (.bG false m (uF us cu)))(hk:k=L.length)
 (hK:∀g' c' cv,(aw L).length≤c'→K (.sl (M.length+1) g' 0 (aw L).length c') (M++[.bG true (aw L).length (uF (zo us (aw L)) cv),aO M.length n cv g' c' (a8 (aw L))])):
 aa Try.prog 77 [.sl a g 0 k c0] M K Kp:=by
 subst hk
 refine aa.lift [.eI a g 0,.e9 u] (Ce (c0:=c0) (c:=c) (cu:=cu) (Kp:=fun _ _=>False) ok) rfl rfl ⟨⟨_,_,_,rfl,ak ha,eG.same rfl (fun h=>h)⟩,⟨rfl,_,hu,rfl⟩,trivial⟩ ⟨fun _=>rfl,fun _=>trivial,trivial⟩ ?_ (fun _ _ h=>h.elim)
 rintro r M' ⟨g',c',cv,rfl,rfl,h⟩
 exact⟨⟨rfl,rfl,rfl⟩,hK g' c' cv h⟩
end
end Go.Proofs.Ytibadaomjlkoaaa
