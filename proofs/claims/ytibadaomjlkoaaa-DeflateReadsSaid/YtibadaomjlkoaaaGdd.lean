import Derived.Test.YtibadaomjlkoaaaGdc
import Derived.Test.YtibadaomjlkoaaaGb
import Derived.Test.YtibadaomjlkoaaaGdb
set_option linter.unusedVariables false
set_option linter.unusedSimpArgs false
open Go.RowKit
namespace Go.Proofs.Ytibadaomjlkoaaa
set_option maxRecDepth 10000
abbrev bb:=Nat×Nat×Nat
def jI (ts:List bb):Nat:=match ts.getLast? with|some t=>t.2.1|none=>0
def jH (ts:List bb):Nat:=match ts.getLast? with|some t=>t.2.2|none=>0
theorem qm (ts:List bb)(t:bb):jI (ts++[t])=t.2.1:=by simp[jI]
theorem ql (ts:List bb)(t:bb):jH (ts++[t])=t.2.2:=by simp[jH]
def aG (code n:Nat):List Bool:=(List.range n).map fun j=>decide (code/2^(n-1-j)%2=1)
theorem bP (code n:Nat):(aG code n).length=n:=by simp[aG]
def bF (ts:List bb)(cv:Nat→Nat):Nat→af:=fun j=>.ax (aG (ts.getD j default).2.1 (ts.getD j default).2.2) (cv j)
abbrev gT (f:Nat)(cv:Nat→Nat)(ts:List bb):Nat→List AV:=fun j=>[.int .i64 ((ts.getD j default).1:Int),.sl f j 0 (ts.getD j default).2.2 (cv j)]
def tO (f:Nat)(cv:Nat→Nat)(g c:Nat)(ts:List bb):AO:=.one true g (.cw 2 ts.length (gT f cv ts) c)
theorem rK {ts:List bb}{t:bb}{r:Nat}(h:r<ts.length):(ts++[t]).getD r default=ts.getD r default:=by
 simp[List.getD_eq_getElem?_getD,List.getElem?_append_left h]
theorem pj {ts:List bb}{t:bb}:(ts++[t]).getD ts.length default=t:=by simp[List.getD_eq_getElem?_getD]
theorem rp (ls:List Int)(n:Nat)(x:Nat×List bb):∀i,(cJ ls n i x).2.length≤x.2.length+i
 |0=>Nat.le_refl _
 |i+1=>by
  have:=rp ls n x i
  rw[aZ];unfold dD;split
  ·show((cJ ls n i x).2++[_]).length≤_;rw[List.length_append];simp only[List.length_singleton];omega
  ·omega
theorem oA (ls:List Int):∀n,(aK ls n).2.length≤n*ls.length
 |0=>by simp[aK]
 |n+1=>by
  have ih:=oA ls n
  have:=rp ls (n+1) (2*(aK ls n).1,(aK ls n).2) ls.length
  simp only[aK]
  rw[show(n+1)*ls.length=n*ls.length+ls.length from Nat.succ_mul n _]
  exact Nat.le_trans this (by show(aK ls n).2.length+ls.length≤n*ls.length+ls.length;omega)
def Cj (n np:Nat)(ts:List bb):Prop:=(ts=[]→np=0)∧(ts≠[]→np=(jI ts+1)*2^(n-jH ts)∧jH ts≤n)
theorem K9 {n np:Nat}{ts:List bb}(h:Cj n np ts):Cj (n+1) (2*np) ts:=by
 refine⟨fun e=>by have:=h.1 e;omega,fun e=>?_⟩
 obtain⟨h1,h2⟩:=h.2 e
 refine⟨?_,by omega⟩
 rw[show n+1-jH ts=(n-jH ts)+1 by omega,Nat.pow_succ,h1,Nat.mul_comm 2,Nat.mul_assoc]
theorem vP {n np s:Nat}{ts:List bb}:Cj n (np+1) (ts++[(s,np,n)]):=by
 refine⟨fun e=>by simp at e,fun _=>?_⟩
 rw[qm,ql]
 exact⟨by simp,Nat.le_refl _⟩
def aj (ls:List Int):List bb:=if aB ls=0 then(aK ls 15).2 else[]
def MP (ls:List Int)(c:Nat)(cv:Nat→Nat)(g d:Nat)(ts:List bb):AH:=[.one false 0 (.ints .u8 ls c),.aX true ts.length (bF ts cv),tO 1 cv g d ts]
theorem HV {ls:List Int}{c g d:Nat}{cv:Nat→Nat}{ts:List bb}:kq (MP ls c cv g d ts).length (MP ls c cv g d ts):=⟨trivial,fun _=>trivial,fun _=>rfl,trivial⟩
section
variable{ls:List Int}{c c0:Nat}{Kp:AV→AH→Prop}
theorem MN (hl:ls.length≤2000)(hu:∀x∈ls,0≤x∧x<256):aa Try.prog 56 [.sl 0 0 0 ls.length c0] [.one false 0 (.ints .u8 ls c)]
 (fun r M=>∃g' c' cv,r=.aE [.sl 2 g' 0 (aj ls).length c',.int .i64 (aB ls)]∧M=MP ls c cv g' c' (aj ls)∧(aj ls).length≤c') Kp:=by
 refine aa.eS ?_
 refine SA (fun _=>[0]) [] rfl ?_
 refine Qs ?_
 refine Dx hl hu ?_
 refine Qs ?_
 refine And.intro (fun h1=>?_) (fun h1=>?_)
 ·have iA:¬aB ls=0:=by simpa using h1
  refine Qs ?_
  refine⟨_,_,Vw.trans (Vw.Qo (own:=true) (f:=bF [] (fun _=>0))) (Vw.canon (x:=.cw 2 0 (gT 1 (fun _=>0) []) 0) ⟨rfl,rfl⟩ (bL (mF (bL (by simp only[iE];exact .inr rfl) (bL (iB _ _) (ee _)))) (ee _))),0,0,fun _=>0,?_,?_,?_⟩
  all_goals(unfold aj;rw[if_neg iA])
  ·rfl
  ·rfl
  ·exact Nat.le_refl _
 have iA:aB ls=0:=by simpa using h1
 have hb:eh ls=false:=by
  cases hb:eh ls with
  |false=>rfl
  |true=>rw[eZ hb]at iA;cases iA
 have kv:ls.length≤320:=by
  unfold eh at hb
  simp only[Bool.or_eq_false_iff,decide_eq_false_iff_not]at hb
  omega
 have ht:aj ls=(aK ls 15).2:=by unfold aj;rw[if_pos iA]
 refine Rs ?_
 refine WO.Dv (σ:=Nat×Nat×List bb×Nat×Nat×(Nat→Nat)) (fun(n,np,ts,g,d,cv)=>n≤15∧(np,ts)=aK ls n∧Cj n np ts∧ts.length≤d) (fun(n,_)=>15-n)
  (fun(n,np,ts,g,d,cv)=>[(0,.sl 0 0 0 ls.length c0),(5,.sl 2 g 0 ts.length d),(6,.int .i64 (jI ts:Int)),(7,.int .i64 (jH ts:Int)),(8,.int .i64 ((n:Int)+1))])
  (fun(n,np,ts,g,d,cv)=>MP ls c cv g d ts) (0,0,[],0,0,fun _=>0) ae mixed (by kernel_rfl)
  [(0,.sl 0 0 0 ls.length c0),(5,.ns),(6,.int .i64 0),(7,.int .i64 0),(8,.int .i64 1)] _ ⟨Nat.zero_le _,rfl,⟨fun _=>rfl,fun h=>absurd rfl h⟩,Nat.zero_le _⟩ (aI rfl (aI rfl (aI rfl (aI rfl (aI rfl (trivial)))))) rfl
  (Vw.trans (Vw.Qo (own:=true) (f:=bF [] (fun _=>0))) (Vw.pz (x:=.cw 2 0 (gT 1 (fun _=>0) []) 0) ⟨rfl,rfl⟩ ?_)) (aI rfl (aI rfl (aI rfl (trivial)))) (fun _=>rfl) (fun _=>rfl) (fun _=>HV) ?_
 ·exact And.intro (.inl rfl) (And.intro (.inr ⟨rfl,rfl⟩) (And.intro (.inl rfl) (And.intro (.inl rfl) (And.intro (.inl rfl) trivial))))
 rintro⟨n,np,ts,g,d,cv⟩ ⟨n1,n2,n3,n4⟩ d0
 refine Rs ?_
 refine And.intro (fun hn=>?_) (fun hn=>?_)
 ·have Bl:(n:Int)+1≤15:=by simpa using hn
  have sR:=ij ls n
  rw[←n2]at sR
  have hp:2^n≤2^15:=Nat.pow_le_pow_right (by omega) n1
  have Bk:2^n*ls.length≤2^15*320:=Nat.mul_le_mul hp kv
  have Jf:(2^15*320:Nat)=10485760:=by decide
  rw[Jf]at Bk
  have Dp:np≤10485760:=by have:np+ls.length≤2^n*ls.length:=sR;omega
  refine Rs ?_
  refine WO.go (σ:=Nat×Nat×List bb×Nat×Nat×(Nat→Nat)) (fun(i,mp,us,g,d,cv)=>i≤ls.length∧(mp,us)=cJ ls (n+1) i (2*np,ts)∧Cj (n+1) mp us∧us.length≤d) (fun(i,_)=>ls.length-i)
   (fun(i,mp,us,g,d,cv)=>[(0,.sl 0 0 0 ls.length c0),(5,.sl 2 g 0 us.length d),(6,.int .i64 (jI us:Int)),(7,.int .i64 (jH us:Int)),(8,.int .i64 ((n:Int)+1)),(9,.int .i64 (i:Int))])
   (fun(i,mp,us,g,d,cv)=>MP ls c cv g d us) (0,2*np,ts,g,d,cv) ae mixed (by kernel_rfl) ⟨Nat.zero_le _,rfl,K9 n3,n4⟩ (aI rfl (aI rfl (aI rfl (aI rfl (aI rfl (aI rfl (trivial))))))) (aI rfl (aI rfl (aI rfl (trivial)))) (fun _=>rfl) (fun _=>rfl) (fun _=>HV) ?_
  rintro⟨i,mp,us,g,d,cv⟩ ⟨i1,i2,i3,i4⟩ d1
  have pR:=ja ls (n+1) (2*np,ts) i
  rw[←i2]at pR
  have hmp:mp≤2*np+i:=pR
  refine Rs ?_
  refine And.intro (fun hi=>?_) (fun hi=>?_)
  ·have gv:i<ls.length:=by simp only[decide_eq_true_eq]at hi;omega
   have U2:-9223372036854775808≤ls.getD ((i:Int).toNat+0) 0∧ls.getD ((i:Int).toNat+0) 0≤9223372036854775807:=by
    have:=hu _ (jQ (d:=0) gv)
    rw[Int.toNat_natCast,Nat.add_zero];omega
   refine Rs ?_
   refine And.intro (fun hk=>?_) (fun hk=>?_)
   ·have mr:¬ls.getD i 0=((n+1:Nat):Int):=by simpa using hk
    refine Rs ?_
    refine RO.same (i+1,mp,us,g,d,cv) ⟨by omega,?_,i3,i4⟩ (show ls.length-(i+1)<ls.length-i by omega) (aI rfl (aI rfl (aI rfl (aI rfl (aI rfl (aI rfl (trivial))))))) (aI rfl (aI rfl (aI rfl (trivial))))
    rw[aZ,←i2]
    unfold dD
    rw[if_neg mr]
   ·have mr:ls.getD i 0=((n+1:Nat):Int):=by simpa using hk
    have kI:(mp+1,us++[(i,mp,n+1)])=cJ ls (n+1) (i+1) (2*np,ts):=by
     rw[aZ,←i2]
     unfold dD
     rw[if_pos mr]
    refine Rs ?_
    refine And.intro (fun he=>?_) (fun he=>?_)
    ·have eN:us≠[]:=by intro e;subst e;simp at he
     obtain⟨q1,q2⟩:=i3.2 eN
     have CB:bg .i64 ((jI us:Int)+1) ((n:Int)+1-(jH us:Int))=(mp:Int):=by
      rw[show(n:Int)+1-(jH us:Int)=((n+1-jH us:Nat):Int) by omega,show(jI us:Int)+1=((jI us+1:Nat):Int)from rfl,GX (by rw[←q1];omega) (by omega),←q1]
     have Rc:(0:Int)≤(n:Int)+1-(jH us:Int):=by omega
     have tM:(jI us:Int)+1≤9223372036854775807:=by
      have:jI us+1≤mp:=by rw[q1];exact Nat.le_mul_of_pos_right _ (Nat.pow_pos (by omega))
      omega
     refine Rs ?_
     refine WO.Dv (σ:=Nat×Nat×Nat) (fun(j,g3,c3)=>j≤n+1∧((aG mp (n+1)).take j).length≤c3) (fun(j,_,_)=>n+1-j)
      (fun(j,g3,c3)=>[(0,.sl 0 0 0 ls.length c0),(5,.sl 2 g 0 us.length d),(6,.int .i64 (mp:Int)),(7,.int .i64 ((n:Int)+1)),(8,.int .i64 ((n:Int)+1)),(9,.int .i64 (i:Int)),(10,.sl 3 g3 0 ((aG mp (n+1)).take j).length c3),(11,.int .i64 ((n:Int)-(j:Int)))])
      (fun(j,g3,c3)=>[.one false 0 (.ints .u8 ls c),.aX true us.length (bF us cv),tO 1 cv g d us,.one true g3 (.ax ((aG mp (n+1)).take j) c3)]) (0,0,0) ae mixed (by kernel_rfl)
      [(0,.sl 0 0 0 ls.length c0),(5,.sl 2 g 0 us.length d),(6,.int .i64 (bg .i64 ((jI us:Int)+1) ((n:Int)+1-(jH us:Int)))),(7,.int .i64 ((n:Int)+1)),(8,.int .i64 ((n:Int)+1)),(9,.int .i64 (i:Int)),(10,.ns),(11,.int .i64 ((n:Int)+1-1))] _ ⟨Nat.zero_le _,Nat.zero_le _⟩ (aI rfl (aI rfl (aI rfl (aI rfl (aI rfl (aI rfl (aI rfl (aI rfl (trivial))))))))) rfl
      (Vw.pz (x:=.ax [] 0) ⟨rfl,rfl⟩ ?_) (aI rfl (aI rfl (aI rfl (aI rfl (trivial))))) (fun _=>rfl) (fun _=>rfl) (fun _=>⟨trivial,fun _=>trivial,fun _=>rfl,trivial,trivial⟩) ?_
     ·refine And.intro (.inl rfl) (And.intro (.inl rfl) (And.intro (.inl ?_) (And.intro (.inl rfl) (And.intro (.inl rfl) (And.intro (.inl rfl) (And.intro (.inr ⟨rfl,rfl⟩) (And.intro (.inl ?_) trivial)))))))
      ·show AV.int .i64 (mp:Int)=AV.int .i64 _
       rw[CB]
      ·show AV.int .i64 ((n:Int)-((0:Nat):Int))=AV.int .i64 ((n:Int)+1-1)
       congr 1;omega
     rintro⟨j,g3,c3⟩ ⟨j1,j2⟩ d2
     have uH:=bP mp (n+1)
     have htj:((aG mp (n+1)).take j).length=j:=by rw[List.length_take];omega
     refine Rs ?_
     refine And.intro (fun hj=>?_) (fun hj=>?_)
     ·have qG:(0:Int)≤(n:Int)-(j:Int):=by simpa using hj
      have Z7:bS .i64 (mp:Int) ((n:Int)-(j:Int))=((mp/2^(n-j):Nat):Int):=by
       rw[show(n:Int)-(j:Int)=((n-j:Nat):Int) by omega]
       exact zW (by omega)
      have Uk:decide ((bS .i64 (mp:Int) ((n:Int)-(j:Int))).tmod 2=1)=(aG mp (n+1)).getD j false:=by
       rw[Z7,Int.tmod_eq_emod_of_nonneg (Int.natCast_nonneg _)]
       have pc:j<n+1:=by omega
       simp only[aG,List.getD_eq_getElem?_getD,List.getElem?_map,List.getElem?_range pc,Option.map_some,Option.getD_some,Nat.add_sub_cancel]
       rw[decide_eq_decide]
       omega
      refine Rs ?_
      intro zs dk
      obtain rfl:zs=[(aG mp (n+1)).getD j false]:=by rw[dk,←Uk];rfl
      have pc:j<(aG mp (n+1)).length:=by omega
      have yZ:(aG mp (n+1)).take (j+1)=(aG mp (n+1)).take j++[(aG mp (n+1)).getD j false]:=by
       rw[List.take_succ_eq_append_getElem pc,List.getD_eq_getElem?_getD,List.getElem?_eq_getElem pc];rfl
      refine Rs ?_
      intro c4 jM
      refine Rs ?_
      refine RO.same (j+1,g3+1,c4) ⟨by omega,by rw[yZ,List.length_append];exact jM⟩ (show n+1-(j+1)<n+1-j by omega) (And.intro rfl (And.intro rfl (And.intro rfl (And.intro rfl (And.intro rfl (And.intro rfl (And.intro ?_ (And.intro ?_ trivial)))))))) (And.intro rfl (And.intro rfl (And.intro rfl (And.intro ?_ trivial))))
      ·show AV.sl 3 (g3+1) 0 (((aG mp (n+1)).take j).length+1) c4=AV.sl 3 (g3+1) 0 ((aG mp (n+1)).take (j+1)).length c4
       rw[yZ,List.length_append];rfl
      ·show AV.int .i64 ((n:Int)-(j:Int)-1)=AV.int .i64 ((n:Int)-((j+1:Nat):Int))
       congr 1;omega
      ·show AO.one true (g3+1) (.ax ((aG mp (n+1)).take (j+1)) c4)=AO.one true (g3+1) (.ax ((aG mp (n+1)).take j++[(aG mp (n+1)).getD j false]) c4)
       rw[yZ]
     ·have qG:¬(0:Int)≤(n:Int)-(j:Int):=by simpa using hj
      have LS:(aG mp (n+1)).take j=aG mp (n+1):=List.take_of_length_le (by omega)
      have uh:us.length≤6000:=by
       have:=rp ls (n+1) (2*np,ts) i
       rw[←i2]at this
       have h2:=oA ls n
       rw[←n2]at h2
       have h3:us.length≤ts.length+i:=this
       have h4:ts.length≤n*ls.length:=h2
       have h5:n*ls.length≤15*320:=Nat.mul_le_mul n1 kv
       omega
      refine Rs ?_
      refine And.intro (fun q hq=>?_) ?_
      ·match q,hq with
       |0,_=>exact⟨rfl,rfl⟩
      refine And.intro ⟨by show us.length+1≤_;omega,by show(us.length+1)*32≤_;omega⟩ ?_
      refine Exists.intro (fun q=>if q<us.length then gT 1 cv us q else[.int .i64 (i:Int),.sl 3 g3 0 ((aG mp (n+1)).take j).length c3]) (And.intro (fun q hq=>?_) (fun c1 pD=>?_))
      ·by_cases xM:q<us.length
       ·rw[if_pos xM]
        show(if q<us.length then _ else _)=_
        rw[if_pos xM]
       ·have Bj:q<us.length+1:=hq
        have eW:q-us.length=0:=by omega
        rw[if_neg xM,eW]
        show(if q<us.length then _ else _)=_
        rw[if_neg xM]
        rfl
      have wv:us.length+1≤c1:=pD
      refine Rs ?_
      refine RO.mk (i+1,mp+1,us++[(i,mp,n+1)],g+1,c1,fun r=>if r=us.length then c3 else cv r) [(0,.sl 0 0 0 ls.length c0),(5,.sl 2 (g+1) 0 (us.length+1) c1),(6,.int .i64 (mp:Int)),(7,.int .i64 ((n:Int)+1)),(8,.int .i64 ((n:Int)+1)),(9,.int .i64 ((i:Int)+1))] _ ⟨by omega,kI,vP,by rw[List.length_append];exact wv⟩ (show ls.length-(i+1)<ls.length-i by omega) (aI rfl (aI rfl (aI rfl (aI rfl (aI rfl (aI rfl (trivial))))))) rfl
       (Vw.freeze (iu:=1) (k:=3) (o:=2) (bF (us++[(i,mp,n+1)]) (fun r=>if r=us.length then c3 else cv r)) (gT 1 (fun r=>if r=us.length then c3 else cv r) (us++[(i,mp,n+1)])) rfl rfl rfl rfl ?_ ?_ ?_ ?_) ?_
      ·intro r hr
       show af.ax (aG ((us++[(i,mp,n+1)]).getD r default).2.1 ((us++[(i,mp,n+1)]).getD r default).2.2) (if r=us.length then c3 else cv r)=af.ax _ _
       rw[rK hr,if_neg (Nat.ne_of_lt hr)]
      ·show af.ax (aG ((us++[(i,mp,n+1)]).getD us.length default).2.1 ((us++[(i,mp,n+1)]).getD us.length default).2.2) (if us.length=us.length then c3 else cv us.length)=af.ax ((aG mp (n+1)).take j) c3
       rw[pj,if_pos rfl,LS]
      ·intro r hr
       have Dr:r<us.length+1:=hr
       show AV.ik _ [AV.int .i64 (((us++[(i,mp,n+1)]).getD r default).1:Int),AV.sl 1 r 0 ((us++[(i,mp,n+1)]).getD r default).2.2 (if r=us.length then c3 else cv r)]=(if r<us.length then _ else _)
       by_cases fJ:r<us.length
       ·rw[if_pos fJ,rK fJ,if_neg (Nat.ne_of_lt fJ)]
        simp only[AV.ik,AV.rm,bR (show¬(1=1∧r=us.length) by omega)]
       ·obtain rfl:r=us.length:=by omega
        rw[if_neg fJ,pj,if_pos rfl,LS,uH]
        simp only[AV.ik,AV.rm,fS]
      ·show AV.ik _ [AV.sl 0 0 0 ls.length c0,.sl 2 (g+1) 0 (us++[(i,mp,n+1)]).length c1,.int .i64 (jI (us++[(i,mp,n+1)]):Int),.int .i64 (jH (us++[(i,mp,n+1)]):Int),.int .i64 ((n:Int)+1),.int .i64 ((i+1:Nat):Int)]=[AV.sl 0 0 0 ls.length c0,.sl 2 (g+1) 0 (us.length+1) c1,.int .i64 (mp:Int),.int .i64 ((n:Int)+1),.int .i64 ((n:Int)+1),.int .i64 ((i:Int)+1)]
       rw[List.length_append,qm,ql]
       rfl
      ·refine And.intro rfl (And.intro ?_ (And.intro ?_ trivial))
       ·show AO.aX true (us++[(i,mp,n+1)]).length _=AO.aX true (us.length+1) _
        rw[List.length_append];rfl
       ·show tO 1 _ (g+1) c1 (us++[(i,mp,n+1)])=AO.one true (g+1) (.cw 2 (us.length+1) _ c1)
        unfold tO
        rw[List.length_append];rfl
    ·have eN:us=[]:=by
      have:¬(0:Int)<us.length:=by simpa using he
      exact List.eq_nil_of_length_eq_zero (by omega)
     have Jj:mp=0:=i3.1 eN
     have tM:(jI us:Int)=(mp:Int):=by rw[eN,Jj];rfl
     refine Rs ?_
     refine WO.Dv (σ:=Nat×Nat×Nat) (fun(j,g3,c3)=>j≤n+1∧((aG mp (n+1)).take j).length≤c3) (fun(j,_,_)=>n+1-j)
      (fun(j,g3,c3)=>[(0,.sl 0 0 0 ls.length c0),(5,.sl 2 g 0 us.length d),(6,.int .i64 (mp:Int)),(7,.int .i64 ((n:Int)+1)),(8,.int .i64 ((n:Int)+1)),(9,.int .i64 (i:Int)),(10,.sl 3 g3 0 ((aG mp (n+1)).take j).length c3),(11,.int .i64 ((n:Int)-(j:Int)))])
      (fun(j,g3,c3)=>[.one false 0 (.ints .u8 ls c),.aX true us.length (bF us cv),tO 1 cv g d us,.one true g3 (.ax ((aG mp (n+1)).take j) c3)]) (0,0,0) ae mixed (by kernel_rfl)
      [(0,.sl 0 0 0 ls.length c0),(5,.sl 2 g 0 us.length d),(6,.int .i64 ((jI us:Int))),(7,.int .i64 ((n:Int)+1)),(8,.int .i64 ((n:Int)+1)),(9,.int .i64 (i:Int)),(10,.ns),(11,.int .i64 ((n:Int)+1-1))] _ ⟨Nat.zero_le _,Nat.zero_le _⟩ (aI rfl (aI rfl (aI rfl (aI rfl (aI rfl (aI rfl (aI rfl (aI rfl (trivial))))))))) rfl
      (Vw.pz (x:=.ax [] 0) ⟨rfl,rfl⟩ ?_) (aI rfl (aI rfl (aI rfl (aI rfl (trivial))))) (fun _=>rfl) (fun _=>rfl) (fun _=>⟨trivial,fun _=>trivial,fun _=>rfl,trivial,trivial⟩) ?_
     ·refine And.intro (.inl rfl) (And.intro (.inl rfl) (And.intro (.inl ?_) (And.intro (.inl rfl) (And.intro (.inl rfl) (And.intro (.inl rfl) (And.intro (.inr ⟨rfl,rfl⟩) (And.intro (.inl ?_) trivial)))))))
      ·show AV.int .i64 (mp:Int)=AV.int .i64 _
       rw[tM]
      ·show AV.int .i64 ((n:Int)-((0:Nat):Int))=AV.int .i64 ((n:Int)+1-1)
       congr 1;omega
     rintro⟨j,g3,c3⟩ ⟨j1,j2⟩ d2
     have uH:=bP mp (n+1)
     have htj:((aG mp (n+1)).take j).length=j:=by rw[List.length_take];omega
     refine Rs ?_
     refine And.intro (fun hj=>?_) (fun hj=>?_)
     ·have qG:(0:Int)≤(n:Int)-(j:Int):=by simpa using hj
      have Z7:bS .i64 (mp:Int) ((n:Int)-(j:Int))=((mp/2^(n-j):Nat):Int):=by
       rw[show(n:Int)-(j:Int)=((n-j:Nat):Int) by omega]
       exact zW (by omega)
      have Uk:decide ((bS .i64 (mp:Int) ((n:Int)-(j:Int))).tmod 2=1)=(aG mp (n+1)).getD j false:=by
       rw[Z7,Int.tmod_eq_emod_of_nonneg (Int.natCast_nonneg _)]
       have pc:j<n+1:=by omega
       simp only[aG,List.getD_eq_getElem?_getD,List.getElem?_map,List.getElem?_range pc,Option.map_some,Option.getD_some,Nat.add_sub_cancel]
       rw[decide_eq_decide]
       omega
      refine Rs ?_
      intro zs dk
      obtain rfl:zs=[(aG mp (n+1)).getD j false]:=by rw[dk,←Uk];rfl
      have pc:j<(aG mp (n+1)).length:=by omega
      have yZ:(aG mp (n+1)).take (j+1)=(aG mp (n+1)).take j++[(aG mp (n+1)).getD j false]:=by
       rw[List.take_succ_eq_append_getElem pc,List.getD_eq_getElem?_getD,List.getElem?_eq_getElem pc];rfl
      refine Rs ?_
      intro c4 jM
      refine Rs ?_
      refine RO.same (j+1,g3+1,c4) ⟨by omega,by rw[yZ,List.length_append];exact jM⟩ (show n+1-(j+1)<n+1-j by omega) (And.intro rfl (And.intro rfl (And.intro rfl (And.intro rfl (And.intro rfl (And.intro rfl (And.intro ?_ (And.intro ?_ trivial)))))))) (And.intro rfl (And.intro rfl (And.intro rfl (And.intro ?_ trivial))))
      ·show AV.sl 3 (g3+1) 0 (((aG mp (n+1)).take j).length+1) c4=AV.sl 3 (g3+1) 0 ((aG mp (n+1)).take (j+1)).length c4
       rw[yZ,List.length_append];rfl
      ·show AV.int .i64 ((n:Int)-(j:Int)-1)=AV.int .i64 ((n:Int)-((j+1:Nat):Int))
       congr 1;omega
      ·show AO.one true (g3+1) (.ax ((aG mp (n+1)).take (j+1)) c4)=AO.one true (g3+1) (.ax ((aG mp (n+1)).take j++[(aG mp (n+1)).getD j false]) c4)
       rw[yZ]
     ·have qG:¬(0:Int)≤(n:Int)-(j:Int):=by simpa using hj
      have LS:(aG mp (n+1)).take j=aG mp (n+1):=List.take_of_length_le (by omega)
      have uh:us.length≤6000:=by
       have:=rp ls (n+1) (2*np,ts) i
       rw[←i2]at this
       have h2:=oA ls n
       rw[←n2]at h2
       have h3:us.length≤ts.length+i:=this
       have h4:ts.length≤n*ls.length:=h2
       have h5:n*ls.length≤15*320:=Nat.mul_le_mul n1 kv
       omega
      refine Rs ?_
      refine And.intro (fun q hq=>?_) ?_
      ·match q,hq with
       |0,_=>exact⟨rfl,rfl⟩
      refine And.intro ⟨by show us.length+1≤_;omega,by show(us.length+1)*32≤_;omega⟩ ?_
      refine Exists.intro (fun q=>if q<us.length then gT 1 cv us q else[.int .i64 (i:Int),.sl 3 g3 0 ((aG mp (n+1)).take j).length c3]) (And.intro (fun q hq=>?_) (fun c1 pD=>?_))
      ·by_cases xM:q<us.length
       ·rw[if_pos xM]
        show(if q<us.length then _ else _)=_
        rw[if_pos xM]
       ·have Bj:q<us.length+1:=hq
        have eW:q-us.length=0:=by omega
        rw[if_neg xM,eW]
        show(if q<us.length then _ else _)=_
        rw[if_neg xM]
        rfl
      have wv:us.length+1≤c1:=pD
      refine Rs ?_
      refine RO.mk (i+1,mp+1,us++[(i,mp,n+1)],g+1,c1,fun r=>if r=us.length then c3 else cv r) [(0,.sl 0 0 0 ls.length c0),(5,.sl 2 (g+1) 0 (us.length+1) c1),(6,.int .i64 (mp:Int)),(7,.int .i64 ((n:Int)+1)),(8,.int .i64 ((n:Int)+1)),(9,.int .i64 ((i:Int)+1))] _ ⟨by omega,kI,vP,by rw[List.length_append];exact wv⟩ (show ls.length-(i+1)<ls.length-i by omega) (aI rfl (aI rfl (aI rfl (aI rfl (aI rfl (aI rfl (trivial))))))) rfl
       (Vw.freeze (iu:=1) (k:=3) (o:=2) (bF (us++[(i,mp,n+1)]) (fun r=>if r=us.length then c3 else cv r)) (gT 1 (fun r=>if r=us.length then c3 else cv r) (us++[(i,mp,n+1)])) rfl rfl rfl rfl ?_ ?_ ?_ ?_) ?_
      ·intro r hr
       show af.ax (aG ((us++[(i,mp,n+1)]).getD r default).2.1 ((us++[(i,mp,n+1)]).getD r default).2.2) (if r=us.length then c3 else cv r)=af.ax _ _
       rw[rK hr,if_neg (Nat.ne_of_lt hr)]
      ·show af.ax (aG ((us++[(i,mp,n+1)]).getD us.length default).2.1 ((us++[(i,mp,n+1)]).getD us.length default).2.2) (if us.length=us.length then c3 else cv us.length)=af.ax ((aG mp (n+1)).take j) c3
       rw[pj,if_pos rfl,LS]
      ·intro r hr
       have Dr:r<us.length+1:=hr
       show AV.ik _ [AV.int .i64 (((us++[(i,mp,n+1)]).getD r default).1:Int),AV.sl 1 r 0 ((us++[(i,mp,n+1)]).getD r default).2.2 (if r=us.length then c3 else cv r)]=(if r<us.length then _ else _)
       by_cases fJ:r<us.length
       ·rw[if_pos fJ,rK fJ,if_neg (Nat.ne_of_lt fJ)]
        simp only[AV.ik,AV.rm,bR (show¬(1=1∧r=us.length) by omega)]
       ·obtain rfl:r=us.length:=by omega
        rw[if_neg fJ,pj,if_pos rfl,LS,uH]
        simp only[AV.ik,AV.rm,fS]
      ·show AV.ik _ [AV.sl 0 0 0 ls.length c0,.sl 2 (g+1) 0 (us++[(i,mp,n+1)]).length c1,.int .i64 (jI (us++[(i,mp,n+1)]):Int),.int .i64 (jH (us++[(i,mp,n+1)]):Int),.int .i64 ((n:Int)+1),.int .i64 ((i+1:Nat):Int)]=[AV.sl 0 0 0 ls.length c0,.sl 2 (g+1) 0 (us.length+1) c1,.int .i64 (mp:Int),.int .i64 ((n:Int)+1),.int .i64 ((n:Int)+1),.int .i64 ((i:Int)+1)]
       rw[List.length_append,qm,ql]
       rfl
      ·refine And.intro rfl (And.intro ?_ (And.intro ?_ trivial))
       ·show AO.aX true (us++[(i,mp,n+1)]).length _=AO.aX true (us.length+1) _
        rw[List.length_append];rfl
       ·show tO 1 _ (g+1) c1 (us++[(i,mp,n+1)])=AO.one true (g+1) (.cw 2 (us.length+1) _ c1)
        unfold tO
        rw[List.length_append];rfl
  ·have gv:i=ls.length:=by simp only[decide_eq_false_iff_not]at hi;omega
   refine Rs ?_
   refine RO.same (n+1,mp,us,g,d,cv) ⟨by omega,?_,i3,i4⟩ (show 15-(n+1)<15-n by omega) (aI rfl (aI rfl (aI rfl (aI rfl (aI rfl (trivial)))))) (aI rfl (aI rfl (aI rfl (trivial))))
   rw[i2,gv]
   show cJ ls (n+1) ls.length (2*np,ts)=cJ ls (n+1) ls.length (2*(aK ls n).1,(aK ls n).2)
   rw[←n2]
 ·have Bl:¬(n:Int)+1≤15:=by simpa using hn
  have rI:n=15:=by omega
  subst rI
  have e:ts=aj ls:=by rw[ht,←n2]
  subst e
  refine Rs ?_
  exact⟨_,_,Vw.refl _ _,g,d,cv,by rw[iA],rfl,n4⟩
end
end Go.Proofs.Ytibadaomjlkoaaa
open Go.RowKit
namespace Go.Proofs.Ytibadaomjlkoaaa
set_option maxRecDepth 10000
theorem B0 {ls:List Int}{n:Nat}{x:Nat×List bb}(hx:∀t∈x.2,t.1<ls.length∧1≤t.2.2∧t.2.2≤15∧ls.getD t.1 0=(t.2.2:Int))(hn:1≤n∧n≤15):∀i,i≤ls.length→∀t∈(cJ ls n i x).2,t.1<ls.length∧1≤t.2.2∧t.2.2≤15∧ls.getD t.1 0=(t.2.2:Int)
 |0,_=>hx
 |i+1,hi=>by
  have ih:=B0 hx hn i (by omega)
  rw[aZ];unfold dD
  split
  ·rename_i hk
   intro t ht
   rcases List.mem_append.1 ht with ht|ht
   ·exact ih t ht
   ·obtain rfl:=List.mem_singleton.1 ht
    exact⟨by show i<_;omega,hn.1,hn.2,hk⟩
  ·exact ih
theorem x8 {ls:List Int}:∀n,n≤15→∀t∈(aK ls n).2,t.1<ls.length∧1≤t.2.2∧t.2.2≤15∧ls.getD t.1 0=(t.2.2:Int)
 |0,_=>by intro t ht;cases ht
 |n+1,hn=>B0 (x:=(2*(aK ls n).1,(aK ls n).2)) (x8 n (by omega)) ⟨by omega,hn⟩ ls.length (Nat.le_refl _)
theorem lH {ls:List Int}{t:bb}(h:t∈aj ls):t.1<ls.length∧1≤t.2.2∧t.2.2≤15∧ls.getD t.1 0=(t.2.2:Int):=by
 unfold aj at h
 split at h
 ·exact x8 15 (Nat.le_refl _) t h
 ·cases h
theorem K4:∀l:List Bool,0≤num l
 |[]=>Int.le_refl 0
 |b::l=>by have:=K4 l;simp only[num];split<;>omega
theorem Hi:∀l l':List Bool,num (l++l')=num l+2^l.length*num l'
 |[],l'=>by simp[num]
 |b::l,l'=>by
  simp only[List.cons_append,num,Hi l l',List.length_cons,Int.pow_succ]
  rw[Int.mul_add,←Int.mul_assoc,Int.mul_comm 2 (2^l.length),Int.add_assoc]
theorem qA (c n:Nat):aG c (n+1)=aG (c/2) n++[decide (c%2=1)]:=by
 unfold aG
 rw[List.range_succ,List.map_append]
 congr 1
 ·apply List.map_congr_left
  intro j hj
  have qG:j<n:=by simpa using hj
  rw[show n+1-1-j=(n-1-j)+1 by omega,Nat.pow_succ,Nat.mul_comm,Nat.div_div_eq_div_mul]
 ·simp
theorem x5:∀(n c o:Nat),((kQ n c o:Nat):Int)=o*2^n+num (aG c n)
 |0,c,o=>by simp[kQ,aG,num]
 |n+1,c,o=>by
  simp only[kQ]
  rw[x5 n (c/2) (2*o+c%2),qA,Hi,bP]
  have e:num [decide (c%2=1)]=((c%2:Nat):Int):=by
   simp only[num]
   rcases Nat.mod_two_eq_zero_or_one c with h|h<;>rw[h]<;>simp
  rw[e,Int.pow_succ]
  push_cast
  rw[Int.add_mul,Int.mul_comm 2 (o:Int),Int.mul_assoc,Int.mul_comm 2 (2^n),Int.mul_comm ((c:Int)%2) (2^n)]
  omega
theorem K3 (c n:Nat):num (aG c n)=((kQ n c 0:Nat):Int):=by rw[x5];simp
section
variable{M:AH}{K Kp:AV→AH→Prop}
end
section
variable{ls:List Int}{c c0:Nat}{Kp:AV→AH→Prop}
end
end Go.Proofs.Ytibadaomjlkoaaa
open Go.RowKit
namespace Go.Proofs.Ytibadaomjlkoaaa
set_option maxRecDepth 10000
def mJ (xs ys:List Bool):Bool:=decide (ys.length≤xs.length)&&decide (xs.take ys.length=ys)
section
variable{xs ys:List Bool}{c0 c1 c d:Nat}{M:AH}{K Kp:AV→AH→Prop}
theorem C8 (hx:xs.length≤100000000)(hy:ys.length≤100000000)(hK:K (.bo (mJ xs ys)) [.one false 0 (.ax xs c),.one false 0 (.ax ys d)]):
 aa Try.prog 100 [.sl 0 0 0 xs.length c0,.sl 1 0 0 ys.length c1] [.one false 0 (.ax xs c),.one false 0 (.ax ys d)] K Kp:=by
 refine aa.nG ?_
 refine NJ (fun _=>[0,1]) [] rfl ?_
 refine Qs ?_
 refine And.intro (fun h1=>?_) (fun h1=>?_)
 ·have iA:(xs.length:Int)<ys.length:=by simpa using h1
  have e:mJ xs ys=false:=by unfold mJ;rw[decide_eq_false (show¬ys.length≤xs.length by omega)];rfl
  rw[e]at hK
  refine Qs ?_
  exact⟨false,rfl,hK⟩
 have iA:¬(xs.length:Int)<ys.length:=by simpa using h1
 refine Rs ?_
 refine WO.go (σ:=Nat) (fun i=>i≤ys.length∧xs.take i=ys.take i) (fun i=>ys.length-i)
  (fun i=>[(0,.sl 0 0 0 xs.length c0),(1,.sl 1 0 0 ys.length c1),(5,.int .i64 (i:Int))]) (fun _=>[.one false 0 (.ax xs c),.one false 0 (.ax ys d)]) 0 ae mixed (by kernel_rfl) ⟨Nat.zero_le _,rfl⟩ (aI rfl (aI rfl (aI rfl (trivial)))) (aI rfl (aI rfl (trivial))) (fun _=>rfl) (fun _=>rfl) (fun _=>⟨trivial,trivial,trivial⟩) ?_
 rintro i ⟨i1,i2⟩ d0
 refine Rs ?_
 refine And.intro (fun hi=>?_) (fun hi=>?_)
 ·have gv:i<ys.length:=by simp only[decide_eq_true_eq]at hi;omega
  have Nc:i<xs.length:=by omega
  have gx:xs.getD i false=xs[i]:=by simp[List.getD_eq_getElem?_getD,Nc]
  have gy:ys.getD i false=ys[i]:=by simp[List.getD_eq_getElem?_getD,gv]
  refine Rs ?_
  refine And.intro (fun hb=>?_) (fun hb=>?_)
  ·have na:xs.getD i false≠ys.getD i false:=by simpa using hb
   have e:mJ xs ys=false:=by
    unfold mJ
    rw[Bool.and_eq_false_iff]
    right
    rw[decide_eq_false_iff_not]
    intro h
    have:=congrArg (fun l=>l[i]?) h
    simp only[List.getElem?_take,if_pos gv,List.getElem?_eq_getElem Nc,List.getElem?_eq_getElem gv,Option.some.injEq]at this
    rw[gx,gy]at na
    exact na this
   rw[e]at hK
   refine Rs ?_
   exact⟨false,rfl,hK⟩
  ·have na:xs.getD i false=ys.getD i false:=by simpa using hb
   refine Rs ?_
   refine RO.same (i+1) ⟨by omega,?_⟩ (show ys.length-(i+1)<ys.length-i by omega) (aI rfl (aI rfl (aI rfl (trivial)))) (aI rfl (aI rfl (trivial)))
   rw[List.take_succ_eq_append_getElem Nc,List.take_succ_eq_append_getElem gv,i2]
   rw[gx,gy]at na
   rw[na]
 ·have gv:i=ys.length:=by simp only[decide_eq_false_iff_not]at hi;omega
  have e:mJ xs ys=true:=by
   unfold mJ
   rw[decide_eq_true (show ys.length≤xs.length by omega)]
   rw[gv,List.take_length]at i2
   rw[i2];simp
  rw[e]at hK
  refine Rs ?_
  exact⟨true,rfl,hK⟩
theorem JK {i g n ci j g2 o2 n2 c2 co2:Nat}{o1 own2:Bool}{zs:List Bool}(hi:slot M i g=some (o1,.ax xs ci))(hj:slot M j g2=some (own2,.ax zs co2))(hn:n=xs.length)(M9:n2=ys.length)(hw:ys=(zs.drop o2).take ys.length)(ho:o2+ys.length≤co2)
 (hx:xs.length≤100000000)(hy:ys.length≤100000000)(hK:K (.bo (mJ xs ys)) M):aa Try.prog 100 [.sl i g 0 n c0,.sl j g2 o2 n2 c2] M K Kp:=by
 subst hn;subst M9
 refine aa.lift [.cP i g 0,.cP j g2 o2] (C8 (xs:=xs) (ys:=ys) (c0:=c0) (c1:=c2) (c:=ci) (d:=ys.length) (K:=fun r M=>r=.bo (mJ xs ys)∧M=[.one false 0 (.ax xs ci),.one false 0 (.ax ys ys.length)]) (Kp:=fun _ _=>False) hx hy ⟨rfl,rfl⟩) (by simp[AV.mX,AV.rn,sr,uB,uC,TE.i]) rfl
  ⟨⟨_,_,_,rfl,hi,cq.same rfl (fun h=>h)⟩,⟨_,_,_,rfl,hj,cq.ax ho hw⟩,trivial⟩ ⟨trivial,trivial,trivial⟩ ?_ (fun _ _ h=>h.elim)
 rintro r M' ⟨rfl,rfl⟩
 refine⟨⟨rfl,rfl,rfl⟩,?_⟩
 rw[←List.append_nil M]at hK
 exact hK
def gF (row:List Bool)(a b:Nat):List Bool:=(row.drop a).take (b-a)
def mu (rh:List Bool)(t:bb):Bool:=decide (aG t.2.1 t.2.2=rh)
def nC (ts:List bb)(row:List Bool)(a:Nat):Nat→Nat→Int×Nat×Int
 |0,b=>(0,b,50)
 |f+1,b=>match ts.find? (mu (gF row a b))with
  |some t=>((t.1:Int),b,0)
  |none=>if ts.any (fun t=>mJ (aG t.2.1 t.2.2) (gF row a b))=true then if b=row.length then(0,b,50)else nC ts row a f (b+1)else(0,b,60)
def l9 (ts:List bb)(row:List Bool)(a:Nat):Int×Nat×Int:=nC ts row a (row.length-a+1) a
def Vq (cv:Nat→Nat)(d cr:Nat)(ts:List bb)(row:List Bool):AH:=[.aX false ts.length (bF ts cv),.one false 0 (.cw 2 ts.length (gT 0 cv ts) d),.one false 0 (.ax row cr)]
theorem DQ {ts:List bb}{row:List Bool}{cv:Nat→Nat}{d cr:Nat}{a:Nat}(lL:ts.length≤1000000)(qs:∀t∈ts,t.2.2≤15)(hr:row.length≤10000000)(ha:a≤row.length)(pD:row.length≤c1)(hcr:c1≤cr)
 (hK:K (.aE [.int .i64 (l9 ts row a).1,.int .i64 ((l9 ts row a).2.1:Int),.int .i64 (l9 ts row a).2.2]) (Vq cv d cr ts row)):
 aa Try.prog 84 [.sl 1 0 0 ts.length c0,.sl 2 0 0 row.length c1,.int .i64 (a:Int)] (Vq cv d cr ts row) K Kp:=by
 refine Sh (fun _=>[1]) [] rfl ?_
 refine Rs ?_
 refine WO.go (σ:=Nat) (fun b=>a≤b∧b≤row.length∧nC ts row a (row.length-b+1) b=l9 ts row a) (fun b=>row.length-b)
  (fun b=>[(0,.sl 1 0 0 ts.length c0),(1,.sl 2 0 0 row.length c1),(2,.int .i64 (b:Int)),(9,.int .i64 (a:Int))]) (fun _=>Vq cv d cr ts row) a ae mixed (by kernel_rfl) ⟨Nat.le_refl _,ha,rfl⟩ (aI rfl (aI rfl (aI rfl (aI rfl (trivial))))) (aI rfl (aI rfl (aI rfl (trivial)))) (fun _=>rfl) (fun _=>rfl) (fun _=>⟨fun _=>trivial,fun _=>rfl,trivial,trivial⟩) ?_
 rintro b ⟨b1,b2,b3⟩ d0
 simp only[nC]at b3
 generalize LG:gF row a b=rh at b3
 have de:rh.length=b-a:=by rw[←LG];unfold gF;rw[List.length_take,List.length_drop];omega
 refine Rs ?_
 refine WO.go (σ:=Nat×Bool) (fun s=>s.1≤ts.length∧(ts.take s.1).find? (mu rh)=none∧s.2=(ts.take s.1).any (fun t=>mJ (aG t.2.1 t.2.2) rh)) (fun s=>ts.length-s.1)
  (fun s=>[(0,.sl 1 0 0 ts.length c0),(1,.sl 2 0 0 row.length c1),(2,.int .i64 (b:Int)),(9,.int .i64 (a:Int)),(10,ofB s.2),(11,.int .i64 (s.1:Int))]) (fun _=>Vq cv d cr ts row) (0,false) ae mixed (by kernel_rfl) ⟨Nat.zero_le _,rfl,rfl⟩ (aI rfl (aI rfl (aI rfl (aI rfl (aI rfl (aI rfl (trivial))))))) (aI rfl (aI rfl (aI rfl (trivial)))) (fun _=>rfl) (fun s=>by cases s.2<;>rfl) (fun _=>⟨fun _=>trivial,fun _=>rfl,trivial,trivial⟩) ?_
 rintro⟨i,sm⟩ ⟨i1,i2,i3⟩ d1
 simp only at i1 i2 i3
 refine Rs ?_
 refine And.intro (fun hi=>?_) (fun hi=>?_)
 ·have gv:i<ts.length:=by simp only[decide_eq_true_eq]at hi;omega
  have hm:=qs _ (show ts.getD i default∈ts by rw[List.getD_eq_getElem?_getD,List.getElem?_eq_getElem gv];exact List.getElem_mem gv)
  have yZ:ts.take (i+1)=ts.take i++[ts.getD i default]:=by
   rw[List.take_succ_eq_append_getElem gv,List.getD_eq_getElem?_getD,List.getElem?_eq_getElem gv];rfl
  generalize US:ts.getD i default=t at hm yZ
  have aaU:ts.getD (i:Int).toNat default=t:=US
  refine Rs ?_
  refine JK (i:=0) (g:=i) (j:=2) (g2:=0) (xs:=aG t.2.1 t.2.2) (ci:=cv i) (ys:=rh) (zs:=row) (co2:=cr) (o1:=false) (own2:=false) (by show(if i<ts.length then some (false,bF ts cv i)else none)=_;rw[if_pos gv];show some (false,af.ax (aG (ts.getD i default).2.1 (ts.getD i default).2.2) (cv i))=_;rw[US]) rfl (by show(ts.getD i default).2.2=_;rw[US,bP]) ?_ ?_ ?_ (by rw[bP];omega) (by omega) ?_
  ·show(b:Int).toNat-(a:Int).toNat=_
   rw[de];rfl
  ·show rh=(row.drop (bT c1 (a:Int).toNat 0 1)).take rh.length
   rw[Int.toNat_natCast,de]
   by_cases e:c1=a
   ·have:b-a=0:=by omega
    rw[this,List.take_zero]
    exact List.eq_nil_of_length_eq_zero (by omega)
   ·rw[D7 e,Nat.zero_add,←LG];rfl
  ·show bT c1 (a:Int).toNat 0 1+rh.length≤cr
   rw[Int.toNat_natCast,de]
   by_cases e:c1=a
   ·unfold bT;rw[if_pos e];omega
   ·rw[D7 e];omega
  refine Rs ?_
  refine And.intro (fun hb=>?_) (fun hb=>?_)
  ·have na:=hb
   unfold mJ at na
   simp only[Bool.and_eq_true,decide_eq_true_eq]at na
   refine Rs ?_
   refine And.intro (fun he=>?_) (fun he=>?_)
   ·have qI:((ts.getD i default).2.2:Int)=(b:Int)-(a:Int):=by simpa using he
    rw[US]at qI
    have hh:mu rh t=true:=by
     unfold mu
     rw[decide_eq_true_eq]
     have:=na.2
     rw[List.take_of_length_le (by rw[bP];omega)]at this
     exact this
    have hf:ts.find? (mu rh)=some t:=by
     rw[←List.take_append_drop (i+1) ts,List.find?_append,yZ,List.find?_append,i2,List.find?_cons_of_pos hh];rfl
    rw[hf]at b3
    simp only at b3
    rw[←b3,←US]at hK
    refine Rs ?_
    exact hK
   ·have qI:¬((ts.getD i default).2.2:Int)=(b:Int)-(a:Int):=by simpa using he
    rw[US]at qI
    have hh:mu rh t=false:=by
     unfold mu
     rw[decide_eq_false_iff_not]
     intro e
     have:=congrArg List.length e
     rw[bP]at this
     omega
    refine Rs ?_
    refine RO.same (i+1,true) ⟨by show i+1≤_;omega,?_,?_⟩ (show ts.length-(i+1)<ts.length-i by omega) (aI rfl (aI rfl (aI rfl (aI rfl (aI rfl (aI rfl (trivial))))))) (aI rfl (aI rfl (aI rfl (trivial))))
    ·show(ts.take (i+1)).find? _=none
     rw[yZ,List.find?_append,i2,List.find?_cons_of_neg (by rw[hh];simp)];rfl
    ·show true=(ts.take (i+1)).any _
     rw[yZ,List.any_append];simp[hb]
  ·have hh:mu rh t=false:=by
    unfold mu
    rw[decide_eq_false_iff_not]
    intro e
    rw[e]at hb
    unfold mJ at hb
    simp at hb
   refine Rs ?_
   refine RO.same (i+1,sm) ⟨by show i+1≤_;omega,?_,?_⟩ (show ts.length-(i+1)<ts.length-i by omega) (aI rfl (aI rfl (aI rfl (aI rfl (aI rfl (aI rfl (trivial))))))) (aI rfl (aI rfl (aI rfl (trivial))))
   ·show(ts.take (i+1)).find? _=none
    rw[yZ,List.find?_append,i2,List.find?_cons_of_neg (by rw[hh];simp)];rfl
   ·show sm=(ts.take (i+1)).any _
    rw[yZ,List.any_append,←i3];simp[hb]
 ·have gv:i=ts.length:=by simp only[decide_eq_false_iff_not]at hi;omega
  rw[gv,List.take_length]at i2 i3
  rw[i2]at b3
  simp only at b3
  rw[←i3]at b3
  cases sm with
  |false=>
   rw[if_neg (by simp)]at b3
   rw[←b3]at hK
   refine Qs ?_
   exact hK
  |true=>
   rw[if_pos rfl]at b3
   refine Qs ?_
   refine And.intro (fun hz=>?_) (fun hz=>?_)
   ·have Q0:b=row.length:=by
     have:(b:Int)=row.length:=by simpa using hz
     omega
    rw[if_pos Q0]at b3
    rw[←b3]at hK
    refine Qs ?_
    exact hK
   ·have Q0:¬b=row.length:=by
     have:¬(b:Int)=row.length:=by simpa using hz
     omega
    rw[if_neg Q0]at b3
    refine Rs ?_
    refine RO.same (b+1) ⟨by omega,by omega,?_⟩ (show row.length-(b+1)<row.length-b by omega) (aI rfl (aI rfl (aI rfl (aI rfl (trivial))))) (aI rfl (aI rfl (aI rfl (trivial))))
    rw[←b3,show row.length-b=row.length-(b+1)+1 by omega]
end
end Go.Proofs.Ytibadaomjlkoaaa
open Go.RowKit
namespace Go.Proofs.Ytibadaomjlkoaaa
def Gv (b:Bool):Nat:=if b=true then 1 else 0
def nr (l:List Bool):Nat:=l.foldl (fun v b=>2*v+Gv b) 0
theorem rX (l:List Bool)(b:Bool):nr (l++[b])=2*nr l+Gv b:=by unfold nr;rw[List.foldl_append];rfl
theorem oz:∀(n c:Nat),c<2^n→nr (aG c n)=c
 |0,c,h=>by
  have:c=0:=by simpa using h
  subst this;rfl
 |n+1,c,h=>by
  rw[qA,rX,oz n (c/2) (by rw[Nat.pow_succ]at h;omega)]
  unfold Gv
  rcases Nat.mod_two_eq_zero_or_one c with e|e<;>simp[e]<;>omega
theorem tc:∀(n:Nat)(l:List Bool),l.length=n→aG (nr l) n=l
 |0,l,h=>by
  obtain rfl:=List.eq_nil_of_length_eq_zero h
  rfl
 |n+1,l,h=>by
  rcases List.eq_nil_or_concat l with rfl|⟨l,b,rfl⟩
  ·simp at h
  ·simp only[List.concat_eq_append]at h⊢
   rw[List.length_append,List.length_singleton]at h
   rw[qA,rX]
   have h1:(2*nr l+Gv b)/2=nr l:=by unfold Gv;split<;>omega
   have h2:decide ((2*nr l+Gv b)%2=1)=b:=by
    unfold Gv
    cases b<;>simp
   rw[h1,h2,tc n l (by omega)]
theorem Gu (c N n:Nat)(h:n≤N):(aG c N).take n=aG (c/2^(N-n)) n:=by
 unfold aG
 rw[←List.map_take,List.take_range,Nat.min_eq_left h]
 apply List.map_congr_left
 intro j hj
 have qG:j<n:=by simpa using hj
 rw[Nat.div_div_eq_div_mul,←Nat.pow_add,show N-n+(n-1-j)=N-1-j by omega]
def preB (c n:Nat)(t:bb):Bool:=decide (n≤t.2.2)&&decide (t.2.1/2^(t.2.2-n)=c)
theorem Da {t:bb}{rh:List Bool}(ht:t.2.1<2^t.2.2):mJ (aG t.2.1 t.2.2) rh=preB (nr rh) rh.length t:=by
 unfold mJ preB
 rw[bP]
 by_cases h:rh.length≤t.2.2
 ·rw[decide_eq_true h,Bool.true_and,Bool.true_and,decide_eq_decide,Gu _ _ _ h]
  have bh:t.2.1/2^(t.2.2-rh.length)<2^rh.length:=by
   apply Nat.div_lt_of_lt_mul
   rw[←Nat.pow_add,show t.2.2-rh.length+rh.length=t.2.2 by omega]
   exact ht
  constructor
  ·intro e
   have:=congrArg nr e
   rw[oz _ _ bh]at this
   exact this
  ·intro e
   rw[e]
   exact tc _ rh rfl
 ·rw[decide_eq_false h];rfl
theorem P7 {t:bb}{rh:List Bool}(ht:t.2.1<2^t.2.2):mu rh t=(decide (t.2.2=rh.length)&&decide (t.2.1=nr rh)):=by
 unfold mu
 by_cases h:t.2.2=rh.length
 ·rw[decide_eq_true h,Bool.true_and,decide_eq_decide]
  constructor
  ·intro e
   have:=congrArg nr e
   rw[oz _ _ ht]at this
   exact this
  ·intro e
   rw[e,h]
   exact tc _ rh rfl
 ·rw[decide_eq_false h,Bool.false_and,decide_eq_false_iff_not]
  intro e
  have:=congrArg List.length e
  rw[bP]at this
  exact h this
def zb (ts:List bb):Prop:=ts.Pairwise fun a b=>preB a.2.1 a.2.2 b=false
def Ll (ts:List bb)(c n:Nat):Option Int:=
 match ts.find? (fun t=>decide (t.2.2=n)&&decide (t.2.1=c))with
 |some t=>some (t.1:Int)
 |none=>if ts.any (preB c n)=true then some (-1)else none
theorem wB (t:bb)(c n:Nat):∀(k:Nat)(es:List ((Int×Int)×Int)),cf ((c:Int),(n:Int)) (zj t k es)=if n<k∧c=t.2.1/2^(t.2.2-n)then some (-1)else cf ((c:Int),(n:Int)) es
 |0,es=>by rw[if_neg (by omega)];rfl
 |k+1,es=>by
  rw[zj,wB t c n k,jk]
  by_cases h1:n<k∧c=t.2.1/2^(t.2.2-n)
  ·rw[if_pos h1,if_pos ⟨by omega,h1.2⟩]
  ·rw[if_neg h1]
   by_cases h2:n=k∧c=t.2.1/2^(t.2.2-n)
   ·obtain⟨rfl,h2⟩:=h2
    rw[if_pos (show((c:Int),(n:Int))=(((t.2.1/2^(t.2.2-n):Nat):Int),(n:Int)) by rw[←h2]),if_pos ⟨by omega,h2⟩]
   ·have a1:¬((c:Int),(n:Int))=(((t.2.1/2^(t.2.2-k):Nat):Int),(k:Int)):=by
     intro h
     simp only[Prod.mk.injEq]at h
     have e1:n=k:=by omega
     subst e1
     exact h2 ⟨rfl,by have:=h.1;omega⟩
    have a2:¬(n<k+1∧c=t.2.1/2^(t.2.2-n)):=by
     intro h
     rcases Nat.lt_or_eq_of_le (Nat.le_of_lt_succ h.1)with h3|h3
     ·exact h1 ⟨h3,h.2⟩
     ·exact h2 ⟨h3,h.2⟩
    rw[if_neg a1,if_neg a2]
theorem zd (t:bb)(c n:Nat)(es:List ((Int×Int)×Int)):cf ((c:Int),(n:Int)) (Cf es t)=if n<t.2.2∧c=t.2.1/2^(t.2.2-n)then some (-1)else if c=t.2.1∧n=t.2.2 then some (t.1:Int)else cf ((c:Int),(n:Int)) es:=by
 unfold Cf
 rw[wB,jk]
 split
 ·rfl
 ·by_cases h:c=t.2.1∧n=t.2.2
  ·rw[if_pos h,if_pos (by rw[h.1,h.2])]
  ·rw[if_neg h,if_neg (fun e=>by simp only[Prod.mk.injEq]at e;exact h ⟨by omega,by omega⟩)]
theorem vA {c n:Nat}{t:bb}:preB c n t=true↔(n<t.2.2∧c=t.2.1/2^(t.2.2-n))∨(c=t.2.1∧n=t.2.2):=by
 unfold preB
 simp only[Bool.and_eq_true,decide_eq_true_eq]
 constructor
 ·rintro⟨h1,h2⟩
  rcases Nat.lt_or_eq_of_le h1 with h|h
  ·exact .inl ⟨h,h2.symm⟩
  ·subst h;simp at h2;exact .inr ⟨h2.symm,rfl⟩
 ·rintro(⟨h1,h2⟩|⟨rfl,rfl⟩)
  ·exact⟨by omega,h2.symm⟩
  ·simp
theorem CM:∀(n0:Nat)(ts:List bb),ts.length=n0→zb ts→∀c n:Nat,cf ((c:Int),(n:Int)) (bx ts [])=Ll ts c n
 |0,ts,h,_,c,n=>by
  obtain rfl:=List.eq_nil_of_length_eq_zero h
  rfl
 |n0+1,ts,h,hf,c,n=>by
  rcases List.eq_nil_or_concat ts with rfl|⟨ts,t,rfl⟩
  ·simp at h
  ·simp only[List.concat_eq_append]at h hf⊢
   rw[List.length_append,List.length_singleton]at h
   have AJ:zb ts∧∀a∈ts,preB a.2.1 a.2.2 t=false:=by
    unfold zb at hf⊢
    rw[List.pairwise_append]at hf
    exact⟨hf.1,fun a ha=>hf.2.2 a ha t (by simp)⟩
   have ih:=CM n0 ts (by omega) AJ.1 c n
   rw[oZ,zd,ih]
   unfold Ll
   rw[List.find?_append,List.any_append]
   have tL:preB c n t=true→ts.find? (fun t=>decide (t.2.2=n)&&decide (t.2.1=c))=none:=by
    intro hp
    rw[List.find?_eq_none]
    intro a ha
    simp only[Bool.and_eq_true,decide_eq_true_eq]
    rintro⟨e1,e2⟩
    have:=AJ.2 a ha
    rw[e1,e2,hp]at this
    cases this
   by_cases h1:n<t.2.2∧c=t.2.1/2^(t.2.2-n)
   ·have hp:preB c n t=true:=vA.2 (.inl h1)
    rw[if_pos h1,tL hp]
    have Wz:(decide (t.2.2=n)&&decide (t.2.1=c))=false:=by rw[decide_eq_false (by omega)];rfl
    simp only[List.find?_cons,Wz,List.find?_nil,Option.none_or,List.any_cons,hp,List.any_nil,Bool.or_false,Bool.or_true,if_true]
   ·rw[if_neg h1]
    by_cases h2:c=t.2.1∧n=t.2.2
    ·have hp:preB c n t=true:=vA.2 (.inr h2)
     rw[if_pos h2,tL hp]
     have Wz:(decide (t.2.2=n)&&decide (t.2.1=c))=true:=by rw[h2.1,h2.2];simp
     simp only[List.find?_cons,Wz,Option.none_or]
    ·rw[if_neg h2]
     have hp:preB c n t=false:=by
      cases hp:preB c n t with
      |false=>rfl
      |true=>rcases vA.1 hp with h|h
             ·exact absurd h h1
             ·exact absurd h h2
     have Wz:(decide (t.2.2=n)&&decide (t.2.1=c))=false:=by
      rw[Bool.and_eq_false_iff]
      by_cases e:t.2.2=n
      ·right;rw[decide_eq_false_iff_not];intro e2;exact h2 ⟨e2.symm,e.symm⟩
      ·left;exact decide_eq_false e
     simp only[List.find?_cons,Wz,List.find?_nil,Option.or_none,List.any_cons,hp,List.any_nil,Bool.or_false]
def dq (ts:List bb):Nat:=(ts.map fun t=>2^(15-t.2.2)).sum
theorem vh (ts:List bb)(t:bb):dq (ts++[t])=dq ts+2^(15-t.2.2):=by simp[dq]
def xC:List bb→Prop:=fun ts=>∀a b t,ts=a++t::b→t.2.1*2^(15-t.2.2)=dq a∧t.2.2≤15
theorem IE {ts:List bb}{t:bb}(h:xC ts)(h1:t.2.1*2^(15-t.2.2)=dq ts)(h2:t.2.2≤15):xC (ts++[t]):=by
 intro a b x e
 rcases List.eq_nil_or_concat b with rfl|⟨b,y,rfl⟩
 ·have:=List.append_inj' e rfl
  obtain⟨rfl,e2⟩:=this
  obtain rfl:t=x:=by simpa using e2
  exact⟨h1,h2⟩
 ·simp only[List.concat_eq_append]at e
  rw[←List.cons_append,←List.append_assoc]at e
  have:=List.append_inj' e rfl
  exact h a b x this.1
theorem BZ {ls:List Int}{n:Nat}{x:Nat×List bb}(hn:n≤15)(h:xC x.2)(h2:x.1*2^(15-n)=dq x.2):∀i,xC (cJ ls n i x).2∧(cJ ls n i x).1*2^(15-n)=dq (cJ ls n i x).2
 |0=>⟨h,h2⟩
 |i+1=>by
  obtain⟨i1,i2⟩:=BZ (ls:=ls) hn h h2 i
  rw[aZ];unfold dD
  split
  ·refine⟨IE i1 i2 hn,?_⟩
   show((cJ ls n i x).1+1)*2^(15-n)=_
   rw[vh,Nat.add_mul,i2,Nat.one_mul]
  ·exact⟨i1,i2⟩
theorem x7 {ls:List Int}:∀n,n≤15→xC (aK ls n).2∧(aK ls n).1*2^(15-n)=dq (aK ls n).2
 |0,_=>⟨fun a b t e=>by simp[aK]at e,by simp[aK,dq]⟩
 |n+1,hn=>by
  obtain⟨h1,h2⟩:=x7 (ls:=ls) n (by omega)
  refine BZ (x:=(2*(aK ls n).1,(aK ls n).2)) hn h1 ?_ ls.length
  show 2*(aK ls n).1*2^(15-(n+1))=_
  rw[←h2,show 15-n=(15-(n+1))+1 by omega,Nat.pow_succ,Nat.mul_comm 2,Nat.mul_assoc,Nat.mul_comm 2]
def xv (ls:List Int)(n:Nat):Nat→Nat
 |0=>0
 |i+1=>xv ls n i+if 0<ls.getD i 0∧ls.getD i 0≤(n:Int)then 2^(15-(ls.getD i 0).toNat)else 0
theorem yd (ls:List Int):∀i,xv ls 0 i=0
 |0=>rfl
 |i+1=>by rw[xv,yd ls i,if_neg (by omega)]
theorem yn (ls:List Int)(n:Nat)(x:Nat×List bb):∀i,dq (cJ ls (n+1) i x).2+xv ls n i=dq x.2+xv ls (n+1) i
 |0=>rfl
 |i+1=>by
  have ih:=yn ls n x i
  rw[aZ,xv,xv]
  unfold dD
  by_cases h:ls.getD i 0=((n+1:Nat):Int)
  ·rw[if_pos h]
   show dq ((cJ ls (n+1) i x).2++[_])+_=_
   rw[vh,if_neg (by omega),if_pos (by omega),h,Int.toNat_natCast]
   show dq _+2^(15-(n+1))+_=_
   omega
  ·rw[if_neg h]
   by_cases h2:0<ls.getD i 0∧ls.getD i 0≤(n:Int)
   ·rw[if_pos h2,if_pos (by omega)];omega
   ·rw[if_neg h2,if_neg (by omega)];omega
theorem uX (ls:List Int):∀n,dq (aK ls n).2=xv ls n ls.length
 |0=>by rw[yd];rfl
 |n+1=>by
  have:=yn ls n (2*(aK ls n).1,(aK ls n).2) ls.length
  have ih:=uX ls n
  show dq (cJ ls (n+1) ls.length (2*(aK ls n).1,(aK ls n).2)).2=_
  have e:dq (2*(aK ls n).1,(aK ls n).2).2=dq (aK ls n).2:=rfl
  omega
theorem BE {ls:List Int}(h:∀i,i<ls.length→ls.getD i 0≤15):∀i,i≤ls.length→xv ls 15 i=aY ls i
 |0,_=>rfl
 |i+1,hi=>by
  rw[xv,aY,BE h i (by omega)]
  have:=h i (by omega)
  by_cases h2:0<ls.getD i 0
  ·rw[if_pos ⟨h2,by omega⟩,if_pos h2]
  ·rw[if_neg (by omega),if_neg h2]
theorem pt (ls:List Int):dq (aj ls)≤32768:=by
 unfold aj
 split
 ·rename_i h
  have hb:eh ls=false:=by
   cases hb:eh ls with
   |false=>rfl
   |true=>rw[eZ hb]at h;cases h
  have hf:a9 ls=true:=by
   cases hf:a9 ls with
   |true=>rfl
   |false=>rw[jS hb hf]at h;cases h
  have qs:∀i,i<ls.length→ls.getD i 0≤15:=by
   intro i hi
   unfold eh at hb
   simp only[Bool.or_eq_false_iff]at hb
   have:=List.any_eq_false.1 hb.2 _ (jQ (d:=0) hi)
   simp only[ng,decide_eq_true_eq]at this
   omega
  rw[uX,BE qs _ (Nat.le_refl _)]
  unfold a9 at hf
  simp only[Bool.or_eq_true,Bool.and_eq_true,decide_eq_true_eq]at hf
  have hz:∀i,bn ls i=0→aY ls i=0:=by
   intro i
   induction i with
   |zero=>intro _;rfl
   |succ i ih=>
    intro hc
    simp only[bn]at hc
    simp only[aY]
    split at hc
    ·omega
    ·rename_i h0;rw[if_neg h0,ih (by omega)]
  rcases hf with(hf|hf)|hf
  ·omega
  ·rw[hz _ hf];omega
  ·omega
 ·exact Nat.zero_le _
theorem lG (ls:List Int):xC (aj ls):=by
 unfold aj;split
 ·exact(x7 15 (Nat.le_refl _)).1
 ·intro a b t e;simp at e
theorem sd (a b:List bb):dq (a++b)=dq a+dq b:=by simp[dq]
theorem p8 (t:bb)(b:List bb):dq (t::b)=2^(15-t.2.2)+dq b:=by simp[dq]
theorem z9 {ts:List bb}(h:xC ts)(hs:dq ts≤32768){t:bb}(ht:t∈ts):t.2.1<2^t.2.2∧t.2.2≤15:=by
 obtain⟨a,b,rfl⟩:=List.append_of_mem ht
 obtain⟨h1,h2⟩:=h a b t rfl
 refine⟨?_,h2⟩
 rw[sd,p8,←h1]at hs
 have e:(32768:Nat)=2^t.2.2*2^(15-t.2.2):=by rw[←Nat.pow_add,show t.2.2+(15-t.2.2)=15 by omega]
 have h3:(t.2.1+1)*2^(15-t.2.2)≤2^t.2.2*2^(15-t.2.2):=by rw[←e,Nat.add_mul,Nat.one_mul];omega
 have:=Nat.le_of_mul_le_mul_right h3 (Nat.pow_pos (by omega))
 omega
theorem BX {ts:List bb}(h:xC ts):zb ts:=by
 unfold zb
 rw[List.pairwise_iff_getElem]
 intro i j hi hj tN
 have e1:ts=ts.take i++ts[i]::ts.drop (i+1):=by rw[←List.drop_eq_getElem_cons hi,List.take_append_drop]
 have e2:ts=ts.take j++ts[j]::ts.drop (j+1):=by rw[←List.drop_eq_getElem_cons hj,List.take_append_drop]
 obtain⟨a1,a2⟩:=h _ _ _ e1
 obtain⟨b1,b2⟩:=h _ _ _ e2
 generalize ts[i]=x at*
 generalize ts[j]=y at*
 have hle:dq (ts.take i)+2^(15-x.2.2)≤dq (ts.take j):=by
  have e3:ts.take j=ts.take i++x::(ts.take j).drop (i+1):=by
   have:(ts.take j)[i]?=some x:=by
    rw[List.getElem?_take,if_pos tN]
    conv=>lhs;rw[e1]
    rw[List.getElem?_append_right (by simp;omega)]
    simp[Nat.min_eq_left (Nat.le_of_lt hi)]
   obtain⟨HA,e4⟩:=List.getElem?_eq_some_iff.1 this
   have e5:=List.take_append_drop i (ts.take j)
   rw[List.drop_eq_getElem_cons HA,e4,List.take_take,Nat.min_eq_left (Nat.le_of_lt tN)]at e5
   exact e5.symm
  rw[e3,sd,p8];omega
 cases hp:preB x.2.1 x.2.2 y with
 |false=>rfl
 |true=>
  exfalso
  unfold preB at hp
  simp only[Bool.and_eq_true,decide_eq_true_eq]at hp
  obtain⟨p1,p2⟩:=hp
  have hy:y.2.1<(x.2.1+1)*2^(y.2.2-x.2.2):=by
   rw[←p2]
   have:=Nat.lt_div_mul_add (a:=y.2.1) (b:=2^(y.2.2-x.2.2)) (Nat.pow_pos (by omega))
   rw[Nat.add_mul,Nat.one_mul];exact this
  have hm:y.2.1*2^(15-y.2.2)<(x.2.1+1)*2^(y.2.2-x.2.2)*2^(15-y.2.2):=Nat.mul_lt_mul_of_pos_right hy (Nat.pow_pos (by omega))
  rw[Nat.mul_assoc,←Nat.pow_add,show y.2.2-x.2.2+(15-y.2.2)=15-x.2.2 by omega,Nat.add_mul,Nat.one_mul,b1,a1]at hm
  omega
theorem KA {row:List Bool}{a b:Nat}(hb:b≤row.length):(gF row a b).length=b-a:=by
 unfold gF;rw[List.length_take,List.length_drop];omega
theorem Iw {row:List Bool}{a b:Nat}(ha:a≤b)(hb:b<row.length):gF row a (b+1)=gF row a b++[row.getD b false]:=by
 unfold gF
 rw[show b+1-a=(b-a)+1 by omega,List.take_succ_eq_append_getElem (by rw[List.length_drop];omega),List.getElem_drop,List.getD_eq_getElem?_getD,List.getElem?_eq_getElem hb]
 congr 2
 simp only[Option.getD_some]
 congr 1;omega
theorem GA {α:Type}{l:List α}{p q:α→Bool}(h:∀x∈l,p x=q x):l.any p=l.any q:=by
 induction l with
 |nil=>rfl
 |cons x l ih=>rw[List.any_cons,List.any_cons,h x List.mem_cons_self,ih fun y hy=>h y (List.mem_cons_of_mem _ hy)]
theorem CN {α:Type}{l:List α}{p q:α→Bool}(h:∀x∈l,p x=q x):l.find? p=l.find? q:=by
 induction l with
 |nil=>rfl
 |cons x l ih=>rw[List.find?_cons,List.find?_cons,h x List.mem_cons_self,ih fun y hy=>h y (List.mem_cons_of_mem _ hy)]
theorem yv {ts:List bb}(bh:∀t∈ts,t.2.1<2^t.2.2)(ky:zb ts){row:List Bool}{a:Nat}:∀(f b:Nat),a≤b→b≤row.length→
 nD (bx ts []) row f (nr (gF row a b)) (b-a) b=nC ts row a f b
 |0,b,_,_=>rfl
 |f+1,b,Md,hb=>by
  have de:=KA (a:=a) hb
  have h1:ts.find? (mu (gF row a b))=ts.find? (fun t=>decide (t.2.2=b-a)&&decide (t.2.1=nr (gF row a b))):=
   CN fun t ht=>by rw[P7 (bh t ht),de]
  have h2:ts.any (fun t=>mJ (aG t.2.1 t.2.2) (gF row a b))=ts.any (preB (nr (gF row a b)) (b-a)):=
   GA fun t ht=>by rw[Da (bh t ht),de]
  simp only[nD,nC]
  rw[CM _ ts rfl ky,h1,h2]
  unfold Ll
  cases hf:ts.find? (fun t=>decide (t.2.2=b-a)&&decide (t.2.1=nr (gF row a b)))with
  |some t=>
   simp only
   rw[if_pos (Int.natCast_nonneg _)]
  |none=>
   simp only
   cases ha:ts.any (preB (nr (gF row a b)) (b-a))with
   |false=>rfl
   |true=>
    simp only[if_true]
    rw[if_neg (by omega)]
    by_cases e:b=row.length
    ·rw[if_pos (by omega),if_pos e]
    ·rw[if_neg (by omega),if_neg e]
     have ih:=yv bh ky (row:=row) (a:=a) f (b+1) (by omega) (by omega)
     rw[Iw Md (by omega),rX,show b+1-a=b-a+1 by omega]at ih
     exact ih
theorem uV {ls:List Int}{row:List Bool}{a:Nat}(ha:a≤row.length):fe (bx (aj ls) []) row a=l9 (aj ls) row a:=by
 unfold fe l9
 have:=yv (fun t ht=>(z9 (lG ls) (pt ls) ht).1) (BX (lG ls)) (row:=row) (a:=a) (row.length-a+1) a (Nat.le_refl _) ha
 have e:gF row a a=[]:=by unfold gF;rw[Nat.sub_self,List.take_zero]
 rw[e,Nat.sub_self]at this
 exact this
def gq (es:List ((Int×Int)×Int)):Prop:=∀k z,cf k es=some z→k.2≤15
theorem yV {es:List ((Int×Int)×Int)}(h:gq es){k:Int×Int}(hk:k.2≤15)(z:Int):gq (mV k z es):=by
 intro k' z' e
 rw[jk]at e
 split at e
 ·rename_i e2;rw[e2];exact hk
 ·exact h k' z' e
theorem wa (t:bb):∀(k:Nat){es:List ((Int×Int)×Int)},k≤16→gq es→gq (zj t k es)
 |0,_,_,h=>h
 |k+1,_,hk,h=>wa t k (by omega) (yV h (by show((k:Nat):Int)≤15;omega) _)
theorem I6 {ts:List bb}(h:∀t∈ts,t.2.2≤15):∀es,gq es→gq (bx ts es):=by
 induction ts with
 |nil=>intro es h;exact h
 |cons t ts ih=>
  intro es he
  exact ih (fun x hx=>h x (List.mem_cons_of_mem _ hx)) _ (wa t _ (by have:=h t List.mem_cons_self;omega) (yV he (by have:=h t List.mem_cons_self;show((t.2.2:Nat):Int)≤15;omega) _))
theorem gP (ls:List Int):gq (bx (aj ls) []):=I6 (fun t ht=>(z9 (lG ls) (pt ls) ht).2) [] (fun k z e=>by cases e)
end Go.Proofs.Ytibadaomjlkoaaa
open Go.RowKit
namespace Go.Proofs.Ytibadaomjlkoaaa
def ug (a b:It):Prop:=a.w<b.w∨(a.w=b.w∧a.k≤b.k)
theorem v5 (a:It):ug a a:=.inr ⟨rfl,Int.le_refl _⟩
theorem yU {a b c:It}(h1:ug a b)(h2:ug b c):ug a c:=by unfold ug at*;omega
theorem tJ {a b:It}(h:iW a b=true):ug a b:=by
 simp only[iW,Bool.or_eq_true,Bool.and_eq_true,decide_eq_true_eq]at h;unfold ug;omega
theorem v7 {a b:It}(h:¬iW b a=true):ug a b:=by
 simp only[iW,Bool.or_eq_true,Bool.and_eq_true,decide_eq_true_eq]at h;unfold ug;omega
theorem dK {L:List It}{i j:Nat}(hi:i<L.length)(hj:j<L.length)(r:Nat):(dp L i j).getD r default=if r=j then L.getD i default else if r=i then L.getD j default else L.getD r default:=by
 unfold dp
 simp only[List.getD_eq_getElem?_getD,List.getElem?_set,List.length_set]
 by_cases h1:r=j
 ·subst h1;simp[hj]
 ·rw[if_neg (fun h=>h1 h.symm),if_neg h1]
  by_cases h2:r=i
  ·subst h2;simp[hi]
  ·rw[if_neg (fun h=>h2 h.symm),if_neg h2]
def za (n:Nat)(L:List It)(s:Nat):Prop:=∀j c,s≤j→(c=2*j+1∨c=2*j+2)→c<n→ug (L.getD j default) (L.getD c default)
def Wv (n:Nat)(L:List It)(s i:Nat):Prop:=(∀j c,s≤j→j≠i→(c=2*j+1∨c=2*j+2)→c<n→ug (L.getD j default) (L.getD c default))∧
 ∀p c,s≤p→(i=2*p+1∨i=2*p+2)→(c=2*i+1∨c=2*i+2)→c<n→ug (L.getD p default) (L.getD c default)
theorem qx:∀(f n:Nat)(L:List It)(i s:Nat),n-i≤f→s≤i→n≤L.length→Wv n L s i→za n (gh f n L i) s
 |0,n,L,i,s,hf,hs,hn,h=>by
  intro j c hj hc Du
  exact h.1 j c hj (by omega) hc Du
 |f+1,n,L,i,s,hf,hs,hn,h=>by
  simp only[gh]
  by_cases h1:2*i+1<n
  ·rw[if_pos h1]
   have hk:=o6 (L:=L) h1
   have aaq:j7 n L i=2*i+1∨j7 n L i=2*i+2:=by unfold j7;split<;>omega
   have P2:∀c,(c=2*i+1∨c=2*i+2)→c<n→ug (L.getD (j7 n L i) default) (L.getD c default):=by
    intro c hc Du
    unfold j7
    by_cases h3:2*i+2<n∧iW (L.getD (2*i+2) default) (L.getD (2*i+1) default)=true
    ·rw[if_pos h3]
     rcases hc with rfl|rfl
     ·exact tJ h3.2
     ·exact v5 _
    ·rw[if_neg h3]
     rcases hc with rfl|rfl
     ·exact v5 _
     ·exact v7 (fun h4=>h3 ⟨Du,h4⟩)
   generalize j7 n L i=k at*
   by_cases h2:iW (L.getD k default) (L.getD i default)=true
   ·rw[if_pos h2]
    have gv:i<L.length:=by omega
    have JW:k<L.length:=by omega
    refine qx f n _ k s (by omega) (by omega) (by rw[bH];exact hn) ⟨?_,?_⟩
    ·intro j c hj LU hc Du
     rw[dK gv JW,dK gv JW]
     by_cases e1:j=i
     ·rw[if_neg LU,if_pos e1]
      by_cases e2:c=k
      ·rw[if_pos e2];exact tJ h2
      ·rw[if_neg e2,if_neg (by omega)];exact P2 c (by omega) Du
     ·rw[if_neg LU,if_neg e1,if_neg (show¬c=k by omega)]
      by_cases e3:c=i
      ·rw[if_pos e3];exact h.2 j k hj (by omega) aaq hk.2
      ·rw[if_neg e3];exact h.1 j c hj e1 hc Du
    ·intro p c hp hpk hc Du
     have e:p=i:=by omega
     rw[dK gv JW,dK gv JW,if_neg (show¬p=k by omega),if_pos e,if_neg (show¬c=k by omega),if_neg (show¬c=i by omega)]
     exact h.1 k c (by omega) (by omega) hc Du
   ·rw[if_neg h2]
    intro j c hj hc Du
    by_cases e:j=i
    ·rw[e];exact yU (v7 h2) (P2 c (by omega) Du)
    ·exact h.1 j c hj e hc Du
  ·rw[if_neg h1]
   intro j c hj hc Du
   exact h.1 j c hj (by omega) hc Du
theorem CU:∀(f n:Nat)(L:List It)(i j:Nat),n≤L.length→n≤j→(gh f n L i).getD j default=L.getD j default
 |0,_,_,_,_,_,_=>rfl
 |f+1,n,L,i,j,hn,hj=>by
  simp only[gh]
  split
  ·rename_i h1
   have hk:=o6 (L:=L) h1
   split
   ·rw[CU f n _ _ j (by rw[bH];exact hn) hj,dK (by omega) (by omega),if_neg (by omega),if_neg (by omega)]
   ·rfl
  ·rfl
theorem u2 {L:List It}{i j:Nat}(hi:i<L.length)(hj:j<L.length):(dp L i j).Perm L:=by
 have gi:L.getD i default=L[i]:=by simp[List.getD_eq_getElem?_getD,hi]
 have gj:L.getD j default=L[j]:=by simp[List.getD_eq_getElem?_getD,hj]
 rw[List.perm_iff_count]
 intro x
 unfold dp
 rw[gi,gj,List.count_set (by rw[List.length_set];exact hj),List.count_set hi,List.getElem_set]
 have c1:L.count x≥if(L[i]==x)=true then 1 else 0:=by
  split
  ·rename_i h
   exact List.one_le_count_iff.2 (by have:=List.getElem_mem hi;rw[eq_of_beq h]at this;exact this)
  ·omega
 have c2:L.count x≥if(L[j]==x)=true then 1 else 0:=by
  split
  ·rename_i h
   exact List.one_le_count_iff.2 (by have:=List.getElem_mem hj;rw[eq_of_beq h]at this;exact this)
  ·omega
 by_cases e:i=j
 ·subst e;simp only[if_true];omega
 ·rw[if_neg e];omega
theorem u1 {L:List It}{i j n:Nat}(hi:i<n)(hj:j<n):(dp L i j).take n=dp (L.take n) i j:=by
 unfold dp
 rw[List.take_set,List.take_set]
 simp only[List.getD_eq_getElem?_getD,List.getElem?_take,if_pos hi,if_pos hj]
theorem qw:∀(f n:Nat)(L:List It)(i:Nat),n≤L.length→((gh f n L i).take n).Perm (L.take n)
 |0,_,_,_,_=>List.Perm.refl _
 |f+1,n,L,i,hn=>by
  simp only[gh]
  split
  ·rename_i h1
   have hk:=o6 (L:=L) h1
   split
   ·refine(qw f n _ _ (by rw[bH];exact hn)).trans ?_
    rw[u1 (by omega) hk.2]
    exact u2 (by rw[List.length_take];omega) (by rw[List.length_take];omega)
   ·exact List.Perm.refl _
  ·exact List.Perm.refl _
theorem wg (n:Nat):∀(i:Nat)(L:List It),n≤L.length→za n L i→za n (iX n i L) 0
 |0,_,_,h=>h
 |i+1,L,hn,h=>by
  rw[iX]
  refine wg n i _ (by rw[jl];exact hn) ?_
  refine qx _ n L i i (Nat.le_refl _) (Nat.le_refl _) hn ⟨?_,?_⟩
  ·intro j c hj gQ hc Du
   exact h j c (by omega) hc Du
  ·intro p c hp Zl
   omega
theorem we (n:Nat):∀(i:Nat)(L:List It),n≤L.length→((iX n i L).take n).Perm (L.take n)
 |0,_,_=>List.Perm.refl _
 |i+1,L,hn=>by
  rw[iX]
  exact(we n i _ (by rw[jl];exact hn)).trans (qw _ n L i hn)
theorem L5 {n:Nat}{L:List It}(h:za n L 0):∀(c:Nat),c<n→ug (L.getD 0 default) (L.getD c default):=by
 intro c
 induction c using Nat.strongRecOn with
 |_ c ih=>
  intro hc
  rcases Nat.eq_zero_or_pos c with rfl|hp
  ·exact v5 _
  ·exact yU (ih ((c-1)/2) (by omega) (by omega)) (h ((c-1)/2) c (Nat.zero_le _) (by omega) hc)
theorem Ia {L:List It}{h:Nat}(hh:h<L.length):L.take (h+1)=L.take h++[L.getD h default]:=by
 rw[List.take_succ_eq_append_getElem hh];simp[List.getD_eq_getElem?_getD,hh]
theorem vB:∀(h:Nat)(L:List It),h≤L.length→za h L 0→(eF h L).Perm (L.take h)∧(eF h L).Pairwise ug
 |0,_,_,_=>⟨by simp[eF],List.Pairwise.nil⟩
 |h+1,L,hl,hp=>by
  have h0:0<L.length:=by omega
  have hh:h<L.length:=by omega
  have hx:(fg (h+1) L).getD h default=L.getD 0 default:=by
   unfold fg lx
   rw[CU (h+1-1-0) (h+1-1) (dp L 0 (h+1-1)) 0 h (by rw[bH];omega) (by omega),Nat.add_sub_cancel,dK h0 hh,if_pos rfl]
  have hq:za h (fg (h+1) L) 0:=by
   unfold fg lx
   refine qx _ h _ 0 0 (Nat.le_refl _) (Nat.le_refl _) (by rw[bH];omega) ⟨?_,?_⟩
   ·intro j c hj hj0 hc hch
    rw[Nat.add_sub_cancel,dK h0 hh,dK h0 hh,if_neg (by omega),if_neg hj0,if_neg (by omega),if_neg (by omega)]
    exact hp j c hj hc (by omega)
   ·intro p c y5 Zl
    omega
  obtain⟨i1,i2⟩:=vB h (fg (h+1) L) (by rw[eG];omega) hq
  have Q9:(eF (h+1) L).Perm (L.take (h+1)):=by
   show((fg (h+1) L).getD h default::eF h (fg (h+1) L)).Perm _
   rw[hx]
   refine(List.Perm.cons _ (i1.trans (qw _ h _ 0 (by rw[bH];show h≤_;omega)))).trans ?_
   rw[Nat.add_sub_cancel]
   have e:(dp L 0 h).take (h+1)=(dp L 0 h).take h++[L.getD 0 default]:=by
    rw[Ia (by rw[bH];exact hh),dK h0 hh,if_pos rfl]
   refine(List.perm_append_singleton (L.getD 0 default) ((dp L 0 h).take h)).symm.trans ?_
   rw[←e,u1 (by omega) (by omega)]
   exact u2 (by rw[List.length_take];omega) (by rw[List.length_take];omega)
  refine⟨Q9,?_⟩
  show((fg (h+1) L).getD h default::eF h (fg (h+1) L)).Pairwise ug
  refine List.Pairwise.cons (fun y hy=>?_) i2
  have hy':y∈L.take (h+1):=Q9.subset (List.mem_cons_of_mem _ hy)
  obtain⟨c,hc,rfl⟩:=List.getElem_of_mem hy'
  rw[List.length_take]at hc
  rw[hx,List.getElem_take]
  have:=L5 hp c (by omega)
  rwa[show L.getD c default=L[c] by simp[List.getD_eq_getElem?_getD,show c<L.length by omega]]at this
def GW (L:List It):List It:=eF L.length (dV L)
theorem Io (L:List It):(GW L).length=L.length:=oM _ _
theorem vd (L:List It):(GW L).Perm (fz L.length L)∧(GW L).Pairwise ug:=by
 have hl:=eJ L.length L
 obtain⟨h1,h2⟩:=vB L.length (dV L) (by rw[lS];exact Nat.le_refl _) (by
  unfold dV
  refine wg _ _ _ (by rw[hl];exact Nat.le_refl _) ?_
  intro j c hj hc Du
  omega)
 refine⟨h1.trans ?_,h2⟩
 have:=we L.length (L.length/2) (fz L.length L) (by rw[hl];exact Nat.le_refl _)
 unfold dV
 rwa[List.take_of_length_le (l:=fz L.length L) (by rw[hl];exact Nat.le_refl _)]at this
end Go.Proofs.Ytibadaomjlkoaaa
