import Derived.Test.YtibadaomjlkoaaaGdl
set_option linter.unusedVariables false
set_option linter.unusedSimpArgs false
open Go.RowKit
namespace Go.Proofs.Ytibadaomjlkoaaa
set_option maxRecDepth 10000
def bN (ls:List Int)(row:List Bool)(dn:List (Nat×Nat×Nat)):List Bool:=dn.foldl (fun r x=>r++Gw ls x) row
theorem tH (ls:List Int):∀(dn:List (Nat×Nat×Nat))(row:List Bool),bN ls row dn=row++eQ ls dn
 |[],row=>(List.append_nil row).symm
 |x::dn,row=>by
  show bN ls (row++Gw ls x) dn=_
  rw[tH ls dn,List.append_assoc];rfl
theorem B7 (ls:List Int)(row:List Bool)(dn:List (Nat×Nat×Nat))(x:Nat×Nat×Nat):bN ls row (dn++[x])=bN ls row dn++Gw ls x:=by
 unfold bN;rw[List.foldl_append];rfl
noncomputable abbrev kF (l:Nat):Cx:={Hw (fun _=>[0,3,10,11,13]) []with r:=some l}
theorem v5 {L ls:List Int}{row:List Bool}{dn:List (Nat×Nat×Nat)}{i n S E K N:Nat}(ok:nn L ls)(hX:az L i n=((S,E,K),N))(dI:cQ L (L.length-i) i=(az L i n).1::cQ L (L.length-(i+(az L i n).2)) (i+(az L i n).2))(i3:dn++cQ L (L.length-i) i=bl L)(i2:dn.length≤i)(hi:i<L.length)(n1:1≤n)(hl:L.length≤316)(hr:row.length≤74):
 jw ls ((S:Nat):Int)∧E<2^K∧K≤24∧(bN ls row dn).length+15+K≤8388608∧bN ls row dn++(aQ ls ((S:Nat):Int)++bitsOf ((E:Nat):Int) K)=bN ls row (dn++[(S,E,K)])∧(dn++[(S,E,K)])++cQ L (L.length-(i+N)) (i+N)=bl L∧1≤N∧N≤n:=by
 have AS:=p7 L i n n1
 rw[hX]at dI AS
 obtain⟨hC,Wo,XZ⟩:=ok.rows (S,E,K) (by rw[←i3,dI];exact List.mem_append_right _ List.mem_cons_self)
 have hrB:=p6 ok dn (fun x hx=>by rw[←i3];exact List.mem_append_left _ hx)
 have hK3:K≤7:=XZ
 refine⟨hC,Wo,by omega,by rw[tH,List.length_append];omega,(B7 ls row dn (S,E,K)).symm,by rw[←i3,dI,List.append_assoc];rfl,AS⟩
section
variable{ts:List Tk}{gt ct:Nat}{A D L ls:List Int}
def Yo (L:List Int)(N g7 c7:Nat)(s:Nat×Nat×Nat×Nat):List (Nat×AV):=[(1,.ptr 3 0 0),(2,.sl 7 g7 0 L.length c7),(5,.ptr 11 0 0),(7,.ptr 13 0 0),(9,.sl 14 0 0 N 19)]
def dT (L ls:List Int)(g7 c7 iB iI iA iH:Nat):AH:=
 [AO.gone,AO.one true g7 (.ints .u8 L c7),AO.gone,AO.gone,AO.one true iB (.ints .u8 ls iI),AO.one true 0 (.cells [.sl 10 iB 0 ls.length iI]),AO.one true iA (.ints .u16 (ay ls).1 iH),AO.one true 0 (.cells [.sl 12 iA 0 (ay ls).1.length iH])]
def Ws (ts:List Tk)(gt ct g0 c0:Nat)(A D L ls:List Int)(ga ca gd cd g7 c7:Nat)(s:Nat×Nat×Nat×Nat):AH:=
 vB ts gt ct A ga ca D gd cd [] g0 c0++(dT L ls g7 c7 s.1 s.2.1 s.2.2.1 s.2.2.2++[AO.one true 0 (.ints .i64 aR 19)])
noncomputable abbrev VK:Cx:=Hw (fun _=>[0,3,10,11,14]) []
set_option maxHeartbeats 4000000 in
theorem Yl {Q:jm→AA→AH→Prop}{Kp:AV→AH→Prop}{g0 c0 ga ca gd cd g7 c7:Nat}{N:Nat}(Wm:iT ls 15 19=N)(hle:bm (uN (bl L)) 7=(ls,0))(ok:nn L ls)(d0:Nat→Value):
 sq VK (m9 (Yo L N g7 c7) (Ws ts gt ct g0 c0 A D L ls ga ca gd cd g7 c7)) Q Kp 4 (kh 5 px) (lS (Yp L (ga,ca,gd,cd,g7,c7)) d0) (Ys ts gt ct g0 c0 A D L (ga,ca,gd,cd,g7,c7)):=by
 have zu:=yU (bl L)
 have JD:=ok.len
 obtain⟨hcF,FA⟩:=iF ok.each
 refine Qs ?_
 refine o8 (i:=8) (fr:=uN (bl L)) rfl zu.symm (by rw[zu];decide) fun iB iI XQ=>?_
 rw[hle]at XQ⊢
 refine Qs ?_
 refine u4 (i:=10) (ls:=ls) rfl rfl (by rw[JD];decide) (fun x hx=>by have:=ok.OX x hx;omega) fun iA iH aae=>?_
 rw[hcF]
 refine Qs ?_
 refine WO.go (σ:=Nat) (fun n=>4≤n∧n≤19∧iT ls (n-4) n=iT ls 15 19) (fun n=>n)
  (fun n=>[(1,.ptr 3 0 0),(2,.sl 7 g7 0 L.length c7),(5,.ptr 11 0 0),(7,.ptr 13 0 0),(9,.sl 14 0 0 n 19)])
  (fun _=>Ws ts gt ct g0 c0 A D L ls ga ca gd cd g7 c7 (iB,iI,iA,iH))
  19 ae mixed (by kernel_rfl) ⟨by decide,by decide,rfl⟩ (aI rfl (aI rfl (aI rfl (aI rfl (aI rfl (trivial)))))) (aI rfl (aI rfl (aI rfl (aI rfl (aI rfl (aI rfl (aI trivial (aI rfl (aI trivial (aI trivial (aI rfl (aI rfl (aI rfl (aI rfl (aI rfl (trivial)))))))))))))))) (fun _=>rfl) (fun _=>rfl) (fun _=>⟨rfl,trivial,fun j=>rfl,rfl,trivial,trivial,trivial,trivial,trivial,trivial,trivial,rfl,trivial,rfl,trivial,trivial⟩) ?_
 rintro n ⟨n1,n2,n3⟩ dO
 have Jz:aR.length=19:=rfl
 have hob:=tY (((n:Int)-1).toNat+0)
 have Fx:0≤ls.getD ((aR.getD (((n:Int)-1).toNat+0) 0).toNat+0) 0∧ls.getD ((aR.getD (((n:Int)-1).toNat+0) 0).toNat+0) 0<8:=by
  rw[List.getD_eq_getElem?_getD,List.getElem?_eq_getElem (show(aR.getD (((n:Int)-1).toNat+0) 0).toNat+0<ls.length by omega)]
  exact ok.OX _ (List.getElem_mem _)
 have e0:((n:Int)-1).toNat+0=n-1:=by omega
 refine Qs ?_
 refine And.intro (fun q1=>?_) (fun q1=>?_)
 ·have hm:4<n:=by have q1:(4:Int)<(n:Int):=of_decide_eq_true q1;omega
  have Sf:iT ls (n-4) n=if 4<n∧ls.getD (aR.getD (n-1) 0).toNat 0=0 then iT ls (n-5) (n-1)else n:=by
   rw[show n-4=n-5+1 by omega];rfl
  refine Qs ?_
  refine And.intro (fun q2=>?_) (fun q2=>?_)
  ·have q2:ls.getD ((aR.getD (((n:Int)-1).toNat+0) 0).toNat+0) 0=0:=of_decide_eq_true q2
   rw[e0,Nat.add_zero]at q2
   rw[if_pos ⟨hm,q2⟩]at Sf
   refine Qs ?_
   refine RO.same (n-1) ⟨by omega,by omega,by rw[←n3,Sf];rfl⟩ (show n-1<n by omega) (aI rfl (aI rfl (aI rfl (aI rfl (aI ?_ trivial))))) (aI rfl (aI rfl (aI rfl (aI rfl (aI rfl (aI rfl (aI trivial (aI rfl (aI trivial (aI trivial (aI rfl (aI rfl (aI rfl (aI rfl (aI rfl (trivial))))))))))))))))
   show AV.sl 14 0 0 ((n:Int)-1).toNat 19=AV.sl 14 0 0 (n-1) 19
   rw[show((n:Int)-1).toNat=n-1 by omega]
  ·have q2:¬ls.getD ((aR.getD (((n:Int)-1).toNat+0) 0).toNat+0) 0=0:=of_decide_eq_false q2
   rw[e0,Nat.add_zero]at q2
   rw[if_neg (fun x=>q2 x.2)]at Sf
   have hN:n=N:=by rw[←Wm,←n3,Sf]
   refine Qs ?_
   refine m9.mk (iB,iI,iA,iH) (aI rfl (aI rfl (aI rfl (aI rfl (aI (congrArg (fun k=>AV.sl 14 0 0 k 19) hN) trivial))))) (aI rfl (aI rfl (aI rfl (aI rfl (aI rfl (aI rfl (aI trivial (aI rfl (aI trivial (aI trivial (aI rfl (aI rfl (aI rfl (aI rfl (aI rfl (trivial))))))))))))))))
 ·have hm:¬4<n:=by have q1:¬(4:Int)<(n:Int):=of_decide_eq_false q1;omega
  have hN:n=N:=by
   rw[←Wm,←n3,show n-4=0 by omega];rfl
  refine Qs ?_
  refine m9.mk (iB,iI,iA,iH) (aI rfl (aI rfl (aI rfl (aI rfl (aI (congrArg (fun k=>AV.sl 14 0 0 k 19) hN) trivial))))) (aI rfl (aI rfl (aI rfl (aI rfl (aI rfl (aI rfl (aI trivial (aI rfl (aI trivial (aI trivial (aI rfl (aI rfl (aI rfl (aI rfl (aI rfl (trivial))))))))))))))))
theorem mB {K Kp:AV→AH→Prop}{ga ca gd cd g c:Nat}(row vK:List Bool)(E:AH){v' v n:Int}{k:Nat}(hn:n=(k:Int))(hv:v'=v)(h0:0≤v∧v<2^k)(hk:k≤24)(hr:row.length+k≤8388608)(dJ:row++bitsOf v k=vK)(hc:(aP row).length≤c)
 (h:∀g' c',(aP vK).length≤c'→K (.int .i64 0) (vB ts gt ct A ga ca D gd cd vK g' c'++E)):
 aa Try.prog 40 [.ptr 0 0 0,.int .u32 v',.int .i64 n] (vB ts gt ct A ga ca D gd cd row g c++E) K Kp:=by
 subst hn hv
 refine Ls E h0.1 (by omega) hc fun g' c' h'=>?_
 rw[ym hk h0.2 hr,dJ]at h'⊢
 exact h g' c' h'
def Yn (L:List Int)(g7 c7:Nat){P:Nat×Nat→Prop}(s:{p:Nat×Nat//P p}):List (Nat×AV):=[(1,.ptr 3 0 0),(2,.sl 7 g7 0 L.length c7),(5,.ptr 11 0 0),(7,.ptr 13 0 0)]
def Yr (ts:List Tk)(gt ct:Nat)(A D L ls:List Int)(row:List Bool)(ga ca gd cd g7 c7 iB iI iA iH:Nat)(s:{p:Nat×Nat//(aP row).length≤p.2}):AH:=
 vB ts gt ct A ga ca D gd cd row s.1.1 s.1.2++(dT L ls g7 c7 iB iI iA iH++[AO.gone])
noncomputable abbrev VJ:Cx:=Hw (fun _=>[0,3,10,11,14]) []
set_option maxHeartbeats 4000000 in
theorem Yk {Q:jm→AA→AH→Prop}{Kp:AV→AH→Prop}{g0 c0 ga ca gd cd g7 c7 iB iI iA iH N:Nat}(Uj:4≤N∧N≤19)(XX:nL (A++D)=N)(ON:257≤A.length∧A.length≤286)(RC:1≤D.length∧D.length≤30)(ok:nn L ls)(d0:Nat→Value):
 sq VJ (m9 (Yn L g7 c7) (Yr ts gt ct A D L ls (gQ A D++eB ls N) ga ca gd cd g7 c7 iB iI iA iH)) Q Kp 5 (kh 9 px) (lS (Yo L N g7 c7 (iB,iI,iA,iH)) d0) (Ws ts gt ct g0 c0 A D L ls ga ca gd cd g7 c7 (iB,iI,iA,iH)):=by
 have aak:(A.length:Int)-257=((A.length-257:Nat):Int):=by omega
 have e1:(D.length:Int)-1=((D.length-1:Nat):Int):=by omega
 refine Qs ?_
 refine mB [] (bitsOf 5 3) (dT L ls g7 c7 iB iI iA iH++[AO.one true 0 (.ints .i64 aR 19)]) (v:=5) (k:=3) rfl rfl (by decide) (by decide) (by decide) rfl (Nat.zero_le _) fun g1 c1 h1=>?_
 refine Qs ?_
 refine mB (bitsOf 5 3) (bitsOf 5 3++bitsOf ((A.length-257:Nat):Int) 5) (dT L ls g7 c7 iB iI iA iH++[AO.one true 0 (.ints .i64 aR 19)]) (v:=((A.length-257:Nat):Int)) (k:=5) rfl (by omega) (by omega) (by decide) (by rw[ai];decide) rfl h1 fun g2 c2 h2=>?_
 refine Qs ?_
 refine mB (bitsOf 5 3++bitsOf ((A.length-257:Nat):Int) 5) (bitsOf 5 3++bitsOf ((A.length-257:Nat):Int) 5++bitsOf ((D.length-1:Nat):Int) 5) (dT L ls g7 c7 iB iI iA iH++[AO.one true 0 (.ints .i64 aR 19)]) (v:=((D.length-1:Nat):Int)) (k:=5) rfl (by omega) (by omega) (by decide) (by simp only[List.length_append,ai];decide) rfl h2 fun g3 c3 h3=>?_
 refine Qs ?_
 refine mB (bitsOf 5 3++bitsOf ((A.length-257:Nat):Int) 5++bitsOf ((D.length-1:Nat):Int) 5) (gQ A D++eB ls 0) (dT L ls g7 c7 iB iI iA iH++[AO.one true 0 (.ints .i64 aR 19)]) (v:=((N-4:Nat):Int)) (k:=4) rfl (by omega) (by omega) (by decide) (by simp only[List.length_append,ai];decide) (by rw[show eB ls 0=[]from rfl,List.append_nil];unfold gQ;rw[XX]) h3 fun g4 c4 h4=>?_
 refine Qs ?_
 refine WO.go (σ:=Nat×Nat×Nat) (fun(i,g,c)=>i≤N∧(aP (gQ A D++eB ls i)).length≤c) (fun(i,_,_)=>N-i)
  (fun(i,_,_)=>[(1,.ptr 3 0 0),(2,.sl 7 g7 0 L.length c7),(5,.ptr 11 0 0),(7,.ptr 13 0 0),(101,.sl 14 0 0 N 19),(102,.int .i64 (N:Int)),(103,.int .i64 (i:Int))])
  (fun(i,g,c)=>vB ts gt ct A ga ca D gd cd (gQ A D++eB ls i) g c++(dT L ls g7 c7 iB iI iA iH++[AO.one true 0 (.ints .i64 aR 19)])) (0,g4,c4) ae mixed (by kernel_rfl)
  ⟨Nat.zero_le _,h4⟩ (aI rfl (aI rfl (aI rfl (aI rfl (aI rfl (aI rfl (aI rfl (trivial)))))))) (aI rfl (aI rfl (aI rfl (aI rfl (aI rfl (aI rfl (aI trivial (aI rfl (aI trivial (aI trivial (aI rfl (aI rfl (aI rfl (aI rfl (aI rfl (trivial)))))))))))))))) (fun _=>rfl) (fun _=>rfl) (fun _=>⟨rfl,trivial,fun j=>rfl,rfl,trivial,trivial,trivial,trivial,trivial,trivial,trivial,rfl,trivial,rfl,trivial,trivial⟩) ?_
 rintro⟨i,g,c⟩ ⟨i1,i2⟩ dP
 have Jz:aR.length=19:=rfl
 have hob:=tY ((i:Int).toNat+0)
 have JD:=ok.len
 have Fx:0≤ls.getD ((aR.getD ((i:Int).toNat+0) 0).toNat+0) 0∧ls.getD ((aR.getD ((i:Int).toNat+0) 0).toNat+0) 0<8:=by
  rw[List.getD_eq_getElem?_getD,List.getElem?_eq_getElem (show(aR.getD ((i:Int).toNat+0) 0).toNat+0<ls.length by omega)]
  exact ok.OX _ (List.getElem_mem _)
 have xu:=tZ ls i
 have Sn:=kp A D
 refine Qs ?_
 refine And.intro (fun q1=>?_) (fun q1=>?_)
 ·have hi:i<N:=by have q1:(i:Int)<(N:Int):=of_decide_eq_true q1;omega
  refine Qs ?_
  have Nf:=GD ls (i:=i) (by omega)
  refine mB (gQ A D++eB ls i) (gQ A D++eB ls (i+1)) (dT L ls g7 c7 iB iI iA iH++[AO.one true 0 (.ints .i64 aR 19)]) (v:=ls.getD ((aR.getD ((i:Int).toNat+0) 0).toNat+0) 0) (k:=3) rfl (by omega) Fx (by decide) (by rw[List.length_append];omega) (by rw[Nf,List.append_assoc];rfl) i2 fun g' c' h'=>?_
  refine Qs ?_
  refine RO.same (i+1,g',c') ⟨hi,h'⟩ (show N-(i+1)<N-i by omega) (aI rfl (aI rfl (aI rfl (aI rfl (aI rfl (aI rfl (aI rfl (trivial)))))))) (aI rfl (aI rfl (aI rfl (aI rfl (aI rfl (aI rfl (aI trivial (aI rfl (aI trivial (aI trivial (aI rfl (aI rfl (aI rfl (aI rfl (aI rfl (trivial))))))))))))))))
 ·have hi:i=N:=by have q1:¬(i:Int)<(N:Int):=of_decide_eq_false q1;omega
  subst hi
  refine Qs ?_
  refine m9.mk ⟨(g,c),i2⟩ (aI rfl (aI rfl (aI rfl (aI rfl (trivial))))) (aI rfl (aI rfl (aI rfl (aI rfl (aI rfl (aI rfl (aI trivial (aI rfl (aI trivial (aI trivial (aI rfl (aI rfl (aI rfl (aI rfl (aI trivial (trivial))))))))))))))))
theorem bg {K Kp:AV→AH→Prop}{ga ca gd cd g c:Nat}(row vK:List Bool)(E:AH)(i j:Nat){o o2:Bool}{g5 co c3 g6 dE c4 s k ex:Nat}{s' e' k':Int}(hi:E[i]?=some (.one o g5 (.ints .u16 (ay ls).1 co)))(hj:E[j]?=some (.one o2 g6 (.ints .u8 ls dE)))(he:aE ls=0)(hs:jw ls (s:Int))(hk:k≤24)(hex:ex<2^k)(hr:row.length+15+k≤8388608)(hc:(aP row).length≤c)
 (dJ:row++(aQ ls s++bitsOf (ex:Int) k)=vK)(h1:s'=(s:Int))(h2:e'=(ex:Int))(h3:k'=(k:Int))
 (pG:(bL [.own 0,.own 1,.own 2,.own 4,.own 5,.eI (i+6) g5 0,.eI (j+6) g6 0]&&AV.pE [.own 0,.own 1,.own 2,.own 4,.own 5,.eI (i+6) g5 0,.eI (j+6) g6 0] [.ptr 0 0 0,.sl 5 0 0 (ay ls).1.length c3,.sl 6 0 0 ls.length c4,.agg [.int .i64 s',.int .i64 e',.int .i64 k']])=true)
 (h:∀g' c',(aP vK).length≤c'→K (.aL []) (vB ts gt ct A ga ca D gd cd vK g' c'++E)):
 aa Try.prog 48 [.ptr 0 0 0,.sl (i+6) g5 0 (ay ls).1.length c3,.sl (j+6) g6 0 ls.length c4,.agg [.int .i64 s',.int .i64 e',.int .i64 k']] (vB ts gt ct A ga ca D gd cd row g c++E) K Kp:=by
 subst h1 h2 h3 dJ
 exact Ki E i j hi hj he hs hk ⟨Int.natCast_nonneg _,by exact_mod_cast hex⟩ hr hc pG h
def ZD {P:Nat×Nat→Prop}(s:{p:Nat×Nat//P p}):List (Nat×AV):=[(1,.ptr 3 0 0)]
def ZE (ts:List Tk)(gt ct:Nat)(A D:List Int)(row:List Bool)(ga ca gd cd:Nat)(s:{p:Nat×Nat//(aP row).length≤p.2}):AH:=vB ts gt ct A ga ca D gd cd row s.1.1 s.1.2++[AO.gone,AO.gone,AO.gone,AO.gone,AO.gone,AO.gone,AO.gone,AO.gone,AO.gone]
noncomputable abbrev NY:Cx:=Hw (fun _=>[0,3,10,11,13]) []
set_option maxHeartbeats 8000000 in
theorem Yj {Q:jm→AA→AH→Prop}{Kp:AV→AH→Prop}{row:List Bool}{ga ca gd cd g7 c7 iB iI iA iH:Nat}(jc:258≤L.length∧L.length≤316)(KV:∀x∈L,0≤x∧x<16)(pe:row.length≤74)(ok:nn L ls)(s:{p:Nat×Nat//(aP row).length≤p.2})(d0:Nat→Value):
 sq NY (m9 ZD (ZE ts gt ct A D (bN ls row (bl L)) ga ca gd cd)) Q Kp 1 (kh 14 px) (lS (Yn L g7 c7 s) d0) (Yr ts gt ct A D L ls row ga ca gd cd g7 c7 iB iI iA iH s):=by
 obtain⟨⟨g0,c0⟩,hg0⟩:=s
 have Ul:∀i,i<L.length→0≤L.getD i 0∧L.getD i 0<16:=by
  intro i hi
  rw[List.getD_eq_getElem?_getD,List.getElem?_eq_getElem hi,Option.getD_some]
  exact KV _ (List.getElem_mem hi)
 have fm:=pe
 refine Qs ?_
 refine Ic (fun _=>[]) [] rfl ?_
 refine Qs ?_
 refine WO.range rfl rfl [(1,.ptr 3 0 0),(5,.ptr 11 0 0),(7,.ptr 13 0 0)] (aI rfl (aI rfl (aI rfl (trivial)))) fun l fn df d=>?_
 refine Ia (fun _=>[7,15]) [] rfl ?_
 refine Qs ?_
 refine WO.go (σ:=Nat×List (Nat×Nat×Nat)×Nat×Nat) (fun(i,dn,g,c)=>i≤L.length∧dn.length≤i∧dn++cQ L (L.length-i) i=bl L∧(aP (bN ls row dn)).length≤c) (fun(i,_,_,_)=>L.length-i)
  (fun(i,_,_,_)=>[(0,.fn (.yield l) [] []),(1,.ptr 15 0 0),(3,.int .i64 (i:Int))]) (fun(i,dn,g,c)=>vB ts gt ct A ga ca D gd cd (bN ls row dn) g c++(dT L ls g7 c7 iB iI iA iH++[AO.gone,AO.one true 0 (.cells [.sl 7 g7 0 L.length c7]),AO.one true 0 (.loop l .ready none fn _ _ _ _ _ df)])) (0,[],g0,c0) ae mixed (by kernel_rfl) ⟨Nat.zero_le _,Nat.le_refl _,rfl,hg0⟩ (aI rfl (aI rfl (aI rfl (trivial)))) (aI rfl (aI rfl (aI rfl (aI rfl (aI rfl (aI rfl (aI trivial (aI rfl (aI trivial (aI trivial (aI rfl (aI rfl (aI rfl (aI rfl (aI trivial (aI rfl (aI rfl (trivial)))))))))))))))))) (fun _=>rfl) (fun _=>rfl) (fun _=>⟨rfl,trivial,fun j=>rfl,rfl,trivial,trivial,trivial,trivial,trivial,trivial,trivial,rfl,trivial,rfl,trivial,rfl,yx rfl,trivial⟩) ?_
 rintro⟨i,dn,g,c⟩ ⟨i1,i2,i3,i4⟩ d2
 refine Qs ?_
 refine And.intro (fun q1=>?_) (fun q1=>?_)
 ·have hi:i<L.length:=by have q1:(i:Int)<(L.length:Int):=of_decide_eq_true q1;omega
  have pe:=nC L i L.length 1 (by omega)
  have dI:=oW hi
  refine Qs ?_
  refine WO.go (σ:=Nat) (fun n=>1≤n∧i+n≤L.length∧runN L i (L.length-(n-1)) n=runN L i L.length 1) (fun n=>L.length-n)
   (fun n=>[(0,.fn (.yield l) [] []),(1,.ptr 15 0 0),(3,.int .i64 (i:Int)),(4,.int .i64 (n:Int))]) (fun _=>vB ts gt ct A ga ca D gd cd (bN ls row dn) g c++(dT L ls g7 c7 iB iI iA iH++[AO.gone,AO.one true 0 (.cells [.sl 7 g7 0 L.length c7]),AO.one true 0 (.loop l .ready none fn _ _ _ _ _ df)])) 1 ae mixed (by kernel_rfl) ⟨Nat.le_refl _,hi,rfl⟩ (aI rfl (aI rfl (aI rfl (aI rfl (trivial))))) (aI rfl (aI rfl (aI rfl (aI rfl (aI rfl (aI rfl (aI trivial (aI rfl (aI trivial (aI trivial (aI rfl (aI rfl (aI rfl (aI rfl (aI trivial (aI rfl (aI rfl (trivial)))))))))))))))))) (fun _=>rfl) (fun _=>rfl) (fun _=>⟨rfl,trivial,fun j=>rfl,rfl,trivial,trivial,trivial,trivial,trivial,trivial,trivial,rfl,trivial,rfl,trivial,rfl,yx rfl,trivial⟩) ?_
  rintro n ⟨n1,n2,n3⟩ d3
  have XY:=jc
  refine Qs ?_
  refine And.intro (fun q2=>?_) (fun q2=>?_)
  ·have h2:i+n<L.length:=by have q2:(i:Int)+(n:Int)<(L.length:Int):=of_decide_eq_true q2;omega
   refine Qs ?_
   refine And.intro (fun q3=>?_) (fun q3=>?_)
   ·have h3:L.getD (i+n) 0=L.getD i 0:=of_decide_eq_true q3
    refine Qs ?_
    refine RO.same (n+1) ⟨by omega,h2,?_⟩ (show L.length-(n+1)<L.length-n by omega) (aI rfl (aI rfl (aI rfl (aI rfl (trivial))))) (aI rfl (aI rfl (aI rfl (aI rfl (aI rfl (aI rfl (aI trivial (aI rfl (aI trivial (aI trivial (aI rfl (aI rfl (aI rfl (aI rfl (aI trivial (aI rfl (aI rfl (trivial))))))))))))))))))
    rw[←n3,show L.length-(n-1)=(L.length-(n+1-1))+1 by omega,runN,if_pos ⟨h2,h3⟩]
   ·have h3:¬L.getD (i+n) 0=L.getD i 0:=of_decide_eq_false q3
    have hn:runN L i L.length 1=n:=by
     rw[←n3,show L.length-(n-1)=(L.length-(n+1-1))+1 by omega,runN,if_neg (fun x=>h3 x.2)]
    rw[hn]at dI
    have j6:0≤L.getD ((i:Int).toNat+0) 0∧L.getD ((i:Int).toNat+0) 0<16:=Ul i hi
    refine Qs ?_
    refine And.intro (fun z1=>?_) (fun z1=>?_)
    ·have z1:L.getD i 0=0:=of_decide_eq_true z1
     refine Qs ?_
     refine And.intro (fun z2=>?_) (fun z2=>?_)
     ·have z2:11≤n:=by have z2:(11:Int)≤(n:Int):=of_decide_eq_true z2;omega
      have hX:az L i n=((18,min n 138-11,7),min n 138):=by unfold az;rw[if_pos ⟨z1,z2⟩]
      have eE:min (n:Int) 138-11=((min n 138-11:Nat):Int):=by omega
      refine Qs ?_
      rw[eE]
      obtain⟨a1,a2,a3,a4,a5,a6,a7⟩:=v5 ok hX dI i3 i2 hi n1 jc.2 fm
      refine aN.round (x:=kF l) ae mixed (i:=16) rfl (by kernel_rfl) rfl rfl ?_
      refine Qs ?_
      refine bg (bN ls row dn) _ (dT L ls g7 c7 iB iI iA iH++[_,_,_,_,_]) 6 4 (s:=18) (k:=7) (ex:=(min n 138-11)) rfl rfl ok.each a1 a3 a2 a4 i4 a5 (show(18:Int)=((18:Nat):Int) by first|rfl|exact(Int.toNat_of_nonneg j6.1).symm) rfl rfl rfl fun g' c' h'=>?_
      refine Qs ?_
      refine RO.same (i+(min n 138),dn++[(18,(min n 138-11),7)],g',c') ⟨by omega,by rw[List.length_append,List.length_singleton];omega,a6,h'⟩ (show L.length-(i+(min n 138))<L.length-i by omega) (aI rfl (aI rfl (aI (congrArg (AV.int .i64) (show _=((i+(min n 138):Nat):Int) by omega)) trivial))) (aI rfl (aI rfl (aI rfl (aI rfl (aI rfl (aI rfl (aI trivial (aI rfl (aI trivial (aI trivial (aI rfl (aI rfl (aI rfl (aI rfl (aI trivial (aI rfl (aI rfl (trivial))))))))))))))))))
     ·have z2:¬11≤n:=by have z2:¬(11:Int)≤(n:Int):=of_decide_eq_false z2;omega
      refine Qs ?_
      refine And.intro (fun z3=>?_) (fun z3=>?_)
      rotate_left
      ·exact absurd z1 (of_decide_eq_false z3)
      refine Qs ?_
      refine And.intro (fun z4=>?_) (fun z4=>?_)
      ·have z4:3≤n:=by have z4:(3:Int)≤(n:Int):=of_decide_eq_true z4;omega
       have hX:az L i n=((17,n-3,3),n):=by unfold az;rw[if_neg (fun x=>z2 x.2),if_pos ⟨z1,z4⟩]
       have eE:(n:Int)-3=((n-3:Nat):Int):=by omega
       refine Qs ?_
       rw[eE]
       obtain⟨a1,a2,a3,a4,a5,a6,a7⟩:=v5 ok hX dI i3 i2 hi n1 jc.2 fm
       refine aN.round (x:=kF l) ae mixed (i:=16) rfl (by kernel_rfl) rfl rfl ?_
       refine Qs ?_
       refine bg (bN ls row dn) _ (dT L ls g7 c7 iB iI iA iH++[_,_,_,_,_]) 6 4 (s:=17) (k:=3) (ex:=(n-3)) rfl rfl ok.each a1 a3 a2 a4 i4 a5 (show(17:Int)=((17:Nat):Int) by first|rfl|exact(Int.toNat_of_nonneg j6.1).symm) rfl rfl rfl fun g' c' h'=>?_
       refine Qs ?_
       refine RO.same (i+n,dn++[(17,(n-3),3)],g',c') ⟨by omega,by rw[List.length_append,List.length_singleton];omega,a6,h'⟩ (show L.length-(i+n)<L.length-i by omega) (aI rfl (aI rfl (aI (congrArg (AV.int .i64) (show _=((i+n:Nat):Int) by omega)) trivial))) (aI rfl (aI rfl (aI rfl (aI rfl (aI rfl (aI rfl (aI trivial (aI rfl (aI trivial (aI trivial (aI rfl (aI rfl (aI rfl (aI rfl (aI trivial (aI rfl (aI rfl (trivial))))))))))))))))))
      ·have z4:¬3≤n:=by have z4:¬(3:Int)≤(n:Int):=of_decide_eq_false z4;omega
       have c1:¬(L.getD i 0=0∧11≤n):=fun x=>z2 x.2
       have c2:¬(L.getD i 0=0∧3≤n):=fun x=>z4 x.2
       refine Qs ?_
       refine And.intro (fun y1=>?_) (fun y1=>?_)
       ·have y1:0<i:=by have y1:(0:Int)<(i:Int):=of_decide_eq_true y1;omega
        have ei:(i:Int)-1=((i-1:Nat):Int):=by omega
        have eg:L.getD (((i:Int)-1).toNat+0) 0=L.getD (i-1) 0:=by rw[ei];rfl
        refine Qs ?_
        refine And.intro (fun y2=>?_) (fun y2=>?_)
        ·have y2:L.getD (((i:Int)-1).toNat+0) 0=L.getD i 0:=of_decide_eq_true y2
         rw[eg]at y2
         refine Qs ?_
         refine And.intro (fun y3=>?_) (fun y3=>?_)
         ·have y3:3≤n:=by have y3:(3:Int)≤(n:Int):=of_decide_eq_true y3;omega
          have hX:az L i n=((16,min n 6-3,2),min n 6):=by unfold az;rw[if_neg c1,if_neg c2,if_pos ⟨y1,y2,y3⟩]
          have eE:min (n:Int) 6-3=((min n 6-3:Nat):Int):=by omega
          refine Qs ?_
          rw[eE]
          obtain⟨a1,a2,a3,a4,a5,a6,a7⟩:=v5 ok hX dI i3 i2 hi n1 jc.2 fm
          refine aN.round (x:=kF l) ae mixed (i:=16) rfl (by kernel_rfl) rfl rfl ?_
          refine Qs ?_
          refine bg (bN ls row dn) _ (dT L ls g7 c7 iB iI iA iH++[_,_,_,_,_]) 6 4 (s:=16) (k:=2) (ex:=(min n 6-3)) rfl rfl ok.each a1 a3 a2 a4 i4 a5 (show(16:Int)=((16:Nat):Int) by first|rfl|exact(Int.toNat_of_nonneg j6.1).symm) rfl rfl rfl fun g' c' h'=>?_
          refine Qs ?_
          refine RO.same (i+(min n 6),dn++[(16,(min n 6-3),2)],g',c') ⟨by omega,by rw[List.length_append,List.length_singleton];omega,a6,h'⟩ (show L.length-(i+(min n 6))<L.length-i by omega) (aI rfl (aI rfl (aI (congrArg (AV.int .i64) (show _=((i+(min n 6):Nat):Int) by omega)) trivial))) (aI rfl (aI rfl (aI rfl (aI rfl (aI rfl (aI rfl (aI trivial (aI rfl (aI trivial (aI trivial (aI rfl (aI rfl (aI rfl (aI rfl (aI trivial (aI rfl (aI rfl (trivial))))))))))))))))))
         ·have y3:¬3≤n:=by have y3:¬(3:Int)≤(n:Int):=of_decide_eq_false y3;omega
          have hX:az L i n=(((L.getD i 0).toNat,0,0),1):=by unfold az;rw[if_neg c1,if_neg c2,if_neg (fun x=>y3 x.2.2)]
          refine Qs ?_
          obtain⟨a1,a2,a3,a4,a5,a6,a7⟩:=v5 ok hX dI i3 i2 hi n1 jc.2 fm
          refine aN.round (x:=kF l) ae mixed (i:=16) rfl (by kernel_rfl) rfl rfl ?_
          refine Qs ?_
          refine bg (bN ls row dn) _ (dT L ls g7 c7 iB iI iA iH++[_,_,_,_,_]) 6 4 (s:=(L.getD i 0).toNat) (k:=0) (ex:=0) rfl rfl ok.each a1 a3 a2 a4 i4 a5 (show L.getD ((i:Int).toNat+0) 0=(((L.getD i 0).toNat:Nat):Int) by first|rfl|exact(Int.toNat_of_nonneg j6.1).symm) rfl rfl rfl fun g' c' h'=>?_
          refine Qs ?_
          refine RO.same (i+1,dn++[((L.getD i 0).toNat,0,0)],g',c') ⟨by omega,by rw[List.length_append,List.length_singleton];omega,a6,h'⟩ (show L.length-(i+1)<L.length-i by omega) (aI rfl (aI rfl (aI (congrArg (AV.int .i64) (show _=((i+1:Nat):Int) by omega)) trivial))) (aI rfl (aI rfl (aI rfl (aI rfl (aI rfl (aI rfl (aI trivial (aI rfl (aI trivial (aI trivial (aI rfl (aI rfl (aI rfl (aI rfl (aI trivial (aI rfl (aI rfl (trivial))))))))))))))))))
        ·have y2:¬L.getD (((i:Int)-1).toNat+0) 0=L.getD i 0:=of_decide_eq_false y2
         rw[eg]at y2
         have hX:az L i n=(((L.getD i 0).toNat,0,0),1):=by unfold az;rw[if_neg c1,if_neg c2,if_neg (fun x=>y2 x.2.1)]
         refine Qs ?_
         obtain⟨a1,a2,a3,a4,a5,a6,a7⟩:=v5 ok hX dI i3 i2 hi n1 jc.2 fm
         refine aN.round (x:=kF l) ae mixed (i:=16) rfl (by kernel_rfl) rfl rfl ?_
         refine Qs ?_
         refine bg (bN ls row dn) _ (dT L ls g7 c7 iB iI iA iH++[_,_,_,_,_]) 6 4 (s:=(L.getD i 0).toNat) (k:=0) (ex:=0) rfl rfl ok.each a1 a3 a2 a4 i4 a5 (show L.getD ((i:Int).toNat+0) 0=(((L.getD i 0).toNat:Nat):Int) by first|rfl|exact(Int.toNat_of_nonneg j6.1).symm) rfl rfl rfl fun g' c' h'=>?_
         refine Qs ?_
         refine RO.same (i+1,dn++[((L.getD i 0).toNat,0,0)],g',c') ⟨by omega,by rw[List.length_append,List.length_singleton];omega,a6,h'⟩ (show L.length-(i+1)<L.length-i by omega) (aI rfl (aI rfl (aI (congrArg (AV.int .i64) (show _=((i+1:Nat):Int) by omega)) trivial))) (aI rfl (aI rfl (aI rfl (aI rfl (aI rfl (aI rfl (aI trivial (aI rfl (aI trivial (aI trivial (aI rfl (aI rfl (aI rfl (aI rfl (aI trivial (aI rfl (aI rfl (trivial))))))))))))))))))
       ·have y1:¬0<i:=by have y1:¬(0:Int)<(i:Int):=of_decide_eq_false y1;omega
        have hX:az L i n=(((L.getD i 0).toNat,0,0),1):=by unfold az;rw[if_neg c1,if_neg c2,if_neg (fun x=>y1 x.1)]
        refine Qs ?_
        obtain⟨a1,a2,a3,a4,a5,a6,a7⟩:=v5 ok hX dI i3 i2 hi n1 jc.2 fm
        refine aN.round (x:=kF l) ae mixed (i:=16) rfl (by kernel_rfl) rfl rfl ?_
        refine Qs ?_
        refine bg (bN ls row dn) _ (dT L ls g7 c7 iB iI iA iH++[_,_,_,_,_]) 6 4 (s:=(L.getD i 0).toNat) (k:=0) (ex:=0) rfl rfl ok.each a1 a3 a2 a4 i4 a5 (show L.getD ((i:Int).toNat+0) 0=(((L.getD i 0).toNat:Nat):Int) by first|rfl|exact(Int.toNat_of_nonneg j6.1).symm) rfl rfl rfl fun g' c' h'=>?_
        refine Qs ?_
        refine RO.same (i+1,dn++[((L.getD i 0).toNat,0,0)],g',c') ⟨by omega,by rw[List.length_append,List.length_singleton];omega,a6,h'⟩ (show L.length-(i+1)<L.length-i by omega) (aI rfl (aI rfl (aI (congrArg (AV.int .i64) (show _=((i+1:Nat):Int) by omega)) trivial))) (aI rfl (aI rfl (aI rfl (aI rfl (aI rfl (aI rfl (aI trivial (aI rfl (aI trivial (aI trivial (aI rfl (aI rfl (aI rfl (aI rfl (aI trivial (aI rfl (aI rfl (trivial))))))))))))))))))
    ·have z1:¬L.getD i 0=0:=of_decide_eq_false z1
     have c1:¬(L.getD i 0=0∧11≤n):=fun x=>z1 x.1
     have c2:¬(L.getD i 0=0∧3≤n):=fun x=>z1 x.1
     refine Qs ?_
     refine And.intro (fun z3=>?_) (fun z3=>?_)
     ·exact absurd (of_decide_eq_true z3) z1
     refine Qs ?_
     refine And.intro (fun y1=>?_) (fun y1=>?_)
     ·have y1:0<i:=by have y1:(0:Int)<(i:Int):=of_decide_eq_true y1;omega
      have ei:(i:Int)-1=((i-1:Nat):Int):=by omega
      have eg:L.getD (((i:Int)-1).toNat+0) 0=L.getD (i-1) 0:=by rw[ei];rfl
      refine Qs ?_
      refine And.intro (fun y2=>?_) (fun y2=>?_)
      ·have y2:L.getD (((i:Int)-1).toNat+0) 0=L.getD i 0:=of_decide_eq_true y2
       rw[eg]at y2
       refine Qs ?_
       refine And.intro (fun y3=>?_) (fun y3=>?_)
       ·have y3:3≤n:=by have y3:(3:Int)≤(n:Int):=of_decide_eq_true y3;omega
        have hX:az L i n=((16,min n 6-3,2),min n 6):=by unfold az;rw[if_neg c1,if_neg c2,if_pos ⟨y1,y2,y3⟩]
        have eE:min (n:Int) 6-3=((min n 6-3:Nat):Int):=by omega
        refine Qs ?_
        rw[eE]
        obtain⟨a1,a2,a3,a4,a5,a6,a7⟩:=v5 ok hX dI i3 i2 hi n1 jc.2 fm
        refine aN.round (x:=kF l) ae mixed (i:=16) rfl (by kernel_rfl) rfl rfl ?_
        refine Qs ?_
        refine bg (bN ls row dn) _ (dT L ls g7 c7 iB iI iA iH++[_,_,_,_,_]) 6 4 (s:=16) (k:=2) (ex:=(min n 6-3)) rfl rfl ok.each a1 a3 a2 a4 i4 a5 (show(16:Int)=((16:Nat):Int) by first|rfl|exact(Int.toNat_of_nonneg j6.1).symm) rfl rfl rfl fun g' c' h'=>?_
        refine Qs ?_
        refine RO.same (i+(min n 6),dn++[(16,(min n 6-3),2)],g',c') ⟨by omega,by rw[List.length_append,List.length_singleton];omega,a6,h'⟩ (show L.length-(i+(min n 6))<L.length-i by omega) (aI rfl (aI rfl (aI (congrArg (AV.int .i64) (show _=((i+(min n 6):Nat):Int) by omega)) trivial))) (aI rfl (aI rfl (aI rfl (aI rfl (aI rfl (aI rfl (aI trivial (aI rfl (aI trivial (aI trivial (aI rfl (aI rfl (aI rfl (aI rfl (aI trivial (aI rfl (aI rfl (trivial))))))))))))))))))
       ·have y3:¬3≤n:=by have y3:¬(3:Int)≤(n:Int):=of_decide_eq_false y3;omega
        have hX:az L i n=(((L.getD i 0).toNat,0,0),1):=by unfold az;rw[if_neg c1,if_neg c2,if_neg (fun x=>y3 x.2.2)]
        refine Qs ?_
        obtain⟨a1,a2,a3,a4,a5,a6,a7⟩:=v5 ok hX dI i3 i2 hi n1 jc.2 fm
        refine aN.round (x:=kF l) ae mixed (i:=16) rfl (by kernel_rfl) rfl rfl ?_
        refine Qs ?_
        refine bg (bN ls row dn) _ (dT L ls g7 c7 iB iI iA iH++[_,_,_,_,_]) 6 4 (s:=(L.getD i 0).toNat) (k:=0) (ex:=0) rfl rfl ok.each a1 a3 a2 a4 i4 a5 (show L.getD ((i:Int).toNat+0) 0=(((L.getD i 0).toNat:Nat):Int) by first|rfl|exact(Int.toNat_of_nonneg j6.1).symm) rfl rfl rfl fun g' c' h'=>?_
        refine Qs ?_
        refine RO.same (i+1,dn++[((L.getD i 0).toNat,0,0)],g',c') ⟨by omega,by rw[List.length_append,List.length_singleton];omega,a6,h'⟩ (show L.length-(i+1)<L.length-i by omega) (aI rfl (aI rfl (aI (congrArg (AV.int .i64) (show _=((i+1:Nat):Int) by omega)) trivial))) (aI rfl (aI rfl (aI rfl (aI rfl (aI rfl (aI rfl (aI trivial (aI rfl (aI trivial (aI trivial (aI rfl (aI rfl (aI rfl (aI rfl (aI trivial (aI rfl (aI rfl (trivial))))))))))))))))))
      ·have y2:¬L.getD (((i:Int)-1).toNat+0) 0=L.getD i 0:=of_decide_eq_false y2
       rw[eg]at y2
       have hX:az L i n=(((L.getD i 0).toNat,0,0),1):=by unfold az;rw[if_neg c1,if_neg c2,if_neg (fun x=>y2 x.2.1)]
       refine Qs ?_
       obtain⟨a1,a2,a3,a4,a5,a6,a7⟩:=v5 ok hX dI i3 i2 hi n1 jc.2 fm
       refine aN.round (x:=kF l) ae mixed (i:=16) rfl (by kernel_rfl) rfl rfl ?_
       refine Qs ?_
       refine bg (bN ls row dn) _ (dT L ls g7 c7 iB iI iA iH++[_,_,_,_,_]) 6 4 (s:=(L.getD i 0).toNat) (k:=0) (ex:=0) rfl rfl ok.each a1 a3 a2 a4 i4 a5 (show L.getD ((i:Int).toNat+0) 0=(((L.getD i 0).toNat:Nat):Int) by first|rfl|exact(Int.toNat_of_nonneg j6.1).symm) rfl rfl rfl fun g' c' h'=>?_
       refine Qs ?_
       refine RO.same (i+1,dn++[((L.getD i 0).toNat,0,0)],g',c') ⟨by omega,by rw[List.length_append,List.length_singleton];omega,a6,h'⟩ (show L.length-(i+1)<L.length-i by omega) (aI rfl (aI rfl (aI (congrArg (AV.int .i64) (show _=((i+1:Nat):Int) by omega)) trivial))) (aI rfl (aI rfl (aI rfl (aI rfl (aI rfl (aI rfl (aI trivial (aI rfl (aI trivial (aI trivial (aI rfl (aI rfl (aI rfl (aI rfl (aI trivial (aI rfl (aI rfl (trivial))))))))))))))))))
     ·have y1:¬0<i:=by have y1:¬(0:Int)<(i:Int):=of_decide_eq_false y1;omega
      have hX:az L i n=(((L.getD i 0).toNat,0,0),1):=by unfold az;rw[if_neg c1,if_neg c2,if_neg (fun x=>y1 x.1)]
      refine Qs ?_
      obtain⟨a1,a2,a3,a4,a5,a6,a7⟩:=v5 ok hX dI i3 i2 hi n1 jc.2 fm
      refine aN.round (x:=kF l) ae mixed (i:=16) rfl (by kernel_rfl) rfl rfl ?_
      refine Qs ?_
      refine bg (bN ls row dn) _ (dT L ls g7 c7 iB iI iA iH++[_,_,_,_,_]) 6 4 (s:=(L.getD i 0).toNat) (k:=0) (ex:=0) rfl rfl ok.each a1 a3 a2 a4 i4 a5 (show L.getD ((i:Int).toNat+0) 0=(((L.getD i 0).toNat:Nat):Int) by first|rfl|exact(Int.toNat_of_nonneg j6.1).symm) rfl rfl rfl fun g' c' h'=>?_
      refine Qs ?_
      refine RO.same (i+1,dn++[((L.getD i 0).toNat,0,0)],g',c') ⟨by omega,by rw[List.length_append,List.length_singleton];omega,a6,h'⟩ (show L.length-(i+1)<L.length-i by omega) (aI rfl (aI rfl (aI (congrArg (AV.int .i64) (show _=((i+1:Nat):Int) by omega)) trivial))) (aI rfl (aI rfl (aI rfl (aI rfl (aI rfl (aI rfl (aI trivial (aI rfl (aI trivial (aI trivial (aI rfl (aI rfl (aI rfl (aI rfl (aI trivial (aI rfl (aI rfl (trivial))))))))))))))))))
  ·have h2:¬i+n<L.length:=by have q2:¬(i:Int)+(n:Int)<(L.length:Int):=of_decide_eq_false q2;omega
   have hn:runN L i L.length 1=n:=by
    rw[←n3,show L.length-(n-1)=(L.length-(n+1-1))+1 by omega,runN,if_neg (fun x=>h2 x.1)]
   rw[hn]at dI
   have j6:0≤L.getD ((i:Int).toNat+0) 0∧L.getD ((i:Int).toNat+0) 0<16:=Ul i hi
   refine Qs ?_
   refine And.intro (fun z1=>?_) (fun z1=>?_)
   ·have z1:L.getD i 0=0:=of_decide_eq_true z1
    refine Qs ?_
    refine And.intro (fun z2=>?_) (fun z2=>?_)
    ·have z2:11≤n:=by have z2:(11:Int)≤(n:Int):=of_decide_eq_true z2;omega
     have hX:az L i n=((18,min n 138-11,7),min n 138):=by unfold az;rw[if_pos ⟨z1,z2⟩]
     have eE:min (n:Int) 138-11=((min n 138-11:Nat):Int):=by omega
     refine Qs ?_
     rw[eE]
     obtain⟨a1,a2,a3,a4,a5,a6,a7⟩:=v5 ok hX dI i3 i2 hi n1 jc.2 fm
     refine aN.round (x:=kF l) ae mixed (i:=16) rfl (by kernel_rfl) rfl rfl ?_
     refine Qs ?_
     refine bg (bN ls row dn) _ (dT L ls g7 c7 iB iI iA iH++[_,_,_,_,_]) 6 4 (s:=18) (k:=7) (ex:=(min n 138-11)) rfl rfl ok.each a1 a3 a2 a4 i4 a5 (show(18:Int)=((18:Nat):Int) by first|rfl|exact(Int.toNat_of_nonneg j6.1).symm) rfl rfl rfl fun g' c' h'=>?_
     refine Qs ?_
     refine RO.same (i+(min n 138),dn++[(18,(min n 138-11),7)],g',c') ⟨by omega,by rw[List.length_append,List.length_singleton];omega,a6,h'⟩ (show L.length-(i+(min n 138))<L.length-i by omega) (aI rfl (aI rfl (aI (congrArg (AV.int .i64) (show _=((i+(min n 138):Nat):Int) by omega)) trivial))) (aI rfl (aI rfl (aI rfl (aI rfl (aI rfl (aI rfl (aI trivial (aI rfl (aI trivial (aI trivial (aI rfl (aI rfl (aI rfl (aI rfl (aI trivial (aI rfl (aI rfl (trivial))))))))))))))))))
    ·have z2:¬11≤n:=by have z2:¬(11:Int)≤(n:Int):=of_decide_eq_false z2;omega
     refine Qs ?_
     refine And.intro (fun z3=>?_) (fun z3=>?_)
     rotate_left
     ·exact absurd z1 (of_decide_eq_false z3)
     refine Qs ?_
     refine And.intro (fun z4=>?_) (fun z4=>?_)
     ·have z4:3≤n:=by have z4:(3:Int)≤(n:Int):=of_decide_eq_true z4;omega
      have hX:az L i n=((17,n-3,3),n):=by unfold az;rw[if_neg (fun x=>z2 x.2),if_pos ⟨z1,z4⟩]
      have eE:(n:Int)-3=((n-3:Nat):Int):=by omega
      refine Qs ?_
      rw[eE]
      obtain⟨a1,a2,a3,a4,a5,a6,a7⟩:=v5 ok hX dI i3 i2 hi n1 jc.2 fm
      refine aN.round (x:=kF l) ae mixed (i:=16) rfl (by kernel_rfl) rfl rfl ?_
      refine Qs ?_
      refine bg (bN ls row dn) _ (dT L ls g7 c7 iB iI iA iH++[_,_,_,_,_]) 6 4 (s:=17) (k:=3) (ex:=(n-3)) rfl rfl ok.each a1 a3 a2 a4 i4 a5 (show(17:Int)=((17:Nat):Int) by first|rfl|exact(Int.toNat_of_nonneg j6.1).symm) rfl rfl rfl fun g' c' h'=>?_
      refine Qs ?_
      refine RO.same (i+n,dn++[(17,(n-3),3)],g',c') ⟨by omega,by rw[List.length_append,List.length_singleton];omega,a6,h'⟩ (show L.length-(i+n)<L.length-i by omega) (aI rfl (aI rfl (aI (congrArg (AV.int .i64) (show _=((i+n:Nat):Int) by omega)) trivial))) (aI rfl (aI rfl (aI rfl (aI rfl (aI rfl (aI rfl (aI trivial (aI rfl (aI trivial (aI trivial (aI rfl (aI rfl (aI rfl (aI rfl (aI trivial (aI rfl (aI rfl (trivial))))))))))))))))))
     ·have z4:¬3≤n:=by have z4:¬(3:Int)≤(n:Int):=of_decide_eq_false z4;omega
      have c1:¬(L.getD i 0=0∧11≤n):=fun x=>z2 x.2
      have c2:¬(L.getD i 0=0∧3≤n):=fun x=>z4 x.2
      refine Qs ?_
      refine And.intro (fun y1=>?_) (fun y1=>?_)
      ·have y1:0<i:=by have y1:(0:Int)<(i:Int):=of_decide_eq_true y1;omega
       have ei:(i:Int)-1=((i-1:Nat):Int):=by omega
       have eg:L.getD (((i:Int)-1).toNat+0) 0=L.getD (i-1) 0:=by rw[ei];rfl
       refine Qs ?_
       refine And.intro (fun y2=>?_) (fun y2=>?_)
       ·have y2:L.getD (((i:Int)-1).toNat+0) 0=L.getD i 0:=of_decide_eq_true y2
        rw[eg]at y2
        refine Qs ?_
        refine And.intro (fun y3=>?_) (fun y3=>?_)
        ·have y3:3≤n:=by have y3:(3:Int)≤(n:Int):=of_decide_eq_true y3;omega
         have hX:az L i n=((16,min n 6-3,2),min n 6):=by unfold az;rw[if_neg c1,if_neg c2,if_pos ⟨y1,y2,y3⟩]
         have eE:min (n:Int) 6-3=((min n 6-3:Nat):Int):=by omega
         refine Qs ?_
         rw[eE]
         obtain⟨a1,a2,a3,a4,a5,a6,a7⟩:=v5 ok hX dI i3 i2 hi n1 jc.2 fm
         refine aN.round (x:=kF l) ae mixed (i:=16) rfl (by kernel_rfl) rfl rfl ?_
         refine Qs ?_
         refine bg (bN ls row dn) _ (dT L ls g7 c7 iB iI iA iH++[_,_,_,_,_]) 6 4 (s:=16) (k:=2) (ex:=(min n 6-3)) rfl rfl ok.each a1 a3 a2 a4 i4 a5 (show(16:Int)=((16:Nat):Int) by first|rfl|exact(Int.toNat_of_nonneg j6.1).symm) rfl rfl rfl fun g' c' h'=>?_
         refine Qs ?_
         refine RO.same (i+(min n 6),dn++[(16,(min n 6-3),2)],g',c') ⟨by omega,by rw[List.length_append,List.length_singleton];omega,a6,h'⟩ (show L.length-(i+(min n 6))<L.length-i by omega) (aI rfl (aI rfl (aI (congrArg (AV.int .i64) (show _=((i+(min n 6):Nat):Int) by omega)) trivial))) (aI rfl (aI rfl (aI rfl (aI rfl (aI rfl (aI rfl (aI trivial (aI rfl (aI trivial (aI trivial (aI rfl (aI rfl (aI rfl (aI rfl (aI trivial (aI rfl (aI rfl (trivial))))))))))))))))))
        ·have y3:¬3≤n:=by have y3:¬(3:Int)≤(n:Int):=of_decide_eq_false y3;omega
         have hX:az L i n=(((L.getD i 0).toNat,0,0),1):=by unfold az;rw[if_neg c1,if_neg c2,if_neg (fun x=>y3 x.2.2)]
         refine Qs ?_
         obtain⟨a1,a2,a3,a4,a5,a6,a7⟩:=v5 ok hX dI i3 i2 hi n1 jc.2 fm
         refine aN.round (x:=kF l) ae mixed (i:=16) rfl (by kernel_rfl) rfl rfl ?_
         refine Qs ?_
         refine bg (bN ls row dn) _ (dT L ls g7 c7 iB iI iA iH++[_,_,_,_,_]) 6 4 (s:=(L.getD i 0).toNat) (k:=0) (ex:=0) rfl rfl ok.each a1 a3 a2 a4 i4 a5 (show L.getD ((i:Int).toNat+0) 0=(((L.getD i 0).toNat:Nat):Int) by first|rfl|exact(Int.toNat_of_nonneg j6.1).symm) rfl rfl rfl fun g' c' h'=>?_
         refine Qs ?_
         refine RO.same (i+1,dn++[((L.getD i 0).toNat,0,0)],g',c') ⟨by omega,by rw[List.length_append,List.length_singleton];omega,a6,h'⟩ (show L.length-(i+1)<L.length-i by omega) (aI rfl (aI rfl (aI (congrArg (AV.int .i64) (show _=((i+1:Nat):Int) by omega)) trivial))) (aI rfl (aI rfl (aI rfl (aI rfl (aI rfl (aI rfl (aI trivial (aI rfl (aI trivial (aI trivial (aI rfl (aI rfl (aI rfl (aI rfl (aI trivial (aI rfl (aI rfl (trivial))))))))))))))))))
       ·have y2:¬L.getD (((i:Int)-1).toNat+0) 0=L.getD i 0:=of_decide_eq_false y2
        rw[eg]at y2
        have hX:az L i n=(((L.getD i 0).toNat,0,0),1):=by unfold az;rw[if_neg c1,if_neg c2,if_neg (fun x=>y2 x.2.1)]
        refine Qs ?_
        obtain⟨a1,a2,a3,a4,a5,a6,a7⟩:=v5 ok hX dI i3 i2 hi n1 jc.2 fm
        refine aN.round (x:=kF l) ae mixed (i:=16) rfl (by kernel_rfl) rfl rfl ?_
        refine Qs ?_
        refine bg (bN ls row dn) _ (dT L ls g7 c7 iB iI iA iH++[_,_,_,_,_]) 6 4 (s:=(L.getD i 0).toNat) (k:=0) (ex:=0) rfl rfl ok.each a1 a3 a2 a4 i4 a5 (show L.getD ((i:Int).toNat+0) 0=(((L.getD i 0).toNat:Nat):Int) by first|rfl|exact(Int.toNat_of_nonneg j6.1).symm) rfl rfl rfl fun g' c' h'=>?_
        refine Qs ?_
        refine RO.same (i+1,dn++[((L.getD i 0).toNat,0,0)],g',c') ⟨by omega,by rw[List.length_append,List.length_singleton];omega,a6,h'⟩ (show L.length-(i+1)<L.length-i by omega) (aI rfl (aI rfl (aI (congrArg (AV.int .i64) (show _=((i+1:Nat):Int) by omega)) trivial))) (aI rfl (aI rfl (aI rfl (aI rfl (aI rfl (aI rfl (aI trivial (aI rfl (aI trivial (aI trivial (aI rfl (aI rfl (aI rfl (aI rfl (aI trivial (aI rfl (aI rfl (trivial))))))))))))))))))
      ·have y1:¬0<i:=by have y1:¬(0:Int)<(i:Int):=of_decide_eq_false y1;omega
       have hX:az L i n=(((L.getD i 0).toNat,0,0),1):=by unfold az;rw[if_neg c1,if_neg c2,if_neg (fun x=>y1 x.1)]
       refine Qs ?_
       obtain⟨a1,a2,a3,a4,a5,a6,a7⟩:=v5 ok hX dI i3 i2 hi n1 jc.2 fm
       refine aN.round (x:=kF l) ae mixed (i:=16) rfl (by kernel_rfl) rfl rfl ?_
       refine Qs ?_
       refine bg (bN ls row dn) _ (dT L ls g7 c7 iB iI iA iH++[_,_,_,_,_]) 6 4 (s:=(L.getD i 0).toNat) (k:=0) (ex:=0) rfl rfl ok.each a1 a3 a2 a4 i4 a5 (show L.getD ((i:Int).toNat+0) 0=(((L.getD i 0).toNat:Nat):Int) by first|rfl|exact(Int.toNat_of_nonneg j6.1).symm) rfl rfl rfl fun g' c' h'=>?_
       refine Qs ?_
       refine RO.same (i+1,dn++[((L.getD i 0).toNat,0,0)],g',c') ⟨by omega,by rw[List.length_append,List.length_singleton];omega,a6,h'⟩ (show L.length-(i+1)<L.length-i by omega) (aI rfl (aI rfl (aI (congrArg (AV.int .i64) (show _=((i+1:Nat):Int) by omega)) trivial))) (aI rfl (aI rfl (aI rfl (aI rfl (aI rfl (aI rfl (aI trivial (aI rfl (aI trivial (aI trivial (aI rfl (aI rfl (aI rfl (aI rfl (aI trivial (aI rfl (aI rfl (trivial))))))))))))))))))
   ·have z1:¬L.getD i 0=0:=of_decide_eq_false z1
    have c1:¬(L.getD i 0=0∧11≤n):=fun x=>z1 x.1
    have c2:¬(L.getD i 0=0∧3≤n):=fun x=>z1 x.1
    refine Qs ?_
    refine And.intro (fun z3=>?_) (fun z3=>?_)
    ·exact absurd (of_decide_eq_true z3) z1
    refine Qs ?_
    refine And.intro (fun y1=>?_) (fun y1=>?_)
    ·have y1:0<i:=by have y1:(0:Int)<(i:Int):=of_decide_eq_true y1;omega
     have ei:(i:Int)-1=((i-1:Nat):Int):=by omega
     have eg:L.getD (((i:Int)-1).toNat+0) 0=L.getD (i-1) 0:=by rw[ei];rfl
     refine Qs ?_
     refine And.intro (fun y2=>?_) (fun y2=>?_)
     ·have y2:L.getD (((i:Int)-1).toNat+0) 0=L.getD i 0:=of_decide_eq_true y2
      rw[eg]at y2
      refine Qs ?_
      refine And.intro (fun y3=>?_) (fun y3=>?_)
      ·have y3:3≤n:=by have y3:(3:Int)≤(n:Int):=of_decide_eq_true y3;omega
       have hX:az L i n=((16,min n 6-3,2),min n 6):=by unfold az;rw[if_neg c1,if_neg c2,if_pos ⟨y1,y2,y3⟩]
       have eE:min (n:Int) 6-3=((min n 6-3:Nat):Int):=by omega
       refine Qs ?_
       rw[eE]
       obtain⟨a1,a2,a3,a4,a5,a6,a7⟩:=v5 ok hX dI i3 i2 hi n1 jc.2 fm
       refine aN.round (x:=kF l) ae mixed (i:=16) rfl (by kernel_rfl) rfl rfl ?_
       refine Qs ?_
       refine bg (bN ls row dn) _ (dT L ls g7 c7 iB iI iA iH++[_,_,_,_,_]) 6 4 (s:=16) (k:=2) (ex:=(min n 6-3)) rfl rfl ok.each a1 a3 a2 a4 i4 a5 (show(16:Int)=((16:Nat):Int) by first|rfl|exact(Int.toNat_of_nonneg j6.1).symm) rfl rfl rfl fun g' c' h'=>?_
       refine Qs ?_
       refine RO.same (i+(min n 6),dn++[(16,(min n 6-3),2)],g',c') ⟨by omega,by rw[List.length_append,List.length_singleton];omega,a6,h'⟩ (show L.length-(i+(min n 6))<L.length-i by omega) (aI rfl (aI rfl (aI (congrArg (AV.int .i64) (show _=((i+(min n 6):Nat):Int) by omega)) trivial))) (aI rfl (aI rfl (aI rfl (aI rfl (aI rfl (aI rfl (aI trivial (aI rfl (aI trivial (aI trivial (aI rfl (aI rfl (aI rfl (aI rfl (aI trivial (aI rfl (aI rfl (trivial))))))))))))))))))
      ·have y3:¬3≤n:=by have y3:¬(3:Int)≤(n:Int):=of_decide_eq_false y3;omega
       have hX:az L i n=(((L.getD i 0).toNat,0,0),1):=by unfold az;rw[if_neg c1,if_neg c2,if_neg (fun x=>y3 x.2.2)]
       refine Qs ?_
       obtain⟨a1,a2,a3,a4,a5,a6,a7⟩:=v5 ok hX dI i3 i2 hi n1 jc.2 fm
       refine aN.round (x:=kF l) ae mixed (i:=16) rfl (by kernel_rfl) rfl rfl ?_
       refine Qs ?_
       refine bg (bN ls row dn) _ (dT L ls g7 c7 iB iI iA iH++[_,_,_,_,_]) 6 4 (s:=(L.getD i 0).toNat) (k:=0) (ex:=0) rfl rfl ok.each a1 a3 a2 a4 i4 a5 (show L.getD ((i:Int).toNat+0) 0=(((L.getD i 0).toNat:Nat):Int) by first|rfl|exact(Int.toNat_of_nonneg j6.1).symm) rfl rfl rfl fun g' c' h'=>?_
       refine Qs ?_
       refine RO.same (i+1,dn++[((L.getD i 0).toNat,0,0)],g',c') ⟨by omega,by rw[List.length_append,List.length_singleton];omega,a6,h'⟩ (show L.length-(i+1)<L.length-i by omega) (aI rfl (aI rfl (aI (congrArg (AV.int .i64) (show _=((i+1:Nat):Int) by omega)) trivial))) (aI rfl (aI rfl (aI rfl (aI rfl (aI rfl (aI rfl (aI trivial (aI rfl (aI trivial (aI trivial (aI rfl (aI rfl (aI rfl (aI rfl (aI trivial (aI rfl (aI rfl (trivial))))))))))))))))))
     ·have y2:¬L.getD (((i:Int)-1).toNat+0) 0=L.getD i 0:=of_decide_eq_false y2
      rw[eg]at y2
      have hX:az L i n=(((L.getD i 0).toNat,0,0),1):=by unfold az;rw[if_neg c1,if_neg c2,if_neg (fun x=>y2 x.2.1)]
      refine Qs ?_
      obtain⟨a1,a2,a3,a4,a5,a6,a7⟩:=v5 ok hX dI i3 i2 hi n1 jc.2 fm
      refine aN.round (x:=kF l) ae mixed (i:=16) rfl (by kernel_rfl) rfl rfl ?_
      refine Qs ?_
      refine bg (bN ls row dn) _ (dT L ls g7 c7 iB iI iA iH++[_,_,_,_,_]) 6 4 (s:=(L.getD i 0).toNat) (k:=0) (ex:=0) rfl rfl ok.each a1 a3 a2 a4 i4 a5 (show L.getD ((i:Int).toNat+0) 0=(((L.getD i 0).toNat:Nat):Int) by first|rfl|exact(Int.toNat_of_nonneg j6.1).symm) rfl rfl rfl fun g' c' h'=>?_
      refine Qs ?_
      refine RO.same (i+1,dn++[((L.getD i 0).toNat,0,0)],g',c') ⟨by omega,by rw[List.length_append,List.length_singleton];omega,a6,h'⟩ (show L.length-(i+1)<L.length-i by omega) (aI rfl (aI rfl (aI (congrArg (AV.int .i64) (show _=((i+1:Nat):Int) by omega)) trivial))) (aI rfl (aI rfl (aI rfl (aI rfl (aI rfl (aI rfl (aI trivial (aI rfl (aI trivial (aI trivial (aI rfl (aI rfl (aI rfl (aI rfl (aI trivial (aI rfl (aI rfl (trivial))))))))))))))))))
    ·have y1:¬0<i:=by have y1:¬(0:Int)<(i:Int):=of_decide_eq_false y1;omega
     have hX:az L i n=(((L.getD i 0).toNat,0,0),1):=by unfold az;rw[if_neg c1,if_neg c2,if_neg (fun x=>y1 x.1)]
     refine Qs ?_
     obtain⟨a1,a2,a3,a4,a5,a6,a7⟩:=v5 ok hX dI i3 i2 hi n1 jc.2 fm
     refine aN.round (x:=kF l) ae mixed (i:=16) rfl (by kernel_rfl) rfl rfl ?_
     refine Qs ?_
     refine bg (bN ls row dn) _ (dT L ls g7 c7 iB iI iA iH++[_,_,_,_,_]) 6 4 (s:=(L.getD i 0).toNat) (k:=0) (ex:=0) rfl rfl ok.each a1 a3 a2 a4 i4 a5 (show L.getD ((i:Int).toNat+0) 0=(((L.getD i 0).toNat:Nat):Int) by first|rfl|exact(Int.toNat_of_nonneg j6.1).symm) rfl rfl rfl fun g' c' h'=>?_
     refine Qs ?_
     refine RO.same (i+1,dn++[((L.getD i 0).toNat,0,0)],g',c') ⟨by omega,by rw[List.length_append,List.length_singleton];omega,a6,h'⟩ (show L.length-(i+1)<L.length-i by omega) (aI rfl (aI rfl (aI (congrArg (AV.int .i64) (show _=((i+1:Nat):Int) by omega)) trivial))) (aI rfl (aI rfl (aI rfl (aI rfl (aI rfl (aI rfl (aI trivial (aI rfl (aI trivial (aI trivial (aI rfl (aI rfl (aI rfl (aI rfl (aI trivial (aI rfl (aI rfl (trivial))))))))))))))))))
 ·have hi:¬i<L.length:=by have q1:¬(i:Int)<(L.length:Int):=of_decide_eq_false q1;omega
  have XK:dn=bl L:=by
   rw[←i3,show L.length-i=0 by omega];exact(List.append_nil dn).symm
  refine Qs ?_
  refine Or.inl (And.intro rfl ?_)
  subst XK
  refine Qs ?_
  refine m9.mk ⟨(g,c),i4⟩ (aI rfl (trivial)) (aI rfl (aI rfl (aI rfl (aI rfl (aI rfl (aI rfl (aI trivial (aI trivial (aI trivial (aI trivial (aI trivial (aI trivial (aI trivial (aI trivial (aI trivial (trivial))))))))))))))))
end
end Go.Proofs.Ytibadaomjlkoaaa
open Go.RowKit
namespace Go.Proofs.Ytibadaomjlkoaaa
set_option maxRecDepth 10000
section
variable{K Kp:AV→AH→Prop}{ts:List Tk}{gt ct:Nat}
set_option maxHeartbeats 4000000 in
theorem Kb {g0 c0:Nat}(lX:∀t∈ts,Oa t)(lY:ts.length≤150000)(A0:ts.length≤ct)
 (h:∀g c ga ca gd cd,(aP (dB ts (eW ts) (eV ts))).length≤c→K (.aL []) (gq (dX ts gt ct (eW ts) ga ca (eV ts) gd cd) (dB ts (eW ts) (eV ts)) g c)):
 aa Try.prog 17 [.ptr 0 0 0] (w3 ts gt ct g0 c0) K Kp:=by
 have bk:=zk lX lY
 obtain⟨A,hA⟩:∃A,eW ts=A:=⟨_,rfl⟩
 obtain⟨D,hD⟩:∃D,eV ts=D:=⟨_,rfl⟩
 rw[hA,hD]at h bk
 obtain⟨L,hL⟩:∃L,A++D=L:=⟨_,rfl⟩
 have ON:=bk.al
 have RC:=bk.dl
 have jc:258≤L.length∧L.length≤316:=by rw[←hL,List.length_append];omega
 have KV:∀x∈L,0≤x∧x<16:=by
  intro x hx
  rw[←hL]at hx
  rcases List.mem_append.1 hx with h|h
  ·exact bk.ab x h
  ·exact bk.db x h
 obtain⟨hle,ok⟩:=yg jc.2 KV
 obtain⟨ls,CJ⟩:∃ls,KL L=ls:=⟨_,rfl⟩
 obtain⟨N,hN⟩:∃N,nL L=N:=⟨_,rfl⟩
 have Uj:=I2 L
 have Wm:iT ls 15 19=N:=by rw[←hN,←CJ];rfl
 have XX:nL (A++D)=N:=by rw[hL];exact hN
 rw[CJ]at hle ok
 rw[hN]at Uj
 obtain⟨row,dJ⟩:∃row,gQ A D++eB ls N=row:=⟨_,rfl⟩
 have pe:row.length≤74:=by rw[←dJ,List.length_append,kp];have:=tZ ls N;omega
 have hrB:=p6 ok (bl L) (fun x hx=>hx)
 have W7:(bl L).length≤L.length:=nD L L.length 0
 have JM:dB ts A D=row++eQ ls (bl L)++(bh A D ts++aQ A 256):=by
  unfold dB;rw[hL,CJ,hN,dJ]
 refine aa.cU ?_
 refine aa.QG (x:=RR) ae mixed Try.func17 (rfl:Try.f17.body=some px) (by kernel_rfl) E5 rfl rfl rfl rfl ?_
 refine WA.cut (x:=RR) ae mixed (Yp L) (Ys ts gt ct g0 c0 A D L) (fun _=>rfl) (fun _=>rfl) (fun _=>⟨rfl,trivial,fun j=>rfl,rfl,trivial,trivial,trivial,trivial,trivial,rfl,trivial⟩) 5 _ _ E5 (Ym lX lY A0 hA hD hL bk) fun s1 d1=>?_
 obtain⟨ga,ca,gd,cd,g7,c7⟩:=s1
 refine WA.cut (x:=VK) ae mixed (Yo L N g7 c7) (Ws ts gt ct g0 c0 A D L ls ga ca gd cd g7 c7) (fun _=>rfl) (fun _=>rfl) (fun _=>⟨rfl,trivial,fun j=>rfl,rfl,trivial,trivial,trivial,trivial,trivial,trivial,trivial,rfl,trivial,rfl,trivial,trivial⟩) 4 _ _ (by kernel_rfl) (Yl Wm hle ok d1) fun s2 d2=>?_
 obtain⟨iB,iI,iA,iH⟩:=s2
 refine WA.cut (x:=VJ) ae mixed (Yn L g7 c7) (Yr ts gt ct A D L ls (gQ A D++eB ls N) ga ca gd cd g7 c7 iB iI iA iH) (fun _=>rfl) (fun _=>rfl) (fun _=>⟨rfl,trivial,fun j=>rfl,rfl,trivial,trivial,trivial,trivial,trivial,trivial,trivial,rfl,trivial,rfl,trivial,trivial⟩) 5 _ _ (by kernel_rfl) (Yk Uj XX ON RC ok d2) fun s3 d3=>?_
 obtain⟨⟨g3,c3⟩,h3⟩:=s3
 refine WA.cut (x:=NY) ae mixed ZD (ZE ts gt ct A D (bN ls (gQ A D++eB ls N) (bl L)) ga ca gd cd) (fun _=>rfl) (fun _=>rfl) (fun _=>⟨rfl,trivial,fun j=>rfl,rfl,trivial,trivial,trivial,trivial,trivial,trivial,trivial,trivial,trivial,trivial,trivial,trivial⟩) 1 _ _ (by kernel_rfl) (Yj jc KV (by rw[dJ];exact pe) ok _ d3) fun s4 d4=>?_
 obtain⟨⟨g4,c4⟩,h4⟩:=s4
 refine WA.last (x:=NY) ae mixed (by kernel_rfl) ?_
 have V5:bN ls (gQ A D++eB ls N) (bl L)=row++eQ ls (bl L):=by rw[dJ,tH]
 have X5:∀x∈A,0≤x∧x<256:=fun x hx=>by have:=bk.ab x hx;omega
 have X2:∀x∈D,0≤x∧x<256:=fun x hx=>by have:=bk.db x hx;omega
 have h4:(aP (bN ls (gQ A D++eB ls N) (bl L))).length≤c4:=h4
 have hl4:(bN ls (gQ A D++eB ls N) (bl L)).length≤8000:=by rw[V5,List.length_append];omega
 rw[←V5]at JM
 obtain⟨R,hR⟩:∃R,bN ls (gQ A D++eB ls N) (bl L)=R:=⟨_,rfl⟩
 rw[hR]at h4 hl4 JM
 show av NY (kh 1 (kh 5 (kh 4 (kh 5 px)))) _ _ (lS [(1,.ptr 3 0 0)] d4) (vB ts gt ct A ga ca D gd cd (bN ls (gQ A D++eB ls N) (bl L)) g4 c4++[AO.gone,AO.gone,AO.gone,AO.gone,AO.gone,AO.gone,AO.gone,AO.gone,AO.gone])
 rw[hR]
 refine Qs ?_
 refine aa.lift [.own 0,.own 1,.own 2,.own 4,.own 5] (uY (ts:=ts) (gt:=gt) (ct:=ct) (A:=A) (ga:=ga) (ca:=ca) (D:=D) (gd:=gd) (cd:=cd) (row:=R) (g:=g4) (c:=c4)
  (K:=fun r N=>∃g c,(aP (R++(bh A D ts++aQ A 256))).length≤c∧r=.aL []∧N=gq (dX ts gt ct A ga ca D gd cd) (R++(bh A D ts++aQ A 256)) g c) (Kp:=fun _ _=>False) bk.ea bk.ed X5 X2 (by omega) (by omega) bk.fin bk.Ww lY A0
  (by omega) h4 (fun g c hc=>⟨g,c,hc,rfl,rfl⟩)) rfl rfl ⟨⟨rfl,rfl⟩,⟨rfl,rfl⟩,⟨rfl,rfl⟩,⟨rfl,rfl⟩,⟨rfl,rfl⟩,trivial⟩ ⟨rfl,trivial,fun j=>rfl,trivial,trivial,trivial⟩ ?_ (fun _ _ h=>h.elim)
 rintro r M' ⟨g,c,hc,rfl,rfl⟩
 refine⟨⟨rfl,rfl,rfl,rfl,rfl,rfl⟩,?_⟩
 rw[JM]at h
 refine Qs ?_
 refine⟨[.own 0,.own 1,.own 2,.own 4,.own 5],.aL [],gq (dX ts gt ct A ga ca D gd cd) (R++(bh A D ts++aQ A 256)) g c,⟨⟨⟨rfl,rfl⟩,⟨rfl,rfl⟩,⟨rfl,rfl⟩,⟨rfl,rfl⟩,⟨rfl,rfl⟩,trivial⟩,rfl,⟨rfl,trivial,fun j=>rfl,trivial,trivial,trivial⟩,rfl,fun i hi=>?_⟩,?_⟩
 ·match i,hi with
  |0,_=>exact .inl rfl
  |1,_=>exact .inl rfl
  |2,_=>exact .inl rfl
 ·exact h g c ga ca gd cd hc
end
end Go.Proofs.Ytibadaomjlkoaaa
