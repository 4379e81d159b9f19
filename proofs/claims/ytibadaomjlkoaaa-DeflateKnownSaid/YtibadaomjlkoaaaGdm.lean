import Derived.Test.YtibadaomjlkoaaaGdl
set_option linter.unusedVariables false
set_option linter.unusedSimpArgs false
open Go.RowKit
namespace Go.Proofs.Ytibadaomjlkoaaa
set_option maxRecDepth 10000
def bG (ls:List Int)(row:List Bool)(dn:List (Nat×Nat×Nat)):List Bool:=dn.foldl (fun r x=>r++Fw ls x) row
theorem sP (ls:List Int):∀(dn:List (Nat×Nat×Nat))(row:List Bool),bG ls row dn=row++eF ls dn
 |[],row=>(List.append_nil row).symm
 |x::dn,row=>by
  show bG ls (row++Fw ls x) dn=_
  rw[sP ls dn,List.append_assoc];rfl
theorem Bl (ls:List Int)(row:List Bool)(dn:List (Nat×Nat×Nat))(x:Nat×Nat×Nat):bG ls row (dn++[x])=bG ls row dn++Fw ls x:=by
 unfold bG;rw[List.foldl_append];rfl
noncomputable abbrev ke (l:Nat):Cx:={Gu (fun _=>[0,3,10,11,13]) []with r:=some l}
theorem vx {L ls:List Int}{row:List Bool}{dn:List (Nat×Nat×Nat)}{i n S E K N:Nat}(ok:mG L ls)(hX:ay L i n=((S,E,K),N))(dz:cF L (L.length-i) i=(ay L i n).1::cF L (L.length-(i+(ay L i n).2)) (i+(ay L i n).2))(i3:dn++cF L (L.length-i) i=bf L)(i2:dn.length≤i)(hi:i<L.length)(n1:1≤n)(hl:L.length≤316)(hr:row.length≤74):
 ja ls ((S:Nat):Int)∧E<2^K∧K≤24∧(bG ls row dn).length+15+K≤8388608∧bG ls row dn++(aV ls ((S:Nat):Int)++bitsOf ((E:Nat):Int) K)=bG ls row (dn++[(S,E,K)])∧(dn++[(S,E,K)])++cF L (L.length-(i+N)) (i+N)=bf L∧1≤N∧N≤n:=by
 have Er:=px L i n n1
 rw[hX]at dz Er
 obtain⟨hC,UE,Wb⟩:=ok.rows (S,E,K) (by rw[←i3,dz];exact List.mem_append_right _ List.mem_cons_self)
 have Ys:=pw ok dn (fun x hx=>by rw[←i3];exact List.mem_append_left _ hx)
 have hK3:K≤7:=Wb
 refine⟨hC,UE,by omega,by rw[sP,List.length_append];omega,(Bl ls row dn (S,E,K)).symm,by rw[←i3,dz,List.append_assoc];rfl,Er⟩
section
variable{ts:List Tk}{gt ct:Nat}{A D L ls:List Int}
def WB (L:List Int)(N g7 c7:Nat)(s:Nat×Nat×Nat×Nat):List (Nat×AV):=[(1,.ptr 3 0 0),(2,.sl 7 g7 0 L.length c7),(5,.ptr 11 0 0),(7,.ptr 13 0 0),(9,.sl 14 0 0 N 19)]
def dT (L ls:List Int)(g7 c7 gZ ia gY hZ:Nat):AH:=
 [AO.gone,AO.one true g7 (.ints .u8 L c7),AO.gone,AO.gone,AO.one true gZ (.ints .u8 ls ia),AO.one true 0 (.cells [.sl 10 gZ 0 ls.length ia]),AO.one true gY (.ints .u16 (aw ls).1 hZ),AO.one true 0 (.cells [.sl 12 gY 0 (aw ls).1.length hZ])]
def UI (ts:List Tk)(gt ct g0 c0:Nat)(A D L ls:List Int)(ga ca gd cd g7 c7:Nat)(s:Nat×Nat×Nat×Nat):AH:=
 uZ ts gt ct A ga ca D gd cd [] g0 c0++(dT L ls g7 c7 s.1 s.2.1 s.2.2.1 s.2.2.2++[AO.one true 0 (.ints .i64 aP 19)])
noncomputable abbrev T1:Cx:=Gu (fun _=>[0,3,10,11,14]) []
set_option maxHeartbeats 4000000 in
theorem Wx {Q:iT→AA→AH→Prop}{Kp:AV→AH→Prop}{g0 c0 ga ca gd cd g7 c7:Nat}{N:Nat}(UC:iA ls 15 19=N)(hle:bh (tZ (bf L)) 7=(ls,0))(ok:mG L ls)(d0:Nat→Value):
 rK T1 (mw (WB L N g7 c7) (UI ts gt ct g0 c0 A D L ls ga ca gd cd g7 c7)) Q Kp 4 (jJ 5 oM) (lj (WC L (ga,ca,gd,cd,g7,c7)) d0) (WG ts gt ct g0 c0 A D L (ga,ca,gd,cd,g7,c7)):=by
 have yS:=ym (bf L)
 have Ir:=ok.len
 obtain⟨Y6,EC⟩:=hJ ok.each
 refine Qs ?_
 refine ot (i:=8) (fr:=tZ (bf L)) rfl yS.symm (by rw[yS];decide) fun gZ ia V0=>?_
 rw[hle]at V0⊢
 refine Qs ?_
 refine uw (i:=10) (ls:=ls) rfl rfl (by rw[Ir];decide) (fun x hx=>by have:=ok.Nr x hx;omega) fun gY hZ Y9=>?_
 rw[Y6]
 refine Qs ?_
 refine WO.go (σ:=Nat) (fun n=>4≤n∧n≤19∧iA ls (n-4) n=iA ls 15 19) (fun n=>n)
  (fun n=>[(1,.ptr 3 0 0),(2,.sl 7 g7 0 L.length c7),(5,.ptr 11 0 0),(7,.ptr 13 0 0),(9,.sl 14 0 0 n 19)])
  (fun _=>UI ts gt ct g0 c0 A D L ls ga ca gd cd g7 c7 (gZ,ia,gY,hZ))
  19 ag mixed (by kernel_rfl) ⟨by decide,by decide,rfl⟩ (aI rfl (aI rfl (aI rfl (aI rfl (aI rfl (trivial)))))) (aI rfl (aI rfl (aI rfl (aI rfl (aI rfl (aI rfl (aI trivial (aI rfl (aI trivial (aI trivial (aI rfl (aI rfl (aI rfl (aI rfl (aI rfl (trivial)))))))))))))))) (fun _=>rfl) (fun _=>rfl) (fun _=>⟨rfl,trivial,fun j=>rfl,rfl,trivial,trivial,trivial,trivial,trivial,trivial,trivial,rfl,trivial,rfl,trivial,trivial⟩) ?_
 rintro n ⟨n1,n2,n3⟩ dO
 have Im:aP.length=19:=rfl
 have Yx:=ta (((n:Int)-1).toNat+0)
 have Ex:0≤ls.getD ((aP.getD (((n:Int)-1).toNat+0) 0).toNat+0) 0∧ls.getD ((aP.getD (((n:Int)-1).toNat+0) 0).toNat+0) 0<8:=by
  rw[List.getD_eq_getElem?_getD,List.getElem?_eq_getElem (show(aP.getD (((n:Int)-1).toNat+0) 0).toNat+0<ls.length by omega)]
  exact ok.Nr _ (List.getElem_mem _)
 have e0:((n:Int)-1).toNat+0=n-1:=by omega
 refine Qs ?_
 refine And.intro (fun q1=>?_) (fun q1=>?_)
 ·have hm:4<n:=by have q1:(4:Int)<(n:Int):=of_decide_eq_true q1;omega
  have Qz:iA ls (n-4) n=if 4<n∧ls.getD (aP.getD (n-1) 0).toNat 0=0 then iA ls (n-5) (n-1)else n:=by
   rw[show n-4=n-5+1 by omega];rfl
  refine Qs ?_
  refine And.intro (fun q2=>?_) (fun q2=>?_)
  ·have q2:ls.getD ((aP.getD (((n:Int)-1).toNat+0) 0).toNat+0) 0=0:=of_decide_eq_true q2
   rw[e0,Nat.add_zero]at q2
   rw[if_pos ⟨hm,q2⟩]at Qz
   refine Qs ?_
   refine RO.same (n-1) ⟨by omega,by omega,by rw[←n3,Qz];rfl⟩ (show n-1<n by omega) (aI rfl (aI rfl (aI rfl (aI rfl (aI ?_ trivial))))) (aI rfl (aI rfl (aI rfl (aI rfl (aI rfl (aI rfl (aI trivial (aI rfl (aI trivial (aI trivial (aI rfl (aI rfl (aI rfl (aI rfl (aI rfl (trivial))))))))))))))))
   show AV.sl 14 0 0 ((n:Int)-1).toNat 19=AV.sl 14 0 0 (n-1) 19
   rw[show((n:Int)-1).toNat=n-1 by omega]
  ·have q2:¬ls.getD ((aP.getD (((n:Int)-1).toNat+0) 0).toNat+0) 0=0:=of_decide_eq_false q2
   rw[e0,Nat.add_zero]at q2
   rw[if_neg (fun x=>q2 x.2)]at Qz
   have hN:n=N:=by rw[←UC,←n3,Qz]
   refine Qs ?_
   refine mw.mk (gZ,ia,gY,hZ) (aI rfl (aI rfl (aI rfl (aI rfl (aI (congrArg (fun k=>AV.sl 14 0 0 k 19) hN) trivial))))) (aI rfl (aI rfl (aI rfl (aI rfl (aI rfl (aI rfl (aI trivial (aI rfl (aI trivial (aI trivial (aI rfl (aI rfl (aI rfl (aI rfl (aI rfl (trivial))))))))))))))))
 ·have hm:¬4<n:=by have q1:¬(4:Int)<(n:Int):=of_decide_eq_false q1;omega
  have hN:n=N:=by
   rw[←UC,←n3,show n-4=0 by omega];rfl
  refine Qs ?_
  refine mw.mk (gZ,ia,gY,hZ) (aI rfl (aI rfl (aI rfl (aI rfl (aI (congrArg (fun k=>AV.sl 14 0 0 k 19) hN) trivial))))) (aI rfl (aI rfl (aI rfl (aI rfl (aI rfl (aI rfl (aI trivial (aI rfl (aI trivial (aI trivial (aI rfl (aI rfl (aI rfl (aI rfl (aI rfl (trivial))))))))))))))))
theorem lW {K Kp:AV→AH→Prop}{ga ca gd cd g c:Nat}(row va:List Bool)(E:AH){v' v n:Int}{k:Nat}(hn:n=(k:Int))(hv:v'=v)(h0:0≤v∧v<2^k)(hk:k≤24)(hr:row.length+k≤8388608)(dA:row++bitsOf v k=va)(hc:(aN row).length≤c)
 (h:∀g' c',(aN va).length≤c'→K (.int .i64 0) (uZ ts gt ct A ga ca D gd cd va g' c'++E)):
 aa Try.prog 40 [.ptr 0 0 0,.int .u32 v',.int .i64 n] (uZ ts gt ct A ga ca D gd cd row g c++E) K Kp:=by
 subst hn hv
 refine Ke E h0.1 (by omega) hc fun g' c' h'=>?_
 rw[xN hk h0.2 hr,dA]at h'⊢
 exact h g' c' h'
def Wz (L:List Int)(g7 c7:Nat){P:Nat×Nat→Prop}(s:{p:Nat×Nat//P p}):List (Nat×AV):=[(1,.ptr 3 0 0),(2,.sl 7 g7 0 L.length c7),(5,.ptr 11 0 0),(7,.ptr 13 0 0)]
def WE (ts:List Tk)(gt ct:Nat)(A D L ls:List Int)(row:List Bool)(ga ca gd cd g7 c7 gZ ia gY hZ:Nat)(s:{p:Nat×Nat//(aN row).length≤p.2}):AH:=
 uZ ts gt ct A ga ca D gd cd row s.1.1 s.1.2++(dT L ls g7 c7 gZ ia gY hZ++[AO.gone])
noncomputable abbrev T0:Cx:=Gu (fun _=>[0,3,10,11,14]) []
set_option maxHeartbeats 4000000 in
theorem Ww {Q:iT→AA→AH→Prop}{Kp:AV→AH→Prop}{g0 c0 ga ca gd cd g7 c7 gZ ia gY hZ N:Nat}(SD:4≤N∧N≤19)(V9:nL (A++D)=N)(Ng:257≤A.length∧A.length≤286)(P4:1≤D.length∧D.length≤30)(ok:mG L ls)(d0:Nat→Value):
 rK T0 (mw (Wz L g7 c7) (WE ts gt ct A D L ls (gq A D++dZ ls N) ga ca gd cd g7 c7 gZ ia gY hZ)) Q Kp 5 (jJ 9 oM) (lj (WB L N g7 c7 (gZ,ia,gY,hZ)) d0) (UI ts gt ct g0 c0 A D L ls ga ca gd cd g7 c7 (gZ,ia,gY,hZ)):=by
 have Zt:(A.length:Int)-257=((A.length-257:Nat):Int):=by omega
 have e1:(D.length:Int)-1=((D.length-1:Nat):Int):=by omega
 refine Qs ?_
 refine lW [] (bitsOf 5 3) (dT L ls g7 c7 gZ ia gY hZ++[AO.one true 0 (.ints .i64 aP 19)]) (v:=5) (k:=3) rfl rfl (by decide) (by decide) (by decide) rfl (Nat.zero_le _) fun g1 c1 h1=>?_
 refine Qs ?_
 refine lW (bitsOf 5 3) (bitsOf 5 3++bitsOf ((A.length-257:Nat):Int) 5) (dT L ls g7 c7 gZ ia gY hZ++[AO.one true 0 (.ints .i64 aP 19)]) (v:=((A.length-257:Nat):Int)) (k:=5) rfl (by omega) (by omega) (by decide) (by rw[ai];decide) rfl h1 fun g2 c2 h2=>?_
 refine Qs ?_
 refine lW (bitsOf 5 3++bitsOf ((A.length-257:Nat):Int) 5) (bitsOf 5 3++bitsOf ((A.length-257:Nat):Int) 5++bitsOf ((D.length-1:Nat):Int) 5) (dT L ls g7 c7 gZ ia gY hZ++[AO.one true 0 (.ints .i64 aP 19)]) (v:=((D.length-1:Nat):Int)) (k:=5) rfl (by omega) (by omega) (by decide) (by simp only[List.length_append,ai];decide) rfl h2 fun g3 c3 h3=>?_
 refine Qs ?_
 refine lW (bitsOf 5 3++bitsOf ((A.length-257:Nat):Int) 5++bitsOf ((D.length-1:Nat):Int) 5) (gq A D++dZ ls 0) (dT L ls g7 c7 gZ ia gY hZ++[AO.one true 0 (.ints .i64 aP 19)]) (v:=((N-4:Nat):Int)) (k:=4) rfl (by omega) (by omega) (by decide) (by simp only[List.length_append,ai];decide) (by rw[show dZ ls 0=[]from rfl,List.append_nil];unfold gq;rw[V9]) h3 fun g4 c4 h4=>?_
 refine Qs ?_
 refine WO.go (σ:=Nat×Nat×Nat) (fun(i,g,c)=>i≤N∧(aN (gq A D++dZ ls i)).length≤c) (fun(i,_,_)=>N-i)
  (fun(i,_,_)=>[(1,.ptr 3 0 0),(2,.sl 7 g7 0 L.length c7),(5,.ptr 11 0 0),(7,.ptr 13 0 0),(101,.sl 14 0 0 N 19),(102,.int .i64 (N:Int)),(103,.int .i64 (i:Int))])
  (fun(i,g,c)=>uZ ts gt ct A ga ca D gd cd (gq A D++dZ ls i) g c++(dT L ls g7 c7 gZ ia gY hZ++[AO.one true 0 (.ints .i64 aP 19)])) (0,g4,c4) ag mixed (by kernel_rfl)
  ⟨Nat.zero_le _,h4⟩ (aI rfl (aI rfl (aI rfl (aI rfl (aI rfl (aI rfl (aI rfl (trivial)))))))) (aI rfl (aI rfl (aI rfl (aI rfl (aI rfl (aI rfl (aI trivial (aI rfl (aI trivial (aI trivial (aI rfl (aI rfl (aI rfl (aI rfl (aI rfl (trivial)))))))))))))))) (fun _=>rfl) (fun _=>rfl) (fun _=>⟨rfl,trivial,fun j=>rfl,rfl,trivial,trivial,trivial,trivial,trivial,trivial,trivial,rfl,trivial,rfl,trivial,trivial⟩) ?_
 rintro⟨i,g,c⟩ ⟨i1,i2⟩ dP
 have Im:aP.length=19:=rfl
 have Yx:=ta ((i:Int).toNat+0)
 have Ir:=ok.len
 have Ex:0≤ls.getD ((aP.getD ((i:Int).toNat+0) 0).toNat+0) 0∧ls.getD ((aP.getD ((i:Int).toNat+0) 0).toNat+0) 0<8:=by
  rw[List.getD_eq_getElem?_getD,List.getElem?_eq_getElem (show(aP.getD ((i:Int).toNat+0) 0).toNat+0<ls.length by omega)]
  exact ok.Nr _ (List.getElem_mem _)
 have yk:=tc ls i
 have QH:=jP A D
 refine Qs ?_
 refine And.intro (fun q1=>?_) (fun q1=>?_)
 ·have hi:i<N:=by have q1:(i:Int)<(N:Int):=of_decide_eq_true q1;omega
  refine Qs ?_
  have RH:=FC ls (i:=i) (by omega)
  refine lW (gq A D++dZ ls i) (gq A D++dZ ls (i+1)) (dT L ls g7 c7 gZ ia gY hZ++[AO.one true 0 (.ints .i64 aP 19)]) (v:=ls.getD ((aP.getD ((i:Int).toNat+0) 0).toNat+0) 0) (k:=3) rfl (by omega) Ex (by decide) (by rw[List.length_append];omega) (by rw[RH,List.append_assoc];rfl) i2 fun g' c' h'=>?_
  refine Qs ?_
  refine RO.same (i+1,g',c') ⟨hi,h'⟩ (show N-(i+1)<N-i by omega) (aI rfl (aI rfl (aI rfl (aI rfl (aI rfl (aI rfl (aI rfl (trivial)))))))) (aI rfl (aI rfl (aI rfl (aI rfl (aI rfl (aI rfl (aI trivial (aI rfl (aI trivial (aI trivial (aI rfl (aI rfl (aI rfl (aI rfl (aI rfl (trivial))))))))))))))))
 ·have hi:i=N:=by have q1:¬(i:Int)<(N:Int):=of_decide_eq_false q1;omega
  subst hi
  refine Qs ?_
  refine mw.mk ⟨(g,c),i2⟩ (aI rfl (aI rfl (aI rfl (aI rfl (trivial))))) (aI rfl (aI rfl (aI rfl (aI rfl (aI rfl (aI rfl (aI trivial (aI rfl (aI trivial (aI trivial (aI rfl (aI rfl (aI rfl (aI rfl (aI trivial (trivial))))))))))))))))
theorem bb {K Kp:AV→AH→Prop}{ga ca gd cd g c:Nat}(row va:List Bool)(E:AH)(i j:Nat){o o2:Bool}{g5 co c3 g6 fc c4 s k ex:Nat}{s' e' k':Int}(hi:E[i]?=some (.one o g5 (.ints .u16 (aw ls).1 co)))(hj:E[j]?=some (.one o2 g6 (.ints .u8 ls fc)))(he:aE ls=0)(hs:ja ls (s:Int))(hk:k≤24)(hex:ex<2^k)(hr:row.length+15+k≤8388608)(hc:(aN row).length≤c)
 (dA:row++(aV ls s++bitsOf (ex:Int) k)=va)(h1:s'=(s:Int))(h2:e'=(ex:Int))(h3:k'=(k:Int))
 (oU:(bB [.own 0,.own 1,.own 2,.own 4,.own 5,.ep (i+6) g5 0,.ep (j+6) g6 0]&&AV.oT [.own 0,.own 1,.own 2,.own 4,.own 5,.ep (i+6) g5 0,.ep (j+6) g6 0] [.ptr 0 0 0,.sl 5 0 0 (aw ls).1.length c3,.sl 6 0 0 ls.length c4,.agg [.int .i64 s',.int .i64 e',.int .i64 k']])=true)
 (h:∀g' c',(aN va).length≤c'→K (.aG []) (uZ ts gt ct A ga ca D gd cd va g' c'++E)):
 aa Try.prog 48 [.ptr 0 0 0,.sl (i+6) g5 0 (aw ls).1.length c3,.sl (j+6) g6 0 ls.length c4,.agg [.int .i64 s',.int .i64 e',.int .i64 k']] (uZ ts gt ct A ga ca D gd cd row g c++E) K Kp:=by
 subst h1 h2 h3 dA
 exact I9 E i j hi hj he hs hk ⟨Int.natCast_nonneg _,by exact_mod_cast hex⟩ hr hc oU h
def XW {P:Nat×Nat→Prop}(s:{p:Nat×Nat//P p}):List (Nat×AV):=[(1,.ptr 3 0 0)]
def XX (ts:List Tk)(gt ct:Nat)(A D:List Int)(row:List Bool)(ga ca gd cd:Nat)(s:{p:Nat×Nat//(aN row).length≤p.2}):AH:=uZ ts gt ct A ga ca D gd cd row s.1.1 s.1.2++[AO.gone,AO.gone,AO.gone,AO.gone,AO.gone,AO.gone,AO.gone,AO.gone,AO.gone]
noncomputable abbrev Ms:Cx:=Gu (fun _=>[0,3,10,11,13]) []
set_option maxHeartbeats 8000000 in
theorem Wv {Q:iT→AA→AH→Prop}{Kp:AV→AH→Prop}{row:List Bool}{ga ca gd cd g7 c7 gZ ia gY hZ:Nat}(iJ:258≤L.length∧L.length≤316)(JL:∀x∈L,0≤x∧x<16)(ov:row.length≤74)(ok:mG L ls)(s:{p:Nat×Nat//(aN row).length≤p.2})(d0:Nat→Value):
 rK Ms (mw XW (XX ts gt ct A D (bG ls row (bf L)) ga ca gd cd)) Q Kp 1 (jJ 14 oM) (lj (Wz L g7 c7 s) d0) (WE ts gt ct A D L ls row ga ca gd cd g7 c7 gZ ia gY hZ s):=by
 obtain⟨⟨g0,c0⟩,YO⟩:=s
 have SF:∀i,i<L.length→0≤L.getD i 0∧L.getD i 0<16:=by
  intro i hi
  rw[List.getD_eq_getElem?_getD,List.getElem?_eq_getElem hi,Option.getD_some]
  exact JL _ (List.getElem_mem hi)
 have eW:=ov
 refine Qs ?_
 refine G8 (fun _=>[]) [] rfl ?_
 refine Qs ?_
 refine WO.range rfl rfl [(1,.ptr 3 0 0),(5,.ptr 11 0 0),(7,.ptr 13 0 0)] (aI rfl (aI rfl (aI rfl (trivial)))) fun l fn df d=>?_
 refine G6 (fun _=>[7,15]) [] rfl ?_
 refine Qs ?_
 refine WO.go (σ:=Nat×List (Nat×Nat×Nat)×Nat×Nat) (fun(i,dn,g,c)=>i≤L.length∧dn.length≤i∧dn++cF L (L.length-i) i=bf L∧(aN (bG ls row dn)).length≤c) (fun(i,_,_,_)=>L.length-i)
  (fun(i,_,_,_)=>[(0,.fn (.yield l) [] []),(1,.ptr 15 0 0),(3,.int .i64 (i:Int))]) (fun(i,dn,g,c)=>uZ ts gt ct A ga ca D gd cd (bG ls row dn) g c++(dT L ls g7 c7 gZ ia gY hZ++[AO.gone,AO.one true 0 (.cells [.sl 7 g7 0 L.length c7]),AO.one true 0 (.loop l .ready none fn _ _ _ _ _ df)])) (0,[],g0,c0) ag mixed (by kernel_rfl) ⟨Nat.zero_le _,Nat.le_refl _,rfl,YO⟩ (aI rfl (aI rfl (aI rfl (trivial)))) (aI rfl (aI rfl (aI rfl (aI rfl (aI rfl (aI rfl (aI trivial (aI rfl (aI trivial (aI trivial (aI rfl (aI rfl (aI rfl (aI rfl (aI trivial (aI rfl (aI rfl (trivial)))))))))))))))))) (fun _=>rfl) (fun _=>rfl) (fun _=>⟨rfl,trivial,fun j=>rfl,rfl,trivial,trivial,trivial,trivial,trivial,trivial,trivial,rfl,trivial,rfl,trivial,rfl,xW rfl,trivial⟩) ?_
 rintro⟨i,dn,g,c⟩ ⟨i1,i2,i3,i4⟩ d2
 refine Qs ?_
 refine And.intro (fun q1=>?_) (fun q1=>?_)
 ·have hi:i<L.length:=by have q1:(i:Int)<(L.length:Int):=of_decide_eq_true q1;omega
  have ov:=mS L i L.length 1 (by omega)
  have dz:=oa hi
  refine Qs ?_
  refine WO.go (σ:=Nat) (fun n=>1≤n∧i+n≤L.length∧runN L i (L.length-(n-1)) n=runN L i L.length 1) (fun n=>L.length-n)
   (fun n=>[(0,.fn (.yield l) [] []),(1,.ptr 15 0 0),(3,.int .i64 (i:Int)),(4,.int .i64 (n:Int))]) (fun _=>uZ ts gt ct A ga ca D gd cd (bG ls row dn) g c++(dT L ls g7 c7 gZ ia gY hZ++[AO.gone,AO.one true 0 (.cells [.sl 7 g7 0 L.length c7]),AO.one true 0 (.loop l .ready none fn _ _ _ _ _ df)])) 1 ag mixed (by kernel_rfl) ⟨Nat.le_refl _,hi,rfl⟩ (aI rfl (aI rfl (aI rfl (aI rfl (trivial))))) (aI rfl (aI rfl (aI rfl (aI rfl (aI rfl (aI rfl (aI trivial (aI rfl (aI trivial (aI trivial (aI rfl (aI rfl (aI rfl (aI rfl (aI trivial (aI rfl (aI rfl (trivial)))))))))))))))))) (fun _=>rfl) (fun _=>rfl) (fun _=>⟨rfl,trivial,fun j=>rfl,rfl,trivial,trivial,trivial,trivial,trivial,trivial,trivial,rfl,trivial,rfl,trivial,rfl,xW rfl,trivial⟩) ?_
  rintro n ⟨n1,n2,n3⟩ d3
  have Wa:=iJ
  refine Qs ?_
  refine And.intro (fun q2=>?_) (fun q2=>?_)
  ·have h2:i+n<L.length:=by have q2:(i:Int)+(n:Int)<(L.length:Int):=of_decide_eq_true q2;omega
   refine Qs ?_
   refine And.intro (fun q3=>?_) (fun q3=>?_)
   ·have h3:L.getD (i+n) 0=L.getD i 0:=of_decide_eq_true q3
    refine Qs ?_
    refine RO.same (n+1) ⟨by omega,h2,?_⟩ (show L.length-(n+1)<L.length-n by omega) (aI rfl (aI rfl (aI rfl (aI rfl (trivial))))) (aI rfl (aI rfl (aI rfl (aI rfl (aI rfl (aI rfl (aI trivial (aI rfl (aI trivial (aI trivial (aI rfl (aI rfl (aI rfl (aI rfl (aI trivial (aI rfl (aI rfl (trivial))))))))))))))))))
    rw[←n3,show L.length-(n-1)=(L.length-(n+1-1))+1 by omega,runN,if_pos ⟨h2,h3⟩]
   ·have h3:¬L.getD (i+n) 0=L.getD i 0:=of_decide_eq_false q3
    have hn:runN L i L.length 1=n:=by
     rw[←n3,show L.length-(n-1)=(L.length-(n+1-1))+1 by omega,runN,if_neg (fun x=>h3 x.2)]
    rw[hn]at dz
    have jC:0≤L.getD ((i:Int).toNat+0) 0∧L.getD ((i:Int).toNat+0) 0<16:=SF i hi
    refine Qs ?_
    refine And.intro (fun z1=>?_) (fun z1=>?_)
    ·have z1:L.getD i 0=0:=of_decide_eq_true z1
     refine Qs ?_
     refine And.intro (fun z2=>?_) (fun z2=>?_)
     ·have z2:11≤n:=by have z2:(11:Int)≤(n:Int):=of_decide_eq_true z2;omega
      have hX:ay L i n=((18,min n 138-11,7),min n 138):=by unfold ay;rw[if_pos ⟨z1,z2⟩]
      have eE:min (n:Int) 138-11=((min n 138-11:Nat):Int):=by omega
      refine Qs ?_
      rw[eE]
      obtain⟨a1,a2,a3,a4,a5,a6,a7⟩:=vx ok hX dz i3 i2 hi n1 iJ.2 eW
      refine aL.round (x:=ke l) ag mixed (i:=16) rfl (by kernel_rfl) rfl rfl ?_
      refine Qs ?_
      refine bb (bG ls row dn) _ (dT L ls g7 c7 gZ ia gY hZ++[_,_,_,_,_]) 6 4 (s:=18) (k:=7) (ex:=(min n 138-11)) rfl rfl ok.each a1 a3 a2 a4 i4 a5 (show(18:Int)=((18:Nat):Int) by first|rfl|exact(Int.toNat_of_nonneg jC.1).symm) rfl rfl rfl fun g' c' h'=>?_
      refine Qs ?_
      refine RO.same (i+(min n 138),dn++[(18,(min n 138-11),7)],g',c') ⟨by omega,by rw[List.length_append,List.length_singleton];omega,a6,h'⟩ (show L.length-(i+(min n 138))<L.length-i by omega) (aI rfl (aI rfl (aI (congrArg (AV.int .i64) (show _=((i+(min n 138):Nat):Int) by omega)) trivial))) (aI rfl (aI rfl (aI rfl (aI rfl (aI rfl (aI rfl (aI trivial (aI rfl (aI trivial (aI trivial (aI rfl (aI rfl (aI rfl (aI rfl (aI trivial (aI rfl (aI rfl (trivial))))))))))))))))))
     ·have z2:¬11≤n:=by have z2:¬(11:Int)≤(n:Int):=of_decide_eq_false z2;omega
      refine Qs ?_
      refine And.intro (fun z3=>?_) (fun z3=>?_)
      rotate_left
      ·exact absurd z1 (of_decide_eq_false z3)
      refine Qs ?_
      refine And.intro (fun z4=>?_) (fun z4=>?_)
      ·have z4:3≤n:=by have z4:(3:Int)≤(n:Int):=of_decide_eq_true z4;omega
       have hX:ay L i n=((17,n-3,3),n):=by unfold ay;rw[if_neg (fun x=>z2 x.2),if_pos ⟨z1,z4⟩]
       have eE:(n:Int)-3=((n-3:Nat):Int):=by omega
       refine Qs ?_
       rw[eE]
       obtain⟨a1,a2,a3,a4,a5,a6,a7⟩:=vx ok hX dz i3 i2 hi n1 iJ.2 eW
       refine aL.round (x:=ke l) ag mixed (i:=16) rfl (by kernel_rfl) rfl rfl ?_
       refine Qs ?_
       refine bb (bG ls row dn) _ (dT L ls g7 c7 gZ ia gY hZ++[_,_,_,_,_]) 6 4 (s:=17) (k:=3) (ex:=(n-3)) rfl rfl ok.each a1 a3 a2 a4 i4 a5 (show(17:Int)=((17:Nat):Int) by first|rfl|exact(Int.toNat_of_nonneg jC.1).symm) rfl rfl rfl fun g' c' h'=>?_
       refine Qs ?_
       refine RO.same (i+n,dn++[(17,(n-3),3)],g',c') ⟨by omega,by rw[List.length_append,List.length_singleton];omega,a6,h'⟩ (show L.length-(i+n)<L.length-i by omega) (aI rfl (aI rfl (aI (congrArg (AV.int .i64) (show _=((i+n:Nat):Int) by omega)) trivial))) (aI rfl (aI rfl (aI rfl (aI rfl (aI rfl (aI rfl (aI trivial (aI rfl (aI trivial (aI trivial (aI rfl (aI rfl (aI rfl (aI rfl (aI trivial (aI rfl (aI rfl (trivial))))))))))))))))))
      ·have z4:¬3≤n:=by have z4:¬(3:Int)≤(n:Int):=of_decide_eq_false z4;omega
       have c1:¬(L.getD i 0=0∧11≤n):=fun x=>z2 x.2
       have c2:¬(L.getD i 0=0∧3≤n):=fun x=>z4 x.2
       refine Qs ?_
       refine And.intro (fun y1=>?_) (fun y1=>?_)
       ·have y1:0<i:=by have y1:(0:Int)<(i:Int):=of_decide_eq_true y1;omega
        have ei:(i:Int)-1=((i-1:Nat):Int):=by omega
        have eg:L.getD (((i:Int)-1).toNat+0) 0=L.getD (i-1) 0:=by rw[ei];rfl
        refine Qs ?_
        refine And.intro (fun y2=>?_) (fun y2=>?_)
        ·have y2:L.getD (((i:Int)-1).toNat+0) 0=L.getD i 0:=of_decide_eq_true y2
         rw[eg]at y2
         refine Qs ?_
         refine And.intro (fun y3=>?_) (fun y3=>?_)
         ·have y3:3≤n:=by have y3:(3:Int)≤(n:Int):=of_decide_eq_true y3;omega
          have hX:ay L i n=((16,min n 6-3,2),min n 6):=by unfold ay;rw[if_neg c1,if_neg c2,if_pos ⟨y1,y2,y3⟩]
          have eE:min (n:Int) 6-3=((min n 6-3:Nat):Int):=by omega
          refine Qs ?_
          rw[eE]
          obtain⟨a1,a2,a3,a4,a5,a6,a7⟩:=vx ok hX dz i3 i2 hi n1 iJ.2 eW
          refine aL.round (x:=ke l) ag mixed (i:=16) rfl (by kernel_rfl) rfl rfl ?_
          refine Qs ?_
          refine bb (bG ls row dn) _ (dT L ls g7 c7 gZ ia gY hZ++[_,_,_,_,_]) 6 4 (s:=16) (k:=2) (ex:=(min n 6-3)) rfl rfl ok.each a1 a3 a2 a4 i4 a5 (show(16:Int)=((16:Nat):Int) by first|rfl|exact(Int.toNat_of_nonneg jC.1).symm) rfl rfl rfl fun g' c' h'=>?_
          refine Qs ?_
          refine RO.same (i+(min n 6),dn++[(16,(min n 6-3),2)],g',c') ⟨by omega,by rw[List.length_append,List.length_singleton];omega,a6,h'⟩ (show L.length-(i+(min n 6))<L.length-i by omega) (aI rfl (aI rfl (aI (congrArg (AV.int .i64) (show _=((i+(min n 6):Nat):Int) by omega)) trivial))) (aI rfl (aI rfl (aI rfl (aI rfl (aI rfl (aI rfl (aI trivial (aI rfl (aI trivial (aI trivial (aI rfl (aI rfl (aI rfl (aI rfl (aI trivial (aI rfl (aI rfl (trivial))))))))))))))))))
         ·have y3:¬3≤n:=by have y3:¬(3:Int)≤(n:Int):=of_decide_eq_false y3;omega
          have hX:ay L i n=(((L.getD i 0).toNat,0,0),1):=by unfold ay;rw[if_neg c1,if_neg c2,if_neg (fun x=>y3 x.2.2)]
          refine Qs ?_
          obtain⟨a1,a2,a3,a4,a5,a6,a7⟩:=vx ok hX dz i3 i2 hi n1 iJ.2 eW
          refine aL.round (x:=ke l) ag mixed (i:=16) rfl (by kernel_rfl) rfl rfl ?_
          refine Qs ?_
          refine bb (bG ls row dn) _ (dT L ls g7 c7 gZ ia gY hZ++[_,_,_,_,_]) 6 4 (s:=(L.getD i 0).toNat) (k:=0) (ex:=0) rfl rfl ok.each a1 a3 a2 a4 i4 a5 (show L.getD ((i:Int).toNat+0) 0=(((L.getD i 0).toNat:Nat):Int) by first|rfl|exact(Int.toNat_of_nonneg jC.1).symm) rfl rfl rfl fun g' c' h'=>?_
          refine Qs ?_
          refine RO.same (i+1,dn++[((L.getD i 0).toNat,0,0)],g',c') ⟨by omega,by rw[List.length_append,List.length_singleton];omega,a6,h'⟩ (show L.length-(i+1)<L.length-i by omega) (aI rfl (aI rfl (aI (congrArg (AV.int .i64) (show _=((i+1:Nat):Int) by omega)) trivial))) (aI rfl (aI rfl (aI rfl (aI rfl (aI rfl (aI rfl (aI trivial (aI rfl (aI trivial (aI trivial (aI rfl (aI rfl (aI rfl (aI rfl (aI trivial (aI rfl (aI rfl (trivial))))))))))))))))))
        ·have y2:¬L.getD (((i:Int)-1).toNat+0) 0=L.getD i 0:=of_decide_eq_false y2
         rw[eg]at y2
         have hX:ay L i n=(((L.getD i 0).toNat,0,0),1):=by unfold ay;rw[if_neg c1,if_neg c2,if_neg (fun x=>y2 x.2.1)]
         refine Qs ?_
         obtain⟨a1,a2,a3,a4,a5,a6,a7⟩:=vx ok hX dz i3 i2 hi n1 iJ.2 eW
         refine aL.round (x:=ke l) ag mixed (i:=16) rfl (by kernel_rfl) rfl rfl ?_
         refine Qs ?_
         refine bb (bG ls row dn) _ (dT L ls g7 c7 gZ ia gY hZ++[_,_,_,_,_]) 6 4 (s:=(L.getD i 0).toNat) (k:=0) (ex:=0) rfl rfl ok.each a1 a3 a2 a4 i4 a5 (show L.getD ((i:Int).toNat+0) 0=(((L.getD i 0).toNat:Nat):Int) by first|rfl|exact(Int.toNat_of_nonneg jC.1).symm) rfl rfl rfl fun g' c' h'=>?_
         refine Qs ?_
         refine RO.same (i+1,dn++[((L.getD i 0).toNat,0,0)],g',c') ⟨by omega,by rw[List.length_append,List.length_singleton];omega,a6,h'⟩ (show L.length-(i+1)<L.length-i by omega) (aI rfl (aI rfl (aI (congrArg (AV.int .i64) (show _=((i+1:Nat):Int) by omega)) trivial))) (aI rfl (aI rfl (aI rfl (aI rfl (aI rfl (aI rfl (aI trivial (aI rfl (aI trivial (aI trivial (aI rfl (aI rfl (aI rfl (aI rfl (aI trivial (aI rfl (aI rfl (trivial))))))))))))))))))
       ·have y1:¬0<i:=by have y1:¬(0:Int)<(i:Int):=of_decide_eq_false y1;omega
        have hX:ay L i n=(((L.getD i 0).toNat,0,0),1):=by unfold ay;rw[if_neg c1,if_neg c2,if_neg (fun x=>y1 x.1)]
        refine Qs ?_
        obtain⟨a1,a2,a3,a4,a5,a6,a7⟩:=vx ok hX dz i3 i2 hi n1 iJ.2 eW
        refine aL.round (x:=ke l) ag mixed (i:=16) rfl (by kernel_rfl) rfl rfl ?_
        refine Qs ?_
        refine bb (bG ls row dn) _ (dT L ls g7 c7 gZ ia gY hZ++[_,_,_,_,_]) 6 4 (s:=(L.getD i 0).toNat) (k:=0) (ex:=0) rfl rfl ok.each a1 a3 a2 a4 i4 a5 (show L.getD ((i:Int).toNat+0) 0=(((L.getD i 0).toNat:Nat):Int) by first|rfl|exact(Int.toNat_of_nonneg jC.1).symm) rfl rfl rfl fun g' c' h'=>?_
        refine Qs ?_
        refine RO.same (i+1,dn++[((L.getD i 0).toNat,0,0)],g',c') ⟨by omega,by rw[List.length_append,List.length_singleton];omega,a6,h'⟩ (show L.length-(i+1)<L.length-i by omega) (aI rfl (aI rfl (aI (congrArg (AV.int .i64) (show _=((i+1:Nat):Int) by omega)) trivial))) (aI rfl (aI rfl (aI rfl (aI rfl (aI rfl (aI rfl (aI trivial (aI rfl (aI trivial (aI trivial (aI rfl (aI rfl (aI rfl (aI rfl (aI trivial (aI rfl (aI rfl (trivial))))))))))))))))))
    ·have z1:¬L.getD i 0=0:=of_decide_eq_false z1
     have c1:¬(L.getD i 0=0∧11≤n):=fun x=>z1 x.1
     have c2:¬(L.getD i 0=0∧3≤n):=fun x=>z1 x.1
     refine Qs ?_
     refine And.intro (fun z3=>?_) (fun z3=>?_)
     ·exact absurd (of_decide_eq_true z3) z1
     refine Qs ?_
     refine And.intro (fun y1=>?_) (fun y1=>?_)
     ·have y1:0<i:=by have y1:(0:Int)<(i:Int):=of_decide_eq_true y1;omega
      have ei:(i:Int)-1=((i-1:Nat):Int):=by omega
      have eg:L.getD (((i:Int)-1).toNat+0) 0=L.getD (i-1) 0:=by rw[ei];rfl
      refine Qs ?_
      refine And.intro (fun y2=>?_) (fun y2=>?_)
      ·have y2:L.getD (((i:Int)-1).toNat+0) 0=L.getD i 0:=of_decide_eq_true y2
       rw[eg]at y2
       refine Qs ?_
       refine And.intro (fun y3=>?_) (fun y3=>?_)
       ·have y3:3≤n:=by have y3:(3:Int)≤(n:Int):=of_decide_eq_true y3;omega
        have hX:ay L i n=((16,min n 6-3,2),min n 6):=by unfold ay;rw[if_neg c1,if_neg c2,if_pos ⟨y1,y2,y3⟩]
        have eE:min (n:Int) 6-3=((min n 6-3:Nat):Int):=by omega
        refine Qs ?_
        rw[eE]
        obtain⟨a1,a2,a3,a4,a5,a6,a7⟩:=vx ok hX dz i3 i2 hi n1 iJ.2 eW
        refine aL.round (x:=ke l) ag mixed (i:=16) rfl (by kernel_rfl) rfl rfl ?_
        refine Qs ?_
        refine bb (bG ls row dn) _ (dT L ls g7 c7 gZ ia gY hZ++[_,_,_,_,_]) 6 4 (s:=16) (k:=2) (ex:=(min n 6-3)) rfl rfl ok.each a1 a3 a2 a4 i4 a5 (show(16:Int)=((16:Nat):Int) by first|rfl|exact(Int.toNat_of_nonneg jC.1).symm) rfl rfl rfl fun g' c' h'=>?_
        refine Qs ?_
        refine RO.same (i+(min n 6),dn++[(16,(min n 6-3),2)],g',c') ⟨by omega,by rw[List.length_append,List.length_singleton];omega,a6,h'⟩ (show L.length-(i+(min n 6))<L.length-i by omega) (aI rfl (aI rfl (aI (congrArg (AV.int .i64) (show _=((i+(min n 6):Nat):Int) by omega)) trivial))) (aI rfl (aI rfl (aI rfl (aI rfl (aI rfl (aI rfl (aI trivial (aI rfl (aI trivial (aI trivial (aI rfl (aI rfl (aI rfl (aI rfl (aI trivial (aI rfl (aI rfl (trivial))))))))))))))))))
       ·have y3:¬3≤n:=by have y3:¬(3:Int)≤(n:Int):=of_decide_eq_false y3;omega
        have hX:ay L i n=(((L.getD i 0).toNat,0,0),1):=by unfold ay;rw[if_neg c1,if_neg c2,if_neg (fun x=>y3 x.2.2)]
        refine Qs ?_
        obtain⟨a1,a2,a3,a4,a5,a6,a7⟩:=vx ok hX dz i3 i2 hi n1 iJ.2 eW
        refine aL.round (x:=ke l) ag mixed (i:=16) rfl (by kernel_rfl) rfl rfl ?_
        refine Qs ?_
        refine bb (bG ls row dn) _ (dT L ls g7 c7 gZ ia gY hZ++[_,_,_,_,_]) 6 4 (s:=(L.getD i 0).toNat) (k:=0) (ex:=0) rfl rfl ok.each a1 a3 a2 a4 i4 a5 (show L.getD ((i:Int).toNat+0) 0=(((L.getD i 0).toNat:Nat):Int) by first|rfl|exact(Int.toNat_of_nonneg jC.1).symm) rfl rfl rfl fun g' c' h'=>?_
        refine Qs ?_
        refine RO.same (i+1,dn++[((L.getD i 0).toNat,0,0)],g',c') ⟨by omega,by rw[List.length_append,List.length_singleton];omega,a6,h'⟩ (show L.length-(i+1)<L.length-i by omega) (aI rfl (aI rfl (aI (congrArg (AV.int .i64) (show _=((i+1:Nat):Int) by omega)) trivial))) (aI rfl (aI rfl (aI rfl (aI rfl (aI rfl (aI rfl (aI trivial (aI rfl (aI trivial (aI trivial (aI rfl (aI rfl (aI rfl (aI rfl (aI trivial (aI rfl (aI rfl (trivial))))))))))))))))))
      ·have y2:¬L.getD (((i:Int)-1).toNat+0) 0=L.getD i 0:=of_decide_eq_false y2
       rw[eg]at y2
       have hX:ay L i n=(((L.getD i 0).toNat,0,0),1):=by unfold ay;rw[if_neg c1,if_neg c2,if_neg (fun x=>y2 x.2.1)]
       refine Qs ?_
       obtain⟨a1,a2,a3,a4,a5,a6,a7⟩:=vx ok hX dz i3 i2 hi n1 iJ.2 eW
       refine aL.round (x:=ke l) ag mixed (i:=16) rfl (by kernel_rfl) rfl rfl ?_
       refine Qs ?_
       refine bb (bG ls row dn) _ (dT L ls g7 c7 gZ ia gY hZ++[_,_,_,_,_]) 6 4 (s:=(L.getD i 0).toNat) (k:=0) (ex:=0) rfl rfl ok.each a1 a3 a2 a4 i4 a5 (show L.getD ((i:Int).toNat+0) 0=(((L.getD i 0).toNat:Nat):Int) by first|rfl|exact(Int.toNat_of_nonneg jC.1).symm) rfl rfl rfl fun g' c' h'=>?_
       refine Qs ?_
       refine RO.same (i+1,dn++[((L.getD i 0).toNat,0,0)],g',c') ⟨by omega,by rw[List.length_append,List.length_singleton];omega,a6,h'⟩ (show L.length-(i+1)<L.length-i by omega) (aI rfl (aI rfl (aI (congrArg (AV.int .i64) (show _=((i+1:Nat):Int) by omega)) trivial))) (aI rfl (aI rfl (aI rfl (aI rfl (aI rfl (aI rfl (aI trivial (aI rfl (aI trivial (aI trivial (aI rfl (aI rfl (aI rfl (aI rfl (aI trivial (aI rfl (aI rfl (trivial))))))))))))))))))
     ·have y1:¬0<i:=by have y1:¬(0:Int)<(i:Int):=of_decide_eq_false y1;omega
      have hX:ay L i n=(((L.getD i 0).toNat,0,0),1):=by unfold ay;rw[if_neg c1,if_neg c2,if_neg (fun x=>y1 x.1)]
      refine Qs ?_
      obtain⟨a1,a2,a3,a4,a5,a6,a7⟩:=vx ok hX dz i3 i2 hi n1 iJ.2 eW
      refine aL.round (x:=ke l) ag mixed (i:=16) rfl (by kernel_rfl) rfl rfl ?_
      refine Qs ?_
      refine bb (bG ls row dn) _ (dT L ls g7 c7 gZ ia gY hZ++[_,_,_,_,_]) 6 4 (s:=(L.getD i 0).toNat) (k:=0) (ex:=0) rfl rfl ok.each a1 a3 a2 a4 i4 a5 (show L.getD ((i:Int).toNat+0) 0=(((L.getD i 0).toNat:Nat):Int) by first|rfl|exact(Int.toNat_of_nonneg jC.1).symm) rfl rfl rfl fun g' c' h'=>?_
      refine Qs ?_
      refine RO.same (i+1,dn++[((L.getD i 0).toNat,0,0)],g',c') ⟨by omega,by rw[List.length_append,List.length_singleton];omega,a6,h'⟩ (show L.length-(i+1)<L.length-i by omega) (aI rfl (aI rfl (aI (congrArg (AV.int .i64) (show _=((i+1:Nat):Int) by omega)) trivial))) (aI rfl (aI rfl (aI rfl (aI rfl (aI rfl (aI rfl (aI trivial (aI rfl (aI trivial (aI trivial (aI rfl (aI rfl (aI rfl (aI rfl (aI trivial (aI rfl (aI rfl (trivial))))))))))))))))))
  ·have h2:¬i+n<L.length:=by have q2:¬(i:Int)+(n:Int)<(L.length:Int):=of_decide_eq_false q2;omega
   have hn:runN L i L.length 1=n:=by
    rw[←n3,show L.length-(n-1)=(L.length-(n+1-1))+1 by omega,runN,if_neg (fun x=>h2 x.1)]
   rw[hn]at dz
   have jC:0≤L.getD ((i:Int).toNat+0) 0∧L.getD ((i:Int).toNat+0) 0<16:=SF i hi
   refine Qs ?_
   refine And.intro (fun z1=>?_) (fun z1=>?_)
   ·have z1:L.getD i 0=0:=of_decide_eq_true z1
    refine Qs ?_
    refine And.intro (fun z2=>?_) (fun z2=>?_)
    ·have z2:11≤n:=by have z2:(11:Int)≤(n:Int):=of_decide_eq_true z2;omega
     have hX:ay L i n=((18,min n 138-11,7),min n 138):=by unfold ay;rw[if_pos ⟨z1,z2⟩]
     have eE:min (n:Int) 138-11=((min n 138-11:Nat):Int):=by omega
     refine Qs ?_
     rw[eE]
     obtain⟨a1,a2,a3,a4,a5,a6,a7⟩:=vx ok hX dz i3 i2 hi n1 iJ.2 eW
     refine aL.round (x:=ke l) ag mixed (i:=16) rfl (by kernel_rfl) rfl rfl ?_
     refine Qs ?_
     refine bb (bG ls row dn) _ (dT L ls g7 c7 gZ ia gY hZ++[_,_,_,_,_]) 6 4 (s:=18) (k:=7) (ex:=(min n 138-11)) rfl rfl ok.each a1 a3 a2 a4 i4 a5 (show(18:Int)=((18:Nat):Int) by first|rfl|exact(Int.toNat_of_nonneg jC.1).symm) rfl rfl rfl fun g' c' h'=>?_
     refine Qs ?_
     refine RO.same (i+(min n 138),dn++[(18,(min n 138-11),7)],g',c') ⟨by omega,by rw[List.length_append,List.length_singleton];omega,a6,h'⟩ (show L.length-(i+(min n 138))<L.length-i by omega) (aI rfl (aI rfl (aI (congrArg (AV.int .i64) (show _=((i+(min n 138):Nat):Int) by omega)) trivial))) (aI rfl (aI rfl (aI rfl (aI rfl (aI rfl (aI rfl (aI trivial (aI rfl (aI trivial (aI trivial (aI rfl (aI rfl (aI rfl (aI rfl (aI trivial (aI rfl (aI rfl (trivial))))))))))))))))))
    ·have z2:¬11≤n:=by have z2:¬(11:Int)≤(n:Int):=of_decide_eq_false z2;omega
     refine Qs ?_
     refine And.intro (fun z3=>?_) (fun z3=>?_)
     rotate_left
     ·exact absurd z1 (of_decide_eq_false z3)
     refine Qs ?_
     refine And.intro (fun z4=>?_) (fun z4=>?_)
     ·have z4:3≤n:=by have z4:(3:Int)≤(n:Int):=of_decide_eq_true z4;omega
      have hX:ay L i n=((17,n-3,3),n):=by unfold ay;rw[if_neg (fun x=>z2 x.2),if_pos ⟨z1,z4⟩]
      have eE:(n:Int)-3=((n-3:Nat):Int):=by omega
      refine Qs ?_
      rw[eE]
      obtain⟨a1,a2,a3,a4,a5,a6,a7⟩:=vx ok hX dz i3 i2 hi n1 iJ.2 eW
      refine aL.round (x:=ke l) ag mixed (i:=16) rfl (by kernel_rfl) rfl rfl ?_
      refine Qs ?_
      refine bb (bG ls row dn) _ (dT L ls g7 c7 gZ ia gY hZ++[_,_,_,_,_]) 6 4 (s:=17) (k:=3) (ex:=(n-3)) rfl rfl ok.each a1 a3 a2 a4 i4 a5 (show(17:Int)=((17:Nat):Int) by first|rfl|exact(Int.toNat_of_nonneg jC.1).symm) rfl rfl rfl fun g' c' h'=>?_
      refine Qs ?_
      refine RO.same (i+n,dn++[(17,(n-3),3)],g',c') ⟨by omega,by rw[List.length_append,List.length_singleton];omega,a6,h'⟩ (show L.length-(i+n)<L.length-i by omega) (aI rfl (aI rfl (aI (congrArg (AV.int .i64) (show _=((i+n:Nat):Int) by omega)) trivial))) (aI rfl (aI rfl (aI rfl (aI rfl (aI rfl (aI rfl (aI trivial (aI rfl (aI trivial (aI trivial (aI rfl (aI rfl (aI rfl (aI rfl (aI trivial (aI rfl (aI rfl (trivial))))))))))))))))))
     ·have z4:¬3≤n:=by have z4:¬(3:Int)≤(n:Int):=of_decide_eq_false z4;omega
      have c1:¬(L.getD i 0=0∧11≤n):=fun x=>z2 x.2
      have c2:¬(L.getD i 0=0∧3≤n):=fun x=>z4 x.2
      refine Qs ?_
      refine And.intro (fun y1=>?_) (fun y1=>?_)
      ·have y1:0<i:=by have y1:(0:Int)<(i:Int):=of_decide_eq_true y1;omega
       have ei:(i:Int)-1=((i-1:Nat):Int):=by omega
       have eg:L.getD (((i:Int)-1).toNat+0) 0=L.getD (i-1) 0:=by rw[ei];rfl
       refine Qs ?_
       refine And.intro (fun y2=>?_) (fun y2=>?_)
       ·have y2:L.getD (((i:Int)-1).toNat+0) 0=L.getD i 0:=of_decide_eq_true y2
        rw[eg]at y2
        refine Qs ?_
        refine And.intro (fun y3=>?_) (fun y3=>?_)
        ·have y3:3≤n:=by have y3:(3:Int)≤(n:Int):=of_decide_eq_true y3;omega
         have hX:ay L i n=((16,min n 6-3,2),min n 6):=by unfold ay;rw[if_neg c1,if_neg c2,if_pos ⟨y1,y2,y3⟩]
         have eE:min (n:Int) 6-3=((min n 6-3:Nat):Int):=by omega
         refine Qs ?_
         rw[eE]
         obtain⟨a1,a2,a3,a4,a5,a6,a7⟩:=vx ok hX dz i3 i2 hi n1 iJ.2 eW
         refine aL.round (x:=ke l) ag mixed (i:=16) rfl (by kernel_rfl) rfl rfl ?_
         refine Qs ?_
         refine bb (bG ls row dn) _ (dT L ls g7 c7 gZ ia gY hZ++[_,_,_,_,_]) 6 4 (s:=16) (k:=2) (ex:=(min n 6-3)) rfl rfl ok.each a1 a3 a2 a4 i4 a5 (show(16:Int)=((16:Nat):Int) by first|rfl|exact(Int.toNat_of_nonneg jC.1).symm) rfl rfl rfl fun g' c' h'=>?_
         refine Qs ?_
         refine RO.same (i+(min n 6),dn++[(16,(min n 6-3),2)],g',c') ⟨by omega,by rw[List.length_append,List.length_singleton];omega,a6,h'⟩ (show L.length-(i+(min n 6))<L.length-i by omega) (aI rfl (aI rfl (aI (congrArg (AV.int .i64) (show _=((i+(min n 6):Nat):Int) by omega)) trivial))) (aI rfl (aI rfl (aI rfl (aI rfl (aI rfl (aI rfl (aI trivial (aI rfl (aI trivial (aI trivial (aI rfl (aI rfl (aI rfl (aI rfl (aI trivial (aI rfl (aI rfl (trivial))))))))))))))))))
        ·have y3:¬3≤n:=by have y3:¬(3:Int)≤(n:Int):=of_decide_eq_false y3;omega
         have hX:ay L i n=(((L.getD i 0).toNat,0,0),1):=by unfold ay;rw[if_neg c1,if_neg c2,if_neg (fun x=>y3 x.2.2)]
         refine Qs ?_
         obtain⟨a1,a2,a3,a4,a5,a6,a7⟩:=vx ok hX dz i3 i2 hi n1 iJ.2 eW
         refine aL.round (x:=ke l) ag mixed (i:=16) rfl (by kernel_rfl) rfl rfl ?_
         refine Qs ?_
         refine bb (bG ls row dn) _ (dT L ls g7 c7 gZ ia gY hZ++[_,_,_,_,_]) 6 4 (s:=(L.getD i 0).toNat) (k:=0) (ex:=0) rfl rfl ok.each a1 a3 a2 a4 i4 a5 (show L.getD ((i:Int).toNat+0) 0=(((L.getD i 0).toNat:Nat):Int) by first|rfl|exact(Int.toNat_of_nonneg jC.1).symm) rfl rfl rfl fun g' c' h'=>?_
         refine Qs ?_
         refine RO.same (i+1,dn++[((L.getD i 0).toNat,0,0)],g',c') ⟨by omega,by rw[List.length_append,List.length_singleton];omega,a6,h'⟩ (show L.length-(i+1)<L.length-i by omega) (aI rfl (aI rfl (aI (congrArg (AV.int .i64) (show _=((i+1:Nat):Int) by omega)) trivial))) (aI rfl (aI rfl (aI rfl (aI rfl (aI rfl (aI rfl (aI trivial (aI rfl (aI trivial (aI trivial (aI rfl (aI rfl (aI rfl (aI rfl (aI trivial (aI rfl (aI rfl (trivial))))))))))))))))))
       ·have y2:¬L.getD (((i:Int)-1).toNat+0) 0=L.getD i 0:=of_decide_eq_false y2
        rw[eg]at y2
        have hX:ay L i n=(((L.getD i 0).toNat,0,0),1):=by unfold ay;rw[if_neg c1,if_neg c2,if_neg (fun x=>y2 x.2.1)]
        refine Qs ?_
        obtain⟨a1,a2,a3,a4,a5,a6,a7⟩:=vx ok hX dz i3 i2 hi n1 iJ.2 eW
        refine aL.round (x:=ke l) ag mixed (i:=16) rfl (by kernel_rfl) rfl rfl ?_
        refine Qs ?_
        refine bb (bG ls row dn) _ (dT L ls g7 c7 gZ ia gY hZ++[_,_,_,_,_]) 6 4 (s:=(L.getD i 0).toNat) (k:=0) (ex:=0) rfl rfl ok.each a1 a3 a2 a4 i4 a5 (show L.getD ((i:Int).toNat+0) 0=(((L.getD i 0).toNat:Nat):Int) by first|rfl|exact(Int.toNat_of_nonneg jC.1).symm) rfl rfl rfl fun g' c' h'=>?_
        refine Qs ?_
        refine RO.same (i+1,dn++[((L.getD i 0).toNat,0,0)],g',c') ⟨by omega,by rw[List.length_append,List.length_singleton];omega,a6,h'⟩ (show L.length-(i+1)<L.length-i by omega) (aI rfl (aI rfl (aI (congrArg (AV.int .i64) (show _=((i+1:Nat):Int) by omega)) trivial))) (aI rfl (aI rfl (aI rfl (aI rfl (aI rfl (aI rfl (aI trivial (aI rfl (aI trivial (aI trivial (aI rfl (aI rfl (aI rfl (aI rfl (aI trivial (aI rfl (aI rfl (trivial))))))))))))))))))
      ·have y1:¬0<i:=by have y1:¬(0:Int)<(i:Int):=of_decide_eq_false y1;omega
       have hX:ay L i n=(((L.getD i 0).toNat,0,0),1):=by unfold ay;rw[if_neg c1,if_neg c2,if_neg (fun x=>y1 x.1)]
       refine Qs ?_
       obtain⟨a1,a2,a3,a4,a5,a6,a7⟩:=vx ok hX dz i3 i2 hi n1 iJ.2 eW
       refine aL.round (x:=ke l) ag mixed (i:=16) rfl (by kernel_rfl) rfl rfl ?_
       refine Qs ?_
       refine bb (bG ls row dn) _ (dT L ls g7 c7 gZ ia gY hZ++[_,_,_,_,_]) 6 4 (s:=(L.getD i 0).toNat) (k:=0) (ex:=0) rfl rfl ok.each a1 a3 a2 a4 i4 a5 (show L.getD ((i:Int).toNat+0) 0=(((L.getD i 0).toNat:Nat):Int) by first|rfl|exact(Int.toNat_of_nonneg jC.1).symm) rfl rfl rfl fun g' c' h'=>?_
       refine Qs ?_
       refine RO.same (i+1,dn++[((L.getD i 0).toNat,0,0)],g',c') ⟨by omega,by rw[List.length_append,List.length_singleton];omega,a6,h'⟩ (show L.length-(i+1)<L.length-i by omega) (aI rfl (aI rfl (aI (congrArg (AV.int .i64) (show _=((i+1:Nat):Int) by omega)) trivial))) (aI rfl (aI rfl (aI rfl (aI rfl (aI rfl (aI rfl (aI trivial (aI rfl (aI trivial (aI trivial (aI rfl (aI rfl (aI rfl (aI rfl (aI trivial (aI rfl (aI rfl (trivial))))))))))))))))))
   ·have z1:¬L.getD i 0=0:=of_decide_eq_false z1
    have c1:¬(L.getD i 0=0∧11≤n):=fun x=>z1 x.1
    have c2:¬(L.getD i 0=0∧3≤n):=fun x=>z1 x.1
    refine Qs ?_
    refine And.intro (fun z3=>?_) (fun z3=>?_)
    ·exact absurd (of_decide_eq_true z3) z1
    refine Qs ?_
    refine And.intro (fun y1=>?_) (fun y1=>?_)
    ·have y1:0<i:=by have y1:(0:Int)<(i:Int):=of_decide_eq_true y1;omega
     have ei:(i:Int)-1=((i-1:Nat):Int):=by omega
     have eg:L.getD (((i:Int)-1).toNat+0) 0=L.getD (i-1) 0:=by rw[ei];rfl
     refine Qs ?_
     refine And.intro (fun y2=>?_) (fun y2=>?_)
     ·have y2:L.getD (((i:Int)-1).toNat+0) 0=L.getD i 0:=of_decide_eq_true y2
      rw[eg]at y2
      refine Qs ?_
      refine And.intro (fun y3=>?_) (fun y3=>?_)
      ·have y3:3≤n:=by have y3:(3:Int)≤(n:Int):=of_decide_eq_true y3;omega
       have hX:ay L i n=((16,min n 6-3,2),min n 6):=by unfold ay;rw[if_neg c1,if_neg c2,if_pos ⟨y1,y2,y3⟩]
       have eE:min (n:Int) 6-3=((min n 6-3:Nat):Int):=by omega
       refine Qs ?_
       rw[eE]
       obtain⟨a1,a2,a3,a4,a5,a6,a7⟩:=vx ok hX dz i3 i2 hi n1 iJ.2 eW
       refine aL.round (x:=ke l) ag mixed (i:=16) rfl (by kernel_rfl) rfl rfl ?_
       refine Qs ?_
       refine bb (bG ls row dn) _ (dT L ls g7 c7 gZ ia gY hZ++[_,_,_,_,_]) 6 4 (s:=16) (k:=2) (ex:=(min n 6-3)) rfl rfl ok.each a1 a3 a2 a4 i4 a5 (show(16:Int)=((16:Nat):Int) by first|rfl|exact(Int.toNat_of_nonneg jC.1).symm) rfl rfl rfl fun g' c' h'=>?_
       refine Qs ?_
       refine RO.same (i+(min n 6),dn++[(16,(min n 6-3),2)],g',c') ⟨by omega,by rw[List.length_append,List.length_singleton];omega,a6,h'⟩ (show L.length-(i+(min n 6))<L.length-i by omega) (aI rfl (aI rfl (aI (congrArg (AV.int .i64) (show _=((i+(min n 6):Nat):Int) by omega)) trivial))) (aI rfl (aI rfl (aI rfl (aI rfl (aI rfl (aI rfl (aI trivial (aI rfl (aI trivial (aI trivial (aI rfl (aI rfl (aI rfl (aI rfl (aI trivial (aI rfl (aI rfl (trivial))))))))))))))))))
      ·have y3:¬3≤n:=by have y3:¬(3:Int)≤(n:Int):=of_decide_eq_false y3;omega
       have hX:ay L i n=(((L.getD i 0).toNat,0,0),1):=by unfold ay;rw[if_neg c1,if_neg c2,if_neg (fun x=>y3 x.2.2)]
       refine Qs ?_
       obtain⟨a1,a2,a3,a4,a5,a6,a7⟩:=vx ok hX dz i3 i2 hi n1 iJ.2 eW
       refine aL.round (x:=ke l) ag mixed (i:=16) rfl (by kernel_rfl) rfl rfl ?_
       refine Qs ?_
       refine bb (bG ls row dn) _ (dT L ls g7 c7 gZ ia gY hZ++[_,_,_,_,_]) 6 4 (s:=(L.getD i 0).toNat) (k:=0) (ex:=0) rfl rfl ok.each a1 a3 a2 a4 i4 a5 (show L.getD ((i:Int).toNat+0) 0=(((L.getD i 0).toNat:Nat):Int) by first|rfl|exact(Int.toNat_of_nonneg jC.1).symm) rfl rfl rfl fun g' c' h'=>?_
       refine Qs ?_
       refine RO.same (i+1,dn++[((L.getD i 0).toNat,0,0)],g',c') ⟨by omega,by rw[List.length_append,List.length_singleton];omega,a6,h'⟩ (show L.length-(i+1)<L.length-i by omega) (aI rfl (aI rfl (aI (congrArg (AV.int .i64) (show _=((i+1:Nat):Int) by omega)) trivial))) (aI rfl (aI rfl (aI rfl (aI rfl (aI rfl (aI rfl (aI trivial (aI rfl (aI trivial (aI trivial (aI rfl (aI rfl (aI rfl (aI rfl (aI trivial (aI rfl (aI rfl (trivial))))))))))))))))))
     ·have y2:¬L.getD (((i:Int)-1).toNat+0) 0=L.getD i 0:=of_decide_eq_false y2
      rw[eg]at y2
      have hX:ay L i n=(((L.getD i 0).toNat,0,0),1):=by unfold ay;rw[if_neg c1,if_neg c2,if_neg (fun x=>y2 x.2.1)]
      refine Qs ?_
      obtain⟨a1,a2,a3,a4,a5,a6,a7⟩:=vx ok hX dz i3 i2 hi n1 iJ.2 eW
      refine aL.round (x:=ke l) ag mixed (i:=16) rfl (by kernel_rfl) rfl rfl ?_
      refine Qs ?_
      refine bb (bG ls row dn) _ (dT L ls g7 c7 gZ ia gY hZ++[_,_,_,_,_]) 6 4 (s:=(L.getD i 0).toNat) (k:=0) (ex:=0) rfl rfl ok.each a1 a3 a2 a4 i4 a5 (show L.getD ((i:Int).toNat+0) 0=(((L.getD i 0).toNat:Nat):Int) by first|rfl|exact(Int.toNat_of_nonneg jC.1).symm) rfl rfl rfl fun g' c' h'=>?_
      refine Qs ?_
      refine RO.same (i+1,dn++[((L.getD i 0).toNat,0,0)],g',c') ⟨by omega,by rw[List.length_append,List.length_singleton];omega,a6,h'⟩ (show L.length-(i+1)<L.length-i by omega) (aI rfl (aI rfl (aI (congrArg (AV.int .i64) (show _=((i+1:Nat):Int) by omega)) trivial))) (aI rfl (aI rfl (aI rfl (aI rfl (aI rfl (aI rfl (aI trivial (aI rfl (aI trivial (aI trivial (aI rfl (aI rfl (aI rfl (aI rfl (aI trivial (aI rfl (aI rfl (trivial))))))))))))))))))
    ·have y1:¬0<i:=by have y1:¬(0:Int)<(i:Int):=of_decide_eq_false y1;omega
     have hX:ay L i n=(((L.getD i 0).toNat,0,0),1):=by unfold ay;rw[if_neg c1,if_neg c2,if_neg (fun x=>y1 x.1)]
     refine Qs ?_
     obtain⟨a1,a2,a3,a4,a5,a6,a7⟩:=vx ok hX dz i3 i2 hi n1 iJ.2 eW
     refine aL.round (x:=ke l) ag mixed (i:=16) rfl (by kernel_rfl) rfl rfl ?_
     refine Qs ?_
     refine bb (bG ls row dn) _ (dT L ls g7 c7 gZ ia gY hZ++[_,_,_,_,_]) 6 4 (s:=(L.getD i 0).toNat) (k:=0) (ex:=0) rfl rfl ok.each a1 a3 a2 a4 i4 a5 (show L.getD ((i:Int).toNat+0) 0=(((L.getD i 0).toNat:Nat):Int) by first|rfl|exact(Int.toNat_of_nonneg jC.1).symm) rfl rfl rfl fun g' c' h'=>?_
     refine Qs ?_
     refine RO.same (i+1,dn++[((L.getD i 0).toNat,0,0)],g',c') ⟨by omega,by rw[List.length_append,List.length_singleton];omega,a6,h'⟩ (show L.length-(i+1)<L.length-i by omega) (aI rfl (aI rfl (aI (congrArg (AV.int .i64) (show _=((i+1:Nat):Int) by omega)) trivial))) (aI rfl (aI rfl (aI rfl (aI rfl (aI rfl (aI rfl (aI trivial (aI rfl (aI trivial (aI trivial (aI rfl (aI rfl (aI rfl (aI rfl (aI trivial (aI rfl (aI rfl (trivial))))))))))))))))))
 ·have hi:¬i<L.length:=by have q1:¬(i:Int)<(L.length:Int):=of_decide_eq_false q1;omega
  have VU:dn=bf L:=by
   rw[←i3,show L.length-i=0 by omega];exact(List.append_nil dn).symm
  refine Qs ?_
  refine Or.inl (And.intro rfl ?_)
  subst VU
  refine Qs ?_
  refine mw.mk ⟨(g,c),i4⟩ (aI rfl (trivial)) (aI rfl (aI rfl (aI rfl (aI rfl (aI rfl (aI rfl (aI trivial (aI trivial (aI trivial (aI trivial (aI trivial (aI trivial (aI trivial (aI trivial (aI trivial (trivial))))))))))))))))
end
end Go.Proofs.Ytibadaomjlkoaaa
open Go.RowKit
namespace Go.Proofs.Ytibadaomjlkoaaa
set_option maxRecDepth 10000
section
variable{K Kp:AV→AH→Prop}{ts:List Tk}{gt ct:Nat}
set_option maxHeartbeats 4000000 in
theorem I2 {g0 c0:Nat}(lD:∀t∈ts,Nu t)(lK:ts.length≤150000)(Af:ts.length≤ct)
 (h:∀g c ga ca gd cd,(aN (du ts (eM ts) (eL ts))).length≤c→K (.aG []) (fR (dX ts gt ct (eM ts) ga ca (eL ts) gd cd) (du ts (eM ts) (eL ts)) g c)):
 aa Try.prog 17 [.ptr 0 0 0] (w3 ts gt ct g0 c0) K Kp:=by
 have bk:=yK lD lK
 obtain⟨A,hA⟩:∃A,eM ts=A:=⟨_,rfl⟩
 obtain⟨D,hD⟩:∃D,eL ts=D:=⟨_,rfl⟩
 rw[hA,hD]at h bk
 obtain⟨L,hL⟩:∃L,A++D=L:=⟨_,rfl⟩
 have Ng:=bk.al
 have P4:=bk.dl
 have iJ:258≤L.length∧L.length≤316:=by rw[←hL,List.length_append];omega
 have JL:∀x∈L,0≤x∧x<16:=by
  intro x hx
  rw[←hL]at hx
  rcases List.mem_append.1 hx with h|h
  ·exact bk.ab x h
  ·exact bk.db x h
 obtain⟨hle,ok⟩:=xH iJ.2 JL
 obtain⟨ls,BX⟩:∃ls,Jz L=ls:=⟨_,rfl⟩
 obtain⟨N,hN⟩:∃N,nL L=N:=⟨_,rfl⟩
 have SD:=HO L
 have UC:iA ls 15 19=N:=by rw[←hN,←BX];rfl
 have V9:nL (A++D)=N:=by rw[hL];exact hN
 rw[BX]at hle ok
 rw[hN]at SD
 obtain⟨row,dA⟩:∃row,gq A D++dZ ls N=row:=⟨_,rfl⟩
 have ov:row.length≤74:=by rw[←dA,List.length_append,jP];have:=tc ls N;omega
 have Ys:=pw ok (bf L) (fun x hx=>hx)
 have Vi:(bf L).length≤L.length:=mT L L.length 0
 have IA:du ts A D=row++eF ls (bf L)++(bF A D ts++aV A 256):=by
  unfold du;rw[hL,BX,hN,dA]
 refine aa.dc ?_
 refine aa.O3 (x:=Qg) ag mixed Try.func17 (rfl:Try.f17.body=some oM) (by kernel_rfl) D3 rfl rfl rfl rfl ?_
 refine WA.cut (x:=Qg) ag mixed (WC L) (WG ts gt ct g0 c0 A D L) (fun _=>rfl) (fun _=>rfl) (fun _=>⟨rfl,trivial,fun j=>rfl,rfl,trivial,trivial,trivial,trivial,trivial,rfl,trivial⟩) 5 _ _ D3 (Wy lD lK Af hA hD hL bk) fun s1 d1=>?_
 obtain⟨ga,ca,gd,cd,g7,c7⟩:=s1
 refine WA.cut (x:=T1) ag mixed (WB L N g7 c7) (UI ts gt ct g0 c0 A D L ls ga ca gd cd g7 c7) (fun _=>rfl) (fun _=>rfl) (fun _=>⟨rfl,trivial,fun j=>rfl,rfl,trivial,trivial,trivial,trivial,trivial,trivial,trivial,rfl,trivial,rfl,trivial,trivial⟩) 4 _ _ (by kernel_rfl) (Wx UC hle ok d1) fun s2 d2=>?_
 obtain⟨gZ,ia,gY,hZ⟩:=s2
 refine WA.cut (x:=T0) ag mixed (Wz L g7 c7) (WE ts gt ct A D L ls (gq A D++dZ ls N) ga ca gd cd g7 c7 gZ ia gY hZ) (fun _=>rfl) (fun _=>rfl) (fun _=>⟨rfl,trivial,fun j=>rfl,rfl,trivial,trivial,trivial,trivial,trivial,trivial,trivial,rfl,trivial,rfl,trivial,trivial⟩) 5 _ _ (by kernel_rfl) (Ww SD V9 Ng P4 ok d2) fun s3 d3=>?_
 obtain⟨⟨g3,c3⟩,h3⟩:=s3
 refine WA.cut (x:=Ms) ag mixed XW (XX ts gt ct A D (bG ls (gq A D++dZ ls N) (bf L)) ga ca gd cd) (fun _=>rfl) (fun _=>rfl) (fun _=>⟨rfl,trivial,fun j=>rfl,rfl,trivial,trivial,trivial,trivial,trivial,trivial,trivial,trivial,trivial,trivial,trivial,trivial⟩) 1 _ _ (by kernel_rfl) (Wv iJ JL (by rw[dA];exact ov) ok _ d3) fun s4 d4=>?_
 obtain⟨⟨g4,c4⟩,h4⟩:=s4
 refine WA.last (x:=Ms) ag mixed (by kernel_rfl) ?_
 have Um:bG ls (gq A D++dZ ls N) (bf L)=row++eF ls (bf L):=by rw[dA,sP]
 have Wh:∀x∈A,0≤x∧x<256:=fun x hx=>by have:=bk.ab x hx;omega
 have We:∀x∈D,0≤x∧x<256:=fun x hx=>by have:=bk.db x hx;omega
 have h4:(aN (bG ls (gq A D++dZ ls N) (bf L))).length≤c4:=h4
 have YC:(bG ls (gq A D++dZ ls N) (bf L)).length≤8000:=by rw[Um,List.length_append];omega
 rw[←Um]at IA
 obtain⟨R,hR⟩:∃R,bG ls (gq A D++dZ ls N) (bf L)=R:=⟨_,rfl⟩
 rw[hR]at h4 YC IA
 show ax Ms (jJ 1 (jJ 5 (jJ 4 (jJ 5 oM)))) _ _ (lj [(1,.ptr 3 0 0)] d4) (uZ ts gt ct A ga ca D gd cd (bG ls (gq A D++dZ ls N) (bf L)) g4 c4++[AO.gone,AO.gone,AO.gone,AO.gone,AO.gone,AO.gone,AO.gone,AO.gone,AO.gone])
 rw[hR]
 refine Qs ?_
 refine aa.lift [.own 0,.own 1,.own 2,.own 4,.own 5] (uk (ts:=ts) (gt:=gt) (ct:=ct) (A:=A) (ga:=ga) (ca:=ca) (D:=D) (gd:=gd) (cd:=cd) (row:=R) (g:=g4) (c:=c4)
  (K:=fun r N=>∃g c,(aN (R++(bF A D ts++aV A 256))).length≤c∧r=.aG []∧N=fR (dX ts gt ct A ga ca D gd cd) (R++(bF A D ts++aV A 256)) g c) (Kp:=fun _ _=>False) bk.ea bk.ed Wh We (by omega) (by omega) bk.fin bk.UM lK Af
  (by omega) h4 (fun g c hc=>⟨g,c,hc,rfl,rfl⟩)) rfl rfl ⟨⟨rfl,rfl⟩,⟨rfl,rfl⟩,⟨rfl,rfl⟩,⟨rfl,rfl⟩,⟨rfl,rfl⟩,trivial⟩ ⟨rfl,trivial,fun j=>rfl,trivial,trivial,trivial⟩ ?_ (fun _ _ h=>h.elim)
 rintro r M' ⟨g,c,hc,rfl,rfl⟩
 refine⟨⟨rfl,rfl,rfl,rfl,rfl,rfl⟩,?_⟩
 rw[IA]at h
 refine Qs ?_
 refine⟨[.own 0,.own 1,.own 2,.own 4,.own 5],.aG [],fR (dX ts gt ct A ga ca D gd cd) (R++(bF A D ts++aV A 256)) g c,⟨⟨⟨rfl,rfl⟩,⟨rfl,rfl⟩,⟨rfl,rfl⟩,⟨rfl,rfl⟩,⟨rfl,rfl⟩,trivial⟩,rfl,⟨rfl,trivial,fun j=>rfl,trivial,trivial,trivial⟩,rfl,fun i hi=>?_⟩,?_⟩
 ·match i,hi with
  |0,_=>exact .inl rfl
  |1,_=>exact .inl rfl
  |2,_=>exact .inl rfl
 ·exact h g c ga ca gd cd hc
end
end Go.Proofs.Ytibadaomjlkoaaa
