import Derived.Test.YtibadaomjlkoaaaGdl
set_option linter.unusedVariables false
set_option linter.unusedSimpArgs false
open Go.RowKit
namespace Go.Proofs.Ytibadaomjlkoaaa
set_option maxRecDepth 10000
def bH (ls:List Int)(row:List Bool)(dn:List (Nat×Nat×Nat)):List Bool:=dn.foldl (fun r x=>r++FN ls x) row
theorem sZ (ls:List Int):∀(dn:List (Nat×Nat×Nat))(row:List Bool),bH ls row dn=row++eF ls dn
 |[],row=>(List.append_nil row).symm
 |x::dn,row=>by
  show bH ls (row++FN ls x) dn=_
  rw[sZ ls dn,List.append_assoc];rfl
theorem BB (ls:List Int)(row:List Bool)(dn:List (Nat×Nat×Nat))(x:Nat×Nat×Nat):bH ls row (dn++[x])=bH ls row dn++FN ls x:=by
 unfold bH;rw[List.foldl_append];rfl
noncomputable abbrev ki (l:Nat):Cx:={GN (fun _=>[0,3,10,11,13]) []with r:=some l}
theorem vG {L ls:List Int}{row:List Bool}{dn:List (Nat×Nat×Nat)}{i n S E K N:Nat}(ok:mQ L ls)(hX:ay L i n=((S,E,K),N))(dB:cG L (L.length-i) i=(ay L i n).1::cG L (L.length-(i+(ay L i n).2)) (i+(ay L i n).2))(i3:dn++cG L (L.length-i) i=bf L)(i2:dn.length≤i)(hi:i<L.length)(n1:1≤n)(hl:L.length≤316)(hr:row.length≤74):
 jg ls ((S:Nat):Int)∧E<2^K∧K≤24∧(bH ls row dn).length+15+K≤8388608∧bH ls row dn++(aS ls ((S:Nat):Int)++bitsOf ((E:Nat):Int) K)=bH ls row (dn++[(S,E,K)])∧(dn++[(S,E,K)])++cG L (L.length-(i+N)) (i+N)=bf L∧1≤N∧N≤n:=by
 have EH:=pI L i n n1
 rw[hX]at dB EH
 obtain⟨hC,U4,WC⟩:=ok.rows (S,E,K) (by rw[←i3,dB];exact List.mem_append_right _ List.mem_cons_self)
 have YS:=pH ok dn (fun x hx=>by rw[←i3];exact List.mem_append_left _ hx)
 have hK3:K≤7:=WC
 refine⟨hC,U4,by omega,by rw[sZ,List.length_append];omega,(BB ls row dn (S,E,K)).symm,by rw[←i3,dB,List.append_assoc];rfl,EH⟩
section
variable{ts:List Tk}{gt ct:Nat}{A D L ls:List Int}
def W6 (L:List Int)(N g7 c7:Nat)(s:Nat×Nat×Nat×Nat):List (Nat×AV):=[(1,.ptr 3 0 0),(2,.sl 7 g7 0 L.length c7),(5,.ptr 11 0 0),(7,.ptr 13 0 0),(9,.sl 14 0 0 N 19)]
def dT (L ls:List Int)(g7 c7 hU il hJ ik:Nat):AH:=
 [AO.gone,AO.one true g7 (.ints .u8 L c7),AO.gone,AO.gone,AO.one true hU (.ints .u8 ls il),AO.one true 0 (.cells [.sl 10 hU 0 ls.length il]),AO.one true hJ (.ints .u16 (aw ls).1 ik),AO.one true 0 (.cells [.sl 12 hJ 0 (aw ls).1.length ik])]
def U8 (ts:List Tk)(gt ct g0 c0:Nat)(A D L ls:List Int)(ga ca gd cd g7 c7:Nat)(s:Nat×Nat×Nat×Nat):AH:=
 vb ts gt ct A ga ca D gd cd [] g0 c0++(dT L ls g7 c7 s.1 s.2.1 s.2.2.1 s.2.2.2++[AO.one true 0 (.ints .i64 aP 19)])
noncomputable abbrev Ur:Cx:=GN (fun _=>[0,3,10,11,14]) []
set_option maxHeartbeats 4000000 in
theorem W3 {Q:iZ→AA→AH→Prop}{Kp:AV→AH→Prop}{g0 c0 ga ca gd cd g7 c7:Nat}{N:Nat}(U2:iG ls 15 19=N)(hle:bh (um (bf L)) 7=(ls,0))(ok:mQ L ls)(d0:Nat→Value):
 rT Ur (mJ (W6 L N g7 c7) (U8 ts gt ct g0 c0 A D L ls ga ca gd cd g7 c7)) Q Kp 4 (jR 5 oX) (lz (W7 L (ga,ca,gd,cd,g7,c7)) d0) (Xa ts gt ct g0 c0 A D L (ga,ca,gd,cd,g7,c7)):=by
 have wU:=yy (bf L)
 have IQ:=ok.len
 obtain⟨Zu,ES⟩:=ig ok.each
 refine Qs ?_
 refine oH (i:=8) (fr:=um (bf L)) rfl wU.symm (by rw[wU];decide) fun hU il Wp=>?_
 rw[hle]at Wp⊢
 refine Qs ?_
 refine uJ (i:=10) (ls:=ls) rfl rfl (by rw[IQ];decide) (fun x hx=>by have:=ok.NR x hx;omega) fun hJ ik Zx=>?_
 rw[Zu]
 refine Qs ?_
 refine WO.go (σ:=Nat) (fun n=>4≤n∧n≤19∧iG ls (n-4) n=iG ls 15 19) (fun n=>n)
  (fun n=>[(1,.ptr 3 0 0),(2,.sl 7 g7 0 L.length c7),(5,.ptr 11 0 0),(7,.ptr 13 0 0),(9,.sl 14 0 0 n 19)])
  (fun _=>U8 ts gt ct g0 c0 A D L ls ga ca gd cd g7 c7 (hU,il,hJ,ik))
  19 ag mixed (by kernel_rfl) ⟨by decide,by decide,rfl⟩ (aI rfl (aI rfl (aI rfl (aI rfl (aI rfl (trivial)))))) (aI rfl (aI rfl (aI rfl (aI rfl (aI rfl (aI rfl (aI trivial (aI rfl (aI trivial (aI trivial (aI rfl (aI rfl (aI rfl (aI rfl (aI rfl (trivial)))))))))))))))) (fun _=>rfl) (fun _=>rfl) (fun _=>⟨rfl,trivial,fun j=>rfl,rfl,trivial,trivial,trivial,trivial,trivial,trivial,trivial,rfl,trivial,rfl,trivial,trivial⟩) ?_
 rintro n ⟨n1,n2,n3⟩ dO
 have IK:aP.length=19:=rfl
 have YX:=tz (((n:Int)-1).toNat+0)
 have EN:0≤ls.getD ((aP.getD (((n:Int)-1).toNat+0) 0).toNat+0) 0∧ls.getD ((aP.getD (((n:Int)-1).toNat+0) 0).toNat+0) 0<8:=by
  rw[List.getD_eq_getElem?_getD,List.getElem?_eq_getElem (show(aP.getD (((n:Int)-1).toNat+0) 0).toNat+0<ls.length by omega)]
  exact ok.NR _ (List.getElem_mem _)
 have e0:((n:Int)-1).toNat+0=n-1:=by omega
 refine Qs ?_
 refine And.intro (fun q1=>?_) (fun q1=>?_)
 ·have hm:4<n:=by have q1:(4:Int)<(n:Int):=of_decide_eq_true q1;omega
  have QZ:iG ls (n-4) n=if 4<n∧ls.getD (aP.getD (n-1) 0).toNat 0=0 then iG ls (n-5) (n-1)else n:=by
   rw[show n-4=n-5+1 by omega];rfl
  refine Qs ?_
  refine And.intro (fun q2=>?_) (fun q2=>?_)
  ·have q2:ls.getD ((aP.getD (((n:Int)-1).toNat+0) 0).toNat+0) 0=0:=of_decide_eq_true q2
   rw[e0,Nat.add_zero]at q2
   rw[if_pos ⟨hm,q2⟩]at QZ
   refine Qs ?_
   refine RO.same (n-1) ⟨by omega,by omega,by rw[←n3,QZ];rfl⟩ (show n-1<n by omega) (aI rfl (aI rfl (aI rfl (aI rfl (aI ?_ trivial))))) (aI rfl (aI rfl (aI rfl (aI rfl (aI rfl (aI rfl (aI trivial (aI rfl (aI trivial (aI trivial (aI rfl (aI rfl (aI rfl (aI rfl (aI rfl (trivial))))))))))))))))
   show AV.sl 14 0 0 ((n:Int)-1).toNat 19=AV.sl 14 0 0 (n-1) 19
   rw[show((n:Int)-1).toNat=n-1 by omega]
  ·have q2:¬ls.getD ((aP.getD (((n:Int)-1).toNat+0) 0).toNat+0) 0=0:=of_decide_eq_false q2
   rw[e0,Nat.add_zero]at q2
   rw[if_neg (fun x=>q2 x.2)]at QZ
   have hN:n=N:=by rw[←U2,←n3,QZ]
   refine Qs ?_
   refine mJ.mk (hU,il,hJ,ik) (aI rfl (aI rfl (aI rfl (aI rfl (aI (congrArg (fun k=>AV.sl 14 0 0 k 19) hN) trivial))))) (aI rfl (aI rfl (aI rfl (aI rfl (aI rfl (aI rfl (aI trivial (aI rfl (aI trivial (aI trivial (aI rfl (aI rfl (aI rfl (aI rfl (aI rfl (trivial))))))))))))))))
 ·have hm:¬4<n:=by have q1:¬(4:Int)<(n:Int):=of_decide_eq_false q1;omega
  have hN:n=N:=by
   rw[←U2,←n3,show n-4=0 by omega];rfl
  refine Qs ?_
  refine mJ.mk (hU,il,hJ,ik) (aI rfl (aI rfl (aI rfl (aI rfl (aI (congrArg (fun k=>AV.sl 14 0 0 k 19) hN) trivial))))) (aI rfl (aI rfl (aI rfl (aI rfl (aI rfl (aI rfl (aI trivial (aI rfl (aI trivial (aI trivial (aI rfl (aI rfl (aI rfl (aI rfl (aI rfl (trivial))))))))))))))))
theorem mb {K Kp:AV→AH→Prop}{ga ca gd cd g c:Nat}(row vm:List Bool)(E:AH){v' v n:Int}{k:Nat}(hn:n=(k:Int))(hv:v'=v)(h0:0≤v∧v<2^k)(hk:k≤24)(hr:row.length+k≤8388608)(dC:row++bitsOf v k=vm)(hc:(aN row).length≤c)
 (h:∀g' c',(aN vm).length≤c'→K (.int .i64 0) (vb ts gt ct A ga ca D gd cd vm g' c'++E)):
 aa Try.prog 40 [.ptr 0 0 0,.int .u32 v',.int .i64 n] (vb ts gt ct A ga ca D gd cd row g c++E) K Kp:=by
 subst hn hv
 refine KE E h0.1 (by omega) hc fun g' c' h'=>?_
 rw[xZ hk h0.2 hr,dC]at h'⊢
 exact h g' c' h'
def W5 (L:List Int)(g7 c7:Nat){P:Nat×Nat→Prop}(s:{p:Nat×Nat//P p}):List (Nat×AV):=[(1,.ptr 3 0 0),(2,.sl 7 g7 0 L.length c7),(5,.ptr 11 0 0),(7,.ptr 13 0 0)]
def W9 (ts:List Tk)(gt ct:Nat)(A D L ls:List Int)(row:List Bool)(ga ca gd cd g7 c7 hU il hJ ik:Nat)(s:{p:Nat×Nat//(aN row).length≤p.2}):AH:=
 vb ts gt ct A ga ca D gd cd row s.1.1 s.1.2++(dT L ls g7 c7 hU il hJ ik++[AO.gone])
noncomputable abbrev Uq:Cx:=GN (fun _=>[0,3,10,11,14]) []
set_option maxHeartbeats 4000000 in
theorem W2 {Q:iZ→AA→AH→Prop}{Kp:AV→AH→Prop}{g0 c0 ga ca gd cd g7 c7 hU il hJ ik N:Nat}(S5:4≤N∧N≤19)(Wz:nL (A++D)=N)(NH:257≤A.length∧A.length≤286)(Qv:1≤D.length∧D.length≤30)(ok:mQ L ls)(d0:Nat→Value):
 rT Uq (mJ (W5 L g7 c7) (W9 ts gt ct A D L ls (gz A D++eb ls N) ga ca gd cd g7 c7 hU il hJ ik)) Q Kp 5 (jR 9 oX) (lz (W6 L N g7 c7 (hU,il,hJ,ik)) d0) (U8 ts gt ct g0 c0 A D L ls ga ca gd cd g7 c7 (hU,il,hJ,ik)):=by
 have ZQ:(A.length:Int)-257=((A.length-257:Nat):Int):=by omega
 have e1:(D.length:Int)-1=((D.length-1:Nat):Int):=by omega
 refine Qs ?_
 refine mb [] (bitsOf 5 3) (dT L ls g7 c7 hU il hJ ik++[AO.one true 0 (.ints .i64 aP 19)]) (v:=5) (k:=3) rfl rfl (by decide) (by decide) (by decide) rfl (Nat.zero_le _) fun g1 c1 h1=>?_
 refine Qs ?_
 refine mb (bitsOf 5 3) (bitsOf 5 3++bitsOf ((A.length-257:Nat):Int) 5) (dT L ls g7 c7 hU il hJ ik++[AO.one true 0 (.ints .i64 aP 19)]) (v:=((A.length-257:Nat):Int)) (k:=5) rfl (by omega) (by omega) (by decide) (by rw[ai];decide) rfl h1 fun g2 c2 h2=>?_
 refine Qs ?_
 refine mb (bitsOf 5 3++bitsOf ((A.length-257:Nat):Int) 5) (bitsOf 5 3++bitsOf ((A.length-257:Nat):Int) 5++bitsOf ((D.length-1:Nat):Int) 5) (dT L ls g7 c7 hU il hJ ik++[AO.one true 0 (.ints .i64 aP 19)]) (v:=((D.length-1:Nat):Int)) (k:=5) rfl (by omega) (by omega) (by decide) (by simp only[List.length_append,ai];decide) rfl h2 fun g3 c3 h3=>?_
 refine Qs ?_
 refine mb (bitsOf 5 3++bitsOf ((A.length-257:Nat):Int) 5++bitsOf ((D.length-1:Nat):Int) 5) (gz A D++eb ls 0) (dT L ls g7 c7 hU il hJ ik++[AO.one true 0 (.ints .i64 aP 19)]) (v:=((N-4:Nat):Int)) (k:=4) rfl (by omega) (by omega) (by decide) (by simp only[List.length_append,ai];decide) (by rw[show eb ls 0=[]from rfl,List.append_nil];unfold gz;rw[Wz]) h3 fun g4 c4 h4=>?_
 refine Qs ?_
 refine WO.go (σ:=Nat×Nat×Nat) (fun(i,g,c)=>i≤N∧(aN (gz A D++eb ls i)).length≤c) (fun(i,_,_)=>N-i)
  (fun(i,_,_)=>[(1,.ptr 3 0 0),(2,.sl 7 g7 0 L.length c7),(5,.ptr 11 0 0),(7,.ptr 13 0 0),(101,.sl 14 0 0 N 19),(102,.int .i64 (N:Int)),(103,.int .i64 (i:Int))])
  (fun(i,g,c)=>vb ts gt ct A ga ca D gd cd (gz A D++eb ls i) g c++(dT L ls g7 c7 hU il hJ ik++[AO.one true 0 (.ints .i64 aP 19)])) (0,g4,c4) ag mixed (by kernel_rfl)
  ⟨Nat.zero_le _,h4⟩ (aI rfl (aI rfl (aI rfl (aI rfl (aI rfl (aI rfl (aI rfl (trivial)))))))) (aI rfl (aI rfl (aI rfl (aI rfl (aI rfl (aI rfl (aI trivial (aI rfl (aI trivial (aI trivial (aI rfl (aI rfl (aI rfl (aI rfl (aI rfl (trivial)))))))))))))))) (fun _=>rfl) (fun _=>rfl) (fun _=>⟨rfl,trivial,fun j=>rfl,rfl,trivial,trivial,trivial,trivial,trivial,trivial,trivial,rfl,trivial,rfl,trivial,trivial⟩) ?_
 rintro⟨i,g,c⟩ ⟨i1,i2⟩ dP
 have IK:aP.length=19:=rfl
 have YX:=tz ((i:Int).toNat+0)
 have IQ:=ok.len
 have EN:0≤ls.getD ((aP.getD ((i:Int).toNat+0) 0).toNat+0) 0∧ls.getD ((aP.getD ((i:Int).toNat+0) 0).toNat+0) 0<8:=by
  rw[List.getD_eq_getElem?_getD,List.getElem?_eq_getElem (show(aP.getD ((i:Int).toNat+0) 0).toNat+0<ls.length by omega)]
  exact ok.NR _ (List.getElem_mem _)
 have yw:=tA ls i
 have Q7:=jX A D
 refine Qs ?_
 refine And.intro (fun q1=>?_) (fun q1=>?_)
 ·have hi:i<N:=by have q1:(i:Int)<(N:Int):=of_decide_eq_true q1;omega
  refine Qs ?_
  have Sd:=FX ls (i:=i) (by omega)
  refine mb (gz A D++eb ls i) (gz A D++eb ls (i+1)) (dT L ls g7 c7 hU il hJ ik++[AO.one true 0 (.ints .i64 aP 19)]) (v:=ls.getD ((aP.getD ((i:Int).toNat+0) 0).toNat+0) 0) (k:=3) rfl (by omega) EN (by decide) (by rw[List.length_append];omega) (by rw[Sd,List.append_assoc];rfl) i2 fun g' c' h'=>?_
  refine Qs ?_
  refine RO.same (i+1,g',c') ⟨hi,h'⟩ (show N-(i+1)<N-i by omega) (aI rfl (aI rfl (aI rfl (aI rfl (aI rfl (aI rfl (aI rfl (trivial)))))))) (aI rfl (aI rfl (aI rfl (aI rfl (aI rfl (aI rfl (aI trivial (aI rfl (aI trivial (aI trivial (aI rfl (aI rfl (aI rfl (aI rfl (aI rfl (trivial))))))))))))))))
 ·have hi:i=N:=by have q1:¬(i:Int)<(N:Int):=of_decide_eq_false q1;omega
  subst hi
  refine Qs ?_
  refine mJ.mk ⟨(g,c),i2⟩ (aI rfl (aI rfl (aI rfl (aI rfl (trivial))))) (aI rfl (aI rfl (aI rfl (aI rfl (aI rfl (aI rfl (aI trivial (aI rfl (aI trivial (aI trivial (aI rfl (aI rfl (aI rfl (aI rfl (aI trivial (trivial))))))))))))))))
theorem bb {K Kp:AV→AH→Prop}{ga ca gd cd g c:Nat}(row vm:List Bool)(E:AH)(i j:Nat){o o2:Bool}{g5 co c3 g6 fg c4 s k ex:Nat}{s' e' k':Int}(hi:E[i]?=some (.one o g5 (.ints .u16 (aw ls).1 co)))(hj:E[j]?=some (.one o2 g6 (.ints .u8 ls fg)))(he:aE ls=0)(hs:jg ls (s:Int))(hk:k≤24)(hex:ex<2^k)(hr:row.length+15+k≤8388608)(hc:(aN row).length≤c)
 (dC:row++(aS ls s++bitsOf (ex:Int) k)=vm)(h1:s'=(s:Int))(h2:e'=(ex:Int))(h3:k'=(k:Int))
 (o9:(bE [.own 0,.own 1,.own 2,.own 4,.own 5,.ew (i+6) g5 0,.ew (j+6) g6 0]&&AV.o8 [.own 0,.own 1,.own 2,.own 4,.own 5,.ew (i+6) g5 0,.ew (j+6) g6 0] [.ptr 0 0 0,.sl 5 0 0 (aw ls).1.length c3,.sl 6 0 0 ls.length c4,.agg [.int .i64 s',.int .i64 e',.int .i64 k']])=true)
 (h:∀g' c',(aN vm).length≤c'→K (.aL []) (vb ts gt ct A ga ca D gd cd vm g' c'++E)):
 aa Try.prog 48 [.ptr 0 0 0,.sl (i+6) g5 0 (aw ls).1.length c3,.sl (j+6) g6 0 ls.length c4,.agg [.int .i64 s',.int .i64 e',.int .i64 k']] (vb ts gt ct A ga ca D gd cd row g c++E) K Kp:=by
 subst h1 h2 h3 dC
 exact Jx E i j hi hj he hs hk ⟨Int.natCast_nonneg _,by exact_mod_cast hex⟩ hr hc o9 h
def Yl {P:Nat×Nat→Prop}(s:{p:Nat×Nat//P p}):List (Nat×AV):=[(1,.ptr 3 0 0)]
def Ym (ts:List Tk)(gt ct:Nat)(A D:List Int)(row:List Bool)(ga ca gd cd:Nat)(s:{p:Nat×Nat//(aN row).length≤p.2}):AH:=vb ts gt ct A ga ca D gd cd row s.1.1 s.1.2++[AO.gone,AO.gone,AO.gone,AO.gone,AO.gone,AO.gone,AO.gone,AO.gone,AO.gone]
noncomputable abbrev MS:Cx:=GN (fun _=>[0,3,10,11,13]) []
set_option maxHeartbeats 8000000 in
theorem W0 {Q:iZ→AA→AH→Prop}{Kp:AV→AH→Prop}{row:List Bool}{ga ca gd cd g7 c7 hU il hJ ik:Nat}(iP:258≤L.length∧L.length≤316)(J9:∀x∈L,0≤x∧x<16)(oK:row.length≤74)(ok:mQ L ls)(s:{p:Nat×Nat//(aN row).length≤p.2})(d0:Nat→Value):
 rT MS (mJ Yl (Ym ts gt ct A D (bH ls row (bf L)) ga ca gd cd)) Q Kp 1 (jR 14 oX) (lz (W5 L g7 c7 s) d0) (W9 ts gt ct A D L ls row ga ca gd cd g7 c7 hU il hJ ik s):=by
 obtain⟨⟨g0,c0⟩,Zd⟩:=s
 have S7:∀i,i<L.length→0≤L.getD i 0∧L.getD i 0<16:=by
  intro i hi
  rw[List.getD_eq_getElem?_getD,List.getElem?_eq_getElem hi,Option.getD_some]
  exact J9 _ (List.getElem_mem hi)
 have eY:=oK
 refine Qs ?_
 refine Ht (fun _=>[]) [] rfl ?_
 refine Qs ?_
 refine WO.range rfl rfl [(1,.ptr 3 0 0),(5,.ptr 11 0 0),(7,.ptr 13 0 0)] (aI rfl (aI rfl (aI rfl (trivial)))) fun l fn df d=>?_
 refine Hr (fun _=>[7,15]) [] rfl ?_
 refine Qs ?_
 refine WO.go (σ:=Nat×List (Nat×Nat×Nat)×Nat×Nat) (fun(i,dn,g,c)=>i≤L.length∧dn.length≤i∧dn++cG L (L.length-i) i=bf L∧(aN (bH ls row dn)).length≤c) (fun(i,_,_,_)=>L.length-i)
  (fun(i,_,_,_)=>[(0,.fn (.yield l) [] []),(1,.ptr 15 0 0),(3,.int .i64 (i:Int))]) (fun(i,dn,g,c)=>vb ts gt ct A ga ca D gd cd (bH ls row dn) g c++(dT L ls g7 c7 hU il hJ ik++[AO.gone,AO.one true 0 (.cells [.sl 7 g7 0 L.length c7]),AO.one true 0 (.loop l .ready none fn _ _ _ _ _ df)])) (0,[],g0,c0) ag mixed (by kernel_rfl) ⟨Nat.zero_le _,Nat.le_refl _,rfl,Zd⟩ (aI rfl (aI rfl (aI rfl (trivial)))) (aI rfl (aI rfl (aI rfl (aI rfl (aI rfl (aI rfl (aI trivial (aI rfl (aI trivial (aI trivial (aI rfl (aI rfl (aI rfl (aI rfl (aI trivial (aI rfl (aI rfl (trivial)))))))))))))))))) (fun _=>rfl) (fun _=>rfl) (fun _=>⟨rfl,trivial,fun j=>rfl,rfl,trivial,trivial,trivial,trivial,trivial,trivial,trivial,rfl,trivial,rfl,trivial,rfl,yb rfl,trivial⟩) ?_
 rintro⟨i,dn,g,c⟩ ⟨i1,i2,i3,i4⟩ d2
 refine Qs ?_
 refine And.intro (fun q1=>?_) (fun q1=>?_)
 ·have hi:i<L.length:=by have q1:(i:Int)<(L.length:Int):=of_decide_eq_true q1;omega
  have oK:=m9 L i L.length 1 (by omega)
  have dB:=ov hi
  refine Qs ?_
  refine WO.go (σ:=Nat) (fun n=>1≤n∧i+n≤L.length∧runN L i (L.length-(n-1)) n=runN L i L.length 1) (fun n=>L.length-n)
   (fun n=>[(0,.fn (.yield l) [] []),(1,.ptr 15 0 0),(3,.int .i64 (i:Int)),(4,.int .i64 (n:Int))]) (fun _=>vb ts gt ct A ga ca D gd cd (bH ls row dn) g c++(dT L ls g7 c7 hU il hJ ik++[AO.gone,AO.one true 0 (.cells [.sl 7 g7 0 L.length c7]),AO.one true 0 (.loop l .ready none fn _ _ _ _ _ df)])) 1 ag mixed (by kernel_rfl) ⟨Nat.le_refl _,hi,rfl⟩ (aI rfl (aI rfl (aI rfl (aI rfl (trivial))))) (aI rfl (aI rfl (aI rfl (aI rfl (aI rfl (aI rfl (aI trivial (aI rfl (aI trivial (aI trivial (aI rfl (aI rfl (aI rfl (aI rfl (aI trivial (aI rfl (aI rfl (trivial)))))))))))))))))) (fun _=>rfl) (fun _=>rfl) (fun _=>⟨rfl,trivial,fun j=>rfl,rfl,trivial,trivial,trivial,trivial,trivial,trivial,trivial,rfl,trivial,rfl,trivial,rfl,yb rfl,trivial⟩) ?_
  rintro n ⟨n1,n2,n3⟩ d3
  have WB:=iP
  refine Qs ?_
  refine And.intro (fun q2=>?_) (fun q2=>?_)
  ·have h2:i+n<L.length:=by have q2:(i:Int)+(n:Int)<(L.length:Int):=of_decide_eq_true q2;omega
   refine Qs ?_
   refine And.intro (fun q3=>?_) (fun q3=>?_)
   ·have h3:L.getD (i+n) 0=L.getD i 0:=of_decide_eq_true q3
    refine Qs ?_
    refine RO.same (n+1) ⟨by omega,h2,?_⟩ (show L.length-(n+1)<L.length-n by omega) (aI rfl (aI rfl (aI rfl (aI rfl (trivial))))) (aI rfl (aI rfl (aI rfl (aI rfl (aI rfl (aI rfl (aI trivial (aI rfl (aI trivial (aI trivial (aI rfl (aI rfl (aI rfl (aI rfl (aI trivial (aI rfl (aI rfl (trivial))))))))))))))))))
    rw[←n3,show L.length-(n-1)=(L.length-(n+1-1))+1 by omega,runN,if_pos ⟨h2,h3⟩]
   ·have h3:¬L.getD (i+n) 0=L.getD i 0:=of_decide_eq_false q3
    have hn:runN L i L.length 1=n:=by
     rw[←n3,show L.length-(n-1)=(L.length-(n+1-1))+1 by omega,runN,if_neg (fun x=>h3 x.2)]
    rw[hn]at dB
    have jK:0≤L.getD ((i:Int).toNat+0) 0∧L.getD ((i:Int).toNat+0) 0<16:=S7 i hi
    refine Qs ?_
    refine And.intro (fun z1=>?_) (fun z1=>?_)
    ·have z1:L.getD i 0=0:=of_decide_eq_true z1
     refine Qs ?_
     refine And.intro (fun z2=>?_) (fun z2=>?_)
     ·have z2:11≤n:=by have z2:(11:Int)≤(n:Int):=of_decide_eq_true z2;omega
      have hX:ay L i n=((18,min n 138-11,7),min n 138):=by unfold ay;rw[if_pos ⟨z1,z2⟩]
      have eE:min (n:Int) 138-11=((min n 138-11:Nat):Int):=by omega
      refine Qs ?_
      rw[eE]
      obtain⟨a1,a2,a3,a4,a5,a6,a7⟩:=vG ok hX dB i3 i2 hi n1 iP.2 eY
      refine aK.round (x:=ki l) ag mixed (i:=16) rfl (by kernel_rfl) rfl rfl ?_
      refine Qs ?_
      refine bb (bH ls row dn) _ (dT L ls g7 c7 hU il hJ ik++[_,_,_,_,_]) 6 4 (s:=18) (k:=7) (ex:=(min n 138-11)) rfl rfl ok.each a1 a3 a2 a4 i4 a5 (show(18:Int)=((18:Nat):Int) by first|rfl|exact(Int.toNat_of_nonneg jK.1).symm) rfl rfl rfl fun g' c' h'=>?_
      refine Qs ?_
      refine RO.same (i+(min n 138),dn++[(18,(min n 138-11),7)],g',c') ⟨by omega,by rw[List.length_append,List.length_singleton];omega,a6,h'⟩ (show L.length-(i+(min n 138))<L.length-i by omega) (aI rfl (aI rfl (aI (congrArg (AV.int .i64) (show _=((i+(min n 138):Nat):Int) by omega)) trivial))) (aI rfl (aI rfl (aI rfl (aI rfl (aI rfl (aI rfl (aI trivial (aI rfl (aI trivial (aI trivial (aI rfl (aI rfl (aI rfl (aI rfl (aI trivial (aI rfl (aI rfl (trivial))))))))))))))))))
     ·have z2:¬11≤n:=by have z2:¬(11:Int)≤(n:Int):=of_decide_eq_false z2;omega
      refine Qs ?_
      refine And.intro (fun z3=>?_) (fun z3=>?_)
      rotate_left
      ·exact absurd z1 (of_decide_eq_false z3)
      refine Qs ?_
      refine And.intro (fun z4=>?_) (fun z4=>?_)
      ·have z4:3≤n:=by have z4:(3:Int)≤(n:Int):=of_decide_eq_true z4;omega
       have hX:ay L i n=((17,n-3,3),n):=by unfold ay;rw[if_neg (fun x=>z2 x.2),if_pos ⟨z1,z4⟩]
       have eE:(n:Int)-3=((n-3:Nat):Int):=by omega
       refine Qs ?_
       rw[eE]
       obtain⟨a1,a2,a3,a4,a5,a6,a7⟩:=vG ok hX dB i3 i2 hi n1 iP.2 eY
       refine aK.round (x:=ki l) ag mixed (i:=16) rfl (by kernel_rfl) rfl rfl ?_
       refine Qs ?_
       refine bb (bH ls row dn) _ (dT L ls g7 c7 hU il hJ ik++[_,_,_,_,_]) 6 4 (s:=17) (k:=3) (ex:=(n-3)) rfl rfl ok.each a1 a3 a2 a4 i4 a5 (show(17:Int)=((17:Nat):Int) by first|rfl|exact(Int.toNat_of_nonneg jK.1).symm) rfl rfl rfl fun g' c' h'=>?_
       refine Qs ?_
       refine RO.same (i+n,dn++[(17,(n-3),3)],g',c') ⟨by omega,by rw[List.length_append,List.length_singleton];omega,a6,h'⟩ (show L.length-(i+n)<L.length-i by omega) (aI rfl (aI rfl (aI (congrArg (AV.int .i64) (show _=((i+n:Nat):Int) by omega)) trivial))) (aI rfl (aI rfl (aI rfl (aI rfl (aI rfl (aI rfl (aI trivial (aI rfl (aI trivial (aI trivial (aI rfl (aI rfl (aI rfl (aI rfl (aI trivial (aI rfl (aI rfl (trivial))))))))))))))))))
      ·have z4:¬3≤n:=by have z4:¬(3:Int)≤(n:Int):=of_decide_eq_false z4;omega
       have c1:¬(L.getD i 0=0∧11≤n):=fun x=>z2 x.2
       have c2:¬(L.getD i 0=0∧3≤n):=fun x=>z4 x.2
       refine Qs ?_
       refine And.intro (fun y1=>?_) (fun y1=>?_)
       ·have y1:0<i:=by have y1:(0:Int)<(i:Int):=of_decide_eq_true y1;omega
        have ei:(i:Int)-1=((i-1:Nat):Int):=by omega
        have eg:L.getD (((i:Int)-1).toNat+0) 0=L.getD (i-1) 0:=by rw[ei];rfl
        refine Qs ?_
        refine And.intro (fun y2=>?_) (fun y2=>?_)
        ·have y2:L.getD (((i:Int)-1).toNat+0) 0=L.getD i 0:=of_decide_eq_true y2
         rw[eg]at y2
         refine Qs ?_
         refine And.intro (fun y3=>?_) (fun y3=>?_)
         ·have y3:3≤n:=by have y3:(3:Int)≤(n:Int):=of_decide_eq_true y3;omega
          have hX:ay L i n=((16,min n 6-3,2),min n 6):=by unfold ay;rw[if_neg c1,if_neg c2,if_pos ⟨y1,y2,y3⟩]
          have eE:min (n:Int) 6-3=((min n 6-3:Nat):Int):=by omega
          refine Qs ?_
          rw[eE]
          obtain⟨a1,a2,a3,a4,a5,a6,a7⟩:=vG ok hX dB i3 i2 hi n1 iP.2 eY
          refine aK.round (x:=ki l) ag mixed (i:=16) rfl (by kernel_rfl) rfl rfl ?_
          refine Qs ?_
          refine bb (bH ls row dn) _ (dT L ls g7 c7 hU il hJ ik++[_,_,_,_,_]) 6 4 (s:=16) (k:=2) (ex:=(min n 6-3)) rfl rfl ok.each a1 a3 a2 a4 i4 a5 (show(16:Int)=((16:Nat):Int) by first|rfl|exact(Int.toNat_of_nonneg jK.1).symm) rfl rfl rfl fun g' c' h'=>?_
          refine Qs ?_
          refine RO.same (i+(min n 6),dn++[(16,(min n 6-3),2)],g',c') ⟨by omega,by rw[List.length_append,List.length_singleton];omega,a6,h'⟩ (show L.length-(i+(min n 6))<L.length-i by omega) (aI rfl (aI rfl (aI (congrArg (AV.int .i64) (show _=((i+(min n 6):Nat):Int) by omega)) trivial))) (aI rfl (aI rfl (aI rfl (aI rfl (aI rfl (aI rfl (aI trivial (aI rfl (aI trivial (aI trivial (aI rfl (aI rfl (aI rfl (aI rfl (aI trivial (aI rfl (aI rfl (trivial))))))))))))))))))
         ·have y3:¬3≤n:=by have y3:¬(3:Int)≤(n:Int):=of_decide_eq_false y3;omega
          have hX:ay L i n=(((L.getD i 0).toNat,0,0),1):=by unfold ay;rw[if_neg c1,if_neg c2,if_neg (fun x=>y3 x.2.2)]
          refine Qs ?_
          obtain⟨a1,a2,a3,a4,a5,a6,a7⟩:=vG ok hX dB i3 i2 hi n1 iP.2 eY
          refine aK.round (x:=ki l) ag mixed (i:=16) rfl (by kernel_rfl) rfl rfl ?_
          refine Qs ?_
          refine bb (bH ls row dn) _ (dT L ls g7 c7 hU il hJ ik++[_,_,_,_,_]) 6 4 (s:=(L.getD i 0).toNat) (k:=0) (ex:=0) rfl rfl ok.each a1 a3 a2 a4 i4 a5 (show L.getD ((i:Int).toNat+0) 0=(((L.getD i 0).toNat:Nat):Int) by first|rfl|exact(Int.toNat_of_nonneg jK.1).symm) rfl rfl rfl fun g' c' h'=>?_
          refine Qs ?_
          refine RO.same (i+1,dn++[((L.getD i 0).toNat,0,0)],g',c') ⟨by omega,by rw[List.length_append,List.length_singleton];omega,a6,h'⟩ (show L.length-(i+1)<L.length-i by omega) (aI rfl (aI rfl (aI (congrArg (AV.int .i64) (show _=((i+1:Nat):Int) by omega)) trivial))) (aI rfl (aI rfl (aI rfl (aI rfl (aI rfl (aI rfl (aI trivial (aI rfl (aI trivial (aI trivial (aI rfl (aI rfl (aI rfl (aI rfl (aI trivial (aI rfl (aI rfl (trivial))))))))))))))))))
        ·have y2:¬L.getD (((i:Int)-1).toNat+0) 0=L.getD i 0:=of_decide_eq_false y2
         rw[eg]at y2
         have hX:ay L i n=(((L.getD i 0).toNat,0,0),1):=by unfold ay;rw[if_neg c1,if_neg c2,if_neg (fun x=>y2 x.2.1)]
         refine Qs ?_
         obtain⟨a1,a2,a3,a4,a5,a6,a7⟩:=vG ok hX dB i3 i2 hi n1 iP.2 eY
         refine aK.round (x:=ki l) ag mixed (i:=16) rfl (by kernel_rfl) rfl rfl ?_
         refine Qs ?_
         refine bb (bH ls row dn) _ (dT L ls g7 c7 hU il hJ ik++[_,_,_,_,_]) 6 4 (s:=(L.getD i 0).toNat) (k:=0) (ex:=0) rfl rfl ok.each a1 a3 a2 a4 i4 a5 (show L.getD ((i:Int).toNat+0) 0=(((L.getD i 0).toNat:Nat):Int) by first|rfl|exact(Int.toNat_of_nonneg jK.1).symm) rfl rfl rfl fun g' c' h'=>?_
         refine Qs ?_
         refine RO.same (i+1,dn++[((L.getD i 0).toNat,0,0)],g',c') ⟨by omega,by rw[List.length_append,List.length_singleton];omega,a6,h'⟩ (show L.length-(i+1)<L.length-i by omega) (aI rfl (aI rfl (aI (congrArg (AV.int .i64) (show _=((i+1:Nat):Int) by omega)) trivial))) (aI rfl (aI rfl (aI rfl (aI rfl (aI rfl (aI rfl (aI trivial (aI rfl (aI trivial (aI trivial (aI rfl (aI rfl (aI rfl (aI rfl (aI trivial (aI rfl (aI rfl (trivial))))))))))))))))))
       ·have y1:¬0<i:=by have y1:¬(0:Int)<(i:Int):=of_decide_eq_false y1;omega
        have hX:ay L i n=(((L.getD i 0).toNat,0,0),1):=by unfold ay;rw[if_neg c1,if_neg c2,if_neg (fun x=>y1 x.1)]
        refine Qs ?_
        obtain⟨a1,a2,a3,a4,a5,a6,a7⟩:=vG ok hX dB i3 i2 hi n1 iP.2 eY
        refine aK.round (x:=ki l) ag mixed (i:=16) rfl (by kernel_rfl) rfl rfl ?_
        refine Qs ?_
        refine bb (bH ls row dn) _ (dT L ls g7 c7 hU il hJ ik++[_,_,_,_,_]) 6 4 (s:=(L.getD i 0).toNat) (k:=0) (ex:=0) rfl rfl ok.each a1 a3 a2 a4 i4 a5 (show L.getD ((i:Int).toNat+0) 0=(((L.getD i 0).toNat:Nat):Int) by first|rfl|exact(Int.toNat_of_nonneg jK.1).symm) rfl rfl rfl fun g' c' h'=>?_
        refine Qs ?_
        refine RO.same (i+1,dn++[((L.getD i 0).toNat,0,0)],g',c') ⟨by omega,by rw[List.length_append,List.length_singleton];omega,a6,h'⟩ (show L.length-(i+1)<L.length-i by omega) (aI rfl (aI rfl (aI (congrArg (AV.int .i64) (show _=((i+1:Nat):Int) by omega)) trivial))) (aI rfl (aI rfl (aI rfl (aI rfl (aI rfl (aI rfl (aI trivial (aI rfl (aI trivial (aI trivial (aI rfl (aI rfl (aI rfl (aI rfl (aI trivial (aI rfl (aI rfl (trivial))))))))))))))))))
    ·have z1:¬L.getD i 0=0:=of_decide_eq_false z1
     have c1:¬(L.getD i 0=0∧11≤n):=fun x=>z1 x.1
     have c2:¬(L.getD i 0=0∧3≤n):=fun x=>z1 x.1
     refine Qs ?_
     refine And.intro (fun z3=>?_) (fun z3=>?_)
     ·exact absurd (of_decide_eq_true z3) z1
     refine Qs ?_
     refine And.intro (fun y1=>?_) (fun y1=>?_)
     ·have y1:0<i:=by have y1:(0:Int)<(i:Int):=of_decide_eq_true y1;omega
      have ei:(i:Int)-1=((i-1:Nat):Int):=by omega
      have eg:L.getD (((i:Int)-1).toNat+0) 0=L.getD (i-1) 0:=by rw[ei];rfl
      refine Qs ?_
      refine And.intro (fun y2=>?_) (fun y2=>?_)
      ·have y2:L.getD (((i:Int)-1).toNat+0) 0=L.getD i 0:=of_decide_eq_true y2
       rw[eg]at y2
       refine Qs ?_
       refine And.intro (fun y3=>?_) (fun y3=>?_)
       ·have y3:3≤n:=by have y3:(3:Int)≤(n:Int):=of_decide_eq_true y3;omega
        have hX:ay L i n=((16,min n 6-3,2),min n 6):=by unfold ay;rw[if_neg c1,if_neg c2,if_pos ⟨y1,y2,y3⟩]
        have eE:min (n:Int) 6-3=((min n 6-3:Nat):Int):=by omega
        refine Qs ?_
        rw[eE]
        obtain⟨a1,a2,a3,a4,a5,a6,a7⟩:=vG ok hX dB i3 i2 hi n1 iP.2 eY
        refine aK.round (x:=ki l) ag mixed (i:=16) rfl (by kernel_rfl) rfl rfl ?_
        refine Qs ?_
        refine bb (bH ls row dn) _ (dT L ls g7 c7 hU il hJ ik++[_,_,_,_,_]) 6 4 (s:=16) (k:=2) (ex:=(min n 6-3)) rfl rfl ok.each a1 a3 a2 a4 i4 a5 (show(16:Int)=((16:Nat):Int) by first|rfl|exact(Int.toNat_of_nonneg jK.1).symm) rfl rfl rfl fun g' c' h'=>?_
        refine Qs ?_
        refine RO.same (i+(min n 6),dn++[(16,(min n 6-3),2)],g',c') ⟨by omega,by rw[List.length_append,List.length_singleton];omega,a6,h'⟩ (show L.length-(i+(min n 6))<L.length-i by omega) (aI rfl (aI rfl (aI (congrArg (AV.int .i64) (show _=((i+(min n 6):Nat):Int) by omega)) trivial))) (aI rfl (aI rfl (aI rfl (aI rfl (aI rfl (aI rfl (aI trivial (aI rfl (aI trivial (aI trivial (aI rfl (aI rfl (aI rfl (aI rfl (aI trivial (aI rfl (aI rfl (trivial))))))))))))))))))
       ·have y3:¬3≤n:=by have y3:¬(3:Int)≤(n:Int):=of_decide_eq_false y3;omega
        have hX:ay L i n=(((L.getD i 0).toNat,0,0),1):=by unfold ay;rw[if_neg c1,if_neg c2,if_neg (fun x=>y3 x.2.2)]
        refine Qs ?_
        obtain⟨a1,a2,a3,a4,a5,a6,a7⟩:=vG ok hX dB i3 i2 hi n1 iP.2 eY
        refine aK.round (x:=ki l) ag mixed (i:=16) rfl (by kernel_rfl) rfl rfl ?_
        refine Qs ?_
        refine bb (bH ls row dn) _ (dT L ls g7 c7 hU il hJ ik++[_,_,_,_,_]) 6 4 (s:=(L.getD i 0).toNat) (k:=0) (ex:=0) rfl rfl ok.each a1 a3 a2 a4 i4 a5 (show L.getD ((i:Int).toNat+0) 0=(((L.getD i 0).toNat:Nat):Int) by first|rfl|exact(Int.toNat_of_nonneg jK.1).symm) rfl rfl rfl fun g' c' h'=>?_
        refine Qs ?_
        refine RO.same (i+1,dn++[((L.getD i 0).toNat,0,0)],g',c') ⟨by omega,by rw[List.length_append,List.length_singleton];omega,a6,h'⟩ (show L.length-(i+1)<L.length-i by omega) (aI rfl (aI rfl (aI (congrArg (AV.int .i64) (show _=((i+1:Nat):Int) by omega)) trivial))) (aI rfl (aI rfl (aI rfl (aI rfl (aI rfl (aI rfl (aI trivial (aI rfl (aI trivial (aI trivial (aI rfl (aI rfl (aI rfl (aI rfl (aI trivial (aI rfl (aI rfl (trivial))))))))))))))))))
      ·have y2:¬L.getD (((i:Int)-1).toNat+0) 0=L.getD i 0:=of_decide_eq_false y2
       rw[eg]at y2
       have hX:ay L i n=(((L.getD i 0).toNat,0,0),1):=by unfold ay;rw[if_neg c1,if_neg c2,if_neg (fun x=>y2 x.2.1)]
       refine Qs ?_
       obtain⟨a1,a2,a3,a4,a5,a6,a7⟩:=vG ok hX dB i3 i2 hi n1 iP.2 eY
       refine aK.round (x:=ki l) ag mixed (i:=16) rfl (by kernel_rfl) rfl rfl ?_
       refine Qs ?_
       refine bb (bH ls row dn) _ (dT L ls g7 c7 hU il hJ ik++[_,_,_,_,_]) 6 4 (s:=(L.getD i 0).toNat) (k:=0) (ex:=0) rfl rfl ok.each a1 a3 a2 a4 i4 a5 (show L.getD ((i:Int).toNat+0) 0=(((L.getD i 0).toNat:Nat):Int) by first|rfl|exact(Int.toNat_of_nonneg jK.1).symm) rfl rfl rfl fun g' c' h'=>?_
       refine Qs ?_
       refine RO.same (i+1,dn++[((L.getD i 0).toNat,0,0)],g',c') ⟨by omega,by rw[List.length_append,List.length_singleton];omega,a6,h'⟩ (show L.length-(i+1)<L.length-i by omega) (aI rfl (aI rfl (aI (congrArg (AV.int .i64) (show _=((i+1:Nat):Int) by omega)) trivial))) (aI rfl (aI rfl (aI rfl (aI rfl (aI rfl (aI rfl (aI trivial (aI rfl (aI trivial (aI trivial (aI rfl (aI rfl (aI rfl (aI rfl (aI trivial (aI rfl (aI rfl (trivial))))))))))))))))))
     ·have y1:¬0<i:=by have y1:¬(0:Int)<(i:Int):=of_decide_eq_false y1;omega
      have hX:ay L i n=(((L.getD i 0).toNat,0,0),1):=by unfold ay;rw[if_neg c1,if_neg c2,if_neg (fun x=>y1 x.1)]
      refine Qs ?_
      obtain⟨a1,a2,a3,a4,a5,a6,a7⟩:=vG ok hX dB i3 i2 hi n1 iP.2 eY
      refine aK.round (x:=ki l) ag mixed (i:=16) rfl (by kernel_rfl) rfl rfl ?_
      refine Qs ?_
      refine bb (bH ls row dn) _ (dT L ls g7 c7 hU il hJ ik++[_,_,_,_,_]) 6 4 (s:=(L.getD i 0).toNat) (k:=0) (ex:=0) rfl rfl ok.each a1 a3 a2 a4 i4 a5 (show L.getD ((i:Int).toNat+0) 0=(((L.getD i 0).toNat:Nat):Int) by first|rfl|exact(Int.toNat_of_nonneg jK.1).symm) rfl rfl rfl fun g' c' h'=>?_
      refine Qs ?_
      refine RO.same (i+1,dn++[((L.getD i 0).toNat,0,0)],g',c') ⟨by omega,by rw[List.length_append,List.length_singleton];omega,a6,h'⟩ (show L.length-(i+1)<L.length-i by omega) (aI rfl (aI rfl (aI (congrArg (AV.int .i64) (show _=((i+1:Nat):Int) by omega)) trivial))) (aI rfl (aI rfl (aI rfl (aI rfl (aI rfl (aI rfl (aI trivial (aI rfl (aI trivial (aI trivial (aI rfl (aI rfl (aI rfl (aI rfl (aI trivial (aI rfl (aI rfl (trivial))))))))))))))))))
  ·have h2:¬i+n<L.length:=by have q2:¬(i:Int)+(n:Int)<(L.length:Int):=of_decide_eq_false q2;omega
   have hn:runN L i L.length 1=n:=by
    rw[←n3,show L.length-(n-1)=(L.length-(n+1-1))+1 by omega,runN,if_neg (fun x=>h2 x.1)]
   rw[hn]at dB
   have jK:0≤L.getD ((i:Int).toNat+0) 0∧L.getD ((i:Int).toNat+0) 0<16:=S7 i hi
   refine Qs ?_
   refine And.intro (fun z1=>?_) (fun z1=>?_)
   ·have z1:L.getD i 0=0:=of_decide_eq_true z1
    refine Qs ?_
    refine And.intro (fun z2=>?_) (fun z2=>?_)
    ·have z2:11≤n:=by have z2:(11:Int)≤(n:Int):=of_decide_eq_true z2;omega
     have hX:ay L i n=((18,min n 138-11,7),min n 138):=by unfold ay;rw[if_pos ⟨z1,z2⟩]
     have eE:min (n:Int) 138-11=((min n 138-11:Nat):Int):=by omega
     refine Qs ?_
     rw[eE]
     obtain⟨a1,a2,a3,a4,a5,a6,a7⟩:=vG ok hX dB i3 i2 hi n1 iP.2 eY
     refine aK.round (x:=ki l) ag mixed (i:=16) rfl (by kernel_rfl) rfl rfl ?_
     refine Qs ?_
     refine bb (bH ls row dn) _ (dT L ls g7 c7 hU il hJ ik++[_,_,_,_,_]) 6 4 (s:=18) (k:=7) (ex:=(min n 138-11)) rfl rfl ok.each a1 a3 a2 a4 i4 a5 (show(18:Int)=((18:Nat):Int) by first|rfl|exact(Int.toNat_of_nonneg jK.1).symm) rfl rfl rfl fun g' c' h'=>?_
     refine Qs ?_
     refine RO.same (i+(min n 138),dn++[(18,(min n 138-11),7)],g',c') ⟨by omega,by rw[List.length_append,List.length_singleton];omega,a6,h'⟩ (show L.length-(i+(min n 138))<L.length-i by omega) (aI rfl (aI rfl (aI (congrArg (AV.int .i64) (show _=((i+(min n 138):Nat):Int) by omega)) trivial))) (aI rfl (aI rfl (aI rfl (aI rfl (aI rfl (aI rfl (aI trivial (aI rfl (aI trivial (aI trivial (aI rfl (aI rfl (aI rfl (aI rfl (aI trivial (aI rfl (aI rfl (trivial))))))))))))))))))
    ·have z2:¬11≤n:=by have z2:¬(11:Int)≤(n:Int):=of_decide_eq_false z2;omega
     refine Qs ?_
     refine And.intro (fun z3=>?_) (fun z3=>?_)
     rotate_left
     ·exact absurd z1 (of_decide_eq_false z3)
     refine Qs ?_
     refine And.intro (fun z4=>?_) (fun z4=>?_)
     ·have z4:3≤n:=by have z4:(3:Int)≤(n:Int):=of_decide_eq_true z4;omega
      have hX:ay L i n=((17,n-3,3),n):=by unfold ay;rw[if_neg (fun x=>z2 x.2),if_pos ⟨z1,z4⟩]
      have eE:(n:Int)-3=((n-3:Nat):Int):=by omega
      refine Qs ?_
      rw[eE]
      obtain⟨a1,a2,a3,a4,a5,a6,a7⟩:=vG ok hX dB i3 i2 hi n1 iP.2 eY
      refine aK.round (x:=ki l) ag mixed (i:=16) rfl (by kernel_rfl) rfl rfl ?_
      refine Qs ?_
      refine bb (bH ls row dn) _ (dT L ls g7 c7 hU il hJ ik++[_,_,_,_,_]) 6 4 (s:=17) (k:=3) (ex:=(n-3)) rfl rfl ok.each a1 a3 a2 a4 i4 a5 (show(17:Int)=((17:Nat):Int) by first|rfl|exact(Int.toNat_of_nonneg jK.1).symm) rfl rfl rfl fun g' c' h'=>?_
      refine Qs ?_
      refine RO.same (i+n,dn++[(17,(n-3),3)],g',c') ⟨by omega,by rw[List.length_append,List.length_singleton];omega,a6,h'⟩ (show L.length-(i+n)<L.length-i by omega) (aI rfl (aI rfl (aI (congrArg (AV.int .i64) (show _=((i+n:Nat):Int) by omega)) trivial))) (aI rfl (aI rfl (aI rfl (aI rfl (aI rfl (aI rfl (aI trivial (aI rfl (aI trivial (aI trivial (aI rfl (aI rfl (aI rfl (aI rfl (aI trivial (aI rfl (aI rfl (trivial))))))))))))))))))
     ·have z4:¬3≤n:=by have z4:¬(3:Int)≤(n:Int):=of_decide_eq_false z4;omega
      have c1:¬(L.getD i 0=0∧11≤n):=fun x=>z2 x.2
      have c2:¬(L.getD i 0=0∧3≤n):=fun x=>z4 x.2
      refine Qs ?_
      refine And.intro (fun y1=>?_) (fun y1=>?_)
      ·have y1:0<i:=by have y1:(0:Int)<(i:Int):=of_decide_eq_true y1;omega
       have ei:(i:Int)-1=((i-1:Nat):Int):=by omega
       have eg:L.getD (((i:Int)-1).toNat+0) 0=L.getD (i-1) 0:=by rw[ei];rfl
       refine Qs ?_
       refine And.intro (fun y2=>?_) (fun y2=>?_)
       ·have y2:L.getD (((i:Int)-1).toNat+0) 0=L.getD i 0:=of_decide_eq_true y2
        rw[eg]at y2
        refine Qs ?_
        refine And.intro (fun y3=>?_) (fun y3=>?_)
        ·have y3:3≤n:=by have y3:(3:Int)≤(n:Int):=of_decide_eq_true y3;omega
         have hX:ay L i n=((16,min n 6-3,2),min n 6):=by unfold ay;rw[if_neg c1,if_neg c2,if_pos ⟨y1,y2,y3⟩]
         have eE:min (n:Int) 6-3=((min n 6-3:Nat):Int):=by omega
         refine Qs ?_
         rw[eE]
         obtain⟨a1,a2,a3,a4,a5,a6,a7⟩:=vG ok hX dB i3 i2 hi n1 iP.2 eY
         refine aK.round (x:=ki l) ag mixed (i:=16) rfl (by kernel_rfl) rfl rfl ?_
         refine Qs ?_
         refine bb (bH ls row dn) _ (dT L ls g7 c7 hU il hJ ik++[_,_,_,_,_]) 6 4 (s:=16) (k:=2) (ex:=(min n 6-3)) rfl rfl ok.each a1 a3 a2 a4 i4 a5 (show(16:Int)=((16:Nat):Int) by first|rfl|exact(Int.toNat_of_nonneg jK.1).symm) rfl rfl rfl fun g' c' h'=>?_
         refine Qs ?_
         refine RO.same (i+(min n 6),dn++[(16,(min n 6-3),2)],g',c') ⟨by omega,by rw[List.length_append,List.length_singleton];omega,a6,h'⟩ (show L.length-(i+(min n 6))<L.length-i by omega) (aI rfl (aI rfl (aI (congrArg (AV.int .i64) (show _=((i+(min n 6):Nat):Int) by omega)) trivial))) (aI rfl (aI rfl (aI rfl (aI rfl (aI rfl (aI rfl (aI trivial (aI rfl (aI trivial (aI trivial (aI rfl (aI rfl (aI rfl (aI rfl (aI trivial (aI rfl (aI rfl (trivial))))))))))))))))))
        ·have y3:¬3≤n:=by have y3:¬(3:Int)≤(n:Int):=of_decide_eq_false y3;omega
         have hX:ay L i n=(((L.getD i 0).toNat,0,0),1):=by unfold ay;rw[if_neg c1,if_neg c2,if_neg (fun x=>y3 x.2.2)]
         refine Qs ?_
         obtain⟨a1,a2,a3,a4,a5,a6,a7⟩:=vG ok hX dB i3 i2 hi n1 iP.2 eY
         refine aK.round (x:=ki l) ag mixed (i:=16) rfl (by kernel_rfl) rfl rfl ?_
         refine Qs ?_
         refine bb (bH ls row dn) _ (dT L ls g7 c7 hU il hJ ik++[_,_,_,_,_]) 6 4 (s:=(L.getD i 0).toNat) (k:=0) (ex:=0) rfl rfl ok.each a1 a3 a2 a4 i4 a5 (show L.getD ((i:Int).toNat+0) 0=(((L.getD i 0).toNat:Nat):Int) by first|rfl|exact(Int.toNat_of_nonneg jK.1).symm) rfl rfl rfl fun g' c' h'=>?_
         refine Qs ?_
         refine RO.same (i+1,dn++[((L.getD i 0).toNat,0,0)],g',c') ⟨by omega,by rw[List.length_append,List.length_singleton];omega,a6,h'⟩ (show L.length-(i+1)<L.length-i by omega) (aI rfl (aI rfl (aI (congrArg (AV.int .i64) (show _=((i+1:Nat):Int) by omega)) trivial))) (aI rfl (aI rfl (aI rfl (aI rfl (aI rfl (aI rfl (aI trivial (aI rfl (aI trivial (aI trivial (aI rfl (aI rfl (aI rfl (aI rfl (aI trivial (aI rfl (aI rfl (trivial))))))))))))))))))
       ·have y2:¬L.getD (((i:Int)-1).toNat+0) 0=L.getD i 0:=of_decide_eq_false y2
        rw[eg]at y2
        have hX:ay L i n=(((L.getD i 0).toNat,0,0),1):=by unfold ay;rw[if_neg c1,if_neg c2,if_neg (fun x=>y2 x.2.1)]
        refine Qs ?_
        obtain⟨a1,a2,a3,a4,a5,a6,a7⟩:=vG ok hX dB i3 i2 hi n1 iP.2 eY
        refine aK.round (x:=ki l) ag mixed (i:=16) rfl (by kernel_rfl) rfl rfl ?_
        refine Qs ?_
        refine bb (bH ls row dn) _ (dT L ls g7 c7 hU il hJ ik++[_,_,_,_,_]) 6 4 (s:=(L.getD i 0).toNat) (k:=0) (ex:=0) rfl rfl ok.each a1 a3 a2 a4 i4 a5 (show L.getD ((i:Int).toNat+0) 0=(((L.getD i 0).toNat:Nat):Int) by first|rfl|exact(Int.toNat_of_nonneg jK.1).symm) rfl rfl rfl fun g' c' h'=>?_
        refine Qs ?_
        refine RO.same (i+1,dn++[((L.getD i 0).toNat,0,0)],g',c') ⟨by omega,by rw[List.length_append,List.length_singleton];omega,a6,h'⟩ (show L.length-(i+1)<L.length-i by omega) (aI rfl (aI rfl (aI (congrArg (AV.int .i64) (show _=((i+1:Nat):Int) by omega)) trivial))) (aI rfl (aI rfl (aI rfl (aI rfl (aI rfl (aI rfl (aI trivial (aI rfl (aI trivial (aI trivial (aI rfl (aI rfl (aI rfl (aI rfl (aI trivial (aI rfl (aI rfl (trivial))))))))))))))))))
      ·have y1:¬0<i:=by have y1:¬(0:Int)<(i:Int):=of_decide_eq_false y1;omega
       have hX:ay L i n=(((L.getD i 0).toNat,0,0),1):=by unfold ay;rw[if_neg c1,if_neg c2,if_neg (fun x=>y1 x.1)]
       refine Qs ?_
       obtain⟨a1,a2,a3,a4,a5,a6,a7⟩:=vG ok hX dB i3 i2 hi n1 iP.2 eY
       refine aK.round (x:=ki l) ag mixed (i:=16) rfl (by kernel_rfl) rfl rfl ?_
       refine Qs ?_
       refine bb (bH ls row dn) _ (dT L ls g7 c7 hU il hJ ik++[_,_,_,_,_]) 6 4 (s:=(L.getD i 0).toNat) (k:=0) (ex:=0) rfl rfl ok.each a1 a3 a2 a4 i4 a5 (show L.getD ((i:Int).toNat+0) 0=(((L.getD i 0).toNat:Nat):Int) by first|rfl|exact(Int.toNat_of_nonneg jK.1).symm) rfl rfl rfl fun g' c' h'=>?_
       refine Qs ?_
       refine RO.same (i+1,dn++[((L.getD i 0).toNat,0,0)],g',c') ⟨by omega,by rw[List.length_append,List.length_singleton];omega,a6,h'⟩ (show L.length-(i+1)<L.length-i by omega) (aI rfl (aI rfl (aI (congrArg (AV.int .i64) (show _=((i+1:Nat):Int) by omega)) trivial))) (aI rfl (aI rfl (aI rfl (aI rfl (aI rfl (aI rfl (aI trivial (aI rfl (aI trivial (aI trivial (aI rfl (aI rfl (aI rfl (aI rfl (aI trivial (aI rfl (aI rfl (trivial))))))))))))))))))
   ·have z1:¬L.getD i 0=0:=of_decide_eq_false z1
    have c1:¬(L.getD i 0=0∧11≤n):=fun x=>z1 x.1
    have c2:¬(L.getD i 0=0∧3≤n):=fun x=>z1 x.1
    refine Qs ?_
    refine And.intro (fun z3=>?_) (fun z3=>?_)
    ·exact absurd (of_decide_eq_true z3) z1
    refine Qs ?_
    refine And.intro (fun y1=>?_) (fun y1=>?_)
    ·have y1:0<i:=by have y1:(0:Int)<(i:Int):=of_decide_eq_true y1;omega
     have ei:(i:Int)-1=((i-1:Nat):Int):=by omega
     have eg:L.getD (((i:Int)-1).toNat+0) 0=L.getD (i-1) 0:=by rw[ei];rfl
     refine Qs ?_
     refine And.intro (fun y2=>?_) (fun y2=>?_)
     ·have y2:L.getD (((i:Int)-1).toNat+0) 0=L.getD i 0:=of_decide_eq_true y2
      rw[eg]at y2
      refine Qs ?_
      refine And.intro (fun y3=>?_) (fun y3=>?_)
      ·have y3:3≤n:=by have y3:(3:Int)≤(n:Int):=of_decide_eq_true y3;omega
       have hX:ay L i n=((16,min n 6-3,2),min n 6):=by unfold ay;rw[if_neg c1,if_neg c2,if_pos ⟨y1,y2,y3⟩]
       have eE:min (n:Int) 6-3=((min n 6-3:Nat):Int):=by omega
       refine Qs ?_
       rw[eE]
       obtain⟨a1,a2,a3,a4,a5,a6,a7⟩:=vG ok hX dB i3 i2 hi n1 iP.2 eY
       refine aK.round (x:=ki l) ag mixed (i:=16) rfl (by kernel_rfl) rfl rfl ?_
       refine Qs ?_
       refine bb (bH ls row dn) _ (dT L ls g7 c7 hU il hJ ik++[_,_,_,_,_]) 6 4 (s:=16) (k:=2) (ex:=(min n 6-3)) rfl rfl ok.each a1 a3 a2 a4 i4 a5 (show(16:Int)=((16:Nat):Int) by first|rfl|exact(Int.toNat_of_nonneg jK.1).symm) rfl rfl rfl fun g' c' h'=>?_
       refine Qs ?_
       refine RO.same (i+(min n 6),dn++[(16,(min n 6-3),2)],g',c') ⟨by omega,by rw[List.length_append,List.length_singleton];omega,a6,h'⟩ (show L.length-(i+(min n 6))<L.length-i by omega) (aI rfl (aI rfl (aI (congrArg (AV.int .i64) (show _=((i+(min n 6):Nat):Int) by omega)) trivial))) (aI rfl (aI rfl (aI rfl (aI rfl (aI rfl (aI rfl (aI trivial (aI rfl (aI trivial (aI trivial (aI rfl (aI rfl (aI rfl (aI rfl (aI trivial (aI rfl (aI rfl (trivial))))))))))))))))))
      ·have y3:¬3≤n:=by have y3:¬(3:Int)≤(n:Int):=of_decide_eq_false y3;omega
       have hX:ay L i n=(((L.getD i 0).toNat,0,0),1):=by unfold ay;rw[if_neg c1,if_neg c2,if_neg (fun x=>y3 x.2.2)]
       refine Qs ?_
       obtain⟨a1,a2,a3,a4,a5,a6,a7⟩:=vG ok hX dB i3 i2 hi n1 iP.2 eY
       refine aK.round (x:=ki l) ag mixed (i:=16) rfl (by kernel_rfl) rfl rfl ?_
       refine Qs ?_
       refine bb (bH ls row dn) _ (dT L ls g7 c7 hU il hJ ik++[_,_,_,_,_]) 6 4 (s:=(L.getD i 0).toNat) (k:=0) (ex:=0) rfl rfl ok.each a1 a3 a2 a4 i4 a5 (show L.getD ((i:Int).toNat+0) 0=(((L.getD i 0).toNat:Nat):Int) by first|rfl|exact(Int.toNat_of_nonneg jK.1).symm) rfl rfl rfl fun g' c' h'=>?_
       refine Qs ?_
       refine RO.same (i+1,dn++[((L.getD i 0).toNat,0,0)],g',c') ⟨by omega,by rw[List.length_append,List.length_singleton];omega,a6,h'⟩ (show L.length-(i+1)<L.length-i by omega) (aI rfl (aI rfl (aI (congrArg (AV.int .i64) (show _=((i+1:Nat):Int) by omega)) trivial))) (aI rfl (aI rfl (aI rfl (aI rfl (aI rfl (aI rfl (aI trivial (aI rfl (aI trivial (aI trivial (aI rfl (aI rfl (aI rfl (aI rfl (aI trivial (aI rfl (aI rfl (trivial))))))))))))))))))
     ·have y2:¬L.getD (((i:Int)-1).toNat+0) 0=L.getD i 0:=of_decide_eq_false y2
      rw[eg]at y2
      have hX:ay L i n=(((L.getD i 0).toNat,0,0),1):=by unfold ay;rw[if_neg c1,if_neg c2,if_neg (fun x=>y2 x.2.1)]
      refine Qs ?_
      obtain⟨a1,a2,a3,a4,a5,a6,a7⟩:=vG ok hX dB i3 i2 hi n1 iP.2 eY
      refine aK.round (x:=ki l) ag mixed (i:=16) rfl (by kernel_rfl) rfl rfl ?_
      refine Qs ?_
      refine bb (bH ls row dn) _ (dT L ls g7 c7 hU il hJ ik++[_,_,_,_,_]) 6 4 (s:=(L.getD i 0).toNat) (k:=0) (ex:=0) rfl rfl ok.each a1 a3 a2 a4 i4 a5 (show L.getD ((i:Int).toNat+0) 0=(((L.getD i 0).toNat:Nat):Int) by first|rfl|exact(Int.toNat_of_nonneg jK.1).symm) rfl rfl rfl fun g' c' h'=>?_
      refine Qs ?_
      refine RO.same (i+1,dn++[((L.getD i 0).toNat,0,0)],g',c') ⟨by omega,by rw[List.length_append,List.length_singleton];omega,a6,h'⟩ (show L.length-(i+1)<L.length-i by omega) (aI rfl (aI rfl (aI (congrArg (AV.int .i64) (show _=((i+1:Nat):Int) by omega)) trivial))) (aI rfl (aI rfl (aI rfl (aI rfl (aI rfl (aI rfl (aI trivial (aI rfl (aI trivial (aI trivial (aI rfl (aI rfl (aI rfl (aI rfl (aI trivial (aI rfl (aI rfl (trivial))))))))))))))))))
    ·have y1:¬0<i:=by have y1:¬(0:Int)<(i:Int):=of_decide_eq_false y1;omega
     have hX:ay L i n=(((L.getD i 0).toNat,0,0),1):=by unfold ay;rw[if_neg c1,if_neg c2,if_neg (fun x=>y1 x.1)]
     refine Qs ?_
     obtain⟨a1,a2,a3,a4,a5,a6,a7⟩:=vG ok hX dB i3 i2 hi n1 iP.2 eY
     refine aK.round (x:=ki l) ag mixed (i:=16) rfl (by kernel_rfl) rfl rfl ?_
     refine Qs ?_
     refine bb (bH ls row dn) _ (dT L ls g7 c7 hU il hJ ik++[_,_,_,_,_]) 6 4 (s:=(L.getD i 0).toNat) (k:=0) (ex:=0) rfl rfl ok.each a1 a3 a2 a4 i4 a5 (show L.getD ((i:Int).toNat+0) 0=(((L.getD i 0).toNat:Nat):Int) by first|rfl|exact(Int.toNat_of_nonneg jK.1).symm) rfl rfl rfl fun g' c' h'=>?_
     refine Qs ?_
     refine RO.same (i+1,dn++[((L.getD i 0).toNat,0,0)],g',c') ⟨by omega,by rw[List.length_append,List.length_singleton];omega,a6,h'⟩ (show L.length-(i+1)<L.length-i by omega) (aI rfl (aI rfl (aI (congrArg (AV.int .i64) (show _=((i+1:Nat):Int) by omega)) trivial))) (aI rfl (aI rfl (aI rfl (aI rfl (aI rfl (aI rfl (aI trivial (aI rfl (aI trivial (aI trivial (aI rfl (aI rfl (aI rfl (aI rfl (aI trivial (aI rfl (aI rfl (trivial))))))))))))))))))
 ·have hi:¬i<L.length:=by have q1:¬(i:Int)<(L.length:Int):=of_decide_eq_false q1;omega
  have Wj:dn=bf L:=by
   rw[←i3,show L.length-i=0 by omega];exact(List.append_nil dn).symm
  refine Qs ?_
  refine Or.inl (And.intro rfl ?_)
  subst Wj
  refine Qs ?_
  refine mJ.mk ⟨(g,c),i4⟩ (aI rfl (trivial)) (aI rfl (aI rfl (aI rfl (aI rfl (aI rfl (aI rfl (aI trivial (aI trivial (aI trivial (aI trivial (aI trivial (aI trivial (aI trivial (aI trivial (aI trivial (trivial))))))))))))))))
end
end Go.Proofs.Ytibadaomjlkoaaa
open Go.RowKit
namespace Go.Proofs.Ytibadaomjlkoaaa
set_option maxRecDepth 10000
section
variable{K Kp:AV→AH→Prop}{ts:List Tk}{gt ct:Nat}
set_option maxHeartbeats 4000000 in
theorem Jq {g0 c0:Nat}(lK:∀t∈ts,NU t)(lR:ts.length≤150000)(Ar:ts.length≤ct)
 (h:∀g c ga ca gd cd,(aN (dv ts (eN ts) (eM ts))).length≤c→K (.aL []) (fS (dX ts gt ct (eN ts) ga ca (eM ts) gd cd) (dv ts (eN ts) (eM ts)) g c)):
 aa Try.prog 17 [.ptr 0 0 0] (w3 ts gt ct g0 c0) K Kp:=by
 have bk:=yT lK lR
 obtain⟨A,hA⟩:∃A,eN ts=A:=⟨_,rfl⟩
 obtain⟨D,hD⟩:∃D,eM ts=D:=⟨_,rfl⟩
 rw[hA,hD]at h bk
 obtain⟨L,hL⟩:∃L,A++D=L:=⟨_,rfl⟩
 have NH:=bk.al
 have Qv:=bk.dl
 have iP:258≤L.length∧L.length≤316:=by rw[←hL,List.length_append];omega
 have J9:∀x∈L,0≤x∧x<16:=by
  intro x hx
  rw[←hL]at hx
  rcases List.mem_append.1 hx with h|h
  ·exact bk.ab x h
  ·exact bk.db x h
 obtain⟨hle,ok⟩:=xT iP.2 J9
 obtain⟨ls,Cd⟩:∃ls,JY L=ls:=⟨_,rfl⟩
 obtain⟨N,hN⟩:∃N,nL L=N:=⟨_,rfl⟩
 have S5:=Ia L
 have U2:iG ls 15 19=N:=by rw[←hN,←Cd];rfl
 have Wz:nL (A++D)=N:=by rw[hL];exact hN
 rw[Cd]at hle ok
 rw[hN]at S5
 obtain⟨row,dC⟩:∃row,gz A D++eb ls N=row:=⟨_,rfl⟩
 have oK:row.length≤74:=by rw[←dC,List.length_append,jX];have:=tA ls N;omega
 have YS:=pH ok (bf L) (fun x hx=>hx)
 have VI:(bf L).length≤L.length:=na L L.length 0
 have I1:dv ts A D=row++eF ls (bf L)++(bg A D ts++aS A 256):=by
  unfold dv;rw[hL,Cd,hN,dC]
 refine aa.de ?_
 refine aa.Px (x:=QH) ag mixed Try.func17 (rfl:Try.f17.body=some oX) (by kernel_rfl) El rfl rfl rfl rfl ?_
 refine WA.cut (x:=QH) ag mixed (W7 L) (Xa ts gt ct g0 c0 A D L) (fun _=>rfl) (fun _=>rfl) (fun _=>⟨rfl,trivial,fun j=>rfl,rfl,trivial,trivial,trivial,trivial,trivial,rfl,trivial⟩) 5 _ _ El (W4 lK lR Ar hA hD hL bk) fun s1 d1=>?_
 obtain⟨ga,ca,gd,cd,g7,c7⟩:=s1
 refine WA.cut (x:=Ur) ag mixed (W6 L N g7 c7) (U8 ts gt ct g0 c0 A D L ls ga ca gd cd g7 c7) (fun _=>rfl) (fun _=>rfl) (fun _=>⟨rfl,trivial,fun j=>rfl,rfl,trivial,trivial,trivial,trivial,trivial,trivial,trivial,rfl,trivial,rfl,trivial,trivial⟩) 4 _ _ (by kernel_rfl) (W3 U2 hle ok d1) fun s2 d2=>?_
 obtain⟨hU,il,hJ,ik⟩:=s2
 refine WA.cut (x:=Uq) ag mixed (W5 L g7 c7) (W9 ts gt ct A D L ls (gz A D++eb ls N) ga ca gd cd g7 c7 hU il hJ ik) (fun _=>rfl) (fun _=>rfl) (fun _=>⟨rfl,trivial,fun j=>rfl,rfl,trivial,trivial,trivial,trivial,trivial,trivial,trivial,rfl,trivial,rfl,trivial,trivial⟩) 5 _ _ (by kernel_rfl) (W2 S5 Wz NH Qv ok d2) fun s3 d3=>?_
 obtain⟨⟨g3,c3⟩,h3⟩:=s3
 refine WA.cut (x:=MS) ag mixed Yl (Ym ts gt ct A D (bH ls (gz A D++eb ls N) (bf L)) ga ca gd cd) (fun _=>rfl) (fun _=>rfl) (fun _=>⟨rfl,trivial,fun j=>rfl,rfl,trivial,trivial,trivial,trivial,trivial,trivial,trivial,trivial,trivial,trivial,trivial,trivial⟩) 1 _ _ (by kernel_rfl) (W0 iP J9 (by rw[dC];exact oK) ok _ d3) fun s4 d4=>?_
 obtain⟨⟨g4,c4⟩,h4⟩:=s4
 refine WA.last (x:=MS) ag mixed (by kernel_rfl) ?_
 have UL:bH ls (gz A D++eb ls N) (bf L)=row++eF ls (bf L):=by rw[dC,sZ]
 have WJ:∀x∈A,0≤x∧x<256:=fun x hx=>by have:=bk.ab x hx;omega
 have WG:∀x∈D,0≤x∧x<256:=fun x hx=>by have:=bk.db x hx;omega
 have h4:(aN (bH ls (gz A D++eb ls N) (bf L))).length≤c4:=h4
 have Y2:(bH ls (gz A D++eb ls N) (bf L)).length≤8000:=by rw[UL,List.length_append];omega
 rw[←UL]at I1
 obtain⟨R,hR⟩:∃R,bH ls (gz A D++eb ls N) (bf L)=R:=⟨_,rfl⟩
 rw[hR]at h4 Y2 I1
 show ax MS (jR 1 (jR 5 (jR 4 (jR 5 oX)))) _ _ (lz [(1,.ptr 3 0 0)] d4) (vb ts gt ct A ga ca D gd cd (bH ls (gz A D++eb ls N) (bf L)) g4 c4++[AO.gone,AO.gone,AO.gone,AO.gone,AO.gone,AO.gone,AO.gone,AO.gone,AO.gone])
 rw[hR]
 refine Qs ?_
 refine aa.lift [.own 0,.own 1,.own 2,.own 4,.own 5] (uB (ts:=ts) (gt:=gt) (ct:=ct) (A:=A) (ga:=ga) (ca:=ca) (D:=D) (gd:=gd) (cd:=cd) (row:=R) (g:=g4) (c:=c4)
  (K:=fun r N=>∃g c,(aN (R++(bg A D ts++aS A 256))).length≤c∧r=.aL []∧N=fS (dX ts gt ct A ga ca D gd cd) (R++(bg A D ts++aS A 256)) g c) (Kp:=fun _ _=>False) bk.ea bk.ed WJ WG (by omega) (by omega) bk.fin bk.Vc lR Ar
  (by omega) h4 (fun g c hc=>⟨g,c,hc,rfl,rfl⟩)) rfl rfl ⟨⟨rfl,rfl⟩,⟨rfl,rfl⟩,⟨rfl,rfl⟩,⟨rfl,rfl⟩,⟨rfl,rfl⟩,trivial⟩ ⟨rfl,trivial,fun j=>rfl,trivial,trivial,trivial⟩ ?_ (fun _ _ h=>h.elim)
 rintro r M' ⟨g,c,hc,rfl,rfl⟩
 refine⟨⟨rfl,rfl,rfl,rfl,rfl,rfl⟩,?_⟩
 rw[I1]at h
 refine Qs ?_
 refine⟨[.own 0,.own 1,.own 2,.own 4,.own 5],.aL [],fS (dX ts gt ct A ga ca D gd cd) (R++(bg A D ts++aS A 256)) g c,⟨⟨⟨rfl,rfl⟩,⟨rfl,rfl⟩,⟨rfl,rfl⟩,⟨rfl,rfl⟩,⟨rfl,rfl⟩,trivial⟩,rfl,⟨rfl,trivial,fun j=>rfl,trivial,trivial,trivial⟩,rfl,fun i hi=>?_⟩,?_⟩
 ·match i,hi with
  |0,_=>exact .inl rfl
  |1,_=>exact .inl rfl
  |2,_=>exact .inl rfl
 ·exact h g c ga ca gd cd hc
end
end Go.Proofs.Ytibadaomjlkoaaa
