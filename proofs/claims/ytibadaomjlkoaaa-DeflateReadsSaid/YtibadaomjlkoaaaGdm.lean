import Derived.Test.YtibadaomjlkoaaaGdl
set_option linter.unusedVariables false
set_option linter.unusedSimpArgs false
open Go.RowKit
namespace Go.Proofs.Ytibadaomjlkoaaa
set_option maxRecDepth 10000
def bZ (ls:List Int)(row:List Bool)(dn:List (Nat×Nat×Nat)):List Bool:=dn.foldl (fun r x=>r++IG ls x) row
theorem vt (ls:List Int):∀(dn:List (Nat×Nat×Nat))(row:List Bool),bZ ls row dn=row++fl ls dn
 |[],row=>(List.append_nil row).symm
 |x::dn,row=>by
  show bZ ls (row++IG ls x) dn=_
  rw[vt ls dn,List.append_assoc];rfl
theorem DR (ls:List Int)(row:List Bool)(dn:List (Nat×Nat×Nat))(x:Nat×Nat×Nat):bZ ls row (dn++[x])=bZ ls row dn++IG ls x:=by
 unfold bZ;rw[List.foldl_append];rfl
noncomputable abbrev ly (l:Nat):Cx:={JF (fun _=>[0,3,10,11,13]) []with r:=some l}
theorem xW {L ls:List Int}{row:List Bool}{dn:List (Nat×Nat×Nat)}{i n S E K N:Nat}(ok:oq L ls)(hX:aC L i n=((S,E,K),N))(a8:dc L (L.length-i) i=(aC L i n).1::dc L (L.length-(i+(aC L i n).2)) (i+(aC L i n).2))(i3:dn++dc L (L.length-i) i=bt L)(i2:dn.length≤i)(hi:i<L.length)(n1:1≤n)(hl:L.length≤316)(hr:row.length≤74):
 j8 ls ((S:Nat):Int)∧E<2^K∧K≤24∧(bZ ls row dn).length+15+K≤8388608∧bZ ls row dn++(bf ls ((S:Nat):Int)++bitsOf ((E:Nat):Int) K)=bZ ls row (dn++[(S,E,K)])∧(dn++[(S,E,K)])++dc L (L.length-(i+N)) (i+N)=bt L∧1≤N∧N≤n:=by
 have uG:=rl L i n n1
 rw[hX]at a8 uG
 obtain⟨hC,Xo,hK2⟩:=ok.rows (S,E,K) (by rw[←i3,a8];exact List.mem_append_right _ List.mem_cons_self)
 have hrB:=rk ok dn (fun x hx=>by rw[←i3];exact List.mem_append_left _ hx)
 have hK3:K≤7:=hK2
 refine⟨hC,Xo,by omega,by rw[vt,List.length_append];omega,(DR ls row dn (S,E,K)).symm,by rw[←i3,a8,List.append_assoc];rfl,uG⟩
section
variable{ts:List Tk}{gt ct:Nat}{A D L ls:List Int}
def dl2 (L:List Int)(N g7 c7:Nat)(s:Nat×Nat×Nat×Nat):List (Nat×AV):=[(1,.ptr 3 0 0),(2,.sl 7 g7 0 L.length c7),(5,.ptr 11 0 0),(7,.ptr 13 0 0),(9,.sl 14 0 0 N 19)]
def dT (L ls:List Int)(g7 c7 jj jq ji jo:Nat):AH:=
 [AO.gone,AO.one true g7 (.ints .u8 L c7),AO.gone,AO.gone,AO.one true jj (.ints .u8 ls jq),AO.one true 0 (.cells [.sl 10 jj 0 ls.length jq]),AO.one true ji (.ints .u16 (aA ls).1 jo),AO.one true 0 (.cells [.sl 12 ji 0 (aA ls).1.length jo])]
def ZG (ts:List Tk)(gt ct g0 c0:Nat)(A D L ls:List Int)(ga ca gd cd g7 c7:Nat)(s:Nat×Nat×Nat×Nat):AH:=
 xp ts gt ct A ga ca D gd cd [] g0 c0++(dT L ls g7 c7 s.1 s.2.1 s.2.2.1 s.2.2.2++[AO.one true 0 (.ints .i64 aV 19)])
noncomputable abbrev YY:Cx:=JF (fun _=>[0,3,10,11,14]) []
set_option maxHeartbeats 4000000 in
theorem aaK {Q:jr→AA→AH→Prop}{Kp:AV→AH→Prop}{g0 c0 ga ca gd cd g7 c7:Nat}{N:Nat}(ZD:jA ls 15 19=N)(hle:bw (wx (bt L)) 7=(ls,0))(ok:oq L ls)(d0:Nat→Value):
 sv YY (lB (dl2 L N g7 c7) (ZG ts gt ct g0 c0 A D L ls ga ca gd cd g7 c7)) Q Kp 4 (kT 5 qz) (mN (dl1 L (ga,ca,gd,cd,g7,c7)) d0) (dH1 ts gt ct g0 c0 A D L (ga,ca,gd,cd,g7,c7)):=by
 have y9:=AP (bt L)
 have y6:=ok.len
 obtain⟨hcF,HE⟩:=jm ok.each
 refine Qs ?_
 refine qk (i:=8) (fr:=wx (bt L)) rfl y9.symm (by rw[y9];decide) fun jj jq aaw=>?_
 rw[hle]at aaw⊢
 refine Qs ?_
 refine wN (i:=10) (ls:=ls) rfl rfl (by rw[y6];decide) (fun x hx=>by have:=ok.RA x hx;omega) fun ji jo aa4=>?_
 rw[hcF]
 refine Qs ?_
 refine WO.go (σ:=Nat) (fun n=>4≤n∧n≤19∧jA ls (n-4) n=jA ls 15 19) (fun n=>n)
  (fun n=>[(1,.ptr 3 0 0),(2,.sl 7 g7 0 L.length c7),(5,.ptr 11 0 0),(7,.ptr 13 0 0),(9,.sl 14 0 0 n 19)])
  (fun _=>ZG ts gt ct g0 c0 A D L ls ga ca gd cd g7 c7 (jj,jq,ji,jo))
  19 ae mixed (by kernel_rfl) ⟨by decide,by decide,rfl⟩ (aI rfl (aI rfl (aI rfl (aI rfl (aI rfl (trivial)))))) (aI rfl (aI rfl (aI rfl (aI rfl (aI rfl (aI rfl (aI trivial (aI rfl (aI trivial (aI trivial (aI rfl (aI rfl (aI rfl (aI rfl (aI rfl (trivial)))))))))))))))) (fun _=>rfl) (fun _=>rfl) (fun _=>⟨rfl,trivial,fun j=>rfl,rfl,trivial,trivial,trivial,trivial,trivial,trivial,trivial,rfl,trivial,rfl,trivial,trivial⟩) ?_
 rintro n ⟨n1,n2,n3⟩ dO
 have Jg:aV.length=19:=rfl
 have hob:=vK (((n:Int)-1).toNat+0)
 have CF:0≤ls.getD ((aV.getD (((n:Int)-1).toNat+0) 0).toNat+0) 0∧ls.getD ((aV.getD (((n:Int)-1).toNat+0) 0).toNat+0) 0<8:=by
  rw[List.getD_eq_getElem?_getD,List.getElem?_eq_getElem (show(aV.getD (((n:Int)-1).toNat+0) 0).toNat+0<ls.length by omega)]
  exact ok.RA _ (List.getElem_mem _)
 have e0:((n:Int)-1).toNat+0=n-1:=by omega
 refine Qs ?_
 refine And.intro (fun q1=>?_) (fun q1=>?_)
 ·have hm:4<n:=by have q1:(4:Int)<(n:Int):=of_decide_eq_true q1;omega
  have U0:jA ls (n-4) n=if 4<n∧ls.getD (aV.getD (n-1) 0).toNat 0=0 then jA ls (n-5) (n-1)else n:=by
   rw[show n-4=n-5+1 by omega];rfl
  refine Qs ?_
  refine And.intro (fun q2=>?_) (fun q2=>?_)
  ·have q2:ls.getD ((aV.getD (((n:Int)-1).toNat+0) 0).toNat+0) 0=0:=of_decide_eq_true q2
   rw[e0,Nat.add_zero]at q2
   rw[if_pos ⟨hm,q2⟩]at U0
   refine Qs ?_
   refine RO.same (n-1) ⟨by omega,by omega,by rw[←n3,U0];rfl⟩ (show n-1<n by omega) (aI rfl (aI rfl (aI rfl (aI rfl (aI ?_ trivial))))) (aI rfl (aI rfl (aI rfl (aI rfl (aI rfl (aI rfl (aI trivial (aI rfl (aI trivial (aI trivial (aI rfl (aI rfl (aI rfl (aI rfl (aI rfl (trivial))))))))))))))))
   show AV.sl 14 0 0 ((n:Int)-1).toNat 19=AV.sl 14 0 0 (n-1) 19
   rw[show((n:Int)-1).toNat=n-1 by omega]
  ·have q2:¬ls.getD ((aV.getD (((n:Int)-1).toNat+0) 0).toNat+0) 0=0:=of_decide_eq_false q2
   rw[e0,Nat.add_zero]at q2
   rw[if_neg (fun x=>q2 x.2)]at U0
   have hN:n=N:=by rw[←ZD,←n3,U0]
   refine Qs ?_
   refine lB.mk (jj,jq,ji,jo) (aI rfl (aI rfl (aI rfl (aI rfl (aI (congrArg (fun k=>AV.sl 14 0 0 k 19) hN) trivial))))) (aI rfl (aI rfl (aI rfl (aI rfl (aI rfl (aI rfl (aI trivial (aI rfl (aI trivial (aI trivial (aI rfl (aI rfl (aI rfl (aI rfl (aI rfl (trivial))))))))))))))))
 ·have hm:¬4<n:=by have q1:¬(4:Int)<(n:Int):=of_decide_eq_false q1;omega
  have hN:n=N:=by
   rw[←ZD,←n3,show n-4=0 by omega];rfl
  refine Qs ?_
  refine lB.mk (jj,jq,ji,jo) (aI rfl (aI rfl (aI rfl (aI rfl (aI (congrArg (fun k=>AV.sl 14 0 0 k 19) hN) trivial))))) (aI rfl (aI rfl (aI rfl (aI rfl (aI rfl (aI rfl (aI trivial (aI rfl (aI trivial (aI trivial (aI rfl (aI rfl (aI rfl (aI rfl (aI rfl (trivial))))))))))))))))
theorem nE {K Kp:AV→AH→Prop}{ga ca gd cd g c:Nat}(row xD:List Bool)(E:AH){v' v n:Int}{k:Nat}(hn:n=(k:Int))(hv:v'=v)(h0:0≤v∧v<2^k)(hk:k≤24)(hr:row.length+k≤8388608)(dY:row++bitsOf v k=xD)(hc:(aU row).length≤c)
 (h:∀g' c',(aU xD).length≤c'→K (.int .i64 0) (xp ts gt ct A ga ca D gd cd xD g' c'++E)):
 aa Try.prog 40 [.ptr 0 0 0,.int .u32 v',.int .i64 n] (xp ts gt ct A ga ca D gd cd row g c++E) K Kp:=by
 subst hn hv
 refine NU E h0.1 (by omega) hc fun g' c' h'=>?_
 rw[Af hk h0.2 hr,dY]at h'⊢
 exact h g' c' h'
def dl3 (L:List Int)(g7 c7:Nat){P:Nat×Nat→Prop}(s:{p:Nat×Nat//P p}):List (Nat×AV):=[(1,.ptr 3 0 0),(2,.sl 7 g7 0 L.length c7),(5,.ptr 11 0 0),(7,.ptr 13 0 0)]
def dH3 (ts:List Tk)(gt ct:Nat)(A D L ls:List Int)(row:List Bool)(ga ca gd cd g7 c7 jj jq ji jo:Nat)(s:{p:Nat×Nat//(aU row).length≤p.2}):AH:=
 xp ts gt ct A ga ca D gd cd row s.1.1 s.1.2++(dT L ls g7 c7 jj jq ji jo++[AO.gone])
noncomputable abbrev YX:Cx:=JF (fun _=>[0,3,10,11,14]) []
set_option maxHeartbeats 4000000 in
theorem aaJ {Q:jr→AA→AH→Prop}{Kp:AV→AH→Prop}{g0 c0 ga ca gd cd g7 c7 jj jq ji jo N:Nat}(Xj:4≤N∧N≤19)(hNL:nL (A++D)=N)(Nl:257≤A.length∧A.length≤286)(Rm:1≤D.length∧D.length≤30)(ok:oq L ls)(d0:Nat→Value):
 sv YX (lB (dl3 L g7 c7) (dH3 ts gt ct A D L ls (iK A D++eT ls N) ga ca gd cd g7 c7 jj jq ji jo)) Q Kp 5 (kT 9 qz) (mN (dl2 L N g7 c7 (jj,jq,ji,jo)) d0) (ZG ts gt ct g0 c0 A D L ls ga ca gd cd g7 c7 (jj,jq,ji,jo)):=by
 have aba:(A.length:Int)-257=((A.length-257:Nat):Int):=by omega
 have e1:(D.length:Int)-1=((D.length-1:Nat):Int):=by omega
 refine Qs ?_
 refine nE [] (bitsOf 5 3) (dT L ls g7 c7 jj jq ji jo++[AO.one true 0 (.ints .i64 aV 19)]) (v:=5) (k:=3) rfl rfl (by decide) (by decide) (by decide) rfl (Nat.zero_le _) fun g1 c1 h1=>?_
 refine Qs ?_
 refine nE (bitsOf 5 3) (bitsOf 5 3++bitsOf ((A.length-257:Nat):Int) 5) (dT L ls g7 c7 jj jq ji jo++[AO.one true 0 (.ints .i64 aV 19)]) (v:=((A.length-257:Nat):Int)) (k:=5) rfl (by omega) (by omega) (by decide) (by rw[ak];decide) rfl h1 fun g2 c2 h2=>?_
 refine Qs ?_
 refine nE (bitsOf 5 3++bitsOf ((A.length-257:Nat):Int) 5) (bitsOf 5 3++bitsOf ((A.length-257:Nat):Int) 5++bitsOf ((D.length-1:Nat):Int) 5) (dT L ls g7 c7 jj jq ji jo++[AO.one true 0 (.ints .i64 aV 19)]) (v:=((D.length-1:Nat):Int)) (k:=5) rfl (by omega) (by omega) (by decide) (by simp only[List.length_append,ak];decide) rfl h2 fun g3 c3 h3=>?_
 refine Qs ?_
 refine nE (bitsOf 5 3++bitsOf ((A.length-257:Nat):Int) 5++bitsOf ((D.length-1:Nat):Int) 5) (iK A D++eT ls 0) (dT L ls g7 c7 jj jq ji jo++[AO.one true 0 (.ints .i64 aV 19)]) (v:=((N-4:Nat):Int)) (k:=4) rfl (by omega) (by omega) (by decide) (by simp only[List.length_append,ak];decide) (by rw[show eT ls 0=[]from rfl,List.append_nil];unfold iK;rw[hNL]) h3 fun g4 c4 h4=>?_
 refine Qs ?_
 refine WO.go (σ:=Nat×Nat×Nat) (fun(i,g,c)=>i≤N∧(aU (iK A D++eT ls i)).length≤c) (fun(i,_,_)=>N-i)
  (fun(i,_,_)=>[(1,.ptr 3 0 0),(2,.sl 7 g7 0 L.length c7),(5,.ptr 11 0 0),(7,.ptr 13 0 0),(101,.sl 14 0 0 N 19),(102,.int .i64 (N:Int)),(103,.int .i64 (i:Int))])
  (fun(i,g,c)=>xp ts gt ct A ga ca D gd cd (iK A D++eT ls i) g c++(dT L ls g7 c7 jj jq ji jo++[AO.one true 0 (.ints .i64 aV 19)])) (0,g4,c4) ae mixed (by kernel_rfl)
  ⟨Nat.zero_le _,h4⟩ (aI rfl (aI rfl (aI rfl (aI rfl (aI rfl (aI rfl (aI rfl (trivial)))))))) (aI rfl (aI rfl (aI rfl (aI rfl (aI rfl (aI rfl (aI trivial (aI rfl (aI trivial (aI trivial (aI rfl (aI rfl (aI rfl (aI rfl (aI rfl (trivial)))))))))))))))) (fun _=>rfl) (fun _=>rfl) (fun _=>⟨rfl,trivial,fun j=>rfl,rfl,trivial,trivial,trivial,trivial,trivial,trivial,trivial,rfl,trivial,rfl,trivial,trivial⟩) ?_
 rintro⟨i,g,c⟩ ⟨i1,i2⟩ dP
 have Jg:aV.length=19:=rfl
 have hob:=vK ((i:Int).toNat+0)
 have y6:=ok.len
 have CF:0≤ls.getD ((aV.getD ((i:Int).toNat+0) 0).toNat+0) 0∧ls.getD ((aV.getD ((i:Int).toNat+0) 0).toNat+0) 0<8:=by
  rw[List.getD_eq_getElem?_getD,List.getElem?_eq_getElem (show(aV.getD ((i:Int).toNat+0) 0).toNat+0<ls.length by omega)]
  exact ok.RA _ (List.getElem_mem _)
 have uH:=vL ls i
 have U8:=kZ A D
 refine Qs ?_
 refine And.intro (fun q1=>?_) (fun q1=>?_)
 ·have hi:i<N:=by have q1:(i:Int)<(N:Int):=of_decide_eq_true q1;omega
  refine Qs ?_
  have UT:=IP ls (i:=i) (by omega)
  refine nE (iK A D++eT ls i) (iK A D++eT ls (i+1)) (dT L ls g7 c7 jj jq ji jo++[AO.one true 0 (.ints .i64 aV 19)]) (v:=ls.getD ((aV.getD ((i:Int).toNat+0) 0).toNat+0) 0) (k:=3) rfl (by omega) CF (by decide) (by rw[List.length_append];omega) (by rw[UT,List.append_assoc];rfl) i2 fun g' c' h'=>?_
  refine Qs ?_
  refine RO.same (i+1,g',c') ⟨hi,h'⟩ (show N-(i+1)<N-i by omega) (aI rfl (aI rfl (aI rfl (aI rfl (aI rfl (aI rfl (aI rfl (trivial)))))))) (aI rfl (aI rfl (aI rfl (aI rfl (aI rfl (aI rfl (aI trivial (aI rfl (aI trivial (aI trivial (aI rfl (aI rfl (aI rfl (aI rfl (aI rfl (trivial))))))))))))))))
 ·have hi:i=N:=by have q1:¬(i:Int)<(N:Int):=of_decide_eq_false q1;omega
  subst hi
  refine Qs ?_
  refine lB.mk ⟨(g,c),i2⟩ (aI rfl (aI rfl (aI rfl (aI rfl (trivial))))) (aI rfl (aI rfl (aI rfl (aI rfl (aI rfl (aI rfl (aI trivial (aI rfl (aI trivial (aI trivial (aI rfl (aI rfl (aI rfl (aI rfl (aI trivial (trivial))))))))))))))))
theorem br {K Kp:AV→AH→Prop}{ga ca gd cd g c:Nat}(row xD:List Bool)(E:AH)(i j:Nat){o o2:Bool}{g5 co c3 g6 co2 c4 s k ex:Nat}{s' e' k':Int}(hi:E[i]?=some (.one o g5 (.ints .u16 (aA ls).1 co)))(hj:E[j]?=some (.one o2 g6 (.ints .u8 ls co2)))(he:aB ls=0)(hs:j8 ls (s:Int))(hk:k≤24)(hex:ex<2^k)(hr:row.length+15+k≤8388608)(hc:(aU row).length≤c)
 (dY:row++(bf ls s++bitsOf (ex:Int) k)=xD)(h1:s'=(s:Int))(h2:e'=(ex:Int))(h3:k'=(k:Int))
 (lN:(bu [.own 0,.own 1,.own 2,.own 4,.own 5,.cP (i+6) g5 0,.cP (j+6) g6 0]&&AV.nq [.own 0,.own 1,.own 2,.own 4,.own 5,.cP (i+6) g5 0,.cP (j+6) g6 0] [.ptr 0 0 0,.sl 5 0 0 (aA ls).1.length c3,.sl 6 0 0 ls.length c4,.agg [.int .i64 s',.int .i64 e',.int .i64 k']])=true)
 (h:∀g' c',(aU xD).length≤c'→K (.aE []) (xp ts gt ct A ga ca D gd cd xD g' c'++E)):
 aa Try.prog 48 [.ptr 0 0 0,.sl (i+6) g5 0 (aA ls).1.length c3,.sl (j+6) g6 0 ls.length c4,.agg [.int .i64 s',.int .i64 e',.int .i64 k']] (xp ts gt ct A ga ca D gd cd row g c++E) K Kp:=by
 subst h1 h2 h3 dY
 exact Mz E i j hi hj he hs hk ⟨Int.natCast_nonneg _,by exact_mod_cast hex⟩ hr hc lN h
def dl4 {P:Nat×Nat→Prop}(s:{p:Nat×Nat//P p}):List (Nat×AV):=[(1,.ptr 3 0 0)]
def dH4 (ts:List Tk)(gt ct:Nat)(A D:List Int)(row:List Bool)(ga ca gd cd:Nat)(s:{p:Nat×Nat//(aU row).length≤p.2}):AH:=xp ts gt ct A ga ca D gd cd row s.1.1 s.1.2++[AO.gone,AO.gone,AO.gone,AO.gone,AO.gone,AO.gone,AO.gone,AO.gone,AO.gone]
noncomputable abbrev Qw:Cx:=JF (fun _=>[0,3,10,11,13]) []
set_option maxHeartbeats 8000000 in
theorem aaI {Q:jr→AA→AH→Prop}{Kp:AV→AH→Prop}{row:List Bool}{ga ca gd cd g7 c7 jj jq ji jo:Nat}(jO:258≤L.length∧L.length≤316)(Nk:∀x∈L,0≤x∧x<16)(fJ:row.length≤74)(ok:oq L ls)(s:{p:Nat×Nat//(aU row).length≤p.2})(d0:Nat→Value):
 sv Qw (lB dl4 (dH4 ts gt ct A D (bZ ls row (bt L)) ga ca gd cd)) Q Kp 1 (kT 14 qz) (mN (dl3 L g7 c7 s) d0) (dH3 ts gt ct A D L ls row ga ca gd cd g7 c7 jj jq ji jo s):=by
 obtain⟨⟨g0,c0⟩,hg0⟩:=s
 have Xl:∀i,i<L.length→0≤L.getD i 0∧L.getD i 0<16:=by
  intro i hi
  rw[List.getD_eq_getElem?_getD,List.getElem?_eq_getElem hi,Option.getD_some]
  exact Nk _ (List.getElem_mem hi)
 have fI:=fJ
 refine Qs ?_
 refine Kl (fun _=>[]) [] rfl ?_
 refine Qs ?_
 refine WO.range rfl rfl [(1,.ptr 3 0 0),(5,.ptr 11 0 0),(7,.ptr 13 0 0)] (aI rfl (aI rfl (aI rfl (trivial)))) fun l fn df d=>?_
 refine Kh (fun _=>[7,15]) [] rfl ?_
 refine Qs ?_
 refine WO.go (σ:=Nat×List (Nat×Nat×Nat)×Nat×Nat) (fun(i,dn,g,c)=>i≤L.length∧dn.length≤i∧dn++dc L (L.length-i) i=bt L∧(aU (bZ ls row dn)).length≤c) (fun(i,_,_,_)=>L.length-i)
  (fun(i,_,_,_)=>[(0,.fn (.yield l) [] []),(1,.ptr 15 0 0),(3,.int .i64 (i:Int))]) (fun(i,dn,g,c)=>xp ts gt ct A ga ca D gd cd (bZ ls row dn) g c++(dT L ls g7 c7 jj jq ji jo++[AO.gone,AO.one true 0 (.cells [.sl 7 g7 0 L.length c7]),AO.one true 0 (.loop l .ready none fn _ _ _ _ _ df)])) (0,[],g0,c0) ae mixed (by kernel_rfl) ⟨Nat.zero_le _,Nat.le_refl _,rfl,hg0⟩ (aI rfl (aI rfl (aI rfl (trivial)))) (aI rfl (aI rfl (aI rfl (aI rfl (aI rfl (aI rfl (aI trivial (aI rfl (aI trivial (aI trivial (aI rfl (aI rfl (aI rfl (aI rfl (aI trivial (aI rfl (aI rfl (trivial)))))))))))))))))) (fun _=>rfl) (fun _=>rfl) (fun _=>⟨rfl,trivial,fun j=>rfl,rfl,trivial,trivial,trivial,trivial,trivial,trivial,trivial,rfl,trivial,rfl,trivial,rfl,Am rfl,trivial⟩) ?_
 rintro⟨i,dn,g,c⟩ ⟨i1,i2,i3,i4⟩ d2
 refine Qs ?_
 refine And.intro (fun q1=>?_) (fun q1=>?_)
 ·have hi:i<L.length:=by have q1:(i:Int)<(L.length:Int):=of_decide_eq_true q1;omega
  have fJ:=oK L i L.length 1 (by omega)
  have a8:=qa hi
  refine Qs ?_
  refine WO.go (σ:=Nat) (fun n=>1≤n∧i+n≤L.length∧runN L i (L.length-(n-1)) n=runN L i L.length 1) (fun n=>L.length-n)
   (fun n=>[(0,.fn (.yield l) [] []),(1,.ptr 15 0 0),(3,.int .i64 (i:Int)),(4,.int .i64 (n:Int))]) (fun _=>xp ts gt ct A ga ca D gd cd (bZ ls row dn) g c++(dT L ls g7 c7 jj jq ji jo++[AO.gone,AO.one true 0 (.cells [.sl 7 g7 0 L.length c7]),AO.one true 0 (.loop l .ready none fn _ _ _ _ _ df)])) 1 ae mixed (by kernel_rfl) ⟨Nat.le_refl _,hi,rfl⟩ (aI rfl (aI rfl (aI rfl (aI rfl (trivial))))) (aI rfl (aI rfl (aI rfl (aI rfl (aI rfl (aI rfl (aI trivial (aI rfl (aI trivial (aI trivial (aI rfl (aI rfl (aI rfl (aI rfl (aI trivial (aI rfl (aI rfl (trivial)))))))))))))))))) (fun _=>rfl) (fun _=>rfl) (fun _=>⟨rfl,trivial,fun j=>rfl,rfl,trivial,trivial,trivial,trivial,trivial,trivial,trivial,rfl,trivial,rfl,trivial,rfl,Am rfl,trivial⟩) ?_
  rintro n ⟨n1,n2,n3⟩ d3
  have aaB:=jO
  refine Qs ?_
  refine And.intro (fun q2=>?_) (fun q2=>?_)
  ·have h2:i+n<L.length:=by have q2:(i:Int)+(n:Int)<(L.length:Int):=of_decide_eq_true q2;omega
   refine Qs ?_
   refine And.intro (fun q3=>?_) (fun q3=>?_)
   ·have h3:L.getD (i+n) 0=L.getD i 0:=of_decide_eq_true q3
    refine Qs ?_
    refine RO.same (n+1) ⟨by omega,h2,?_⟩ (show L.length-(n+1)<L.length-n by omega) (aI rfl (aI rfl (aI rfl (aI rfl (trivial))))) (aI rfl (aI rfl (aI rfl (aI rfl (aI rfl (aI rfl (aI trivial (aI rfl (aI trivial (aI trivial (aI rfl (aI rfl (aI rfl (aI rfl (aI trivial (aI rfl (aI rfl (trivial))))))))))))))))))
    rw[←n3,show L.length-(n-1)=(L.length-(n+1-1))+1 by omega,runN,if_pos ⟨h2,h3⟩]
   ·have h3:¬L.getD (i+n) 0=L.getD i 0:=of_decide_eq_false q3
    have hn:runN L i L.length 1=n:=by
     rw[←n3,show L.length-(n-1)=(L.length-(n+1-1))+1 by omega,runN,if_neg (fun x=>h3 x.2)]
    rw[hn]at a8
    have kL:0≤L.getD ((i:Int).toNat+0) 0∧L.getD ((i:Int).toNat+0) 0<16:=Xl i hi
    refine Qs ?_
    refine And.intro (fun z1=>?_) (fun z1=>?_)
    ·have z1:L.getD i 0=0:=of_decide_eq_true z1
     refine Qs ?_
     refine And.intro (fun z2=>?_) (fun z2=>?_)
     ·have z2:11≤n:=by have z2:(11:Int)≤(n:Int):=of_decide_eq_true z2;omega
      have hX:aC L i n=((18,min n 138-11,7),min n 138):=by unfold aC;rw[if_pos ⟨z1,z2⟩]
      have eE:min (n:Int) 138-11=((min n 138-11:Nat):Int):=by omega
      refine Qs ?_
      rw[eE]
      obtain⟨a1,a2,a3,a4,a5,a6,a7⟩:=xW ok hX a8 i3 i2 hi n1 jO.2 fI
      refine aS.round (x:=ly l) ae mixed (i:=16) rfl (by kernel_rfl) rfl rfl ?_
      refine Qs ?_
      refine br (bZ ls row dn) _ (dT L ls g7 c7 jj jq ji jo++[_,_,_,_,_]) 6 4 (s:=18) (k:=7) (ex:=(min n 138-11)) rfl rfl ok.each a1 a3 a2 a4 i4 a5 (show(18:Int)=((18:Nat):Int) by first|rfl|exact(Int.toNat_of_nonneg kL.1).symm) rfl rfl rfl fun g' c' h'=>?_
      refine Qs ?_
      refine RO.same (i+(min n 138),dn++[(18,(min n 138-11),7)],g',c') ⟨by omega,by rw[List.length_append,List.length_singleton];omega,a6,h'⟩ (show L.length-(i+(min n 138))<L.length-i by omega) (aI rfl (aI rfl (aI (congrArg (AV.int .i64) (show _=((i+(min n 138):Nat):Int) by omega)) trivial))) (aI rfl (aI rfl (aI rfl (aI rfl (aI rfl (aI rfl (aI trivial (aI rfl (aI trivial (aI trivial (aI rfl (aI rfl (aI rfl (aI rfl (aI trivial (aI rfl (aI rfl (trivial))))))))))))))))))
     ·have z2:¬11≤n:=by have z2:¬(11:Int)≤(n:Int):=of_decide_eq_false z2;omega
      refine Qs ?_
      refine And.intro (fun z3=>?_) (fun z3=>?_)
      rotate_left
      ·exact absurd z1 (of_decide_eq_false z3)
      refine Qs ?_
      refine And.intro (fun z4=>?_) (fun z4=>?_)
      ·have z4:3≤n:=by have z4:(3:Int)≤(n:Int):=of_decide_eq_true z4;omega
       have hX:aC L i n=((17,n-3,3),n):=by unfold aC;rw[if_neg (fun x=>z2 x.2),if_pos ⟨z1,z4⟩]
       have eE:(n:Int)-3=((n-3:Nat):Int):=by omega
       refine Qs ?_
       rw[eE]
       obtain⟨a1,a2,a3,a4,a5,a6,a7⟩:=xW ok hX a8 i3 i2 hi n1 jO.2 fI
       refine aS.round (x:=ly l) ae mixed (i:=16) rfl (by kernel_rfl) rfl rfl ?_
       refine Qs ?_
       refine br (bZ ls row dn) _ (dT L ls g7 c7 jj jq ji jo++[_,_,_,_,_]) 6 4 (s:=17) (k:=3) (ex:=(n-3)) rfl rfl ok.each a1 a3 a2 a4 i4 a5 (show(17:Int)=((17:Nat):Int) by first|rfl|exact(Int.toNat_of_nonneg kL.1).symm) rfl rfl rfl fun g' c' h'=>?_
       refine Qs ?_
       refine RO.same (i+n,dn++[(17,(n-3),3)],g',c') ⟨by omega,by rw[List.length_append,List.length_singleton];omega,a6,h'⟩ (show L.length-(i+n)<L.length-i by omega) (aI rfl (aI rfl (aI (congrArg (AV.int .i64) (show _=((i+n:Nat):Int) by omega)) trivial))) (aI rfl (aI rfl (aI rfl (aI rfl (aI rfl (aI rfl (aI trivial (aI rfl (aI trivial (aI trivial (aI rfl (aI rfl (aI rfl (aI rfl (aI trivial (aI rfl (aI rfl (trivial))))))))))))))))))
      ·have z4:¬3≤n:=by have z4:¬(3:Int)≤(n:Int):=of_decide_eq_false z4;omega
       have c1:¬(L.getD i 0=0∧11≤n):=fun x=>z2 x.2
       have c2:¬(L.getD i 0=0∧3≤n):=fun x=>z4 x.2
       refine Qs ?_
       refine And.intro (fun y1=>?_) (fun y1=>?_)
       ·have y1:0<i:=by have y1:(0:Int)<(i:Int):=of_decide_eq_true y1;omega
        have ei:(i:Int)-1=((i-1:Nat):Int):=by omega
        have eg:L.getD (((i:Int)-1).toNat+0) 0=L.getD (i-1) 0:=by rw[ei];rfl
        refine Qs ?_
        refine And.intro (fun y2=>?_) (fun y2=>?_)
        ·have y2:L.getD (((i:Int)-1).toNat+0) 0=L.getD i 0:=of_decide_eq_true y2
         rw[eg]at y2
         refine Qs ?_
         refine And.intro (fun y3=>?_) (fun y3=>?_)
         ·have y3:3≤n:=by have y3:(3:Int)≤(n:Int):=of_decide_eq_true y3;omega
          have hX:aC L i n=((16,min n 6-3,2),min n 6):=by unfold aC;rw[if_neg c1,if_neg c2,if_pos ⟨y1,y2,y3⟩]
          have eE:min (n:Int) 6-3=((min n 6-3:Nat):Int):=by omega
          refine Qs ?_
          rw[eE]
          obtain⟨a1,a2,a3,a4,a5,a6,a7⟩:=xW ok hX a8 i3 i2 hi n1 jO.2 fI
          refine aS.round (x:=ly l) ae mixed (i:=16) rfl (by kernel_rfl) rfl rfl ?_
          refine Qs ?_
          refine br (bZ ls row dn) _ (dT L ls g7 c7 jj jq ji jo++[_,_,_,_,_]) 6 4 (s:=16) (k:=2) (ex:=(min n 6-3)) rfl rfl ok.each a1 a3 a2 a4 i4 a5 (show(16:Int)=((16:Nat):Int) by first|rfl|exact(Int.toNat_of_nonneg kL.1).symm) rfl rfl rfl fun g' c' h'=>?_
          refine Qs ?_
          refine RO.same (i+(min n 6),dn++[(16,(min n 6-3),2)],g',c') ⟨by omega,by rw[List.length_append,List.length_singleton];omega,a6,h'⟩ (show L.length-(i+(min n 6))<L.length-i by omega) (aI rfl (aI rfl (aI (congrArg (AV.int .i64) (show _=((i+(min n 6):Nat):Int) by omega)) trivial))) (aI rfl (aI rfl (aI rfl (aI rfl (aI rfl (aI rfl (aI trivial (aI rfl (aI trivial (aI trivial (aI rfl (aI rfl (aI rfl (aI rfl (aI trivial (aI rfl (aI rfl (trivial))))))))))))))))))
         ·have y3:¬3≤n:=by have y3:¬(3:Int)≤(n:Int):=of_decide_eq_false y3;omega
          have hX:aC L i n=(((L.getD i 0).toNat,0,0),1):=by unfold aC;rw[if_neg c1,if_neg c2,if_neg (fun x=>y3 x.2.2)]
          refine Qs ?_
          obtain⟨a1,a2,a3,a4,a5,a6,a7⟩:=xW ok hX a8 i3 i2 hi n1 jO.2 fI
          refine aS.round (x:=ly l) ae mixed (i:=16) rfl (by kernel_rfl) rfl rfl ?_
          refine Qs ?_
          refine br (bZ ls row dn) _ (dT L ls g7 c7 jj jq ji jo++[_,_,_,_,_]) 6 4 (s:=(L.getD i 0).toNat) (k:=0) (ex:=0) rfl rfl ok.each a1 a3 a2 a4 i4 a5 (show L.getD ((i:Int).toNat+0) 0=(((L.getD i 0).toNat:Nat):Int) by first|rfl|exact(Int.toNat_of_nonneg kL.1).symm) rfl rfl rfl fun g' c' h'=>?_
          refine Qs ?_
          refine RO.same (i+1,dn++[((L.getD i 0).toNat,0,0)],g',c') ⟨by omega,by rw[List.length_append,List.length_singleton];omega,a6,h'⟩ (show L.length-(i+1)<L.length-i by omega) (aI rfl (aI rfl (aI (congrArg (AV.int .i64) (show _=((i+1:Nat):Int) by omega)) trivial))) (aI rfl (aI rfl (aI rfl (aI rfl (aI rfl (aI rfl (aI trivial (aI rfl (aI trivial (aI trivial (aI rfl (aI rfl (aI rfl (aI rfl (aI trivial (aI rfl (aI rfl (trivial))))))))))))))))))
        ·have y2:¬L.getD (((i:Int)-1).toNat+0) 0=L.getD i 0:=of_decide_eq_false y2
         rw[eg]at y2
         have hX:aC L i n=(((L.getD i 0).toNat,0,0),1):=by unfold aC;rw[if_neg c1,if_neg c2,if_neg (fun x=>y2 x.2.1)]
         refine Qs ?_
         obtain⟨a1,a2,a3,a4,a5,a6,a7⟩:=xW ok hX a8 i3 i2 hi n1 jO.2 fI
         refine aS.round (x:=ly l) ae mixed (i:=16) rfl (by kernel_rfl) rfl rfl ?_
         refine Qs ?_
         refine br (bZ ls row dn) _ (dT L ls g7 c7 jj jq ji jo++[_,_,_,_,_]) 6 4 (s:=(L.getD i 0).toNat) (k:=0) (ex:=0) rfl rfl ok.each a1 a3 a2 a4 i4 a5 (show L.getD ((i:Int).toNat+0) 0=(((L.getD i 0).toNat:Nat):Int) by first|rfl|exact(Int.toNat_of_nonneg kL.1).symm) rfl rfl rfl fun g' c' h'=>?_
         refine Qs ?_
         refine RO.same (i+1,dn++[((L.getD i 0).toNat,0,0)],g',c') ⟨by omega,by rw[List.length_append,List.length_singleton];omega,a6,h'⟩ (show L.length-(i+1)<L.length-i by omega) (aI rfl (aI rfl (aI (congrArg (AV.int .i64) (show _=((i+1:Nat):Int) by omega)) trivial))) (aI rfl (aI rfl (aI rfl (aI rfl (aI rfl (aI rfl (aI trivial (aI rfl (aI trivial (aI trivial (aI rfl (aI rfl (aI rfl (aI rfl (aI trivial (aI rfl (aI rfl (trivial))))))))))))))))))
       ·have y1:¬0<i:=by have y1:¬(0:Int)<(i:Int):=of_decide_eq_false y1;omega
        have hX:aC L i n=(((L.getD i 0).toNat,0,0),1):=by unfold aC;rw[if_neg c1,if_neg c2,if_neg (fun x=>y1 x.1)]
        refine Qs ?_
        obtain⟨a1,a2,a3,a4,a5,a6,a7⟩:=xW ok hX a8 i3 i2 hi n1 jO.2 fI
        refine aS.round (x:=ly l) ae mixed (i:=16) rfl (by kernel_rfl) rfl rfl ?_
        refine Qs ?_
        refine br (bZ ls row dn) _ (dT L ls g7 c7 jj jq ji jo++[_,_,_,_,_]) 6 4 (s:=(L.getD i 0).toNat) (k:=0) (ex:=0) rfl rfl ok.each a1 a3 a2 a4 i4 a5 (show L.getD ((i:Int).toNat+0) 0=(((L.getD i 0).toNat:Nat):Int) by first|rfl|exact(Int.toNat_of_nonneg kL.1).symm) rfl rfl rfl fun g' c' h'=>?_
        refine Qs ?_
        refine RO.same (i+1,dn++[((L.getD i 0).toNat,0,0)],g',c') ⟨by omega,by rw[List.length_append,List.length_singleton];omega,a6,h'⟩ (show L.length-(i+1)<L.length-i by omega) (aI rfl (aI rfl (aI (congrArg (AV.int .i64) (show _=((i+1:Nat):Int) by omega)) trivial))) (aI rfl (aI rfl (aI rfl (aI rfl (aI rfl (aI rfl (aI trivial (aI rfl (aI trivial (aI trivial (aI rfl (aI rfl (aI rfl (aI rfl (aI trivial (aI rfl (aI rfl (trivial))))))))))))))))))
    ·have z1:¬L.getD i 0=0:=of_decide_eq_false z1
     have c1:¬(L.getD i 0=0∧11≤n):=fun x=>z1 x.1
     have c2:¬(L.getD i 0=0∧3≤n):=fun x=>z1 x.1
     refine Qs ?_
     refine And.intro (fun z3=>?_) (fun z3=>?_)
     ·exact absurd (of_decide_eq_true z3) z1
     refine Qs ?_
     refine And.intro (fun y1=>?_) (fun y1=>?_)
     ·have y1:0<i:=by have y1:(0:Int)<(i:Int):=of_decide_eq_true y1;omega
      have ei:(i:Int)-1=((i-1:Nat):Int):=by omega
      have eg:L.getD (((i:Int)-1).toNat+0) 0=L.getD (i-1) 0:=by rw[ei];rfl
      refine Qs ?_
      refine And.intro (fun y2=>?_) (fun y2=>?_)
      ·have y2:L.getD (((i:Int)-1).toNat+0) 0=L.getD i 0:=of_decide_eq_true y2
       rw[eg]at y2
       refine Qs ?_
       refine And.intro (fun y3=>?_) (fun y3=>?_)
       ·have y3:3≤n:=by have y3:(3:Int)≤(n:Int):=of_decide_eq_true y3;omega
        have hX:aC L i n=((16,min n 6-3,2),min n 6):=by unfold aC;rw[if_neg c1,if_neg c2,if_pos ⟨y1,y2,y3⟩]
        have eE:min (n:Int) 6-3=((min n 6-3:Nat):Int):=by omega
        refine Qs ?_
        rw[eE]
        obtain⟨a1,a2,a3,a4,a5,a6,a7⟩:=xW ok hX a8 i3 i2 hi n1 jO.2 fI
        refine aS.round (x:=ly l) ae mixed (i:=16) rfl (by kernel_rfl) rfl rfl ?_
        refine Qs ?_
        refine br (bZ ls row dn) _ (dT L ls g7 c7 jj jq ji jo++[_,_,_,_,_]) 6 4 (s:=16) (k:=2) (ex:=(min n 6-3)) rfl rfl ok.each a1 a3 a2 a4 i4 a5 (show(16:Int)=((16:Nat):Int) by first|rfl|exact(Int.toNat_of_nonneg kL.1).symm) rfl rfl rfl fun g' c' h'=>?_
        refine Qs ?_
        refine RO.same (i+(min n 6),dn++[(16,(min n 6-3),2)],g',c') ⟨by omega,by rw[List.length_append,List.length_singleton];omega,a6,h'⟩ (show L.length-(i+(min n 6))<L.length-i by omega) (aI rfl (aI rfl (aI (congrArg (AV.int .i64) (show _=((i+(min n 6):Nat):Int) by omega)) trivial))) (aI rfl (aI rfl (aI rfl (aI rfl (aI rfl (aI rfl (aI trivial (aI rfl (aI trivial (aI trivial (aI rfl (aI rfl (aI rfl (aI rfl (aI trivial (aI rfl (aI rfl (trivial))))))))))))))))))
       ·have y3:¬3≤n:=by have y3:¬(3:Int)≤(n:Int):=of_decide_eq_false y3;omega
        have hX:aC L i n=(((L.getD i 0).toNat,0,0),1):=by unfold aC;rw[if_neg c1,if_neg c2,if_neg (fun x=>y3 x.2.2)]
        refine Qs ?_
        obtain⟨a1,a2,a3,a4,a5,a6,a7⟩:=xW ok hX a8 i3 i2 hi n1 jO.2 fI
        refine aS.round (x:=ly l) ae mixed (i:=16) rfl (by kernel_rfl) rfl rfl ?_
        refine Qs ?_
        refine br (bZ ls row dn) _ (dT L ls g7 c7 jj jq ji jo++[_,_,_,_,_]) 6 4 (s:=(L.getD i 0).toNat) (k:=0) (ex:=0) rfl rfl ok.each a1 a3 a2 a4 i4 a5 (show L.getD ((i:Int).toNat+0) 0=(((L.getD i 0).toNat:Nat):Int) by first|rfl|exact(Int.toNat_of_nonneg kL.1).symm) rfl rfl rfl fun g' c' h'=>?_
        refine Qs ?_
        refine RO.same (i+1,dn++[((L.getD i 0).toNat,0,0)],g',c') ⟨by omega,by rw[List.length_append,List.length_singleton];omega,a6,h'⟩ (show L.length-(i+1)<L.length-i by omega) (aI rfl (aI rfl (aI (congrArg (AV.int .i64) (show _=((i+1:Nat):Int) by omega)) trivial))) (aI rfl (aI rfl (aI rfl (aI rfl (aI rfl (aI rfl (aI trivial (aI rfl (aI trivial (aI trivial (aI rfl (aI rfl (aI rfl (aI rfl (aI trivial (aI rfl (aI rfl (trivial))))))))))))))))))
      ·have y2:¬L.getD (((i:Int)-1).toNat+0) 0=L.getD i 0:=of_decide_eq_false y2
       rw[eg]at y2
       have hX:aC L i n=(((L.getD i 0).toNat,0,0),1):=by unfold aC;rw[if_neg c1,if_neg c2,if_neg (fun x=>y2 x.2.1)]
       refine Qs ?_
       obtain⟨a1,a2,a3,a4,a5,a6,a7⟩:=xW ok hX a8 i3 i2 hi n1 jO.2 fI
       refine aS.round (x:=ly l) ae mixed (i:=16) rfl (by kernel_rfl) rfl rfl ?_
       refine Qs ?_
       refine br (bZ ls row dn) _ (dT L ls g7 c7 jj jq ji jo++[_,_,_,_,_]) 6 4 (s:=(L.getD i 0).toNat) (k:=0) (ex:=0) rfl rfl ok.each a1 a3 a2 a4 i4 a5 (show L.getD ((i:Int).toNat+0) 0=(((L.getD i 0).toNat:Nat):Int) by first|rfl|exact(Int.toNat_of_nonneg kL.1).symm) rfl rfl rfl fun g' c' h'=>?_
       refine Qs ?_
       refine RO.same (i+1,dn++[((L.getD i 0).toNat,0,0)],g',c') ⟨by omega,by rw[List.length_append,List.length_singleton];omega,a6,h'⟩ (show L.length-(i+1)<L.length-i by omega) (aI rfl (aI rfl (aI (congrArg (AV.int .i64) (show _=((i+1:Nat):Int) by omega)) trivial))) (aI rfl (aI rfl (aI rfl (aI rfl (aI rfl (aI rfl (aI trivial (aI rfl (aI trivial (aI trivial (aI rfl (aI rfl (aI rfl (aI rfl (aI trivial (aI rfl (aI rfl (trivial))))))))))))))))))
     ·have y1:¬0<i:=by have y1:¬(0:Int)<(i:Int):=of_decide_eq_false y1;omega
      have hX:aC L i n=(((L.getD i 0).toNat,0,0),1):=by unfold aC;rw[if_neg c1,if_neg c2,if_neg (fun x=>y1 x.1)]
      refine Qs ?_
      obtain⟨a1,a2,a3,a4,a5,a6,a7⟩:=xW ok hX a8 i3 i2 hi n1 jO.2 fI
      refine aS.round (x:=ly l) ae mixed (i:=16) rfl (by kernel_rfl) rfl rfl ?_
      refine Qs ?_
      refine br (bZ ls row dn) _ (dT L ls g7 c7 jj jq ji jo++[_,_,_,_,_]) 6 4 (s:=(L.getD i 0).toNat) (k:=0) (ex:=0) rfl rfl ok.each a1 a3 a2 a4 i4 a5 (show L.getD ((i:Int).toNat+0) 0=(((L.getD i 0).toNat:Nat):Int) by first|rfl|exact(Int.toNat_of_nonneg kL.1).symm) rfl rfl rfl fun g' c' h'=>?_
      refine Qs ?_
      refine RO.same (i+1,dn++[((L.getD i 0).toNat,0,0)],g',c') ⟨by omega,by rw[List.length_append,List.length_singleton];omega,a6,h'⟩ (show L.length-(i+1)<L.length-i by omega) (aI rfl (aI rfl (aI (congrArg (AV.int .i64) (show _=((i+1:Nat):Int) by omega)) trivial))) (aI rfl (aI rfl (aI rfl (aI rfl (aI rfl (aI rfl (aI trivial (aI rfl (aI trivial (aI trivial (aI rfl (aI rfl (aI rfl (aI rfl (aI trivial (aI rfl (aI rfl (trivial))))))))))))))))))
  ·have h2:¬i+n<L.length:=by have q2:¬(i:Int)+(n:Int)<(L.length:Int):=of_decide_eq_false q2;omega
   have hn:runN L i L.length 1=n:=by
    rw[←n3,show L.length-(n-1)=(L.length-(n+1-1))+1 by omega,runN,if_neg (fun x=>h2 x.1)]
   rw[hn]at a8
   have kL:0≤L.getD ((i:Int).toNat+0) 0∧L.getD ((i:Int).toNat+0) 0<16:=Xl i hi
   refine Qs ?_
   refine And.intro (fun z1=>?_) (fun z1=>?_)
   ·have z1:L.getD i 0=0:=of_decide_eq_true z1
    refine Qs ?_
    refine And.intro (fun z2=>?_) (fun z2=>?_)
    ·have z2:11≤n:=by have z2:(11:Int)≤(n:Int):=of_decide_eq_true z2;omega
     have hX:aC L i n=((18,min n 138-11,7),min n 138):=by unfold aC;rw[if_pos ⟨z1,z2⟩]
     have eE:min (n:Int) 138-11=((min n 138-11:Nat):Int):=by omega
     refine Qs ?_
     rw[eE]
     obtain⟨a1,a2,a3,a4,a5,a6,a7⟩:=xW ok hX a8 i3 i2 hi n1 jO.2 fI
     refine aS.round (x:=ly l) ae mixed (i:=16) rfl (by kernel_rfl) rfl rfl ?_
     refine Qs ?_
     refine br (bZ ls row dn) _ (dT L ls g7 c7 jj jq ji jo++[_,_,_,_,_]) 6 4 (s:=18) (k:=7) (ex:=(min n 138-11)) rfl rfl ok.each a1 a3 a2 a4 i4 a5 (show(18:Int)=((18:Nat):Int) by first|rfl|exact(Int.toNat_of_nonneg kL.1).symm) rfl rfl rfl fun g' c' h'=>?_
     refine Qs ?_
     refine RO.same (i+(min n 138),dn++[(18,(min n 138-11),7)],g',c') ⟨by omega,by rw[List.length_append,List.length_singleton];omega,a6,h'⟩ (show L.length-(i+(min n 138))<L.length-i by omega) (aI rfl (aI rfl (aI (congrArg (AV.int .i64) (show _=((i+(min n 138):Nat):Int) by omega)) trivial))) (aI rfl (aI rfl (aI rfl (aI rfl (aI rfl (aI rfl (aI trivial (aI rfl (aI trivial (aI trivial (aI rfl (aI rfl (aI rfl (aI rfl (aI trivial (aI rfl (aI rfl (trivial))))))))))))))))))
    ·have z2:¬11≤n:=by have z2:¬(11:Int)≤(n:Int):=of_decide_eq_false z2;omega
     refine Qs ?_
     refine And.intro (fun z3=>?_) (fun z3=>?_)
     rotate_left
     ·exact absurd z1 (of_decide_eq_false z3)
     refine Qs ?_
     refine And.intro (fun z4=>?_) (fun z4=>?_)
     ·have z4:3≤n:=by have z4:(3:Int)≤(n:Int):=of_decide_eq_true z4;omega
      have hX:aC L i n=((17,n-3,3),n):=by unfold aC;rw[if_neg (fun x=>z2 x.2),if_pos ⟨z1,z4⟩]
      have eE:(n:Int)-3=((n-3:Nat):Int):=by omega
      refine Qs ?_
      rw[eE]
      obtain⟨a1,a2,a3,a4,a5,a6,a7⟩:=xW ok hX a8 i3 i2 hi n1 jO.2 fI
      refine aS.round (x:=ly l) ae mixed (i:=16) rfl (by kernel_rfl) rfl rfl ?_
      refine Qs ?_
      refine br (bZ ls row dn) _ (dT L ls g7 c7 jj jq ji jo++[_,_,_,_,_]) 6 4 (s:=17) (k:=3) (ex:=(n-3)) rfl rfl ok.each a1 a3 a2 a4 i4 a5 (show(17:Int)=((17:Nat):Int) by first|rfl|exact(Int.toNat_of_nonneg kL.1).symm) rfl rfl rfl fun g' c' h'=>?_
      refine Qs ?_
      refine RO.same (i+n,dn++[(17,(n-3),3)],g',c') ⟨by omega,by rw[List.length_append,List.length_singleton];omega,a6,h'⟩ (show L.length-(i+n)<L.length-i by omega) (aI rfl (aI rfl (aI (congrArg (AV.int .i64) (show _=((i+n:Nat):Int) by omega)) trivial))) (aI rfl (aI rfl (aI rfl (aI rfl (aI rfl (aI rfl (aI trivial (aI rfl (aI trivial (aI trivial (aI rfl (aI rfl (aI rfl (aI rfl (aI trivial (aI rfl (aI rfl (trivial))))))))))))))))))
     ·have z4:¬3≤n:=by have z4:¬(3:Int)≤(n:Int):=of_decide_eq_false z4;omega
      have c1:¬(L.getD i 0=0∧11≤n):=fun x=>z2 x.2
      have c2:¬(L.getD i 0=0∧3≤n):=fun x=>z4 x.2
      refine Qs ?_
      refine And.intro (fun y1=>?_) (fun y1=>?_)
      ·have y1:0<i:=by have y1:(0:Int)<(i:Int):=of_decide_eq_true y1;omega
       have ei:(i:Int)-1=((i-1:Nat):Int):=by omega
       have eg:L.getD (((i:Int)-1).toNat+0) 0=L.getD (i-1) 0:=by rw[ei];rfl
       refine Qs ?_
       refine And.intro (fun y2=>?_) (fun y2=>?_)
       ·have y2:L.getD (((i:Int)-1).toNat+0) 0=L.getD i 0:=of_decide_eq_true y2
        rw[eg]at y2
        refine Qs ?_
        refine And.intro (fun y3=>?_) (fun y3=>?_)
        ·have y3:3≤n:=by have y3:(3:Int)≤(n:Int):=of_decide_eq_true y3;omega
         have hX:aC L i n=((16,min n 6-3,2),min n 6):=by unfold aC;rw[if_neg c1,if_neg c2,if_pos ⟨y1,y2,y3⟩]
         have eE:min (n:Int) 6-3=((min n 6-3:Nat):Int):=by omega
         refine Qs ?_
         rw[eE]
         obtain⟨a1,a2,a3,a4,a5,a6,a7⟩:=xW ok hX a8 i3 i2 hi n1 jO.2 fI
         refine aS.round (x:=ly l) ae mixed (i:=16) rfl (by kernel_rfl) rfl rfl ?_
         refine Qs ?_
         refine br (bZ ls row dn) _ (dT L ls g7 c7 jj jq ji jo++[_,_,_,_,_]) 6 4 (s:=16) (k:=2) (ex:=(min n 6-3)) rfl rfl ok.each a1 a3 a2 a4 i4 a5 (show(16:Int)=((16:Nat):Int) by first|rfl|exact(Int.toNat_of_nonneg kL.1).symm) rfl rfl rfl fun g' c' h'=>?_
         refine Qs ?_
         refine RO.same (i+(min n 6),dn++[(16,(min n 6-3),2)],g',c') ⟨by omega,by rw[List.length_append,List.length_singleton];omega,a6,h'⟩ (show L.length-(i+(min n 6))<L.length-i by omega) (aI rfl (aI rfl (aI (congrArg (AV.int .i64) (show _=((i+(min n 6):Nat):Int) by omega)) trivial))) (aI rfl (aI rfl (aI rfl (aI rfl (aI rfl (aI rfl (aI trivial (aI rfl (aI trivial (aI trivial (aI rfl (aI rfl (aI rfl (aI rfl (aI trivial (aI rfl (aI rfl (trivial))))))))))))))))))
        ·have y3:¬3≤n:=by have y3:¬(3:Int)≤(n:Int):=of_decide_eq_false y3;omega
         have hX:aC L i n=(((L.getD i 0).toNat,0,0),1):=by unfold aC;rw[if_neg c1,if_neg c2,if_neg (fun x=>y3 x.2.2)]
         refine Qs ?_
         obtain⟨a1,a2,a3,a4,a5,a6,a7⟩:=xW ok hX a8 i3 i2 hi n1 jO.2 fI
         refine aS.round (x:=ly l) ae mixed (i:=16) rfl (by kernel_rfl) rfl rfl ?_
         refine Qs ?_
         refine br (bZ ls row dn) _ (dT L ls g7 c7 jj jq ji jo++[_,_,_,_,_]) 6 4 (s:=(L.getD i 0).toNat) (k:=0) (ex:=0) rfl rfl ok.each a1 a3 a2 a4 i4 a5 (show L.getD ((i:Int).toNat+0) 0=(((L.getD i 0).toNat:Nat):Int) by first|rfl|exact(Int.toNat_of_nonneg kL.1).symm) rfl rfl rfl fun g' c' h'=>?_
         refine Qs ?_
         refine RO.same (i+1,dn++[((L.getD i 0).toNat,0,0)],g',c') ⟨by omega,by rw[List.length_append,List.length_singleton];omega,a6,h'⟩ (show L.length-(i+1)<L.length-i by omega) (aI rfl (aI rfl (aI (congrArg (AV.int .i64) (show _=((i+1:Nat):Int) by omega)) trivial))) (aI rfl (aI rfl (aI rfl (aI rfl (aI rfl (aI rfl (aI trivial (aI rfl (aI trivial (aI trivial (aI rfl (aI rfl (aI rfl (aI rfl (aI trivial (aI rfl (aI rfl (trivial))))))))))))))))))
       ·have y2:¬L.getD (((i:Int)-1).toNat+0) 0=L.getD i 0:=of_decide_eq_false y2
        rw[eg]at y2
        have hX:aC L i n=(((L.getD i 0).toNat,0,0),1):=by unfold aC;rw[if_neg c1,if_neg c2,if_neg (fun x=>y2 x.2.1)]
        refine Qs ?_
        obtain⟨a1,a2,a3,a4,a5,a6,a7⟩:=xW ok hX a8 i3 i2 hi n1 jO.2 fI
        refine aS.round (x:=ly l) ae mixed (i:=16) rfl (by kernel_rfl) rfl rfl ?_
        refine Qs ?_
        refine br (bZ ls row dn) _ (dT L ls g7 c7 jj jq ji jo++[_,_,_,_,_]) 6 4 (s:=(L.getD i 0).toNat) (k:=0) (ex:=0) rfl rfl ok.each a1 a3 a2 a4 i4 a5 (show L.getD ((i:Int).toNat+0) 0=(((L.getD i 0).toNat:Nat):Int) by first|rfl|exact(Int.toNat_of_nonneg kL.1).symm) rfl rfl rfl fun g' c' h'=>?_
        refine Qs ?_
        refine RO.same (i+1,dn++[((L.getD i 0).toNat,0,0)],g',c') ⟨by omega,by rw[List.length_append,List.length_singleton];omega,a6,h'⟩ (show L.length-(i+1)<L.length-i by omega) (aI rfl (aI rfl (aI (congrArg (AV.int .i64) (show _=((i+1:Nat):Int) by omega)) trivial))) (aI rfl (aI rfl (aI rfl (aI rfl (aI rfl (aI rfl (aI trivial (aI rfl (aI trivial (aI trivial (aI rfl (aI rfl (aI rfl (aI rfl (aI trivial (aI rfl (aI rfl (trivial))))))))))))))))))
      ·have y1:¬0<i:=by have y1:¬(0:Int)<(i:Int):=of_decide_eq_false y1;omega
       have hX:aC L i n=(((L.getD i 0).toNat,0,0),1):=by unfold aC;rw[if_neg c1,if_neg c2,if_neg (fun x=>y1 x.1)]
       refine Qs ?_
       obtain⟨a1,a2,a3,a4,a5,a6,a7⟩:=xW ok hX a8 i3 i2 hi n1 jO.2 fI
       refine aS.round (x:=ly l) ae mixed (i:=16) rfl (by kernel_rfl) rfl rfl ?_
       refine Qs ?_
       refine br (bZ ls row dn) _ (dT L ls g7 c7 jj jq ji jo++[_,_,_,_,_]) 6 4 (s:=(L.getD i 0).toNat) (k:=0) (ex:=0) rfl rfl ok.each a1 a3 a2 a4 i4 a5 (show L.getD ((i:Int).toNat+0) 0=(((L.getD i 0).toNat:Nat):Int) by first|rfl|exact(Int.toNat_of_nonneg kL.1).symm) rfl rfl rfl fun g' c' h'=>?_
       refine Qs ?_
       refine RO.same (i+1,dn++[((L.getD i 0).toNat,0,0)],g',c') ⟨by omega,by rw[List.length_append,List.length_singleton];omega,a6,h'⟩ (show L.length-(i+1)<L.length-i by omega) (aI rfl (aI rfl (aI (congrArg (AV.int .i64) (show _=((i+1:Nat):Int) by omega)) trivial))) (aI rfl (aI rfl (aI rfl (aI rfl (aI rfl (aI rfl (aI trivial (aI rfl (aI trivial (aI trivial (aI rfl (aI rfl (aI rfl (aI rfl (aI trivial (aI rfl (aI rfl (trivial))))))))))))))))))
   ·have z1:¬L.getD i 0=0:=of_decide_eq_false z1
    have c1:¬(L.getD i 0=0∧11≤n):=fun x=>z1 x.1
    have c2:¬(L.getD i 0=0∧3≤n):=fun x=>z1 x.1
    refine Qs ?_
    refine And.intro (fun z3=>?_) (fun z3=>?_)
    ·exact absurd (of_decide_eq_true z3) z1
    refine Qs ?_
    refine And.intro (fun y1=>?_) (fun y1=>?_)
    ·have y1:0<i:=by have y1:(0:Int)<(i:Int):=of_decide_eq_true y1;omega
     have ei:(i:Int)-1=((i-1:Nat):Int):=by omega
     have eg:L.getD (((i:Int)-1).toNat+0) 0=L.getD (i-1) 0:=by rw[ei];rfl
     refine Qs ?_
     refine And.intro (fun y2=>?_) (fun y2=>?_)
     ·have y2:L.getD (((i:Int)-1).toNat+0) 0=L.getD i 0:=of_decide_eq_true y2
      rw[eg]at y2
      refine Qs ?_
      refine And.intro (fun y3=>?_) (fun y3=>?_)
      ·have y3:3≤n:=by have y3:(3:Int)≤(n:Int):=of_decide_eq_true y3;omega
       have hX:aC L i n=((16,min n 6-3,2),min n 6):=by unfold aC;rw[if_neg c1,if_neg c2,if_pos ⟨y1,y2,y3⟩]
       have eE:min (n:Int) 6-3=((min n 6-3:Nat):Int):=by omega
       refine Qs ?_
       rw[eE]
       obtain⟨a1,a2,a3,a4,a5,a6,a7⟩:=xW ok hX a8 i3 i2 hi n1 jO.2 fI
       refine aS.round (x:=ly l) ae mixed (i:=16) rfl (by kernel_rfl) rfl rfl ?_
       refine Qs ?_
       refine br (bZ ls row dn) _ (dT L ls g7 c7 jj jq ji jo++[_,_,_,_,_]) 6 4 (s:=16) (k:=2) (ex:=(min n 6-3)) rfl rfl ok.each a1 a3 a2 a4 i4 a5 (show(16:Int)=((16:Nat):Int) by first|rfl|exact(Int.toNat_of_nonneg kL.1).symm) rfl rfl rfl fun g' c' h'=>?_
       refine Qs ?_
       refine RO.same (i+(min n 6),dn++[(16,(min n 6-3),2)],g',c') ⟨by omega,by rw[List.length_append,List.length_singleton];omega,a6,h'⟩ (show L.length-(i+(min n 6))<L.length-i by omega) (aI rfl (aI rfl (aI (congrArg (AV.int .i64) (show _=((i+(min n 6):Nat):Int) by omega)) trivial))) (aI rfl (aI rfl (aI rfl (aI rfl (aI rfl (aI rfl (aI trivial (aI rfl (aI trivial (aI trivial (aI rfl (aI rfl (aI rfl (aI rfl (aI trivial (aI rfl (aI rfl (trivial))))))))))))))))))
      ·have y3:¬3≤n:=by have y3:¬(3:Int)≤(n:Int):=of_decide_eq_false y3;omega
       have hX:aC L i n=(((L.getD i 0).toNat,0,0),1):=by unfold aC;rw[if_neg c1,if_neg c2,if_neg (fun x=>y3 x.2.2)]
       refine Qs ?_
       obtain⟨a1,a2,a3,a4,a5,a6,a7⟩:=xW ok hX a8 i3 i2 hi n1 jO.2 fI
       refine aS.round (x:=ly l) ae mixed (i:=16) rfl (by kernel_rfl) rfl rfl ?_
       refine Qs ?_
       refine br (bZ ls row dn) _ (dT L ls g7 c7 jj jq ji jo++[_,_,_,_,_]) 6 4 (s:=(L.getD i 0).toNat) (k:=0) (ex:=0) rfl rfl ok.each a1 a3 a2 a4 i4 a5 (show L.getD ((i:Int).toNat+0) 0=(((L.getD i 0).toNat:Nat):Int) by first|rfl|exact(Int.toNat_of_nonneg kL.1).symm) rfl rfl rfl fun g' c' h'=>?_
       refine Qs ?_
       refine RO.same (i+1,dn++[((L.getD i 0).toNat,0,0)],g',c') ⟨by omega,by rw[List.length_append,List.length_singleton];omega,a6,h'⟩ (show L.length-(i+1)<L.length-i by omega) (aI rfl (aI rfl (aI (congrArg (AV.int .i64) (show _=((i+1:Nat):Int) by omega)) trivial))) (aI rfl (aI rfl (aI rfl (aI rfl (aI rfl (aI rfl (aI trivial (aI rfl (aI trivial (aI trivial (aI rfl (aI rfl (aI rfl (aI rfl (aI trivial (aI rfl (aI rfl (trivial))))))))))))))))))
     ·have y2:¬L.getD (((i:Int)-1).toNat+0) 0=L.getD i 0:=of_decide_eq_false y2
      rw[eg]at y2
      have hX:aC L i n=(((L.getD i 0).toNat,0,0),1):=by unfold aC;rw[if_neg c1,if_neg c2,if_neg (fun x=>y2 x.2.1)]
      refine Qs ?_
      obtain⟨a1,a2,a3,a4,a5,a6,a7⟩:=xW ok hX a8 i3 i2 hi n1 jO.2 fI
      refine aS.round (x:=ly l) ae mixed (i:=16) rfl (by kernel_rfl) rfl rfl ?_
      refine Qs ?_
      refine br (bZ ls row dn) _ (dT L ls g7 c7 jj jq ji jo++[_,_,_,_,_]) 6 4 (s:=(L.getD i 0).toNat) (k:=0) (ex:=0) rfl rfl ok.each a1 a3 a2 a4 i4 a5 (show L.getD ((i:Int).toNat+0) 0=(((L.getD i 0).toNat:Nat):Int) by first|rfl|exact(Int.toNat_of_nonneg kL.1).symm) rfl rfl rfl fun g' c' h'=>?_
      refine Qs ?_
      refine RO.same (i+1,dn++[((L.getD i 0).toNat,0,0)],g',c') ⟨by omega,by rw[List.length_append,List.length_singleton];omega,a6,h'⟩ (show L.length-(i+1)<L.length-i by omega) (aI rfl (aI rfl (aI (congrArg (AV.int .i64) (show _=((i+1:Nat):Int) by omega)) trivial))) (aI rfl (aI rfl (aI rfl (aI rfl (aI rfl (aI rfl (aI trivial (aI rfl (aI trivial (aI trivial (aI rfl (aI rfl (aI rfl (aI rfl (aI trivial (aI rfl (aI rfl (trivial))))))))))))))))))
    ·have y1:¬0<i:=by have y1:¬(0:Int)<(i:Int):=of_decide_eq_false y1;omega
     have hX:aC L i n=(((L.getD i 0).toNat,0,0),1):=by unfold aC;rw[if_neg c1,if_neg c2,if_neg (fun x=>y1 x.1)]
     refine Qs ?_
     obtain⟨a1,a2,a3,a4,a5,a6,a7⟩:=xW ok hX a8 i3 i2 hi n1 jO.2 fI
     refine aS.round (x:=ly l) ae mixed (i:=16) rfl (by kernel_rfl) rfl rfl ?_
     refine Qs ?_
     refine br (bZ ls row dn) _ (dT L ls g7 c7 jj jq ji jo++[_,_,_,_,_]) 6 4 (s:=(L.getD i 0).toNat) (k:=0) (ex:=0) rfl rfl ok.each a1 a3 a2 a4 i4 a5 (show L.getD ((i:Int).toNat+0) 0=(((L.getD i 0).toNat:Nat):Int) by first|rfl|exact(Int.toNat_of_nonneg kL.1).symm) rfl rfl rfl fun g' c' h'=>?_
     refine Qs ?_
     refine RO.same (i+1,dn++[((L.getD i 0).toNat,0,0)],g',c') ⟨by omega,by rw[List.length_append,List.length_singleton];omega,a6,h'⟩ (show L.length-(i+1)<L.length-i by omega) (aI rfl (aI rfl (aI (congrArg (AV.int .i64) (show _=((i+1:Nat):Int) by omega)) trivial))) (aI rfl (aI rfl (aI rfl (aI rfl (aI rfl (aI rfl (aI trivial (aI rfl (aI trivial (aI trivial (aI rfl (aI rfl (aI rfl (aI rfl (aI trivial (aI rfl (aI rfl (trivial))))))))))))))))))
 ·have hi:¬i<L.length:=by have q1:¬(i:Int)<(L.length:Int):=of_decide_eq_false q1;omega
  have hdn:dn=bt L:=by
   rw[←i3,show L.length-i=0 by omega];exact(List.append_nil dn).symm
  refine Qs ?_
  refine Or.inl (And.intro rfl ?_)
  subst hdn
  refine Qs ?_
  refine lB.mk ⟨(g,c),i4⟩ (aI rfl (trivial)) (aI rfl (aI rfl (aI rfl (aI rfl (aI rfl (aI rfl (aI trivial (aI trivial (aI trivial (aI trivial (aI trivial (aI trivial (aI trivial (aI trivial (aI trivial (trivial))))))))))))))))
end
end Go.Proofs.Ytibadaomjlkoaaa
open Go.RowKit
namespace Go.Proofs.Ytibadaomjlkoaaa
set_option maxRecDepth 10000
section
variable{K Kp:AV→AH→Prop}{ts:List Tk}{gt ct:Nat}
set_option maxHeartbeats 4000000 in
theorem Ms {g0 c0:Nat}(lL:∀t∈ts,RE t)(m7:ts.length≤150000)(CI:ts.length≤ct)
 (h:∀g c ga ca gd cd,(aU (dM ts (fu ts) (fq ts))).length≤c→K (.aE []) (ic (dX ts gt ct (fu ts) ga ca (fq ts) gd cd) (dM ts (fu ts) (fq ts)) g c)):
 aa Try.prog 17 [.ptr 0 0 0] (w3 ts gt ct g0 c0) K Kp:=by
 have bk:=Bc lL m7
 obtain⟨A,hA⟩:∃A,fu ts=A:=⟨_,rfl⟩
 obtain⟨D,hD⟩:∃D,fq ts=D:=⟨_,rfl⟩
 rw[hA,hD]at h bk
 obtain⟨L,hL⟩:∃L,A++D=L:=⟨_,rfl⟩
 have Nl:=bk.al
 have Rm:=bk.dl
 have jO:258≤L.length∧L.length≤316:=by rw[←hL,List.length_append];omega
 have Nk:∀x∈L,0≤x∧x<16:=by
  intro x hx
  rw[←hL]at hx
  rcases List.mem_append.1 hx with h|h
  ·exact bk.ab x h
  ·exact bk.db x h
 obtain⟨hle,ok⟩:=z8 jO.2 Nk
 obtain⟨ls,ED⟩:∃ls,M8 L=ls:=⟨_,rfl⟩
 obtain⟨N,hN⟩:∃N,nL L=N:=⟨_,rfl⟩
 have Xj:=Ld L
 have ZD:jA ls 15 19=N:=by rw[←hN,←ED];rfl
 have hNL:nL (A++D)=N:=by rw[hL];exact hN
 rw[ED]at hle ok
 rw[hN]at Xj
 obtain⟨row,dY⟩:∃row,iK A D++eT ls N=row:=⟨_,rfl⟩
 have fJ:row.length≤74:=by rw[←dY,List.length_append,kZ];have:=vL ls N;omega
 have hrB:=rk ok (bt L) (fun x hx=>hx)
 have hrn:(bt L).length≤L.length:=oL L L.length 0
 have LY:dM ts A D=row++fl ls (bt L)++(bY A D ts++bf A 256):=by
  unfold dM;rw[hL,ED,hN,dY]
 refine aa.cQ ?_
 refine aa.Lv (x:=UF) ae mixed Try.func17 (rfl:Try.f17.body=some qz) (by kernel_rfl) Hd rfl rfl rfl rfl ?_
 refine WA.cut (x:=UF) ae mixed (dl1 L) (dH1 ts gt ct g0 c0 A D L) (fun _=>rfl) (fun _=>rfl) (fun _=>⟨rfl,trivial,fun j=>rfl,rfl,trivial,trivial,trivial,trivial,trivial,rfl,trivial⟩) 5 _ _ Hd (aaL lL m7 CI hA hD hL bk) fun s1 d1=>?_
 obtain⟨ga,ca,gd,cd,g7,c7⟩:=s1
 refine WA.cut (x:=YY) ae mixed (dl2 L N g7 c7) (ZG ts gt ct g0 c0 A D L ls ga ca gd cd g7 c7) (fun _=>rfl) (fun _=>rfl) (fun _=>⟨rfl,trivial,fun j=>rfl,rfl,trivial,trivial,trivial,trivial,trivial,trivial,trivial,rfl,trivial,rfl,trivial,trivial⟩) 4 _ _ (by kernel_rfl) (aaK ZD hle ok d1) fun s2 d2=>?_
 obtain⟨jj,jq,ji,jo⟩:=s2
 refine WA.cut (x:=YX) ae mixed (dl3 L g7 c7) (dH3 ts gt ct A D L ls (iK A D++eT ls N) ga ca gd cd g7 c7 jj jq ji jo) (fun _=>rfl) (fun _=>rfl) (fun _=>⟨rfl,trivial,fun j=>rfl,rfl,trivial,trivial,trivial,trivial,trivial,trivial,trivial,rfl,trivial,rfl,trivial,trivial⟩) 5 _ _ (by kernel_rfl) (aaJ Xj hNL Nl Rm ok d2) fun s3 d3=>?_
 obtain⟨⟨g3,c3⟩,h3⟩:=s3
 refine WA.cut (x:=Qw) ae mixed dl4 (dH4 ts gt ct A D (bZ ls (iK A D++eT ls N) (bt L)) ga ca gd cd) (fun _=>rfl) (fun _=>rfl) (fun _=>⟨rfl,trivial,fun j=>rfl,rfl,trivial,trivial,trivial,trivial,trivial,trivial,trivial,trivial,trivial,trivial,trivial,trivial⟩) 1 _ _ (by kernel_rfl) (aaI jO Nk (by rw[dY];exact fJ) ok _ d3) fun s4 d4=>?_
 obtain⟨⟨g4,c4⟩,h4⟩:=s4
 refine WA.last (x:=Qw) ae mixed (by kernel_rfl) ?_
 have Zj:bZ ls (iK A D++eT ls N) (bt L)=row++fl ls (bt L):=by rw[dY,vt]
 have hAb:∀x∈A,0≤x∧x<256:=fun x hx=>by have:=bk.ab x hx;omega
 have hDb:∀x∈D,0≤x∧x<256:=fun x hx=>by have:=bk.db x hx;omega
 have h4:(aU (bZ ls (iK A D++eT ls N) (bt L))).length≤c4:=h4
 have hl4:(bZ ls (iK A D++eT ls N) (bt L)).length≤8000:=by rw[Zj,List.length_append];omega
 rw[←Zj]at LY
 obtain⟨R,hR⟩:∃R,bZ ls (iK A D++eT ls N) (bt L)=R:=⟨_,rfl⟩
 rw[hR]at h4 hl4 LY
 show au Qw (kT 1 (kT 5 (kT 4 (kT 5 qz)))) _ _ (mN [(1,.ptr 3 0 0)] d4) (xp ts gt ct A ga ca D gd cd (bZ ls (iK A D++eT ls N) (bt L)) g4 c4++[AO.gone,AO.gone,AO.gone,AO.gone,AO.gone,AO.gone,AO.gone,AO.gone,AO.gone])
 rw[hR]
 refine Qs ?_
 refine aa.lift [.own 0,.own 1,.own 2,.own 4,.own 5] (wH (ts:=ts) (gt:=gt) (ct:=ct) (A:=A) (ga:=ga) (ca:=ca) (D:=D) (gd:=gd) (cd:=cd) (row:=R) (g:=g4) (c:=c4)
  (K:=fun r N=>∃g c,(aU (R++(bY A D ts++bf A 256))).length≤c∧r=.aE []∧N=ic (dX ts gt ct A ga ca D gd cd) (R++(bY A D ts++bf A 256)) g c) (Kp:=fun _ _=>False) bk.ea bk.ed hAb hDb (by omega) (by omega) bk.fin bk.ZL m7 CI
  (by omega) h4 (fun g c hc=>⟨g,c,hc,rfl,rfl⟩)) rfl rfl ⟨⟨rfl,rfl⟩,⟨rfl,rfl⟩,⟨rfl,rfl⟩,⟨rfl,rfl⟩,⟨rfl,rfl⟩,trivial⟩ ⟨rfl,trivial,fun j=>rfl,trivial,trivial,trivial⟩ ?_ (fun _ _ h=>h.elim)
 rintro r M' ⟨g,c,hc,rfl,rfl⟩
 refine⟨⟨rfl,rfl,rfl,rfl,rfl,rfl⟩,?_⟩
 rw[LY]at h
 refine Qs ?_
 refine⟨[.own 0,.own 1,.own 2,.own 4,.own 5],.aE [],ic (dX ts gt ct A ga ca D gd cd) (R++(bY A D ts++bf A 256)) g c,⟨⟨⟨rfl,rfl⟩,⟨rfl,rfl⟩,⟨rfl,rfl⟩,⟨rfl,rfl⟩,⟨rfl,rfl⟩,trivial⟩,rfl,⟨rfl,trivial,fun j=>rfl,trivial,trivial,trivial⟩,rfl,fun i hi=>?_⟩,?_⟩
 ·match i,hi with
  |0,_=>exact .inl rfl
  |1,_=>exact .inl rfl
  |2,_=>exact .inl rfl
 ·exact h g c ga ca gd cd hc
end
end Go.Proofs.Ytibadaomjlkoaaa
