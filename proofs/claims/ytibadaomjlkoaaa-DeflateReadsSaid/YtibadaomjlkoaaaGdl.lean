import Derived.Test.YtibadaomjlkoaaaGdk
set_option linter.unusedVariables false
set_option linter.unusedSimpArgs false
open Go.RowKit
namespace Go.Proofs.Ytibadaomjlkoaaa
set_option maxRecDepth 10000
def qn (f:List Int)(x:Nat×Nat×Nat):List Int:=sM f x.1
def wx (dn:List (Nat×Nat×Nat)):List Int:=dn.foldl qn (List.replicate 19 0)
theorem AP (dn:List (Nat×Nat×Nat)):(wx dn).length=19:=by
 have:∀(dn:List (Nat×Nat×Nat))(f:List Int),(dn.foldl qn f).length=f.length:=by
  intro dn
  induction dn with
  |nil=>intro f;rfl
  |cons x dn ih=>intro f;rw[List.foldl_cons,ih];exact rG _ _
 unfold wx;rw[this,List.length_replicate]
theorem HL (dn:List (Nat×Nat×Nat))(j:Nat):0≤(wx dn).getD j 0∧(wx dn).getD j 0≤dn.length:=by
 have:∀(dn:List (Nat×Nat×Nat))(f:List Int),f.getD j 0≤(dn.foldl qn f).getD j 0∧(dn.foldl qn f).getD j 0≤f.getD j 0+dn.length:=by
  intro dn
  induction dn with
  |nil=>intro f;simp
  |cons x dn ih=>
   intro f
   have h1:=ih (qn f x)
   have h2:=nS f x.1 j
   rw[List.foldl_cons,List.length_cons]
   unfold qn at h1⊢
   omega
 have h:=this dn (List.replicate 19 0)
 rw[jw]at h
 unfold wx;omega
theorem Mh (dn:List (Nat×Nat×Nat))(x:Nat×Nat×Nat):wx (dn++[x])=sM (wx dn) x.1:=by
 unfold wx;rw[List.foldl_append];rfl
theorem Qh {dn:List (Nat×Nat×Nat)}{x:Nat×Nat×Nat}(h:x∈dn)(hx:x.1<19):0<(wx dn).getD x.1 0:=by
 have mono:∀(dn:List (Nat×Nat×Nat))(f:List Int)(j:Nat),f.getD j 0≤(dn.foldl qn f).getD j 0:=by
  intro dn
  induction dn with
  |nil=>intro f j;exact Int.le_refl _
  |cons y dn ih=>
   intro f j
   have h1:=ih (qn f y) j
   have h2:=(nS f y.1 j).1
   rw[List.foldl_cons]
   unfold qn at h1⊢
   omega
 have key:∀(dn:List (Nat×Nat×Nat))(f:List Int),f.length=19→(∀j,0≤f.getD j 0)→x∈dn→0<(dn.foldl qn f).getD x.1 0:=by
  intro dn
  induction dn with
  |nil=>intro f _ _ h;cases h
  |cons y dn ih=>
   intro f hf h0 h
   rw[List.foldl_cons]
   rcases List.mem_cons.1 h with rfl|h
   ·have h1:=mono dn (qn f x) x.1
    have h2:=rH f x.1 x.1
    rw[if_pos ⟨rfl,by omega⟩]at h2
    have h3:=h0 x.1
    unfold qn at h1⊢
    omega
   ·refine ih (qn f y) (by unfold qn;rw[rG];exact hf) (fun j=>?_) h
    have:=(nS f y.1 j).1
    have:=h0 j
    unfold qn;omega
 exact key dn _ List.length_replicate (fun j=>by rw[jw];exact Int.le_refl _) h
theorem ym {l:List Int}{P:Nat×Nat×Nat→Prop}(h:∀i,i<l.length→∀n,P (aC l i n).1):∀k i,∀x∈dc l k i,P x
 |0,i,x,hx=>by cases hx
 |k+1,i,x,hx=>by
  simp only[dc]at hx
  split at hx
  ·rename_i hc
   rcases List.mem_cons.1 hx with rfl|hx
   ·exact h i hc _
   ·exact ym h k _ x hx
  ·cases hx
theorem IB {l:List Int}(hl:∀x∈l,0≤x∧x<16):∀x∈bt l,x.1<19∧x.2.1<2^x.2.2∧x.2.2≤7:=
 ym (P:=fun x=>x.1<19∧x.2.1<2^x.2.2∧x.2.2≤7) (fun i hi n=>KD hl hi) _ _
theorem oL (l:List Int):∀k i,(dc l k i).length≤k
 |0,_=>Nat.le_refl _
 |k+1,i=>by
  simp only[dc]
  split
  ·rw[List.length_cons];have:=oL l k (i+(aC l i (runN l i l.length 1)).2);omega
  ·exact Nat.zero_le _
theorem iQ.RA {fr:List Int}{K:Nat}{l:List Int}(ok:iQ fr K l):∀x∈l,0≤x∧x≤K:=by
 intro x hx
 obtain⟨j,hj,rfl⟩:=List.getElem_of_mem hx
 have e:l[j]=l.getD j 0:=by rw[List.getD_eq_getElem?_getD,List.getElem?_eq_getElem hj];rfl
 rw[e]
 have hlen:=ok.len
 by_cases hp:0<fr.getD j 0
 ·have:=ok.pos j (by omega) hp;omega
 ·have:=ok.zero j (by omega) hp;omega
theorem iQ.has {fr:List Int}{K:Nat}{l:List Int}(ok:iQ fr K l)(hK:K≤15){s:Nat}(hs:s<fr.length)(hp:0<fr.getD s 0):j8 l (s:Int):=by
 have h1:=ok.pos s hs hp
 have hlen:=ok.len
 exact⟨Int.natCast_nonneg _,by omega,by rw[Int.toNat_natCast];exact h1.1,by rw[Int.toNat_natCast];omega⟩
structure Bg (ts:List Tk)(A D:List Int):Prop where
 al:257≤A.length∧A.length≤286
 dl:1≤D.length∧D.length≤30
 ab:∀x∈A,0≤x∧x<16
 db:∀x∈D,0≤x∧x<16
 ea:aB A=0
 ed:aB D=0
 fin:j8 A 256
 ZL:∀t∈ts,QE A D t
theorem Bc {ts:List Tk}(lL:∀t∈ts,RE t)(m7:ts.length≤150000):Bg ts (fu ts) (fq ts):=by
 obtain⟨_,QU⟩:=jE (fr:=mz ts) (by rw[fY];decide) (fun j=>by have:=uI ts j;omega) (K:=15) (by decide) (by decide) (by rw[fY];decide)
 obtain⟨_,UO⟩:=jE (fr:=pT ts) (by rw[jd];decide) (fun j=>by have:=AQ ts j;omega) (K:=15) (by decide) (by decide) (by rw[jd];decide)
 have T3:(bM (mz ts) 15).length=286:=by rw[QU.len,fY]
 have Zq:(bM (pT ts) 15).length=30:=by rw[UO.len,jd]
 obtain⟨mA,hA,WG,hnA,Wc⟩:=lC (n:=257) 286 (bM (mz ts) 15)
 obtain⟨mD,hD,U1,hnD,hzD⟩:=lC (n:=1) 30 (bM (pT ts) 15)
 have Me:fu ts=(bM (mz ts) 15).take mA:=hA
 have Us:fq ts=(bM (pT ts) 15).take mD:=hD
 have hnA:=hnA (by omega)
 have hnD:=hnD (by omega)
 have bA:=QU.RA
 have bD:=UO.RA
 rw[Me,Us]
 refine⟨by rw[List.length_take];omega,by rw[List.length_take];omega,fun x hx=>?_,fun x hx=>?_,zg WG Wc (QU.makes (by decide) (by rw[fY];decide)),zg U1 hzD (UO.makes (by decide) (by rw[jd];decide)),pf WG Wc (QU.has (s:=256) (by decide) (by rw[fY];decide) (Qj ts)),fun t ht=>?_⟩
 ·have:=bA x (List.mem_of_mem_take hx);omega
 ·have:=bD x (List.mem_of_mem_take hx);omega
 ·have hr:=lL t ht
  refine⟨fun hz=>?_,fun hz=>?_⟩
  ·have h1:=hr.one hz
   refine⟨h1.1,h1.2,pf WG Wc ?_⟩
   have h2:=HM ht (by rw[if_pos hz];omega)
   rw[if_pos hz]at h2
   have h3:=QU.has (s:=t.b.toNat) (by decide) (by rw[fY];omega) h2
   rwa[Int.toNat_of_nonneg h1.1]at h3
  ·obtain⟨m1,m2,m3,m4⟩:=hr.rep hz
   obtain⟨l1,l2,l3,l4,_⟩:=gN ⟨m1,m2⟩
   obtain⟨f1,f2,f3,_⟩:=gS (v:=t.d-1) (.inl rfl) (by omega)
   have h2:=HM ht (by rw[if_neg hz];omega)
   rw[if_neg hz]at h2
   have h3:=Qi ht hz (by omega)
   exact⟨m1,m2,m3,m4,pf WG Wc (QU.has (by decide) (by rw[fY];omega) h2),pf U1 hzD (UO.has (by decide) (by rw[jd];omega) h3)⟩
def aV:List Int:=[16,17,18,0,8,7,9,6,10,5,11,4,12,3,13,2,14,1,15]
def jA (ls:List Int):Nat→Nat→Nat
 |0,n=>n
 |k+1,n=>if 4<n∧ls.getD (aV.getD (n-1) 0).toNat 0=0 then jA ls k (n-1)else n
theorem Aj (ls:List Int):∀k n,4≤n→4≤jA ls k n∧jA ls k n≤n
 |0,n,h=>⟨h,Nat.le_refl _⟩
 |k+1,n,h=>by
  simp only[jA]
  split
  ·rename_i hc;have:=Aj ls k (n-1) (by omega);omega
  ·omega
theorem vK:∀j,0≤aV.getD j 0∧aV.getD j 0<19:=by
 intro j
 rcases Nat.lt_or_ge j 19 with h|h
 ·have:∀j,j<19→0≤aV.getD j 0∧aV.getD j 0<19:=by decide
  exact this j h
 ·rw[List.getD_eq_getElem?_getD,List.getElem?_eq_none (show aV.length≤j from h)];decide
def M8 (L:List Int):List Int:=bM (wx (bt L)) 7
def nL (L:List Int):Nat:=jA (M8 L) 15 19
theorem Ld (L:List Int):4≤nL L∧nL L≤19:=Aj _ _ _ (by decide)
def eT (ls:List Int)(n:Nat):List Bool:=(aV.take n).flatMap fun s=>bitsOf (ls.getD s.toNat 0) 3
theorem IP (ls:List Int){i:Nat}(h:i<19):eT ls (i+1)=eT ls i++bitsOf (ls.getD (aV.getD i 0).toNat 0) 3:=by
 unfold eT
 have hl:i<aV.length:=h
 rw[List.take_add_one,List.getElem?_eq_getElem hl,List.flatMap_append]
 simp[List.getD_eq_getElem?_getD,List.getElem?_eq_getElem hl]
theorem sY (ls:List Int):∀l:List Int,(l.flatMap fun s=>bitsOf (ls.getD s.toNat 0) 3).length=3*l.length
 |[]=>rfl
 |x::l=>by rw[List.flatMap_cons,List.length_append,sY ls l,ak,List.length_cons];omega
theorem vL (ls:List Int)(n:Nat):(eT ls n).length≤57:=by
 unfold eT;rw[sY,List.length_take]
 have:aV.length=19:=rfl
 omega
def IG (ls:List Int)(x:Nat×Nat×Nat):List Bool:=bf ls (x.1:Int)++bitsOf (x.2.1:Int) x.2.2
def fl (ls:List Int)(dn:List (Nat×Nat×Nat)):List Bool:=dn.flatMap (IG ls)
structure oq (L:List Int)(ls:List Int):Prop where
 len:ls.length=19
 RA:∀x∈ls,0≤x∧x<8
 each:aB ls=0
 rows:∀x∈bt L,j8 ls (x.1:Int)∧x.2.1<2^x.2.2∧x.2.2≤7
theorem z8 {L:List Int}(hl:L.length≤316)(hb:∀x∈L,0≤x∧x<16):bw (wx (bt L)) 7=(M8 L,0)∧oq L (M8 L):=by
 have y9:=AP (bt L)
 have fJ:(bt L).length≤L.length:=oL L L.length 0
 obtain⟨h1,ok⟩:=jE (fr:=wx (bt L)) (by rw[y9];decide) (fun j=>by have:=HL (bt L) j;omega) (K:=7) (by decide) (by decide) (by rw[y9];decide)
 refine⟨h1,by unfold M8;rw[ok.len,y9],fun x hx=>by have:=ok.RA x hx;omega,ok.makes (by decide) (by rw[y9];decide),fun x hx=>?_⟩
 have h2:=IB hb x hx
 exact⟨ok.has (by decide) (by rw[y9];exact h2.1) (Qh hx h2.1),h2.2⟩
theorem rk {L ls:List Int}(ok:oq L ls):∀dn:List (Nat×Nat×Nat),(∀x∈dn,x∈bt L)→(fl ls dn).length≤22*dn.length
 |[],_=>Nat.le_refl _
 |x::dn,h=>by
  have h1:=rk ok dn (fun y hy=>h y (List.mem_cons_of_mem _ hy))
  obtain⟨h2,h3,h4⟩:=ok.rows x (h x List.mem_cons_self)
  have h5:=j9 h2
  have e:fl ls (x::dn)=IG ls x++fl ls dn:=rfl
  rw[e,List.length_append,List.length_cons]
  unfold IG
  rw[List.length_append,ak]
  omega
def iK (A D:List Int):List Bool:=bitsOf 5 3++bitsOf ((A.length-257:Nat):Int) 5++bitsOf ((D.length-1:Nat):Int) 5++bitsOf ((nL (A++D)-4:Nat):Int) 4
theorem kZ (A D:List Int):(iK A D).length=17:=by
 unfold iK;simp only[List.length_append,ak]
def dM (ts:List Tk)(A D:List Int):List Bool:=iK A D++eT (M8 (A++D)) (nL (A++D))++fl (M8 (A++D)) (bt (A++D))++(bY A D ts++bf A 256)
end Go.Proofs.Ytibadaomjlkoaaa
open Go.RowKit
namespace Go.Proofs.Ytibadaomjlkoaaa
set_option maxRecDepth 10000
noncomputable abbrev lz (l:Nat):Cx:={JF (fun _=>[0,3]) []with r:=some l}
theorem xX {L:List Int}{dn:List (Nat×Nat×Nat)}{i n S E K N:Nat}{SI:Int}(hX:aC L i n=((S,E,K),N))(a8:dc L (L.length-i) i=(aC L i n).1::dc L (L.length-(i+(aC L i n).2)) (i+(aC L i n).2))(i3:dn++dc L (L.length-i) i=bt L)(i2:dn.length≤i)(hi:i<L.length)(n1:1≤n)(hl:L.length≤316)(hS:SI=(S:Int)):
 (wx dn).length=19∧(0≤(wx dn).getD (SI.toNat+0) 0∧(wx dn).getD (SI.toNat+0) 0≤400)∧wx (dn++[(S,E,K)])=(wx dn).set (SI.toNat+0) ((wx dn).getD (SI.toNat+0) 0+1)∧(dn++[(S,E,K)])++dc L (L.length-(i+N)) (i+N)=bt L∧1≤N∧N≤n:=by
 subst hS
 have uG:=rl L i n n1
 rw[hX]at a8 uG
 have:=HL dn ((S:Int).toNat+0)
 refine⟨AP dn,by omega,by rw[Mh];rfl,by rw[←i3,a8,List.append_assoc];rfl,uG⟩
section
variable{ts:List Tk}{gt ct:Nat}{A D L ls:List Int}
theorem Qx {K Kp:AV→AH→Prop}{g0 c0:Nat}(lL:∀t∈ts,RE t)(m7:ts.length≤150000)(CI:ts.length≤ct)
 (h:∀ga ca gd cd,(fu ts).length≤ca→(fq ts).length≤cd→K (.aE []) (xp ts gt ct (fu ts) ga ca (fq ts) gd cd [] g0 c0)):
 aa Try.prog 44 [.ptr 0 0 0] (w3 ts gt ct g0 c0++[AO.one true 0 (.cells [.ptr 0 0 0])]) K Kp:=by
 refine aa.lift [.own 0,.own 1,.own 2] (JJ (K:=fun r N=>∃ga ca gd cd,(fu ts).length≤ca∧(fq ts).length≤cd∧r=.aE []∧N=ic (dX ts gt ct (fu ts) ga ca (fq ts) gd cd) [] g0 c0) (Kp:=fun _ _=>False) lL m7 CI (fun ga ca gd cd h1 h2=>⟨ga,ca,gd,cd,h1,h2,rfl,rfl⟩))
  rfl rfl ⟨⟨rfl,rfl⟩,⟨rfl,rfl⟩,⟨rfl,rfl⟩,trivial⟩ ⟨rfl,trivial,fun j=>rfl,trivial⟩ ?_ (fun _ _ h=>h.elim)
 rintro r M' ⟨ga,ca,gd,cd,h1,h2,rfl,rfl⟩
 exact⟨⟨rfl,rfl,rfl,rfl⟩,h ga ca gd cd h1 h2⟩
def dl1 (L:List Int)(s:Nat×Nat×Nat×Nat×Nat×Nat):List (Nat×AV):=[(1,.ptr 3 0 0),(2,.sl 7 s.2.2.2.2.1 0 L.length s.2.2.2.2.2),(3,.ptr 9 0 0)]
def dH1 (ts:List Tk)(gt ct g0 c0:Nat)(A D L:List Int)(s:Nat×Nat×Nat×Nat×Nat×Nat):AH:=
 xp ts gt ct A s.1 s.2.1 D s.2.2.1 s.2.2.2.1 [] g0 c0++[AO.gone,AO.one true s.2.2.2.2.1 (.ints .u8 L s.2.2.2.2.2),AO.one true 0 (.ints .i64 (wx (bt L)) 19),AO.one true 0 (.cells [.sl 8 0 0 19 19])]
noncomputable abbrev UF:Cx:=JF (fun _=>[0,3]) []
set_option maxHeartbeats 4000000 in
theorem aaL {Q:jr→AA→AH→Prop}{Kp:AV→AH→Prop}{g0 c0:Nat}(lL:∀t∈ts,RE t)(m7:ts.length≤150000)(CI:ts.length≤ct)(hA:fu ts=A)(hD:fq ts=D)(hL:A++D=L)(bk:Bg ts A D):
 sv UF (lB (dl1 L) (dH1 ts gt ct g0 c0 A D L)) Q Kp 5 qz (aq [.ptr 0 0 0]) (w3 ts gt ct g0 c0):=by
 have Nl:=bk.al
 have Rm:=bk.dl
 have jO:258≤L.length∧L.length≤316:=by rw[←hL,List.length_append];omega
 have Xl:∀i,i<L.length→0≤L.getD i 0∧L.getD i 0<16:=by
  intro i hi
  rw[List.getD_eq_getElem?_getD,List.getElem?_eq_getElem hi,Option.getD_some]
  have hm:=List.getElem_mem hi
  generalize L[i]=x at hm
  rw[←hL]at hm
  rcases List.mem_append.1 hm with h|h
  ·exact bk.ab x h
  ·exact bk.db x h
 refine Qs ?_
 refine Qx lL m7 CI fun ga ca gd cd hca hcd=>?_
 rw[hA,hD]
 rw[hA]at hca
 rw[hD]at hcd
 refine Qs ?_
 refine EV (p:=6) (q0:=4) (q1:=5) (x0:=A) (x1:=D) (by omega) rfl rfl rfl fun g7 c7 hc7=>?_
 rw[hL]
 refine Qs ?_
 refine Kl (fun _=>[]) [] rfl ?_
 refine Qs ?_
 refine WO.range rfl rfl [(1,.ptr 3 0 0),(2,.sl 7 g7 0 L.length c7),(3,.ptr 9 0 0)] (aI rfl (aI rfl (aI rfl (trivial)))) fun l fn df d=>?_
 refine Kh (fun _=>[7,10]) [] rfl ?_
 refine Qs ?_
 refine WO.go (σ:=Nat×List (Nat×Nat×Nat)×Nat×Nat) (fun(i,dn,g,c)=>i≤L.length∧dn.length≤i∧dn++dc L (L.length-i) i=bt L∧True) (fun(i,_,_,_)=>L.length-i)
  (fun(i,_,_,_)=>[(0,.fn (.yield l) [] []),(1,.ptr 10 0 0),(3,.int .i64 (i:Int))]) (fun(i,dn,g,c)=>xp ts gt ct A ga ca D gd cd [] g0 c0++[AO.gone,AO.one true g7 (.ints .u8 L c7),AO.one true 0 (.ints .i64 (wx dn) 19),AO.one true 0 (.cells [.sl 8 0 0 19 19]),AO.one true 0 (.cells [.sl 7 g7 0 L.length c7]),AO.one true 0 (.loop l .ready none fn _ _ _ _ _ df)]) (0,[],0,0) ae mixed (by kernel_rfl) ⟨Nat.zero_le _,Nat.le_refl _,rfl,trivial⟩ (aI rfl (aI rfl (aI rfl (trivial)))) (aI rfl (aI rfl (aI rfl (aI rfl (aI rfl (aI rfl (aI trivial (aI rfl (aI rfl (aI rfl (aI rfl (aI rfl (trivial))))))))))))) (fun _=>rfl) (fun _=>rfl) (fun _=>⟨rfl,trivial,fun j=>rfl,rfl,trivial,trivial,trivial,trivial,trivial,rfl,rfl,Am rfl,trivial⟩) ?_
 rintro⟨i,dn,g,c⟩ ⟨i1,i2,i3,i4⟩ d2
 refine Qs ?_
 refine And.intro (fun q1=>?_) (fun q1=>?_)
 ·have hi:i<L.length:=by have q1:(i:Int)<(L.length:Int):=of_decide_eq_true q1;omega
  have fJ:=oK L i L.length 1 (by omega)
  have a8:=qa hi
  refine Qs ?_
  refine WO.go (σ:=Nat) (fun n=>1≤n∧i+n≤L.length∧runN L i (L.length-(n-1)) n=runN L i L.length 1) (fun n=>L.length-n)
   (fun n=>[(0,.fn (.yield l) [] []),(1,.ptr 10 0 0),(3,.int .i64 (i:Int)),(4,.int .i64 (n:Int))]) (fun _=>xp ts gt ct A ga ca D gd cd [] g0 c0++[AO.gone,AO.one true g7 (.ints .u8 L c7),AO.one true 0 (.ints .i64 (wx dn) 19),AO.one true 0 (.cells [.sl 8 0 0 19 19]),AO.one true 0 (.cells [.sl 7 g7 0 L.length c7]),AO.one true 0 (.loop l .ready none fn _ _ _ _ _ df)]) 1 ae mixed (by kernel_rfl) ⟨Nat.le_refl _,hi,rfl⟩ (aI rfl (aI rfl (aI rfl (aI rfl (trivial))))) (aI rfl (aI rfl (aI rfl (aI rfl (aI rfl (aI rfl (aI trivial (aI rfl (aI rfl (aI rfl (aI rfl (aI rfl (trivial))))))))))))) (fun _=>rfl) (fun _=>rfl) (fun _=>⟨rfl,trivial,fun j=>rfl,rfl,trivial,trivial,trivial,trivial,trivial,rfl,rfl,Am rfl,trivial⟩) ?_
  rintro n ⟨n1,n2,n3⟩ d3
  have aaB:=jO
  refine Qs ?_
  refine And.intro (fun q2=>?_) (fun q2=>?_)
  ·have h2:i+n<L.length:=by have q2:(i:Int)+(n:Int)<(L.length:Int):=of_decide_eq_true q2;omega
   refine Qs ?_
   refine And.intro (fun q3=>?_) (fun q3=>?_)
   ·have h3:L.getD (i+n) 0=L.getD i 0:=of_decide_eq_true q3
    refine Qs ?_
    refine RO.same (n+1) ⟨by omega,h2,?_⟩ (show L.length-(n+1)<L.length-n by omega) (aI rfl (aI rfl (aI rfl (aI rfl (trivial))))) (aI rfl (aI rfl (aI rfl (aI rfl (aI rfl (aI rfl (aI trivial (aI rfl (aI rfl (aI rfl (aI rfl (aI rfl (trivial)))))))))))))
    rw[←n3,show L.length-(n-1)=(L.length-(n+1-1))+1 by omega,runN,if_pos ⟨h2,h3⟩]
   ·have h3:¬L.getD (i+n) 0=L.getD i 0:=of_decide_eq_false q3
    have hn:runN L i L.length 1=n:=by
     rw[←n3,show L.length-(n-1)=(L.length-(n+1-1))+1 by omega,runN,if_neg (fun x=>h3 x.2)]
    rw[hn]at a8
    have kL:0≤L.getD ((i:Int).toNat+0) 0∧L.getD ((i:Int).toNat+0) 0<16:=Xl i hi
    refine Qs ?_
    refine And.intro (fun z1=>?_) (fun z1=>?_)
    ·have z1:L.getD i 0=0:=of_decide_eq_true z1
     refine Qs ?_
     refine And.intro (fun z2=>?_) (fun z2=>?_)
     ·have z2:11≤n:=by have z2:(11:Int)≤(n:Int):=of_decide_eq_true z2;omega
      have hX:aC L i n=((18,min n 138-11,7),min n 138):=by unfold aC;rw[if_pos ⟨z1,z2⟩]
      have eE:min (n:Int) 138-11=((min n 138-11:Nat):Int):=by omega
      refine Qs ?_
      rw[eE]
      obtain⟨a1,a2,a3,a4,a5⟩:=xX (SI:=(18:Int)) hX a8 i3 i2 hi n1 jO.2 (by first|rfl|exact(Int.toNat_of_nonneg kL.1).symm)
      refine aS.round (x:=lz l) ae mixed (i:=11) rfl (by kernel_rfl) rfl rfl ?_
      refine Qs ?_
      refine RO.same (i+(min n 138),dn++[(18,(min n 138-11),7)],g,c) ⟨by omega,by rw[List.length_append,List.length_singleton];omega,a4,trivial⟩ (show L.length-(i+(min n 138))<L.length-i by omega) (aI rfl (aI rfl (aI (congrArg (AV.int .i64) (show _=((i+(min n 138):Nat):Int) by omega)) trivial))) (aI rfl (aI rfl (aI rfl (aI rfl (aI rfl (aI rfl (aI trivial (aI rfl (aI (congrArg (fun z=>AO.one true 0 (.ints .i64 z 19)) a3) (aI rfl (aI rfl (aI rfl trivial))))))))))))
     ·have z2:¬11≤n:=by have z2:¬(11:Int)≤(n:Int):=of_decide_eq_false z2;omega
      refine Qs ?_
      refine And.intro (fun z3=>?_) (fun z3=>?_)
      rotate_left
      ·exact absurd z1 (of_decide_eq_false z3)
      refine Qs ?_
      refine And.intro (fun z4=>?_) (fun z4=>?_)
      ·have z4:3≤n:=by have z4:(3:Int)≤(n:Int):=of_decide_eq_true z4;omega
       have hX:aC L i n=((17,n-3,3),n):=by unfold aC;rw[if_neg (fun x=>z2 x.2),if_pos ⟨z1,z4⟩]
       have eE:(n:Int)-3=((n-3:Nat):Int):=by omega
       refine Qs ?_
       rw[eE]
       obtain⟨a1,a2,a3,a4,a5⟩:=xX (SI:=(17:Int)) hX a8 i3 i2 hi n1 jO.2 (by first|rfl|exact(Int.toNat_of_nonneg kL.1).symm)
       refine aS.round (x:=lz l) ae mixed (i:=11) rfl (by kernel_rfl) rfl rfl ?_
       refine Qs ?_
       refine RO.same (i+n,dn++[(17,(n-3),3)],g,c) ⟨by omega,by rw[List.length_append,List.length_singleton];omega,a4,trivial⟩ (show L.length-(i+n)<L.length-i by omega) (aI rfl (aI rfl (aI (congrArg (AV.int .i64) (show _=((i+n:Nat):Int) by omega)) trivial))) (aI rfl (aI rfl (aI rfl (aI rfl (aI rfl (aI rfl (aI trivial (aI rfl (aI (congrArg (fun z=>AO.one true 0 (.ints .i64 z 19)) a3) (aI rfl (aI rfl (aI rfl trivial))))))))))))
      ·have z4:¬3≤n:=by have z4:¬(3:Int)≤(n:Int):=of_decide_eq_false z4;omega
       have c1:¬(L.getD i 0=0∧11≤n):=fun x=>z2 x.2
       have c2:¬(L.getD i 0=0∧3≤n):=fun x=>z4 x.2
       refine Qs ?_
       refine And.intro (fun y1=>?_) (fun y1=>?_)
       ·have y1:0<i:=by have y1:(0:Int)<(i:Int):=of_decide_eq_true y1;omega
        have ei:(i:Int)-1=((i-1:Nat):Int):=by omega
        have eg:L.getD (((i:Int)-1).toNat+0) 0=L.getD (i-1) 0:=by rw[ei];rfl
        refine Qs ?_
        refine And.intro (fun y2=>?_) (fun y2=>?_)
        ·have y2:L.getD (((i:Int)-1).toNat+0) 0=L.getD i 0:=of_decide_eq_true y2
         rw[eg]at y2
         refine Qs ?_
         refine And.intro (fun y3=>?_) (fun y3=>?_)
         ·have y3:3≤n:=by have y3:(3:Int)≤(n:Int):=of_decide_eq_true y3;omega
          have hX:aC L i n=((16,min n 6-3,2),min n 6):=by unfold aC;rw[if_neg c1,if_neg c2,if_pos ⟨y1,y2,y3⟩]
          have eE:min (n:Int) 6-3=((min n 6-3:Nat):Int):=by omega
          refine Qs ?_
          rw[eE]
          obtain⟨a1,a2,a3,a4,a5⟩:=xX (SI:=(16:Int)) hX a8 i3 i2 hi n1 jO.2 (by first|rfl|exact(Int.toNat_of_nonneg kL.1).symm)
          refine aS.round (x:=lz l) ae mixed (i:=11) rfl (by kernel_rfl) rfl rfl ?_
          refine Qs ?_
          refine RO.same (i+(min n 6),dn++[(16,(min n 6-3),2)],g,c) ⟨by omega,by rw[List.length_append,List.length_singleton];omega,a4,trivial⟩ (show L.length-(i+(min n 6))<L.length-i by omega) (aI rfl (aI rfl (aI (congrArg (AV.int .i64) (show _=((i+(min n 6):Nat):Int) by omega)) trivial))) (aI rfl (aI rfl (aI rfl (aI rfl (aI rfl (aI rfl (aI trivial (aI rfl (aI (congrArg (fun z=>AO.one true 0 (.ints .i64 z 19)) a3) (aI rfl (aI rfl (aI rfl trivial))))))))))))
         ·have y3:¬3≤n:=by have y3:¬(3:Int)≤(n:Int):=of_decide_eq_false y3;omega
          have hX:aC L i n=(((L.getD i 0).toNat,0,0),1):=by unfold aC;rw[if_neg c1,if_neg c2,if_neg (fun x=>y3 x.2.2)]
          refine Qs ?_
          obtain⟨a1,a2,a3,a4,a5⟩:=xX (SI:=L.getD ((i:Int).toNat+0) 0) hX a8 i3 i2 hi n1 jO.2 (by first|rfl|exact(Int.toNat_of_nonneg kL.1).symm)
          refine aS.round (x:=lz l) ae mixed (i:=11) rfl (by kernel_rfl) rfl rfl ?_
          refine Qs ?_
          refine RO.same (i+1,dn++[((L.getD i 0).toNat,0,0)],g,c) ⟨by omega,by rw[List.length_append,List.length_singleton];omega,a4,trivial⟩ (show L.length-(i+1)<L.length-i by omega) (aI rfl (aI rfl (aI (congrArg (AV.int .i64) (show _=((i+1:Nat):Int) by omega)) trivial))) (aI rfl (aI rfl (aI rfl (aI rfl (aI rfl (aI rfl (aI trivial (aI rfl (aI (congrArg (fun z=>AO.one true 0 (.ints .i64 z 19)) a3) (aI rfl (aI rfl (aI rfl trivial))))))))))))
        ·have y2:¬L.getD (((i:Int)-1).toNat+0) 0=L.getD i 0:=of_decide_eq_false y2
         rw[eg]at y2
         have hX:aC L i n=(((L.getD i 0).toNat,0,0),1):=by unfold aC;rw[if_neg c1,if_neg c2,if_neg (fun x=>y2 x.2.1)]
         refine Qs ?_
         obtain⟨a1,a2,a3,a4,a5⟩:=xX (SI:=L.getD ((i:Int).toNat+0) 0) hX a8 i3 i2 hi n1 jO.2 (by first|rfl|exact(Int.toNat_of_nonneg kL.1).symm)
         refine aS.round (x:=lz l) ae mixed (i:=11) rfl (by kernel_rfl) rfl rfl ?_
         refine Qs ?_
         refine RO.same (i+1,dn++[((L.getD i 0).toNat,0,0)],g,c) ⟨by omega,by rw[List.length_append,List.length_singleton];omega,a4,trivial⟩ (show L.length-(i+1)<L.length-i by omega) (aI rfl (aI rfl (aI (congrArg (AV.int .i64) (show _=((i+1:Nat):Int) by omega)) trivial))) (aI rfl (aI rfl (aI rfl (aI rfl (aI rfl (aI rfl (aI trivial (aI rfl (aI (congrArg (fun z=>AO.one true 0 (.ints .i64 z 19)) a3) (aI rfl (aI rfl (aI rfl trivial))))))))))))
       ·have y1:¬0<i:=by have y1:¬(0:Int)<(i:Int):=of_decide_eq_false y1;omega
        have hX:aC L i n=(((L.getD i 0).toNat,0,0),1):=by unfold aC;rw[if_neg c1,if_neg c2,if_neg (fun x=>y1 x.1)]
        refine Qs ?_
        obtain⟨a1,a2,a3,a4,a5⟩:=xX (SI:=L.getD ((i:Int).toNat+0) 0) hX a8 i3 i2 hi n1 jO.2 (by first|rfl|exact(Int.toNat_of_nonneg kL.1).symm)
        refine aS.round (x:=lz l) ae mixed (i:=11) rfl (by kernel_rfl) rfl rfl ?_
        refine Qs ?_
        refine RO.same (i+1,dn++[((L.getD i 0).toNat,0,0)],g,c) ⟨by omega,by rw[List.length_append,List.length_singleton];omega,a4,trivial⟩ (show L.length-(i+1)<L.length-i by omega) (aI rfl (aI rfl (aI (congrArg (AV.int .i64) (show _=((i+1:Nat):Int) by omega)) trivial))) (aI rfl (aI rfl (aI rfl (aI rfl (aI rfl (aI rfl (aI trivial (aI rfl (aI (congrArg (fun z=>AO.one true 0 (.ints .i64 z 19)) a3) (aI rfl (aI rfl (aI rfl trivial))))))))))))
    ·have z1:¬L.getD i 0=0:=of_decide_eq_false z1
     have c1:¬(L.getD i 0=0∧11≤n):=fun x=>z1 x.1
     have c2:¬(L.getD i 0=0∧3≤n):=fun x=>z1 x.1
     refine Qs ?_
     refine And.intro (fun z3=>?_) (fun z3=>?_)
     ·exact absurd (of_decide_eq_true z3) z1
     refine Qs ?_
     refine And.intro (fun y1=>?_) (fun y1=>?_)
     ·have y1:0<i:=by have y1:(0:Int)<(i:Int):=of_decide_eq_true y1;omega
      have ei:(i:Int)-1=((i-1:Nat):Int):=by omega
      have eg:L.getD (((i:Int)-1).toNat+0) 0=L.getD (i-1) 0:=by rw[ei];rfl
      refine Qs ?_
      refine And.intro (fun y2=>?_) (fun y2=>?_)
      ·have y2:L.getD (((i:Int)-1).toNat+0) 0=L.getD i 0:=of_decide_eq_true y2
       rw[eg]at y2
       refine Qs ?_
       refine And.intro (fun y3=>?_) (fun y3=>?_)
       ·have y3:3≤n:=by have y3:(3:Int)≤(n:Int):=of_decide_eq_true y3;omega
        have hX:aC L i n=((16,min n 6-3,2),min n 6):=by unfold aC;rw[if_neg c1,if_neg c2,if_pos ⟨y1,y2,y3⟩]
        have eE:min (n:Int) 6-3=((min n 6-3:Nat):Int):=by omega
        refine Qs ?_
        rw[eE]
        obtain⟨a1,a2,a3,a4,a5⟩:=xX (SI:=(16:Int)) hX a8 i3 i2 hi n1 jO.2 (by first|rfl|exact(Int.toNat_of_nonneg kL.1).symm)
        refine aS.round (x:=lz l) ae mixed (i:=11) rfl (by kernel_rfl) rfl rfl ?_
        refine Qs ?_
        refine RO.same (i+(min n 6),dn++[(16,(min n 6-3),2)],g,c) ⟨by omega,by rw[List.length_append,List.length_singleton];omega,a4,trivial⟩ (show L.length-(i+(min n 6))<L.length-i by omega) (aI rfl (aI rfl (aI (congrArg (AV.int .i64) (show _=((i+(min n 6):Nat):Int) by omega)) trivial))) (aI rfl (aI rfl (aI rfl (aI rfl (aI rfl (aI rfl (aI trivial (aI rfl (aI (congrArg (fun z=>AO.one true 0 (.ints .i64 z 19)) a3) (aI rfl (aI rfl (aI rfl trivial))))))))))))
       ·have y3:¬3≤n:=by have y3:¬(3:Int)≤(n:Int):=of_decide_eq_false y3;omega
        have hX:aC L i n=(((L.getD i 0).toNat,0,0),1):=by unfold aC;rw[if_neg c1,if_neg c2,if_neg (fun x=>y3 x.2.2)]
        refine Qs ?_
        obtain⟨a1,a2,a3,a4,a5⟩:=xX (SI:=L.getD ((i:Int).toNat+0) 0) hX a8 i3 i2 hi n1 jO.2 (by first|rfl|exact(Int.toNat_of_nonneg kL.1).symm)
        refine aS.round (x:=lz l) ae mixed (i:=11) rfl (by kernel_rfl) rfl rfl ?_
        refine Qs ?_
        refine RO.same (i+1,dn++[((L.getD i 0).toNat,0,0)],g,c) ⟨by omega,by rw[List.length_append,List.length_singleton];omega,a4,trivial⟩ (show L.length-(i+1)<L.length-i by omega) (aI rfl (aI rfl (aI (congrArg (AV.int .i64) (show _=((i+1:Nat):Int) by omega)) trivial))) (aI rfl (aI rfl (aI rfl (aI rfl (aI rfl (aI rfl (aI trivial (aI rfl (aI (congrArg (fun z=>AO.one true 0 (.ints .i64 z 19)) a3) (aI rfl (aI rfl (aI rfl trivial))))))))))))
      ·have y2:¬L.getD (((i:Int)-1).toNat+0) 0=L.getD i 0:=of_decide_eq_false y2
       rw[eg]at y2
       have hX:aC L i n=(((L.getD i 0).toNat,0,0),1):=by unfold aC;rw[if_neg c1,if_neg c2,if_neg (fun x=>y2 x.2.1)]
       refine Qs ?_
       obtain⟨a1,a2,a3,a4,a5⟩:=xX (SI:=L.getD ((i:Int).toNat+0) 0) hX a8 i3 i2 hi n1 jO.2 (by first|rfl|exact(Int.toNat_of_nonneg kL.1).symm)
       refine aS.round (x:=lz l) ae mixed (i:=11) rfl (by kernel_rfl) rfl rfl ?_
       refine Qs ?_
       refine RO.same (i+1,dn++[((L.getD i 0).toNat,0,0)],g,c) ⟨by omega,by rw[List.length_append,List.length_singleton];omega,a4,trivial⟩ (show L.length-(i+1)<L.length-i by omega) (aI rfl (aI rfl (aI (congrArg (AV.int .i64) (show _=((i+1:Nat):Int) by omega)) trivial))) (aI rfl (aI rfl (aI rfl (aI rfl (aI rfl (aI rfl (aI trivial (aI rfl (aI (congrArg (fun z=>AO.one true 0 (.ints .i64 z 19)) a3) (aI rfl (aI rfl (aI rfl trivial))))))))))))
     ·have y1:¬0<i:=by have y1:¬(0:Int)<(i:Int):=of_decide_eq_false y1;omega
      have hX:aC L i n=(((L.getD i 0).toNat,0,0),1):=by unfold aC;rw[if_neg c1,if_neg c2,if_neg (fun x=>y1 x.1)]
      refine Qs ?_
      obtain⟨a1,a2,a3,a4,a5⟩:=xX (SI:=L.getD ((i:Int).toNat+0) 0) hX a8 i3 i2 hi n1 jO.2 (by first|rfl|exact(Int.toNat_of_nonneg kL.1).symm)
      refine aS.round (x:=lz l) ae mixed (i:=11) rfl (by kernel_rfl) rfl rfl ?_
      refine Qs ?_
      refine RO.same (i+1,dn++[((L.getD i 0).toNat,0,0)],g,c) ⟨by omega,by rw[List.length_append,List.length_singleton];omega,a4,trivial⟩ (show L.length-(i+1)<L.length-i by omega) (aI rfl (aI rfl (aI (congrArg (AV.int .i64) (show _=((i+1:Nat):Int) by omega)) trivial))) (aI rfl (aI rfl (aI rfl (aI rfl (aI rfl (aI rfl (aI trivial (aI rfl (aI (congrArg (fun z=>AO.one true 0 (.ints .i64 z 19)) a3) (aI rfl (aI rfl (aI rfl trivial))))))))))))
  ·have h2:¬i+n<L.length:=by have q2:¬(i:Int)+(n:Int)<(L.length:Int):=of_decide_eq_false q2;omega
   have hn:runN L i L.length 1=n:=by
    rw[←n3,show L.length-(n-1)=(L.length-(n+1-1))+1 by omega,runN,if_neg (fun x=>h2 x.1)]
   rw[hn]at a8
   have kL:0≤L.getD ((i:Int).toNat+0) 0∧L.getD ((i:Int).toNat+0) 0<16:=Xl i hi
   refine Qs ?_
   refine And.intro (fun z1=>?_) (fun z1=>?_)
   ·have z1:L.getD i 0=0:=of_decide_eq_true z1
    refine Qs ?_
    refine And.intro (fun z2=>?_) (fun z2=>?_)
    ·have z2:11≤n:=by have z2:(11:Int)≤(n:Int):=of_decide_eq_true z2;omega
     have hX:aC L i n=((18,min n 138-11,7),min n 138):=by unfold aC;rw[if_pos ⟨z1,z2⟩]
     have eE:min (n:Int) 138-11=((min n 138-11:Nat):Int):=by omega
     refine Qs ?_
     rw[eE]
     obtain⟨a1,a2,a3,a4,a5⟩:=xX (SI:=(18:Int)) hX a8 i3 i2 hi n1 jO.2 (by first|rfl|exact(Int.toNat_of_nonneg kL.1).symm)
     refine aS.round (x:=lz l) ae mixed (i:=11) rfl (by kernel_rfl) rfl rfl ?_
     refine Qs ?_
     refine RO.same (i+(min n 138),dn++[(18,(min n 138-11),7)],g,c) ⟨by omega,by rw[List.length_append,List.length_singleton];omega,a4,trivial⟩ (show L.length-(i+(min n 138))<L.length-i by omega) (aI rfl (aI rfl (aI (congrArg (AV.int .i64) (show _=((i+(min n 138):Nat):Int) by omega)) trivial))) (aI rfl (aI rfl (aI rfl (aI rfl (aI rfl (aI rfl (aI trivial (aI rfl (aI (congrArg (fun z=>AO.one true 0 (.ints .i64 z 19)) a3) (aI rfl (aI rfl (aI rfl trivial))))))))))))
    ·have z2:¬11≤n:=by have z2:¬(11:Int)≤(n:Int):=of_decide_eq_false z2;omega
     refine Qs ?_
     refine And.intro (fun z3=>?_) (fun z3=>?_)
     rotate_left
     ·exact absurd z1 (of_decide_eq_false z3)
     refine Qs ?_
     refine And.intro (fun z4=>?_) (fun z4=>?_)
     ·have z4:3≤n:=by have z4:(3:Int)≤(n:Int):=of_decide_eq_true z4;omega
      have hX:aC L i n=((17,n-3,3),n):=by unfold aC;rw[if_neg (fun x=>z2 x.2),if_pos ⟨z1,z4⟩]
      have eE:(n:Int)-3=((n-3:Nat):Int):=by omega
      refine Qs ?_
      rw[eE]
      obtain⟨a1,a2,a3,a4,a5⟩:=xX (SI:=(17:Int)) hX a8 i3 i2 hi n1 jO.2 (by first|rfl|exact(Int.toNat_of_nonneg kL.1).symm)
      refine aS.round (x:=lz l) ae mixed (i:=11) rfl (by kernel_rfl) rfl rfl ?_
      refine Qs ?_
      refine RO.same (i+n,dn++[(17,(n-3),3)],g,c) ⟨by omega,by rw[List.length_append,List.length_singleton];omega,a4,trivial⟩ (show L.length-(i+n)<L.length-i by omega) (aI rfl (aI rfl (aI (congrArg (AV.int .i64) (show _=((i+n:Nat):Int) by omega)) trivial))) (aI rfl (aI rfl (aI rfl (aI rfl (aI rfl (aI rfl (aI trivial (aI rfl (aI (congrArg (fun z=>AO.one true 0 (.ints .i64 z 19)) a3) (aI rfl (aI rfl (aI rfl trivial))))))))))))
     ·have z4:¬3≤n:=by have z4:¬(3:Int)≤(n:Int):=of_decide_eq_false z4;omega
      have c1:¬(L.getD i 0=0∧11≤n):=fun x=>z2 x.2
      have c2:¬(L.getD i 0=0∧3≤n):=fun x=>z4 x.2
      refine Qs ?_
      refine And.intro (fun y1=>?_) (fun y1=>?_)
      ·have y1:0<i:=by have y1:(0:Int)<(i:Int):=of_decide_eq_true y1;omega
       have ei:(i:Int)-1=((i-1:Nat):Int):=by omega
       have eg:L.getD (((i:Int)-1).toNat+0) 0=L.getD (i-1) 0:=by rw[ei];rfl
       refine Qs ?_
       refine And.intro (fun y2=>?_) (fun y2=>?_)
       ·have y2:L.getD (((i:Int)-1).toNat+0) 0=L.getD i 0:=of_decide_eq_true y2
        rw[eg]at y2
        refine Qs ?_
        refine And.intro (fun y3=>?_) (fun y3=>?_)
        ·have y3:3≤n:=by have y3:(3:Int)≤(n:Int):=of_decide_eq_true y3;omega
         have hX:aC L i n=((16,min n 6-3,2),min n 6):=by unfold aC;rw[if_neg c1,if_neg c2,if_pos ⟨y1,y2,y3⟩]
         have eE:min (n:Int) 6-3=((min n 6-3:Nat):Int):=by omega
         refine Qs ?_
         rw[eE]
         obtain⟨a1,a2,a3,a4,a5⟩:=xX (SI:=(16:Int)) hX a8 i3 i2 hi n1 jO.2 (by first|rfl|exact(Int.toNat_of_nonneg kL.1).symm)
         refine aS.round (x:=lz l) ae mixed (i:=11) rfl (by kernel_rfl) rfl rfl ?_
         refine Qs ?_
         refine RO.same (i+(min n 6),dn++[(16,(min n 6-3),2)],g,c) ⟨by omega,by rw[List.length_append,List.length_singleton];omega,a4,trivial⟩ (show L.length-(i+(min n 6))<L.length-i by omega) (aI rfl (aI rfl (aI (congrArg (AV.int .i64) (show _=((i+(min n 6):Nat):Int) by omega)) trivial))) (aI rfl (aI rfl (aI rfl (aI rfl (aI rfl (aI rfl (aI trivial (aI rfl (aI (congrArg (fun z=>AO.one true 0 (.ints .i64 z 19)) a3) (aI rfl (aI rfl (aI rfl trivial))))))))))))
        ·have y3:¬3≤n:=by have y3:¬(3:Int)≤(n:Int):=of_decide_eq_false y3;omega
         have hX:aC L i n=(((L.getD i 0).toNat,0,0),1):=by unfold aC;rw[if_neg c1,if_neg c2,if_neg (fun x=>y3 x.2.2)]
         refine Qs ?_
         obtain⟨a1,a2,a3,a4,a5⟩:=xX (SI:=L.getD ((i:Int).toNat+0) 0) hX a8 i3 i2 hi n1 jO.2 (by first|rfl|exact(Int.toNat_of_nonneg kL.1).symm)
         refine aS.round (x:=lz l) ae mixed (i:=11) rfl (by kernel_rfl) rfl rfl ?_
         refine Qs ?_
         refine RO.same (i+1,dn++[((L.getD i 0).toNat,0,0)],g,c) ⟨by omega,by rw[List.length_append,List.length_singleton];omega,a4,trivial⟩ (show L.length-(i+1)<L.length-i by omega) (aI rfl (aI rfl (aI (congrArg (AV.int .i64) (show _=((i+1:Nat):Int) by omega)) trivial))) (aI rfl (aI rfl (aI rfl (aI rfl (aI rfl (aI rfl (aI trivial (aI rfl (aI (congrArg (fun z=>AO.one true 0 (.ints .i64 z 19)) a3) (aI rfl (aI rfl (aI rfl trivial))))))))))))
       ·have y2:¬L.getD (((i:Int)-1).toNat+0) 0=L.getD i 0:=of_decide_eq_false y2
        rw[eg]at y2
        have hX:aC L i n=(((L.getD i 0).toNat,0,0),1):=by unfold aC;rw[if_neg c1,if_neg c2,if_neg (fun x=>y2 x.2.1)]
        refine Qs ?_
        obtain⟨a1,a2,a3,a4,a5⟩:=xX (SI:=L.getD ((i:Int).toNat+0) 0) hX a8 i3 i2 hi n1 jO.2 (by first|rfl|exact(Int.toNat_of_nonneg kL.1).symm)
        refine aS.round (x:=lz l) ae mixed (i:=11) rfl (by kernel_rfl) rfl rfl ?_
        refine Qs ?_
        refine RO.same (i+1,dn++[((L.getD i 0).toNat,0,0)],g,c) ⟨by omega,by rw[List.length_append,List.length_singleton];omega,a4,trivial⟩ (show L.length-(i+1)<L.length-i by omega) (aI rfl (aI rfl (aI (congrArg (AV.int .i64) (show _=((i+1:Nat):Int) by omega)) trivial))) (aI rfl (aI rfl (aI rfl (aI rfl (aI rfl (aI rfl (aI trivial (aI rfl (aI (congrArg (fun z=>AO.one true 0 (.ints .i64 z 19)) a3) (aI rfl (aI rfl (aI rfl trivial))))))))))))
      ·have y1:¬0<i:=by have y1:¬(0:Int)<(i:Int):=of_decide_eq_false y1;omega
       have hX:aC L i n=(((L.getD i 0).toNat,0,0),1):=by unfold aC;rw[if_neg c1,if_neg c2,if_neg (fun x=>y1 x.1)]
       refine Qs ?_
       obtain⟨a1,a2,a3,a4,a5⟩:=xX (SI:=L.getD ((i:Int).toNat+0) 0) hX a8 i3 i2 hi n1 jO.2 (by first|rfl|exact(Int.toNat_of_nonneg kL.1).symm)
       refine aS.round (x:=lz l) ae mixed (i:=11) rfl (by kernel_rfl) rfl rfl ?_
       refine Qs ?_
       refine RO.same (i+1,dn++[((L.getD i 0).toNat,0,0)],g,c) ⟨by omega,by rw[List.length_append,List.length_singleton];omega,a4,trivial⟩ (show L.length-(i+1)<L.length-i by omega) (aI rfl (aI rfl (aI (congrArg (AV.int .i64) (show _=((i+1:Nat):Int) by omega)) trivial))) (aI rfl (aI rfl (aI rfl (aI rfl (aI rfl (aI rfl (aI trivial (aI rfl (aI (congrArg (fun z=>AO.one true 0 (.ints .i64 z 19)) a3) (aI rfl (aI rfl (aI rfl trivial))))))))))))
   ·have z1:¬L.getD i 0=0:=of_decide_eq_false z1
    have c1:¬(L.getD i 0=0∧11≤n):=fun x=>z1 x.1
    have c2:¬(L.getD i 0=0∧3≤n):=fun x=>z1 x.1
    refine Qs ?_
    refine And.intro (fun z3=>?_) (fun z3=>?_)
    ·exact absurd (of_decide_eq_true z3) z1
    refine Qs ?_
    refine And.intro (fun y1=>?_) (fun y1=>?_)
    ·have y1:0<i:=by have y1:(0:Int)<(i:Int):=of_decide_eq_true y1;omega
     have ei:(i:Int)-1=((i-1:Nat):Int):=by omega
     have eg:L.getD (((i:Int)-1).toNat+0) 0=L.getD (i-1) 0:=by rw[ei];rfl
     refine Qs ?_
     refine And.intro (fun y2=>?_) (fun y2=>?_)
     ·have y2:L.getD (((i:Int)-1).toNat+0) 0=L.getD i 0:=of_decide_eq_true y2
      rw[eg]at y2
      refine Qs ?_
      refine And.intro (fun y3=>?_) (fun y3=>?_)
      ·have y3:3≤n:=by have y3:(3:Int)≤(n:Int):=of_decide_eq_true y3;omega
       have hX:aC L i n=((16,min n 6-3,2),min n 6):=by unfold aC;rw[if_neg c1,if_neg c2,if_pos ⟨y1,y2,y3⟩]
       have eE:min (n:Int) 6-3=((min n 6-3:Nat):Int):=by omega
       refine Qs ?_
       rw[eE]
       obtain⟨a1,a2,a3,a4,a5⟩:=xX (SI:=(16:Int)) hX a8 i3 i2 hi n1 jO.2 (by first|rfl|exact(Int.toNat_of_nonneg kL.1).symm)
       refine aS.round (x:=lz l) ae mixed (i:=11) rfl (by kernel_rfl) rfl rfl ?_
       refine Qs ?_
       refine RO.same (i+(min n 6),dn++[(16,(min n 6-3),2)],g,c) ⟨by omega,by rw[List.length_append,List.length_singleton];omega,a4,trivial⟩ (show L.length-(i+(min n 6))<L.length-i by omega) (aI rfl (aI rfl (aI (congrArg (AV.int .i64) (show _=((i+(min n 6):Nat):Int) by omega)) trivial))) (aI rfl (aI rfl (aI rfl (aI rfl (aI rfl (aI rfl (aI trivial (aI rfl (aI (congrArg (fun z=>AO.one true 0 (.ints .i64 z 19)) a3) (aI rfl (aI rfl (aI rfl trivial))))))))))))
      ·have y3:¬3≤n:=by have y3:¬(3:Int)≤(n:Int):=of_decide_eq_false y3;omega
       have hX:aC L i n=(((L.getD i 0).toNat,0,0),1):=by unfold aC;rw[if_neg c1,if_neg c2,if_neg (fun x=>y3 x.2.2)]
       refine Qs ?_
       obtain⟨a1,a2,a3,a4,a5⟩:=xX (SI:=L.getD ((i:Int).toNat+0) 0) hX a8 i3 i2 hi n1 jO.2 (by first|rfl|exact(Int.toNat_of_nonneg kL.1).symm)
       refine aS.round (x:=lz l) ae mixed (i:=11) rfl (by kernel_rfl) rfl rfl ?_
       refine Qs ?_
       refine RO.same (i+1,dn++[((L.getD i 0).toNat,0,0)],g,c) ⟨by omega,by rw[List.length_append,List.length_singleton];omega,a4,trivial⟩ (show L.length-(i+1)<L.length-i by omega) (aI rfl (aI rfl (aI (congrArg (AV.int .i64) (show _=((i+1:Nat):Int) by omega)) trivial))) (aI rfl (aI rfl (aI rfl (aI rfl (aI rfl (aI rfl (aI trivial (aI rfl (aI (congrArg (fun z=>AO.one true 0 (.ints .i64 z 19)) a3) (aI rfl (aI rfl (aI rfl trivial))))))))))))
     ·have y2:¬L.getD (((i:Int)-1).toNat+0) 0=L.getD i 0:=of_decide_eq_false y2
      rw[eg]at y2
      have hX:aC L i n=(((L.getD i 0).toNat,0,0),1):=by unfold aC;rw[if_neg c1,if_neg c2,if_neg (fun x=>y2 x.2.1)]
      refine Qs ?_
      obtain⟨a1,a2,a3,a4,a5⟩:=xX (SI:=L.getD ((i:Int).toNat+0) 0) hX a8 i3 i2 hi n1 jO.2 (by first|rfl|exact(Int.toNat_of_nonneg kL.1).symm)
      refine aS.round (x:=lz l) ae mixed (i:=11) rfl (by kernel_rfl) rfl rfl ?_
      refine Qs ?_
      refine RO.same (i+1,dn++[((L.getD i 0).toNat,0,0)],g,c) ⟨by omega,by rw[List.length_append,List.length_singleton];omega,a4,trivial⟩ (show L.length-(i+1)<L.length-i by omega) (aI rfl (aI rfl (aI (congrArg (AV.int .i64) (show _=((i+1:Nat):Int) by omega)) trivial))) (aI rfl (aI rfl (aI rfl (aI rfl (aI rfl (aI rfl (aI trivial (aI rfl (aI (congrArg (fun z=>AO.one true 0 (.ints .i64 z 19)) a3) (aI rfl (aI rfl (aI rfl trivial))))))))))))
    ·have y1:¬0<i:=by have y1:¬(0:Int)<(i:Int):=of_decide_eq_false y1;omega
     have hX:aC L i n=(((L.getD i 0).toNat,0,0),1):=by unfold aC;rw[if_neg c1,if_neg c2,if_neg (fun x=>y1 x.1)]
     refine Qs ?_
     obtain⟨a1,a2,a3,a4,a5⟩:=xX (SI:=L.getD ((i:Int).toNat+0) 0) hX a8 i3 i2 hi n1 jO.2 (by first|rfl|exact(Int.toNat_of_nonneg kL.1).symm)
     refine aS.round (x:=lz l) ae mixed (i:=11) rfl (by kernel_rfl) rfl rfl ?_
     refine Qs ?_
     refine RO.same (i+1,dn++[((L.getD i 0).toNat,0,0)],g,c) ⟨by omega,by rw[List.length_append,List.length_singleton];omega,a4,trivial⟩ (show L.length-(i+1)<L.length-i by omega) (aI rfl (aI rfl (aI (congrArg (AV.int .i64) (show _=((i+1:Nat):Int) by omega)) trivial))) (aI rfl (aI rfl (aI rfl (aI rfl (aI rfl (aI rfl (aI trivial (aI rfl (aI (congrArg (fun z=>AO.one true 0 (.ints .i64 z 19)) a3) (aI rfl (aI rfl (aI rfl trivial))))))))))))
 ·have hi:¬i<L.length:=by have q1:¬(i:Int)<(L.length:Int):=of_decide_eq_false q1;omega
  have hdn:dn=bt L:=by
   rw[←i3,show L.length-i=0 by omega];exact(List.append_nil dn).symm
  refine Qs ?_
  refine Or.inl (And.intro rfl ?_)
  subst hdn
  refine Qs ?_
  refine lB.mk (ga,ca,gd,cd,g7,c7) (aI rfl (aI rfl (aI rfl (trivial)))) (aI rfl (aI rfl (aI rfl (aI rfl (aI rfl (aI rfl (aI trivial (aI rfl (aI rfl (aI rfl (trivial)))))))))))
end
end Go.Proofs.Ytibadaomjlkoaaa
