import Derived.Test.YtibadaomjlkoaaaGdk
set_option linter.unusedVariables false
set_option linter.unusedSimpArgs false
open Go.RowKit
namespace Go.Proofs.Ytibadaomjlkoaaa
set_option maxRecDepth 10000
def ou (f:List Int)(x:Nat×Nat×Nat):List Int:=qy f x.1
def tZ (dn:List (Nat×Nat×Nat)):List Int:=dn.foldl ou (List.replicate 19 0)
theorem ym (dn:List (Nat×Nat×Nat)):(tZ dn).length=19:=by
 have:∀(dn:List (Nat×Nat×Nat))(f:List Int),(dn.foldl ou f).length=f.length:=by
  intro dn
  induction dn with
  |nil=>intro f;rfl
  |cons x dn ih=>intro f;rw[List.foldl_cons,ih];exact pN _ _
 unfold tZ;rw[this,List.length_replicate]
theorem EK (dn:List (Nat×Nat×Nat))(j:Nat):0≤(tZ dn).getD j 0∧(tZ dn).getD j 0≤dn.length:=by
 have:∀(dn:List (Nat×Nat×Nat))(f:List Int),f.getD j 0≤(dn.foldl ou f).getD j 0∧(dn.foldl ou f).getD j 0≤f.getD j 0+dn.length:=by
  intro dn
  induction dn with
  |nil=>intro f;simp
  |cons x dn ih=>
   intro f
   have h1:=ih (ou f x)
   have h2:=mc f x.1 j
   rw[List.foldl_cons,List.length_cons]
   unfold ou at h1⊢
   omega
 have h:=this dn (List.replicate 19 0)
 rw[iw]at h
 unfold tZ;omega
theorem IM (dn:List (Nat×Nat×Nat))(x:Nat×Nat×Nat):tZ (dn++[x])=qy (tZ dn) x.1:=by
 unfold tZ;rw[List.foldl_append];rfl
theorem Mh {dn:List (Nat×Nat×Nat)}{x:Nat×Nat×Nat}(h:x∈dn)(hx:x.1<19):0<(tZ dn).getD x.1 0:=by
 have mono:∀(dn:List (Nat×Nat×Nat))(f:List Int)(j:Nat),f.getD j 0≤(dn.foldl ou f).getD j 0:=by
  intro dn
  induction dn with
  |nil=>intro f j;exact Int.le_refl _
  |cons y dn ih=>
   intro f j
   have h1:=ih (ou f y) j
   have h2:=(mc f y.1 j).1
   rw[List.foldl_cons]
   unfold ou at h1⊢
   omega
 have key:∀(dn:List (Nat×Nat×Nat))(f:List Int),f.length=19→(∀j,0≤f.getD j 0)→x∈dn→0<(dn.foldl ou f).getD x.1 0:=by
  intro dn
  induction dn with
  |nil=>intro f _ _ h;cases h
  |cons y dn ih=>
   intro f hf h0 h
   rw[List.foldl_cons]
   rcases List.mem_cons.1 h with rfl|h
   ·have h1:=mono dn (ou f x) x.1
    have h2:=pO f x.1 x.1
    rw[if_pos ⟨rfl,by omega⟩]at h2
    have h3:=h0 x.1
    unfold ou at h1⊢
    omega
   ·refine ih (ou f y) (by unfold ou;rw[pN];exact hf) (fun j=>?_) h
    have:=(mc f y.1 j).1
    have:=h0 j
    unfold ou;omega
 exact key dn _ List.length_replicate (fun j=>by rw[iw];exact Int.le_refl _) h
theorem vU {l:List Int}{P:Nat×Nat×Nat→Prop}(h:∀i,i<l.length→∀n,P (ay l i n).1):∀k i,∀x∈cF l k i,P x
 |0,i,x,hx=>by cases hx
 |k+1,i,x,hx=>by
  simp only[cF]at hx
  split at hx
  ·rename_i hc
   rcases List.mem_cons.1 hx with rfl|hx
   ·exact h i hc _
   ·exact vU h k _ x hx
  ·cases hx
theorem Fq {l:List Int}(hl:∀x∈l,0≤x∧x<16):∀x∈bf l,x.1<19∧x.2.1<2^x.2.2∧x.2.2≤7:=
 vU (P:=fun x=>x.1<19∧x.2.1<2^x.2.2∧x.2.2≤7) (fun i hi n=>Hm hl hi) _ _
theorem mT (l:List Int):∀k i,(cF l k i).length≤k
 |0,_=>Nat.le_refl _
 |k+1,i=>by
  simp only[cF]
  split
  ·rw[List.length_cons];have:=mT l k (i+(ay l i (runN l i l.length 1)).2);omega
  ·exact Nat.zero_le _
theorem gB.Nr {fr:List Int}{K:Nat}{l:List Int}(ok:gB fr K l):∀x∈l,0≤x∧x≤K:=by
 intro x hx
 obtain⟨j,hj,rfl⟩:=List.getElem_of_mem hx
 have e:l[j]=l.getD j 0:=by rw[List.getD_eq_getElem?_getD,List.getElem?_eq_getElem hj];rfl
 rw[e]
 have hlen:=ok.len
 by_cases hp:0<fr.getD j 0
 ·have:=ok.pos j (by omega) hp;omega
 ·have:=ok.zero j (by omega) hp;omega
theorem gB.has {fr:List Int}{K:Nat}{l:List Int}(ok:gB fr K l)(hK:K≤15){s:Nat}(hs:s<fr.length)(hp:0<fr.getD s 0):ja l (s:Int):=by
 have h1:=ok.pos s hs hp
 have hlen:=ok.len
 exact⟨Int.natCast_nonneg _,by omega,by rw[Int.toNat_natCast];exact h1.1,by rw[Int.toNat_natCast];omega⟩
structure yN (ts:List Tk)(A D:List Int):Prop where
 al:257≤A.length∧A.length≤286
 dl:1≤D.length∧D.length≤30
 ab:∀x∈A,0≤x∧x<16
 db:∀x∈D,0≤x∧x<16
 ea:aE A=0
 ed:aE D=0
 fin:ja A 256
 UM:∀t∈ts,Mz A D t
theorem yK {ts:List Tk}(lD:∀t∈ts,Nu t)(lK:ts.length≤150000):yN ts (eM ts) (eL ts):=by
 obtain⟨_,MO⟩:=iD (fr:=kY ts) (by rw[fl];decide) (fun j=>by have:=sa ts j;omega) (K:=15) (by decide) (by decide) (by rw[fl];decide)
 obtain⟨_,Qn⟩:=iD (fr:=nV ts) (by rw[gQ];decide) (fun j=>by have:=yn ts j;omega) (K:=15) (by decide) (by decide) (by rw[gQ];decide)
 have PE:(bq (kY ts) 15).length=286:=by rw[MO.len,fl]
 have Us:(bq (nV ts) 15).length=30:=by rw[Qn.len,gQ]
 obtain⟨mA,hA,R5,Xq,Uh⟩:=kg (n:=257) 286 (bq (kY ts) 15)
 obtain⟨mD,hD,QA,Xp,W7⟩:=kg (n:=1) 30 (bq (nV ts) 15)
 have IK:eM ts=(bq (kY ts) 15).take mA:=hA
 have UF:eL ts=(bq (nV ts) 15).take mD:=hD
 have Xq:=Xq (by omega)
 have Xp:=Xp (by omega)
 have bA:=MO.Nr
 have bD:=Qn.Nr
 rw[IK,UF]
 refine⟨by rw[List.length_take];omega,by rw[List.length_take];omega,fun x hx=>?_,fun x hx=>?_,wU R5 Uh (MO.makes (by decide) (by rw[fl];decide)),wU QA W7 (Qn.makes (by decide) (by rw[gQ];decide)),nn R5 Uh (MO.has (s:=256) (by decide) (by rw[fl];decide) (Mj ts)),fun t ht=>?_⟩
 ·have:=bA x (List.mem_of_mem_take hx);omega
 ·have:=bD x (List.mem_of_mem_take hx);omega
 ·have hr:=lD t ht
  refine⟨fun hz=>?_,fun hz=>?_⟩
  ·have h1:=hr.one hz
   refine⟨h1.1,h1.2,nn R5 Uh ?_⟩
   have h2:=EL ht (by rw[if_pos hz];omega)
   rw[if_pos hz]at h2
   have h3:=MO.has (s:=t.b.toNat) (by decide) (by rw[fl];omega) h2
   rwa[Int.toNat_of_nonneg h1.1]at h3
  ·obtain⟨m1,m2,m3,m4⟩:=hr.rep hz
   obtain⟨l1,l2,l3,l4,_⟩:=fB ⟨m1,m2⟩
   obtain⟨f1,f2,f3,_⟩:=fG (v:=t.d-1) (.inl rfl) (by omega)
   have h2:=EL ht (by rw[if_neg hz];omega)
   rw[if_neg hz]at h2
   have h3:=Mi ht hz (by omega)
   exact⟨m1,m2,m3,m4,nn R5 Uh (MO.has (by decide) (by rw[fl];omega) h2),nn QA W7 (Qn.has (by decide) (by rw[gQ];omega) h3)⟩
def aP:List Int:=[16,17,18,0,8,7,9,6,10,5,11,4,12,3,13,2,14,1,15]
def iA (ls:List Int):Nat→Nat→Nat
 |0,n=>n
 |k+1,n=>if 4<n∧ls.getD (aP.getD (n-1) 0).toNat 0=0 then iA ls k (n-1)else n
theorem xS (ls:List Int):∀k n,4≤n→4≤iA ls k n∧iA ls k n≤n
 |0,n,h=>⟨h,Nat.le_refl _⟩
 |k+1,n,h=>by
  simp only[iA]
  split
  ·rename_i hc;have:=xS ls k (n-1) (by omega);omega
  ·omega
theorem ta:∀j,0≤aP.getD j 0∧aP.getD j 0<19:=by
 intro j
 rcases Nat.lt_or_ge j 19 with h|h
 ·have:∀j,j<19→0≤aP.getD j 0∧aP.getD j 0<19:=by decide
  exact this j h
 ·rw[List.getD_eq_getElem?_getD,List.getElem?_eq_none (show aP.length≤j from h)];decide
def Jz (L:List Int):List Int:=bq (tZ (bf L)) 7
def nL (L:List Int):Nat:=iA (Jz L) 15 19
theorem HO (L:List Int):4≤nL L∧nL L≤19:=xS _ _ _ (by decide)
def dZ (ls:List Int)(n:Nat):List Bool:=(aP.take n).flatMap fun s=>bitsOf (ls.getD s.toNat 0) 3
theorem FC (ls:List Int){i:Nat}(h:i<19):dZ ls (i+1)=dZ ls i++bitsOf (ls.getD (aP.getD i 0).toNat 0) 3:=by
 unfold dZ
 have hl:i<aP.length:=h
 rw[List.take_add_one,List.getElem?_eq_getElem hl,List.flatMap_append]
 simp[List.getD_eq_getElem?_getD,List.getElem?_eq_getElem hl]
theorem qJ (ls:List Int):∀l:List Int,(l.flatMap fun s=>bitsOf (ls.getD s.toNat 0) 3).length=3*l.length
 |[]=>rfl
 |x::l=>by rw[List.flatMap_cons,List.length_append,qJ ls l,ai,List.length_cons];omega
theorem tc (ls:List Int)(n:Nat):(dZ ls n).length≤57:=by
 unfold dZ;rw[qJ,List.length_take]
 have:aP.length=19:=rfl
 omega
def Fw (ls:List Int)(x:Nat×Nat×Nat):List Bool:=aV ls (x.1:Int)++bitsOf (x.2.1:Int) x.2.2
def eF (ls:List Int)(dn:List (Nat×Nat×Nat)):List Bool:=dn.flatMap (Fw ls)
structure mG (L:List Int)(ls:List Int):Prop where
 len:ls.length=19
 Nr:∀x∈ls,0≤x∧x<8
 each:aE ls=0
 rows:∀x∈bf L,ja ls (x.1:Int)∧x.2.1<2^x.2.2∧x.2.2≤7
theorem xH {L:List Int}(hl:L.length≤316)(hb:∀x∈L,0≤x∧x<16):bh (tZ (bf L)) 7=(Jz L,0)∧mG L (Jz L):=by
 have yS:=ym (bf L)
 have ov:(bf L).length≤L.length:=mT L L.length 0
 obtain⟨h1,ok⟩:=iD (fr:=tZ (bf L)) (by rw[yS];decide) (fun j=>by have:=EK (bf L) j;omega) (K:=7) (by decide) (by decide) (by rw[yS];decide)
 refine⟨h1,by unfold Jz;rw[ok.len,yS],fun x hx=>by have:=ok.Nr x hx;omega,ok.makes (by decide) (by rw[yS];decide),fun x hx=>?_⟩
 have h2:=Fq hb x hx
 exact⟨ok.has (by decide) (by rw[yS];exact h2.1) (Mh hx h2.1),h2.2⟩
theorem pw {L ls:List Int}(ok:mG L ls):∀dn:List (Nat×Nat×Nat),(∀x∈dn,x∈bf L)→(eF ls dn).length≤22*dn.length
 |[],_=>Nat.le_refl _
 |x::dn,h=>by
  have h1:=pw ok dn (fun y hy=>h y (List.mem_cons_of_mem _ hy))
  obtain⟨h2,h3,h4⟩:=ok.rows x (h x List.mem_cons_self)
  have h5:=jb h2
  have e:eF ls (x::dn)=Fw ls x++eF ls dn:=rfl
  rw[e,List.length_append,List.length_cons]
  unfold Fw
  rw[List.length_append,ai]
  omega
def gq (A D:List Int):List Bool:=bitsOf 5 3++bitsOf ((A.length-257:Nat):Int) 5++bitsOf ((D.length-1:Nat):Int) 5++bitsOf ((nL (A++D)-4:Nat):Int) 4
theorem jP (A D:List Int):(gq A D).length=17:=by
 unfold gq;simp only[List.length_append,ai]
def du (ts:List Tk)(A D:List Int):List Bool:=gq A D++dZ (Jz (A++D)) (nL (A++D))++eF (Jz (A++D)) (bf (A++D))++(bF A D ts++aV A 256)
end Go.Proofs.Ytibadaomjlkoaaa
open Go.RowKit
namespace Go.Proofs.Ytibadaomjlkoaaa
set_option maxRecDepth 10000
noncomputable abbrev kf (l:Nat):Cx:={Gu (fun _=>[0,3]) []with r:=some l}
theorem vy {L:List Int}{dn:List (Nat×Nat×Nat)}{i n S E K N:Nat}{SI:Int}(hX:ay L i n=((S,E,K),N))(dz:cF L (L.length-i) i=(ay L i n).1::cF L (L.length-(i+(ay L i n).2)) (i+(ay L i n).2))(i3:dn++cF L (L.length-i) i=bf L)(i2:dn.length≤i)(hi:i<L.length)(n1:1≤n)(hl:L.length≤316)(hS:SI=(S:Int)):
 (tZ dn).length=19∧(0≤(tZ dn).getD (SI.toNat+0) 0∧(tZ dn).getD (SI.toNat+0) 0≤400)∧tZ (dn++[(S,E,K)])=(tZ dn).set (SI.toNat+0) ((tZ dn).getD (SI.toNat+0) 0+1)∧(dn++[(S,E,K)])++cF L (L.length-(i+N)) (i+N)=bf L∧1≤N∧N≤n:=by
 subst hS
 have Er:=px L i n n1
 rw[hX]at dz Er
 have:=EK dn ((S:Int).toNat+0)
 refine⟨ym dn,by omega,by rw[IM];rfl,by rw[←i3,dz,List.append_assoc];rfl,Er⟩
section
variable{ts:List Tk}{gt ct:Nat}{A D L ls:List Int}
theorem Mt {K Kp:AV→AH→Prop}{g0 c0:Nat}(lD:∀t∈ts,Nu t)(lK:ts.length≤150000)(Af:ts.length≤ct)
 (h:∀ga ca gd cd,(eM ts).length≤ca→(eL ts).length≤cd→K (.aG []) (uZ ts gt ct (eM ts) ga ca (eL ts) gd cd [] g0 c0)):
 aa Try.prog 44 [.ptr 0 0 0] (w3 ts gt ct g0 c0++[AO.one true 0 (.cells [.ptr 0 0 0])]) K Kp:=by
 refine aa.lift [.own 0,.own 1,.own 2] (Gy (K:=fun r N=>∃ga ca gd cd,(eM ts).length≤ca∧(eL ts).length≤cd∧r=.aG []∧N=fR (dX ts gt ct (eM ts) ga ca (eL ts) gd cd) [] g0 c0) (Kp:=fun _ _=>False) lD lK Af (fun ga ca gd cd h1 h2=>⟨ga,ca,gd,cd,h1,h2,rfl,rfl⟩))
  rfl rfl ⟨⟨rfl,rfl⟩,⟨rfl,rfl⟩,⟨rfl,rfl⟩,trivial⟩ ⟨rfl,trivial,fun j=>rfl,trivial⟩ ?_ (fun _ _ h=>h.elim)
 rintro r M' ⟨ga,ca,gd,cd,h1,h2,rfl,rfl⟩
 exact⟨⟨rfl,rfl,rfl,rfl⟩,h ga ca gd cd h1 h2⟩
def WC (L:List Int)(s:Nat×Nat×Nat×Nat×Nat×Nat):List (Nat×AV):=[(1,.ptr 3 0 0),(2,.sl 7 s.2.2.2.2.1 0 L.length s.2.2.2.2.2),(3,.ptr 9 0 0)]
def WG (ts:List Tk)(gt ct g0 c0:Nat)(A D L:List Int)(s:Nat×Nat×Nat×Nat×Nat×Nat):AH:=
 uZ ts gt ct A s.1 s.2.1 D s.2.2.1 s.2.2.2.1 [] g0 c0++[AO.gone,AO.one true s.2.2.2.2.1 (.ints .u8 L s.2.2.2.2.2),AO.one true 0 (.ints .i64 (tZ (bf L)) 19),AO.one true 0 (.cells [.sl 8 0 0 19 19])]
noncomputable abbrev Qg:Cx:=Gu (fun _=>[0,3]) []
set_option maxHeartbeats 4000000 in
theorem Wy {Q:iT→AA→AH→Prop}{Kp:AV→AH→Prop}{g0 c0:Nat}(lD:∀t∈ts,Nu t)(lK:ts.length≤150000)(Af:ts.length≤ct)(hA:eM ts=A)(hD:eL ts=D)(hL:A++D=L)(bk:yN ts A D):
 rK Qg (mw (WC L) (WG ts gt ct g0 c0 A D L)) Q Kp 5 oM (au [.ptr 0 0 0]) (w3 ts gt ct g0 c0):=by
 have Ng:=bk.al
 have P4:=bk.dl
 have iJ:258≤L.length∧L.length≤316:=by rw[←hL,List.length_append];omega
 have SF:∀i,i<L.length→0≤L.getD i 0∧L.getD i 0<16:=by
  intro i hi
  rw[List.getD_eq_getElem?_getD,List.getElem?_eq_getElem hi,Option.getD_some]
  have hm:=List.getElem_mem hi
  generalize L[i]=x at hm
  rw[←hL]at hm
  rcases List.mem_append.1 hm with h|h
  ·exact bk.ab x h
  ·exact bk.db x h
 refine Qs ?_
 refine Mt lD lK Af fun ga ca gd cd Y5 Y3=>?_
 rw[hA,hD]
 rw[hA]at Y5
 rw[hD]at Y3
 refine Qs ?_
 refine Cf (p:=6) (q0:=4) (q1:=5) (x0:=A) (x1:=D) (by omega) rfl rfl rfl fun g7 c7 Z9=>?_
 rw[hL]
 refine Qs ?_
 refine G8 (fun _=>[]) [] rfl ?_
 refine Qs ?_
 refine WO.range rfl rfl [(1,.ptr 3 0 0),(2,.sl 7 g7 0 L.length c7),(3,.ptr 9 0 0)] (aI rfl (aI rfl (aI rfl (trivial)))) fun l fn df d=>?_
 refine G6 (fun _=>[7,10]) [] rfl ?_
 refine Qs ?_
 refine WO.go (σ:=Nat×List (Nat×Nat×Nat)×Nat×Nat) (fun(i,dn,g,c)=>i≤L.length∧dn.length≤i∧dn++cF L (L.length-i) i=bf L∧True) (fun(i,_,_,_)=>L.length-i)
  (fun(i,_,_,_)=>[(0,.fn (.yield l) [] []),(1,.ptr 10 0 0),(3,.int .i64 (i:Int))]) (fun(i,dn,g,c)=>uZ ts gt ct A ga ca D gd cd [] g0 c0++[AO.gone,AO.one true g7 (.ints .u8 L c7),AO.one true 0 (.ints .i64 (tZ dn) 19),AO.one true 0 (.cells [.sl 8 0 0 19 19]),AO.one true 0 (.cells [.sl 7 g7 0 L.length c7]),AO.one true 0 (.loop l .ready none fn _ _ _ _ _ df)]) (0,[],0,0) ag mixed (by kernel_rfl) ⟨Nat.zero_le _,Nat.le_refl _,rfl,trivial⟩ (aI rfl (aI rfl (aI rfl (trivial)))) (aI rfl (aI rfl (aI rfl (aI rfl (aI rfl (aI rfl (aI trivial (aI rfl (aI rfl (aI rfl (aI rfl (aI rfl (trivial))))))))))))) (fun _=>rfl) (fun _=>rfl) (fun _=>⟨rfl,trivial,fun j=>rfl,rfl,trivial,trivial,trivial,trivial,trivial,rfl,rfl,xW rfl,trivial⟩) ?_
 rintro⟨i,dn,g,c⟩ ⟨i1,i2,i3,i4⟩ d2
 refine Qs ?_
 refine And.intro (fun q1=>?_) (fun q1=>?_)
 ·have hi:i<L.length:=by have q1:(i:Int)<(L.length:Int):=of_decide_eq_true q1;omega
  have ov:=mS L i L.length 1 (by omega)
  have dz:=oa hi
  refine Qs ?_
  refine WO.go (σ:=Nat) (fun n=>1≤n∧i+n≤L.length∧runN L i (L.length-(n-1)) n=runN L i L.length 1) (fun n=>L.length-n)
   (fun n=>[(0,.fn (.yield l) [] []),(1,.ptr 10 0 0),(3,.int .i64 (i:Int)),(4,.int .i64 (n:Int))]) (fun _=>uZ ts gt ct A ga ca D gd cd [] g0 c0++[AO.gone,AO.one true g7 (.ints .u8 L c7),AO.one true 0 (.ints .i64 (tZ dn) 19),AO.one true 0 (.cells [.sl 8 0 0 19 19]),AO.one true 0 (.cells [.sl 7 g7 0 L.length c7]),AO.one true 0 (.loop l .ready none fn _ _ _ _ _ df)]) 1 ag mixed (by kernel_rfl) ⟨Nat.le_refl _,hi,rfl⟩ (aI rfl (aI rfl (aI rfl (aI rfl (trivial))))) (aI rfl (aI rfl (aI rfl (aI rfl (aI rfl (aI rfl (aI trivial (aI rfl (aI rfl (aI rfl (aI rfl (aI rfl (trivial))))))))))))) (fun _=>rfl) (fun _=>rfl) (fun _=>⟨rfl,trivial,fun j=>rfl,rfl,trivial,trivial,trivial,trivial,trivial,rfl,rfl,xW rfl,trivial⟩) ?_
  rintro n ⟨n1,n2,n3⟩ d3
  have Wa:=iJ
  refine Qs ?_
  refine And.intro (fun q2=>?_) (fun q2=>?_)
  ·have h2:i+n<L.length:=by have q2:(i:Int)+(n:Int)<(L.length:Int):=of_decide_eq_true q2;omega
   refine Qs ?_
   refine And.intro (fun q3=>?_) (fun q3=>?_)
   ·have h3:L.getD (i+n) 0=L.getD i 0:=of_decide_eq_true q3
    refine Qs ?_
    refine RO.same (n+1) ⟨by omega,h2,?_⟩ (show L.length-(n+1)<L.length-n by omega) (aI rfl (aI rfl (aI rfl (aI rfl (trivial))))) (aI rfl (aI rfl (aI rfl (aI rfl (aI rfl (aI rfl (aI trivial (aI rfl (aI rfl (aI rfl (aI rfl (aI rfl (trivial)))))))))))))
    rw[←n3,show L.length-(n-1)=(L.length-(n+1-1))+1 by omega,runN,if_pos ⟨h2,h3⟩]
   ·have h3:¬L.getD (i+n) 0=L.getD i 0:=of_decide_eq_false q3
    have hn:runN L i L.length 1=n:=by
     rw[←n3,show L.length-(n-1)=(L.length-(n+1-1))+1 by omega,runN,if_neg (fun x=>h3 x.2)]
    rw[hn]at dz
    have jC:0≤L.getD ((i:Int).toNat+0) 0∧L.getD ((i:Int).toNat+0) 0<16:=SF i hi
    refine Qs ?_
    refine And.intro (fun z1=>?_) (fun z1=>?_)
    ·have z1:L.getD i 0=0:=of_decide_eq_true z1
     refine Qs ?_
     refine And.intro (fun z2=>?_) (fun z2=>?_)
     ·have z2:11≤n:=by have z2:(11:Int)≤(n:Int):=of_decide_eq_true z2;omega
      have hX:ay L i n=((18,min n 138-11,7),min n 138):=by unfold ay;rw[if_pos ⟨z1,z2⟩]
      have eE:min (n:Int) 138-11=((min n 138-11:Nat):Int):=by omega
      refine Qs ?_
      rw[eE]
      obtain⟨a1,a2,a3,a4,a5⟩:=vy (SI:=(18:Int)) hX dz i3 i2 hi n1 iJ.2 (by first|rfl|exact(Int.toNat_of_nonneg jC.1).symm)
      refine aL.round (x:=kf l) ag mixed (i:=11) rfl (by kernel_rfl) rfl rfl ?_
      refine Qs ?_
      refine RO.same (i+(min n 138),dn++[(18,(min n 138-11),7)],g,c) ⟨by omega,by rw[List.length_append,List.length_singleton];omega,a4,trivial⟩ (show L.length-(i+(min n 138))<L.length-i by omega) (aI rfl (aI rfl (aI (congrArg (AV.int .i64) (show _=((i+(min n 138):Nat):Int) by omega)) trivial))) (aI rfl (aI rfl (aI rfl (aI rfl (aI rfl (aI rfl (aI trivial (aI rfl (aI (congrArg (fun z=>AO.one true 0 (.ints .i64 z 19)) a3) (aI rfl (aI rfl (aI rfl trivial))))))))))))
     ·have z2:¬11≤n:=by have z2:¬(11:Int)≤(n:Int):=of_decide_eq_false z2;omega
      refine Qs ?_
      refine And.intro (fun z3=>?_) (fun z3=>?_)
      rotate_left
      ·exact absurd z1 (of_decide_eq_false z3)
      refine Qs ?_
      refine And.intro (fun z4=>?_) (fun z4=>?_)
      ·have z4:3≤n:=by have z4:(3:Int)≤(n:Int):=of_decide_eq_true z4;omega
       have hX:ay L i n=((17,n-3,3),n):=by unfold ay;rw[if_neg (fun x=>z2 x.2),if_pos ⟨z1,z4⟩]
       have eE:(n:Int)-3=((n-3:Nat):Int):=by omega
       refine Qs ?_
       rw[eE]
       obtain⟨a1,a2,a3,a4,a5⟩:=vy (SI:=(17:Int)) hX dz i3 i2 hi n1 iJ.2 (by first|rfl|exact(Int.toNat_of_nonneg jC.1).symm)
       refine aL.round (x:=kf l) ag mixed (i:=11) rfl (by kernel_rfl) rfl rfl ?_
       refine Qs ?_
       refine RO.same (i+n,dn++[(17,(n-3),3)],g,c) ⟨by omega,by rw[List.length_append,List.length_singleton];omega,a4,trivial⟩ (show L.length-(i+n)<L.length-i by omega) (aI rfl (aI rfl (aI (congrArg (AV.int .i64) (show _=((i+n:Nat):Int) by omega)) trivial))) (aI rfl (aI rfl (aI rfl (aI rfl (aI rfl (aI rfl (aI trivial (aI rfl (aI (congrArg (fun z=>AO.one true 0 (.ints .i64 z 19)) a3) (aI rfl (aI rfl (aI rfl trivial))))))))))))
      ·have z4:¬3≤n:=by have z4:¬(3:Int)≤(n:Int):=of_decide_eq_false z4;omega
       have c1:¬(L.getD i 0=0∧11≤n):=fun x=>z2 x.2
       have c2:¬(L.getD i 0=0∧3≤n):=fun x=>z4 x.2
       refine Qs ?_
       refine And.intro (fun y1=>?_) (fun y1=>?_)
       ·have y1:0<i:=by have y1:(0:Int)<(i:Int):=of_decide_eq_true y1;omega
        have ei:(i:Int)-1=((i-1:Nat):Int):=by omega
        have eg:L.getD (((i:Int)-1).toNat+0) 0=L.getD (i-1) 0:=by rw[ei];rfl
        refine Qs ?_
        refine And.intro (fun y2=>?_) (fun y2=>?_)
        ·have y2:L.getD (((i:Int)-1).toNat+0) 0=L.getD i 0:=of_decide_eq_true y2
         rw[eg]at y2
         refine Qs ?_
         refine And.intro (fun y3=>?_) (fun y3=>?_)
         ·have y3:3≤n:=by have y3:(3:Int)≤(n:Int):=of_decide_eq_true y3;omega
          have hX:ay L i n=((16,min n 6-3,2),min n 6):=by unfold ay;rw[if_neg c1,if_neg c2,if_pos ⟨y1,y2,y3⟩]
          have eE:min (n:Int) 6-3=((min n 6-3:Nat):Int):=by omega
          refine Qs ?_
          rw[eE]
          obtain⟨a1,a2,a3,a4,a5⟩:=vy (SI:=(16:Int)) hX dz i3 i2 hi n1 iJ.2 (by first|rfl|exact(Int.toNat_of_nonneg jC.1).symm)
          refine aL.round (x:=kf l) ag mixed (i:=11) rfl (by kernel_rfl) rfl rfl ?_
          refine Qs ?_
          refine RO.same (i+(min n 6),dn++[(16,(min n 6-3),2)],g,c) ⟨by omega,by rw[List.length_append,List.length_singleton];omega,a4,trivial⟩ (show L.length-(i+(min n 6))<L.length-i by omega) (aI rfl (aI rfl (aI (congrArg (AV.int .i64) (show _=((i+(min n 6):Nat):Int) by omega)) trivial))) (aI rfl (aI rfl (aI rfl (aI rfl (aI rfl (aI rfl (aI trivial (aI rfl (aI (congrArg (fun z=>AO.one true 0 (.ints .i64 z 19)) a3) (aI rfl (aI rfl (aI rfl trivial))))))))))))
         ·have y3:¬3≤n:=by have y3:¬(3:Int)≤(n:Int):=of_decide_eq_false y3;omega
          have hX:ay L i n=(((L.getD i 0).toNat,0,0),1):=by unfold ay;rw[if_neg c1,if_neg c2,if_neg (fun x=>y3 x.2.2)]
          refine Qs ?_
          obtain⟨a1,a2,a3,a4,a5⟩:=vy (SI:=L.getD ((i:Int).toNat+0) 0) hX dz i3 i2 hi n1 iJ.2 (by first|rfl|exact(Int.toNat_of_nonneg jC.1).symm)
          refine aL.round (x:=kf l) ag mixed (i:=11) rfl (by kernel_rfl) rfl rfl ?_
          refine Qs ?_
          refine RO.same (i+1,dn++[((L.getD i 0).toNat,0,0)],g,c) ⟨by omega,by rw[List.length_append,List.length_singleton];omega,a4,trivial⟩ (show L.length-(i+1)<L.length-i by omega) (aI rfl (aI rfl (aI (congrArg (AV.int .i64) (show _=((i+1:Nat):Int) by omega)) trivial))) (aI rfl (aI rfl (aI rfl (aI rfl (aI rfl (aI rfl (aI trivial (aI rfl (aI (congrArg (fun z=>AO.one true 0 (.ints .i64 z 19)) a3) (aI rfl (aI rfl (aI rfl trivial))))))))))))
        ·have y2:¬L.getD (((i:Int)-1).toNat+0) 0=L.getD i 0:=of_decide_eq_false y2
         rw[eg]at y2
         have hX:ay L i n=(((L.getD i 0).toNat,0,0),1):=by unfold ay;rw[if_neg c1,if_neg c2,if_neg (fun x=>y2 x.2.1)]
         refine Qs ?_
         obtain⟨a1,a2,a3,a4,a5⟩:=vy (SI:=L.getD ((i:Int).toNat+0) 0) hX dz i3 i2 hi n1 iJ.2 (by first|rfl|exact(Int.toNat_of_nonneg jC.1).symm)
         refine aL.round (x:=kf l) ag mixed (i:=11) rfl (by kernel_rfl) rfl rfl ?_
         refine Qs ?_
         refine RO.same (i+1,dn++[((L.getD i 0).toNat,0,0)],g,c) ⟨by omega,by rw[List.length_append,List.length_singleton];omega,a4,trivial⟩ (show L.length-(i+1)<L.length-i by omega) (aI rfl (aI rfl (aI (congrArg (AV.int .i64) (show _=((i+1:Nat):Int) by omega)) trivial))) (aI rfl (aI rfl (aI rfl (aI rfl (aI rfl (aI rfl (aI trivial (aI rfl (aI (congrArg (fun z=>AO.one true 0 (.ints .i64 z 19)) a3) (aI rfl (aI rfl (aI rfl trivial))))))))))))
       ·have y1:¬0<i:=by have y1:¬(0:Int)<(i:Int):=of_decide_eq_false y1;omega
        have hX:ay L i n=(((L.getD i 0).toNat,0,0),1):=by unfold ay;rw[if_neg c1,if_neg c2,if_neg (fun x=>y1 x.1)]
        refine Qs ?_
        obtain⟨a1,a2,a3,a4,a5⟩:=vy (SI:=L.getD ((i:Int).toNat+0) 0) hX dz i3 i2 hi n1 iJ.2 (by first|rfl|exact(Int.toNat_of_nonneg jC.1).symm)
        refine aL.round (x:=kf l) ag mixed (i:=11) rfl (by kernel_rfl) rfl rfl ?_
        refine Qs ?_
        refine RO.same (i+1,dn++[((L.getD i 0).toNat,0,0)],g,c) ⟨by omega,by rw[List.length_append,List.length_singleton];omega,a4,trivial⟩ (show L.length-(i+1)<L.length-i by omega) (aI rfl (aI rfl (aI (congrArg (AV.int .i64) (show _=((i+1:Nat):Int) by omega)) trivial))) (aI rfl (aI rfl (aI rfl (aI rfl (aI rfl (aI rfl (aI trivial (aI rfl (aI (congrArg (fun z=>AO.one true 0 (.ints .i64 z 19)) a3) (aI rfl (aI rfl (aI rfl trivial))))))))))))
    ·have z1:¬L.getD i 0=0:=of_decide_eq_false z1
     have c1:¬(L.getD i 0=0∧11≤n):=fun x=>z1 x.1
     have c2:¬(L.getD i 0=0∧3≤n):=fun x=>z1 x.1
     refine Qs ?_
     refine And.intro (fun z3=>?_) (fun z3=>?_)
     ·exact absurd (of_decide_eq_true z3) z1
     refine Qs ?_
     refine And.intro (fun y1=>?_) (fun y1=>?_)
     ·have y1:0<i:=by have y1:(0:Int)<(i:Int):=of_decide_eq_true y1;omega
      have ei:(i:Int)-1=((i-1:Nat):Int):=by omega
      have eg:L.getD (((i:Int)-1).toNat+0) 0=L.getD (i-1) 0:=by rw[ei];rfl
      refine Qs ?_
      refine And.intro (fun y2=>?_) (fun y2=>?_)
      ·have y2:L.getD (((i:Int)-1).toNat+0) 0=L.getD i 0:=of_decide_eq_true y2
       rw[eg]at y2
       refine Qs ?_
       refine And.intro (fun y3=>?_) (fun y3=>?_)
       ·have y3:3≤n:=by have y3:(3:Int)≤(n:Int):=of_decide_eq_true y3;omega
        have hX:ay L i n=((16,min n 6-3,2),min n 6):=by unfold ay;rw[if_neg c1,if_neg c2,if_pos ⟨y1,y2,y3⟩]
        have eE:min (n:Int) 6-3=((min n 6-3:Nat):Int):=by omega
        refine Qs ?_
        rw[eE]
        obtain⟨a1,a2,a3,a4,a5⟩:=vy (SI:=(16:Int)) hX dz i3 i2 hi n1 iJ.2 (by first|rfl|exact(Int.toNat_of_nonneg jC.1).symm)
        refine aL.round (x:=kf l) ag mixed (i:=11) rfl (by kernel_rfl) rfl rfl ?_
        refine Qs ?_
        refine RO.same (i+(min n 6),dn++[(16,(min n 6-3),2)],g,c) ⟨by omega,by rw[List.length_append,List.length_singleton];omega,a4,trivial⟩ (show L.length-(i+(min n 6))<L.length-i by omega) (aI rfl (aI rfl (aI (congrArg (AV.int .i64) (show _=((i+(min n 6):Nat):Int) by omega)) trivial))) (aI rfl (aI rfl (aI rfl (aI rfl (aI rfl (aI rfl (aI trivial (aI rfl (aI (congrArg (fun z=>AO.one true 0 (.ints .i64 z 19)) a3) (aI rfl (aI rfl (aI rfl trivial))))))))))))
       ·have y3:¬3≤n:=by have y3:¬(3:Int)≤(n:Int):=of_decide_eq_false y3;omega
        have hX:ay L i n=(((L.getD i 0).toNat,0,0),1):=by unfold ay;rw[if_neg c1,if_neg c2,if_neg (fun x=>y3 x.2.2)]
        refine Qs ?_
        obtain⟨a1,a2,a3,a4,a5⟩:=vy (SI:=L.getD ((i:Int).toNat+0) 0) hX dz i3 i2 hi n1 iJ.2 (by first|rfl|exact(Int.toNat_of_nonneg jC.1).symm)
        refine aL.round (x:=kf l) ag mixed (i:=11) rfl (by kernel_rfl) rfl rfl ?_
        refine Qs ?_
        refine RO.same (i+1,dn++[((L.getD i 0).toNat,0,0)],g,c) ⟨by omega,by rw[List.length_append,List.length_singleton];omega,a4,trivial⟩ (show L.length-(i+1)<L.length-i by omega) (aI rfl (aI rfl (aI (congrArg (AV.int .i64) (show _=((i+1:Nat):Int) by omega)) trivial))) (aI rfl (aI rfl (aI rfl (aI rfl (aI rfl (aI rfl (aI trivial (aI rfl (aI (congrArg (fun z=>AO.one true 0 (.ints .i64 z 19)) a3) (aI rfl (aI rfl (aI rfl trivial))))))))))))
      ·have y2:¬L.getD (((i:Int)-1).toNat+0) 0=L.getD i 0:=of_decide_eq_false y2
       rw[eg]at y2
       have hX:ay L i n=(((L.getD i 0).toNat,0,0),1):=by unfold ay;rw[if_neg c1,if_neg c2,if_neg (fun x=>y2 x.2.1)]
       refine Qs ?_
       obtain⟨a1,a2,a3,a4,a5⟩:=vy (SI:=L.getD ((i:Int).toNat+0) 0) hX dz i3 i2 hi n1 iJ.2 (by first|rfl|exact(Int.toNat_of_nonneg jC.1).symm)
       refine aL.round (x:=kf l) ag mixed (i:=11) rfl (by kernel_rfl) rfl rfl ?_
       refine Qs ?_
       refine RO.same (i+1,dn++[((L.getD i 0).toNat,0,0)],g,c) ⟨by omega,by rw[List.length_append,List.length_singleton];omega,a4,trivial⟩ (show L.length-(i+1)<L.length-i by omega) (aI rfl (aI rfl (aI (congrArg (AV.int .i64) (show _=((i+1:Nat):Int) by omega)) trivial))) (aI rfl (aI rfl (aI rfl (aI rfl (aI rfl (aI rfl (aI trivial (aI rfl (aI (congrArg (fun z=>AO.one true 0 (.ints .i64 z 19)) a3) (aI rfl (aI rfl (aI rfl trivial))))))))))))
     ·have y1:¬0<i:=by have y1:¬(0:Int)<(i:Int):=of_decide_eq_false y1;omega
      have hX:ay L i n=(((L.getD i 0).toNat,0,0),1):=by unfold ay;rw[if_neg c1,if_neg c2,if_neg (fun x=>y1 x.1)]
      refine Qs ?_
      obtain⟨a1,a2,a3,a4,a5⟩:=vy (SI:=L.getD ((i:Int).toNat+0) 0) hX dz i3 i2 hi n1 iJ.2 (by first|rfl|exact(Int.toNat_of_nonneg jC.1).symm)
      refine aL.round (x:=kf l) ag mixed (i:=11) rfl (by kernel_rfl) rfl rfl ?_
      refine Qs ?_
      refine RO.same (i+1,dn++[((L.getD i 0).toNat,0,0)],g,c) ⟨by omega,by rw[List.length_append,List.length_singleton];omega,a4,trivial⟩ (show L.length-(i+1)<L.length-i by omega) (aI rfl (aI rfl (aI (congrArg (AV.int .i64) (show _=((i+1:Nat):Int) by omega)) trivial))) (aI rfl (aI rfl (aI rfl (aI rfl (aI rfl (aI rfl (aI trivial (aI rfl (aI (congrArg (fun z=>AO.one true 0 (.ints .i64 z 19)) a3) (aI rfl (aI rfl (aI rfl trivial))))))))))))
  ·have h2:¬i+n<L.length:=by have q2:¬(i:Int)+(n:Int)<(L.length:Int):=of_decide_eq_false q2;omega
   have hn:runN L i L.length 1=n:=by
    rw[←n3,show L.length-(n-1)=(L.length-(n+1-1))+1 by omega,runN,if_neg (fun x=>h2 x.1)]
   rw[hn]at dz
   have jC:0≤L.getD ((i:Int).toNat+0) 0∧L.getD ((i:Int).toNat+0) 0<16:=SF i hi
   refine Qs ?_
   refine And.intro (fun z1=>?_) (fun z1=>?_)
   ·have z1:L.getD i 0=0:=of_decide_eq_true z1
    refine Qs ?_
    refine And.intro (fun z2=>?_) (fun z2=>?_)
    ·have z2:11≤n:=by have z2:(11:Int)≤(n:Int):=of_decide_eq_true z2;omega
     have hX:ay L i n=((18,min n 138-11,7),min n 138):=by unfold ay;rw[if_pos ⟨z1,z2⟩]
     have eE:min (n:Int) 138-11=((min n 138-11:Nat):Int):=by omega
     refine Qs ?_
     rw[eE]
     obtain⟨a1,a2,a3,a4,a5⟩:=vy (SI:=(18:Int)) hX dz i3 i2 hi n1 iJ.2 (by first|rfl|exact(Int.toNat_of_nonneg jC.1).symm)
     refine aL.round (x:=kf l) ag mixed (i:=11) rfl (by kernel_rfl) rfl rfl ?_
     refine Qs ?_
     refine RO.same (i+(min n 138),dn++[(18,(min n 138-11),7)],g,c) ⟨by omega,by rw[List.length_append,List.length_singleton];omega,a4,trivial⟩ (show L.length-(i+(min n 138))<L.length-i by omega) (aI rfl (aI rfl (aI (congrArg (AV.int .i64) (show _=((i+(min n 138):Nat):Int) by omega)) trivial))) (aI rfl (aI rfl (aI rfl (aI rfl (aI rfl (aI rfl (aI trivial (aI rfl (aI (congrArg (fun z=>AO.one true 0 (.ints .i64 z 19)) a3) (aI rfl (aI rfl (aI rfl trivial))))))))))))
    ·have z2:¬11≤n:=by have z2:¬(11:Int)≤(n:Int):=of_decide_eq_false z2;omega
     refine Qs ?_
     refine And.intro (fun z3=>?_) (fun z3=>?_)
     rotate_left
     ·exact absurd z1 (of_decide_eq_false z3)
     refine Qs ?_
     refine And.intro (fun z4=>?_) (fun z4=>?_)
     ·have z4:3≤n:=by have z4:(3:Int)≤(n:Int):=of_decide_eq_true z4;omega
      have hX:ay L i n=((17,n-3,3),n):=by unfold ay;rw[if_neg (fun x=>z2 x.2),if_pos ⟨z1,z4⟩]
      have eE:(n:Int)-3=((n-3:Nat):Int):=by omega
      refine Qs ?_
      rw[eE]
      obtain⟨a1,a2,a3,a4,a5⟩:=vy (SI:=(17:Int)) hX dz i3 i2 hi n1 iJ.2 (by first|rfl|exact(Int.toNat_of_nonneg jC.1).symm)
      refine aL.round (x:=kf l) ag mixed (i:=11) rfl (by kernel_rfl) rfl rfl ?_
      refine Qs ?_
      refine RO.same (i+n,dn++[(17,(n-3),3)],g,c) ⟨by omega,by rw[List.length_append,List.length_singleton];omega,a4,trivial⟩ (show L.length-(i+n)<L.length-i by omega) (aI rfl (aI rfl (aI (congrArg (AV.int .i64) (show _=((i+n:Nat):Int) by omega)) trivial))) (aI rfl (aI rfl (aI rfl (aI rfl (aI rfl (aI rfl (aI trivial (aI rfl (aI (congrArg (fun z=>AO.one true 0 (.ints .i64 z 19)) a3) (aI rfl (aI rfl (aI rfl trivial))))))))))))
     ·have z4:¬3≤n:=by have z4:¬(3:Int)≤(n:Int):=of_decide_eq_false z4;omega
      have c1:¬(L.getD i 0=0∧11≤n):=fun x=>z2 x.2
      have c2:¬(L.getD i 0=0∧3≤n):=fun x=>z4 x.2
      refine Qs ?_
      refine And.intro (fun y1=>?_) (fun y1=>?_)
      ·have y1:0<i:=by have y1:(0:Int)<(i:Int):=of_decide_eq_true y1;omega
       have ei:(i:Int)-1=((i-1:Nat):Int):=by omega
       have eg:L.getD (((i:Int)-1).toNat+0) 0=L.getD (i-1) 0:=by rw[ei];rfl
       refine Qs ?_
       refine And.intro (fun y2=>?_) (fun y2=>?_)
       ·have y2:L.getD (((i:Int)-1).toNat+0) 0=L.getD i 0:=of_decide_eq_true y2
        rw[eg]at y2
        refine Qs ?_
        refine And.intro (fun y3=>?_) (fun y3=>?_)
        ·have y3:3≤n:=by have y3:(3:Int)≤(n:Int):=of_decide_eq_true y3;omega
         have hX:ay L i n=((16,min n 6-3,2),min n 6):=by unfold ay;rw[if_neg c1,if_neg c2,if_pos ⟨y1,y2,y3⟩]
         have eE:min (n:Int) 6-3=((min n 6-3:Nat):Int):=by omega
         refine Qs ?_
         rw[eE]
         obtain⟨a1,a2,a3,a4,a5⟩:=vy (SI:=(16:Int)) hX dz i3 i2 hi n1 iJ.2 (by first|rfl|exact(Int.toNat_of_nonneg jC.1).symm)
         refine aL.round (x:=kf l) ag mixed (i:=11) rfl (by kernel_rfl) rfl rfl ?_
         refine Qs ?_
         refine RO.same (i+(min n 6),dn++[(16,(min n 6-3),2)],g,c) ⟨by omega,by rw[List.length_append,List.length_singleton];omega,a4,trivial⟩ (show L.length-(i+(min n 6))<L.length-i by omega) (aI rfl (aI rfl (aI (congrArg (AV.int .i64) (show _=((i+(min n 6):Nat):Int) by omega)) trivial))) (aI rfl (aI rfl (aI rfl (aI rfl (aI rfl (aI rfl (aI trivial (aI rfl (aI (congrArg (fun z=>AO.one true 0 (.ints .i64 z 19)) a3) (aI rfl (aI rfl (aI rfl trivial))))))))))))
        ·have y3:¬3≤n:=by have y3:¬(3:Int)≤(n:Int):=of_decide_eq_false y3;omega
         have hX:ay L i n=(((L.getD i 0).toNat,0,0),1):=by unfold ay;rw[if_neg c1,if_neg c2,if_neg (fun x=>y3 x.2.2)]
         refine Qs ?_
         obtain⟨a1,a2,a3,a4,a5⟩:=vy (SI:=L.getD ((i:Int).toNat+0) 0) hX dz i3 i2 hi n1 iJ.2 (by first|rfl|exact(Int.toNat_of_nonneg jC.1).symm)
         refine aL.round (x:=kf l) ag mixed (i:=11) rfl (by kernel_rfl) rfl rfl ?_
         refine Qs ?_
         refine RO.same (i+1,dn++[((L.getD i 0).toNat,0,0)],g,c) ⟨by omega,by rw[List.length_append,List.length_singleton];omega,a4,trivial⟩ (show L.length-(i+1)<L.length-i by omega) (aI rfl (aI rfl (aI (congrArg (AV.int .i64) (show _=((i+1:Nat):Int) by omega)) trivial))) (aI rfl (aI rfl (aI rfl (aI rfl (aI rfl (aI rfl (aI trivial (aI rfl (aI (congrArg (fun z=>AO.one true 0 (.ints .i64 z 19)) a3) (aI rfl (aI rfl (aI rfl trivial))))))))))))
       ·have y2:¬L.getD (((i:Int)-1).toNat+0) 0=L.getD i 0:=of_decide_eq_false y2
        rw[eg]at y2
        have hX:ay L i n=(((L.getD i 0).toNat,0,0),1):=by unfold ay;rw[if_neg c1,if_neg c2,if_neg (fun x=>y2 x.2.1)]
        refine Qs ?_
        obtain⟨a1,a2,a3,a4,a5⟩:=vy (SI:=L.getD ((i:Int).toNat+0) 0) hX dz i3 i2 hi n1 iJ.2 (by first|rfl|exact(Int.toNat_of_nonneg jC.1).symm)
        refine aL.round (x:=kf l) ag mixed (i:=11) rfl (by kernel_rfl) rfl rfl ?_
        refine Qs ?_
        refine RO.same (i+1,dn++[((L.getD i 0).toNat,0,0)],g,c) ⟨by omega,by rw[List.length_append,List.length_singleton];omega,a4,trivial⟩ (show L.length-(i+1)<L.length-i by omega) (aI rfl (aI rfl (aI (congrArg (AV.int .i64) (show _=((i+1:Nat):Int) by omega)) trivial))) (aI rfl (aI rfl (aI rfl (aI rfl (aI rfl (aI rfl (aI trivial (aI rfl (aI (congrArg (fun z=>AO.one true 0 (.ints .i64 z 19)) a3) (aI rfl (aI rfl (aI rfl trivial))))))))))))
      ·have y1:¬0<i:=by have y1:¬(0:Int)<(i:Int):=of_decide_eq_false y1;omega
       have hX:ay L i n=(((L.getD i 0).toNat,0,0),1):=by unfold ay;rw[if_neg c1,if_neg c2,if_neg (fun x=>y1 x.1)]
       refine Qs ?_
       obtain⟨a1,a2,a3,a4,a5⟩:=vy (SI:=L.getD ((i:Int).toNat+0) 0) hX dz i3 i2 hi n1 iJ.2 (by first|rfl|exact(Int.toNat_of_nonneg jC.1).symm)
       refine aL.round (x:=kf l) ag mixed (i:=11) rfl (by kernel_rfl) rfl rfl ?_
       refine Qs ?_
       refine RO.same (i+1,dn++[((L.getD i 0).toNat,0,0)],g,c) ⟨by omega,by rw[List.length_append,List.length_singleton];omega,a4,trivial⟩ (show L.length-(i+1)<L.length-i by omega) (aI rfl (aI rfl (aI (congrArg (AV.int .i64) (show _=((i+1:Nat):Int) by omega)) trivial))) (aI rfl (aI rfl (aI rfl (aI rfl (aI rfl (aI rfl (aI trivial (aI rfl (aI (congrArg (fun z=>AO.one true 0 (.ints .i64 z 19)) a3) (aI rfl (aI rfl (aI rfl trivial))))))))))))
   ·have z1:¬L.getD i 0=0:=of_decide_eq_false z1
    have c1:¬(L.getD i 0=0∧11≤n):=fun x=>z1 x.1
    have c2:¬(L.getD i 0=0∧3≤n):=fun x=>z1 x.1
    refine Qs ?_
    refine And.intro (fun z3=>?_) (fun z3=>?_)
    ·exact absurd (of_decide_eq_true z3) z1
    refine Qs ?_
    refine And.intro (fun y1=>?_) (fun y1=>?_)
    ·have y1:0<i:=by have y1:(0:Int)<(i:Int):=of_decide_eq_true y1;omega
     have ei:(i:Int)-1=((i-1:Nat):Int):=by omega
     have eg:L.getD (((i:Int)-1).toNat+0) 0=L.getD (i-1) 0:=by rw[ei];rfl
     refine Qs ?_
     refine And.intro (fun y2=>?_) (fun y2=>?_)
     ·have y2:L.getD (((i:Int)-1).toNat+0) 0=L.getD i 0:=of_decide_eq_true y2
      rw[eg]at y2
      refine Qs ?_
      refine And.intro (fun y3=>?_) (fun y3=>?_)
      ·have y3:3≤n:=by have y3:(3:Int)≤(n:Int):=of_decide_eq_true y3;omega
       have hX:ay L i n=((16,min n 6-3,2),min n 6):=by unfold ay;rw[if_neg c1,if_neg c2,if_pos ⟨y1,y2,y3⟩]
       have eE:min (n:Int) 6-3=((min n 6-3:Nat):Int):=by omega
       refine Qs ?_
       rw[eE]
       obtain⟨a1,a2,a3,a4,a5⟩:=vy (SI:=(16:Int)) hX dz i3 i2 hi n1 iJ.2 (by first|rfl|exact(Int.toNat_of_nonneg jC.1).symm)
       refine aL.round (x:=kf l) ag mixed (i:=11) rfl (by kernel_rfl) rfl rfl ?_
       refine Qs ?_
       refine RO.same (i+(min n 6),dn++[(16,(min n 6-3),2)],g,c) ⟨by omega,by rw[List.length_append,List.length_singleton];omega,a4,trivial⟩ (show L.length-(i+(min n 6))<L.length-i by omega) (aI rfl (aI rfl (aI (congrArg (AV.int .i64) (show _=((i+(min n 6):Nat):Int) by omega)) trivial))) (aI rfl (aI rfl (aI rfl (aI rfl (aI rfl (aI rfl (aI trivial (aI rfl (aI (congrArg (fun z=>AO.one true 0 (.ints .i64 z 19)) a3) (aI rfl (aI rfl (aI rfl trivial))))))))))))
      ·have y3:¬3≤n:=by have y3:¬(3:Int)≤(n:Int):=of_decide_eq_false y3;omega
       have hX:ay L i n=(((L.getD i 0).toNat,0,0),1):=by unfold ay;rw[if_neg c1,if_neg c2,if_neg (fun x=>y3 x.2.2)]
       refine Qs ?_
       obtain⟨a1,a2,a3,a4,a5⟩:=vy (SI:=L.getD ((i:Int).toNat+0) 0) hX dz i3 i2 hi n1 iJ.2 (by first|rfl|exact(Int.toNat_of_nonneg jC.1).symm)
       refine aL.round (x:=kf l) ag mixed (i:=11) rfl (by kernel_rfl) rfl rfl ?_
       refine Qs ?_
       refine RO.same (i+1,dn++[((L.getD i 0).toNat,0,0)],g,c) ⟨by omega,by rw[List.length_append,List.length_singleton];omega,a4,trivial⟩ (show L.length-(i+1)<L.length-i by omega) (aI rfl (aI rfl (aI (congrArg (AV.int .i64) (show _=((i+1:Nat):Int) by omega)) trivial))) (aI rfl (aI rfl (aI rfl (aI rfl (aI rfl (aI rfl (aI trivial (aI rfl (aI (congrArg (fun z=>AO.one true 0 (.ints .i64 z 19)) a3) (aI rfl (aI rfl (aI rfl trivial))))))))))))
     ·have y2:¬L.getD (((i:Int)-1).toNat+0) 0=L.getD i 0:=of_decide_eq_false y2
      rw[eg]at y2
      have hX:ay L i n=(((L.getD i 0).toNat,0,0),1):=by unfold ay;rw[if_neg c1,if_neg c2,if_neg (fun x=>y2 x.2.1)]
      refine Qs ?_
      obtain⟨a1,a2,a3,a4,a5⟩:=vy (SI:=L.getD ((i:Int).toNat+0) 0) hX dz i3 i2 hi n1 iJ.2 (by first|rfl|exact(Int.toNat_of_nonneg jC.1).symm)
      refine aL.round (x:=kf l) ag mixed (i:=11) rfl (by kernel_rfl) rfl rfl ?_
      refine Qs ?_
      refine RO.same (i+1,dn++[((L.getD i 0).toNat,0,0)],g,c) ⟨by omega,by rw[List.length_append,List.length_singleton];omega,a4,trivial⟩ (show L.length-(i+1)<L.length-i by omega) (aI rfl (aI rfl (aI (congrArg (AV.int .i64) (show _=((i+1:Nat):Int) by omega)) trivial))) (aI rfl (aI rfl (aI rfl (aI rfl (aI rfl (aI rfl (aI trivial (aI rfl (aI (congrArg (fun z=>AO.one true 0 (.ints .i64 z 19)) a3) (aI rfl (aI rfl (aI rfl trivial))))))))))))
    ·have y1:¬0<i:=by have y1:¬(0:Int)<(i:Int):=of_decide_eq_false y1;omega
     have hX:ay L i n=(((L.getD i 0).toNat,0,0),1):=by unfold ay;rw[if_neg c1,if_neg c2,if_neg (fun x=>y1 x.1)]
     refine Qs ?_
     obtain⟨a1,a2,a3,a4,a5⟩:=vy (SI:=L.getD ((i:Int).toNat+0) 0) hX dz i3 i2 hi n1 iJ.2 (by first|rfl|exact(Int.toNat_of_nonneg jC.1).symm)
     refine aL.round (x:=kf l) ag mixed (i:=11) rfl (by kernel_rfl) rfl rfl ?_
     refine Qs ?_
     refine RO.same (i+1,dn++[((L.getD i 0).toNat,0,0)],g,c) ⟨by omega,by rw[List.length_append,List.length_singleton];omega,a4,trivial⟩ (show L.length-(i+1)<L.length-i by omega) (aI rfl (aI rfl (aI (congrArg (AV.int .i64) (show _=((i+1:Nat):Int) by omega)) trivial))) (aI rfl (aI rfl (aI rfl (aI rfl (aI rfl (aI rfl (aI trivial (aI rfl (aI (congrArg (fun z=>AO.one true 0 (.ints .i64 z 19)) a3) (aI rfl (aI rfl (aI rfl trivial))))))))))))
 ·have hi:¬i<L.length:=by have q1:¬(i:Int)<(L.length:Int):=of_decide_eq_false q1;omega
  have VU:dn=bf L:=by
   rw[←i3,show L.length-i=0 by omega];exact(List.append_nil dn).symm
  refine Qs ?_
  refine Or.inl (And.intro rfl ?_)
  subst VU
  refine Qs ?_
  refine mw.mk (ga,ca,gd,cd,g7,c7) (aI rfl (aI rfl (aI rfl (trivial)))) (aI rfl (aI rfl (aI rfl (aI rfl (aI rfl (aI rfl (aI trivial (aI rfl (aI rfl (aI rfl (trivial)))))))))))
end
end Go.Proofs.Ytibadaomjlkoaaa
