import Derived.Test.YtibadaomjlkoaaaGdk
set_option linter.unusedVariables false
set_option linter.unusedSimpArgs false
open Go.RowKit
namespace Go.Proofs.Ytibadaomjlkoaaa
set_option maxRecDepth 10000
def pc (f:List Int)(x:Nat×Nat×Nat):List Int:=re f x.1
def uN (dn:List (Nat×Nat×Nat)):List Int:=dn.foldl pc (List.replicate 19 0)
theorem yU (dn:List (Nat×Nat×Nat)):(uN dn).length=19:=by
 have:∀(dn:List (Nat×Nat×Nat))(f:List Int),(dn.foldl pc f).length=f.length:=by
  intro dn
  induction dn with
  |nil=>intro f;rfl
  |cons x dn ih=>intro f;rw[List.foldl_cons,ih];exact qm _ _
 unfold uN;rw[this,List.length_replicate]
theorem FK (dn:List (Nat×Nat×Nat))(j:Nat):0≤(uN dn).getD j 0∧(uN dn).getD j 0≤dn.length:=by
 have:∀(dn:List (Nat×Nat×Nat))(f:List Int),f.getD j 0≤(dn.foldl pc f).getD j 0∧(dn.foldl pc f).getD j 0≤f.getD j 0+dn.length:=by
  intro dn
  induction dn with
  |nil=>intro f;simp
  |cons x dn ih=>
   intro f
   have h1:=ih (pc f x)
   have h2:=mO f x.1 j
   rw[List.foldl_cons,List.length_cons]
   unfold pc at h1⊢
   omega
 have h:=this dn (List.replicate 19 0)
 rw[iQ]at h
 unfold uN;omega
theorem JX (dn:List (Nat×Nat×Nat))(x:Nat×Nat×Nat):uN (dn++[x])=re (uN dn) x.1:=by
 unfold uN;rw[List.foldl_append];rfl
theorem NJ {dn:List (Nat×Nat×Nat)}{x:Nat×Nat×Nat}(h:x∈dn)(hx:x.1<19):0<(uN dn).getD x.1 0:=by
 have mono:∀(dn:List (Nat×Nat×Nat))(f:List Int)(j:Nat),f.getD j 0≤(dn.foldl pc f).getD j 0:=by
  intro dn
  induction dn with
  |nil=>intro f j;exact Int.le_refl _
  |cons y dn ih=>
   intro f j
   have h1:=ih (pc f y) j
   have h2:=(mO f y.1 j).1
   rw[List.foldl_cons]
   unfold pc at h1⊢
   omega
 have key:∀(dn:List (Nat×Nat×Nat))(f:List Int),f.length=19→(∀j,0≤f.getD j 0)→x∈dn→0<(dn.foldl pc f).getD x.1 0:=by
  intro dn
  induction dn with
  |nil=>intro f _ _ h;cases h
  |cons y dn ih=>
   intro f hf h0 h
   rw[List.foldl_cons]
   rcases List.mem_cons.1 h with rfl|h
   ·have h1:=mono dn (pc f x) x.1
    have h2:=qn f x.1 x.1
    rw[if_pos ⟨rfl,by omega⟩]at h2
    have h3:=h0 x.1
    unfold pc at h1⊢
    omega
   ·refine ih (pc f y) (by unfold pc;rw[qm];exact hf) (fun j=>?_) h
    have:=(mO f y.1 j).1
    have:=h0 j
    unfold pc;omega
 exact key dn _ List.length_replicate (fun j=>by rw[iQ];exact Int.le_refl _) h
theorem wA {l:List Int}{P:Nat×Nat×Nat→Prop}(h:∀i,i<l.length→∀n,P (az l i n).1):∀k i,∀x∈cQ l k i,P x
 |0,i,x,hx=>by cases hx
 |k+1,i,x,hx=>by
  simp only[cQ]at hx
  split at hx
  ·rename_i hc
   rcases List.mem_cons.1 hx with rfl|hx
   ·exact h i hc _
   ·exact wA h k _ x hx
  ·cases hx
theorem Gr {l:List Int}(hl:∀x∈l,0≤x∧x<16):∀x∈bl l,x.1<19∧x.2.1<2^x.2.2∧x.2.2≤7:=
 wA (P:=fun x=>x.1<19∧x.2.1<2^x.2.2∧x.2.2≤7) (fun i hi n=>Iu hl hi) _ _
theorem nD (l:List Int):∀k i,(cQ l k i).length≤k
 |0,_=>Nat.le_refl _
 |k+1,i=>by
  simp only[cQ]
  split
  ·rw[List.length_cons];have:=nD l k (i+(az l i (runN l i l.length 1)).2);omega
  ·exact Nat.zero_le _
theorem gY.OX {fr:List Int}{K:Nat}{l:List Int}(ok:gY fr K l):∀x∈l,0≤x∧x≤K:=by
 intro x hx
 obtain⟨j,hj,rfl⟩:=List.getElem_of_mem hx
 have e:l[j]=l.getD j 0:=by rw[List.getD_eq_getElem?_getD,List.getElem?_eq_getElem hj];rfl
 rw[e]
 have hlen:=ok.len
 by_cases hp:0<fr.getD j 0
 ·have:=ok.pos j (by omega) hp;omega
 ·have:=ok.zero j (by omega) hp;omega
theorem gY.has {fr:List Int}{K:Nat}{l:List Int}(ok:gY fr K l)(hK:K≤15){s:Nat}(hs:s<fr.length)(hp:0<fr.getD s 0):jw l (s:Int):=by
 have h1:=ok.pos s hs hp
 have hlen:=ok.len
 exact⟨Int.natCast_nonneg _,by omega,by rw[Int.toNat_natCast];exact h1.1,by rw[Int.toNat_natCast];omega⟩
structure zn (ts:List Tk)(A D:List Int):Prop where
 al:257≤A.length∧A.length≤286
 dl:1≤D.length∧D.length≤30
 ab:∀x∈A,0≤x∧x<16
 db:∀x∈D,0≤x∧x<16
 ea:aE A=0
 ed:aE D=0
 fin:jw A 256
 Ww:∀t∈ts,Ob A D t
theorem zk {ts:List Tk}(lX:∀t∈ts,Oa t)(lY:ts.length≤150000):zn ts (eW ts) (eV ts):=by
 obtain⟨_,Oo⟩:=iX (fr:=lI ts) (by rw[fC];decide) (fun j=>by have:=sR ts j;omega) (K:=15) (by decide) (by decide) (by rw[fC];decide)
 obtain⟨_,R4⟩:=iX (fr:=oK ts) (by rw[ij];decide) (fun j=>by have:=yV ts j;omega) (K:=15) (by decide) (by decide) (by rw[ij];decide)
 have Rc:(bw (lI ts) 15).length=286:=by rw[Oo.len,fC]
 have Wb:(bw (oK ts) 15).length=30:=by rw[R4.len,ij]
 obtain⟨mA,hA,TO,Y8,V0⟩:=kH (n:=257) 286 (bw (lI ts) 15)
 obtain⟨mD,hD,Sg,Y7,YP⟩:=kH (n:=1) 30 (bw (oK ts) 15)
 have JV:eW ts=(bw (lI ts) 15).take mA:=hA
 have Wp:eV ts=(bw (oK ts) 15).take mD:=hD
 have Y8:=Y8 (by omega)
 have Y7:=Y7 (by omega)
 have bA:=Oo.OX
 have bD:=R4.OX
 rw[JV,Wp]
 refine⟨by rw[List.length_take];omega,by rw[List.length_take];omega,fun x hx=>?_,fun x hx=>?_,xC TO V0 (Oo.makes (by decide) (by rw[fC];decide)),xC Sg YP (R4.makes (by decide) (by rw[ij];decide)),nY TO V0 (Oo.has (s:=256) (by decide) (by rw[fC];decide) (NL ts)),fun t ht=>?_⟩
 ·have:=bA x (List.mem_of_mem_take hx);omega
 ·have:=bD x (List.mem_of_mem_take hx);omega
 ·have hr:=lX t ht
  refine⟨fun hz=>?_,fun hz=>?_⟩
  ·have h1:=hr.one hz
   refine⟨h1.1,h1.2,nY TO V0 ?_⟩
   have h2:=FL ht (by rw[if_pos hz];omega)
   rw[if_pos hz]at h2
   have h3:=Oo.has (s:=t.b.toNat) (by decide) (by rw[fC];omega) h2
   rwa[Int.toNat_of_nonneg h1.1]at h3
  ·obtain⟨m1,m2,m3,m4⟩:=hr.rep hz
   obtain⟨l1,l2,l3,l4,_⟩:=fk ⟨m1,m2⟩
   obtain⟨f1,f2,f3,_⟩:=fT (v:=t.d-1) (.inl rfl) (by omega)
   have h2:=FL ht (by rw[if_neg hz];omega)
   rw[if_neg hz]at h2
   have h3:=NK ht hz (by omega)
   exact⟨m1,m2,m3,m4,nY TO V0 (Oo.has (by decide) (by rw[fC];omega) h2),nY Sg YP (R4.has (by decide) (by rw[ij];omega) h3)⟩
def aR:List Int:=[16,17,18,0,8,7,9,6,10,5,11,4,12,3,13,2,14,1,15]
def iT (ls:List Int):Nat→Nat→Nat
 |0,n=>n
 |k+1,n=>if 4<n∧ls.getD (aR.getD (n-1) 0).toNat 0=0 then iT ls k (n-1)else n
theorem yr (ls:List Int):∀k n,4≤n→4≤iT ls k n∧iT ls k n≤n
 |0,n,h=>⟨h,Nat.le_refl _⟩
 |k+1,n,h=>by
  simp only[iT]
  split
  ·rename_i hc;have:=yr ls k (n-1) (by omega);omega
  ·omega
theorem tY:∀j,0≤aR.getD j 0∧aR.getD j 0<19:=by
 intro j
 rcases Nat.lt_or_ge j 19 with h|h
 ·have:∀j,j<19→0≤aR.getD j 0∧aR.getD j 0<19:=by decide
  exact this j h
 ·rw[List.getD_eq_getElem?_getD,List.getElem?_eq_none (show aR.length≤j from h)];decide
def KL (L:List Int):List Int:=bw (uN (bl L)) 7
def nL (L:List Int):Nat:=iT (KL L) 15 19
theorem I2 (L:List Int):4≤nL L∧nL L≤19:=yr _ _ _ (by decide)
def eB (ls:List Int)(n:Nat):List Bool:=(aR.take n).flatMap fun s=>bitsOf (ls.getD s.toNat 0) 3
theorem GD (ls:List Int){i:Nat}(h:i<19):eB ls (i+1)=eB ls i++bitsOf (ls.getD (aR.getD i 0).toNat 0) 3:=by
 unfold eB
 have hl:i<aR.length:=h
 rw[List.take_add_one,List.getElem?_eq_getElem hl,List.flatMap_append]
 simp[List.getD_eq_getElem?_getD,List.getElem?_eq_getElem hl]
theorem ru (ls:List Int):∀l:List Int,(l.flatMap fun s=>bitsOf (ls.getD s.toNat 0) 3).length=3*l.length
 |[]=>rfl
 |x::l=>by rw[List.flatMap_cons,List.length_append,ru ls l,ai,List.length_cons];omega
theorem tZ (ls:List Int)(n:Nat):(eB ls n).length≤57:=by
 unfold eB;rw[ru,List.length_take]
 have:aR.length=19:=rfl
 omega
def Gw (ls:List Int)(x:Nat×Nat×Nat):List Bool:=aQ ls (x.1:Int)++bitsOf (x.2.1:Int) x.2.2
def eQ (ls:List Int)(dn:List (Nat×Nat×Nat)):List Bool:=dn.flatMap (Gw ls)
structure nn (L:List Int)(ls:List Int):Prop where
 len:ls.length=19
 OX:∀x∈ls,0≤x∧x<8
 each:aE ls=0
 rows:∀x∈bl L,jw ls (x.1:Int)∧x.2.1<2^x.2.2∧x.2.2≤7
theorem yg {L:List Int}(hl:L.length≤316)(hb:∀x∈L,0≤x∧x<16):bm (uN (bl L)) 7=(KL L,0)∧nn L (KL L):=by
 have zu:=yU (bl L)
 have pe:(bl L).length≤L.length:=nD L L.length 0
 obtain⟨h1,ok⟩:=iX (fr:=uN (bl L)) (by rw[zu];decide) (fun j=>by have:=FK (bl L) j;omega) (K:=7) (by decide) (by decide) (by rw[zu];decide)
 refine⟨h1,by unfold KL;rw[ok.len,zu],fun x hx=>by have:=ok.OX x hx;omega,ok.makes (by decide) (by rw[zu];decide),fun x hx=>?_⟩
 have h2:=Gr hb x hx
 exact⟨ok.has (by decide) (by rw[zu];exact h2.1) (NJ hx h2.1),h2.2⟩
theorem p6 {L ls:List Int}(ok:nn L ls):∀dn:List (Nat×Nat×Nat),(∀x∈dn,x∈bl L)→(eQ ls dn).length≤22*dn.length
 |[],_=>Nat.le_refl _
 |x::dn,h=>by
  have h1:=p6 ok dn (fun y hy=>h y (List.mem_cons_of_mem _ hy))
  obtain⟨h2,h3,h4⟩:=ok.rows x (h x List.mem_cons_self)
  have h5:=jx h2
  have e:eQ ls (x::dn)=Gw ls x++eQ ls dn:=rfl
  rw[e,List.length_append,List.length_cons]
  unfold Gw
  rw[List.length_append,ai]
  omega
def gQ (A D:List Int):List Bool:=bitsOf 5 3++bitsOf ((A.length-257:Nat):Int) 5++bitsOf ((D.length-1:Nat):Int) 5++bitsOf ((nL (A++D)-4:Nat):Int) 4
theorem kp (A D:List Int):(gQ A D).length=17:=by
 unfold gQ;simp only[List.length_append,ai]
def dB (ts:List Tk)(A D:List Int):List Bool:=gQ A D++eB (KL (A++D)) (nL (A++D))++eQ (KL (A++D)) (bl (A++D))++(bh A D ts++aQ A 256)
end Go.Proofs.Ytibadaomjlkoaaa
open Go.RowKit
namespace Go.Proofs.Ytibadaomjlkoaaa
set_option maxRecDepth 10000
noncomputable abbrev kG (l:Nat):Cx:={Hw (fun _=>[0,3]) []with r:=some l}
theorem v7 {L:List Int}{dn:List (Nat×Nat×Nat)}{i n S E K N:Nat}{SI:Int}(hX:az L i n=((S,E,K),N))(dI:cQ L (L.length-i) i=(az L i n).1::cQ L (L.length-(i+(az L i n).2)) (i+(az L i n).2))(i3:dn++cQ L (L.length-i) i=bl L)(i2:dn.length≤i)(hi:i<L.length)(n1:1≤n)(hl:L.length≤316)(hS:SI=(S:Int)):
 (uN dn).length=19∧(0≤(uN dn).getD (SI.toNat+0) 0∧(uN dn).getD (SI.toNat+0) 0≤400)∧uN (dn++[(S,E,K)])=(uN dn).set (SI.toNat+0) ((uN dn).getD (SI.toNat+0) 0+1)∧(dn++[(S,E,K)])++cQ L (L.length-(i+N)) (i+N)=bl L∧1≤N∧N≤n:=by
 subst hS
 have AS:=p7 L i n n1
 rw[hX]at dI AS
 have:=FK dn ((S:Int).toNat+0)
 refine⟨yU dn,by omega,by rw[JX];rfl,by rw[←i3,dI,List.append_assoc];rfl,AS⟩
section
variable{ts:List Tk}{gt ct:Nat}{A D L ls:List Int}
theorem N3 {K Kp:AV→AH→Prop}{g0 c0:Nat}(lX:∀t∈ts,Oa t)(lY:ts.length≤150000)(A0:ts.length≤ct)
 (h:∀ga ca gd cd,(eW ts).length≤ca→(eV ts).length≤cd→K (.aL []) (vB ts gt ct (eW ts) ga ca (eV ts) gd cd [] g0 c0)):
 aa Try.prog 44 [.ptr 0 0 0] (w3 ts gt ct g0 c0++[AO.one true 0 (.cells [.ptr 0 0 0])]) K Kp:=by
 refine aa.lift [.own 0,.own 1,.own 2] (HB (K:=fun r N=>∃ga ca gd cd,(eW ts).length≤ca∧(eV ts).length≤cd∧r=.aL []∧N=gq (dX ts gt ct (eW ts) ga ca (eV ts) gd cd) [] g0 c0) (Kp:=fun _ _=>False) lX lY A0 (fun ga ca gd cd h1 h2=>⟨ga,ca,gd,cd,h1,h2,rfl,rfl⟩))
  rfl rfl ⟨⟨rfl,rfl⟩,⟨rfl,rfl⟩,⟨rfl,rfl⟩,trivial⟩ ⟨rfl,trivial,fun j=>rfl,trivial⟩ ?_ (fun _ _ h=>h.elim)
 rintro r M' ⟨ga,ca,gd,cd,h1,h2,rfl,rfl⟩
 exact⟨⟨rfl,rfl,rfl,rfl⟩,h ga ca gd cd h1 h2⟩
def Yp (L:List Int)(s:Nat×Nat×Nat×Nat×Nat×Nat):List (Nat×AV):=[(1,.ptr 3 0 0),(2,.sl 7 s.2.2.2.2.1 0 L.length s.2.2.2.2.2),(3,.ptr 9 0 0)]
def Ys (ts:List Tk)(gt ct g0 c0:Nat)(A D L:List Int)(s:Nat×Nat×Nat×Nat×Nat×Nat):AH:=
 vB ts gt ct A s.1 s.2.1 D s.2.2.1 s.2.2.2.1 [] g0 c0++[AO.gone,AO.one true s.2.2.2.2.1 (.ints .u8 L s.2.2.2.2.2),AO.one true 0 (.ints .i64 (uN (bl L)) 19),AO.one true 0 (.cells [.sl 8 0 0 19 19])]
noncomputable abbrev RR:Cx:=Hw (fun _=>[0,3]) []
set_option maxHeartbeats 4000000 in
theorem Ym {Q:jm→AA→AH→Prop}{Kp:AV→AH→Prop}{g0 c0:Nat}(lX:∀t∈ts,Oa t)(lY:ts.length≤150000)(A0:ts.length≤ct)(hA:eW ts=A)(hD:eV ts=D)(hL:A++D=L)(bk:zn ts A D):
 sq RR (m9 (Yp L) (Ys ts gt ct g0 c0 A D L)) Q Kp 5 px (ao [.ptr 0 0 0]) (w3 ts gt ct g0 c0):=by
 have ON:=bk.al
 have RC:=bk.dl
 have jc:258≤L.length∧L.length≤316:=by rw[←hL,List.length_append];omega
 have Ul:∀i,i<L.length→0≤L.getD i 0∧L.getD i 0<16:=by
  intro i hi
  rw[List.getD_eq_getElem?_getD,List.getElem?_eq_getElem hi,Option.getD_some]
  have hm:=List.getElem_mem hi
  generalize L[i]=x at hm
  rw[←hL]at hm
  rcases List.mem_append.1 hm with h|h
  ·exact bk.ab x h
  ·exact bk.db x h
 refine Qs ?_
 refine N3 lX lY A0 fun ga ca gd cd hca hcd=>?_
 rw[hA,hD]
 rw[hA]at hca
 rw[hD]at hcd
 refine Qs ?_
 refine C2 (p:=6) (q0:=4) (q1:=5) (x0:=A) (x1:=D) (by omega) rfl rfl rfl fun g7 c7 hc7=>?_
 rw[hL]
 refine Qs ?_
 refine Ic (fun _=>[]) [] rfl ?_
 refine Qs ?_
 refine WO.range rfl rfl [(1,.ptr 3 0 0),(2,.sl 7 g7 0 L.length c7),(3,.ptr 9 0 0)] (aI rfl (aI rfl (aI rfl (trivial)))) fun l fn df d=>?_
 refine Ia (fun _=>[7,10]) [] rfl ?_
 refine Qs ?_
 refine WO.go (σ:=Nat×List (Nat×Nat×Nat)×Nat×Nat) (fun(i,dn,g,c)=>i≤L.length∧dn.length≤i∧dn++cQ L (L.length-i) i=bl L∧True) (fun(i,_,_,_)=>L.length-i)
  (fun(i,_,_,_)=>[(0,.fn (.yield l) [] []),(1,.ptr 10 0 0),(3,.int .i64 (i:Int))]) (fun(i,dn,g,c)=>vB ts gt ct A ga ca D gd cd [] g0 c0++[AO.gone,AO.one true g7 (.ints .u8 L c7),AO.one true 0 (.ints .i64 (uN dn) 19),AO.one true 0 (.cells [.sl 8 0 0 19 19]),AO.one true 0 (.cells [.sl 7 g7 0 L.length c7]),AO.one true 0 (.loop l .ready none fn _ _ _ _ _ df)]) (0,[],0,0) ae mixed (by kernel_rfl) ⟨Nat.zero_le _,Nat.le_refl _,rfl,trivial⟩ (aI rfl (aI rfl (aI rfl (trivial)))) (aI rfl (aI rfl (aI rfl (aI rfl (aI rfl (aI rfl (aI trivial (aI rfl (aI rfl (aI rfl (aI rfl (aI rfl (trivial))))))))))))) (fun _=>rfl) (fun _=>rfl) (fun _=>⟨rfl,trivial,fun j=>rfl,rfl,trivial,trivial,trivial,trivial,trivial,rfl,rfl,yx rfl,trivial⟩) ?_
 rintro⟨i,dn,g,c⟩ ⟨i1,i2,i3,i4⟩ d2
 refine Qs ?_
 refine And.intro (fun q1=>?_) (fun q1=>?_)
 ·have hi:i<L.length:=by have q1:(i:Int)<(L.length:Int):=of_decide_eq_true q1;omega
  have pe:=nC L i L.length 1 (by omega)
  have dI:=oW hi
  refine Qs ?_
  refine WO.go (σ:=Nat) (fun n=>1≤n∧i+n≤L.length∧runN L i (L.length-(n-1)) n=runN L i L.length 1) (fun n=>L.length-n)
   (fun n=>[(0,.fn (.yield l) [] []),(1,.ptr 10 0 0),(3,.int .i64 (i:Int)),(4,.int .i64 (n:Int))]) (fun _=>vB ts gt ct A ga ca D gd cd [] g0 c0++[AO.gone,AO.one true g7 (.ints .u8 L c7),AO.one true 0 (.ints .i64 (uN dn) 19),AO.one true 0 (.cells [.sl 8 0 0 19 19]),AO.one true 0 (.cells [.sl 7 g7 0 L.length c7]),AO.one true 0 (.loop l .ready none fn _ _ _ _ _ df)]) 1 ae mixed (by kernel_rfl) ⟨Nat.le_refl _,hi,rfl⟩ (aI rfl (aI rfl (aI rfl (aI rfl (trivial))))) (aI rfl (aI rfl (aI rfl (aI rfl (aI rfl (aI rfl (aI trivial (aI rfl (aI rfl (aI rfl (aI rfl (aI rfl (trivial))))))))))))) (fun _=>rfl) (fun _=>rfl) (fun _=>⟨rfl,trivial,fun j=>rfl,rfl,trivial,trivial,trivial,trivial,trivial,rfl,rfl,yx rfl,trivial⟩) ?_
  rintro n ⟨n1,n2,n3⟩ d3
  have XY:=jc
  refine Qs ?_
  refine And.intro (fun q2=>?_) (fun q2=>?_)
  ·have h2:i+n<L.length:=by have q2:(i:Int)+(n:Int)<(L.length:Int):=of_decide_eq_true q2;omega
   refine Qs ?_
   refine And.intro (fun q3=>?_) (fun q3=>?_)
   ·have h3:L.getD (i+n) 0=L.getD i 0:=of_decide_eq_true q3
    refine Qs ?_
    refine RO.same (n+1) ⟨by omega,h2,?_⟩ (show L.length-(n+1)<L.length-n by omega) (aI rfl (aI rfl (aI rfl (aI rfl (trivial))))) (aI rfl (aI rfl (aI rfl (aI rfl (aI rfl (aI rfl (aI trivial (aI rfl (aI rfl (aI rfl (aI rfl (aI rfl (trivial)))))))))))))
    rw[←n3,show L.length-(n-1)=(L.length-(n+1-1))+1 by omega,runN,if_pos ⟨h2,h3⟩]
   ·have h3:¬L.getD (i+n) 0=L.getD i 0:=of_decide_eq_false q3
    have hn:runN L i L.length 1=n:=by
     rw[←n3,show L.length-(n-1)=(L.length-(n+1-1))+1 by omega,runN,if_neg (fun x=>h3 x.2)]
    rw[hn]at dI
    have j6:0≤L.getD ((i:Int).toNat+0) 0∧L.getD ((i:Int).toNat+0) 0<16:=Ul i hi
    refine Qs ?_
    refine And.intro (fun z1=>?_) (fun z1=>?_)
    ·have z1:L.getD i 0=0:=of_decide_eq_true z1
     refine Qs ?_
     refine And.intro (fun z2=>?_) (fun z2=>?_)
     ·have z2:11≤n:=by have z2:(11:Int)≤(n:Int):=of_decide_eq_true z2;omega
      have hX:az L i n=((18,min n 138-11,7),min n 138):=by unfold az;rw[if_pos ⟨z1,z2⟩]
      have eE:min (n:Int) 138-11=((min n 138-11:Nat):Int):=by omega
      refine Qs ?_
      rw[eE]
      obtain⟨a1,a2,a3,a4,a5⟩:=v7 (SI:=(18:Int)) hX dI i3 i2 hi n1 jc.2 (by first|rfl|exact(Int.toNat_of_nonneg j6.1).symm)
      refine aN.round (x:=kG l) ae mixed (i:=11) rfl (by kernel_rfl) rfl rfl ?_
      refine Qs ?_
      refine RO.same (i+(min n 138),dn++[(18,(min n 138-11),7)],g,c) ⟨by omega,by rw[List.length_append,List.length_singleton];omega,a4,trivial⟩ (show L.length-(i+(min n 138))<L.length-i by omega) (aI rfl (aI rfl (aI (congrArg (AV.int .i64) (show _=((i+(min n 138):Nat):Int) by omega)) trivial))) (aI rfl (aI rfl (aI rfl (aI rfl (aI rfl (aI rfl (aI trivial (aI rfl (aI (congrArg (fun z=>AO.one true 0 (.ints .i64 z 19)) a3) (aI rfl (aI rfl (aI rfl trivial))))))))))))
     ·have z2:¬11≤n:=by have z2:¬(11:Int)≤(n:Int):=of_decide_eq_false z2;omega
      refine Qs ?_
      refine And.intro (fun z3=>?_) (fun z3=>?_)
      rotate_left
      ·exact absurd z1 (of_decide_eq_false z3)
      refine Qs ?_
      refine And.intro (fun z4=>?_) (fun z4=>?_)
      ·have z4:3≤n:=by have z4:(3:Int)≤(n:Int):=of_decide_eq_true z4;omega
       have hX:az L i n=((17,n-3,3),n):=by unfold az;rw[if_neg (fun x=>z2 x.2),if_pos ⟨z1,z4⟩]
       have eE:(n:Int)-3=((n-3:Nat):Int):=by omega
       refine Qs ?_
       rw[eE]
       obtain⟨a1,a2,a3,a4,a5⟩:=v7 (SI:=(17:Int)) hX dI i3 i2 hi n1 jc.2 (by first|rfl|exact(Int.toNat_of_nonneg j6.1).symm)
       refine aN.round (x:=kG l) ae mixed (i:=11) rfl (by kernel_rfl) rfl rfl ?_
       refine Qs ?_
       refine RO.same (i+n,dn++[(17,(n-3),3)],g,c) ⟨by omega,by rw[List.length_append,List.length_singleton];omega,a4,trivial⟩ (show L.length-(i+n)<L.length-i by omega) (aI rfl (aI rfl (aI (congrArg (AV.int .i64) (show _=((i+n:Nat):Int) by omega)) trivial))) (aI rfl (aI rfl (aI rfl (aI rfl (aI rfl (aI rfl (aI trivial (aI rfl (aI (congrArg (fun z=>AO.one true 0 (.ints .i64 z 19)) a3) (aI rfl (aI rfl (aI rfl trivial))))))))))))
      ·have z4:¬3≤n:=by have z4:¬(3:Int)≤(n:Int):=of_decide_eq_false z4;omega
       have c1:¬(L.getD i 0=0∧11≤n):=fun x=>z2 x.2
       have c2:¬(L.getD i 0=0∧3≤n):=fun x=>z4 x.2
       refine Qs ?_
       refine And.intro (fun y1=>?_) (fun y1=>?_)
       ·have y1:0<i:=by have y1:(0:Int)<(i:Int):=of_decide_eq_true y1;omega
        have ei:(i:Int)-1=((i-1:Nat):Int):=by omega
        have eg:L.getD (((i:Int)-1).toNat+0) 0=L.getD (i-1) 0:=by rw[ei];rfl
        refine Qs ?_
        refine And.intro (fun y2=>?_) (fun y2=>?_)
        ·have y2:L.getD (((i:Int)-1).toNat+0) 0=L.getD i 0:=of_decide_eq_true y2
         rw[eg]at y2
         refine Qs ?_
         refine And.intro (fun y3=>?_) (fun y3=>?_)
         ·have y3:3≤n:=by have y3:(3:Int)≤(n:Int):=of_decide_eq_true y3;omega
          have hX:az L i n=((16,min n 6-3,2),min n 6):=by unfold az;rw[if_neg c1,if_neg c2,if_pos ⟨y1,y2,y3⟩]
          have eE:min (n:Int) 6-3=((min n 6-3:Nat):Int):=by omega
          refine Qs ?_
          rw[eE]
          obtain⟨a1,a2,a3,a4,a5⟩:=v7 (SI:=(16:Int)) hX dI i3 i2 hi n1 jc.2 (by first|rfl|exact(Int.toNat_of_nonneg j6.1).symm)
          refine aN.round (x:=kG l) ae mixed (i:=11) rfl (by kernel_rfl) rfl rfl ?_
          refine Qs ?_
          refine RO.same (i+(min n 6),dn++[(16,(min n 6-3),2)],g,c) ⟨by omega,by rw[List.length_append,List.length_singleton];omega,a4,trivial⟩ (show L.length-(i+(min n 6))<L.length-i by omega) (aI rfl (aI rfl (aI (congrArg (AV.int .i64) (show _=((i+(min n 6):Nat):Int) by omega)) trivial))) (aI rfl (aI rfl (aI rfl (aI rfl (aI rfl (aI rfl (aI trivial (aI rfl (aI (congrArg (fun z=>AO.one true 0 (.ints .i64 z 19)) a3) (aI rfl (aI rfl (aI rfl trivial))))))))))))
         ·have y3:¬3≤n:=by have y3:¬(3:Int)≤(n:Int):=of_decide_eq_false y3;omega
          have hX:az L i n=(((L.getD i 0).toNat,0,0),1):=by unfold az;rw[if_neg c1,if_neg c2,if_neg (fun x=>y3 x.2.2)]
          refine Qs ?_
          obtain⟨a1,a2,a3,a4,a5⟩:=v7 (SI:=L.getD ((i:Int).toNat+0) 0) hX dI i3 i2 hi n1 jc.2 (by first|rfl|exact(Int.toNat_of_nonneg j6.1).symm)
          refine aN.round (x:=kG l) ae mixed (i:=11) rfl (by kernel_rfl) rfl rfl ?_
          refine Qs ?_
          refine RO.same (i+1,dn++[((L.getD i 0).toNat,0,0)],g,c) ⟨by omega,by rw[List.length_append,List.length_singleton];omega,a4,trivial⟩ (show L.length-(i+1)<L.length-i by omega) (aI rfl (aI rfl (aI (congrArg (AV.int .i64) (show _=((i+1:Nat):Int) by omega)) trivial))) (aI rfl (aI rfl (aI rfl (aI rfl (aI rfl (aI rfl (aI trivial (aI rfl (aI (congrArg (fun z=>AO.one true 0 (.ints .i64 z 19)) a3) (aI rfl (aI rfl (aI rfl trivial))))))))))))
        ·have y2:¬L.getD (((i:Int)-1).toNat+0) 0=L.getD i 0:=of_decide_eq_false y2
         rw[eg]at y2
         have hX:az L i n=(((L.getD i 0).toNat,0,0),1):=by unfold az;rw[if_neg c1,if_neg c2,if_neg (fun x=>y2 x.2.1)]
         refine Qs ?_
         obtain⟨a1,a2,a3,a4,a5⟩:=v7 (SI:=L.getD ((i:Int).toNat+0) 0) hX dI i3 i2 hi n1 jc.2 (by first|rfl|exact(Int.toNat_of_nonneg j6.1).symm)
         refine aN.round (x:=kG l) ae mixed (i:=11) rfl (by kernel_rfl) rfl rfl ?_
         refine Qs ?_
         refine RO.same (i+1,dn++[((L.getD i 0).toNat,0,0)],g,c) ⟨by omega,by rw[List.length_append,List.length_singleton];omega,a4,trivial⟩ (show L.length-(i+1)<L.length-i by omega) (aI rfl (aI rfl (aI (congrArg (AV.int .i64) (show _=((i+1:Nat):Int) by omega)) trivial))) (aI rfl (aI rfl (aI rfl (aI rfl (aI rfl (aI rfl (aI trivial (aI rfl (aI (congrArg (fun z=>AO.one true 0 (.ints .i64 z 19)) a3) (aI rfl (aI rfl (aI rfl trivial))))))))))))
       ·have y1:¬0<i:=by have y1:¬(0:Int)<(i:Int):=of_decide_eq_false y1;omega
        have hX:az L i n=(((L.getD i 0).toNat,0,0),1):=by unfold az;rw[if_neg c1,if_neg c2,if_neg (fun x=>y1 x.1)]
        refine Qs ?_
        obtain⟨a1,a2,a3,a4,a5⟩:=v7 (SI:=L.getD ((i:Int).toNat+0) 0) hX dI i3 i2 hi n1 jc.2 (by first|rfl|exact(Int.toNat_of_nonneg j6.1).symm)
        refine aN.round (x:=kG l) ae mixed (i:=11) rfl (by kernel_rfl) rfl rfl ?_
        refine Qs ?_
        refine RO.same (i+1,dn++[((L.getD i 0).toNat,0,0)],g,c) ⟨by omega,by rw[List.length_append,List.length_singleton];omega,a4,trivial⟩ (show L.length-(i+1)<L.length-i by omega) (aI rfl (aI rfl (aI (congrArg (AV.int .i64) (show _=((i+1:Nat):Int) by omega)) trivial))) (aI rfl (aI rfl (aI rfl (aI rfl (aI rfl (aI rfl (aI trivial (aI rfl (aI (congrArg (fun z=>AO.one true 0 (.ints .i64 z 19)) a3) (aI rfl (aI rfl (aI rfl trivial))))))))))))
    ·have z1:¬L.getD i 0=0:=of_decide_eq_false z1
     have c1:¬(L.getD i 0=0∧11≤n):=fun x=>z1 x.1
     have c2:¬(L.getD i 0=0∧3≤n):=fun x=>z1 x.1
     refine Qs ?_
     refine And.intro (fun z3=>?_) (fun z3=>?_)
     ·exact absurd (of_decide_eq_true z3) z1
     refine Qs ?_
     refine And.intro (fun y1=>?_) (fun y1=>?_)
     ·have y1:0<i:=by have y1:(0:Int)<(i:Int):=of_decide_eq_true y1;omega
      have ei:(i:Int)-1=((i-1:Nat):Int):=by omega
      have eg:L.getD (((i:Int)-1).toNat+0) 0=L.getD (i-1) 0:=by rw[ei];rfl
      refine Qs ?_
      refine And.intro (fun y2=>?_) (fun y2=>?_)
      ·have y2:L.getD (((i:Int)-1).toNat+0) 0=L.getD i 0:=of_decide_eq_true y2
       rw[eg]at y2
       refine Qs ?_
       refine And.intro (fun y3=>?_) (fun y3=>?_)
       ·have y3:3≤n:=by have y3:(3:Int)≤(n:Int):=of_decide_eq_true y3;omega
        have hX:az L i n=((16,min n 6-3,2),min n 6):=by unfold az;rw[if_neg c1,if_neg c2,if_pos ⟨y1,y2,y3⟩]
        have eE:min (n:Int) 6-3=((min n 6-3:Nat):Int):=by omega
        refine Qs ?_
        rw[eE]
        obtain⟨a1,a2,a3,a4,a5⟩:=v7 (SI:=(16:Int)) hX dI i3 i2 hi n1 jc.2 (by first|rfl|exact(Int.toNat_of_nonneg j6.1).symm)
        refine aN.round (x:=kG l) ae mixed (i:=11) rfl (by kernel_rfl) rfl rfl ?_
        refine Qs ?_
        refine RO.same (i+(min n 6),dn++[(16,(min n 6-3),2)],g,c) ⟨by omega,by rw[List.length_append,List.length_singleton];omega,a4,trivial⟩ (show L.length-(i+(min n 6))<L.length-i by omega) (aI rfl (aI rfl (aI (congrArg (AV.int .i64) (show _=((i+(min n 6):Nat):Int) by omega)) trivial))) (aI rfl (aI rfl (aI rfl (aI rfl (aI rfl (aI rfl (aI trivial (aI rfl (aI (congrArg (fun z=>AO.one true 0 (.ints .i64 z 19)) a3) (aI rfl (aI rfl (aI rfl trivial))))))))))))
       ·have y3:¬3≤n:=by have y3:¬(3:Int)≤(n:Int):=of_decide_eq_false y3;omega
        have hX:az L i n=(((L.getD i 0).toNat,0,0),1):=by unfold az;rw[if_neg c1,if_neg c2,if_neg (fun x=>y3 x.2.2)]
        refine Qs ?_
        obtain⟨a1,a2,a3,a4,a5⟩:=v7 (SI:=L.getD ((i:Int).toNat+0) 0) hX dI i3 i2 hi n1 jc.2 (by first|rfl|exact(Int.toNat_of_nonneg j6.1).symm)
        refine aN.round (x:=kG l) ae mixed (i:=11) rfl (by kernel_rfl) rfl rfl ?_
        refine Qs ?_
        refine RO.same (i+1,dn++[((L.getD i 0).toNat,0,0)],g,c) ⟨by omega,by rw[List.length_append,List.length_singleton];omega,a4,trivial⟩ (show L.length-(i+1)<L.length-i by omega) (aI rfl (aI rfl (aI (congrArg (AV.int .i64) (show _=((i+1:Nat):Int) by omega)) trivial))) (aI rfl (aI rfl (aI rfl (aI rfl (aI rfl (aI rfl (aI trivial (aI rfl (aI (congrArg (fun z=>AO.one true 0 (.ints .i64 z 19)) a3) (aI rfl (aI rfl (aI rfl trivial))))))))))))
      ·have y2:¬L.getD (((i:Int)-1).toNat+0) 0=L.getD i 0:=of_decide_eq_false y2
       rw[eg]at y2
       have hX:az L i n=(((L.getD i 0).toNat,0,0),1):=by unfold az;rw[if_neg c1,if_neg c2,if_neg (fun x=>y2 x.2.1)]
       refine Qs ?_
       obtain⟨a1,a2,a3,a4,a5⟩:=v7 (SI:=L.getD ((i:Int).toNat+0) 0) hX dI i3 i2 hi n1 jc.2 (by first|rfl|exact(Int.toNat_of_nonneg j6.1).symm)
       refine aN.round (x:=kG l) ae mixed (i:=11) rfl (by kernel_rfl) rfl rfl ?_
       refine Qs ?_
       refine RO.same (i+1,dn++[((L.getD i 0).toNat,0,0)],g,c) ⟨by omega,by rw[List.length_append,List.length_singleton];omega,a4,trivial⟩ (show L.length-(i+1)<L.length-i by omega) (aI rfl (aI rfl (aI (congrArg (AV.int .i64) (show _=((i+1:Nat):Int) by omega)) trivial))) (aI rfl (aI rfl (aI rfl (aI rfl (aI rfl (aI rfl (aI trivial (aI rfl (aI (congrArg (fun z=>AO.one true 0 (.ints .i64 z 19)) a3) (aI rfl (aI rfl (aI rfl trivial))))))))))))
     ·have y1:¬0<i:=by have y1:¬(0:Int)<(i:Int):=of_decide_eq_false y1;omega
      have hX:az L i n=(((L.getD i 0).toNat,0,0),1):=by unfold az;rw[if_neg c1,if_neg c2,if_neg (fun x=>y1 x.1)]
      refine Qs ?_
      obtain⟨a1,a2,a3,a4,a5⟩:=v7 (SI:=L.getD ((i:Int).toNat+0) 0) hX dI i3 i2 hi n1 jc.2 (by first|rfl|exact(Int.toNat_of_nonneg j6.1).symm)
      refine aN.round (x:=kG l) ae mixed (i:=11) rfl (by kernel_rfl) rfl rfl ?_
      refine Qs ?_
      refine RO.same (i+1,dn++[((L.getD i 0).toNat,0,0)],g,c) ⟨by omega,by rw[List.length_append,List.length_singleton];omega,a4,trivial⟩ (show L.length-(i+1)<L.length-i by omega) (aI rfl (aI rfl (aI (congrArg (AV.int .i64) (show _=((i+1:Nat):Int) by omega)) trivial))) (aI rfl (aI rfl (aI rfl (aI rfl (aI rfl (aI rfl (aI trivial (aI rfl (aI (congrArg (fun z=>AO.one true 0 (.ints .i64 z 19)) a3) (aI rfl (aI rfl (aI rfl trivial))))))))))))
  ·have h2:¬i+n<L.length:=by have q2:¬(i:Int)+(n:Int)<(L.length:Int):=of_decide_eq_false q2;omega
   have hn:runN L i L.length 1=n:=by
    rw[←n3,show L.length-(n-1)=(L.length-(n+1-1))+1 by omega,runN,if_neg (fun x=>h2 x.1)]
   rw[hn]at dI
   have j6:0≤L.getD ((i:Int).toNat+0) 0∧L.getD ((i:Int).toNat+0) 0<16:=Ul i hi
   refine Qs ?_
   refine And.intro (fun z1=>?_) (fun z1=>?_)
   ·have z1:L.getD i 0=0:=of_decide_eq_true z1
    refine Qs ?_
    refine And.intro (fun z2=>?_) (fun z2=>?_)
    ·have z2:11≤n:=by have z2:(11:Int)≤(n:Int):=of_decide_eq_true z2;omega
     have hX:az L i n=((18,min n 138-11,7),min n 138):=by unfold az;rw[if_pos ⟨z1,z2⟩]
     have eE:min (n:Int) 138-11=((min n 138-11:Nat):Int):=by omega
     refine Qs ?_
     rw[eE]
     obtain⟨a1,a2,a3,a4,a5⟩:=v7 (SI:=(18:Int)) hX dI i3 i2 hi n1 jc.2 (by first|rfl|exact(Int.toNat_of_nonneg j6.1).symm)
     refine aN.round (x:=kG l) ae mixed (i:=11) rfl (by kernel_rfl) rfl rfl ?_
     refine Qs ?_
     refine RO.same (i+(min n 138),dn++[(18,(min n 138-11),7)],g,c) ⟨by omega,by rw[List.length_append,List.length_singleton];omega,a4,trivial⟩ (show L.length-(i+(min n 138))<L.length-i by omega) (aI rfl (aI rfl (aI (congrArg (AV.int .i64) (show _=((i+(min n 138):Nat):Int) by omega)) trivial))) (aI rfl (aI rfl (aI rfl (aI rfl (aI rfl (aI rfl (aI trivial (aI rfl (aI (congrArg (fun z=>AO.one true 0 (.ints .i64 z 19)) a3) (aI rfl (aI rfl (aI rfl trivial))))))))))))
    ·have z2:¬11≤n:=by have z2:¬(11:Int)≤(n:Int):=of_decide_eq_false z2;omega
     refine Qs ?_
     refine And.intro (fun z3=>?_) (fun z3=>?_)
     rotate_left
     ·exact absurd z1 (of_decide_eq_false z3)
     refine Qs ?_
     refine And.intro (fun z4=>?_) (fun z4=>?_)
     ·have z4:3≤n:=by have z4:(3:Int)≤(n:Int):=of_decide_eq_true z4;omega
      have hX:az L i n=((17,n-3,3),n):=by unfold az;rw[if_neg (fun x=>z2 x.2),if_pos ⟨z1,z4⟩]
      have eE:(n:Int)-3=((n-3:Nat):Int):=by omega
      refine Qs ?_
      rw[eE]
      obtain⟨a1,a2,a3,a4,a5⟩:=v7 (SI:=(17:Int)) hX dI i3 i2 hi n1 jc.2 (by first|rfl|exact(Int.toNat_of_nonneg j6.1).symm)
      refine aN.round (x:=kG l) ae mixed (i:=11) rfl (by kernel_rfl) rfl rfl ?_
      refine Qs ?_
      refine RO.same (i+n,dn++[(17,(n-3),3)],g,c) ⟨by omega,by rw[List.length_append,List.length_singleton];omega,a4,trivial⟩ (show L.length-(i+n)<L.length-i by omega) (aI rfl (aI rfl (aI (congrArg (AV.int .i64) (show _=((i+n:Nat):Int) by omega)) trivial))) (aI rfl (aI rfl (aI rfl (aI rfl (aI rfl (aI rfl (aI trivial (aI rfl (aI (congrArg (fun z=>AO.one true 0 (.ints .i64 z 19)) a3) (aI rfl (aI rfl (aI rfl trivial))))))))))))
     ·have z4:¬3≤n:=by have z4:¬(3:Int)≤(n:Int):=of_decide_eq_false z4;omega
      have c1:¬(L.getD i 0=0∧11≤n):=fun x=>z2 x.2
      have c2:¬(L.getD i 0=0∧3≤n):=fun x=>z4 x.2
      refine Qs ?_
      refine And.intro (fun y1=>?_) (fun y1=>?_)
      ·have y1:0<i:=by have y1:(0:Int)<(i:Int):=of_decide_eq_true y1;omega
       have ei:(i:Int)-1=((i-1:Nat):Int):=by omega
       have eg:L.getD (((i:Int)-1).toNat+0) 0=L.getD (i-1) 0:=by rw[ei];rfl
       refine Qs ?_
       refine And.intro (fun y2=>?_) (fun y2=>?_)
       ·have y2:L.getD (((i:Int)-1).toNat+0) 0=L.getD i 0:=of_decide_eq_true y2
        rw[eg]at y2
        refine Qs ?_
        refine And.intro (fun y3=>?_) (fun y3=>?_)
        ·have y3:3≤n:=by have y3:(3:Int)≤(n:Int):=of_decide_eq_true y3;omega
         have hX:az L i n=((16,min n 6-3,2),min n 6):=by unfold az;rw[if_neg c1,if_neg c2,if_pos ⟨y1,y2,y3⟩]
         have eE:min (n:Int) 6-3=((min n 6-3:Nat):Int):=by omega
         refine Qs ?_
         rw[eE]
         obtain⟨a1,a2,a3,a4,a5⟩:=v7 (SI:=(16:Int)) hX dI i3 i2 hi n1 jc.2 (by first|rfl|exact(Int.toNat_of_nonneg j6.1).symm)
         refine aN.round (x:=kG l) ae mixed (i:=11) rfl (by kernel_rfl) rfl rfl ?_
         refine Qs ?_
         refine RO.same (i+(min n 6),dn++[(16,(min n 6-3),2)],g,c) ⟨by omega,by rw[List.length_append,List.length_singleton];omega,a4,trivial⟩ (show L.length-(i+(min n 6))<L.length-i by omega) (aI rfl (aI rfl (aI (congrArg (AV.int .i64) (show _=((i+(min n 6):Nat):Int) by omega)) trivial))) (aI rfl (aI rfl (aI rfl (aI rfl (aI rfl (aI rfl (aI trivial (aI rfl (aI (congrArg (fun z=>AO.one true 0 (.ints .i64 z 19)) a3) (aI rfl (aI rfl (aI rfl trivial))))))))))))
        ·have y3:¬3≤n:=by have y3:¬(3:Int)≤(n:Int):=of_decide_eq_false y3;omega
         have hX:az L i n=(((L.getD i 0).toNat,0,0),1):=by unfold az;rw[if_neg c1,if_neg c2,if_neg (fun x=>y3 x.2.2)]
         refine Qs ?_
         obtain⟨a1,a2,a3,a4,a5⟩:=v7 (SI:=L.getD ((i:Int).toNat+0) 0) hX dI i3 i2 hi n1 jc.2 (by first|rfl|exact(Int.toNat_of_nonneg j6.1).symm)
         refine aN.round (x:=kG l) ae mixed (i:=11) rfl (by kernel_rfl) rfl rfl ?_
         refine Qs ?_
         refine RO.same (i+1,dn++[((L.getD i 0).toNat,0,0)],g,c) ⟨by omega,by rw[List.length_append,List.length_singleton];omega,a4,trivial⟩ (show L.length-(i+1)<L.length-i by omega) (aI rfl (aI rfl (aI (congrArg (AV.int .i64) (show _=((i+1:Nat):Int) by omega)) trivial))) (aI rfl (aI rfl (aI rfl (aI rfl (aI rfl (aI rfl (aI trivial (aI rfl (aI (congrArg (fun z=>AO.one true 0 (.ints .i64 z 19)) a3) (aI rfl (aI rfl (aI rfl trivial))))))))))))
       ·have y2:¬L.getD (((i:Int)-1).toNat+0) 0=L.getD i 0:=of_decide_eq_false y2
        rw[eg]at y2
        have hX:az L i n=(((L.getD i 0).toNat,0,0),1):=by unfold az;rw[if_neg c1,if_neg c2,if_neg (fun x=>y2 x.2.1)]
        refine Qs ?_
        obtain⟨a1,a2,a3,a4,a5⟩:=v7 (SI:=L.getD ((i:Int).toNat+0) 0) hX dI i3 i2 hi n1 jc.2 (by first|rfl|exact(Int.toNat_of_nonneg j6.1).symm)
        refine aN.round (x:=kG l) ae mixed (i:=11) rfl (by kernel_rfl) rfl rfl ?_
        refine Qs ?_
        refine RO.same (i+1,dn++[((L.getD i 0).toNat,0,0)],g,c) ⟨by omega,by rw[List.length_append,List.length_singleton];omega,a4,trivial⟩ (show L.length-(i+1)<L.length-i by omega) (aI rfl (aI rfl (aI (congrArg (AV.int .i64) (show _=((i+1:Nat):Int) by omega)) trivial))) (aI rfl (aI rfl (aI rfl (aI rfl (aI rfl (aI rfl (aI trivial (aI rfl (aI (congrArg (fun z=>AO.one true 0 (.ints .i64 z 19)) a3) (aI rfl (aI rfl (aI rfl trivial))))))))))))
      ·have y1:¬0<i:=by have y1:¬(0:Int)<(i:Int):=of_decide_eq_false y1;omega
       have hX:az L i n=(((L.getD i 0).toNat,0,0),1):=by unfold az;rw[if_neg c1,if_neg c2,if_neg (fun x=>y1 x.1)]
       refine Qs ?_
       obtain⟨a1,a2,a3,a4,a5⟩:=v7 (SI:=L.getD ((i:Int).toNat+0) 0) hX dI i3 i2 hi n1 jc.2 (by first|rfl|exact(Int.toNat_of_nonneg j6.1).symm)
       refine aN.round (x:=kG l) ae mixed (i:=11) rfl (by kernel_rfl) rfl rfl ?_
       refine Qs ?_
       refine RO.same (i+1,dn++[((L.getD i 0).toNat,0,0)],g,c) ⟨by omega,by rw[List.length_append,List.length_singleton];omega,a4,trivial⟩ (show L.length-(i+1)<L.length-i by omega) (aI rfl (aI rfl (aI (congrArg (AV.int .i64) (show _=((i+1:Nat):Int) by omega)) trivial))) (aI rfl (aI rfl (aI rfl (aI rfl (aI rfl (aI rfl (aI trivial (aI rfl (aI (congrArg (fun z=>AO.one true 0 (.ints .i64 z 19)) a3) (aI rfl (aI rfl (aI rfl trivial))))))))))))
   ·have z1:¬L.getD i 0=0:=of_decide_eq_false z1
    have c1:¬(L.getD i 0=0∧11≤n):=fun x=>z1 x.1
    have c2:¬(L.getD i 0=0∧3≤n):=fun x=>z1 x.1
    refine Qs ?_
    refine And.intro (fun z3=>?_) (fun z3=>?_)
    ·exact absurd (of_decide_eq_true z3) z1
    refine Qs ?_
    refine And.intro (fun y1=>?_) (fun y1=>?_)
    ·have y1:0<i:=by have y1:(0:Int)<(i:Int):=of_decide_eq_true y1;omega
     have ei:(i:Int)-1=((i-1:Nat):Int):=by omega
     have eg:L.getD (((i:Int)-1).toNat+0) 0=L.getD (i-1) 0:=by rw[ei];rfl
     refine Qs ?_
     refine And.intro (fun y2=>?_) (fun y2=>?_)
     ·have y2:L.getD (((i:Int)-1).toNat+0) 0=L.getD i 0:=of_decide_eq_true y2
      rw[eg]at y2
      refine Qs ?_
      refine And.intro (fun y3=>?_) (fun y3=>?_)
      ·have y3:3≤n:=by have y3:(3:Int)≤(n:Int):=of_decide_eq_true y3;omega
       have hX:az L i n=((16,min n 6-3,2),min n 6):=by unfold az;rw[if_neg c1,if_neg c2,if_pos ⟨y1,y2,y3⟩]
       have eE:min (n:Int) 6-3=((min n 6-3:Nat):Int):=by omega
       refine Qs ?_
       rw[eE]
       obtain⟨a1,a2,a3,a4,a5⟩:=v7 (SI:=(16:Int)) hX dI i3 i2 hi n1 jc.2 (by first|rfl|exact(Int.toNat_of_nonneg j6.1).symm)
       refine aN.round (x:=kG l) ae mixed (i:=11) rfl (by kernel_rfl) rfl rfl ?_
       refine Qs ?_
       refine RO.same (i+(min n 6),dn++[(16,(min n 6-3),2)],g,c) ⟨by omega,by rw[List.length_append,List.length_singleton];omega,a4,trivial⟩ (show L.length-(i+(min n 6))<L.length-i by omega) (aI rfl (aI rfl (aI (congrArg (AV.int .i64) (show _=((i+(min n 6):Nat):Int) by omega)) trivial))) (aI rfl (aI rfl (aI rfl (aI rfl (aI rfl (aI rfl (aI trivial (aI rfl (aI (congrArg (fun z=>AO.one true 0 (.ints .i64 z 19)) a3) (aI rfl (aI rfl (aI rfl trivial))))))))))))
      ·have y3:¬3≤n:=by have y3:¬(3:Int)≤(n:Int):=of_decide_eq_false y3;omega
       have hX:az L i n=(((L.getD i 0).toNat,0,0),1):=by unfold az;rw[if_neg c1,if_neg c2,if_neg (fun x=>y3 x.2.2)]
       refine Qs ?_
       obtain⟨a1,a2,a3,a4,a5⟩:=v7 (SI:=L.getD ((i:Int).toNat+0) 0) hX dI i3 i2 hi n1 jc.2 (by first|rfl|exact(Int.toNat_of_nonneg j6.1).symm)
       refine aN.round (x:=kG l) ae mixed (i:=11) rfl (by kernel_rfl) rfl rfl ?_
       refine Qs ?_
       refine RO.same (i+1,dn++[((L.getD i 0).toNat,0,0)],g,c) ⟨by omega,by rw[List.length_append,List.length_singleton];omega,a4,trivial⟩ (show L.length-(i+1)<L.length-i by omega) (aI rfl (aI rfl (aI (congrArg (AV.int .i64) (show _=((i+1:Nat):Int) by omega)) trivial))) (aI rfl (aI rfl (aI rfl (aI rfl (aI rfl (aI rfl (aI trivial (aI rfl (aI (congrArg (fun z=>AO.one true 0 (.ints .i64 z 19)) a3) (aI rfl (aI rfl (aI rfl trivial))))))))))))
     ·have y2:¬L.getD (((i:Int)-1).toNat+0) 0=L.getD i 0:=of_decide_eq_false y2
      rw[eg]at y2
      have hX:az L i n=(((L.getD i 0).toNat,0,0),1):=by unfold az;rw[if_neg c1,if_neg c2,if_neg (fun x=>y2 x.2.1)]
      refine Qs ?_
      obtain⟨a1,a2,a3,a4,a5⟩:=v7 (SI:=L.getD ((i:Int).toNat+0) 0) hX dI i3 i2 hi n1 jc.2 (by first|rfl|exact(Int.toNat_of_nonneg j6.1).symm)
      refine aN.round (x:=kG l) ae mixed (i:=11) rfl (by kernel_rfl) rfl rfl ?_
      refine Qs ?_
      refine RO.same (i+1,dn++[((L.getD i 0).toNat,0,0)],g,c) ⟨by omega,by rw[List.length_append,List.length_singleton];omega,a4,trivial⟩ (show L.length-(i+1)<L.length-i by omega) (aI rfl (aI rfl (aI (congrArg (AV.int .i64) (show _=((i+1:Nat):Int) by omega)) trivial))) (aI rfl (aI rfl (aI rfl (aI rfl (aI rfl (aI rfl (aI trivial (aI rfl (aI (congrArg (fun z=>AO.one true 0 (.ints .i64 z 19)) a3) (aI rfl (aI rfl (aI rfl trivial))))))))))))
    ·have y1:¬0<i:=by have y1:¬(0:Int)<(i:Int):=of_decide_eq_false y1;omega
     have hX:az L i n=(((L.getD i 0).toNat,0,0),1):=by unfold az;rw[if_neg c1,if_neg c2,if_neg (fun x=>y1 x.1)]
     refine Qs ?_
     obtain⟨a1,a2,a3,a4,a5⟩:=v7 (SI:=L.getD ((i:Int).toNat+0) 0) hX dI i3 i2 hi n1 jc.2 (by first|rfl|exact(Int.toNat_of_nonneg j6.1).symm)
     refine aN.round (x:=kG l) ae mixed (i:=11) rfl (by kernel_rfl) rfl rfl ?_
     refine Qs ?_
     refine RO.same (i+1,dn++[((L.getD i 0).toNat,0,0)],g,c) ⟨by omega,by rw[List.length_append,List.length_singleton];omega,a4,trivial⟩ (show L.length-(i+1)<L.length-i by omega) (aI rfl (aI rfl (aI (congrArg (AV.int .i64) (show _=((i+1:Nat):Int) by omega)) trivial))) (aI rfl (aI rfl (aI rfl (aI rfl (aI rfl (aI rfl (aI trivial (aI rfl (aI (congrArg (fun z=>AO.one true 0 (.ints .i64 z 19)) a3) (aI rfl (aI rfl (aI rfl trivial))))))))))))
 ·have hi:¬i<L.length:=by have q1:¬(i:Int)<(L.length:Int):=of_decide_eq_false q1;omega
  have XK:dn=bl L:=by
   rw[←i3,show L.length-i=0 by omega];exact(List.append_nil dn).symm
  refine Qs ?_
  refine Or.inl (And.intro rfl ?_)
  subst XK
  refine Qs ?_
  refine m9.mk (ga,ca,gd,cd,g7,c7) (aI rfl (aI rfl (aI rfl (trivial)))) (aI rfl (aI rfl (aI rfl (aI rfl (aI rfl (aI rfl (aI trivial (aI rfl (aI rfl (aI rfl (trivial)))))))))))
end
end Go.Proofs.Ytibadaomjlkoaaa
