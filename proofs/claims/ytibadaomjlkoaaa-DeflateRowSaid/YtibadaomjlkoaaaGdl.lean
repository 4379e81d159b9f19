import Derived.Test.YtibadaomjlkoaaaGdk
set_option linter.unusedVariables false
set_option linter.unusedSimpArgs false
open Go.RowKit
namespace Go.Proofs.Ytibadaomjlkoaaa
set_option maxRecDepth 10000
def oJ (f:List Int)(x:Nat×Nat×Nat):List Int:=qJ f x.1
def um (dn:List (Nat×Nat×Nat)):List Int:=dn.foldl oJ (List.replicate 19 0)
theorem yy (dn:List (Nat×Nat×Nat)):(um dn).length=19:=by
 have:∀(dn:List (Nat×Nat×Nat))(f:List Int),(dn.foldl oJ f).length=f.length:=by
  intro dn
  induction dn with
  |nil=>intro f;rfl
  |cons x dn ih=>intro f;rw[List.foldl_cons,ih];exact pY _ _
 unfold um;rw[this,List.length_replicate]
theorem E1 (dn:List (Nat×Nat×Nat))(j:Nat):0≤(um dn).getD j 0∧(um dn).getD j 0≤dn.length:=by
 have:∀(dn:List (Nat×Nat×Nat))(f:List Int),f.getD j 0≤(dn.foldl oJ f).getD j 0∧(dn.foldl oJ f).getD j 0≤f.getD j 0+dn.length:=by
  intro dn
  induction dn with
  |nil=>intro f;simp
  |cons x dn ih=>
   intro f
   have h1:=ih (oJ f x)
   have h2:=mo f x.1 j
   rw[List.foldl_cons,List.length_cons]
   unfold oJ at h1⊢
   omega
 have h:=this dn (List.replicate 19 0)
 rw[iD]at h
 unfold um;omega
theorem Jc (dn:List (Nat×Nat×Nat))(x:Nat×Nat×Nat):um (dn++[x])=qJ (um dn) x.1:=by
 unfold um;rw[List.foldl_append];rfl
theorem MF {dn:List (Nat×Nat×Nat)}{x:Nat×Nat×Nat}(h:x∈dn)(hx:x.1<19):0<(um dn).getD x.1 0:=by
 have mono:∀(dn:List (Nat×Nat×Nat))(f:List Int)(j:Nat),f.getD j 0≤(dn.foldl oJ f).getD j 0:=by
  intro dn
  induction dn with
  |nil=>intro f j;exact Int.le_refl _
  |cons y dn ih=>
   intro f j
   have h1:=ih (oJ f y) j
   have h2:=(mo f y.1 j).1
   rw[List.foldl_cons]
   unfold oJ at h1⊢
   omega
 have key:∀(dn:List (Nat×Nat×Nat))(f:List Int),f.length=19→(∀j,0≤f.getD j 0)→x∈dn→0<(dn.foldl oJ f).getD x.1 0:=by
  intro dn
  induction dn with
  |nil=>intro f _ _ h;cases h
  |cons y dn ih=>
   intro f hf h0 h
   rw[List.foldl_cons]
   rcases List.mem_cons.1 h with rfl|h
   ·have h1:=mono dn (oJ f x) x.1
    have h2:=pZ f x.1 x.1
    rw[if_pos ⟨rfl,by omega⟩]at h2
    have h3:=h0 x.1
    unfold oJ at h1⊢
    omega
   ·refine ih (oJ f y) (by unfold oJ;rw[pY];exact hf) (fun j=>?_) h
    have:=(mo f y.1 j).1
    have:=h0 j
    unfold oJ;omega
 exact key dn _ List.length_replicate (fun j=>by rw[iD];exact Int.le_refl _) h
theorem v7 {l:List Int}{P:Nat×Nat×Nat→Prop}(h:∀i,i<l.length→∀n,P (ay l i n).1):∀k i,∀x∈cG l k i,P x
 |0,i,x,hx=>by cases hx
 |k+1,i,x,hx=>by
  simp only[cG]at hx
  split at hx
  ·rename_i hc
   rcases List.mem_cons.1 hx with rfl|hx
   ·exact h i hc _
   ·exact v7 h k _ x hx
  ·cases hx
theorem FH {l:List Int}(hl:∀x∈l,0≤x∧x<16):∀x∈bf l,x.1<19∧x.2.1<2^x.2.2∧x.2.2≤7:=
 v7 (P:=fun x=>x.1<19∧x.2.1<2^x.2.2∧x.2.2≤7) (fun i hi n=>HH hl hi) _ _
theorem na (l:List Int):∀k i,(cG l k i).length≤k
 |0,_=>Nat.le_refl _
 |k+1,i=>by
  simp only[cG]
  split
  ·rw[List.length_cons];have:=na l k (i+(ay l i (runN l i l.length 1)).2);omega
  ·exact Nat.zero_le _
theorem gH.NR {fr:List Int}{K:Nat}{l:List Int}(ok:gH fr K l):∀x∈l,0≤x∧x≤K:=by
 intro x hx
 obtain⟨j,hj,rfl⟩:=List.getElem_of_mem hx
 have e:l[j]=l.getD j 0:=by rw[List.getD_eq_getElem?_getD,List.getElem?_eq_getElem hj];rfl
 rw[e]
 have hlen:=ok.len
 by_cases hp:0<fr.getD j 0
 ·have:=ok.pos j (by omega) hp;omega
 ·have:=ok.zero j (by omega) hp;omega
theorem gH.has {fr:List Int}{K:Nat}{l:List Int}(ok:gH fr K l)(hK:K≤15){s:Nat}(hs:s<fr.length)(hp:0<fr.getD s 0):jg l (s:Int):=by
 have h1:=ok.pos s hs hp
 have hlen:=ok.len
 exact⟨Int.natCast_nonneg _,by omega,by rw[Int.toNat_natCast];exact h1.1,by rw[Int.toNat_natCast];omega⟩
structure yW (ts:List Tk)(A D:List Int):Prop where
 al:257≤A.length∧A.length≤286
 dl:1≤D.length∧D.length≤30
 ab:∀x∈A,0≤x∧x<16
 db:∀x∈D,0≤x∧x<16
 ea:aE A=0
 ed:aE D=0
 fin:jg A 256
 Vc:∀t∈ts,M3 A D t
theorem yT {ts:List Tk}(lK:∀t∈ts,NU t)(lR:ts.length≤150000):yW ts (eN ts) (eM ts):=by
 obtain⟨_,Nj⟩:=iK (fr:=ld ts) (by rw[fo];decide) (fun j=>by have:=sr ts j;omega) (K:=15) (by decide) (by decide) (by rw[fo];decide)
 obtain⟨_,QO⟩:=iK (fr:=oa ts) (by rw[gV];decide) (fun j=>by have:=yz ts j;omega) (K:=15) (by decide) (by decide) (by rw[gV];decide)
 have P5:(br (ld ts) 15).length=286:=by rw[Nj.len,fo]
 have UR:(br (oa ts) 15).length=30:=by rw[QO.len,gV]
 obtain⟨mA,hA,Sx,XQ,UG⟩:=km (n:=257) 286 (br (ld ts) 15)
 obtain⟨mD,hD,Q0,XP,Xx⟩:=km (n:=1) 30 (br (oa ts) 15)
 have Ja:eN ts=(br (ld ts) 15).take mA:=hA
 have U5:eM ts=(br (oa ts) 15).take mD:=hD
 have XQ:=XQ (by omega)
 have XP:=XP (by omega)
 have bA:=Nj.NR
 have bD:=QO.NR
 rw[Ja,U5]
 refine⟨by rw[List.length_take];omega,by rw[List.length_take];omega,fun x hx=>?_,fun x hx=>?_,xf Sx UG (Nj.makes (by decide) (by rw[fo];decide)),xf Q0 Xx (QO.makes (by decide) (by rw[gV];decide)),nB Sx UG (Nj.has (s:=256) (by decide) (by rw[fo];decide) (MH ts)),fun t ht=>?_⟩
 ·have:=bA x (List.mem_of_mem_take hx);omega
 ·have:=bD x (List.mem_of_mem_take hx);omega
 ·have hr:=lK t ht
  refine⟨fun hz=>?_,fun hz=>?_⟩
  ·have h1:=hr.one hz
   refine⟨h1.1,h1.2,nB Sx UG ?_⟩
   have h2:=E3 ht (by rw[if_pos hz];omega)
   rw[if_pos hz]at h2
   have h3:=Nj.has (s:=t.b.toNat) (by decide) (by rw[fo];omega) h2
   rwa[Int.toNat_of_nonneg h1.1]at h3
  ·obtain⟨m1,m2,m3,m4⟩:=hr.rep hz
   obtain⟨l1,l2,l3,l4,_⟩:=eW ⟨m1,m2⟩
   obtain⟨f1,f2,f3,_⟩:=fH (v:=t.d-1) (.inl rfl) (by omega)
   have h2:=E3 ht (by rw[if_neg hz];omega)
   rw[if_neg hz]at h2
   have h3:=MG ht hz (by omega)
   exact⟨m1,m2,m3,m4,nB Sx UG (Nj.has (by decide) (by rw[fo];omega) h2),nB Q0 Xx (QO.has (by decide) (by rw[gV];omega) h3)⟩
def aP:List Int:=[16,17,18,0,8,7,9,6,10,5,11,4,12,3,13,2,14,1,15]
def iG (ls:List Int):Nat→Nat→Nat
 |0,n=>n
 |k+1,n=>if 4<n∧ls.getD (aP.getD (n-1) 0).toNat 0=0 then iG ls k (n-1)else n
theorem x8 (ls:List Int):∀k n,4≤n→4≤iG ls k n∧iG ls k n≤n
 |0,n,h=>⟨h,Nat.le_refl _⟩
 |k+1,n,h=>by
  simp only[iG]
  split
  ·rename_i hc;have:=x8 ls k (n-1) (by omega);omega
  ·omega
theorem tz:∀j,0≤aP.getD j 0∧aP.getD j 0<19:=by
 intro j
 rcases Nat.lt_or_ge j 19 with h|h
 ·have:∀j,j<19→0≤aP.getD j 0∧aP.getD j 0<19:=by decide
  exact this j h
 ·rw[List.getD_eq_getElem?_getD,List.getElem?_eq_none (show aP.length≤j from h)];decide
def JY (L:List Int):List Int:=br (um (bf L)) 7
def nL (L:List Int):Nat:=iG (JY L) 15 19
theorem Ia (L:List Int):4≤nL L∧nL L≤19:=x8 _ _ _ (by decide)
def eb (ls:List Int)(n:Nat):List Bool:=(aP.take n).flatMap fun s=>bitsOf (ls.getD s.toNat 0) 3
theorem FX (ls:List Int){i:Nat}(h:i<19):eb ls (i+1)=eb ls i++bitsOf (ls.getD (aP.getD i 0).toNat 0) 3:=by
 unfold eb
 have hl:i<aP.length:=h
 rw[List.take_add_one,List.getElem?_eq_getElem hl,List.flatMap_append]
 simp[List.getD_eq_getElem?_getD,List.getElem?_eq_getElem hl]
theorem qU (ls:List Int):∀l:List Int,(l.flatMap fun s=>bitsOf (ls.getD s.toNat 0) 3).length=3*l.length
 |[]=>rfl
 |x::l=>by rw[List.flatMap_cons,List.length_append,qU ls l,ai,List.length_cons];omega
theorem tA (ls:List Int)(n:Nat):(eb ls n).length≤57:=by
 unfold eb;rw[qU,List.length_take]
 have:aP.length=19:=rfl
 omega
def FN (ls:List Int)(x:Nat×Nat×Nat):List Bool:=aS ls (x.1:Int)++bitsOf (x.2.1:Int) x.2.2
def eF (ls:List Int)(dn:List (Nat×Nat×Nat)):List Bool:=dn.flatMap (FN ls)
structure mQ (L:List Int)(ls:List Int):Prop where
 len:ls.length=19
 NR:∀x∈ls,0≤x∧x<8
 each:aE ls=0
 rows:∀x∈bf L,jg ls (x.1:Int)∧x.2.1<2^x.2.2∧x.2.2≤7
theorem xT {L:List Int}(hl:L.length≤316)(hb:∀x∈L,0≤x∧x<16):bh (um (bf L)) 7=(JY L,0)∧mQ L (JY L):=by
 have wU:=yy (bf L)
 have oK:(bf L).length≤L.length:=na L L.length 0
 obtain⟨h1,ok⟩:=iK (fr:=um (bf L)) (by rw[wU];decide) (fun j=>by have:=E1 (bf L) j;omega) (K:=7) (by decide) (by decide) (by rw[wU];decide)
 refine⟨h1,by unfold JY;rw[ok.len,wU],fun x hx=>by have:=ok.NR x hx;omega,ok.makes (by decide) (by rw[wU];decide),fun x hx=>?_⟩
 have h2:=FH hb x hx
 exact⟨ok.has (by decide) (by rw[wU];exact h2.1) (MF hx h2.1),h2.2⟩
theorem pH {L ls:List Int}(ok:mQ L ls):∀dn:List (Nat×Nat×Nat),(∀x∈dn,x∈bf L)→(eF ls dn).length≤22*dn.length
 |[],_=>Nat.le_refl _
 |x::dn,h=>by
  have h1:=pH ok dn (fun y hy=>h y (List.mem_cons_of_mem _ hy))
  obtain⟨h2,h3,h4⟩:=ok.rows x (h x List.mem_cons_self)
  have h5:=jh h2
  have e:eF ls (x::dn)=FN ls x++eF ls dn:=rfl
  rw[e,List.length_append,List.length_cons]
  unfold FN
  rw[List.length_append,ai]
  omega
def gz (A D:List Int):List Bool:=bitsOf 5 3++bitsOf ((A.length-257:Nat):Int) 5++bitsOf ((D.length-1:Nat):Int) 5++bitsOf ((nL (A++D)-4:Nat):Int) 4
theorem jX (A D:List Int):(gz A D).length=17:=by
 unfold gz;simp only[List.length_append,ai]
def dv (ts:List Tk)(A D:List Int):List Bool:=gz A D++eb (JY (A++D)) (nL (A++D))++eF (JY (A++D)) (bf (A++D))++(bg A D ts++aS A 256)
end Go.Proofs.Ytibadaomjlkoaaa
open Go.RowKit
namespace Go.Proofs.Ytibadaomjlkoaaa
set_option maxRecDepth 10000
noncomputable abbrev kj (l:Nat):Cx:={GN (fun _=>[0,3]) []with r:=some l}
theorem vH {L:List Int}{dn:List (Nat×Nat×Nat)}{i n S E K N:Nat}{SI:Int}(hX:ay L i n=((S,E,K),N))(dB:cG L (L.length-i) i=(ay L i n).1::cG L (L.length-(i+(ay L i n).2)) (i+(ay L i n).2))(i3:dn++cG L (L.length-i) i=bf L)(i2:dn.length≤i)(hi:i<L.length)(n1:1≤n)(hl:L.length≤316)(hS:SI=(S:Int)):
 (um dn).length=19∧(0≤(um dn).getD (SI.toNat+0) 0∧(um dn).getD (SI.toNat+0) 0≤400)∧um (dn++[(S,E,K)])=(um dn).set (SI.toNat+0) ((um dn).getD (SI.toNat+0) 0+1)∧(dn++[(S,E,K)])++cG L (L.length-(i+N)) (i+N)=bf L∧1≤N∧N≤n:=by
 subst hS
 have EH:=pI L i n n1
 rw[hX]at dB EH
 have:=E1 dn ((S:Int).toNat+0)
 refine⟨yy dn,by omega,by rw[Jc];rfl,by rw[←i3,dB,List.append_assoc];rfl,EH⟩
section
variable{ts:List Tk}{gt ct:Nat}{A D L ls:List Int}
theorem MU {K Kp:AV→AH→Prop}{g0 c0:Nat}(lK:∀t∈ts,NU t)(lR:ts.length≤150000)(Ar:ts.length≤ct)
 (h:∀ga ca gd cd,(eN ts).length≤ca→(eM ts).length≤cd→K (.aL []) (vb ts gt ct (eN ts) ga ca (eM ts) gd cd [] g0 c0)):
 aa Try.prog 44 [.ptr 0 0 0] (w3 ts gt ct g0 c0++[AO.one true 0 (.cells [.ptr 0 0 0])]) K Kp:=by
 refine aa.lift [.own 0,.own 1,.own 2] (GR (K:=fun r N=>∃ga ca gd cd,(eN ts).length≤ca∧(eM ts).length≤cd∧r=.aL []∧N=fS (dX ts gt ct (eN ts) ga ca (eM ts) gd cd) [] g0 c0) (Kp:=fun _ _=>False) lK lR Ar (fun ga ca gd cd h1 h2=>⟨ga,ca,gd,cd,h1,h2,rfl,rfl⟩))
  rfl rfl ⟨⟨rfl,rfl⟩,⟨rfl,rfl⟩,⟨rfl,rfl⟩,trivial⟩ ⟨rfl,trivial,fun j=>rfl,trivial⟩ ?_ (fun _ _ h=>h.elim)
 rintro r M' ⟨ga,ca,gd,cd,h1,h2,rfl,rfl⟩
 exact⟨⟨rfl,rfl,rfl,rfl⟩,h ga ca gd cd h1 h2⟩
def W7 (L:List Int)(s:Nat×Nat×Nat×Nat×Nat×Nat):List (Nat×AV):=[(1,.ptr 3 0 0),(2,.sl 7 s.2.2.2.2.1 0 L.length s.2.2.2.2.2),(3,.ptr 9 0 0)]
def Xa (ts:List Tk)(gt ct g0 c0:Nat)(A D L:List Int)(s:Nat×Nat×Nat×Nat×Nat×Nat):AH:=
 vb ts gt ct A s.1 s.2.1 D s.2.2.1 s.2.2.2.1 [] g0 c0++[AO.gone,AO.one true s.2.2.2.2.1 (.ints .u8 L s.2.2.2.2.2),AO.one true 0 (.ints .i64 (um (bf L)) 19),AO.one true 0 (.cells [.sl 8 0 0 19 19])]
noncomputable abbrev QH:Cx:=GN (fun _=>[0,3]) []
set_option maxHeartbeats 4000000 in
theorem W4 {Q:iZ→AA→AH→Prop}{Kp:AV→AH→Prop}{g0 c0:Nat}(lK:∀t∈ts,NU t)(lR:ts.length≤150000)(Ar:ts.length≤ct)(hA:eN ts=A)(hD:eM ts=D)(hL:A++D=L)(bk:yW ts A D):
 rT QH (mJ (W7 L) (Xa ts gt ct g0 c0 A D L)) Q Kp 5 oX (au [.ptr 0 0 0]) (w3 ts gt ct g0 c0):=by
 have NH:=bk.al
 have Qv:=bk.dl
 have iP:258≤L.length∧L.length≤316:=by rw[←hL,List.length_append];omega
 have S7:∀i,i<L.length→0≤L.getD i 0∧L.getD i 0<16:=by
  intro i hi
  rw[List.getD_eq_getElem?_getD,List.getElem?_eq_getElem hi,Option.getD_some]
  have hm:=List.getElem_mem hi
  generalize L[i]=x at hm
  rw[←hL]at hm
  rcases List.mem_append.1 hm with h|h
  ·exact bk.ab x h
  ·exact bk.db x h
 refine Qs ?_
 refine MU lK lR Ar fun ga ca gd cd Zt Zr=>?_
 rw[hA,hD]
 rw[hA]at Zt
 rw[hD]at Zr
 refine Qs ?_
 refine Cv (p:=6) (q0:=4) (q1:=5) (x0:=A) (x1:=D) (by omega) rfl rfl rfl fun g7 c7 hc7=>?_
 rw[hL]
 refine Qs ?_
 refine Ht (fun _=>[]) [] rfl ?_
 refine Qs ?_
 refine WO.range rfl rfl [(1,.ptr 3 0 0),(2,.sl 7 g7 0 L.length c7),(3,.ptr 9 0 0)] (aI rfl (aI rfl (aI rfl (trivial)))) fun l fn df d=>?_
 refine Hr (fun _=>[7,10]) [] rfl ?_
 refine Qs ?_
 refine WO.go (σ:=Nat×List (Nat×Nat×Nat)×Nat×Nat) (fun(i,dn,g,c)=>i≤L.length∧dn.length≤i∧dn++cG L (L.length-i) i=bf L∧True) (fun(i,_,_,_)=>L.length-i)
  (fun(i,_,_,_)=>[(0,.fn (.yield l) [] []),(1,.ptr 10 0 0),(3,.int .i64 (i:Int))]) (fun(i,dn,g,c)=>vb ts gt ct A ga ca D gd cd [] g0 c0++[AO.gone,AO.one true g7 (.ints .u8 L c7),AO.one true 0 (.ints .i64 (um dn) 19),AO.one true 0 (.cells [.sl 8 0 0 19 19]),AO.one true 0 (.cells [.sl 7 g7 0 L.length c7]),AO.one true 0 (.loop l .ready none fn _ _ _ _ _ df)]) (0,[],0,0) ag mixed (by kernel_rfl) ⟨Nat.zero_le _,Nat.le_refl _,rfl,trivial⟩ (aI rfl (aI rfl (aI rfl (trivial)))) (aI rfl (aI rfl (aI rfl (aI rfl (aI rfl (aI rfl (aI trivial (aI rfl (aI rfl (aI rfl (aI rfl (aI rfl (trivial))))))))))))) (fun _=>rfl) (fun _=>rfl) (fun _=>⟨rfl,trivial,fun j=>rfl,rfl,trivial,trivial,trivial,trivial,trivial,rfl,rfl,yb rfl,trivial⟩) ?_
 rintro⟨i,dn,g,c⟩ ⟨i1,i2,i3,i4⟩ d2
 refine Qs ?_
 refine And.intro (fun q1=>?_) (fun q1=>?_)
 ·have hi:i<L.length:=by have q1:(i:Int)<(L.length:Int):=of_decide_eq_true q1;omega
  have oK:=m9 L i L.length 1 (by omega)
  have dB:=ov hi
  refine Qs ?_
  refine WO.go (σ:=Nat) (fun n=>1≤n∧i+n≤L.length∧runN L i (L.length-(n-1)) n=runN L i L.length 1) (fun n=>L.length-n)
   (fun n=>[(0,.fn (.yield l) [] []),(1,.ptr 10 0 0),(3,.int .i64 (i:Int)),(4,.int .i64 (n:Int))]) (fun _=>vb ts gt ct A ga ca D gd cd [] g0 c0++[AO.gone,AO.one true g7 (.ints .u8 L c7),AO.one true 0 (.ints .i64 (um dn) 19),AO.one true 0 (.cells [.sl 8 0 0 19 19]),AO.one true 0 (.cells [.sl 7 g7 0 L.length c7]),AO.one true 0 (.loop l .ready none fn _ _ _ _ _ df)]) 1 ag mixed (by kernel_rfl) ⟨Nat.le_refl _,hi,rfl⟩ (aI rfl (aI rfl (aI rfl (aI rfl (trivial))))) (aI rfl (aI rfl (aI rfl (aI rfl (aI rfl (aI rfl (aI trivial (aI rfl (aI rfl (aI rfl (aI rfl (aI rfl (trivial))))))))))))) (fun _=>rfl) (fun _=>rfl) (fun _=>⟨rfl,trivial,fun j=>rfl,rfl,trivial,trivial,trivial,trivial,trivial,rfl,rfl,yb rfl,trivial⟩) ?_
  rintro n ⟨n1,n2,n3⟩ d3
  have WB:=iP
  refine Qs ?_
  refine And.intro (fun q2=>?_) (fun q2=>?_)
  ·have h2:i+n<L.length:=by have q2:(i:Int)+(n:Int)<(L.length:Int):=of_decide_eq_true q2;omega
   refine Qs ?_
   refine And.intro (fun q3=>?_) (fun q3=>?_)
   ·have h3:L.getD (i+n) 0=L.getD i 0:=of_decide_eq_true q3
    refine Qs ?_
    refine RO.same (n+1) ⟨by omega,h2,?_⟩ (show L.length-(n+1)<L.length-n by omega) (aI rfl (aI rfl (aI rfl (aI rfl (trivial))))) (aI rfl (aI rfl (aI rfl (aI rfl (aI rfl (aI rfl (aI trivial (aI rfl (aI rfl (aI rfl (aI rfl (aI rfl (trivial)))))))))))))
    rw[←n3,show L.length-(n-1)=(L.length-(n+1-1))+1 by omega,runN,if_pos ⟨h2,h3⟩]
   ·have h3:¬L.getD (i+n) 0=L.getD i 0:=of_decide_eq_false q3
    have hn:runN L i L.length 1=n:=by
     rw[←n3,show L.length-(n-1)=(L.length-(n+1-1))+1 by omega,runN,if_neg (fun x=>h3 x.2)]
    rw[hn]at dB
    have jK:0≤L.getD ((i:Int).toNat+0) 0∧L.getD ((i:Int).toNat+0) 0<16:=S7 i hi
    refine Qs ?_
    refine And.intro (fun z1=>?_) (fun z1=>?_)
    ·have z1:L.getD i 0=0:=of_decide_eq_true z1
     refine Qs ?_
     refine And.intro (fun z2=>?_) (fun z2=>?_)
     ·have z2:11≤n:=by have z2:(11:Int)≤(n:Int):=of_decide_eq_true z2;omega
      have hX:ay L i n=((18,min n 138-11,7),min n 138):=by unfold ay;rw[if_pos ⟨z1,z2⟩]
      have eE:min (n:Int) 138-11=((min n 138-11:Nat):Int):=by omega
      refine Qs ?_
      rw[eE]
      obtain⟨a1,a2,a3,a4,a5⟩:=vH (SI:=(18:Int)) hX dB i3 i2 hi n1 iP.2 (by first|rfl|exact(Int.toNat_of_nonneg jK.1).symm)
      refine aK.round (x:=kj l) ag mixed (i:=11) rfl (by kernel_rfl) rfl rfl ?_
      refine Qs ?_
      refine RO.same (i+(min n 138),dn++[(18,(min n 138-11),7)],g,c) ⟨by omega,by rw[List.length_append,List.length_singleton];omega,a4,trivial⟩ (show L.length-(i+(min n 138))<L.length-i by omega) (aI rfl (aI rfl (aI (congrArg (AV.int .i64) (show _=((i+(min n 138):Nat):Int) by omega)) trivial))) (aI rfl (aI rfl (aI rfl (aI rfl (aI rfl (aI rfl (aI trivial (aI rfl (aI (congrArg (fun z=>AO.one true 0 (.ints .i64 z 19)) a3) (aI rfl (aI rfl (aI rfl trivial))))))))))))
     ·have z2:¬11≤n:=by have z2:¬(11:Int)≤(n:Int):=of_decide_eq_false z2;omega
      refine Qs ?_
      refine And.intro (fun z3=>?_) (fun z3=>?_)
      rotate_left
      ·exact absurd z1 (of_decide_eq_false z3)
      refine Qs ?_
      refine And.intro (fun z4=>?_) (fun z4=>?_)
      ·have z4:3≤n:=by have z4:(3:Int)≤(n:Int):=of_decide_eq_true z4;omega
       have hX:ay L i n=((17,n-3,3),n):=by unfold ay;rw[if_neg (fun x=>z2 x.2),if_pos ⟨z1,z4⟩]
       have eE:(n:Int)-3=((n-3:Nat):Int):=by omega
       refine Qs ?_
       rw[eE]
       obtain⟨a1,a2,a3,a4,a5⟩:=vH (SI:=(17:Int)) hX dB i3 i2 hi n1 iP.2 (by first|rfl|exact(Int.toNat_of_nonneg jK.1).symm)
       refine aK.round (x:=kj l) ag mixed (i:=11) rfl (by kernel_rfl) rfl rfl ?_
       refine Qs ?_
       refine RO.same (i+n,dn++[(17,(n-3),3)],g,c) ⟨by omega,by rw[List.length_append,List.length_singleton];omega,a4,trivial⟩ (show L.length-(i+n)<L.length-i by omega) (aI rfl (aI rfl (aI (congrArg (AV.int .i64) (show _=((i+n:Nat):Int) by omega)) trivial))) (aI rfl (aI rfl (aI rfl (aI rfl (aI rfl (aI rfl (aI trivial (aI rfl (aI (congrArg (fun z=>AO.one true 0 (.ints .i64 z 19)) a3) (aI rfl (aI rfl (aI rfl trivial))))))))))))
      ·have z4:¬3≤n:=by have z4:¬(3:Int)≤(n:Int):=of_decide_eq_false z4;omega
       have c1:¬(L.getD i 0=0∧11≤n):=fun x=>z2 x.2
       have c2:¬(L.getD i 0=0∧3≤n):=fun x=>z4 x.2
       refine Qs ?_
       refine And.intro (fun y1=>?_) (fun y1=>?_)
       ·have y1:0<i:=by have y1:(0:Int)<(i:Int):=of_decide_eq_true y1;omega
        have ei:(i:Int)-1=((i-1:Nat):Int):=by omega
        have eg:L.getD (((i:Int)-1).toNat+0) 0=L.getD (i-1) 0:=by rw[ei];rfl
        refine Qs ?_
        refine And.intro (fun y2=>?_) (fun y2=>?_)
        ·have y2:L.getD (((i:Int)-1).toNat+0) 0=L.getD i 0:=of_decide_eq_true y2
         rw[eg]at y2
         refine Qs ?_
         refine And.intro (fun y3=>?_) (fun y3=>?_)
         ·have y3:3≤n:=by have y3:(3:Int)≤(n:Int):=of_decide_eq_true y3;omega
          have hX:ay L i n=((16,min n 6-3,2),min n 6):=by unfold ay;rw[if_neg c1,if_neg c2,if_pos ⟨y1,y2,y3⟩]
          have eE:min (n:Int) 6-3=((min n 6-3:Nat):Int):=by omega
          refine Qs ?_
          rw[eE]
          obtain⟨a1,a2,a3,a4,a5⟩:=vH (SI:=(16:Int)) hX dB i3 i2 hi n1 iP.2 (by first|rfl|exact(Int.toNat_of_nonneg jK.1).symm)
          refine aK.round (x:=kj l) ag mixed (i:=11) rfl (by kernel_rfl) rfl rfl ?_
          refine Qs ?_
          refine RO.same (i+(min n 6),dn++[(16,(min n 6-3),2)],g,c) ⟨by omega,by rw[List.length_append,List.length_singleton];omega,a4,trivial⟩ (show L.length-(i+(min n 6))<L.length-i by omega) (aI rfl (aI rfl (aI (congrArg (AV.int .i64) (show _=((i+(min n 6):Nat):Int) by omega)) trivial))) (aI rfl (aI rfl (aI rfl (aI rfl (aI rfl (aI rfl (aI trivial (aI rfl (aI (congrArg (fun z=>AO.one true 0 (.ints .i64 z 19)) a3) (aI rfl (aI rfl (aI rfl trivial))))))))))))
         ·have y3:¬3≤n:=by have y3:¬(3:Int)≤(n:Int):=of_decide_eq_false y3;omega
          have hX:ay L i n=(((L.getD i 0).toNat,0,0),1):=by unfold ay;rw[if_neg c1,if_neg c2,if_neg (fun x=>y3 x.2.2)]
          refine Qs ?_
          obtain⟨a1,a2,a3,a4,a5⟩:=vH (SI:=L.getD ((i:Int).toNat+0) 0) hX dB i3 i2 hi n1 iP.2 (by first|rfl|exact(Int.toNat_of_nonneg jK.1).symm)
          refine aK.round (x:=kj l) ag mixed (i:=11) rfl (by kernel_rfl) rfl rfl ?_
          refine Qs ?_
          refine RO.same (i+1,dn++[((L.getD i 0).toNat,0,0)],g,c) ⟨by omega,by rw[List.length_append,List.length_singleton];omega,a4,trivial⟩ (show L.length-(i+1)<L.length-i by omega) (aI rfl (aI rfl (aI (congrArg (AV.int .i64) (show _=((i+1:Nat):Int) by omega)) trivial))) (aI rfl (aI rfl (aI rfl (aI rfl (aI rfl (aI rfl (aI trivial (aI rfl (aI (congrArg (fun z=>AO.one true 0 (.ints .i64 z 19)) a3) (aI rfl (aI rfl (aI rfl trivial))))))))))))
        ·have y2:¬L.getD (((i:Int)-1).toNat+0) 0=L.getD i 0:=of_decide_eq_false y2
         rw[eg]at y2
         have hX:ay L i n=(((L.getD i 0).toNat,0,0),1):=by unfold ay;rw[if_neg c1,if_neg c2,if_neg (fun x=>y2 x.2.1)]
         refine Qs ?_
         obtain⟨a1,a2,a3,a4,a5⟩:=vH (SI:=L.getD ((i:Int).toNat+0) 0) hX dB i3 i2 hi n1 iP.2 (by first|rfl|exact(Int.toNat_of_nonneg jK.1).symm)
         refine aK.round (x:=kj l) ag mixed (i:=11) rfl (by kernel_rfl) rfl rfl ?_
         refine Qs ?_
         refine RO.same (i+1,dn++[((L.getD i 0).toNat,0,0)],g,c) ⟨by omega,by rw[List.length_append,List.length_singleton];omega,a4,trivial⟩ (show L.length-(i+1)<L.length-i by omega) (aI rfl (aI rfl (aI (congrArg (AV.int .i64) (show _=((i+1:Nat):Int) by omega)) trivial))) (aI rfl (aI rfl (aI rfl (aI rfl (aI rfl (aI rfl (aI trivial (aI rfl (aI (congrArg (fun z=>AO.one true 0 (.ints .i64 z 19)) a3) (aI rfl (aI rfl (aI rfl trivial))))))))))))
       ·have y1:¬0<i:=by have y1:¬(0:Int)<(i:Int):=of_decide_eq_false y1;omega
        have hX:ay L i n=(((L.getD i 0).toNat,0,0),1):=by unfold ay;rw[if_neg c1,if_neg c2,if_neg (fun x=>y1 x.1)]
        refine Qs ?_
        obtain⟨a1,a2,a3,a4,a5⟩:=vH (SI:=L.getD ((i:Int).toNat+0) 0) hX dB i3 i2 hi n1 iP.2 (by first|rfl|exact(Int.toNat_of_nonneg jK.1).symm)
        refine aK.round (x:=kj l) ag mixed (i:=11) rfl (by kernel_rfl) rfl rfl ?_
        refine Qs ?_
        refine RO.same (i+1,dn++[((L.getD i 0).toNat,0,0)],g,c) ⟨by omega,by rw[List.length_append,List.length_singleton];omega,a4,trivial⟩ (show L.length-(i+1)<L.length-i by omega) (aI rfl (aI rfl (aI (congrArg (AV.int .i64) (show _=((i+1:Nat):Int) by omega)) trivial))) (aI rfl (aI rfl (aI rfl (aI rfl (aI rfl (aI rfl (aI trivial (aI rfl (aI (congrArg (fun z=>AO.one true 0 (.ints .i64 z 19)) a3) (aI rfl (aI rfl (aI rfl trivial))))))))))))
    ·have z1:¬L.getD i 0=0:=of_decide_eq_false z1
     have c1:¬(L.getD i 0=0∧11≤n):=fun x=>z1 x.1
     have c2:¬(L.getD i 0=0∧3≤n):=fun x=>z1 x.1
     refine Qs ?_
     refine And.intro (fun z3=>?_) (fun z3=>?_)
     ·exact absurd (of_decide_eq_true z3) z1
     refine Qs ?_
     refine And.intro (fun y1=>?_) (fun y1=>?_)
     ·have y1:0<i:=by have y1:(0:Int)<(i:Int):=of_decide_eq_true y1;omega
      have ei:(i:Int)-1=((i-1:Nat):Int):=by omega
      have eg:L.getD (((i:Int)-1).toNat+0) 0=L.getD (i-1) 0:=by rw[ei];rfl
      refine Qs ?_
      refine And.intro (fun y2=>?_) (fun y2=>?_)
      ·have y2:L.getD (((i:Int)-1).toNat+0) 0=L.getD i 0:=of_decide_eq_true y2
       rw[eg]at y2
       refine Qs ?_
       refine And.intro (fun y3=>?_) (fun y3=>?_)
       ·have y3:3≤n:=by have y3:(3:Int)≤(n:Int):=of_decide_eq_true y3;omega
        have hX:ay L i n=((16,min n 6-3,2),min n 6):=by unfold ay;rw[if_neg c1,if_neg c2,if_pos ⟨y1,y2,y3⟩]
        have eE:min (n:Int) 6-3=((min n 6-3:Nat):Int):=by omega
        refine Qs ?_
        rw[eE]
        obtain⟨a1,a2,a3,a4,a5⟩:=vH (SI:=(16:Int)) hX dB i3 i2 hi n1 iP.2 (by first|rfl|exact(Int.toNat_of_nonneg jK.1).symm)
        refine aK.round (x:=kj l) ag mixed (i:=11) rfl (by kernel_rfl) rfl rfl ?_
        refine Qs ?_
        refine RO.same (i+(min n 6),dn++[(16,(min n 6-3),2)],g,c) ⟨by omega,by rw[List.length_append,List.length_singleton];omega,a4,trivial⟩ (show L.length-(i+(min n 6))<L.length-i by omega) (aI rfl (aI rfl (aI (congrArg (AV.int .i64) (show _=((i+(min n 6):Nat):Int) by omega)) trivial))) (aI rfl (aI rfl (aI rfl (aI rfl (aI rfl (aI rfl (aI trivial (aI rfl (aI (congrArg (fun z=>AO.one true 0 (.ints .i64 z 19)) a3) (aI rfl (aI rfl (aI rfl trivial))))))))))))
       ·have y3:¬3≤n:=by have y3:¬(3:Int)≤(n:Int):=of_decide_eq_false y3;omega
        have hX:ay L i n=(((L.getD i 0).toNat,0,0),1):=by unfold ay;rw[if_neg c1,if_neg c2,if_neg (fun x=>y3 x.2.2)]
        refine Qs ?_
        obtain⟨a1,a2,a3,a4,a5⟩:=vH (SI:=L.getD ((i:Int).toNat+0) 0) hX dB i3 i2 hi n1 iP.2 (by first|rfl|exact(Int.toNat_of_nonneg jK.1).symm)
        refine aK.round (x:=kj l) ag mixed (i:=11) rfl (by kernel_rfl) rfl rfl ?_
        refine Qs ?_
        refine RO.same (i+1,dn++[((L.getD i 0).toNat,0,0)],g,c) ⟨by omega,by rw[List.length_append,List.length_singleton];omega,a4,trivial⟩ (show L.length-(i+1)<L.length-i by omega) (aI rfl (aI rfl (aI (congrArg (AV.int .i64) (show _=((i+1:Nat):Int) by omega)) trivial))) (aI rfl (aI rfl (aI rfl (aI rfl (aI rfl (aI rfl (aI trivial (aI rfl (aI (congrArg (fun z=>AO.one true 0 (.ints .i64 z 19)) a3) (aI rfl (aI rfl (aI rfl trivial))))))))))))
      ·have y2:¬L.getD (((i:Int)-1).toNat+0) 0=L.getD i 0:=of_decide_eq_false y2
       rw[eg]at y2
       have hX:ay L i n=(((L.getD i 0).toNat,0,0),1):=by unfold ay;rw[if_neg c1,if_neg c2,if_neg (fun x=>y2 x.2.1)]
       refine Qs ?_
       obtain⟨a1,a2,a3,a4,a5⟩:=vH (SI:=L.getD ((i:Int).toNat+0) 0) hX dB i3 i2 hi n1 iP.2 (by first|rfl|exact(Int.toNat_of_nonneg jK.1).symm)
       refine aK.round (x:=kj l) ag mixed (i:=11) rfl (by kernel_rfl) rfl rfl ?_
       refine Qs ?_
       refine RO.same (i+1,dn++[((L.getD i 0).toNat,0,0)],g,c) ⟨by omega,by rw[List.length_append,List.length_singleton];omega,a4,trivial⟩ (show L.length-(i+1)<L.length-i by omega) (aI rfl (aI rfl (aI (congrArg (AV.int .i64) (show _=((i+1:Nat):Int) by omega)) trivial))) (aI rfl (aI rfl (aI rfl (aI rfl (aI rfl (aI rfl (aI trivial (aI rfl (aI (congrArg (fun z=>AO.one true 0 (.ints .i64 z 19)) a3) (aI rfl (aI rfl (aI rfl trivial))))))))))))
     ·have y1:¬0<i:=by have y1:¬(0:Int)<(i:Int):=of_decide_eq_false y1;omega
      have hX:ay L i n=(((L.getD i 0).toNat,0,0),1):=by unfold ay;rw[if_neg c1,if_neg c2,if_neg (fun x=>y1 x.1)]
      refine Qs ?_
      obtain⟨a1,a2,a3,a4,a5⟩:=vH (SI:=L.getD ((i:Int).toNat+0) 0) hX dB i3 i2 hi n1 iP.2 (by first|rfl|exact(Int.toNat_of_nonneg jK.1).symm)
      refine aK.round (x:=kj l) ag mixed (i:=11) rfl (by kernel_rfl) rfl rfl ?_
      refine Qs ?_
      refine RO.same (i+1,dn++[((L.getD i 0).toNat,0,0)],g,c) ⟨by omega,by rw[List.length_append,List.length_singleton];omega,a4,trivial⟩ (show L.length-(i+1)<L.length-i by omega) (aI rfl (aI rfl (aI (congrArg (AV.int .i64) (show _=((i+1:Nat):Int) by omega)) trivial))) (aI rfl (aI rfl (aI rfl (aI rfl (aI rfl (aI rfl (aI trivial (aI rfl (aI (congrArg (fun z=>AO.one true 0 (.ints .i64 z 19)) a3) (aI rfl (aI rfl (aI rfl trivial))))))))))))
  ·have h2:¬i+n<L.length:=by have q2:¬(i:Int)+(n:Int)<(L.length:Int):=of_decide_eq_false q2;omega
   have hn:runN L i L.length 1=n:=by
    rw[←n3,show L.length-(n-1)=(L.length-(n+1-1))+1 by omega,runN,if_neg (fun x=>h2 x.1)]
   rw[hn]at dB
   have jK:0≤L.getD ((i:Int).toNat+0) 0∧L.getD ((i:Int).toNat+0) 0<16:=S7 i hi
   refine Qs ?_
   refine And.intro (fun z1=>?_) (fun z1=>?_)
   ·have z1:L.getD i 0=0:=of_decide_eq_true z1
    refine Qs ?_
    refine And.intro (fun z2=>?_) (fun z2=>?_)
    ·have z2:11≤n:=by have z2:(11:Int)≤(n:Int):=of_decide_eq_true z2;omega
     have hX:ay L i n=((18,min n 138-11,7),min n 138):=by unfold ay;rw[if_pos ⟨z1,z2⟩]
     have eE:min (n:Int) 138-11=((min n 138-11:Nat):Int):=by omega
     refine Qs ?_
     rw[eE]
     obtain⟨a1,a2,a3,a4,a5⟩:=vH (SI:=(18:Int)) hX dB i3 i2 hi n1 iP.2 (by first|rfl|exact(Int.toNat_of_nonneg jK.1).symm)
     refine aK.round (x:=kj l) ag mixed (i:=11) rfl (by kernel_rfl) rfl rfl ?_
     refine Qs ?_
     refine RO.same (i+(min n 138),dn++[(18,(min n 138-11),7)],g,c) ⟨by omega,by rw[List.length_append,List.length_singleton];omega,a4,trivial⟩ (show L.length-(i+(min n 138))<L.length-i by omega) (aI rfl (aI rfl (aI (congrArg (AV.int .i64) (show _=((i+(min n 138):Nat):Int) by omega)) trivial))) (aI rfl (aI rfl (aI rfl (aI rfl (aI rfl (aI rfl (aI trivial (aI rfl (aI (congrArg (fun z=>AO.one true 0 (.ints .i64 z 19)) a3) (aI rfl (aI rfl (aI rfl trivial))))))))))))
    ·have z2:¬11≤n:=by have z2:¬(11:Int)≤(n:Int):=of_decide_eq_false z2;omega
     refine Qs ?_
     refine And.intro (fun z3=>?_) (fun z3=>?_)
     rotate_left
     ·exact absurd z1 (of_decide_eq_false z3)
     refine Qs ?_
     refine And.intro (fun z4=>?_) (fun z4=>?_)
     ·have z4:3≤n:=by have z4:(3:Int)≤(n:Int):=of_decide_eq_true z4;omega
      have hX:ay L i n=((17,n-3,3),n):=by unfold ay;rw[if_neg (fun x=>z2 x.2),if_pos ⟨z1,z4⟩]
      have eE:(n:Int)-3=((n-3:Nat):Int):=by omega
      refine Qs ?_
      rw[eE]
      obtain⟨a1,a2,a3,a4,a5⟩:=vH (SI:=(17:Int)) hX dB i3 i2 hi n1 iP.2 (by first|rfl|exact(Int.toNat_of_nonneg jK.1).symm)
      refine aK.round (x:=kj l) ag mixed (i:=11) rfl (by kernel_rfl) rfl rfl ?_
      refine Qs ?_
      refine RO.same (i+n,dn++[(17,(n-3),3)],g,c) ⟨by omega,by rw[List.length_append,List.length_singleton];omega,a4,trivial⟩ (show L.length-(i+n)<L.length-i by omega) (aI rfl (aI rfl (aI (congrArg (AV.int .i64) (show _=((i+n:Nat):Int) by omega)) trivial))) (aI rfl (aI rfl (aI rfl (aI rfl (aI rfl (aI rfl (aI trivial (aI rfl (aI (congrArg (fun z=>AO.one true 0 (.ints .i64 z 19)) a3) (aI rfl (aI rfl (aI rfl trivial))))))))))))
     ·have z4:¬3≤n:=by have z4:¬(3:Int)≤(n:Int):=of_decide_eq_false z4;omega
      have c1:¬(L.getD i 0=0∧11≤n):=fun x=>z2 x.2
      have c2:¬(L.getD i 0=0∧3≤n):=fun x=>z4 x.2
      refine Qs ?_
      refine And.intro (fun y1=>?_) (fun y1=>?_)
      ·have y1:0<i:=by have y1:(0:Int)<(i:Int):=of_decide_eq_true y1;omega
       have ei:(i:Int)-1=((i-1:Nat):Int):=by omega
       have eg:L.getD (((i:Int)-1).toNat+0) 0=L.getD (i-1) 0:=by rw[ei];rfl
       refine Qs ?_
       refine And.intro (fun y2=>?_) (fun y2=>?_)
       ·have y2:L.getD (((i:Int)-1).toNat+0) 0=L.getD i 0:=of_decide_eq_true y2
        rw[eg]at y2
        refine Qs ?_
        refine And.intro (fun y3=>?_) (fun y3=>?_)
        ·have y3:3≤n:=by have y3:(3:Int)≤(n:Int):=of_decide_eq_true y3;omega
         have hX:ay L i n=((16,min n 6-3,2),min n 6):=by unfold ay;rw[if_neg c1,if_neg c2,if_pos ⟨y1,y2,y3⟩]
         have eE:min (n:Int) 6-3=((min n 6-3:Nat):Int):=by omega
         refine Qs ?_
         rw[eE]
         obtain⟨a1,a2,a3,a4,a5⟩:=vH (SI:=(16:Int)) hX dB i3 i2 hi n1 iP.2 (by first|rfl|exact(Int.toNat_of_nonneg jK.1).symm)
         refine aK.round (x:=kj l) ag mixed (i:=11) rfl (by kernel_rfl) rfl rfl ?_
         refine Qs ?_
         refine RO.same (i+(min n 6),dn++[(16,(min n 6-3),2)],g,c) ⟨by omega,by rw[List.length_append,List.length_singleton];omega,a4,trivial⟩ (show L.length-(i+(min n 6))<L.length-i by omega) (aI rfl (aI rfl (aI (congrArg (AV.int .i64) (show _=((i+(min n 6):Nat):Int) by omega)) trivial))) (aI rfl (aI rfl (aI rfl (aI rfl (aI rfl (aI rfl (aI trivial (aI rfl (aI (congrArg (fun z=>AO.one true 0 (.ints .i64 z 19)) a3) (aI rfl (aI rfl (aI rfl trivial))))))))))))
        ·have y3:¬3≤n:=by have y3:¬(3:Int)≤(n:Int):=of_decide_eq_false y3;omega
         have hX:ay L i n=(((L.getD i 0).toNat,0,0),1):=by unfold ay;rw[if_neg c1,if_neg c2,if_neg (fun x=>y3 x.2.2)]
         refine Qs ?_
         obtain⟨a1,a2,a3,a4,a5⟩:=vH (SI:=L.getD ((i:Int).toNat+0) 0) hX dB i3 i2 hi n1 iP.2 (by first|rfl|exact(Int.toNat_of_nonneg jK.1).symm)
         refine aK.round (x:=kj l) ag mixed (i:=11) rfl (by kernel_rfl) rfl rfl ?_
         refine Qs ?_
         refine RO.same (i+1,dn++[((L.getD i 0).toNat,0,0)],g,c) ⟨by omega,by rw[List.length_append,List.length_singleton];omega,a4,trivial⟩ (show L.length-(i+1)<L.length-i by omega) (aI rfl (aI rfl (aI (congrArg (AV.int .i64) (show _=((i+1:Nat):Int) by omega)) trivial))) (aI rfl (aI rfl (aI rfl (aI rfl (aI rfl (aI rfl (aI trivial (aI rfl (aI (congrArg (fun z=>AO.one true 0 (.ints .i64 z 19)) a3) (aI rfl (aI rfl (aI rfl trivial))))))))))))
       ·have y2:¬L.getD (((i:Int)-1).toNat+0) 0=L.getD i 0:=of_decide_eq_false y2
        rw[eg]at y2
        have hX:ay L i n=(((L.getD i 0).toNat,0,0),1):=by unfold ay;rw[if_neg c1,if_neg c2,if_neg (fun x=>y2 x.2.1)]
        refine Qs ?_
        obtain⟨a1,a2,a3,a4,a5⟩:=vH (SI:=L.getD ((i:Int).toNat+0) 0) hX dB i3 i2 hi n1 iP.2 (by first|rfl|exact(Int.toNat_of_nonneg jK.1).symm)
        refine aK.round (x:=kj l) ag mixed (i:=11) rfl (by kernel_rfl) rfl rfl ?_
        refine Qs ?_
        refine RO.same (i+1,dn++[((L.getD i 0).toNat,0,0)],g,c) ⟨by omega,by rw[List.length_append,List.length_singleton];omega,a4,trivial⟩ (show L.length-(i+1)<L.length-i by omega) (aI rfl (aI rfl (aI (congrArg (AV.int .i64) (show _=((i+1:Nat):Int) by omega)) trivial))) (aI rfl (aI rfl (aI rfl (aI rfl (aI rfl (aI rfl (aI trivial (aI rfl (aI (congrArg (fun z=>AO.one true 0 (.ints .i64 z 19)) a3) (aI rfl (aI rfl (aI rfl trivial))))))))))))
      ·have y1:¬0<i:=by have y1:¬(0:Int)<(i:Int):=of_decide_eq_false y1;omega
       have hX:ay L i n=(((L.getD i 0).toNat,0,0),1):=by unfold ay;rw[if_neg c1,if_neg c2,if_neg (fun x=>y1 x.1)]
       refine Qs ?_
       obtain⟨a1,a2,a3,a4,a5⟩:=vH (SI:=L.getD ((i:Int).toNat+0) 0) hX dB i3 i2 hi n1 iP.2 (by first|rfl|exact(Int.toNat_of_nonneg jK.1).symm)
       refine aK.round (x:=kj l) ag mixed (i:=11) rfl (by kernel_rfl) rfl rfl ?_
       refine Qs ?_
       refine RO.same (i+1,dn++[((L.getD i 0).toNat,0,0)],g,c) ⟨by omega,by rw[List.length_append,List.length_singleton];omega,a4,trivial⟩ (show L.length-(i+1)<L.length-i by omega) (aI rfl (aI rfl (aI (congrArg (AV.int .i64) (show _=((i+1:Nat):Int) by omega)) trivial))) (aI rfl (aI rfl (aI rfl (aI rfl (aI rfl (aI rfl (aI trivial (aI rfl (aI (congrArg (fun z=>AO.one true 0 (.ints .i64 z 19)) a3) (aI rfl (aI rfl (aI rfl trivial))))))))))))
   ·have z1:¬L.getD i 0=0:=of_decide_eq_false z1
    have c1:¬(L.getD i 0=0∧11≤n):=fun x=>z1 x.1
    have c2:¬(L.getD i 0=0∧3≤n):=fun x=>z1 x.1
    refine Qs ?_
    refine And.intro (fun z3=>?_) (fun z3=>?_)
    ·exact absurd (of_decide_eq_true z3) z1
    refine Qs ?_
    refine And.intro (fun y1=>?_) (fun y1=>?_)
    ·have y1:0<i:=by have y1:(0:Int)<(i:Int):=of_decide_eq_true y1;omega
     have ei:(i:Int)-1=((i-1:Nat):Int):=by omega
     have eg:L.getD (((i:Int)-1).toNat+0) 0=L.getD (i-1) 0:=by rw[ei];rfl
     refine Qs ?_
     refine And.intro (fun y2=>?_) (fun y2=>?_)
     ·have y2:L.getD (((i:Int)-1).toNat+0) 0=L.getD i 0:=of_decide_eq_true y2
      rw[eg]at y2
      refine Qs ?_
      refine And.intro (fun y3=>?_) (fun y3=>?_)
      ·have y3:3≤n:=by have y3:(3:Int)≤(n:Int):=of_decide_eq_true y3;omega
       have hX:ay L i n=((16,min n 6-3,2),min n 6):=by unfold ay;rw[if_neg c1,if_neg c2,if_pos ⟨y1,y2,y3⟩]
       have eE:min (n:Int) 6-3=((min n 6-3:Nat):Int):=by omega
       refine Qs ?_
       rw[eE]
       obtain⟨a1,a2,a3,a4,a5⟩:=vH (SI:=(16:Int)) hX dB i3 i2 hi n1 iP.2 (by first|rfl|exact(Int.toNat_of_nonneg jK.1).symm)
       refine aK.round (x:=kj l) ag mixed (i:=11) rfl (by kernel_rfl) rfl rfl ?_
       refine Qs ?_
       refine RO.same (i+(min n 6),dn++[(16,(min n 6-3),2)],g,c) ⟨by omega,by rw[List.length_append,List.length_singleton];omega,a4,trivial⟩ (show L.length-(i+(min n 6))<L.length-i by omega) (aI rfl (aI rfl (aI (congrArg (AV.int .i64) (show _=((i+(min n 6):Nat):Int) by omega)) trivial))) (aI rfl (aI rfl (aI rfl (aI rfl (aI rfl (aI rfl (aI trivial (aI rfl (aI (congrArg (fun z=>AO.one true 0 (.ints .i64 z 19)) a3) (aI rfl (aI rfl (aI rfl trivial))))))))))))
      ·have y3:¬3≤n:=by have y3:¬(3:Int)≤(n:Int):=of_decide_eq_false y3;omega
       have hX:ay L i n=(((L.getD i 0).toNat,0,0),1):=by unfold ay;rw[if_neg c1,if_neg c2,if_neg (fun x=>y3 x.2.2)]
       refine Qs ?_
       obtain⟨a1,a2,a3,a4,a5⟩:=vH (SI:=L.getD ((i:Int).toNat+0) 0) hX dB i3 i2 hi n1 iP.2 (by first|rfl|exact(Int.toNat_of_nonneg jK.1).symm)
       refine aK.round (x:=kj l) ag mixed (i:=11) rfl (by kernel_rfl) rfl rfl ?_
       refine Qs ?_
       refine RO.same (i+1,dn++[((L.getD i 0).toNat,0,0)],g,c) ⟨by omega,by rw[List.length_append,List.length_singleton];omega,a4,trivial⟩ (show L.length-(i+1)<L.length-i by omega) (aI rfl (aI rfl (aI (congrArg (AV.int .i64) (show _=((i+1:Nat):Int) by omega)) trivial))) (aI rfl (aI rfl (aI rfl (aI rfl (aI rfl (aI rfl (aI trivial (aI rfl (aI (congrArg (fun z=>AO.one true 0 (.ints .i64 z 19)) a3) (aI rfl (aI rfl (aI rfl trivial))))))))))))
     ·have y2:¬L.getD (((i:Int)-1).toNat+0) 0=L.getD i 0:=of_decide_eq_false y2
      rw[eg]at y2
      have hX:ay L i n=(((L.getD i 0).toNat,0,0),1):=by unfold ay;rw[if_neg c1,if_neg c2,if_neg (fun x=>y2 x.2.1)]
      refine Qs ?_
      obtain⟨a1,a2,a3,a4,a5⟩:=vH (SI:=L.getD ((i:Int).toNat+0) 0) hX dB i3 i2 hi n1 iP.2 (by first|rfl|exact(Int.toNat_of_nonneg jK.1).symm)
      refine aK.round (x:=kj l) ag mixed (i:=11) rfl (by kernel_rfl) rfl rfl ?_
      refine Qs ?_
      refine RO.same (i+1,dn++[((L.getD i 0).toNat,0,0)],g,c) ⟨by omega,by rw[List.length_append,List.length_singleton];omega,a4,trivial⟩ (show L.length-(i+1)<L.length-i by omega) (aI rfl (aI rfl (aI (congrArg (AV.int .i64) (show _=((i+1:Nat):Int) by omega)) trivial))) (aI rfl (aI rfl (aI rfl (aI rfl (aI rfl (aI rfl (aI trivial (aI rfl (aI (congrArg (fun z=>AO.one true 0 (.ints .i64 z 19)) a3) (aI rfl (aI rfl (aI rfl trivial))))))))))))
    ·have y1:¬0<i:=by have y1:¬(0:Int)<(i:Int):=of_decide_eq_false y1;omega
     have hX:ay L i n=(((L.getD i 0).toNat,0,0),1):=by unfold ay;rw[if_neg c1,if_neg c2,if_neg (fun x=>y1 x.1)]
     refine Qs ?_
     obtain⟨a1,a2,a3,a4,a5⟩:=vH (SI:=L.getD ((i:Int).toNat+0) 0) hX dB i3 i2 hi n1 iP.2 (by first|rfl|exact(Int.toNat_of_nonneg jK.1).symm)
     refine aK.round (x:=kj l) ag mixed (i:=11) rfl (by kernel_rfl) rfl rfl ?_
     refine Qs ?_
     refine RO.same (i+1,dn++[((L.getD i 0).toNat,0,0)],g,c) ⟨by omega,by rw[List.length_append,List.length_singleton];omega,a4,trivial⟩ (show L.length-(i+1)<L.length-i by omega) (aI rfl (aI rfl (aI (congrArg (AV.int .i64) (show _=((i+1:Nat):Int) by omega)) trivial))) (aI rfl (aI rfl (aI rfl (aI rfl (aI rfl (aI rfl (aI trivial (aI rfl (aI (congrArg (fun z=>AO.one true 0 (.ints .i64 z 19)) a3) (aI rfl (aI rfl (aI rfl trivial))))))))))))
 ·have hi:¬i<L.length:=by have q1:¬(i:Int)<(L.length:Int):=of_decide_eq_false q1;omega
  have Wj:dn=bf L:=by
   rw[←i3,show L.length-i=0 by omega];exact(List.append_nil dn).symm
  refine Qs ?_
  refine Or.inl (And.intro rfl ?_)
  subst Wj
  refine Qs ?_
  refine mJ.mk (ga,ca,gd,cd,g7,c7) (aI rfl (aI rfl (aI rfl (trivial)))) (aI rfl (aI rfl (aI rfl (aI rfl (aI rfl (aI rfl (aI trivial (aI rfl (aI rfl (aI rfl (trivial)))))))))))
end
end Go.Proofs.Ytibadaomjlkoaaa
