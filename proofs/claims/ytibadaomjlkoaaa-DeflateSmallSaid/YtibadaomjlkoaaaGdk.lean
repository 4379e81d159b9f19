import Derived.Test.YtibadaomjlkoaaaGdj
import Derived.Test.YtibadaomjlkoaaaGdf
set_option linter.unusedVariables false
set_option linter.unusedSimpArgs false
open Go.RowKit
namespace Go.Proofs.Ytibadaomjlkoaaa
set_option maxRecDepth 10000
section
variable{K Kp:AV→AH→Prop}
theorem C1 {M:AH}{p q0 q1 q2 q3:Nat}{x0 x1 x2 x3:List Int}{c0 c1 c2 c3 d0 d1 d2 d3:Nat}(hl:1≤x0.length+x1.length+x2.length+x3.length∧x0.length+x1.length+x2.length+x3.length≤1000000)
 (hp:M[p]?=some (.one true 0 (.cells [.sl q0 0 0 x0.length c0,.sl q1 0 0 x1.length c1,.sl q2 0 0 x2.length c2,.sl q3 0 0 x3.length c3])))
 (h0:M[q0]?=some (.one true 0 (.ints .u8 x0 d0)))(h1:M[q1]?=some (.one true 0 (.ints .u8 x1 d1)))(h2:M[q2]?=some (.one true 0 (.ints .u8 x2 d2)))(h3:M[q3]?=some (.one true 0 (.ints .u8 x3 d3)))
 (h:∀g c,x0.length+x1.length+x2.length+x3.length≤c→K (.sl M.length g 0 (x0++x1++x2++x3).length c) (M++[.one true g (.ints .u8 (x0++x1++x2++x3) c)])):
 aa Try.prog 41 [.sl p 0 0 4 4] M K Kp:=by
 refine aa.lift [.e9 p,.e9 q0,.e9 q1,.e9 q2,.e9 q3] (y6 (x0:=x0) (x1:=x1) (x2:=x2) (x3:=x3) (c0:=c0) (c1:=c1) (c2:=c2) (c3:=c3) (d0:=d0) (d1:=d1) (d2:=d2) (d3:=d3)
  (K:=fun r N=>∃g c,x0.length+x1.length+x2.length+x3.length≤c∧r=.sl 5 g 0 (x0++x1++x2++x3).length c∧N=[.one false 0 (.cells [.sl 1 0 0 x0.length c0,.sl 2 0 0 x1.length c1,.sl 3 0 0 x2.length c2,.sl 4 0 0 x3.length c3]),.one false 0 (.ints .u8 x0 d0),.one false 0 (.ints .u8 x1 d1),.one false 0 (.ints .u8 x2 d2),.one false 0 (.ints .u8 x3 d3),.one true g (.ints .u8 (x0++x1++x2++x3) c)])
  (Kp:=fun _ _=>False) hl (fun g c hc=>⟨g,c,hc,rfl,rfl⟩)) rfl rfl ⟨⟨rfl,_,hp,rfl⟩,⟨rfl,_,h0,rfl⟩,⟨rfl,_,h1,rfl⟩,⟨rfl,_,h2,rfl⟩,⟨rfl,_,h3,rfl⟩,trivial⟩ ⟨rfl,trivial,trivial,trivial,trivial,trivial⟩ ?_ (fun _ _ h=>h.elim)
 rintro r M' ⟨g,c,hc,rfl,rfl⟩
 exact⟨⟨rfl,rfl,rfl,rfl,rfl,rfl⟩,h g c hc⟩
variable{ts:List Tk}{gt ct:Nat}
theorem J4:bC.length=288:=by decide+kernel
theorem Ho:∀x∈bC,0≤x∧x<256:=by decide+kernel
theorem Hn:∀x∈cN,0≤x∧x<256:=by decide+kernel
def w3 (ts:List Tk)(gt ct g c:Nat):AH:=[.one true 0 (.cells [.sl 1 g 0 0 c,.int .u32 0,.int .i64 0,.sl 2 gt 0 ts.length ct,.ns,.ns]),.one true g (.ints .u8 [] c),.one true gt (jn ts ct)]
def w4 (ts:List Tk)(gt ct g c:Nat):AH:=[.one true 0 (.cells [.sl 1 g 0 0 c,.int .u32 0,.int .i64 0,.sl 2 gt 0 ts.length ct,.sl 3 0 0 0 0,.ns]),.one true g (.ints .u8 [] c),.one true gt (jn ts ct),.one true 0 (.ints .u8 [] 0)]
theorem EC {g c:Nat}{l:List AV}:Vw (w3 ts gt ct g c) (gq (dX ts gt ct [] 0 0 [] 0 0) [] g c) l l:=by
 have v1:Vw (w3 ts gt ct g c) (w4 ts gt ct g c) l l:=Vw.ghost (M:=w3 ts gt ct g c) (i:=0) (g:=0) (k:=4) (cs:=[.sl 1 g 0 0 c,.int .u32 0,.int .i64 0,.sl 2 gt 0 ts.length ct,.ns,.ns]) (x:=.ints .u8 [] 0) rfl rfl ⟨rfl,rfl⟩
 have v2:Vw (w4 ts gt ct g c) (gq (dX ts gt ct [] 0 0 [] 0 0) [] g c) l l:=Vw.ghost (M:=w4 ts gt ct g c) (i:=0) (g:=0) (k:=5) (cs:=[.sl 1 g 0 0 c,.int .u32 0,.int .i64 0,.sl 2 gt 0 ts.length ct,.sl 3 0 0 0 0,.ns]) (x:=.ints .u8 [] 0) rfl rfl ⟨rfl,rfl⟩
 exact Vw.trans v1 v2
theorem Bf {g0 c0:Nat}(lX:∀t∈ts,Ob bC cN t)(lY:ts.length≤150000)(A0:ts.length≤ct)
 (h:∀g c ga ca,(aP (bx ts)).length≤c→K (.aL []) (gq (dX ts gt ct bC ga ca cN 0 32) (bx ts) g c)):
 aa Try.prog 16 [.ptr 0 0 0] (w3 ts gt ct g0 c0) K Kp:=by
 refine aa.cU ?_
 refine aa.view EC ?_
 refine P8 (fun _=>[]) [] rfl ?_
 refine Qs ?_
 refine lj (X:=dX ts gt ct [] 0 0 [] 0 0) [] (v:=3) (n:=3) (by decide) (by decide) (Nat.zero_le _) (fun g1 c1 uL _=>?_)
 have Xd:jt [] 3 3=(bitsOf 3 3,0):=by decide
 rw[Xd]at uL⊢
 refine Qs ?_
 refine bX (i:=5) (v:=8) (k:=144) rfl (by decide) (by decide) ?_
 refine Qs ?_
 refine bX (i:=7) (v:=9) (k:=112) rfl (by decide) (by decide) ?_
 refine Qs ?_
 refine bX (i:=9) (v:=7) (k:=24) rfl (by decide) (by decide) ?_
 refine Qs ?_
 refine bX (i:=11) (v:=8) (k:=8) rfl (by decide) (by decide) ?_
 refine Qs ?_
 refine C1 (p:=13) (q0:=6) (q1:=8) (q2:=10) (q3:=12) (x0:=List.replicate 144 8) (x1:=List.replicate 112 9) (x2:=List.replicate 24 7) (x3:=List.replicate 8 8) (by decide) rfl rfl rfl rfl rfl (fun g2 c2 NC=>?_)
 rw[show(List.replicate 144 (8:Int)++List.replicate 112 9++List.replicate 24 7++List.replicate 8 8)=bC from rfl]
 refine Qs ?_
 refine bX (i:=15) (v:=5) (k:=32) rfl (by decide) (by decide) ?_
 refine Qs ?_
 refine aa.lift [.own 0,.own 1,.own 2,.own 14,.own 16] (uY (ts:=ts) (gt:=gt) (ct:=ct) (A:=bC) (ga:=g2) (ca:=c2) (D:=cN) (gd:=0) (cd:=32) (row:=bitsOf 3 3) (g:=g1) (c:=c1)
  (K:=fun r N=>∃g c,(aP (bx ts)).length≤c∧r=.aL []∧N=gq (dX ts gt ct bC g2 c2 cN 0 32) (bx ts) g c) (Kp:=fun _ _=>False) xy xw Ho Hn (by rw[J4];decide) (by decide) (mW (s:=256) (by omega)) lX lY A0
  (by rw[ai];omega) uL (fun g c hc=>⟨g,c,hc,rfl,rfl⟩)) rfl rfl ⟨⟨rfl,rfl⟩,⟨rfl,rfl⟩,⟨rfl,rfl⟩,⟨rfl,rfl⟩,⟨rfl,rfl⟩,trivial⟩ ⟨rfl,trivial,fun j=>rfl,trivial,trivial,trivial⟩ ?_ (fun _ _ h=>h.elim)
 rintro r M' ⟨g,c,hc,rfl,rfl⟩
 refine⟨⟨rfl,rfl,rfl,rfl,rfl,rfl⟩,?_⟩
 refine Qs ?_
 refine⟨[.own 0,.own 1,.own 2,.own 14,.own 16],.aL [],gq (dX ts gt ct bC g2 c2 cN 0 32) (bx ts) g c,⟨⟨⟨rfl,rfl⟩,⟨rfl,rfl⟩,⟨rfl,rfl⟩,⟨rfl,rfl⟩,⟨rfl,rfl⟩,trivial⟩,rfl,⟨rfl,trivial,fun j=>rfl,trivial,trivial,trivial⟩,rfl,fun i hi=>?_⟩,h g c g2 c2 hc⟩
 match i,hi with
 |0,_=>exact .inl rfl
 |1,_=>exact .inl rfl
 |2,_=>exact .inl rfl
end
end Go.Proofs.Ytibadaomjlkoaaa
open Go.RowKit
namespace Go.Proofs.Ytibadaomjlkoaaa
set_option maxRecDepth 10000
def km (last:Int)(ys:List Int):List Int:=[last,(ys.length:Int)%256,(ys.length:Int)/256%256,255-(ys.length:Int)%256,255-(ys.length:Int)/256%256]++ys
def dA:Nat→List Int→List Int
 |0,xs=>km 1 xs
 |k+1,xs=>if xs.length≤65535 then km 1 xs else km 0 (xs.take 65535)++dA k (xs.drop 65535)
theorem xQ {x:Int}(h:0≤x∧x<256):cm .xor .u8 255 x=255-x:=by
 have:∀n:Nat,n<256→cm .xor .u8 255 (n:Int)=255-(n:Int):=by decide+kernel
 have:=this x.toNat (by omega)
 rwa[Int.toNat_of_nonneg h.1]at this
theorem Sx {n:Nat}:cn .i64 (n:Int) 8=(n:Int)/256:=by
 have:=yb (x:=n) (k:=8) (by decide)
 rw[show((8:Nat):Int)=8 from rfl]at this
 rw[this]
 omega
def JR (last n:Int):List Int:=[last,n%256,n/256%256,255-n%256,255-n/256%256]
theorem Gh {k:Nat}{xs:List Int}(h:xs.length≤65535):dA k xs=km 1 xs:=by
 cases k with
 |zero=>rfl
 |succ k=>rw[dA,if_pos h]
section
variable{K Kp:AV→AH→Prop}{xs:List Int}{c c0:Nat}
theorem xY (hx:xs.length≤1000000)(hc:xs.length≤c0)(r7:c0≤c)
 (h:∀g c',(dA xs.length xs).length≤c'→K (.sl 1 g 0 (dA xs.length xs).length c') [.one false 0 (.ints .u8 xs c),.one true g (.ints .u8 (dA xs.length xs) c')]):
 aa Try.prog 15 [.sl 0 0 0 xs.length c0] [.one false 0 (.ints .u8 xs c)] K Kp:=by
 refine aa.cU ?_
 refine P9 (fun _=>[]) [] rfl ?_
 refine Qs ?_
 refine WO.KW (σ:=Nat×Nat×List Int×Nat×Nat) (fun(k,o,out,g,co)=>o≤xs.length∧xs.length-o≤(k+1)*65535∧out.length≤co∧out.length≤2*o∧out++dA k (xs.drop o)=dA xs.length xs∧k≤xs.length) (fun(k,_)=>k)
  (fun(k,o,out,g,co)=>[(0,.sl 0 0 o (xs.length-o) (c0-o)),(3,.sl 1 g 0 out.length co)]) (fun(k,o,out,g,co)=>[.one false 0 (.ints .u8 xs c),.one true g (.ints .u8 out co)]) (xs.length,0,[],0,0) ae mixed (by kernel_rfl)
  [(0,.sl 0 0 0 xs.length c0),(3,.ns)] _ ⟨Nat.zero_le _,by omega,Nat.le_refl _,Nat.zero_le _,rfl,Nat.le_refl _⟩ (aI rfl (aI rfl (trivial))) rfl
  (Vw.yv (x:=.ints .u8 [] 0) ⟨rfl,rfl⟩ (And.intro (.inl rfl) (And.intro (.inr ⟨rfl,rfl⟩) trivial))) (aI rfl (aI rfl (trivial))) (fun _=>rfl) (fun _=>rfl) (fun _=>⟨trivial,trivial,trivial⟩) ?_
 rintro⟨k,o,out,g,co⟩ ⟨i1,i2,i3,i4,i5,i6⟩ d
 refine Qs ?_
 refine And.intro (fun q1=>?_) (fun q1=>?_)
 ·have q1:min ((xs.length-o:Nat):Int) 65535=((xs.length-o:Nat):Int):=of_decide_eq_true q1
  obtain⟨n,hn⟩:∃n,xs.length-o=n:=⟨_,rfl⟩
  rw[hn]at q1 i2⊢
  rw[q1]
  have e8:cn .i64 (n:Int) 8=(n:Int)/256:=Sx
  have TT:dA k (xs.drop o)=JR 1 (n:Int)++xs.drop o:=by
   rw[Gh (by rw[List.length_drop];omega),km,List.length_drop,hn];rfl
  refine Qs ?_
  intro zs fe
  have hz:zs=JR 1 (n:Int):=by
   rw[fe]
   show[1,(n:Int)%256,cn .i64 (n:Int) 8%256,cm .xor .u8 255 ((n:Int)%256),cm .xor .u8 255 (cn .i64 (n:Int) 8%256)]=_
   rw[e8,xQ (by omega),xQ (by omega)]
   rfl
  clear fe
  subst hz
  have Sn:(out++JR 1 (n:Int)).length=out.length+5:=by rw[List.length_append];rfl
  refine Qs ?_
  intro c2 NC
  refine Qs ?_
  intro ys sw
  have G0:ys=xs.drop o:=by
   rw[sw]
   exact List.take_of_length_le (by rw[List.length_drop,hn];exact Nat.le_refl _)
  clear sw
  subst G0
  refine Qs ?_
  intro c3 A2
  refine Qs ?_
  rw[TT,←List.append_assoc]at i5
  have hlen:(dA xs.length xs).length=out.length+5+n:=by
   rw[←i5,List.length_append,Sn,List.length_drop,hn]
  have h3:=h (g+1+1) c3 (by rw[hlen];exact A2)
  rw[hlen,←i5]at h3
  refine⟨[.e9 0,.own 1],.sl 1 (g+1+1) 0 (out.length+5+n) c3,[.one false 0 (.ints .u8 xs c),.one true (g+1+1) (.ints .u8 (out++JR 1 (n:Int)++xs.drop o) c3)],⟨⟨⟨rfl,_,rfl,rfl⟩,⟨rfl,rfl⟩,trivial⟩,rfl,⟨trivial,trivial,trivial⟩,rfl,fun i hi=>?_⟩,h3⟩
  match i,hi with
  |0,_=>exact .inr rfl
 ·have q1:¬min ((xs.length-o:Nat):Int) 65535=((xs.length-o:Nat):Int):=of_decide_eq_false q1
  have hlg:65535<xs.length-o:=by omega
  have Nt:min ((xs.length-o:Nat):Int) 65535=65535:=by omega
  obtain⟨k,rfl⟩:∃k',k=k'+1:=⟨k-1,by omega⟩
  rw[Nt]
  have e8:cn .i64 65535 8=(65535:Int)/256:=Sx (n:=65535)
  have TH:dA (k+1) (xs.drop o)=JR 0 65535++(xs.drop o).take 65535++dA k (xs.drop (o+65535)):=by
   rw[dA,if_neg (by rw[List.length_drop];omega),km,List.length_take,List.length_drop,Nat.min_eq_left (by omega),List.drop_drop]
   rfl
  have lY:((xs.drop o).take 65535).length=65535:=by rw[List.length_take,List.length_drop];omega
  have ho:cS (c0-o) 65535 o 1=o+65535:=by unfold cS;rw[if_neg (by omega)]
  refine Qs ?_
  intro zs fe
  have hz:zs=JR 0 (65535:Int):=by
   rw[fe]
   show[0,(65535:Int)%256,cn .i64 (65535:Int) 8%256,cm .xor .u8 255 ((65535:Int)%256),cm .xor .u8 255 (cn .i64 (65535:Int) 8%256)]=_
   rw[e8,xQ (by omega),xQ (by omega)]
   rfl
  clear fe
  subst hz
  have Sn:(out++JR 0 (65535:Int)).length=out.length+5:=by rw[List.length_append];rfl
  refine Qs ?_
  intro c2 NC
  refine Qs ?_
  intro ys sw
  have G0:ys=(xs.drop o).take 65535:=by rw[sw];rfl
  clear sw
  subst G0
  refine Qs ?_
  intro c3 A2
  refine Qs ?_
  rw[TH,←List.append_assoc,←List.append_assoc]at i5
  refine RO.same (k,o+65535,out++JR 0 65535++(xs.drop o).take 65535,g+1+1,c3) ⟨by omega,by omega,?_,?_,i5,by omega⟩ (Nat.lt_succ_self k) (aI ?_ (aI ?_ trivial)) (aI rfl (aI rfl (trivial)))
  ·rw[List.length_append,Sn,lY];exact A2
  ·rw[List.length_append,Sn,lY];omega
  ·show AV.sl 0 0 (cS (c0-o) 65535 o 1) (xs.length-o-65535) (c0-o-65535)=AV.sl 0 0 (o+65535) (xs.length-(o+65535)) (c0-(o+65535))
   rw[ho,Nat.sub_sub,Nat.sub_sub]
  ·show AV.sl 1 (g+1+1) 0 (out.length+5+65535) c3=AV.sl 1 (g+1+1) 0 (out++JR 0 65535++(xs.drop o).take 65535).length c3
   rw[List.length_append,Sn,lY]
end
end Go.Proofs.Ytibadaomjlkoaaa
open Go.RowKit
namespace Go.Proofs.Ytibadaomjlkoaaa
def re (l:List Int)(i:Nat):List Int:=l.set i (l.getD i 0+1)
theorem qm (l:List Int)(i:Nat):(re l i).length=l.length:=by unfold re;rw[List.length_set]
theorem qn (l:List Int)(i j:Nat):(re l i).getD j 0=l.getD j 0+if i=j∧i<l.length then 1 else 0:=by
 unfold re
 rw[iy]
 split
 ·rename_i h;rw[h.1]
 ·omega
def fA (l:List Int)(t:Tk):List Int:=re l (if t.l=0 then t.b.toNat else(aX t.l).1)
def fD (l:List Int)(t:Tk):List Int:=if t.l=0 then l else re l (aW (t.d-1) 2).1
def lI (ts:List Tk):List Int:=ts.foldl fA ((List.replicate 286 0).set 256 1)
def oK (ts:List Tk):List Int:=ts.foldl fD (List.replicate 30 0)
theorem JZ (l:List Tk){i:Nat}(h:i<l.length):lI (l.take (i+1))=fA (lI (l.take i)) (l.getD i default):=by
 rw[List.take_succ_eq_append_getElem h,List.getD_eq_getElem?_getD,List.getElem?_eq_getElem h]
 unfold lI
 rw[List.foldl_append];rfl
theorem JY (l:List Tk){i:Nat}(h:i<l.length):oK (l.take (i+1))=fD (oK (l.take i)) (l.getD i default):=by
 rw[List.take_succ_eq_append_getElem h,List.getD_eq_getElem?_getD,List.getElem?_eq_getElem h]
 unfold oK
 rw[List.foldl_append];rfl
theorem uO {f:List Int→Tk→List Int}(hf:∀l t,(f l t).length=l.length):∀(ts:List Tk)(l:List Int),(ts.foldl f l).length=l.length
 |[],l=>rfl
 |t::ts,l=>by rw[List.foldl_cons,uO hf ts,hf]
theorem Ka (l:List Int)(t:Tk):(fA l t).length=l.length:=qm _ _
theorem J8 (l:List Int)(t:Tk):(fD l t).length=l.length:=by unfold fD;split;rfl;exact qm _ _
theorem fC (ts:List Tk):(lI ts).length=286:=by unfold lI;rw[uO Ka,List.length_set,List.length_replicate]
theorem ij (ts:List Tk):(oK ts).length=30:=by unfold oK;rw[uO J8,List.length_replicate]
theorem mT {f:List Int→Tk→List Int}(hf:∀l t j,l.getD j 0≤(f l t).getD j 0∧(f l t).getD j 0≤l.getD j 0+1):∀(ts:List Tk)(l:List Int)(j:Nat),l.getD j 0≤(ts.foldl f l).getD j 0∧(ts.foldl f l).getD j 0≤l.getD j 0+ts.length
 |[],l,j=>⟨Int.le_refl _,by simp⟩
 |t::ts,l,j=>by
  have h1:=hf l t j
  have h2:=mT hf ts (f l t) j
  rw[List.foldl_cons,List.length_cons]
  omega
theorem mO (l:List Int)(i j:Nat):l.getD j 0≤(re l i).getD j 0∧(re l i).getD j 0≤l.getD j 0+1:=by
 rw[qn];split<;>omega
theorem CW (l:List Int)(t:Tk)(j:Nat):l.getD j 0≤(fA l t).getD j 0∧(fA l t).getD j 0≤l.getD j 0+1:=mO _ _ _
theorem J9 (l:List Int)(t:Tk)(j:Nat):l.getD j 0≤(fD l t).getD j 0∧(fD l t).getD j 0≤l.getD j 0+1:=by
 unfold fD;split
 ·omega
 ·exact mO _ _ _
theorem iQ (n j:Nat):(List.replicate n (0:Int)).getD j 0=0:=by
 rw[List.getD_eq_getElem?_getD,List.getElem?_replicate];split<;>rfl
theorem sR (ts:List Tk)(j:Nat):0≤(lI ts).getD j 0∧(lI ts).getD j 0≤1+ts.length:=by
 have h1:=mT CW ts ((List.replicate 286 0).set 256 1) j
 have h2:0≤((List.replicate 286 (0:Int)).set 256 1).getD j 0∧((List.replicate 286 (0:Int)).set 256 1).getD j 0≤1:=by
  rw[iy,iQ];split<;>decide
 unfold lI;omega
theorem yV (ts:List Tk)(j:Nat):0≤(oK ts).getD j 0∧(oK ts).getD j 0≤ts.length:=by
 have h1:=mT J9 ts (List.replicate 30 0) j
 rw[iQ]at h1
 unfold oK;omega
theorem NL (ts:List Tk):0<(lI ts).getD 256 0:=by
 have h1:=mT CW ts ((List.replicate 286 0).set 256 1) 256
 have h2:((List.replicate 286 (0:Int)).set 256 1).getD 256 0=1:=by decide
 unfold lI;omega
theorem uP {f:List Int→Tk→List Int}(hf:∀l t j,l.getD j 0≤(f l t).getD j 0∧(f l t).getD j 0≤l.getD j 0+1)(hl:∀l t,(f l t).length=l.length){t:Tk}{j:Nat}(hj:∀l,j<l.length→(f l t).getD j 0=l.getD j 0+1):∀(ts:List Tk)(l:List Int),t∈ts→j<l.length→0≤l.getD j 0→0<(ts.foldl f l).getD j 0
 |u::ts,l,h,AY,h0=>by
  rw[List.foldl_cons]
  rcases List.mem_cons.1 h with rfl|h
  ·have h1:=mT hf ts (f l t) j
   rw[hj l AY]at h1
   omega
  ·exact uP hf hl hj ts (f l u) h (by rw[hl];exact AY) (by have:=(hf l u j).1;omega)
theorem FL {ts:List Tk}{t:Tk}(h:t∈ts)(hj:(if t.l=0 then t.b.toNat else(aX t.l).1)<286):0<(lI ts).getD (if t.l=0 then t.b.toNat else(aX t.l).1) 0:=by
 obtain⟨j,Ze⟩:∃j,(if t.l=0 then t.b.toNat else(aX t.l).1)=j:=⟨_,rfl⟩
 rw[Ze]at hj⊢
 unfold lI
 refine uP CW Ka (fun l hl=>?_) ts _ h (by rw[List.length_set,List.length_replicate];exact hj) ?_
 ·unfold fA;rw[Ze,qn,if_pos ⟨rfl,hl⟩]
 ·rw[iy,iQ];split<;>omega
theorem NK {ts:List Tk}{t:Tk}(h:t∈ts)(hz:t.l≠0)(hj:(aW (t.d-1) 2).1<30):0<(oK ts).getD (aW (t.d-1) 2).1 0:=by
 unfold oK
 refine uP J9 J8 (fun l hl=>?_) ts _ h (by rw[List.length_replicate];exact hj) ?_
 ·unfold fD;rw[if_neg hz,qn,if_pos ⟨rfl,hl⟩]
 ·rw[iQ];decide
theorem K3 (fr:List Int):nF fr≤fr.length:=by
 unfold nF aC
 have:=List.length_filter_le (fun i=>decide (0<fr.getD i 0)) (List.range fr.length)
 rwa[List.length_range]at this
theorem iX {fr:List Int}(hl:fr.length≤286)(hb:∀j,0≤fr.getD j 0∧fr.getD j 0≤1000000){K:Nat}(X0:1≤K)(hK:K≤15)(hn:fr.length≤2^K):bm fr (K:Int)=(bw fr K,0)∧gY fr K (bw fr K):=by
 have vU:fr.any jk=false:=by
  rw[List.any_eq_false]
  intro x hx
  obtain⟨j,hj,rfl⟩:=List.getElem_of_mem hx
  have:=hb j
  rw[List.getD_eq_getElem?_getD,List.getElem?_eq_getElem hj,Option.getD_some]at this
  simp only[jk,Bool.or_eq_true,decide_eq_true_eq]
  omega
 have hle:vR fr (K:Int)=false:=by
  unfold vR
  rw[vU]
  simp only[Bool.or_false,Bool.or_eq_false_iff,decide_eq_false_iff_not]
  omega
 have hnf:=K3 fr
 refine⟨?_,MW vU (by omega) X0 hK (by omega)⟩
 unfold bm
 rw[hle,if_neg (by decide),if_neg (by rw[Int.toNat_natCast];show¬2^K<nF fr;omega),Int.toNat_natCast]
def rA:Nat→Nat→List Int→List Int
 |0,_,l=>l
 |k+1,n,l=>if n<l.length∧l.getD (l.length-1) 0=0 then rA k n (l.take (l.length-1))else l
theorem kH {n:Nat}:∀(k:Nat)(l:List Int),∃m,rA k n l=l.take m∧m≤l.length∧(n≤l.length→n≤m)∧∀j,m≤j→l.getD j 0=0
 |0,l=>⟨l.length,by rw[List.take_length];rfl,Nat.le_refl _,fun h=>h,fun j hj=>by rw[List.getD_eq_getElem?_getD,List.getElem?_eq_none hj];rfl⟩
 |k+1,l=>by
  simp only[rA]
  split
  ·rename_i hc
   obtain⟨m,h1,h2,h3,h4⟩:=kH k (l.take (l.length-1))
   have hl:(l.take (l.length-1)).length=l.length-1:=by rw[List.length_take];omega
   rw[hl]at h2 h3
   refine⟨m,by rw[h1,List.take_take,Nat.min_eq_left h2],by omega,fun _=>h3 (by omega),fun j hj=>?_⟩
   have:=h4 j hj
   rcases Nat.lt_trichotomy j (l.length-1)with h5|h5|h5
   ·rwa[dy h5]at this
   ·rw[h5];exact hc.2
   ·rw[List.getD_eq_getElem?_getD,List.getElem?_eq_none (by omega)];rfl
  ·exact⟨l.length,by rw[List.take_length],Nat.le_refl _,fun h=>h,fun j hj=>by rw[List.getD_eq_getElem?_getD,List.getElem?_eq_none hj];rfl⟩
theorem wq {l:List Int}{m:Nat}:∀i,i≤m→bB (l.take m) i=bB l i
 |0,_=>rfl
 |i+1,h=>by simp only[bB];rw[wq i (by omega),dy (by omega)]
theorem xI {l:List Int}{m:Nat}:∀i,i≤m→bY (l.take m) i=bY l i
 |0,_=>rfl
 |i+1,h=>by simp only[bY];rw[xI i (by omega),dy (by omega)]
theorem wo {l:List Int}{m:Nat}(hz:∀j,m≤j→l.getD j 0=0):∀k,bB l (m+k)=bB l m
 |0=>rfl
 |k+1=>by rw[←Nat.add_assoc,bB,wo hz k,hz (m+k) (by omega)];rfl
theorem xH {l:List Int}{m:Nat}(hz:∀j,m≤j→l.getD j 0=0):∀k,bY l (m+k)=bY l m
 |0=>rfl
 |k+1=>by rw[←Nat.add_assoc,bY,xH hz k,hz (m+k) (by omega)];rfl
theorem xC {l:List Int}{m:Nat}(hm:m≤l.length)(hz:∀j,m≤j→l.getD j 0=0)(he:aE l=0):aE (l.take m)=0:=by
 have hb:fW l=false:=by
  cases hb:fW l with
  |false=>rfl
  |true=>unfold aE at he;rw[hb]at he;cases he
 have kP:bF l=true:=by
  cases h:bF l with
  |true=>rfl
  |false=>unfold aE at he;rw[hb,h]at he;cases he
 have a9:(l.take m).length=m:=by rw[List.length_take];omega
 refine gF ?_ ?_
 ·unfold fW at hb⊢
  simp only[Bool.or_eq_false_iff,decide_eq_false_iff_not,List.any_eq_false]at hb⊢
  exact⟨by omega,fun x hx=>hb.2 x (List.mem_of_mem_take hx)⟩
 ·unfold bF at kP⊢
  rw[a9,wq m (Nat.le_refl m),xI m (Nat.le_refl m)]
  have e1:=wo hz (l.length-m)
  have e2:=xH hz (l.length-m)
  rw[show m+(l.length-m)=l.length by omega]at e1 e2
  rwa[e1,e2]at kP
theorem nY {l:List Int}{m:Nat}(hm:m≤l.length)(hz:∀j,m≤j→l.getD j 0=0){s:Int}(h:jw l s):jw (l.take m) s:=by
 obtain⟨a,b,c,d⟩:=h
 have hs:s.toNat<m:=by
  rcases Nat.lt_or_ge s.toNat m with h|h
  ·exact h
  ·rw[hz _ h]at c;omega
 have a9:(l.take m).length=m:=by rw[List.length_take];omega
 exact⟨a,by omega,by rw[dy hs];exact c,by rw[dy hs];exact d⟩
end Go.Proofs.Ytibadaomjlkoaaa
open Go.RowKit
namespace Go.Proofs.Ytibadaomjlkoaaa
set_option maxRecDepth 10000
section
variable{K Kp:AV→AH→Prop}{l:List Int}{c c0:Nat}
theorem Kd {n:Nat}(hl:l.length≤2000)(hc:l.length≤c0)(hn:n≤2000)(h:K (.sl 0 0 0 (rA l.length n l).length c0) [.one false 0 (.ints .u8 l c)]):
 aa Try.prog 73 [.sl 0 0 0 l.length c0,.int .i64 (n:Int)] [.one false 0 (.ints .u8 l c)] K Kp:=by
 refine PF (fun _=>[0]) [] rfl ?_
 refine Qs ?_
 refine WO.go (σ:=Nat) (fun m=>m≤l.length∧rA m n (l.take m)=rA l.length n l) (fun m=>m) (fun m=>[(0,.sl 0 0 0 m c0),(1,.int .i64 (n:Int))]) (fun _=>[.one false 0 (.ints .u8 l c)]) l.length ae mixed (by kernel_rfl)
  ⟨Nat.le_refl _,by rw[List.take_length]⟩ (aI rfl (aI rfl (trivial))) (aI rfl (trivial)) (fun _=>rfl) (fun _=>rfl) (fun _=>⟨trivial,trivial⟩) ?_
 rintro m ⟨i1,i2⟩ d
 have JA:(l.take m).length=m:=by rw[List.length_take];omega
 refine Qs ?_
 refine And.intro (fun q1=>?_) (fun q1=>?_)
 ·have hm:n<m:=by have q1:(n:Int)<(m:Int):=of_decide_eq_true q1;omega
  obtain⟨k,rfl⟩:∃k,m=k+1:=⟨m-1,by omega⟩
  have e1:((k+1:Nat):Int)-1=(k:Int):=by omega
  rw[rA,JA]at i2
  refine Qs ?_
  refine And.intro (fun q2=>?_) (fun q2=>?_)
  ·have q2:l.getD ((((k+1:Nat):Int)-1).toNat+0) 0=0:=of_decide_eq_true q2
   rw[e1,Int.toNat_natCast,Nat.add_zero]at q2
   rw[if_pos ⟨hm,by rw[Nat.add_sub_cancel,dy (Nat.lt_succ_self k)];exact q2⟩,Nat.add_sub_cancel,List.take_take,Nat.min_eq_left (by omega)]at i2
   refine Qs ?_
   refine RO.same k ⟨by omega,i2⟩ (Nat.lt_succ_self k) (aI ?_ (aI rfl trivial)) (aI rfl (trivial))
   show AV.sl 0 0 0 (((k+1:Nat):Int)-1).toNat c0=AV.sl 0 0 0 k c0
   rw[e1,Int.toNat_natCast]
  ·have q2:¬l.getD ((((k+1:Nat):Int)-1).toNat+0) 0=0:=of_decide_eq_false q2
   rw[e1,Int.toNat_natCast,Nat.add_zero]at q2
   rw[if_neg (fun x=>q2 (by have:=x.2;rwa[Nat.add_sub_cancel,dy (Nat.lt_succ_self k)]at this))]at i2
   rw[←i2,JA]at h
   refine Qs ?_
   exact h
 ·have hm:¬n<m:=by have q1:¬(n:Int)<(m:Int):=of_decide_eq_false q1;omega
  have hR:rA m n (l.take m)=l.take m:=by
   cases m with
   |zero=>rfl
   |succ k=>rw[rA,if_neg (fun x=>hm (by rw[JA]at x;exact x.1))]
  rw[hR]at i2
  rw[←i2,JA]at h
  refine Qs ?_
  exact h
theorem Ke {M:AH}{i g co n k:Nat}{o:Bool}(hi:M[i]?=some (.one o g (.ints .u8 l co)))(hk:k=l.length)(hl:l.length≤2000)(hc:l.length≤c0)(hn:n≤2000)(h:K (.sl i g 0 (rA l.length n l).length c0) M):
 aa Try.prog 73 [.sl i g 0 k c0,.int .i64 (n:Int)] M K Kp:=by
 subst hk
 refine aa.lift [.eI i g 0] (Kd (l:=l) (c:=co) (c0:=c0) (n:=n) (K:=fun r N=>r=.sl 0 0 0 (rA l.length n l).length c0∧N=[.one false 0 (.ints .u8 l co)]) (Kp:=fun _ _=>False) hl hc hn ⟨rfl,rfl⟩) rfl rfl ⟨⟨_,_,_,rfl,ak hi,eG.same rfl (fun h=>h)⟩,trivial⟩ ⟨trivial,trivial⟩ ?_ (fun _ _ h=>h.elim)
 rintro r M' ⟨rfl,rfl⟩
 refine⟨⟨rfl,rfl⟩,?_⟩
 rw[←List.append_nil M]at h
 exact h
end
end Go.Proofs.Ytibadaomjlkoaaa
open Go.RowKit
namespace Go.Proofs.Ytibadaomjlkoaaa
set_option maxRecDepth 10000
structure Oa (t:Tk):Prop where
 one:t.l=0→0≤t.b∧t.b<256
 rep:t.l≠0→3≤t.l∧t.l≤258∧1≤t.d∧t.d≤32768
def eW (ts:List Tk):List Int:=rA 286 257 (bw (lI ts) 15)
def eV (ts:List Tk):List Int:=rA 30 1 (bw (oK ts) 15)
section
variable{K Kp:AV→AH→Prop}{ts:List Tk}{gt ct:Nat}
theorem Ks {g c:Nat}{X Y:af}(hX:X.nb 7)(hY:Y.nb 7):mi 7 (gq (dX ts gt ct [] 0 0 [] 0 0) [] g c++[AO.one true 0 X,AO.one true 0 Y]):=⟨rfl,trivial,fun j=>rfl,trivial,trivial,hX,hY,trivial⟩
theorem HB {g0 c0:Nat}(lX:∀t∈ts,Oa t)(lY:ts.length≤150000)(A0:ts.length≤ct)
 (h:∀ga ca gd cd,(eW ts).length≤ca→(eV ts).length≤cd→K (.aL []) (gq (dX ts gt ct (eW ts) ga ca (eV ts) gd cd) [] g0 c0)):
 aa Try.prog 44 [.ptr 0 0 0] (w3 ts gt ct g0 c0) K Kp:=by
 obtain⟨Zw,Oo⟩:=iX (fr:=lI ts) (by rw[fC];decide) (fun j=>by have:=sR ts j;omega) (K:=15) (by decide) (by decide) (by rw[fC];decide)
 obtain⟨Zv,R4⟩:=iX (fr:=oK ts) (by rw[ij];decide) (fun j=>by have:=yV ts j;omega) (K:=15) (by decide) (by decide) (by rw[ij];decide)
 have Rc:(bw (lI ts) 15).length=286:=by rw[Oo.len,fC]
 have Wb:(bw (oK ts) 15).length=30:=by rw[R4.len,ij]
 rw[show((15:Nat):Int)=15 from rfl]at Zw Zv
 obtain⟨mA,hA,TO,_,_⟩:=kH (n:=257) 286 (bw (lI ts) 15)
 obtain⟨mD,hD,Sg,_,_⟩:=kH (n:=1) 30 (bw (oK ts) 15)
 have JV:eW ts=(bw (lI ts) 15).take mA:=hA
 have Wp:eV ts=(bw (oK ts) 15).take mD:=hD
 refine aa.cU ?_
 refine aa.fi ?_
 refine aa.view EC ?_
 refine PV (fun _=>[0]) [] rfl ?_
 refine Qs ?_
 refine WO.go (σ:=Nat) (fun i=>i≤ts.length) (fun i=>ts.length-i)
  (fun i=>[(0,.ptr 0 0 0),(2,.sl 5 0 0 286 286),(3,.sl 6 0 0 30 30),(14,.sl 2 gt 0 ts.length ct),(15,.int .i64 (ts.length:Int)),(16,.int .i64 (i:Int))])
  (fun i=>gq (dX ts gt ct [] 0 0 [] 0 0) [] g0 c0++[AO.one true 0 (.ints .i64 (lI (ts.take i)) 286),AO.one true 0 (.ints .i64 (oK (ts.take i)) 30)]) 0 ae mixed (by kernel_rfl) (Nat.zero_le _) (aI rfl (aI rfl (aI rfl (aI rfl (aI rfl (aI rfl (trivial))))))) (aI rfl (aI rfl (aI rfl (aI rfl (aI rfl (aI rfl (aI rfl (trivial)))))))) (fun _=>rfl) (fun _=>rfl) (fun _=>Ks trivial trivial) ?_
 intro i i1 d
 have i1:i≤ts.length:=i1
 have zu:=fC (ts.take i)
 have OH:=ij (ts.take i)
 refine Qs ?_
 refine And.intro (fun q1=>?_) (fun q1=>?_)
 ·have jq:i<ts.length:=by have q1:(i:Int)<(ts.length:Int):=of_decide_eq_true q1;omega
  have ic:ts.getD i default∈ts:=by
   rw[List.getD_eq_getElem?_getD,List.getElem?_eq_getElem jq];exact List.getElem_mem _
  have W2:=JZ ts jq
  have W0:=JY ts jq
  have hr:=lX _ ic
  obtain⟨t,ht⟩:∃t,ts.getD i default=t:=⟨_,rfl⟩
  rw[ht]at ic W2 W0 hr
  refine Qs ?_
  refine And.intro (fun q2=>?_) (fun q2=>?_)
  ·have q2:((ts.getD i default).l:Int)=0:=of_decide_eq_true q2
   rw[ht]at q2
   have hz:t.l=0:=by omega
   have hb:=hr.one hz
   have Wf:0≤(ts.getD (i:Int).toNat default).b∧(ts.getD (i:Int).toNat default).b<256:=by
    show 0≤(ts.getD i default).b∧(ts.getD i default).b<256
    rw[ht];exact hb
   have hbd:0≤(lI (ts.take i)).getD ((ts.getD (i:Int).toNat default).b.toNat+0) 0∧(lI (ts.take i)).getD ((ts.getD (i:Int).toNat default).b.toNat+0) 0≤200000:=by
    have:=sR (ts.take i) ((ts.getD (i:Int).toNat default).b.toNat+0)
    have h2:=List.length_take_le i ts
    omega
   have E:lI (ts.take (i+1))=(lI (ts.take i)).set ((ts.getD (i:Int).toNat default).b.toNat+0) ((lI (ts.take i)).getD ((ts.getD (i:Int).toNat default).b.toNat+0) 0+1):=by
    rw[W2];unfold fA re;rw[if_pos hz]
    show _=(lI (ts.take i)).set ((ts.getD i default).b.toNat+0) ((lI (ts.take i)).getD ((ts.getD i default).b.toNat+0) 0+1)
    rw[ht];rfl
   have E2:oK (ts.take (i+1))=oK (ts.take i):=by rw[W0];unfold fD;rw[if_pos hz]
   refine Qs ?_
   refine RO.same (i+1) jq (Nat.sub_lt_sub_left jq (Nat.lt_succ_self i)) (aI rfl (aI rfl (aI rfl (aI rfl (aI rfl (aI rfl (trivial))))))) (aI rfl (aI rfl (aI rfl (aI rfl (aI rfl (aI (congrArg (fun l=>AO.one true 0 (.ints .i64 l 286)) E) (aI (congrArg (fun l=>AO.one true 0 (.ints .i64 l 30)) E2) trivial)))))))
  ·have q2:¬((ts.getD i default).l:Int)=0:=of_decide_eq_false q2
   rw[ht]at q2
   have hz:¬t.l=0:=by omega
   obtain⟨m1,m2,m3,m4⟩:=hr.rep hz
   have kQ:3≤(ts.getD (i:Int).toNat default).l∧(ts.getD (i:Int).toNat default).l≤258:=by
    show 3≤(ts.getD i default).l∧(ts.getD i default).l≤258
    rw[ht];exact⟨m1,m2⟩
   have NA:1≤(ts.getD (i:Int).toNat default).d∧(ts.getD (i:Int).toNat default).d≤32768:=by
    show 1≤(ts.getD i default).d∧(ts.getD i default).d≤32768
    rw[ht];exact⟨m3,m4⟩
   obtain⟨l1,l2,l3,l4,_⟩:=fk kQ
   obtain⟨f1,f2,f3,_⟩:=fT (v:=(ts.getD (i:Int).toNat default).d-1) (.inl rfl) (by omega)
   have a9:aX (ts.getD (i:Int).toNat default).l=aX t.l:=by rw[←ht];rfl
   have Nx:aW ((ts.getD (i:Int).toNat default).d-1) 2=aW (t.d-1) 2:=by rw[←ht];rfl
   have ed:(((ts.getD (i:Int).toNat default).d:Nat):Int)-1=(((ts.getD (i:Int).toNat default).d-1:Nat):Int):=by omega
   refine Qs ?_
   refine u1 kQ ?_
   obtain⟨S,hS⟩:∃S,(aX (ts.getD (i:Int).toNat default).l).1=S:=⟨_,rfl⟩
   rw[hS]at l3 l4⊢
   have hbd:0≤(lI (ts.take i)).getD ((S:Int).toNat+0) 0∧(lI (ts.take i)).getD ((S:Int).toNat+0) 0≤200000:=by
    have:=sR (ts.take i) ((S:Int).toNat+0)
    have h2:=List.length_take_le i ts
    omega
   refine Qs ?_
   rw[ed]
   refine yZ (by omega) (.inl rfl) ?_
   obtain⟨T,hT⟩:∃T,(aW ((ts.getD (i:Int).toNat default).d-1) 2).1=T:=⟨_,rfl⟩
   rw[hT]at f3⊢
   have aaf:0≤(oK (ts.take i)).getD ((T:Int).toNat+0) 0∧(oK (ts.take i)).getD ((T:Int).toNat+0) 0≤200000:=by
    have:=yV (ts.take i) ((T:Int).toNat+0)
    have h2:=List.length_take_le i ts
    omega
   have E:lI (ts.take (i+1))=(lI (ts.take i)).set ((S:Int).toNat+0) ((lI (ts.take i)).getD ((S:Int).toNat+0) 0+1):=by
    rw[W2];unfold fA re;rw[if_neg hz,←a9,hS];rfl
   have E2:oK (ts.take (i+1))=(oK (ts.take i)).set ((T:Int).toNat+0) ((oK (ts.take i)).getD ((T:Int).toNat+0) 0+1):=by
    rw[W0];unfold fD re;rw[if_neg hz,←Nx,hT];rfl
   refine Qs ?_
   refine RO.same (i+1) jq (Nat.sub_lt_sub_left jq (Nat.lt_succ_self i)) (aI rfl (aI rfl (aI rfl (aI rfl (aI rfl (aI rfl (trivial))))))) (aI rfl (aI rfl (aI rfl (aI rfl (aI rfl (aI (congrArg (fun l=>AO.one true 0 (.ints .i64 l 286)) E) (aI (congrArg (fun l=>AO.one true 0 (.ints .i64 l 30)) E2) trivial)))))))
 ·have TY:i=ts.length:=by have q1:¬(i:Int)<(ts.length:Int):=of_decide_eq_false q1;omega
  subst TY
  rw[List.take_length]
  rw[List.take_length]at zu OH
  refine Qs ?_
  refine o8 (i:=5) (fr:=lI ts) rfl zu.symm (by rw[zu];decide) fun g5 c5 He=>?_
  rw[Zw]at He⊢
  refine Qs ?_
  refine o8 (i:=6) (fr:=oK ts) rfl OH.symm (by rw[OH];decide) fun g6 c6 Hd=>?_
  rw[Zv]at Hd⊢
  refine Qs ?_
  refine Ke (i:=7) (l:=bw (lI ts) 15) (n:=257) rfl rfl (by rw[Rc];decide) He (by decide) ?_
  rw[Rc,hA]
  refine Qs ?_
  refine Ke (i:=8) (l:=bw (oK ts) 15) (n:=1) rfl rfl (by rw[Wb];decide) Hd (by decide) ?_
  rw[Wb,hD]
  refine Qs ?_
  have He:(bw (lI ts) 15).length≤c5:=He
  have Hd:(bw (oK ts) 15).length≤c6:=Hd
  have h3:=h g5 c5 g6 c6 (by rw[JV,List.length_take];omega) (by rw[Wp,List.length_take];omega)
  rw[JV,Wp]at h3
  refine⟨.aL [],_,Vw.trans (Vw.short (i:=7) (g:=g5) (c:=c5) (k:=.u8) (n:=mA) (xs:=bw (lI ts) 15) rfl) (Vw.short (i:=8) (g:=g6) (c:=c6) (k:=.u8) (n:=mD) (xs:=bw (oK ts) 15) rfl),[.own 0,.own 1,.own 2,.own 7,.own 8],.aL [],gq (dX ts gt ct ((bw (lI ts) 15).take mA) g5 c5 ((bw (oK ts) 15).take mD) g6 c6) [] g0 c0,⟨⟨⟨rfl,rfl⟩,⟨rfl,rfl⟩,⟨rfl,rfl⟩,⟨rfl,rfl⟩,⟨rfl,rfl⟩,trivial⟩,rfl,⟨rfl,trivial,fun j=>rfl,trivial,trivial,trivial⟩,rfl,fun i hi=>?_⟩,h3⟩
  match i,hi with
  |0,_=>exact .inl rfl
  |1,_=>exact .inl rfl
  |2,_=>exact .inl rfl
end
end Go.Proofs.Ytibadaomjlkoaaa
open Go.RowKit
namespace Go.Proofs.Ytibadaomjlkoaaa
set_option maxRecDepth 10000
theorem yx {k:Nat}{lv:List (Nat×AV)}{d:Nat→Value}(h:I1 k lv=true):∀t,(lS lv d t).nb k=true:=by
 intro t
 simp only[lS]
 split
 ·rename_i v hv
  exact nK h hv
 ·rfl
def runN (l:List Int)(i:Nat):Nat→Nat→Nat
 |0,n=>n
 |k+1,n=>if i+n<l.length∧l.getD (i+n) 0=l.getD i 0 then runN l i k (n+1)else n
theorem nC (l:List Int)(i:Nat):∀k n,i+n≤l.length→n≤runN l i k n∧i+runN l i k n≤l.length
 |0,n,h=>⟨Nat.le_refl _,h⟩
 |k+1,n,h=>by
  simp only[runN]
  split
  ·rename_i hc;have:=nC l i k (n+1) (by omega);omega
  ·omega
theorem EV (l:List Int)(i:Nat):∀k n,(∀j,j<n→l.getD (i+j) 0=l.getD i 0)→∀j,j<runN l i k n→l.getD (i+j) 0=l.getD i 0
 |0,n,h,j,hj=>h j hj
 |k+1,n,h,j,hj=>by
  simp only[runN]at hj
  split at hj
  ·rename_i hc
   refine EV l i k (n+1) (fun m hm=>?_) j hj
   rcases(show m<n∨m=n by omega)with h1|rfl
   ·exact h m h1
   ·exact hc.2
  ·exact h j hj
def az (l:List Int)(i n:Nat):(Nat×Nat×Nat)×Nat:=
 if l.getD i 0=0∧11≤n then((18,min n 138-11,7),min n 138)
 else if l.getD i 0=0∧3≤n then((17,n-3,3),n)
 else if 0<i∧l.getD (i-1) 0=l.getD i 0∧3≤n then((16,min n 6-3,2),min n 6)
 else(((l.getD i 0).toNat,0,0),1)
def cQ (l:List Int):Nat→Nat→List (Nat×Nat×Nat)
 |0,_=>[]
 |k+1,i=>if i<l.length then(az l i (runN l i l.length 1)).1::cQ l k (i+(az l i (runN l i l.length 1)).2)else[]
def bl (l:List Int):List (Nat×Nat×Nat):=cQ l l.length 0
theorem p7 (l:List Int)(i n:Nat)(h:1≤n):1≤(az l i n).2∧(az l i n).2≤n:=by
 unfold az
 split
 ·simp only;omega
 ·split
  ·simp only;omega
  ·split
   ·simp only;omega
   ·simp only;omega
theorem tI (l:List Int):∀(k k' i:Nat),l.length≤i+k→l.length≤i+k'→cQ l k i=cQ l k' i
 |0,0,i,_,_=>rfl
 |0,k'+1,i,h,_=>by simp only[cQ];rw[if_neg (by omega)]
 |k+1,0,i,_,h=>by simp only[cQ];rw[if_neg (by omega)]
 |k+1,k'+1,i,h1,h2=>by
  simp only[cQ]
  split
  ·rename_i hc
   have:=nC l i l.length 1 (by omega)
   have:=p7 l i (runN l i l.length 1) this.1
   rw[tI l k k' _ (by omega) (by omega)]
  ·rfl
theorem oW {l:List Int}{i:Nat}(h:i<l.length):cQ l (l.length-i) i=(az l i (runN l i l.length 1)).1::cQ l (l.length-(i+(az l i (runN l i l.length 1)).2)) (i+(az l i (runN l i l.length 1)).2):=by
 have h1:=nC l i l.length 1 (by omega)
 have h2:=p7 l i (runN l i l.length 1) h1.1
 rw[show l.length-i=(l.length-(i+1))+1 by omega]
 simp only[cQ]
 rw[if_pos h,tI l _ (l.length-(i+(az l i (runN l i l.length 1)).2)) _ (by omega) (by omega)]
theorem Iu {l:List Int}(hl:∀x∈l,0≤x∧x<16){i n:Nat}(hi:i<l.length):(az l i n).1.1<19∧(az l i n).1.2.1<2^(az l i n).1.2.2∧(az l i n).1.2.2≤7:=by
 have hb:=hl (l.getD i 0) (by rw[List.getD_eq_getElem?_getD,List.getElem?_eq_getElem hi];exact List.getElem_mem _)
 unfold az
 split
 ·refine⟨by show 18<19;decide,?_,by show 7≤7;decide⟩
  show min n 138-11<128;omega
 ·rename_i h1
  split
  ·rename_i h2
   refine⟨by show 17<19;decide,?_,by show 3≤7;decide⟩
   show n-3<8;omega
  ·split
   ·refine⟨by show 16<19;decide,?_,by show 2≤7;decide⟩
    show min n 6-3<4;omega
   ·refine⟨?_,by show 0<2^0;decide,by show 0≤7;decide⟩
    show(l.getD i 0).toNat<19;omega
section
variable{K Kp:AV→AH→Prop}{ts:List Tk}{gt ct:Nat}{A:List Int}{ga ca:Nat}{D:List Int}{gd cd:Nat}{row:List Bool}{g c:Nat}
def vB (ts:List Tk)(gt ct:Nat)(A:List Int)(ga ca:Nat)(D:List Int)(gd cd:Nat)(row:List Bool)(g c:Nat):AH:=
 [.one true 0 (.cells [.sl 1 g 0 (aP row).length c,.int .u32 (num (rest row)),.int .i64 ((row.length%8:Nat):Int),.sl 2 gt 0 ts.length ct,.sl 4 ga 0 A.length ca,.sl 5 gd 0 D.length cd]),
  .one true g (.ints .u8 (aP row) c),.one true gt (jn ts ct),.one true 0 (.cells [.ptr 0 0 0]),.one true ga (.ints .u8 A ca),.one true gd (.ints .u8 D cd)]
theorem Ls (E:AH){v n:Int}(hv:0≤v)(hr:row.length≤8388608)(hc:(aP row).length≤c)
 (h:∀g' c',(aP (jt row v n).1).length≤c'→K (.int .i64 (jt row v n).2) (vB ts gt ct A ga ca D gd cd (jt row v n).1 g' c'++E)):
 aa Try.prog 40 [.ptr 0 0 0,.int .u32 v,.int .i64 n] (vB ts gt ct A ga ca D gd cd row g c++E) K Kp:=by
 refine aa.lift [.own 0,.own 1,.own 2,.own 4,.own 5] (wI (X:=dX ts gt ct A ga ca D gd cd) (row:=row) (v:=v) (n:=n) (g:=g) (c:=c) (Kp:=fun _ _=>False) hv hr hc) rfl rfl ⟨⟨rfl,rfl⟩,⟨rfl,rfl⟩,⟨rfl,rfl⟩,⟨rfl,rfl⟩,⟨rfl,rfl⟩,trivial⟩ ⟨rfl,trivial,fun j=>rfl,trivial,trivial,trivial⟩ ?_ (fun _ _ h=>h.elim)
 rintro r M' ⟨g',c',rfl,rfl,h1,h2⟩
 refine⟨⟨rfl,rfl,rfl,rfl,rfl,rfl⟩,?_⟩
 have h3:=h g' c' h1
 rw[←List.append_nil (vB _ _ _ _ _ _ _ _ _ _ _ _++E)]at h3
 exact h3
theorem Ki (E:AH)(i j:Nat){o o2:Bool}{L:List Int}{g5 co c3 g6 dE c4 s k:Nat}{ex:Int}(hi:E[i]?=some (.one o g5 (.ints .u16 (ay L).1 co)))(hj:E[j]?=some (.one o2 g6 (.ints .u8 L dE)))(he:aE L=0)(hs:jw L (s:Int))(hk:k≤24)(hex:0≤ex∧ex<2^k)(hr:row.length+15+k≤8388608)(hc:(aP row).length≤c)
 (pG:(bL [.own 0,.own 1,.own 2,.own 4,.own 5,.eI (i+6) g5 0,.eI (j+6) g6 0]&&AV.pE [.own 0,.own 1,.own 2,.own 4,.own 5,.eI (i+6) g5 0,.eI (j+6) g6 0] [.ptr 0 0 0,.sl 5 0 0 (ay L).1.length c3,.sl 6 0 0 L.length c4,.agg [.int .i64 (s:Int),.int .i64 ex,.int .i64 (k:Int)]])=true)
 (h:∀g' c',(aP (row++(aQ L s++bitsOf ex k))).length≤c'→K (.aL []) (vB ts gt ct A ga ca D gd cd (row++(aQ L s++bitsOf ex k)) g' c'++E)):
 aa Try.prog 48 [.ptr 0 0 0,.sl (i+6) g5 0 (ay L).1.length c3,.sl (j+6) g6 0 L.length c4,.agg [.int .i64 (s:Int),.int .i64 ex,.int .i64 (k:Int)]] (vB ts gt ct A ga ca D gd cd row g c++E) K Kp:=by
 have h2:s<L.length:=by have:=hs.2.1;omega
 have rq:=hs.2.2
 rw[Int.toNat_natCast]at rq
 have Uk:0≤L.getD s 0∧L.getD s 0<256:=by omega
 obtain⟨vy,ig⟩:=pP he hs
 rw[Int.toNat_natCast]at vy ig
 have hp:=lp (show(L.getD s 0).toNat≤15 by omega)
 have Ss:=lp hk
 have ZC:(2:Int)^15=32768:=by decide
 have ZB:(2:Int)^24=16777216:=by decide
 replace ig:(ay L).1.getD s 0<65536:=by omega
 have JO:0≤ex∧ex<4294967296:=by omega
 refine aa.lift [.own 0,.own 1,.own 2,.own 4,.own 5,.eI (i+6) g5 0,.eI (j+6) g6 0] (Hy (ts:=ts) (gt:=gt) (ct:=ct) (A:=A) (ga:=ga) (ca:=ca) (D:=D) (gd:=gd) (cd:=cd) (row:=row) (g:=g) (c:=c) (cs:=(ay L).1) (ls:=L) (c2:=dE) (c4:=c4) (c1:=co) (c3:=c3) (s:=s) (ex:=ex) (n:=(k:Int))
  (K:=fun r N=>∃g' c',r=.aL []∧N=gq (dX ts gt ct A ga ca D gd cd) (codeF row (ay L).1 L s ex (k:Int)) g' c'++[.one false 0 (.ints .u16 (ay L).1 co),.one false 0 (.ints .u8 L dE)]∧(aP (codeF row (ay L).1 L s ex (k:Int))).length≤c') (Kp:=fun _ _=>False)
  (by rw[(iF he).2];exact h2) h2 ⟨vy,ig⟩ Uk JO (by omega) hc (fun g' c' h1 _=>⟨g',c',rfl,rfl,h1⟩)) rfl pG ⟨⟨rfl,rfl⟩,⟨rfl,rfl⟩,⟨rfl,rfl⟩,⟨rfl,rfl⟩,⟨rfl,rfl⟩,⟨_,_,_,rfl,ak hi,eG.same rfl (fun h=>h)⟩,⟨_,_,_,rfl,ak hj,eG.same rfl (fun h=>h)⟩,trivial⟩ ⟨rfl,trivial,fun j=>rfl,trivial,trivial,trivial,trivial,trivial⟩ ?_ (fun _ _ h=>h.elim)
 rintro r M' ⟨g',c',rfl,rfl,h1⟩
 refine⟨⟨rfl,rfl,rfl,rfl,rfl,rfl,rfl,rfl⟩,?_⟩
 rw[kI he hs hk hex.2 hr]at h1
 have h3:=h g' c' h1
 rw[←kI he hs hk hex.2 hr,←List.append_nil (vB _ _ _ _ _ _ _ _ _ _ _ _++E)]at h3
 exact h3
theorem C2 {M:AH}{p q0 q1 g0 g1:Nat}{x0 x1:List Int}{c0 c1 d0 d1:Nat}{o0 o1:Bool}(hl:1≤x0.length+x1.length∧x0.length+x1.length≤1000000)
 (hp:M[p]?=some (.one true 0 (.cells [.sl q0 g0 0 x0.length c0,.sl q1 g1 0 x1.length c1])))
 (h0:M[q0]?=some (.one o0 g0 (.ints .u8 x0 d0)))(h1:M[q1]?=some (.one o1 g1 (.ints .u8 x1 d1)))
 (h:∀g c,x0.length+x1.length≤c→K (.sl M.length g 0 (x0++x1).length c) (M++[.one true g (.ints .u8 (x0++x1) c)])):
 aa Try.prog 41 [.sl p 0 0 2 2] M K Kp:=by
 refine aa.lift [.e9 p,.eI q0 g0 0,.eI q1 g1 0] (y7 (xs:=x0) (ys:=x1) (c1:=c0) (c2:=c1) (d1:=d0) (d2:=d1)
  (K:=fun r N=>∃g c,x0.length+x1.length≤c∧r=.sl 3 g 0 (x0++x1).length c∧N=[.one false 0 (.cells [.sl 1 0 0 x0.length c0,.sl 2 0 0 x1.length c1]),.one false 0 (.ints .u8 x0 d0),.one false 0 (.ints .u8 x1 d1),.one true g (.ints .u8 (x0++x1) c)])
  (Kp:=fun _ _=>False) hl (fun g c hc=>⟨g,c,hc,rfl,rfl⟩)) rfl rfl ⟨⟨rfl,_,hp,?_⟩,⟨_,_,_,rfl,ak h0,eG.same rfl (fun h=>h)⟩,⟨_,_,_,rfl,ak h1,eG.same rfl (fun h=>h)⟩,trivial⟩ ⟨rfl,trivial,trivial,trivial⟩ ?_ (fun _ _ h=>h.elim)
 ·simp[AO.rn,AO.ro,af.rn,AV.rM,AV.rn,zp,Cb,Cc,TE.i]
 rintro r M' ⟨g,c,hc,rfl,rfl⟩
 exact⟨⟨rfl,rfl,rfl,rfl⟩,h g c hc⟩
end
end Go.Proofs.Ytibadaomjlkoaaa
