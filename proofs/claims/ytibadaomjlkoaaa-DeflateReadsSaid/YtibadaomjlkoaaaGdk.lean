import Derived.Test.YtibadaomjlkoaaaGdj
import Derived.Test.YtibadaomjlkoaaaGdf
set_option linter.unusedVariables false
set_option linter.unusedSimpArgs false
open Go.RowKit
namespace Go.Proofs.Ytibadaomjlkoaaa
set_option maxRecDepth 10000
section
variable{K Kp:AV→AH→Prop}
theorem EU {M:AH}{p q0 q1 q2 q3:Nat}{x0 x1 x2 x3:List Int}{c0 c1 c2 c3 d0 d1 d2 d3:Nat}(hl:1≤x0.length+x1.length+x2.length+x3.length∧x0.length+x1.length+x2.length+x3.length≤1000000)
 (hp:M[p]?=some (.one true 0 (.cells [.sl q0 0 0 x0.length c0,.sl q1 0 0 x1.length c1,.sl q2 0 0 x2.length c2,.sl q3 0 0 x3.length c3])))
 (h0:M[q0]?=some (.one true 0 (.ints .u8 x0 d0)))(h1:M[q1]?=some (.one true 0 (.ints .u8 x1 d1)))(h2:M[q2]?=some (.one true 0 (.ints .u8 x2 d2)))(h3:M[q3]?=some (.one true 0 (.ints .u8 x3 d3)))
 (h:∀g c,x0.length+x1.length+x2.length+x3.length≤c→K (.sl M.length g 0 (x0++x1++x2++x3).length c) (M++[.one true g (.ints .u8 (x0++x1++x2++x3) c)])):
 aa Try.prog 41 [.sl p 0 0 4 4] M K Kp:=by
 refine aa.lift [.dE p,.dE q0,.dE q1,.dE q2,.dE q3] (AZ (x0:=x0) (x1:=x1) (x2:=x2) (x3:=x3) (c0:=c0) (c1:=c1) (c2:=c2) (c3:=c3) (d0:=d0) (d1:=d1) (d2:=d2) (d3:=d3)
  (K:=fun r N=>∃g c,x0.length+x1.length+x2.length+x3.length≤c∧r=.sl 5 g 0 (x0++x1++x2++x3).length c∧N=[.one false 0 (.cells [.sl 1 0 0 x0.length c0,.sl 2 0 0 x1.length c1,.sl 3 0 0 x2.length c2,.sl 4 0 0 x3.length c3]),.one false 0 (.ints .u8 x0 d0),.one false 0 (.ints .u8 x1 d1),.one false 0 (.ints .u8 x2 d2),.one false 0 (.ints .u8 x3 d3),.one true g (.ints .u8 (x0++x1++x2++x3) c)])
  (Kp:=fun _ _=>False) hl (fun g c hc=>⟨g,c,hc,rfl,rfl⟩)) rfl rfl ⟨⟨rfl,_,hp,rfl⟩,⟨rfl,_,h0,rfl⟩,⟨rfl,_,h1,rfl⟩,⟨rfl,_,h2,rfl⟩,⟨rfl,_,h3,rfl⟩,trivial⟩ ⟨rfl,trivial,trivial,trivial,trivial,trivial⟩ ?_ (fun _ _ h=>h.elim)
 rintro r M' ⟨g,c,hc,rfl,rfl⟩
 exact⟨⟨rfl,rfl,rfl,rfl,rfl,rfl⟩,h g c hc⟩
variable{ts:List Tk}{gt ct:Nat}
theorem Mn:bG.length=288:=by decide+kernel
theorem Jz:∀x∈bG,0≤x∧x<256:=by decide+kernel
theorem Jy:∀x∈dC,0≤x∧x<256:=by decide+kernel
def w3 (ts:List Tk)(gt ct g c:Nat):AH:=[.one true 0 (.cells [.sl 1 g 0 0 c,.int .u32 0,.int .i64 0,.sl 2 gt 0 ts.length ct,.ns,.ns]),.one true g (.ints .u8 [] c),.one true gt (pH ts ct)]
def w4 (ts:List Tk)(gt ct g c:Nat):AH:=[.one true 0 (.cells [.sl 1 g 0 0 c,.int .u32 0,.int .i64 0,.sl 2 gt 0 ts.length ct,.sl 3 0 0 0 0,.ns]),.one true g (.ints .u8 [] c),.one true gt (pH ts ct),.one true 0 (.ints .u8 [] 0)]
theorem GK {g c:Nat}{l:List AV}:Vw (w3 ts gt ct g c) (ic (dX ts gt ct [] 0 0 [] 0 0) [] g c) l l:=by
 have v1:Vw (w3 ts gt ct g c) (w4 ts gt ct g c) l l:=Vw.ghost (M:=w3 ts gt ct g c) (i:=0) (g:=0) (k:=4) (cs:=[.sl 1 g 0 0 c,.int .u32 0,.int .i64 0,.sl 2 gt 0 ts.length ct,.ns,.ns]) (x:=.ints .u8 [] 0) rfl rfl ⟨rfl,rfl⟩
 have v2:Vw (w4 ts gt ct g c) (ic (dX ts gt ct [] 0 0 [] 0 0) [] g c) l l:=Vw.ghost (M:=w4 ts gt ct g c) (i:=0) (g:=0) (k:=5) (cs:=[.sl 1 g 0 0 c,.int .u32 0,.int .i64 0,.sl 2 gt 0 ts.length ct,.sl 3 0 0 0 0,.ns]) (x:=.ints .u8 [] 0) rfl rfl ⟨rfl,rfl⟩
 exact Vw.trans v1 v2
theorem CV {g0 c0:Nat}(lL:∀t∈ts,QE bG dC t)(m7:ts.length≤150000)(CI:ts.length≤ct)
 (h:∀g c ga ca,(aU (cy ts)).length≤c→K (.aE []) (ic (dX ts gt ct bG ga ca dC 0 32) (cy ts) g c)):
 aa Try.prog 16 [.ptr 0 0 0] (w3 ts gt ct g0 c0) K Kp:=by
 refine aa.cQ ?_
 refine aa.view GK ?_
 refine SV (fun _=>[]) [] rfl ?_
 refine Qs ?_
 refine me (X:=dX ts gt ct [] 0 0 [] 0 0) [] (v:=3) (n:=3) (by decide) (by decide) (Nat.zero_le _) (fun g1 c1 pD _=>?_)
 have aad:j6 [] 3 3=(bitsOf 3 3,0):=by decide
 rw[aad]at pD⊢
 refine Qs ?_
 refine cj (i:=5) (v:=8) (k:=144) rfl (by decide) (by decide) ?_
 refine Qs ?_
 refine cj (i:=7) (v:=9) (k:=112) rfl (by decide) (by decide) ?_
 refine Qs ?_
 refine cj (i:=9) (v:=7) (k:=24) rfl (by decide) (by decide) ?_
 refine Qs ?_
 refine cj (i:=11) (v:=8) (k:=8) rfl (by decide) (by decide) ?_
 refine Qs ?_
 refine EU (p:=13) (q0:=6) (q1:=8) (q2:=10) (q3:=12) (x0:=List.replicate 144 8) (x1:=List.replicate 112 9) (x2:=List.replicate 24 7) (x3:=List.replicate 8 8) (by decide) rfl rfl rfl rfl rfl (fun g2 c2 JY=>?_)
 rw[show(List.replicate 144 (8:Int)++List.replicate 112 9++List.replicate 24 7++List.replicate 8 8)=bG from rfl]
 refine Qs ?_
 refine cj (i:=15) (v:=5) (k:=32) rfl (by decide) (by decide) ?_
 refine Qs ?_
 refine aa.lift [.own 0,.own 1,.own 2,.own 14,.own 16] (wH (ts:=ts) (gt:=gt) (ct:=ct) (A:=bG) (ga:=g2) (ca:=c2) (D:=dC) (gd:=0) (cd:=32) (row:=bitsOf 3 3) (g:=g1) (c:=c1)
  (K:=fun r N=>∃g c,(aU (cy ts)).length≤c∧r=.aE []∧N=ic (dX ts gt ct bG g2 c2 dC 0 32) (cy ts) g c) (Kp:=fun _ _=>False) sZ zc Jz Jy (by rw[Mn];decide) (by decide) (n5 (s:=256) (by omega)) lL m7 CI
  (by rw[ak];omega) pD (fun g c hc=>⟨g,c,hc,rfl,rfl⟩)) rfl rfl ⟨⟨rfl,rfl⟩,⟨rfl,rfl⟩,⟨rfl,rfl⟩,⟨rfl,rfl⟩,⟨rfl,rfl⟩,trivial⟩ ⟨rfl,trivial,fun j=>rfl,trivial,trivial,trivial⟩ ?_ (fun _ _ h=>h.elim)
 rintro r M' ⟨g,c,hc,rfl,rfl⟩
 refine⟨⟨rfl,rfl,rfl,rfl,rfl,rfl⟩,?_⟩
 refine Qs ?_
 refine⟨[.own 0,.own 1,.own 2,.own 14,.own 16],.aE [],ic (dX ts gt ct bG g2 c2 dC 0 32) (cy ts) g c,⟨⟨⟨rfl,rfl⟩,⟨rfl,rfl⟩,⟨rfl,rfl⟩,⟨rfl,rfl⟩,⟨rfl,rfl⟩,trivial⟩,rfl,⟨rfl,trivial,fun j=>rfl,trivial,trivial,trivial⟩,rfl,fun i hi=>?_⟩,h g c g2 c2 hc⟩
 match i,hi with
 |0,_=>exact .inl rfl
 |1,_=>exact .inl rfl
 |2,_=>exact .inl rfl
end
end Go.Proofs.Ytibadaomjlkoaaa
open Go.RowKit
namespace Go.Proofs.Ytibadaomjlkoaaa
set_option maxRecDepth 10000
def kW (last:Int)(ys:List Int):List Int:=[last,(ys.length:Int)%256,(ys.length:Int)/256%256,255-(ys.length:Int)%256,255-(ys.length:Int)/256%256]++ys
def dL:Nat→List Int→List Int
 |0,xs=>kW 1 xs
 |k+1,xs=>if xs.length≤65535 then kW 1 xs else kW 0 (xs.take 65535)++dL k (xs.drop 65535)
theorem zy {x:Int}(h:0≤x∧x<256):cG .xor .u8 255 x=255-x:=by
 have:∀n:Nat,n<256→cG .xor .u8 255 (n:Int)=255-(n:Int):=by decide+kernel
 have:=this x.toNat (by omega)
 rwa[Int.toNat_of_nonneg h.1]at this
theorem Vn {n:Nat}:bS .i64 (n:Int) 8=(n:Int)/256:=by
 have:=zV (x:=n) (k:=8) (by decide)
 rw[show((8:Nat):Int)=8 from rfl]at this
 rw[this]
 omega
def L6 (last n:Int):List Int:=[last,n%256,n/256%256,255-n%256,255-n/256%256]
theorem Ij {k:Nat}{xs:List Int}(h:xs.length≤65535):dL k xs=kW 1 xs:=by
 cases k with
 |zero=>rfl
 |succ k=>rw[dL,if_pos h]
section
variable{K Kp:AV→AH→Prop}{xs:List Int}{c c0:Nat}
theorem zG (hx:xs.length≤1000000)(hc:xs.length≤c0)(xk:c0≤c)
 (h:∀g c',(dL xs.length xs).length≤c'→K (.sl 1 g 0 (dL xs.length xs).length c') [.one false 0 (.ints .u8 xs c),.one true g (.ints .u8 (dL xs.length xs) c')]):
 aa Try.prog 15 [.sl 0 0 0 xs.length c0] [.one false 0 (.ints .u8 xs c)] K Kp:=by
 refine aa.cQ ?_
 refine SW (fun _=>[]) [] rfl ?_
 refine Qs ?_
 refine WO.Dv (σ:=Nat×Nat×List Int×Nat×Nat) (fun(k,o,out,g,co)=>o≤xs.length∧xs.length-o≤(k+1)*65535∧out.length≤co∧out.length≤2*o∧out++dL k (xs.drop o)=dL xs.length xs∧k≤xs.length) (fun(k,_)=>k)
  (fun(k,o,out,g,co)=>[(0,.sl 0 0 o (xs.length-o) (c0-o)),(3,.sl 1 g 0 out.length co)]) (fun(k,o,out,g,co)=>[.one false 0 (.ints .u8 xs c),.one true g (.ints .u8 out co)]) (xs.length,0,[],0,0) ae mixed (by kernel_rfl)
  [(0,.sl 0 0 0 xs.length c0),(3,.ns)] _ ⟨Nat.zero_le _,by omega,Nat.le_refl _,Nat.zero_le _,rfl,Nat.le_refl _⟩ (aI rfl (aI rfl (trivial))) rfl
  (Vw.pz (x:=.ints .u8 [] 0) ⟨rfl,rfl⟩ (And.intro (.inl rfl) (And.intro (.inr ⟨rfl,rfl⟩) trivial))) (aI rfl (aI rfl (trivial))) (fun _=>rfl) (fun _=>rfl) (fun _=>⟨trivial,trivial,trivial⟩) ?_
 rintro⟨k,o,out,g,co⟩ ⟨i1,i2,i3,i4,i5,i6⟩ d
 refine Qs ?_
 refine And.intro (fun q1=>?_) (fun q1=>?_)
 ·have q1:min ((xs.length-o:Nat):Int) 65535=((xs.length-o:Nat):Int):=of_decide_eq_true q1
  obtain⟨n,hn⟩:∃n,xs.length-o=n:=⟨_,rfl⟩
  rw[hn]at q1 i2⊢
  rw[q1]
  have e8:bS .i64 (n:Int) 8=(n:Int)/256:=Vn
  have WK:dL k (xs.drop o)=L6 1 (n:Int)++xs.drop o:=by
   rw[Ij (by rw[List.length_drop];omega),kW,List.length_drop,hn];rfl
  refine Qs ?_
  intro zs dk
  have hz:zs=L6 1 (n:Int):=by
   rw[dk]
   show[1,(n:Int)%256,bS .i64 (n:Int) 8%256,cG .xor .u8 255 ((n:Int)%256),cG .xor .u8 255 (bS .i64 (n:Int) 8%256)]=_
   rw[e8,zy (by omega),zy (by omega)]
   rfl
  clear dk
  subst hz
  have U8:(out++L6 1 (n:Int)).length=out.length+5:=by rw[List.length_append];rfl
  refine Qs ?_
  intro c2 JY
  refine Qs ?_
  intro ys sP
  have Ja:ys=xs.drop o:=by
   rw[sP]
   exact List.take_of_length_le (by rw[List.length_drop,hn];exact Nat.le_refl _)
  clear sP
  subst Ja
  refine Qs ?_
  intro c3 AK
  refine Qs ?_
  rw[WK,←List.append_assoc]at i5
  have hlen:(dL xs.length xs).length=out.length+5+n:=by
   rw[←i5,List.length_append,U8,List.length_drop,hn]
  have h3:=h (g+1+1) c3 (by rw[hlen];exact AK)
  rw[hlen,←i5]at h3
  refine⟨[.dE 0,.own 1],.sl 1 (g+1+1) 0 (out.length+5+n) c3,[.one false 0 (.ints .u8 xs c),.one true (g+1+1) (.ints .u8 (out++L6 1 (n:Int)++xs.drop o) c3)],⟨⟨⟨rfl,_,rfl,rfl⟩,⟨rfl,rfl⟩,trivial⟩,rfl,⟨trivial,trivial,trivial⟩,rfl,fun i hi=>?_⟩,h3⟩
  match i,hi with
  |0,_=>exact .inr rfl
 ·have q1:¬min ((xs.length-o:Nat):Int) 65535=((xs.length-o:Nat):Int):=of_decide_eq_false q1
  have hlg:65535<xs.length-o:=by omega
  have P2:min ((xs.length-o:Nat):Int) 65535=65535:=by omega
  obtain⟨k,rfl⟩:∃k',k=k'+1:=⟨k-1,by omega⟩
  rw[P2]
  have e8:bS .i64 65535 8=(65535:Int)/256:=Vn (n:=65535)
  have WC:dL (k+1) (xs.drop o)=L6 0 65535++(xs.drop o).take 65535++dL k (xs.drop (o+65535)):=by
   rw[dL,if_neg (by rw[List.length_drop];omega),kW,List.length_take,List.length_drop,Nat.min_eq_left (by omega),List.drop_drop]
   rfl
  have m7:((xs.drop o).take 65535).length=65535:=by rw[List.length_take,List.length_drop];omega
  have ho:bT (c0-o) 65535 o 1=o+65535:=by unfold bT;rw[if_neg (by omega)]
  refine Qs ?_
  intro zs dk
  have hz:zs=L6 0 (65535:Int):=by
   rw[dk]
   show[0,(65535:Int)%256,bS .i64 (65535:Int) 8%256,cG .xor .u8 255 ((65535:Int)%256),cG .xor .u8 255 (bS .i64 (65535:Int) 8%256)]=_
   rw[e8,zy (by omega),zy (by omega)]
   rfl
  clear dk
  subst hz
  have U8:(out++L6 0 (65535:Int)).length=out.length+5:=by rw[List.length_append];rfl
  refine Qs ?_
  intro c2 JY
  refine Qs ?_
  intro ys sP
  have Ja:ys=(xs.drop o).take 65535:=by rw[sP];rfl
  clear sP
  subst Ja
  refine Qs ?_
  intro c3 AK
  refine Qs ?_
  rw[WC,←List.append_assoc,←List.append_assoc]at i5
  refine RO.same (k,o+65535,out++L6 0 65535++(xs.drop o).take 65535,g+1+1,c3) ⟨by omega,by omega,?_,?_,i5,by omega⟩ (Nat.lt_succ_self k) (aI ?_ (aI ?_ trivial)) (aI rfl (aI rfl (trivial)))
  ·rw[List.length_append,U8,m7];exact AK
  ·rw[List.length_append,U8,m7];omega
  ·show AV.sl 0 0 (bT (c0-o) 65535 o 1) (xs.length-o-65535) (c0-o-65535)=AV.sl 0 0 (o+65535) (xs.length-(o+65535)) (c0-(o+65535))
   rw[ho,Nat.sub_sub,Nat.sub_sub]
  ·show AV.sl 1 (g+1+1) 0 (out.length+5+65535) c3=AV.sl 1 (g+1+1) 0 (out++L6 0 65535++(xs.drop o).take 65535).length c3
   rw[List.length_append,U8,m7]
end
end Go.Proofs.Ytibadaomjlkoaaa
open Go.RowKit
namespace Go.Proofs.Ytibadaomjlkoaaa
def sM (l:List Int)(i:Nat):List Int:=l.set i (l.getD i 0+1)
theorem rG (l:List Int)(i:Nat):(sM l i).length=l.length:=by unfold sM;rw[List.length_set]
theorem rH (l:List Int)(i j:Nat):(sM l i).getD j 0=l.getD j 0+if i=j∧i<l.length then 1 else 0:=by
 unfold sM
 rw[jg]
 split
 ·rename_i h;rw[h.1]
 ·omega
def fA (l:List Int)(t:Tk):List Int:=sM l (if t.l=0 then t.b.toNat else(bp t.l).1)
def fD (l:List Int)(t:Tk):List Int:=if t.l=0 then l else sM l (bj (t.d-1) 2).1
def mz (ts:List Tk):List Int:=ts.foldl fA ((List.replicate 286 0).set 256 1)
def pT (ts:List Tk):List Int:=ts.foldl fD (List.replicate 30 0)
theorem Mj (l:List Tk){i:Nat}(h:i<l.length):mz (l.take (i+1))=fA (mz (l.take i)) (l.getD i default):=by
 rw[List.take_succ_eq_append_getElem h,List.getD_eq_getElem?_getD,List.getElem?_eq_getElem h]
 unfold mz
 rw[List.foldl_append];rfl
theorem Mi (l:List Tk){i:Nat}(h:i<l.length):pT (l.take (i+1))=fD (pT (l.take i)) (l.getD i default):=by
 rw[List.take_succ_eq_append_getElem h,List.getD_eq_getElem?_getD,List.getElem?_eq_getElem h]
 unfold pT
 rw[List.foldl_append];rfl
theorem wy {f:List Int→Tk→List Int}(hf:∀l t,(f l t).length=l.length):∀(ts:List Tk)(l:List Int),(ts.foldl f l).length=l.length
 |[],l=>rfl
 |t::ts,l=>by rw[List.foldl_cons,wy hf ts,hf]
theorem Mr (l:List Int)(t:Tk):(fA l t).length=l.length:=rG _ _
theorem Mp (l:List Int)(t:Tk):(fD l t).length=l.length:=by unfold fD;split;rfl;exact rG _ _
theorem fY (ts:List Tk):(mz ts).length=286:=by unfold mz;rw[wy Mr,List.length_set,List.length_replicate]
theorem jd (ts:List Tk):(pT ts).length=30:=by unfold pT;rw[wy Mp,List.length_replicate]
theorem nX {f:List Int→Tk→List Int}(hf:∀l t j,l.getD j 0≤(f l t).getD j 0∧(f l t).getD j 0≤l.getD j 0+1):∀(ts:List Tk)(l:List Int)(j:Nat),l.getD j 0≤(ts.foldl f l).getD j 0∧(ts.foldl f l).getD j 0≤l.getD j 0+ts.length
 |[],l,j=>⟨Int.le_refl _,by simp⟩
 |t::ts,l,j=>by
  have h1:=hf l t j
  have h2:=nX hf ts (f l t) j
  rw[List.foldl_cons,List.length_cons]
  omega
theorem nS (l:List Int)(i j:Nat):l.getD j 0≤(sM l i).getD j 0∧(sM l i).getD j 0≤l.getD j 0+1:=by
 rw[rH];split<;>omega
theorem EP (l:List Int)(t:Tk)(j:Nat):l.getD j 0≤(fA l t).getD j 0∧(fA l t).getD j 0≤l.getD j 0+1:=nS _ _ _
theorem Mq (l:List Int)(t:Tk)(j:Nat):l.getD j 0≤(fD l t).getD j 0∧(fD l t).getD j 0≤l.getD j 0+1:=by
 unfold fD;split
 ·omega
 ·exact nS _ _ _
theorem jw (n j:Nat):(List.replicate n (0:Int)).getD j 0=0:=by
 rw[List.getD_eq_getElem?_getD,List.getElem?_replicate];split<;>rfl
theorem uI (ts:List Tk)(j:Nat):0≤(mz ts).getD j 0∧(mz ts).getD j 0≤1+ts.length:=by
 have h1:=nX EP ts ((List.replicate 286 0).set 256 1) j
 have h2:0≤((List.replicate 286 (0:Int)).set 256 1).getD j 0∧((List.replicate 286 (0:Int)).set 256 1).getD j 0≤1:=by
  rw[jg,jw];split<;>decide
 unfold mz;omega
theorem AQ (ts:List Tk)(j:Nat):0≤(pT ts).getD j 0∧(pT ts).getD j 0≤ts.length:=by
 have h1:=nX Mq ts (List.replicate 30 0) j
 rw[jw]at h1
 unfold pT;omega
theorem Qj (ts:List Tk):0<(mz ts).getD 256 0:=by
 have h1:=nX EP ts ((List.replicate 286 0).set 256 1) 256
 have h2:((List.replicate 286 (0:Int)).set 256 1).getD 256 0=1:=by decide
 unfold mz;omega
theorem wz {f:List Int→Tk→List Int}(hf:∀l t j,l.getD j 0≤(f l t).getD j 0∧(f l t).getD j 0≤l.getD j 0+1)(hl:∀l t,(f l t).length=l.length){t:Tk}{j:Nat}(hj:∀l,j<l.length→(f l t).getD j 0=l.getD j 0+1):∀(ts:List Tk)(l:List Int),t∈ts→j<l.length→0≤l.getD j 0→0<(ts.foldl f l).getD j 0
 |u::ts,l,h,pc,h0=>by
  rw[List.foldl_cons]
  rcases List.mem_cons.1 h with rfl|h
  ·have h1:=nX hf ts (f l t) j
   rw[hj l pc]at h1
   omega
  ·exact wz hf hl hj ts (f l u) h (by rw[hl];exact pc) (by have:=(hf l u j).1;omega)
theorem HM {ts:List Tk}{t:Tk}(h:t∈ts)(hj:(if t.l=0 then t.b.toNat else(bp t.l).1)<286):0<(mz ts).getD (if t.l=0 then t.b.toNat else(bp t.l).1) 0:=by
 obtain⟨j,hje⟩:∃j,(if t.l=0 then t.b.toNat else(bp t.l).1)=j:=⟨_,rfl⟩
 rw[hje]at hj⊢
 unfold mz
 refine wz EP Mr (fun l hl=>?_) ts _ h (by rw[List.length_set,List.length_replicate];exact hj) ?_
 ·unfold fA;rw[hje,rH,if_pos ⟨rfl,hl⟩]
 ·rw[jg,jw];split<;>omega
theorem Qi {ts:List Tk}{t:Tk}(h:t∈ts)(hz:t.l≠0)(hj:(bj (t.d-1) 2).1<30):0<(pT ts).getD (bj (t.d-1) 2).1 0:=by
 unfold pT
 refine wz Mq Mp (fun l hl=>?_) ts _ h (by rw[List.length_replicate];exact hj) ?_
 ·unfold fD;rw[if_neg hz,rH,if_pos ⟨rfl,hl⟩]
 ·rw[jw];decide
theorem Nt (fr:List Int):nF fr≤fr.length:=by
 unfold nF aM
 have:=List.length_filter_le (fun i=>decide (0<fr.getD i 0)) (List.range fr.length)
 rwa[List.length_range]at this
theorem jE {fr:List Int}(hl:fr.length≤286)(hb:∀j,0≤fr.getD j 0∧fr.getD j 0≤1000000){K:Nat}(hK1:1≤K)(hK:K≤15)(hn:fr.length≤2^K):bw fr (K:Int)=(bM fr K,0)∧iQ fr K (bM fr K):=by
 have xP:fr.any jX=false:=by
  rw[List.any_eq_false]
  intro x hx
  obtain⟨j,hj,rfl⟩:=List.getElem_of_mem hx
  have:=hb j
  rw[List.getD_eq_getElem?_getD,List.getElem?_eq_getElem hj,Option.getD_some]at this
  simp only[jX,Bool.or_eq_true,decide_eq_true_eq]
  omega
 have hle:xK fr (K:Int)=false:=by
  unfold xK
  rw[xP]
  simp only[Bool.or_false,Bool.or_eq_false_iff,decide_eq_false_iff_not]
  omega
 have hnf:=Nt fr
 refine⟨?_,PB xP (by omega) hK1 hK (by omega)⟩
 unfold bw
 rw[hle,if_neg (by decide),if_neg (by rw[Int.toNat_natCast];show¬2^K<nF fr;omega),Int.toNat_natCast]
def ta:Nat→Nat→List Int→List Int
 |0,_,l=>l
 |k+1,n,l=>if n<l.length∧l.getD (l.length-1) 0=0 then ta k n (l.take (l.length-1))else l
theorem lC {n:Nat}:∀(k:Nat)(l:List Int),∃m,ta k n l=l.take m∧m≤l.length∧(n≤l.length→n≤m)∧∀j,m≤j→l.getD j 0=0
 |0,l=>⟨l.length,by rw[List.take_length];rfl,Nat.le_refl _,fun h=>h,fun j hj=>by rw[List.getD_eq_getElem?_getD,List.getElem?_eq_none hj];rfl⟩
 |k+1,l=>by
  simp only[ta]
  split
  ·rename_i hc
   obtain⟨m,h1,h2,h3,h4⟩:=lC k (l.take (l.length-1))
   have hl:(l.take (l.length-1)).length=l.length-1:=by rw[List.length_take];omega
   rw[hl]at h2 h3
   refine⟨m,by rw[h1,List.take_take,Nat.min_eq_left h2],by omega,fun _=>h3 (by omega),fun j hj=>?_⟩
   have:=h4 j hj
   rcases Nat.lt_trichotomy j (l.length-1)with h5|h5|h5
   ·rwa[dJ h5]at this
   ·rw[h5];exact hc.2
   ·rw[List.getD_eq_getElem?_getD,List.getElem?_eq_none (by omega)];rfl
  ·exact⟨l.length,by rw[List.take_length],Nat.le_refl _,fun h=>h,fun j hj=>by rw[List.getD_eq_getElem?_getD,List.getElem?_eq_none hj];rfl⟩
theorem yf {l:List Int}{m:Nat}:∀i,i≤m→aY (l.take m) i=aY l i
 |0,_=>rfl
 |i+1,h=>by simp only[aY];rw[yf i (by omega),dJ (by omega)]
theorem zn {l:List Int}{m:Nat}:∀i,i≤m→bn (l.take m) i=bn l i
 |0,_=>rfl
 |i+1,h=>by simp only[bn];rw[zn i (by omega),dJ (by omega)]
theorem ye {l:List Int}{m:Nat}(hz:∀j,m≤j→l.getD j 0=0):∀k,aY l (m+k)=aY l m
 |0=>rfl
 |k+1=>by rw[←Nat.add_assoc,aY,ye hz k,hz (m+k) (by omega)];rfl
theorem zm {l:List Int}{m:Nat}(hz:∀j,m≤j→l.getD j 0=0):∀k,bn l (m+k)=bn l m
 |0=>rfl
 |k+1=>by rw[←Nat.add_assoc,bn,zm hz k,hz (m+k) (by omega)];rfl
theorem zg {l:List Int}{m:Nat}(hm:m≤l.length)(hz:∀j,m≤j→l.getD j 0=0)(he:aB l=0):aB (l.take m)=0:=by
 have hb:eh l=false:=by
  cases hb:eh l with
  |false=>rfl
  |true=>unfold aB at he;rw[hb]at he;cases he
 have lM:a9 l=true:=by
  cases h:a9 l with
  |true=>rfl
  |false=>unfold aB at he;rw[hb,h]at he;cases he
 have bh:(l.take m).length=m:=by rw[List.length_take];omega
 refine eK ?_ ?_
 ·unfold eh at hb⊢
  simp only[Bool.or_eq_false_iff,decide_eq_false_iff_not,List.any_eq_false]at hb⊢
  exact⟨by omega,fun x hx=>hb.2 x (List.mem_of_mem_take hx)⟩
 ·unfold a9 at lM⊢
  rw[bh,yf m (Nat.le_refl m),zn m (Nat.le_refl m)]
  have e1:=ye hz (l.length-m)
  have e2:=zm hz (l.length-m)
  rw[show m+(l.length-m)=l.length by omega]at e1 e2
  rwa[e1,e2]at lM
theorem pf {l:List Int}{m:Nat}(hm:m≤l.length)(hz:∀j,m≤j→l.getD j 0=0){s:Int}(h:j8 l s):j8 (l.take m) s:=by
 obtain⟨a,b,c,d⟩:=h
 have hs:s.toNat<m:=by
  rcases Nat.lt_or_ge s.toNat m with h|h
  ·exact h
  ·rw[hz _ h]at c;omega
 have bh:(l.take m).length=m:=by rw[List.length_take];omega
 exact⟨a,by omega,by rw[dJ hs];exact c,by rw[dJ hs];exact d⟩
end Go.Proofs.Ytibadaomjlkoaaa
open Go.RowKit
namespace Go.Proofs.Ytibadaomjlkoaaa
set_option maxRecDepth 10000
section
variable{K Kp:AV→AH→Prop}{l:List Int}{c c0:Nat}
theorem Mu {n:Nat}(hl:l.length≤2000)(hc:l.length≤c0)(hn:n≤2000)(h:K (.sl 0 0 0 (ta l.length n l).length c0) [.one false 0 (.ints .u8 l c)]):
 aa Try.prog 73 [.sl 0 0 0 l.length c0,.int .i64 (n:Int)] [.one false 0 (.ints .u8 l c)] K Kp:=by
 refine Sp (fun _=>[0]) [] rfl ?_
 refine Qs ?_
 refine WO.go (σ:=Nat) (fun m=>m≤l.length∧ta m n (l.take m)=ta l.length n l) (fun m=>m) (fun m=>[(0,.sl 0 0 0 m c0),(1,.int .i64 (n:Int))]) (fun _=>[.one false 0 (.ints .u8 l c)]) l.length ae mixed (by kernel_rfl)
  ⟨Nat.le_refl _,by rw[List.take_length]⟩ (aI rfl (aI rfl (trivial))) (aI rfl (trivial)) (fun _=>rfl) (fun _=>rfl) (fun _=>⟨trivial,trivial⟩) ?_
 rintro m ⟨i1,i2⟩ d
 have LN:(l.take m).length=m:=by rw[List.length_take];omega
 refine Qs ?_
 refine And.intro (fun q1=>?_) (fun q1=>?_)
 ·have hm:n<m:=by have q1:(n:Int)<(m:Int):=of_decide_eq_true q1;omega
  obtain⟨k,rfl⟩:∃k,m=k+1:=⟨m-1,by omega⟩
  have e1:((k+1:Nat):Int)-1=(k:Int):=by omega
  rw[ta,LN]at i2
  refine Qs ?_
  refine And.intro (fun q2=>?_) (fun q2=>?_)
  ·have q2:l.getD ((((k+1:Nat):Int)-1).toNat+0) 0=0:=of_decide_eq_true q2
   rw[e1,Int.toNat_natCast,Nat.add_zero]at q2
   rw[if_pos ⟨hm,by rw[Nat.add_sub_cancel,dJ (Nat.lt_succ_self k)];exact q2⟩,Nat.add_sub_cancel,List.take_take,Nat.min_eq_left (by omega)]at i2
   refine Qs ?_
   refine RO.same k ⟨by omega,i2⟩ (Nat.lt_succ_self k) (aI ?_ (aI rfl trivial)) (aI rfl (trivial))
   show AV.sl 0 0 0 (((k+1:Nat):Int)-1).toNat c0=AV.sl 0 0 0 k c0
   rw[e1,Int.toNat_natCast]
  ·have q2:¬l.getD ((((k+1:Nat):Int)-1).toNat+0) 0=0:=of_decide_eq_false q2
   rw[e1,Int.toNat_natCast,Nat.add_zero]at q2
   rw[if_neg (fun x=>q2 (by have:=x.2;rwa[Nat.add_sub_cancel,dJ (Nat.lt_succ_self k)]at this))]at i2
   rw[←i2,LN]at h
   refine Qs ?_
   exact h
 ·have hm:¬n<m:=by have q1:¬(n:Int)<(m:Int):=of_decide_eq_false q1;omega
  have hR:ta m n (l.take m)=l.take m:=by
   cases m with
   |zero=>rfl
   |succ k=>rw[ta,if_neg (fun x=>hm (by rw[LN]at x;exact x.1))]
  rw[hR]at i2
  rw[←i2,LN]at h
  refine Qs ?_
  exact h
theorem Mv {M:AH}{i g co n k:Nat}{o:Bool}(hi:M[i]?=some (.one o g (.ints .u8 l co)))(hk:k=l.length)(hl:l.length≤2000)(hc:l.length≤c0)(hn:n≤2000)(h:K (.sl i g 0 (ta l.length n l).length c0) M):
 aa Try.prog 73 [.sl i g 0 k c0,.int .i64 (n:Int)] M K Kp:=by
 subst hk
 refine aa.lift [.cP i g 0] (Mu (l:=l) (c:=co) (c0:=c0) (n:=n) (K:=fun r N=>r=.sl 0 0 0 (ta l.length n l).length c0∧N=[.one false 0 (.ints .u8 l co)]) (Kp:=fun _ _=>False) hl hc hn ⟨rfl,rfl⟩) rfl rfl ⟨⟨_,_,_,rfl,ao hi,cq.same rfl (fun h=>h)⟩,trivial⟩ ⟨trivial,trivial⟩ ?_ (fun _ _ h=>h.elim)
 rintro r M' ⟨rfl,rfl⟩
 refine⟨⟨rfl,rfl⟩,?_⟩
 rw[←List.append_nil M]at h
 exact h
end
end Go.Proofs.Ytibadaomjlkoaaa
open Go.RowKit
namespace Go.Proofs.Ytibadaomjlkoaaa
set_option maxRecDepth 10000
structure RE (t:Tk):Prop where
 one:t.l=0→0≤t.b∧t.b<256
 rep:t.l≠0→3≤t.l∧t.l≤258∧1≤t.d∧t.d≤32768
def fu (ts:List Tk):List Int:=ta 286 257 (bM (mz ts) 15)
def fq (ts:List Tk):List Int:=ta 30 1 (bM (pT ts) 15)
section
variable{K Kp:AV→AH→Prop}{ts:List Tk}{gt ct:Nat}
theorem MI {g c:Nat}{X Y:af}(hX:X.nb 7)(hY:Y.nb 7):kq 7 (ic (dX ts gt ct [] 0 0 [] 0 0) [] g c++[AO.one true 0 X,AO.one true 0 Y]):=⟨rfl,trivial,fun j=>rfl,trivial,trivial,hX,hY,trivial⟩
theorem JJ {g0 c0:Nat}(lL:∀t∈ts,RE t)(m7:ts.length≤150000)(CI:ts.length≤ct)
 (h:∀ga ca gd cd,(fu ts).length≤ca→(fq ts).length≤cd→K (.aE []) (ic (dX ts gt ct (fu ts) ga ca (fq ts) gd cd) [] g0 c0)):
 aa Try.prog 44 [.ptr 0 0 0] (w3 ts gt ct g0 c0) K Kp:=by
 obtain⟨hLA,QU⟩:=jE (fr:=mz ts) (by rw[fY];decide) (fun j=>by have:=uI ts j;omega) (K:=15) (by decide) (by decide) (by rw[fY];decide)
 obtain⟨hLD,UO⟩:=jE (fr:=pT ts) (by rw[jd];decide) (fun j=>by have:=AQ ts j;omega) (K:=15) (by decide) (by decide) (by rw[jd];decide)
 have T3:(bM (mz ts) 15).length=286:=by rw[QU.len,fY]
 have Zq:(bM (pT ts) 15).length=30:=by rw[UO.len,jd]
 rw[show((15:Nat):Int)=15 from rfl]at hLA hLD
 obtain⟨mA,hA,WG,_,_⟩:=lC (n:=257) 286 (bM (mz ts) 15)
 obtain⟨mD,hD,U1,_,_⟩:=lC (n:=1) 30 (bM (pT ts) 15)
 have Me:fu ts=(bM (mz ts) 15).take mA:=hA
 have Us:fq ts=(bM (pT ts) 15).take mD:=hD
 refine aa.cQ ?_
 refine aa.eS ?_
 refine aa.view GK ?_
 refine SG (fun _=>[0]) [] rfl ?_
 refine Qs ?_
 refine WO.go (σ:=Nat) (fun i=>i≤ts.length) (fun i=>ts.length-i)
  (fun i=>[(0,.ptr 0 0 0),(2,.sl 5 0 0 286 286),(3,.sl 6 0 0 30 30),(14,.sl 2 gt 0 ts.length ct),(15,.int .i64 (ts.length:Int)),(16,.int .i64 (i:Int))])
  (fun i=>ic (dX ts gt ct [] 0 0 [] 0 0) [] g0 c0++[AO.one true 0 (.ints .i64 (mz (ts.take i)) 286),AO.one true 0 (.ints .i64 (pT (ts.take i)) 30)]) 0 ae mixed (by kernel_rfl) (Nat.zero_le _) (aI rfl (aI rfl (aI rfl (aI rfl (aI rfl (aI rfl (trivial))))))) (aI rfl (aI rfl (aI rfl (aI rfl (aI rfl (aI rfl (aI rfl (trivial)))))))) (fun _=>rfl) (fun _=>rfl) (fun _=>MI trivial trivial) ?_
 intro i i1 d
 have i1:i≤ts.length:=i1
 have y9:=fY (ts.take i)
 have Re:=jd (ts.take i)
 refine Qs ?_
 refine And.intro (fun q1=>?_) (fun q1=>?_)
 ·have gv:i<ts.length:=by have q1:(i:Int)<(ts.length:Int):=of_decide_eq_true q1;omega
  have kJ:ts.getD i default∈ts:=by
   rw[List.getD_eq_getElem?_getD,List.getElem?_eq_getElem gv];exact List.getElem_mem _
  have hsA:=Mj ts gv
  have Z9:=Mi ts gv
  have hr:=lL _ kJ
  obtain⟨t,ht⟩:∃t,ts.getD i default=t:=⟨_,rfl⟩
  rw[ht]at kJ hsA Z9 hr
  refine Qs ?_
  refine And.intro (fun q2=>?_) (fun q2=>?_)
  ·have q2:((ts.getD i default).l:Int)=0:=of_decide_eq_true q2
   rw[ht]at q2
   have hz:t.l=0:=by omega
   have hb:=hr.one hz
   have W8:0≤(ts.getD (i:Int).toNat default).b∧(ts.getD (i:Int).toNat default).b<256:=by
    show 0≤(ts.getD i default).b∧(ts.getD i default).b<256
    rw[ht];exact hb
   have hbd:0≤(mz (ts.take i)).getD ((ts.getD (i:Int).toNat default).b.toNat+0) 0∧(mz (ts.take i)).getD ((ts.getD (i:Int).toNat default).b.toNat+0) 0≤200000:=by
    have:=uI (ts.take i) ((ts.getD (i:Int).toNat default).b.toNat+0)
    have h2:=List.length_take_le i ts
    omega
   have E:mz (ts.take (i+1))=(mz (ts.take i)).set ((ts.getD (i:Int).toNat default).b.toNat+0) ((mz (ts.take i)).getD ((ts.getD (i:Int).toNat default).b.toNat+0) 0+1):=by
    rw[hsA];unfold fA sM;rw[if_pos hz]
    show _=(mz (ts.take i)).set ((ts.getD i default).b.toNat+0) ((mz (ts.take i)).getD ((ts.getD i default).b.toNat+0) 0+1)
    rw[ht];rfl
   have E2:pT (ts.take (i+1))=pT (ts.take i):=by rw[Z9];unfold fD;rw[if_pos hz]
   refine Qs ?_
   refine RO.same (i+1) gv (Nat.sub_lt_sub_left gv (Nat.lt_succ_self i)) (aI rfl (aI rfl (aI rfl (aI rfl (aI rfl (aI rfl (trivial))))))) (aI rfl (aI rfl (aI rfl (aI rfl (aI rfl (aI (congrArg (fun l=>AO.one true 0 (.ints .i64 l 286)) E) (aI (congrArg (fun l=>AO.one true 0 (.ints .i64 l 30)) E2) trivial)))))))
  ·have q2:¬((ts.getD i default).l:Int)=0:=of_decide_eq_false q2
   rw[ht]at q2
   have hz:¬t.l=0:=by omega
   obtain⟨m1,m2,m3,m4⟩:=hr.rep hz
   have kv:3≤(ts.getD (i:Int).toNat default).l∧(ts.getD (i:Int).toNat default).l≤258:=by
    show 3≤(ts.getD i default).l∧(ts.getD i default).l≤258
    rw[ht];exact⟨m1,m2⟩
   have Qb:1≤(ts.getD (i:Int).toNat default).d∧(ts.getD (i:Int).toNat default).d≤32768:=by
    show 1≤(ts.getD i default).d∧(ts.getD i default).d≤32768
    rw[ht];exact⟨m3,m4⟩
   obtain⟨l1,l2,l3,l4,_⟩:=gN kv
   obtain⟨f1,f2,f3,_⟩:=gS (v:=(ts.getD (i:Int).toNat default).d-1) (.inl rfl) (by omega)
   have bh:bp (ts.getD (i:Int).toNat default).l=bp t.l:=by rw[←ht];rfl
   have P8:bj ((ts.getD (i:Int).toNat default).d-1) 2=bj (t.d-1) 2:=by rw[←ht];rfl
   have ed:(((ts.getD (i:Int).toNat default).d:Nat):Int)-1=(((ts.getD (i:Int).toNat default).d-1:Nat):Int):=by omega
   refine Qs ?_
   refine wK kv ?_
   obtain⟨S,hS⟩:∃S,(bp (ts.getD (i:Int).toNat default).l).1=S:=⟨_,rfl⟩
   rw[hS]at l3 l4⊢
   have hbd:0≤(mz (ts.take i)).getD ((S:Int).toNat+0) 0∧(mz (ts.take i)).getD ((S:Int).toNat+0) 0≤200000:=by
    have:=uI (ts.take i) ((S:Int).toNat+0)
    have h2:=List.length_take_le i ts
    omega
   refine Qs ?_
   rw[ed]
   refine AX (by omega) (.inl rfl) ?_
   obtain⟨T,hT⟩:∃T,(bj ((ts.getD (i:Int).toNat default).d-1) 2).1=T:=⟨_,rfl⟩
   rw[hT]at f3⊢
   have aa5:0≤(pT (ts.take i)).getD ((T:Int).toNat+0) 0∧(pT (ts.take i)).getD ((T:Int).toNat+0) 0≤200000:=by
    have:=AQ (ts.take i) ((T:Int).toNat+0)
    have h2:=List.length_take_le i ts
    omega
   have E:mz (ts.take (i+1))=(mz (ts.take i)).set ((S:Int).toNat+0) ((mz (ts.take i)).getD ((S:Int).toNat+0) 0+1):=by
    rw[hsA];unfold fA sM;rw[if_neg hz,←bh,hS];rfl
   have E2:pT (ts.take (i+1))=(pT (ts.take i)).set ((T:Int).toNat+0) ((pT (ts.take i)).getD ((T:Int).toNat+0) 0+1):=by
    rw[Z9];unfold fD sM;rw[if_neg hz,←P8,hT];rfl
   refine Qs ?_
   refine RO.same (i+1) gv (Nat.sub_lt_sub_left gv (Nat.lt_succ_self i)) (aI rfl (aI rfl (aI rfl (aI rfl (aI rfl (aI rfl (trivial))))))) (aI rfl (aI rfl (aI rfl (aI rfl (aI rfl (aI (congrArg (fun l=>AO.one true 0 (.ints .i64 l 286)) E) (aI (congrArg (fun l=>AO.one true 0 (.ints .i64 l 30)) E2) trivial)))))))
 ·have WQ:i=ts.length:=by have q1:¬(i:Int)<(ts.length:Int):=of_decide_eq_false q1;omega
  subst WQ
  rw[List.take_length]
  rw[List.take_length]at y9 Re
  refine Qs ?_
  refine qk (i:=5) (fr:=mz ts) rfl y9.symm (by rw[y9];decide) fun g5 c5 Jp=>?_
  rw[hLA]at Jp⊢
  refine Qs ?_
  refine qk (i:=6) (fr:=pT ts) rfl Re.symm (by rw[Re];decide) fun g6 c6 Jo=>?_
  rw[hLD]at Jo⊢
  refine Qs ?_
  refine Mv (i:=7) (l:=bM (mz ts) 15) (n:=257) rfl rfl (by rw[T3];decide) Jp (by decide) ?_
  rw[T3,hA]
  refine Qs ?_
  refine Mv (i:=8) (l:=bM (pT ts) 15) (n:=1) rfl rfl (by rw[Zq];decide) Jo (by decide) ?_
  rw[Zq,hD]
  refine Qs ?_
  have Jp:(bM (mz ts) 15).length≤c5:=Jp
  have Jo:(bM (pT ts) 15).length≤c6:=Jo
  have h3:=h g5 c5 g6 c6 (by rw[Me,List.length_take];omega) (by rw[Us,List.length_take];omega)
  rw[Me,Us]at h3
  refine⟨.aE [],_,Vw.trans (Vw.short (i:=7) (g:=g5) (c:=c5) (k:=.u8) (n:=mA) (xs:=bM (mz ts) 15) rfl) (Vw.short (i:=8) (g:=g6) (c:=c6) (k:=.u8) (n:=mD) (xs:=bM (pT ts) 15) rfl),[.own 0,.own 1,.own 2,.own 7,.own 8],.aE [],ic (dX ts gt ct ((bM (mz ts) 15).take mA) g5 c5 ((bM (pT ts) 15).take mD) g6 c6) [] g0 c0,⟨⟨⟨rfl,rfl⟩,⟨rfl,rfl⟩,⟨rfl,rfl⟩,⟨rfl,rfl⟩,⟨rfl,rfl⟩,trivial⟩,rfl,⟨rfl,trivial,fun j=>rfl,trivial,trivial,trivial⟩,rfl,fun i hi=>?_⟩,h3⟩
  match i,hi with
  |0,_=>exact .inl rfl
  |1,_=>exact .inl rfl
  |2,_=>exact .inl rfl
end
end Go.Proofs.Ytibadaomjlkoaaa
open Go.RowKit
namespace Go.Proofs.Ytibadaomjlkoaaa
set_option maxRecDepth 10000
theorem Am {k:Nat}{lv:List (Nat×AV)}{d:Nat→Value}(h:Lb k lv=true):∀t,(mN lv d t).nb k=true:=by
 intro t
 simp only[mN]
 split
 ·rename_i v hv
  exact oQ h hv
 ·rfl
def runN (l:List Int)(i:Nat):Nat→Nat→Nat
 |0,n=>n
 |k+1,n=>if i+n<l.length∧l.getD (i+n) 0=l.getD i 0 then runN l i k (n+1)else n
theorem oK (l:List Int)(i:Nat):∀k n,i+n≤l.length→n≤runN l i k n∧i+runN l i k n≤l.length
 |0,n,h=>⟨Nat.le_refl _,h⟩
 |k+1,n,h=>by
  simp only[runN]
  split
  ·rename_i hc;have:=oK l i k (n+1) (by omega);omega
  ·omega
theorem G0 (l:List Int)(i:Nat):∀k n,(∀j,j<n→l.getD (i+j) 0=l.getD i 0)→∀j,j<runN l i k n→l.getD (i+j) 0=l.getD i 0
 |0,n,h,j,hj=>h j hj
 |k+1,n,h,j,hj=>by
  simp only[runN]at hj
  split at hj
  ·rename_i hc
   refine G0 l i k (n+1) (fun m hm=>?_) j hj
   rcases(show m<n∨m=n by omega)with h1|rfl
   ·exact h m h1
   ·exact hc.2
  ·exact h j hj
def aC (l:List Int)(i n:Nat):(Nat×Nat×Nat)×Nat:=
 if l.getD i 0=0∧11≤n then((18,min n 138-11,7),min n 138)
 else if l.getD i 0=0∧3≤n then((17,n-3,3),n)
 else if 0<i∧l.getD (i-1) 0=l.getD i 0∧3≤n then((16,min n 6-3,2),min n 6)
 else(((l.getD i 0).toNat,0,0),1)
def dc (l:List Int):Nat→Nat→List (Nat×Nat×Nat)
 |0,_=>[]
 |k+1,i=>if i<l.length then(aC l i (runN l i l.length 1)).1::dc l k (i+(aC l i (runN l i l.length 1)).2)else[]
def bt (l:List Int):List (Nat×Nat×Nat):=dc l l.length 0
theorem rl (l:List Int)(i n:Nat)(h:1≤n):1≤(aC l i n).2∧(aC l i n).2≤n:=by
 unfold aC
 split
 ·simp only;omega
 ·split
  ·simp only;omega
  ·split
   ·simp only;omega
   ·simp only;omega
theorem vu (l:List Int):∀(k k' i:Nat),l.length≤i+k→l.length≤i+k'→dc l k i=dc l k' i
 |0,0,i,_,_=>rfl
 |0,k'+1,i,h,_=>by simp only[dc];rw[if_neg (by omega)]
 |k+1,0,i,_,h=>by simp only[dc];rw[if_neg (by omega)]
 |k+1,k'+1,i,h1,h2=>by
  simp only[dc]
  split
  ·rename_i hc
   have:=oK l i l.length 1 (by omega)
   have:=rl l i (runN l i l.length 1) this.1
   rw[vu l k k' _ (by omega) (by omega)]
  ·rfl
theorem qa {l:List Int}{i:Nat}(h:i<l.length):dc l (l.length-i) i=(aC l i (runN l i l.length 1)).1::dc l (l.length-(i+(aC l i (runN l i l.length 1)).2)) (i+(aC l i (runN l i l.length 1)).2):=by
 have h1:=oK l i l.length 1 (by omega)
 have h2:=rl l i (runN l i l.length 1) h1.1
 rw[show l.length-i=(l.length-(i+1))+1 by omega]
 simp only[dc]
 rw[if_pos h,vu l _ (l.length-(i+(aC l i (runN l i l.length 1)).2)) _ (by omega) (by omega)]
theorem KD {l:List Int}(hl:∀x∈l,0≤x∧x<16){i n:Nat}(hi:i<l.length):(aC l i n).1.1<19∧(aC l i n).1.2.1<2^(aC l i n).1.2.2∧(aC l i n).1.2.2≤7:=by
 have hb:=hl (l.getD i 0) (by rw[List.getD_eq_getElem?_getD,List.getElem?_eq_getElem hi];exact List.getElem_mem _)
 unfold aC
 split
 ·refine⟨by show 18<19;decide,?_,by show 7≤7;decide⟩
  show min n 138-11<128;omega
 ·rename_i h1
  split
  ·rename_i h2
   refine⟨by show 17<19;decide,?_,by show 3≤7;decide⟩
   show n-3<8;omega
  ·split
   ·refine⟨by show 16<19;decide,?_,by show 2≤7;decide⟩
    show min n 6-3<4;omega
   ·refine⟨?_,by show 0<2^0;decide,by show 0≤7;decide⟩
    show(l.getD i 0).toNat<19;omega
section
variable{K Kp:AV→AH→Prop}{ts:List Tk}{gt ct:Nat}{A:List Int}{ga ca:Nat}{D:List Int}{gd cd:Nat}{row:List Bool}{g c:Nat}
def xp (ts:List Tk)(gt ct:Nat)(A:List Int)(ga ca:Nat)(D:List Int)(gd cd:Nat)(row:List Bool)(g c:Nat):AH:=
 [.one true 0 (.cells [.sl 1 g 0 (aU row).length c,.int .u32 (num (rest row)),.int .i64 ((row.length%8:Nat):Int),.sl 2 gt 0 ts.length ct,.sl 4 ga 0 A.length ca,.sl 5 gd 0 D.length cd]),
  .one true g (.ints .u8 (aU row) c),.one true gt (pH ts ct),.one true 0 (.cells [.ptr 0 0 0]),.one true ga (.ints .u8 A ca),.one true gd (.ints .u8 D cd)]
theorem NU (E:AH){v n:Int}(hv:0≤v)(hr:row.length≤8388608)(hc:(aU row).length≤c)
 (h:∀g' c',(aU (j6 row v n).1).length≤c'→K (.int .i64 (j6 row v n).2) (xp ts gt ct A ga ca D gd cd (j6 row v n).1 g' c'++E)):
 aa Try.prog 40 [.ptr 0 0 0,.int .u32 v,.int .i64 n] (xp ts gt ct A ga ca D gd cd row g c++E) K Kp:=by
 refine aa.lift [.own 0,.own 1,.own 2,.own 4,.own 5] (yx (X:=dX ts gt ct A ga ca D gd cd) (row:=row) (v:=v) (n:=n) (g:=g) (c:=c) (Kp:=fun _ _=>False) hv hr hc) rfl rfl ⟨⟨rfl,rfl⟩,⟨rfl,rfl⟩,⟨rfl,rfl⟩,⟨rfl,rfl⟩,⟨rfl,rfl⟩,trivial⟩ ⟨rfl,trivial,fun j=>rfl,trivial,trivial,trivial⟩ ?_ (fun _ _ h=>h.elim)
 rintro r M' ⟨g',c',rfl,rfl,h1,h2⟩
 refine⟨⟨rfl,rfl,rfl,rfl,rfl,rfl⟩,?_⟩
 have h3:=h g' c' h1
 rw[←List.append_nil (xp _ _ _ _ _ _ _ _ _ _ _ _++E)]at h3
 exact h3
theorem Mz (E:AH)(i j:Nat){o o2:Bool}{L:List Int}{g5 co c3 g6 co2 c4 s k:Nat}{ex:Int}(hi:E[i]?=some (.one o g5 (.ints .u16 (aA L).1 co)))(hj:E[j]?=some (.one o2 g6 (.ints .u8 L co2)))(he:aB L=0)(hs:j8 L (s:Int))(hk:k≤24)(hex:0≤ex∧ex<2^k)(hr:row.length+15+k≤8388608)(hc:(aU row).length≤c)
 (lN:(bu [.own 0,.own 1,.own 2,.own 4,.own 5,.cP (i+6) g5 0,.cP (j+6) g6 0]&&AV.nq [.own 0,.own 1,.own 2,.own 4,.own 5,.cP (i+6) g5 0,.cP (j+6) g6 0] [.ptr 0 0 0,.sl 5 0 0 (aA L).1.length c3,.sl 6 0 0 L.length c4,.agg [.int .i64 (s:Int),.int .i64 ex,.int .i64 (k:Int)]])=true)
 (h:∀g' c',(aU (row++(bf L s++bitsOf ex k))).length≤c'→K (.aE []) (xp ts gt ct A ga ca D gd cd (row++(bf L s++bitsOf ex k)) g' c'++E)):
 aa Try.prog 48 [.ptr 0 0 0,.sl (i+6) g5 0 (aA L).1.length c3,.sl (j+6) g6 0 L.length c4,.agg [.int .i64 (s:Int),.int .i64 ex,.int .i64 (k:Int)]] (xp ts gt ct A ga ca D gd cd row g c++E) K Kp:=by
 have h2:s<L.length:=by have:=hs.2.1;omega
 have qs:=hs.2.2
 rw[Int.toNat_natCast]at qs
 have Xk:0≤L.getD s 0∧L.getD s 0<256:=by omega
 obtain⟨rJ,gm⟩:=qV he hs
 rw[Int.toNat_natCast]at rJ gm
 have hp:=mf (show(L.getD s 0).toNat≤15 by omega)
 have Ve:=mf hk
 have e15:(2:Int)^15=32768:=by decide
 have e24:(2:Int)^24=16777216:=by decide
 replace gm:(aA L).1.getD s 0<65536:=by omega
 have L0:0≤ex∧ex<4294967296:=by omega
 refine aa.lift [.own 0,.own 1,.own 2,.own 4,.own 5,.cP (i+6) g5 0,.cP (j+6) g6 0] (JH (ts:=ts) (gt:=gt) (ct:=ct) (A:=A) (ga:=ga) (ca:=ca) (D:=D) (gd:=gd) (cd:=cd) (row:=row) (g:=g) (c:=c) (cs:=(aA L).1) (ls:=L) (c2:=co2) (c4:=c4) (c1:=co) (c3:=c3) (s:=s) (ex:=ex) (n:=(k:Int))
  (K:=fun r N=>∃g' c',r=.aE []∧N=ic (dX ts gt ct A ga ca D gd cd) (codeF row (aA L).1 L s ex (k:Int)) g' c'++[.one false 0 (.ints .u16 (aA L).1 co),.one false 0 (.ints .u8 L co2)]∧(aU (codeF row (aA L).1 L s ex (k:Int))).length≤c') (Kp:=fun _ _=>False)
  (by rw[(jm he).2];exact h2) h2 ⟨rJ,gm⟩ Xk L0 (by omega) hc (fun g' c' h1 _=>⟨g',c',rfl,rfl,h1⟩)) rfl lN ⟨⟨rfl,rfl⟩,⟨rfl,rfl⟩,⟨rfl,rfl⟩,⟨rfl,rfl⟩,⟨rfl,rfl⟩,⟨_,_,_,rfl,ao hi,cq.same rfl (fun h=>h)⟩,⟨_,_,_,rfl,ao hj,cq.same rfl (fun h=>h)⟩,trivial⟩ ⟨rfl,trivial,fun j=>rfl,trivial,trivial,trivial,trivial,trivial⟩ ?_ (fun _ _ h=>h.elim)
 rintro r M' ⟨g',c',rfl,rfl,h1⟩
 refine⟨⟨rfl,rfl,rfl,rfl,rfl,rfl,rfl,rfl⟩,?_⟩
 rw[lD he hs hk hex.2 hr]at h1
 have h3:=h g' c' h1
 rw[←lD he hs hk hex.2 hr,←List.append_nil (xp _ _ _ _ _ _ _ _ _ _ _ _++E)]at h3
 exact h3
theorem EV {M:AH}{p q0 q1 g0 g1:Nat}{x0 x1:List Int}{c0 c1 d0 d1:Nat}{o0 o1:Bool}(hl:1≤x0.length+x1.length∧x0.length+x1.length≤1000000)
 (hp:M[p]?=some (.one true 0 (.cells [.sl q0 g0 0 x0.length c0,.sl q1 g1 0 x1.length c1])))
 (h0:M[q0]?=some (.one o0 g0 (.ints .u8 x0 d0)))(h1:M[q1]?=some (.one o1 g1 (.ints .u8 x1 d1)))
 (h:∀g c,x0.length+x1.length≤c→K (.sl M.length g 0 (x0++x1).length c) (M++[.one true g (.ints .u8 (x0++x1) c)])):
 aa Try.prog 41 [.sl p 0 0 2 2] M K Kp:=by
 refine aa.lift [.dE p,.cP q0 g0 0,.cP q1 g1 0] (A0 (xs:=x0) (ys:=x1) (c1:=c0) (c2:=c1) (d1:=d0) (d2:=d1)
  (K:=fun r N=>∃g c,x0.length+x1.length≤c∧r=.sl 3 g 0 (x0++x1).length c∧N=[.one false 0 (.cells [.sl 1 0 0 x0.length c0,.sl 2 0 0 x1.length c1]),.one false 0 (.ints .u8 x0 d0),.one false 0 (.ints .u8 x1 d1),.one true g (.ints .u8 (x0++x1) c)])
  (Kp:=fun _ _=>False) hl (fun g c hc=>⟨g,c,hc,rfl,rfl⟩)) rfl rfl ⟨⟨rfl,_,hp,?_⟩,⟨_,_,_,rfl,ao h0,cq.same rfl (fun h=>h)⟩,⟨_,_,_,rfl,ao h1,cq.same rfl (fun h=>h)⟩,trivial⟩ ⟨rfl,trivial,trivial,trivial⟩ ?_ (fun _ _ h=>h.elim)
 ·simp[AO.rn,AO.ro,af.rn,AV.mX,AV.rn,sr,uB,uC,TE.i]
 rintro r M' ⟨g,c,hc,rfl,rfl⟩
 exact⟨⟨rfl,rfl,rfl,rfl⟩,h g c hc⟩
end
end Go.Proofs.Ytibadaomjlkoaaa
