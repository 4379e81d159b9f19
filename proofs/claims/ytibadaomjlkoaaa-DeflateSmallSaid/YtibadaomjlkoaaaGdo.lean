import Derived.Test.YtibadaomjlkoaaaGdj
import Derived.Test.YtibadaomjlkoaaaGdn
import Derived.Test.YtibadaomjlkoaaaGdh
import Derived.Test.YtibadaomjlkoaaaGdi
set_option linter.unusedVariables false
set_option linter.unusedSimpArgs false
open Go.RowKit
namespace Go.Proofs.Ytibadaomjlkoaaa
section
variable(xs:List Int)
def rK (a:Nat):Nat→Tk
 |0=>⟨xs.getD a 0,0,0⟩
 |D+1=>kS xs a (a-(D+1)) (rK a D)
def gB (key:Int×Int):Nat→Nat
 |0=>0
 |a+1=>if a+3≤xs.length∧eT xs a=key then a+1 else gB key a
def cG:Nat→Nat→List Tk
 |0,_=>[]
 |k+1,a=>if a<xs.length then rK xs a (min a 32768)::cG k (a+max (rK xs a (min a 32768)).l 1)else[]
structure HI (a:Nat)(s:pD):Prop where
 len:s.2.length=xs.length
 es:∀k,(bS k s.1).getD 0=(gB xs k a:Int)
 ah:∀i,i<a→i+3≤xs.length→s.2.getD i 0=(gB xs (eT xs i) i:Int)
end
section
variable{xs:List Int}
theorem mN (key:Int×Int):∀a,gB xs key a≤a
 |0=>Nat.le_refl _
 |a+1=>by
  simp only[gB]
  split
  ·omega
  ·have:=mN key a;omega
theorem o9 (key:Int×Int):∀a,(0<gB xs key a→gB xs key a-1+3≤xs.length∧eT xs (gB xs key a-1)=key)∧∀i,gB xs key a≤i→i<a→i+3≤xs.length→eT xs i≠key
 |0=>⟨fun h=>absurd h (Nat.lt_irrefl 0),fun i _ h=>absurd h (Nat.not_lt_zero i)⟩
 |a+1=>by
  have ih:=o9 key a
  simp only[gB]
  split
  ·rename_i hc
   exact⟨fun _=>⟨hc.1,hc.2⟩,fun i h1 h2=>by omega⟩
  ·rename_i hc
   refine⟨ih.1,fun i h1 h2 h3=>?_⟩
   rcases Nat.lt_succ_iff_lt_or_eq.1 h2 with h|rfl
   ·exact ih.2 i h1 h h3
   ·exact fun e=>hc ⟨h3,e⟩
theorem HI.note {a:Nat}{s:pD}(h:HI xs a s):HI xs (a+1) (iW xs a s):=by
 unfold iW
 split
 ·rename_i hc
  refine⟨by simp only[List.length_set];exact h.len,fun k=>?_,fun i hi h3=>?_⟩
  ·simp only
   rw[iC]
   simp only[gB]
   by_cases he:eT xs a=k
   ·rw[if_pos he.symm,if_pos ⟨hc,he⟩];rfl
   ·rw[if_neg (fun x=>he x.symm),if_neg (fun x=>he x.2)]
    exact h.es k
  ·simp only
   rw[iy]
   by_cases he:a=i
   ·subst he
    have hl:=h.len
    rw[if_pos ⟨rfl,by omega⟩]
    exact h.es _
   ·rw[if_neg (fun x=>he x.1)]
    exact h.ah i (by omega) h3
 ·rename_i hc
  refine⟨h.len,fun k=>?_,fun i hi h3=>?_⟩
  ·simp only[gB]
   rw[if_neg (fun x=>hc x.1)]
   exact h.es k
  ·exact h.ah i (by omega) h3
theorem HI.notes:∀(k a:Nat){s:pD},HI xs a s→HI xs (a+k) (bK xs k a s)
 |0,a,s,h=>h
 |k+1,a,s,h=>by
  have:=HI.notes k (a+1) h.note
  rw[show a+(k+1)=a+1+k by omega]
  exact this
theorem HI.start (xs:List Int):HI xs 0 ([],List.replicate xs.length 0):=
 ⟨List.length_replicate,fun k=>rfl,fun i h=>absurd h (Nat.not_lt_zero i)⟩
theorem yf (f a m:Nat):∀k n,n≤m→m≤n+k→(∀i,n≤i→i<m→a+i<xs.length∧xs.getD (f+i) 0=xs.getD (a+i) 0)→m≤jW xs f a k n
 |0,n,h1,h2,_=>by simp only[jW];omega
 |k+1,n,h1,h2,h=>by
  simp only[jW]
  by_cases he:n=m
  ·have hle:∀k n,n≤jW xs f a k n:=by
    intro k
    induction k with
    |zero=>intro n;exact Nat.le_refl _
    |succ k ih=>
     intro n
     simp only[jW]
     split
     ·have:=ih (n+1);omega
     ·exact Nat.le_refl _
   split
   ·have:=hle k (n+1);omega
   ·omega
  ·rw[if_pos (h n (Nat.le_refl _) (by omega))]
   exact yf f a m k (n+1) (by omega) (by omega) (fun i hi=>h i (by omega))
theorem Cs {f a:Nat}(hb:∀x∈xs,0≤x∧x<256)(ha:a+3≤xs.length)(hf:f<a):3≤dL xs f a↔eT xs f=eT xs a:=by
 constructor
 ·intro h
  have h0:=sP (xs:=xs) (f:=f) (a:=a) (i:=0) (by omega)
  have h1:=sP (xs:=xs) (f:=f) (a:=a) (i:=1) (by omega)
  have h2:=sP (xs:=xs) (f:=f) (a:=a) (i:=2) (by omega)
  unfold eT
  rw[Nat.add_zero,Nat.add_zero]at h0
  rw[h0,h1,h2]
 ·intro h
  unfold eT at h
  obtain⟨e0,e1⟩:=Prod.mk.inj h
  have hB:∀j,j<xs.length→0≤xs.getD j 0∧xs.getD j 0<256:=fun j hj=>rr hb hj
  have f1:=hB (f+1) (by omega)
  have f2:=hB (f+2) (by omega)
  have a1:=hB (a+1) (by omega)
  have a2:=hB (a+2) (by omega)
  unfold dL
  refine yf f a 3 258 0 (by decide) (by decide) (fun i _ hi=>⟨by omega,?_⟩)
  match i,hi with
  |0,_=>exact e0
  |1,_=>omega
  |2,_=>omega
theorem zJ {a f:Nat}{t:Tk}(h:¬3≤dL xs f a):kS xs a f t=t:=by unfold kS;rw[if_neg (fun x=>h x.1)]
theorem sL {a:Nat}{D D':Nat}(h:D≤D')(hn:∀d,D<d→d≤D'→kS xs a (a-d) (rK xs a D)=rK xs a D):rK xs a D'=rK xs a D:=by
 induction D' with
 |zero=>rw[show D=0 by omega]
 |succ D' ih=>
  rcases Nat.lt_succ_iff_lt_or_eq.1 (Nat.lt_succ_of_le h)with h1|rfl
  ·rw[rK,ih (by omega) (fun d h2 h3=>hn d h2 (by omega))]
   exact hn (D'+1) (by omega) (Nat.le_refl _)
  ·rfl
theorem Kk {a:Nat}{s:pD}(hb:∀x∈xs,0≤x∧x<256)(hs:HI xs a s)(ha:a+3≤xs.length):∀(k q:Nat)(t:Tk),q≤a→gB xs (eT xs a) q≤k→t=rK xs a (min (a-q) 32768)→
 dq xs s.2 a k (gB xs (eT xs a) q) t=rK xs a (min a 32768):=by
 have skip:∀q,q≤a→rK xs a (min (a-gB xs (eT xs a) q) 32768)=rK xs a (min (a-q) 32768):=by
  intro q hq
  have hl:=mN (xs:=xs) (eT xs a) q
  refine sL (by omega) (fun d h1 h2=>zJ (fun h3=>?_))
  have h4:=(Cs hb ha (show a-d<a by omega)).1 h3
  exact(o9 (eT xs a) q).2 (a-d) (by omega) (by omega) (by omega) h4
 intro k
 induction k with
 |zero=>
  intro q t hq hk ht
  have h0:gB xs (eT xs a) q=0:=by omega
  have h1:=skip q hq
  rw[h0,Nat.sub_zero]at h1
  rw[h0,dq,ht,h1]
 |succ k ih=>
  intro q t hq hk ht
  have h1:=skip q hq
  have hl:=mN (xs:=xs) (eT xs a) q
  have Jr:=(o9 (xs:=xs) (eT xs a) q).1
  obtain⟨p,hp⟩:∃p,gB xs (eT xs a) q=p:=⟨_,rfl⟩
  rw[hp]at h1 hl Jr hk⊢
  simp only[dq]
  split
  ·rename_i hc
   obtain⟨c1,c2,c3⟩:=hc
   obtain⟨k1,k2⟩:=Jr c1
   have FF:=hs.ah (p-1) (by omega) k1
   rw[k2]at FF
   rw[FF,Int.toNat_natCast]
   refine ih (p-1) _ (by omega) (by have:=mN (xs:=xs) (eT xs a) (p-1);omega) ?_
   rw[ht,←h1,show min (a-p) 32768=a-p by omega,show min (a-(p-1)) 32768=(a-p)+1 by omega,rK,show a-(a-p+1)=p-1 by omega]
  ·rename_i hc
   rw[ht,←h1]
   symm
   by_cases c1:0<p
   ·by_cases c2:a-(p-1)≤32768
    ·have c3:¬t.l<258:=fun c3=>hc ⟨c1,c2,c3⟩
     rw[ht,←h1]at c3
     refine sL (by omega) (fun d _ _=>?_)
     unfold kS
     rw[if_neg]
     intro x
     have:=(lE (xs:=xs) (f:=a-d) (a:=a) (by omega)).1
     omega
    ·rw[show min (a-p) 32768=min a 32768 by omega]
   ·rw[show min (a-p) 32768=min a 32768 by omega]
theorem N2 {a:Nat}{s:pD}(hb:∀x∈xs,0≤x∧x<256)(hs:HI xs a s)(ha:a<xs.length):qv xs s a=rK xs a (min a 32768):=by
 unfold qv
 split
 ·rename_i hc
  rw[hs.es,Int.toNat_natCast]
  exact Kk hb hs hc a a _ (Nat.le_refl _) (mN _ _) (by rw[Nat.sub_self];rfl)
 ·rename_i hc
  symm
  refine sL (D:=0) (Nat.zero_le _) (fun d _ _=>zJ (fun h=>?_))
  have:=(lE (xs:=xs) (f:=a-d) (a:=a) (by omega)).2
  omega
theorem AD (hb:∀x∈xs,0≤x∧x<256):∀(k a:Nat)(s:pD),HI xs a s→dH xs k a s []=cG xs k a
 |0,a,s,_=>rfl
 |k+1,a,s,hs=>by
  simp only[dH,cG]
  split
  ·rename_i hc
   rw[lC,N2 hb hs hc,AD hb k _ _ (hs.notes _ _)]
   rfl
  ·rfl
theorem EH (hb:∀x∈xs,0≤x∧x<256):bb xs=cG xs xs.length 0:=AD hb _ _ _ (HI.start xs)
end
end Go.Proofs.Ytibadaomjlkoaaa
open Go.RowKit
namespace Go.Proofs.Ytibadaomjlkoaaa
theorem J5 {s:Nat}(h:s<288):(aQ bC (s:Int)).length≤9:=by
 have h1:∀s,s<288→(bC.getD s 0).toNat≤9:=by decide+kernel
 rw[iL,Int.toNat_natCast];exact h1 s h
theorem J6 {s:Nat}(h:256≤s∧s<288):(aQ bC (s:Int)).length≤8:=by
 have h1:∀s,s<288→256≤s→(bC.getD s 0).toNat≤8:=by decide+kernel
 rw[iL,Int.toNat_natCast];exact h1 s h.2 h.1
theorem J3 {s:Nat}(h:s<32):(aQ cN (s:Int)).length=5:=by
 have h1:∀s,s<32→(cN.getD s 0).toNat=5:=by decide+kernel
 rw[iL,Int.toNat_natCast];exact h1 s h
theorem NO:(aQ bC 256).length=7:=by rw[iL];decide+kernel
theorem nE {n j:Nat}{c:Int}(h:j<n):(List.replicate n c).getD j 0=c:=by
 rw[List.getD_eq_getElem?_getD,List.getElem?_replicate,if_pos h];rfl
section
variable{n:Nat}{c:Int}
theorem AG {f a:Nat}(hf:f<a)(ha:a≤n):dL (List.replicate n c) f a=min 258 (n-a):=by
 have hl:(List.replicate n c).length=n:=List.length_replicate
 have h1:=lE (xs:=List.replicate n c) (f:=f) (a:=a) (by omega)
 have h2:min 258 (n-a)≤dL (List.replicate n c) f a:=by
  unfold dL
  refine yf f a _ 258 0 (Nat.zero_le _) (by omega) (fun i _ hi=>⟨by omega,?_⟩)
  rw[nE (by omega),nE (by omega)]
 omega
theorem Qi {a:Nat}(h1:1≤a)(ha:a<n):rK (List.replicate n c) a (min a 32768)=if 3≤min 258 (n-a)then⟨0,min 258 (n-a),1⟩else⟨c,0,0⟩:=by
 have gE:rK (List.replicate n c) a 1=if 3≤min 258 (n-a)then⟨0,min 258 (n-a),1⟩else⟨c,0,0⟩:=by
  show kS _ a (a-1) ⟨(List.replicate n c).getD a 0,0,0⟩=_
  have e:a-(a-1)=1:=by omega
  unfold kS
  rw[AG (by omega) (by omega),nE ha,e]
  by_cases h:3≤min 258 (n-a)
  ·rw[if_pos h]
   exact if_pos ⟨h,by show 0<_;omega⟩
  ·rw[if_neg h]
   exact if_neg (fun x=>h x.1)
 rw[sL (D:=1) (by omega) (fun d sQ CL=>?_),gE]
 unfold kS
 rw[gE,AG (by omega) (by omega),if_neg]
 rintro⟨x,y⟩
 rw[if_pos x]at y
 exact Nat.lt_irrefl _ y
theorem zK (hc:0≤c∧c<256):(kT bC cN ⟨c,0,0⟩).length≤9:=by
 unfold kT
 rw[if_pos rfl]
 obtain⟨k,rfl⟩:=Int.eq_ofNat_of_zero_le hc.1
 exact J5 (by omega)
theorem HZ {l:Nat}(hl:3≤l∧l≤258):(kT bC cN ⟨0,l,1⟩).length≤18:=by
 obtain⟨l1,l2,l3,l4,_⟩:=fk hl
 unfold kT
 rw[if_neg (show¬l=0 by omega)]
 have h1:=J6 (s:=(aX l).1) (by omega)
 have h2:(aW (1-1) 2)=(0,0,0):=by decide
 have h3:=J3 (s:=0) (by decide)
 simp only[List.length_append,ai,h2]
 have h4:(aQ cN ((0:Nat):Int)).length=5:=h3
 omega
theorem H0:(kT bC cN ⟨0,258,1⟩).length=13:=by
 have h2:(aW (1-1) 2)=(0,0,0):=by decide
 have h3:aX 258=(285,0,0):=by decide
 have h4:(aQ cN ((0:Nat):Int)).length=5:=J3 (by decide)
 have h5:(aQ bC ((285:Nat):Int)).length=8:=by rw[iL];decide+kernel
 unfold kT
 rw[if_neg (show¬(258:Nat)=0 by decide)]
 simp only[List.length_append,ai,h2,h3,h4,h5]
theorem tN (hc:0≤c∧c<256):∀(k a:Nat),1≤a→n≤a+k→a≤n→(bh bC cN (cG (List.replicate n c) k a)).length≤13*((n-a)/258)+18∧(n-a≤2→(bh bC cN (cG (List.replicate n c) k a)).length≤9*(n-a))
 |0,a,_,_,_=>⟨Nat.zero_le _,fun _=>Nat.zero_le _⟩
 |k+1,a,h1,h2,h3=>by
  have hl:(List.replicate n c).length=n:=List.length_replicate
  simp only[cG]
  rw[hl]
  by_cases ha:a<n
  ·rw[if_pos ha,Qi h1 ha]
   by_cases h:3≤min 258 (n-a)
   ·rw[if_pos h]
    simp only
    rw[show max (min 258 (n-a)) 1=min 258 (n-a) by omega]
    have ih:=tN hc k (a+min 258 (n-a)) (by omega) (by omega) (by omega)
    refine⟨?_,fun hh=>absurd hh (by omega)⟩
    unfold bh at ih⊢
    rw[List.flatMap_cons,List.length_append]
    by_cases aai:258≤n-a
    ·rw[show min 258 (n-a)=258 by omega]at ih⊢
     have:=H0
     have:=ih.1
     omega
    ·rw[show min 258 (n-a)=n-a by omega]at ih⊢
     have:=HZ (l:=n-a) (by omega)
     have:=ih.2 (by omega)
     omega
   ·rw[if_neg h]
    simp only
    rw[show max 0 1=1 from rfl]
    have ih:=tN hc k (a+1) (by omega) (by omega) (by omega)
    have hk:=zK hc
    unfold bh at ih⊢
    rw[List.flatMap_cons,List.length_append]
    have:=ih.2 (by omega)
    omega
  ·rw[if_neg ha]
   exact⟨Nat.zero_le _,fun _=>Nat.zero_le _⟩
/--A row of one byte is small. -/
theorem RZ (hc:0≤c∧c<256):8*(ek (List.replicate n c)).length≤13*(n/258)+60:=by
 have hb:∀x∈List.replicate n c,0≤x∧x<256:=fun x hx=>by rw[List.eq_of_mem_replicate hx];exact hc
 have h1:=(u3 (List.replicate n c)).2.1
 have h2:=oa (bx (bb (List.replicate n c)))
 have hl:(List.replicate n c).length=n:=List.length_replicate
 have h3:(bh bC cN (bb (List.replicate n c))).length≤13*(n/258)+27:=by
  rw[EH hb,hl]
  rcases Nat.eq_zero_or_pos n with hn|hn
  ·rw[hn];exact Nat.zero_le _
  ·obtain⟨m,hm⟩:∃m,n=m+1:=⟨n-1,by omega⟩
   have e1:cG (List.replicate n c) n 0=rK (List.replicate n c) 0 (min 0 32768)::cG (List.replicate n c) m (0+max (rK (List.replicate n c) 0 (min 0 32768)).l 1):=by
    rw[hm,cG,List.length_replicate,if_pos (Nat.succ_pos m)]
   rw[e1]
   have e0:rK (List.replicate n c) 0 (min 0 32768)=⟨c,0,0⟩:=by
    rw[Nat.zero_min,rK,nE hn]
   rw[e0]
   have ih:=(tN (n:=n) hc m (0+max 0 1) (by decide) (by omega) (by omega)).1
   have hk:=zK hc
   unfold bh at ih⊢
   rw[List.flatMap_cons,List.length_append]
   simp only at ih⊢
   omega
 have h4:=NO
 have h5:(bx (bb (List.replicate n c))).length=3+((bh bC cN (bb (List.replicate n c))).length+7):=by
  unfold bx;rw[List.length_append,List.length_append,ai,h4]
 omega
end
end Go.Proofs.Ytibadaomjlkoaaa
open Go.RowKit
namespace Go.Proofs.Ytibadaomjlkoaaa
def fj (k:Nat):Nat:=if 7<k then(k-4)/4 else 0
def eh (k:Nat):Nat:=if 3<k then(k-2)/2 else 0
def l8:Nat→Nat
 |0=>3
 |k+1=>l8 k+2^fj k
def fK:Nat→Nat
 |0=>1
 |k+1=>fK k+2^eh k
def zq (k:Nat):Nat×Nat:=if k=28 then(258,0)else(l8 k,fj k)
def mb (l:Nat):Nat→Nat
 |0=>0
 |k+1=>if(zq k).1≤l then(if 22<k then 8 else 7)+(zq k).2 else mb l k
def pt (d:Nat):Nat→Nat
 |0=>0
 |k+1=>if fK k≤d then 5+eh k else pt d k
def xT (t:Tk):Nat:=if 0<t.l then mb t.l 29+pt t.d 30 else if t.b<144 then 8 else 9
def iM (l:List Tk):Nat:=(l.map xT).sum
theorem nj:∀k,k<29→3≤l8 k∧l8 k≤300∧fj k≤6:=by decide+kernel
theorem kJ:∀k,k<30→1≤fK k∧fK k≤40000∧eh k≤14:=by decide+kernel
theorem Ja (k:Nat)(h:k<29):(zq k).1≤300∧(zq k).2≤6:=by
 have:=nj k h
 unfold zq
 split
 ·exact⟨by decide,by decide⟩
 ·exact⟨this.2.1,this.2.2⟩
theorem sO (l:Nat):∀k,k≤29→mb l k≤20
 |0,_=>Nat.zero_le _
 |k+1,h=>by
  have:=(Ja k h).2
  simp only[mb]
  split
  ·split<;>omega
  ·exact sO l k (by omega)
theorem sS (d:Nat):∀k,k≤30→pt d k≤20
 |0,_=>Nat.zero_le _
 |k+1,h=>by
  have:=(kJ k h).2.2
  simp only[pt]
  split
  ·omega
  ·exact sS d k (by omega)
theorem MX:∀l,l<259→3≤l→(aQ bC ((aX l).1:Nat)).length+(aX l).2.2=mb l 29:=by decide+kernel
theorem NX:∀d,d<1300→1≤d→(aQ cN ((aW (d-1) 2).1:Nat)).length+(aW (d-1) 2).2.2=pt d 30:=by decide+kernel
theorem MV:∀b,b<256→(aQ bC ((b:Nat):Int)).length=if b<144 then 8 else 9:=by decide+kernel
theorem NT:(aQ bC 256).length=7:=by decide+kernel
theorem Pk {t:Tk}(h1:t.l=0→0≤t.b∧t.b<256)(h2:t.l≠0→3≤t.l∧t.l≤258∧1≤t.d∧t.d<1300):(kT bC cN t).length=xT t:=by
 unfold kT xT
 by_cases h:t.l=0
 ·rw[if_pos h,if_neg (by omega)]
  obtain⟨a,b⟩:=h1 h
  obtain⟨n,hn⟩:∃n:Nat,t.b=(n:Int):=⟨t.b.toNat,by omega⟩
  rw[hn,MV n (by omega)]
  by_cases hc:n<144
  ·rw[if_pos hc,if_pos (by omega)]
  ·rw[if_neg hc,if_neg (by omega)]
 ·rw[if_neg h,if_pos (by omega)]
  obtain⟨a,b,c,d⟩:=h2 h
  have e1:=MX t.l (by omega) a
  have e2:=NX t.d d c
  simp only[List.length_append,ai]
  omega
theorem EI {xs:List Int}(hb:∀x∈xs,0≤x∧x<256)(hx:xs.length<1300):∀(a:Nat)(l:List Tk),jQ xs a l→(bh bC cN l).length=iM l
 |_,[],_=>rfl
 |a,t::l,h=>by
  cases h with
  |step ha ht h2=>
  have ih:=EI hb hx _ l h2
  have e:=Pk (t:=t) (fun h0=>by rw[(ht.one h0).1];exact rr hb ha) (fun h0=>by have r:=ht.rep h0;have:=ht.le;omega)
  unfold bh iM at*
  rw[List.flatMap_cons,List.length_append,ih,e,List.map_cons,List.sum_cons]
theorem Iv {xs:List Int}(hb:∀x∈xs,0≤x∧x<256)(hx:xs.length<1300):(bx (bb xs)).length=10+iM (bb xs):=by
 unfold bx
 rw[List.length_append,List.length_append,ai,EI hb hx 0 _ (fM xs),NT]
 omega
def aF (xs:List Int)(a:Nat):Nat→Nat×Nat
 |0=>(0,0)
 |D+1=>if(aF xs a D).1<dL xs (a-(D+1)) a then(dL xs (a-(D+1)) a,D+1)else aF xs a D
theorem Bs {xs:List Int}{a:Nat}(ha:a≤xs.length):∀D,(aF xs a D).1≤258∧(aF xs a D).2≤D∧a+(aF xs a D).1≤xs.length
 |0=>⟨Nat.zero_le _,Nat.le_refl _,ha⟩
 |D+1=>by
  have ih:=Bs ha D
  have:=lE (f:=a-(D+1)) ha
  simp only[aF]
  split
  ·exact⟨this.1,Nat.le_refl _,this.2⟩
  ·omega
theorem Br {xs:List Int}{a:Nat}:∀D,D≤a→(3≤(aF xs a D).1→rK xs a D=⟨0,(aF xs a D).1,(aF xs a D).2⟩)∧((aF xs a D).1<3→rK xs a D=⟨xs.getD a 0,0,0⟩)
 |0,_=>⟨fun h=>absurd h (by show¬3≤0;decide),fun _=>rfl⟩
 |D+1,hD=>by
  obtain⟨i1,i2⟩:=Br (xs:=xs) (a:=a) D (by omega)
  simp only[aF,rK,kS]
  rcases Nat.lt_or_ge (aF xs a D).1 3 with h|h
  ·rw[i2 h]
   by_cases hc:(aF xs a D).1<dL xs (a-(D+1)) a
   ·rw[if_pos hc]
    refine⟨fun h3=>?_,fun h3=>?_⟩
    ·have h3:3≤dL xs (a-(D+1)) a:=h3
     have hp:0<dL xs (a-(D+1)) a:=by omega
     rw[if_pos ⟨h3,hp⟩,show a-(a-(D+1))=D+1 by omega]
    ·have h3:dL xs (a-(D+1)) a<3:=h3
     rw[if_neg (by omega)]
   ·rw[if_neg hc]
    refine⟨fun h3=>by omega,fun _=>?_⟩
    rw[if_neg (by omega)]
  ·rw[i1 h]
   by_cases hc:(aF xs a D).1<dL xs (a-(D+1)) a
   ·rw[if_pos hc,if_pos ⟨by omega,hc⟩,show a-(a-(D+1))=D+1 by omega]
    exact⟨fun _=>rfl,fun h3=>absurd (show dL xs (a-(D+1)) a<3 from h3) (by omega)⟩
   ·rw[if_neg hc,if_neg (fun x=>hc x.2)]
    exact⟨fun _=>rfl,fun h3=>absurd h3 (by omega)⟩
def ke (xs:List Int)(a:Nat):Tk:=if 3≤(aF xs a (min a 32768)).1 then⟨0,(aF xs a (min a 32768)).1,(aF xs a (min a 32768)).2⟩else⟨xs.getD a 0,0,0⟩
theorem K7 {xs:List Int}{a:Nat}:ke xs a=rK xs a (min a 32768):=by
 obtain⟨i1,i2⟩:=Br (xs:=xs) (a:=a) (min a 32768) (by omega)
 unfold ke
 split
 ·rename_i h;rw[i1 h]
 ·rename_i h;rw[i2 (by omega)]
theorem jK {xs:List Int}{k a:Nat}(ha:a<xs.length):cG xs (k+1) a=ke xs a::cG xs k (a+max (ke xs a).l 1):=by
 rw[cG,if_pos ha,K7]
theorem mJ {xs:List Int}:∀(k k' a:Nat),xs.length≤a+k→xs.length≤a+k'→cG xs k a=cG xs k' a
 |0,0,a,_,_=>rfl
 |0,k'+1,a,h,_=>by simp only[cG];rw[if_neg (by omega)]
 |k+1,0,a,_,h=>by simp only[cG];rw[if_neg (by omega)]
 |k+1,k'+1,a,h1,h2=>by
  simp only[cG]
  split
  ·rw[mJ k k' _ (by omega) (by omega)]
  ·rfl
end Go.Proofs.Ytibadaomjlkoaaa
open Go.RowKit
namespace Go.Proofs.Ytibadaomjlkoaaa
set_option maxRecDepth 10000
section
variable{K Kp:AV→AH→Prop}
def R0 (a b:Nat):AV:=.aL [.int .i64 (a:Int),.int .i64 (b:Int)]
theorem MU {k:Nat}(h:k≠28):zq k=(l8 k,fj k):=if_neg h
theorem Au (i:Nat):(if 7<i then(((257+i:Nat):Int)-261).tdiv 4 else 0)=(fj i:Int):=by
 unfold fj
 split
 ·rw[show((257+i:Nat):Int)-261=((i-4:Nat):Int) by omega]
  rw[Int.tdiv_eq_ediv_of_nonneg (by omega)];rfl
 ·rfl
theorem Av (i:Nat):(if 3<i then((i:Int)-2).tdiv 2 else 0)=(eh i:Int):=by
 unfold eh
 split
 ·rw[show(i:Int)-2=((i-2:Nat):Int) by omega]
  rw[Int.tdiv_eq_ediv_of_nonneg (by omega)];rfl
 ·rfl
theorem HC {k:Nat}(hk:k<29)(h:K (R0 (zq k).1 (zq k).2) []):aa Try.prog 54 [.int .i64 ((257+k:Nat):Int)] [] K Kp:=by
 refine aa.bs ?_
 refine PS (fun _=>[]) [] rfl ?_
 refine Qs ?_
 refine And.intro (fun h1=>?_) (fun h1=>?_)
 ·have G9:k=28:=by have h1:((257+k:Nat):Int)=285:=of_decide_eq_true h1;omega
  subst G9
  refine Qs ?_
  exact⟨[],bJ _,trivial,rfl,h⟩
 ·have G9:k≠28:=by have h1:¬((257+k:Nat):Int)=285:=of_decide_eq_false h1;omega
  rw[MU G9]at h
  refine Qs ?_
  refine WO.go (σ:=Nat) (fun i=>i≤k) (fun i=>k-i) (fun i=>[(0,.int .i64 ((257+k:Nat):Int)),(4,.int .i64 (l8 i:Int)),(5,.int .i64 ((257+i:Nat):Int))]) (fun _=>[]) 0 ae mixed (by kernel_rfl)
   (Nat.zero_le _) (aI rfl (aI rfl (aI rfl (trivial)))) (trivial) (fun _=>rfl) (fun _=>rfl) (fun _=>trivial) ?_
  intro i hi d
  have hi:i≤k:=hi
  refine Qs ?_
  refine And.intro (fun q=>?_) (fun q=>?_)
  ·have hq:7<i:=by have q:(264:Int)<((257+i:Nat):Int):=of_decide_eq_true q;omega
   refine Qs ?_
   have em:(((257+i:Nat):Int)-261).tdiv 4=(fj i:Int):=by have:=Au i;rw[if_pos hq]at this;exact this
   rw[em]
   have hm:=(nj i (by omega)).2.2
   have hb:=(nj i (by omega)).2.1
   have es:ba .i64 1 ((fj i:Nat):Int)=((2^fj i:Nat):Int):=fN (by omega)
   have h2:(2:Nat)^fj i≤2^6:=Nat.pow_le_pow_right (by decide) hm
   have h3:0≤ba .i64 1 ((fj i:Nat):Int)∧ba .i64 1 ((fj i:Nat):Int)≤16384:=by rw[es];exact⟨Int.natCast_nonneg _,Int.ofNat_le.2 (Nat.le_trans h2 (by decide))⟩
   have h4:(l8 i:Int)+ba .i64 1 ((fj i:Nat):Int)=(l8 (i+1):Int):=by rw[es];simp only[l8];omega
   refine Qs ?_
   refine And.intro (fun r1=>?_) (fun r1=>?_)
   ·have nX:i=k:=by have r1:((257+i:Nat):Int)=((257+k:Nat):Int):=of_decide_eq_true r1;omega
    subst nX
    refine Qs ?_
    exact⟨[],bJ _,trivial,rfl,h⟩
   ·have nX:i<k:=by have r1:¬((257+i:Nat):Int)=((257+k:Nat):Int):=of_decide_eq_false r1;omega
    refine Qs ?_
    refine RO.same (i+1) nX (Nat.sub_lt_sub_left nX (Nat.lt_succ_self i)) (aI rfl (aI (congrArg (AV.int .i64) h4) (aI rfl trivial))) (trivial)
  ·have hq:¬7<i:=by have q:¬(264:Int)<((257+i:Nat):Int):=of_decide_eq_false q;omega
   refine Qs ?_
   have em:(0:Int)=(fj i:Int):=by have:=Au i;rw[if_neg hq]at this;exact this
   rw[em]
   have hm:=(nj i (by omega)).2.2
   have hb:=(nj i (by omega)).2.1
   have es:ba .i64 1 ((fj i:Nat):Int)=((2^fj i:Nat):Int):=fN (by omega)
   have h2:(2:Nat)^fj i≤2^6:=Nat.pow_le_pow_right (by decide) hm
   have h3:0≤ba .i64 1 ((fj i:Nat):Int)∧ba .i64 1 ((fj i:Nat):Int)≤16384:=by rw[es];exact⟨Int.natCast_nonneg _,Int.ofNat_le.2 (Nat.le_trans h2 (by decide))⟩
   have h4:(l8 i:Int)+ba .i64 1 ((fj i:Nat):Int)=(l8 (i+1):Int):=by rw[es];simp only[l8];omega
   refine Qs ?_
   refine And.intro (fun r1=>?_) (fun r1=>?_)
   ·have nX:i=k:=by have r1:((257+i:Nat):Int)=((257+k:Nat):Int):=of_decide_eq_true r1;omega
    subst nX
    refine Qs ?_
    exact⟨[],bJ _,trivial,rfl,h⟩
   ·have nX:i<k:=by have r1:¬((257+i:Nat):Int)=((257+k:Nat):Int):=of_decide_eq_false r1;omega
    refine Qs ?_
    refine RO.same (i+1) nX (Nat.sub_lt_sub_left nX (Nat.lt_succ_self i)) (aI rfl (aI (congrArg (AV.int .i64) h4) (aI rfl trivial))) (trivial)
theorem Hq {k:Nat}(hk:k<30)(h:K (R0 (fK k) (eh k)) []):aa Try.prog 55 [.int .i64 (k:Int)] [] K Kp:=by
 refine aa.bs ?_
 refine PR (fun _=>[]) [] rfl ?_
 refine Qs ?_
 refine WO.go (σ:=Nat) (fun i=>i≤k) (fun i=>k-i) (fun i=>[(0,.int .i64 (k:Int)),(4,.int .i64 (fK i:Int)),(5,.int .i64 (i:Int))]) (fun _=>[]) 0 ae mixed (by kernel_rfl)
  (Nat.zero_le _) (aI rfl (aI rfl (aI rfl (trivial)))) (trivial) (fun _=>rfl) (fun _=>rfl) (fun _=>trivial) ?_
 intro i hi d
 have hi:i≤k:=hi
 refine Qs ?_
 refine And.intro (fun q=>?_) (fun q=>?_)
 ·have hq:3<i:=by have q:(3:Int)<(i:Int):=of_decide_eq_true q;omega
  refine Qs ?_
  have em:((i:Int)-2).tdiv 2=(eh i:Int):=by have:=Av i;rw[if_pos hq]at this;exact this
  rw[em]
  have hm:=(kJ i (by omega)).2.2
  have hb:=(kJ i (by omega)).2.1
  have es:ba .i64 1 ((eh i:Nat):Int)=((2^eh i:Nat):Int):=fN (by omega)
  have h2:(2:Nat)^eh i≤2^14:=Nat.pow_le_pow_right (by decide) hm
  have h3:0≤ba .i64 1 ((eh i:Nat):Int)∧ba .i64 1 ((eh i:Nat):Int)≤16384:=by rw[es];exact⟨Int.natCast_nonneg _,Int.ofNat_le.2 (Nat.le_trans h2 (by decide))⟩
  have h4:(fK i:Int)+ba .i64 1 ((eh i:Nat):Int)=(fK (i+1):Int):=by rw[es];simp only[fK];omega
  refine Qs ?_
  refine And.intro (fun r1=>?_) (fun r1=>?_)
  ·have nX:i=k:=by have r1:(i:Int)=(k:Int):=of_decide_eq_true r1;omega
   subst nX
   refine Qs ?_
   exact⟨[],bJ _,trivial,rfl,h⟩
  ·have nX:i<k:=by have r1:¬(i:Int)=(k:Int):=of_decide_eq_false r1;omega
   refine Qs ?_
   refine RO.same (i+1) nX (Nat.sub_lt_sub_left nX (Nat.lt_succ_self i)) (aI rfl (aI (congrArg (AV.int .i64) h4) (aI rfl trivial))) (trivial)
 ·have hq:¬3<i:=by have q:¬(3:Int)<(i:Int):=of_decide_eq_false q;omega
  refine Qs ?_
  have em:(0:Int)=(eh i:Int):=by have:=Av i;rw[if_neg hq]at this;exact this
  rw[em]
  have hm:=(kJ i (by omega)).2.2
  have hb:=(kJ i (by omega)).2.1
  have es:ba .i64 1 ((eh i:Nat):Int)=((2^eh i:Nat):Int):=fN (by omega)
  have h2:(2:Nat)^eh i≤2^14:=Nat.pow_le_pow_right (by decide) hm
  have h3:0≤ba .i64 1 ((eh i:Nat):Int)∧ba .i64 1 ((eh i:Nat):Int)≤16384:=by rw[es];exact⟨Int.natCast_nonneg _,Int.ofNat_le.2 (Nat.le_trans h2 (by decide))⟩
  have h4:(fK i:Int)+ba .i64 1 ((eh i:Nat):Int)=(fK (i+1):Int):=by rw[es];simp only[fK];omega
  refine Qs ?_
  refine And.intro (fun r1=>?_) (fun r1=>?_)
  ·have nX:i=k:=by have r1:(i:Int)=(k:Int):=of_decide_eq_true r1;omega
   subst nX
   refine Qs ?_
   exact⟨[],bJ _,trivial,rfl,h⟩
  ·have nX:i<k:=by have r1:¬(i:Int)=(k:Int):=of_decide_eq_false r1;omega
   refine Qs ?_
   refine RO.same (i+1) nX (Nat.sub_lt_sub_left nX (Nat.lt_succ_self i)) (aI rfl (aI (congrArg (AV.int .i64) h4) (aI rfl trivial))) (trivial)
theorem N4 {M:AH}{k:Nat}{v:Int}(hv:v=((257+k:Nat):Int))(hk:k<29)(h:K (R0 (zq k).1 (zq k).2) M):aa Try.prog 54 [.int .i64 v] M K Kp:=by
 subst hv
 exact aa.RV (v:=R0 (zq k).1 (zq k).2) (HC hk ⟨rfl,rfl⟩) (fun _=>rfl) rfl (fun _=>rfl) h
theorem NQ {M:AH}{k:Nat}(hk:k<30)(h:K (R0 (fK k) (eh k)) M):aa Try.prog 55 [.int .i64 (k:Int)] M K Kp:=
 aa.RV (v:=R0 (fK k) (eh k)) (Hq hk ⟨rfl,rfl⟩) (fun _=>rfl) rfl (fun _=>rfl) h
end
end Go.Proofs.Ytibadaomjlkoaaa
open Go.RowKit
namespace Go.Proofs.Ytibadaomjlkoaaa
set_option maxRecDepth 10000
section
variable{K Kp:AV→AH→Prop}
theorem xZ {n:Nat}(hn:n≤60000)(h:K (.int .i64 ((n+5:Nat):Int)) []):aa Try.prog 11 [.int .i64 (n:Int)] [] K Kp:=by
 refine aa.bs ?_
 refine Qc (fun _=>[]) [] rfl ?_
 refine Qs ?_
 refine WO.rounds 1 ae mixed (by kernel_rfl) ?_
 refine Qs ?_
 refine And.intro (fun q=>?_) (fun q=>?_)
 ·have q:(65535:Int)<(n:Int):=of_decide_eq_true q
  omega
 ·refine Qs ?_
  have e:(n:Int)+5=((n+5:Nat):Int):=by omega
  exact⟨[],bJ _,trivial,rfl,h⟩
theorem HA {l d:Nat}(h:K (.int .i64 ((mb l 29+pt d 30:Nat):Int)) []):aa Try.prog 28 [.int .i64 (l:Int),.int .i64 (d:Int)] [] K Kp:=by
 refine aa.bs ?_
 refine P6 (fun _=>[]) [] rfl ?_
 refine Qs ?_
 refine WO.go (σ:=Nat) (fun i=>i≤29) (fun i=>29-i) (fun i=>[(0,.int .i64 (l:Int)),(1,.int .i64 (d:Int)),(5,.int .i64 (mb l i:Int)),(6,.int .i64 ((257+i:Nat):Int))]) (fun _=>[]) 0 ae mixed (by kernel_rfl)
  (Nat.zero_le _) (aI rfl (aI rfl (aI rfl (aI rfl (trivial))))) (trivial) (fun _=>rfl) (fun _=>rfl) (fun _=>trivial) ?_
 intro i hi d1
 have hi:i≤29:=hi
 refine Qs ?_
 refine And.intro (fun q=>?_) (fun q=>?_)
 ·have hq:i<29:=by have q:((257+i:Nat):Int)≤285:=of_decide_eq_true q;omega
  have hle:=Ja i hq
  refine Qs ?_
  refine N4 rfl hq ?_
  refine Qs ?_
  refine And.intro (fun q2=>?_) (fun q2=>?_)
  ·have cI:(zq i).1≤l:=by have q2:((zq i).1:Int)≤(l:Int):=of_decide_eq_true q2;omega
   refine Qs ?_
   refine And.intro (fun q3=>?_) (fun q3=>?_)
   ·have Xc:22<i:=by have q3:(279:Int)<((257+i:Nat):Int):=of_decide_eq_true q3;omega
    have e:(8:Int)+((zq i).2:Int)=(mb l (i+1):Int):=by rw[mb,if_pos cI,if_pos Xc];omega
    refine Qs ?_
    refine RO.same (i+1) hq (Nat.sub_lt_sub_left hq (Nat.lt_succ_self i)) (aI rfl (aI rfl (aI (congrArg (AV.int .i64) e) (aI rfl trivial)))) (trivial)
   ·have Xc:¬22<i:=by have q3:¬(279:Int)<((257+i:Nat):Int):=of_decide_eq_false q3;omega
    have e:(7:Int)+((zq i).2:Int)=(mb l (i+1):Int):=by rw[mb,if_pos cI,if_neg Xc];omega
    refine Qs ?_
    refine RO.same (i+1) hq (Nat.sub_lt_sub_left hq (Nat.lt_succ_self i)) (aI rfl (aI rfl (aI (congrArg (AV.int .i64) e) (aI rfl trivial)))) (trivial)
  ·have cI:¬(zq i).1≤l:=by have q2:¬((zq i).1:Int)≤(l:Int):=of_decide_eq_false q2;omega
   have e:(mb l i:Int)=(mb l (i+1):Int):=by rw[mb,if_neg cI]
   refine Qs ?_
   refine RO.same (i+1) hq (Nat.sub_lt_sub_left hq (Nat.lt_succ_self i)) (aI rfl (aI rfl (aI (congrArg (AV.int .i64) e) (aI rfl trivial)))) (trivial)
 ·have hq:i=29:=by have q:¬((257+i:Nat):Int)≤285:=of_decide_eq_false q;omega
  subst hq
  have Xv:=sO l 29 (Nat.le_refl _)
  obtain⟨L,hL⟩:∃L,mb l 29=L:=⟨_,rfl⟩
  rw[hL]at h Xv
  rw[hL]
  refine Qs ?_
  refine WO.go (σ:=Nat) (fun i=>i≤30) (fun i=>30-i) (fun i=>[(1,.int .i64 (d:Int)),(5,.int .i64 (L:Int)),(9,.int .i64 (pt d i:Int)),(10,.int .i64 (i:Int))]) (fun _=>[]) 0 ae mixed (by kernel_rfl)
   (Nat.zero_le _) (aI rfl (aI rfl (aI rfl (aI rfl (trivial))))) (trivial) (fun _=>rfl) (fun _=>rfl) (fun _=>trivial) ?_
  intro i hi d2
  have hi:i≤30:=hi
  refine Qs ?_
  refine And.intro (fun q=>?_) (fun q=>?_)
  ·have hq:i<30:=by have q:(i:Int)<30:=of_decide_eq_true q;omega
   have hle:=kJ i hq
   refine Qs ?_
   refine NQ hq ?_
   refine Qs ?_
   refine And.intro (fun q2=>?_) (fun q2=>?_)
   ·have cI:fK i≤d:=by have q2:(fK i:Int)≤(d:Int):=of_decide_eq_true q2;omega
    have e:(5:Int)+(eh i:Int)=(pt d (i+1):Int):=by rw[pt,if_pos cI];omega
    refine Qs ?_
    refine RO.same (i+1) hq (Nat.sub_lt_sub_left hq (Nat.lt_succ_self i)) (aI rfl (aI rfl (aI (congrArg (AV.int .i64) e) (aI rfl trivial)))) (trivial)
   ·have cI:¬fK i≤d:=by have q2:¬(fK i:Int)≤(d:Int):=of_decide_eq_false q2;omega
    have e:(pt d i:Int)=(pt d (i+1):Int):=by rw[pt,if_neg cI]
    refine Qs ?_
    refine RO.same (i+1) hq (Nat.sub_lt_sub_left hq (Nat.lt_succ_self i)) (aI rfl (aI rfl (aI (congrArg (AV.int .i64) e) (aI rfl trivial)))) (trivial)
  ·have hq:i=30:=by have q:¬(i:Int)<30:=of_decide_eq_false q;omega
   subst hq
   have aac:=sS d 30 (Nat.le_refl _)
   refine Qs ?_
   exact⟨[],bJ _,trivial,rfl,h⟩
theorem NZ {M:AH}{l d:Nat}(h:K (.int .i64 ((mb l 29+pt d 30:Nat):Int)) M):aa Try.prog 28 [.int .i64 (l:Int),.int .i64 (d:Int)] M K Kp:=
 aa.RV (v:=.int .i64 ((mb l 29+pt d 30:Nat):Int)) (HA ⟨rfl,rfl⟩) (fun _=>rfl) rfl (fun _=>rfl) h
theorem B0 {M:AH}{n:Nat}(hn:n≤60000)(h:K (.int .i64 ((n+5:Nat):Int)) M):aa Try.prog 11 [.int .i64 (n:Int)] M K Kp:=
 aa.RV (v:=.int .i64 ((n+5:Nat):Int)) (xZ hn ⟨rfl,rfl⟩) (fun _=>rfl) rfl (fun _=>rfl) h
theorem AB {xs:List Int}{c c0:Nat}{a d:Nat}(hx:xs.length≤1000000)(hd:d≤a)(ha:a≤xs.length)(h:K (.int .i64 (dL xs (a-d) a:Nat)) [.one false 0 (.ints .u8 xs c)]):
 aa Try.prog 58 [.sl 0 0 0 xs.length c0,.int .i64 (a:Int),.int .i64 (d:Int)] [.one false 0 (.ints .u8 xs c)] K Kp:=by
 refine PQ (fun _=>[0]) [] rfl ?_
 refine Qs ?_
 refine WO.go (σ:=Nat) (fun n=>n≤258∧a+n≤xs.length∧jW xs (a-d) a (258-n) n=dL xs (a-d) a) (fun n=>258-n) (fun n=>[(0,.sl 0 0 0 xs.length c0),(1,.int .i64 (a:Int)),(2,.int .i64 (d:Int)),(7,.int .i64 (n:Int))])
  (fun _=>[.one false 0 (.ints .u8 xs c)]) 0 ae mixed (by kernel_rfl) ⟨by decide,ha,rfl⟩ (aI rfl (aI rfl (aI rfl (aI rfl (trivial))))) (aI rfl (trivial)) (fun _=>rfl) (fun _=>rfl) (fun _=>⟨trivial,trivial⟩) ?_
 rintro n ⟨h1,h2,h3⟩ d1
 have e1:(a:Int)+(n:Int)-(d:Int)=((a-d+n:Nat):Int):=by omega
 refine Qs ?_
 refine And.intro (fun q1=>?_) (fun q1=>?_)
 ·have hn:n<258:=by simp only[decide_eq_true_eq]at q1;omega
  refine Qs ?_
  refine And.intro (fun q2=>?_) (fun q2=>?_)
  ·have G8:a+n<xs.length:=by simp only[decide_eq_true_eq]at q2;omega
   refine Qs ?_
   refine And.intro (fun q3=>?_) (fun q3=>?_)
   ·have e3:xs.getD (a+n) 0=xs.getD ((a:Int)+(n:Int)-(d:Int)).toNat 0:=of_decide_eq_true q3
    rw[e1,Int.toNat_natCast]at e3
    refine Qs ?_
    refine RO.same (n+1) ⟨by omega,G8,?_⟩ (show 258-(n+1)<258-n by omega) (aI rfl (aI rfl (aI rfl (aI rfl (trivial))))) (aI rfl (trivial))
    rw[←h3,show 258-n=(258-(n+1))+1 by omega,jW,if_pos ⟨G8,e3.symm⟩]
   ·have e3:¬xs.getD (a+n) 0=xs.getD ((a:Int)+(n:Int)-(d:Int)).toNat 0:=of_decide_eq_false q3
    rw[e1,Int.toNat_natCast]at e3
    refine Qs ?_
    rw[←h3,show 258-n=(257-n)+1 by omega,jW,if_neg (fun x=>e3 x.2.symm)]at h
    exact h
  ·have G8:¬a+n<xs.length:=by simp only[decide_eq_false_iff_not]at q2;omega
   refine Qs ?_
   rw[←h3,show 258-n=(257-n)+1 by omega,jW,if_neg (fun x=>G8 x.1)]at h
   exact h
 ·have hn:n=258:=by simp only[decide_eq_false_iff_not]at q1;omega
  subst hn
  refine Qs ?_
  rw[←h3]at h
  exact h
theorem GQ {xs:List Int}{c c0:Nat}{a d:Nat}{E:AH}(hx:xs.length≤1000000)(hd:d≤a)(ha:a≤xs.length)(h:K (.int .i64 (dL xs (a-d) a:Nat)) (.one false 0 (.ints .u8 xs c)::E)):
 aa Try.prog 58 [.sl 0 0 0 xs.length c0,.int .i64 (a:Int),.int .i64 (d:Int)] (.one false 0 (.ints .u8 xs c)::E) K Kp:=by
 refine aa.lift [.e9 0] (AB (xs:=xs) (c:=c) (c0:=c0) (K:=fun r N=>r=.int .i64 (dL xs (a-d) a:Nat)∧N=[.one false 0 (.ints .u8 xs c)]) (Kp:=fun _ _=>False) hx hd ha ⟨rfl,rfl⟩)
  rfl rfl ⟨⟨rfl,_,rfl,rfl⟩,trivial⟩ ⟨trivial,trivial⟩ ?_ (fun _ _ h=>h.elim)
 rintro r M' ⟨rfl,rfl⟩
 refine⟨⟨rfl,rfl⟩,?_⟩
 rw[←List.append_nil (AO.one false 0 (.ints .u8 xs c)::E)]at h
 exact h
theorem yA {xs:List Int}{c c0:Nat}(hx:xs.length≤60000)(hc:xs.length≤c0)(r7:c0≤c)(hb:∀x∈xs,0≤x∧x<256)
 (h:∀g co,(bb xs).length≤co→K (.sl 1 g 0 (bb xs).length co) [.one false 0 (.ints .u8 xs c),.one true g (jn (bb xs) co)]):
 aa Try.prog 27 [.sl 0 0 0 xs.length c0] [.one false 0 (.ints .u8 xs c)] K Kp:=by
 refine aa.cU ?_
 refine P7 (fun _=>[0]) [] rfl ?_
 refine Qs ?_
 refine WO.KW (σ:=Nat×List Tk×Nat×Nat) (fun(a,out,g,co)=>a≤xs.length∧out.length≤co∧out.length≤a∧out++cG xs (xs.length-a) a=bb xs) (fun(a,_)=>xs.length-a)
  (fun(a,out,g,co)=>[(0,.sl 0 0 0 xs.length c0),(3,.sl 1 g 0 out.length co),(4,.int .i64 (a:Int))])
  (fun(a,out,g,co)=>[.one false 0 (.ints .u8 xs c),.one true g (jn out co)]) (0,[],0,0) ae mixed (by kernel_rfl)
  [(0,.sl 0 0 0 xs.length c0),(3,.ns),(4,.int .i64 ((0:Nat):Int))] _ ⟨Nat.zero_le _,Nat.le_refl _,Nat.le_refl _,(EH hb).symm⟩ (aI rfl (aI rfl (aI rfl (trivial)))) rfl
  (Vw.yv (x:=jn [] 0) ⟨rfl,rfl⟩ (And.intro (.inl rfl) (And.intro (.inr ⟨rfl,rfl⟩) (And.intro (.inl rfl) trivial)))) (aI rfl (aI rfl (trivial))) (fun _=>rfl) (fun _=>rfl) (fun _=>⟨trivial,fun j=>rfl,trivial⟩) ?_
 rintro⟨a,out,g,co⟩ ⟨i1,i3,i4,i5⟩ d
 refine Qs ?_
 refine And.intro (fun q1=>?_) (fun q1=>?_)
 ·have ha:a<xs.length:=by simp only[decide_eq_true_eq]at q1;omega
  refine Qs ?_
  refine WO.go (σ:=Nat×Nat) (fun(D,e)=>D≤min a 32768∧e=D+1) (fun(D,e)=>min a 32768-D)
   (fun(D,e)=>[(0,.sl 0 0 0 xs.length c0),(3,.sl 1 g 0 out.length co),(4,.int .i64 (a:Int)),(5,.int .i64 ((aF xs a D).1:Int)),(6,.int .i64 ((aF xs a D).2:Int)),(7,.int .i64 (e:Int))])
   (fun(D,e)=>[.one false 0 (.ints .u8 xs c),.one true g (jn out co)]) (0,1) ae mixed (by kernel_rfl) ⟨Nat.zero_le _,rfl⟩ (aI rfl (aI rfl (aI rfl (aI rfl (aI rfl (aI rfl (trivial))))))) (aI rfl (aI rfl (trivial))) (fun _=>rfl) (fun _=>rfl) (fun _=>⟨trivial,fun j=>rfl,trivial⟩) ?_
  rintro⟨D,e⟩ ⟨hD,he⟩ d2
  have xu:=Bs (Nat.le_of_lt ha) D
  refine Qs ?_
  refine And.intro (fun r1=>?_) (fun r1=>?_)
  ·have r1:D+1≤32768:=by have r1:(e:Int)≤32768:=of_decide_eq_true r1;omega
   refine Qs ?_
   refine And.intro (fun r2=>?_) (fun r2=>?_)
   ·have r2:D+1≤a:=by have r2:(e:Int)≤(a:Int):=of_decide_eq_true r2;omega
    have hlm:=lE (f:=a-e) (Nat.le_of_lt ha)
    refine Qs ?_
    refine GQ (by omega) (by omega) (Nat.le_of_lt ha) ?_
    have ew:e+1=D+1+1:=by omega
    refine Qs ?_
    refine And.intro (fun r3=>?_) (fun r3=>?_)
    ·have r3:(aF xs a D).1<dL xs (a-e) a:=by have r3:((aF xs a D).1:Int)<(dL xs (a-e) a:Int):=of_decide_eq_true r3;omega
     have eb:aF xs a (D+1)=(dL xs (a-e) a,e):=by subst he;rw[aF,if_pos r3]
     refine Qs ?_
     refine RO.same (D+1,e+1) ⟨by omega,ew⟩ (show min a 32768-(D+1)<min a 32768-D by omega) (aI rfl (aI rfl (aI rfl (aI (by rw[eb];rfl) (aI (by rw[eb];rfl) (aI rfl trivial)))))) (aI rfl (aI rfl (trivial)))
    ·have r3:¬(aF xs a D).1<dL xs (a-e) a:=by have r3:¬((aF xs a D).1:Int)<(dL xs (a-e) a:Int):=of_decide_eq_false r3;omega
     have eb:aF xs a (D+1)=aF xs a D:=by subst he;rw[aF,if_neg r3]
     refine Qs ?_
     refine RO.same (D+1,e+1) ⟨by omega,ew⟩ (show min a 32768-(D+1)<min a 32768-D by omega) (aI rfl (aI rfl (aI rfl (aI (by rw[eb];rfl) (aI (by rw[eb];rfl) (aI rfl trivial)))))) (aI rfl (aI rfl (trivial)))
   ·have r2:¬D+1≤a:=by have r2:¬(e:Int)≤(a:Int):=of_decide_eq_false r2;omega
    have Up:D=min a 32768:=by omega
    refine Qs ?_
    refine And.intro (fun r3=>?_) (fun r3=>?_)
    ·have r3:3≤(aF xs a D).1:=by have r3:(3:Int)≤((aF xs a D).1:Int):=of_decide_eq_true r3;omega
     have hB:ke xs a=⟨0,(aF xs a D).1,(aF xs a D).2⟩:=(by unfold ke;rw[←Up,if_pos r3])
     have yP:(out++[ke xs a])++cG xs (xs.length-(a+(aF xs a D).1)) (a+(aF xs a D).1)=bb xs:=by
      rw[←i5,show xs.length-a=(xs.length-(a+1))+1 by omega,jK ha,List.append_assoc]
      rw[show max (ke xs a).l 1=(aF xs a D).1 by rw[hB];show max (aF xs a D).1 1=_;omega]
      rw[mJ (xs.length-(a+1)) (xs.length-(a+(aF xs a D).1)) _ (by omega) (by omega)]
      rfl
     rw[hB]at yP
     refine Qs ?_
     refine And.intro (fun q hq=>?_) ?_
     ·obtain rfl:q=0:=by have:q<1:=hq;omega
      exact⟨rfl,rfl⟩
     refine Qs ?_
     refine⟨fun j=>((out++[(⟨0,(aF xs a D).1,(aF xs a D).2⟩:Tk)]).getD j default).row,fun q hq=>?_,fun dE j5=>?_⟩
     ·by_cases cI:q<out.length
      ·exact((bQ hq).trans (if_pos cI)).trans (if_pos cI).symm
      ·obtain rfl:q=out.length:=by have:q<out.length+1:=hq;omega
       refine((bQ hq).trans (if_neg cI)).trans (Eq.trans ?_ (if_neg cI).symm)
       rw[Nat.sub_self]
       rfl
     have hE:jn (out++[(⟨0,(aF xs a D).1,(aF xs a D).2⟩:Tk)]) dE=.cJ 3 (out.length+1) (fun j=>((out++[(⟨0,(aF xs a D).1,(aF xs a D).2⟩:Tk)]).getD j default).row) dE:=by unfold jn;rw[List.length_append];rfl
     refine Qs ?_
     refine RO.same (a+(aF xs a D).1,out++[(⟨0,(aF xs a D).1,(aF xs a D).2⟩:Tk)],g+1,dE) ⟨by omega,by rw[List.length_append];exact j5,by rw[List.length_append];show out.length+1≤_;omega,yP⟩ (show xs.length-(a+(aF xs a D).1)<xs.length-a by omega)
      (aI rfl (aI (by rw[List.length_append];rfl) (aI rfl trivial))) (aI rfl (aI (congrArg (AO.one true (g+1)) hE) (bJ _)))
    ·have r3:¬3≤(aF xs a D).1:=by have r3:¬(3:Int)≤((aF xs a D).1:Int):=of_decide_eq_false r3;omega
     have hB:ke xs a=⟨xs.getD a 0,0,0⟩:=(by unfold ke;rw[←Up,if_neg r3])
     have yP:(out++[ke xs a])++cG xs (xs.length-(a+1)) (a+1)=bb xs:=by
      rw[←i5,show xs.length-a=(xs.length-(a+1))+1 by omega,jK ha,List.append_assoc]
      rw[show max (ke xs a).l 1=1 by rw[hB];rfl]
      rfl
     rw[hB]at yP
     refine Qs ?_
     refine And.intro (fun q hq=>?_) ?_
     ·obtain rfl:q=0:=by have:q<1:=hq;omega
      exact⟨rfl,rfl⟩
     refine Qs ?_
     refine⟨fun j=>((out++[(⟨xs.getD a 0,0,0⟩:Tk)]).getD j default).row,fun q hq=>?_,fun dE j5=>?_⟩
     ·by_cases cI:q<out.length
      ·exact((bQ hq).trans (if_pos cI)).trans (if_pos cI).symm
      ·obtain rfl:q=out.length:=by have:q<out.length+1:=hq;omega
       refine((bQ hq).trans (if_neg cI)).trans (Eq.trans ?_ (if_neg cI).symm)
       rw[Nat.sub_self]
       rfl
     have hE:jn (out++[(⟨xs.getD a 0,0,0⟩:Tk)]) dE=.cJ 3 (out.length+1) (fun j=>((out++[(⟨xs.getD a 0,0,0⟩:Tk)]).getD j default).row) dE:=by unfold jn;rw[List.length_append];rfl
     refine Qs ?_
     refine RO.same (a+1,out++[(⟨xs.getD a 0,0,0⟩:Tk)],g+1,dE) ⟨by omega,by rw[List.length_append];exact j5,by rw[List.length_append];show out.length+1≤_;omega,yP⟩ (show xs.length-(a+1)<xs.length-a by omega)
      (aI rfl (aI (by rw[List.length_append];rfl) (aI rfl trivial))) (aI rfl (aI (congrArg (AO.one true (g+1)) hE) (bJ _)))
  ·have r1:¬D+1≤32768:=by have r1:¬(e:Int)≤32768:=of_decide_eq_false r1;omega
   have Up:D=min a 32768:=by omega
   refine Qs ?_
   refine And.intro (fun r3=>?_) (fun r3=>?_)
   ·have r3:3≤(aF xs a D).1:=by have r3:(3:Int)≤((aF xs a D).1:Int):=of_decide_eq_true r3;omega
    have hB:ke xs a=⟨0,(aF xs a D).1,(aF xs a D).2⟩:=(by unfold ke;rw[←Up,if_pos r3])
    have yP:(out++[ke xs a])++cG xs (xs.length-(a+(aF xs a D).1)) (a+(aF xs a D).1)=bb xs:=by
     rw[←i5,show xs.length-a=(xs.length-(a+1))+1 by omega,jK ha,List.append_assoc]
     rw[show max (ke xs a).l 1=(aF xs a D).1 by rw[hB];show max (aF xs a D).1 1=_;omega]
     rw[mJ (xs.length-(a+1)) (xs.length-(a+(aF xs a D).1)) _ (by omega) (by omega)]
     rfl
    rw[hB]at yP
    refine Qs ?_
    refine And.intro (fun q hq=>?_) ?_
    ·obtain rfl:q=0:=by have:q<1:=hq;omega
     exact⟨rfl,rfl⟩
    refine Qs ?_
    refine⟨fun j=>((out++[(⟨0,(aF xs a D).1,(aF xs a D).2⟩:Tk)]).getD j default).row,fun q hq=>?_,fun dE j5=>?_⟩
    ·by_cases cI:q<out.length
     ·exact((bQ hq).trans (if_pos cI)).trans (if_pos cI).symm
     ·obtain rfl:q=out.length:=by have:q<out.length+1:=hq;omega
      refine((bQ hq).trans (if_neg cI)).trans (Eq.trans ?_ (if_neg cI).symm)
      rw[Nat.sub_self]
      rfl
    have hE:jn (out++[(⟨0,(aF xs a D).1,(aF xs a D).2⟩:Tk)]) dE=.cJ 3 (out.length+1) (fun j=>((out++[(⟨0,(aF xs a D).1,(aF xs a D).2⟩:Tk)]).getD j default).row) dE:=by unfold jn;rw[List.length_append];rfl
    refine Qs ?_
    refine RO.same (a+(aF xs a D).1,out++[(⟨0,(aF xs a D).1,(aF xs a D).2⟩:Tk)],g+1,dE) ⟨by omega,by rw[List.length_append];exact j5,by rw[List.length_append];show out.length+1≤_;omega,yP⟩ (show xs.length-(a+(aF xs a D).1)<xs.length-a by omega)
     (aI rfl (aI (by rw[List.length_append];rfl) (aI rfl trivial))) (aI rfl (aI (congrArg (AO.one true (g+1)) hE) (bJ _)))
   ·have r3:¬3≤(aF xs a D).1:=by have r3:¬(3:Int)≤((aF xs a D).1:Int):=of_decide_eq_false r3;omega
    have hB:ke xs a=⟨xs.getD a 0,0,0⟩:=(by unfold ke;rw[←Up,if_neg r3])
    have yP:(out++[ke xs a])++cG xs (xs.length-(a+1)) (a+1)=bb xs:=by
     rw[←i5,show xs.length-a=(xs.length-(a+1))+1 by omega,jK ha,List.append_assoc]
     rw[show max (ke xs a).l 1=1 by rw[hB];rfl]
     rfl
    rw[hB]at yP
    refine Qs ?_
    refine And.intro (fun q hq=>?_) ?_
    ·obtain rfl:q=0:=by have:q<1:=hq;omega
     exact⟨rfl,rfl⟩
    refine Qs ?_
    refine⟨fun j=>((out++[(⟨xs.getD a 0,0,0⟩:Tk)]).getD j default).row,fun q hq=>?_,fun dE j5=>?_⟩
    ·by_cases cI:q<out.length
     ·exact((bQ hq).trans (if_pos cI)).trans (if_pos cI).symm
     ·obtain rfl:q=out.length:=by have:q<out.length+1:=hq;omega
      refine((bQ hq).trans (if_neg cI)).trans (Eq.trans ?_ (if_neg cI).symm)
      rw[Nat.sub_self]
      rfl
    have hE:jn (out++[(⟨xs.getD a 0,0,0⟩:Tk)]) dE=.cJ 3 (out.length+1) (fun j=>((out++[(⟨xs.getD a 0,0,0⟩:Tk)]).getD j default).row) dE:=by unfold jn;rw[List.length_append];rfl
    refine Qs ?_
    refine RO.same (a+1,out++[(⟨xs.getD a 0,0,0⟩:Tk)],g+1,dE) ⟨by omega,by rw[List.length_append];exact j5,by rw[List.length_append];show out.length+1≤_;omega,yP⟩ (show xs.length-(a+1)<xs.length-a by omega)
     (aI rfl (aI (by rw[List.length_append];rfl) (aI rfl trivial))) (aI rfl (aI (congrArg (AO.one true (g+1)) hE) (bJ _)))
 ·have ha:a=xs.length:=by have q1:¬(a:Int)<(xs.length:Int):=of_decide_eq_false q1;omega
  have ho:out=bb xs:=by rw[←i5,show xs.length-a=0 by omega];exact(List.append_nil _).symm
  refine Qs ?_
  refine⟨[.e9 0,.own 1],.sl 1 g 0 out.length co,[.one false 0 (.ints .u8 xs c),.one true g (jn out co)],⟨⟨⟨rfl,_,rfl,rfl⟩,⟨rfl,rfl⟩,trivial⟩,rfl,⟨trivial,fun j=>rfl,trivial⟩,rfl,fun i hi=>?_⟩,?_⟩
  ·match i,hi with
   |0,_=>exact .inr rfl
  ·subst ho
   exact h g co i3
end
end Go.Proofs.Ytibadaomjlkoaaa
open Go.RowKit
namespace Go.Proofs.Ytibadaomjlkoaaa
set_option maxRecDepth 10000
theorem EJ (t:Tk):xT t≤40:=by
 unfold xT
 have:=sO t.l 29 (Nat.le_refl _)
 have:=sS t.d 30 (Nat.le_refl _)
 split
 ·omega
 ·split<;>omega
theorem EN:∀l:List Tk,iM l≤40*l.length
 |[]=>Nat.le_refl _
 |t::l=>by
  have h1:=EJ t
  have h2:=EN l
  unfold iM at*
  rw[List.map_cons,List.sum_cons,List.length_cons];omega
theorem Gc (l:List Tk){i:Nat}(h:i<l.length):iM (l.take (i+1))=iM (l.take i)+xT (l.getD i default):=by
 rw[List.take_succ_eq_append_getElem h,List.getD_eq_getElem?_getD,List.getElem?_eq_getElem h]
 unfold iM
 rw[List.map_append,List.sum_append];simp
section
variable{K Kp:AV→AH→Prop}{xs:List Int}{c c0:Nat}
theorem A4 (hx:xs.length≤60000)(hc:xs.length≤c0)(r7:c0≤c)(hb:∀x∈xs,0≤x∧x<256)
 (h:K (.int .i64 (((10+iM (bb xs)+7)/8:Nat):Int)) [.one false 0 (.ints .u8 xs c)]):
 aa Try.prog 12 [.sl 0 0 0 xs.length c0] [.one false 0 (.ints .u8 xs c)] K Kp:=by
 have lY:=mn xs
 have lX:=fM xs
 have ic:∀t∈bb xs,Oa t:=BV hb
 obtain⟨ts,hT⟩:∃ts,bb xs=ts:=⟨_,rfl⟩
 refine aa.bs ?_
 refine Qb (fun _=>[0,1]) [] rfl ?_
 refine Qs ?_
 refine yA hx hc r7 hb (fun g co vx=>?_)
 rw[hT]at vx ic lY h⊢
 refine Qs ?_
 refine WO.go (σ:=Nat) (fun i=>i≤ts.length) (fun i=>ts.length-i) (fun i=>[(3,.int .i64 ((10+iM (ts.take i):Nat):Int)),(4,.sl 1 g 0 ts.length co),(5,.int .i64 (i:Int))])
  (fun _=>[.one false 0 (.ints .u8 xs c),.one true g (jn ts co)]) 0 ae mixed (by kernel_rfl) (Nat.zero_le _) (aI rfl (aI rfl (aI rfl (trivial)))) (aI rfl (aI rfl (trivial))) (fun _=>rfl) (fun _=>rfl) (fun _=>⟨trivial,fun j=>rfl,trivial⟩) ?_
 intro i hi d
 have hi:i≤ts.length:=hi
 have cV:iM (ts.take i)≤40*ts.length:=by
  have:=EN (ts.take i)
  rw[List.length_take]at this;omega
 refine Qs ?_
 refine And.intro (fun q1=>?_) (fun q1=>?_)
 ·have jq:i<ts.length:=by have q1:(i:Int)<(ts.length:Int):=of_decide_eq_true q1;omega
  have Nf:=Gc ts jq
  have hN:=EJ (ts.getD i default)
  have hm:=ic (ts.getD i default) (by rw[List.getD_eq_getElem?_getD,List.getElem?_eq_getElem jq];exact List.getElem_mem _)
  have JF:=sO (ts.getD i default).l 29 (Nat.le_refl _)
  have oI:=sS (ts.getD i default).d 30 (Nat.le_refl _)
  refine Qs ?_
  refine And.intro (fun q2=>?_) (fun q2=>?_)
  ·have q2:0<(ts.getD i default).l:=by have q2:(0:Int)<((ts.getD i default).l:Int):=of_decide_eq_true q2;omega
   have eN:((10+iM (ts.take i):Nat):Int)+((mb (ts.getD i default).l 29+pt (ts.getD i default).d 30:Nat):Int)=((10+iM (ts.take (i+1)):Nat):Int):=by
    rw[Nf];unfold xT;rw[if_pos q2];omega
   refine Qs ?_
   refine NZ (l:=(ts.getD i default).l) (d:=(ts.getD i default).d) ?_
   refine Qs ?_
   refine RO.same (i+1) jq (Nat.sub_lt_sub_left jq (Nat.lt_succ_self i)) (aI (congrArg (AV.int .i64) eN) (aI rfl (aI rfl trivial))) (aI rfl (aI rfl (trivial)))
  ·have q2:¬0<(ts.getD i default).l:=by have q2:¬(0:Int)<((ts.getD i default).l:Int):=of_decide_eq_false q2;omega
   have Wf:=hm.one (by omega)
   refine Qs ?_
   refine And.intro (fun q3=>?_) (fun q3=>?_)
   ·have q3:(ts.getD i default).b<144:=of_decide_eq_true q3
    have eN:((10+iM (ts.take i):Nat):Int)+8=((10+iM (ts.take (i+1)):Nat):Int):=by
     rw[Nf];unfold xT;rw[if_neg q2,if_pos q3];omega
    refine Qs ?_
    refine RO.same (i+1) jq (Nat.sub_lt_sub_left jq (Nat.lt_succ_self i)) (aI (congrArg (AV.int .i64) eN) (aI rfl (aI rfl trivial))) (aI rfl (aI rfl (trivial)))
   ·have q3:¬(ts.getD i default).b<144:=of_decide_eq_false q3
    have eN:((10+iM (ts.take i):Nat):Int)+9=((10+iM (ts.take (i+1)):Nat):Int):=by
     rw[Nf];unfold xT;rw[if_neg q2,if_neg q3];omega
    refine Qs ?_
    refine RO.same (i+1) jq (Nat.sub_lt_sub_left jq (Nat.lt_succ_self i)) (aI (congrArg (AV.int .i64) eN) (aI rfl (aI rfl trivial))) (aI rfl (aI rfl (trivial)))
 ·have jq:i=ts.length:=by have q1:¬(i:Int)<(ts.length:Int):=of_decide_eq_false q1;omega
  subst jq
  rw[List.take_length]at cV⊢
  have ed:(((10+iM ts:Nat):Int)+7).tdiv 8=(((10+iM ts+7)/8:Nat):Int):=by
   rw[Int.tdiv_eq_ediv_of_nonneg (by omega)];omega
  refine Qs ?_
  rw[ed]
  exact⟨[.one false 0 (.ints .u8 xs c)],aI rfl (bJ _),⟨trivial,trivial⟩,rfl,h⟩
theorem Hk {i g n c0 co:Nat}{M:AH}{o:Bool}(hi:M[i]?=some (.one o g (.ints .u8 xs co)))(hn:n=xs.length)(hx:xs.length≤60000)(hc:xs.length≤c0)(r7:c0≤co)(hb:∀x∈xs,0≤x∧x<256)
 (h:K (.int .i64 (((10+iM (bb xs)+7)/8:Nat):Int)) M):aa Try.prog 12 [.sl i g 0 n c0] M K Kp:=by
 subst hn
 refine aa.lift [.eI i g 0] (A4 (xs:=xs) (c:=co) (c0:=c0) (K:=fun r N=>r=.int .i64 (((10+iM (bb xs)+7)/8:Nat):Int)∧N=[.one false 0 (.ints .u8 xs co)]) (Kp:=fun _ _=>False) hx hc r7 hb ⟨rfl,rfl⟩) rfl rfl ⟨⟨_,_,_,rfl,ak hi,eG.same rfl (fun h=>h)⟩,trivial⟩ ⟨trivial,trivial⟩ ?_ (fun _ _ h=>h.elim)
 rintro r M' ⟨rfl,rfl⟩
 rw[←List.append_nil M]at h
 exact⟨⟨rfl,rfl⟩,h⟩
end
end Go.Proofs.Ytibadaomjlkoaaa
