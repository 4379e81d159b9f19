import Derived.Test.YtibadaomjlkoaaaGdj
set_option linter.unusedVariables false
set_option linter.unusedSimpArgs false
open Go.RowKit
namespace Go.Proofs.Ytibadaomjlkoaaa
section
variable(xs:List Int)
def rK (a:Nat):Nat→Tk
 |0=>⟨xs.getD a 0,0,0⟩
 |D+1=>lH xs a (a-(D+1)) (rK a D)
def fX (key:Int×Int):Nat→Nat
 |0=>0
 |a+1=>if a+3≤xs.length∧eI xs a=key then a+1 else fX key a
def jG:Nat→Nat→List Tk
 |0,_=>[]
 |k+1,a=>if a<xs.length then rK xs a (min a 32768)::jG k (a+max (rK xs a (min a 32768)).l 1)else[]
structure GY (a:Nat)(s:o7):Prop where
 len:s.2.length=xs.length
 es:∀k,(bN k s.1).getD 0=(fX xs k a:Int)
 ah:∀i,i<a→i+3≤xs.length→s.2.getD i 0=(fX xs (eI xs i) i:Int)
end
section
variable{xs:List Int}
theorem mn (key:Int×Int):∀a,fX xs key a≤a
 |0=>Nat.le_refl _
 |a+1=>by
  simp only[fX]
  split
  ·omega
  ·have:=mn key a;omega
theorem oI (key:Int×Int):∀a,(0<fX xs key a→fX xs key a-1+3≤xs.length∧eI xs (fX xs key a-1)=key)∧∀i,fX xs key a≤i→i<a→i+3≤xs.length→eI xs i≠key
 |0=>⟨fun h=>absurd h (Nat.lt_irrefl 0),fun i _ h=>absurd h (Nat.not_lt_zero i)⟩
 |a+1=>by
  have ih:=oI key a
  simp only[fX]
  split
  ·rename_i hc
   exact⟨fun _=>⟨hc.1,hc.2⟩,fun i h1 h2=>by omega⟩
  ·rename_i hc
   refine⟨ih.1,fun i h1 h2 h3=>?_⟩
   rcases Nat.lt_succ_iff_lt_or_eq.1 h2 with h|rfl
   ·exact ih.2 i h1 h h3
   ·exact fun e=>hc ⟨h3,e⟩
theorem GY.note {a:Nat}{s:o7}(h:GY xs a s):GY xs (a+1) (iJ xs a s):=by
 unfold iJ
 split
 ·rename_i hc
  refine⟨by simp only[List.length_set];exact h.len,fun k=>?_,fun i hi h3=>?_⟩
  ·simp only
   rw[hZ]
   simp only[fX]
   by_cases he:eI xs a=k
   ·rw[if_pos he.symm,if_pos ⟨hc,he⟩];rfl
   ·rw[if_neg (fun x=>he x.symm),if_neg (fun x=>he x.2)]
    exact h.es k
  ·simp only
   rw[g8]
   by_cases he:a=i
   ·subst he
    have hl:=h.len
    rw[if_pos ⟨rfl,by omega⟩]
    exact h.es _
   ·rw[if_neg (fun x=>he x.1)]
    exact h.ah i (by omega) h3
 ·rename_i hc
  refine⟨h.len,fun k=>?_,fun i hi h3=>?_⟩
  ·simp only[fX]
   rw[if_neg (fun x=>hc x.1)]
   exact h.es k
  ·exact h.ah i (by omega) h3
theorem GY.notes:∀(k a:Nat){s:o7},GY xs a s→GY xs (a+k) (bC xs k a s)
 |0,a,s,h=>h
 |k+1,a,s,h=>by
  have:=GY.notes k (a+1) h.note
  rw[show a+(k+1)=a+1+k by omega]
  exact this
theorem GY.start (xs:List Int):GY xs 0 ([],List.replicate xs.length 0):=
 ⟨List.length_replicate,fun k=>rfl,fun i h=>absurd h (Nat.not_lt_zero i)⟩
theorem xS (f a m:Nat):∀k n,n≤m→m≤n+k→(∀i,n≤i→i<m→a+i<xs.length∧xs.getD (f+i) 0=xs.getD (a+i) 0)→m≤l8 xs f a k n
 |0,n,h1,h2,_=>by simp only[l8];omega
 |k+1,n,h1,h2,h=>by
  simp only[l8]
  by_cases he:n=m
  ·have hle:∀k n,n≤l8 xs f a k n:=by
    intro k
    induction k with
    |zero=>intro n;exact Nat.le_refl _
    |succ k ih=>
     intro n
     simp only[l8]
     split
     ·have:=ih (n+1);omega
     ·exact Nat.le_refl _
   split
   ·have:=hle k (n+1);omega
   ·omega
  ·rw[if_pos (h n (Nat.le_refl _) (by omega))]
   exact xS f a m k (n+1) (by omega) (by omega) (fun i hi=>h i (by omega))
theorem BW {f a:Nat}(hb:∀x∈xs,0≤x∧x<256)(ha:a+3≤xs.length)(hf:f<a):3≤k6 xs f a↔eI xs f=eI xs a:=by
 constructor
 ·intro h
  have h0:=sn (xs:=xs) (f:=f) (a:=a) (i:=0) (by omega)
  have h1:=sn (xs:=xs) (f:=f) (a:=a) (i:=1) (by omega)
  have h2:=sn (xs:=xs) (f:=f) (a:=a) (i:=2) (by omega)
  unfold eI
  rw[Nat.add_zero,Nat.add_zero]at h0
  rw[h0,h1,h2]
 ·intro h
  unfold eI at h
  obtain⟨e0,e1⟩:=Prod.mk.inj h
  have hB:∀j,j<xs.length→0≤xs.getD j 0∧xs.getD j 0<256:=fun j hj=>wX hb hj
  have f1:=hB (f+1) (by omega)
  have f2:=hB (f+2) (by omega)
  have a1:=hB (a+1) (by omega)
  have a2:=hB (a+2) (by omega)
  unfold k6
  refine xS f a 3 258 0 (by decide) (by decide) (fun i _ hi=>⟨by omega,?_⟩)
  match i,hi with
  |0,_=>exact e0
  |1,_=>omega
  |2,_=>omega
theorem zi {a f:Nat}{t:Tk}(h:¬3≤k6 xs f a):lH xs a f t=t:=by unfold lH;rw[if_neg (fun x=>h x.1)]
theorem sj {a:Nat}{D D':Nat}(h:D≤D')(hn:∀d,D<d→d≤D'→lH xs a (a-d) (rK xs a D)=rK xs a D):rK xs a D'=rK xs a D:=by
 induction D' with
 |zero=>rw[show D=0 by omega]
 |succ D' ih=>
  rcases Nat.lt_succ_iff_lt_or_eq.1 (Nat.lt_succ_of_le h)with h1|rfl
  ·rw[rK,ih (by omega) (fun d h2 h3=>hn d h2 (by omega))]
   exact hn (D'+1) (by omega) (Nat.le_refl _)
  ·rfl
theorem Jz {a:Nat}{s:o7}(hb:∀x∈xs,0≤x∧x<256)(hs:GY xs a s)(ha:a+3≤xs.length):∀(k q:Nat)(t:Tk),q≤a→fX xs (eI xs a) q≤k→t=rK xs a (min (a-q) 32768)→
 dh xs s.2 a k (fX xs (eI xs a) q) t=rK xs a (min a 32768):=by
 have skip:∀q,q≤a→rK xs a (min (a-fX xs (eI xs a) q) 32768)=rK xs a (min (a-q) 32768):=by
  intro q hq
  have hl:=mn (xs:=xs) (eI xs a) q
  refine sj (by omega) (fun d h1 h2=>zi (fun h3=>?_))
  have h4:=(BW hb ha (show a-d<a by omega)).1 h3
  exact(oI (eI xs a) q).2 (a-d) (by omega) (by omega) (by omega) h4
 intro k
 induction k with
 |zero=>
  intro q t hq hk ht
  have h0:fX xs (eI xs a) q=0:=by omega
  have h1:=skip q hq
  rw[h0,Nat.sub_zero]at h1
  rw[h0,dh,ht,h1]
 |succ k ih=>
  intro q t hq hk ht
  have h1:=skip q hq
  have hl:=mn (xs:=xs) (eI xs a) q
  have IC:=(oI (xs:=xs) (eI xs a) q).1
  obtain⟨p,hp⟩:∃p,fX xs (eI xs a) q=p:=⟨_,rfl⟩
  rw[hp]at h1 hl IC hk⊢
  simp only[dh]
  split
  ·rename_i hc
   obtain⟨c1,c2,c3⟩:=hc
   obtain⟨k1,k2⟩:=IC c1
   have EX:=hs.ah (p-1) (by omega) k1
   rw[k2]at EX
   rw[EX,Int.toNat_natCast]
   refine ih (p-1) _ (by omega) (by have:=mn (xs:=xs) (eI xs a) (p-1);omega) ?_
   rw[ht,←h1,show min (a-p) 32768=a-p by omega,show min (a-(p-1)) 32768=(a-p)+1 by omega,rK,show a-(a-p+1)=p-1 by omega]
  ·rename_i hc
   rw[ht,←h1]
   symm
   by_cases c1:0<p
   ·by_cases c2:a-(p-1)≤32768
    ·have c3:¬t.l<258:=fun c3=>hc ⟨c1,c2,c3⟩
     rw[ht,←h1]at c3
     refine sj (by omega) (fun d _ _=>?_)
     unfold lH
     rw[if_neg]
     intro x
     have:=(pW (xs:=xs) (f:=a-d) (a:=a) (by omega)).1
     omega
    ·rw[show min (a-p) 32768=min a 32768 by omega]
   ·rw[show min (a-p) 32768=min a 32768 by omega]
theorem MT {a:Nat}{s:o7}(hb:∀x∈xs,0≤x∧x<256)(hs:GY xs a s)(ha:a<xs.length):p9 xs s a=rK xs a (min a 32768):=by
 unfold p9
 split
 ·rename_i hc
  rw[hs.es,Int.toNat_natCast]
  exact Jz hb hs hc a a _ (Nat.le_refl _) (mn _ _) (by rw[Nat.sub_self];rfl)
 ·rename_i hc
  symm
  refine sj (D:=0) (Nat.zero_le _) (fun d _ _=>zi (fun h=>?_))
  have:=(pW (xs:=xs) (f:=a-d) (a:=a) (by omega)).2
  omega
theorem Ab (hb:∀x∈xs,0≤x∧x<256):∀(k a:Nat)(s:o7),GY xs a s→dA xs k a s []=jG xs k a
 |0,a,s,_=>rfl
 |k+1,a,s,hs=>by
  simp only[dA,jG]
  split
  ·rename_i hc
   rw[kY,MT hb hs hc,Ab hb k _ _ (hs.notes _ _)]
   rfl
  ·rfl
theorem Kj (hb:∀x∈xs,0≤x∧x<256):bV xs=jG xs xs.length 0:=Ab hb _ _ _ (GY.start xs)
end
end Go.Proofs.Ytibadaomjlkoaaa
