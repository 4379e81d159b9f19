import Derived.Test.YtibadaomjlkoaaaDv
import Derived.Test.YtibadaomjlkoaaaGdn
set_option linter.unusedVariables false
set_option linter.unusedSimpArgs false
open Go.RowKit
namespace Go.Proofs.Ytibadaomjlkoaaa
theorem Jk {s:Nat}(h:s<288):(aS bL (s:Int)).length≤9:=by
 have h1:∀s,s<288→(bL.getD s 0).toNat≤9:=by decide+kernel
 rw[iy,Int.toNat_natCast];exact h1 s h
theorem Jl {s:Nat}(h:256≤s∧s<288):(aS bL (s:Int)).length≤8:=by
 have h1:∀s,s<288→256≤s→(bL.getD s 0).toNat≤8:=by decide+kernel
 rw[iy,Int.toNat_natCast];exact h1 s h.2 h.1
theorem Ji {s:Nat}(h:s<32):(aS cS (s:Int)).length=5:=by
 have h1:∀s,s<32→(cS.getD s 0).toNat=5:=by decide+kernel
 rw[iy,Int.toNat_natCast];exact h1 s h
theorem ML:(aS bL 256).length=7:=by rw[iy];decide+kernel
theorem nc {n j:Nat}{c:Int}(h:j<n):(List.replicate n c).getD j 0=c:=by
 rw[List.getD_eq_getElem?_getD,List.getElem?_replicate,if_pos h];rfl
section
variable{n:Nat}{c:Int}
theorem Ae {f a:Nat}(hf:f<a)(ha:a≤n):k6 (List.replicate n c) f a=min 258 (n-a):=by
 have hl:(List.replicate n c).length=n:=List.length_replicate
 have h1:=pW (xs:=List.replicate n c) (f:=f) (a:=a) (by omega)
 have h2:min 258 (n-a)≤k6 (List.replicate n c) f a:=by
  unfold k6
  refine xS f a _ 258 0 (Nat.zero_le _) (by omega) (fun i _ hi=>⟨by omega,?_⟩)
  rw[nc (by omega),nc (by omega)]
 omega
theorem O6 {a:Nat}(h1:1≤a)(ha:a<n):rK (List.replicate n c) a (min a 32768)=if 3≤min 258 (n-a)then⟨0,min 258 (n-a),1⟩else⟨c,0,0⟩:=by
 have fZ:rK (List.replicate n c) a 1=if 3≤min 258 (n-a)then⟨0,min 258 (n-a),1⟩else⟨c,0,0⟩:=by
  show lH _ a (a-1) ⟨(List.replicate n c).getD a 0,0,0⟩=_
  have e:a-(a-1)=1:=by omega
  unfold lH
  rw[Ae (by omega) (by omega),nc ha,e]
  by_cases h:3≤min 258 (n-a)
  ·rw[if_pos h]
   exact if_pos ⟨h,by show 0<_;omega⟩
  ·rw[if_neg h]
   exact if_neg (fun x=>h x.1)
 rw[sj (D:=1) (by omega) (fun d sq Cf=>?_),fZ]
 unfold lH
 rw[fZ,Ae (by omega) (by omega),if_neg]
 rintro⟨x,y⟩
 rw[if_pos x]at y
 exact Nat.lt_irrefl _ y
theorem zj (hc:0≤c∧c<256):(lV bL cS ⟨c,0,0⟩).length≤9:=by
 unfold lV
 rw[if_pos rfl]
 obtain⟨k,rfl⟩:=Int.eq_ofNat_of_zero_le hc.1
 exact Jk (by omega)
theorem Hg {l:Nat}(hl:3≤l∧l≤258):(lV bL cS ⟨0,l,1⟩).length≤18:=by
 obtain⟨l1,l2,l3,l4,_⟩:=eW hl
 unfold lV
 rw[if_neg (show¬l=0 by omega)]
 have h1:=Jl (s:=(aZ l).1) (by omega)
 have h2:(aV (1-1) 2)=(0,0,0):=by decide
 have h3:=Ji (s:=0) (by decide)
 simp only[List.length_append,ai,h2]
 have h4:(aS cS ((0:Nat):Int)).length=5:=h3
 omega
theorem Hh:(lV bL cS ⟨0,258,1⟩).length=13:=by
 have h2:(aV (1-1) 2)=(0,0,0):=by decide
 have h3:aZ 258=(285,0,0):=by decide
 have h4:(aS cS ((0:Nat):Int)).length=5:=Ji (by decide)
 have h5:(aS bL ((285:Nat):Int)).length=8:=by rw[iy];decide+kernel
 unfold lV
 rw[if_neg (show¬(258:Nat)=0 by decide)]
 simp only[List.length_append,ai,h2,h3,h4,h5]
theorem td (hc:0≤c∧c<256):∀(k a:Nat),1≤a→n≤a+k→a≤n→(bg bL cS (jG (List.replicate n c) k a)).length≤13*((n-a)/258)+18∧(n-a≤2→(bg bL cS (jG (List.replicate n c) k a)).length≤9*(n-a))
 |0,a,_,_,_=>⟨Nat.zero_le _,fun _=>Nat.zero_le _⟩
 |k+1,a,h1,h2,h3=>by
  have hl:(List.replicate n c).length=n:=List.length_replicate
  simp only[jG]
  rw[hl]
  by_cases ha:a<n
  ·rw[if_pos ha,O6 h1 ha]
   by_cases h:3≤min 258 (n-a)
   ·rw[if_pos h]
    simp only
    rw[show max (min 258 (n-a)) 1=min 258 (n-a) by omega]
    have ih:=td hc k (a+min 258 (n-a)) (by omega) (by omega) (by omega)
    refine⟨?_,fun hh=>absurd hh (by omega)⟩
    unfold bg at ih⊢
    rw[List.flatMap_cons,List.length_append]
    by_cases ZM:258≤n-a
    ·rw[show min 258 (n-a)=258 by omega]at ih⊢
     have:=Hh
     have:=ih.1
     omega
    ·rw[show min 258 (n-a)=n-a by omega]at ih⊢
     have:=Hg (l:=n-a) (by omega)
     have:=ih.2 (by omega)
     omega
   ·rw[if_neg h]
    simp only
    rw[show max 0 1=1 from rfl]
    have ih:=td hc k (a+1) (by omega) (by omega) (by omega)
    have hk:=zj hc
    unfold bg at ih⊢
    rw[List.flatMap_cons,List.length_append]
    have:=ih.2 (by omega)
    omega
  ·rw[if_neg ha]
   exact⟨Nat.zero_le _,fun _=>Nat.zero_le _⟩
theorem FO (hc:0≤c∧c<256):8*(eL (List.replicate n c)).length≤13*(n/258)+60:=by
 have hb:∀x∈List.replicate n c,0≤x∧x<256:=fun x hx=>by rw[List.eq_of_mem_replicate hx];exact hc
 have h1:=(AL (List.replicate n c)).2.1
 have h2:=qX (bK (bV (List.replicate n c)))
 have hl:(List.replicate n c).length=n:=List.length_replicate
 have h3:(bg bL cS (bV (List.replicate n c))).length≤13*(n/258)+27:=by
  rw[Kj hb,hl]
  rcases Nat.eq_zero_or_pos n with hn|hn
  ·rw[hn];exact Nat.zero_le _
  ·obtain⟨m,hm⟩:∃m,n=m+1:=⟨n-1,by omega⟩
   have e1:jG (List.replicate n c) n 0=rK (List.replicate n c) 0 (min 0 32768)::jG (List.replicate n c) m (0+max (rK (List.replicate n c) 0 (min 0 32768)).l 1):=by
    rw[hm,jG,List.length_replicate,if_pos (Nat.succ_pos m)]
   rw[e1]
   have e0:rK (List.replicate n c) 0 (min 0 32768)=⟨c,0,0⟩:=by
    rw[Nat.zero_min,rK,nc hn]
   rw[e0]
   have ih:=(td (n:=n) hc m (0+max 0 1) (by decide) (by omega) (by omega)).1
   have hk:=zj hc
   unfold bg at ih⊢
   rw[List.flatMap_cons,List.length_append]
   simp only at ih⊢
   omega
 have h4:=ML
 have h5:(bK (bV (List.replicate n c))).length=3+((bg bL cS (bV (List.replicate n c))).length+7):=by
  unfold bK;rw[List.length_append,List.length_append,ai,h4]
 omega
end
end Go.Proofs.Ytibadaomjlkoaaa
