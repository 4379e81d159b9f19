import Derived.Test.YtibadaomjlkoaaaGdd
import Derived.Test.YtibadaomjlkoaaaGdc
import Derived.Test.YtibadaomjlkoaaaGb
set_option linter.unusedVariables false
set_option linter.unusedSimpArgs false
open Go.RowKit
namespace Go.Proofs.Ytibadaomjlkoaaa
def du (g:It→Int):List It→Int
 |[]=>0
 |x::l=>g x+du g l
theorem ke (g:It→Int):∀l l':List It,du g (l++l')=du g l+du g l'
 |[],l'=>by simp[du]
 |x::l,l'=>by simp only[List.cons_append,du,ke g l l'];omega
theorem Ig {g:It→Int}{l l':List It}(h:l.Perm l'):du g l=du g l':=by
 induction h with
 |nil=>rfl
 |cons x _ ih=>simp only[du,ih]
 |swap x y l=>simp only[du];omega
 |trans _ _ a b=>rw[a,b]
theorem lQ {g h:It→Int}:∀{l:List It},(∀x∈l,g x=h x)→du g l=du h l
 |[],_=>rfl
 |x::l,e=>by simp only[du];rw[e x (List.mem_cons_self ..),lQ fun y hy=>e y (List.mem_cons_of_mem _ hy)]
theorem GU {g:It→Int}:∀{l:List It},(∀x∈l,0≤g x)→0≤du g l
 |[],_=>Int.le_refl _
 |x::l,e=>by
  have:=e x (List.mem_cons_self ..)
  have:=GU (g:=g) (l:=l) fun y hy=>e y (List.mem_cons_of_mem _ hy)
  simp only[du];omega
theorem Ie {g:It→Int}{l:List It}(h:∀x∈l,g x=0):du g l=0:=by
 rw[lQ (h:=fun _=>0) h]
 clear h
 induction l with
 |nil=>rfl
 |cons x l ih=>simp only[du,ih];rfl
def ck:Nat→(Nat→Int)→Int
 |0,_=>0
 |n+1,g=>ck n g+g n
theorem bs {g h:Nat→Int}:∀{n:Nat},(∀i,i<n→g i=h i)→ck n g=ck n h
 |0,_=>rfl
 |n+1,e=>by simp only[ck];rw[e n (Nat.lt_succ_self n),bs fun i hi=>e i (by omega)]
theorem nv (n:Nat)(g h:Nat→Int):ck n (fun i=>g i+h i)=ck n g+ck n h:=by
 induction n with
 |zero=>rfl
 |succ n ih=>simp only[ck,ih];omega
theorem qW (n:Nat)(c:Int)(g:Nat→Int):ck n (fun i=>c*g i)=c*ck n g:=by
 induction n with
 |zero=>simp[ck]
 |succ n ih=>simp only[ck,ih,Int.mul_add]
theorem GS {g h:Nat→Int}:∀{n:Nat},(∀i,i<n→g i≤h i)→ck n g≤ck n h
 |0,_=>Int.le_refl _
 |n+1,e=>by
  have:=e n (Nat.lt_succ_self n)
  have:=GS (n:=n) fun i hi=>e i (by omega)
  simp only[ck];omega
theorem oE (n:Nat):ck n (fun _=>0)=0:=by
 induction n with
 |zero=>rfl
 |succ n ih=>simp only[ck,ih];rfl
theorem BD (n:Nat):ck n (fun _=>1)=n:=by
 induction n with
 |zero=>rfl
 |succ n ih=>simp only[ck,ih];omega
theorem zE {n j:Nat}(g:Nat→Int)(h:j<n):ck n (fun i=>if i=j then g i else 0)=g j:=by
 induction n with
 |zero=>omega
 |succ n ih=>
  simp only[ck]
  by_cases e:j=n
  ·subst e
   rw[if_pos rfl,bs (h:=fun _=>0) fun i hi=>if_neg (by omega),oE];omega
  ·rw[ih (by omega),if_neg (by omega)];omega
def jU (i:Nat)(l:List It):Int:=du (fun x=>if x.u=i then 1 else 0) l
theorem uM (i:Nat)(l:List It):0≤jU i l:=GU fun x _=>by split<;>omega
theorem C2 {i:Nat}:∀{l:List It},(∃x∈l,x.u=i)→1≤jU i l
 |[],h=>by obtain⟨x,hx,_⟩:=h;cases hx
 |y::l,h=>by
  obtain⟨x,hx,e⟩:=h
  have h0:=uM i l
  unfold jU at h0⊢
  simp only[du]
  rcases List.mem_cons.1 hx with rfl|hx
  ·rw[if_pos e];omega
  ·have:=C2 (l:=l) ⟨x,hx,e⟩
   unfold jU at this
   split<;>omega
theorem rN {i:Nat}{l:List It}(h:∀x∈l,x.u≠i):jU i l=0:=Ie fun x hx=>if_neg (h x hx)
theorem uN {i:Nat}:∀{l:List It},l.Pairwise (fun a b=>a.u≠b.u)→jU i l≤1
 |[],_=>by show(0:Int)≤1;omega
 |x::l,h=>by
  obtain⟨h1,h2⟩:=List.pairwise_cons.1 h
  unfold jU
  simp only[du]
  split
  ·rename_i e
   have:=rN (i:=i) (l:=l) fun y hy=>by have:=h1 y hy;omega
   unfold jU at this
   omega
  ·have:=uN (i:=i) h2
   unfold jU at this
   omega
theorem u3 {n:Nat}(h:Nat→Int):∀{l:List It},(∀x∈l,x.u<n)→du (fun x=>h x.u) l=ck n (fun i=>h i*jU i l)
 |[],_=>by
  rw[bs (h:=fun _=>0) fun i _=>by simp[jU,du],oE];rfl
 |x::l,e=>by
  have hx:=e x (List.mem_cons_self ..)
  have ih:=u3 (n:=n) h (l:=l) fun y hy=>e y (List.mem_cons_of_mem _ hy)
  simp only[du]
  rw[ih,bs (g:=fun i=>h i*jU i (x::l)) (h:=fun i=>(if i=x.u then h i else 0)+h i*jU i l) (fun i _=>by
   show h i*((if x.u=i then 1 else 0)+jU i l)=_
   rw[Int.mul_add]
   by_cases e:i=x.u
   ·rw[if_pos e,if_pos e.symm];omega
   ·rw[if_neg e,if_neg (fun h=>e h.symm)];omega),nv,zE _ hx]
theorem qc (g:It→Int):∀(l:List It)(m:Nat),m≤(cz l).length→(((cz l).take m).map fun q=>g q.1+g q.2).sum=du g (l.take (2*m))
 |_,0,_=>by simp[du]
 |[],m+1,h=>by simp[cz]at h
 |[_],m+1,h=>by simp[cz]at h
 |a::b::r,m+1,h=>by
  simp only[cz,List.length_cons,Nat.add_le_add_iff_right]at h
  have ih:=qc g r m h
  rw[show 2*(m+1)=2*m+1+1 by omega]
  simp only[cz,List.take_succ_cons,List.map_cons,List.sum_cons,du]
  rw[ih];omega
theorem yz:∀(l:List It)(m:Nat){y:It},m≤(cz l).length→y∈l.take (2*m)→∃q∈(cz l).take m,y=q.1∨y=q.2
 |_,0,_,_,h=>by simp at h
 |[],m+1,_,h,_=>by simp[cz]at h
 |[_],m+1,_,h,_=>by simp[cz]at h
 |a::b::r,m+1,y,h,hy=>by
  simp only[cz,List.length_cons,Nat.add_le_add_iff_right]at h
  rw[show 2*(m+1)=2*m+1+1 by omega]at hy
  simp only[List.take_succ_cons,List.mem_cons]at hy
  simp only[cz,List.take_succ_cons,List.mem_cons]
  rcases hy with rfl|rfl|hy
  ·exact⟨_,.inl rfl,.inl rfl⟩
  ·exact⟨_,.inl rfl,.inr rfl⟩
  ·obtain⟨q,h1,h2⟩:=yz r m h hy
   exact⟨q,.inr h1,h2⟩
theorem pL:∀{l:List It},l.Pairwise ug→(cz l).Pairwise fun p q=>p.1.w+p.2.w≤q.1.w+q.2.w
 |[],_=>List.Pairwise.nil
 |[_],_=>List.Pairwise.nil
 |a::b::r,h=>by
  obtain⟨h1,h2⟩:=List.pairwise_cons.1 h
  obtain⟨h3,h4⟩:=List.pairwise_cons.1 h2
  refine List.Pairwise.cons (fun q hq=>?_) (pL h4)
  obtain⟨q1,q2⟩:=jy (a:=q.1) (b:=q.2) (l:=r) hq
  have a1:=h1 _ (List.mem_cons_of_mem _ q1)
  have a2:=h3 _ q2
  unfold ug at a1 a2
  show a.w+b.w≤q.1.w+q.2.w
  omega
section
variable(fr:List Int)
abbrev nF:Nat:=(aM fr).length
def fF (i:Nat):Int:=fr.getD ((aM fr).getD i 0) 0
def lK (k:Nat):List It:=GW (ag fr k).all
def pF (k:Nat):List (It×It):=az (ag fr k).all
def rA (k:Nat):List It:=(pF fr k).mapIdx fun j q=>⟨q.1.w+q.2.w,(j:Int),(ag fr k).m+j⟩
def JU (k:Nat):List It:=(List.range (nF fr)).map fun i=>⟨fF fr i,(((pF fr k).length+i:Nat):Int),i⟩
theorem K5 (k:Nat):fz (ag fr (k+1)).all.length (ag fr (k+1)).all=rA fr k++JU fr k:=by
 apply List.ext_getElem
 ·rw[eJ,kY];simp[rA,JU,pF,mg]
 ·intro j h1 h2
  rw[eJ]at h1
  have hd:∀(L:List It)(h:j<L.length),L[j]=L.getD j default:=fun L h=>by simp[List.getD_eq_getElem?_getD,h]
  rw[hd _ (by rw[eJ];exact h1),k9 _ _ _ h1,if_pos h1]
  by_cases hj:j<(pF fr k).length
  ·rw[show(ag fr (k+1)).all.getD j default=_ from Hk hj,List.getElem_append_left (by simpa[rA]using hj)]
   simp only[rA,List.getElem_mapIdx,UM,bm,List.getD_eq_getElem?_getD,List.getElem?_mapIdx]
   rw[List.getElem?_eq_getElem (show j<(az (ag fr k).all).length from hj)]
   rfl
  ·have Ds:(rA fr k).length≤j:=by simp[rA];omega
   rw[show(ag fr (k+1)).all.getD j default=_ from Hl (by show(pF fr k).length≤j;omega),List.getElem_append_right Ds]
   have WB:(rA fr k).length=(pF fr k).length:=by simp[rA]
   have U6:j-(pF fr k).length<(aM fr).length:=by
    rw[kY]at h1
    have:(pF fr k).length=(ag fr k).all.length/2:=mg _
    omega
   have hg:(cS fr).getD (j-(az (ag fr k).all).length) default=⟨fF fr (j-(pF fr k).length),0,j-(pF fr k).length⟩:=oV U6
   rw[hg]
   simp only[JU,List.getElem_map,List.getElem_range,WB]
   rw[show(pF fr k).length+(j-(pF fr k).length)=j by omega]
end
end Go.Proofs.Ytibadaomjlkoaaa
open Go.RowKit
namespace Go.Proofs.Ytibadaomjlkoaaa
section
variable{fr:List Int}
def Dn (p:Nat)(x:It):Bool:=decide (x.k<(p:Int))
theorem gK (k:Nat):(rA fr k).length=(pF fr k).length:=by simp[rA]
theorem qf {k j:Nat}(h:j<(rA fr k).length):(rA fr k)[j]=⟨((pF fr k)[j]'(by rwa[gK]at h)).1.w+((pF fr k)[j]'(by rwa[gK]at h)).2.w,(j:Int),(ag fr k).m+j⟩:=by
 simp only[rA,List.getElem_mapIdx]
theorem nK {k:Nat}{x:It}(h:x∈rA fr k):∃j,∃hj:j<(pF fr k).length,x=⟨(pF fr k)[j].1.w+(pF fr k)[j].2.w,(j:Int),(ag fr k).m+j⟩:=by
 obtain⟨j,hj,rfl⟩:=List.getElem_of_mem h
 exact⟨j,by rwa[gK]at hj,qf hj⟩
theorem qh {k:Nat}{x:It}:x∈JU fr k↔∃i,i<nF fr∧x=⟨fF fr i,(((pF fr k).length+i:Nat):Int),i⟩:=by
 simp only[JU,List.mem_map,List.mem_range]
 constructor
 ·rintro⟨i,h,rfl⟩;exact⟨i,h,rfl⟩
 ·rintro⟨i,h,rfl⟩;exact⟨i,h,rfl⟩
theorem kX (k:Nat):(lK fr (k+1)).Perm (rA fr k++JU fr k):=by
 have:=(vd (ag fr (k+1)).all).1
 rw[K5]at this
 exact this
theorem p4 (k:Nat):(lK fr k).Pairwise ug:=(vd _).2
theorem qZ:lK fr 0=[]:=rfl
theorem IX (k:Nat):(rA fr k++JU fr k).filter (Dn (pF fr k).length)=rA fr k:=by
 rw[List.filter_append,List.filter_eq_self.2 (fun x hx=>?_),List.filter_eq_nil_iff.2 (fun x hx=>?_),List.append_nil]
 ·obtain⟨i,hi,rfl⟩:=qh.1 hx
  unfold Dn;rw[decide_eq_true_eq];show¬(((pF fr k).length+i:Nat):Int)<_;omega
 ·obtain⟨j,hj,rfl⟩:=nK hx
  unfold Dn;rw[decide_eq_true_eq];show(j:Int)<_;omega
theorem I0 (k:Nat):(rA fr k++JU fr k).filter (fun x=>!Dn (pF fr k).length x)=JU fr k:=by
 rw[List.filter_append,List.filter_eq_nil_iff.2 (fun x hx=>?_),List.filter_eq_self.2 (fun x hx=>?_),List.nil_append]
 ·obtain⟨i,hi,rfl⟩:=qh.1 hx
  unfold Dn;rw[Bool.not_eq_true',decide_eq_false_iff_not];show¬(((pF fr k).length+i:Nat):Int)<_;omega
 ·obtain⟨j,hj,rfl⟩:=nK hx
  unfold Dn;simp only[Bool.not_eq_true',decide_eq_false_iff_not,Decidable.not_not];show(j:Int)<_;omega
theorem IW (k:Nat):(rA fr k).Pairwise ug:=by
 rw[List.pairwise_iff_getElem]
 intro i j hi hj tN
 rw[qf hi,qf hj]
 have h:=List.pairwise_iff_getElem.1 (pL (p4 (fr:=fr) k)) i j (by rwa[gK]at hi) (by rwa[gK]at hj) tN
 have gv:i<(pF fr k).length:=by rwa[gK]at hi
 have pc:j<(pF fr k).length:=by rwa[gK]at hj
 have h':(pF fr k)[i].1.w+(pF fr k)[i].2.w≤(pF fr k)[j].1.w+(pF fr k)[j].2.w:=h
 unfold ug
 show _<_∨_=_∧(i:Int)≤(j:Int)
 simp only
 omega
theorem Im (k:Nat):(lK fr (k+1)).filter (Dn (pF fr k).length)=rA fr k:=by
 have hp:=(kX (fr:=fr) k).filter (Dn (pF fr k).length)
 rw[IX]at hp
 refine List.Perm.eq_of_pairwise (le:=ug) ?_ ((p4 (k+1)).filter _) (IW k) hp
 intro a b ha hb h1 h2
 obtain⟨i,hi,rfl⟩:=nK (hp.subset ha)
 obtain⟨j,hj,rfl⟩:=nK hb
 unfold ug at h1 h2
 simp only at h1 h2
 obtain rfl:i=j:=by omega
 rfl
theorem u9 (k:Nat):((lK fr (k+1)).filter fun x=>!Dn (pF fr k).length x).Perm (JU fr k):=by
 have hp:=(kX (fr:=fr) k).filter (fun x=>!Dn (pF fr k).length x)
 rwa[I0]at hp
theorem Ci (k:Nat):(JU fr k).Pairwise fun a b=>a.u≠b.u:=by
 rw[List.pairwise_iff_getElem]
 intro i j hi hj tN
 simp only[JU,List.getElem_map,List.getElem_range]
 omega
theorem l7 (k:Nat):nF fr≤(ag fr k).m:=G3 fr k
def Ht (fr:List Int)(k i:Nat):It:=⟨fF fr i,(((pF fr k).length+i:Nat):Int),i⟩
theorem Lo {k i:Nat}(h:i<nF fr):Ht fr k i∈lK fr (k+1):=(kX k).symm.subset (List.mem_append_right _ (qh.2 ⟨i,h,rfl⟩))
theorem PE {k i:Nat}{x:It}(hx:x∈lK fr (k+1))(hi:i<nF fr)(e:x.u=i):x=Ht fr k i:=by
 rcases List.mem_append.1 ((kX k).subset hx)with h|h
 ·obtain⟨j,hj,rfl⟩:=nK h
  have:=l7 (fr:=fr) k
  simp only at e;omega
 ·obtain⟨j,hj,rfl⟩:=qh.1 h
  simp only at e
  subst e;rfl
theorem Ln:∀{k i:Nat}{x:It},x∈lK fr k→i<nF fr→x.u=i→x.w=fF fr i
 |0,_,_,hx,_,_=>by rw[qZ]at hx;cases hx
 |k+1,_,_,hx,hi,e=>by rw[PE hx hi e];rfl
theorem UA {i:Nat}(h:i<nF fr):0<fF fr i:=by
 unfold fF
 have:=(gz (jh (d:=0) h)).2
 exact this
theorem ux:∀{k:Nat}{x:It},x∈lK fr k→0<x.w
 |0,_,hx=>by rw[qZ]at hx;cases hx
 |k+1,x,hx=>by
  rcases List.mem_append.1 ((kX k).subset hx)with h|h
  ·obtain⟨j,hj,rfl⟩:=nK h
   obtain⟨a,b⟩:=jy (a:=(pF fr k)[j].1) (b:=(pF fr k)[j].2) (l:=lK fr k) (List.getElem_mem hj)
   have:=ux a
   have:=ux b
   show 0<_+_
   omega
  ·obtain⟨i,hi,rfl⟩:=qh.1 h
   exact UA hi
def vF (fr:List Int)(k:Nat)(x:It)(i:Nat):Int:=((ag fr k).us x.u).getD i 0
def uT (fr:List Int)(k t i:Nat):Int:=du (fun x=>vF fr k x i) ((lK fr k).take t)
def aT (fr:List Int)(k t i:Nat):Int:=jU i ((lK fr k).take t)
def wT (fr:List Int)(k t:Nat):Int:=du (fun x=>x.w) ((lK fr k).take t)
theorem GN:∀{k i:Nat},i<nF fr→(ag fr k).us i=kP (nF fr) i
 |0,i,_=>rfl
 |k+1,i,h=>by
  have:=l7 (fr:=fr) k
  show(if i<(ag fr k).m then(ag fr k).us i else _)=_
  rw[if_pos (by omega)];exact GN h
theorem H4 {n k i:Nat}(hi:i<n):(kP n k).getD i 0=if k=i then 1 else 0:=by
 unfold kP
 simp only[List.getD_eq_getElem?_getD,List.getElem?_set,List.length_replicate]
 by_cases e:k=i
 ·subst e;simp[hi]
 ·rw[if_neg e,if_neg e];simp[hi]
theorem Eb {k:Nat}(g:It→Int)(h:It×It→Int)(hgh:∀j (hj:j<(pF fr k).length),g ⟨(pF fr k)[j].1.w+(pF fr k)[j].2.w,(j:Int),(ag fr k).m+j⟩=h (pF fr k)[j]):∀m,m≤(pF fr k).length→du g ((rA fr k).take m)=(((pF fr k).take m).map h).sum
 |0,_=>by simp[du]
 |m+1,hm=>by
  have ih:=Eb g h hgh m (by omega)
  rw[List.take_succ_eq_append_getElem (by rw[gK];omega),List.take_succ_eq_append_getElem (show m<(pF fr k).length by omega),ke,ih,List.map_append,List.sum_append,qf]
  simp only[du,List.map_cons,List.map_nil,List.sum_cons,List.sum_nil]
  rw[hgh m (by omega)]
theorem Ns (hb:fr.any jX=false)(hl:fr.length≤320){k:Nat}(hk:k≤15){i:Nat}(hi:i<nF fr)(j:Nat)(hj:j<(pF fr k).length):
 vF fr (k+1) ⟨(pF fr k)[j].1.w+(pF fr k)[j].2.w,(j:Int),(ag fr k).m+j⟩ i=vF fr k (pF fr k)[j].1 i+vF fr k (pF fr k)[j].2 i:=by
 have ok:=nB hb hl k hk
 obtain⟨⟨y,y1,_,y2⟩,⟨z,z1,_,z2⟩⟩:=tA (L:=(ag fr k).all) (List.getElem_mem hj)
 have l1:=ok.ul (pF fr k)[j].1.u (by rw[←y2];exact(ok.items y y1).1)
 have l2:=ok.ul (pF fr k)[j].2.u (by rw[←z2];exact(ok.items z z1).1)
 have hd:(pF fr k).getD j default=(pF fr k)[j]:=by simp[List.getD_eq_getElem?_getD,hj]
 unfold vF
 have e:(ag fr (k+1)).us ((ag fr k).m+j)=List.zipWith (·+·) ((ag fr k).us (pF fr k)[j].1.u) ((ag fr k).us (pF fr k)[j].2.u):=by
  show(if(ag fr k).m+j<(ag fr k).m then _ else Bh (ag fr k).us (pF fr k) ((ag fr k).m+j-(ag fr k).m))=_
  rw[if_neg (by omega),Nat.add_sub_cancel_left]
  unfold Bh
  rw[hd]
 show((ag fr (k+1)).us ((ag fr k).m+j)).getD i 0=_
 rw[e]
 simp only[List.getD_eq_getElem?_getD,List.getElem?_zipWith,List.getElem?_eq_getElem (show i<((ag fr k).us (pF fr k)[j].1.u).length by rw[l1];exact hi),List.getElem?_eq_getElem (show i<((ag fr k).us (pF fr k)[j].2.u).length by rw[l2];exact hi),Option.getD_some]
theorem KC (hb:fr.any jX=false)(hl:fr.length≤320){k t:Nat}(hk:k≤15)(ht:t≤(lK fr (k+1)).length):
 ∃m,2*m≤(lK fr k).length∧(t:Int)=m+ck (nF fr) (aT fr (k+1) t)∧(∀i,i<nF fr→uT fr (k+1) t i=uT fr k (2*m) i+aT fr (k+1) t i)∧
  wT fr (k+1) t=wT fr k (2*m)+ck (nF fr) (fun i=>fF fr i*aT fr (k+1) t i)∧(∀i,i<nF fr→0≤aT fr (k+1) t i∧aT fr (k+1) t i≤1)∧
  (∀i j,i<nF fr→j<nF fr→fF fr j<fF fr i→aT fr (k+1) t i≤aT fr (k+1) t j)∧(∀i,i<nF fr→aT fr k (2*m) i≤aT fr (k+1) t i):=by
 have hmg:=l7 (fr:=fr) k
 have kH:lK fr (k+1)=(lK fr (k+1)).take t++(lK fr (k+1)).drop t:=(List.take_append_drop _ _).symm
 have hT:((lK fr (k+1)).take t).length=t:=by rw[List.length_take];omega
 generalize ZA:(lK fr (k+1)).take t=T at kH hT
 generalize hDe:(lK fr (k+1)).drop t=D at kH
 generalize hm:(T.filter (Dn (pF fr k).length)).length=m
 generalize ZB:T.filter (fun x=>!Dn (pF fr k).length x)=TL
 have hTP:T.filter (Dn (pF fr k).length)=(rA fr k).take m:=by
  rw[←Im,kH,List.filter_append,←hm,List.take_left]
 have LN:m≤(pF fr k).length:=by
  have:=congrArg List.length hTP
  rw[hm,List.length_take,gK]at this
  omega
 have cg:(pF fr k).length=(lK fr k).length/2:=qd _
 have PO:∀g:It→Int,du g T=du g ((rA fr k).take m)+du g TL:=by
  intro g
  rw[←Ig (List.filter_append_perm (Dn (pF fr k).length) T),ke,hTP,ZB]
 have Uo:∀x∈TL,∃i,i<nF fr∧x=Ht fr k i:=by
  intro x hx
  have h1:x∈(lK fr (k+1)).filter fun x=>!Dn (pF fr k).length x:=by
   rw[kH,List.filter_append,ZB];exact List.mem_append_left _ hx
  exact qh.1 ((u9 k).subset h1)
 have Xe:TL.Pairwise fun a b=>a.u≠b.u:=by
  have h1:((lK fr (k+1)).filter fun x=>!Dn (pF fr k).length x).Pairwise fun a b=>a.u≠b.u:=(Ci k).perm (u9 k).symm (fun h=>fun e=>h e.symm)
  rw[kH,List.filter_append,ZB]at h1
  exact(List.pairwise_append.1 h1).1
 have hnp:∀i,i<nF fr→jU i ((rA fr k).take m)=0:=by
  intro i hi
  apply rN
  intro x hx
  obtain⟨j,hj,rfl⟩:=nK (List.mem_of_mem_take hx)
  show(ag fr k).m+j≠i
  omega
 have Ri:∀i,i<nF fr→aT fr (k+1) t i=jU i TL:=by
  intro i hi
  have:=PO (fun x=>if x.u=i then 1 else 0)
  unfold aT
  rw[ZA]
  have h0:=hnp i hi
  unfold jU at h0⊢
  rw[this,h0];omega
 have Xd:∀x∈TL,x.u<nF fr:=by
  intro x hx
  obtain⟨i,hi,rfl⟩:=Uo x hx
  exact hi
 have Bn:∀i,i<nF fr→∀y∈T,fF fr i<y.w→1≤aT fr (k+1) t i:=by
  intro i hi y hy hw
  have h1:=Lo (fr:=fr) (k:=k) hi
  rw[kH]at h1
  rcases List.mem_append.1 h1 with h1|h1
  ·have:aT fr (k+1) t i=jU i T:=by unfold aT;rw[ZA]
   rw[this]
   exact C2 ⟨_,h1,rfl⟩
  ·exfalso
   have h2:=p4 (fr:=fr) (k+1)
   rw[kH]at h2
   have h3:=(List.pairwise_append.1 h2).2.2 y hy _ h1
   unfold ug at h3
   have h4:(Ht fr k i).w=fF fr i:=rfl
   omega
 refine⟨m,by omega,?_,?_,?_,?_,?_,?_⟩
 ·have h1:=PO (fun _=>1)
  have jL:∀l:List It,du (fun _=>1) l=l.length:=by
   intro l
   induction l with
   |nil=>rfl
   |cons x l ih=>simp only[du,ih,List.length_cons];omega
  rw[jL,jL,hT,List.length_take,gK,Nat.min_eq_left LN]at h1
  have h2:=u3 (n:=nF fr) (fun _=>1) Xd
  rw[h1,h2,bs (h:=aT fr (k+1) t) fun i hi=>by rw[Ri i hi];omega]
 ·intro i hi
  have h1:=PO (fun x=>vF fr (k+1) x i)
  have h2:=Eb (k:=k) (fun x=>vF fr (k+1) x i) (fun q=>vF fr k q.1 i+vF fr k q.2 i) (Ns hb hl hk hi) m LN
  have h3:=qc (fun x=>vF fr k x i) (lK fr k) m LN
  have h4:du (fun x=>vF fr (k+1) x i) TL=jU i TL:=by
   refine lQ fun x hx=>?_
   obtain⟨j,hj,rfl⟩:=Uo x hx
   show((ag fr (k+1)).us j).getD i 0=if j=i then 1 else 0
   rw[GN hj,H4 hi]
  rw[Ri i hi]
  unfold uT
  rw[ZA,h1,h2,h4]
  rw[←h3];rfl
 ·have h1:=PO (fun x=>x.w)
  have h2:=Eb (k:=k) (fun x=>x.w) (fun q=>q.1.w+q.2.w) (fun _ _=>rfl) m LN
  have h3:=qc (fun x=>x.w) (lK fr k) m LN
  have h4:du (fun x=>x.w) TL=ck (nF fr) (fun i=>fF fr i*jU i TL):=by
   rw[←u3 (fF fr) Xd]
   refine lQ fun x hx=>?_
   obtain⟨j,hj,rfl⟩:=Uo x hx
   rfl
  unfold wT
  rw[ZA,h1,h2,h4,←h3]
  rw[bs (g:=fun i=>fF fr i*aT fr (k+1) t i) (h:=fun i=>fF fr i*jU i TL) fun i hi=>by rw[Ri i hi]]
  rfl
 ·intro i hi
  rw[Ri i hi]
  exact⟨uM i TL,uN Xe⟩
 ·intro i j hi hj hw
  by_cases h:∃x∈TL,x.u=i
  ·obtain⟨x,hx,e⟩:=h
   have hxT:x∈T:=by rw[←ZB]at hx;exact(List.mem_filter.1 hx).1
   have Ay:x∈lK fr (k+1):=by rw[kH];exact List.mem_append_left _ hxT
   have Ze:=Ln Ay hi e
   have h1:=Bn j hj x hxT (by omega)
   rw[Ri i hi]
   have:=uN (i:=i) Xe
   omega
  ·rw[Ri i hi,rN (fun x hx e=>h ⟨x,hx,e⟩),Ri j hj]
   exact uM j TL
 ·intro i hi
  have h0:0≤aT fr (k+1) t i:=by rw[Ri i hi];exact uM i TL
  by_cases h:∃x∈(lK fr k).take (2*m),x.u=i
  ·obtain⟨y,hy,e⟩:=h
   have hyw:=Ln (List.mem_of_mem_take hy) hi e
   obtain⟨q,hq,hyq⟩:=yz (lK fr k) m LN hy
   obtain⟨j,hj,rfl⟩:=List.getElem_of_mem hq
   rw[List.length_take]at hj
   have pc:j<(pF fr k).length:=by have:j<min m (pF fr k).length:=hj;omega
   have hjm:j<m:=by omega
   have LB:(rA fr k).take m=(rA fr k).take m:=rfl
   have Tz:(rA fr k)[j]'(by rw[gK];exact pc)∈T:=by
    have:(rA fr k)[j]'(by rw[gK];exact pc)∈(rA fr k).take m:=by
     rw[List.mem_take_iff_getElem]
     exact⟨j,by rw[gK];omega,rfl⟩
    rw[←hTP]at this
    exact(List.mem_filter.1 this).1
   have hg:((cz (lK fr k)).take m)[j]=(pF fr k)[j]:=by rw[List.getElem_take];rfl
   rw[hg]at hyq
   obtain⟨a,b⟩:=jy (a:=(pF fr k)[j].1) (b:=(pF fr k)[j].2) (l:=lK fr k) (List.getElem_mem pc)
   have pa:=ux a
   have pb:=ux b
   have h1:=Bn i hi _ Tz (by
    rw[qf]
    show fF fr i<_+_
    rcases hyq with rfl|rfl<;>omega)
   have h2:aT fr k (2*m) i≤1:=by
    cases k with
    |zero=>simp[aT,qZ,jU,du]
    |succ k=>
     unfold aT
     apply uN
     have h3:(lK fr (k+1)).Pairwise fun a b=>a.u≠b.u:=by
      refine List.Pairwise.perm ?_ (kX k).symm (fun h=>fun e=>h e.symm)
      rw[List.pairwise_append]
      refine⟨?_,Ci k,?_⟩
      ·rw[List.pairwise_iff_getElem]
       intro i j hi hj tN
       rw[qf hi,qf hj]
       show(ag fr k).m+i≠(ag fr k).m+j
       omega
      ·intro a ha b hb
       obtain⟨j,hj,rfl⟩:=nK ha
       obtain⟨i,hi,rfl⟩:=qh.1 hb
       have:=l7 (fr:=fr) k
       show(ag fr k).m+j≠i
       omega
     exact h3.sublist (List.take_sublist _ _)
   omega
  ·have:aT fr k (2*m) i=0:=rN fun x hx e=>h ⟨x,hx,e⟩
   omega
end
end Go.Proofs.Ytibadaomjlkoaaa
open Go.RowKit
namespace Go.Proofs.Ytibadaomjlkoaaa
def wid (k u:Nat):Int:=2^(k+1)-2^(k+1-u)
theorem uS (k:Nat):wid k 0=0:=by simp[wid]
theorem J4 (k u:Nat)(h:u≤k):wid (k+1) (u+1)=2^(k+1)+wid k u:=by
 unfold wid
 rw[show k+1+1-(u+1)=k+1-u by omega,Int.pow_succ (2:Int) (k+1)]
 omega
theorem B7 (n:Nat):(0:Int)<2^n:=by exact_mod_cast Nat.two_pow_pos n
theorem mf {a b:Nat}(h:a≤b):(2:Int)^a≤2^b:=by exact_mod_cast Nat.pow_le_pow_right (by omega) h
theorem Kf {n i j:Nat}{g:Nat→Int}(h:∀x,x<n→0≤g x)(hi:i<n)(hj:j<n)(tN:i≠j):g i+g j≤ck n g:=by
 rw[←zE g hi,←zE g hj,←nv]
 refine GS fun x hx=>?_
 have:=h x hx
 by_cases e:x=i
 ·rw[if_pos e,if_neg (by omega)];omega
 ·rw[if_neg e];split<;>omega
section
variable{fr:List Int}
structure Y3 (fr:List Int)(k t:Nat):Prop where
 ub:∀i,i<nF fr→0≤uT fr k t i∧uT fr k t i≤k
 mono:∀i j,i<nF fr→j<nF fr→fF fr j<fF fr i→uT fr k t i≤uT fr k t j
 none:∀i,i<nF fr→aT fr k t i≤0→uT fr k t i=0
 cost:wT fr k t=ck (nF fr) (fun i=>fF fr i*uT fr k t i)
 width:ck (nF fr) (fun i=>wid k (uT fr k t i).toNat)=(t:Int)*2^k
theorem QM (hb:fr.any jX=false)(hl:fr.length≤320):∀k t,k≤15→t≤(lK fr k).length→Y3 fr k t
 |0,t,_,ht=>by
  rw[qZ]at ht
  obtain rfl:t=0:=by simpa using ht
  have hu:∀i,uT fr 0 0 i=0:=fun i=>rfl
  refine⟨fun i _=>by rw[hu];simp,fun i j _ _ _=>by rw[hu,hu];exact Int.le_refl _,fun i _ _=>hu i,?_,?_⟩
  ·rw[bs (h:=fun _=>0) fun i _=>by rw[hu];simp,oE];rfl
  ·rw[bs (h:=fun _=>0) fun i _=>by rw[hu];exact uS 0,oE];simp
 |k+1,t,hk,ht=>by
  obtain⟨m,h1,h2,h3,h4,h5,h6,h7⟩:=KC hb hl (show k≤15 by omega) ht
  have ih:=QM hb hl k (2*m) (by omega) h1
  refine⟨?_,?_,?_,?_,?_⟩
  ·intro i hi
   have a:=ih.ub i hi
   have b:=h5 i hi
   rw[h3 i hi];omega
  ·intro i j hi hj hw
   have a:=ih.mono i j hi hj hw
   have b:=h6 i j hi hj hw
   rw[h3 i hi,h3 j hj];omega
  ·intro i hi ha
   have a:=h7 i hi
   have b:=h5 i hi
   have c:=ih.none i hi (by omega)
   rw[h3 i hi,c];omega
  ·rw[h4,ih.cost,←nv]
   exact bs fun i hi=>by rw[h3 i hi,Int.mul_add]
  ·have e:∀i,i<nF fr→wid (k+1) (uT fr (k+1) t i).toNat=wid k (uT fr k (2*m) i).toNat+2^(k+1)*aT fr (k+1) t i:=by
    intro i hi
    have a:=ih.ub i hi
    have b:=h5 i hi
    rcases(show aT fr (k+1) t i=0∨aT fr (k+1) t i=1 by omega)with c|c
    ·have d:=ih.none i hi (by have:=h7 i hi;omega)
     rw[h3 i hi,c,d]
     show wid (k+1) 0=wid k 0+_
     rw[uS,uS];simp
    ·rw[h3 i hi,c,show(uT fr k (2*m) i+1).toNat=(uT fr k (2*m) i).toNat+1 by omega,J4 k _ (by omega)];omega
   rw[bs e,nv,qW,ih.width,h2,Int.pow_succ]
   push_cast
   rw[Int.add_mul,Int.mul_comm 2 (m:Int),Int.mul_assoc,Int.mul_comm (2^k*2) (ck _ _),Int.mul_comm 2 (2^k)]
def jF (fr:List Int)(K i:Nat):Int:=uT fr K (2*nF fr-2) i
theorem GV (k:Nat):(lK fr k).length=(ag fr k).all.length:=Io _
theorem Tq (hb:fr.any jX=false)(hl:fr.length≤320){K:Nat}(h1:1≤K)(qs:K≤15)(hn:2≤nF fr)(hK:nF fr≤2^K):
 (∀i,i<nF fr→1≤jF fr K i∧jF fr K i≤K)∧(∀i j,i<nF fr→j<nF fr→fF fr j<fF fr i→jF fr K i≤jF fr K j)∧
  ck (nF fr) (fun i=>2^(15-(jF fr K i).toNat))=32768∧wT fr K (2*nF fr-2)=ck (nF fr) (fun i=>fF fr i*jF fr K i):=by
 have ok:=QM hb hl K (2*nF fr-2) qs (by rw[GV];exact l8 fr h1 hK)
 have hw:=ok.width
 have e1:ck (nF fr) (fun i=>2^(K+1-(jF fr K i).toNat))=2^(K+1):=by
  have a:ck (nF fr) (fun i=>wid K (jF fr K i).toNat+2^(K+1-(jF fr K i).toNat))=nF fr*2^(K+1):=by
   rw[bs (h:=fun _=>2^(K+1)*1) fun i _=>by unfold wid;omega,qW,BD,Int.mul_comm]
  rw[nv]at a
  have b:ck (nF fr) (fun i=>wid K (jF fr K i).toNat)=((2*nF fr-2:Nat):Int)*2^K:=hw
  rw[b,Int.pow_succ]at a
  rw[Int.pow_succ]
  have c:((2*nF fr-2:Nat):Int)=2*(nF fr:Int)-2:=by omega
  rw[c,Int.sub_mul,Int.mul_comm (2^K) 2,←Int.mul_assoc,Int.mul_comm (nF fr:Int) 2]at a
  omega
 have cY:∀i,i<nF fr→1≤jF fr K i:=by
  intro i hi
  have a:=(ok.ub i hi).1
  rcases Int.lt_or_le 0 (jF fr K i)with h|h
  ·omega
  ·exfalso
   have h0:jF fr K i=0:=Int.le_antisymm h a
   obtain⟨j,hj,tN⟩:∃j,j<nF fr∧i≠j:=by
    by_cases e:i=0
    ·exact⟨1,by omega,by omega⟩
    ·exact⟨0,by omega,e⟩
   have:=Kf (g:=fun i=>(2:Int)^(K+1-(jF fr K i).toNat)) (fun x _=>Int.le_of_lt (B7 _)) hi hj tN
   rw[e1]at this
   simp only[h0]at this
   have p:=B7 (K+1-(jF fr K j).toNat)
   simp only[Int.toNat_zero,Nat.sub_zero]at this
   omega
 refine⟨fun i hi=>⟨cY i hi,(ok.ub i hi).2⟩,ok.mono,?_,ok.cost⟩
 have e2:ck (nF fr) (fun i=>2*2^(15-(jF fr K i).toNat))=ck (nF fr) (fun i=>2^(15-K)*2^(K+1-(jF fr K i).toNat)):=by
  refine bs fun i hi=>?_
  have a:=cY i hi
  have b:=(ok.ub i hi).2
  have b':jF fr K i≤K:=b
  rw[←Int.pow_add,show 15-K+(K+1-(jF fr K i).toNat)=(15-(jF fr K i).toNat)+1 by omega,Int.pow_succ,Int.mul_comm]
 rw[qW,qW,e1,←Int.pow_add,show 15-K+(K+1)=16 by omega]at e2
 have:(2:Int)^16=65536:=by decide
 omega
end
end Go.Proofs.Ytibadaomjlkoaaa
open Go.RowKit
namespace Go.Proofs.Ytibadaomjlkoaaa
theorem jP (l:List Int)(i j:Nat)(v:Int):(l.set i v).getD j 0=if i=j∧i<l.length then v else l.getD j 0:=by
 simp only[List.getD_eq_getElem?_getD,List.getElem?_set]
 by_cases e:i=j
 ·subst e
  by_cases h:i<l.length
  ·rw[if_pos rfl,if_pos h,if_pos ⟨rfl,h⟩];rfl
  ·rw[if_pos rfl,if_neg h,if_neg (fun x=>h x.2),List.getElem?_eq_none (by omega)]
 ·rw[if_neg e,if_neg (fun x=>e x.1)]
theorem zt (s:Nat)(used:List Nat)(v:Int)(uv out:List Int):qE (s::used) (v::uv) out=qE used uv (out.set s ((out.getD s 0+v%256)%256)):=rfl
theorem qD {s:Nat}:∀{used:List Nat}{uv out:List Int},s∉used→(qE used uv out).getD s 0=out.getD s 0
 |[],_,_,_=>rfl
 |_::_,[],_,_=>by simp[qE]
 |x::used,v::uv,out,h=>by
  rw[zt,qD (fun h'=>h (List.mem_cons_of_mem _ h')),jP,if_neg (fun h'=>h (by rw[h'.1];exact List.mem_cons_self ..))]
theorem Dh:∀{used:List Nat}{uv out:List Int}{i:Nat},used.Nodup→(∀s∈used,s<out.length)→used.length=uv.length→i<used.length→
 (qE used uv out).getD (used.getD i 0) 0=(out.getD (used.getD i 0) 0+uv.getD i 0%256)%256
 |[],_,_,i,_,_,_,hi=>by simp at hi
 |_::_,[],_,_,_,_,hl,_=>by simp at hl
 |x::used,v::uv,out,i,hn,hs,hl,hi=>by
  obtain⟨n1,n2⟩:=List.nodup_cons.1 hn
  rw[zt]
  cases i with
  |zero=>
   show(qE used uv _).getD x 0=(out.getD x 0+v%256)%256
   rw[qD n1,jP,if_pos ⟨rfl,hs x (List.mem_cons_self ..)⟩]
  |succ i=>
   have lf:i<used.length:=by simpa using hi
   show(qE used uv _).getD (used.getD i 0) 0=(out.getD (used.getD i 0) 0+uv.getD i 0%256)%256
   rw[Dh n2 (fun s h=>by rw[List.length_set];exact hs s (List.mem_cons_of_mem _ h)) (by simpa using hl) lf,jP,if_neg (fun h=>n1 (by rw[h.1];exact jh lf))]
section
variable{fr:List Int}
theorem Bx (fr:List Int):(aM fr).Nodup:=by
 unfold aM;exact List.Pairwise.filter _ List.nodup_range
theorem Cc (hb:fr.any jX=false)(hl:fr.length≤320){K:Nat}(hK:K≤15){i:Nat}(hi:i<nF fr):∀t,t≤(lK fr K).length→(ud fr (ag fr K) ((lK fr K).take t)).getD ((aM fr).getD i 0) 0=uT fr K t i%256
 |0,_=>by
  have hm:=gz (jh (d:=0) hi)
  simp[ud,uT,du,List.getD_eq_getElem?_getD,List.getElem?_replicate]
  split<;>rfl
 |t+1,ht=>by
  have ih:=Cc hb hl hK hi t (by omega)
  have hx:(lK fr K)[t]'(by omega)∈lK fr K:=List.getElem_mem _
  obtain⟨y,hy,_,hyu⟩:=iM (L:=(ag fr K).all) hx
  have ok:=nB hb hl K hK
  have uh:=ok.ul _ (ok.items y hy).1
  rw[hyu]at uh
  have hlen:=vJ fr (ag fr K) ((lK fr K).take t)
  rw[List.take_succ_eq_append_getElem (by omega),sB,Dh (Bx fr) (fun s hs=>by rw[hlen];exact(gz hs).1) uh.symm hi,ih]
  unfold uT
  rw[List.take_succ_eq_append_getElem (by omega),ke]
  simp only[du]
  unfold vF
  omega
theorem D3 {r:Row}{s:Nat}(hs:s∉aM fr):∀t:List It,(ud fr r t).getD s 0=0:=by
 intro t
 obtain⟨n,hn⟩:∃n,t.length=n:=⟨_,rfl⟩
 induction n generalizing t with
 |zero=>
  obtain rfl:=List.eq_nil_of_length_eq_zero hn
  simp[ud,List.getD_eq_getElem?_getD,List.getElem?_replicate]
  split<;>rfl
 |succ n ih=>
  rcases List.eq_nil_or_concat t with rfl|⟨t,x,rfl⟩
  ·simp at hn
  ·simp only[List.concat_eq_append]at hn⊢
   rw[sB,qD hs]
   exact ih t (by rw[List.length_append]at hn;simpa using hn)
theorem Bw {s:Nat}:s∈aM fr↔s<fr.length∧0<fr.getD s 0:=by
 unfold aM
 simp only[List.mem_filter,List.mem_range,decide_eq_true_eq]
theorem Nu {s:Nat}(h:s∈aM fr):∃i,i<nF fr∧(aM fr).getD i 0=s:=by
 obtain⟨i,hi,e⟩:=List.getElem_of_mem h
 exact⟨i,hi,by rw[List.getD_eq_getElem?_getD,List.getElem?_eq_getElem hi];exact e⟩
theorem tp (p:Nat→Bool)(g:Nat→Int):∀N,ck N (fun s=>if p s=true then g s else 0)=ck ((List.range N).filter p).length (fun i=>g (((List.range N).filter p).getD i 0))
 |0=>rfl
 |N+1=>by
  simp only[ck]
  rw[tp p g N,List.range_succ,List.filter_append]
  by_cases h:p N=true
  ·rw[if_pos h,List.filter_cons_of_pos h,List.filter_nil,List.length_append]
   show _=ck (((List.range N).filter p).length+1) _
   simp only[ck]
   rw[show(((List.range N).filter p)++[N]).getD ((List.range N).filter p).length 0=N by simp[List.getD_eq_getElem?_getD]]
   congr 1
   exact bs fun i hi=>by simp[List.getD_eq_getElem?_getD,List.getElem?_append_left hi]
  ·rw[if_neg h,List.filter_cons_of_neg h,List.filter_nil,List.append_nil];omega
theorem oF (g:Nat→Int):ck fr.length (fun s=>if 0<fr.getD s 0 then g s else 0)=ck (nF fr) (fun i=>g ((aM fr).getD i 0)):=by
 have:=tp (fun i=>decide (0<fr.getD i 0)) g fr.length
 simp only[decide_eq_true_eq]at this
 exact this
structure iQ (fr:List Int)(K:Nat)(l:List Int):Prop where
 len:l.length=fr.length
 pos:∀s,s<fr.length→0<fr.getD s 0→1≤l.getD s 0∧l.getD s 0≤K
 zero:∀s,s<fr.length→¬0<fr.getD s 0→l.getD s 0=0
 one:nF fr=1→∀s,l.getD s 0≤1
 mono:∀i k,i<fr.length→k<fr.length→fr.getD k 0<fr.getD i 0→0<fr.getD k 0→l.getD i 0≤l.getD k 0
 V7:2≤nF fr→ck fr.length (fun s=>if 0<fr.getD s 0 then 2^(15-(l.getD s 0).toNat)else 0)=32768
 cost:2≤nF fr→ck fr.length (fun s=>if 0<fr.getD s 0 then fr.getD s 0*l.getD s 0 else 0)=wT fr K (2*nF fr-2)
theorem vz (n s:Nat):(List.replicate n (0:Int)).getD s 0=0:=by
 simp[List.getD_eq_getElem?_getD,List.getElem?_replicate]
 split<;>rfl
theorem PB (hb:fr.any jX=false)(hl:fr.length≤320){K:Nat}(h1:1≤K)(qs:K≤15)(hK:nF fr≤2^K):iQ fr K (bM fr K):=by
 have Wl:∀s,s<fr.length→0<fr.getD s 0→∃i,i<nF fr∧(aM fr).getD i 0=s:=fun s a b=>Nu (Bw.2 ⟨a,b⟩)
 rcases(show nF fr=0∨nF fr=1∨2≤nF fr by omega)with hn|hn|hn
 ·have tL:∀s,s<fr.length→¬0<fr.getD s 0:=by
   intro s a b
   obtain⟨i,hi,_⟩:=Wl s a b
   omega
  rw[yT K hn]
  exact⟨by simp,fun s a b=>absurd b (tL s a),fun s _ _=>vz _ _,fun h=>by omega,fun i k hi hk _ h=>absurd h (tL k hk),fun h=>by omega,fun h=>by omega⟩
 ·rw[Cs K hn]
  have Bn:∀s,s<fr.length→0<fr.getD s 0→(aM fr).getD 0 0=s:=by
   intro s a b
   obtain⟨i,hi,e⟩:=Wl s a b
   obtain rfl:i=0:=by omega
   exact e
  have hm:=gz (jh (l:=aM fr) (j:=0) (d:=0) (by have:(aM fr).length=1:=hn;omega))
  refine⟨by simp,?_,?_,?_,?_,fun h=>by omega,fun h=>by omega⟩
  ·intro s a b
   rw[jP,if_pos ⟨Bn s a b,by rw[List.length_replicate];exact hm.1⟩];omega
  ·intro s a b
   rw[jP,if_neg (fun e=>b (by rw[←e.1];exact hm.2)),vz]
  ·intro _ s
   rw[jP,vz];split<;>omega
  ·intro i k hi hk h1 h2
   have e1:=Bn i hi (by omega)
   have e2:=Bn k hk h2
   rw[←e1,←e2];exact Int.le_refl _
 ·obtain⟨a1,a2,a3,a4⟩:=Tq hb hl h1 qs hn hK
  have hlen:(bM fr K).length=fr.length:=vY fr K
  have ht:2*nF fr-2≤(lK fr K).length:=by rw[GV];exact l8 fr h1 hK
  have cH:∀i,i<nF fr→(bM fr K).getD ((aM fr).getD i 0) 0=jF fr K i:=by
   intro i hi
   rw[vX K hn]
   have:=Cc hb hl qs hi (2*nF fr-2) ht
   have b:=a1 i hi
   refine Eq.trans this ?_
   show jF fr K i%256=jF fr K i
   omega
  refine⟨hlen,?_,?_,fun h=>by omega,?_,fun _=>?_,fun _=>?_⟩
  ·intro s a b
   obtain⟨i,hi,rfl⟩:=Wl s a b
   rw[cH i hi];exact a1 i hi
  ·intro s a b
   rw[vX K hn]
   exact D3 (fun h=>b (Bw.1 h).2) _
  ·intro i k hi hk hw hp
   obtain⟨i',lf,rfl⟩:=Wl i hi (by omega)
   obtain⟨k',mr,rfl⟩:=Wl k hk hp
   rw[cH i' lf,cH k' mr]
   exact a2 i' k' lf mr hw
  ·rw[oF (fun s=>2^(15-((bM fr K).getD s 0).toNat)),←a3]
   exact bs fun i hi=>by rw[cH i hi]
  ·rw[oF (fun s=>fr.getD s 0*(bM fr K).getD s 0),a4]
   exact bs fun i hi=>by rw[cH i hi];rfl
end
end Go.Proofs.Ytibadaomjlkoaaa
open Go.RowKit
namespace Go.Proofs.Ytibadaomjlkoaaa
end Go.Proofs.Ytibadaomjlkoaaa
open Go.RowKit
namespace Go.Proofs.Ytibadaomjlkoaaa
set_option maxRecDepth 10000
section
variable{M:AH}{K Kp:AV→AH→Prop}
theorem UJ {i g n c0 co:Nat}{o:Bool}{ls:List Int}(hi:M[i]?=some (.one o g (.ints .u8 ls co)))(hn:n=ls.length)(hl:ls.length≤2000)(hu:∀x∈ls,0≤x∧x<256)
 (h:∀g' c' cv,(aj ls).length≤c'→K (.aE [.sl (M.length+1) g' 0 (aj ls).length c',.int .i64 (aB ls)]) (M++[.aX true (aj ls).length (bF (aj ls) cv),tO M.length cv g' c' (aj ls)])):aa Try.prog 56 [.sl i g 0 n c0] M K Kp:=by
 subst hn
 refine aa.lift [.cP i g 0] (MN (ls:=ls) (c0:=c0) (c:=co) (Kp:=fun _ _=>False) hl hu) rfl rfl ⟨⟨_,_,_,rfl,ao hi,cq.same rfl (fun h=>h)⟩,trivial⟩ ⟨trivial,trivial⟩ ?_ (fun _ _ h=>h.elim)
 rintro r M' ⟨g',c',cv,rfl,rfl,nU⟩
 exact⟨⟨rfl,rfl⟩,h g' c' cv nU⟩
theorem NQ {i g n c0 co:Nat}{o:Bool}{xs:List Int}(hi:M[i]?=some (.one o g (.ints .u8 xs co)))(hn:n=xs.length)(hl:xs.length≤100000000)(hu:∀x∈xs,0≤x∧x<256)
 (h:∀g' c',(unpack xs).length≤c'→K (.sl M.length g' 0 (unpack xs).length c') (M++[.one true g' (.ax (unpack xs) c')])):aa Try.prog 19 [.sl i g 0 n c0] M K Kp:=by
 subst hn
 refine aa.lift [.cP i g 0] (KF (xs:=xs) (c0:=c0) (c:=co) (Kp:=fun _ _=>False) hl hu) rfl rfl ⟨⟨_,_,_,rfl,ao hi,cq.same rfl (fun h=>h)⟩,trivial⟩ ⟨trivial,trivial⟩ ?_ (fun _ _ h=>h.elim)
 rintro r M' ⟨g',c',rfl,rfl,nU⟩
 exact⟨⟨rfl,rfl⟩,h g' c' nU⟩
theorem J8 {ir ib im it g c a:Nat}{xs:List Int}{es:List ((Int×Int)×Int)}(h1:M[ir]?=some (ro ib g c xs a))(h2:M[ib]?=some (rb g c xs))(h3:M[im]?=some (.one true 0 (.map (.pair .i64 .i64) (mm es))))(h4:M[it]?=some (.one true 0 (.cells [.mp im 0])))
 (lN:(bu [.own ir,.own ib,.own im,.own it]&&AV.nq [.own ir,.own ib,.own im,.own it] [.ptr 3 0 0,.ptr 0 0 0])=true)
 (hb:xs.length≤1000000)(ha:a≤8*xs.length)(Ay:∀x∈xs,0≤x∧x<256)(m9:∀k z,cf k es=some z→k.2≤15)
 (h:K (.aE [.int .i64 (fe es (unpack xs) a).1,.int .i64 (fe es (unpack xs) a).2.2]) ((((M.set ir (ro ib g c xs (fe es (unpack xs) a).2.1)).set ib (rb g c xs)).set im (.one true 0 (.map (.pair .i64 .i64) (mm es)))).set it (.one true 0 (.cells [.mp im 0])))):
 aa Try.prog 101 [.ptr it 0 0,.ptr ir 0 0] M K Kp:=by
 refine aa.lift [.own ir,.own ib,.own im,.own it] (Dy (xs:=xs) (g:=g) (c:=c) (es:=es) (a:=a) (K:=fun r M=>r=.aE [.int .i64 (fe es (unpack xs) a).1,.int .i64 (fe es (unpack xs) a).2.2]∧M=H7 g c xs (fe es (unpack xs) a).2.1 es) (Kp:=fun _ _=>False) hb ha Ay m9 ⟨rfl,rfl⟩) rfl lN
  ⟨⟨h1,rfl⟩,⟨h2,rfl⟩,⟨by rw[h3];show some _=some (AO.one true 0 ((af.map (.pair .i64 .i64) (mm es)).rn _ _));rw[kr],rfl⟩,⟨h4,rfl⟩,trivial⟩ ⟨rfl,trivial,yK _ (.pair .i64 .i64) es,rfl,trivial⟩ ?_ (fun _ _ h=>h.elim)
 rintro r M' ⟨rfl,rfl⟩
 refine⟨⟨rfl,rfl,rfl,rfl,rfl⟩,?_⟩
 rw[←kr [.own ir,.own ib,.own im,.own it] M.length (.pair .i64 .i64) es,←List.append_nil ((((M.set ir _).set ib _).set im _).set it _)]at h
 exact h
end
theorem G8 (ts:List bb)(row:List Bool)(a:Nat):∀(f b:Nat),b≤row.length→(nC ts row a f b).2.1≤row.length
 |0,b,h=>h
 |f+1,b,h=>by
  simp only[nC]
  split
  ·exact h
  ·split
   ·split
    ·exact h
    ·exact G8 ts row a f (b+1) (by omega)
   ·exact h
theorem NS {ts:List bb}{row:List Bool}{a:Nat}(h:a≤row.length):(l9 ts row a).2.1≤row.length:=G8 ts row a _ a h
end Go.Proofs.Ytibadaomjlkoaaa
