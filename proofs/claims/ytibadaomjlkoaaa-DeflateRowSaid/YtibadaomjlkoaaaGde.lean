import Derived.Test.YtibadaomjlkoaaaGdd
import Derived.Test.YtibadaomjlkoaaaGdc
import Derived.Test.YtibadaomjlkoaaaGb
set_option linter.unusedVariables false
set_option linter.unusedSimpArgs false
open Go.RowKit
namespace Go.Proofs.Ytibadaomjlkoaaa
def cZ (g:It→Int):List It→Int
 |[]=>0
 |x::l=>g x+cZ g l
theorem ji (g:It→Int):∀l l':List It,cZ g (l++l')=cZ g l+cZ g l'
 |[],l'=>by simp[cZ]
 |x::l,l'=>by simp only[List.cons_append,cZ,ji g l l'];omega
theorem Fv {g:It→Int}{l l':List It}(h:l.Perm l'):cZ g l=cZ g l':=by
 induction h with
 |nil=>rfl
 |cons x _ ih=>simp only[cZ,ih]
 |swap x y l=>simp only[cZ];omega
 |trans _ _ a b=>rw[a,b]
theorem kA {g h:It→Int}:∀{l:List It},(∀x∈l,g x=h x)→cZ g l=cZ h l
 |[],_=>rfl
 |x::l,e=>by simp only[cZ];rw[e x (List.mem_cons_self ..),kA fun y hy=>e y (List.mem_cons_of_mem _ hy)]
theorem D6 {g:It→Int}:∀{l:List It},(∀x∈l,0≤g x)→0≤cZ g l
 |[],_=>Int.le_refl _
 |x::l,e=>by
  have:=e x (List.mem_cons_self ..)
  have:=D6 (g:=g) (l:=l) fun y hy=>e y (List.mem_cons_of_mem _ hy)
  simp only[cZ];omega
theorem Fu {g:It→Int}{l:List It}(h:∀x∈l,g x=0):cZ g l=0:=by
 rw[kA (h:=fun _=>0) h]
 clear h
 induction l with
 |nil=>rfl
 |cons x l ih=>simp only[cZ,ih];rfl
def bW:Nat→(Nat→Int)→Int
 |0,_=>0
 |n+1,g=>bW n g+g n
theorem bc {g h:Nat→Int}:∀{n:Nat},(∀i,i<n→g i=h i)→bW n g=bW n h
 |0,_=>rfl
 |n+1,e=>by simp only[bW];rw[e n (Nat.lt_succ_self n),bc fun i hi=>e i (by omega)]
theorem lW (n:Nat)(g h:Nat→Int):bW n (fun i=>g i+h i)=bW n g+bW n h:=by
 induction n with
 |zero=>rfl
 |succ n ih=>simp only[bW,ih];omega
theorem pr (n:Nat)(c:Int)(g:Nat→Int):bW n (fun i=>c*g i)=c*bW n g:=by
 induction n with
 |zero=>simp[bW]
 |succ n ih=>simp only[bW,ih,Int.mul_add]
theorem D5 {g h:Nat→Int}:∀{n:Nat},(∀i,i<n→g i≤h i)→bW n g≤bW n h
 |0,_=>Int.le_refl _
 |n+1,e=>by
  have:=e n (Nat.lt_succ_self n)
  have:=D5 (n:=n) fun i hi=>e i (by omega)
  simp only[bW];omega
theorem mX (n:Nat):bW n (fun _=>0)=0:=by
 induction n with
 |zero=>rfl
 |succ n ih=>simp only[bW,ih];rfl
theorem zn (n:Nat):bW n (fun _=>1)=n:=by
 induction n with
 |zero=>rfl
 |succ n ih=>simp only[bW,ih];omega
theorem xD {n j:Nat}(g:Nat→Int)(h:j<n):bW n (fun i=>if i=j then g i else 0)=g j:=by
 induction n with
 |zero=>omega
 |succ n ih=>
  simp only[bW]
  by_cases e:j=n
  ·subst e
   rw[if_pos rfl,bc (h:=fun _=>0) fun i hi=>if_neg (by omega),mX];omega
  ·rw[ih (by omega),if_neg (by omega)];omega
def iT (i:Nat)(l:List It):Int:=cZ (fun x=>if x.u=i then 1 else 0) l
theorem sw (i:Nat)(l:List It):0≤iT i l:=D6 fun x _=>by split<;>omega
theorem AS {i:Nat}:∀{l:List It},(∃x∈l,x.u=i)→1≤iT i l
 |[],h=>by obtain⟨x,hx,_⟩:=h;cases hx
 |y::l,h=>by
  obtain⟨x,hx,e⟩:=h
  have h0:=sw i l
  unfold iT at h0⊢
  simp only[cZ]
  rcases List.mem_cons.1 hx with rfl|hx
  ·rw[if_pos e];omega
  ·have:=AS (l:=l) ⟨x,hx,e⟩
   unfold iT at this
   split<;>omega
theorem p6 {i:Nat}{l:List It}(h:∀x∈l,x.u≠i):iT i l=0:=Fu fun x hx=>if_neg (h x hx)
theorem sx {i:Nat}:∀{l:List It},l.Pairwise (fun a b=>a.u≠b.u)→iT i l≤1
 |[],_=>by show(0:Int)≤1;omega
 |x::l,h=>by
  obtain⟨h1,h2⟩:=List.pairwise_cons.1 h
  unfold iT
  simp only[cZ]
  split
  ·rename_i e
   have:=p6 (i:=i) (l:=l) fun y hy=>by have:=h1 y hy;omega
   unfold iT at this
   omega
  ·have:=sx (i:=i) h2
   unfold iT at this
   omega
theorem sK {n:Nat}(h:Nat→Int):∀{l:List It},(∀x∈l,x.u<n)→cZ (fun x=>h x.u) l=bW n (fun i=>h i*iT i l)
 |[],_=>by
  rw[bc (h:=fun _=>0) fun i _=>by simp[iT,cZ],mX];rfl
 |x::l,e=>by
  have hx:=e x (List.mem_cons_self ..)
  have ih:=sK (n:=n) h (l:=l) fun y hy=>e y (List.mem_cons_of_mem _ hy)
  simp only[cZ]
  rw[ih,bc (g:=fun i=>h i*iT i (x::l)) (h:=fun i=>(if i=x.u then h i else 0)+h i*iT i l) (fun i _=>by
   show h i*((if x.u=i then 1 else 0)+iT i l)=_
   rw[Int.mul_add]
   by_cases e:i=x.u
   ·rw[if_pos e,if_pos e.symm];omega
   ·rw[if_neg e,if_neg (fun h=>e h.symm)];omega),lW,xD _ hx]
theorem oA (g:It→Int):∀(l:List It)(m:Nat),m≤(bZ l).length→(((bZ l).take m).map fun q=>g q.1+g q.2).sum=cZ g (l.take (2*m))
 |_,0,_=>by simp[cZ]
 |[],m+1,h=>by simp[bZ]at h
 |[_],m+1,h=>by simp[bZ]at h
 |a::b::r,m+1,h=>by
  simp only[bZ,List.length_cons,Nat.add_le_add_iff_right]at h
  have ih:=oA g r m h
  rw[show 2*(m+1)=2*m+1+1 by omega]
  simp only[bZ,List.take_succ_cons,List.map_cons,List.sum_cons,cZ]
  rw[ih];omega
theorem wj:∀(l:List It)(m:Nat){y:It},m≤(bZ l).length→y∈l.take (2*m)→∃q∈(bZ l).take m,y=q.1∨y=q.2
 |_,0,_,_,h=>by simp at h
 |[],m+1,_,h,_=>by simp[bZ]at h
 |[_],m+1,_,h,_=>by simp[bZ]at h
 |a::b::r,m+1,y,h,hy=>by
  simp only[bZ,List.length_cons,Nat.add_le_add_iff_right]at h
  rw[show 2*(m+1)=2*m+1+1 by omega]at hy
  simp only[List.take_succ_cons,List.mem_cons]at hy
  simp only[bZ,List.take_succ_cons,List.mem_cons]
  rcases hy with rfl|rfl|hy
  ·exact⟨_,.inl rfl,.inl rfl⟩
  ·exact⟨_,.inl rfl,.inr rfl⟩
  ·obtain⟨q,h1,h2⟩:=wj r m h hy
   exact⟨q,.inr h1,h2⟩
theorem nY:∀{l:List It},l.Pairwise rX→(bZ l).Pairwise fun p q=>p.1.w+p.2.w≤q.1.w+q.2.w
 |[],_=>List.Pairwise.nil
 |[_],_=>List.Pairwise.nil
 |a::b::r,h=>by
  obtain⟨h1,h2⟩:=List.pairwise_cons.1 h
  obtain⟨h3,h4⟩:=List.pairwise_cons.1 h2
  refine List.Pairwise.cons (fun q hq=>?_) (nY h4)
  obtain⟨q1,q2⟩:=iF (a:=q.1) (b:=q.2) (l:=r) hq
  have a1:=h1 _ (List.mem_cons_of_mem _ q1)
  have a2:=h3 _ q2
  unfold rX at a1 a2
  show a.w+b.w≤q.1.w+q.2.w
  omega
section
variable(fr:List Int)
abbrev nF:Nat:=(aC fr).length
def fF (i:Nat):Int:=fr.getD ((aC fr).getD i 0) 0
def ks (k:Nat):List It:=D8 (af fr k).all
def pF (k:Nat):List (It×It):=av (af fr k).all
def pQ (k:Nat):List It:=(pF fr k).mapIdx fun j q=>⟨q.1.w+q.2.w,(j:Int),(af fr k).m+j⟩
def G0 (k:Nat):List It:=(List.range (nF fr)).map fun i=>⟨fF fr i,(((pF fr k).length+i:Nat):Int),i⟩
theorem H4 (k:Nat):eR (af fr (k+1)).all.length (af fr (k+1)).all=pQ fr k++G0 fr k:=by
 apply List.ext_getElem
 ·rw[dU,jW];simp[pQ,G0,pF,kR]
 ·intro j h1 h2
  rw[dU]at h1
  have hd:∀(L:List It)(h:j<L.length),L[j]=L.getD j default:=fun L h=>by simp[List.getD_eq_getElem?_getD,h]
  rw[hd _ (by rw[dU];exact h1),j5 _ _ _ h1,if_pos h1]
  by_cases hj:j<(pF fr k).length
  ·rw[show(af fr (k+1)).all.getD j default=_ from Et hj,List.getElem_append_left (by simpa[pQ]using hj)]
   simp only[pQ,List.getElem_mapIdx,QN,aY,List.getD_eq_getElem?_getD,List.getElem?_mapIdx]
   rw[List.getElem?_eq_getElem (show j<(av (af fr k).all).length from hj)]
   rfl
  ·have Bj:(pQ fr k).length≤j:=by simp[pQ];omega
   rw[show(af fr (k+1)).all.getD j default=_ from Eu (by show(pF fr k).length≤j;omega),List.getElem_append_right Bj]
   have Ss:(pQ fr k).length=(pF fr k).length:=by simp[pQ]
   have Q4:j-(pF fr k).length<(aC fr).length:=by
    rw[jW]at h1
    have:(pF fr k).length=(af fr k).all.length/2:=kR _
    omega
   have hg:(cw fr).getD (j-(av (af fr k).all).length) default=⟨fF fr (j-(pF fr k).length),0,j-(pF fr k).length⟩:=nr Q4
   rw[hg]
   simp only[G0,List.getElem_map,List.getElem_range,Ss]
   rw[show(pF fr k).length+(j-(pF fr k).length)=j by omega]
end
end Go.Proofs.Ytibadaomjlkoaaa
open Go.RowKit
namespace Go.Proofs.Ytibadaomjlkoaaa
section
variable{fr:List Int}
def Be (p:Nat)(x:It):Bool:=decide (x.k<(p:Int))
theorem fB (k:Nat):(pQ fr k).length=(pF fr k).length:=by simp[pQ]
theorem oE {k j:Nat}(h:j<(pQ fr k).length):(pQ fr k)[j]=⟨((pF fr k)[j]'(by rwa[fB]at h)).1.w+((pF fr k)[j]'(by rwa[fB]at h)).2.w,(j:Int),(af fr k).m+j⟩:=by
 simp only[pQ,List.getElem_mapIdx]
theorem mg {k:Nat}{x:It}(h:x∈pQ fr k):∃j,∃hj:j<(pF fr k).length,x=⟨(pF fr k)[j].1.w+(pF fr k)[j].2.w,(j:Int),(af fr k).m+j⟩:=by
 obtain⟨j,hj,rfl⟩:=List.getElem_of_mem h
 exact⟨j,by rwa[fB]at hj,oE hj⟩
theorem oG {k:Nat}{x:It}:x∈G0 fr k↔∃i,i<nF fr∧x=⟨fF fr i,(((pF fr k).length+i:Nat):Int),i⟩:=by
 simp only[G0,List.mem_map,List.mem_range]
 constructor
 ·rintro⟨i,h,rfl⟩;exact⟨i,h,rfl⟩
 ·rintro⟨i,h,rfl⟩;exact⟨i,h,rfl⟩
theorem jV (k:Nat):(ks fr (k+1)).Perm (pQ fr k++G0 fr k):=by
 have:=(sP (af fr (k+1)).all).1
 rw[H4]at this
 exact this
theorem oo (k:Nat):(ks fr k).Pairwise rX:=(sP _).2
theorem pw:ks fr 0=[]:=rfl
theorem F4 (k:Nat):(pQ fr k++G0 fr k).filter (Be (pF fr k).length)=pQ fr k:=by
 rw[List.filter_append,List.filter_eq_self.2 (fun x hx=>?_),List.filter_eq_nil_iff.2 (fun x hx=>?_),List.append_nil]
 ·obtain⟨i,hi,rfl⟩:=oG.1 hx
  unfold Be;rw[decide_eq_true_eq];show¬(((pF fr k).length+i:Nat):Int)<_;omega
 ·obtain⟨j,hj,rfl⟩:=mg hx
  unfold Be;rw[decide_eq_true_eq];show(j:Int)<_;omega
theorem F7 (k:Nat):(pQ fr k++G0 fr k).filter (fun x=>!Be (pF fr k).length x)=G0 fr k:=by
 rw[List.filter_append,List.filter_eq_nil_iff.2 (fun x hx=>?_),List.filter_eq_self.2 (fun x hx=>?_),List.nil_append]
 ·obtain⟨i,hi,rfl⟩:=oG.1 hx
  unfold Be;rw[Bool.not_eq_true',decide_eq_false_iff_not];show¬(((pF fr k).length+i:Nat):Int)<_;omega
 ·obtain⟨j,hj,rfl⟩:=mg hx
  unfold Be;simp only[Bool.not_eq_true',decide_eq_false_iff_not,Decidable.not_not];show(j:Int)<_;omega
theorem F3 (k:Nat):(pQ fr k).Pairwise rX:=by
 rw[List.pairwise_iff_getElem]
 intro i j hi hj rE
 rw[oE hi,oE hj]
 have h:=List.pairwise_iff_getElem.1 (nY (oo (fr:=fr) k)) i j (by rwa[fB]at hi) (by rwa[fB]at hj) rE
 have mu:i<(pF fr k).length:=by rwa[fB]at hi
 have Ap:j<(pF fr k).length:=by rwa[fB]at hj
 have h':(pF fr k)[i].1.w+(pF fr k)[i].2.w≤(pF fr k)[j].1.w+(pF fr k)[j].2.w:=h
 unfold rX
 show _<_∨_=_∧(i:Int)≤(j:Int)
 simp only
 omega
theorem FA (k:Nat):(ks fr (k+1)).filter (Be (pF fr k).length)=pQ fr k:=by
 have hp:=(jV (fr:=fr) k).filter (Be (pF fr k).length)
 rw[F4]at hp
 refine List.Perm.eq_of_pairwise (le:=rX) ?_ ((oo (k+1)).filter _) (F3 k) hp
 intro a b ha hb h1 h2
 obtain⟨i,hi,rfl⟩:=mg (hp.subset ha)
 obtain⟨j,hj,rfl⟩:=mg hb
 unfold rX at h1 h2
 simp only at h1 h2
 obtain rfl:i=j:=by omega
 rfl
theorem sO (k:Nat):((ks fr (k+1)).filter fun x=>!Be (pF fr k).length x).Perm (G0 fr k):=by
 have hp:=(jV (fr:=fr) k).filter (fun x=>!Be (pF fr k).length x)
 rwa[F7]at hp
theorem z5 (k:Nat):(G0 fr k).Pairwise fun a b=>a.u≠b.u:=by
 rw[List.pairwise_iff_getElem]
 intro i j hi hj rE
 simp only[G0,List.getElem_map,List.getElem_range]
 omega
theorem kJ (k:Nat):nF fr≤(af fr k).m:=Ee fr k
def EB (fr:List Int)(k i:Nat):It:=⟨fF fr i,(((pF fr k).length+i:Nat):Int),i⟩
theorem Io {k i:Nat}(h:i<nF fr):EB fr k i∈ks fr (k+1):=(jV k).symm.subset (List.mem_append_right _ (oG.2 ⟨i,h,rfl⟩))
theorem LY {k i:Nat}{x:It}(hx:x∈ks fr (k+1))(hi:i<nF fr)(e:x.u=i):x=EB fr k i:=by
 rcases List.mem_append.1 ((jV k).subset hx)with h|h
 ·obtain⟨j,hj,rfl⟩:=mg h
  have:=kJ (fr:=fr) k
  simp only at e;omega
 ·obtain⟨j,hj,rfl⟩:=oG.1 h
  simp only at e
  subst e;rfl
theorem Im:∀{k i:Nat}{x:It},x∈ks fr k→i<nF fr→x.u=i→x.w=fF fr i
 |0,_,_,hx,_,_=>by rw[pw]at hx;cases hx
 |k+1,_,_,hx,hi,e=>by rw[LY hx hi e];rfl
theorem QC {i:Nat}(h:i<nF fr):0<fF fr i:=by
 unfold fF
 have:=(fy (g9 (d:=0) h)).2
 exact this
theorem sd:∀{k:Nat}{x:It},x∈ks fr k→0<x.w
 |0,_,hx=>by rw[pw]at hx;cases hx
 |k+1,x,hx=>by
  rcases List.mem_append.1 ((jV k).subset hx)with h|h
  ·obtain⟨j,hj,rfl⟩:=mg h
   obtain⟨a,b⟩:=iF (a:=(pF fr k)[j].1) (b:=(pF fr k)[j].2) (l:=ks fr k) (List.getElem_mem hj)
   have:=sd a
   have:=sd b
   show 0<_+_
   omega
  ·obtain⟨i,hi,rfl⟩:=oG.1 h
   exact QC hi
def vF (fr:List Int)(k:Nat)(x:It)(i:Nat):Int:=((af fr k).us x.u).getD i 0
def uT (fr:List Int)(k t i:Nat):Int:=cZ (fun x=>vF fr k x i) ((ks fr k).take t)
def aT (fr:List Int)(k t i:Nat):Int:=iT i ((ks fr k).take t)
def wT (fr:List Int)(k t:Nat):Int:=cZ (fun x=>x.w) ((ks fr k).take t)
theorem DW:∀{k i:Nat},i<nF fr→(af fr k).us i=jN (nF fr) i
 |0,i,_=>rfl
 |k+1,i,h=>by
  have:=kJ (fr:=fr) k
  show(if i<(af fr k).m then(af fr k).us i else _)=_
  rw[if_pos (by omega)];exact DW h
theorem Fj {n k i:Nat}(hi:i<n):(jN n k).getD i 0=if k=i then 1 else 0:=by
 unfold jN
 simp only[List.getD_eq_getElem?_getD,List.getElem?_set,List.length_replicate]
 by_cases e:k=i
 ·subst e;simp[hi]
 ·rw[if_neg e,if_neg e];simp[hi]
theorem BP {k:Nat}(g:It→Int)(h:It×It→Int)(XZ:∀j (hj:j<(pF fr k).length),g ⟨(pF fr k)[j].1.w+(pF fr k)[j].2.w,(j:Int),(af fr k).m+j⟩=h (pF fr k)[j]):∀m,m≤(pF fr k).length→cZ g ((pQ fr k).take m)=(((pF fr k).take m).map h).sum
 |0,_=>by simp[cZ]
 |m+1,hm=>by
  have ih:=BP g h XZ m (by omega)
  rw[List.take_succ_eq_append_getElem (by rw[fB];omega),List.take_succ_eq_append_getElem (show m<(pF fr k).length by omega),ji,ih,List.map_append,List.sum_append,oE]
  simp only[cZ,List.map_cons,List.map_nil,List.sum_cons,List.sum_nil]
  rw[XZ m (by omega)]
theorem Ke (hb:fr.any iX=false)(hl:fr.length≤320){k:Nat}(hk:k≤15){i:Nat}(hi:i<nF fr)(j:Nat)(hj:j<(pF fr k).length):
 vF fr (k+1) ⟨(pF fr k)[j].1.w+(pF fr k)[j].2.w,(j:Int),(af fr k).m+j⟩ i=vF fr k (pF fr k)[j].1 i+vF fr k (pF fr k)[j].2 i:=by
 have ok:=l9 hb hl k hk
 obtain⟨⟨y,y1,_,y2⟩,⟨z,z1,_,z2⟩⟩:=rj (L:=(af fr k).all) (List.getElem_mem hj)
 have l1:=ok.ul (pF fr k)[j].1.u (by rw[←y2];exact(ok.items y y1).1)
 have l2:=ok.ul (pF fr k)[j].2.u (by rw[←z2];exact(ok.items z z1).1)
 have hd:(pF fr k).getD j default=(pF fr k)[j]:=by simp[List.getD_eq_getElem?_getD,hj]
 unfold vF
 have e:(af fr (k+1)).us ((af fr k).m+j)=List.zipWith (·+·) ((af fr k).us (pF fr k)[j].1.u) ((af fr k).us (pF fr k)[j].2.u):=by
  show(if(af fr k).m+j<(af fr k).m then _ else yX (af fr k).us (pF fr k) ((af fr k).m+j-(af fr k).m))=_
  rw[if_neg (by omega),Nat.add_sub_cancel_left]
  unfold yX
  rw[hd]
 show((af fr (k+1)).us ((af fr k).m+j)).getD i 0=_
 rw[e]
 simp only[List.getD_eq_getElem?_getD,List.getElem?_zipWith,List.getElem?_eq_getElem (show i<((af fr k).us (pF fr k)[j].1.u).length by rw[l1];exact hi),List.getElem?_eq_getElem (show i<((af fr k).us (pF fr k)[j].2.u).length by rw[l2];exact hi),Option.getD_some]
theorem HG (hb:fr.any iX=false)(hl:fr.length≤320){k t:Nat}(hk:k≤15)(ht:t≤(ks fr (k+1)).length):
 ∃m,2*m≤(ks fr k).length∧(t:Int)=m+bW (nF fr) (aT fr (k+1) t)∧(∀i,i<nF fr→uT fr (k+1) t i=uT fr k (2*m) i+aT fr (k+1) t i)∧
  wT fr (k+1) t=wT fr k (2*m)+bW (nF fr) (fun i=>fF fr i*aT fr (k+1) t i)∧(∀i,i<nF fr→0≤aT fr (k+1) t i∧aT fr (k+1) t i≤1)∧
  (∀i j,i<nF fr→j<nF fr→fF fr j<fF fr i→aT fr (k+1) t i≤aT fr (k+1) t j)∧(∀i,i<nF fr→aT fr k (2*m) i≤aT fr (k+1) t i):=by
 have hmg:=kJ (fr:=fr) k
 have jH:ks fr (k+1)=(ks fr (k+1)).take t++(ks fr (k+1)).drop t:=(List.take_append_drop _ _).symm
 have hT:((ks fr (k+1)).take t).length=t:=by rw[List.length_take];omega
 generalize UZ:(ks fr (k+1)).take t=T at jH hT
 generalize hDe:(ks fr (k+1)).drop t=D at jH
 generalize hm:(T.filter (Be (pF fr k).length)).length=m
 generalize U0:T.filter (fun x=>!Be (pF fr k).length x)=TL
 have Wx:T.filter (Be (pF fr k).length)=(pQ fr k).take m:=by
  rw[←FA,jH,List.filter_append,←hm,List.take_left]
 have IL:m≤(pF fr k).length:=by
  have:=congrArg List.length Wx
  rw[hm,List.length_take,fB]at this
  omega
 have bR:(pF fr k).length=(ks fr k).length/2:=oB _
 have Ma:∀g:It→Int,cZ g T=cZ g ((pQ fr k).take m)+cZ g TL:=by
  intro g
  rw[←Fv (List.filter_append_perm (Be (pF fr k).length) T),ji,Wx,U0]
 have Qq:∀x∈TL,∃i,i<nF fr∧x=EB fr k i:=by
  intro x hx
  have h1:x∈(ks fr (k+1)).filter fun x=>!Be (pF fr k).length x:=by
   rw[jH,List.filter_append,U0];exact List.mem_append_left _ hx
  exact oG.1 ((sO k).subset h1)
 have S0:TL.Pairwise fun a b=>a.u≠b.u:=by
  have h1:((ks fr (k+1)).filter fun x=>!Be (pF fr k).length x).Pairwise fun a b=>a.u≠b.u:=(z5 k).perm (sO k).symm (fun h=>fun e=>h e.symm)
  rw[jH,List.filter_append,U0]at h1
  exact(List.pairwise_append.1 h1).1
 have YZ:∀i,i<nF fr→iT i ((pQ fr k).take m)=0:=by
  intro i hi
  apply p6
  intro x hx
  obtain⟨j,hj,rfl⟩:=mg (List.mem_of_mem_take hx)
  show(af fr k).m+j≠i
  omega
 have ND:∀i,i<nF fr→aT fr (k+1) t i=iT i TL:=by
  intro i hi
  have:=Ma (fun x=>if x.u=i then 1 else 0)
  unfold aT
  rw[UZ]
  have h0:=YZ i hi
  unfold iT at h0⊢
  rw[this,h0];omega
 have SZ:∀x∈TL,x.u<nF fr:=by
  intro x hx
  obtain⟨i,hi,rfl⟩:=Qq x hx
  exact hi
 have Bk:∀i,i<nF fr→∀y∈T,fF fr i<y.w→1≤aT fr (k+1) t i:=by
  intro i hi y hy hw
  have h1:=Io (fr:=fr) (k:=k) hi
  rw[jH]at h1
  rcases List.mem_append.1 h1 with h1|h1
  ·have:aT fr (k+1) t i=iT i T:=by unfold aT;rw[UZ]
   rw[this]
   exact AS ⟨_,h1,rfl⟩
  ·exfalso
   have h2:=oo (fr:=fr) (k+1)
   rw[jH]at h2
   have h3:=(List.pairwise_append.1 h2).2.2 y hy _ h1
   unfold rX at h3
   have h4:(EB fr k i).w=fF fr i:=rfl
   omega
 refine⟨m,by omega,?_,?_,?_,?_,?_,?_⟩
 ·have h1:=Ma (fun _=>1)
  have fZ:∀l:List It,cZ (fun _=>1) l=l.length:=by
   intro l
   induction l with
   |nil=>rfl
   |cons x l ih=>simp only[cZ,ih,List.length_cons];omega
  rw[fZ,fZ,hT,List.length_take,fB,Nat.min_eq_left IL]at h1
  have h2:=sK (n:=nF fr) (fun _=>1) SZ
  rw[h1,h2,bc (h:=aT fr (k+1) t) fun i hi=>by rw[ND i hi];omega]
 ·intro i hi
  have h1:=Ma (fun x=>vF fr (k+1) x i)
  have h2:=BP (k:=k) (fun x=>vF fr (k+1) x i) (fun q=>vF fr k q.1 i+vF fr k q.2 i) (Ke hb hl hk hi) m IL
  have h3:=oA (fun x=>vF fr k x i) (ks fr k) m IL
  have h4:cZ (fun x=>vF fr (k+1) x i) TL=iT i TL:=by
   refine kA fun x hx=>?_
   obtain⟨j,hj,rfl⟩:=Qq x hx
   show((af fr (k+1)).us j).getD i 0=if j=i then 1 else 0
   rw[DW hj,Fj hi]
  rw[ND i hi]
  unfold uT
  rw[UZ,h1,h2,h4]
  rw[←h3];rfl
 ·have h1:=Ma (fun x=>x.w)
  have h2:=BP (k:=k) (fun x=>x.w) (fun q=>q.1.w+q.2.w) (fun _ _=>rfl) m IL
  have h3:=oA (fun x=>x.w) (ks fr k) m IL
  have h4:cZ (fun x=>x.w) TL=bW (nF fr) (fun i=>fF fr i*iT i TL):=by
   rw[←sK (fF fr) SZ]
   refine kA fun x hx=>?_
   obtain⟨j,hj,rfl⟩:=Qq x hx
   rfl
  unfold wT
  rw[UZ,h1,h2,h4,←h3]
  rw[bc (g:=fun i=>fF fr i*aT fr (k+1) t i) (h:=fun i=>fF fr i*iT i TL) fun i hi=>by rw[ND i hi]]
  rfl
 ·intro i hi
  rw[ND i hi]
  exact⟨sw i TL,sx S0⟩
 ·intro i j hi hj hw
  by_cases h:∃x∈TL,x.u=i
  ·obtain⟨x,hx,e⟩:=h
   have XA:x∈T:=by rw[←U0]at hx;exact(List.mem_filter.1 hx).1
   have Al:x∈ks fr (k+1):=by rw[jH];exact List.mem_append_left _ XA
   have UI:=Im Al hi e
   have h1:=Bk j hj x XA (by omega)
   rw[ND i hi]
   have:=sx (i:=i) S0
   omega
  ·rw[ND i hi,p6 (fun x hx e=>h ⟨x,hx,e⟩),ND j hj]
   exact sw j TL
 ·intro i hi
  have h0:0≤aT fr (k+1) t i:=by rw[ND i hi];exact sw i TL
  by_cases h:∃x∈(ks fr k).take (2*m),x.u=i
  ·obtain⟨y,hy,e⟩:=h
   have hyw:=Im (List.mem_of_mem_take hy) hi e
   obtain⟨q,hq,Xy⟩:=wj (ks fr k) m IL hy
   obtain⟨j,hj,rfl⟩:=List.getElem_of_mem hq
   rw[List.length_take]at hj
   have Ap:j<(pF fr k).length:=by have:j<min m (pF fr k).length:=hj;omega
   have XV:j<m:=by omega
   have IA:(pQ fr k).take m=(pQ fr k).take m:=rfl
   have PD:(pQ fr k)[j]'(by rw[fB];exact Ap)∈T:=by
    have:(pQ fr k)[j]'(by rw[fB];exact Ap)∈(pQ fr k).take m:=by
     rw[List.mem_take_iff_getElem]
     exact⟨j,by rw[fB];omega,rfl⟩
    rw[←Wx]at this
    exact(List.mem_filter.1 this).1
   have hg:((bZ (ks fr k)).take m)[j]=(pF fr k)[j]:=by rw[List.getElem_take];rfl
   rw[hg]at Xy
   obtain⟨a,b⟩:=iF (a:=(pF fr k)[j].1) (b:=(pF fr k)[j].2) (l:=ks fr k) (List.getElem_mem Ap)
   have pa:=sd a
   have pb:=sd b
   have h1:=Bk i hi _ PD (by
    rw[oE]
    show fF fr i<_+_
    rcases Xy with rfl|rfl<;>omega)
   have h2:aT fr k (2*m) i≤1:=by
    cases k with
    |zero=>simp[aT,pw,iT,cZ]
    |succ k=>
     unfold aT
     apply sx
     have h3:(ks fr (k+1)).Pairwise fun a b=>a.u≠b.u:=by
      refine List.Pairwise.perm ?_ (jV k).symm (fun h=>fun e=>h e.symm)
      rw[List.pairwise_append]
      refine⟨?_,z5 k,?_⟩
      ·rw[List.pairwise_iff_getElem]
       intro i j hi hj rE
       rw[oE hi,oE hj]
       show(af fr k).m+i≠(af fr k).m+j
       omega
      ·intro a ha b hb
       obtain⟨j,hj,rfl⟩:=mg ha
       obtain⟨i,hi,rfl⟩:=oG.1 hb
       have:=kJ (fr:=fr) k
       show(af fr k).m+j≠i
       omega
     exact h3.sublist (List.take_sublist _ _)
   omega
  ·have:aT fr k (2*m) i=0:=p6 fun x hx e=>h ⟨x,hx,e⟩
   omega
end
end Go.Proofs.Ytibadaomjlkoaaa
open Go.RowKit
namespace Go.Proofs.Ytibadaomjlkoaaa
def wid (k u:Nat):Int:=2^(k+1)-2^(k+1-u)
theorem sD (k:Nat):wid k 0=0:=by simp[wid]
theorem Ha (k u:Nat)(h:u≤k):wid (k+1) (u+1)=2^(k+1)+wid k u:=by
 unfold wid
 rw[show k+1+1-(u+1)=k+1-u by omega,Int.pow_succ (2:Int) (k+1)]
 omega
theorem zP (n:Nat):(0:Int)<2^n:=by exact_mod_cast Nat.two_pow_pos n
theorem kQ {a b:Nat}(h:a≤b):(2:Int)^a≤2^b:=by exact_mod_cast Nat.pow_le_pow_right (by omega) h
theorem Ho {n i j:Nat}{g:Nat→Int}(h:∀x,x<n→0≤g x)(hi:i<n)(hj:j<n)(rE:i≠j):g i+g j≤bW n g:=by
 rw[←xD g hi,←xD g hj,←lW]
 refine D5 fun x hx=>?_
 have:=h x hx
 by_cases e:x=i
 ·rw[if_pos e,if_neg (by omega)];omega
 ·rw[if_neg e];split<;>omega
section
variable{fr:List Int}
structure Uv (fr:List Int)(k t:Nat):Prop where
 ub:∀i,i<nF fr→0≤uT fr k t i∧uT fr k t i≤k
 mono:∀i j,i<nF fr→j<nF fr→fF fr j<fF fr i→uT fr k t i≤uT fr k t j
 none:∀i,i<nF fr→aT fr k t i≤0→uT fr k t i=0
 cost:wT fr k t=bW (nF fr) (fun i=>fF fr i*uT fr k t i)
 width:bW (nF fr) (fun i=>wid k (uT fr k t i).toNat)=(t:Int)*2^k
theorem Nb (hb:fr.any iX=false)(hl:fr.length≤320):∀k t,k≤15→t≤(ks fr k).length→Uv fr k t
 |0,t,_,ht=>by
  rw[pw]at ht
  obtain rfl:t=0:=by simpa using ht
  have hu:∀i,uT fr 0 0 i=0:=fun i=>rfl
  refine⟨fun i _=>by rw[hu];simp,fun i j _ _ _=>by rw[hu,hu];exact Int.le_refl _,fun i _ _=>hu i,?_,?_⟩
  ·rw[bc (h:=fun _=>0) fun i _=>by rw[hu];simp,mX];rfl
  ·rw[bc (h:=fun _=>0) fun i _=>by rw[hu];exact sD 0,mX];simp
 |k+1,t,hk,ht=>by
  obtain⟨m,h1,h2,h3,h4,h5,h6,h7⟩:=HG hb hl (show k≤15 by omega) ht
  have ih:=Nb hb hl k (2*m) (by omega) h1
  refine⟨?_,?_,?_,?_,?_⟩
  ·intro i hi
   have a:=ih.ub i hi
   have b:=h5 i hi
   rw[h3 i hi];omega
  ·intro i j hi hj hw
   have a:=ih.mono i j hi hj hw
   have b:=h6 i j hi hj hw
   rw[h3 i hi,h3 j hj];omega
  ·intro i hi ha
   have a:=h7 i hi
   have b:=h5 i hi
   have c:=ih.none i hi (by omega)
   rw[h3 i hi,c];omega
  ·rw[h4,ih.cost,←lW]
   exact bc fun i hi=>by rw[h3 i hi,Int.mul_add]
  ·have e:∀i,i<nF fr→wid (k+1) (uT fr (k+1) t i).toNat=wid k (uT fr k (2*m) i).toNat+2^(k+1)*aT fr (k+1) t i:=by
    intro i hi
    have a:=ih.ub i hi
    have b:=h5 i hi
    rcases(show aT fr (k+1) t i=0∨aT fr (k+1) t i=1 by omega)with c|c
    ·have d:=ih.none i hi (by have:=h7 i hi;omega)
     rw[h3 i hi,c,d]
     show wid (k+1) 0=wid k 0+_
     rw[sD,sD];simp
    ·rw[h3 i hi,c,show(uT fr k (2*m) i+1).toNat=(uT fr k (2*m) i).toNat+1 by omega,Ha k _ (by omega)];omega
   rw[bc e,lW,pr,ih.width,h2,Int.pow_succ]
   push_cast
   rw[Int.add_mul,Int.mul_comm 2 (m:Int),Int.mul_assoc,Int.mul_comm (2^k*2) (bW _ _),Int.mul_comm 2 (2^k)]
def iL (fr:List Int)(K i:Nat):Int:=uT fr K (2*nF fr-2) i
theorem D7 (k:Nat):(ks fr k).length=(af fr k).all.length:=FB _
theorem Pt (hb:fr.any iX=false)(hl:fr.length≤320){K:Nat}(h1:1≤K)(qT:K≤15)(hn:2≤nF fr)(hK:nF fr≤2^K):
 (∀i,i<nF fr→1≤iL fr K i∧iL fr K i≤K)∧(∀i j,i<nF fr→j<nF fr→fF fr j<fF fr i→iL fr K i≤iL fr K j)∧
  bW (nF fr) (fun i=>2^(15-(iL fr K i).toNat))=32768∧wT fr K (2*nF fr-2)=bW (nF fr) (fun i=>fF fr i*iL fr K i):=by
 have ok:=Nb hb hl K (2*nF fr-2) qT (by rw[D7];exact kK fr h1 hK)
 have hw:=ok.width
 have e1:bW (nF fr) (fun i=>2^(K+1-(iL fr K i).toNat))=2^(K+1):=by
  have a:bW (nF fr) (fun i=>wid K (iL fr K i).toNat+2^(K+1-(iL fr K i).toNat))=nF fr*2^(K+1):=by
   rw[bc (h:=fun _=>2^(K+1)*1) fun i _=>by unfold wid;omega,pr,zn,Int.mul_comm]
  rw[lW]at a
  have b:bW (nF fr) (fun i=>wid K (iL fr K i).toNat)=((2*nF fr-2:Nat):Int)*2^K:=hw
  rw[b,Int.pow_succ]at a
  rw[Int.pow_succ]
  have c:((2*nF fr-2:Nat):Int)=2*(nF fr:Int)-2:=by omega
  rw[c,Int.sub_mul,Int.mul_comm (2^K) 2,←Int.mul_assoc,Int.mul_comm (nF fr:Int) 2]at a
  omega
 have cE:∀i,i<nF fr→1≤iL fr K i:=by
  intro i hi
  have a:=(ok.ub i hi).1
  rcases Int.lt_or_le 0 (iL fr K i)with h|h
  ·omega
  ·exfalso
   have h0:iL fr K i=0:=Int.le_antisymm h a
   obtain⟨j,hj,rE⟩:∃j,j<nF fr∧i≠j:=by
    by_cases e:i=0
    ·exact⟨1,by omega,by omega⟩
    ·exact⟨0,by omega,e⟩
   have:=Ho (g:=fun i=>(2:Int)^(K+1-(iL fr K i).toNat)) (fun x _=>Int.le_of_lt (zP _)) hi hj rE
   rw[e1]at this
   simp only[h0]at this
   have p:=zP (K+1-(iL fr K j).toNat)
   simp only[Int.toNat_zero,Nat.sub_zero]at this
   omega
 refine⟨fun i hi=>⟨cE i hi,(ok.ub i hi).2⟩,ok.mono,?_,ok.cost⟩
 have e2:bW (nF fr) (fun i=>2*2^(15-(iL fr K i).toNat))=bW (nF fr) (fun i=>2^(15-K)*2^(K+1-(iL fr K i).toNat)):=by
  refine bc fun i hi=>?_
  have a:=cE i hi
  have b:=(ok.ub i hi).2
  have b':iL fr K i≤K:=b
  rw[←Int.pow_add,show 15-K+(K+1-(iL fr K i).toNat)=(15-(iL fr K i).toNat)+1 by omega,Int.pow_succ,Int.mul_comm]
 rw[pr,pr,e1,←Int.pow_add,show 15-K+(K+1)=16 by omega]at e2
 have:(2:Int)^16=65536:=by decide
 omega
end
end Go.Proofs.Ytibadaomjlkoaaa
open Go.RowKit
namespace Go.Proofs.Ytibadaomjlkoaaa
theorem iQ (l:List Int)(i j:Nat)(v:Int):(l.set i v).getD j 0=if i=j∧i<l.length then v else l.getD j 0:=by
 simp only[List.getD_eq_getElem?_getD,List.getElem?_set]
 by_cases e:i=j
 ·subst e
  by_cases h:i<l.length
  ·rw[if_pos rfl,if_pos h,if_pos ⟨rfl,h⟩];rfl
  ·rw[if_pos rfl,if_neg h,if_neg (fun x=>h x.2),List.getElem?_eq_none (by omega)]
 ·rw[if_neg e,if_neg (fun x=>e x.1)]
theorem xu (s:Nat)(used:List Nat)(v:Int)(uv out:List Int):o6 (s::used) (v::uv) out=o6 used uv (out.set s ((out.getD s 0+v%256)%256)):=rfl
theorem o5 {s:Nat}:∀{used:List Nat}{uv out:List Int},s∉used→(o6 used uv out).getD s 0=out.getD s 0
 |[],_,_,_=>rfl
 |_::_,[],_,_=>by simp[o6]
 |x::used,v::uv,out,h=>by
  rw[xu,o5 (fun h'=>h (List.mem_cons_of_mem _ h')),iQ,if_neg (fun h'=>h (by rw[h'.1];exact List.mem_cons_self ..))]
theorem A8:∀{used:List Nat}{uv out:List Int}{i:Nat},used.Nodup→(∀s∈used,s<out.length)→used.length=uv.length→i<used.length→
 (o6 used uv out).getD (used.getD i 0) 0=(out.getD (used.getD i 0) 0+uv.getD i 0%256)%256
 |[],_,_,i,_,_,_,hi=>by simp at hi
 |_::_,[],_,_,_,_,hl,_=>by simp at hl
 |x::used,v::uv,out,i,hn,hs,hl,hi=>by
  obtain⟨n1,n2⟩:=List.nodup_cons.1 hn
  rw[xu]
  cases i with
  |zero=>
   show(o6 used uv _).getD x 0=(out.getD x 0+v%256)%256
   rw[o5 n1,iQ,if_pos ⟨rfl,hs x (List.mem_cons_self ..)⟩]
  |succ i=>
   have j7:i<used.length:=by simpa using hi
   show(o6 used uv _).getD (used.getD i 0) 0=(out.getD (used.getD i 0) 0+uv.getD i 0%256)%256
   rw[A8 n2 (fun s h=>by rw[List.length_set];exact hs s (List.mem_cons_of_mem _ h)) (by simpa using hl) j7,iQ,if_neg (fun h=>n1 (by rw[h.1];exact g9 j7))]
section
variable{fr:List Int}
theorem zg (fr:List Int):(aC fr).Nodup:=by
 unfold aC;exact List.Pairwise.filter _ List.nodup_range
theorem zU (hb:fr.any iX=false)(hl:fr.length≤320){K:Nat}(hK:K≤15){i:Nat}(hi:i<nF fr):∀t,t≤(ks fr K).length→(rV fr (af fr K) ((ks fr K).take t)).getD ((aC fr).getD i 0) 0=uT fr K t i%256
 |0,_=>by
  have hm:=fy (g9 (d:=0) hi)
  simp[rV,uT,cZ,List.getD_eq_getElem?_getD,List.getElem?_replicate]
  split<;>rfl
 |t+1,ht=>by
  have ih:=zU hb hl hK hi t (by omega)
  have hx:(ks fr K)[t]'(by omega)∈ks fr K:=List.getElem_mem _
  obtain⟨y,hy,_,YA⟩:=gB (L:=(af fr K).all) hx
  have ok:=l9 hb hl K hK
  have EI:=ok.ul _ (ok.items y hy).1
  rw[YA]at EI
  have hlen:=tw fr (af fr K) ((ks fr K).take t)
  rw[List.take_succ_eq_append_getElem (by omega),qx,A8 (zg fr) (fun s hs=>by rw[hlen];exact(fy hs).1) EI.symm hi,ih]
  unfold uT
  rw[List.take_succ_eq_append_getElem (by omega),ji]
  simp only[cZ]
  unfold vF
  omega
theorem BL {r:Row}{s:Nat}(hs:s∉aC fr):∀t:List It,(rV fr r t).getD s 0=0:=by
 intro t
 obtain⟨n,hn⟩:∃n,t.length=n:=⟨_,rfl⟩
 induction n generalizing t with
 |zero=>
  obtain rfl:=List.eq_nil_of_length_eq_zero hn
  simp[rV,List.getD_eq_getElem?_getD,List.getElem?_replicate]
  split<;>rfl
 |succ n ih=>
  rcases List.eq_nil_or_concat t with rfl|⟨t,x,rfl⟩
  ·simp at hn
  ·simp only[List.concat_eq_append]at hn⊢
   rw[qx,o5 hs]
   exact ih t (by rw[List.length_append]at hn;simpa using hn)
theorem zf {s:Nat}:s∈aC fr↔s<fr.length∧0<fr.getD s 0:=by
 unfold aC
 simp only[List.mem_filter,List.mem_range,decide_eq_true_eq]
theorem Kg {s:Nat}(h:s∈aC fr):∃i,i<nF fr∧(aC fr).getD i 0=s:=by
 obtain⟨i,hi,e⟩:=List.getElem_of_mem h
 exact⟨i,hi,by rw[List.getD_eq_getElem?_getD,List.getElem?_eq_getElem hi];exact e⟩
theorem q9 (p:Nat→Bool)(g:Nat→Int):∀N,bW N (fun s=>if p s=true then g s else 0)=bW ((List.range N).filter p).length (fun i=>g (((List.range N).filter p).getD i 0))
 |0=>rfl
 |N+1=>by
  simp only[bW]
  rw[q9 p g N,List.range_succ,List.filter_append]
  by_cases h:p N=true
  ·rw[if_pos h,List.filter_cons_of_pos h,List.filter_nil,List.length_append]
   show _=bW (((List.range N).filter p).length+1) _
   simp only[bW]
   rw[show(((List.range N).filter p)++[N]).getD ((List.range N).filter p).length 0=N by simp[List.getD_eq_getElem?_getD]]
   congr 1
   exact bc fun i hi=>by simp[List.getD_eq_getElem?_getD,List.getElem?_append_left hi]
  ·rw[if_neg h,List.filter_cons_of_neg h,List.filter_nil,List.append_nil];omega
theorem mY (g:Nat→Int):bW fr.length (fun s=>if 0<fr.getD s 0 then g s else 0)=bW (nF fr) (fun i=>g ((aC fr).getD i 0)):=by
 have:=q9 (fun i=>decide (0<fr.getD i 0)) g fr.length
 simp only[decide_eq_true_eq]at this
 exact this
structure gH (fr:List Int)(K:Nat)(l:List Int):Prop where
 len:l.length=fr.length
 pos:∀s,s<fr.length→0<fr.getD s 0→1≤l.getD s 0∧l.getD s 0≤K
 zero:∀s,s<fr.length→¬0<fr.getD s 0→l.getD s 0=0
 one:nF fr=1→∀s,l.getD s 0≤1
 mono:∀i k,i<fr.length→k<fr.length→fr.getD k 0<fr.getD i 0→0<fr.getD k 0→l.getD i 0≤l.getD k 0
 RW:2≤nF fr→bW fr.length (fun s=>if 0<fr.getD s 0 then 2^(15-(l.getD s 0).toNat)else 0)=32768
 cost:2≤nF fr→bW fr.length (fun s=>if 0<fr.getD s 0 then fr.getD s 0*l.getD s 0 else 0)=wT fr K (2*nF fr-2)
theorem tc (n s:Nat):(List.replicate n (0:Int)).getD s 0=0:=by
 simp[List.getD_eq_getElem?_getD,List.getElem?_replicate]
 split<;>rfl
theorem LW (hb:fr.any iX=false)(hl:fr.length≤320){K:Nat}(h1:1≤K)(qT:K≤15)(hK:nF fr≤2^K):gH fr K (br fr K):=by
 have Sb:∀s,s<fr.length→0<fr.getD s 0→∃i,i<nF fr∧(aC fr).getD i 0=s:=fun s a b=>Kg (zf.2 ⟨a,b⟩)
 rcases(show nF fr=0∨nF fr=1∨2≤nF fr by omega)with hn|hn|hn
 ·have rC:∀s,s<fr.length→¬0<fr.getD s 0:=by
   intro s a b
   obtain⟨i,hi,_⟩:=Sb s a b
   omega
  rw[wK K hn]
  exact⟨by simp,fun s a b=>absurd b (rC s a),fun s _ _=>tc _ _,fun h=>by omega,fun i k hi hk _ h=>absurd h (rC k hk),fun h=>by omega,fun h=>by omega⟩
 ·rw[Af K hn]
  have Bk:∀s,s<fr.length→0<fr.getD s 0→(aC fr).getD 0 0=s:=by
   intro s a b
   obtain⟨i,hi,e⟩:=Sb s a b
   obtain rfl:i=0:=by omega
   exact e
  have hm:=fy (g9 (l:=aC fr) (j:=0) (d:=0) (by have:(aC fr).length=1:=hn;omega))
  refine⟨by simp,?_,?_,?_,?_,fun h=>by omega,fun h=>by omega⟩
  ·intro s a b
   rw[iQ,if_pos ⟨Bk s a b,by rw[List.length_replicate];exact hm.1⟩];omega
  ·intro s a b
   rw[iQ,if_neg (fun e=>b (by rw[←e.1];exact hm.2)),tc]
  ·intro _ s
   rw[iQ,tc];split<;>omega
  ·intro i k hi hk h1 h2
   have e1:=Bk i hi (by omega)
   have e2:=Bk k hk h2
   rw[←e1,←e2];exact Int.le_refl _
 ·obtain⟨a1,a2,a3,a4⟩:=Pt hb hl h1 qT hn hK
  have hlen:(br fr K).length=fr.length:=tL fr K
  have ht:2*nF fr-2≤(ks fr K).length:=by rw[D7];exact kK fr h1 hK
  have ck:∀i,i<nF fr→(br fr K).getD ((aC fr).getD i 0) 0=iL fr K i:=by
   intro i hi
   rw[tK K hn]
   have:=zU hb hl qT hi (2*nF fr-2) ht
   have b:=a1 i hi
   refine Eq.trans this ?_
   show iL fr K i%256=iL fr K i
   omega
  refine⟨hlen,?_,?_,fun h=>by omega,?_,fun _=>?_,fun _=>?_⟩
  ·intro s a b
   obtain⟨i,hi,rfl⟩:=Sb s a b
   rw[ck i hi];exact a1 i hi
  ·intro s a b
   rw[tK K hn]
   exact BL (fun h=>b (zf.1 h).2) _
  ·intro i k hi hk hw hp
   obtain⟨i',j7,rfl⟩:=Sb i hi (by omega)
   obtain⟨k',mr,rfl⟩:=Sb k hk hp
   rw[ck i' j7,ck k' mr]
   exact a2 i' k' j7 mr hw
  ·rw[mY (fun s=>2^(15-((br fr K).getD s 0).toNat)),←a3]
   exact bc fun i hi=>by rw[ck i hi]
  ·rw[mY (fun s=>fr.getD s 0*(br fr K).getD s 0),a4]
   exact bc fun i hi=>by rw[ck i hi];rfl
end
end Go.Proofs.Ytibadaomjlkoaaa
open Go.RowKit
namespace Go.Proofs.Ytibadaomjlkoaaa
end Go.Proofs.Ytibadaomjlkoaaa
open Go.RowKit
namespace Go.Proofs.Ytibadaomjlkoaaa
set_option maxRecDepth 10000
section
variable{M:AH}{K Kp:AV→AH→Prop}
theorem He {ir ib im it g c a:Nat}{xs:List Int}{es:List ((Int×Int)×Int)}(h1:M[ir]?=some (ro ib g c xs a))(h2:M[ib]?=some (rb g c xs))(h3:M[im]?=some (.one true 0 (.map (.pair .i64 .i64) (kW es))))(h4:M[it]?=some (.one true 0 (.cells [.mp im 0])))
 (o9:(bE [.own ir,.own ib,.own im,.own it]&&AV.o8 [.own ir,.own ib,.own im,.own it] [.ptr 3 0 0,.ptr 0 0 0])=true)
 (hb:xs.length≤1000000)(ha:a≤8*xs.length)(Al:∀x∈xs,0≤x∧x<256)(lM:∀k z,bN k es=some z→k.2≤15)
 (h:K (.aL [.int .i64 (ey es (unpack xs) a).1,.int .i64 (ey es (unpack xs) a).2.2]) ((((M.set ir (ro ib g c xs (ey es (unpack xs) a).2.1)).set ib (rb g c xs)).set im (.one true 0 (.map (.pair .i64 .i64) (kW es)))).set it (.one true 0 (.cells [.mp im 0])))):
 aa Try.prog 101 [.ptr it 0 0,.ptr ir 0 0] M K Kp:=by
 refine aa.lift [.own ir,.own ib,.own im,.own it] (Bo (xs:=xs) (g:=g) (c:=c) (es:=es) (a:=a) (K:=fun r M=>r=.aL [.int .i64 (ey es (unpack xs) a).1,.int .i64 (ey es (unpack xs) a).2.2]∧M=Fm g c xs (ey es (unpack xs) a).2.1 es) (Kp:=fun _ _=>False) hb ha Al lM ⟨rfl,rfl⟩) rfl o9
  ⟨⟨h1,rfl⟩,⟨h2,rfl⟩,⟨by rw[h3];show some _=some (AO.one true 0 ((ae.map (.pair .i64 .i64) (kW es)).rn _ _));rw[ju],rfl⟩,⟨h4,rfl⟩,trivial⟩ ⟨rfl,trivial,wB _ (.pair .i64 .i64) es,rfl,trivial⟩ ?_ (fun _ _ h=>h.elim)
 rintro r M' ⟨rfl,rfl⟩
 refine⟨⟨rfl,rfl,rfl,rfl,rfl⟩,?_⟩
 rw[←ju [.own ir,.own ib,.own im,.own it] M.length (.pair .i64 .i64) es,←List.append_nil ((((M.set ir _).set ib _).set im _).set it _)]at h
 exact h
end
end Go.Proofs.Ytibadaomjlkoaaa
