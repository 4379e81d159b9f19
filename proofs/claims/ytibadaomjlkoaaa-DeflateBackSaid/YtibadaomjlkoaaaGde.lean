import Derived.Test.YtibadaomjlkoaaaGdd
import Derived.Test.YtibadaomjlkoaaaGdc
import Derived.Test.YtibadaomjlkoaaaGb
set_option linter.unusedVariables false
set_option linter.unusedSimpArgs false
open Go.RowKit
namespace Go.Proofs.Ytibadaomjlkoaaa
def cZ (g:It→Int):List It→Int
 |[]=>0
 |x::l=>g x+cZ g l
theorem jf (g:It→Int):∀l l':List It,cZ g (l++l')=cZ g l+cZ g l'
 |[],l'=>by simp[cZ]
 |x::l,l'=>by simp only[List.cons_append,cZ,jf g l l'];omega
theorem Fg {g:It→Int}{l l':List It}(h:l.Perm l'):cZ g l=cZ g l':=by
 induction h with
 |nil=>rfl
 |cons x _ ih=>simp only[cZ,ih]
 |swap x y l=>simp only[cZ];omega
 |trans _ _ a b=>rw[a,b]
theorem kz {g h:It→Int}:∀{l:List It},(∀x∈l,g x=h x)→cZ g l=cZ h l
 |[],_=>rfl
 |x::l,e=>by simp only[cZ];rw[e x (List.mem_cons_self ..),kz fun y hy=>e y (List.mem_cons_of_mem _ hy)]
theorem DM {g:It→Int}:∀{l:List It},(∀x∈l,0≤g x)→0≤cZ g l
 |[],_=>Int.le_refl _
 |x::l,e=>by
  have:=e x (List.mem_cons_self ..)
  have:=DM (g:=g) (l:=l) fun y hy=>e y (List.mem_cons_of_mem _ hy)
  simp only[cZ];omega
theorem Ff {g:It→Int}{l:List It}(h:∀x∈l,g x=0):cZ g l=0:=by
 rw[kz (h:=fun _=>0) h]
 clear h
 induction l with
 |nil=>rfl
 |cons x l ih=>simp only[cZ,ih];rfl
def bT:Nat→(Nat→Int)→Int
 |0,_=>0
 |n+1,g=>bT n g+g n
theorem bc {g h:Nat→Int}:∀{n:Nat},(∀i,i<n→g i=h i)→bT n g=bT n h
 |0,_=>rfl
 |n+1,e=>by simp only[bT];rw[e n (Nat.lt_succ_self n),bc fun i hi=>e i (by omega)]
theorem lT (n:Nat)(g h:Nat→Int):bT n (fun i=>g i+h i)=bT n g+bT n h:=by
 induction n with
 |zero=>rfl
 |succ n ih=>simp only[bT,ih];omega
theorem pf (n:Nat)(c:Int)(g:Nat→Int):bT n (fun i=>c*g i)=c*bT n g:=by
 induction n with
 |zero=>simp[bT]
 |succ n ih=>simp only[bT,ih,Int.mul_add]
theorem DL {g h:Nat→Int}:∀{n:Nat},(∀i,i<n→g i≤h i)→bT n g≤bT n h
 |0,_=>Int.le_refl _
 |n+1,e=>by
  have:=e n (Nat.lt_succ_self n)
  have:=DL (n:=n) fun i hi=>e i (by omega)
  simp only[bT];omega
theorem mR (n:Nat):bT n (fun _=>0)=0:=by
 induction n with
 |zero=>rfl
 |succ n ih=>simp only[bT,ih];rfl
theorem zb (n:Nat):bT n (fun _=>1)=n:=by
 induction n with
 |zero=>rfl
 |succ n ih=>simp only[bT,ih];omega
theorem xp {n j:Nat}(g:Nat→Int)(h:j<n):bT n (fun i=>if i=j then g i else 0)=g j:=by
 induction n with
 |zero=>omega
 |succ n ih=>
  simp only[bT]
  by_cases e:j=n
  ·subst e
   rw[if_pos rfl,bc (h:=fun _=>0) fun i hi=>if_neg (by omega),mR];omega
  ·rw[ih (by omega),if_neg (by omega)];omega
def iQ (i:Nat)(l:List It):Int:=cZ (fun x=>if x.u=i then 1 else 0) l
theorem sf (i:Nat)(l:List It):0≤iQ i l:=DM fun x _=>by split<;>omega
theorem AB {i:Nat}:∀{l:List It},(∃x∈l,x.u=i)→1≤iQ i l
 |[],h=>by obtain⟨x,hx,_⟩:=h;cases hx
 |y::l,h=>by
  obtain⟨x,hx,e⟩:=h
  have h0:=sf i l
  unfold iQ at h0⊢
  simp only[cZ]
  rcases List.mem_cons.1 hx with rfl|hx
  ·rw[if_pos e];omega
  ·have:=AB (l:=l) ⟨x,hx,e⟩
   unfold iQ at this
   split<;>omega
theorem pV {i:Nat}{l:List It}(h:∀x∈l,x.u≠i):iQ i l=0:=Ff fun x hx=>if_neg (h x hx)
theorem sg {i:Nat}:∀{l:List It},l.Pairwise (fun a b=>a.u≠b.u)→iQ i l≤1
 |[],_=>by show(0:Int)≤1;omega
 |x::l,h=>by
  obtain⟨h1,h2⟩:=List.pairwise_cons.1 h
  unfold iQ
  simp only[cZ]
  split
  ·rename_i e
   have:=pV (i:=i) (l:=l) fun y hy=>by have:=h1 y hy;omega
   unfold iQ at this
   omega
  ·have:=sg (i:=i) h2
   unfold iQ at this
   omega
theorem sA {n:Nat}(h:Nat→Int):∀{l:List It},(∀x∈l,x.u<n)→cZ (fun x=>h x.u) l=bT n (fun i=>h i*iQ i l)
 |[],_=>by
  rw[bc (h:=fun _=>0) fun i _=>by simp[iQ,cZ],mR];rfl
 |x::l,e=>by
  have hx:=e x (List.mem_cons_self ..)
  have ih:=sA (n:=n) h (l:=l) fun y hy=>e y (List.mem_cons_of_mem _ hy)
  simp only[cZ]
  rw[ih,bc (g:=fun i=>h i*iQ i (x::l)) (h:=fun i=>(if i=x.u then h i else 0)+h i*iQ i l) (fun i _=>by
   show h i*((if x.u=i then 1 else 0)+iQ i l)=_
   rw[Int.mul_add]
   by_cases e:i=x.u
   ·rw[if_pos e,if_pos e.symm];omega
   ·rw[if_neg e,if_neg (fun h=>e h.symm)];omega),lT,xp _ hx]
theorem om (g:It→Int):∀(l:List It)(m:Nat),m≤(bX l).length→(((bX l).take m).map fun q=>g q.1+g q.2).sum=cZ g (l.take (2*m))
 |_,0,_=>by simp[cZ]
 |[],m+1,h=>by simp[bX]at h
 |[_],m+1,h=>by simp[bX]at h
 |a::b::r,m+1,h=>by
  simp only[bX,List.length_cons,Nat.add_le_add_iff_right]at h
  have ih:=om g r m h
  rw[show 2*(m+1)=2*m+1+1 by omega]
  simp only[bX,List.take_succ_cons,List.map_cons,List.sum_cons,cZ]
  rw[ih];omega
theorem v7:∀(l:List It)(m:Nat){y:It},m≤(bX l).length→y∈l.take (2*m)→∃q∈(bX l).take m,y=q.1∨y=q.2
 |_,0,_,_,h=>by simp at h
 |[],m+1,_,h,_=>by simp[bX]at h
 |[_],m+1,_,h,_=>by simp[bX]at h
 |a::b::r,m+1,y,h,hy=>by
  simp only[bX,List.length_cons,Nat.add_le_add_iff_right]at h
  rw[show 2*(m+1)=2*m+1+1 by omega]at hy
  simp only[List.take_succ_cons,List.mem_cons]at hy
  simp only[bX,List.take_succ_cons,List.mem_cons]
  rcases hy with rfl|rfl|hy
  ·exact⟨_,.inl rfl,.inl rfl⟩
  ·exact⟨_,.inl rfl,.inr rfl⟩
  ·obtain⟨q,h1,h2⟩:=v7 r m h hy
   exact⟨q,.inr h1,h2⟩
theorem nR:∀{l:List It},l.Pairwise rO→(bX l).Pairwise fun p q=>p.1.w+p.2.w≤q.1.w+q.2.w
 |[],_=>List.Pairwise.nil
 |[_],_=>List.Pairwise.nil
 |a::b::r,h=>by
  obtain⟨h1,h2⟩:=List.pairwise_cons.1 h
  obtain⟨h3,h4⟩:=List.pairwise_cons.1 h2
  refine List.Pairwise.cons (fun q hq=>?_) (nR h4)
  obtain⟨q1,q2⟩:=iB (a:=q.1) (b:=q.2) (l:=r) hq
  have a1:=h1 _ (List.mem_cons_of_mem _ q1)
  have a2:=h3 _ q2
  unfold rO at a1 a2
  show a.w+b.w≤q.1.w+q.2.w
  omega
section
variable(fr:List Int)
abbrev nF:Nat:=(aC fr).length
def fF (i:Nat):Int:=fr.getD ((aC fr).getD i 0) 0
def kr (k:Nat):List It:=DO (af fr k).all
def pF (k:Nat):List (It×It):=av (af fr k).all
def pJ (k:Nat):List It:=(pF fr k).mapIdx fun j q=>⟨q.1.w+q.2.w,(j:Int),(af fr k).m+j⟩
def GI (k:Nat):List It:=(List.range (nF fr)).map fun i=>⟨fF fr i,(((pF fr k).length+i:Nat):Int),i⟩
theorem HJ (k:Nat):eR (af fr (k+1)).all.length (af fr (k+1)).all=pJ fr k++GI fr k:=by
 apply List.ext_getElem
 ·rw[dQ,jS];simp[pJ,GI,pF,kQ]
 ·intro j h1 h2
  rw[dQ]at h1
  have hd:∀(L:List It)(h:j<L.length),L[j]=L.getD j default:=fun L h=>by simp[List.getD_eq_getElem?_getD,h]
  rw[hd _ (by rw[dQ];exact h1),jW _ _ _ h1,if_pos h1]
  by_cases hj:j<(pF fr k).length
  ·rw[show(af fr (k+1)).all.getD j default=_ from Ed hj,List.getElem_append_left (by simpa[pJ]using hj)]
   simp only[pJ,List.getElem_mapIdx,Ql,aY,List.getD_eq_getElem?_getD,List.getElem?_mapIdx]
   rw[List.getElem?_eq_getElem (show j<(av (af fr k).all).length from hj)]
   rfl
  ·have A7:(pJ fr k).length≤j:=by simp[pJ];omega
   rw[show(af fr (k+1)).all.getD j default=_ from Ee (by show(pF fr k).length≤j;omega),List.getElem_append_right A7]
   have RZ:(pJ fr k).length=(pF fr k).length:=by simp[pJ]
   have QD:j-(pF fr k).length<(aC fr).length:=by
    rw[jS]at h1
    have:(pF fr k).length=(af fr k).all.length/2:=kQ _
    omega
   have hg:(cr fr).getD (j-(av (af fr k).all).length) default=⟨fF fr (j-(pF fr k).length),0,j-(pF fr k).length⟩:=nd QD
   rw[hg]
   simp only[GI,List.getElem_map,List.getElem_range,RZ]
   rw[show(pF fr k).length+(j-(pF fr k).length)=j by omega]
end
end Go.Proofs.Ytibadaomjlkoaaa
open Go.RowKit
namespace Go.Proofs.Ytibadaomjlkoaaa
section
variable{fr:List Int}
def A2 (p:Nat)(x:It):Bool:=decide (x.k<(p:Int))
theorem fB (k:Nat):(pJ fr k).length=(pF fr k).length:=by simp[pJ]
theorem ot {k j:Nat}(h:j<(pJ fr k).length):(pJ fr k)[j]=⟨((pF fr k)[j]'(by rwa[fB]at h)).1.w+((pF fr k)[j]'(by rwa[fB]at h)).2.w,(j:Int),(af fr k).m+j⟩:=by
 simp only[pJ,List.getElem_mapIdx]
theorem mb {k:Nat}{x:It}(h:x∈pJ fr k):∃j,∃hj:j<(pF fr k).length,x=⟨(pF fr k)[j].1.w+(pF fr k)[j].2.w,(j:Int),(af fr k).m+j⟩:=by
 obtain⟨j,hj,rfl⟩:=List.getElem_of_mem h
 exact⟨j,by rwa[fB]at hj,ot hj⟩
theorem ov {k:Nat}{x:It}:x∈GI fr k↔∃i,i<nF fr∧x=⟨fF fr i,(((pF fr k).length+i:Nat):Int),i⟩:=by
 simp only[GI,List.mem_map,List.mem_range]
 constructor
 ·rintro⟨i,h,rfl⟩;exact⟨i,h,rfl⟩
 ·rintro⟨i,h,rfl⟩;exact⟨i,h,rfl⟩
theorem jR (k:Nat):(kr fr (k+1)).Perm (pJ fr k++GI fr k):=by
 have:=(sE (af fr (k+1)).all).1
 rw[HJ]at this
 exact this
theorem oa (k:Nat):(kr fr k).Pairwise rO:=(sE _).2
theorem pj:kr fr 0=[]:=rfl
theorem FN (k:Nat):(pJ fr k++GI fr k).filter (A2 (pF fr k).length)=pJ fr k:=by
 rw[List.filter_append,List.filter_eq_self.2 (fun x hx=>?_),List.filter_eq_nil_iff.2 (fun x hx=>?_),List.append_nil]
 ·obtain⟨i,hi,rfl⟩:=ov.1 hx
  unfold A2;rw[decide_eq_true_eq];show¬(((pF fr k).length+i:Nat):Int)<_;omega
 ·obtain⟨j,hj,rfl⟩:=mb hx
  unfold A2;rw[decide_eq_true_eq];show(j:Int)<_;omega
theorem FQ (k:Nat):(pJ fr k++GI fr k).filter (fun x=>!A2 (pF fr k).length x)=GI fr k:=by
 rw[List.filter_append,List.filter_eq_nil_iff.2 (fun x hx=>?_),List.filter_eq_self.2 (fun x hx=>?_),List.nil_append]
 ·obtain⟨i,hi,rfl⟩:=ov.1 hx
  unfold A2;rw[Bool.not_eq_true',decide_eq_false_iff_not];show¬(((pF fr k).length+i:Nat):Int)<_;omega
 ·obtain⟨j,hj,rfl⟩:=mb hx
  unfold A2;simp only[Bool.not_eq_true',decide_eq_false_iff_not,Decidable.not_not];show(j:Int)<_;omega
theorem FM (k:Nat):(pJ fr k).Pairwise rO:=by
 rw[List.pairwise_iff_getElem]
 intro i j hi hj rr
 rw[ot hi,ot hj]
 have h:=List.pairwise_iff_getElem.1 (nR (oa (fr:=fr) k)) i j (by rwa[fB]at hi) (by rwa[fB]at hj) rr
 have mm:i<(pF fr k).length:=by rwa[fB]at hi
 have Ad:j<(pF fr k).length:=by rwa[fB]at hj
 have h':(pF fr k)[i].1.w+(pF fr k)[i].2.w≤(pF fr k)[j].1.w+(pF fr k)[j].2.w:=h
 unfold rO
 show _<_∨_=_∧(i:Int)≤(j:Int)
 simp only
 omega
theorem Fl (k:Nat):(kr fr (k+1)).filter (A2 (pF fr k).length)=pJ fr k:=by
 have hp:=(jR (fr:=fr) k).filter (A2 (pF fr k).length)
 rw[FN]at hp
 refine List.Perm.eq_of_pairwise (le:=rO) ?_ ((oa (k+1)).filter _) (FM k) hp
 intro a b ha hb h1 h2
 obtain⟨i,hi,rfl⟩:=mb (hp.subset ha)
 obtain⟨j,hj,rfl⟩:=mb hb
 unfold rO at h1 h2
 simp only at h1 h2
 obtain rfl:i=j:=by omega
 rfl
theorem sD (k:Nat):((kr fr (k+1)).filter fun x=>!A2 (pF fr k).length x).Perm (GI fr k):=by
 have hp:=(jR (fr:=fr) k).filter (fun x=>!A2 (pF fr k).length x)
 rwa[FQ]at hp
theorem zP (k:Nat):(GI fr k).Pairwise fun a b=>a.u≠b.u:=by
 rw[List.pairwise_iff_getElem]
 intro i j hi hj rr
 simp only[GI,List.getElem_map,List.getElem_range]
 omega
theorem kI (k:Nat):nF fr≤(af fr k).m:=DW fr k
def En (fr:List Int)(k i:Nat):It:=⟨fF fr i,(((pF fr k).length+i:Nat):Int),i⟩
theorem H0 {k i:Nat}(h:i<nF fr):En fr k i∈kr fr (k+1):=(jR k).symm.subset (List.mem_append_right _ (ov.2 ⟨i,h,rfl⟩))
theorem Lu {k i:Nat}{x:It}(hx:x∈kr fr (k+1))(hi:i<nF fr)(e:x.u=i):x=En fr k i:=by
 rcases List.mem_append.1 ((jR k).subset hx)with h|h
 ·obtain⟨j,hj,rfl⟩:=mb h
  have:=kI (fr:=fr) k
  simp only at e;omega
 ·obtain⟨j,hj,rfl⟩:=ov.1 h
  simp only at e
  subst e;rfl
theorem HZ:∀{k i:Nat}{x:It},x∈kr fr k→i<nF fr→x.u=i→x.w=fF fr i
 |0,_,_,hx,_,_=>by rw[pj]at hx;cases hx
 |k+1,_,_,hx,hi,e=>by rw[Lu hx hi e];rfl
theorem P9 {i:Nat}(h:i<nF fr):0<fF fr i:=by
 unfold fF
 have:=(fy (gZ (d:=0) h)).2
 exact this
theorem rY:∀{k:Nat}{x:It},x∈kr fr k→0<x.w
 |0,_,hx=>by rw[pj]at hx;cases hx
 |k+1,x,hx=>by
  rcases List.mem_append.1 ((jR k).subset hx)with h|h
  ·obtain⟨j,hj,rfl⟩:=mb h
   obtain⟨a,b⟩:=iB (a:=(pF fr k)[j].1) (b:=(pF fr k)[j].2) (l:=kr fr k) (List.getElem_mem hj)
   have:=rY a
   have:=rY b
   show 0<_+_
   omega
  ·obtain⟨i,hi,rfl⟩:=ov.1 h
   exact P9 hi
def vF (fr:List Int)(k:Nat)(x:It)(i:Nat):Int:=((af fr k).us x.u).getD i 0
def uT (fr:List Int)(k t i:Nat):Int:=cZ (fun x=>vF fr k x i) ((kr fr k).take t)
def aT (fr:List Int)(k t i:Nat):Int:=iQ i ((kr fr k).take t)
def wT (fr:List Int)(k t:Nat):Int:=cZ (fun x=>x.w) ((kr fr k).take t)
theorem DG:∀{k i:Nat},i<nF fr→(af fr k).us i=jJ (nF fr) i
 |0,i,_=>rfl
 |k+1,i,h=>by
  have:=kI (fr:=fr) k
  show(if i<(af fr k).m then(af fr k).us i else _)=_
  rw[if_pos (by omega)];exact DG h
theorem E5 {n k i:Nat}(hi:i<n):(jJ n k).getD i 0=if k=i then 1 else 0:=by
 unfold jJ
 simp only[List.getD_eq_getElem?_getD,List.getElem?_set,List.length_replicate]
 by_cases e:k=i
 ·subst e;simp[hi]
 ·rw[if_neg e,if_neg e];simp[hi]
theorem BD {k:Nat}(g:It→Int)(h:It×It→Int)(Xz:∀j (hj:j<(pF fr k).length),g ⟨(pF fr k)[j].1.w+(pF fr k)[j].2.w,(j:Int),(af fr k).m+j⟩=h (pF fr k)[j]):∀m,m≤(pF fr k).length→cZ g ((pJ fr k).take m)=(((pF fr k).take m).map h).sum
 |0,_=>by simp[cZ]
 |m+1,hm=>by
  have ih:=BD g h Xz m (by omega)
  rw[List.take_succ_eq_append_getElem (by rw[fB];omega),List.take_succ_eq_append_getElem (show m<(pF fr k).length by omega),jf,ih,List.map_append,List.sum_append,ot]
  simp only[cZ,List.map_cons,List.map_nil,List.sum_cons,List.sum_nil]
  rw[Xz m (by omega)]
theorem JO (hb:fr.any iU=false)(hl:fr.length≤320){k:Nat}(hk:k≤15){i:Nat}(hi:i<nF fr)(j:Nat)(hj:j<(pF fr k).length):
 vF fr (k+1) ⟨(pF fr k)[j].1.w+(pF fr k)[j].2.w,(j:Int),(af fr k).m+j⟩ i=vF fr k (pF fr k)[j].1 i+vF fr k (pF fr k)[j].2 i:=by
 have ok:=lZ hb hl k hk
 obtain⟨⟨y,y1,_,y2⟩,⟨z,z1,_,z2⟩⟩:=q7 (L:=(af fr k).all) (List.getElem_mem hj)
 have l1:=ok.ul (pF fr k)[j].1.u (by rw[←y2];exact(ok.items y y1).1)
 have l2:=ok.ul (pF fr k)[j].2.u (by rw[←z2];exact(ok.items z z1).1)
 have hd:(pF fr k).getD j default=(pF fr k)[j]:=by simp[List.getD_eq_getElem?_getD,hj]
 unfold vF
 have e:(af fr (k+1)).us ((af fr k).m+j)=List.zipWith (·+·) ((af fr k).us (pF fr k)[j].1.u) ((af fr k).us (pF fr k)[j].2.u):=by
  show(if(af fr k).m+j<(af fr k).m then _ else yM (af fr k).us (pF fr k) ((af fr k).m+j-(af fr k).m))=_
  rw[if_neg (by omega),Nat.add_sub_cancel_left]
  unfold yM
  rw[hd]
 show((af fr (k+1)).us ((af fr k).m+j)).getD i 0=_
 rw[e]
 simp only[List.getD_eq_getElem?_getD,List.getElem?_zipWith,List.getElem?_eq_getElem (show i<((af fr k).us (pF fr k)[j].1.u).length by rw[l1];exact hi),List.getElem?_eq_getElem (show i<((af fr k).us (pF fr k)[j].2.u).length by rw[l2];exact hi),Option.getD_some]
theorem Hm (hb:fr.any iU=false)(hl:fr.length≤320){k t:Nat}(hk:k≤15)(ht:t≤(kr fr (k+1)).length):
 ∃m,2*m≤(kr fr k).length∧(t:Int)=m+bT (nF fr) (aT fr (k+1) t)∧(∀i,i<nF fr→uT fr (k+1) t i=uT fr k (2*m) i+aT fr (k+1) t i)∧
  wT fr (k+1) t=wT fr k (2*m)+bT (nF fr) (fun i=>fF fr i*aT fr (k+1) t i)∧(∀i,i<nF fr→0≤aT fr (k+1) t i∧aT fr (k+1) t i≤1)∧
  (∀i j,i<nF fr→j<nF fr→fF fr j<fF fr i→aT fr (k+1) t i≤aT fr (k+1) t j)∧(∀i,i<nF fr→aT fr k (2*m) i≤aT fr (k+1) t i):=by
 have ZW:=kI (fr:=fr) k
 have jD:kr fr (k+1)=(kr fr (k+1)).take t++(kr fr (k+1)).drop t:=(List.take_append_drop _ _).symm
 have hT:((kr fr (k+1)).take t).length=t:=by rw[List.length_take];omega
 generalize Uy:(kr fr (k+1)).take t=T at jD hT
 generalize hDe:(kr fr (k+1)).drop t=D at jD
 generalize hm:(T.filter (A2 (pF fr k).length)).length=m
 generalize Uz:T.filter (fun x=>!A2 (pF fr k).length x)=TL
 have V6:T.filter (A2 (pF fr k).length)=(pJ fr k).take m:=by
  rw[←Fl,jD,List.filter_append,←hm,List.take_left]
 have Io:m≤(pF fr k).length:=by
  have:=congrArg List.length V6
  rw[hm,List.length_take,fB]at this
  omega
 have bO:(pF fr k).length=(kr fr k).length/2:=oo _
 have LD:∀g:It→Int,cZ g T=cZ g ((pJ fr k).take m)+cZ g TL:=by
  intro g
  rw[←Fg (List.filter_append_perm (A2 (pF fr k).length) T),jf,V6,Uz]
 have PY:∀x∈TL,∃i,i<nF fr∧x=En fr k i:=by
  intro x hx
  have h1:x∈(kr fr (k+1)).filter fun x=>!A2 (pF fr k).length x:=by
   rw[jD,List.filter_append,Uz];exact List.mem_append_left _ hx
  exact ov.1 ((sD k).subset h1)
 have Sx:TL.Pairwise fun a b=>a.u≠b.u:=by
  have h1:((kr fr (k+1)).filter fun x=>!A2 (pF fr k).length x).Pairwise fun a b=>a.u≠b.u:=(zP k).perm (sD k).symm (fun h=>fun e=>h e.symm)
  rw[jD,List.filter_append,Uz]at h1
  exact(List.pairwise_append.1 h1).1
 have Yw:∀i,i<nF fr→iQ i ((pJ fr k).take m)=0:=by
  intro i hi
  apply pV
  intro x hx
  obtain⟨j,hj,rfl⟩:=mb (List.mem_of_mem_take hx)
  show(af fr k).m+j≠i
  omega
 have Na:∀i,i<nF fr→aT fr (k+1) t i=iQ i TL:=by
  intro i hi
  have:=LD (fun x=>if x.u=i then 1 else 0)
  unfold aT
  rw[Uy]
  have h0:=Yw i hi
  unfold iQ at h0⊢
  rw[this,h0];omega
 have Sw:∀x∈TL,x.u<nF fr:=by
  intro x hx
  obtain⟨i,hi,rfl⟩:=PY x hx
  exact hi
 have A8:∀i,i<nF fr→∀y∈T,fF fr i<y.w→1≤aT fr (k+1) t i:=by
  intro i hi y hy hw
  have h1:=H0 (fr:=fr) (k:=k) hi
  rw[jD]at h1
  rcases List.mem_append.1 h1 with h1|h1
  ·have:aT fr (k+1) t i=iQ i T:=by unfold aT;rw[Uy]
   rw[this]
   exact AB ⟨_,h1,rfl⟩
  ·exfalso
   have h2:=oa (fr:=fr) (k+1)
   rw[jD]at h2
   have h3:=(List.pairwise_append.1 h2).2.2 y hy _ h1
   unfold rO at h3
   have h4:(En fr k i).w=fF fr i:=rfl
   omega
 refine⟨m,by omega,?_,?_,?_,?_,?_,?_⟩
 ·have h1:=LD (fun _=>1)
  have iJ:∀l:List It,cZ (fun _=>1) l=l.length:=by
   intro l
   induction l with
   |nil=>rfl
   |cons x l ih=>simp only[cZ,ih,List.length_cons];omega
  rw[iJ,iJ,hT,List.length_take,fB,Nat.min_eq_left Io]at h1
  have h2:=sA (n:=nF fr) (fun _=>1) Sw
  rw[h1,h2,bc (h:=aT fr (k+1) t) fun i hi=>by rw[Na i hi];omega]
 ·intro i hi
  have h1:=LD (fun x=>vF fr (k+1) x i)
  have h2:=BD (k:=k) (fun x=>vF fr (k+1) x i) (fun q=>vF fr k q.1 i+vF fr k q.2 i) (JO hb hl hk hi) m Io
  have h3:=om (fun x=>vF fr k x i) (kr fr k) m Io
  have h4:cZ (fun x=>vF fr (k+1) x i) TL=iQ i TL:=by
   refine kz fun x hx=>?_
   obtain⟨j,hj,rfl⟩:=PY x hx
   show((af fr (k+1)).us j).getD i 0=if j=i then 1 else 0
   rw[DG hj,E5 hi]
  rw[Na i hi]
  unfold uT
  rw[Uy,h1,h2,h4]
  rw[←h3];rfl
 ·have h1:=LD (fun x=>x.w)
  have h2:=BD (k:=k) (fun x=>x.w) (fun q=>q.1.w+q.2.w) (fun _ _=>rfl) m Io
  have h3:=om (fun x=>x.w) (kr fr k) m Io
  have h4:cZ (fun x=>x.w) TL=bT (nF fr) (fun i=>fF fr i*iQ i TL):=by
   rw[←sA (fF fr) Sw]
   refine kz fun x hx=>?_
   obtain⟨j,hj,rfl⟩:=PY x hx
   rfl
  unfold wT
  rw[Uy,h1,h2,h4,←h3]
  rw[bc (g:=fun i=>fF fr i*aT fr (k+1) t i) (h:=fun i=>fF fr i*iQ i TL) fun i hi=>by rw[Na i hi]]
  rfl
 ·intro i hi
  rw[Na i hi]
  exact⟨sf i TL,sg Sx⟩
 ·intro i j hi hj hw
  by_cases h:∃x∈TL,x.u=i
  ·obtain⟨x,hx,e⟩:=h
   have W9:x∈T:=by rw[←Uz]at hx;exact(List.mem_filter.1 hx).1
   have z9:x∈kr fr (k+1):=by rw[jD];exact List.mem_append_left _ W9
   have Ui:=HZ z9 hi e
   have h1:=A8 j hj x W9 (by omega)
   rw[Na i hi]
   have:=sg (i:=i) Sx
   omega
  ·rw[Na i hi,pV (fun x hx e=>h ⟨x,hx,e⟩),Na j hj]
   exact sf j TL
 ·intro i hi
  have h0:0≤aT fr (k+1) t i:=by rw[Na i hi];exact sf i TL
  by_cases h:∃x∈(kr fr k).take (2*m),x.u=i
  ·obtain⟨y,hy,e⟩:=h
   have ZM:=HZ (List.mem_of_mem_take hy) hi e
   obtain⟨q,hq,W6⟩:=v7 (kr fr k) m Io hy
   obtain⟨j,hj,rfl⟩:=List.getElem_of_mem hq
   rw[List.length_take]at hj
   have Ad:j<(pF fr k).length:=by have:j<min m (pF fr k).length:=hj;omega
   have Xv:j<m:=by omega
   have Ib:(pJ fr k).take m=(pJ fr k).take m:=rfl
   have O7:(pJ fr k)[j]'(by rw[fB];exact Ad)∈T:=by
    have:(pJ fr k)[j]'(by rw[fB];exact Ad)∈(pJ fr k).take m:=by
     rw[List.mem_take_iff_getElem]
     exact⟨j,by rw[fB];omega,rfl⟩
    rw[←V6]at this
    exact(List.mem_filter.1 this).1
   have hg:((bX (kr fr k)).take m)[j]=(pF fr k)[j]:=by rw[List.getElem_take];rfl
   rw[hg]at W6
   obtain⟨a,b⟩:=iB (a:=(pF fr k)[j].1) (b:=(pF fr k)[j].2) (l:=kr fr k) (List.getElem_mem Ad)
   have pa:=rY a
   have pb:=rY b
   have h1:=A8 i hi _ O7 (by
    rw[ot]
    show fF fr i<_+_
    rcases W6 with rfl|rfl<;>omega)
   have h2:aT fr k (2*m) i≤1:=by
    cases k with
    |zero=>simp[aT,pj,iQ,cZ]
    |succ k=>
     unfold aT
     apply sg
     have h3:(kr fr (k+1)).Pairwise fun a b=>a.u≠b.u:=by
      refine List.Pairwise.perm ?_ (jR k).symm (fun h=>fun e=>h e.symm)
      rw[List.pairwise_append]
      refine⟨?_,zP k,?_⟩
      ·rw[List.pairwise_iff_getElem]
       intro i j hi hj rr
       rw[ot hi,ot hj]
       show(af fr k).m+i≠(af fr k).m+j
       omega
      ·intro a ha b hb
       obtain⟨j,hj,rfl⟩:=mb ha
       obtain⟨i,hi,rfl⟩:=ov.1 hb
       have:=kI (fr:=fr) k
       show(af fr k).m+j≠i
       omega
     exact h3.sublist (List.take_sublist _ _)
   omega
  ·have:aT fr k (2*m) i=0:=pV fun x hx e=>h ⟨x,hx,e⟩
   omega
end
end Go.Proofs.Ytibadaomjlkoaaa
open Go.RowKit
namespace Go.Proofs.Ytibadaomjlkoaaa
def wid (k u:Nat):Int:=2^(k+1)-2^(k+1-u)
theorem sn (k:Nat):wid k 0=0:=by simp[wid]
theorem GS (k u:Nat)(h:u≤k):wid (k+1) (u+1)=2^(k+1)+wid k u:=by
 unfold wid
 rw[show k+1+1-(u+1)=k+1-u by omega,Int.pow_succ (2:Int) (k+1)]
 omega
theorem zC (n:Nat):(0:Int)<2^n:=by exact_mod_cast Nat.two_pow_pos n
theorem kP {a b:Nat}(h:a≤b):(2:Int)^a≤2^b:=by exact_mod_cast Nat.pow_le_pow_right (by omega) h
theorem G5 {n i j:Nat}{g:Nat→Int}(h:∀x,x<n→0≤g x)(hi:i<n)(hj:j<n)(rr:i≠j):g i+g j≤bT n g:=by
 rw[←xp g hi,←xp g hj,←lT]
 refine DL fun x hx=>?_
 have:=h x hx
 by_cases e:x=i
 ·rw[if_pos e,if_neg (by omega)];omega
 ·rw[if_neg e];split<;>omega
section
variable{fr:List Int}
structure T5 (fr:List Int)(k t:Nat):Prop where
 ub:∀i,i<nF fr→0≤uT fr k t i∧uT fr k t i≤k
 mono:∀i j,i<nF fr→j<nF fr→fF fr j<fF fr i→uT fr k t i≤uT fr k t j
 none:∀i,i<nF fr→aT fr k t i≤0→uT fr k t i=0
 cost:wT fr k t=bT (nF fr) (fun i=>fF fr i*uT fr k t i)
 width:bT (nF fr) (fun i=>wid k (uT fr k t i).toNat)=(t:Int)*2^k
theorem MD (hb:fr.any iU=false)(hl:fr.length≤320):∀k t,k≤15→t≤(kr fr k).length→T5 fr k t
 |0,t,_,ht=>by
  rw[pj]at ht
  obtain rfl:t=0:=by simpa using ht
  have hu:∀i,uT fr 0 0 i=0:=fun i=>rfl
  refine⟨fun i _=>by rw[hu];simp,fun i j _ _ _=>by rw[hu,hu];exact Int.le_refl _,fun i _ _=>hu i,?_,?_⟩
  ·rw[bc (h:=fun _=>0) fun i _=>by rw[hu];simp,mR];rfl
  ·rw[bc (h:=fun _=>0) fun i _=>by rw[hu];exact sn 0,mR];simp
 |k+1,t,hk,ht=>by
  obtain⟨m,h1,h2,h3,h4,h5,h6,h7⟩:=Hm hb hl (show k≤15 by omega) ht
  have ih:=MD hb hl k (2*m) (by omega) h1
  refine⟨?_,?_,?_,?_,?_⟩
  ·intro i hi
   have a:=ih.ub i hi
   have b:=h5 i hi
   rw[h3 i hi];omega
  ·intro i j hi hj hw
   have a:=ih.mono i j hi hj hw
   have b:=h6 i j hi hj hw
   rw[h3 i hi,h3 j hj];omega
  ·intro i hi ha
   have a:=h7 i hi
   have b:=h5 i hi
   have c:=ih.none i hi (by omega)
   rw[h3 i hi,c];omega
  ·rw[h4,ih.cost,←lT]
   exact bc fun i hi=>by rw[h3 i hi,Int.mul_add]
  ·have e:∀i,i<nF fr→wid (k+1) (uT fr (k+1) t i).toNat=wid k (uT fr k (2*m) i).toNat+2^(k+1)*aT fr (k+1) t i:=by
    intro i hi
    have a:=ih.ub i hi
    have b:=h5 i hi
    rcases(show aT fr (k+1) t i=0∨aT fr (k+1) t i=1 by omega)with c|c
    ·have d:=ih.none i hi (by have:=h7 i hi;omega)
     rw[h3 i hi,c,d]
     show wid (k+1) 0=wid k 0+_
     rw[sn,sn];simp
    ·rw[h3 i hi,c,show(uT fr k (2*m) i+1).toNat=(uT fr k (2*m) i).toNat+1 by omega,GS k _ (by omega)];omega
   rw[bc e,lT,pf,ih.width,h2,Int.pow_succ]
   push_cast
   rw[Int.add_mul,Int.mul_comm 2 (m:Int),Int.mul_assoc,Int.mul_comm (2^k*2) (bT _ _),Int.mul_comm 2 (2^k)]
def iG (fr:List Int)(K i:Nat):Int:=uT fr K (2*nF fr-2) i
theorem DN (k:Nat):(kr fr k).length=(af fr k).all.length:=Fm _
theorem OW (hb:fr.any iU=false)(hl:fr.length≤320){K:Nat}(h1:1≤K)(qL:K≤15)(hn:2≤nF fr)(hK:nF fr≤2^K):
 (∀i,i<nF fr→1≤iG fr K i∧iG fr K i≤K)∧(∀i j,i<nF fr→j<nF fr→fF fr j<fF fr i→iG fr K i≤iG fr K j)∧
  bT (nF fr) (fun i=>2^(15-(iG fr K i).toNat))=32768∧wT fr K (2*nF fr-2)=bT (nF fr) (fun i=>fF fr i*iG fr K i):=by
 have ok:=MD hb hl K (2*nF fr-2) qL (by rw[DN];exact kJ fr h1 hK)
 have hw:=ok.width
 have e1:bT (nF fr) (fun i=>2^(K+1-(iG fr K i).toNat))=2^(K+1):=by
  have a:bT (nF fr) (fun i=>wid K (iG fr K i).toNat+2^(K+1-(iG fr K i).toNat))=nF fr*2^(K+1):=by
   rw[bc (h:=fun _=>2^(K+1)*1) fun i _=>by unfold wid;omega,pf,zb,Int.mul_comm]
  rw[lT]at a
  have b:bT (nF fr) (fun i=>wid K (iG fr K i).toNat)=((2*nF fr-2:Nat):Int)*2^K:=hw
  rw[b,Int.pow_succ]at a
  rw[Int.pow_succ]
  have c:((2*nF fr-2:Nat):Int)=2*(nF fr:Int)-2:=by omega
  rw[c,Int.sub_mul,Int.mul_comm (2^K) 2,←Int.mul_assoc,Int.mul_comm (nF fr:Int) 2]at a
  omega
 have cE:∀i,i<nF fr→1≤iG fr K i:=by
  intro i hi
  have a:=(ok.ub i hi).1
  rcases Int.lt_or_le 0 (iG fr K i)with h|h
  ·omega
  ·exfalso
   have h0:iG fr K i=0:=Int.le_antisymm h a
   obtain⟨j,hj,rr⟩:∃j,j<nF fr∧i≠j:=by
    by_cases e:i=0
    ·exact⟨1,by omega,by omega⟩
    ·exact⟨0,by omega,e⟩
   have:=G5 (g:=fun i=>(2:Int)^(K+1-(iG fr K i).toNat)) (fun x _=>Int.le_of_lt (zC _)) hi hj rr
   rw[e1]at this
   simp only[h0]at this
   have p:=zC (K+1-(iG fr K j).toNat)
   simp only[Int.toNat_zero,Nat.sub_zero]at this
   omega
 refine⟨fun i hi=>⟨cE i hi,(ok.ub i hi).2⟩,ok.mono,?_,ok.cost⟩
 have e2:bT (nF fr) (fun i=>2*2^(15-(iG fr K i).toNat))=bT (nF fr) (fun i=>2^(15-K)*2^(K+1-(iG fr K i).toNat)):=by
  refine bc fun i hi=>?_
  have a:=cE i hi
  have b:=(ok.ub i hi).2
  have b':iG fr K i≤K:=b
  rw[←Int.pow_add,show 15-K+(K+1-(iG fr K i).toNat)=(15-(iG fr K i).toNat)+1 by omega,Int.pow_succ,Int.mul_comm]
 rw[pf,pf,e1,←Int.pow_add,show 15-K+(K+1)=16 by omega]at e2
 have:(2:Int)^16=65536:=by decide
 omega
end
end Go.Proofs.Ytibadaomjlkoaaa
open Go.RowKit
namespace Go.Proofs.Ytibadaomjlkoaaa
theorem iM (l:List Int)(i j:Nat)(v:Int):(l.set i v).getD j 0=if i=j∧i<l.length then v else l.getD j 0:=by
 simp only[List.getD_eq_getElem?_getD,List.getElem?_set]
 by_cases e:i=j
 ·subst e
  by_cases h:i<l.length
  ·rw[if_pos rfl,if_pos h,if_pos ⟨rfl,h⟩];rfl
  ·rw[if_pos rfl,if_neg h,if_neg (fun x=>h x.2),List.getElem?_eq_none (by omega)]
 ·rw[if_neg e,if_neg (fun x=>e x.1)]
theorem xf (s:Nat)(used:List Nat)(v:Int)(uv out:List Int):oV (s::used) (v::uv) out=oV used uv (out.set s ((out.getD s 0+v%256)%256)):=rfl
theorem oU {s:Nat}:∀{used:List Nat}{uv out:List Int},s∉used→(oV used uv out).getD s 0=out.getD s 0
 |[],_,_,_=>rfl
 |_::_,[],_,_=>by simp[oV]
 |x::used,v::uv,out,h=>by
  rw[xf,oU (fun h'=>h (List.mem_cons_of_mem _ h')),iM,if_neg (fun h'=>h (by rw[h'.1];exact List.mem_cons_self ..))]
theorem AW:∀{used:List Nat}{uv out:List Int}{i:Nat},used.Nodup→(∀s∈used,s<out.length)→used.length=uv.length→i<used.length→
 (oV used uv out).getD (used.getD i 0) 0=(out.getD (used.getD i 0) 0+uv.getD i 0%256)%256
 |[],_,_,i,_,_,_,hi=>by simp at hi
 |_::_,[],_,_,_,_,hl,_=>by simp at hl
 |x::used,v::uv,out,i,hn,hs,hl,hi=>by
  obtain⟨n1,n2⟩:=List.nodup_cons.1 hn
  rw[xf]
  cases i with
  |zero=>
   show(oV used uv _).getD x 0=(out.getD x 0+v%256)%256
   rw[oU n1,iM,if_pos ⟨rfl,hs x (List.mem_cons_self ..)⟩]
  |succ i=>
   have jZ:i<used.length:=by simpa using hi
   show(oV used uv _).getD (used.getD i 0) 0=(out.getD (used.getD i 0) 0+uv.getD i 0%256)%256
   rw[AW n2 (fun s h=>by rw[List.length_set];exact hs s (List.mem_cons_of_mem _ h)) (by simpa using hl) jZ,iM,if_neg (fun h=>n1 (by rw[h.1];exact gZ jZ))]
section
variable{fr:List Int}
theorem y5 (fr:List Int):(aC fr).Nodup:=by
 unfold aC;exact List.Pairwise.filter _ List.nodup_range
theorem zJ (hb:fr.any iU=false)(hl:fr.length≤320){K:Nat}(hK:K≤15){i:Nat}(hi:i<nF fr):∀t,t≤(kr fr K).length→(rM fr (af fr K) ((kr fr K).take t)).getD ((aC fr).getD i 0) 0=uT fr K t i%256
 |0,_=>by
  have hm:=fy (gZ (d:=0) hi)
  simp[rM,uT,cZ,List.getD_eq_getElem?_getD,List.getElem?_replicate]
  split<;>rfl
 |t+1,ht=>by
  have ih:=zJ hb hl hK hi t (by omega)
  have hx:(kr fr K)[t]'(by omega)∈kr fr K:=List.getElem_mem _
  obtain⟨y,hy,_,X8⟩:=gz (L:=(af fr K).all) hx
  have ok:=lZ hb hl K hK
  have Eu:=ok.ul _ (ok.items y hy).1
  rw[X8]at Eu
  have hlen:=s9 fr (af fr K) ((kr fr K).take t)
  rw[List.take_succ_eq_append_getElem (by omega),qn,AW (y5 fr) (fun s hs=>by rw[hlen];exact(fy hs).1) Eu.symm hi,ih]
  unfold uT
  rw[List.take_succ_eq_append_getElem (by omega),jf]
  simp only[cZ]
  unfold vF
  omega
theorem Bz {r:Row}{s:Nat}(hs:s∉aC fr):∀t:List It,(rM fr r t).getD s 0=0:=by
 intro t
 obtain⟨n,hn⟩:∃n,t.length=n:=⟨_,rfl⟩
 induction n generalizing t with
 |zero=>
  obtain rfl:=List.eq_nil_of_length_eq_zero hn
  simp[rM,List.getD_eq_getElem?_getD,List.getElem?_replicate]
  split<;>rfl
 |succ n ih=>
  rcases List.eq_nil_or_concat t with rfl|⟨t,x,rfl⟩
  ·simp at hn
  ·simp only[List.concat_eq_append]at hn⊢
   rw[qn,oU hs]
   exact ih t (by rw[List.length_append]at hn;simpa using hn)
theorem yZ {s:Nat}:s∈aC fr↔s<fr.length∧0<fr.getD s 0:=by
 unfold aC
 simp only[List.mem_filter,List.mem_range,decide_eq_true_eq]
theorem JQ {s:Nat}(h:s∈aC fr):∃i,i<nF fr∧(aC fr).getD i 0=s:=by
 obtain⟨i,hi,e⟩:=List.getElem_of_mem h
 exact⟨i,hi,by rw[List.getD_eq_getElem?_getD,List.getElem?_eq_getElem hi];exact e⟩
theorem qV (p:Nat→Bool)(g:Nat→Int):∀N,bT N (fun s=>if p s=true then g s else 0)=bT ((List.range N).filter p).length (fun i=>g (((List.range N).filter p).getD i 0))
 |0=>rfl
 |N+1=>by
  simp only[bT]
  rw[qV p g N,List.range_succ,List.filter_append]
  by_cases h:p N=true
  ·rw[if_pos h,List.filter_cons_of_pos h,List.filter_nil,List.length_append]
   show _=bT (((List.range N).filter p).length+1) _
   simp only[bT]
   rw[show(((List.range N).filter p)++[N]).getD ((List.range N).filter p).length 0=N by simp[List.getD_eq_getElem?_getD]]
   congr 1
   exact bc fun i hi=>by simp[List.getD_eq_getElem?_getD,List.getElem?_append_left hi]
  ·rw[if_neg h,List.filter_cons_of_neg h,List.filter_nil,List.append_nil];omega
theorem mS (g:Nat→Int):bT fr.length (fun s=>if 0<fr.getD s 0 then g s else 0)=bT (nF fr) (fun i=>g ((aC fr).getD i 0)):=by
 have:=qV (fun i=>decide (0<fr.getD i 0)) g fr.length
 simp only[decide_eq_true_eq]at this
 exact this
structure gG (fr:List Int)(K:Nat)(l:List Int):Prop where
 len:l.length=fr.length
 pos:∀s,s<fr.length→0<fr.getD s 0→1≤l.getD s 0∧l.getD s 0≤K
 zero:∀s,s<fr.length→¬0<fr.getD s 0→l.getD s 0=0
 one:nF fr=1→∀s,l.getD s 0≤1
 mono:∀i k,i<fr.length→k<fr.length→fr.getD k 0<fr.getD i 0→0<fr.getD k 0→l.getD i 0≤l.getD k 0
 Rt:2≤nF fr→bT fr.length (fun s=>if 0<fr.getD s 0 then 2^(15-(l.getD s 0).toNat)else 0)=32768
 cost:2≤nF fr→bT fr.length (fun s=>if 0<fr.getD s 0 then fr.getD s 0*l.getD s 0 else 0)=wT fr K (2*nF fr-2)
theorem sU (n s:Nat):(List.replicate n (0:Int)).getD s 0=0:=by
 simp[List.getD_eq_getElem?_getD,List.getElem?_replicate]
 split<;>rfl
theorem Ls (hb:fr.any iU=false)(hl:fr.length≤320){K:Nat}(h1:1≤K)(qL:K≤15)(hK:nF fr≤2^K):gG fr K (bq fr K):=by
 have RH:∀s,s<fr.length→0<fr.getD s 0→∃i,i<nF fr∧(aC fr).getD i 0=s:=fun s a b=>JQ (yZ.2 ⟨a,b⟩)
 rcases(show nF fr=0∨nF fr=1∨2≤nF fr by omega)with hn|hn|hn
 ·have rp:∀s,s<fr.length→¬0<fr.getD s 0:=by
   intro s a b
   obtain⟨i,hi,_⟩:=RH s a b
   omega
  rw[wA K hn]
  exact⟨by simp,fun s a b=>absurd b (rp s a),fun s _ _=>sU _ _,fun h=>by omega,fun i k hi hk _ h=>absurd h (rp k hk),fun h=>by omega,fun h=>by omega⟩
 ·rw[zX K hn]
  have A8:∀s,s<fr.length→0<fr.getD s 0→(aC fr).getD 0 0=s:=by
   intro s a b
   obtain⟨i,hi,e⟩:=RH s a b
   obtain rfl:i=0:=by omega
   exact e
  have hm:=fy (gZ (l:=aC fr) (j:=0) (d:=0) (by have:(aC fr).length=1:=hn;omega))
  refine⟨by simp,?_,?_,?_,?_,fun h=>by omega,fun h=>by omega⟩
  ·intro s a b
   rw[iM,if_pos ⟨A8 s a b,by rw[List.length_replicate];exact hm.1⟩];omega
  ·intro s a b
   rw[iM,if_neg (fun e=>b (by rw[←e.1];exact hm.2)),sU]
  ·intro _ s
   rw[iM,sU];split<;>omega
  ·intro i k hi hk h1 h2
   have e1:=A8 i hi (by omega)
   have e2:=A8 k hk h2
   rw[←e1,←e2];exact Int.le_refl _
 ·obtain⟨a1,a2,a3,a4⟩:=OW hb hl h1 qL hn hK
  have hlen:(bq fr K).length=fr.length:=tz fr K
  have ht:2*nF fr-2≤(kr fr K).length:=by rw[DN];exact kJ fr h1 hK
  have cg:∀i,i<nF fr→(bq fr K).getD ((aC fr).getD i 0) 0=iG fr K i:=by
   intro i hi
   rw[tw K hn]
   have:=zJ hb hl qL hi (2*nF fr-2) ht
   have b:=a1 i hi
   refine Eq.trans this ?_
   show iG fr K i%256=iG fr K i
   omega
  refine⟨hlen,?_,?_,fun h=>by omega,?_,fun _=>?_,fun _=>?_⟩
  ·intro s a b
   obtain⟨i,hi,rfl⟩:=RH s a b
   rw[cg i hi];exact a1 i hi
  ·intro s a b
   rw[tw K hn]
   exact Bz (fun h=>b (yZ.1 h).2) _
  ·intro i k hi hk hw hp
   obtain⟨i',jZ,rfl⟩:=RH i hi (by omega)
   obtain⟨k',ml,rfl⟩:=RH k hk hp
   rw[cg i' jZ,cg k' ml]
   exact a2 i' k' jZ ml hw
  ·rw[mS (fun s=>2^(15-((bq fr K).getD s 0).toNat)),←a3]
   exact bc fun i hi=>by rw[cg i hi]
  ·rw[mS (fun s=>fr.getD s 0*(bq fr K).getD s 0),a4]
   exact bc fun i hi=>by rw[cg i hi];rfl
end
end Go.Proofs.Ytibadaomjlkoaaa
open Go.RowKit
namespace Go.Proofs.Ytibadaomjlkoaaa
end Go.Proofs.Ytibadaomjlkoaaa
open Go.RowKit
namespace Go.Proofs.Ytibadaomjlkoaaa
set_option maxRecDepth 10000
section
variable{M:AH}{K Kp:AV→AH→Prop}
theorem GX {ir ib im it g c a:Nat}{xs:List Int}{es:List ((Int×Int)×Int)}(h1:M[ir]?=some (ro ib g c xs a))(h2:M[ib]?=some (rb g c xs))(h3:M[im]?=some (.one true 0 (.map (.pair .i64 .i64) (kV es))))(h4:M[it]?=some (.one true 0 (.cells [.mp im 0])))
 (oX:(bB [.own ir,.own ib,.own im,.own it]&&AV.oW [.own ir,.own ib,.own im,.own it] [.ptr 3 0 0,.ptr 0 0 0])=true)
 (hb:xs.length≤1000000)(ha:a≤8*xs.length)(z9:∀x∈xs,0≤x∧x<256)(lL:∀k z,bS k es=some z→k.2≤15)
 (h:K (.aL [.int .i64 (ew es (unpack xs) a).1,.int .i64 (ew es (unpack xs) a).2.2]) ((((M.set ir (ro ib g c xs (ew es (unpack xs) a).2.1)).set ib (rb g c xs)).set im (.one true 0 (.map (.pair .i64 .i64) (kV es)))).set it (.one true 0 (.cells [.mp im 0])))):
 aa Try.prog 101 [.ptr it 0 0,.ptr ir 0 0] M K Kp:=by
 refine aa.lift [.own ir,.own ib,.own im,.own it] (Bc (xs:=xs) (g:=g) (c:=c) (es:=es) (a:=a) (K:=fun r M=>r=.aL [.int .i64 (ew es (unpack xs) a).1,.int .i64 (ew es (unpack xs) a).2.2]∧M=E8 g c xs (ew es (unpack xs) a).2.1 es) (Kp:=fun _ _=>False) hb ha z9 lL ⟨rfl,rfl⟩) rfl oX
  ⟨⟨h1,rfl⟩,⟨h2,rfl⟩,⟨by rw[h3];show some _=some (AO.one true 0 ((ae.map (.pair .i64 .i64) (kV es)).rn _ _));rw[jr],rfl⟩,⟨h4,rfl⟩,trivial⟩ ⟨rfl,trivial,wk _ (.pair .i64 .i64) es,rfl,trivial⟩ ?_ (fun _ _ h=>h.elim)
 rintro r M' ⟨rfl,rfl⟩
 refine⟨⟨rfl,rfl,rfl,rfl,rfl⟩,?_⟩
 rw[←jr [.own ir,.own ib,.own im,.own it] M.length (.pair .i64 .i64) es,←List.append_nil ((((M.set ir _).set ib _).set im _).set it _)]at h
 exact h
end
end Go.Proofs.Ytibadaomjlkoaaa
