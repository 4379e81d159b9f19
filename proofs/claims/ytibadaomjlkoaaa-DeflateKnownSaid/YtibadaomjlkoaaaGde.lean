import Derived.Test.YtibadaomjlkoaaaGdd
import Derived.Test.YtibadaomjlkoaaaGdc
import Derived.Test.YtibadaomjlkoaaaGb
set_option linter.unusedVariables false
set_option linter.unusedSimpArgs false
open Go.RowKit
namespace Go.Proofs.Ytibadaomjlkoaaa
def cY (g:It→Int):List It→Int
 |[]=>0
 |x::l=>g x+cY g l
theorem jc (g:It→Int):∀l l':List It,cY g (l++l')=cY g l+cY g l'
 |[],l'=>by simp[cY]
 |x::l,l'=>by simp only[List.cons_append,cY,jc g l l'];omega
theorem Fc {g:It→Int}{l l':List It}(h:l.Perm l'):cY g l=cY g l':=by
 induction h with
 |nil=>rfl
 |cons x _ ih=>simp only[cY,ih]
 |swap x y l=>simp only[cY];omega
 |trans _ _ a b=>rw[a,b]
theorem ku {g h:It→Int}:∀{l:List It},(∀x∈l,g x=h x)→cY g l=cY h l
 |[],_=>rfl
 |x::l,e=>by simp only[cY];rw[e x (List.mem_cons_self ..),ku fun y hy=>e y (List.mem_cons_of_mem _ hy)]
theorem DK {g:It→Int}:∀{l:List It},(∀x∈l,0≤g x)→0≤cY g l
 |[],_=>Int.le_refl _
 |x::l,e=>by
  have:=e x (List.mem_cons_self ..)
  have:=DK (g:=g) (l:=l) fun y hy=>e y (List.mem_cons_of_mem _ hy)
  simp only[cY];omega
theorem Fb {g:It→Int}{l:List It}(h:∀x∈l,g x=0):cY g l=0:=by
 rw[ku (h:=fun _=>0) h]
 clear h
 induction l with
 |nil=>rfl
 |cons x l ih=>simp only[cY,ih];rfl
def bT:Nat→(Nat→Int)→Int
 |0,_=>0
 |n+1,g=>bT n g+g n
theorem bc {g h:Nat→Int}:∀{n:Nat},(∀i,i<n→g i=h i)→bT n g=bT n h
 |0,_=>rfl
 |n+1,e=>by simp only[bT];rw[e n (Nat.lt_succ_self n),bc fun i hi=>e i (by omega)]
theorem lO (n:Nat)(g h:Nat→Int):bT n (fun i=>g i+h i)=bT n g+bT n h:=by
 induction n with
 |zero=>rfl
 |succ n ih=>simp only[bT,ih];omega
theorem o9 (n:Nat)(c:Int)(g:Nat→Int):bT n (fun i=>c*g i)=c*bT n g:=by
 induction n with
 |zero=>simp[bT]
 |succ n ih=>simp only[bT,ih,Int.mul_add]
theorem DJ {g h:Nat→Int}:∀{n:Nat},(∀i,i<n→g i≤h i)→bT n g≤bT n h
 |0,_=>Int.le_refl _
 |n+1,e=>by
  have:=e n (Nat.lt_succ_self n)
  have:=DJ (n:=n) fun i hi=>e i (by omega)
  simp only[bT];omega
theorem mN (n:Nat):bT n (fun _=>0)=0:=by
 induction n with
 |zero=>rfl
 |succ n ih=>simp only[bT,ih];rfl
theorem zd (n:Nat):bT n (fun _=>1)=n:=by
 induction n with
 |zero=>rfl
 |succ n ih=>simp only[bT,ih];omega
theorem xp {n j:Nat}(g:Nat→Int)(h:j<n):bT n (fun i=>if i=j then g i else 0)=g j:=by
 induction n with
 |zero=>omega
 |succ n ih=>
  simp only[bT]
  by_cases e:j=n
  ·subst e
   rw[if_pos rfl,bc (h:=fun _=>0) fun i hi=>if_neg (by omega),mN];omega
  ·rw[ih (by omega),if_neg (by omega)];omega
def iN (i:Nat)(l:List It):Int:=cY (fun x=>if x.u=i then 1 else 0) l
theorem sf (i:Nat)(l:List It):0≤iN i l:=DK fun x _=>by split<;>omega
theorem Ay {i:Nat}:∀{l:List It},(∃x∈l,x.u=i)→1≤iN i l
 |[],h=>by obtain⟨x,hx,_⟩:=h;cases hx
 |y::l,h=>by
  obtain⟨x,hx,e⟩:=h
  have h0:=sf i l
  unfold iN at h0⊢
  simp only[cY]
  rcases List.mem_cons.1 hx with rfl|hx
  ·rw[if_pos e];omega
  ·have:=Ay (l:=l) ⟨x,hx,e⟩
   unfold iN at this
   split<;>omega
theorem pS {i:Nat}{l:List It}(h:∀x∈l,x.u≠i):iN i l=0:=Fb fun x hx=>if_neg (h x hx)
theorem sg {i:Nat}:∀{l:List It},l.Pairwise (fun a b=>a.u≠b.u)→iN i l≤1
 |[],_=>by show(0:Int)≤1;omega
 |x::l,h=>by
  obtain⟨h1,h2⟩:=List.pairwise_cons.1 h
  unfold iN
  simp only[cY]
  split
  ·rename_i e
   have:=pS (i:=i) (l:=l) fun y hy=>by have:=h1 y hy;omega
   unfold iN at this
   omega
  ·have:=sg (i:=i) h2
   unfold iN at this
   omega
theorem sA {n:Nat}(h:Nat→Int):∀{l:List It},(∀x∈l,x.u<n)→cY (fun x=>h x.u) l=bT n (fun i=>h i*iN i l)
 |[],_=>by
  rw[bc (h:=fun _=>0) fun i _=>by simp[iN,cY],mN];rfl
 |x::l,e=>by
  have hx:=e x (List.mem_cons_self ..)
  have ih:=sA (n:=n) h (l:=l) fun y hy=>e y (List.mem_cons_of_mem _ hy)
  simp only[cY]
  rw[ih,bc (g:=fun i=>h i*iN i (x::l)) (h:=fun i=>(if i=x.u then h i else 0)+h i*iN i l) (fun i _=>by
   show h i*((if x.u=i then 1 else 0)+iN i l)=_
   rw[Int.mul_add]
   by_cases e:i=x.u
   ·rw[if_pos e,if_pos e.symm];omega
   ·rw[if_neg e,if_neg (fun h=>e h.symm)];omega),lO,xp _ hx]
theorem od (g:It→Int):∀(l:List It)(m:Nat),m≤(bX l).length→(((bX l).take m).map fun q=>g q.1+g q.2).sum=cY g (l.take (2*m))
 |_,0,_=>by simp[cY]
 |[],m+1,h=>by simp[bX]at h
 |[_],m+1,h=>by simp[bX]at h
 |a::b::r,m+1,h=>by
  simp only[bX,List.length_cons,Nat.add_le_add_iff_right]at h
  have ih:=od g r m h
  rw[show 2*(m+1)=2*m+1+1 by omega]
  simp only[bX,List.take_succ_cons,List.map_cons,List.sum_cons,cY]
  rw[ih];omega
theorem v9:∀(l:List It)(m:Nat){y:It},m≤(bX l).length→y∈l.take (2*m)→∃q∈(bX l).take m,y=q.1∨y=q.2
 |_,0,_,_,h=>by simp at h
 |[],m+1,_,h,_=>by simp[bX]at h
 |[_],m+1,_,h,_=>by simp[bX]at h
 |a::b::r,m+1,y,h,hy=>by
  simp only[bX,List.length_cons,Nat.add_le_add_iff_right]at h
  rw[show 2*(m+1)=2*m+1+1 by omega]at hy
  simp only[List.take_succ_cons,List.mem_cons]at hy
  simp only[bX,List.take_succ_cons,List.mem_cons]
  rcases hy with rfl|rfl|hy
  ·exact⟨_,.inl rfl,.inl rfl⟩
  ·exact⟨_,.inl rfl,.inr rfl⟩
  ·obtain⟨q,h1,h2⟩:=v9 r m h hy
   exact⟨q,.inr h1,h2⟩
theorem nN:∀{l:List It},l.Pairwise rO→(bX l).Pairwise fun p q=>p.1.w+p.2.w≤q.1.w+q.2.w
 |[],_=>List.Pairwise.nil
 |[_],_=>List.Pairwise.nil
 |a::b::r,h=>by
  obtain⟨h1,h2⟩:=List.pairwise_cons.1 h
  obtain⟨h3,h4⟩:=List.pairwise_cons.1 h2
  refine List.Pairwise.cons (fun q hq=>?_) (nN h4)
  obtain⟨q1,q2⟩:=iz (a:=q.1) (b:=q.2) (l:=r) hq
  have a1:=h1 _ (List.mem_cons_of_mem _ q1)
  have a2:=h3 _ q2
  unfold rO at a1 a2
  show a.w+b.w≤q.1.w+q.2.w
  omega
section
variable(fr:List Int)
abbrev nF:Nat:=(aC fr).length
def fF (i:Nat):Int:=fr.getD ((aC fr).getD i 0) 0
def ko (k:Nat):List It:=DM (af fr k).all
def pF (k:Nat):List (It×It):=av (af fr k).all
def pG (k:Nat):List It:=(pF fr k).mapIdx fun j q=>⟨q.1.w+q.2.w,(j:Int),(af fr k).m+j⟩
def GH (k:Nat):List It:=(List.range (nF fr)).map fun i=>⟨fF fr i,(((pF fr k).length+i:Nat):Int),i⟩
theorem HI (k:Nat):eQ (af fr (k+1)).all.length (af fr (k+1)).all=pG fr k++GH fr k:=by
 apply List.ext_getElem
 ·rw[dN,jO];simp[pG,GH,pF,kM]
 ·intro j h1 h2
  rw[dN]at h1
  have hd:∀(L:List It)(h:j<L.length),L[j]=L.getD j default:=fun L h=>by simp[List.getD_eq_getElem?_getD,h]
  rw[hd _ (by rw[dN];exact h1),jS _ _ _ h1,if_pos h1]
  by_cases hj:j<(pF fr k).length
  ·rw[show(af fr (k+1)).all.getD j default=_ from Eb hj,List.getElem_append_left (by simpa[pG]using hj)]
   simp only[pG,List.getElem_mapIdx,Qm,aY,List.getD_eq_getElem?_getD,List.getElem?_mapIdx]
   rw[List.getElem?_eq_getElem (show j<(av (af fr k).all).length from hj)]
   rfl
  ·have A5:(pG fr k).length≤j:=by simp[pG];omega
   rw[show(af fr (k+1)).all.getD j default=_ from Ec (by show(pF fr k).length≤j;omega),List.getElem_append_right A5]
   have RX:(pG fr k).length=(pF fr k).length:=by simp[pG]
   have QE:j-(pF fr k).length<(aC fr).length:=by
    rw[jO]at h1
    have:(pF fr k).length=(af fr k).all.length/2:=kM _
    omega
   have hg:(cr fr).getD (j-(av (af fr k).all).length) default=⟨fF fr (j-(pF fr k).length),0,j-(pF fr k).length⟩:=m8 QE
   rw[hg]
   simp only[GH,List.getElem_map,List.getElem_range,RX]
   rw[show(pF fr k).length+(j-(pF fr k).length)=j by omega]
end
end Go.Proofs.Ytibadaomjlkoaaa
open Go.RowKit
namespace Go.Proofs.Ytibadaomjlkoaaa
section
variable{fr:List Int}
def A0 (p:Nat)(x:It):Bool:=decide (x.k<(p:Int))
theorem fy (k:Nat):(pG fr k).length=(pF fr k).length:=by simp[pG]
theorem oh {k j:Nat}(h:j<(pG fr k).length):(pG fr k)[j]=⟨((pF fr k)[j]'(by rwa[fy]at h)).1.w+((pF fr k)[j]'(by rwa[fy]at h)).2.w,(j:Int),(af fr k).m+j⟩:=by
 simp only[pG,List.getElem_mapIdx]
theorem l6 {k:Nat}{x:It}(h:x∈pG fr k):∃j,∃hj:j<(pF fr k).length,x=⟨(pF fr k)[j].1.w+(pF fr k)[j].2.w,(j:Int),(af fr k).m+j⟩:=by
 obtain⟨j,hj,rfl⟩:=List.getElem_of_mem h
 exact⟨j,by rwa[fy]at hj,oh hj⟩
theorem oo {k:Nat}{x:It}:x∈GH fr k↔∃i,i<nF fr∧x=⟨fF fr i,(((pF fr k).length+i:Nat):Int),i⟩:=by
 simp only[GH,List.mem_map,List.mem_range]
 constructor
 ·rintro⟨i,h,rfl⟩;exact⟨i,h,rfl⟩
 ·rintro⟨i,h,rfl⟩;exact⟨i,h,rfl⟩
theorem jN (k:Nat):(ko fr (k+1)).Perm (pG fr k++GH fr k):=by
 have:=(sE (af fr (k+1)).all).1
 rw[HI]at this
 exact this
theorem n6 (k:Nat):(ko fr k).Pairwise rO:=(sE _).2
theorem pf:ko fr 0=[]:=rfl
theorem FK (k:Nat):(pG fr k++GH fr k).filter (A0 (pF fr k).length)=pG fr k:=by
 rw[List.filter_append,List.filter_eq_self.2 (fun x hx=>?_),List.filter_eq_nil_iff.2 (fun x hx=>?_),List.append_nil]
 ·obtain⟨i,hi,rfl⟩:=oo.1 hx
  unfold A0;rw[decide_eq_true_eq];show¬(((pF fr k).length+i:Nat):Int)<_;omega
 ·obtain⟨j,hj,rfl⟩:=l6 hx
  unfold A0;rw[decide_eq_true_eq];show(j:Int)<_;omega
theorem FN (k:Nat):(pG fr k++GH fr k).filter (fun x=>!A0 (pF fr k).length x)=GH fr k:=by
 rw[List.filter_append,List.filter_eq_nil_iff.2 (fun x hx=>?_),List.filter_eq_self.2 (fun x hx=>?_),List.nil_append]
 ·obtain⟨i,hi,rfl⟩:=oo.1 hx
  unfold A0;rw[Bool.not_eq_true',decide_eq_false_iff_not];show¬(((pF fr k).length+i:Nat):Int)<_;omega
 ·obtain⟨j,hj,rfl⟩:=l6 hx
  unfold A0;simp only[Bool.not_eq_true',decide_eq_false_iff_not,Decidable.not_not];show(j:Int)<_;omega
theorem FJ (k:Nat):(pG fr k).Pairwise rO:=by
 rw[List.pairwise_iff_getElem]
 intro i j hi hj rq
 rw[oh hi,oh hj]
 have h:=List.pairwise_iff_getElem.1 (nN (n6 (fr:=fr) k)) i j (by rwa[fy]at hi) (by rwa[fy]at hj) rq
 have mg:i<(pF fr k).length:=by rwa[fy]at hi
 have Ad:j<(pF fr k).length:=by rwa[fy]at hj
 have h':(pF fr k)[i].1.w+(pF fr k)[i].2.w≤(pF fr k)[j].1.w+(pF fr k)[j].2.w:=h
 unfold rO
 show _<_∨_=_∧(i:Int)≤(j:Int)
 simp only
 omega
theorem Fi (k:Nat):(ko fr (k+1)).filter (A0 (pF fr k).length)=pG fr k:=by
 have hp:=(jN (fr:=fr) k).filter (A0 (pF fr k).length)
 rw[FK]at hp
 refine List.Perm.eq_of_pairwise (le:=rO) ?_ ((n6 (k+1)).filter _) (FJ k) hp
 intro a b ha hb h1 h2
 obtain⟨i,hi,rfl⟩:=l6 (hp.subset ha)
 obtain⟨j,hj,rfl⟩:=l6 hb
 unfold rO at h1 h2
 simp only at h1 h2
 obtain rfl:i=j:=by omega
 rfl
theorem sD (k:Nat):((ko fr (k+1)).filter fun x=>!A0 (pF fr k).length x).Perm (GH fr k):=by
 have hp:=(jN (fr:=fr) k).filter (fun x=>!A0 (pF fr k).length x)
 rwa[FN]at hp
theorem zR (k:Nat):(GH fr k).Pairwise fun a b=>a.u≠b.u:=by
 rw[List.pairwise_iff_getElem]
 intro i j hi hj rq
 simp only[GH,List.getElem_map,List.getElem_range]
 omega
theorem kF (k:Nat):nF fr≤(af fr k).m:=DU fr k
def El (fr:List Int)(k i:Nat):It:=⟨fF fr i,(((pF fr k).length+i:Nat):Int),i⟩
theorem HZ {k i:Nat}(h:i<nF fr):El fr k i∈ko fr (k+1):=(jN k).symm.subset (List.mem_append_right _ (oo.2 ⟨i,h,rfl⟩))
theorem Lx {k i:Nat}{x:It}(hx:x∈ko fr (k+1))(hi:i<nF fr)(e:x.u=i):x=El fr k i:=by
 rcases List.mem_append.1 ((jN k).subset hx)with h|h
 ·obtain⟨j,hj,rfl⟩:=l6 h
  have:=kF (fr:=fr) k
  simp only at e;omega
 ·obtain⟨j,hj,rfl⟩:=oo.1 h
  simp only at e
  subst e;rfl
theorem HY:∀{k i:Nat}{x:It},x∈ko fr k→i<nF fr→x.u=i→x.w=fF fr i
 |0,_,_,hx,_,_=>by rw[pf]at hx;cases hx
 |k+1,_,_,hx,hi,e=>by rw[Lx hx hi e];rfl
theorem Qb {i:Nat}(h:i<nF fr):0<fF fr i:=by
 unfold fF
 have:=(fw (gX (d:=0) h)).2
 exact this
theorem rY:∀{k:Nat}{x:It},x∈ko fr k→0<x.w
 |0,_,hx=>by rw[pf]at hx;cases hx
 |k+1,x,hx=>by
  rcases List.mem_append.1 ((jN k).subset hx)with h|h
  ·obtain⟨j,hj,rfl⟩:=l6 h
   obtain⟨a,b⟩:=iz (a:=(pF fr k)[j].1) (b:=(pF fr k)[j].2) (l:=ko fr k) (List.getElem_mem hj)
   have:=rY a
   have:=rY b
   show 0<_+_
   omega
  ·obtain⟨i,hi,rfl⟩:=oo.1 h
   exact Qb hi
def vF (fr:List Int)(k:Nat)(x:It)(i:Nat):Int:=((af fr k).us x.u).getD i 0
def uT (fr:List Int)(k t i:Nat):Int:=cY (fun x=>vF fr k x i) ((ko fr k).take t)
def aT (fr:List Int)(k t i:Nat):Int:=iN i ((ko fr k).take t)
def wT (fr:List Int)(k t:Nat):Int:=cY (fun x=>x.w) ((ko fr k).take t)
theorem DE:∀{k i:Nat},i<nF fr→(af fr k).us i=jF (nF fr) i
 |0,i,_=>rfl
 |k+1,i,h=>by
  have:=kF (fr:=fr) k
  show(if i<(af fr k).m then(af fr k).us i else _)=_
  rw[if_pos (by omega)];exact DE h
theorem E1 {n k i:Nat}(hi:i<n):(jF n k).getD i 0=if k=i then 1 else 0:=by
 unfold jF
 simp only[List.getD_eq_getElem?_getD,List.getElem?_set,List.length_replicate]
 by_cases e:k=i
 ·subst e;simp[hi]
 ·rw[if_neg e,if_neg e];simp[hi]
theorem BB {k:Nat}(g:It→Int)(h:It×It→Int)(Xz:∀j (hj:j<(pF fr k).length),g ⟨(pF fr k)[j].1.w+(pF fr k)[j].2.w,(j:Int),(af fr k).m+j⟩=h (pF fr k)[j]):∀m,m≤(pF fr k).length→cY g ((pG fr k).take m)=(((pF fr k).take m).map h).sum
 |0,_=>by simp[cY]
 |m+1,hm=>by
  have ih:=BB g h Xz m (by omega)
  rw[List.take_succ_eq_append_getElem (by rw[fy];omega),List.take_succ_eq_append_getElem (show m<(pF fr k).length by omega),jc,ih,List.map_append,List.sum_append,oh]
  simp only[cY,List.map_cons,List.map_nil,List.sum_cons,List.sum_nil]
  rw[Xz m (by omega)]
theorem JQ (hb:fr.any iR=false)(hl:fr.length≤320){k:Nat}(hk:k≤15){i:Nat}(hi:i<nF fr)(j:Nat)(hj:j<(pF fr k).length):
 vF fr (k+1) ⟨(pF fr k)[j].1.w+(pF fr k)[j].2.w,(j:Int),(af fr k).m+j⟩ i=vF fr k (pF fr k)[j].1 i+vF fr k (pF fr k)[j].2 i:=by
 have ok:=lU hb hl k hk
 obtain⟨⟨y,y1,_,y2⟩,⟨z,z1,_,z2⟩⟩:=q6 (L:=(af fr k).all) (List.getElem_mem hj)
 have l1:=ok.ul (pF fr k)[j].1.u (by rw[←y2];exact(ok.items y y1).1)
 have l2:=ok.ul (pF fr k)[j].2.u (by rw[←z2];exact(ok.items z z1).1)
 have hd:(pF fr k).getD j default=(pF fr k)[j]:=by simp[List.getD_eq_getElem?_getD,hj]
 unfold vF
 have e:(af fr (k+1)).us ((af fr k).m+j)=List.zipWith (·+·) ((af fr k).us (pF fr k)[j].1.u) ((af fr k).us (pF fr k)[j].2.u):=by
  show(if(af fr k).m+j<(af fr k).m then _ else yO (af fr k).us (pF fr k) ((af fr k).m+j-(af fr k).m))=_
  rw[if_neg (by omega),Nat.add_sub_cancel_left]
  unfold yO
  rw[hd]
 show((af fr (k+1)).us ((af fr k).m+j)).getD i 0=_
 rw[e]
 simp only[List.getD_eq_getElem?_getD,List.getElem?_zipWith,List.getElem?_eq_getElem (show i<((af fr k).us (pF fr k)[j].1.u).length by rw[l1];exact hi),List.getElem?_eq_getElem (show i<((af fr k).us (pF fr k)[j].2.u).length by rw[l2];exact hi),Option.getD_some]
theorem Hl (hb:fr.any iR=false)(hl:fr.length≤320){k t:Nat}(hk:k≤15)(ht:t≤(ko fr (k+1)).length):
 ∃m,2*m≤(ko fr k).length∧(t:Int)=m+bT (nF fr) (aT fr (k+1) t)∧(∀i,i<nF fr→uT fr (k+1) t i=uT fr k (2*m) i+aT fr (k+1) t i)∧
  wT fr (k+1) t=wT fr k (2*m)+bT (nF fr) (fun i=>fF fr i*aT fr (k+1) t i)∧(∀i,i<nF fr→0≤aT fr (k+1) t i∧aT fr (k+1) t i≤1)∧
  (∀i j,i<nF fr→j<nF fr→fF fr j<fF fr i→aT fr (k+1) t i≤aT fr (k+1) t j)∧(∀i,i<nF fr→aT fr k (2*m) i≤aT fr (k+1) t i):=by
 have ZX:=kF (fr:=fr) k
 have jz:ko fr (k+1)=(ko fr (k+1)).take t++(ko fr (k+1)).drop t:=(List.take_append_drop _ _).symm
 have hT:((ko fr (k+1)).take t).length=t:=by rw[List.length_take];omega
 generalize Uz:(ko fr (k+1)).take t=T at jz hT
 generalize hDe:(ko fr (k+1)).drop t=D at jz
 generalize hm:(T.filter (A0 (pF fr k).length)).length=m
 generalize UA:T.filter (fun x=>!A0 (pF fr k).length x)=TL
 have V7:T.filter (A0 (pF fr k).length)=(pG fr k).take m:=by
  rw[←Fi,jz,List.filter_append,←hm,List.take_left]
 have Io:m≤(pF fr k).length:=by
  have:=congrArg List.length V7
  rw[hm,List.length_take,fy]at this
  omega
 have bO:(pF fr k).length=(ko fr k).length/2:=oe _
 have LH:∀g:It→Int,cY g T=cY g ((pG fr k).take m)+cY g TL:=by
  intro g
  rw[←Fc (List.filter_append_perm (A0 (pF fr k).length) T),jc,V7,UA]
 have P0:∀x∈TL,∃i,i<nF fr∧x=El fr k i:=by
  intro x hx
  have h1:x∈(ko fr (k+1)).filter fun x=>!A0 (pF fr k).length x:=by
   rw[jz,List.filter_append,UA];exact List.mem_append_left _ hx
  exact oo.1 ((sD k).subset h1)
 have Sx:TL.Pairwise fun a b=>a.u≠b.u:=by
  have h1:((ko fr (k+1)).filter fun x=>!A0 (pF fr k).length x).Pairwise fun a b=>a.u≠b.u:=(zR k).perm (sD k).symm (fun h=>fun e=>h e.symm)
  rw[jz,List.filter_append,UA]at h1
  exact(List.pairwise_append.1 h1).1
 have Yz:∀i,i<nF fr→iN i ((pG fr k).take m)=0:=by
  intro i hi
  apply pS
  intro x hx
  obtain⟨j,hj,rfl⟩:=l6 (List.mem_of_mem_take hx)
  show(af fr k).m+j≠i
  omega
 have Nc:∀i,i<nF fr→aT fr (k+1) t i=iN i TL:=by
  intro i hi
  have:=LH (fun x=>if x.u=i then 1 else 0)
  unfold aT
  rw[Uz]
  have h0:=Yz i hi
  unfold iN at h0⊢
  rw[this,h0];omega
 have Sw:∀x∈TL,x.u<nF fr:=by
  intro x hx
  obtain⟨i,hi,rfl⟩:=P0 x hx
  exact hi
 have A6:∀i,i<nF fr→∀y∈T,fF fr i<y.w→1≤aT fr (k+1) t i:=by
  intro i hi y hy hw
  have h1:=HZ (fr:=fr) (k:=k) hi
  rw[jz]at h1
  rcases List.mem_append.1 h1 with h1|h1
  ·have:aT fr (k+1) t i=iN i T:=by unfold aT;rw[Uz]
   rw[this]
   exact Ay ⟨_,h1,rfl⟩
  ·exfalso
   have h2:=n6 (fr:=fr) (k+1)
   rw[jz]at h2
   have h3:=(List.pairwise_append.1 h2).2.2 y hy _ h1
   unfold rO at h3
   have h4:(El fr k i).w=fF fr i:=rfl
   omega
 refine⟨m,by omega,?_,?_,?_,?_,?_,?_⟩
 ·have h1:=LH (fun _=>1)
  have iH:∀l:List It,cY (fun _=>1) l=l.length:=by
   intro l
   induction l with
   |nil=>rfl
   |cons x l ih=>simp only[cY,ih,List.length_cons];omega
  rw[iH,iH,hT,List.length_take,fy,Nat.min_eq_left Io]at h1
  have h2:=sA (n:=nF fr) (fun _=>1) Sw
  rw[h1,h2,bc (h:=aT fr (k+1) t) fun i hi=>by rw[Nc i hi];omega]
 ·intro i hi
  have h1:=LH (fun x=>vF fr (k+1) x i)
  have h2:=BB (k:=k) (fun x=>vF fr (k+1) x i) (fun q=>vF fr k q.1 i+vF fr k q.2 i) (JQ hb hl hk hi) m Io
  have h3:=od (fun x=>vF fr k x i) (ko fr k) m Io
  have h4:cY (fun x=>vF fr (k+1) x i) TL=iN i TL:=by
   refine ku fun x hx=>?_
   obtain⟨j,hj,rfl⟩:=P0 x hx
   show((af fr (k+1)).us j).getD i 0=if j=i then 1 else 0
   rw[DE hj,E1 hi]
  rw[Nc i hi]
  unfold uT
  rw[Uz,h1,h2,h4]
  rw[←h3];rfl
 ·have h1:=LH (fun x=>x.w)
  have h2:=BB (k:=k) (fun x=>x.w) (fun q=>q.1.w+q.2.w) (fun _ _=>rfl) m Io
  have h3:=od (fun x=>x.w) (ko fr k) m Io
  have h4:cY (fun x=>x.w) TL=bT (nF fr) (fun i=>fF fr i*iN i TL):=by
   rw[←sA (fF fr) Sw]
   refine ku fun x hx=>?_
   obtain⟨j,hj,rfl⟩:=P0 x hx
   rfl
  unfold wT
  rw[Uz,h1,h2,h4,←h3]
  rw[bc (g:=fun i=>fF fr i*aT fr (k+1) t i) (h:=fun i=>fF fr i*iN i TL) fun i hi=>by rw[Nc i hi]]
  rfl
 ·intro i hi
  rw[Nc i hi]
  exact⟨sf i TL,sg Sx⟩
 ·intro i j hi hj hw
  by_cases h:∃x∈TL,x.u=i
  ·obtain⟨x,hx,e⟩:=h
   have Xa:x∈T:=by rw[←UA]at hx;exact(List.mem_filter.1 hx).1
   have z9:x∈ko fr (k+1):=by rw[jz];exact List.mem_append_left _ Xa
   have Uj:=HY z9 hi e
   have h1:=A6 j hj x Xa (by omega)
   rw[Nc i hi]
   have:=sg (i:=i) Sx
   omega
  ·rw[Nc i hi,pS (fun x hx e=>h ⟨x,hx,e⟩),Nc j hj]
   exact sf j TL
 ·intro i hi
  have h0:0≤aT fr (k+1) t i:=by rw[Nc i hi];exact sf i TL
  by_cases h:∃x∈(ko fr k).take (2*m),x.u=i
  ·obtain⟨y,hy,e⟩:=h
   have ZO:=HY (List.mem_of_mem_take hy) hi e
   obtain⟨q,hq,W8⟩:=v9 (ko fr k) m Io hy
   obtain⟨j,hj,rfl⟩:=List.getElem_of_mem hq
   rw[List.length_take]at hj
   have Ad:j<(pF fr k).length:=by have:j<min m (pF fr k).length:=hj;omega
   have Xv:j<m:=by omega
   have Ib:(pG fr k).take m=(pG fr k).take m:=rfl
   have O9:(pG fr k)[j]'(by rw[fy];exact Ad)∈T:=by
    have:(pG fr k)[j]'(by rw[fy];exact Ad)∈(pG fr k).take m:=by
     rw[List.mem_take_iff_getElem]
     exact⟨j,by rw[fy];omega,rfl⟩
    rw[←V7]at this
    exact(List.mem_filter.1 this).1
   have hg:((bX (ko fr k)).take m)[j]=(pF fr k)[j]:=by rw[List.getElem_take];rfl
   rw[hg]at W8
   obtain⟨a,b⟩:=iz (a:=(pF fr k)[j].1) (b:=(pF fr k)[j].2) (l:=ko fr k) (List.getElem_mem Ad)
   have pa:=rY a
   have pb:=rY b
   have h1:=A6 i hi _ O9 (by
    rw[oh]
    show fF fr i<_+_
    rcases W8 with rfl|rfl<;>omega)
   have h2:aT fr k (2*m) i≤1:=by
    cases k with
    |zero=>simp[aT,pf,iN,cY]
    |succ k=>
     unfold aT
     apply sg
     have h3:(ko fr (k+1)).Pairwise fun a b=>a.u≠b.u:=by
      refine List.Pairwise.perm ?_ (jN k).symm (fun h=>fun e=>h e.symm)
      rw[List.pairwise_append]
      refine⟨?_,zR k,?_⟩
      ·rw[List.pairwise_iff_getElem]
       intro i j hi hj rq
       rw[oh hi,oh hj]
       show(af fr k).m+i≠(af fr k).m+j
       omega
      ·intro a ha b hb
       obtain⟨j,hj,rfl⟩:=l6 ha
       obtain⟨i,hi,rfl⟩:=oo.1 hb
       have:=kF (fr:=fr) k
       show(af fr k).m+j≠i
       omega
     exact h3.sublist (List.take_sublist _ _)
   omega
  ·have:aT fr k (2*m) i=0:=pS fun x hx e=>h ⟨x,hx,e⟩
   omega
end
end Go.Proofs.Ytibadaomjlkoaaa
open Go.RowKit
namespace Go.Proofs.Ytibadaomjlkoaaa
def wid (k u:Nat):Int:=2^(k+1)-2^(k+1-u)
theorem sn (k:Nat):wid k 0=0:=by simp[wid]
theorem GR (k u:Nat)(h:u≤k):wid (k+1) (u+1)=2^(k+1)+wid k u:=by
 unfold wid
 rw[show k+1+1-(u+1)=k+1-u by omega,Int.pow_succ (2:Int) (k+1)]
 omega
theorem zE (n:Nat):(0:Int)<2^n:=by exact_mod_cast Nat.two_pow_pos n
theorem kL {a b:Nat}(h:a≤b):(2:Int)^a≤2^b:=by exact_mod_cast Nat.pow_le_pow_right (by omega) h
theorem G4 {n i j:Nat}{g:Nat→Int}(h:∀x,x<n→0≤g x)(hi:i<n)(hj:j<n)(rq:i≠j):g i+g j≤bT n g:=by
 rw[←xp g hi,←xp g hj,←lO]
 refine DJ fun x hx=>?_
 have:=h x hx
 by_cases e:x=i
 ·rw[if_pos e,if_neg (by omega)];omega
 ·rw[if_neg e];split<;>omega
section
variable{fr:List Int}
structure T6 (fr:List Int)(k t:Nat):Prop where
 ub:∀i,i<nF fr→0≤uT fr k t i∧uT fr k t i≤k
 mono:∀i j,i<nF fr→j<nF fr→fF fr j<fF fr i→uT fr k t i≤uT fr k t j
 none:∀i,i<nF fr→aT fr k t i≤0→uT fr k t i=0
 cost:wT fr k t=bT (nF fr) (fun i=>fF fr i*uT fr k t i)
 width:bT (nF fr) (fun i=>wid k (uT fr k t i).toNat)=(t:Int)*2^k
theorem MG (hb:fr.any iR=false)(hl:fr.length≤320):∀k t,k≤15→t≤(ko fr k).length→T6 fr k t
 |0,t,_,ht=>by
  rw[pf]at ht
  obtain rfl:t=0:=by simpa using ht
  have hu:∀i,uT fr 0 0 i=0:=fun i=>rfl
  refine⟨fun i _=>by rw[hu];simp,fun i j _ _ _=>by rw[hu,hu];exact Int.le_refl _,fun i _ _=>hu i,?_,?_⟩
  ·rw[bc (h:=fun _=>0) fun i _=>by rw[hu];simp,mN];rfl
  ·rw[bc (h:=fun _=>0) fun i _=>by rw[hu];exact sn 0,mN];simp
 |k+1,t,hk,ht=>by
  obtain⟨m,h1,h2,h3,h4,h5,h6,h7⟩:=Hl hb hl (show k≤15 by omega) ht
  have ih:=MG hb hl k (2*m) (by omega) h1
  refine⟨?_,?_,?_,?_,?_⟩
  ·intro i hi
   have a:=ih.ub i hi
   have b:=h5 i hi
   rw[h3 i hi];omega
  ·intro i j hi hj hw
   have a:=ih.mono i j hi hj hw
   have b:=h6 i j hi hj hw
   rw[h3 i hi,h3 j hj];omega
  ·intro i hi ha
   have a:=h7 i hi
   have b:=h5 i hi
   have c:=ih.none i hi (by omega)
   rw[h3 i hi,c];omega
  ·rw[h4,ih.cost,←lO]
   exact bc fun i hi=>by rw[h3 i hi,Int.mul_add]
  ·have e:∀i,i<nF fr→wid (k+1) (uT fr (k+1) t i).toNat=wid k (uT fr k (2*m) i).toNat+2^(k+1)*aT fr (k+1) t i:=by
    intro i hi
    have a:=ih.ub i hi
    have b:=h5 i hi
    rcases(show aT fr (k+1) t i=0∨aT fr (k+1) t i=1 by omega)with c|c
    ·have d:=ih.none i hi (by have:=h7 i hi;omega)
     rw[h3 i hi,c,d]
     show wid (k+1) 0=wid k 0+_
     rw[sn,sn];simp
    ·rw[h3 i hi,c,show(uT fr k (2*m) i+1).toNat=(uT fr k (2*m) i).toNat+1 by omega,GR k _ (by omega)];omega
   rw[bc e,lO,o9,ih.width,h2,Int.pow_succ]
   push_cast
   rw[Int.add_mul,Int.mul_comm 2 (m:Int),Int.mul_assoc,Int.mul_comm (2^k*2) (bT _ _),Int.mul_comm 2 (2^k)]
def iE (fr:List Int)(K i:Nat):Int:=uT fr K (2*nF fr-2) i
theorem DL (k:Nat):(ko fr k).length=(af fr k).all.length:=Fj _
theorem OY (hb:fr.any iR=false)(hl:fr.length≤320){K:Nat}(h1:1≤K)(qI:K≤15)(hn:2≤nF fr)(hK:nF fr≤2^K):
 (∀i,i<nF fr→1≤iE fr K i∧iE fr K i≤K)∧(∀i j,i<nF fr→j<nF fr→fF fr j<fF fr i→iE fr K i≤iE fr K j)∧
  bT (nF fr) (fun i=>2^(15-(iE fr K i).toNat))=32768∧wT fr K (2*nF fr-2)=bT (nF fr) (fun i=>fF fr i*iE fr K i):=by
 have ok:=MG hb hl K (2*nF fr-2) qI (by rw[DL];exact kG fr h1 hK)
 have hw:=ok.width
 have e1:bT (nF fr) (fun i=>2^(K+1-(iE fr K i).toNat))=2^(K+1):=by
  have a:bT (nF fr) (fun i=>wid K (iE fr K i).toNat+2^(K+1-(iE fr K i).toNat))=nF fr*2^(K+1):=by
   rw[bc (h:=fun _=>2^(K+1)*1) fun i _=>by unfold wid;omega,o9,zd,Int.mul_comm]
  rw[lO]at a
  have b:bT (nF fr) (fun i=>wid K (iE fr K i).toNat)=((2*nF fr-2:Nat):Int)*2^K:=hw
  rw[b,Int.pow_succ]at a
  rw[Int.pow_succ]
  have c:((2*nF fr-2:Nat):Int)=2*(nF fr:Int)-2:=by omega
  rw[c,Int.sub_mul,Int.mul_comm (2^K) 2,←Int.mul_assoc,Int.mul_comm (nF fr:Int) 2]at a
  omega
 have cB:∀i,i<nF fr→1≤iE fr K i:=by
  intro i hi
  have a:=(ok.ub i hi).1
  rcases Int.lt_or_le 0 (iE fr K i)with h|h
  ·omega
  ·exfalso
   have h0:iE fr K i=0:=Int.le_antisymm h a
   obtain⟨j,hj,rq⟩:∃j,j<nF fr∧i≠j:=by
    by_cases e:i=0
    ·exact⟨1,by omega,by omega⟩
    ·exact⟨0,by omega,e⟩
   have:=G4 (g:=fun i=>(2:Int)^(K+1-(iE fr K i).toNat)) (fun x _=>Int.le_of_lt (zE _)) hi hj rq
   rw[e1]at this
   simp only[h0]at this
   have p:=zE (K+1-(iE fr K j).toNat)
   simp only[Int.toNat_zero,Nat.sub_zero]at this
   omega
 refine⟨fun i hi=>⟨cB i hi,(ok.ub i hi).2⟩,ok.mono,?_,ok.cost⟩
 have e2:bT (nF fr) (fun i=>2*2^(15-(iE fr K i).toNat))=bT (nF fr) (fun i=>2^(15-K)*2^(K+1-(iE fr K i).toNat)):=by
  refine bc fun i hi=>?_
  have a:=cB i hi
  have b:=(ok.ub i hi).2
  have b':iE fr K i≤K:=b
  rw[←Int.pow_add,show 15-K+(K+1-(iE fr K i).toNat)=(15-(iE fr K i).toNat)+1 by omega,Int.pow_succ,Int.mul_comm]
 rw[o9,o9,e1,←Int.pow_add,show 15-K+(K+1)=16 by omega]at e2
 have:(2:Int)^16=65536:=by decide
 omega
end
end Go.Proofs.Ytibadaomjlkoaaa
open Go.RowKit
namespace Go.Proofs.Ytibadaomjlkoaaa
theorem iK (l:List Int)(i j:Nat)(v:Int):(l.set i v).getD j 0=if i=j∧i<l.length then v else l.getD j 0:=by
 simp only[List.getD_eq_getElem?_getD,List.getElem?_set]
 by_cases e:i=j
 ·subst e
  by_cases h:i<l.length
  ·rw[if_pos rfl,if_pos h,if_pos ⟨rfl,h⟩];rfl
  ·rw[if_pos rfl,if_neg h,if_neg (fun x=>h x.2),List.getElem?_eq_none (by omega)]
 ·rw[if_neg e,if_neg (fun x=>e x.1)]
theorem xf (s:Nat)(used:List Nat)(v:Int)(uv out:List Int):oS (s::used) (v::uv) out=oS used uv (out.set s ((out.getD s 0+v%256)%256)):=rfl
theorem oR {s:Nat}:∀{used:List Nat}{uv out:List Int},s∉used→(oS used uv out).getD s 0=out.getD s 0
 |[],_,_,_=>rfl
 |_::_,[],_,_=>by simp[oS]
 |x::used,v::uv,out,h=>by
  rw[xf,oR (fun h'=>h (List.mem_cons_of_mem _ h')),iK,if_neg (fun h'=>h (by rw[h'.1];exact List.mem_cons_self ..))]
theorem AS:∀{used:List Nat}{uv out:List Int}{i:Nat},used.Nodup→(∀s∈used,s<out.length)→used.length=uv.length→i<used.length→
 (oS used uv out).getD (used.getD i 0) 0=(out.getD (used.getD i 0) 0+uv.getD i 0%256)%256
 |[],_,_,i,_,_,_,hi=>by simp at hi
 |_::_,[],_,_,_,_,hl,_=>by simp at hl
 |x::used,v::uv,out,i,hn,hs,hl,hi=>by
  obtain⟨n1,n2⟩:=List.nodup_cons.1 hn
  rw[xf]
  cases i with
  |zero=>
   show(oS used uv _).getD x 0=(out.getD x 0+v%256)%256
   rw[oR n1,iK,if_pos ⟨rfl,hs x (List.mem_cons_self ..)⟩]
  |succ i=>
   have jV:i<used.length:=by simpa using hi
   show(oS used uv _).getD (used.getD i 0) 0=(out.getD (used.getD i 0) 0+uv.getD i 0%256)%256
   rw[AS n2 (fun s h=>by rw[List.length_set];exact hs s (List.mem_cons_of_mem _ h)) (by simpa using hl) jV,iK,if_neg (fun h=>n1 (by rw[h.1];exact gX jV))]
section
variable{fr:List Int}
theorem y7 (fr:List Int):(aC fr).Nodup:=by
 unfold aC;exact List.Pairwise.filter _ List.nodup_range
theorem zL (hb:fr.any iR=false)(hl:fr.length≤320){K:Nat}(hK:K≤15){i:Nat}(hi:i<nF fr):∀t,t≤(ko fr K).length→(rM fr (af fr K) ((ko fr K).take t)).getD ((aC fr).getD i 0) 0=uT fr K t i%256
 |0,_=>by
  have hm:=fw (gX (d:=0) hi)
  simp[rM,uT,cY,List.getD_eq_getElem?_getD,List.getElem?_replicate]
  split<;>rfl
 |t+1,ht=>by
  have ih:=zL hb hl hK hi t (by omega)
  have hx:(ko fr K)[t]'(by omega)∈ko fr K:=List.getElem_mem _
  obtain⟨y,hy,_,Yb⟩:=gv (L:=(af fr K).all) hx
  have ok:=lU hb hl K hK
  have Es:=ok.ul _ (ok.items y hy).1
  rw[Yb]at Es
  have hlen:=s9 fr (af fr K) ((ko fr K).take t)
  rw[List.take_succ_eq_append_getElem (by omega),qk,AS (y7 fr) (fun s hs=>by rw[hlen];exact(fw hs).1) Es.symm hi,ih]
  unfold uT
  rw[List.take_succ_eq_append_getElem (by omega),jc]
  simp only[cY]
  unfold vF
  omega
theorem Bw {r:Row}{s:Nat}(hs:s∉aC fr):∀t:List It,(rM fr r t).getD s 0=0:=by
 intro t
 obtain⟨n,hn⟩:∃n,t.length=n:=⟨_,rfl⟩
 induction n generalizing t with
 |zero=>
  obtain rfl:=List.eq_nil_of_length_eq_zero hn
  simp[rM,List.getD_eq_getElem?_getD,List.getElem?_replicate]
  split<;>rfl
 |succ n ih=>
  rcases List.eq_nil_or_concat t with rfl|⟨t,x,rfl⟩
  ·simp at hn
  ·simp only[List.concat_eq_append]at hn⊢
   rw[qk,oR hs]
   exact ih t (by rw[List.length_append]at hn;simpa using hn)
theorem y6 {s:Nat}:s∈aC fr↔s<fr.length∧0<fr.getD s 0:=by
 unfold aC
 simp only[List.mem_filter,List.mem_range,decide_eq_true_eq]
theorem JS {s:Nat}(h:s∈aC fr):∃i,i<nF fr∧(aC fr).getD i 0=s:=by
 obtain⟨i,hi,e⟩:=List.getElem_of_mem h
 exact⟨i,hi,by rw[List.getD_eq_getElem?_getD,List.getElem?_eq_getElem hi];exact e⟩
theorem qU (p:Nat→Bool)(g:Nat→Int):∀N,bT N (fun s=>if p s=true then g s else 0)=bT ((List.range N).filter p).length (fun i=>g (((List.range N).filter p).getD i 0))
 |0=>rfl
 |N+1=>by
  simp only[bT]
  rw[qU p g N,List.range_succ,List.filter_append]
  by_cases h:p N=true
  ·rw[if_pos h,List.filter_cons_of_pos h,List.filter_nil,List.length_append]
   show _=bT (((List.range N).filter p).length+1) _
   simp only[bT]
   rw[show(((List.range N).filter p)++[N]).getD ((List.range N).filter p).length 0=N by simp[List.getD_eq_getElem?_getD]]
   congr 1
   exact bc fun i hi=>by simp[List.getD_eq_getElem?_getD,List.getElem?_append_left hi]
  ·rw[if_neg h,List.filter_cons_of_neg h,List.filter_nil,List.append_nil];omega
theorem mO (g:Nat→Int):bT fr.length (fun s=>if 0<fr.getD s 0 then g s else 0)=bT (nF fr) (fun i=>g ((aC fr).getD i 0)):=by
 have:=qU (fun i=>decide (0<fr.getD i 0)) g fr.length
 simp only[decide_eq_true_eq]at this
 exact this
structure gB (fr:List Int)(K:Nat)(l:List Int):Prop where
 len:l.length=fr.length
 pos:∀s,s<fr.length→0<fr.getD s 0→1≤l.getD s 0∧l.getD s 0≤K
 zero:∀s,s<fr.length→¬0<fr.getD s 0→l.getD s 0=0
 one:nF fr=1→∀s,l.getD s 0≤1
 mono:∀i k,i<fr.length→k<fr.length→fr.getD k 0<fr.getD i 0→0<fr.getD k 0→l.getD i 0≤l.getD k 0
 Rq:2≤nF fr→bT fr.length (fun s=>if 0<fr.getD s 0 then 2^(15-(l.getD s 0).toNat)else 0)=32768
 cost:2≤nF fr→bT fr.length (fun s=>if 0<fr.getD s 0 then fr.getD s 0*l.getD s 0 else 0)=wT fr K (2*nF fr-2)
theorem sU (n s:Nat):(List.replicate n (0:Int)).getD s 0=0:=by
 simp[List.getD_eq_getElem?_getD,List.getElem?_replicate]
 split<;>rfl
theorem Lv (hb:fr.any iR=false)(hl:fr.length≤320){K:Nat}(h1:1≤K)(qI:K≤15)(hK:nF fr≤2^K):gB fr K (bq fr K):=by
 have RE:∀s,s<fr.length→0<fr.getD s 0→∃i,i<nF fr∧(aC fr).getD i 0=s:=fun s a b=>JS (y6.2 ⟨a,b⟩)
 rcases(show nF fr=0∨nF fr=1∨2≤nF fr by omega)with hn|hn|hn
 ·have rl:∀s,s<fr.length→¬0<fr.getD s 0:=by
   intro s a b
   obtain⟨i,hi,_⟩:=RE s a b
   omega
  rw[wC K hn]
  exact⟨by simp,fun s a b=>absurd b (rl s a),fun s _ _=>sU _ _,fun h=>by omega,fun i k hi hk _ h=>absurd h (rl k hk),fun h=>by omega,fun h=>by omega⟩
 ·rw[zY K hn]
  have A6:∀s,s<fr.length→0<fr.getD s 0→(aC fr).getD 0 0=s:=by
   intro s a b
   obtain⟨i,hi,e⟩:=RE s a b
   obtain rfl:i=0:=by omega
   exact e
  have hm:=fw (gX (l:=aC fr) (j:=0) (d:=0) (by have:(aC fr).length=1:=hn;omega))
  refine⟨by simp,?_,?_,?_,?_,fun h=>by omega,fun h=>by omega⟩
  ·intro s a b
   rw[iK,if_pos ⟨A6 s a b,by rw[List.length_replicate];exact hm.1⟩];omega
  ·intro s a b
   rw[iK,if_neg (fun e=>b (by rw[←e.1];exact hm.2)),sU]
  ·intro _ s
   rw[iK,sU];split<;>omega
  ·intro i k hi hk h1 h2
   have e1:=A6 i hi (by omega)
   have e2:=A6 k hk h2
   rw[←e1,←e2];exact Int.le_refl _
 ·obtain⟨a1,a2,a3,a4⟩:=OY hb hl h1 qI hn hK
  have hlen:(bq fr K).length=fr.length:=tz fr K
  have ht:2*nF fr-2≤(ko fr K).length:=by rw[DL];exact kG fr h1 hK
  have cj:∀i,i<nF fr→(bq fr K).getD ((aC fr).getD i 0) 0=iE fr K i:=by
   intro i hi
   rw[tw K hn]
   have:=zL hb hl qI hi (2*nF fr-2) ht
   have b:=a1 i hi
   refine Eq.trans this ?_
   show iE fr K i%256=iE fr K i
   omega
  refine⟨hlen,?_,?_,fun h=>by omega,?_,fun _=>?_,fun _=>?_⟩
  ·intro s a b
   obtain⟨i,hi,rfl⟩:=RE s a b
   rw[cj i hi];exact a1 i hi
  ·intro s a b
   rw[tw K hn]
   exact Bw (fun h=>b (y6.1 h).2) _
  ·intro i k hi hk hw hp
   obtain⟨i',jV,rfl⟩:=RE i hi (by omega)
   obtain⟨k',mf,rfl⟩:=RE k hk hp
   rw[cj i' jV,cj k' mf]
   exact a2 i' k' jV mf hw
  ·rw[mO (fun s=>2^(15-((bq fr K).getD s 0).toNat)),←a3]
   exact bc fun i hi=>by rw[cj i hi]
  ·rw[mO (fun s=>fr.getD s 0*(bq fr K).getD s 0),a4]
   exact bc fun i hi=>by rw[cj i hi];rfl
end
end Go.Proofs.Ytibadaomjlkoaaa
open Go.RowKit
namespace Go.Proofs.Ytibadaomjlkoaaa
end Go.Proofs.Ytibadaomjlkoaaa
open Go.RowKit
namespace Go.Proofs.Ytibadaomjlkoaaa
set_option maxRecDepth 10000
section
variable{M:AH}{K Kp:AV→AH→Prop}
theorem GW {ir ib im it g c a:Nat}{xs:List Int}{es:List ((Int×Int)×Int)}(h1:M[ir]?=some (ro ib g c xs a))(h2:M[ib]?=some (rb g c xs))(h3:M[im]?=some (.one true 0 (.map (.pair .i64 .i64) (kS es))))(h4:M[it]?=some (.one true 0 (.cells [.mp im 0])))
 (oU:(bB [.own ir,.own ib,.own im,.own it]&&AV.oT [.own ir,.own ib,.own im,.own it] [.ptr 3 0 0,.ptr 0 0 0])=true)
 (hb:xs.length≤1000000)(ha:a≤8*xs.length)(z9:∀x∈xs,0≤x∧x<256)(lF:∀k z,bS k es=some z→k.2≤15)
 (h:K (.aG [.int .i64 (ey es (unpack xs) a).1,.int .i64 (ey es (unpack xs) a).2.2]) ((((M.set ir (ro ib g c xs (ey es (unpack xs) a).2.1)).set ib (rb g c xs)).set im (.one true 0 (.map (.pair .i64 .i64) (kS es)))).set it (.one true 0 (.cells [.mp im 0])))):
 aa Try.prog 101 [.ptr it 0 0,.ptr ir 0 0] M K Kp:=by
 refine aa.lift [.own ir,.own ib,.own im,.own it] (Ba (xs:=xs) (g:=g) (c:=c) (es:=es) (a:=a) (K:=fun r M=>r=.aG [.int .i64 (ey es (unpack xs) a).1,.int .i64 (ey es (unpack xs) a).2.2]∧M=E5 g c xs (ey es (unpack xs) a).2.1 es) (Kp:=fun _ _=>False) hb ha z9 lF ⟨rfl,rfl⟩) rfl oU
  ⟨⟨h1,rfl⟩,⟨h2,rfl⟩,⟨by rw[h3];show some _=some (AO.one true 0 ((ae.map (.pair .i64 .i64) (kS es)).rn _ _));rw[jn],rfl⟩,⟨h4,rfl⟩,trivial⟩ ⟨rfl,trivial,wo _ (.pair .i64 .i64) es,rfl,trivial⟩ ?_ (fun _ _ h=>h.elim)
 rintro r M' ⟨rfl,rfl⟩
 refine⟨⟨rfl,rfl,rfl,rfl,rfl⟩,?_⟩
 rw[←jn [.own ir,.own ib,.own im,.own it] M.length (.pair .i64 .i64) es,←List.append_nil ((((M.set ir _).set ib _).set im _).set it _)]at h
 exact h
end
end Go.Proofs.Ytibadaomjlkoaaa
