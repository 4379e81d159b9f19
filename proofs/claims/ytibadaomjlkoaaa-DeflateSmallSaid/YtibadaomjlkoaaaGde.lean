import Derived.Test.YtibadaomjlkoaaaGdd
import Derived.Test.YtibadaomjlkoaaaGdc
import Derived.Test.YtibadaomjlkoaaaGb
set_option linter.unusedVariables false
set_option linter.unusedSimpArgs false
open Go.RowKit
namespace Go.Proofs.Ytibadaomjlkoaaa
def dh (g:It→Int):List It→Int
 |[]=>0
 |x::l=>g x+dh g l
theorem jy (g:It→Int):∀l l':List It,dh g (l++l')=dh g l+dh g l'
 |[],l'=>by simp[dh]
 |x::l,l'=>by simp only[List.cons_append,dh,jy g l l'];omega
theorem Ge {g:It→Int}{l l':List It}(h:l.Perm l'):dh g l=dh g l':=by
 induction h with
 |nil=>rfl
 |cons x _ ih=>simp only[dh,ih]
 |swap x y l=>simp only[dh];omega
 |trans _ _ a b=>rw[a,b]
theorem kU {g h:It→Int}:∀{l:List It},(∀x∈l,g x=h x)→dh g l=dh h l
 |[],_=>rfl
 |x::l,e=>by simp only[dh];rw[e x (List.mem_cons_self ..),kU fun y hy=>e y (List.mem_cons_of_mem _ hy)]
theorem EP {g:It→Int}:∀{l:List It},(∀x∈l,0≤g x)→0≤dh g l
 |[],_=>Int.le_refl _
 |x::l,e=>by
  have:=e x (List.mem_cons_self ..)
  have:=EP (g:=g) (l:=l) fun y hy=>e y (List.mem_cons_of_mem _ hy)
  simp only[dh];omega
theorem Gd {g:It→Int}{l:List It}(h:∀x∈l,g x=0):dh g l=0:=by
 rw[kU (h:=fun _=>0) h]
 clear h
 induction l with
 |nil=>rfl
 |cons x l ih=>simp only[dh,ih];rfl
def b8:Nat→(Nat→Int)→Int
 |0,_=>0
 |n+1,g=>b8 n g+g n
theorem bj {g h:Nat→Int}:∀{n:Nat},(∀i,i<n→g i=h i)→b8 n g=b8 n h
 |0,_=>rfl
 |n+1,e=>by simp only[b8];rw[e n (Nat.lt_succ_self n),bj fun i hi=>e i (by omega)]
theorem mo (n:Nat)(g h:Nat→Int):b8 n (fun i=>g i+h i)=b8 n g+b8 n h:=by
 induction n with
 |zero=>rfl
 |succ n ih=>simp only[b8,ih];omega
theorem pQ (n:Nat)(c:Int)(g:Nat→Int):b8 n (fun i=>c*g i)=c*b8 n g:=by
 induction n with
 |zero=>simp[b8]
 |succ n ih=>simp only[b8,ih,Int.mul_add]
theorem EO {g h:Nat→Int}:∀{n:Nat},(∀i,i<n→g i≤h i)→b8 n g≤b8 n h
 |0,_=>Int.le_refl _
 |n+1,e=>by
  have:=e n (Nat.lt_succ_self n)
  have:=EO (n:=n) fun i hi=>e i (by omega)
  simp only[b8];omega
theorem nx (n:Nat):b8 n (fun _=>0)=0:=by
 induction n with
 |zero=>rfl
 |succ n ih=>simp only[b8,ih];rfl
theorem zO (n:Nat):b8 n (fun _=>1)=n:=by
 induction n with
 |zero=>rfl
 |succ n ih=>simp only[b8,ih];omega
theorem xV {n j:Nat}(g:Nat→Int)(h:j<n):b8 n (fun i=>if i=j then g i else 0)=g j:=by
 induction n with
 |zero=>omega
 |succ n ih=>
  simp only[b8]
  by_cases e:j=n
  ·subst e
   rw[if_pos rfl,bj (h:=fun _=>0) fun i hi=>if_neg (by omega),nx];omega
  ·rw[ih (by omega),if_neg (by omega)];omega
def jg (i:Nat)(l:List It):Int:=dh (fun x=>if x.u=i then 1 else 0) l
theorem sW (i:Nat)(l:List It):0≤jg i l:=EP fun x _=>by split<;>omega
theorem Bl {i:Nat}:∀{l:List It},(∃x∈l,x.u=i)→1≤jg i l
 |[],h=>by obtain⟨x,hx,_⟩:=h;cases hx
 |y::l,h=>by
  obtain⟨x,hx,e⟩:=h
  have h0:=sW i l
  unfold jg at h0⊢
  simp only[dh]
  rcases List.mem_cons.1 hx with rfl|hx
  ·rw[if_pos e];omega
  ·have:=Bl (l:=l) ⟨x,hx,e⟩
   unfold jg at this
   split<;>omega
theorem qs {i:Nat}{l:List It}(h:∀x∈l,x.u≠i):jg i l=0:=Gd fun x hx=>if_neg (h x hx)
theorem sX {i:Nat}:∀{l:List It},l.Pairwise (fun a b=>a.u≠b.u)→jg i l≤1
 |[],_=>by show(0:Int)≤1;omega
 |x::l,h=>by
  obtain⟨h1,h2⟩:=List.pairwise_cons.1 h
  unfold jg
  simp only[dh]
  split
  ·rename_i e
   have:=qs (i:=i) (l:=l) fun y hy=>by have:=h1 y hy;omega
   unfold jg at this
   omega
  ·have:=sX (i:=i) h2
   unfold jg at this
   omega
theorem tn {n:Nat}(h:Nat→Int):∀{l:List It},(∀x∈l,x.u<n)→dh (fun x=>h x.u) l=b8 n (fun i=>h i*jg i l)
 |[],_=>by
  rw[bj (h:=fun _=>0) fun i _=>by simp[jg,dh],nx];rfl
 |x::l,e=>by
  have hx:=e x (List.mem_cons_self ..)
  have ih:=tn (n:=n) h (l:=l) fun y hy=>e y (List.mem_cons_of_mem _ hy)
  simp only[dh]
  rw[ih,bj (g:=fun i=>h i*jg i (x::l)) (h:=fun i=>(if i=x.u then h i else 0)+h i*jg i l) (fun i _=>by
   show h i*((if x.u=i then 1 else 0)+jg i l)=_
   rw[Int.mul_add]
   by_cases e:i=x.u
   ·rw[if_pos e,if_pos e.symm];omega
   ·rw[if_neg e,if_neg (fun h=>e h.symm)];omega),mo,xV _ hx]
theorem oY (g:It→Int):∀(l:List It)(m:Nat),m≤(cg l).length→(((cg l).take m).map fun q=>g q.1+g q.2).sum=dh g (l.take (2*m))
 |_,0,_=>by simp[dh]
 |[],m+1,h=>by simp[cg]at h
 |[_],m+1,h=>by simp[cg]at h
 |a::b::r,m+1,h=>by
  simp only[cg,List.length_cons,Nat.add_le_add_iff_right]at h
  have ih:=oY g r m h
  rw[show 2*(m+1)=2*m+1+1 by omega]
  simp only[cg,List.take_succ_cons,List.map_cons,List.sum_cons,dh]
  rw[ih];omega
theorem wK:∀(l:List It)(m:Nat){y:It},m≤(cg l).length→y∈l.take (2*m)→∃q∈(cg l).take m,y=q.1∨y=q.2
 |_,0,_,_,h=>by simp at h
 |[],m+1,_,h,_=>by simp[cg]at h
 |[_],m+1,_,h,_=>by simp[cg]at h
 |a::b::r,m+1,y,h,hy=>by
  simp only[cg,List.length_cons,Nat.add_le_add_iff_right]at h
  rw[show 2*(m+1)=2*m+1+1 by omega]at hy
  simp only[List.take_succ_cons,List.mem_cons]at hy
  simp only[cg,List.take_succ_cons,List.mem_cons]
  rcases hy with rfl|rfl|hy
  ·exact⟨_,.inl rfl,.inl rfl⟩
  ·exact⟨_,.inl rfl,.inr rfl⟩
  ·obtain⟨q,h1,h2⟩:=wK r m h hy
   exact⟨q,.inr h1,h2⟩
theorem oA:∀{l:List It},l.Pairwise sv→(cg l).Pairwise fun p q=>p.1.w+p.2.w≤q.1.w+q.2.w
 |[],_=>List.Pairwise.nil
 |[_],_=>List.Pairwise.nil
 |a::b::r,h=>by
  obtain⟨h1,h2⟩:=List.pairwise_cons.1 h
  obtain⟨h3,h4⟩:=List.pairwise_cons.1 h2
  refine List.Pairwise.cons (fun q hq=>?_) (oA h4)
  obtain⟨q1,q2⟩:=iS (a:=q.1) (b:=q.2) (l:=r) hq
  have a1:=h1 _ (List.mem_cons_of_mem _ q1)
  have a2:=h3 _ q2
  unfold sv at a1 a2
  show a.w+b.w≤q.1.w+q.2.w
  omega
section
variable(fr:List Int)
abbrev nF:Nat:=(aC fr).length
def fF (i:Nat):Int:=fr.getD ((aC fr).getD i 0) 0
def kO (k:Nat):List It:=ES (ag fr k).all
def pF (k:Nat):List (It×It):=aw (ag fr k).all
def qf (k:Nat):List It:=(pF fr k).mapIdx fun j q=>⟨q.1.w+q.2.w,(j:Int),(ag fr k).m+j⟩
def HK (k:Nat):List It:=(List.range (nF fr)).map fun i=>⟨fF fr i,(((pF fr k).length+i:Nat):Int),i⟩
theorem IW (k:Nat):fb (ag fr (k+1)).all.length (ag fr (k+1)).all=qf fr k++HK fr k:=by
 apply List.ext_getElem
 ·rw[ee,ko];simp[qf,HK,pF,lq]
 ·intro j h1 h2
  rw[ee]at h1
  have hd:∀(L:List It)(h:j<L.length),L[j]=L.getD j default:=fun L h=>by simp[List.getD_eq_getElem?_getD,h]
  rw[hd _ (by rw[ee];exact h1),ks _ _ _ h1,if_pos h1]
  by_cases hj:j<(pF fr k).length
  ·rw[show(ag fr (k+1)).all.getD j default=_ from Fc hj,List.getElem_append_left (by simpa[qf]using hj)]
   simp only[qf,List.getElem_mapIdx,RY,a8,List.getD_eq_getElem?_getD,List.getElem?_mapIdx]
   rw[List.getElem?_eq_getElem (show j<(aw (ag fr k).all).length from hj)]
   rfl
  ·have BO:(qf fr k).length≤j:=by simp[qf];omega
   rw[show(ag fr (k+1)).all.getD j default=_ from Fe (by show(pF fr k).length≤j;omega),List.getElem_append_right BO]
   have TG:(qf fr k).length=(pF fr k).length:=by simp[qf]
   have Sk:j-(pF fr k).length<(aC fr).length:=by
    rw[ko]at h1
    have:(pF fr k).length=(ag fr k).all.length/2:=lq _
    omega
   have hg:(cB fr).getD (j-(aw (ag fr k).all).length) default=⟨fF fr (j-(pF fr k).length),0,j-(pF fr k).length⟩:=nO Sk
   rw[hg]
   simp only[HK,List.getElem_map,List.getElem_range,TG]
   rw[show(pF fr k).length+(j-(pF fr k).length)=j by omega]
end
end Go.Proofs.Ytibadaomjlkoaaa
open Go.RowKit
namespace Go.Proofs.Ytibadaomjlkoaaa
section
variable{fr:List Int}
def BJ (p:Nat)(x:It):Bool:=decide (x.k<(p:Int))
theorem fP (k:Nat):(qf fr k).length=(pF fr k).length:=by simp[qf]
theorem o5 {k j:Nat}(h:j<(qf fr k).length):(qf fr k)[j]=⟨((pF fr k)[j]'(by rwa[fP]at h)).1.w+((pF fr k)[j]'(by rwa[fP]at h)).2.w,(j:Int),(ag fr k).m+j⟩:=by
 simp only[qf,List.getElem_mapIdx]
theorem mG {k:Nat}{x:It}(h:x∈qf fr k):∃j,∃hj:j<(pF fr k).length,x=⟨(pF fr k)[j].1.w+(pF fr k)[j].2.w,(j:Int),(ag fr k).m+j⟩:=by
 obtain⟨j,hj,rfl⟩:=List.getElem_of_mem h
 exact⟨j,by rwa[fP]at hj,o5 hj⟩
theorem o7 {k:Nat}{x:It}:x∈HK fr k↔∃i,i<nF fr∧x=⟨fF fr i,(((pF fr k).length+i:Nat):Int),i⟩:=by
 simp only[HK,List.mem_map,List.mem_range]
 constructor
 ·rintro⟨i,h,rfl⟩;exact⟨i,h,rfl⟩
 ·rintro⟨i,h,rfl⟩;exact⟨i,h,rfl⟩
theorem kn (k:Nat):(kO fr (k+1)).Perm (qf fr k++HK fr k):=by
 have:=(tv (ag fr (k+1)).all).1
 rw[IW]at this
 exact this
theorem oS (k:Nat):(kO fr k).Pairwise sv:=(tv _).2
theorem pT:kO fr 0=[]:=rfl
theorem GL (k:Nat):(qf fr k++HK fr k).filter (BJ (pF fr k).length)=qf fr k:=by
 rw[List.filter_append,List.filter_eq_self.2 (fun x hx=>?_),List.filter_eq_nil_iff.2 (fun x hx=>?_),List.append_nil]
 ·obtain⟨i,hi,rfl⟩:=o7.1 hx
  unfold BJ;rw[decide_eq_true_eq];show¬(((pF fr k).length+i:Nat):Int)<_;omega
 ·obtain⟨j,hj,rfl⟩:=mG hx
  unfold BJ;rw[decide_eq_true_eq];show(j:Int)<_;omega
theorem GO (k:Nat):(qf fr k++HK fr k).filter (fun x=>!BJ (pF fr k).length x)=HK fr k:=by
 rw[List.filter_append,List.filter_eq_nil_iff.2 (fun x hx=>?_),List.filter_eq_self.2 (fun x hx=>?_),List.nil_append]
 ·obtain⟨i,hi,rfl⟩:=o7.1 hx
  unfold BJ;rw[Bool.not_eq_true',decide_eq_false_iff_not];show¬(((pF fr k).length+i:Nat):Int)<_;omega
 ·obtain⟨j,hj,rfl⟩:=mG hx
  unfold BJ;simp only[Bool.not_eq_true',decide_eq_false_iff_not,Decidable.not_not];show(j:Int)<_;omega
theorem GK (k:Nat):(qf fr k).Pairwise sv:=by
 rw[List.pairwise_iff_getElem]
 intro i j hi hj r6
 rw[o5 hi,o5 hj]
 have h:=List.pairwise_iff_getElem.1 (oA (oS (fr:=fr) k)) i j (by rwa[fP]at hi) (by rwa[fP]at hj) r6
 have jq:i<(pF fr k).length:=by rwa[fP]at hi
 have AY:j<(pF fr k).length:=by rwa[fP]at hj
 have h':(pF fr k)[i].1.w+(pF fr k)[i].2.w≤(pF fr k)[j].1.w+(pF fr k)[j].2.w:=h
 unfold sv
 show _<_∨_=_∧(i:Int)≤(j:Int)
 simp only
 omega
theorem Gj (k:Nat):(kO fr (k+1)).filter (BJ (pF fr k).length)=qf fr k:=by
 have hp:=(kn (fr:=fr) k).filter (BJ (pF fr k).length)
 rw[GL]at hp
 refine List.Perm.eq_of_pairwise (le:=sv) ?_ ((oS (k+1)).filter _) (GK k) hp
 intro a b ha hb h1 h2
 obtain⟨i,hi,rfl⟩:=mG (hp.subset ha)
 obtain⟨j,hj,rfl⟩:=mG hb
 unfold sv at h1 h2
 simp only at h1 h2
 obtain rfl:i=j:=by omega
 rfl
theorem tu (k:Nat):((kO fr (k+1)).filter fun x=>!BJ (pF fr k).length x).Perm (HK fr k):=by
 have hp:=(kn (fr:=fr) k).filter (fun x=>!BJ (pF fr k).length x)
 rwa[GO]at hp
theorem At (k:Nat):(HK fr k).Pairwise fun a b=>a.u≠b.u:=by
 rw[List.pairwise_iff_getElem]
 intro i j hi hj r6
 simp only[HK,List.getElem_map,List.getElem_range]
 omega
theorem k9 (k:Nat):nF fr≤(ag fr k).m:=EY fr k
def Fl (fr:List Int)(k i:Nat):It:=⟨fF fr i,(((pF fr k).length+i:Nat):Int),i⟩
theorem Je {k i:Nat}(h:i<nF fr):Fl fr k i∈kO fr (k+1):=(kn k).symm.subset (List.mem_append_right _ (o7.2 ⟨i,h,rfl⟩))
theorem MY {k i:Nat}{x:It}(hx:x∈kO fr (k+1))(hi:i<nF fr)(e:x.u=i):x=Fl fr k i:=by
 rcases List.mem_append.1 ((kn k).subset hx)with h|h
 ·obtain⟨j,hj,rfl⟩:=mG h
  have:=k9 (fr:=fr) k
  simp only at e;omega
 ·obtain⟨j,hj,rfl⟩:=o7.1 h
  simp only at e
  subst e;rfl
theorem Jd:∀{k i:Nat}{x:It},x∈kO fr k→i<nF fr→x.u=i→x.w=fF fr i
 |0,_,_,hx,_,_=>by rw[pT]at hx;cases hx
 |k+1,_,_,hx,hi,e=>by rw[MY hx hi e];rfl
theorem RL {i:Nat}(h:i<nF fr):0<fF fr i:=by
 unfold fF
 have:=(fL (iz (d:=0) h)).2
 exact this
theorem sG:∀{k:Nat}{x:It},x∈kO fr k→0<x.w
 |0,_,hx=>by rw[pT]at hx;cases hx
 |k+1,x,hx=>by
  rcases List.mem_append.1 ((kn k).subset hx)with h|h
  ·obtain⟨j,hj,rfl⟩:=mG h
   obtain⟨a,b⟩:=iS (a:=(pF fr k)[j].1) (b:=(pF fr k)[j].2) (l:=kO fr k) (List.getElem_mem hj)
   have:=sG a
   have:=sG b
   show 0<_+_
   omega
  ·obtain⟨i,hi,rfl⟩:=o7.1 h
   exact RL hi
def vF (fr:List Int)(k:Nat)(x:It)(i:Nat):Int:=((ag fr k).us x.u).getD i 0
def uT (fr:List Int)(k t i:Nat):Int:=dh (fun x=>vF fr k x i) ((kO fr k).take t)
def aT (fr:List Int)(k t i:Nat):Int:=jg i ((kO fr k).take t)
def wT (fr:List Int)(k t:Nat):Int:=dh (fun x=>x.w) ((kO fr k).take t)
theorem EF:∀{k i:Nat},i<nF fr→(ag fr k).us i=j9 (nF fr) i
 |0,i,_=>rfl
 |k+1,i,h=>by
  have:=k9 (fr:=fr) k
  show(if i<(ag fr k).m then(ag fr k).us i else _)=_
  rw[if_pos (by omega)];exact EF h
theorem F3 {n k i:Nat}(hi:i<n):(j9 n k).getD i 0=if k=i then 1 else 0:=by
 unfold j9
 simp only[List.getD_eq_getElem?_getD,List.getElem?_set,List.length_replicate]
 by_cases e:k=i
 ·subst e;simp[hi]
 ·rw[if_neg e,if_neg e];simp[hi]
theorem Cl {k:Nat}(g:It→Int)(h:It×It→Int)(Zh:∀j (hj:j<(pF fr k).length),g ⟨(pF fr k)[j].1.w+(pF fr k)[j].2.w,(j:Int),(ag fr k).m+j⟩=h (pF fr k)[j]):∀m,m≤(pF fr k).length→dh g ((qf fr k).take m)=(((pF fr k).take m).map h).sum
 |0,_=>by simp[dh]
 |m+1,hm=>by
  have ih:=Cl g h Zh m (by omega)
  rw[List.take_succ_eq_append_getElem (by rw[fP];omega),List.take_succ_eq_append_getElem (show m<(pF fr k).length by omega),jy,ih,List.map_append,List.sum_append,o5]
  simp only[dh,List.map_cons,List.map_nil,List.sum_cons,List.sum_nil]
  rw[Zh m (by omega)]
theorem K2 (hb:fr.any jk=false)(hl:fr.length≤320){k:Nat}(hk:k≤15){i:Nat}(hi:i<nF fr)(j:Nat)(hj:j<(pF fr k).length):
 vF fr (k+1) ⟨(pF fr k)[j].1.w+(pF fr k)[j].2.w,(j:Int),(ag fr k).m+j⟩ i=vF fr k (pF fr k)[j].1 i+vF fr k (pF fr k)[j].2 i:=by
 have ok:=my hb hl k hk
 obtain⟨⟨y,y1,_,y2⟩,⟨z,z1,_,z2⟩⟩:=rN (L:=(ag fr k).all) (List.getElem_mem hj)
 have l1:=ok.ul (pF fr k)[j].1.u (by rw[←y2];exact(ok.items y y1).1)
 have l2:=ok.ul (pF fr k)[j].2.u (by rw[←z2];exact(ok.items z z1).1)
 have hd:(pF fr k).getD j default=(pF fr k)[j]:=by simp[List.getD_eq_getElem?_getD,hj]
 unfold vF
 have e:(ag fr (k+1)).us ((ag fr k).m+j)=List.zipWith (·+·) ((ag fr k).us (pF fr k)[j].1.u) ((ag fr k).us (pF fr k)[j].2.u):=by
  show(if(ag fr k).m+j<(ag fr k).m then _ else zo (ag fr k).us (pF fr k) ((ag fr k).m+j-(ag fr k).m))=_
  rw[if_neg (by omega),Nat.add_sub_cancel_left]
  unfold zo
  rw[hd]
 show((ag fr (k+1)).us ((ag fr k).m+j)).getD i 0=_
 rw[e]
 simp only[List.getD_eq_getElem?_getD,List.getElem?_zipWith,List.getElem?_eq_getElem (show i<((ag fr k).us (pF fr k)[j].1.u).length by rw[l1];exact hi),List.getElem?_eq_getElem (show i<((ag fr k).us (pF fr k)[j].2.u).length by rw[l2];exact hi),Option.getD_some]
theorem Is (hb:fr.any jk=false)(hl:fr.length≤320){k t:Nat}(hk:k≤15)(ht:t≤(kO fr (k+1)).length):
 ∃m,2*m≤(kO fr k).length∧(t:Int)=m+b8 (nF fr) (aT fr (k+1) t)∧(∀i,i<nF fr→uT fr (k+1) t i=uT fr k (2*m) i+aT fr (k+1) t i)∧
  wT fr (k+1) t=wT fr k (2*m)+b8 (nF fr) (fun i=>fF fr i*aT fr (k+1) t i)∧(∀i,i<nF fr→0≤aT fr (k+1) t i∧aT fr (k+1) t i≤1)∧
  (∀i j,i<nF fr→j<nF fr→fF fr j<fF fr i→aT fr (k+1) t i≤aT fr (k+1) t j)∧(∀i,i<nF fr→aT fr k (2*m) i≤aT fr (k+1) t i):=by
 have hmg:=k9 (fr:=fr) k
 have jY:kO fr (k+1)=(kO fr (k+1)).take t++(kO fr (k+1)).drop t:=(List.take_append_drop _ _).symm
 have hT:((kO fr (k+1)).take t).length=t:=by rw[List.length_take];omega
 generalize Wj:(kO fr (k+1)).take t=T at jY hT
 generalize hDe:(kO fr (k+1)).drop t=D at jY
 generalize hm:(T.filter (BJ (pF fr k).length)).length=m
 generalize Wk:T.filter (fun x=>!BJ (pF fr k).length x)=TL
 have XV:T.filter (BJ (pF fr k).length)=(qf fr k).take m:=by
  rw[←Gj,jY,List.filter_append,←hm,List.take_left]
 have JA:m≤(pF fr k).length:=by
  have:=congrArg List.length XV
  rw[hm,List.length_take,fP]at this
  omega
 have bW:(pF fr k).length=(kO fr k).length/2:=oZ _
 have Nd:∀g:It→Int,dh g T=dh g ((qf fr k).take m)+dh g TL:=by
  intro g
  rw[←Ge (List.filter_append_perm (BJ (pF fr k).length) T),jy,XV,Wk]
 have Ry:∀x∈TL,∃i,i<nF fr∧x=Fl fr k i:=by
  intro x hx
  have h1:x∈(kO fr (k+1)).filter fun x=>!BJ (pF fr k).length x:=by
   rw[jY,List.filter_append,Wk];exact List.mem_append_left _ hx
  exact o7.1 ((tu k).subset h1)
 have Ue:TL.Pairwise fun a b=>a.u≠b.u:=by
  have h1:((kO fr (k+1)).filter fun x=>!BJ (pF fr k).length x).Pairwise fun a b=>a.u≠b.u:=(At k).perm (tu k).symm (fun h=>fun e=>h e.symm)
  rw[jY,List.filter_append,Wk]at h1
  exact(List.pairwise_append.1 h1).1
 have hnp:∀i,i<nF fr→jg i ((qf fr k).take m)=0:=by
  intro i hi
  apply qs
  intro x hx
  obtain⟨j,hj,rfl⟩:=mG (List.mem_of_mem_take hx)
  show(ag fr k).m+j≠i
  omega
 have OK:∀i,i<nF fr→aT fr (k+1) t i=jg i TL:=by
  intro i hi
  have:=Nd (fun x=>if x.u=i then 1 else 0)
  unfold aT
  rw[Wj]
  have h0:=hnp i hi
  unfold jg at h0⊢
  rw[this,h0];omega
 have Ud:∀x∈TL,x.u<nF fr:=by
  intro x hx
  obtain⟨i,hi,rfl⟩:=Ry x hx
  exact hi
 have BP:∀i,i<nF fr→∀y∈T,fF fr i<y.w→1≤aT fr (k+1) t i:=by
  intro i hi y hy hw
  have h1:=Je (fr:=fr) (k:=k) hi
  rw[jY]at h1
  rcases List.mem_append.1 h1 with h1|h1
  ·have:aT fr (k+1) t i=jg i T:=by unfold aT;rw[Wj]
   rw[this]
   exact Bl ⟨_,h1,rfl⟩
  ·exfalso
   have h2:=oS (fr:=fr) (k+1)
   rw[jY]at h2
   have h3:=(List.pairwise_append.1 h2).2.2 y hy _ h1
   unfold sv at h3
   have h4:(Fl fr k i).w=fF fr i:=rfl
   omega
 refine⟨m,by omega,?_,?_,?_,?_,?_,?_⟩
 ·have h1:=Nd (fun _=>1)
  have gE:∀l:List It,dh (fun _=>1) l=l.length:=by
   intro l
   induction l with
   |nil=>rfl
   |cons x l ih=>simp only[dh,ih,List.length_cons];omega
  rw[gE,gE,hT,List.length_take,fP,Nat.min_eq_left JA]at h1
  have h2:=tn (n:=nF fr) (fun _=>1) Ud
  rw[h1,h2,bj (h:=aT fr (k+1) t) fun i hi=>by rw[OK i hi];omega]
 ·intro i hi
  have h1:=Nd (fun x=>vF fr (k+1) x i)
  have h2:=Cl (k:=k) (fun x=>vF fr (k+1) x i) (fun q=>vF fr k q.1 i+vF fr k q.2 i) (K2 hb hl hk hi) m JA
  have h3:=oY (fun x=>vF fr k x i) (kO fr k) m JA
  have h4:dh (fun x=>vF fr (k+1) x i) TL=jg i TL:=by
   refine kU fun x hx=>?_
   obtain⟨j,hj,rfl⟩:=Ry x hx
   show((ag fr (k+1)).us j).getD i 0=if j=i then 1 else 0
   rw[EF hj,F3 hi]
  rw[OK i hi]
  unfold uT
  rw[Wj,h1,h2,h4]
  rw[←h3];rfl
 ·have h1:=Nd (fun x=>x.w)
  have h2:=Cl (k:=k) (fun x=>x.w) (fun q=>q.1.w+q.2.w) (fun _ _=>rfl) m JA
  have h3:=oY (fun x=>x.w) (kO fr k) m JA
  have h4:dh (fun x=>x.w) TL=b8 (nF fr) (fun i=>fF fr i*jg i TL):=by
   rw[←tn (fF fr) Ud]
   refine kU fun x hx=>?_
   obtain⟨j,hj,rfl⟩:=Ry x hx
   rfl
  unfold wT
  rw[Wj,h1,h2,h4,←h3]
  rw[bj (g:=fun i=>fF fr i*aT fr (k+1) t i) (h:=fun i=>fF fr i*jg i TL) fun i hi=>by rw[OK i hi]]
  rfl
 ·intro i hi
  rw[OK i hi]
  exact⟨sW i TL,sX Ue⟩
 ·intro i j hi hj hw
  by_cases h:∃x∈TL,x.u=i
  ·obtain⟨x,hx,e⟩:=h
   have YS:x∈T:=by rw[←Wk]at hx;exact(List.mem_filter.1 hx).1
   have AR:x∈kO fr (k+1):=by rw[jY];exact List.mem_append_left _ YS
   have V2:=Jd AR hi e
   have h1:=BP j hj x YS (by omega)
   rw[OK i hi]
   have:=sX (i:=i) Ue
   omega
  ·rw[OK i hi,qs (fun x hx e=>h ⟨x,hx,e⟩),OK j hj]
   exact sW j TL
 ·intro i hi
  have h0:0≤aT fr (k+1) t i:=by rw[OK i hi];exact sW i TL
  by_cases h:∃x∈(kO fr k).take (2*m),x.u=i
  ·obtain⟨y,hy,e⟩:=h
   have hyw:=Jd (List.mem_of_mem_take hy) hi e
   obtain⟨q,hq,YQ⟩:=wK (kO fr k) m JA hy
   obtain⟨j,hj,rfl⟩:=List.getElem_of_mem hq
   rw[List.length_take]at hj
   have AY:j<(pF fr k).length:=by have:j<min m (pF fr k).length:=hj;omega
   have Zd:j<m:=by omega
   have Jp:(qf fr k).take m=(qf fr k).take m:=rfl
   have QM:(qf fr k)[j]'(by rw[fP];exact AY)∈T:=by
    have:(qf fr k)[j]'(by rw[fP];exact AY)∈(qf fr k).take m:=by
     rw[List.mem_take_iff_getElem]
     exact⟨j,by rw[fP];omega,rfl⟩
    rw[←XV]at this
    exact(List.mem_filter.1 this).1
   have hg:((cg (kO fr k)).take m)[j]=(pF fr k)[j]:=by rw[List.getElem_take];rfl
   rw[hg]at YQ
   obtain⟨a,b⟩:=iS (a:=(pF fr k)[j].1) (b:=(pF fr k)[j].2) (l:=kO fr k) (List.getElem_mem AY)
   have pa:=sG a
   have pb:=sG b
   have h1:=BP i hi _ QM (by
    rw[o5]
    show fF fr i<_+_
    rcases YQ with rfl|rfl<;>omega)
   have h2:aT fr k (2*m) i≤1:=by
    cases k with
    |zero=>simp[aT,pT,jg,dh]
    |succ k=>
     unfold aT
     apply sX
     have h3:(kO fr (k+1)).Pairwise fun a b=>a.u≠b.u:=by
      refine List.Pairwise.perm ?_ (kn k).symm (fun h=>fun e=>h e.symm)
      rw[List.pairwise_append]
      refine⟨?_,At k,?_⟩
      ·rw[List.pairwise_iff_getElem]
       intro i j hi hj r6
       rw[o5 hi,o5 hj]
       show(ag fr k).m+i≠(ag fr k).m+j
       omega
      ·intro a ha b hb
       obtain⟨j,hj,rfl⟩:=mG ha
       obtain⟨i,hi,rfl⟩:=o7.1 hb
       have:=k9 (fr:=fr) k
       show(ag fr k).m+j≠i
       omega
     exact h3.sublist (List.take_sublist _ _)
   omega
  ·have:aT fr k (2*m) i=0:=qs fun x hx e=>h ⟨x,hx,e⟩
   omega
end
end Go.Proofs.Ytibadaomjlkoaaa
open Go.RowKit
namespace Go.Proofs.Ytibadaomjlkoaaa
def wid (k u:Nat):Int:=2^(k+1)-2^(k+1-u)
theorem s8 (k:Nat):wid k 0=0:=by simp[wid]
theorem HU (k u:Nat)(h:u≤k):wid (k+1) (u+1)=2^(k+1)+wid k u:=by
 unfold wid
 rw[show k+1+1-(u+1)=k+1-u by omega,Int.pow_succ (2:Int) (k+1)]
 omega
theorem Ai (n:Nat):(0:Int)<2^n:=by exact_mod_cast Nat.two_pow_pos n
theorem lp {a b:Nat}(h:a≤b):(2:Int)^a≤2^b:=by exact_mod_cast Nat.pow_le_pow_right (by omega) h
theorem H8 {n i j:Nat}{g:Nat→Int}(h:∀x,x<n→0≤g x)(hi:i<n)(hj:j<n)(r6:i≠j):g i+g j≤b8 n g:=by
 rw[←xV g hi,←xV g hj,←mo]
 refine EO fun x hx=>?_
 have:=h x hx
 by_cases e:x=i
 ·rw[if_pos e,if_neg (by omega)];omega
 ·rw[if_neg e];split<;>omega
section
variable{fr:List Int}
structure VO (fr:List Int)(k t:Nat):Prop where
 ub:∀i,i<nF fr→0≤uT fr k t i∧uT fr k t i≤k
 mono:∀i j,i<nF fr→j<nF fr→fF fr j<fF fr i→uT fr k t i≤uT fr k t j
 none:∀i,i<nF fr→aT fr k t i≤0→uT fr k t i=0
 cost:wT fr k t=b8 (nF fr) (fun i=>fF fr i*uT fr k t i)
 width:b8 (nF fr) (fun i=>wid k (uT fr k t i).toNat)=(t:Int)*2^k
theorem Oh (hb:fr.any jk=false)(hl:fr.length≤320):∀k t,k≤15→t≤(kO fr k).length→VO fr k t
 |0,t,_,ht=>by
  rw[pT]at ht
  obtain rfl:t=0:=by simpa using ht
  have hu:∀i,uT fr 0 0 i=0:=fun i=>rfl
  refine⟨fun i _=>by rw[hu];simp,fun i j _ _ _=>by rw[hu,hu];exact Int.le_refl _,fun i _ _=>hu i,?_,?_⟩
  ·rw[bj (h:=fun _=>0) fun i _=>by rw[hu];simp,nx];rfl
  ·rw[bj (h:=fun _=>0) fun i _=>by rw[hu];exact s8 0,nx];simp
 |k+1,t,hk,ht=>by
  obtain⟨m,h1,h2,h3,h4,h5,h6,h7⟩:=Is hb hl (show k≤15 by omega) ht
  have ih:=Oh hb hl k (2*m) (by omega) h1
  refine⟨?_,?_,?_,?_,?_⟩
  ·intro i hi
   have a:=ih.ub i hi
   have b:=h5 i hi
   rw[h3 i hi];omega
  ·intro i j hi hj hw
   have a:=ih.mono i j hi hj hw
   have b:=h6 i j hi hj hw
   rw[h3 i hi,h3 j hj];omega
  ·intro i hi ha
   have a:=h7 i hi
   have b:=h5 i hi
   have c:=ih.none i hi (by omega)
   rw[h3 i hi,c];omega
  ·rw[h4,ih.cost,←mo]
   exact bj fun i hi=>by rw[h3 i hi,Int.mul_add]
  ·have e:∀i,i<nF fr→wid (k+1) (uT fr (k+1) t i).toNat=wid k (uT fr k (2*m) i).toNat+2^(k+1)*aT fr (k+1) t i:=by
    intro i hi
    have a:=ih.ub i hi
    have b:=h5 i hi
    rcases(show aT fr (k+1) t i=0∨aT fr (k+1) t i=1 by omega)with c|c
    ·have d:=ih.none i hi (by have:=h7 i hi;omega)
     rw[h3 i hi,c,d]
     show wid (k+1) 0=wid k 0+_
     rw[s8,s8];simp
    ·rw[h3 i hi,c,show(uT fr k (2*m) i+1).toNat=(uT fr k (2*m) i).toNat+1 by omega,HU k _ (by omega)];omega
   rw[bj e,mo,pQ,ih.width,h2,Int.pow_succ]
   push_cast
   rw[Int.add_mul,Int.mul_comm 2 (m:Int),Int.mul_assoc,Int.mul_comm (2^k*2) (b8 _ _),Int.mul_comm 2 (2^k)]
def iY (fr:List Int)(K i:Nat):Int:=uT fr K (2*nF fr-2) i
theorem ER (k:Nat):(kO fr k).length=(ag fr k).all.length:=Gk _
theorem QC (hb:fr.any jk=false)(hl:fr.length≤320){K:Nat}(h1:1≤K)(rq:K≤15)(hn:2≤nF fr)(hK:nF fr≤2^K):
 (∀i,i<nF fr→1≤iY fr K i∧iY fr K i≤K)∧(∀i j,i<nF fr→j<nF fr→fF fr j<fF fr i→iY fr K i≤iY fr K j)∧
  b8 (nF fr) (fun i=>2^(15-(iY fr K i).toNat))=32768∧wT fr K (2*nF fr-2)=b8 (nF fr) (fun i=>fF fr i*iY fr K i):=by
 have ok:=Oh hb hl K (2*nF fr-2) rq (by rw[ER];exact ld fr h1 hK)
 have hw:=ok.width
 have e1:b8 (nF fr) (fun i=>2^(K+1-(iY fr K i).toNat))=2^(K+1):=by
  have a:b8 (nF fr) (fun i=>wid K (iY fr K i).toNat+2^(K+1-(iY fr K i).toNat))=nF fr*2^(K+1):=by
   rw[bj (h:=fun _=>2^(K+1)*1) fun i _=>by unfold wid;omega,pQ,zO,Int.mul_comm]
  rw[mo]at a
  have b:b8 (nF fr) (fun i=>wid K (iY fr K i).toNat)=((2*nF fr-2:Nat):Int)*2^K:=hw
  rw[b,Int.pow_succ]at a
  rw[Int.pow_succ]
  have c:((2*nF fr-2:Nat):Int)=2*(nF fr:Int)-2:=by omega
  rw[c,Int.sub_mul,Int.mul_comm (2^K) 2,←Int.mul_assoc,Int.mul_comm (nF fr:Int) 2]at a
  omega
 have cK:∀i,i<nF fr→1≤iY fr K i:=by
  intro i hi
  have a:=(ok.ub i hi).1
  rcases Int.lt_or_le 0 (iY fr K i)with h|h
  ·omega
  ·exfalso
   have h0:iY fr K i=0:=Int.le_antisymm h a
   obtain⟨j,hj,r6⟩:∃j,j<nF fr∧i≠j:=by
    by_cases e:i=0
    ·exact⟨1,by omega,by omega⟩
    ·exact⟨0,by omega,e⟩
   have:=H8 (g:=fun i=>(2:Int)^(K+1-(iY fr K i).toNat)) (fun x _=>Int.le_of_lt (Ai _)) hi hj r6
   rw[e1]at this
   simp only[h0]at this
   have p:=Ai (K+1-(iY fr K j).toNat)
   simp only[Int.toNat_zero,Nat.sub_zero]at this
   omega
 refine⟨fun i hi=>⟨cK i hi,(ok.ub i hi).2⟩,ok.mono,?_,ok.cost⟩
 have e2:b8 (nF fr) (fun i=>2*2^(15-(iY fr K i).toNat))=b8 (nF fr) (fun i=>2^(15-K)*2^(K+1-(iY fr K i).toNat)):=by
  refine bj fun i hi=>?_
  have a:=cK i hi
  have b:=(ok.ub i hi).2
  have b':iY fr K i≤K:=b
  rw[←Int.pow_add,show 15-K+(K+1-(iY fr K i).toNat)=(15-(iY fr K i).toNat)+1 by omega,Int.pow_succ,Int.mul_comm]
 rw[pQ,pQ,e1,←Int.pow_add,show 15-K+(K+1)=16 by omega]at e2
 have:(2:Int)^16=65536:=by decide
 omega
end
end Go.Proofs.Ytibadaomjlkoaaa
open Go.RowKit
namespace Go.Proofs.Ytibadaomjlkoaaa
theorem jd (l:List Int)(i j:Nat)(v:Int):(l.set i v).getD j 0=if i=j∧i<l.length then v else l.getD j 0:=by
 simp only[List.getD_eq_getElem?_getD,List.getElem?_set]
 by_cases e:i=j
 ·subst e
  by_cases h:i<l.length
  ·rw[if_pos rfl,if_pos h,if_pos ⟨rfl,h⟩];rfl
  ·rw[if_pos rfl,if_neg h,if_neg (fun x=>h x.2),List.getElem?_eq_none (by omega)]
 ·rw[if_neg e,if_neg (fun x=>e x.1)]
theorem xM (s:Nat)(used:List Nat)(v:Int)(uv out:List Int):pC (s::used) (v::uv) out=pC used uv (out.set s ((out.getD s 0+v%256)%256)):=rfl
theorem pB {s:Nat}:∀{used:List Nat}{uv out:List Int},s∉used→(pC used uv out).getD s 0=out.getD s 0
 |[],_,_,_=>rfl
 |_::_,[],_,_=>by simp[pC]
 |x::used,v::uv,out,h=>by
  rw[xM,pB (fun h'=>h (List.mem_cons_of_mem _ h')),jd,if_neg (fun h'=>h (by rw[h'.1];exact List.mem_cons_self ..))]
theorem BD:∀{used:List Nat}{uv out:List Int}{i:Nat},used.Nodup→(∀s∈used,s<out.length)→used.length=uv.length→i<used.length→
 (pC used uv out).getD (used.getD i 0) 0=(out.getD (used.getD i 0) 0+uv.getD i 0%256)%256
 |[],_,_,i,_,_,_,hi=>by simp at hi
 |_::_,[],_,_,_,_,hl,_=>by simp at hl
 |x::used,v::uv,out,i,hn,hs,hl,hi=>by
  obtain⟨n1,n2⟩:=List.nodup_cons.1 hn
  rw[xM]
  cases i with
  |zero=>
   show(pC used uv _).getD x 0=(out.getD x 0+v%256)%256
   rw[pB n1,jd,if_pos ⟨rfl,hs x (List.mem_cons_self ..)⟩]
  |succ i=>
   have kv:i<used.length:=by simpa using hi
   show(pC used uv _).getD (used.getD i 0) 0=(out.getD (used.getD i 0) 0+uv.getD i 0%256)%256
   rw[BD n2 (fun s h=>by rw[List.length_set];exact hs s (List.mem_cons_of_mem _ h)) (by simpa using hl) kv,jd,if_neg (fun h=>n1 (by rw[h.1];exact iz kv))]
section
variable{fr:List Int}
theorem zF (fr:List Int):(aC fr).Nodup:=by
 unfold aC;exact List.Pairwise.filter _ List.nodup_range
theorem An (hb:fr.any jk=false)(hl:fr.length≤320){K:Nat}(hK:K≤15){i:Nat}(hi:i<nF fr):∀t,t≤(kO fr K).length→(ss fr (ag fr K) ((kO fr K).take t)).getD ((aC fr).getD i 0) 0=uT fr K t i%256
 |0,_=>by
  have hm:=fL (iz (d:=0) hi)
  simp[ss,uT,dh,List.getD_eq_getElem?_getD,List.getElem?_replicate]
  split<;>rfl
 |t+1,ht=>by
  have ih:=An hb hl hK hi t (by omega)
  have hx:(kO fr K)[t]'(by omega)∈kO fr K:=List.getElem_mem _
  obtain⟨y,hy,_,ZT⟩:=gR (L:=(ag fr K).all) hx
  have ok:=my hb hl K hK
  have Fs:=ok.ul _ (ok.items y hy).1
  rw[ZT]at Fs
  have hlen:=tW fr (ag fr K) ((kO fr K).take t)
  rw[List.take_succ_eq_append_getElem (by omega),qU,BD (zF fr) (fun s hs=>by rw[hlen];exact(fL hs).1) Fs.symm hi,ih]
  unfold uT
  rw[List.take_succ_eq_append_getElem (by omega),jy]
  simp only[dh]
  unfold vF
  omega
theorem Ch {r:Row}{s:Nat}(hs:s∉aC fr):∀t:List It,(ss fr r t).getD s 0=0:=by
 intro t
 obtain⟨n,hn⟩:∃n,t.length=n:=⟨_,rfl⟩
 induction n generalizing t with
 |zero=>
  obtain rfl:=List.eq_nil_of_length_eq_zero hn
  simp[ss,List.getD_eq_getElem?_getD,List.getElem?_replicate]
  split<;>rfl
 |succ n ih=>
  rcases List.eq_nil_or_concat t with rfl|⟨t,x,rfl⟩
  ·simp at hn
  ·simp only[List.concat_eq_append]at hn⊢
   rw[qU,pB hs]
   exact ih t (by rw[List.length_append]at hn;simpa using hn)
theorem zE {s:Nat}:s∈aC fr↔s<fr.length∧0<fr.getD s 0:=by
 unfold aC
 simp only[List.mem_filter,List.mem_range,decide_eq_true_eq]
theorem K4 {s:Nat}(h:s∈aC fr):∃i,i<nF fr∧(aC fr).getD i 0=s:=by
 obtain⟨i,hi,e⟩:=List.getElem_of_mem h
 exact⟨i,hi,by rw[List.getD_eq_getElem?_getD,List.getElem?_eq_getElem hi];exact e⟩
theorem rG (p:Nat→Bool)(g:Nat→Int):∀N,b8 N (fun s=>if p s=true then g s else 0)=b8 ((List.range N).filter p).length (fun i=>g (((List.range N).filter p).getD i 0))
 |0=>rfl
 |N+1=>by
  simp only[b8]
  rw[rG p g N,List.range_succ,List.filter_append]
  by_cases h:p N=true
  ·rw[if_pos h,List.filter_cons_of_pos h,List.filter_nil,List.length_append]
   show _=b8 (((List.range N).filter p).length+1) _
   simp only[b8]
   rw[show(((List.range N).filter p)++[N]).getD ((List.range N).filter p).length 0=N by simp[List.getD_eq_getElem?_getD]]
   congr 1
   exact bj fun i hi=>by simp[List.getD_eq_getElem?_getD,List.getElem?_append_left hi]
  ·rw[if_neg h,List.filter_cons_of_neg h,List.filter_nil,List.append_nil];omega
theorem ny (g:Nat→Int):b8 fr.length (fun s=>if 0<fr.getD s 0 then g s else 0)=b8 (nF fr) (fun i=>g ((aC fr).getD i 0)):=by
 have:=rG (fun i=>decide (0<fr.getD i 0)) g fr.length
 simp only[decide_eq_true_eq]at this
 exact this
structure gY (fr:List Int)(K:Nat)(l:List Int):Prop where
 len:l.length=fr.length
 pos:∀s,s<fr.length→0<fr.getD s 0→1≤l.getD s 0∧l.getD s 0≤K
 zero:∀s,s<fr.length→¬0<fr.getD s 0→l.getD s 0=0
 one:nF fr=1→∀s,l.getD s 0≤1
 mono:∀i k,i<fr.length→k<fr.length→fr.getD k 0<fr.getD i 0→0<fr.getD k 0→l.getD i 0≤l.getD k 0
 Tc:2≤nF fr→b8 fr.length (fun s=>if 0<fr.getD s 0 then 2^(15-(l.getD s 0).toNat)else 0)=32768
 cost:2≤nF fr→b8 fr.length (fun s=>if 0<fr.getD s 0 then fr.getD s 0*l.getD s 0 else 0)=wT fr K (2*nF fr-2)
theorem tM (n s:Nat):(List.replicate n (0:Int)).getD s 0=0:=by
 simp[List.getD_eq_getElem?_getD,List.getElem?_replicate]
 split<;>rfl
theorem MW (hb:fr.any jk=false)(hl:fr.length≤320){K:Nat}(h1:1≤K)(rq:K≤15)(hK:nF fr≤2^K):gY fr K (bw fr K):=by
 have Tp:∀s,s<fr.length→0<fr.getD s 0→∃i,i<nF fr∧(aC fr).getD i 0=s:=fun s a b=>K4 (zE.2 ⟨a,b⟩)
 rcases(show nF fr=0∨nF fr=1∨2≤nF fr by omega)with hn|hn|hn
 ·have rY:∀s,s<fr.length→¬0<fr.getD s 0:=by
   intro s a b
   obtain⟨i,hi,_⟩:=Tp s a b
   omega
  rw[xf K hn]
  exact⟨by simp,fun s a b=>absurd b (rY s a),fun s _ _=>tM _ _,fun h=>by omega,fun i k hi hk _ h=>absurd h (rY k hk),fun h=>by omega,fun h=>by omega⟩
 ·rw[AJ K hn]
  have BP:∀s,s<fr.length→0<fr.getD s 0→(aC fr).getD 0 0=s:=by
   intro s a b
   obtain⟨i,hi,e⟩:=Tp s a b
   obtain rfl:i=0:=by omega
   exact e
  have hm:=fL (iz (l:=aC fr) (j:=0) (d:=0) (by have:(aC fr).length=1:=hn;omega))
  refine⟨by simp,?_,?_,?_,?_,fun h=>by omega,fun h=>by omega⟩
  ·intro s a b
   rw[jd,if_pos ⟨BP s a b,by rw[List.length_replicate];exact hm.1⟩];omega
  ·intro s a b
   rw[jd,if_neg (fun e=>b (by rw[←e.1];exact hm.2)),tM]
  ·intro _ s
   rw[jd,tM];split<;>omega
  ·intro i k hi hk h1 h2
   have e1:=BP i hi (by omega)
   have e2:=BP k hk h2
   rw[←e1,←e2];exact Int.le_refl _
 ·obtain⟨a1,a2,a3,a4⟩:=QC hb hl h1 rq hn hK
  have hlen:(bw fr K).length=fr.length:=uk fr K
  have ht:2*nF fr-2≤(kO fr K).length:=by rw[ER];exact ld fr h1 hK
  have cq:∀i,i<nF fr→(bw fr K).getD ((aC fr).getD i 0) 0=iY fr K i:=by
   intro i hi
   rw[uj K hn]
   have:=An hb hl rq hi (2*nF fr-2) ht
   have b:=a1 i hi
   refine Eq.trans this ?_
   show iY fr K i%256=iY fr K i
   omega
  refine⟨hlen,?_,?_,fun h=>by omega,?_,fun _=>?_,fun _=>?_⟩
  ·intro s a b
   obtain⟨i,hi,rfl⟩:=Tp s a b
   rw[cq i hi];exact a1 i hi
  ·intro s a b
   rw[uj K hn]
   exact Ch (fun h=>b (zE.1 h).2) _
  ·intro i k hi hk hw hp
   obtain⟨i',kv,rfl⟩:=Tp i hi (by omega)
   obtain⟨k',mQ,rfl⟩:=Tp k hk hp
   rw[cq i' kv,cq k' mQ]
   exact a2 i' k' kv mQ hw
  ·rw[ny (fun s=>2^(15-((bw fr K).getD s 0).toNat)),←a3]
   exact bj fun i hi=>by rw[cq i hi]
  ·rw[ny (fun s=>fr.getD s 0*(bw fr K).getD s 0),a4]
   exact bj fun i hi=>by rw[cq i hi];rfl
end
end Go.Proofs.Ytibadaomjlkoaaa
open Go.RowKit
namespace Go.Proofs.Ytibadaomjlkoaaa
end Go.Proofs.Ytibadaomjlkoaaa
open Go.RowKit
namespace Go.Proofs.Ytibadaomjlkoaaa
set_option maxRecDepth 10000
section
variable{M:AH}{K Kp:AV→AH→Prop}
theorem HY {ir ib im it g c a:Nat}{xs:List Int}{es:List ((Int×Int)×Int)}(h1:M[ir]?=some (ro ib g c xs a))(h2:M[ib]?=some (rb g c xs))(h3:M[im]?=some (.one true 0 (.map (.pair .i64 .i64) (lA es))))(h4:M[it]?=some (.one true 0 (.cells [.mp im 0])))
 (pG:(bL [.own ir,.own ib,.own im,.own it]&&AV.pE [.own ir,.own ib,.own im,.own it] [.ptr 3 0 0,.ptr 0 0 0])=true)
 (hb:xs.length≤1000000)(ha:a≤8*xs.length)(AR:∀x∈xs,0≤x∧x<256)(mf:∀k z,bS k es=some z→k.2≤15)
 (h:K (.aL [.int .i64 (eL es (unpack xs) a).1,.int .i64 (eL es (unpack xs) a).2.2]) ((((M.set ir (ro ib g c xs (eL es (unpack xs) a).2.1)).set ib (rb g c xs)).set im (.one true 0 (.map (.pair .i64 .i64) (lA es)))).set it (.one true 0 (.cells [.mp im 0])))):
 aa Try.prog 101 [.ptr it 0 0,.ptr ir 0 0] M K Kp:=by
 refine aa.lift [.own ir,.own ib,.own im,.own it] (BT (xs:=xs) (g:=g) (c:=c) (es:=es) (a:=a) (K:=fun r M=>r=.aL [.int .i64 (eL es (unpack xs) a).1,.int .i64 (eL es (unpack xs) a).2.2]∧M=F6 g c xs (eL es (unpack xs) a).2.1 es) (Kp:=fun _ _=>False) hb ha AR mf ⟨rfl,rfl⟩) rfl pG
  ⟨⟨h1,rfl⟩,⟨h2,rfl⟩,⟨by rw[h3];show some _=some (AO.one true 0 ((af.map (.pair .i64 .i64) (lA es)).rn _ _));rw[jJ],rfl⟩,⟨h4,rfl⟩,trivial⟩ ⟨rfl,trivial,wW _ (.pair .i64 .i64) es,rfl,trivial⟩ ?_ (fun _ _ h=>h.elim)
 rintro r M' ⟨rfl,rfl⟩
 refine⟨⟨rfl,rfl,rfl,rfl,rfl⟩,?_⟩
 rw[←jJ [.own ir,.own ib,.own im,.own it] M.length (.pair .i64 .i64) es,←List.append_nil ((((M.set ir _).set ib _).set im _).set it _)]at h
 exact h
end
end Go.Proofs.Ytibadaomjlkoaaa
