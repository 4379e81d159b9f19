import Derived.Test.YtibadaomjlkoaaaGb
set_option linter.unusedVariables false
set_option linter.unusedSimpArgs false
open Go.RowKit
namespace Go.Proofs.Ytibadaomjlkoaaa
def mR:Nat→AH→List TE
 |_,[]=>[]
 |j,o::M=>(if o.ec then TE.own j else TE.dE j)::mR (j+1) M
theorem Av:∀(M:AH)(j k:Nat),k<M.length→(mR j M)[k]?=some (.own (j+k))∨(mR j M)[k]?=some (.dE (j+k))
 |o::M,j,0,_=>by
  simp only[mR,List.getElem?_cons_zero,Nat.add_zero]
  split
  ·exact .inl rfl
  ·exact .inr rfl
 |o::M,j,k+1,h=>by
  have:=Av M (j+1) k (by simpa using h)
  simp only[mR,List.getElem?_cons_succ]
  rw[show j+(k+1)=j+1+k by omega]
  exact this
theorem Hv:∀(M:AH)(j:Nat),∀e∈mR j M,j≤e.i
 |[],_,e,h=>by cases h
 |o::M,j,e,h=>by
  simp only[mR,List.mem_cons]at h
  rcases h with rfl|h
  ·split<;>exact Nat.le_refl _
  ·have:=Hv M (j+1) e h;omega
theorem sO:∀(M:AH)(j:Nat),bu (mR j M)=true
 |[],_=>rfl
 |o::M,j=>by
  simp only[mR,bu,Bool.and_eq_true,List.all_eq_true]
  refine⟨fun e' he=>?_,sO M (j+1)⟩
  have h1:=Hv M (j+1) e' he
  have h2:Nat.beq (if o.ec then TE.own j else TE.dE j).i e'.i=false:=by
   have h3:(if o.ec then TE.own j else TE.dE j).i=j:=by split<;>rfl
   rw[h3]
   cases hb:Nat.beq j e'.i with
   |false=>rfl
   |true=>have:=Nat.eq_of_beq_eq_true hb;omega
  rw[h2]
  simp
theorem Au {M:AH}{m i:Nat}(h:Nat.blt i M.length=true):sr (mR 0 M) m i=i∧(∀g,uB (mR 0 M) i g=g)∧(∀f,uC (mR 0 M) i f=f)∧∀g,QI (mR 0 M) i g=true:=by
 have hl:i<M.length:=by simpa using h
 unfold sr uB uC QI
 rcases Av M 0 i hl with e|e<;>rw[e]<;>simp[TE.i]
mutual
theorem pQ {M:AH}{m:Nat}:∀v:AV,v.nb M.length=true→v.rn (mR 0 M) m=v∧v.w0 (mR 0 M)=true
 | .ptr i g off=>fun h=>by simp only[AV.nb]at h;obtain⟨h1,h2,h3,h4⟩:=Au (m:=m) h;simp[AV.rn,AV.w0,h1,h2,h3,h4]
 | .nI i g _ _ off=>fun h=>by simp only[AV.nb]at h;obtain⟨h1,h2,h3,h4⟩:=Au (m:=m) h;simp[AV.rn,AV.w0,h1,h2,h3,h4]
 | .sl i g off _ _=>fun h=>by simp only[AV.nb]at h;obtain⟨h1,h2,h3,h4⟩:=Au (m:=m) h;simp[AV.rn,AV.w0,h1,h2,h3,h4]
 | .mp i g=>fun h=>by simp only[AV.nb]at h;obtain⟨h1,h2,h3,h4⟩:=Au (m:=m) h;simp[AV.rn,AV.w0,h1,h2,h3,h4]
 | .fn _ a b=>fun h=>by
   simp only[AV.nb,Bool.and_eq_true]at h
   obtain⟨h1,h2⟩:=nT (m:=m) a h.1
   obtain⟨h3,h4⟩:=nT (m:=m) b h.2
   simp[AV.rn,AV.w0,h1,h2,h3,h4]
 | .jZ _ v=>fun h=>by simp only[AV.nb]at h;obtain⟨h1,h2⟩:=pQ (m:=m) v h;simp[AV.rn,AV.w0,h1,h2]
 | .agg l=>fun h=>by simp only[AV.nb]at h;obtain⟨h1,h2⟩:=nT (m:=m) l h;simp[AV.rn,AV.w0,h1,h2]
 | .aE l=>fun h=>by simp only[AV.nb]at h;obtain⟨h1,h2⟩:=nT (m:=m) l h;simp[AV.rn,AV.w0,h1,h2]
 | .bo _=>fun _=>⟨rfl,rfl⟩| .tt=>fun _=>⟨rfl,rfl⟩| .ff=>fun _=>⟨rfl,rfl⟩| .int _ _=>fun _=>⟨rfl,rfl⟩| .str _=>fun _=>⟨rfl,rfl⟩
 | .np=>fun _=>⟨rfl,rfl⟩| .ns=>fun _=>⟨rfl,rfl⟩| .nf=>fun _=>⟨rfl,rfl⟩| .ni=>fun _=>⟨rfl,rfl⟩| .nm=>fun _=>⟨rfl,rfl⟩| .raw _=>fun _=>⟨rfl,rfl⟩
theorem nT {M:AH}{m:Nat}:∀l:List AV,AV.qi M.length l=true→AV.mX (mR 0 M) m l=l∧AV.nq (mR 0 M) l=true
 |[]=>fun _=>⟨rfl,rfl⟩
 |v::l=>fun h=>by
  simp only[AV.qi,Bool.and_eq_true]at h
  obtain⟨h1,h2⟩:=pQ (m:=m) v h.1
  obtain⟨h3,h4⟩:=nT (m:=m) l h.2
  simp[AV.mX,AV.nq,h1,h2,h3,h4]
end
theorem Hw {M:AH}{m:Nat}{x:af}(h:x.nb M.length):x.rn (mR 0 M) m=x∧x.w0 (mR 0 M):=by
 cases x with
 |cells cs=>exact⟨by simp[af.rn,nT cs h],(nT (m:=m) cs h).2⟩
 |ints _ _ _=>exact⟨rfl,trivial⟩
 |ax _ _=>exact⟨rfl,trivial⟩
 |cw sz n get c=>exact⟨by simp only[af.rn];congr 1;funext j;exact(nT _ (h j)).1,fun j=>(nT (m:=m) _ (h j)).2⟩
 |map kk es=>
  refine⟨?_,fun p hp=>(pQ (m:=m) _ (h p hp)).2⟩
  simp only[af.rn]
  congr 1
  conv=>rhs;rw[←List.map_id es]
  refine List.map_congr_left fun p hp=>?_
  rw[(pQ (m:=m) _ (h p hp)).1];rfl
 |loop l st pd fn n a ps asg bd df=>exact⟨by simp only[af.rn];congr 1;funext j;exact(pQ _ (h j)).1,fun j=>(pQ (m:=m) _ (h j)).2⟩
theorem Ly {M:AH}{m:Nat}{o:AO}(h:o.nb M.length):o.rn (mR 0 M) m=o∧o.w0 (mR 0 M):=by
 cases o with
 |gone=>exact⟨rfl,trivial⟩
 |one own g x=>exact⟨by simp only[AO.rn];rw[(Hw (m:=m) h).1],(Hw (m:=m) h).2⟩
 |aX own n x=>exact⟨by simp only[AO.rn];congr 1;funext j;exact(Hw (m:=m) (h j)).1,fun j=>(Hw (m:=m) (h j)).2⟩
theorem Lx {M:AH}:∀{M1:AH},kq M.length M1→RY (mR 0 M) M1
 |[],_=>trivial
 |o::M1,h=>⟨(Ly (m:=0) h.1).2,Lx h.2⟩
theorem Aw {M E:AH}{m:Nat}:∀{M1 M0:AH},kq M.length M1→(∀o∈M1,(o.ec||(o.DB&&!o.ec))=true)→wA (mR 0 M) m (M0++(M1++E)) (mR M0.length M1) M1
 |[],_,_,_=>trivial
 |o::M1,M0,h,ht=>by
  have hg:(M0++(o::M1++E))[M0.length]?=some o:=by rw[List.getElem?_append_right (Nat.le_refl _)];simp
  have hr:=(Ly (m:=m) h.1).1
  have ih:=Aw (E:=E) (m:=m) (M1:=M1) (M0:=M0++[o]) h.2 (fun o' ho=>ht o' (List.mem_cons_of_mem _ ho))
  rw[List.append_assoc,List.length_append]at ih
  have hto:=ht o (List.mem_cons_self ..)
  simp only[mR]
  cases ho:o.ec with
  |true=>
   rw[if_pos rfl]
   refine⟨⟨by rw[hr];exact hg,?_⟩,ih⟩
   cases o with
   |gone=>rfl
   |one own g x=>cases own<;>first|rfl|cases ho
   |aX own n x=>cases own<;>first|rfl|cases ho
  |false=>
   rw[if_neg (by simp)]
   rw[ho]at hto
   refine⟨⟨by simpa using hto,o,hg,?_⟩,ih⟩
   rw[hr]
   cases o with
   |gone=>rfl
   |one own g x=>cases own<;>first|rfl|cases ho
   |aX own n x=>cases own<;>first|rfl|cases ho
theorem At {M E:AH}{m:Nat}:∀{M1 M' M0:AH},kq M.length M'→M'.length=M1.length→mQ (mR M0.length M1) M1 M'→dw (mR 0 M) m (mR M0.length M1) M' (M0++(M1++E))=M0++(M'++E)
 |[],[],M0,_,_,_=>by simp[mR,dw,QN]
 |[],_::_,_,_,hl,_=>by simp at hl
 |_::_,[],_,_,hl,_=>by simp at hl
 |o::M1,o'::M',M0,hn,hl,hk=>by
  have ih:=fun q=>At (M:=M) (E:=E) (m:=m) (M1:=M1) (M':=M') (M0:=M0++[o']) hn.2 (by simpa using hl) q
  rw[List.append_assoc,List.length_append,List.append_assoc]at ih
  simp only[mR]at hk⊢
  cases ho:o.ec with
  |true=>
   rw[ho,if_pos rfl]at hk
   rw[if_pos rfl]
   simp only[dw,mQ]at hk⊢
   rw[(Ly (m:=m) hn.1).1]
   have e:(M0++(o::M1++E)).set M0.length o'=M0++(o'::M1++E):=by
    rw[List.set_append_right _ _ (Nat.le_refl _)];simp
   rw[e]
   exact ih hk.2
  |false=>
   rw[ho,if_neg (by simp)]at hk
   rw[if_neg (by simp)]
   simp only[dw,mQ]at hk⊢
   obtain⟨rfl,hk⟩:=hk
   exact ih hk
theorem aa.frame (E:AH){P:Program}{g:Nat}{args:List AV}{M:AH}{K0 Y4:AV→AH→Prop}(h:aa P g args M K0 Y4){K Kp:AV→AH→Prop}
 (ha:AV.qi M.length args=true)(hM:kq M.length M)(ht:∀o∈M,(o.ec||(o.DB&&!o.ec))=true)
 (hK:∀r M',K0 r M'→M'.length=M.length∧mQ (mR 0 M) M M'∧kq M.length M'∧r.nb M.length=true∧K r (M'++E))
 (Xn:∀r M',Y4 r M'→M'.length=M.length∧mQ (mR 0 M) M M'∧kq M.length M'∧r.nb M.length=true∧Kp r (M'++E)):aa P g args (M++E) K Kp:=by
 refine aa.lift (mR 0 M) h (nT args ha).1 (by rw[sO];simp[nT (m:=0) args ha]) (Aw (M0:=[]) hM ht) (Lx hM) (fun r M' hk=>?_) (fun r M' hk=>?_)
 ·obtain⟨h1,h2,h3,h4,h5⟩:=hK r M' hk
  refine⟨h2,?_⟩
  rw[(pQ r h4).1,show dw (mR 0 M) (M++E).length (mR 0 M) M' (M++E)=M'++E from At (M0:=[]) h3 h1 h2]
  exact h5
 ·obtain⟨h1,h2,h3,h4,h5⟩:=Xn r M' hk
  refine⟨h2,?_⟩
  rw[(pQ r h4).1,show dw (mR 0 M) (M++E).length (mR 0 M) M' (M++E)=M'++E from At (M0:=[]) h3 h1 h2]
  exact h5
end Go.Proofs.Ytibadaomjlkoaaa
open Go.RowKit
namespace Go.Proofs.Ytibadaomjlkoaaa
mutual
def iE (k:Nat):AV→AV→Prop
 | .agg l,v'=>(∃l',v'=.agg l'∧wR k l l')
 | .aE l,v'=>(∃l',v'=.aE l'∧wR k l l')
 | .ns,v'=>v'=.ns∨v'=.sl k 0 0 0 0
 | .ff,v'=>v'=.ff∨v'=.bo false
 | .tt,v'=>v'=.tt∨v'=.bo true
 |v,v'=>v'=v
def wR (k:Nat):List AV→List AV→Prop
 |[],l'=>l'=[]
 |v::l,l'=>∃v1 l1,l'=v1::l1∧iE k v v1∧wR k l l1
end
mutual
theorem Ry {ρ ρ':Env}{k:Nat}(hE:∀i g l,ρ i g=some l→ρ' i g=some l)(hk:ρ' k 0=some none):∀v v':AV,iE k v v'→v.ok ρ→v'.c ρ'=v.c ρ∧v'.ok ρ'
 | .agg l,v'=>fun h aF=>by
   simp only[iE]at h
   obtain⟨l',rfl,h⟩:=h
   obtain⟨h1,h2⟩:=HR hE hk l l' h aF
   exact⟨by simp only[AV.c,h1],h2⟩
 | .aE l,v'=>fun h aF=>by
   simp only[iE]at h
   obtain⟨l',rfl,h⟩:=h
   obtain⟨h1,h2⟩:=HR hE hk l l' h aF
   exact⟨by simp only[AV.c,h1],h2⟩
 | .ns,v'=>fun h aF=>by
   simp only[iE]at h
   rcases h with rfl|rfl
   ·exact⟨rfl,trivial⟩
   ·exact⟨by simp[AV.c,hk],by simp[AV.ok,hk]⟩
 | .ff,v'=>fun h aF=>by
   simp only[iE]at h
   rcases h with rfl|rfl<;>exact⟨rfl,trivial⟩
 | .tt,v'=>fun h aF=>by
   simp only[iE]at h
   rcases h with rfl|rfl<;>exact⟨rfl,trivial⟩
 | .ptr ..,v'=>fun h aF=>by simp only[iE]at h;subst h;exact⟨AV.dr hE _ aF,AV.cW hE _ aF⟩
 | .nI ..,v'=>fun h aF=>by simp only[iE]at h;subst h;exact⟨AV.dr hE _ aF,AV.cW hE _ aF⟩
 | .sl ..,v'=>fun h aF=>by simp only[iE]at h;subst h;exact⟨AV.dr hE _ aF,AV.cW hE _ aF⟩
 | .mp ..,v'=>fun h aF=>by simp only[iE]at h;subst h;exact⟨AV.dr hE _ aF,AV.cW hE _ aF⟩
 | .fn ..,v'=>fun h aF=>by simp only[iE]at h;subst h;exact⟨AV.dr hE _ aF,AV.cW hE _ aF⟩
 | .jZ ..,v'=>fun h aF=>by simp only[iE]at h;subst h;exact⟨AV.dr hE _ aF,AV.cW hE _ aF⟩
 | .bo _,v'=>fun h aF=>by simp only[iE]at h;subst h;exact⟨rfl,trivial⟩
 | .int _ _,v'=>fun h aF=>by simp only[iE]at h;subst h;exact⟨rfl,trivial⟩
 | .str _,v'=>fun h aF=>by simp only[iE]at h;subst h;exact⟨rfl,trivial⟩
 | .np,v'=>fun h aF=>by simp only[iE]at h;subst h;exact⟨rfl,trivial⟩
 | .nf,v'=>fun h aF=>by simp only[iE]at h;subst h;exact⟨rfl,trivial⟩
 | .ni,v'=>fun h aF=>by simp only[iE]at h;subst h;exact⟨rfl,trivial⟩
 | .nm,v'=>fun h aF=>by simp only[iE]at h;subst h;exact⟨rfl,trivial⟩
 | .raw _,v'=>fun h aF=>by simp only[iE]at h;subst h;exact⟨rfl,trivial⟩
theorem HR {ρ ρ':Env}{k:Nat}(hE:∀i g l,ρ i g=some l→ρ' i g=some l)(hk:ρ' k 0=some none):∀l l':List AV,wR k l l'→AV.eb ρ l→AV.cl ρ' l'=AV.cl ρ l∧AV.eb ρ' l'
 |[],l'=>fun h _=>by simp only[wR]at h;subst h;exact⟨rfl,trivial⟩
 |v::l,l'=>fun h aF=>by
  simp only[wR]at h
  obtain⟨v1,l1,rfl,h1,h2⟩:=h
  obtain⟨a1,a2⟩:=Ry hE hk v v1 h1 aF.1
  obtain⟨b1,b2⟩:=HR hE hk l l1 h2 aF.2
  exact⟨by simp only[AV.cl,a1,b1],a2,b2⟩
end
theorem Vw.canon {M:AH}{x:af}{l l':List AV}(hx:x.b9)(hl:wR M.length l l'):Vw M (M++[.one true 0 x]) l l':=by
 intro ρ w hs aF
 obtain⟨h1,h2⟩:=hJ (x:=x) (l:=none) (w':=w) hs (fun _ _=>rfl) (Nat.le_refl _) rfl rfl rfl (.inr ⟨rfl,hx⟩)
 obtain⟨k1,k2⟩:=HR h2.env (ay ..) l l' hl aF
 exact⟨_,h1,h2,k1,k2⟩
mutual
theorem iB (k:Nat):∀v:AV,iE k v v
 | .agg l=>by simp only[iE];exact⟨l,rfl,wQ k l⟩
 | .aE l=>by simp only[iE];exact⟨l,rfl,wQ k l⟩
 | .ns=>by simp[iE]
 | .ff=>by simp[iE]
 | .tt=>by simp[iE]
 | .ptr ..=>by simp[iE]| .nI ..=>by simp[iE]| .sl ..=>by simp[iE]| .mp ..=>by simp[iE]| .fn ..=>by simp[iE]| .jZ ..=>by simp[iE]
 | .bo _=>by simp[iE]| .int _ _=>by simp[iE]| .str _=>by simp[iE]| .np=>by simp[iE]| .nf=>by simp[iE]| .ni=>by simp[iE]| .nm=>by simp[iE]| .raw _=>by simp[iE]
theorem wQ (k:Nat):∀l:List AV,wR k l l
 |[]=>by simp[wR]
 |v::l=>by simp only[wR];exact⟨v,l,rfl,iB k v,wQ k l⟩
end
theorem HP (k:Nat):∀l l':List AV,wR k l l'→l'.length=l.length
 |[],l',h=>by simp only[wR]at h;subst h;rfl
 |v::l,l',h=>by
  simp only[wR]at h
  obtain⟨v1,l1,rfl,_,h2⟩:=h
  simp[HP k l l1 h2]
theorem HQ (k:Nat):∀(l l':List AV),wR k l l'→∀(j:Nat)(v':AV),l'[j]?=some v'→∃v,l[j]?=some v∧iE k v v'
 |[],l',h,j,v',hj=>by simp only[wR]at h;subst h;simp at hj
 |v::l,l',h,j,v',hj=>by
  simp only[wR]at h
  obtain⟨v1,l1,rfl,h1,h2⟩:=h
  cases j with
  |zero=>simp at hj;subst hj;exact⟨v,rfl,h1⟩
  |succ j=>simpa using HQ k l l1 h2 j v' (by simpa using hj)
theorem Vw.cells {M:AH}{i g:Nat}{cs Mw:List AV}{x:af}{l:List AV}(hm:M[i]?=some (.one true g (.cells cs)))(hc:wR M.length cs Mw)(hx:x.b9):
 Vw M (M.set i (.one true g (.cells Mw))++[.one true 0 x]) l l:=by
 intro ρ w hs aF
 have bh:i<M.length:=(List.getElem?_eq_some_iff.1 hm).1
 obtain⟨h1,h2⟩:=hJ (x:=x) (l:=none) (w':=w) hs (fun _ _=>rfl) (Nat.le_refl _) rfl rfl rfl (.inr ⟨rfl,hx⟩)
 have TY:(M++[AO.one true 0 x])[i]?=some (.one true g (.cells cs)):=by rw[List.getElem?_append_left bh];exact hm
 obtain⟨h3,h4⟩:=lU (x':=.cells Mw) h1 TY
  (by simp[af.size,HP _ _ _ hc]) (fun j v' rS=>by
   simp only[af.at]at rS⊢
   obtain⟨v,hv,hcv⟩:=HQ _ _ _ hc j v' rS
   refine⟨v,hv,?_⟩
   rcases h1.holds i g true (.cells cs) (ao TY)with⟨q,e1,e2⟩|⟨_,e2⟩
   ·obtain⟨c,e,fr,k1,k2,k3,k4⟩:=e2.out rfl
    exact Ry (fun _ _ _ h=>h) (ay ..) v v' hcv (k3 j v hv).1
   ·exact e2.elim) (fun h=>h.elim)
 rw[tv _ _ _ _ bh]at h3 h4
 refine⟨_,h3,h2.trans h4,?_,AV.hU h2.env l aF⟩
 exact AV.kM h2.env l aF
theorem ee (k:Nat):wR k [] []:=by simp only[wR]
theorem bL {k:Nat}{v v':AV}{l l':List AV}(h:iE k v v')(h':wR k l l'):wR k (v::l) (v'::l'):=by simp only[wR];exact⟨_,_,rfl,h,h'⟩
theorem mF {k:Nat}{l l':List AV}(h:wR k l l'):iE k (.aE l) (.aE l'):=by simp only[iE];exact⟨_,rfl,h⟩
structure RG (a:Nat)(r:AV)(M':AH)(t:List TE)(r':AV)(N:AH):Prop where
 fit:wA t M'.length M' t N
 chk:(bu t&&r'.w0 t)=true
 w0:RY t N
 val:r'.rn t M'.length=r
 old:∀i,i<a→t[i]?=some (.own i)∨t[i]?=some (.dE i)
theorem aa.cQ {P:Program}{g:Nat}{args:List AV}{M:AH}{K Kp:AV→AH→Prop}(h:aa P g args M (fun r M'=>∃t r' N,RG M.length r M' t r' N∧K r' N) Kp):aa P g args M K Kp:=by
 unfold aa at*
 refine⟨h.1,fun ρ w hs aF=>Calls.mono (h.2 ρ w hs aF) fun e w' he=>?_⟩
 obtain⟨ρ',M',h1,h2,h3⟩:=he
 cases e with
 |returned v=>
  obtain⟨r,e1,e2,t,r',N,p,k⟩:=h3
  have hc:=p.chk
  simp only[Bool.and_eq_true]at hc
  have s1:=wY h1 hc.1 p.fit p.w0
  have o1:r'.ok (cF t ρ'):=oP r' hc.2 (by rw[p.val];exact e2)
  have c1:=(sq (wE (m:=M'.length)) r' o1).2
  rw[p.val]at c1
  refine⟨cF t ρ',N,s1,⟨?_,h2.size,h2.frame,?_,h2.os,h2.tape,h2.output⟩,r',by rw[←c1];exact e1,o1,k⟩
  ·intro i g l hl
   have hi:=hs.pr i g (by rw[hl];rfl)
   have:=h2.env i g l hl
   unfold cF
   rcases p.old i hi with e|e<;>rw[e]<;>exact this
  ·intro i g x q de hq hb
   obtain⟨i',_,a2,a3⟩:=jV p.fit de hq
   exact h2.fresh i' g _ q a2 a3 hb
 |panicked ch=>
  obtain⟨r,e1,e2,e3⟩:=h3
  exact⟨ρ',M',h1,h2,r,e1,e2,e3⟩
 |outgrown=>exact h3.elim
theorem bV {M E:AH}{r:AV}(hn:kq M.length M)(ht:∀o∈M,(o.ec||(o.DB&&!o.ec))=true)(hr:r.nb M.length=true):RG M.length r (M++E) (mR 0 M) r M:=by
 refine⟨Aw (M0:=[]) (M1:=M) (E:=E) hn ht,?_,Lx hn,(pQ r hr).1,fun i hi=>?_⟩
 ·rw[sO,(pQ (m:=0) r hr).2];rfl
 ·rcases Av M 0 i hi with e|e
  ·exact .inl (by rw[e,Nat.zero_add])
  ·exact .inr (by rw[e,Nat.zero_add])
end Go.Proofs.Ytibadaomjlkoaaa
open Go.RowKit
namespace Go.Proofs.Ytibadaomjlkoaaa
def mW (n i g off:Nat):List TE:=(List.range n).map TE.own++[.cP i g off]
theorem Nz {n i g off j:Nat}(h:j<n):(mW n i g off)[j]?=some (.own j):=by
 unfold mW
 rw[List.getElem?_append_left (by simpa using h)]
 simp[h]
theorem GQ {n i g off:Nat}:(mW n i g off)[n]?=some (.cP i g off):=by
 unfold mW
 rw[List.getElem?_append_right (by simp)]
 simp
theorem NA {n i g off j:Nat}(h:n<j):(mW n i g off)[j]?=none:=by
 unfold mW
 rw[List.getElem?_eq_none (by simp;omega)]
theorem kA {ρ:Env}{n i g off j:Nat}(h:j<n)(g':Nat):cF (mW n i g off) ρ j g'=ρ j g':=by unfold cF;rw[Nz h]
theorem HN {ρ:Env}{n i g off:Nat}:cF (mW n i g off) ρ n 0=(ρ i g).map (fun l=>l.map (fun q=>(q.1,q.2+off))):=by unfold cF;rw[GQ];rfl
theorem AR {ρ:Env}{n i g off j g':Nat}(h:¬j<n)(h':¬(j=n∧g'=0)):cF (mW n i g off) ρ j g'=none:=by
 unfold cF
 by_cases e:j=n
 ·subst e;rw[GQ];simp only;rw[if_neg (fun h=>h' ⟨rfl,h⟩)]
 ·rw[NA (by omega)]
theorem yk {ρ:Env}{M:AH}{w:World}{i g off:Nat}{x x':af}(h:aW ρ M w)(hm:M[i]?=some (.one true g x))(fb:off+x'.size≤x.size)
 (gn:∀k v,x'.at k=some v→x.at (off+k)=some v)(hv:x.b9→x'.b9)(sQ:x.row=true)(Er:x'.row=true):
 aW (cF (mW M.length i g off) ρ) (M.set i .gone++[.one true 0 x']) w∧Ext ρ M w (cF (mW M.length i g off) ρ) (M.set i .gone++[.one true 0 x']) w:=by
 have bh:i<M.length:=(List.getElem?_eq_some_iff.1 hm).1
 have kK:∀j g' l,ρ j g'=some l→cF (mW M.length i g off) ρ j g'=some l:=by
  intro j g' l e
  rw[kA (h.pr j g' (by rw[e];rfl))];exact e
 have fW:∀j g',j<M.length→j≠i→slot (M.set i AO.gone++[.one true 0 x']) j g'=slot M j g':=by
  intro j g' hj eN;unfold slot
  rw[List.getElem?_append_left (by simpa using hj),List.getElem?_set_ne (Ne.symm eN)]
 have CC:∀g' own y,slot (M.set i AO.gone++[.one true 0 x']) i g'=some (own,y)→False:=by
  intro g' own y hs;unfold slot at hs
  rw[List.getElem?_append_left (by simpa using bh),List.getElem?_set_self bh]at hs
  cases hs
 have pC:∀g' own y,slot (M.set i AO.gone++[.one true 0 x']) M.length g'=some (own,y)→g'=0∧own=true∧y=x':=by
  intro g' own y hs;unfold slot at hs
  rw[List.getElem?_append_right (by simp)]at hs
  simp only[List.length_set,Nat.sub_self,List.getElem?_cons_zero,bq]at hs
  split at hs
  ·injection hs with hs;injection hs with a b;exact⟨‹_›,a.symm,b.symm⟩
  ·cases hs
 have CJ:∀{j g' own y},slot (M.set i AO.gone++[.one true 0 x']) j g'=some (own,y)→(j<M.length∧j≠i∧slot M j g'=some (own,y))∨(j=M.length∧g'=0∧own=true∧y=x'):=by
  intro j g' own y hs
  have hj:j<M.length+1:=by
   unfold slot at hs
   cases ho:(M.set i AO.gone++[AO.one true 0 x'])[j]? with
   |none=>rw[ho]at hs;cases hs
   |some o=>have:=(List.getElem?_eq_some_iff.1 ho).1;simpa using this
  by_cases e:j=M.length
  ·subst e;exact .inr ⟨rfl,pC _ _ _ hs⟩
  ·have qG:j<M.length:=by omega
   by_cases ei:j=i
   ·subst ei;exact(CC _ _ _ hs).elim
   ·rw[fW j g' qG ei]at hs;exact .inl ⟨qG,ei,hs⟩
 have hh:=h.holds i g true x (ao hm)
 have kI:(∃q,ρ i g=some (some q)∧b8 ρ true x q.1 q.2 w∧cF (mW M.length i g off) ρ M.length 0=some (some (q.1,q.2+off)))∨(ρ i g=some none∧x.b9∧cF (mW M.length i g off) ρ M.length 0=some none):=by
  rcases hh with⟨q,e1,e2⟩|⟨e1,e2⟩
  ·exact .inl ⟨q,e1,e2,by rw[HN,e1];rfl⟩
  ·exact .inr ⟨e1,e2,by rw[HN,e1];rfl⟩
 refine⟨⟨?_,?_,?_,?_,?_⟩,⟨kK,Nat.le_refl _,fun _ _ _=>rfl,?_,rfl,rfl,rfl⟩⟩
 ·intro j g' hj
  by_cases e:j<M.length
  ·simp;omega
  ·by_cases e':j=M.length∧g'=0
   ·simp[e'.1]
   ·rw[AR e e']at hj;cases hj
 ·intro j g' own g1 y xN hj
  by_cases e:j<M.length
  ·rw[kA e]at hj
   rw[List.getElem?_append_left (by simpa using e)]at xN
   by_cases ei:j=i
   ·subst ei;rw[List.getElem?_set_self bh]at xN;cases xN
   ·rw[List.getElem?_set_ne (Ne.symm ei)]at xN;exact h.tag j g' own g1 y xN hj
  ·by_cases e':j=M.length∧g'=0
   ·omega
   ·rw[AR e e']at hj;cases hj
 ·intro j g' own n y xN hj
  by_cases e:j<M.length
  ·rw[kA e]at hj
   rw[List.getElem?_append_left (by simpa using e)]at xN
   by_cases ei:j=i
   ·subst ei;rw[List.getElem?_set_self bh]at xN;cases xN
   ·rw[List.getElem?_set_ne (Ne.symm ei)]at xN;exact h.aX j g' own n y xN hj
  ·by_cases e':j=M.length∧g'=0
   ·rw[e'.1,List.getElem?_append_right (by simp)]at xN
    simp at xN
   ·rw[AR e e']at hj;cases hj
 ·intro j g' own y hs
  rcases CJ hs with⟨hj,ei,hs⟩|⟨rfl,rfl,rfl,rfl⟩
  ·rw[kA hj]
   rcases h.holds j g' own y hs with⟨q,h1,h2⟩|h1
   ·exact .inl ⟨q,h1,h2.ext kK rfl⟩
   ·exact .inr h1
  ·rcases kI with⟨q,e1,e2,e3⟩|⟨e1,e2,e3⟩
   ·refine .inl ⟨_,e3,?_⟩
    obtain⟨c,e,fr,k1,k2,k3,k4⟩:=e2.out sQ
    refine .mk' Er ⟨c,e,fr,k1,by simp only;omega,fun k v hv=>?_,k4⟩
    obtain⟨a,b⟩:=k3 (off+k) v (gn k v hv)
    exact⟨AV.cW kK v a,by simp only;rw[AV.dr kK v a,Nat.add_assoc];exact b⟩
   ·exact .inr ⟨e3,hv e2⟩
 ·intro j g1 y j' g2 bJ y' q q' h1 h2 e1 e2 he
  rcases CJ h1 with⟨hj,ei,k1'⟩|⟨rfl,rfl,_,rfl⟩
  ·rw[kA hj]at e1
   rcases CJ h2 with⟨qG,ei',ZT⟩|⟨rfl,rfl,_,rfl⟩
   ·rw[kA qG]at e2
    exact h.apart j g1 y j' g2 bJ y' q q' k1' ZT e1 e2 he
   ·rcases kI with⟨q0,k1,k2,k3⟩|⟨_,_,k3⟩
    ·rw[k3]at e2;injection e2 with e2;injection e2 with e2;subst e2
     exact absurd (h.apart j g1 y i g true x q q0 k1' (ao hm) e1 k1 he).1 ei
    ·rw[k3]at e2;cases e2
  ·rcases kI with⟨q0,k1,k2,k3⟩|⟨_,_,k3⟩
   ·rw[k3]at e1;injection e1 with e1;injection e1 with e1;subst e1
    rcases CJ h2 with⟨qG,ei',ZT⟩|⟨rfl,rfl,_,rfl⟩
    ·rw[kA qG]at e2
     exact absurd (h.apart i g x j' g2 bJ y' q0 q' (ao hm) ZT k1 e2 he).1.symm ei'
    ·exact⟨rfl,rfl⟩
   ·rw[k3]at e1;cases e1
 ·intro j g1 y q hs hq hb
  rcases CJ hs with⟨hj,ei,hs⟩|⟨rfl,rfl,_,rfl⟩
  ·rw[kA hj]at hq;exact⟨j,g1,y,q,hs,hq,rfl⟩
  ·rcases kI with⟨q0,k1,k2,k3⟩|⟨_,_,k3⟩
   ·rw[k3]at hq;injection hq with hq;injection hq with hq;subst hq
    exact⟨i,g,x,q0,ao hm,k1,rfl⟩
   ·rw[k3]at hq;cases hq
theorem Vw.shift {M:AH}{i g off:Nat}{x x':af}{l l':List AV}(hm:M[i]?=some (.one true g x))(fb:off+x'.size≤x.size)(gn:∀k v,x'.at k=some v→x.at (off+k)=some v)(hv:x.b9→x'.b9)(sQ:x.row=true)(Er:x'.row=true)
 (hl:AV.mX (mW M.length i g off) 0 l'=l)(hw:AV.nq (mW M.length i g off) l'=true):Vw M (M.set i .gone++[.one true 0 x']) l l':=by
 intro ρ w hs aF
 obtain⟨h1,h2⟩:=yk (off:=off) hs hm fb gn hv sQ Er
 have o1:=iq l' hw (by rw[hl];exact aF)
 exact⟨_,h1,h2,by rw[←(tz (wE (m:=0)) l' o1).2,hl],o1⟩
theorem Vw.mq {M:AH}{i g:Nat}{x:af}{l l':List AV}(hm:M[i]?=some (.one true g x))(sQ:x.row=true)
 (hl:AV.mX (mW M.length i g 0) 0 l'=l)(hw:AV.nq (mW M.length i g 0) l'=true):Vw M (M.set i .gone++[.aX true 1 (fun _=>x)]) l l':=by
 intro ρ w hs aF
 obtain⟨h1,h2⟩:=yk (off:=0) (x':=x) hs hm (by omega) (fun k v hv=>by rw[Nat.zero_add];exact hv) (fun h=>h) sQ sQ
 have o1:=iq l' hw (by rw[hl];exact aF)
 have hq:(M.set i AO.gone++[AO.one true 0 x])[M.length]?=some (.one true 0 x):=by
  rw[List.getElem?_append_right (by simp)];simp
 have c:=BR h1 hq
 have d:=sb hq
 have e:(M.set i AO.gone++[AO.one true 0 x]).set M.length (.aX true 1 (fun _=>x))=M.set i .gone++[.aX true 1 (fun _=>x)]:=by
  rw[List.set_append_right _ _ (by simp)];simp
 rw[e]at c d
 exact⟨_,c,CO h2 (fun _ _=>rfl) d,by rw[←(tz (wE (m:=0)) l' o1).2,hl],o1⟩
end Go.Proofs.Ytibadaomjlkoaaa
open Go.RowKit
namespace Go.Proofs.Ytibadaomjlkoaaa
mutual
def AV.rm (φ:Nat→Nat→Nat×Nat):AV→AV
 | .ptr i g off=>.ptr (φ i g).1 (φ i g).2 off
 | .nI i g sz j o=>.nI (φ i g).1 (φ i g).2 sz j o
 | .sl i g off n c=>.sl (φ i g).1 (φ i g).2 off n c
 | .mp i g=>.mp (φ i g).1 (φ i g).2
 | .fn f a b=>.fn f (AV.ik φ a) (AV.ik φ b)
 | .jZ t v=>.jZ t (v.rm φ)
 | .agg l=>.agg (AV.ik φ l)
 | .aE l=>.aE (AV.ik φ l)
 | .bo x=>.bo x| .tt=>.tt| .ff=>.ff| .int k n=>.int k n| .str x=>.str x| .np=>.np| .ns=>.ns| .nf=>.nf| .ni=>.ni| .nm=>.nm| .raw v=>.raw v
def AV.ik (φ:Nat→Nat→Nat×Nat):List AV→List AV
 |[]=>[]
 |v::l=>v.rm φ::AV.ik φ l
end
def uo (φ:Nat→Nat→Nat×Nat)(ρ:Env):Env:=fun i g=>ρ (φ i g).1 (φ i g).2
mutual
theorem Tg (φ:Nat→Nat→Nat×Nat)(ρ:Env):∀v:AV,v.c (uo φ ρ)=(v.rm φ).c ρ
 | .ptr i g off=>rfl
 | .nI i g sz j o=>rfl
 | .sl i g off n c=>rfl
 | .mp i g=>rfl
 | .fn f a b=>by simp only[AV.rm,AV.c,yJ φ ρ a,yJ φ ρ b]
 | .jZ t v=>by simp only[AV.rm,AV.c,Tg φ ρ v]
 | .agg l=>by simp only[AV.rm,AV.c,yJ φ ρ l]
 | .aE l=>by simp only[AV.rm,AV.c,yJ φ ρ l]
 | .bo _=>rfl| .tt=>rfl| .ff=>rfl| .int _ _=>rfl| .str _=>rfl| .np=>rfl| .ns=>rfl| .nf=>rfl| .ni=>rfl| .nm=>rfl| .raw _=>rfl
theorem yJ (φ:Nat→Nat→Nat×Nat)(ρ:Env):∀l:List AV,AV.cl (uo φ ρ) l=AV.cl ρ (AV.ik φ l)
 |[]=>rfl
 |v::l=>by simp only[AV.ik,AV.cl,Tg φ ρ v,yJ φ ρ l]
end
mutual
theorem K8 (φ:Nat→Nat→Nat×Nat)(ρ:Env):∀v:AV,v.ok (uo φ ρ)↔(v.rm φ).ok ρ
 | .ptr i g off=>Iff.rfl
 | .nI i g sz j o=>Iff.rfl
 | .sl i g off n c=>Iff.rfl
 | .mp i g=>Iff.rfl
 | .fn f a b=>by simp only[AV.rm,AV.ok,sD φ ρ a,sD φ ρ b]
 | .jZ t v=>by simp only[AV.rm,AV.ok,K8 φ ρ v]
 | .agg l=>by simp only[AV.rm,AV.ok,sD φ ρ l]
 | .aE l=>by simp only[AV.rm,AV.ok,sD φ ρ l]
 | .bo _=>Iff.rfl| .tt=>Iff.rfl| .ff=>Iff.rfl| .int _ _=>Iff.rfl| .str _=>Iff.rfl| .np=>Iff.rfl| .ns=>Iff.rfl| .nf=>Iff.rfl| .ni=>Iff.rfl| .nm=>Iff.rfl| .raw _=>Iff.rfl
theorem sD (φ:Nat→Nat→Nat×Nat)(ρ:Env):∀l:List AV,AV.eb (uo φ ρ) l↔AV.eb ρ (AV.ik φ l)
 |[]=>Iff.rfl
 |v::l=>by simp only[AV.ik,AV.eb,K8 φ ρ v,sD φ ρ l]
end
def Px (M:AH)(i g:Nat):Prop:=M.length≤i∨(∃own g0 x,M[i]?=some (.one own g0 x)∧g0<g)∨(∃own m x,M[i]?=some (.aX own m x)∧m≤g)
theorem sF {ρ:Env}{M:AH}{w:World}(h:aW ρ M w){i g:Nat}(hn:Px M i g):ρ i g=none:=by
 cases hr:ρ i g with
 |none=>rfl
 |some l=>
  have hs:(ρ i g).isSome=true:=by rw[hr];rfl
  rcases hn with hn|⟨own,g0,x,h1,h2⟩|⟨own,m,x,h1,h2⟩
  ·have:=h.pr i g hs;omega
  ·have:=h.tag i g own g0 x h1 hs;omega
  ·have:=h.aX i g own m x h1 hs;omega
structure Dk (M M':AH)(φ:Nat→Nat→Nat×Nat):Prop where
 len:M.length≤M'.length
 new:∀i g,φ i g=(i,g)∨(Px M i g∧i<M'.length)
 slot:∀i g own x,slot M' i g=some (own,x)→∃KW x0,slot M (φ i g).1 (φ i g).2=some (KW,x0)∧(own=true→KW=true)∧
  (x=x0∨(x.row=true∧x0.row=true∧x.size≤x0.size∧(∀k v,x.at k=some v→x0.at k=some (v.rm φ))∧(x0.b9→x.b9)))
 inj:∀i g x i' g' bJ x',Go.Proofs.Ytibadaomjlkoaaa.slot M' i g=some (true,x)→Go.Proofs.Ytibadaomjlkoaaa.slot M' i' g'=some (bJ,x')→φ i g=φ i' g'→i=i'∧g=g'
 tag:∀i own g x,M'[i]?=some (.one own g x)→∀g',g<g'→φ i g'=(i,g')∧Px M i g'
 aX:∀i own m x,M'[i]?=some (.aX own m x)→∀g',m≤g'→φ i g'=(i,g')∧Px M i g'
theorem Kv {ρ:Env}{M M':AH}{w:World}{φ:Nat→Nat→Nat×Nat}(h:aW ρ M w)(hn:Dk M M' φ):aW (uo φ ρ) M' w∧Ext ρ M w (uo φ ρ) M' w:=by
 have kK:∀i g l,ρ i g=some l→uo φ ρ i g=some l:=by
  intro i g l e
  rcases hn.new i g with h1|⟨h1,_⟩
  ·unfold uo;rw[h1];exact e
  ·rw[sF h h1]at e;cases e
 refine⟨⟨?_,?_,?_,?_,?_⟩,⟨kK,Nat.le_refl _,fun _ _ _=>rfl,?_,rfl,rfl,rfl⟩⟩
 ·intro i g hi
  rcases hn.new i g with h1|⟨_,h1⟩
  ·unfold uo at hi;rw[h1]at hi;exact Nat.lt_of_lt_of_le (h.pr i g hi) hn.len
  ·exact h1
 ·intro i g own g' x hm hi
  rcases Nat.lt_or_ge g' g with bh|LW
  ·obtain⟨h1,h2⟩:=hn.tag i own g' x hm g bh
   unfold uo at hi;rw[h1,sF h h2]at hi;cases hi
  ·exact LW
 ·intro i g own m x hm hi
  rcases Nat.lt_or_ge g m with bh|LW
  ·exact bh
  ·obtain⟨h1,h2⟩:=hn.aX i own m x hm g LW
   unfold uo at hi;rw[h1,sF h h2]at hi;cases hi
 ·intro i g own x hs
  obtain⟨KW,x0,h1,h2,h3⟩:=hn.slot i g own x hs
  rcases h.holds _ _ _ _ h1 with⟨q,e1,e2⟩|⟨e1,e2⟩
  ·refine .inl ⟨q,e1,?_⟩
   rcases h3 with rfl|⟨r1,r2,r3,r4,r5⟩
   ·have:=e2.ext kK rfl
    rcases this.all with⟨hx,c,e,fr,k1,k2,k3,k4⟩|h0
    ·exact .mk' hx ⟨c,e,fr,k1,k2,k3,fun ho=>k4 (h2 ho)⟩
    ·exact⟨.inr h0⟩
   ·obtain⟨c,e,fr,k1,k2,k3,k4⟩:=e2.out r2
    refine .mk' r1 ⟨c,e,fr,k1,by omega,fun k v hv=>?_,fun ho=>k4 (h2 ho)⟩
    obtain⟨a,b⟩:=k3 k _ (r4 k v hv)
    exact⟨(K8 φ ρ v).2 a,by rw[Tg φ ρ v];exact b⟩
  ·refine .inr ⟨e1,?_⟩
   rcases h3 with rfl|⟨_,_,_,_,r5⟩
   ·exact e2
   ·exact r5 e2
 ·intro i g x i' g' bJ x' q q' hs xL hq Bj he
  obtain⟨KW,x0,h1,h2,_⟩:=hn.slot i g true x hs
  obtain⟨aaT,x0',iA,_,_⟩:=hn.slot i' g' bJ x' xL
  rw[h2 rfl]at h1
  have:=h.apart _ _ _ _ _ _ _ q q' h1 iA hq Bj he
  exact hn.inj i g x i' g' bJ x' hs xL (Prod.ext this.1 this.2)
 ·intro i g x q hs hq _
  obtain⟨KW,x0,h1,h2,_⟩:=hn.slot i g true x hs
  rw[h2 rfl]at h1
  exact⟨_,_,x0,q,h1,hq,rfl⟩
theorem Vw.name {M M':AH}{φ:Nat→Nat→Nat×Nat}{l l':List AV}(hn:Dk M M' φ)(hl:AV.ik φ l'=l):Vw M M' l l':=by
 intro ρ w hs aF
 obtain⟨h1,h2⟩:=Kv hs hn
 exact⟨_,h1,h2,by rw[yJ,hl],(sD φ ρ l').2 (by rw[hl];exact aF)⟩
def sw (a b i0 g0:Nat):Nat→Nat→Nat×Nat:=fun i g=>if i=a∧g=b then(i0,g0)else(i,g)
theorem fS {a b i0 g0:Nat}:sw a b i0 g0 a b=(i0,g0):=by simp[sw]
theorem bR {a b i0 g0 i g:Nat}(h:¬(i=a∧g=b)):sw a b i0 g0 i g=(i,g):=by simp only[sw,if_neg h]
theorem Vr {M:AH}{i g:Nat}{x:af}(hs:slot M i g=some (false,x)):Dk M (M++[.one false 0 x]) (sw M.length 0 i g):=by
 have cH:∀j,j<M.length→(M++[AO.one false 0 x])[j]?=M[j]?:=fun j hj=>List.getElem?_append_left hj
 have Hx:∀j g',j<M.length→slot (M++[AO.one false 0 x]) j g'=slot M j g':=by intro j g' hj;unfold slot;rw[cH j hj]
 have kI:∀g' own y,slot (M++[AO.one false 0 x]) M.length g'=some (own,y)→g'=0∧own=false∧y=x:=by
  intro g' own y h
  unfold slot at h
  rw[List.getElem?_append_right (Nat.le_refl _)]at h
  simp only[Nat.sub_self,List.getElem?_cons_zero,bq]at h
  split at h
  ·injection h with h;injection h with a b;exact⟨‹_›,a.symm,b.symm⟩
  ·cases h
 have bh:∀{j g' own y},slot (M++[AO.one false 0 x]) j g'=some (own,y)→j<M.length∨j=M.length:=by
  intro j g' own y h
  unfold slot at h
  rcases Nat.lt_trichotomy j M.length with h'|h'|h'
  ·exact .inl h'
  ·exact .inr h'
  ·rw[List.getElem?_eq_none (by simp;omega)]at h;cases h
 have hi:i<M.length:=by
  unfold slot at hs
  rcases Nat.lt_or_ge i M.length with h'|h'
  ·exact h'
  ·rw[List.getElem?_eq_none h']at hs;cases hs
 refine⟨by simp,?_,?_,?_,?_,?_⟩
 ·intro j g'
  by_cases e:j=M.length∧g'=0
  ·exact .inr ⟨.inl (by omega),by simp;omega⟩
  ·exact .inl (bR e)
 ·intro j g' own y h
  rcases bh h with h'|rfl
  ·rw[Hx j g' h']at h
   rw[bR (by omega)]
   exact⟨own,y,h,id,.inl rfl⟩
  ·obtain⟨rfl,rfl,rfl⟩:=kI _ _ _ h
   rw[fS]
   exact⟨false,y,hs,fun h=>(by cases h),.inl rfl⟩
 ·intro j g1 y j' g2 bJ y' h1 h2 he
  rcases bh h1 with iA|rfl
  ·rw[bR (by omega)]at he
   rcases bh h2 with Mf|rfl
   ·rw[bR (by omega)]at he
    simpa using he
   ·obtain⟨rfl,_,rfl⟩:=kI _ _ _ h2
    rw[fS]at he
    rw[Hx j g1 iA]at h1
    simp only[Prod.mk.injEq]at he
    obtain⟨rfl,rfl⟩:=he
    rw[hs]at h1;cases h1
  ·obtain⟨_,h,_⟩:=kI _ _ _ h1;cases h
 ·intro j own g1 y hm g' hg
  rcases Nat.lt_or_ge j M.length with h'|h'
  ·rw[cH j h']at hm
   exact⟨bR (by omega),.inr (.inl ⟨own,g1,y,hm,hg⟩)⟩
  ·exact⟨bR (by omega),.inl h'⟩
 ·intro j own m y hm g' hg
  rcases Nat.lt_or_ge j M.length with h'|h'
  ·rw[cH j h']at hm
   exact⟨bR (by omega),.inr (.inr ⟨own,m,y,hm,hg⟩)⟩
  ·rcases Nat.lt_or_ge M.length j with h''|h''
   ·exact⟨bR (by omega),.inl h'⟩
   ·have:j=M.length:=by omega
    subst this
    rw[List.getElem?_append_right (Nat.le_refl _)]at hm
    simp at hm
theorem Vw.pull {M:AH}{i g:Nat}{x:af}{l l':List AV}(hs:slot M i g=some (false,x))(hl:AV.ik (sw M.length 0 i g) l'=l):Vw M (M++[.one false 0 x]) l l':=Vw.name (Vr hs) hl
theorem Vw.Qo {M:AH}{own:Bool}{f:Nat→af}{l:List AV}:Vw M (M++[.aX own 0 f]) l l:=by
 have cH:∀j,j<M.length→(M++[AO.aX own 0 f])[j]?=M[j]?:=fun j hj=>List.getElem?_append_left hj
 have hs:∀{j g' bJ y},slot (M++[AO.aX own 0 f]) j g'=some (bJ,y)→slot M j g'=some (bJ,y):=by
  intro j g' bJ y h
  unfold slot at h⊢
  rcases Nat.lt_trichotomy j M.length with h'|h'|h'
  ·rw[cH j h']at h;exact h
  ·subst h'
   rw[List.getElem?_append_right (Nat.le_refl _)]at h
   simp[bq]at h
  ·rw[List.getElem?_eq_none (by simp;omega)]at h;cases h
 refine Vw.name (φ:=fun i g=>(i,g)) ⟨by simp,fun _ _=>.inl rfl,?_,?_,?_,?_⟩ ?_
 ·intro i g bJ x h;exact⟨bJ,x,hs h,id,.inl rfl⟩
 ·intro i g x i' g' bJ x' _ _ he;simpa using he
 ·intro j bJ g1 y hm g' hg
  rcases Nat.lt_or_ge j M.length with h'|h'
  ·rw[cH j h']at hm;exact⟨rfl,.inr (.inl ⟨bJ,g1,y,hm,hg⟩)⟩
  ·exact⟨rfl,.inl h'⟩
 ·intro j bJ m y hm g' hg
  rcases Nat.lt_or_ge j M.length with h'|h'
  ·rw[cH j h']at hm;exact⟨rfl,.inr (.inr ⟨bJ,m,y,hm,hg⟩)⟩
  ·exact⟨rfl,.inl h'⟩
 ·have key:∀ρ:Env,uo (fun i g=>(i,g)) ρ=ρ:=fun _=>rfl
  exact sE l
where
 sE:∀l:List AV,AV.ik (fun i g=>(i,g)) l=l
  |[]=>rfl
  |v::l=>by simp only[AV.ik];rw[QW v,sE l]
 QW:∀v:AV,v.rm (fun i g=>(i,g))=v
  | .ptr ..| .nI ..| .sl ..| .mp ..=>rfl
  | .fn f a b=>by simp only[AV.rm];rw[sE a,sE b]
  | .jZ t v=>by simp only[AV.rm];rw[QW v]
  | .agg l=>by simp only[AV.rm];rw[sE l]
  | .aE l=>by simp only[AV.rm];rw[sE l]
  | .bo _=>rfl| .tt=>rfl| .ff=>rfl| .int _ _=>rfl| .str _=>rfl| .np=>rfl| .ns=>rfl| .nf=>rfl| .ni=>rfl| .nm=>rfl| .raw _=>rfl
theorem Qg {M:AH}{iu k o m g0 go sz n c:Nat}{ow:Bool}{f f':Nat→af}{y:af}{get get':Nat→List AV}(hu:M[iu]?=some (.aX ow m f))(hk:M[k]?=some (.one true g0 y))(ho:M[o]?=some (.one true go (.cw sz n get c)))
 (Tf:Nat.beq o k=false)(hf:∀r,r<m→f' r=f r)(hm:f' m=y)(hg:∀r,r<n→AV.ik (sw iu m k g0) (get' r)=get r):
 Dk M (((M.set iu (.aX ow (m+1) f')).set o (.one true go (.cw sz n get' c))).set k .gone) (sw iu m k g0):=by
 have Tf:o≠k:=Nat.ne_of_beq_eq_false Tf
 have lu:iu<M.length:=(List.getElem?_eq_some_iff.1 hu).1
 have lk:k<M.length:=(List.getElem?_eq_some_iff.1 hk).1
 have lo:o<M.length:=(List.getElem?_eq_some_iff.1 ho).1
 have Td:iu≠k:=by intro e;subst e;rw[hu]at hk;cases hk
 have ZQ:iu≠o:=by intro e;subst e;rw[hu]at ho;cases ho
 generalize hN:(((M.set iu (.aX ow (m+1) f')).set o (.one true go (.cw sz n get' c))).set k .gone)=N
 have hl:N.length=M.length:=by rw[←hN];simp
 have gu:N[iu]?=some (.aX ow (m+1) f'):=by
  rw[←hN,List.getElem?_set_ne (Ne.symm Td),List.getElem?_set_ne (Ne.symm ZQ),List.getElem?_set_self lu]
 have gk:N[k]?=some .gone:=by
  rw[←hN,List.getElem?_set_self (by simpa using lk)]
 have gO:N[o]?=some (.one true go (.cw sz n get' c)):=by
  rw[←hN,List.getElem?_set_ne (Ne.symm Tf),List.getElem?_set_self (by simpa using lo)]
 have gr:∀j,j≠iu→j≠k→j≠o→N[j]?=M[j]?:=by
  intro j h1 h2 h3
  rw[←hN,List.getElem?_set_ne (Ne.symm h2),List.getElem?_set_ne (Ne.symm h3),List.getElem?_set_ne (Ne.symm h1)]
 clear hN
 have sk:slot M k g0=some (true,y):=ao hk
 have sN:∀{i g own x},slot N i g=some (own,x)→i≠k:=by
  intro i g own x h e;subst e;unfold slot at h;rw[gk]at h;cases h
 refine⟨by omega,?_,?_,?_,?_,?_⟩
 ·intro i g
  by_cases e:i=iu∧g=m
  ·obtain⟨rfl,rfl⟩:=e
   exact .inr ⟨.inr (.inr ⟨ow,_,f,hu,Nat.le_refl _⟩),by omega⟩
  ·exact .inl (bR e)
 ·intro i g own x h
  have pe:=sN h
  by_cases eu:i=iu
  ·subst eu
   unfold slot at h
   rw[gu]at h
   simp only[bq]at h
   split at h
   ·rename_i hgm
    injection h with h;injection h with e1 e2
    subst e1;subst e2
    by_cases e:g=m
    ·subst e
     rw[fS]
     exact⟨true,y,sk,fun _=>rfl,.inl hm⟩
    ·rw[bR (by omega)]
     refine⟨ow,f g,?_,id,.inl (hf g (by omega))⟩
     unfold slot;rw[hu];simp only[bq,if_pos (show g<m by omega)]
   ·cases h
  ·rw[bR (by omega)]
   by_cases eo:i=o
   ·subst eo
    unfold slot at h
    rw[gO]at h
    simp only[bq]at h
    split at h
    ·rename_i hgg
     subst hgg
     injection h with h;injection h with e1 e2
     subst e1;subst e2
     refine⟨true,_,ao ho,id,.inr ⟨rfl,rfl,Nat.le_refl _,?_,fun h=>h⟩⟩
     intro k' v hv
     simp only[af.at]at hv⊢
     split at hv
     ·rename_i bh
      rw[if_pos bh]
      have hr:k'/sz<n:=Nat.div_lt_of_lt_mul (by rw[Nat.mul_comm];exact bh)
      rw[←hg _ hr]
      have:∀(l:List AV)(j:Nat)(v:AV),l[j]?=some v→(AV.ik (sw iu m k g0) l)[j]?=some (v.rm (sw iu m k g0)):=by
       intro l
       induction l with
       |nil=>intro j v h;simp at h
       |cons a l ih=>
        intro j v h
        cases j with
        |zero=>simp at h;subst h;simp[AV.ik]
        |succ j=>simp only[AV.ik,List.getElem?_cons_succ]at h⊢;exact ih j v h
      exact this _ _ _ hv
     ·cases hv
    ·cases h
   ·unfold slot at h
    rw[gr i eu pe eo]at h
    exact⟨own,x,h,id,.inl rfl⟩
 ·intro i g x i' g' bJ x' h h' he
  have e1:=sN h
  have e2:=sN h'
  by_cases d1:i=iu∧g=m
  ·by_cases d2:i'=iu∧g'=m
   ·exact⟨d1.1.trans d2.1.symm,d1.2.trans d2.2.symm⟩
   ·obtain⟨rfl,rfl⟩:=d1
    rw[fS,bR d2]at he
    simp only[Prod.mk.injEq]at he
    exact absurd he.1.symm e2
  ·by_cases d2:i'=iu∧g'=m
   ·obtain⟨rfl,rfl⟩:=d2
    rw[fS,bR d1]at he
    simp only[Prod.mk.injEq]at he
    exact absurd he.1 e1
   ·rw[bR d1,bR d2]at he
    simpa using he
 ·intro i own g x h g' HB
  have pe:i≠k:=by intro e;subst e;rw[gk]at h;cases h
  have eu:i≠iu:=by intro e;subst e;rw[gu]at h;cases h
  refine⟨bR (by omega),?_⟩
  by_cases eo:i=o
  ·subst eo
   rw[gO]at h;injection h with h;injection h with a b
   subst b
   exact .inr (.inl ⟨true,_,_,ho,HB⟩)
  ·rw[gr i eu pe eo]at h
   exact .inr (.inl ⟨own,g,x,h,HB⟩)
 ·intro i own m' x h g' HB
  have pe:i≠k:=by intro e;subst e;rw[gk]at h;cases h
  have eo:i≠o:=by intro e;subst e;rw[gO]at h;cases h
  by_cases eu:i=iu
  ·subst eu
   rw[gu]at h;injection h with h;injection h with a b
   subst b
   exact⟨bR (by omega),.inr (.inr ⟨ow,m,f,hu,by omega⟩)⟩
  ·refine⟨bR (by omega),?_⟩
   rw[gr i eu pe eo]at h
   exact .inr (.inr ⟨own,m',x,h,HB⟩)
theorem Vw.freeze {M:AH}{iu k o m g0 go sz n c:Nat}{ow:Bool}{f:Nat→af}{y:af}{get:Nat→List AV}{l l':List AV}(f':Nat→af)(get':Nat→List AV)(hu:M[iu]?=some (.aX ow m f))(hk:M[k]?=some (.one true g0 y))(ho:M[o]?=some (.one true go (.cw sz n get c)))
 (Tf:Nat.beq o k=false)(hf:∀r,r<m→f' r=f r)(hm:f' m=y)(hg:∀r,r<n→AV.ik (sw iu m k g0) (get' r)=get r)(hl:AV.ik (sw iu m k g0) l'=l):
 Vw M (((M.set iu (.aX ow (m+1) f')).set o (.one true go (.cw sz n get' c))).set k .gone) l l':=Vw.name (Qg hu hk ho Tf hf hm hg) hl
def xF (iu m p iv:Nat):Nat→Nat→Nat×Nat:=fun i g=>if i=iu∧m≤g∧g<m+p then(iv,g-m)else(i,g)
theorem Ag {iu m p iv j:Nat}(h:j<p):xF iu m p iv iu (m+j)=(iv,j):=by unfold xF;rw[if_pos ⟨rfl,by omega,by omega⟩,Nat.add_sub_cancel_left]
theorem jb {iu m p iv i g:Nat}(h:¬(i=iu∧m≤g∧g<m+p)):xF iu m p iv i g=(i,g):=by simp only[xF,if_neg h]
theorem Tm {M:AH}{iu iv o m p go sz n c:Nat}{ow:Bool}{f f' fv:Nat→af}{get get':Nat→List AV}(hu:M[iu]?=some (.aX false m f))(hk:M[iv]?=some (.aX ow p fv))(ho:M[o]?=some (.one true go (.cw sz n get c)))
 (Td:Nat.beq iu iv=false)(hf:∀r,r<m→f' r=f r)(hm:∀r,r<p→f' (m+r)=fv r)(hg:∀r,r<n→AV.ik (xF iu m p iv) (get' r)=get r):
 Dk M (((M.set iu (.aX false (m+p) f')).set o (.one true go (.cw sz n get' c))).set iv .gone) (xF iu m p iv):=by
 have Td:iu≠iv:=Nat.ne_of_beq_eq_false Td
 have lu:iu<M.length:=(List.getElem?_eq_some_iff.1 hu).1
 have lk:iv<M.length:=(List.getElem?_eq_some_iff.1 hk).1
 have lo:o<M.length:=(List.getElem?_eq_some_iff.1 ho).1
 have Tf:o≠iv:=by intro e;subst e;rw[ho]at hk;cases hk
 have ZQ:iu≠o:=by intro e;subst e;rw[hu]at ho;cases ho
 generalize hN:(((M.set iu (.aX false (m+p) f')).set o (.one true go (.cw sz n get' c))).set iv .gone)=N
 have hl:N.length=M.length:=by rw[←hN];simp
 have gu:N[iu]?=some (.aX false (m+p) f'):=by
  rw[←hN,List.getElem?_set_ne (Ne.symm Td),List.getElem?_set_ne (Ne.symm ZQ),List.getElem?_set_self lu]
 have gk:N[iv]?=some .gone:=by
  rw[←hN,List.getElem?_set_self (by simpa using lk)]
 have gO:N[o]?=some (.one true go (.cw sz n get' c)):=by
  rw[←hN,List.getElem?_set_ne (Ne.symm Tf),List.getElem?_set_self (by simpa using lo)]
 have gr:∀j,j≠iu→j≠iv→j≠o→N[j]?=M[j]?:=by
  intro j h1 h2 h3
  rw[←hN,List.getElem?_set_ne (Ne.symm h2),List.getElem?_set_ne (Ne.symm h3),List.getElem?_set_ne (Ne.symm h1)]
 clear hN
 have sN:∀{i g own x},slot N i g=some (own,x)→i≠iv:=by
  intro i g own x h e;subst e;unfold slot at h;rw[gk]at h;cases h
 have oN:∀{i g x},slot N i g=some (true,x)→i≠iu:=by
  intro i g x h e;subst e;unfold slot at h;rw[gu]at h
  simp only[bq]at h;split at h<;>cases h
 refine⟨by omega,?_,?_,?_,?_,?_⟩
 ·intro i g
  by_cases e:i=iu∧m≤g∧g<m+p
  ·obtain⟨rfl,e1,_⟩:=e
   exact .inr ⟨.inr (.inr ⟨false,_,f,hu,e1⟩),by omega⟩
  ·exact .inl (jb e)
 ·intro i g own x h
  have pe:=sN h
  by_cases eu:i=iu
  ·subst eu
   unfold slot at h
   rw[gu]at h
   simp only[bq]at h
   split at h
   ·rename_i hgm
    injection h with h;injection h with e1 e2
    subst e1;subst e2
    by_cases e:m≤g
    ·obtain⟨j,rfl⟩:∃j,g=m+j:=⟨g-m,by omega⟩
     have hj:j<p:=by omega
     rw[Ag hj]
     refine⟨ow,fv j,?_,fun h=>(by cases h),.inl (hm j hj)⟩
     unfold slot;rw[hk];simp only[bq,if_pos hj]
    ·rw[jb (by omega)]
     refine⟨false,f g,?_,id,.inl (hf g (by omega))⟩
     unfold slot;rw[hu];simp only[bq,if_pos (show g<m by omega)]
   ·cases h
  ·rw[jb (by omega)]
   by_cases eo:i=o
   ·subst eo
    unfold slot at h
    rw[gO]at h
    simp only[bq]at h
    split at h
    ·rename_i hgg
     subst hgg
     injection h with h;injection h with e1 e2
     subst e1;subst e2
     refine⟨true,_,ao ho,id,.inr ⟨rfl,rfl,Nat.le_refl _,?_,fun h=>h⟩⟩
     intro k' v hv
     simp only[af.at]at hv⊢
     split at hv
     ·rename_i bh
      rw[if_pos bh]
      have hr:k'/sz<n:=Nat.div_lt_of_lt_mul (by rw[Nat.mul_comm];exact bh)
      rw[←hg _ hr]
      have:∀(l:List AV)(j:Nat)(v:AV),l[j]?=some v→(AV.ik (xF iu m p iv) l)[j]?=some (v.rm (xF iu m p iv)):=by
       intro l
       induction l with
       |nil=>intro j v h;simp at h
       |cons a l ih=>
        intro j v h
        cases j with
        |zero=>simp at h;subst h;simp[AV.ik]
        |succ j=>simp only[AV.ik,List.getElem?_cons_succ]at h⊢;exact ih j v h
      exact this _ _ _ hv
     ·cases hv
    ·cases h
   ·unfold slot at h
    rw[gr i eu pe eo]at h
    exact⟨own,x,h,id,.inl rfl⟩
 ·intro i g x i' g' bJ x' h h' he
  have e1:=oN h
  have e2:=sN h
  rw[jb (by omega)]at he
  by_cases e:i'=iu∧m≤g'∧g'<m+p
  ·obtain⟨rfl,e3,e4⟩:=e
   obtain⟨j,rfl⟩:∃j,g'=m+j:=⟨g'-m,by omega⟩
   rw[Ag (by omega)]at he
   simp only[Prod.mk.injEq]at he
   exact absurd he.1 e2
  ·rw[jb e]at he
   simpa using he
 ·intro i own g x h g' HB
  have pe:i≠iv:=by intro e;subst e;rw[gk]at h;cases h
  have eu:i≠iu:=by intro e;subst e;rw[gu]at h;cases h
  refine⟨jb (by omega),?_⟩
  by_cases eo:i=o
  ·subst eo
   rw[gO]at h;injection h with h;injection h with a b
   subst b
   exact .inr (.inl ⟨true,_,_,ho,HB⟩)
  ·rw[gr i eu pe eo]at h
   exact .inr (.inl ⟨own,g,x,h,HB⟩)
 ·intro i own m' x h g' HB
  have pe:i≠iv:=by intro e;subst e;rw[gk]at h;cases h
  have eo:i≠o:=by intro e;subst e;rw[gO]at h;cases h
  by_cases eu:i=iu
  ·subst eu
   rw[gu]at h;injection h with h;injection h with a b
   subst b
   exact⟨jb (by omega),.inr (.inr ⟨false,m,f,hu,by omega⟩)⟩
  ·refine⟨jb (by omega),?_⟩
   rw[gr i eu pe eo]at h
   exact .inr (.inr ⟨own,m',x,h,HB⟩)
theorem Vw.merge {M:AH}{iu iv o m p go sz n c:Nat}{ow:Bool}{f fv:Nat→af}{get:Nat→List AV}{l l':List AV}(f':Nat→af)(get':Nat→List AV)(hu:M[iu]?=some (.aX false m f))(hk:M[iv]?=some (.aX ow p fv))(ho:M[o]?=some (.one true go (.cw sz n get c)))
 (Td:Nat.beq iu iv=false)(hf:∀r,r<m→f' r=f r)(hm:∀r,r<p→f' (m+r)=fv r)(hg:∀r,r<n→AV.ik (xF iu m p iv) (get' r)=get r)(hl:AV.ik (xF iu m p iv) l'=l):
 Vw M (((M.set iu (.aX false (m+p) f')).set o (.one true go (.cw sz n get' c))).set iv .gone) l l':=Vw.name (Tm hu hk ho Td hf hm hg) hl
end Go.Proofs.Ytibadaomjlkoaaa
open Go.RowKit
namespace Go.Proofs.Ytibadaomjlkoaaa
set_option maxRecDepth 10000
theorem RC {x:Int}(hx:0≤x∧x<4294967296):cG .and .u64 x 4294967295=x:=by
 obtain⟨n,rfl⟩:=Int.eq_ofNat_of_zero_le hx.1
 show IntKind.wrap .u64 (((BitVec.ofInt 64 (n:Int))&&&(BitVec.ofInt 64 4294967295)).toNat:Int)=_
 have e1:n%18446744073709551616&&&4294967295=n%18446744073709551616%4294967296:=Nat.and_two_pow_sub_one_eq_mod _ 32
 have e2:(BitVec.ofInt 64 (n:Int)).toNat=n%18446744073709551616:=by rw[BitVec.toNat_ofInt];omega
 rw[BitVec.toNat_and,e2,show(BitVec.ofInt 64 4294967295).toNat=4294967295 from rfl,e1]
 simp[IntKind.wrap,IntKind.bits,IntKind.signed]
 omega
theorem Vo {x:Int}(hx:0≤x∧x<4294967296):bS .u64 x 32=0:=by
 have a1:bS .u64 x 32=x/4294967296:=Int.fdiv_eq_ediv_of_nonneg _ (by decide)
 omega
theorem Ed {b:Int}(hb:0≤b∧b<4294967296){Kp}:
 aa Try.prog 91 [.int .u64 1,.int .u64 b] [] (fun r M=>r=.aE [.int .u64 0,.int .u64 b]∧M=[]) Kp:=by
 refine Sc (fun _=>[]) [] rfl ?_
 refine Rs ?_
 have e1:cG .and .u64 1 4294967295=1:=RC (by omega)
 have e2:cG .and .u64 b 4294967295=b:=RC hb
 have e3:bS .u64 1 32=0:=rfl
 have e4:bS .u64 b 32=0:=Vo hb
 have e5:cG .and .u64 0 4294967295=0:=rfl
 have e6:bS .u64 0 32=0:=rfl
 have e7:(1*b)%18446744073709551616=b:=by omega
 simp only[e1,e2,e3,e4,e5,e6,e7,Int.mul_zero,Int.zero_mul,Int.add_zero,Int.zero_add,Int.zero_emod]
 exact⟨rfl,rfl⟩
theorem Le {b:Int}(hb:0≤b∧b<4294967296){Kp}:
 aa Try.prog 70 [.int .u64 1,.int .u64 b] [] (fun r M=>r=.aE [.int .u64 0,.int .u64 b]∧M=[]) Kp:=by
 refine Sr (fun _=>[]) [] rfl ?_
 refine Rs ?_
 refine(Ed hb).mono ?_ (fun _ _ h=>h)
 rintro r M ⟨rfl,rfl⟩
 refine Rs ?_
 exact rfl
theorem Tj {M:AH}{K Kp:AV→AH→Prop}{b:Int}(hb:0≤b∧b<4294967296)(h:K (.aE [.int .u64 0,.int .u64 b]) M):aa Try.prog 70 [.int .u64 1,.int .u64 b] M K Kp:=by
 refine aa.lift [] (Le (Kp:=fun _ _=>False) hb) rfl rfl trivial trivial ?_ (fun _ _ h=>h.elim)
 rintro r M' ⟨rfl,rfl⟩
 rw[←List.append_nil M]at h
 exact⟨rfl,h⟩
end Go.Proofs.Ytibadaomjlkoaaa
open Go.RowKit
namespace Go.Proofs.Ytibadaomjlkoaaa
set_option maxRecDepth 10000
theorem Ae {v:Int}{k c0 c:Nat}(hk:1≤k∧k≤65536)(hv:0≤v∧v<256){Kp}:
 aa Try.prog 42 [.sl 0 0 0 1 c0,.int .i64 k] [.one false 0 (.ints .u8 [v] c)]
  (fun r M=>r=.sl 1 0 0 k k∧M=[.one false 0 (.ints .u8 [v] c),.one true 0 (.ints .u8 (List.replicate k v) k)]) Kp:=by
 refine aa.bI ?_
 refine SJ (fun _=>[]) [] rfl ?_
 refine Rs ?_
 refine And.intro (fun h=>absurd (of_decide_eq_true h) (by omega)) (fun _=>?_)
 refine Rs ?_
 have e1:(k:Int)%18446744073709551616=k:=by omega
 rw[e1]
 refine Tj (b:=(k:Int)) (by omega) ?_
 refine Qs ?_
 refine And.intro (fun h=>absurd (of_decide_eq_true h) (by omega)) (fun _=>?_)
 refine Qs ?_
 intro ys sP zs dk
 have hz:zs=List.replicate 1 v++List.replicate (k-1) 0:=by
  rw[dk,sP]
  show[]++_++_=_
  have:min 1 (k:Int).toNat=1:=by omega
  rw[this]
  show[]++[v]++List.drop 1 (List.replicate k 0)=_
  rw[List.drop_replicate];rfl
 subst hz
 have hm:((min 1 (k:Int).toNat:Nat):Int)=1:=by omega
 rw[hm]
 refine Qs ?_
 refine WO.go (σ:=Nat) (fun n=>1≤n∧n≤k) (fun n=>k-n)
  (fun n=>[(7,.sl 1 0 0 k k),(8,.int .i64 n)])
  (fun n=>[.one false 0 (.ints .u8 [v] c),.one true 0 (.ints .u8 (List.replicate n v++List.replicate (k-n) 0) k)]) 1 ae mixed (by kernel_rfl)
  ⟨Nat.le_refl _,hk.1⟩ (aI rfl (aI rfl (trivial))) (aI rfl (aI rfl (trivial))) (fun _=>rfl) (fun _=>rfl) (fun _=>⟨trivial,trivial,trivial⟩) ?_
 rintro n ⟨h1,h2⟩ d
 refine Qs ?_
 refine And.intro (fun hc=>?_) (fun hc=>?_)
 ·have nU:(n:Int)<k:=of_decide_eq_true hc
  refine Qs ?_
  rw[Pr (by omega)]
  refine Qs ?_
  intro ys2 Ja zs2 Wb
  obtain⟨m,hm⟩:∃m,m=min (n:Int).toNat (k-(n:Int).toNat):=⟨_,rfl⟩
  rw[←hm]at Wb Ja
  have hz:zs2=List.replicate (n+m) v++List.replicate (k-(n+m)) 0:=by
   rw[Wb,Ja]
   show List.take (0+n*1) _++List.take m (List.drop 0 _)++List.drop (0+n*1+m) _=_
   simp only[Nat.zero_add,Nat.mul_one,List.drop_zero]
   rw[List.take_append_of_le_length (by simp),List.take_append_of_le_length (by simp;omega),List.drop_append]
   simp only[List.length_replicate,List.take_replicate,List.drop_replicate]
   rw[show n-(n+m)=0 by omega,show n+m-n=m by omega,show min n n=n by omega,show min m n=m by omega,show k-n-m=k-(n+m) by omega]
   simp[List.replicate_append_replicate]
  subst hz
  rw[←hm]
  refine Qs ?_
  refine RO.same (n+m) ⟨by omega,by omega⟩ (show k-(n+m)<k-n by omega) (And.intro rfl (And.intro ?_ trivial)) (aI rfl (aI rfl (trivial)))
  show AV.int .i64 ((n:Int)+m)=AV.int .i64 ((n+m:Nat):Int)
  push_cast;rfl
 ·have nU:¬(n:Int)<k:=of_decide_eq_false hc
  obtain rfl:n=k:=by omega
  refine Qs ?_
  have e:List.replicate n v++List.replicate (n-n) 0=List.replicate n v:=by simp
  exact Exists.intro [AO.one false 0 (.ints .u8 [v] c),.one true 0 (.ints .u8 (List.replicate n v) n)] (And.intro (And.intro rfl (And.intro (by rw[e]) trivial)) (And.intro ⟨trivial,trivial,trivial⟩ (And.intro rfl ⟨rfl,rfl⟩)))
theorem cj {M:AH}{K Kp:AV→AH→Prop}{i g k c co:Nat}{o:Bool}{v:Int}(hi:M[i]?=some (.one o g (.ints .u8 [v] co)))(hk:1≤k∧k≤65536)(hv:0≤v∧v<256)
 (h:K (.sl M.length 0 0 k k) (M++[.one true 0 (.ints .u8 (List.replicate k v) k)])):aa Try.prog 42 [.sl i g 0 1 c,.int .i64 k] M K Kp:=by
 refine aa.lift [.cP i g 0] (Ae (c0:=c) (c:=co) (Kp:=fun _ _=>False) hk hv) rfl rfl ⟨⟨_,_,_,rfl,ao hi,cq.same rfl (fun h=>h)⟩,trivial⟩ ⟨trivial,trivial⟩ ?_ (fun _ _ h=>h.elim)
 rintro r M' ⟨rfl,rfl⟩
 exact⟨⟨rfl,rfl⟩,h⟩
end Go.Proofs.Ytibadaomjlkoaaa
