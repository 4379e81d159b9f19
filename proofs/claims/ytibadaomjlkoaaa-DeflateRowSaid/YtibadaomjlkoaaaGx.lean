import Derived.Test.YtibadaomjlkoaaaGb
set_option linter.unusedVariables false
set_option linter.unusedSimpArgs false
open Go.RowKit
namespace Go.Proofs.Ytibadaomjlkoaaa
def lD:Nat→AH→List TE
 |_,[]=>[]
 |j,o::M=>(if o.eX then TE.own j else TE.fb j)::lD (j+1) M
theorem yk:∀(M:AH)(j k:Nat),k<M.length→(lD j M)[k]?=some (.own (j+k))∨(lD j M)[k]?=some (.fb (j+k))
 |o::M,j,0,_=>by
  simp only[lD,List.getElem?_cons_zero,Nat.add_zero]
  split
  ·exact .inl rfl
  ·exact .inr rfl
 |o::M,j,k+1,h=>by
  have:=yk M (j+1) k (by simpa using h)
  simp only[lD,List.getElem?_cons_succ]
  rw[show j+(k+1)=j+1+k by omega]
  exact this
theorem EE:∀(M:AH)(j:Nat),∀e∈lD j M,j≤e.i
 |[],_,e,h=>by cases h
 |o::M,j,e,h=>by
  simp only[lD,List.mem_cons]at h
  rcases h with rfl|h
  ·split<;>exact Nat.le_refl _
  ·have:=EE M (j+1) e h;omega
theorem qK:∀(M:AH)(j:Nat),bE (lD j M)=true
 |[],_=>rfl
 |o::M,j=>by
  simp only[lD,bE,Bool.and_eq_true,List.all_eq_true]
  refine⟨fun e' he=>?_,qK M (j+1)⟩
  have h1:=EE M (j+1) e' he
  have h2:Nat.beq (if o.eX then TE.own j else TE.fb j).i e'.i=false:=by
   have h3:(if o.eX then TE.own j else TE.fb j).i=j:=by split<;>rfl
   rw[h3]
   cases hb:Nat.beq j e'.i with
   |false=>rfl
   |true=>have:=Nat.eq_of_beq_eq_true hb;omega
  rw[h2]
  simp
theorem yj {M:AH}{m i:Nat}(h:Nat.blt i M.length=true):yY (lD 0 M) m i=i∧(∀g,BF (lD 0 M) i g=g)∧(∀f,BG (lD 0 M) i f=f)∧∀g,M8 (lD 0 M) i g=true:=by
 have hl:i<M.length:=by simpa using h
 unfold yY BF BG M8
 rcases yk M 0 i hl with e|e<;>rw[e]<;>simp[TE.i]
mutual
theorem n8 {M:AH}{m:Nat}:∀v:AV,v.nb M.length=true→v.rn (lD 0 M) m=v∧v.w0 (lD 0 M)=true
 | .ptr i g off=>fun h=>by simp only[AV.nb]at h;obtain⟨h1,h2,h3,h4⟩:=yj (m:=m) h;simp[AV.rn,AV.w0,h1,h2,h3,h4]
 | .me i g _ _ off=>fun h=>by simp only[AV.nb]at h;obtain⟨h1,h2,h3,h4⟩:=yj (m:=m) h;simp[AV.rn,AV.w0,h1,h2,h3,h4]
 | .sl i g off _ _=>fun h=>by simp only[AV.nb]at h;obtain⟨h1,h2,h3,h4⟩:=yj (m:=m) h;simp[AV.rn,AV.w0,h1,h2,h3,h4]
 | .mp i g=>fun h=>by simp only[AV.nb]at h;obtain⟨h1,h2,h3,h4⟩:=yj (m:=m) h;simp[AV.rn,AV.w0,h1,h2,h3,h4]
 | .fn _ a b=>fun h=>by
   simp only[AV.nb,Bool.and_eq_true]at h
   obtain⟨h1,h2⟩:=mq (m:=m) a h.1
   obtain⟨h3,h4⟩:=mq (m:=m) b h.2
   simp[AV.rn,AV.w0,h1,h2,h3,h4]
 | .ja _ v=>fun h=>by simp only[AV.nb]at h;obtain⟨h1,h2⟩:=n8 (m:=m) v h;simp[AV.rn,AV.w0,h1,h2]
 | .agg l=>fun h=>by simp only[AV.nb]at h;obtain⟨h1,h2⟩:=mq (m:=m) l h;simp[AV.rn,AV.w0,h1,h2]
 | .aL l=>fun h=>by simp only[AV.nb]at h;obtain⟨h1,h2⟩:=mq (m:=m) l h;simp[AV.rn,AV.w0,h1,h2]
 | .bo _=>fun _=>⟨rfl,rfl⟩| .tt=>fun _=>⟨rfl,rfl⟩| .ff=>fun _=>⟨rfl,rfl⟩| .int _ _=>fun _=>⟨rfl,rfl⟩| .str _=>fun _=>⟨rfl,rfl⟩
 | .np=>fun _=>⟨rfl,rfl⟩| .ns=>fun _=>⟨rfl,rfl⟩| .nf=>fun _=>⟨rfl,rfl⟩| .ni=>fun _=>⟨rfl,rfl⟩| .nm=>fun _=>⟨rfl,rfl⟩| .raw _=>fun _=>⟨rfl,rfl⟩
theorem mq {M:AH}{m:Nat}:∀l:List AV,AV.rW M.length l=true→AV.ri (lD 0 M) m l=l∧AV.o8 (lD 0 M) l=true
 |[]=>fun _=>⟨rfl,rfl⟩
 |v::l=>fun h=>by
  simp only[AV.rW,Bool.and_eq_true]at h
  obtain⟨h1,h2⟩:=n8 (m:=m) v h.1
  obtain⟨h3,h4⟩:=mq (m:=m) l h.2
  simp[AV.ri,AV.o8,h1,h2,h3,h4]
end
theorem EF {M:AH}{m:Nat}{x:ae}(h:x.nb M.length):x.rn (lD 0 M) m=x∧x.w0 (lD 0 M):=by
 cases x with
 |cells cs=>exact⟨by simp[ae.rn,mq cs h],(mq (m:=m) cs h).2⟩
 |ints _ _ _=>exact⟨rfl,trivial⟩
 |bQ _ _=>exact⟨rfl,trivial⟩
 |cJ sz n get c=>exact⟨by simp only[ae.rn];congr 1;funext j;exact(mq _ (h j)).1,fun j=>(mq (m:=m) _ (h j)).2⟩
 |map kk es=>
  refine⟨?_,fun p hp=>(n8 (m:=m) _ (h p hp)).2⟩
  simp only[ae.rn]
  congr 1
  conv=>rhs;rw[←List.map_id es]
  refine List.map_congr_left fun p hp=>?_
  rw[(n8 (m:=m) _ (h p hp)).1];rfl
 |loop l st pd fn n a ps asg bd df=>exact⟨by simp only[ae.rn];congr 1;funext j;exact(n8 _ (h j)).1,fun j=>(n8 (m:=m) _ (h j)).2⟩
theorem Ix {M:AH}{m:Nat}{o:AO}(h:o.nb M.length):o.rn (lD 0 M) m=o∧o.w0 (lD 0 M):=by
 cases o with
 |gone=>exact⟨rfl,trivial⟩
 |one own g x=>exact⟨by simp only[AO.rn];rw[(EF (m:=m) h).1],(EF (m:=m) h).2⟩
 |bw own n x=>exact⟨by simp only[AO.rn];congr 1;funext j;exact(EF (m:=m) (h j)).1,fun j=>(EF (m:=m) (h j)).2⟩
theorem Iw {M:AH}:∀{M1:AH},lQ M.length M1→Oa (lD 0 M) M1
 |[],_=>trivial
 |o::M1,h=>⟨(Ix (m:=0) h.1).2,Iw h.2⟩
theorem yl {M E:AH}{m:Nat}:∀{M1 M0:AH},lQ M.length M1→(∀o∈M1,(o.eX||(o.Hk&&!o.eX))=true)→ur (lD 0 M) m (M0++(M1++E)) (lD M0.length M1) M1
 |[],_,_,_=>trivial
 |o::M1,M0,h,ht=>by
  have hg:(M0++(o::M1++E))[M0.length]?=some o:=by rw[List.getElem?_append_right (Nat.le_refl _)];simp
  have hr:=(Ix (m:=m) h.1).1
  have ih:=yl (E:=E) (m:=m) (M1:=M1) (M0:=M0++[o]) h.2 (fun o' ho=>ht o' (List.mem_cons_of_mem _ ho))
  rw[List.append_assoc,List.length_append]at ih
  have XF:=ht o (List.mem_cons_self ..)
  simp only[lD]
  cases ho:o.eX with
  |true=>
   rw[if_pos rfl]
   refine⟨⟨by rw[hr];exact hg,?_⟩,ih⟩
   cases o with
   |gone=>rfl
   |one own g x=>cases own<;>first|rfl|cases ho
   |bw own n x=>cases own<;>first|rfl|cases ho
  |false=>
   rw[if_neg (by simp)]
   rw[ho]at XF
   refine⟨⟨by simpa using XF,o,hg,?_⟩,ih⟩
   rw[hr]
   cases o with
   |gone=>rfl
   |one own g x=>cases own<;>first|rfl|cases ho
   |bw own n x=>cases own<;>first|rfl|cases ho
theorem yi {M E:AH}{m:Nat}:∀{M1 M' M0:AH},lQ M.length M'→M'.length=M1.length→lC (lD M0.length M1) M1 M'→c9 (lD 0 M) m (lD M0.length M1) M' (M0++(M1++E))=M0++(M'++E)
 |[],[],M0,_,_,_=>by simp[lD,c9,Nc]
 |[],_::_,_,_,hl,_=>by simp at hl
 |_::_,[],_,_,hl,_=>by simp at hl
 |o::M1,o'::M',M0,hn,hl,hk=>by
  have ih:=fun q=>yi (M:=M) (E:=E) (m:=m) (M1:=M1) (M':=M') (M0:=M0++[o']) hn.2 (by simpa using hl) q
  rw[List.append_assoc,List.length_append,List.append_assoc]at ih
  simp only[lD]at hk⊢
  cases ho:o.eX with
  |true=>
   rw[ho,if_pos rfl]at hk
   rw[if_pos rfl]
   simp only[c9,lC]at hk⊢
   rw[(Ix (m:=m) hn.1).1]
   have e:(M0++(o::M1++E)).set M0.length o'=M0++(o'::M1++E):=by
    rw[List.set_append_right _ _ (Nat.le_refl _)];simp
   rw[e]
   exact ih hk.2
  |false=>
   rw[ho,if_neg (by simp)]at hk
   rw[if_neg (by simp)]
   simp only[c9,lC]at hk⊢
   obtain⟨rfl,hk⟩:=hk
   exact ih hk
theorem aa.frame (E:AH){P:Program}{g:Nat}{args:List AV}{M:AH}{K0 Uw:AV→AH→Prop}(h:aa P g args M K0 Uw){K Kp:AV→AH→Prop}
 (ha:AV.rW M.length args=true)(hM:lQ M.length M)(ht:∀o∈M,(o.eX||(o.Hk&&!o.eX))=true)
 (hK:∀r M',K0 r M'→M'.length=M.length∧lC (lD 0 M) M M'∧lQ M.length M'∧r.nb M.length=true∧K r (M'++E))
 (S9:∀r M',Uw r M'→M'.length=M.length∧lC (lD 0 M) M M'∧lQ M.length M'∧r.nb M.length=true∧Kp r (M'++E)):aa P g args (M++E) K Kp:=by
 refine aa.lift (lD 0 M) h (mq args ha).1 (by rw[qK];simp[mq (m:=0) args ha]) (yl (M0:=[]) hM ht) (Iw hM) (fun r M' hk=>?_) (fun r M' hk=>?_)
 ·obtain⟨h1,h2,h3,h4,h5⟩:=hK r M' hk
  refine⟨h2,?_⟩
  rw[(n8 r h4).1,show c9 (lD 0 M) (M++E).length (lD 0 M) M' (M++E)=M'++E from yi (M0:=[]) h3 h1 h2]
  exact h5
 ·obtain⟨h1,h2,h3,h4,h5⟩:=S9 r M' hk
  refine⟨h2,?_⟩
  rw[(n8 r h4).1,show c9 (lD 0 M) (M++E).length (lD 0 M) M' (M++E)=M'++E from yi (M0:=[]) h3 h1 h2]
  exact h5
end Go.Proofs.Ytibadaomjlkoaaa
open Go.RowKit
namespace Go.Proofs.Ytibadaomjlkoaaa
mutual
def gG (k:Nat):AV→AV→Prop
 | .agg l,v'=>(∃l',v'=.agg l'∧uN k l l')
 | .aL l,v'=>(∃l',v'=.aL l'∧uN k l l')
 | .ns,v'=>v'=.ns∨v'=.sl k 0 0 0 0
 | .ff,v'=>v'=.ff∨v'=.bo false
 | .tt,v'=>v'=.tt∨v'=.bo true
 |v,v'=>v'=v
def uN (k:Nat):List AV→List AV→Prop
 |[],l'=>l'=[]
 |v::l,l'=>∃v1 l1,l'=v1::l1∧gG k v v1∧uN k l l1
end
mutual
theorem NP {ρ ρ':Env}{k:Nat}(hE:∀i g l,ρ i g=some l→ρ' i g=some l)(hk:ρ' k 0=some none):∀v v':AV,gG k v v'→v.ok ρ→v'.c ρ'=v.c ρ∧v'.ok ρ'
 | .agg l,v'=>fun h aA=>by
   simp only[gG]at h
   obtain⟨l',rfl,h⟩:=h
   obtain⟨h1,h2⟩:=E8 hE hk l l' h aA
   exact⟨by simp only[AV.c,h1],h2⟩
 | .aL l,v'=>fun h aA=>by
   simp only[gG]at h
   obtain⟨l',rfl,h⟩:=h
   obtain⟨h1,h2⟩:=E8 hE hk l l' h aA
   exact⟨by simp only[AV.c,h1],h2⟩
 | .ns,v'=>fun h aA=>by
   simp only[gG]at h
   rcases h with rfl|rfl
   ·exact⟨rfl,trivial⟩
   ·exact⟨by simp[AV.c,hk],by simp[AV.ok,hk]⟩
 | .ff,v'=>fun h aA=>by
   simp only[gG]at h
   rcases h with rfl|rfl<;>exact⟨rfl,trivial⟩
 | .tt,v'=>fun h aA=>by
   simp only[gG]at h
   rcases h with rfl|rfl<;>exact⟨rfl,trivial⟩
 | .ptr ..,v'=>fun h aA=>by simp only[gG]at h;subst h;exact⟨AV.cX hE _ aA,AV.cz hE _ aA⟩
 | .me ..,v'=>fun h aA=>by simp only[gG]at h;subst h;exact⟨AV.cX hE _ aA,AV.cz hE _ aA⟩
 | .sl ..,v'=>fun h aA=>by simp only[gG]at h;subst h;exact⟨AV.cX hE _ aA,AV.cz hE _ aA⟩
 | .mp ..,v'=>fun h aA=>by simp only[gG]at h;subst h;exact⟨AV.cX hE _ aA,AV.cz hE _ aA⟩
 | .fn ..,v'=>fun h aA=>by simp only[gG]at h;subst h;exact⟨AV.cX hE _ aA,AV.cz hE _ aA⟩
 | .ja ..,v'=>fun h aA=>by simp only[gG]at h;subst h;exact⟨AV.cX hE _ aA,AV.cz hE _ aA⟩
 | .bo _,v'=>fun h aA=>by simp only[gG]at h;subst h;exact⟨rfl,trivial⟩
 | .int _ _,v'=>fun h aA=>by simp only[gG]at h;subst h;exact⟨rfl,trivial⟩
 | .str _,v'=>fun h aA=>by simp only[gG]at h;subst h;exact⟨rfl,trivial⟩
 | .np,v'=>fun h aA=>by simp only[gG]at h;subst h;exact⟨rfl,trivial⟩
 | .nf,v'=>fun h aA=>by simp only[gG]at h;subst h;exact⟨rfl,trivial⟩
 | .ni,v'=>fun h aA=>by simp only[gG]at h;subst h;exact⟨rfl,trivial⟩
 | .nm,v'=>fun h aA=>by simp only[gG]at h;subst h;exact⟨rfl,trivial⟩
 | .raw _,v'=>fun h aA=>by simp only[gG]at h;subst h;exact⟨rfl,trivial⟩
theorem E8 {ρ ρ':Env}{k:Nat}(hE:∀i g l,ρ i g=some l→ρ' i g=some l)(hk:ρ' k 0=some none):∀l l':List AV,uN k l l'→AV.dE ρ l→AV.cl ρ' l'=AV.cl ρ l∧AV.dE ρ' l'
 |[],l'=>fun h _=>by simp only[uN]at h;subst h;exact⟨rfl,trivial⟩
 |v::l,l'=>fun h aA=>by
  simp only[uN]at h
  obtain⟨v1,l1,rfl,h1,h2⟩:=h
  obtain⟨a1,a2⟩:=NP hE hk v v1 h1 aA.1
  obtain⟨b1,b2⟩:=E8 hE hk l l1 h2 aA.2
  exact⟨by simp only[AV.cl,a1,b1],a2,b2⟩
end
theorem Vw.canon {M:AH}{x:ae}{l l':List AV}(hx:x.bJ)(hl:uN M.length l l'):Vw M (M++[.one true 0 x]) l l':=by
 intro ρ w hs aA
 obtain⟨h1,h2⟩:=fO (x:=x) (l:=none) (w':=w) hs (fun _ _=>rfl) (Nat.le_refl _) rfl rfl rfl (.inr ⟨rfl,hx⟩)
 obtain⟨k1,k2⟩:=E8 h2.env (ar ..) l l' hl aA
 exact⟨_,h1,h2,k1,k2⟩
mutual
theorem iU (k:Nat):∀v:AV,gG k v v
 | .agg l=>by simp only[gG];exact⟨l,rfl,uM k l⟩
 | .aL l=>by simp only[gG];exact⟨l,rfl,uM k l⟩
 | .ns=>by simp[gG]
 | .ff=>by simp[gG]
 | .tt=>by simp[gG]
 | .ptr ..=>by simp[gG]| .me ..=>by simp[gG]| .sl ..=>by simp[gG]| .mp ..=>by simp[gG]| .fn ..=>by simp[gG]| .ja ..=>by simp[gG]
 | .bo _=>by simp[gG]| .int _ _=>by simp[gG]| .str _=>by simp[gG]| .np=>by simp[gG]| .nf=>by simp[gG]| .ni=>by simp[gG]| .nm=>by simp[gG]| .raw _=>by simp[gG]
theorem uM (k:Nat):∀l:List AV,uN k l l
 |[]=>by simp[uN]
 |v::l=>by simp only[uN];exact⟨v,l,rfl,iU k v,uM k l⟩
end
theorem E6 (k:Nat):∀l l':List AV,uN k l l'→l'.length=l.length
 |[],l',h=>by simp only[uN]at h;subst h;rfl
 |v::l,l',h=>by
  simp only[uN]at h
  obtain⟨v1,l1,rfl,_,h2⟩:=h
  simp[E6 k l l1 h2]
theorem E7 (k:Nat):∀(l l':List AV),uN k l l'→∀(j:Nat)(v':AV),l'[j]?=some v'→∃v,l[j]?=some v∧gG k v v'
 |[],l',h,j,v',hj=>by simp only[uN]at h;subst h;simp at hj
 |v::l,l',h,j,v',hj=>by
  simp only[uN]at h
  obtain⟨v1,l1,rfl,h1,h2⟩:=h
  cases j with
  |zero=>simp at hj;subst hj;exact⟨v,rfl,h1⟩
  |succ j=>simpa using E7 k l l1 h2 j v' (by simpa using hj)
theorem Vw.cells {M:AH}{i g:Nat}{cs Ju:List AV}{x:ae}{l:List AV}(hm:M[i]?=some (.one true g (.cells cs)))(hc:uN M.length cs Ju)(hx:x.bJ):
 Vw M (M.set i (.one true g (.cells Ju))++[.one true 0 x]) l l:=by
 intro ρ w hs aA
 have a8:i<M.length:=(List.getElem?_eq_some_iff.1 hm).1
 obtain⟨h1,h2⟩:=fO (x:=x) (l:=none) (w':=w) hs (fun _ _=>rfl) (Nat.le_refl _) rfl rfl rfl (.inr ⟨rfl,hx⟩)
 have P0:(M++[AO.one true 0 x])[i]?=some (.one true g (.cells cs)):=by rw[List.getElem?_append_left a8];exact hm
 obtain⟨h3,h4⟩:=kE (x':=.cells Ju) h1 P0
  (by simp[ae.size,E6 _ _ _ hc]) (fun j v' qa=>by
   simp only[ae.at]at qa⊢
   obtain⟨v,hv,Zn⟩:=E7 _ _ _ hc j v' qa
   refine⟨v,hv,?_⟩
   rcases h1.holds i g true (.cells cs) (ak P0)with⟨q,e1,e2⟩|⟨_,e2⟩
   ·obtain⟨c,e,fr,k1,k2,k3,k4⟩:=e2.out rfl
    exact NP (fun _ _ _ h=>h) (ar ..) v v' Zn (k3 j v hv).1
   ·exact e2.elim) (fun h=>h.elim)
 rw[rf _ _ _ _ a8]at h3 h4
 refine⟨_,h3,h2.trans h4,?_,AV.fP h2.env l aA⟩
 exact AV.jL h2.env l aA
theorem eP (k:Nat):uN k [] []:=by simp only[uN]
theorem bP {k:Nat}{v v':AV}{l l':List AV}(h:gG k v v')(h':uN k l l'):uN k (v::l) (v'::l'):=by simp only[uN];exact⟨_,_,rfl,h,h'⟩
theorem nJ {k:Nat}{l l':List AV}(h:uN k l l'):gG k (.aL l) (.aL l'):=by simp only[gG];exact⟨_,rfl,h⟩
structure NV (a:Nat)(r:AV)(M':AH)(t:List TE)(r':AV)(N:AH):Prop where
 fit:ur t M'.length M' t N
 ZV:(bE t&&r'.w0 t)=true
 w0:Oa t N
 val:r'.rn t M'.length=r
 old:∀i,i<a→t[i]?=some (.own i)∨t[i]?=some (.fb i)
theorem aa.de {P:Program}{g:Nat}{args:List AV}{M:AH}{K Kp:AV→AH→Prop}(h:aa P g args M (fun r M'=>∃t r' N,NV M.length r M' t r' N∧K r' N) Kp):aa P g args M K Kp:=by
 unfold aa at*
 refine⟨h.1,fun ρ w hs aA=>Calls.mono (h.2 ρ w hs aA) fun e w' he=>?_⟩
 obtain⟨ρ',M',h1,h2,h3⟩:=he
 cases e with
 |returned v=>
  obtain⟨r,e1,e2,t,r',N,p,k⟩:=h3
  have hc:=p.ZV
  simp only[Bool.and_eq_true]at hc
  have s1:=uS h1 hc.1 p.fit p.w0
  have o1:r'.ok (b9 t ρ'):=nj r' hc.2 (by rw[p.val];exact e2)
  have c1:=(qq (uy (m:=M'.length)) r' o1).2
  rw[p.val]at c1
  refine⟨b9 t ρ',N,s1,⟨?_,h2.size,h2.frame,?_,h2.os,h2.tape,h2.output⟩,r',by rw[←c1];exact e1,o1,k⟩
  ·intro i g l hl
   have hi:=hs.nI i g (by rw[hl];rfl)
   have:=h2.env i g l hl
   unfold b9
   rcases p.old i hi with e|e<;>rw[e]<;>exact this
  ·intro i g x q cQ hq hb
   obtain⟨i',_,a2,a3⟩:=iV p.fit cQ hq
   exact h2.fresh i' g _ q a2 a3 hb
 |panicked ch=>
  obtain⟨r,e1,e2,e3⟩:=h3
  exact⟨ρ',M',h1,h2,r,e1,e2,e3⟩
 |outgrown=>exact h3.elim
theorem jr {M E:AH}{r:AV}(hn:lQ M.length M)(ht:∀o∈M,(o.eX||(o.Hk&&!o.eX))=true)(hr:r.nb M.length=true):NV M.length r (M++E) (lD 0 M) r M:=by
 refine⟨yl (M0:=[]) (M1:=M) (E:=E) hn ht,?_,Iw hn,(n8 r hr).1,fun i hi=>?_⟩
 ·rw[qK,(n8 (m:=0) r hr).2];rfl
 ·rcases yk M 0 i hi with e|e
  ·exact .inl (by rw[e,Nat.zero_add])
  ·exact .inr (by rw[e,Nat.zero_add])
end Go.Proofs.Ytibadaomjlkoaaa
open Go.RowKit
namespace Go.Proofs.Ytibadaomjlkoaaa
def lI (n i g off:Nat):List TE:=(List.range n).map TE.own++[.ew i g off]
theorem Km {n i g off j:Nat}(h:j<n):(lI n i g off)[j]?=some (.own j):=by
 unfold lI
 rw[List.getElem?_append_left (by simpa using h)]
 simp[h]
theorem DZ {n i g off:Nat}:(lI n i g off)[n]?=some (.ew i g off):=by
 unfold lI
 rw[List.getElem?_append_right (by simp)]
 simp
theorem Kn {n i g off j:Nat}(h:n<j):(lI n i g off)[j]?=none:=by
 unfold lI
 rw[List.getElem?_eq_none (by simp;omega)]
theorem jz {ρ:Env}{n i g off j:Nat}(h:j<n)(g':Nat):b9 (lI n i g off) ρ j g'=ρ j g':=by unfold b9;rw[Km h]
theorem E4 {ρ:Env}{n i g off:Nat}:b9 (lI n i g off) ρ n 0=(ρ i g).map (fun l=>l.map (fun q=>(q.1,q.2+off))):=by unfold b9;rw[DZ];rfl
theorem yA {ρ:Env}{n i g off j g':Nat}(h:¬j<n)(h':¬(j=n∧g'=0)):b9 (lI n i g off) ρ j g'=none:=by
 unfold b9
 by_cases e:j=n
 ·subst e;rw[DZ];simp only;rw[if_neg (fun h=>h' ⟨rfl,h⟩)]
 ·rw[Kn (by omega)]
theorem v3 {ρ:Env}{M:AH}{w:World}{i g off:Nat}{x x':ae}(h:aR ρ M w)(hm:M[i]?=some (.one true g x))(ep:off+x'.size≤x.size)
 (fu:∀k v,x'.at k=some v→x.at (off+k)=some v)(hv:x.bJ→x'.bJ)(qL:x.row=true)(B3:x'.row=true):
 aR (b9 (lI M.length i g off) ρ) (M.set i .gone++[.one true 0 x']) w∧Ext ρ M w (b9 (lI M.length i g off) ρ) (M.set i .gone++[.one true 0 x']) w:=by
 have a8:i<M.length:=(List.getElem?_eq_some_iff.1 hm).1
 have jJ:∀j g' l,ρ j g'=some l→b9 (lI M.length i g off) ρ j g'=some l:=by
  intro j g' l e
  rw[jz (h.nI j g' (by rw[e];rfl))];exact e
 have gp:∀j g',j<M.length→j≠i→slot (M.set i AO.gone++[.one true 0 x']) j g'=slot M j g':=by
  intro j g' hj eK;unfold slot
  rw[List.getElem?_append_left (by simpa using hj),List.getElem?_set_ne (Ne.symm eK)]
 have An:∀g' own y,slot (M.set i AO.gone++[.one true 0 x']) i g'=some (own,y)→False:=by
  intro g' own y hs;unfold slot at hs
  rw[List.getElem?_append_left (by simpa using a8),List.getElem?_set_self a8]at hs
  cases hs
 have nQ:∀g' own y,slot (M.set i AO.gone++[.one true 0 x']) M.length g'=some (own,y)→g'=0∧own=true∧y=x':=by
  intro g' own y hs;unfold slot at hs
  rw[List.getElem?_append_right (by simp)]at hs
  simp only[List.length_set,Nat.sub_self,List.getElem?_cons_zero,a9]at hs
  split at hs
  ·injection hs with hs;injection hs with a b;exact⟨‹_›,a.symm,b.symm⟩
  ·cases hs
 have As:∀{j g' own y},slot (M.set i AO.gone++[.one true 0 x']) j g'=some (own,y)→(j<M.length∧j≠i∧slot M j g'=some (own,y))∨(j=M.length∧g'=0∧own=true∧y=x'):=by
  intro j g' own y hs
  have hj:j<M.length+1:=by
   unfold slot at hs
   cases ho:(M.set i AO.gone++[AO.one true 0 x'])[j]? with
   |none=>rw[ho]at hs;cases hs
   |some o=>have:=(List.getElem?_eq_some_iff.1 ho).1;simpa using this
  by_cases e:j=M.length
  ·subst e;exact .inr ⟨rfl,nQ _ _ _ hs⟩
  ·have rD:j<M.length:=by omega
   by_cases ei:j=i
   ·subst ei;exact(An _ _ _ hs).elim
   ·rw[gp j g' rD ei]at hs;exact .inl ⟨rD,ei,hs⟩
 have hh:=h.holds i g true x (ak hm)
 have lL:(∃q,ρ i g=some (some q)∧bI ρ true x q.1 q.2 w∧b9 (lI M.length i g off) ρ M.length 0=some (some (q.1,q.2+off)))∨(ρ i g=some none∧x.bJ∧b9 (lI M.length i g off) ρ M.length 0=some none):=by
  rcases hh with⟨q,e1,e2⟩|⟨e1,e2⟩
  ·exact .inl ⟨q,e1,e2,by rw[E4,e1];rfl⟩
  ·exact .inr ⟨e1,e2,by rw[E4,e1];rfl⟩
 refine⟨⟨?_,?_,?_,?_,?_⟩,⟨jJ,Nat.le_refl _,fun _ _ _=>rfl,?_,rfl,rfl,rfl⟩⟩
 ·intro j g' hj
  by_cases e:j<M.length
  ·simp;omega
  ·by_cases e':j=M.length∧g'=0
   ·simp[e'.1]
   ·rw[yA e e']at hj;cases hj
 ·intro j g' own g1 y vw hj
  by_cases e:j<M.length
  ·rw[jz e]at hj
   rw[List.getElem?_append_left (by simpa using e)]at vw
   by_cases ei:j=i
   ·subst ei;rw[List.getElem?_set_self a8]at vw;cases vw
   ·rw[List.getElem?_set_ne (Ne.symm ei)]at vw;exact h.tag j g' own g1 y vw hj
  ·by_cases e':j=M.length∧g'=0
   ·omega
   ·rw[yA e e']at hj;cases hj
 ·intro j g' own n y vw hj
  by_cases e:j<M.length
  ·rw[jz e]at hj
   rw[List.getElem?_append_left (by simpa using e)]at vw
   by_cases ei:j=i
   ·subst ei;rw[List.getElem?_set_self a8]at vw;cases vw
   ·rw[List.getElem?_set_ne (Ne.symm ei)]at vw;exact h.bw j g' own n y vw hj
  ·by_cases e':j=M.length∧g'=0
   ·rw[e'.1,List.getElem?_append_right (by simp)]at vw
    simp at vw
   ·rw[yA e e']at hj;cases hj
 ·intro j g' own y hs
  rcases As hs with⟨hj,ei,hs⟩|⟨rfl,rfl,rfl,rfl⟩
  ·rw[jz hj]
   rcases h.holds j g' own y hs with⟨q,h1,h2⟩|h1
   ·exact .inl ⟨q,h1,h2.ext jJ rfl⟩
   ·exact .inr h1
  ·rcases lL with⟨q,e1,e2,e3⟩|⟨e1,e2,e3⟩
   ·refine .inl ⟨_,e3,?_⟩
    obtain⟨c,e,fr,k1,k2,k3,k4⟩:=e2.out qL
    refine .mk' B3 ⟨c,e,fr,k1,by simp only;omega,fun k v hv=>?_,k4⟩
    obtain⟨a,b⟩:=k3 (off+k) v (fu k v hv)
    exact⟨AV.cz jJ v a,by simp only;rw[AV.cX jJ v a,Nat.add_assoc];exact b⟩
   ·exact .inr ⟨e3,hv e2⟩
 ·intro j g1 y j' g2 bp y' q q' h1 h2 e1 e2 he
  rcases As h1 with⟨hj,ei,Xs⟩|⟨rfl,rfl,_,rfl⟩
  ·rw[jz hj]at e1
   rcases As h2 with⟨rD,Yi,Vm⟩|⟨rfl,rfl,_,rfl⟩
   ·rw[jz rD]at e2
    exact h.apart j g1 y j' g2 bp y' q q' Xs Vm e1 e2 he
   ·rcases lL with⟨q0,k1,k2,k3⟩|⟨_,_,k3⟩
    ·rw[k3]at e2;injection e2 with e2;injection e2 with e2;subst e2
     exact absurd (h.apart j g1 y i g true x q q0 Xs (ak hm) e1 k1 he).1 ei
    ·rw[k3]at e2;cases e2
  ·rcases lL with⟨q0,k1,k2,k3⟩|⟨_,_,k3⟩
   ·rw[k3]at e1;injection e1 with e1;injection e1 with e1;subst e1
    rcases As h2 with⟨rD,Yi,Vm⟩|⟨rfl,rfl,_,rfl⟩
    ·rw[jz rD]at e2
     exact absurd (h.apart i g x j' g2 bp y' q0 q' (ak hm) Vm k1 e2 he).1.symm Yi
    ·exact⟨rfl,rfl⟩
   ·rw[k3]at e1;cases e1
 ·intro j g1 y q hs hq hb
  rcases As hs with⟨hj,ei,hs⟩|⟨rfl,rfl,_,rfl⟩
  ·rw[jz hj]at hq;exact⟨j,g1,y,q,hs,hq,rfl⟩
  ·rcases lL with⟨q0,k1,k2,k3⟩|⟨_,_,k3⟩
   ·rw[k3]at hq;injection hq with hq;injection hq with hq;subst hq
    exact⟨i,g,x,q0,ak hm,k1,rfl⟩
   ·rw[k3]at hq;cases hq
theorem Vw.shift {M:AH}{i g off:Nat}{x x':ae}{l l':List AV}(hm:M[i]?=some (.one true g x))(ep:off+x'.size≤x.size)(fu:∀k v,x'.at k=some v→x.at (off+k)=some v)(hv:x.bJ→x'.bJ)(qL:x.row=true)(B3:x'.row=true)
 (hl:AV.ri (lI M.length i g off) 0 l'=l)(hw:AV.o8 (lI M.length i g off) l'=true):Vw M (M.set i .gone++[.one true 0 x']) l l':=by
 intro ρ w hs aA
 obtain⟨h1,h2⟩:=v3 (off:=off) hs hm ep fu hv qL B3
 have o1:=fU l' hw (by rw[hl];exact aA)
 exact⟨_,h1,h2,by rw[←(rh (uy (m:=0)) l' o1).2,hl],o1⟩
theorem Vw.k7 {M:AH}{i g:Nat}{x:ae}{l l':List AV}(hm:M[i]?=some (.one true g x))(qL:x.row=true)
 (hl:AV.ri (lI M.length i g 0) 0 l'=l)(hw:AV.o8 (lI M.length i g 0) l'=true):Vw M (M.set i .gone++[.bw true 1 (fun _=>x)]) l l':=by
 intro ρ w hs aA
 obtain⟨h1,h2⟩:=v3 (off:=0) (x':=x) hs hm (by omega) (fun k v hv=>by rw[Nat.zero_add];exact hv) (fun h=>h) qL qL
 have o1:=fU l' hw (by rw[hl];exact aA)
 have hq:(M.set i AO.gone++[AO.one true 0 x])[M.length]?=some (.one true 0 x):=by
  rw[List.getElem?_append_right (by simp)];simp
 have c:=zz h1 hq
 have d:=qi hq
 have e:(M.set i AO.gone++[AO.one true 0 x]).set M.length (.bw true 1 (fun _=>x))=M.set i .gone++[.bw true 1 (fun _=>x)]:=by
  rw[List.set_append_right _ _ (by simp)];simp
 rw[e]at c d
 exact⟨_,c,Ay h2 (fun _ _=>rfl) d,by rw[←(rh (uy (m:=0)) l' o1).2,hl],o1⟩
end Go.Proofs.Ytibadaomjlkoaaa
open Go.RowKit
namespace Go.Proofs.Ytibadaomjlkoaaa
mutual
def AV.rm (φ:Nat→Nat→Nat×Nat):AV→AV
 | .ptr i g off=>.ptr (φ i g).1 (φ i g).2 off
 | .me i g sz j o=>.me (φ i g).1 (φ i g).2 sz j o
 | .sl i g off n c=>.sl (φ i g).1 (φ i g).2 off n c
 | .mp i g=>.mp (φ i g).1 (φ i g).2
 | .fn f a b=>.fn f (AV.jc φ a) (AV.jc φ b)
 | .ja t v=>.ja t (v.rm φ)
 | .agg l=>.agg (AV.jc φ l)
 | .aL l=>.aL (AV.jc φ l)
 | .bo x=>.bo x| .tt=>.tt| .ff=>.ff| .int k n=>.int k n| .str x=>.str x| .np=>.np| .ns=>.ns| .nf=>.nf| .ni=>.ni| .nm=>.nm| .raw v=>.raw v
def AV.jc (φ:Nat→Nat→Nat×Nat):List AV→List AV
 |[]=>[]
 |v::l=>v.rm φ::AV.jc φ l
end
def r9 (φ:Nat→Nat→Nat×Nat)(ρ:Env):Env:=fun i g=>ρ (φ i g).1 (φ i g).2
mutual
theorem Pk (φ:Nat→Nat→Nat×Nat)(ρ:Env):∀v:AV,v.c (r9 φ ρ)=(v.rm φ).c ρ
 | .ptr i g off=>rfl
 | .me i g sz j o=>rfl
 | .sl i g off n c=>rfl
 | .mp i g=>rfl
 | .fn f a b=>by simp only[AV.rm,AV.c,wA φ ρ a,wA φ ρ b]
 | .ja t v=>by simp only[AV.rm,AV.c,Pk φ ρ v]
 | .agg l=>by simp only[AV.rm,AV.c,wA φ ρ l]
 | .aL l=>by simp only[AV.rm,AV.c,wA φ ρ l]
 | .bo _=>rfl| .tt=>rfl| .ff=>rfl| .int _ _=>rfl| .str _=>rfl| .np=>rfl| .ns=>rfl| .nf=>rfl| .ni=>rfl| .nm=>rfl| .raw _=>rfl
theorem wA (φ:Nat→Nat→Nat×Nat)(ρ:Env):∀l:List AV,AV.cl (r9 φ ρ) l=AV.cl ρ (AV.jc φ l)
 |[]=>rfl
 |v::l=>by simp only[AV.jc,AV.cl,Pk φ ρ v,wA φ ρ l]
end
mutual
theorem H7 (φ:Nat→Nat→Nat×Nat)(ρ:Env):∀v:AV,v.ok (r9 φ ρ)↔(v.rm φ).ok ρ
 | .ptr i g off=>Iff.rfl
 | .me i g sz j o=>Iff.rfl
 | .sl i g off n c=>Iff.rfl
 | .mp i g=>Iff.rfl
 | .fn f a b=>by simp only[AV.rm,AV.ok,qB φ ρ a,qB φ ρ b]
 | .ja t v=>by simp only[AV.rm,AV.ok,H7 φ ρ v]
 | .agg l=>by simp only[AV.rm,AV.ok,qB φ ρ l]
 | .aL l=>by simp only[AV.rm,AV.ok,qB φ ρ l]
 | .bo _=>Iff.rfl| .tt=>Iff.rfl| .ff=>Iff.rfl| .int _ _=>Iff.rfl| .str _=>Iff.rfl| .np=>Iff.rfl| .ns=>Iff.rfl| .nf=>Iff.rfl| .ni=>Iff.rfl| .nm=>Iff.rfl| .raw _=>Iff.rfl
theorem qB (φ:Nat→Nat→Nat×Nat)(ρ:Env):∀l:List AV,AV.dE (r9 φ ρ) l↔AV.dE ρ (AV.jc φ l)
 |[]=>Iff.rfl
 |v::l=>by simp only[AV.jc,AV.dE,H7 φ ρ v,qB φ ρ l]
end
def LV (M:AH)(i g:Nat):Prop:=M.length≤i∨(∃own g0 x,M[i]?=some (.one own g0 x)∧g0<g)∨(∃own m x,M[i]?=some (.bw own m x)∧m≤g)
theorem qD {ρ:Env}{M:AH}{w:World}(h:aR ρ M w){i g:Nat}(hn:LV M i g):ρ i g=none:=by
 cases hr:ρ i g with
 |none=>rfl
 |some l=>
  have hs:(ρ i g).isSome=true:=by rw[hr];rfl
  rcases hn with hn|⟨own,g0,x,h1,h2⟩|⟨own,m,x,h1,h2⟩
  ·have:=h.nI i g hs;omega
  ·have:=h.tag i g own g0 x h1 hs;omega
  ·have:=h.bw i g own m x h1 hs;omega
structure Bb (M M':AH)(φ:Nat→Nat→Nat×Nat):Prop where
 len:M.length≤M'.length
 new:∀i g,φ i g=(i,g)∨(LV M i g∧i<M'.length)
 slot:∀i g own x,slot M' i g=some (own,x)→∃HX x0,slot M (φ i g).1 (φ i g).2=some (HX,x0)∧(own=true→HX=true)∧
  (x=x0∨(x.row=true∧x0.row=true∧x.size≤x0.size∧(∀k v,x.at k=some v→x0.at k=some (v.rm φ))∧(x0.bJ→x.bJ)))
 inj:∀i g x i' g' bp x',Go.Proofs.Ytibadaomjlkoaaa.slot M' i g=some (true,x)→Go.Proofs.Ytibadaomjlkoaaa.slot M' i' g'=some (bp,x')→φ i g=φ i' g'→i=i'∧g=g'
 tag:∀i own g x,M'[i]?=some (.one own g x)→∀g',g<g'→φ i g'=(i,g')∧LV M i g'
 bw:∀i own m x,M'[i]?=some (.bw own m x)→∀g',m≤g'→φ i g'=(i,g')∧LV M i g'
theorem Hz {ρ:Env}{M M':AH}{w:World}{φ:Nat→Nat→Nat×Nat}(h:aR ρ M w)(hn:Bb M M' φ):aR (r9 φ ρ) M' w∧Ext ρ M w (r9 φ ρ) M' w:=by
 have jJ:∀i g l,ρ i g=some l→r9 φ ρ i g=some l:=by
  intro i g l e
  rcases hn.new i g with h1|⟨h1,_⟩
  ·unfold r9;rw[h1];exact e
  ·rw[qD h h1]at e;cases e
 refine⟨⟨?_,?_,?_,?_,?_⟩,⟨jJ,Nat.le_refl _,fun _ _ _=>rfl,?_,rfl,rfl,rfl⟩⟩
 ·intro i g hi
  rcases hn.new i g with h1|⟨_,h1⟩
  ·unfold r9 at hi;rw[h1]at hi;exact Nat.lt_of_lt_of_le (h.nI i g hi) hn.len
  ·exact h1
 ·intro i g own g' x hm hi
  rcases Nat.lt_or_ge g' g with a8|IZ
  ·obtain⟨h1,h2⟩:=hn.tag i own g' x hm g a8
   unfold r9 at hi;rw[h1,qD h h2]at hi;cases hi
  ·exact IZ
 ·intro i g own m x hm hi
  rcases Nat.lt_or_ge g m with a8|IZ
  ·exact a8
  ·obtain⟨h1,h2⟩:=hn.bw i own m x hm g IZ
   unfold r9 at hi;rw[h1,qD h h2]at hi;cases hi
 ·intro i g own x hs
  obtain⟨HX,x0,h1,h2,h3⟩:=hn.slot i g own x hs
  rcases h.holds _ _ _ _ h1 with⟨q,e1,e2⟩|⟨e1,e2⟩
  ·refine .inl ⟨q,e1,?_⟩
   rcases h3 with rfl|⟨r1,r2,r3,r4,r5⟩
   ·have:=e2.ext jJ rfl
    rcases this.all with⟨hx,c,e,fr,k1,k2,k3,k4⟩|h0
    ·exact .mk' hx ⟨c,e,fr,k1,k2,k3,fun ho=>k4 (h2 ho)⟩
    ·exact⟨.inr h0⟩
   ·obtain⟨c,e,fr,k1,k2,k3,k4⟩:=e2.out r2
    refine .mk' r1 ⟨c,e,fr,k1,by omega,fun k v hv=>?_,fun ho=>k4 (h2 ho)⟩
    obtain⟨a,b⟩:=k3 k _ (r4 k v hv)
    exact⟨(H7 φ ρ v).2 a,by rw[Pk φ ρ v];exact b⟩
  ·refine .inr ⟨e1,?_⟩
   rcases h3 with rfl|⟨_,_,_,_,r5⟩
   ·exact e2
   ·exact r5 e2
 ·intro i g x i' g' bp x' q q' hs vu hq Bg he
  obtain⟨HX,x0,h1,h2,_⟩:=hn.slot i g true x hs
  obtain⟨Xq,Z2,lN,_,_⟩:=hn.slot i' g' bp x' vu
  rw[h2 rfl]at h1
  have:=h.apart _ _ _ _ _ _ _ q q' h1 lN hq Bg he
  exact hn.inj i g x i' g' bp x' hs vu (Prod.ext this.1 this.2)
 ·intro i g x q hs hq _
  obtain⟨HX,x0,h1,h2,_⟩:=hn.slot i g true x hs
  rw[h2 rfl]at h1
  exact⟨_,_,x0,q,h1,hq,rfl⟩
theorem Vw.name {M M':AH}{φ:Nat→Nat→Nat×Nat}{l l':List AV}(hn:Bb M M' φ)(hl:AV.jc φ l'=l):Vw M M' l l':=by
 intro ρ w hs aA
 obtain⟨h1,h2⟩:=Hz hs hn
 exact⟨_,h1,h2,by rw[wA,hl],(qB φ ρ l').2 (by rw[hl];exact aA)⟩
def qv (a b i0 g0:Nat):Nat→Nat→Nat×Nat:=fun i g=>if i=a∧g=b then(i0,g0)else(i,g)
theorem gR {a b i0 g0:Nat}:qv a b i0 g0 a b=(i0,g0):=by simp[qv]
theorem bM {a b i0 g0 i g:Nat}(h:¬(i=a∧g=b)):qv a b i0 g0 i g=(i,g):=by simp only[qv,if_neg h]
theorem Rk {M:AH}{i g:Nat}{x:ae}(hs:slot M i g=some (false,x)):Bb M (M++[.one false 0 x]) (qv M.length 0 i g):=by
 have ck:∀j,j<M.length→(M++[AO.one false 0 x])[j]?=M[j]?:=fun j hj=>List.getElem?_append_left hj
 have EJ:∀j g',j<M.length→slot (M++[AO.one false 0 x]) j g'=slot M j g':=by intro j g' hj;unfold slot;rw[ck j hj]
 have lL:∀g' own y,slot (M++[AO.one false 0 x]) M.length g'=some (own,y)→g'=0∧own=false∧y=x:=by
  intro g' own y h
  unfold slot at h
  rw[List.getElem?_append_right (Nat.le_refl _)]at h
  simp only[Nat.sub_self,List.getElem?_cons_zero,a9]at h
  split at h
  ·injection h with h;injection h with a b;exact⟨‹_›,a.symm,b.symm⟩
  ·cases h
 have a8:∀{j g' own y},slot (M++[AO.one false 0 x]) j g'=some (own,y)→j<M.length∨j=M.length:=by
  intro j g' own y h
  unfold slot at h
  rcases Nat.lt_trichotomy j M.length with h'|h'|h'
  ·exact .inl h'
  ·exact .inr h'
  ·rw[List.getElem?_eq_none (by simp;omega)]at h;cases h
 have hi:i<M.length:=by
  unfold slot at hs
  rcases Nat.lt_or_ge i M.length with h'|h'
  ·exact h'
  ·rw[List.getElem?_eq_none h']at hs;cases hs
 refine⟨by simp,?_,?_,?_,?_,?_⟩
 ·intro j g'
  by_cases e:j=M.length∧g'=0
  ·exact .inr ⟨.inl (by omega),by simp;omega⟩
  ·exact .inl (bM e)
 ·intro j g' own y h
  rcases a8 h with h'|rfl
  ·rw[EJ j g' h']at h
   rw[bM (by omega)]
   exact⟨own,y,h,id,.inl rfl⟩
  ·obtain⟨rfl,rfl,rfl⟩:=lL _ _ _ h
   rw[gR]
   exact⟨false,y,hs,fun h=>(by cases h),.inl rfl⟩
 ·intro j g1 y j' g2 bp y' h1 h2 he
  rcases a8 h1 with lN|rfl
  ·rw[bM (by omega)]at he
   rcases a8 h2 with Td|rfl
   ·rw[bM (by omega)]at he
    simpa using he
   ·obtain⟨rfl,_,rfl⟩:=lL _ _ _ h2
    rw[gR]at he
    rw[EJ j g1 lN]at h1
    simp only[Prod.mk.injEq]at he
    obtain⟨rfl,rfl⟩:=he
    rw[hs]at h1;cases h1
  ·obtain⟨_,h,_⟩:=lL _ _ _ h1;cases h
 ·intro j own g1 y hm g' hg
  rcases Nat.lt_or_ge j M.length with h'|h'
  ·rw[ck j h']at hm
   exact⟨bM (by omega),.inr (.inl ⟨own,g1,y,hm,hg⟩)⟩
  ·exact⟨bM (by omega),.inl h'⟩
 ·intro j own m y hm g' hg
  rcases Nat.lt_or_ge j M.length with h'|h'
  ·rw[ck j h']at hm
   exact⟨bM (by omega),.inr (.inr ⟨own,m,y,hm,hg⟩)⟩
  ·rcases Nat.lt_or_ge M.length j with ZO|ZO
   ·exact⟨bM (by omega),.inl h'⟩
   ·have:j=M.length:=by omega
    subst this
    rw[List.getElem?_append_right (Nat.le_refl _)]at hm
    simp at hm
theorem Vw.pull {M:AH}{i g:Nat}{x:ae}{l l':List AV}(hs:slot M i g=some (false,x))(hl:AV.jc (qv M.length 0 i g) l'=l):Vw M (M++[.one false 0 x]) l l':=Vw.name (Rk hs) hl
theorem Vw.Tg {M:AH}{own:Bool}{f:Nat→ae}{l:List AV}:Vw M (M++[.bw own 0 f]) l l:=by
 have ck:∀j,j<M.length→(M++[AO.bw own 0 f])[j]?=M[j]?:=fun j hj=>List.getElem?_append_left hj
 have hs:∀{j g' bp y},slot (M++[AO.bw own 0 f]) j g'=some (bp,y)→slot M j g'=some (bp,y):=by
  intro j g' bp y h
  unfold slot at h⊢
  rcases Nat.lt_trichotomy j M.length with h'|h'|h'
  ·rw[ck j h']at h;exact h
  ·subst h'
   rw[List.getElem?_append_right (Nat.le_refl _)]at h
   simp[a9]at h
  ·rw[List.getElem?_eq_none (by simp;omega)]at h;cases h
 refine Vw.name (φ:=fun i g=>(i,g)) ⟨by simp,fun _ _=>.inl rfl,?_,?_,?_,?_⟩ ?_
 ·intro i g bp x h;exact⟨bp,x,hs h,id,.inl rfl⟩
 ·intro i g x i' g' bp x' _ _ he;simpa using he
 ·intro j bp g1 y hm g' hg
  rcases Nat.lt_or_ge j M.length with h'|h'
  ·rw[ck j h']at hm;exact⟨rfl,.inr (.inl ⟨bp,g1,y,hm,hg⟩)⟩
  ·exact⟨rfl,.inl h'⟩
 ·intro j bp m y hm g' hg
  rcases Nat.lt_or_ge j M.length with h'|h'
  ·rw[ck j h']at hm;exact⟨rfl,.inr (.inr ⟨bp,m,y,hm,hg⟩)⟩
  ·exact⟨rfl,.inl h'⟩
 ·have key:∀ρ:Env,r9 (fun i g=>(i,g)) ρ=ρ:=fun _=>rfl
  exact qC l
where
 qC:∀l:List AV,AV.jc (fun i g=>(i,g)) l=l
  |[]=>rfl
  |v::l=>by simp only[AV.jc];rw[Nk v,qC l]
 Nk:∀v:AV,v.rm (fun i g=>(i,g))=v
  | .ptr ..| .me ..| .sl ..| .mp ..=>rfl
  | .fn f a b=>by simp only[AV.rm];rw[qC a,qC b]
  | .ja t v=>by simp only[AV.rm];rw[Nk v]
  | .agg l=>by simp only[AV.rm];rw[qC l]
  | .aL l=>by simp only[AV.rm];rw[qC l]
  | .bo _=>rfl| .tt=>rfl| .ff=>rfl| .int _ _=>rfl| .str _=>rfl| .np=>rfl| .ns=>rfl| .nf=>rfl| .ni=>rfl| .nm=>rfl| .raw _=>rfl
theorem ME {M:AH}{iu k o m g0 go sz n c:Nat}{ow:Bool}{f f':Nat→ae}{y:ae}{get get':Nat→List AV}(hu:M[iu]?=some (.bw ow m f))(hk:M[k]?=some (.one true g0 y))(ho:M[o]?=some (.one true go (.cJ sz n get c)))
 (Pj:Nat.beq o k=false)(hf:∀r,r<m→f' r=f r)(hm:f' m=y)(hg:∀r,r<n→AV.jc (qv iu m k g0) (get' r)=get r):
 Bb M (((M.set iu (.bw ow (m+1) f')).set o (.one true go (.cJ sz n get' c))).set k .gone) (qv iu m k g0):=by
 have Pj:o≠k:=Nat.ne_of_beq_eq_false Pj
 have lu:iu<M.length:=(List.getElem?_eq_some_iff.1 hu).1
 have lk:k<M.length:=(List.getElem?_eq_some_iff.1 hk).1
 have lo:o<M.length:=(List.getElem?_eq_some_iff.1 ho).1
 have Pg:iu≠k:=by intro e;subst e;rw[hu]at hk;cases hk
 have Vj:iu≠o:=by intro e;subst e;rw[hu]at ho;cases ho
 generalize hN:(((M.set iu (.bw ow (m+1) f')).set o (.one true go (.cJ sz n get' c))).set k .gone)=N
 have hl:N.length=M.length:=by rw[←hN];simp
 have gu:N[iu]?=some (.bw ow (m+1) f'):=by
  rw[←hN,List.getElem?_set_ne (Ne.symm Pg),List.getElem?_set_ne (Ne.symm Vj),List.getElem?_set_self lu]
 have gk:N[k]?=some .gone:=by
  rw[←hN,List.getElem?_set_self (by simpa using lk)]
 have gO:N[o]?=some (.one true go (.cJ sz n get' c)):=by
  rw[←hN,List.getElem?_set_ne (Ne.symm Pj),List.getElem?_set_self (by simpa using lo)]
 have gr:∀j,j≠iu→j≠k→j≠o→N[j]?=M[j]?:=by
  intro j h1 h2 h3
  rw[←hN,List.getElem?_set_ne (Ne.symm h2),List.getElem?_set_ne (Ne.symm h3),List.getElem?_set_ne (Ne.symm h1)]
 clear hN
 have sk:slot M k g0=some (true,y):=ak hk
 have sN:∀{i g own x},slot N i g=some (own,x)→i≠k:=by
  intro i g own x h e;subst e;unfold slot at h;rw[gk]at h;cases h
 refine⟨by omega,?_,?_,?_,?_,?_⟩
 ·intro i g
  by_cases e:i=iu∧g=m
  ·obtain⟨rfl,rfl⟩:=e
   exact .inr ⟨.inr (.inr ⟨ow,_,f,hu,Nat.le_refl _⟩),by omega⟩
  ·exact .inl (bM e)
 ·intro i g own x h
  have EO:=sN h
  by_cases eu:i=iu
  ·subst eu
   unfold slot at h
   rw[gu]at h
   simp only[a9]at h
   split at h
   ·rename_i Zc
    injection h with h;injection h with e1 e2
    subst e1;subst e2
    by_cases e:g=m
    ·subst e
     rw[gR]
     exact⟨true,y,sk,fun _=>rfl,.inl hm⟩
    ·rw[bM (by omega)]
     refine⟨ow,f g,?_,id,.inl (hf g (by omega))⟩
     unfold slot;rw[hu];simp only[a9,if_pos (show g<m by omega)]
   ·cases h
  ·rw[bM (by omega)]
   by_cases eo:i=o
   ·subst eo
    unfold slot at h
    rw[gO]at h
    simp only[a9]at h
    split at h
    ·rename_i We
     subst We
     injection h with h;injection h with e1 e2
     subst e1;subst e2
     refine⟨true,_,ak ho,id,.inr ⟨rfl,rfl,Nat.le_refl _,?_,fun h=>h⟩⟩
     intro k' v hv
     simp only[ae.at]at hv⊢
     split at hv
     ·rename_i a8
      rw[if_pos a8]
      have hr:k'/sz<n:=Nat.div_lt_of_lt_mul (by rw[Nat.mul_comm];exact a8)
      rw[←hg _ hr]
      have:∀(l:List AV)(j:Nat)(v:AV),l[j]?=some v→(AV.jc (qv iu m k g0) l)[j]?=some (v.rm (qv iu m k g0)):=by
       intro l
       induction l with
       |nil=>intro j v h;simp at h
       |cons a l ih=>
        intro j v h
        cases j with
        |zero=>simp at h;subst h;simp[AV.jc]
        |succ j=>simp only[AV.jc,List.getElem?_cons_succ]at h⊢;exact ih j v h
      exact this _ _ _ hv
     ·cases hv
    ·cases h
   ·unfold slot at h
    rw[gr i eu EO eo]at h
    exact⟨own,x,h,id,.inl rfl⟩
 ·intro i g x i' g' bp x' h h' he
  have e1:=sN h
  have e2:=sN h'
  by_cases d1:i=iu∧g=m
  ·by_cases d2:i'=iu∧g'=m
   ·exact⟨d1.1.trans d2.1.symm,d1.2.trans d2.2.symm⟩
   ·obtain⟨rfl,rfl⟩:=d1
    rw[gR,bM d2]at he
    simp only[Prod.mk.injEq]at he
    exact absurd he.1.symm e2
  ·by_cases d2:i'=iu∧g'=m
   ·obtain⟨rfl,rfl⟩:=d2
    rw[gR,bM d1]at he
    simp only[Prod.mk.injEq]at he
    exact absurd he.1 e1
   ·rw[bM d1,bM d2]at he
    simpa using he
 ·intro i own g x h g' I0
  have EO:i≠k:=by intro e;subst e;rw[gk]at h;cases h
  have eu:i≠iu:=by intro e;subst e;rw[gu]at h;cases h
  refine⟨bM (by omega),?_⟩
  by_cases eo:i=o
  ·subst eo
   rw[gO]at h;injection h with h;injection h with a b
   subst b
   exact .inr (.inl ⟨true,_,_,ho,I0⟩)
  ·rw[gr i eu EO eo]at h
   exact .inr (.inl ⟨own,g,x,h,I0⟩)
 ·intro i own m' x h g' I0
  have EO:i≠k:=by intro e;subst e;rw[gk]at h;cases h
  have eo:i≠o:=by intro e;subst e;rw[gO]at h;cases h
  by_cases eu:i=iu
  ·subst eu
   rw[gu]at h;injection h with h;injection h with a b
   subst b
   exact⟨bM (by omega),.inr (.inr ⟨ow,m,f,hu,by omega⟩)⟩
  ·refine⟨bM (by omega),?_⟩
   rw[gr i eu EO eo]at h
   exact .inr (.inr ⟨own,m',x,h,I0⟩)
theorem Vw.freeze {M:AH}{iu k o m g0 go sz n c:Nat}{ow:Bool}{f:Nat→ae}{y:ae}{get:Nat→List AV}{l l':List AV}(f':Nat→ae)(get':Nat→List AV)(hu:M[iu]?=some (.bw ow m f))(hk:M[k]?=some (.one true g0 y))(ho:M[o]?=some (.one true go (.cJ sz n get c)))
 (Pj:Nat.beq o k=false)(hf:∀r,r<m→f' r=f r)(hm:f' m=y)(hg:∀r,r<n→AV.jc (qv iu m k g0) (get' r)=get r)(hl:AV.jc (qv iu m k g0) l'=l):
 Vw M (((M.set iu (.bw ow (m+1) f')).set o (.one true go (.cJ sz n get' c))).set k .gone) l l':=Vw.name (ME hu hk ho Pj hf hm hg) hl
def vo (iu m p iv:Nat):Nat→Nat→Nat×Nat:=fun i g=>if i=iu∧m≤g∧g<m+p then(iv,g-m)else(i,g)
theorem x4 {iu m p iv j:Nat}(h:j<p):vo iu m p iv iu (m+j)=(iv,j):=by unfold vo;rw[if_pos ⟨rfl,by omega,by omega⟩,Nat.add_sub_cancel_left]
theorem gQ {iu m p iv i g:Nat}(h:¬(i=iu∧m≤g∧g<m+p)):vo iu m p iv i g=(i,g):=by simp only[vo,if_neg h]
theorem Pq {M:AH}{iu iv o m p go sz n c:Nat}{ow:Bool}{f f' fv:Nat→ae}{get get':Nat→List AV}(hu:M[iu]?=some (.bw false m f))(hk:M[iv]?=some (.bw ow p fv))(ho:M[o]?=some (.one true go (.cJ sz n get c)))
 (Pg:Nat.beq iu iv=false)(hf:∀r,r<m→f' r=f r)(hm:∀r,r<p→f' (m+r)=fv r)(hg:∀r,r<n→AV.jc (vo iu m p iv) (get' r)=get r):
 Bb M (((M.set iu (.bw false (m+p) f')).set o (.one true go (.cJ sz n get' c))).set iv .gone) (vo iu m p iv):=by
 have Pg:iu≠iv:=Nat.ne_of_beq_eq_false Pg
 have lu:iu<M.length:=(List.getElem?_eq_some_iff.1 hu).1
 have lk:iv<M.length:=(List.getElem?_eq_some_iff.1 hk).1
 have lo:o<M.length:=(List.getElem?_eq_some_iff.1 ho).1
 have Pj:o≠iv:=by intro e;subst e;rw[ho]at hk;cases hk
 have Vj:iu≠o:=by intro e;subst e;rw[hu]at ho;cases ho
 generalize hN:(((M.set iu (.bw false (m+p) f')).set o (.one true go (.cJ sz n get' c))).set iv .gone)=N
 have hl:N.length=M.length:=by rw[←hN];simp
 have gu:N[iu]?=some (.bw false (m+p) f'):=by
  rw[←hN,List.getElem?_set_ne (Ne.symm Pg),List.getElem?_set_ne (Ne.symm Vj),List.getElem?_set_self lu]
 have gk:N[iv]?=some .gone:=by
  rw[←hN,List.getElem?_set_self (by simpa using lk)]
 have gO:N[o]?=some (.one true go (.cJ sz n get' c)):=by
  rw[←hN,List.getElem?_set_ne (Ne.symm Pj),List.getElem?_set_self (by simpa using lo)]
 have gr:∀j,j≠iu→j≠iv→j≠o→N[j]?=M[j]?:=by
  intro j h1 h2 h3
  rw[←hN,List.getElem?_set_ne (Ne.symm h2),List.getElem?_set_ne (Ne.symm h3),List.getElem?_set_ne (Ne.symm h1)]
 clear hN
 have sN:∀{i g own x},slot N i g=some (own,x)→i≠iv:=by
  intro i g own x h e;subst e;unfold slot at h;rw[gk]at h;cases h
 have oN:∀{i g x},slot N i g=some (true,x)→i≠iu:=by
  intro i g x h e;subst e;unfold slot at h;rw[gu]at h
  simp only[a9]at h;split at h<;>cases h
 refine⟨by omega,?_,?_,?_,?_,?_⟩
 ·intro i g
  by_cases e:i=iu∧m≤g∧g<m+p
  ·obtain⟨rfl,e1,_⟩:=e
   exact .inr ⟨.inr (.inr ⟨false,_,f,hu,e1⟩),by omega⟩
  ·exact .inl (gQ e)
 ·intro i g own x h
  have EO:=sN h
  by_cases eu:i=iu
  ·subst eu
   unfold slot at h
   rw[gu]at h
   simp only[a9]at h
   split at h
   ·rename_i Zc
    injection h with h;injection h with e1 e2
    subst e1;subst e2
    by_cases e:m≤g
    ·obtain⟨j,rfl⟩:∃j,g=m+j:=⟨g-m,by omega⟩
     have hj:j<p:=by omega
     rw[x4 hj]
     refine⟨ow,fv j,?_,fun h=>(by cases h),.inl (hm j hj)⟩
     unfold slot;rw[hk];simp only[a9,if_pos hj]
    ·rw[gQ (by omega)]
     refine⟨false,f g,?_,id,.inl (hf g (by omega))⟩
     unfold slot;rw[hu];simp only[a9,if_pos (show g<m by omega)]
   ·cases h
  ·rw[gQ (by omega)]
   by_cases eo:i=o
   ·subst eo
    unfold slot at h
    rw[gO]at h
    simp only[a9]at h
    split at h
    ·rename_i We
     subst We
     injection h with h;injection h with e1 e2
     subst e1;subst e2
     refine⟨true,_,ak ho,id,.inr ⟨rfl,rfl,Nat.le_refl _,?_,fun h=>h⟩⟩
     intro k' v hv
     simp only[ae.at]at hv⊢
     split at hv
     ·rename_i a8
      rw[if_pos a8]
      have hr:k'/sz<n:=Nat.div_lt_of_lt_mul (by rw[Nat.mul_comm];exact a8)
      rw[←hg _ hr]
      have:∀(l:List AV)(j:Nat)(v:AV),l[j]?=some v→(AV.jc (vo iu m p iv) l)[j]?=some (v.rm (vo iu m p iv)):=by
       intro l
       induction l with
       |nil=>intro j v h;simp at h
       |cons a l ih=>
        intro j v h
        cases j with
        |zero=>simp at h;subst h;simp[AV.jc]
        |succ j=>simp only[AV.jc,List.getElem?_cons_succ]at h⊢;exact ih j v h
      exact this _ _ _ hv
     ·cases hv
    ·cases h
   ·unfold slot at h
    rw[gr i eu EO eo]at h
    exact⟨own,x,h,id,.inl rfl⟩
 ·intro i g x i' g' bp x' h h' he
  have e1:=oN h
  have e2:=sN h
  rw[gQ (by omega)]at he
  by_cases e:i'=iu∧m≤g'∧g'<m+p
  ·obtain⟨rfl,e3,e4⟩:=e
   obtain⟨j,rfl⟩:∃j,g'=m+j:=⟨g'-m,by omega⟩
   rw[x4 (by omega)]at he
   simp only[Prod.mk.injEq]at he
   exact absurd he.1 e2
  ·rw[gQ e]at he
   simpa using he
 ·intro i own g x h g' I0
  have EO:i≠iv:=by intro e;subst e;rw[gk]at h;cases h
  have eu:i≠iu:=by intro e;subst e;rw[gu]at h;cases h
  refine⟨gQ (by omega),?_⟩
  by_cases eo:i=o
  ·subst eo
   rw[gO]at h;injection h with h;injection h with a b
   subst b
   exact .inr (.inl ⟨true,_,_,ho,I0⟩)
  ·rw[gr i eu EO eo]at h
   exact .inr (.inl ⟨own,g,x,h,I0⟩)
 ·intro i own m' x h g' I0
  have EO:i≠iv:=by intro e;subst e;rw[gk]at h;cases h
  have eo:i≠o:=by intro e;subst e;rw[gO]at h;cases h
  by_cases eu:i=iu
  ·subst eu
   rw[gu]at h;injection h with h;injection h with a b
   subst b
   exact⟨gQ (by omega),.inr (.inr ⟨false,m,f,hu,by omega⟩)⟩
  ·refine⟨gQ (by omega),?_⟩
   rw[gr i eu EO eo]at h
   exact .inr (.inr ⟨own,m',x,h,I0⟩)
theorem Vw.merge {M:AH}{iu iv o m p go sz n c:Nat}{ow:Bool}{f fv:Nat→ae}{get:Nat→List AV}{l l':List AV}(f':Nat→ae)(get':Nat→List AV)(hu:M[iu]?=some (.bw false m f))(hk:M[iv]?=some (.bw ow p fv))(ho:M[o]?=some (.one true go (.cJ sz n get c)))
 (Pg:Nat.beq iu iv=false)(hf:∀r,r<m→f' r=f r)(hm:∀r,r<p→f' (m+r)=fv r)(hg:∀r,r<n→AV.jc (vo iu m p iv) (get' r)=get r)(hl:AV.jc (vo iu m p iv) l'=l):
 Vw M (((M.set iu (.bw false (m+p) f')).set o (.one true go (.cJ sz n get' c))).set iv .gone) l l':=Vw.name (Pq hu hk ho Pg hf hm hg) hl
end Go.Proofs.Ytibadaomjlkoaaa
open Go.RowKit
namespace Go.Proofs.Ytibadaomjlkoaaa
set_option maxRecDepth 10000
theorem NT {x:Int}(hx:0≤x∧x<4294967296):cf .and .u64 x 4294967295=x:=by
 obtain⟨n,rfl⟩:=Int.eq_ofNat_of_zero_le hx.1
 show IntKind.wrap .u64 (((BitVec.ofInt 64 (n:Int))&&&(BitVec.ofInt 64 4294967295)).toNat:Int)=_
 have e1:n%18446744073709551616&&&4294967295=n%18446744073709551616%4294967296:=Nat.and_two_pow_sub_one_eq_mod _ 32
 have e2:(BitVec.ofInt 64 (n:Int)).toNat=n%18446744073709551616:=by rw[BitVec.toNat_ofInt];omega
 rw[BitVec.toNat_and,e2,show(BitVec.ofInt 64 4294967295).toNat=4294967295 from rfl,e1]
 simp[IntKind.wrap,IntKind.bits,IntKind.signed]
 omega
theorem Rj {x:Int}(hx:0≤x∧x<4294967296):cg .u64 x 32=0:=by
 have a1:cg .u64 x 32=x/4294967296:=Int.fdiv_eq_ediv_of_nonneg _ (by decide)
 omega
theorem BR {b:Int}(hb:0≤b∧b<4294967296){Kp}:
 aa Try.prog 91 [.int .u64 1,.int .u64 b] [] (fun r M=>r=.aL [.int .u64 0,.int .u64 b]∧M=[]) Kp:=by
 refine Ol (fun _=>[]) [] rfl ?_
 refine Rs ?_
 have e1:cf .and .u64 1 4294967295=1:=NT (by omega)
 have e2:cf .and .u64 b 4294967295=b:=NT hb
 have e3:cg .u64 1 32=0:=rfl
 have e4:cg .u64 b 32=0:=Rj hb
 have e5:cf .and .u64 0 4294967295=0:=rfl
 have e6:cg .u64 0 32=0:=rfl
 have e7:(1*b)%18446744073709551616=b:=by omega
 simp only[e1,e2,e3,e4,e5,e6,e7,Int.mul_zero,Int.zero_mul,Int.add_zero,Int.zero_add,Int.zero_emod]
 exact⟨rfl,rfl⟩
theorem Ib {b:Int}(hb:0≤b∧b<4294967296){Kp}:
 aa Try.prog 70 [.int .u64 1,.int .u64 b] [] (fun r M=>r=.aL [.int .u64 0,.int .u64 b]∧M=[]) Kp:=by
 refine OB (fun _=>[]) [] rfl ?_
 refine Rs ?_
 refine(BR hb).mono ?_ (fun _ _ h=>h)
 rintro r M ⟨rfl,rfl⟩
 refine Rs ?_
 exact rfl
theorem Po {M:AH}{K Kp:AV→AH→Prop}{b:Int}(hb:0≤b∧b<4294967296)(h:K (.aL [.int .u64 0,.int .u64 b]) M):aa Try.prog 70 [.int .u64 1,.int .u64 b] M K Kp:=by
 refine aa.lift [] (Ib (Kp:=fun _ _=>False) hb) rfl rfl trivial trivial ?_ (fun _ _ h=>h.elim)
 rintro r M' ⟨rfl,rfl⟩
 rw[←List.append_nil M]at h
 exact⟨rfl,h⟩
end Go.Proofs.Ytibadaomjlkoaaa
open Go.RowKit
namespace Go.Proofs.Ytibadaomjlkoaaa
set_option maxRecDepth 10000
theorem xY {v:Int}{k c0 c:Nat}(hk:1≤k∧k≤65536)(hv:0≤v∧v<256){Kp}:
 aa Try.prog 42 [.sl 0 0 0 1 c0,.int .i64 k] [.one false 0 (.ints .u8 [v] c)]
  (fun r M=>r=.sl 1 0 0 k k∧M=[.one false 0 (.ints .u8 [v] c),.one true 0 (.ints .u8 (List.replicate k v) k)]) Kp:=by
 refine aa.cj ?_
 refine OO (fun _=>[]) [] rfl ?_
 refine Rs ?_
 refine And.intro (fun h=>absurd (of_decide_eq_true h) (by omega)) (fun _=>?_)
 refine Rs ?_
 have e1:(k:Int)%18446744073709551616=k:=by omega
 rw[e1]
 refine Po (b:=(k:Int)) (by omega) ?_
 refine Qs ?_
 refine And.intro (fun h=>absurd (of_decide_eq_true h) (by omega)) (fun _=>?_)
 refine Qs ?_
 intro ys rY zs fc
 have hz:zs=List.replicate 1 v++List.replicate (k-1) 0:=by
  rw[fc,rY]
  show[]++_++_=_
  have:min 1 (k:Int).toNat=1:=by omega
  rw[this]
  show[]++[v]++List.drop 1 (List.replicate k 0)=_
  rw[List.drop_replicate];rfl
 subst hz
 have hm:((min 1 (k:Int).toNat:Nat):Int)=1:=by omega
 rw[hm]
 refine Qs ?_
 refine WO.go (σ:=Nat) (fun n=>1≤n∧n≤k) (fun n=>k-n)
  (fun n=>[(7,.sl 1 0 0 k k),(8,.int .i64 n)])
  (fun n=>[.one false 0 (.ints .u8 [v] c),.one true 0 (.ints .u8 (List.replicate n v++List.replicate (k-n) 0) k)]) 1 ag mixed (by kernel_rfl)
  ⟨Nat.le_refl _,hk.1⟩ (aI rfl (aI rfl (trivial))) (aI rfl (aI rfl (trivial))) (fun _=>rfl) (fun _=>rfl) (fun _=>⟨trivial,trivial,trivial⟩) ?_
 rintro n ⟨h1,h2⟩ d
 refine Qs ?_
 refine And.intro (fun hc=>?_) (fun hc=>?_)
 ·have rF:(n:Int)<k:=of_decide_eq_true hc
  refine Qs ?_
  rw[LO (by omega)]
  refine Qs ?_
  intro Z1 Gh Yt RZ
  obtain⟨m,hm⟩:∃m,m=min (n:Int).toNat (k-(n:Int).toNat):=⟨_,rfl⟩
  rw[←hm]at RZ Gh
  have hz:Yt=List.replicate (n+m) v++List.replicate (k-(n+m)) 0:=by
   rw[RZ,Gh]
   show List.take (0+n*1) _++List.take m (List.drop 0 _)++List.drop (0+n*1+m) _=_
   simp only[Nat.zero_add,Nat.mul_one,List.drop_zero]
   rw[List.take_append_of_le_length (by simp),List.take_append_of_le_length (by simp;omega),List.drop_append]
   simp only[List.length_replicate,List.take_replicate,List.drop_replicate]
   rw[show n-(n+m)=0 by omega,show n+m-n=m by omega,show min n n=n by omega,show min m n=m by omega,show k-n-m=k-(n+m) by omega]
   simp[List.replicate_append_replicate]
  subst hz
  rw[←hm]
  refine Qs ?_
  refine RO.same (n+m) ⟨by omega,by omega⟩ (show k-(n+m)<k-n by omega) (And.intro rfl (And.intro ?_ trivial)) (aI rfl (aI rfl (trivial)))
  show AV.int .i64 ((n:Int)+m)=AV.int .i64 ((n+m:Nat):Int)
  push_cast;rfl
 ·have rF:¬(n:Int)<k:=of_decide_eq_false hc
  obtain rfl:n=k:=by omega
  refine Qs ?_
  have e:List.replicate n v++List.replicate (n-n) 0=List.replicate n v:=by simp
  exact Exists.intro [AO.one false 0 (.ints .u8 [v] c),.one true 0 (.ints .u8 (List.replicate n v) n)] (And.intro (And.intro rfl (And.intro (by rw[e]) trivial)) (And.intro ⟨trivial,trivial,trivial⟩ (And.intro rfl ⟨rfl,rfl⟩)))
theorem bS {M:AH}{K Kp:AV→AH→Prop}{i g k c co:Nat}{o:Bool}{v:Int}(hi:M[i]?=some (.one o g (.ints .u8 [v] co)))(hk:1≤k∧k≤65536)(hv:0≤v∧v<256)
 (h:K (.sl M.length 0 0 k k) (M++[.one true 0 (.ints .u8 (List.replicate k v) k)])):aa Try.prog 42 [.sl i g 0 1 c,.int .i64 k] M K Kp:=by
 refine aa.lift [.ew i g 0] (xY (c0:=c) (c:=co) (Kp:=fun _ _=>False) hk hv) rfl rfl ⟨⟨_,_,_,rfl,ak hi,eB.same rfl (fun h=>h)⟩,trivial⟩ ⟨trivial,trivial⟩ ?_ (fun _ _ h=>h.elim)
 rintro r M' ⟨rfl,rfl⟩
 exact⟨⟨rfl,rfl⟩,h⟩
end Go.Proofs.Ytibadaomjlkoaaa
