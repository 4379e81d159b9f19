import Derived.Test.YtibadaomjlkoaaaGb
set_option linter.unusedVariables false
set_option linter.unusedSimpArgs false
open Go.RowKit
namespace Go.Proofs.Ytibadaomjlkoaaa
def lx:Nat→AH→List TE
 |_,[]=>[]
 |j,o::M=>(if o.eV then TE.own j else TE.eZ j)::lx (j+1) M
theorem ya:∀(M:AH)(j k:Nat),k<M.length→(lx j M)[k]?=some (.own (j+k))∨(lx j M)[k]?=some (.eZ (j+k))
 |o::M,j,0,_=>by
  simp only[lx,List.getElem?_cons_zero,Nat.add_zero]
  split
  ·exact .inl rfl
  ·exact .inr rfl
 |o::M,j,k+1,h=>by
  have:=ya M (j+1) k (by simpa using h)
  simp only[lx,List.getElem?_cons_succ]
  rw[show j+(k+1)=j+1+k by omega]
  exact this
theorem En:∀(M:AH)(j:Nat),∀e∈lx j M,j≤e.i
 |[],_,e,h=>by cases h
 |o::M,j,e,h=>by
  simp only[lx,List.mem_cons]at h
  rcases h with rfl|h
  ·split<;>exact Nat.le_refl _
  ·have:=En M (j+1) e h;omega
theorem qz:∀(M:AH)(j:Nat),bB (lx j M)=true
 |[],_=>rfl
 |o::M,j=>by
  simp only[lx,bB,Bool.and_eq_true,List.all_eq_true]
  refine⟨fun e' he=>?_,qz M (j+1)⟩
  have h1:=En M (j+1) e' he
  have h2:Nat.beq (if o.eV then TE.own j else TE.eZ j).i e'.i=false:=by
   have h3:(if o.eV then TE.own j else TE.eZ j).i=j:=by split<;>rfl
   rw[h3]
   cases hb:Nat.beq j e'.i with
   |false=>rfl
   |true=>have:=Nat.eq_of_beq_eq_true hb;omega
  rw[h2]
  simp
theorem x9 {M:AH}{m i:Nat}(h:Nat.blt i M.length=true):yP (lx 0 M) m i=i∧(∀g,Bp (lx 0 M) i g=g)∧(∀f,Bq (lx 0 M) i f=f)∧∀g,MC (lx 0 M) i g=true:=by
 have hl:i<M.length:=by simpa using h
 unfold yP Bp Bq MC
 rcases ya M 0 i hl with e|e<;>rw[e]<;>simp[TE.i]
mutual
theorem nT {M:AH}{m:Nat}:∀v:AV,v.nb M.length=true→v.rn (lx 0 M) m=v∧v.w0 (lx 0 M)=true
 | .ptr i g off=>fun h=>by simp only[AV.nb]at h;obtain⟨h1,h2,h3,h4⟩:=x9 (m:=m) h;simp[AV.rn,AV.w0,h1,h2,h3,h4]
 | .lY i g _ _ off=>fun h=>by simp only[AV.nb]at h;obtain⟨h1,h2,h3,h4⟩:=x9 (m:=m) h;simp[AV.rn,AV.w0,h1,h2,h3,h4]
 | .sl i g off _ _=>fun h=>by simp only[AV.nb]at h;obtain⟨h1,h2,h3,h4⟩:=x9 (m:=m) h;simp[AV.rn,AV.w0,h1,h2,h3,h4]
 | .mp i g=>fun h=>by simp only[AV.nb]at h;obtain⟨h1,h2,h3,h4⟩:=x9 (m:=m) h;simp[AV.rn,AV.w0,h1,h2,h3,h4]
 | .fn _ a b=>fun h=>by
   simp only[AV.nb,Bool.and_eq_true]at h
   obtain⟨h1,h2⟩:=me (m:=m) a h.1
   obtain⟨h3,h4⟩:=me (m:=m) b h.2
   simp[AV.rn,AV.w0,h1,h2,h3,h4]
 | .iU _ v=>fun h=>by simp only[AV.nb]at h;obtain⟨h1,h2⟩:=nT (m:=m) v h;simp[AV.rn,AV.w0,h1,h2]
 | .agg l=>fun h=>by simp only[AV.nb]at h;obtain⟨h1,h2⟩:=me (m:=m) l h;simp[AV.rn,AV.w0,h1,h2]
 | .aG l=>fun h=>by simp only[AV.nb]at h;obtain⟨h1,h2⟩:=me (m:=m) l h;simp[AV.rn,AV.w0,h1,h2]
 | .bo _=>fun _=>⟨rfl,rfl⟩| .tt=>fun _=>⟨rfl,rfl⟩| .ff=>fun _=>⟨rfl,rfl⟩| .int _ _=>fun _=>⟨rfl,rfl⟩| .str _=>fun _=>⟨rfl,rfl⟩
 | .np=>fun _=>⟨rfl,rfl⟩| .ns=>fun _=>⟨rfl,rfl⟩| .nf=>fun _=>⟨rfl,rfl⟩| .ni=>fun _=>⟨rfl,rfl⟩| .nm=>fun _=>⟨rfl,rfl⟩| .raw _=>fun _=>⟨rfl,rfl⟩
theorem me {M:AH}{m:Nat}:∀l:List AV,AV.rN M.length l=true→AV.qZ (lx 0 M) m l=l∧AV.oT (lx 0 M) l=true
 |[]=>fun _=>⟨rfl,rfl⟩
 |v::l=>fun h=>by
  simp only[AV.rN,Bool.and_eq_true]at h
  obtain⟨h1,h2⟩:=nT (m:=m) v h.1
  obtain⟨h3,h4⟩:=me (m:=m) l h.2
  simp[AV.qZ,AV.oT,h1,h2,h3,h4]
end
theorem Eo {M:AH}{m:Nat}{x:ae}(h:x.nb M.length):x.rn (lx 0 M) m=x∧x.w0 (lx 0 M):=by
 cases x with
 |cells cs=>exact⟨by simp[ae.rn,me cs h],(me (m:=m) cs h).2⟩
 |ints _ _ _=>exact⟨rfl,trivial⟩
 |bN _ _=>exact⟨rfl,trivial⟩
 |cI sz n get c=>exact⟨by simp only[ae.rn];congr 1;funext j;exact(me _ (h j)).1,fun j=>(me (m:=m) _ (h j)).2⟩
 |map kk es=>
  refine⟨?_,fun p hp=>(nT (m:=m) _ (h p hp)).2⟩
  simp only[ae.rn]
  congr 1
  conv=>rhs;rw[←List.map_id es]
  refine List.map_congr_left fun p hp=>?_
  rw[(nT (m:=m) _ (h p hp)).1];rfl
 |loop l st pd fn n a ps asg bd df=>exact⟨by simp only[ae.rn];congr 1;funext j;exact(nT _ (h j)).1,fun j=>(nT (m:=m) _ (h j)).2⟩
theorem H8 {M:AH}{m:Nat}{o:AO}(h:o.nb M.length):o.rn (lx 0 M) m=o∧o.w0 (lx 0 M):=by
 cases o with
 |gone=>exact⟨rfl,trivial⟩
 |one own g x=>exact⟨by simp only[AO.rn];rw[(Eo (m:=m) h).1],(Eo (m:=m) h).2⟩
 |bu own n x=>exact⟨by simp only[AO.rn];congr 1;funext j;exact(Eo (m:=m) (h j)).1,fun j=>(Eo (m:=m) (h j)).2⟩
theorem H7 {M:AH}:∀{M1:AH},lJ M.length M1→NJ (lx 0 M) M1
 |[],_=>trivial
 |o::M1,h=>⟨(H8 (m:=0) h.1).2,H7 h.2⟩
theorem yb {M E:AH}{m:Nat}:∀{M1 M0:AH},lJ M.length M1→(∀o∈M1,(o.eV||(o.G0&&!o.eV))=true)→ud (lx 0 M) m (M0++(M1++E)) (lx M0.length M1) M1
 |[],_,_,_=>trivial
 |o::M1,M0,h,ht=>by
  have hg:(M0++(o::M1++E))[M0.length]?=some o:=by rw[List.getElem?_append_right (Nat.le_refl _)];simp
  have hr:=(H8 (m:=m) h.1).1
  have ih:=yb (E:=E) (m:=m) (M1:=M1) (M0:=M0++[o]) h.2 (fun o' ho=>ht o' (List.mem_cons_of_mem _ ho))
  rw[List.append_assoc,List.length_append]at ih
  have Xf:=ht o (List.mem_cons_self ..)
  simp only[lx]
  cases ho:o.eV with
  |true=>
   rw[if_pos rfl]
   refine⟨⟨by rw[hr];exact hg,?_⟩,ih⟩
   cases o with
   |gone=>rfl
   |one own g x=>cases own<;>first|rfl|cases ho
   |bu own n x=>cases own<;>first|rfl|cases ho
  |false=>
   rw[if_neg (by simp)]
   rw[ho]at Xf
   refine⟨⟨by simpa using Xf,o,hg,?_⟩,ih⟩
   rw[hr]
   cases o with
   |gone=>rfl
   |one own g x=>cases own<;>first|rfl|cases ho
   |bu own n x=>cases own<;>first|rfl|cases ho
theorem x8 {M E:AH}{m:Nat}:∀{M1 M' M0:AH},lJ M.length M'→M'.length=M1.length→lr (lx M0.length M1) M1 M'→c8 (lx 0 M) m (lx M0.length M1) M' (M0++(M1++E))=M0++(M'++E)
 |[],[],M0,_,_,_=>by simp[lx,c8,MH]
 |[],_::_,_,_,hl,_=>by simp at hl
 |_::_,[],_,_,hl,_=>by simp at hl
 |o::M1,o'::M',M0,hn,hl,hk=>by
  have ih:=fun q=>x8 (M:=M) (E:=E) (m:=m) (M1:=M1) (M':=M') (M0:=M0++[o']) hn.2 (by simpa using hl) q
  rw[List.append_assoc,List.length_append,List.append_assoc]at ih
  simp only[lx]at hk⊢
  cases ho:o.eV with
  |true=>
   rw[ho,if_pos rfl]at hk
   rw[if_pos rfl]
   simp only[c8,lr]at hk⊢
   rw[(H8 (m:=m) hn.1).1]
   have e:(M0++(o::M1++E)).set M0.length o'=M0++(o'::M1++E):=by
    rw[List.set_append_right _ _ (Nat.le_refl _)];simp
   rw[e]
   exact ih hk.2
  |false=>
   rw[ho,if_neg (by simp)]at hk
   rw[if_neg (by simp)]
   simp only[c8,lr]at hk⊢
   obtain⟨rfl,hk⟩:=hk
   exact ih hk
theorem aa.frame (E:AH){P:Program}{g:Nat}{args:List AV}{M:AH}{K0 T7:AV→AH→Prop}(h:aa P g args M K0 T7){K Kp:AV→AH→Prop}
 (ha:AV.rN M.length args=true)(hM:lJ M.length M)(ht:∀o∈M,(o.eV||(o.G0&&!o.eV))=true)
 (hK:∀r M',K0 r M'→M'.length=M.length∧lr (lx 0 M) M M'∧lJ M.length M'∧r.nb M.length=true∧K r (M'++E))
 (SH:∀r M',T7 r M'→M'.length=M.length∧lr (lx 0 M) M M'∧lJ M.length M'∧r.nb M.length=true∧Kp r (M'++E)):aa P g args (M++E) K Kp:=by
 refine aa.lift (lx 0 M) h (me args ha).1 (by rw[qz];simp[me (m:=0) args ha]) (yb (M0:=[]) hM ht) (H7 hM) (fun r M' hk=>?_) (fun r M' hk=>?_)
 ·obtain⟨h1,h2,h3,h4,h5⟩:=hK r M' hk
  refine⟨h2,?_⟩
  rw[(nT r h4).1,show c8 (lx 0 M) (M++E).length (lx 0 M) M' (M++E)=M'++E from x8 (M0:=[]) h3 h1 h2]
  exact h5
 ·obtain⟨h1,h2,h3,h4,h5⟩:=SH r M' hk
  refine⟨h2,?_⟩
  rw[(nT r h4).1,show c8 (lx 0 M) (M++E).length (lx 0 M) M' (M++E)=M'++E from x8 (M0:=[]) h3 h1 h2]
  exact h5
end Go.Proofs.Ytibadaomjlkoaaa
open Go.RowKit
namespace Go.Proofs.Ytibadaomjlkoaaa
mutual
def gz (k:Nat):AV→AV→Prop
 | .agg l,v'=>(∃l',v'=.agg l'∧uA k l l')
 | .aG l,v'=>(∃l',v'=.aG l'∧uA k l l')
 | .ns,v'=>v'=.ns∨v'=.sl k 0 0 0 0
 | .ff,v'=>v'=.ff∨v'=.bo false
 | .tt,v'=>v'=.tt∨v'=.bo true
 |v,v'=>v'=v
def uA (k:Nat):List AV→List AV→Prop
 |[],l'=>l'=[]
 |v::l,l'=>∃v1 l1,l'=v1::l1∧gz k v v1∧uA k l l1
end
mutual
theorem Np {ρ ρ':Env}{k:Nat}(hE:∀i g l,ρ i g=some l→ρ' i g=some l)(hk:ρ' k 0=some none):∀v v':AV,gz k v v'→v.ok ρ→v'.c ρ'=v.c ρ∧v'.ok ρ'
 | .agg l,v'=>fun h aA=>by
   simp only[gz]at h
   obtain⟨l',rfl,h⟩:=h
   obtain⟨h1,h2⟩:=ER hE hk l l' h aA
   exact⟨by simp only[AV.c,h1],h2⟩
 | .aG l,v'=>fun h aA=>by
   simp only[gz]at h
   obtain⟨l',rfl,h⟩:=h
   obtain⟨h1,h2⟩:=ER hE hk l l' h aA
   exact⟨by simp only[AV.c,h1],h2⟩
 | .ns,v'=>fun h aA=>by
   simp only[gz]at h
   rcases h with rfl|rfl
   ·exact⟨rfl,trivial⟩
   ·exact⟨by simp[AV.c,hk],by simp[AV.ok,hk]⟩
 | .ff,v'=>fun h aA=>by
   simp only[gz]at h
   rcases h with rfl|rfl<;>exact⟨rfl,trivial⟩
 | .tt,v'=>fun h aA=>by
   simp only[gz]at h
   rcases h with rfl|rfl<;>exact⟨rfl,trivial⟩
 | .ptr ..,v'=>fun h aA=>by simp only[gz]at h;subst h;exact⟨AV.cW hE _ aA,AV.cy hE _ aA⟩
 | .lY ..,v'=>fun h aA=>by simp only[gz]at h;subst h;exact⟨AV.cW hE _ aA,AV.cy hE _ aA⟩
 | .sl ..,v'=>fun h aA=>by simp only[gz]at h;subst h;exact⟨AV.cW hE _ aA,AV.cy hE _ aA⟩
 | .mp ..,v'=>fun h aA=>by simp only[gz]at h;subst h;exact⟨AV.cW hE _ aA,AV.cy hE _ aA⟩
 | .fn ..,v'=>fun h aA=>by simp only[gz]at h;subst h;exact⟨AV.cW hE _ aA,AV.cy hE _ aA⟩
 | .iU ..,v'=>fun h aA=>by simp only[gz]at h;subst h;exact⟨AV.cW hE _ aA,AV.cy hE _ aA⟩
 | .bo _,v'=>fun h aA=>by simp only[gz]at h;subst h;exact⟨rfl,trivial⟩
 | .int _ _,v'=>fun h aA=>by simp only[gz]at h;subst h;exact⟨rfl,trivial⟩
 | .str _,v'=>fun h aA=>by simp only[gz]at h;subst h;exact⟨rfl,trivial⟩
 | .np,v'=>fun h aA=>by simp only[gz]at h;subst h;exact⟨rfl,trivial⟩
 | .nf,v'=>fun h aA=>by simp only[gz]at h;subst h;exact⟨rfl,trivial⟩
 | .ni,v'=>fun h aA=>by simp only[gz]at h;subst h;exact⟨rfl,trivial⟩
 | .nm,v'=>fun h aA=>by simp only[gz]at h;subst h;exact⟨rfl,trivial⟩
 | .raw _,v'=>fun h aA=>by simp only[gz]at h;subst h;exact⟨rfl,trivial⟩
theorem ER {ρ ρ':Env}{k:Nat}(hE:∀i g l,ρ i g=some l→ρ' i g=some l)(hk:ρ' k 0=some none):∀l l':List AV,uA k l l'→AV.dC ρ l→AV.cl ρ' l'=AV.cl ρ l∧AV.dC ρ' l'
 |[],l'=>fun h _=>by simp only[uA]at h;subst h;exact⟨rfl,trivial⟩
 |v::l,l'=>fun h aA=>by
  simp only[uA]at h
  obtain⟨v1,l1,rfl,h1,h2⟩:=h
  obtain⟨a1,a2⟩:=Np hE hk v v1 h1 aA.1
  obtain⟨b1,b2⟩:=ER hE hk l l1 h2 aA.2
  exact⟨by simp only[AV.cl,a1,b1],a2,b2⟩
end
theorem Vw.canon {M:AH}{x:ae}{l l':List AV}(hx:x.bI)(hl:uA M.length l l'):Vw M (M++[.one true 0 x]) l l':=by
 intro ρ w hs aA
 obtain⟨h1,h2⟩:=fN (x:=x) (l:=none) (w':=w) hs (fun _ _=>rfl) (Nat.le_refl _) rfl rfl rfl (.inr ⟨rfl,hx⟩)
 obtain⟨k1,k2⟩:=ER h2.env (ar ..) l l' hl aA
 exact⟨_,h1,h2,k1,k2⟩
mutual
theorem iO (k:Nat):∀v:AV,gz k v v
 | .agg l=>by simp only[gz];exact⟨l,rfl,uz k l⟩
 | .aG l=>by simp only[gz];exact⟨l,rfl,uz k l⟩
 | .ns=>by simp[gz]
 | .ff=>by simp[gz]
 | .tt=>by simp[gz]
 | .ptr ..=>by simp[gz]| .lY ..=>by simp[gz]| .sl ..=>by simp[gz]| .mp ..=>by simp[gz]| .fn ..=>by simp[gz]| .iU ..=>by simp[gz]
 | .bo _=>by simp[gz]| .int _ _=>by simp[gz]| .str _=>by simp[gz]| .np=>by simp[gz]| .nf=>by simp[gz]| .ni=>by simp[gz]| .nm=>by simp[gz]| .raw _=>by simp[gz]
theorem uz (k:Nat):∀l:List AV,uA k l l
 |[]=>by simp[uA]
 |v::l=>by simp only[uA];exact⟨v,l,rfl,iO k v,uz k l⟩
end
theorem EO (k:Nat):∀l l':List AV,uA k l l'→l'.length=l.length
 |[],l',h=>by simp only[uA]at h;subst h;rfl
 |v::l,l',h=>by
  simp only[uA]at h
  obtain⟨v1,l1,rfl,_,h2⟩:=h
  simp[EO k l l1 h2]
theorem EP (k:Nat):∀(l l':List AV),uA k l l'→∀(j:Nat)(v':AV),l'[j]?=some v'→∃v,l[j]?=some v∧gz k v v'
 |[],l',h,j,v',hj=>by simp only[uA]at h;subst h;simp at hj
 |v::l,l',h,j,v',hj=>by
  simp only[uA]at h
  obtain⟨v1,l1,rfl,h1,h2⟩:=h
  cases j with
  |zero=>simp at hj;subst hj;exact⟨v,rfl,h1⟩
  |succ j=>simpa using EP k l l1 h2 j v' (by simpa using hj)
theorem Vw.cells {M:AH}{i g:Nat}{cs I6:List AV}{x:ae}{l:List AV}(hm:M[i]?=some (.one true g (.cells cs)))(hc:uA M.length cs I6)(hx:x.bI):
 Vw M (M.set i (.one true g (.cells I6))++[.one true 0 x]) l l:=by
 intro ρ w hs aA
 have aZ:i<M.length:=(List.getElem?_eq_some_iff.1 hm).1
 obtain⟨h1,h2⟩:=fN (x:=x) (l:=none) (w':=w) hs (fun _ _=>rfl) (Nat.le_refl _) rfl rfl rfl (.inr ⟨rfl,hx⟩)
 have Pz:(M++[AO.one true 0 x])[i]?=some (.one true g (.cells cs)):=by rw[List.getElem?_append_left aZ];exact hm
 obtain⟨h3,h4⟩:=kA (x':=.cells I6) h1 Pz
  (by simp[ae.size,EO _ _ _ hc]) (fun j v' pV=>by
   simp only[ae.at]at pV⊢
   obtain⟨v,hv,YY⟩:=EP _ _ _ hc j v' pV
   refine⟨v,hv,?_⟩
   rcases h1.holds i g true (.cells cs) (ak Pz)with⟨q,e1,e2⟩|⟨_,e2⟩
   ·obtain⟨c,e,fr,k1,k2,k3,k4⟩:=e2.out rfl
    exact Np (fun _ _ _ h=>h) (ar ..) v v' YY (k3 j v hv).1
   ·exact e2.elim) (fun h=>h.elim)
 rw[qX _ _ _ _ aZ]at h3 h4
 refine⟨_,h3,h2.trans h4,?_,AV.fO h2.env l aA⟩
 exact AV.jD h2.env l aA
theorem eO (k:Nat):uA k [] []:=by simp only[uA]
theorem bM {k:Nat}{v v':AV}{l l':List AV}(h:gz k v v')(h':uA k l l'):uA k (v::l) (v'::l'):=by simp only[uA];exact⟨_,_,rfl,h,h'⟩
theorem nx {k:Nat}{l l':List AV}(h:uA k l l'):gz k (.aG l) (.aG l'):=by simp only[gz];exact⟨_,rfl,h⟩
structure Nv (a:Nat)(r:AV)(M':AH)(t:List TE)(r':AV)(N:AH):Prop where
 fit:ud t M'.length M' t N
 Zy:(bB t&&r'.w0 t)=true
 w0:NJ t N
 val:r'.rn t M'.length=r
 old:∀i,i<a→t[i]?=some (.own i)∨t[i]?=some (.eZ i)
theorem aa.dc {P:Program}{g:Nat}{args:List AV}{M:AH}{K Kp:AV→AH→Prop}(h:aa P g args M (fun r M'=>∃t r' N,Nv M.length r M' t r' N∧K r' N) Kp):aa P g args M K Kp:=by
 unfold aa at*
 refine⟨h.1,fun ρ w hs aA=>Calls.mono (h.2 ρ w hs aA) fun e w' he=>?_⟩
 obtain⟨ρ',M',h1,h2,h3⟩:=he
 cases e with
 |returned v=>
  obtain⟨r,e1,e2,t,r',N,p,k⟩:=h3
  have hc:=p.Zy
  simp only[Bool.and_eq_true]at hc
  have s1:=uG h1 hc.1 p.fit p.w0
  have o1:r'.ok (bZ t ρ'):=mX r' hc.2 (by rw[p.val];exact e2)
  have c1:=(qe (uh (m:=M'.length)) r' o1).2
  rw[p.val]at c1
  refine⟨bZ t ρ',N,s1,⟨?_,h2.size,h2.frame,?_,h2.os,h2.tape,h2.output⟩,r',by rw[←c1];exact e1,o1,k⟩
  ·intro i g l hl
   have hi:=hs.nw i g (by rw[hl];rfl)
   have:=h2.env i g l hl
   unfold bZ
   rcases p.old i hi with e|e<;>rw[e]<;>exact this
  ·intro i g x q cQ hq hb
   obtain⟨i',_,a2,a3⟩:=iP p.fit cQ hq
   exact h2.fresh i' g _ q a2 a3 hb
 |panicked ch=>
  obtain⟨r,e1,e2,e3⟩:=h3
  exact⟨ρ',M',h1,h2,r,e1,e2,e3⟩
 |outgrown=>exact h3.elim
theorem jk {M E:AH}{r:AV}(hn:lJ M.length M)(ht:∀o∈M,(o.eV||(o.G0&&!o.eV))=true)(hr:r.nb M.length=true):Nv M.length r (M++E) (lx 0 M) r M:=by
 refine⟨yb (M0:=[]) (M1:=M) (E:=E) hn ht,?_,H7 hn,(nT r hr).1,fun i hi=>?_⟩
 ·rw[qz,(nT (m:=0) r hr).2];rfl
 ·rcases ya M 0 i hi with e|e
  ·exact .inl (by rw[e,Nat.zero_add])
  ·exact .inr (by rw[e,Nat.zero_add])
end Go.Proofs.Ytibadaomjlkoaaa
open Go.RowKit
namespace Go.Proofs.Ytibadaomjlkoaaa
def lB (n i g off:Nat):List TE:=(List.range n).map TE.own++[.ep i g off]
theorem JX {n i g off j:Nat}(h:j<n):(lB n i g off)[j]?=some (.own j):=by
 unfold lB
 rw[List.getElem?_append_left (by simpa using h)]
 simp[h]
theorem DH {n i g off:Nat}:(lB n i g off)[n]?=some (.ep i g off):=by
 unfold lB
 rw[List.getElem?_append_right (by simp)]
 simp
theorem JY {n i g off j:Nat}(h:n<j):(lB n i g off)[j]?=none:=by
 unfold lB
 rw[List.getElem?_eq_none (by simp;omega)]
theorem js {ρ:Env}{n i g off j:Nat}(h:j<n)(g':Nat):bZ (lB n i g off) ρ j g'=ρ j g':=by unfold bZ;rw[JX h]
theorem EM {ρ:Env}{n i g off:Nat}:bZ (lB n i g off) ρ n 0=(ρ i g).map (fun l=>l.map (fun q=>(q.1,q.2+off))):=by unfold bZ;rw[DH];rfl
theorem yo {ρ:Env}{n i g off j g':Nat}(h:¬j<n)(h':¬(j=n∧g'=0)):bZ (lB n i g off) ρ j g'=none:=by
 unfold bZ
 by_cases e:j=n
 ·subst e;rw[DH];simp only;rw[if_neg (fun h=>h' ⟨rfl,h⟩)]
 ·rw[JY (by omega)]
theorem vS {ρ:Env}{M:AH}{w:World}{i g off:Nat}{x x':ae}(h:aR ρ M w)(hm:M[i]?=some (.one true g x))(er:off+x'.size≤x.size)
 (fp:∀k v,x'.at k=some v→x.at (off+k)=some v)(hv:x.bI→x'.bI)(qA:x.row=true)(BN:x'.row=true):
 aR (bZ (lB M.length i g off) ρ) (M.set i .gone++[.one true 0 x']) w∧Ext ρ M w (bZ (lB M.length i g off) ρ) (M.set i .gone++[.one true 0 x']) w:=by
 have aZ:i<M.length:=(List.getElem?_eq_some_iff.1 hm).1
 have jB:∀j g' l,ρ j g'=some l→bZ (lB M.length i g off) ρ j g'=some l:=by
  intro j g' l e
  rw[js (h.nw j g' (by rw[e];rfl))];exact e
 have fZ:∀j g',j<M.length→j≠i→slot (M.set i AO.gone++[.one true 0 x']) j g'=slot M j g':=by
  intro j g' hj eJ;unfold slot
  rw[List.getElem?_append_left (by simpa using hj),List.getElem?_set_ne (Ne.symm eJ)]
 have Ab:∀g' own y,slot (M.set i AO.gone++[.one true 0 x']) i g'=some (own,y)→False:=by
  intro g' own y hs;unfold slot at hs
  rw[List.getElem?_append_left (by simpa using aZ),List.getElem?_set_self aZ]at hs
  cases hs
 have nD:∀g' own y,slot (M.set i AO.gone++[.one true 0 x']) M.length g'=some (own,y)→g'=0∧own=true∧y=x':=by
  intro g' own y hs;unfold slot at hs
  rw[List.getElem?_append_right (by simp)]at hs
  simp only[List.length_set,Nat.sub_self,List.getElem?_cons_zero,a9]at hs
  split at hs
  ·injection hs with hs;injection hs with a b;exact⟨‹_›,a.symm,b.symm⟩
  ·cases hs
 have Ag:∀{j g' own y},slot (M.set i AO.gone++[.one true 0 x']) j g'=some (own,y)→(j<M.length∧j≠i∧slot M j g'=some (own,y))∨(j=M.length∧g'=0∧own=true∧y=x'):=by
  intro j g' own y hs
  have hj:j<M.length+1:=by
   unfold slot at hs
   cases ho:(M.set i AO.gone++[AO.one true 0 x'])[j]? with
   |none=>rw[ho]at hs;cases hs
   |some o=>have:=(List.getElem?_eq_some_iff.1 ho).1;simpa using this
  by_cases e:j=M.length
  ·subst e;exact .inr ⟨rfl,nD _ _ _ hs⟩
  ·have rp:j<M.length:=by omega
   by_cases ei:j=i
   ·subst ei;exact(Ab _ _ _ hs).elim
   ·rw[fZ j g' rp ei]at hs;exact .inl ⟨rp,ei,hs⟩
 have hh:=h.holds i g true x (ak hm)
 have lE:(∃q,ρ i g=some (some q)∧bH ρ true x q.1 q.2 w∧bZ (lB M.length i g off) ρ M.length 0=some (some (q.1,q.2+off)))∨(ρ i g=some none∧x.bI∧bZ (lB M.length i g off) ρ M.length 0=some none):=by
  rcases hh with⟨q,e1,e2⟩|⟨e1,e2⟩
  ·exact .inl ⟨q,e1,e2,by rw[EM,e1];rfl⟩
  ·exact .inr ⟨e1,e2,by rw[EM,e1];rfl⟩
 refine⟨⟨?_,?_,?_,?_,?_⟩,⟨jB,Nat.le_refl _,fun _ _ _=>rfl,?_,rfl,rfl,rfl⟩⟩
 ·intro j g' hj
  by_cases e:j<M.length
  ·simp;omega
  ·by_cases e':j=M.length∧g'=0
   ·simp[e'.1]
   ·rw[yo e e']at hj;cases hj
 ·intro j g' own g1 y vl hj
  by_cases e:j<M.length
  ·rw[js e]at hj
   rw[List.getElem?_append_left (by simpa using e)]at vl
   by_cases ei:j=i
   ·subst ei;rw[List.getElem?_set_self aZ]at vl;cases vl
   ·rw[List.getElem?_set_ne (Ne.symm ei)]at vl;exact h.tag j g' own g1 y vl hj
  ·by_cases e':j=M.length∧g'=0
   ·omega
   ·rw[yo e e']at hj;cases hj
 ·intro j g' own n y vl hj
  by_cases e:j<M.length
  ·rw[js e]at hj
   rw[List.getElem?_append_left (by simpa using e)]at vl
   by_cases ei:j=i
   ·subst ei;rw[List.getElem?_set_self aZ]at vl;cases vl
   ·rw[List.getElem?_set_ne (Ne.symm ei)]at vl;exact h.bu j g' own n y vl hj
  ·by_cases e':j=M.length∧g'=0
   ·rw[e'.1,List.getElem?_append_right (by simp)]at vl
    simp at vl
   ·rw[yo e e']at hj;cases hj
 ·intro j g' own y hs
  rcases Ag hs with⟨hj,ei,hs⟩|⟨rfl,rfl,rfl,rfl⟩
  ·rw[js hj]
   rcases h.holds j g' own y hs with⟨q,h1,h2⟩|h1
   ·exact .inl ⟨q,h1,h2.ext jB rfl⟩
   ·exact .inr h1
  ·rcases lE with⟨q,e1,e2,e3⟩|⟨e1,e2,e3⟩
   ·refine .inl ⟨_,e3,?_⟩
    obtain⟨c,e,fr,k1,k2,k3,k4⟩:=e2.out qA
    refine .mk' BN ⟨c,e,fr,k1,by simp only;omega,fun k v hv=>?_,k4⟩
    obtain⟨a,b⟩:=k3 (off+k) v (fp k v hv)
    exact⟨AV.cy jB v a,by simp only;rw[AV.cW jB v a,Nat.add_assoc];exact b⟩
   ·exact .inr ⟨e3,hv e2⟩
 ·intro j g1 y j' g2 bn y' q q' h1 h2 e1 e2 he
  rcases Ag h1 with⟨hj,ei,W2⟩|⟨rfl,rfl,_,rfl⟩
  ·rw[js hj]at e1
   rcases Ag h2 with⟨rp,XT,UX⟩|⟨rfl,rfl,_,rfl⟩
   ·rw[js rp]at e2
    exact h.apart j g1 y j' g2 bn y' q q' W2 UX e1 e2 he
   ·rcases lE with⟨q0,k1,k2,k3⟩|⟨_,_,k3⟩
    ·rw[k3]at e2;injection e2 with e2;injection e2 with e2;subst e2
     exact absurd (h.apart j g1 y i g true x q q0 W2 (ak hm) e1 k1 he).1 ei
    ·rw[k3]at e2;cases e2
  ·rcases lE with⟨q0,k1,k2,k3⟩|⟨_,_,k3⟩
   ·rw[k3]at e1;injection e1 with e1;injection e1 with e1;subst e1
    rcases Ag h2 with⟨rp,XT,UX⟩|⟨rfl,rfl,_,rfl⟩
    ·rw[js rp]at e2
     exact absurd (h.apart i g x j' g2 bn y' q0 q' (ak hm) UX k1 e2 he).1.symm XT
    ·exact⟨rfl,rfl⟩
   ·rw[k3]at e1;cases e1
 ·intro j g1 y q hs hq hb
  rcases Ag hs with⟨hj,ei,hs⟩|⟨rfl,rfl,_,rfl⟩
  ·rw[js hj]at hq;exact⟨j,g1,y,q,hs,hq,rfl⟩
  ·rcases lE with⟨q0,k1,k2,k3⟩|⟨_,_,k3⟩
   ·rw[k3]at hq;injection hq with hq;injection hq with hq;subst hq
    exact⟨i,g,x,q0,ak hm,k1,rfl⟩
   ·rw[k3]at hq;cases hq
theorem Vw.shift {M:AH}{i g off:Nat}{x x':ae}{l l':List AV}(hm:M[i]?=some (.one true g x))(er:off+x'.size≤x.size)(fp:∀k v,x'.at k=some v→x.at (off+k)=some v)(hv:x.bI→x'.bI)(qA:x.row=true)(BN:x'.row=true)
 (hl:AV.qZ (lB M.length i g off) 0 l'=l)(hw:AV.oT (lB M.length i g off) l'=true):Vw M (M.set i .gone++[.one true 0 x']) l l':=by
 intro ρ w hs aA
 obtain⟨h1,h2⟩:=vS (off:=off) hs hm er fp hv qA BN
 have o1:=fT l' hw (by rw[hl];exact aA)
 exact⟨_,h1,h2,by rw[←(qY (uh (m:=0)) l' o1).2,hl],o1⟩
theorem Vw.kV {M:AH}{i g:Nat}{x:ae}{l l':List AV}(hm:M[i]?=some (.one true g x))(qA:x.row=true)
 (hl:AV.qZ (lB M.length i g 0) 0 l'=l)(hw:AV.oT (lB M.length i g 0) l'=true):Vw M (M.set i .gone++[.bu true 1 (fun _=>x)]) l l':=by
 intro ρ w hs aA
 obtain⟨h1,h2⟩:=vS (off:=0) (x':=x) hs hm (by omega) (fun k v hv=>by rw[Nat.zero_add];exact hv) (fun h=>h) qA qA
 have o1:=fT l' hw (by rw[hl];exact aA)
 have hq:(M.set i AO.gone++[AO.one true 0 x])[M.length]?=some (.one true 0 x):=by
  rw[List.getElem?_append_right (by simp)];simp
 have c:=zo h1 hq
 have d:=p6 hq
 have e:(M.set i AO.gone++[AO.one true 0 x]).set M.length (.bu true 1 (fun _=>x))=M.set i .gone++[.bu true 1 (fun _=>x)]:=by
  rw[List.set_append_right _ _ (by simp)];simp
 rw[e]at c d
 exact⟨_,c,Am h2 (fun _ _=>rfl) d,by rw[←(qY (uh (m:=0)) l' o1).2,hl],o1⟩
end Go.Proofs.Ytibadaomjlkoaaa
open Go.RowKit
namespace Go.Proofs.Ytibadaomjlkoaaa
mutual
def AV.rm (φ:Nat→Nat→Nat×Nat):AV→AV
 | .ptr i g off=>.ptr (φ i g).1 (φ i g).2 off
 | .lY i g sz j o=>.lY (φ i g).1 (φ i g).2 sz j o
 | .sl i g off n c=>.sl (φ i g).1 (φ i g).2 off n c
 | .mp i g=>.mp (φ i g).1 (φ i g).2
 | .fn f a b=>.fn f (AV.iW φ a) (AV.iW φ b)
 | .iU t v=>.iU t (v.rm φ)
 | .agg l=>.agg (AV.iW φ l)
 | .aG l=>.aG (AV.iW φ l)
 | .bo x=>.bo x| .tt=>.tt| .ff=>.ff| .int k n=>.int k n| .str x=>.str x| .np=>.np| .ns=>.ns| .nf=>.nf| .ni=>.ni| .nm=>.nm| .raw v=>.raw v
def AV.iW (φ:Nat→Nat→Nat×Nat):List AV→List AV
 |[]=>[]
 |v::l=>v.rm φ::AV.iW φ l
end
def rU (φ:Nat→Nat→Nat×Nat)(ρ:Env):Env:=fun i g=>ρ (φ i g).1 (φ i g).2
mutual
theorem OQ (φ:Nat→Nat→Nat×Nat)(ρ:Env):∀v:AV,v.c (rU φ ρ)=(v.rm φ).c ρ
 | .ptr i g off=>rfl
 | .lY i g sz j o=>rfl
 | .sl i g off n c=>rfl
 | .mp i g=>rfl
 | .fn f a b=>by simp only[AV.rm,AV.c,wm φ ρ a,wm φ ρ b]
 | .iU t v=>by simp only[AV.rm,AV.c,OQ φ ρ v]
 | .agg l=>by simp only[AV.rm,AV.c,wm φ ρ l]
 | .aG l=>by simp only[AV.rm,AV.c,wm φ ρ l]
 | .bo _=>rfl| .tt=>rfl| .ff=>rfl| .int _ _=>rfl| .str _=>rfl| .np=>rfl| .ns=>rfl| .nf=>rfl| .ni=>rfl| .nm=>rfl| .raw _=>rfl
theorem wm (φ:Nat→Nat→Nat×Nat)(ρ:Env):∀l:List AV,AV.cl (rU φ ρ) l=AV.cl ρ (AV.iW φ l)
 |[]=>rfl
 |v::l=>by simp only[AV.iW,AV.cl,OQ φ ρ v,wm φ ρ l]
end
mutual
theorem HL (φ:Nat→Nat→Nat×Nat)(ρ:Env):∀v:AV,v.ok (rU φ ρ)↔(v.rm φ).ok ρ
 | .ptr i g off=>Iff.rfl
 | .lY i g sz j o=>Iff.rfl
 | .sl i g off n c=>Iff.rfl
 | .mp i g=>Iff.rfl
 | .fn f a b=>by simp only[AV.rm,AV.ok,qo φ ρ a,qo φ ρ b]
 | .iU t v=>by simp only[AV.rm,AV.ok,HL φ ρ v]
 | .agg l=>by simp only[AV.rm,AV.ok,qo φ ρ l]
 | .aG l=>by simp only[AV.rm,AV.ok,qo φ ρ l]
 | .bo _=>Iff.rfl| .tt=>Iff.rfl| .ff=>Iff.rfl| .int _ _=>Iff.rfl| .str _=>Iff.rfl| .np=>Iff.rfl| .ns=>Iff.rfl| .nf=>Iff.rfl| .ni=>Iff.rfl| .nm=>Iff.rfl| .raw _=>Iff.rfl
theorem qo (φ:Nat→Nat→Nat×Nat)(ρ:Env):∀l:List AV,AV.dC (rU φ ρ) l↔AV.dC ρ (AV.iW φ l)
 |[]=>Iff.rfl
 |v::l=>by simp only[AV.iW,AV.dC,HL φ ρ v,qo φ ρ l]
end
def Lu (M:AH)(i g:Nat):Prop:=M.length≤i∨(∃own g0 x,M[i]?=some (.one own g0 x)∧g0<g)∨(∃own m x,M[i]?=some (.bu own m x)∧m≤g)
theorem qq {ρ:Env}{M:AH}{w:World}(h:aR ρ M w){i g:Nat}(hn:Lu M i g):ρ i g=none:=by
 cases hr:ρ i g with
 |none=>rfl
 |some l=>
  have hs:(ρ i g).isSome=true:=by rw[hr];rfl
  rcases hn with hn|⟨own,g0,x,h1,h2⟩|⟨own,m,x,h1,h2⟩
  ·have:=h.nw i g hs;omega
  ·have:=h.tag i g own g0 x h1 hs;omega
  ·have:=h.bu i g own m x h1 hs;omega
structure AX (M M':AH)(φ:Nat→Nat→Nat×Nat):Prop where
 len:M.length≤M'.length
 new:∀i g,φ i g=(i,g)∨(Lu M i g∧i<M'.length)
 slot:∀i g own x,slot M' i g=some (own,x)→∃HC x0,slot M (φ i g).1 (φ i g).2=some (HC,x0)∧(own=true→HC=true)∧
  (x=x0∨(x.row=true∧x0.row=true∧x.size≤x0.size∧(∀k v,x.at k=some v→x0.at k=some (v.rm φ))∧(x0.bI→x.bI)))
 inj:∀i g x i' g' bn x',Go.Proofs.Ytibadaomjlkoaaa.slot M' i g=some (true,x)→Go.Proofs.Ytibadaomjlkoaaa.slot M' i' g'=some (bn,x')→φ i g=φ i' g'→i=i'∧g=g'
 tag:∀i own g x,M'[i]?=some (.one own g x)→∀g',g<g'→φ i g'=(i,g')∧Lu M i g'
 bu:∀i own m x,M'[i]?=some (.bu own m x)→∀g',m≤g'→φ i g'=(i,g')∧Lu M i g'
theorem He {ρ:Env}{M M':AH}{w:World}{φ:Nat→Nat→Nat×Nat}(h:aR ρ M w)(hn:AX M M' φ):aR (rU φ ρ) M' w∧Ext ρ M w (rU φ ρ) M' w:=by
 have jB:∀i g l,ρ i g=some l→rU φ ρ i g=some l:=by
  intro i g l e
  rcases hn.new i g with h1|⟨h1,_⟩
  ·unfold rU;rw[h1];exact e
  ·rw[qq h h1]at e;cases e
 refine⟨⟨?_,?_,?_,?_,?_⟩,⟨jB,Nat.le_refl _,fun _ _ _=>rfl,?_,rfl,rfl,rfl⟩⟩
 ·intro i g hi
  rcases hn.new i g with h1|⟨_,h1⟩
  ·unfold rU at hi;rw[h1]at hi;exact Nat.lt_of_lt_of_le (h.nw i g hi) hn.len
  ·exact h1
 ·intro i g own g' x hm hi
  rcases Nat.lt_or_ge g' g with aZ|Iy
  ·obtain⟨h1,h2⟩:=hn.tag i own g' x hm g aZ
   unfold rU at hi;rw[h1,qq h h2]at hi;cases hi
  ·exact Iy
 ·intro i g own m x hm hi
  rcases Nat.lt_or_ge g m with aZ|Iy
  ·exact aZ
  ·obtain⟨h1,h2⟩:=hn.bu i own m x hm g Iy
   unfold rU at hi;rw[h1,qq h h2]at hi;cases hi
 ·intro i g own x hs
  obtain⟨HC,x0,h1,h2,h3⟩:=hn.slot i g own x hs
  rcases h.holds _ _ _ _ h1 with⟨q,e1,e2⟩|⟨e1,e2⟩
  ·refine .inl ⟨q,e1,?_⟩
   rcases h3 with rfl|⟨r1,r2,r3,r4,r5⟩
   ·have:=e2.ext jB rfl
    rcases this.all with⟨hx,c,e,fr,k1,k2,k3,k4⟩|h0
    ·exact .mk' hx ⟨c,e,fr,k1,k2,k3,fun ho=>k4 (h2 ho)⟩
    ·exact⟨.inr h0⟩
   ·obtain⟨c,e,fr,k1,k2,k3,k4⟩:=e2.out r2
    refine .mk' r1 ⟨c,e,fr,k1,by omega,fun k v hv=>?_,fun ho=>k4 (h2 ho)⟩
    obtain⟨a,b⟩:=k3 k _ (r4 k v hv)
    exact⟨(HL φ ρ v).2 a,by rw[OQ φ ρ v];exact b⟩
  ·refine .inr ⟨e1,?_⟩
   rcases h3 with rfl|⟨_,_,_,_,r5⟩
   ·exact e2
   ·exact r5 e2
 ·intro i g x i' g' bn x' q q' hs vk hq A2 he
  obtain⟨HC,x0,h1,h2,_⟩:=hn.slot i g true x hs
  obtain⟨WZ,ZF,lG,_,_⟩:=hn.slot i' g' bn x' vk
  rw[h2 rfl]at h1
  have:=h.apart _ _ _ _ _ _ _ q q' h1 lG hq A2 he
  exact hn.inj i g x i' g' bn x' hs vk (Prod.ext this.1 this.2)
 ·intro i g x q hs hq _
  obtain⟨HC,x0,h1,h2,_⟩:=hn.slot i g true x hs
  rw[h2 rfl]at h1
  exact⟨_,_,x0,q,h1,hq,rfl⟩
theorem Vw.name {M M':AH}{φ:Nat→Nat→Nat×Nat}{l l':List AV}(hn:AX M M' φ)(hl:AV.iW φ l'=l):Vw M M' l l':=by
 intro ρ w hs aA
 obtain⟨h1,h2⟩:=He hs hn
 exact⟨_,h1,h2,by rw[wm,hl],(qo φ ρ l').2 (by rw[hl];exact aA)⟩
def qi (a b i0 g0:Nat):Nat→Nat→Nat×Nat:=fun i g=>if i=a∧g=b then(i0,g0)else(i,g)
theorem gM {a b i0 g0:Nat}:qi a b i0 g0 a b=(i0,g0):=by simp[qi]
theorem bK {a b i0 g0 i g:Nat}(h:¬(i=a∧g=b)):qi a b i0 g0 i g=(i,g):=by simp only[qi,if_neg h]
theorem QS {M:AH}{i g:Nat}{x:ae}(hs:slot M i g=some (false,x)):AX M (M++[.one false 0 x]) (qi M.length 0 i g):=by
 have cj:∀j,j<M.length→(M++[AO.one false 0 x])[j]?=M[j]?:=fun j hj=>List.getElem?_append_left hj
 have Et:∀j g',j<M.length→slot (M++[AO.one false 0 x]) j g'=slot M j g':=by intro j g' hj;unfold slot;rw[cj j hj]
 have lE:∀g' own y,slot (M++[AO.one false 0 x]) M.length g'=some (own,y)→g'=0∧own=false∧y=x:=by
  intro g' own y h
  unfold slot at h
  rw[List.getElem?_append_right (Nat.le_refl _)]at h
  simp only[Nat.sub_self,List.getElem?_cons_zero,a9]at h
  split at h
  ·injection h with h;injection h with a b;exact⟨‹_›,a.symm,b.symm⟩
  ·cases h
 have aZ:∀{j g' own y},slot (M++[AO.one false 0 x]) j g'=some (own,y)→j<M.length∨j=M.length:=by
  intro j g' own y h
  unfold slot at h
  rcases Nat.lt_trichotomy j M.length with h'|h'|h'
  ·exact .inl h'
  ·exact .inr h'
  ·rw[List.getElem?_eq_none (by simp;omega)]at h;cases h
 have hi:i<M.length:=by
  unfold slot at hs
  rcases Nat.lt_or_ge i M.length with h'|h'
  ·exact h'
  ·rw[List.getElem?_eq_none h']at hs;cases hs
 refine⟨by simp,?_,?_,?_,?_,?_⟩
 ·intro j g'
  by_cases e:j=M.length∧g'=0
  ·exact .inr ⟨.inl (by omega),by simp;omega⟩
  ·exact .inl (bK e)
 ·intro j g' own y h
  rcases aZ h with h'|rfl
  ·rw[Et j g' h']at h
   rw[bK (by omega)]
   exact⟨own,y,h,id,.inl rfl⟩
  ·obtain⟨rfl,rfl,rfl⟩:=lE _ _ _ h
   rw[gM]
   exact⟨false,y,hs,fun h=>(by cases h),.inl rfl⟩
 ·intro j g1 y j' g2 bn y' h1 h2 he
  rcases aZ h1 with lG|rfl
  ·rw[bK (by omega)]at he
   rcases aZ h2 with SM|rfl
   ·rw[bK (by omega)]at he
    simpa using he
   ·obtain⟨rfl,_,rfl⟩:=lE _ _ _ h2
    rw[gM]at he
    rw[Et j g1 lG]at h1
    simp only[Prod.mk.injEq]at he
    obtain⟨rfl,rfl⟩:=he
    rw[hs]at h1;cases h1
  ·obtain⟨_,h,_⟩:=lE _ _ _ h1;cases h
 ·intro j own g1 y hm g' hg
  rcases Nat.lt_or_ge j M.length with h'|h'
  ·rw[cj j h']at hm
   exact⟨bK (by omega),.inr (.inl ⟨own,g1,y,hm,hg⟩)⟩
  ·exact⟨bK (by omega),.inl h'⟩
 ·intro j own m y hm g' hg
  rcases Nat.lt_or_ge j M.length with h'|h'
  ·rw[cj j h']at hm
   exact⟨bK (by omega),.inr (.inr ⟨own,m,y,hm,hg⟩)⟩
  ·rcases Nat.lt_or_ge M.length j with Zq|Zq
   ·exact⟨bK (by omega),.inl h'⟩
   ·have:j=M.length:=by omega
    subst this
    rw[List.getElem?_append_right (Nat.le_refl _)]at hm
    simp at hm
theorem Vw.pull {M:AH}{i g:Nat}{x:ae}{l l':List AV}(hs:slot M i g=some (false,x))(hl:AV.iW (qi M.length 0 i g) l'=l):Vw M (M++[.one false 0 x]) l l':=Vw.name (QS hs) hl
theorem Vw.SP {M:AH}{own:Bool}{f:Nat→ae}{l:List AV}:Vw M (M++[.bu own 0 f]) l l:=by
 have cj:∀j,j<M.length→(M++[AO.bu own 0 f])[j]?=M[j]?:=fun j hj=>List.getElem?_append_left hj
 have hs:∀{j g' bn y},slot (M++[AO.bu own 0 f]) j g'=some (bn,y)→slot M j g'=some (bn,y):=by
  intro j g' bn y h
  unfold slot at h⊢
  rcases Nat.lt_trichotomy j M.length with h'|h'|h'
  ·rw[cj j h']at h;exact h
  ·subst h'
   rw[List.getElem?_append_right (Nat.le_refl _)]at h
   simp[a9]at h
  ·rw[List.getElem?_eq_none (by simp;omega)]at h;cases h
 refine Vw.name (φ:=fun i g=>(i,g)) ⟨by simp,fun _ _=>.inl rfl,?_,?_,?_,?_⟩ ?_
 ·intro i g bn x h;exact⟨bn,x,hs h,id,.inl rfl⟩
 ·intro i g x i' g' bn x' _ _ he;simpa using he
 ·intro j bn g1 y hm g' hg
  rcases Nat.lt_or_ge j M.length with h'|h'
  ·rw[cj j h']at hm;exact⟨rfl,.inr (.inl ⟨bn,g1,y,hm,hg⟩)⟩
  ·exact⟨rfl,.inl h'⟩
 ·intro j bn m y hm g' hg
  rcases Nat.lt_or_ge j M.length with h'|h'
  ·rw[cj j h']at hm;exact⟨rfl,.inr (.inr ⟨bn,m,y,hm,hg⟩)⟩
  ·exact⟨rfl,.inl h'⟩
 ·have key:∀ρ:Env,rU (fun i g=>(i,g)) ρ=ρ:=fun _=>rfl
  exact qp l
where
 qp:∀l:List AV,AV.iW (fun i g=>(i,g)) l=l
  |[]=>rfl
  |v::l=>by simp only[AV.iW];rw[MP v,qp l]
 MP:∀v:AV,v.rm (fun i g=>(i,g))=v
  | .ptr ..| .lY ..| .sl ..| .mp ..=>rfl
  | .fn f a b=>by simp only[AV.rm];rw[qp a,qp b]
  | .iU t v=>by simp only[AV.rm];rw[MP v]
  | .agg l=>by simp only[AV.rm];rw[qp l]
  | .aG l=>by simp only[AV.rm];rw[qp l]
  | .bo _=>rfl| .tt=>rfl| .ff=>rfl| .int _ _=>rfl| .str _=>rfl| .np=>rfl| .ns=>rfl| .nf=>rfl| .ni=>rfl| .nm=>rfl| .raw _=>rfl
theorem Mg {M:AH}{iu k o m g0 go sz n c:Nat}{ow:Bool}{f f':Nat→ae}{y:ae}{get get':Nat→List AV}(hu:M[iu]?=some (.bu ow m f))(hk:M[k]?=some (.one true g0 y))(ho:M[o]?=some (.one true go (.cI sz n get c)))
 (OP:Nat.beq o k=false)(hf:∀r,r<m→f' r=f r)(hm:f' m=y)(hg:∀r,r<n→AV.iW (qi iu m k g0) (get' r)=get r):
 AX M (((M.set iu (.bu ow (m+1) f')).set o (.one true go (.cI sz n get' c))).set k .gone) (qi iu m k g0):=by
 have OP:o≠k:=Nat.ne_of_beq_eq_false OP
 have lu:iu<M.length:=(List.getElem?_eq_some_iff.1 hu).1
 have lk:k<M.length:=(List.getElem?_eq_some_iff.1 hk).1
 have lo:o<M.length:=(List.getElem?_eq_some_iff.1 ho).1
 have ON:iu≠k:=by intro e;subst e;rw[hu]at hk;cases hk
 have UT:iu≠o:=by intro e;subst e;rw[hu]at ho;cases ho
 generalize hN:(((M.set iu (.bu ow (m+1) f')).set o (.one true go (.cI sz n get' c))).set k .gone)=N
 have hl:N.length=M.length:=by rw[←hN];simp
 have gu:N[iu]?=some (.bu ow (m+1) f'):=by
  rw[←hN,List.getElem?_set_ne (Ne.symm ON),List.getElem?_set_ne (Ne.symm UT),List.getElem?_set_self lu]
 have gk:N[k]?=some .gone:=by
  rw[←hN,List.getElem?_set_self (by simpa using lk)]
 have gO:N[o]?=some (.one true go (.cI sz n get' c)):=by
  rw[←hN,List.getElem?_set_ne (Ne.symm OP),List.getElem?_set_self (by simpa using lo)]
 have gr:∀j,j≠iu→j≠k→j≠o→N[j]?=M[j]?:=by
  intro j h1 h2 h3
  rw[←hN,List.getElem?_set_ne (Ne.symm h2),List.getElem?_set_ne (Ne.symm h3),List.getElem?_set_ne (Ne.symm h1)]
 clear hN
 have sk:slot M k g0=some (true,y):=ak hk
 have sN:∀{i g own x},slot N i g=some (own,x)→i≠k:=by
  intro i g own x h e;subst e;unfold slot at h;rw[gk]at h;cases h
 refine⟨by omega,?_,?_,?_,?_,?_⟩
 ·intro i g
  by_cases e:i=iu∧g=m
  ·obtain⟨rfl,rfl⟩:=e
   exact .inr ⟨.inr (.inr ⟨ow,_,f,hu,Nat.le_refl _⟩),by omega⟩
  ·exact .inl (bK e)
 ·intro i g own x h
  have Ey:=sN h
  by_cases eu:i=iu
  ·subst eu
   unfold slot at h
   rw[gu]at h
   simp only[a9]at h
   split at h
   ·rename_i YN
    injection h with h;injection h with e1 e2
    subst e1;subst e2
    by_cases e:g=m
    ·subst e
     rw[gM]
     exact⟨true,y,sk,fun _=>rfl,.inl hm⟩
    ·rw[bK (by omega)]
     refine⟨ow,f g,?_,id,.inl (hf g (by omega))⟩
     unfold slot;rw[hu];simp only[a9,if_pos (show g<m by omega)]
   ·cases h
  ·rw[bK (by omega)]
   by_cases eo:i=o
   ·subst eo
    unfold slot at h
    rw[gO]at h
    simp only[a9]at h
    split at h
    ·rename_i VP
     subst VP
     injection h with h;injection h with e1 e2
     subst e1;subst e2
     refine⟨true,_,ak ho,id,.inr ⟨rfl,rfl,Nat.le_refl _,?_,fun h=>h⟩⟩
     intro k' v hv
     simp only[ae.at]at hv⊢
     split at hv
     ·rename_i aZ
      rw[if_pos aZ]
      have hr:k'/sz<n:=Nat.div_lt_of_lt_mul (by rw[Nat.mul_comm];exact aZ)
      rw[←hg _ hr]
      have:∀(l:List AV)(j:Nat)(v:AV),l[j]?=some v→(AV.iW (qi iu m k g0) l)[j]?=some (v.rm (qi iu m k g0)):=by
       intro l
       induction l with
       |nil=>intro j v h;simp at h
       |cons a l ih=>
        intro j v h
        cases j with
        |zero=>simp at h;subst h;simp[AV.iW]
        |succ j=>simp only[AV.iW,List.getElem?_cons_succ]at h⊢;exact ih j v h
      exact this _ _ _ hv
     ·cases hv
    ·cases h
   ·unfold slot at h
    rw[gr i eu Ey eo]at h
    exact⟨own,x,h,id,.inl rfl⟩
 ·intro i g x i' g' bn x' h h' he
  have e1:=sN h
  have e2:=sN h'
  by_cases d1:i=iu∧g=m
  ·by_cases d2:i'=iu∧g'=m
   ·exact⟨d1.1.trans d2.1.symm,d1.2.trans d2.2.symm⟩
   ·obtain⟨rfl,rfl⟩:=d1
    rw[gM,bK d2]at he
    simp only[Prod.mk.injEq]at he
    exact absurd he.1.symm e2
  ·by_cases d2:i'=iu∧g'=m
   ·obtain⟨rfl,rfl⟩:=d2
    rw[gM,bK d1]at he
    simp only[Prod.mk.injEq]at he
    exact absurd he.1 e1
   ·rw[bK d1,bK d2]at he
    simpa using he
 ·intro i own g x h g' Iz
  have Ey:i≠k:=by intro e;subst e;rw[gk]at h;cases h
  have eu:i≠iu:=by intro e;subst e;rw[gu]at h;cases h
  refine⟨bK (by omega),?_⟩
  by_cases eo:i=o
  ·subst eo
   rw[gO]at h;injection h with h;injection h with a b
   subst b
   exact .inr (.inl ⟨true,_,_,ho,Iz⟩)
  ·rw[gr i eu Ey eo]at h
   exact .inr (.inl ⟨own,g,x,h,Iz⟩)
 ·intro i own m' x h g' Iz
  have Ey:i≠k:=by intro e;subst e;rw[gk]at h;cases h
  have eo:i≠o:=by intro e;subst e;rw[gO]at h;cases h
  by_cases eu:i=iu
  ·subst eu
   rw[gu]at h;injection h with h;injection h with a b
   subst b
   exact⟨bK (by omega),.inr (.inr ⟨ow,m,f,hu,by omega⟩)⟩
  ·refine⟨bK (by omega),?_⟩
   rw[gr i eu Ey eo]at h
   exact .inr (.inr ⟨own,m',x,h,Iz⟩)
theorem Vw.freeze {M:AH}{iu k o m g0 go sz n c:Nat}{ow:Bool}{f:Nat→ae}{y:ae}{get:Nat→List AV}{l l':List AV}(f':Nat→ae)(get':Nat→List AV)(hu:M[iu]?=some (.bu ow m f))(hk:M[k]?=some (.one true g0 y))(ho:M[o]?=some (.one true go (.cI sz n get c)))
 (OP:Nat.beq o k=false)(hf:∀r,r<m→f' r=f r)(hm:f' m=y)(hg:∀r,r<n→AV.iW (qi iu m k g0) (get' r)=get r)(hl:AV.iW (qi iu m k g0) l'=l):
 Vw M (((M.set iu (.bu ow (m+1) f')).set o (.one true go (.cI sz n get' c))).set k .gone) l l':=Vw.name (Mg hu hk ho OP hf hm hg) hl
def vd (iu m p iv:Nat):Nat→Nat→Nat×Nat:=fun i g=>if i=iu∧m≤g∧g<m+p then(iv,g-m)else(i,g)
theorem xO {iu m p iv j:Nat}(h:j<p):vd iu m p iv iu (m+j)=(iv,j):=by unfold vd;rw[if_pos ⟨rfl,by omega,by omega⟩,Nat.add_sub_cancel_left]
theorem gK {iu m p iv i g:Nat}(h:¬(i=iu∧m≤g∧g<m+p)):vd iu m p iv i g=(i,g):=by simp only[vd,if_neg h]
theorem OV {M:AH}{iu iv o m p go sz n c:Nat}{ow:Bool}{f f' fv:Nat→ae}{get get':Nat→List AV}(hu:M[iu]?=some (.bu false m f))(hk:M[iv]?=some (.bu ow p fv))(ho:M[o]?=some (.one true go (.cI sz n get c)))
 (ON:Nat.beq iu iv=false)(hf:∀r,r<m→f' r=f r)(hm:∀r,r<p→f' (m+r)=fv r)(hg:∀r,r<n→AV.iW (vd iu m p iv) (get' r)=get r):
 AX M (((M.set iu (.bu false (m+p) f')).set o (.one true go (.cI sz n get' c))).set iv .gone) (vd iu m p iv):=by
 have ON:iu≠iv:=Nat.ne_of_beq_eq_false ON
 have lu:iu<M.length:=(List.getElem?_eq_some_iff.1 hu).1
 have lk:iv<M.length:=(List.getElem?_eq_some_iff.1 hk).1
 have lo:o<M.length:=(List.getElem?_eq_some_iff.1 ho).1
 have OP:o≠iv:=by intro e;subst e;rw[ho]at hk;cases hk
 have UT:iu≠o:=by intro e;subst e;rw[hu]at ho;cases ho
 generalize hN:(((M.set iu (.bu false (m+p) f')).set o (.one true go (.cI sz n get' c))).set iv .gone)=N
 have hl:N.length=M.length:=by rw[←hN];simp
 have gu:N[iu]?=some (.bu false (m+p) f'):=by
  rw[←hN,List.getElem?_set_ne (Ne.symm ON),List.getElem?_set_ne (Ne.symm UT),List.getElem?_set_self lu]
 have gk:N[iv]?=some .gone:=by
  rw[←hN,List.getElem?_set_self (by simpa using lk)]
 have gO:N[o]?=some (.one true go (.cI sz n get' c)):=by
  rw[←hN,List.getElem?_set_ne (Ne.symm OP),List.getElem?_set_self (by simpa using lo)]
 have gr:∀j,j≠iu→j≠iv→j≠o→N[j]?=M[j]?:=by
  intro j h1 h2 h3
  rw[←hN,List.getElem?_set_ne (Ne.symm h2),List.getElem?_set_ne (Ne.symm h3),List.getElem?_set_ne (Ne.symm h1)]
 clear hN
 have sN:∀{i g own x},slot N i g=some (own,x)→i≠iv:=by
  intro i g own x h e;subst e;unfold slot at h;rw[gk]at h;cases h
 have oN:∀{i g x},slot N i g=some (true,x)→i≠iu:=by
  intro i g x h e;subst e;unfold slot at h;rw[gu]at h
  simp only[a9]at h;split at h<;>cases h
 refine⟨by omega,?_,?_,?_,?_,?_⟩
 ·intro i g
  by_cases e:i=iu∧m≤g∧g<m+p
  ·obtain⟨rfl,e1,_⟩:=e
   exact .inr ⟨.inr (.inr ⟨false,_,f,hu,e1⟩),by omega⟩
  ·exact .inl (gK e)
 ·intro i g own x h
  have Ey:=sN h
  by_cases eu:i=iu
  ·subst eu
   unfold slot at h
   rw[gu]at h
   simp only[a9]at h
   split at h
   ·rename_i YN
    injection h with h;injection h with e1 e2
    subst e1;subst e2
    by_cases e:m≤g
    ·obtain⟨j,rfl⟩:∃j,g=m+j:=⟨g-m,by omega⟩
     have hj:j<p:=by omega
     rw[xO hj]
     refine⟨ow,fv j,?_,fun h=>(by cases h),.inl (hm j hj)⟩
     unfold slot;rw[hk];simp only[a9,if_pos hj]
    ·rw[gK (by omega)]
     refine⟨false,f g,?_,id,.inl (hf g (by omega))⟩
     unfold slot;rw[hu];simp only[a9,if_pos (show g<m by omega)]
   ·cases h
  ·rw[gK (by omega)]
   by_cases eo:i=o
   ·subst eo
    unfold slot at h
    rw[gO]at h
    simp only[a9]at h
    split at h
    ·rename_i VP
     subst VP
     injection h with h;injection h with e1 e2
     subst e1;subst e2
     refine⟨true,_,ak ho,id,.inr ⟨rfl,rfl,Nat.le_refl _,?_,fun h=>h⟩⟩
     intro k' v hv
     simp only[ae.at]at hv⊢
     split at hv
     ·rename_i aZ
      rw[if_pos aZ]
      have hr:k'/sz<n:=Nat.div_lt_of_lt_mul (by rw[Nat.mul_comm];exact aZ)
      rw[←hg _ hr]
      have:∀(l:List AV)(j:Nat)(v:AV),l[j]?=some v→(AV.iW (vd iu m p iv) l)[j]?=some (v.rm (vd iu m p iv)):=by
       intro l
       induction l with
       |nil=>intro j v h;simp at h
       |cons a l ih=>
        intro j v h
        cases j with
        |zero=>simp at h;subst h;simp[AV.iW]
        |succ j=>simp only[AV.iW,List.getElem?_cons_succ]at h⊢;exact ih j v h
      exact this _ _ _ hv
     ·cases hv
    ·cases h
   ·unfold slot at h
    rw[gr i eu Ey eo]at h
    exact⟨own,x,h,id,.inl rfl⟩
 ·intro i g x i' g' bn x' h h' he
  have e1:=oN h
  have e2:=sN h
  rw[gK (by omega)]at he
  by_cases e:i'=iu∧m≤g'∧g'<m+p
  ·obtain⟨rfl,e3,e4⟩:=e
   obtain⟨j,rfl⟩:∃j,g'=m+j:=⟨g'-m,by omega⟩
   rw[xO (by omega)]at he
   simp only[Prod.mk.injEq]at he
   exact absurd he.1 e2
  ·rw[gK e]at he
   simpa using he
 ·intro i own g x h g' Iz
  have Ey:i≠iv:=by intro e;subst e;rw[gk]at h;cases h
  have eu:i≠iu:=by intro e;subst e;rw[gu]at h;cases h
  refine⟨gK (by omega),?_⟩
  by_cases eo:i=o
  ·subst eo
   rw[gO]at h;injection h with h;injection h with a b
   subst b
   exact .inr (.inl ⟨true,_,_,ho,Iz⟩)
  ·rw[gr i eu Ey eo]at h
   exact .inr (.inl ⟨own,g,x,h,Iz⟩)
 ·intro i own m' x h g' Iz
  have Ey:i≠iv:=by intro e;subst e;rw[gk]at h;cases h
  have eo:i≠o:=by intro e;subst e;rw[gO]at h;cases h
  by_cases eu:i=iu
  ·subst eu
   rw[gu]at h;injection h with h;injection h with a b
   subst b
   exact⟨gK (by omega),.inr (.inr ⟨false,m,f,hu,by omega⟩)⟩
  ·refine⟨gK (by omega),?_⟩
   rw[gr i eu Ey eo]at h
   exact .inr (.inr ⟨own,m',x,h,Iz⟩)
theorem Vw.merge {M:AH}{iu iv o m p go sz n c:Nat}{ow:Bool}{f fv:Nat→ae}{get:Nat→List AV}{l l':List AV}(f':Nat→ae)(get':Nat→List AV)(hu:M[iu]?=some (.bu false m f))(hk:M[iv]?=some (.bu ow p fv))(ho:M[o]?=some (.one true go (.cI sz n get c)))
 (ON:Nat.beq iu iv=false)(hf:∀r,r<m→f' r=f r)(hm:∀r,r<p→f' (m+r)=fv r)(hg:∀r,r<n→AV.iW (vd iu m p iv) (get' r)=get r)(hl:AV.iW (vd iu m p iv) l'=l):
 Vw M (((M.set iu (.bu false (m+p) f')).set o (.one true go (.cI sz n get' c))).set iv .gone) l l':=Vw.name (OV hu hk ho ON hf hm hg) hl
end Go.Proofs.Ytibadaomjlkoaaa
open Go.RowKit
namespace Go.Proofs.Ytibadaomjlkoaaa
set_option maxRecDepth 10000
theorem Nt {x:Int}(hx:0≤x∧x<4294967296):b8 .and .u64 x 4294967295=x:=by
 obtain⟨n,rfl⟩:=Int.eq_ofNat_of_zero_le hx.1
 show IntKind.wrap .u64 (((BitVec.ofInt 64 (n:Int))&&&(BitVec.ofInt 64 4294967295)).toNat:Int)=_
 have e1:n%18446744073709551616&&&4294967295=n%18446744073709551616%4294967296:=Nat.and_two_pow_sub_one_eq_mod _ 32
 have e2:(BitVec.ofInt 64 (n:Int)).toNat=n%18446744073709551616:=by rw[BitVec.toNat_ofInt];omega
 rw[BitVec.toNat_and,e2,show(BitVec.ofInt 64 4294967295).toNat=4294967295 from rfl,e1]
 simp[IntKind.wrap,IntKind.bits,IntKind.signed]
 omega
theorem QR {x:Int}(hx:0≤x∧x<4294967296):cf .u64 x 32=0:=by
 have a1:cf .u64 x 32=x/4294967296:=Int.fdiv_eq_ediv_of_nonneg _ (by decide)
 omega
theorem BD {b:Int}(hb:0≤b∧b<4294967296){Kp}:
 aa Try.prog 91 [.int .u64 1,.int .u64 b] [] (fun r M=>r=.aG [.int .u64 0,.int .u64 b]∧M=[]) Kp:=by
 refine NU (fun _=>[]) [] rfl ?_
 refine Rs ?_
 have e1:b8 .and .u64 1 4294967295=1:=Nt (by omega)
 have e2:b8 .and .u64 b 4294967295=b:=Nt hb
 have e3:cf .u64 1 32=0:=rfl
 have e4:cf .u64 b 32=0:=QR hb
 have e5:b8 .and .u64 0 4294967295=0:=rfl
 have e6:cf .u64 0 32=0:=rfl
 have e7:(1*b)%18446744073709551616=b:=by omega
 simp only[e1,e2,e3,e4,e5,e6,e7,Int.mul_zero,Int.zero_mul,Int.add_zero,Int.zero_add,Int.zero_emod]
 exact⟨rfl,rfl⟩
theorem HP {b:Int}(hb:0≤b∧b<4294967296){Kp}:
 aa Try.prog 70 [.int .u64 1,.int .u64 b] [] (fun r M=>r=.aG [.int .u64 0,.int .u64 b]∧M=[]) Kp:=by
 refine N9 (fun _=>[]) [] rfl ?_
 refine Rs ?_
 refine(BD hb).mono ?_ (fun _ _ h=>h)
 rintro r M ⟨rfl,rfl⟩
 refine Rs ?_
 exact rfl
theorem OT {M:AH}{K Kp:AV→AH→Prop}{b:Int}(hb:0≤b∧b<4294967296)(h:K (.aG [.int .u64 0,.int .u64 b]) M):aa Try.prog 70 [.int .u64 1,.int .u64 b] M K Kp:=by
 refine aa.lift [] (HP (Kp:=fun _ _=>False) hb) rfl rfl trivial trivial ?_ (fun _ _ h=>h.elim)
 rintro r M' ⟨rfl,rfl⟩
 rw[←List.append_nil M]at h
 exact⟨rfl,h⟩
end Go.Proofs.Ytibadaomjlkoaaa
open Go.RowKit
namespace Go.Proofs.Ytibadaomjlkoaaa
set_option maxRecDepth 10000
theorem xM {v:Int}{k c0 c:Nat}(hk:1≤k∧k≤65536)(hv:0≤v∧v<256){Kp}:
 aa Try.prog 42 [.sl 0 0 0 1 c0,.int .i64 k] [.one false 0 (.ints .u8 [v] c)]
  (fun r M=>r=.sl 1 0 0 k k∧M=[.one false 0 (.ints .u8 [v] c),.one true 0 (.ints .u8 (List.replicate k v) k)]) Kp:=by
 refine aa.cg ?_
 refine Ol (fun _=>[]) [] rfl ?_
 refine Rs ?_
 refine And.intro (fun h=>absurd (of_decide_eq_true h) (by omega)) (fun _=>?_)
 refine Rs ?_
 have e1:(k:Int)%18446744073709551616=k:=by omega
 rw[e1]
 refine OT (b:=(k:Int)) (by omega) ?_
 refine Qs ?_
 refine And.intro (fun h=>absurd (of_decide_eq_true h) (by omega)) (fun _=>?_)
 refine Qs ?_
 intro ys rP zs e9
 have hz:zs=List.replicate 1 v++List.replicate (k-1) 0:=by
  rw[e9,rP]
  show[]++_++_=_
  have:min 1 (k:Int).toNat=1:=by omega
  rw[this]
  show[]++[v]++List.drop 1 (List.replicate k 0)=_
  rw[List.drop_replicate];rfl
 subst hz
 have hm:((min 1 (k:Int).toNat:Nat):Int)=1:=by omega
 rw[hm]
 refine Qs ?_
 refine WO.go (σ:=Nat) (fun n=>1≤n∧n≤k) (fun n=>k-n)
  (fun n=>[(7,.sl 1 0 0 k k),(8,.int .i64 n)])
  (fun n=>[.one false 0 (.ints .u8 [v] c),.one true 0 (.ints .u8 (List.replicate n v++List.replicate (k-n) 0) k)]) 1 ag mixed (by kernel_rfl)
  ⟨Nat.le_refl _,hk.1⟩ (aI rfl (aI rfl (trivial))) (aI rfl (aI rfl (trivial))) (fun _=>rfl) (fun _=>rfl) (fun _=>⟨trivial,trivial,trivial⟩) ?_
 rintro n ⟨h1,h2⟩ d
 refine Qs ?_
 refine And.intro (fun hc=>?_) (fun hc=>?_)
 ·have rr:(n:Int)<k:=of_decide_eq_true hc
  refine Qs ?_
  rw[Ln (by omega)]
  refine Qs ?_
  intro ZE F0 X4 Ru
  obtain⟨m,hm⟩:∃m,m=min (n:Int).toNat (k-(n:Int).toNat):=⟨_,rfl⟩
  rw[←hm]at Ru F0
  have hz:X4=List.replicate (n+m) v++List.replicate (k-(n+m)) 0:=by
   rw[Ru,F0]
   show List.take (0+n*1) _++List.take m (List.drop 0 _)++List.drop (0+n*1+m) _=_
   simp only[Nat.zero_add,Nat.mul_one,List.drop_zero]
   rw[List.take_append_of_le_length (by simp),List.take_append_of_le_length (by simp;omega),List.drop_append]
   simp only[List.length_replicate,List.take_replicate,List.drop_replicate]
   rw[show n-(n+m)=0 by omega,show n+m-n=m by omega,show min n n=n by omega,show min m n=m by omega,show k-n-m=k-(n+m) by omega]
   simp[List.replicate_append_replicate]
  subst hz
  rw[←hm]
  refine Qs ?_
  refine RO.same (n+m) ⟨by omega,by omega⟩ (show k-(n+m)<k-n by omega) (And.intro rfl (And.intro ?_ trivial)) (aI rfl (aI rfl (trivial)))
  show AV.int .i64 ((n:Int)+m)=AV.int .i64 ((n+m:Nat):Int)
  push_cast;rfl
 ·have rr:¬(n:Int)<k:=of_decide_eq_false hc
  obtain rfl:n=k:=by omega
  refine Qs ?_
  have e:List.replicate n v++List.replicate (n-n) 0=List.replicate n v:=by simp
  exact Exists.intro [AO.one false 0 (.ints .u8 [v] c),.one true 0 (.ints .u8 (List.replicate n v) n)] (And.intro (And.intro rfl (And.intro (by rw[e]) trivial)) (And.intro ⟨trivial,trivial,trivial⟩ (And.intro rfl ⟨rfl,rfl⟩)))
theorem bP {M:AH}{K Kp:AV→AH→Prop}{i g k c co:Nat}{o:Bool}{v:Int}(hi:M[i]?=some (.one o g (.ints .u8 [v] co)))(hk:1≤k∧k≤65536)(hv:0≤v∧v<256)
 (h:K (.sl M.length 0 0 k k) (M++[.one true 0 (.ints .u8 (List.replicate k v) k)])):aa Try.prog 42 [.sl i g 0 1 c,.int .i64 k] M K Kp:=by
 refine aa.lift [.ep i g 0] (xM (c0:=c) (c:=co) (Kp:=fun _ _=>False) hk hv) rfl rfl ⟨⟨_,_,_,rfl,ak hi,eh.same rfl (fun h=>h)⟩,trivial⟩ ⟨trivial,trivial⟩ ?_ (fun _ _ h=>h.elim)
 rintro r M' ⟨rfl,rfl⟩
 exact⟨⟨rfl,rfl⟩,h⟩
end Go.Proofs.Ytibadaomjlkoaaa
