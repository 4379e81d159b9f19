import Derived.CallsIn
import Derived.Below
import Derived.WalkKit
import Derived.Great.FillDense
import Derived.Laws.StructEq
import Derived.Deep.AppendSrc
import Derived.Laws.CopyRow
import Derived.Great.BuildSlice
import Derived.Laws.MakeOwn
import Derived.Laws.BytesString
import Derived.Laws.IdiomStrings
import Derived.RangeFuncRecord
import Derived.MapKept
import Derived.Laws.Sem
set_option linter.unusedVariables false
set_option linter.unusedSimpArgs false
namespace Go.Proofs.Ytibadaomjlkoaaa
inductive AV where
 |bo (x:Bool)|tt|ff
 |int (k:IntKind)(n:Int)
 |str (x:ByteArray)
 |np
 |ptr (i g off:Nat)
 |nI (i g sz j o:Nat)
 |ns
 |sl (i g off n c:Nat)
 |nf
 |fn (fn:Fn)(first cap:List AV)
 |ni
 |jZ (t:TypeId)(v:AV)
 |nm
 |mp (i g:Nat)
 |agg (l:List AV)
 |aE (l:List AV)
 |raw (v:Value)
 deriving Inhabited
abbrev Env:=Nat→Nat→Option (Option (Nat×Nat))
mutual
def AV.c (ρ:Env):AV→Value
 | .bo x=>.bool x
 | .tt=>.bool true
 | .ff=>.bool false
 | .int k n=>.int k n
 | .str x=>.string x
 | .np=>.pointer none
 | .ptr i g off=>match ρ i g with|some (some q)=>.pointer (some ⟨q.1,q.2+off,none⟩)|_=>.pointer none
 | .nI i g sz j o=>match ρ i g with|some (some q)=>.pointer (some ⟨q.1,q.2+(j*sz+o),none⟩)|_=>.pointer none
 | .ns=>.slice none 0 0
 | .sl i g off n c=>match ρ i g with|some (some q)=>.slice (some ⟨q.1,q.2+off,none⟩) n c|_=>.slice none n c
 | .nf=>.nilFunc
 | .fn q a b=>.func q (AV.cl ρ a).toArray (AV.cl ρ b).toArray
 | .ni=>.nilIface
 | .jZ t v=>.iface t (v.c ρ)
 | .nm=>.map none
 | .mp i g=>match ρ i g with|some (some q)=>.map (some q.1)|_=>.map none
 | .agg l=>.agg (AV.cl ρ l).toArray
 | .aE l=>.tuple (AV.cl ρ l).toArray
 | .raw v=>v
def AV.cl (ρ:Env):List AV→List Value
 |[]=>[]
 |v::l=>v.c ρ::AV.cl ρ l
end
mutual
def AV.ok (ρ:Env):AV→Prop
 | .ptr i g _=>(ρ i g).isSome=true
 | .nI i g _ _ _=>(ρ i g).isSome=true
 | .sl i g _ _ _=>(ρ i g).isSome=true
 | .mp i g=>(ρ i g).isSome=true
 | .fn _ a b=>AV.eb ρ a∧AV.eb ρ b
 | .jZ _ v=>v.ok ρ
 | .agg l=>AV.eb ρ l
 | .aE l=>AV.eb ρ l
 |_=>True
def AV.eb (ρ:Env):List AV→Prop
 |[]=>True
 |v::l=>v.ok ρ∧AV.eb ρ l
end
theorem AV.bc (ρ:Env)(l:List AV):AV.cl ρ l=l.map (AV.c ρ):=by
 induction l with
 |nil=>rfl
 |cons v l ih=>simp[AV.cl,ih]
theorem AV.aQ (ρ:Env)(l:List AV):AV.eb ρ l↔∀v∈l,v.ok ρ:=by
 induction l with
 |nil=>simp[AV.eb]
 |cons v l ih=>simp[AV.eb,ih]
inductive MK where
 |int (k:IntKind)
 |pair (k1 k2:IntKind)
 |x6 (k:IntKind)
 deriving Inhabited
def MK.v (mk:MK)(x:Int×Int):Value:=
 match mk with
 | .int k=>.int k x.1
 | .pair k1 k2=>.agg #[.int k1 x.1,.int k2 x.2]
 | .x6 k=>.agg #[.int k x.1,.int k (x.2/256),.int k (x.2%256)]
def MK.wf (mk:MK)(x:Int×Int):Prop:=
 match mk with
 | .int _=>x.2=0
 | .pair _ _=>True
 | .x6 _=>True
inductive af where
 |cells (cs:List AV)
 |ints (k:IntKind)(xs:List Int)(c:Nat)
 |ax (xs:List Bool)(c:Nat)
 |cw (sz n:Nat)(get:Nat→List AV)(c:Nat)
 |map (mk:MK)(es:List ((Int×Int)×AV))
 |loop (l:Nat)(st:LoopState)(pd:Option Code)(fn:FuncId)(n:Nat)(a:Nat→AV)(ps:Array Tmp)(as bd:Code)(df:Nat)
 deriving Inhabited
def af.row:af→Bool
 | .map _ _=>false
 | .loop ..=>false
 |_=>true
def af.at:af→Nat→Option AV
 | .cells cs,o=>cs[o]?
 | .ints k xs _,o=>(xs[o]?).map (AV.int k)
 | .ax xs _,o=>(xs[o]?).map AV.bo
 | .cw sz n get _,o=>if o<n*sz then(get (o/sz))[o%sz]? else none
 |_,_=>none
def af.size:af→Nat
 | .cells cs=>cs.length
 | .ints _ _ c=>c
 | .ax _ c=>c
 | .cw sz _ _ c=>c*sz
 |_=>0
def af.b9:af→Prop
 | .cells _=>False
 | .ints _ xs c=>xs=[]∧c=0
 | .ax xs c=>xs=[]∧c=0
 | .cw _ n _ c=>n=0∧c=0
 |_=>False
inductive AO where
 |gone
 |one (own:Bool)(g:Nat)(x:af)
 |aX (own:Bool)(m:Nat)(x:Nat→af)
 deriving Inhabited
abbrev AH:=List AO
def bq:AO→Nat→Option (Bool×af)
 | .gone,_=>none
 | .one own g' x,g=>if g=g' then some (own,x)else none
 | .aX own m x,g=>if g<m then some (own,x g)else none
def slot (M:AH)(i g:Nat):Option (Bool×af):=
 match M[i]? with
 |some o=>bq o g
 |none=>none
def af.spec (ρ:Env)(x:af)(b:Nat)(w:World):Prop:=
 match x with
 | .map kk es=>∃(fM:Array MapEntry) (clock:Nat),w.heap[b]?=some (.map fM clock)∧fM.toList.map (fun e=>(e.key,e.val))=es.map (fun p=>(kk.v p.1,p.2.c ρ))∧(∀p∈es,p.2.ok ρ∧kk.wf p.1)∧(∀e∈fM.toList,e.born<clock)∧(fM.toList.map (·.born)).Nodup
 | .loop l st pd fn n a ps as bd df=>b=l∧∃tmps,w.heap[b]?=some (.loop {state:=st,pending:=pd,fn:=fn,tmps:=tmps,params:=ps,assign:=as,body:=bd,defers:=df})∧tmps.size=n∧∀t,(a t).ok ρ∧tmps.getD t undef=(a t).c ρ
 |_=>False
structure b8 (ρ:Env)(own:Bool)(x:af)(b base:Nat)(w:World):Prop where
 all:(x.row=true∧∃c e fr,w.heap[b]?=some (.cells c e fr)∧base+x.size≤c.size∧(∀k v,x.at k=some v→v.ok ρ∧c[base+k]?=some (v.c ρ))∧(own=true→fr=(0,0)))∨(x.row=false∧base=0∧x.spec ρ b w)
theorem b8.mk' {ρ:Env}{own:Bool}{x:af}{b base:Nat}{w:World}(hx:x.row=true)(h:∃c e fr,w.heap[b]?=some (.cells c e fr)∧base+x.size≤c.size∧(∀k v,x.at k=some v→v.ok ρ∧c[base+k]?=some (v.c ρ))∧(own=true→fr=(0,0))):b8 ρ own x b base w:=⟨.inl ⟨hx,h⟩⟩
theorem b8.out {ρ:Env}{own:Bool}{x:af}{b base:Nat}{w:World}(h:b8 ρ own x b base w)(hx:x.row=true):∃c e fr,w.heap[b]?=some (.cells c e fr)∧base+x.size≤c.size∧(∀k v,x.at k=some v→v.ok ρ∧c[base+k]?=some (v.c ρ))∧(own=true→fr=(0,0)):=by
 rcases h.all with⟨_,h⟩|⟨h0,_⟩
 ·exact h
 ·rw[hx]at h0;cases h0
theorem af.UI {x:af}{k:Nat}{v:AV}(h:x.at k=some v):x.row=true:=by
 cases x<;>first|rfl|(simp[af.at]at h)
structure aW (ρ:Env)(M:AH)(w:World):Prop where
 pr:∀i g,(ρ i g).isSome=true→i<M.length
 tag:∀i g own g' x,M[i]?=some (.one own g' x)→(ρ i g).isSome=true→g≤g'
 aX:∀i g own m x,M[i]?=some (.aX own m x)→(ρ i g).isSome=true→g<m
 holds:∀i g own x,slot M i g=some (own,x)→(∃q,ρ i g=some (some q)∧b8 ρ own x q.1 q.2 w)∨(ρ i g=some none∧x.b9)
 apart:∀i g x i' g' bJ x' q q',slot M i g=some (true,x)→slot M i' g'=some (bJ,x')→ρ i g=some (some q)→ρ i' g'=some (some q')→q.1=q'.1→i=i'∧g=g'
structure Ext (ρ:Env)(M:AH)(w:World)(ρ':Env)(M':AH)(w':World):Prop where
 env:∀i g l,ρ i g=some l→ρ' i g=some l
 size:w.heap.size≤w'.heap.size
 frame:∀b,b<w.heap.size→(∀i g x q,slot M i g=some (true,x)→ρ i g=some (some q)→q.1≠b)→w'.heap[b]?=w.heap[b]?
 fresh:∀i g x q,slot M' i g=some (true,x)→ρ' i g=some (some q)→q.1<w.heap.size→∃i0 g0 x0 q0,slot M i0 g0=some (true,x0)∧ρ i0 g0=some (some q0)∧q0.1=q.1
 os:w'.os=w.os
 tape:w'.tape=w.tape
 output:w'.output=w.output
theorem Ext.refl (ρ:Env)(M:AH)(w:World):Ext ρ M w ρ M w:=
 ⟨fun _ _ _ h=>h,Nat.le_refl _,fun _ _ _=>rfl,fun i g x q h1 h2 _=>⟨i,g,x,q,h1,h2,rfl⟩,rfl,rfl,rfl⟩
theorem Ext.trans {ρ ρ' iG:Env}{M M' mK:AH}{w w' xh:World}(h:Ext ρ M w ρ' M' w')(h':Ext ρ' M' w' iG mK xh):Ext ρ M w iG mK xh where
 env:=fun i g l e=>h'.env i g l (h.env i g l e)
 size:=Nat.le_trans h.size h'.size
 frame:=fun b hb hn=>by
  rw[h'.frame b (Nat.lt_of_lt_of_le hb h.size) ?_,h.frame b hb hn]
  intro i g x q h1 h2 e
  obtain⟨i0,g0,x0,q0,a1,a2,a3⟩:=h.fresh i g x q h1 h2 (by omega)
  exact hn i0 g0 x0 q0 a1 a2 (by omega)
 fresh:=fun i g x q h1 h2 hb=>by
  obtain⟨i0,g0,x0,q0,a1,a2,a3⟩:=h'.fresh i g x q h1 h2 (Nat.lt_of_lt_of_le hb h.size)
  obtain⟨i1,g1,x1,q1,b1,b2,b3⟩:=h.fresh i0 g0 x0 q0 a1 a2 (by omega)
  exact⟨i1,g1,x1,q1,b1,b2,by omega⟩
 os:=h'.os.trans h.os
 tape:=h'.tape.trans h.tape
 output:=h'.output.trans h.output
mutual
theorem AV.cW {ρ ρ':Env}(h:∀i g l,ρ i g=some l→ρ' i g=some l):∀v:AV,v.ok ρ→v.ok ρ'
 | .ptr i g _=>fun k=>by
   simp only[AV.ok]at k⊢;obtain⟨l,e⟩:=Option.isSome_iff_exists.1 k;rw[h _ _ _ e];rfl
 | .nI i g _ _ _=>fun k=>by
   simp only[AV.ok]at k⊢;obtain⟨l,e⟩:=Option.isSome_iff_exists.1 k;rw[h _ _ _ e];rfl
 | .sl i g _ _ _=>fun k=>by
   simp only[AV.ok]at k⊢;obtain⟨l,e⟩:=Option.isSome_iff_exists.1 k;rw[h _ _ _ e];rfl
 | .mp i g=>fun k=>by
   simp only[AV.ok]at k⊢;obtain⟨l,e⟩:=Option.isSome_iff_exists.1 k;rw[h _ _ _ e];rfl
 | .fn _ a b=>fun k=>by simp only[AV.ok]at k⊢;exact⟨AV.hU h a k.1,AV.hU h b k.2⟩
 | .jZ _ v=>fun k=>by simp only[AV.ok]at k⊢;exact AV.cW h v k
 | .agg l=>fun k=>by simp only[AV.ok]at k⊢;exact AV.hU h l k
 | .aE l=>fun k=>by simp only[AV.ok]at k⊢;exact AV.hU h l k
 | .bo _=>fun _=>trivial| .tt=>fun _=>trivial| .ff=>fun _=>trivial| .int _ _=>fun _=>trivial| .str _=>fun _=>trivial
 | .np=>fun _=>trivial| .ns=>fun _=>trivial| .nf=>fun _=>trivial| .ni=>fun _=>trivial| .nm=>fun _=>trivial| .raw _=>fun _=>trivial
theorem AV.hU {ρ ρ':Env}(h:∀i g l,ρ i g=some l→ρ' i g=some l):∀l:List AV,AV.eb ρ l→AV.eb ρ' l
 |[]=>fun _=>trivial
 |v::l=>fun k=>by simp only[AV.eb]at k⊢;exact⟨AV.cW h v k.1,AV.hU h l k.2⟩
end
mutual
theorem AV.dr {ρ ρ':Env}(h:∀i g l,ρ i g=some l→ρ' i g=some l):∀v:AV,v.ok ρ→v.c ρ'=v.c ρ
 | .ptr i g _=>fun k=>by
   simp only[AV.ok]at k;obtain⟨l,e⟩:=Option.isSome_iff_exists.1 k;simp only[AV.c,e,h _ _ _ e]
 | .nI i g _ _ _=>fun k=>by
   simp only[AV.ok]at k;obtain⟨l,e⟩:=Option.isSome_iff_exists.1 k;simp only[AV.c,e,h _ _ _ e]
 | .sl i g _ _ _=>fun k=>by
   simp only[AV.ok]at k;obtain⟨l,e⟩:=Option.isSome_iff_exists.1 k;simp only[AV.c,e,h _ _ _ e]
 | .mp i g=>fun k=>by
   simp only[AV.ok]at k;obtain⟨l,e⟩:=Option.isSome_iff_exists.1 k;simp only[AV.c,e,h _ _ _ e]
 | .fn _ a b=>fun k=>by simp only[AV.ok]at k;simp only[AV.c,AV.kM h a k.1,AV.kM h b k.2]
 | .jZ _ v=>fun k=>by simp only[AV.ok]at k;simp only[AV.c,AV.dr h v k]
 | .agg l=>fun k=>by simp only[AV.ok]at k;simp only[AV.c,AV.kM h l k]
 | .aE l=>fun k=>by simp only[AV.ok]at k;simp only[AV.c,AV.kM h l k]
 | .bo _=>fun _=>rfl| .tt=>fun _=>rfl| .ff=>fun _=>rfl| .int _ _=>fun _=>rfl| .str _=>fun _=>rfl
 | .np=>fun _=>rfl| .ns=>fun _=>rfl| .nf=>fun _=>rfl| .ni=>fun _=>rfl| .nm=>fun _=>rfl| .raw _=>fun _=>rfl
theorem AV.kM {ρ ρ':Env}(h:∀i g l,ρ i g=some l→ρ' i g=some l):∀l:List AV,AV.eb ρ l→AV.cl ρ' l=AV.cl ρ l
 |[]=>fun _=>rfl
 |v::l=>fun k=>by simp only[AV.eb]at k;simp only[AV.cl,AV.dr h v k.1,AV.kM h l k.2]
end
theorem af.Kr {ρ ρ':Env}(h:∀i g l,ρ i g=some l→ρ' i g=some l){x:af}{b:Nat}{w w':World}(hw:w'.heap[b]?=w.heap[b]?)(k:x.spec ρ b w):x.spec ρ' b w':=by
 cases x with
 |map kk es=>
  obtain⟨fM,clock,h1,h2,h3,h4,h5⟩:=k
  refine⟨fM,clock,hw.trans h1,?_,fun p hp=>⟨AV.cW h _ (h3 p hp).1,(h3 p hp).2⟩,h4,h5⟩
  rw[h2]
  exact List.map_congr_left fun p hp=>by rw[AV.dr h _ (h3 p hp).1]
 |loop l st pd fn n a ps as bd df=>
  obtain⟨h1,tmps,h2,h3,h4⟩:=k
  exact⟨h1,tmps,hw.trans h2,h3,fun t=>⟨AV.cW h _ (h4 t).1,by rw[AV.dr h _ (h4 t).1];exact(h4 t).2⟩⟩
 |cells _=>exact k.elim
 |ints _ _ _=>exact k.elim
 |ax _ _=>exact k.elim
 |cw _ _ _ _=>exact k.elim
theorem b8.ext {ρ ρ':Env}(h:∀i g l,ρ i g=some l→ρ' i g=some l){own:Bool}{x:af}{b base:Nat}{w w':World}(hw:w'.heap[b]?=w.heap[b]?)(k:b8 ρ own x b base w):b8 ρ' own x b base w':=by
 rcases k.all with⟨hx,c,e,fr,h1,h2,h3,h4⟩|⟨hx,hb,hs⟩
 ·exact .mk' hx ⟨c,e,fr,hw.trans h1,h2,fun k v hv=>⟨AV.cW h v (h3 k v hv).1,by rw[AV.dr h v (h3 k v hv).1];exact(h3 k v hv).2⟩,h4⟩
 ·exact⟨.inr ⟨hx,hb,af.Kr h hw hs⟩⟩
theorem b8.back {ρ ρ':Env}(h:∀i g l,ρ i g=some l→ρ' i g=some l){own:Bool}{x:af}{b base:Nat}{w w':World}(k:b8 ρ own x b base w)(k':b8 ρ' own x b base w'):b8 ρ own x b base w':=by
 rcases k'.all with⟨hx,c,e,fr,h1,h2,h3,h4⟩|⟨hx,hb,hs⟩
 ·obtain⟨c0,e0,fr0,k1,k2,k3,k4⟩:=k.out hx
  refine .mk' hx ⟨c,e,fr,h1,h2,fun j v hv=>?_,h4⟩
  have aF:=(k3 j v hv).1
  exact⟨aF,by rw[←AV.dr h v aF];exact(h3 j v hv).2⟩
 ·rcases k.all with⟨hx',_⟩|⟨_,_,CC⟩
  ·rw[hx]at hx';cases hx'
  ·refine⟨.inr ⟨hx,hb,?_⟩⟩
   cases x with
   |map kk es=>
    obtain⟨fM,clock,h1,h2,h3,h4,h5⟩:=hs
    obtain⟨_,_,_,_,k3,_⟩:=CC
    refine⟨fM,clock,h1,?_,k3,h4,h5⟩
    rw[h2]
    exact List.map_congr_left fun p hp=>by rw[AV.dr h _ (k3 p hp).1]
   |loop l st pd fn n a ps as bd df=>
    obtain⟨h1,tmps,h2,h3,h4⟩:=hs
    obtain⟨_,_,_,_,k4⟩:=CC
    exact⟨h1,tmps,h2,h3,fun t=>⟨(k4 t).1,by rw[←AV.dr h _ (k4 t).1];exact(h4 t).2⟩⟩
   |cells _=>exact hs.elim
   |ints _ _ _=>exact hs.elim
   |ax _ _=>exact hs.elim
   |cw _ _ _ _=>exact hs.elim
end Go.Proofs.Ytibadaomjlkoaaa
open Go.RowKit
namespace Go.Proofs.Ytibadaomjlkoaaa
inductive TK where
 |int (k:IntKind)|bool|str|ptr (e:Nat)|slice (e:Nat)|arr (n e:Nat)|struct (fs:List (Nat×Nat))|map (k e:Nat)|iface|func|other
 deriving Inhabited
def fO:TypeDesc→TK
 | .bool=>.bool| .int k=>.int k| .string=>.str| .pointer e=>.ptr e| .slice e=>.slice e| .array n e=>.arr n e
 | .struct fs=>.struct (fs.toList.map fun f=>(f.offset,f.type))| .map k e=>.map k e| .interface _=>.iface| .func ..=>.func|_=>.other
structure TI where
 k:TK
 size:Nat
 bytes:Nat
 zero:List AV
 deriving Inhabited
def TK.isAgg:TK→Bool
 | .struct _| .arr _ _=>true
 |_=>false
def IQ:Value→AV
 | .bool true=>.tt| .bool false=>.ff
 | .int k n=>.int k n
 | .string s=>.str s
 | .pointer none=>.np
 | .slice none 0 0=>.ns
 | .map none=>.nm
 | .nilFunc=>.nf
 | .nilIface=>.ni
 |v=>.raw v
def V2:Value→AV
 | .agg cs=>.agg (cs.toList.map IQ)
 | .tuple vs=>.aE (vs.toList.map IQ)
 |v=>IQ v
theorem rz (ρ:Env)(v:Value):(IQ v).c ρ=v:=by
 unfold IQ;split<;>simp[AV.c]
theorem vM (ρ:Env)(v:Value):(IQ v).ok ρ:=by
 unfold IQ;split<;>simp[AV.ok]
theorem V1 (ρ:Env)(v:Value):(V2 v).c ρ=v:=by
 unfold V2;split
 ·simp[AV.c,AV.bc,rz,Function.comp_def]
 ·simp[AV.c,AV.bc,rz,Function.comp_def]
 ·exact rz ρ _
theorem Tb (ρ:Env)(v:Value):(V2 v).ok ρ:=by
 unfold V2;split
 ·simp only[AV.ok,AV.aQ];intro x hx;obtain⟨y,_,rfl⟩:=List.mem_map.1 hx;exact vM ρ y
 ·simp only[AV.ok,AV.aQ];intro x hx;obtain⟨y,_,rfl⟩:=List.mem_map.1 hx;exact vM ρ y
 ·exact vM ρ _
def simpleT (P:Program)(t:Nat):Bool:=
 match P.underlying t with
 |some (.int _)=>true
 |some .bool=>true
 |_=>false
def CR (P:Program)(t:Nat)(d:TypeDesc):Bool:=
 match d with
 | .struct fs=>!(fs.toList.all fun f=>simpleT P f.type)||(!P.stoodInHeld t&&!P.eqGuardType P.depth t&&fs.toList.all fun f=>f.name !="_")
 |_=>true
def rM (P:Program)(t:Nat):Option TI:=
 match P.underlying t,P.info? t with
 |some d,some i=>match CR P t d,i.zero with
  |false,_=>none
  |true,none=>none
  |true,some z=>match z,(fO d).isAgg with
   | .agg _,false=>none
   | .agg cs,true=>some ⟨fO d,i.size,i.bytes,(Value.agg cs).cells.toList.map IQ⟩
   |_,true=>none
   |z,false=>some ⟨fO d,i.size,i.bytes,z.cells.toList.map IQ⟩
 |_,_=>none
def av (P:Program)(T:List TI):Prop:=∀t ti,T[t]?=some ti→rM P t=some ti
theorem av.mk' {P:Program}{T:List TI}(h:(List.range T.length).map (rM P)=T.map some):av P T:=by
 intro t ti ht
 have bh:t<T.length:=(List.getElem?_eq_some_iff.1 ht).1
 have:=congrArg (fun l=>l[t]?) h
 simp[bh]at this
 obtain⟨_,e⟩:=List.getElem?_eq_some_iff.1 ht
 rw[this,e]
theorem av.get {P:Program}{T:List TI}(h:av P T){t:Nat}{ti:TI}(ht:T[t]?=some ti):
 ∃d i z,P.underlying t=some d∧P.info? t=some i∧i.zero=some z∧ti=⟨fO d,i.size,i.bytes,z.cells.toList.map IQ⟩:=by
 have:=h t ti ht
 unfold rM at this
 split at this
 ·split at this
  ·cases this
  ·cases this
  ·split at this
   ·cases this
   ·injection this with this;exact⟨_,_,_,‹_›,‹_›,‹_›,this.symm⟩
   ·cases this
   ·injection this with this;exact⟨_,_,_,‹_›,‹_›,‹_›,this.symm⟩
 ·cases this
theorem av.Xz {P:Program}{T:List TI}(h:av P T){t:Nat}{ti:TI}(ht:T[t]?=some ti):∃d,P.underlying t=some d∧fO d=ti.k∧CR P t d=true:=by
 have:=h t ti ht
 unfold rM at this
 split at this
 ·rename_i d i hd hi
  split at this
  ·cases this
  ·cases this
  ·rename_i he _
   split at this
   ·cases this
   ·injection this with this;subst this;exact⟨d,hd,rfl,he⟩
   ·cases this
   ·injection this with this;subst this;exact⟨d,hd,rfl,he⟩
 ·cases this
theorem av.shape {P:Program}{T:List TI}(h:av P T){t:Nat}{ti:TI}(ht:T[t]?=some ti){i:TypeInfo}{z:Value}(hi:P.info? t=some i)(hz:i.zero=some z):(∃cs,z=.agg cs)↔ti.k.isAgg=true:=by
 have:=h t ti ht
 unfold rM at this
 rw[hi]at this
 split at this
 ·rename_i d i' hd lf
  injection lf with lf;subst lf
  rw[hz]at this
  cases he:CR P t d with
  |false=>rw[he]at this;cases this
  |true=>
  rw[he]at this
  simp only at this
  split at this
  ·cases this
  ·rename_i hk
   injection this with this
   subst this
   exact⟨fun _=>hk,fun _=>⟨_,rfl⟩⟩
  ·cases this
  ·rename_i tL hk
   injection this with this
   subst this
   exact⟨fun⟨cs,e⟩=>absurd e (fun e=>by subst e;exact tL cs rfl),fun e=>by rw[hk]at e;cases e⟩
 ·cases this
def arith (k:IntKind)(wr:Bool)(z:Int)(K:Int→Prop):Prop:=
 match k with
 | .i64=>match wr with
   |true=>K (wrap64 z)
   |false=>(-9223372036854775808≤z∧z≤9223372036854775807)∧K z
 | .u8=>K (z%256)
 | .u16=>K (z%65536)
 | .u32=>K (z%4294967296)
 | .u64=>K (z%18446744073709551616)
 |k=>K (k.wrap z)
theorem fL {k:IntKind}{wr:Bool}{z:Int}{K:Int→Prop}(h:arith k wr z K):K (k.wrap z):=by
 unfold arith at h
 split at h
 ·split at h
  ·have e:IntKind.i64.wrap z=wrap64 z:=by simp[IntKind.wrap,wrap64,IntKind.bits,IntKind.signed];omega
   rw[e];exact h
  ·have e:IntKind.i64.wrap z=z:=by simp[IntKind.wrap,IntKind.bits,IntKind.signed];omega
   rw[e];exact h.2
 all_goals first|exact h|(simpa[IntKind.wrap,IntKind.bits,IntKind.signed]using h)
def cG (op:BinOp)(k:IntKind)(x y:Int):Int:=
 let a:=BitVec.ofInt k.bits x
 let b:=BitVec.ofInt k.bits y
 match op with
 | .and=>k.wrap (a&&&b).toNat
 | .or=>k.wrap (a|||b).toNat
 | .xor=>k.wrap (a^^^b).toNat
 |_=>k.wrap (a&&&~~~b).toNat
def bg (k:IntKind)(x y:Int):Int:=k.wrap (x*2^min y.toNat k.bits)
def bS (k:IntKind)(x y:Int):Int:=x.fdiv (2^min y.toNat k.bits)
def cV (k k':IntKind)(p:Prop):Prop:=
 match k,k' with
 | .i8,.i8| .i16,.i16| .i32,.i32| .i64,.i64| .u8,.u8| .u16,.u16| .u32,.u32| .u64,.u64=>p
 |_,_=>False
theorem bl {k k':IntKind}{p:Prop}(h:cV k k' p):k=k'∧p:=by
 unfold cV at h;split at h<;>first|exact⟨rfl,h⟩|exact h.elim
def AV.MJ:AV→Option Bool
 | .tt=>some true| .ff=>some false| .bo x=>some x|_=>none
theorem AV.xa {v:AV}{x:Bool}(ρ:Env)(h:v.MJ=some x):v.c ρ=.bool x:=by
 unfold AV.MJ at h;split at h<;>simp_all[AV.c]
def Gw (wr:Bool)(op:BinOp)(x y:AV)(K:AV→Prop):Prop:=
 match x,y with
 | .int k a,.int k' b=>match op with
   | .shl=>0≤b∧K (.int k (bg k a b))
   | .shr=>0≤b∧K (.int k (bS k a b))
   | .add=>cV k k' (arith k wr (a+b) fun z=>K (.int k z))
   | .sub=>cV k k' (arith k wr (a-b) fun z=>K (.int k z))
   | .mul=>cV k k' (arith k wr (a*b) fun z=>K (.int k z))
   | .quo=>cV k k' (b≠0∧arith k wr (a.tdiv b) fun z=>K (.int k z))
   | .rem=>cV k k' (b≠0∧K (.int k (a.tmod b)))
   | .and=>cV k k' (K (.int k (cG .and k a b)))
   | .or=>cV k k' (K (.int k (cG .or k a b)))
   | .xor=>cV k k' (K (.int k (cG .xor k a b)))
   | .andNot=>cV k k' (K (.int k (cG .andNot k a b)))
   | .eql=>cV k k' (K (.bo (decide (a=b))))
   | .neq=>cV k k' (K (.bo (!decide (a=b))))
   | .lss=>cV k k' (K (.bo (decide (a<b))))
   | .leq=>cV k k' (K (.bo (decide (a≤b))))
   | .gtr=>cV k k' (K (.bo (decide (b<a))))
   | .geq=>cV k k' (K (.bo (decide (b≤a))))
 | .str a,.str b=>match op with
   | .eql=>K (.bo (a.toList==b.toList))
   | .neq=>K (.bo (!(a.toList==b.toList)))
   | .add=>(a.size:Int)+b.size≤9223372036854775807∧K (.str (a++b))
   |_=>False
 |_,_=>False
theorem aH {P:Program}{w:World}{op:BinOp}{t:Nat}{x y:Operand}{k k':IntKind}{a b:Int}:(eqGuard op t x y (.int k a) (.int k' b)).run P w=.ok () w:=by
 unfold eqGuard;split<;>rfl
theorem iI {P:Program}{w:World}{op:BinOp}{t:Nat}{x y:Operand}{a b:ByteArray}:(eqGuard op t x y (.string a) (.string b)).run P w=.ok () w:=by
 unfold eqGuard;split<;>rfl
theorem jW {wr:Bool}{op:BinOp}{x y:AV}{K:AV→Prop}(h:Gw wr op x y K)(ρ:Env):
 ∃v,K v∧v.ok ρ∧∀(P:Program)(w:World)(t:Nat)(ox oy:Operand),(do eqGuard op t ox oy (x.c ρ) (y.c ρ);binOp op t (x.c ρ) (y.c ρ):Sem Value).run P w=.ok (v.c ρ) w:=by
 unfold Gw at h
 split at h
 ·rename_i k a k' b
  simp only[AV.c]
  cases op<;>simp only at h
  case shl=>exact⟨_,h.2,trivial,fun P w t ox oy=>by simp[aH,binOp,Op.shift,bg,AV.c,Int.not_lt.2 h.1]⟩
  case shr=>exact⟨_,h.2,trivial,fun P w t ox oy=>by simp[aH,binOp,Op.shift,bS,AV.c,Int.not_lt.2 h.1]⟩
  all_goals(replace h:=bl h;obtain⟨rfl,h⟩:=h)
  case add=>exact⟨_,fL h,trivial,fun P w t ox oy=>by simp[aH,binOp,Op.intArith,AV.c]⟩
  case sub=>exact⟨_,fL h,trivial,fun P w t ox oy=>by simp[aH,binOp,Op.intArith,AV.c]⟩
  case mul=>exact⟨_,fL h,trivial,fun P w t ox oy=>by simp[aH,binOp,Op.intArith,AV.c]⟩
  case quo=>exact⟨_,fL h.2,trivial,fun P w t ox oy=>by simp[aH,binOp,Op.intDiv,AV.c,h.1]⟩
  case rem=>exact⟨_,h.2,trivial,fun P w t ox oy=>by simp[aH,binOp,Op.intDiv,AV.c,h.1]⟩
  case and=>exact⟨_,h,trivial,fun P w t ox oy=>by simp[aH,binOp,Op.intBits,AV.c,cG]⟩
  case or=>exact⟨_,h,trivial,fun P w t ox oy=>by simp[aH,binOp,Op.intBits,AV.c,cG]⟩
  case xor=>exact⟨_,h,trivial,fun P w t ox oy=>by simp[aH,binOp,Op.intBits,AV.c,cG]⟩
  case andNot=>exact⟨_,h,trivial,fun P w t ox oy=>by simp[aH,binOp,Op.intBits,AV.c,cG]⟩
  case eql=>exact⟨_,h,trivial,fun P w t ox oy=>by simp[aH,binOp,Op.intCmp,AV.c];exact(Bool.beq_eq_decide_eq a b)⟩
  case neq=>exact⟨_,h,trivial,fun P w t ox oy=>by simp[aH,binOp,Op.intCmp,AV.c,bne];exact(Bool.beq_eq_decide_eq a b)⟩
  case lss=>exact⟨_,h,trivial,fun P w t ox oy=>by simp[aH,binOp,Op.intCmp,AV.c]⟩
  case leq=>exact⟨_,h,trivial,fun P w t ox oy=>by simp[aH,binOp,Op.intCmp,AV.c]⟩
  case gtr=>exact⟨_,h,trivial,fun P w t ox oy=>by simp[aH,binOp,Op.intCmp,AV.c]⟩
  case geq=>exact⟨_,h,trivial,fun P w t ox oy=>by simp[aH,binOp,Op.intCmp,AV.c]⟩
 ·rename_i a b
  simp only[AV.c]
  cases op<;>simp only at h
  case eql=>exact⟨_,h,trivial,fun P w t ox oy=>by rw[Sem.run_bind,iI];simp only[Result.andThen_ok,binOp,Op.stringOp];rfl⟩
  case neq=>exact⟨_,h,trivial,fun P w t ox oy=>by rw[Sem.run_bind,iI];simp only[Result.andThen_ok,binOp,Op.stringOp];rfl⟩
  case add=>exact⟨_,h.2,trivial,fun P w t ox oy=>by simp[iI,binOp,Op.stringOp,AV.c];exact h.1⟩
 ·exact h.elim
def AV.one:AV→Bool
 | .agg _| .aE _| .raw _=>false
 |_=>true
theorem AV.QT {v:AV}(ρ:Env)(h:v.one=true):(v.c ρ).oneCell'=true:=by
 cases v with
 |ptr i g off=>simp only[AV.c];rcases ρ i g with _|_|q<;>rfl
 |nI i g sz j o=>simp only[AV.c];rcases ρ i g with _|_|q<;>rfl
 |sl i g off n c=>simp only[AV.c];rcases ρ i g with _|_|q<;>rfl
 |mp i g=>simp only[AV.c];rcases ρ i g with _|_|q<;>rfl
 |agg l=>simp[AV.one]at h
 |aE l=>simp[AV.one]at h
 |raw v=>simp[AV.one]at h
 |_=>rfl
def AV.parts:AV→List AV
 | .agg l=>l
 |v=>[v]
theorem AV.oO (ρ:Env)(v:AV)(h:∀x,v≠ .raw x):(v.c ρ).cells.toList=AV.cl ρ v.parts:=by
 cases v with
 |ptr i g off=>simp only[AV.c,AV.parts,AV.cl];rcases ρ i g with _|_|q<;>rfl
 |nI i g sz j o=>simp only[AV.c,AV.parts,AV.cl];rcases ρ i g with _|_|q<;>rfl
 |sl i g off n c=>simp only[AV.c,AV.parts,AV.cl];rcases ρ i g with _|_|q<;>rfl
 |mp i g=>simp only[AV.c,AV.parts,AV.cl];rcases ρ i g with _|_|q<;>rfl
 |agg l=>simp[AV.c,AV.parts,Value.cells]
 |raw v=>exact absurd rfl (h v)
 |_=>rfl
theorem AV.nJ {ρ:Env}{v:AV}(h:v.ok ρ):AV.eb ρ v.parts:=by
 cases v<;>simp_all[AV.parts,AV.eb,AV.ok]
def dv (cs:List AV)(off:Nat)(vs:List AV):List AV:=
 match vs with
 |[v]=>cs.set off v
 |vs=>cs.take off++vs++cs.drop (off+vs.length)
theorem BN {cs vs:List AV}{off:Nat}(h:¬∃v,vs=[v]):dv cs off vs=cs.take off++vs++cs.drop (off+vs.length):=by
 unfold dv
 split
 ·exact absurd ⟨_,rfl⟩ h
 ·rfl
theorem lT {cs vs:List AV}{off k:Nat}(h:off+vs.length≤cs.length):
 (dv cs off vs)[k]?=if off≤k∧k<off+vs.length then vs[k-off]? else cs[k]?:=by
 by_cases hv:∃v,vs=[v]
 ·obtain⟨v,rfl⟩:=hv
  simp only[dv,List.length_cons,List.length_nil]at h⊢
  by_cases hk:k=off
  ·subst hk;simp[List.getElem?_set];omega
  ·rw[List.getElem?_set_ne (Ne.symm hk),if_neg (by omega)]
 ·rw[BN hv]
  have hl:(cs.take off).length=off:=by simp;omega
  by_cases h1:k<off
  ·rw[if_neg (by omega),List.append_assoc,List.getElem?_append_left (by omega),List.getElem?_take,if_pos h1]
  ·by_cases h2:k<off+vs.length
   ·rw[if_pos ⟨by omega,h2⟩,List.append_assoc,List.getElem?_append_right (by omega),hl,List.getElem?_append_left (by omega)]
   ·rw[if_neg (by omega),List.getElem?_append_right (by simp;omega)]
    simp only[List.length_append,hl,List.getElem?_drop]
    congr 1;omega
theorem xw {cs vs:List AV}{off:Nat}(h:off+vs.length≤cs.length):(dv cs off vs).length=cs.length:=by
 unfold dv
 split
 ·simp
 ·simp;omega
def ze (pl:Nat→Option (Nat×Nat)):List AV→List (Nat×AV)→Option (List AV)
 |cs,[]=>some cs
 |cs,(i,v)::r=>match pl i with
  |some (off,sz)=>match Nat.beq v.parts.length sz&&Nat.ble (off+sz) cs.length&&v.parts.all AV.one with
   |true=>ze pl (dv cs off v.parts) r
   |false=>none
  |none=>none
theorem n8 {ρ:Env}{pl:Nat→Option (Nat×Nat)}:∀{l:List (Nat×AV)}{cs Mw:List AV},ze pl cs l=some Mw→AV.eb ρ cs→(∀x∈l,x.2.ok ρ)→
 ∀cells:Array Value,cells.toList=AV.cl ρ cs→AV.eb ρ Mw∧Instr.fill pl cells (l.map fun x=>(x.1,x.2.c ρ))=some (AV.cl ρ Mw).toArray
 |[],cs,Mw,h,aF,_,cells,hc=>by
  simp only[ze,Option.some.injEq]at h;subst h
  exact⟨aF,by rw[←hc];rfl⟩
 |(i,v)::r,cs,Mw,h,aF,hv,cells,hc=>by
  simp only[ze]at h
  split at h
  ·rename_i off sz cg
   split at h
   ·rename_i hb
    simp only[Bool.and_eq_true]at hb
    obtain⟨⟨h1,h2⟩,h3⟩:=hb
    have iA:v.parts.length=sz:=Nat.eq_of_beq_eq_true h1
    have Mf:off+sz≤cs.length:=by simpa using h2
    have hr:∀x,v≠ .raw x:=by rintro x rfl;simp[AV.parts,AV.one]at h3
    have Zm:=AV.oO ρ v hr
    have fb:(v.c ρ).cells.size=sz:=by rw[←Array.length_toList,Zm,AV.bc,List.length_map,iA]
    have HE:cells.size=cs.length:=by rw[←Array.length_toList,hc,AV.bc,List.length_map]
    have Jb:=AV.nJ (hv _ List.mem_cons_self)
    have aaf:AV.eb ρ (dv cs off v.parts):=by
     rw[AV.aQ]at aF Jb⊢
     intro u hu
     obtain⟨k,hk⟩:=List.getElem?_of_mem hu
     rw[lT (by omega)]at hk
     split at hk
     ·exact Jb u (List.mem_of_getElem? hk)
     ·exact aF u (List.mem_of_getElem? hk)
    have kI:((v.c ρ).cells.zipIdx.foldl (fun cs (x:Value×Nat)=>cs.setIfInBounds (off+x.2) x.1) cells).toList=AV.cl ρ (dv cs off v.parts):=by
     obtain⟨f1,f2⟩:=Go.Great.foldl_set off (v.c ρ).cells.toList 0 cells
     have e0:(v.c ρ).cells.zipIdx.foldl (fun cs (x:Value×Nat)=>cs.setIfInBounds (off+x.2) x.1) cells=((v.c ρ).cells.toList.zipIdx 0).foldl (fun cs (x:Value×Nat)=>cs.setIfInBounds (off+x.2) x.1) cells:=by
      rw[←Array.foldl_toList,Array.toList_zipIdx]
     rw[e0]
     apply List.ext_getElem?
     intro k
     rw[Array.getElem?_toList,f2 k,AV.bc,List.getElem?_map,lT (by omega)]
     rw[Zm,AV.bc,List.length_map,HE]
     by_cases hk:off≤k∧k<off+v.parts.length
     ·rw[if_pos (by omega),if_pos hk,List.getElem?_map];simp
     ·rw[if_neg (by omega),if_neg hk,←Array.getElem?_toList,hc,AV.bc,List.getElem?_map]
    obtain⟨g1,g2⟩:=n8 h aaf (fun x hx=>hv x (List.mem_cons_of_mem _ hx)) _ kI
    refine⟨g1,?_⟩
    simp only[List.map_cons,Instr.fill,cg]
    rw[if_neg (by simp[fb];omega)]
    exact g2
   ·cases h
  ·cases h
def rq (T:List TI):List (Nat×Nat)→Option (List (Nat×Nat))
 |[]=>some []
 |(off,ft)::fs=>match T[ft]?,rq T fs with
  |some ti,some r=>some ((off,ti.size)::r)
  |_,_=>none
end Go.Proofs.Ytibadaomjlkoaaa
open Go.RowKit
namespace Go.Proofs.Ytibadaomjlkoaaa
def fP (M:AH)(i g:Nat)(K:Bool→af→Prop):Prop:=
 match M[i]? with
 |some (.one own g' x)=>g=g'∧K own x
 |some (.aX own m x)=>g<m∧K own (x g)
 |_=>False
theorem ba {M:AH}{i g:Nat}{K:Bool→af→Prop}(h:fP M i g K):∃own x,slot M i g=some (own,x)∧K own x:=by
 unfold fP at h
 split at h
 ·rename_i own g' x hm
  obtain⟨rfl,h⟩:=h
  exact⟨own,x,by simp[slot,hm,bq],h⟩
 ·rename_i own m x hm
  exact⟨own,x g,by simp[slot,hm,bq,h.1],h.2⟩
 ·exact h.elim
def ZF (neg:Bool)(M:AH)(k:TK)(x y:AV)(K:AV→Prop):Prop:=
 match k with
 | .ptr _=>match x,y with
   | .np,.np=>K (if neg then .ff else .tt)
   | .ptr i g off,.np=>fP M i g fun own x_=>match x_ with
     | .cells _=>K (if neg then .tt else .ff)
     |_=>False
   | .np,.ptr i g off=>fP M i g fun own x_=>match x_ with
     | .cells _=>K (if neg then .tt else .ff)
     |_=>False
   |_,_=>False
 | .slice _=>match x,y with
   | .ns,.ns=>K (if neg then .ff else .tt)
   | .sl i g off n c,.ns=>fP M i g fun own x_=>match x_ with
     | .cells _=>K (if neg then .tt else .ff)
     | .ints _ xs co=>∀b:Bool,(b=true→xs=[]∧co=0)→K (.bo (if neg then !b else b))
     | .ax xs co=>∀b:Bool,(b=true→xs=[]∧co=0)→K (.bo (if neg then !b else b))
     | .cw _ m _ co=>∀b:Bool,(b=true→m=0∧co=0)→K (.bo (if neg then !b else b))
     |_=>False
   |_,_=>False
 | .func=>match x,y with
   | .nf,.nf=>K (if neg then .ff else .tt)
   | .fn _ _ _,.nf=>K (if neg then .tt else .ff)
   |_,_=>False
 | .iface=>match x,y with
   | .jZ _ _,.ni=>K (if neg then .tt else .ff)
   |_,_=>False
 | .bool=>match x.MJ,y.MJ with
   |some p,some q=>K (.bo (if neg then !(p==q)else p==q))
   |_,_=>False
 |_=>False
def Qq (T:List TI)(la lb:List AV):List (Nat×Nat)→(Bool→Prop)→Prop
 |[],K=>K true
 |(off,ft)::fs,K=>match T[ft]?,la[off]?,lb[off]? with
  |some ⟨.int k,_,_,_⟩,some (.int k1 a),some (.int k2 b)=>cV k k1 (cV k k2 (Qq T la lb fs fun r=>K (decide (a=b)&&r)))
  |some ⟨.bool,_,_,_⟩,some x,some y=>match x.MJ,y.MJ with
   |some p,some q=>Qq T la lb fs fun r=>K ((p==q)&&r)
   |_,_=>False
  |_,_,_=>False
def Qp (T:List TI)(neg:Bool)(t:Nat)(la lb:List AV)(K:AV→Prop):Prop:=
 match T[t]? with
 |some ⟨.struct fs,_,_,_⟩=>Qq T la lb fs fun r=>K (.bo (if neg then !r else r))
 |_=>False
def bK (b:Bool)(p:Prop):Prop:=match b with|true=>p|false=>False
theorem aw {b:Bool}{p:Prop}(h:bK b p):b=true∧p:=by
 cases b
 ·exact h.elim
 ·exact⟨rfl,h⟩
def bT (c l off sz:Nat):Nat:=if c=l then off else off+l*sz
def DK (T:List TI)(t:Nat)(x:AV)(lo hi:Option AV)(K:AV→Prop):Prop:=
 match x with
 | .sl i g off n c=>match T[t]? with
   |some ⟨.slice e,_,_,_⟩=>match T[e]? with
    |some te=>match lo,hi with
     |none,none=>K (.sl i g off n c)
     |none,some (.int _ h)=>(0≤h∧h≤c)∧K (.sl i g off h.toNat c)
     |some (.int _ l),none=>(0≤l∧l≤n)∧n≤c∧K (.sl i g (bT c l.toNat off te.size) (n-l.toNat) (c-l.toNat))
     |some (.int _ l),some (.int _ h)=>(0≤l∧l≤h∧h≤c)∧K (.sl i g (bT c l.toNat off te.size) (h.toNat-l.toNat) (c-l.toNat))
     |_,_=>False
    |none=>False
   |_=>False
 | .ns=>match T[t]? with
   |some ⟨.slice e,_,_,_⟩=>match T[e]? with
    |some te=>match lo,hi with
     |none,some (.int _ h)=>h=0∧K .ns
     |_,_=>False
    |none=>False
   |_=>False
 | .str s=>match T[t]? with
   |some ⟨.str,_,_,_⟩=>match lo,hi with
    |none,none=>K (.str (s.extract 0 s.size))
    |none,some (.int _ h)=>(0≤h∧h≤s.size)∧K (.str (s.extract 0 h.toNat))
    |some (.int _ l),none=>(0≤l∧l≤s.size)∧K (.str (s.extract l.toNat s.size))
    |some (.int _ l),some (.int _ h)=>(0≤l∧l≤h∧h≤s.size)∧K (.str (s.extract l.toNat h.toNat))
    |_,_=>False
   |_=>False
 |_=>False
def zS (T:List TI)(t:Nat)(x:AV)(lo hi:Option AV)(mx:AV)(K:AV→Prop):Prop:=
 match x with
 | .sl i g off n c=>match T[t]? with
   |some ⟨.slice e,_,_,_⟩=>match T[e]? with
    |some te=>match lo,hi,mx with
     |none,some (.int _ h),.int _ m=>(0≤h∧h≤m∧m≤c)∧K (.sl i g off h.toNat m.toNat)
     |some (.int _ l),some (.int _ h),.int _ m=>(0≤l∧l≤h∧h≤m∧m≤c)∧K (.sl i g (bT m.toNat l.toNat off te.size) (h.toNat-l.toNat) (m.toNat-l.toNat))
     |_,_,_=>False
    |none=>False
   |_=>False
 |_=>False
def Tv (T:List TI)(M:AH)(t:Nat)(x ix:AV)(K:AV→Prop):Prop:=
 match ix with
 | .int _ z=>match x with
   | .sl i g off n c=>match T[t]? with
     |some ⟨.slice e,_,_,_⟩=>match T[e]? with
      |some te=>(0≤z∧z<n)∧fP M i g fun own x_=>match x_ with
       | .cells _=>K (.ptr i g (off+z.toNat*te.size))
       | .ints _ xs _=>bK (Nat.beq te.size 1) (0<xs.length∧K (.ptr i g (z.toNat+off)))
       | .ax xs _=>bK (Nat.beq te.size 1) (0<xs.length∧K (.ptr i g (z.toNat+off)))
       | .cw sz m _ _=>match off with
         |0=>bK (Nat.beq te.size sz) (0<m∧K (.nI i g sz z.toNat 0))
         |_=>False
       |_=>False
      |none=>False
     |_=>False
   | .ptr i g off=>match T[t]? with
     |some ⟨.arr n e,_,_,_⟩=>match T[e]? with
      |some te=>(0≤z∧z<n)∧fP M i g fun own x_=>match x_ with
       | .cells _=>K (.ptr i g (off+z.toNat*te.size))
       |_=>False
      |none=>False
     |_=>False
   |_=>False
 |_=>False
def pK (ti:TI)(l:List AV)(off:Nat)(K:AV→Prop):Prop:=
 match ti.k.isAgg with
 |true=>K (.agg ((l.drop off).take ti.size))
 |false=>match l[off]? with
  |some v=>K v
  |none=>False
def yR (M:AH)(v:AV)(p:Prop):Prop:=
 match v with
 | .ptr i g off=>fP M i g fun own x_=>match x_ with
   | .cells _=>p
   | .ints _ xs _=>off<xs.length∧p
   | .ax xs _=>off<xs.length∧p
   |_=>False
 | .nI i g _ j _=>fP M i g fun own x_=>match x_ with
   | .cw _ n _ _=>j<n∧p
   |_=>False
 |_=>False
def mB (v:AV)(K:AV→Prop):Prop:=
 match v with
 | .bo x=>K (.bo x)| .tt=>K .tt| .ff=>K .ff| .int k n=>K (.int k n)| .str x=>K (.str x)| .np=>K .np| .ptr i g off=>K (.ptr i g off)| .nI i g sz j o=>K (.nI i g sz j o)
 | .ns=>K .ns| .sl i g off n c=>K (.sl i g off n c)| .nf=>K .nf| .fn q a b=>K (.fn q a b)| .ni=>K .ni| .jZ t v=>K (.jZ t v)| .nm=>K .nm| .mp i g=>K (.mp i g)
 | .agg l=>K (.agg l)| .aE l=>K (.aE l)| .raw v=>K (.raw v)
theorem eX {v:AV}{K:AV→Prop}(h:mB v K):K v:=by cases v<;>exact h
def zw (ti:TI)(K:AV→Prop):Prop:=match ti.k.isAgg with
 |true=>K (.aE [.agg ti.zero,.ff])
 |false=>∀z,K (.aE [.raw z,.ff])
def jx (T:List TI)(wr:Bool)(M:AH)(e:Operand→AV)(o:Op)(K:AV→Prop):Prop:=
 match o with
 | .move x| .assign x=>mB (e x) K
 | .pick c a b=>match e c with
   | .tt=>mB (e a) K
   | .ff=>mB (e b) K
   | .bo x=>(x=true→mB (e a) K)∧(x=false→mB (e b) K)
   |_=>False
 | .nilCheck x=>match e x with
   | .fn (.func f) a b=>K (.fn (.func f) a b)
   |v=>yR M v (K v)
 | .binOp op t x y _=>match op with
   | .eql=>match e x,e y with
     | .int k a,.int k' b=>Gw wr .eql (.int k a) (.int k' b) K
     | .str a,.str b=>Gw wr .eql (.str a) (.str b) K
     | .agg la,.agg lb=>Qp T false t la lb K
     |a,b=>match T[t]? with
      |some ti=>ZF false M ti.k a b K
      |none=>False
   | .neq=>match e x,e y with
     | .int k a,.int k' b=>Gw wr .neq (.int k a) (.int k' b) K
     | .str a,.str b=>Gw wr .neq (.str a) (.str b) K
     | .agg la,.agg lb=>Qp T true t la lb K
     |a,b=>match T[t]? with
      |some ti=>ZF true M ti.k a b K
      |none=>False
   |op=>Gw wr op (e x) (e y) K
 | .unOp op _ x=>match op,e x with
   | .not,.tt=>K .ff
   | .not,.ff=>K .tt
   | .not,.bo b=>K (.bo (!b))
   | .neg,.int k n=>arith k wr (0-n) fun z=>K (.int k z)
   | .xor,.int k n=>K (.int k (cG .xor k (if k.signed then-1 else k.max) n))
   |_,_=>False
 | .convert src dst x=>match e x,T[src]?,T[dst]? with
   | .int _ n,some _,some ⟨.int k,_,_,_⟩=>arith k wr n fun z=>K (.int k z)
   |_,_,_=>False
 | .makeInterface t x=>match T[t]? with
   |some ⟨.iface,_,_,_⟩=>False
   |some _=>K (.jZ t (e x))
   |none=>False
 | .makeFunc fn first cap=>K (.fn fn (first.toList.map e) (cap.toList.map e))
 | .extract x ix=>match e x with
   | .aE l=>match l[ix]? with
     |some v=>K v
     |none=>False
   |_=>False
 | .field t x f=>match e x,T[t]? with
   | .agg l,some ⟨.struct fs,_,_,_⟩=>match fs[f]? with
     |some (off,ft)=>match T[ft]? with
      |some ti=>pK ti l off K
      |none=>False
     |none=>False
   |_,_=>False
 | .fieldAddr t x f=>match T[t]? with
   |some ⟨.struct fs,_,_,_⟩=>match fs[f]? with
    |some (off,ft)=>match T[ft]? with
     |some ti=>bK (!Nat.beq ti.size 0) (match e x with
      | .ptr i g o=>yR M (.ptr i g o) (K (.ptr i g (o+off)))
      | .nI i g sz j o=>yR M (.nI i g sz j o) (K (.nI i g sz j (o+off)))
      |_=>False)
     |none=>False
    |none=>False
   |_=>False
 | .indexAddr t x ix=>Tv T M t (e x) (e ix) K
 | .index t x ix=>match e x,e ix,T[t]? with
   | .agg l,.int _ z,some ⟨.arr n el,_,_,_⟩=>match T[el]? with
     |some ti=>(0≤z∧z<n)∧pK ti l (z.toNat*ti.size) K
     |none=>False
   | .str s,.int _ z,some ⟨.str,_,_,_⟩=>(0≤z∧z<s.size)∧K (.int .u8 (((s.data.toList.getD z.toNat 0).toNat:Nat):Int))
   |_,_,_=>False
 | .sliceToArrayPointer t x=>match e x,T[t]? with
   | .sl i g off n _,some ⟨.arr m _,_,_,_⟩=>m≤n∧yR M (.ptr i g off) (K (.ptr i g off))
   |_,_=>False
 | .slice t x lo hi none=>DK T t (e x) (lo.map e) (hi.map e) K
 | .slice t x lo hi (some mx)=>zS T t (e x) (lo.map e) (hi.map e) (e mx) K
 | .typeAssert x _ asserted ok=>match T[asserted]?,e x with
   |some ⟨.iface,_,_,_⟩,_=>False
   |some ti,.jZ t v=>match Nat.beq t asserted with
    |true=>K (match ok with|true=>.aE [v,.tt]|false=>v)
    |false=>match ok with
     |true=>zw ti K
     |false=>False
   |some ti,.ni=>match ok with
    |true=>zw ti K
    |false=>False
   |_,_=>False
 | .call ⟨.builtin .len,args,js⟩=>match args.toList,js.toList with
   |[x],[t]=>match e x,T[t]? with
    | .ns,some ⟨.slice _,_,_,_⟩=>K (.int .i64 0)
    | .sl _ _ _ n _,some ⟨.slice _,_,_,_⟩=>K (.int .i64 (n:Int))
    | .str s,some ⟨.str,_,_,_⟩=>K (.int .i64 (s.size:Int))
    |_,some ⟨.arr n _,_,_,_⟩=>K (.int .i64 (n:Int))
    |_,_=>False
   |_,_=>False
 | .call ⟨.builtin .min,args,_⟩=>match args.toList with
   |[x,y]=>match e x,e y with
    | .int k a,.int _ b=>K (.int k (min a b))
    |_,_=>False
   |_=>False
 | .call ⟨.builtin .max,args,_⟩=>match args.toList with
   |[x,y]=>match e x,e y with
    | .int k a,.int _ b=>K (.int k (max a b))
    |_,_=>False
   |_=>False
 | .build t parts=>match T[t]? with
   |some ⟨.struct fs,_,_,z⟩=>match rq T fs with
    |some pl=>match ze (fun i=>pl[i]?) z (parts.toList.map fun x=>(x.1,e x.2))with
     |some cs=>K (.agg cs)
     |none=>False
    |none=>False
   |some ⟨.arr _ el,_,_,z⟩=>match T[el]? with
    |some te=>match ze (fun i=>some (i*te.size,te.size)) z (parts.toList.map fun x=>(x.1,e x.2))with
     |some cs=>K (.agg cs)
     |none=>False
    |none=>False
   |_=>False
 | .call ⟨.builtin .cap,args,js⟩=>match args.toList,js.toList with
   |[x],[t]=>match e x,T[t]? with
    | .ns,some ⟨.slice _,_,_,_⟩=>K (.int .i64 0)
    | .sl _ _ _ _ c,some ⟨.slice _,_,_,_⟩=>K (.int .i64 (c:Int))
    |_,_=>False
   |_,_=>False
 |_=>False
def kB (ρ:Env)(M:AH):Prop:=∀i g own x,slot M i g=some (own,x)→(∃q,ρ i g=some (some q))∨(ρ i g=some none∧x.b9)
theorem aW.known {ρ:Env}{M:AH}{w:World}(h:aW ρ M w):kB ρ M:=fun i g own x hs=>by
 rcases h.holds i g own x hs with⟨q,hq,_⟩|h
 ·exact .inl ⟨q,hq⟩
 ·exact .inr h
theorem kB.ext {ρ ρ':Env}{M:AH}(h:kB ρ M)(he:∀i g l,ρ i g=some l→ρ' i g=some l):kB ρ' M:=fun i g own x hs=>by
 rcases h i g own x hs with⟨q,hq⟩|⟨h1,h2⟩
 ·exact .inl ⟨q,he _ _ _ hq⟩
 ·exact .inr ⟨he _ _ _ h1,h2⟩
def Nm (P:Program)(s:Sem Value)(v:Value):Prop:=∀w,s.run P w=.ok v w
theorem ks {ρ:Env}{M:AH}{v:AV}{p:Prop}(hk:kB ρ M)(h:yR M v p):p∧v.ok ρ∧∃a:Addr,a.spot=none∧v.c ρ=.pointer (some a):=by
 unfold yR at h
 split at h
 ·rename_i i g off
  replace h:=ba h
  obtain⟨own,x_,hs,h⟩:=h
  split at h
  ·rename_i cs
   rcases hk _ _ _ _ hs with⟨q,hq⟩|⟨_,h2⟩
   ·exact⟨h,by simp[AV.ok,hq],⟨q.1,q.2+off,none⟩,rfl,by simp[AV.c,hq]⟩
   ·exact h2.elim
  ·rename_i k xs c
   rcases hk _ _ _ _ hs with⟨q,hq⟩|⟨_,h2⟩
   ·exact⟨h.2,by simp[AV.ok,hq],⟨q.1,q.2+off,none⟩,rfl,by simp[AV.c,hq]⟩
   ·have:=h.1;simp[h2.1]at this
  ·rename_i xs c
   rcases hk _ _ _ _ hs with⟨q,hq⟩|⟨_,h2⟩
   ·exact⟨h.2,by simp[AV.ok,hq],⟨q.1,q.2+off,none⟩,rfl,by simp[AV.c,hq]⟩
   ·have:=h.1;simp[h2.1]at this
  ·exact h.elim
 ·rename_i i g sz j o
  replace h:=ba h
  obtain⟨own,x_,hs,h⟩:=h
  split at h
  ·rename_i s n get c
   rcases hk _ _ _ _ hs with⟨q,hq⟩|⟨_,h2⟩
   ·exact⟨h.2,by simp[AV.ok,hq],⟨q.1,q.2+(j*sz+o),none⟩,rfl,by simp[AV.c,hq]⟩
   ·have:=h.1;have:=h2.1;omega
  ·exact h.elim
 ·exact h.elim
theorem av.gY {P:Program}{T:List TI}(h:av P T){t:Nat}{ti:TI}(ht:T[t]?=some ti):∃d,P.underlying t=some d∧fO d=ti.k:=by
 obtain⟨d,i,z,h1,h2,h3,rfl⟩:=h.get ht
 exact⟨d,h1,rfl⟩
theorem Ka {d:TypeDesc}{e:Nat}(h:fO d=.ptr e):d=.pointer e:=by cases d<;>simp_all[fO]
theorem aR {d:TypeDesc}{e:Nat}(h:fO d=.slice e):d=.slice e:=by cases d<;>simp_all[fO]
theorem kS {d:TypeDesc}{n e:Nat}(h:fO d=.arr n e):d=.array n e:=by cases d<;>simp_all[fO]
theorem r7 {d:TypeDesc}(h:fO d=.bool):d=.bool:=by cases d<;>simp_all[fO]
theorem kR {d:TypeDesc}(h:fO d=.str):d=.string:=by cases d<;>simp_all[fO]
theorem ew {d:TypeDesc}{k:IntKind}(h:fO d=.int k):d=.int k:=by cases d<;>simp_all[fO]
theorem H8 {d:TypeDesc}(h:fO d=.func):∃a b c,d=.func a b c:=by cases d<;>simp_all[fO]
theorem DA {d:TypeDesc}(h:fO d=.iface):∃ms,d=.interface ms:=by cases d<;>simp_all[fO]
theorem ig {d:TypeDesc}{fs:List (Nat×Nat)}(h:fO d=.struct fs):∃f,d=.struct f∧fs=f.toList.map fun f=>(f.offset,f.type):=by cases d<;>simp_all[fO]
theorem km {P:Program}{w:World}{op:BinOp}{t:Nat}{x y:Operand}{a b:Value}(h1:a≠ .nilIface∨b≠ .nilIface)(h2:∀c,a≠ .agg c):(eqGuard op t x y a b).run P w=.ok () w:=by
 cases a<;>cases b<;>first
  |(exfalso;rcases h1 with h|h<;>exact h rfl)
  |(exfalso;exact h2 _ rfl)
  |(cases op<;>rfl)
theorem n9 {P:Program}{t:Nat}{x y:Value}{r:Bool}(neg:Bool)(h:∀w,(Op.equal t x y).run P w=.ok r w)(h1:x≠ .nilIface∨y≠ .nilIface)(h2:∀c,x≠ .agg c)
 (hb:∀op,op=.eql∨op=.neq→binOp op t x y=(match op with| .eql=>do pure (.bool (←Op.equal t x y))|_=>do pure (.bool (!(←Op.equal t x y)))))(ox oy:Operand):
 Nm P (do eqGuard (if neg then .neq else .eql) t ox oy x y;binOp (if neg then .neq else .eql) t x y) (.bool (if neg then !r else r)):=by
 intro w
 cases neg
 ·simp only[Bool.false_eq_true,if_false]
  rw[Sem.run_bind,km h1 h2,hb _ (.inl rfl)]
  simp[h w]
 ·simp only[if_true]
  rw[Sem.run_bind,km h1 h2,hb _ (.inr rfl)]
  simp[h w]
theorem eQ {P:Program}{t:Nat}{x y:Value}{r:Bool}(h:∀d w,(Op.equalIn (d+1) t x y).run P w=.ok r w)(w:World):(Op.equal t x y).run P w=.ok r w:=h 9999 w
theorem zf {P:Program}{T:List TI}(hT:av P T){neg:Bool}{M:AH}{t:Nat}{ti:TI}(ht:T[t]?=some ti){x y:AV}{K:AV→Prop}{ρ:Env}(hk:kB ρ M)
 (h:ZF neg M ti.k x y K):∃v,K v∧v.ok ρ∧∀ox oy,Nm P (do eqGuard (if neg then .neq else .eql) t ox oy (x.c ρ) (y.c ρ);binOp (if neg then .neq else .eql) t (x.c ρ) (y.c ρ)) (v.c ρ):=by
 obtain⟨d,hd,fj⟩:=hT.gY ht
 have tf:∀r:Bool,∃v:AV,(v=if r then AV.tt else AV.ff)∧v.ok ρ∧v.c ρ=.bool r:=fun r=>by cases r<;>exact⟨_,rfl,by trivial,rfl⟩
 unfold ZF at h
 split at h
 ·rename_i e P5
  rw[P5]at fj;obtain rfl:=Ka fj
  have e0:∀(a b:Option Addr),(a=none∨b=none)→∀w,(Op.equal t (.pointer a) (.pointer b)).run P w=.ok (a.isNone&&b.isNone) w:=by
   intro a b Md
   refine eQ fun d w=>?_
   rcases a with _|a<;>rcases b with _|b<;>first|(simp[Op.equalIn,run_underlying hd];done)|simp at Md
  have hb:∀(a b:Option Addr),(a=none∨b=none)→∀op,op=.eql∨op=.neq→binOp op t (.pointer a) (.pointer b)=(match op with| .eql=>do pure (.bool (←Op.equal t (.pointer a) (.pointer b)))|_=>do pure (.bool (!(←Op.equal t (.pointer a) (.pointer b))))):=by
   intro a b Md op uj
   rcases uj with rfl|rfl<;>rcases a with _|a<;>rcases b with _|b<;>rfl
  split at h
  ·obtain⟨v,hv,aF,hc⟩:=tf (if neg then false else true)
   refine⟨v,by rw[hv];cases neg<;>exact h,aF,fun ox oy=>?_⟩
   have:=n9 neg (e0 none none (.inl rfl)) (.inl (by simp)) (by simp) (hb none none (.inl rfl)) ox oy
   rw[hc];cases neg<;>simpa[AV.c]using this
  ·rename_i i g off
   replace h:=ba h
   obtain⟨own,x_,hs,h⟩:=h
   split at h
   ·rename_i cs
    rcases hk _ _ _ _ hs with⟨q,hq⟩|⟨_,h2⟩
    ·obtain⟨v,hv,aF,hc⟩:=tf neg
     refine⟨v,by rw[hv];cases neg<;>exact h,aF,fun ox oy=>?_⟩
     have:=n9 neg (e0 (some ⟨q.1,q.2+off,none⟩) none (.inr rfl)) (.inl (by simp)) (by simp) (hb (some ⟨q.1,q.2+off,none⟩) none (.inr rfl)) ox oy
     rw[hc];cases neg<;>simpa[AV.c,hq]using this
    ·exact h2.elim
   ·exact h.elim
  ·rename_i i g off
   replace h:=ba h
   obtain⟨own,x_,hs,h⟩:=h
   split at h
   ·rename_i cs
    rcases hk _ _ _ _ hs with⟨q,hq⟩|⟨_,h2⟩
    ·obtain⟨v,hv,aF,hc⟩:=tf neg
     refine⟨v,by rw[hv];cases neg<;>exact h,aF,fun ox oy=>?_⟩
     have:=n9 neg (e0 none (some ⟨q.1,q.2+off,none⟩) (.inl rfl)) (.inl (by simp)) (by simp) (hb none (some ⟨q.1,q.2+off,none⟩) (.inl rfl)) ox oy
     rw[hc];cases neg<;>simpa[AV.c,hq]using this
    ·exact h2.elim
   ·exact h.elim
  ·exact h.elim
 ·rename_i e P5
  rw[P5]at fj;obtain rfl:=aR fj
  have e0:∀(a:Option Addr)(n c n' c':Nat),∀w,(Op.equal t (.slice a n c) (.slice none n' c')).run P w=.ok a.isNone w:=by
   intro a n c n' c'
   refine eQ fun d w=>?_
   rcases a with _|a<;>simp[Op.equalIn,run_underlying hd]
  have hb:∀(a:Option Addr)(n c n' c':Nat),∀op,op=.eql∨op=.neq→binOp op t (.slice a n c) (.slice none n' c')=(match op with| .eql=>do pure (.bool (←Op.equal t (.slice a n c) (.slice none n' c')))|_=>do pure (.bool (!(←Op.equal t (.slice a n c) (.slice none n' c'))))):=by
   intro a n c n' c' op uj
   rcases uj with rfl|rfl<;>rfl
  have go:∀(a:Option Addr)(n c:Nat)(ox oy:Operand),Nm P (do eqGuard (if neg then .neq else .eql) t ox oy (.slice a n c) (.slice none 0 0);binOp (if neg then .neq else .eql) t (.slice a n c) (.slice none 0 0)) (.bool (if neg then !a.isNone else a.isNone)):=
   fun a n c ox oy=>n9 neg (e0 a n c 0 0) (.inl (by simp)) (by simp) (hb a n c 0 0) ox oy
  split at h
  ·obtain⟨v,hv,aF,hc⟩:=tf (if neg then false else true)
   refine⟨v,by rw[hv];cases neg<;>exact h,aF,fun ox oy=>?_⟩
   rw[hc];have:=go none 0 0 ox oy;cases neg<;>simpa[AV.c]using this
  ·rename_i i g off n c
   have known:∀own x,slot M i g=some (own,x)→∀(p:Prop),(x.b9→p)→∃b:Bool,(b=true→p)∧(¬x.b9→b=false)∧∀ox oy,Nm P (do eqGuard (if neg then .neq else .eql) t ox oy ((AV.sl i g off n c).c ρ) (AV.ns.c ρ);binOp (if neg then .neq else .eql) t ((AV.sl i g off n c).c ρ) (AV.ns.c ρ)) (.bool (if neg then !b else b)):=by
    intro own x hs p hp
    rcases hk _ _ _ _ hs with⟨q,hq⟩|⟨hq,hv⟩
    ·exact⟨false,by simp,fun _=>rfl,fun ox oy=>by simp only[AV.c,hq];exact go (some _) n c ox oy⟩
    ·exact⟨true,fun _=>hp hv,fun hn=>absurd hv hn,fun ox oy=>by simp only[AV.c,hq];exact go none n c ox oy⟩
   replace h:=ba h
   obtain⟨own,x_,hs,h⟩:=h
   split at h
   ·rename_i cs
    obtain⟨b,_,h2,h3⟩:=known _ _ hs True (fun _=>trivial)
    obtain rfl:=h2 (fun hv=>hv.elim)
    obtain⟨v,hv,aF,hc⟩:=tf neg
    exact⟨v,by rw[hv];cases neg<;>exact h,aF,fun ox oy=>by rw[hc];have:=h3 ox oy;cases neg<;>simpa using this⟩
   ·rename_i k xs co
    obtain⟨b,h1,_,h3⟩:=known _ _ hs (xs=[]∧co=0) (fun hv=>hv)
    exact⟨_,h b h1,trivial,fun ox oy=>h3 ox oy⟩
   ·rename_i xs co
    obtain⟨b,h1,_,h3⟩:=known _ _ hs (xs=[]∧co=0) (fun hv=>hv)
    exact⟨_,h b h1,trivial,fun ox oy=>h3 ox oy⟩
   ·rename_i sz m get co
    obtain⟨b,h1,_,h3⟩:=known _ _ hs (m=0∧co=0) (fun hv=>hv)
    exact⟨_,h b h1,trivial,fun ox oy=>h3 ox oy⟩
   ·exact h.elim
  ·exact h.elim
 ·rename_i P5
  rw[P5]at fj;obtain⟨a1,a2,a3,rfl⟩:=H8 fj
  split at h
  ·obtain⟨v,hv,aF,hc⟩:=tf (if neg then false else true)
   refine⟨v,by rw[hv];cases neg<;>exact h,aF,fun ox oy=>?_⟩
   have:=n9 (P:=P) (t:=t) (x:=.nilFunc) (y:=.nilFunc) (r:=true) neg (eQ fun d w=>by simp[Op.equalIn,run_underlying hd]) (.inl (by simp)) (by simp) (by rintro op (rfl|rfl)<;>rfl) ox oy
   rw[hc];cases neg<;>simpa[AV.c]using this
  ·rename_i fn a b
   obtain⟨v,hv,aF,hc⟩:=tf neg
   refine⟨v,by rw[hv];cases neg<;>exact h,aF,fun ox oy=>?_⟩
   have:=n9 (P:=P) (t:=t) (x:=(AV.fn fn a b).c ρ) (y:=.nilFunc) (r:=false) neg (eQ fun d w=>by simp[AV.c,Op.equalIn,run_underlying hd]) (.inl (by simp[AV.c])) (by simp[AV.c]) (by rintro op (rfl|rfl)<;>rfl) ox oy
   rw[hc];cases neg<;>simpa[AV.c]using this
  ·exact h.elim
 ·rename_i P5
  rw[P5]at fj;obtain⟨ms,rfl⟩:=DA fj
  split at h
  ·rename_i ty a
   obtain⟨v,hv,aF,hc⟩:=tf neg
   refine⟨v,by rw[hv];cases neg<;>exact h,aF,fun ox oy=>?_⟩
   have:=n9 (P:=P) (t:=t) (x:=(AV.jZ ty a).c ρ) (y:=.nilIface) (r:=false) neg (eQ fun d w=>by simp[AV.c,Op.equalIn,run_underlying hd]) (.inl (by simp[AV.c])) (by simp[AV.c]) (by rintro op (rfl|rfl)<;>rfl) ox oy
   rw[hc];cases neg<;>simpa[AV.c]using this
  ·exact h.elim
 ·rename_i P5
  rw[P5]at fj;obtain rfl:=r7 fj
  split at h
  ·rename_i p q hx hy
   refine⟨_,h,trivial,fun ox oy=>?_⟩
   rw[AV.xa ρ hx,AV.xa ρ hy]
   have:=n9 (P:=P) (t:=t) (x:=.bool p) (y:=.bool q) (r:=p==q) neg (eQ fun d w=>by simp[Op.equalIn,run_underlying hd]) (.inl (by simp)) (by simp) (by rintro op (rfl|rfl)<;>rfl) ox oy
   cases neg<;>simpa[AV.c]using this
  ·exact h.elim
 ·exact h.elim
end Go.Proofs.Ytibadaomjlkoaaa
open Go.RowKit
namespace Go.Proofs.Ytibadaomjlkoaaa
theorem av.size {P:Program}{T:List TI}(h:av P T){t:Nat}{ti:TI}(ht:T[t]?=some ti)(w:World):(sizeOf t).run P w=.ok ti.size w:=by
 obtain⟨d,i,z,h1,h2,h3,rfl⟩:=h.get ht
 simp[sizeOf,typeInfo,h2]
theorem av.isAgg {P:Program}{T:List TI}(h:av P T){t:Nat}{ti:TI}(ht:T[t]?=some ti)(w:World):(isAgg t).run P w=.ok ti.k.isAgg w:=by
 obtain⟨d,i,z,h1,h2,h3,rfl⟩:=h.get ht
 cases d<;>simp[Go.isAgg,run_underlying h1,fO,TK.isAgg]
theorem av.zero {P:Program}{T:List TI}(h:av P T){t:Nat}{ti:TI}(ht:T[t]?=some ti):∃z,(∀w,(zeroValue t).run P w=.ok z w)∧∀ρ,z.cells.toList=AV.cl ρ ti.zero:=by
 obtain⟨d,i,z,h1,h2,h3,rfl⟩:=h.get ht
 refine⟨z,fun w=>by simp[zeroValue,typeInfo,h2,h3],fun ρ=>?_⟩
 simp[AV.bc,Function.comp_def,rz]
theorem av.ou {P:Program}{T:List TI}(h:av P T){t:Nat}{ti:TI}(ht:T[t]?=some ti)(ρ:Env):AV.eb ρ ti.zero:=by
 obtain⟨d,i,z,h1,h2,h3,rfl⟩:=h.get ht
 rw[AV.aQ]
 intro v hv
 obtain⟨x,_,rfl⟩:=List.mem_map.1 hv
 exact vM ρ x
theorem cn (b o k:Nat):(⟨b,o,none⟩:Addr).add k=⟨b,o+k,none⟩:=by
 unfold Addr.add;split
 ·subst_vars;rfl
 ·rfl
theorem dF {P:Program}{T:List TI}(hT:av P T){t:Nat}{ti:TI}(ht:T[t]?=some ti){l:List AV}{off:Nat}{K:AV→Prop}{ρ:Env}(hl:AV.eb ρ l)
 (h:pK ti l off K):∃v,K v∧v.ok ρ∧Nm P (part t (AV.cl ρ l).toArray off) (v.c ρ):=by
 unfold pK at h
 split at h
 ·rename_i hk
  refine⟨_,h,?_,fun w=>?_⟩
  ·simp only[AV.ok,AV.aQ]at hl⊢
   exact fun v hv=>hl v (List.mem_of_mem_drop (List.mem_of_mem_take hv))
  ·simp[part,hT.isAgg ht,hk,hT.size ht,AV.c,AV.bc,List.map_take,List.map_drop]
 ·rename_i hk
  split at h
  ·rename_i v hv
   refine⟨v,h,(AV.aQ ρ l).1 hl v (List.mem_of_getElem? hv),fun w=>?_⟩
   simp[part,hT.isAgg ht,hk,AV.bc,hv]
  ·exact h.elim
theorem Iq {ρ:Env}{i g off n c:Nat}:∃a:Option Addr,(AV.sl i g off n c).c ρ=.slice a n c∧∀k,(AV.sl i g (off+k) n c).c ρ=.slice (a.map (·.add k)) n c:=by
 simp only[AV.c]
 split
 ·exact⟨_,rfl,fun k=>by simp[cn,Nat.add_assoc]⟩
 ·exact⟨none,rfl,fun k=>rfl⟩
theorem BO {ρ:Env}{i g off n c n' c':Nat}{a:Option Addr}(h:(AV.sl i g off n c).c ρ=.slice a n c):(AV.sl i g off n' c').c ρ=.slice a n' c':=by
 simp only[AV.c]at h⊢
 split at h<;>rename_i hq<;>simp_all
theorem DL {ρ:Env}{i g off n c n' c' m l sz:Nat}{a:Option Addr}(h:(AV.sl i g off n c).c ρ=.slice a n c):(AV.sl i g (bT m l off sz) n' c').c ρ=.slice (if m=l then a else a.map (·.add (l*sz))) n' c':=by
 unfold bT
 by_cases hm:m=l
 ·rw[if_pos hm,if_pos hm];exact BO h
 ·rw[if_neg hm,if_neg hm]
  obtain⟨a',h1,h2⟩:=Iq (ρ:=ρ) (i:=i) (g:=g) (off:=off) (n:=n) (c:=c)
  rw[h]at h1
  injection h1 with h1 _ _
  subst h1
  exact BO (h2 (l*sz))
theorem eC {P:Program}{t e:Nat}{x:Value}{lo hi mx:Option Value}(hd:P.underlying t=some (.slice e))(w:World):(Instr.sliceAt t x lo hi mx).run P w=(Instr.slice t x lo hi mx).run P w:=by
 simp[Instr.sliceAt,run_underlying hd]
theorem fx {P:Program}{t:Nat}{x:Value}{lo hi mx:Option Value}(hd:P.underlying t=some .string)(w:World):(Instr.sliceAt t x lo hi mx).run P w=(Instr.slice t x lo hi mx).run P w:=by
 simp[Instr.sliceAt,run_underlying hd]
theorem zR {P:Program}{T:List TI}(hT:av P T){t:Nat}{x:AV}{lo hi:Option AV}{K:AV→Prop}{ρ:Env}(hx:x.ok ρ)
 (h:DK T t x lo hi K):∃v,K v∧v.ok ρ∧Nm P (Instr.sliceAt t (x.c ρ) (lo.map (AV.c ρ)) (hi.map (AV.c ρ)) none) (v.c ρ):=by
 unfold DK at h
 split at h
 ·rename_i i g off n c
  split at h
  ·rename_i e s1 s2 s3 ht
   obtain⟨d,hd,fj⟩:=hT.gY ht
   obtain rfl:=aR fj
   obtain⟨a,ha,_⟩:=Iq (ρ:=ρ) (i:=i) (g:=g) (off:=off) (n:=n) (c:=c)
   split at h
   ·rename_i te sS
    have hs:=hT.size sS
    split at h
    ·refine⟨_,h,hx,fun w=>?_⟩
     rw[eC hd,ha]
     simp[Instr.slice,run_underlying hd,Instr.sliceBounds,hs]
     rcases a with _|a<;>simp[Addr.add]
    ·rename_i k hh
     obtain⟨⟨h1,h2⟩,h⟩:=h
     refine⟨_,h,hx,fun w=>?_⟩
     rw[eC hd,ha,BO ha]
     simp[Instr.slice,run_underlying hd,Instr.sliceBounds,Instr.sliceBound,asIntOf,AV.c,hs,h1,h2]
     rcases a with _|a<;>simp[Addr.add]
    ·rename_i k l
     obtain⟨⟨h1,h2⟩,hnc,h⟩:=h
     refine⟨_,h,hx,fun w=>?_⟩
     rw[eC hd,ha,DL ha]
     simp[Instr.slice,run_underlying hd,Instr.sliceBounds,Instr.sliceBound,asIntOf,AV.c,hs,h1,h2]
    ·rename_i k l k' hh
     obtain⟨⟨h1,h2,h3⟩,h⟩:=h
     refine⟨_,h,hx,fun w=>?_⟩
     have h0:0≤hh:=Int.le_trans h1 h2
     have h4:l≤(hh.toNat:Int):=by omega
     rw[eC hd,ha,DL ha]
     simp[Instr.slice,run_underlying hd,Instr.sliceBounds,Instr.sliceBound,asIntOf,AV.c,hs,h0,h1,h3,h4]
     intro hc;exfalso;omega
    ·exact h.elim
   ·exact h.elim
  ·exact h.elim
 ·split at h
  ·rename_i e s1 s2 s3 ht
   obtain⟨d,hd,fj⟩:=hT.gY ht
   obtain rfl:=aR fj
   split at h
   ·rename_i te sS
    have hs:=hT.size sS
    split at h
    ·rename_i k hh
     obtain⟨rfl,h⟩:=h
     refine⟨_,h,trivial,fun w=>?_⟩
     rw[eC hd]
     simp[Instr.slice,run_underlying hd,Instr.sliceBounds,Instr.sliceBound,asIntOf,AV.c,hs]
    ·exact h.elim
   ·exact h.elim
  ·exact h.elim
 ·rename_i s
  split at h
  ·rename_i s1 s2 s3 ht
   obtain⟨d,hd,fj⟩:=hT.gY ht
   obtain rfl:=kR fj
   split at h
   ·refine⟨_,h,trivial,fun w=>?_⟩
    rw[fx hd]
    simp[Instr.slice,run_underlying hd,Instr.sliceBounds,AV.c]
   ·rename_i k hh
    obtain⟨⟨h1,h2⟩,h⟩:=h
    refine⟨_,h,trivial,fun w=>?_⟩
    rw[fx hd]
    simp[Instr.slice,run_underlying hd,Instr.sliceBounds,Instr.sliceBound,asIntOf,AV.c,h1,h2]
   ·rename_i k l
    obtain⟨⟨h1,h2⟩,h⟩:=h
    refine⟨_,h,trivial,fun w=>?_⟩
    rw[fx hd]
    simp[Instr.slice,run_underlying hd,Instr.sliceBounds,Instr.sliceBound,asIntOf,AV.c,h1,h2]
   ·rename_i k l k' hh
    obtain⟨⟨h1,h2,h3⟩,h⟩:=h
    refine⟨_,h,trivial,fun w=>?_⟩
    have h0:0≤hh:=Int.le_trans h1 h2
    have h4:l≤(hh.toNat:Int):=by omega
    rw[fx hd]
    simp[Instr.slice,run_underlying hd,Instr.sliceBounds,Instr.sliceBound,asIntOf,AV.c,h0,h1,h3,h4]
    intro hc;exfalso;omega
   ·exact h.elim
  ·exact h.elim
 ·exact h.elim
theorem xy {P:Program}{T:List TI}(hT:av P T){t:Nat}{x mx:AV}{lo hi:Option AV}{K:AV→Prop}{ρ:Env}(hx:x.ok ρ)
 (h:zS T t x lo hi mx K):∃v,K v∧v.ok ρ∧Nm P (Instr.sliceAt t (x.c ρ) (lo.map (AV.c ρ)) (hi.map (AV.c ρ)) (some (mx.c ρ))) (v.c ρ):=by
 unfold zS at h
 split at h
 ·rename_i i g off n c
  split at h
  ·rename_i e s1 s2 s3 ht
   obtain⟨d,hd,fj⟩:=hT.gY ht
   obtain rfl:=aR fj
   obtain⟨a,ha,_⟩:=Iq (ρ:=ρ) (i:=i) (g:=g) (off:=off) (n:=n) (c:=c)
   split at h
   ·rename_i te sS
    have hs:=hT.size sS
    split at h
    ·rename_i k hh k' m
     obtain⟨⟨h1,h2,h3⟩,h⟩:=h
     refine⟨_,h,hx,fun w=>?_⟩
     have h0:0≤m:=Int.le_trans h1 h2
     have h4:hh≤max m 0:=by omega
     rw[eC hd,ha,BO ha]
     simp[Instr.slice,run_underlying hd,Instr.sliceBounds,Instr.sliceBound,asIntOf,AV.c,hs,h0,h1,h3,h4]
     rcases a with _|a<;>simp[Addr.add]
    ·rename_i k l k' hh k'' m
     obtain⟨⟨h1,h2,h3,h4⟩,h⟩:=h
     refine⟨_,h,hx,fun w=>?_⟩
     have h5:0≤hh:=Int.le_trans h1 h2
     have h6:0≤m:=Int.le_trans h5 h3
     have h7:hh≤max m 0:=by omega
     have h8:l≤max hh 0:=by omega
     rw[eC hd,ha,DL ha]
     simp[Instr.slice,run_underlying hd,Instr.sliceBounds,Instr.sliceBound,asIntOf,AV.c,hs,h1,h4,h5,h6,h7,h8]
    ·exact h.elim
   ·exact h.elim
  ·exact h.elim
 ·exact h.elim
theorem dt {ρ:Env}{M:AH}{i g off n c:Nat}{own:Bool}{x:af}(hk:kB ρ M)(hs:slot M i g=some (own,x))(hv:¬x.b9):∃q,ρ i g=some (some q):=by
 rcases hk _ _ _ _ hs with⟨q,hq⟩|⟨_,h2⟩
 ·exact⟨q,hq⟩
 ·exact absurd h2 hv
theorem fR {P:Program}{t e:Nat}{a:Addr}{n c:Nat}{k:IntKind}{z:Int}{sz:Nat}(hd:P.underlying t=some (.slice e))(hs:∀w,(sizeOf e).run P w=.ok sz w)(h1:0≤z)(h2:z<n)(w:World):
 (Instr.indexAt t (.slice (some a) n c) (.int k z)).run P w=.ok (.pointer (some (a.add (z.toNat*sz)))) w:=by
 simp[Instr.indexAt,run_underlying hd,asIntOf,hs,h1,h2]
theorem tY {P:Program}{t e:Nat}{a:Addr}{n:Nat}{k:IntKind}{z:Int}{sz:Nat}(hd:P.underlying t=some (.array n e))(hs:∀w,(sizeOf e).run P w=.ok sz w)(h1:0≤z)(h2:z<n)(w:World):
 (Instr.indexAt t (.pointer (some a)) (.int k z)).run P w=.ok (.pointer (some (a.add (z.toNat*sz)))) w:=by
 simp[Instr.indexAt,run_underlying hd,asIntOf,hs,h1,h2,Instr.sureAddr]
theorem Eo {P:Program}{T:List TI}(hT:av P T){t:Nat}{M:AH}{x ix:AV}{K:AV→Prop}{ρ:Env}(hk:kB ρ M)(hx:x.ok ρ)
 (h:Tv T M t x ix K):∃v,K v∧v.ok ρ∧Nm P (Instr.indexAt t (x.c ρ) (ix.c ρ)) (v.c ρ):=by
 unfold Tv at h
 split at h
 ·rename_i k z
  split at h
  ·rename_i i g off n c
   split at h
   ·rename_i e s1 s2 s3 ht
    obtain⟨d,hd,fj⟩:=hT.gY ht
    obtain rfl:=aR fj
    split at h
    ·rename_i te sS
     have hs:=hT.size sS
     obtain⟨⟨h1,h2⟩,h⟩:=h
     replace h:=ba h
     obtain⟨own,x_,de,h⟩:=h
     split at h
     ·rename_i cs
      obtain⟨q,hq⟩:=dt (off:=0) (n:=0) (c:=0) hk de (by simp[af.b9])
      refine⟨_,h,by simp[AV.ok,hq],fun w=>?_⟩
      simp only[AV.c,hq]
      rw[fR hd hs h1 h2,cn,Nat.add_assoc]
     ·rename_i kk xs co
      obtain⟨h3,h4,h⟩:=aw h
      obtain⟨q,hq⟩:=dt (off:=0) (n:=0) (c:=0) hk de (by simp only[af.b9];rintro⟨rfl,_⟩;simp at h4)
      refine⟨_,h,by simp[AV.ok,hq],fun w=>?_⟩
      have h5:te.size=1:=Nat.eq_of_beq_eq_true h3
      simp only[AV.c,hq]
      rw[fR hd hs h1 h2,cn,h5]
      congr 4;omega
     ·rename_i xs co
      obtain⟨h3,h4,h⟩:=aw h
      obtain⟨q,hq⟩:=dt (off:=0) (n:=0) (c:=0) hk de (by simp only[af.b9];rintro⟨rfl,_⟩;simp at h4)
      refine⟨_,h,by simp[AV.ok,hq],fun w=>?_⟩
      have h5:te.size=1:=Nat.eq_of_beq_eq_true h3
      simp only[AV.c,hq]
      rw[fR hd hs h1 h2,cn,h5]
      congr 4;omega
     ·rename_i sz m get co
      split at h
      ·obtain⟨h3,h4,h⟩:=aw h
       obtain⟨q,hq⟩:=dt (off:=0) (n:=0) (c:=0) hk de (by simp only[af.b9];rintro⟨rfl,_⟩;simp at h4)
       refine⟨_,h,by simp[AV.ok,hq],fun w=>?_⟩
       have h5:te.size=sz:=Nat.eq_of_beq_eq_true h3
       simp only[AV.c,hq]
       rw[fR hd hs h1 h2,cn,h5]
       rfl
      ·exact h.elim
     ·exact h.elim
    ·exact h.elim
   ·exact h.elim
  ·rename_i i g off
   split at h
   ·rename_i n e s1 s2 s3 ht
    obtain⟨d,hd,fj⟩:=hT.gY ht
    obtain rfl:=kS fj
    split at h
    ·rename_i te sS
     have hs:=hT.size sS
     obtain⟨⟨h1,h2⟩,h⟩:=h
     replace h:=ba h
     obtain⟨own,x_,de,h⟩:=h
     split at h
     ·rename_i cs
      obtain⟨q,hq⟩:=dt (off:=0) (n:=0) (c:=0) hk de (by simp[af.b9])
      refine⟨_,h,by simp[AV.ok,hq],fun w=>?_⟩
      simp only[AV.c,hq]
      rw[tY hd hs h1 h2,cn,Nat.add_assoc]
     ·exact h.elim
    ·exact h.elim
   ·exact h.elim
  ·exact h.elim
 ·exact h.elim
def Y5 (ρ:Env)(e:Operand→AV)(v:Operand→Value):Prop:=∀x,v x=(e x).c ρ∧(e x).ok ρ
theorem cE {P:Program}{s:Sem Value}{v:Value}(h:Nm P s v)(w:World):(do pure (.value (←s)):Sem Next).run P w=.ok (.value v) w:=by
 simp[h w]
def Vs (f:Field):Sem (Nat×Nat):=do pure (f.offset,←sizeOf f.type)
theorem He {P:Program}{T:List TI}(hT:av P T)(w:World):∀(l:List Field)(pl:List (Nat×Nat)),rq T (l.map fun f=>(f.offset,f.type))=some pl→(l.mapM Vs).run P w=.ok pl w
 |[],pl,h=>by simp[rq]at h;subst h;simp
 |x::l,pl,h=>by
  simp only[List.map_cons,rq]at h
  split at h
  ·rename_i ti r h1 h2
   injection h with h;subst h
   rw[List.mapM_cons]
   have h3:(Vs x).run P w=.ok (x.offset,ti.size) w:=by simp[Vs,hT.size h1]
   simp only[Sem.run_bind,h3,Result.andThen_ok,He hT w l r h2]
   rfl
  ·cases h
theorem qv {P:Program}{T:List TI}(hT:av P T){la lb:List AV}:∀(fs:List Field)(K:Bool→Prop),Qq T la lb (fs.map fun f=>(f.offset,f.type)) K→(fs.all fun f=>simpleT P f.type)=true
 |[],_,_=>rfl
 |f::fs,K,h=>by
  simp only[List.map_cons,Qq]at h
  split at h
  ·rename_i k s1 s2 s3 k1 a k2 b h1 h2 h3
   replace h:=bl h
   obtain⟨rfl,h⟩:=h
   replace h:=bl h
   obtain⟨rfl,h⟩:=h
   obtain⟨d0,hd,hk⟩:=hT.gY h1
   obtain rfl:=ew hk
   rw[List.all_cons,qv hT fs _ h,Bool.and_true];simp[simpleT,hd]
  ·rename_i s1 s2 s3 x y h1 h2 h3
   split at h
   ·obtain⟨d0,hd,hk⟩:=hT.gY h1
    obtain rfl:=r7 hk
    rw[List.all_cons,qv hT fs _ h,Bool.and_true];simp[simpleT,hd]
   ·exact h.elim
  ·exact h.elim
theorem pn {P:Program}{T:List TI}(hT:av P T){la lb:List AV}{ρ:Env}(U3:AV.eb ρ la)(CF:AV.eb ρ lb):∀(fs:List Field)(K:Bool→Prop),Qq T la lb (fs.map fun f=>(f.offset,f.type)) K→
 (fs.all fun f=>f.name !="_")=true→∃r,K r∧∀d w,(Op.eqFields (d+1) (AV.cl ρ la).toArray (AV.cl ρ lb).toArray fs).run P w=.ok r w
 |[],K,h,_=>⟨true,h,fun d w=>by simp[Op.eqFields]⟩
 |f::fs,K,h,hn=>by
  simp only[List.all_cons,Bool.and_eq_true,bne_iff_ne,ne_eq]at hn
  simp only[List.map_cons,Qq]at h
  split at h
  ·rename_i k s1 s2 s3 k1 a k2 b h1 h2 h3
   replace h:=bl h
   obtain⟨rfl,h⟩:=h
   replace h:=bl h
   obtain⟨rfl,h⟩:=h
   obtain⟨r,hr,aN⟩:=pn hT U3 CF fs _ h hn.2
   obtain⟨d0,hd,hk⟩:=hT.gY h1
   obtain rfl:=ew hk
   obtain⟨v1,e1,_,p1⟩:=dF hT h1 (l:=la) (off:=f.offset) (K:=fun v=>v=.int k a) U3 (by unfold pK;simp only[TK.isAgg];rw[h2])
   obtain⟨v2,e2,_,p2⟩:=dF hT h1 (l:=lb) (off:=f.offset) (K:=fun v=>v=.int k b) CF (by unfold pK;simp only[TK.isAgg];rw[h3])
   subst e1;subst e2
   refine⟨_,hr,fun d w=>?_⟩
   simp only[Op.eqFields,if_pos hn.1,Sem.run_bind,p1 w,p2 w,Result.andThen_ok,AV.c,run_equalIn_int w d f.type k k a b hd]
   by_cases Md:a=b
   ·subst Md;simp[aN d w]
   ·simp[Md]
  ·rename_i s1 s2 s3 x y h1 h2 h3
   split at h
   ·rename_i p q hp hq
    obtain⟨r,hr,aN⟩:=pn hT U3 CF fs _ h hn.2
    obtain⟨d0,hd,hk⟩:=hT.gY h1
    obtain rfl:=r7 hk
    obtain⟨v1,e1,_,p1⟩:=dF hT h1 (l:=la) (off:=f.offset) (K:=fun v=>v=x) U3 (by unfold pK;simp only[TK.isAgg];rw[h2])
    obtain⟨v2,e2,_,p2⟩:=dF hT h1 (l:=lb) (off:=f.offset) (K:=fun v=>v=y) CF (by unfold pK;simp only[TK.isAgg];rw[h3])
    subst e1;subst e2
    refine⟨_,hr,fun d w=>?_⟩
    simp only[Op.eqFields,if_pos hn.1,Sem.run_bind,p1 w,p2 w,Result.andThen_ok,AV.xa ρ hp,AV.xa ρ hq,run_equalIn_bool' w d f.type p q hd]
    by_cases Md:p=q
    ·subst Md;simp[aN d w]
    ·have:(p==q)=false:=by simpa using Md
     simp[this]
   ·exact h.elim
  ·exact h.elim
theorem wD {P:Program}{T:List TI}(hT:av P T){neg:Bool}{t:Nat}{la lb:List AV}{K:AV→Prop}{ρ:Env}(U3:AV.ok ρ (.agg la))(CF:AV.ok ρ (.agg lb))(h:Qp T neg t la lb K):
 ∃v,K v∧v.ok ρ∧∀ox oy,Nm P (do eqGuard (if neg then .neq else .eql) t ox oy ((AV.agg la).c ρ) ((AV.agg lb).c ρ);binOp (if neg then .neq else .eql) t ((AV.agg la).c ρ) ((AV.agg lb).c ρ)) (v.c ρ):=by
 unfold Qp at h
 split at h
 ·rename_i fs _ _ _ ht
  obtain⟨d,hd,hk,aF⟩:=hT.Xz ht
  obtain⟨f,rfl,JX⟩:=ig hk
  subst JX
  have hall:(f.toList.all fun f=>simpleT P f.type)=true∧P.stoodInHeld t=false∧P.eqGuardType P.depth t=false∧(f.toList.all fun f=>f.name !="_")=true:=by
   have PT:(f.toList.all fun f=>simpleT P f.type)=true:=qv hT f.toList _ h
   refine⟨PT,?_⟩
   unfold CR at aF
   simp only[PT,Bool.not_true,Bool.false_or,Bool.and_eq_true,Bool.not_eq_true']at aF
   exact⟨aF.1.1,aF.1.2,aF.2⟩
  obtain⟨_,h1,h2,h3⟩:=hall
  obtain⟨r,hr,aN⟩:=pn hT U3 CF f.toList _ h h3
  refine⟨_,hr,trivial,fun ox oy w=>?_⟩
  have y8:P.fieldsOf t=f:=by unfold Program.fieldsOf;rw[hd]
  have a8:P.underlying t=some (.struct (P.fieldsOf t)):=by rw[y8];exact hd
  have he:=run_equalIn_struct (P:=P) w 9999 t (AV.cl ρ la).toArray (AV.cl ρ lb).toArray a8 h1
  rw[y8,aN 9998 w]at he
  cases neg
  ·simp only[Bool.false_eq_true,if_false,AV.c]
   rw[Sem.run_bind,run_eqGuard_agg w .eql t ox oy _ _ h2]
   simp only[Result.andThen_ok,run_eql_struct,he]
  ·simp only[if_true,AV.c]
   rw[Sem.run_bind,run_eqGuard_agg w .neq t ox oy _ _ h2]
   simp only[Result.andThen_ok,run_neq_struct,he]
 ·exact h.elim
set_option maxHeartbeats 1000000 in
theorem qM {P:Program}{T:List TI}(hT:av P T){ρ:Env}{t:Nat}{ti:TI}(h1:T[t]?=some ti){i:TypeInfo}{z:Value}(g2:P.info? t=some i)(g3:i.zero=some z){K:AV→Prop}(h:zw ti K):
 ∃zv,K (.aE [zv,.ff])∧zv.ok ρ∧zv.c ρ=z:=by
 have CB:=hT.shape h1 g2 g3
 unfold zw at h
 split at h
 ·rename_i Zy
  obtain⟨cs,rfl⟩:=CB.2 Zy
  obtain⟨d,i',z',e1,e2,e3,e4⟩:=hT.get h1
  rw[g2]at e2;injection e2 with e2;subst e2
  rw[g3]at e3;injection e3 with e3;subst e3
  refine⟨_,h,?_,?_⟩
  ·rw[e4]
   simp only[AV.ok,AV.aQ]
   intro x hx;obtain⟨y,_,rfl⟩:=List.mem_map.1 hx;exact vM ρ y
  ·rw[e4]
   simp[AV.c,AV.bc,rz,Function.comp_def,Value.cells]
 ·exact⟨.raw z,h z,by simp[AV.ok],by simp[AV.c]⟩
theorem fG {P:Program}{T:List TI}(hT:av P T){wr:Bool}{M:AH}{e:Operand→AV}{o:Oper}{K:AV→Prop}{ρ:Env}{v:Operand→Value}(hk:kB ρ M)(he:Y5 ρ e v)
 (h:jx T wr M e o.op K):∃r,K r∧r.ok ρ∧∀w,(execOp v o).run P w=.ok (.value (r.c ρ)) w:=by
 obtain⟨dst,op,ty,pos,after,guard⟩:=o
 simp only at h
 unfold jx at h
 split at h
 ·rename_i x
  exact⟨_,eX h,(he x).2,fun w=>by simp[execOp,(he x).1]⟩
 ·rename_i x
  exact⟨_,eX h,(he x).2,fun w=>by simp[execOp,(he x).1]⟩
 ·rename_i c a b
  have hc:=(he c).1
  split at h<;>rename_i hh<;>(try rw[hh]at hc)
  ·exact⟨_,eX h,(he a).2,fun w=>by simp[execOp,hc,AV.c,asBool,(he a).1]⟩
  ·exact⟨_,eX h,(he b).2,fun w=>by simp[execOp,hc,AV.c,asBool,(he b).1]⟩
  ·rename_i x
   cases x
   ·exact⟨_,eX (h.2 rfl),(he b).2,fun w=>by simp[execOp,hc,AV.c,asBool,(he b).1]⟩
   ·exact⟨_,eX (h.1 rfl),(he a).2,fun w=>by simp[execOp,hc,AV.c,asBool,(he a).1]⟩
  ·exact h.elim
 ·rename_i x
  have hx:=(he x).1
  split at h
  ·rename_i f a b hh
   rw[hh]at hx
   exact⟨_,h,by rw[←hh];exact(he x).2,fun w=>by simp[execOp,hx,AV.c]⟩
  ·obtain⟨h1,h2,a,_,ha⟩:=ks hk h
   rw[ha]at hx
   exact⟨_,h1,h2,fun w=>by simp[execOp,hx,ha]⟩
 ·rename_i op t x y yt
  have hx:=(he x).1
  have hy:=(he y).1
  split at h
  ·split at h
   ·rename_i k a k' b h1 h2
    rw[h1]at hx;rw[h2]at hy
    obtain⟨r,h3,h4,h5⟩:=jW h ρ
    exact⟨r,h3,h4,fun w=>cE (by rw[hx,hy];exact fun w=>h5 P w t x y) w⟩
   ·rename_i a b h1 h2
    rw[h1]at hx;rw[h2]at hy
    obtain⟨r,h3,h4,h5⟩:=jW h ρ
    exact⟨r,h3,h4,fun w=>cE (by rw[hx,hy];exact fun w=>h5 P w t x y) w⟩
   ·rename_i la lb h1 h2
    have AB:=(he x).2
    have Wt:=(he y).2
    rw[h1]at hx AB;rw[h2]at hy Wt
    obtain⟨r,h3,h4,h5⟩:=wD hT AB Wt h
    exact⟨r,h3,h4,fun w=>cE (by rw[hx,hy];exact h5 x y) w⟩
   ·split at h
    ·rename_i ti ht
     obtain⟨r,h3,h4,h5⟩:=zf hT ht hk h
     exact⟨r,h3,h4,fun w=>cE (by rw[hx,hy];exact h5 x y) w⟩
    ·exact h.elim
  ·split at h
   ·rename_i k a k' b h1 h2
    rw[h1]at hx;rw[h2]at hy
    obtain⟨r,h3,h4,h5⟩:=jW h ρ
    exact⟨r,h3,h4,fun w=>cE (by rw[hx,hy];exact fun w=>h5 P w t x y) w⟩
   ·rename_i a b h1 h2
    rw[h1]at hx;rw[h2]at hy
    obtain⟨r,h3,h4,h5⟩:=jW h ρ
    exact⟨r,h3,h4,fun w=>cE (by rw[hx,hy];exact fun w=>h5 P w t x y) w⟩
   ·rename_i la lb h1 h2
    have AB:=(he x).2
    have Wt:=(he y).2
    rw[h1]at hx AB;rw[h2]at hy Wt
    obtain⟨r,h3,h4,h5⟩:=wD hT AB Wt h
    exact⟨r,h3,h4,fun w=>cE (by rw[hx,hy];exact h5 x y) w⟩
   ·split at h
    ·rename_i ti ht
     obtain⟨r,h3,h4,h5⟩:=zf hT ht hk h
     exact⟨r,h3,h4,fun w=>cE (by rw[hx,hy];exact h5 x y) w⟩
    ·exact h.elim
  ·obtain⟨r,h3,h4,h5⟩:=jW h ρ
   exact⟨r,h3,h4,fun w=>cE (by rw[hx,hy];exact fun w=>h5 P w t x y) w⟩
 ·rename_i op t x
  have hx:=(he x).1
  split at h<;>rename_i hh<;>(try rw[hh]at hx)
  ·exact⟨_,h,trivial,fun w=>by simp[execOp,hx,AV.c,Op.unary]⟩
  ·exact⟨_,h,trivial,fun w=>by simp[execOp,hx,AV.c,Op.unary]⟩
  ·exact⟨_,h,trivial,fun w=>by simp[execOp,hx,AV.c,Op.unary]⟩
  ·exact⟨_,fL h,trivial,fun w=>by simp[execOp,hx,AV.c,Op.unary,Op.intArith]⟩
  ·exact⟨_,h,trivial,fun w=>by simp[execOp,hx,AV.c,Op.unary,Op.intBits,cG]⟩
  ·exact h.elim
 ·rename_i src dst x
  have hx:=(he x).1
  split at h
  ·rename_i k0 n ti k s1 s2 s3 h1 h2 h3
   rw[h1]at hx
   obtain⟨d1,uk,_⟩:=hT.gY h2
   obtain⟨d2,HC,Jk⟩:=hT.gY h3
   obtain rfl:=ew Jk
   exact⟨_,fL h,trivial,fun w=>by simp[execOp,hx,AV.c,convert,run_underlying uk,run_underlying HC,Conv.intToInt]⟩
  ·exact h.elim
 ·rename_i t x
  split at h
  ·exact h.elim
  ·rename_i ti TX ht
   obtain⟨d,hd,fj⟩:=hT.gY ht
   refine⟨_,h,(he x).2,fun w=>?_⟩
   have:∀ms,d≠ .interface ms:=by
    rintro ms rfl
    obtain⟨k,s1,s2,s3⟩:=ti
    simp only[fO]at fj
    exact TX s1 s2 s3 (by rw[←fj])
   simp only[execOp,Instr.makeInterface,Sem.run_bind,run_underlying hd,Result.andThen_ok]
   cases d<;>first|(exact absurd rfl (this _))|(simp[(he x).1,AV.c])
  ·exact h.elim
 ·rename_i fn first cap
  refine⟨_,h,⟨?_,?_⟩,fun w=>?_⟩
  ·rw[AV.aQ];intro z hz;obtain⟨y,_,rfl⟩:=List.mem_map.1 hz;exact(he y).2
  ·rw[AV.aQ];intro z hz;obtain⟨y,_,rfl⟩:=List.mem_map.1 hz;exact(he y).2
  ·have e1:∀a:Array Operand,a.map v=(AV.cl ρ (a.toList.map e)).toArray:=fun a=>by
    apply Array.toList_inj.1
    simp only[AV.bc,Array.toList_map,List.map_map]
    exact List.map_congr_left fun z _=>(he z).1
   simp[execOp,Instr.makeFunc,AV.c,e1]
 ·rename_i x ix
  have hx:=(he x).1
  have AB:=(he x).2
  split at h
  ·rename_i l hh
   rw[hh]at hx AB
   split at h
   ·rename_i r hr
    simp only[AV.ok,AV.aQ]at AB
    exact⟨_,h,AB _ (List.mem_of_getElem? hr),fun w=>by simp[execOp,hx,AV.c,Instr.extract,AV.bc,hr]⟩
   ·exact h.elim
  ·exact h.elim
 ·rename_i t x f
  have hx:=(he x).1
  have AB:=(he x).2
  split at h
  ·rename_i l fs s1 s2 s3 h1 h2
   rw[h1]at hx AB
   obtain⟨d,hd,fj⟩:=hT.gY h2
   obtain⟨fa,rfl,rfl⟩:=ig fj
   split at h
   ·rename_i off ft hf
    split at h
    ·rename_i ti P8
     simp only[List.getElem?_map,Array.getElem?_toList,Option.map_eq_some_iff]at hf
     obtain⟨fd,Re,Dt⟩:=hf
     injection Dt with e1 e2
     subst e1;subst e2
     obtain⟨r,h3,h4,h5⟩:=dF hT P8 (ρ:=ρ) AB h
     refine⟨r,h3,h4,fun w=>?_⟩
     simp[execOp,hx,AV.c,Instr.field,run_underlying hd,Re,asAgg,h5 w]
    ·exact h.elim
   ·exact h.elim
  ·exact h.elim
 ·rename_i t x f
  have hx:=(he x).1
  split at h
  ·rename_i fs s1 s2 s3 h2
   obtain⟨d,hd,fj⟩:=hT.gY h2
   obtain⟨fa,rfl,rfl⟩:=ig fj
   split at h
   ·rename_i off ft hf
    split at h
    ·rename_i ti P8
     simp only[List.getElem?_map,Array.getElem?_toList,Option.map_eq_some_iff]at hf
     obtain⟨fd,Re,Dt⟩:=hf
     injection Dt with e1 e2
     subst e1;subst e2
     obtain⟨hz,h⟩:=aw h
     have Q0:ti.size≠0:=by intro e;rw[e]at hz;simp at hz
     split at h
     ·rename_i i g o1 hh
      obtain⟨h3,h4,a,ha,hc⟩:=ks hk h
      have h5:(AV.ptr i g (o1+fd.offset)).c ρ=.pointer (some (a.add fd.offset)):=by
       simp only[AV.c]at hc⊢
       split at hc
       ·rename_i q hq
        injection hc with hc;injection hc with hc;subst hc
        simp[cn,Nat.add_assoc,hq]
       ·cases hc
      refine⟨_,h3,h4,fun w=>?_⟩
      rw[h5]
      simp[execOp,hx,hh,hc,Instr.fieldAt,run_underlying hd,Re,Instr.sureAddr,fieldPlace,hT.size P8,Q0]
     ·rename_i i g sz j o1 hh
      obtain⟨h3,h4,a,ha,hc⟩:=ks hk h
      have h5:(AV.nI i g sz j (o1+fd.offset)).c ρ=.pointer (some (a.add fd.offset)):=by
       simp only[AV.c]at hc⊢
       split at hc
       ·rename_i q hq
        injection hc with hc;injection hc with hc;subst hc
        simp[cn,Nat.add_assoc,hq]
       ·cases hc
      refine⟨_,h3,h4,fun w=>?_⟩
      rw[h5]
      simp[execOp,hx,hh,hc,Instr.fieldAt,run_underlying hd,Re,Instr.sureAddr,fieldPlace,hT.size P8,Q0]
     ·exact h.elim
    ·exact h.elim
   ·exact h.elim
  ·exact h.elim
 ·rename_i t x ix
  obtain⟨r,h3,h4,h5⟩:=Eo hT hk (he x).2 h
  exact⟨r,h3,h4,fun w=>cE (by rw[(he x).1,(he ix).1];exact h5) w⟩
 ·rename_i t x ix
  have hx:=(he x).1
  have Nc:=(he ix).1
  have AB:=(he x).2
  split at h
  ·rename_i l k z n el s1 s2 s3 h1 h2 h3
   rw[h1]at hx AB;rw[h2]at Nc
   obtain⟨d,hd,fj⟩:=hT.gY h3
   obtain rfl:=kS fj
   split at h
   ·rename_i ti Q4
    obtain⟨⟨a1,a2⟩,h⟩:=h
    obtain⟨r,b1,b2,b3⟩:=dF hT Q4 (ρ:=ρ) AB h
    refine⟨r,b1,b2,fun w=>?_⟩
    simp[execOp,hx,Nc,AV.c,Instr.index,run_underlying hd,asIntOf,a1,a2,hT.size Q4,b3 w]
   ·exact h.elim
  ·rename_i s k z s1 s2 s3 h1 h2 h3
   rw[h1]at hx;rw[h2]at Nc
   obtain⟨d,hd,fj⟩:=hT.gY h3
   obtain rfl:=kR fj
   obtain⟨⟨a1,a2⟩,h⟩:=h
   refine⟨_,h,trivial,fun w=>?_⟩
   have bh:z.toNat<s.size:=by omega
   have hs:s[z.toNat]?=some s[z.toNat]:=by simp[getElem?_pos,bh]
   have hg:s.data.toList.getD z.toNat 0=s[z.toNat]:=by
    rw[List.getD_eq_getElem?_getD,List.getElem?_eq_getElem (by simpa using bh)];rfl
   have HB:s.data[z.toNat]?.getD 0=s[z.toNat]:=by simpa using hg
   simp[execOp,hx,Nc,AV.c,Instr.index,run_underlying hd,asIntOf,a1,hs,HB]
  ·exact h.elim
 ·rename_i t x
  have hx:=(he x).1
  split at h
  ·rename_i i g off n c m el s1 s2 s3 h1 h2
   rw[h1]at hx
   obtain⟨d,hd,fj⟩:=hT.gY h2
   obtain rfl:=kS fj
   obtain⟨hmn,h⟩:=h
   obtain⟨h3,h4,a,ha,hc⟩:=ks (ρ:=ρ) hk h
   have h5:(AV.sl i g off n c).c ρ=.slice (some a) n c:=by
    simp only[AV.c]at hc⊢
    split at hc
    ·rename_i q hq
     injection hc with hc;injection hc with hc;subst hc
     simp[hq]
    ·cases hc
   refine⟨_,h3,h4,fun w=>?_⟩
   rw[h5]at hx
   simp[execOp,hx,Instr.arrayAt,run_underlying hd,hc,Nat.not_lt.2 hmn]
  ·exact h.elim
 ·rename_i t x lo hi
  obtain⟨r,h3,h4,h5⟩:=zR hT (he x).2 h
  refine⟨r,h3,h4,fun w=>?_⟩
  have e1:∀o:Option Operand,o.map v=(o.map e).map (AV.c ρ):=fun o=>by cases o<;>simp[(he _).1]
  simp only[execOp,Option.map_none,e1,(he x).1]
  exact cE h5 w
 ·rename_i t x lo hi mx
  obtain⟨r,h3,h4,h5⟩:=xy hT (he x).2 h
  refine⟨r,h3,h4,fun w=>?_⟩
  have e1:∀o:Option Operand,o.map v=(o.map e).map (AV.c ρ):=fun o=>by cases o<;>simp[(he _).1]
  simp only[execOp,Option.map_some,e1,(he x).1,(he mx).1]
  exact cE h5 w
 ·rename_i x xt asserted ok
  have hx:=(he x).1
  have AB:=(he x).2
  split at h
  ·exact h.elim
  ·rename_i ti t1 v1 TX h1 h2
   rw[h2]at hx AB
   obtain⟨d,i,z,g1,g2,g3,Q4⟩:=hT.get h1
   have ZW:∀w,(zeroValue asserted).run P w=.ok z w:=fun w=>by simp[zeroValue,typeInfo,g2,g3]
   have hd:∀ms,d≠ .interface ms:=by rintro ms rfl;rw[Q4]at TX;exact TX _ _ _ rfl
   split at h
   ·rename_i hb
    have na:t1=asserted:=Nat.eq_of_beq_eq_true hb
    refine⟨_,h,?_,fun w=>?_⟩
    ·cases ok
     ·exact AB
     ·simp only[AV.ok,AV.eb,and_true];exact AB
    ·cases ok<;>cases d<;>first|(exact absurd rfl (hd _))|simp[execOp,hx,AV.c,AV.cl,Instr.typeAssert,run_underlying g1,na]
   ·rename_i hb
    have na:t1≠asserted:=Nat.ne_of_beq_eq_false hb
    split at h
    ·obtain⟨zv,k1,k2,k3⟩:=qM (ρ:=ρ) hT h1 g2 g3 h
     refine⟨_,k1,by simp only[AV.ok,AV.eb,and_true];exact k2,fun w=>?_⟩
     cases d<;>first|(exact absurd rfl (hd _))|simp[execOp,hx,AV.c,AV.cl,Instr.typeAssert,run_underlying g1,na,ZW,k3]
    ·exact h.elim
  ·rename_i ti TX h1 h2
   rw[h2]at hx
   obtain⟨d,i,z,g1,g2,g3,Q4⟩:=hT.get h1
   have ZW:∀w,(zeroValue asserted).run P w=.ok z w:=fun w=>by simp[zeroValue,typeInfo,g2,g3]
   have hd:∀ms,d≠ .interface ms:=by rintro ms rfl;rw[Q4]at TX;exact TX _ _ _ rfl
   split at h
   ·obtain⟨zv,k1,k2,k3⟩:=qM (ρ:=ρ) hT h1 g2 g3 h
    refine⟨_,k1,by simp only[AV.ok,AV.eb,and_true];exact k2,fun w=>?_⟩
    cases d<;>first|(exact absurd rfl (hd _))|simp[execOp,hx,AV.c,AV.cl,Instr.typeAssert,run_underlying g1,ZW,k3]
   ·exact h.elim
  ·exact h.elim
 ·rename_i args js
  split at h
  ·rename_i x t EH Dq
   obtain rfl:args=#[x]:=by apply Array.toList_inj.1;simpa using EH
   obtain rfl:js=#[t]:=by apply Array.toList_inj.1;simpa using Dq
   have hx:=(he x).1
   split at h
   ·rename_i el s1 s2 s3 h1 h2
    rw[h1]at hx
    obtain⟨d,hd,fj⟩:=hT.gY h2
    obtain rfl:=aR fj
    exact⟨_,h,trivial,fun w=>by simp[execOp,resolve,invoke,builtin,Builtin.len_,run_underlying hd,hx,AV.c,goInt]⟩
   ·rename_i i g off n c el s1 s2 s3 h1 h2
    rw[h1]at hx
    obtain⟨d,hd,fj⟩:=hT.gY h2
    obtain rfl:=aR fj
    obtain⟨a,ha,_⟩:=Iq (ρ:=ρ) (i:=i) (g:=g) (off:=off) (n:=n) (c:=c)
    rw[ha]at hx
    exact⟨_,h,trivial,fun w=>by simp[execOp,resolve,invoke,builtin,Builtin.len_,run_underlying hd,hx,AV.c,goInt]⟩
   ·rename_i s s1 s2 s3 h1 h2
    rw[h1]at hx
    obtain⟨d,hd,fj⟩:=hT.gY h2
    obtain rfl:=kR fj
    exact⟨_,h,trivial,fun w=>by simp[execOp,resolve,invoke,builtin,Builtin.len_,run_underlying hd,hx,AV.c,goInt]⟩
   ·rename_i h2
    obtain⟨d,hd,fj⟩:=hT.gY h2
    obtain rfl:=kS fj
    exact⟨_,h,trivial,fun w=>by simp[execOp,resolve,invoke,builtin,Builtin.len_,run_underlying hd,AV.c,goInt]⟩
   ·exact h.elim
  ·exact h.elim
 ·rename_i args js
  split at h
  ·rename_i x y EH
   obtain rfl:args=#[x,y]:=by apply Array.toList_inj.1;simpa using EH
   have hx:=(he x).1
   have hy:=(he y).1
   split at h
   ·rename_i k a k' b h1 h2
    rw[h1]at hx;rw[h2]at hy
    refine⟨_,h,trivial,fun w=>?_⟩
    have:(if b<a then b else a)=min a b:=by split<;>omega
    simp[execOp,resolve,invoke,builtin,Builtin.min_,Builtin.min2,hx,hy,AV.c,this]
   ·exact h.elim
  ·exact h.elim
 ·rename_i args js
  split at h
  ·rename_i x y EH
   obtain rfl:args=#[x,y]:=by apply Array.toList_inj.1;simpa using EH
   have hx:=(he x).1
   have hy:=(he y).1
   split at h
   ·rename_i k a k' b h1 h2
    rw[h1]at hx;rw[h2]at hy
    refine⟨_,h,trivial,fun w=>?_⟩
    have:(if a<b then b else a)=max a b:=by split<;>omega
    simp[execOp,resolve,invoke,builtin,Builtin.max_,Builtin.max2,hx,hy,AV.c,this]
   ·exact h.elim
  ·exact h.elim
 ·rename_i t parts
  have LI:(parts.map fun(i,x)=>(i,v x)).toList=(parts.toList.map fun x=>(x.1,e x.2)).map fun x=>(x.1,x.2.c ρ):=by
   rw[Array.toList_map,List.map_map]
   exact List.map_congr_left fun z _=>by simp[(he z.2).1]
  have hpo:∀x∈parts.toList.map (fun x=>(x.1,e x.2)),x.2.ok ρ:=by
   intro x hx
   obtain⟨y,_,rfl⟩:=List.mem_map.1 hx
   exact(he y.2).2
  split at h
  ·rename_i fs s1 s2 z ht
   split at h
   ·rename_i pl cg
    split at h
    ·rename_i cs xj
     have Ax:=hT.ou ht ρ
     obtain⟨d,hd,fj⟩:=hT.gY ht
     obtain⟨f,rfl,rfl⟩:=ig fj
     obtain⟨zv,Wd,Tx⟩:=hT.zero ht
     obtain⟨k1,k2⟩:=n8 (ρ:=ρ) xj Ax hpo zv.cells (Tx ρ)
     refine⟨_,h,k1,fun w=>?_⟩
     have AG:(f.mapM Vs).run P w=.ok pl.toArray w:=by
      rw[Array.mapM_eq_mapM_toList]
      simp[He hT w _ _ cg]
     have hp2:Instr.fill (pl.toArray[·]?) zv.cells (parts.map fun(i,x)=>(i,v x)).toList=some (AV.cl ρ cs).toArray:=by
      rw[LI];simpa using k2
     have aN:(Instr.build t (parts.map fun(i,x)=>(i,v x))).run P w=.ok ((AV.agg cs).c ρ) w:=by
      unfold Instr.build
      simp only[Sem.run_bind,Wd w,Result.andThen_ok,run_underlying hd]
      rw[show(f.mapM fun f=>do pure (f.offset,←sizeOf f.type):Sem (Array (Nat×Nat)))=f.mapM Vs from rfl,AG]
      simp only[Result.andThen_ok,hp2]
      rfl
     simp only[execOp,Sem.run_bind,aN,Result.andThen_ok]
     rfl
    ·exact h.elim
   ·exact h.elim
  ·rename_i n el s1 s2 z ht
   split at h
   ·rename_i te sS
    split at h
    ·rename_i cs xj
     have Ax:=hT.ou ht ρ
     obtain⟨d,hd,fj⟩:=hT.gY ht
     obtain rfl:=kS fj
     obtain⟨zv,Wd,Tx⟩:=hT.zero ht
     obtain⟨k1,k2⟩:=n8 (ρ:=ρ) xj Ax hpo zv.cells (Tx ρ)
     refine⟨_,h,k1,fun w=>?_⟩
     have hp2:Instr.fill (fun i=>some (i*te.size,te.size)) zv.cells (parts.map fun(i,x)=>(i,v x)).toList=some (AV.cl ρ cs).toArray:=by
      rw[LI];exact k2
     have aN:(Instr.build t (parts.map fun(i,x)=>(i,v x))).run P w=.ok ((AV.agg cs).c ρ) w:=by
      unfold Instr.build
      simp only[Sem.run_bind,Wd w,Result.andThen_ok,run_underlying hd,hT.size sS w,hp2]
      rfl
     simp only[execOp,Sem.run_bind,aN,Result.andThen_ok]
     rfl
    ·exact h.elim
   ·exact h.elim
  ·exact h.elim
 ·rename_i args js
  split at h
  ·rename_i x t EH Dq
   obtain rfl:args=#[x]:=by apply Array.toList_inj.1;simpa using EH
   obtain rfl:js=#[t]:=by apply Array.toList_inj.1;simpa using Dq
   have hx:=(he x).1
   split at h
   ·rename_i s1 s2 s3 s4 h1 h2
    rw[h1]at hx
    obtain⟨d,hd,fj⟩:=hT.gY h2
    obtain rfl:=aR fj
    exact⟨_,h,trivial,fun w=>by simp[execOp,resolve,invoke,builtin,Builtin.cap_,run_underlying hd,hx,AV.c,goInt]⟩
   ·rename_i i g off n c s1 s2 s3 s4 h1 h2
    rw[h1]at hx
    obtain⟨d,hd,fj⟩:=hT.gY h2
    obtain rfl:=aR fj
    obtain⟨a,ha,_⟩:=Iq (ρ:=ρ) (i:=i) (g:=g) (off:=off) (n:=n) (c:=c)
    rw[ha]at hx
    exact⟨_,h,trivial,fun w=>by simp[execOp,resolve,invoke,builtin,Builtin.cap_,run_underlying hd,hx,AV.c,goInt]⟩
   ·exact h.elim
  ·exact h.elim
 ·exact h.elim
end Go.Proofs.Ytibadaomjlkoaaa
open Go.RowKit
namespace Go.Proofs.Ytibadaomjlkoaaa
theorem fC {w:World}{b:Nat}{o:Obj}(h:w.heap[b]?=some o):b<w.heap.size:=(Array.getElem?_eq_some_iff.1 h).1
theorem b8.lt {ρ:Env}{own:Bool}{x:af}{b base:Nat}{w:World}(h:b8 ρ own x b base w):b<w.heap.size:=by
 rcases h.all with⟨_,c,e,fr,h1,_⟩|⟨_,_,h1⟩
 ·exact fC h1
 ·cases x with
  |map kk es=>obtain⟨_,_,h1,_⟩:=h1;exact fC h1
  |loop l st pd fn n a ps as bd df=>obtain⟨_,_,h1,_⟩:=h1;exact fC h1
  |cells _=>exact h1.elim
  |ints _ _ _=>exact h1.elim
  |ax _ _=>exact h1.elim
  |cw _ _ _ _=>exact h1.elim
theorem lV {ρ ρ':Env}{M M':AH}{w w':World}{i g:Nat}{x':af}(h:aW ρ M w)
 (hlen:M.length≤M'.length)(cH:∀i',i'≠i→M'[i']?=M[i']?)(kI:M'[i]?=some (.one true g x'))
 (UP:∀i' g' l,ρ i' g'=some l→ρ' i' g'=some l)(PM:∀i' g',(ρ' i' g').isSome=true→(ρ i' g').isSome=true∨(i'=i∧g'=g))
 (Z6:∀g',(ρ i g').isSome=true→g'≤g)
 (hw:∀b,b<w.heap.size→(∀g0 x0 q0,slot M i g0=some (true,x0)→ρ i g0=some (some q0)→q0.1≠b)→w'.heap[b]?=w.heap[b]?)
 (fb:w.heap.size≤w'.heap.size)(Ey:w'.os=w.os)(jK:w'.tape=w.tape)(qo:w'.output=w.output)
 (wq:(∃q,ρ' i g=some (some q)∧b8 ρ' true x' q.1 q.2 w'∧(w.heap.size≤q.1∨∃g0 x0 q0,slot M i g0=some (true,x0)∧ρ i g0=some (some q0)∧q0.1=q.1))∨(ρ' i g=some none∧x'.b9)):
 aW ρ' M' w'∧Ext ρ M w ρ' M' w':=by
 have fW:∀g' own x,slot M' i g'=some (own,x)→g'=g∧own=true∧x=x':=by
  intro g' own x hs
  unfold slot at hs
  rw[kI]at hs
  simp only[bq]at hs
  split at hs
  ·injection hs with hs;injection hs with a b;exact⟨‹_›,a.symm,b.symm⟩
  ·cases hs
 have pC:∀i' g',i'≠i→slot M' i' g'=slot M i' g':=by
  intro i' g' eN
  unfold slot
  rw[cH i' eN]
 have bh:i<M'.length:=(List.getElem?_eq_some_iff.1 kI).1
 have hold:∀i' g' own x q,slot M i' g'=some (own,x)→ρ i' g'=some (some q)→b8 ρ own x q.1 q.2 w:=by
  intro i' g' own x q hs hq
  rcases h.holds i' g' own x hs with⟨q',e1,e2⟩|⟨e1,_⟩
  ·rw[hq]at e1;injection e1 with e1;injection e1 with e1;subst e1;exact e2
  ·rw[hq]at e1;cases e1
 have LR:∀i' g' own x q,i'≠i→slot M i' g'=some (own,x)→ρ i' g'=some (some q)→w'.heap[q.1]?=w.heap[q.1]?:=by
  intro i' g' own x q eN hs hq
  refine hw _ (hold i' g' own x q hs hq).lt fun g0 x0 q0 a1 a2 e=>eN ?_
  exact(h.apart i g0 x0 i' g' own x q0 q a1 hs a2 hq e).1.symm
 have HF:∀i' g',i'≠i→∀l,ρ' i' g'=some l→(∃own x,slot M i' g'=some (own,x))→ρ i' g'=some l:=by
  intro i' g' eN l hl ⟨own,x,hs⟩
  rcases h.holds i' g' own x hs with⟨q',e1,_⟩|⟨e1,_⟩
  ·rw[UP _ _ _ e1]at hl;rw[e1];exact hl
  ·rw[UP _ _ _ e1]at hl;rw[e1];exact hl
 constructor
 ·refine⟨?_,?_,?_,?_,?_⟩
  ·intro i' g' hi
   rcases PM i' g' hi with h1|⟨rfl,_⟩
   ·exact Nat.lt_of_lt_of_le (h.pr i' g' h1) hlen
   ·exact bh
  ·intro i' g' own g1 x hm hi
   by_cases eN:i'=i
   ·subst eN
    rw[kI]at hm;injection hm with hm;injection hm with _ e _
    subst e
    rcases PM i' g' hi with h1|⟨_,rfl⟩
    ·exact Z6 _ h1
    ·exact Nat.le_refl _
   ·rw[cH i' eN]at hm
    rcases PM i' g' hi with h1|⟨rfl,_⟩
    ·exact h.tag i' g' own g1 x hm h1
    ·exact absurd rfl eN
  ·intro i' g' own m x hm hi
   by_cases eN:i'=i
   ·subst eN;rw[kI]at hm;cases hm
   ·rw[cH i' eN]at hm
    rcases PM i' g' hi with h1|⟨rfl,_⟩
    ·exact h.aX i' g' own m x hm h1
    ·exact absurd rfl eN
  ·intro i' g' own x hs
   by_cases eN:i'=i
   ·subst eN
    obtain⟨rfl,rfl,rfl⟩:=fW g' own x hs
    rcases wq with⟨q,h1,h2,_⟩|hv
    ·exact .inl ⟨q,h1,h2⟩
    ·exact .inr hv
   ·rw[pC i' g' eN]at hs
    rcases h.holds i' g' own x hs with⟨q,h1,h2⟩|⟨h1,h2⟩
    ·exact .inl ⟨q,UP _ _ _ h1,h2.ext UP (LR i' g' own x q eN hs h1)⟩
    ·exact .inr ⟨UP _ _ _ h1,h2⟩
  ·intro i1 g1 x1 i2 g2 own2 x2 q1 q2 Eu Az CD eW he
   by_cases h1:i1=i
   ·by_cases h2:i2=i
    ·subst h1;subst h2
     exact⟨rfl,(fW g1 _ _ Eu).1.trans (fW g2 _ _ Az).1.symm⟩
    ·exfalso
     subst h1
     obtain⟨rfl,_,rfl⟩:=fW g1 _ _ Eu
     rw[pC i2 g2 h2]at Az
     have PX:=HF i2 g2 h2 _ eW ⟨_,_,Az⟩
     have o8:=(hold i2 g2 own2 x2 q2 Az PX).lt
     rcases wq with⟨q,e1,_,e3|⟨g0,x0,q0,a1,a2,a3⟩⟩|⟨e1,_⟩
     ·rw[CD]at e1;injection e1 with e1;injection e1 with e1;subst e1;omega
     ·rw[CD]at e1;injection e1 with e1;injection e1 with e1;subst e1
      exact h2 (h.apart i1 g0 x0 i2 g2 own2 x2 q0 q2 a1 Az a2 PX (a3.trans he)).1.symm
     ·rw[CD]at e1;cases e1
   ·rw[pC i1 g1 h1]at Eu
    have TQ:=HF i1 g1 h1 _ CD ⟨_,_,Eu⟩
    by_cases h2:i2=i
    ·exfalso
     subst h2
     obtain⟨rfl,_,rfl⟩:=fW g2 _ _ Az
     have EE:=(hold i1 g1 true x1 q1 Eu TQ).lt
     rcases wq with⟨q,e1,_,e3|⟨g0,x0,q0,a1,a2,a3⟩⟩|⟨e1,_⟩
     ·rw[eW]at e1;injection e1 with e1;injection e1 with e1;subst e1;omega
     ·rw[eW]at e1;injection e1 with e1;injection e1 with e1;subst e1
      exact h1 (h.apart i1 g1 x1 i2 g0 true x0 q1 q0 Eu a1 TQ a2 (he.trans a3.symm)).1
     ·rw[eW]at e1;cases e1
    ·rw[pC i2 g2 h2]at Az
     have PX:=HF i2 g2 h2 _ eW ⟨_,_,Az⟩
     exact h.apart i1 g1 x1 i2 g2 own2 x2 q1 q2 Eu Az TQ PX he
 ·refine⟨UP,fb,fun b hb hn=>hw b hb fun g0 x0 q0 a1 a2=>hn i g0 x0 q0 a1 a2,?_,Ey,jK,qo⟩
  intro i' g' x q hs hq hb
  by_cases eN:i'=i
  ·subst eN
   obtain⟨rfl,_,rfl⟩:=fW g' _ _ hs
   rcases wq with⟨q',e1,_,e3|⟨g0,x0,q0,a1,a2,a3⟩⟩|⟨e1,_⟩
   ·rw[hq]at e1;injection e1 with e1;injection e1 with e1;subst e1;omega
   ·rw[hq]at e1;injection e1 with e1;injection e1 with e1;subst e1
    exact⟨i',g0,x0,q0,a1,a2,a3⟩
   ·rw[hq]at e1;cases e1
  ·rw[pC i' g' eN]at hs
   exact⟨i',g',x,q,hs,HF i' g' eN _ hq ⟨_,_,hs⟩,rfl⟩
def kO (ρ:Env)(i g:Nat)(l:Option (Nat×Nat)):Env:=fun i' g'=>if i'=i∧g'=g then some l else ρ i' g'
theorem ay (ρ:Env)(i g:Nat)(l:Option (Nat×Nat)):kO ρ i g l i g=some l:=by simp[kO]
theorem dI {ρ:Env}{i g:Nat}{l:Option (Nat×Nat)}(h:(ρ i g).isSome=false):∀i' g' l',ρ i' g'=some l'→kO ρ i g l i' g'=some l':=by
 intro i' g' l' e
 unfold kO
 split
 ·rename_i hh;obtain⟨rfl,rfl⟩:=hh;rw[e]at h;simp at h
 ·exact e
theorem ek {ρ:Env}{i g:Nat}{l:Option (Nat×Nat)}:∀i' g',(kO ρ i g l i' g').isSome=true→(ρ i' g').isSome=true∨(i'=i∧g'=g):=by
 intro i' g' e
 unfold kO at e
 split at e
 ·exact .inr ‹_›
 ·exact .inl e
theorem hJ {ρ:Env}{M:AH}{w w':World}{x:af}{l:Option (Nat×Nat)}(h:aW ρ M w)
 (hw:∀b,b<w.heap.size→w'.heap[b]?=w.heap[b]?)(fb:w.heap.size≤w'.heap.size)(Ey:w'.os=w.os)(jK:w'.tape=w.tape)(qo:w'.output=w.output)
 (hl:(∃b base,l=some (b,base)∧w.heap.size≤b∧b8 (kO ρ M.length 0 l) true x b base w')∨(l=none∧x.b9)):
 aW (kO ρ M.length 0 l) (M++[.one true 0 x]) w'∧Ext ρ M w (kO ρ M.length 0 l) (M++[.one true 0 x]) w':=by
 have ku:∀g,(ρ M.length g).isSome=false:=fun g=>by
  cases hh:(ρ M.length g).isSome with
  |false=>rfl
  |true=>exact absurd (h.pr _ _ hh) (Nat.lt_irrefl _)
 refine lV (i:=M.length) (g:=0) (x':=x) h (by simp) ?_ (by simp) (dI (ku 0)) ek (fun g' hg=>by rw[ku g']at hg;cases hg) (fun b hb _=>hw b hb) fb Ey jK qo ?_
 ·intro i' eN
  rcases Nat.lt_or_ge i' M.length with bh|LW
  ·exact List.getElem?_append_left bh
  ·rw[List.getElem?_eq_none (by simp;omega),List.getElem?_eq_none LW]
 ·rcases hl with⟨b,base,rfl,h1,h2⟩|⟨rfl,hv⟩
  ·exact .inl ⟨(b,base),ay _ _ _ _,h2,.inl h1⟩
  ·exact .inr ⟨ay _ _ _ _,hv⟩
theorem ao {M:AH}{i g:Nat}{own:Bool}{x:af}(h:M[i]?=some (.one own g x)):slot M i g=some (own,x):=by
 simp[slot,h,bq]
theorem zT {ρ:Env}{M:AH}{w w':World}{i g:Nat}{x x':af}{q:Nat×Nat}(h:aW ρ M w)(hm:M[i]?=some (.one true g x))(hq:ρ i g=some (some q))
 (hw:∀b,b≠q.1→w'.heap[b]?=w.heap[b]?)(fb:w'.heap.size=w.heap.size)(Ey:w'.os=w.os)(jK:w'.tape=w.tape)(qo:w'.output=w.output)
 (hh:b8 ρ true x' q.1 q.2 w'):aW ρ (M.set i (.one true g x')) w'∧Ext ρ M w ρ (M.set i (.one true g x')) w':=by
 have bh:i<M.length:=(List.getElem?_eq_some_iff.1 hm).1
 refine lV (i:=i) (g:=g) (x':=x') h (by simp) (fun i' eN=>by rw[List.getElem?_set_ne (Ne.symm eN)]) (by simp[bh]) (fun _ _ _ e=>e) (fun _ _ e=>.inl e) (fun g' hg=>h.tag i g' true g x hm hg)
  (fun b hb hn=>hw b fun e=>hn g x q (ao hm) hq e.symm) (by omega) Ey jK qo (.inl ⟨q,hq,hh,.inr ⟨g,x,q,ao hm,hq,rfl⟩⟩)
theorem se {ρ:Env}{M:AH}{w w':World}{i g:Nat}{x x':af}{l:Option (Nat×Nat)}(h:aW ρ M w)(hm:M[i]?=some (.one true g x))
 (hw:∀b,b<w.heap.size→(∀q,ρ i g=some (some q)→q.1≠b)→w'.heap[b]?=w.heap[b]?)(fb:w.heap.size≤w'.heap.size)(Ey:w'.os=w.os)(jK:w'.tape=w.tape)(qo:w'.output=w.output)
 (hl:(∃b base,l=some (b,base)∧(w.heap.size≤b∨∃q,ρ i g=some (some q)∧q.1=b)∧b8 (kO ρ i (g+1) l) true x' b base w')∨(l=none∧x'.b9)):
 aW (kO ρ i (g+1) l) (M.set i (.one true (g+1) x')) w'∧Ext ρ M w (kO ρ i (g+1) l) (M.set i (.one true (g+1) x')) w':=by
 have bh:i<M.length:=(List.getElem?_eq_some_iff.1 hm).1
 have ku:(ρ i (g+1)).isSome=false:=by
  cases hh:(ρ i (g+1)).isSome with
  |false=>rfl
  |true=>exact absurd (h.tag i _ true g x hm hh) (by omega)
 refine lV (i:=i) (g:=g+1) (x':=x') h (by simp) (fun i' eN=>by rw[List.getElem?_set_ne (Ne.symm eN)]) (by simp[bh]) (dI ku) ek (fun g' hg=>by have:=h.tag i g' true g x hm hg;omega)
  (fun b hb hn=>hw b hb fun q hq=>hn g x q (ao hm) hq) fb Ey jK qo ?_
 rcases hl with⟨b,base,rfl,h1,h2⟩|⟨rfl,hv⟩
 ·refine .inl ⟨(b,base),ay _ _ _ _,h2,?_⟩
  rcases h1 with h1|⟨q,hq,h1⟩
  ·exact .inl h1
  ·exact .inr ⟨g,x,q,ao hm,hq,h1⟩
 ·exact .inr ⟨ay _ _ _ _,hv⟩
end Go.Proofs.Ytibadaomjlkoaaa
open Go.RowKit
namespace Go.Proofs.Ytibadaomjlkoaaa
def AV.id:AV→Nat
 | .ptr i _ _=>i| .nI i _ _ _ _=>i| .sl i _ _ _ _=>i| .mp i _=>i|_=>0
def fy (ρ:Env)(M:AH)(i:Nat)(w:World):Prop:=∀g own x q,slot M i g=some (own,x)→ρ i g=some (some q)→b8 ρ own x q.1 q.2 w
theorem aW.id {ρ:Env}{M:AH}{w:World}(h:aW ρ M w)(i:Nat):fy ρ M i w:=by
 intro g own x q hs hq
 rcases h.holds i g own x hs with⟨q',e1,e2⟩|⟨e1,_⟩
 ·rw[hq]at e1;injection e1 with e1;injection e1 with e1;subst e1;exact e2
 ·rw[hq]at e1;cases e1
theorem b8.cell {ρ:Env}{own:Bool}{x:af}{b base:Nat}{w:World}(h:b8 ρ own x b base w){k:Nat}{v:AV}(hv:x.at k=some v):v.ok ρ∧w.cell? ⟨b,base+k,none⟩=some (v.c ρ):=by
 obtain⟨c,e,fr,h1,h2,h3,h4⟩:=h.out (af.UI hv)
 refine⟨(h3 k v hv).1,?_⟩
 rw[cell_of_row w b (base+k) c e fr h1]
 exact(h3 k v hv).2
def rF (T:List TI)(M:AH)(t:Nat)(a:AV)(K:AV→Prop):Prop:=
 match T[t]? with
 |none=>False
 |some ti=>match ti.k.isAgg with
  |false=>match a with
   | .ptr i g off=>fP M i g fun own x_=>match x_ with
     | .cells cs=>match cs[off]? with
       |some v=>K v
       |none=>False
     | .ints k xs _=>off<xs.length∧K (.int k (xs.getD off 0))
     | .ax xs _=>off<xs.length∧K (.bo (xs.getD off false))
     |_=>False
   | .nI i g sz j o=>fP M i g fun own x_=>match x_ with
     | .cw DC n get _=>bK (Nat.beq sz DC&&Nat.blt o sz) (j<n∧match(get j)[o]? with
       |some v=>K v
       |none=>False)
     |_=>False
   |_=>False
  |true=>match a with
   | .ptr i g off=>fP M i g fun own x_=>match x_ with
     | .cells cs=>bK (Nat.ble (off+ti.size) cs.length) (K (.agg ((cs.drop off).take ti.size)))
     | .ints k xs _=>bK (Nat.blt 0 ti.size) (off+ti.size≤xs.length∧K (.agg ((List.range ti.size).map fun j=>.int k (xs.getD (off+j) 0))))
     |_=>False
   | .nI i g sz j o=>fP M i g fun own x_=>match x_ with
     | .cw DC n get _=>bK (Nat.beq sz DC&&Nat.ble (o+ti.size) sz) (j<n∧bK (Nat.ble (o+ti.size) (get j).length) (K (.agg (((get j).drop o).take ti.size))))
     |_=>False
   |_=>False
theorem Kc {sz n:Nat}{get:Nat→List AV}{c j o:Nat}(hj:j<n)(ho:o<sz):(af.cw sz n get c).at (j*sz+o)=(get j)[o]?:=by
 have cY:0<sz:=by omega
 have h1:j*sz+o<n*sz:=by
  have:=Nat.mul_le_mul_right sz (show j+1≤n from hj)
  rw[Nat.add_mul,Nat.one_mul]at this
  omega
 have h2:(j*sz+o)/sz=j:=by rw[Nat.mul_comm,Nat.mul_add_div cY,Nat.div_eq_of_lt ho,Nat.add_zero]
 have h3:(j*sz+o)%sz=o:=by rw[Nat.mul_comm,Nat.mul_add_mod,Nat.mod_eq_of_lt ho]
 simp only[af.at,if_pos h1,h2,h3]
theorem vp {P:Program}{w:World}{b o:Nat}{vs:List Value}(h:∀k v,vs[k]?=some v→w.cell? ⟨b,o+k,none⟩=some v):
 (loadCells ⟨b,o,none⟩ vs.length).run P w=.ok vs.toArray w:=
 run_loadCells_list w ⟨b,o,none⟩ vs fun k v hv=>by rw[cn];exact h k v hv
theorem iz {P:Program}{T:List TI}(hT:av P T){M:AH}{t:Nat}{a:AV}{K:AV→Prop}{ρ:Env}(hk:kB ρ M){w0:World}(h0:fy ρ M a.id w0)
 (h:rF T M t a K):∃v,K v∧v.ok ρ∧∀w,fy ρ M a.id w→(Instr.loadAt t (a.c ρ)).run P w=.ok (v.c ρ) w:=by
 unfold rF at h
 split at h
 ·exact h.elim
 ·rename_i ti ht
  have hs:=hT.size ht
  have Zy:=hT.isAgg ht
  have one:∀(i g off:Nat)(own:Bool)(x:af)(q:Nat×Nat)(v:AV)(k:Nat)(p:Value),a.id=i→slot M i g=some (own,x)→ρ i g=some (some q)→ti.k.isAgg=false→x.at k=some v→
   p=.pointer (some ⟨q.1,q.2+k,none⟩)→v.ok ρ∧∀w,fy ρ M a.id w→(Instr.loadAt t p).run P w=.ok (v.c ρ) w:=by
   intro i g off own x q v k p hi de hq um gn hp
   subst hp
   refine⟨((h0 g own x q (hi▸de) (hi▸hq)).cell gn).1,fun w hw=>?_⟩
   have hc:=((hw g own x q (hi▸de) (hi▸hq)).cell gn).2
   simp[Instr.loadAt,Instr.sureAddr,loadVar,Zy,um,hc]
  have many:∀(i g:Nat)(own:Bool)(x:af)(q:Nat×Nat)(l:List AV)(k:Nat)(p:Value),a.id=i→slot M i g=some (own,x)→ρ i g=some (some q)→ti.k.isAgg=true→l.length=ti.size→(∀m v,l[m]?=some v→x.at (k+m)=some v)→
   p=.pointer (some ⟨q.1,q.2+k,none⟩)→(AV.agg l).ok ρ∧∀w,fy ρ M a.id w→(Instr.loadAt t p).run P w=.ok ((AV.agg l).c ρ) w:=by
   intro i g own x q l k p hi de hq um hlen gn hp
   subst hp
   refine⟨?_,fun w hw=>?_⟩
   ·simp only[AV.ok,AV.aQ]
    intro v hv
    obtain⟨m,hm⟩:=List.getElem?_of_mem hv
    exact((h0 g own x q (hi▸de) (hi▸hq)).cell (gn m v hm)).1
   ·have hl:(loadCells ⟨q.1,q.2+k,none⟩ (AV.cl ρ l).length).run P w=.ok (AV.cl ρ l).toArray w:=vp fun m v hv=>by
     rw[AV.bc,List.getElem?_map,Option.map_eq_some_iff]at hv
     obtain⟨u,hu,rfl⟩:=hv
     have:=((hw g own x q (hi▸de) (hi▸hq)).cell (gn m u hu)).2
     rwa[←Nat.add_assoc]at this
    have y6:(AV.cl ρ l).length=ti.size:=by rw[AV.bc,List.length_map,hlen]
    rw[y6]at hl
    simp[Instr.loadAt,Instr.sureAddr,loadVar,Zy,um,hs,hl,AV.c]
  split at h
  ·rename_i um
   split at h
   ·rename_i i g off
    replace h:=ba h
    obtain⟨own,x_,de,h⟩:=h
    split at h
    ·rename_i cs
     obtain⟨q,hq⟩:=dt (off:=0) (n:=0) (c:=0) hk de (by simp[af.b9])
     split at h
     ·rename_i v hv
      obtain⟨h1,h2⟩:=one i g off own _ q v off _ rfl de hq um hv rfl
      exact⟨v,h,h1,by simpa only[AV.c,hq]using h2⟩
     ·exact h.elim
    ·rename_i k xs c
     obtain⟨bh,h⟩:=h
     obtain⟨q,hq⟩:=dt (off:=0) (n:=0) (c:=0) hk de (by simp only[af.b9];rintro⟨rfl,_⟩;simp at bh)
     obtain⟨h1,h2⟩:=one i g off own _ q (.int k (xs.getD off 0)) off _ rfl de hq um (by simp[af.at,bh]) rfl
     exact⟨_,h,h1,by simpa only[AV.c,hq]using h2⟩
    ·rename_i xs c
     obtain⟨bh,h⟩:=h
     obtain⟨q,hq⟩:=dt (off:=0) (n:=0) (c:=0) hk de (by simp only[af.b9];rintro⟨rfl,_⟩;simp at bh)
     obtain⟨h1,h2⟩:=one i g off own _ q (.bo (xs.getD off false)) off _ rfl de hq um (by simp[af.at,bh]) rfl
     exact⟨_,h,h1,by simpa only[AV.c,hq]using h2⟩
    ·exact h.elim
   ·rename_i i g sz j o
    replace h:=ba h
    obtain⟨own,x_,de,h⟩:=h
    split at h
    ·rename_i DC n get c
     replace h:=aw h;obtain⟨hb,bh,h⟩:=h
     simp only[Bool.and_eq_true]at hb
     have e1:sz=DC:=Nat.eq_of_beq_eq_true hb.1
     have e2:o<sz:=by simpa using hb.2
     subst e1
     obtain⟨q,hq⟩:=dt (off:=0) (n:=0) (c:=0) hk de (by simp only[af.b9];rintro⟨rfl,_⟩;omega)
     split at h
     ·rename_i v hv
      obtain⟨h1,h2⟩:=one i g 0 own _ q v (j*sz+o) _ rfl de hq um (by rw[Kc bh e2];exact hv) rfl
      exact⟨v,h,h1,by simpa only[AV.c,hq]using h2⟩
     ·exact h.elim
    ·exact h.elim
   ·exact h.elim
  ·rename_i um
   split at h
   ·rename_i i g off
    replace h:=ba h
    obtain⟨own,x_,de,h⟩:=h
    split at h
    ·rename_i cs
     replace h:=aw h;obtain⟨hb,h⟩:=h
     have na:off+ti.size≤cs.length:=by simpa using hb
     obtain⟨q,hq⟩:=dt (off:=0) (n:=0) (c:=0) hk de (by simp[af.b9])
     obtain⟨h1,h2⟩:=many i g own _ q ((cs.drop off).take ti.size) off _ rfl de hq um (by simp;omega) (fun m v hv=>by
      simp only[List.getElem?_take,List.getElem?_drop]at hv
      split at hv
      ·exact hv
      ·cases hv) rfl
     exact⟨_,h,h1,by simpa only[AV.c,hq]using h2⟩
    ·rename_i k xs c
     replace h:=aw h;obtain⟨hb,bh,h⟩:=h
     have cY:0<ti.size:=by simpa using hb
     obtain⟨q,hq⟩:=dt (off:=0) (n:=0) (c:=0) hk de (by simp only[af.b9];rintro⟨rfl,_⟩;simp at bh;omega)
     obtain⟨h1,h2⟩:=many i g own _ q ((List.range ti.size).map fun j=>.int k (xs.getD (off+j) 0)) off _ rfl de hq um (by simp) (fun m v hv=>by
      rw[List.getElem?_map,Option.map_eq_some_iff]at hv
      obtain⟨j,hj,rfl⟩:=hv
      have hm:=(List.getElem?_eq_some_iff.1 hj).1
      rw[List.length_range]at hm
      rw[List.getElem?_range hm]at hj
      injection hj with hj;subst hj
      have aam:off+m<xs.length:=by omega
      simp[af.at,aam]) rfl
     exact⟨_,h,h1,by simpa only[AV.c,hq]using h2⟩
    ·exact h.elim
   ·rename_i i g sz j o
    replace h:=ba h
    obtain⟨own,x_,de,h⟩:=h
    split at h
    ·rename_i DC n get c
     replace h:=aw h;obtain⟨hb,bh,h⟩:=h
     simp only[Bool.and_eq_true]at hb
     have e1:sz=DC:=Nat.eq_of_beq_eq_true hb.1
     have e2:o+ti.size≤sz:=by simpa using hb.2
     subst e1
     replace h:=aw h;obtain⟨gm,h⟩:=h
     have e3:o+ti.size≤(get j).length:=by simpa using gm
     obtain⟨q,hq⟩:=dt (off:=0) (n:=0) (c:=0) hk de (by simp only[af.b9];rintro⟨rfl,_⟩;omega)
     obtain⟨h1,h2⟩:=many i g own _ q (((get j).drop o).take ti.size) (j*sz+o) _ rfl de hq um (by simp;omega) (fun m v hv=>by
      simp only[List.getElem?_take,List.getElem?_drop]at hv
      split at hv
      ·rename_i hm
       rw[Nat.add_assoc,Kc bh (by omega)];exact hv
      ·cases hv) rfl
     exact⟨_,h,h1,by simpa only[AV.c,hq]using h2⟩
    ·exact h.elim
   ·exact h.elim
end Go.Proofs.Ytibadaomjlkoaaa
open Go.RowKit
namespace Go.Proofs.Ytibadaomjlkoaaa
theorem Aa (cur:Array Value)(p:Nat)(vs:List Value)(h:p+vs.length≤cur.size)(k:Nat):
 ((cur.toList.take p++vs++cur.toList.drop (p+vs.length)).toArray)[k]?=if p≤k∧k<p+vs.length then vs[k-p]? else cur[k]?:=by
 have hl:(cur.toList.take p).length=p:=by simp;omega
 simp only[List.getElem?_toArray]
 by_cases h1:k<p
 ·rw[if_neg (by omega),List.append_assoc,List.getElem?_append_left (by omega),List.getElem?_take,if_pos h1];simp
 ·by_cases h2:k<p+vs.length
  ·rw[if_pos ⟨by omega,h2⟩,List.append_assoc,List.getElem?_append_right (by omega),hl,List.getElem?_append_left (by omega)]
  ·rw[if_neg (by omega),List.getElem?_append_right (by simp;omega)]
   simp only[List.length_append,hl,List.getElem?_drop]
   rw[show p+vs.length+(k-(p+vs.length))=k from by omega];simp
theorem lX (w:World)(g:Nat)(cur new:Array Value)(t:TypeId)(fr:Nat×Nat)(h:w.heap[g]?=some (.cells cur t fr)):(w.setRow g new).heap[g]?=some (.cells new t fr):=by
 simp[World.setRow,Array.getElem?_modify,h]
theorem kF (w:World)(g b:Nat)(new:Array Value)(h:b≠g):(w.setRow g new).heap[b]?=w.heap[b]?:=by
 simp only[World.setRow,Array.getElem?_modify];rw[if_neg (Ne.symm h)]
theorem lW (w:World)(g:Nat)(new:Array Value):(w.setRow g new).heap.size=w.heap.size:=by simp[World.setRow]
theorem ia {P:Program}{ρ:Env}{M:AH}{w:World}{i g k0:Nat}{x x':af}{q:Nat×Nat}{vs:List AV}(h:aW ρ M w)(hm:M[i]?=some (.one true g x))(hq:ρ i g=some (some q))(sQ:x.row=true)(Er:x'.row=true)
 (aF:AV.eb ρ vs)(jL:vs.all AV.one=true)(gR:k0+vs.length≤x.size)(Hy:x'.size=x.size)
 (gn:∀k v,x'.at k=some v→(∃u,k0≤k∧k<k0+vs.length∧vs[k-k0]?=some u∧u.c ρ=v.c ρ∧v.ok ρ)∨((k<k0∨k0+vs.length≤k)∧x.at k=some v)):
 ∃w',(storeCells ⟨q.1,q.2+k0,none⟩ (AV.cl ρ vs)).run P w=.ok () w'∧aW ρ (M.set i (.one true g x')) w'∧Ext ρ M w ρ (M.set i (.one true g x')) w':=by
 obtain⟨c,e,fr,h1,h2,h3,h4⟩:=(h.id i g true x q (ao hm) hq).out sQ
 obtain rfl:=h4 rfl
 have hlen:(AV.cl ρ vs).length=vs.length:=by simp[AV.bc]
 have aN:=run_storeCells_at P q.1 (q.2+k0) e (AV.cl ρ vs) 0 c w h1 (by rw[hlen];omega) (fun v hv=>by
  rw[AV.bc,List.mem_map]at hv
  obtain⟨u,hu,rfl⟩:=hv
  exact AV.QT ρ (List.all_eq_true.1 jL u hu))
 simp only[Nat.add_zero]at aN
 refine⟨_,aN,zT h hm hq (fun b hb=>kF _ _ _ _ hb) (lW _ _ _) rfl rfl rfl (.mk' Er ⟨_,e,(0,0),lX _ _ _ _ _ _ h1,?_,?_,fun _=>rfl⟩)⟩
 ·simp only[List.size_toArray,List.length_append,List.length_take,List.length_drop,Array.length_toList,hlen];omega
 ·intro k v hv
  rw[Aa _ _ _ (by rw[hlen];omega),hlen]
  rcases gn k v hv with⟨u,a1,a2,a3,a4,a5⟩|⟨a1,a2⟩
  ·refine⟨a5,?_⟩
   rw[if_pos (by omega),show q.2+k-(q.2+k0)=k-k0 from by omega,AV.bc,List.getElem?_map,a3]
   simp[a4]
  ·rw[if_neg (by omega)]
   exact h3 k v a2
def DE (T:List TI)(M:AH)(t:Nat)(a v:AV)(K:AH→Prop):Prop:=
 match T[t]? with
 |none=>False
 |some ti=>bK (v.parts.all AV.one&&Nat.beq v.parts.length ti.size) (match a with
  | .ptr i g off=>match M[i]? with
    |some (.one true g' (.cells cs))=>g=g'∧bK (Nat.ble (off+v.parts.length) cs.length) (K (M.set i (.one true g' (.cells (dv cs off v.parts)))))
    |some (.one true g' (.ints k xs c))=>g=g'∧match v with
     | .int k' n=>cV k k' (off<xs.length∧xs.length≤c∧K (M.set i (.one true g' (.ints k (xs.set off n) c))))
     |_=>False
    |some (.one true g' (.ax xs c))=>g=g'∧match v.MJ with
     |some b=>off<xs.length∧xs.length≤c∧K (M.set i (.one true g' (.ax (xs.set off b) c)))
     |none=>False
    |_=>False
  | .nI i g sz j o=>match M[i]? with
    |some (.one true g' (.cw DC n get c))=>g=g'∧bK (Nat.beq sz DC&&Nat.ble (o+v.parts.length) sz) (j<n∧n≤c∧bK (Nat.ble (o+v.parts.length) (get j).length)
     (K (M.set i (.one true g' (.cw sz n (fun r=>match Nat.beq r j with|true=>dv (get j) o v.parts|false=>get r) c)))))
    |_=>False
  |_=>False)
theorem kj {P:Program}{T:List TI}(hT:av P T){t:Nat}{ti:TI}(ht:T[t]?=some ti){ρ:Env}{v:AV}(jL:v.parts.all AV.one=true)(hlen:v.parts.length=ti.size){a:Addr}{w w':World}
 (h:(storeCells a (AV.cl ρ v.parts)).run P w=.ok () w'):(Instr.storeAt t (.pointer (some a)) (v.c ρ)).run P w=.ok () w':=by
 have hr:∀x,v≠ .raw x:=by rintro x rfl;simp[AV.parts,AV.one]at jL
 have hc:=AV.oO ρ v hr
 have fb:(v.c ρ).cells.size=ti.size:=by
  rw[←Array.length_toList,hc,AV.bc,List.length_map,hlen]
 simp[Instr.storeAt,Instr.sureAddr,storeVar,hT.size ht,fb,hc,h]
theorem zJ {P:Program}{T:List TI}(hT:av P T){M:AH}{t:Nat}{a v:AV}{K:AH→Prop}{ρ:Env}{w:World}(hs:aW ρ M w)(hv:v.ok ρ)
 (h:DE T M t a v K):∃M' w',(Instr.storeAt t (a.c ρ) (v.c ρ)).run P w=.ok () w'∧K M'∧aW ρ M' w'∧Ext ρ M w ρ M' w':=by
 unfold DE at h
 split at h
 ·exact h.elim
 ·rename_i ti ht
  replace h:=aw h
  obtain⟨hb,h⟩:=h
  simp only[Bool.and_eq_true]at hb
  obtain⟨jL,Rb⟩:=hb
  have hlen:v.parts.length=ti.size:=Nat.eq_of_beq_eq_true Rb
  clear Rb
  have Jh:=AV.nJ hv
  have hk:=hs.known
  split at h
  ·rename_i i g off
   split at h
   ·rename_i g' cs hm
    obtain⟨rfl,h⟩:=h
    replace h:=aw h
    obtain⟨hb,h⟩:=h
    have hle:off+v.parts.length≤cs.length:=by simpa using hb
    obtain⟨q,hq⟩:=dt (off:=0) (n:=0) (c:=0) hk (ao hm) (by simp[af.b9])
    obtain⟨w',aN,h1,h2⟩:=ia (P:=P) (k0:=off) (x':=.cells (dv cs off v.parts)) hs hm hq rfl rfl Jh jL hle (by simp[af.size,xw hle]) (by
     intro k u hu
     simp only[af.at,lT hle]at hu
     split at hu
     ·rename_i hc
      exact .inl ⟨u,hc.1,hc.2,hu,rfl,(AV.aQ ρ _).1 Jh u (List.mem_of_getElem? hu)⟩
     ·rename_i hc
      exact .inr ⟨by omega,hu⟩)
    exact⟨_,w',by simp only[AV.c,hq];exact kj hT ht jL hlen aN,h,h1,h2⟩
   ·rename_i g' k xs c hm
    obtain⟨rfl,h⟩:=h
    split at h
    ·rename_i k' n
     replace h:=bl h
     obtain⟨rfl,bh,hc,h⟩:=h
     obtain⟨q,hq⟩:=dt (off:=0) (n:=0) (c:=0) hk (ao hm) (by simp only[af.b9];rintro⟨rfl,_⟩;simp at bh)
     obtain⟨w',aN,h1,h2⟩:=ia (P:=P) (k0:=off) (x':=.ints k (xs.set off n) c) hs hm hq rfl rfl Jh jL (by simp[af.size,AV.parts];omega) (by simp[af.size]) (by
      intro k' u hu
      simp only[af.at,Option.map_eq_some_iff]at hu
      obtain⟨z,hz,rfl⟩:=hu
      by_cases Bm:k'=off
      ·subst Bm
       rw[List.getElem?_set_self bh]at hz
       injection hz with hz;subst hz
       exact .inl ⟨.int k n,by omega,by simp[AV.parts],by simp[AV.parts],rfl,trivial⟩
      ·rw[List.getElem?_set_ne (Ne.symm Bm)]at hz
       exact .inr ⟨by simp[AV.parts];omega,by simp[af.at,hz]⟩)
     exact⟨_,w',by simp only[AV.c,hq];exact kj hT ht jL hlen aN,h,h1,h2⟩
    ·exact h.elim
   ·rename_i g' xs c hm
    obtain⟨rfl,h⟩:=h
    split at h
    ·rename_i b Zh
     obtain⟨bh,hc,h⟩:=h
     have hp:v.parts=[v]:=by cases v<;>simp_all[AV.MJ,AV.parts]
     obtain⟨q,hq⟩:=dt (off:=0) (n:=0) (c:=0) hk (ao hm) (by simp only[af.b9];rintro⟨rfl,_⟩;simp at bh)
     obtain⟨w',aN,h1,h2⟩:=ia (P:=P) (k0:=off) (x':=.ax (xs.set off b) c) hs hm hq rfl rfl Jh jL (by simp[af.size,hp];omega) (by simp[af.size]) (by
      intro k' u hu
      simp only[af.at,Option.map_eq_some_iff]at hu
      obtain⟨z,hz,rfl⟩:=hu
      by_cases Bm:k'=off
      ·subst Bm
       rw[List.getElem?_set_self bh]at hz
       injection hz with hz;subst hz
       exact .inl ⟨v,by omega,by simp[hp],by simp[hp],by rw[AV.xa ρ Zh];rfl,trivial⟩
      ·rw[List.getElem?_set_ne (Ne.symm Bm)]at hz
       exact .inr ⟨by simp[hp];omega,by simp[af.at,hz]⟩)
     exact⟨_,w',by simp only[AV.c,hq];exact kj hT ht jL hlen aN,h,h1,h2⟩
    ·exact h.elim
   ·exact h.elim
  ·rename_i i g sz j o
   split at h
   ·rename_i g' DC n get c hm
    obtain⟨rfl,h⟩:=h
    replace h:=aw h
    obtain⟨hb,bh,hnc,h⟩:=h
    simp only[Bool.and_eq_true]at hb
    have e1:sz=DC:=Nat.eq_of_beq_eq_true hb.1
    have e2:o+v.parts.length≤sz:=by simpa using hb.2
    subst e1
    replace h:=aw h
    obtain⟨gm,h⟩:=h
    have e3:o+v.parts.length≤(get j).length:=by simpa using gm
    obtain⟨q,hq⟩:=dt (off:=0) (n:=0) (c:=0) hk (ao hm) (by simp only[af.b9];rintro⟨rfl,_⟩;omega)
    have hjs:j*sz+sz≤c*sz:=by
     have:=Nat.mul_le_mul_right sz (show j+1≤c by omega)
     rwa[Nat.add_mul,Nat.one_mul]at this
    obtain⟨w',aN,h1,h2⟩:=ia (P:=P) (k0:=j*sz+o) (x':=.cw sz n (fun r=>match Nat.beq r j with|true=>dv (get j) o v.parts|false=>get r) c) hs hm hq rfl rfl Jh jL (by simp only[af.size];omega) rfl (by
     intro k u hu
     simp only[af.at]at hu
     split at hu
     ·rename_i WL
      have cY:0<sz:=by
       rcases Nat.eq_zero_or_pos sz with h0|h0
       ·subst h0;simp at WL
       ·exact h0
      by_cases P4:k/sz=j
      ·rw[P4,Nat.beq_refl]at hu
       simp only[lT e3]at hu
       have Bm:k=j*sz+k%sz:=by rw[←P4,Nat.mul_comm];exact(Nat.div_add_mod k sz).symm
       have WE:=Nat.mod_lt k cY
       split at hu
       ·rename_i hc
        refine .inl ⟨u,by omega,by omega,?_,rfl,(AV.aQ ρ _).1 Jh u (List.mem_of_getElem? hu)⟩
        rw[show k-(j*sz+o)=k%sz-o from by omega];exact hu
       ·rename_i hc
        refine .inr ⟨by omega,?_⟩
        simp only[af.at,if_pos WL,P4];exact hu
      ·have eN:Nat.beq (k/sz) j=false:=by
        cases hb:Nat.beq (k/sz) j with
        |true=>exact absurd (Nat.eq_of_beq_eq_true hb) P4
        |false=>rfl
       rw[eN]at hu
       refine .inr ⟨?_,by simp only[af.at,if_pos WL];exact hu⟩
       rcases Nat.lt_or_gt_of_ne P4 with EC|Jn
       ·left
        have:k<j*sz:=(Nat.div_lt_iff_lt_mul cY).1 EC
        omega
       ·right
        have:(j+1)*sz≤k:=(Nat.le_div_iff_mul_le cY).1 Jn
        rw[Nat.add_mul,Nat.one_mul]at this
        omega
     ·cases hu)
    exact⟨_,w',by simp only[AV.c,hq];exact kj hT ht jL hlen aN,h,h1,h2⟩
   ·exact h.elim
  ·exact h.elim
end Go.Proofs.Ytibadaomjlkoaaa
open Go.RowKit
namespace Go.Proofs.Ytibadaomjlkoaaa
theorem eM {ρ:Env}{M:AH}{w w1:World}{x:af}{c:Array Value}{e:TypeId}(h:aW ρ M w)(TC:w1.heap=w.heap)(Ey:w1.os=w.os)(jK:w1.tape=w.tape)(qo:w1.output=w.output)
 (Hy:x.size≤c.size)(gn:∀k v,x.at k=some v→v.ok ρ∧c[k]?=some (v.c ρ))(sQ:x.row=true:=by rfl):
 aW (kO ρ M.length 0 (some (w.heap.size,0))) (M++[.one true 0 x]) (w1.alloc (.cells c e))∧Ext ρ M w (kO ρ M.length 0 (some (w.heap.size,0))) (M++[.one true 0 x]) (w1.alloc (.cells c e)):=by
 have ku:(ρ M.length 0).isSome=false:=by
  cases hh:(ρ M.length 0).isSome with
  |false=>rfl
  |true=>exact absurd (h.pr _ _ hh) (Nat.lt_irrefl _)
 have fb:w1.heap.size=w.heap.size:=by rw[TC]
 refine hJ h (fun b hb=>?_) (by simp[TC]) Ey jK qo (.inl ⟨w.heap.size,0,rfl,Nat.le_refl _,.mk' sQ ⟨c,e,(0,0),?_,by omega,fun k v hv=>?_,fun _=>rfl⟩⟩)
 ·rw[Below.heap_alloc w1 _ b (by omega),TC]
 ·rw[←fb];exact heap_alloc_new w1 _
 ·have h1:=gn k v hv
  refine⟨AV.cW (dI ku) v h1.1,?_⟩
  rw[AV.dr (dI ku) v h1.1,Nat.zero_add]
  exact h1.2
theorem uD {ρ:Env}{M:AH}{b:Nat}:(AV.ptr M.length 0 0).c (kO ρ M.length 0 (some (b,0)))=.pointer (some ⟨b,0,none⟩)∧(AV.ptr M.length 0 0).ok (kO ρ M.length 0 (some (b,0))):=by
 simp[AV.c,AV.ok,ay]
theorem dW {ρ:Env}{i g b n c:Nat}:(AV.sl i g 0 n c).c (kO ρ i g (some (b,0)))=.slice (some ⟨b,0,none⟩) n c∧(AV.sl i g 0 n c).ok (kO ρ i g (some (b,0))):=by
 simp[AV.c,AV.ok,ay]
def GC (T:List TI)(M:AH)(t:Nat)(K:AV→AH→Prop):Prop:=
 match T[t]? with
 |some ti=>K (.ptr M.length 0 0) (M++[.one true 0 (.cells ti.zero)])
 |none=>False
theorem Be {P:Program}{T:List TI}(hT:av P T){M:AH}{t:Nat}{K:AV→AH→Prop}{ρ:Env}{w:World}(hs:aW ρ M w)
 (h:GC T M t K):∃v M' ρ' w',(Instr.alloc t true (.tuple #[])).run P w=.ok (v.c ρ') w'∧K v M'∧v.ok ρ'∧aW ρ' M' w'∧Ext ρ M w ρ' M' w':=by
 unfold GC at h
 split at h
 ·rename_i ti ht
  obtain⟨z,Wd,Tx⟩:=hT.zero ht
  obtain⟨h1,h2⟩:=eM (x:=.cells ti.zero) (c:=z.cells) (e:=t) hs rfl rfl rfl rfl
   (by rw[←Array.length_toList,Tx ρ,AV.bc];simp[af.size]) (fun k v hv=>by
    refine⟨(AV.aQ ρ _).1 (hT.ou ht ρ) v (List.mem_of_getElem? hv),?_⟩
    rw[←Array.getElem?_toList,Tx ρ,AV.bc,List.getElem?_map,show ti.zero[k]?=some v from hv];rfl)
  refine⟨_,_,_,_,?_,h,uD.2,h1,h2⟩
  rw[uD.1]
  simp[Instr.alloc,Wd,newVar,newRow]
 ·exact h.elim
def UH (M:AH)(v:AV)(K:AV→AH→Prop):Prop:=
 bK (v.parts.all AV.one) (K (.ptr M.length 0 0) (M++[.one true 0 (.cells v.parts)]))
theorem E1 {P:Program}{M:AH}{t:Nat}{v:AV}{K:AV→AH→Prop}{ρ:Env}{w:World}(hs:aW ρ M w)(hv:v.ok ρ)
 (h:UH M v K):∃r M' ρ' w',(Instr.box t (v.c ρ)).run P w=.ok (r.c ρ') w'∧K r M'∧r.ok ρ'∧aW ρ' M' w'∧Ext ρ M w ρ' M' w':=by
 unfold UH at h
 replace h:=aw h
 obtain⟨jL,h⟩:=h
 have hr:∀x,v≠ .raw x:=by rintro x rfl;simp[AV.parts,AV.one]at jL
 have hc:=AV.oO ρ v hr
 obtain⟨h1,h2⟩:=eM (x:=.cells v.parts) (c:=(v.c ρ).cells) (e:=t) hs rfl rfl rfl rfl
  (by rw[←Array.length_toList,hc,AV.bc];simp[af.size]) (fun k u hu=>by
   refine⟨(AV.aQ ρ _).1 (AV.nJ hv) u (List.mem_of_getElem? hu),?_⟩
   rw[←Array.getElem?_toList,hc,AV.bc,List.getElem?_map,show v.parts[k]?=some u from hu];rfl)
 refine⟨_,_,_,_,?_,h,uD.2,h1,h2⟩
 rw[uD.1]
 simp[Instr.box,newVar,newRow]
def lY (k k':IntKind):Bool:=
 match k,k' with
 | .i8,.i8| .i16,.i16| .i32,.i32| .i64,.i64| .u8,.u8| .u16,.u16| .u32,.u32| .u64,.u64=>true
 |_,_=>false
theorem fE {k k':IntKind}(h:lY k k'=true):k=k':=by
 cases k<;>cases k'<;>first|rfl|cases h
def wc (k:IntKind):List AV→Option (List Int)
 |[]=>some []
 | .int k' n::l=>match lY k k',wc k l with
   |true,some r=>some (n::r)
   |_,_=>none
 |_=>none
def rP:List AV→Option (List Bool)
 |[]=>some []
 |v::l=>match v.MJ,rP l with
  |some b,some r=>some (b::r)
  |_,_=>none
theorem wb {k:IntKind}:∀{l:List AV}{r:List Int},wc k l=some r→r.length=l.length∧∀j:Nat,l[j]?=(r[j]?).map (AV.int k)
 |[],r,h=>by simp[wc]at h;subst h;simp
 |v::l,r,h=>by
  cases v<;>simp[wc]at h
  split at h
  ·rename_i h1 h2
   injection h with h;subst h
   obtain⟨h3,h4⟩:=wb h2
   refine⟨by simp[h3],fun j=>?_⟩
   cases j with
   |zero=>simp[fE h1]
   |succ j=>simpa using h4 j
  ·cases h
theorem tU (ρ:Env):∀{l:List AV}{r:List Bool},rP l=some r→r.length=l.length∧∀(j:Nat) b,r[j]?=some b→∃v,l[j]?=some v∧v.c ρ=.bool b∧v.parts=[v]
 |[],r,h=>by simp[rP]at h;subst h;simp
 |v::l,r,h=>by
  simp only[rP]at h
  split at h
  ·rename_i b r' h1 h2
   injection h with h;subst h
   obtain⟨h3,h4⟩:=tU ρ h2
   refine⟨by simp[h3],fun j b' hb=>?_⟩
   cases j with
   |zero=>simp at hb;subst hb;exact⟨v,rfl,AV.xa ρ h1,by cases v<;>simp_all[AV.MJ,AV.parts]⟩
   |succ j=>simpa using h4 j b' (by simpa using hb)
  ·cases h
def oW (ti:TI)(vs:List AV):Option af:=
 match ti.size with
 |0=>none
 |1=>match ti.k with
  | .int k=>(wc k vs).map fun xs=>.ints k xs vs.length
  | .bool=>(rP vs).map fun xs=>.ax xs vs.length
  |_=>some (.cells (vs.flatMap AV.parts))
 |s=>some (.cw s vs.length (fun j=>(vs.map AV.parts).getD j []) vs.length)
theorem tH {ti:TI}{vs:List AV}{x:af}(h:oW ti vs=some x):x.row=true:=by
 unfold oW at h
 split at h
 ·cases h
 ·split at h
  ·obtain⟨_,_,rfl⟩:=Option.map_eq_some_iff.1 h;rfl
  ·obtain⟨_,_,rfl⟩:=Option.map_eq_some_iff.1 h;rfl
  ·injection h with h;subst h;rfl
 ·injection h with h;subst h;rfl
theorem vW {ti:TI}{vs:List AV}{x:af}(ρ:Env)(h:oW ti vs=some x)(jL:vs.all (fun v=>v.parts.all AV.one&&Nat.beq v.parts.length ti.size)=true)(aF:AV.eb ρ vs):
 0<ti.size∧x.size=vs.length*ti.size∧∀k v,x.at k=some v→v.ok ρ∧((vs.map (AV.c ρ)).flatMap fun u=>u.cells.toList)[k]?=some (v.c ρ):=by
 have hp:∀v∈vs,v.parts.all AV.one=true∧v.parts.length=ti.size:=fun v hv=>by
  have:=List.all_eq_true.1 jL v hv
  simp only[Bool.and_eq_true]at this
  exact⟨this.1,Nat.eq_of_beq_eq_true this.2⟩
 have fX:∀v∈vs,(v.c ρ).cells.toList=AV.cl ρ v.parts:=fun v hv=>AV.oO ρ v (by rintro x rfl;have:=(hp _ hv).1;simp[AV.parts,AV.one]at this)
 have fb:∀u∈vs.map (AV.c ρ),u.cells.size=ti.size:=fun u hu=>by
  obtain⟨v,hv,rfl⟩:=List.mem_map.1 hu
  rw[←Array.length_toList,fX v hv,AV.bc,List.length_map,(hp v hv).2]
 have cY:0<ti.size:=by
  unfold oW at h
  split at h
  ·cases h
  ·omega
  ·rename_i h0 h1;exact Nat.pos_of_ne_zero (fun e=>h0 e)
 have key:∀k u p,vs[k/ti.size]?=some u→u.parts[k%ti.size]?=some p→p.ok ρ∧((vs.map (AV.c ρ)).flatMap fun u=>u.cells.toList)[k]?=some (p.c ρ):=by
  intro k u p hu hpp
  have hm:=List.mem_of_getElem? hu
  refine⟨(AV.aQ ρ _).1 (AV.nJ ((AV.aQ ρ _).1 aF u hm)) p (List.mem_of_getElem? hpp),?_⟩
  rw[Go.Great.flat_get cY _ fb,List.getElem?_map,hu]
  simp only[Option.map_some,Option.bind_some]
  rw[←Array.getElem?_toList,fX u hm,AV.bc,List.getElem?_map,hpp];rfl
 refine⟨cY,?_⟩
 unfold oW at h
 split at h
 ·cases h
 ·rename_i h1
  split at h
  ·rename_i k _
   simp only[Option.map_eq_some_iff]at h
   obtain⟨xs,Ay,rfl⟩:=h
   obtain⟨g1,g2⟩:=wb Ay
   refine⟨by simp[af.size,h1],fun j v hv=>?_⟩
   simp only[af.at]at hv
   rw[←g2 j]at hv
   refine key j v v (by simpa[h1]using hv) ?_
   rw[g2 j,Option.map_eq_some_iff]at hv
   obtain⟨z,_,rfl⟩:=hv
   simp[AV.parts,h1,Nat.mod_one]
  ·simp only[Option.map_eq_some_iff]at h
   obtain⟨xs,Ay,rfl⟩:=h
   obtain⟨g1,g2⟩:=tU ρ Ay
   refine⟨by simp[af.size,h1],fun j v hv=>?_⟩
   simp only[af.at,Option.map_eq_some_iff]at hv
   obtain⟨b,hb,rfl⟩:=hv
   obtain⟨u,hu,hc,hpu⟩:=g2 j b hb
   have:=key j u u (by simpa[h1]using hu) (by rw[hpu,h1];simp[Nat.mod_one])
   exact⟨trivial,by rw[this.2,hc];rfl⟩
  ·injection h with h;subst h
   have e:(vs.map (AV.c ρ)).flatMap (fun u=>u.cells.toList)=AV.cl ρ (vs.flatMap AV.parts):=by
    rw[AV.bc,List.flatMap_map,List.map_flatMap]
    have:∀l:List AV,(∀v∈l,(v.c ρ).cells.toList=AV.cl ρ v.parts)→l.flatMap (fun v=>(v.c ρ).cells.toList)=l.flatMap fun v=>v.parts.map (AV.c ρ):=by
     intro l hl
     induction l with
     |nil=>rfl
     |cons v l ih=>rw[List.flatMap_cons,List.flatMap_cons,hl v List.mem_cons_self,AV.bc,ih fun u hu=>hl u (List.mem_cons_of_mem _ hu)]
    exact this vs fX
   have WJ:(vs.flatMap AV.parts).length=vs.length:=by
    have:∀l:List AV,(∀v∈l,v.parts.length=1)→(l.flatMap AV.parts).length=l.length:=by
     intro l hl
     induction l with
     |nil=>rfl
     |cons v l ih=>simp[List.flatMap_cons,hl v List.mem_cons_self,ih fun u hu=>hl u (List.mem_cons_of_mem _ hu)];omega
    exact this vs fun v hv=>by rw[(hp v hv).2,h1]
   refine⟨by simp only[af.size,WJ,h1,Nat.mul_one],fun j v hv=>?_⟩
   have rS:(vs.flatMap AV.parts)[j]?=some v:=hv
   refine⟨?_,by rw[e,AV.bc,List.getElem?_map,rS];rfl⟩
   obtain⟨u,hu,hvu⟩:=List.mem_flatMap.1 (List.mem_of_getElem? rS)
   exact(AV.aQ ρ _).1 (AV.nJ ((AV.aQ ρ _).1 aF u hu)) v hvu
 ·injection h with h;subst h
  refine⟨rfl,fun j v hv=>?_⟩
  simp only[af.at]at hv
  split at hv
  ·rename_i bh
   have hd:j/ti.size<vs.length:=(Nat.div_lt_iff_lt_mul cY).2 bh
   have hu:vs[j/ti.size]?=some vs[j/ti.size]:=List.getElem?_eq_getElem hd
   rw[List.getD_eq_getElem?_getD,List.getElem?_map,hu]at hv
   exact key j _ v hu (by simpa using hv)
  ·cases hv
def fK (T:List TI)(M:AH)(t len:Nat)(idx:List Nat)(vs:List AV)(K:AV→AH→Prop):Prop:=
 match T[t]? with
 |some ⟨.slice el,_,_,_⟩=>match T[el]? with
  |some te=>bK (idx==List.range len&&Nat.beq vs.length len&&Nat.ble (len*te.size) 16777216&&Nat.beq te.zero.length te.size&&vs.all (fun v=>v.parts.all AV.one&&Nat.beq v.parts.length te.size)) (match oW te vs with
   |some x=>K (.sl M.length 0 0 len len) (M++[.one true 0 x])
   |none=>False)
  |none=>False
 |_=>False
theorem nY {s:Nat}:∀(l:List Value),(∀u∈l,u.cells.size=s)→(l.flatMap fun u=>u.cells.toList).length=l.length*s
 |[],_=>by simp
 |u::l,h=>by
  rw[List.flatMap_cons,List.length_append,nY l fun v hv=>h v (List.mem_cons_of_mem _ hv),List.length_cons,Nat.add_mul,Array.length_toList,h u List.mem_cons_self]
  omega
theorem rO {P:Program}{T:List TI}(hT:av P T){M:AH}{t len:Nat}{idx:List Nat}{vs:List AV}{K:AV→AH→Prop}{ρ:Env}{w:World}(hs:aW ρ M w)(aF:AV.eb ρ vs)
 (h:fK T M t len idx vs K):∃r M' ρ' w',(Instr.buildSlice t len (idx.zip (vs.map (AV.c ρ))).toArray).run P w=.ok (r.c ρ') w'∧K r M'∧r.ok ρ'∧aW ρ' M' w'∧Ext ρ M w ρ' M' w':=by
 unfold fK at h
 split at h
 ·rename_i el s1 s2 s3 ht
  obtain⟨d,hd,fj⟩:=hT.gY ht
  obtain rfl:=aR fj
  split at h
  ·rename_i te sS
   replace h:=aw h
   obtain⟨hb,h⟩:=h
   simp only[Bool.and_eq_true,beq_iff_eq]at hb
   obtain⟨⟨⟨⟨T8,hlen⟩,Ve⟩,Ep⟩,hall⟩:=hb
   have LP:vs.length=len:=Nat.eq_of_beq_eq_true hlen
   have Ux:len*te.size≤16777216:=by simpa using Ve
   have Lz:te.zero.length=te.size:=Nat.eq_of_beq_eq_true Ep
   split at h
   ·rename_i x hx
    obtain⟨cY,fb,gn⟩:=vW ρ hx hall aF
    obtain⟨d2,ie,z,e1,e2,e3,rfl⟩:=hT.get sS
    simp only at cY fb Ux Lz hall
    have xj:∀u∈vs.map (AV.c ρ),u.cells.size=ie.size:=fun u hu=>by
     obtain⟨v,hv,rfl⟩:=List.mem_map.1 hu
     have:=List.all_eq_true.1 hall v hv
     simp only[Bool.and_eq_true]at this
     rw[←Array.length_toList,AV.oO ρ v (by rintro y rfl;have:=this.1;simp[AV.parts,AV.one]at this),AV.bc,List.length_map]
     exact Nat.eq_of_beq_eq_true this.2
    have dk:z.cells.size=ie.size:=by simpa using Lz
    subst LP
    have Tw:(idx.zip (vs.map (AV.c ρ)))=((vs.map (AV.c ρ)).zipIdx 0).map fun x=>(x.2,x.1):=by
     subst T8
     apply List.ext_getElem?
     intro j
     simp only[List.getElem?_map,List.getElem?_zipIdx,List.getElem?_zip_eq_some]
     by_cases hj:j<vs.length
     ·simp[List.zip,hj]
     ·simp[List.zip,hj,List.getElem?_eq_none (Nat.le_of_not_lt hj)]
    have TD:=fun c0=>Go.Great.fill_whole cY (vs.map (AV.c ρ)) c0 xj
    have y9:=nY (vs.map (AV.c ρ)) xj
    rw[List.length_map]at y9
    obtain⟨h1,h2⟩:=eM (x:=x) (c:=((vs.map (AV.c ρ)).flatMap fun u=>u.cells.toList).toArray) (e:=el) hs rfl rfl rfl rfl
     (by rw[fb,List.size_toArray,y9];exact Nat.le_refl _) (fun k v hv=>by have:=gn k v hv;exact⟨this.1,by simpa using this.2⟩) (tH (by assumption))
    by_cases Rc:vs.length=0
    ·have:vs=[]:=List.eq_nil_of_length_eq_zero Rc
     subst this
     refine⟨_,_,_,_,?_,h,dW.2,h1,h2⟩
     rw[dW.1]
     simp[Instr.buildSlice,run_underlying hd,sizeOf,typeInfo,e2,newRow,Instr.fill]
     have:(Array.map (fun _=>(default:Value)) (Array.range 0))=#[]:=by apply Array.eq_empty_of_size_eq_zero;simp
     rw[this]
    ·have LZ:=TD ((Array.range (vs.length*ie.size)).map (z.cells[·%z.cells.size]!)) (by simp)
     have aN:=run_buildSlice (P:=P) w t el vs.length (idx.zip (vs.map (AV.c ρ))).toArray _ ie z hd e2 e3 (by omega) (by
      intro h0
      rcases Nat.mul_eq_zero.1 h0 with h0|h0
      ·exact Rc h0
      ·omega) (by rw[List.toList_toArray,Tw];exact LZ)
     exact⟨_,_,_,_,by rw[dW.1];exact aN,h,dW.2,h1,h2⟩
   ·exact h.elim
  ·exact h.elim
 ·exact h.elim
def nO (ti:TI)(len cap:Nat):Option af:=
 match ti.size,ti.k,ti.zero with
 |1,.int k,[.int k' 0]=>match lY k k' with
  |true=>some (.ints k (List.replicate len 0) cap)
  |false=>none
 |1,.bool,[.ff]=>some (.ax (List.replicate len false) cap)
 |s,_,z=>match Nat.beq z.length s,Nat.blt 0 s with
  |true,true=>some (.cw s len (fun _=>z) cap)
  |_,_=>none
theorem rD {ti:TI}{len cap:Nat}{x:af}(h:nO ti len cap=some x):x.row=true:=by
 unfold nO at h
 split at h
 ·split at h
  ·injection h with h;subst h;rfl
  ·cases h
 ·injection h with h;subst h;rfl
 ·split at h
  ·injection h with h;subst h;rfl
  ·cases h
theorem G6 {α:Type}{n j:Nat}{a z:α}(h:(List.replicate n a)[j]?=some z):j<n∧a=z:=by
 rw[List.getElem?_replicate]at h
 split at h
 ·exact⟨‹_›,Option.some.inj h⟩
 ·cases h
theorem tE {ti:TI}{len cap:Nat}{x:af}(h:nO ti len cap=some x)(tM:len≤cap):
 0<ti.size∧ti.zero.length=ti.size∧x.size=cap*ti.size∧∀k v,x.at k=some v→k<cap*ti.size∧(∃u,ti.zero[k%ti.size]?=some u∧∀ρ,u.c ρ=v.c ρ∧(u.ok ρ→v.ok ρ)):=by
 unfold nO at h
 split at h
 ·rename_i k k' h1 h2 h3
  split at h
  ·rename_i hk
   injection h with h;subst h
   refine⟨by omega,by rw[h1,h3];rfl,by simp[af.size,h1],fun j v hv=>?_⟩
   simp only[af.at,Option.map_eq_some_iff]at hv
   obtain⟨z,hz,rfl⟩:=hv
   obtain⟨hj,rfl⟩:=G6 hz
   refine⟨by rw[h1];omega,.int k' 0,by simp[h1,h3,Nat.mod_one],fun ρ=>⟨by rw[fE hk],fun _=>trivial⟩⟩
  ·cases h
 ·rename_i h1 h2 h3
  injection h with h;subst h
  refine⟨by omega,by rw[h1,h3];rfl,by simp[af.size,h1],fun j v hv=>?_⟩
  simp only[af.at,Option.map_eq_some_iff]at hv
  obtain⟨z,hz,rfl⟩:=hv
  obtain⟨hj,rfl⟩:=G6 hz
  exact⟨by rw[h1];omega,.ff,by simp[h1,h3,Nat.mod_one],fun ρ=>⟨rfl,fun _=>trivial⟩⟩
 ·split at h
  ·rename_i hz hs
   injection h with h;subst h
   have Q0:ti.zero.length=ti.size:=Nat.eq_of_beq_eq_true hz
   have xL:0<ti.size:=by simpa using hs
   refine⟨xL,Q0,rfl,fun j v hv=>?_⟩
   simp only[af.at]at hv
   split at hv
   ·exact⟨Nat.lt_of_lt_of_le ‹_› (Nat.mul_le_mul_right _ tM),v,hv,fun ρ=>⟨rfl,id⟩⟩
   ·cases hv
  ·cases h
def gM (T:List TI)(M:AH)(t:Nat)(l c:AV)(K:AV→AH→Prop):Prop:=
 match l,c with
 | .int _ l,.int _ c=>match T[t]? with
   |some ⟨.slice el,_,_,_⟩=>match T[el]? with
    |some te=>(0≤l∧l≤c∧(te.bytes:Int)*c≤140737488355328∧c≤140737488355328)∧match nO te l.toNat c.toNat with
     |some x=>K (.sl M.length 0 0 l.toNat c.toNat) (M++[.one true 0 x])
     |none=>False
    |none=>False
   |_=>False
 |_,_=>False
theorem sJ {P:Program}{T:List TI}(hT:av P T){M:AH}{t:Nat}{l c:AV}{K:AV→AH→Prop}{ρ:Env}{w:World}(hs:aW ρ M w)
 (h:gM T M t l c K):∃r M' ρ' w',(Instr.makeSlice t (l.c ρ) (c.c ρ)).run P w=.ok (r.c ρ') w'∧K r M'∧r.ok ρ'∧aW ρ' M' w'∧Ext ρ M w ρ' M' w':=by
 unfold gM at h
 split at h
 ·rename_i kl l kc c
  split at h
  ·rename_i el s1 s2 s3 ht
   obtain⟨d,hd,fj⟩:=hT.gY ht
   obtain rfl:=aR fj
   split at h
   ·rename_i te sS
    obtain⟨⟨h0,tM,hb,Uv⟩,h⟩:=h
    split at h
    ·rename_i x hx
     obtain⟨cY,Ep,fb,gn⟩:=tE hx (by omega)
     have Ax:=hT.ou sS ρ
     obtain⟨d2,ie,z,e1,e2,e3,rfl⟩:=hT.get sS
     simp only at cY Ep fb gn hb Ax
     have dk:z.cells.size=ie.size:=by simpa using Ep
     have aN:=run_make (P:=P) w t el ie z hd e2 e3 kl kc l c h0 tM (by omega) (by omega)
     obtain⟨h1,h2⟩:=eM (x:=x) (c:=madeCells z.cells (c.toNat*ie.size)) (e:=el) hs rfl rfl rfl rfl (by rw[fb,size_madeCells];exact Nat.le_refl _) (fun k v hv=>by
      obtain⟨hk,u,hu,hc⟩:=gn k v hv
      refine⟨(hc ρ).2 ((AV.aQ ρ _).1 Ax u (List.mem_of_getElem? hu)),?_⟩
      have hm:k%ie.size<z.cells.size:=by rw[dk];exact Nat.mod_lt _ cY
      have Z5:IQ z.cells[k%ie.size]=u:=by
       rw[List.getElem?_map,Array.getElem?_toList,Array.getElem?_eq_getElem hm]at hu
       simpa using hu
      rw[←(hc ρ).1,←Z5,rz]
      simp only[madeCells,Array.getElem?_map,Array.getElem?_range,hk,if_true,Option.map_some,dk]
      rw[getElem!_pos z.cells _ hm]) (rD (by assumption))
     exact⟨_,_,_,_,by rw[dW.1];exact aN,h,dW.2,h1,h2⟩
    ·exact h.elim
   ·exact h.elim
  ·exact h.elim
 ·exact h.elim
end Go.Proofs.Ytibadaomjlkoaaa
open Go.RowKit
namespace Go.Proofs.Ytibadaomjlkoaaa
section
variable{P:Program}{T:List TI}{ρ:Env}{M:AH}{w:World}
theorem iJ {t tx ty e:TypeId}{i:TypeInfo}(ht:P.underlying t=some (.slice e))(hi:P.info? e=some i){x:Value}{news:List Value}(hs:Src P i.size tx x 0 news w):
 (Builtin.append_ #[t,tx] ty #[.slice none 0 0,x]).run P w=.ok (.slice none 0 0) w:=by
 rcases hs.kind with⟨e',hk⟩|hk<;>simp[Builtin.append_,run_underlying ht,run_underlying hk,sizeOf,typeInfo,hi,hs.len,hs.cells]
theorem pJ {t tx ty e:TypeId}{i:TypeInfo}(ht:P.underlying t=some (.slice e))(hi:P.info? e=some i){b off n c m:Nat}{x:Value}{news:List Value}(hs:Src P i.size tx x m news w)(wk:n+m≤c)
 {cur:Array Value}{e':TypeId}(hb:w.heap[b]?=some (.cells cur e' (0,0)))(gR:off+n*i.size+news.length≤cur.size):
 (Builtin.append_ #[t,tx] ty #[.slice (some ⟨b,off,none⟩) n c,x]).run P w=.ok (.slice (some ⟨b,off,none⟩) (n+m) c)
  (w.setRow b (cur.toList.take (off+n*i.size)++news++cur.toList.drop (off+n*i.size+news.length)).toArray):=by
 have a8:=run_storeCells_at P b (off+n*i.size) e' news 0 cur w hb (by omega) hs.one
 simp only[Nat.add_zero]at a8
 rcases hs.kind with⟨e',hk⟩|hk<;>simp[Builtin.append_,run_underlying ht,run_underlying hk,sizeOf,typeInfo,hi,hs.len,wk,hs.cells,cn,a8]
theorem nW {cs:List Value}{z:Array Value}{k sz c:Nat}(hz:z.size=sz)(hl:cs.length=k*sz)(hk:k≤c):c*sz≤(cs.toArray++Builtin.zeroCells z (c-k)).size:=by
 simp only[Array.size_append,List.size_toArray,size_zeroCells,hz,hl,←Nat.add_mul]
 exact Nat.mul_le_mul_right _ (by omega)
theorem pg {cs:List Value}{z:Array Value}{j:Nat}{v:Value}(h:cs[j]?=some v):(cs.toArray++z)[j]?=some v:=by
 have:=(List.getElem?_eq_some_iff.1 h).1
 rw[Array.getElem?_append_left (by simpa using this)]
 simpa using h
theorem qC (hs:aW ρ M w){t tx ty e:TypeId}{ie:TypeInfo}{z:Value}(ht:P.underlying t=some (.slice e))(hi:P.info? e=some ie)(hz:ie.zero=some z)(dk:z.cells.size=ie.size)
 {x:Value}{m:Nat}{news:List Value}(eU:Src P ie.size tx x m news w)(hb:m*ie.bytes≤140737488355328)(Uv:(m:Int)≤9223372036854775807)
 (xc:Nat→af)(fb:∀c,(xc c).size=c*ie.size)(gn:∀c k v,(xc c).at k=some v→v.ok ρ∧news[k]?=some (v.c ρ))(hv:m=0→(xc 0).b9)(sQ:∀c,(xc c).row=true:=by intros;rfl):
 ∃c,m≤c∧∃ρ' w',(Builtin.append_ #[t,tx] ty #[.slice none 0 0,x]).run P w=.ok ((AV.sl M.length 0 0 m c).c ρ') w'∧(AV.sl M.length 0 0 m c).ok ρ'∧
  aW ρ' (M++[.one true 0 (xc c)]) w'∧Ext ρ M w ρ' (M++[.one true 0 (xc c)]) w':=by
 by_cases hm:m=0
 ·subst hm
  obtain⟨h1,h2⟩:=hJ (x:=xc 0) (l:=none) (w':=w) hs (fun _ _=>rfl) (Nat.le_refl _) rfl rfl rfl (.inr ⟨rfl,hv rfl⟩)
  refine⟨0,Nat.le_refl _,_,w,?_,?_,h1,h2⟩
  ·rw[iJ ht hi eU];simp[AV.c,ay]
  ·simp[AV.ok,ay]
 ·have aN:=run_append_grow_src (P:=P) w t tx ty e ie z ht hi hz none 0 0 [] (by simp[Builtin.firstCells]) x m news eU (by omega) (by omega) (growslice_fits (by omega) (by rw[Nat.zero_add];exact hb))
  simp only[List.nil_append,Nat.zero_add]at aN
  have hc:=grownCap_ge w m 0 e
  obtain⟨h1,h2⟩:=eM (x:=xc (grownCap w m 0 e)) (w1:=w.drew) (c:=news.toArray++Builtin.zeroCells z.cells (grownCap w m 0 e-m)) (e:=e) hs rfl rfl rfl rfl
   (by rw[fb];exact nW dk eU.newsLen hc) (fun k v hv=>by obtain⟨a,b⟩:=gn _ k v hv;exact⟨a,pg b⟩) (sQ _)
  exact⟨_,hc,_,_,by rw[dW.1];exact aN,dW.2,h1,h2⟩
theorem qB (hs:aW ρ M w){t tx ty e:TypeId}{ie:TypeInfo}{z:Value}(ht:P.underlying t=some (.slice e))(hi:P.info? e=some ie)(hz:ie.zero=some z)(dk:z.cells.size=ie.size)
 {x:Value}{m:Nat}{news:List Value}(eU:Src P ie.size tx x m news w){i g n c co:Nat}{xo:af}(hm:M[i]?=some (.one true g xo))(Wf:xo.size=co*ie.size)(hn:n≤co)(wu:c≤co)(Wg:xo.b9→co=0)
 (hb:(n+m)*ie.bytes≤140737488355328)(Uv:((n+m:Nat):Int)≤9223372036854775807)
 (xc:Nat→af)(fb:∀c,(xc c).size=c*ie.size)(gn:∀c k v,(xc c).at k=some v→(k<n*ie.size∧xo.at k=some v)∨(n*ie.size≤k∧v.ok ρ∧news[k-n*ie.size]?=some (v.c ρ)))
 (hv:n=0→m=0→(xc 0).b9)(aF:(AV.sl i g 0 n c).ok ρ)(sQ:∀c,(xc c).row=true:=by intros;rfl)(Ty:xo.row=true:=by rfl):
 ∃c',n+m≤c'∧∃ρ' w',(Builtin.append_ #[t,tx] ty #[(AV.sl i g 0 n c).c ρ,x]).run P w=.ok ((AV.sl i (g+1) 0 (n+m) c').c ρ') w'∧(AV.sl i (g+1) 0 (n+m) c').ok ρ'∧
  aW ρ' (M.set i (.one true (g+1) (xc c'))) w'∧Ext ρ M w ρ' (M.set i (.one true (g+1) (xc c'))) w':=by
 have ku:(ρ i (g+1)).isSome=false:=by
  cases hh:(ρ i (g+1)).isSome with
  |false=>rfl
  |true=>exact absurd (hs.tag i _ true g xo hm hh) (by omega)
 have grow:∀(base:Option Addr)(px:List Value),(AV.sl i g 0 n c).c ρ=.slice base n c→c<n+m→px.length=n*ie.size→(Builtin.firstCells ie.size n (.slice base n c)).run P w.drew=.ok px.toArray w.drew→
  (∀k v,xo.at k=some v→k<n*ie.size→v.ok ρ∧px[k]?=some (v.c ρ))→
  ∃c',n+m≤c'∧∃ρ' w',(Builtin.append_ #[t,tx] ty #[(AV.sl i g 0 n c).c ρ,x]).run P w=.ok ((AV.sl i (g+1) 0 (n+m) c').c ρ') w'∧(AV.sl i (g+1) 0 (n+m) c').ok ρ'∧
  aW ρ' (M.set i (.one true (g+1) (xc c'))) w'∧Ext ρ M w ρ' (M.set i (.one true (g+1) (xc c'))) w':=by
  intro base px jN bh Ds hold TU
  have aN:=run_append_grow_src (P:=P) w t tx ty e ie z ht hi hz base n c px hold x m news eU bh Uv (growslice_fits bh hb)
  have hc:=grownCap_ge w (n+m) c e
  have hlen:(px++news).length=(n+m)*ie.size:=by rw[List.length_append,Ds,eU.newsLen,Nat.add_mul]
  obtain⟨h1,h2⟩:=se (x':=xc (grownCap w (n+m) c e)) (l:=some (w.heap.size,0)) (w':=w.drew.alloc (.cells ((px++news).toArray++Builtin.zeroCells z.cells (grownCap w (n+m) c e-(n+m))) e)) hs hm
   (fun b hb _=>Below.heap_alloc w.drew _ b hb) (by simp) rfl rfl rfl (.inl ⟨w.heap.size,0,rfl,.inl (Nat.le_refl _),.mk' (sQ _) ⟨_,e,(0,0),heap_alloc_new w.drew _,by rw[fb,Nat.zero_add];exact nW dk hlen hc,fun k v hv=>by
    have key:v.ok ρ∧(px++news)[k]?=some (v.c ρ):=by
     rcases gn _ k v hv with⟨a,b⟩|⟨a,b,c⟩
     ·obtain⟨h1,h2⟩:=TU k v b a
      exact⟨h1,by rw[List.getElem?_append_left (by rw[Ds];exact a)];exact h2⟩
     ·exact⟨b,by rw[List.getElem?_append_right (by rw[Ds];exact a),Ds];exact c⟩
    exact⟨AV.cW (dI ku) v key.1,by rw[AV.dr (dI ku) v key.1,Nat.zero_add];exact pg key.2⟩,fun _=>rfl⟩⟩)
  exact⟨_,hc,_,_,by rw[jN,dW.1];exact aN,dW.2,h1,h2⟩
 rcases hs.holds i g true xo (ao hm)with⟨q,hq,hh⟩|⟨hq,TG⟩
 ·obtain⟨cur,e',fr,h1,h2,h3,h4⟩:=hh.out Ty
  obtain rfl:=h4 rfl
  have jN:(AV.sl i g 0 n c).c ρ=.slice (some ⟨q.1,q.2,none⟩) n c:=by simp[AV.c,hq]
  rw[Wf]at h2
  have hnc:n*ie.size≤co*ie.size:=Nat.mul_le_mul_right _ hn
  by_cases wk:n+m≤c
  ·have hcc:(n+m)*ie.size≤co*ie.size:=Nat.mul_le_mul_right _ (by omega)
   have aau:c*ie.size≤co*ie.size:=Nat.mul_le_mul_right _ wu
   rw[Nat.add_mul]at hcc
   have gR:q.2+n*ie.size+news.length≤cur.size:=by rw[eU.newsLen];omega
   have aN:=pJ (ty:=ty) ht hi eU wk (off:=q.2) h1 gR
   have hl:(cur.toList.take (q.2+n*ie.size)++news++cur.toList.drop (q.2+n*ie.size+news.length)).toArray.size=cur.size:=by
    simp only[List.size_toArray,List.length_append,List.length_take,List.length_drop,Array.length_toList];omega
   obtain⟨g1,g2⟩:=se (x':=xc c) (l:=some (q.1,q.2)) (w':=w.setRow q.1 (cur.toList.take (q.2+n*ie.size)++news++cur.toList.drop (q.2+n*ie.size+news.length)).toArray) hs hm
    (fun b _ hb=>kF _ _ _ _ (fun e=>hb q hq e.symm)) (Nat.le_of_eq (lW _ _ _).symm) rfl rfl rfl (.inl ⟨q.1,q.2,rfl,.inr ⟨q,hq,rfl⟩,.mk' (sQ _) ⟨_,e',(0,0),lX _ _ _ _ _ _ h1,by rw[hl,fb];omega,fun k v hv=>by
     have key:v.ok ρ∧((cur.toList.take (q.2+n*ie.size)++news++cur.toList.drop (q.2+n*ie.size+news.length)).toArray)[q.2+k]?=some (v.c ρ):=by
      rw[Aa _ _ _ gR]
      rcases gn _ k v hv with⟨a,b⟩|⟨a,b,c⟩
      ·rw[if_neg (by omega)];exact h3 k v b
      ·have:=(List.getElem?_eq_some_iff.1 c).1
       rw[if_pos (by omega),show q.2+k-(q.2+n*ie.size)=k-n*ie.size from by omega]
       exact⟨b,c⟩
     exact⟨AV.cW (dI ku) v key.1,by rw[AV.dr (dI ku) v key.1];exact key.2⟩,fun _=>rfl⟩⟩)
   exact⟨c,wk,_,_,by rw[jN,aN];simp[AV.c,ay],by simp[AV.ok,ay],g1,g2⟩
  ·refine grow _ ((cur.toList.drop q.2).take (n*ie.size)) jN (by omega) (by simp;omega) ?_ ?_
   ·refine run_firstCells_some w.drew ie.size n ⟨q.1,q.2,none⟩ n c _ (by simp;omega) fun j v hv=>?_
    simp only[List.getElem?_take,List.getElem?_drop]at hv
    split at hv
    ·rw[cn,World.cell?_drew,cell_of_row w q.1 (q.2+j) cur e' (0,0) h1]
     simpa using hv
    ·cases hv
   ·intro k v hv hk
    obtain⟨a,b⟩:=h3 k v hv
    exact⟨a,by simp only[List.getElem?_take,List.getElem?_drop,if_pos hk];simpa using b⟩
 ·have h0:=Wg TG
  have Ra:n=0:=by omega
  have xk:c=0:=by omega
  subst Ra;subst xk
  have jN:(AV.sl i g 0 0 0).c ρ=.slice none 0 0:=by simp[AV.c,hq]
  by_cases Jj:m=0
  ·subst Jj
   obtain⟨g1,g2⟩:=se (x':=xc 0) (l:=none) (w':=w) hs hm (fun _ _ _=>rfl) (Nat.le_refl _) rfl rfl rfl (.inr ⟨rfl,hv rfl rfl⟩)
   exact⟨0,Nat.le_refl _,_,w,by rw[jN,iJ ht hi eU];simp[AV.c,ay],by simp[AV.ok,ay],g1,g2⟩
  ·exact grow none [] jN (by omega) (by simp) (by simp[Builtin.firstCells]) (fun k v _ hk=>by simp at hk)
end
theorem yj {M:AH}{i:Nat}{f:Nat→af}(hm:M[i]?=some (.aX true 1 f))(j g:Nat):slot (M.set i (.one true 0 (f 0))) j g=slot M j g:=by
 have bh:i<M.length:=(List.getElem?_eq_some_iff.1 hm).1
 unfold slot
 by_cases h:j=i
 ·subst h
  rw[List.getElem?_set_self bh,hm]
  simp only[bq]
  by_cases hg:g=0
  ·subst hg;simp
  ·rw[if_neg hg,if_neg (by omega)]
 ·rw[List.getElem?_set_ne (Ne.symm h)]
theorem sb {M:AH}{i:Nat}{x:af}(hm:M[i]?=some (.one true 0 x))(j g:Nat):slot (M.set i (.aX true 1 (fun _=>x))) j g=slot M j g:=by
 have bh:i<M.length:=(List.getElem?_eq_some_iff.1 hm).1
 unfold slot
 by_cases h:j=i
 ·subst h
  rw[List.getElem?_set_self bh,hm]
  simp only[bq]
  by_cases hg:g=0
  ·subst hg;simp
  ·rw[if_neg hg,if_neg (by omega)]
 ·rw[List.getElem?_set_ne (Ne.symm h)]
theorem Kw {ρ:Env}{M:AH}{w:World}{i:Nat}{f:Nat→af}(h:aW ρ M w)(hm:M[i]?=some (.aX true 1 f)):aW ρ (M.set i (.one true 0 (f 0))) w:=by
 have bh:i<M.length:=(List.getElem?_eq_some_iff.1 hm).1
 have e:=yj hm
 refine⟨fun j g hj=>by rw[List.length_set];exact h.pr j g hj,?_,?_,?_,?_⟩
 ·intro j g own g' x hj hs
  by_cases gQ:j=i
  ·subst gQ
   rw[List.getElem?_set_self bh]at hj
   injection hj with hj;injection hj with _ e2 _;subst e2
   have:=h.aX j g true 1 f hm hs;omega
  ·rw[List.getElem?_set_ne (Ne.symm gQ)]at hj;exact h.tag j g own g' x hj hs
 ·intro j g own m x hj hs
  by_cases gQ:j=i
  ·subst gQ
   rw[List.getElem?_set_self bh]at hj;cases hj
  ·rw[List.getElem?_set_ne (Ne.symm gQ)]at hj;exact h.aX j g own m x hj hs
 ·intro j g own x de;exact h.holds j g own x (by rw[←e];exact de)
 ·intro a b c a' b' c' d' q q' h1 h2;exact h.apart a b c a' b' c' d' q q' (by rw[←e];exact h1) (by rw[←e];exact h2)
theorem BR {ρ:Env}{M:AH}{w:World}{i:Nat}{x:af}(h:aW ρ M w)(hm:M[i]?=some (.one true 0 x)):aW ρ (M.set i (.aX true 1 (fun _=>x))) w:=by
 have bh:i<M.length:=(List.getElem?_eq_some_iff.1 hm).1
 have e:=sb hm
 refine⟨fun j g hj=>by rw[List.length_set];exact h.pr j g hj,?_,?_,?_,?_⟩
 ·intro j g own g' y hj hs
  by_cases gQ:j=i
  ·subst gQ
   rw[List.getElem?_set_self bh]at hj;cases hj
  ·rw[List.getElem?_set_ne (Ne.symm gQ)]at hj;exact h.tag j g own g' y hj hs
 ·intro j g own m y hj hs
  by_cases gQ:j=i
  ·subst gQ
   rw[List.getElem?_set_self bh]at hj
   injection hj with hj;injection hj with _ e2 _;subst e2
   have:=h.tag j g true 0 x hm hs;omega
  ·rw[List.getElem?_set_ne (Ne.symm gQ)]at hj;exact h.aX j g own m y hj hs
 ·intro j g own y de;exact h.holds j g own y (by rw[←e];exact de)
 ·intro a b c a' b' c' d' q q' h1 h2;exact h.apart a b c a' b' c' d' q q' (by rw[←e];exact h1) (by rw[←e];exact h2)
theorem CO {ρ ρ':Env}{M M1 N N1:AH}{w w':World}(h:Ext ρ M1 w ρ' N1 w')(e:∀j g,slot M1 j g=slot M j g)(e':∀j g,slot N j g=slot N1 j g):Ext ρ M w ρ' N w':=
 ⟨h.env,h.size,fun b hb hn=>h.frame b hb fun i g x q h1 h2=>hn i g x q (by rw[←e];exact h1) h2,fun i g x q h1 h2 hb=>by
  obtain⟨a,b,c,d,k1,k2,k3⟩:=h.fresh i g x q (by rw[←e'];exact h1) h2 hb
  exact⟨a,b,c,d,by rw[←e];exact k1,k2,k3⟩,h.os,h.tape,h.output⟩
section
variable{P:Program}{T:List TI}{ρ:Env}{M:AH}{w:World}
theorem Dc (hs:aW ρ M w){t tx ty e:TypeId}{ie:TypeInfo}{z:Value}(ht:P.underlying t=some (.slice e))(hi:P.info? e=some ie)(hz:ie.zero=some z)(dk:z.cells.size=ie.size)
 {x:Value}{m:Nat}{news:List Value}(eU:Src P ie.size tx x m news w){i n c co:Nat}{f:Nat→af}(hm:M[i]?=some (.aX true 1 f))(Wf:(f 0).size=co*ie.size)(hn:n≤co)(wu:c≤co)(Wg:(f 0).b9→co=0)
 (hb:(n+m)*ie.bytes≤140737488355328)(Uv:((n+m:Nat):Int)≤9223372036854775807)
 (xc:Nat→af)(fb:∀c,(xc c).size=c*ie.size)(gn:∀c k v,(xc c).at k=some v→(k<n*ie.size∧(f 0).at k=some v)∨(n*ie.size≤k∧v.ok ρ∧news[k-n*ie.size]?=some (v.c ρ)))
 (hv:n=0→m=0→(xc 0).b9)(sQ:∀c,(xc c).row=true)(Ty:(f 0).row=true):
 (n+m≤c∧∃w',(Builtin.append_ #[t,tx] ty #[(AV.sl i 0 0 n c).c ρ,x]).run P w=.ok ((AV.sl i 0 0 (n+m) c).c ρ) w'∧aW ρ (M.set i (.aX true 1 (fun _=>xc co))) w'∧Ext ρ M w ρ (M.set i (.aX true 1 (fun _=>xc co))) w')∨
 (c<n+m∧∃c',n+m≤c'∧∃ρ' w',(Builtin.append_ #[t,tx] ty #[(AV.sl i 0 0 n c).c ρ,x]).run P w=.ok ((AV.sl M.length 0 0 (n+m) c').c ρ') w'∧(AV.sl M.length 0 0 (n+m) c').ok ρ'∧
  aW ρ' (M++[.one true 0 (xc c')]) w'∧Ext ρ M w ρ' (M++[.one true 0 (xc c')]) w'):=by
 have bh:i<M.length:=(List.getElem?_eq_some_iff.1 hm).1
 have Z8:slot M i 0=some (true,f 0):=by unfold slot;rw[hm];rfl
 have grow:∀(base:Option Addr)(px:List Value),(AV.sl i 0 0 n c).c ρ=.slice base n c→c<n+m→px.length=n*ie.size→(Builtin.firstCells ie.size n (.slice base n c)).run P w.drew=.ok px.toArray w.drew→
  (∀k v,(f 0).at k=some v→k<n*ie.size→v.ok ρ∧px[k]?=some (v.c ρ))→
  ∃c',n+m≤c'∧∃ρ' w',(Builtin.append_ #[t,tx] ty #[(AV.sl i 0 0 n c).c ρ,x]).run P w=.ok ((AV.sl M.length 0 0 (n+m) c').c ρ') w'∧(AV.sl M.length 0 0 (n+m) c').ok ρ'∧
  aW ρ' (M++[.one true 0 (xc c')]) w'∧Ext ρ M w ρ' (M++[.one true 0 (xc c')]) w':=by
  intro base px jN EC Ds hold TU
  have aN:=run_append_grow_src (P:=P) w t tx ty e ie z ht hi hz base n c px hold x m news eU EC Uv (growslice_fits EC hb)
  have hc:=grownCap_ge w (n+m) c e
  have hlen:(px++news).length=(n+m)*ie.size:=by rw[List.length_append,Ds,eU.newsLen,Nat.add_mul]
  obtain⟨h1,h2⟩:=eM (x:=xc (grownCap w (n+m) c e)) (w1:=w.drew) (c:=(px++news).toArray++Builtin.zeroCells z.cells (grownCap w (n+m) c e-(n+m))) (e:=e) hs rfl rfl rfl rfl
   (by rw[fb];exact nW dk hlen hc) (fun k v hv=>by
    rcases gn _ k v hv with⟨a,b⟩|⟨a,b,c⟩
    ·obtain⟨h1,h2⟩:=TU k v b a
     exact⟨h1,pg (by rw[List.getElem?_append_left (by rw[Ds];exact a)];exact h2)⟩
    ·exact⟨b,pg (by rw[List.getElem?_append_right (by rw[Ds];exact a),Ds];exact c)⟩) (sQ _)
  exact⟨_,hc,_,_,by rw[jN,dW.1];exact aN,dW.2,h1,h2⟩
 have fW:=Kw hs hm
 have TY:(M.set i (.one true 0 (f 0)))[i]?=some (.one true 0 (f 0)):=List.getElem?_set_self bh
 have back:∀{w'},aW ρ ((M.set i (.one true 0 (f 0))).set i (.one true 0 (xc co))) w'→Ext ρ (M.set i (.one true 0 (f 0))) w ρ ((M.set i (.one true 0 (f 0))).set i (.one true 0 (xc co))) w'→
  aW ρ (M.set i (.aX true 1 (fun _=>xc co))) w'∧Ext ρ M w ρ (M.set i (.aX true 1 (fun _=>xc co))) w':=by
  intro w' a b
  rw[List.set_set]at a b
  have hq:(M.set i (AO.one true 0 (xc co)))[i]?=some (.one true 0 (xc co)):=List.getElem?_set_self bh
  have c:=BR a hq
  have d:=sb hq
  rw[List.set_set]at c d
  exact⟨c,CO b (yj hm) d⟩
 rcases hs.holds i 0 true (f 0) Z8 with⟨q,hq,hh⟩|⟨hq,TG⟩
 ·obtain⟨cur,e',fr,h1,h2,h3,h4⟩:=hh.out Ty
  obtain rfl:=h4 rfl
  have jN:(AV.sl i 0 0 n c).c ρ=.slice (some ⟨q.1,q.2,none⟩) n c:=by simp[AV.c,hq]
  rw[Wf]at h2
  have hnc:n*ie.size≤co*ie.size:=Nat.mul_le_mul_right _ hn
  by_cases wk:n+m≤c
  ·left
   have hcc:(n+m)*ie.size≤co*ie.size:=Nat.mul_le_mul_right _ (by omega)
   have aau:c*ie.size≤co*ie.size:=Nat.mul_le_mul_right _ wu
   rw[Nat.add_mul]at hcc
   have gR:q.2+n*ie.size+news.length≤cur.size:=by rw[eU.newsLen];omega
   have aN:=pJ (ty:=ty) ht hi eU wk (off:=q.2) h1 gR
   have hl:(cur.toList.take (q.2+n*ie.size)++news++cur.toList.drop (q.2+n*ie.size+news.length)).toArray.size=cur.size:=by
    simp only[List.size_toArray,List.length_append,List.length_take,List.length_drop,Array.length_toList];omega
   obtain⟨g1,g2⟩:=lV (i:=i) (g:=0) (x':=xc co) (ρ':=ρ) (M':=(M.set i (.one true 0 (f 0))).set i (.one true 0 (xc co))) (w':=w.setRow q.1 (cur.toList.take (q.2+n*ie.size)++news++cur.toList.drop (q.2+n*ie.size+news.length)).toArray) fW
    (by simp) (fun i' eN=>by rw[List.getElem?_set_ne (Ne.symm eN)]) (by simp[bh]) (fun _ _ _ h=>h) (fun _ _ h=>.inl h) (fun g' hg=>fW.tag i g' true 0 _ TY hg)
    (fun b _ hb=>kF _ _ _ _ (fun e=>hb 0 _ q (ao TY) hq e.symm)) (Nat.le_of_eq (lW _ _ _).symm) rfl rfl rfl (.inl ⟨q,hq,.mk' (sQ _) ⟨_,e',(0,0),lX _ _ _ _ _ _ h1,by rw[hl,fb];omega,fun k v hv=>by
     have key:v.ok ρ∧((cur.toList.take (q.2+n*ie.size)++news++cur.toList.drop (q.2+n*ie.size+news.length)).toArray)[q.2+k]?=some (v.c ρ):=by
      rw[Aa _ _ _ gR]
      rcases gn _ k v hv with⟨a,b⟩|⟨a,b,c⟩
      ·rw[if_neg (by omega)];exact h3 k v b
      ·have:=(List.getElem?_eq_some_iff.1 c).1
       rw[if_pos (by omega),show q.2+k-(q.2+n*ie.size)=k-n*ie.size from by omega]
       exact⟨b,c⟩
     exact key,fun _=>rfl⟩,.inr ⟨0,_,q,ao TY,hq,rfl⟩⟩)
   obtain⟨b1,b2⟩:=back g1 g2
   exact⟨wk,_,by rw[jN,aN];simp[AV.c,hq],b1,b2⟩
  ·right
   refine⟨by omega,grow _ ((cur.toList.drop q.2).take (n*ie.size)) jN (by omega) (by simp;omega) ?_ ?_⟩
   ·refine run_firstCells_some w.drew ie.size n ⟨q.1,q.2,none⟩ n c _ (by simp;omega) fun j v hv=>?_
    simp only[List.getElem?_take,List.getElem?_drop]at hv
    split at hv
    ·rw[cn,World.cell?_drew,cell_of_row w q.1 (q.2+j) cur e' (0,0) h1]
     simpa using hv
    ·cases hv
   ·intro k v hv hk
    obtain⟨a,b⟩:=h3 k v hv
    exact⟨a,by simp only[List.getElem?_take,List.getElem?_drop,if_pos hk];simpa using b⟩
 ·have h0:=Wg TG
  have Ra:n=0:=by omega
  have xk:c=0:=by omega
  subst Ra;subst xk
  have jN:(AV.sl i 0 0 0 0).c ρ=.slice none 0 0:=by simp[AV.c,hq]
  by_cases Jj:m=0
  ·subst Jj
   subst h0
   left
   obtain⟨g1,g2⟩:=lV (i:=i) (g:=0) (x':=xc 0) (ρ':=ρ) (M':=(M.set i (.one true 0 (f 0))).set i (.one true 0 (xc 0))) (w':=w) fW
    (by simp) (fun i' eN=>by rw[List.getElem?_set_ne (Ne.symm eN)]) (by simp[bh]) (fun _ _ _ h=>h) (fun _ _ h=>.inl h) (fun g' hg=>fW.tag i g' true 0 _ TY hg)
    (fun b _ _=>rfl) (Nat.le_refl _) rfl rfl rfl (.inr ⟨hq,hv rfl rfl⟩)
   obtain⟨b1,b2⟩:=back g1 g2
   exact⟨Nat.le_refl _,w,by rw[jN,iJ ht hi eU],b1,b2⟩
  ·right
   exact⟨by omega,grow none [] jN (by omega) (by simp) (by simp[Builtin.firstCells]) (fun k v _ hk=>by simp at hk)⟩
end
def oH (x:AV)(k:TK):Bool:=
 match x,k with
 | .str _,.str=>true
 | .str _,_=>false
 |_,.slice _=>true
 |_,_=>false
theorem BM {s:ByteArray}{k:TK}(h:oH (.str s) k=true):k=.str:=by
 cases k<;>simp_all[oH]
theorem kE {x:AV}{k:TK}(h:oH x k=true)(hx:∀s,x≠ .str s):∃e,k=.slice e:=by
 cases x<;>cases k<;>simp_all[oH]
def oI (M:AH)(k:IntKind)(x:AV)(K:List Int→Nat→Prop):Prop:=
 match x with
 | .ns=>K [] 0
 | .sl i g off n c=>fP M i g fun _ x=>match x with
   | .ints k' xs _=>cV k k' (off+n≤xs.length∧∀ys,ys=(xs.drop off).take n→K ys n)
   |_=>False
 | .str s=>match k with
   | .u8=>K (s.data.toList.map fun b=>(b.toNat:Int)) s.size
   |_=>False
 |_=>False
def q7 (M:AH)(x:AV)(K:List Bool→Nat→Prop):Prop:=
 match x with
 | .ns=>K [] 0
 | .sl i g off n c=>fP M i g fun _ x=>match x with
   | .ax xs _=>off+n≤xs.length∧∀ys,ys=(xs.drop off).take n→K ys n
   |_=>False
 |_=>False
def zP (M:AH)(sz:Nat)(x:AV)(K:(Nat→List AV)→Nat→Prop):Prop:=
 match x with
 | .ns=>K (fun _=>[]) 0
 | .sl i g off n c=>fP M i g fun _ x=>match x with
   | .cw DC m get _=>bK (Nat.beq sz DC) (off=0∧n≤m∧(∀q,q<n→(get q).length=sz∧(get q).all AV.one=true)∧K get n)
   | .cells cs=>bK (Nat.beq sz 1) (off+n≤cs.length∧((cs.drop off).take n).all AV.one=true∧K (fun q=>(cs[off+q]?).toList) n)
   |_=>False
 |_=>False
section
variable{P:Program}{ρ:Env}{M:AH}{w:World}
theorem yX (k:IntKind)(xs:List Int)(ρ:Env):(AV.cl ρ (xs.map (AV.int k)))=xs.map (Value.int k):=by
 simp[AV.bc,Function.comp_def,AV.c]
theorem oG (hs:aW ρ M w){tx e':Nat}(hk:P.underlying tx=some (.slice e')){sz:Nat}{i g off n c:Nat}{own:Bool}{x:af}(de:slot M i g=some (own,x))(hv:x.b9→n=0)
 {l:List AV}(hl:l.length=n*sz)(jL:l.all AV.one=true)(gn:∀k v,l[k]?=some v→∃u,x.at (off+k)=some u∧u.c ρ=v.c ρ):Src P sz tx ((AV.sl i g off n c).c ρ) n (AV.cl ρ l) w:=by
 have Wu:∀u∈AV.cl ρ l,u.oneCell'=true:=fun u hu=>by
  rw[AV.bc,List.mem_map]at hu
  obtain⟨v,hv,rfl⟩:=hu
  exact AV.QT ρ (List.all_eq_true.1 jL v hv)
 rcases hs.holds i g own x de with⟨q,hq,hh⟩|⟨hq,TG⟩
 ·have:(AV.sl i g off n c).c ρ=.slice (some ⟨q.1,q.2+off,none⟩) n c:=by simp[AV.c,hq]
  rw[this]
  refine Src.ofSlice w hk _ n c _ (by rw[AV.bc,List.length_map,hl]) (fun j u hu=>?_) Wu
  rw[AV.bc,List.getElem?_map,Option.map_eq_some_iff]at hu
  obtain⟨v,rS,rfl⟩:=hu
  obtain⟨u,h1,h2⟩:=gn j v rS
  rw[cn,Nat.add_assoc,←h2]
  exact(hh.cell h1).2
 ·have h0:=hv TG
  subst h0
  have:(AV.sl i g off 0 c).c ρ=.slice none 0 c:=by simp[AV.c,hq]
  rw[this]
  have Rc:l=[]:=List.eq_nil_of_length_eq_zero (by simpa using hl)
  subst Rc
  exact Src.ofNil w hk c
theorem gZ {T:List TI}(hT:av P T)(hs:aW ρ M w){k:IntKind}{x:AV}{tx:Nat}{ti:TI}(ht:T[tx]?=some ti)(LQ:oH x ti.k=true){K:List Int→Nat→Prop}
 (h:oI M k x K):∃ys m,ys.length=m∧K ys m∧Src P 1 tx (x.c ρ) m (ys.map (Value.int k)) w:=by
 obtain⟨d,hd,fj⟩:=hT.gY ht
 unfold oI at h
 split at h
 ·obtain⟨e,he⟩:=kE LQ (by simp)
  rw[he]at fj
  obtain rfl:=aR fj
  exact⟨[],0,rfl,h,Src.ofNil w hd 0⟩
 ·rename_i i g off n c
  obtain⟨e,he⟩:=kE LQ (by simp)
  rw[he]at fj
  obtain rfl:=aR fj
  replace h:=ba h
  obtain⟨own,x_,de,h⟩:=h
  split at h
  ·rename_i k' xs co
   replace h:=bl h
   obtain⟨rfl,hle,h⟩:=h
   have hlen:((xs.drop off).take n).length=n:=by simp;omega
   refine⟨_,n,hlen,h _ rfl,?_⟩
   rw[←yX k _ ρ]
   refine oG hs hd de (by simp only[af.b9];rintro⟨rfl,_⟩;simp at hle;omega) (by simp;omega) (by rw[List.all_eq_true];intro v hv;obtain⟨z,_,rfl⟩:=List.mem_map.1 hv;rfl) fun j v hv=>?_
   rw[List.getElem?_map,Option.map_eq_some_iff]at hv
   obtain⟨z,hz,rfl⟩:=hv
   simp only[List.getElem?_take,List.getElem?_drop]at hz
   split at hz
   ·exact⟨_,by simp only[af.at,hz];rfl,rfl⟩
   ·cases hz
  ·exact h.elim
 ·rename_i s
  have:=BM LQ
  rw[this]at fj
  obtain rfl:=kR fj
  split at h
  ·refine⟨_,s.size,by simp,h,?_⟩
   have:=Src.ofString (P:=P) w hd s
   simpa[byteCells,Function.comp_def,AV.c]using this
  ·exact h.elim
 ·exact h.elim
theorem nx {T:List TI}(hT:av P T)(hs:aW ρ M w){x:AV}{tx e':Nat}(hd:P.underlying tx=some (.slice e')){K:List Bool→Nat→Prop}
 (h:q7 M x K):∃ys m,ys.length=m∧K ys m∧Src P 1 tx (x.c ρ) m (ys.map Value.bool) w:=by
 unfold q7 at h
 split at h
 ·exact⟨[],0,rfl,h,Src.ofNil w hd 0⟩
 ·rename_i i g off n c
  replace h:=ba h
  obtain⟨own,x_,de,h⟩:=h
  split at h
  ·rename_i xs co
   obtain⟨hle,h⟩:=h
   have hlen:((xs.drop off).take n).length=n:=by simp;omega
   refine⟨_,n,hlen,h _ rfl,?_⟩
   have e:((xs.drop off).take n).map Value.bool=AV.cl ρ (((xs.drop off).take n).map AV.bo):=by simp[AV.bc,Function.comp_def,AV.c]
   rw[e]
   refine oG hs hd de (by simp only[af.b9];rintro⟨rfl,_⟩;simp at hle;omega) (by simp;omega) (by rw[List.all_eq_true];intro v hv;obtain⟨z,_,rfl⟩:=List.mem_map.1 hv;rfl) fun j v hv=>?_
   rw[List.getElem?_map,Option.map_eq_some_iff]at hv
   obtain⟨z,hz,rfl⟩:=hv
   simp only[List.getElem?_take,List.getElem?_drop]at hz
   split at hz
   ·exact⟨_,by simp only[af.at,hz];rfl,rfl⟩
   ·cases hz
  ·exact h.elim
 ·exact h.elim
def nZ (get:Nat→List AV)(n:Nat):List AV:=(List.range n).flatMap get
theorem je {get:Nat→List AV}{sz:Nat}:∀{n:Nat},(∀q,q<n→(get q).length=sz)→(nZ get n).length=n*sz
 |0,_=>by simp[nZ]
 |n+1,h=>by
  have:=je (n:=n) fun q hq=>h q (by omega)
  unfold nZ at this⊢
  rw[List.range_succ,List.flatMap_append,List.length_append,this,Nat.add_mul]
  simp[h n (by omega)]
theorem lj {get:Nat→List AV}{sz:Nat}(cY:0<sz):∀{n:Nat},(∀q,q<n→(get q).length=sz)→∀k,k<n*sz→(nZ get n)[k]?=(get (k/sz))[k%sz]?
 |0,_,k,hk=>by simp at hk
 |n+1,h,k,hk=>by
  have hl:=je (n:=n) fun q hq=>h q (by omega)
  have ih:=lj cY (n:=n) fun q hq=>h q (by omega)
  have e:nZ get (n+1)=nZ get n++get n:=by simp[nZ,List.range_succ]
  rw[e]
  by_cases mr:k<n*sz
  ·rw[List.getElem?_append_left (by omega),ih k mr]
  ·rw[List.getElem?_append_right (by omega),hl]
   have h1:k/sz=n:=by
    rw[Nat.add_mul,Nat.one_mul]at hk
    exact Nat.div_eq_of_lt_le (by omega) (by rw[Nat.add_mul,Nat.one_mul];exact hk)
   have h2:k%sz=k-n*sz:=by
    have:=Nat.div_add_mod k sz
    rw[h1,Nat.mul_comm]at this
    omega
   rw[h1,h2]
theorem q6 {T:List TI}(hT:av P T)(hs:aW ρ M w){sz:Nat}(cY:0<sz){x:AV}{tx e':Nat}(hd:P.underlying tx=some (.slice e')){K:(Nat→List AV)→Nat→Prop}
 (h:zP M sz x K):∃get m,K get m∧(∀q,q<m→(get q).length=sz)∧Src P sz tx (x.c ρ) m (AV.cl ρ (nZ get m)) w∧AV.eb ρ (nZ get m):=by
 unfold zP at h
 split at h
 ·exact⟨_,0,h,fun q hq=>by omega,Src.ofNil w hd 0,trivial⟩
 ·rename_i i g off n c
  replace h:=ba h
  obtain⟨own,x_,de,h⟩:=h
  have eb:∀(l:List AV),(∀v∈l,∃k,x_.at k=some v)→(x_.b9→l=[])→AV.eb ρ l:=by
   intro l hl hv
   rw[AV.aQ]
   intro v Z3
   obtain⟨k,hk⟩:=hl v Z3
   rcases hs.holds i g own x_ de with⟨q,hq,hh⟩|⟨hq,TG⟩
   ·exact(hh.cell hk).1
   ·rw[hv TG]at Z3;cases Z3
  split at h
  ·rename_i DC m get co
   replace h:=aw h
   obtain⟨hb,rfl,Zp,dY,h⟩:=h
   have e1:sz=DC:=Nat.eq_of_beq_eq_true hb
   subst e1
   have hlen:=je (n:=n) fun q hq=>(dY q hq).1
   have cH:=lj cY (n:=n) fun q hq=>(dY q hq).1
   have gn:∀k v,(nZ get n)[k]?=some v→(af.cw sz m get co).at (0+k)=some v:=by
    intro k v hv
    have hk:k<n*sz:=by have:=(List.getElem?_eq_some_iff.1 hv).1;omega
    rw[Nat.zero_add]
    simp only[af.at]
    rw[if_pos (Nat.lt_of_lt_of_le hk (Nat.mul_le_mul_right _ Zp)),←cH k hk];exact hv
   refine⟨get,n,h,fun q hq=>(dY q hq).1,oG hs hd de (by simp only[af.b9];rintro⟨rfl,_⟩;omega) hlen ?_ fun k v hv=>⟨v,gn k v hv,rfl⟩,eb _ ?_ ?_⟩
   ·rw[List.all_eq_true]
    intro v hv
    obtain⟨q,hq,hv⟩:=List.mem_flatMap.1 hv
    exact List.all_eq_true.1 (dY q (List.mem_range.1 hq)).2 v hv
   ·intro v hv
    obtain⟨k,hk⟩:=List.getElem?_of_mem hv
    exact⟨0+k,gn k v hk⟩
   ·rintro⟨h1,_⟩
    apply List.eq_nil_of_length_eq_zero
    rw[hlen,show n=0 by omega,Nat.zero_mul]
  ·rename_i cs
   replace h:=aw h
   obtain⟨hb,hle,jL,h⟩:=h
   have e1:sz=1:=Nat.eq_of_beq_eq_true hb
   subst e1
   have dY:∀q,q<n→((cs[off+q]?).toList).length=1:=fun q hq=>by
    rw[List.getElem?_eq_getElem (by omega)];rfl
   have hlen:=je (n:=n) dY
   have cH:=lj cY (n:=n) dY
   have gn:∀k v,(nZ (fun q=>(cs[off+q]?).toList) n)[k]?=some v→cs[off+k]?=some v∧k<n:=by
    intro k v hv
    have hk:k<n*1:=by have:=(List.getElem?_eq_some_iff.1 hv).1;rw[hlen]at this;exact this
    have T6:off+k<cs.length:=by omega
    rw[cH k hk]at hv
    simp only[Nat.div_one,Nat.mod_one]at hv
    rw[List.getElem?_eq_getElem T6]at hv⊢
    exact⟨by simpa using hv,by omega⟩
   refine⟨_,n,h,dY,oG hs hd de (fun hv=>hv.elim) hlen ?_ fun k v hv=>⟨v,(gn k v hv).1,rfl⟩,eb _ ?_ (fun hv=>hv.elim)⟩
   ·rw[List.all_eq_true]
    intro v hv
    obtain⟨k,hk⟩:=List.getElem?_of_mem hv
    obtain⟨h1,h2⟩:=gn k v hk
    refine List.all_eq_true.1 jL v (List.mem_of_getElem? (i:=k) ?_)
    simp only[List.getElem?_take,List.getElem?_drop,if_pos h2];exact h1
   ·intro v hv
    obtain⟨k,hk⟩:=List.getElem?_of_mem hv
    exact⟨off+k,(gn k v hk).1⟩
  ·exact h.elim
 ·exact h.elim
end
def Bd (T:List TI)(M:AH)(tS tX:Nat)(d x:AV)(K:AV→AH→Prop):Prop:=
 match T[tS]?,T[tX]? with
 |some ⟨.slice el,_,_,_⟩,some tx=>match T[el]? with
  |some te=>bK (oH x tx.k&&Nat.blt 0 te.size&&Nat.beq te.zero.length te.size) (match d with
   | .ns=>match te.size,te.k with
     |1,.int k=>oI M k x fun ys m=>(m≤9223372036854775807∧m*te.bytes≤140737488355328)∧∀c,m≤c→K (.sl M.length 0 0 m c) (M++[.one true 0 (.ints k ys c)])
     |1,.bool=>q7 M x fun ys m=>(m≤9223372036854775807∧m*te.bytes≤140737488355328)∧∀c,m≤c→K (.sl M.length 0 0 m c) (M++[.one true 0 (.ax ys c)])
     |s,_=>zP M s x fun get m=>(m≤9223372036854775807∧m*te.bytes≤140737488355328)∧∃get',(∀q,q<m→get' q=get q)∧∀c,m≤c→K (.sl M.length 0 0 m c) (M++[.one true 0 (.cw s m get' c)])
   | .sl i g off n c=>match M[i]? with
     |some (.one true g' (.ints k xs co))=>match te.size,te.k with
      |1,.int k'=>(g=g'∧off=0∧n=xs.length∧c≤co∧n≤co)∧cV k k' (oI M k x fun ys m=>(n+m≤9223372036854775807∧(n+m)*te.bytes≤140737488355328)∧∀c,n+m≤c→K (.sl i (g+1) 0 (n+m) c) (M.set i (.one true (g+1) (.ints k (xs++ys) c))))
      |_,_=>False
     |some (.one true g' (.ax xs co))=>match te.size,te.k with
      |1,.bool=>(g=g'∧off=0∧n=xs.length∧c≤co∧n≤co)∧q7 M x fun ys m=>(n+m≤9223372036854775807∧(n+m)*te.bytes≤140737488355328)∧∀c,n+m≤c→K (.sl i (g+1) 0 (n+m) c) (M.set i (.one true (g+1) (.ax (xs++ys) c)))
      |_,_=>False
     |some (.one true g' (.cw sz m0 get co))=>bK (Nat.beq te.size sz) ((g=g'∧off=0∧n=m0∧c≤co∧n≤co)∧zP M te.size x fun src m=>(n+m≤9223372036854775807∧(n+m)*te.bytes≤140737488355328)∧
      ∃get',(∀q,q<n+m→get' q=if q<n then get q else src (q-n))∧∀c,n+m≤c→K (.sl i (g+1) 0 (n+m) c) (M.set i (.one true (g+1) (.cw te.size (n+m) get' c))))
     |some (.aX true m1 f)=>bK (Nat.beq m1 1) (match f 0 with
      | .ints k xs co=>match te.size,te.k with
        |1,.int k'=>(g=0∧off=0∧n=xs.length∧c≤co∧n≤co)∧cV k k' (oI M k x fun ys m=>(n+m≤9223372036854775807∧(n+m)*te.bytes≤140737488355328)∧
         (n+m≤c→K (.sl i 0 0 (n+m) c) (M.set i (.aX true 1 (fun _=>.ints k (xs++ys) co))))∧(c<n+m→∀c',n+m≤c'→K (.sl M.length 0 0 (n+m) c') (M++[.one true 0 (.ints k (xs++ys) c')])))
        |_,_=>False
      |_=>False)
     |_=>False
   |_=>False)
  |none=>False
 |_,_=>False
theorem PH {ρ:Env}{k:IntKind}{xs:List Int}{c j:Nat}{v:AV}(h:(af.ints k xs c).at j=some v):v.ok ρ∧(xs.map (Value.int k))[j]?=some (v.c ρ):=by
 simp only[af.at,Option.map_eq_some_iff]at h
 obtain⟨z,hz,rfl⟩:=h
 exact⟨trivial,by rw[List.getElem?_map,hz];rfl⟩
theorem MC {ρ:Env}{xs:List Bool}{c j:Nat}{v:AV}(h:(af.ax xs c).at j=some v):v.ok ρ∧(xs.map Value.bool)[j]?=some (v.c ρ):=by
 simp only[af.at,Option.map_eq_some_iff]at h
 obtain⟨z,hz,rfl⟩:=h
 exact⟨trivial,by rw[List.getElem?_map,hz];rfl⟩
theorem Gy {k:Nat}{α:Type}{f:α→AV}{g:α→Value}{ρ:Env}(hf:∀a,(f a).c ρ=g a)(aF:∀a,(f a).ok ρ){xs ys:List α}{v:AV}(h:((xs++ys)[k]?).map f=some v):
 (k<xs.length*1∧(xs[k]?).map f=some v)∨(xs.length*1≤k∧v.ok ρ∧(ys.map g)[k-xs.length*1]?=some (v.c ρ)):=by
 rw[Option.map_eq_some_iff]at h
 obtain⟨z,hz,rfl⟩:=h
 by_cases hk:k<xs.length
 ·rw[List.getElem?_append_left hk]at hz
  exact .inl ⟨by omega,by rw[hz];rfl⟩
 ·rw[List.getElem?_append_right (by omega)]at hz
  exact .inr ⟨by omega,aF z,by rw[List.getElem?_map,show k-xs.length*1=k-xs.length from by omega,hz,Option.map_some,hf]⟩
set_option maxHeartbeats 1000000 in
theorem xU {P:Program}{T:List TI}(hT:av P T){M:AH}{tS tX ty:Nat}{d x:AV}{K:AV→AH→Prop}{ρ:Env}{w:World}(hs:aW ρ M w)(hd:d.ok ρ)
 (h:Bd T M tS tX d x K):∃v M' ρ' w',(Builtin.append_ #[tS,tX] ty #[d.c ρ,x.c ρ]).run P w=.ok (v.c ρ') w'∧K v M'∧v.ok ρ'∧aW ρ' M' w'∧Ext ρ M w ρ' M' w':=by
 unfold Bd at h
 split at h
 ·rename_i el s1 s2 s3 tx ht Dq
  obtain⟨dS,Ni,hkS⟩:=hT.gY ht
  obtain rfl:=aR hkS
  obtain⟨dX,hdX,hkX⟩:=hT.gY Dq
  split at h
  ·rename_i te sS
   replace h:=aw h
   obtain⟨hb,h⟩:=h
   simp only[Bool.and_eq_true]at hb
   obtain⟨⟨U4,cY⟩,Ep⟩:=hb
   have cY:0<te.size:=by simpa using cY
   obtain⟨d2,ie,z,e1,e2,e3,rfl⟩:=hT.get sS
   simp only at cY Ep h
   have dk:z.cells.size=ie.size:=by simpa using Nat.eq_of_beq_eq_true Ep
   have Y9:(∀s,x≠ .str s)→∃e',P.underlying tX=some (.slice e'):=by
    intro hx
    obtain⟨e',he⟩:=kE U4 hx
    rw[he]at hkX
    obtain rfl:=aR hkX
    exact⟨e',hdX⟩
   split at h
   ·
    have dns:(AV.ns).c ρ=.slice none 0 0:=rfl
    rw[dns]
    split at h
    ·rename_i k h1 h2
     obtain⟨ys,m,hlen,⟨⟨b1,b2⟩,hK⟩,eU⟩:=gZ hT hs Dq U4 h
     rw[←h1]at eU
     obtain⟨c,hc,ρ',w',r1,r2,r3,r4⟩:=qC (ty:=ty) hs Ni e2 e3 dk eU b2 (by omega) (fun c=>.ints k ys c) (fun c=>by simp[af.size,h1]) (fun c j v hv=>PH hv) (fun hm=>⟨List.eq_nil_of_length_eq_zero (by omega),rfl⟩)
     exact⟨_,_,ρ',w',r1,hK c hc,r2,r3,r4⟩
    ·rename_i h1 h2
     have hx:∀s,x≠ .str s:=by rintro s rfl;exact h.elim
     obtain⟨e',Ue⟩:=Y9 hx
     obtain⟨ys,m,hlen,⟨⟨b1,b2⟩,hK⟩,eU⟩:=nx hT hs Ue h
     rw[←h1]at eU
     obtain⟨c,hc,ρ',w',r1,r2,r3,r4⟩:=qC (ty:=ty) hs Ni e2 e3 dk eU b2 (by omega) (fun c=>.ax ys c) (fun c=>by simp[af.size,h1]) (fun c j v hv=>MC hv) (fun hm=>⟨List.eq_nil_of_length_eq_zero (by omega),rfl⟩)
     exact⟨_,_,ρ',w',r1,hK c hc,r2,r3,r4⟩
    ·have hx:∀s,x≠ .str s:=by rintro s rfl;exact h.elim
     obtain⟨e',Ue⟩:=Y9 hx
     obtain⟨get,m,⟨⟨b1,b2⟩,get',hg,hK⟩,dY,eU,TT⟩:=q6 hT hs cY Ue h
     obtain⟨c,hc,ρ',w',r1,r2,r3,r4⟩:=qC (ty:=ty) hs Ni e2 e3 dk eU b2 (by omega) (fun c=>.cw ie.size m get' c) (fun c=>rfl) (fun c j v hv=>by
      simp only[af.at]at hv
      split at hv
      ·rename_i hj
       have hq:j/ie.size<m:=(Nat.div_lt_iff_lt_mul cY).2 hj
       rw[hg _ hq,←lj cY dY j hj]at hv
       exact⟨(AV.aQ ρ _).1 TT v (List.mem_of_getElem? hv),by rw[AV.bc,List.getElem?_map,hv];rfl⟩
      ·cases hv) (fun hm=>⟨hm,rfl⟩)
     exact⟨_,_,ρ',w',r1,hK c hc,r2,r3,r4⟩
   ·rename_i i g off n c
    split at h
    ·rename_i g' k xs co hm
     split at h
     ·rename_i k' h1 h2
      obtain⟨⟨rfl,rfl,rfl,wu,hn⟩,h⟩:=h
      replace h:=bl h
      obtain⟨rfl,h⟩:=h
      obtain⟨ys,m,hlen,⟨⟨b1,b2⟩,hK⟩,eU⟩:=gZ hT hs Dq U4 h
      rw[←h1]at eU
      obtain⟨c',hc,ρ',w',r1,r2,r3,r4⟩:=qB (ty:=ty) hs Ni e2 e3 dk eU hm (by simp[af.size,h1]) hn wu (fun hv=>hv.2) b2 (by omega) (fun c=>.ints k (xs++ys) c) (fun c=>by simp[af.size,h1])
       (fun c j v hv=>by rw[h1];exact Gy (f:=AV.int k) (g:=Value.int k) (fun _=>rfl) (fun _=>trivial) hv) (fun a b=>⟨by rw[List.eq_nil_of_length_eq_zero a,List.eq_nil_of_length_eq_zero (hlen.trans b)];rfl,rfl⟩) hd
      exact⟨_,_,ρ',w',r1,hK c' hc,r2,r3,r4⟩
     ·exact h.elim
    ·rename_i g' xs co hm
     split at h
     ·rename_i h1 h2
      obtain⟨⟨rfl,rfl,rfl,wu,hn⟩,h⟩:=h
      have hx:∀s,x≠ .str s:=by rintro s rfl;exact h.elim
      obtain⟨e',Ue⟩:=Y9 hx
      obtain⟨ys,m,hlen,⟨⟨b1,b2⟩,hK⟩,eU⟩:=nx hT hs Ue h
      rw[←h1]at eU
      obtain⟨c',hc,ρ',w',r1,r2,r3,r4⟩:=qB (ty:=ty) hs Ni e2 e3 dk eU hm (by simp[af.size,h1]) hn wu (fun hv=>hv.2) b2 (by omega) (fun c=>.ax (xs++ys) c) (fun c=>by simp[af.size,h1])
       (fun c j v hv=>by rw[h1];exact Gy (f:=AV.bo) (g:=Value.bool) (fun _=>rfl) (fun _=>trivial) hv) (fun a b=>⟨by rw[List.eq_nil_of_length_eq_zero a,List.eq_nil_of_length_eq_zero (hlen.trans b)];rfl,rfl⟩) hd
      exact⟨_,_,ρ',w',r1,hK c' hc,r2,r3,r4⟩
     ·exact h.elim
    ·rename_i g' sz m0 get co hm
     replace h:=aw h
     obtain⟨hb,⟨rfl,rfl,rfl,wu,hn⟩,h⟩:=h
     have e5:ie.size=sz:=Nat.eq_of_beq_eq_true hb
     subst e5
     have hx:∀s,x≠ .str s:=by rintro s rfl;exact h.elim
     obtain⟨e',Ue⟩:=Y9 hx
     obtain⟨src,m,⟨⟨b1,b2⟩,get',hg,hK⟩,dY,eU,TT⟩:=q6 hT hs cY Ue h
     obtain⟨c',hc,ρ',w',r1,r2,r3,r4⟩:=qB (ty:=ty) hs Ni e2 e3 dk eU hm rfl hn wu (fun hv=>hv.2) b2 (by omega) (fun c=>.cw ie.size (n+m) get' c) (fun c=>rfl)
      (fun c j v hv=>by
       simp only[af.at]at hv
       split at hv
       ·rename_i hj
        have hq:j/ie.size<n+m:=(Nat.div_lt_iff_lt_mul cY).2 hj
        rw[hg _ hq]at hv
        by_cases LS:j<n*ie.size
        ·refine .inl ⟨LS,?_⟩
         rw[if_pos ((Nat.div_lt_iff_lt_mul cY).2 LS)]at hv
         simp only[af.at,if_pos LS];exact hv
        ·have hle:n*ie.size≤j:=by omega
         have h1:n≤j/ie.size:=(Nat.le_div_iff_mul_le cY).2 hle
         rw[if_neg (by omega)]at hv
         have hd:(j-n*ie.size)/ie.size=j/ie.size-n:=by rw[Nat.mul_comm n];exact Nat.sub_mul_div ..
         have WE:(j-n*ie.size)%ie.size=j%ie.size:=by rw[Nat.mul_comm n];exact Nat.sub_mul_mod (by rw[Nat.mul_comm];exact hle)
         have hjm:j-n*ie.size<m*ie.size:=by rw[Nat.add_mul]at hj;omega
         rw[←hd,←WE,←lj cY dY _ hjm]at hv
         exact .inr ⟨hle,(AV.aQ ρ _).1 TT v (List.mem_of_getElem? hv),by rw[AV.bc,List.getElem?_map,hv];rfl⟩
       ·cases hv) (fun a b=>⟨by omega,rfl⟩) hd
     exact⟨_,_,ρ',w',r1,hK c' hc,r2,r3,r4⟩
    ·rename_i m1 f hm
     replace h:=aw h
     obtain⟨rJ,h⟩:=h
     obtain rfl:m1=1:=Nat.eq_of_beq_eq_true rJ
     split at h
     ·rename_i k xs co hf
      split at h
      ·rename_i k' h1 h2
       obtain⟨⟨rfl,rfl,rfl,wu,hn⟩,h⟩:=h
       replace h:=bl h
       obtain⟨rfl,h⟩:=h
       obtain⟨ys,m,hlen,⟨⟨b1,b2⟩,hK1,hK2⟩,eU⟩:=gZ hT hs Dq U4 h
       rw[←h1]at eU
       rcases Dc (ty:=ty) hs Ni e2 e3 dk eU hm (by rw[hf];simp[af.size,h1]) hn wu (fun hv=>by rw[hf]at hv;exact hv.2) b2 (by omega) (fun c=>.ints k (xs++ys) c) (fun c=>by simp[af.size,h1])
        (fun c j v hv=>by rw[h1,hf];exact Gy (f:=AV.int k) (g:=Value.int k) (fun _=>rfl) (fun _=>trivial) hv) (fun a b=>⟨by rw[List.eq_nil_of_length_eq_zero a,List.eq_nil_of_length_eq_zero (hlen.trans b)];rfl,rfl⟩) (fun _=>rfl) (by rw[hf];rfl)with⟨hc,w',r1,r3,r4⟩|⟨hc,c',nU,ρ',w',r1,r2,r3,r4⟩
       ·exact⟨_,_,ρ,w',r1,hK1 hc,hd,r3,r4⟩
       ·exact⟨_,_,ρ',w',r1,hK2 hc c' nU,r2,r3,r4⟩
      ·exact h.elim
     ·exact h.elim
    ·exact h.elim
   ·exact h.elim
  ·exact h.elim
 ·exact h.elim
theorem xn {v:Value}{n j:Nat}(h:j<n):(Builtin.zeroCells #[v] n)[j]?=some v:=by
 have e:(Array.range n)[j]?=some j:=by simp[h]
 simp[Builtin.zeroCells,e,Nat.mod_one]
def El (T:List TI)(t:Nat):Bool:=
 match T[t]? with
 |some ⟨.int _,_,_,_⟩=>true
 |_=>false
def xe (T:List TI)(M:AH)(tS:Nat)(d x:AV)(K:AV→AH→Prop):Prop:=
 match T[tS]? with
 |some ⟨.slice el,_,_,_⟩=>match T[el]? with
  |some ⟨.int k,1,b,[.int k' z]⟩=>match d,x with
   | .ns,.int _ n=>cV k k' ((0≤n∧n≤140737488355328∧n.toNat*b≤140737488355328)∧∀c,n.toNat≤c→K (.sl M.length 0 0 n.toNat c) (M++[.one true 0 (.ints k (List.replicate n.toNat z) c)]))
   |_,_=>False
  |_=>False
 |_=>False
theorem sj {P:Program}(w:World)(t tx ty e:TypeId)(i:TypeInfo)(z:Value){kx:IntKind}(ht:P.underlying t=some (.slice e))(hx:P.underlying tx=some (.int kx))(hi:P.info? e=some i)(hz:i.zero=some z){n:Nat}{k:IntKind}
 (hs:i.size=1)(hn:0<n)(Uv:((n:Nat):Int)≤140737488355328)(hb:n*i.bytes≤140737488355328):
 (Builtin.append_ #[t,tx] ty #[.slice none 0 0,.int k n]).run P w=
  .ok (.slice (some ⟨w.heap.size,0,none⟩) n (grownCap w n 0 e))
   (w.drew.alloc (.cells (Builtin.zeroCells z.cells n++Builtin.zeroCells z.cells (grownCap w n 0 e-n)) e)):=by
 have hw:IntKind.i64.wrap (n:Int)=n:=by
  rw[IntKind.wrap_i64]
  omega
 have h1:¬((n:Int)<0):=by omega
 have h2:¬(281474976710656<(n:Int)*i.bytes):=by
  have:((n*i.bytes:Nat):Int)≤((140737488355328:Nat):Int):=Int.ofNat_le.2 hb
  rw[Int.natCast_mul]at this
  omega
 have h3:¬(9223372036854775807<(n:Int)):=by omega
 have hf:=growslice_fits (need:=n) (old:=0) (bytes:=i.bytes) (by omega) hb
 have aaC:¬(281474976710656<Builtin.nextslicecap n 0*i.bytes):=by omega
 have Ra:¬n=0:=by omega
 simp[Builtin.append_,run_underlying ht,run_underlying hx,sizeOf,typeInfo,zeroValue,hi,hz,asInt,asIntOf,hw,h1,h2,h3,Ra,aaC,hs,Question.forced,newRow,grownCap,Builtin.firstCells]
theorem xd {P:Program}{T:List TI}(hT:av P T){M:AH}{tS tX ty:Nat}{d x:AV}{K:AV→AH→Prop}{ρ:Env}{w:World}(hs:aW ρ M w)(hX:El T tX=true)
 (h:xe T M tS d x K):∃v M' ρ' w',(Builtin.append_ #[tS,tX] ty #[d.c ρ,x.c ρ]).run P w=.ok (v.c ρ') w'∧K v M'∧v.ok ρ'∧aW ρ' M' w'∧Ext ρ M w ρ' M' w':=by
 obtain⟨kx,hx⟩:∃kx,P.underlying tX=some (.int kx):=by
  unfold El at hX
  split at hX
  ·rename_i h1
   obtain⟨d1,uk,k1⟩:=hT.gY h1
   obtain rfl:=ew k1
   exact⟨_,uk⟩
  ·cases hX
 unfold xe at h
 split at h
 ·rename_i el _ _ _ ht
  obtain⟨dS,Ni,hkS⟩:=hT.gY ht
  obtain rfl:=aR hkS
  split at h
  ·rename_i k b k' z sS
   obtain⟨d2,ie,zv,e1,e2,e3,Q4⟩:=hT.get sS
   injection Q4 with q1 q2 q3 q4
   split at h
   ·rename_i kk n
    replace h:=bl h
    obtain⟨rfl,⟨h0,hle,hb⟩,h⟩:=h
    obtain⟨m,rfl⟩:∃m:Nat,n=m:=⟨n.toNat,by omega⟩
    rw[Int.toNat_natCast]at hb h
    have hzc:zv.cells=#[.int k z]:=by
     have:=congrArg (fun l=>l.map (AV.c ρ)) q4
     simp only[List.map_map,List.map_cons,List.map_nil,AV.c]at this
     have e:(AV.c ρ∘IQ)=id:=by funext v;exact rz ρ v
     rw[e,List.map_id]at this
     apply Array.toList_inj.1
     rw[←this]
    by_cases hm:m=0
    ·subst hm
     obtain⟨g1,g2⟩:=hJ (x:=.ints k [] 0) (l:=none) (w':=w) hs (fun _ _=>rfl) (Nat.le_refl _) rfl rfl rfl (.inr ⟨rfl,rfl,rfl⟩)
     refine⟨_,_,_,w,?_,h 0 (Nat.le_refl _),by simp[AV.ok,ay],g1,g2⟩
     have hw:IntKind.i64.wrap 0=0:=by decide
     simp[Builtin.append_,run_underlying Ni,run_underlying hx,sizeOf,typeInfo,e2,asInt,asIntOf,hw,AV.c,ay]
    ·have aN:=sj (P:=P) w tS tX ty el ie zv (k:=kk) Ni hx e2 e3 (n:=m) q2.symm (by omega) hle (by rw[←q3];exact hb)
     have hc:=grownCap_ge w m 0 el
     have hgc:∀n,(Builtin.zeroCells #[Value.int k z] n).size=n:=fun n=>by rw[size_zeroCells];simp
     obtain⟨g1,g2⟩:=eM (x:=.ints k (List.replicate m z) (grownCap w m 0 el)) (w1:=w.drew) (c:=Builtin.zeroCells zv.cells m++Builtin.zeroCells zv.cells (grownCap w m 0 el-m)) (e:=el) hs rfl rfl rfl rfl
      (by rw[hzc,Array.size_append,hgc,hgc];show grownCap w m 0 el≤_;omega) (fun j v hv=>by
       simp only[af.at,Option.map_eq_some_iff]at hv
       obtain⟨u,hu,rfl⟩:=hv
       have hj:=(List.getElem?_eq_some_iff.1 hu).1
       rw[List.length_replicate]at hj
       rw[List.getElem?_replicate,if_pos hj]at hu
       injection hu with hu;subst hu
       refine⟨trivial,?_⟩
       rw[hzc,Array.getElem?_append_left (by rw[hgc];exact hj)]
       exact xn hj)
     exact⟨_,_,_,_,by rw[show(AV.int kk (m:Int)).c ρ=.int kk m from rfl,show(AV.ns).c ρ=.slice none 0 0 from rfl,aN];simp[AV.c,ay],h _ hc,by simp[AV.ok,ay],g1,g2⟩
   ·exact h.elim
  ·exact h.elim
 ·exact h.elim
end Go.Proofs.Ytibadaomjlkoaaa
open Go.RowKit
namespace Go.Proofs.Ytibadaomjlkoaaa
def og (ns:List Int):ByteArray:=ns.foldl (fun r n=>r.push (UInt8.ofNat n.toNat)) ByteArray.empty
def p3 (T:List TI)(M:AH)(src dst:Nat)(x:AV)(K:AV→Prop):Prop:=
 match T[src]?,T[dst]? with
 |some ⟨.slice e,_,_,_⟩,some ⟨.str,_,_,_⟩=>match T[e]? with
  |some ⟨.int .u8,_,_,_⟩=>match x with
   | .ns=>K (.str ByteArray.empty)
   | .sl i g off n c=>fP M i g fun _ y=>match y with
     | .ints k xs _=>cV .u8 k (off+n≤xs.length∧∀ys,ys=(xs.drop off).take n→K (.str (og ys)))
     |_=>False
   |_=>False
  |_=>False
 |_,_=>False
theorem lR {P:Program}{T:List TI}(hT:av P T){M:AH}{src dst:Nat}{x:AV}{K:AV→Prop}{ρ:Env}(hk:kB ρ M)(h:p3 T M src dst x K):
 ∃v,K v∧v.ok ρ∧x.ok ρ∧∀w,fy ρ M x.id w→(convert src dst (x.c ρ)).run P w=.ok (v.c ρ) w:=by
 unfold p3 at h
 split at h
 ·rename_i e _ _ _ _ _ _ h1 h2
  split at h
  ·rename_i _ _ _ h3
   obtain⟨d1,uk,k1⟩:=hT.gY h1
   obtain⟨d2,HC,k2⟩:=hT.gY h2
   obtain⟨d3,Qb,k3⟩:=hT.gY h3
   obtain rfl:=aR k1
   obtain rfl:=kR k2
   obtain rfl:=ew k3
   split at h
   ·exact⟨_,h,trivial,trivial,fun w _=>by
     simp only[AV.c]
     rw[run_convert_bytes_string w src dst e none 0 0 uk Qb HC]
     rfl⟩
   ·rename_i i g off n c
    obtain⟨own,y,de,h⟩:=ba h
    split at h
    ·rename_i k xs co
     obtain⟨rfl,hle,h⟩:=bl h
     have hlen:((xs.drop off).take n).length=n:=by simp;omega
     refine⟨_,h _ rfl,trivial,?_,fun w hw=>?_⟩
     ·rcases hk i g own _ de with⟨q,hq⟩|⟨hq,_⟩<;>simp[AV.ok,hq]
     ·rcases hk i g own _ de with⟨q,hq⟩|⟨hq,hv⟩
      ·have hh:=hw g own _ q de hq
       have:(AV.sl i g off n c).c ρ=.slice (some ⟨q.1,q.2+off,none⟩) n c:=by simp[AV.c,hq]
       rw[this,run_convert_bytes_string w src dst e _ n c uk Qb HC]
       refine run_bytesToString w _ n c _ ?_
       have hl:=run_loadCells_list (P:=P) w ⟨q.1,q.2+off,none⟩ (((xs.drop off).take n).map (Value.int .u8)) fun j v hv=>by
        rw[List.getElem?_map,Option.map_eq_some_iff]at hv
        obtain⟨z,hz,rfl⟩:=hv
        simp only[List.getElem?_take,List.getElem?_drop]at hz
        split at hz
        ·have:=(hh.cell (k:=off+j) (v:=.int .u8 z) (by simp only[af.at,hz];rfl)).2
         rw[cn,Nat.add_assoc]
         exact this
        ·cases hz
       rw[List.length_map,hlen]at hl
       exact hl
      ·have h0:n=0:=by
        simp only[af.b9]at hv
        obtain⟨rfl,_⟩:=hv
        simp at hle
        omega
       subst h0
       have:(AV.sl i g off 0 c).c ρ=.slice none 0 c:=by simp[AV.c,hq]
       rw[this,run_convert_bytes_string w src dst e none 0 c uk Qb HC]
       simp[AV.c,og,Conv.bytesToString]
    ·exact h.elim
   ·exact h.elim
  ·exact h.elim
 ·exact h.elim
end Go.Proofs.Ytibadaomjlkoaaa
open Go.RowKit
namespace Go.Proofs.Ytibadaomjlkoaaa
theorem Ku {ρ:Env}{M:AH}{w w':World}{x:af}{b base:Nat}(h:aW ρ M w)
 (hw:∀b,b<w.heap.size→w'.heap[b]?=w.heap[b]?)(fb:w.heap.size≤w'.heap.size)(Ey:w'.os=w.os)(jK:w'.tape=w.tape)(qo:w'.output=w.output)
 (hb:w.heap.size≤b)(hx:b8 (kO ρ M.length 0 (some (b,base))) false x b base w'):
 aW (kO ρ M.length 0 (some (b,base))) (M++[.one false 0 x]) w'∧Ext ρ M w (kO ρ M.length 0 (some (b,base))) (M++[.one false 0 x]) w':=by
 have ku:∀g,(ρ M.length g).isSome=false:=fun g=>by
  cases hh:(ρ M.length g).isSome with
  |false=>rfl
  |true=>exact absurd (h.pr _ _ hh) (Nat.lt_irrefl _)
 have kK:=dI (l:=some (b,base)) (ku 0)
 have fW:∀j g,j<M.length→slot (M++[AO.one false 0 x]) j g=slot M j g:=by
  intro j g hj;unfold slot;rw[List.getElem?_append_left hj]
 have pC:∀g own y,slot (M++[AO.one false 0 x]) M.length g=some (own,y)→g=0∧own=false∧y=x:=by
  intro g own y hs
  unfold slot at hs
  rw[List.getElem?_append_right (Nat.le_refl _),Nat.sub_self]at hs
  simp only[List.getElem?_cons_zero,bq]at hs
  split at hs
  ·injection hs with hs;injection hs with a b;exact⟨‹_›,a.symm,b.symm⟩
  ·cases hs
 have bh:∀{j g own y},slot (M++[AO.one false 0 x]) j g=some (own,y)→j<M.length∨j=M.length:=by
  intro j g own y hs
  unfold slot at hs
  cases ho:(M++[AO.one false 0 x])[j]? with
  |none=>rw[ho]at hs;cases hs
  |some o=>
   have:=(List.getElem?_eq_some_iff.1 ho).1
   simp at this
   omega
 have cH:∀{j g:Nat},j<M.length→kO ρ M.length 0 (some (b,base)) j g=ρ j g:=by
  intro j g hj;unfold kO;rw[if_neg (by omega)]
 have hold:∀{j g own y q},slot M j g=some (own,y)→ρ j g=some (some q)→b8 ρ own y q.1 q.2 w:=by
  intro j g own y q hs hq
  rcases h.holds j g own y hs with⟨q',e1,e2⟩|⟨e1,_⟩
  ·rw[hq]at e1;injection e1 with e1;injection e1 with e1;subst e1;exact e2
  ·rw[hq]at e1;cases e1
 refine⟨⟨?_,?_,?_,?_,?_⟩,⟨kK,fb,fun b hb _=>hw b hb,?_,Ey,jK,qo⟩⟩
 ·intro j g hj
  rcases ek j g hj with h1|⟨rfl,_⟩
  ·have:=h.pr j g h1;simp;omega
  ·simp
 ·intro j g own g' y hm hj
  by_cases pc:j<M.length
  ·rw[List.getElem?_append_left pc]at hm
   rw[cH pc]at hj
   exact h.tag j g own g' y hm hj
  ·rcases ek j g hj with h1|⟨rfl,rfl⟩
   ·exact absurd (h.pr j g h1) pc
   ·exact Nat.zero_le _
 ·intro j g own m y hm hj
  by_cases pc:j<M.length
  ·rw[List.getElem?_append_left pc]at hm
   rw[cH pc]at hj
   exact h.aX j g own m y hm hj
  ·rcases ek j g hj with h1|⟨rfl,rfl⟩
   ·exact absurd (h.pr j g h1) pc
   ·rw[List.getElem?_append_right (Nat.le_refl _),Nat.sub_self]at hm;cases hm
 ·intro j g own y hs
  rcases bh hs with hj|rfl
  ·rw[fW j g hj]at hs
   rw[cH hj]
   rcases h.holds j g own y hs with⟨q,h1,h2⟩|h1
   ·exact .inl ⟨q,h1,h2.ext kK (hw _ h2.lt)⟩
   ·exact .inr h1
  ·obtain⟨rfl,rfl,rfl⟩:=pC _ _ _ hs
   exact .inl ⟨(b,base),ay _ _ _ _,hx⟩
 ·intro j g y j' g' bJ y' q q' h1 h2 e1 e2 he
  rcases bh h1 with hj|rfl
  ·rw[fW j g hj]at h1
   rw[cH hj]at e1
   have l1:=(hold h1 e1).lt
   rcases bh h2 with qG|rfl
   ·rw[fW j' g' qG]at h2
    rw[cH qG]at e2
    exact h.apart j g y j' g' bJ y' q q' h1 h2 e1 e2 he
   ·obtain⟨rfl,rfl,rfl⟩:=pC _ _ _ h2
    rw[ay]at e2
    injection e2 with e2;injection e2 with e2;subst e2
    simp only at he
    omega
  ·obtain⟨_,e,_⟩:=pC _ _ _ h1
   cases e
 ·intro j g y q hs hq hbq
  rcases bh hs with hj|rfl
  ·rw[fW j g hj]at hs
   rw[cH hj]at hq
   exact⟨j,g,y,q,hs,hq,rfl⟩
  ·obtain⟨_,e,_⟩:=pC _ _ _ hs
   cases e
def Lu (T:List TI)(src dst:Nat):Bool:=
 match T[src]?,T[dst]? with
 |some ⟨.str,_,_,_⟩,some ⟨.slice _,_,_,_⟩=>true
 |_,_=>false
def zF (s:ByteArray):List Int:=s.data.toList.map fun b=>(b.toNat:Int)
def E0 (T:List TI)(M:AH)(src dst:Nat)(s:ByteArray)(K:AV→AH→Prop):Prop:=
 match T[src]?,T[dst]? with
 |some ⟨.str,_,_,_⟩,some ⟨.slice e,_,_,_⟩=>match T[e]? with
  |some ⟨.int .u8,_,_,_⟩=>∀c,s.size≤c→K (.sl M.length 0 0 s.size c) (M++[.one false 0 (.ints .u8 (zF s) c)])
  |_=>False
 |_,_=>False
theorem A3 {P:Program}{T:List TI}(hT:av P T){M:AH}{src dst:Nat}{s:ByteArray}{K:AV→AH→Prop}{ρ:Env}{w:World}(hs:aW ρ M w)(h:E0 T M src dst s K):
 ∃v M' ρ' w',(convert src dst (.string s)).run P w=.ok (v.c ρ') w'∧K v M'∧v.ok ρ'∧aW ρ' M' w'∧Ext ρ M w ρ' M' w':=by
 unfold E0 at h
 split at h
 ·rename_i _ _ _ e _ _ _ h1 h2
  split at h
  ·rename_i h3
   obtain⟨d1,uk,k1⟩:=hT.gY h1
   obtain⟨d2,HC,k2⟩:=hT.gY h2
   obtain⟨d3,Qb,k3⟩:=hT.gY h3
   obtain rfl:=kR k1
   obtain rfl:=aR k2
   obtain rfl:=ew k3
   have aN:=run_bytes_of_string (P:=P) w src dst _ s uk HC Qb
   generalize hc:grownCap w s.size 0 e=c at aN
   have LW:s.size≤c:=by rw[←hc];exact grownCap_ge w s.size 0 e
   have Hy:(bytesRow s c).size=s.size+(c-s.size):=by simp[bytesRow]
   obtain⟨g1,g2⟩:=Ku (x:=.ints .u8 (zF s) c) (b:=w.heap.size) (base:=0) (w':=w.drew.alloc (.cells (bytesRow s c) e ((bytesRow s c).size,(bytesRow s c).size+1))) hs
    (fun b hb=>Below.heap_alloc w.drew _ b hb) (by simp) rfl rfl rfl (Nat.le_refl _) (.mk' rfl ⟨_,_,_,heap_alloc_new w.drew _,by rw[Hy];simp[af.size];omega,fun k v hv=>by
     simp only[af.at,zF,Option.map_eq_some_iff,List.getElem?_map]at hv
     obtain⟨z,⟨y,hy,rfl⟩,rfl⟩:=hv
     have hk:=(List.getElem?_eq_some_iff.1 hy).1
     rw[Array.length_toList]at hk
     refine⟨trivial,?_⟩
     rw[Nat.zero_add,bytesRow_at s c k hk]
     rw[Array.getElem?_toList,Array.getElem?_eq_getElem hk]at hy
     injection hy with hy
     rw[hy];rfl,fun h=>by cases h⟩)
   exact⟨_,_,_,_,by rw[aN];simp[AV.c,ay],h c LW,by simp[AV.ok,ay],g1,g2⟩
  ·exact h.elim
 ·exact h.elim
theorem DM {ρ:Env}{M:AH}{w w':World}{i g:Nat}{x:af}{q:Nat×Nat}(h:aW ρ M w)(hm:M[i]?=some (.one true g x))(sQ:x.row=true)(hq:ρ i g=some (some q))
 (LJ:∀b,b≠q.1→w'.heap[b]?=w.heap[b]?)(Wm:∀c e fr,w.heap[q.1]?=some (.cells c e fr)→∃Xt,w'.heap[q.1]?=some (.cells c e Xt))(fb:w.heap.size≤w'.heap.size)(Ey:w'.os=w.os)(jK:w'.tape=w.tape)(qo:w'.output=w.output):
 aW ρ (M.set i (.one false g x)) w'∧Ext ρ M w ρ (M.set i (.one false g x)) w':=by
 have bh:i<M.length:=(List.getElem?_eq_some_iff.1 hm).1
 have CC:∀g' own y,slot (M.set i (.one false g x)) i g'=some (own,y)→g'=g∧own=false∧y=x:=by
  intro g' own y hs
  unfold slot at hs
  rw[List.getElem?_set_self bh]at hs
  simp only[bq]at hs
  split at hs
  ·injection hs with hs;injection hs with a b;exact⟨‹_›,a.symm,b.symm⟩
  ·cases hs
 have fW:∀j g',j≠i→slot (M.set i (.one false g x)) j g'=slot M j g':=by
  intro j g' hj;unfold slot;rw[List.getElem?_set_ne (Ne.symm hj)]
 have Ex:∀j g' y,slot (M.set i (.one false g x)) j g'=some (true,y)→j≠i∧slot M j g'=some (true,y):=by
  intro j g' y hs
  by_cases hj:j=i
  ·subst hj;obtain⟨_,e,_⟩:=CC _ _ _ hs;cases e
  ·rw[fW j g' hj]at hs;exact⟨hj,hs⟩
 refine⟨⟨fun j g' hj=>by rw[List.length_set];exact h.pr j g' hj,?_,?_,?_,?_⟩,⟨fun _ _ _ e=>e,fb,?_,?_,Ey,jK,qo⟩⟩
 ·intro j g' own g1 y hj hh
  by_cases gQ:j=i
  ·subst gQ
   rw[List.getElem?_set_self bh]at hj
   injection hj with hj;injection hj with _ e2 _;subst e2
   exact h.tag j g' true g x hm hh
  ·rw[List.getElem?_set_ne (Ne.symm gQ)]at hj;exact h.tag j g' own g1 y hj hh
 ·intro j g' own m y hj hh
  by_cases gQ:j=i
  ·subst gQ;rw[List.getElem?_set_self bh]at hj;cases hj
  ·rw[List.getElem?_set_ne (Ne.symm gQ)]at hj;exact h.aX j g' own m y hj hh
 ·intro j g' own y hs
  by_cases gQ:j=i
  ·subst gQ
   obtain⟨rfl,rfl,rfl⟩:=CC _ _ _ hs
   left
   rcases h.holds j g' true y (ao hm)with⟨q',e1,e2⟩|⟨e1,_⟩
   ·rw[hq]at e1;injection e1 with e1;injection e1 with e1;subst e1
    obtain⟨c,e,fr,k1,k2,k3,k4⟩:=e2.out sQ
    obtain⟨Xt,k5⟩:=Wm c e fr k1
    exact⟨q,hq,.mk' sQ ⟨c,e,Xt,k5,k2,k3,fun h=>by cases h⟩⟩
   ·rw[hq]at e1;cases e1
  ·rw[fW j g' gQ]at hs
   rcases h.holds j g' own y hs with⟨q',e1,e2⟩|e1
   ·refine .inl ⟨q',e1,e2.ext (fun _ _ _ e=>e) (LJ _ fun e=>gQ ?_)⟩
    exact(h.apart i g x j g' own y q q' (ao hm) hs hq e1 e.symm).1.symm
   ·exact .inr e1
 ·intro j g1 y j' g2 bJ y' q1 q2 h1 h2 e1 e2 he
  obtain⟨hj,k1⟩:=Ex _ _ _ h1
  by_cases qG:j'=i
  ·subst qG
   obtain⟨rfl,rfl,rfl⟩:=CC _ _ _ h2
   exact h.apart j g1 y j' g2 true y' q1 q2 k1 (ao hm) e1 e2 he
  ·rw[fW j' g2 qG]at h2
   exact h.apart j g1 y j' g2 bJ y' q1 q2 k1 h2 e1 e2 he
 ·intro b hb hn
  exact LJ b fun e=>hn i g x q (ao hm) hq e.symm
 ·intro j g1 y q1 hs CD hb
  obtain⟨_,hs⟩:=Ex _ _ _ hs
  exact⟨j,g1,y,q1,hs,CD,rfl⟩
theorem sg {P:Program}{w:World}{t e e':TypeId}{b off n c:Nat}{cur:Array Value}{fr:Nat×Nat}(ht:P.underlying t=some (.slice e))(he:P.underlying e=some (.int .u8))(hb:w.heap[b]?=some (.cells cur e' fr)):
 (convert t t (.slice (some ⟨b,off,none⟩) n c)).run P w=.ok (.slice (some ⟨b,off,none⟩) n c) (w.freeze ⟨b,cur.size,none⟩ 1):=by
 have CB:w.shape? b=some (e',cur.size):=by unfold World.shape?;rw[hb]
 simp[convert,run_underlying ht,run_underlying he,markStringish,CB]
theorem AM {w:World}{b k:Nat}{a:Nat}(h:a≠b):(w.freeze ⟨b,k,none⟩ 1).heap[a]?=w.heap[a]?:=by
 unfold World.freeze
 rw[if_neg (by decide)]
 simp[Array.getElem?_modify,Ne.symm h]
theorem CK {w:World}{b k:Nat}{c:Array Value}{e:TypeId}{fr:Nat×Nat}(h:w.heap[b]?=some (.cells c e fr)):∃Xt,(w.freeze ⟨b,k,none⟩ 1).heap[b]?=some (.cells c e Xt):=by
 unfold World.freeze
 rw[if_neg (by decide)]
 simp[Array.getElem?_modify,h]
def zZ (T:List TI)(M:AH)(src dst:Nat)(i g off n c:Nat)(K:AV→AH→Prop):Prop:=
 bK (Nat.beq src dst) (match T[src]? with
  |some ⟨.slice e,_,_,_⟩=>match T[e]? with
   |some ⟨.int .u8,_,_,_⟩=>match M[i]? with
    |some (.one true g' (.ints k xs co))=>(g=g'∧0<co)∧K (.sl i g off n c) (M.set i (.one false g (.ints k xs co)))
    |_=>False
   |_=>False
  |_=>False)
theorem xA {P:Program}{T:List TI}(hT:av P T){M:AH}{src dst i g off n c:Nat}{K:AV→AH→Prop}{ρ:Env}{w:World}(hs:aW ρ M w)(h:zZ T M src dst i g off n c K):
 ∃v M' ρ' w',(convert src dst ((AV.sl i g off n c).c ρ)).run P w=.ok (v.c ρ') w'∧K v M'∧v.ok ρ'∧aW ρ' M' w'∧Ext ρ M w ρ' M' w':=by
 unfold zZ at h
 replace h:=aw h
 obtain⟨hb,h⟩:=h
 obtain rfl:src=dst:=Nat.eq_of_beq_eq_true hb
 split at h
 ·rename_i e _ _ _ h1
  split at h
  ·rename_i h3
   obtain⟨d1,uk,k1⟩:=hT.gY h1
   obtain⟨d3,Qb,k3⟩:=hT.gY h3
   obtain rfl:=aR k1
   obtain rfl:=ew k3
   split at h
   ·rename_i g' k xs co hm
    obtain⟨⟨rfl,wu⟩,hK⟩:=h
    rcases hs.holds i g true _ (ao hm)with⟨q,hq,hh⟩|⟨_,hv⟩
    ·obtain⟨cur,e',fr,c1,c2,c3,c4⟩:=hh.out rfl
     have hc:(AV.sl i g off n c).c ρ=.slice (some ⟨q.1,q.2+off,none⟩) n c:=by simp[AV.c,hq]
     have aN:=sg (P:=P) (off:=q.2+off) (n:=n) (c:=c) uk Qb c1
     obtain⟨s1,s2⟩:=DM (w':=w.freeze ⟨q.1,cur.size,none⟩ 1) hs hm rfl hq (fun b hb=>AM hb) (fun c e fr hc=>CK hc) (by unfold World.freeze;rw[if_neg (by decide)];simp) (by unfold World.freeze;rw[if_neg (by decide)]) (by unfold World.freeze;rw[if_neg (by decide)]) (by unfold World.freeze;rw[if_neg (by decide)])
     exact⟨_,_,ρ,_,by rw[hc];exact aN,hK,by simp[AV.ok,hq],s1,s2⟩
    ·obtain⟨_,h0⟩:=hv;omega
   ·exact h.elim
  ·exact h.elim
 ·exact h.elim
end Go.Proofs.Ytibadaomjlkoaaa
open Go.RowKit
namespace Go.Proofs.Ytibadaomjlkoaaa
def Mx (T:List TI)(M:AH)(tD tS:Nat)(d x:AV)(K:AV→AH→Prop):Prop:=
 match T[tD]?,T[tS]? with
 |some ⟨.slice e,_,_,_⟩,some ⟨.slice _,_,_,_⟩=>match T[e]? with
  |some ⟨.int k,1,_,_⟩=>match d,x with
   | .sl i g off n c,.sl i2 g2 Ps n2 c2=>match M[i]? with
     |some (.one true g' (.ints k1 xs co))=>(g=g'∧off+n≤xs.length∧xs.length≤co)∧cV k k1 (oI M k (.sl i2 g2 Ps (min n2 n) c2) fun ys m=>∀zs,zs=xs.take off++ys++xs.drop (off+m)→K (.int .i64 (m:Int)) (M.set i (.one true g (.ints k zs co))))
     |_=>False
   |_,_=>False
  |_=>False
 |_,_=>False
theorem CY {P:Program}{ρ:Env}{M:AH}{w:World}{T:List TI}(hT:av P T)(hs:aW ρ M w){tD tS ty:Nat}{d x:AV}{K:AV→AH→Prop}(h:Mx T M tD tS d x K):
 ∃v M' w',(Builtin.copy_ #[tD,tS] ty #[d.c ρ,x.c ρ]).run P w=.ok (v.c ρ) w'∧K v M'∧v.ok ρ∧aW ρ M' w'∧Ext ρ M w ρ M' w':=by
 unfold Mx at h
 split at h
 ·rename_i e _ _ _ e2 _ _ _ h1 h2
  split at h
  ·rename_i k _ _ h3
   obtain⟨d1,uk,k1⟩:=hT.gY h1
   obtain rfl:=aR k1
   have fb:=hT.size h3
   split at h
   ·rename_i i g off n c i2 g2 Ps n2 c2
    split at h
    ·rename_i g' k1 xs co hm
     obtain⟨⟨rfl,hle,wu⟩,h⟩:=h
     replace h:=bl h
     obtain⟨rfl,h⟩:=h
     obtain⟨ys,m,hl,hK,hS⟩:=gZ hT hs h2 (x:=.sl i2 g2 Ps (min n2 n) c2) rfl h
     obtain⟨a2,qJ,_⟩:=Iq (ρ:=ρ) (i:=i2) (g:=g2) (off:=Ps) (n:=n2) (c:=c2)
     have JY:=BO (n':=min n2 n) (c':=c2) qJ
     rw[JY]at hS
     have WH:min n2 n=m:=by
      have:=hS.len w
      simpa[Builtin.lenOf]using this
     have fX:(Builtin.firstCells 1 m (.slice a2 n2 c2)).run P w=.ok ((ys.map (Value.int k)).toArray) w:=by
      have:=hS.cells
      cases a2<;>simpa[Builtin.firstCells]using this
     rcases hs.holds i g true _ (ao hm)with⟨q,hq,hh⟩|⟨hq,hv⟩
     ·obtain⟨w',aN,h4,h5⟩:=ia (P:=P) (k0:=off) (vs:=ys.map (AV.int k)) (x':=.ints k (xs.take off++ys++xs.drop (off+m)) co) hs hm hq rfl rfl
       (by rw[AV.aQ];intro v hv;obtain⟨z,_,rfl⟩:=List.mem_map.1 hv;trivial)
       (by rw[List.all_eq_true];intro v hv;obtain⟨z,_,rfl⟩:=List.mem_map.1 hv;rfl) (by simp[af.size];omega) rfl (by
        intro j v hv
        simp only[af.at,Option.map_eq_some_iff]at hv
        obtain⟨z,hz,rfl⟩:=hv
        simp only[List.length_map,hl]
        have ht:(xs.take off).length=off:=by simp;omega
        by_cases hj:j<off
        ·right
         refine⟨.inl hj,?_⟩
         rw[List.append_assoc,List.getElem?_append_left (by omega),List.getElem?_take,if_pos hj]at hz
         simp[af.at,hz]
        ·by_cases U6:j<off+m
         ·left
          refine⟨_,by omega,U6,?_,rfl,trivial⟩
          rw[List.append_assoc,List.getElem?_append_right (by omega),List.getElem?_append_left (by omega),ht]at hz
          simp[hz]
         ·right
          refine⟨.inr (by omega),?_⟩
          rw[List.getElem?_append_right (by simp;omega),List.getElem?_drop]at hz
          have e:off+m+(j-(xs.take off++ys).length)=j:=by simp;omega
          rw[e]at hz
          simp[af.at,hz])
      refine⟨_,_,w',?_,hK _ rfl,trivial,h4,h5⟩
      rw[yX]at aN
      have hd:(AV.sl i g off n c).c ρ=.slice (some ⟨q.1,q.2+off,none⟩) n c:=by simp[AV.c,hq]
      rw[hd,qJ]
      have hmn:Nat.min n2 n=m:=WH
      simp[Builtin.copy_,run_underlying uk,Builtin.lenOf,fb,hmn,fX,aN,goInt,AV.c]
     ·simp only[af.b9]at hv
      obtain⟨rfl,rfl⟩:=hv
      have hn:n=0:=by simp at hle;omega
      have ho:off=0:=by simp at hle;omega
      subst hn;subst ho
      obtain rfl:m=0:=by omega
      obtain rfl:ys=[]:=List.eq_nil_of_length_eq_zero hl
      have hK':=hK [] rfl
      have hM:M.set i (.one true g (.ints k [] 0))=M:=by
       obtain⟨bh,he⟩:=List.getElem?_eq_some_iff.1 hm
       rw[←he];exact List.set_getElem_self bh
      rw[hM]at hK'
      refine⟨_,_,w,?_,hK',trivial,hs,Ext.refl _ _ _⟩
      have hd:(AV.sl i g 0 0 c).c ρ=.slice none 0 c:=by simp[AV.c,hq]
      rw[hd,qJ]
      simp[Builtin.copy_,run_underlying uk,Builtin.lenOf,fb,fX,goInt,AV.c]
    ·exact h.elim
   ·exact h.elim
  ·exact h.elim
 ·exact h.elim
end Go.Proofs.Ytibadaomjlkoaaa
open Go.RowKit
namespace Go.Proofs.Ytibadaomjlkoaaa
def vR (T:List TI)(k:Nat):Option MK:=
 match T[k]? with
 |some ⟨.int kk,_,_,_⟩=>some (.int kk)
 |some ⟨.struct [(0,f0),(1,f1)],_,_,_⟩=>match T[f0]?,T[f1]? with
  |some ⟨.int k0,_,_,_⟩,some ⟨.int k1,_,_,_⟩=>some (.pair k0 k1)
  |_,_=>none
 |some ⟨.arr n e,_,_,_⟩=>match Nat.beq n 3,T[e]? with
  |true,some ⟨.int kk,1,_,_⟩=>some (.x6 kk)
  |_,_=>none
 |_=>none
def PG (mk:MK)(v:AV):Option (Int×Int):=
 match mk,v with
 | .int k,.int k' n=>match lY k k' with
   |true=>some (n,0)
   |false=>none
 | .pair k0 k1,.agg [.int a x,.int b y]=>match lY k0 a&&lY k1 b with
   |true=>some (x,y)
   |false=>none
 | .x6 k,.agg [.int a x,.int b y,.int c z]=>match lY k a&&lY k b&&lY k c with
   |true=>some (x,y*256+z)
   |false=>none
 |_,_=>none
def PF (mk:MK)(v:AV)(p:Prop):Prop:=
 match mk with
 | .x6 _=>match v with
   | .agg [_,_,.int _ z]=>(0≤z∧z<256)∧p
   |_=>False
 |_=>p
def Ts (mk:MK)(v:AV):Prop:=
 match mk with
 | .x6 _=>match v with
   | .agg [_,_,.int _ z]=>0≤z∧z<256
   |_=>False
 |_=>True
theorem v9 {mk:MK}{v:AV}{p:Prop}(h:PF mk v p):Ts mk v∧p:=by
 unfold PF at h
 unfold Ts
 split at h
 ·split at h
  ·exact h
  ·exact h.elim
 ·rename_i hh
  cases mk with
  |x6 k=>exact absurd rfl (hh k)
  |int k=>exact⟨trivial,h⟩
  |pair k0 k1=>exact⟨trivial,h⟩
def z6 (a b:MK)(p:Prop):Prop:=
 match a,b with
 | .int k,.int k'=>cV k k' p
 | .pair k0 k1,.pair a b=>cV k0 a (cV k1 b p)
 | .x6 k,.x6 k'=>cV k k' p
 |_,_=>False
def J0 (te:TI):Option AV:=
 match te.k.isAgg with
 |true=>some (.agg te.zero)
 |false=>match te.zero with
  |[z]=>some z
  |_=>none
def pU (k:Int×Int):List ((Int×Int)×AV)→Option AV
 |[]=>none
 |(k',v)::l=>if k=k' then some v else pU k l
def rZ (k:Int×Int)(v:AV):List ((Int×Int)×AV)→List ((Int×Int)×AV)
 |[]=>[(k,v)]
 |(k',v')::l=>if k=k' then(k',v)::l else(k',v')::rZ k v l
def K1 (ok:Bool)(v:AV)(b:AV)(K:AV→Prop):Prop:=
 match ok with
 |true=>K (.aE [v,b])
 |false=>K v
def yQ (T:List TI)(M:AH)(t:Nat)(x ix:AV)(ok:Bool)(K:AV→Prop):Prop:=
 match T[t]? with
 |some ⟨.map kt et,_,_,_⟩=>match vR T kt,T[et]? with
  |some mk,some te=>match PG mk ix,J0 te with
   |some k,some z=>PF mk ix (match x with
    | .nm=>K1 ok z .ff K
    | .mp i g=>fP M i g fun _ y=>match y with
      | .map mk' es=>z6 mk mk' ((∀v,pU k es=some v→K1 ok v .tt K)∧(pU k es=none→K1 ok z .ff K))
      |_=>False
    |_=>False)
   |_,_=>False
  |_,_=>False
 |_=>False
def oX (T:List TI)(M:AH)(t:Nat)(x:AV)(K:AV→Prop):Prop:=
 match T[t]? with
 |some ⟨.map _ _,_,_,_⟩=>match x with
  | .nm=>K (.int .i64 0)
  | .mp i g=>fP M i g fun _ y=>match y with
    | .map _ es=>K (.int .i64 (es.length:Int))
    |_=>False
  |_=>False
 |_=>False
def Nv (T:List TI)(M:AH)(t:Nat)(x ix v:AV)(K:AH→Prop):Prop:=
 match T[t]? with
 |some ⟨.map kt et,_,_,_⟩=>match vR T kt with
  |some mk=>match PG mk ix with
   |some k=>PF mk ix (match x with
    | .mp i g=>match M[i]? with
      |some (.one true g' (.map mk' es))=>g=g'∧z6 mk mk' (∀ER,ER=rZ k v es→K (M.set i (.one true g' (.map mk' ER))))
      |_=>False
    |_=>False)
   |none=>False
  |none=>False
 |_=>False
def vT (T:List TI)(M:AH)(t:Nat)(K:AV→AH→Prop):Prop:=
 match T[t]? with
 |some ⟨.map kt et,_,_,_⟩=>match vR T kt with
  |some mk=>K (.mp M.length 0) (M++[.one true 0 (.map mk [])])
  |none=>False
 |_=>False
theorem ri {a b:MK}{p:Prop}(h:z6 a b p):a=b∧p:=by
 unfold z6 at h
 split at h
 ·replace h:=bl h
  obtain⟨rfl,h⟩:=h
  exact⟨rfl,h⟩
 ·replace h:=bl h
  obtain⟨rfl,h⟩:=h
  replace h:=bl h
  obtain⟨rfl,h⟩:=h
  exact⟨rfl,h⟩
 ·replace h:=bl h
  obtain⟨rfl,h⟩:=h
  exact⟨rfl,h⟩
 ·exact h.elim
theorem yW {mk:MK}{v:AV}{k:Int×Int}(hr:Ts mk v)(h:PG mk v=some k)(ρ:Env):mk.wf k∧v.c ρ=mk.v k:=by
 unfold PG at h
 split at h
 ·split at h
  ·rename_i hk
   cases h
   obtain rfl:=fE hk
   exact⟨rfl,rfl⟩
  ·cases h
 ·split at h
  ·rename_i hk
   simp only[Bool.and_eq_true]at hk
   cases h
   obtain rfl:=fE hk.1
   obtain rfl:=fE hk.2
   exact⟨trivial,rfl⟩
  ·cases h
 ·split at h
  ·rename_i hk
   simp only[Bool.and_eq_true]at hk
   cases h
   obtain rfl:=fE hk.1.1
   obtain rfl:=fE hk.1.2
   obtain rfl:=fE hk.2
   rename_i x y z _
   have hr:0≤z∧z<256:=hr
   refine⟨trivial,?_⟩
   show Value.agg #[.int _ x,.int _ y,.int _ z]=.agg #[.int _ x,.int _ ((y*256+z)/256),.int _ ((y*256+z)%256)]
   rw[show(y*256+z)/256=y by omega,show(y*256+z)%256=z by omega]
  ·cases h
 ·cases h
theorem yL {P:Program}{T:List TI}(hT:av P T){kt:Nat}{kk:IntKind}(h:vR T kt=some (.int kk)):P.underlying kt=some (.int kk):=by
 unfold vR at h
 split at h
 ·rename_i h1
  obtain⟨d,hd,hk⟩:=hT.gY h1
  obtain rfl:=ew hk
  cases h
  exact hd
 ·split at h<;>cases h
 ·split at h<;>cases h
 ·cases h
theorem Bq {P:Program}{T:List TI}(hT:av P T){et:Nat}{te:TI}(he:T[et]?=some te){z:AV}(h:J0 te=some z)(ρ:Env):z.ok ρ∧∀w,(zeroValue et).run P w=.ok (z.c ρ) w:=by
 have aF:=hT.ou he ρ
 obtain⟨d,i,z0,h1,h2,h3,e⟩:=hT.get he
 have hr:∀w,(zeroValue et).run P w=.ok z0 w:=fun w=>by simp[zeroValue,typeInfo,h2,h3]
 have hc:z0.cells.toList=AV.cl ρ te.zero:=by rw[e];simp[AV.bc,Function.comp_def,rz]
 unfold J0 at h
 split at h
 ·rename_i hk
  cases h
  refine⟨aF,fun w=>?_⟩
  rw[hr]
  have:z0=.agg (AV.cl ρ te.zero).toArray:=by
   have fX:z0.cells=(AV.cl ρ te.zero).toArray:=by apply Array.toList_inj.1;simpa using hc
   obtain⟨cs,rfl⟩:=(hT.shape he h2 h3).2 hk
   rw[←fX];rfl
  rw[this];rfl
 ·rename_i hk
  split at h
  ·rename_i z' hz
   cases h
   rw[hz]at aF hc
   refine⟨aF.1,fun w=>?_⟩
   have:z0=z.c ρ:=by
    cases z0 with
    |agg cs=>exact absurd ((hT.shape he h2 h3).1 ⟨cs,rfl⟩) (by rw[hk];decide)
    |_=>simpa[Value.cells,AV.cl]using hc
   rw[hr,this]
  ·cases h
def dm (k:Int×Int):List ((Int×Int)×AV)→Nat→Option (Nat×AV)
 |[],_=>none
 |(k',v)::l,j=>if k=k' then some (j,v)else dm k l (j+1)
theorem wC (k:Int×Int):∀(l:List ((Int×Int)×AV))(j:Nat),(dm k l j).map (·.2)=pU k l
 |[],_=>rfl
 |(k',v)::l,j=>by
  simp only[dm,pU]
  split
  ·rfl
  ·exact wC k l (j+1)
theorem tR {k:Int×Int}:∀{l:List ((Int×Int)×AV)}{j:Nat},dm k l j=none→∀v,rZ k v l=l++[(k,v)]
 |[],_,_,_=>rfl
 |(k',v')::l,j,h,v=>by
  simp only[dm]at h
  split at h
  ·cases h
  ·rename_i hk
   simp only[rZ,if_neg hk,tR h v,List.cons_append]
theorem n7 {k:Int×Int}:∀{l:List ((Int×Int)×AV)}{j i:Nat}{u:AV},dm k l j=some (i,u)→j≤i∧l[i-j]?=some (k,u)∧∀v,rZ k v l=l.set (i-j) (k,v)
 |[],_,_,_,h=>by cases h
 |(k',v')::l,j,i,u,h=>by
  simp only[dm]at h
  split at h
  ·rename_i hk
   cases h;subst hk
   simp[rZ]
  ·rename_i hk
   obtain⟨h1,h2,h3⟩:=n7 h
   refine⟨by omega,?_,fun v=>?_⟩
   ·rw[show i-j=(i-(j+1))+1 by omega,List.getElem?_cons_succ];exact h2
   ·rw[show i-j=(i-(j+1))+1 by omega,List.set_cons_succ]
    simp only[rZ,if_neg hk,h3 v]
theorem tQ {kk:IntKind}{k:Int×Int}(hk:k.2=0)(ρ:Env):∀(l:List MapEntry)(es:List ((Int×Int)×AV))(j:Nat),l.map (fun e=>(e.key,e.val))=es.map (fun p=>((MK.int kk).v p.1,p.2.c ρ))→(∀p∈es,p.1.2=0)→
 Instr.findNow (.int kk) (.int kk k.1) l j=some ((dm k es j).map fun x=>(x.1,x.2.c ρ))
 |[],[],_,_,_=>rfl
 |[],_::_,_,h,_=>by cases h
 |_::_,[],_,h,_=>by cases h
 |e::l,(k',v)::es,j,h,hz=>by
  simp only[List.map_cons,List.cons.injEq,Prod.mk.injEq]at h
  obtain⟨⟨h1,h2⟩,h3⟩:=h
  have mr:k'.2=0:=hz (k',v) (by simp)
  simp only[Instr.findNow,h1,MK.v,Instr.sameNow,if_true,dm]
  by_cases Bm:k=k'
  ·subst Bm
   simp[h2]
  ·have eN:(k.1==k'.1)=false:=by
    rw[beq_eq_false_iff_ne]
    intro e
    exact Bm (Prod.ext e (by rw[mr,hk]))
   rw[if_neg Bm]
   simp only[eN]
   exact tQ hk ρ l es (j+1) h3 (fun p hp=>hz p (by simp[hp]))
theorem eR {P:Program}{kt:Nat}{kk:IntKind}(hd:P.underlying kt=some (.int kk)){b:Bool}{n:Nat}{x:Int}{w:World}:(Instr.checkKey b (n+1) kt (.int kk x)).run P w=.ok () w:=by
 simp[Instr.checkKey,run_underlying hd]
theorem tZ {P:Program}{kt:Nat}{kk:IntKind}(hd:P.underlying kt=some (.int kk)){k:Int×Int}(hk:k.2=0){ρ:Env}{l:List MapEntry}{es:List ((Int×Int)×AV)}(h:l.map (fun e=>(e.key,e.val))=es.map (fun p=>((MK.int kk).v p.1,p.2.c ρ)))(hz:∀p∈es,p.1.2=0){w:World}:
 (Instr.findKey kt (.int kk k.1) l).run P w=.ok ((dm k es 0).map fun x=>(x.1,x.2.c ρ)) w:=by
 simp[Instr.findKey,run_underlying hd,tQ hk ρ l es 0 h hz]
structure HW (P:Program)(T:List TI)(kt:Nat)(k0 k1:IntKind):Prop where
 ex:∃f0 f1:Field,P.underlying kt=some (.struct #[f0,f1])∧f0.offset=0∧f1.offset=1∧P.underlying f0.type=some (.int k0)∧P.underlying f1.type=some (.int k1)∧
  (∃ti0,T[f0.type]?=some ti0∧ti0.k=.int k0)∧(∃ti1,T[f1.type]?=some ti1∧ti1.k=.int k1)∧∃ti,T[kt]?=some ti∧ti.k=.struct [(0,f0.type),(1,f1.type)]
theorem B8 {P:Program}{T:List TI}(hT:av P T){kt:Nat}{k0 k1:IntKind}(h:vR T kt=some (.pair k0 k1)):HW P T kt k0 k1:=by
 unfold vR at h
 split at h
 ·cases h
 ·rename_i f0 f1 _ _ _ h1
  split at h
  ·rename_i ka _ _ _ kb _ _ _ h2 h3
   cases h
   obtain⟨d,hd,hk⟩:=hT.gY h1
   obtain⟨fs,rfl,JX⟩:=ig hk
   obtain⟨da,WW,hka⟩:=hT.gY h2
   obtain rfl:=ew hka
   obtain⟨db,hdb,hkb⟩:=hT.gY h3
   obtain rfl:=ew hkb
   obtain⟨l⟩:=fs
   match l,JX with
   |[a,b],JX=>
    simp only[List.map_cons,List.map_nil,List.cons.injEq,Prod.mk.injEq,and_true]at JX
    obtain⟨⟨e1,rfl⟩,e2,rfl⟩:=JX
    exact⟨a,b,hd,e1.symm,e2.symm,WW,hdb,⟨_,h2,rfl⟩,⟨_,h3,rfl⟩,_,h1,rfl⟩
   |[],JX=>simp at JX
   |[a],JX=>simp at JX
   |_::_::_::_,JX=>simp at JX
  ·cases h
 ·split at h<;>cases h
 ·cases h
structure MV (P:Program)(T:List TI)(kt:Nat)(k:IntKind):Prop where
 ex:∃e ti,P.underlying kt=some (.array 3 e)∧P.underlying e=some (.int k)∧T[e]?=some ti∧ti.k=.int k∧ti.size=1
theorem GO {P:Program}{T:List TI}(hT:av P T){kt:Nat}{k:IntKind}(h:vR T kt=some (.x6 k)):MV P T kt k:=by
 unfold vR at h
 split at h
 ·cases h
 ·split at h<;>cases h
 ·rename_i n e _ _ _ h1
  split at h
  ·rename_i kk _ _ hn h2
   cases h
   obtain⟨d,hd,hk⟩:=hT.gY h1
   obtain rfl:=kS hk
   obtain⟨d2,HC,Jk⟩:=hT.gY h2
   obtain rfl:=ew Jk
   obtain rfl:n=3:=Nat.eq_of_beq_eq_true hn
   exact⟨e,_,hd,HC,h2,rfl,rfl⟩
  ·cases h
 ·cases h
theorem eP {P:Program}{T:List TI}(hT:av P T){t:Nat}{k k0:IntKind}{ti:TI}(h:T[t]?=some ti)(hk:ti.k=.int k){x y z:Int}{off:Nat}{n:Int}(hg:[AV.int k0 x,AV.int k0 y,AV.int k0 z][off]?=some (.int k0 n))(w:World):
 (part t #[.int k0 x,.int k0 y,.int k0 z] off).run P w=.ok (.int k0 n) w:=by
 obtain⟨v1,e1,_,p1⟩:=dF hT h (l:=[AV.int k0 x,AV.int k0 y,AV.int k0 z]) (off:=off) (ρ:=fun _ _=>none) (K:=fun v=>v=.int k0 n) ⟨trivial,trivial,trivial,trivial⟩ (by unfold pK;rw[hk];simp only[TK.isAgg];rw[hg])
 subst e1
 exact p1 w
theorem si {P:Program}{T:List TI}(hT:av P T){kt:Nat}{k:IntKind}(h:MV P T kt k){b:Bool}{n:Nat}{x y z:Int}{w:World}:(Instr.checkKey b (n+2) kt (.agg #[.int k x,.int k y,.int k z])).run P w=.ok () w:=by
 obtain⟨e,ti,hd,he,ht,hk,hs⟩:=h.ex
 have p0:=eP (P:=P) hT ht hk (k0:=k) (x:=x) (y:=y) (z:=z) (off:=0) (n:=x) rfl w
 have p1:=eP (P:=P) hT ht hk (k0:=k) (x:=x) (y:=y) (z:=z) (off:=1) (n:=y) rfl w
 have p2:=eP (P:=P) hT ht hk (k0:=k) (x:=x) (y:=y) (z:=z) (off:=2) (n:=z) rfl w
 have fb:=hT.size (P:=P) ht w
 rw[hs]at fb
 unfold Instr.checkKey
 simp only[Sem.run_bind,run_underlying hd,Result.andThen_ok]
 simp only[Std.Legacy.Range.forIn_eq_forIn_range',Std.Legacy.Range.size,Nat.sub_zero,Nat.add_one_sub_one,Nat.div_one]
 simp[List.range',fb,p0,p1,p2,eR he]
theorem ua {P:Program}{T:List TI}(hT:av P T){kt:Nat}{k:IntKind}(h:MV P T kt k)(d:Nat){x y z x' y' z':Int}{w:World}:
 (Op.equalIn (d+2) kt (.agg #[.int k x,.int k y,.int k z]) (.agg #[.int k x',.int k y',.int k z'])).run P w=.ok (decide (x=x'∧y=y'∧z=z')) w:=by
 obtain⟨e,ti,hd,he,ht,hk,hs⟩:=h.ex
 have p0:=fun(x y z:Int) (w:World)=>eP (P:=P) hT ht hk (k0:=k) (x:=x) (y:=y) (z:=z) (off:=0) (n:=x) rfl w
 have p1:=fun(x y z:Int) (w:World)=>eP (P:=P) hT ht hk (k0:=k) (x:=x) (y:=y) (z:=z) (off:=1) (n:=y) rfl w
 have p2:=fun(x y z:Int) (w:World)=>eP (P:=P) hT ht hk (k0:=k) (x:=x) (y:=y) (z:=z) (off:=2) (n:=z) rfl w
 have fb:=hT.size (P:=P) ht w
 rw[hs]at fb
 have e1:∀(a b:Int)(w:World),(Op.equalIn (d+1) e (.int k a) (.int k b)).run P w=.ok (a==b) w:=fun a b w=>by
  simp[Op.equalIn,run_underlying he]
 show(Op.equalIn ((d+1)+1) kt _ _).run P w=_
 rw[Op.equalIn]
 simp only[Sem.run_bind,run_underlying hd,Result.andThen_ok,fb]
 simp only[Std.Legacy.Range.forIn_eq_forIn_range',Std.Legacy.Range.size,Nat.sub_zero,Nat.add_one_sub_one,Nat.div_one]
 by_cases a:x=x'<;>by_cases b:y=y'<;>by_cases c:z=z'<;>simp[List.range',p0,p1,p2,e1,a,b,c]
theorem xB {P:Program}{T:List TI}(hT:av P T){kt:Nat}{k:IntKind}(h:MV P T kt k){x y z x' y' z':Int}{w:World}:
 (Op.equal kt (.agg #[.int k x,.int k y,.int k z]) (.agg #[.int k x',.int k y',.int k z'])).run P w=.ok (decide (x=x'∧y=y'∧z=z')) w:=ua hT h 9998
theorem jt {P:Program}{T:List TI}(hT:av P T){kt:Nat}{kk:IntKind}(hp:MV P T kt kk){k:Int×Int}(ρ:Env){w:World}:∀(l:List MapEntry)(es:List ((Int×Int)×AV))(j:Nat),l.map (fun e=>(e.key,e.val))=es.map (fun p=>((MK.x6 kk).v p.1,p.2.c ρ))→
 (Instr.findAsking kt ((MK.x6 kk).v k) l j).run P w=.ok ((dm k es j).map fun x=>(x.1,x.2.c ρ)) w
 |[],[],_,_=>rfl
 |[],_::_,_,h=>by cases h
 |_::_,[],_,h=>by cases h
 |e::l,(k',v)::es,j,h=>by
  simp only[List.map_cons,List.cons.injEq,Prod.mk.injEq]at h
  obtain⟨⟨h1,h2⟩,h3⟩:=h
  have he:=xB (P:=P) hT hp (x:=k.1) (y:=k.2/256) (z:=k.2%256) (x':=k'.1) (y':=k'.2/256) (z':=k'.2%256) (w:=w)
  simp only[Instr.findAsking,h1,MK.v,Sem.run_bind,he,Result.andThen_ok,dm]
  by_cases Bm:k=k'
  ·subst Bm
   simp[h2]
  ·rw[if_neg Bm]
   have:decide (k.1=k'.1∧k.2/256=k'.2/256∧k.2%256=k'.2%256)=false:=decide_eq_false fun h=>Bm (Prod.ext h.1 (by omega))
   rw[this]
   simp only[Bool.false_eq_true,if_false]
   exact jt hT hp ρ l es (j+1) h3
theorem pI {P:Program}{T:List TI}(hT:av P T){t:Nat}{k k0 k1:IntKind}{ti:TI}(h:T[t]?=some ti)(hk:ti.k=.int k){x y:Int}{off:Nat}{n:Int}(hg:[AV.int k0 x,AV.int k1 y][off]?=some (.int k n))(w:World):
 (part t #[.int k0 x,.int k1 y] off).run P w=.ok (.int k n) w:=by
 obtain⟨v1,e1,_,p1⟩:=dF hT h (l:=[AV.int k0 x,AV.int k1 y]) (off:=off) (ρ:=fun _ _=>none) (K:=fun v=>v=.int k n) ⟨trivial,trivial,trivial⟩ (by unfold pK;rw[hk];simp only[TK.isAgg];rw[hg])
 subst e1
 exact p1 w
theorem rj {P:Program}{T:List TI}(hT:av P T){kt:Nat}{k0 k1:IntKind}(h:HW P T kt k0 k1){b:Bool}{n:Nat}{x y:Int}{w:World}:(Instr.checkKey b (n+2) kt (.agg #[.int k0 x,.int k1 y])).run P w=.ok () w:=by
 obtain⟨f0,f1,hd,o0,o1,h0,h1,⟨t0,g0,q0⟩,⟨t1,g1,q1⟩,_⟩:=h.ex
 have p0:=pI (P:=P) hT g0 q0 (k0:=k0) (k1:=k1) (x:=x) (y:=y) (off:=f0.offset) (n:=x) (by rw[o0];rfl)
 have p1:=pI (P:=P) hT g1 q1 (k0:=k0) (k1:=k1) (x:=x) (y:=y) (off:=f1.offset) (n:=y) (by rw[o1];rfl)
 unfold Instr.checkKey
 simp only[Sem.run_bind,run_underlying hd,Result.andThen_ok]
 by_cases n0:f0.name="_"<;>by_cases n1:f1.name="_"<;>
  simp[n0,n1,p0 w,p1 w,eR h0,eR h1]
theorem vr {P:Program}{T:List TI}(hT:av P T){kt:Nat}{k0 k1:IntKind}(h:HW P T kt k0 k1){x y x' y':Int}{w:World}:
 (Op.equal kt (.agg #[.int k0 x,.int k1 y]) (.agg #[.int k0 x',.int k1 y'])).run P w=.ok (decide ((x,y)=(x',y'))) w:=by
 obtain⟨f0,f1,hd,o0,o1,h0,h1,⟨t0,g0,q0⟩,⟨t1,g1,q1⟩,ti,ht,hk⟩:=h.ex
 have PT:((#[f0,f1]:Array Field).toList.all fun f=>simpleT P f.type)=true:=by simp[simpleT,h0,h1]
 obtain⟨d,mv,_,aF⟩:=hT.Xz ht
 rw[hd]at mv;cases mv
 have hok':(P.stoodInHeld kt=false∧P.eqGuardType P.depth kt=false)∧((#[f0,f1]:Array Field).toList.all fun f=>f.name !="_")=true:=by
  unfold CR at aF
  simp only[PT,Bool.not_true,Bool.false_or,Bool.and_eq_true,Bool.not_eq_true']at aF
  exact aF
 have Zp:=hok'.2
 have key:Qq T [AV.int k0 x,AV.int k1 y] [AV.int k0 x',AV.int k1 y'] ((#[f0,f1]:Array Field).toList.map fun f=>(f.offset,f.type)) (fun r=>r=(decide (x=x')&&(decide (y=y')&&true))):=by
  have sk:∀(k:IntKind)(p:Prop),p→cV k k p:=by intro k p hp;cases k<;>exact hp
  obtain⟨_,_,_,_⟩:=t0
  obtain⟨_,_,_,_⟩:=t1
  simp only at q0 q1
  subst q0;subst q1
  simp only[List.map_cons,List.map_nil,Qq,o0,o1,g0,g1,List.getElem?_cons_zero,List.getElem?_cons_succ]
  refine sk _ _ (sk _ _ (sk _ _ (sk _ _ ?_)))
  trivial
 obtain⟨r,hr,aN⟩:=pn hT (la:=[AV.int k0 x,AV.int k1 y]) (lb:=[AV.int k0 x',AV.int k1 y']) (ρ:=fun _ _=>none) ⟨trivial,trivial,trivial⟩ ⟨trivial,trivial,trivial⟩ _ _ key Zp
 have y8:P.fieldsOf kt=#[f0,f1]:=by unfold Program.fieldsOf;rw[hd]
 have a8:P.underlying kt=some (.struct (P.fieldsOf kt)):=by rw[y8];exact hd
 have he:=run_equalIn_struct (P:=P) w 9999 kt #[.int k0 x,.int k1 y] #[.int k0 x',.int k1 y'] a8 hok'.1.1
 rw[y8]at he
 have UU:=aN 9998 w
 simp only[AV.cl,AV.c]at UU
 rw[UU]at he
 have:Op.equal kt (.agg #[.int k0 x,.int k1 y]) (.agg #[.int k0 x',.int k1 y'])=Op.equalIn 10000 kt (.agg #[.int k0 x,.int k1 y]) (.agg #[.int k0 x',.int k1 y']):=rfl
 rw[this,he,hr]
 congr 1
 by_cases a:x=x'<;>by_cases b:y=y'<;>simp[a,b]
theorem iU {P:Program}{T:List TI}(hT:av P T){kt:Nat}{k0 k1:IntKind}(hp:HW P T kt k0 k1){k:Int×Int}(ρ:Env){w:World}:∀(l:List MapEntry)(es:List ((Int×Int)×AV))(j:Nat),l.map (fun e=>(e.key,e.val))=es.map (fun p=>((MK.pair k0 k1).v p.1,p.2.c ρ))→
 (Instr.findAsking kt ((MK.pair k0 k1).v k) l j).run P w=.ok ((dm k es j).map fun x=>(x.1,x.2.c ρ)) w
 |[],[],_,_=>rfl
 |[],_::_,_,h=>by cases h
 |_::_,[],_,h=>by cases h
 |e::l,(k',v)::es,j,h=>by
  simp only[List.map_cons,List.cons.injEq,Prod.mk.injEq]at h
  obtain⟨⟨h1,h2⟩,h3⟩:=h
  have he:=vr (P:=P) hT hp (x:=k.1) (y:=k.2) (x':=k'.1) (y':=k'.2) (w:=w)
  simp only[Instr.findAsking,h1,MK.v,Sem.run_bind,he,Result.andThen_ok,dm]
  by_cases Bm:k=k'
  ·subst Bm
   simp[h2]
  ·rw[if_neg Bm]
   have:decide ((k.1,k.2)=(k'.1,k'.2))=false:=decide_eq_false Bm
   rw[this]
   simp only[Bool.false_eq_true,if_false]
   exact iU hT hp ρ l es (j+1) h3
theorem run_checkKey {P:Program}{T:List TI}(hT:av P T){kt:Nat}{mk:MK}(h:vR T kt=some mk){b:Bool}{k:Int×Int}{w:World}:(Instr.checkKey b 10000 kt (mk.v k)).run P w=.ok () w:=by
 cases mk with
 |int kk=>exact eR (yL hT h)
 |pair k0 k1=>exact rj hT (B8 hT h)
 |x6 k=>exact si hT (GO hT h)
theorem run_findKey {P:Program}{T:List TI}(hT:av P T){kt:Nat}{mk:MK}(h:vR T kt=some mk){k:Int×Int}(hk:mk.wf k){ρ:Env}{l:List MapEntry}{es:List ((Int×Int)×AV)}(hl:l.map (fun e=>(e.key,e.val))=es.map (fun p=>(mk.v p.1,p.2.c ρ)))(hz:∀p∈es,mk.wf p.1){w:World}:
 (Instr.findKey kt (mk.v k) l).run P w=.ok ((dm k es 0).map fun x=>(x.1,x.2.c ρ)) w:=by
 cases mk with
 |int kk=>exact tZ (yL hT h) hk hl hz
 |pair k0 k1=>
  have hp:=B8 hT h
  obtain⟨f0,f1,hd,_⟩:=hp.ex
  have ha:=iU (P:=P) hT hp (k:=k) ρ (w:=w) l es 0 hl
  cases l with
  |nil=>
   cases es with
   |nil=>simp[Instr.findKey,run_underlying hd,Instr.findNow,dm]
   |cons p es=>cases hl
  |cons e l=>
   have:Instr.findNow (.struct #[f0,f1]) ((MK.pair k0 k1).v k) (e::l) 0=none:=by simp[Instr.findNow,Instr.sameNow]
   simp only[Instr.findKey,Sem.run_bind,run_underlying hd,Result.andThen_ok,this]
   exact ha
 |x6 kk=>
  have hp:=GO hT h
  obtain⟨el,ti,hd,_⟩:=hp.ex
  have ha:=jt (P:=P) hT hp (k:=k) ρ (w:=w) l es 0 hl
  cases l with
  |nil=>
   cases es with
   |nil=>simp[Instr.findKey,run_underlying hd,Instr.findNow,dm]
   |cons p es=>cases hl
  |cons e l=>
   have:Instr.findNow (.array 3 el) ((MK.x6 kk).v k) (e::l) 0=none:=by simp[Instr.findNow,Instr.sameNow]
   simp only[Instr.findKey,Sem.run_bind,run_underlying hd,Result.andThen_ok,this]
   exact ha
theorem z7 (mk:MK)(k:Int×Int):Instr.sameBits 10000 (mk.v k) (mk.v k)=true:=by
 cases mk<;>simp[MK.v,Instr.sameBits]
theorem nA {P:Program}{w:World}{b:Nat}{es:Array MapEntry}{c:Nat}(h:w.heap[b]?=some (.map es c)):(getObj b).run P w=.ok (.map es c) w:=by simp[getObj,Sem.run,h]
theorem BW {P:Program}{w:World}{b:Nat}{es:Array MapEntry}{c:Nat}(o:Obj)(h:w.heap[b]?=some (.map es c)):(setObj b o).run P w=.ok () (w.putObj b o):=by simp[setObj,Sem.run,h,World.putObj]
theorem Eh {ρ:Env}{M:AH}{i g:Nat}{own:Bool}{mk:MK}{es:List ((Int×Int)×AV)}(hk:kB ρ M)(hs:slot M i g=some (own,.map mk es)):∃q,ρ i g=some (some q)∧∀w,fy ρ M i w→∃(fM:Array MapEntry) (clock:Nat),w.heap[q.1]?=some (.map fM clock)∧fM.toList.map (fun e=>(e.key,e.val))=es.map (fun p=>(mk.v p.1,p.2.c ρ))∧(∀p∈es,p.2.ok ρ∧mk.wf p.1)∧(∀e∈fM.toList,e.born<clock)∧(fM.toList.map (·.born)).Nodup:=by
 rcases hk i g own _ hs with⟨q,hq⟩|⟨_,hv⟩
 ·refine⟨q,hq,fun w hw=>?_⟩
  rcases(hw g own _ q hs hq).all with⟨h0,_⟩|⟨_,_,h⟩
  ·cases h0
  ·exact h
 ·exact hv.elim
theorem An {ρ:Env}{i g:Nat}{q:Nat×Nat}(h:ρ i g=some (some q)):(AV.mp i g).c ρ=.map (some q.1)∧(AV.mp i g).ok ρ:=by
 constructor
 ·simp[AV.c,h]
 ·simp[AV.ok,h]
theorem tG {P:Program}{T:List TI}(hT:av P T){M:AH}{t:Nat}{x ix:AV}{ok:Bool}{K:AV→Prop}{ρ:Env}(hk:kB ρ M){w0:World}(h0:fy ρ M x.id w0)(h:yQ T M t x ix ok K):
 ∃v,K v∧v.ok ρ∧x.ok ρ∧∀w,fy ρ M x.id w→(Instr.lookup t (x.c ρ) (ix.c ρ) ok).run P w=.ok (v.c ρ) w:=by
 unfold yQ at h
 split at h
 ·rename_i kt et _ _ _ h1
  obtain⟨d,hd,hk1⟩:=hT.gY h1
  have mv:d=.map kt et:=by cases d<;>simp_all[fO]
  subst mv
  split at h
  ·rename_i mk te lM sS
   split at h
   ·rename_i k z T5 hz
    replace h:=v9 h
    obtain⟨Nb,h⟩:=h
    obtain⟨Q1,T6⟩:=yW Nb T5 ρ
    have U9:=fun(b:Bool) (w:World)=>run_checkKey (P:=P) hT lM (b:=b) (k:=k) (w:=w)
    obtain⟨Y6,hzr⟩:=Bq hT sS hz ρ
    split at h
    ·refine⟨if ok then .aE [z,.ff]else z,?_,?_,trivial,fun w _=>?_⟩
     ·cases ok<;>exact h
     ·cases ok
      ·exact Y6
      ·exact⟨Y6,trivial,trivial⟩
     ·have Nf:=run_findKey (P:=P) (ρ:=ρ) (w:=w) hT lM Q1 (l:=[]) (es:=[]) rfl (by simp)
      rw[T6]
      cases ok<;>simp[Instr.lookup,run_underlying hd,AV.c,AV.cl,U9,Nf,dm,hzr]
    ·rename_i i g
     obtain⟨own,y,hs,h⟩:=ba h
     split at h
     ·rename_i mk' es
      replace h:=ri h
      obtain⟨rfl,hf,hn⟩:=h
      obtain⟨q,hq,hw⟩:=Eh hk hs
      have aF:=(hw w0 h0).choose_spec.choose_spec.2.2.1
      have aN:∀(w:World),fy ρ M i w→∀r,(dm k es 0)=r→(Instr.lookup t ((AV.mp i g).c ρ) (ix.c ρ) ok).run P w=(match r with
       |some x=>.ok (if ok then .tuple #[x.2.c ρ,.bool true]else x.2.c ρ) w
       |none=>.ok (if ok then .tuple #[z.c ρ,.bool false]else z.c ρ) w):=by
       intro w hh r hr
       obtain⟨fM,clock,e1,e2,e3,_,_⟩:=hw w hh
       have Nf:=run_findKey (P:=P) (w:=w) hT lM Q1 e2 (fun p hp=>(e3 p hp).2)
       rw[hr]at Nf
       rw[(An hq).1,T6]
       cases r with
       |none=>simp[Instr.lookup,run_underlying hd,AV.c,nA e1,U9,Nf,hzr]
       |some x=>simp[Instr.lookup,run_underlying hd,AV.c,nA e1,U9,Nf]
      have iN:=wC k es 0
      cases Ng:dm k es 0 with
      |none=>
       rw[Ng]at iN
       refine⟨if ok then .aE [z,.ff]else z,?_,?_,(An hq).2,fun w hh=>?_⟩
       ·have:=hn iN.symm
        cases ok<;>exact this
       ·cases ok
        ·exact Y6
        ·exact⟨Y6,trivial,trivial⟩
       ·rw[aN w hh _ Ng];cases ok<;>simp[AV.c,AV.cl]
      |some xx=>
       obtain⟨ii,u⟩:=xx
       rw[Ng]at iN
       obtain⟨_,kJ,_⟩:=n7 Ng
       have Wk:=(aF _ (List.mem_of_getElem? kJ)).1
       refine⟨if ok then .aE [u,.tt]else u,?_,?_,(An hq).2,fun w hh=>?_⟩
       ·have:=hf u iN.symm
        cases ok<;>exact this
       ·cases ok
        ·exact Wk
        ·exact⟨Wk,trivial,trivial⟩
       ·rw[aN w hh _ Ng];cases ok<;>simp[AV.c,AV.cl]
     ·exact h.elim
    ·exact h.elim
   ·exact h.elim
  ·exact h.elim
 ·exact h.elim
theorem pO {P:Program}{T:List TI}(hT:av P T){M:AH}{t ty:Nat}{x:AV}{K:AV→Prop}{ρ:Env}(hk:kB ρ M)(h:oX T M t x K):
 ∃v,K v∧v.ok ρ∧x.ok ρ∧∀w,fy ρ M x.id w→(Builtin.len_ #[t] ty #[x.c ρ]).run P w=.ok (v.c ρ) w:=by
 unfold oX at h
 split at h
 ·rename_i kt et _ _ _ h1
  obtain⟨d,hd,hk1⟩:=hT.gY h1
  have mv:d=.map kt et:=by cases d<;>simp_all[fO]
  subst mv
  split at h
  ·exact⟨_,h,trivial,trivial,fun w _=>by simp[Builtin.len_,run_underlying hd,AV.c,goInt]⟩
  ·rename_i i g
   obtain⟨own,y,hs,h⟩:=ba h
   split at h
   ·rename_i mk es
    obtain⟨q,hq,hw⟩:=Eh hk hs
    refine⟨_,h,trivial,(An hq).2,fun w hh=>?_⟩
    obtain⟨fM,clock,e1,e2,e3,_,_⟩:=hw w hh
    rw[(An hq).1]
    have hl:=congrArg List.length e2
    simp only[List.length_map,Array.length_toList]at hl
    simp[Builtin.len_,run_underlying hd,AV.c,nA e1,goInt,hl]
   ·exact h.elim
  ·exact h.elim
 ·exact h.elim
theorem vS {P:Program}{T:List TI}(hT:av P T){M:AH}{t:Nat}{K:AV→AH→Prop}{ρ:Env}{w:World}(hs:aW ρ M w)(h:vT T M t K):
 ∃v M' ρ' w',(Instr.makeMap t none).run P w=.ok (v.c ρ') w'∧K v M'∧v.ok ρ'∧aW ρ' M' w'∧Ext ρ M w ρ' M' w':=by
 unfold vT at h
 split at h
 ·split at h
  ·rename_i mk _
   obtain⟨s1,e1⟩:=hJ (x:=.map mk []) (l:=some (w.heap.size,0)) (w':=w.alloc (.map #[] 0)) hs (fun b hb=>Below.heap_alloc _ _ b hb) (by simp) rfl rfl rfl
    (.inl ⟨w.heap.size,0,rfl,Nat.le_refl _,⟨.inr ⟨rfl,rfl,#[],0,World.alloc_heap_new w _,rfl,by simp,by simp,by simp⟩⟩⟩)
   have hq:kO ρ M.length 0 (some (w.heap.size,0)) M.length 0=some (some (w.heap.size,0)):=ay _ _ _ _
   refine⟨_,_,_,_,?_,h,(An hq).2,s1,e1⟩
   rw[(An hq).1]
   simp[Instr.makeMap,run_newObj]
  ·exact h.elim
 ·exact h.elim
theorem uU {P:Program}{T:List TI}(hT:av P T){M:AH}{t:Nat}{x ix v:AV}{K:AH→Prop}{ρ:Env}{w:World}(hs:aW ρ M w)(hv:v.ok ρ)(h:Nv T M t x ix v K):
 ∃M' w',(Instr.mapUpdate t (x.c ρ) (ix.c ρ) (v.c ρ)).run P w=.ok () w'∧K M'∧aW ρ M' w'∧Ext ρ M w ρ M' w':=by
 unfold Nv at h
 split at h
 ·rename_i kt et _ _ _ h1
  obtain⟨d,hd,hk1⟩:=hT.gY h1
  have mv:d=.map kt et:=by cases d<;>simp_all[fO]
  subst mv
  split at h
  ·rename_i mk lM
   split at h
   ·rename_i k T5
    replace h:=v9 h
    obtain⟨Nb,h⟩:=h
    obtain⟨Q1,T6⟩:=yW Nb T5 ρ
    have U9:=fun(b:Bool) (w:World)=>run_checkKey (P:=P) hT lM (b:=b) (k:=k) (w:=w)
    split at h
    ·rename_i i g
     split at h
     ·rename_i g' mk' es hm
      obtain⟨rfl,h⟩:=h
      replace h:=ri h
      obtain⟨rfl,h⟩:=h
      replace h:=h _ rfl
      obtain⟨q,hq,hw⟩:=Eh hs.known (ao hm)
      obtain⟨fM,clock,e1,e2,e3,e4,e5⟩:=hw w (hs.id i)
      have bh:=fC e1
      have Ma:q.2=0:=by
       rcases hs.holds i g true _ (ao hm)with⟨q',b1,b2⟩|⟨_,b2⟩
       ·rw[hq]at b1;cases b1
        rcases b2.all with⟨c0,_⟩|⟨_,c1,_⟩
        ·cases c0
        ·exact c1
       ·exact b2.elim
      have Nf:=run_findKey (P:=P) (w:=w) hT lM Q1 e2 (fun p hp=>(e3 p hp).2)
      have hlen:=congrArg List.length e2
      simp only[List.length_map,Array.length_toList]at hlen
      have put:∀(wF:Array MapEntry)(wU:Nat)(ER:List ((Int×Int)×AV)),rZ k v es=ER→wF.toList.map (fun e=>(e.key,e.val))=ER.map (fun p=>(mk.v p.1,p.2.c ρ))→(∀p∈ER,p.2.ok ρ∧mk.wf p.1)→(∀e∈wF.toList,e.born<wU)→(wF.toList.map (·.born)).Nodup→
       (Instr.mapUpdate t ((AV.mp i g).c ρ) (ix.c ρ) (v.c ρ)).run P w=.ok () (w.putObj q.1 (.map wF wU))→∃M' w',(Instr.mapUpdate t ((AV.mp i g).c ρ) (ix.c ρ) (v.c ρ)).run P w=.ok () w'∧K M'∧aW ρ M' w'∧Ext ρ M w ρ M' w':=by
       intro wF wU ER qI a2 a3 a4 a5 aN
       subst qI
       obtain⟨s1,x1⟩:=zT (x':=.map mk (rZ k v es)) (w':=w.putObj q.1 (.map wF wU)) hs hm hq (fun b hb=>World.putObj_heap_other hb) (by simp) rfl rfl rfl
        ⟨.inr ⟨rfl,Ma,wF,wU,World.putObj_heap_same bh,a2,a3,a4,a5⟩⟩
       exact⟨_,_,aN,h,s1,x1⟩
      cases Ng:dm k es 0 with
      |none=>
       rw[Ng]at Nf
       refine put (fM.push {key:=mk.v k,val:=v.c ρ,born:=clock}) (clock+1) _ (tR Ng v) ?_ ?_ ?_ ?_ ?_
       ·simp[e2]
       ·intro p hp
        rcases List.mem_append.1 hp with hp|hp
        ·exact e3 p hp
        ·obtain rfl:=List.mem_singleton.1 hp
         exact⟨hv,Q1⟩
       ·intro e he
        simp only[Array.toList_push,List.mem_append,List.mem_singleton]at he
        rcases he with he|rfl
        ·have:=e4 e he;omega
        ·exact Nat.lt_succ_self _
       ·simp only[Array.toList_push,List.map_append,List.map_cons,List.map_nil,List.nodup_append]
        refine⟨e5,by simp,fun a ha b hb=>?_⟩
        obtain⟨e,he,rfl⟩:=List.mem_map.1 ha
        have:=e4 e he
        simp at hb
        omega
       ·rw[(An hq).1,T6]
        simp[Instr.mapUpdate,run_underlying hd,AV.c,nA e1,U9,Nf,BW _ e1]
      |some xx=>
       obtain⟨ii,u⟩:=xx
       rw[Ng]at Nf
       obtain⟨_,kJ,Wj⟩:=n7 Ng
       simp only[Nat.sub_zero]at kJ Wj
       have WN:ii<es.length:=(List.getElem?_eq_some_iff.1 kJ).1
       have gv:ii<fM.size:=by omega
       have WM:(fM[ii]?).map (·.key)=some (mk.v k):=by
        have:=congrArg (fun l=>l[ii]?) e2
        simp only[List.getElem?_map,kJ,Option.map_some,Array.getElem?_toList]at this
        cases hx:fM[ii]? with
        |none=>rw[hx]at this;cases this
        |some e=>rw[hx]at this;simp at this;simp[this.1]
       refine put (fM.modify ii fun e=>{e with key:=mk.v k,val:=v.c ρ}) clock _ (Wj v) ?_ ?_ ?_ ?_ ?_
       ·apply List.ext_getElem?
        intro j
        have ej:=congrArg (fun l=>l[j]?) e2
        simp only[List.getElem?_map,Array.getElem?_toList]at ej
        simp only[List.getElem?_map,Array.getElem?_toList,Array.getElem?_modify,List.getElem?_set]
        by_cases hj:ii=j
        ·subst hj
         simp[gv,WN]
        ·simp only[if_neg hj]
         exact ej
       ·intro p hp
        rcases List.mem_or_eq_of_mem_set hp with hp|rfl
        ·exact e3 p hp
        ·exact⟨hv,Q1⟩
       ·intro e he
        obtain⟨j,hj⟩:=List.mem_iff_getElem?.1 he
        simp only[Array.getElem?_toList,Array.getElem?_modify]at hj
        by_cases gQ:ii=j
        ·subst gQ
         simp only[if_true,Option.map_eq_some_iff]at hj
         obtain⟨e0,he0,rfl⟩:=hj
         exact e4 e0 (Array.mem_toList_iff.2 (Array.mem_of_getElem? he0))
        ·simp only[if_neg gQ]at hj
         exact e4 e (Array.mem_toList_iff.2 (Array.mem_of_getElem? hj))
       ·have:(fM.modify ii fun e=>{e with key:=mk.v k,val:=v.c ρ}).toList.map (·.born)=fM.toList.map (·.born):=by
         apply List.ext_getElem?
         intro j
         simp only[List.getElem?_map,Array.getElem?_toList,Array.getElem?_modify]
         by_cases hj:ii=j
         ·subst hj;cases fM[ii]?<;>simp
         ·simp[hj]
        rw[this];exact e5
       ·rw[(An hq).1,T6]
        simp[Instr.mapUpdate,run_underlying hd,AV.c,nA e1,U9,Nf,BW _ e1,WM,Instr.keyThatStays,z7]
     ·exact h.elim
    ·exact h.elim
   ·exact h.elim
  ·exact h.elim
 ·exact h.elim
end Go.Proofs.Ytibadaomjlkoaaa
