import Derived.CallsIn
import Derived.Below
import Derived.WalkKit
import Derived.Great.FillDense
import Derived.Laws.StructEq
import Derived.Deep.AppendSrc
import Derived.Laws.CopyRow
import Derived.Great.BuildSlice
import Derived.Laws.MakeOwn
import Derived.Laws.BytesString
import Derived.Laws.IdiomStrings
import Derived.RangeFuncRecord
import Derived.MapKept
import Derived.Laws.Sem
set_option linter.unusedVariables false
set_option linter.unusedSimpArgs false
namespace Go.Proofs.Ytibadaomjlkoaaa
inductive AV where
 |bo (x:Bool)|tt|ff
 |int (k:IntKind)(n:Int)
 |str (x:ByteArray)
 |np
 |ptr (i g off:Nat)
 |mE (i g sz j o:Nat)
 |ns
 |sl (i g off n c:Nat)
 |nf
 |fn (fn:Fn)(first cap:List AV)
 |ni
 |jo (t:TypeId)(v:AV)
 |nm
 |mp (i g:Nat)
 |agg (l:List AV)
 |aL (l:List AV)
 |raw (v:Value)
 deriving Inhabited
abbrev Env:=Nat→Nat→Option (Option (Nat×Nat))
mutual
def AV.c (ρ:Env):AV→Value
 | .bo x=>.bool x
 | .tt=>.bool true
 | .ff=>.bool false
 | .int k n=>.int k n
 | .str x=>.string x
 | .np=>.pointer none
 | .ptr i g off=>match ρ i g with|some (some q)=>.pointer (some ⟨q.1,q.2+off,none⟩)|_=>.pointer none
 | .mE i g sz j o=>match ρ i g with|some (some q)=>.pointer (some ⟨q.1,q.2+(j*sz+o),none⟩)|_=>.pointer none
 | .ns=>.slice none 0 0
 | .sl i g off n c=>match ρ i g with|some (some q)=>.slice (some ⟨q.1,q.2+off,none⟩) n c|_=>.slice none n c
 | .nf=>.nilFunc
 | .fn q a b=>.func q (AV.cl ρ a).toArray (AV.cl ρ b).toArray
 | .ni=>.nilIface
 | .jo t v=>.iface t (v.c ρ)
 | .nm=>.map none
 | .mp i g=>match ρ i g with|some (some q)=>.map (some q.1)|_=>.map none
 | .agg l=>.agg (AV.cl ρ l).toArray
 | .aL l=>.tuple (AV.cl ρ l).toArray
 | .raw v=>v
def AV.cl (ρ:Env):List AV→List Value
 |[]=>[]
 |v::l=>v.c ρ::AV.cl ρ l
end
mutual
def AV.ok (ρ:Env):AV→Prop
 | .ptr i g _=>(ρ i g).isSome=true
 | .mE i g _ _ _=>(ρ i g).isSome=true
 | .sl i g _ _ _=>(ρ i g).isSome=true
 | .mp i g=>(ρ i g).isSome=true
 | .fn _ a b=>AV.dK ρ a∧AV.dK ρ b
 | .jo _ v=>v.ok ρ
 | .agg l=>AV.dK ρ l
 | .aL l=>AV.dK ρ l
 |_=>True
def AV.dK (ρ:Env):List AV→Prop
 |[]=>True
 |v::l=>v.ok ρ∧AV.dK ρ l
end
theorem AV.aY (ρ:Env)(l:List AV):AV.cl ρ l=l.map (AV.c ρ):=by
 induction l with
 |nil=>rfl
 |cons v l ih=>simp[AV.cl,ih]
theorem AV.aK (ρ:Env)(l:List AV):AV.dK ρ l↔∀v∈l,v.ok ρ:=by
 induction l with
 |nil=>simp[AV.dK]
 |cons v l ih=>simp[AV.dK,ih]
inductive MK where
 |int (k:IntKind)
 |pair (k1 k2:IntKind)
 |wc (k:IntKind)
 deriving Inhabited
def MK.v (mk:MK)(x:Int×Int):Value:=
 match mk with
 | .int k=>.int k x.1
 | .pair k1 k2=>.agg #[.int k1 x.1,.int k2 x.2]
 | .wc k=>.agg #[.int k x.1,.int k (x.2/256),.int k (x.2%256)]
def MK.wf (mk:MK)(x:Int×Int):Prop:=
 match mk with
 | .int _=>x.2=0
 | .pair _ _=>True
 | .wc _=>True
inductive af where
 |cells (cs:List AV)
 |ints (k:IntKind)(xs:List Int)(c:Nat)
 |bV (xs:List Bool)(c:Nat)
 |cJ (sz n:Nat)(get:Nat→List AV)(c:Nat)
 |map (mk:MK)(es:List ((Int×Int)×AV))
 |loop (l:Nat)(st:LoopState)(pd:Option Code)(fn:FuncId)(n:Nat)(a:Nat→AV)(ps:Array Tmp)(as bd:Code)(df:Nat)
 deriving Inhabited
def af.row:af→Bool
 | .map _ _=>false
 | .loop ..=>false
 |_=>true
def af.at:af→Nat→Option AV
 | .cells cs,o=>cs[o]?
 | .ints k xs _,o=>(xs[o]?).map (AV.int k)
 | .bV xs _,o=>(xs[o]?).map AV.bo
 | .cJ sz n get _,o=>if o<n*sz then(get (o/sz))[o%sz]? else none
 |_,_=>none
def af.size:af→Nat
 | .cells cs=>cs.length
 | .ints _ _ c=>c
 | .bV _ c=>c
 | .cJ sz _ _ c=>c*sz
 |_=>0
def af.bP:af→Prop
 | .cells _=>False
 | .ints _ xs c=>xs=[]∧c=0
 | .bV xs c=>xs=[]∧c=0
 | .cJ _ n _ c=>n=0∧c=0
 |_=>False
inductive AO where
 |gone
 |one (own:Bool)(g:Nat)(x:af)
 |bG (own:Bool)(m:Nat)(x:Nat→af)
 deriving Inhabited
abbrev AH:=List AO
def bc:AO→Nat→Option (Bool×af)
 | .gone,_=>none
 | .one own g' x,g=>if g=g' then some (own,x)else none
 | .bG own m x,g=>if g<m then some (own,x g)else none
def slot (M:AH)(i g:Nat):Option (Bool×af):=
 match M[i]? with
 |some o=>bc o g
 |none=>none
def af.spec (ρ:Env)(x:af)(b:Nat)(w:World):Prop:=
 match x with
 | .map kk es=>∃(fq:Array MapEntry) (clock:Nat),w.heap[b]?=some (.map fq clock)∧fq.toList.map (fun e=>(e.key,e.val))=es.map (fun p=>(kk.v p.1,p.2.c ρ))∧(∀p∈es,p.2.ok ρ∧kk.wf p.1)∧(∀e∈fq.toList,e.born<clock)∧(fq.toList.map (·.born)).Nodup
 | .loop l st pd fn n a ps as bd df=>b=l∧∃tmps,w.heap[b]?=some (.loop {state:=st,pending:=pd,fn:=fn,tmps:=tmps,params:=ps,assign:=as,body:=bd,defers:=df})∧tmps.size=n∧∀t,(a t).ok ρ∧tmps.getD t undef=(a t).c ρ
 |_=>False
structure bO (ρ:Env)(own:Bool)(x:af)(b base:Nat)(w:World):Prop where
 all:(x.row=true∧∃c e fr,w.heap[b]?=some (.cells c e fr)∧base+x.size≤c.size∧(∀k v,x.at k=some v→v.ok ρ∧c[base+k]?=some (v.c ρ))∧(own=true→fr=(0,0)))∨(x.row=false∧base=0∧x.spec ρ b w)
theorem bO.mk' {ρ:Env}{own:Bool}{x:af}{b base:Nat}{w:World}(hx:x.row=true)(h:∃c e fr,w.heap[b]?=some (.cells c e fr)∧base+x.size≤c.size∧(∀k v,x.at k=some v→v.ok ρ∧c[base+k]?=some (v.c ρ))∧(own=true→fr=(0,0))):bO ρ own x b base w:=⟨.inl ⟨hx,h⟩⟩
theorem bO.out {ρ:Env}{own:Bool}{x:af}{b base:Nat}{w:World}(h:bO ρ own x b base w)(hx:x.row=true):∃c e fr,w.heap[b]?=some (.cells c e fr)∧base+x.size≤c.size∧(∀k v,x.at k=some v→v.ok ρ∧c[base+k]?=some (v.c ρ))∧(own=true→fr=(0,0)):=by
 rcases h.all with⟨_,h⟩|⟨h0,_⟩
 ·exact h
 ·rw[hx]at h0;cases h0
theorem af.RU {x:af}{k:Nat}{v:AV}(h:x.at k=some v):x.row=true:=by
 cases x<;>first|rfl|(simp[af.at]at h)
structure aU (ρ:Env)(M:AH)(w:World):Prop where
 n8:∀i g,(ρ i g).isSome=true→i<M.length
 tag:∀i g own g' x,M[i]?=some (.one own g' x)→(ρ i g).isSome=true→g≤g'
 bG:∀i g own m x,M[i]?=some (.bG own m x)→(ρ i g).isSome=true→g<m
 holds:∀i g own x,slot M i g=some (own,x)→(∃q,ρ i g=some (some q)∧bO ρ own x q.1 q.2 w)∨(ρ i g=some none∧x.bP)
 apart:∀i g x i' g' bt x' q q',slot M i g=some (true,x)→slot M i' g'=some (bt,x')→ρ i g=some (some q)→ρ i' g'=some (some q')→q.1=q'.1→i=i'∧g=g'
structure Ext (ρ:Env)(M:AH)(w:World)(ρ':Env)(M':AH)(w':World):Prop where
 env:∀i g l,ρ i g=some l→ρ' i g=some l
 size:w.heap.size≤w'.heap.size
 frame:∀b,b<w.heap.size→(∀i g x q,slot M i g=some (true,x)→ρ i g=some (some q)→q.1≠b)→w'.heap[b]?=w.heap[b]?
 fresh:∀i g x q,slot M' i g=some (true,x)→ρ' i g=some (some q)→q.1<w.heap.size→∃i0 g0 x0 q0,slot M i0 g0=some (true,x0)∧ρ i0 g0=some (some q0)∧q0.1=q.1
 os:w'.os=w.os
 tape:w'.tape=w.tape
 output:w'.output=w.output
theorem Ext.refl (ρ:Env)(M:AH)(w:World):Ext ρ M w ρ M w:=
 ⟨fun _ _ _ h=>h,Nat.le_refl _,fun _ _ _=>rfl,fun i g x q h1 h2 _=>⟨i,g,x,q,h1,h2,rfl⟩,rfl,rfl,rfl⟩
theorem Ext.trans {ρ ρ' gK:Env}{M M' lO:AH}{w w' vr:World}(h:Ext ρ M w ρ' M' w')(h':Ext ρ' M' w' gK lO vr):Ext ρ M w gK lO vr where
 env:=fun i g l e=>h'.env i g l (h.env i g l e)
 size:=Nat.le_trans h.size h'.size
 frame:=fun b hb hn=>by
  rw[h'.frame b (Nat.lt_of_lt_of_le hb h.size) ?_,h.frame b hb hn]
  intro i g x q h1 h2 e
  obtain⟨i0,g0,x0,q0,a1,a2,a3⟩:=h.fresh i g x q h1 h2 (by omega)
  exact hn i0 g0 x0 q0 a1 a2 (by omega)
 fresh:=fun i g x q h1 h2 hb=>by
  obtain⟨i0,g0,x0,q0,a1,a2,a3⟩:=h'.fresh i g x q h1 h2 (Nat.lt_of_lt_of_le hb h.size)
  obtain⟨i1,g1,x1,q1,b1,b2,b3⟩:=h.fresh i0 g0 x0 q0 a1 a2 (by omega)
  exact⟨i1,g1,x1,q1,b1,b2,by omega⟩
 os:=h'.os.trans h.os
 tape:=h'.tape.trans h.tape
 output:=h'.output.trans h.output
mutual
theorem AV.cF {ρ ρ':Env}(h:∀i g l,ρ i g=some l→ρ' i g=some l):∀v:AV,v.ok ρ→v.ok ρ'
 | .ptr i g _=>fun k=>by
   simp only[AV.ok]at k⊢;obtain⟨l,e⟩:=Option.isSome_iff_exists.1 k;rw[h _ _ _ e];rfl
 | .mE i g _ _ _=>fun k=>by
   simp only[AV.ok]at k⊢;obtain⟨l,e⟩:=Option.isSome_iff_exists.1 k;rw[h _ _ _ e];rfl
 | .sl i g _ _ _=>fun k=>by
   simp only[AV.ok]at k⊢;obtain⟨l,e⟩:=Option.isSome_iff_exists.1 k;rw[h _ _ _ e];rfl
 | .mp i g=>fun k=>by
   simp only[AV.ok]at k⊢;obtain⟨l,e⟩:=Option.isSome_iff_exists.1 k;rw[h _ _ _ e];rfl
 | .fn _ a b=>fun k=>by simp only[AV.ok]at k⊢;exact⟨AV.gm h a k.1,AV.gm h b k.2⟩
 | .jo _ v=>fun k=>by simp only[AV.ok]at k⊢;exact AV.cF h v k
 | .agg l=>fun k=>by simp only[AV.ok]at k⊢;exact AV.gm h l k
 | .aL l=>fun k=>by simp only[AV.ok]at k⊢;exact AV.gm h l k
 | .bo _=>fun _=>trivial| .tt=>fun _=>trivial| .ff=>fun _=>trivial| .int _ _=>fun _=>trivial| .str _=>fun _=>trivial
 | .np=>fun _=>trivial| .ns=>fun _=>trivial| .nf=>fun _=>trivial| .ni=>fun _=>trivial| .nm=>fun _=>trivial| .raw _=>fun _=>trivial
theorem AV.gm {ρ ρ':Env}(h:∀i g l,ρ i g=some l→ρ' i g=some l):∀l:List AV,AV.dK ρ l→AV.dK ρ' l
 |[]=>fun _=>trivial
 |v::l=>fun k=>by simp only[AV.dK]at k⊢;exact⟨AV.cF h v k.1,AV.gm h l k.2⟩
end
mutual
theorem AV.de {ρ ρ':Env}(h:∀i g l,ρ i g=some l→ρ' i g=some l):∀v:AV,v.ok ρ→v.c ρ'=v.c ρ
 | .ptr i g _=>fun k=>by
   simp only[AV.ok]at k;obtain⟨l,e⟩:=Option.isSome_iff_exists.1 k;simp only[AV.c,e,h _ _ _ e]
 | .mE i g _ _ _=>fun k=>by
   simp only[AV.ok]at k;obtain⟨l,e⟩:=Option.isSome_iff_exists.1 k;simp only[AV.c,e,h _ _ _ e]
 | .sl i g _ _ _=>fun k=>by
   simp only[AV.ok]at k;obtain⟨l,e⟩:=Option.isSome_iff_exists.1 k;simp only[AV.c,e,h _ _ _ e]
 | .mp i g=>fun k=>by
   simp only[AV.ok]at k;obtain⟨l,e⟩:=Option.isSome_iff_exists.1 k;simp only[AV.c,e,h _ _ _ e]
 | .fn _ a b=>fun k=>by simp only[AV.ok]at k;simp only[AV.c,AV.j7 h a k.1,AV.j7 h b k.2]
 | .jo _ v=>fun k=>by simp only[AV.ok]at k;simp only[AV.c,AV.de h v k]
 | .agg l=>fun k=>by simp only[AV.ok]at k;simp only[AV.c,AV.j7 h l k]
 | .aL l=>fun k=>by simp only[AV.ok]at k;simp only[AV.c,AV.j7 h l k]
 | .bo _=>fun _=>rfl| .tt=>fun _=>rfl| .ff=>fun _=>rfl| .int _ _=>fun _=>rfl| .str _=>fun _=>rfl
 | .np=>fun _=>rfl| .ns=>fun _=>rfl| .nf=>fun _=>rfl| .ni=>fun _=>rfl| .nm=>fun _=>rfl| .raw _=>fun _=>rfl
theorem AV.j7 {ρ ρ':Env}(h:∀i g l,ρ i g=some l→ρ' i g=some l):∀l:List AV,AV.dK ρ l→AV.cl ρ' l=AV.cl ρ l
 |[]=>fun _=>rfl
 |v::l=>fun k=>by simp only[AV.dK]at k;simp only[AV.cl,AV.de h v k.1,AV.j7 h l k.2]
end
theorem af.Ig {ρ ρ':Env}(h:∀i g l,ρ i g=some l→ρ' i g=some l){x:af}{b:Nat}{w w':World}(hw:w'.heap[b]?=w.heap[b]?)(k:x.spec ρ b w):x.spec ρ' b w':=by
 cases x with
 |map kk es=>
  obtain⟨fq,clock,h1,h2,h3,h4,h5⟩:=k
  refine⟨fq,clock,hw.trans h1,?_,fun p hp=>⟨AV.cF h _ (h3 p hp).1,(h3 p hp).2⟩,h4,h5⟩
  rw[h2]
  exact List.map_congr_left fun p hp=>by rw[AV.de h _ (h3 p hp).1]
 |loop l st pd fn n a ps as bd df=>
  obtain⟨h1,tmps,h2,h3,h4⟩:=k
  exact⟨h1,tmps,hw.trans h2,h3,fun t=>⟨AV.cF h _ (h4 t).1,by rw[AV.de h _ (h4 t).1];exact(h4 t).2⟩⟩
 |cells _=>exact k.elim
 |ints _ _ _=>exact k.elim
 |bV _ _=>exact k.elim
 |cJ _ _ _ _=>exact k.elim
theorem bO.ext {ρ ρ':Env}(h:∀i g l,ρ i g=some l→ρ' i g=some l){own:Bool}{x:af}{b base:Nat}{w w':World}(hw:w'.heap[b]?=w.heap[b]?)(k:bO ρ own x b base w):bO ρ' own x b base w':=by
 rcases k.all with⟨hx,c,e,fr,h1,h2,h3,h4⟩|⟨hx,hb,hs⟩
 ·exact .mk' hx ⟨c,e,fr,hw.trans h1,h2,fun k v hv=>⟨AV.cF h v (h3 k v hv).1,by rw[AV.de h v (h3 k v hv).1];exact(h3 k v hv).2⟩,h4⟩
 ·exact⟨.inr ⟨hx,hb,af.Ig h hw hs⟩⟩
theorem bO.back {ρ ρ':Env}(h:∀i g l,ρ i g=some l→ρ' i g=some l){own:Bool}{x:af}{b base:Nat}{w w':World}(k:bO ρ own x b base w)(k':bO ρ' own x b base w'):bO ρ own x b base w':=by
 rcases k'.all with⟨hx,c,e,fr,h1,h2,h3,h4⟩|⟨hx,hb,hs⟩
 ·obtain⟨c0,e0,fr0,k1,k2,k3,k4⟩:=k.out hx
  refine .mk' hx ⟨c,e,fr,h1,h2,fun j v hv=>?_,h4⟩
  have aA:=(k3 j v hv).1
  exact⟨aA,by rw[←AV.de h v aA];exact(h3 j v hv).2⟩
 ·rcases k.all with⟨YT,_⟩|⟨_,_,AW⟩
  ·rw[hx]at YT;cases YT
  ·refine⟨.inr ⟨hx,hb,?_⟩⟩
   cases x with
   |map kk es=>
    obtain⟨fq,clock,h1,h2,h3,h4,h5⟩:=hs
    obtain⟨_,_,_,_,k3,_⟩:=AW
    refine⟨fq,clock,h1,?_,k3,h4,h5⟩
    rw[h2]
    exact List.map_congr_left fun p hp=>by rw[AV.de h _ (k3 p hp).1]
   |loop l st pd fn n a ps as bd df=>
    obtain⟨h1,tmps,h2,h3,h4⟩:=hs
    obtain⟨_,_,_,_,k4⟩:=AW
    exact⟨h1,tmps,h2,h3,fun t=>⟨(k4 t).1,by rw[←AV.de h _ (k4 t).1];exact(h4 t).2⟩⟩
   |cells _=>exact hs.elim
   |ints _ _ _=>exact hs.elim
   |bV _ _=>exact hs.elim
   |cJ _ _ _ _=>exact hs.elim
end Go.Proofs.Ytibadaomjlkoaaa
open Go.RowKit
namespace Go.Proofs.Ytibadaomjlkoaaa
inductive TK where
 |int (k:IntKind)|bool|str|ptr (e:Nat)|slice (e:Nat)|arr (n e:Nat)|struct (fs:List (Nat×Nat))|map (k e:Nat)|iface|func|other
 deriving Inhabited
def fw:TypeDesc→TK
 | .bool=>.bool| .int k=>.int k| .string=>.str| .pointer e=>.ptr e| .slice e=>.slice e| .array n e=>.arr n e
 | .struct fs=>.struct (fs.toList.map fun f=>(f.offset,f.type))| .map k e=>.map k e| .interface _=>.iface| .func ..=>.func|_=>.other
structure TI where
 k:TK
 size:Nat
 bytes:Nat
 zero:List AV
 deriving Inhabited
def TK.isAgg:TK→Bool
 | .struct _| .arr _ _=>true
 |_=>false
def GH:Value→AV
 | .bool true=>.tt| .bool false=>.ff
 | .int k n=>.int k n
 | .string s=>.str s
 | .pointer none=>.np
 | .slice none 0 0=>.ns
 | .map none=>.nm
 | .nilFunc=>.nf
 | .nilIface=>.ni
 |v=>.raw v
def S6:Value→AV
 | .agg cs=>.agg (cs.toList.map GH)
 | .tuple vs=>.aL (vs.toList.map GH)
 |v=>GH v
theorem qe (ρ:Env)(v:Value):(GH v).c ρ=v:=by
 unfold GH;split<;>simp[AV.c]
theorem ua (ρ:Env)(v:Value):(GH v).ok ρ:=by
 unfold GH;split<;>simp[AV.ok]
theorem S5 (ρ:Env)(v:Value):(S6 v).c ρ=v:=by
 unfold S6;split
 ·simp[AV.c,AV.aY,qe,Function.comp_def]
 ·simp[AV.c,AV.aY,qe,Function.comp_def]
 ·exact qe ρ _
theorem Qo (ρ:Env)(v:Value):(S6 v).ok ρ:=by
 unfold S6;split
 ·simp only[AV.ok,AV.aK];intro x hx;obtain⟨y,_,rfl⟩:=List.mem_map.1 hx;exact ua ρ y
 ·simp only[AV.ok,AV.aK];intro x hx;obtain⟨y,_,rfl⟩:=List.mem_map.1 hx;exact ua ρ y
 ·exact ua ρ _
def simpleT (P:Program)(t:Nat):Bool:=
 match P.underlying t with
 |some (.int _)=>true
 |some .bool=>true
 |_=>false
def Bb (P:Program)(t:Nat)(d:TypeDesc):Bool:=
 match d with
 | .struct fs=>!(fs.toList.all fun f=>simpleT P f.type)||(!P.stoodInHeld t&&!P.eqGuardType P.depth t&&fs.toList.all fun f=>f.name !="_")
 |_=>true
def qq (P:Program)(t:Nat):Option TI:=
 match P.underlying t,P.info? t with
 |some d,some i=>match Bb P t d,i.zero with
  |false,_=>none
  |true,none=>none
  |true,some z=>match z,(fw d).isAgg with
   | .agg _,false=>none
   | .agg cs,true=>some ⟨fw d,i.size,i.bytes,(Value.agg cs).cells.toList.map GH⟩
   |_,true=>none
   |z,false=>some ⟨fw d,i.size,i.bytes,z.cells.toList.map GH⟩
 |_,_=>none
def aq (P:Program)(T:List TI):Prop:=∀t ti,T[t]?=some ti→qq P t=some ti
theorem aq.mk' {P:Program}{T:List TI}(h:(List.range T.length).map (qq P)=T.map some):aq P T:=by
 intro t ti ht
 have a9:t<T.length:=(List.getElem?_eq_some_iff.1 ht).1
 have:=congrArg (fun l=>l[t]?) h
 simp[a9]at this
 obtain⟨_,e⟩:=List.getElem?_eq_some_iff.1 ht
 rw[this,e]
theorem aq.get {P:Program}{T:List TI}(h:aq P T){t:Nat}{ti:TI}(ht:T[t]?=some ti):
 ∃d i z,P.underlying t=some d∧P.info? t=some i∧i.zero=some z∧ti=⟨fw d,i.size,i.bytes,z.cells.toList.map GH⟩:=by
 have:=h t ti ht
 unfold qq at this
 split at this
 ·split at this
  ·cases this
  ·cases this
  ·split at this
   ·cases this
   ·injection this with this;exact⟨_,_,_,‹_›,‹_›,‹_›,this.symm⟩
   ·cases this
   ·injection this with this;exact⟨_,_,_,‹_›,‹_›,‹_›,this.symm⟩
 ·cases this
theorem aq.Uw {P:Program}{T:List TI}(h:aq P T){t:Nat}{ti:TI}(ht:T[t]?=some ti):∃d,P.underlying t=some d∧fw d=ti.k∧Bb P t d=true:=by
 have:=h t ti ht
 unfold qq at this
 split at this
 ·rename_i d i hd hi
  split at this
  ·cases this
  ·cases this
  ·rename_i he _
   split at this
   ·cases this
   ·injection this with this;subst this;exact⟨d,hd,rfl,he⟩
   ·cases this
   ·injection this with this;subst this;exact⟨d,hd,rfl,he⟩
 ·cases this
theorem aq.shape {P:Program}{T:List TI}(h:aq P T){t:Nat}{ti:TI}(ht:T[t]?=some ti){i:TypeInfo}{z:Value}(hi:P.info? t=some i)(hz:i.zero=some z):(∃cs,z=.agg cs)↔ti.k.isAgg=true:=by
 have:=h t ti ht
 unfold qq at this
 rw[hi]at this
 split at this
 ·rename_i d i' hd kv
  injection kv with kv;subst kv
  rw[hz]at this
  cases he:Bb P t d with
  |false=>rw[he]at this;cases this
  |true=>
  rw[he]at this
  simp only at this
  split at this
  ·cases this
  ·rename_i hk
   injection this with this
   subst this
   exact⟨fun _=>hk,fun _=>⟨_,rfl⟩⟩
  ·cases this
  ·rename_i rY hk
   injection this with this
   subst this
   exact⟨fun⟨cs,e⟩=>absurd e (fun e=>by subst e;exact rY cs rfl),fun e=>by rw[hk]at e;cases e⟩
 ·cases this
def arith (k:IntKind)(wr:Bool)(z:Int)(K:Int→Prop):Prop:=
 match k with
 | .i64=>match wr with
   |true=>K (wrap64 z)
   |false=>(-9223372036854775808≤z∧z≤9223372036854775807)∧K z
 | .u8=>K (z%256)
 | .u16=>K (z%65536)
 | .u32=>K (z%4294967296)
 | .u64=>K (z%18446744073709551616)
 |k=>K (k.wrap z)
theorem fp {k:IntKind}{wr:Bool}{z:Int}{K:Int→Prop}(h:arith k wr z K):K (k.wrap z):=by
 unfold arith at h
 split at h
 ·split at h
  ·have e:IntKind.i64.wrap z=wrap64 z:=by simp[IntKind.wrap,wrap64,IntKind.bits,IntKind.signed];omega
   rw[e];exact h
  ·have e:IntKind.i64.wrap z=z:=by simp[IntKind.wrap,IntKind.bits,IntKind.signed];omega
   rw[e];exact h.2
 all_goals first|exact h|(simpa[IntKind.wrap,IntKind.bits,IntKind.signed]using h)
def cm (op:BinOp)(k:IntKind)(x y:Int):Int:=
 let a:=BitVec.ofInt k.bits x
 let b:=BitVec.ofInt k.bits y
 match op with
 | .and=>k.wrap (a&&&b).toNat
 | .or=>k.wrap (a|||b).toNat
 | .xor=>k.wrap (a^^^b).toNat
 |_=>k.wrap (a&&&~~~b).toNat
def ba (k:IntKind)(x y:Int):Int:=k.wrap (x*2^min y.toNat k.bits)
def cn (k:IntKind)(x y:Int):Int:=x.fdiv (2^min y.toNat k.bits)
def cE (k k':IntKind)(p:Prop):Prop:=
 match k,k' with
 | .i8,.i8| .i16,.i16| .i32,.i32| .i64,.i64| .u8,.u8| .u16,.u16| .u32,.u32| .u64,.u64=>p
 |_,_=>False
theorem aZ {k k':IntKind}{p:Prop}(h:cE k k' p):k=k'∧p:=by
 unfold cE at h;split at h<;>first|exact⟨rfl,h⟩|exact h.elim
def AV.Kt:AV→Option Bool
 | .tt=>some true| .ff=>some false| .bo x=>some x|_=>none
theorem AV.vl {v:AV}{x:Bool}(ρ:Env)(h:v.Kt=some x):v.c ρ=.bool x:=by
 unfold AV.Kt at h;split at h<;>simp_all[AV.c]
def Er (wr:Bool)(op:BinOp)(x y:AV)(K:AV→Prop):Prop:=
 match x,y with
 | .int k a,.int k' b=>match op with
   | .shl=>0≤b∧K (.int k (ba k a b))
   | .shr=>0≤b∧K (.int k (cn k a b))
   | .add=>cE k k' (arith k wr (a+b) fun z=>K (.int k z))
   | .sub=>cE k k' (arith k wr (a-b) fun z=>K (.int k z))
   | .mul=>cE k k' (arith k wr (a*b) fun z=>K (.int k z))
   | .quo=>cE k k' (b≠0∧arith k wr (a.tdiv b) fun z=>K (.int k z))
   | .rem=>cE k k' (b≠0∧K (.int k (a.tmod b)))
   | .and=>cE k k' (K (.int k (cm .and k a b)))
   | .or=>cE k k' (K (.int k (cm .or k a b)))
   | .xor=>cE k k' (K (.int k (cm .xor k a b)))
   | .andNot=>cE k k' (K (.int k (cm .andNot k a b)))
   | .eql=>cE k k' (K (.bo (decide (a=b))))
   | .neq=>cE k k' (K (.bo (!decide (a=b))))
   | .lss=>cE k k' (K (.bo (decide (a<b))))
   | .leq=>cE k k' (K (.bo (decide (a≤b))))
   | .gtr=>cE k k' (K (.bo (decide (b<a))))
   | .geq=>cE k k' (K (.bo (decide (b≤a))))
 | .str a,.str b=>match op with
   | .eql=>K (.bo (a.toList==b.toList))
   | .neq=>K (.bo (!(a.toList==b.toList)))
   | .add=>(a.size:Int)+b.size≤9223372036854775807∧K (.str (a++b))
   |_=>False
 |_,_=>False
theorem aB {P:Program}{w:World}{op:BinOp}{t:Nat}{x y:Operand}{k k':IntKind}{a b:Int}:(eqGuard op t x y (.int k a) (.int k' b)).run P w=.ok () w:=by
 unfold eqGuard;split<;>rfl
theorem gN {P:Program}{w:World}{op:BinOp}{t:Nat}{x y:Operand}{a b:ByteArray}:(eqGuard op t x y (.string a) (.string b)).run P w=.ok () w:=by
 unfold eqGuard;split<;>rfl
theorem jj {wr:Bool}{op:BinOp}{x y:AV}{K:AV→Prop}(h:Er wr op x y K)(ρ:Env):
 ∃v,K v∧v.ok ρ∧∀(P:Program)(w:World)(t:Nat)(ox oy:Operand),(do eqGuard op t ox oy (x.c ρ) (y.c ρ);binOp op t (x.c ρ) (y.c ρ):Sem Value).run P w=.ok (v.c ρ) w:=by
 unfold Er at h
 split at h
 ·rename_i k a k' b
  simp only[AV.c]
  cases op<;>simp only at h
  case shl=>exact⟨_,h.2,trivial,fun P w t ox oy=>by simp[aB,binOp,Op.shift,ba,AV.c,Int.not_lt.2 h.1]⟩
  case shr=>exact⟨_,h.2,trivial,fun P w t ox oy=>by simp[aB,binOp,Op.shift,cn,AV.c,Int.not_lt.2 h.1]⟩
  all_goals(replace h:=aZ h;obtain⟨rfl,h⟩:=h)
  case add=>exact⟨_,fp h,trivial,fun P w t ox oy=>by simp[aB,binOp,Op.intArith,AV.c]⟩
  case sub=>exact⟨_,fp h,trivial,fun P w t ox oy=>by simp[aB,binOp,Op.intArith,AV.c]⟩
  case mul=>exact⟨_,fp h,trivial,fun P w t ox oy=>by simp[aB,binOp,Op.intArith,AV.c]⟩
  case quo=>exact⟨_,fp h.2,trivial,fun P w t ox oy=>by simp[aB,binOp,Op.intDiv,AV.c,h.1]⟩
  case rem=>exact⟨_,h.2,trivial,fun P w t ox oy=>by simp[aB,binOp,Op.intDiv,AV.c,h.1]⟩
  case and=>exact⟨_,h,trivial,fun P w t ox oy=>by simp[aB,binOp,Op.intBits,AV.c,cm]⟩
  case or=>exact⟨_,h,trivial,fun P w t ox oy=>by simp[aB,binOp,Op.intBits,AV.c,cm]⟩
  case xor=>exact⟨_,h,trivial,fun P w t ox oy=>by simp[aB,binOp,Op.intBits,AV.c,cm]⟩
  case andNot=>exact⟨_,h,trivial,fun P w t ox oy=>by simp[aB,binOp,Op.intBits,AV.c,cm]⟩
  case eql=>exact⟨_,h,trivial,fun P w t ox oy=>by simp[aB,binOp,Op.intCmp,AV.c];exact(Bool.beq_eq_decide_eq a b)⟩
  case neq=>exact⟨_,h,trivial,fun P w t ox oy=>by simp[aB,binOp,Op.intCmp,AV.c,bne];exact(Bool.beq_eq_decide_eq a b)⟩
  case lss=>exact⟨_,h,trivial,fun P w t ox oy=>by simp[aB,binOp,Op.intCmp,AV.c]⟩
  case leq=>exact⟨_,h,trivial,fun P w t ox oy=>by simp[aB,binOp,Op.intCmp,AV.c]⟩
  case gtr=>exact⟨_,h,trivial,fun P w t ox oy=>by simp[aB,binOp,Op.intCmp,AV.c]⟩
  case geq=>exact⟨_,h,trivial,fun P w t ox oy=>by simp[aB,binOp,Op.intCmp,AV.c]⟩
 ·rename_i a b
  simp only[AV.c]
  cases op<;>simp only at h
  case eql=>exact⟨_,h,trivial,fun P w t ox oy=>by rw[Sem.run_bind,gN];simp only[Result.andThen_ok,binOp,Op.stringOp];rfl⟩
  case neq=>exact⟨_,h,trivial,fun P w t ox oy=>by rw[Sem.run_bind,gN];simp only[Result.andThen_ok,binOp,Op.stringOp];rfl⟩
  case add=>exact⟨_,h.2,trivial,fun P w t ox oy=>by simp[gN,binOp,Op.stringOp,AV.c];exact h.1⟩
 ·exact h.elim
def AV.one:AV→Bool
 | .agg _| .aL _| .raw _=>false
 |_=>true
theorem AV.On {v:AV}(ρ:Env)(h:v.one=true):(v.c ρ).oneCell'=true:=by
 cases v with
 |ptr i g off=>simp only[AV.c];rcases ρ i g with _|_|q<;>rfl
 |mE i g sz j o=>simp only[AV.c];rcases ρ i g with _|_|q<;>rfl
 |sl i g off n c=>simp only[AV.c];rcases ρ i g with _|_|q<;>rfl
 |mp i g=>simp only[AV.c];rcases ρ i g with _|_|q<;>rfl
 |agg l=>simp[AV.one]at h
 |aL l=>simp[AV.one]at h
 |raw v=>simp[AV.one]at h
 |_=>rfl
def AV.parts:AV→List AV
 | .agg l=>l
 |v=>[v]
theorem AV.nH (ρ:Env)(v:AV)(h:∀x,v≠ .raw x):(v.c ρ).cells.toList=AV.cl ρ v.parts:=by
 cases v with
 |ptr i g off=>simp only[AV.c,AV.parts,AV.cl];rcases ρ i g with _|_|q<;>rfl
 |mE i g sz j o=>simp only[AV.c,AV.parts,AV.cl];rcases ρ i g with _|_|q<;>rfl
 |sl i g off n c=>simp only[AV.c,AV.parts,AV.cl];rcases ρ i g with _|_|q<;>rfl
 |mp i g=>simp only[AV.c,AV.parts,AV.cl];rcases ρ i g with _|_|q<;>rfl
 |agg l=>simp[AV.c,AV.parts,Value.cells]
 |raw v=>exact absurd rfl (h v)
 |_=>rfl
theorem AV.mF {ρ:Env}{v:AV}(h:v.ok ρ):AV.dK ρ v.parts:=by
 cases v<;>simp_all[AV.parts,AV.dK,AV.ok]
def di (cs:List AV)(off:Nat)(vs:List AV):List AV:=
 match vs with
 |[v]=>cs.set off v
 |vs=>cs.take off++vs++cs.drop (off+vs.length)
theorem zV {cs vs:List AV}{off:Nat}(h:¬∃v,vs=[v]):di cs off vs=cs.take off++vs++cs.drop (off+vs.length):=by
 unfold di
 split
 ·exact absurd ⟨_,rfl⟩ h
 ·rfl
theorem kX {cs vs:List AV}{off k:Nat}(h:off+vs.length≤cs.length):
 (di cs off vs)[k]?=if off≤k∧k<off+vs.length then vs[k-off]? else cs[k]?:=by
 by_cases hv:∃v,vs=[v]
 ·obtain⟨v,rfl⟩:=hv
  simp only[di,List.length_cons,List.length_nil]at h⊢
  by_cases hk:k=off
  ·subst hk;simp[List.getElem?_set];omega
  ·rw[List.getElem?_set_ne (Ne.symm hk),if_neg (by omega)]
 ·rw[zV hv]
  have hl:(cs.take off).length=off:=by simp;omega
  by_cases h1:k<off
  ·rw[if_neg (by omega),List.append_assoc,List.getElem?_append_left (by omega),List.getElem?_take,if_pos h1]
  ·by_cases h2:k<off+vs.length
   ·rw[if_pos ⟨by omega,h2⟩,List.append_assoc,List.getElem?_append_right (by omega),hl,List.getElem?_append_left (by omega)]
   ·rw[if_neg (by omega),List.getElem?_append_right (by simp;omega)]
    simp only[List.length_append,hl,List.getElem?_drop]
    congr 1;omega
theorem vE {cs vs:List AV}{off:Nat}(h:off+vs.length≤cs.length):(di cs off vs).length=cs.length:=by
 unfold di
 split
 ·simp
 ·simp;omega
def xA (pl:Nat→Option (Nat×Nat)):List AV→List (Nat×AV)→Option (List AV)
 |cs,[]=>some cs
 |cs,(i,v)::r=>match pl i with
  |some (off,sz)=>match Nat.beq v.parts.length sz&&Nat.ble (off+sz) cs.length&&v.parts.all AV.one with
   |true=>xA pl (di cs off v.parts) r
   |false=>none
  |none=>none
theorem mZ {ρ:Env}{pl:Nat→Option (Nat×Nat)}:∀{l:List (Nat×AV)}{cs Kf:List AV},xA pl cs l=some Kf→AV.dK ρ cs→(∀x∈l,x.2.ok ρ)→
 ∀cells:Array Value,cells.toList=AV.cl ρ cs→AV.dK ρ Kf∧Instr.fill pl cells (l.map fun x=>(x.1,x.2.c ρ))=some (AV.cl ρ Kf).toArray
 |[],cs,Kf,h,aA,_,cells,hc=>by
  simp only[xA,Option.some.injEq]at h;subst h
  exact⟨aA,by rw[←hc];rfl⟩
 |(i,v)::r,cs,Kf,h,aA,hv,cells,hc=>by
  simp only[xA]at h
  split at h
  ·rename_i off sz bW
   split at h
   ·rename_i hb
    simp only[Bool.and_eq_true]at hb
    obtain⟨⟨h1,h2⟩,h3⟩:=hb
    have l6:v.parts.length=sz:=Nat.eq_of_beq_eq_true h1
    have Us:off+sz≤cs.length:=by simpa using h2
    have hr:∀x,v≠ .raw x:=by rintro x rfl;simp[AV.parts,AV.one]at h3
    have V8:=AV.nH ρ v hr
    have eJ:(v.c ρ).cells.size=sz:=by rw[←Array.length_toList,V8,AV.aY,List.length_map,l6]
    have FA:cells.size=cs.length:=by rw[←Array.length_toList,hc,AV.aY,List.length_map]
    have G1:=AV.mF (hv _ List.mem_cons_self)
    have Xi:AV.dK ρ (di cs off v.parts):=by
     rw[AV.aK]at aA G1⊢
     intro u hu
     obtain⟨k,hk⟩:=List.getElem?_of_mem hu
     rw[kX (by omega)]at hk
     split at hk
     ·exact G1 u (List.mem_of_getElem? hk)
     ·exact aA u (List.mem_of_getElem? hk)
    have me:((v.c ρ).cells.zipIdx.foldl (fun cs (x:Value×Nat)=>cs.setIfInBounds (off+x.2) x.1) cells).toList=AV.cl ρ (di cs off v.parts):=by
     obtain⟨f1,f2⟩:=Go.Great.foldl_set off (v.c ρ).cells.toList 0 cells
     have e0:(v.c ρ).cells.zipIdx.foldl (fun cs (x:Value×Nat)=>cs.setIfInBounds (off+x.2) x.1) cells=((v.c ρ).cells.toList.zipIdx 0).foldl (fun cs (x:Value×Nat)=>cs.setIfInBounds (off+x.2) x.1) cells:=by
      rw[←Array.foldl_toList,Array.toList_zipIdx]
     rw[e0]
     apply List.ext_getElem?
     intro k
     rw[Array.getElem?_toList,f2 k,AV.aY,List.getElem?_map,kX (by omega)]
     rw[V8,AV.aY,List.length_map,FA]
     by_cases hk:off≤k∧k<off+v.parts.length
     ·rw[if_pos (by omega),if_pos hk,List.getElem?_map];simp
     ·rw[if_neg (by omega),if_neg hk,←Array.getElem?_toList,hc,AV.aY,List.getElem?_map]
    obtain⟨g1,g2⟩:=mZ h Xi (fun x hx=>hv x (List.mem_cons_of_mem _ hx)) _ me
    refine⟨g1,?_⟩
    simp only[List.map_cons,Instr.fill,bW]
    rw[if_neg (by simp[eJ];omega)]
    exact g2
   ·cases h
  ·cases h
def p9 (T:List TI):List (Nat×Nat)→Option (List (Nat×Nat))
 |[]=>some []
 |(off,ft)::fs=>match T[ft]?,p9 T fs with
  |some ti,some r=>some ((off,ti.size)::r)
  |_,_=>none
end Go.Proofs.Ytibadaomjlkoaaa
open Go.RowKit
namespace Go.Proofs.Ytibadaomjlkoaaa
def fx (M:AH)(i g:Nat)(K:Bool→af→Prop):Prop:=
 match M[i]? with
 |some (.one own g' x)=>g=g'∧K own x
 |some (.bG own m x)=>g<m∧K own (x g)
 |_=>False
theorem aV {M:AH}{i g:Nat}{K:Bool→af→Prop}(h:fx M i g K):∃own x,slot M i g=some (own,x)∧K own x:=by
 unfold fx at h
 split at h
 ·rename_i own g' x hm
  obtain⟨rfl,h⟩:=h
  exact⟨own,x,by simp[slot,hm,bc],h⟩
 ·rename_i own m x hm
  exact⟨own,x g,by simp[slot,hm,bc,h.1],h.2⟩
 ·exact h.elim
def Wr (neg:Bool)(M:AH)(k:TK)(x y:AV)(K:AV→Prop):Prop:=
 match k with
 | .ptr _=>match x,y with
   | .np,.np=>K (if neg then .ff else .tt)
   | .ptr i g off,.np=>fx M i g fun own x_=>match x_ with
     | .cells _=>K (if neg then .tt else .ff)
     |_=>False
   | .np,.ptr i g off=>fx M i g fun own x_=>match x_ with
     | .cells _=>K (if neg then .tt else .ff)
     |_=>False
   |_,_=>False
 | .slice _=>match x,y with
   | .ns,.ns=>K (if neg then .ff else .tt)
   | .sl i g off n c,.ns=>fx M i g fun own x_=>match x_ with
     | .cells _=>K (if neg then .tt else .ff)
     | .ints _ xs co=>∀b:Bool,(b=true→xs=[]∧co=0)→K (.bo (if neg then !b else b))
     | .bV xs co=>∀b:Bool,(b=true→xs=[]∧co=0)→K (.bo (if neg then !b else b))
     | .cJ _ m _ co=>∀b:Bool,(b=true→m=0∧co=0)→K (.bo (if neg then !b else b))
     |_=>False
   |_,_=>False
 | .func=>match x,y with
   | .nf,.nf=>K (if neg then .ff else .tt)
   | .fn _ _ _,.nf=>K (if neg then .tt else .ff)
   |_,_=>False
 | .iface=>match x,y with
   | .jo _ _,.ni=>K (if neg then .tt else .ff)
   |_,_=>False
 | .bool=>match x.Kt,y.Kt with
   |some p,some q=>K (.bo (if neg then !(p==q)else p==q))
   |_,_=>False
 |_=>False
def NS (T:List TI)(la lb:List AV):List (Nat×Nat)→(Bool→Prop)→Prop
 |[],K=>K true
 |(off,ft)::fs,K=>match T[ft]?,la[off]?,lb[off]? with
  |some ⟨.int k,_,_,_⟩,some (.int k1 a),some (.int k2 b)=>cE k k1 (cE k k2 (NS T la lb fs fun r=>K (decide (a=b)&&r)))
  |some ⟨.bool,_,_,_⟩,some x,some y=>match x.Kt,y.Kt with
   |some p,some q=>NS T la lb fs fun r=>K ((p==q)&&r)
   |_,_=>False
  |_,_,_=>False
def NR (T:List TI)(neg:Bool)(t:Nat)(la lb:List AV)(K:AV→Prop):Prop:=
 match T[t]? with
 |some ⟨.struct fs,_,_,_⟩=>NS T la lb fs fun r=>K (.bo (if neg then !r else r))
 |_=>False
def bu (b:Bool)(p:Prop):Prop:=match b with|true=>p|false=>False
theorem ar {b:Bool}{p:Prop}(h:bu b p):b=true∧p:=by
 cases b
 ·exact h.elim
 ·exact⟨rfl,h⟩
def cS (c l off sz:Nat):Nat:=if c=l then off else off+l*sz
def B3 (T:List TI)(t:Nat)(x:AV)(lo hi:Option AV)(K:AV→Prop):Prop:=
 match x with
 | .sl i g off n c=>match T[t]? with
   |some ⟨.slice e,_,_,_⟩=>match T[e]? with
    |some te=>match lo,hi with
     |none,none=>K (.sl i g off n c)
     |none,some (.int _ h)=>(0≤h∧h≤c)∧K (.sl i g off h.toNat c)
     |some (.int _ l),none=>(0≤l∧l≤n)∧n≤c∧K (.sl i g (cS c l.toNat off te.size) (n-l.toNat) (c-l.toNat))
     |some (.int _ l),some (.int _ h)=>(0≤l∧l≤h∧h≤c)∧K (.sl i g (cS c l.toNat off te.size) (h.toNat-l.toNat) (c-l.toNat))
     |_,_=>False
    |none=>False
   |_=>False
 | .ns=>match T[t]? with
   |some ⟨.slice e,_,_,_⟩=>match T[e]? with
    |some te=>match lo,hi with
     |none,some (.int _ h)=>h=0∧K .ns
     |_,_=>False
    |none=>False
   |_=>False
 | .str s=>match T[t]? with
   |some ⟨.str,_,_,_⟩=>match lo,hi with
    |none,none=>K (.str (s.extract 0 s.size))
    |none,some (.int _ h)=>(0≤h∧h≤s.size)∧K (.str (s.extract 0 h.toNat))
    |some (.int _ l),none=>(0≤l∧l≤s.size)∧K (.str (s.extract l.toNat s.size))
    |some (.int _ l),some (.int _ h)=>(0≤l∧l≤h∧h≤s.size)∧K (.str (s.extract l.toNat h.toNat))
    |_,_=>False
   |_=>False
 |_=>False
def x8 (T:List TI)(t:Nat)(x:AV)(lo hi:Option AV)(mx:AV)(K:AV→Prop):Prop:=
 match x with
 | .sl i g off n c=>match T[t]? with
   |some ⟨.slice e,_,_,_⟩=>match T[e]? with
    |some te=>match lo,hi,mx with
     |none,some (.int _ h),.int _ m=>(0≤h∧h≤m∧m≤c)∧K (.sl i g off h.toNat m.toNat)
     |some (.int _ l),some (.int _ h),.int _ m=>(0≤l∧l≤h∧h≤m∧m≤c)∧K (.sl i g (cS m.toNat l.toNat off te.size) (h.toNat-l.toNat) (m.toNat-l.toNat))
     |_,_,_=>False
    |none=>False
   |_=>False
 |_=>False
def QI (T:List TI)(M:AH)(t:Nat)(x ix:AV)(K:AV→Prop):Prop:=
 match ix with
 | .int _ z=>match x with
   | .sl i g off n c=>match T[t]? with
     |some ⟨.slice e,_,_,_⟩=>match T[e]? with
      |some te=>(0≤z∧z<n)∧fx M i g fun own x_=>match x_ with
       | .cells _=>K (.ptr i g (off+z.toNat*te.size))
       | .ints _ xs _=>bu (Nat.beq te.size 1) (0<xs.length∧K (.ptr i g (z.toNat+off)))
       | .bV xs _=>bu (Nat.beq te.size 1) (0<xs.length∧K (.ptr i g (z.toNat+off)))
       | .cJ sz m _ _=>match off with
         |0=>bu (Nat.beq te.size sz) (0<m∧K (.mE i g sz z.toNat 0))
         |_=>False
       |_=>False
      |none=>False
     |_=>False
   | .ptr i g off=>match T[t]? with
     |some ⟨.arr n e,_,_,_⟩=>match T[e]? with
      |some te=>(0≤z∧z<n)∧fx M i g fun own x_=>match x_ with
       | .cells _=>K (.ptr i g (off+z.toNat*te.size))
       |_=>False
      |none=>False
     |_=>False
   |_=>False
 |_=>False
def oz (ti:TI)(l:List AV)(off:Nat)(K:AV→Prop):Prop:=
 match ti.k.isAgg with
 |true=>K (.agg ((l.drop off).take ti.size))
 |false=>match l[off]? with
  |some v=>K v
  |none=>False
def xd (M:AH)(v:AV)(p:Prop):Prop:=
 match v with
 | .ptr i g off=>fx M i g fun own x_=>match x_ with
   | .cells _=>p
   | .ints _ xs _=>off<xs.length∧p
   | .bV xs _=>off<xs.length∧p
   |_=>False
 | .mE i g _ j _=>fx M i g fun own x_=>match x_ with
   | .cJ _ n _ _=>j<n∧p
   |_=>False
 |_=>False
def lJ (v:AV)(K:AV→Prop):Prop:=
 match v with
 | .bo x=>K (.bo x)| .tt=>K .tt| .ff=>K .ff| .int k n=>K (.int k n)| .str x=>K (.str x)| .np=>K .np| .ptr i g off=>K (.ptr i g off)| .mE i g sz j o=>K (.mE i g sz j o)
 | .ns=>K .ns| .sl i g off n c=>K (.sl i g off n c)| .nf=>K .nf| .fn q a b=>K (.fn q a b)| .ni=>K .ni| .jo t v=>K (.jo t v)| .nm=>K .nm| .mp i g=>K (.mp i g)
 | .agg l=>K (.agg l)| .aL l=>K (.aL l)| .raw v=>K (.raw v)
theorem eD {v:AV}{K:AV→Prop}(h:lJ v K):K v:=by cases v<;>exact h
def xO (ti:TI)(K:AV→Prop):Prop:=match ti.k.isAgg with
 |true=>K (.aL [.agg ti.zero,.ff])
 |false=>∀z,K (.aL [.raw z,.ff])
def iR (T:List TI)(wr:Bool)(M:AH)(e:Operand→AV)(o:Op)(K:AV→Prop):Prop:=
 match o with
 | .move x| .assign x=>lJ (e x) K
 | .pick c a b=>match e c with
   | .tt=>lJ (e a) K
   | .ff=>lJ (e b) K
   | .bo x=>(x=true→lJ (e a) K)∧(x=false→lJ (e b) K)
   |_=>False
 | .nilCheck x=>match e x with
   | .fn (.func f) a b=>K (.fn (.func f) a b)
   |v=>xd M v (K v)
 | .binOp op t x y _=>match op with
   | .eql=>match e x,e y with
     | .int k a,.int k' b=>Er wr .eql (.int k a) (.int k' b) K
     | .str a,.str b=>Er wr .eql (.str a) (.str b) K
     | .agg la,.agg lb=>NR T false t la lb K
     |a,b=>match T[t]? with
      |some ti=>Wr false M ti.k a b K
      |none=>False
   | .neq=>match e x,e y with
     | .int k a,.int k' b=>Er wr .neq (.int k a) (.int k' b) K
     | .str a,.str b=>Er wr .neq (.str a) (.str b) K
     | .agg la,.agg lb=>NR T true t la lb K
     |a,b=>match T[t]? with
      |some ti=>Wr true M ti.k a b K
      |none=>False
   |op=>Er wr op (e x) (e y) K
 | .unOp op _ x=>match op,e x with
   | .not,.tt=>K .ff
   | .not,.ff=>K .tt
   | .not,.bo b=>K (.bo (!b))
   | .neg,.int k n=>arith k wr (0-n) fun z=>K (.int k z)
   | .xor,.int k n=>K (.int k (cm .xor k (if k.signed then-1 else k.max) n))
   |_,_=>False
 | .convert src dst x=>match e x,T[src]?,T[dst]? with
   | .int _ n,some _,some ⟨.int k,_,_,_⟩=>arith k wr n fun z=>K (.int k z)
   |_,_,_=>False
 | .makeInterface t x=>match T[t]? with
   |some ⟨.iface,_,_,_⟩=>False
   |some _=>K (.jo t (e x))
   |none=>False
 | .makeFunc fn first cap=>K (.fn fn (first.toList.map e) (cap.toList.map e))
 | .extract x ix=>match e x with
   | .aL l=>match l[ix]? with
     |some v=>K v
     |none=>False
   |_=>False
 | .field t x f=>match e x,T[t]? with
   | .agg l,some ⟨.struct fs,_,_,_⟩=>match fs[f]? with
     |some (off,ft)=>match T[ft]? with
      |some ti=>oz ti l off K
      |none=>False
     |none=>False
   |_,_=>False
 | .fieldAddr t x f=>match T[t]? with
   |some ⟨.struct fs,_,_,_⟩=>match fs[f]? with
    |some (off,ft)=>match T[ft]? with
     |some ti=>bu (!Nat.beq ti.size 0) (match e x with
      | .ptr i g o=>xd M (.ptr i g o) (K (.ptr i g (o+off)))
      | .mE i g sz j o=>xd M (.mE i g sz j o) (K (.mE i g sz j (o+off)))
      |_=>False)
     |none=>False
    |none=>False
   |_=>False
 | .indexAddr t x ix=>QI T M t (e x) (e ix) K
 | .index t x ix=>match e x,e ix,T[t]? with
   | .agg l,.int _ z,some ⟨.arr n el,_,_,_⟩=>match T[el]? with
     |some ti=>(0≤z∧z<n)∧oz ti l (z.toNat*ti.size) K
     |none=>False
   | .str s,.int _ z,some ⟨.str,_,_,_⟩=>(0≤z∧z<s.size)∧K (.int .u8 (((s.data.toList.getD z.toNat 0).toNat:Nat):Int))
   |_,_,_=>False
 | .sliceToArrayPointer t x=>match e x,T[t]? with
   | .sl i g off n _,some ⟨.arr m _,_,_,_⟩=>m≤n∧xd M (.ptr i g off) (K (.ptr i g off))
   |_,_=>False
 | .slice t x lo hi none=>B3 T t (e x) (lo.map e) (hi.map e) K
 | .slice t x lo hi (some mx)=>x8 T t (e x) (lo.map e) (hi.map e) (e mx) K
 | .typeAssert x _ asserted ok=>match T[asserted]?,e x with
   |some ⟨.iface,_,_,_⟩,_=>False
   |some ti,.jo t v=>match Nat.beq t asserted with
    |true=>K (match ok with|true=>.aL [v,.tt]|false=>v)
    |false=>match ok with
     |true=>xO ti K
     |false=>False
   |some ti,.ni=>match ok with
    |true=>xO ti K
    |false=>False
   |_,_=>False
 | .call ⟨.builtin .len,args,iJ⟩=>match args.toList,iJ.toList with
   |[x],[t]=>match e x,T[t]? with
    | .ns,some ⟨.slice _,_,_,_⟩=>K (.int .i64 0)
    | .sl _ _ _ n _,some ⟨.slice _,_,_,_⟩=>K (.int .i64 (n:Int))
    | .str s,some ⟨.str,_,_,_⟩=>K (.int .i64 (s.size:Int))
    |_,some ⟨.arr n _,_,_,_⟩=>K (.int .i64 (n:Int))
    |_,_=>False
   |_,_=>False
 | .call ⟨.builtin .min,args,_⟩=>match args.toList with
   |[x,y]=>match e x,e y with
    | .int k a,.int _ b=>K (.int k (min a b))
    |_,_=>False
   |_=>False
 | .call ⟨.builtin .max,args,_⟩=>match args.toList with
   |[x,y]=>match e x,e y with
    | .int k a,.int _ b=>K (.int k (max a b))
    |_,_=>False
   |_=>False
 | .build t parts=>match T[t]? with
   |some ⟨.struct fs,_,_,z⟩=>match p9 T fs with
    |some pl=>match xA (fun i=>pl[i]?) z (parts.toList.map fun x=>(x.1,e x.2))with
     |some cs=>K (.agg cs)
     |none=>False
    |none=>False
   |some ⟨.arr _ el,_,_,z⟩=>match T[el]? with
    |some te=>match xA (fun i=>some (i*te.size,te.size)) z (parts.toList.map fun x=>(x.1,e x.2))with
     |some cs=>K (.agg cs)
     |none=>False
    |none=>False
   |_=>False
 | .call ⟨.builtin .cap,args,iJ⟩=>match args.toList,iJ.toList with
   |[x],[t]=>match e x,T[t]? with
    | .ns,some ⟨.slice _,_,_,_⟩=>K (.int .i64 0)
    | .sl _ _ _ _ c,some ⟨.slice _,_,_,_⟩=>K (.int .i64 (c:Int))
    |_,_=>False
   |_,_=>False
 |_=>False
def jR (ρ:Env)(M:AH):Prop:=∀i g own x,slot M i g=some (own,x)→(∃q,ρ i g=some (some q))∨(ρ i g=some none∧x.bP)
theorem aU.known {ρ:Env}{M:AH}{w:World}(h:aU ρ M w):jR ρ M:=fun i g own x hs=>by
 rcases h.holds i g own x hs with⟨q,hq,_⟩|h
 ·exact .inl ⟨q,hq⟩
 ·exact .inr h
theorem jR.ext {ρ ρ':Env}{M:AH}(h:jR ρ M)(he:∀i g l,ρ i g=some l→ρ' i g=some l):jR ρ' M:=fun i g own x hs=>by
 rcases h i g own x hs with⟨q,hq⟩|⟨h1,h2⟩
 ·exact .inl ⟨q,he _ _ _ hq⟩
 ·exact .inr ⟨he _ _ _ h1,h2⟩
def KX (P:Program)(s:Sem Value)(v:Value):Prop:=∀w,s.run P w=.ok v w
theorem jL {ρ:Env}{M:AH}{v:AV}{p:Prop}(hk:jR ρ M)(h:xd M v p):p∧v.ok ρ∧∃a:Addr,a.spot=none∧v.c ρ=.pointer (some a):=by
 unfold xd at h
 split at h
 ·rename_i i g off
  replace h:=aV h
  obtain⟨own,x_,hs,h⟩:=h
  split at h
  ·rename_i cs
   rcases hk _ _ _ _ hs with⟨q,hq⟩|⟨_,h2⟩
   ·exact⟨h,by simp[AV.ok,hq],⟨q.1,q.2+off,none⟩,rfl,by simp[AV.c,hq]⟩
   ·exact h2.elim
  ·rename_i k xs c
   rcases hk _ _ _ _ hs with⟨q,hq⟩|⟨_,h2⟩
   ·exact⟨h.2,by simp[AV.ok,hq],⟨q.1,q.2+off,none⟩,rfl,by simp[AV.c,hq]⟩
   ·have:=h.1;simp[h2.1]at this
  ·rename_i xs c
   rcases hk _ _ _ _ hs with⟨q,hq⟩|⟨_,h2⟩
   ·exact⟨h.2,by simp[AV.ok,hq],⟨q.1,q.2+off,none⟩,rfl,by simp[AV.c,hq]⟩
   ·have:=h.1;simp[h2.1]at this
  ·exact h.elim
 ·rename_i i g sz j o
  replace h:=aV h
  obtain⟨own,x_,hs,h⟩:=h
  split at h
  ·rename_i s n get c
   rcases hk _ _ _ _ hs with⟨q,hq⟩|⟨_,h2⟩
   ·exact⟨h.2,by simp[AV.ok,hq],⟨q.1,q.2+(j*sz+o),none⟩,rfl,by simp[AV.c,hq]⟩
   ·have:=h.1;have:=h2.1;omega
  ·exact h.elim
 ·exact h.elim
theorem aq.fY {P:Program}{T:List TI}(h:aq P T){t:Nat}{ti:TI}(ht:T[t]?=some ti):∃d,P.underlying t=some d∧fw d=ti.k:=by
 obtain⟨d,i,z,h1,h2,h3,rfl⟩:=h.get ht
 exact⟨d,h1,rfl⟩
theorem H2 {d:TypeDesc}{e:Nat}(h:fw d=.ptr e):d=.pointer e:=by cases d<;>simp_all[fw]
theorem aM {d:TypeDesc}{e:Nat}(h:fw d=.slice e):d=.slice e:=by cases d<;>simp_all[fw]
theorem kg {d:TypeDesc}{n e:Nat}(h:fw d=.arr n e):d=.array n e:=by cases d<;>simp_all[fw]
theorem qC {d:TypeDesc}(h:fw d=.bool):d=.bool:=by cases d<;>simp_all[fw]
theorem kf {d:TypeDesc}(h:fw d=.str):d=.string:=by cases d<;>simp_all[fw]
theorem dQ {d:TypeDesc}{k:IntKind}(h:fw d=.int k):d=.int k:=by cases d<;>simp_all[fw]
theorem F7 {d:TypeDesc}(h:fw d=.func):∃a b c,d=.func a b c:=by cases d<;>simp_all[fw]
theorem BX {d:TypeDesc}(h:fw d=.iface):∃ms,d=.interface ms:=by cases d<;>simp_all[fw]
theorem gv {d:TypeDesc}{fs:List (Nat×Nat)}(h:fw d=.struct fs):∃f,d=.struct f∧fs=f.toList.map fun f=>(f.offset,f.type):=by cases d<;>simp_all[fw]
theorem jD {P:Program}{w:World}{op:BinOp}{t:Nat}{x y:Operand}{a b:Value}(h1:a≠ .nilIface∨b≠ .nilIface)(h2:∀c,a≠ .agg c):(eqGuard op t x y a b).run P w=.ok () w:=by
 cases a<;>cases b<;>first
  |(exfalso;rcases h1 with h|h<;>exact h rfl)
  |(exfalso;exact h2 _ rfl)
  |(cases op<;>rfl)
theorem m7 {P:Program}{t:Nat}{x y:Value}{r:Bool}(neg:Bool)(h:∀w,(Op.equal t x y).run P w=.ok r w)(h1:x≠ .nilIface∨y≠ .nilIface)(h2:∀c,x≠ .agg c)
 (hb:∀op,op=.eql∨op=.neq→binOp op t x y=(match op with| .eql=>do pure (.bool (←Op.equal t x y))|_=>do pure (.bool (!(←Op.equal t x y)))))(ox oy:Operand):
 KX P (do eqGuard (if neg then .neq else .eql) t ox oy x y;binOp (if neg then .neq else .eql) t x y) (.bool (if neg then !r else r)):=by
 intro w
 cases neg
 ·simp only[Bool.false_eq_true,if_false]
  rw[Sem.run_bind,jD h1 h2,hb _ (.inl rfl)]
  simp[h w]
 ·simp only[if_true]
  rw[Sem.run_bind,jD h1 h2,hb _ (.inr rfl)]
  simp[h w]
theorem ey {P:Program}{t:Nat}{x y:Value}{r:Bool}(h:∀d w,(Op.equalIn (d+1) t x y).run P w=.ok r w)(w:World):(Op.equal t x y).run P w=.ok r w:=h 9999 w
theorem xB {P:Program}{T:List TI}(hT:aq P T){neg:Bool}{M:AH}{t:Nat}{ti:TI}(ht:T[t]?=some ti){x y:AV}{K:AV→Prop}{ρ:Env}(hk:jR ρ M)
 (h:Wr neg M ti.k x y K):∃v,K v∧v.ok ρ∧∀ox oy,KX P (do eqGuard (if neg then .neq else .eql) t ox oy (x.c ρ) (y.c ρ);binOp (if neg then .neq else .eql) t (x.c ρ) (y.c ρ)) (v.c ρ):=by
 obtain⟨d,hd,eO⟩:=hT.fY ht
 have tf:∀r:Bool,∃v:AV,(v=if r then AV.tt else AV.ff)∧v.ok ρ∧v.c ρ=.bool r:=fun r=>by cases r<;>exact⟨_,rfl,by trivial,rfl⟩
 unfold Wr at h
 split at h
 ·rename_i e Nv
  rw[Nv]at eO;obtain rfl:=H2 eO
  have e0:∀(a b:Option Addr),(a=none∨b=none)→∀w,(Op.equal t (.pointer a) (.pointer b)).run P w=.ok (a.isNone&&b.isNone) w:=by
   intro a b KU
   refine ey fun d w=>?_
   rcases a with _|a<;>rcases b with _|b<;>first|(simp[Op.equalIn,run_underlying hd];done)|simp at KU
  have hb:∀(a b:Option Addr),(a=none∨b=none)→∀op,op=.eql∨op=.neq→binOp op t (.pointer a) (.pointer b)=(match op with| .eql=>do pure (.bool (←Op.equal t (.pointer a) (.pointer b)))|_=>do pure (.bool (!(←Op.equal t (.pointer a) (.pointer b))))):=by
   intro a b KU op sA
   rcases sA with rfl|rfl<;>rcases a with _|a<;>rcases b with _|b<;>rfl
  split at h
  ·obtain⟨v,hv,aA,hc⟩:=tf (if neg then false else true)
   refine⟨v,by rw[hv];cases neg<;>exact h,aA,fun ox oy=>?_⟩
   have:=m7 neg (e0 none none (.inl rfl)) (.inl (by simp)) (by simp) (hb none none (.inl rfl)) ox oy
   rw[hc];cases neg<;>simpa[AV.c]using this
  ·rename_i i g off
   replace h:=aV h
   obtain⟨own,x_,hs,h⟩:=h
   split at h
   ·rename_i cs
    rcases hk _ _ _ _ hs with⟨q,hq⟩|⟨_,h2⟩
    ·obtain⟨v,hv,aA,hc⟩:=tf neg
     refine⟨v,by rw[hv];cases neg<;>exact h,aA,fun ox oy=>?_⟩
     have:=m7 neg (e0 (some ⟨q.1,q.2+off,none⟩) none (.inr rfl)) (.inl (by simp)) (by simp) (hb (some ⟨q.1,q.2+off,none⟩) none (.inr rfl)) ox oy
     rw[hc];cases neg<;>simpa[AV.c,hq]using this
    ·exact h2.elim
   ·exact h.elim
  ·rename_i i g off
   replace h:=aV h
   obtain⟨own,x_,hs,h⟩:=h
   split at h
   ·rename_i cs
    rcases hk _ _ _ _ hs with⟨q,hq⟩|⟨_,h2⟩
    ·obtain⟨v,hv,aA,hc⟩:=tf neg
     refine⟨v,by rw[hv];cases neg<;>exact h,aA,fun ox oy=>?_⟩
     have:=m7 neg (e0 none (some ⟨q.1,q.2+off,none⟩) (.inl rfl)) (.inl (by simp)) (by simp) (hb none (some ⟨q.1,q.2+off,none⟩) (.inl rfl)) ox oy
     rw[hc];cases neg<;>simpa[AV.c,hq]using this
    ·exact h2.elim
   ·exact h.elim
  ·exact h.elim
 ·rename_i e Nv
  rw[Nv]at eO;obtain rfl:=aM eO
  have e0:∀(a:Option Addr)(n c n' c':Nat),∀w,(Op.equal t (.slice a n c) (.slice none n' c')).run P w=.ok a.isNone w:=by
   intro a n c n' c'
   refine ey fun d w=>?_
   rcases a with _|a<;>simp[Op.equalIn,run_underlying hd]
  have hb:∀(a:Option Addr)(n c n' c':Nat),∀op,op=.eql∨op=.neq→binOp op t (.slice a n c) (.slice none n' c')=(match op with| .eql=>do pure (.bool (←Op.equal t (.slice a n c) (.slice none n' c')))|_=>do pure (.bool (!(←Op.equal t (.slice a n c) (.slice none n' c'))))):=by
   intro a n c n' c' op sA
   rcases sA with rfl|rfl<;>rfl
  have go:∀(a:Option Addr)(n c:Nat)(ox oy:Operand),KX P (do eqGuard (if neg then .neq else .eql) t ox oy (.slice a n c) (.slice none 0 0);binOp (if neg then .neq else .eql) t (.slice a n c) (.slice none 0 0)) (.bool (if neg then !a.isNone else a.isNone)):=
   fun a n c ox oy=>m7 neg (e0 a n c 0 0) (.inl (by simp)) (by simp) (hb a n c 0 0) ox oy
  split at h
  ·obtain⟨v,hv,aA,hc⟩:=tf (if neg then false else true)
   refine⟨v,by rw[hv];cases neg<;>exact h,aA,fun ox oy=>?_⟩
   rw[hc];have:=go none 0 0 ox oy;cases neg<;>simpa[AV.c]using this
  ·rename_i i g off n c
   have known:∀own x,slot M i g=some (own,x)→∀(p:Prop),(x.bP→p)→∃b:Bool,(b=true→p)∧(¬x.bP→b=false)∧∀ox oy,KX P (do eqGuard (if neg then .neq else .eql) t ox oy ((AV.sl i g off n c).c ρ) (AV.ns.c ρ);binOp (if neg then .neq else .eql) t ((AV.sl i g off n c).c ρ) (AV.ns.c ρ)) (.bool (if neg then !b else b)):=by
    intro own x hs p hp
    rcases hk _ _ _ _ hs with⟨q,hq⟩|⟨hq,hv⟩
    ·exact⟨false,by simp,fun _=>rfl,fun ox oy=>by simp only[AV.c,hq];exact go (some _) n c ox oy⟩
    ·exact⟨true,fun _=>hp hv,fun hn=>absurd hv hn,fun ox oy=>by simp only[AV.c,hq];exact go none n c ox oy⟩
   replace h:=aV h
   obtain⟨own,x_,hs,h⟩:=h
   split at h
   ·rename_i cs
    obtain⟨b,_,h2,h3⟩:=known _ _ hs True (fun _=>trivial)
    obtain rfl:=h2 (fun hv=>hv.elim)
    obtain⟨v,hv,aA,hc⟩:=tf neg
    exact⟨v,by rw[hv];cases neg<;>exact h,aA,fun ox oy=>by rw[hc];have:=h3 ox oy;cases neg<;>simpa using this⟩
   ·rename_i k xs co
    obtain⟨b,h1,_,h3⟩:=known _ _ hs (xs=[]∧co=0) (fun hv=>hv)
    exact⟨_,h b h1,trivial,fun ox oy=>h3 ox oy⟩
   ·rename_i xs co
    obtain⟨b,h1,_,h3⟩:=known _ _ hs (xs=[]∧co=0) (fun hv=>hv)
    exact⟨_,h b h1,trivial,fun ox oy=>h3 ox oy⟩
   ·rename_i sz m get co
    obtain⟨b,h1,_,h3⟩:=known _ _ hs (m=0∧co=0) (fun hv=>hv)
    exact⟨_,h b h1,trivial,fun ox oy=>h3 ox oy⟩
   ·exact h.elim
  ·exact h.elim
 ·rename_i Nv
  rw[Nv]at eO;obtain⟨a1,a2,a3,rfl⟩:=F7 eO
  split at h
  ·obtain⟨v,hv,aA,hc⟩:=tf (if neg then false else true)
   refine⟨v,by rw[hv];cases neg<;>exact h,aA,fun ox oy=>?_⟩
   have:=m7 (P:=P) (t:=t) (x:=.nilFunc) (y:=.nilFunc) (r:=true) neg (ey fun d w=>by simp[Op.equalIn,run_underlying hd]) (.inl (by simp)) (by simp) (by rintro op (rfl|rfl)<;>rfl) ox oy
   rw[hc];cases neg<;>simpa[AV.c]using this
  ·rename_i fn a b
   obtain⟨v,hv,aA,hc⟩:=tf neg
   refine⟨v,by rw[hv];cases neg<;>exact h,aA,fun ox oy=>?_⟩
   have:=m7 (P:=P) (t:=t) (x:=(AV.fn fn a b).c ρ) (y:=.nilFunc) (r:=false) neg (ey fun d w=>by simp[AV.c,Op.equalIn,run_underlying hd]) (.inl (by simp[AV.c])) (by simp[AV.c]) (by rintro op (rfl|rfl)<;>rfl) ox oy
   rw[hc];cases neg<;>simpa[AV.c]using this
  ·exact h.elim
 ·rename_i Nv
  rw[Nv]at eO;obtain⟨ms,rfl⟩:=BX eO
  split at h
  ·rename_i ty a
   obtain⟨v,hv,aA,hc⟩:=tf neg
   refine⟨v,by rw[hv];cases neg<;>exact h,aA,fun ox oy=>?_⟩
   have:=m7 (P:=P) (t:=t) (x:=(AV.jo ty a).c ρ) (y:=.nilIface) (r:=false) neg (ey fun d w=>by simp[AV.c,Op.equalIn,run_underlying hd]) (.inl (by simp[AV.c])) (by simp[AV.c]) (by rintro op (rfl|rfl)<;>rfl) ox oy
   rw[hc];cases neg<;>simpa[AV.c]using this
  ·exact h.elim
 ·rename_i Nv
  rw[Nv]at eO;obtain rfl:=qC eO
  split at h
  ·rename_i p q hx hy
   refine⟨_,h,trivial,fun ox oy=>?_⟩
   rw[AV.vl ρ hx,AV.vl ρ hy]
   have:=m7 (P:=P) (t:=t) (x:=.bool p) (y:=.bool q) (r:=p==q) neg (ey fun d w=>by simp[Op.equalIn,run_underlying hd]) (.inl (by simp)) (by simp) (by rintro op (rfl|rfl)<;>rfl) ox oy
   cases neg<;>simpa[AV.c]using this
  ·exact h.elim
 ·exact h.elim
end Go.Proofs.Ytibadaomjlkoaaa
open Go.RowKit
namespace Go.Proofs.Ytibadaomjlkoaaa
theorem aq.size {P:Program}{T:List TI}(h:aq P T){t:Nat}{ti:TI}(ht:T[t]?=some ti)(w:World):(sizeOf t).run P w=.ok ti.size w:=by
 obtain⟨d,i,z,h1,h2,h3,rfl⟩:=h.get ht
 simp[sizeOf,typeInfo,h2]
theorem aq.isAgg {P:Program}{T:List TI}(h:aq P T){t:Nat}{ti:TI}(ht:T[t]?=some ti)(w:World):(isAgg t).run P w=.ok ti.k.isAgg w:=by
 obtain⟨d,i,z,h1,h2,h3,rfl⟩:=h.get ht
 cases d<;>simp[Go.isAgg,run_underlying h1,fw,TK.isAgg]
theorem aq.zero {P:Program}{T:List TI}(h:aq P T){t:Nat}{ti:TI}(ht:T[t]?=some ti):∃z,(∀w,(zeroValue t).run P w=.ok z w)∧∀ρ,z.cells.toList=AV.cl ρ ti.zero:=by
 obtain⟨d,i,z,h1,h2,h3,rfl⟩:=h.get ht
 refine⟨z,fun w=>by simp[zeroValue,typeInfo,h2,h3],fun ρ=>?_⟩
 simp[AV.aY,Function.comp_def,qe]
theorem aq.nr {P:Program}{T:List TI}(h:aq P T){t:Nat}{ti:TI}(ht:T[t]?=some ti)(ρ:Env):AV.dK ρ ti.zero:=by
 obtain⟨d,i,z,h1,h2,h3,rfl⟩:=h.get ht
 rw[AV.aK]
 intro v hv
 obtain⟨x,_,rfl⟩:=List.mem_map.1 hv
 exact ua ρ x
theorem cf (b o k:Nat):(⟨b,o,none⟩:Addr).add k=⟨b,o+k,none⟩:=by
 unfold Addr.add;split
 ·subst_vars;rfl
 ·rfl
theorem du {P:Program}{T:List TI}(hT:aq P T){t:Nat}{ti:TI}(ht:T[t]?=some ti){l:List AV}{off:Nat}{K:AV→Prop}{ρ:Env}(hl:AV.dK ρ l)
 (h:oz ti l off K):∃v,K v∧v.ok ρ∧KX P (part t (AV.cl ρ l).toArray off) (v.c ρ):=by
 unfold oz at h
 split at h
 ·rename_i hk
  refine⟨_,h,?_,fun w=>?_⟩
  ·simp only[AV.ok,AV.aK]at hl⊢
   exact fun v hv=>hl v (List.mem_of_mem_drop (List.mem_of_mem_take hv))
  ·simp[part,hT.isAgg ht,hk,hT.size ht,AV.c,AV.aY,List.map_take,List.map_drop]
 ·rename_i hk
  split at h
  ·rename_i v hv
   refine⟨v,h,(AV.aK ρ l).1 hl v (List.mem_of_getElem? hv),fun w=>?_⟩
   simp[part,hT.isAgg ht,hk,AV.aY,hv]
  ·exact h.elim
theorem Gl {ρ:Env}{i g off n c:Nat}:∃a:Option Addr,(AV.sl i g off n c).c ρ=.slice a n c∧∀k,(AV.sl i g (off+k) n c).c ρ=.slice (a.map (·.add k)) n c:=by
 simp only[AV.c]
 split
 ·exact⟨_,rfl,fun k=>by simp[cf,Nat.add_assoc]⟩
 ·exact⟨none,rfl,fun k=>rfl⟩
theorem zW {ρ:Env}{i g off n c n' c':Nat}{a:Option Addr}(h:(AV.sl i g off n c).c ρ=.slice a n c):(AV.sl i g off n' c').c ρ=.slice a n' c':=by
 simp only[AV.c]at h⊢
 split at h<;>rename_i hq<;>simp_all
theorem B4 {ρ:Env}{i g off n c n' c' m l sz:Nat}{a:Option Addr}(h:(AV.sl i g off n c).c ρ=.slice a n c):(AV.sl i g (cS m l off sz) n' c').c ρ=.slice (if m=l then a else a.map (·.add (l*sz))) n' c':=by
 unfold cS
 by_cases hm:m=l
 ·rw[if_pos hm,if_pos hm];exact zW h
 ·rw[if_neg hm,if_neg hm]
  obtain⟨a',h1,h2⟩:=Gl (ρ:=ρ) (i:=i) (g:=g) (off:=off) (n:=n) (c:=c)
  rw[h]at h1
  injection h1 with h1 _ _
  subst h1
  exact zW (h2 (l*sz))
theorem dV {P:Program}{t e:Nat}{x:Value}{lo hi mx:Option Value}(hd:P.underlying t=some (.slice e))(w:World):(Instr.sliceAt t x lo hi mx).run P w=(Instr.slice t x lo hi mx).run P w:=by
 simp[Instr.sliceAt,run_underlying hd]
theorem eX {P:Program}{t:Nat}{x:Value}{lo hi mx:Option Value}(hd:P.underlying t=some .string)(w:World):(Instr.sliceAt t x lo hi mx).run P w=(Instr.slice t x lo hi mx).run P w:=by
 simp[Instr.sliceAt,run_underlying hd]
theorem x7 {P:Program}{T:List TI}(hT:aq P T){t:Nat}{x:AV}{lo hi:Option AV}{K:AV→Prop}{ρ:Env}(hx:x.ok ρ)
 (h:B3 T t x lo hi K):∃v,K v∧v.ok ρ∧KX P (Instr.sliceAt t (x.c ρ) (lo.map (AV.c ρ)) (hi.map (AV.c ρ)) none) (v.c ρ):=by
 unfold B3 at h
 split at h
 ·rename_i i g off n c
  split at h
  ·rename_i e s1 s2 s3 ht
   obtain⟨d,hd,eO⟩:=hT.fY ht
   obtain rfl:=aM eO
   obtain⟨a,ha,_⟩:=Gl (ρ:=ρ) (i:=i) (g:=g) (off:=off) (n:=n) (c:=c)
   split at h
   ·rename_i te ri
    have hs:=hT.size ri
    split at h
    ·refine⟨_,h,hx,fun w=>?_⟩
     rw[dV hd,ha]
     simp[Instr.slice,run_underlying hd,Instr.sliceBounds,hs]
     rcases a with _|a<;>simp[Addr.add]
    ·rename_i k hh
     obtain⟨⟨h1,h2⟩,h⟩:=h
     refine⟨_,h,hx,fun w=>?_⟩
     rw[dV hd,ha,zW ha]
     simp[Instr.slice,run_underlying hd,Instr.sliceBounds,Instr.sliceBound,asIntOf,AV.c,hs,h1,h2]
     rcases a with _|a<;>simp[Addr.add]
    ·rename_i k l
     obtain⟨⟨h1,h2⟩,Xn,h⟩:=h
     refine⟨_,h,hx,fun w=>?_⟩
     rw[dV hd,ha,B4 ha]
     simp[Instr.slice,run_underlying hd,Instr.sliceBounds,Instr.sliceBound,asIntOf,AV.c,hs,h1,h2]
    ·rename_i k l k' hh
     obtain⟨⟨h1,h2,h3⟩,h⟩:=h
     refine⟨_,h,hx,fun w=>?_⟩
     have h0:0≤hh:=Int.le_trans h1 h2
     have h4:l≤(hh.toNat:Int):=by omega
     rw[dV hd,ha,B4 ha]
     simp[Instr.slice,run_underlying hd,Instr.sliceBounds,Instr.sliceBound,asIntOf,AV.c,hs,h0,h1,h3,h4]
     intro hc;exfalso;omega
    ·exact h.elim
   ·exact h.elim
  ·exact h.elim
 ·split at h
  ·rename_i e s1 s2 s3 ht
   obtain⟨d,hd,eO⟩:=hT.fY ht
   obtain rfl:=aM eO
   split at h
   ·rename_i te ri
    have hs:=hT.size ri
    split at h
    ·rename_i k hh
     obtain⟨rfl,h⟩:=h
     refine⟨_,h,trivial,fun w=>?_⟩
     rw[dV hd]
     simp[Instr.slice,run_underlying hd,Instr.sliceBounds,Instr.sliceBound,asIntOf,AV.c,hs]
    ·exact h.elim
   ·exact h.elim
  ·exact h.elim
 ·rename_i s
  split at h
  ·rename_i s1 s2 s3 ht
   obtain⟨d,hd,eO⟩:=hT.fY ht
   obtain rfl:=kf eO
   split at h
   ·refine⟨_,h,trivial,fun w=>?_⟩
    rw[eX hd]
    simp[Instr.slice,run_underlying hd,Instr.sliceBounds,AV.c]
   ·rename_i k hh
    obtain⟨⟨h1,h2⟩,h⟩:=h
    refine⟨_,h,trivial,fun w=>?_⟩
    rw[eX hd]
    simp[Instr.slice,run_underlying hd,Instr.sliceBounds,Instr.sliceBound,asIntOf,AV.c,h1,h2]
   ·rename_i k l
    obtain⟨⟨h1,h2⟩,h⟩:=h
    refine⟨_,h,trivial,fun w=>?_⟩
    rw[eX hd]
    simp[Instr.slice,run_underlying hd,Instr.sliceBounds,Instr.sliceBound,asIntOf,AV.c,h1,h2]
   ·rename_i k l k' hh
    obtain⟨⟨h1,h2,h3⟩,h⟩:=h
    refine⟨_,h,trivial,fun w=>?_⟩
    have h0:0≤hh:=Int.le_trans h1 h2
    have h4:l≤(hh.toNat:Int):=by omega
    rw[eX hd]
    simp[Instr.slice,run_underlying hd,Instr.sliceBounds,Instr.sliceBound,asIntOf,AV.c,h0,h1,h3,h4]
    intro hc;exfalso;omega
   ·exact h.elim
  ·exact h.elim
 ·exact h.elim
theorem vG {P:Program}{T:List TI}(hT:aq P T){t:Nat}{x mx:AV}{lo hi:Option AV}{K:AV→Prop}{ρ:Env}(hx:x.ok ρ)
 (h:x8 T t x lo hi mx K):∃v,K v∧v.ok ρ∧KX P (Instr.sliceAt t (x.c ρ) (lo.map (AV.c ρ)) (hi.map (AV.c ρ)) (some (mx.c ρ))) (v.c ρ):=by
 unfold x8 at h
 split at h
 ·rename_i i g off n c
  split at h
  ·rename_i e s1 s2 s3 ht
   obtain⟨d,hd,eO⟩:=hT.fY ht
   obtain rfl:=aM eO
   obtain⟨a,ha,_⟩:=Gl (ρ:=ρ) (i:=i) (g:=g) (off:=off) (n:=n) (c:=c)
   split at h
   ·rename_i te ri
    have hs:=hT.size ri
    split at h
    ·rename_i k hh k' m
     obtain⟨⟨h1,h2,h3⟩,h⟩:=h
     refine⟨_,h,hx,fun w=>?_⟩
     have h0:0≤m:=Int.le_trans h1 h2
     have h4:hh≤max m 0:=by omega
     rw[dV hd,ha,zW ha]
     simp[Instr.slice,run_underlying hd,Instr.sliceBounds,Instr.sliceBound,asIntOf,AV.c,hs,h0,h1,h3,h4]
     rcases a with _|a<;>simp[Addr.add]
    ·rename_i k l k' hh k'' m
     obtain⟨⟨h1,h2,h3,h4⟩,h⟩:=h
     refine⟨_,h,hx,fun w=>?_⟩
     have h5:0≤hh:=Int.le_trans h1 h2
     have h6:0≤m:=Int.le_trans h5 h3
     have h7:hh≤max m 0:=by omega
     have h8:l≤max hh 0:=by omega
     rw[dV hd,ha,B4 ha]
     simp[Instr.slice,run_underlying hd,Instr.sliceBounds,Instr.sliceBound,asIntOf,AV.c,hs,h1,h4,h5,h6,h7,h8]
    ·exact h.elim
   ·exact h.elim
  ·exact h.elim
 ·exact h.elim
theorem dg {ρ:Env}{M:AH}{i g off n c:Nat}{own:Bool}{x:af}(hk:jR ρ M)(hs:slot M i g=some (own,x))(hv:¬x.bP):∃q,ρ i g=some (some q):=by
 rcases hk _ _ _ _ hs with⟨q,hq⟩|⟨_,h2⟩
 ·exact⟨q,hq⟩
 ·exact absurd h2 hv
theorem fy {P:Program}{t e:Nat}{a:Addr}{n c:Nat}{k:IntKind}{z:Int}{sz:Nat}(hd:P.underlying t=some (.slice e))(hs:∀w,(sizeOf e).run P w=.ok sz w)(h1:0≤z)(h2:z<n)(w:World):
 (Instr.indexAt t (.slice (some a) n c) (.int k z)).run P w=.ok (.pointer (some (a.add (z.toNat*sz)))) w:=by
 simp[Instr.indexAt,run_underlying hd,asIntOf,hs,h1,h2]
theorem sj {P:Program}{t e:Nat}{a:Addr}{n:Nat}{k:IntKind}{z:Int}{sz:Nat}(hd:P.underlying t=some (.array n e))(hs:∀w,(sizeOf e).run P w=.ok sz w)(h1:0≤z)(h2:z<n)(w:World):
 (Instr.indexAt t (.pointer (some a)) (.int k z)).run P w=.ok (.pointer (some (a.add (z.toNat*sz)))) w:=by
 simp[Instr.indexAt,run_underlying hd,asIntOf,hs,h1,h2,Instr.sureAddr]
theorem Cy {P:Program}{T:List TI}(hT:aq P T){t:Nat}{M:AH}{x ix:AV}{K:AV→Prop}{ρ:Env}(hk:jR ρ M)(hx:x.ok ρ)
 (h:QI T M t x ix K):∃v,K v∧v.ok ρ∧KX P (Instr.indexAt t (x.c ρ) (ix.c ρ)) (v.c ρ):=by
 unfold QI at h
 split at h
 ·rename_i k z
  split at h
  ·rename_i i g off n c
   split at h
   ·rename_i e s1 s2 s3 ht
    obtain⟨d,hd,eO⟩:=hT.fY ht
    obtain rfl:=aM eO
    split at h
    ·rename_i te ri
     have hs:=hT.size ri
     obtain⟨⟨h1,h2⟩,h⟩:=h
     replace h:=aV h
     obtain⟨own,x_,cV,h⟩:=h
     split at h
     ·rename_i cs
      obtain⟨q,hq⟩:=dg (off:=0) (n:=0) (c:=0) hk cV (by simp[af.bP])
      refine⟨_,h,by simp[AV.ok,hq],fun w=>?_⟩
      simp only[AV.c,hq]
      rw[fy hd hs h1 h2,cf,Nat.add_assoc]
     ·rename_i kk xs co
      obtain⟨h3,h4,h⟩:=ar h
      obtain⟨q,hq⟩:=dg (off:=0) (n:=0) (c:=0) hk cV (by simp only[af.bP];rintro⟨rfl,_⟩;simp at h4)
      refine⟨_,h,by simp[AV.ok,hq],fun w=>?_⟩
      have h5:te.size=1:=Nat.eq_of_beq_eq_true h3
      simp only[AV.c,hq]
      rw[fy hd hs h1 h2,cf,h5]
      congr 4;omega
     ·rename_i xs co
      obtain⟨h3,h4,h⟩:=ar h
      obtain⟨q,hq⟩:=dg (off:=0) (n:=0) (c:=0) hk cV (by simp only[af.bP];rintro⟨rfl,_⟩;simp at h4)
      refine⟨_,h,by simp[AV.ok,hq],fun w=>?_⟩
      have h5:te.size=1:=Nat.eq_of_beq_eq_true h3
      simp only[AV.c,hq]
      rw[fy hd hs h1 h2,cf,h5]
      congr 4;omega
     ·rename_i sz m get co
      split at h
      ·obtain⟨h3,h4,h⟩:=ar h
       obtain⟨q,hq⟩:=dg (off:=0) (n:=0) (c:=0) hk cV (by simp only[af.bP];rintro⟨rfl,_⟩;simp at h4)
       refine⟨_,h,by simp[AV.ok,hq],fun w=>?_⟩
       have h5:te.size=sz:=Nat.eq_of_beq_eq_true h3
       simp only[AV.c,hq]
       rw[fy hd hs h1 h2,cf,h5]
       rfl
      ·exact h.elim
     ·exact h.elim
    ·exact h.elim
   ·exact h.elim
  ·rename_i i g off
   split at h
   ·rename_i n e s1 s2 s3 ht
    obtain⟨d,hd,eO⟩:=hT.fY ht
    obtain rfl:=kg eO
    split at h
    ·rename_i te ri
     have hs:=hT.size ri
     obtain⟨⟨h1,h2⟩,h⟩:=h
     replace h:=aV h
     obtain⟨own,x_,cV,h⟩:=h
     split at h
     ·rename_i cs
      obtain⟨q,hq⟩:=dg (off:=0) (n:=0) (c:=0) hk cV (by simp[af.bP])
      refine⟨_,h,by simp[AV.ok,hq],fun w=>?_⟩
      simp only[AV.c,hq]
      rw[sj hd hs h1 h2,cf,Nat.add_assoc]
     ·exact h.elim
    ·exact h.elim
   ·exact h.elim
  ·exact h.elim
 ·exact h.elim
def VQ (ρ:Env)(e:Operand→AV)(v:Operand→Value):Prop:=∀x,v x=(e x).c ρ∧(e x).ok ρ
theorem cj {P:Program}{s:Sem Value}{v:Value}(h:KX P s v)(w:World):(do pure (.value (←s)):Sem Next).run P w=.ok (.value v) w:=by
 simp[h w]
def SA (f:Field):Sem (Nat×Nat):=do pure (f.offset,←sizeOf f.type)
theorem E6 {P:Program}{T:List TI}(hT:aq P T)(w:World):∀(l:List Field)(pl:List (Nat×Nat)),p9 T (l.map fun f=>(f.offset,f.type))=some pl→(l.mapM SA).run P w=.ok pl w
 |[],pl,h=>by simp[p9]at h;subst h;simp
 |x::l,pl,h=>by
  simp only[List.map_cons,p9]at h
  split at h
  ·rename_i ti r h1 h2
   injection h with h;subst h
   rw[List.mapM_cons]
   have h3:(SA x).run P w=.ok (x.offset,ti.size) w:=by simp[SA,hT.size h1]
   simp only[Sem.run_bind,h3,Result.andThen_ok,E6 hT w l r h2]
   rfl
  ·cases h
theorem po {P:Program}{T:List TI}(hT:aq P T){la lb:List AV}:∀(fs:List Field)(K:Bool→Prop),NS T la lb (fs.map fun f=>(f.offset,f.type)) K→(fs.all fun f=>simpleT P f.type)=true
 |[],_,_=>rfl
 |f::fs,K,h=>by
  simp only[List.map_cons,NS]at h
  split at h
  ·rename_i k s1 s2 s3 k1 a k2 b h1 h2 h3
   replace h:=aZ h
   obtain⟨rfl,h⟩:=h
   replace h:=aZ h
   obtain⟨rfl,h⟩:=h
   obtain⟨d0,hd,hk⟩:=hT.fY h1
   obtain rfl:=dQ hk
   rw[List.all_cons,po hT fs _ h,Bool.and_true];simp[simpleT,hd]
  ·rename_i s1 s2 s3 x y h1 h2 h3
   split at h
   ·obtain⟨d0,hd,hk⟩:=hT.fY h1
    obtain rfl:=qC hk
    rw[List.all_cons,po hT fs _ h,Bool.and_true];simp[simpleT,hd]
   ·exact h.elim
  ·exact h.elim
theorem n5 {P:Program}{T:List TI}(hT:aq P T){la lb:List AV}{ρ:Env}(Sh:AV.dK ρ la)(Fx:AV.dK ρ lb):∀(fs:List Field)(K:Bool→Prop),NS T la lb (fs.map fun f=>(f.offset,f.type)) K→
 (fs.all fun f=>f.name !="_")=true→∃r,K r∧∀d w,(Op.eqFields (d+1) (AV.cl ρ la).toArray (AV.cl ρ lb).toArray fs).run P w=.ok r w
 |[],K,h,_=>⟨true,h,fun d w=>by simp[Op.eqFields]⟩
 |f::fs,K,h,hn=>by
  simp only[List.all_cons,Bool.and_eq_true,bne_iff_ne,ne_eq]at hn
  simp only[List.map_cons,NS]at h
  split at h
  ·rename_i k s1 s2 s3 k1 a k2 b h1 h2 h3
   replace h:=aZ h
   obtain⟨rfl,h⟩:=h
   replace h:=aZ h
   obtain⟨rfl,h⟩:=h
   obtain⟨r,hr,aS⟩:=n5 hT Sh Fx fs _ h hn.2
   obtain⟨d0,hd,hk⟩:=hT.fY h1
   obtain rfl:=dQ hk
   obtain⟨v1,e1,_,p1⟩:=du hT h1 (l:=la) (off:=f.offset) (K:=fun v=>v=.int k a) Sh (by unfold oz;simp only[TK.isAgg];rw[h2])
   obtain⟨v2,e2,_,p2⟩:=du hT h1 (l:=lb) (off:=f.offset) (K:=fun v=>v=.int k b) Fx (by unfold oz;simp only[TK.isAgg];rw[h3])
   subst e1;subst e2
   refine⟨_,hr,fun d w=>?_⟩
   simp only[Op.eqFields,if_pos hn.1,Sem.run_bind,p1 w,p2 w,Result.andThen_ok,AV.c,run_equalIn_int w d f.type k k a b hd]
   by_cases KU:a=b
   ·subst KU;simp[aS d w]
   ·simp[KU]
  ·rename_i s1 s2 s3 x y h1 h2 h3
   split at h
   ·rename_i p q hp hq
    obtain⟨r,hr,aS⟩:=n5 hT Sh Fx fs _ h hn.2
    obtain⟨d0,hd,hk⟩:=hT.fY h1
    obtain rfl:=qC hk
    obtain⟨v1,e1,_,p1⟩:=du hT h1 (l:=la) (off:=f.offset) (K:=fun v=>v=x) Sh (by unfold oz;simp only[TK.isAgg];rw[h2])
    obtain⟨v2,e2,_,p2⟩:=du hT h1 (l:=lb) (off:=f.offset) (K:=fun v=>v=y) Fx (by unfold oz;simp only[TK.isAgg];rw[h3])
    subst e1;subst e2
    refine⟨_,hr,fun d w=>?_⟩
    simp only[Op.eqFields,if_pos hn.1,Sem.run_bind,p1 w,p2 w,Result.andThen_ok,AV.vl ρ hp,AV.vl ρ hq,run_equalIn_bool' w d f.type p q hd]
    by_cases KU:p=q
    ·subst KU;simp[aS d w]
    ·have:(p==q)=false:=by simpa using KU
     simp[this]
   ·exact h.elim
  ·exact h.elim
theorem uU {P:Program}{T:List TI}(hT:aq P T){neg:Bool}{t:Nat}{la lb:List AV}{K:AV→Prop}{ρ:Env}(Sh:AV.ok ρ (.agg la))(Fx:AV.ok ρ (.agg lb))(h:NR T neg t la lb K):
 ∃v,K v∧v.ok ρ∧∀ox oy,KX P (do eqGuard (if neg then .neq else .eql) t ox oy ((AV.agg la).c ρ) ((AV.agg lb).c ρ);binOp (if neg then .neq else .eql) t ((AV.agg la).c ρ) ((AV.agg lb).c ρ)) (v.c ρ):=by
 unfold NR at h
 split at h
 ·rename_i fs _ _ _ ht
  obtain⟨d,hd,hk,aA⟩:=hT.Uw ht
  obtain⟨f,rfl,HP⟩:=gv hk
  subst HP
  have hall:(f.toList.all fun f=>simpleT P f.type)=true∧P.stoodInHeld t=false∧P.eqGuardType P.depth t=false∧(f.toList.all fun f=>f.name !="_")=true:=by
   have Nj:(f.toList.all fun f=>simpleT P f.type)=true:=po hT f.toList _ h
   refine⟨Nj,?_⟩
   unfold Bb at aA
   simp only[Nj,Bool.not_true,Bool.false_or,Bool.and_eq_true,Bool.not_eq_true']at aA
   exact⟨aA.1.1,aA.1.2,aA.2⟩
  obtain⟨_,h1,h2,h3⟩:=hall
  obtain⟨r,hr,aS⟩:=n5 hT Sh Fx f.toList _ h h3
  refine⟨_,hr,trivial,fun ox oy w=>?_⟩
  have xp:P.fieldsOf t=f:=by unfold Program.fieldsOf;rw[hd]
  have dI:P.underlying t=some (.struct (P.fieldsOf t)):=by rw[xp];exact hd
  have he:=run_equalIn_struct (P:=P) w 9999 t (AV.cl ρ la).toArray (AV.cl ρ lb).toArray dI h1
  rw[xp,aS 9998 w]at he
  cases neg
  ·simp only[Bool.false_eq_true,if_false,AV.c]
   rw[Sem.run_bind,run_eqGuard_agg w .eql t ox oy _ _ h2]
   simp only[Result.andThen_ok,run_eql_struct,he]
  ·simp only[if_true,AV.c]
   rw[Sem.run_bind,run_eqGuard_agg w .neq t ox oy _ _ h2]
   simp only[Result.andThen_ok,run_neq_struct,he]
 ·exact h.elim
set_option maxHeartbeats 1000000 in
theorem pI {P:Program}{T:List TI}(hT:aq P T){ρ:Env}{t:Nat}{ti:TI}(h1:T[t]?=some ti){i:TypeInfo}{z:Value}(g2:P.info? t=some i)(g3:i.zero=some z){K:AV→Prop}(h:xO ti K):
 ∃zv,K (.aL [zv,.ff])∧zv.ok ρ∧zv.c ρ=z:=by
 have HL:=hT.shape h1 g2 g3
 unfold xO at h
 split at h
 ·rename_i Wh
  obtain⟨cs,rfl⟩:=HL.2 Wh
  obtain⟨d,i',z',e1,e2,e3,e4⟩:=hT.get h1
  rw[g2]at e2;injection e2 with e2;subst e2
  rw[g3]at e3;injection e3 with e3;subst e3
  refine⟨_,h,?_,?_⟩
  ·rw[e4]
   simp only[AV.ok,AV.aK]
   intro x hx;obtain⟨y,_,rfl⟩:=List.mem_map.1 hx;exact ua ρ y
  ·rw[e4]
   simp[AV.c,AV.aY,qe,Function.comp_def,Value.cells]
 ·exact⟨.raw z,h z,by simp[AV.ok],by simp[AV.c]⟩
theorem fh {P:Program}{T:List TI}(hT:aq P T){wr:Bool}{M:AH}{e:Operand→AV}{o:Oper}{K:AV→Prop}{ρ:Env}{v:Operand→Value}(hk:jR ρ M)(he:VQ ρ e v)
 (h:iR T wr M e o.op K):∃r,K r∧r.ok ρ∧∀w,(execOp v o).run P w=.ok (.value (r.c ρ)) w:=by
 obtain⟨dst,op,ty,pos,after,guard⟩:=o
 simp only at h
 unfold iR at h
 split at h
 ·rename_i x
  exact⟨_,eD h,(he x).2,fun w=>by simp[execOp,(he x).1]⟩
 ·rename_i x
  exact⟨_,eD h,(he x).2,fun w=>by simp[execOp,(he x).1]⟩
 ·rename_i c a b
  have hc:=(he c).1
  split at h<;>rename_i hh<;>(try rw[hh]at hc)
  ·exact⟨_,eD h,(he a).2,fun w=>by simp[execOp,hc,AV.c,asBool,(he a).1]⟩
  ·exact⟨_,eD h,(he b).2,fun w=>by simp[execOp,hc,AV.c,asBool,(he b).1]⟩
  ·rename_i x
   cases x
   ·exact⟨_,eD (h.2 rfl),(he b).2,fun w=>by simp[execOp,hc,AV.c,asBool,(he b).1]⟩
   ·exact⟨_,eD (h.1 rfl),(he a).2,fun w=>by simp[execOp,hc,AV.c,asBool,(he a).1]⟩
  ·exact h.elim
 ·rename_i x
  have hx:=(he x).1
  split at h
  ·rename_i f a b hh
   rw[hh]at hx
   exact⟨_,h,by rw[←hh];exact(he x).2,fun w=>by simp[execOp,hx,AV.c]⟩
  ·obtain⟨h1,h2,a,_,ha⟩:=jL hk h
   rw[ha]at hx
   exact⟨_,h1,h2,fun w=>by simp[execOp,hx,ha]⟩
 ·rename_i op t x y yt
  have hx:=(he x).1
  have hy:=(he y).1
  split at h
  ·split at h
   ·rename_i k a k' b h1 h2
    rw[h1]at hx;rw[h2]at hy
    obtain⟨r,h3,h4,h5⟩:=jj h ρ
    exact⟨r,h3,h4,fun w=>cj (by rw[hx,hy];exact fun w=>h5 P w t x y) w⟩
   ·rename_i a b h1 h2
    rw[h1]at hx;rw[h2]at hy
    obtain⟨r,h3,h4,h5⟩:=jj h ρ
    exact⟨r,h3,h4,fun w=>cj (by rw[hx,hy];exact fun w=>h5 P w t x y) w⟩
   ·rename_i la lb h1 h2
    have yM:=(he x).2
    have Tz:=(he y).2
    rw[h1]at hx yM;rw[h2]at hy Tz
    obtain⟨r,h3,h4,h5⟩:=uU hT yM Tz h
    exact⟨r,h3,h4,fun w=>cj (by rw[hx,hy];exact h5 x y) w⟩
   ·split at h
    ·rename_i ti ht
     obtain⟨r,h3,h4,h5⟩:=xB hT ht hk h
     exact⟨r,h3,h4,fun w=>cj (by rw[hx,hy];exact h5 x y) w⟩
    ·exact h.elim
  ·split at h
   ·rename_i k a k' b h1 h2
    rw[h1]at hx;rw[h2]at hy
    obtain⟨r,h3,h4,h5⟩:=jj h ρ
    exact⟨r,h3,h4,fun w=>cj (by rw[hx,hy];exact fun w=>h5 P w t x y) w⟩
   ·rename_i a b h1 h2
    rw[h1]at hx;rw[h2]at hy
    obtain⟨r,h3,h4,h5⟩:=jj h ρ
    exact⟨r,h3,h4,fun w=>cj (by rw[hx,hy];exact fun w=>h5 P w t x y) w⟩
   ·rename_i la lb h1 h2
    have yM:=(he x).2
    have Tz:=(he y).2
    rw[h1]at hx yM;rw[h2]at hy Tz
    obtain⟨r,h3,h4,h5⟩:=uU hT yM Tz h
    exact⟨r,h3,h4,fun w=>cj (by rw[hx,hy];exact h5 x y) w⟩
   ·split at h
    ·rename_i ti ht
     obtain⟨r,h3,h4,h5⟩:=xB hT ht hk h
     exact⟨r,h3,h4,fun w=>cj (by rw[hx,hy];exact h5 x y) w⟩
    ·exact h.elim
  ·obtain⟨r,h3,h4,h5⟩:=jj h ρ
   exact⟨r,h3,h4,fun w=>cj (by rw[hx,hy];exact fun w=>h5 P w t x y) w⟩
 ·rename_i op t x
  have hx:=(he x).1
  split at h<;>rename_i hh<;>(try rw[hh]at hx)
  ·exact⟨_,h,trivial,fun w=>by simp[execOp,hx,AV.c,Op.unary]⟩
  ·exact⟨_,h,trivial,fun w=>by simp[execOp,hx,AV.c,Op.unary]⟩
  ·exact⟨_,h,trivial,fun w=>by simp[execOp,hx,AV.c,Op.unary]⟩
  ·exact⟨_,fp h,trivial,fun w=>by simp[execOp,hx,AV.c,Op.unary,Op.intArith]⟩
  ·exact⟨_,h,trivial,fun w=>by simp[execOp,hx,AV.c,Op.unary,Op.intBits,cm]⟩
  ·exact h.elim
 ·rename_i src dst x
  have hx:=(he x).1
  split at h
  ·rename_i k0 n ti k s1 s2 s3 h1 h2 h3
   rw[h1]at hx
   obtain⟨d1,sQ,_⟩:=hT.fY h2
   obtain⟨d2,CL,G9⟩:=hT.fY h3
   obtain rfl:=dQ G9
   exact⟨_,fp h,trivial,fun w=>by simp[execOp,hx,AV.c,convert,run_underlying sQ,run_underlying CL,Conv.intToInt]⟩
  ·exact h.elim
 ·rename_i t x
  split at h
  ·exact h.elim
  ·rename_i ti Q6 ht
   obtain⟨d,hd,eO⟩:=hT.fY ht
   refine⟨_,h,(he x).2,fun w=>?_⟩
   have:∀ms,d≠ .interface ms:=by
    rintro ms rfl
    obtain⟨k,s1,s2,s3⟩:=ti
    simp only[fw]at eO
    exact Q6 s1 s2 s3 (by rw[←eO])
   simp only[execOp,Instr.makeInterface,Sem.run_bind,run_underlying hd,Result.andThen_ok]
   cases d<;>first|(exact absurd rfl (this _))|(simp[(he x).1,AV.c])
  ·exact h.elim
 ·rename_i fn first cap
  refine⟨_,h,⟨?_,?_⟩,fun w=>?_⟩
  ·rw[AV.aK];intro z hz;obtain⟨y,_,rfl⟩:=List.mem_map.1 hz;exact(he y).2
  ·rw[AV.aK];intro z hz;obtain⟨y,_,rfl⟩:=List.mem_map.1 hz;exact(he y).2
  ·have e1:∀a:Array Operand,a.map v=(AV.cl ρ (a.toList.map e)).toArray:=fun a=>by
    apply Array.toList_inj.1
    simp only[AV.aY,Array.toList_map,List.map_map]
    exact List.map_congr_left fun z _=>(he z).1
   simp[execOp,Instr.makeFunc,AV.c,e1]
 ·rename_i x ix
  have hx:=(he x).1
  have yM:=(he x).2
  split at h
  ·rename_i l hh
   rw[hh]at hx yM
   split at h
   ·rename_i r hr
    simp only[AV.ok,AV.aK]at yM
    exact⟨_,h,yM _ (List.mem_of_getElem? hr),fun w=>by simp[execOp,hx,AV.c,Instr.extract,AV.aY,hr]⟩
   ·exact h.elim
  ·exact h.elim
 ·rename_i t x f
  have hx:=(he x).1
  have yM:=(he x).2
  split at h
  ·rename_i l fs s1 s2 s3 h1 h2
   rw[h1]at hx yM
   obtain⟨d,hd,eO⟩:=hT.fY h2
   obtain⟨fa,rfl,rfl⟩:=gv eO
   split at h
   ·rename_i off ft hf
    split at h
    ·rename_i ti Nx
     simp only[List.getElem?_map,Array.getElem?_toList,Option.map_eq_some_iff]at hf
     obtain⟨fd,OH,BQ⟩:=hf
     injection BQ with e1 e2
     subst e1;subst e2
     obtain⟨r,h3,h4,h5⟩:=du hT Nx (ρ:=ρ) yM h
     refine⟨r,h3,h4,fun w=>?_⟩
     simp[execOp,hx,AV.c,Instr.field,run_underlying hd,OH,asAgg,h5 w]
    ·exact h.elim
   ·exact h.elim
  ·exact h.elim
 ·rename_i t x f
  have hx:=(he x).1
  split at h
  ·rename_i fs s1 s2 s3 h2
   obtain⟨d,hd,eO⟩:=hT.fY h2
   obtain⟨fa,rfl,rfl⟩:=gv eO
   split at h
   ·rename_i off ft hf
    split at h
    ·rename_i ti Nx
     simp only[List.getElem?_map,Array.getElem?_toList,Option.map_eq_some_iff]at hf
     obtain⟨fd,OH,BQ⟩:=hf
     injection BQ with e1 e2
     subst e1;subst e2
     obtain⟨hz,h⟩:=ar h
     have V1:ti.size≠0:=by intro e;rw[e]at hz;simp at hz
     split at h
     ·rename_i i g o1 hh
      obtain⟨h3,h4,a,ha,hc⟩:=jL hk h
      have h5:(AV.ptr i g (o1+fd.offset)).c ρ=.pointer (some (a.add fd.offset)):=by
       simp only[AV.c]at hc⊢
       split at hc
       ·rename_i q hq
        injection hc with hc;injection hc with hc;subst hc
        simp[cf,Nat.add_assoc,hq]
       ·cases hc
      refine⟨_,h3,h4,fun w=>?_⟩
      rw[h5]
      simp[execOp,hx,hh,hc,Instr.fieldAt,run_underlying hd,OH,Instr.sureAddr,fieldPlace,hT.size Nx,V1]
     ·rename_i i g sz j o1 hh
      obtain⟨h3,h4,a,ha,hc⟩:=jL hk h
      have h5:(AV.mE i g sz j (o1+fd.offset)).c ρ=.pointer (some (a.add fd.offset)):=by
       simp only[AV.c]at hc⊢
       split at hc
       ·rename_i q hq
        injection hc with hc;injection hc with hc;subst hc
        simp[cf,Nat.add_assoc,hq]
       ·cases hc
      refine⟨_,h3,h4,fun w=>?_⟩
      rw[h5]
      simp[execOp,hx,hh,hc,Instr.fieldAt,run_underlying hd,OH,Instr.sureAddr,fieldPlace,hT.size Nx,V1]
     ·exact h.elim
    ·exact h.elim
   ·exact h.elim
  ·exact h.elim
 ·rename_i t x ix
  obtain⟨r,h3,h4,h5⟩:=Cy hT hk (he x).2 h
  exact⟨r,h3,h4,fun w=>cj (by rw[(he x).1,(he ix).1];exact h5) w⟩
 ·rename_i t x ix
  have hx:=(he x).1
  have Sl:=(he ix).1
  have yM:=(he x).2
  split at h
  ·rename_i l k z n el s1 s2 s3 h1 h2 h3
   rw[h1]at hx yM;rw[h2]at Sl
   obtain⟨d,hd,eO⟩:=hT.fY h3
   obtain rfl:=kg eO
   split at h
   ·rename_i ti Oz
    obtain⟨⟨a1,a2⟩,h⟩:=h
    obtain⟨r,b1,b2,b3⟩:=du hT Oz (ρ:=ρ) yM h
    refine⟨r,b1,b2,fun w=>?_⟩
    simp[execOp,hx,Sl,AV.c,Instr.index,run_underlying hd,asIntOf,a1,a2,hT.size Oz,b3 w]
   ·exact h.elim
  ·rename_i s k z s1 s2 s3 h1 h2 h3
   rw[h1]at hx;rw[h2]at Sl
   obtain⟨d,hd,eO⟩:=hT.fY h3
   obtain rfl:=kf eO
   obtain⟨⟨a1,a2⟩,h⟩:=h
   refine⟨_,h,trivial,fun w=>?_⟩
   have a9:z.toNat<s.size:=by omega
   have hs:s[z.toNat]?=some s[z.toNat]:=by simp[getElem?_pos,a9]
   have hg:s.data.toList.getD z.toNat 0=s[z.toNat]:=by
    rw[List.getD_eq_getElem?_getD,List.getElem?_eq_getElem (by simpa using a9)];rfl
   have JL:s.data[z.toNat]?.getD 0=s[z.toNat]:=by simpa using hg
   simp[execOp,hx,Sl,AV.c,Instr.index,run_underlying hd,asIntOf,a1,hs,JL]
  ·exact h.elim
 ·rename_i t x
  have hx:=(he x).1
  split at h
  ·rename_i i g off n c m el s1 s2 s3 h1 h2
   rw[h1]at hx
   obtain⟨d,hd,eO⟩:=hT.fY h2
   obtain rfl:=kg eO
   obtain⟨Xq,h⟩:=h
   obtain⟨h3,h4,a,ha,hc⟩:=jL (ρ:=ρ) hk h
   have h5:(AV.sl i g off n c).c ρ=.slice (some a) n c:=by
    simp only[AV.c]at hc⊢
    split at hc
    ·rename_i q hq
     injection hc with hc;injection hc with hc;subst hc
     simp[hq]
    ·cases hc
   refine⟨_,h3,h4,fun w=>?_⟩
   rw[h5]at hx
   simp[execOp,hx,Instr.arrayAt,run_underlying hd,hc,Nat.not_lt.2 Xq]
  ·exact h.elim
 ·rename_i t x lo hi
  obtain⟨r,h3,h4,h5⟩:=x7 hT (he x).2 h
  refine⟨r,h3,h4,fun w=>?_⟩
  have e1:∀o:Option Operand,o.map v=(o.map e).map (AV.c ρ):=fun o=>by cases o<;>simp[(he _).1]
  simp only[execOp,Option.map_none,e1,(he x).1]
  exact cj h5 w
 ·rename_i t x lo hi mx
  obtain⟨r,h3,h4,h5⟩:=vG hT (he x).2 h
  refine⟨r,h3,h4,fun w=>?_⟩
  have e1:∀o:Option Operand,o.map v=(o.map e).map (AV.c ρ):=fun o=>by cases o<;>simp[(he _).1]
  simp only[execOp,Option.map_some,e1,(he x).1,(he mx).1]
  exact cj h5 w
 ·rename_i x xt asserted ok
  have hx:=(he x).1
  have yM:=(he x).2
  split at h
  ·exact h.elim
  ·rename_i ti t1 v1 Q6 h1 h2
   rw[h2]at hx yM
   obtain⟨d,i,z,g1,g2,g3,Oz⟩:=hT.get h1
   have WL:∀w,(zeroValue asserted).run P w=.ok z w:=fun w=>by simp[zeroValue,typeInfo,g2,g3]
   have hd:∀ms,d≠ .interface ms:=by rintro ms rfl;rw[Oz]at Q6;exact Q6 _ _ _ rfl
   split at h
   ·rename_i hb
    have CN:t1=asserted:=Nat.eq_of_beq_eq_true hb
    refine⟨_,h,?_,fun w=>?_⟩
    ·cases ok
     ·exact yM
     ·simp only[AV.ok,AV.dK,and_true];exact yM
    ·cases ok<;>cases d<;>first|(exact absurd rfl (hd _))|simp[execOp,hx,AV.c,AV.cl,Instr.typeAssert,run_underlying g1,CN]
   ·rename_i hb
    have CN:t1≠asserted:=Nat.ne_of_beq_eq_false hb
    split at h
    ·obtain⟨zv,k1,k2,k3⟩:=pI (ρ:=ρ) hT h1 g2 g3 h
     refine⟨_,k1,by simp only[AV.ok,AV.dK,and_true];exact k2,fun w=>?_⟩
     cases d<;>first|(exact absurd rfl (hd _))|simp[execOp,hx,AV.c,AV.cl,Instr.typeAssert,run_underlying g1,CN,WL,k3]
    ·exact h.elim
  ·rename_i ti Q6 h1 h2
   rw[h2]at hx
   obtain⟨d,i,z,g1,g2,g3,Oz⟩:=hT.get h1
   have WL:∀w,(zeroValue asserted).run P w=.ok z w:=fun w=>by simp[zeroValue,typeInfo,g2,g3]
   have hd:∀ms,d≠ .interface ms:=by rintro ms rfl;rw[Oz]at Q6;exact Q6 _ _ _ rfl
   split at h
   ·obtain⟨zv,k1,k2,k3⟩:=pI (ρ:=ρ) hT h1 g2 g3 h
    refine⟨_,k1,by simp only[AV.ok,AV.dK,and_true];exact k2,fun w=>?_⟩
    cases d<;>first|(exact absurd rfl (hd _))|simp[execOp,hx,AV.c,AV.cl,Instr.typeAssert,run_underlying g1,WL,k3]
   ·exact h.elim
  ·exact h.elim
 ·rename_i args iJ
  split at h
  ·rename_i x t CO BK
   obtain rfl:args=#[x]:=by apply Array.toList_inj.1;simpa using CO
   obtain rfl:iJ=#[t]:=by apply Array.toList_inj.1;simpa using BK
   have hx:=(he x).1
   split at h
   ·rename_i el s1 s2 s3 h1 h2
    rw[h1]at hx
    obtain⟨d,hd,eO⟩:=hT.fY h2
    obtain rfl:=aM eO
    exact⟨_,h,trivial,fun w=>by simp[execOp,resolve,invoke,builtin,Builtin.len_,run_underlying hd,hx,AV.c,goInt]⟩
   ·rename_i i g off n c el s1 s2 s3 h1 h2
    rw[h1]at hx
    obtain⟨d,hd,eO⟩:=hT.fY h2
    obtain rfl:=aM eO
    obtain⟨a,ha,_⟩:=Gl (ρ:=ρ) (i:=i) (g:=g) (off:=off) (n:=n) (c:=c)
    rw[ha]at hx
    exact⟨_,h,trivial,fun w=>by simp[execOp,resolve,invoke,builtin,Builtin.len_,run_underlying hd,hx,AV.c,goInt]⟩
   ·rename_i s s1 s2 s3 h1 h2
    rw[h1]at hx
    obtain⟨d,hd,eO⟩:=hT.fY h2
    obtain rfl:=kf eO
    exact⟨_,h,trivial,fun w=>by simp[execOp,resolve,invoke,builtin,Builtin.len_,run_underlying hd,hx,AV.c,goInt]⟩
   ·rename_i h2
    obtain⟨d,hd,eO⟩:=hT.fY h2
    obtain rfl:=kg eO
    exact⟨_,h,trivial,fun w=>by simp[execOp,resolve,invoke,builtin,Builtin.len_,run_underlying hd,AV.c,goInt]⟩
   ·exact h.elim
  ·exact h.elim
 ·rename_i args iJ
  split at h
  ·rename_i x y CO
   obtain rfl:args=#[x,y]:=by apply Array.toList_inj.1;simpa using CO
   have hx:=(he x).1
   have hy:=(he y).1
   split at h
   ·rename_i k a k' b h1 h2
    rw[h1]at hx;rw[h2]at hy
    refine⟨_,h,trivial,fun w=>?_⟩
    have:(if b<a then b else a)=min a b:=by split<;>omega
    simp[execOp,resolve,invoke,builtin,Builtin.min_,Builtin.min2,hx,hy,AV.c,this]
   ·exact h.elim
  ·exact h.elim
 ·rename_i args iJ
  split at h
  ·rename_i x y CO
   obtain rfl:args=#[x,y]:=by apply Array.toList_inj.1;simpa using CO
   have hx:=(he x).1
   have hy:=(he y).1
   split at h
   ·rename_i k a k' b h1 h2
    rw[h1]at hx;rw[h2]at hy
    refine⟨_,h,trivial,fun w=>?_⟩
    have:(if a<b then b else a)=max a b:=by split<;>omega
    simp[execOp,resolve,invoke,builtin,Builtin.max_,Builtin.max2,hx,hy,AV.c,this]
   ·exact h.elim
  ·exact h.elim
 ·rename_i t parts
  have Jw:(parts.map fun(i,x)=>(i,v x)).toList=(parts.toList.map fun x=>(x.1,e x.2)).map fun x=>(x.1,x.2.c ρ):=by
   rw[Array.toList_map,List.map_map]
   exact List.map_congr_left fun z _=>by simp[(he z.2).1]
  have Y3:∀x∈parts.toList.map (fun x=>(x.1,e x.2)),x.2.ok ρ:=by
   intro x hx
   obtain⟨y,_,rfl⟩:=List.mem_map.1 hx
   exact(he y.2).2
  split at h
  ·rename_i fs s1 s2 z ht
   split at h
   ·rename_i pl bW
    split at h
    ·rename_i cs vw
     have yJ:=hT.nr ht ρ
     obtain⟨d,hd,eO⟩:=hT.fY ht
     obtain⟨f,rfl,rfl⟩:=gv eO
     obtain⟨zv,Tg,QK⟩:=hT.zero ht
     obtain⟨k1,k2⟩:=mZ (ρ:=ρ) vw yJ Y3 zv.cells (QK ρ)
     refine⟨_,h,k1,fun w=>?_⟩
     have yQ:(f.mapM SA).run P w=.ok pl.toArray w:=by
      rw[Array.mapM_eq_mapM_toList]
      simp[E6 hT w _ _ bW]
     have Xf:Instr.fill (pl.toArray[·]?) zv.cells (parts.map fun(i,x)=>(i,v x)).toList=some (AV.cl ρ cs).toArray:=by
      rw[Jw];simpa using k2
     have aS:(Instr.build t (parts.map fun(i,x)=>(i,v x))).run P w=.ok ((AV.agg cs).c ρ) w:=by
      unfold Instr.build
      simp only[Sem.run_bind,Tg w,Result.andThen_ok,run_underlying hd]
      rw[show(f.mapM fun f=>do pure (f.offset,←sizeOf f.type):Sem (Array (Nat×Nat)))=f.mapM SA from rfl,yQ]
      simp only[Result.andThen_ok,Xf]
      rfl
     simp only[execOp,Sem.run_bind,aS,Result.andThen_ok]
     rfl
    ·exact h.elim
   ·exact h.elim
  ·rename_i n el s1 s2 z ht
   split at h
   ·rename_i te ri
    split at h
    ·rename_i cs vw
     have yJ:=hT.nr ht ρ
     obtain⟨d,hd,eO⟩:=hT.fY ht
     obtain rfl:=kg eO
     obtain⟨zv,Tg,QK⟩:=hT.zero ht
     obtain⟨k1,k2⟩:=mZ (ρ:=ρ) vw yJ Y3 zv.cells (QK ρ)
     refine⟨_,h,k1,fun w=>?_⟩
     have Xf:Instr.fill (fun i=>some (i*te.size,te.size)) zv.cells (parts.map fun(i,x)=>(i,v x)).toList=some (AV.cl ρ cs).toArray:=by
      rw[Jw];exact k2
     have aS:(Instr.build t (parts.map fun(i,x)=>(i,v x))).run P w=.ok ((AV.agg cs).c ρ) w:=by
      unfold Instr.build
      simp only[Sem.run_bind,Tg w,Result.andThen_ok,run_underlying hd,hT.size ri w,Xf]
      rfl
     simp only[execOp,Sem.run_bind,aS,Result.andThen_ok]
     rfl
    ·exact h.elim
   ·exact h.elim
  ·exact h.elim
 ·rename_i args iJ
  split at h
  ·rename_i x t CO BK
   obtain rfl:args=#[x]:=by apply Array.toList_inj.1;simpa using CO
   obtain rfl:iJ=#[t]:=by apply Array.toList_inj.1;simpa using BK
   have hx:=(he x).1
   split at h
   ·rename_i s1 s2 s3 s4 h1 h2
    rw[h1]at hx
    obtain⟨d,hd,eO⟩:=hT.fY h2
    obtain rfl:=aM eO
    exact⟨_,h,trivial,fun w=>by simp[execOp,resolve,invoke,builtin,Builtin.cap_,run_underlying hd,hx,AV.c,goInt]⟩
   ·rename_i i g off n c s1 s2 s3 s4 h1 h2
    rw[h1]at hx
    obtain⟨d,hd,eO⟩:=hT.fY h2
    obtain rfl:=aM eO
    obtain⟨a,ha,_⟩:=Gl (ρ:=ρ) (i:=i) (g:=g) (off:=off) (n:=n) (c:=c)
    rw[ha]at hx
    exact⟨_,h,trivial,fun w=>by simp[execOp,resolve,invoke,builtin,Builtin.cap_,run_underlying hd,hx,AV.c,goInt]⟩
   ·exact h.elim
  ·exact h.elim
 ·exact h.elim
end Go.Proofs.Ytibadaomjlkoaaa
open Go.RowKit
namespace Go.Proofs.Ytibadaomjlkoaaa
theorem fc {w:World}{b:Nat}{o:Obj}(h:w.heap[b]?=some o):b<w.heap.size:=(Array.getElem?_eq_some_iff.1 h).1
theorem bO.lt {ρ:Env}{own:Bool}{x:af}{b base:Nat}{w:World}(h:bO ρ own x b base w):b<w.heap.size:=by
 rcases h.all with⟨_,c,e,fr,h1,_⟩|⟨_,_,h1⟩
 ·exact fc h1
 ·cases x with
  |map kk es=>obtain⟨_,_,h1,_⟩:=h1;exact fc h1
  |loop l st pd fn n a ps as bd df=>obtain⟨_,_,h1,_⟩:=h1;exact fc h1
  |cells _=>exact h1.elim
  |ints _ _ _=>exact h1.elim
  |bV _ _=>exact h1.elim
  |cJ _ _ _ _=>exact h1.elim
theorem kZ {ρ ρ':Env}{M M':AH}{w w':World}{i g:Nat}{x':af}(h:aU ρ M w)
 (hlen:M.length≤M'.length)(cq:∀i',i'≠i→M'[i']?=M[i']?)(me:M'[i]?=some (.one true g x'))
 (R6:∀i' g' l,ρ i' g'=some l→ρ' i' g'=some l)(Nb:∀i' g',(ρ' i' g').isSome=true→(ρ i' g').isSome=true∨(i'=i∧g'=g))
 (WY:∀g',(ρ i g').isSome=true→g'≤g)
 (hw:∀b,b<w.heap.size→(∀g0 x0 q0,slot M i g0=some (true,x0)→ρ i g0=some (some q0)→q0.1≠b)→w'.heap[b]?=w.heap[b]?)
 (eJ:w.heap.size≤w'.heap.size)(CG:w'.os=w.os)(ja:w'.tape=w.tape)(pf:w'.output=w.output)
 (uI:(∃q,ρ' i g=some (some q)∧bO ρ' true x' q.1 q.2 w'∧(w.heap.size≤q.1∨∃g0 x0 q0,slot M i g0=some (true,x0)∧ρ i g0=some (some q0)∧q0.1=q.1))∨(ρ' i g=some none∧x'.bP)):
 aU ρ' M' w'∧Ext ρ M w ρ' M' w':=by
 have gJ:∀g' own x,slot M' i g'=some (own,x)→g'=g∧own=true∧x=x':=by
  intro g' own x hs
  unfold slot at hs
  rw[me]at hs
  simp only[bc]at hs
  split at hs
  ·injection hs with hs;injection hs with a b;exact⟨‹_›,a.symm,b.symm⟩
  ·cases hs
 have om:∀i' g',i'≠i→slot M' i' g'=slot M i' g':=by
  intro i' g' eU
  unfold slot
  rw[cq i' eU]
 have a9:i<M'.length:=(List.getElem?_eq_some_iff.1 me).1
 have hold:∀i' g' own x q,slot M i' g'=some (own,x)→ρ i' g'=some (some q)→bO ρ own x q.1 q.2 w:=by
  intro i' g' own x q hs hq
  rcases h.holds i' g' own x hs with⟨q',e1,e2⟩|⟨e1,_⟩
  ·rw[hq]at e1;injection e1 with e1;injection e1 with e1;subst e1;exact e2
  ·rw[hq]at e1;cases e1
 have JH:∀i' g' own x q,i'≠i→slot M i' g'=some (own,x)→ρ i' g'=some (some q)→w'.heap[q.1]?=w.heap[q.1]?:=by
  intro i' g' own x q eU hs hq
  refine hw _ (hold i' g' own x q hs hq).lt fun g0 x0 q0 a1 a2 e=>eU ?_
  exact(h.apart i g0 x0 i' g' own x q0 q a1 hs a2 hq e).1.symm
 have FB:∀i' g',i'≠i→∀l,ρ' i' g'=some l→(∃own x,slot M i' g'=some (own,x))→ρ i' g'=some l:=by
  intro i' g' eU l hl ⟨own,x,hs⟩
  rcases h.holds i' g' own x hs with⟨q',e1,_⟩|⟨e1,_⟩
  ·rw[R6 _ _ _ e1]at hl;rw[e1];exact hl
  ·rw[R6 _ _ _ e1]at hl;rw[e1];exact hl
 constructor
 ·refine⟨?_,?_,?_,?_,?_⟩
  ·intro i' g' hi
   rcases Nb i' g' hi with h1|⟨rfl,_⟩
   ·exact Nat.lt_of_lt_of_le (h.n8 i' g' h1) hlen
   ·exact a9
  ·intro i' g' own g1 x hm hi
   by_cases eU:i'=i
   ·subst eU
    rw[me]at hm;injection hm with hm;injection hm with _ e _
    subst e
    rcases Nb i' g' hi with h1|⟨_,rfl⟩
    ·exact WY _ h1
    ·exact Nat.le_refl _
   ·rw[cq i' eU]at hm
    rcases Nb i' g' hi with h1|⟨rfl,_⟩
    ·exact h.tag i' g' own g1 x hm h1
    ·exact absurd rfl eU
  ·intro i' g' own m x hm hi
   by_cases eU:i'=i
   ·subst eU;rw[me]at hm;cases hm
   ·rw[cq i' eU]at hm
    rcases Nb i' g' hi with h1|⟨rfl,_⟩
    ·exact h.bG i' g' own m x hm h1
    ·exact absurd rfl eU
  ·intro i' g' own x hs
   by_cases eU:i'=i
   ·subst eU
    obtain⟨rfl,rfl,rfl⟩:=gJ g' own x hs
    rcases uI with⟨q,h1,h2,_⟩|hv
    ·exact .inl ⟨q,h1,h2⟩
    ·exact .inr hv
   ·rw[om i' g' eU]at hs
    rcases h.holds i' g' own x hs with⟨q,h1,h2⟩|⟨h1,h2⟩
    ·exact .inl ⟨q,R6 _ _ _ h1,h2.ext R6 (JH i' g' own x q eU hs h1)⟩
    ·exact .inr ⟨R6 _ _ _ h1,h2⟩
  ·intro i1 g1 x1 i2 g2 oe x2 q1 q2 CC yL AX cI he
   by_cases h1:i1=i
   ·by_cases h2:i2=i
    ·subst h1;subst h2
     exact⟨rfl,(gJ g1 _ _ CC).1.trans (gJ g2 _ _ yL).1.symm⟩
    ·exfalso
     subst h1
     obtain⟨rfl,_,rfl⟩:=gJ g1 _ _ CC
     rw[om i2 g2 h2]at yL
     have Nn:=FB i2 g2 h2 _ cI ⟨_,_,yL⟩
     have oI:=(hold i2 g2 oe x2 q2 yL Nn).lt
     rcases uI with⟨q,e1,_,e3|⟨g0,x0,q0,a1,a2,a3⟩⟩|⟨e1,_⟩
     ·rw[AX]at e1;injection e1 with e1;injection e1 with e1;subst e1;omega
     ·rw[AX]at e1;injection e1 with e1;injection e1 with e1;subst e1
      exact h2 (h.apart i1 g0 x0 i2 g2 oe x2 q0 q2 a1 yL a2 Nn (a3.trans he)).1.symm
     ·rw[AX]at e1;cases e1
   ·rw[om i1 g1 h1]at CC
    have QY:=FB i1 g1 h1 _ AX ⟨_,_,CC⟩
    by_cases h2:i2=i
    ·exfalso
     subst h2
     obtain⟨rfl,_,rfl⟩:=gJ g2 _ _ yL
     have JF:=(hold i1 g1 true x1 q1 CC QY).lt
     rcases uI with⟨q,e1,_,e3|⟨g0,x0,q0,a1,a2,a3⟩⟩|⟨e1,_⟩
     ·rw[cI]at e1;injection e1 with e1;injection e1 with e1;subst e1;omega
     ·rw[cI]at e1;injection e1 with e1;injection e1 with e1;subst e1
      exact h1 (h.apart i1 g1 x1 i2 g0 true x0 q1 q0 CC a1 QY a2 (he.trans a3.symm)).1
     ·rw[cI]at e1;cases e1
    ·rw[om i2 g2 h2]at yL
     have Nn:=FB i2 g2 h2 _ cI ⟨_,_,yL⟩
     exact h.apart i1 g1 x1 i2 g2 oe x2 q1 q2 CC yL QY Nn he
 ·refine⟨R6,eJ,fun b hb hn=>hw b hb fun g0 x0 q0 a1 a2=>hn i g0 x0 q0 a1 a2,?_,CG,ja,pf⟩
  intro i' g' x q hs hq hb
  by_cases eU:i'=i
  ·subst eU
   obtain⟨rfl,_,rfl⟩:=gJ g' _ _ hs
   rcases uI with⟨q',e1,_,e3|⟨g0,x0,q0,a1,a2,a3⟩⟩|⟨e1,_⟩
   ·rw[hq]at e1;injection e1 with e1;injection e1 with e1;subst e1;omega
   ·rw[hq]at e1;injection e1 with e1;injection e1 with e1;subst e1
    exact⟨i',g0,x0,q0,a1,a2,a3⟩
   ·rw[hq]at e1;cases e1
  ·rw[om i' g' eU]at hs
   exact⟨i',g',x,q,hs,FB i' g' eU _ hq ⟨_,_,hs⟩,rfl⟩
def j8 (ρ:Env)(i g:Nat)(l:Option (Nat×Nat)):Env:=fun i' g'=>if i'=i∧g'=g then some l else ρ i' g'
theorem au (ρ:Env)(i g:Nat)(l:Option (Nat×Nat)):j8 ρ i g l i g=some l:=by simp[j8]
theorem dx {ρ:Env}{i g:Nat}{l:Option (Nat×Nat)}(h:(ρ i g).isSome=false):∀i' g' l',ρ i' g'=some l'→j8 ρ i g l i' g'=some l':=by
 intro i' g' l' e
 unfold j8
 split
 ·rename_i hh;obtain⟨rfl,rfl⟩:=hh;rw[e]at h;simp at h
 ·exact e
theorem dM {ρ:Env}{i g:Nat}{l:Option (Nat×Nat)}:∀i' g',(j8 ρ i g l i' g').isSome=true→(ρ i' g').isSome=true∨(i'=i∧g'=g):=by
 intro i' g' e
 unfold j8 at e
 split at e
 ·exact .inr ‹_›
 ·exact .inl e
theorem gh {ρ:Env}{M:AH}{w w':World}{x:af}{l:Option (Nat×Nat)}(h:aU ρ M w)
 (hw:∀b,b<w.heap.size→w'.heap[b]?=w.heap[b]?)(eJ:w.heap.size≤w'.heap.size)(CG:w'.os=w.os)(ja:w'.tape=w.tape)(pf:w'.output=w.output)
 (hl:(∃b base,l=some (b,base)∧w.heap.size≤b∧bO (j8 ρ M.length 0 l) true x b base w')∨(l=none∧x.bP)):
 aU (j8 ρ M.length 0 l) (M++[.one true 0 x]) w'∧Ext ρ M w (j8 ρ M.length 0 l) (M++[.one true 0 x]) w':=by
 have jM:∀g,(ρ M.length g).isSome=false:=fun g=>by
  cases hh:(ρ M.length g).isSome with
  |false=>rfl
  |true=>exact absurd (h.n8 _ _ hh) (Nat.lt_irrefl _)
 refine kZ (i:=M.length) (g:=0) (x':=x) h (by simp) ?_ (by simp) (dx (jM 0)) dM (fun g' hg=>by rw[jM g']at hg;cases hg) (fun b hb _=>hw b hb) eJ CG ja pf ?_
 ·intro i' eU
  rcases Nat.lt_or_ge i' M.length with a9|JK
  ·exact List.getElem?_append_left a9
  ·rw[List.getElem?_eq_none (by simp;omega),List.getElem?_eq_none JK]
 ·rcases hl with⟨b,base,rfl,h1,h2⟩|⟨rfl,hv⟩
  ·exact .inl ⟨(b,base),au _ _ _ _,h2,.inl h1⟩
  ·exact .inr ⟨au _ _ _ _,hv⟩
theorem ak {M:AH}{i g:Nat}{own:Bool}{x:af}(h:M[i]?=some (.one own g x)):slot M i g=some (own,x):=by
 simp[slot,h,bc]
theorem x9 {ρ:Env}{M:AH}{w w':World}{i g:Nat}{x x':af}{q:Nat×Nat}(h:aU ρ M w)(hm:M[i]?=some (.one true g x))(hq:ρ i g=some (some q))
 (hw:∀b,b≠q.1→w'.heap[b]?=w.heap[b]?)(eJ:w'.heap.size=w.heap.size)(CG:w'.os=w.os)(ja:w'.tape=w.tape)(pf:w'.output=w.output)
 (hh:bO ρ true x' q.1 q.2 w'):aU ρ (M.set i (.one true g x')) w'∧Ext ρ M w ρ (M.set i (.one true g x')) w':=by
 have a9:i<M.length:=(List.getElem?_eq_some_iff.1 hm).1
 refine kZ (i:=i) (g:=g) (x':=x') h (by simp) (fun i' eU=>by rw[List.getElem?_set_ne (Ne.symm eU)]) (by simp[a9]) (fun _ _ _ e=>e) (fun _ _ e=>.inl e) (fun g' hg=>h.tag i g' true g x hm hg)
  (fun b hb hn=>hw b fun e=>hn g x q (ak hm) hq e.symm) (by omega) CG ja pf (.inl ⟨q,hq,hh,.inr ⟨g,x,q,ak hm,hq,rfl⟩⟩)
theorem qG {ρ:Env}{M:AH}{w w':World}{i g:Nat}{x x':af}{l:Option (Nat×Nat)}(h:aU ρ M w)(hm:M[i]?=some (.one true g x))
 (hw:∀b,b<w.heap.size→(∀q,ρ i g=some (some q)→q.1≠b)→w'.heap[b]?=w.heap[b]?)(eJ:w.heap.size≤w'.heap.size)(CG:w'.os=w.os)(ja:w'.tape=w.tape)(pf:w'.output=w.output)
 (hl:(∃b base,l=some (b,base)∧(w.heap.size≤b∨∃q,ρ i g=some (some q)∧q.1=b)∧bO (j8 ρ i (g+1) l) true x' b base w')∨(l=none∧x'.bP)):
 aU (j8 ρ i (g+1) l) (M.set i (.one true (g+1) x')) w'∧Ext ρ M w (j8 ρ i (g+1) l) (M.set i (.one true (g+1) x')) w':=by
 have a9:i<M.length:=(List.getElem?_eq_some_iff.1 hm).1
 have jM:(ρ i (g+1)).isSome=false:=by
  cases hh:(ρ i (g+1)).isSome with
  |false=>rfl
  |true=>exact absurd (h.tag i _ true g x hm hh) (by omega)
 refine kZ (i:=i) (g:=g+1) (x':=x') h (by simp) (fun i' eU=>by rw[List.getElem?_set_ne (Ne.symm eU)]) (by simp[a9]) (dx jM) dM (fun g' hg=>by have:=h.tag i g' true g x hm hg;omega)
  (fun b hb hn=>hw b hb fun q hq=>hn g x q (ak hm) hq) eJ CG ja pf ?_
 rcases hl with⟨b,base,rfl,h1,h2⟩|⟨rfl,hv⟩
 ·refine .inl ⟨(b,base),au _ _ _ _,h2,?_⟩
  rcases h1 with h1|⟨q,hq,h1⟩
  ·exact .inl h1
  ·exact .inr ⟨g,x,q,ak hm,hq,h1⟩
 ·exact .inr ⟨au _ _ _ _,hv⟩
end Go.Proofs.Ytibadaomjlkoaaa
open Go.RowKit
namespace Go.Proofs.Ytibadaomjlkoaaa
def AV.id:AV→Nat
 | .ptr i _ _=>i| .mE i _ _ _ _=>i| .sl i _ _ _ _=>i| .mp i _=>i|_=>0
def eZ (ρ:Env)(M:AH)(i:Nat)(w:World):Prop:=∀g own x q,slot M i g=some (own,x)→ρ i g=some (some q)→bO ρ own x q.1 q.2 w
theorem aU.id {ρ:Env}{M:AH}{w:World}(h:aU ρ M w)(i:Nat):eZ ρ M i w:=by
 intro g own x q hs hq
 rcases h.holds i g own x hs with⟨q',e1,e2⟩|⟨e1,_⟩
 ·rw[hq]at e1;injection e1 with e1;injection e1 with e1;subst e1;exact e2
 ·rw[hq]at e1;cases e1
theorem bO.cell {ρ:Env}{own:Bool}{x:af}{b base:Nat}{w:World}(h:bO ρ own x b base w){k:Nat}{v:AV}(hv:x.at k=some v):v.ok ρ∧w.cell? ⟨b,base+k,none⟩=some (v.c ρ):=by
 obtain⟨c,e,fr,h1,h2,h3,h4⟩:=h.out (af.RU hv)
 refine⟨(h3 k v hv).1,?_⟩
 rw[cell_of_row w b (base+k) c e fr h1]
 exact(h3 k v hv).2
def qk (T:List TI)(M:AH)(t:Nat)(a:AV)(K:AV→Prop):Prop:=
 match T[t]? with
 |none=>False
 |some ti=>match ti.k.isAgg with
  |false=>match a with
   | .ptr i g off=>fx M i g fun own x_=>match x_ with
     | .cells cs=>match cs[off]? with
       |some v=>K v
       |none=>False
     | .ints k xs _=>off<xs.length∧K (.int k (xs.getD off 0))
     | .bV xs _=>off<xs.length∧K (.bo (xs.getD off false))
     |_=>False
   | .mE i g sz j o=>fx M i g fun own x_=>match x_ with
     | .cJ BZ n get _=>bu (Nat.beq sz BZ&&Nat.blt o sz) (j<n∧match(get j)[o]? with
       |some v=>K v
       |none=>False)
     |_=>False
   |_=>False
  |true=>match a with
   | .ptr i g off=>fx M i g fun own x_=>match x_ with
     | .cells cs=>bu (Nat.ble (off+ti.size) cs.length) (K (.agg ((cs.drop off).take ti.size)))
     | .ints k xs _=>bu (Nat.blt 0 ti.size) (off+ti.size≤xs.length∧K (.agg ((List.range ti.size).map fun j=>.int k (xs.getD (off+j) 0))))
     |_=>False
   | .mE i g sz j o=>fx M i g fun own x_=>match x_ with
     | .cJ BZ n get _=>bu (Nat.beq sz BZ&&Nat.ble (o+ti.size) sz) (j<n∧bu (Nat.ble (o+ti.size) (get j).length) (K (.agg (((get j).drop o).take ti.size))))
     |_=>False
   |_=>False
theorem H5 {sz n:Nat}{get:Nat→List AV}{c j o:Nat}(hj:j<n)(ho:o<sz):(af.cJ sz n get c).at (j*sz+o)=(get j)[o]?:=by
 have cK:0<sz:=by omega
 have h1:j*sz+o<n*sz:=by
  have:=Nat.mul_le_mul_right sz (show j+1≤n from hj)
  rw[Nat.add_mul,Nat.one_mul]at this
  omega
 have h2:(j*sz+o)/sz=j:=by rw[Nat.mul_comm,Nat.mul_add_div cK,Nat.div_eq_of_lt ho,Nat.add_zero]
 have h3:(j*sz+o)%sz=o:=by rw[Nat.mul_comm,Nat.mul_add_mod,Nat.mod_eq_of_lt ho]
 simp only[af.at,if_pos h1,h2,h3]
theorem tF {P:Program}{w:World}{b o:Nat}{vs:List Value}(h:∀k v,vs[k]?=some v→w.cell? ⟨b,o+k,none⟩=some v):
 (loadCells ⟨b,o,none⟩ vs.length).run P w=.ok vs.toArray w:=
 run_loadCells_list w ⟨b,o,none⟩ vs fun k v hv=>by rw[cf];exact h k v hv
theorem gz {P:Program}{T:List TI}(hT:aq P T){M:AH}{t:Nat}{a:AV}{K:AV→Prop}{ρ:Env}(hk:jR ρ M){w0:World}(h0:eZ ρ M a.id w0)
 (h:qk T M t a K):∃v,K v∧v.ok ρ∧∀w,eZ ρ M a.id w→(Instr.loadAt t (a.c ρ)).run P w=.ok (v.c ρ) w:=by
 unfold qk at h
 split at h
 ·exact h.elim
 ·rename_i ti ht
  have hs:=hT.size ht
  have Wh:=hT.isAgg ht
  have one:∀(i g off:Nat)(own:Bool)(x:af)(q:Nat×Nat)(v:AV)(k:Nat)(p:Value),a.id=i→slot M i g=some (own,x)→ρ i g=some (some q)→ti.k.isAgg=false→x.at k=some v→
   p=.pointer (some ⟨q.1,q.2+k,none⟩)→v.ok ρ∧∀w,eZ ρ M a.id w→(Instr.loadAt t p).run P w=.ok (v.c ρ) w:=by
   intro i g off own x q v k p hi cV hq sC fH hp
   subst hp
   refine⟨((h0 g own x q (hi▸cV) (hi▸hq)).cell fH).1,fun w hw=>?_⟩
   have hc:=((hw g own x q (hi▸cV) (hi▸hq)).cell fH).2
   simp[Instr.loadAt,Instr.sureAddr,loadVar,Wh,sC,hc]
  have many:∀(i g:Nat)(own:Bool)(x:af)(q:Nat×Nat)(l:List AV)(k:Nat)(p:Value),a.id=i→slot M i g=some (own,x)→ρ i g=some (some q)→ti.k.isAgg=true→l.length=ti.size→(∀m v,l[m]?=some v→x.at (k+m)=some v)→
   p=.pointer (some ⟨q.1,q.2+k,none⟩)→(AV.agg l).ok ρ∧∀w,eZ ρ M a.id w→(Instr.loadAt t p).run P w=.ok ((AV.agg l).c ρ) w:=by
   intro i g own x q l k p hi cV hq sC hlen fH hp
   subst hp
   refine⟨?_,fun w hw=>?_⟩
   ·simp only[AV.ok,AV.aK]
    intro v hv
    obtain⟨m,hm⟩:=List.getElem?_of_mem hv
    exact((h0 g own x q (hi▸cV) (hi▸hq)).cell (fH m v hm)).1
   ·have hl:(loadCells ⟨q.1,q.2+k,none⟩ (AV.cl ρ l).length).run P w=.ok (AV.cl ρ l).toArray w:=tF fun m v hv=>by
     rw[AV.aY,List.getElem?_map,Option.map_eq_some_iff]at hv
     obtain⟨u,hu,rfl⟩:=hv
     have:=((hw g own x q (hi▸cV) (hi▸hq)).cell (fH m u hu)).2
     rwa[←Nat.add_assoc]at this
    have JD:(AV.cl ρ l).length=ti.size:=by rw[AV.aY,List.length_map,hlen]
    rw[JD]at hl
    simp[Instr.loadAt,Instr.sureAddr,loadVar,Wh,sC,hs,hl,AV.c]
  split at h
  ·rename_i sC
   split at h
   ·rename_i i g off
    replace h:=aV h
    obtain⟨own,x_,cV,h⟩:=h
    split at h
    ·rename_i cs
     obtain⟨q,hq⟩:=dg (off:=0) (n:=0) (c:=0) hk cV (by simp[af.bP])
     split at h
     ·rename_i v hv
      obtain⟨h1,h2⟩:=one i g off own _ q v off _ rfl cV hq sC hv rfl
      exact⟨v,h,h1,by simpa only[AV.c,hq]using h2⟩
     ·exact h.elim
    ·rename_i k xs c
     obtain⟨a9,h⟩:=h
     obtain⟨q,hq⟩:=dg (off:=0) (n:=0) (c:=0) hk cV (by simp only[af.bP];rintro⟨rfl,_⟩;simp at a9)
     obtain⟨h1,h2⟩:=one i g off own _ q (.int k (xs.getD off 0)) off _ rfl cV hq sC (by simp[af.at,a9]) rfl
     exact⟨_,h,h1,by simpa only[AV.c,hq]using h2⟩
    ·rename_i xs c
     obtain⟨a9,h⟩:=h
     obtain⟨q,hq⟩:=dg (off:=0) (n:=0) (c:=0) hk cV (by simp only[af.bP];rintro⟨rfl,_⟩;simp at a9)
     obtain⟨h1,h2⟩:=one i g off own _ q (.bo (xs.getD off false)) off _ rfl cV hq sC (by simp[af.at,a9]) rfl
     exact⟨_,h,h1,by simpa only[AV.c,hq]using h2⟩
    ·exact h.elim
   ·rename_i i g sz j o
    replace h:=aV h
    obtain⟨own,x_,cV,h⟩:=h
    split at h
    ·rename_i BZ n get c
     replace h:=ar h;obtain⟨hb,a9,h⟩:=h
     simp only[Bool.and_eq_true]at hb
     have e1:sz=BZ:=Nat.eq_of_beq_eq_true hb.1
     have e2:o<sz:=by simpa using hb.2
     subst e1
     obtain⟨q,hq⟩:=dg (off:=0) (n:=0) (c:=0) hk cV (by simp only[af.bP];rintro⟨rfl,_⟩;omega)
     split at h
     ·rename_i v hv
      obtain⟨h1,h2⟩:=one i g 0 own _ q v (j*sz+o) _ rfl cV hq sC (by rw[H5 a9 e2];exact hv) rfl
      exact⟨v,h,h1,by simpa only[AV.c,hq]using h2⟩
     ·exact h.elim
    ·exact h.elim
   ·exact h.elim
  ·rename_i sC
   split at h
   ·rename_i i g off
    replace h:=aV h
    obtain⟨own,x_,cV,h⟩:=h
    split at h
    ·rename_i cs
     replace h:=ar h;obtain⟨hb,h⟩:=h
     have CN:off+ti.size≤cs.length:=by simpa using hb
     obtain⟨q,hq⟩:=dg (off:=0) (n:=0) (c:=0) hk cV (by simp[af.bP])
     obtain⟨h1,h2⟩:=many i g own _ q ((cs.drop off).take ti.size) off _ rfl cV hq sC (by simp;omega) (fun m v hv=>by
      simp only[List.getElem?_take,List.getElem?_drop]at hv
      split at hv
      ·exact hv
      ·cases hv) rfl
     exact⟨_,h,h1,by simpa only[AV.c,hq]using h2⟩
    ·rename_i k xs c
     replace h:=ar h;obtain⟨hb,a9,h⟩:=h
     have cK:0<ti.size:=by simpa using hb
     obtain⟨q,hq⟩:=dg (off:=0) (n:=0) (c:=0) hk cV (by simp only[af.bP];rintro⟨rfl,_⟩;simp at a9;omega)
     obtain⟨h1,h2⟩:=many i g own _ q ((List.range ti.size).map fun j=>.int k (xs.getD (off+j) 0)) off _ rfl cV hq sC (by simp) (fun m v hv=>by
      rw[List.getElem?_map,Option.map_eq_some_iff]at hv
      obtain⟨j,hj,rfl⟩:=hv
      have hm:=(List.getElem?_eq_some_iff.1 hj).1
      rw[List.length_range]at hm
      rw[List.getElem?_range hm]at hj
      injection hj with hj;subst hj
      have Xs:off+m<xs.length:=by omega
      simp[af.at,Xs]) rfl
     exact⟨_,h,h1,by simpa only[AV.c,hq]using h2⟩
    ·exact h.elim
   ·rename_i i g sz j o
    replace h:=aV h
    obtain⟨own,x_,cV,h⟩:=h
    split at h
    ·rename_i BZ n get c
     replace h:=ar h;obtain⟨hb,a9,h⟩:=h
     simp only[Bool.and_eq_true]at hb
     have e1:sz=BZ:=Nat.eq_of_beq_eq_true hb.1
     have e2:o+ti.size≤sz:=by simpa using hb.2
     subst e1
     replace h:=ar h;obtain⟨ig,h⟩:=h
     have e3:o+ti.size≤(get j).length:=by simpa using ig
     obtain⟨q,hq⟩:=dg (off:=0) (n:=0) (c:=0) hk cV (by simp only[af.bP];rintro⟨rfl,_⟩;omega)
     obtain⟨h1,h2⟩:=many i g own _ q (((get j).drop o).take ti.size) (j*sz+o) _ rfl cV hq sC (by simp;omega) (fun m v hv=>by
      simp only[List.getElem?_take,List.getElem?_drop]at hv
      split at hv
      ·rename_i hm
       rw[Nat.add_assoc,H5 a9 (by omega)];exact hv
      ·cases hv) rfl
     exact⟨_,h,h1,by simpa only[AV.c,hq]using h2⟩
    ·exact h.elim
   ·exact h.elim
end Go.Proofs.Ytibadaomjlkoaaa
open Go.RowKit
namespace Go.Proofs.Ytibadaomjlkoaaa
theorem yi (cur:Array Value)(p:Nat)(vs:List Value)(h:p+vs.length≤cur.size)(k:Nat):
 ((cur.toList.take p++vs++cur.toList.drop (p+vs.length)).toArray)[k]?=if p≤k∧k<p+vs.length then vs[k-p]? else cur[k]?:=by
 have hl:(cur.toList.take p).length=p:=by simp;omega
 simp only[List.getElem?_toArray]
 by_cases h1:k<p
 ·rw[if_neg (by omega),List.append_assoc,List.getElem?_append_left (by omega),List.getElem?_take,if_pos h1];simp
 ·by_cases h2:k<p+vs.length
  ·rw[if_pos ⟨by omega,h2⟩,List.append_assoc,List.getElem?_append_right (by omega),hl,List.getElem?_append_left (by omega)]
  ·rw[if_neg (by omega),List.getElem?_append_right (by simp;omega)]
   simp only[List.length_append,hl,List.getElem?_drop]
   rw[show p+vs.length+(k-(p+vs.length))=k from by omega];simp
theorem k7 (w:World)(g:Nat)(cur new:Array Value)(t:TypeId)(fr:Nat×Nat)(h:w.heap[g]?=some (.cells cur t fr)):(w.setRow g new).heap[g]?=some (.cells new t fr):=by
 simp[World.setRow,Array.getElem?_modify,h]
theorem jV (w:World)(g b:Nat)(new:Array Value)(h:b≠g):(w.setRow g new).heap[b]?=w.heap[b]?:=by
 simp only[World.setRow,Array.getElem?_modify];rw[if_neg (Ne.symm h)]
theorem k6 (w:World)(g:Nat)(new:Array Value):(w.setRow g new).heap.size=w.heap.size:=by simp[World.setRow]
theorem gp {P:Program}{ρ:Env}{M:AH}{w:World}{i g k0:Nat}{x x':af}{q:Nat×Nat}{vs:List AV}(h:aU ρ M w)(hm:M[i]?=some (.one true g x))(hq:ρ i g=some (some q))(rh:x.row=true)(Cz:x'.row=true)
 (aA:AV.dK ρ vs)(gE:vs.all AV.one=true)(fS:k0+vs.length≤x.size)(Fu:x'.size=x.size)
 (fH:∀k v,x'.at k=some v→(∃u,k0≤k∧k<k0+vs.length∧vs[k-k0]?=some u∧u.c ρ=v.c ρ∧v.ok ρ)∨((k<k0∨k0+vs.length≤k)∧x.at k=some v)):
 ∃w',(storeCells ⟨q.1,q.2+k0,none⟩ (AV.cl ρ vs)).run P w=.ok () w'∧aU ρ (M.set i (.one true g x')) w'∧Ext ρ M w ρ (M.set i (.one true g x')) w':=by
 obtain⟨c,e,fr,h1,h2,h3,h4⟩:=(h.id i g true x q (ak hm) hq).out rh
 obtain rfl:=h4 rfl
 have hlen:(AV.cl ρ vs).length=vs.length:=by simp[AV.aY]
 have aS:=run_storeCells_at P q.1 (q.2+k0) e (AV.cl ρ vs) 0 c w h1 (by rw[hlen];omega) (fun v hv=>by
  rw[AV.aY,List.mem_map]at hv
  obtain⟨u,hu,rfl⟩:=hv
  exact AV.On ρ (List.all_eq_true.1 gE u hu))
 simp only[Nat.add_zero]at aS
 refine⟨_,aS,x9 h hm hq (fun b hb=>jV _ _ _ _ hb) (k6 _ _ _) rfl rfl rfl (.mk' Cz ⟨_,e,(0,0),k7 _ _ _ _ _ _ h1,?_,?_,fun _=>rfl⟩)⟩
 ·simp only[List.size_toArray,List.length_append,List.length_take,List.length_drop,Array.length_toList,hlen];omega
 ·intro k v hv
  rw[yi _ _ _ (by rw[hlen];omega),hlen]
  rcases fH k v hv with⟨u,a1,a2,a3,a4,a5⟩|⟨a1,a2⟩
  ·refine⟨a5,?_⟩
   rw[if_pos (by omega),show q.2+k-(q.2+k0)=k-k0 from by omega,AV.aY,List.getElem?_map,a3]
   simp[a4]
  ·rw[if_neg (by omega)]
   exact h3 k v a2
def B1 (T:List TI)(M:AH)(t:Nat)(a v:AV)(K:AH→Prop):Prop:=
 match T[t]? with
 |none=>False
 |some ti=>bu (v.parts.all AV.one&&Nat.beq v.parts.length ti.size) (match a with
  | .ptr i g off=>match M[i]? with
    |some (.one true g' (.cells cs))=>g=g'∧bu (Nat.ble (off+v.parts.length) cs.length) (K (M.set i (.one true g' (.cells (di cs off v.parts)))))
    |some (.one true g' (.ints k xs c))=>g=g'∧match v with
     | .int k' n=>cE k k' (off<xs.length∧xs.length≤c∧K (M.set i (.one true g' (.ints k (xs.set off n) c))))
     |_=>False
    |some (.one true g' (.bV xs c))=>g=g'∧match v.Kt with
     |some b=>off<xs.length∧xs.length≤c∧K (M.set i (.one true g' (.bV (xs.set off b) c)))
     |none=>False
    |_=>False
  | .mE i g sz j o=>match M[i]? with
    |some (.one true g' (.cJ BZ n get c))=>g=g'∧bu (Nat.beq sz BZ&&Nat.ble (o+v.parts.length) sz) (j<n∧n≤c∧bu (Nat.ble (o+v.parts.length) (get j).length)
     (K (M.set i (.one true g' (.cJ sz n (fun r=>match Nat.beq r j with|true=>di (get j) o v.parts|false=>get r) c)))))
    |_=>False
  |_=>False)
theorem jC {P:Program}{T:List TI}(hT:aq P T){t:Nat}{ti:TI}(ht:T[t]?=some ti){ρ:Env}{v:AV}(gE:v.parts.all AV.one=true)(hlen:v.parts.length=ti.size){a:Addr}{w w':World}
 (h:(storeCells a (AV.cl ρ v.parts)).run P w=.ok () w'):(Instr.storeAt t (.pointer (some a)) (v.c ρ)).run P w=.ok () w':=by
 have hr:∀x,v≠ .raw x:=by rintro x rfl;simp[AV.parts,AV.one]at gE
 have hc:=AV.nH ρ v hr
 have eJ:(v.c ρ).cells.size=ti.size:=by
  rw[←Array.length_toList,hc,AV.aY,List.length_map,hlen]
 simp[Instr.storeAt,Instr.sureAddr,storeVar,hT.size ht,eJ,hc,h]
theorem x4 {P:Program}{T:List TI}(hT:aq P T){M:AH}{t:Nat}{a v:AV}{K:AH→Prop}{ρ:Env}{w:World}(hs:aU ρ M w)(hv:v.ok ρ)
 (h:B1 T M t a v K):∃M' w',(Instr.storeAt t (a.c ρ) (v.c ρ)).run P w=.ok () w'∧K M'∧aU ρ M' w'∧Ext ρ M w ρ M' w':=by
 unfold B1 at h
 split at h
 ·exact h.elim
 ·rename_i ti ht
  replace h:=ar h
  obtain⟨hb,h⟩:=h
  simp only[Bool.and_eq_true]at hb
  obtain⟨gE,OE⟩:=hb
  have hlen:v.parts.length=ti.size:=Nat.eq_of_beq_eq_true OE
  clear OE
  have G4:=AV.mF hv
  have hk:=hs.known
  split at h
  ·rename_i i g off
   split at h
   ·rename_i g' cs hm
    obtain⟨rfl,h⟩:=h
    replace h:=ar h
    obtain⟨hb,h⟩:=h
    have hle:off+v.parts.length≤cs.length:=by simpa using hb
    obtain⟨q,hq⟩:=dg (off:=0) (n:=0) (c:=0) hk (ak hm) (by simp[af.bP])
    obtain⟨w',aS,h1,h2⟩:=gp (P:=P) (k0:=off) (x':=.cells (di cs off v.parts)) hs hm hq rfl rfl G4 gE hle (by simp[af.size,vE hle]) (by
     intro k u hu
     simp only[af.at,kX hle]at hu
     split at hu
     ·rename_i hc
      exact .inl ⟨u,hc.1,hc.2,hu,rfl,(AV.aK ρ _).1 G4 u (List.mem_of_getElem? hu)⟩
     ·rename_i hc
      exact .inr ⟨by omega,hu⟩)
    exact⟨_,w',by simp only[AV.c,hq];exact jC hT ht gE hlen aS,h,h1,h2⟩
   ·rename_i g' k xs c hm
    obtain⟨rfl,h⟩:=h
    split at h
    ·rename_i k' n
     replace h:=aZ h
     obtain⟨rfl,a9,hc,h⟩:=h
     obtain⟨q,hq⟩:=dg (off:=0) (n:=0) (c:=0) hk (ak hm) (by simp only[af.bP];rintro⟨rfl,_⟩;simp at a9)
     obtain⟨w',aS,h1,h2⟩:=gp (P:=P) (k0:=off) (x':=.ints k (xs.set off n) c) hs hm hq rfl rfl G4 gE (by simp[af.size,AV.parts];omega) (by simp[af.size]) (by
      intro k' u hu
      simp only[af.at,Option.map_eq_some_iff]at hu
      obtain⟨z,hz,rfl⟩:=hu
      by_cases zt:k'=off
      ·subst zt
       rw[List.getElem?_set_self a9]at hz
       injection hz with hz;subst hz
       exact .inl ⟨.int k n,by omega,by simp[AV.parts],by simp[AV.parts],rfl,trivial⟩
      ·rw[List.getElem?_set_ne (Ne.symm zt)]at hz
       exact .inr ⟨by simp[AV.parts];omega,by simp[af.at,hz]⟩)
     exact⟨_,w',by simp only[AV.c,hq];exact jC hT ht gE hlen aS,h,h1,h2⟩
    ·exact h.elim
   ·rename_i g' xs c hm
    obtain⟨rfl,h⟩:=h
    split at h
    ·rename_i b Z1
     obtain⟨a9,hc,h⟩:=h
     have hp:v.parts=[v]:=by cases v<;>simp_all[AV.Kt,AV.parts]
     obtain⟨q,hq⟩:=dg (off:=0) (n:=0) (c:=0) hk (ak hm) (by simp only[af.bP];rintro⟨rfl,_⟩;simp at a9)
     obtain⟨w',aS,h1,h2⟩:=gp (P:=P) (k0:=off) (x':=.bV (xs.set off b) c) hs hm hq rfl rfl G4 gE (by simp[af.size,hp];omega) (by simp[af.size]) (by
      intro k' u hu
      simp only[af.at,Option.map_eq_some_iff]at hu
      obtain⟨z,hz,rfl⟩:=hu
      by_cases zt:k'=off
      ·subst zt
       rw[List.getElem?_set_self a9]at hz
       injection hz with hz;subst hz
       exact .inl ⟨v,by omega,by simp[hp],by simp[hp],by rw[AV.vl ρ Z1];rfl,trivial⟩
      ·rw[List.getElem?_set_ne (Ne.symm zt)]at hz
       exact .inr ⟨by simp[hp];omega,by simp[af.at,hz]⟩)
     exact⟨_,w',by simp only[AV.c,hq];exact jC hT ht gE hlen aS,h,h1,h2⟩
    ·exact h.elim
   ·exact h.elim
  ·rename_i i g sz j o
   split at h
   ·rename_i g' BZ n get c hm
    obtain⟨rfl,h⟩:=h
    replace h:=ar h
    obtain⟨hb,a9,Xn,h⟩:=h
    simp only[Bool.and_eq_true]at hb
    have e1:sz=BZ:=Nat.eq_of_beq_eq_true hb.1
    have e2:o+v.parts.length≤sz:=by simpa using hb.2
    subst e1
    replace h:=ar h
    obtain⟨ig,h⟩:=h
    have e3:o+v.parts.length≤(get j).length:=by simpa using ig
    obtain⟨q,hq⟩:=dg (off:=0) (n:=0) (c:=0) hk (ak hm) (by simp only[af.bP];rintro⟨rfl,_⟩;omega)
    have hjs:j*sz+sz≤c*sz:=by
     have:=Nat.mul_le_mul_right sz (show j+1≤c by omega)
     rwa[Nat.add_mul,Nat.one_mul]at this
    obtain⟨w',aS,h1,h2⟩:=gp (P:=P) (k0:=j*sz+o) (x':=.cJ sz n (fun r=>match Nat.beq r j with|true=>di (get j) o v.parts|false=>get r) c) hs hm hq rfl rfl G4 gE (by simp only[af.size];omega) rfl (by
     intro k u hu
     simp only[af.at]at hu
     split at hu
     ·rename_i TU
      have cK:0<sz:=by
       rcases Nat.eq_zero_or_pos sz with h0|h0
       ·subst h0;simp at TU
       ·exact h0
      by_cases Nu:k/sz=j
      ·rw[Nu,Nat.beq_refl]at hu
       simp only[kX e3]at hu
       have zt:k=j*sz+k%sz:=by rw[←Nu,Nat.mul_comm];exact(Nat.div_add_mod k sz).symm
       have TN:=Nat.mod_lt k cK
       split at hu
       ·rename_i hc
        refine .inl ⟨u,by omega,by omega,?_,rfl,(AV.aK ρ _).1 G4 u (List.mem_of_getElem? hu)⟩
        rw[show k-(j*sz+o)=k%sz-o from by omega];exact hu
       ·rename_i hc
        refine .inr ⟨by omega,?_⟩
        simp only[af.at,if_pos TU,Nu];exact hu
      ·have eU:Nat.beq (k/sz) j=false:=by
        cases hb:Nat.beq (k/sz) j with
        |true=>exact absurd (Nat.eq_of_beq_eq_true hb) Nu
        |false=>rfl
       rw[eU]at hu
       refine .inr ⟨?_,by simp only[af.at,if_pos TU];exact hu⟩
       rcases Nat.lt_or_gt_of_ne Nu with CI|Hc
       ·left
        have:k<j*sz:=(Nat.div_lt_iff_lt_mul cK).1 CI
        omega
       ·right
        have:(j+1)*sz≤k:=(Nat.le_div_iff_mul_le cK).1 Hc
        rw[Nat.add_mul,Nat.one_mul]at this
        omega
     ·cases hu)
    exact⟨_,w',by simp only[AV.c,hq];exact jC hT ht gE hlen aS,h,h1,h2⟩
   ·exact h.elim
  ·exact h.elim
end Go.Proofs.Ytibadaomjlkoaaa
open Go.RowKit
namespace Go.Proofs.Ytibadaomjlkoaaa
theorem ep {ρ:Env}{M:AH}{w w1:World}{x:af}{c:Array Value}{e:TypeId}(h:aU ρ M w)(QP:w1.heap=w.heap)(CG:w1.os=w.os)(ja:w1.tape=w.tape)(pf:w1.output=w.output)
 (Fu:x.size≤c.size)(fH:∀k v,x.at k=some v→v.ok ρ∧c[k]?=some (v.c ρ))(rh:x.row=true:=by rfl):
 aU (j8 ρ M.length 0 (some (w.heap.size,0))) (M++[.one true 0 x]) (w1.alloc (.cells c e))∧Ext ρ M w (j8 ρ M.length 0 (some (w.heap.size,0))) (M++[.one true 0 x]) (w1.alloc (.cells c e)):=by
 have jM:(ρ M.length 0).isSome=false:=by
  cases hh:(ρ M.length 0).isSome with
  |false=>rfl
  |true=>exact absurd (h.n8 _ _ hh) (Nat.lt_irrefl _)
 have eJ:w1.heap.size=w.heap.size:=by rw[QP]
 refine gh h (fun b hb=>?_) (by simp[QP]) CG ja pf (.inl ⟨w.heap.size,0,rfl,Nat.le_refl _,.mk' rh ⟨c,e,(0,0),?_,by omega,fun k v hv=>?_,fun _=>rfl⟩⟩)
 ·rw[Below.heap_alloc w1 _ b (by omega),QP]
 ·rw[←eJ];exact heap_alloc_new w1 _
 ·have h1:=fH k v hv
  refine⟨AV.cF (dx jM) v h1.1,?_⟩
  rw[AV.de (dx jM) v h1.1,Nat.zero_add]
  exact h1.2
theorem sM {ρ:Env}{M:AH}{b:Nat}:(AV.ptr M.length 0 0).c (j8 ρ M.length 0 (some (b,0)))=.pointer (some ⟨b,0,none⟩)∧(AV.ptr M.length 0 0).ok (j8 ρ M.length 0 (some (b,0))):=by
 simp[AV.c,AV.ok,au]
theorem dG {ρ:Env}{i g b n c:Nat}:(AV.sl i g 0 n c).c (j8 ρ i g (some (b,0)))=.slice (some ⟨b,0,none⟩) n c∧(AV.sl i g 0 n c).ok (j8 ρ i g (some (b,0))):=by
 simp[AV.c,AV.ok,au]
def Ex (T:List TI)(M:AH)(t:Nat)(K:AV→AH→Prop):Prop:=
 match T[t]? with
 |some ti=>K (.ptr M.length 0 0) (M++[.one true 0 (.cells ti.zero)])
 |none=>False
theorem zm {P:Program}{T:List TI}(hT:aq P T){M:AH}{t:Nat}{K:AV→AH→Prop}{ρ:Env}{w:World}(hs:aU ρ M w)
 (h:Ex T M t K):∃v M' ρ' w',(Instr.alloc t true (.tuple #[])).run P w=.ok (v.c ρ') w'∧K v M'∧v.ok ρ'∧aU ρ' M' w'∧Ext ρ M w ρ' M' w':=by
 unfold Ex at h
 split at h
 ·rename_i ti ht
  obtain⟨z,Tg,QK⟩:=hT.zero ht
  obtain⟨h1,h2⟩:=ep (x:=.cells ti.zero) (c:=z.cells) (e:=t) hs rfl rfl rfl rfl
   (by rw[←Array.length_toList,QK ρ,AV.aY];simp[af.size]) (fun k v hv=>by
    refine⟨(AV.aK ρ _).1 (hT.nr ht ρ) v (List.mem_of_getElem? hv),?_⟩
    rw[←Array.getElem?_toList,QK ρ,AV.aY,List.getElem?_map,show ti.zero[k]?=some v from hv];rfl)
  refine⟨_,_,_,_,?_,h,sM.2,h1,h2⟩
  rw[sM.1]
  simp[Instr.alloc,Tg,newVar,newRow]
 ·exact h.elim
def RT (M:AH)(v:AV)(K:AV→AH→Prop):Prop:=
 bu (v.parts.all AV.one) (K (.ptr M.length 0 0) (M++[.one true 0 (.cells v.parts)]))
theorem C8 {P:Program}{M:AH}{t:Nat}{v:AV}{K:AV→AH→Prop}{ρ:Env}{w:World}(hs:aU ρ M w)(hv:v.ok ρ)
 (h:RT M v K):∃r M' ρ' w',(Instr.box t (v.c ρ)).run P w=.ok (r.c ρ') w'∧K r M'∧r.ok ρ'∧aU ρ' M' w'∧Ext ρ M w ρ' M' w':=by
 unfold RT at h
 replace h:=ar h
 obtain⟨gE,h⟩:=h
 have hr:∀x,v≠ .raw x:=by rintro x rfl;simp[AV.parts,AV.one]at gE
 have hc:=AV.nH ρ v hr
 obtain⟨h1,h2⟩:=ep (x:=.cells v.parts) (c:=(v.c ρ).cells) (e:=t) hs rfl rfl rfl rfl
  (by rw[←Array.length_toList,hc,AV.aY];simp[af.size]) (fun k u hu=>by
   refine⟨(AV.aK ρ _).1 (AV.mF hv) u (List.mem_of_getElem? hu),?_⟩
   rw[←Array.getElem?_toList,hc,AV.aY,List.getElem?_map,show v.parts[k]?=some u from hu];rfl)
 refine⟨_,_,_,_,?_,h,sM.2,h1,h2⟩
 rw[sM.1]
 simp[Instr.box,newVar,newRow]
def k8 (k k':IntKind):Bool:=
 match k,k' with
 | .i8,.i8| .i16,.i16| .i32,.i32| .i64,.i64| .u8,.u8| .u16,.u16| .u32,.u32| .u64,.u64=>true
 |_,_=>false
theorem fg {k k':IntKind}(h:k8 k k'=true):k=k':=by
 cases k<;>cases k'<;>first|rfl|cases h
def uz (k:IntKind):List AV→Option (List Int)
 |[]=>some []
 | .int k' n::l=>match k8 k k',uz k l with
   |true,some r=>some (n::r)
   |_,_=>none
 |_=>none
def qu:List AV→Option (List Bool)
 |[]=>some []
 |v::l=>match v.Kt,qu l with
  |some b,some r=>some (b::r)
  |_,_=>none
theorem uy {k:IntKind}:∀{l:List AV}{r:List Int},uz k l=some r→r.length=l.length∧∀j:Nat,l[j]?=(r[j]?).map (AV.int k)
 |[],r,h=>by simp[uz]at h;subst h;simp
 |v::l,r,h=>by
  cases v<;>simp[uz]at h
  split at h
  ·rename_i h1 h2
   injection h with h;subst h
   obtain⟨h3,h4⟩:=uy h2
   refine⟨by simp[h3],fun j=>?_⟩
   cases j with
   |zero=>simp[fg h1]
   |succ j=>simpa using h4 j
  ·cases h
theorem se (ρ:Env):∀{l:List AV}{r:List Bool},qu l=some r→r.length=l.length∧∀(j:Nat) b,r[j]?=some b→∃v,l[j]?=some v∧v.c ρ=.bool b∧v.parts=[v]
 |[],r,h=>by simp[qu]at h;subst h;simp
 |v::l,r,h=>by
  simp only[qu]at h
  split at h
  ·rename_i b r' h1 h2
   injection h with h;subst h
   obtain⟨h3,h4⟩:=se ρ h2
   refine⟨by simp[h3],fun j b' hb=>?_⟩
   cases j with
   |zero=>simp at hb;subst hb;exact⟨v,rfl,AV.vl ρ h1,by cases v<;>simp_all[AV.Kt,AV.parts]⟩
   |succ j=>simpa using h4 j b' (by simpa using hb)
  ·cases h
def nP (ti:TI)(vs:List AV):Option af:=
 match ti.size with
 |0=>none
 |1=>match ti.k with
  | .int k=>(uz k vs).map fun xs=>.ints k xs vs.length
  | .bool=>(qu vs).map fun xs=>.bV xs vs.length
  |_=>some (.cells (vs.flatMap AV.parts))
 |s=>some (.cJ s vs.length (fun j=>(vs.map AV.parts).getD j []) vs.length)
theorem rT {ti:TI}{vs:List AV}{x:af}(h:nP ti vs=some x):x.row=true:=by
 unfold nP at h
 split at h
 ·cases h
 ·split at h
  ·obtain⟨_,_,rfl⟩:=Option.map_eq_some_iff.1 h;rfl
  ·obtain⟨_,_,rfl⟩:=Option.map_eq_some_iff.1 h;rfl
  ·injection h with h;subst h;rfl
 ·injection h with h;subst h;rfl
theorem ui {ti:TI}{vs:List AV}{x:af}(ρ:Env)(h:nP ti vs=some x)(gE:vs.all (fun v=>v.parts.all AV.one&&Nat.beq v.parts.length ti.size)=true)(aA:AV.dK ρ vs):
 0<ti.size∧x.size=vs.length*ti.size∧∀k v,x.at k=some v→v.ok ρ∧((vs.map (AV.c ρ)).flatMap fun u=>u.cells.toList)[k]?=some (v.c ρ):=by
 have hp:∀v∈vs,v.parts.all AV.one=true∧v.parts.length=ti.size:=fun v hv=>by
  have:=List.all_eq_true.1 gE v hv
  simp only[Bool.and_eq_true]at this
  exact⟨this.1,Nat.eq_of_beq_eq_true this.2⟩
 have fB:∀v∈vs,(v.c ρ).cells.toList=AV.cl ρ v.parts:=fun v hv=>AV.nH ρ v (by rintro x rfl;have:=(hp _ hv).1;simp[AV.parts,AV.one]at this)
 have eJ:∀u∈vs.map (AV.c ρ),u.cells.size=ti.size:=fun u hu=>by
  obtain⟨v,hv,rfl⟩:=List.mem_map.1 hu
  rw[←Array.length_toList,fB v hv,AV.aY,List.length_map,(hp v hv).2]
 have cK:0<ti.size:=by
  unfold nP at h
  split at h
  ·cases h
  ·omega
  ·rename_i h0 h1;exact Nat.pos_of_ne_zero (fun e=>h0 e)
 have key:∀k u p,vs[k/ti.size]?=some u→u.parts[k%ti.size]?=some p→p.ok ρ∧((vs.map (AV.c ρ)).flatMap fun u=>u.cells.toList)[k]?=some (p.c ρ):=by
  intro k u p hu Y2
  have hm:=List.mem_of_getElem? hu
  refine⟨(AV.aK ρ _).1 (AV.mF ((AV.aK ρ _).1 aA u hm)) p (List.mem_of_getElem? Y2),?_⟩
  rw[Go.Great.flat_get cK _ eJ,List.getElem?_map,hu]
  simp only[Option.map_some,Option.bind_some]
  rw[←Array.getElem?_toList,fB u hm,AV.aY,List.getElem?_map,Y2];rfl
 refine⟨cK,?_⟩
 unfold nP at h
 split at h
 ·cases h
 ·rename_i h1
  split at h
  ·rename_i k _
   simp only[Option.map_eq_some_iff]at h
   obtain⟨xs,AR,rfl⟩:=h
   obtain⟨g1,g2⟩:=uy AR
   refine⟨by simp[af.size,h1],fun j v hv=>?_⟩
   simp only[af.at]at hv
   rw[←g2 j]at hv
   refine key j v v (by simpa[h1]using hv) ?_
   rw[g2 j,Option.map_eq_some_iff]at hv
   obtain⟨z,_,rfl⟩:=hv
   simp[AV.parts,h1,Nat.mod_one]
  ·simp only[Option.map_eq_some_iff]at h
   obtain⟨xs,AR,rfl⟩:=h
   obtain⟨g1,g2⟩:=se ρ AR
   refine⟨by simp[af.size,h1],fun j v hv=>?_⟩
   simp only[af.at,Option.map_eq_some_iff]at hv
   obtain⟨b,hb,rfl⟩:=hv
   obtain⟨u,hu,hc,hpu⟩:=g2 j b hb
   have:=key j u u (by simpa[h1]using hu) (by rw[hpu,h1];simp[Nat.mod_one])
   exact⟨trivial,by rw[this.2,hc];rfl⟩
  ·injection h with h;subst h
   have e:(vs.map (AV.c ρ)).flatMap (fun u=>u.cells.toList)=AV.cl ρ (vs.flatMap AV.parts):=by
    rw[AV.aY,List.flatMap_map,List.map_flatMap]
    have:∀l:List AV,(∀v∈l,(v.c ρ).cells.toList=AV.cl ρ v.parts)→l.flatMap (fun v=>(v.c ρ).cells.toList)=l.flatMap fun v=>v.parts.map (AV.c ρ):=by
     intro l hl
     induction l with
     |nil=>rfl
     |cons v l ih=>rw[List.flatMap_cons,List.flatMap_cons,hl v List.mem_cons_self,AV.aY,ih fun u hu=>hl u (List.mem_cons_of_mem _ hu)]
    exact this vs fB
   have TS:(vs.flatMap AV.parts).length=vs.length:=by
    have:∀l:List AV,(∀v∈l,v.parts.length=1)→(l.flatMap AV.parts).length=l.length:=by
     intro l hl
     induction l with
     |nil=>rfl
     |cons v l ih=>simp[List.flatMap_cons,hl v List.mem_cons_self,ih fun u hu=>hl u (List.mem_cons_of_mem _ hu)];omega
    exact this vs fun v hv=>by rw[(hp v hv).2,h1]
   refine⟨by simp only[af.size,TS,h1,Nat.mul_one],fun j v hv=>?_⟩
   have qw:(vs.flatMap AV.parts)[j]?=some v:=hv
   refine⟨?_,by rw[e,AV.aY,List.getElem?_map,qw];rfl⟩
   obtain⟨u,hu,Z0⟩:=List.mem_flatMap.1 (List.mem_of_getElem? qw)
   exact(AV.aK ρ _).1 (AV.mF ((AV.aK ρ _).1 aA u hu)) v Z0
 ·injection h with h;subst h
  refine⟨rfl,fun j v hv=>?_⟩
  simp only[af.at]at hv
  split at hv
  ·rename_i a9
   have hd:j/ti.size<vs.length:=(Nat.div_lt_iff_lt_mul cK).2 a9
   have hu:vs[j/ti.size]?=some vs[j/ti.size]:=List.getElem?_eq_getElem hd
   rw[List.getD_eq_getElem?_getD,List.getElem?_map,hu]at hv
   exact key j _ v hu (by simpa using hv)
  ·cases hv
def fo (T:List TI)(M:AH)(t len:Nat)(idx:List Nat)(vs:List AV)(K:AV→AH→Prop):Prop:=
 match T[t]? with
 |some ⟨.slice el,_,_,_⟩=>match T[el]? with
  |some te=>bu (idx==List.range len&&Nat.beq vs.length len&&Nat.ble (len*te.size) 16777216&&Nat.beq te.zero.length te.size&&vs.all (fun v=>v.parts.all AV.one&&Nat.beq v.parts.length te.size)) (match nP te vs with
   |some x=>K (.sl M.length 0 0 len len) (M++[.one true 0 x])
   |none=>False)
  |none=>False
 |_=>False
theorem mU {s:Nat}:∀(l:List Value),(∀u∈l,u.cells.size=s)→(l.flatMap fun u=>u.cells.toList).length=l.length*s
 |[],_=>by simp
 |u::l,h=>by
  rw[List.flatMap_cons,List.length_append,mU l fun v hv=>h v (List.mem_cons_of_mem _ hv),List.length_cons,Nat.add_mul,Array.length_toList,h u List.mem_cons_self]
  omega
theorem qt {P:Program}{T:List TI}(hT:aq P T){M:AH}{t len:Nat}{idx:List Nat}{vs:List AV}{K:AV→AH→Prop}{ρ:Env}{w:World}(hs:aU ρ M w)(aA:AV.dK ρ vs)
 (h:fo T M t len idx vs K):∃r M' ρ' w',(Instr.buildSlice t len (idx.zip (vs.map (AV.c ρ))).toArray).run P w=.ok (r.c ρ') w'∧K r M'∧r.ok ρ'∧aU ρ' M' w'∧Ext ρ M w ρ' M' w':=by
 unfold fo at h
 split at h
 ·rename_i el s1 s2 s3 ht
  obtain⟨d,hd,eO⟩:=hT.fY ht
  obtain rfl:=aM eO
  split at h
  ·rename_i te ri
   replace h:=ar h
   obtain⟨hb,h⟩:=h
   simp only[Bool.and_eq_true,beq_iff_eq]at hb
   obtain⟨⟨⟨⟨Ri,hlen⟩,Ss⟩,Fq⟩,hall⟩:=hb
   have JE:vs.length=len:=Nat.eq_of_beq_eq_true hlen
   have RI:len*te.size≤16777216:=by simpa using Ss
   have Jn:te.zero.length=te.size:=Nat.eq_of_beq_eq_true Fq
   split at h
   ·rename_i x hx
    obtain⟨cK,eJ,fH⟩:=ui ρ hx hall aA
    obtain⟨d2,ie,z,e1,e2,e3,rfl⟩:=hT.get ri
    simp only at cK eJ RI Jn hall
    have vw:∀u∈vs.map (AV.c ρ),u.cells.size=ie.size:=fun u hu=>by
     obtain⟨v,hv,rfl⟩:=List.mem_map.1 hu
     have:=List.all_eq_true.1 hall v hv
     simp only[Bool.and_eq_true]at this
     rw[←Array.length_toList,AV.nH ρ v (by rintro y rfl;have:=this.1;simp[AV.parts,AV.one]at this),AV.aY,List.length_map]
     exact Nat.eq_of_beq_eq_true this.2
    have fe:z.cells.size=ie.size:=by simpa using Jn
    subst JE
    have QJ:(idx.zip (vs.map (AV.c ρ)))=((vs.map (AV.c ρ)).zipIdx 0).map fun x=>(x.2,x.1):=by
     subst Ri
     apply List.ext_getElem?
     intro j
     simp only[List.getElem?_map,List.getElem?_zipIdx,List.getElem?_zip_eq_some]
     by_cases hj:j<vs.length
     ·simp[List.zip,hj]
     ·simp[List.zip,hj,List.getElem?_eq_none (Nat.le_of_not_lt hj)]
    have QQ:=fun c0=>Go.Great.fill_whole cK (vs.map (AV.c ρ)) c0 vw
    have zu:=mU (vs.map (AV.c ρ)) vw
    rw[List.length_map]at zu
    obtain⟨h1,h2⟩:=ep (x:=x) (c:=((vs.map (AV.c ρ)).flatMap fun u=>u.cells.toList).toArray) (e:=el) hs rfl rfl rfl rfl
     (by rw[eJ,List.size_toArray,zu];exact Nat.le_refl _) (fun k v hv=>by have:=fH k v hv;exact⟨this.1,by simpa using this.2⟩) (rT (by assumption))
    by_cases Re:vs.length=0
    ·have:vs=[]:=List.eq_nil_of_length_eq_zero Re
     subst this
     refine⟨_,_,_,_,?_,h,dG.2,h1,h2⟩
     rw[dG.1]
     simp[Instr.buildSlice,run_underlying hd,sizeOf,typeInfo,e2,newRow,Instr.fill]
     have:(Array.map (fun _=>(default:Value)) (Array.range 0))=#[]:=by apply Array.eq_empty_of_size_eq_zero;simp
     rw[this]
    ·have JN:=QQ ((Array.range (vs.length*ie.size)).map (z.cells[·%z.cells.size]!)) (by simp)
     have aS:=run_buildSlice (P:=P) w t el vs.length (idx.zip (vs.map (AV.c ρ))).toArray _ ie z hd e2 e3 (by omega) (by
      intro h0
      rcases Nat.mul_eq_zero.1 h0 with h0|h0
      ·exact Re h0
      ·omega) (by rw[List.toList_toArray,QJ];exact JN)
     exact⟨_,_,_,_,by rw[dG.1];exact aS,h,dG.2,h1,h2⟩
   ·exact h.elim
  ·exact h.elim
 ·exact h.elim
def mK (ti:TI)(len cap:Nat):Option af:=
 match ti.size,ti.k,ti.zero with
 |1,.int k,[.int k' 0]=>match k8 k k' with
  |true=>some (.ints k (List.replicate len 0) cap)
  |false=>none
 |1,.bool,[.ff]=>some (.bV (List.replicate len false) cap)
 |s,_,z=>match Nat.beq z.length s,Nat.blt 0 s with
  |true,true=>some (.cJ s len (fun _=>z) cap)
  |_,_=>none
theorem qi {ti:TI}{len cap:Nat}{x:af}(h:mK ti len cap=some x):x.row=true:=by
 unfold mK at h
 split at h
 ·split at h
  ·injection h with h;subst h;rfl
  ·cases h
 ·injection h with h;subst h;rfl
 ·split at h
  ·injection h with h;subst h;rfl
  ·cases h
theorem E0 {α:Type}{n j:Nat}{a z:α}(h:(List.replicate n a)[j]?=some z):j<n∧a=z:=by
 rw[List.getElem?_replicate]at h
 split at h
 ·exact⟨‹_›,Option.some.inj h⟩
 ·cases h
theorem rQ {ti:TI}{len cap:Nat}{x:af}(h:mK ti len cap=some x)(uJ:len≤cap):
 0<ti.size∧ti.zero.length=ti.size∧x.size=cap*ti.size∧∀k v,x.at k=some v→k<cap*ti.size∧(∃u,ti.zero[k%ti.size]?=some u∧∀ρ,u.c ρ=v.c ρ∧(u.ok ρ→v.ok ρ)):=by
 unfold mK at h
 split at h
 ·rename_i k k' h1 h2 h3
  split at h
  ·rename_i hk
   injection h with h;subst h
   refine⟨by omega,by rw[h1,h3];rfl,by simp[af.size,h1],fun j v hv=>?_⟩
   simp only[af.at,Option.map_eq_some_iff]at hv
   obtain⟨z,hz,rfl⟩:=hv
   obtain⟨hj,rfl⟩:=E0 hz
   refine⟨by rw[h1];omega,.int k' 0,by simp[h1,h3,Nat.mod_one],fun ρ=>⟨by rw[fg hk],fun _=>trivial⟩⟩
  ·cases h
 ·rename_i h1 h2 h3
  injection h with h;subst h
  refine⟨by omega,by rw[h1,h3];rfl,by simp[af.size,h1],fun j v hv=>?_⟩
  simp only[af.at,Option.map_eq_some_iff]at hv
  obtain⟨z,hz,rfl⟩:=hv
  obtain⟨hj,rfl⟩:=E0 hz
  exact⟨by rw[h1];omega,.ff,by simp[h1,h3,Nat.mod_one],fun ρ=>⟨rfl,fun _=>trivial⟩⟩
 ·split at h
  ·rename_i hz hs
   injection h with h;subst h
   have V1:ti.zero.length=ti.size:=Nat.eq_of_beq_eq_true hz
   have vS:0<ti.size:=by simpa using hs
   refine⟨vS,V1,rfl,fun j v hv=>?_⟩
   simp only[af.at]at hv
   split at hv
   ·exact⟨Nat.lt_of_lt_of_le ‹_› (Nat.mul_le_mul_right _ uJ),v,hv,fun ρ=>⟨rfl,id⟩⟩
   ·cases hv
  ·cases h
def fQ (T:List TI)(M:AH)(t:Nat)(l c:AV)(K:AV→AH→Prop):Prop:=
 match l,c with
 | .int _ l,.int _ c=>match T[t]? with
   |some ⟨.slice el,_,_,_⟩=>match T[el]? with
    |some te=>(0≤l∧l≤c∧(te.bytes:Int)*c≤140737488355328∧c≤140737488355328)∧match mK te l.toNat c.toNat with
     |some x=>K (.sl M.length 0 0 l.toNat c.toNat) (M++[.one true 0 x])
     |none=>False
    |none=>False
   |_=>False
 |_,_=>False
theorem q9 {P:Program}{T:List TI}(hT:aq P T){M:AH}{t:Nat}{l c:AV}{K:AV→AH→Prop}{ρ:Env}{w:World}(hs:aU ρ M w)
 (h:fQ T M t l c K):∃r M' ρ' w',(Instr.makeSlice t (l.c ρ) (c.c ρ)).run P w=.ok (r.c ρ') w'∧K r M'∧r.ok ρ'∧aU ρ' M' w'∧Ext ρ M w ρ' M' w':=by
 unfold fQ at h
 split at h
 ·rename_i kl l kc c
  split at h
  ·rename_i el s1 s2 s3 ht
   obtain⟨d,hd,eO⟩:=hT.fY ht
   obtain rfl:=aM eO
   split at h
   ·rename_i te ri
    obtain⟨⟨h0,uJ,hb,RG⟩,h⟩:=h
    split at h
    ·rename_i x hx
     obtain⟨cK,Fq,eJ,fH⟩:=rQ hx (by omega)
     have yJ:=hT.nr ri ρ
     obtain⟨d2,ie,z,e1,e2,e3,rfl⟩:=hT.get ri
     simp only at cK Fq eJ fH hb yJ
     have fe:z.cells.size=ie.size:=by simpa using Fq
     have aS:=run_make (P:=P) w t el ie z hd e2 e3 kl kc l c h0 uJ (by omega) (by omega)
     obtain⟨h1,h2⟩:=ep (x:=x) (c:=madeCells z.cells (c.toNat*ie.size)) (e:=el) hs rfl rfl rfl rfl (by rw[eJ,size_madeCells];exact Nat.le_refl _) (fun k v hv=>by
      obtain⟨hk,u,hu,hc⟩:=fH k v hv
      refine⟨(hc ρ).2 ((AV.aK ρ _).1 yJ u (List.mem_of_getElem? hu)),?_⟩
      have hm:k%ie.size<z.cells.size:=by rw[fe];exact Nat.mod_lt _ cK
      have WW:GH z.cells[k%ie.size]=u:=by
       rw[List.getElem?_map,Array.getElem?_toList,Array.getElem?_eq_getElem hm]at hu
       simpa using hu
      rw[←(hc ρ).1,←WW,qe]
      simp only[madeCells,Array.getElem?_map,Array.getElem?_range,hk,if_true,Option.map_some,fe]
      rw[getElem!_pos z.cells _ hm]) (qi (by assumption))
     exact⟨_,_,_,_,by rw[dG.1];exact aS,h,dG.2,h1,h2⟩
    ·exact h.elim
   ·exact h.elim
  ·exact h.elim
 ·exact h.elim
end Go.Proofs.Ytibadaomjlkoaaa
open Go.RowKit
namespace Go.Proofs.Ytibadaomjlkoaaa
section
variable{P:Program}{T:List TI}{ρ:Env}{M:AH}{w:World}
theorem gP {t tx ty e:TypeId}{i:TypeInfo}(ht:P.underlying t=some (.slice e))(hi:P.info? e=some i){x:Value}{news:List Value}(hs:Src P i.size tx x 0 news w):
 (Builtin.append_ #[t,tx] ty #[.slice none 0 0,x]).run P w=.ok (.slice none 0 0) w:=by
 rcases hs.kind with⟨e',hk⟩|hk<;>simp[Builtin.append_,run_underlying ht,run_underlying hk,sizeOf,typeInfo,hi,hs.len,hs.cells]
theorem ov {t tx ty e:TypeId}{i:TypeInfo}(ht:P.underlying t=some (.slice e))(hi:P.info? e=some i){b off n c m:Nat}{x:Value}{news:List Value}(hs:Src P i.size tx x m news w)(uE:n+m≤c)
 {cur:Array Value}{e':TypeId}(hb:w.heap[b]?=some (.cells cur e' (0,0)))(fS:off+n*i.size+news.length≤cur.size):
 (Builtin.append_ #[t,tx] ty #[.slice (some ⟨b,off,none⟩) n c,x]).run P w=.ok (.slice (some ⟨b,off,none⟩) (n+m) c)
  (w.setRow b (cur.toList.take (off+n*i.size)++news++cur.toList.drop (off+n*i.size+news.length)).toArray):=by
 have dI:=run_storeCells_at P b (off+n*i.size) e' news 0 cur w hb (by omega) hs.one
 simp only[Nat.add_zero]at dI
 rcases hs.kind with⟨e',hk⟩|hk<;>simp[Builtin.append_,run_underlying ht,run_underlying hk,sizeOf,typeInfo,hi,hs.len,uE,hs.cells,cf,dI]
theorem mS {cs:List Value}{z:Array Value}{k sz c:Nat}(hz:z.size=sz)(hl:cs.length=k*sz)(hk:k≤c):c*sz≤(cs.toArray++Builtin.zeroCells z (c-k)).size:=by
 simp only[Array.size_append,List.size_toArray,size_zeroCells,hz,hl,←Nat.add_mul]
 exact Nat.mul_le_mul_right _ (by omega)
theorem nZ {cs:List Value}{z:Array Value}{j:Nat}{v:Value}(h:cs[j]?=some v):(cs.toArray++z)[j]?=some v:=by
 have:=(List.getElem?_eq_some_iff.1 h).1
 rw[Array.getElem?_append_left (by simpa using this)]
 simpa using h
theorem pA (hs:aU ρ M w){t tx ty e:TypeId}{ie:TypeInfo}{z:Value}(ht:P.underlying t=some (.slice e))(hi:P.info? e=some ie)(hz:ie.zero=some z)(fe:z.cells.size=ie.size)
 {x:Value}{m:Nat}{news:List Value}(eC:Src P ie.size tx x m news w)(hb:m*ie.bytes≤140737488355328)(RG:(m:Int)≤9223372036854775807)
 (xc:Nat→af)(eJ:∀c,(xc c).size=c*ie.size)(fH:∀c k v,(xc c).at k=some v→v.ok ρ∧news[k]?=some (v.c ρ))(hv:m=0→(xc 0).bP)(rh:∀c,(xc c).row=true:=by intros;rfl):
 ∃c,m≤c∧∃ρ' w',(Builtin.append_ #[t,tx] ty #[.slice none 0 0,x]).run P w=.ok ((AV.sl M.length 0 0 m c).c ρ') w'∧(AV.sl M.length 0 0 m c).ok ρ'∧
  aU ρ' (M++[.one true 0 (xc c)]) w'∧Ext ρ M w ρ' (M++[.one true 0 (xc c)]) w':=by
 by_cases hm:m=0
 ·subst hm
  obtain⟨h1,h2⟩:=gh (x:=xc 0) (l:=none) (w':=w) hs (fun _ _=>rfl) (Nat.le_refl _) rfl rfl rfl (.inr ⟨rfl,hv rfl⟩)
  refine⟨0,Nat.le_refl _,_,w,?_,?_,h1,h2⟩
  ·rw[gP ht hi eC];simp[AV.c,au]
  ·simp[AV.ok,au]
 ·have aS:=run_append_grow_src (P:=P) w t tx ty e ie z ht hi hz none 0 0 [] (by simp[Builtin.firstCells]) x m news eC (by omega) (by omega) (growslice_fits (by omega) (by rw[Nat.zero_add];exact hb))
  simp only[List.nil_append,Nat.zero_add]at aS
  have hc:=grownCap_ge w m 0 e
  obtain⟨h1,h2⟩:=ep (x:=xc (grownCap w m 0 e)) (w1:=w.drew) (c:=news.toArray++Builtin.zeroCells z.cells (grownCap w m 0 e-m)) (e:=e) hs rfl rfl rfl rfl
   (by rw[eJ];exact mS fe eC.newsLen hc) (fun k v hv=>by obtain⟨a,b⟩:=fH _ k v hv;exact⟨a,nZ b⟩) (rh _)
  exact⟨_,hc,_,_,by rw[dG.1];exact aS,dG.2,h1,h2⟩
theorem pz (hs:aU ρ M w){t tx ty e:TypeId}{ie:TypeInfo}{z:Value}(ht:P.underlying t=some (.slice e))(hi:P.info? e=some ie)(hz:ie.zero=some z)(fe:z.cells.size=ie.size)
 {x:Value}{m:Nat}{news:List Value}(eC:Src P ie.size tx x m news w){i g n c co:Nat}{xo:af}(hm:M[i]?=some (.one true g xo))(Ti:xo.size=co*ie.size)(hn:n≤co)(vx:c≤co)(Tj:xo.bP→co=0)
 (hb:(n+m)*ie.bytes≤140737488355328)(RG:((n+m:Nat):Int)≤9223372036854775807)
 (xc:Nat→af)(eJ:∀c,(xc c).size=c*ie.size)(fH:∀c k v,(xc c).at k=some v→(k<n*ie.size∧xo.at k=some v)∨(n*ie.size≤k∧v.ok ρ∧news[k-n*ie.size]?=some (v.c ρ)))
 (hv:n=0→m=0→(xc 0).bP)(aA:(AV.sl i g 0 n c).ok ρ)(rh:∀c,(xc c).row=true:=by intros;rfl)(QL:xo.row=true:=by rfl):
 ∃c',n+m≤c'∧∃ρ' w',(Builtin.append_ #[t,tx] ty #[(AV.sl i g 0 n c).c ρ,x]).run P w=.ok ((AV.sl i (g+1) 0 (n+m) c').c ρ') w'∧(AV.sl i (g+1) 0 (n+m) c').ok ρ'∧
  aU ρ' (M.set i (.one true (g+1) (xc c'))) w'∧Ext ρ M w ρ' (M.set i (.one true (g+1) (xc c'))) w':=by
 have jM:(ρ i (g+1)).isSome=false:=by
  cases hh:(ρ i (g+1)).isSome with
  |false=>rfl
  |true=>exact absurd (hs.tag i _ true g xo hm hh) (by omega)
 have grow:∀(base:Option Addr)(og:List Value),(AV.sl i g 0 n c).c ρ=.slice base n c→c<n+m→og.length=n*ie.size→(Builtin.firstCells ie.size n (.slice base n c)).run P w.drew=.ok og.toArray w.drew→
  (∀k v,xo.at k=some v→k<n*ie.size→v.ok ρ∧og[k]?=some (v.c ρ))→
  ∃c',n+m≤c'∧∃ρ' w',(Builtin.append_ #[t,tx] ty #[(AV.sl i g 0 n c).c ρ,x]).run P w=.ok ((AV.sl i (g+1) 0 (n+m) c').c ρ') w'∧(AV.sl i (g+1) 0 (n+m) c').ok ρ'∧
  aU ρ' (M.set i (.one true (g+1) (xc c'))) w'∧Ext ρ M w ρ' (M.set i (.one true (g+1) (xc c'))) w':=by
  intro base og jb a9 BO hold Q4
  have aS:=run_append_grow_src (P:=P) w t tx ty e ie z ht hi hz base n c og hold x m news eC a9 RG (growslice_fits a9 hb)
  have hc:=grownCap_ge w (n+m) c e
  have hlen:(og++news).length=(n+m)*ie.size:=by rw[List.length_append,BO,eC.newsLen,Nat.add_mul]
  obtain⟨h1,h2⟩:=qG (x':=xc (grownCap w (n+m) c e)) (l:=some (w.heap.size,0)) (w':=w.drew.alloc (.cells ((og++news).toArray++Builtin.zeroCells z.cells (grownCap w (n+m) c e-(n+m))) e)) hs hm
   (fun b hb _=>Below.heap_alloc w.drew _ b hb) (by simp) rfl rfl rfl (.inl ⟨w.heap.size,0,rfl,.inl (Nat.le_refl _),.mk' (rh _) ⟨_,e,(0,0),heap_alloc_new w.drew _,by rw[eJ,Nat.zero_add];exact mS fe hlen hc,fun k v hv=>by
    have key:v.ok ρ∧(og++news)[k]?=some (v.c ρ):=by
     rcases fH _ k v hv with⟨a,b⟩|⟨a,b,c⟩
     ·obtain⟨h1,h2⟩:=Q4 k v b a
      exact⟨h1,by rw[List.getElem?_append_left (by rw[BO];exact a)];exact h2⟩
     ·exact⟨b,by rw[List.getElem?_append_right (by rw[BO];exact a),BO];exact c⟩
    exact⟨AV.cF (dx jM) v key.1,by rw[AV.de (dx jM) v key.1,Nat.zero_add];exact nZ key.2⟩,fun _=>rfl⟩⟩)
  exact⟨_,hc,_,_,by rw[jb,dG.1];exact aS,dG.2,h1,h2⟩
 rcases hs.holds i g true xo (ak hm)with⟨q,hq,hh⟩|⟨hq,QS⟩
 ·obtain⟨cur,e',fr,h1,h2,h3,h4⟩:=hh.out QL
  obtain rfl:=h4 rfl
  have jb:(AV.sl i g 0 n c).c ρ=.slice (some ⟨q.1,q.2,none⟩) n c:=by simp[AV.c,hq]
  rw[Ti]at h2
  have Xn:n*ie.size≤co*ie.size:=Nat.mul_le_mul_right _ hn
  by_cases uE:n+m≤c
  ·have XP:(n+m)*ie.size≤co*ie.size:=Nat.mul_le_mul_right _ (by omega)
   have XO:c*ie.size≤co*ie.size:=Nat.mul_le_mul_right _ vx
   rw[Nat.add_mul]at XP
   have fS:q.2+n*ie.size+news.length≤cur.size:=by rw[eC.newsLen];omega
   have aS:=ov (ty:=ty) ht hi eC uE (off:=q.2) h1 fS
   have hl:(cur.toList.take (q.2+n*ie.size)++news++cur.toList.drop (q.2+n*ie.size+news.length)).toArray.size=cur.size:=by
    simp only[List.size_toArray,List.length_append,List.length_take,List.length_drop,Array.length_toList];omega
   obtain⟨g1,g2⟩:=qG (x':=xc c) (l:=some (q.1,q.2)) (w':=w.setRow q.1 (cur.toList.take (q.2+n*ie.size)++news++cur.toList.drop (q.2+n*ie.size+news.length)).toArray) hs hm
    (fun b _ hb=>jV _ _ _ _ (fun e=>hb q hq e.symm)) (Nat.le_of_eq (k6 _ _ _).symm) rfl rfl rfl (.inl ⟨q.1,q.2,rfl,.inr ⟨q,hq,rfl⟩,.mk' (rh _) ⟨_,e',(0,0),k7 _ _ _ _ _ _ h1,by rw[hl,eJ];omega,fun k v hv=>by
     have key:v.ok ρ∧((cur.toList.take (q.2+n*ie.size)++news++cur.toList.drop (q.2+n*ie.size+news.length)).toArray)[q.2+k]?=some (v.c ρ):=by
      rw[yi _ _ _ fS]
      rcases fH _ k v hv with⟨a,b⟩|⟨a,b,c⟩
      ·rw[if_neg (by omega)];exact h3 k v b
      ·have:=(List.getElem?_eq_some_iff.1 c).1
       rw[if_pos (by omega),show q.2+k-(q.2+n*ie.size)=k-n*ie.size from by omega]
       exact⟨b,c⟩
     exact⟨AV.cF (dx jM) v key.1,by rw[AV.de (dx jM) v key.1];exact key.2⟩,fun _=>rfl⟩⟩)
   exact⟨c,uE,_,_,by rw[jb,aS];simp[AV.c,au],by simp[AV.ok,au],g1,g2⟩
  ·refine grow _ ((cur.toList.drop q.2).take (n*ie.size)) jb (by omega) (by simp;omega) ?_ ?_
   ·refine run_firstCells_some w.drew ie.size n ⟨q.1,q.2,none⟩ n c _ (by simp;omega) fun j v hv=>?_
    simp only[List.getElem?_take,List.getElem?_drop]at hv
    split at hv
    ·rw[cf,World.cell?_drew,cell_of_row w q.1 (q.2+j) cur e' (0,0) h1]
     simpa using hv
    ·cases hv
   ·intro k v hv hk
    obtain⟨a,b⟩:=h3 k v hv
    exact⟨a,by simp only[List.getElem?_take,List.getElem?_drop,if_pos hk];simpa using b⟩
 ·have h0:=Tj QS
  have TJ:n=0:=by omega
  have r7:c=0:=by omega
  subst TJ;subst r7
  have jb:(AV.sl i g 0 0 0).c ρ=.slice none 0 0:=by simp[AV.c,hq]
  by_cases JC:m=0
  ·subst JC
   obtain⟨g1,g2⟩:=qG (x':=xc 0) (l:=none) (w':=w) hs hm (fun _ _ _=>rfl) (Nat.le_refl _) rfl rfl rfl (.inr ⟨rfl,hv rfl rfl⟩)
   exact⟨0,Nat.le_refl _,_,w,by rw[jb,gP ht hi eC];simp[AV.c,au],by simp[AV.ok,au],g1,g2⟩
  ·exact grow none [] jb (by omega) (by simp) (by simp[Builtin.firstCells]) (fun k v _ hk=>by simp at hk)
end
theorem wx {M:AH}{i:Nat}{f:Nat→af}(hm:M[i]?=some (.bG true 1 f))(j g:Nat):slot (M.set i (.one true 0 (f 0))) j g=slot M j g:=by
 have a9:i<M.length:=(List.getElem?_eq_some_iff.1 hm).1
 unfold slot
 by_cases h:j=i
 ·subst h
  rw[List.getElem?_set_self a9,hm]
  simp only[bc]
  by_cases hg:g=0
  ·subst hg;simp
  ·rw[if_neg hg,if_neg (by omega)]
 ·rw[List.getElem?_set_ne (Ne.symm h)]
theorem qE {M:AH}{i:Nat}{x:af}(hm:M[i]?=some (.one true 0 x))(j g:Nat):slot (M.set i (.bG true 1 (fun _=>x))) j g=slot M j g:=by
 have a9:i<M.length:=(List.getElem?_eq_some_iff.1 hm).1
 unfold slot
 by_cases h:j=i
 ·subst h
  rw[List.getElem?_set_self a9,hm]
  simp only[bc]
  by_cases hg:g=0
  ·subst hg;simp
  ·rw[if_neg hg,if_neg (by omega)]
 ·rw[List.getElem?_set_ne (Ne.symm h)]
theorem Il {ρ:Env}{M:AH}{w:World}{i:Nat}{f:Nat→af}(h:aU ρ M w)(hm:M[i]?=some (.bG true 1 f)):aU ρ (M.set i (.one true 0 (f 0))) w:=by
 have a9:i<M.length:=(List.getElem?_eq_some_iff.1 hm).1
 have e:=wx hm
 refine⟨fun j g hj=>by rw[List.length_set];exact h.n8 j g hj,?_,?_,?_,?_⟩
 ·intro j g own g' x hj hs
  by_cases fR:j=i
  ·subst fR
   rw[List.getElem?_set_self a9]at hj
   injection hj with hj;injection hj with _ e2 _;subst e2
   have:=h.bG j g true 1 f hm hs;omega
  ·rw[List.getElem?_set_ne (Ne.symm fR)]at hj;exact h.tag j g own g' x hj hs
 ·intro j g own m x hj hs
  by_cases fR:j=i
  ·subst fR
   rw[List.getElem?_set_self a9]at hj;cases hj
  ·rw[List.getElem?_set_ne (Ne.symm fR)]at hj;exact h.bG j g own m x hj hs
 ·intro j g own x cV;exact h.holds j g own x (by rw[←e];exact cV)
 ·intro a b c a' b' c' d' q q' h1 h2;exact h.apart a b c a' b' c' d' q q' (by rw[←e];exact h1) (by rw[←e];exact h2)
theorem zZ {ρ:Env}{M:AH}{w:World}{i:Nat}{x:af}(h:aU ρ M w)(hm:M[i]?=some (.one true 0 x)):aU ρ (M.set i (.bG true 1 (fun _=>x))) w:=by
 have a9:i<M.length:=(List.getElem?_eq_some_iff.1 hm).1
 have e:=qE hm
 refine⟨fun j g hj=>by rw[List.length_set];exact h.n8 j g hj,?_,?_,?_,?_⟩
 ·intro j g own g' y hj hs
  by_cases fR:j=i
  ·subst fR
   rw[List.getElem?_set_self a9]at hj;cases hj
  ·rw[List.getElem?_set_ne (Ne.symm fR)]at hj;exact h.tag j g own g' y hj hs
 ·intro j g own m y hj hs
  by_cases fR:j=i
  ·subst fR
   rw[List.getElem?_set_self a9]at hj
   injection hj with hj;injection hj with _ e2 _;subst e2
   have:=h.tag j g true 0 x hm hs;omega
  ·rw[List.getElem?_set_ne (Ne.symm fR)]at hj;exact h.bG j g own m y hj hs
 ·intro j g own y cV;exact h.holds j g own y (by rw[←e];exact cV)
 ·intro a b c a' b' c' d' q q' h1 h2;exact h.apart a b c a' b' c' d' q q' (by rw[←e];exact h1) (by rw[←e];exact h2)
theorem A8 {ρ ρ':Env}{M M1 N N1:AH}{w w':World}(h:Ext ρ M1 w ρ' N1 w')(e:∀j g,slot M1 j g=slot M j g)(e':∀j g,slot N j g=slot N1 j g):Ext ρ M w ρ' N w':=
 ⟨h.env,h.size,fun b hb hn=>h.frame b hb fun i g x q h1 h2=>hn i g x q (by rw[←e];exact h1) h2,fun i g x q h1 h2 hb=>by
  obtain⟨a,b,c,d,k1,k2,k3⟩:=h.fresh i g x q (by rw[←e'];exact h1) h2 hb
  exact⟨a,b,c,d,by rw[←e];exact k1,k2,k3⟩,h.os,h.tape,h.output⟩
section
variable{P:Program}{T:List TI}{ρ:Env}{M:AH}{w:World}
theorem Bx (hs:aU ρ M w){t tx ty e:TypeId}{ie:TypeInfo}{z:Value}(ht:P.underlying t=some (.slice e))(hi:P.info? e=some ie)(hz:ie.zero=some z)(fe:z.cells.size=ie.size)
 {x:Value}{m:Nat}{news:List Value}(eC:Src P ie.size tx x m news w){i n c co:Nat}{f:Nat→af}(hm:M[i]?=some (.bG true 1 f))(Ti:(f 0).size=co*ie.size)(hn:n≤co)(vx:c≤co)(Tj:(f 0).bP→co=0)
 (hb:(n+m)*ie.bytes≤140737488355328)(RG:((n+m:Nat):Int)≤9223372036854775807)
 (xc:Nat→af)(eJ:∀c,(xc c).size=c*ie.size)(fH:∀c k v,(xc c).at k=some v→(k<n*ie.size∧(f 0).at k=some v)∨(n*ie.size≤k∧v.ok ρ∧news[k-n*ie.size]?=some (v.c ρ)))
 (hv:n=0→m=0→(xc 0).bP)(rh:∀c,(xc c).row=true)(QL:(f 0).row=true):
 (n+m≤c∧∃w',(Builtin.append_ #[t,tx] ty #[(AV.sl i 0 0 n c).c ρ,x]).run P w=.ok ((AV.sl i 0 0 (n+m) c).c ρ) w'∧aU ρ (M.set i (.bG true 1 (fun _=>xc co))) w'∧Ext ρ M w ρ (M.set i (.bG true 1 (fun _=>xc co))) w')∨
 (c<n+m∧∃c',n+m≤c'∧∃ρ' w',(Builtin.append_ #[t,tx] ty #[(AV.sl i 0 0 n c).c ρ,x]).run P w=.ok ((AV.sl M.length 0 0 (n+m) c').c ρ') w'∧(AV.sl M.length 0 0 (n+m) c').ok ρ'∧
  aU ρ' (M++[.one true 0 (xc c')]) w'∧Ext ρ M w ρ' (M++[.one true 0 (xc c')]) w'):=by
 have a9:i<M.length:=(List.getElem?_eq_some_iff.1 hm).1
 have WZ:slot M i 0=some (true,f 0):=by unfold slot;rw[hm];rfl
 have grow:∀(base:Option Addr)(og:List Value),(AV.sl i 0 0 n c).c ρ=.slice base n c→c<n+m→og.length=n*ie.size→(Builtin.firstCells ie.size n (.slice base n c)).run P w.drew=.ok og.toArray w.drew→
  (∀k v,(f 0).at k=some v→k<n*ie.size→v.ok ρ∧og[k]?=some (v.c ρ))→
  ∃c',n+m≤c'∧∃ρ' w',(Builtin.append_ #[t,tx] ty #[(AV.sl i 0 0 n c).c ρ,x]).run P w=.ok ((AV.sl M.length 0 0 (n+m) c').c ρ') w'∧(AV.sl M.length 0 0 (n+m) c').ok ρ'∧
  aU ρ' (M++[.one true 0 (xc c')]) w'∧Ext ρ M w ρ' (M++[.one true 0 (xc c')]) w':=by
  intro base og jb CI BO hold Q4
  have aS:=run_append_grow_src (P:=P) w t tx ty e ie z ht hi hz base n c og hold x m news eC CI RG (growslice_fits CI hb)
  have hc:=grownCap_ge w (n+m) c e
  have hlen:(og++news).length=(n+m)*ie.size:=by rw[List.length_append,BO,eC.newsLen,Nat.add_mul]
  obtain⟨h1,h2⟩:=ep (x:=xc (grownCap w (n+m) c e)) (w1:=w.drew) (c:=(og++news).toArray++Builtin.zeroCells z.cells (grownCap w (n+m) c e-(n+m))) (e:=e) hs rfl rfl rfl rfl
   (by rw[eJ];exact mS fe hlen hc) (fun k v hv=>by
    rcases fH _ k v hv with⟨a,b⟩|⟨a,b,c⟩
    ·obtain⟨h1,h2⟩:=Q4 k v b a
     exact⟨h1,nZ (by rw[List.getElem?_append_left (by rw[BO];exact a)];exact h2)⟩
    ·exact⟨b,nZ (by rw[List.getElem?_append_right (by rw[BO];exact a),BO];exact c)⟩) (rh _)
  exact⟨_,hc,_,_,by rw[jb,dG.1];exact aS,dG.2,h1,h2⟩
 have gJ:=Il hs hm
 have Q7:(M.set i (.one true 0 (f 0)))[i]?=some (.one true 0 (f 0)):=List.getElem?_set_self a9
 have back:∀{w'},aU ρ ((M.set i (.one true 0 (f 0))).set i (.one true 0 (xc co))) w'→Ext ρ (M.set i (.one true 0 (f 0))) w ρ ((M.set i (.one true 0 (f 0))).set i (.one true 0 (xc co))) w'→
  aU ρ (M.set i (.bG true 1 (fun _=>xc co))) w'∧Ext ρ M w ρ (M.set i (.bG true 1 (fun _=>xc co))) w':=by
  intro w' a b
  rw[List.set_set]at a b
  have hq:(M.set i (AO.one true 0 (xc co)))[i]?=some (.one true 0 (xc co)):=List.getElem?_set_self a9
  have c:=zZ a hq
  have d:=qE hq
  rw[List.set_set]at c d
  exact⟨c,A8 b (wx hm) d⟩
 rcases hs.holds i 0 true (f 0) WZ with⟨q,hq,hh⟩|⟨hq,QS⟩
 ·obtain⟨cur,e',fr,h1,h2,h3,h4⟩:=hh.out QL
  obtain rfl:=h4 rfl
  have jb:(AV.sl i 0 0 n c).c ρ=.slice (some ⟨q.1,q.2,none⟩) n c:=by simp[AV.c,hq]
  rw[Ti]at h2
  have Xn:n*ie.size≤co*ie.size:=Nat.mul_le_mul_right _ hn
  by_cases uE:n+m≤c
  ·left
   have XP:(n+m)*ie.size≤co*ie.size:=Nat.mul_le_mul_right _ (by omega)
   have XO:c*ie.size≤co*ie.size:=Nat.mul_le_mul_right _ vx
   rw[Nat.add_mul]at XP
   have fS:q.2+n*ie.size+news.length≤cur.size:=by rw[eC.newsLen];omega
   have aS:=ov (ty:=ty) ht hi eC uE (off:=q.2) h1 fS
   have hl:(cur.toList.take (q.2+n*ie.size)++news++cur.toList.drop (q.2+n*ie.size+news.length)).toArray.size=cur.size:=by
    simp only[List.size_toArray,List.length_append,List.length_take,List.length_drop,Array.length_toList];omega
   obtain⟨g1,g2⟩:=kZ (i:=i) (g:=0) (x':=xc co) (ρ':=ρ) (M':=(M.set i (.one true 0 (f 0))).set i (.one true 0 (xc co))) (w':=w.setRow q.1 (cur.toList.take (q.2+n*ie.size)++news++cur.toList.drop (q.2+n*ie.size+news.length)).toArray) gJ
    (by simp) (fun i' eU=>by rw[List.getElem?_set_ne (Ne.symm eU)]) (by simp[a9]) (fun _ _ _ h=>h) (fun _ _ h=>.inl h) (fun g' hg=>gJ.tag i g' true 0 _ Q7 hg)
    (fun b _ hb=>jV _ _ _ _ (fun e=>hb 0 _ q (ak Q7) hq e.symm)) (Nat.le_of_eq (k6 _ _ _).symm) rfl rfl rfl (.inl ⟨q,hq,.mk' (rh _) ⟨_,e',(0,0),k7 _ _ _ _ _ _ h1,by rw[hl,eJ];omega,fun k v hv=>by
     have key:v.ok ρ∧((cur.toList.take (q.2+n*ie.size)++news++cur.toList.drop (q.2+n*ie.size+news.length)).toArray)[q.2+k]?=some (v.c ρ):=by
      rw[yi _ _ _ fS]
      rcases fH _ k v hv with⟨a,b⟩|⟨a,b,c⟩
      ·rw[if_neg (by omega)];exact h3 k v b
      ·have:=(List.getElem?_eq_some_iff.1 c).1
       rw[if_pos (by omega),show q.2+k-(q.2+n*ie.size)=k-n*ie.size from by omega]
       exact⟨b,c⟩
     exact key,fun _=>rfl⟩,.inr ⟨0,_,q,ak Q7,hq,rfl⟩⟩)
   obtain⟨b1,b2⟩:=back g1 g2
   exact⟨uE,_,by rw[jb,aS];simp[AV.c,hq],b1,b2⟩
  ·right
   refine⟨by omega,grow _ ((cur.toList.drop q.2).take (n*ie.size)) jb (by omega) (by simp;omega) ?_ ?_⟩
   ·refine run_firstCells_some w.drew ie.size n ⟨q.1,q.2,none⟩ n c _ (by simp;omega) fun j v hv=>?_
    simp only[List.getElem?_take,List.getElem?_drop]at hv
    split at hv
    ·rw[cf,World.cell?_drew,cell_of_row w q.1 (q.2+j) cur e' (0,0) h1]
     simpa using hv
    ·cases hv
   ·intro k v hv hk
    obtain⟨a,b⟩:=h3 k v hv
    exact⟨a,by simp only[List.getElem?_take,List.getElem?_drop,if_pos hk];simpa using b⟩
 ·have h0:=Tj QS
  have TJ:n=0:=by omega
  have r7:c=0:=by omega
  subst TJ;subst r7
  have jb:(AV.sl i 0 0 0 0).c ρ=.slice none 0 0:=by simp[AV.c,hq]
  by_cases JC:m=0
  ·subst JC
   subst h0
   left
   obtain⟨g1,g2⟩:=kZ (i:=i) (g:=0) (x':=xc 0) (ρ':=ρ) (M':=(M.set i (.one true 0 (f 0))).set i (.one true 0 (xc 0))) (w':=w) gJ
    (by simp) (fun i' eU=>by rw[List.getElem?_set_ne (Ne.symm eU)]) (by simp[a9]) (fun _ _ _ h=>h) (fun _ _ h=>.inl h) (fun g' hg=>gJ.tag i g' true 0 _ Q7 hg)
    (fun b _ _=>rfl) (Nat.le_refl _) rfl rfl rfl (.inr ⟨hq,hv rfl rfl⟩)
   obtain⟨b1,b2⟩:=back g1 g2
   exact⟨Nat.le_refl _,w,by rw[jb,gP ht hi eC],b1,b2⟩
  ·right
   exact⟨by omega,grow none [] jb (by omega) (by simp) (by simp[Builtin.firstCells]) (fun k v _ hk=>by simp at hk)⟩
end
def nA (x:AV)(k:TK):Bool:=
 match x,k with
 | .str _,.str=>true
 | .str _,_=>false
 |_,.slice _=>true
 |_,_=>false
theorem zU {s:ByteArray}{k:TK}(h:nA (.str s) k=true):k=.str:=by
 cases k<;>simp_all[nA]
theorem jU {x:AV}{k:TK}(h:nA x k=true)(hx:∀s,x≠ .str s):∃e,k=.slice e:=by
 cases x<;>cases k<;>simp_all[nA]
def nB (M:AH)(k:IntKind)(x:AV)(K:List Int→Nat→Prop):Prop:=
 match x with
 | .ns=>K [] 0
 | .sl i g off n c=>fx M i g fun _ x=>match x with
   | .ints k' xs _=>cE k k' (off+n≤xs.length∧∀ys,ys=(xs.drop off).take n→K ys n)
   |_=>False
 | .str s=>match k with
   | .u8=>K (s.data.toList.map fun b=>(b.toNat:Int)) s.size
   |_=>False
 |_=>False
def pV (M:AH)(x:AV)(K:List Bool→Nat→Prop):Prop:=
 match x with
 | .ns=>K [] 0
 | .sl i g off n c=>fx M i g fun _ x=>match x with
   | .bV xs _=>off+n≤xs.length∧∀ys,ys=(xs.drop off).take n→K ys n
   |_=>False
 |_=>False
def x5 (M:AH)(sz:Nat)(x:AV)(K:(Nat→List AV)→Nat→Prop):Prop:=
 match x with
 | .ns=>K (fun _=>[]) 0
 | .sl i g off n c=>fx M i g fun _ x=>match x with
   | .cJ BZ m get _=>bu (Nat.beq sz BZ) (off=0∧n≤m∧(∀q,q<n→(get q).length=sz∧(get q).all AV.one=true)∧K get n)
   | .cells cs=>bu (Nat.beq sz 1) (off+n≤cs.length∧((cs.drop off).take n).all AV.one=true∧K (fun q=>(cs[off+q]?).toList) n)
   |_=>False
 |_=>False
section
variable{P:Program}{ρ:Env}{M:AH}{w:World}
theorem xj (k:IntKind)(xs:List Int)(ρ:Env):(AV.cl ρ (xs.map (AV.int k)))=xs.map (Value.int k):=by
 simp[AV.aY,Function.comp_def,AV.c]
theorem nz (hs:aU ρ M w){tx e':Nat}(hk:P.underlying tx=some (.slice e')){sz:Nat}{i g off n c:Nat}{own:Bool}{x:af}(cV:slot M i g=some (own,x))(hv:x.bP→n=0)
 {l:List AV}(hl:l.length=n*sz)(gE:l.all AV.one=true)(fH:∀k v,l[k]?=some v→∃u,x.at (off+k)=some u∧u.c ρ=v.c ρ):Src P sz tx ((AV.sl i g off n c).c ρ) n (AV.cl ρ l) w:=by
 have TA:∀u∈AV.cl ρ l,u.oneCell'=true:=fun u hu=>by
  rw[AV.aY,List.mem_map]at hu
  obtain⟨v,hv,rfl⟩:=hu
  exact AV.On ρ (List.all_eq_true.1 gE v hv)
 rcases hs.holds i g own x cV with⟨q,hq,hh⟩|⟨hq,QS⟩
 ·have:(AV.sl i g off n c).c ρ=.slice (some ⟨q.1,q.2+off,none⟩) n c:=by simp[AV.c,hq]
  rw[this]
  refine Src.ofSlice w hk _ n c _ (by rw[AV.aY,List.length_map,hl]) (fun j u hu=>?_) TA
  rw[AV.aY,List.getElem?_map,Option.map_eq_some_iff]at hu
  obtain⟨v,qw,rfl⟩:=hu
  obtain⟨u,h1,h2⟩:=fH j v qw
  rw[cf,Nat.add_assoc,←h2]
  exact(hh.cell h1).2
 ·have h0:=hv QS
  subst h0
  have:(AV.sl i g off 0 c).c ρ=.slice none 0 c:=by simp[AV.c,hq]
  rw[this]
  have Re:l=[]:=List.eq_nil_of_length_eq_zero (by simpa using hl)
  subst Re
  exact Src.ofNil w hk c
theorem fZ {T:List TI}(hT:aq P T)(hs:aU ρ M w){k:IntKind}{x:AV}{tx:Nat}{ti:TI}(ht:T[tx]?=some ti)(JG:nA x ti.k=true){K:List Int→Nat→Prop}
 (h:nB M k x K):∃ys m,ys.length=m∧K ys m∧Src P 1 tx (x.c ρ) m (ys.map (Value.int k)) w:=by
 obtain⟨d,hd,eO⟩:=hT.fY ht
 unfold nB at h
 split at h
 ·obtain⟨e,he⟩:=jU JG (by simp)
  rw[he]at eO
  obtain rfl:=aM eO
  exact⟨[],0,rfl,h,Src.ofNil w hd 0⟩
 ·rename_i i g off n c
  obtain⟨e,he⟩:=jU JG (by simp)
  rw[he]at eO
  obtain rfl:=aM eO
  replace h:=aV h
  obtain⟨own,x_,cV,h⟩:=h
  split at h
  ·rename_i k' xs co
   replace h:=aZ h
   obtain⟨rfl,hle,h⟩:=h
   have hlen:((xs.drop off).take n).length=n:=by simp;omega
   refine⟨_,n,hlen,h _ rfl,?_⟩
   rw[←xj k _ ρ]
   refine nz hs hd cV (by simp only[af.bP];rintro⟨rfl,_⟩;simp at hle;omega) (by simp;omega) (by rw[List.all_eq_true];intro v hv;obtain⟨z,_,rfl⟩:=List.mem_map.1 hv;rfl) fun j v hv=>?_
   rw[List.getElem?_map,Option.map_eq_some_iff]at hv
   obtain⟨z,hz,rfl⟩:=hv
   simp only[List.getElem?_take,List.getElem?_drop]at hz
   split at hz
   ·exact⟨_,by simp only[af.at,hz];rfl,rfl⟩
   ·cases hz
  ·exact h.elim
 ·rename_i s
  have:=zU JG
  rw[this]at eO
  obtain rfl:=kf eO
  split at h
  ·refine⟨_,s.size,by simp,h,?_⟩
   have:=Src.ofString (P:=P) w hd s
   simpa[byteCells,Function.comp_def,AV.c]using this
  ·exact h.elim
 ·exact h.elim
theorem mr {T:List TI}(hT:aq P T)(hs:aU ρ M w){x:AV}{tx e':Nat}(hd:P.underlying tx=some (.slice e')){K:List Bool→Nat→Prop}
 (h:pV M x K):∃ys m,ys.length=m∧K ys m∧Src P 1 tx (x.c ρ) m (ys.map Value.bool) w:=by
 unfold pV at h
 split at h
 ·exact⟨[],0,rfl,h,Src.ofNil w hd 0⟩
 ·rename_i i g off n c
  replace h:=aV h
  obtain⟨own,x_,cV,h⟩:=h
  split at h
  ·rename_i xs co
   obtain⟨hle,h⟩:=h
   have hlen:((xs.drop off).take n).length=n:=by simp;omega
   refine⟨_,n,hlen,h _ rfl,?_⟩
   have e:((xs.drop off).take n).map Value.bool=AV.cl ρ (((xs.drop off).take n).map AV.bo):=by simp[AV.aY,Function.comp_def,AV.c]
   rw[e]
   refine nz hs hd cV (by simp only[af.bP];rintro⟨rfl,_⟩;simp at hle;omega) (by simp;omega) (by rw[List.all_eq_true];intro v hv;obtain⟨z,_,rfl⟩:=List.mem_map.1 hv;rfl) fun j v hv=>?_
   rw[List.getElem?_map,Option.map_eq_some_iff]at hv
   obtain⟨z,hz,rfl⟩:=hv
   simp only[List.getElem?_take,List.getElem?_drop]at hz
   split at hz
   ·exact⟨_,by simp only[af.at,hz];rfl,rfl⟩
   ·cases hz
  ·exact h.elim
 ·exact h.elim
def mV (get:Nat→List AV)(n:Nat):List AV:=(List.range n).flatMap get
theorem ik {get:Nat→List AV}{sz:Nat}:∀{n:Nat},(∀q,q<n→(get q).length=sz)→(mV get n).length=n*sz
 |0,_=>by simp[mV]
 |n+1,h=>by
  have:=ik (n:=n) fun q hq=>h q (by omega)
  unfold mV at this⊢
  rw[List.range_succ,List.flatMap_append,List.length_append,this,Nat.add_mul]
  simp[h n (by omega)]
theorem kA {get:Nat→List AV}{sz:Nat}(cK:0<sz):∀{n:Nat},(∀q,q<n→(get q).length=sz)→∀k,k<n*sz→(mV get n)[k]?=(get (k/sz))[k%sz]?
 |0,_,k,hk=>by simp at hk
 |n+1,h,k,hk=>by
  have hl:=ik (n:=n) fun q hq=>h q (by omega)
  have ih:=kA cK (n:=n) fun q hq=>h q (by omega)
  have e:mV get (n+1)=mV get n++get n:=by simp[mV,List.range_succ]
  rw[e]
  by_cases mQ:k<n*sz
  ·rw[List.getElem?_append_left (by omega),ih k mQ]
  ·rw[List.getElem?_append_right (by omega),hl]
   have h1:k/sz=n:=by
    rw[Nat.add_mul,Nat.one_mul]at hk
    exact Nat.div_eq_of_lt_le (by omega) (by rw[Nat.add_mul,Nat.one_mul];exact hk)
   have h2:k%sz=k-n*sz:=by
    have:=Nat.div_add_mod k sz
    rw[h1,Nat.mul_comm]at this
    omega
   rw[h1,h2]
theorem pU {T:List TI}(hT:aq P T)(hs:aU ρ M w){sz:Nat}(cK:0<sz){x:AV}{tx e':Nat}(hd:P.underlying tx=some (.slice e')){K:(Nat→List AV)→Nat→Prop}
 (h:x5 M sz x K):∃get m,K get m∧(∀q,q<m→(get q).length=sz)∧Src P sz tx (x.c ρ) m (AV.cl ρ (mV get m)) w∧AV.dK ρ (mV get m):=by
 unfold x5 at h
 split at h
 ·exact⟨_,0,h,fun q hq=>by omega,Src.ofNil w hd 0,trivial⟩
 ·rename_i i g off n c
  replace h:=aV h
  obtain⟨own,x_,cV,h⟩:=h
  have dK:∀(l:List AV),(∀v∈l,∃k,x_.at k=some v)→(x_.bP→l=[])→AV.dK ρ l:=by
   intro l hl hv
   rw[AV.aK]
   intro v WT
   obtain⟨k,hk⟩:=hl v WT
   rcases hs.holds i g own x_ cV with⟨q,hq,hh⟩|⟨hq,QS⟩
   ·exact(hh.cell hk).1
   ·rw[hv QS]at WT;cases WT
  split at h
  ·rename_i BZ m get co
   replace h:=ar h
   obtain⟨hb,rfl,Wa,dJ,h⟩:=h
   have e1:sz=BZ:=Nat.eq_of_beq_eq_true hb
   subst e1
   have hlen:=ik (n:=n) fun q hq=>(dJ q hq).1
   have cq:=kA cK (n:=n) fun q hq=>(dJ q hq).1
   have fH:∀k v,(mV get n)[k]?=some v→(af.cJ sz m get co).at (0+k)=some v:=by
    intro k v hv
    have hk:k<n*sz:=by have:=(List.getElem?_eq_some_iff.1 hv).1;omega
    rw[Nat.zero_add]
    simp only[af.at]
    rw[if_pos (Nat.lt_of_lt_of_le hk (Nat.mul_le_mul_right _ Wa)),←cq k hk];exact hv
   refine⟨get,n,h,fun q hq=>(dJ q hq).1,nz hs hd cV (by simp only[af.bP];rintro⟨rfl,_⟩;omega) hlen ?_ fun k v hv=>⟨v,fH k v hv,rfl⟩,dK _ ?_ ?_⟩
   ·rw[List.all_eq_true]
    intro v hv
    obtain⟨q,hq,hv⟩:=List.mem_flatMap.1 hv
    exact List.all_eq_true.1 (dJ q (List.mem_range.1 hq)).2 v hv
   ·intro v hv
    obtain⟨k,hk⟩:=List.getElem?_of_mem hv
    exact⟨0+k,fH k v hk⟩
   ·rintro⟨h1,_⟩
    apply List.eq_nil_of_length_eq_zero
    rw[hlen,show n=0 by omega,Nat.zero_mul]
  ·rename_i cs
   replace h:=ar h
   obtain⟨hb,hle,gE,h⟩:=h
   have e1:sz=1:=Nat.eq_of_beq_eq_true hb
   subst e1
   have dJ:∀q,q<n→((cs[off+q]?).toList).length=1:=fun q hq=>by
    rw[List.getElem?_eq_getElem (by omega)];rfl
   have hlen:=ik (n:=n) dJ
   have cq:=kA cK (n:=n) dJ
   have fH:∀k v,(mV (fun q=>(cs[off+q]?).toList) n)[k]?=some v→cs[off+k]?=some v∧k<n:=by
    intro k v hv
    have hk:k<n*1:=by have:=(List.getElem?_eq_some_iff.1 hv).1;rw[hlen]at this;exact this
    have Rh:off+k<cs.length:=by omega
    rw[cq k hk]at hv
    simp only[Nat.div_one,Nat.mod_one]at hv
    rw[List.getElem?_eq_getElem Rh]at hv⊢
    exact⟨by simpa using hv,by omega⟩
   refine⟨_,n,h,dJ,nz hs hd cV (fun hv=>hv.elim) hlen ?_ fun k v hv=>⟨v,(fH k v hv).1,rfl⟩,dK _ ?_ (fun hv=>hv.elim)⟩
   ·rw[List.all_eq_true]
    intro v hv
    obtain⟨k,hk⟩:=List.getElem?_of_mem hv
    obtain⟨h1,h2⟩:=fH k v hk
    refine List.all_eq_true.1 gE v (List.mem_of_getElem? (i:=k) ?_)
    simp only[List.getElem?_take,List.getElem?_drop,if_pos h2];exact h1
   ·intro v hv
    obtain⟨k,hk⟩:=List.getElem?_of_mem hv
    exact⟨off+k,(fH k v hk).1⟩
  ·exact h.elim
 ·exact h.elim
end
def zl (T:List TI)(M:AH)(tS tX:Nat)(d x:AV)(K:AV→AH→Prop):Prop:=
 match T[tS]?,T[tX]? with
 |some ⟨.slice el,_,_,_⟩,some tx=>match T[el]? with
  |some te=>bu (nA x tx.k&&Nat.blt 0 te.size&&Nat.beq te.zero.length te.size) (match d with
   | .ns=>match te.size,te.k with
     |1,.int k=>nB M k x fun ys m=>(m≤9223372036854775807∧m*te.bytes≤140737488355328)∧∀c,m≤c→K (.sl M.length 0 0 m c) (M++[.one true 0 (.ints k ys c)])
     |1,.bool=>pV M x fun ys m=>(m≤9223372036854775807∧m*te.bytes≤140737488355328)∧∀c,m≤c→K (.sl M.length 0 0 m c) (M++[.one true 0 (.bV ys c)])
     |s,_=>x5 M s x fun get m=>(m≤9223372036854775807∧m*te.bytes≤140737488355328)∧∃get',(∀q,q<m→get' q=get q)∧∀c,m≤c→K (.sl M.length 0 0 m c) (M++[.one true 0 (.cJ s m get' c)])
   | .sl i g off n c=>match M[i]? with
     |some (.one true g' (.ints k xs co))=>match te.size,te.k with
      |1,.int k'=>(g=g'∧off=0∧n=xs.length∧c≤co∧n≤co)∧cE k k' (nB M k x fun ys m=>(n+m≤9223372036854775807∧(n+m)*te.bytes≤140737488355328)∧∀c,n+m≤c→K (.sl i (g+1) 0 (n+m) c) (M.set i (.one true (g+1) (.ints k (xs++ys) c))))
      |_,_=>False
     |some (.one true g' (.bV xs co))=>match te.size,te.k with
      |1,.bool=>(g=g'∧off=0∧n=xs.length∧c≤co∧n≤co)∧pV M x fun ys m=>(n+m≤9223372036854775807∧(n+m)*te.bytes≤140737488355328)∧∀c,n+m≤c→K (.sl i (g+1) 0 (n+m) c) (M.set i (.one true (g+1) (.bV (xs++ys) c)))
      |_,_=>False
     |some (.one true g' (.cJ sz m0 get co))=>bu (Nat.beq te.size sz) ((g=g'∧off=0∧n=m0∧c≤co∧n≤co)∧x5 M te.size x fun src m=>(n+m≤9223372036854775807∧(n+m)*te.bytes≤140737488355328)∧
      ∃get',(∀q,q<n+m→get' q=if q<n then get q else src (q-n))∧∀c,n+m≤c→K (.sl i (g+1) 0 (n+m) c) (M.set i (.one true (g+1) (.cJ te.size (n+m) get' c))))
     |some (.bG true m1 f)=>bu (Nat.beq m1 1) (match f 0 with
      | .ints k xs co=>match te.size,te.k with
        |1,.int k'=>(g=0∧off=0∧n=xs.length∧c≤co∧n≤co)∧cE k k' (nB M k x fun ys m=>(n+m≤9223372036854775807∧(n+m)*te.bytes≤140737488355328)∧
         (n+m≤c→K (.sl i 0 0 (n+m) c) (M.set i (.bG true 1 (fun _=>.ints k (xs++ys) co))))∧(c<n+m→∀c',n+m≤c'→K (.sl M.length 0 0 (n+m) c') (M++[.one true 0 (.ints k (xs++ys) c')])))
        |_,_=>False
      |_=>False)
     |_=>False
   |_=>False)
  |none=>False
 |_,_=>False
theorem M5 {ρ:Env}{k:IntKind}{xs:List Int}{c j:Nat}{v:AV}(h:(af.ints k xs c).at j=some v):v.ok ρ∧(xs.map (Value.int k))[j]?=some (v.c ρ):=by
 simp only[af.at,Option.map_eq_some_iff]at h
 obtain⟨z,hz,rfl⟩:=h
 exact⟨trivial,by rw[List.getElem?_map,hz];rfl⟩
theorem Km {ρ:Env}{xs:List Bool}{c j:Nat}{v:AV}(h:(af.bV xs c).at j=some v):v.ok ρ∧(xs.map Value.bool)[j]?=some (v.c ρ):=by
 simp only[af.at,Option.map_eq_some_iff]at h
 obtain⟨z,hz,rfl⟩:=h
 exact⟨trivial,by rw[List.getElem?_map,hz];rfl⟩
theorem Eu {k:Nat}{α:Type}{f:α→AV}{g:α→Value}{ρ:Env}(hf:∀a,(f a).c ρ=g a)(aA:∀a,(f a).ok ρ){xs ys:List α}{v:AV}(h:((xs++ys)[k]?).map f=some v):
 (k<xs.length*1∧(xs[k]?).map f=some v)∨(xs.length*1≤k∧v.ok ρ∧(ys.map g)[k-xs.length*1]?=some (v.c ρ)):=by
 rw[Option.map_eq_some_iff]at h
 obtain⟨z,hz,rfl⟩:=h
 by_cases hk:k<xs.length
 ·rw[List.getElem?_append_left hk]at hz
  exact .inl ⟨by omega,by rw[hz];rfl⟩
 ·rw[List.getElem?_append_right (by omega)]at hz
  exact .inr ⟨by omega,aA z,by rw[List.getElem?_map,show k-xs.length*1=k-xs.length from by omega,hz,Option.map_some,hf]⟩
set_option maxHeartbeats 1000000 in
theorem vZ {P:Program}{T:List TI}(hT:aq P T){M:AH}{tS tX ty:Nat}{d x:AV}{K:AV→AH→Prop}{ρ:Env}{w:World}(hs:aU ρ M w)(hd:d.ok ρ)
 (h:zl T M tS tX d x K):∃v M' ρ' w',(Builtin.append_ #[tS,tX] ty #[d.c ρ,x.c ρ]).run P w=.ok (v.c ρ') w'∧K v M'∧v.ok ρ'∧aU ρ' M' w'∧Ext ρ M w ρ' M' w':=by
 unfold zl at h
 split at h
 ·rename_i el s1 s2 s3 tx ht BK
  obtain⟨dS,KS,Xy⟩:=hT.fY ht
  obtain rfl:=aM Xy
  obtain⟨dX,hdX,Zb⟩:=hT.fY BK
  split at h
  ·rename_i te ri
   replace h:=ar h
   obtain⟨hb,h⟩:=h
   simp only[Bool.and_eq_true]at hb
   obtain⟨⟨Si,cK⟩,Fq⟩:=hb
   have cK:0<te.size:=by simpa using cK
   obtain⟨d2,ie,z,e1,e2,e3,rfl⟩:=hT.get ri
   simp only at cK Fq h
   have fe:z.cells.size=ie.size:=by simpa using Nat.eq_of_beq_eq_true Fq
   have VU:(∀s,x≠ .str s)→∃e',P.underlying tX=some (.slice e'):=by
    intro hx
    obtain⟨e',he⟩:=jU Si hx
    rw[he]at Zb
    obtain rfl:=aM Zb
    exact⟨e',hdX⟩
   split at h
   ·
    have dns:(AV.ns).c ρ=.slice none 0 0:=rfl
    rw[dns]
    split at h
    ·rename_i k h1 h2
     obtain⟨ys,m,hlen,⟨⟨b1,b2⟩,hK⟩,eC⟩:=fZ hT hs BK Si h
     rw[←h1]at eC
     obtain⟨c,hc,ρ',w',r1,r2,r3,r4⟩:=pA (ty:=ty) hs KS e2 e3 fe eC b2 (by omega) (fun c=>.ints k ys c) (fun c=>by simp[af.size,h1]) (fun c j v hv=>M5 hv) (fun hm=>⟨List.eq_nil_of_length_eq_zero (by omega),rfl⟩)
     exact⟨_,_,ρ',w',r1,hK c hc,r2,r3,r4⟩
    ·rename_i h1 h2
     have hx:∀s,x≠ .str s:=by rintro s rfl;exact h.elim
     obtain⟨e',Ro⟩:=VU hx
     obtain⟨ys,m,hlen,⟨⟨b1,b2⟩,hK⟩,eC⟩:=mr hT hs Ro h
     rw[←h1]at eC
     obtain⟨c,hc,ρ',w',r1,r2,r3,r4⟩:=pA (ty:=ty) hs KS e2 e3 fe eC b2 (by omega) (fun c=>.bV ys c) (fun c=>by simp[af.size,h1]) (fun c j v hv=>Km hv) (fun hm=>⟨List.eq_nil_of_length_eq_zero (by omega),rfl⟩)
     exact⟨_,_,ρ',w',r1,hK c hc,r2,r3,r4⟩
    ·have hx:∀s,x≠ .str s:=by rintro s rfl;exact h.elim
     obtain⟨e',Ro⟩:=VU hx
     obtain⟨get,m,⟨⟨b1,b2⟩,get',hg,hK⟩,dJ,eC,Q3⟩:=pU hT hs cK Ro h
     obtain⟨c,hc,ρ',w',r1,r2,r3,r4⟩:=pA (ty:=ty) hs KS e2 e3 fe eC b2 (by omega) (fun c=>.cJ ie.size m get' c) (fun c=>rfl) (fun c j v hv=>by
      simp only[af.at]at hv
      split at hv
      ·rename_i hj
       have hq:j/ie.size<m:=(Nat.div_lt_iff_lt_mul cK).2 hj
       rw[hg _ hq,←kA cK dJ j hj]at hv
       exact⟨(AV.aK ρ _).1 Q3 v (List.mem_of_getElem? hv),by rw[AV.aY,List.getElem?_map,hv];rfl⟩
      ·cases hv) (fun hm=>⟨hm,rfl⟩)
     exact⟨_,_,ρ',w',r1,hK c hc,r2,r3,r4⟩
   ·rename_i i g off n c
    split at h
    ·rename_i g' k xs co hm
     split at h
     ·rename_i k' h1 h2
      obtain⟨⟨rfl,rfl,rfl,vx,hn⟩,h⟩:=h
      replace h:=aZ h
      obtain⟨rfl,h⟩:=h
      obtain⟨ys,m,hlen,⟨⟨b1,b2⟩,hK⟩,eC⟩:=fZ hT hs BK Si h
      rw[←h1]at eC
      obtain⟨c',hc,ρ',w',r1,r2,r3,r4⟩:=pz (ty:=ty) hs KS e2 e3 fe eC hm (by simp[af.size,h1]) hn vx (fun hv=>hv.2) b2 (by omega) (fun c=>.ints k (xs++ys) c) (fun c=>by simp[af.size,h1])
       (fun c j v hv=>by rw[h1];exact Eu (f:=AV.int k) (g:=Value.int k) (fun _=>rfl) (fun _=>trivial) hv) (fun a b=>⟨by rw[List.eq_nil_of_length_eq_zero a,List.eq_nil_of_length_eq_zero (hlen.trans b)];rfl,rfl⟩) hd
      exact⟨_,_,ρ',w',r1,hK c' hc,r2,r3,r4⟩
     ·exact h.elim
    ·rename_i g' xs co hm
     split at h
     ·rename_i h1 h2
      obtain⟨⟨rfl,rfl,rfl,vx,hn⟩,h⟩:=h
      have hx:∀s,x≠ .str s:=by rintro s rfl;exact h.elim
      obtain⟨e',Ro⟩:=VU hx
      obtain⟨ys,m,hlen,⟨⟨b1,b2⟩,hK⟩,eC⟩:=mr hT hs Ro h
      rw[←h1]at eC
      obtain⟨c',hc,ρ',w',r1,r2,r3,r4⟩:=pz (ty:=ty) hs KS e2 e3 fe eC hm (by simp[af.size,h1]) hn vx (fun hv=>hv.2) b2 (by omega) (fun c=>.bV (xs++ys) c) (fun c=>by simp[af.size,h1])
       (fun c j v hv=>by rw[h1];exact Eu (f:=AV.bo) (g:=Value.bool) (fun _=>rfl) (fun _=>trivial) hv) (fun a b=>⟨by rw[List.eq_nil_of_length_eq_zero a,List.eq_nil_of_length_eq_zero (hlen.trans b)];rfl,rfl⟩) hd
      exact⟨_,_,ρ',w',r1,hK c' hc,r2,r3,r4⟩
     ·exact h.elim
    ·rename_i g' sz m0 get co hm
     replace h:=ar h
     obtain⟨hb,⟨rfl,rfl,rfl,vx,hn⟩,h⟩:=h
     have e5:ie.size=sz:=Nat.eq_of_beq_eq_true hb
     subst e5
     have hx:∀s,x≠ .str s:=by rintro s rfl;exact h.elim
     obtain⟨e',Ro⟩:=VU hx
     obtain⟨src,m,⟨⟨b1,b2⟩,get',hg,hK⟩,dJ,eC,Q3⟩:=pU hT hs cK Ro h
     obtain⟨c',hc,ρ',w',r1,r2,r3,r4⟩:=pz (ty:=ty) hs KS e2 e3 fe eC hm rfl hn vx (fun hv=>hv.2) b2 (by omega) (fun c=>.cJ ie.size (n+m) get' c) (fun c=>rfl)
      (fun c j v hv=>by
       simp only[af.at]at hv
       split at hv
       ·rename_i hj
        have hq:j/ie.size<n+m:=(Nat.div_lt_iff_lt_mul cK).2 hj
        rw[hg _ hq]at hv
        by_cases TW:j<n*ie.size
        ·refine .inl ⟨TW,?_⟩
         rw[if_pos ((Nat.div_lt_iff_lt_mul cK).2 TW)]at hv
         simp only[af.at,if_pos TW];exact hv
        ·have hle:n*ie.size≤j:=by omega
         have h1:n≤j/ie.size:=(Nat.le_div_iff_mul_le cK).2 hle
         rw[if_neg (by omega)]at hv
         have hd:(j-n*ie.size)/ie.size=j/ie.size-n:=by rw[Nat.mul_comm n];exact Nat.sub_mul_div ..
         have TN:(j-n*ie.size)%ie.size=j%ie.size:=by rw[Nat.mul_comm n];exact Nat.sub_mul_mod (by rw[Nat.mul_comm];exact hle)
         have Zd:j-n*ie.size<m*ie.size:=by rw[Nat.add_mul]at hj;omega
         rw[←hd,←TN,←kA cK dJ _ Zd]at hv
         exact .inr ⟨hle,(AV.aK ρ _).1 Q3 v (List.mem_of_getElem? hv),by rw[AV.aY,List.getElem?_map,hv];rfl⟩
       ·cases hv) (fun a b=>⟨by omega,rfl⟩) hd
     exact⟨_,_,ρ',w',r1,hK c' hc,r2,r3,r4⟩
    ·rename_i m1 f hm
     replace h:=ar h
     obtain⟨vy,h⟩:=h
     obtain rfl:m1=1:=Nat.eq_of_beq_eq_true vy
     split at h
     ·rename_i k xs co hf
      split at h
      ·rename_i k' h1 h2
       obtain⟨⟨rfl,rfl,rfl,vx,hn⟩,h⟩:=h
       replace h:=aZ h
       obtain⟨rfl,h⟩:=h
       obtain⟨ys,m,hlen,⟨⟨b1,b2⟩,X0,XZ⟩,eC⟩:=fZ hT hs BK Si h
       rw[←h1]at eC
       rcases Bx (ty:=ty) hs KS e2 e3 fe eC hm (by rw[hf];simp[af.size,h1]) hn vx (fun hv=>by rw[hf]at hv;exact hv.2) b2 (by omega) (fun c=>.ints k (xs++ys) c) (fun c=>by simp[af.size,h1])
        (fun c j v hv=>by rw[h1,hf];exact Eu (f:=AV.int k) (g:=Value.int k) (fun _=>rfl) (fun _=>trivial) hv) (fun a b=>⟨by rw[List.eq_nil_of_length_eq_zero a,List.eq_nil_of_length_eq_zero (hlen.trans b)];rfl,rfl⟩) (fun _=>rfl) (by rw[hf];rfl)with⟨hc,w',r1,r3,r4⟩|⟨hc,c',r8,ρ',w',r1,r2,r3,r4⟩
       ·exact⟨_,_,ρ,w',r1,X0 hc,hd,r3,r4⟩
       ·exact⟨_,_,ρ',w',r1,XZ hc c' r8,r2,r3,r4⟩
      ·exact h.elim
     ·exact h.elim
    ·exact h.elim
   ·exact h.elim
  ·exact h.elim
 ·exact h.elim
theorem vA {v:Value}{n j:Nat}(h:j<n):(Builtin.zeroCells #[v] n)[j]?=some v:=by
 have e:(Array.range n)[j]?=some j:=by simp[h]
 simp[Builtin.zeroCells,e,Nat.mod_one]
def Cv (T:List TI)(t:Nat):Bool:=
 match T[t]? with
 |some ⟨.int _,_,_,_⟩=>true
 |_=>false
def vn (T:List TI)(M:AH)(tS:Nat)(d x:AV)(K:AV→AH→Prop):Prop:=
 match T[tS]? with
 |some ⟨.slice el,_,_,_⟩=>match T[el]? with
  |some ⟨.int k,1,b,[.int k' z]⟩=>match d,x with
   | .ns,.int _ n=>cE k k' ((0≤n∧n≤140737488355328∧n.toNat*b≤140737488355328)∧∀c,n.toNat≤c→K (.sl M.length 0 0 n.toNat c) (M++[.one true 0 (.ints k (List.replicate n.toNat z) c)]))
   |_,_=>False
  |_=>False
 |_=>False
theorem qL {P:Program}(w:World)(t tx ty e:TypeId)(i:TypeInfo)(z:Value){kx:IntKind}(ht:P.underlying t=some (.slice e))(hx:P.underlying tx=some (.int kx))(hi:P.info? e=some i)(hz:i.zero=some z){n:Nat}{k:IntKind}
 (hs:i.size=1)(hn:0<n)(RG:((n:Nat):Int)≤140737488355328)(hb:n*i.bytes≤140737488355328):
 (Builtin.append_ #[t,tx] ty #[.slice none 0 0,.int k n]).run P w=
  .ok (.slice (some ⟨w.heap.size,0,none⟩) n (grownCap w n 0 e))
   (w.drew.alloc (.cells (Builtin.zeroCells z.cells n++Builtin.zeroCells z.cells (grownCap w n 0 e-n)) e)):=by
 have hw:IntKind.i64.wrap (n:Int)=n:=by
  rw[IntKind.wrap_i64]
  omega
 have h1:¬((n:Int)<0):=by omega
 have h2:¬(281474976710656<(n:Int)*i.bytes):=by
  have:((n*i.bytes:Nat):Int)≤((140737488355328:Nat):Int):=Int.ofNat_le.2 hb
  rw[Int.natCast_mul]at this
  omega
 have h3:¬(9223372036854775807<(n:Int)):=by omega
 have hf:=growslice_fits (need:=n) (old:=0) (bytes:=i.bytes) (by omega) hb
 have X7:¬(281474976710656<Builtin.nextslicecap n 0*i.bytes):=by omega
 have TJ:¬n=0:=by omega
 simp[Builtin.append_,run_underlying ht,run_underlying hx,sizeOf,typeInfo,zeroValue,hi,hz,asInt,asIntOf,hw,h1,h2,h3,TJ,X7,hs,Question.forced,newRow,grownCap,Builtin.firstCells]
theorem vm {P:Program}{T:List TI}(hT:aq P T){M:AH}{tS tX ty:Nat}{d x:AV}{K:AV→AH→Prop}{ρ:Env}{w:World}(hs:aU ρ M w)(hX:Cv T tX=true)
 (h:vn T M tS d x K):∃v M' ρ' w',(Builtin.append_ #[tS,tX] ty #[d.c ρ,x.c ρ]).run P w=.ok (v.c ρ') w'∧K v M'∧v.ok ρ'∧aU ρ' M' w'∧Ext ρ M w ρ' M' w':=by
 obtain⟨kx,hx⟩:∃kx,P.underlying tX=some (.int kx):=by
  unfold Cv at hX
  split at hX
  ·rename_i h1
   obtain⟨d1,sQ,k1⟩:=hT.fY h1
   obtain rfl:=dQ k1
   exact⟨_,sQ⟩
  ·cases hX
 unfold vn at h
 split at h
 ·rename_i el _ _ _ ht
  obtain⟨dS,KS,Xy⟩:=hT.fY ht
  obtain rfl:=aM Xy
  split at h
  ·rename_i k b k' z ri
   obtain⟨d2,ie,zv,e1,e2,e3,Oz⟩:=hT.get ri
   injection Oz with q1 q2 q3 q4
   split at h
   ·rename_i kk n
    replace h:=aZ h
    obtain⟨rfl,⟨h0,hle,hb⟩,h⟩:=h
    obtain⟨m,rfl⟩:∃m:Nat,n=m:=⟨n.toNat,by omega⟩
    rw[Int.toNat_natCast]at hb h
    have YO:zv.cells=#[.int k z]:=by
     have:=congrArg (fun l=>l.map (AV.c ρ)) q4
     simp only[List.map_map,List.map_cons,List.map_nil,AV.c]at this
     have e:(AV.c ρ∘GH)=id:=by funext v;exact qe ρ v
     rw[e,List.map_id]at this
     apply Array.toList_inj.1
     rw[←this]
    by_cases hm:m=0
    ·subst hm
     obtain⟨g1,g2⟩:=gh (x:=.ints k [] 0) (l:=none) (w':=w) hs (fun _ _=>rfl) (Nat.le_refl _) rfl rfl rfl (.inr ⟨rfl,rfl,rfl⟩)
     refine⟨_,_,_,w,?_,h 0 (Nat.le_refl _),by simp[AV.ok,au],g1,g2⟩
     have hw:IntKind.i64.wrap 0=0:=by decide
     simp[Builtin.append_,run_underlying KS,run_underlying hx,sizeOf,typeInfo,e2,asInt,asIntOf,hw,AV.c,au]
    ·have aS:=qL (P:=P) w tS tX ty el ie zv (k:=kk) KS hx e2 e3 (n:=m) q2.symm (by omega) hle (by rw[←q3];exact hb)
     have hc:=grownCap_ge w m 0 el
     have XG:∀n,(Builtin.zeroCells #[Value.int k z] n).size=n:=fun n=>by rw[size_zeroCells];simp
     obtain⟨g1,g2⟩:=ep (x:=.ints k (List.replicate m z) (grownCap w m 0 el)) (w1:=w.drew) (c:=Builtin.zeroCells zv.cells m++Builtin.zeroCells zv.cells (grownCap w m 0 el-m)) (e:=el) hs rfl rfl rfl rfl
      (by rw[YO,Array.size_append,XG,XG];show grownCap w m 0 el≤_;omega) (fun j v hv=>by
       simp only[af.at,Option.map_eq_some_iff]at hv
       obtain⟨u,hu,rfl⟩:=hv
       have hj:=(List.getElem?_eq_some_iff.1 hu).1
       rw[List.length_replicate]at hj
       rw[List.getElem?_replicate,if_pos hj]at hu
       injection hu with hu;subst hu
       refine⟨trivial,?_⟩
       rw[YO,Array.getElem?_append_left (by rw[XG];exact hj)]
       exact vA hj)
     exact⟨_,_,_,_,by rw[show(AV.int kk (m:Int)).c ρ=.int kk m from rfl,show(AV.ns).c ρ=.slice none 0 0 from rfl,aS];simp[AV.c,au],h _ hc,by simp[AV.ok,au],g1,g2⟩
   ·exact h.elim
  ·exact h.elim
 ·exact h.elim
end Go.Proofs.Ytibadaomjlkoaaa
open Go.RowKit
namespace Go.Proofs.Ytibadaomjlkoaaa
def nh (ns:List Int):ByteArray:=ns.foldl (fun r n=>r.push (UInt8.ofNat n.toNat)) ByteArray.empty
def oR (T:List TI)(M:AH)(src dst:Nat)(x:AV)(K:AV→Prop):Prop:=
 match T[src]?,T[dst]? with
 |some ⟨.slice e,_,_,_⟩,some ⟨.str,_,_,_⟩=>match T[e]? with
  |some ⟨.int .u8,_,_,_⟩=>match x with
   | .ns=>K (.str ByteArray.empty)
   | .sl i g off n c=>fx M i g fun _ y=>match y with
     | .ints k xs _=>cE .u8 k (off+n≤xs.length∧∀ys,ys=(xs.drop off).take n→K (.str (nh ys)))
     |_=>False
   |_=>False
  |_=>False
 |_,_=>False
theorem kV {P:Program}{T:List TI}(hT:aq P T){M:AH}{src dst:Nat}{x:AV}{K:AV→Prop}{ρ:Env}(hk:jR ρ M)(h:oR T M src dst x K):
 ∃v,K v∧v.ok ρ∧x.ok ρ∧∀w,eZ ρ M x.id w→(convert src dst (x.c ρ)).run P w=.ok (v.c ρ) w:=by
 unfold oR at h
 split at h
 ·rename_i e _ _ _ _ _ _ h1 h2
  split at h
  ·rename_i _ _ _ h3
   obtain⟨d1,sQ,k1⟩:=hT.fY h1
   obtain⟨d2,CL,k2⟩:=hT.fY h2
   obtain⟨d3,NA,k3⟩:=hT.fY h3
   obtain rfl:=aM k1
   obtain rfl:=kf k2
   obtain rfl:=dQ k3
   split at h
   ·exact⟨_,h,trivial,trivial,fun w _=>by
     simp only[AV.c]
     rw[run_convert_bytes_string w src dst e none 0 0 sQ NA CL]
     rfl⟩
   ·rename_i i g off n c
    obtain⟨own,y,cV,h⟩:=aV h
    split at h
    ·rename_i k xs co
     obtain⟨rfl,hle,h⟩:=aZ h
     have hlen:((xs.drop off).take n).length=n:=by simp;omega
     refine⟨_,h _ rfl,trivial,?_,fun w hw=>?_⟩
     ·rcases hk i g own _ cV with⟨q,hq⟩|⟨hq,_⟩<;>simp[AV.ok,hq]
     ·rcases hk i g own _ cV with⟨q,hq⟩|⟨hq,hv⟩
      ·have hh:=hw g own _ q cV hq
       have:(AV.sl i g off n c).c ρ=.slice (some ⟨q.1,q.2+off,none⟩) n c:=by simp[AV.c,hq]
       rw[this,run_convert_bytes_string w src dst e _ n c sQ NA CL]
       refine run_bytesToString w _ n c _ ?_
       have hl:=run_loadCells_list (P:=P) w ⟨q.1,q.2+off,none⟩ (((xs.drop off).take n).map (Value.int .u8)) fun j v hv=>by
        rw[List.getElem?_map,Option.map_eq_some_iff]at hv
        obtain⟨z,hz,rfl⟩:=hv
        simp only[List.getElem?_take,List.getElem?_drop]at hz
        split at hz
        ·have:=(hh.cell (k:=off+j) (v:=.int .u8 z) (by simp only[af.at,hz];rfl)).2
         rw[cf,Nat.add_assoc]
         exact this
        ·cases hz
       rw[List.length_map,hlen]at hl
       exact hl
      ·have h0:n=0:=by
        simp only[af.bP]at hv
        obtain⟨rfl,_⟩:=hv
        simp at hle
        omega
       subst h0
       have:(AV.sl i g off 0 c).c ρ=.slice none 0 c:=by simp[AV.c,hq]
       rw[this,run_convert_bytes_string w src dst e none 0 c sQ NA CL]
       simp[AV.c,nh,Conv.bytesToString]
    ·exact h.elim
   ·exact h.elim
  ·exact h.elim
 ·exact h.elim
end Go.Proofs.Ytibadaomjlkoaaa
open Go.RowKit
namespace Go.Proofs.Ytibadaomjlkoaaa
theorem Ij {ρ:Env}{M:AH}{w w':World}{x:af}{b base:Nat}(h:aU ρ M w)
 (hw:∀b,b<w.heap.size→w'.heap[b]?=w.heap[b]?)(eJ:w.heap.size≤w'.heap.size)(CG:w'.os=w.os)(ja:w'.tape=w.tape)(pf:w'.output=w.output)
 (hb:w.heap.size≤b)(hx:bO (j8 ρ M.length 0 (some (b,base))) false x b base w'):
 aU (j8 ρ M.length 0 (some (b,base))) (M++[.one false 0 x]) w'∧Ext ρ M w (j8 ρ M.length 0 (some (b,base))) (M++[.one false 0 x]) w':=by
 have jM:∀g,(ρ M.length g).isSome=false:=fun g=>by
  cases hh:(ρ M.length g).isSome with
  |false=>rfl
  |true=>exact absurd (h.n8 _ _ hh) (Nat.lt_irrefl _)
 have jZ:=dx (l:=some (b,base)) (jM 0)
 have gJ:∀j g,j<M.length→slot (M++[AO.one false 0 x]) j g=slot M j g:=by
  intro j g hj;unfold slot;rw[List.getElem?_append_left hj]
 have om:∀g own y,slot (M++[AO.one false 0 x]) M.length g=some (own,y)→g=0∧own=false∧y=x:=by
  intro g own y hs
  unfold slot at hs
  rw[List.getElem?_append_right (Nat.le_refl _),Nat.sub_self]at hs
  simp only[List.getElem?_cons_zero,bc]at hs
  split at hs
  ·injection hs with hs;injection hs with a b;exact⟨‹_›,a.symm,b.symm⟩
  ·cases hs
 have a9:∀{j g own y},slot (M++[AO.one false 0 x]) j g=some (own,y)→j<M.length∨j=M.length:=by
  intro j g own y hs
  unfold slot at hs
  cases ho:(M++[AO.one false 0 x])[j]? with
  |none=>rw[ho]at hs;cases hs
  |some o=>
   have:=(List.getElem?_eq_some_iff.1 ho).1
   simp at this
   omega
 have cq:∀{j g:Nat},j<M.length→j8 ρ M.length 0 (some (b,base)) j g=ρ j g:=by
  intro j g hj;unfold j8;rw[if_neg (by omega)]
 have hold:∀{j g own y q},slot M j g=some (own,y)→ρ j g=some (some q)→bO ρ own y q.1 q.2 w:=by
  intro j g own y q hs hq
  rcases h.holds j g own y hs with⟨q',e1,e2⟩|⟨e1,_⟩
  ·rw[hq]at e1;injection e1 with e1;injection e1 with e1;subst e1;exact e2
  ·rw[hq]at e1;cases e1
 refine⟨⟨?_,?_,?_,?_,?_⟩,⟨jZ,eJ,fun b hb _=>hw b hb,?_,CG,ja,pf⟩⟩
 ·intro j g hj
  rcases dM j g hj with h1|⟨rfl,_⟩
  ·have:=h.n8 j g h1;simp;omega
  ·simp
 ·intro j g own g' y hm hj
  by_cases AY:j<M.length
  ·rw[List.getElem?_append_left AY]at hm
   rw[cq AY]at hj
   exact h.tag j g own g' y hm hj
  ·rcases dM j g hj with h1|⟨rfl,rfl⟩
   ·exact absurd (h.n8 j g h1) AY
   ·exact Nat.zero_le _
 ·intro j g own m y hm hj
  by_cases AY:j<M.length
  ·rw[List.getElem?_append_left AY]at hm
   rw[cq AY]at hj
   exact h.bG j g own m y hm hj
  ·rcases dM j g hj with h1|⟨rfl,rfl⟩
   ·exact absurd (h.n8 j g h1) AY
   ·rw[List.getElem?_append_right (Nat.le_refl _),Nat.sub_self]at hm;cases hm
 ·intro j g own y hs
  rcases a9 hs with hj|rfl
  ·rw[gJ j g hj]at hs
   rw[cq hj]
   rcases h.holds j g own y hs with⟨q,h1,h2⟩|h1
   ·exact .inl ⟨q,h1,h2.ext jZ (hw _ h2.lt)⟩
   ·exact .inr h1
  ·obtain⟨rfl,rfl,rfl⟩:=om _ _ _ hs
   exact .inl ⟨(b,base),au _ _ _ _,hx⟩
 ·intro j g y j' g' bt y' q q' h1 h2 e1 e2 he
  rcases a9 h1 with hj|rfl
  ·rw[gJ j g hj]at h1
   rw[cq hj]at e1
   have l1:=(hold h1 e1).lt
   rcases a9 h2 with rZ|rfl
   ·rw[gJ j' g' rZ]at h2
    rw[cq rZ]at e2
    exact h.apart j g y j' g' bt y' q q' h1 h2 e1 e2 he
   ·obtain⟨rfl,rfl,rfl⟩:=om _ _ _ h2
    rw[au]at e2
    injection e2 with e2;injection e2 with e2;subst e2
    simp only at he
    omega
  ·obtain⟨_,e,_⟩:=om _ _ _ h1
   cases e
 ·intro j g y q hs hq hbq
  rcases a9 hs with hj|rfl
  ·rw[gJ j g hj]at hs
   rw[cq hj]at hq
   exact⟨j,g,y,q,hs,hq,rfl⟩
  ·obtain⟨_,e,_⟩:=om _ _ _ hs
   cases e
def Jk (T:List TI)(src dst:Nat):Bool:=
 match T[src]?,T[dst]? with
 |some ⟨.str,_,_,_⟩,some ⟨.slice _,_,_,_⟩=>true
 |_,_=>false
def xX (s:ByteArray):List Int:=s.data.toList.map fun b=>(b.toNat:Int)
def C7 (T:List TI)(M:AH)(src dst:Nat)(s:ByteArray)(K:AV→AH→Prop):Prop:=
 match T[src]?,T[dst]? with
 |some ⟨.str,_,_,_⟩,some ⟨.slice e,_,_,_⟩=>match T[e]? with
  |some ⟨.int .u8,_,_,_⟩=>∀c,s.size≤c→K (.sl M.length 0 0 s.size c) (M++[.one false 0 (.ints .u8 (xX s) c)])
  |_=>False
 |_,_=>False
theorem zc {P:Program}{T:List TI}(hT:aq P T){M:AH}{src dst:Nat}{s:ByteArray}{K:AV→AH→Prop}{ρ:Env}{w:World}(hs:aU ρ M w)(h:C7 T M src dst s K):
 ∃v M' ρ' w',(convert src dst (.string s)).run P w=.ok (v.c ρ') w'∧K v M'∧v.ok ρ'∧aU ρ' M' w'∧Ext ρ M w ρ' M' w':=by
 unfold C7 at h
 split at h
 ·rename_i _ _ _ e _ _ _ h1 h2
  split at h
  ·rename_i h3
   obtain⟨d1,sQ,k1⟩:=hT.fY h1
   obtain⟨d2,CL,k2⟩:=hT.fY h2
   obtain⟨d3,NA,k3⟩:=hT.fY h3
   obtain rfl:=kf k1
   obtain rfl:=aM k2
   obtain rfl:=dQ k3
   have aS:=run_bytes_of_string (P:=P) w src dst _ s sQ CL NA
   generalize hc:grownCap w s.size 0 e=c at aS
   have JK:s.size≤c:=by rw[←hc];exact grownCap_ge w s.size 0 e
   have Fu:(bytesRow s c).size=s.size+(c-s.size):=by simp[bytesRow]
   obtain⟨g1,g2⟩:=Ij (x:=.ints .u8 (xX s) c) (b:=w.heap.size) (base:=0) (w':=w.drew.alloc (.cells (bytesRow s c) e ((bytesRow s c).size,(bytesRow s c).size+1))) hs
    (fun b hb=>Below.heap_alloc w.drew _ b hb) (by simp) rfl rfl rfl (Nat.le_refl _) (.mk' rfl ⟨_,_,_,heap_alloc_new w.drew _,by rw[Fu];simp[af.size];omega,fun k v hv=>by
     simp only[af.at,xX,Option.map_eq_some_iff,List.getElem?_map]at hv
     obtain⟨z,⟨y,hy,rfl⟩,rfl⟩:=hv
     have hk:=(List.getElem?_eq_some_iff.1 hy).1
     rw[Array.length_toList]at hk
     refine⟨trivial,?_⟩
     rw[Nat.zero_add,bytesRow_at s c k hk]
     rw[Array.getElem?_toList,Array.getElem?_eq_getElem hk]at hy
     injection hy with hy
     rw[hy];rfl,fun h=>by cases h⟩)
   exact⟨_,_,_,_,by rw[aS];simp[AV.c,au],h c JK,by simp[AV.ok,au],g1,g2⟩
  ·exact h.elim
 ·exact h.elim
theorem B5 {ρ:Env}{M:AH}{w w':World}{i g:Nat}{x:af}{q:Nat×Nat}(h:aU ρ M w)(hm:M[i]?=some (.one true g x))(rh:x.row=true)(hq:ρ i g=some (some q))
 (Jx:∀b,b≠q.1→w'.heap[b]?=w.heap[b]?)(Tr:∀c e fr,w.heap[q.1]?=some (.cells c e fr)→∃Ut,w'.heap[q.1]?=some (.cells c e Ut))(eJ:w.heap.size≤w'.heap.size)(CG:w'.os=w.os)(ja:w'.tape=w.tape)(pf:w'.output=w.output):
 aU ρ (M.set i (.one false g x)) w'∧Ext ρ M w ρ (M.set i (.one false g x)) w':=by
 have a9:i<M.length:=(List.getElem?_eq_some_iff.1 hm).1
 have AW:∀g' own y,slot (M.set i (.one false g x)) i g'=some (own,y)→g'=g∧own=false∧y=x:=by
  intro g' own y hs
  unfold slot at hs
  rw[List.getElem?_set_self a9]at hs
  simp only[bc]at hs
  split at hs
  ·injection hs with hs;injection hs with a b;exact⟨‹_›,a.symm,b.symm⟩
  ·cases hs
 have gJ:∀j g',j≠i→slot (M.set i (.one false g x)) j g'=slot M j g':=by
  intro j g' hj;unfold slot;rw[List.getElem?_set_ne (Ne.symm hj)]
 have CF:∀j g' y,slot (M.set i (.one false g x)) j g'=some (true,y)→j≠i∧slot M j g'=some (true,y):=by
  intro j g' y hs
  by_cases hj:j=i
  ·subst hj;obtain⟨_,e,_⟩:=AW _ _ _ hs;cases e
  ·rw[gJ j g' hj]at hs;exact⟨hj,hs⟩
 refine⟨⟨fun j g' hj=>by rw[List.length_set];exact h.n8 j g' hj,?_,?_,?_,?_⟩,⟨fun _ _ _ e=>e,eJ,?_,?_,CG,ja,pf⟩⟩
 ·intro j g' own g1 y hj hh
  by_cases fR:j=i
  ·subst fR
   rw[List.getElem?_set_self a9]at hj
   injection hj with hj;injection hj with _ e2 _;subst e2
   exact h.tag j g' true g x hm hh
  ·rw[List.getElem?_set_ne (Ne.symm fR)]at hj;exact h.tag j g' own g1 y hj hh
 ·intro j g' own m y hj hh
  by_cases fR:j=i
  ·subst fR;rw[List.getElem?_set_self a9]at hj;cases hj
  ·rw[List.getElem?_set_ne (Ne.symm fR)]at hj;exact h.bG j g' own m y hj hh
 ·intro j g' own y hs
  by_cases fR:j=i
  ·subst fR
   obtain⟨rfl,rfl,rfl⟩:=AW _ _ _ hs
   left
   rcases h.holds j g' true y (ak hm)with⟨q',e1,e2⟩|⟨e1,_⟩
   ·rw[hq]at e1;injection e1 with e1;injection e1 with e1;subst e1
    obtain⟨c,e,fr,k1,k2,k3,k4⟩:=e2.out rh
    obtain⟨Ut,k5⟩:=Tr c e fr k1
    exact⟨q,hq,.mk' rh ⟨c,e,Ut,k5,k2,k3,fun h=>by cases h⟩⟩
   ·rw[hq]at e1;cases e1
  ·rw[gJ j g' fR]at hs
   rcases h.holds j g' own y hs with⟨q',e1,e2⟩|e1
   ·refine .inl ⟨q',e1,e2.ext (fun _ _ _ e=>e) (Jx _ fun e=>fR ?_)⟩
    exact(h.apart i g x j g' own y q q' (ak hm) hs hq e1 e.symm).1.symm
   ·exact .inr e1
 ·intro j g1 y j' g2 bt y' q1 q2 h1 h2 e1 e2 he
  obtain⟨hj,k1⟩:=CF _ _ _ h1
  by_cases rZ:j'=i
  ·subst rZ
   obtain⟨rfl,rfl,rfl⟩:=AW _ _ _ h2
   exact h.apart j g1 y j' g2 true y' q1 q2 k1 (ak hm) e1 e2 he
  ·rw[gJ j' g2 rZ]at h2
   exact h.apart j g1 y j' g2 bt y' q1 q2 k1 h2 e1 e2 he
 ·intro b hb hn
  exact Jx b fun e=>hn i g x q (ak hm) hq e.symm
 ·intro j g1 y q1 hs AX hb
  obtain⟨_,hs⟩:=CF _ _ _ hs
  exact⟨j,g1,y,q1,hs,AX,rfl⟩
theorem qJ {P:Program}{w:World}{t e e':TypeId}{b off n c:Nat}{cur:Array Value}{fr:Nat×Nat}(ht:P.underlying t=some (.slice e))(he:P.underlying e=some (.int .u8))(hb:w.heap[b]?=some (.cells cur e' fr)):
 (convert t t (.slice (some ⟨b,off,none⟩) n c)).run P w=.ok (.slice (some ⟨b,off,none⟩) n c) (w.freeze ⟨b,cur.size,none⟩ 1):=by
 have HL:w.shape? b=some (e',cur.size):=by unfold World.shape?;rw[hb]
 simp[convert,run_underlying ht,run_underlying he,markStringish,HL]
theorem yT {w:World}{b k:Nat}{a:Nat}(h:a≠b):(w.freeze ⟨b,k,none⟩ 1).heap[a]?=w.heap[a]?:=by
 unfold World.freeze
 rw[if_neg (by decide)]
 simp[Array.getElem?_modify,Ne.symm h]
theorem A3 {w:World}{b k:Nat}{c:Array Value}{e:TypeId}{fr:Nat×Nat}(h:w.heap[b]?=some (.cells c e fr)):∃Ut,(w.freeze ⟨b,k,none⟩ 1).heap[b]?=some (.cells c e Ut):=by
 unfold World.freeze
 rw[if_neg (by decide)]
 simp[Array.getElem?_modify,h]
def yc (T:List TI)(M:AH)(src dst:Nat)(i g off n c:Nat)(K:AV→AH→Prop):Prop:=
 bu (Nat.beq src dst) (match T[src]? with
  |some ⟨.slice e,_,_,_⟩=>match T[e]? with
   |some ⟨.int .u8,_,_,_⟩=>match M[i]? with
    |some (.one true g' (.ints k xs co))=>(g=g'∧0<co)∧K (.sl i g off n c) (M.set i (.one false g (.ints k xs co)))
    |_=>False
   |_=>False
  |_=>False)
theorem vH {P:Program}{T:List TI}(hT:aq P T){M:AH}{src dst i g off n c:Nat}{K:AV→AH→Prop}{ρ:Env}{w:World}(hs:aU ρ M w)(h:yc T M src dst i g off n c K):
 ∃v M' ρ' w',(convert src dst ((AV.sl i g off n c).c ρ)).run P w=.ok (v.c ρ') w'∧K v M'∧v.ok ρ'∧aU ρ' M' w'∧Ext ρ M w ρ' M' w':=by
 unfold yc at h
 replace h:=ar h
 obtain⟨hb,h⟩:=h
 obtain rfl:src=dst:=Nat.eq_of_beq_eq_true hb
 split at h
 ·rename_i e _ _ _ h1
  split at h
  ·rename_i h3
   obtain⟨d1,sQ,k1⟩:=hT.fY h1
   obtain⟨d3,NA,k3⟩:=hT.fY h3
   obtain rfl:=aM k1
   obtain rfl:=dQ k3
   split at h
   ·rename_i g' k xs co hm
    obtain⟨⟨rfl,vx⟩,hK⟩:=h
    rcases hs.holds i g true _ (ak hm)with⟨q,hq,hh⟩|⟨_,hv⟩
    ·obtain⟨cur,e',fr,c1,c2,c3,c4⟩:=hh.out rfl
     have hc:(AV.sl i g off n c).c ρ=.slice (some ⟨q.1,q.2+off,none⟩) n c:=by simp[AV.c,hq]
     have aS:=qJ (P:=P) (off:=q.2+off) (n:=n) (c:=c) sQ NA c1
     obtain⟨s1,s2⟩:=B5 (w':=w.freeze ⟨q.1,cur.size,none⟩ 1) hs hm rfl hq (fun b hb=>yT hb) (fun c e fr hc=>A3 hc) (by unfold World.freeze;rw[if_neg (by decide)];simp) (by unfold World.freeze;rw[if_neg (by decide)]) (by unfold World.freeze;rw[if_neg (by decide)]) (by unfold World.freeze;rw[if_neg (by decide)])
     exact⟨_,_,ρ,_,by rw[hc];exact aS,hK,by simp[AV.ok,hq],s1,s2⟩
    ·obtain⟨_,h0⟩:=hv;omega
   ·exact h.elim
  ·exact h.elim
 ·exact h.elim
end Go.Proofs.Ytibadaomjlkoaaa
open Go.RowKit
namespace Go.Proofs.Ytibadaomjlkoaaa
def Kg (T:List TI)(M:AH)(tD tS:Nat)(d x:AV)(K:AV→AH→Prop):Prop:=
 match T[tD]?,T[tS]? with
 |some ⟨.slice e,_,_,_⟩,some ⟨.slice _,_,_,_⟩=>match T[e]? with
  |some ⟨.int k,1,_,_⟩=>match d,x with
   | .sl i g off n c,.sl i2 g2 MO n2 c2=>match M[i]? with
     |some (.one true g' (.ints k1 xs co))=>(g=g'∧off+n≤xs.length∧xs.length≤co)∧cE k k1 (nB M k (.sl i2 g2 MO (min n2 n) c2) fun ys m=>∀zs,zs=xs.take off++ys++xs.drop (off+m)→K (.int .i64 (m:Int)) (M.set i (.one true g (.ints k zs co))))
     |_=>False
   |_,_=>False
  |_=>False
 |_,_=>False
theorem Bh {P:Program}{ρ:Env}{M:AH}{w:World}{T:List TI}(hT:aq P T)(hs:aU ρ M w){tD tS ty:Nat}{d x:AV}{K:AV→AH→Prop}(h:Kg T M tD tS d x K):
 ∃v M' w',(Builtin.copy_ #[tD,tS] ty #[d.c ρ,x.c ρ]).run P w=.ok (v.c ρ) w'∧K v M'∧v.ok ρ∧aU ρ M' w'∧Ext ρ M w ρ M' w':=by
 unfold Kg at h
 split at h
 ·rename_i e _ _ _ e2 _ _ _ h1 h2
  split at h
  ·rename_i k _ _ h3
   obtain⟨d1,sQ,k1⟩:=hT.fY h1
   obtain rfl:=aM k1
   have eJ:=hT.size h3
   split at h
   ·rename_i i g off n c i2 g2 MO n2 c2
    split at h
    ·rename_i g' k1 xs co hm
     obtain⟨⟨rfl,hle,vx⟩,h⟩:=h
     replace h:=aZ h
     obtain⟨rfl,h⟩:=h
     obtain⟨ys,m,hl,hK,hS⟩:=fZ hT hs h2 (x:=.sl i2 g2 MO (min n2 n) c2) rfl h
     obtain⟨a2,yS,_⟩:=Gl (ρ:=ρ) (i:=i2) (g:=g2) (off:=MO) (n:=n2) (c:=c2)
     have NC:=zW (n':=min n2 n) (c':=c2) yS
     rw[NC]at hS
     have TP:min n2 n=m:=by
      have:=hS.len w
      simpa[Builtin.lenOf]using this
     have fB:(Builtin.firstCells 1 m (.slice a2 n2 c2)).run P w=.ok ((ys.map (Value.int k)).toArray) w:=by
      have:=hS.cells
      cases a2<;>simpa[Builtin.firstCells]using this
     rcases hs.holds i g true _ (ak hm)with⟨q,hq,hh⟩|⟨hq,hv⟩
     ·obtain⟨w',aS,h4,h5⟩:=gp (P:=P) (k0:=off) (vs:=ys.map (AV.int k)) (x':=.ints k (xs.take off++ys++xs.drop (off+m)) co) hs hm hq rfl rfl
       (by rw[AV.aK];intro v hv;obtain⟨z,_,rfl⟩:=List.mem_map.1 hv;trivial)
       (by rw[List.all_eq_true];intro v hv;obtain⟨z,_,rfl⟩:=List.mem_map.1 hv;rfl) (by simp[af.size];omega) rfl (by
        intro j v hv
        simp only[af.at,Option.map_eq_some_iff]at hv
        obtain⟨z,hz,rfl⟩:=hv
        simp only[List.length_map,hl]
        have ht:(xs.take off).length=off:=by simp;omega
        by_cases hj:j<off
        ·right
         refine⟨.inl hj,?_⟩
         rw[List.append_assoc,List.getElem?_append_left (by omega),List.getElem?_take,if_pos hj]at hz
         simp[af.at,hz]
        ·by_cases Sk:j<off+m
         ·left
          refine⟨_,by omega,Sk,?_,rfl,trivial⟩
          rw[List.append_assoc,List.getElem?_append_right (by omega),List.getElem?_append_left (by omega),ht]at hz
          simp[hz]
         ·right
          refine⟨.inr (by omega),?_⟩
          rw[List.getElem?_append_right (by simp;omega),List.getElem?_drop]at hz
          have e:off+m+(j-(xs.take off++ys).length)=j:=by simp;omega
          rw[e]at hz
          simp[af.at,hz])
      refine⟨_,_,w',?_,hK _ rfl,trivial,h4,h5⟩
      rw[xj]at aS
      have hd:(AV.sl i g off n c).c ρ=.slice (some ⟨q.1,q.2+off,none⟩) n c:=by simp[AV.c,hq]
      rw[hd,yS]
      have Xq:Nat.min n2 n=m:=TP
      simp[Builtin.copy_,run_underlying sQ,Builtin.lenOf,eJ,Xq,fB,aS,goInt,AV.c]
     ·simp only[af.bP]at hv
      obtain⟨rfl,rfl⟩:=hv
      have hn:n=0:=by simp at hle;omega
      have ho:off=0:=by simp at hle;omega
      subst hn;subst ho
      obtain rfl:m=0:=by omega
      obtain rfl:ys=[]:=List.eq_nil_of_length_eq_zero hl
      have Zx:=hK [] rfl
      have hM:M.set i (.one true g (.ints k [] 0))=M:=by
       obtain⟨a9,he⟩:=List.getElem?_eq_some_iff.1 hm
       rw[←he];exact List.set_getElem_self a9
      rw[hM]at Zx
      refine⟨_,_,w,?_,Zx,trivial,hs,Ext.refl _ _ _⟩
      have hd:(AV.sl i g 0 0 c).c ρ=.slice none 0 c:=by simp[AV.c,hq]
      rw[hd,yS]
      simp[Builtin.copy_,run_underlying sQ,Builtin.lenOf,eJ,fB,goInt,AV.c]
    ·exact h.elim
   ·exact h.elim
  ·exact h.elim
 ·exact h.elim
end Go.Proofs.Ytibadaomjlkoaaa
open Go.RowKit
namespace Go.Proofs.Ytibadaomjlkoaaa
def ue (T:List TI)(k:Nat):Option MK:=
 match T[k]? with
 |some ⟨.int kk,_,_,_⟩=>some (.int kk)
 |some ⟨.struct [(0,f0),(1,f1)],_,_,_⟩=>match T[f0]?,T[f1]? with
  |some ⟨.int k0,_,_,_⟩,some ⟨.int k1,_,_,_⟩=>some (.pair k0 k1)
  |_,_=>none
 |some ⟨.arr n e,_,_,_⟩=>match Nat.beq n 3,T[e]? with
  |true,some ⟨.int kk,1,_,_⟩=>some (.wc kk)
  |_,_=>none
 |_=>none
def M3 (mk:MK)(v:AV):Option (Int×Int):=
 match mk,v with
 | .int k,.int k' n=>match k8 k k' with
   |true=>some (n,0)
   |false=>none
 | .pair k0 k1,.agg [.int a x,.int b y]=>match k8 k0 a&&k8 k1 b with
   |true=>some (x,y)
   |false=>none
 | .wc k,.agg [.int a x,.int b y,.int c z]=>match k8 k a&&k8 k b&&k8 k c with
   |true=>some (x,y*256+z)
   |false=>none
 |_,_=>none
def MZ (mk:MK)(v:AV)(p:Prop):Prop:=
 match mk with
 | .wc _=>match v with
   | .agg [_,_,.int _ z]=>(0≤z∧z<256)∧p
   |_=>False
 |_=>p
def QE (mk:MK)(v:AV):Prop:=
 match mk with
 | .wc _=>match v with
   | .agg [_,_,.int _ z]=>0≤z∧z<256
   |_=>False
 |_=>True
theorem uw {mk:MK}{v:AV}{p:Prop}(h:MZ mk v p):QE mk v∧p:=by
 unfold MZ at h
 unfold QE
 split at h
 ·split at h
  ·exact h
  ·exact h.elim
 ·rename_i hh
  cases mk with
  |wc k=>exact absurd rfl (hh k)
  |int k=>exact⟨trivial,h⟩
  |pair k0 k1=>exact⟨trivial,h⟩
def yd (a b:MK)(p:Prop):Prop:=
 match a,b with
 | .int k,.int k'=>cE k k' p
 | .pair k0 k1,.pair a b=>cE k0 a (cE k1 b p)
 | .wc k,.wc k'=>cE k k' p
 |_,_=>False
def HR (te:TI):Option AV:=
 match te.k.isAgg with
 |true=>some (.agg te.zero)
 |false=>match te.zero with
  |[z]=>some z
  |_=>none
def oL (k:Int×Int):List ((Int×Int)×AV)→Option AV
 |[]=>none
 |(k',v)::l=>if k=k' then some v else oL k l
def qA (k:Int×Int)(v:AV):List ((Int×Int)×AV)→List ((Int×Int)×AV)
 |[]=>[(k,v)]
 |(k',v')::l=>if k=k' then(k',v)::l else(k',v')::qA k v l
def IP (ok:Bool)(v:AV)(b:AV)(K:AV→Prop):Prop:=
 match ok with
 |true=>K (.aL [v,b])
 |false=>K v
def xa (T:List TI)(M:AH)(t:Nat)(x ix:AV)(ok:Bool)(K:AV→Prop):Prop:=
 match T[t]? with
 |some ⟨.map kt et,_,_,_⟩=>match ue T kt,T[et]? with
  |some mk,some te=>match M3 mk ix,HR te with
   |some k,some z=>MZ mk ix (match x with
    | .nm=>IP ok z .ff K
    | .mp i g=>fx M i g fun _ y=>match y with
      | .map mk' es=>yd mk mk' ((∀v,oL k es=some v→IP ok v .tt K)∧(oL k es=none→IP ok z .ff K))
      |_=>False
    |_=>False)
   |_,_=>False
  |_,_=>False
 |_=>False
def nQ (T:List TI)(M:AH)(t:Nat)(x:AV)(K:AV→Prop):Prop:=
 match T[t]? with
 |some ⟨.map _ _,_,_,_⟩=>match x with
  | .nm=>K (.int .i64 0)
  | .mp i g=>fx M i g fun _ y=>match y with
    | .map _ es=>K (.int .i64 (es.length:Int))
    |_=>False
  |_=>False
 |_=>False
def K5 (T:List TI)(M:AH)(t:Nat)(x ix v:AV)(K:AH→Prop):Prop:=
 match T[t]? with
 |some ⟨.map kt et,_,_,_⟩=>match ue T kt with
  |some mk=>match M3 mk ix with
   |some k=>MZ mk ix (match x with
    | .mp i g=>match M[i]? with
      |some (.one true g' (.map mk' es))=>g=g'∧yd mk mk' (∀CX,CX=qA k v es→K (M.set i (.one true g' (.map mk' CX))))
      |_=>False
    |_=>False)
   |none=>False
  |none=>False
 |_=>False
def ug (T:List TI)(M:AH)(t:Nat)(K:AV→AH→Prop):Prop:=
 match T[t]? with
 |some ⟨.map kt et,_,_,_⟩=>match ue T kt with
  |some mk=>K (.mp M.length 0) (M++[.one true 0 (.map mk [])])
  |none=>False
 |_=>False
theorem p4 {a b:MK}{p:Prop}(h:yd a b p):a=b∧p:=by
 unfold yd at h
 split at h
 ·replace h:=aZ h
  obtain⟨rfl,h⟩:=h
  exact⟨rfl,h⟩
 ·replace h:=aZ h
  obtain⟨rfl,h⟩:=h
  replace h:=aZ h
  obtain⟨rfl,h⟩:=h
  exact⟨rfl,h⟩
 ·replace h:=aZ h
  obtain⟨rfl,h⟩:=h
  exact⟨rfl,h⟩
 ·exact h.elim
theorem xi {mk:MK}{v:AV}{k:Int×Int}(hr:QE mk v)(h:M3 mk v=some k)(ρ:Env):mk.wf k∧v.c ρ=mk.v k:=by
 unfold M3 at h
 split at h
 ·split at h
  ·rename_i hk
   cases h
   obtain rfl:=fg hk
   exact⟨rfl,rfl⟩
  ·cases h
 ·split at h
  ·rename_i hk
   simp only[Bool.and_eq_true]at hk
   cases h
   obtain rfl:=fg hk.1
   obtain rfl:=fg hk.2
   exact⟨trivial,rfl⟩
  ·cases h
 ·split at h
  ·rename_i hk
   simp only[Bool.and_eq_true]at hk
   cases h
   obtain rfl:=fg hk.1.1
   obtain rfl:=fg hk.1.2
   obtain rfl:=fg hk.2
   rename_i x y z _
   have hr:0≤z∧z<256:=hr
   refine⟨trivial,?_⟩
   show Value.agg #[.int _ x,.int _ y,.int _ z]=.agg #[.int _ x,.int _ ((y*256+z)/256),.int _ ((y*256+z)%256)]
   rw[show(y*256+z)/256=y by omega,show(y*256+z)%256=z by omega]
  ·cases h
 ·cases h
theorem wX {P:Program}{T:List TI}(hT:aq P T){kt:Nat}{kk:IntKind}(h:ue T kt=some (.int kk)):P.underlying kt=some (.int kk):=by
 unfold ue at h
 split at h
 ·rename_i h1
  obtain⟨d,hd,hk⟩:=hT.fY h1
  obtain rfl:=dQ hk
  cases h
  exact hd
 ·split at h<;>cases h
 ·split at h<;>cases h
 ·cases h
theorem zz {P:Program}{T:List TI}(hT:aq P T){et:Nat}{te:TI}(he:T[et]?=some te){z:AV}(h:HR te=some z)(ρ:Env):z.ok ρ∧∀w,(zeroValue et).run P w=.ok (z.c ρ) w:=by
 have aA:=hT.nr he ρ
 obtain⟨d,i,z0,h1,h2,h3,e⟩:=hT.get he
 have hr:∀w,(zeroValue et).run P w=.ok z0 w:=fun w=>by simp[zeroValue,typeInfo,h2,h3]
 have hc:z0.cells.toList=AV.cl ρ te.zero:=by rw[e];simp[AV.aY,Function.comp_def,qe]
 unfold HR at h
 split at h
 ·rename_i hk
  cases h
  refine⟨aA,fun w=>?_⟩
  rw[hr]
  have:z0=.agg (AV.cl ρ te.zero).toArray:=by
   have fB:z0.cells=(AV.cl ρ te.zero).toArray:=by apply Array.toList_inj.1;simpa using hc
   obtain⟨cs,rfl⟩:=(hT.shape he h2 h3).2 hk
   rw[←fB];rfl
  rw[this];rfl
 ·rename_i hk
  split at h
  ·rename_i z' hz
   cases h
   rw[hz]at aA hc
   refine⟨aA.1,fun w=>?_⟩
   have:z0=z.c ρ:=by
    cases z0 with
    |agg cs=>exact absurd ((hT.shape he h2 h3).1 ⟨cs,rfl⟩) (by rw[hk];decide)
    |_=>simpa[Value.cells,AV.cl]using hc
   rw[hr,this]
  ·cases h
def c8 (k:Int×Int):List ((Int×Int)×AV)→Nat→Option (Nat×AV)
 |[],_=>none
 |(k',v)::l,j=>if k=k' then some (j,v)else c8 k l (j+1)
theorem uS (k:Int×Int):∀(l:List ((Int×Int)×AV))(j:Nat),(c8 k l j).map (·.2)=oL k l
 |[],_=>rfl
 |(k',v)::l,j=>by
  simp only[c8,oL]
  split
  ·rfl
  ·exact uS k l (j+1)
theorem sb {k:Int×Int}:∀{l:List ((Int×Int)×AV)}{j:Nat},c8 k l j=none→∀v,qA k v l=l++[(k,v)]
 |[],_,_,_=>rfl
 |(k',v')::l,j,h,v=>by
  simp only[c8]at h
  split at h
  ·cases h
  ·rename_i hk
   simp only[qA,if_neg hk,sb h v,List.cons_append]
theorem mY {k:Int×Int}:∀{l:List ((Int×Int)×AV)}{j i:Nat}{u:AV},c8 k l j=some (i,u)→j≤i∧l[i-j]?=some (k,u)∧∀v,qA k v l=l.set (i-j) (k,v)
 |[],_,_,_,h=>by cases h
 |(k',v')::l,j,i,u,h=>by
  simp only[c8]at h
  split at h
  ·rename_i hk
   cases h;subst hk
   simp[qA]
  ·rename_i hk
   obtain⟨h1,h2,h3⟩:=mY h
   refine⟨by omega,?_,fun v=>?_⟩
   ·rw[show i-j=(i-(j+1))+1 by omega,List.getElem?_cons_succ];exact h2
   ·rw[show i-j=(i-(j+1))+1 by omega,List.set_cons_succ]
    simp only[qA,if_neg hk,h3 v]
theorem sa {kk:IntKind}{k:Int×Int}(hk:k.2=0)(ρ:Env):∀(l:List MapEntry)(es:List ((Int×Int)×AV))(j:Nat),l.map (fun e=>(e.key,e.val))=es.map (fun p=>((MK.int kk).v p.1,p.2.c ρ))→(∀p∈es,p.1.2=0)→
 Instr.findNow (.int kk) (.int kk k.1) l j=some ((c8 k es j).map fun x=>(x.1,x.2.c ρ))
 |[],[],_,_,_=>rfl
 |[],_::_,_,h,_=>by cases h
 |_::_,[],_,h,_=>by cases h
 |e::l,(k',v)::es,j,h,hz=>by
  simp only[List.map_cons,List.cons.injEq,Prod.mk.injEq]at h
  obtain⟨⟨h1,h2⟩,h3⟩:=h
  have mQ:k'.2=0:=hz (k',v) (by simp)
  simp only[Instr.findNow,h1,MK.v,Instr.sameNow,if_true,c8]
  by_cases zt:k=k'
  ·subst zt
   simp[h2]
  ·have eU:(k.1==k'.1)=false:=by
    rw[beq_eq_false_iff_ne]
    intro e
    exact zt (Prod.ext e (by rw[mQ,hk]))
   rw[if_neg zt]
   simp only[eU]
   exact sa hk ρ l es (j+1) h3 (fun p hp=>hz p (by simp[hp]))
theorem eA {P:Program}{kt:Nat}{kk:IntKind}(hd:P.underlying kt=some (.int kk)){b:Bool}{n:Nat}{x:Int}{w:World}:(Instr.checkKey b (n+1) kt (.int kk x)).run P w=.ok () w:=by
 simp[Instr.checkKey,run_underlying hd]
theorem sm {P:Program}{kt:Nat}{kk:IntKind}(hd:P.underlying kt=some (.int kk)){k:Int×Int}(hk:k.2=0){ρ:Env}{l:List MapEntry}{es:List ((Int×Int)×AV)}(h:l.map (fun e=>(e.key,e.val))=es.map (fun p=>((MK.int kk).v p.1,p.2.c ρ)))(hz:∀p∈es,p.1.2=0){w:World}:
 (Instr.findKey kt (.int kk k.1) l).run P w=.ok ((c8 k es 0).map fun x=>(x.1,x.2.c ρ)) w:=by
 simp[Instr.findKey,run_underlying hd,sa hk ρ l es 0 h hz]
structure FV (P:Program)(T:List TI)(kt:Nat)(k0 k1:IntKind):Prop where
 ex:∃f0 f1:Field,P.underlying kt=some (.struct #[f0,f1])∧f0.offset=0∧f1.offset=1∧P.underlying f0.type=some (.int k0)∧P.underlying f1.type=some (.int k1)∧
  (∃YD,T[f0.type]?=some YD∧YD.k=.int k0)∧(∃YC,T[f1.type]?=some YC∧YC.k=.int k1)∧∃ti,T[kt]?=some ti∧ti.k=.struct [(0,f0.type),(1,f1.type)]
theorem Aj {P:Program}{T:List TI}(hT:aq P T){kt:Nat}{k0 k1:IntKind}(h:ue T kt=some (.pair k0 k1)):FV P T kt k0 k1:=by
 unfold ue at h
 split at h
 ·cases h
 ·rename_i f0 f1 _ _ _ h1
  split at h
  ·rename_i ka _ _ _ kb _ _ _ h2 h3
   cases h
   obtain⟨d,hd,hk⟩:=hT.fY h1
   obtain⟨fs,rfl,HP⟩:=gv hk
   obtain⟨da,T3,hka⟩:=hT.fY h2
   obtain rfl:=dQ hka
   obtain⟨db,hdb,hkb⟩:=hT.fY h3
   obtain rfl:=dQ hkb
   obtain⟨l⟩:=fs
   match l,HP with
   |[a,b],HP=>
    simp only[List.map_cons,List.map_nil,List.cons.injEq,Prod.mk.injEq,and_true]at HP
    obtain⟨⟨e1,rfl⟩,e2,rfl⟩:=HP
    exact⟨a,b,hd,e1.symm,e2.symm,T3,hdb,⟨_,h2,rfl⟩,⟨_,h3,rfl⟩,_,h1,rfl⟩
   |[],HP=>simp at HP
   |[a],HP=>simp at HP
   |_::_::_::_,HP=>simp at HP
  ·cases h
 ·split at h<;>cases h
 ·cases h
structure KC (P:Program)(T:List TI)(kt:Nat)(k:IntKind):Prop where
 ex:∃e ti,P.underlying kt=some (.array 3 e)∧P.underlying e=some (.int k)∧T[e]?=some ti∧ti.k=.int k∧ti.size=1
theorem EG {P:Program}{T:List TI}(hT:aq P T){kt:Nat}{k:IntKind}(h:ue T kt=some (.wc k)):KC P T kt k:=by
 unfold ue at h
 split at h
 ·cases h
 ·split at h<;>cases h
 ·rename_i n e _ _ _ h1
  split at h
  ·rename_i kk _ _ hn h2
   cases h
   obtain⟨d,hd,hk⟩:=hT.fY h1
   obtain rfl:=kg hk
   obtain⟨d2,CL,G9⟩:=hT.fY h2
   obtain rfl:=dQ G9
   obtain rfl:n=3:=Nat.eq_of_beq_eq_true hn
   exact⟨e,_,hd,CL,h2,rfl,rfl⟩
  ·cases h
 ·cases h
theorem er {P:Program}{T:List TI}(hT:aq P T){t:Nat}{k k0:IntKind}{ti:TI}(h:T[t]?=some ti)(hk:ti.k=.int k){x y z:Int}{off:Nat}{n:Int}(hg:[AV.int k0 x,AV.int k0 y,AV.int k0 z][off]?=some (.int k0 n))(w:World):
 (part t #[.int k0 x,.int k0 y,.int k0 z] off).run P w=.ok (.int k0 n) w:=by
 obtain⟨v1,e1,_,p1⟩:=du hT h (l:=[AV.int k0 x,AV.int k0 y,AV.int k0 z]) (off:=off) (ρ:=fun _ _=>none) (K:=fun v=>v=.int k0 n) ⟨trivial,trivial,trivial,trivial⟩ (by unfold oz;rw[hk];simp only[TK.isAgg];rw[hg])
 subst e1
 exact p1 w
theorem qK {P:Program}{T:List TI}(hT:aq P T){kt:Nat}{k:IntKind}(h:KC P T kt k){b:Bool}{n:Nat}{x y z:Int}{w:World}:(Instr.checkKey b (n+2) kt (.agg #[.int k x,.int k y,.int k z])).run P w=.ok () w:=by
 obtain⟨e,ti,hd,he,ht,hk,hs⟩:=h.ex
 have p0:=er (P:=P) hT ht hk (k0:=k) (x:=x) (y:=y) (z:=z) (off:=0) (n:=x) rfl w
 have p1:=er (P:=P) hT ht hk (k0:=k) (x:=x) (y:=y) (z:=z) (off:=1) (n:=y) rfl w
 have p2:=er (P:=P) hT ht hk (k0:=k) (x:=x) (y:=y) (z:=z) (off:=2) (n:=z) rfl w
 have eJ:=hT.size (P:=P) ht w
 rw[hs]at eJ
 unfold Instr.checkKey
 simp only[Sem.run_bind,run_underlying hd,Result.andThen_ok]
 simp only[Std.Legacy.Range.forIn_eq_forIn_range',Std.Legacy.Range.size,Nat.sub_zero,Nat.add_one_sub_one,Nat.div_one]
 simp[List.range',eJ,p0,p1,p2,eA he]
theorem sn {P:Program}{T:List TI}(hT:aq P T){kt:Nat}{k:IntKind}(h:KC P T kt k)(d:Nat){x y z x' y' z':Int}{w:World}:
 (Op.equalIn (d+2) kt (.agg #[.int k x,.int k y,.int k z]) (.agg #[.int k x',.int k y',.int k z'])).run P w=.ok (decide (x=x'∧y=y'∧z=z')) w:=by
 obtain⟨e,ti,hd,he,ht,hk,hs⟩:=h.ex
 have p0:=fun(x y z:Int) (w:World)=>er (P:=P) hT ht hk (k0:=k) (x:=x) (y:=y) (z:=z) (off:=0) (n:=x) rfl w
 have p1:=fun(x y z:Int) (w:World)=>er (P:=P) hT ht hk (k0:=k) (x:=x) (y:=y) (z:=z) (off:=1) (n:=y) rfl w
 have p2:=fun(x y z:Int) (w:World)=>er (P:=P) hT ht hk (k0:=k) (x:=x) (y:=y) (z:=z) (off:=2) (n:=z) rfl w
 have eJ:=hT.size (P:=P) ht w
 rw[hs]at eJ
 have e1:∀(a b:Int)(w:World),(Op.equalIn (d+1) e (.int k a) (.int k b)).run P w=.ok (a==b) w:=fun a b w=>by
  simp[Op.equalIn,run_underlying he]
 show(Op.equalIn ((d+1)+1) kt _ _).run P w=_
 rw[Op.equalIn]
 simp only[Sem.run_bind,run_underlying hd,Result.andThen_ok,eJ]
 simp only[Std.Legacy.Range.forIn_eq_forIn_range',Std.Legacy.Range.size,Nat.sub_zero,Nat.add_one_sub_one,Nat.div_one]
 by_cases a:x=x'<;>by_cases b:y=y'<;>by_cases c:z=z'<;>simp[List.range',p0,p1,p2,e1,a,b,c]
theorem vI {P:Program}{T:List TI}(hT:aq P T){kt:Nat}{k:IntKind}(h:KC P T kt k){x y z x' y' z':Int}{w:World}:
 (Op.equal kt (.agg #[.int k x,.int k y,.int k z]) (.agg #[.int k x',.int k y',.int k z'])).run P w=.ok (decide (x=x'∧y=y'∧z=z')) w:=sn hT h 9998
theorem iN {P:Program}{T:List TI}(hT:aq P T){kt:Nat}{kk:IntKind}(hp:KC P T kt kk){k:Int×Int}(ρ:Env){w:World}:∀(l:List MapEntry)(es:List ((Int×Int)×AV))(j:Nat),l.map (fun e=>(e.key,e.val))=es.map (fun p=>((MK.wc kk).v p.1,p.2.c ρ))→
 (Instr.findAsking kt ((MK.wc kk).v k) l j).run P w=.ok ((c8 k es j).map fun x=>(x.1,x.2.c ρ)) w
 |[],[],_,_=>rfl
 |[],_::_,_,h=>by cases h
 |_::_,[],_,h=>by cases h
 |e::l,(k',v)::es,j,h=>by
  simp only[List.map_cons,List.cons.injEq,Prod.mk.injEq]at h
  obtain⟨⟨h1,h2⟩,h3⟩:=h
  have he:=vI (P:=P) hT hp (x:=k.1) (y:=k.2/256) (z:=k.2%256) (x':=k'.1) (y':=k'.2/256) (z':=k'.2%256) (w:=w)
  simp only[Instr.findAsking,h1,MK.v,Sem.run_bind,he,Result.andThen_ok,c8]
  by_cases zt:k=k'
  ·subst zt
   simp[h2]
  ·rw[if_neg zt]
   have:decide (k.1=k'.1∧k.2/256=k'.2/256∧k.2%256=k'.2%256)=false:=decide_eq_false fun h=>zt (Prod.ext h.1 (by omega))
   rw[this]
   simp only[Bool.false_eq_true,if_false]
   exact iN hT hp ρ l es (j+1) h3
theorem ou {P:Program}{T:List TI}(hT:aq P T){t:Nat}{k k0 k1:IntKind}{ti:TI}(h:T[t]?=some ti)(hk:ti.k=.int k){x y:Int}{off:Nat}{n:Int}(hg:[AV.int k0 x,AV.int k1 y][off]?=some (.int k n))(w:World):
 (part t #[.int k0 x,.int k1 y] off).run P w=.ok (.int k n) w:=by
 obtain⟨v1,e1,_,p1⟩:=du hT h (l:=[AV.int k0 x,AV.int k1 y]) (off:=off) (ρ:=fun _ _=>none) (K:=fun v=>v=.int k n) ⟨trivial,trivial,trivial⟩ (by unfold oz;rw[hk];simp only[TK.isAgg];rw[hg])
 subst e1
 exact p1 w
theorem p5 {P:Program}{T:List TI}(hT:aq P T){kt:Nat}{k0 k1:IntKind}(h:FV P T kt k0 k1){b:Bool}{n:Nat}{x y:Int}{w:World}:(Instr.checkKey b (n+2) kt (.agg #[.int k0 x,.int k1 y])).run P w=.ok () w:=by
 obtain⟨f0,f1,hd,o0,o1,h0,h1,⟨t0,g0,q0⟩,⟨t1,g1,q1⟩,_⟩:=h.ex
 have p0:=ou (P:=P) hT g0 q0 (k0:=k0) (k1:=k1) (x:=x) (y:=y) (off:=f0.offset) (n:=x) (by rw[o0];rfl)
 have p1:=ou (P:=P) hT g1 q1 (k0:=k0) (k1:=k1) (x:=x) (y:=y) (off:=f1.offset) (n:=y) (by rw[o1];rfl)
 unfold Instr.checkKey
 simp only[Sem.run_bind,run_underlying hd,Result.andThen_ok]
 by_cases n0:f0.name="_"<;>by_cases n1:f1.name="_"<;>
  simp[n0,n1,p0 w,p1 w,eA h0,eA h1]
theorem tG {P:Program}{T:List TI}(hT:aq P T){kt:Nat}{k0 k1:IntKind}(h:FV P T kt k0 k1){x y x' y':Int}{w:World}:
 (Op.equal kt (.agg #[.int k0 x,.int k1 y]) (.agg #[.int k0 x',.int k1 y'])).run P w=.ok (decide ((x,y)=(x',y'))) w:=by
 obtain⟨f0,f1,hd,o0,o1,h0,h1,⟨t0,g0,q0⟩,⟨t1,g1,q1⟩,ti,ht,hk⟩:=h.ex
 have Nj:((#[f0,f1]:Array Field).toList.all fun f=>simpleT P f.type)=true:=by simp[simpleT,h0,h1]
 obtain⟨d,oo,_,aA⟩:=hT.Uw ht
 rw[hd]at oo;cases oo
 have hok':(P.stoodInHeld kt=false∧P.eqGuardType P.depth kt=false)∧((#[f0,f1]:Array Field).toList.all fun f=>f.name !="_")=true:=by
  unfold Bb at aA
  simp only[Nj,Bool.not_true,Bool.false_or,Bool.and_eq_true,Bool.not_eq_true']at aA
  exact aA
 have Wa:=hok'.2
 have key:NS T [AV.int k0 x,AV.int k1 y] [AV.int k0 x',AV.int k1 y'] ((#[f0,f1]:Array Field).toList.map fun f=>(f.offset,f.type)) (fun r=>r=(decide (x=x')&&(decide (y=y')&&true))):=by
  have sk:∀(k:IntKind)(p:Prop),p→cE k k p:=by intro k p hp;cases k<;>exact hp
  obtain⟨_,_,_,_⟩:=t0
  obtain⟨_,_,_,_⟩:=t1
  simp only at q0 q1
  subst q0;subst q1
  simp only[List.map_cons,List.map_nil,NS,o0,o1,g0,g1,List.getElem?_cons_zero,List.getElem?_cons_succ]
  refine sk _ _ (sk _ _ (sk _ _ (sk _ _ ?_)))
  trivial
 obtain⟨r,hr,aS⟩:=n5 hT (la:=[AV.int k0 x,AV.int k1 y]) (lb:=[AV.int k0 x',AV.int k1 y']) (ρ:=fun _ _=>none) ⟨trivial,trivial,trivial⟩ ⟨trivial,trivial,trivial⟩ _ _ key Wa
 have xp:P.fieldsOf kt=#[f0,f1]:=by unfold Program.fieldsOf;rw[hd]
 have dI:P.underlying kt=some (.struct (P.fieldsOf kt)):=by rw[xp];exact hd
 have he:=run_equalIn_struct (P:=P) w 9999 kt #[.int k0 x,.int k1 y] #[.int k0 x',.int k1 y'] dI hok'.1.1
 rw[xp]at he
 have R9:=aS 9998 w
 simp only[AV.cl,AV.c]at R9
 rw[R9]at he
 have:Op.equal kt (.agg #[.int k0 x,.int k1 y]) (.agg #[.int k0 x',.int k1 y'])=Op.equalIn 10000 kt (.agg #[.int k0 x,.int k1 y]) (.agg #[.int k0 x',.int k1 y']):=rfl
 rw[this,he,hr]
 congr 1
 by_cases a:x=x'<;>by_cases b:y=y'<;>simp[a,b]
theorem gZ {P:Program}{T:List TI}(hT:aq P T){kt:Nat}{k0 k1:IntKind}(hp:FV P T kt k0 k1){k:Int×Int}(ρ:Env){w:World}:∀(l:List MapEntry)(es:List ((Int×Int)×AV))(j:Nat),l.map (fun e=>(e.key,e.val))=es.map (fun p=>((MK.pair k0 k1).v p.1,p.2.c ρ))→
 (Instr.findAsking kt ((MK.pair k0 k1).v k) l j).run P w=.ok ((c8 k es j).map fun x=>(x.1,x.2.c ρ)) w
 |[],[],_,_=>rfl
 |[],_::_,_,h=>by cases h
 |_::_,[],_,h=>by cases h
 |e::l,(k',v)::es,j,h=>by
  simp only[List.map_cons,List.cons.injEq,Prod.mk.injEq]at h
  obtain⟨⟨h1,h2⟩,h3⟩:=h
  have he:=tG (P:=P) hT hp (x:=k.1) (y:=k.2) (x':=k'.1) (y':=k'.2) (w:=w)
  simp only[Instr.findAsking,h1,MK.v,Sem.run_bind,he,Result.andThen_ok,c8]
  by_cases zt:k=k'
  ·subst zt
   simp[h2]
  ·rw[if_neg zt]
   have:decide ((k.1,k.2)=(k'.1,k'.2))=false:=decide_eq_false zt
   rw[this]
   simp only[Bool.false_eq_true,if_false]
   exact gZ hT hp ρ l es (j+1) h3
theorem run_checkKey {P:Program}{T:List TI}(hT:aq P T){kt:Nat}{mk:MK}(h:ue T kt=some mk){b:Bool}{k:Int×Int}{w:World}:(Instr.checkKey b 10000 kt (mk.v k)).run P w=.ok () w:=by
 cases mk with
 |int kk=>exact eA (wX hT h)
 |pair k0 k1=>exact p5 hT (Aj hT h)
 |wc k=>exact qK hT (EG hT h)
theorem run_findKey {P:Program}{T:List TI}(hT:aq P T){kt:Nat}{mk:MK}(h:ue T kt=some mk){k:Int×Int}(hk:mk.wf k){ρ:Env}{l:List MapEntry}{es:List ((Int×Int)×AV)}(hl:l.map (fun e=>(e.key,e.val))=es.map (fun p=>(mk.v p.1,p.2.c ρ)))(hz:∀p∈es,mk.wf p.1){w:World}:
 (Instr.findKey kt (mk.v k) l).run P w=.ok ((c8 k es 0).map fun x=>(x.1,x.2.c ρ)) w:=by
 cases mk with
 |int kk=>exact sm (wX hT h) hk hl hz
 |pair k0 k1=>
  have hp:=Aj hT h
  obtain⟨f0,f1,hd,_⟩:=hp.ex
  have ha:=gZ (P:=P) hT hp (k:=k) ρ (w:=w) l es 0 hl
  cases l with
  |nil=>
   cases es with
   |nil=>simp[Instr.findKey,run_underlying hd,Instr.findNow,c8]
   |cons p es=>cases hl
  |cons e l=>
   have:Instr.findNow (.struct #[f0,f1]) ((MK.pair k0 k1).v k) (e::l) 0=none:=by simp[Instr.findNow,Instr.sameNow]
   simp only[Instr.findKey,Sem.run_bind,run_underlying hd,Result.andThen_ok,this]
   exact ha
 |wc kk=>
  have hp:=EG hT h
  obtain⟨el,ti,hd,_⟩:=hp.ex
  have ha:=iN (P:=P) hT hp (k:=k) ρ (w:=w) l es 0 hl
  cases l with
  |nil=>
   cases es with
   |nil=>simp[Instr.findKey,run_underlying hd,Instr.findNow,c8]
   |cons p es=>cases hl
  |cons e l=>
   have:Instr.findNow (.array 3 el) ((MK.wc kk).v k) (e::l) 0=none:=by simp[Instr.findNow,Instr.sameNow]
   simp only[Instr.findKey,Sem.run_bind,run_underlying hd,Result.andThen_ok,this]
   exact ha
theorem ye (mk:MK)(k:Int×Int):Instr.sameBits 10000 (mk.v k) (mk.v k)=true:=by
 cases mk<;>simp[MK.v,Instr.sameBits]
theorem mw {P:Program}{w:World}{b:Nat}{es:Array MapEntry}{c:Nat}(h:w.heap[b]?=some (.map es c)):(getObj b).run P w=.ok (.map es c) w:=by simp[getObj,Sem.run,h]
theorem z8 {P:Program}{w:World}{b:Nat}{es:Array MapEntry}{c:Nat}(o:Obj)(h:w.heap[b]?=some (.map es c)):(setObj b o).run P w=.ok () (w.putObj b o):=by simp[setObj,Sem.run,h,World.putObj]
theorem Cq {ρ:Env}{M:AH}{i g:Nat}{own:Bool}{mk:MK}{es:List ((Int×Int)×AV)}(hk:jR ρ M)(hs:slot M i g=some (own,.map mk es)):∃q,ρ i g=some (some q)∧∀w,eZ ρ M i w→∃(fq:Array MapEntry) (clock:Nat),w.heap[q.1]?=some (.map fq clock)∧fq.toList.map (fun e=>(e.key,e.val))=es.map (fun p=>(mk.v p.1,p.2.c ρ))∧(∀p∈es,p.2.ok ρ∧mk.wf p.1)∧(∀e∈fq.toList,e.born<clock)∧(fq.toList.map (·.born)).Nodup:=by
 rcases hk i g own _ hs with⟨q,hq⟩|⟨_,hv⟩
 ·refine⟨q,hq,fun w hw=>?_⟩
  rcases(hw g own _ q hs hq).all with⟨h0,_⟩|⟨_,_,h⟩
  ·cases h0
  ·exact h
 ·exact hv.elim
theorem yy {ρ:Env}{i g:Nat}{q:Nat×Nat}(h:ρ i g=some (some q)):(AV.mp i g).c ρ=.map (some q.1)∧(AV.mp i g).ok ρ:=by
 constructor
 ·simp[AV.c,h]
 ·simp[AV.ok,h]
theorem rS {P:Program}{T:List TI}(hT:aq P T){M:AH}{t:Nat}{x ix:AV}{ok:Bool}{K:AV→Prop}{ρ:Env}(hk:jR ρ M){w0:World}(h0:eZ ρ M x.id w0)(h:xa T M t x ix ok K):
 ∃v,K v∧v.ok ρ∧x.ok ρ∧∀w,eZ ρ M x.id w→(Instr.lookup t (x.c ρ) (ix.c ρ) ok).run P w=.ok (v.c ρ) w:=by
 unfold xa at h
 split at h
 ·rename_i kt et _ _ _ h1
  obtain⟨d,hd,Zc⟩:=hT.fY h1
  have oo:d=.map kt et:=by cases d<;>simp_all[fw]
  subst oo
  split at h
  ·rename_i mk te kP ri
   split at h
   ·rename_i k z Rg hz
    replace h:=uw h
    obtain⟨KN,h⟩:=h
    obtain⟨Ow,Rh⟩:=xi KN Rg ρ
    have So:=fun(b:Bool) (w:World)=>run_checkKey (P:=P) hT kP (b:=b) (k:=k) (w:=w)
    obtain⟨VR,YN⟩:=zz hT ri hz ρ
    split at h
    ·refine⟨if ok then .aL [z,.ff]else z,?_,?_,trivial,fun w _=>?_⟩
     ·cases ok<;>exact h
     ·cases ok
      ·exact VR
      ·exact⟨VR,trivial,trivial⟩
     ·have KP:=run_findKey (P:=P) (ρ:=ρ) (w:=w) hT kP Ow (l:=[]) (es:=[]) rfl (by simp)
      rw[Rh]
      cases ok<;>simp[Instr.lookup,run_underlying hd,AV.c,AV.cl,So,KP,c8,YN]
    ·rename_i i g
     obtain⟨own,y,hs,h⟩:=aV h
     split at h
     ·rename_i mk' es
      replace h:=p4 h
      obtain⟨rfl,hf,hn⟩:=h
      obtain⟨q,hq,hw⟩:=Cq hk hs
      have aA:=(hw w0 h0).choose_spec.choose_spec.2.2.1
      have aS:∀(w:World),eZ ρ M i w→∀r,(c8 k es 0)=r→(Instr.lookup t ((AV.mp i g).c ρ) (ix.c ρ) ok).run P w=(match r with
       |some x=>.ok (if ok then .tuple #[x.2.c ρ,.bool true]else x.2.c ρ) w
       |none=>.ok (if ok then .tuple #[z.c ρ,.bool false]else z.c ρ) w):=by
       intro w hh r hr
       obtain⟨fq,clock,e1,e2,e3,_,_⟩:=hw w hh
       have KP:=run_findKey (P:=P) (w:=w) hT kP Ow e2 (fun p hp=>(e3 p hp).2)
       rw[hr]at KP
       rw[(yy hq).1,Rh]
       cases r with
       |none=>simp[Instr.lookup,run_underlying hd,AV.c,mw e1,So,KP,YN]
       |some x=>simp[Instr.lookup,run_underlying hd,AV.c,mw e1,So,KP]
      have gW:=uS k es 0
      cases KQ:c8 k es 0 with
      |none=>
       rw[KQ]at gW
       refine⟨if ok then .aL [z,.ff]else z,?_,?_,(yy hq).2,fun w hh=>?_⟩
       ·have:=hn gW.symm
        cases ok<;>exact this
       ·cases ok
        ·exact VR
        ·exact⟨VR,trivial,trivial⟩
       ·rw[aS w hh _ KQ];cases ok<;>simp[AV.c,AV.cl]
      |some xx=>
       obtain⟨ii,u⟩:=xx
       rw[KQ]at gW
       obtain⟨_,ic,_⟩:=mY KQ
       have To:=(aA _ (List.mem_of_getElem? ic)).1
       refine⟨if ok then .aL [u,.tt]else u,?_,?_,(yy hq).2,fun w hh=>?_⟩
       ·have:=hf u gW.symm
        cases ok<;>exact this
       ·cases ok
        ·exact To
        ·exact⟨To,trivial,trivial⟩
       ·rw[aS w hh _ KQ];cases ok<;>simp[AV.c,AV.cl]
     ·exact h.elim
    ·exact h.elim
   ·exact h.elim
  ·exact h.elim
 ·exact h.elim
theorem oF {P:Program}{T:List TI}(hT:aq P T){M:AH}{t ty:Nat}{x:AV}{K:AV→Prop}{ρ:Env}(hk:jR ρ M)(h:nQ T M t x K):
 ∃v,K v∧v.ok ρ∧x.ok ρ∧∀w,eZ ρ M x.id w→(Builtin.len_ #[t] ty #[x.c ρ]).run P w=.ok (v.c ρ) w:=by
 unfold nQ at h
 split at h
 ·rename_i kt et _ _ _ h1
  obtain⟨d,hd,Zc⟩:=hT.fY h1
  have oo:d=.map kt et:=by cases d<;>simp_all[fw]
  subst oo
  split at h
  ·exact⟨_,h,trivial,trivial,fun w _=>by simp[Builtin.len_,run_underlying hd,AV.c,goInt]⟩
  ·rename_i i g
   obtain⟨own,y,hs,h⟩:=aV h
   split at h
   ·rename_i mk es
    obtain⟨q,hq,hw⟩:=Cq hk hs
    refine⟨_,h,trivial,(yy hq).2,fun w hh=>?_⟩
    obtain⟨fq,clock,e1,e2,e3,_,_⟩:=hw w hh
    rw[(yy hq).1]
    have hl:=congrArg List.length e2
    simp only[List.length_map,Array.length_toList]at hl
    simp[Builtin.len_,run_underlying hd,AV.c,mw e1,goInt,hl]
   ·exact h.elim
  ·exact h.elim
 ·exact h.elim
theorem uf {P:Program}{T:List TI}(hT:aq P T){M:AH}{t:Nat}{K:AV→AH→Prop}{ρ:Env}{w:World}(hs:aU ρ M w)(h:ug T M t K):
 ∃v M' ρ' w',(Instr.makeMap t none).run P w=.ok (v.c ρ') w'∧K v M'∧v.ok ρ'∧aU ρ' M' w'∧Ext ρ M w ρ' M' w':=by
 unfold ug at h
 split at h
 ·split at h
  ·rename_i mk _
   obtain⟨s1,e1⟩:=gh (x:=.map mk []) (l:=some (w.heap.size,0)) (w':=w.alloc (.map #[] 0)) hs (fun b hb=>Below.heap_alloc _ _ b hb) (by simp) rfl rfl rfl
    (.inl ⟨w.heap.size,0,rfl,Nat.le_refl _,⟨.inr ⟨rfl,rfl,#[],0,World.alloc_heap_new w _,rfl,by simp,by simp,by simp⟩⟩⟩)
   have hq:j8 ρ M.length 0 (some (w.heap.size,0)) M.length 0=some (some (w.heap.size,0)):=au _ _ _ _
   refine⟨_,_,_,_,?_,h,(yy hq).2,s1,e1⟩
   rw[(yy hq).1]
   simp[Instr.makeMap,run_newObj]
  ·exact h.elim
 ·exact h.elim
theorem s9 {P:Program}{T:List TI}(hT:aq P T){M:AH}{t:Nat}{x ix v:AV}{K:AH→Prop}{ρ:Env}{w:World}(hs:aU ρ M w)(hv:v.ok ρ)(h:K5 T M t x ix v K):
 ∃M' w',(Instr.mapUpdate t (x.c ρ) (ix.c ρ) (v.c ρ)).run P w=.ok () w'∧K M'∧aU ρ M' w'∧Ext ρ M w ρ M' w':=by
 unfold K5 at h
 split at h
 ·rename_i kt et _ _ _ h1
  obtain⟨d,hd,Zc⟩:=hT.fY h1
  have oo:d=.map kt et:=by cases d<;>simp_all[fw]
  subst oo
  split at h
  ·rename_i mk kP
   split at h
   ·rename_i k Rg
    replace h:=uw h
    obtain⟨KN,h⟩:=h
    obtain⟨Ow,Rh⟩:=xi KN Rg ρ
    have So:=fun(b:Bool) (w:World)=>run_checkKey (P:=P) hT kP (b:=b) (k:=k) (w:=w)
    split at h
    ·rename_i i g
     split at h
     ·rename_i g' mk' es hm
      obtain⟨rfl,h⟩:=h
      replace h:=p4 h
      obtain⟨rfl,h⟩:=h
      replace h:=h _ rfl
      obtain⟨q,hq,hw⟩:=Cq hs.known (ak hm)
      obtain⟨fq,clock,e1,e2,e3,e4,e5⟩:=hw w (hs.id i)
      have a9:=fc e1
      have KT:q.2=0:=by
       rcases hs.holds i g true _ (ak hm)with⟨q',b1,b2⟩|⟨_,b2⟩
       ·rw[hq]at b1;cases b1
        rcases b2.all with⟨c0,_⟩|⟨_,c1,_⟩
        ·cases c0
        ·exact c1
       ·exact b2.elim
      have KP:=run_findKey (P:=P) (w:=w) hT kP Ow e2 (fun p hp=>(e3 p hp).2)
      have hlen:=congrArg List.length e2
      simp only[List.length_map,Array.length_toList]at hlen
      have put:∀(uW:Array MapEntry)(vd:Nat)(CX:List ((Int×Int)×AV)),qA k v es=CX→uW.toList.map (fun e=>(e.key,e.val))=CX.map (fun p=>(mk.v p.1,p.2.c ρ))→(∀p∈CX,p.2.ok ρ∧mk.wf p.1)→(∀e∈uW.toList,e.born<vd)→(uW.toList.map (·.born)).Nodup→
       (Instr.mapUpdate t ((AV.mp i g).c ρ) (ix.c ρ) (v.c ρ)).run P w=.ok () (w.putObj q.1 (.map uW vd))→∃M' w',(Instr.mapUpdate t ((AV.mp i g).c ρ) (ix.c ρ) (v.c ρ)).run P w=.ok () w'∧K M'∧aU ρ M' w'∧Ext ρ M w ρ M' w':=by
       intro uW vd CX he' a2 a3 a4 a5 aS
       subst he'
       obtain⟨s1,x1⟩:=x9 (x':=.map mk (qA k v es)) (w':=w.putObj q.1 (.map uW vd)) hs hm hq (fun b hb=>World.putObj_heap_other hb) (by simp) rfl rfl rfl
        ⟨.inr ⟨rfl,KT,uW,vd,World.putObj_heap_same a9,a2,a3,a4,a5⟩⟩
       exact⟨_,_,aS,h,s1,x1⟩
      cases KQ:c8 k es 0 with
      |none=>
       rw[KQ]at KP
       refine put (fq.push {key:=mk.v k,val:=v.c ρ,born:=clock}) (clock+1) _ (sb KQ v) ?_ ?_ ?_ ?_ ?_
       ·simp[e2]
       ·intro p hp
        rcases List.mem_append.1 hp with hp|hp
        ·exact e3 p hp
        ·obtain rfl:=List.mem_singleton.1 hp
         exact⟨hv,Ow⟩
       ·intro e he
        simp only[Array.toList_push,List.mem_append,List.mem_singleton]at he
        rcases he with he|rfl
        ·have:=e4 e he;omega
        ·exact Nat.lt_succ_self _
       ·simp only[Array.toList_push,List.map_append,List.map_cons,List.map_nil,List.nodup_append]
        refine⟨e5,by simp,fun a ha b hb=>?_⟩
        obtain⟨e,he,rfl⟩:=List.mem_map.1 ha
        have:=e4 e he
        simp at hb
        omega
       ·rw[(yy hq).1,Rh]
        simp[Instr.mapUpdate,run_underlying hd,AV.c,mw e1,So,KP,z8 _ e1]
      |some xx=>
       obtain⟨ii,u⟩:=xx
       rw[KQ]at KP
       obtain⟨_,ic,Tn⟩:=mY KQ
       simp only[Nat.sub_zero]at ic Tn
       have TX:ii<es.length:=(List.getElem?_eq_some_iff.1 ic).1
       have jq:ii<fq.size:=by omega
       have TV:(fq[ii]?).map (·.key)=some (mk.v k):=by
        have:=congrArg (fun l=>l[ii]?) e2
        simp only[List.getElem?_map,ic,Option.map_some,Array.getElem?_toList]at this
        cases hx:fq[ii]? with
        |none=>rw[hx]at this;cases this
        |some e=>rw[hx]at this;simp at this;simp[this.1]
       refine put (fq.modify ii fun e=>{e with key:=mk.v k,val:=v.c ρ}) clock _ (Tn v) ?_ ?_ ?_ ?_ ?_
       ·apply List.ext_getElem?
        intro j
        have ej:=congrArg (fun l=>l[j]?) e2
        simp only[List.getElem?_map,Array.getElem?_toList]at ej
        simp only[List.getElem?_map,Array.getElem?_toList,Array.getElem?_modify,List.getElem?_set]
        by_cases hj:ii=j
        ·subst hj
         simp[jq,TX]
        ·simp only[if_neg hj]
         exact ej
       ·intro p hp
        rcases List.mem_or_eq_of_mem_set hp with hp|rfl
        ·exact e3 p hp
        ·exact⟨hv,Ow⟩
       ·intro e he
        obtain⟨j,hj⟩:=List.mem_iff_getElem?.1 he
        simp only[Array.getElem?_toList,Array.getElem?_modify]at hj
        by_cases fR:ii=j
        ·subst fR
         simp only[if_true,Option.map_eq_some_iff]at hj
         obtain⟨e0,he0,rfl⟩:=hj
         exact e4 e0 (Array.mem_toList_iff.2 (Array.mem_of_getElem? he0))
        ·simp only[if_neg fR]at hj
         exact e4 e (Array.mem_toList_iff.2 (Array.mem_of_getElem? hj))
       ·have:(fq.modify ii fun e=>{e with key:=mk.v k,val:=v.c ρ}).toList.map (·.born)=fq.toList.map (·.born):=by
         apply List.ext_getElem?
         intro j
         simp only[List.getElem?_map,Array.getElem?_toList,Array.getElem?_modify]
         by_cases hj:ii=j
         ·subst hj;cases fq[ii]?<;>simp
         ·simp[hj]
        rw[this];exact e5
       ·rw[(yy hq).1,Rh]
        simp[Instr.mapUpdate,run_underlying hd,AV.c,mw e1,So,KP,z8 _ e1,TV,Instr.keyThatStays,ye]
     ·exact h.elim
    ·exact h.elim
   ·exact h.elim
  ·exact h.elim
 ·exact h.elim
end Go.Proofs.Ytibadaomjlkoaaa
