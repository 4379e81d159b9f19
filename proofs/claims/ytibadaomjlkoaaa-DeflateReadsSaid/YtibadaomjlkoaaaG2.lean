import Derived.Test.YtibadaomjlkoaaaG1
import Derived.OrdersIn
import Derived.Test.YtibadaomjlkoaaaAbI
import Derived.RangeFuncRecord
set_option linter.unusedVariables false
set_option linter.unusedSimpArgs false
open Go.RowKit
namespace Go.Proofs.Ytibadaomjlkoaaa
def FW (r:Option Nat):Fence:={fn:=fun _=>True,depth:=none,alive:=false,round:=r}
section
variable{r:Option Nat}{P:Program}{ops:Array Oper}{Q:Exit→Act→World→Prop}{S:World→Prop}{ds:List Nat}
def xI (r:Option Nat)(P:Program)(ops:Array Oper)(Q:Exit→Act→World→Prop)(o:Oper)(K:Act→World→Prop)(a:Act)(w:World):Prop:=
 if Region.wanted o (yielded ops a.tmps)=true then o.uponIn (FW r) 0 P a K Q ((execOp a.eval o).run P w)else K (a.put o.dst undef) w
def cN:Op→Bool
 | .defer _| .select ..=>false
 |_=>true
theorem xZ {i:Nat}{o:Oper}{K:Act→World→Prop}{a:Act}{w:World}(hi:ops[i]?=some o)(hp:cN o.op=true)(h:xI r P ops Q o K a w):wpOpIn (FW r) 0 P ops Q i K a w:=by
 unfold wpOpIn xI at*
 simp only[hi]
 have hd:∀c,o.op≠ .defer c:=by intro c e;rw[e]at hp;cases hp
 split
 ·rename_i hw
  rw[if_pos hw]at h
  exact⟨fun _ _=>trivial,by rw[Oper.semAt_eq _ _ _ hd];exact h⟩
 ·rename_i hw
  rw[if_neg hw]at h
  exact⟨fun _ _=>trivial,h⟩
theorem Bz {o:Oper}{a:Act}{K K':Act→World→Prop}(h:∀a w,K a w→K' a w){res:Result Next}(hh:o.uponIn (FW r) 0 P a K Q res):o.uponIn (FW r) 0 P a K' Q res:=by
 cases res with
 |ok x w'=>
  cases x<;>simp only[Oper.uponIn]at hh⊢<;>
   first
    |exact h _ _ hh
    |exact⟨hh.1,CallsIn.mono hh.2 (fun e xh he=>by cases e<;>first|exact h _ _ he|exact he)⟩
    |exact⟨hh.1,RowsIn.mono hh.2 (fun _ _ he=>h _ _ he)⟩
    |exact⟨hh.1,RoundIn.mono hh.2 (fun e xh he=>by cases e<;>first|exact h _ _ he|exact he)⟩
 |halt x w'=>cases x<;>simp only[Oper.uponIn]at hh⊢<;>exact hh
theorem ru {o:Oper}{a:Act}{w:World}{K K':Act→World→Prop}(h:∀a w,K a w→K' a w)(hh:xI r P ops Q o K a w):xI r P ops Q o K' a w:=by
 unfold xI at*
 split
 ·rename_i hw;rw[if_pos hw]at hh;exact Bz h hh
 ·rename_i hw;rw[if_neg hw]at hh;exact h _ _ hh
def YI (P:Program)(ops:Array Oper)(S:World→Prop)(o:Oper)(v:Value)(a:Act):Prop:=
 (Region.wanted o (yielded ops a.tmps)=true∧∀w,S w→(execOp a.eval o).run P w=.ok (.value v) w)∨(Region.wanted o (yielded ops a.tmps)=false∧v=undef)
theorem YI.xI {o:Oper}{v:Value}{a:Act}(hy:YI P ops S o v a){K:Act→World→Prop}{w:World}(hS:S w)(h:K (a.put o.dst v) w):xI r P ops Q o K a w:=by
 unfold Ytibadaomjlkoaaa.xI
 rcases hy with⟨hw,hv⟩|⟨hw,rfl⟩
 ·rw[if_pos hw,hv w hS];exact h
 ·rw[if_neg (by rw[hw];simp)];exact h
theorem YI.same {o:Oper}{v:Value}{a a':Act}(hy:YI P ops S o v a)(he:execOp a'.eval o=execOp a.eval o)(hw:Region.wanted o (yielded ops a'.tmps)=Region.wanted o (yielded ops a.tmps)):YI P ops S o v a':=by
 unfold YI at*;rw[he,hw];exact hy
theorem Hg {oi oj:Oper}{v:Value}(lN:oi.apart ops oj=true)(Zl:cN oi.op=true)(hpj:cN oj.op=true)
 (hQ:∀c a w,Q (.panic c) (a.put oi.dst v) w→Q (.panic c) a w){K:Act→World→Prop}{a:Act}{w:World}
 (hy:YI P ops S oi v a)(h:xI r P ops Q oj K (a.put oi.dst v) w):
 xI r P ops Q oj (fun a' w'=>YI P ops S oi v a'∧K (a'.put oi.dst v) w') a w:=by
 obtain⟨h1,h2,h3⟩:=Oper.apart_spec lN
 have hsi:∀cs b,oi.op≠ .select cs b:=by intro cs b e;rw[e]at Zl;cases Zl
 have hsj:∀cs b,oj.op≠ .select cs b:=by intro cs b e;rw[e]at hpj;cases hpj
 have mq:∀(a:Act),YI P ops S oi v a→∀u,YI P ops S oi v (a.put oj.dst u):=fun a hy u=>
  hy.same (execOp_put oi hsi a oj.dst u h3) (wanted_put oi a oj.dst u h3)
 have V8:∀d,YI P ops S oi v {a with defers:=d::a.defers}:=fun d=>hy.same rfl rfl
 unfold Ytibadaomjlkoaaa.xI at*
 rw[wanted_put oj a oi.dst v h1]at h
 split
 ·rename_i hw
  rw[if_pos hw,execOp_put oj hsj a oi.dst v h1]at h
  generalize(execOp a.eval oj).run P w=res at*
  cases res with
  |ok x w'=>
   cases x<;>simp only[Oper.uponIn]at h⊢
   case value u=>exact⟨mq a hy u,by rw[←Act.put_comm a v u h2];exact h⟩
   case skip=>exact⟨mq a hy _,by rw[←Act.put_comm a v undef h2];exact h⟩
   case defer d=>
    refine⟨mq _ (V8 d) _,?_⟩
    rw[←Act.put_comm _ v undef h2,←Act.put_defers]
    exact h
   case enter f args=>
    refine⟨h.1,CallsIn.mono h.2 fun e xh he=>?_⟩
    cases e with
    |returned u=>exact⟨mq a hy u,by rw[←Act.put_comm a v u h2];exact he⟩
    |panicked c=>exact hQ _ _ _ he
    |outgrown=>exact he
   case row row args=>exact⟨h.1,RowsIn.mono h.2 fun u xh he=>⟨mq a hy u,by rw[←Act.put_comm a v u h2];exact he⟩⟩
   case round l f tmps assign body=>
    refine⟨h.1,RoundIn.mono h.2 fun e xh he=>?_⟩
    cases e with
    |returned u=>exact⟨mq a hy u,by rw[←Act.put_comm a v u h2];exact he⟩
    |panicked c=>exact hQ _ _ _ he
    |outgrown=>exact he
  |halt x w'=>
   cases x<;>simp only[Oper.uponIn]at h⊢
   case panic u=>exact hQ _ _ _ h
 ·rename_i hw
  rw[if_neg hw]at h
  exact⟨mq a hy _,by rw[←Act.put_comm a v undef h2];exact h⟩
def anyS (r:Option Nat)(P:Program)(ops:Array Oper)(Q:Exit→Act→World→Prop)(S:World→Prop)(ds:List Nat):Nat→Array Bool→Act→World→Prop
 |0,l,a,w=>Region.ready .any ops l=[]∧Q .normal a w
 |f+1,l,a,w=>(Region.ready .any ops l=[]→Q .normal a w)∧∀i∈Region.ready .any ops l,∀o,ops[i]?=some o→
   xI r P ops Q o (fun a' w'=>(i∉ds→w'=w∨S w')∧anyS r P ops Q S ds f (l.setIfInBounds i true) a' w') a w
theorem dN (hp:∀(i:Nat) o,ops[i]?=some o→cN o.op=true):∀(f:Nat)(l:Array Bool)(a:Act)(w:World),anyS r P ops Q S ds f l a w→wpAnyIn (FW r) 0 P .any ops Q f l a w
 |0,_,_,_,h=>h
 |f+1,l,a,w,h=>⟨h.1,fun i hi=>by
   obtain⟨_,o,ho,_⟩:=mem_ready.1 hi
   exact xZ ho (hp i o ho) (ru (fun a' w' h'=>dN hp f _ a' w' h'.2) (h.2 i hi o ho))⟩
theorem iD {S':World→Prop}(hw:∀w,S w→S' w):∀(f:Nat)(l:Array Bool)(a:Act)(w:World),anyS r P ops Q S ds f l a w→anyS r P ops Q S' ds f l a w
 |0,_,_,_,h=>h
 |f+1,l,a,w,h=>⟨h.1,fun i hi o ho=>ru (fun a' w' h'=>⟨fun hd=>(h'.1 hd).imp id (hw w'),iD hw f _ a' w' h'.2⟩) (h.2 i hi o ho)⟩
def waits (ops:Array Oper)(i:Nat):Nat→Nat→Bool
 |0,_=>false
 |f+1,d=>match ops[d]? with
  |some o=>o.after.any fun e=>Region.binds .any e&&(e.on==i||waits ops i f e.on)
  |none=>false
def jY (ops:Array Oper)(l:Array Bool):Prop:=∀j o,ops[j]?=some o→l.getD j false=true→∀e∈o.after,Region.binds .any e=true→l.getD e.on false=true
theorem jY.set {ops:Array Oper}{l:Array Bool}{i:Nat}(h:jY ops l)(hi:i∈Region.ready .any ops l):jY ops (l.setIfInBounds i true):=by
 obtain⟨_,oi,hoi,hall⟩:=mem_ready.1 hi
 intro j oj hj hl e he hb
 by_cases tN:i=j
 ·subst tN
  rw[hoi]at hj;injection hj with hj;subst hj
  exact getD_set_true (hall e he hb)
 ·rw[getD_set_ne false tN]at hl
  exact getD_set_true (h j oj hj hl e he hb)
theorem jY.none {ops:Array Oper}{n:Nat}:jY ops (Array.replicate n false):=by
 intro j o _ hl
 simp only[Array.getD_eq_getD_getElem?,Array.getElem?_replicate]at hl
 split at hl<;>cases hl
theorem mL {i:Nat}{l:Array Bool}(HD:jY ops l):
 ∀(f d:Nat),waits ops i f d=true→l.getD i true=false→l.getD d false=true→False
 |0,_,h,_,_=>by cases h
 |f+1,d,h,hi,hl=>by
  unfold waits at h
  cases ho:ops[d]? with
  |none=>rw[ho]at h;cases h
  |some o=>
   rw[ho]at h
   obtain⟨e,he,h1⟩:=Array.any_eq_true'.1 h
   simp only[Bool.and_eq_true,Bool.or_eq_true,beq_iff_eq]at h1
   have hle:=HD d o ho hl e he h1.1
   rcases h1.2 with h2|h2
   ·rw[h2]at hle
    rcases Nat.lt_or_ge i l.size with h'|h'
    ·simp[h']at hi hle;rw[hi]at hle;cases hle
    ·simp[Array.getElem?_eq_none h']at hle
   ·exact mL HD f e.on h2 hi hle
theorem Bs {i:Nat}{l:Array Bool}(hc:jY ops l):∀(f:Nat){d:Nat},waits ops i f d=true→l.getD i true=false→d∈Region.ready .any ops l→False
 |0,_,h,_,_=>by cases h
 |f+1,d,h,hi,hd=>by
  obtain⟨_,o,ho,hall⟩:=mem_ready.1 hd
  unfold waits at h
  rw[ho]at h
  obtain⟨e,he,h1⟩:=Array.any_eq_true'.1 h
  simp only[Bool.and_eq_true,Bool.or_eq_true,beq_iff_eq]at h1
  have hle:=hall e he h1.1
  rcases h1.2 with h2|h2
  ·rw[h2]at hle
   rcases Nat.lt_or_ge i l.size with h'|h'
   ·simp[h']at hi hle;rw[hi]at hle;cases hle
   ·simp[Array.getElem?_eq_none h']at hle
  ·exact mL hc f e.on h2 hi hle
theorem lF {i:Nat}{oi:Oper}{v:Value}(hi:ops[i]?=some oi)(hp:∀(i:Nat) o,ops[i]?=some o→cN o.op=true)
 (hQ:∀c a w,Q (.panic c) (a.put oi.dst v) w→Q (.panic c) a w):
 ∀(f:Nat)(l:Array Bool)(a:Act)(w:World),
  (∀j oj,ops[j]?=some oj→j≠i→l.getD j true=false→(∀e∈oj.after,Region.binds .any e=true→e.on≠i)→oi.apart ops oj=true)→
  jY ops l→(∀d∈ds,l.getD d true=false→waits ops i ops.size d=true)→
  i∈Region.ready .any ops l→YI P ops S oi v a→S w→
  anyS r P ops Q S ds f (l.setIfInBounds i true) (a.put oi.dst v) w→anyS r P ops Q S ds (f+1) l a w:=by
 intro f
 induction f with
 |zero=>
  intro l a w _ _ _ hr hy hS H
  refine⟨fun h=>(by rw[h]at hr;cases hr),fun j hj o ho=>?_⟩
  by_cases gQ:j=i
  ·subst gQ
   rw[hi]at ho;injection ho with ho;subst ho
   exact hy.xI hS ⟨fun _=>.inl rfl,H⟩
  ·have:=ready_mono hj gQ
   rw[H.1]at this
   cases this
 |succ f ih=>
  intro l a w ky hc hd hr hy hS H
  refine⟨fun h=>(by rw[h]at hr;cases hr),fun j hj oj xi=>?_⟩
  by_cases gQ:j=i
  ·subst gQ
   rw[hi]at xi;injection xi with xi;subst xi
   exact hy.xI hS ⟨fun _=>.inl rfl,H⟩
  ·have h1:=H.2 j (ready_mono hj gQ) oj xi
   obtain⟨EF,oj',AE,hall⟩:=mem_ready.1 hj
   rw[xi]at AE;injection AE with AE;subst AE
   have Jm:=(mem_ready.1 hr).1
   have TW:∀e∈oj.after,Region.binds .any e=true→e.on≠i:=fun e he hb heq=>by
    have h1:=hall e he hb
    rw[heq]at h1
    rcases Nat.lt_or_ge i l.size with h'|h'
    ·simp[h']at Jm h1;rw[Jm]at h1;cases h1
    ·simp[Array.getElem?_eq_none h']at h1
   have hjd:j∉ds:=fun hm=>Bs hc ops.size (hd j hm EF) Jm hj
   have h2:=Hg (ky j oj xi gQ EF TW) (hp i oi hi) (hp j oj xi) hQ hy h1
   refine ru (fun a' w' h3=>⟨h3.2.1,ih (l.setIfInBounds j true) a' w' ?_ (hc.set hj) ?_ (ready_mono hr (Ne.symm gQ)) h3.1 ((h3.2.1 hjd).elim (fun e=>e▸hS) id) ?_⟩) h2
   ·intro k ok hk Zr ku tL
    refine ky k ok hk Zr ?_ tL
    by_cases LU:j=k
    ·subst LU;exact EF
    ·rw[getD_set_ne true LU]at ku;exact ku
   ·intro d hm ku
    refine hd d hm ?_
    by_cases LU:j=d
    ·subst LU;exact EF
    ·rw[getD_set_ne true LU]at ku;exact ku
   ·rw[Array.setIfInBounds_comm _ _ gQ]
    exact h3.2.2
end
end Go.Proofs.Ytibadaomjlkoaaa
open Go.RowKit
namespace Go.Proofs.Ytibadaomjlkoaaa
abbrev AA:=Nat→AV
def AA.put (n:Nat)(a:AA)(d:Option Nat)(v:AV):AA:=
 match d with
 |none=>a
 |some t=>fun k=>match Nat.beq k t&&Nat.blt t n with
  |true=>v
  |false=>a k
def qL (a:AA):Operand→AV
 | .tmp t=>a t
 | .const v=>V2 v
 | .global g=>.raw (.pointer (some ⟨g,0,none⟩))
 | .func f=>.fn (.func f) [] []
structure bQ (ρ:Env)(D:List Deferred)(n:Nat)(a:AA)(act:Act):Prop where
 defers:act.defers=D
 size:act.tmps.size=n
 ok:∀t,(a t).ok ρ
 get:∀t,act.tmps.getD t undef=(a t).c ρ
theorem bQ.ev {ρ:Env}{D:List Deferred}{n:Nat}{a:AA}{act:Act}(h:bQ ρ D n a act):Y5 ρ (qL a) act.eval:=by
 intro x
 cases x with
 |tmp t=>exact⟨h.get t,h.ok t⟩
 |const v=>exact⟨(V1 ρ v).symm,Tb ρ v⟩
 |global g=>exact⟨rfl,trivial⟩
 |func f=>exact⟨rfl,⟨trivial,trivial⟩⟩
theorem bQ.ext {ρ ρ':Env}{D:List Deferred}{n:Nat}{a:AA}{act:Act}(h:bQ ρ D n a act)(he:∀i g l,ρ i g=some l→ρ' i g=some l):bQ ρ' D n a act:=
 ⟨h.defers,h.size,fun t=>AV.cW he _ (h.ok t),fun t=>by rw[AV.dr he _ (h.ok t)];exact h.get t⟩
theorem bQ.put {ρ:Env}{D:List Deferred}{n:Nat}{a:AA}{act:Act}(h:bQ ρ D n a act)(d:Option Nat){v:AV}(hv:v.ok ρ):bQ ρ D n (a.put n d v) (act.put d (v.c ρ)):=by
 cases d with
 |none=>exact h
 |some t=>
  refine⟨h.defers,by simp[Act.put,h.size],fun k=>?_,fun k=>?_⟩
  ·simp only[AA.put];split
   ·exact hv
   ·exact h.ok k
  ·simp only[AA.put,Act.put]
   split
   ·rename_i hb
    simp only[Bool.and_eq_true]at hb
    have e1:k=t:=Nat.eq_of_beq_eq_true hb.1
    have e2:t<n:=by simpa using hb.2
    subst e1
    simp[Array.getD_eq_getD_getElem?,h.size,e2]
   ·rename_i hb
    have hg:=h.get k
    by_cases hk:k=t
    ·subst hk
     have:¬k<n:=by
      intro bh
      have e1:Nat.beq k k=true:=Nat.beq_refl k
      have e2:Nat.blt k n=true:=by simpa using bh
      rw[e1,e2]at hb;cases hb
     rw[←hg]
     simp[Array.getD_eq_getD_getElem?,h.size,this]
    ·rw[←hg]
     simp[Array.getD_eq_getD_getElem?,Array.getElem?_setIfInBounds_ne (Ne.symm hk)]
def pS (P:Program)(g:Nat):Bool:=
 match P.funcs[g]? with
 |some fn=>fn.body.isSome&&!(fn.name=="runtime.NumGoroutine")
 |none=>false
theorem ph {P:Program}{g:Nat}(h:pS P g=true)(args:Array Value)(w:World):(callFunc g args).run P w=.ok (.enter g args) w:=by
 unfold pS at h
 split at h
 ·rename_i fn hfn
  simp only[Bool.and_eq_true,Bool.not_eq_true']at h
  have hn:fn.name≠"runtime.NumGoroutine":=by have:=h.2;simpa using this
  have hb:fn.body≠none:=by intro e;rw[e]at h;exact absurd h.1 (by simp)
  simp[callFunc,hfn,hn,hb]
 ·cases h
def jf (ρ:Env)(M:AH)(w:World)(K:AV→AH→Prop)(Kp:AV→AH→Prop)(e:Ending)(w':World):Prop:=
 ∃ρ' M',aW ρ' M' w'∧Ext ρ M w ρ' M' w'∧match e with
  | .returned v=>∃r,v=r.c ρ'∧r.ok ρ'∧K r M'
  | .panicked ch=>∃r,ch=[{v:=r.c ρ',recovered:=false}]∧r.ok ρ'∧Kp r M'
  | .outgrown=>False
@[irreducible] def aa (P:Program)(g:Nat)(args:List AV)(M:AH)(K:AV→AH→Prop)(Kp:AV→AH→Prop):Prop:=
  pS P g=true∧∀ρ w,aW ρ M w→AV.eb ρ args→Calls P g (AV.cl ρ args).toArray w (jf ρ M w K Kp)
@[irreducible] def aS (P:Program)(l:Nat)(args:List AV)(M:AH)(K:AV→AH→Prop)(Kp:AV→AH→Prop):Prop:=
  ∀ρ w,aW ρ M w→AV.eb ρ args→∃f tmps as bd,(Instr.yield l (AV.cl ρ args).toArray).run P w=.ok (.round l f tmps as bd) w∧∀r,RoundIn (FW r) 0 P l f tmps as bd w (jf ρ M w K Kp)
def JC (P:Program)(T:List TI)(wr:Bool)(M:AH)(e:Operand→AV)(o:Op)(K:AV→AH→Prop)(Kp:AV→AH→Prop):Prop:=
 match o with
 | .store t a v=>DE T M t (e a) (e v) fun M'=>K (.aE []) M'
 | .load t a=>rF T M t (e a) fun v=>K v M
 | .alloc t=>GC T M t K
 | .box t x=>UH M (e x) K
 | .buildSlice t len parts=>fK T M t len (parts.toList.map (·.1)) (parts.toList.map fun x=>e x.2) K
 | .makeSlice t l c=>gM T M t (e l) (e c) K
 | .call ⟨.builtin .append,args,js⟩=>match args.toList,js.toList with
   |[d,x],[tS,tX]=>match El T tX with
    |true=>xe T M tS (e d) (e x) K
    |false=>Bd T M tS tX (e d) (e x) K
   |_,_=>False
 | .call ⟨.builtin .copy,args,js⟩=>match args.toList,js.toList with
   |[d,x],[tD,tS]=>Mx T M tD tS (e d) (e x) K
   |_,_=>False
 | .call ⟨.builtin .len,args,js⟩=>match args.toList,js.toList with
   |[x],[t]=>match e x with
    | .mp i g=>oX T M t (.mp i g) fun v=>K v M
    |_=>jx T wr M e (.call ⟨.builtin .len,args,js⟩) fun v=>K v M
   |_,_=>False
 | .makeMap t none=>vT T M t K
 | .lookup t x ix ok=>yQ T M t (e x) (e ix) ok fun v=>K v M
 | .mapUpdate t m k x=>Nv T M t (e m) (e k) (e x) fun M'=>K (.aE []) M'
 | .insert t m k x=>Nv T M t (e m) (e k) (e x) fun M'=>K (.aE []) M'
 | .call ⟨.value f,args,_⟩=>match e f with
   | .fn (.func g) first cap=>aa P g (first++args.toList.map e++cap) M K Kp
   | .fn (.yield l) [] []=>aS P l (args.toList.map e) M K Kp
   |_=>False
 | .call ⟨.invoke recv name,args,_⟩=>match e recv with
   | .jZ t v=>zu P T M t name v fun g r=>aa P g (r::args.toList.map e) M K Kp
   |_=>False
 | .panic x=>match e x with
   | .jZ t v=>Kp (.jZ t v) M
   |_=>False
 | .convert src dst x=>match e x with
   | .ns=>p3 T M src dst .ns fun v=>K v M
   | .sl i g off n c=>match Nat.beq src dst with
     |true=>zZ T M src dst i g off n c K
     |false=>p3 T M src dst (.sl i g off n c) fun v=>K v M
   | .str s=>match Lu T src dst with
     |true=>E0 T M src dst s K
     |false=>jx T wr M e (.convert src dst x) fun v=>K v M
   |_=>jx T wr M e (.convert src dst x) fun v=>K v M
 |o=>jx T wr M e o fun v=>K v M
theorem wW {P:Program}{f:FuncId}{args:Array Value}{w:World}{R:Ending→World→Prop}(r:Option Nat)(n:Nat)(h:Calls P f args w R):CallsIn (FW r) n P f args w R:=
 ⟨trivial,fun cs _=>let⟨e,w',fr,hr,s,x⟩:=h cs;⟨e,w',fr,hr,comesIn_wide.2 s,x⟩⟩
section
variable{P:Program}{T:List TI}{r:Option Nat}{Q:Exit→Act→World→Prop}
theorem A1 {ρ:Env}{e:Operand→AV}{v:Operand→Value}(he:Y5 ρ e v)(l:List Operand):l.map v=AV.cl ρ (l.map e)∧AV.eb ρ (l.map e):=by
 constructor
 ·rw[AV.bc,List.map_map]
  exact List.map_congr_left fun z _=>(he z).1
 ·rw[AV.aQ]
  intro z hz
  obtain⟨y,_,rfl⟩:=List.mem_map.1 hz
  exact(he y).2
theorem jB {ρ:Env}{l l':List AV}(h:AV.eb ρ l)(h':AV.eb ρ l'):AV.eb ρ (l++l'):=by
 rw[AV.aQ]at*
 intro v hv
 rcases List.mem_append.1 hv with hv|hv
 ·exact h v hv
 ·exact h' v hv
theorem gW (ρ:Env)(l l':List AV):AV.cl ρ (l++l')=AV.cl ρ l++AV.cl ρ l':=by simp[AV.bc]
set_option maxHeartbeats 1000000 in
theorem wG (hT:av P T){wr:Bool}{M:AH}{e:Operand→AV}{o:Oper}{K Kp:AV→AH→Prop}{ρ:Env}{w:World}{act:Act}(hs:aW ρ M w)(he:Y5 ρ e act.eval)
 (h:JC P T wr M e o.op K Kp){K':Act→World→Prop}
 (hK:∀rv M' ρ' w',K rv M'→rv.ok ρ'→aW ρ' M' w'→Ext ρ M w ρ' M' w'→K' (act.put o.dst (rv.c ρ')) w')
 (hP:∀rv M' ρ' w',Kp rv M'→rv.ok ρ'→aW ρ' M' w'→Ext ρ M w ρ' M' w'→Q (.panic [{v:=rv.c ρ',recovered:=false}]) act w'):
 o.uponIn (FW r) 0 P act K' Q ((execOp act.eval o).run P w):=by
 obtain⟨dst,op,ty,pos,after,guard⟩:=o
 simp only at h hK
 have val:∀{s:Sem Value}{v M' ρ' w'},s.run P w=.ok (v.c ρ') w'→K v M'→v.ok ρ'→aW ρ' M' w'→Ext ρ M w ρ' M' w'→
  Oper.uponIn (FW r) 0 P {dst,op,type:=ty,pos,after,guard} act K' Q ((do pure (.value (←s)):Sem Next).run P w):=by
  intro s v M' ρ' w' h1 h2 h3 h4 h5
  rw[show(do pure (.value (←s)):Sem Next).run P w=.ok (.value (v.c ρ')) w' by simp[h1]]
  exact hK v M' ρ' w' h2 h3 h4 h5
 unfold JC at h
 split at h
 ·rename_i t a v
  obtain⟨M',w',h1,h2,h3,h4⟩:=zJ (P:=P) hT hs (he v).2 h
  rw[←(he a).1,←(he v).1]at h1
  have:(execOp act.eval {dst,op:=.store t a v,type:=ty,pos,after,guard}).run P w=.ok .skip w':=by simp[execOp,h1]
  rw[this]
  exact hK (.aE []) M' ρ w' h2 trivial h3 h4
 ·rename_i t a
  obtain⟨v,h1,h2,h3⟩:=iz (P:=P) hT hs.known (hs.id _) h
  have h4:=h3 w (hs.id _)
  rw[←(he a).1]at h4
  exact val h4 h1 h2 hs (Ext.refl _ _ _)
 ·rename_i t
  obtain⟨v,M',ρ',w',h1,h2,h3,h4,h5⟩:=Be (P:=P) hT hs h
  exact val h1 h2 h3 h4 h5
 ·rename_i t x
  obtain⟨v,M',ρ',w',h1,h2,h3,h4,h5⟩:=E1 (P:=P) (t:=t) hs (he x).2 h
  rw[←(he x).1]at h1
  exact val h1 h2 h3 h4 h5
 ·rename_i t len parts
  obtain⟨v,M',ρ',w',h1,h2,h3,h4,h5⟩:=rO (P:=P) hT hs (by rw[AV.aQ];intro z hz;obtain⟨y,_,rfl⟩:=List.mem_map.1 hz;exact(he y.2).2) h
  have e1:(parts.map fun(i,x)=>(i,act.eval x))=((parts.toList.map (·.1)).zip ((parts.toList.map fun x=>e x.2).map (AV.c ρ))).toArray:=by
   apply Array.toList_inj.1
   rw[Array.toList_map,List.toList_toArray,List.map_map]
   have:∀l:List (Nat×Operand),l.map (fun(i,x)=>(i,act.eval x))=(l.map (·.1)).zip (l.map ((AV.c ρ)∘fun x=>e x.2)):=by
    intro l
    induction l with
    |nil=>rfl
    |cons p l ih=>simp[ih,(he p.2).1]
   exact this _
  rw[←e1]at h1
  exact val h1 h2 h3 h4 h5
 ·rename_i t l c
  obtain⟨v,M',ρ',w',h1,h2,h3,h4,h5⟩:=sJ (P:=P) hT hs h
  rw[←(he l).1,←(he c).1]at h1
  exact val h1 h2 h3 h4 h5
 ·rename_i args js
  split at h
  ·rename_i d x tS tX EH Dq
   obtain rfl:args=#[d,x]:=by apply Array.toList_inj.1;simpa using EH
   obtain rfl:js=#[tS,tX]:=by apply Array.toList_inj.1;simpa using Dq
   split at h
   ·rename_i hX
    obtain⟨v,M',ρ',w',h1,h2,h3,h4,h5⟩:=xd (P:=P) (ty:=ty) hT hs hX h
    rw[←(he d).1,←(he x).1]at h1
    have:=val h1 h2 h3 h4 h5
    simpa[execOp,resolve,invoke,builtin]using this
   ·obtain⟨v,M',ρ',w',h1,h2,h3,h4,h5⟩:=xU (P:=P) (ty:=ty) hT hs (he d).2 h
    rw[←(he d).1,←(he x).1]at h1
    have:=val h1 h2 h3 h4 h5
    simpa[execOp,resolve,invoke,builtin]using this
  ·exact h.elim
 ·rename_i args js
  split at h
  ·rename_i d x tD tS EH Dq
   obtain rfl:args=#[d,x]:=by apply Array.toList_inj.1;simpa using EH
   obtain rfl:js=#[tD,tS]:=by apply Array.toList_inj.1;simpa using Dq
   obtain⟨v,M',w',h1,h2,h3,h4,h5⟩:=CY (P:=P) (ty:=ty) hT hs h
   rw[←(he d).1,←(he x).1]at h1
   have:=val h1 h2 h3 h4 h5
   simpa[execOp,resolve,invoke,builtin]using this
  ·exact h.elim
 ·rename_i args js
  split at h
  ·rename_i x t EH Dq
   obtain rfl:args=#[x]:=by apply Array.toList_inj.1;simpa using EH
   obtain rfl:js=#[t]:=by apply Array.toList_inj.1;simpa using Dq
   split at h
   ·rename_i i g hx
    obtain⟨v,h1,h2,_,h3⟩:=pO (P:=P) (ty:=ty) hT hs.known h
    have h4:=h3 w (hs.id _)
    rw[←hx,←(he x).1]at h4
    have:=val h4 h1 h2 hs (Ext.refl _ _ _)
    simpa[execOp,resolve,invoke,builtin]using this
   ·obtain⟨v,h1,h2,h3⟩:=fG (P:=P) (o:={dst,op:=.call ⟨.builtin .len,#[x],#[t]⟩,type:=ty,pos,after,guard}) hT hs.known he h
    rw[h3 w]
    exact hK v M ρ w h1 h2 hs (Ext.refl _ _ _)
  ·exact h.elim
 ·rename_i t
  obtain⟨v,M',ρ',w',h1,h2,h3,h4,h5⟩:=vS (P:=P) hT hs h
  exact val h1 h2 h3 h4 h5
 ·rename_i t x ix ok
  obtain⟨v,h1,h2,_,h3⟩:=tG (P:=P) hT hs.known (hs.id _) h
  have h4:=h3 w (hs.id _)
  rw[←(he x).1,←(he ix).1]at h4
  exact val h4 h1 h2 hs (Ext.refl _ _ _)
 ·rename_i t m k x
  obtain⟨M',w',h1,h2,h3,h4⟩:=uU (P:=P) hT hs (he x).2 h
  rw[←(he m).1,←(he k).1,←(he x).1]at h1
  have:(execOp act.eval {dst,op:=.mapUpdate t m k x,type:=ty,pos,after,guard}).run P w=.ok .skip w':=by simp[execOp,h1]
  rw[this]
  exact hK (.aE []) M' ρ w' h2 trivial h3 h4
 ·rename_i t m k x
  obtain⟨M',w',h1,h2,h3,h4⟩:=uU (P:=P) hT hs (he x).2 h
  rw[←(he m).1,←(he k).1,←(he x).1]at h1
  have:(execOp act.eval {dst,op:=.insert t m k x,type:=ty,pos,after,guard}).run P w=.ok .skip w':=by simp[execOp,h1]
  rw[this]
  exact hK (.aE []) M' ρ w' h2 trivial h3 h4
 ·rename_i f args js
  split at h
  ·rename_i g first cap hf
   unfold aa at h
   obtain⟨hg,h⟩:=h
   have Dt:=(he f).1
   have y8:=(he f).2
   rw[hf]at Dt y8
   simp only[AV.ok]at y8
   obtain⟨e1,o1⟩:=A1 he args.toList
   have mS:=h ρ w hs (jB (jB y8.1 o1) y8.2)
   rw[gW,gW,←e1]at mS
   have aN:(execOp act.eval {dst,op:=.call ⟨.value f,args,js⟩,type:=ty,pos,after,guard}).run P w=.ok (.enter g (AV.cl ρ first++args.toList.map act.eval++AV.cl ρ cap).toArray) w:=by
    have e2:((AV.cl ρ first).toArray++args.map act.eval++(AV.cl ρ cap).toArray)=(AV.cl ρ first++args.toList.map act.eval++AV.cl ρ cap).toArray:=by
     apply Array.toList_inj.1;simp
    simp only[execOp,resolve,Sem.run_bind,Dt,AV.c,Deferred.ofValue,Sem.run_pure,Result.andThen_ok,invoke]
    rw[e2]
    exact ph hg _ w
   rw[aN]
   refine⟨(fun h=>by cases h),CallsIn.mono (wW r _ mS) fun en w' Rf=>?_⟩
   obtain⟨ρ',M',h1,h2,h3⟩:=Rf
   cases en with
   |returned v=>obtain⟨rv,rfl,h4,h5⟩:=h3;exact hK rv M' ρ' w' h5 h4 h1 h2
   |panicked ch=>obtain⟨rv,rfl,h4,h5⟩:=h3;exact hP rv M' ρ' w' h5 h4 h1 h2
   |outgrown=>exact h3.elim
  ·rename_i l hf
   unfold aS at h
   have Dt:=(he f).1
   rw[hf]at Dt
   obtain⟨e1,o1⟩:=A1 he args.toList
   obtain⟨g,tmps,as,bd,hy,TO⟩:=h ρ w hs o1
   rw[←e1]at hy
   have aN:(execOp act.eval {dst,op:=.call ⟨.value f,args,js⟩,type:=ty,pos,after,guard}).run P w=.ok (.round l g tmps as bd) w:=by
    have e2:(#[]++args.map act.eval:Array Value)=(args.toList.map act.eval).toArray:=by
     apply Array.toList_inj.1;simp
    simp only[execOp,resolve,Sem.run_bind,Dt,AV.c,AV.cl,Deferred.ofValue,Sem.run_pure,Result.andThen_ok,invoke]
    rw[e2];exact hy
   rw[aN]
   refine⟨(fun h=>by cases h),RoundIn.mono (TO r) fun en w' Rf=>?_⟩
   obtain⟨ρ',M',h1,h2,h3⟩:=Rf
   cases en with
   |returned v=>obtain⟨rv,rfl,h4,h5⟩:=h3;exact hK rv M' ρ' w' h5 h4 h1 h2
   |panicked ch=>obtain⟨rv,rfl,h4,h5⟩:=h3;exact hP rv M' ρ' w' h5 h4 h1 h2
   |outgrown=>exact h3.elim
  ·exact h.elim
 ·rename_i recv name args js
  split at h
  ·rename_i t v hx
   have LB:=(he recv).1
   have Wf:v.ok ρ:=by have:=(he recv).2;rw[hx]at this;exact this
   rw[hx]at LB
   simp only[AV.c]at LB
   obtain⟨g,ZM,h,hro,WZ⟩:=Dl hT hs Wf h
   unfold aa at h
   obtain⟨hg,h⟩:=h
   obtain⟨e1,o1⟩:=A1 he args.toList
   have mS:=h ρ w hs ⟨hro,o1⟩
   simp only[AV.cl,←e1]at mS
   have aN:(execOp act.eval {dst,op:=.call ⟨.invoke recv name,args,js⟩,type:=ty,pos,after,guard}).run P w=.ok (.enter g (ZM.c ρ::args.toList.map act.eval).toArray) w:=by
    have e2:((#[act.eval recv]++args.map act.eval).extract 1 (#[act.eval recv]++args.map act.eval).size)=args.map act.eval:=by
     apply Array.toList_inj.1;simp
     exact List.take_of_length_le (by simp)
    have e3:(#[ZM.c ρ]++args.map act.eval)=(ZM.c ρ::args.toList.map act.eval).toArray:=by
     apply Array.toList_inj.1;simp
    have e4:(#[act.eval recv]++args.map act.eval)[0]?=some (act.eval recv):=by rw[←Array.getElem?_toList];simp
    have e5:(execOp act.eval {dst,op:=.call ⟨.invoke recv name,args,js⟩,type:=ty,pos,after,guard}).run P w=(invoke (.fn (.method name) #[]) (#[act.eval recv]++args.map act.eval)).run P w:=rfl
    rw[e5]
    simp only[invoke]
    cases h0:(#[act.eval recv]++args.map act.eval)[0]? with
    |none=>rw[e4]at h0;cases h0
    |some aaS=>
    rw[e4]at h0
    cases h0
    simp only[e2]
    rw[LB,WZ,e3]
    exact ph hg _ w
   rw[aN]
   refine⟨(fun h=>by cases h),CallsIn.mono (wW r _ mS) fun en w' Rf=>?_⟩
   obtain⟨ρ',M',h1,h2,h3⟩:=Rf
   cases en with
   |returned v=>obtain⟨rv,rfl,h4,h5⟩:=h3;exact hK rv M' ρ' w' h5 h4 h1 h2
   |panicked ch=>obtain⟨rv,rfl,h4,h5⟩:=h3;exact hP rv M' ρ' w' h5 h4 h1 h2
   |outgrown=>exact h3.elim
  ·exact h.elim
 ·rename_i x
  split at h
  ·rename_i t v hx
   have LB:=(he x).1
   rw[hx]at LB
   have:(execOp act.eval {dst,op:=.panic x,type:=ty,pos,after,guard}).run P w=.halt (.panic ((AV.jZ t v).c ρ)) w:=by
    simp[execOp,LB,AV.c,Instr.panic]
   rw[this]
   exact hP (.jZ t v) M ρ w h (by rw[←hx];exact(he x).2) hs (Ext.refl _ _ _)
  ·exact h.elim
 ·rename_i src XB x
  split at h
  ·rename_i hx
   obtain⟨v,h1,h2,_,h3⟩:=lR (P:=P) hT hs.known h
   have h4:=h3 w (hs.id _)
   rw[←hx,←(he x).1]at h4
   exact val h4 h1 h2 hs (Ext.refl _ _ _)
  ·rename_i i g off n c hx
   split at h
   ·obtain⟨v,M',ρ',w',h1,h2,h3,h4,h5⟩:=xA (P:=P) hT hs h
    rw[←hx,←(he x).1]at h1
    exact val h1 h2 h3 h4 h5
   ·obtain⟨v,h1,h2,_,h3⟩:=lR (P:=P) hT hs.known h
    have h4:=h3 w (hs.id _)
    rw[←hx,←(he x).1]at h4
    exact val h4 h1 h2 hs (Ext.refl _ _ _)
  ·rename_i s hx
   split at h
   ·obtain⟨v,M',ρ',w',h1,h2,h3,h4,h5⟩:=A3 (P:=P) hT hs h
    have LB:=(he x).1
    rw[hx]at LB
    simp only[AV.c]at LB
    rw[←LB]at h1
    exact val h1 h2 h3 h4 h5
   ·obtain⟨v,h1,h2,h3⟩:=fG (P:=P) (o:={dst,op:=.convert src XB x,type:=ty,pos,after,guard}) hT hs.known he h
    rw[h3 w]
    exact hK v M ρ w h1 h2 hs (Ext.refl _ _ _)
  ·obtain⟨v,h1,h2,h3⟩:=fG (P:=P) (o:={dst,op:=.convert src XB x,type:=ty,pos,after,guard}) hT hs.known he h
   rw[h3 w]
   exact hK v M ρ w h1 h2 hs (Ext.refl _ _ _)
 ·obtain⟨v,h1,h2,h3⟩:=fG (P:=P) (o:={dst,op,type:=ty,pos,after,guard}) hT hs.known he h
  rw[h3 w]
  exact hK v M ρ w h1 h2 hs (Ext.refl _ _ _)
end
def ofB (b:Bool):AV:=match b with|true=>.tt|false=>.ff
def my (n:Nat)(ops:Array Oper)(o:Oper)(a:AA)(run skip:AA→Prop):Prop:=
 match o.guard with
 |none=>run a
 |some (j,want)=>match ops[j]? with
  |some oj=>match oj.dst with
   |some t=>match a t with
    | .tt=>match want with
      |true=>run a
      |false=>skip a
    | .ff=>match want with
      |true=>skip a
      |false=>run a
    | .bo x=>match want with
      |true=>(x=true→run (a.put n (some t) .tt))∧(x=false→skip (a.put n (some t) .ff))
      |false=>(x=true→skip (a.put n (some t) .tt))∧(x=false→run (a.put n (some t) .ff))
    | .aE []=>skip a
    |_=>False
   |none=>False
  |none=>False
def dy (l:List Nat)(t:Option Nat):Bool:=
 match t with
 |none=>false
 |some t=>match l with
  |[]=>false
  |x::l=>Nat.beq x t||dy l (some t)
def nw (P:Program)(T:List TI)(n:Nat)(W:List Nat)(ops:Array Oper)(o:Oper)(a:AA)(M:AH)(K:AA→AH→Prop)(Kp:AV→AH→Prop):Prop:=
 bK (cN o.op) (my n ops o a (fun a=>JC P T (dy W o.dst) M (qL a) o.op (fun v M'=>K (a.put n o.dst v) M') Kp) (fun a=>K (a.put n o.dst (.aE [])) M))
section
variable{P:Program}{T:List TI}{r:Option Nat}{Q:Exit→Act→World→Prop}
theorem pX {ρ:Env}{D:List Deferred}{n:Nat}{a:AA}{act:Act}(h:bQ ρ D n a act){ops:Array Oper}{j t:Nat}{oj:Oper}(hj:ops[j]?=some oj)(hd:oj.dst=some t){b:Bool}(hb:(a t).c ρ=.bool b):yielded ops act.tmps j=some b:=by
 have hg:=h.get t
 rw[hb]at hg
 have:act.tmps[t]?=some (.bool b):=by
  rw[Array.getD_eq_getD_getElem?]at hg
  cases hh:act.tmps[t]? with
  |none=>rw[hh]at hg;simp[undef]at hg
  |some v=>rw[hh]at hg;simpa using hg
 simp[yielded,hj,hd,this]
theorem mw {ρ:Env}{D:List Deferred}{n:Nat}{a:AA}{act:Act}(h:bQ ρ D n a act){ops:Array Oper}{o:Oper}{run skip:AA→Prop}(hg:my n ops o a run skip):
 ∃a',bQ ρ D n a' act∧((Region.wanted o (yielded ops act.tmps)=true∧run a')∨(Region.wanted o (yielded ops act.tmps)=false∧skip a')):=by
 have same:∀(t:Nat)(x b:Bool)(v:AV),a t=.bo x→x=b→v.c ρ=.bool b→v.ok ρ→bQ ρ D n (a.put n (some t) v) act:=by
  intro t x b v ha hx hv aF
  have h1:=h.put (some t) aF
  have:act.put (some t) (v.c ρ)=act:=by
   have Jn:=h.get t
   rw[ha]at Jn
   simp only[AV.c,hx]at Jn
   rw[hv]
   cases act with
   |mk tmps defers=>
    simp only[Act.put,Act.mk.injEq,and_true]
    apply Array.ext (by simp)
    intro i h1 h2
    by_cases hi:t=i
    ·subst hi
     simp only at Jn
     rw[Array.getElem_setIfInBounds_self]
     rw[Array.getD_eq_getD_getElem?,Array.getElem?_eq_getElem h2]at Jn
     exact Jn.symm
    ·rw[Array.getElem_setIfInBounds_ne _ hi]
  rw[this]at h1
  exact h1
 unfold my at hg
 unfold Region.wanted
 split at hg
 ·rename_i Ub
  exact⟨a,h,.inl ⟨by rw[Ub],hg⟩⟩
 ·rename_i j want Ub
  rw[Ub]
  simp only
  split at hg
  ·rename_i oj xi
   split at hg
   ·rename_i t Zv
    split at hg
    ·rename_i gn
     have hy:=pX h xi Zv (b:=true) (by rw[gn];rfl)
     rw[hy]
     split at hg
     ·exact⟨a,h,.inl ⟨rfl,hg⟩⟩
     ·exact⟨a,h,.inr ⟨rfl,hg⟩⟩
    ·rename_i gn
     have hy:=pX h xi Zv (b:=false) (by rw[gn];rfl)
     rw[hy]
     split at hg
     ·exact⟨a,h,.inr ⟨rfl,hg⟩⟩
     ·exact⟨a,h,.inl ⟨rfl,hg⟩⟩
    ·rename_i x gn
     have hy:=pX h xi Zv (b:=x) (by rw[gn];rfl)
     rw[hy]
     split at hg
     ·cases x with
      |true=>exact⟨_,same t _ true .tt gn rfl rfl trivial,.inl ⟨rfl,hg.1 rfl⟩⟩
      |false=>exact⟨_,same t _ false .ff gn rfl rfl trivial,.inr ⟨rfl,hg.2 rfl⟩⟩
     ·cases x with
      |true=>exact⟨_,same t _ true .tt gn rfl rfl trivial,.inr ⟨rfl,hg.1 rfl⟩⟩
      |false=>exact⟨_,same t _ false .ff gn rfl rfl trivial,.inl ⟨rfl,hg.2 rfl⟩⟩
    ·rename_i gn
     refine⟨a,h,.inr ⟨?_,hg⟩⟩
     have Jn:=h.get t
     rw[gn]at Jn
     have hy:yielded ops act.tmps j=none:=by
      simp only[yielded,xi,Option.bind_some,Zv]
      cases hx:act.tmps[t]? with
      |none=>rfl
      |some v=>
       rw[Array.getD_eq_getD_getElem?,hx]at Jn
       simp only[Option.getD_some,AV.c,AV.cl]at Jn
       rw[Jn]
     rw[hy];rfl
    ·exact hg.elim
   ·exact hg.elim
  ·exact hg.elim
theorem ey (hT:av P T){n:Nat}{W:List Nat}{ops:Array Oper}{o:Oper}{a:AA}{M:AH}{K:AA→AH→Prop}{Kp:AV→AH→Prop}{ρ:Env}{D:List Deferred}{w:World}{act:Act}(hs:aW ρ M w)(ha:bQ ρ D n a act)
 (h:nw P T n W ops o a M K Kp){K':Act→World→Prop}
 (hK:∀a' aP M' ρ' w',K a' M'→bQ ρ' D n a' aP→aW ρ' M' w'→Ext ρ M w ρ' M' w'→K' aP w')
 (hP:∀rv M' ρ' w',Kp rv M'→rv.ok ρ'→aW ρ' M' w'→Ext ρ M w ρ' M' w'→Q (.panic [{v:=rv.c ρ',recovered:=false}]) act w'):
 cN o.op=true∧xI r P ops Q o K' act w:=by
 unfold nw at h
 replace h:=aw h
 obtain⟨hp,h⟩:=h
 refine⟨hp,?_⟩
 obtain⟨a',sW,h⟩:=mw ha h
 unfold xI
 rcases h with⟨hw,h⟩|⟨hw,h⟩
 ·rw[if_pos hw]
  exact wG hT hs sW.ev h (fun rv M' ρ' w' h1 h2 h3 h4=>hK _ _ M' ρ' w' h1 ((sW.ext h4.env).put o.dst h2) h3 h4) hP
 ·rw[if_neg (by rw[hw];simp)]
  exact hK _ _ M ρ w h (sW.put o.dst (v:=.aE []) trivial) hs (Ext.refl _ _ _)
def sf (P:Program)(T:List TI)(n:Nat)(W:List Nat)(ops:Array Oper)(Kp:AV→AH→Prop)(K:AA→AH→Prop):List Oper→AA→AH→Prop
 |[],a,M=>K a M
 |o::l,a,M=>nw P T n W ops o a M (fun a M=>sf P T n W ops Kp K l a M) Kp
theorem uR {i:Nat}{l:List Nat}{ops:Array Oper}{o:Oper}{act:Act}{w:World}(hi:ops[i]?=some o)(hp:cN o.op=true)(h:xI r P ops Q o (wpOpsIn (FW r) 0 P ops Q l) act w):wpOpsIn (FW r) 0 P ops Q (i::l) act w:=by
 rw[wpOpsIn_cons]
 exact xZ hi hp h
theorem p9 (hT:av P T){n:Nat}{W:List Nat}{ops:Array Oper}{K:AA→AH→Prop}{Kp:AV→AH→Prop}{D:List Deferred}{ρ0:Env}{M0:AH}{w0:World}:
 ∀(l:List Oper)(k:Nat)(a:AA)(M:AH)(ρ:Env)(w:World)(act:Act),ops.toList.drop k=l→aW ρ M w→Ext ρ0 M0 w0 ρ M w→bQ ρ D n a act→sf P T n W ops Kp K l a M→
  (∀a' aP M' ρ' w',K a' M'→bQ ρ' D n a' aP→aW ρ' M' w'→Ext ρ0 M0 w0 ρ' M' w'→Q .normal aP w')→
  (∀rv M' ρ' w' aP,aP.defers=D→Kp rv M'→rv.ok ρ'→aW ρ' M' w'→Ext ρ0 M0 w0 ρ' M' w'→Q (.panic [{v:=rv.c ρ',recovered:=false}]) aP w')→
  wpOpsIn (FW r) 0 P ops Q (List.range' k l.length) act w
 |[],k,a,M,ρ,w,act,_,hs,hE,ha,h,hK,hP=>hK a act M ρ w h ha hs hE
 |o::l,k,a,M,ρ,w,act,hl,hs,hE,ha,h,hK,hP=>by
  have hi:ops[k]?=some o:=by
   have:=congrArg (fun l=>l[0]?) hl
   simpa using this
  have T4:ops.toList.drop (k+1)=l:=by
   have:=congrArg List.tail hl
   simpa using this
  simp only[sf]at h
  have key:=ey (r:=r) (Q:=Q) (K':=wpOpsIn (FW r) 0 P ops Q (List.range' (k+1) l.length)) hT hs ha h
   (fun a' aP M' ρ' w' h1 h2 h3 h4=>p9 hT l (k+1) a' M' ρ' w' aP T4 h3 (hE.trans h4) h2 h1 hK hP)
   (fun rv M' ρ' w' h1 h2 h3 h4=>hP rv M' ρ' w' act ha.defers h1 h2 h3 (hE.trans h4))
  rw[List.length_cons,List.range'_succ]
  exact uR hi key.1 key.2
end
end Go.Proofs.Ytibadaomjlkoaaa
open Go.RowKit
namespace Go.Proofs.Ytibadaomjlkoaaa
def CQ (B:List Nat)(M M':AH):Prop:=∀b∈B,∀o,M[b]?=some o→M'[b]?=some o
def mT (B:List Nat)(M M':AH)(p:Prop):Prop:=
 match B with
 |[]=>p
 |b::B=>match M[b]? with
  |some o=>M'[b]?=some o∧mT B M M' p
  |none=>mT B M M' p
theorem mC {B:List Nat}{M M':AH}{p:Prop}(h:mT B M M' p):CQ B M M'∧p:=by
 induction B with
 |nil=>exact⟨fun b hb=>absurd hb List.not_mem_nil,h⟩
 |cons x B ih=>
  simp only[mT]at h
  split at h
  ·rename_i o ho
   refine⟨fun b hb o' wo=>?_,(ih h.2).2⟩
   rcases List.mem_cons.1 hb with rfl|hb
   ·rw[ho]at wo;injection wo with wo;subst wo;exact h.1
   ·exact(ih h.2).1 b hb o' wo
  ·rename_i ho
   refine⟨fun b hb o' wo=>?_,(ih h).2⟩
   rcases List.mem_cons.1 hb with rfl|hb
   ·rw[ho]at wo;cases wo
   ·exact(ih h).1 b hb o' wo
theorem CQ.trans {B:List Nat}{M M' mK:AH}(h:CQ B M M')(h':CQ B M' mK):CQ B M mK:=fun b hb o ho=>h' b hb o (h b hb o ho)
def gw (P:Program)(T:List TI)(n:Nat)(W:List Nat)(ops:Array Oper)(Kp:AV→AH→Prop)(K:AA→AH→Prop)(B:List Nat):List Nat→List (Nat×Nat)→AA→AH→Prop
 |_,[],a,M=>K a M
 |sk,(i,md)::l,a,M=>match dy sk (some i)with
  |true=>gw P T n W ops Kp K B sk l a M
  |false=>match ops[i]? with
   |none=>False
   |some o=>match md with
    |0=>bK (cN o.op) (my n ops o a (fun a=>jx T (dy W o.dst) M (qL a) o.op fun v=>gw P T n W ops Kp K B sk l (a.put n o.dst v) M) (fun a=>gw P T n W ops Kp K B sk l (a.put n o.dst (.aE [])) M))
    |1=>bK (cN o.op) (my n ops o a (fun a=>match o.op with
      | .load t x=>bK (dy B (some (qL a x).id)) (rF T M t (qL a x) fun v=>gw P T n W ops Kp K B sk l (a.put n o.dst v) M)
      | .convert s d x=>bK (dy B (some (qL a x).id)) (p3 T M s d (qL a x) fun v=>gw P T n W ops Kp K B sk l (a.put n o.dst v) M)
      | .lookup t x ix ok=>bK (dy B (some (qL a x).id)) (yQ T M t (qL a x) (qL a ix) ok fun v=>gw P T n W ops Kp K B sk l (a.put n o.dst v) M)
      | .call ⟨.builtin .len,args,js⟩=>match args.toList,js.toList with
        |[x],[t]=>bK (dy B (some (qL a x).id)) (oX T M t (qL a x) fun v=>gw P T n W ops Kp K B sk l (a.put n o.dst v) M)
        |_,_=>False
      |_=>False) (fun a=>gw P T n W ops Kp K B sk l (a.put n o.dst (.aE [])) M))
    |2=>nw P T n W ops o a M (fun a M'=>mT B M M' (gw P T n W ops Kp K B sk l a M')) Kp
    |3=>nw P T n W ops o a M (fun a M'=>gw P T n W ops Kp K B sk l a M') Kp
    |j+4=>match ops[j]? with
     |none=>False
     |some oj=>nw P T n W ops o a M (fun a M'=>mT B M M' (gw P T n W ops Kp K B sk l a M')) Kp∧nw P T n W ops oj a M (fun a M'=>mT B M M' (nw P T n W ops o a M' (fun a mK=>mT B M' mK (gw P T n W ops Kp K B (j::sk) l a mK)) Kp)) Kp
def iY (sk:List Nat)(l:List (Nat×Nat)):Nat:=(l.filter fun x=>!(dy sk (some x.1))).length
def qb (ops:Array Oper)(ds:List Nat):List Nat→List (Nat×Nat)→Array Bool→Bool
 |_,[],l=>Region.ready .any ops l==[]
 |sk,(i,md)::r,l=>match dy sk (some i)with
  |true=>qb ops ds sk r l
  |false=>(match md with
   |0=>Region.free .any ops l i&&(Region.ready .any ops l).contains i
   |1=>Region.free .any ops l i&&(Region.ready .any ops l).contains i&&ds.all fun d=>l.getD d true||waits ops i ops.size d
   |2=>(Region.ready .any ops l==[i])&&!(ds.contains i)
   |3=>(Region.ready .any ops l==[i])&&ds.contains i&&r.all (fun x=>!(x.2==1)&&!(x.2==2)&&!(Nat.ble 4 x.2))
   |j+4=>(Region.ready .any ops l==[i,j]||Region.ready .any ops l==[j,i])&&(!(ds.contains i)&&!(ds.contains j))&&(Region.ready .any ops (l.setIfInBounds j true)==[i])&&Nat.blt (iY (j::sk) r) (iY sk r)&&
     qb ops ds (j::sk) r ((l.setIfInBounds j true).setIfInBounds i true))&&qb ops ds sk r (l.setIfInBounds i true)
theorem pq {l:List Nat}{t:Nat}(h:dy l (some t)=true):t∈l:=by
 induction l with
 |nil=>simp[dy]at h
 |cons x l ih=>
  simp only[dy,Bool.or_eq_true]at h
  rcases h with h|h
  ·rw[Nat.eq_of_beq_eq_true h];exact List.mem_cons_self
  ·exact List.mem_cons_of_mem _ (ih h)
section
variable{r:Option Nat}{P:Program}{ops:Array Oper}{Q:Exit→Act→World→Prop}{S:World→Prop}{ds:List Nat}
theorem zr {i:Nat}{oi:Oper}{v:Value}(hi:ops[i]?=some oi)(hp:∀(i:Nat) o,ops[i]?=some o→cN o.op=true)
 (hQ:∀c a w,Q (.panic c) (a.put oi.dst v) w→Q (.panic c) a w):
 ∀(f:Nat)(l:Array Bool)(a:Act)(w:World),
  (∀j oj,ops[j]?=some oj→j≠i→l.getD j true=false→(∀e∈oj.after,Region.binds .any e=true→e.on≠i)→oi.apart ops oj=true)→
  i∈Region.ready .any ops l→YI P ops (fun _=>True) oi v a→
  anyS r P ops Q S ds f (l.setIfInBounds i true) (a.put oi.dst v) w→anyS r P ops Q S ds (f+1) l a w:=by
 intro f
 induction f with
 |zero=>
  intro l a w _ hr hy H
  refine⟨fun h=>(by rw[h]at hr;cases hr),fun j hj o ho=>?_⟩
  by_cases gQ:j=i
  ·subst gQ
   rw[hi]at ho;injection ho with ho;subst ho
   exact hy.xI trivial ⟨fun _=>.inl rfl,H⟩
  ·have:=ready_mono hj gQ
   rw[H.1]at this
   cases this
 |succ f ih=>
  intro l a w ky hr hy H
  refine⟨fun h=>(by rw[h]at hr;cases hr),fun j hj oj xi=>?_⟩
  by_cases gQ:j=i
  ·subst gQ
   rw[hi]at xi;injection xi with xi;subst xi
   exact hy.xI trivial ⟨fun _=>.inl rfl,H⟩
  ·have h1:=H.2 j (ready_mono hj gQ) oj xi
   obtain⟨EF,oj',AE,hall⟩:=mem_ready.1 hj
   rw[xi]at AE;injection AE with AE;subst AE
   have Jm:=(mem_ready.1 hr).1
   have TW:∀e∈oj.after,Region.binds .any e=true→e.on≠i:=fun e he hb heq=>by
    have h1:=hall e he hb
    rw[heq]at h1
    rcases Nat.lt_or_ge i l.size with h'|h'
    ·simp[h']at Jm h1;rw[Jm]at h1;cases h1
    ·simp[Array.getElem?_eq_none h']at h1
   have h2:=Hg (ky j oj xi gQ EF TW) (hp i oi hi) (hp j oj xi) hQ hy h1
   refine ru (fun a' w' h3=>⟨h3.2.1,ih (l.setIfInBounds j true) a' w' ?_ (ready_mono hr (Ne.symm gQ)) h3.1 ?_⟩) h2
   ·intro k ok hk Zr ku tL
    refine ky k ok hk Zr ?_ tL
    by_cases LU:j=k
    ·subst LU;exact EF
    ·rw[getD_set_ne true LU]at ku;exact ku
   ·rw[Array.setIfInBounds_comm _ _ gQ]
    exact h3.2.2
theorem JQ {l:Array Bool}{a:Act}{w:World}(hr:Region.ready .any ops l=[])(h:Q .normal a w):∀f,anyS r P ops Q S ds f l a w
 |0=>⟨hr,h⟩
 |_+1=>⟨fun _=>h,by rw[hr];simp⟩
theorem xf {i f:Nat}{o:Oper}{l:Array Bool}{a:Act}{w:World}(hr:Region.ready .any ops l=[i])(hi:ops[i]?=some o)
 (h:xI r P ops Q o (fun a' w'=>(i∉ds→w'=w∨S w')∧anyS r P ops Q S ds f (l.setIfInBounds i true) a' w') a w):anyS r P ops Q S ds (f+1) l a w:=by
 refine⟨fun h=>(by rw[hr]at h;cases h),fun j hj o' wo=>?_⟩
 rw[hr]at hj
 obtain rfl:=List.mem_singleton.1 hj
 rw[hi]at wo;injection wo with wo;subst wo
 exact h
def SB (ρ0:Env)(M0:AH)(B:List Nat)(w:World):Prop:=∀b∈B,fy ρ0 M0 b w
theorem pw {ρ0 ρ':Env}{M0 M':AH}{B:List Nat}{w0 w':World}(h0:SB ρ0 M0 B w0)(hs:aW ρ' M' w')(he:∀i g l,ρ0 i g=some l→ρ' i g=some l)(hB:CQ B M0 M'):SB ρ0 M0 B w':=by
 intro b hb g own x q de hq
 have PS:slot M' b g=some (own,x):=by
  unfold slot at de⊢
  cases ho:M0[b]? with
  |none=>rw[ho]at de;cases de
  |some o=>rw[ho]at de;rw[hB b hb o ho];exact de
 exact(h0 b hb g own x q de hq).back he (hs.id b g own x q PS (he _ _ _ hq))
theorem SB.of {ρ:Env}{M:AH}{w:World}(h:aW ρ M w)(B:List Nat):SB ρ M B w:=fun b _=>h.id b
variable{T:List TI}
set_option maxHeartbeats 1000000 in
theorem bE (hT:av P T){n:Nat}{W:List Nat}{K:AA→AH→Prop}{Kp:AV→AH→Prop}{B:List Nat}{D:List Deferred}{ρ0:Env}{M0:AH}{w0:World}
 (hp:∀(i:Nat) o,ops[i]?=some o→cN o.op=true)
 (hQ:∀c (a:Act) d v w,Q (.panic c) (a.put d v) w→Q (.panic c) a w):
 ∀(cK:List (Nat×Nat))(sk:List Nat)(l:Array Bool)(f:Nat)(a:AA)(M:AH)(ρ:Env)(w:World)(act:Act)(S:World→Prop),iY sk cK≤f→qb ops ds sk cK l=true→jY ops l→
  aW ρ M w→Ext ρ0 M0 w0 ρ M w→bQ ρ D n a act→(cK.any (fun x=>x.2==1)=true→S w)→(∀w',S w'→SB ρ M B w')→(cK.any (fun x=>x.2==2||Nat.ble 4 x.2)=true→∀ρ' M' w',aW ρ' M' w'→(∀i g l,ρ i g=some l→ρ' i g=some l)→CQ B M M'→S w')→gw P T n W ops Kp K B sk cK a M→
  (∀a' aP M' ρ' w',K a' M'→bQ ρ' D n a' aP→aW ρ' M' w'→Ext ρ0 M0 w0 ρ' M' w'→Q .normal aP w')→
  (∀rv M' ρ' w' aP,aP.defers=D→Kp rv M'→rv.ok ρ'→aW ρ' M' w'→Ext ρ0 M0 w0 ρ' M' w'→Q (.panic [{v:=rv.c ρ',recovered:=false}]) aP w')→
  anyS r P ops Q S ds f l act w
 |[],sk,l,f,a,M,ρ,w,act,S,_,cg,_,hs,hE,ha,_,_,_,h,hK,hP=>by
  simp only[qb,beq_iff_eq]at cg
  exact JQ cg (hK a act M ρ w h ha hs hE) f
 |(i,md)::cK,sk,l,f,a,M,ρ,w,act,S,hf,cg,hc,hs,hE,ha,hS,JZ,HI,h,hK,hP=>by
  simp only[qb]at cg
  simp only[gw]at h
  cases TM:dy sk (some i)with
  |true=>
   rw[TM]at cg h
   exact bE hT hp hQ cK sk l f a M ρ w act S (by simpa[iY,TM]using hf) cg hc hs hE ha (fun hh=>hS (by simp only[List.any_cons,hh,Bool.or_true])) JZ (fun hh=>HI (by simp only[List.any_cons,hh,Bool.or_true])) h hK hP
  |false=>
  rw[TM]at cg h
  have hf0:iY sk cK+1≤f:=by simpa[iY,TM]using hf
  obtain⟨f,rfl⟩:∃f',f=f'+1:=⟨f-1,by omega⟩
  simp only[Bool.and_eq_true]at cg
  obtain⟨hm,cg⟩:=cg
  simp only at h
  split at h
  ·exact h.elim
  ·rename_i o hi
   have AJ:iY sk cK≤f:=by omega
   have Up:cK.any (fun x=>x.2==1)=true→S w:=fun hh=>hS (by simp only[List.any_cons,hh,Bool.or_true])
   have EJ:=fun(hh:cK.any (fun x=>x.2==2||Nat.ble 4 x.2)=true)=>HI (by simp only[List.any_cons,hh,Bool.or_true])
   split at h
   ·simp only[Bool.and_eq_true,List.contains_iff_mem]at hm
    have cX:i∈Region.ready .any ops l:=by simpa using hm.2
    replace h:=(aw h).2
    obtain⟨a',sW,h⟩:=mw ha h
    rcases h with⟨hw,h⟩|⟨hw,h⟩
    ·obtain⟨v,h1,h2,h3⟩:=fG hT hs.known sW.ev h
     refine zr hi hp (fun c a w=>hQ c a o.dst _ w) f l act w (Region.free_spec hi hm.1) cX (.inl ⟨hw,fun w' _=>h3 w'⟩) ?_
     exact bE hT hp hQ cK sk _ f _ M ρ w _ S AJ cg (hc.set cX) hs hE (sW.put o.dst h2) Up JZ EJ h1 hK hP
    ·refine zr hi hp (fun c a w=>hQ c a o.dst _ w) f l act w (Region.free_spec hi hm.1) cX (.inr ⟨hw,rfl⟩) ?_
     exact bE hT hp hQ cK sk _ f _ M ρ w _ S AJ cg (hc.set cX) hs hE (sW.put o.dst (v:=.aE []) trivial) Up JZ EJ h hK hP
   ·simp only[Bool.and_eq_true,List.contains_iff_mem]at hm
    obtain⟨⟨ky,hrd⟩,hds⟩:=hm
    have cX:i∈Region.ready .any ops l:=by simpa using hrd
    have CA:∀d∈ds,l.getD d true=false→waits ops i ops.size d=true:=fun d hd ku=>by
     have:=List.all_eq_true.1 hds d hd
     rw[ku]at this
     simpa using this
    have Xg:=hS (by simp)
    replace h:=(aw h).2
    obtain⟨a',sW,h⟩:=mw ha h
    rcases h with⟨hw,h⟩|⟨hw,h⟩
    ·split at h
     ·rename_i t x uj
      replace h:=aw h
      obtain⟨P9,h⟩:=h
      have kJ:=pq P9
      obtain⟨v,h1,h2,h3⟩:=iz (P:=P) hT hs.known (hs.id _) h
      have hx:=(sW.ev x)
      have aN:∀w',S w'→(execOp act.eval o).run P w'=.ok (.value (v.c ρ)) w':=by
       intro w' TF
       have h4:=h3 w' (JZ w' TF _ kJ)
       rw[←hx.1]at h4
       obtain⟨dst,op,ty,pos,after,guard⟩:=o
       simp only at uj
       subst uj
       simp[execOp,h4]
      refine lF hi hp (fun c a w=>hQ c a o.dst _ w) f l act w (Region.free_spec hi ky) hc CA cX (.inl ⟨hw,aN⟩) Xg ?_
      exact bE hT hp hQ cK sk _ f _ M ρ w _ S AJ cg (hc.set cX) hs hE (sW.put o.dst h2) Up JZ EJ h1 hK hP
     ·rename_i t t' x uj
      replace h:=aw h
      obtain⟨P9,h⟩:=h
      have kJ:=pq P9
      obtain⟨v,h1,h2,Rd,h3⟩:=lR (P:=P) hT hs.known h
      have hx:=(sW.ev x)
      have aN:∀w',S w'→(execOp act.eval o).run P w'=.ok (.value (v.c ρ)) w':=by
       intro w' TF
       have h4:=h3 w' (JZ w' TF _ kJ)
       rw[←hx.1]at h4
       obtain⟨dst,op,ty,pos,after,guard⟩:=o
       simp only at uj
       subst uj
       simp[execOp,h4]
      refine lF hi hp (fun c a w=>hQ c a o.dst _ w) f l act w (Region.free_spec hi ky) hc CA cX (.inl ⟨hw,aN⟩) Xg ?_
      exact bE hT hp hQ cK sk _ f _ M ρ w _ S AJ cg (hc.set cX) hs hE (sW.put o.dst h2) Up JZ EJ h1 hK hP
     ·rename_i t x ix ok uj
      replace h:=aw h
      obtain⟨P9,h⟩:=h
      have kJ:=pq P9
      obtain⟨v,h1,h2,Rd,h3⟩:=tG (P:=P) hT hs.known (hs.id _) h
      have hx:=(sW.ev x)
      have Nc:=(sW.ev ix)
      have aN:∀w',S w'→(execOp act.eval o).run P w'=.ok (.value (v.c ρ)) w':=by
       intro w' TF
       have h4:=h3 w' (JZ w' TF _ kJ)
       rw[←hx.1,←Nc.1]at h4
       obtain⟨dst,op,ty,pos,after,guard⟩:=o
       simp only at uj
       subst uj
       simp[execOp,h4]
      refine lF hi hp (fun c a w=>hQ c a o.dst _ w) f l act w (Region.free_spec hi ky) hc CA cX (.inl ⟨hw,aN⟩) Xg ?_
      exact bE hT hp hQ cK sk _ f _ M ρ w _ S AJ cg (hc.set cX) hs hE (sW.put o.dst h2) Up JZ EJ h1 hK hP
     ·rename_i args js uj
      split at h
      ·rename_i x t EH Dq
       obtain rfl:args=#[x]:=by apply Array.toList_inj.1;simpa using EH
       obtain rfl:js=#[t]:=by apply Array.toList_inj.1;simpa using Dq
       replace h:=aw h
       obtain⟨P9,h⟩:=h
       have kJ:=pq P9
       obtain⟨v,h1,h2,Rd,h3⟩:=pO (P:=P) (ty:=o.type) hT hs.known h
       have hx:=(sW.ev x)
       have aN:∀w',S w'→(execOp act.eval o).run P w'=.ok (.value (v.c ρ)) w':=by
        intro w' TF
        have h4:=h3 w' (JZ w' TF _ kJ)
        rw[←hx.1]at h4
        obtain⟨dst,op,ty,pos,after,guard⟩:=o
        simp only at uj h4
        subst uj
        simp[execOp,resolve,invoke,builtin,h4]
       refine lF hi hp (fun c a w=>hQ c a o.dst _ w) f l act w (Region.free_spec hi ky) hc CA cX (.inl ⟨hw,aN⟩) Xg ?_
       exact bE hT hp hQ cK sk _ f _ M ρ w _ S AJ cg (hc.set cX) hs hE (sW.put o.dst h2) Up JZ EJ h1 hK hP
      ·exact h.elim
     ·exact h.elim
    ·refine lF hi hp (fun c a w=>hQ c a o.dst _ w) f l act w (Region.free_spec hi ky) hc CA cX (.inr ⟨hw,rfl⟩) Xg ?_
     exact bE hT hp hQ cK sk _ f _ M ρ w _ S AJ cg (hc.set cX) hs hE (sW.put o.dst (v:=.aE []) trivial) Up JZ EJ h hK hP
   ·simp only[Bool.and_eq_true,beq_iff_eq]at hm
    have cX:i∈Region.ready .any ops l:=by rw[hm.1];exact List.mem_singleton.2 rfl
    refine xf hm.1 hi ?_
    refine(ey (r:=r) (Q:=Q) hT hs ha h ?_ ?_).2
    ·intro a' aP M' ρ' w' h1 h2 h3 h4
     replace h1:=mC h1
     have EK:=hE.trans h4
     have HI:=HI (by simp)
     have EI:=HI ρ' M' w' h3 h4.env h1.1
     refine⟨fun _=>.inr EI,?_⟩
     refine iD (S:=fun u=>S u∧SB ρ' M' B u) (fun u hu=>hu.1) f _ _ _ ?_
     refine bE hT hp hQ cK sk _ f a' M' ρ' w' aP (fun u=>S u∧SB ρ' M' B u) AJ cg (hc.set cX) h3 EK h2 (fun _=>⟨EI,SB.of h3 B⟩) (fun u hu=>hu.2) ?_ h1.2 hK hP
     intro _ iG mK xh k1 k2 k3
     exact⟨HI iG mK xh k1 (fun i g l e=>k2 i g l (h4.env i g l e)) (h1.1.trans k3),pw (SB.of h3 B) k1 k2 k3⟩
    ·intro rv M' ρ' w' h1 h2 h3 h4
     exact hP rv M' ρ' w' act ha.defers h1 h2 h3 (hE.trans h4)
   ·simp only[Bool.and_eq_true,beq_iff_eq]at hm
    obtain⟨⟨Bi,uk⟩,tL⟩:=hm
    have cX:i∈Region.ready .any ops l:=by rw[Bi];exact List.mem_singleton.2 rfl
    refine xf Bi hi ?_
    refine(ey (r:=r) (Q:=Q) hT hs ha h ?_ ?_).2
    ·intro a' aP M' ρ' w' h1 h2 h3 h4
     have EK:=hE.trans h4
     refine⟨fun hn=>absurd (by simpa using uk) hn,?_⟩
     have aai:cK.any (fun x=>x.2==1)=true→False:=by
      intro xP
      obtain⟨x,hx,Dp⟩:=List.any_eq_true.1 xP
      have:=List.all_eq_true.1 tL x hx
      rw[Dp]at this
      simp at this
     have aah:cK.any (fun x=>x.2==2||Nat.ble 4 x.2)=true→False:=by
      intro xP
      obtain⟨x,hx,Dp⟩:=List.any_eq_true.1 xP
      have:=List.all_eq_true.1 tL x hx
      simp only[Bool.and_eq_true,Bool.not_eq_true']at this
      rw[this.1.2,this.2]at Dp
      cases Dp
     refine iD (S:=fun _=>False) (fun u hu=>hu.elim) f _ _ _ ?_
     exact bE hT hp hQ cK sk _ f a' M' ρ' w' aP (fun _=>False) AJ cg (hc.set cX) h3 EK h2 (fun xP=>aai xP) (fun u hu=>hu.elim) (fun xP=>(aah xP).elim) h1 hK hP
    ·intro rv M' ρ' w' h1 h2 h3 h4
     exact hP rv M' ρ' w' act ha.defers h1 h2 h3 (hE.trans h4)
   ·rename_i j
    split at h
    ·exact h.elim
    ·rename_i oj hj
     simp only[Bool.and_eq_true,Bool.or_eq_true,beq_iff_eq]at hm
     obtain⟨⟨⟨⟨Bi,uk,HC⟩,hrj⟩,a8⟩,aae⟩:=hm
     have Jc:iY (j::sk) cK<iY sk cK:=by simpa using a8
     have cX:i∈Region.ready .any ops l:=by rcases Bi with e|e<;>rw[e]<;>simp
     have PV:j∈Region.ready .any ops l:=by rcases Bi with e|e<;>rw[e]<;>simp
     refine⟨fun h0=>(by rw[h0]at cX;cases cX),fun k hk ok aF=>?_⟩
     have mr:k=i∨k=j:=by rcases Bi with e|e<;>rw[e]at hk<;>simp at hk<;>omega
     rcases mr with rfl|rfl
     ·rw[hi]at aF;injection aF with aF;subst aF
      refine(ey (r:=r) (Q:=Q) hT hs ha h.1 ?_ ?_).2
      ·intro a' aP M' ρ' w' h1 h2 h3 h4
       replace h1:=mC h1
       have EK:=hE.trans h4
       have HI:=HI (by simp)
       have EI:=HI ρ' M' w' h3 h4.env h1.1
       refine⟨fun _=>.inr EI,?_⟩
       refine iD (S:=fun u=>S u∧SB ρ' M' B u) (fun u hu=>hu.1) f _ _ _ ?_
       refine bE hT hp hQ cK sk _ f a' M' ρ' w' aP (fun u=>S u∧SB ρ' M' B u) AJ cg (hc.set cX) h3 EK h2 (fun _=>⟨EI,SB.of h3 B⟩) (fun u hu=>hu.2) ?_ h1.2 hK hP
       intro _ iG mK xh k1 k2 k3
       exact⟨HI iG mK xh k1 (fun i g l e=>k2 i g l (h4.env i g l e)) (h1.1.trans k3),pw (SB.of h3 B) k1 k2 k3⟩
      ·intro rv M' ρ' w' h1 h2 h3 h4
       exact hP rv M' ρ' w' act ha.defers h1 h2 h3 (hE.trans h4)
     ·rw[hj]at aF;injection aF with aF;subst aF
      refine(ey (r:=r) (Q:=Q) hT hs ha h.2 ?_ ?_).2
      ·intro a' aP M' ρ' w' h1 h2 h3 h4
       replace h1:=mC h1
       have EK:=hE.trans h4
       have HI:=HI (by simp)
       have EI:=HI ρ' M' w' h3 h4.env h1.1
       refine⟨fun _=>.inr EI,?_⟩
       have hcj:=hc.set PV
       have PW:i∈Region.ready .any ops (l.setIfInBounds k true):=by rw[hrj];exact List.mem_singleton.2 rfl
       obtain⟨f,rfl⟩:∃f',f=f'+1:=⟨f-1,by omega⟩
       refine xf hrj hi ?_
       refine(ey (r:=r) (Q:=Q) hT h3 h2 h1.2 ?_ ?_).2
       ·intro a'' MU mK iG xh g1 g2 g3 g4
        replace g1:=mC g1
        have Xh:∀ot M1 w1,aW ot M1 w1→(∀i g l,ρ' i g=some l→ot i g=some l)→CQ B M' M1→S w1∧SB ρ' M' B w1:=fun ot M1 w1 k1 k2 k3=>⟨HI ot M1 w1 k1 (fun i g l e=>k2 i g l (h4.env i g l e)) (h1.1.trans k3),pw (SB.of h3 B) k1 k2 k3⟩
        have Xf:=Xh iG mK xh g3 g4.env g1.1
        refine⟨fun _=>.inr Xf.1,?_⟩
        refine iD (S:=fun u=>S u∧SB iG mK B u) (fun u hu=>hu.1) f _ _ _ ?_
        refine bE hT hp hQ cK (k::sk) _ f a'' mK iG xh MU (fun u=>S u∧SB iG mK B u) (by omega) aae (hcj.set PW) g3 (EK.trans g4) g2 (fun _=>⟨Xf.1,SB.of g3 B⟩) (fun u hu=>hu.2) ?_ g1.2 hK hP
        intro _ ot M1 w1 k1 k2 k3
        exact⟨(Xh ot M1 w1 k1 (fun i g l e=>k2 i g l (g4.env i g l e)) (g1.1.trans k3)).1,pw (SB.of g3 B) k1 k2 k3⟩
       ·intro rv mK iG xh g1 g2 g3 g4
        exact hP rv mK iG xh aP h2.defers g1 g2 g3 (EK.trans g4)
      ·intro rv M' ρ' w' h1 h2 h3 h4
       exact hP rv M' ρ' w' act ha.defers h1 h2 h3 (hE.trans h4)
end
end Go.Proofs.Ytibadaomjlkoaaa
open Go.RowKit
namespace Go.Proofs.Ytibadaomjlkoaaa
theorem De {ρ:Env}{M:AH}{w w1:World}{x:af}{c:Array Value}{e:TypeId}{r:Nat}(h:aW ρ M w)(hr:M[r]?=some .gone)(ku:∀g,ρ r g=none)(TC:w1.heap=w.heap)(Ey:w1.os=w.os)(jK:w1.tape=w.tape)(qo:w1.output=w.output)
 (Hy:x.size≤c.size)(gn:∀k v,x.at k=some v→v.ok ρ∧c[k]?=some (v.c ρ))(sQ:x.row=true:=by rfl):
 aW (kO ρ r 0 (some (w.heap.size,0))) (M.set r (.one true 0 x)) (w1.alloc (.cells c e))∧Ext ρ M w (kO ρ r 0 (some (w.heap.size,0))) (M.set r (.one true 0 x)) (w1.alloc (.cells c e)):=by
 have TH:(ρ r 0).isSome=false:=by rw[ku 0];rfl
 have bh:r<M.length:=(List.getElem?_eq_some_iff.1 hr).1
 have fb:w1.heap.size=w.heap.size:=by rw[TC]
 refine lV (i:=r) (g:=0) (x':=x) h (by simp) (fun i' eN=>List.getElem?_set_ne (Ne.symm eN)) (by simp[bh]) (dI TH) ek (fun g' hg=>by rw[ku g']at hg;cases hg) (fun b hb _=>?_) (by simp[TC]) Ey jK qo
  (.inl ⟨(w.heap.size,0),ay _ _ _ _,.mk' sQ ⟨c,e,(0,0),?_,by show 0+x.size≤c.size;omega,fun k v hv=>?_,fun _=>rfl⟩,.inl (Nat.le_refl _)⟩)
 ·rw[Below.heap_alloc w1 _ b (by omega),TC]
 ·show(w1.alloc _).heap[w.heap.size]?=_
  rw[←fb];exact heap_alloc_new w1 _
 ·have h1:=gn k v hv
  refine⟨AV.cW (dI TH) v h1.1,?_⟩
  rw[AV.dr (dI TH) v h1.1]
  show c[0+k]?=_
  rw[Nat.zero_add]
  exact h1.2
theorem r6 {ρ:Env}{r:Nat}{l:Option (Nat×Nat)}:∀i g,i≠r→kO ρ r 0 l i g=ρ i g:=by
 intro i g h
 unfold kO
 rw[if_neg (fun e=>h e.1)]
inductive Ef where
 |val (v:AV)
 |mk (l c:Nat)(x:af)
def Ef.Tt:Ef→Bool
 | .mk ..=>true
 |_=>false
def Ef.v (r:Nat):Ef→AV
 | .val v=>v
 | .mk l c _=>.sl r 0 0 l c
def Ef.D9:Ef→List AO
 | .val _=>[]
 | .mk _ _ x=>[.one true 0 x]
theorem w8 {P:Program}{T:List TI}(hT:av P T){M:AH}{t len:Nat}{idx:List Nat}{vs:List AV}{K:AV→AH→Prop}
 (h:fK T M t len idx vs K):∃x,K (.sl M.length 0 0 len len) (M++[.one true 0 x])∧∀{ρ:Env}{w:World}{M':AH}{r:Nat},aW ρ M' w→M'[r]?=some .gone→(∀g,ρ r g=none)→AV.eb ρ vs→
  ∃ρ' w',(Instr.buildSlice t len (idx.zip (vs.map (AV.c ρ))).toArray).run P w=.ok ((AV.sl r 0 0 len len).c ρ') w'∧(AV.sl r 0 0 len len).ok ρ'∧aW ρ' (M'.set r (.one true 0 x)) w'∧Ext ρ M' w ρ' (M'.set r (.one true 0 x)) w'∧∀i g,i≠r→ρ' i g=ρ i g:=by
 unfold fK at h
 split at h
 ·rename_i el s1 s2 s3 ht
  obtain⟨d,hd,fj⟩:=hT.gY ht
  obtain rfl:=aR fj
  split at h
  ·rename_i te sS
   replace h:=aw h
   obtain⟨hb,h⟩:=h
   simp only[Bool.and_eq_true,beq_iff_eq]at hb
   obtain⟨⟨⟨⟨T8,hlen⟩,Ve⟩,Ep⟩,hall⟩:=hb
   have LP:vs.length=len:=Nat.eq_of_beq_eq_true hlen
   have Ux:len*te.size≤16777216:=by simpa using Ve
   have Lz:te.zero.length=te.size:=Nat.eq_of_beq_eq_true Ep
   split at h
   ·rename_i x hx
    refine⟨x,h,fun{ρ w M' r} hs hr ku aF=>?_⟩
    obtain⟨cY,fb,gn⟩:=vW ρ hx hall aF
    obtain⟨d2,ie,z,e1,e2,e3,rfl⟩:=hT.get sS
    simp only at cY fb Ux Lz hall
    have xj:∀u∈vs.map (AV.c ρ),u.cells.size=ie.size:=fun u hu=>by
     obtain⟨v,hv,rfl⟩:=List.mem_map.1 hu
     have:=List.all_eq_true.1 hall v hv
     simp only[Bool.and_eq_true]at this
     rw[←Array.length_toList,AV.oO ρ v (by rintro y rfl;have:=this.1;simp[AV.parts,AV.one]at this),AV.bc,List.length_map]
     exact Nat.eq_of_beq_eq_true this.2
    have dk:z.cells.size=ie.size:=by simpa using Lz
    subst LP
    have Tw:(idx.zip (vs.map (AV.c ρ)))=((vs.map (AV.c ρ)).zipIdx 0).map fun x=>(x.2,x.1):=by
     subst T8
     apply List.ext_getElem?
     intro j
     simp only[List.getElem?_map,List.getElem?_zipIdx,List.getElem?_zip_eq_some]
     by_cases hj:j<vs.length
     ·simp[List.zip,hj]
     ·simp[List.zip,hj,List.getElem?_eq_none (Nat.le_of_not_lt hj)]
    have TD:=fun c0=>Go.Great.fill_whole cY (vs.map (AV.c ρ)) c0 xj
    have y9:=nY (vs.map (AV.c ρ)) xj
    rw[List.length_map]at y9
    have key:=fun(w1:World) hh1 hh2 hh3 hh4=>De (w1:=w1) (x:=x) (c:=((vs.map (AV.c ρ)).flatMap fun u=>u.cells.toList).toArray) (e:=el) hs hr ku hh1 hh2 hh3 hh4
     (by rw[fb,List.size_toArray,y9];exact Nat.le_refl _) (fun k v hv=>by have:=gn k v hv;exact⟨this.1,by simpa using this.2⟩) (tH (by assumption))
    obtain⟨h1,h2⟩:=key _ rfl rfl rfl rfl
    by_cases Rc:vs.length=0
    ·have:vs=[]:=List.eq_nil_of_length_eq_zero Rc
     subst this
     refine⟨_,_,?_,dW.2,h1,h2,r6⟩
     rw[dW.1]
     simp[Instr.buildSlice,run_underlying hd,sizeOf,typeInfo,e2,newRow,Instr.fill]
     have:(Array.map (fun _=>(default:Value)) (Array.range 0))=#[]:=by apply Array.eq_empty_of_size_eq_zero;simp
     rw[this]
    ·have LZ:=TD ((Array.range (vs.length*ie.size)).map (z.cells[·%z.cells.size]!)) (by simp)
     have aN:=run_buildSlice (P:=P) w t el vs.length (idx.zip (vs.map (AV.c ρ))).toArray _ ie z hd e2 e3 (by omega) (by
      intro h0
      rcases Nat.mul_eq_zero.1 h0 with h0|h0
      ·exact Rc h0
      ·omega) (by rw[List.toList_toArray,Tw];exact LZ)
     exact⟨_,_,by rw[dW.1];exact aN,dW.2,h1,h2,r6⟩
   ·exact h.elim
  ·exact h.elim
 ·exact h.elim
theorem xJ {P:Program}{T:List TI}(hT:av P T){M:AH}{t:Nat}{l c:AV}{K:AV→AH→Prop}
 (h:gM T M t l c K):∃ln cp x,K (.sl M.length 0 0 ln cp) (M++[.one true 0 x])∧∀{ρ:Env}{w:World}{M':AH}{r:Nat},aW ρ M' w→M'[r]?=some .gone→(∀g,ρ r g=none)→
  ∃ρ' w',(Instr.makeSlice t (l.c ρ) (c.c ρ)).run P w=.ok ((AV.sl r 0 0 ln cp).c ρ') w'∧(AV.sl r 0 0 ln cp).ok ρ'∧aW ρ' (M'.set r (.one true 0 x)) w'∧Ext ρ M' w ρ' (M'.set r (.one true 0 x)) w'∧∀i g,i≠r→ρ' i g=ρ i g:=by
 unfold gM at h
 split at h
 ·rename_i kl l kc c
  split at h
  ·rename_i el s1 s2 s3 ht
   obtain⟨d,hd,fj⟩:=hT.gY ht
   obtain rfl:=aR fj
   split at h
   ·rename_i te sS
    obtain⟨⟨h0,tM,hb,Uv⟩,h⟩:=h
    split at h
    ·rename_i x hx
     refine⟨_,_,x,h,fun{ρ w M' r} hs hr ku=>?_⟩
     obtain⟨cY,Ep,fb,gn⟩:=tE hx (by omega)
     have Ax:=hT.ou sS ρ
     obtain⟨d2,ie,z,e1,e2,e3,rfl⟩:=hT.get sS
     simp only at cY Ep fb gn hb Ax
     have dk:z.cells.size=ie.size:=by simpa using Ep
     have aN:=run_make (P:=P) w t el ie z hd e2 e3 kl kc l c h0 tM (by omega) (by omega)
     have key:=fun(w1:World) hh1 hh2 hh3 hh4=>De (w1:=w1) (x:=x) (c:=madeCells z.cells (c.toNat*ie.size)) (e:=el) hs hr ku hh1 hh2 hh3 hh4 (by rw[fb,size_madeCells];exact Nat.le_refl _) (fun k v hv=>by
      obtain⟨hk,u,hu,hc⟩:=gn k v hv
      refine⟨(hc ρ).2 ((AV.aQ ρ _).1 Ax u (List.mem_of_getElem? hu)),?_⟩
      have hm:k%ie.size<z.cells.size:=by rw[dk];exact Nat.mod_lt _ cY
      have Z5:IQ z.cells[k%ie.size]=u:=by
       rw[List.getElem?_map,Array.getElem?_toList,Array.getElem?_eq_getElem hm]at hu
       simpa using hu
      rw[←(hc ρ).1,←Z5,rz]
      simp only[madeCells,Array.getElem?_map,Array.getElem?_range,hk,if_true,Option.map_some,dk]
      rw[getElem!_pos z.cells _ hm]) (rD (by assumption))
     obtain⟨h1,h2⟩:=key _ rfl rfl rfl rfl
     exact⟨_,_,by rw[dW.1];exact aN,dW.2,h1,h2,r6⟩
    ·exact h.elim
   ·exact h.elim
  ·exact h.elim
 ·exact h.elim
def zB:Op→Option (List Operand)
 | .move x=>some [x]
 | .assign x=>some [x]
 | .build _ ps=>some (ps.toList.map (·.2))
 | .buildSlice _ _ ps=>some (ps.toList.map (·.2))
 | .makeSlice _ l c=>some [l,c]
 |_=>none
def MY (P:Program)(o:Oper)(ops:List Operand)(e:Operand→AV):Ef→Prop
 | .val v=>∀{ρ:Env}{f:Operand→Value},(∀x∈ops,f x=(e x).c ρ∧(e x).ok ρ)→v.ok ρ∧∀w,(execOp f o).run P w=.ok (.value (v.c ρ)) w
 | .mk l c x=>∀{ρ:Env}{f:Operand→Value}{w:World}{M':AH}{r:Nat},(∀x∈ops,f x=(e x).c ρ∧(e x).ok ρ)→aW ρ M' w→M'[r]?=some .gone→(∀g,ρ r g=none)→
  ∃ρ' w',(execOp f o).run P w=.ok (.value ((AV.sl r 0 0 l c).c ρ')) w'∧(AV.sl r 0 0 l c).ok ρ'∧aW ρ' (M'.set r (.one true 0 x)) w'∧Ext ρ M' w ρ' (M'.set r (.one true 0 x)) w'∧∀i g,i≠r→ρ' i g=ρ i g
theorem H9 {ρ:Env}{e:Operand→AV}{f:Operand→Value}{l:List (Nat×Operand)}(h:∀x∈l.map (·.2),f x=(e x).c ρ∧(e x).ok ρ):
 l.map (fun(i,x)=>(i,f x))=(l.map (·.1)).zip ((l.map fun x=>e x.2).map (AV.c ρ))∧AV.eb ρ (l.map fun x=>e x.2):=by
 constructor
 ·induction l with
  |nil=>rfl
  |cons p l ih=>
   simp only[List.map_cons,List.zip_cons_cons]
   rw[ih fun x hx=>h x (List.mem_cons_of_mem _ hx),(h p.2 (by simp)).1]
 ·rw[AV.aQ]
  intro z hz
  obtain⟨y,hy,rfl⟩:=List.mem_map.1 hz
  exact(h y.2 (List.mem_map.2 ⟨y,hy,rfl⟩)).2
theorem aaF {P:Program}{T:List TI}(hT:av P T){wr:Bool}{M:AH}{e:Operand→AV}{o:Oper}{K Kp:AV→AH→Prop}{tk:List Operand}(ht:zB o.op=some tk)(h:JC P T wr M e o.op K Kp):
 ∃ef:Ef,K (ef.v M.length) (M++ef.D9)∧MY P o tk e ef:=by
 obtain⟨dst,op,ty,pos,after,guard⟩:=o
 simp only at ht h
 have KL:∀{v:AV},K v M→MY P ⟨dst,op,ty,pos,after,guard⟩ tk e (.val v)→∃ef:Ef,K (ef.v M.length) (M++ef.D9)∧MY P ⟨dst,op,ty,pos,after,guard⟩ tk e ef:=by
  intro v h1 h2
  refine⟨.val v,?_,h2⟩
  show K v (M++[])
  rw[List.append_nil];exact h1
 unfold zB at ht
 split at ht
 ·rename_i x
  injection ht with ht;subst ht
  have h':jx T wr M e (.move x) fun v=>K v M:=h
  have h2:=eX (show mB (e x) (fun v=>K v M)from h')
  exact KL h2 fun{ρ f} hf=>⟨(hf x (by simp)).2,fun w=>by simp[execOp,(hf x (by simp)).1]⟩
 ·rename_i x
  injection ht with ht;subst ht
  have h':jx T wr M e (.assign x) fun v=>K v M:=h
  have h2:=eX (show mB (e x) (fun v=>K v M)from h')
  exact KL h2 fun{ρ f} hf=>⟨(hf x (by simp)).2,fun w=>by simp[execOp,(hf x (by simp)).1]⟩
 ·rename_i t ps
  injection ht with ht;subst ht
  have h':jx T wr [] e (.build t ps) fun v=>K v M:=h
  have aat:∃v,K v M∧jx T wr [] e (.build t ps) fun v'=>v'=v:=by
   simp only[jx]at h'⊢
   split at h'
   ·split at h'
    ·split at h'
     ·exact⟨_,h',rfl⟩
     ·exact h'.elim
    ·exact h'.elim
   ·split at h'
    ·split at h'
     ·exact⟨_,h',rfl⟩
     ·exact h'.elim
    ·exact h'.elim
   ·exact h'.elim
  obtain⟨v,h1,h2⟩:=aat
  refine KL h1 fun{ρ f} hf=>?_
  haveI dec:∀x,Decidable (x∈ps.toList.map (fun x:Nat×Operand=>x.2)):=fun x=>Classical.propDecidable _
  have h3:jx T wr [] (fun x=>if x∈ps.toList.map (fun x:Nat×Operand=>x.2)then e x else .raw (f x)) (.build t ps) fun v'=>v'=v:=by
   have e1:ps.toList.map (fun x=>(x.1,(fun x=>if x∈ps.toList.map (fun x:Nat×Operand=>x.2)then e x else AV.raw (f x)) x.2))=ps.toList.map fun x=>(x.1,e x.2):=by
    apply List.map_congr_left
    intro x hx
    simp only
    rw[if_pos (List.mem_map.2 ⟨x,hx,rfl⟩)]
   simp only[jx]at h2⊢
   rw[e1]
   exact h2
  have hev:Y5 ρ (fun x=>if x∈ps.toList.map (fun x:Nat×Operand=>x.2)then e x else .raw (f x)) f:=by
   intro x
   simp only
   split
   ·exact hf x ‹_›
   ·exact⟨rfl,trivial⟩
  obtain⟨u,k1,k2,k3⟩:=fG (P:=P) (o:=⟨dst,.build t ps,ty,pos,after,guard⟩) (ρ:=ρ) hT (M:=[]) (fun i g own x hs=>by simp[slot]at hs) hev h3
  obtain rfl:u=v:=k1
  exact⟨k2,k3⟩
 ·rename_i t len ps
  injection ht with ht;subst ht
  obtain⟨x,h1,h2⟩:=w8 (P:=P) hT (show fK T M t len (ps.toList.map (·.1)) (ps.toList.map fun x=>e x.2) K from h)
  refine⟨.mk len len x,h1,fun{ρ f w M' r} hf hs hr ku=>?_⟩
  obtain⟨m1,m2⟩:=H9 hf
  obtain⟨ρ',w',k1,k2,k3,k4,k5⟩:=h2 hs hr ku m2
  refine⟨ρ',w',?_,k2,k3,k4,k5⟩
  have e1:(ps.map fun(i,x)=>(i,f x))=((ps.toList.map (·.1)).zip ((ps.toList.map fun x=>e x.2).map (AV.c ρ))).toArray:=by
   apply Array.toList_inj.1
   rw[Array.toList_map,List.toList_toArray]
   exact m1
  rw[←e1]at k1
  show((do pure (.value (←Instr.buildSlice t len (ps.map fun(i,x)=>(i,f x)))):Sem Next)).run P w=_
  simp[k1]
 ·rename_i t l c
  injection ht with ht;subst ht
  obtain⟨ln,cp,x,h1,h2⟩:=xJ (P:=P) hT (show gM T M t (e l) (e c) K from h)
  refine⟨.mk ln cp x,h1,fun{ρ f w M' r} hf hs hr ku=>?_⟩
  obtain⟨ρ',w',k1,k2,k3,k4,k5⟩:=h2 hs hr ku
  refine⟨ρ',w',?_,k2,k3,k4,k5⟩
  rw[←(hf l (by simp)).1,←(hf c (by simp)).1]at k1
  show((do pure (.value (←Instr.makeSlice t (f l) (f c))):Sem Next)).run P w=_
  simp[k1]
 ·cases ht
def jT (ops:Array Oper)(j:Nat):Option Nat:=match ops[j]? with
 |some o=>o.dst
 |none=>none
def sK (ops:Array Oper):Bool:=(List.range ops.size).all fun i=>match ops[i]? with
 |none=>false
 |some o=>match o.dst,zB o.op with
  |some d,some tk=>o.guard.isNone&&cN o.op&&(o.after.toList.all fun e=>Nat.blt e.on i)&&((List.range ops.size).all fun j=>Nat.beq j i||!(jT ops j==some d))&&
   tk.all fun x=>match x with
    | .tmp t=>(List.range ops.size).all fun j=>!(jT ops j==some t)||(Nat.blt j i&&o.after.toList.any fun e=>Nat.beq e.on j&&Region.binds .any e)
    |_=>true
  |_,_=>false
structure UK (ops:Array Oper)(i:Nat)(o:Oper)(d:Nat)(tk:List Operand):Prop where
 get:ops[i]?=some o
 dst:o.dst=some d
 takes:zB o.op=some tk
 guard:o.guard=none
 before:∀e∈o.after,e.on<i
 apart:∀j,j<ops.size→j≠i→jT ops j≠some d
 aaM:∀t,Operand.tmp t∈tk→∀j,j<ops.size→jT ops j=some t→j<i∧∃e∈o.after,e.on=j∧Region.binds .any e=true
theorem oU {ops:Array Oper}(h:sK ops=true){i:Nat}(hi:i<ops.size):∃o d tk,UK ops i o d tk:=by
 unfold sK at h
 have h1:=List.all_eq_true.1 h i (List.mem_range.2 hi)
 split at h1
 ·cases h1
 ·rename_i o ho
  split at h1
  ·rename_i d tk hd ht
   simp only[Bool.and_eq_true]at h1
   obtain⟨⟨⟨⟨g1,_⟩,g2⟩,g3⟩,g4⟩:=h1
   refine⟨o,d,tk,ho,hd,ht,by simpa using g1,?_,?_,?_⟩
   ·intro e he
    have:=List.all_eq_true.1 g2 e (by simpa using he)
    simpa using this
   ·intro j hj gQ HC
    have:=List.all_eq_true.1 g3 j (List.mem_range.2 hj)
    simp only[Bool.or_eq_true]at this
    rcases this with h|h
    ·exact gQ (Nat.eq_of_beq_eq_true h)
    ·rw[HC]at h;simp at h
   ·intro t yZ j hj HC
    have:=List.all_eq_true.1 g4 _ yZ
    simp only at this
    have:=List.all_eq_true.1 this j (List.mem_range.2 hj)
    rw[HC]at this
    simp only[beq_self_eq_true,Bool.not_true,Bool.false_or,Bool.and_eq_true]at this
    refine⟨by simpa using this.1,?_⟩
    obtain⟨e,he,h2⟩:=List.any_eq_true.1 this.2
    simp only[Bool.and_eq_true]at h2
    exact⟨e,by simpa using he,Nat.eq_of_beq_eq_true h2.1,h2.2⟩
  ·cases h1
section
variable{P:Program}{T:List TI}{n:Nat}{W:List Nat}{ops:Array Oper}{a0:AA}{M0:AH}
def cM (f:Nat→Ef):Nat→Nat
 |0=>0
 |k+1=>cM f k+(f k).D9.length
def Dm (M0:AH)(f:Nat→Ef)(k:Nat):Nat:=M0.length+cM f k
def aD (n:Nat)(ops:Array Oper)(a0:AA)(M0:AH)(f:Nat→Ef)(d:Nat→Bool):Nat→AA
 |0=>a0
 |k+1=>match d k with
  |true=>(aD n ops a0 M0 f d k).put n (jT ops k) ((f k).v (Dm M0 f k))
  |false=>aD n ops a0 M0 f d k
def oD (b:Bool):Ef→List AO
 | .val _=>[]
 | .mk _ _ x=>match b with
   |true=>[.one true 0 x]
   |false=>[.gone]
def mD (f:Nat→Ef)(d:Nat→Bool):Nat→AH
 |0=>[]
 |k+1=>mD f d k++oD (d k) (f k)
theorem Tc (b:Bool)(e:Ef):(oD b e).length=e.D9.length:=by cases e<;>cases b<;>rfl
theorem Pt (e:Ef):oD true e=e.D9:=by cases e<;>rfl
theorem nP (f:Nat→Ef)(d:Nat→Bool):∀k,(mD f d k).length=cM f k
 |0=>rfl
 |k+1=>by simp only[mD,cM,List.length_append,nP f d k,Tc]
theorem wZ {f g:Nat→Ef}:∀{k:Nat},(∀j,j<k→f j=g j)→cM f k=cM g k
 |0,_=>rfl
 |k+1,h=>by simp only[cM];rw[wZ fun j hj=>h j (by omega),h k (by omega)]
theorem xg {f g:Nat→Ef}{d:Nat→Bool}:∀{k:Nat},(∀j,j<k→f j=g j)→aD n ops a0 M0 f d k=aD n ops a0 M0 g d k
 |0,_=>rfl
 |k+1,h=>by
  simp only[aD]
  rw[xg fun j hj=>h j (by omega),h k (by omega)]
  unfold Dm
  rw[wZ fun j hj=>h j (by omega)]
theorem Cr {f g:Nat→Ef}{d:Nat→Bool}:∀{k:Nat},(∀j,j<k→f j=g j)→mD f d k=mD g d k
 |0,_=>rfl
 |k+1,h=>by simp only[mD];rw[Cr fun j hj=>h j (by omega),h k (by omega)]
def tt (_:Nat):Bool:=true
theorem yl (hT:av P T)(aF:sK ops=true){K:AA→AH→Prop}{Kp:AV→AH→Prop}:∀(j k:Nat)(f:Nat→Ef),k+j=ops.size→sf P T n W ops Kp K (ops.toList.drop k) (aD n ops a0 M0 f tt k) (M0++mD f tt k)→
 ∃g:Nat→Ef,(∀i,i<k→g i=f i)∧(∀i,k≤i→i<ops.size→∃o d tk,UK ops i o d tk∧MY P o tk (qL (aD n ops a0 M0 g tt i)) (g i))∧K (aD n ops a0 M0 g tt ops.size) (M0++mD g tt ops.size)
 |0,k,f,hk,h=>by
  obtain rfl:k=ops.size:=by omega
  rw[List.drop_of_length_le (by simp)]at h
  exact⟨f,fun _ _=>rfl,fun i h1 h2=>by omega,h⟩
 |j+1,k,f,hk,h=>by
  have U5:k<ops.size:=by omega
  obtain⟨o,d,tk,hm⟩:=oU aF U5
  have L6:ops.toList.drop k=o::ops.toList.drop (k+1):=by
   rw[List.drop_eq_getElem_cons (by simpa using U5)]
   congr 1
   have:=hm.get
   rw[Array.getElem?_eq_getElem U5]at this
   simpa using this
  rw[L6]at h
  simp only[sf,nw]at h
  replace h:=(aw h).2
  unfold my at h
  rw[hm.guard]at h
  simp only at h
  obtain⟨e,h1,h2⟩:=aaF hT hm.takes h
  have hf:∀i,i<k→(fun i=>if i=k then e else f i) i=f i:=fun i hi=>by simp only;rw[if_neg (by omega)]
  have ha:aD n ops a0 M0 (fun i=>if i=k then e else f i) tt k=aD n ops a0 M0 f tt k:=xg hf
  have hmd:mD (fun i=>if i=k then e else f i) tt k=mD f tt k:=Cr hf
  have hc:cM (fun i=>if i=k then e else f i) k=cM f k:=wZ hf
  have hd:jT ops k=o.dst:=by unfold jT;rw[hm.get]
  have hlen:(M0++mD f tt k).length=Dm M0 (fun i=>if i=k then e else f i) k:=by rw[List.length_append,nP];unfold Dm;rw[hc]
  have hek:(fun i=>if i=k then e else f i) k=e:=if_pos rfl
  obtain⟨g,g1,g2,g3⟩:=yl hT aF j (k+1) (fun i=>if i=k then e else f i) (by omega) (by
   have e1:aD n ops a0 M0 (fun i=>if i=k then e else f i) tt (k+1)=(aD n ops a0 M0 f tt k).put n o.dst (e.v (M0++mD f tt k).length):=by
    show(aD n ops a0 M0 (fun i=>if i=k then e else f i) tt k).put n (jT ops k) (((fun i=>if i=k then e else f i) k).v _)=_
    rw[ha,hd,hek,hlen]
   have e2:M0++mD (fun i=>if i=k then e else f i) tt (k+1)=M0++mD f tt k++e.D9:=by
    show M0++(mD (fun i=>if i=k then e else f i) tt k++oD true ((fun i=>if i=k then e else f i) k))=_
    rw[hmd,hek,Pt,List.append_assoc]
   rw[e1,e2]
   exact h1)
  refine⟨g,fun i hi=>by rw[g1 i (by omega)];exact hf i hi,fun i pe hi=>?_,g3⟩
  rcases Nat.lt_or_ge k i with h3|h3
  ·exact g2 i h3 hi
  ·obtain rfl:i=k:=by omega
   have e3:aD n ops a0 M0 g tt i=aD n ops a0 M0 f tt i:=xg fun j hj=>by rw[g1 j (by omega)];exact hf j hj
   refine⟨o,d,tk,hm,?_⟩
   rw[e3,g1 i (by omega),if_pos rfl]
   exact h2
theorem oo {f:Nat→Ef}{d:Nat→Bool}{t:Nat}:∀{k:Nat},(∀j,j<k→d j=true→jT ops j≠some t)→aD n ops a0 M0 f d k t=a0 t
 |0,_=>rfl
 |k+1,h=>by
  have ih:=oo (f:=f) (d:=d) (k:=k) fun j hj=>h j (by omega)
  simp only[aD]
  cases hd:d k with
  |false=>exact ih
  |true=>
   have hk:=h k (by omega) hd
   simp only
   unfold AA.put
   cases he:jT ops k with
   |none=>exact ih
   |some u=>
    simp only
    have:Nat.beq t u=false:=by
     cases hb:Nat.beq t u with
     |false=>rfl
     |true=>exact absurd (by rw[he,Nat.eq_of_beq_eq_true hb]) hk
    rw[this];exact ih
theorem td {f:Nat→Ef}{d:Nat→Bool}{t i:Nat}(hi:jT ops i=some t)(Ui:d i=true):∀{k:Nat},i<k→(∀j,j<k→j≠i→jT ops j≠some t)→
 aD n ops a0 M0 f d k t=if Nat.blt t n=true then(f i).v (Dm M0 f i)else a0 t
 |0,h,_=>by omega
 |k+1,h,hu=>by
  rcases Nat.lt_or_ge i k with h1|h1
  ·have ih:=td (f:=f) (d:=d) hi Ui (k:=k) h1 fun j hj=>hu j (by omega)
   have hk:=hu k (by omega) (by omega)
   simp only[aD]
   cases hd:d k with
   |false=>exact ih
   |true=>
    simp only
    unfold AA.put
    cases he:jT ops k with
    |none=>exact ih
    |some u=>
     simp only
     have:Nat.beq t u=false:=by
      cases hb:Nat.beq t u with
      |false=>rfl
      |true=>exact absurd (by rw[he,Nat.eq_of_beq_eq_true hb]) hk
     rw[this];exact ih
  ·obtain rfl:i=k:=by omega
   have hn:=oo (n:=n) (a0:=a0) (M0:=M0) (f:=f) (d:=d) (ops:=ops) (t:=t) (k:=i) fun j hj _=>hu j (by omega) (by omega)
   simp only[aD,Ui]
   unfold AA.put
   rw[hi]
   simp only[Nat.beq_refl,Bool.true_and]
   cases hb:Nat.blt t n with
   |true=>rfl
   |false=>exact hn
theorem HS {f:Nat→Ef}{i:Nat}:∀{k:Nat},i≤k→cM f i≤cM f k
 |0,h=>by obtain rfl:i=0:=by omega
          exact Nat.le_refl _
 |k+1,h=>by
  rcases Nat.lt_or_ge k i with h1|h1
  ·obtain rfl:i=k+1:=by omega
   exact Nat.le_refl _
  ·exact Nat.le_trans (HS h1) (Nat.le_add_right _ _)
theorem Lt {e:Ef}(h:e.Tt=true):e.D9.length=1:=by cases e;cases h;rfl
theorem HT {f:Nat→Ef}{i k:Nat}(hi:(f i).Tt=true)(h:i<k):cM f i<cM f k:=by
 have:=HS (f:=f) (show i+1≤k from h)
 simp only[cM,Lt hi]at this
 omega
theorem QX {f:Nat→Ef}{d:Nat→Bool}{i l c:Nat}{x:af}(hi:f i=.mk l c x):∀{k:Nat},i<k→(mD f d k)[cM f i]?=some (match d i with|true=>.one true 0 x|false=>.gone)
 |0,h=>by omega
 |k+1,h=>by
  simp only[mD]
  rcases Nat.lt_or_ge i k with h1|h1
  ·rw[List.getElem?_append_left (by rw[nP];exact HT (by rw[hi];rfl) h1)]
   exact QX hi h1
  ·obtain rfl:i=k:=by omega
   rw[List.getElem?_append_right (by rw[nP];exact Nat.le_refl _),nP,Nat.sub_self,hi]
   cases d i<;>rfl
theorem Lk {f:Nat→Ef}{d d':Nat→Bool}{i l c:Nat}{x:af}(hi:f i=.mk l c x)(hd:d' i=true)(ho:∀j,j≠i→d' j=d j):∀{k:Nat},i<k→(mD f d k).set (cM f i) (.one true 0 x)=mD f d' k
 |0,h=>by omega
 |k+1,h=>by
  simp only[mD]
  rcases Nat.lt_or_ge i k with h1|h1
  ·rw[List.set_append_left _ _ (by rw[nP];exact HT (by rw[hi];rfl) h1),Lk hi hd ho h1,ho k (by omega)]
  ·obtain rfl:i=k:=by omega
   have e:mD f d' i=mD f d i:=by
    clear h h1
    have:∀m,m≤i→mD f d' m=mD f d m:=by
     intro m
     induction m with
     |zero=>intro _;rfl
     |succ m ih=>intro hm;simp only[mD];rw[ih (by omega),ho m (by omega)]
    exact this i (Nat.le_refl _)
   rw[List.set_append_right _ _ (by rw[nP];exact Nat.le_refl _),nP,Nat.sub_self,e,hi,hd]
   cases d i<;>rfl
theorem Lj {f:Nat→Ef}{d d':Nat→Bool}{i:Nat}{v:AV}(hi:f i=.val v)(ho:∀j,j≠i→d' j=d j):∀k:Nat,mD f d' k=mD f d k
 |0=>rfl
 |k+1=>by
  simp only[mD]
  rw[Lj hi ho k]
  by_cases e:k=i
  ·subst e;rw[hi];rfl
  ·rw[ho k e]
theorem Hp {f:Nat→Ef}:∀k,∀o∈mD f (fun _=>false) k,o=.gone
 |0,o,h=>by cases h
 |k+1,o,h=>by
  simp only[mD]at h
  rcases List.mem_append.1 h with h|h
  ·exact Hp k o h
  ·cases hf:f k with
   |val v=>rw[hf]at h;cases h
   |mk l c x=>rw[hf]at h;exact List.mem_singleton.1 h
theorem p7 {M L:AH}(hL:∀o∈L,o=.gone)(i g:Nat):slot (M++L) i g=slot M i g:=by
 unfold slot
 rcases Nat.lt_or_ge i M.length with h|h
 ·rw[List.getElem?_append_left h]
 ·rw[List.getElem?_append_right h,List.getElem?_eq_none h]
  cases ho:L[i-M.length]? with
  |none=>rfl
  |some o=>rw[hL o (List.mem_of_getElem? ho)];rfl
theorem Ir {ρ:Env}{M L:AH}{w:World}(hs:aW ρ M w)(hL:∀o∈L,o=.gone):aW ρ (M++L) w∧Ext ρ M w ρ (M++L) w:=by
 have cH:∀(i:Nat)(o:AO),(M++L)[i]?=some o→o≠AO.gone→M[i]?=some o:=by
  intro i o h hn
  rcases Nat.lt_or_ge i M.length with h1|h1
  ·rwa[List.getElem?_append_left h1]at h
  ·rw[List.getElem?_append_right h1]at h
   exact absurd (hL o (List.mem_of_getElem? h)) hn
 refine⟨⟨fun i g h=>by have:=hs.pr i g h;rw[List.length_append];omega,fun i g own g' x h=>hs.tag i g own g' x (cH i _ h (by simp)),fun i g own m x h=>hs.aX i g own m x (cH i _ h (by simp)),fun i g own x h=>?_,fun i g x i' g' bJ x' q q' h h'=>?_⟩,
  fun _ _ _ h=>h,Nat.le_refl _,fun _ _ _=>rfl,fun i g x q h1 h2 _=>?_,rfl,rfl,rfl⟩
 ·rw[p7 hL]at h;exact hs.holds i g own x h
 ·rw[p7 hL]at h h';exact hs.apart i g x i' g' bJ x' q q' h h'
 ·rw[p7 hL]at h1;exact⟨i,g,x,q,h1,h2,rfl⟩
def k7 (d:Nat→Bool):Nat→Nat
 |0=>0
 |k+1=>k7 d k+(match d k with|true=>0|false=>1)
theorem vy {d:Nat→Bool}:∀{k:Nat},k7 d k=0→∀j,j<k→d j=true
 |0,_,j,hj=>by omega
 |k+1,h,j,hj=>by
  simp only[k7]at h
  cases hd:d k with
  |false=>rw[hd]at h;simp at h
  |true=>
   rw[hd]at h
   simp only[Nat.add_zero]at h
   rcases(show j<k∨j=k by omega)with h1|rfl
   ·exact vy (by omega) j h1
   ·exact hd
theorem yq {d d':Nat→Bool}{i:Nat}(hd:d i=false)(mv:d' i=true)(ho:∀j,j≠i→d' j=d j):∀{k:Nat},i<k→k7 d' k+1=k7 d k
 |0,h=>by omega
 |k+1,h=>by
  simp only[k7]
  rcases Nat.lt_or_ge i k with h1|h1
  ·have:=yq hd mv ho h1
   rw[ho k (by omega)];omega
  ·obtain rfl:i=k:=by omega
   have:∀m,m≤i→k7 d' m=k7 d m:=by
    intro m
    induction m with
    |zero=>intro _;rfl
    |succ m ih=>intro hm;simp only[k7];rw[ih (by omega),ho m (by omega)]
   rw[this i (Nat.le_refl _),hd,mv]
   rfl
variable{r:Option Nat}{Q:Exit→Act→World→Prop}{ds:List Nat}{D:List Deferred}
theorem Li (aF:sK ops=true){g:Nat→Ef}{ρ0:Env}{w0:World}(aa2:∀i gg,(ρ0 i gg).isSome=true→i<M0.length)
 (hg:∀i,i<ops.size→∃o d tk,UK ops i o d tk∧MY P o tk (qL (aD n ops a0 M0 g tt i)) (g i))
 (hK:∀ρ' w' aP,bQ ρ' D n (aD n ops a0 M0 g tt ops.size) aP→aW ρ' (M0++mD g tt ops.size) w'→Ext ρ0 M0 w0 ρ' (M0++mD g tt ops.size) w'→Q .normal aP w'):
 ∀(f:Nat)(l:Array Bool)(ρ:Env)(w:World)(act:Act),l.size=ops.size→k7 (fun k=>l.getD k false) ops.size≤f→
  aW ρ (M0++mD g (fun k=>l.getD k false) ops.size) w→Ext ρ0 M0 w0 ρ (M0++mD g (fun k=>l.getD k false) ops.size) w→bQ ρ D n (aD n ops a0 M0 g (fun k=>l.getD k false) ops.size) act→
  (∀k,k<ops.size→(g k).Tt=true→l.getD k false=false→∀gg,ρ (Dm M0 g k) gg=none)→anyS r P ops Q (fun _=>True) ds f l act w:=by
 have fin:∀(l:Array Bool)(ρ:Env)(w:World)(act:Act),(∀k,k<ops.size→l.getD k false=true)→aW ρ (M0++mD g (fun k=>l.getD k false) ops.size) w→Ext ρ0 M0 w0 ρ (M0++mD g (fun k=>l.getD k false) ops.size) w→bQ ρ D n (aD n ops a0 M0 g (fun k=>l.getD k false) ops.size) act→Q .normal act w:=by
  intro l ρ w act hall hs hE ha
  have e1:∀k,k≤ops.size→mD g (fun k=>l.getD k false) k=mD g tt k:=by
   intro k
   induction k with
   |zero=>intro _;rfl
   |succ k ih=>intro hk;simp only[mD];rw[ih (by omega),hall k (by omega)];rfl
  have e2:∀k,k≤ops.size→aD n ops a0 M0 g (fun k=>l.getD k false) k=aD n ops a0 M0 g tt k:=by
   intro k
   induction k with
   |zero=>intro _;rfl
   |succ k ih=>intro hk;simp only[aD];rw[ih (by omega),hall k (by omega)];rfl
  rw[e1 _ (Nat.le_refl _)]at hs hE
  rw[e2 _ (Nat.le_refl _)]at ha
  exact hK ρ w act ha hs hE
 have R0:∀(l:Array Bool),l.size=ops.size→Region.ready .any ops l=[]→∀k,k<ops.size→l.getD k false=true:=by
  intro l hl hr k
  induction k using Nat.strongRecOn with
  |_ k ih=>
   intro hk
   cases hd:l.getD k false with
   |true=>rfl
   |false=>
    exfalso
    obtain⟨o,d,tk,hm⟩:=oU aF hk
    have:k∈Region.ready .any ops l:=by
     rw[mem_ready]
     refine⟨?_,o,hm.get,fun e he _=>ih e.on (hm.before e he) (Nat.lt_trans (hm.before e he) hk)⟩
     have JW:k<l.size:=by omega
     simp only[Array.getD,JW,dif_pos]at hd⊢
     exact hd
    rw[hr]at this;cases this
 intro f
 induction f with
 |zero=>
  intro l ρ w act hl hf hs hE ha hu
  have hall:=vy (show k7 (fun k=>l.getD k false) ops.size=0 by omega)
  refine⟨?_,fin l ρ w act hall hs hE ha⟩
  rw[List.eq_nil_iff_forall_not_mem]
  intro k hk
  obtain⟨h1,o,ho,_⟩:=mem_ready.1 hk
  have U5:=(Array.getElem?_eq_some_iff.1 ho).1
  have h2:=hall k U5
  have JW:k<l.size:=by omega
  simp only[Array.getD,JW,dif_pos]at h1 h2
  rw[h1]at h2;cases h2
 |succ f ihf=>
  intro l ρ w act hl hf hs hE ha hu
  refine⟨fun hr=>fin l ρ w act (R0 l hl hr) hs hE ha,fun i hi o' wo=>?_⟩
  obtain⟨h1,o1,EA,WU⟩:=mem_ready.1 hi
  have U7:=(Array.getElem?_eq_some_iff.1 EA).1
  obtain⟨o,d,tk,hm,Zs⟩:=hg i U7
  have e0:=hm.get
  rw[wo]at e0;injection e0 with e0;subst e0
  have e0:=hm.get
  rw[EA]at e0;injection e0 with e0;subst e0
  have gv:i<l.size:=by omega
  have Ui:l.getD i false=false:=by simp only[Array.getD,gv,dif_pos]at h1⊢;exact h1
  have Uf:jT ops i=some d:=by unfold jT;rw[hm.get];exact hm.dst
  have hev:∀x∈tk,qL (aD n ops a0 M0 g (fun k=>l.getD k false) ops.size) x=qL (aD n ops a0 M0 g tt i) x:=by
   intro x hx
   cases x with
   |tmp t=>
    show aD n ops a0 M0 g (fun k=>l.getD k false) ops.size t=aD n ops a0 M0 g tt i t
    by_cases hex:∃j,j<ops.size∧jT ops j=some t
    ·obtain⟨j,hj,Jl⟩:=hex
     obtain⟨gQ,e,he,hej,hb⟩:=hm.aaM t hx j hj Jl
     have Nh:l.getD j false=true:=by rw[←hej];exact WU e he hb
     obtain⟨oj,dj,tj,xN⟩:=oU aF hj
     have Ug:dj=t:=by
      have:jT ops j=some dj:=by unfold jT;rw[xN.get];exact xN.dst
      rw[Jl]at this;injection this with this;exact this.symm
     have Wi:∀k,k<ops.size→k≠j→jT ops k≠some t:=fun k hk P4=>by rw[←Ug];exact xN.apart k hk P4
     rw[td Jl Nh hj Wi,td (d:=tt) Jl rfl gQ fun k hk=>Wi k (by omega)]
    ·rw[oo fun j hj _ h=>hex ⟨j,hj,h⟩,oo fun j hj _ h=>hex ⟨j,by omega,h⟩]
   |const v=>rfl
   |global g=>rfl
   |func f=>rfl
  have xQ:∀x∈tk,act.eval x=(qL (aD n ops a0 M0 g tt i) x).c ρ∧(qL (aD n ops a0 M0 g tt i) x).ok ρ:=by
   intro x hx
   have:=ha.ev x
   rw[hev x hx]at this
   exact this
  have mv:∀k,(l.setIfInBounds i true).getD k false=if k=i then true else l.getD k false:=by
   intro k
   simp only[Array.getD_eq_getD_getElem?,Array.getElem?_setIfInBounds]
   by_cases e:i=k
   ·subst e;simp[gv]
   ·rw[if_neg e,if_neg (fun h=>e h.symm)]
  have Uh:(fun k=>(l.setIfInBounds i true).getD k false) i=true:=by simp only[mv];simp
  have hdo:∀j,j≠i→(fun k=>(l.setIfInBounds i true).getD k false) j=(fun k=>l.getD k false) j:=fun j hj=>by simp only[mv];rw[if_neg hj]
  have Zz:aD n ops a0 M0 g (fun k=>(l.setIfInBounds i true).getD k false) ops.size=(aD n ops a0 M0 g (fun k=>l.getD k false) ops.size).put n (some d) ((g i).v (Dm M0 g i)):=by
   funext t
   by_cases ht:t=d
   ·subst ht
    rw[td Uf Uh U7 hm.apart]
    have hn:aD n ops a0 M0 g (fun k=>l.getD k false) ops.size t=a0 t:=oo fun j hj Nh h=>by
     by_cases e:j=i
     ·subst e;have L7:l.getD j false=true:=Nh;rw[Ui]at L7;cases L7
     ·exact hm.apart j hj e h
    unfold AA.put
    simp only[Nat.beq_refl,Bool.true_and,hn]
    cases Nat.blt t n<;>rfl
   ·have hp:(aD n ops a0 M0 g (fun k=>l.getD k false) ops.size).put n (some d) ((g i).v (Dm M0 g i)) t=aD n ops a0 M0 g (fun k=>l.getD k false) ops.size t:=by
     unfold AA.put
     simp only
     have:Nat.beq t d=false:=by
      cases hb:Nat.beq t d with
      |false=>rfl
      |true=>exact absurd (Nat.eq_of_beq_eq_true hb) ht
     rw[this];rfl
    rw[hp]
    by_cases hex:∃j,j<ops.size∧jT ops j=some t∧l.getD j false=true
    ·obtain⟨j,hj,Jl,Nh⟩:=hex
     obtain⟨oj,dj,tj,xN⟩:=oU aF hj
     have Ug:dj=t:=by
      have:jT ops j=some dj:=by unfold jT;rw[xN.get];exact xN.dst
      rw[Jl]at this;injection this with this;exact this.symm
     have gQ:j≠i:=fun e=>by subst e;rw[Uf]at Jl;injection Jl with Jl;exact ht Jl.symm
     have Wi:∀k,k<ops.size→k≠j→jT ops k≠some t:=fun k hk P4=>by rw[←Ug];exact xN.apart k hk P4
     rw[td Jl (show(l.setIfInBounds i true).getD j false=true by rw[mv j,if_neg gQ];exact Nh) hj Wi,td Jl Nh hj Wi]
    ·rw[oo fun j hj Nh h=>?_,oo fun j hj Nh h=>hex ⟨j,hj,h,Nh⟩]
     by_cases e:j=i
     ·subst e;rw[Uf]at h;injection h with h;exact ht h.symm
     ·have L7:(l.setIfInBounds i true).getD j false=true:=Nh
      rw[mv j,if_neg e]at L7;exact hex ⟨j,hj,h,L7⟩
  have Q8:=yq (d:=fun k=>l.getD k false) Ui Uh hdo U7
  unfold xI
  rw[if_pos (by unfold Region.wanted;rw[hm.guard])]
  cases Ua:g i with
  |val v=>
   rw[Ua]at Zs Zz
   obtain⟨v1,v2⟩:=Zs xQ
   rw[v2 w]
   have U1:mD g (fun k=>(l.setIfInBounds i true).getD k false) ops.size=mD g (fun k=>l.getD k false) ops.size:=Lj Ua hdo _
   refine⟨fun _=>.inl rfl,ihf _ ρ w _ (by simpa using hl) (by omega) (by rw[U1];exact hs) (by rw[U1];exact hE) ?_ fun k hk lM Qa=>hu k hk lM ?_⟩
   ·rw[Zz,hm.dst];exact ha.put (some d) v1
   ·rw[mv k]at Qa
    split at Qa
    ·cases Qa
    ·exact Qa
  |mk ln cp x=>
   rw[Ua]at Zs Zz
   have WR:(M0++mD g (fun k=>l.getD k false) ops.size)[Dm M0 g i]?=some .gone:=by
    unfold Dm
    rw[List.getElem?_append_right (by omega),Nat.add_sub_cancel_left,QX Ua U7]
    simp only[Ui]
   have ku:=hu i U7 (by rw[Ua];rfl) Ui
   obtain⟨ρ',w',k1,k2,k3,k4,k5⟩:=Zs xQ hs WR ku
   rw[k1]
   have Et:(M0++mD g (fun k=>l.getD k false) ops.size).set (Dm M0 g i) (.one true 0 x)=M0++mD g (fun k=>(l.setIfInBounds i true).getD k false) ops.size:=by
    unfold Dm
    rw[List.set_append_right _ _ (by omega),Nat.add_sub_cancel_left,Lk Ua Uh hdo U7]
   rw[Et]at k3 k4
   refine⟨fun _=>.inr trivial,ihf _ ρ' w' _ (by simpa using hl) (by omega) k3 (hE.trans k4) ?_ fun k hk lM Qa gg=>?_⟩
   ·rw[Zz,hm.dst];exact(ha.ext k4.env).put (some d) k2
   ·rw[mv k]at Qa
    split at Qa
    ·cases Qa
    ·rename_i Zr
     rw[k5 _ gg ?_]
     ·exact hu k hk lM Qa gg
     ·unfold Dm
      rcases Nat.lt_or_ge k i with h|h
      ·have:=HT lM h;omega
      ·have:=HT (f:=g) (i:=i) (k:=k) (by rw[Ua];rfl) (by omega);omega
theorem tF (hT:av P T)(aF:sK ops=true){K:AA→AH→Prop}{Kp:AV→AH→Prop}{ρ0:Env}{w0:World}{act:Act}(hs:aW ρ0 M0 w0)(ha:bQ ρ0 D n a0 act)(h:sf P T n W ops Kp K ops.toList a0 M0)
 (hK:∀a' aP M' ρ' w',K a' M'→bQ ρ' D n a' aP→aW ρ' M' w'→Ext ρ0 M0 w0 ρ' M' w'→Q .normal aP w'):
 anyS r P ops Q (fun _=>True) ds ops.size (Array.replicate ops.size false) act w0:=by
 obtain⟨g,_,g2,g3⟩:=yl (a0:=a0) (M0:=M0) (n:=n) (W:=W) hT aF (K:=K) (Kp:=Kp) ops.size 0 (fun _=>.val .ns) (by omega) (by
  show sf P T n W ops Kp K (ops.toList.drop 0) a0 (M0++[])
  rw[List.append_nil];exact h)
 have hd0:(fun k=>(Array.replicate ops.size false).getD k false)=fun _=>false:=by
  funext k
  simp only[Array.getD_eq_getD_getElem?,Array.getElem?_replicate]
  split<;>rfl
 have Jj:=Hp (f:=g) ops.size
 obtain⟨s1,s2⟩:=Ir hs Jj
 have Qd:aD n ops a0 M0 g (fun _=>false) ops.size=a0:=by
  funext t
  exact oo fun j _ h=>by cases h
 refine Li aF hs.pr (fun i hi=>g2 i (Nat.zero_le _) hi) (fun ρ' w' aP h1 h2 h3=>hK _ _ _ _ _ g3 h1 h2 h3) ops.size _ ρ0 w0 act (by simp) ?_ (by rw[hd0];exact s1) (by rw[hd0];exact s2) (by rw[hd0,Qd];exact ha) fun k hk lM _ gg=>?_
 ·have:∀(d:Nat→Bool) k,k7 d k≤k:=by
   intro d k
   induction k with
   |zero=>exact Nat.le_refl _
   |succ k ih=>simp only[k7];split<;>omega
  exact this _ _
 ·cases hh:ρ0 (Dm M0 g k) gg with
  |none=>rfl
  |some q=>
   have:=hs.pr (Dm M0 g k) gg (by rw[hh];rfl)
   unfold Dm at this;omega
end
end Go.Proofs.Ytibadaomjlkoaaa
open Go.RowKit
namespace Go.Proofs.Ytibadaomjlkoaaa
inductive jr where
 |normal
 |exit (id:Nat)
 |ret
def Marks (B:Nat)(D D':List Deferred)(w:World):Prop:=
 ∃rs:List Nat,D'=rs.map (fun r=>{target:=.collected r,args:=#[]})++D∧rs.Nodup∧∀r∈rs,B≤r∧w.heap[r]?=some (.deferred (some []))
theorem Marks.refl (B:Nat)(D:List Deferred)(w:World):Marks B D D w:=⟨[],rfl,List.nodup_nil,fun _ h=>by cases h⟩
theorem b8.fV {ρ:Env}{own:Bool}{x:af}{b base:Nat}{w:World}(h:b8 ρ own x b base w){c:Option (List Deferred)}:w.heap[b]?≠some (.deferred c):=by
 intro e
 rcases h.all with⟨_,c,el,fr,h1,_⟩|⟨_,_,h1⟩
 ·rw[e]at h1;cases h1
 ·cases x with
  |map kk es=>obtain⟨_,_,h1,_⟩:=h1;rw[e]at h1;cases h1
  |loop l st pd fn n a ps as bd df=>obtain⟨_,_,h1,_⟩:=h1;rw[e]at h1;cases h1
  |cells _=>exact h1.elim
  |ints _ _ _=>exact h1.elim
  |ax _ _=>exact h1.elim
  |cw _ _ _ _=>exact h1.elim
theorem aW.fV {ρ:Env}{M:AH}{w:World}(h:aW ρ M w){i g:Nat}{own:Bool}{x:af}{q:Nat×Nat}(hs:slot M i g=some (own,x))(hq:ρ i g=some (some q)){c:Option (List Deferred)}:w.heap[q.1]?≠some (.deferred c):=by
 rcases h.holds i g own x hs with⟨q',e1,e2⟩|⟨e1,_⟩
 ·rw[hq]at e1;injection e1 with e1;injection e1 with e1;subst e1;exact e2.fV
 ·rw[hq]at e1;cases e1
theorem Marks.mq {B:Nat}{D D':List Deferred}{ρ ρ':Env}{M M':AH}{w w':World}(hs:aW ρ M w)(hE:Ext ρ M w ρ' M' w')(h:Marks B D D' w):Marks B D D' w':=by
 obtain⟨rs,h0,hn,h1⟩:=h
 refine⟨rs,h0,hn,fun r hr=>⟨(h1 r hr).1,?_⟩⟩
 have h2:=(h1 r hr).2
 rw[hE.frame r (Array.getElem?_eq_some_iff.1 h2).1 (fun i g x q h3 h4 h5=>hs.fV h3 h4 (by rw[h5];exact h2))]
 exact h2
theorem Marks.trans {B:Nat}{D D' D'':List Deferred}{ρ ρ':Env}{M M':AH}{w w':World}(hB:B≤w.heap.size)(hs:aW ρ M w)(hE:Ext ρ M w ρ' M' w')(h:Marks B D D' w)(h':Marks w.heap.size D' D'' w'):Marks B D D'' w':=by
 have hk:=h.mq hs hE
 obtain⟨rs,rfl,hn,h1⟩:=h
 obtain⟨rs',rfl,Bl,h2⟩:=h'
 obtain⟨rs2,e2,_,h3⟩:=hk
 have bh:∀r∈rs,r<w.heap.size:=fun r hr=>(Array.getElem?_eq_some_iff.1 (h1 r hr).2).1
 have Ev:∀r∈rs,w'.heap[r]?=some (.deferred (some [])):=fun r hr=>by
  have h2:=(h1 r hr).2
  rw[hE.frame r (bh r hr) (fun i g x q h3 h4 h5=>hs.fV h3 h4 (by rw[h5];exact h2))]
  exact h2
 refine⟨rs'++rs,by simp,?_,fun r hr=>?_⟩
 ·rw[List.nodup_append]
  refine⟨Bl,hn,fun a ha b hb e=>?_⟩
  subst e
  have:=(h2 a ha).1
  have:=bh a hb
  omega
 ·rcases List.mem_append.1 hr with hr|hr
  ·exact⟨Nat.le_trans hB (h2 r hr).1,(h2 r hr).2⟩
  ·exact⟨(h1 r hr).1,Ev r hr⟩
theorem BQ {ρ:Env}{M:AH}{w:World}(hs:aW ρ M w){r:Nat}{c:Option (List Deferred)}(h:w.heap[r]?=some (.deferred c))(o:Obj):aW ρ M (w.putObj r o):=by
 refine⟨hs.pr,hs.tag,hs.aX,fun i g own x de=>?_,hs.apart⟩
 rcases hs.holds i g own x de with⟨q,e1,e2⟩|e
 ·refine .inl ⟨q,e1,e2.ext (fun _ _ _ h=>h) (World.putObj_heap_other fun e=>?_)⟩
  exact hs.fV de e1 (by rw[e];exact h)
 ·exact .inr e
theorem CP {ρ0 ρ:Env}{M0 M:AH}{w0 w:World}(hE:Ext ρ0 M0 w0 ρ M w){r:Nat}(hr:w0.heap.size≤r)(o:Obj):Ext ρ0 M0 w0 ρ M (w.putObj r o):=
 ⟨hE.env,by simpa using hE.size,fun b hb hn=>by rw[World.putObj_heap_other (by omega)];exact hE.frame b hb hn,hE.fresh,hE.os,hE.tape,hE.output⟩
theorem dh {F:Fence}{n:Nat}{P:Program}{fn:Func}{tmps:Array Value}{R:Ending→World→Prop}{ρ0 ρ:Env}{M0 M:AH}{w0:World}{u:FrameMode}(hu:u≠ .run)
 (sU:∀w,aW ρ M w→Ext ρ0 M0 w0 ρ M w→LeavesIn F n P fn tmps R [] u w):∀(rs:List Nat)(w:World),rs.Nodup→(∀r∈rs,w0.heap.size≤r∧w.heap[r]?=some (.deferred (some [])))→aW ρ M w→Ext ρ0 M0 w0 ρ M w→
 LeavesInM F n P fn tmps R (rs.map (fun r=>{target:=.collected r,args:=#[]})) u w
 |[],w,_,_,hs,hE=>sU w hs hE
 |r::rs,w,hn,h,hs,hE=>by
  obtain⟨h1,h2⟩:=h r List.mem_cons_self
  refine⟨hu,.inl ⟨r,_,rfl,run_takeDeferred h2,dh hu sU rs _ (List.nodup_cons.1 hn).2 (fun r' Dr=>⟨(h r' (List.mem_cons_of_mem _ Dr)).1,?_⟩) (BQ hs h2 _) (CP hE h1 _)⟩⟩
  rw[World.putObj_heap_other (fun e=>(List.nodup_cons.1 hn).1 (by rw[←e];exact Dr))]
  exact(h r' (List.mem_cons_of_mem _ Dr)).2
def fc (ρ0:Env)(M0:AH)(w0:World)(D:List Deferred)(n:Nat)(Q:jr→AA→AH→Prop)(Kp:AV→AH→Prop)(e:Exit)(act:Act)(w':World):Prop:=
 match e with
 | .normal=>∃ρ' M' a' D',aW ρ' M' w'∧Ext ρ0 M0 w0 ρ' M' w'∧Marks w0.heap.size D D' w'∧bQ ρ' D' n a' act∧Q .normal a' M'
 | .exit id=>∃ρ' M' a' D',aW ρ' M' w'∧Ext ρ0 M0 w0 ρ' M' w'∧Marks w0.heap.size D D' w'∧bQ ρ' D' n a' act∧Q (.exit id) a' M'
 | .ret=>∃ρ' M' a' D',aW ρ' M' w'∧Ext ρ0 M0 w0 ρ' M' w'∧Marks w0.heap.size D D' w'∧bQ ρ' D' n a' act∧Q .ret a' M'
 | .panic ch=>∃ρ' M' v D',aW ρ' M' w'∧Ext ρ0 M0 w0 ρ' M' w'∧Marks w0.heap.size D D' w'∧act.defers=D'∧ch=[{v:=v.c ρ',recovered:=false}]∧v.ok ρ'∧Kp v M'
 |_=>False
theorem fc.from {ρ0 ρ:Env}{M0 M:AH}{w0 w:World}{D0 D:List Deferred}{n:Nat}{Q:jr→AA→AH→Prop}{Kp:AV→AH→Prop}{e:Exit}{act:Act}{w':World}(hE:Ext ρ0 M0 w0 ρ M w)(hs:aW ρ M w)(hM:Marks w0.heap.size D0 D w)
 (h:fc ρ M w D n Q Kp e act w'):fc ρ0 M0 w0 D0 n Q Kp e act w':=by
 cases e with
 |normal=>obtain⟨ρ',M',a',D',h1,h2,h3,h4⟩:=h;exact⟨ρ',M',a',D',h1,hE.trans h2,hM.trans hE.size hs h2 h3,h4⟩
 |exit id=>obtain⟨ρ',M',a',D',h1,h2,h3,h4⟩:=h;exact⟨ρ',M',a',D',h1,hE.trans h2,hM.trans hE.size hs h2 h3,h4⟩
 |ret=>obtain⟨ρ',M',a',D',h1,h2,h3,h4⟩:=h;exact⟨ρ',M',a',D',h1,hE.trans h2,hM.trans hE.size hs h2 h3,h4⟩
 |panic ch=>obtain⟨ρ',M',v,D',h1,h2,h3,h4⟩:=h;exact⟨ρ',M',v,D',h1,hE.trans h2,hM.trans hE.size hs h2 h3,h4⟩
 |goto l=>exact h.elim
 |outgrown=>exact h.elim
abbrev QF:=List (Nat×Value)
def dH (pin:QF)(act:Act):Prop:=∀p∈pin,act.tmps.getD p.1 undef=p.2
def sC (pin:QF)(d:Option Nat):Bool:=pin.all fun p=>!(d==some p.1)
theorem dH.put {pin:QF}{act:Act}{d:Option Nat}{v:Value}(h:dH pin act)(hd:sC pin d=true):dH pin (act.put d v):=by
 intro p hp
 have h1:=h p hp
 have h2:=List.all_eq_true.1 hd p hp
 cases d with
 |none=>exact h1
 |some t=>
  have ht:t≠p.1:=fun e=>by subst e;simp at h2
  show(act.tmps.setIfInBounds t v).getD p.1 undef=_
  rw[Array.getD_eq_getD_getElem?,Array.getElem?_setIfInBounds,if_neg ht,←Array.getD_eq_getD_getElem?]
  exact h1
def fm (pin:QF):Code→Bool
 | .region _ ops _=>ops.toList.all fun o=>sC pin o.dst
 | .seq a b=>fm pin a&&fm pin b
 | .cond _ a b=>fm pin a&&fm pin b
 | .block _ a=>fm pin a
 | .loop a=>fm pin a
 | .scope a=>fm pin a
 | .rangeFunc ..=>pin.isEmpty
 |_=>true
theorem Cg (c:Code):fm [] c=true:=by
 induction c with
 |region id ops d=>simp[fm,sC]
 |seq a b h1 h2=>simp[fm,h1,h2]
 |cond o a b h1 h2=>simp[fm,h1,h2]
 |block id a h=>simp[fm,h]
 |loop a h=>simp[fm,h]
 |scope a h=>simp[fm,h]
 |rangeFunc f ps a b=>rfl
 |_=>rfl
theorem dH.nil (act:Act):dH [] act:=fun _ h=>by cases h
section
variable{P:Program}{r:Option Nat}{pin:QF}{Q:Exit→Act→World→Prop}
theorem Br {ops:Array Oper}{i:Nat}{K:Act→World→Prop}{a:Act}{w:World}(tL:¬LetsOut Q)(m8:∀o∈ops.toList,sC pin o.dst=true)(hp:dH pin a)(h:wpOpIn (FW r) 0 P ops Q i K a w):
 wpOpIn (FW r) 0 P ops (fun e a w=>Q e a w∧dH pin a) i (fun a w=>K a w∧dH pin a) a w:=by
 unfold wpOpIn at*
 cases ho:ops[i]? with
 |none=>rw[ho]at h;exact⟨h,hp⟩
 |some o=>
  rw[ho]at h
  simp only at h⊢
  have hd:sC pin o.dst=true:=m8 o (by have:=Array.mem_of_getElem? ho;simpa using this)
  split
  ·rename_i hw
   rw[if_pos hw]at h
   unfold Oper.wpIn at*
   refine⟨h.1,?_⟩
   have hh:=h.2
   generalize(o.semAt (FW r).round a.eval).run P w=res at*
   have Ds:∀{R:Exit→Act→World→Prop},LetsOut Q→LetsOut R:=fun h=>absurd h tL
   cases res with
   |ok x w'=>
    cases x<;>simp only[Oper.uponIn]at hh⊢<;>
     first
      |exact⟨hh,hp.put hd⟩
      |exact⟨hh,dH.put (act:={a with defers:=_::a.defers}) hp hd⟩
      |exact⟨hh.1,CallsIn.mono hh.2 (fun e xh he=>by cases e<;>first|exact⟨he,hp.put hd⟩|exact⟨he,hp⟩|exact Ds he)⟩
      |exact⟨hh.1,RowsIn.mono hh.2 (fun _ _ he=>⟨he,hp.put hd⟩)⟩
      |exact⟨hh.1,RoundIn.mono hh.2 (fun e xh he=>by cases e<;>first|exact⟨he,hp.put hd⟩|exact⟨he,hp⟩|exact Ds he)⟩
   |halt x w'=>cases x<;>simp only[Oper.uponIn]at hh⊢<;>first|exact⟨hh,hp⟩|exact hh
  ·rename_i hw
   rw[if_neg hw]at h
   exact⟨h.1,h.2,hp.put hd⟩
theorem qN {ops:Array Oper}{i:Nat}{K K':Act→World→Prop}{a:Act}{w:World}(hK:∀a w,K a w→K' a w)(h:wpOpIn (FW r) 0 P ops Q i K a w):wpOpIn (FW r) 0 P ops Q i K' a w:=by
 unfold wpOpIn at*
 split
 ·rename_i ho;rw[ho]at h;exact hK _ _ h
 ·rename_i o ho
  rw[ho]at h
  simp only at h
  split
  ·rename_i hw;rw[if_pos hw]at h;exact Oper.wpIn_mono hK h
  ·rename_i hw;rw[if_neg hw]at h;exact⟨h.1,hK _ _ h.2⟩
theorem xY {ops:Array Oper}(tL:¬LetsOut Q)(m8:∀o∈ops.toList,sC pin o.dst=true):∀(l:List Nat)(a:Act)(w:World),dH pin a→wpOpsIn (FW r) 0 P ops Q l a w→wpOpsIn (FW r) 0 P ops (fun e a w=>Q e a w∧dH pin a) l a w
 |[],a,w,hp,h=>⟨h,hp⟩
 |i::l,a,w,hp,h=>by
  rw[wpOpsIn_cons]at*
  exact qN (fun a w h=>xY tL m8 l a w h.2 h.1) (Br tL m8 hp h)
theorem rW {ops:Array Oper}(tL:¬LetsOut Q)(m8:∀o∈ops.toList,sC pin o.dst=true):∀(f:Nat)(l:Array Bool)(a:Act)(w:World),dH pin a→wpAnyIn (FW r) 0 P .any ops Q f l a w→wpAnyIn (FW r) 0 P .any ops (fun e a w=>Q e a w∧dH pin a) f l a w
 |0,l,a,w,hp,h=>⟨h.1,h.2,hp⟩
 |f+1,l,a,w,hp,h=>⟨fun hr=>⟨h.1 hr,hp⟩,fun i hi=>qN (fun a w h=>rW tL m8 f _ a w h.2 h.1) (Br tL m8 hp (h.2 i hi))⟩
end
def HX (pin:QF)(ρ0:Env)(M0:AH)(w0:World)(D:List Deferred)(n:Nat)(Q:jr→AA→AH→Prop)(Kp:AV→AH→Prop)(e:Exit)(act:Act)(w':World):Prop:=fc ρ0 M0 w0 D n Q Kp e act w'∧dH pin act
theorem fc.K7 {ρ0:Env}{M0:AH}{w0:World}{D:List Deferred}{n:Nat}{Q:jr→AA→AH→Prop}{Kp:AV→AH→Prop}:¬LetsOut (fc ρ0 M0 w0 D n Q Kp):=fun⟨_,_,h⟩=>h
@[irreducible] def WA (P:Program)(r:Option Nat)(D0:List Deferred)(n:Nat)(c:Code)(Q:jr→AA→AH→Prop)(Kp:AV→AH→Prop)(a:AA)(M:AH):Prop:=
  ∀pin D ρ w act,fm pin c=true→dH pin act→aW ρ M w→bQ ρ D n a act→c.wpIn (FW r) 0 P (HX pin ρ M w D n Q Kp) act w
structure Cx where
 P:Program
 T:List TI
 n:Nat
 W:List Nat:=[]
 pl:Nat→Option (List (Nat×Nat)×List Nat):=fun _=>none
 B:Nat→List Nat:=fun _=>[]
 r:Option Nat:=none
 D:List Deferred:=[]
def bO (x:Cx):Code→(jr→AA→AH→Prop)→(AV→AH→Prop)→AA→AH→Prop
 | .skip,Q,_,a,M=>Q .normal a M
 | .label _,Q,_,a,M=>Q .normal a M
 | .seq c d,Q,Kp,a,M=>bO x c (fun e a M=>match e with
  | .normal=>bO x d Q Kp a M
  |e=>Q e a M) Kp a M
 | .cond o c d,Q,Kp,a,M=>match qL a o with
   | .tt=>bO x c Q Kp a M
   | .ff=>bO x d Q Kp a M
   | .bo b=>(b=true→bO x c Q Kp a M)∧(b=false→bO x d Q Kp a M)
   |_=>False
 | .block id c,Q,Kp,a,M=>bO x c (fun e a M=>match e with
  | .exit PL=>match Nat.beq PL id with
    |true=>Q .normal a M
    |false=>Q (.exit PL) a M
  |e=>Q e a M) Kp a M
 | .exit id,Q,_,a,M=>Q (.exit id) a M
 | .ret,Q,_,a,M=>Q .ret a M
 | .region id ops draw,Q,Kp,a,M=>match draw with
   |false=>sf x.P x.T x.n x.W ops Kp (fun a M=>Q .normal a M) ops.toList a M
   |true=>match x.pl id with
    |some (cK,_)=>match cK with
     |[]=>sf x.P x.T x.n x.W ops Kp (fun a M=>Q .normal a M) ops.toList a M
     |p::cK=>gw x.P x.T x.n x.W ops Kp (fun a M=>Q .normal a M) (x.B id) [] (p::cK) a M
    |none=>False
 | .loop c,Q,Kp,a,M=>WA x.P x.r x.D x.n (.loop c) Q Kp a M
 | .rangeFunc f ps as c,Q,Kp,a,M=>WA x.P x.r x.D x.n (.rangeFunc f ps as c) Q Kp a M
 |_,_,_,_,_=>False
def ai (pl:Nat→Option (List (Nat×Nat)×List Nat)):Code→Bool
 | .region id ops true=>match pl id with
   |some (cK,ds)=>(match cK with
    |[]=>sK ops
    |p::cK=>qb ops ds [] (p::cK) (Array.replicate ops.size false))&&ops.all (fun o=>cN o.op)&&Nat.ble cK.length ops.size
   |none=>true
 | .seq a b=>ai pl a&&ai pl b
 | .cond _ a b=>ai pl a&&ai pl b
 | .block _ a=>ai pl a
 | .loop a=>ai pl a
 | .rangeFunc _ _ a b=>ai pl a&&ai pl b
 | .scope a=>ai pl a
 |_=>true
theorem gV {x:Cx}{pin:QF}(hT:av x.P x.T)(hm:x.P.follows .mixedOrders=true){ρ0:Env}{M0:AH}{w0:World}{D0:List Deferred}:
 ∀(c:Code)(cg:ai x.pl c=true)(Q:jr→AA→AH→Prop)(Kp:AV→AH→Prop)(a:AA)(M:AH)(ρ:Env)(w:World)(act:Act)(D:List Deferred),aW ρ M w→Ext ρ0 M0 w0 ρ M w→Marks w0.heap.size D0 D w→bQ ρ D x.n a act→fm pin c=true→dH pin act→bO x c Q Kp a M→
  c.wpIn (FW x.r) 0 x.P (HX pin ρ0 M0 w0 D0 x.n Q Kp) act w:=by
 intro c
 induction c with
 |skip=>exact fun _ Q Kp a M ρ w act D hs hE hM ha _ hp h=>wpIn_skip ⟨⟨ρ,M,a,D,hs,hE,hM,ha,h⟩,hp⟩
 |label l=>exact fun _ Q Kp a M ρ w act D hs hE hM ha _ hp h=>wpIn_label ⟨⟨ρ,M,a,D,hs,hE,hM,ha,h⟩,hp⟩
 |exit id=>exact fun _ Q Kp a M ρ w act D hs hE hM ha _ hp h=>wpIn_exit ⟨⟨ρ,M,a,D,hs,hE,hM,ha,h⟩,hp⟩
 |ret=>exact fun _ Q Kp a M ρ w act D hs hE hM ha _ hp h=>wpIn_ret ⟨⟨ρ,M,a,D,hs,hE,hM,ha,h⟩,hp⟩
 |seq c d PK PJ=>
  intro cg Q Kp a M ρ w act D hs hE hM ha nj hp h
  simp only[ai,Bool.and_eq_true]at cg
  simp only[fm,Bool.and_eq_true]at nj
  refine wpIn_seq (wpIn_mono (PK cg.1 _ Kp a M ρ w act D hs hE hM ha nj.1 hp h) fun e aP w' hq=>?_)
  obtain⟨hq,y5⟩:=hq
  cases e with
  |normal=>obtain⟨ρ',M',a',D',h1,h2,xR,h3,h4⟩:=hq;exact PJ cg.2 Q Kp a' M' ρ' w' aP D' h1 h2 xR h3 nj.2 y5 h4
  |exit id=>exact⟨hq,y5⟩
  |ret=>exact⟨hq,y5⟩
  |panic ch=>exact⟨hq,y5⟩
  |goto l=>exact hq.elim
  |outgrown=>exact hq.elim
 |cond o c d PK PJ=>
  intro cg Q Kp a M ρ w act D hs hE hM ha nj hp h
  simp only[ai,Bool.and_eq_true]at cg
  simp only[fm,Bool.and_eq_true]at nj
  have he:=(ha.ev o).1
  simp only[bO]at h
  split at h<;>rename_i hh<;>(try rw[hh]at he)
  ·exact wpIn_cond_true he (PK cg.1 Q Kp a M ρ w act D hs hE hM ha nj.1 hp h)
  ·exact wpIn_cond_false he (PJ cg.2 Q Kp a M ρ w act D hs hE hM ha nj.2 hp h)
  ·exact wpIn_cond_split he (fun hb=>PK cg.1 Q Kp a M ρ w act D hs hE hM ha nj.1 hp (h.1 hb)) (fun hb=>PJ cg.2 Q Kp a M ρ w act D hs hE hM ha nj.2 hp (h.2 hb))
  ·exact h.elim
 |block id c ih=>
  intro cg Q Kp a M ρ w act D hs hE hM ha nj hp h
  refine wpIn_block (wpIn_mono (ih cg _ Kp a M ρ w act D hs hE hM ha nj hp h) fun e aP w' hq=>?_)
  obtain⟨hq,y5⟩:=hq
  cases e with
  |normal=>exact⟨hq,y5⟩
  |exit PL=>
   obtain⟨ρ',M',a',D',h1,h2,xR,h3,h4⟩:=hq
   simp only[Exit.inBlock]
   simp only at h4
   split at h4
   ·rename_i hb
    rw[if_pos (Nat.eq_of_beq_eq_true hb)]
    exact⟨⟨ρ',M',a',D',h1,h2,xR,h3,h4⟩,y5⟩
   ·rename_i hb
    rw[if_neg (Nat.ne_of_beq_eq_false hb)]
    exact⟨⟨ρ',M',a',D',h1,h2,xR,h3,h4⟩,y5⟩
  |ret=>exact⟨hq,y5⟩
  |panic ch=>exact⟨hq,y5⟩
  |goto l=>exact hq.elim
  |outgrown=>exact hq.elim
 |loop c ih=>
  intro cg Q Kp a M ρ w act D hs hE hM ha nj hp h
  simp only[bO]at h
  unfold WA at h
  exact wpIn_mono (h pin D ρ w act nj hp hs ha) fun e aP w' hq=>⟨hq.1.from hE hs hM,hq.2⟩
 |rangeFunc f ps as c=>
  intro cg Q Kp a M ρ w act D hs hE hM ha nj hp h
  simp only[bO]at h
  unfold WA at h
  exact wpIn_mono (h pin D ρ w act nj hp hs ha) fun e aP w' hq=>⟨hq.1.from hE hs hM,hq.2⟩
 |region id ops draw=>
  intro cg Q Kp a M ρ w act D hs hE hM ha nj hp h
  simp only[bO]at h
  split at h
  ·have PZ:∀o∈ops.toList,sC pin o.dst=true:=fun o ho=>List.all_eq_true.1 nj o ho
   refine wpIn_region (xY fc.K7 PZ _ _ _ hp ?_)
   have:=p9 (r:=x.r) (Q:=fc ρ0 M0 w0 D0 x.n Q Kp) hT ops.toList 0 a M ρ w act (by simp) hs (Ext.refl _ _ _) ha h
    (fun a' aP M' ρ' w' h1 h2 h3 h4=>⟨ρ',M',a',D,h3,hE.trans h4,hM.mq hs h4,h2,h1⟩) (fun rv M' ρ' w' aP h0 h1 h2 h3 h4=>⟨ρ',M',rv,D,h3,hE.trans h4,hM.mq hs h4,h0,rfl,h2,h1⟩)
   rw[show List.range ops.size=List.range' 0 ops.toList.length by rw[List.range_eq_range',Array.length_toList]]
   exact this
  ·split at h
   ·rename_i cK ds TS
    simp only[ai,TS,Bool.and_eq_true]at cg
    obtain⟨⟨rJ,gm⟩,AL⟩:=cg
    have PZ:∀o∈ops.toList,sC pin o.dst=true:=fun o ho=>List.all_eq_true.1 nj o ho
    obtain⟨B,hB⟩:∃B,x.B id=B:=⟨_,rfl⟩
    rw[hB]at h
    have UX:=hp
    have hp:∀(i:Nat) o,ops[i]?=some o→cN o.op=true:=fun i o hi=>by
     exact Array.all_eq_true_iff_forall_mem.1 gm o (Array.mem_of_getElem? hi)
    have xL:aW ρ M {w with drawn:=w.drawn+1}:=⟨hs.pr,hs.tag,hs.aX,fun i g own y hy=>by
     rcases hs.holds i g own y hy with⟨q,h1,h2⟩|h1
     ·exact .inl ⟨q,h1,b8.ext (w:=w) (fun _ _ _ h=>h) rfl h2⟩
     ·exact .inr h1,hs.apart⟩
    have EK:Ext ρ0 M0 w0 ρ M {w with drawn:=w.drawn+1}:=⟨hE.env,hE.size,hE.frame,hE.fresh,hE.os,hE.tape,hE.output⟩
    have xR:Marks w0.heap.size D0 D {w with drawn:=w.drawn+1}:=hM
    have hEr:Ext ρ M {w with drawn:=w.drawn+1} ρ M {w with drawn:=w.drawn+1}:=Ext.refl _ _ _
    cases cK with
    |nil=>
     refine wpIn_region_any hm (rW fc.K7 PZ _ _ _ _ UX (dN (S:=fun _=>True) (ds:=ds) hp _ _ _ _ ?_))
     exact tF (r:=x.r) (Q:=fc ρ0 M0 w0 D0 x.n Q Kp) (w0:={w with drawn:=w.drawn+1}) hT rJ xL ha h
      (fun a' aP M' ρ' w' h1 h2 h3 h4=>⟨ρ',M',a',D,h3,EK.trans h4,xR.mq xL h4,h2,h1⟩)
    |cons p cK=>
    refine wpIn_region_any hm (rW fc.K7 PZ _ _ _ _ UX (dN (S:=SB ρ M B) (ds:=ds) hp _ _ _ _ ?_))
    exact bE (r:=x.r) (Q:=fc ρ0 M0 w0 D0 x.n Q Kp) (w0:={w with drawn:=w.drawn+1}) hT hp
     (fun c aP d v w' hq=>by
      obtain⟨ρ',M',u,D',h1,h2,hm,h3,h4⟩:=hq
      exact⟨ρ',M',u,D',h1,h2,hm,by cases d<;>exact h3,h4⟩)
     (p::cK) [] _ ops.size a M ρ _ act (SB ρ M B) (Nat.le_trans (List.length_filter_le _ _) (by simpa using AL)) rJ jY.none xL hEr ha (fun _=>SB.of xL B) (fun _ h=>h) (fun _ ρ' M' w' k1 k2 k3=>pw (SB.of xL B) k1 k2 k3) h
     (fun a' aP M' ρ' w' h1 h2 h3 h4=>⟨ρ',M',a',D,h3,EK.trans h4,xR.mq xL h4,h2,h1⟩) (fun rv M' ρ' w' aP h0 h1 h2 h3 h4=>⟨ρ',M',rv,D,h3,EK.trans h4,xR.mq xL h4,h0,rfl,h2,h1⟩)
   ·exact h.elim
 |scope c=>exact fun _ Q Kp a M ρ w act D hs hE hM ha _ _ h=>h.elim
 |goto l=>exact fun _ Q Kp a M ρ w act D hs hE hM ha _ _ h=>h.elim
 |refuse why=>exact fun _ Q Kp a M ρ w act D hs hE hM ha _ _ h=>h.elim
theorem mE {x:Cx}(hT:av x.P x.T)(hm:x.P.follows .mixedOrders=true){ρ0:Env}{M0:AH}{w0:World}{D0:List Deferred}:
 ∀(c:Code)(cg:ai x.pl c=true)(Q:jr→AA→AH→Prop)(Kp:AV→AH→Prop)(a:AA)(M:AH)(ρ:Env)(w:World)(act:Act)(D:List Deferred),aW ρ M w→Ext ρ0 M0 w0 ρ M w→Marks w0.heap.size D0 D w→bQ ρ D x.n a act→bO x c Q Kp a M→
  c.wpIn (FW x.r) 0 x.P (fc ρ0 M0 w0 D0 x.n Q Kp) act w:=
 fun c cg Q Kp a M ρ w act D hs hE hM ha h=>wpIn_mono (gV (pin:=[]) hT hm c cg Q Kp a M ρ w act D hs hE hM ha (Cg c) (dH.nil act) h) fun _ _ _ h=>h.1
theorem C1 {x:Cx}(hT:av x.P x.T)(hm:x.P.follows .mixedOrders=true){c:Code}(cg:ai x.pl c=true){Q:jr→AA→AH→Prop}{Kp:AV→AH→Prop}{a:AA}{M:AH}(h:bO x c Q Kp a M):
 WA x.P x.r x.D x.n c Q Kp a M:=by
 unfold WA
 exact fun pin D ρ w act nj hp hs ha=>gV hT hm c cg Q Kp a M ρ w act D hs (Ext.refl _ _ _) (Marks.refl _ _ _) ha nj hp h
def Hj:AV→AV
 | .tt=>.bo true| .ff=>.bo false| .bo x=>.bo x| .int k n=>.int k n| .str x=>.str x| .np=>.np| .ptr i g off=>.ptr i g off| .nI i g sz j o=>.nI i g sz j o
 | .ns=>.ns| .sl i g off n c=>.sl i g off n c| .nf=>.nf| .fn q a b=>.fn q a b| .ni=>.ni| .jZ t v=>.jZ t v| .nm=>.nm| .mp i g=>.mp i g
 | .agg l=>.agg l| .aE l=>.aE l| .raw v=>.raw v
theorem Pw (ρ:Env)(v:AV):(Hj v).c ρ=v.c ρ:=by cases v<;>rfl
theorem K6 {ρ:Env}{v:AV}(h:v.ok ρ):(Hj v).ok ρ:=by cases v<;>exact h
def Ad (T:List TI)(M:AH)(a:AA):List ResultVar→(List AV→Prop)→Prop
 |[],K=>K []
 | .tmp t::l,K=>Ad T M a l fun vs=>mB (Hj (a t)) fun v=>K (v::vs)
 | .cell ad t::l,K=>rF T M t (a ad) fun v=>Ad T M a l fun vs=>K (v::vs)
def ar (T:List TI)(rs:List ResultVar)(K:AV→AH→Prop)(e:jr)(a:AA)(M:AH):Prop:=
 match e with
 | .normal| .ret=>Ad T M a rs fun vs=>match vs with
   |[v]=>K v M
   |vs=>K (.aE vs) M
 |_=>False
def aq (args:List AV):AA:=fun k=>match args[k]? with
 |some v=>v
 |none=>.aE []
def ss (tmps:Array Value):ResultVar→Sem Value
 | .tmp t=>pure (tmps.getD t undef)
 | .cell a t=>do loadVar t (←asAddr (tmps.getD a undef))
theorem ju (fn:Func)(tmps:Array Value):results fn tmps=(do
 let vs←fn.results.mapM (ss tmps)
 pure (if h:vs.size=1 then vs[0]else .tuple vs)):=by
 unfold results
 have:(fun r=>match r with
  |ResultVar.tmp t=>(pure (tmps.getD t undef):Sem Value)
  |ResultVar.cell a t=>do loadVar t (←asAddr (tmps.getD a undef)))=ss tmps:=by
  funext r;cases r<;>rfl
 rw[←this];rfl
theorem jv {P:Program}{T:List TI}(hT:av P T){M:AH}{a:AA}{ρ:Env}{w:World}{act:Act}{D:List Deferred}{n:Nat}(hs:aW ρ M w)(ha:bQ ρ D n a act):
 ∀(l:List ResultVar)(K:List AV→Prop),Ad T M a l K→∃vs,K vs∧AV.eb ρ vs∧(l.mapM (ss act.tmps)).run P w=Result.ok (AV.cl ρ vs) w
 |[],K,h=>⟨[],h,trivial,by simp[AV.cl]⟩
 | .tmp t::l,K,h=>by
   obtain⟨vs,h1,h2,h3⟩:=jv hT hs ha l _ h
   refine⟨Hj (a t)::vs,eX h1,⟨K6 (ha.ok t),h2⟩,?_⟩
   rw[List.mapM_cons]
   simp[h3,ha.get t,AV.cl,ss,Pw]
 | .cell ad t::l,K,h=>by
   obtain⟨v,h1,h2,h3⟩:=iz (P:=P) hT hs.known (hs.id _) h
   obtain⟨vs,k1,k2,k3⟩:=jv hT hs ha l _ h1
   refine⟨v::vs,k1,⟨h2,k2⟩,?_⟩
   have h4:=h3 w (hs.id _)
   have aN:(ss act.tmps (.cell ad t)).run P w=Result.ok (v.c ρ) w:=by
    simp only[ss]
    rw[ha.get ad]
    simp only[Instr.loadAt]at h4
    generalize(a ad).c ρ=u at h4
    cases u with
    |pointer o=>cases o with
     |none=>simp[Instr.sureAddr]at h4
     |some ad=>simpa[Instr.sureAddr,asAddr]using h4
    |_=>simp[Instr.sureAddr]at h4
   rw[List.mapM_cons]
   simp only[Sem.run_bind]
   rw[aN]
   simp[k3,AV.cl]
theorem aa.intro {x:Cx}(hT:av x.P x.T)(hm:x.P.follows .mixedOrders=true){g:Nat}{fn:Func}{c:Code}(hf:x.P.funcs[g]?=some fn)(hb:fn.body=some c)(hg:pS x.P g=true)(cg:ai x.pl c=true)(hr:x.r=none)(hD:x.D=[])
 {args:List AV}{M:AH}{K Kp:AV→AH→Prop}(hn:fn.ntmps=x.n)(hle:Nat.ble args.length x.n=true)
 (h:bO x c (ar x.T fn.results.toList K) Kp (aq args) M):aa x.P g args M K Kp:=by
 unfold aa
 refine⟨hg,fun ρ w hs aF=>?_⟩
 have T2:args.length≤x.n:=by simpa using hle
 have hlen:(AV.cl ρ args).toArray.size=args.length:=by simp[AV.bc]
 have ha:bQ ρ x.D x.n (aq args) {tmps:=(AV.cl ρ args).toArray++Array.replicate (fn.ntmps-(AV.cl ρ args).toArray.size) undef,defers:=[]}:=by
  refine⟨hD.symm,?_,fun t=>?_,fun t=>?_⟩
  ·rw[Array.size_append,Array.size_replicate,hlen,hn];omega
  ·simp only[aq];split
   ·exact(AV.aQ ρ args).1 aF _ (List.mem_of_getElem? ‹_›)
   ·exact trivial
  ·simp only[aq,Array.getD_eq_getD_getElem?]
   by_cases ht:t<args.length
   ·rw[Array.getElem?_append_left (by rw[hlen];exact ht)]
    simp[AV.bc,List.getElem?_eq_getElem ht]
   ·rw[Array.getElem?_append_right (by rw[hlen];omega),List.getElem?_eq_none (by omega)]
    simp only[Array.getElem?_replicate]
    split<;>rfl
 have hw:=mE hT hm c cg _ Kp _ M ρ w _ x.D hs (Ext.refl _ _ _) (Marks.refl _ _ _) ha h
 rw[hD]at hw
 refine callsIn_wide.1 (callsIn_of_wp_marks (F:=Fence.wide) (n:=0) hf hb trivial (wpIn_mono (Q:=fc ρ M w [] x.n (ar x.T fn.results.toList K) Kp) ?_ fun e act w' hq=>?_))
 ·rw[hr]at hw;exact hw
 ·have fin:∀(ρ':Env)(M':AH)(a':AA)(D':List Deferred),aW ρ' M' w'→Ext ρ M w ρ' M' w'→Marks w.heap.size [] D' w'→bQ ρ' D' x.n a' act→(Ad x.T M' a' fn.results.toList fun vs=>match vs with|[v]=>K v M'|vs=>K (.aE vs) M')→
   LeavesInM Fence.wide 0 x.P fn act.tmps (jf ρ M w K Kp) act.defers .returning w':=by
   intro ρ' M' a' D' h1 h2 ⟨rs,Ev,Hz,uH⟩ h3 h4
   rw[h3.defers,Ev,List.append_nil]
   refine dh (by simp) (fun w2 g1 g2=>?_) rs w' Hz uH h1 h2
   obtain⟨vs,k1,k2,k3⟩:=jv hT g1 h3 _ _ h4
   have AG:(fn.results.mapM (ss act.tmps)).run x.P w2=Result.ok (AV.cl ρ' vs).toArray w2:=by
    rw[Array.mapM_eq_mapM_toList]
    simp[k3]
   show∃v,(results fn act.tmps).run x.P w2=.ok v w2∧jf ρ M w K Kp (.returned v) w2
   rw[ju]
   simp only[Sem.run_bind,AG]
   match vs,k1,k2 with
   |[v],k1,k2=>exact⟨v.c ρ',by simp[AV.cl],ρ',M',g1,g2,v,rfl,k2.1,k1⟩
   |[],k1,k2=>exact⟨(AV.aE []).c ρ',by simp[AV.cl,AV.c],ρ',M',g1,g2,.aE [],rfl,k2,k1⟩
   |v::u::vs,k1,k2=>exact⟨(AV.aE (v::u::vs)).c ρ',by simp[AV.cl,AV.c],ρ',M',g1,g2,.aE (v::u::vs),rfl,k2,k1⟩
  cases e with
  |normal=>obtain⟨ρ',M',a',D',h1,h2,hm,h3,h4⟩:=hq;exact fin ρ' M' a' D' h1 h2 hm h3 h4
  |ret=>obtain⟨ρ',M',a',D',h1,h2,hm,h3,h4⟩:=hq;exact fin ρ' M' a' D' h1 h2 hm h3 h4
  |exit id=>obtain⟨ρ',M',a',D',h1,h2,hm,h3,h4⟩:=hq;exact h4.elim
  |panic ch=>
   obtain⟨ρ',M',v,D',h1,h2,⟨rs,Ev,Hz,uH⟩,h3,h4,h5,h6⟩:=hq
   show LeavesInM Fence.wide 0 x.P fn act.tmps (jf ρ M w K Kp) act.defers (.panicking ch) w'
   rw[h3,Ev,List.append_nil]
   refine dh (F:=Fence.wide) (n:=0) (P:=x.P) (fn:=fn) (tmps:=act.tmps) (R:=jf ρ M w K Kp) (u:=.panicking ch) (by simp) (fun w2 g1 g2=>?_) rs w' Hz uH h1 h2
   show jf ρ M w K Kp (.panicked ch) w2
   exact⟨ρ',M',g1,g2,v,h4,h5,h6⟩
  |goto l=>exact hq.elim
  |outgrown=>exact hq.elim
end Go.Proofs.Ytibadaomjlkoaaa
open Go.RowKit
namespace Go.Proofs.Ytibadaomjlkoaaa
mutual
def AV.nb (k:Nat):AV→Bool
 | .ptr i _ _=>Nat.blt i k
 | .nI i _ _ _ _=>Nat.blt i k
 | .sl i _ _ _ _=>Nat.blt i k
 | .mp i _=>Nat.blt i k
 | .fn _ a b=>AV.qi k a&&AV.qi k b
 | .jZ _ v=>v.nb k
 | .agg l=>AV.qi k l
 | .aE l=>AV.qi k l
 | .raw _=>true| .bo _=>true| .tt=>true| .ff=>true| .int _ _=>true| .str _=>true| .np=>true| .ns=>true| .nf=>true| .ni=>true| .nm=>true
def AV.qi (k:Nat):List AV→Bool
 |[]=>true
 |v::l=>v.nb k&&AV.qi k l
end
def qy (ρ:Env)(k:Nat):Env:=fun i g=>if i<k then ρ i g else none
theorem uJ {ρ:Env}{k i:Nat}(h:Nat.blt i k=true)(g:Nat):qy ρ k i g=ρ i g:=by
 have:i<k:=by simpa using h
 simp[qy,this]
mutual
theorem AV.pN {ρ:Env}{k:Nat}:∀v:AV,v.nb k=true→v.ok ρ→v.ok (qy ρ k)
 | .ptr i g _=>fun h=>by simp only[AV.nb]at h;simp only[AV.ok,uJ h];exact fun h=>h
 | .nI i g _ _ _=>fun h=>by simp only[AV.nb]at h;simp only[AV.ok,uJ h];exact fun h=>h
 | .sl i g _ _ _=>fun h=>by simp only[AV.nb]at h;simp only[AV.ok,uJ h];exact fun h=>h
 | .mp i g=>fun h=>by simp only[AV.nb]at h;simp only[AV.ok,uJ h];exact fun h=>h
 | .fn _ a b=>fun h k=>by
   simp only[AV.nb,Bool.and_eq_true]at h;simp only[AV.ok]at k⊢
   exact⟨AV.vQ a h.1 k.1,AV.vQ b h.2 k.2⟩
 | .jZ _ v=>fun h k=>by simp only[AV.nb]at h;simp only[AV.ok]at k⊢;exact AV.pN v h k
 | .agg l=>fun h k=>by simp only[AV.nb]at h;simp only[AV.ok]at k⊢;exact AV.vQ l h k
 | .aE l=>fun h k=>by simp only[AV.nb]at h;simp only[AV.ok]at k⊢;exact AV.vQ l h k
 | .bo _=>fun _ _=>trivial| .tt=>fun _ _=>trivial| .ff=>fun _ _=>trivial| .int _ _=>fun _ _=>trivial| .str _=>fun _ _=>trivial
 | .np=>fun _ _=>trivial| .ns=>fun _ _=>trivial| .nf=>fun _ _=>trivial| .ni=>fun _ _=>trivial| .nm=>fun _ _=>trivial| .raw _=>fun _ _=>trivial
theorem AV.vQ {ρ:Env}{k:Nat}:∀l:List AV,AV.qi k l=true→AV.eb ρ l→AV.eb (qy ρ k) l
 |[]=>fun _ _=>trivial
 |v::l=>fun h k=>by
  simp only[AV.qi,Bool.and_eq_true]at h;simp only[AV.eb]at k⊢
  exact⟨AV.pN v h.1 k.1,AV.vQ l h.2 k.2⟩
end
theorem uK {ρ:Env}{k:Nat}:∀i g l,qy ρ k i g=some l→ρ i g=some l:=by
 intro i g l h
 unfold qy at h
 split at h
 ·exact h
 ·cases h
theorem AV.Ec {ρ:Env}{k:Nat}{v:AV}(h:v.nb k=true)(aF:v.ok ρ):v.c (qy ρ k)=v.c ρ:=
 (AV.dr uK v (AV.pN v h aF)).symm
def af.nb (k:Nat):af→Prop
 | .cells cs=>AV.qi k cs=true
 | .ints _ _ _=>True
 | .ax _ _=>True
 | .cw _ n get _=>∀j,AV.qi k (get j)=true
 | .map _ es=>∀p∈es,p.2.nb k=true
 | .loop _ _ _ _ _ a _ _ _ _=>∀t,(a t).nb k=true
def AO.nb (k:Nat):AO→Prop
 | .gone=>True
 | .one _ _ x=>x.nb k
 | .aX _ _ x=>∀g,(x g).nb k
def kq (k:Nat):AH→Prop
 |[]=>True
 |o::M=>o.nb k∧kq k M
theorem Al {k:Nat}:∀{l:List AV},AV.qi k l=true→∀v∈l,v.nb k=true
 |[],_,v,hv=>by cases hv
 |u::l,h,v,hv=>by
  simp only[AV.qi,Bool.and_eq_true]at h
  rcases List.mem_cons.1 hv with rfl|hv
  ·exact h.1
  ·exact Al h.2 v hv
theorem af.V4 {k:Nat}{x:af}(h:x.nb k){j:Nat}{v:AV}(hv:x.at j=some v):v.nb k=true:=by
 cases x with
 |cells cs=>exact Al h v (List.mem_of_getElem? hv)
 |ints kk xs c=>simp only[af.at,Option.map_eq_some_iff]at hv;obtain⟨z,_,rfl⟩:=hv;rfl
 |ax xs c=>simp only[af.at,Option.map_eq_some_iff]at hv;obtain⟨z,_,rfl⟩:=hv;rfl
 |cw sz n get c=>
  simp only[af.at]at hv
  split at hv
  ·exact Al (h _) v (List.mem_of_getElem? hv)
  ·cases hv
 |map _ _=>simp[af.at]at hv
 |loop _ _ _ _ _ _ _ _ _ _=>simp[af.at]at hv
theorem b8.cut {ρ:Env}{k:Nat}{own:Bool}{x:af}{b base:Nat}{w:World}(hn:x.nb k)(h:b8 ρ own x b base w):b8 (qy ρ k) own x b base w:=by
 rcases h.all with⟨hx,c,e,fr,k1,k2,k3,k4⟩|⟨hx,hb,hs⟩
 ·refine .mk' hx ⟨c,e,fr,k1,k2,fun j v hv=>?_,k4⟩
  have hb:=af.V4 hn hv
  have:=k3 j v hv
  exact⟨AV.pN v hb this.1,by rw[AV.Ec hb this.1];exact this.2⟩
 ·refine⟨.inr ⟨hx,hb,?_⟩⟩
  cases x with
  |map kk es=>
   obtain⟨fM,clock,h1,h2,h3,h4,h5⟩:=hs
   refine⟨fM,clock,h1,?_,fun p hp=>⟨AV.pN _ (hn p hp) (h3 p hp).1,(h3 p hp).2⟩,h4,h5⟩
   rw[h2]
   exact List.map_congr_left fun p hp=>by rw[AV.Ec (hn p hp) (h3 p hp).1]
  |loop l st pd fn n a ps as bd df=>
   obtain⟨h1,tmps,h2,h3,h4⟩:=hs
   exact⟨h1,tmps,h2,h3,fun t=>⟨AV.pN _ (hn t) (h4 t).1,by rw[AV.Ec (hn t) (h4 t).1];exact(h4 t).2⟩⟩
  |cells _=>exact hs.elim
  |ints _ _ _=>exact hs.elim
  |ax _ _=>exact hs.elim
  |cw _ _ _ _=>exact hs.elim
theorem Hm {k:Nat}:∀{M:AH},kq k M→∀{i:Nat}{o:AO},M[i]?=some o→o.nb k
 |[],_,i,o,h=>by simp at h
 |p::M,hn,0,o,h=>by simp at h;subst h;exact hn.1
 |p::M,hn,i+1,o,h=>Hm hn.2 (by simpa using h)
def j5:AH→AH→Prop
 |_,[]=>True
 |o::M,o'::N=>(match o' with
  | .gone=>True
  |o'=>o'=o)∧j5 M N
 |[],_::_=>False
theorem yh:∀M:AH,j5 M M
 |[]=>trivial
 |o::M=>⟨by cases o<;>first|trivial|rfl,yh M⟩
theorem qX:∀{M N:AH},j5 M N→∀{i:Nat}{o:AO},N[i]?=some o→o=.gone∨M[i]?=some o
 |_,[],_,i,o,h=>by simp at h
 |[],_::_,hs,_,_,_=>hs.elim
 |o1::M,o2::N,hs,0,o,h=>by
  simp at h;subst h
  cases o2 with
  |gone=>exact .inl rfl
  |one own g x=>right;simp;exact hs.1.symm
  |aX own m x=>right;simp;exact hs.1.symm
 |o1::M,o2::N,hs,i+1,o,h=>by
  have:=qX hs.2 (i:=i) (by simpa using h)
  simpa using this
theorem kf {M N:AH}(h:j5 M N){i g:Nat}{own:Bool}{x:af}(hs:slot N i g=some (own,x)):slot M i g=some (own,x)∧i<N.length:=by
 unfold slot at hs⊢
 cases ho:N[i]? with
 |none=>rw[ho]at hs;cases hs
 |some o=>
  rw[ho]at hs
  refine⟨?_,(List.getElem?_eq_some_iff.1 ho).1⟩
  rcases qX h ho with rfl|h1
  ·cases hs
  ·rw[h1];exact hs
theorem NM {M:AH}{k:Nat}(h:kq k M){i g:Nat}{own:Bool}{x:af}(hs:slot M i g=some (own,x)):x.nb k:=by
 unfold slot at hs
 cases ho:M[i]? with
 |none=>rw[ho]at hs;cases hs
 |some o=>
  rw[ho]at hs
  have:=Hm h ho
  cases o with
  |gone=>cases hs
  |one bJ g' x'=>
   simp only[bq]at hs
   split at hs
   ·injection hs with hs;injection hs with h1 h2;subst h2;exact this
   ·cases hs
  |aX bJ m x'=>
   simp only[bq]at hs
   split at hs
   ·injection hs with hs;injection hs with h1 h2;subst h2;exact this g
   ·cases hs
theorem q8 {ρ0 ρ:Env}{M0 M N:AH}{w0 w:World}(h0:∀i g,(ρ0 i g).isSome=true→i<M0.length)(hs:aW ρ M w)(hE:Ext ρ0 M0 w0 ρ M w)(h:j5 M N)(hn:kq N.length N)(hl:M0.length≤N.length):
 aW (qy ρ N.length) N w∧Ext ρ0 M0 w0 (qy ρ N.length) N w:=by
 have hk:∀{i:Nat}(g:Nat),i<N.length→qy ρ N.length i g=ρ i g:=fun g hi=>by simp[qy,hi]
 have LF:∀i g,(qy ρ N.length i g).isSome=true→i<N.length∧(ρ i g).isSome=true:=by
  intro i g hi
  unfold qy at hi
  split at hi
  ·exact⟨‹_›,hi⟩
  ·cases hi
 refine⟨⟨fun i g hi=>(LF i g hi).1,?_,?_,?_,?_⟩,⟨?_,hE.size,hE.frame,?_,hE.os,hE.tape,hE.output⟩⟩
 ·intro i g own g' x hm hi
  rcases qX h hm with he|h1
  ·cases he
  ·exact hs.tag i g own g' x h1 (LF i g hi).2
 ·intro i g own m x hm hi
  rcases qX h hm with he|h1
  ·cases he
  ·exact hs.aX i g own m x h1 (LF i g hi).2
 ·intro i g own x de
  obtain⟨h1,h2⟩:=kf h de
  rw[hk g h2]
  rcases hs.holds i g own x h1 with⟨q,e1,e2⟩|e
  ·exact .inl ⟨q,e1,e2.cut (NM hn de)⟩
  ·exact .inr e
 ·intro i g x i' g' bJ x' q q' h1 h2 e1 e2 he
  obtain⟨a1,a2⟩:=kf h h1
  obtain⟨b1,b2⟩:=kf h h2
  exact hs.apart i g x i' g' bJ x' q q' a1 b1 (uK _ _ _ e1) (uK _ _ _ e2) he
 ·intro i g l e
  have:=h0 i g (by simp[e])
  rw[hk g (by omega)]
  exact hE.env i g l e
 ·intro i g x q h1 e1 hb
  exact hE.fresh i g x q (kf h h1).1 (uK _ _ _ e1) hb
def xS:List (Nat×AV)→Nat→Option AV
 |[],_=>none
 |(t,v)::l,k=>match Nat.beq k t with
  |true=>some v
  |false=>xS l k
def mN (l:List (Nat×AV))(d:Nat→Value):AA:=fun t=>match xS l t with
 |some v=>v
 |none=>.raw (d t)
def xV:List (Nat×AV)→AA→Prop
 |[],_=>True
 |(t,v)::l,a=>a t=v∧xV l a
def Lb (k:Nat):List (Nat×AV)→Bool
 |[]=>true
 |(_,v)::l=>v.nb k&&Lb k l
theorem uP:∀{l:List (Nat×AV)}{a:AA},xV l a→∀{t:Nat}{v:AV},xS l t=some v→a t=v
 |[],a,_,t,v,h=>by cases h
 |(t',v')::l,a,hh,t,v,h=>by
  simp only[xS]at h
  split at h
  ·rename_i hb
   injection h with h;subst h
   rw[Nat.eq_of_beq_eq_true hb];exact hh.1
  ·exact uP hh.2 h
theorem oQ:∀{l:List (Nat×AV)}{k:Nat},Lb k l=true→∀{t:Nat}{v:AV},xS l t=some v→v.nb k=true
 |[],k,_,t,v,h=>by cases h
 |(t',v')::l,k,hh,t,v,h=>by
  simp only[Lb,Bool.and_eq_true]at hh
  simp only[xS]at h
  split at h
  ·injection h with h;subst h;exact hh.1
  ·exact oQ hh.2 h
theorem Dj {ρ:Env}{D:List Deferred}{n:Nat}{a:AA}{act:Act}(h:bQ ρ D n a act){l:List (Nat×AV)}{k:Nat}(hl:Lb k l=true)(ha:xV l a):
 bQ (qy ρ k) D n (mN l fun t=>act.tmps.getD t undef) act:=by
 refine⟨h.defers,h.size,fun t=>?_,fun t=>?_⟩
 ·simp only[mN]
  split
  ·rename_i v hv
   exact AV.pN v (oQ hl hv) (by rw[←uP ha hv];exact h.ok t)
  ·exact trivial
 ·simp only[mN]
  split
  ·rename_i v hv
   have he:=uP ha hv
   rw[AV.Ec (oQ hl hv) (by rw[←he];exact h.ok t),←he];exact h.get t
  ·rfl
theorem di {P:Nat→Prop}(h:∃k,P k):∃k,P k∧∀j,P j→k≤j:=by
 obtain⟨k,hk⟩:=h
 induction k using Nat.strongRecOn with
 |_ k ih=>
  by_cases hh:∃j,j<k∧P j
  ·obtain⟨j,hj,hp⟩:=hh;exact ih j hj hp
  ·exact⟨k,hk,fun j hp=>Nat.le_of_not_lt fun hj=>hh ⟨j,hj,hp⟩⟩
def S4 {σ:Type}(I:σ→Prop)(μ:σ→Nat)(A:σ→List (Nat×AV))(H:σ→AH)(Q:jr→AA→AH→Prop)(k:Nat)(e:jr)(a:AA)(M:AH):Prop:=
 match e with
 | .normal=>∃s,(I s∧μ s<k)∧xV (A s) a∧j5 M (H s)
 |e=>Q e a M
theorem WA.loop {x:Cx}{σ:Type}(I:σ→Prop)(μ:σ→Nat)(A:σ→List (Nat×AV))(H:σ→AH)(s0:σ)
 (hT:av x.P x.T)(hm:x.P.follows .mixedOrders=true){c:Code}(cg:ai x.pl c=true){Q:jr→AA→AH→Prop}{Kp:AV→AH→Prop}{a:AA}{M:AH}
 (h0:I s0∧xV (A s0) a∧j5 M (H s0))(hlen:∀s,Nat.ble M.length (H s).length=true)(hA:∀s,Lb (H s).length (A s)=true)(hH:∀s,kq (H s).length (H s))
 (nV:∀s,I s→∀d,bO x c (S4 I μ A H Q (μ s)) Kp (mN (A s) d) (H s)):
 WA x.P x.r x.D x.n (.loop c) Q Kp a M:=by
 unfold WA
 intro pin D0 ρ0 w0 MT nj Ws CC Qd
 let Inv:Nat→Act→World→Prop:=fun k act w=>dH pin act∧∃s ρ,I s∧μ s=k∧aW ρ (H s) w∧Ext ρ0 M w0 ρ (H s) w∧∃D d,Marks w0.heap.size D0 D w∧bQ ρ D x.n (mN (A s) d) act
 have hle:∀s,M.length≤(H s).length:=fun s=>by simpa using hlen s
 have mk:∀s ρ M' a' aP w' D,dH pin aP→I s→aW ρ M' w'→Ext ρ0 M w0 ρ M' w'→Marks w0.heap.size D0 D w'→bQ ρ D x.n a' aP→xV (A s) a'→j5 M' (H s)→Inv (μ s) aP w':=by
  intro s ρ M' a' aP w' D JV hI h1 h2 hm h3 h4 h5
  obtain⟨k1,k2⟩:=q8 CC.pr h1 h2 h5 (hH s) (hle s)
  exact⟨JV,s,_,hI,rfl,k1,k2,D,_,hm,Dj h3 (hA s) h4⟩
 have a8:=mk s0 ρ0 M a MT w0 D0 Ws h0.1 CC (Ext.refl _ _ _) (Marks.refl _ _ _) Qd h0.2.1 h0.2.2
 refine wpIn_loop (fun act w=>∃k,Inv k act w) (fun act w=>by classical exact if h:∃k,Inv k act w then Classical.choose (di h)else 0) ⟨_,a8⟩ ?_
 intro act w hI
 have T1:=Classical.choose_spec (di hI)
 rw[dif_pos hI]
 generalize Classical.choose (di hI)=k at*
 obtain⟨⟨JV,s,ρ,hIs,rfl,hs,hE,D,d,Jj,ha⟩,T0⟩:=T1
 refine wpIn_mono (gV hT hm c cg _ Kp _ _ ρ w act D hs hE Jj ha nj JV (nV s hIs d)) fun e aP w' hq=>?_
 obtain⟨hq,sT⟩:=hq
 cases e with
 |normal=>
  obtain⟨ρ',M',a',D',h1,h2,WH,h3,s',⟨h4,h5⟩,h6,h7⟩:=hq
  have Jc:=mk s' ρ' M' a' aP w' D' sT h4 h1 h2 WH h3 h6 h7
  have hex:∃k,Inv k aP w':=⟨_,Jc⟩
  refine⟨hex,?_⟩
  rw[dif_pos hex]
  have:=(Classical.choose_spec (di hex)).2 _ Jc
  omega
 |exit id=>exact⟨hq,sT⟩
 |ret=>exact⟨hq,sT⟩
 |panic ch=>exact⟨hq,sT⟩
 |goto l=>exact hq.elim
 |outgrown=>exact hq.elim
theorem aa.mono {P:Program}{g:Nat}{args:List AV}{M:AH}{K K' Kp Kp':AV→AH→Prop}(h:aa P g args M K Kp)(hK:∀r M',K r M'→K' r M')(Xn:∀r M',Kp r M'→Kp' r M'):aa P g args M K' Kp':=by
 unfold aa at*
 refine⟨h.1,fun ρ w hs aF=>Calls.mono (h.2 ρ w hs aF) fun e w' he=>?_⟩
 obtain⟨ρ',M',h1,h2,h3⟩:=he
 refine⟨ρ',M',h1,h2,?_⟩
 cases e with
 |returned v=>obtain⟨r,e1,e2,e3⟩:=h3;exact⟨r,e1,e2,hK _ _ e3⟩
 |panicked ch=>obtain⟨r,e1,e2,e3⟩:=h3;exact⟨r,e1,e2,Xn _ _ e3⟩
 |outgrown=>exact h3.elim
def Vw (M M':AH)(l l':List AV):Prop:=∀ρ w,aW ρ M w→AV.eb ρ l→∃ρ',aW ρ' M' w∧Ext ρ M w ρ' M' w∧AV.cl ρ' l'=AV.cl ρ l∧AV.eb ρ' l'
theorem aa.view {P:Program}{g:Nat}{args RB:List AV}{M M':AH}{K Kp:AV→AH→Prop}(hv:Vw M M' args RB)(h:aa P g RB M' K Kp):aa P g args M K Kp:=by
 unfold aa at*
 refine⟨h.1,fun ρ w hs aF=>?_⟩
 obtain⟨ρ',h1,h2,h3,h4⟩:=hv ρ w hs aF
 have:=h.2 ρ' w h1 h4
 rw[h3]at this
 refine Calls.mono this fun e w' he=>?_
 obtain⟨iG,mK,k1,k2,k3⟩:=he
 exact⟨iG,mK,k1,h2.trans k2,k3⟩
end Go.Proofs.Ytibadaomjlkoaaa
open Go.RowKit
namespace Go.Proofs.Ytibadaomjlkoaaa
inductive TE where
 |own (i:Nat)
 |dE (i:Nat)
 |cP (i g off:Nat)
 deriving Inhabited
def TE.i:TE→Nat
 | .own i=>i| .dE i=>i| .cP i _ _=>i
def sr (t:List TE)(m j:Nat):Nat:=
 match t[j]? with
 |some e=>e.i
 |none=>m+(j-t.length)
def uB (t:List TE)(j g:Nat):Nat:=
 match t[j]? with
 |some (.cP _ g' _)=>g'
 |_=>g
def uC (t:List TE)(j off:Nat):Nat:=
 match t[j]? with
 |some (.cP _ _ o)=>o+off
 |_=>off
mutual
def AV.rn (t:List TE)(m:Nat):AV→AV
 | .ptr i g off=>.ptr (sr t m i) (uB t i g) (uC t i off)
 | .nI i g sz j o=>.nI (sr t m i) (uB t i g) sz j (uC t i o)
 | .sl i g off n c=>.sl (sr t m i) (uB t i g) (uC t i off) n c
 | .mp i g=>.mp (sr t m i) (uB t i g)
 | .fn q a b=>.fn q (AV.mX t m a) (AV.mX t m b)
 | .jZ ty v=>.jZ ty (v.rn t m)
 | .agg l=>.agg (AV.mX t m l)
 | .aE l=>.aE (AV.mX t m l)
 | .bo x=>.bo x| .tt=>.tt| .ff=>.ff| .int k n=>.int k n| .str x=>.str x| .np=>.np| .ns=>.ns| .nf=>.nf| .ni=>.ni| .nm=>.nm| .raw v=>.raw v
def AV.mX (t:List TE)(m:Nat):List AV→List AV
 |[]=>[]
 |v::l=>v.rn t m::AV.mX t m l
end
theorem AV.DV (t:List TE)(m:Nat)(l:List AV):AV.mX t m l=l.map (AV.rn t m):=by
 induction l with
 |nil=>rfl
 |cons v l ih=>simp[AV.mX,ih]
def af.rn (t:List TE)(m:Nat):af→af
 | .cells cs=>.cells (AV.mX t m cs)
 | .ints k xs c=>.ints k xs c
 | .ax xs c=>.ax xs c
 | .cw sz n get c=>.cw sz n (fun j=>AV.mX t m (get j)) c
 | .map kk es=>.map kk (es.map fun p=>(p.1,p.2.rn t m))
 | .loop l st pd fn n a ps as bd df=>.loop l st pd fn n (fun j=>(a j).rn t m) ps as bd df
theorem af.sn (t:List TE)(m:Nat)(x:af):(x.rn t m).row=x.row:=by cases x<;>rfl
def AO.rn (t:List TE)(m:Nat):AO→AO
 | .gone=>.gone
 | .one own g x=>.one own g (x.rn t m)
 | .aX own n x=>.aX own n (fun g=>(x g).rn t m)
def QN (t:List TE)(m:Nat):AH→AH
 |[]=>[]
 |o::M=>o.rn t m::QN t m M
theorem KG (t:List TE)(m:Nat)(M:AH):QN t m M=M.map (AO.rn t m):=by
 induction M with
 |nil=>rfl
 |cons v l ih=>simp[QN,ih]
theorem af.G4 (t:List TE)(m:Nat)(x:af)(k:Nat):(x.rn t m).at k=(x.at k).map (AV.rn t m):=by
 cases x with
 |cells cs=>simp[af.rn,af.at,AV.DV]
 |ints kk xs c=>simp only[af.rn,af.at,Option.map_map];rfl
 |ax xs c=>simp only[af.rn,af.at,Option.map_map];rfl
 |cw sz n get c=>
  simp only[af.rn,af.at]
  split
  ·simp[AV.DV]
  ·rfl
 |map _ _=>rfl
 |loop _ _ _ _ _ _ _ _ _ _=>rfl
theorem af.uA (t:List TE)(m:Nat)(x:af):(x.rn t m).size=x.size:=by
 cases x with
 |cells cs=>simp[af.rn,af.size,AV.DV]
 |_=>rfl
theorem af.NR {t:List TE}{m:Nat}{x:af}(h:x.b9):(x.rn t m).b9:=by
 cases x<;>exact h
def cq (t:List TE)(m:Nat)(off:Nat)(x xc:af):Prop:=
 off+x.size≤xc.size∧(∀k v,x.at k=some v→xc.at (off+k)=some (v.rn t m))∧(xc.b9→x.b9)∧x.row=true∧xc.row=true
theorem cq.same {t:List TE}{m:Nat}{x xc:af}(h:x.rn t m=xc)(hv:xc.b9→x.b9)(hr:x.row=true:=by rfl):cq t m 0 x xc:=by
 subst h
 refine⟨by rw[af.uA];omega,fun k v hv=>?_,hv,hr,by rw[af.sn];exact hr⟩
 rw[Nat.zero_add,af.G4,hv];rfl
theorem cq.ints {t:List TE}{m:Nat}{k:IntKind}{xs ys:List Int}{c co off:Nat}(h1:off+c≤co)(h2:xs=(ys.drop off).take xs.length):cq t m off (.ints k xs c) (.ints k ys co):=by
 refine⟨h1,fun j v hv=>?_,?_,rfl,rfl⟩
 ·simp only[af.at,Option.map_eq_some_iff]at hv⊢
  obtain⟨z,hz,rfl⟩:=hv
  refine⟨z,?_,rfl⟩
  have hj:=(List.getElem?_eq_some_iff.1 hz).1
  rw[h2,List.getElem?_take,if_pos hj,List.getElem?_drop]at hz
  exact hz
 ·rintro⟨e1,e2⟩
  subst e1;subst e2
  simp at h2
  exact⟨h2,by omega⟩
theorem cq.ax {t:List TE}{m:Nat}{xs ys:List Bool}{c co off:Nat}(h1:off+c≤co)(h2:xs=(ys.drop off).take xs.length):cq t m off (.ax xs c) (.ax ys co):=by
 refine⟨h1,fun j v hv=>?_,?_,rfl,rfl⟩
 ·simp only[af.at,Option.map_eq_some_iff]at hv⊢
  obtain⟨z,hz,rfl⟩:=hv
  refine⟨z,?_,rfl⟩
  have hj:=(List.getElem?_eq_some_iff.1 hz).1
  rw[h2,List.getElem?_take,if_pos hj,List.getElem?_drop]at hz
  exact hz
 ·rintro⟨e1,e2⟩
  subst e1;subst e2
  simp at h2
  exact⟨h2,by omega⟩
def AO.ec:AO→Bool
 | .one true _ _=>true
 | .aX true _ _=>true
 |_=>false
def AO.ry:AO→Bool
 | .gone=>true
 | .one true _ _=>true
 | .aX true _ _=>true
 |_=>false
def AO.ro:AO→AO
 | .gone=>.gone
 | .one _ g x=>.one false g x
 | .aX _ n x=>.aX false n x
def AO.DB:AO→Bool
 | .gone=>false
 | .one _ g _=>Nat.beq g 0
 | .aX _ _ _=>true
def wA (t0:List TE)(m:Nat)(Mc:AH):List TE→AH→Prop
 |[],[]=>True
 | .own i::t,o::M=>(Mc[i]?=some (o.rn t0 m)∧o.ry=true)∧wA t0 m Mc t M
 | .dE i::t,o::M=>(o.DB=true∧∃o',Mc[i]?=some o'∧o.rn t0 m=o'.ro)∧wA t0 m Mc t M
 | .cP i g off::t,o::M=>(∃x own xc,o=.one false 0 x∧slot Mc i g=some (own,xc)∧cq t0 m off x xc)∧wA t0 m Mc t M
 |_,_=>False
def TE.same:TE→TE→Bool
 |e,e'=>Nat.beq e.i e'.i
def TE.ec:TE→Bool
 | .own _=>true
 |_=>false
def bu:List TE→Bool
 |[]=>true
 |e::t=>t.all (fun e'=>!(e.ec||e'.ec)||!(Nat.beq e.i e'.i))&&bu t
def mQ:List TE→AH→AH→Prop
 |[],_,M'=>M'.all AO.ry=true
 | .own _::t,_::M,o'::M'=>o'.ry=true∧mQ t M M'
 | .dE _::t,o::M,o'::M'=>o'=o∧mQ t M M'
 | .cP _ _ _::t,o::M,o'::M'=>o'=o∧mQ t M M'
 |_,_,_=>False
def dw (t0:List TE)(m:Nat):List TE→AH→AH→AH
 | .own i::t,o::M',Mc=>dw t0 m t M' (Mc.set i (o.rn t0 m))
 |_::t,_::M',Mc=>dw t0 m t M' Mc
 |[],M',Mc=>Mc++QN t0 m M'
 |_,[],Mc=>Mc
theorem lq {t0:List TE}{m:Nat}{Mc:AH}:∀{t:List TE}{M:AH},wA t0 m Mc t M→t.length=M.length∧∀(j:Nat) e o,t[j]? =some e→M[j]? =some o→match e with
    | .own i=>Mc[i]? =some (o.rn t0 m)∧o.ry=true
    | .dE i=>o.DB=true∧∃o',Mc[i]? =some o'∧o.rn t0 m=o'.ro
    | .cP i g off=>∃x own xc,o= .one false 0 x∧slot Mc i g=some (own,xc)∧cq t0 m off x xc
  |[],[],_=>⟨rfl,fun j e o h=>by simp at h⟩
  |[],_::_,h=>by cases h
  | .own i::t,[],h=>by cases h
  | .dE i::t,[],h=>by cases h
  | .cP i g off::t,[],h=>by cases h
  | .own i::t,o::M,h=>by
    obtain⟨h1,h2⟩:=lq h.2
    refine⟨by simp[h1],fun j e o' he ho=> ?_⟩
    cases j with
    |zero=>simp at he ho;subst he;subst ho;exact h.1
    |succ j=>exact h2 j e o' (by simpa using he) (by simpa using ho)
  | .dE i::t,o::M,h=>by
    obtain⟨h1,h2⟩:=lq h.2
    refine⟨by simp[h1],fun j e o' he ho=> ?_⟩
    cases j with
    |zero=>simp at he ho;subst he;subst ho;exact h.1
    |succ j=>exact h2 j e o' (by simpa using he) (by simpa using ho)
  | .cP i g off::t,o::M,h=>by
    obtain⟨h1,h2⟩:=lq h.2
    refine⟨by simp[h1],fun j e o' he ho=> ?_⟩
    cases j with
    |zero=>simp at he ho;subst he;subst ho;exact h.1
    |succ j=>exact h2 j e o' (by simpa using he) (by simpa using ho)
theorem o7:∀{t:List TE}{M M':AH},mQ t M M'→t.length≤M'.length∧(∀(j:Nat) o',M'[j]?=some o'→match t[j]? with
 |some (.own _)=>o'.ry=true
 |none=>o'.ry=true
 |_=>M[j]?=some o')
 |[],M,M',h=>⟨Nat.zero_le _,fun j o' ho=>by
    simp only[List.getElem?_nil]
    exact List.all_eq_true.1 h o' (List.mem_of_getElem? ho)⟩
 | .own i::t,o::M,o1::M',h=>by
   obtain⟨h1,h2⟩:=o7 h.2
   refine⟨by simpa using h1,fun j o' ho=>?_⟩
   cases j with
   |zero=>simp at ho;subst ho;exact h.1
   |succ j=>simpa using h2 j o' (by simpa using ho)
 | .dE i::t,o::M,o1::M',h=>by
   obtain⟨h1,h2⟩:=o7 h.2
   refine⟨by simpa using h1,fun j o' ho=>?_⟩
   cases j with
   |zero=>simp at ho;subst ho;simp[h.1]
   |succ j=>simpa using h2 j o' (by simpa using ho)
 | .cP i g off::t,o::M,o1::M',h=>by
   obtain⟨h1,h2⟩:=o7 h.2
   refine⟨by simpa using h1,fun j o' ho=>?_⟩
   cases j with
   |zero=>simp at ho;subst ho;simp[h.1]
   |succ j=>simpa using h2 j o' (by simpa using ho)
 | .own _::_,[],_,h=>by cases h
 | .dE _::_,[],_,h=>by cases h
 | .cP _ _ _::_,[],_,h=>by cases h
 | .own _::_,_::_,[],h=>by cases h
 | .dE _::_,_::_,[],h=>by cases h
 | .cP _ _ _::_,_::_,[],h=>by cases h
theorem gX:∀{t:List TE},bu t=true→∀{j j':Nat}{e e':TE},t[j]?=some e→t[j']?=some e'→(e.ec=true∨e'.ec=true)→e.i=e'.i→j=j'
 |[],_,j,j',e,e',h,_,_,_=>by simp at h
 |a::t,ha,j,j',e,e',h,h',ho,hi=>by
  simp only[bu,Bool.and_eq_true,List.all_eq_true]at ha
  have key:∀b∈t,(a.ec=true∨b.ec=true)→a.i≠b.i:=by
   intro b hb UY heq
   have:=ha.1 b hb
   rw[heq]at this
   have e1:Nat.beq b.i b.i=true:=Nat.beq_refl _
   rw[e1]at this
   rcases UY with h|h<;>simp[h]at this
  cases j with
  |zero=>
   cases j' with
   |zero=>rfl
   |succ j'=>
    simp at h h'
    subst h
    exact absurd hi (key e' (List.mem_of_getElem? h') ho)
  |succ j=>
   cases j' with
   |zero=>
    simp at h h'
    subst h'
    exact absurd hi.symm (key e (List.mem_of_getElem? h) ho.symm)
   |succ j'=>exact congrArg Nat.succ (gX ha.2 (by simpa using h) (by simpa using h') ho hi)
theorem kh (t0:List TE)(m:Nat):∀(t:List TE)(M' Mc:AH),t.length≤M'.length→(dw t0 m t M' Mc).length=Mc.length+(M'.length-t.length)
 |[],M',Mc,_=>by simp[dw,KG]
 | .own i::t,o::M',Mc,h=>by
   simp only[dw];rw[kh t0 m t M' _ (by simpa using h)];simp
 | .dE i::t,o::M',Mc,h=>by
   simp only[dw];rw[kh t0 m t M' _ (by simpa using h)];simp
 | .cP i g off::t,o::M',Mc,h=>by
   simp only[dw];rw[kh t0 m t M' _ (by simpa using h)];simp
 |_::_,[],Mc,h=>by simp at h
theorem re (t0:List TE)(m:Nat):∀(t:List TE)(M' Mc:AH)(k:Nat),t.length≤M'.length→(dw t0 m t M' Mc)[Mc.length+k]?=(M'[t.length+k]?).map (AO.rn t0 m)
 |[],M',Mc,k,_=>by simp only[dw,KG];rw[List.getElem?_append_right (by omega)];simp
 | .own i::t,o::M',Mc,k,h=>by
   simp only[dw]
   have:=re t0 m t M' (Mc.set i (o.rn t0 m)) k (by simpa using h)
   rw[List.length_set]at this
   rw[this,List.length_cons,show t.length+1+k=t.length+k+1 from by omega,List.getElem?_cons_succ]
 | .dE i::t,o::M',Mc,k,h=>by
   simp only[dw]
   rw[re t0 m t M' Mc k (by simpa using h),List.length_cons,show t.length+1+k=t.length+k+1 from by omega,List.getElem?_cons_succ]
 | .cP i g off::t,o::M',Mc,k,h=>by
   simp only[dw]
   rw[re t0 m t M' Mc k (by simpa using h),List.length_cons,show t.length+1+k=t.length+k+1 from by omega,List.getElem?_cons_succ]
 |_::_,[],Mc,k,h=>by simp at h
theorem nz (t0:List TE)(m:Nat):∀(t:List TE)(M' Mc:AH)(i:Nat),i<Mc.length→t.length≤M'.length→(∀j:Nat,t[j]?≠some (TE.own i))→(dw t0 m t M' Mc)[i]?=Mc[i]?
 |[],M',Mc,i,hi,_,_=>by simp only[dw];rw[List.getElem?_append_left hi]
 | .own i0::t,o::M',Mc,i,hi,h,hn=>by
   simp only[dw]
   rw[nz t0 m t M' _ i (by simpa using hi) (by simpa using h) (fun j hj=>hn (j+1) (by simpa using hj))]
   rw[List.getElem?_set_ne]
   intro e;subst e;exact hn 0 rfl
 | .dE i0::t,o::M',Mc,i,hi,h,hn=>by
   simp only[dw]
   exact nz t0 m t M' _ i hi (by simpa using h) (fun j hj=>hn (j+1) (by simpa using hj))
 | .cP i0 g off::t,o::M',Mc,i,hi,h,hn=>by
   simp only[dw]
   exact nz t0 m t M' _ i hi (by simpa using h) (fun j hj=>hn (j+1) (by simpa using hj))
 |_::_,[],Mc,i,_,h,_=>by simp at h
theorem ra (t0:List TE)(m:Nat):∀(t:List TE)(M' Mc:AH)(i j:Nat),i<Mc.length→t.length≤M'.length→bu t=true→t[j]?=some (.own i)→(dw t0 m t M' Mc)[i]?=(M'[j]?).map (AO.rn t0 m)
 |[],M',Mc,i,j,_,_,_,hj=>by simp at hj
 |_::_,[],Mc,i,j,_,h,_,_=>by simp at h
 |e::t,o::M',Mc,i,0,hi,h,ha,hj=>by
  simp at hj;subst hj
  simp only[dw]
  rw[nz t0 m t M' _ i (by simpa using hi) (by simpa using h)]
  ·simp[List.getElem?_set,hi]
  ·intro j hj
   have:=gX ha (j:=0) (j':=j+1) (e:=.own i) (e':=.own i) rfl (by simpa using hj) (.inl rfl) rfl
   omega
 | .own i0::t,o::M',Mc,i,j+1,hi,h,ha,hj=>by
   simp only[dw]
   have sW:bu t=true:=by simp only[bu,Bool.and_eq_true]at ha;exact ha.2
   rw[ra t0 m t M' _ i j (by simpa using hi) (by simpa using h) sW (by simpa using hj)];simp
 | .dE i0::t,o::M',Mc,i,j+1,hi,h,ha,hj=>by
   simp only[dw]
   have sW:bu t=true:=by simp only[bu,Bool.and_eq_true]at ha;exact ha.2
   rw[ra t0 m t M' _ i j hi (by simpa using h) sW (by simpa using hj)];simp
 | .cP i0 g off::t,o::M',Mc,i,j+1,hi,h,ha,hj=>by
   simp only[dw]
   have sW:bu t=true:=by simp only[bu,Bool.and_eq_true]at ha;exact ha.2
   rw[ra t0 m t M' _ i j hi (by simpa using h) sW (by simpa using hj)];simp
def cF (t:List TE)(ρ:Env):Env:=fun j g=>
 match t[j]? with
 |some (.own i)=>ρ i g
 |some (.dE i)=>ρ i g
 |some (.cP i g' off)=>if g=0 then(ρ i g').map (fun l=>l.map (fun q=>(q.1,q.2+off)))else none
 |none=>none
theorem zQ {t0:List TE}{m:Nat}{o:AO}{g:Nat}:bq (o.rn t0 m) g=(bq o g).map (fun x=>(x.1,x.2.rn t0 m)):=by
 cases o with
 |gone=>rfl
 |one own g' x=>simp only[AO.rn,bq];split<;>rfl
 |aX own n x=>simp only[AO.rn,bq];split<;>rfl
theorem NL {o:AO}{g:Nat}:bq o.ro g=(bq o g).map (fun x=>(false,x.2)):=by
 cases o with
 |gone=>rfl
 |one own g' x=>simp only[AO.ro,bq];split<;>rfl
 |aX own n x=>simp only[AO.ro,bq];split<;>rfl
theorem vf {o:AO}(h:o.ry=true){g:Nat}{own:Bool}{x:af}(hs:bq o g=some (own,x)):own=true:=by
 cases o with
 |gone=>cases hs
 |one bJ g' x'=>
  cases bJ with
  |false=>cases h
  |true=>
   simp only[bq]at hs
   split at hs
   ·injection hs with hs;injection hs with h1 _;exact h1.symm
   ·cases hs
 |aX bJ n x'=>
  cases bJ with
  |false=>cases h
  |true=>
   simp only[bq]at hs
   split at hs
   ·injection hs with hs;injection hs with h1 _;exact h1.symm
   ·cases hs
end Go.Proofs.Ytibadaomjlkoaaa
open Go.RowKit
namespace Go.Proofs.Ytibadaomjlkoaaa
structure JT (t:List TE)(m:Nat)(ρ' Nn:Env):Prop where
 out:∀j g l,ρ' j g=some l→∃l0,Nn (sr t m j) (uB t j g)=some l0∧l=l0.map (fun q=>(q.1,q.2+uC t j 0))
theorem Ac (t:List TE)(j off:Nat):uC t j off=uC t j 0+off:=by
 unfold uC;split<;>omega
mutual
theorem sq {t:List TE}{m:Nat}{ρ' Nn:Env}(h:JT t m ρ' Nn):∀v:AV,v.ok ρ'→(v.rn t m).ok Nn∧(v.rn t m).c Nn=v.c ρ'
 | .ptr i g off=>fun aF=>by
   simp only[AV.ok]at aF
   obtain⟨l,hl⟩:=Option.isSome_iff_exists.1 aF
   obtain⟨l0,h1,rfl⟩:=h.out i g l hl
   refine⟨by simp[AV.rn,AV.ok,h1],?_⟩
   simp only[AV.rn,AV.c,h1,hl]
   cases l0 with
   |none=>rfl
   |some q=>simp only[Option.map_some,Ac t i off];congr 2;congr 1;omega
 | .nI i g sz j off=>fun aF=>by
   simp only[AV.ok]at aF
   obtain⟨l,hl⟩:=Option.isSome_iff_exists.1 aF
   obtain⟨l0,h1,rfl⟩:=h.out i g l hl
   refine⟨by simp[AV.rn,AV.ok,h1],?_⟩
   simp only[AV.rn,AV.c,h1,hl]
   cases l0 with
   |none=>rfl
   |some q=>simp only[Option.map_some,Ac t i off];congr 2;congr 1;omega
 | .sl i g off n c=>fun aF=>by
   simp only[AV.ok]at aF
   obtain⟨l,hl⟩:=Option.isSome_iff_exists.1 aF
   obtain⟨l0,h1,rfl⟩:=h.out i g l hl
   refine⟨by simp[AV.rn,AV.ok,h1],?_⟩
   simp only[AV.rn,AV.c,h1,hl]
   cases l0 with
   |none=>rfl
   |some q=>simp only[Option.map_some,Ac t i off];congr 2;congr 1;omega
 | .mp i g=>fun aF=>by
   simp only[AV.ok]at aF
   obtain⟨l,hl⟩:=Option.isSome_iff_exists.1 aF
   obtain⟨l0,h1,rfl⟩:=h.out i g l hl
   refine⟨by simp[AV.rn,AV.ok,h1],?_⟩
   simp only[AV.rn,AV.c,h1,hl]
   cases l0 with
   |none=>rfl
   |some q=>rfl
 | .fn q a b=>fun aF=>by
   simp only[AV.ok]at aF
   obtain⟨a1,a2⟩:=tz h a aF.1
   obtain⟨b1,b2⟩:=tz h b aF.2
   exact⟨⟨a1,b1⟩,by simp only[AV.rn,AV.c,a2,b2]⟩
 | .jZ ty v=>fun aF=>by
   simp only[AV.ok]at aF
   obtain⟨a1,a2⟩:=sq h v aF
   exact⟨a1,by simp only[AV.rn,AV.c,a2]⟩
 | .agg l=>fun aF=>by
   simp only[AV.ok]at aF
   obtain⟨a1,a2⟩:=tz h l aF
   exact⟨a1,by simp only[AV.rn,AV.c,a2]⟩
 | .aE l=>fun aF=>by
   simp only[AV.ok]at aF
   obtain⟨a1,a2⟩:=tz h l aF
   exact⟨a1,by simp only[AV.rn,AV.c,a2]⟩
 | .bo _=>fun _=>⟨trivial,rfl⟩| .tt=>fun _=>⟨trivial,rfl⟩| .ff=>fun _=>⟨trivial,rfl⟩| .int _ _=>fun _=>⟨trivial,rfl⟩| .str _=>fun _=>⟨trivial,rfl⟩
 | .np=>fun _=>⟨trivial,rfl⟩| .ns=>fun _=>⟨trivial,rfl⟩| .nf=>fun _=>⟨trivial,rfl⟩| .ni=>fun _=>⟨trivial,rfl⟩| .nm=>fun _=>⟨trivial,rfl⟩| .raw _=>fun _=>⟨trivial,rfl⟩
theorem tz {t:List TE}{m:Nat}{ρ' Nn:Env}(h:JT t m ρ' Nn):∀l:List AV,AV.eb ρ' l→AV.eb Nn (AV.mX t m l)∧AV.cl Nn (AV.mX t m l)=AV.cl ρ' l
 |[]=>fun _=>⟨trivial,rfl⟩
 |v::l=>fun aF=>by
  simp only[AV.eb]at aF
  obtain⟨a1,a2⟩:=sq h v aF.1
  obtain⟨b1,b2⟩:=tz h l aF.2
  exact⟨⟨a1,b1⟩,by simp only[AV.mX,AV.cl,a2,b2]⟩
end
def QI (t:List TE)(j g:Nat):Bool:=
 match t[j]? with
 |some (.cP _ _ _)=>Nat.beq g 0
 |some _=>true
 |none=>false
mutual
def AV.w0 (t:List TE):AV→Bool
 | .ptr i g _=>QI t i g
 | .nI i g _ _ _=>QI t i g
 | .sl i g _ _ _=>QI t i g
 | .mp i g=>QI t i g
 | .fn _ a b=>AV.nq t a&&AV.nq t b
 | .jZ _ v=>v.w0 t
 | .agg l=>AV.nq t l
 | .aE l=>AV.nq t l
 | .raw _=>true| .bo _=>true| .tt=>true| .ff=>true| .int _ _=>true| .str _=>true| .np=>true| .ns=>true| .nf=>true| .ni=>true| .nm=>true
def AV.nq (t:List TE):List AV→Bool
 |[]=>true
 |v::l=>v.w0 t&&AV.nq t l
end
theorem po {t:List TE}{m:Nat}{ρ:Env}{j g:Nat}(hw:QI t j g=true)(h:(ρ (sr t m j) (uB t j g)).isSome=true):(cF t ρ j g).isSome=true:=by
 unfold QI at hw
 unfold sr uB at h
 unfold cF
 cases ht:t[j]? with
 |none=>rw[ht]at hw;cases hw
 |some e=>
  rw[ht]at hw h
  cases e with
  |own i=>exact h
  |dE i=>exact h
  |cP i g' off=>
   have:g=0:=Nat.eq_of_beq_eq_true hw
   simp only[this,if_true]
   simpa[TE.i]using h
mutual
theorem oP {t:List TE}{m:Nat}{ρ:Env}:∀v:AV,v.w0 t=true→(v.rn t m).ok ρ→v.ok (cF t ρ)
 | .ptr i g _=>fun hw h=>by simp only[AV.w0]at hw;simp only[AV.rn,AV.ok]at h⊢;exact po hw h
 | .nI i g _ _ _=>fun hw h=>by simp only[AV.w0]at hw;simp only[AV.rn,AV.ok]at h⊢;exact po hw h
 | .sl i g _ _ _=>fun hw h=>by simp only[AV.w0]at hw;simp only[AV.rn,AV.ok]at h⊢;exact po hw h
 | .mp i g=>fun hw h=>by simp only[AV.w0]at hw;simp only[AV.rn,AV.ok]at h⊢;exact po hw h
 | .fn _ a b=>fun hw h=>by
   simp only[AV.w0,Bool.and_eq_true]at hw;simp only[AV.rn,AV.ok]at h⊢
   exact⟨iq a hw.1 h.1,iq b hw.2 h.2⟩
 | .jZ _ v=>fun hw h=>by simp only[AV.w0]at hw;simp only[AV.rn,AV.ok]at h⊢;exact oP v hw h
 | .agg l=>fun hw h=>by simp only[AV.w0]at hw;simp only[AV.rn,AV.ok]at h⊢;exact iq l hw h
 | .aE l=>fun hw h=>by simp only[AV.w0]at hw;simp only[AV.rn,AV.ok]at h⊢;exact iq l hw h
 | .bo _=>fun _ _=>trivial| .tt=>fun _ _=>trivial| .ff=>fun _ _=>trivial| .int _ _=>fun _ _=>trivial| .str _=>fun _ _=>trivial
 | .np=>fun _ _=>trivial| .ns=>fun _ _=>trivial| .nf=>fun _ _=>trivial| .ni=>fun _ _=>trivial| .nm=>fun _ _=>trivial| .raw _=>fun _ _=>trivial
theorem iq {t:List TE}{m:Nat}{ρ:Env}:∀l:List AV,AV.nq t l=true→AV.eb ρ (AV.mX t m l)→AV.eb (cF t ρ) l
 |[]=>fun _ _=>trivial
 |v::l=>fun hw h=>by
  simp only[AV.nq,Bool.and_eq_true]at hw;simp only[AV.mX,AV.eb]at h⊢
  exact⟨oP v hw.1 h.1,iq l hw.2 h.2⟩
end
theorem wE {t:List TE}{m:Nat}{ρ:Env}:JT t m (cF t ρ) ρ:=by
 constructor
 intro j g l hl
 unfold cF at hl
 unfold sr uB uC
 cases ht:t[j]? with
 |none=>rw[ht]at hl;cases hl
 |some e=>
  rw[ht]at hl
  cases e with
  |own i=>exact⟨l,hl,by cases l<;>rfl⟩
  |dE i=>exact⟨l,hl,by cases l<;>rfl⟩
  |cP i g' off=>
   simp only at hl
   split at hl
   ·rw[Option.map_eq_some_iff]at hl
    obtain⟨l0,h1,h2⟩:=hl
    exact⟨l0,h1,h2.symm⟩
   ·cases hl
section
variable{t:List TE}{Mc M:AH}{ρ:Env}{w:World}
theorem vg {M:AH}{i g:Nat}{own:Bool}{x:af}(h:slot M i g=some (own,x)):∃o,M[i]?=some o∧bq o g=some (own,x):=by
 unfold slot at h
 cases ho:M[i]? with
 |none=>rw[ho]at h;cases h
 |some o=>rw[ho]at h;exact⟨o,rfl,h⟩
theorem uy {M:AH}{i g:Nat}{o:AO}{y:Option (Bool×af)}(h1:M[i]?=some o)(h2:bq o g=y):slot M i g=y:=by
 unfold slot;rw[h1];exact h2
theorem od (gR:wA t Mc.length Mc t M){j g:Nat}{own:Bool}{x:af}(hs:slot M j g=some (own,x)):
 (∃i,t[j]?=some (.own i)∧slot Mc i g=some (own,x.rn t Mc.length)∧own=true)∨
 (∃i bJ,t[j]?=some (.dE i)∧slot Mc i g=some (bJ,x.rn t Mc.length)∧own=false)∨
 (∃i g' off bJ xc,t[j]?=some (.cP i g' off)∧g=0∧slot Mc i g'=some (bJ,xc)∧cq t Mc.length off x xc∧own=false):=by
 obtain⟨hl,cH⟩:=lq gR
 obtain⟨o,ho,tK⟩:=vg hs
 have hj:j<t.length:=by rw[hl];exact(List.getElem?_eq_some_iff.1 ho).1
 obtain⟨e,he⟩:∃e,t[j]?=some e:=⟨_,List.getElem?_eq_getElem hj⟩
 have:=cH j e o he ho
 cases e with
 |own i=>
  refine .inl ⟨i,he,?_,vf this.2 tK⟩
  exact uy this.1 (by rw[zQ,tK];rfl)
 |dE i=>
  obtain⟨_,o',h1,h2⟩:=this
  have h3:bq (o.rn t Mc.length) g=bq o'.ro g:=by rw[h2]
  rw[zQ,NL,tK]at h3
  cases hh:bq o' g with
  |none=>rw[hh]at h3;cases h3
  |some y=>
   rw[hh]at h3
   simp only[Option.map_some,Option.some.injEq,Prod.mk.injEq]at h3
   obtain⟨bJ,xc⟩:=y
   refine .inr (.inl ⟨i,bJ,he,uy h1 ?_,h3.1⟩)
   rw[hh,h3.2]
 |cP i g' off=>
  obtain⟨x0,bJ,xc,rfl,h2,h3⟩:=this
  simp only[bq]at tK
  split at tK
  ·injection tK with tK;injection tK with a b;subst a;subst b
   exact .inr (.inr ⟨i,g',off,bJ,xc,he,‹_›,h2,h3,rfl⟩)
  ·cases tK
theorem jV (gR:wA t Mc.length Mc t M){j g:Nat}{x:af}{q:Nat×Nat}(hs:slot M j g=some (true,x))(hq:cF t ρ j g=some (some q)):
 ∃i,t[j]?=some (.own i)∧slot Mc i g=some (true,x.rn t Mc.length)∧ρ i g=some (some q):=by
 rcases od gR hs with⟨i,h1,h2,_⟩|⟨_,_,_,_,h⟩|⟨_,_,_,_,_,_,_,_,_,h⟩
 ·unfold cF at hq;rw[h1]at hq;exact⟨i,h1,h2,hq⟩
 ·cases h
 ·cases h
def af.w0 (t:List TE):af→Prop
 | .cells cs=>AV.nq t cs=true
 | .ints _ _ _=>True
 | .ax _ _=>True
 | .cw _ n get _=>∀j,AV.nq t (get j)=true
 | .map _ es=>∀p∈es,p.2.w0 t=true
 | .loop _ _ _ _ _ a _ _ _ _=>∀j,(a j).w0 t=true
def AO.w0 (t:List TE):AO→Prop
 | .gone=>True
 | .one _ _ x=>x.w0 t
 | .aX _ _ x=>∀g,(x g).w0 t
def RY (t:List TE):AH→Prop
 |[]=>True
 |o::M=>o.w0 t∧RY t M
theorem zA {t:List TE}:∀{l:List AV},AV.nq t l=true→∀v∈l,v.w0 t=true
 |[],_,v,hv=>by cases hv
 |u::l,h,v,hv=>by
  simp only[AV.nq,Bool.and_eq_true]at h
  rcases List.mem_cons.1 hv with rfl|hv
  ·exact h.1
  ·exact zA h.2 v hv
theorem af.Vj {t:List TE}{x:af}(h:x.w0 t){j:Nat}{v:AV}(hv:x.at j=some v):v.w0 t=true:=by
 cases x with
 |cells cs=>exact zA h v (List.mem_of_getElem? hv)
 |ints kk xs c=>simp only[af.at,Option.map_eq_some_iff]at hv;obtain⟨z,_,rfl⟩:=hv;rfl
 |ax xs c=>simp only[af.at,Option.map_eq_some_iff]at hv;obtain⟨z,_,rfl⟩:=hv;rfl
 |cw sz n get c=>
  simp only[af.at]at hv
  split at hv
  ·exact zA (h _) v (List.mem_of_getElem? hv)
  ·cases hv
 |map _ _=>simp[af.at]at hv
 |loop _ _ _ _ _ _ _ _ _ _=>simp[af.at]at hv
theorem GL {t:List TE}:∀{M:AH},RY t M→∀{i:Nat}{o:AO},M[i]?=some o→o.w0 t
 |[],_,i,o,h=>by simp at h
 |p::M,hn,0,o,h=>by simp at h;subst h;exact hn.1
 |p::M,hn,i+1,o,h=>GL hn.2 (by simpa using h)
theorem NK {t:List TE}{M:AH}(h:RY t M){i g:Nat}{own:Bool}{x:af}(hs:slot M i g=some (own,x)):x.w0 t:=by
 obtain⟨o,ho,tK⟩:=vg hs
 have:=GL h ho
 cases o with
 |gone=>cases tK
 |one bJ g' x'=>
  simp only[bq]at tK
  split at tK
  ·injection tK with tK;injection tK with h1 h2;subst h2;exact this
  ·cases tK
 |aX bJ m x'=>
  simp only[bq]at tK
  split at tK
  ·injection tK with tK;injection tK with h1 h2;subst h2;exact this g
  ·cases tK
theorem wY (hs:aW ρ Mc w)(lN:bu t=true)(gR:wA t Mc.length Mc t M)(TD:RY t M):aW (cF t ρ) M w:=by
 obtain⟨hl,cH⟩:=lq gR
 have hR:JT t Mc.length (cF t ρ) ρ:=wE
 have Ud:∀j g,(cF t ρ j g).isSome=true→∃e,t[j]?=some e:=by
  intro j g h
  unfold cF at h
  cases ht:t[j]? with
  |none=>rw[ht]at h;cases h
  |some e=>exact⟨e,rfl⟩
 refine⟨?_,?_,?_,?_,?_⟩
 ·intro j g h
  obtain⟨e,he⟩:=Ud j g h
  rw[←hl];exact(List.getElem?_eq_some_iff.1 he).1
 ·intro j g own g' x hm h
  obtain⟨e,he⟩:=Ud j g h
  have:=cH j e _ he hm
  unfold cF at h
  rw[he]at h
  cases e with
  |own i=>exact hs.tag i g own g' _ this.1 h
  |dE i=>
   obtain⟨_,o',h1,h2⟩:=this
   cases o' with
   |gone=>cases h2
   |one own2 g2 x2=>injection h2 with _ e2 _;subst e2;exact hs.tag i g own2 _ x2 h1 h
   |aX _ _ _=>cases h2
  |cP i g2 off=>
   obtain⟨x0,own2,xc,e0,_,_⟩:=this
   injection e0 with _ e1 _
   simp only at h
   split at h
   ·omega
   ·cases h
 ·intro j g own n x hm h
  obtain⟨e,he⟩:=Ud j g h
  have:=cH j e _ he hm
  unfold cF at h
  rw[he]at h
  cases e with
  |own i=>exact hs.aX i g own n _ this.1 h
  |dE i=>
   obtain⟨_,o',h1,h2⟩:=this
   cases o' with
   |gone=>cases h2
   |one own2 g2 x2=>cases h2
   |aX own2 n2 x2=>injection h2 with _ e2 _;subst e2;exact hs.aX i g own2 _ x2 h1 h
  |cP i g2 off=>
   obtain⟨x0,own2,xc,e0,_,_⟩:=this
   cases e0
 ·intro j g own x de
  have Ze:=NK TD de
  have spc:∀(bJ:Bool)(b base:Nat),b8 ρ bJ (x.rn t Mc.length) b base w→x.row=false→b8 (cF t ρ) own x b base w:=by
   intro bJ b base hh hx
   rcases hh.all with⟨h0,_⟩|⟨_,hb,hs⟩
   ·rw[af.sn,hx]at h0;cases h0
   ·refine⟨.inr ⟨hx,hb,?_⟩⟩
    cases x with
    |map kk es=>
     obtain⟨fM,clock,h1,h2,h3,h4,h5⟩:=hs
     have aF:∀p∈es,p.2.ok (cF t ρ):=fun p hp=>oP p.2 (Ze p hp) (h3 (p.1,p.2.rn t Mc.length) (List.mem_map_of_mem hp)).1
     refine⟨fM,clock,h1,?_,fun p hp=>⟨aF p hp,(h3 (p.1,p.2.rn t Mc.length) (List.mem_map_of_mem hp)).2⟩,h4,h5⟩
     rw[h2,List.map_map]
     exact List.map_congr_left fun p hp=>by show(kk.v p.1,(p.2.rn t Mc.length).c ρ)=_;rw[(sq hR p.2 (aF p hp)).2]
    |loop l st pd fn n a ps as bd df=>
     obtain⟨h1,tmps,h2,h3,h4⟩:=hs
     have aF:∀j,(a j).ok (cF t ρ):=fun j=>oP (a j) (Ze j) (h4 j).1
     exact⟨h1,tmps,h2,h3,fun j=>⟨aF j,by rw[(h4 j).2,(sq hR (a j) (aF j)).2]⟩⟩
    |cells _=>exact hs.elim
    |ints _ _ _=>exact hs.elim
    |ax _ _=>exact hs.elim
    |cw _ _ _ _=>exact hs.elim
  have back:∀(bJ:Bool)(xc:af)(b base off:Nat),x.row=true→xc.row=true→b8 ρ bJ xc b base w→(∀k v,x.at k=some v→xc.at (off+k)=some (v.rn t Mc.length))→off+x.size≤xc.size→(own=true→bJ=true)→b8 (cF t ρ) own x b (base+off) w:=by
   intro bJ xc b base off sQ Zf hh gn fb Ex
   obtain⟨c,e,fr,k1,k2,k3,k4⟩:=hh.out Zf
   refine .mk' sQ ⟨c,e,fr,k1,by omega,fun k v hv=>?_,fun h=>k4 (Ex h)⟩
   have h1:=k3 _ _ (gn k v hv)
   have h2:=oP v (af.Vj Ze hv) h1.1
   rw[Nat.add_assoc]
   exact⟨h2,by rw[←(sq hR v h2).2];exact h1.2⟩
  rcases od gR de with⟨i,h1,h2,h3⟩|⟨i,bJ,h1,h2,h3⟩|⟨i,g',off,bJ,xc,h1,h0,h2,h3,h4⟩
  ·have he:cF t ρ j g=ρ i g:=by unfold cF;rw[h1]
   rcases hs.holds i g _ _ h2 with⟨q,e1,e2⟩|⟨e1,e2⟩
   ·exact .inl ⟨q,by rw[he];exact e1,if hx:x.row=true then back own _ q.1 q.2 0 hx (by rw[af.sn];exact hx) e2 (fun k v hv=>by rw[Nat.zero_add,af.G4,hv];rfl) (by rw[af.uA];omega) (fun h=>h)else spc own _ _ e2 (by simpa using hx)⟩
   ·exact .inr ⟨by rw[he];exact e1,by cases x<;>exact e2⟩
  ·have he:cF t ρ j g=ρ i g:=by unfold cF;rw[h1]
   rcases hs.holds i g _ _ h2 with⟨q,e1,e2⟩|⟨e1,e2⟩
   ·exact .inl ⟨q,by rw[he];exact e1,if hx:x.row=true then back bJ _ q.1 q.2 0 hx (by rw[af.sn];exact hx) e2 (fun k v hv=>by rw[Nat.zero_add,af.G4,hv];rfl) (by rw[af.uA];omega) (fun h=>by rw[h3]at h;cases h)else spc bJ _ _ e2 (by simpa using hx)⟩
   ·exact .inr ⟨by rw[he];exact e1,by cases x<;>exact e2⟩
  ·have he:cF t ρ j g=(ρ i g').map (fun l=>l.map (fun q=>(q.1,q.2+off))):=by unfold cF;rw[h1];simp[h0]
   rcases hs.holds i g' _ _ h2 with⟨q,e1,e2⟩|⟨e1,e2⟩
   ·exact .inl ⟨(q.1,q.2+off),by rw[he,e1];rfl,back bJ _ q.1 q.2 off h3.2.2.2.1 h3.2.2.2.2 e2 h3.2.1 h3.1 (fun h=>by rw[h4]at h;cases h)⟩
   ·exact .inr ⟨by rw[he,e1];rfl,h3.2.2.1 e2⟩
 ·intro j g x j' g' bJ x' q q' fW pC hq Bj hqq
  obtain⟨i,a1,a2,a3⟩:=jV gR fW hq
  rcases od gR pC with⟨i',h1,h2,h3⟩|⟨i',own2,h1,h2,h3⟩|⟨i',g2,off,own2,xc,h1,h0,h2,h3,h4⟩
  ·have he:ρ i' g'=some (some q'):=by unfold cF at Bj;rw[h1]at Bj;exact Bj
   obtain⟨e1,e2⟩:=hs.apart i g _ i' g' _ _ q q' a2 h2 a3 he hqq
   exact⟨gX lN a1 h1 (.inl rfl) e1,e2⟩
  ·have he:ρ i' g'=some (some q'):=by unfold cF at Bj;rw[h1]at Bj;exact Bj
   obtain⟨e1,e2⟩:=hs.apart i g _ i' g' _ _ q q' a2 h2 a3 he hqq
   exact⟨gX lN a1 h1 (.inl rfl) e1,e2⟩
  ·exfalso
   unfold cF at Bj
   rw[h1]at Bj
   simp only[h0,if_true,Option.map_eq_some_iff]at Bj
   obtain⟨l,EE,o8⟩:=Bj
   obtain⟨q0,e0,e3⟩:=o8
   subst e0
   obtain⟨e1,e2⟩:=hs.apart i g _ i' g2 _ _ q q0 a2 h2 a3 EE (by rw[hqq,←e3])
   have:=gX lN a1 h1 (.inl rfl) e1
   subst this
   rw[a1]at h1;cases h1
end
end Go.Proofs.Ytibadaomjlkoaaa
open Go.RowKit
namespace Go.Proofs.Ytibadaomjlkoaaa
def hZ:List TE→Nat→Option Nat
 |[],_=>none
 | .own i::t,k=>if i=k then some 0 else(hZ t k).map (·+1)
 |_::t,k=>(hZ t k).map (·+1)
theorem eY:∀{t:List TE}{k j:Nat},hZ t k=some j→t[j]?=some (.own k)
 |[],k,j,h=>by cases h
 | .own i::t,k,j,h=>by
   simp only[hZ]at h
   split at h
   ·injection h with h;subst h;subst_vars;rfl
   ·obtain⟨j',h1,rfl⟩:=Option.map_eq_some_iff.1 h
    simpa using eY h1
 | .dE i::t,k,j,h=>by
   obtain⟨j',h1,rfl⟩:=Option.map_eq_some_iff.1 h
   simpa using eY h1
 | .cP i g off::t,k,j,h=>by
   obtain⟨j',h1,rfl⟩:=Option.map_eq_some_iff.1 h
   simpa using eY h1
theorem fZ:∀{t:List TE}{k:Nat},hZ t k=none→∀j:Nat,t[j]?≠some (TE.own k)
 |[],k,h,j=>by simp
 | .own i::t,k,h,j=>by
   simp only[hZ]at h
   split at h
   ·cases h
   ·have h':=Option.map_eq_none_iff.1 h
    cases j with
    |zero=>simp only[List.getElem?_cons_zero];intro e;injection e with e;injection e with e;exact‹¬_› e
    |succ j=>simpa using fZ h' j
 | .dE i::t,k,h,j=>by
   have h':=Option.map_eq_none_iff.1 h
   cases j with
   |zero=>simp
   |succ j=>simpa using fZ h' j
 | .cP i g off::t,k,h,j=>by
   have h':=Option.map_eq_none_iff.1 h
   cases j with
   |zero=>simp
   |succ j=>simpa using fZ h' j
def rL (t:List TE)(m:Nat)(ρ e9:Env):Env:=fun i g=>
 match ρ i g with
 |some l=>some l
 |none=>if m≤i then e9 (t.length+(i-m)) g else match hZ t i with
  |some j=>e9 j g
  |none=>none
set_option maxHeartbeats 1000000 in
theorem wX {t:List TE}{Mc M M':AH}{ρ e9:Env}{w w':World}(hs:aW ρ Mc w)(lN:bu t=true)(gR:wA t Mc.length Mc t M)(LR:mQ t M M')
 (pC:aW e9 M' w')(hE:Ext (cF t ρ) M w e9 M' w')(fW:aW (cF t ρ) M w):
 JT t Mc.length e9 (rL t Mc.length ρ e9)∧aW (rL t Mc.length ρ e9) (dw t Mc.length t M' Mc) w'∧Ext ρ Mc w (rL t Mc.length ρ e9) (dw t Mc.length t M' Mc) w':=by
 obtain⟨hl,cH⟩:=lq gR
 obtain⟨hlen,hkp⟩:=o7 LR
 have hold:∀i g l,ρ i g=some l→rL t Mc.length ρ e9 i g=some l:=fun i g l h=>by simp only[rL,h]
 have Ex:∀i j:Nat,t[j]?=some (TE.own i)→i<Mc.length∧∀g,rL t Mc.length ρ e9 i g=e9 j g:=by
  intro i j hj
  have pc:j<M.length:=by rw[←hl];exact(List.getElem?_eq_some_iff.1 hj).1
  have hi:i<Mc.length:=by
   have:=cH j _ _ hj (List.getElem?_eq_getElem pc)
   exact(List.getElem?_eq_some_iff.1 this.1).1
  refine⟨hi,fun g=>?_⟩
  have hc:cF t ρ j g=ρ i g:=by unfold cF;rw[hj]
  unfold rL
  cases hr:ρ i g with
  |some l=>exact(hE.env j g l (by rw[hc,hr])).symm
  |none=>
   simp only
   rw[if_neg (by omega)]
   cases hf:hZ t i with
   |none=>exact absurd hj (fZ hf j)
   |some j'=>rw[gX lN hj (eY hf) (.inl rfl) rfl]
 have kI:∀k g,rL t Mc.length ρ e9 (Mc.length+k) g=e9 (t.length+k) g:=by
  intro k g
  unfold rL
  cases hr:ρ (Mc.length+k) g with
  |some l=>have:=hs.pr (Mc.length+k) g (by rw[hr];rfl);omega
  |none=>simp only;rw[if_pos (by omega),show Mc.length+k-Mc.length=k from by omega]
 have Q8:∀i,i<Mc.length→(∀j:Nat,t[j]?≠some (TE.own i))→∀g,rL t Mc.length ρ e9 i g=ρ i g:=by
  intro i hi hn g
  unfold rL
  cases hr:ρ i g with
  |some l=>rfl
  |none=>
   simp only
   rw[if_neg (by omega)]
   cases hf:hZ t i with
   |none=>rfl
   |some j=>exact absurd (eY hf) (hn j)
 have hR:JT t Mc.length e9 (rL t Mc.length ρ e9):=by
  constructor
  intro j g l Na
  unfold sr uB uC
  have hjM:j<M'.length:=pC.pr j g (by rw[Na];rfl)
  have Zo:=List.getElem?_eq_getElem hjM
  have hk:=hkp j _ Zo
  cases ht:t[j]? with
  |none=>
   have Jl:t.length≤j:=by simpa using ht
   simp only
   refine⟨l,?_,by cases l<;>rfl⟩
   rw[kI,show t.length+(j-t.length)=j from by omega];exact Na
  |some e=>
   rw[ht]at hk
   cases e with
   |own i=>exact⟨l,((Ex i j ht).2 g).trans Na,by cases l<;>rfl⟩
   |dE i=>
    simp only at hk
    have h0:=(cH j _ _ ht hk).1
    have de:∃own x,slot M j g=some (own,x):=by
     unfold slot
     rw[hk]
     generalize M'[j]=o at*
     cases o with
     |gone=>cases h0
     |one own g1 x=>
      have:g1=0:=Nat.eq_of_beq_eq_true h0
      have h2:=pC.tag j g own g1 x Zo (by rw[Na];rfl)
      exact⟨own,x,by simp only[bq];rw[if_pos (by omega)]⟩
     |aX own n x=>
      have h2:=pC.aX j g own n x Zo (by rw[Na];rfl)
      exact⟨own,x g,by simp only[bq];rw[if_pos h2]⟩
    obtain⟨own,x,de⟩:=de
    have hc:cF t ρ j g=ρ i g:=by unfold cF;rw[ht]
    have:ρ i g=some l:=by
     rcases fW.holds j g own x de with⟨q,e1,_⟩|⟨e1,_⟩
     ·have:=hE.env j g _ e1;rw[Na]at this;rw[←hc,e1,this]
     ·have:=hE.env j g _ e1;rw[Na]at this;rw[←hc,e1,this]
    exact⟨l,hold i g l this,by cases l<;>rfl⟩
   |cP i g' off=>
    simp only at hk
    obtain⟨x,own,xc,ho,h1,h2⟩:=cH j _ _ ht hk
    have hg:g=0:=by
     have:=pC.tag j g false 0 x (by rw[Zo,ho]) (by rw[Na];rfl)
     omega
    subst hg
    have de:slot M j 0=some (false,x):=uy (o:=M'[j]) hk (by rw[ho];rfl)
    have hc:cF t ρ j 0=(ρ i g').map (fun l=>l.map (fun q=>(q.1,q.2+off))):=by unfold cF;rw[ht];simp
    have:cF t ρ j 0=some l:=by
     rcases fW.holds j 0 false x de with⟨q,e1,_⟩|⟨e1,_⟩
     ·have:=hE.env j 0 _ e1;rw[Na]at this;rw[e1,this]
     ·have:=hE.env j 0 _ e1;rw[Na]at this;rw[e1,this]
    rw[hc,Option.map_eq_some_iff]at this
    obtain⟨l0,e1,e2⟩:=this
    exact⟨l0,hold i g' l0 e1,e2.symm⟩
 have cls:∀i,(∃j,sr t Mc.length j=i∧(dw t Mc.length t M' Mc)[i]?=(M'[j]?).map (AO.rn t Mc.length)∧(∀g,rL t Mc.length ρ e9 i g=e9 j g)∧∀o,M'[j]?=some o→o.ry=true)∨
  (i<Mc.length∧(dw t Mc.length t M' Mc)[i]?=Mc[i]?∧(∀g,rL t Mc.length ρ e9 i g=ρ i g)∧∀j:Nat,t[j]?≠some (TE.own i)):=by
  intro i
  by_cases hi:i<Mc.length
  ·cases hf:hZ t i with
   |some j=>
    have hj:=eY hf
    refine .inl ⟨j,by unfold sr;rw[hj];rfl,ra t Mc.length t M' Mc i j hi hlen lN hj,(Ex i j hj).2,fun o ho=>?_⟩
    have:=hkp j o ho
    rw[hj]at this;exact this
   |none=>
    have hn:=fZ hf
    exact .inr ⟨hi,nz t Mc.length t M' Mc i hi hlen hn,Q8 i hi hn,hn⟩
  ·obtain⟨k,rfl⟩:∃k,i=Mc.length+k:=⟨i-Mc.length,by omega⟩
   have ht:t[t.length+k]?=none:=by simp
   refine .inl ⟨t.length+k,by unfold sr;rw[ht];simp only;omega,re t Mc.length t M' Mc k hlen,kI k,fun o ho=>?_⟩
   have:=hkp (t.length+k) o ho
   rw[ht]at this;exact this
 have ld:∀{i j g:Nat}{own:Bool}{x:af},(dw t Mc.length t M' Mc)[i]?=(M'[j]?).map (AO.rn t Mc.length)→(∀o,M'[j]?=some o→o.ry=true)→slot (dw t Mc.length t M' Mc) i g=some (own,x)→∃x',slot M' j g=some (true,x')∧x=x'.rn t Mc.length∧own=true:=by
  intro i j g own x h1 h2 de
  obtain⟨o,ho,tK⟩:=vg de
  rw[h1,Option.map_eq_some_iff]at ho
  obtain⟨o',wo,rfl⟩:=ho
  rw[zQ,Option.map_eq_some_iff]at tK
  obtain⟨⟨bJ,x'⟩,e1,e2⟩:=tK
  have:=vf (h2 o' wo) e1
  subst this
  injection e2 with e2 e3
  exact⟨x',uy wo e1,e3.symm,e2.symm⟩
 have k6:∀{i g:Nat}{own:Bool}{x:af},(dw t Mc.length t M' Mc)[i]?=Mc[i]?→slot (dw t Mc.length t M' Mc) i g=some (own,x)→slot Mc i g=some (own,x):=by
  intro i g own x h1 de
  unfold slot at de⊢
  rw[h1]at de;exact de
 have AD:∀i g own x q,slot Mc i g=some (own,x)→ρ i g=some (some q)→b8 ρ own x q.1 q.2 w:=by
  intro i g own x q h1 h2
  rcases hs.holds i g own x h1 with⟨q',e1,e2⟩|⟨e1,_⟩
  ·rw[h2]at e1;injection e1 with e1;injection e1 with e1;subst e1;exact e2
  ·rw[h2]at e1;cases e1
 have Aq:∀{j g:Nat}{x:af}{q:Nat×Nat},slot M' j g=some (true,x)→e9 j g=some (some q)→q.1<w.heap.size→∃(j0 i0 g0:Nat) (x0:af) (q0:Nat×Nat),t[j0]?=some (TE.own i0)∧slot Mc i0 g0=some (true,x0)∧ρ i0 g0=some (some q0)∧q0.1=q.1:=by
  intro j g x q h1 h2 h3
  obtain⟨j0,g0,x0,q0,a1,a2,a3⟩:=hE.fresh j g x q h1 h2 h3
  obtain⟨i0,b1,b2,b3⟩:=jV gR a1 a2
  exact⟨j0,i0,g0,_,q0,b1,b2,b3,a3⟩
 have frame:∀i g own x q,(∀j:Nat,t[j]?≠some (TE.own i))→slot Mc i g=some (own,x)→ρ i g=some (some q)→w'.heap[q.1]?=w.heap[q.1]?:=by
  intro i g own x q hn h1 h2
  refine hE.frame q.1 (AD i g own x q h1 h2).lt fun j0 g0 x0 q0 a1 a2 he=>?_
  obtain⟨i0,b1,b2,b3⟩:=jV gR a1 a2
  have:=(hs.apart i0 g0 _ i g own x q0 q b2 h1 b3 h2 he).1
  subst this
  exact hn j0 b1
 refine⟨hR,⟨?_,?_,?_,?_,?_⟩,⟨hold,hE.size,?_,?_,hE.os,hE.tape,hE.output⟩⟩
 ·intro i g h
  rcases cls i with⟨j,h0,h1,h2,h3⟩|⟨h0,h1,h2,h3⟩
  ·rw[h2]at h
   have hj:=pC.pr j g h
   rw[List.getElem?_eq_getElem hj]at h1
   exact(List.getElem?_eq_some_iff.1 h1).1
  ·rw[kh _ _ _ _ _ hlen];omega
 ·intro i g own g' x hm h
  rcases cls i with⟨j,h0,h1,h2,h3⟩|⟨h0,h1,h2,h3⟩
  ·rw[h2]at h
   rw[h1,Option.map_eq_some_iff]at hm
   obtain⟨o,ho,e⟩:=hm
   cases o with
   |gone=>cases e
   |one Pp g1 x1=>injection e with _ e _;subst e;exact pC.tag j g Pp _ x1 ho h
   |aX _ _ _=>cases e
  ·rw[h1]at hm;rw[h2]at h;exact hs.tag i g own g' x hm h
 ·intro i g own n x hm h
  rcases cls i with⟨j,h0,h1,h2,h3⟩|⟨h0,h1,h2,h3⟩
  ·rw[h2]at h
   rw[h1,Option.map_eq_some_iff]at hm
   obtain⟨o,ho,e⟩:=hm
   cases o with
   |gone=>cases e
   |one Pp g1 x1=>cases e
   |aX Pp n1 x1=>injection e with _ e _;subst e;exact pC.aX j g Pp _ x1 ho h
  ·rw[h1]at hm;rw[h2]at h;exact hs.aX i g own n x hm h
 ·intro i g own x de
  rcases cls i with⟨j,h0,h1,h2,h3⟩|⟨h0,h1,h2,h3⟩
  ·obtain⟨x',a1,rfl,rfl⟩:=ld h1 h3 de
   rw[h2]
   rcases pC.holds j g true x' a1 with⟨q,e1,e2⟩|⟨e1,e2⟩
   ·refine .inl ⟨q,e1,?_⟩
    rcases e2.all with⟨hx,c,e,fr,k1,k2,k3,k4⟩|⟨hx,hb,hs⟩
    ·refine .mk' (by rw[af.sn];exact hx) ⟨c,e,fr,k1,by rw[af.uA];exact k2,fun k v hv=>?_,k4⟩
     rw[af.G4,Option.map_eq_some_iff]at hv
     obtain⟨v',rS,rfl⟩:=hv
     have:=k3 k v' rS
     obtain⟨c1,c2⟩:=sq hR v' this.1
     exact⟨c1,by rw[c2];exact this.2⟩
    ·refine⟨.inr ⟨by rw[af.sn];exact hx,hb,?_⟩⟩
     cases x' with
     |map kk es=>
      obtain⟨fM,clock,h1,h2,h3,h4,h5⟩:=hs
      refine⟨fM,clock,h1,?_,fun p hp=>?_,h4,h5⟩
      ·rw[h2,List.map_map]
       exact List.map_congr_left fun p hp=>by show _=(kk.v p.1,(p.2.rn t Mc.length).c _);rw[(sq hR p.2 (h3 p hp).1).2]
      ·obtain⟨p',y5,rfl⟩:=List.mem_map.1 hp
       exact⟨(sq hR p'.2 (h3 p' y5).1).1,(h3 p' y5).2⟩
     |loop l st pd fn n a ps as bd df=>
      obtain⟨h1,tmps,h2,h3,h4⟩:=hs
      exact⟨h1,tmps,h2,h3,fun j=>⟨(sq hR (a j) (h4 j).1).1,by rw[(h4 j).2,(sq hR (a j) (h4 j).1).2]⟩⟩
     |cells _=>exact hs.elim
     |ints _ _ _=>exact hs.elim
     |ax _ _=>exact hs.elim
     |cw _ _ _ _=>exact hs.elim
   ·exact .inr ⟨e1,af.NR e2⟩
  ·have PS:=k6 h1 de
   rw[h2]
   rcases hs.holds i g own x PS with⟨q,e1,e2⟩|e
   ·exact .inl ⟨q,e1,e2.ext hold (frame i g own x q h3 PS e1)⟩
   ·exact .inr e
 ·intro i1 g1 x1 i2 g2 own2 x2 q1 q2 PR PQ CD eW he
  rcases cls i1 with⟨j1,a0,a1,a2,a3⟩|⟨a0,a1,a2,a3⟩<;>rcases cls i2 with⟨j2,b0,b1,b2,b3⟩|⟨b0,b1,b2,b3⟩
  ·obtain⟨y1,c1,c2,_⟩:=ld a1 a3 PR
   obtain⟨y2,d1,d2,_⟩:=ld b1 b3 PQ
   rw[a2]at CD;rw[b2]at eW
   obtain⟨e1,e2⟩:=pC.apart j1 g1 y1 j2 g2 _ y2 q1 q2 c1 d1 CD eW he
   exact⟨by rw[←a0,←b0,e1],e2⟩
  ·exfalso
   obtain⟨y1,c1,c2,_⟩:=ld a1 a3 PR
   rw[a2]at CD;rw[b2]at eW
   have Q6:=k6 b1 PQ
   have bh:=(AD i2 g2 own2 x2 q2 Q6 eW).lt
   obtain⟨j0,i0,g0,x0,q0,d1,d2,d3,d4⟩:=Aq c1 CD (by omega)
   have:=(hs.apart i0 g0 x0 i2 g2 own2 x2 q0 q2 d2 Q6 d3 eW (d4.trans he)).1
   subst this
   exact b3 j0 d1
  ·exfalso
   obtain⟨y2,c1,c2,_⟩:=ld b1 b3 PQ
   rw[a2]at CD;rw[b2]at eW
   have Q7:=k6 a1 PR
   have bh:=(AD i1 g1 true x1 q1 Q7 CD).lt
   obtain⟨j0,i0,g0,x0,q0,d1,d2,d3,d4⟩:=Aq c1 eW (by omega)
   have:=(hs.apart i0 g0 x0 i1 g1 true x1 q0 q1 d2 Q7 d3 CD (d4.trans he.symm)).1
   subst this
   exact a3 j0 d1
  ·rw[a2]at CD;rw[b2]at eW
   exact hs.apart i1 g1 x1 i2 g2 own2 x2 q1 q2 (k6 a1 PR) (k6 b1 PQ) CD eW he
 ·intro b hb hn
  refine hE.frame b hb fun j g x q h1 h2=>?_
  obtain⟨i0,b1,b2,b3⟩:=jV gR h1 h2
  exact hn i0 g _ q b2 b3
 ·intro i g x q de hq hb
  rcases cls i with⟨j,h0,h1,h2,h3⟩|⟨h0,h1,h2,h3⟩
  ·obtain⟨x',a1,rfl,_⟩:=ld h1 h3 de
   rw[h2]at hq
   obtain⟨j0,i0,g0,x0,q0,d1,d2,d3,d4⟩:=Aq a1 hq hb
   exact⟨i0,g0,x0,q0,d2,d3,d4⟩
  ·rw[h2]at hq
   exact⟨i,g,x,q,k6 h1 de,hq,rfl⟩
theorem aa.lift (t:List TE){P:Program}{g:Nat}{args:List AV}{M:AH}{K0 Y4:AV→AH→Prop}(h:aa P g args M K0 Y4){Db:List AV}{Mc:AH}{K Kp:AV→AH→Prop}
 (kz:AV.mX t Mc.length args=Db)(W0:(bu t&&AV.nq t args)=true)(gR:wA t Mc.length Mc t M)(TD:RY t M)
 (hK:∀r M',K0 r M'→mQ t M M'∧K (r.rn t Mc.length) (dw t Mc.length t M' Mc))
 (Xn:∀r M',Y4 r M'→mQ t M M'∧Kp (r.rn t Mc.length) (dw t Mc.length t M' Mc)):aa P g Db Mc K Kp:=by
 subst kz
 simp only[Bool.and_eq_true]at W0
 obtain⟨lN,hwa⟩:=W0
 unfold aa at*
 refine⟨h.1,fun ρ w hs aF=>?_⟩
 have fW:=wY hs lN gR TD
 have Wx:=iq args hwa aF
 have mS:=h.2 (cF t ρ) w fW Wx
 rw[←(tz (wE (m:=Mc.length)) args Wx).2]at mS
 refine Calls.mono mS fun e w' he=>?_
 obtain⟨e9,M',h1,h2,h3⟩:=he
 cases e with
 |returned v=>
  obtain⟨r,e1,e2,e3⟩:=h3
  obtain⟨k1,k2⟩:=hK r M' e3
  obtain⟨b1,b2,b3⟩:=wX hs lN gR k1 h1 h2 fW
  obtain⟨c1,c2⟩:=sq b1 r e2
  exact⟨_,_,b2,b3,_,by rw[c2];exact e1,c1,k2⟩
 |panicked ch=>
  obtain⟨r,e1,e2,e3⟩:=h3
  obtain⟨k1,k2⟩:=Xn r M' e3
  obtain⟨b1,b2,b3⟩:=wX hs lN gR k1 h1 h2 fW
  obtain⟨c1,c2⟩:=sq b1 r e2
  exact⟨_,_,b2,b3,_,by rw[c2];exact e1,c1,k2⟩
 |outgrown=>exact h3.elim
end Go.Proofs.Ytibadaomjlkoaaa
open Go.RowKit
namespace Go.Proofs.Ytibadaomjlkoaaa
theorem lU {ρ:Env}{M:AH}{w:World}{i g:Nat}{x x':af}(h:aW ρ M w)(hm:M[i]?=some (.one true g x))(fb:x'.size≤x.size)
 (gn:∀k v',x'.at k=some v'→∃v,x.at k=some v∧v'.c ρ=v.c ρ∧v'.ok ρ)(hv:x.b9→x'.b9)(sQ:x.row=true:=by rfl)(Er:x'.row=true:=by rfl):
 aW ρ (M.set i (.one true g x')) w∧Ext ρ M w ρ (M.set i (.one true g x')) w:=by
 have bh:i<M.length:=(List.getElem?_eq_some_iff.1 hm).1
 refine lV (i:=i) (g:=g) (x':=x') h (by simp) (fun i' eN=>by rw[List.getElem?_set_ne (Ne.symm eN)]) (by simp[bh]) (fun _ _ _ e=>e) (fun _ _ e=>.inl e) (fun g' hg=>h.tag i g' true g x hm hg)
  (fun b hb hn=>rfl) (Nat.le_refl _) rfl rfl rfl ?_
 rcases h.holds i g true x (ao hm)with⟨q,e1,e2⟩|⟨e1,e2⟩
 ·refine .inl ⟨q,e1,?_,.inr ⟨g,x,q,ao hm,e1,rfl⟩⟩
  obtain⟨c,e,fr,k1,k2,k3,k4⟩:=e2.out sQ
  refine .mk' Er ⟨c,e,fr,k1,by omega,fun k v hv=>?_,k4⟩
  obtain⟨v0,h1,h2,h3⟩:=gn k v hv
  exact⟨h3,by rw[h2];exact(k3 k v0 h1).2⟩
 ·exact .inr ⟨e1,hv e2⟩
theorem tv {α:Type}(M:List α)(o o':α)(i:Nat)(h:i<M.length):(M++[o]).set i o'=M.set i o'++[o]:=by
 rw[List.set_append,if_pos h]
theorem Vw.ghost {M:AH}{i g k:Nat}{cs:List AV}{x:af}{l:List AV}(hm:M[i]?=some (.one true g (.cells cs)))(hk:cs[k]?=some .ns)(hx:x.b9):
 Vw M (M.set i (.one true g (.cells (cs.set k (.sl M.length 0 0 0 0))))++[.one true 0 x]) l l:=by
 intro ρ w hs aF
 have bh:i<M.length:=(List.getElem?_eq_some_iff.1 hm).1
 obtain⟨h1,h2⟩:=hJ (x:=x) (l:=none) (w':=w) hs (fun _ _=>rfl) (Nat.le_refl _) rfl rfl rfl (.inr ⟨rfl,hx⟩)
 obtain⟨h3,h4⟩:=lU (x':=.cells (cs.set k (.sl M.length 0 0 0 0))) h1 (show(M++[AO.one true 0 x])[i]?=some (.one true g (.cells cs)) by rw[List.getElem?_append_left bh];exact hm)
  (by simp[af.size]) (fun j v' rS=>by
   simp only[af.at]at rS⊢
   by_cases hj:k=j
   ·subst hj
    have hlk:=(List.getElem?_eq_some_iff.1 hk).1
    rw[List.getElem?_set_self hlk]at rS
    injection rS with rS;subst rS
    exact⟨.ns,hk,by simp[AV.c,ay],by simp[AV.ok,ay]⟩
   ·rw[List.getElem?_set_ne hj]at rS
    refine⟨v',rS,rfl,?_⟩
    rcases h1.holds i g true (.cells cs) (ao (by rw[List.getElem?_append_left bh];exact hm))with⟨q,e1,e2⟩|⟨_,e2⟩
    ·obtain⟨c,e,fr,k1,k2,k3,k4⟩:=e2.out rfl
     exact(k3 j v' rS).1
    ·exact e2.elim) (fun h=>h.elim)
 rw[tv _ _ _ _ bh]at h3 h4
 refine⟨_,h3,h2.trans h4,?_,AV.hU h2.env l aF⟩
 exact AV.kM h2.env l aF
theorem Vw.nil {M:AH}{x:af}(hx:x.b9):Vw M (M++[.one true 0 x]) [.ns] [.sl M.length 0 0 0 0]:=by
 intro ρ w hs aF
 obtain⟨h1,h2⟩:=hJ (x:=x) (l:=none) (w':=w) hs (fun _ _=>rfl) (Nat.le_refl _) rfl rfl rfl (.inr ⟨rfl,hx⟩)
 exact⟨_,h1,h2,by simp[AV.cl,AV.c,ay],by simp[AV.eb,AV.ok,ay]⟩
def Th (k:Nat):List AV→List AV→Prop
 |[],[]=>True
 |v::l,v'::l'=>(v'=v∨(v=.ns∧v'=.sl k 0 0 0 0))∧Th k l l'
 |_,_=>False
theorem Vw.pz {M:AH}{x:af}{l l':List AV}(hx:x.b9)(hl:Th M.length l l'):Vw M (M++[.one true 0 x]) l l':=by
 intro ρ w hs aF
 obtain⟨h1,h2⟩:=hJ (x:=x) (l:=none) (w':=w) hs (fun _ _=>rfl) (Nat.le_refl _) rfl rfl rfl (.inr ⟨rfl,hx⟩)
 have key:∀l l':List AV,Th M.length l l'→AV.eb ρ l→AV.cl (kO ρ M.length 0 none) l'=AV.cl ρ l∧AV.eb (kO ρ M.length 0 none) l':=by
  intro l
  induction l with
  |nil=>intro l' h _;cases l' with
   |nil=>exact⟨rfl,trivial⟩
   |cons _ _=>cases h
  |cons v l ih=>
   intro l' h aF
   cases l' with
   |nil=>cases h
   |cons v' l'=>
    obtain⟨g1,g2⟩:=ih l' h.2 aF.2
    rcases h.1 with rfl|⟨rfl,rfl⟩
    ·exact⟨by simp only[AV.cl,g1,AV.dr h2.env _ aF.1],AV.cW h2.env _ aF.1,g2⟩
    ·exact⟨by simp[AV.cl,AV.c,ay,g1],by simp[AV.ok,ay],g2⟩
 obtain⟨k1,k2⟩:=key l l' hl aF
 exact⟨_,h1,h2,k1,k2⟩
theorem Vw.refl (M:AH)(l:List AV):Vw M M l l:=fun ρ w hs aF=>⟨ρ,hs,Ext.refl _ _ _,rfl,aF⟩
theorem aa.eS {P:Program}{g:Nat}{args:List AV}{M:AH}{K Kp:AV→AH→Prop}(h:aa P g args M (fun r M'=>∃r' mK,Vw M' mK [r] [r']∧K r' mK) Kp):aa P g args M K Kp:=by
 unfold aa at*
 refine⟨h.1,fun ρ w hs aF=>Calls.mono (h.2 ρ w hs aF) fun e w' he=>?_⟩
 obtain⟨ρ',M',h1,h2,h3⟩:=he
 cases e with
 |returned v=>
  obtain⟨r,e1,e2,r',mK,e3,e4⟩:=h3
  obtain⟨iG,k1,k2,k3,k4⟩:=e3 ρ' w' h1 ⟨e2,trivial⟩
  simp only[AV.cl,List.cons.injEq,and_true]at k3
  exact⟨iG,mK,k1,h2.trans k2,r',by rw[k3];exact e1,k4.1,e4⟩
 |panicked ch=>
  obtain⟨r,e1,e2,e3⟩:=h3
  exact⟨ρ',M',h1,h2,r,e1,e2,e3⟩
 |outgrown=>exact h3.elim
theorem aa.bI {P:Program}{g:Nat}{args:List AV}{M:AH}{K Kp:AV→AH→Prop}(h:aa P g args M (fun r M'=>∃N,j5 M' N∧kq N.length N∧(r.nb N.length&&Nat.ble M.length N.length)=true∧K r N) Kp):aa P g args M K Kp:=by
 unfold aa at*
 refine⟨h.1,fun ρ w hs aF=>Calls.mono (h.2 ρ w hs aF) fun e w' he=>?_⟩
 obtain⟨ρ',M',h1,h2,h3⟩:=he
 cases e with
 |returned v=>
  obtain⟨r,e1,e2,N,e3,e4,e5,e6⟩:=h3
  simp only[Bool.and_eq_true]at e5
  obtain⟨k1,k2⟩:=q8 hs.pr h1 h2 e3 e4 (by simpa using e5.2)
  exact⟨_,N,k1,k2,r,by rw[AV.Ec e5.1 e2];exact e1,AV.pN r e5.1 e2,e6⟩
 |panicked ch=>
  obtain⟨r,e1,e2,e3⟩:=h3
  exact⟨ρ',M',h1,h2,r,e1,e2,e3⟩
 |outgrown=>exact h3.elim
theorem WA.view {P:Program}{r:Option Nat}{D:List Deferred}{n:Nat}{c:Code}{Q:jr→AA→AH→Prop}{Kp:AV→AH→Prop}{l l':List (Nat×AV)}{a:AA}{M M':AH}
 (ha:xV l a)(hk:l'.map (·.1)=l.map (·.1))(hv:Vw M M' (l.map (·.2)) (l'.map (·.2)))(h:∀d,WA P r D n c Q Kp (mN l' d) M'):WA P r D n c Q Kp a M:=by
 unfold WA at*
 intro pin D1 ρ w act nj UX hs hA
 have aF:AV.eb ρ (l.map (·.2)):=by
  clear hk hv
  induction l with
  |nil=>trivial
  |cons x l ih=>exact⟨(show x.2.ok ρ from ha.1▸hA.ok _),ih ha.2⟩
 obtain⟨ρ',h1,h2,h3,h4⟩:=hv ρ w hs aF
 refine wpIn_mono (h (fun t=>act.tmps.getD t undef) pin D1 ρ' w act nj UX h1 ⟨hA.defers,hA.size,fun t=>?_,fun t=>?_⟩) fun e aP w' hq=>⟨hq.1.from h2 h1 (Marks.refl _ _ _),hq.2⟩
 ·simp only[mN]
  split
  ·rename_i v qp
   clear ha h3 hk hv h aF
   induction l' with
   |nil=>cases qp
   |cons y l' ih=>
    simp only[xS]at qp
    split at qp
    ·injection qp with qp;subst qp;exact h4.1
    ·exact ih h4.2 qp
  ·exact trivial
 ·simp only[mN]
  split
  ·rename_i v qp
   have hg:=hA.get t
   clear aF hv h h4
   induction l' generalizing l with
   |nil=>cases qp
   |cons y l' ih=>
    cases l with
    |nil=>cases hk
    |cons x l=>
     simp only[List.map_cons,List.cons.injEq]at hk
     simp only[List.map_cons,AV.cl,List.cons.injEq]at h3
     simp only[xS]at qp
     split at qp
     ·rename_i hb
      injection qp with qp;subst qp
      have ht:t=y.1:=Nat.eq_of_beq_eq_true hb
      have Js:=ha.1
      rw[h3.1,←Js,←hk.1,←ht];exact hg
     ·exact ih ha.2 hk.2 h3.2 qp
  ·rfl
end Go.Proofs.Ytibadaomjlkoaaa
