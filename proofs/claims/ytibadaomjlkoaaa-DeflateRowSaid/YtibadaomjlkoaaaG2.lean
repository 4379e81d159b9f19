import Derived.Test.YtibadaomjlkoaaaG1
import Derived.OrdersIn
import Derived.Test.YtibadaomjlkoaaaAbI
import Derived.RangeFuncRecord
set_option linter.unusedVariables false
set_option linter.unusedSimpArgs false
open Go.RowKit
namespace Go.Proofs.Ytibadaomjlkoaaa
def FW (r:Option Nat):Fence:={fn:=fun _=>True,depth:=none,alive:=false,round:=r}
section
variable{r:Option Nat}{P:Program}{ops:Array Oper}{Q:Exit→Act→World→Prop}{S:World→Prop}{ds:List Nat}
def vq (r:Option Nat)(P:Program)(ops:Array Oper)(Q:Exit→Act→World→Prop)(o:Oper)(K:Act→World→Prop)(a:Act)(w:World):Prop:=
 if Region.wanted o (yielded ops a.tmps)=true then o.uponIn (FW r) 0 P a K Q ((execOp a.eval o).run P w)else K (a.put o.dst undef) w
def cn:Op→Bool
 | .defer _| .select ..=>false
 |_=>true
theorem vJ {i:Nat}{o:Oper}{K:Act→World→Prop}{a:Act}{w:World}(hi:ops[i]?=some o)(hp:cn o.op=true)(h:vq r P ops Q o K a w):wpOpIn (FW r) 0 P ops Q i K a w:=by
 unfold wpOpIn vq at*
 simp only[hi]
 have hd:∀c,o.op≠ .defer c:=by intro c e;rw[e]at hp;cases hp
 split
 ·rename_i hw
  rw[if_pos hw]at h
  exact⟨fun _ _=>trivial,by rw[Oper.semAt_eq _ _ _ hd];exact h⟩
 ·rename_i hw
  rw[if_neg hw]at h
  exact⟨fun _ _=>trivial,h⟩
theorem zh {o:Oper}{a:Act}{K K':Act→World→Prop}(h:∀a w,K a w→K' a w){res:Result Next}(hh:o.uponIn (FW r) 0 P a K Q res):o.uponIn (FW r) 0 P a K' Q res:=by
 cases res with
 |ok x w'=>
  cases x<;>simp only[Oper.uponIn]at hh⊢<;>
   first
    |exact h _ _ hh
    |exact⟨hh.1,CallsIn.mono hh.2 (fun e u2 he=>by cases e<;>first|exact h _ _ he|exact he)⟩
    |exact⟨hh.1,RowsIn.mono hh.2 (fun _ _ he=>h _ _ he)⟩
    |exact⟨hh.1,RoundIn.mono hh.2 (fun e u2 he=>by cases e<;>first|exact h _ _ he|exact he)⟩
 |halt x w'=>cases x<;>simp only[Oper.uponIn]at hh⊢<;>exact hh
theorem pN {o:Oper}{a:Act}{w:World}{K K':Act→World→Prop}(h:∀a w,K a w→K' a w)(hh:vq r P ops Q o K a w):vq r P ops Q o K' a w:=by
 unfold vq at*
 split
 ·rename_i hw;rw[if_pos hw]at hh;exact zh h hh
 ·rename_i hw;rw[if_neg hw]at hh;exact h _ _ hh
def YI (P:Program)(ops:Array Oper)(S:World→Prop)(o:Oper)(v:Value)(a:Act):Prop:=
 (Region.wanted o (yielded ops a.tmps)=true∧∀w,S w→(execOp a.eval o).run P w=.ok (.value v) w)∨(Region.wanted o (yielded ops a.tmps)=false∧v=undef)
theorem YI.vq {o:Oper}{v:Value}{a:Act}(hy:YI P ops S o v a){K:Act→World→Prop}{w:World}(hS:S w)(h:K (a.put o.dst v) w):vq r P ops Q o K a w:=by
 unfold Ytibadaomjlkoaaa.vq
 rcases hy with⟨hw,hv⟩|⟨hw,rfl⟩
 ·rw[if_pos hw,hv w hS];exact h
 ·rw[if_neg (by rw[hw];simp)];exact h
theorem YI.same {o:Oper}{v:Value}{a a':Act}(hy:YI P ops S o v a)(he:execOp a'.eval o=execOp a.eval o)(hw:Region.wanted o (yielded ops a'.tmps)=Region.wanted o (yielded ops a.tmps)):YI P ops S o v a':=by
 unfold YI at*;rw[he,hw];exact hy
theorem Eo {oi oj:Oper}{v:Value}(o9:oi.apart ops oj=true)(UN:cn oi.op=true)(XM:cn oj.op=true)
 (hQ:∀c a w,Q (.panic c) (a.put oi.dst v) w→Q (.panic c) a w){K:Act→World→Prop}{a:Act}{w:World}
 (hy:YI P ops S oi v a)(h:vq r P ops Q oj K (a.put oi.dst v) w):
 vq r P ops Q oj (fun a' w'=>YI P ops S oi v a'∧K (a'.put oi.dst v) w') a w:=by
 obtain⟨h1,h2,h3⟩:=Oper.apart_spec o9
 have YN:∀cs b,oi.op≠ .select cs b:=by intro cs b e;rw[e]at UN;cases UN
 have YM:∀cs b,oj.op≠ .select cs b:=by intro cs b e;rw[e]at XM;cases XM
 have k7:∀(a:Act),YI P ops S oi v a→∀u,YI P ops S oi v (a.put oj.dst u):=fun a hy u=>
  hy.same (execOp_put oi YN a oj.dst u h3) (wanted_put oi a oj.dst u h3)
 have RX:∀d,YI P ops S oi v {a with defers:=d::a.defers}:=fun d=>hy.same rfl rfl
 unfold Ytibadaomjlkoaaa.vq at*
 rw[wanted_put oj a oi.dst v h1]at h
 split
 ·rename_i hw
  rw[if_pos hw,execOp_put oj YM a oi.dst v h1]at h
  generalize(execOp a.eval oj).run P w=res at*
  cases res with
  |ok x w'=>
   cases x<;>simp only[Oper.uponIn]at h⊢
   case value u=>exact⟨k7 a hy u,by rw[←Act.put_comm a v u h2];exact h⟩
   case skip=>exact⟨k7 a hy _,by rw[←Act.put_comm a v undef h2];exact h⟩
   case defer d=>
    refine⟨k7 _ (RX d) _,?_⟩
    rw[←Act.put_comm _ v undef h2,←Act.put_defers]
    exact h
   case enter f args=>
    refine⟨h.1,CallsIn.mono h.2 fun e u2 he=>?_⟩
    cases e with
    |returned u=>exact⟨k7 a hy u,by rw[←Act.put_comm a v u h2];exact he⟩
    |panicked c=>exact hQ _ _ _ he
    |outgrown=>exact he
   case row row args=>exact⟨h.1,RowsIn.mono h.2 fun u u2 he=>⟨k7 a hy u,by rw[←Act.put_comm a v u h2];exact he⟩⟩
   case round l f tmps assign body=>
    refine⟨h.1,RoundIn.mono h.2 fun e u2 he=>?_⟩
    cases e with
    |returned u=>exact⟨k7 a hy u,by rw[←Act.put_comm a v u h2];exact he⟩
    |panicked c=>exact hQ _ _ _ he
    |outgrown=>exact he
  |halt x w'=>
   cases x<;>simp only[Oper.uponIn]at h⊢
   case panic u=>exact hQ _ _ _ h
 ·rename_i hw
  rw[if_neg hw]at h
  exact⟨k7 a hy _,by rw[←Act.put_comm a v undef h2];exact h⟩
def anyS (r:Option Nat)(P:Program)(ops:Array Oper)(Q:Exit→Act→World→Prop)(S:World→Prop)(ds:List Nat):Nat→Array Bool→Act→World→Prop
 |0,l,a,w=>Region.ready .any ops l=[]∧Q .normal a w
 |f+1,l,a,w=>(Region.ready .any ops l=[]→Q .normal a w)∧∀i∈Region.ready .any ops l,∀o,ops[i]?=some o→
   vq r P ops Q o (fun a' w'=>(i∉ds→w'=w∨S w')∧anyS r P ops Q S ds f (l.setIfInBounds i true) a' w') a w
theorem dw (hp:∀(i:Nat) o,ops[i]?=some o→cn o.op=true):∀(f:Nat)(l:Array Bool)(a:Act)(w:World),anyS r P ops Q S ds f l a w→wpAnyIn (FW r) 0 P .any ops Q f l a w
 |0,_,_,_,h=>h
 |f+1,l,a,w,h=>⟨h.1,fun i hi=>by
   obtain⟨_,o,ho,_⟩:=mem_ready.1 hi
   exact vJ ho (hp i o ho) (pN (fun a' w' h'=>dw hp f _ a' w' h'.2) (h.2 i hi o ho))⟩
theorem gn {S':World→Prop}(hw:∀w,S w→S' w):∀(f:Nat)(l:Array Bool)(a:Act)(w:World),anyS r P ops Q S ds f l a w→anyS r P ops Q S' ds f l a w
 |0,_,_,_,h=>h
 |f+1,l,a,w,h=>⟨h.1,fun i hi o ho=>pN (fun a' w' h'=>⟨fun hd=>(h'.1 hd).imp id (hw w'),gn hw f _ a' w' h'.2⟩) (h.2 i hi o ho)⟩
def waits (ops:Array Oper)(i:Nat):Nat→Nat→Bool
 |0,_=>false
 |f+1,d=>match ops[d]? with
  |some o=>o.after.any fun e=>Region.binds .any e&&(e.on==i||waits ops i f e.on)
  |none=>false
def iY (ops:Array Oper)(l:Array Bool):Prop:=∀j o,ops[j]?=some o→l.getD j false=true→∀e∈o.after,Region.binds .any e=true→l.getD e.on false=true
theorem iY.set {ops:Array Oper}{l:Array Bool}{i:Nat}(h:iY ops l)(hi:i∈Region.ready .any ops l):iY ops (l.setIfInBounds i true):=by
 obtain⟨_,oi,YW,hall⟩:=mem_ready.1 hi
 intro j oj hj hl e he hb
 by_cases rE:i=j
 ·subst rE
  rw[YW]at hj;injection hj with hj;subst hj
  exact getD_set_true (hall e he hb)
 ·rw[getD_set_ne false rE]at hl
  exact getD_set_true (h j oj hj hl e he hb)
theorem iY.none {ops:Array Oper}{n:Nat}:iY ops (Array.replicate n false):=by
 intro j o _ hl
 simp only[Array.getD_eq_getD_getElem?,Array.getElem?_replicate]at hl
 split at hl<;>cases hl
theorem lr {i:Nat}{l:Array Bool}(ER:iY ops l):
 ∀(f d:Nat),waits ops i f d=true→l.getD i true=false→l.getD d false=true→False
 |0,_,h,_,_=>by cases h
 |f+1,d,h,hi,hl=>by
  unfold waits at h
  cases ho:ops[d]? with
  |none=>rw[ho]at h;cases h
  |some o=>
   rw[ho]at h
   obtain⟨e,he,h1⟩:=Array.any_eq_true'.1 h
   simp only[Bool.and_eq_true,Bool.or_eq_true,beq_iff_eq]at h1
   have hle:=ER d o ho hl e he h1.1
   rcases h1.2 with h2|h2
   ·rw[h2]at hle
    rcases Nat.lt_or_ge i l.size with h'|h'
    ·simp[h']at hi hle;rw[hi]at hle;cases hle
    ·simp[Array.getElem?_eq_none h']at hle
   ·exact lr ER f e.on h2 hi hle
theorem zc {i:Nat}{l:Array Bool}(hc:iY ops l):∀(f:Nat){d:Nat},waits ops i f d=true→l.getD i true=false→d∈Region.ready .any ops l→False
 |0,_,h,_,_=>by cases h
 |f+1,d,h,hi,hd=>by
  obtain⟨_,o,ho,hall⟩:=mem_ready.1 hd
  unfold waits at h
  rw[ho]at h
  obtain⟨e,he,h1⟩:=Array.any_eq_true'.1 h
  simp only[Bool.and_eq_true,Bool.or_eq_true,beq_iff_eq]at h1
  have hle:=hall e he h1.1
  rcases h1.2 with h2|h2
  ·rw[h2]at hle
   rcases Nat.lt_or_ge i l.size with h'|h'
   ·simp[h']at hi hle;rw[hi]at hle;cases hle
   ·simp[Array.getElem?_eq_none h']at hle
  ·exact lr hc f e.on h2 hi hle
theorem ko {i:Nat}{oi:Oper}{v:Value}(hi:ops[i]?=some oi)(hp:∀(i:Nat) o,ops[i]?=some o→cn o.op=true)
 (hQ:∀c a w,Q (.panic c) (a.put oi.dst v) w→Q (.panic c) a w):
 ∀(f:Nat)(l:Array Bool)(a:Act)(w:World),
  (∀j oj,ops[j]?=some oj→j≠i→l.getD j true=false→(∀e∈oj.after,Region.binds .any e=true→e.on≠i)→oi.apart ops oj=true)→
  iY ops l→(∀d∈ds,l.getD d true=false→waits ops i ops.size d=true)→
  i∈Region.ready .any ops l→YI P ops S oi v a→S w→
  anyS r P ops Q S ds f (l.setIfInBounds i true) (a.put oi.dst v) w→anyS r P ops Q S ds (f+1) l a w:=by
 intro f
 induction f with
 |zero=>
  intro l a w _ _ _ hr hy hS H
  refine⟨fun h=>(by rw[h]at hr;cases hr),fun j hj o ho=>?_⟩
  by_cases fE:j=i
  ·subst fE
   rw[hi]at ho;injection ho with ho;subst ho
   exact hy.vq hS ⟨fun _=>.inl rfl,H⟩
  ·have:=ready_mono hj fE
   rw[H.1]at this
   cases this
 |succ f ih=>
  intro l a w jx hc hd hr hy hS H
  refine⟨fun h=>(by rw[h]at hr;cases hr),fun j hj oj u4=>?_⟩
  by_cases fE:j=i
  ·subst fE
   rw[hi]at u4;injection u4 with u4;subst u4
   exact hy.vq hS ⟨fun _=>.inl rfl,H⟩
  ·have h1:=H.2 j (ready_mono hj fE) oj u4
   obtain⟨Ce,Yx,yr,hall⟩:=mem_ready.1 hj
   rw[u4]at yr;injection yr with yr;subst yr
   have Gr:=(mem_ready.1 hr).1
   have PY:∀e∈oj.after,Region.binds .any e=true→e.on≠i:=fun e he hb heq=>by
    have h1:=hall e he hb
    rw[heq]at h1
    rcases Nat.lt_or_ge i l.size with h'|h'
    ·simp[h']at Gr h1;rw[Gr]at h1;cases h1
    ·simp[Array.getElem?_eq_none h']at h1
   have Y7:j∉ds:=fun hm=>zc hc ops.size (hd j hm Ce) Gr hj
   have h2:=Eo (jx j oj u4 fE Ce PY) (hp i oi hi) (hp j oj u4) hQ hy h1
   refine pN (fun a' w' h3=>⟨h3.2.1,ih (l.setIfInBounds j true) a' w' ?_ (hc.set hj) ?_ (ready_mono hr (Ne.symm fE)) h3.1 ((h3.2.1 Y7).elim (fun e=>e▸hS) id) ?_⟩) h2
   ·intro k ok hk US jw rC
    refine jx k ok hk US ?_ rC
    by_cases IX:j=k
    ·subst IX;exact Ce
    ·rw[getD_set_ne true IX]at jw;exact jw
   ·intro d hm jw
    refine hd d hm ?_
    by_cases IX:j=d
    ·subst IX;exact Ce
    ·rw[getD_set_ne true IX]at jw;exact jw
   ·rw[Array.setIfInBounds_comm _ _ fE]
    exact h3.2.2
end
end Go.Proofs.Ytibadaomjlkoaaa
open Go.RowKit
namespace Go.Proofs.Ytibadaomjlkoaaa
abbrev AA:=Nat→AV
def AA.put (n:Nat)(a:AA)(d:Option Nat)(v:AV):AA:=
 match d with
 |none=>a
 |some t=>fun k=>match Nat.beq k t&&Nat.blt t n with
  |true=>v
  |false=>a k
def pc (a:AA):Operand→AV
 | .tmp t=>a t
 | .const v=>RQ v
 | .global g=>.raw (.pointer (some ⟨g,0,none⟩))
 | .func f=>.fn (.func f) [] []
structure bt (ρ:Env)(D:List Deferred)(n:Nat)(a:AA)(act:Act):Prop where
 defers:act.defers=D
 size:act.tmps.size=n
 ok:∀t,(a t).ok ρ
 get:∀t,act.tmps.getD t undef=(a t).c ρ
theorem bt.ev {ρ:Env}{D:List Deferred}{n:Nat}{a:AA}{act:Act}(h:bt ρ D n a act):Ux ρ (pc a) act.eval:=by
 intro x
 cases x with
 |tmp t=>exact⟨h.get t,h.ok t⟩
 |const v=>exact⟨(RP ρ v).symm,Pc ρ v⟩
 |global g=>exact⟨rfl,trivial⟩
 |func f=>exact⟨rfl,⟨trivial,trivial⟩⟩
theorem bt.ext {ρ ρ':Env}{D:List Deferred}{n:Nat}{a:AA}{act:Act}(h:bt ρ D n a act)(he:∀i g l,ρ i g=some l→ρ' i g=some l):bt ρ' D n a act:=
 ⟨h.defers,h.size,fun t=>AV.cz he _ (h.ok t),fun t=>by rw[AV.cX he _ (h.ok t)];exact h.get t⟩
theorem bt.put {ρ:Env}{D:List Deferred}{n:Nat}{a:AA}{act:Act}(h:bt ρ D n a act)(d:Option Nat){v:AV}(hv:v.ok ρ):bt ρ D n (a.put n d v) (act.put d (v.c ρ)):=by
 cases d with
 |none=>exact h
 |some t=>
  refine⟨h.defers,by simp[Act.put,h.size],fun k=>?_,fun k=>?_⟩
  ·simp only[AA.put];split
   ·exact hv
   ·exact h.ok k
  ·simp only[AA.put,Act.put]
   split
   ·rename_i hb
    simp only[Bool.and_eq_true]at hb
    have e1:k=t:=Nat.eq_of_beq_eq_true hb.1
    have e2:t<n:=by simpa using hb.2
    subst e1
    simp[Array.getD_eq_getD_getElem?,h.size,e2]
   ·rename_i hb
    have hg:=h.get k
    by_cases hk:k=t
    ·subst hk
     have:¬k<n:=by
      intro a8
      have e1:Nat.beq k k=true:=Nat.beq_refl k
      have e2:Nat.blt k n=true:=by simpa using a8
      rw[e1,e2]at hb;cases hb
     rw[←hg]
     simp[Array.getD_eq_getD_getElem?,h.size,this]
    ·rw[←hg]
     simp[Array.getD_eq_getD_getElem?,Array.getElem?_setIfInBounds_ne (Ne.symm hk)]
def n9 (P:Program)(g:Nat):Bool:=
 match P.funcs[g]? with
 |some fn=>fn.body.isSome&&!(fn.name=="runtime.NumGoroutine")
 |none=>false
theorem nD {P:Program}{g:Nat}(h:n9 P g=true)(args:Array Value)(w:World):(callFunc g args).run P w=.ok (.enter g args) w:=by
 unfold n9 at h
 split at h
 ·rename_i fn Wg
  simp only[Bool.and_eq_true,Bool.not_eq_true']at h
  have hn:fn.name≠"runtime.NumGoroutine":=by have:=h.2;simpa using this
  have hb:fn.body≠none:=by intro e;rw[e]at h;exact absurd h.1 (by simp)
  simp[callFunc,Wg,hn,hb]
 ·cases h
def gY (ρ:Env)(M:AH)(w:World)(K:AV→AH→Prop)(Kp:AV→AH→Prop)(e:Ending)(w':World):Prop:=
 ∃ρ' M',aR ρ' M' w'∧Ext ρ M w ρ' M' w'∧match e with
  | .returned v=>∃r,v=r.c ρ'∧r.ok ρ'∧K r M'
  | .panicked ch=>∃r,ch=[{v:=r.c ρ',recovered:=false}]∧r.ok ρ'∧Kp r M'
  | .outgrown=>False
@[irreducible] def aa (P:Program)(g:Nat)(args:List AV)(M:AH)(K:AV→AH→Prop)(Kp:AV→AH→Prop):Prop:=
  n9 P g=true∧∀ρ w,aR ρ M w→AV.dE ρ args→Calls P g (AV.cl ρ args).toArray w (gY ρ M w K Kp)
@[irreducible] def aK (P:Program)(l:Nat)(args:List AV)(M:AH)(K:AV→AH→Prop)(Kp:AV→AH→Prop):Prop:=
  ∀ρ w,aR ρ M w→AV.dE ρ args→∃f tmps as bd,(Instr.yield l (AV.cl ρ args).toArray).run P w=.ok (.round l f tmps as bd) w∧∀r,RoundIn (FW r) 0 P l f tmps as bd w (gY ρ M w K Kp)
def GJ (P:Program)(T:List TI)(wr:Bool)(M:AH)(e:Operand→AV)(o:Op)(K:AV→AH→Prop)(Kp:AV→AH→Prop):Prop:=
 match o with
 | .store t a v=>Bt T M t (e a) (e v) fun M'=>K (.aL []) M'
 | .load t a=>pV T M t (e a) fun v=>K v M
 | .alloc t=>DM T M t K
 | .box t x=>QJ M (e x) K
 | .buildSlice t len parts=>eZ T M t len (parts.toList.map (·.1)) (parts.toList.map fun x=>e x.2) K
 | .makeSlice t l c=>fC T M t (e l) (e c) K
 | .call ⟨.builtin .append,args,iq⟩=>match args.toList,iq.toList with
   |[d,x],[tS,tX]=>match B0 T tX with
    |true=>uY T M tS (e d) (e x) K
    |false=>yU T M tS tX (e d) (e x) K
   |_,_=>False
 | .call ⟨.builtin .copy,args,iq⟩=>match args.toList,iq.toList with
   |[d,x],[tD,tS]=>Jv T M tD tS (e d) (e x) K
   |_,_=>False
 | .call ⟨.builtin .len,args,iq⟩=>match args.toList,iq.toList with
   |[x],[t]=>match e x with
    | .mp i g=>nu T M t (.mp i g) fun v=>K v M
    |_=>iE T wr M e (.call ⟨.builtin .len,args,iq⟩) fun v=>K v M
   |_,_=>False
 | .makeMap t none=>tH T M t K
 | .lookup t x ix ok=>wH T M t (e x) (e ix) ok fun v=>K v M
 | .mapUpdate t m k x=>Kh T M t (e m) (e k) (e x) fun M'=>K (.aL []) M'
 | .insert t m k x=>Kh T M t (e m) (e k) (e x) fun M'=>K (.aL []) M'
 | .call ⟨.value f,args,_⟩=>match e f with
   | .fn (.func g) first cap=>aa P g (first++args.toList.map e++cap) M K Kp
   | .fn (.yield l) [] []=>aK P l (args.toList.map e) M K Kp
   |_=>False
 | .call ⟨.invoke recv name,args,_⟩=>match e recv with
   | .ja t v=>xv P T M t name v fun g r=>aa P g (r::args.toList.map e) M K Kp
   |_=>False
 | .panic x=>match e x with
   | .ja t v=>Kp (.ja t v) M
   |_=>False
 | .convert src dst x=>match e x with
   | .ns=>om T M src dst .ns fun v=>K v M
   | .sl i g off n c=>match Nat.beq src dst with
     |true=>xP T M src dst i g off n c K
     |false=>om T M src dst (.sl i g off n c) fun v=>K v M
   | .str s=>match Iv T src dst with
     |true=>CB T M src dst s K
     |false=>iE T wr M e (.convert src dst x) fun v=>K v M
   |_=>iE T wr M e (.convert src dst x) fun v=>K v M
 |o=>iE T wr M e o fun v=>K v M
theorem uQ {P:Program}{f:FuncId}{args:Array Value}{w:World}{R:Ending→World→Prop}(r:Option Nat)(n:Nat)(h:Calls P f args w R):CallsIn (FW r) n P f args w R:=
 ⟨trivial,fun cs _=>let⟨e,w',fr,hr,s,x⟩:=h cs;⟨e,w',fr,hr,comesIn_wide.2 s,x⟩⟩
section
variable{P:Program}{T:List TI}{r:Option Nat}{Q:Exit→Act→World→Prop}
theorem yJ {ρ:Env}{e:Operand→AV}{v:Operand→Value}(he:Ux ρ e v)(l:List Operand):l.map v=AV.cl ρ (l.map e)∧AV.dE ρ (l.map e):=by
 constructor
 ·rw[AV.aW,List.map_map]
  exact List.map_congr_left fun z _=>(he z).1
 ·rw[AV.aH]
  intro z hz
  obtain⟨y,_,rfl⟩:=List.mem_map.1 hz
  exact(he y).2
theorem iH {ρ:Env}{l l':List AV}(h:AV.dE ρ l)(h':AV.dE ρ l'):AV.dE ρ (l++l'):=by
 rw[AV.aH]at*
 intro v hv
 rcases List.mem_append.1 hv with hv|hv
 ·exact h v hv
 ·exact h' v hv
theorem fJ (ρ:Env)(l l':List AV):AV.cl ρ (l++l')=AV.cl ρ l++AV.cl ρ l':=by simp[AV.aW]
set_option maxHeartbeats 1000000 in
theorem uA (hT:ao P T){wr:Bool}{M:AH}{e:Operand→AV}{o:Oper}{K Kp:AV→AH→Prop}{ρ:Env}{w:World}{act:Act}(hs:aR ρ M w)(he:Ux ρ e act.eval)
 (h:GJ P T wr M e o.op K Kp){K':Act→World→Prop}
 (hK:∀rv M' ρ' w',K rv M'→rv.ok ρ'→aR ρ' M' w'→Ext ρ M w ρ' M' w'→K' (act.put o.dst (rv.c ρ')) w')
 (hP:∀rv M' ρ' w',Kp rv M'→rv.ok ρ'→aR ρ' M' w'→Ext ρ M w ρ' M' w'→Q (.panic [{v:=rv.c ρ',recovered:=false}]) act w'):
 o.uponIn (FW r) 0 P act K' Q ((execOp act.eval o).run P w):=by
 obtain⟨dst,op,ty,pos,after,guard⟩:=o
 simp only at h hK
 have val:∀{s:Sem Value}{v M' ρ' w'},s.run P w=.ok (v.c ρ') w'→K v M'→v.ok ρ'→aR ρ' M' w'→Ext ρ M w ρ' M' w'→
  Oper.uponIn (FW r) 0 P {dst,op,type:=ty,pos,after,guard} act K' Q ((do pure (.value (←s)):Sem Next).run P w):=by
  intro s v M' ρ' w' h1 h2 h3 h4 h5
  rw[show(do pure (.value (←s)):Sem Next).run P w=.ok (.value (v.c ρ')) w' by simp[h1]]
  exact hK v M' ρ' w' h2 h3 h4 h5
 unfold GJ at h
 split at h
 ·rename_i t a v
  obtain⟨M',w',h1,h2,h3,h4⟩:=xH (P:=P) hT hs (he v).2 h
  rw[←(he a).1,←(he v).1]at h1
  have:(execOp act.eval {dst,op:=.store t a v,type:=ty,pos,after,guard}).run P w=.ok .skip w':=by simp[execOp,h1]
  rw[this]
  exact hK (.aL []) M' ρ w' h2 trivial h3 h4
 ·rename_i t a
  obtain⟨v,h1,h2,h3⟩:=fW (P:=P) hT hs.known (hs.id _) h
  have h4:=h3 w (hs.id _)
  rw[←(he a).1]at h4
  exact val h4 h1 h2 hs (Ext.refl _ _ _)
 ·rename_i t
  obtain⟨v,M',ρ',w',h1,h2,h3,h4,h5⟩:=yV (P:=P) hT hs h
  exact val h1 h2 h3 h4 h5
 ·rename_i t x
  obtain⟨v,M',ρ',w',h1,h2,h3,h4,h5⟩:=CC (P:=P) (t:=t) hs (he x).2 h
  rw[←(he x).1]at h1
  exact val h1 h2 h3 h4 h5
 ·rename_i t len parts
  obtain⟨v,M',ρ',w',h1,h2,h3,h4,h5⟩:=p7 (P:=P) hT hs (by rw[AV.aH];intro z hz;obtain⟨y,_,rfl⟩:=List.mem_map.1 hz;exact(he y.2).2) h
  have e1:(parts.map fun(i,x)=>(i,act.eval x))=((parts.toList.map (·.1)).zip ((parts.toList.map fun x=>e x.2).map (AV.c ρ))).toArray:=by
   apply Array.toList_inj.1
   rw[Array.toList_map,List.toList_toArray,List.map_map]
   have:∀l:List (Nat×Operand),l.map (fun(i,x)=>(i,act.eval x))=(l.map (·.1)).zip (l.map ((AV.c ρ)∘fun x=>e x.2)):=by
    intro l
    induction l with
    |nil=>rfl
    |cons p l ih=>simp[ih,(he p.2).1]
   exact this _
  rw[←e1]at h1
  exact val h1 h2 h3 h4 h5
 ·rename_i t l c
  obtain⟨v,M',ρ',w',h1,h2,h3,h4,h5⟩:=qG (P:=P) hT hs h
  rw[←(he l).1,←(he c).1]at h1
  exact val h1 h2 h3 h4 h5
 ·rename_i args iq
  split at h
  ·rename_i d x tS tX Ci Bf
   obtain rfl:args=#[d,x]:=by apply Array.toList_inj.1;simpa using Ci
   obtain rfl:iq=#[tS,tX]:=by apply Array.toList_inj.1;simpa using Bf
   split at h
   ·rename_i hX
    obtain⟨v,M',ρ',w',h1,h2,h3,h4,h5⟩:=uX (P:=P) (ty:=ty) hT hs hX h
    rw[←(he d).1,←(he x).1]at h1
    have:=val h1 h2 h3 h4 h5
    simpa[execOp,resolve,invoke,builtin]using this
   ·obtain⟨v,M',ρ',w',h1,h2,h3,h4,h5⟩:=vD (P:=P) (ty:=ty) hT hs (he d).2 h
    rw[←(he d).1,←(he x).1]at h1
    have:=val h1 h2 h3 h4 h5
    simpa[execOp,resolve,invoke,builtin]using this
  ·exact h.elim
 ·rename_i args iq
  split at h
  ·rename_i d x tD tS Ci Bf
   obtain rfl:args=#[d,x]:=by apply Array.toList_inj.1;simpa using Ci
   obtain rfl:iq=#[tD,tS]:=by apply Array.toList_inj.1;simpa using Bf
   obtain⟨v,M',w',h1,h2,h3,h4,h5⟩:=AM (P:=P) (ty:=ty) hT hs h
   rw[←(he d).1,←(he x).1]at h1
   have:=val h1 h2 h3 h4 h5
   simpa[execOp,resolve,invoke,builtin]using this
  ·exact h.elim
 ·rename_i args iq
  split at h
  ·rename_i x t Ci Bf
   obtain rfl:args=#[x]:=by apply Array.toList_inj.1;simpa using Ci
   obtain rfl:iq=#[t]:=by apply Array.toList_inj.1;simpa using Bf
   split at h
   ·rename_i i g hx
    obtain⟨v,h1,h2,_,h3⟩:=n6 (P:=P) (ty:=ty) hT hs.known h
    have h4:=h3 w (hs.id _)
    rw[←hx,←(he x).1]at h4
    have:=val h4 h1 h2 hs (Ext.refl _ _ _)
    simpa[execOp,resolve,invoke,builtin]using this
   ·obtain⟨v,h1,h2,h3⟩:=eU (P:=P) (o:={dst,op:=.call ⟨.builtin .len,#[x],#[t]⟩,type:=ty,pos,after,guard}) hT hs.known he h
    rw[h3 w]
    exact hK v M ρ w h1 h2 hs (Ext.refl _ _ _)
  ·exact h.elim
 ·rename_i t
  obtain⟨v,M',ρ',w',h1,h2,h3,h4,h5⟩:=tG (P:=P) hT hs h
  exact val h1 h2 h3 h4 h5
 ·rename_i t x ix ok
  obtain⟨v,h1,h2,_,h3⟩:=rr (P:=P) hT hs.known (hs.id _) h
  have h4:=h3 w (hs.id _)
  rw[←(he x).1,←(he ix).1]at h4
  exact val h4 h1 h2 hs (Ext.refl _ _ _)
 ·rename_i t m k x
  obtain⟨M',w',h1,h2,h3,h4⟩:=sE (P:=P) hT hs (he x).2 h
  rw[←(he m).1,←(he k).1,←(he x).1]at h1
  have:(execOp act.eval {dst,op:=.mapUpdate t m k x,type:=ty,pos,after,guard}).run P w=.ok .skip w':=by simp[execOp,h1]
  rw[this]
  exact hK (.aL []) M' ρ w' h2 trivial h3 h4
 ·rename_i t m k x
  obtain⟨M',w',h1,h2,h3,h4⟩:=sE (P:=P) hT hs (he x).2 h
  rw[←(he m).1,←(he k).1,←(he x).1]at h1
  have:(execOp act.eval {dst,op:=.insert t m k x,type:=ty,pos,after,guard}).run P w=.ok .skip w':=by simp[execOp,h1]
  rw[this]
  exact hK (.aL []) M' ρ w' h2 trivial h3 h4
 ·rename_i f args iq
  split at h
  ·rename_i g first cap hf
   unfold aa at h
   obtain⟨hg,h⟩:=h
   have Bl:=(he f).1
   have wS:=(he f).2
   rw[hf]at Bl wS
   simp only[AV.ok]at wS
   obtain⟨e1,o1⟩:=yJ he args.toList
   have lE:=h ρ w hs (iH (iH wS.1 o1) wS.2)
   rw[fJ,fJ,←e1]at lE
   have aQ:(execOp act.eval {dst,op:=.call ⟨.value f,args,iq⟩,type:=ty,pos,after,guard}).run P w=.ok (.enter g (AV.cl ρ first++args.toList.map act.eval++AV.cl ρ cap).toArray) w:=by
    have e2:((AV.cl ρ first).toArray++args.map act.eval++(AV.cl ρ cap).toArray)=(AV.cl ρ first++args.toList.map act.eval++AV.cl ρ cap).toArray:=by
     apply Array.toList_inj.1;simp
    simp only[execOp,resolve,Sem.run_bind,Bl,AV.c,Deferred.ofValue,Sem.run_pure,Result.andThen_ok,invoke]
    rw[e2]
    exact nD hg _ w
   rw[aQ]
   refine⟨(fun h=>by cases h),CallsIn.mono (uQ r _ lE) fun en w' NB=>?_⟩
   obtain⟨ρ',M',h1,h2,h3⟩:=NB
   cases en with
   |returned v=>obtain⟨rv,rfl,h4,h5⟩:=h3;exact hK rv M' ρ' w' h5 h4 h1 h2
   |panicked ch=>obtain⟨rv,rfl,h4,h5⟩:=h3;exact hP rv M' ρ' w' h5 h4 h1 h2
   |outgrown=>exact h3.elim
  ·rename_i l hf
   unfold aK at h
   have Bl:=(he f).1
   rw[hf]at Bl
   obtain⟨e1,o1⟩:=yJ he args.toList
   obtain⟨g,tmps,as,bd,hy,PN⟩:=h ρ w hs o1
   rw[←e1]at hy
   have aQ:(execOp act.eval {dst,op:=.call ⟨.value f,args,iq⟩,type:=ty,pos,after,guard}).run P w=.ok (.round l g tmps as bd) w:=by
    have e2:(#[]++args.map act.eval:Array Value)=(args.toList.map act.eval).toArray:=by
     apply Array.toList_inj.1;simp
    simp only[execOp,resolve,Sem.run_bind,Bl,AV.c,AV.cl,Deferred.ofValue,Sem.run_pure,Result.andThen_ok,invoke]
    rw[e2];exact hy
   rw[aQ]
   refine⟨(fun h=>by cases h),RoundIn.mono (PN r) fun en w' NB=>?_⟩
   obtain⟨ρ',M',h1,h2,h3⟩:=NB
   cases en with
   |returned v=>obtain⟨rv,rfl,h4,h5⟩:=h3;exact hK rv M' ρ' w' h5 h4 h1 h2
   |panicked ch=>obtain⟨rv,rfl,h4,h5⟩:=h3;exact hP rv M' ρ' w' h5 h4 h1 h2
   |outgrown=>exact h3.elim
  ·exact h.elim
 ·rename_i recv name args iq
  split at h
  ·rename_i t v hx
   have IA:=(he recv).1
   have R5:v.ok ρ:=by have:=(he recv).2;rw[hx]at this;exact this
   rw[hx]at IA
   simp only[AV.c]at IA
   obtain⟨g,Vd,h,YQ,SQ⟩:=Bc hT hs R5 h
   unfold aa at h
   obtain⟨hg,h⟩:=h
   obtain⟨e1,o1⟩:=yJ he args.toList
   have lE:=h ρ w hs ⟨YQ,o1⟩
   simp only[AV.cl,←e1]at lE
   have aQ:(execOp act.eval {dst,op:=.call ⟨.invoke recv name,args,iq⟩,type:=ty,pos,after,guard}).run P w=.ok (.enter g (Vd.c ρ::args.toList.map act.eval).toArray) w:=by
    have e2:((#[act.eval recv]++args.map act.eval).extract 1 (#[act.eval recv]++args.map act.eval).size)=args.map act.eval:=by
     apply Array.toList_inj.1;simp
     exact List.take_of_length_le (by simp)
    have e3:(#[Vd.c ρ]++args.map act.eval)=(Vd.c ρ::args.toList.map act.eval).toArray:=by
     apply Array.toList_inj.1;simp
    have e4:(#[act.eval recv]++args.map act.eval)[0]?=some (act.eval recv):=by rw[←Array.getElem?_toList];simp
    have e5:(execOp act.eval {dst,op:=.call ⟨.invoke recv name,args,iq⟩,type:=ty,pos,after,guard}).run P w=(invoke (.fn (.method name) #[]) (#[act.eval recv]++args.map act.eval)).run P w:=rfl
    rw[e5]
    simp only[invoke]
    cases h0:(#[act.eval recv]++args.map act.eval)[0]? with
    |none=>rw[e4]at h0;cases h0
    |some Xp=>
    rw[e4]at h0
    cases h0
    simp only[e2]
    rw[IA,SQ,e3]
    exact nD hg _ w
   rw[aQ]
   refine⟨(fun h=>by cases h),CallsIn.mono (uQ r _ lE) fun en w' NB=>?_⟩
   obtain⟨ρ',M',h1,h2,h3⟩:=NB
   cases en with
   |returned v=>obtain⟨rv,rfl,h4,h5⟩:=h3;exact hK rv M' ρ' w' h5 h4 h1 h2
   |panicked ch=>obtain⟨rv,rfl,h4,h5⟩:=h3;exact hP rv M' ρ' w' h5 h4 h1 h2
   |outgrown=>exact h3.elim
  ·exact h.elim
 ·rename_i x
  split at h
  ·rename_i t v hx
   have IA:=(he x).1
   rw[hx]at IA
   have:(execOp act.eval {dst,op:=.panic x,type:=ty,pos,after,guard}).run P w=.halt (.panic ((AV.ja t v).c ρ)) w:=by
    simp[execOp,IA,AV.c,Instr.panic]
   rw[this]
   exact hP (.ja t v) M ρ w h (by rw[←hx];exact(he x).2) hs (Ext.refl _ _ _)
  ·exact h.elim
 ·rename_i src Ti x
  split at h
  ·rename_i hx
   obtain⟨v,h1,h2,_,h3⟩:=kB (P:=P) hT hs.known h
   have h4:=h3 w (hs.id _)
   rw[←hx,←(he x).1]at h4
   exact val h4 h1 h2 hs (Ext.refl _ _ _)
  ·rename_i i g off n c hx
   split at h
   ·obtain⟨v,M',ρ',w',h1,h2,h3,h4,h5⟩:=vh (P:=P) hT hs h
    rw[←hx,←(he x).1]at h1
    exact val h1 h2 h3 h4 h5
   ·obtain⟨v,h1,h2,_,h3⟩:=kB (P:=P) hT hs.known h
    have h4:=h3 w (hs.id _)
    rw[←hx,←(he x).1]at h4
    exact val h4 h1 h2 hs (Ext.refl _ _ _)
  ·rename_i s hx
   split at h
   ·obtain⟨v,M',ρ',w',h1,h2,h3,h4,h5⟩:=yL (P:=P) hT hs h
    have IA:=(he x).1
    rw[hx]at IA
    simp only[AV.c]at IA
    rw[←IA]at h1
    exact val h1 h2 h3 h4 h5
   ·obtain⟨v,h1,h2,h3⟩:=eU (P:=P) (o:={dst,op:=.convert src Ti x,type:=ty,pos,after,guard}) hT hs.known he h
    rw[h3 w]
    exact hK v M ρ w h1 h2 hs (Ext.refl _ _ _)
  ·obtain⟨v,h1,h2,h3⟩:=eU (P:=P) (o:={dst,op:=.convert src Ti x,type:=ty,pos,after,guard}) hT hs.known he h
   rw[h3 w]
   exact hK v M ρ w h1 h2 hs (Ext.refl _ _ _)
 ·obtain⟨v,h1,h2,h3⟩:=eU (P:=P) (o:={dst,op,type:=ty,pos,after,guard}) hT hs.known he h
  rw[h3 w]
  exact hK v M ρ w h1 h2 hs (Ext.refl _ _ _)
end
def k9 (n:Nat)(ops:Array Oper)(o:Oper)(a:AA)(run skip:AA→Prop):Prop:=
 match o.guard with
 |none=>run a
 |some (j,want)=>match ops[j]? with
  |some oj=>match oj.dst with
   |some t=>match a t with
    | .tt=>match want with
      |true=>run a
      |false=>skip a
    | .ff=>match want with
      |true=>skip a
      |false=>run a
    | .bo x=>match want with
      |true=>(x=true→run (a.put n (some t) .tt))∧(x=false→skip (a.put n (some t) .ff))
      |false=>(x=true→skip (a.put n (some t) .tt))∧(x=false→run (a.put n (some t) .ff))
    | .aL []=>skip a
    |_=>False
   |none=>False
  |none=>False
def dg (l:List Nat)(t:Option Nat):Bool:=
 match t with
 |none=>false
 |some t=>match l with
  |[]=>false
  |x::l=>Nat.beq x t||dg l (some t)
def lX (P:Program)(T:List TI)(n:Nat)(W:List Nat)(ops:Array Oper)(o:Oper)(a:AA)(M:AH)(K:AA→AH→Prop)(Kp:AV→AH→Prop):Prop:=
 bq (cn o.op) (k9 n ops o a (fun a=>GJ P T (dg W o.dst) M (pc a) o.op (fun v M'=>K (a.put n o.dst v) M') Kp) (fun a=>K (a.put n o.dst (.aL [])) M))
section
variable{P:Program}{T:List TI}{r:Option Nat}{Q:Exit→Act→World→Prop}
theorem og {ρ:Env}{D:List Deferred}{n:Nat}{a:AA}{act:Act}(h:bt ρ D n a act){ops:Array Oper}{j t:Nat}{oj:Oper}(hj:ops[j]?=some oj)(hd:oj.dst=some t){b:Bool}(hb:(a t).c ρ=.bool b):yielded ops act.tmps j=some b:=by
 have hg:=h.get t
 rw[hb]at hg
 have:act.tmps[t]?=some (.bool b):=by
  rw[Array.getD_eq_getD_getElem?]at hg
  cases hh:act.tmps[t]? with
  |none=>rw[hh]at hg;simp[undef]at hg
  |some v=>rw[hh]at hg;simpa using hg
 simp[yielded,hj,hd,this]
theorem k8 {ρ:Env}{D:List Deferred}{n:Nat}{a:AA}{act:Act}(h:bt ρ D n a act){ops:Array Oper}{o:Oper}{run skip:AA→Prop}(hg:k9 n ops o a run skip):
 ∃a',bt ρ D n a' act∧((Region.wanted o (yielded ops act.tmps)=true∧run a')∨(Region.wanted o (yielded ops act.tmps)=false∧skip a')):=by
 have same:∀(t:Nat)(x b:Bool)(v:AV),a t=.bo x→x=b→v.c ρ=.bool b→v.ok ρ→bt ρ D n (a.put n (some t) v) act:=by
  intro t x b v ha hx hv aA
  have h1:=h.put (some t) aA
  have:act.put (some t) (v.c ρ)=act:=by
   have Gs:=h.get t
   rw[ha]at Gs
   simp only[AV.c,hx]at Gs
   rw[hv]
   cases act with
   |mk tmps defers=>
    simp only[Act.put,Act.mk.injEq,and_true]
    apply Array.ext (by simp)
    intro i h1 h2
    by_cases hi:t=i
    ·subst hi
     simp only at Gs
     rw[Array.getElem_setIfInBounds_self]
     rw[Array.getD_eq_getD_getElem?,Array.getElem?_eq_getElem h2]at Gs
     exact Gs.symm
    ·rw[Array.getElem_setIfInBounds_ne _ hi]
  rw[this]at h1
  exact h1
 unfold k9 at hg
 unfold Region.wanted
 split at hg
 ·rename_i Qe
  exact⟨a,h,.inl ⟨by rw[Qe],hg⟩⟩
 ·rename_i j want Qe
  rw[Qe]
  simp only
  split at hg
  ·rename_i oj u4
   split at hg
   ·rename_i t UU
    split at hg
    ·rename_i fu
     have hy:=og h u4 UU (b:=true) (by rw[fu];rfl)
     rw[hy]
     split at hg
     ·exact⟨a,h,.inl ⟨rfl,hg⟩⟩
     ·exact⟨a,h,.inr ⟨rfl,hg⟩⟩
    ·rename_i fu
     have hy:=og h u4 UU (b:=false) (by rw[fu];rfl)
     rw[hy]
     split at hg
     ·exact⟨a,h,.inr ⟨rfl,hg⟩⟩
     ·exact⟨a,h,.inl ⟨rfl,hg⟩⟩
    ·rename_i x fu
     have hy:=og h u4 UU (b:=x) (by rw[fu];rfl)
     rw[hy]
     split at hg
     ·cases x with
      |true=>exact⟨_,same t _ true .tt fu rfl rfl trivial,.inl ⟨rfl,hg.1 rfl⟩⟩
      |false=>exact⟨_,same t _ false .ff fu rfl rfl trivial,.inr ⟨rfl,hg.2 rfl⟩⟩
     ·cases x with
      |true=>exact⟨_,same t _ true .tt fu rfl rfl trivial,.inr ⟨rfl,hg.1 rfl⟩⟩
      |false=>exact⟨_,same t _ false .ff fu rfl rfl trivial,.inl ⟨rfl,hg.2 rfl⟩⟩
    ·rename_i fu
     refine⟨a,h,.inr ⟨?_,hg⟩⟩
     have Gs:=h.get t
     rw[fu]at Gs
     have hy:yielded ops act.tmps j=none:=by
      simp only[yielded,u4,Option.bind_some,UU]
      cases hx:act.tmps[t]? with
      |none=>rfl
      |some v=>
       rw[Array.getD_eq_getD_getElem?,hx]at Gs
       simp only[Option.getD_some,AV.c,AV.cl]at Gs
       rw[Gs]
     rw[hy];rfl
    ·exact hg.elim
   ·exact hg.elim
  ·exact hg.elim
theorem dK (hT:ao P T){n:Nat}{W:List Nat}{ops:Array Oper}{o:Oper}{a:AA}{M:AH}{K:AA→AH→Prop}{Kp:AV→AH→Prop}{ρ:Env}{D:List Deferred}{w:World}{act:Act}(hs:aR ρ M w)(ha:bt ρ D n a act)
 (h:lX P T n W ops o a M K Kp){K':Act→World→Prop}
 (hK:∀a' aG M' ρ' w',K a' M'→bt ρ' D n a' aG→aR ρ' M' w'→Ext ρ M w ρ' M' w'→K' aG w')
 (hP:∀rv M' ρ' w',Kp rv M'→rv.ok ρ'→aR ρ' M' w'→Ext ρ M w ρ' M' w'→Q (.panic [{v:=rv.c ρ',recovered:=false}]) act w'):
 cn o.op=true∧vq r P ops Q o K' act w:=by
 unfold lX at h
 replace h:=aq h
 obtain⟨hp,h⟩:=h
 refine⟨hp,?_⟩
 obtain⟨a',qS,h⟩:=k8 ha h
 unfold vq
 rcases h with⟨hw,h⟩|⟨hw,h⟩
 ·rw[if_pos hw]
  exact uA hT hs qS.ev h (fun rv M' ρ' w' h1 h2 h3 h4=>hK _ _ M' ρ' w' h1 ((qS.ext h4.env).put o.dst h2) h3 h4) hP
 ·rw[if_neg (by rw[hw];simp)]
  exact hK _ _ M ρ w h (qS.put o.dst (v:=.aL []) trivial) hs (Ext.refl _ _ _)
def ql (P:Program)(T:List TI)(n:Nat)(W:List Nat)(ops:Array Oper)(Kp:AV→AH→Prop)(K:AA→AH→Prop):List Oper→AA→AH→Prop
 |[],a,M=>K a M
 |o::l,a,M=>lX P T n W ops o a M (fun a M=>ql P T n W ops Kp K l a M) Kp
theorem sC {i:Nat}{l:List Nat}{ops:Array Oper}{o:Oper}{act:Act}{w:World}(hi:ops[i]?=some o)(hp:cn o.op=true)(h:vq r P ops Q o (wpOpsIn (FW r) 0 P ops Q l) act w):wpOpsIn (FW r) 0 P ops Q (i::l) act w:=by
 rw[wpOpsIn_cons]
 exact vJ hi hp h
theorem ou (hT:ao P T){n:Nat}{W:List Nat}{ops:Array Oper}{K:AA→AH→Prop}{Kp:AV→AH→Prop}{D:List Deferred}{ρ0:Env}{M0:AH}{w0:World}:
 ∀(l:List Oper)(k:Nat)(a:AA)(M:AH)(ρ:Env)(w:World)(act:Act),ops.toList.drop k=l→aR ρ M w→Ext ρ0 M0 w0 ρ M w→bt ρ D n a act→ql P T n W ops Kp K l a M→
  (∀a' aG M' ρ' w',K a' M'→bt ρ' D n a' aG→aR ρ' M' w'→Ext ρ0 M0 w0 ρ' M' w'→Q .normal aG w')→
  (∀rv M' ρ' w' aG,aG.defers=D→Kp rv M'→rv.ok ρ'→aR ρ' M' w'→Ext ρ0 M0 w0 ρ' M' w'→Q (.panic [{v:=rv.c ρ',recovered:=false}]) aG w')→
  wpOpsIn (FW r) 0 P ops Q (List.range' k l.length) act w
 |[],k,a,M,ρ,w,act,_,hs,hE,ha,h,hK,hP=>hK a act M ρ w h ha hs hE
 |o::l,k,a,M,ρ,w,act,hl,hs,hE,ha,h,hK,hP=>by
  have hi:ops[k]?=some o:=by
   have:=congrArg (fun l=>l[0]?) hl
   simpa using this
  have P8:ops.toList.drop (k+1)=l:=by
   have:=congrArg List.tail hl
   simpa using this
  simp only[ql]at h
  have key:=dK (r:=r) (Q:=Q) (K':=wpOpsIn (FW r) 0 P ops Q (List.range' (k+1) l.length)) hT hs ha h
   (fun a' aG M' ρ' w' h1 h2 h3 h4=>ou hT l (k+1) a' M' ρ' w' aG P8 h3 (hE.trans h4) h2 h1 hK hP)
   (fun rv M' ρ' w' h1 h2 h3 h4=>hP rv M' ρ' w' act ha.defers h1 h2 h3 (hE.trans h4))
  rw[List.length_cons,List.range'_succ]
  exact sC hi key.1 key.2
end
end Go.Proofs.Ytibadaomjlkoaaa
open Go.RowKit
namespace Go.Proofs.Ytibadaomjlkoaaa
def AB (B:List Nat)(M M':AH):Prop:=∀b∈B,∀o,M[b]?=some o→M'[b]?=some o
def lF (B:List Nat)(M M':AH)(p:Prop):Prop:=
 match B with
 |[]=>p
 |b::B=>match M[b]? with
  |some o=>M'[b]?=some o∧lF B M M' p
  |none=>lF B M M' p
theorem lg {B:List Nat}{M M':AH}{p:Prop}(h:lF B M M' p):AB B M M'∧p:=by
 induction B with
 |nil=>exact⟨fun b hb=>absurd hb List.not_mem_nil,h⟩
 |cons x B ih=>
  simp only[lF]at h
  split at h
  ·rename_i o ho
   refine⟨fun b hb o' ue=>?_,(ih h.2).2⟩
   rcases List.mem_cons.1 hb with rfl|hb
   ·rw[ho]at ue;injection ue with ue;subst ue;exact h.1
   ·exact(ih h.2).1 b hb o' ue
  ·rename_i ho
   refine⟨fun b hb o' ue=>?_,(ih h).2⟩
   rcases List.mem_cons.1 hb with rfl|hb
   ·rw[ho]at ue;cases ue
   ·exact(ih h).1 b hb o' ue
theorem AB.trans {B:List Nat}{M M' lq:AH}(h:AB B M M')(h':AB B M' lq):AB B M lq:=fun b hb o ho=>h' b hb o (h b hb o ho)
def fx (P:Program)(T:List TI)(n:Nat)(W:List Nat)(ops:Array Oper)(Kp:AV→AH→Prop)(K:AA→AH→Prop)(B:List Nat):List Nat→List (Nat×Nat)→AA→AH→Prop
 |_,[],a,M=>K a M
 |sk,(i,md)::l,a,M=>match dg sk (some i)with
  |true=>fx P T n W ops Kp K B sk l a M
  |false=>match ops[i]? with
   |none=>False
   |some o=>match md with
    |0=>bq (cn o.op) (k9 n ops o a (fun a=>iE T (dg W o.dst) M (pc a) o.op fun v=>fx P T n W ops Kp K B sk l (a.put n o.dst v) M) (fun a=>fx P T n W ops Kp K B sk l (a.put n o.dst (.aL [])) M))
    |1=>bq (cn o.op) (k9 n ops o a (fun a=>match o.op with
      | .load t x=>bq (dg B (some (pc a x).id)) (pV T M t (pc a x) fun v=>fx P T n W ops Kp K B sk l (a.put n o.dst v) M)
      | .convert s d x=>bq (dg B (some (pc a x).id)) (om T M s d (pc a x) fun v=>fx P T n W ops Kp K B sk l (a.put n o.dst v) M)
      | .lookup t x ix ok=>bq (dg B (some (pc a x).id)) (wH T M t (pc a x) (pc a ix) ok fun v=>fx P T n W ops Kp K B sk l (a.put n o.dst v) M)
      | .call ⟨.builtin .len,args,iq⟩=>match args.toList,iq.toList with
        |[x],[t]=>bq (dg B (some (pc a x).id)) (nu T M t (pc a x) fun v=>fx P T n W ops Kp K B sk l (a.put n o.dst v) M)
        |_,_=>False
      |_=>False) (fun a=>fx P T n W ops Kp K B sk l (a.put n o.dst (.aL [])) M))
    |2=>lX P T n W ops o a M (fun a M'=>lF B M M' (fx P T n W ops Kp K B sk l a M')) Kp
    |3=>lX P T n W ops o a M (fun a M'=>fx P T n W ops Kp K B sk l a M') Kp
    |j+4=>match ops[j]? with
     |none=>False
     |some oj=>lX P T n W ops o a M (fun a M'=>lF B M M' (fx P T n W ops Kp K B sk l a M')) Kp∧lX P T n W ops oj a M (fun a M'=>lF B M M' (lX P T n W ops o a M' (fun a lq=>lF B M' lq (fx P T n W ops Kp K B (j::sk) l a lq)) Kp)) Kp
def gN (sk:List Nat)(l:List (Nat×Nat)):Nat:=(l.filter fun x=>!(dg sk (some x.1))).length
def oz (ops:Array Oper)(ds:List Nat):List Nat→List (Nat×Nat)→Array Bool→Bool
 |_,[],l=>Region.ready .any ops l==[]
 |sk,(i,md)::r,l=>match dg sk (some i)with
  |true=>oz ops ds sk r l
  |false=>(match md with
   |0=>Region.free .any ops l i&&(Region.ready .any ops l).contains i
   |1=>Region.free .any ops l i&&(Region.ready .any ops l).contains i&&ds.all fun d=>l.getD d true||waits ops i ops.size d
   |2=>(Region.ready .any ops l==[i])&&!(ds.contains i)
   |3=>(Region.ready .any ops l==[i])&&ds.contains i&&r.all (fun x=>!(x.2==1)&&!(x.2==2)&&!(Nat.ble 4 x.2))
   |j+4=>(Region.ready .any ops l==[i,j]||Region.ready .any ops l==[j,i])&&(!(ds.contains i)&&!(ds.contains j))&&(Region.ready .any ops (l.setIfInBounds j true)==[i])&&Nat.blt (gN (j::sk) r) (gN sk r)&&
     oz ops ds (j::sk) r ((l.setIfInBounds j true).setIfInBounds i true))&&oz ops ds sk r (l.setIfInBounds i true)
theorem nH {l:List Nat}{t:Nat}(h:dg l (some t)=true):t∈l:=by
 induction l with
 |nil=>simp[dg]at h
 |cons x l ih=>
  simp only[dg,Bool.or_eq_true]at h
  rcases h with h|h
  ·rw[Nat.eq_of_beq_eq_true h];exact List.mem_cons_self
  ·exact List.mem_cons_of_mem _ (ih h)
section
variable{r:Option Nat}{P:Program}{ops:Array Oper}{Q:Exit→Act→World→Prop}{S:World→Prop}{ds:List Nat}
theorem xr {i:Nat}{oi:Oper}{v:Value}(hi:ops[i]?=some oi)(hp:∀(i:Nat) o,ops[i]?=some o→cn o.op=true)
 (hQ:∀c a w,Q (.panic c) (a.put oi.dst v) w→Q (.panic c) a w):
 ∀(f:Nat)(l:Array Bool)(a:Act)(w:World),
  (∀j oj,ops[j]?=some oj→j≠i→l.getD j true=false→(∀e∈oj.after,Region.binds .any e=true→e.on≠i)→oi.apart ops oj=true)→
  i∈Region.ready .any ops l→YI P ops (fun _=>True) oi v a→
  anyS r P ops Q S ds f (l.setIfInBounds i true) (a.put oi.dst v) w→anyS r P ops Q S ds (f+1) l a w:=by
 intro f
 induction f with
 |zero=>
  intro l a w _ hr hy H
  refine⟨fun h=>(by rw[h]at hr;cases hr),fun j hj o ho=>?_⟩
  by_cases fE:j=i
  ·subst fE
   rw[hi]at ho;injection ho with ho;subst ho
   exact hy.vq trivial ⟨fun _=>.inl rfl,H⟩
  ·have:=ready_mono hj fE
   rw[H.1]at this
   cases this
 |succ f ih=>
  intro l a w jx hr hy H
  refine⟨fun h=>(by rw[h]at hr;cases hr),fun j hj oj u4=>?_⟩
  by_cases fE:j=i
  ·subst fE
   rw[hi]at u4;injection u4 with u4;subst u4
   exact hy.vq trivial ⟨fun _=>.inl rfl,H⟩
  ·have h1:=H.2 j (ready_mono hj fE) oj u4
   obtain⟨Ce,Yx,yr,hall⟩:=mem_ready.1 hj
   rw[u4]at yr;injection yr with yr;subst yr
   have Gr:=(mem_ready.1 hr).1
   have PY:∀e∈oj.after,Region.binds .any e=true→e.on≠i:=fun e he hb heq=>by
    have h1:=hall e he hb
    rw[heq]at h1
    rcases Nat.lt_or_ge i l.size with h'|h'
    ·simp[h']at Gr h1;rw[Gr]at h1;cases h1
    ·simp[Array.getElem?_eq_none h']at h1
   have h2:=Eo (jx j oj u4 fE Ce PY) (hp i oi hi) (hp j oj u4) hQ hy h1
   refine pN (fun a' w' h3=>⟨h3.2.1,ih (l.setIfInBounds j true) a' w' ?_ (ready_mono hr (Ne.symm fE)) h3.1 ?_⟩) h2
   ·intro k ok hk US jw rC
    refine jx k ok hk US ?_ rC
    by_cases IX:j=k
    ·subst IX;exact Ce
    ·rw[getD_set_ne true IX]at jw;exact jw
   ·rw[Array.setIfInBounds_comm _ _ fE]
    exact h3.2.2
theorem GV {l:Array Bool}{a:Act}{w:World}(hr:Region.ready .any ops l=[])(h:Q .normal a w):∀f,anyS r P ops Q S ds f l a w
 |0=>⟨hr,h⟩
 |_+1=>⟨fun _=>h,by rw[hr];simp⟩
theorem uZ {i f:Nat}{o:Oper}{l:Array Bool}{a:Act}{w:World}(hr:Region.ready .any ops l=[i])(hi:ops[i]?=some o)
 (h:vq r P ops Q o (fun a' w'=>(i∉ds→w'=w∨S w')∧anyS r P ops Q S ds f (l.setIfInBounds i true) a' w') a w):anyS r P ops Q S ds (f+1) l a w:=by
 refine⟨fun h=>(by rw[hr]at h;cases h),fun j hj o' ue=>?_⟩
 rw[hr]at hj
 obtain rfl:=List.mem_singleton.1 hj
 rw[hi]at ue;injection ue with ue;subst ue
 exact h
def SB (ρ0:Env)(M0:AH)(B:List Nat)(w:World):Prop:=∀b∈B,eQ ρ0 M0 b w
theorem nM {ρ0 ρ':Env}{M0 M':AH}{B:List Nat}{w0 w':World}(h0:SB ρ0 M0 B w0)(hs:aR ρ' M' w')(he:∀i g l,ρ0 i g=some l→ρ' i g=some l)(hB:AB B M0 M'):SB ρ0 M0 B w':=by
 intro b hb g own x q cQ hq
 have Me:slot M' b g=some (own,x):=by
  unfold slot at cQ⊢
  cases ho:M0[b]? with
  |none=>rw[ho]at cQ;cases cQ
  |some o=>rw[ho]at cQ;rw[hB b hb o ho];exact cQ
 exact(h0 b hb g own x q cQ hq).back he (hs.id b g own x q Me (he _ _ _ hq))
theorem SB.of {ρ:Env}{M:AH}{w:World}(h:aR ρ M w)(B:List Nat):SB ρ M B w:=fun b _=>h.id b
variable{T:List TI}
set_option maxHeartbeats 1000000 in
theorem bm (hT:ao P T){n:Nat}{W:List Nat}{K:AA→AH→Prop}{Kp:AV→AH→Prop}{B:List Nat}{D:List Deferred}{ρ0:Env}{M0:AH}{w0:World}
 (hp:∀(i:Nat) o,ops[i]?=some o→cn o.op=true)
 (hQ:∀c (a:Act) d v w,Q (.panic c) (a.put d v) w→Q (.panic c) a w):
 ∀(cm:List (Nat×Nat))(sk:List Nat)(l:Array Bool)(f:Nat)(a:AA)(M:AH)(ρ:Env)(w:World)(act:Act)(S:World→Prop),gN sk cm≤f→oz ops ds sk cm l=true→iY ops l→
  aR ρ M w→Ext ρ0 M0 w0 ρ M w→bt ρ D n a act→(cm.any (fun x=>x.2==1)=true→S w)→(∀w',S w'→SB ρ M B w')→(cm.any (fun x=>x.2==2||Nat.ble 4 x.2)=true→∀ρ' M' w',aR ρ' M' w'→(∀i g l,ρ i g=some l→ρ' i g=some l)→AB B M M'→S w')→fx P T n W ops Kp K B sk cm a M→
  (∀a' aG M' ρ' w',K a' M'→bt ρ' D n a' aG→aR ρ' M' w'→Ext ρ0 M0 w0 ρ' M' w'→Q .normal aG w')→
  (∀rv M' ρ' w' aG,aG.defers=D→Kp rv M'→rv.ok ρ'→aR ρ' M' w'→Ext ρ0 M0 w0 ρ' M' w'→Q (.panic [{v:=rv.c ρ',recovered:=false}]) aG w')→
  anyS r P ops Q S ds f l act w
 |[],sk,l,f,a,M,ρ,w,act,S,_,bR,_,hs,hE,ha,_,_,_,h,hK,hP=>by
  simp only[oz,beq_iff_eq]at bR
  exact GV bR (hK a act M ρ w h ha hs hE) f
 |(i,md)::cm,sk,l,f,a,M,ρ,w,act,S,hf,bR,hc,hs,hE,ha,hS,G6,EY,h,hK,hP=>by
  simp only[oz]at bR
  simp only[fx]at h
  cases PL:dg sk (some i)with
  |true=>
   rw[PL]at bR h
   exact bm hT hp hQ cm sk l f a M ρ w act S (by simpa[gN,PL]using hf) bR hc hs hE ha (fun hh=>hS (by simp only[List.any_cons,hh,Bool.or_true])) G6 (fun hh=>EY (by simp only[List.any_cons,hh,Bool.or_true])) h hK hP
  |false=>
  rw[PL]at bR h
  have hf0:gN sk cm+1≤f:=by simpa[gN,PL]using hf
  obtain⟨f,rfl⟩:∃f',f=f'+1:=⟨f-1,by omega⟩
  simp only[Bool.and_eq_true]at bR
  obtain⟨hm,bR⟩:=bR
  simp only at h
  split at h
  ·exact h.elim
  ·rename_i o hi
   have yv:gN sk cm≤f:=by omega
   have Qr:cm.any (fun x=>x.2==1)=true→S w:=fun hh=>hS (by simp only[List.any_cons,hh,Bool.or_true])
   have Ck:=fun(hh:cm.any (fun x=>x.2==2||Nat.ble 4 x.2)=true)=>EY (by simp only[List.any_cons,hh,Bool.or_true])
   split at h
   ·simp only[Bool.and_eq_true,List.contains_iff_mem]at hm
    have cB:i∈Region.ready .any ops l:=by simpa using hm.2
    replace h:=(aq h).2
    obtain⟨a',qS,h⟩:=k8 ha h
    rcases h with⟨hw,h⟩|⟨hw,h⟩
    ·obtain⟨v,h1,h2,h3⟩:=eU hT hs.known qS.ev h
     refine xr hi hp (fun c a w=>hQ c a o.dst _ w) f l act w (Region.free_spec hi hm.1) cB (.inl ⟨hw,fun w' _=>h3 w'⟩) ?_
     exact bm hT hp hQ cm sk _ f _ M ρ w _ S yv bR (hc.set cB) hs hE (qS.put o.dst h2) Qr G6 Ck h1 hK hP
    ·refine xr hi hp (fun c a w=>hQ c a o.dst _ w) f l act w (Region.free_spec hi hm.1) cB (.inr ⟨hw,rfl⟩) ?_
     exact bm hT hp hQ cm sk _ f _ M ρ w _ S yv bR (hc.set cB) hs hE (qS.put o.dst (v:=.aL []) trivial) Qr G6 Ck h hK hP
   ·simp only[Bool.and_eq_true,List.contains_iff_mem]at hm
    obtain⟨⟨jx,YR⟩,Zh⟩:=hm
    have cB:i∈Region.ready .any ops l:=by simpa using YR
    have Am:∀d∈ds,l.getD d true=false→waits ops i ops.size d=true:=fun d hd jw=>by
     have:=List.all_eq_true.1 Zh d hd
     rw[jw]at this
     simpa using this
    have S2:=hS (by simp)
    replace h:=(aq h).2
    obtain⟨a',qS,h⟩:=k8 ha h
    rcases h with⟨hw,h⟩|⟨hw,h⟩
    ·split at h
     ·rename_i t x r6
      replace h:=aq h
      obtain⟨Mu,h⟩:=h
      have jI:=nH Mu
      obtain⟨v,h1,h2,h3⟩:=fW (P:=P) hT hs.known (hs.id _) h
      have hx:=(qS.ev x)
      have aQ:∀w',S w'→(execOp act.eval o).run P w'=.ok (.value (v.c ρ)) w':=by
       intro w' PI
       have h4:=h3 w' (G6 w' PI _ jI)
       rw[←hx.1]at h4
       obtain⟨dst,op,ty,pos,after,guard⟩:=o
       simp only at r6
       subst r6
       simp[execOp,h4]
      refine ko hi hp (fun c a w=>hQ c a o.dst _ w) f l act w (Region.free_spec hi jx) hc Am cB (.inl ⟨hw,aQ⟩) S2 ?_
      exact bm hT hp hQ cm sk _ f _ M ρ w _ S yv bR (hc.set cB) hs hE (qS.put o.dst h2) Qr G6 Ck h1 hK hP
     ·rename_i t t' x r6
      replace h:=aq h
      obtain⟨Mu,h⟩:=h
      have jI:=nH Mu
      obtain⟨v,h1,h2,Nz,h3⟩:=kB (P:=P) hT hs.known h
      have hx:=(qS.ev x)
      have aQ:∀w',S w'→(execOp act.eval o).run P w'=.ok (.value (v.c ρ)) w':=by
       intro w' PI
       have h4:=h3 w' (G6 w' PI _ jI)
       rw[←hx.1]at h4
       obtain⟨dst,op,ty,pos,after,guard⟩:=o
       simp only at r6
       subst r6
       simp[execOp,h4]
      refine ko hi hp (fun c a w=>hQ c a o.dst _ w) f l act w (Region.free_spec hi jx) hc Am cB (.inl ⟨hw,aQ⟩) S2 ?_
      exact bm hT hp hQ cm sk _ f _ M ρ w _ S yv bR (hc.set cB) hs hE (qS.put o.dst h2) Qr G6 Ck h1 hK hP
     ·rename_i t x ix ok r6
      replace h:=aq h
      obtain⟨Mu,h⟩:=h
      have jI:=nH Mu
      obtain⟨v,h1,h2,Nz,h3⟩:=rr (P:=P) hT hs.known (hs.id _) h
      have hx:=(qS.ev x)
      have Q5:=(qS.ev ix)
      have aQ:∀w',S w'→(execOp act.eval o).run P w'=.ok (.value (v.c ρ)) w':=by
       intro w' PI
       have h4:=h3 w' (G6 w' PI _ jI)
       rw[←hx.1,←Q5.1]at h4
       obtain⟨dst,op,ty,pos,after,guard⟩:=o
       simp only at r6
       subst r6
       simp[execOp,h4]
      refine ko hi hp (fun c a w=>hQ c a o.dst _ w) f l act w (Region.free_spec hi jx) hc Am cB (.inl ⟨hw,aQ⟩) S2 ?_
      exact bm hT hp hQ cm sk _ f _ M ρ w _ S yv bR (hc.set cB) hs hE (qS.put o.dst h2) Qr G6 Ck h1 hK hP
     ·rename_i args iq r6
      split at h
      ·rename_i x t Ci Bf
       obtain rfl:args=#[x]:=by apply Array.toList_inj.1;simpa using Ci
       obtain rfl:iq=#[t]:=by apply Array.toList_inj.1;simpa using Bf
       replace h:=aq h
       obtain⟨Mu,h⟩:=h
       have jI:=nH Mu
       obtain⟨v,h1,h2,Nz,h3⟩:=n6 (P:=P) (ty:=o.type) hT hs.known h
       have hx:=(qS.ev x)
       have aQ:∀w',S w'→(execOp act.eval o).run P w'=.ok (.value (v.c ρ)) w':=by
        intro w' PI
        have h4:=h3 w' (G6 w' PI _ jI)
        rw[←hx.1]at h4
        obtain⟨dst,op,ty,pos,after,guard⟩:=o
        simp only at r6 h4
        subst r6
        simp[execOp,resolve,invoke,builtin,h4]
       refine ko hi hp (fun c a w=>hQ c a o.dst _ w) f l act w (Region.free_spec hi jx) hc Am cB (.inl ⟨hw,aQ⟩) S2 ?_
       exact bm hT hp hQ cm sk _ f _ M ρ w _ S yv bR (hc.set cB) hs hE (qS.put o.dst h2) Qr G6 Ck h1 hK hP
      ·exact h.elim
     ·exact h.elim
    ·refine ko hi hp (fun c a w=>hQ c a o.dst _ w) f l act w (Region.free_spec hi jx) hc Am cB (.inr ⟨hw,rfl⟩) S2 ?_
     exact bm hT hp hQ cm sk _ f _ M ρ w _ S yv bR (hc.set cB) hs hE (qS.put o.dst (v:=.aL []) trivial) Qr G6 Ck h hK hP
   ·simp only[Bool.and_eq_true,beq_iff_eq]at hm
    have cB:i∈Region.ready .any ops l:=by rw[hm.1];exact List.mem_singleton.2 rfl
    refine uZ hm.1 hi ?_
    refine(dK (r:=r) (Q:=Q) hT hs ha h ?_ ?_).2
    ·intro a' aG M' ρ' w' h1 h2 h3 h4
     replace h1:=lg h1
     have Cl:=hE.trans h4
     have EY:=EY (by simp)
     have Cj:=EY ρ' M' w' h3 h4.env h1.1
     refine⟨fun _=>.inr Cj,?_⟩
     refine gn (S:=fun u=>S u∧SB ρ' M' B u) (fun u hu=>hu.1) f _ _ _ ?_
     refine bm hT hp hQ cm sk _ f a' M' ρ' w' aG (fun u=>S u∧SB ρ' M' B u) yv bR (hc.set cB) h3 Cl h2 (fun _=>⟨Cj,SB.of h3 B⟩) (fun u hu=>hu.2) ?_ h1.2 hK hP
     intro _ gq lq u2 k1 k2 k3
     exact⟨EY gq lq u2 k1 (fun i g l e=>k2 i g l (h4.env i g l e)) (h1.1.trans k3),nM (SB.of h3 B) k1 k2 k3⟩
    ·intro rv M' ρ' w' h1 h2 h3 h4
     exact hP rv M' ρ' w' act ha.defers h1 h2 h3 (hE.trans h4)
   ·simp only[Bool.and_eq_true,beq_iff_eq]at hm
    obtain⟨⟨yZ,sq⟩,rC⟩:=hm
    have cB:i∈Region.ready .any ops l:=by rw[yZ];exact List.mem_singleton.2 rfl
    refine uZ yZ hi ?_
    refine(dK (r:=r) (Q:=Q) hT hs ha h ?_ ?_).2
    ·intro a' aG M' ρ' w' h1 h2 h3 h4
     have Cl:=hE.trans h4
     refine⟨fun hn=>absurd (by simpa using sq) hn,?_⟩
     have VV:cm.any (fun x=>x.2==1)=true→False:=by
      intro vy
      obtain⟨x,hx,B4⟩:=List.any_eq_true.1 vy
      have:=List.all_eq_true.1 rC x hx
      rw[B4]at this
      simp at this
     have VU:cm.any (fun x=>x.2==2||Nat.ble 4 x.2)=true→False:=by
      intro vy
      obtain⟨x,hx,B4⟩:=List.any_eq_true.1 vy
      have:=List.all_eq_true.1 rC x hx
      simp only[Bool.and_eq_true,Bool.not_eq_true']at this
      rw[this.1.2,this.2]at B4
      cases B4
     refine gn (S:=fun _=>False) (fun u hu=>hu.elim) f _ _ _ ?_
     exact bm hT hp hQ cm sk _ f a' M' ρ' w' aG (fun _=>False) yv bR (hc.set cB) h3 Cl h2 (fun vy=>VV vy) (fun u hu=>hu.elim) (fun vy=>(VU vy).elim) h1 hK hP
    ·intro rv M' ρ' w' h1 h2 h3 h4
     exact hP rv M' ρ' w' act ha.defers h1 h2 h3 (hE.trans h4)
   ·rename_i j
    split at h
    ·exact h.elim
    ·rename_i oj hj
     simp only[Bool.and_eq_true,Bool.or_eq_true,beq_iff_eq]at hm
     obtain⟨⟨⟨⟨yZ,sq,Cf⟩,XI⟩,dB⟩,VO⟩:=hm
     have Gj:gN (j::sk) cm<gN sk cm:=by simpa using dB
     have cB:i∈Region.ready .any ops l:=by rcases yZ with e|e<;>rw[e]<;>simp
     have Mh:j∈Region.ready .any ops l:=by rcases yZ with e|e<;>rw[e]<;>simp
     refine⟨fun h0=>(by rw[h0]at cB;cases cB),fun k hk ok aA=>?_⟩
     have mr:k=i∨k=j:=by rcases yZ with e|e<;>rw[e]at hk<;>simp at hk<;>omega
     rcases mr with rfl|rfl
     ·rw[hi]at aA;injection aA with aA;subst aA
      refine(dK (r:=r) (Q:=Q) hT hs ha h.1 ?_ ?_).2
      ·intro a' aG M' ρ' w' h1 h2 h3 h4
       replace h1:=lg h1
       have Cl:=hE.trans h4
       have EY:=EY (by simp)
       have Cj:=EY ρ' M' w' h3 h4.env h1.1
       refine⟨fun _=>.inr Cj,?_⟩
       refine gn (S:=fun u=>S u∧SB ρ' M' B u) (fun u hu=>hu.1) f _ _ _ ?_
       refine bm hT hp hQ cm sk _ f a' M' ρ' w' aG (fun u=>S u∧SB ρ' M' B u) yv bR (hc.set cB) h3 Cl h2 (fun _=>⟨Cj,SB.of h3 B⟩) (fun u hu=>hu.2) ?_ h1.2 hK hP
       intro _ gq lq u2 k1 k2 k3
       exact⟨EY gq lq u2 k1 (fun i g l e=>k2 i g l (h4.env i g l e)) (h1.1.trans k3),nM (SB.of h3 B) k1 k2 k3⟩
      ·intro rv M' ρ' w' h1 h2 h3 h4
       exact hP rv M' ρ' w' act ha.defers h1 h2 h3 (hE.trans h4)
     ·rw[hj]at aA;injection aA with aA;subst aA
      refine(dK (r:=r) (Q:=Q) hT hs ha h.2 ?_ ?_).2
      ·intro a' aG M' ρ' w' h1 h2 h3 h4
       replace h1:=lg h1
       have Cl:=hE.trans h4
       have EY:=EY (by simp)
       have Cj:=EY ρ' M' w' h3 h4.env h1.1
       refine⟨fun _=>.inr Cj,?_⟩
       have Zp:=hc.set Mh
       have Mi:i∈Region.ready .any ops (l.setIfInBounds k true):=by rw[XI];exact List.mem_singleton.2 rfl
       obtain⟨f,rfl⟩:∃f',f=f'+1:=⟨f-1,by omega⟩
       refine uZ XI hi ?_
       refine(dK (r:=r) (Q:=Q) hT h3 h2 h1.2 ?_ ?_).2
       ·intro Xi JP lq gq u2 g1 g2 g3 g4
        replace g1:=lg g1
        have S3:∀mR M1 w1,aR mR M1 w1→(∀i g l,ρ' i g=some l→mR i g=some l)→AB B M' M1→S w1∧SB ρ' M' B w1:=fun mR M1 w1 k1 k2 k3=>⟨EY mR M1 w1 k1 (fun i g l e=>k2 i g l (h4.env i g l e)) (h1.1.trans k3),nM (SB.of h3 B) k1 k2 k3⟩
        have S1:=S3 gq lq u2 g3 g4.env g1.1
        refine⟨fun _=>.inr S1.1,?_⟩
        refine gn (S:=fun u=>S u∧SB gq lq B u) (fun u hu=>hu.1) f _ _ _ ?_
        refine bm hT hp hQ cm (k::sk) _ f Xi lq gq u2 JP (fun u=>S u∧SB gq lq B u) (by omega) VO (Zp.set Mi) g3 (Cl.trans g4) g2 (fun _=>⟨S1.1,SB.of g3 B⟩) (fun u hu=>hu.2) ?_ g1.2 hK hP
        intro _ mR M1 w1 k1 k2 k3
        exact⟨(S3 mR M1 w1 k1 (fun i g l e=>k2 i g l (g4.env i g l e)) (g1.1.trans k3)).1,nM (SB.of g3 B) k1 k2 k3⟩
       ·intro rv lq gq u2 g1 g2 g3 g4
        exact hP rv lq gq u2 aG h2.defers g1 g2 g3 (Cl.trans g4)
      ·intro rv M' ρ' w' h1 h2 h3 h4
       exact hP rv M' ρ' w' act ha.defers h1 h2 h3 (hE.trans h4)
end
end Go.Proofs.Ytibadaomjlkoaaa
open Go.RowKit
namespace Go.Proofs.Ytibadaomjlkoaaa
theorem A5 {ρ:Env}{M:AH}{w w1:World}{x:ae}{c:Array Value}{e:TypeId}{r:Nat}(h:aR ρ M w)(hr:M[r]?=some .gone)(jw:∀g,ρ r g=none)(PG:w1.heap=w.heap)(Ca:w1.os=w.os)(iN:w1.tape=w.tape)(oL:w1.output=w.output)
 (EK:x.size≤c.size)(fu:∀k v,x.at k=some v→v.ok ρ∧c[k]?=some (v.c ρ))(qL:x.row=true:=by rfl):
 aR (jM ρ r 0 (some (w.heap.size,0))) (M.set r (.one true 0 x)) (w1.alloc (.cells c e))∧Ext ρ M w (jM ρ r 0 (some (w.heap.size,0))) (M.set r (.one true 0 x)) (w1.alloc (.cells c e)):=by
 have PK:(ρ r 0).isSome=false:=by rw[jw 0];rfl
 have a8:r<M.length:=(List.getElem?_eq_some_iff.1 hr).1
 have ep:w1.heap.size=w.heap.size:=by rw[PG]
 refine kF (i:=r) (g:=0) (x':=x) h (by simp) (fun i' eK=>List.getElem?_set_ne (Ne.symm eK)) (by simp[a8]) (dr PK) dG (fun g' hg=>by rw[jw g']at hg;cases hg) (fun b hb _=>?_) (by simp[PG]) Ca iN oL
  (.inl ⟨(w.heap.size,0),ar _ _ _ _,.mk' qL ⟨c,e,(0,0),?_,by show 0+x.size≤c.size;omega,fun k v hv=>?_,fun _=>rfl⟩,.inl (Nat.le_refl _)⟩)
 ·rw[Below.heap_alloc w1 _ b (by omega),PG]
 ·show(w1.alloc _).heap[w.heap.size]?=_
  rw[←ep];exact heap_alloc_new w1 _
 ·have h1:=fu k v hv
  refine⟨AV.cz (dr PK) v h1.1,?_⟩
  rw[AV.cX (dr PK) v h1.1]
  show c[0+k]?=_
  rw[Nat.zero_add]
  exact h1.2
theorem qf {ρ:Env}{r:Nat}{l:Option (Nat×Nat)}:∀i g,i≠r→jM ρ r 0 l i g=ρ i g:=by
 intro i g h
 unfold jM
 rw[if_neg (fun e=>h e.1)]
inductive Ef where
 |val (v:AV)
 |mk (l c:Nat)(x:ae)
def Ef.Pw:Ef→Bool
 | .mk ..=>true
 |_=>false
def Ef.v (r:Nat):Ef→AV
 | .val v=>v
 | .mk l c _=>.sl r 0 0 l c
def Ef.BO:Ef→List AO
 | .val _=>[]
 | .mk _ _ x=>[.one true 0 x]
theorem uV {P:Program}{T:List TI}(hT:ao P T){M:AH}{t len:Nat}{idx:List Nat}{vs:List AV}{K:AV→AH→Prop}
 (h:eZ T M t len idx vs K):∃x,K (.sl M.length 0 0 len len) (M++[.one true 0 x])∧∀{ρ:Env}{w:World}{M':AH}{r:Nat},aR ρ M' w→M'[r]?=some .gone→(∀g,ρ r g=none)→AV.dE ρ vs→
  ∃ρ' w',(Instr.buildSlice t len (idx.zip (vs.map (AV.c ρ))).toArray).run P w=.ok ((AV.sl r 0 0 len len).c ρ') w'∧(AV.sl r 0 0 len len).ok ρ'∧aR ρ' (M'.set r (.one true 0 x)) w'∧Ext ρ M' w ρ' (M'.set r (.one true 0 x)) w'∧∀i g,i≠r→ρ' i g=ρ i g:=by
 unfold eZ at h
 split at h
 ·rename_i el s1 s2 s3 ht
  obtain⟨d,hd,eC⟩:=hT.fM ht
  obtain rfl:=aJ eC
  split at h
  ·rename_i te qM
   replace h:=aq h
   obtain⟨hb,h⟩:=h
   simp only[Bool.and_eq_true,beq_iff_eq]at hb
   obtain⟨⟨⟨⟨Qb,hlen⟩,Rd⟩,EG⟩,hall⟩:=hb
   have IU:vs.length=len:=Nat.eq_of_beq_eq_true hlen
   have Qz:len*te.size≤16777216:=by simpa using Rd
   have Iy:te.zero.length=te.size:=Nat.eq_of_beq_eq_true EG
   split at h
   ·rename_i x hx
    refine⟨x,h,fun{ρ w M' r} hs hr jw aA=>?_⟩
    obtain⟨cE,ep,fu⟩:=tJ ρ hx hall aA
    obtain⟨d2,ie,z,e1,e2,e3,rfl⟩:=hT.get qM
    simp only at cE ep Qz Iy hall
    have u5:∀u∈vs.map (AV.c ρ),u.cells.size=ie.size:=fun u hu=>by
     obtain⟨v,hv,rfl⟩:=List.mem_map.1 hu
     have:=List.all_eq_true.1 hall v hv
     simp only[Bool.and_eq_true]at this
     rw[←Array.length_toList,AV.ng ρ v (by rintro y rfl;have:=this.1;simp[AV.parts,AV.one]at this),AV.aW,List.length_map]
     exact Nat.eq_of_beq_eq_true this.2
    have fc:z.cells.size=ie.size:=by simpa using Iy
    subst IU
    have PA:(idx.zip (vs.map (AV.c ρ)))=((vs.map (AV.c ρ)).zipIdx 0).map fun x=>(x.2,x.1):=by
     subst Qb
     apply List.ext_getElem?
     intro j
     simp only[List.getElem?_map,List.getElem?_zipIdx,List.getElem?_zip_eq_some]
     by_cases hj:j<vs.length
     ·simp[List.zip,hj]
     ·simp[List.zip,hj,List.getElem?_eq_none (Nat.le_of_not_lt hj)]
    have PH:=fun c0=>Go.Great.fill_whole cE (vs.map (AV.c ρ)) c0 u5
    have wU:=mz (vs.map (AV.c ρ)) u5
    rw[List.length_map]at wU
    have key:=fun(w1:World) Wc Wb Wa V9=>A5 (w1:=w1) (x:=x) (c:=((vs.map (AV.c ρ)).flatMap fun u=>u.cells.toList).toArray) (e:=el) hs hr jw Wc Wb Wa V9
     (by rw[ep,List.size_toArray,wU];exact Nat.le_refl _) (fun k v hv=>by have:=fu k v hv;exact⟨this.1,by simpa using this.2⟩) (ru (by assumption))
    obtain⟨h1,h2⟩:=key _ rfl rfl rfl rfl
    by_cases P7:vs.length=0
    ·have:vs=[]:=List.eq_nil_of_length_eq_zero P7
     subst this
     refine⟨_,_,?_,dz.2,h1,h2,qf⟩
     rw[dz.1]
     simp[Instr.buildSlice,run_underlying hd,sizeOf,typeInfo,e2,newRow,Instr.fill]
     have:(Array.map (fun _=>(default:Value)) (Array.range 0))=#[]:=by apply Array.eq_empty_of_size_eq_zero;simp
     rw[this]
    ·have I2:=PH ((Array.range (vs.length*ie.size)).map (z.cells[·%z.cells.size]!)) (by simp)
     have aQ:=run_buildSlice (P:=P) w t el vs.length (idx.zip (vs.map (AV.c ρ))).toArray _ ie z hd e2 e3 (by omega) (by
      intro h0
      rcases Nat.mul_eq_zero.1 h0 with h0|h0
      ·exact P7 h0
      ·omega) (by rw[List.toList_toArray,PA];exact I2)
     exact⟨_,_,by rw[dz.1];exact aQ,dz.2,h1,h2,qf⟩
   ·exact h.elim
  ·exact h.elim
 ·exact h.elim
theorem vr {P:Program}{T:List TI}(hT:ao P T){M:AH}{t:Nat}{l c:AV}{K:AV→AH→Prop}
 (h:fC T M t l c K):∃ln cp x,K (.sl M.length 0 0 ln cp) (M++[.one true 0 x])∧∀{ρ:Env}{w:World}{M':AH}{r:Nat},aR ρ M' w→M'[r]?=some .gone→(∀g,ρ r g=none)→
  ∃ρ' w',(Instr.makeSlice t (l.c ρ) (c.c ρ)).run P w=.ok ((AV.sl r 0 0 ln cp).c ρ') w'∧(AV.sl r 0 0 ln cp).ok ρ'∧aR ρ' (M'.set r (.one true 0 x)) w'∧Ext ρ M' w ρ' (M'.set r (.one true 0 x)) w'∧∀i g,i≠r→ρ' i g=ρ i g:=by
 unfold fC at h
 split at h
 ·rename_i kl l kc c
  split at h
  ·rename_i el s1 s2 s3 ht
   obtain⟨d,hd,eC⟩:=hT.fM ht
   obtain rfl:=aJ eC
   split at h
   ·rename_i te qM
    obtain⟨⟨h0,ug,hb,Qx⟩,h⟩:=h
    split at h
    ·rename_i x hx
     refine⟨_,_,x,h,fun{ρ w M' r} hs hr jw=>?_⟩
     obtain⟨cE,EG,ep,fu⟩:=rp hx (by omega)
     have ym:=hT.mS qM ρ
     obtain⟨d2,ie,z,e1,e2,e3,rfl⟩:=hT.get qM
     simp only at cE EG ep fu hb ym
     have fc:z.cells.size=ie.size:=by simpa using EG
     have aQ:=run_make (P:=P) w t el ie z hd e2 e3 kl kc l c h0 ug (by omega) (by omega)
     have key:=fun(w1:World) Wc Wb Wa V9=>A5 (w1:=w1) (x:=x) (c:=madeCells z.cells (c.toNat*ie.size)) (e:=el) hs hr jw Wc Wb Wa V9 (by rw[ep,size_madeCells];exact Nat.le_refl _) (fun k v hv=>by
      obtain⟨hk,u,hu,hc⟩:=fu k v hv
      refine⟨(hc ρ).2 ((AV.aH ρ _).1 ym u (List.mem_of_getElem? hu)),?_⟩
      have hm:k%ie.size<z.cells.size:=by rw[fc];exact Nat.mod_lt _ cE
      have Vz:F0 z.cells[k%ie.size]=u:=by
       rw[List.getElem?_map,Array.getElem?_toList,Array.getElem?_eq_getElem hm]at hu
       simpa using hu
      rw[←(hc ρ).1,←Vz,pP]
      simp only[madeCells,Array.getElem?_map,Array.getElem?_range,hk,if_true,Option.map_some,fc]
      rw[getElem!_pos z.cells _ hm]) (pT (by assumption))
     obtain⟨h1,h2⟩:=key _ rfl rfl rfl rfl
     exact⟨_,_,by rw[dz.1];exact aQ,dz.2,h1,h2,qf⟩
    ·exact h.elim
   ·exact h.elim
  ·exact h.elim
 ·exact h.elim
def xC:Op→Option (List Operand)
 | .move x=>some [x]
 | .assign x=>some [x]
 | .build _ ps=>some (ps.toList.map (·.2))
 | .buildSlice _ _ ps=>some (ps.toList.map (·.2))
 | .makeSlice _ l c=>some [l,c]
 |_=>none
def JU (P:Program)(o:Oper)(ops:List Operand)(e:Operand→AV):Ef→Prop
 | .val v=>∀{ρ:Env}{f:Operand→Value},(∀x∈ops,f x=(e x).c ρ∧(e x).ok ρ)→v.ok ρ∧∀w,(execOp f o).run P w=.ok (.value (v.c ρ)) w
 | .mk l c x=>∀{ρ:Env}{f:Operand→Value}{w:World}{M':AH}{r:Nat},(∀x∈ops,f x=(e x).c ρ∧(e x).ok ρ)→aR ρ M' w→M'[r]?=some .gone→(∀g,ρ r g=none)→
  ∃ρ' w',(execOp f o).run P w=.ok (.value ((AV.sl r 0 0 l c).c ρ')) w'∧(AV.sl r 0 0 l c).ok ρ'∧aR ρ' (M'.set r (.one true 0 x)) w'∧Ext ρ M' w ρ' (M'.set r (.one true 0 x)) w'∧∀i g,i≠r→ρ' i g=ρ i g
theorem Fp {ρ:Env}{e:Operand→AV}{f:Operand→Value}{l:List (Nat×Operand)}(h:∀x∈l.map (·.2),f x=(e x).c ρ∧(e x).ok ρ):
 l.map (fun(i,x)=>(i,f x))=(l.map (·.1)).zip ((l.map fun x=>e x.2).map (AV.c ρ))∧AV.dE ρ (l.map fun x=>e x.2):=by
 constructor
 ·induction l with
  |nil=>rfl
  |cons p l ih=>
   simp only[List.map_cons,List.zip_cons_cons]
   rw[ih fun x hx=>h x (List.mem_cons_of_mem _ hx),(h p.2 (by simp)).1]
 ·rw[AV.aH]
  intro z hz
  obtain⟨y,hy,rfl⟩:=List.mem_map.1 hz
  exact(h y.2 (List.mem_map.2 ⟨y,hy,rfl⟩)).2
theorem WY {P:Program}{T:List TI}(hT:ao P T){wr:Bool}{M:AH}{e:Operand→AV}{o:Oper}{K Kp:AV→AH→Prop}{tk:List Operand}(ht:xC o.op=some tk)(h:GJ P T wr M e o.op K Kp):
 ∃ef:Ef,K (ef.v M.length) (M++ef.BO)∧JU P o tk e ef:=by
 obtain⟨dst,op,ty,pos,after,guard⟩:=o
 simp only at ht h
 have HN:∀{v:AV},K v M→JU P ⟨dst,op,ty,pos,after,guard⟩ tk e (.val v)→∃ef:Ef,K (ef.v M.length) (M++ef.BO)∧JU P ⟨dst,op,ty,pos,after,guard⟩ tk e ef:=by
  intro v h1 h2
  refine⟨.val v,?_,h2⟩
  show K v (M++[])
  rw[List.append_nil];exact h1
 unfold xC at ht
 split at ht
 ·rename_i x
  injection ht with ht;subst ht
  have h':iE T wr M e (.move x) fun v=>K v M:=h
  have h2:=ee (show lf (e x) (fun v=>K v M)from h')
  exact HN h2 fun{ρ f} hf=>⟨(hf x (by simp)).2,fun w=>by simp[execOp,(hf x (by simp)).1]⟩
 ·rename_i x
  injection ht with ht;subst ht
  have h':iE T wr M e (.assign x) fun v=>K v M:=h
  have h2:=ee (show lf (e x) (fun v=>K v M)from h')
  exact HN h2 fun{ρ f} hf=>⟨(hf x (by simp)).2,fun w=>by simp[execOp,(hf x (by simp)).1]⟩
 ·rename_i t ps
  injection ht with ht;subst ht
  have h':iE T wr [] e (.build t ps) fun v=>K v M:=h
  have Wk:∃v,K v M∧iE T wr [] e (.build t ps) fun v'=>v'=v:=by
   simp only[iE]at h'⊢
   split at h'
   ·split at h'
    ·split at h'
     ·exact⟨_,h',rfl⟩
     ·exact h'.elim
    ·exact h'.elim
   ·split at h'
    ·split at h'
     ·exact⟨_,h',rfl⟩
     ·exact h'.elim
    ·exact h'.elim
   ·exact h'.elim
  obtain⟨v,h1,h2⟩:=Wk
  refine HN h1 fun{ρ f} hf=>?_
  haveI dec:∀x,Decidable (x∈ps.toList.map (fun x:Nat×Operand=>x.2)):=fun x=>Classical.propDecidable _
  have h3:iE T wr [] (fun x=>if x∈ps.toList.map (fun x:Nat×Operand=>x.2)then e x else .raw (f x)) (.build t ps) fun v'=>v'=v:=by
   have e1:ps.toList.map (fun x=>(x.1,(fun x=>if x∈ps.toList.map (fun x:Nat×Operand=>x.2)then e x else AV.raw (f x)) x.2))=ps.toList.map fun x=>(x.1,e x.2):=by
    apply List.map_congr_left
    intro x hx
    simp only
    rw[if_pos (List.mem_map.2 ⟨x,hx,rfl⟩)]
   simp only[iE]at h2⊢
   rw[e1]
   exact h2
  have Wh:Ux ρ (fun x=>if x∈ps.toList.map (fun x:Nat×Operand=>x.2)then e x else .raw (f x)) f:=by
   intro x
   simp only
   split
   ·exact hf x ‹_›
   ·exact⟨rfl,trivial⟩
  obtain⟨u,k1,k2,k3⟩:=eU (P:=P) (o:=⟨dst,.build t ps,ty,pos,after,guard⟩) (ρ:=ρ) hT (M:=[]) (fun i g own x hs=>by simp[slot]at hs) Wh h3
  obtain rfl:u=v:=k1
  exact⟨k2,k3⟩
 ·rename_i t len ps
  injection ht with ht;subst ht
  obtain⟨x,h1,h2⟩:=uV (P:=P) hT (show eZ T M t len (ps.toList.map (·.1)) (ps.toList.map fun x=>e x.2) K from h)
  refine⟨.mk len len x,h1,fun{ρ f w M' r} hf hs hr jw=>?_⟩
  obtain⟨m1,m2⟩:=Fp hf
  obtain⟨ρ',w',k1,k2,k3,k4,k5⟩:=h2 hs hr jw m2
  refine⟨ρ',w',?_,k2,k3,k4,k5⟩
  have e1:(ps.map fun(i,x)=>(i,f x))=((ps.toList.map (·.1)).zip ((ps.toList.map fun x=>e x.2).map (AV.c ρ))).toArray:=by
   apply Array.toList_inj.1
   rw[Array.toList_map,List.toList_toArray]
   exact m1
  rw[←e1]at k1
  show((do pure (.value (←Instr.buildSlice t len (ps.map fun(i,x)=>(i,f x)))):Sem Next)).run P w=_
  simp[k1]
 ·rename_i t l c
  injection ht with ht;subst ht
  obtain⟨ln,cp,x,h1,h2⟩:=vr (P:=P) hT (show fC T M t (e l) (e c) K from h)
  refine⟨.mk ln cp x,h1,fun{ρ f w M' r} hf hs hr jw=>?_⟩
  obtain⟨ρ',w',k1,k2,k3,k4,k5⟩:=h2 hs hr jw
  refine⟨ρ',w',?_,k2,k3,k4,k5⟩
  rw[←(hf l (by simp)).1,←(hf c (by simp)).1]at k1
  show((do pure (.value (←Instr.makeSlice t (f l) (f c))):Sem Next)).run P w=_
  simp[k1]
 ·cases ht
def iS (ops:Array Oper)(j:Nat):Option Nat:=match ops[j]? with
 |some o=>o.dst
 |none=>none
def qI (ops:Array Oper):Bool:=(List.range ops.size).all fun i=>match ops[i]? with
 |none=>false
 |some o=>match o.dst,xC o.op with
  |some d,some tk=>o.guard.isNone&&cn o.op&&(o.after.toList.all fun e=>Nat.blt e.on i)&&((List.range ops.size).all fun j=>Nat.beq j i||!(iS ops j==some d))&&
   tk.all fun x=>match x with
    | .tmp t=>(List.range ops.size).all fun j=>!(iS ops j==some t)||(Nat.blt j i&&o.after.toList.any fun e=>Nat.beq e.on j&&Region.binds .any e)
    |_=>true
  |_,_=>false
structure QL (ops:Array Oper)(i:Nat)(o:Oper)(d:Nat)(tk:List Operand):Prop where
 get:ops[i]?=some o
 dst:o.dst=some d
 takes:xC o.op=some tk
 guard:o.guard=none
 before:∀e∈o.after,e.on<i
 apart:∀j,j<ops.size→j≠i→iS ops j≠some d
 W8:∀t,Operand.tmp t∈tk→∀j,j<ops.size→iS ops j=some t→j<i∧∃e∈o.after,e.on=j∧Region.binds .any e=true
theorem nq {ops:Array Oper}(h:qI ops=true){i:Nat}(hi:i<ops.size):∃o d tk,QL ops i o d tk:=by
 unfold qI at h
 have h1:=List.all_eq_true.1 h i (List.mem_range.2 hi)
 split at h1
 ·cases h1
 ·rename_i o ho
  split at h1
  ·rename_i d tk hd ht
   simp only[Bool.and_eq_true]at h1
   obtain⟨⟨⟨⟨g1,_⟩,g2⟩,g3⟩,g4⟩:=h1
   refine⟨o,d,tk,ho,hd,ht,by simpa using g1,?_,?_,?_⟩
   ·intro e he
    have:=List.all_eq_true.1 g2 e (by simpa using he)
    simpa using this
   ·intro j hj fE Cf
    have:=List.all_eq_true.1 g3 j (List.mem_range.2 hj)
    simp only[Bool.or_eq_true]at this
    rcases this with h|h
    ·exact fE (Nat.eq_of_beq_eq_true h)
    ·rw[Cf]at h;simp at h
   ·intro t Sc j hj Cf
    have:=List.all_eq_true.1 g4 _ Sc
    simp only at this
    have:=List.all_eq_true.1 this j (List.mem_range.2 hj)
    rw[Cf]at this
    simp only[beq_self_eq_true,Bool.not_true,Bool.false_or,Bool.and_eq_true]at this
    refine⟨by simpa using this.1,?_⟩
    obtain⟨e,he,h2⟩:=List.any_eq_true.1 this.2
    simp only[Bool.and_eq_true]at h2
    exact⟨e,by simpa using he,Nat.eq_of_beq_eq_true h2.1,h2.2⟩
  ·cases h1
section
variable{P:Program}{T:List TI}{n:Nat}{W:List Nat}{ops:Array Oper}{a0:AA}{M0:AH}
def cM (f:Nat→Ef):Nat→Nat
 |0=>0
 |k+1=>cM f k+(f k).BO.length
def Bd (M0:AH)(f:Nat→Ef)(k:Nat):Nat:=M0.length+cM f k
def aD (n:Nat)(ops:Array Oper)(a0:AA)(M0:AH)(f:Nat→Ef)(d:Nat→Bool):Nat→AA
 |0=>a0
 |k+1=>match d k with
  |true=>(aD n ops a0 M0 f d k).put n (iS ops k) ((f k).v (Bd M0 f k))
  |false=>aD n ops a0 M0 f d k
def oD (b:Bool):Ef→List AO
 | .val _=>[]
 | .mk _ _ x=>match b with
   |true=>[.one true 0 x]
   |false=>[.gone]
def mD (f:Nat→Ef)(d:Nat→Bool):Nat→AH
 |0=>[]
 |k+1=>mD f d k++oD (d k) (f k)
theorem Pf (b:Bool)(e:Ef):(oD b e).length=e.BO.length:=by cases e<;>cases b<;>rfl
theorem LQ (e:Ef):oD true e=e.BO:=by cases e<;>rfl
theorem ml (f:Nat→Ef)(d:Nat→Bool):∀k,(mD f d k).length=cM f k
 |0=>rfl
 |k+1=>by simp only[mD,cM,List.length_append,ml f d k,Pf]
theorem uU {f g:Nat→Ef}:∀{k:Nat},(∀j,j<k→f j=g j)→cM f k=cM g k
 |0,_=>rfl
 |k+1,h=>by simp only[cM];rw[uU fun j hj=>h j (by omega),h k (by omega)]
theorem u1 {f g:Nat→Ef}{d:Nat→Bool}:∀{k:Nat},(∀j,j<k→f j=g j)→aD n ops a0 M0 f d k=aD n ops a0 M0 g d k
 |0,_=>rfl
 |k+1,h=>by
  simp only[aD]
  rw[u1 fun j hj=>h j (by omega),h k (by omega)]
  unfold Bd
  rw[uU fun j hj=>h j (by omega)]
theorem Ad {f g:Nat→Ef}{d:Nat→Bool}:∀{k:Nat},(∀j,j<k→f j=g j)→mD f d k=mD g d k
 |0,_=>rfl
 |k+1,h=>by simp only[mD];rw[Ad fun j hj=>h j (by omega),h k (by omega)]
def tt (_:Nat):Bool:=true
theorem v5 (hT:ao P T)(aA:qI ops=true){K:AA→AH→Prop}{Kp:AV→AH→Prop}:∀(j k:Nat)(f:Nat→Ef),k+j=ops.size→ql P T n W ops Kp K (ops.toList.drop k) (aD n ops a0 M0 f tt k) (M0++mD f tt k)→
 ∃g:Nat→Ef,(∀i,i<k→g i=f i)∧(∀i,k≤i→i<ops.size→∃o d tk,QL ops i o d tk∧JU P o tk (pc (aD n ops a0 M0 g tt i)) (g i))∧K (aD n ops a0 M0 g tt ops.size) (M0++mD g tt ops.size)
 |0,k,f,hk,h=>by
  obtain rfl:k=ops.size:=by omega
  rw[List.drop_of_length_le (by simp)]at h
  exact⟨f,fun _ _=>rfl,fun i h1 h2=>by omega,h⟩
 |j+1,k,f,hk,h=>by
  have Q3:k<ops.size:=by omega
  obtain⟨o,d,tk,hm⟩:=nq aA Q3
  have I6:ops.toList.drop k=o::ops.toList.drop (k+1):=by
   rw[List.drop_eq_getElem_cons (by simpa using Q3)]
   congr 1
   have:=hm.get
   rw[Array.getElem?_eq_getElem Q3]at this
   simpa using this
  rw[I6]at h
  simp only[ql,lX]at h
  replace h:=(aq h).2
  unfold k9 at h
  rw[hm.guard]at h
  simp only at h
  obtain⟨e,h1,h2⟩:=WY hT hm.takes h
  have hf:∀i,i<k→(fun i=>if i=k then e else f i) i=f i:=fun i hi=>by simp only;rw[if_neg (by omega)]
  have ha:aD n ops a0 M0 (fun i=>if i=k then e else f i) tt k=aD n ops a0 M0 f tt k:=u1 hf
  have Y0:mD (fun i=>if i=k then e else f i) tt k=mD f tt k:=Ad hf
  have hc:cM (fun i=>if i=k then e else f i) k=cM f k:=uU hf
  have hd:iS ops k=o.dst:=by unfold iS;rw[hm.get]
  have hlen:(M0++mD f tt k).length=Bd M0 (fun i=>if i=k then e else f i) k:=by rw[List.length_append,ml];unfold Bd;rw[hc]
  have X0:(fun i=>if i=k then e else f i) k=e:=if_pos rfl
  obtain⟨g,g1,g2,g3⟩:=v5 hT aA j (k+1) (fun i=>if i=k then e else f i) (by omega) (by
   have e1:aD n ops a0 M0 (fun i=>if i=k then e else f i) tt (k+1)=(aD n ops a0 M0 f tt k).put n o.dst (e.v (M0++mD f tt k).length):=by
    show(aD n ops a0 M0 (fun i=>if i=k then e else f i) tt k).put n (iS ops k) (((fun i=>if i=k then e else f i) k).v _)=_
    rw[ha,hd,X0,hlen]
   have e2:M0++mD (fun i=>if i=k then e else f i) tt (k+1)=M0++mD f tt k++e.BO:=by
    show M0++(mD (fun i=>if i=k then e else f i) tt k++oD true ((fun i=>if i=k then e else f i) k))=_
    rw[Y0,X0,LQ,List.append_assoc]
   rw[e1,e2]
   exact h1)
  refine⟨g,fun i hi=>by rw[g1 i (by omega)];exact hf i hi,fun i EO hi=>?_,g3⟩
  rcases Nat.lt_or_ge k i with h3|h3
  ·exact g2 i h3 hi
  ·obtain rfl:i=k:=by omega
   have e3:aD n ops a0 M0 g tt i=aD n ops a0 M0 f tt i:=u1 fun j hj=>by rw[g1 j (by omega)];exact hf j hj
   refine⟨o,d,tk,hm,?_⟩
   rw[e3,g1 i (by omega),if_pos rfl]
   exact h2
theorem mP {f:Nat→Ef}{d:Nat→Bool}{t:Nat}:∀{k:Nat},(∀j,j<k→d j=true→iS ops j≠some t)→aD n ops a0 M0 f d k t=a0 t
 |0,_=>rfl
 |k+1,h=>by
  have ih:=mP (f:=f) (d:=d) (k:=k) fun j hj=>h j (by omega)
  simp only[aD]
  cases hd:d k with
  |false=>exact ih
  |true=>
   have hk:=h k (by omega) hd
   simp only
   unfold AA.put
   cases he:iS ops k with
   |none=>exact ih
   |some u=>
    simp only
    have:Nat.beq t u=false:=by
     cases hb:Nat.beq t u with
     |false=>rfl
     |true=>exact absurd (by rw[he,Nat.eq_of_beq_eq_true hb]) hk
    rw[this];exact ih
theorem q6 {f:Nat→Ef}{d:Nat→Bool}{t i:Nat}(hi:iS ops i=some t)(Ql:d i=true):∀{k:Nat},i<k→(∀j,j<k→j≠i→iS ops j≠some t)→
 aD n ops a0 M0 f d k t=if Nat.blt t n=true then(f i).v (Bd M0 f i)else a0 t
 |0,h,_=>by omega
 |k+1,h,hu=>by
  rcases Nat.lt_or_ge i k with h1|h1
  ·have ih:=q6 (f:=f) (d:=d) hi Ql (k:=k) h1 fun j hj=>hu j (by omega)
   have hk:=hu k (by omega) (by omega)
   simp only[aD]
   cases hd:d k with
   |false=>exact ih
   |true=>
    simp only
    unfold AA.put
    cases he:iS ops k with
    |none=>exact ih
    |some u=>
     simp only
     have:Nat.beq t u=false:=by
      cases hb:Nat.beq t u with
      |false=>rfl
      |true=>exact absurd (by rw[he,Nat.eq_of_beq_eq_true hb]) hk
     rw[this];exact ih
  ·obtain rfl:i=k:=by omega
   have hn:=mP (n:=n) (a0:=a0) (M0:=M0) (f:=f) (d:=d) (ops:=ops) (t:=t) (k:=i) fun j hj _=>hu j (by omega) (by omega)
   simp only[aD,Ql]
   unfold AA.put
   rw[hi]
   simp only[Nat.beq_refl,Bool.true_and]
   cases hb:Nat.blt t n with
   |true=>rfl
   |false=>exact hn
theorem E9 {f:Nat→Ef}{i:Nat}:∀{k:Nat},i≤k→cM f i≤cM f k
 |0,h=>by obtain rfl:i=0:=by omega
          exact Nat.le_refl _
 |k+1,h=>by
  rcases Nat.lt_or_ge k i with h1|h1
  ·obtain rfl:i=k+1:=by omega
   exact Nat.le_refl _
  ·exact Nat.le_trans (E9 h1) (Nat.le_add_right _ _)
theorem Iu {e:Ef}(h:e.Pw=true):e.BO.length=1:=by cases e;cases h;rfl
theorem Fa {f:Nat→Ef}{i k:Nat}(hi:(f i).Pw=true)(h:i<k):cM f i<cM f k:=by
 have:=E9 (f:=f) (show i+1≤k from h)
 simp only[cM,Iu hi]at this
 omega
theorem Nl {f:Nat→Ef}{d:Nat→Bool}{i l c:Nat}{x:ae}(hi:f i=.mk l c x):∀{k:Nat},i<k→(mD f d k)[cM f i]?=some (match d i with|true=>.one true 0 x|false=>.gone)
 |0,h=>by omega
 |k+1,h=>by
  simp only[mD]
  rcases Nat.lt_or_ge i k with h1|h1
  ·rw[List.getElem?_append_left (by rw[ml];exact Fa (by rw[hi];rfl) h1)]
   exact Nl hi h1
  ·obtain rfl:i=k:=by omega
   rw[List.getElem?_append_right (by rw[ml];exact Nat.le_refl _),ml,Nat.sub_self,hi]
   cases d i<;>rfl
theorem Ij {f:Nat→Ef}{d d':Nat→Bool}{i l c:Nat}{x:ae}(hi:f i=.mk l c x)(hd:d' i=true)(ho:∀j,j≠i→d' j=d j):∀{k:Nat},i<k→(mD f d k).set (cM f i) (.one true 0 x)=mD f d' k
 |0,h=>by omega
 |k+1,h=>by
  simp only[mD]
  rcases Nat.lt_or_ge i k with h1|h1
  ·rw[List.set_append_left _ _ (by rw[ml];exact Fa (by rw[hi];rfl) h1),Ij hi hd ho h1,ho k (by omega)]
  ·obtain rfl:i=k:=by omega
   have e:mD f d' i=mD f d i:=by
    clear h h1
    have:∀m,m≤i→mD f d' m=mD f d m:=by
     intro m
     induction m with
     |zero=>intro _;rfl
     |succ m ih=>intro hm;simp only[mD];rw[ih (by omega),ho m (by omega)]
    exact this i (Nat.le_refl _)
   rw[List.set_append_right _ _ (by rw[ml];exact Nat.le_refl _),ml,Nat.sub_self,e,hi,hd]
   cases d i<;>rfl
theorem Ii {f:Nat→Ef}{d d':Nat→Bool}{i:Nat}{v:AV}(hi:f i=.val v)(ho:∀j,j≠i→d' j=d j):∀k:Nat,mD f d' k=mD f d k
 |0=>rfl
 |k+1=>by
  simp only[mD]
  rw[Ii hi ho k]
  by_cases e:k=i
  ·subst e;rw[hi];rfl
  ·rw[ho k e]
theorem Ey {f:Nat→Ef}:∀k,∀o∈mD f (fun _=>false) k,o=.gone
 |0,o,h=>by cases h
 |k+1,o,h=>by
  simp only[mD]at h
  rcases List.mem_append.1 h with h|h
  ·exact Ey k o h
  ·cases hf:f k with
   |val v=>rw[hf]at h;cases h
   |mk l c x=>rw[hf]at h;exact List.mem_singleton.1 h
theorem oq {M L:AH}(hL:∀o∈L,o=.gone)(i g:Nat):slot (M++L) i g=slot M i g:=by
 unfold slot
 rcases Nat.lt_or_ge i M.length with h|h
 ·rw[List.getElem?_append_left h]
 ·rw[List.getElem?_append_right h,List.getElem?_eq_none h]
  cases ho:L[i-M.length]? with
  |none=>rfl
  |some o=>rw[hL o (List.mem_of_getElem? ho)];rfl
theorem FD {ρ:Env}{M L:AH}{w:World}(hs:aR ρ M w)(hL:∀o∈L,o=.gone):aR ρ (M++L) w∧Ext ρ M w ρ (M++L) w:=by
 have ck:∀(i:Nat)(o:AO),(M++L)[i]?=some o→o≠AO.gone→M[i]?=some o:=by
  intro i o h hn
  rcases Nat.lt_or_ge i M.length with h1|h1
  ·rwa[List.getElem?_append_left h1]at h
  ·rw[List.getElem?_append_right h1]at h
   exact absurd (hL o (List.mem_of_getElem? h)) hn
 refine⟨⟨fun i g h=>by have:=hs.nI i g h;rw[List.length_append];omega,fun i g own g' x h=>hs.tag i g own g' x (ck i _ h (by simp)),fun i g own m x h=>hs.bw i g own m x (ck i _ h (by simp)),fun i g own x h=>?_,fun i g x i' g' bp x' q q' h h'=>?_⟩,
  fun _ _ _ h=>h,Nat.le_refl _,fun _ _ _=>rfl,fun i g x q h1 h2 _=>?_,rfl,rfl,rfl⟩
 ·rw[oq hL]at h;exact hs.holds i g own x h
 ·rw[oq hL]at h h';exact hs.apart i g x i' g' bp x' q q' h h'
 ·rw[oq hL]at h1;exact⟨i,g,x,q,h1,h2,rfl⟩
def jZ (d:Nat→Bool):Nat→Nat
 |0=>0
 |k+1=>jZ d k+(match d k with|true=>0|false=>1)
theorem ta {d:Nat→Bool}:∀{k:Nat},jZ d k=0→∀j,j<k→d j=true
 |0,_,j,hj=>by omega
 |k+1,h,j,hj=>by
  simp only[jZ]at h
  cases hd:d k with
  |false=>rw[hd]at h;simp at h
  |true=>
   rw[hd]at h
   simp only[Nat.add_zero]at h
   rcases(show j<k∨j=k by omega)with h1|rfl
   ·exact ta (by omega) j h1
   ·exact hd
theorem wb {d d':Nat→Bool}{i:Nat}(hd:d i=false)(nR:d' i=true)(ho:∀j,j≠i→d' j=d j):∀{k:Nat},i<k→jZ d' k+1=jZ d k
 |0,h=>by omega
 |k+1,h=>by
  simp only[jZ]
  rcases Nat.lt_or_ge i k with h1|h1
  ·have:=wb hd nR ho h1
   rw[ho k (by omega)];omega
  ·obtain rfl:i=k:=by omega
   have:∀m,m≤i→jZ d' m=jZ d m:=by
    intro m
    induction m with
    |zero=>intro _;rfl
    |succ m ih=>intro hm;simp only[jZ];rw[ih (by omega),ho m (by omega)]
   rw[this i (Nat.le_refl _),hd,nR]
   rfl
variable{r:Option Nat}{Q:Exit→Act→World→Prop}{ds:List Nat}{D:List Deferred}
theorem Ih (aA:qI ops=true){g:Nat→Ef}{ρ0:Env}{w0:World}(Zi:∀i gg,(ρ0 i gg).isSome=true→i<M0.length)
 (hg:∀i,i<ops.size→∃o d tk,QL ops i o d tk∧JU P o tk (pc (aD n ops a0 M0 g tt i)) (g i))
 (hK:∀ρ' w' aG,bt ρ' D n (aD n ops a0 M0 g tt ops.size) aG→aR ρ' (M0++mD g tt ops.size) w'→Ext ρ0 M0 w0 ρ' (M0++mD g tt ops.size) w'→Q .normal aG w'):
 ∀(f:Nat)(l:Array Bool)(ρ:Env)(w:World)(act:Act),l.size=ops.size→jZ (fun k=>l.getD k false) ops.size≤f→
  aR ρ (M0++mD g (fun k=>l.getD k false) ops.size) w→Ext ρ0 M0 w0 ρ (M0++mD g (fun k=>l.getD k false) ops.size) w→bt ρ D n (aD n ops a0 M0 g (fun k=>l.getD k false) ops.size) act→
  (∀k,k<ops.size→(g k).Pw=true→l.getD k false=false→∀gg,ρ (Bd M0 g k) gg=none)→anyS r P ops Q (fun _=>True) ds f l act w:=by
 have fin:∀(l:Array Bool)(ρ:Env)(w:World)(act:Act),(∀k,k<ops.size→l.getD k false=true)→aR ρ (M0++mD g (fun k=>l.getD k false) ops.size) w→Ext ρ0 M0 w0 ρ (M0++mD g (fun k=>l.getD k false) ops.size) w→bt ρ D n (aD n ops a0 M0 g (fun k=>l.getD k false) ops.size) act→Q .normal act w:=by
  intro l ρ w act hall hs hE ha
  have e1:∀k,k≤ops.size→mD g (fun k=>l.getD k false) k=mD g tt k:=by
   intro k
   induction k with
   |zero=>intro _;rfl
   |succ k ih=>intro hk;simp only[mD];rw[ih (by omega),hall k (by omega)];rfl
  have e2:∀k,k≤ops.size→aD n ops a0 M0 g (fun k=>l.getD k false) k=aD n ops a0 M0 g tt k:=by
   intro k
   induction k with
   |zero=>intro _;rfl
   |succ k ih=>intro hk;simp only[aD];rw[ih (by omega),hall k (by omega)];rfl
  rw[e1 _ (Nat.le_refl _)]at hs hE
  rw[e2 _ (Nat.le_refl _)]at ha
  exact hK ρ w act ha hs hE
 have Oc:∀(l:Array Bool),l.size=ops.size→Region.ready .any ops l=[]→∀k,k<ops.size→l.getD k false=true:=by
  intro l hl hr k
  induction k using Nat.strongRecOn with
  |_ k ih=>
   intro hk
   cases hd:l.getD k false with
   |true=>rfl
   |false=>
    exfalso
    obtain⟨o,d,tk,hm⟩:=nq aA hk
    have:k∈Region.ready .any ops l:=by
     rw[mem_ready]
     refine⟨?_,o,hm.get,fun e he _=>ih e.on (hm.before e he) (Nat.lt_trans (hm.before e he) hk)⟩
     have G4:k<l.size:=by omega
     simp only[Array.getD,G4,dif_pos]at hd⊢
     exact hd
    rw[hr]at this;cases this
 intro f
 induction f with
 |zero=>
  intro l ρ w act hl hf hs hE ha hu
  have hall:=ta (show jZ (fun k=>l.getD k false) ops.size=0 by omega)
  refine⟨?_,fin l ρ w act hall hs hE ha⟩
  rw[List.eq_nil_iff_forall_not_mem]
  intro k hk
  obtain⟨h1,o,ho,_⟩:=mem_ready.1 hk
  have Q3:=(Array.getElem?_eq_some_iff.1 ho).1
  have h2:=hall k Q3
  have G4:k<l.size:=by omega
  simp only[Array.getD,G4,dif_pos]at h1 h2
  rw[h1]at h2;cases h2
 |succ f Xt=>
  intro l ρ w act hl hf hs hE ha hu
  refine⟨fun hr=>fin l ρ w act (Oc l hl hr) hs hE ha,fun i hi o' ue=>?_⟩
  obtain⟨h1,o1,QY,SM⟩:=mem_ready.1 hi
  have Q6:=(Array.getElem?_eq_some_iff.1 QY).1
  obtain⟨o,d,tk,hm,UT⟩:=hg i Q6
  have e0:=hm.get
  rw[ue]at e0;injection e0 with e0;subst e0
  have e0:=hm.get
  rw[QY]at e0;injection e0 with e0;subst e0
  have mu:i<l.size:=by omega
  have Ql:l.getD i false=false:=by simp only[Array.getD,mu,dif_pos]at h1⊢;exact h1
  have Qi:iS ops i=some d:=by unfold iS;rw[hm.get];exact hm.dst
  have Wh:∀x∈tk,pc (aD n ops a0 M0 g (fun k=>l.getD k false) ops.size) x=pc (aD n ops a0 M0 g tt i) x:=by
   intro x hx
   cases x with
   |tmp t=>
    show aD n ops a0 M0 g (fun k=>l.getD k false) ops.size t=aD n ops a0 M0 g tt i t
    by_cases hex:∃j,j<ops.size∧iS ops j=some t
    ·obtain⟨j,hj,Gq⟩:=hex
     obtain⟨fE,e,he,Ze,hb⟩:=hm.W8 t hx j hj Gq
     have J5:l.getD j false=true:=by rw[←Ze];exact SM e he hb
     obtain⟨oj,dj,tj,vw⟩:=nq aA hj
     have Qj:dj=t:=by
      have:iS ops j=some dj:=by unfold iS;rw[vw.get];exact vw.dst
      rw[Gq]at this;injection this with this;exact this.symm
     have R8:∀k,k<ops.size→k≠j→iS ops k≠some t:=fun k hk Mp=>by rw[←Qj];exact vw.apart k hk Mp
     rw[q6 Gq J5 hj R8,q6 (d:=tt) Gq rfl fE fun k hk=>R8 k (by omega)]
    ·rw[mP fun j hj _ h=>hex ⟨j,hj,h⟩,mP fun j hj _ h=>hex ⟨j,by omega,h⟩]
   |const v=>rfl
   |global g=>rfl
   |func f=>rfl
  have vz:∀x∈tk,act.eval x=(pc (aD n ops a0 M0 g tt i) x).c ρ∧(pc (aD n ops a0 M0 g tt i) x).ok ρ:=by
   intro x hx
   have:=ha.ev x
   rw[Wh x hx]at this
   exact this
  have nR:∀k,(l.setIfInBounds i true).getD k false=if k=i then true else l.getD k false:=by
   intro k
   simp only[Array.getD_eq_getD_getElem?,Array.getElem?_setIfInBounds]
   by_cases e:i=k
   ·subst e;simp[mu]
   ·rw[if_neg e,if_neg (fun h=>e h.symm)]
  have Qk:(fun k=>(l.setIfInBounds i true).getD k false) i=true:=by simp only[nR];simp
  have Wi:∀j,j≠i→(fun k=>(l.setIfInBounds i true).getD k false) j=(fun k=>l.getD k false) j:=fun j hj=>by simp only[nR];rw[if_neg hj]
  have UY:aD n ops a0 M0 g (fun k=>(l.setIfInBounds i true).getD k false) ops.size=(aD n ops a0 M0 g (fun k=>l.getD k false) ops.size).put n (some d) ((g i).v (Bd M0 g i)):=by
   funext t
   by_cases ht:t=d
   ·subst ht
    rw[q6 Qi Qk Q6 hm.apart]
    have hn:aD n ops a0 M0 g (fun k=>l.getD k false) ops.size t=a0 t:=mP fun j hj J5 h=>by
     by_cases e:j=i
     ·subst e;have I7:l.getD j false=true:=J5;rw[Ql]at I7;cases I7
     ·exact hm.apart j hj e h
    unfold AA.put
    simp only[Nat.beq_refl,Bool.true_and,hn]
    cases Nat.blt t n<;>rfl
   ·have hp:(aD n ops a0 M0 g (fun k=>l.getD k false) ops.size).put n (some d) ((g i).v (Bd M0 g i)) t=aD n ops a0 M0 g (fun k=>l.getD k false) ops.size t:=by
     unfold AA.put
     simp only
     have:Nat.beq t d=false:=by
      cases hb:Nat.beq t d with
      |false=>rfl
      |true=>exact absurd (Nat.eq_of_beq_eq_true hb) ht
     rw[this];rfl
    rw[hp]
    by_cases hex:∃j,j<ops.size∧iS ops j=some t∧l.getD j false=true
    ·obtain⟨j,hj,Gq,J5⟩:=hex
     obtain⟨oj,dj,tj,vw⟩:=nq aA hj
     have Qj:dj=t:=by
      have:iS ops j=some dj:=by unfold iS;rw[vw.get];exact vw.dst
      rw[Gq]at this;injection this with this;exact this.symm
     have fE:j≠i:=fun e=>by subst e;rw[Qi]at Gq;injection Gq with Gq;exact ht Gq.symm
     have R8:∀k,k<ops.size→k≠j→iS ops k≠some t:=fun k hk Mp=>by rw[←Qj];exact vw.apart k hk Mp
     rw[q6 Gq (show(l.setIfInBounds i true).getD j false=true by rw[nR j,if_neg fE];exact J5) hj R8,q6 Gq J5 hj R8]
    ·rw[mP fun j hj J5 h=>?_,mP fun j hj J5 h=>hex ⟨j,hj,h,J5⟩]
     by_cases e:j=i
     ·subst e;rw[Qi]at h;injection h with h;exact ht h.symm
     ·have I7:(l.setIfInBounds i true).getD j false=true:=J5
      rw[nR j,if_neg e]at I7;exact hex ⟨j,hj,h,I7⟩
  have Nv:=wb (d:=fun k=>l.getD k false) Ql Qk Wi Q6
  unfold vq
  rw[if_pos (by unfold Region.wanted;rw[hm.guard])]
  cases Qd:g i with
  |val v=>
   rw[Qd]at UT UY
   obtain⟨v1,v2⟩:=UT vz
   rw[v2 w]
   have Q0:mD g (fun k=>(l.setIfInBounds i true).getD k false) ops.size=mD g (fun k=>l.getD k false) ops.size:=Ii Qd Wi _
   refine⟨fun _=>.inl rfl,Xt _ ρ w _ (by simpa using hl) (by omega) (by rw[Q0];exact hs) (by rw[Q0];exact hE) ?_ fun k hk ku Mv=>hu k hk ku ?_⟩
   ·rw[UY,hm.dst];exact ha.put (some d) v1
   ·rw[nR k]at Mv
    split at Mv
    ·cases Mv
    ·exact Mv
  |mk ln cp x=>
   rw[Qd]at UT UY
   have SK:(M0++mD g (fun k=>l.getD k false) ops.size)[Bd M0 g i]?=some .gone:=by
    unfold Bd
    rw[List.getElem?_append_right (by omega),Nat.add_sub_cancel_left,Nl Qd Q6]
    simp only[Ql]
   have jw:=hu i Q6 (by rw[Qd];rfl) Ql
   obtain⟨ρ',w',k1,k2,k3,k4,k5⟩:=UT vz hs SK jw
   rw[k1]
   have B5:(M0++mD g (fun k=>l.getD k false) ops.size).set (Bd M0 g i) (.one true 0 x)=M0++mD g (fun k=>(l.setIfInBounds i true).getD k false) ops.size:=by
    unfold Bd
    rw[List.set_append_right _ _ (by omega),Nat.add_sub_cancel_left,Ij Qd Qk Wi Q6]
   rw[B5]at k3 k4
   refine⟨fun _=>.inr trivial,Xt _ ρ' w' _ (by simpa using hl) (by omega) k3 (hE.trans k4) ?_ fun k hk ku Mv gg=>?_⟩
   ·rw[UY,hm.dst];exact(ha.ext k4.env).put (some d) k2
   ·rw[nR k]at Mv
    split at Mv
    ·cases Mv
    ·rename_i US
     rw[k5 _ gg ?_]
     ·exact hu k hk ku Mv gg
     ·unfold Bd
      rcases Nat.lt_or_ge k i with h|h
      ·have:=Fa ku h;omega
      ·have:=Fa (f:=g) (i:=i) (k:=k) (by rw[Qd];rfl) (by omega);omega
theorem rq (hT:ao P T)(aA:qI ops=true){K:AA→AH→Prop}{Kp:AV→AH→Prop}{ρ0:Env}{w0:World}{act:Act}(hs:aR ρ0 M0 w0)(ha:bt ρ0 D n a0 act)(h:ql P T n W ops Kp K ops.toList a0 M0)
 (hK:∀a' aG M' ρ' w',K a' M'→bt ρ' D n a' aG→aR ρ' M' w'→Ext ρ0 M0 w0 ρ' M' w'→Q .normal aG w'):
 anyS r P ops Q (fun _=>True) ds ops.size (Array.replicate ops.size false) act w0:=by
 obtain⟨g,_,g2,g3⟩:=v5 (a0:=a0) (M0:=M0) (n:=n) (W:=W) hT aA (K:=K) (Kp:=Kp) ops.size 0 (fun _=>.val .ns) (by omega) (by
  show ql P T n W ops Kp K (ops.toList.drop 0) a0 (M0++[])
  rw[List.append_nil];exact h)
 have Wm:(fun k=>(Array.replicate ops.size false).getD k false)=fun _=>false:=by
  funext k
  simp only[Array.getD_eq_getD_getElem?,Array.getElem?_replicate]
  split<;>rfl
 have IP:=Ey (f:=g) ops.size
 obtain⟨s1,s2⟩:=FD hs IP
 have MB:aD n ops a0 M0 g (fun _=>false) ops.size=a0:=by
  funext t
  exact mP fun j _ h=>by cases h
 refine Ih aA hs.nI (fun i hi=>g2 i (Nat.zero_le _) hi) (fun ρ' w' aG h1 h2 h3=>hK _ _ _ _ _ g3 h1 h2 h3) ops.size _ ρ0 w0 act (by simp) ?_ (by rw[Wm];exact s1) (by rw[Wm];exact s2) (by rw[Wm,MB];exact ha) fun k hk ku _ gg=>?_
 ·have:∀(d:Nat→Bool) k,jZ d k≤k:=by
   intro d k
   induction k with
   |zero=>exact Nat.le_refl _
   |succ k ih=>simp only[jZ];split<;>omega
  exact this _ _
 ·cases hh:ρ0 (Bd M0 g k) gg with
  |none=>rfl
  |some q=>
   have:=hs.nI (Bd M0 g k) gg (by rw[hh];rfl)
   unfold Bd at this;omega
end
end Go.Proofs.Ytibadaomjlkoaaa
open Go.RowKit
namespace Go.Proofs.Ytibadaomjlkoaaa
inductive iZ where
 |normal
 |exit (id:Nat)
 |ret
def Marks (B:Nat)(D D':List Deferred)(w:World):Prop:=
 ∃rs:List Nat,D'=rs.map (fun r=>{target:=.collected r,args:=#[]})++D∧rs.Nodup∧∀r∈rs,B≤r∧w.heap[r]?=some (.deferred (some []))
theorem Marks.refl (B:Nat)(D:List Deferred)(w:World):Marks B D D w:=⟨[],rfl,List.nodup_nil,fun _ h=>by cases h⟩
theorem bI.fl {ρ:Env}{own:Bool}{x:ae}{b base:Nat}{w:World}(h:bI ρ own x b base w){c:Option (List Deferred)}:w.heap[b]?≠some (.deferred c):=by
 intro e
 rcases h.all with⟨_,c,el,fr,h1,_⟩|⟨_,_,h1⟩
 ·rw[e]at h1;cases h1
 ·cases x with
  |map kk es=>obtain⟨_,_,h1,_⟩:=h1;rw[e]at h1;cases h1
  |loop l st pd fn n a ps as bd df=>obtain⟨_,_,h1,_⟩:=h1;rw[e]at h1;cases h1
  |cells _=>exact h1.elim
  |ints _ _ _=>exact h1.elim
  |bQ _ _=>exact h1.elim
  |cJ _ _ _ _=>exact h1.elim
theorem aR.fl {ρ:Env}{M:AH}{w:World}(h:aR ρ M w){i g:Nat}{own:Bool}{x:ae}{q:Nat×Nat}(hs:slot M i g=some (own,x))(hq:ρ i g=some (some q)){c:Option (List Deferred)}:w.heap[q.1]?≠some (.deferred c):=by
 rcases h.holds i g own x hs with⟨q',e1,e2⟩|⟨e1,_⟩
 ·rw[hq]at e1;injection e1 with e1;injection e1 with e1;subst e1;exact e2.fl
 ·rw[hq]at e1;cases e1
theorem Marks.k7 {B:Nat}{D D':List Deferred}{ρ ρ':Env}{M M':AH}{w w':World}(hs:aR ρ M w)(hE:Ext ρ M w ρ' M' w')(h:Marks B D D' w):Marks B D D' w':=by
 obtain⟨rs,h0,hn,h1⟩:=h
 refine⟨rs,h0,hn,fun r hr=>⟨(h1 r hr).1,?_⟩⟩
 have h2:=(h1 r hr).2
 rw[hE.frame r (Array.getElem?_eq_some_iff.1 h2).1 (fun i g x q h3 h4 h5=>hs.fl h3 h4 (by rw[h5];exact h2))]
 exact h2
theorem Marks.trans {B:Nat}{D D' Ys:List Deferred}{ρ ρ':Env}{M M':AH}{w w':World}(hB:B≤w.heap.size)(hs:aR ρ M w)(hE:Ext ρ M w ρ' M' w')(h:Marks B D D' w)(h':Marks w.heap.size D' Ys w'):Marks B D Ys w':=by
 have hk:=h.k7 hs hE
 obtain⟨rs,rfl,hn,h1⟩:=h
 obtain⟨Yw,rfl,Bi,h2⟩:=h'
 obtain⟨Z7,e2,_,h3⟩:=hk
 have a8:∀r∈rs,r<w.heap.size:=fun r hr=>(Array.getElem?_eq_some_iff.1 (h1 r hr).2).1
 have B7:∀r∈rs,w'.heap[r]?=some (.deferred (some [])):=fun r hr=>by
  have h2:=(h1 r hr).2
  rw[hE.frame r (a8 r hr) (fun i g x q h3 h4 h5=>hs.fl h3 h4 (by rw[h5];exact h2))]
  exact h2
 refine⟨Yw++rs,by simp,?_,fun r hr=>?_⟩
 ·rw[List.nodup_append]
  refine⟨Bi,hn,fun a ha b hb e=>?_⟩
  subst e
  have:=(h2 a ha).1
  have:=a8 a hb
  omega
 ·rcases List.mem_append.1 hr with hr|hr
  ·exact⟨Nat.le_trans hB (h2 r hr).1,(h2 r hr).2⟩
  ·exact⟨(h1 r hr).1,B7 r hr⟩
theorem zy {ρ:Env}{M:AH}{w:World}(hs:aR ρ M w){r:Nat}{c:Option (List Deferred)}(h:w.heap[r]?=some (.deferred c))(o:Obj):aR ρ M (w.putObj r o):=by
 refine⟨hs.nI,hs.tag,hs.bw,fun i g own x cQ=>?_,hs.apart⟩
 rcases hs.holds i g own x cQ with⟨q,e1,e2⟩|e
 ·refine .inl ⟨q,e1,e2.ext (fun _ _ _ h=>h) (World.putObj_heap_other fun e=>?_)⟩
  exact hs.fl cQ e1 (by rw[e];exact h)
 ·exact .inr e
theorem Az {ρ0 ρ:Env}{M0 M:AH}{w0 w:World}(hE:Ext ρ0 M0 w0 ρ M w){r:Nat}(hr:w0.heap.size≤r)(o:Obj):Ext ρ0 M0 w0 ρ M (w.putObj r o):=
 ⟨hE.env,by simpa using hE.size,fun b hb hn=>by rw[World.putObj_heap_other (by omega)];exact hE.frame b hb hn,hE.fresh,hE.os,hE.tape,hE.output⟩
theorem cN {F:Fence}{n:Nat}{P:Program}{fn:Func}{tmps:Array Value}{R:Ending→World→Prop}{ρ0 ρ:Env}{M0 M:AH}{w0:World}{u:FrameMode}(hu:u≠ .run)
 (qP:∀w,aR ρ M w→Ext ρ0 M0 w0 ρ M w→LeavesIn F n P fn tmps R [] u w):∀(rs:List Nat)(w:World),rs.Nodup→(∀r∈rs,w0.heap.size≤r∧w.heap[r]?=some (.deferred (some [])))→aR ρ M w→Ext ρ0 M0 w0 ρ M w→
 LeavesInM F n P fn tmps R (rs.map (fun r=>{target:=.collected r,args:=#[]})) u w
 |[],w,_,_,hs,hE=>qP w hs hE
 |r::rs,w,hn,h,hs,hE=>by
  obtain⟨h1,h2⟩:=h r List.mem_cons_self
  refine⟨hu,.inl ⟨r,_,rfl,run_takeDeferred h2,cN hu qP rs _ (List.nodup_cons.1 hn).2 (fun r' EL=>⟨(h r' (List.mem_cons_of_mem _ EL)).1,?_⟩) (zy hs h2 _) (Az hE h1 _)⟩⟩
  rw[World.putObj_heap_other (fun e=>(List.nodup_cons.1 hn).1 (by rw[←e];exact EL))]
  exact(h r' (List.mem_cons_of_mem _ EL)).2
def er (ρ0:Env)(M0:AH)(w0:World)(D:List Deferred)(n:Nat)(Q:iZ→AA→AH→Prop)(Kp:AV→AH→Prop)(e:Exit)(act:Act)(w':World):Prop:=
 match e with
 | .normal=>∃ρ' M' a' D',aR ρ' M' w'∧Ext ρ0 M0 w0 ρ' M' w'∧Marks w0.heap.size D D' w'∧bt ρ' D' n a' act∧Q .normal a' M'
 | .exit id=>∃ρ' M' a' D',aR ρ' M' w'∧Ext ρ0 M0 w0 ρ' M' w'∧Marks w0.heap.size D D' w'∧bt ρ' D' n a' act∧Q (.exit id) a' M'
 | .ret=>∃ρ' M' a' D',aR ρ' M' w'∧Ext ρ0 M0 w0 ρ' M' w'∧Marks w0.heap.size D D' w'∧bt ρ' D' n a' act∧Q .ret a' M'
 | .panic ch=>∃ρ' M' v D',aR ρ' M' w'∧Ext ρ0 M0 w0 ρ' M' w'∧Marks w0.heap.size D D' w'∧act.defers=D'∧ch=[{v:=v.c ρ',recovered:=false}]∧v.ok ρ'∧Kp v M'
 |_=>False
theorem er.from {ρ0 ρ:Env}{M0 M:AH}{w0 w:World}{D0 D:List Deferred}{n:Nat}{Q:iZ→AA→AH→Prop}{Kp:AV→AH→Prop}{e:Exit}{act:Act}{w':World}(hE:Ext ρ0 M0 w0 ρ M w)(hs:aR ρ M w)(hM:Marks w0.heap.size D0 D w)
 (h:er ρ M w D n Q Kp e act w'):er ρ0 M0 w0 D0 n Q Kp e act w':=by
 cases e with
 |normal=>obtain⟨ρ',M',a',D',h1,h2,h3,h4⟩:=h;exact⟨ρ',M',a',D',h1,hE.trans h2,hM.trans hE.size hs h2 h3,h4⟩
 |exit id=>obtain⟨ρ',M',a',D',h1,h2,h3,h4⟩:=h;exact⟨ρ',M',a',D',h1,hE.trans h2,hM.trans hE.size hs h2 h3,h4⟩
 |ret=>obtain⟨ρ',M',a',D',h1,h2,h3,h4⟩:=h;exact⟨ρ',M',a',D',h1,hE.trans h2,hM.trans hE.size hs h2 h3,h4⟩
 |panic ch=>obtain⟨ρ',M',v,D',h1,h2,h3,h4⟩:=h;exact⟨ρ',M',v,D',h1,hE.trans h2,hM.trans hE.size hs h2 h3,h4⟩
 |goto l=>exact h.elim
 |outgrown=>exact h.elim
abbrev M5:=List (Nat×Value)
def dq (pin:M5)(act:Act):Prop:=∀p∈pin,act.tmps.getD p.1 undef=p.2
def qA (pin:M5)(d:Option Nat):Bool:=pin.all fun p=>!(d==some p.1)
theorem dq.put {pin:M5}{act:Act}{d:Option Nat}{v:Value}(h:dq pin act)(hd:qA pin d=true):dq pin (act.put d v):=by
 intro p hp
 have h1:=h p hp
 have h2:=List.all_eq_true.1 hd p hp
 cases d with
 |none=>exact h1
 |some t=>
  have ht:t≠p.1:=fun e=>by subst e;simp at h2
  show(act.tmps.setIfInBounds t v).getD p.1 undef=_
  rw[Array.getD_eq_getD_getElem?,Array.getElem?_setIfInBounds,if_neg ht,←Array.getD_eq_getD_getElem?]
  exact h1
def eG (pin:M5):Code→Bool
 | .region _ ops _=>ops.toList.all fun o=>qA pin o.dst
 | .seq a b=>eG pin a&&eG pin b
 | .cond _ a b=>eG pin a&&eG pin b
 | .block _ a=>eG pin a
 | .loop a=>eG pin a
 | .scope a=>eG pin a
 | .rangeFunc ..=>pin.isEmpty
 |_=>true
theorem zY (c:Code):eG [] c=true:=by
 induction c with
 |region id ops d=>simp[eG,qA]
 |seq a b h1 h2=>simp[eG,h1,h2]
 |cond o a b h1 h2=>simp[eG,h1,h2]
 |block id a h=>simp[eG,h]
 |loop a h=>simp[eG,h]
 |scope a h=>simp[eG,h]
 |rangeFunc f ps a b=>rfl
 |_=>rfl
theorem dq.nil (act:Act):dq [] act:=fun _ h=>by cases h
section
variable{P:Program}{r:Option Nat}{pin:M5}{Q:Exit→Act→World→Prop}
theorem zb {ops:Array Oper}{i:Nat}{K:Act→World→Prop}{a:Act}{w:World}(rC:¬LetsOut Q)(oM:∀o∈ops.toList,qA pin o.dst=true)(hp:dq pin a)(h:wpOpIn (FW r) 0 P ops Q i K a w):
 wpOpIn (FW r) 0 P ops (fun e a w=>Q e a w∧dq pin a) i (fun a w=>K a w∧dq pin a) a w:=by
 unfold wpOpIn at*
 cases ho:ops[i]? with
 |none=>rw[ho]at h;exact⟨h,hp⟩
 |some o=>
  rw[ho]at h
  simp only at h⊢
  have hd:qA pin o.dst=true:=oM o (by have:=Array.mem_of_getElem? ho;simpa using this)
  split
  ·rename_i hw
   rw[if_pos hw]at h
   unfold Oper.wpIn at*
   refine⟨h.1,?_⟩
   have hh:=h.2
   generalize(o.semAt (FW r).round a.eval).run P w=res at*
   have Bj:∀{R:Exit→Act→World→Prop},LetsOut Q→LetsOut R:=fun h=>absurd h rC
   cases res with
   |ok x w'=>
    cases x<;>simp only[Oper.uponIn]at hh⊢<;>
     first
      |exact⟨hh,hp.put hd⟩
      |exact⟨hh,dq.put (act:={a with defers:=_::a.defers}) hp hd⟩
      |exact⟨hh.1,CallsIn.mono hh.2 (fun e u2 he=>by cases e<;>first|exact⟨he,hp.put hd⟩|exact⟨he,hp⟩|exact Bj he)⟩
      |exact⟨hh.1,RowsIn.mono hh.2 (fun _ _ he=>⟨he,hp.put hd⟩)⟩
      |exact⟨hh.1,RoundIn.mono hh.2 (fun e u2 he=>by cases e<;>first|exact⟨he,hp.put hd⟩|exact⟨he,hp⟩|exact Bj he)⟩
   |halt x w'=>cases x<;>simp only[Oper.uponIn]at hh⊢<;>first|exact⟨hh,hp⟩|exact hh
  ·rename_i hw
   rw[if_neg hw]at h
   exact⟨h.1,h.2,hp.put hd⟩
theorem pf {ops:Array Oper}{i:Nat}{K K':Act→World→Prop}{a:Act}{w:World}(hK:∀a w,K a w→K' a w)(h:wpOpIn (FW r) 0 P ops Q i K a w):wpOpIn (FW r) 0 P ops Q i K' a w:=by
 unfold wpOpIn at*
 split
 ·rename_i ho;rw[ho]at h;exact hK _ _ h
 ·rename_i o ho
  rw[ho]at h
  simp only at h
  split
  ·rename_i hw;rw[if_pos hw]at h;exact Oper.wpIn_mono hK h
  ·rename_i hw;rw[if_neg hw]at h;exact⟨h.1,hK _ _ h.2⟩
theorem vI {ops:Array Oper}(rC:¬LetsOut Q)(oM:∀o∈ops.toList,qA pin o.dst=true):∀(l:List Nat)(a:Act)(w:World),dq pin a→wpOpsIn (FW r) 0 P ops Q l a w→wpOpsIn (FW r) 0 P ops (fun e a w=>Q e a w∧dq pin a) l a w
 |[],a,w,hp,h=>⟨h,hp⟩
 |i::l,a,w,hp,h=>by
  rw[wpOpsIn_cons]at*
  exact pf (fun a w h=>vI rC oM l a w h.2 h.1) (zb rC oM hp h)
theorem qb {ops:Array Oper}(rC:¬LetsOut Q)(oM:∀o∈ops.toList,qA pin o.dst=true):∀(f:Nat)(l:Array Bool)(a:Act)(w:World),dq pin a→wpAnyIn (FW r) 0 P .any ops Q f l a w→wpAnyIn (FW r) 0 P .any ops (fun e a w=>Q e a w∧dq pin a) f l a w
 |0,l,a,w,hp,h=>⟨h.1,h.2,hp⟩
 |f+1,l,a,w,hp,h=>⟨fun hr=>⟨h.1 hr,hp⟩,fun i hi=>pf (fun a w h=>qb rC oM f _ a w h.2 h.1) (zb rC oM hp (h.2 i hi))⟩
end
def Fc (pin:M5)(ρ0:Env)(M0:AH)(w0:World)(D:List Deferred)(n:Nat)(Q:iZ→AA→AH→Prop)(Kp:AV→AH→Prop)(e:Exit)(act:Act)(w':World):Prop:=er ρ0 M0 w0 D n Q Kp e act w'∧dq pin act
theorem er.H6 {ρ0:Env}{M0:AH}{w0:World}{D:List Deferred}{n:Nat}{Q:iZ→AA→AH→Prop}{Kp:AV→AH→Prop}:¬LetsOut (er ρ0 M0 w0 D n Q Kp):=fun⟨_,_,h⟩=>h
@[irreducible] def WA (P:Program)(r:Option Nat)(D0:List Deferred)(n:Nat)(c:Code)(Q:iZ→AA→AH→Prop)(Kp:AV→AH→Prop)(a:AA)(M:AH):Prop:=
  ∀pin D ρ w act,eG pin c=true→dq pin act→aR ρ M w→bt ρ D n a act→c.wpIn (FW r) 0 P (Fc pin ρ M w D n Q Kp) act w
structure Cx where
 P:Program
 T:List TI
 n:Nat
 W:List Nat:=[]
 pl:Nat→Option (List (Nat×Nat)×List Nat):=fun _=>none
 B:Nat→List Nat:=fun _=>[]
 r:Option Nat:=none
 D:List Deferred:=[]
def bO (x:Cx):Code→(iZ→AA→AH→Prop)→(AV→AH→Prop)→AA→AH→Prop
 | .skip,Q,_,a,M=>Q .normal a M
 | .label _,Q,_,a,M=>Q .normal a M
 | .seq c d,Q,Kp,a,M=>bO x c (fun e a M=>match e with
  | .normal=>bO x d Q Kp a M
  |e=>Q e a M) Kp a M
 | .cond o c d,Q,Kp,a,M=>match pc a o with
   | .tt=>bO x c Q Kp a M
   | .ff=>bO x d Q Kp a M
   | .bo b=>(b=true→bO x c Q Kp a M)∧(b=false→bO x d Q Kp a M)
   |_=>False
 | .block id c,Q,Kp,a,M=>bO x c (fun e a M=>match e with
  | .exit L7=>match Nat.beq L7 id with
    |true=>Q .normal a M
    |false=>Q (.exit L7) a M
  |e=>Q e a M) Kp a M
 | .exit id,Q,_,a,M=>Q (.exit id) a M
 | .ret,Q,_,a,M=>Q .ret a M
 | .region id ops draw,Q,Kp,a,M=>match draw with
   |false=>ql x.P x.T x.n x.W ops Kp (fun a M=>Q .normal a M) ops.toList a M
   |true=>match x.pl id with
    |some (cm,_)=>match cm with
     |[]=>ql x.P x.T x.n x.W ops Kp (fun a M=>Q .normal a M) ops.toList a M
     |p::cm=>fx x.P x.T x.n x.W ops Kp (fun a M=>Q .normal a M) (x.B id) [] (p::cm) a M
    |none=>False
 | .loop c,Q,Kp,a,M=>WA x.P x.r x.D x.n (.loop c) Q Kp a M
 | .rangeFunc f ps as c,Q,Kp,a,M=>WA x.P x.r x.D x.n (.rangeFunc f ps as c) Q Kp a M
 |_,_,_,_,_=>False
def aj (pl:Nat→Option (List (Nat×Nat)×List Nat)):Code→Bool
 | .region id ops true=>match pl id with
   |some (cm,ds)=>(match cm with
    |[]=>qI ops
    |p::cm=>oz ops ds [] (p::cm) (Array.replicate ops.size false))&&ops.all (fun o=>cn o.op)&&Nat.ble cm.length ops.size
   |none=>true
 | .seq a b=>aj pl a&&aj pl b
 | .cond _ a b=>aj pl a&&aj pl b
 | .block _ a=>aj pl a
 | .loop a=>aj pl a
 | .rangeFunc _ _ a b=>aj pl a&&aj pl b
 | .scope a=>aj pl a
 |_=>true
theorem fI {x:Cx}{pin:M5}(hT:ao x.P x.T)(hm:x.P.follows .mixedOrders=true){ρ0:Env}{M0:AH}{w0:World}{D0:List Deferred}:
 ∀(c:Code)(bR:aj x.pl c=true)(Q:iZ→AA→AH→Prop)(Kp:AV→AH→Prop)(a:AA)(M:AH)(ρ:Env)(w:World)(act:Act)(D:List Deferred),aR ρ M w→Ext ρ0 M0 w0 ρ M w→Marks w0.heap.size D0 D w→bt ρ D x.n a act→eG pin c=true→dq pin act→bO x c Q Kp a M→
  c.wpIn (FW x.r) 0 x.P (Fc pin ρ0 M0 w0 D0 x.n Q Kp) act w:=by
 intro c
 induction c with
 |skip=>exact fun _ Q Kp a M ρ w act D hs hE hM ha _ hp h=>wpIn_skip ⟨⟨ρ,M,a,D,hs,hE,hM,ha,h⟩,hp⟩
 |label l=>exact fun _ Q Kp a M ρ w act D hs hE hM ha _ hp h=>wpIn_label ⟨⟨ρ,M,a,D,hs,hE,hM,ha,h⟩,hp⟩
 |exit id=>exact fun _ Q Kp a M ρ w act D hs hE hM ha _ hp h=>wpIn_exit ⟨⟨ρ,M,a,D,hs,hE,hM,ha,h⟩,hp⟩
 |ret=>exact fun _ Q Kp a M ρ w act D hs hE hM ha _ hp h=>wpIn_ret ⟨⟨ρ,M,a,D,hs,hE,hM,ha,h⟩,hp⟩
 |seq c d L6 L5=>
  intro bR Q Kp a M ρ w act D hs hE hM ha lS hp h
  simp only[aj,Bool.and_eq_true]at bR
  simp only[eG,Bool.and_eq_true]at lS
  refine wpIn_seq (wpIn_mono (L6 bR.1 _ Kp a M ρ w act D hs hE hM ha lS.1 hp h) fun e aG w' hq=>?_)
  obtain⟨hq,wQ⟩:=hq
  cases e with
  |normal=>obtain⟨ρ',M',a',D',h1,h2,vA,h3,h4⟩:=hq;exact L5 bR.2 Q Kp a' M' ρ' w' aG D' h1 h2 vA h3 lS.2 wQ h4
  |exit id=>exact⟨hq,wQ⟩
  |ret=>exact⟨hq,wQ⟩
  |panic ch=>exact⟨hq,wQ⟩
  |goto l=>exact hq.elim
  |outgrown=>exact hq.elim
 |cond o c d L6 L5=>
  intro bR Q Kp a M ρ w act D hs hE hM ha lS hp h
  simp only[aj,Bool.and_eq_true]at bR
  simp only[eG,Bool.and_eq_true]at lS
  have he:=(ha.ev o).1
  simp only[bO]at h
  split at h<;>rename_i hh<;>(try rw[hh]at he)
  ·exact wpIn_cond_true he (L6 bR.1 Q Kp a M ρ w act D hs hE hM ha lS.1 hp h)
  ·exact wpIn_cond_false he (L5 bR.2 Q Kp a M ρ w act D hs hE hM ha lS.2 hp h)
  ·exact wpIn_cond_split he (fun hb=>L6 bR.1 Q Kp a M ρ w act D hs hE hM ha lS.1 hp (h.1 hb)) (fun hb=>L5 bR.2 Q Kp a M ρ w act D hs hE hM ha lS.2 hp (h.2 hb))
  ·exact h.elim
 |block id c ih=>
  intro bR Q Kp a M ρ w act D hs hE hM ha lS hp h
  refine wpIn_block (wpIn_mono (ih bR _ Kp a M ρ w act D hs hE hM ha lS hp h) fun e aG w' hq=>?_)
  obtain⟨hq,wQ⟩:=hq
  cases e with
  |normal=>exact⟨hq,wQ⟩
  |exit L7=>
   obtain⟨ρ',M',a',D',h1,h2,vA,h3,h4⟩:=hq
   simp only[Exit.inBlock]
   simp only at h4
   split at h4
   ·rename_i hb
    rw[if_pos (Nat.eq_of_beq_eq_true hb)]
    exact⟨⟨ρ',M',a',D',h1,h2,vA,h3,h4⟩,wQ⟩
   ·rename_i hb
    rw[if_neg (Nat.ne_of_beq_eq_false hb)]
    exact⟨⟨ρ',M',a',D',h1,h2,vA,h3,h4⟩,wQ⟩
  |ret=>exact⟨hq,wQ⟩
  |panic ch=>exact⟨hq,wQ⟩
  |goto l=>exact hq.elim
  |outgrown=>exact hq.elim
 |loop c ih=>
  intro bR Q Kp a M ρ w act D hs hE hM ha lS hp h
  simp only[bO]at h
  unfold WA at h
  exact wpIn_mono (h pin D ρ w act lS hp hs ha) fun e aG w' hq=>⟨hq.1.from hE hs hM,hq.2⟩
 |rangeFunc f ps as c=>
  intro bR Q Kp a M ρ w act D hs hE hM ha lS hp h
  simp only[bO]at h
  unfold WA at h
  exact wpIn_mono (h pin D ρ w act lS hp hs ha) fun e aG w' hq=>⟨hq.1.from hE hs hM,hq.2⟩
 |region id ops draw=>
  intro bR Q Kp a M ρ w act D hs hE hM ha lS hp h
  simp only[bO]at h
  split at h
  ·have Ml:∀o∈ops.toList,qA pin o.dst=true:=fun o ho=>List.all_eq_true.1 lS o ho
   refine wpIn_region (vI er.H6 Ml _ _ _ hp ?_)
   have:=ou (r:=x.r) (Q:=er ρ0 M0 w0 D0 x.n Q Kp) hT ops.toList 0 a M ρ w act (by simp) hs (Ext.refl _ _ _) ha h
    (fun a' aG M' ρ' w' h1 h2 h3 h4=>⟨ρ',M',a',D,h3,hE.trans h4,hM.k7 hs h4,h2,h1⟩) (fun rv M' ρ' w' aG h0 h1 h2 h3 h4=>⟨ρ',M',rv,D,h3,hE.trans h4,hM.k7 hs h4,h0,rfl,h2,h1⟩)
   rw[show List.range ops.size=List.range' 0 ops.toList.length by rw[List.range_eq_range',Array.length_toList]]
   exact this
  ·split at h
   ·rename_i cm ds PT
    simp only[aj,PT,Bool.and_eq_true]at bR
    obtain⟨⟨u7,gS⟩,EU⟩:=bR
    have Ml:∀o∈ops.toList,qA pin o.dst=true:=fun o ho=>List.all_eq_true.1 lS o ho
    obtain⟨B,hB⟩:∃B,x.B id=B:=⟨_,rfl⟩
    rw[hB]at h
    have QV:=hp
    have hp:∀(i:Nat) o,ops[i]?=some o→cn o.op=true:=fun i o hi=>by
     exact Array.all_eq_true_iff_forall_mem.1 gS o (Array.mem_of_getElem? hi)
    have vu:aR ρ M {w with drawn:=w.drawn+1}:=⟨hs.nI,hs.tag,hs.bw,fun i g own y hy=>by
     rcases hs.holds i g own y hy with⟨q,h1,h2⟩|h1
     ·exact .inl ⟨q,h1,bI.ext (w:=w) (fun _ _ _ h=>h) rfl h2⟩
     ·exact .inr h1,hs.apart⟩
    have Cl:Ext ρ0 M0 w0 ρ M {w with drawn:=w.drawn+1}:=⟨hE.env,hE.size,hE.frame,hE.fresh,hE.os,hE.tape,hE.output⟩
    have vA:Marks w0.heap.size D0 D {w with drawn:=w.drawn+1}:=hM
    have ZH:Ext ρ M {w with drawn:=w.drawn+1} ρ M {w with drawn:=w.drawn+1}:=Ext.refl _ _ _
    cases cm with
    |nil=>
     refine wpIn_region_any hm (qb er.H6 Ml _ _ _ _ QV (dw (S:=fun _=>True) (ds:=ds) hp _ _ _ _ ?_))
     exact rq (r:=x.r) (Q:=er ρ0 M0 w0 D0 x.n Q Kp) (w0:={w with drawn:=w.drawn+1}) hT u7 vu ha h
      (fun a' aG M' ρ' w' h1 h2 h3 h4=>⟨ρ',M',a',D,h3,Cl.trans h4,vA.k7 vu h4,h2,h1⟩)
    |cons p cm=>
    refine wpIn_region_any hm (qb er.H6 Ml _ _ _ _ QV (dw (S:=SB ρ M B) (ds:=ds) hp _ _ _ _ ?_))
    exact bm (r:=x.r) (Q:=er ρ0 M0 w0 D0 x.n Q Kp) (w0:={w with drawn:=w.drawn+1}) hT hp
     (fun c aG d v w' hq=>by
      obtain⟨ρ',M',u,D',h1,h2,hm,h3,h4⟩:=hq
      exact⟨ρ',M',u,D',h1,h2,hm,by cases d<;>exact h3,h4⟩)
     (p::cm) [] _ ops.size a M ρ _ act (SB ρ M B) (Nat.le_trans (List.length_filter_le _ _) (by simpa using EU)) u7 iY.none vu ZH ha (fun _=>SB.of vu B) (fun _ h=>h) (fun _ ρ' M' w' k1 k2 k3=>nM (SB.of vu B) k1 k2 k3) h
     (fun a' aG M' ρ' w' h1 h2 h3 h4=>⟨ρ',M',a',D,h3,Cl.trans h4,vA.k7 vu h4,h2,h1⟩) (fun rv M' ρ' w' aG h0 h1 h2 h3 h4=>⟨ρ',M',rv,D,h3,Cl.trans h4,vA.k7 vu h4,h0,rfl,h2,h1⟩)
   ·exact h.elim
 |scope c=>exact fun _ Q Kp a M ρ w act D hs hE hM ha _ _ h=>h.elim
 |goto l=>exact fun _ Q Kp a M ρ w act D hs hE hM ha _ _ h=>h.elim
 |refuse Z3=>exact fun _ Q Kp a M ρ w act D hs hE hM ha _ _ h=>h.elim
theorem lh {x:Cx}(hT:ao x.P x.T)(hm:x.P.follows .mixedOrders=true){ρ0:Env}{M0:AH}{w0:World}{D0:List Deferred}:
 ∀(c:Code)(bR:aj x.pl c=true)(Q:iZ→AA→AH→Prop)(Kp:AV→AH→Prop)(a:AA)(M:AH)(ρ:Env)(w:World)(act:Act)(D:List Deferred),aR ρ M w→Ext ρ0 M0 w0 ρ M w→Marks w0.heap.size D0 D w→bt ρ D x.n a act→bO x c Q Kp a M→
  c.wpIn (FW x.r) 0 x.P (er ρ0 M0 w0 D0 x.n Q Kp) act w:=
 fun c bR Q Kp a M ρ w act D hs hE hM ha h=>wpIn_mono (fI (pin:=[]) hT hm c bR Q Kp a M ρ w act D hs hE hM ha (zY c) (dq.nil act) h) fun _ _ _ h=>h.1
theorem AR {x:Cx}(hT:ao x.P x.T)(hm:x.P.follows .mixedOrders=true){c:Code}(bR:aj x.pl c=true){Q:iZ→AA→AH→Prop}{Kp:AV→AH→Prop}{a:AA}{M:AH}(h:bO x c Q Kp a M):
 WA x.P x.r x.D x.n c Q Kp a M:=by
 unfold WA
 exact fun pin D ρ w act lS hp hs ha=>fI hT hm c bR Q Kp a M ρ w act D hs (Ext.refl _ _ _) (Marks.refl _ _ _) ha lS hp h
def Es:AV→AV
 | .tt=>.bo true| .ff=>.bo false| .bo x=>.bo x| .int k n=>.int k n| .str x=>.str x| .np=>.np| .ptr i g off=>.ptr i g off| .me i g sz j o=>.me i g sz j o
 | .ns=>.ns| .sl i g off n c=>.sl i g off n c| .nf=>.nf| .fn q a b=>.fn q a b| .ni=>.ni| .ja t v=>.ja t v| .nm=>.nm| .mp i g=>.mp i g
 | .agg l=>.agg l| .aL l=>.aL l| .raw v=>.raw v
theorem LU (ρ:Env)(v:AV):(Es v).c ρ=v.c ρ:=by cases v<;>rfl
theorem H5 {ρ:Env}{v:AV}(h:v.ok ρ):(Es v).ok ρ:=by cases v<;>exact h
def xX (T:List TI)(M:AH)(a:AA):List ResultVar→(List AV→Prop)→Prop
 |[],K=>K []
 | .tmp t::l,K=>xX T M a l fun vs=>lf (Es (a t)) fun v=>K (v::vs)
 | .cell ad t::l,K=>pV T M t (a ad) fun v=>xX T M a l fun vs=>K (v::vs)
def az (T:List TI)(rs:List ResultVar)(K:AV→AH→Prop)(e:iZ)(a:AA)(M:AH):Prop:=
 match e with
 | .normal| .ret=>xX T M a rs fun vs=>match vs with
   |[v]=>K v M
   |vs=>K (.aL vs) M
 |_=>False
def au (args:List AV):AA:=fun k=>match args[k]? with
 |some v=>v
 |none=>.aL []
def qs (tmps:Array Value):ResultVar→Sem Value
 | .tmp t=>pure (tmps.getD t undef)
 | .cell a t=>do loadVar t (←asAddr (tmps.getD a undef))
theorem iB (fn:Func)(tmps:Array Value):results fn tmps=(do
 let vs←fn.results.mapM (qs tmps)
 pure (if h:vs.size=1 then vs[0]else .tuple vs)):=by
 unfold results
 have:(fun r=>match r with
  |ResultVar.tmp t=>(pure (tmps.getD t undef):Sem Value)
  |ResultVar.cell a t=>do loadVar t (←asAddr (tmps.getD a undef)))=qs tmps:=by
  funext r;cases r<;>rfl
 rw[←this];rfl
theorem iC {P:Program}{T:List TI}(hT:ao P T){M:AH}{a:AA}{ρ:Env}{w:World}{act:Act}{D:List Deferred}{n:Nat}(hs:aR ρ M w)(ha:bt ρ D n a act):
 ∀(l:List ResultVar)(K:List AV→Prop),xX T M a l K→∃vs,K vs∧AV.dE ρ vs∧(l.mapM (qs act.tmps)).run P w=Result.ok (AV.cl ρ vs) w
 |[],K,h=>⟨[],h,trivial,by simp[AV.cl]⟩
 | .tmp t::l,K,h=>by
   obtain⟨vs,h1,h2,h3⟩:=iC hT hs ha l _ h
   refine⟨Es (a t)::vs,ee h1,⟨H5 (ha.ok t),h2⟩,?_⟩
   rw[List.mapM_cons]
   simp[h3,ha.get t,AV.cl,qs,LU]
 | .cell ad t::l,K,h=>by
   obtain⟨v,h1,h2,h3⟩:=fW (P:=P) hT hs.known (hs.id _) h
   obtain⟨vs,k1,k2,k3⟩:=iC hT hs ha l _ h1
   refine⟨v::vs,k1,⟨h2,k2⟩,?_⟩
   have h4:=h3 w (hs.id _)
   have aQ:(qs act.tmps (.cell ad t)).run P w=Result.ok (v.c ρ) w:=by
    simp only[qs]
    rw[ha.get ad]
    simp only[Instr.loadAt]at h4
    generalize(a ad).c ρ=u at h4
    cases u with
    |pointer o=>cases o with
     |none=>simp[Instr.sureAddr]at h4
     |some ad=>simpa[Instr.sureAddr,asAddr]using h4
    |_=>simp[Instr.sureAddr]at h4
   rw[List.mapM_cons]
   simp only[Sem.run_bind]
   rw[aQ]
   simp[k3,AV.cl]
theorem aa.intro {x:Cx}(hT:ao x.P x.T)(hm:x.P.follows .mixedOrders=true){g:Nat}{fn:Func}{c:Code}(hf:x.P.funcs[g]?=some fn)(hb:fn.body=some c)(hg:n9 x.P g=true)(bR:aj x.pl c=true)(hr:x.r=none)(hD:x.D=[])
 {args:List AV}{M:AH}{K Kp:AV→AH→Prop}(hn:fn.ntmps=x.n)(hle:Nat.ble args.length x.n=true)
 (h:bO x c (az x.T fn.results.toList K) Kp (au args) M):aa x.P g args M K Kp:=by
 unfold aa
 refine⟨hg,fun ρ w hs aA=>?_⟩
 have P4:args.length≤x.n:=by simpa using hle
 have hlen:(AV.cl ρ args).toArray.size=args.length:=by simp[AV.aW]
 have ha:bt ρ x.D x.n (au args) {tmps:=(AV.cl ρ args).toArray++Array.replicate (fn.ntmps-(AV.cl ρ args).toArray.size) undef,defers:=[]}:=by
  refine⟨hD.symm,?_,fun t=>?_,fun t=>?_⟩
  ·rw[Array.size_append,Array.size_replicate,hlen,hn];omega
  ·simp only[au];split
   ·exact(AV.aH ρ args).1 aA _ (List.mem_of_getElem? ‹_›)
   ·exact trivial
  ·simp only[au,Array.getD_eq_getD_getElem?]
   by_cases ht:t<args.length
   ·rw[Array.getElem?_append_left (by rw[hlen];exact ht)]
    simp[AV.aW,List.getElem?_eq_getElem ht]
   ·rw[Array.getElem?_append_right (by rw[hlen];omega),List.getElem?_eq_none (by omega)]
    simp only[Array.getElem?_replicate]
    split<;>rfl
 have hw:=lh hT hm c bR _ Kp _ M ρ w _ x.D hs (Ext.refl _ _ _) (Marks.refl _ _ _) ha h
 rw[hD]at hw
 refine callsIn_wide.1 (callsIn_of_wp_marks (F:=Fence.wide) (n:=0) hf hb trivial (wpIn_mono (Q:=er ρ M w [] x.n (az x.T fn.results.toList K) Kp) ?_ fun e act w' hq=>?_))
 ·rw[hr]at hw;exact hw
 ·have fin:∀(ρ':Env)(M':AH)(a':AA)(D':List Deferred),aR ρ' M' w'→Ext ρ M w ρ' M' w'→Marks w.heap.size [] D' w'→bt ρ' D' x.n a' act→(xX x.T M' a' fn.results.toList fun vs=>match vs with|[v]=>K v M'|vs=>K (.aL vs) M')→
   LeavesInM Fence.wide 0 x.P fn act.tmps (gY ρ M w K Kp) act.defers .returning w':=by
   intro ρ' M' a' D' h1 h2 ⟨rs,B7,EM,yw⟩ h3 h4
   rw[h3.defers,B7,List.append_nil]
   refine cN (by simp) (fun w2 g1 g2=>?_) rs w' EM yw h1 h2
   obtain⟨vs,k1,k2,k3⟩:=iC hT g1 h3 _ _ h4
   have yu:(fn.results.mapM (qs act.tmps)).run x.P w2=Result.ok (AV.cl ρ' vs).toArray w2:=by
    rw[Array.mapM_eq_mapM_toList]
    simp[k3]
   show∃v,(results fn act.tmps).run x.P w2=.ok v w2∧gY ρ M w K Kp (.returned v) w2
   rw[iB]
   simp only[Sem.run_bind,yu]
   match vs,k1,k2 with
   |[v],k1,k2=>exact⟨v.c ρ',by simp[AV.cl],ρ',M',g1,g2,v,rfl,k2.1,k1⟩
   |[],k1,k2=>exact⟨(AV.aL []).c ρ',by simp[AV.cl,AV.c],ρ',M',g1,g2,.aL [],rfl,k2,k1⟩
   |v::u::vs,k1,k2=>exact⟨(AV.aL (v::u::vs)).c ρ',by simp[AV.cl,AV.c],ρ',M',g1,g2,.aL (v::u::vs),rfl,k2,k1⟩
  cases e with
  |normal=>obtain⟨ρ',M',a',D',h1,h2,hm,h3,h4⟩:=hq;exact fin ρ' M' a' D' h1 h2 hm h3 h4
  |ret=>obtain⟨ρ',M',a',D',h1,h2,hm,h3,h4⟩:=hq;exact fin ρ' M' a' D' h1 h2 hm h3 h4
  |exit id=>obtain⟨ρ',M',a',D',h1,h2,hm,h3,h4⟩:=hq;exact h4.elim
  |panic ch=>
   obtain⟨ρ',M',v,D',h1,h2,⟨rs,B7,EM,yw⟩,h3,h4,h5,h6⟩:=hq
   show LeavesInM Fence.wide 0 x.P fn act.tmps (gY ρ M w K Kp) act.defers (.panicking ch) w'
   rw[h3,B7,List.append_nil]
   refine cN (F:=Fence.wide) (n:=0) (P:=x.P) (fn:=fn) (tmps:=act.tmps) (R:=gY ρ M w K Kp) (u:=.panicking ch) (by simp) (fun w2 g1 g2=>?_) rs w' EM yw h1 h2
   show gY ρ M w K Kp (.panicked ch) w2
   exact⟨ρ',M',g1,g2,v,h4,h5,h6⟩
  |goto l=>exact hq.elim
  |outgrown=>exact hq.elim
end Go.Proofs.Ytibadaomjlkoaaa
open Go.RowKit
namespace Go.Proofs.Ytibadaomjlkoaaa
mutual
def AV.nb (k:Nat):AV→Bool
 | .ptr i _ _=>Nat.blt i k
 | .me i _ _ _ _=>Nat.blt i k
 | .sl i _ _ _ _=>Nat.blt i k
 | .mp i _=>Nat.blt i k
 | .fn _ a b=>AV.rW k a&&AV.rW k b
 | .ja _ v=>v.nb k
 | .agg l=>AV.rW k l
 | .aL l=>AV.rW k l
 | .raw _=>true| .bo _=>true| .tt=>true| .ff=>true| .int _ _=>true| .str _=>true| .np=>true| .ns=>true| .nf=>true| .ni=>true| .nm=>true
def AV.rW (k:Nat):List AV→Bool
 |[]=>true
 |v::l=>v.nb k&&AV.rW k l
end
def oW (ρ:Env)(k:Nat):Env:=fun i g=>if i<k then ρ i g else none
theorem ss {ρ:Env}{k i:Nat}(h:Nat.blt i k=true)(g:Nat):oW ρ k i g=ρ i g:=by
 have:i<k:=by simpa using h
 simp[oW,this]
mutual
theorem AV.n5 {ρ:Env}{k:Nat}:∀v:AV,v.nb k=true→v.ok ρ→v.ok (oW ρ k)
 | .ptr i g _=>fun h=>by simp only[AV.nb]at h;simp only[AV.ok,ss h];exact fun h=>h
 | .me i g _ _ _=>fun h=>by simp only[AV.nb]at h;simp only[AV.ok,ss h];exact fun h=>h
 | .sl i g _ _ _=>fun h=>by simp only[AV.nb]at h;simp only[AV.ok,ss h];exact fun h=>h
 | .mp i g=>fun h=>by simp only[AV.nb]at h;simp only[AV.ok,ss h];exact fun h=>h
 | .fn _ a b=>fun h k=>by
   simp only[AV.nb,Bool.and_eq_true]at h;simp only[AV.ok]at k⊢
   exact⟨AV.tE a h.1 k.1,AV.tE b h.2 k.2⟩
 | .ja _ v=>fun h k=>by simp only[AV.nb]at h;simp only[AV.ok]at k⊢;exact AV.n5 v h k
 | .agg l=>fun h k=>by simp only[AV.nb]at h;simp only[AV.ok]at k⊢;exact AV.tE l h k
 | .aL l=>fun h k=>by simp only[AV.nb]at h;simp only[AV.ok]at k⊢;exact AV.tE l h k
 | .bo _=>fun _ _=>trivial| .tt=>fun _ _=>trivial| .ff=>fun _ _=>trivial| .int _ _=>fun _ _=>trivial| .str _=>fun _ _=>trivial
 | .np=>fun _ _=>trivial| .ns=>fun _ _=>trivial| .nf=>fun _ _=>trivial| .ni=>fun _ _=>trivial| .nm=>fun _ _=>trivial| .raw _=>fun _ _=>trivial
theorem AV.tE {ρ:Env}{k:Nat}:∀l:List AV,AV.rW k l=true→AV.dE ρ l→AV.dE (oW ρ k) l
 |[]=>fun _ _=>trivial
 |v::l=>fun h k=>by
  simp only[AV.rW,Bool.and_eq_true]at h;simp only[AV.dE]at k⊢
  exact⟨AV.n5 v h.1 k.1,AV.tE l h.2 k.2⟩
end
theorem su {ρ:Env}{k:Nat}:∀i g l,oW ρ k i g=some l→ρ i g=some l:=by
 intro i g l h
 unfold oW at h
 split at h
 ·exact h
 ·cases h
theorem AV.BQ {ρ:Env}{k:Nat}{v:AV}(h:v.nb k=true)(aA:v.ok ρ):v.c (oW ρ k)=v.c ρ:=
 (AV.cX su v (AV.n5 v h aA)).symm
def ae.nb (k:Nat):ae→Prop
 | .cells cs=>AV.rW k cs=true
 | .ints _ _ _=>True
 | .bQ _ _=>True
 | .cJ _ n get _=>∀j,AV.rW k (get j)=true
 | .map _ es=>∀p∈es,p.2.nb k=true
 | .loop _ _ _ _ _ a _ _ _ _=>∀t,(a t).nb k=true
def AO.nb (k:Nat):AO→Prop
 | .gone=>True
 | .one _ _ x=>x.nb k
 | .bw _ _ x=>∀g,(x g).nb k
def lQ (k:Nat):AH→Prop
 |[]=>True
 |o::M=>o.nb k∧lQ k M
theorem ya {k:Nat}:∀{l:List AV},AV.rW k l=true→∀v∈l,v.nb k=true
 |[],_,v,hv=>by cases hv
 |u::l,h,v,hv=>by
  simp only[AV.rW,Bool.and_eq_true]at h
  rcases List.mem_cons.1 hv with rfl|hv
  ·exact h.1
  ·exact ya h.2 v hv
theorem ae.RT {k:Nat}{x:ae}(h:x.nb k){j:Nat}{v:AV}(hv:x.at j=some v):v.nb k=true:=by
 cases x with
 |cells cs=>exact ya h v (List.mem_of_getElem? hv)
 |ints kk xs c=>simp only[ae.at,Option.map_eq_some_iff]at hv;obtain⟨z,_,rfl⟩:=hv;rfl
 |bQ xs c=>simp only[ae.at,Option.map_eq_some_iff]at hv;obtain⟨z,_,rfl⟩:=hv;rfl
 |cJ sz n get c=>
  simp only[ae.at]at hv
  split at hv
  ·exact ya (h _) v (List.mem_of_getElem? hv)
  ·cases hv
 |map _ _=>simp[ae.at]at hv
 |loop _ _ _ _ _ _ _ _ _ _=>simp[ae.at]at hv
theorem bI.cut {ρ:Env}{k:Nat}{own:Bool}{x:ae}{b base:Nat}{w:World}(hn:x.nb k)(h:bI ρ own x b base w):bI (oW ρ k) own x b base w:=by
 rcases h.all with⟨hx,c,e,fr,k1,k2,k3,k4⟩|⟨hx,hb,hs⟩
 ·refine .mk' hx ⟨c,e,fr,k1,k2,fun j v hv=>?_,k4⟩
  have hb:=ae.RT hn hv
  have:=k3 j v hv
  exact⟨AV.n5 v hb this.1,by rw[AV.BQ hb this.1];exact this.2⟩
 ·refine⟨.inr ⟨hx,hb,?_⟩⟩
  cases x with
  |map kk es=>
   obtain⟨fe,clock,h1,h2,h3,h4,h5⟩:=hs
   refine⟨fe,clock,h1,?_,fun p hp=>⟨AV.n5 _ (hn p hp) (h3 p hp).1,(h3 p hp).2⟩,h4,h5⟩
   rw[h2]
   exact List.map_congr_left fun p hp=>by rw[AV.BQ (hn p hp) (h3 p hp).1]
  |loop l st pd fn n a ps as bd df=>
   obtain⟨h1,tmps,h2,h3,h4⟩:=hs
   exact⟨h1,tmps,h2,h3,fun t=>⟨AV.n5 _ (hn t) (h4 t).1,by rw[AV.BQ (hn t) (h4 t).1];exact(h4 t).2⟩⟩
  |cells _=>exact hs.elim
  |ints _ _ _=>exact hs.elim
  |bQ _ _=>exact hs.elim
  |cJ _ _ _ _=>exact hs.elim
theorem Ev {k:Nat}:∀{M:AH},lQ k M→∀{i:Nat}{o:AO},M[i]?=some o→o.nb k
 |[],_,i,o,h=>by simp at h
 |p::M,hn,0,o,h=>by simp at h;subst h;exact hn.1
 |p::M,hn,i+1,o,h=>Ev hn.2 (by simpa using h)
def jb:AH→AH→Prop
 |_,[]=>True
 |o::M,o'::N=>(match o' with
  | .gone=>True
  |o'=>o'=o)∧jb M N
 |[],_::_=>False
theorem vY:∀M:AH,jb M M
 |[]=>trivial
 |o::M=>⟨by cases o<;>first|trivial|rfl,vY M⟩
theorem pt:∀{M N:AH},jb M N→∀{i:Nat}{o:AO},N[i]?=some o→o=.gone∨M[i]?=some o
 |_,[],_,i,o,h=>by simp at h
 |[],_::_,hs,_,_,_=>hs.elim
 |o1::M,o2::N,hs,0,o,h=>by
  simp at h;subst h
  cases o2 with
  |gone=>exact .inl rfl
  |one own g x=>right;simp;exact hs.1.symm
  |bw own m x=>right;simp;exact hs.1.symm
 |o1::M,o2::N,hs,i+1,o,h=>by
  have:=pt hs.2 (i:=i) (by simpa using h)
  simpa using this
theorem jj {M N:AH}(h:jb M N){i g:Nat}{own:Bool}{x:ae}(hs:slot N i g=some (own,x)):slot M i g=some (own,x)∧i<N.length:=by
 unfold slot at hs⊢
 cases ho:N[i]? with
 |none=>rw[ho]at hs;cases hs
 |some o=>
  rw[ho]at hs
  refine⟨?_,(List.getElem?_eq_some_iff.1 ho).1⟩
  rcases pt h ho with rfl|h1
  ·cases hs
  ·rw[h1];exact hs
theorem Ky {M:AH}{k:Nat}(h:lQ k M){i g:Nat}{own:Bool}{x:ae}(hs:slot M i g=some (own,x)):x.nb k:=by
 unfold slot at hs
 cases ho:M[i]? with
 |none=>rw[ho]at hs;cases hs
 |some o=>
  rw[ho]at hs
  have:=Ev h ho
  cases o with
  |gone=>cases hs
  |one bp g' x'=>
   simp only[a9]at hs
   split at hs
   ·injection hs with hs;injection hs with h1 h2;subst h2;exact this
   ·cases hs
  |bw bp m x'=>
   simp only[a9]at hs
   split at hs
   ·injection hs with hs;injection hs with h1 h2;subst h2;exact this g
   ·cases hs
theorem pz {ρ0 ρ:Env}{M0 M N:AH}{w0 w:World}(h0:∀i g,(ρ0 i g).isSome=true→i<M0.length)(hs:aR ρ M w)(hE:Ext ρ0 M0 w0 ρ M w)(h:jb M N)(hn:lQ N.length N)(hl:M0.length≤N.length):
 aR (oW ρ N.length) N w∧Ext ρ0 M0 w0 (oW ρ N.length) N w:=by
 have hk:∀{i:Nat}(g:Nat),i<N.length→oW ρ N.length i g=ρ i g:=fun g hi=>by simp[oW,hi]
 have ID:∀i g,(oW ρ N.length i g).isSome=true→i<N.length∧(ρ i g).isSome=true:=by
  intro i g hi
  unfold oW at hi
  split at hi
  ·exact⟨‹_›,hi⟩
  ·cases hi
 refine⟨⟨fun i g hi=>(ID i g hi).1,?_,?_,?_,?_⟩,⟨?_,hE.size,hE.frame,?_,hE.os,hE.tape,hE.output⟩⟩
 ·intro i g own g' x hm hi
  rcases pt h hm with he|h1
  ·cases he
  ·exact hs.tag i g own g' x h1 (ID i g hi).2
 ·intro i g own m x hm hi
  rcases pt h hm with he|h1
  ·cases he
  ·exact hs.bw i g own m x h1 (ID i g hi).2
 ·intro i g own x cQ
  obtain⟨h1,h2⟩:=jj h cQ
  rw[hk g h2]
  rcases hs.holds i g own x h1 with⟨q,e1,e2⟩|e
  ·exact .inl ⟨q,e1,e2.cut (Ky hn cQ)⟩
  ·exact .inr e
 ·intro i g x i' g' bp x' q q' h1 h2 e1 e2 he
  obtain⟨a1,a2⟩:=jj h h1
  obtain⟨b1,b2⟩:=jj h h2
  exact hs.apart i g x i' g' bp x' q q' a1 b1 (su _ _ _ e1) (su _ _ _ e2) he
 ·intro i g l e
  have:=h0 i g (by simp[e])
  rw[hk g (by omega)]
  exact hE.env i g l e
 ·intro i g x q h1 e1 hb
  exact hE.fresh i g x q (jj h h1).1 (su _ _ _ e1) hb
def vB:List (Nat×AV)→Nat→Option AV
 |[],_=>none
 |(t,v)::l,k=>match Nat.beq k t with
  |true=>some v
  |false=>vB l k
def lz (l:List (Nat×AV))(d:Nat→Value):AA:=fun t=>match vB l t with
 |some v=>v
 |none=>.raw (d t)
def vE:List (Nat×AV)→AA→Prop
 |[],_=>True
 |(t,v)::l,a=>a t=v∧vE l a
def H9 (k:Nat):List (Nat×AV)→Bool
 |[]=>true
 |(_,v)::l=>v.nb k&&H9 k l
theorem sA:∀{l:List (Nat×AV)}{a:AA},vE l a→∀{t:Nat}{v:AV},vB l t=some v→a t=v
 |[],a,_,t,v,h=>by cases h
 |(t',v')::l,a,hh,t,v,h=>by
  simp only[vB]at h
  split at h
  ·rename_i hb
   injection h with h;subst h
   rw[Nat.eq_of_beq_eq_true hb];exact hh.1
  ·exact sA hh.2 h
theorem nk:∀{l:List (Nat×AV)}{k:Nat},H9 k l=true→∀{t:Nat}{v:AV},vB l t=some v→v.nb k=true
 |[],k,_,t,v,h=>by cases h
 |(t',v')::l,k,hh,t,v,h=>by
  simp only[H9,Bool.and_eq_true]at hh
  simp only[vB]at h
  split at h
  ·injection h with h;subst h;exact hh.1
  ·exact nk hh.2 h
theorem Ba {ρ:Env}{D:List Deferred}{n:Nat}{a:AA}{act:Act}(h:bt ρ D n a act){l:List (Nat×AV)}{k:Nat}(hl:H9 k l=true)(ha:vE l a):
 bt (oW ρ k) D n (lz l fun t=>act.tmps.getD t undef) act:=by
 refine⟨h.defers,h.size,fun t=>?_,fun t=>?_⟩
 ·simp only[lz]
  split
  ·rename_i v hv
   exact AV.n5 v (nk hl hv) (by rw[←sA ha hv];exact h.ok t)
  ·exact trivial
 ·simp only[lz]
  split
  ·rename_i v hv
   have he:=sA ha hv
   rw[AV.BQ (nk hl hv) (by rw[←he];exact h.ok t),←he];exact h.get t
  ·rfl
theorem cP {P:Nat→Prop}(h:∃k,P k):∃k,P k∧∀j,P j→k≤j:=by
 obtain⟨k,hk⟩:=h
 induction k using Nat.strongRecOn with
 |_ k ih=>
  by_cases hh:∃j,j<k∧P j
  ·obtain⟨j,hj,hp⟩:=hh;exact ih j hj hp
  ·exact⟨k,hk,fun j hp=>Nat.le_of_not_lt fun hj=>hh ⟨j,hj,hp⟩⟩
def O3 {σ:Type}(I:σ→Prop)(μ:σ→Nat)(A:σ→List (Nat×AV))(H:σ→AH)(Q:iZ→AA→AH→Prop)(k:Nat)(e:iZ)(a:AA)(M:AH):Prop:=
 match e with
 | .normal=>∃s,(I s∧μ s<k)∧vE (A s) a∧jb M (H s)
 |e=>Q e a M
theorem WA.loop {x:Cx}{σ:Type}(I:σ→Prop)(μ:σ→Nat)(A:σ→List (Nat×AV))(H:σ→AH)(s0:σ)
 (hT:ao x.P x.T)(hm:x.P.follows .mixedOrders=true){c:Code}(bR:aj x.pl c=true){Q:iZ→AA→AH→Prop}{Kp:AV→AH→Prop}{a:AA}{M:AH}
 (h0:I s0∧vE (A s0) a∧jb M (H s0))(hlen:∀s,Nat.ble M.length (H s).length=true)(hA:∀s,H9 (H s).length (A s)=true)(hH:∀s,lQ (H s).length (H s))
 (mv:∀s,I s→∀d,bO x c (O3 I μ A H Q (μ s)) Kp (lz (A s) d) (H s)):
 WA x.P x.r x.D x.n (.loop c) Q Kp a M:=by
 unfold WA
 intro pin D0 ρ0 w0 JO lS Sl An MB
 let Inv:Nat→Act→World→Prop:=fun k act w=>dq pin act∧∃s ρ,I s∧μ s=k∧aR ρ (H s) w∧Ext ρ0 M w0 ρ (H s) w∧∃D d,Marks w0.heap.size D0 D w∧bt ρ D x.n (lz (A s) d) act
 have hle:∀s,M.length≤(H s).length:=fun s=>by simpa using hlen s
 have mk:∀s ρ M' a' aG w' D,dq pin aG→I s→aR ρ M' w'→Ext ρ0 M w0 ρ M' w'→Marks w0.heap.size D0 D w'→bt ρ D x.n a' aG→vE (A s) a'→jb M' (H s)→Inv (μ s) aG w':=by
  intro s ρ M' a' aG w' D G2 hI h1 h2 hm h3 h4 h5
  obtain⟨k1,k2⟩:=pz An.nI h1 h2 h5 (hH s) (hle s)
  exact⟨G2,s,_,hI,rfl,k1,k2,D,_,hm,Ba h3 (hA s) h4⟩
 have dB:=mk s0 ρ0 M a JO w0 D0 Sl h0.1 An (Ext.refl _ _ _) (Marks.refl _ _ _) MB h0.2.1 h0.2.2
 refine wpIn_loop (fun act w=>∃k,Inv k act w) (fun act w=>by classical exact if h:∃k,Inv k act w then Classical.choose (cP h)else 0) ⟨_,dB⟩ ?_
 intro act w hI
 have P3:=Classical.choose_spec (cP hI)
 rw[dif_pos hI]
 generalize Classical.choose (cP hI)=k at*
 obtain⟨⟨G2,s,ρ,WE,rfl,hs,hE,D,d,IP,ha⟩,P2⟩:=P3
 refine wpIn_mono (fI hT hm c bR _ Kp _ _ ρ w act D hs hE IP ha lS G2 (mv s WE d)) fun e aG w' hq=>?_
 obtain⟨hq,qN⟩:=hq
 cases e with
 |normal=>
  obtain⟨ρ',M',a',D',h1,h2,Sy,h3,s',⟨h4,h5⟩,h6,h7⟩:=hq
  have Gj:=mk s' ρ' M' a' aG w' D' qN h4 h1 h2 Sy h3 h6 h7
  have hex:∃k,Inv k aG w':=⟨_,Gj⟩
  refine⟨hex,?_⟩
  rw[dif_pos hex]
  have:=(Classical.choose_spec (cP hex)).2 _ Gj
  omega
 |exit id=>exact⟨hq,qN⟩
 |ret=>exact⟨hq,qN⟩
 |panic ch=>exact⟨hq,qN⟩
 |goto l=>exact hq.elim
 |outgrown=>exact hq.elim
theorem aa.mono {P:Program}{g:Nat}{args:List AV}{M:AH}{K K' Kp Yr:AV→AH→Prop}(h:aa P g args M K Kp)(hK:∀r M',K r M'→K' r M')(S9:∀r M',Kp r M'→Yr r M'):aa P g args M K' Yr:=by
 unfold aa at*
 refine⟨h.1,fun ρ w hs aA=>Calls.mono (h.2 ρ w hs aA) fun e w' he=>?_⟩
 obtain⟨ρ',M',h1,h2,h3⟩:=he
 refine⟨ρ',M',h1,h2,?_⟩
 cases e with
 |returned v=>obtain⟨r,e1,e2,e3⟩:=h3;exact⟨r,e1,e2,hK _ _ e3⟩
 |panicked ch=>obtain⟨r,e1,e2,e3⟩:=h3;exact⟨r,e1,e2,S9 _ _ e3⟩
 |outgrown=>exact h3.elim
def Vw (M M':AH)(l l':List AV):Prop:=∀ρ w,aR ρ M w→AV.dE ρ l→∃ρ',aR ρ' M' w∧Ext ρ M w ρ' M' w∧AV.cl ρ' l'=AV.cl ρ l∧AV.dE ρ' l'
theorem aa.view {P:Program}{g:Nat}{args NS:List AV}{M M':AH}{K Kp:AV→AH→Prop}(hv:Vw M M' args NS)(h:aa P g NS M' K Kp):aa P g args M K Kp:=by
 unfold aa at*
 refine⟨h.1,fun ρ w hs aA=>?_⟩
 obtain⟨ρ',h1,h2,h3,h4⟩:=hv ρ w hs aA
 have:=h.2 ρ' w h1 h4
 rw[h3]at this
 refine Calls.mono this fun e w' he=>?_
 obtain⟨gq,lq,k1,k2,k3⟩:=he
 exact⟨gq,lq,k1,h2.trans k2,k3⟩
end Go.Proofs.Ytibadaomjlkoaaa
open Go.RowKit
namespace Go.Proofs.Ytibadaomjlkoaaa
inductive TE where
 |own (i:Nat)
 |fb (i:Nat)
 |ew (i g off:Nat)
 deriving Inhabited
def TE.i:TE→Nat
 | .own i=>i| .fb i=>i| .ew i _ _=>i
def yY (t:List TE)(m j:Nat):Nat:=
 match t[j]? with
 |some e=>e.i
 |none=>m+(j-t.length)
def BF (t:List TE)(j g:Nat):Nat:=
 match t[j]? with
 |some (.ew _ g' _)=>g'
 |_=>g
def BG (t:List TE)(j off:Nat):Nat:=
 match t[j]? with
 |some (.ew _ _ o)=>o+off
 |_=>off
mutual
def AV.rn (t:List TE)(m:Nat):AV→AV
 | .ptr i g off=>.ptr (yY t m i) (BF t i g) (BG t i off)
 | .me i g sz j o=>.me (yY t m i) (BF t i g) sz j (BG t i o)
 | .sl i g off n c=>.sl (yY t m i) (BF t i g) (BG t i off) n c
 | .mp i g=>.mp (yY t m i) (BF t i g)
 | .fn q a b=>.fn q (AV.ri t m a) (AV.ri t m b)
 | .ja ty v=>.ja ty (v.rn t m)
 | .agg l=>.agg (AV.ri t m l)
 | .aL l=>.aL (AV.ri t m l)
 | .bo x=>.bo x| .tt=>.tt| .ff=>.ff| .int k n=>.int k n| .str x=>.str x| .np=>.np| .ns=>.ns| .nf=>.nf| .ni=>.ni| .nm=>.nm| .raw v=>.raw v
def AV.ri (t:List TE)(m:Nat):List AV→List AV
 |[]=>[]
 |v::l=>v.rn t m::AV.ri t m l
end
theorem AV.BE (t:List TE)(m:Nat)(l:List AV):AV.ri t m l=l.map (AV.rn t m):=by
 induction l with
 |nil=>rfl
 |cons v l ih=>simp[AV.ri,ih]
def ae.rn (t:List TE)(m:Nat):ae→ae
 | .cells cs=>.cells (AV.ri t m cs)
 | .ints k xs c=>.ints k xs c
 | .bQ xs c=>.bQ xs c
 | .cJ sz n get c=>.cJ sz n (fun j=>AV.ri t m (get j)) c
 | .map kk es=>.map kk (es.map fun p=>(p.1,p.2.rn t m))
 | .loop l st pd fn n a ps as bd df=>.loop l st pd fn n (fun j=>(a j).rn t m) ps as bd df
theorem ae.qp (t:List TE)(m:Nat)(x:ae):(x.rn t m).row=x.row:=by cases x<;>rfl
def AO.rn (t:List TE)(m:Nat):AO→AO
 | .gone=>.gone
 | .one own g x=>.one own g (x.rn t m)
 | .bw own n x=>.bw own n (fun g=>(x g).rn t m)
def Nc (t:List TE)(m:Nat):AH→AH
 |[]=>[]
 |o::M=>o.rn t m::Nc t m M
theorem HJ (t:List TE)(m:Nat)(M:AH):Nc t m M=M.map (AO.rn t m):=by
 induction M with
 |nil=>rfl
 |cons v l ih=>simp[Nc,ih]
theorem ae.Eg (t:List TE)(m:Nat)(x:ae)(k:Nat):(x.rn t m).at k=(x.at k).map (AV.rn t m):=by
 cases x with
 |cells cs=>simp[ae.rn,ae.at,AV.BE]
 |ints kk xs c=>simp only[ae.rn,ae.at,Option.map_map];rfl
 |bQ xs c=>simp only[ae.rn,ae.at,Option.map_map];rfl
 |cJ sz n get c=>
  simp only[ae.rn,ae.at]
  split
  ·simp[AV.BE]
  ·rfl
 |map _ _=>rfl
 |loop _ _ _ _ _ _ _ _ _ _=>rfl
theorem ae.si (t:List TE)(m:Nat)(x:ae):(x.rn t m).size=x.size:=by
 cases x with
 |cells cs=>simp[ae.rn,ae.size,AV.BE]
 |_=>rfl
theorem ae.KC {t:List TE}{m:Nat}{x:ae}(h:x.bJ):(x.rn t m).bJ:=by
 cases x<;>exact h
def eB (t:List TE)(m:Nat)(off:Nat)(x xc:ae):Prop:=
 off+x.size≤xc.size∧(∀k v,x.at k=some v→xc.at (off+k)=some (v.rn t m))∧(xc.bJ→x.bJ)∧x.row=true∧xc.row=true
theorem eB.same {t:List TE}{m:Nat}{x xc:ae}(h:x.rn t m=xc)(hv:xc.bJ→x.bJ)(hr:x.row=true:=by rfl):eB t m 0 x xc:=by
 subst h
 refine⟨by rw[ae.si];omega,fun k v hv=>?_,hv,hr,by rw[ae.qp];exact hr⟩
 rw[Nat.zero_add,ae.Eg,hv];rfl
theorem eB.ints {t:List TE}{m:Nat}{k:IntKind}{xs ys:List Int}{c co off:Nat}(h1:off+c≤co)(h2:xs=(ys.drop off).take xs.length):eB t m off (.ints k xs c) (.ints k ys co):=by
 refine⟨h1,fun j v hv=>?_,?_,rfl,rfl⟩
 ·simp only[ae.at,Option.map_eq_some_iff]at hv⊢
  obtain⟨z,hz,rfl⟩:=hv
  refine⟨z,?_,rfl⟩
  have hj:=(List.getElem?_eq_some_iff.1 hz).1
  rw[h2,List.getElem?_take,if_pos hj,List.getElem?_drop]at hz
  exact hz
 ·rintro⟨e1,e2⟩
  subst e1;subst e2
  simp at h2
  exact⟨h2,by omega⟩
theorem eB.bQ {t:List TE}{m:Nat}{xs ys:List Bool}{c co off:Nat}(h1:off+c≤co)(h2:xs=(ys.drop off).take xs.length):eB t m off (.bQ xs c) (.bQ ys co):=by
 refine⟨h1,fun j v hv=>?_,?_,rfl,rfl⟩
 ·simp only[ae.at,Option.map_eq_some_iff]at hv⊢
  obtain⟨z,hz,rfl⟩:=hv
  refine⟨z,?_,rfl⟩
  have hj:=(List.getElem?_eq_some_iff.1 hz).1
  rw[h2,List.getElem?_take,if_pos hj,List.getElem?_drop]at hz
  exact hz
 ·rintro⟨e1,e2⟩
  subst e1;subst e2
  simp at h2
  exact⟨h2,by omega⟩
def AO.eX:AO→Bool
 | .one true _ _=>true
 | .bw true _ _=>true
 |_=>false
def AO.pO:AO→Bool
 | .gone=>true
 | .one true _ _=>true
 | .bw true _ _=>true
 |_=>false
def AO.ro:AO→AO
 | .gone=>.gone
 | .one _ g x=>.one false g x
 | .bw _ n x=>.bw false n x
def AO.Hk:AO→Bool
 | .gone=>false
 | .one _ g _=>Nat.beq g 0
 | .bw _ _ _=>true
def ur (t0:List TE)(m:Nat)(Mc:AH):List TE→AH→Prop
 |[],[]=>True
 | .own i::t,o::M=>(Mc[i]?=some (o.rn t0 m)∧o.pO=true)∧ur t0 m Mc t M
 | .fb i::t,o::M=>(o.Hk=true∧∃o',Mc[i]?=some o'∧o.rn t0 m=o'.ro)∧ur t0 m Mc t M
 | .ew i g off::t,o::M=>(∃x own xc,o=.one false 0 x∧slot Mc i g=some (own,xc)∧eB t0 m off x xc)∧ur t0 m Mc t M
 |_,_=>False
def TE.same:TE→TE→Bool
 |e,e'=>Nat.beq e.i e'.i
def TE.eX:TE→Bool
 | .own _=>true
 |_=>false
def bE:List TE→Bool
 |[]=>true
 |e::t=>t.all (fun e'=>!(e.eX||e'.eX)||!(Nat.beq e.i e'.i))&&bE t
def lC:List TE→AH→AH→Prop
 |[],_,M'=>M'.all AO.pO=true
 | .own _::t,_::M,o'::M'=>o'.pO=true∧lC t M M'
 | .fb _::t,o::M,o'::M'=>o'=o∧lC t M M'
 | .ew _ _ _::t,o::M,o'::M'=>o'=o∧lC t M M'
 |_,_,_=>False
def c9 (t0:List TE)(m:Nat):List TE→AH→AH→AH
 | .own i::t,o::M',Mc=>c9 t0 m t M' (Mc.set i (o.rn t0 m))
 |_::t,_::M',Mc=>c9 t0 m t M' Mc
 |[],M',Mc=>Mc++Nc t0 m M'
 |_,[],Mc=>Mc
theorem kf {t0:List TE}{m:Nat}{Mc:AH}:∀{t:List TE}{M:AH},ur t0 m Mc t M→t.length=M.length∧∀(j:Nat) e o,t[j]? =some e→M[j]? =some o→match e with
    | .own i=>Mc[i]? =some (o.rn t0 m)∧o.pO=true
    | .fb i=>o.Hk=true∧∃o',Mc[i]? =some o'∧o.rn t0 m=o'.ro
    | .ew i g off=>∃x own xc,o= .one false 0 x∧slot Mc i g=some (own,xc)∧eB t0 m off x xc
  |[],[],_=>⟨rfl,fun j e o h=>by simp at h⟩
  |[],_::_,h=>by cases h
  | .own i::t,[],h=>by cases h
  | .fb i::t,[],h=>by cases h
  | .ew i g off::t,[],h=>by cases h
  | .own i::t,o::M,h=>by
    obtain⟨h1,h2⟩:=kf h.2
    refine⟨by simp[h1],fun j e o' he ho=> ?_⟩
    cases j with
    |zero=>simp at he ho;subst he;subst ho;exact h.1
    |succ j=>exact h2 j e o' (by simpa using he) (by simpa using ho)
  | .fb i::t,o::M,h=>by
    obtain⟨h1,h2⟩:=kf h.2
    refine⟨by simp[h1],fun j e o' he ho=> ?_⟩
    cases j with
    |zero=>simp at he ho;subst he;subst ho;exact h.1
    |succ j=>exact h2 j e o' (by simpa using he) (by simpa using ho)
  | .ew i g off::t,o::M,h=>by
    obtain⟨h1,h2⟩:=kf h.2
    refine⟨by simp[h1],fun j e o' he ho=> ?_⟩
    cases j with
    |zero=>simp at he ho;subst he;subst ho;exact h.1
    |succ j=>exact h2 j e o' (by simpa using he) (by simpa using ho)
theorem nz:∀{t:List TE}{M M':AH},lC t M M'→t.length≤M'.length∧(∀(j:Nat) o',M'[j]?=some o'→match t[j]? with
 |some (.own _)=>o'.pO=true
 |none=>o'.pO=true
 |_=>M[j]?=some o')
 |[],M,M',h=>⟨Nat.zero_le _,fun j o' ho=>by
    simp only[List.getElem?_nil]
    exact List.all_eq_true.1 h o' (List.mem_of_getElem? ho)⟩
 | .own i::t,o::M,o1::M',h=>by
   obtain⟨h1,h2⟩:=nz h.2
   refine⟨by simpa using h1,fun j o' ho=>?_⟩
   cases j with
   |zero=>simp at ho;subst ho;exact h.1
   |succ j=>simpa using h2 j o' (by simpa using ho)
 | .fb i::t,o::M,o1::M',h=>by
   obtain⟨h1,h2⟩:=nz h.2
   refine⟨by simpa using h1,fun j o' ho=>?_⟩
   cases j with
   |zero=>simp at ho;subst ho;simp[h.1]
   |succ j=>simpa using h2 j o' (by simpa using ho)
 | .ew i g off::t,o::M,o1::M',h=>by
   obtain⟨h1,h2⟩:=nz h.2
   refine⟨by simpa using h1,fun j o' ho=>?_⟩
   cases j with
   |zero=>simp at ho;subst ho;simp[h.1]
   |succ j=>simpa using h2 j o' (by simpa using ho)
 | .own _::_,[],_,h=>by cases h
 | .fb _::_,[],_,h=>by cases h
 | .ew _ _ _::_,[],_,h=>by cases h
 | .own _::_,_::_,[],h=>by cases h
 | .fb _::_,_::_,[],h=>by cases h
 | .ew _ _ _::_,_::_,[],h=>by cases h
theorem fL:∀{t:List TE},bE t=true→∀{j j':Nat}{e e':TE},t[j]?=some e→t[j']?=some e'→(e.eX=true∨e'.eX=true)→e.i=e'.i→j=j'
 |[],_,j,j',e,e',h,_,_,_=>by simp at h
 |a::t,ha,j,j',e,e',h,h',ho,hi=>by
  simp only[bE,Bool.and_eq_true,List.all_eq_true]at ha
  have key:∀b∈t,(a.eX=true∨b.eX=true)→a.i≠b.i:=by
   intro b hb QW heq
   have:=ha.1 b hb
   rw[heq]at this
   have e1:Nat.beq b.i b.i=true:=Nat.beq_refl _
   rw[e1]at this
   rcases QW with h|h<;>simp[h]at this
  cases j with
  |zero=>
   cases j' with
   |zero=>rfl
   |succ j'=>
    simp at h h'
    subst h
    exact absurd hi (key e' (List.mem_of_getElem? h') ho)
  |succ j=>
   cases j' with
   |zero=>
    simp at h h'
    subst h'
    exact absurd hi.symm (key e (List.mem_of_getElem? h) ho.symm)
   |succ j'=>exact congrArg Nat.succ (fL ha.2 (by simpa using h) (by simpa using h') ho hi)
theorem jl (t0:List TE)(m:Nat):∀(t:List TE)(M' Mc:AH),t.length≤M'.length→(c9 t0 m t M' Mc).length=Mc.length+(M'.length-t.length)
 |[],M',Mc,_=>by simp[c9,HJ]
 | .own i::t,o::M',Mc,h=>by
   simp only[c9];rw[jl t0 m t M' _ (by simpa using h)];simp
 | .fb i::t,o::M',Mc,h=>by
   simp only[c9];rw[jl t0 m t M' _ (by simpa using h)];simp
 | .ew i g off::t,o::M',Mc,h=>by
   simp only[c9];rw[jl t0 m t M' _ (by simpa using h)];simp
 |_::_,[],Mc,h=>by simp at h
theorem pC (t0:List TE)(m:Nat):∀(t:List TE)(M' Mc:AH)(k:Nat),t.length≤M'.length→(c9 t0 m t M' Mc)[Mc.length+k]?=(M'[t.length+k]?).map (AO.rn t0 m)
 |[],M',Mc,k,_=>by simp only[c9,HJ];rw[List.getElem?_append_right (by omega)];simp
 | .own i::t,o::M',Mc,k,h=>by
   simp only[c9]
   have:=pC t0 m t M' (Mc.set i (o.rn t0 m)) k (by simpa using h)
   rw[List.length_set]at this
   rw[this,List.length_cons,show t.length+1+k=t.length+k+1 from by omega,List.getElem?_cons_succ]
 | .fb i::t,o::M',Mc,k,h=>by
   simp only[c9]
   rw[pC t0 m t M' Mc k (by simpa using h),List.length_cons,show t.length+1+k=t.length+k+1 from by omega,List.getElem?_cons_succ]
 | .ew i g off::t,o::M',Mc,k,h=>by
   simp only[c9]
   rw[pC t0 m t M' Mc k (by simpa using h),List.length_cons,show t.length+1+k=t.length+k+1 from by omega,List.getElem?_cons_succ]
 |_::_,[],Mc,k,h=>by simp at h
theorem l6 (t0:List TE)(m:Nat):∀(t:List TE)(M' Mc:AH)(i:Nat),i<Mc.length→t.length≤M'.length→(∀j:Nat,t[j]?≠some (TE.own i))→(c9 t0 m t M' Mc)[i]?=Mc[i]?
 |[],M',Mc,i,hi,_,_=>by simp only[c9];rw[List.getElem?_append_left hi]
 | .own i0::t,o::M',Mc,i,hi,h,hn=>by
   simp only[c9]
   rw[l6 t0 m t M' _ i (by simpa using hi) (by simpa using h) (fun j hj=>hn (j+1) (by simpa using hj))]
   rw[List.getElem?_set_ne]
   intro e;subst e;exact hn 0 rfl
 | .fb i0::t,o::M',Mc,i,hi,h,hn=>by
   simp only[c9]
   exact l6 t0 m t M' _ i hi (by simpa using h) (fun j hj=>hn (j+1) (by simpa using hj))
 | .ew i0 g off::t,o::M',Mc,i,hi,h,hn=>by
   simp only[c9]
   exact l6 t0 m t M' _ i hi (by simpa using h) (fun j hj=>hn (j+1) (by simpa using hj))
 |_::_,[],Mc,i,_,h,_=>by simp at h
theorem pB (t0:List TE)(m:Nat):∀(t:List TE)(M' Mc:AH)(i j:Nat),i<Mc.length→t.length≤M'.length→bE t=true→t[j]?=some (.own i)→(c9 t0 m t M' Mc)[i]?=(M'[j]?).map (AO.rn t0 m)
 |[],M',Mc,i,j,_,_,_,hj=>by simp at hj
 |_::_,[],Mc,i,j,_,h,_,_=>by simp at h
 |e::t,o::M',Mc,i,0,hi,h,ha,hj=>by
  simp at hj;subst hj
  simp only[c9]
  rw[l6 t0 m t M' _ i (by simpa using hi) (by simpa using h)]
  ·simp[List.getElem?_set,hi]
  ·intro j hj
   have:=fL ha (j:=0) (j':=j+1) (e:=.own i) (e':=.own i) rfl (by simpa using hj) (.inl rfl) rfl
   omega
 | .own i0::t,o::M',Mc,i,j+1,hi,h,ha,hj=>by
   simp only[c9]
   have qS:bE t=true:=by simp only[bE,Bool.and_eq_true]at ha;exact ha.2
   rw[pB t0 m t M' _ i j (by simpa using hi) (by simpa using h) qS (by simpa using hj)];simp
 | .fb i0::t,o::M',Mc,i,j+1,hi,h,ha,hj=>by
   simp only[c9]
   have qS:bE t=true:=by simp only[bE,Bool.and_eq_true]at ha;exact ha.2
   rw[pB t0 m t M' _ i j hi (by simpa using h) qS (by simpa using hj)];simp
 | .ew i0 g off::t,o::M',Mc,i,j+1,hi,h,ha,hj=>by
   simp only[c9]
   have qS:bE t=true:=by simp only[bE,Bool.and_eq_true]at ha;exact ha.2
   rw[pB t0 m t M' _ i j hi (by simpa using h) qS (by simpa using hj)];simp
def b9 (t:List TE)(ρ:Env):Env:=fun j g=>
 match t[j]? with
 |some (.own i)=>ρ i g
 |some (.fb i)=>ρ i g
 |some (.ew i g' off)=>if g=0 then(ρ i g').map (fun l=>l.map (fun q=>(q.1,q.2+off)))else none
 |none=>none
theorem xJ {t0:List TE}{m:Nat}{o:AO}{g:Nat}:a9 (o.rn t0 m) g=(a9 o g).map (fun x=>(x.1,x.2.rn t0 m)):=by
 cases o with
 |gone=>rfl
 |one own g' x=>simp only[AO.rn,a9];split<;>rfl
 |bw own n x=>simp only[AO.rn,a9];split<;>rfl
theorem Kx {o:AO}{g:Nat}:a9 o.ro g=(a9 o g).map (fun x=>(false,x.2)):=by
 cases o with
 |gone=>rfl
 |one own g' x=>simp only[AO.ro,a9];split<;>rfl
 |bw own n x=>simp only[AO.ro,a9];split<;>rfl
theorem sQ {o:AO}(h:o.pO=true){g:Nat}{own:Bool}{x:ae}(hs:a9 o g=some (own,x)):own=true:=by
 cases o with
 |gone=>cases hs
 |one bp g' x'=>
  cases bp with
  |false=>cases h
  |true=>
   simp only[a9]at hs
   split at hs
   ·injection hs with hs;injection hs with h1 _;exact h1.symm
   ·cases hs
 |bw bp n x'=>
  cases bp with
  |false=>cases h
  |true=>
   simp only[a9]at hs
   split at hs
   ·injection hs with hs;injection hs with h1 _;exact h1.symm
   ·cases hs
end Go.Proofs.Ytibadaomjlkoaaa
open Go.RowKit
namespace Go.Proofs.Ytibadaomjlkoaaa
structure GZ (t:List TE)(m:Nat)(ρ' Kb:Env):Prop where
 out:∀j g l,ρ' j g=some l→∃l0,Kb (yY t m j) (BF t j g)=some l0∧l=l0.map (fun q=>(q.1,q.2+BG t j 0))
theorem xW (t:List TE)(j off:Nat):BG t j off=BG t j 0+off:=by
 unfold BG;split<;>omega
mutual
theorem qq {t:List TE}{m:Nat}{ρ' Kb:Env}(h:GZ t m ρ' Kb):∀v:AV,v.ok ρ'→(v.rn t m).ok Kb∧(v.rn t m).c Kb=v.c ρ'
 | .ptr i g off=>fun aA=>by
   simp only[AV.ok]at aA
   obtain⟨l,hl⟩:=Option.isSome_iff_exists.1 aA
   obtain⟨l0,h1,rfl⟩:=h.out i g l hl
   refine⟨by simp[AV.rn,AV.ok,h1],?_⟩
   simp only[AV.rn,AV.c,h1,hl]
   cases l0 with
   |none=>rfl
   |some q=>simp only[Option.map_some,xW t i off];congr 2;congr 1;omega
 | .me i g sz j off=>fun aA=>by
   simp only[AV.ok]at aA
   obtain⟨l,hl⟩:=Option.isSome_iff_exists.1 aA
   obtain⟨l0,h1,rfl⟩:=h.out i g l hl
   refine⟨by simp[AV.rn,AV.ok,h1],?_⟩
   simp only[AV.rn,AV.c,h1,hl]
   cases l0 with
   |none=>rfl
   |some q=>simp only[Option.map_some,xW t i off];congr 2;congr 1;omega
 | .sl i g off n c=>fun aA=>by
   simp only[AV.ok]at aA
   obtain⟨l,hl⟩:=Option.isSome_iff_exists.1 aA
   obtain⟨l0,h1,rfl⟩:=h.out i g l hl
   refine⟨by simp[AV.rn,AV.ok,h1],?_⟩
   simp only[AV.rn,AV.c,h1,hl]
   cases l0 with
   |none=>rfl
   |some q=>simp only[Option.map_some,xW t i off];congr 2;congr 1;omega
 | .mp i g=>fun aA=>by
   simp only[AV.ok]at aA
   obtain⟨l,hl⟩:=Option.isSome_iff_exists.1 aA
   obtain⟨l0,h1,rfl⟩:=h.out i g l hl
   refine⟨by simp[AV.rn,AV.ok,h1],?_⟩
   simp only[AV.rn,AV.c,h1,hl]
   cases l0 with
   |none=>rfl
   |some q=>rfl
 | .fn q a b=>fun aA=>by
   simp only[AV.ok]at aA
   obtain⟨a1,a2⟩:=rh h a aA.1
   obtain⟨b1,b2⟩:=rh h b aA.2
   exact⟨⟨a1,b1⟩,by simp only[AV.rn,AV.c,a2,b2]⟩
 | .ja ty v=>fun aA=>by
   simp only[AV.ok]at aA
   obtain⟨a1,a2⟩:=qq h v aA
   exact⟨a1,by simp only[AV.rn,AV.c,a2]⟩
 | .agg l=>fun aA=>by
   simp only[AV.ok]at aA
   obtain⟨a1,a2⟩:=rh h l aA
   exact⟨a1,by simp only[AV.rn,AV.c,a2]⟩
 | .aL l=>fun aA=>by
   simp only[AV.ok]at aA
   obtain⟨a1,a2⟩:=rh h l aA
   exact⟨a1,by simp only[AV.rn,AV.c,a2]⟩
 | .bo _=>fun _=>⟨trivial,rfl⟩| .tt=>fun _=>⟨trivial,rfl⟩| .ff=>fun _=>⟨trivial,rfl⟩| .int _ _=>fun _=>⟨trivial,rfl⟩| .str _=>fun _=>⟨trivial,rfl⟩
 | .np=>fun _=>⟨trivial,rfl⟩| .ns=>fun _=>⟨trivial,rfl⟩| .nf=>fun _=>⟨trivial,rfl⟩| .ni=>fun _=>⟨trivial,rfl⟩| .nm=>fun _=>⟨trivial,rfl⟩| .raw _=>fun _=>⟨trivial,rfl⟩
theorem rh {t:List TE}{m:Nat}{ρ' Kb:Env}(h:GZ t m ρ' Kb):∀l:List AV,AV.dE ρ' l→AV.dE Kb (AV.ri t m l)∧AV.cl Kb (AV.ri t m l)=AV.cl ρ' l
 |[]=>fun _=>⟨trivial,rfl⟩
 |v::l=>fun aA=>by
  simp only[AV.dE]at aA
  obtain⟨a1,a2⟩:=qq h v aA.1
  obtain⟨b1,b2⟩:=rh h l aA.2
  exact⟨⟨a1,b1⟩,by simp only[AV.ri,AV.cl,a2,b2]⟩
end
def M8 (t:List TE)(j g:Nat):Bool:=
 match t[j]? with
 |some (.ew _ _ _)=>Nat.beq g 0
 |some _=>true
 |none=>false
mutual
def AV.w0 (t:List TE):AV→Bool
 | .ptr i g _=>M8 t i g
 | .me i g _ _ _=>M8 t i g
 | .sl i g _ _ _=>M8 t i g
 | .mp i g=>M8 t i g
 | .fn _ a b=>AV.o8 t a&&AV.o8 t b
 | .ja _ v=>v.w0 t
 | .agg l=>AV.o8 t l
 | .aL l=>AV.o8 t l
 | .raw _=>true| .bo _=>true| .tt=>true| .ff=>true| .int _ _=>true| .str _=>true| .np=>true| .ns=>true| .nf=>true| .ni=>true| .nm=>true
def AV.o8 (t:List TE):List AV→Bool
 |[]=>true
 |v::l=>v.w0 t&&AV.o8 t l
end
theorem nG {t:List TE}{m:Nat}{ρ:Env}{j g:Nat}(hw:M8 t j g=true)(h:(ρ (yY t m j) (BF t j g)).isSome=true):(b9 t ρ j g).isSome=true:=by
 unfold M8 at hw
 unfold yY BF at h
 unfold b9
 cases ht:t[j]? with
 |none=>rw[ht]at hw;cases hw
 |some e=>
  rw[ht]at hw h
  cases e with
  |own i=>exact h
  |fb i=>exact h
  |ew i g' off=>
   have:g=0:=Nat.eq_of_beq_eq_true hw
   simp only[this,if_true]
   simpa[TE.i]using h
mutual
theorem nj {t:List TE}{m:Nat}{ρ:Env}:∀v:AV,v.w0 t=true→(v.rn t m).ok ρ→v.ok (b9 t ρ)
 | .ptr i g _=>fun hw h=>by simp only[AV.w0]at hw;simp only[AV.rn,AV.ok]at h⊢;exact nG hw h
 | .me i g _ _ _=>fun hw h=>by simp only[AV.w0]at hw;simp only[AV.rn,AV.ok]at h⊢;exact nG hw h
 | .sl i g _ _ _=>fun hw h=>by simp only[AV.w0]at hw;simp only[AV.rn,AV.ok]at h⊢;exact nG hw h
 | .mp i g=>fun hw h=>by simp only[AV.w0]at hw;simp only[AV.rn,AV.ok]at h⊢;exact nG hw h
 | .fn _ a b=>fun hw h=>by
   simp only[AV.w0,Bool.and_eq_true]at hw;simp only[AV.rn,AV.ok]at h⊢
   exact⟨fU a hw.1 h.1,fU b hw.2 h.2⟩
 | .ja _ v=>fun hw h=>by simp only[AV.w0]at hw;simp only[AV.rn,AV.ok]at h⊢;exact nj v hw h
 | .agg l=>fun hw h=>by simp only[AV.w0]at hw;simp only[AV.rn,AV.ok]at h⊢;exact fU l hw h
 | .aL l=>fun hw h=>by simp only[AV.w0]at hw;simp only[AV.rn,AV.ok]at h⊢;exact fU l hw h
 | .bo _=>fun _ _=>trivial| .tt=>fun _ _=>trivial| .ff=>fun _ _=>trivial| .int _ _=>fun _ _=>trivial| .str _=>fun _ _=>trivial
 | .np=>fun _ _=>trivial| .ns=>fun _ _=>trivial| .nf=>fun _ _=>trivial| .ni=>fun _ _=>trivial| .nm=>fun _ _=>trivial| .raw _=>fun _ _=>trivial
theorem fU {t:List TE}{m:Nat}{ρ:Env}:∀l:List AV,AV.o8 t l=true→AV.dE ρ (AV.ri t m l)→AV.dE (b9 t ρ) l
 |[]=>fun _ _=>trivial
 |v::l=>fun hw h=>by
  simp only[AV.o8,Bool.and_eq_true]at hw;simp only[AV.ri,AV.dE]at h⊢
  exact⟨nj v hw.1 h.1,fU l hw.2 h.2⟩
end
theorem uy {t:List TE}{m:Nat}{ρ:Env}:GZ t m (b9 t ρ) ρ:=by
 constructor
 intro j g l hl
 unfold b9 at hl
 unfold yY BF BG
 cases ht:t[j]? with
 |none=>rw[ht]at hl;cases hl
 |some e=>
  rw[ht]at hl
  cases e with
  |own i=>exact⟨l,hl,by cases l<;>rfl⟩
  |fb i=>exact⟨l,hl,by cases l<;>rfl⟩
  |ew i g' off=>
   simp only at hl
   split at hl
   ·rw[Option.map_eq_some_iff]at hl
    obtain⟨l0,h1,h2⟩:=hl
    exact⟨l0,h1,h2.symm⟩
   ·cases hl
section
variable{t:List TE}{Mc M:AH}{ρ:Env}{w:World}
theorem sR {M:AH}{i g:Nat}{own:Bool}{x:ae}(h:slot M i g=some (own,x)):∃o,M[i]?=some o∧a9 o g=some (own,x):=by
 unfold slot at h
 cases ho:M[i]? with
 |none=>rw[ho]at h;cases h
 |some o=>rw[ho]at h;exact⟨o,rfl,h⟩
theorem se {M:AH}{i g:Nat}{o:AO}{y:Option (Bool×ae)}(h1:M[i]?=some o)(h2:a9 o g=y):slot M i g=y:=by
 unfold slot;rw[h1];exact h2
theorem mM (fG:ur t Mc.length Mc t M){j g:Nat}{own:Bool}{x:ae}(hs:slot M j g=some (own,x)):
 (∃i,t[j]?=some (.own i)∧slot Mc i g=some (own,x.rn t Mc.length)∧own=true)∨
 (∃i bp,t[j]?=some (.fb i)∧slot Mc i g=some (bp,x.rn t Mc.length)∧own=false)∨
 (∃i g' off bp xc,t[j]?=some (.ew i g' off)∧g=0∧slot Mc i g'=some (bp,xc)∧eB t Mc.length off x xc∧own=false):=by
 obtain⟨hl,ck⟩:=kf fG
 obtain⟨o,ho,rB⟩:=sR hs
 have hj:j<t.length:=by rw[hl];exact(List.getElem?_eq_some_iff.1 ho).1
 obtain⟨e,he⟩:∃e,t[j]?=some e:=⟨_,List.getElem?_eq_getElem hj⟩
 have:=ck j e o he ho
 cases e with
 |own i=>
  refine .inl ⟨i,he,?_,sQ this.2 rB⟩
  exact se this.1 (by rw[xJ,rB];rfl)
 |fb i=>
  obtain⟨_,o',h1,h2⟩:=this
  have h3:a9 (o.rn t Mc.length) g=a9 o'.ro g:=by rw[h2]
  rw[xJ,Kx,rB]at h3
  cases hh:a9 o' g with
  |none=>rw[hh]at h3;cases h3
  |some y=>
   rw[hh]at h3
   simp only[Option.map_some,Option.some.injEq,Prod.mk.injEq]at h3
   obtain⟨bp,xc⟩:=y
   refine .inr (.inl ⟨i,bp,he,se h1 ?_,h3.1⟩)
   rw[hh,h3.2]
 |ew i g' off=>
  obtain⟨x0,bp,xc,rfl,h2,h3⟩:=this
  simp only[a9]at rB
  split at rB
  ·injection rB with rB;injection rB with a b;subst a;subst b
   exact .inr (.inr ⟨i,g',off,bp,xc,he,‹_›,h2,h3,rfl⟩)
  ·cases rB
theorem iV (fG:ur t Mc.length Mc t M){j g:Nat}{x:ae}{q:Nat×Nat}(hs:slot M j g=some (true,x))(hq:b9 t ρ j g=some (some q)):
 ∃i,t[j]?=some (.own i)∧slot Mc i g=some (true,x.rn t Mc.length)∧ρ i g=some (some q):=by
 rcases mM fG hs with⟨i,h1,h2,_⟩|⟨_,_,_,_,h⟩|⟨_,_,_,_,_,_,_,_,_,h⟩
 ·unfold b9 at hq;rw[h1]at hq;exact⟨i,h1,h2,hq⟩
 ·cases h
 ·cases h
def ae.w0 (t:List TE):ae→Prop
 | .cells cs=>AV.o8 t cs=true
 | .ints _ _ _=>True
 | .bQ _ _=>True
 | .cJ _ n get _=>∀j,AV.o8 t (get j)=true
 | .map _ es=>∀p∈es,p.2.w0 t=true
 | .loop _ _ _ _ _ a _ _ _ _=>∀j,(a j).w0 t=true
def AO.w0 (t:List TE):AO→Prop
 | .gone=>True
 | .one _ _ x=>x.w0 t
 | .bw _ _ x=>∀g,(x g).w0 t
def Oa (t:List TE):AH→Prop
 |[]=>True
 |o::M=>o.w0 t∧Oa t M
theorem xB {t:List TE}:∀{l:List AV},AV.o8 t l=true→∀v∈l,v.w0 t=true
 |[],_,v,hv=>by cases hv
 |u::l,h,v,hv=>by
  simp only[AV.o8,Bool.and_eq_true]at h
  rcases List.mem_cons.1 hv with rfl|hv
  ·exact h.1
  ·exact xB h.2 v hv
theorem ae.Rf {t:List TE}{x:ae}(h:x.w0 t){j:Nat}{v:AV}(hv:x.at j=some v):v.w0 t=true:=by
 cases x with
 |cells cs=>exact xB h v (List.mem_of_getElem? hv)
 |ints kk xs c=>simp only[ae.at,Option.map_eq_some_iff]at hv;obtain⟨z,_,rfl⟩:=hv;rfl
 |bQ xs c=>simp only[ae.at,Option.map_eq_some_iff]at hv;obtain⟨z,_,rfl⟩:=hv;rfl
 |cJ sz n get c=>
  simp only[ae.at]at hv
  split at hv
  ·exact xB (h _) v (List.mem_of_getElem? hv)
  ·cases hv
 |map _ _=>simp[ae.at]at hv
 |loop _ _ _ _ _ _ _ _ _ _=>simp[ae.at]at hv
theorem DU {t:List TE}:∀{M:AH},Oa t M→∀{i:Nat}{o:AO},M[i]?=some o→o.w0 t
 |[],_,i,o,h=>by simp at h
 |p::M,hn,0,o,h=>by simp at h;subst h;exact hn.1
 |p::M,hn,i+1,o,h=>DU hn.2 (by simpa using h)
theorem Kw {t:List TE}{M:AH}(h:Oa t M){i g:Nat}{own:Bool}{x:ae}(hs:slot M i g=some (own,x)):x.w0 t:=by
 obtain⟨o,ho,rB⟩:=sR hs
 have:=DU h ho
 cases o with
 |gone=>cases rB
 |one bp g' x'=>
  simp only[a9]at rB
  split at rB
  ·injection rB with rB;injection rB with h1 h2;subst h2;exact this
  ·cases rB
 |bw bp m x'=>
  simp only[a9]at rB
  split at rB
  ·injection rB with rB;injection rB with h1 h2;subst h2;exact this g
  ·cases rB
theorem uS (hs:aR ρ Mc w)(o9:bE t=true)(fG:ur t Mc.length Mc t M)(PH:Oa t M):aR (b9 t ρ) M w:=by
 obtain⟨hl,ck⟩:=kf fG
 have hR:GZ t Mc.length (b9 t ρ) ρ:=uy
 have Qg:∀j g,(b9 t ρ j g).isSome=true→∃e,t[j]?=some e:=by
  intro j g h
  unfold b9 at h
  cases ht:t[j]? with
  |none=>rw[ht]at h;cases h
  |some e=>exact⟨e,rfl⟩
 refine⟨?_,?_,?_,?_,?_⟩
 ·intro j g h
  obtain⟨e,he⟩:=Qg j g h
  rw[←hl];exact(List.getElem?_eq_some_iff.1 he).1
 ·intro j g own g' x hm h
  obtain⟨e,he⟩:=Qg j g h
  have:=ck j e _ he hm
  unfold b9 at h
  rw[he]at h
  cases e with
  |own i=>exact hs.tag i g own g' _ this.1 h
  |fb i=>
   obtain⟨_,o',h1,h2⟩:=this
   cases o' with
   |gone=>cases h2
   |one nN g2 x2=>injection h2 with _ e2 _;subst e2;exact hs.tag i g nN _ x2 h1 h
   |bw _ _ _=>cases h2
  |ew i g2 off=>
   obtain⟨x0,nN,xc,e0,_,_⟩:=this
   injection e0 with _ e1 _
   simp only at h
   split at h
   ·omega
   ·cases h
 ·intro j g own n x hm h
  obtain⟨e,he⟩:=Qg j g h
  have:=ck j e _ he hm
  unfold b9 at h
  rw[he]at h
  cases e with
  |own i=>exact hs.bw i g own n _ this.1 h
  |fb i=>
   obtain⟨_,o',h1,h2⟩:=this
   cases o' with
   |gone=>cases h2
   |one nN g2 x2=>cases h2
   |bw nN n2 x2=>injection h2 with _ e2 _;subst e2;exact hs.bw i g nN _ x2 h1 h
  |ew i g2 off=>
   obtain⟨x0,nN,xc,e0,_,_⟩:=this
   cases e0
 ·intro j g own x cQ
  have UI:=Kw PH cQ
  have Xn:∀(bp:Bool)(b base:Nat),bI ρ bp (x.rn t Mc.length) b base w→x.row=false→bI (b9 t ρ) own x b base w:=by
   intro bp b base hh hx
   rcases hh.all with⟨h0,_⟩|⟨_,hb,hs⟩
   ·rw[ae.qp,hx]at h0;cases h0
   ·refine⟨.inr ⟨hx,hb,?_⟩⟩
    cases x with
    |map kk es=>
     obtain⟨fe,clock,h1,h2,h3,h4,h5⟩:=hs
     have aA:∀p∈es,p.2.ok (b9 t ρ):=fun p hp=>nj p.2 (UI p hp) (h3 (p.1,p.2.rn t Mc.length) (List.mem_map_of_mem hp)).1
     refine⟨fe,clock,h1,?_,fun p hp=>⟨aA p hp,(h3 (p.1,p.2.rn t Mc.length) (List.mem_map_of_mem hp)).2⟩,h4,h5⟩
     rw[h2,List.map_map]
     exact List.map_congr_left fun p hp=>by show(kk.v p.1,(p.2.rn t Mc.length).c ρ)=_;rw[(qq hR p.2 (aA p hp)).2]
    |loop l st pd fn n a ps as bd df=>
     obtain⟨h1,tmps,h2,h3,h4⟩:=hs
     have aA:∀j,(a j).ok (b9 t ρ):=fun j=>nj (a j) (UI j) (h4 j).1
     exact⟨h1,tmps,h2,h3,fun j=>⟨aA j,by rw[(h4 j).2,(qq hR (a j) (aA j)).2]⟩⟩
    |cells _=>exact hs.elim
    |ints _ _ _=>exact hs.elim
    |bQ _ _=>exact hs.elim
    |cJ _ _ _ _=>exact hs.elim
  have back:∀(bp:Bool)(xc:ae)(b base off:Nat),x.row=true→xc.row=true→bI ρ bp xc b base w→(∀k v,x.at k=some v→xc.at (off+k)=some (v.rn t Mc.length))→off+x.size≤xc.size→(own=true→bp=true)→bI (b9 t ρ) own x b (base+off) w:=by
   intro bp xc b base off qL UJ hh fu ep B9
   obtain⟨c,e,fr,k1,k2,k3,k4⟩:=hh.out UJ
   refine .mk' qL ⟨c,e,fr,k1,by omega,fun k v hv=>?_,fun h=>k4 (B9 h)⟩
   have h1:=k3 _ _ (fu k v hv)
   have h2:=nj v (ae.Rf UI hv) h1.1
   rw[Nat.add_assoc]
   exact⟨h2,by rw[←(qq hR v h2).2];exact h1.2⟩
  rcases mM fG cQ with⟨i,h1,h2,h3⟩|⟨i,bp,h1,h2,h3⟩|⟨i,g',off,bp,xc,h1,h0,h2,h3,h4⟩
  ·have he:b9 t ρ j g=ρ i g:=by unfold b9;rw[h1]
   rcases hs.holds i g _ _ h2 with⟨q,e1,e2⟩|⟨e1,e2⟩
   ·exact .inl ⟨q,by rw[he];exact e1,if hx:x.row=true then back own _ q.1 q.2 0 hx (by rw[ae.qp];exact hx) e2 (fun k v hv=>by rw[Nat.zero_add,ae.Eg,hv];rfl) (by rw[ae.si];omega) (fun h=>h)else Xn own _ _ e2 (by simpa using hx)⟩
   ·exact .inr ⟨by rw[he];exact e1,by cases x<;>exact e2⟩
  ·have he:b9 t ρ j g=ρ i g:=by unfold b9;rw[h1]
   rcases hs.holds i g _ _ h2 with⟨q,e1,e2⟩|⟨e1,e2⟩
   ·exact .inl ⟨q,by rw[he];exact e1,if hx:x.row=true then back bp _ q.1 q.2 0 hx (by rw[ae.qp];exact hx) e2 (fun k v hv=>by rw[Nat.zero_add,ae.Eg,hv];rfl) (by rw[ae.si];omega) (fun h=>by rw[h3]at h;cases h)else Xn bp _ _ e2 (by simpa using hx)⟩
   ·exact .inr ⟨by rw[he];exact e1,by cases x<;>exact e2⟩
  ·have he:b9 t ρ j g=(ρ i g').map (fun l=>l.map (fun q=>(q.1,q.2+off))):=by unfold b9;rw[h1];simp[h0]
   rcases hs.holds i g' _ _ h2 with⟨q,e1,e2⟩|⟨e1,e2⟩
   ·exact .inl ⟨(q.1,q.2+off),by rw[he,e1];rfl,back bp _ q.1 q.2 off h3.2.2.2.1 h3.2.2.2.2 e2 h3.2.1 h3.1 (fun h=>by rw[h4]at h;cases h)⟩
   ·exact .inr ⟨by rw[he,e1];rfl,h3.2.2.1 e2⟩
 ·intro j g x j' g' bp x' q q' gp nQ hq Bg VL
  obtain⟨i,a1,a2,a3⟩:=iV fG gp hq
  rcases mM fG nQ with⟨i',h1,h2,h3⟩|⟨i',nN,h1,h2,h3⟩|⟨i',g2,off,nN,xc,h1,h0,h2,h3,h4⟩
  ·have he:ρ i' g'=some (some q'):=by unfold b9 at Bg;rw[h1]at Bg;exact Bg
   obtain⟨e1,e2⟩:=hs.apart i g _ i' g' _ _ q q' a2 h2 a3 he VL
   exact⟨fL o9 a1 h1 (.inl rfl) e1,e2⟩
  ·have he:ρ i' g'=some (some q'):=by unfold b9 at Bg;rw[h1]at Bg;exact Bg
   obtain⟨e1,e2⟩:=hs.apart i g _ i' g' _ _ q q' a2 h2 a3 he VL
   exact⟨fL o9 a1 h1 (.inl rfl) e1,e2⟩
  ·exfalso
   unfold b9 at Bg
   rw[h1]at Bg
   simp only[h0,if_true,Option.map_eq_some_iff]at Bg
   obtain⟨l,J0,oO⟩:=Bg
   obtain⟨q0,e0,e3⟩:=oO
   subst e0
   obtain⟨e1,e2⟩:=hs.apart i g _ i' g2 _ _ q q0 a2 h2 a3 J0 (by rw[VL,←e3])
   have:=fL o9 a1 h1 (.inl rfl) e1
   subst this
   rw[a1]at h1;cases h1
end
end Go.Proofs.Ytibadaomjlkoaaa
open Go.RowKit
namespace Go.Proofs.Ytibadaomjlkoaaa
def fQ:List TE→Nat→Option Nat
 |[],_=>none
 | .own i::t,k=>if i=k then some 0 else(fQ t k).map (·+1)
 |_::t,k=>(fQ t k).map (·+1)
theorem eh:∀{t:List TE}{k j:Nat},fQ t k=some j→t[j]?=some (.own k)
 |[],k,j,h=>by cases h
 | .own i::t,k,j,h=>by
   simp only[fQ]at h
   split at h
   ·injection h with h;subst h;subst_vars;rfl
   ·obtain⟨j',h1,rfl⟩:=Option.map_eq_some_iff.1 h
    simpa using eh h1
 | .fb i::t,k,j,h=>by
   obtain⟨j',h1,rfl⟩:=Option.map_eq_some_iff.1 h
   simpa using eh h1
 | .ew i g off::t,k,j,h=>by
   obtain⟨j',h1,rfl⟩:=Option.map_eq_some_iff.1 h
   simpa using eh h1
theorem fp:∀{t:List TE}{k:Nat},fQ t k=none→∀j:Nat,t[j]?≠some (TE.own k)
 |[],k,h,j=>by simp
 | .own i::t,k,h,j=>by
   simp only[fQ]at h
   split at h
   ·cases h
   ·have h':=Option.map_eq_none_iff.1 h
    cases j with
    |zero=>simp only[List.getElem?_cons_zero];intro e;injection e with e;injection e with e;exact‹¬_› e
    |succ j=>simpa using fp h' j
 | .fb i::t,k,h,j=>by
   have h':=Option.map_eq_none_iff.1 h
   cases j with
   |zero=>simp
   |succ j=>simpa using fp h' j
 | .ew i g off::t,k,h,j=>by
   have h':=Option.map_eq_none_iff.1 h
   cases j with
   |zero=>simp
   |succ j=>simpa using fp h' j
def p4 (t:List TE)(m:Nat)(ρ ek:Env):Env:=fun i g=>
 match ρ i g with
 |some l=>some l
 |none=>if m≤i then ek (t.length+(i-m)) g else match fQ t i with
  |some j=>ek j g
  |none=>none
set_option maxHeartbeats 1000000 in
theorem uR {t:List TE}{Mc M M':AH}{ρ ek:Env}{w w':World}(hs:aR ρ Mc w)(o9:bE t=true)(fG:ur t Mc.length Mc t M)(IW:lC t M M')
 (nQ:aR ek M' w')(hE:Ext (b9 t ρ) M w ek M' w')(gp:aR (b9 t ρ) M w):
 GZ t Mc.length ek (p4 t Mc.length ρ ek)∧aR (p4 t Mc.length ρ ek) (c9 t Mc.length t M' Mc) w'∧Ext ρ Mc w (p4 t Mc.length ρ ek) (c9 t Mc.length t M' Mc) w':=by
 obtain⟨hl,ck⟩:=kf fG
 obtain⟨hlen,V5⟩:=nz IW
 have hold:∀i g l,ρ i g=some l→p4 t Mc.length ρ ek i g=some l:=fun i g l h=>by simp only[p4,h]
 have B9:∀i j:Nat,t[j]?=some (TE.own i)→i<Mc.length∧∀g,p4 t Mc.length ρ ek i g=ek j g:=by
  intro i j hj
  have Ap:j<M.length:=by rw[←hl];exact(List.getElem?_eq_some_iff.1 hj).1
  have hi:i<Mc.length:=by
   have:=ck j _ _ hj (List.getElem?_eq_getElem Ap)
   exact(List.getElem?_eq_some_iff.1 this.1).1
  refine⟨hi,fun g=>?_⟩
  have hc:b9 t ρ j g=ρ i g:=by unfold b9;rw[hj]
  unfold p4
  cases hr:ρ i g with
  |some l=>exact(hE.env j g l (by rw[hc,hr])).symm
  |none=>
   simp only
   rw[if_neg (by omega)]
   cases hf:fQ t i with
   |none=>exact absurd hj (fp hf j)
   |some j'=>rw[fL o9 hj (eh hf) (.inl rfl) rfl]
 have lL:∀k g,p4 t Mc.length ρ ek (Mc.length+k) g=ek (t.length+k) g:=by
  intro k g
  unfold p4
  cases hr:ρ (Mc.length+k) g with
  |some l=>have:=hs.nI (Mc.length+k) g (by rw[hr];rfl);omega
  |none=>simp only;rw[if_pos (by omega),show Mc.length+k-Mc.length=k from by omega]
 have Nv:∀i,i<Mc.length→(∀j:Nat,t[j]?≠some (TE.own i))→∀g,p4 t Mc.length ρ ek i g=ρ i g:=by
  intro i hi hn g
  unfold p4
  cases hr:ρ i g with
  |some l=>rfl
  |none=>
   simp only
   rw[if_neg (by omega)]
   cases hf:fQ t i with
   |none=>rfl
   |some j=>exact absurd (eh hf) (hn j)
 have hR:GZ t Mc.length ek (p4 t Mc.length ρ ek):=by
  constructor
  intro j g l JZ
  unfold yY BF BG
  have Y8:j<M'.length:=nQ.nI j g (by rw[JZ];rfl)
  have UP:=List.getElem?_eq_getElem Y8
  have hk:=V5 j _ UP
  cases ht:t[j]? with
  |none=>
   have Gq:t.length≤j:=by simpa using ht
   simp only
   refine⟨l,?_,by cases l<;>rfl⟩
   rw[lL,show t.length+(j-t.length)=j from by omega];exact JZ
  |some e=>
   rw[ht]at hk
   cases e with
   |own i=>exact⟨l,((B9 i j ht).2 g).trans JZ,by cases l<;>rfl⟩
   |fb i=>
    simp only at hk
    have h0:=(ck j _ _ ht hk).1
    have cQ:∃own x,slot M j g=some (own,x):=by
     unfold slot
     rw[hk]
     generalize M'[j]=o at*
     cases o with
     |gone=>cases h0
     |one own g1 x=>
      have:g1=0:=Nat.eq_of_beq_eq_true h0
      have h2:=nQ.tag j g own g1 x UP (by rw[JZ];rfl)
      exact⟨own,x,by simp only[a9];rw[if_pos (by omega)]⟩
     |bw own n x=>
      have h2:=nQ.bw j g own n x UP (by rw[JZ];rfl)
      exact⟨own,x g,by simp only[a9];rw[if_pos h2]⟩
    obtain⟨own,x,cQ⟩:=cQ
    have hc:b9 t ρ j g=ρ i g:=by unfold b9;rw[ht]
    have:ρ i g=some l:=by
     rcases gp.holds j g own x cQ with⟨q,e1,_⟩|⟨e1,_⟩
     ·have:=hE.env j g _ e1;rw[JZ]at this;rw[←hc,e1,this]
     ·have:=hE.env j g _ e1;rw[JZ]at this;rw[←hc,e1,this]
    exact⟨l,hold i g l this,by cases l<;>rfl⟩
   |ew i g' off=>
    simp only at hk
    obtain⟨x,own,xc,ho,h1,h2⟩:=ck j _ _ ht hk
    have hg:g=0:=by
     have:=nQ.tag j g false 0 x (by rw[UP,ho]) (by rw[JZ];rfl)
     omega
    subst hg
    have cQ:slot M j 0=some (false,x):=se (o:=M'[j]) hk (by rw[ho];rfl)
    have hc:b9 t ρ j 0=(ρ i g').map (fun l=>l.map (fun q=>(q.1,q.2+off))):=by unfold b9;rw[ht];simp
    have:b9 t ρ j 0=some l:=by
     rcases gp.holds j 0 false x cQ with⟨q,e1,_⟩|⟨e1,_⟩
     ·have:=hE.env j 0 _ e1;rw[JZ]at this;rw[e1,this]
     ·have:=hE.env j 0 _ e1;rw[JZ]at this;rw[e1,this]
    rw[hc,Option.map_eq_some_iff]at this
    obtain⟨l0,e1,e2⟩:=this
    exact⟨l0,hold i g' l0 e1,e2.symm⟩
 have cls:∀i,(∃j,yY t Mc.length j=i∧(c9 t Mc.length t M' Mc)[i]?=(M'[j]?).map (AO.rn t Mc.length)∧(∀g,p4 t Mc.length ρ ek i g=ek j g)∧∀o,M'[j]?=some o→o.pO=true)∨
  (i<Mc.length∧(c9 t Mc.length t M' Mc)[i]?=Mc[i]?∧(∀g,p4 t Mc.length ρ ek i g=ρ i g)∧∀j:Nat,t[j]?≠some (TE.own i)):=by
  intro i
  by_cases hi:i<Mc.length
  ·cases hf:fQ t i with
   |some j=>
    have hj:=eh hf
    refine .inl ⟨j,by unfold yY;rw[hj];rfl,pB t Mc.length t M' Mc i j hi hlen o9 hj,(B9 i j hj).2,fun o ho=>?_⟩
    have:=V5 j o ho
    rw[hj]at this;exact this
   |none=>
    have hn:=fp hf
    exact .inr ⟨hi,l6 t Mc.length t M' Mc i hi hlen hn,Nv i hi hn,hn⟩
  ·obtain⟨k,rfl⟩:∃k,i=Mc.length+k:=⟨i-Mc.length,by omega⟩
   have ht:t[t.length+k]?=none:=by simp
   refine .inl ⟨t.length+k,by unfold yY;rw[ht];simp only;omega,pC t Mc.length t M' Mc k hlen,lL k,fun o ho=>?_⟩
   have:=V5 (t.length+k) o ho
   rw[ht]at this;exact this
 have j6:∀{i j g:Nat}{own:Bool}{x:ae},(c9 t Mc.length t M' Mc)[i]?=(M'[j]?).map (AO.rn t Mc.length)→(∀o,M'[j]?=some o→o.pO=true)→slot (c9 t Mc.length t M' Mc) i g=some (own,x)→∃x',slot M' j g=some (true,x')∧x=x'.rn t Mc.length∧own=true:=by
  intro i j g own x h1 h2 cQ
  obtain⟨o,ho,rB⟩:=sR cQ
  rw[h1,Option.map_eq_some_iff]at ho
  obtain⟨o',ue,rfl⟩:=ho
  rw[xJ,Option.map_eq_some_iff]at rB
  obtain⟨⟨bp,x'⟩,e1,e2⟩:=rB
  have:=sQ (h2 o' ue) e1
  subst this
  injection e2 with e2 e3
  exact⟨x',se ue e1,e3.symm,e2.symm⟩
 have jY:∀{i g:Nat}{own:Bool}{x:ae},(c9 t Mc.length t M' Mc)[i]?=Mc[i]?→slot (c9 t Mc.length t M' Mc) i g=some (own,x)→slot Mc i g=some (own,x):=by
  intro i g own x h1 cQ
  unfold slot at cQ⊢
  rw[h1]at cQ;exact cQ
 have yq:∀i g own x q,slot Mc i g=some (own,x)→ρ i g=some (some q)→bI ρ own x q.1 q.2 w:=by
  intro i g own x q h1 h2
  rcases hs.holds i g own x h1 with⟨q',e1,e2⟩|⟨e1,_⟩
  ·rw[h2]at e1;injection e1 with e1;injection e1 with e1;subst e1;exact e2
  ·rw[h2]at e1;cases e1
 have yf:∀{j g:Nat}{x:ae}{q:Nat×Nat},slot M' j g=some (true,x)→ek j g=some (some q)→q.1<w.heap.size→∃(j0 i0 g0:Nat) (x0:ae) (q0:Nat×Nat),t[j0]?=some (TE.own i0)∧slot Mc i0 g0=some (true,x0)∧ρ i0 g0=some (some q0)∧q0.1=q.1:=by
  intro j g x q h1 h2 h3
  obtain⟨j0,g0,x0,q0,a1,a2,a3⟩:=hE.fresh j g x q h1 h2 h3
  obtain⟨i0,b1,b2,b3⟩:=iV fG a1 a2
  exact⟨j0,i0,g0,_,q0,b1,b2,b3,a3⟩
 have frame:∀i g own x q,(∀j:Nat,t[j]?≠some (TE.own i))→slot Mc i g=some (own,x)→ρ i g=some (some q)→w'.heap[q.1]?=w.heap[q.1]?:=by
  intro i g own x q hn h1 h2
  refine hE.frame q.1 (yq i g own x q h1 h2).lt fun j0 g0 x0 q0 a1 a2 he=>?_
  obtain⟨i0,b1,b2,b3⟩:=iV fG a1 a2
  have:=(hs.apart i0 g0 _ i g own x q0 q b2 h1 b3 h2 he).1
  subst this
  exact hn j0 b1
 refine⟨hR,⟨?_,?_,?_,?_,?_⟩,⟨hold,hE.size,?_,?_,hE.os,hE.tape,hE.output⟩⟩
 ·intro i g h
  rcases cls i with⟨j,h0,h1,h2,h3⟩|⟨h0,h1,h2,h3⟩
  ·rw[h2]at h
   have hj:=nQ.nI j g h
   rw[List.getElem?_eq_getElem hj]at h1
   exact(List.getElem?_eq_some_iff.1 h1).1
  ·rw[jl _ _ _ _ _ hlen];omega
 ·intro i g own g' x hm h
  rcases cls i with⟨j,h0,h1,h2,h3⟩|⟨h0,h1,h2,h3⟩
  ·rw[h2]at h
   rw[h1,Option.map_eq_some_iff]at hm
   obtain⟨o,ho,e⟩:=hm
   cases o with
   |gone=>cases e
   |one LM g1 x1=>injection e with _ e _;subst e;exact nQ.tag j g LM _ x1 ho h
   |bw _ _ _=>cases e
  ·rw[h1]at hm;rw[h2]at h;exact hs.tag i g own g' x hm h
 ·intro i g own n x hm h
  rcases cls i with⟨j,h0,h1,h2,h3⟩|⟨h0,h1,h2,h3⟩
  ·rw[h2]at h
   rw[h1,Option.map_eq_some_iff]at hm
   obtain⟨o,ho,e⟩:=hm
   cases o with
   |gone=>cases e
   |one LM g1 x1=>cases e
   |bw LM n1 x1=>injection e with _ e _;subst e;exact nQ.bw j g LM _ x1 ho h
  ·rw[h1]at hm;rw[h2]at h;exact hs.bw i g own n x hm h
 ·intro i g own x cQ
  rcases cls i with⟨j,h0,h1,h2,h3⟩|⟨h0,h1,h2,h3⟩
  ·obtain⟨x',a1,rfl,rfl⟩:=j6 h1 h3 cQ
   rw[h2]
   rcases nQ.holds j g true x' a1 with⟨q,e1,e2⟩|⟨e1,e2⟩
   ·refine .inl ⟨q,e1,?_⟩
    rcases e2.all with⟨hx,c,e,fr,k1,k2,k3,k4⟩|⟨hx,hb,hs⟩
    ·refine .mk' (by rw[ae.qp];exact hx) ⟨c,e,fr,k1,by rw[ae.si];exact k2,fun k v hv=>?_,k4⟩
     rw[ae.Eg,Option.map_eq_some_iff]at hv
     obtain⟨v',qa,rfl⟩:=hv
     have:=k3 k v' qa
     obtain⟨c1,c2⟩:=qq hR v' this.1
     exact⟨c1,by rw[c2];exact this.2⟩
    ·refine⟨.inr ⟨by rw[ae.qp];exact hx,hb,?_⟩⟩
     cases x' with
     |map kk es=>
      obtain⟨fe,clock,h1,h2,h3,h4,h5⟩:=hs
      refine⟨fe,clock,h1,?_,fun p hp=>?_,h4,h5⟩
      ·rw[h2,List.map_map]
       exact List.map_congr_left fun p hp=>by show _=(kk.v p.1,(p.2.rn t Mc.length).c _);rw[(qq hR p.2 (h3 p hp).1).2]
      ·obtain⟨p',wQ,rfl⟩:=List.mem_map.1 hp
       exact⟨(qq hR p'.2 (h3 p' wQ).1).1,(h3 p' wQ).2⟩
     |loop l st pd fn n a ps as bd df=>
      obtain⟨h1,tmps,h2,h3,h4⟩:=hs
      exact⟨h1,tmps,h2,h3,fun j=>⟨(qq hR (a j) (h4 j).1).1,by rw[(h4 j).2,(qq hR (a j) (h4 j).1).2]⟩⟩
     |cells _=>exact hs.elim
     |ints _ _ _=>exact hs.elim
     |bQ _ _=>exact hs.elim
     |cJ _ _ _ _=>exact hs.elim
   ·exact .inr ⟨e1,ae.KC e2⟩
  ·have Me:=jY h1 cQ
   rw[h2]
   rcases hs.holds i g own x Me with⟨q,e1,e2⟩|e
   ·exact .inl ⟨q,e1,e2.ext hold (frame i g own x q h3 Me e1)⟩
   ·exact .inr e
 ·intro i1 g1 x1 i2 g2 nN x2 q1 q2 Md Mb Ao eJ he
  rcases cls i1 with⟨j1,a0,a1,a2,a3⟩|⟨a0,a1,a2,a3⟩<;>rcases cls i2 with⟨j2,b0,b1,b2,b3⟩|⟨b0,b1,b2,b3⟩
  ·obtain⟨y1,c1,c2,_⟩:=j6 a1 a3 Md
   obtain⟨y2,d1,d2,_⟩:=j6 b1 b3 Mb
   rw[a2]at Ao;rw[b2]at eJ
   obtain⟨e1,e2⟩:=nQ.apart j1 g1 y1 j2 g2 _ y2 q1 q2 c1 d1 Ao eJ he
   exact⟨by rw[←a0,←b0,e1],e2⟩
  ·exfalso
   obtain⟨y1,c1,c2,_⟩:=j6 a1 a3 Md
   rw[a2]at Ao;rw[b2]at eJ
   have Nt:=jY b1 Mb
   have a8:=(yq i2 g2 nN x2 q2 Nt eJ).lt
   obtain⟨j0,i0,g0,x0,q0,d1,d2,d3,d4⟩:=yf c1 Ao (by omega)
   have:=(hs.apart i0 g0 x0 i2 g2 nN x2 q0 q2 d2 Nt d3 eJ (d4.trans he)).1
   subst this
   exact b3 j0 d1
  ·exfalso
   obtain⟨y2,c1,c2,_⟩:=j6 b1 b3 Mb
   rw[a2]at Ao;rw[b2]at eJ
   have Nu:=jY a1 Md
   have a8:=(yq i1 g1 true x1 q1 Nu Ao).lt
   obtain⟨j0,i0,g0,x0,q0,d1,d2,d3,d4⟩:=yf c1 eJ (by omega)
   have:=(hs.apart i0 g0 x0 i1 g1 true x1 q0 q1 d2 Nu d3 Ao (d4.trans he.symm)).1
   subst this
   exact a3 j0 d1
  ·rw[a2]at Ao;rw[b2]at eJ
   exact hs.apart i1 g1 x1 i2 g2 nN x2 q1 q2 (jY a1 Md) (jY b1 Mb) Ao eJ he
 ·intro b hb hn
  refine hE.frame b hb fun j g x q h1 h2=>?_
  obtain⟨i0,b1,b2,b3⟩:=iV fG h1 h2
  exact hn i0 g _ q b2 b3
 ·intro i g x q cQ hq hb
  rcases cls i with⟨j,h0,h1,h2,h3⟩|⟨h0,h1,h2,h3⟩
  ·obtain⟨x',a1,rfl,_⟩:=j6 h1 h3 cQ
   rw[h2]at hq
   obtain⟨j0,i0,g0,x0,q0,d1,d2,d3,d4⟩:=yf a1 hq hb
   exact⟨i0,g0,x0,q0,d2,d3,d4⟩
  ·rw[h2]at hq
   exact⟨i,g,x,q,jY h1 cQ,hq,rfl⟩
theorem aa.lift (t:List TE){P:Program}{g:Nat}{args:List AV}{M:AH}{K0 Uw:AV→AH→Prop}(h:aa P g args M K0 Uw){A2:List AV}{Mc:AH}{K Kp:AV→AH→Prop}
 (jy:AV.ri t Mc.length args=A2)(SR:(bE t&&AV.o8 t args)=true)(fG:ur t Mc.length Mc t M)(PH:Oa t M)
 (hK:∀r M',K0 r M'→lC t M M'∧K (r.rn t Mc.length) (c9 t Mc.length t M' Mc))
 (S9:∀r M',Uw r M'→lC t M M'∧Kp (r.rn t Mc.length) (c9 t Mc.length t M' Mc)):aa P g A2 Mc K Kp:=by
 subst jy
 simp only[Bool.and_eq_true]at SR
 obtain⟨o9,YF⟩:=SR
 unfold aa at*
 refine⟨h.1,fun ρ w hs aA=>?_⟩
 have gp:=uS hs o9 fG PH
 have Sp:=fU args YF aA
 have lE:=h.2 (b9 t ρ) w gp Sp
 rw[←(rh (uy (m:=Mc.length)) args Sp).2]at lE
 refine Calls.mono lE fun e w' he=>?_
 obtain⟨ek,M',h1,h2,h3⟩:=he
 cases e with
 |returned v=>
  obtain⟨r,e1,e2,e3⟩:=h3
  obtain⟨k1,k2⟩:=hK r M' e3
  obtain⟨b1,b2,b3⟩:=uR hs o9 fG k1 h1 h2 gp
  obtain⟨c1,c2⟩:=qq b1 r e2
  exact⟨_,_,b2,b3,_,by rw[c2];exact e1,c1,k2⟩
 |panicked ch=>
  obtain⟨r,e1,e2,e3⟩:=h3
  obtain⟨k1,k2⟩:=S9 r M' e3
  obtain⟨b1,b2,b3⟩:=uR hs o9 fG k1 h1 h2 gp
  obtain⟨c1,c2⟩:=qq b1 r e2
  exact⟨_,_,b2,b3,_,by rw[c2];exact e1,c1,k2⟩
 |outgrown=>exact h3.elim
end Go.Proofs.Ytibadaomjlkoaaa
open Go.RowKit
namespace Go.Proofs.Ytibadaomjlkoaaa
theorem kE {ρ:Env}{M:AH}{w:World}{i g:Nat}{x x':ae}(h:aR ρ M w)(hm:M[i]?=some (.one true g x))(ep:x'.size≤x.size)
 (fu:∀k v',x'.at k=some v'→∃v,x.at k=some v∧v'.c ρ=v.c ρ∧v'.ok ρ)(hv:x.bJ→x'.bJ)(qL:x.row=true:=by rfl)(B3:x'.row=true:=by rfl):
 aR ρ (M.set i (.one true g x')) w∧Ext ρ M w ρ (M.set i (.one true g x')) w:=by
 have a8:i<M.length:=(List.getElem?_eq_some_iff.1 hm).1
 refine kF (i:=i) (g:=g) (x':=x') h (by simp) (fun i' eK=>by rw[List.getElem?_set_ne (Ne.symm eK)]) (by simp[a8]) (fun _ _ _ e=>e) (fun _ _ e=>.inl e) (fun g' hg=>h.tag i g' true g x hm hg)
  (fun b hb hn=>rfl) (Nat.le_refl _) rfl rfl rfl ?_
 rcases h.holds i g true x (ak hm)with⟨q,e1,e2⟩|⟨e1,e2⟩
 ·refine .inl ⟨q,e1,?_,.inr ⟨g,x,q,ak hm,e1,rfl⟩⟩
  obtain⟨c,e,fr,k1,k2,k3,k4⟩:=e2.out qL
  refine .mk' B3 ⟨c,e,fr,k1,by omega,fun k v hv=>?_,k4⟩
  obtain⟨v0,h1,h2,h3⟩:=fu k v hv
  exact⟨h3,by rw[h2];exact(k3 k v0 h1).2⟩
 ·exact .inr ⟨e1,hv e2⟩
theorem rf {α:Type}(M:List α)(o o':α)(i:Nat)(h:i<M.length):(M++[o]).set i o'=M.set i o'++[o]:=by
 rw[List.set_append,if_pos h]
theorem Vw.ghost {M:AH}{i g k:Nat}{cs:List AV}{x:ae}{l:List AV}(hm:M[i]?=some (.one true g (.cells cs)))(hk:cs[k]?=some .ns)(hx:x.bJ):
 Vw M (M.set i (.one true g (.cells (cs.set k (.sl M.length 0 0 0 0))))++[.one true 0 x]) l l:=by
 intro ρ w hs aA
 have a8:i<M.length:=(List.getElem?_eq_some_iff.1 hm).1
 obtain⟨h1,h2⟩:=fO (x:=x) (l:=none) (w':=w) hs (fun _ _=>rfl) (Nat.le_refl _) rfl rfl rfl (.inr ⟨rfl,hx⟩)
 obtain⟨h3,h4⟩:=kE (x':=.cells (cs.set k (.sl M.length 0 0 0 0))) h1 (show(M++[AO.one true 0 x])[i]?=some (.one true g (.cells cs)) by rw[List.getElem?_append_left a8];exact hm)
  (by simp[ae.size]) (fun j v' qa=>by
   simp only[ae.at]at qa⊢
   by_cases hj:k=j
   ·subst hj
    have Y1:=(List.getElem?_eq_some_iff.1 hk).1
    rw[List.getElem?_set_self Y1]at qa
    injection qa with qa;subst qa
    exact⟨.ns,hk,by simp[AV.c,ar],by simp[AV.ok,ar]⟩
   ·rw[List.getElem?_set_ne hj]at qa
    refine⟨v',qa,rfl,?_⟩
    rcases h1.holds i g true (.cells cs) (ak (by rw[List.getElem?_append_left a8];exact hm))with⟨q,e1,e2⟩|⟨_,e2⟩
    ·obtain⟨c,e,fr,k1,k2,k3,k4⟩:=e2.out rfl
     exact(k3 j v' qa).1
    ·exact e2.elim) (fun h=>h.elim)
 rw[rf _ _ _ _ a8]at h3 h4
 refine⟨_,h3,h2.trans h4,?_,AV.fP h2.env l aA⟩
 exact AV.jL h2.env l aA
theorem Vw.nil {M:AH}{x:ae}(hx:x.bJ):Vw M (M++[.one true 0 x]) [.ns] [.sl M.length 0 0 0 0]:=by
 intro ρ w hs aA
 obtain⟨h1,h2⟩:=fO (x:=x) (l:=none) (w':=w) hs (fun _ _=>rfl) (Nat.le_refl _) rfl rfl rfl (.inr ⟨rfl,hx⟩)
 exact⟨_,h1,h2,by simp[AV.cl,AV.c,ar],by simp[AV.dE,AV.ok,ar]⟩
def Pm (k:Nat):List AV→List AV→Prop
 |[],[]=>True
 |v::l,v'::l'=>(v'=v∨(v=.ns∧v'=.sl k 0 0 0 0))∧Pm k l l'
 |_,_=>False
theorem Vw.z6 {M:AH}{x:ae}{l l':List AV}(hx:x.bJ)(hl:Pm M.length l l'):Vw M (M++[.one true 0 x]) l l':=by
 intro ρ w hs aA
 obtain⟨h1,h2⟩:=fO (x:=x) (l:=none) (w':=w) hs (fun _ _=>rfl) (Nat.le_refl _) rfl rfl rfl (.inr ⟨rfl,hx⟩)
 have key:∀l l':List AV,Pm M.length l l'→AV.dE ρ l→AV.cl (jM ρ M.length 0 none) l'=AV.cl ρ l∧AV.dE (jM ρ M.length 0 none) l':=by
  intro l
  induction l with
  |nil=>intro l' h _;cases l' with
   |nil=>exact⟨rfl,trivial⟩
   |cons _ _=>cases h
  |cons v l ih=>
   intro l' h aA
   cases l' with
   |nil=>cases h
   |cons v' l'=>
    obtain⟨g1,g2⟩:=ih l' h.2 aA.2
    rcases h.1 with rfl|⟨rfl,rfl⟩
    ·exact⟨by simp only[AV.cl,g1,AV.cX h2.env _ aA.1],AV.cz h2.env _ aA.1,g2⟩
    ·exact⟨by simp[AV.cl,AV.c,ar,g1],by simp[AV.ok,ar],g2⟩
 obtain⟨k1,k2⟩:=key l l' hl aA
 exact⟨_,h1,h2,k1,k2⟩
theorem Vw.refl (M:AH)(l:List AV):Vw M M l l:=fun ρ w hs aA=>⟨ρ,hs,Ext.refl _ _ _,rfl,aA⟩
theorem aa.eV {P:Program}{g:Nat}{args:List AV}{M:AH}{K Kp:AV→AH→Prop}(h:aa P g args M (fun r M'=>∃r' lq,Vw M' lq [r] [r']∧K r' lq) Kp):aa P g args M K Kp:=by
 unfold aa at*
 refine⟨h.1,fun ρ w hs aA=>Calls.mono (h.2 ρ w hs aA) fun e w' he=>?_⟩
 obtain⟨ρ',M',h1,h2,h3⟩:=he
 cases e with
 |returned v=>
  obtain⟨r,e1,e2,r',lq,e3,e4⟩:=h3
  obtain⟨gq,k1,k2,k3,k4⟩:=e3 ρ' w' h1 ⟨e2,trivial⟩
  simp only[AV.cl,List.cons.injEq,and_true]at k3
  exact⟨gq,lq,k1,h2.trans k2,r',by rw[k3];exact e1,k4.1,e4⟩
 |panicked ch=>
  obtain⟨r,e1,e2,e3⟩:=h3
  exact⟨ρ',M',h1,h2,r,e1,e2,e3⟩
 |outgrown=>exact h3.elim
theorem aa.cj {P:Program}{g:Nat}{args:List AV}{M:AH}{K Kp:AV→AH→Prop}(h:aa P g args M (fun r M'=>∃N,jb M' N∧lQ N.length N∧(r.nb N.length&&Nat.ble M.length N.length)=true∧K r N) Kp):aa P g args M K Kp:=by
 unfold aa at*
 refine⟨h.1,fun ρ w hs aA=>Calls.mono (h.2 ρ w hs aA) fun e w' he=>?_⟩
 obtain⟨ρ',M',h1,h2,h3⟩:=he
 cases e with
 |returned v=>
  obtain⟨r,e1,e2,N,e3,e4,e5,e6⟩:=h3
  simp only[Bool.and_eq_true]at e5
  obtain⟨k1,k2⟩:=pz hs.nI h1 h2 e3 e4 (by simpa using e5.2)
  exact⟨_,N,k1,k2,r,by rw[AV.BQ e5.1 e2];exact e1,AV.n5 r e5.1 e2,e6⟩
 |panicked ch=>
  obtain⟨r,e1,e2,e3⟩:=h3
  exact⟨ρ',M',h1,h2,r,e1,e2,e3⟩
 |outgrown=>exact h3.elim
theorem WA.view {P:Program}{r:Option Nat}{D:List Deferred}{n:Nat}{c:Code}{Q:iZ→AA→AH→Prop}{Kp:AV→AH→Prop}{l l':List (Nat×AV)}{a:AA}{M M':AH}
 (ha:vE l a)(hk:l'.map (·.1)=l.map (·.1))(hv:Vw M M' (l.map (·.2)) (l'.map (·.2)))(h:∀d,WA P r D n c Q Kp (lz l' d) M'):WA P r D n c Q Kp a M:=by
 unfold WA at*
 intro pin D1 ρ w act lS QV hs hA
 have aA:AV.dE ρ (l.map (·.2)):=by
  clear hk hv
  induction l with
  |nil=>trivial
  |cons x l ih=>exact⟨(show x.2.ok ρ from ha.1▸hA.ok _),ih ha.2⟩
 obtain⟨ρ',h1,h2,h3,h4⟩:=hv ρ w hs aA
 refine wpIn_mono (h (fun t=>act.tmps.getD t undef) pin D1 ρ' w act lS QV h1 ⟨hA.defers,hA.size,fun t=>?_,fun t=>?_⟩) fun e aG w' hq=>⟨hq.1.from h2 h1 (Marks.refl _ _ _),hq.2⟩
 ·simp only[lz]
  split
  ·rename_i v oP
   clear ha h3 hk hv h aA
   induction l' with
   |nil=>cases oP
   |cons y l' ih=>
    simp only[vB]at oP
    split at oP
    ·injection oP with oP;subst oP;exact h4.1
    ·exact ih h4.2 oP
  ·exact trivial
 ·simp only[lz]
  split
  ·rename_i v oP
   have hg:=hA.get t
   clear aA hv h h4
   induction l' generalizing l with
   |nil=>cases oP
   |cons y l' ih=>
    cases l with
    |nil=>cases hk
    |cons x l=>
     simp only[List.map_cons,List.cons.injEq]at hk
     simp only[List.map_cons,AV.cl,List.cons.injEq]at h3
     simp only[vB]at oP
     split at oP
     ·rename_i hb
      injection oP with oP;subst oP
      have ht:t=y.1:=Nat.eq_of_beq_eq_true hb
      have MA:=ha.1
      rw[h3.1,←MA,←hk.1,←ht];exact hg
     ·exact ih ha.2 hk.2 h3.2 oP
  ·rfl
end Go.Proofs.Ytibadaomjlkoaaa
