import Derived.Test.YtibadaomjlkoaaaG1
import Derived.OrdersIn
import Derived.Test.YtibadaomjlkoaaaAbI
import Derived.RangeFuncRecord
set_option linter.unusedVariables false
set_option linter.unusedSimpArgs false
open Go.RowKit
namespace Go.Proofs.Ytibadaomjlkoaaa
def FW (r:Option Nat):Fence:={fn:=fun _=>True,depth:=none,alive:=false,round:=r}
section
variable{r:Option Nat}{P:Program}{ops:Array Oper}{Q:Exit→Act→World→Prop}{S:World→Prop}{ds:List Nat}
def vP (r:Option Nat)(P:Program)(ops:Array Oper)(Q:Exit→Act→World→Prop)(o:Oper)(K:Act→World→Prop)(a:Act)(w:World):Prop:=
 if Region.wanted o (yielded ops a.tmps)=true then o.uponIn (FW r) 0 P a K Q ((execOp a.eval o).run P w)else K (a.put o.dst undef) w
def cw:Op→Bool
 | .defer _| .select ..=>false
 |_=>true
theorem v9 {i:Nat}{o:Oper}{K:Act→World→Prop}{a:Act}{w:World}(hi:ops[i]?=some o)(hp:cw o.op=true)(h:vP r P ops Q o K a w):wpOpIn (FW r) 0 P ops Q i K a w:=by
 unfold wpOpIn vP at*
 simp only[hi]
 have hd:∀c,o.op≠ .defer c:=by intro c e;rw[e]at hp;cases hp
 split
 ·rename_i hw
  rw[if_pos hw]at h
  exact⟨fun _ _=>trivial,by rw[Oper.semAt_eq _ _ _ hd];exact h⟩
 ·rename_i hw
  rw[if_neg hw]at h
  exact⟨fun _ _=>trivial,h⟩
theorem zG {o:Oper}{a:Act}{K K':Act→World→Prop}(h:∀a w,K a w→K' a w){res:Result Next}(hh:o.uponIn (FW r) 0 P a K Q res):o.uponIn (FW r) 0 P a K' Q res:=by
 cases res with
 |ok x w'=>
  cases x<;>simp only[Oper.uponIn]at hh⊢<;>
   first
    |exact h _ _ hh
    |exact⟨hh.1,CallsIn.mono hh.2 (fun e vr he=>by cases e<;>first|exact h _ _ he|exact he)⟩
    |exact⟨hh.1,RowsIn.mono hh.2 (fun _ _ he=>h _ _ he)⟩
    |exact⟨hh.1,RoundIn.mono hh.2 (fun e vr he=>by cases e<;>first|exact h _ _ he|exact he)⟩
 |halt x w'=>cases x<;>simp only[Oper.uponIn]at hh⊢<;>exact hh
theorem qc {o:Oper}{a:Act}{w:World}{K K':Act→World→Prop}(h:∀a w,K a w→K' a w)(hh:vP r P ops Q o K a w):vP r P ops Q o K' a w:=by
 unfold vP at*
 split
 ·rename_i hw;rw[if_pos hw]at hh;exact zG h hh
 ·rename_i hw;rw[if_neg hw]at hh;exact h _ _ hh
def YI (P:Program)(ops:Array Oper)(S:World→Prop)(o:Oper)(v:Value)(a:Act):Prop:=
 (Region.wanted o (yielded ops a.tmps)=true∧∀w,S w→(execOp a.eval o).run P w=.ok (.value v) w)∨(Region.wanted o (yielded ops a.tmps)=false∧v=undef)
theorem YI.vP {o:Oper}{v:Value}{a:Act}(hy:YI P ops S o v a){K:Act→World→Prop}{w:World}(hS:S w)(h:K (a.put o.dst v) w):vP r P ops Q o K a w:=by
 unfold Ytibadaomjlkoaaa.vP
 rcases hy with⟨hw,hv⟩|⟨hw,rfl⟩
 ·rw[if_pos hw,hv w hS];exact h
 ·rw[if_neg (by rw[hw];simp)];exact h
theorem YI.same {o:Oper}{v:Value}{a a':Act}(hy:YI P ops S o v a)(he:execOp a'.eval o=execOp a.eval o)(hw:Region.wanted o (yielded ops a'.tmps)=Region.wanted o (yielded ops a.tmps)):YI P ops S o v a':=by
 unfold YI at*;rw[he,hw];exact hy
theorem E8 {oi oj:Oper}{v:Value}(pG:oi.apart ops oj=true)(V7:cw oi.op=true)(Y4:cw oj.op=true)
 (hQ:∀c a w,Q (.panic c) (a.put oi.dst v) w→Q (.panic c) a w){K:Act→World→Prop}{a:Act}{w:World}
 (hy:YI P ops S oi v a)(h:vP r P ops Q oj K (a.put oi.dst v) w):
 vP r P ops Q oj (fun a' w'=>YI P ops S oi v a'∧K (a'.put oi.dst v) w') a w:=by
 obtain⟨h1,h2,h3⟩:=Oper.apart_spec pG
 have Z5:∀cs b,oi.op≠ .select cs b:=by intro cs b e;rw[e]at V7;cases V7
 have Z4:∀cs b,oj.op≠ .select cs b:=by intro cs b e;rw[e]at Y4;cases Y4
 have lF:∀(a:Act),YI P ops S oi v a→∀u,YI P ops S oi v (a.put oj.dst u):=fun a hy u=>
  hy.same (execOp_put oi Z5 a oj.dst u h3) (wanted_put oi a oj.dst u h3)
 have Td:∀d,YI P ops S oi v {a with defers:=d::a.defers}:=fun d=>hy.same rfl rfl
 unfold Ytibadaomjlkoaaa.vP at*
 rw[wanted_put oj a oi.dst v h1]at h
 split
 ·rename_i hw
  rw[if_pos hw,execOp_put oj Z4 a oi.dst v h1]at h
  generalize(execOp a.eval oj).run P w=res at*
  cases res with
  |ok x w'=>
   cases x<;>simp only[Oper.uponIn]at h⊢
   case value u=>exact⟨lF a hy u,by rw[←Act.put_comm a v u h2];exact h⟩
   case skip=>exact⟨lF a hy _,by rw[←Act.put_comm a v undef h2];exact h⟩
   case defer d=>
    refine⟨lF _ (Td d) _,?_⟩
    rw[←Act.put_comm _ v undef h2,←Act.put_defers]
    exact h
   case enter f args=>
    refine⟨h.1,CallsIn.mono h.2 fun e vr he=>?_⟩
    cases e with
    |returned u=>exact⟨lF a hy u,by rw[←Act.put_comm a v u h2];exact he⟩
    |panicked c=>exact hQ _ _ _ he
    |outgrown=>exact he
   case row row args=>exact⟨h.1,RowsIn.mono h.2 fun u vr he=>⟨lF a hy u,by rw[←Act.put_comm a v u h2];exact he⟩⟩
   case round l f tmps assign body=>
    refine⟨h.1,RoundIn.mono h.2 fun e vr he=>?_⟩
    cases e with
    |returned u=>exact⟨lF a hy u,by rw[←Act.put_comm a v u h2];exact he⟩
    |panicked c=>exact hQ _ _ _ he
    |outgrown=>exact he
  |halt x w'=>
   cases x<;>simp only[Oper.uponIn]at h⊢
   case panic u=>exact hQ _ _ _ h
 ·rename_i hw
  rw[if_neg hw]at h
  exact⟨lF a hy _,by rw[←Act.put_comm a v undef h2];exact h⟩
def anyS (r:Option Nat)(P:Program)(ops:Array Oper)(Q:Exit→Act→World→Prop)(S:World→Prop)(ds:List Nat):Nat→Array Bool→Act→World→Prop
 |0,l,a,w=>Region.ready .any ops l=[]∧Q .normal a w
 |f+1,l,a,w=>(Region.ready .any ops l=[]→Q .normal a w)∧∀i∈Region.ready .any ops l,∀o,ops[i]?=some o→
   vP r P ops Q o (fun a' w'=>(i∉ds→w'=w∨S w')∧anyS r P ops Q S ds f (l.setIfInBounds i true) a' w') a w
theorem dC (hp:∀(i:Nat) o,ops[i]?=some o→cw o.op=true):∀(f:Nat)(l:Array Bool)(a:Act)(w:World),anyS r P ops Q S ds f l a w→wpAnyIn (FW r) 0 P .any ops Q f l a w
 |0,_,_,_,h=>h
 |f+1,l,a,w,h=>⟨h.1,fun i hi=>by
   obtain⟨_,o,ho,_⟩:=mem_ready.1 hi
   exact v9 ho (hp i o ho) (qc (fun a' w' h'=>dC hp f _ a' w' h'.2) (h.2 i hi o ho))⟩
theorem gH {S':World→Prop}(hw:∀w,S w→S' w):∀(f:Nat)(l:Array Bool)(a:Act)(w:World),anyS r P ops Q S ds f l a w→anyS r P ops Q S' ds f l a w
 |0,_,_,_,h=>h
 |f+1,l,a,w,h=>⟨h.1,fun i hi o ho=>qc (fun a' w' h'=>⟨fun hd=>(h'.1 hd).imp id (hw w'),gH hw f _ a' w' h'.2⟩) (h.2 i hi o ho)⟩
def waits (ops:Array Oper)(i:Nat):Nat→Nat→Bool
 |0,_=>false
 |f+1,d=>match ops[d]? with
  |some o=>o.after.any fun e=>Region.binds .any e&&(e.on==i||waits ops i f e.on)
  |none=>false
def jl (ops:Array Oper)(l:Array Bool):Prop:=∀j o,ops[j]?=some o→l.getD j false=true→∀e∈o.after,Region.binds .any e=true→l.getD e.on false=true
theorem jl.set {ops:Array Oper}{l:Array Bool}{i:Nat}(h:jl ops l)(hi:i∈Region.ready .any ops l):jl ops (l.setIfInBounds i true):=by
 obtain⟨_,oi,hoi,hall⟩:=mem_ready.1 hi
 intro j oj hj hl e he hb
 by_cases r6:i=j
 ·subst r6
  rw[hoi]at hj;injection hj with hj;subst hj
  exact getD_set_true (hall e he hb)
 ·rw[getD_set_ne false r6]at hl
  exact getD_set_true (h j oj hj hl e he hb)
theorem jl.none {ops:Array Oper}{n:Nat}:jl ops (Array.replicate n false):=by
 intro j o _ hl
 simp only[Array.getD_eq_getD_getElem?,Array.getElem?_replicate]at hl
 split at hl<;>cases hl
theorem lP {i:Nat}{l:Array Bool}(Fz:jl ops l):
 ∀(f d:Nat),waits ops i f d=true→l.getD i true=false→l.getD d false=true→False
 |0,_,h,_,_=>by cases h
 |f+1,d,h,hi,hl=>by
  unfold waits at h
  cases ho:ops[d]? with
  |none=>rw[ho]at h;cases h
  |some o=>
   rw[ho]at h
   obtain⟨e,he,h1⟩:=Array.any_eq_true'.1 h
   simp only[Bool.and_eq_true,Bool.or_eq_true,beq_iff_eq]at h1
   have hle:=Fz d o ho hl e he h1.1
   rcases h1.2 with h2|h2
   ·rw[h2]at hle
    rcases Nat.lt_or_ge i l.size with h'|h'
    ·simp[h']at hi hle;rw[hi]at hle;cases hle
    ·simp[Array.getElem?_eq_none h']at hle
   ·exact lP Fz f e.on h2 hi hle
theorem zB {i:Nat}{l:Array Bool}(hc:jl ops l):∀(f:Nat){d:Nat},waits ops i f d=true→l.getD i true=false→d∈Region.ready .any ops l→False
 |0,_,h,_,_=>by cases h
 |f+1,d,h,hi,hd=>by
  obtain⟨_,o,ho,hall⟩:=mem_ready.1 hd
  unfold waits at h
  rw[ho]at h
  obtain⟨e,he,h1⟩:=Array.any_eq_true'.1 h
  simp only[Bool.and_eq_true,Bool.or_eq_true,beq_iff_eq]at h1
  have hle:=hall e he h1.1
  rcases h1.2 with h2|h2
  ·rw[h2]at hle
   rcases Nat.lt_or_ge i l.size with h'|h'
   ·simp[h']at hi hle;rw[hi]at hle;cases hle
   ·simp[Array.getElem?_eq_none h']at hle
  ·exact lP hc f e.on h2 hi hle
theorem kK {i:Nat}{oi:Oper}{v:Value}(hi:ops[i]?=some oi)(hp:∀(i:Nat) o,ops[i]?=some o→cw o.op=true)
 (hQ:∀c a w,Q (.panic c) (a.put oi.dst v) w→Q (.panic c) a w):
 ∀(f:Nat)(l:Array Bool)(a:Act)(w:World),
  (∀j oj,ops[j]?=some oj→j≠i→l.getD j true=false→(∀e∈oj.after,Region.binds .any e=true→e.on≠i)→oi.apart ops oj=true)→
  jl ops l→(∀d∈ds,l.getD d true=false→waits ops i ops.size d=true)→
  i∈Region.ready .any ops l→YI P ops S oi v a→S w→
  anyS r P ops Q S ds f (l.setIfInBounds i true) (a.put oi.dst v) w→anyS r P ops Q S ds (f+1) l a w:=by
 intro f
 induction f with
 |zero=>
  intro l a w _ _ _ hr hy hS H
  refine⟨fun h=>(by rw[h]at hr;cases hr),fun j hj o ho=>?_⟩
  by_cases fR:j=i
  ·subst fR
   rw[hi]at ho;injection ho with ho;subst ho
   exact hy.vP hS ⟨fun _=>.inl rfl,H⟩
  ·have:=ready_mono hj fR
   rw[H.1]at this
   cases this
 |succ f ih=>
  intro l a w jN hc hd hr hy hS H
  refine⟨fun h=>(by rw[h]at hr;cases hr),fun j hj oj vu=>?_⟩
  by_cases fR:j=i
  ·subst fR
   rw[hi]at vu;injection vu with vu;subst vu
   exact hy.vP hS ⟨fun _=>.inl rfl,H⟩
  ·have h1:=H.2 j (ready_mono hj fR) oj vu
   obtain⟨CK,ZQ,yO,hall⟩:=mem_ready.1 hj
   rw[vu]at yO;injection yO with yO;subst yO
   have Hb:=(mem_ready.1 hr).1
   have Q5:∀e∈oj.after,Region.binds .any e=true→e.on≠i:=fun e he hb heq=>by
    have h1:=hall e he hb
    rw[heq]at h1
    rcases Nat.lt_or_ge i l.size with h'|h'
    ·simp[h']at Hb h1;rw[Hb]at h1;cases h1
    ·simp[Array.getElem?_eq_none h']at h1
   have hjd:j∉ds:=fun hm=>zB hc ops.size (hd j hm CK) Hb hj
   have h2:=E8 (jN j oj vu fR CK Q5) (hp i oi hi) (hp j oj vu) hQ hy h1
   refine qc (fun a' w' h3=>⟨h3.2.1,ih (l.setIfInBounds j true) a' w' ?_ (hc.set hj) ?_ (ready_mono hr (Ne.symm fR)) h3.1 ((h3.2.1 hjd).elim (fun e=>e▸hS) id) ?_⟩) h2
   ·intro k ok hk Wc jM rY
    refine jN k ok hk Wc ?_ rY
    by_cases JI:j=k
    ·subst JI;exact CK
    ·rw[getD_set_ne true JI]at jM;exact jM
   ·intro d hm jM
    refine hd d hm ?_
    by_cases JI:j=d
    ·subst JI;exact CK
    ·rw[getD_set_ne true JI]at jM;exact jM
   ·rw[Array.setIfInBounds_comm _ _ fR]
    exact h3.2.2
end
end Go.Proofs.Ytibadaomjlkoaaa
open Go.RowKit
namespace Go.Proofs.Ytibadaomjlkoaaa
abbrev AA:=Nat→AV
def AA.put (n:Nat)(a:AA)(d:Option Nat)(v:AV):AA:=
 match d with
 |none=>a
 |some t=>fun k=>match Nat.beq k t&&Nat.blt t n with
  |true=>v
  |false=>a k
def pH (a:AA):Operand→AV
 | .tmp t=>a t
 | .const v=>S6 v
 | .global g=>.raw (.pointer (some ⟨g,0,none⟩))
 | .func f=>.fn (.func f) [] []
structure bE (ρ:Env)(D:List Deferred)(n:Nat)(a:AA)(act:Act):Prop where
 defers:act.defers=D
 size:act.tmps.size=n
 ok:∀t,(a t).ok ρ
 get:∀t,act.tmps.getD t undef=(a t).c ρ
theorem bE.ev {ρ:Env}{D:List Deferred}{n:Nat}{a:AA}{act:Act}(h:bE ρ D n a act):VQ ρ (pH a) act.eval:=by
 intro x
 cases x with
 |tmp t=>exact⟨h.get t,h.ok t⟩
 |const v=>exact⟨(S5 ρ v).symm,Qo ρ v⟩
 |global g=>exact⟨rfl,trivial⟩
 |func f=>exact⟨rfl,⟨trivial,trivial⟩⟩
theorem bE.ext {ρ ρ':Env}{D:List Deferred}{n:Nat}{a:AA}{act:Act}(h:bE ρ D n a act)(he:∀i g l,ρ i g=some l→ρ' i g=some l):bE ρ' D n a act:=
 ⟨h.defers,h.size,fun t=>AV.cF he _ (h.ok t),fun t=>by rw[AV.de he _ (h.ok t)];exact h.get t⟩
theorem bE.put {ρ:Env}{D:List Deferred}{n:Nat}{a:AA}{act:Act}(h:bE ρ D n a act)(d:Option Nat){v:AV}(hv:v.ok ρ):bE ρ D n (a.put n d v) (act.put d (v.c ρ)):=by
 cases d with
 |none=>exact h
 |some t=>
  refine⟨h.defers,by simp[Act.put,h.size],fun k=>?_,fun k=>?_⟩
  ·simp only[AA.put];split
   ·exact hv
   ·exact h.ok k
  ·simp only[AA.put,Act.put]
   split
   ·rename_i hb
    simp only[Bool.and_eq_true]at hb
    have e1:k=t:=Nat.eq_of_beq_eq_true hb.1
    have e2:t<n:=by simpa using hb.2
    subst e1
    simp[Array.getD_eq_getD_getElem?,h.size,e2]
   ·rename_i hb
    have hg:=h.get k
    by_cases hk:k=t
    ·subst hk
     have:¬k<n:=by
      intro a9
      have e1:Nat.beq k k=true:=Nat.beq_refl k
      have e2:Nat.blt k n=true:=by simpa using a9
      rw[e1,e2]at hb;cases hb
     rw[←hg]
     simp[Array.getD_eq_getD_getElem?,h.size,this]
    ·rw[←hg]
     simp[Array.getD_eq_getD_getElem?,Array.getElem?_setIfInBounds_ne (Ne.symm hk)]
def oJ (P:Program)(g:Nat):Bool:=
 match P.funcs[g]? with
 |some fn=>fn.body.isSome&&!(fn.name=="runtime.NumGoroutine")
 |none=>false
theorem n4 {P:Program}{g:Nat}(h:oJ P g=true)(args:Array Value)(w:World):(callFunc g args).run P w=.ok (.enter g args) w:=by
 unfold oJ at h
 split at h
 ·rename_i fn XH
  simp only[Bool.and_eq_true,Bool.not_eq_true']at h
  have hn:fn.name≠"runtime.NumGoroutine":=by have:=h.2;simpa using this
  have hb:fn.body≠none:=by intro e;rw[e]at h;exact absurd h.1 (by simp)
  simp[callFunc,XH,hn,hb]
 ·cases h
def iq (ρ:Env)(M:AH)(w:World)(K:AV→AH→Prop)(Kp:AV→AH→Prop)(e:Ending)(w':World):Prop:=
 ∃ρ' M',aU ρ' M' w'∧Ext ρ M w ρ' M' w'∧match e with
  | .returned v=>∃r,v=r.c ρ'∧r.ok ρ'∧K r M'
  | .panicked ch=>∃r,ch=[{v:=r.c ρ',recovered:=false}]∧r.ok ρ'∧Kp r M'
  | .outgrown=>False
@[irreducible] def aa (P:Program)(g:Nat)(args:List AV)(M:AH)(K:AV→AH→Prop)(Kp:AV→AH→Prop):Prop:=
  oJ P g=true∧∀ρ w,aU ρ M w→AV.dK ρ args→Calls P g (AV.cl ρ args).toArray w (iq ρ M w K Kp)
@[irreducible] def aN (P:Program)(l:Nat)(args:List AV)(M:AH)(K:AV→AH→Prop)(Kp:AV→AH→Prop):Prop:=
  ∀ρ w,aU ρ M w→AV.dK ρ args→∃f tmps as bd,(Instr.yield l (AV.cl ρ args).toArray).run P w=.ok (.round l f tmps as bd) w∧∀r,RoundIn (FW r) 0 P l f tmps as bd w (iq ρ M w K Kp)
def Hr (P:Program)(T:List TI)(wr:Bool)(M:AH)(e:Operand→AV)(o:Op)(K:AV→AH→Prop)(Kp:AV→AH→Prop):Prop:=
 match o with
 | .store t a v=>B1 T M t (e a) (e v) fun M'=>K (.aL []) M'
 | .load t a=>qk T M t (e a) fun v=>K v M
 | .alloc t=>Ex T M t K
 | .box t x=>RT M (e x) K
 | .buildSlice t len parts=>fo T M t len (parts.toList.map (·.1)) (parts.toList.map fun x=>e x.2) K
 | .makeSlice t l c=>fQ T M t (e l) (e c) K
 | .call ⟨.builtin .append,args,iJ⟩=>match args.toList,iJ.toList with
   |[d,x],[tS,tX]=>match Cv T tX with
    |true=>vn T M tS (e d) (e x) K
    |false=>zl T M tS tX (e d) (e x) K
   |_,_=>False
 | .call ⟨.builtin .copy,args,iJ⟩=>match args.toList,iJ.toList with
   |[d,x],[tD,tS]=>Kg T M tD tS (e d) (e x) K
   |_,_=>False
 | .call ⟨.builtin .len,args,iJ⟩=>match args.toList,iJ.toList with
   |[x],[t]=>match e x with
    | .mp i g=>nQ T M t (.mp i g) fun v=>K v M
    |_=>iR T wr M e (.call ⟨.builtin .len,args,iJ⟩) fun v=>K v M
   |_,_=>False
 | .makeMap t none=>ug T M t K
 | .lookup t x ix ok=>xa T M t (e x) (e ix) ok fun v=>K v M
 | .mapUpdate t m k x=>K5 T M t (e m) (e k) (e x) fun M'=>K (.aL []) M'
 | .insert t m k x=>K5 T M t (e m) (e k) (e x) fun M'=>K (.aL []) M'
 | .call ⟨.value f,args,_⟩=>match e f with
   | .fn (.func g) first cap=>aa P g (first++args.toList.map e++cap) M K Kp
   | .fn (.yield l) [] []=>aN P l (args.toList.map e) M K Kp
   |_=>False
 | .call ⟨.invoke recv name,args,_⟩=>match e recv with
   | .jo t v=>xN P T M t name v fun g r=>aa P g (r::args.toList.map e) M K Kp
   |_=>False
 | .panic x=>match e x with
   | .jo t v=>Kp (.jo t v) M
   |_=>False
 | .convert src dst x=>match e x with
   | .ns=>oR T M src dst .ns fun v=>K v M
   | .sl i g off n c=>match Nat.beq src dst with
     |true=>yc T M src dst i g off n c K
     |false=>oR T M src dst (.sl i g off n c) fun v=>K v M
   | .str s=>match Jk T src dst with
     |true=>C7 T M src dst s K
     |false=>iR T wr M e (.convert src dst x) fun v=>K v M
   |_=>iR T wr M e (.convert src dst x) fun v=>K v M
 |o=>iR T wr M e o fun v=>K v M
theorem ve {P:Program}{f:FuncId}{args:Array Value}{w:World}{R:Ending→World→Prop}(r:Option Nat)(n:Nat)(h:Calls P f args w R):CallsIn (FW r) n P f args w R:=
 ⟨trivial,fun cs _=>let⟨e,w',fr,hr,s,x⟩:=h cs;⟨e,w',fr,hr,comesIn_wide.2 s,x⟩⟩
section
variable{P:Program}{T:List TI}{r:Option Nat}{Q:Exit→Act→World→Prop}
theorem za {ρ:Env}{e:Operand→AV}{v:Operand→Value}(he:VQ ρ e v)(l:List Operand):l.map v=AV.cl ρ (l.map e)∧AV.dK ρ (l.map e):=by
 constructor
 ·rw[AV.aY,List.map_map]
  exact List.map_congr_left fun z _=>(he z).1
 ·rw[AV.aK]
  intro z hz
  obtain⟨y,_,rfl⟩:=List.mem_map.1 hz
  exact(he y).2
theorem iU {ρ:Env}{l l':List AV}(h:AV.dK ρ l)(h':AV.dK ρ l'):AV.dK ρ (l++l'):=by
 rw[AV.aK]at*
 intro v hv
 rcases List.mem_append.1 hv with hv|hv
 ·exact h v hv
 ·exact h' v hv
theorem fV (ρ:Env)(l l':List AV):AV.cl ρ (l++l')=AV.cl ρ l++AV.cl ρ l':=by simp[AV.aY]
set_option maxHeartbeats 1000000 in
theorem uX (hT:aq P T){wr:Bool}{M:AH}{e:Operand→AV}{o:Oper}{K Kp:AV→AH→Prop}{ρ:Env}{w:World}{act:Act}(hs:aU ρ M w)(he:VQ ρ e act.eval)
 (h:Hr P T wr M e o.op K Kp){K':Act→World→Prop}
 (hK:∀rv M' ρ' w',K rv M'→rv.ok ρ'→aU ρ' M' w'→Ext ρ M w ρ' M' w'→K' (act.put o.dst (rv.c ρ')) w')
 (hP:∀rv M' ρ' w',Kp rv M'→rv.ok ρ'→aU ρ' M' w'→Ext ρ M w ρ' M' w'→Q (.panic [{v:=rv.c ρ',recovered:=false}]) act w'):
 o.uponIn (FW r) 0 P act K' Q ((execOp act.eval o).run P w):=by
 obtain⟨dst,op,ty,pos,after,guard⟩:=o
 simp only at h hK
 have val:∀{s:Sem Value}{v M' ρ' w'},s.run P w=.ok (v.c ρ') w'→K v M'→v.ok ρ'→aU ρ' M' w'→Ext ρ M w ρ' M' w'→
  Oper.uponIn (FW r) 0 P {dst,op,type:=ty,pos,after,guard} act K' Q ((do pure (.value (←s)):Sem Next).run P w):=by
  intro s v M' ρ' w' h1 h2 h3 h4 h5
  rw[show(do pure (.value (←s)):Sem Next).run P w=.ok (.value (v.c ρ')) w' by simp[h1]]
  exact hK v M' ρ' w' h2 h3 h4 h5
 unfold Hr at h
 split at h
 ·rename_i t a v
  obtain⟨M',w',h1,h2,h3,h4⟩:=x4 (P:=P) hT hs (he v).2 h
  rw[←(he a).1,←(he v).1]at h1
  have:(execOp act.eval {dst,op:=.store t a v,type:=ty,pos,after,guard}).run P w=.ok .skip w':=by simp[execOp,h1]
  rw[this]
  exact hK (.aL []) M' ρ w' h2 trivial h3 h4
 ·rename_i t a
  obtain⟨v,h1,h2,h3⟩:=gz (P:=P) hT hs.known (hs.id _) h
  have h4:=h3 w (hs.id _)
  rw[←(he a).1]at h4
  exact val h4 h1 h2 hs (Ext.refl _ _ _)
 ·rename_i t
  obtain⟨v,M',ρ',w',h1,h2,h3,h4,h5⟩:=zm (P:=P) hT hs h
  exact val h1 h2 h3 h4 h5
 ·rename_i t x
  obtain⟨v,M',ρ',w',h1,h2,h3,h4,h5⟩:=C8 (P:=P) (t:=t) hs (he x).2 h
  rw[←(he x).1]at h1
  exact val h1 h2 h3 h4 h5
 ·rename_i t len parts
  obtain⟨v,M',ρ',w',h1,h2,h3,h4,h5⟩:=qt (P:=P) hT hs (by rw[AV.aK];intro z hz;obtain⟨y,_,rfl⟩:=List.mem_map.1 hz;exact(he y.2).2) h
  have e1:(parts.map fun(i,x)=>(i,act.eval x))=((parts.toList.map (·.1)).zip ((parts.toList.map fun x=>e x.2).map (AV.c ρ))).toArray:=by
   apply Array.toList_inj.1
   rw[Array.toList_map,List.toList_toArray,List.map_map]
   have:∀l:List (Nat×Operand),l.map (fun(i,x)=>(i,act.eval x))=(l.map (·.1)).zip (l.map ((AV.c ρ)∘fun x=>e x.2)):=by
    intro l
    induction l with
    |nil=>rfl
    |cons p l ih=>simp[ih,(he p.2).1]
   exact this _
  rw[←e1]at h1
  exact val h1 h2 h3 h4 h5
 ·rename_i t l c
  obtain⟨v,M',ρ',w',h1,h2,h3,h4,h5⟩:=q9 (P:=P) hT hs h
  rw[←(he l).1,←(he c).1]at h1
  exact val h1 h2 h3 h4 h5
 ·rename_i args iJ
  split at h
  ·rename_i d x tS tX CO BK
   obtain rfl:args=#[d,x]:=by apply Array.toList_inj.1;simpa using CO
   obtain rfl:iJ=#[tS,tX]:=by apply Array.toList_inj.1;simpa using BK
   split at h
   ·rename_i hX
    obtain⟨v,M',ρ',w',h1,h2,h3,h4,h5⟩:=vm (P:=P) (ty:=ty) hT hs hX h
    rw[←(he d).1,←(he x).1]at h1
    have:=val h1 h2 h3 h4 h5
    simpa[execOp,resolve,invoke,builtin]using this
   ·obtain⟨v,M',ρ',w',h1,h2,h3,h4,h5⟩:=vZ (P:=P) (ty:=ty) hT hs (he d).2 h
    rw[←(he d).1,←(he x).1]at h1
    have:=val h1 h2 h3 h4 h5
    simpa[execOp,resolve,invoke,builtin]using this
  ·exact h.elim
 ·rename_i args iJ
  split at h
  ·rename_i d x tD tS CO BK
   obtain rfl:args=#[d,x]:=by apply Array.toList_inj.1;simpa using CO
   obtain rfl:iJ=#[tD,tS]:=by apply Array.toList_inj.1;simpa using BK
   obtain⟨v,M',w',h1,h2,h3,h4,h5⟩:=Bh (P:=P) (ty:=ty) hT hs h
   rw[←(he d).1,←(he x).1]at h1
   have:=val h1 h2 h3 h4 h5
   simpa[execOp,resolve,invoke,builtin]using this
  ·exact h.elim
 ·rename_i args iJ
  split at h
  ·rename_i x t CO BK
   obtain rfl:args=#[x]:=by apply Array.toList_inj.1;simpa using CO
   obtain rfl:iJ=#[t]:=by apply Array.toList_inj.1;simpa using BK
   split at h
   ·rename_i i g hx
    obtain⟨v,h1,h2,_,h3⟩:=oF (P:=P) (ty:=ty) hT hs.known h
    have h4:=h3 w (hs.id _)
    rw[←hx,←(he x).1]at h4
    have:=val h4 h1 h2 hs (Ext.refl _ _ _)
    simpa[execOp,resolve,invoke,builtin]using this
   ·obtain⟨v,h1,h2,h3⟩:=fh (P:=P) (o:={dst,op:=.call ⟨.builtin .len,#[x],#[t]⟩,type:=ty,pos,after,guard}) hT hs.known he h
    rw[h3 w]
    exact hK v M ρ w h1 h2 hs (Ext.refl _ _ _)
  ·exact h.elim
 ·rename_i t
  obtain⟨v,M',ρ',w',h1,h2,h3,h4,h5⟩:=uf (P:=P) hT hs h
  exact val h1 h2 h3 h4 h5
 ·rename_i t x ix ok
  obtain⟨v,h1,h2,_,h3⟩:=rS (P:=P) hT hs.known (hs.id _) h
  have h4:=h3 w (hs.id _)
  rw[←(he x).1,←(he ix).1]at h4
  exact val h4 h1 h2 hs (Ext.refl _ _ _)
 ·rename_i t m k x
  obtain⟨M',w',h1,h2,h3,h4⟩:=s9 (P:=P) hT hs (he x).2 h
  rw[←(he m).1,←(he k).1,←(he x).1]at h1
  have:(execOp act.eval {dst,op:=.mapUpdate t m k x,type:=ty,pos,after,guard}).run P w=.ok .skip w':=by simp[execOp,h1]
  rw[this]
  exact hK (.aL []) M' ρ w' h2 trivial h3 h4
 ·rename_i t m k x
  obtain⟨M',w',h1,h2,h3,h4⟩:=s9 (P:=P) hT hs (he x).2 h
  rw[←(he m).1,←(he k).1,←(he x).1]at h1
  have:(execOp act.eval {dst,op:=.insert t m k x,type:=ty,pos,after,guard}).run P w=.ok .skip w':=by simp[execOp,h1]
  rw[this]
  exact hK (.aL []) M' ρ w' h2 trivial h3 h4
 ·rename_i f args iJ
  split at h
  ·rename_i g first cap hf
   unfold aa at h
   obtain⟨hg,h⟩:=h
   have BQ:=(he f).1
   have xp:=(he f).2
   rw[hf]at BQ xp
   simp only[AV.ok]at xp
   obtain⟨e1,o1⟩:=za he args.toList
   have lZ:=h ρ w hs (iU (iU xp.1 o1) xp.2)
   rw[fV,fV,←e1]at lZ
   have aS:(execOp act.eval {dst,op:=.call ⟨.value f,args,iJ⟩,type:=ty,pos,after,guard}).run P w=.ok (.enter g (AV.cl ρ first++args.toList.map act.eval++AV.cl ρ cap).toArray) w:=by
    have e2:((AV.cl ρ first).toArray++args.map act.eval++(AV.cl ρ cap).toArray)=(AV.cl ρ first++args.toList.map act.eval++AV.cl ρ cap).toArray:=by
     apply Array.toList_inj.1;simp
    simp only[execOp,resolve,Sem.run_bind,BQ,AV.c,Deferred.ofValue,Sem.run_pure,Result.andThen_ok,invoke]
    rw[e2]
    exact n4 hg _ w
   rw[aS]
   refine⟨(fun h=>by cases h),CallsIn.mono (ve r _ lZ) fun en w' OI=>?_⟩
   obtain⟨ρ',M',h1,h2,h3⟩:=OI
   cases en with
   |returned v=>obtain⟨rv,rfl,h4,h5⟩:=h3;exact hK rv M' ρ' w' h5 h4 h1 h2
   |panicked ch=>obtain⟨rv,rfl,h4,h5⟩:=h3;exact hP rv M' ρ' w' h5 h4 h1 h2
   |outgrown=>exact h3.elim
  ·rename_i l hf
   unfold aN at h
   have BQ:=(he f).1
   rw[hf]at BQ
   obtain⟨e1,o1⟩:=za he args.toList
   obtain⟨g,tmps,as,bd,hy,QW⟩:=h ρ w hs o1
   rw[←e1]at hy
   have aS:(execOp act.eval {dst,op:=.call ⟨.value f,args,iJ⟩,type:=ty,pos,after,guard}).run P w=.ok (.round l g tmps as bd) w:=by
    have e2:(#[]++args.map act.eval:Array Value)=(args.toList.map act.eval).toArray:=by
     apply Array.toList_inj.1;simp
    simp only[execOp,resolve,Sem.run_bind,BQ,AV.c,AV.cl,Deferred.ofValue,Sem.run_pure,Result.andThen_ok,invoke]
    rw[e2];exact hy
   rw[aS]
   refine⟨(fun h=>by cases h),RoundIn.mono (QW r) fun en w' OI=>?_⟩
   obtain⟨ρ',M',h1,h2,h3⟩:=OI
   cases en with
   |returned v=>obtain⟨rv,rfl,h4,h5⟩:=h3;exact hK rv M' ρ' w' h5 h4 h1 h2
   |panicked ch=>obtain⟨rv,rfl,h4,h5⟩:=h3;exact hP rv M' ρ' w' h5 h4 h1 h2
   |outgrown=>exact h3.elim
  ·exact h.elim
 ·rename_i recv name args iJ
  split at h
  ·rename_i t v hx
   have Jp:=(he recv).1
   have Ti:v.ok ρ:=by have:=(he recv).2;rw[hx]at this;exact this
   rw[hx]at Jp
   simp only[AV.c]at Jp
   obtain⟨g,Wx,h,Z8,T5⟩:=BH hT hs Ti h
   unfold aa at h
   obtain⟨hg,h⟩:=h
   obtain⟨e1,o1⟩:=za he args.toList
   have lZ:=h ρ w hs ⟨Z8,o1⟩
   simp only[AV.cl,←e1]at lZ
   have aS:(execOp act.eval {dst,op:=.call ⟨.invoke recv name,args,iJ⟩,type:=ty,pos,after,guard}).run P w=.ok (.enter g (Wx.c ρ::args.toList.map act.eval).toArray) w:=by
    have e2:((#[act.eval recv]++args.map act.eval).extract 1 (#[act.eval recv]++args.map act.eval).size)=args.map act.eval:=by
     apply Array.toList_inj.1;simp
     exact List.take_of_length_le (by simp)
    have e3:(#[Wx.c ρ]++args.map act.eval)=(Wx.c ρ::args.toList.map act.eval).toArray:=by
     apply Array.toList_inj.1;simp
    have e4:(#[act.eval recv]++args.map act.eval)[0]?=some (act.eval recv):=by rw[←Array.getElem?_toList];simp
    have e5:(execOp act.eval {dst,op:=.call ⟨.invoke recv name,args,iJ⟩,type:=ty,pos,after,guard}).run P w=(invoke (.fn (.method name) #[]) (#[act.eval recv]++args.map act.eval)).run P w:=rfl
    rw[e5]
    simp only[invoke]
    cases h0:(#[act.eval recv]++args.map act.eval)[0]? with
    |none=>rw[e4]at h0;cases h0
    |some YG=>
    rw[e4]at h0
    cases h0
    simp only[e2]
    rw[Jp,T5,e3]
    exact n4 hg _ w
   rw[aS]
   refine⟨(fun h=>by cases h),CallsIn.mono (ve r _ lZ) fun en w' OI=>?_⟩
   obtain⟨ρ',M',h1,h2,h3⟩:=OI
   cases en with
   |returned v=>obtain⟨rv,rfl,h4,h5⟩:=h3;exact hK rv M' ρ' w' h5 h4 h1 h2
   |panicked ch=>obtain⟨rv,rfl,h4,h5⟩:=h3;exact hP rv M' ρ' w' h5 h4 h1 h2
   |outgrown=>exact h3.elim
  ·exact h.elim
 ·rename_i x
  split at h
  ·rename_i t v hx
   have Jp:=(he x).1
   rw[hx]at Jp
   have:(execOp act.eval {dst,op:=.panic x,type:=ty,pos,after,guard}).run P w=.halt (.panic ((AV.jo t v).c ρ)) w:=by
    simp[execOp,Jp,AV.c,Instr.panic]
   rw[this]
   exact hP (.jo t v) M ρ w h (by rw[←hx];exact(he x).2) hs (Ext.refl _ _ _)
  ·exact h.elim
 ·rename_i src Ux x
  split at h
  ·rename_i hx
   obtain⟨v,h1,h2,_,h3⟩:=kV (P:=P) hT hs.known h
   have h4:=h3 w (hs.id _)
   rw[←hx,←(he x).1]at h4
   exact val h4 h1 h2 hs (Ext.refl _ _ _)
  ·rename_i i g off n c hx
   split at h
   ·obtain⟨v,M',ρ',w',h1,h2,h3,h4,h5⟩:=vH (P:=P) hT hs h
    rw[←hx,←(he x).1]at h1
    exact val h1 h2 h3 h4 h5
   ·obtain⟨v,h1,h2,_,h3⟩:=kV (P:=P) hT hs.known h
    have h4:=h3 w (hs.id _)
    rw[←hx,←(he x).1]at h4
    exact val h4 h1 h2 hs (Ext.refl _ _ _)
  ·rename_i s hx
   split at h
   ·obtain⟨v,M',ρ',w',h1,h2,h3,h4,h5⟩:=zc (P:=P) hT hs h
    have Jp:=(he x).1
    rw[hx]at Jp
    simp only[AV.c]at Jp
    rw[←Jp]at h1
    exact val h1 h2 h3 h4 h5
   ·obtain⟨v,h1,h2,h3⟩:=fh (P:=P) (o:={dst,op:=.convert src Ux x,type:=ty,pos,after,guard}) hT hs.known he h
    rw[h3 w]
    exact hK v M ρ w h1 h2 hs (Ext.refl _ _ _)
  ·obtain⟨v,h1,h2,h3⟩:=fh (P:=P) (o:={dst,op:=.convert src Ux x,type:=ty,pos,after,guard}) hT hs.known he h
   rw[h3 w]
   exact hK v M ρ w h1 h2 hs (Ext.refl _ _ _)
 ·obtain⟨v,h1,h2,h3⟩:=fh (P:=P) (o:={dst,op,type:=ty,pos,after,guard}) hT hs.known he h
  rw[h3 w]
  exact hK v M ρ w h1 h2 hs (Ext.refl _ _ _)
end
def lH (n:Nat)(ops:Array Oper)(o:Oper)(a:AA)(run skip:AA→Prop):Prop:=
 match o.guard with
 |none=>run a
 |some (j,want)=>match ops[j]? with
  |some oj=>match oj.dst with
   |some t=>match a t with
    | .tt=>match want with
      |true=>run a
      |false=>skip a
    | .ff=>match want with
      |true=>skip a
      |false=>run a
    | .bo x=>match want with
      |true=>(x=true→run (a.put n (some t) .tt))∧(x=false→skip (a.put n (some t) .ff))
      |false=>(x=true→skip (a.put n (some t) .tt))∧(x=false→run (a.put n (some t) .ff))
    | .aL []=>skip a
    |_=>False
   |none=>False
  |none=>False
def dp (l:List Nat)(t:Option Nat):Bool:=
 match t with
 |none=>false
 |some t=>match l with
  |[]=>false
  |x::l=>Nat.beq x t||dp l (some t)
def mq (P:Program)(T:List TI)(n:Nat)(W:List Nat)(ops:Array Oper)(o:Oper)(a:AA)(M:AH)(K:AA→AH→Prop)(Kp:AV→AH→Prop):Prop:=
 bu (cw o.op) (lH n ops o a (fun a=>Hr P T (dp W o.dst) M (pH a) o.op (fun v M'=>K (a.put n o.dst v) M') Kp) (fun a=>K (a.put n o.dst (.aL [])) M))
section
variable{P:Program}{T:List TI}{r:Option Nat}{Q:Exit→Act→World→Prop}
theorem oP {ρ:Env}{D:List Deferred}{n:Nat}{a:AA}{act:Act}(h:bE ρ D n a act){ops:Array Oper}{j t:Nat}{oj:Oper}(hj:ops[j]?=some oj)(hd:oj.dst=some t){b:Bool}(hb:(a t).c ρ=.bool b):yielded ops act.tmps j=some b:=by
 have hg:=h.get t
 rw[hb]at hg
 have:act.tmps[t]?=some (.bool b):=by
  rw[Array.getD_eq_getD_getElem?]at hg
  cases hh:act.tmps[t]? with
  |none=>rw[hh]at hg;simp[undef]at hg
  |some v=>rw[hh]at hg;simpa using hg
 simp[yielded,hj,hd,this]
theorem lG {ρ:Env}{D:List Deferred}{n:Nat}{a:AA}{act:Act}(h:bE ρ D n a act){ops:Array Oper}{o:Oper}{run skip:AA→Prop}(hg:lH n ops o a run skip):
 ∃a',bE ρ D n a' act∧((Region.wanted o (yielded ops act.tmps)=true∧run a')∨(Region.wanted o (yielded ops act.tmps)=false∧skip a')):=by
 have same:∀(t:Nat)(x b:Bool)(v:AV),a t=.bo x→x=b→v.c ρ=.bool b→v.ok ρ→bE ρ D n (a.put n (some t) v) act:=by
  intro t x b v ha hx hv aA
  have h1:=h.put (some t) aA
  have:act.put (some t) (v.c ρ)=act:=by
   have Hc:=h.get t
   rw[ha]at Hc
   simp only[AV.c,hx]at Hc
   rw[hv]
   cases act with
   |mk tmps defers=>
    simp only[Act.put,Act.mk.injEq,and_true]
    apply Array.ext (by simp)
    intro i h1 h2
    by_cases hi:t=i
    ·subst hi
     simp only at Hc
     rw[Array.getElem_setIfInBounds_self]
     rw[Array.getD_eq_getD_getElem?,Array.getElem?_eq_getElem h2]at Hc
     exact Hc.symm
    ·rw[Array.getElem_setIfInBounds_ne _ hi]
  rw[this]at h1
  exact h1
 unfold lH at hg
 unfold Region.wanted
 split at hg
 ·rename_i Rl
  exact⟨a,h,.inl ⟨by rw[Rl],hg⟩⟩
 ·rename_i j want Rl
  rw[Rl]
  simp only
  split at hg
  ·rename_i oj vu
   split at hg
   ·rename_i t We
    split at hg
    ·rename_i fH
     have hy:=oP h vu We (b:=true) (by rw[fH];rfl)
     rw[hy]
     split at hg
     ·exact⟨a,h,.inl ⟨rfl,hg⟩⟩
     ·exact⟨a,h,.inr ⟨rfl,hg⟩⟩
    ·rename_i fH
     have hy:=oP h vu We (b:=false) (by rw[fH];rfl)
     rw[hy]
     split at hg
     ·exact⟨a,h,.inr ⟨rfl,hg⟩⟩
     ·exact⟨a,h,.inl ⟨rfl,hg⟩⟩
    ·rename_i x fH
     have hy:=oP h vu We (b:=x) (by rw[fH];rfl)
     rw[hy]
     split at hg
     ·cases x with
      |true=>exact⟨_,same t _ true .tt fH rfl rfl trivial,.inl ⟨rfl,hg.1 rfl⟩⟩
      |false=>exact⟨_,same t _ false .ff fH rfl rfl trivial,.inr ⟨rfl,hg.2 rfl⟩⟩
     ·cases x with
      |true=>exact⟨_,same t _ true .tt fH rfl rfl trivial,.inr ⟨rfl,hg.1 rfl⟩⟩
      |false=>exact⟨_,same t _ false .ff fH rfl rfl trivial,.inl ⟨rfl,hg.2 rfl⟩⟩
    ·rename_i fH
     refine⟨a,h,.inr ⟨?_,hg⟩⟩
     have Hc:=h.get t
     rw[fH]at Hc
     have hy:yielded ops act.tmps j=none:=by
      simp only[yielded,vu,Option.bind_some,We]
      cases hx:act.tmps[t]? with
      |none=>rfl
      |some v=>
       rw[Array.getD_eq_getD_getElem?,hx]at Hc
       simp only[Option.getD_some,AV.c,AV.cl]at Hc
       rw[Hc]
     rw[hy];rfl
    ·exact hg.elim
   ·exact hg.elim
  ·exact hg.elim
theorem dU (hT:aq P T){n:Nat}{W:List Nat}{ops:Array Oper}{o:Oper}{a:AA}{M:AH}{K:AA→AH→Prop}{Kp:AV→AH→Prop}{ρ:Env}{D:List Deferred}{w:World}{act:Act}(hs:aU ρ M w)(ha:bE ρ D n a act)
 (h:mq P T n W ops o a M K Kp){K':Act→World→Prop}
 (hK:∀a' aJ M' ρ' w',K a' M'→bE ρ' D n a' aJ→aU ρ' M' w'→Ext ρ M w ρ' M' w'→K' aJ w')
 (hP:∀rv M' ρ' w',Kp rv M'→rv.ok ρ'→aU ρ' M' w'→Ext ρ M w ρ' M' w'→Q (.panic [{v:=rv.c ρ',recovered:=false}]) act w'):
 cw o.op=true∧vP r P ops Q o K' act w:=by
 unfold mq at h
 replace h:=ar h
 obtain⟨hp,h⟩:=h
 refine⟨hp,?_⟩
 obtain⟨a',rp,h⟩:=lG ha h
 unfold vP
 rcases h with⟨hw,h⟩|⟨hw,h⟩
 ·rw[if_pos hw]
  exact uX hT hs rp.ev h (fun rv M' ρ' w' h1 h2 h3 h4=>hK _ _ M' ρ' w' h1 ((rp.ext h4.env).put o.dst h2) h3 h4) hP
 ·rw[if_neg (by rw[hw];simp)]
  exact hK _ _ M ρ w h (rp.put o.dst (v:=.aL []) trivial) hs (Ext.refl _ _ _)
def qI (P:Program)(T:List TI)(n:Nat)(W:List Nat)(ops:Array Oper)(Kp:AV→AH→Prop)(K:AA→AH→Prop):List Oper→AA→AH→Prop
 |[],a,M=>K a M
 |o::l,a,M=>mq P T n W ops o a M (fun a M=>qI P T n W ops Kp K l a M) Kp
theorem s7 {i:Nat}{l:List Nat}{ops:Array Oper}{o:Oper}{act:Act}{w:World}(hi:ops[i]?=some o)(hp:cw o.op=true)(h:vP r P ops Q o (wpOpsIn (FW r) 0 P ops Q l) act w):wpOpsIn (FW r) 0 P ops Q (i::l) act w:=by
 rw[wpOpsIn_cons]
 exact v9 hi hp h
theorem oV (hT:aq P T){n:Nat}{W:List Nat}{ops:Array Oper}{K:AA→AH→Prop}{Kp:AV→AH→Prop}{D:List Deferred}{ρ0:Env}{M0:AH}{w0:World}:
 ∀(l:List Oper)(k:Nat)(a:AA)(M:AH)(ρ:Env)(w:World)(act:Act),ops.toList.drop k=l→aU ρ M w→Ext ρ0 M0 w0 ρ M w→bE ρ D n a act→qI P T n W ops Kp K l a M→
  (∀a' aJ M' ρ' w',K a' M'→bE ρ' D n a' aJ→aU ρ' M' w'→Ext ρ0 M0 w0 ρ' M' w'→Q .normal aJ w')→
  (∀rv M' ρ' w' aJ,aJ.defers=D→Kp rv M'→rv.ok ρ'→aU ρ' M' w'→Ext ρ0 M0 w0 ρ' M' w'→Q (.panic [{v:=rv.c ρ',recovered:=false}]) aJ w')→
  wpOpsIn (FW r) 0 P ops Q (List.range' k l.length) act w
 |[],k,a,M,ρ,w,act,_,hs,hE,ha,h,hK,hP=>hK a act M ρ w h ha hs hE
 |o::l,k,a,M,ρ,w,act,hl,hs,hE,ha,h,hK,hP=>by
  have hi:ops[k]?=some o:=by
   have:=congrArg (fun l=>l[0]?) hl
   simpa using this
  have Rf:ops.toList.drop (k+1)=l:=by
   have:=congrArg List.tail hl
   simpa using this
  simp only[qI]at h
  have key:=dU (r:=r) (Q:=Q) (K':=wpOpsIn (FW r) 0 P ops Q (List.range' (k+1) l.length)) hT hs ha h
   (fun a' aJ M' ρ' w' h1 h2 h3 h4=>oV hT l (k+1) a' M' ρ' w' aJ Rf h3 (hE.trans h4) h2 h1 hK hP)
   (fun rv M' ρ' w' h1 h2 h3 h4=>hP rv M' ρ' w' act ha.defers h1 h2 h3 (hE.trans h4))
  rw[List.length_cons,List.range'_succ]
  exact s7 hi key.1 key.2
end
end Go.Proofs.Ytibadaomjlkoaaa
open Go.RowKit
namespace Go.Proofs.Ytibadaomjlkoaaa
def Ba (B:List Nat)(M M':AH):Prop:=∀b∈B,∀o,M[b]?=some o→M'[b]?=some o
def l7 (B:List Nat)(M M':AH)(p:Prop):Prop:=
 match B with
 |[]=>p
 |b::B=>match M[b]? with
  |some o=>M'[b]?=some o∧l7 B M M' p
  |none=>l7 B M M' p
theorem lK {B:List Nat}{M M':AH}{p:Prop}(h:l7 B M M' p):Ba B M M'∧p:=by
 induction B with
 |nil=>exact⟨fun b hb=>absurd hb List.not_mem_nil,h⟩
 |cons x B ih=>
  simp only[l7]at h
  split at h
  ·rename_i o ho
   refine⟨fun b hb o' uH=>?_,(ih h.2).2⟩
   rcases List.mem_cons.1 hb with rfl|hb
   ·rw[ho]at uH;injection uH with uH;subst uH;exact h.1
   ·exact(ih h.2).1 b hb o' uH
  ·rename_i ho
   refine⟨fun b hb o' uH=>?_,(ih h).2⟩
   rcases List.mem_cons.1 hb with rfl|hb
   ·rw[ho]at uH;cases uH
   ·exact(ih h).1 b hb o' uH
theorem Ba.trans {B:List Nat}{M M' lO:AH}(h:Ba B M M')(h':Ba B M' lO):Ba B M lO:=fun b hb o ho=>h' b hb o (h b hb o ho)
def fJ (P:Program)(T:List TI)(n:Nat)(W:List Nat)(ops:Array Oper)(Kp:AV→AH→Prop)(K:AA→AH→Prop)(B:List Nat):List Nat→List (Nat×Nat)→AA→AH→Prop
 |_,[],a,M=>K a M
 |sk,(i,md)::l,a,M=>match dp sk (some i)with
  |true=>fJ P T n W ops Kp K B sk l a M
  |false=>match ops[i]? with
   |none=>False
   |some o=>match md with
    |0=>bu (cw o.op) (lH n ops o a (fun a=>iR T (dp W o.dst) M (pH a) o.op fun v=>fJ P T n W ops Kp K B sk l (a.put n o.dst v) M) (fun a=>fJ P T n W ops Kp K B sk l (a.put n o.dst (.aL [])) M))
    |1=>bu (cw o.op) (lH n ops o a (fun a=>match o.op with
      | .load t x=>bu (dp B (some (pH a x).id)) (qk T M t (pH a x) fun v=>fJ P T n W ops Kp K B sk l (a.put n o.dst v) M)
      | .convert s d x=>bu (dp B (some (pH a x).id)) (oR T M s d (pH a x) fun v=>fJ P T n W ops Kp K B sk l (a.put n o.dst v) M)
      | .lookup t x ix ok=>bu (dp B (some (pH a x).id)) (xa T M t (pH a x) (pH a ix) ok fun v=>fJ P T n W ops Kp K B sk l (a.put n o.dst v) M)
      | .call ⟨.builtin .len,args,iJ⟩=>match args.toList,iJ.toList with
        |[x],[t]=>bu (dp B (some (pH a x).id)) (nQ T M t (pH a x) fun v=>fJ P T n W ops Kp K B sk l (a.put n o.dst v) M)
        |_,_=>False
      |_=>False) (fun a=>fJ P T n W ops Kp K B sk l (a.put n o.dst (.aL [])) M))
    |2=>mq P T n W ops o a M (fun a M'=>l7 B M M' (fJ P T n W ops Kp K B sk l a M')) Kp
    |3=>mq P T n W ops o a M (fun a M'=>fJ P T n W ops Kp K B sk l a M') Kp
    |j+4=>match ops[j]? with
     |none=>False
     |some oj=>mq P T n W ops o a M (fun a M'=>l7 B M M' (fJ P T n W ops Kp K B sk l a M')) Kp∧mq P T n W ops oj a M (fun a M'=>l7 B M M' (mq P T n W ops o a M' (fun a lO=>l7 B M' lO (fJ P T n W ops Kp K B (j::sk) l a lO)) Kp)) Kp
def hJ (sk:List Nat)(l:List (Nat×Nat)):Nat:=(l.filter fun x=>!(dp sk (some x.1))).length
def oX (ops:Array Oper)(ds:List Nat):List Nat→List (Nat×Nat)→Array Bool→Bool
 |_,[],l=>Region.ready .any ops l==[]
 |sk,(i,md)::r,l=>match dp sk (some i)with
  |true=>oX ops ds sk r l
  |false=>(match md with
   |0=>Region.free .any ops l i&&(Region.ready .any ops l).contains i
   |1=>Region.free .any ops l i&&(Region.ready .any ops l).contains i&&ds.all fun d=>l.getD d true||waits ops i ops.size d
   |2=>(Region.ready .any ops l==[i])&&!(ds.contains i)
   |3=>(Region.ready .any ops l==[i])&&ds.contains i&&r.all (fun x=>!(x.2==1)&&!(x.2==2)&&!(Nat.ble 4 x.2))
   |j+4=>(Region.ready .any ops l==[i,j]||Region.ready .any ops l==[j,i])&&(!(ds.contains i)&&!(ds.contains j))&&(Region.ready .any ops (l.setIfInBounds j true)==[i])&&Nat.blt (hJ (j::sk) r) (hJ sk r)&&
     oX ops ds (j::sk) r ((l.setIfInBounds j true).setIfInBounds i true))&&oX ops ds sk r (l.setIfInBounds i true)
theorem n7 {l:List Nat}{t:Nat}(h:dp l (some t)=true):t∈l:=by
 induction l with
 |nil=>simp[dp]at h
 |cons x l ih=>
  simp only[dp,Bool.or_eq_true]at h
  rcases h with h|h
  ·rw[Nat.eq_of_beq_eq_true h];exact List.mem_cons_self
  ·exact List.mem_cons_of_mem _ (ih h)
section
variable{r:Option Nat}{P:Program}{ops:Array Oper}{Q:Exit→Act→World→Prop}{S:World→Prop}{ds:List Nat}
theorem xL {i:Nat}{oi:Oper}{v:Value}(hi:ops[i]?=some oi)(hp:∀(i:Nat) o,ops[i]?=some o→cw o.op=true)
 (hQ:∀c a w,Q (.panic c) (a.put oi.dst v) w→Q (.panic c) a w):
 ∀(f:Nat)(l:Array Bool)(a:Act)(w:World),
  (∀j oj,ops[j]?=some oj→j≠i→l.getD j true=false→(∀e∈oj.after,Region.binds .any e=true→e.on≠i)→oi.apart ops oj=true)→
  i∈Region.ready .any ops l→YI P ops (fun _=>True) oi v a→
  anyS r P ops Q S ds f (l.setIfInBounds i true) (a.put oi.dst v) w→anyS r P ops Q S ds (f+1) l a w:=by
 intro f
 induction f with
 |zero=>
  intro l a w _ hr hy H
  refine⟨fun h=>(by rw[h]at hr;cases hr),fun j hj o ho=>?_⟩
  by_cases fR:j=i
  ·subst fR
   rw[hi]at ho;injection ho with ho;subst ho
   exact hy.vP trivial ⟨fun _=>.inl rfl,H⟩
  ·have:=ready_mono hj fR
   rw[H.1]at this
   cases this
 |succ f ih=>
  intro l a w jN hr hy H
  refine⟨fun h=>(by rw[h]at hr;cases hr),fun j hj oj vu=>?_⟩
  by_cases fR:j=i
  ·subst fR
   rw[hi]at vu;injection vu with vu;subst vu
   exact hy.vP trivial ⟨fun _=>.inl rfl,H⟩
  ·have h1:=H.2 j (ready_mono hj fR) oj vu
   obtain⟨CK,ZQ,yO,hall⟩:=mem_ready.1 hj
   rw[vu]at yO;injection yO with yO;subst yO
   have Hb:=(mem_ready.1 hr).1
   have Q5:∀e∈oj.after,Region.binds .any e=true→e.on≠i:=fun e he hb heq=>by
    have h1:=hall e he hb
    rw[heq]at h1
    rcases Nat.lt_or_ge i l.size with h'|h'
    ·simp[h']at Hb h1;rw[Hb]at h1;cases h1
    ·simp[Array.getElem?_eq_none h']at h1
   have h2:=E8 (jN j oj vu fR CK Q5) (hp i oi hi) (hp j oj vu) hQ hy h1
   refine qc (fun a' w' h3=>⟨h3.2.1,ih (l.setIfInBounds j true) a' w' ?_ (ready_mono hr (Ne.symm fR)) h3.1 ?_⟩) h2
   ·intro k ok hk Wc jM rY
    refine jN k ok hk Wc ?_ rY
    by_cases JI:j=k
    ·subst JI;exact CK
    ·rw[getD_set_ne true JI]at jM;exact jM
   ·rw[Array.setIfInBounds_comm _ _ fR]
    exact h3.2.2
theorem HF {l:Array Bool}{a:Act}{w:World}(hr:Region.ready .any ops l=[])(h:Q .normal a w):∀f,anyS r P ops Q S ds f l a w
 |0=>⟨hr,h⟩
 |_+1=>⟨fun _=>h,by rw[hr];simp⟩
theorem vo {i f:Nat}{o:Oper}{l:Array Bool}{a:Act}{w:World}(hr:Region.ready .any ops l=[i])(hi:ops[i]?=some o)
 (h:vP r P ops Q o (fun a' w'=>(i∉ds→w'=w∨S w')∧anyS r P ops Q S ds f (l.setIfInBounds i true) a' w') a w):anyS r P ops Q S ds (f+1) l a w:=by
 refine⟨fun h=>(by rw[hr]at h;cases h),fun j hj o' uH=>?_⟩
 rw[hr]at hj
 obtain rfl:=List.mem_singleton.1 hj
 rw[hi]at uH;injection uH with uH;subst uH
 exact h
def SB (ρ0:Env)(M0:AH)(B:List Nat)(w:World):Prop:=∀b∈B,eZ ρ0 M0 b w
theorem od {ρ0 ρ':Env}{M0 M':AH}{B:List Nat}{w0 w':World}(h0:SB ρ0 M0 B w0)(hs:aU ρ' M' w')(he:∀i g l,ρ0 i g=some l→ρ' i g=some l)(hB:Ba B M0 M'):SB ρ0 M0 B w':=by
 intro b hb g own x q cV hq
 have Ni:slot M' b g=some (own,x):=by
  unfold slot at cV⊢
  cases ho:M0[b]? with
  |none=>rw[ho]at cV;cases cV
  |some o=>rw[ho]at cV;rw[hB b hb o ho];exact cV
 exact(h0 b hb g own x q cV hq).back he (hs.id b g own x q Ni (he _ _ _ hq))
theorem SB.of {ρ:Env}{M:AH}{w:World}(h:aU ρ M w)(B:List Nat):SB ρ M B w:=fun b _=>h.id b
variable{T:List TI}
set_option maxHeartbeats 1000000 in
theorem bq (hT:aq P T){n:Nat}{W:List Nat}{K:AA→AH→Prop}{Kp:AV→AH→Prop}{B:List Nat}{D:List Deferred}{ρ0:Env}{M0:AH}{w0:World}
 (hp:∀(i:Nat) o,ops[i]?=some o→cw o.op=true)
 (hQ:∀c (a:Act) d v w,Q (.panic c) (a.put d v) w→Q (.panic c) a w):
 ∀(cr:List (Nat×Nat))(sk:List Nat)(l:Array Bool)(f:Nat)(a:AA)(M:AH)(ρ:Env)(w:World)(act:Act)(S:World→Prop),hJ sk cr≤f→oX ops ds sk cr l=true→jl ops l→
  aU ρ M w→Ext ρ0 M0 w0 ρ M w→bE ρ D n a act→(cr.any (fun x=>x.2==1)=true→S w)→(∀w',S w'→SB ρ M B w')→(cr.any (fun x=>x.2==2||Nat.ble 4 x.2)=true→∀ρ' M' w',aU ρ' M' w'→(∀i g l,ρ i g=some l→ρ' i g=some l)→Ba B M M'→S w')→fJ P T n W ops Kp K B sk cr a M→
  (∀a' aJ M' ρ' w',K a' M'→bE ρ' D n a' aJ→aU ρ' M' w'→Ext ρ0 M0 w0 ρ' M' w'→Q .normal aJ w')→
  (∀rv M' ρ' w' aJ,aJ.defers=D→Kp rv M'→rv.ok ρ'→aU ρ' M' w'→Ext ρ0 M0 w0 ρ' M' w'→Q (.panic [{v:=rv.c ρ',recovered:=false}]) aJ w')→
  anyS r P ops Q S ds f l act w
 |[],sk,l,f,a,M,ρ,w,act,S,_,bW,_,hs,hE,ha,_,_,_,h,hK,hP=>by
  simp only[oX,beq_iff_eq]at bW
  exact HF bW (hK a act M ρ w h ha hs hE) f
 |(i,md)::cr,sk,l,f,a,M,ρ,w,act,S,hf,bW,hc,hs,hE,ha,hS,HQ,FG,h,hK,hP=>by
  simp only[oX]at bW
  simp only[fJ]at h
  cases QU:dp sk (some i)with
  |true=>
   rw[QU]at bW h
   exact bq hT hp hQ cr sk l f a M ρ w act S (by simpa[hJ,QU]using hf) bW hc hs hE ha (fun hh=>hS (by simp only[List.any_cons,hh,Bool.or_true])) HQ (fun hh=>FG (by simp only[List.any_cons,hh,Bool.or_true])) h hK hP
  |false=>
  rw[QU]at bW h
  have hf0:hJ sk cr+1≤f:=by simpa[hJ,QU]using hf
  obtain⟨f,rfl⟩:∃f',f=f'+1:=⟨f-1,by omega⟩
  simp only[Bool.and_eq_true]at bW
  obtain⟨hm,bW⟩:=bW
  simp only at h
  split at h
  ·exact h.elim
  ·rename_i o hi
   have yR:hJ sk cr≤f:=by omega
   have Rz:cr.any (fun x=>x.2==1)=true→S w:=fun hh=>hS (by simp only[List.any_cons,hh,Bool.or_true])
   have CQ:=fun(hh:cr.any (fun x=>x.2==2||Nat.ble 4 x.2)=true)=>FG (by simp only[List.any_cons,hh,Bool.or_true])
   split at h
   ·simp only[Bool.and_eq_true,List.contains_iff_mem]at hm
    have cH:i∈Region.ready .any ops l:=by simpa using hm.2
    replace h:=(ar h).2
    obtain⟨a',rp,h⟩:=lG ha h
    rcases h with⟨hw,h⟩|⟨hw,h⟩
    ·obtain⟨v,h1,h2,h3⟩:=fh hT hs.known rp.ev h
     refine xL hi hp (fun c a w=>hQ c a o.dst _ w) f l act w (Region.free_spec hi hm.1) cH (.inl ⟨hw,fun w' _=>h3 w'⟩) ?_
     exact bq hT hp hQ cr sk _ f _ M ρ w _ S yR bW (hc.set cH) hs hE (rp.put o.dst h2) Rz HQ CQ h1 hK hP
    ·refine xL hi hp (fun c a w=>hQ c a o.dst _ w) f l act w (Region.free_spec hi hm.1) cH (.inr ⟨hw,rfl⟩) ?_
     exact bq hT hp hQ cr sk _ f _ M ρ w _ S yR bW (hc.set cH) hs hE (rp.put o.dst (v:=.aL []) trivial) Rz HQ CQ h hK hP
   ·simp only[Bool.and_eq_true,List.contains_iff_mem]at hm
    obtain⟨⟨jN,Z9⟩,hds⟩:=hm
    have cH:i∈Region.ready .any ops l:=by simpa using Z9
    have AU:∀d∈ds,l.getD d true=false→waits ops i ops.size d=true:=fun d hd jM=>by
     have:=List.all_eq_true.1 hds d hd
     rw[jM]at this
     simpa using this
    have Ug:=hS (by simp)
    replace h:=(ar h).2
    obtain⟨a',rp,h⟩:=lG ha h
    rcases h with⟨hw,h⟩|⟨hw,h⟩
    ·split at h
     ·rename_i t x sA
      replace h:=ar h
      obtain⟨Ny,h⟩:=h
      have ic:=n7 Ny
      obtain⟨v,h1,h2,h3⟩:=gz (P:=P) hT hs.known (hs.id _) h
      have hx:=(rp.ev x)
      have aS:∀w',S w'→(execOp act.eval o).run P w'=.ok (.value (v.c ρ)) w':=by
       intro w' QR
       have h4:=h3 w' (HQ w' QR _ ic)
       rw[←hx.1]at h4
       obtain⟨dst,op,ty,pos,after,guard⟩:=o
       simp only at sA
       subst sA
       simp[execOp,h4]
      refine kK hi hp (fun c a w=>hQ c a o.dst _ w) f l act w (Region.free_spec hi jN) hc AU cH (.inl ⟨hw,aS⟩) Ug ?_
      exact bq hT hp hQ cr sk _ f _ M ρ w _ S yR bW (hc.set cH) hs hE (rp.put o.dst h2) Rz HQ CQ h1 hK hP
     ·rename_i t t' x sA
      replace h:=ar h
      obtain⟨Ny,h⟩:=h
      have ic:=n7 Ny
      obtain⟨v,h1,h2,OG,h3⟩:=kV (P:=P) hT hs.known h
      have hx:=(rp.ev x)
      have aS:∀w',S w'→(execOp act.eval o).run P w'=.ok (.value (v.c ρ)) w':=by
       intro w' QR
       have h4:=h3 w' (HQ w' QR _ ic)
       rw[←hx.1]at h4
       obtain⟨dst,op,ty,pos,after,guard⟩:=o
       simp only at sA
       subst sA
       simp[execOp,h4]
      refine kK hi hp (fun c a w=>hQ c a o.dst _ w) f l act w (Region.free_spec hi jN) hc AU cH (.inl ⟨hw,aS⟩) Ug ?_
      exact bq hT hp hQ cr sk _ f _ M ρ w _ S yR bW (hc.set cH) hs hE (rp.put o.dst h2) Rz HQ CQ h1 hK hP
     ·rename_i t x ix ok sA
      replace h:=ar h
      obtain⟨Ny,h⟩:=h
      have ic:=n7 Ny
      obtain⟨v,h1,h2,OG,h3⟩:=rS (P:=P) hT hs.known (hs.id _) h
      have hx:=(rp.ev x)
      have Sl:=(rp.ev ix)
      have aS:∀w',S w'→(execOp act.eval o).run P w'=.ok (.value (v.c ρ)) w':=by
       intro w' QR
       have h4:=h3 w' (HQ w' QR _ ic)
       rw[←hx.1,←Sl.1]at h4
       obtain⟨dst,op,ty,pos,after,guard⟩:=o
       simp only at sA
       subst sA
       simp[execOp,h4]
      refine kK hi hp (fun c a w=>hQ c a o.dst _ w) f l act w (Region.free_spec hi jN) hc AU cH (.inl ⟨hw,aS⟩) Ug ?_
      exact bq hT hp hQ cr sk _ f _ M ρ w _ S yR bW (hc.set cH) hs hE (rp.put o.dst h2) Rz HQ CQ h1 hK hP
     ·rename_i args iJ sA
      split at h
      ·rename_i x t CO BK
       obtain rfl:args=#[x]:=by apply Array.toList_inj.1;simpa using CO
       obtain rfl:iJ=#[t]:=by apply Array.toList_inj.1;simpa using BK
       replace h:=ar h
       obtain⟨Ny,h⟩:=h
       have ic:=n7 Ny
       obtain⟨v,h1,h2,OG,h3⟩:=oF (P:=P) (ty:=o.type) hT hs.known h
       have hx:=(rp.ev x)
       have aS:∀w',S w'→(execOp act.eval o).run P w'=.ok (.value (v.c ρ)) w':=by
        intro w' QR
        have h4:=h3 w' (HQ w' QR _ ic)
        rw[←hx.1]at h4
        obtain⟨dst,op,ty,pos,after,guard⟩:=o
        simp only at sA h4
        subst sA
        simp[execOp,resolve,invoke,builtin,h4]
       refine kK hi hp (fun c a w=>hQ c a o.dst _ w) f l act w (Region.free_spec hi jN) hc AU cH (.inl ⟨hw,aS⟩) Ug ?_
       exact bq hT hp hQ cr sk _ f _ M ρ w _ S yR bW (hc.set cH) hs hE (rp.put o.dst h2) Rz HQ CQ h1 hK hP
      ·exact h.elim
     ·exact h.elim
    ·refine kK hi hp (fun c a w=>hQ c a o.dst _ w) f l act w (Region.free_spec hi jN) hc AU cH (.inr ⟨hw,rfl⟩) Ug ?_
     exact bq hT hp hQ cr sk _ f _ M ρ w _ S yR bW (hc.set cH) hs hE (rp.put o.dst (v:=.aL []) trivial) Rz HQ CQ h hK hP
   ·simp only[Bool.and_eq_true,beq_iff_eq]at hm
    have cH:i∈Region.ready .any ops l:=by rw[hm.1];exact List.mem_singleton.2 rfl
    refine vo hm.1 hi ?_
    refine(dU (r:=r) (Q:=Q) hT hs ha h ?_ ?_).2
    ·intro a' aJ M' ρ' w' h1 h2 h3 h4
     replace h1:=lK h1
     have CR:=hE.trans h4
     have FG:=FG (by simp)
     have CP:=FG ρ' M' w' h3 h4.env h1.1
     refine⟨fun _=>.inr CP,?_⟩
     refine gH (S:=fun u=>S u∧SB ρ' M' B u) (fun u hu=>hu.1) f _ _ _ ?_
     refine bq hT hp hQ cr sk _ f a' M' ρ' w' aJ (fun u=>S u∧SB ρ' M' B u) yR bW (hc.set cH) h3 CR h2 (fun _=>⟨CP,SB.of h3 B⟩) (fun u hu=>hu.2) ?_ h1.2 hK hP
     intro _ gK lO vr k1 k2 k3
     exact⟨FG gK lO vr k1 (fun i g l e=>k2 i g l (h4.env i g l e)) (h1.1.trans k3),od (SB.of h3 B) k1 k2 k3⟩
    ·intro rv M' ρ' w' h1 h2 h3 h4
     exact hP rv M' ρ' w' act ha.defers h1 h2 h3 (hE.trans h4)
   ·simp only[Bool.and_eq_true,beq_iff_eq]at hm
    obtain⟨⟨zr,sQ⟩,rY⟩:=hm
    have cH:i∈Region.ready .any ops l:=by rw[zr];exact List.mem_singleton.2 rfl
    refine vo zr hi ?_
    refine(dU (r:=r) (Q:=Q) hT hs ha h ?_ ?_).2
    ·intro a' aJ M' ρ' w' h1 h2 h3 h4
     have CR:=hE.trans h4
     refine⟨fun hn=>absurd (by simpa using sQ) hn,?_⟩
     have Xl:cr.any (fun x=>x.2==1)=true→False:=by
      intro vU
      obtain⟨x,hx,CA⟩:=List.any_eq_true.1 vU
      have:=List.all_eq_true.1 rY x hx
      rw[CA]at this
      simp at this
     have Xk:cr.any (fun x=>x.2==2||Nat.ble 4 x.2)=true→False:=by
      intro vU
      obtain⟨x,hx,CA⟩:=List.any_eq_true.1 vU
      have:=List.all_eq_true.1 rY x hx
      simp only[Bool.and_eq_true,Bool.not_eq_true']at this
      rw[this.1.2,this.2]at CA
      cases CA
     refine gH (S:=fun _=>False) (fun u hu=>hu.elim) f _ _ _ ?_
     exact bq hT hp hQ cr sk _ f a' M' ρ' w' aJ (fun _=>False) yR bW (hc.set cH) h3 CR h2 (fun vU=>Xl vU) (fun u hu=>hu.elim) (fun vU=>(Xk vU).elim) h1 hK hP
    ·intro rv M' ρ' w' h1 h2 h3 h4
     exact hP rv M' ρ' w' act ha.defers h1 h2 h3 (hE.trans h4)
   ·rename_i j
    split at h
    ·exact h.elim
    ·rename_i oj hj
     simp only[Bool.and_eq_true,Bool.or_eq_true,beq_iff_eq]at hm
     obtain⟨⟨⟨⟨zr,sQ,CL⟩,Y0⟩,dI⟩,Xe⟩:=hm
     have G2:hJ (j::sk) cr<hJ sk cr:=by simpa using dI
     have cH:i∈Region.ready .any ops l:=by rcases zr with e|e<;>rw[e]<;>simp
     have Nl:j∈Region.ready .any ops l:=by rcases zr with e|e<;>rw[e]<;>simp
     refine⟨fun h0=>(by rw[h0]at cH;cases cH),fun k hk ok aA=>?_⟩
     have mQ:k=i∨k=j:=by rcases zr with e|e<;>rw[e]at hk<;>simp at hk<;>omega
     rcases mQ with rfl|rfl
     ·rw[hi]at aA;injection aA with aA;subst aA
      refine(dU (r:=r) (Q:=Q) hT hs ha h.1 ?_ ?_).2
      ·intro a' aJ M' ρ' w' h1 h2 h3 h4
       replace h1:=lK h1
       have CR:=hE.trans h4
       have FG:=FG (by simp)
       have CP:=FG ρ' M' w' h3 h4.env h1.1
       refine⟨fun _=>.inr CP,?_⟩
       refine gH (S:=fun u=>S u∧SB ρ' M' B u) (fun u hu=>hu.1) f _ _ _ ?_
       refine bq hT hp hQ cr sk _ f a' M' ρ' w' aJ (fun u=>S u∧SB ρ' M' B u) yR bW (hc.set cH) h3 CR h2 (fun _=>⟨CP,SB.of h3 B⟩) (fun u hu=>hu.2) ?_ h1.2 hK hP
       intro _ gK lO vr k1 k2 k3
       exact⟨FG gK lO vr k1 (fun i g l e=>k2 i g l (h4.env i g l e)) (h1.1.trans k3),od (SB.of h3 B) k1 k2 k3⟩
      ·intro rv M' ρ' w' h1 h2 h3 h4
       exact hP rv M' ρ' w' act ha.defers h1 h2 h3 (hE.trans h4)
     ·rw[hj]at aA;injection aA with aA;subst aA
      refine(dU (r:=r) (Q:=Q) hT hs ha h.2 ?_ ?_).2
      ·intro a' aJ M' ρ' w' h1 h2 h3 h4
       replace h1:=lK h1
       have CR:=hE.trans h4
       have FG:=FG (by simp)
       have CP:=FG ρ' M' w' h3 h4.env h1.1
       refine⟨fun _=>.inr CP,?_⟩
       have hcj:=hc.set Nl
       have Nm:i∈Region.ready .any ops (l.setIfInBounds k true):=by rw[Y0];exact List.mem_singleton.2 rfl
       obtain⟨f,rfl⟩:∃f',f=f'+1:=⟨f-1,by omega⟩
       refine vo Y0 hi ?_
       refine(dU (r:=r) (Q:=Q) hT h3 h2 h1.2 ?_ ?_).2
       ·intro Yz KB lO gK vr g1 g2 g3 g4
        replace g1:=lK g1
        have Uh:∀nq M1 w1,aU nq M1 w1→(∀i g l,ρ' i g=some l→nq i g=some l)→Ba B M' M1→S w1∧SB ρ' M' B w1:=fun nq M1 w1 k1 k2 k3=>⟨FG nq M1 w1 k1 (fun i g l e=>k2 i g l (h4.env i g l e)) (h1.1.trans k3),od (SB.of h3 B) k1 k2 k3⟩
        have Uf:=Uh gK lO vr g3 g4.env g1.1
        refine⟨fun _=>.inr Uf.1,?_⟩
        refine gH (S:=fun u=>S u∧SB gK lO B u) (fun u hu=>hu.1) f _ _ _ ?_
        refine bq hT hp hQ cr (k::sk) _ f Yz lO gK vr KB (fun u=>S u∧SB gK lO B u) (by omega) Xe (hcj.set Nm) g3 (CR.trans g4) g2 (fun _=>⟨Uf.1,SB.of g3 B⟩) (fun u hu=>hu.2) ?_ g1.2 hK hP
        intro _ nq M1 w1 k1 k2 k3
        exact⟨(Uh nq M1 w1 k1 (fun i g l e=>k2 i g l (g4.env i g l e)) (g1.1.trans k3)).1,od (SB.of g3 B) k1 k2 k3⟩
       ·intro rv lO gK vr g1 g2 g3 g4
        exact hP rv lO gK vr aJ h2.defers g1 g2 g3 (CR.trans g4)
      ·intro rv M' ρ' w' h1 h2 h3 h4
       exact hP rv M' ρ' w' act ha.defers h1 h2 h3 (hE.trans h4)
end
end Go.Proofs.Ytibadaomjlkoaaa
open Go.RowKit
namespace Go.Proofs.Ytibadaomjlkoaaa
theorem BA {ρ:Env}{M:AH}{w w1:World}{x:af}{c:Array Value}{e:TypeId}{r:Nat}(h:aU ρ M w)(hr:M[r]?=some .gone)(jM:∀g,ρ r g=none)(QP:w1.heap=w.heap)(CG:w1.os=w.os)(ja:w1.tape=w.tape)(pf:w1.output=w.output)
 (Fu:x.size≤c.size)(fH:∀k v,x.at k=some v→v.ok ρ∧c[k]?=some (v.c ρ))(rh:x.row=true:=by rfl):
 aU (j8 ρ r 0 (some (w.heap.size,0))) (M.set r (.one true 0 x)) (w1.alloc (.cells c e))∧Ext ρ M w (j8 ρ r 0 (some (w.heap.size,0))) (M.set r (.one true 0 x)) (w1.alloc (.cells c e)):=by
 have QT:(ρ r 0).isSome=false:=by rw[jM 0];rfl
 have a9:r<M.length:=(List.getElem?_eq_some_iff.1 hr).1
 have eJ:w1.heap.size=w.heap.size:=by rw[QP]
 refine kZ (i:=r) (g:=0) (x':=x) h (by simp) (fun i' eU=>List.getElem?_set_ne (Ne.symm eU)) (by simp[a9]) (dx QT) dM (fun g' hg=>by rw[jM g']at hg;cases hg) (fun b hb _=>?_) (by simp[QP]) CG ja pf
  (.inl ⟨(w.heap.size,0),au _ _ _ _,.mk' rh ⟨c,e,(0,0),?_,by show 0+x.size≤c.size;omega,fun k v hv=>?_,fun _=>rfl⟩,.inl (Nat.le_refl _)⟩)
 ·rw[Below.heap_alloc w1 _ b (by omega),QP]
 ·show(w1.alloc _).heap[w.heap.size]?=_
  rw[←eJ];exact heap_alloc_new w1 _
 ·have h1:=fH k v hv
  refine⟨AV.cF (dx QT) v h1.1,?_⟩
  rw[AV.de (dx QT) v h1.1]
  show c[0+k]?=_
  rw[Nat.zero_add]
  exact h1.2
theorem qB {ρ:Env}{r:Nat}{l:Option (Nat×Nat)}:∀i g,i≠r→j8 ρ r 0 l i g=ρ i g:=by
 intro i g h
 unfold j8
 rw[if_neg (fun e=>h e.1)]
inductive Ef where
 |val (v:AV)
 |mk (l c:Nat)(x:af)
def Ef.QF:Ef→Bool
 | .mk ..=>true
 |_=>false
def Ef.v (r:Nat):Ef→AV
 | .val v=>v
 | .mk l c _=>.sl r 0 0 l c
def Ef.Ck:Ef→List AO
 | .val _=>[]
 | .mk _ _ x=>[.one true 0 x]
theorem vk {P:Program}{T:List TI}(hT:aq P T){M:AH}{t len:Nat}{idx:List Nat}{vs:List AV}{K:AV→AH→Prop}
 (h:fo T M t len idx vs K):∃x,K (.sl M.length 0 0 len len) (M++[.one true 0 x])∧∀{ρ:Env}{w:World}{M':AH}{r:Nat},aU ρ M' w→M'[r]?=some .gone→(∀g,ρ r g=none)→AV.dK ρ vs→
  ∃ρ' w',(Instr.buildSlice t len (idx.zip (vs.map (AV.c ρ))).toArray).run P w=.ok ((AV.sl r 0 0 len len).c ρ') w'∧(AV.sl r 0 0 len len).ok ρ'∧aU ρ' (M'.set r (.one true 0 x)) w'∧Ext ρ M' w ρ' (M'.set r (.one true 0 x)) w'∧∀i g,i≠r→ρ' i g=ρ i g:=by
 unfold fo at h
 split at h
 ·rename_i el s1 s2 s3 ht
  obtain⟨d,hd,eO⟩:=hT.fY ht
  obtain rfl:=aM eO
  split at h
  ·rename_i te ri
   replace h:=ar h
   obtain⟨hb,h⟩:=h
   simp only[Bool.and_eq_true,beq_iff_eq]at hb
   obtain⟨⟨⟨⟨Ri,hlen⟩,Ss⟩,Fq⟩,hall⟩:=hb
   have JE:vs.length=len:=Nat.eq_of_beq_eq_true hlen
   have RI:len*te.size≤16777216:=by simpa using Ss
   have Jn:te.zero.length=te.size:=Nat.eq_of_beq_eq_true Fq
   split at h
   ·rename_i x hx
    refine⟨x,h,fun{ρ w M' r} hs hr jM aA=>?_⟩
    obtain⟨cK,eJ,fH⟩:=ui ρ hx hall aA
    obtain⟨d2,ie,z,e1,e2,e3,rfl⟩:=hT.get ri
    simp only at cK eJ RI Jn hall
    have vw:∀u∈vs.map (AV.c ρ),u.cells.size=ie.size:=fun u hu=>by
     obtain⟨v,hv,rfl⟩:=List.mem_map.1 hu
     have:=List.all_eq_true.1 hall v hv
     simp only[Bool.and_eq_true]at this
     rw[←Array.length_toList,AV.nH ρ v (by rintro y rfl;have:=this.1;simp[AV.parts,AV.one]at this),AV.aY,List.length_map]
     exact Nat.eq_of_beq_eq_true this.2
    have fe:z.cells.size=ie.size:=by simpa using Jn
    subst JE
    have QJ:(idx.zip (vs.map (AV.c ρ)))=((vs.map (AV.c ρ)).zipIdx 0).map fun x=>(x.2,x.1):=by
     subst Ri
     apply List.ext_getElem?
     intro j
     simp only[List.getElem?_map,List.getElem?_zipIdx,List.getElem?_zip_eq_some]
     by_cases hj:j<vs.length
     ·simp[List.zip,hj]
     ·simp[List.zip,hj,List.getElem?_eq_none (Nat.le_of_not_lt hj)]
    have QQ:=fun c0=>Go.Great.fill_whole cK (vs.map (AV.c ρ)) c0 vw
    have zu:=mU (vs.map (AV.c ρ)) vw
    rw[List.length_map]at zu
    have key:=fun(w1:World) XD XC XB XA=>BA (w1:=w1) (x:=x) (c:=((vs.map (AV.c ρ)).flatMap fun u=>u.cells.toList).toArray) (e:=el) hs hr jM XD XC XB XA
     (by rw[eJ,List.size_toArray,zu];exact Nat.le_refl _) (fun k v hv=>by have:=fH k v hv;exact⟨this.1,by simpa using this.2⟩) (rT (by assumption))
    obtain⟨h1,h2⟩:=key _ rfl rfl rfl rfl
    by_cases Re:vs.length=0
    ·have:vs=[]:=List.eq_nil_of_length_eq_zero Re
     subst this
     refine⟨_,_,?_,dG.2,h1,h2,qB⟩
     rw[dG.1]
     simp[Instr.buildSlice,run_underlying hd,sizeOf,typeInfo,e2,newRow,Instr.fill]
     have:(Array.map (fun _=>(default:Value)) (Array.range 0))=#[]:=by apply Array.eq_empty_of_size_eq_zero;simp
     rw[this]
    ·have JN:=QQ ((Array.range (vs.length*ie.size)).map (z.cells[·%z.cells.size]!)) (by simp)
     have aS:=run_buildSlice (P:=P) w t el vs.length (idx.zip (vs.map (AV.c ρ))).toArray _ ie z hd e2 e3 (by omega) (by
      intro h0
      rcases Nat.mul_eq_zero.1 h0 with h0|h0
      ·exact Re h0
      ·omega) (by rw[List.toList_toArray,QJ];exact JN)
     exact⟨_,_,by rw[dG.1];exact aS,dG.2,h1,h2,qB⟩
   ·exact h.elim
  ·exact h.elim
 ·exact h.elim
theorem vQ {P:Program}{T:List TI}(hT:aq P T){M:AH}{t:Nat}{l c:AV}{K:AV→AH→Prop}
 (h:fQ T M t l c K):∃ln cp x,K (.sl M.length 0 0 ln cp) (M++[.one true 0 x])∧∀{ρ:Env}{w:World}{M':AH}{r:Nat},aU ρ M' w→M'[r]?=some .gone→(∀g,ρ r g=none)→
  ∃ρ' w',(Instr.makeSlice t (l.c ρ) (c.c ρ)).run P w=.ok ((AV.sl r 0 0 ln cp).c ρ') w'∧(AV.sl r 0 0 ln cp).ok ρ'∧aU ρ' (M'.set r (.one true 0 x)) w'∧Ext ρ M' w ρ' (M'.set r (.one true 0 x)) w'∧∀i g,i≠r→ρ' i g=ρ i g:=by
 unfold fQ at h
 split at h
 ·rename_i kl l kc c
  split at h
  ·rename_i el s1 s2 s3 ht
   obtain⟨d,hd,eO⟩:=hT.fY ht
   obtain rfl:=aM eO
   split at h
   ·rename_i te ri
    obtain⟨⟨h0,uJ,hb,RG⟩,h⟩:=h
    split at h
    ·rename_i x hx
     refine⟨_,_,x,h,fun{ρ w M' r} hs hr jM=>?_⟩
     obtain⟨cK,Fq,eJ,fH⟩:=rQ hx (by omega)
     have yJ:=hT.nr ri ρ
     obtain⟨d2,ie,z,e1,e2,e3,rfl⟩:=hT.get ri
     simp only at cK Fq eJ fH hb yJ
     have fe:z.cells.size=ie.size:=by simpa using Fq
     have aS:=run_make (P:=P) w t el ie z hd e2 e3 kl kc l c h0 uJ (by omega) (by omega)
     have key:=fun(w1:World) XD XC XB XA=>BA (w1:=w1) (x:=x) (c:=madeCells z.cells (c.toNat*ie.size)) (e:=el) hs hr jM XD XC XB XA (by rw[eJ,size_madeCells];exact Nat.le_refl _) (fun k v hv=>by
      obtain⟨hk,u,hu,hc⟩:=fH k v hv
      refine⟨(hc ρ).2 ((AV.aK ρ _).1 yJ u (List.mem_of_getElem? hu)),?_⟩
      have hm:k%ie.size<z.cells.size:=by rw[fe];exact Nat.mod_lt _ cK
      have WW:GH z.cells[k%ie.size]=u:=by
       rw[List.getElem?_map,Array.getElem?_toList,Array.getElem?_eq_getElem hm]at hu
       simpa using hu
      rw[←(hc ρ).1,←WW,qe]
      simp only[madeCells,Array.getElem?_map,Array.getElem?_range,hk,if_true,Option.map_some,fe]
      rw[getElem!_pos z.cells _ hm]) (qi (by assumption))
     obtain⟨h1,h2⟩:=key _ rfl rfl rfl rfl
     exact⟨_,_,by rw[dG.1];exact aS,dG.2,h1,h2,qB⟩
    ·exact h.elim
   ·exact h.elim
  ·exact h.elim
 ·exact h.elim
def xU:Op→Option (List Operand)
 | .move x=>some [x]
 | .assign x=>some [x]
 | .build _ ps=>some (ps.toList.map (·.2))
 | .buildSlice _ _ ps=>some (ps.toList.map (·.2))
 | .makeSlice _ l c=>some [l,c]
 |_=>none
def KG (P:Program)(o:Oper)(ops:List Operand)(e:Operand→AV):Ef→Prop
 | .val v=>∀{ρ:Env}{f:Operand→Value},(∀x∈ops,f x=(e x).c ρ∧(e x).ok ρ)→v.ok ρ∧∀w,(execOp f o).run P w=.ok (.value (v.c ρ)) w
 | .mk l c x=>∀{ρ:Env}{f:Operand→Value}{w:World}{M':AH}{r:Nat},(∀x∈ops,f x=(e x).c ρ∧(e x).ok ρ)→aU ρ M' w→M'[r]?=some .gone→(∀g,ρ r g=none)→
  ∃ρ' w',(execOp f o).run P w=.ok (.value ((AV.sl r 0 0 l c).c ρ')) w'∧(AV.sl r 0 0 l c).ok ρ'∧aU ρ' (M'.set r (.one true 0 x)) w'∧Ext ρ M' w ρ' (M'.set r (.one true 0 x)) w'∧∀i g,i≠r→ρ' i g=ρ i g
theorem F8 {ρ:Env}{e:Operand→AV}{f:Operand→Value}{l:List (Nat×Operand)}(h:∀x∈l.map (·.2),f x=(e x).c ρ∧(e x).ok ρ):
 l.map (fun(i,x)=>(i,f x))=(l.map (·.1)).zip ((l.map fun x=>e x.2).map (AV.c ρ))∧AV.dK ρ (l.map fun x=>e x.2):=by
 constructor
 ·induction l with
  |nil=>rfl
  |cons p l ih=>
   simp only[List.map_cons,List.zip_cons_cons]
   rw[ih fun x hx=>h x (List.mem_cons_of_mem _ hx),(h p.2 (by simp)).1]
 ·rw[AV.aK]
  intro z hz
  obtain⟨y,hy,rfl⟩:=List.mem_map.1 hz
  exact(h y.2 (List.mem_map.2 ⟨y,hy,rfl⟩)).2
theorem Yh {P:Program}{T:List TI}(hT:aq P T){wr:Bool}{M:AH}{e:Operand→AV}{o:Oper}{K Kp:AV→AH→Prop}{tk:List Operand}(ht:xU o.op=some tk)(h:Hr P T wr M e o.op K Kp):
 ∃ef:Ef,K (ef.v M.length) (M++ef.Ck)∧KG P o tk e ef:=by
 obtain⟨dst,op,ty,pos,after,guard⟩:=o
 simp only at ht h
 have IB:∀{v:AV},K v M→KG P ⟨dst,op,ty,pos,after,guard⟩ tk e (.val v)→∃ef:Ef,K (ef.v M.length) (M++ef.Ck)∧KG P ⟨dst,op,ty,pos,after,guard⟩ tk e ef:=by
  intro v h1 h2
  refine⟨.val v,?_,h2⟩
  show K v (M++[])
  rw[List.append_nil];exact h1
 unfold xU at ht
 split at ht
 ·rename_i x
  injection ht with ht;subst ht
  have h':iR T wr M e (.move x) fun v=>K v M:=h
  have h2:=eD (show lJ (e x) (fun v=>K v M)from h')
  exact IB h2 fun{ρ f} hf=>⟨(hf x (by simp)).2,fun w=>by simp[execOp,(hf x (by simp)).1]⟩
 ·rename_i x
  injection ht with ht;subst ht
  have h':iR T wr M e (.assign x) fun v=>K v M:=h
  have h2:=eD (show lJ (e x) (fun v=>K v M)from h')
  exact IB h2 fun{ρ f} hf=>⟨(hf x (by simp)).2,fun w=>by simp[execOp,(hf x (by simp)).1]⟩
 ·rename_i t ps
  injection ht with ht;subst ht
  have h':iR T wr [] e (.build t ps) fun v=>K v M:=h
  have XL:∃v,K v M∧iR T wr [] e (.build t ps) fun v'=>v'=v:=by
   simp only[iR]at h'⊢
   split at h'
   ·split at h'
    ·split at h'
     ·exact⟨_,h',rfl⟩
     ·exact h'.elim
    ·exact h'.elim
   ·split at h'
    ·split at h'
     ·exact⟨_,h',rfl⟩
     ·exact h'.elim
    ·exact h'.elim
   ·exact h'.elim
  obtain⟨v,h1,h2⟩:=XL
  refine IB h1 fun{ρ f} hf=>?_
  haveI dec:∀x,Decidable (x∈ps.toList.map (fun x:Nat×Operand=>x.2)):=fun x=>Classical.propDecidable _
  have h3:iR T wr [] (fun x=>if x∈ps.toList.map (fun x:Nat×Operand=>x.2)then e x else .raw (f x)) (.build t ps) fun v'=>v'=v:=by
   have e1:ps.toList.map (fun x=>(x.1,(fun x=>if x∈ps.toList.map (fun x:Nat×Operand=>x.2)then e x else AV.raw (f x)) x.2))=ps.toList.map fun x=>(x.1,e x.2):=by
    apply List.map_congr_left
    intro x hx
    simp only
    rw[if_pos (List.mem_map.2 ⟨x,hx,rfl⟩)]
   simp only[iR]at h2⊢
   rw[e1]
   exact h2
  have XI:VQ ρ (fun x=>if x∈ps.toList.map (fun x:Nat×Operand=>x.2)then e x else .raw (f x)) f:=by
   intro x
   simp only
   split
   ·exact hf x ‹_›
   ·exact⟨rfl,trivial⟩
  obtain⟨u,k1,k2,k3⟩:=fh (P:=P) (o:=⟨dst,.build t ps,ty,pos,after,guard⟩) (ρ:=ρ) hT (M:=[]) (fun i g own x hs=>by simp[slot]at hs) XI h3
  obtain rfl:u=v:=k1
  exact⟨k2,k3⟩
 ·rename_i t len ps
  injection ht with ht;subst ht
  obtain⟨x,h1,h2⟩:=vk (P:=P) hT (show fo T M t len (ps.toList.map (·.1)) (ps.toList.map fun x=>e x.2) K from h)
  refine⟨.mk len len x,h1,fun{ρ f w M' r} hf hs hr jM=>?_⟩
  obtain⟨m1,m2⟩:=F8 hf
  obtain⟨ρ',w',k1,k2,k3,k4,k5⟩:=h2 hs hr jM m2
  refine⟨ρ',w',?_,k2,k3,k4,k5⟩
  have e1:(ps.map fun(i,x)=>(i,f x))=((ps.toList.map (·.1)).zip ((ps.toList.map fun x=>e x.2).map (AV.c ρ))).toArray:=by
   apply Array.toList_inj.1
   rw[Array.toList_map,List.toList_toArray]
   exact m1
  rw[←e1]at k1
  show((do pure (.value (←Instr.buildSlice t len (ps.map fun(i,x)=>(i,f x)))):Sem Next)).run P w=_
  simp[k1]
 ·rename_i t l c
  injection ht with ht;subst ht
  obtain⟨ln,cp,x,h1,h2⟩:=vQ (P:=P) hT (show fQ T M t (e l) (e c) K from h)
  refine⟨.mk ln cp x,h1,fun{ρ f w M' r} hf hs hr jM=>?_⟩
  obtain⟨ρ',w',k1,k2,k3,k4,k5⟩:=h2 hs hr jM
  refine⟨ρ',w',?_,k2,k3,k4,k5⟩
  rw[←(hf l (by simp)).1,←(hf c (by simp)).1]at k1
  show((do pure (.value (←Instr.makeSlice t (f l) (f c))):Sem Next)).run P w=_
  simp[k1]
 ·cases ht
def jf (ops:Array Oper)(j:Nat):Option Nat:=match ops[j]? with
 |some o=>o.dst
 |none=>none
def ra (ops:Array Oper):Bool:=(List.range ops.size).all fun i=>match ops[i]? with
 |none=>false
 |some o=>match o.dst,xU o.op with
  |some d,some tk=>o.guard.isNone&&cw o.op&&(o.after.toList.all fun e=>Nat.blt e.on i)&&((List.range ops.size).all fun j=>Nat.beq j i||!(jf ops j==some d))&&
   tk.all fun x=>match x with
    | .tmp t=>(List.range ops.size).all fun j=>!(jf ops j==some t)||(Nat.blt j i&&o.after.toList.any fun e=>Nat.beq e.on j&&Region.binds .any e)
    |_=>true
  |_,_=>false
structure RW (ops:Array Oper)(i:Nat)(o:Oper)(d:Nat)(tk:List Operand):Prop where
 get:ops[i]?=some o
 dst:o.dst=some d
 takes:xU o.op=some tk
 guard:o.guard=none
 before:∀e∈o.after,e.on<i
 apart:∀j,j<ops.size→j≠i→jf ops j≠some d
 Yq:∀t,Operand.tmp t∈tk→∀j,j<ops.size→jf ops j=some t→j<i∧∃e∈o.after,e.on=j∧Region.binds .any e=true
theorem nN {ops:Array Oper}(h:ra ops=true){i:Nat}(hi:i<ops.size):∃o d tk,RW ops i o d tk:=by
 unfold ra at h
 have h1:=List.all_eq_true.1 h i (List.mem_range.2 hi)
 split at h1
 ·cases h1
 ·rename_i o ho
  split at h1
  ·rename_i d tk hd ht
   simp only[Bool.and_eq_true]at h1
   obtain⟨⟨⟨⟨g1,_⟩,g2⟩,g3⟩,g4⟩:=h1
   refine⟨o,d,tk,ho,hd,ht,by simpa using g1,?_,?_,?_⟩
   ·intro e he
    have:=List.all_eq_true.1 g2 e (by simpa using he)
    simpa using this
   ·intro j hj fR CL
    have:=List.all_eq_true.1 g3 j (List.mem_range.2 hj)
    simp only[Bool.or_eq_true]at this
    rcases this with h|h
    ·exact fR (Nat.eq_of_beq_eq_true h)
    ·rw[CL]at h;simp at h
   ·intro t Tq j hj CL
    have:=List.all_eq_true.1 g4 _ Tq
    simp only at this
    have:=List.all_eq_true.1 this j (List.mem_range.2 hj)
    rw[CL]at this
    simp only[beq_self_eq_true,Bool.not_true,Bool.false_or,Bool.and_eq_true]at this
    refine⟨by simpa using this.1,?_⟩
    obtain⟨e,he,h2⟩:=List.any_eq_true.1 this.2
    simp only[Bool.and_eq_true]at h2
    exact⟨e,by simpa using he,Nat.eq_of_beq_eq_true h2.1,h2.2⟩
  ·cases h1
section
variable{P:Program}{T:List TI}{n:Nat}{W:List Nat}{ops:Array Oper}{a0:AA}{M0:AH}
def cM (f:Nat→Ef):Nat→Nat
 |0=>0
 |k+1=>cM f k+(f k).Ck.length
def BI (M0:AH)(f:Nat→Ef)(k:Nat):Nat:=M0.length+cM f k
def aD (n:Nat)(ops:Array Oper)(a0:AA)(M0:AH)(f:Nat→Ef)(d:Nat→Bool):Nat→AA
 |0=>a0
 |k+1=>match d k with
  |true=>(aD n ops a0 M0 f d k).put n (jf ops k) ((f k).v (BI M0 f k))
  |false=>aD n ops a0 M0 f d k
def oD (b:Bool):Ef→List AO
 | .val _=>[]
 | .mk _ _ x=>match b with
   |true=>[.one true 0 x]
   |false=>[.gone]
def mD (f:Nat→Ef)(d:Nat→Bool):Nat→AH
 |0=>[]
 |k+1=>mD f d k++oD (d k) (f k)
theorem Qp (b:Bool)(e:Ef):(oD b e).length=e.Ck.length:=by cases e<;>cases b<;>rfl
theorem MP (e:Ef):oD true e=e.Ck:=by cases e<;>rfl
theorem mL (f:Nat→Ef)(d:Nat→Bool):∀k,(mD f d k).length=cM f k
 |0=>rfl
 |k+1=>by simp only[mD,cM,List.length_append,mL f d k,Qp]
theorem vh {f g:Nat→Ef}:∀{k:Nat},(∀j,j<k→f j=g j)→cM f k=cM g k
 |0,_=>rfl
 |k+1,h=>by simp only[cM];rw[vh fun j hj=>h j (by omega),h k (by omega)]
theorem vq {f g:Nat→Ef}{d:Nat→Bool}:∀{k:Nat},(∀j,j<k→f j=g j)→aD n ops a0 M0 f d k=aD n ops a0 M0 g d k
 |0,_=>rfl
 |k+1,h=>by
  simp only[aD]
  rw[vq fun j hj=>h j (by omega),h k (by omega)]
  unfold BI
  rw[vh fun j hj=>h j (by omega)]
theorem AF {f g:Nat→Ef}{d:Nat→Bool}:∀{k:Nat},(∀j,j<k→f j=g j)→mD f d k=mD g d k
 |0,_=>rfl
 |k+1,h=>by simp only[mD];rw[AF fun j hj=>h j (by omega),h k (by omega)]
def tt (_:Nat):Bool:=true
theorem wz (hT:aq P T)(aA:ra ops=true){K:AA→AH→Prop}{Kp:AV→AH→Prop}:∀(j k:Nat)(f:Nat→Ef),k+j=ops.size→qI P T n W ops Kp K (ops.toList.drop k) (aD n ops a0 M0 f tt k) (M0++mD f tt k)→
 ∃g:Nat→Ef,(∀i,i<k→g i=f i)∧(∀i,k≤i→i<ops.size→∃o d tk,RW ops i o d tk∧KG P o tk (pH (aD n ops a0 M0 g tt i)) (g i))∧K (aD n ops a0 M0 g tt ops.size) (M0++mD g tt ops.size)
 |0,k,f,hk,h=>by
  obtain rfl:k=ops.size:=by omega
  rw[List.drop_of_length_le (by simp)]at h
  exact⟨f,fun _ _=>rfl,fun i h1 h2=>by omega,h⟩
 |j+1,k,f,hk,h=>by
  have Sj:k<ops.size:=by omega
  obtain⟨o,d,tk,hm⟩:=nN aA Sj
  have JR:ops.toList.drop k=o::ops.toList.drop (k+1):=by
   rw[List.drop_eq_getElem_cons (by simpa using Sj)]
   congr 1
   have:=hm.get
   rw[Array.getElem?_eq_getElem Sj]at this
   simpa using this
  rw[JR]at h
  simp only[qI,mq]at h
  replace h:=(ar h).2
  unfold lH at h
  rw[hm.guard]at h
  simp only at h
  obtain⟨e,h1,h2⟩:=Yh hT hm.takes h
  have hf:∀i,i<k→(fun i=>if i=k then e else f i) i=f i:=fun i hi=>by simp only;rw[if_neg (by omega)]
  have ha:aD n ops a0 M0 (fun i=>if i=k then e else f i) tt k=aD n ops a0 M0 f tt k:=vq hf
  have hmd:mD (fun i=>if i=k then e else f i) tt k=mD f tt k:=AF hf
  have hc:cM (fun i=>if i=k then e else f i) k=cM f k:=vh hf
  have hd:jf ops k=o.dst:=by unfold jf;rw[hm.get]
  have hlen:(M0++mD f tt k).length=BI M0 (fun i=>if i=k then e else f i) k:=by rw[List.length_append,mL];unfold BI;rw[hc]
  have Zi:(fun i=>if i=k then e else f i) k=e:=if_pos rfl
  obtain⟨g,g1,g2,g3⟩:=wz hT aA j (k+1) (fun i=>if i=k then e else f i) (by omega) (by
   have e1:aD n ops a0 M0 (fun i=>if i=k then e else f i) tt (k+1)=(aD n ops a0 M0 f tt k).put n o.dst (e.v (M0++mD f tt k).length):=by
    show(aD n ops a0 M0 (fun i=>if i=k then e else f i) tt k).put n (jf ops k) (((fun i=>if i=k then e else f i) k).v _)=_
    rw[ha,hd,Zi,hlen]
   have e2:M0++mD (fun i=>if i=k then e else f i) tt (k+1)=M0++mD f tt k++e.Ck:=by
    show M0++(mD (fun i=>if i=k then e else f i) tt k++oD true ((fun i=>if i=k then e else f i) k))=_
    rw[hmd,Zi,MP,List.append_assoc]
   rw[e1,e2]
   exact h1)
  refine⟨g,fun i hi=>by rw[g1 i (by omega)];exact hf i hi,fun i nX hi=>?_,g3⟩
  rcases Nat.lt_or_ge k i with h3|h3
  ·exact g2 i h3 hi
  ·obtain rfl:i=k:=by omega
   have e3:aD n ops a0 M0 g tt i=aD n ops a0 M0 f tt i:=vq fun j hj=>by rw[g1 j (by omega)];exact hf j hj
   refine⟨o,d,tk,hm,?_⟩
   rw[e3,g1 i (by omega),if_pos rfl]
   exact h2
theorem nk {f:Nat→Ef}{d:Nat→Bool}{t:Nat}:∀{k:Nat},(∀j,j<k→d j=true→jf ops j≠some t)→aD n ops a0 M0 f d k t=a0 t
 |0,_=>rfl
 |k+1,h=>by
  have ih:=nk (f:=f) (d:=d) (k:=k) fun j hj=>h j (by omega)
  simp only[aD]
  cases hd:d k with
  |false=>exact ih
  |true=>
   have hk:=h k (by omega) hd
   simp only
   unfold AA.put
   cases he:jf ops k with
   |none=>exact ih
   |some u=>
    simp only
    have:Nat.beq t u=false:=by
     cases hb:Nat.beq t u with
     |false=>rfl
     |true=>exact absurd (by rw[he,Nat.eq_of_beq_eq_true hb]) hk
    rw[this];exact ih
theorem rD {f:Nat→Ef}{d:Nat→Bool}{t i:Nat}(hi:jf ops i=some t)(Rt:d i=true):∀{k:Nat},i<k→(∀j,j<k→j≠i→jf ops j≠some t)→
 aD n ops a0 M0 f d k t=if Nat.blt t n=true then(f i).v (BI M0 f i)else a0 t
 |0,h,_=>by omega
 |k+1,h,hu=>by
  rcases Nat.lt_or_ge i k with h1|h1
  ·have ih:=rD (f:=f) (d:=d) hi Rt (k:=k) h1 fun j hj=>hu j (by omega)
   have hk:=hu k (by omega) (by omega)
   simp only[aD]
   cases hd:d k with
   |false=>exact ih
   |true=>
    simp only
    unfold AA.put
    cases he:jf ops k with
    |none=>exact ih
    |some u=>
     simp only
     have:Nat.beq t u=false:=by
      cases hb:Nat.beq t u with
      |false=>rfl
      |true=>exact absurd (by rw[he,Nat.eq_of_beq_eq_true hb]) hk
     rw[this];exact ih
  ·obtain rfl:i=k:=by omega
   have hn:=nk (n:=n) (a0:=a0) (M0:=M0) (f:=f) (d:=d) (ops:=ops) (t:=t) (k:=i) fun j hj _=>hu j (by omega) (by omega)
   simp only[aD,Rt]
   unfold AA.put
   rw[hi]
   simp only[Nat.beq_refl,Bool.true_and]
   cases hb:Nat.blt t n with
   |true=>rfl
   |false=>exact hn
theorem FR {f:Nat→Ef}{i:Nat}:∀{k:Nat},i≤k→cM f i≤cM f k
 |0,h=>by obtain rfl:i=0:=by omega
          exact Nat.le_refl _
 |k+1,h=>by
  rcases Nat.lt_or_ge k i with h1|h1
  ·obtain rfl:i=k+1:=by omega
   exact Nat.le_refl _
  ·exact Nat.le_trans (FR h1) (Nat.le_add_right _ _)
theorem Jj {e:Ef}(h:e.QF=true):e.Ck.length=1:=by cases e;cases h;rfl
theorem FT {f:Nat→Ef}{i k:Nat}(hi:(f i).QF=true)(h:i<k):cM f i<cM f k:=by
 have:=FR (f:=f) (show i+1≤k from h)
 simp only[cM,Jj hi]at this
 omega
theorem Ot {f:Nat→Ef}{d:Nat→Bool}{i l c:Nat}{x:af}(hi:f i=.mk l c x):∀{k:Nat},i<k→(mD f d k)[cM f i]?=some (match d i with|true=>.one true 0 x|false=>.gone)
 |0,h=>by omega
 |k+1,h=>by
  simp only[mD]
  rcases Nat.lt_or_ge i k with h1|h1
  ·rw[List.getElem?_append_left (by rw[mL];exact FT (by rw[hi];rfl) h1)]
   exact Ot hi h1
  ·obtain rfl:i=k:=by omega
   rw[List.getElem?_append_right (by rw[mL];exact Nat.le_refl _),mL,Nat.sub_self,hi]
   cases d i<;>rfl
theorem I9 {f:Nat→Ef}{d d':Nat→Bool}{i l c:Nat}{x:af}(hi:f i=.mk l c x)(hd:d' i=true)(ho:∀j,j≠i→d' j=d j):∀{k:Nat},i<k→(mD f d k).set (cM f i) (.one true 0 x)=mD f d' k
 |0,h=>by omega
 |k+1,h=>by
  simp only[mD]
  rcases Nat.lt_or_ge i k with h1|h1
  ·rw[List.set_append_left _ _ (by rw[mL];exact FT (by rw[hi];rfl) h1),I9 hi hd ho h1,ho k (by omega)]
  ·obtain rfl:i=k:=by omega
   have e:mD f d' i=mD f d i:=by
    clear h h1
    have:∀m,m≤i→mD f d' m=mD f d m:=by
     intro m
     induction m with
     |zero=>intro _;rfl
     |succ m ih=>intro hm;simp only[mD];rw[ih (by omega),ho m (by omega)]
    exact this i (Nat.le_refl _)
   rw[List.set_append_right _ _ (by rw[mL];exact Nat.le_refl _),mL,Nat.sub_self,e,hi,hd]
   cases d i<;>rfl
theorem I8 {f:Nat→Ef}{d d':Nat→Bool}{i:Nat}{v:AV}(hi:f i=.val v)(ho:∀j,j≠i→d' j=d j):∀k:Nat,mD f d' k=mD f d k
 |0=>rfl
 |k+1=>by
  simp only[mD]
  rw[I8 hi ho k]
  by_cases e:k=i
  ·subst e;rw[hi];rfl
  ·rw[ho k e]
theorem Fi {f:Nat→Ef}:∀k,∀o∈mD f (fun _=>false) k,o=.gone
 |0,o,h=>by cases h
 |k+1,o,h=>by
  simp only[mD]at h
  rcases List.mem_append.1 h with h|h
  ·exact Fi k o h
  ·cases hf:f k with
   |val v=>rw[hf]at h;cases h
   |mk l c x=>rw[hf]at h;exact List.mem_singleton.1 h
theorem oT {M L:AH}(hL:∀o∈L,o=.gone)(i g:Nat):slot (M++L) i g=slot M i g:=by
 unfold slot
 rcases Nat.lt_or_ge i M.length with h|h
 ·rw[List.getElem?_append_left h]
 ·rw[List.getElem?_append_right h,List.getElem?_eq_none h]
  cases ho:L[i-M.length]? with
  |none=>rfl
  |some o=>rw[hL o (List.mem_of_getElem? ho)];rfl
theorem Gm {ρ:Env}{M L:AH}{w:World}(hs:aU ρ M w)(hL:∀o∈L,o=.gone):aU ρ (M++L) w∧Ext ρ M w ρ (M++L) w:=by
 have cq:∀(i:Nat)(o:AO),(M++L)[i]?=some o→o≠AO.gone→M[i]?=some o:=by
  intro i o h hn
  rcases Nat.lt_or_ge i M.length with h1|h1
  ·rwa[List.getElem?_append_left h1]at h
  ·rw[List.getElem?_append_right h1]at h
   exact absurd (hL o (List.mem_of_getElem? h)) hn
 refine⟨⟨fun i g h=>by have:=hs.n8 i g h;rw[List.length_append];omega,fun i g own g' x h=>hs.tag i g own g' x (cq i _ h (by simp)),fun i g own m x h=>hs.bG i g own m x (cq i _ h (by simp)),fun i g own x h=>?_,fun i g x i' g' bt x' q q' h h'=>?_⟩,
  fun _ _ _ h=>h,Nat.le_refl _,fun _ _ _=>rfl,fun i g x q h1 h2 _=>?_,rfl,rfl,rfl⟩
 ·rw[oT hL]at h;exact hs.holds i g own x h
 ·rw[oT hL]at h h';exact hs.apart i g x i' g' bt x' q q' h h'
 ·rw[oT hL]at h1;exact⟨i,g,x,q,h1,h2,rfl⟩
def kr (d:Nat→Bool):Nat→Nat
 |0=>0
 |k+1=>kr d k+(match d k with|true=>0|false=>1)
theorem tL {d:Nat→Bool}:∀{k:Nat},kr d k=0→∀j,j<k→d j=true
 |0,_,j,hj=>by omega
 |k+1,h,j,hj=>by
  simp only[kr]at h
  cases hd:d k with
  |false=>rw[hd]at h;simp at h
  |true=>
   rw[hd]at h
   simp only[Nat.add_zero]at h
   rcases(show j<k∨j=k by omega)with h1|rfl
   ·exact tL (by omega) j h1
   ·exact hd
theorem wE {d d':Nat→Bool}{i:Nat}(hd:d i=false)(oo:d' i=true)(ho:∀j,j≠i→d' j=d j):∀{k:Nat},i<k→kr d' k+1=kr d k
 |0,h=>by omega
 |k+1,h=>by
  simp only[kr]
  rcases Nat.lt_or_ge i k with h1|h1
  ·have:=wE hd oo ho h1
   rw[ho k (by omega)];omega
  ·obtain rfl:i=k:=by omega
   have:∀m,m≤i→kr d' m=kr d m:=by
    intro m
    induction m with
    |zero=>intro _;rfl
    |succ m ih=>intro hm;simp only[kr];rw[ih (by omega),ho m (by omega)]
   rw[this i (Nat.le_refl _),hd,oo]
   rfl
variable{r:Option Nat}{Q:Exit→Act→World→Prop}{ds:List Nat}{D:List Deferred}
theorem I7 (aA:ra ops=true){g:Nat→Ef}{ρ0:Env}{w0:World}(aab:∀i gg,(ρ0 i gg).isSome=true→i<M0.length)
 (hg:∀i,i<ops.size→∃o d tk,RW ops i o d tk∧KG P o tk (pH (aD n ops a0 M0 g tt i)) (g i))
 (hK:∀ρ' w' aJ,bE ρ' D n (aD n ops a0 M0 g tt ops.size) aJ→aU ρ' (M0++mD g tt ops.size) w'→Ext ρ0 M0 w0 ρ' (M0++mD g tt ops.size) w'→Q .normal aJ w'):
 ∀(f:Nat)(l:Array Bool)(ρ:Env)(w:World)(act:Act),l.size=ops.size→kr (fun k=>l.getD k false) ops.size≤f→
  aU ρ (M0++mD g (fun k=>l.getD k false) ops.size) w→Ext ρ0 M0 w0 ρ (M0++mD g (fun k=>l.getD k false) ops.size) w→bE ρ D n (aD n ops a0 M0 g (fun k=>l.getD k false) ops.size) act→
  (∀k,k<ops.size→(g k).QF=true→l.getD k false=false→∀gg,ρ (BI M0 g k) gg=none)→anyS r P ops Q (fun _=>True) ds f l act w:=by
 have fin:∀(l:Array Bool)(ρ:Env)(w:World)(act:Act),(∀k,k<ops.size→l.getD k false=true)→aU ρ (M0++mD g (fun k=>l.getD k false) ops.size) w→Ext ρ0 M0 w0 ρ (M0++mD g (fun k=>l.getD k false) ops.size) w→bE ρ D n (aD n ops a0 M0 g (fun k=>l.getD k false) ops.size) act→Q .normal act w:=by
  intro l ρ w act hall hs hE ha
  have e1:∀k,k≤ops.size→mD g (fun k=>l.getD k false) k=mD g tt k:=by
   intro k
   induction k with
   |zero=>intro _;rfl
   |succ k ih=>intro hk;simp only[mD];rw[ih (by omega),hall k (by omega)];rfl
  have e2:∀k,k≤ops.size→aD n ops a0 M0 g (fun k=>l.getD k false) k=aD n ops a0 M0 g tt k:=by
   intro k
   induction k with
   |zero=>intro _;rfl
   |succ k ih=>intro hk;simp only[aD];rw[ih (by omega),hall k (by omega)];rfl
  rw[e1 _ (Nat.le_refl _)]at hs hE
  rw[e2 _ (Nat.le_refl _)]at ha
  exact hK ρ w act ha hs hE
 have Pj:∀(l:Array Bool),l.size=ops.size→Region.ready .any ops l=[]→∀k,k<ops.size→l.getD k false=true:=by
  intro l hl hr k
  induction k using Nat.strongRecOn with
  |_ k ih=>
   intro hk
   cases hd:l.getD k false with
   |true=>rfl
   |false=>
    exfalso
    obtain⟨o,d,tk,hm⟩:=nN aA hk
    have:k∈Region.ready .any ops l:=by
     rw[mem_ready]
     refine⟨?_,o,hm.get,fun e he _=>ih e.on (hm.before e he) (Nat.lt_trans (hm.before e he) hk)⟩
     have HO:k<l.size:=by omega
     simp only[Array.getD,HO,dif_pos]at hd⊢
     exact hd
    rw[hr]at this;cases this
 intro f
 induction f with
 |zero=>
  intro l ρ w act hl hf hs hE ha hu
  have hall:=tL (show kr (fun k=>l.getD k false) ops.size=0 by omega)
  refine⟨?_,fin l ρ w act hall hs hE ha⟩
  rw[List.eq_nil_iff_forall_not_mem]
  intro k hk
  obtain⟨h1,o,ho,_⟩:=mem_ready.1 hk
  have Sj:=(Array.getElem?_eq_some_iff.1 ho).1
  have h2:=hall k Sj
  have HO:k<l.size:=by omega
  simp only[Array.getD,HO,dif_pos]at h1 h2
  rw[h1]at h2;cases h2
 |succ f YL=>
  intro l ρ w act hl hf hs hE ha hu
  refine⟨fun hr=>fin l ρ w act (Pj l hl hr) hs hE ha,fun i hi o' uH=>?_⟩
  obtain⟨h1,o1,Se,T1⟩:=mem_ready.1 hi
  have Sm:=(Array.getElem?_eq_some_iff.1 Se).1
  obtain⟨o,d,tk,hm,Wd⟩:=hg i Sm
  have e0:=hm.get
  rw[uH]at e0;injection e0 with e0;subst e0
  have e0:=hm.get
  rw[Se]at e0;injection e0 with e0;subst e0
  have jq:i<l.size:=by omega
  have Rt:l.getD i false=false:=by simp only[Array.getD,jq,dif_pos]at h1⊢;exact h1
  have Rp:jf ops i=some d:=by unfold jf;rw[hm.get];exact hm.dst
  have XI:∀x∈tk,pH (aD n ops a0 M0 g (fun k=>l.getD k false) ops.size) x=pH (aD n ops a0 M0 g tt i) x:=by
   intro x hx
   cases x with
   |tmp t=>
    show aD n ops a0 M0 g (fun k=>l.getD k false) ops.size t=aD n ops a0 M0 g tt i t
    by_cases hex:∃j,j<ops.size∧jf ops j=some t
    ·obtain⟨j,hj,Ha⟩:=hex
     obtain⟨fR,e,he,hej,hb⟩:=hm.Yq t hx j hj Ha
     have KR:l.getD j false=true:=by rw[←hej];exact T1 e he hb
     obtain⟨oj,dj,tj,vT⟩:=nN aA hj
     have Rq:dj=t:=by
      have:jf ops j=some dj:=by unfold jf;rw[vT.get];exact vT.dst
      rw[Ha]at this;injection this with this;exact this.symm
     have Tm:∀k,k<ops.size→k≠j→jf ops k≠some t:=fun k hk Nu=>by rw[←Rq];exact vT.apart k hk Nu
     rw[rD Ha KR hj Tm,rD (d:=tt) Ha rfl fR fun k hk=>Tm k (by omega)]
    ·rw[nk fun j hj _ h=>hex ⟨j,hj,h⟩,nk fun j hj _ h=>hex ⟨j,by omega,h⟩]
   |const v=>rfl
   |global g=>rfl
   |func f=>rfl
  have vV:∀x∈tk,act.eval x=(pH (aD n ops a0 M0 g tt i) x).c ρ∧(pH (aD n ops a0 M0 g tt i) x).ok ρ:=by
   intro x hx
   have:=ha.ev x
   rw[XI x hx]at this
   exact this
  have oo:∀k,(l.setIfInBounds i true).getD k false=if k=i then true else l.getD k false:=by
   intro k
   simp only[Array.getD_eq_getD_getElem?,Array.getElem?_setIfInBounds]
   by_cases e:i=k
   ·subst e;simp[jq]
   ·rw[if_neg e,if_neg (fun h=>e h.symm)]
  have Rr:(fun k=>(l.setIfInBounds i true).getD k false) i=true:=by simp only[oo];simp
  have XJ:∀j,j≠i→(fun k=>(l.setIfInBounds i true).getD k false) j=(fun k=>l.getD k false) j:=fun j hj=>by simp only[oo];rw[if_neg hj]
  have Wi:aD n ops a0 M0 g (fun k=>(l.setIfInBounds i true).getD k false) ops.size=(aD n ops a0 M0 g (fun k=>l.getD k false) ops.size).put n (some d) ((g i).v (BI M0 g i)):=by
   funext t
   by_cases ht:t=d
   ·subst ht
    rw[rD Rp Rr Sm hm.apart]
    have hn:aD n ops a0 M0 g (fun k=>l.getD k false) ops.size t=a0 t:=nk fun j hj KR h=>by
     by_cases e:j=i
     ·subst e;have JS:l.getD j false=true:=KR;rw[Rt]at JS;cases JS
     ·exact hm.apart j hj e h
    unfold AA.put
    simp only[Nat.beq_refl,Bool.true_and,hn]
    cases Nat.blt t n<;>rfl
   ·have hp:(aD n ops a0 M0 g (fun k=>l.getD k false) ops.size).put n (some d) ((g i).v (BI M0 g i)) t=aD n ops a0 M0 g (fun k=>l.getD k false) ops.size t:=by
     unfold AA.put
     simp only
     have:Nat.beq t d=false:=by
      cases hb:Nat.beq t d with
      |false=>rfl
      |true=>exact absurd (Nat.eq_of_beq_eq_true hb) ht
     rw[this];rfl
    rw[hp]
    by_cases hex:∃j,j<ops.size∧jf ops j=some t∧l.getD j false=true
    ·obtain⟨j,hj,Ha,KR⟩:=hex
     obtain⟨oj,dj,tj,vT⟩:=nN aA hj
     have Rq:dj=t:=by
      have:jf ops j=some dj:=by unfold jf;rw[vT.get];exact vT.dst
      rw[Ha]at this;injection this with this;exact this.symm
     have fR:j≠i:=fun e=>by subst e;rw[Rp]at Ha;injection Ha with Ha;exact ht Ha.symm
     have Tm:∀k,k<ops.size→k≠j→jf ops k≠some t:=fun k hk Nu=>by rw[←Rq];exact vT.apart k hk Nu
     rw[rD Ha (show(l.setIfInBounds i true).getD j false=true by rw[oo j,if_neg fR];exact KR) hj Tm,rD Ha KR hj Tm]
    ·rw[nk fun j hj KR h=>?_,nk fun j hj KR h=>hex ⟨j,hj,h,KR⟩]
     by_cases e:j=i
     ·subst e;rw[Rp]at h;injection h with h;exact ht h.symm
     ·have JS:(l.setIfInBounds i true).getD j false=true:=KR
      rw[oo j,if_neg e]at JS;exact hex ⟨j,hj,h,JS⟩
  have OC:=wE (d:=fun k=>l.getD k false) Rt Rr XJ Sm
  unfold vP
  rw[if_pos (by unfold Region.wanted;rw[hm.guard])]
  cases Rk:g i with
  |val v=>
   rw[Rk]at Wd Wi
   obtain⟨v1,v2⟩:=Wd vV
   rw[v2 w]
   have Sg:mD g (fun k=>(l.setIfInBounds i true).getD k false) ops.size=mD g (fun k=>l.getD k false) ops.size:=I8 Rk XJ _
   refine⟨fun _=>.inl rfl,YL _ ρ w _ (by simpa using hl) (by omega) (by rw[Sg];exact hs) (by rw[Sg];exact hE) ?_ fun k hk kP Nz=>hu k hk kP ?_⟩
   ·rw[Wi,hm.dst];exact ha.put (some d) v1
   ·rw[oo k]at Nz
    split at Nz
    ·cases Nz
    ·exact Nz
  |mk ln cp x=>
   rw[Rk]at Wd Wi
   have TZ:(M0++mD g (fun k=>l.getD k false) ops.size)[BI M0 g i]?=some .gone:=by
    unfold BI
    rw[List.getElem?_append_right (by omega),Nat.add_sub_cancel_left,Ot Rk Sm]
    simp only[Rt]
   have jM:=hu i Sm (by rw[Rk];rfl) Rt
   obtain⟨ρ',w',k1,k2,k3,k4,k5⟩:=Wd vV hs TZ jM
   rw[k1]
   have CB:(M0++mD g (fun k=>l.getD k false) ops.size).set (BI M0 g i) (.one true 0 x)=M0++mD g (fun k=>(l.setIfInBounds i true).getD k false) ops.size:=by
    unfold BI
    rw[List.set_append_right _ _ (by omega),Nat.add_sub_cancel_left,I9 Rk Rr XJ Sm]
   rw[CB]at k3 k4
   refine⟨fun _=>.inr trivial,YL _ ρ' w' _ (by simpa using hl) (by omega) k3 (hE.trans k4) ?_ fun k hk kP Nz gg=>?_⟩
   ·rw[Wi,hm.dst];exact(ha.ext k4.env).put (some d) k2
   ·rw[oo k]at Nz
    split at Nz
    ·cases Nz
    ·rename_i Wc
     rw[k5 _ gg ?_]
     ·exact hu k hk kP Nz gg
     ·unfold BI
      rcases Nat.lt_or_ge k i with h|h
      ·have:=FT kP h;omega
      ·have:=FT (f:=g) (i:=i) (k:=k) (by rw[Rk];rfl) (by omega);omega
theorem rR (hT:aq P T)(aA:ra ops=true){K:AA→AH→Prop}{Kp:AV→AH→Prop}{ρ0:Env}{w0:World}{act:Act}(hs:aU ρ0 M0 w0)(ha:bE ρ0 D n a0 act)(h:qI P T n W ops Kp K ops.toList a0 M0)
 (hK:∀a' aJ M' ρ' w',K a' M'→bE ρ' D n a' aJ→aU ρ' M' w'→Ext ρ0 M0 w0 ρ' M' w'→Q .normal aJ w'):
 anyS r P ops Q (fun _=>True) ds ops.size (Array.replicate ops.size false) act w0:=by
 obtain⟨g,_,g2,g3⟩:=wz (a0:=a0) (M0:=M0) (n:=n) (W:=W) hT aA (K:=K) (Kp:=Kp) ops.size 0 (fun _=>.val .ns) (by omega) (by
  show qI P T n W ops Kp K (ops.toList.drop 0) a0 (M0++[])
  rw[List.append_nil];exact h)
 have XN:(fun k=>(Array.replicate ops.size false).getD k false)=fun _=>false:=by
  funext k
  simp only[Array.getD_eq_getD_getElem?,Array.getElem?_replicate]
  split<;>rfl
 have JC:=Fi (f:=g) ops.size
 obtain⟨s1,s2⟩:=Gm hs JC
 have NG:aD n ops a0 M0 g (fun _=>false) ops.size=a0:=by
  funext t
  exact nk fun j _ h=>by cases h
 refine I7 aA hs.n8 (fun i hi=>g2 i (Nat.zero_le _) hi) (fun ρ' w' aJ h1 h2 h3=>hK _ _ _ _ _ g3 h1 h2 h3) ops.size _ ρ0 w0 act (by simp) ?_ (by rw[XN];exact s1) (by rw[XN];exact s2) (by rw[XN,NG];exact ha) fun k hk kP _ gg=>?_
 ·have:∀(d:Nat→Bool) k,kr d k≤k:=by
   intro d k
   induction k with
   |zero=>exact Nat.le_refl _
   |succ k ih=>simp only[kr];split<;>omega
  exact this _ _
 ·cases hh:ρ0 (BI M0 g k) gg with
  |none=>rfl
  |some q=>
   have:=hs.n8 (BI M0 g k) gg (by rw[hh];rfl)
   unfold BI at this;omega
end
end Go.Proofs.Ytibadaomjlkoaaa
open Go.RowKit
namespace Go.Proofs.Ytibadaomjlkoaaa
inductive jm where
 |normal
 |exit (id:Nat)
 |ret
def Marks (B:Nat)(D D':List Deferred)(w:World):Prop:=
 ∃rs:List Nat,D'=rs.map (fun r=>{target:=.collected r,args:=#[]})++D∧rs.Nodup∧∀r∈rs,B≤r∧w.heap[r]?=some (.deferred (some []))
theorem Marks.refl (B:Nat)(D:List Deferred)(w:World):Marks B D D w:=⟨[],rfl,List.nodup_nil,fun _ h=>by cases h⟩
theorem bO.fz {ρ:Env}{own:Bool}{x:af}{b base:Nat}{w:World}(h:bO ρ own x b base w){c:Option (List Deferred)}:w.heap[b]?≠some (.deferred c):=by
 intro e
 rcases h.all with⟨_,c,el,fr,h1,_⟩|⟨_,_,h1⟩
 ·rw[e]at h1;cases h1
 ·cases x with
  |map kk es=>obtain⟨_,_,h1,_⟩:=h1;rw[e]at h1;cases h1
  |loop l st pd fn n a ps as bd df=>obtain⟨_,_,h1,_⟩:=h1;rw[e]at h1;cases h1
  |cells _=>exact h1.elim
  |ints _ _ _=>exact h1.elim
  |bV _ _=>exact h1.elim
  |cJ _ _ _ _=>exact h1.elim
theorem aU.fz {ρ:Env}{M:AH}{w:World}(h:aU ρ M w){i g:Nat}{own:Bool}{x:af}{q:Nat×Nat}(hs:slot M i g=some (own,x))(hq:ρ i g=some (some q)){c:Option (List Deferred)}:w.heap[q.1]?≠some (.deferred c):=by
 rcases h.holds i g own x hs with⟨q',e1,e2⟩|⟨e1,_⟩
 ·rw[hq]at e1;injection e1 with e1;injection e1 with e1;subst e1;exact e2.fz
 ·rw[hq]at e1;cases e1
theorem Marks.lF {B:Nat}{D D':List Deferred}{ρ ρ':Env}{M M':AH}{w w':World}(hs:aU ρ M w)(hE:Ext ρ M w ρ' M' w')(h:Marks B D D' w):Marks B D D' w':=by
 obtain⟨rs,h0,hn,h1⟩:=h
 refine⟨rs,h0,hn,fun r hr=>⟨(h1 r hr).1,?_⟩⟩
 have h2:=(h1 r hr).2
 rw[hE.frame r (Array.getElem?_eq_some_iff.1 h2).1 (fun i g x q h3 h4 h5=>hs.fz h3 h4 (by rw[h5];exact h2))]
 exact h2
theorem Marks.trans {B:Nat}{D D' ZL:List Deferred}{ρ ρ':Env}{M M':AH}{w w':World}(hB:B≤w.heap.size)(hs:aU ρ M w)(hE:Ext ρ M w ρ' M' w')(h:Marks B D D' w)(h':Marks w.heap.size D' ZL w'):Marks B D ZL w':=by
 have hk:=h.lF hs hE
 obtain⟨rs,rfl,hn,h1⟩:=h
 obtain⟨ZP,rfl,BN,h2⟩:=h'
 obtain⟨rs2,e2,_,h3⟩:=hk
 have a9:∀r∈rs,r<w.heap.size:=fun r hr=>(Array.getElem?_eq_some_iff.1 (h1 r hr).2).1
 have CD:∀r∈rs,w'.heap[r]?=some (.deferred (some [])):=fun r hr=>by
  have h2:=(h1 r hr).2
  rw[hE.frame r (a9 r hr) (fun i g x q h3 h4 h5=>hs.fz h3 h4 (by rw[h5];exact h2))]
  exact h2
 refine⟨ZP++rs,by simp,?_,fun r hr=>?_⟩
 ·rw[List.nodup_append]
  refine⟨BN,hn,fun a ha b hb e=>?_⟩
  subst e
  have:=(h2 a ha).1
  have:=a9 a hb
  omega
 ·rcases List.mem_append.1 hr with hr|hr
  ·exact⟨Nat.le_trans hB (h2 r hr).1,(h2 r hr).2⟩
  ·exact⟨(h1 r hr).1,CD r hr⟩
theorem zY {ρ:Env}{M:AH}{w:World}(hs:aU ρ M w){r:Nat}{c:Option (List Deferred)}(h:w.heap[r]?=some (.deferred c))(o:Obj):aU ρ M (w.putObj r o):=by
 refine⟨hs.n8,hs.tag,hs.bG,fun i g own x cV=>?_,hs.apart⟩
 rcases hs.holds i g own x cV with⟨q,e1,e2⟩|e
 ·refine .inl ⟨q,e1,e2.ext (fun _ _ _ h=>h) (World.putObj_heap_other fun e=>?_)⟩
  exact hs.fz cV e1 (by rw[e];exact h)
 ·exact .inr e
theorem A9 {ρ0 ρ:Env}{M0 M:AH}{w0 w:World}(hE:Ext ρ0 M0 w0 ρ M w){r:Nat}(hr:w0.heap.size≤r)(o:Obj):Ext ρ0 M0 w0 ρ M (w.putObj r o):=
 ⟨hE.env,by simpa using hE.size,fun b hb hn=>by rw[World.putObj_heap_other (by omega)];exact hE.frame b hb hn,hE.fresh,hE.os,hE.tape,hE.output⟩
theorem cX {F:Fence}{n:Nat}{P:Program}{fn:Func}{tmps:Array Value}{R:Ending→World→Prop}{ρ0 ρ:Env}{M0 M:AH}{w0:World}{u:FrameMode}(hu:u≠ .run)
 (rk:∀w,aU ρ M w→Ext ρ0 M0 w0 ρ M w→LeavesIn F n P fn tmps R [] u w):∀(rs:List Nat)(w:World),rs.Nodup→(∀r∈rs,w0.heap.size≤r∧w.heap[r]?=some (.deferred (some [])))→aU ρ M w→Ext ρ0 M0 w0 ρ M w→
 LeavesInM F n P fn tmps R (rs.map (fun r=>{target:=.collected r,args:=#[]})) u w
 |[],w,_,_,hs,hE=>rk w hs hE
 |r::rs,w,hn,h,hs,hE=>by
  obtain⟨h1,h2⟩:=h r List.mem_cons_self
  refine⟨hu,.inl ⟨r,_,rfl,run_takeDeferred h2,cX hu rk rs _ (List.nodup_cons.1 hn).2 (fun r' Fv=>⟨(h r' (List.mem_cons_of_mem _ Fv)).1,?_⟩) (zY hs h2 _) (A9 hE h1 _)⟩⟩
  rw[World.putObj_heap_other (fun e=>(List.nodup_cons.1 hn).1 (by rw[←e];exact Fv))]
  exact(h r' (List.mem_cons_of_mem _ Fv)).2
def eK (ρ0:Env)(M0:AH)(w0:World)(D:List Deferred)(n:Nat)(Q:jm→AA→AH→Prop)(Kp:AV→AH→Prop)(e:Exit)(act:Act)(w':World):Prop:=
 match e with
 | .normal=>∃ρ' M' a' D',aU ρ' M' w'∧Ext ρ0 M0 w0 ρ' M' w'∧Marks w0.heap.size D D' w'∧bE ρ' D' n a' act∧Q .normal a' M'
 | .exit id=>∃ρ' M' a' D',aU ρ' M' w'∧Ext ρ0 M0 w0 ρ' M' w'∧Marks w0.heap.size D D' w'∧bE ρ' D' n a' act∧Q (.exit id) a' M'
 | .ret=>∃ρ' M' a' D',aU ρ' M' w'∧Ext ρ0 M0 w0 ρ' M' w'∧Marks w0.heap.size D D' w'∧bE ρ' D' n a' act∧Q .ret a' M'
 | .panic ch=>∃ρ' M' v D',aU ρ' M' w'∧Ext ρ0 M0 w0 ρ' M' w'∧Marks w0.heap.size D D' w'∧act.defers=D'∧ch=[{v:=v.c ρ',recovered:=false}]∧v.ok ρ'∧Kp v M'
 |_=>False
theorem eK.from {ρ0 ρ:Env}{M0 M:AH}{w0 w:World}{D0 D:List Deferred}{n:Nat}{Q:jm→AA→AH→Prop}{Kp:AV→AH→Prop}{e:Exit}{act:Act}{w':World}(hE:Ext ρ0 M0 w0 ρ M w)(hs:aU ρ M w)(hM:Marks w0.heap.size D0 D w)
 (h:eK ρ M w D n Q Kp e act w'):eK ρ0 M0 w0 D0 n Q Kp e act w':=by
 cases e with
 |normal=>obtain⟨ρ',M',a',D',h1,h2,h3,h4⟩:=h;exact⟨ρ',M',a',D',h1,hE.trans h2,hM.trans hE.size hs h2 h3,h4⟩
 |exit id=>obtain⟨ρ',M',a',D',h1,h2,h3,h4⟩:=h;exact⟨ρ',M',a',D',h1,hE.trans h2,hM.trans hE.size hs h2 h3,h4⟩
 |ret=>obtain⟨ρ',M',a',D',h1,h2,h3,h4⟩:=h;exact⟨ρ',M',a',D',h1,hE.trans h2,hM.trans hE.size hs h2 h3,h4⟩
 |panic ch=>obtain⟨ρ',M',v,D',h1,h2,h3,h4⟩:=h;exact⟨ρ',M',v,D',h1,hE.trans h2,hM.trans hE.size hs h2 h3,h4⟩
 |goto l=>exact h.elim
 |outgrown=>exact h.elim
abbrev Oc:=List (Nat×Value)
def dw (pin:Oc)(act:Act):Prop:=∀p∈pin,act.tmps.getD p.1 undef=p.2
def qX (pin:Oc)(d:Option Nat):Bool:=pin.all fun p=>!(d==some p.1)
theorem dw.put {pin:Oc}{act:Act}{d:Option Nat}{v:Value}(h:dw pin act)(hd:qX pin d=true):dw pin (act.put d v):=by
 intro p hp
 have h1:=h p hp
 have h2:=List.all_eq_true.1 hd p hp
 cases d with
 |none=>exact h1
 |some t=>
  have ht:t≠p.1:=fun e=>by subst e;simp at h2
  show(act.tmps.setIfInBounds t v).getD p.1 undef=_
  rw[Array.getD_eq_getD_getElem?,Array.getElem?_setIfInBounds,if_neg ht,←Array.getD_eq_getD_getElem?]
  exact h1
def eR (pin:Oc):Code→Bool
 | .region _ ops _=>ops.toList.all fun o=>qX pin o.dst
 | .seq a b=>eR pin a&&eR pin b
 | .cond _ a b=>eR pin a&&eR pin b
 | .block _ a=>eR pin a
 | .loop a=>eR pin a
 | .scope a=>eR pin a
 | .rangeFunc ..=>pin.isEmpty
 |_=>true
theorem Ar (c:Code):eR [] c=true:=by
 induction c with
 |region id ops d=>simp[eR,qX]
 |seq a b h1 h2=>simp[eR,h1,h2]
 |cond o a b h1 h2=>simp[eR,h1,h2]
 |block id a h=>simp[eR,h]
 |loop a h=>simp[eR,h]
 |scope a h=>simp[eR,h]
 |rangeFunc f ps a b=>rfl
 |_=>rfl
theorem dw.nil (act:Act):dw [] act:=fun _ h=>by cases h
section
variable{P:Program}{r:Option Nat}{pin:Oc}{Q:Exit→Act→World→Prop}
theorem zA {ops:Array Oper}{i:Nat}{K:Act→World→Prop}{a:Act}{w:World}(rY:¬LetsOut Q)(pg:∀o∈ops.toList,qX pin o.dst=true)(hp:dw pin a)(h:wpOpIn (FW r) 0 P ops Q i K a w):
 wpOpIn (FW r) 0 P ops (fun e a w=>Q e a w∧dw pin a) i (fun a w=>K a w∧dw pin a) a w:=by
 unfold wpOpIn at*
 cases ho:ops[i]? with
 |none=>rw[ho]at h;exact⟨h,hp⟩
 |some o=>
  rw[ho]at h
  simp only at h⊢
  have hd:qX pin o.dst=true:=pg o (by have:=Array.mem_of_getElem? ho;simpa using this)
  split
  ·rename_i hw
   rw[if_pos hw]at h
   unfold Oper.wpIn at*
   refine⟨h.1,?_⟩
   have hh:=h.2
   generalize(o.semAt (FW r).round a.eval).run P w=res at*
   have BO:∀{R:Exit→Act→World→Prop},LetsOut Q→LetsOut R:=fun h=>absurd h rY
   cases res with
   |ok x w'=>
    cases x<;>simp only[Oper.uponIn]at hh⊢<;>
     first
      |exact⟨hh,hp.put hd⟩
      |exact⟨hh,dw.put (act:={a with defers:=_::a.defers}) hp hd⟩
      |exact⟨hh.1,CallsIn.mono hh.2 (fun e vr he=>by cases e<;>first|exact⟨he,hp.put hd⟩|exact⟨he,hp⟩|exact BO he)⟩
      |exact⟨hh.1,RowsIn.mono hh.2 (fun _ _ he=>⟨he,hp.put hd⟩)⟩
      |exact⟨hh.1,RoundIn.mono hh.2 (fun e vr he=>by cases e<;>first|exact⟨he,hp.put hd⟩|exact⟨he,hp⟩|exact BO he)⟩
   |halt x w'=>cases x<;>simp only[Oper.uponIn]at hh⊢<;>first|exact⟨hh,hp⟩|exact hh
  ·rename_i hw
   rw[if_neg hw]at h
   exact⟨h.1,h.2,hp.put hd⟩
theorem pJ {ops:Array Oper}{i:Nat}{K K':Act→World→Prop}{a:Act}{w:World}(hK:∀a w,K a w→K' a w)(h:wpOpIn (FW r) 0 P ops Q i K a w):wpOpIn (FW r) 0 P ops Q i K' a w:=by
 unfold wpOpIn at*
 split
 ·rename_i ho;rw[ho]at h;exact hK _ _ h
 ·rename_i o ho
  rw[ho]at h
  simp only at h
  split
  ·rename_i hw;rw[if_pos hw]at h;exact Oper.wpIn_mono hK h
  ·rename_i hw;rw[if_neg hw]at h;exact⟨h.1,hK _ _ h.2⟩
theorem v8 {ops:Array Oper}(rY:¬LetsOut Q)(pg:∀o∈ops.toList,qX pin o.dst=true):∀(l:List Nat)(a:Act)(w:World),dw pin a→wpOpsIn (FW r) 0 P ops Q l a w→wpOpsIn (FW r) 0 P ops (fun e a w=>Q e a w∧dw pin a) l a w
 |[],a,w,hp,h=>⟨h,hp⟩
 |i::l,a,w,hp,h=>by
  rw[wpOpsIn_cons]at*
  exact pJ (fun a w h=>v8 rY pg l a w h.2 h.1) (zA rY pg hp h)
theorem qx {ops:Array Oper}(rY:¬LetsOut Q)(pg:∀o∈ops.toList,qX pin o.dst=true):∀(f:Nat)(l:Array Bool)(a:Act)(w:World),dw pin a→wpAnyIn (FW r) 0 P .any ops Q f l a w→wpAnyIn (FW r) 0 P .any ops (fun e a w=>Q e a w∧dw pin a) f l a w
 |0,l,a,w,hp,h=>⟨h.1,h.2,hp⟩
 |f+1,l,a,w,hp,h=>⟨fun hr=>⟨h.1 hr,hp⟩,fun i hi=>pJ (fun a w h=>qx rY pg f _ a w h.2 h.1) (zA rY pg hp (h.2 i hi))⟩
end
def FX (pin:Oc)(ρ0:Env)(M0:AH)(w0:World)(D:List Deferred)(n:Nat)(Q:jm→AA→AH→Prop)(Kp:AV→AH→Prop)(e:Exit)(act:Act)(w':World):Prop:=eK ρ0 M0 w0 D n Q Kp e act w'∧dw pin act
theorem eK.IY {ρ0:Env}{M0:AH}{w0:World}{D:List Deferred}{n:Nat}{Q:jm→AA→AH→Prop}{Kp:AV→AH→Prop}:¬LetsOut (eK ρ0 M0 w0 D n Q Kp):=fun⟨_,_,h⟩=>h
@[irreducible] def WA (P:Program)(r:Option Nat)(D0:List Deferred)(n:Nat)(c:Code)(Q:jm→AA→AH→Prop)(Kp:AV→AH→Prop)(a:AA)(M:AH):Prop:=
  ∀pin D ρ w act,eR pin c=true→dw pin act→aU ρ M w→bE ρ D n a act→c.wpIn (FW r) 0 P (FX pin ρ M w D n Q Kp) act w
structure Cx where
 P:Program
 T:List TI
 n:Nat
 W:List Nat:=[]
 pl:Nat→Option (List (Nat×Nat)×List Nat):=fun _=>none
 B:Nat→List Nat:=fun _=>[]
 r:Option Nat:=none
 D:List Deferred:=[]
def bT (x:Cx):Code→(jm→AA→AH→Prop)→(AV→AH→Prop)→AA→AH→Prop
 | .skip,Q,_,a,M=>Q .normal a M
 | .label _,Q,_,a,M=>Q .normal a M
 | .seq c d,Q,Kp,a,M=>bT x c (fun e a M=>match e with
  | .normal=>bT x d Q Kp a M
  |e=>Q e a M) Kp a M
 | .cond o c d,Q,Kp,a,M=>match pH a o with
   | .tt=>bT x c Q Kp a M
   | .ff=>bT x d Q Kp a M
   | .bo b=>(b=true→bT x c Q Kp a M)∧(b=false→bT x d Q Kp a M)
   |_=>False
 | .block id c,Q,Kp,a,M=>bT x c (fun e a M=>match e with
  | .exit Na=>match Nat.beq Na id with
    |true=>Q .normal a M
    |false=>Q (.exit Na) a M
  |e=>Q e a M) Kp a M
 | .exit id,Q,_,a,M=>Q (.exit id) a M
 | .ret,Q,_,a,M=>Q .ret a M
 | .region id ops draw,Q,Kp,a,M=>match draw with
   |false=>qI x.P x.T x.n x.W ops Kp (fun a M=>Q .normal a M) ops.toList a M
   |true=>match x.pl id with
    |some (cr,_)=>match cr with
     |[]=>qI x.P x.T x.n x.W ops Kp (fun a M=>Q .normal a M) ops.toList a M
     |p::cr=>fJ x.P x.T x.n x.W ops Kp (fun a M=>Q .normal a M) (x.B id) [] (p::cr) a M
    |none=>False
 | .loop c,Q,Kp,a,M=>WA x.P x.r x.D x.n (.loop c) Q Kp a M
 | .rangeFunc f ps as c,Q,Kp,a,M=>WA x.P x.r x.D x.n (.rangeFunc f ps as c) Q Kp a M
 |_,_,_,_,_=>False
def aj (pl:Nat→Option (List (Nat×Nat)×List Nat)):Code→Bool
 | .region id ops true=>match pl id with
   |some (cr,ds)=>(match cr with
    |[]=>ra ops
    |p::cr=>oX ops ds [] (p::cr) (Array.replicate ops.size false))&&ops.all (fun o=>cw o.op)&&Nat.ble cr.length ops.size
   |none=>true
 | .seq a b=>aj pl a&&aj pl b
 | .cond _ a b=>aj pl a&&aj pl b
 | .block _ a=>aj pl a
 | .loop a=>aj pl a
 | .rangeFunc _ _ a b=>aj pl a&&aj pl b
 | .scope a=>aj pl a
 |_=>true
theorem fU {x:Cx}{pin:Oc}(hT:aq x.P x.T)(hm:x.P.follows .mixedOrders=true){ρ0:Env}{M0:AH}{w0:World}{D0:List Deferred}:
 ∀(c:Code)(bW:aj x.pl c=true)(Q:jm→AA→AH→Prop)(Kp:AV→AH→Prop)(a:AA)(M:AH)(ρ:Env)(w:World)(act:Act)(D:List Deferred),aU ρ M w→Ext ρ0 M0 w0 ρ M w→Marks w0.heap.size D0 D w→bE ρ D x.n a act→eR pin c=true→dw pin act→bT x c Q Kp a M→
  c.wpIn (FW x.r) 0 x.P (FX pin ρ0 M0 w0 D0 x.n Q Kp) act w:=by
 intro c
 induction c with
 |skip=>exact fun _ Q Kp a M ρ w act D hs hE hM ha _ hp h=>wpIn_skip ⟨⟨ρ,M,a,D,hs,hE,hM,ha,h⟩,hp⟩
 |label l=>exact fun _ Q Kp a M ρ w act D hs hE hM ha _ hp h=>wpIn_label ⟨⟨ρ,M,a,D,hs,hE,hM,ha,h⟩,hp⟩
 |exit id=>exact fun _ Q Kp a M ρ w act D hs hE hM ha _ hp h=>wpIn_exit ⟨⟨ρ,M,a,D,hs,hE,hM,ha,h⟩,hp⟩
 |ret=>exact fun _ Q Kp a M ρ w act D hs hE hM ha _ hp h=>wpIn_ret ⟨⟨ρ,M,a,D,hs,hE,hM,ha,h⟩,hp⟩
 |seq c d M9 M8=>
  intro bW Q Kp a M ρ w act D hs hE hM ha mj hp h
  simp only[aj,Bool.and_eq_true]at bW
  simp only[eR,Bool.and_eq_true]at mj
  refine wpIn_seq (wpIn_mono (M9 bW.1 _ Kp a M ρ w act D hs hE hM ha mj.1 hp h) fun e aJ w' hq=>?_)
  obtain⟨hq,xm⟩:=hq
  cases e with
  |normal=>obtain⟨ρ',M',a',D',h1,h2,vW,h3,h4⟩:=hq;exact M8 bW.2 Q Kp a' M' ρ' w' aJ D' h1 h2 vW h3 mj.2 xm h4
  |exit id=>exact⟨hq,xm⟩
  |ret=>exact⟨hq,xm⟩
  |panic ch=>exact⟨hq,xm⟩
  |goto l=>exact hq.elim
  |outgrown=>exact hq.elim
 |cond o c d M9 M8=>
  intro bW Q Kp a M ρ w act D hs hE hM ha mj hp h
  simp only[aj,Bool.and_eq_true]at bW
  simp only[eR,Bool.and_eq_true]at mj
  have he:=(ha.ev o).1
  simp only[bT]at h
  split at h<;>rename_i hh<;>(try rw[hh]at he)
  ·exact wpIn_cond_true he (M9 bW.1 Q Kp a M ρ w act D hs hE hM ha mj.1 hp h)
  ·exact wpIn_cond_false he (M8 bW.2 Q Kp a M ρ w act D hs hE hM ha mj.2 hp h)
  ·exact wpIn_cond_split he (fun hb=>M9 bW.1 Q Kp a M ρ w act D hs hE hM ha mj.1 hp (h.1 hb)) (fun hb=>M8 bW.2 Q Kp a M ρ w act D hs hE hM ha mj.2 hp (h.2 hb))
  ·exact h.elim
 |block id c ih=>
  intro bW Q Kp a M ρ w act D hs hE hM ha mj hp h
  refine wpIn_block (wpIn_mono (ih bW _ Kp a M ρ w act D hs hE hM ha mj hp h) fun e aJ w' hq=>?_)
  obtain⟨hq,xm⟩:=hq
  cases e with
  |normal=>exact⟨hq,xm⟩
  |exit Na=>
   obtain⟨ρ',M',a',D',h1,h2,vW,h3,h4⟩:=hq
   simp only[Exit.inBlock]
   simp only at h4
   split at h4
   ·rename_i hb
    rw[if_pos (Nat.eq_of_beq_eq_true hb)]
    exact⟨⟨ρ',M',a',D',h1,h2,vW,h3,h4⟩,xm⟩
   ·rename_i hb
    rw[if_neg (Nat.ne_of_beq_eq_false hb)]
    exact⟨⟨ρ',M',a',D',h1,h2,vW,h3,h4⟩,xm⟩
  |ret=>exact⟨hq,xm⟩
  |panic ch=>exact⟨hq,xm⟩
  |goto l=>exact hq.elim
  |outgrown=>exact hq.elim
 |loop c ih=>
  intro bW Q Kp a M ρ w act D hs hE hM ha mj hp h
  simp only[bT]at h
  unfold WA at h
  exact wpIn_mono (h pin D ρ w act mj hp hs ha) fun e aJ w' hq=>⟨hq.1.from hE hs hM,hq.2⟩
 |rangeFunc f ps as c=>
  intro bW Q Kp a M ρ w act D hs hE hM ha mj hp h
  simp only[bT]at h
  unfold WA at h
  exact wpIn_mono (h pin D ρ w act mj hp hs ha) fun e aJ w' hq=>⟨hq.1.from hE hs hM,hq.2⟩
 |region id ops draw=>
  intro bW Q Kp a M ρ w act D hs hE hM ha mj hp h
  simp only[bT]at h
  split at h
  ·have Nq:∀o∈ops.toList,qX pin o.dst=true:=fun o ho=>List.all_eq_true.1 mj o ho
   refine wpIn_region (v8 eK.IY Nq _ _ _ hp ?_)
   have:=oV (r:=x.r) (Q:=eK ρ0 M0 w0 D0 x.n Q Kp) hT ops.toList 0 a M ρ w act (by simp) hs (Ext.refl _ _ _) ha h
    (fun a' aJ M' ρ' w' h1 h2 h3 h4=>⟨ρ',M',a',D,h3,hE.trans h4,hM.lF hs h4,h2,h1⟩) (fun rv M' ρ' w' aJ h0 h1 h2 h3 h4=>⟨ρ',M',rv,D,h3,hE.trans h4,hM.lF hs h4,h0,rfl,h2,h1⟩)
   rw[show List.range ops.size=List.range' 0 ops.toList.length by rw[List.range_eq_range',Array.length_toList]]
   exact this
  ·split at h
   ·rename_i cr ds Q1
    simp only[aj,Q1,Bool.and_eq_true]at bW
    obtain⟨⟨vy,ig⟩,FC⟩:=bW
    have Nq:∀o∈ops.toList,qX pin o.dst=true:=fun o ho=>List.all_eq_true.1 mj o ho
    obtain⟨B,hB⟩:∃B,x.B id=B:=⟨_,rfl⟩
    rw[hB]at h
    have Sb:=hp
    have hp:∀(i:Nat) o,ops[i]?=some o→cw o.op=true:=fun i o hi=>by
     exact Array.all_eq_true_iff_forall_mem.1 ig o (Array.mem_of_getElem? hi)
    have vS:aU ρ M {w with drawn:=w.drawn+1}:=⟨hs.n8,hs.tag,hs.bG,fun i g own y hy=>by
     rcases hs.holds i g own y hy with⟨q,h1,h2⟩|h1
     ·exact .inl ⟨q,h1,bO.ext (w:=w) (fun _ _ _ h=>h) rfl h2⟩
     ·exact .inr h1,hs.apart⟩
    have CR:Ext ρ0 M0 w0 ρ M {w with drawn:=w.drawn+1}:=⟨hE.env,hE.size,hE.frame,hE.fresh,hE.os,hE.tape,hE.output⟩
    have vW:Marks w0.heap.size D0 D {w with drawn:=w.drawn+1}:=hM
    have hEr:Ext ρ M {w with drawn:=w.drawn+1} ρ M {w with drawn:=w.drawn+1}:=Ext.refl _ _ _
    cases cr with
    |nil=>
     refine wpIn_region_any hm (qx eK.IY Nq _ _ _ _ Sb (dC (S:=fun _=>True) (ds:=ds) hp _ _ _ _ ?_))
     exact rR (r:=x.r) (Q:=eK ρ0 M0 w0 D0 x.n Q Kp) (w0:={w with drawn:=w.drawn+1}) hT vy vS ha h
      (fun a' aJ M' ρ' w' h1 h2 h3 h4=>⟨ρ',M',a',D,h3,CR.trans h4,vW.lF vS h4,h2,h1⟩)
    |cons p cr=>
    refine wpIn_region_any hm (qx eK.IY Nq _ _ _ _ Sb (dC (S:=SB ρ M B) (ds:=ds) hp _ _ _ _ ?_))
    exact bq (r:=x.r) (Q:=eK ρ0 M0 w0 D0 x.n Q Kp) (w0:={w with drawn:=w.drawn+1}) hT hp
     (fun c aJ d v w' hq=>by
      obtain⟨ρ',M',u,D',h1,h2,hm,h3,h4⟩:=hq
      exact⟨ρ',M',u,D',h1,h2,hm,by cases d<;>exact h3,h4⟩)
     (p::cr) [] _ ops.size a M ρ _ act (SB ρ M B) (Nat.le_trans (List.length_filter_le _ _) (by simpa using FC)) vy jl.none vS hEr ha (fun _=>SB.of vS B) (fun _ h=>h) (fun _ ρ' M' w' k1 k2 k3=>od (SB.of vS B) k1 k2 k3) h
     (fun a' aJ M' ρ' w' h1 h2 h3 h4=>⟨ρ',M',a',D,h3,CR.trans h4,vW.lF vS h4,h2,h1⟩) (fun rv M' ρ' w' aJ h0 h1 h2 h3 h4=>⟨ρ',M',rv,D,h3,CR.trans h4,vW.lF vS h4,h0,rfl,h2,h1⟩)
   ·exact h.elim
 |scope c=>exact fun _ Q Kp a M ρ w act D hs hE hM ha _ _ h=>h.elim
 |goto l=>exact fun _ Q Kp a M ρ w act D hs hE hM ha _ _ h=>h.elim
 |refuse why=>exact fun _ Q Kp a M ρ w act D hs hE hM ha _ _ h=>h.elim
theorem lL {x:Cx}(hT:aq x.P x.T)(hm:x.P.follows .mixedOrders=true){ρ0:Env}{M0:AH}{w0:World}{D0:List Deferred}:
 ∀(c:Code)(bW:aj x.pl c=true)(Q:jm→AA→AH→Prop)(Kp:AV→AH→Prop)(a:AA)(M:AH)(ρ:Env)(w:World)(act:Act)(D:List Deferred),aU ρ M w→Ext ρ0 M0 w0 ρ M w→Marks w0.heap.size D0 D w→bE ρ D x.n a act→bT x c Q Kp a M→
  c.wpIn (FW x.r) 0 x.P (eK ρ0 M0 w0 D0 x.n Q Kp) act w:=
 fun c bW Q Kp a M ρ w act D hs hE hM ha h=>wpIn_mono (fU (pin:=[]) hT hm c bW Q Kp a M ρ w act D hs hE hM ha (Ar c) (dw.nil act) h) fun _ _ _ h=>h.1
theorem Bk {x:Cx}(hT:aq x.P x.T)(hm:x.P.follows .mixedOrders=true){c:Code}(bW:aj x.pl c=true){Q:jm→AA→AH→Prop}{Kp:AV→AH→Prop}{a:AA}{M:AH}(h:bT x c Q Kp a M):
 WA x.P x.r x.D x.n c Q Kp a M:=by
 unfold WA
 exact fun pin D ρ w act mj hp hs ha=>fU hT hm c bW Q Kp a M ρ w act D hs (Ext.refl _ _ _) (Marks.refl _ _ _) ha mj hp h
def Fb:AV→AV
 | .tt=>.bo true| .ff=>.bo false| .bo x=>.bo x| .int k n=>.int k n| .str x=>.str x| .np=>.np| .ptr i g off=>.ptr i g off| .mE i g sz j o=>.mE i g sz j o
 | .ns=>.ns| .sl i g off n c=>.sl i g off n c| .nf=>.nf| .fn q a b=>.fn q a b| .ni=>.ni| .jo t v=>.jo t v| .nm=>.nm| .mp i g=>.mp i g
 | .agg l=>.agg l| .aL l=>.aL l| .raw v=>.raw v
theorem MS (ρ:Env)(v:AV):(Fb v).c ρ=v.c ρ:=by cases v<;>rfl
theorem IX {ρ:Env}{v:AV}(h:v.ok ρ):(Fb v).ok ρ:=by cases v<;>exact h
def yk (T:List TI)(M:AH)(a:AA):List ResultVar→(List AV→Prop)→Prop
 |[],K=>K []
 | .tmp t::l,K=>yk T M a l fun vs=>lJ (Fb (a t)) fun v=>K (v::vs)
 | .cell ad t::l,K=>qk T M t (a ad) fun v=>yk T M a l fun vs=>K (v::vs)
def ax (T:List TI)(rs:List ResultVar)(K:AV→AH→Prop)(e:jm)(a:AA)(M:AH):Prop:=
 match e with
 | .normal| .ret=>yk T M a rs fun vs=>match vs with
   |[v]=>K v M
   |vs=>K (.aL vs) M
 |_=>False
def ao (args:List AV):AA:=fun k=>match args[k]? with
 |some v=>v
 |none=>.aL []
def qP (tmps:Array Value):ResultVar→Sem Value
 | .tmp t=>pure (tmps.getD t undef)
 | .cell a t=>do loadVar t (←asAddr (tmps.getD a undef))
theorem iO (fn:Func)(tmps:Array Value):results fn tmps=(do
 let vs←fn.results.mapM (qP tmps)
 pure (if h:vs.size=1 then vs[0]else .tuple vs)):=by
 unfold results
 have:(fun r=>match r with
  |ResultVar.tmp t=>(pure (tmps.getD t undef):Sem Value)
  |ResultVar.cell a t=>do loadVar t (←asAddr (tmps.getD a undef)))=qP tmps:=by
  funext r;cases r<;>rfl
 rw[←this];rfl
theorem iP {P:Program}{T:List TI}(hT:aq P T){M:AH}{a:AA}{ρ:Env}{w:World}{act:Act}{D:List Deferred}{n:Nat}(hs:aU ρ M w)(ha:bE ρ D n a act):
 ∀(l:List ResultVar)(K:List AV→Prop),yk T M a l K→∃vs,K vs∧AV.dK ρ vs∧(l.mapM (qP act.tmps)).run P w=Result.ok (AV.cl ρ vs) w
 |[],K,h=>⟨[],h,trivial,by simp[AV.cl]⟩
 | .tmp t::l,K,h=>by
   obtain⟨vs,h1,h2,h3⟩:=iP hT hs ha l _ h
   refine⟨Fb (a t)::vs,eD h1,⟨IX (ha.ok t),h2⟩,?_⟩
   rw[List.mapM_cons]
   simp[h3,ha.get t,AV.cl,qP,MS]
 | .cell ad t::l,K,h=>by
   obtain⟨v,h1,h2,h3⟩:=gz (P:=P) hT hs.known (hs.id _) h
   obtain⟨vs,k1,k2,k3⟩:=iP hT hs ha l _ h1
   refine⟨v::vs,k1,⟨h2,k2⟩,?_⟩
   have h4:=h3 w (hs.id _)
   have aS:(qP act.tmps (.cell ad t)).run P w=Result.ok (v.c ρ) w:=by
    simp only[qP]
    rw[ha.get ad]
    simp only[Instr.loadAt]at h4
    generalize(a ad).c ρ=u at h4
    cases u with
    |pointer o=>cases o with
     |none=>simp[Instr.sureAddr]at h4
     |some ad=>simpa[Instr.sureAddr,asAddr]using h4
    |_=>simp[Instr.sureAddr]at h4
   rw[List.mapM_cons]
   simp only[Sem.run_bind]
   rw[aS]
   simp[k3,AV.cl]
theorem aa.intro {x:Cx}(hT:aq x.P x.T)(hm:x.P.follows .mixedOrders=true){g:Nat}{fn:Func}{c:Code}(hf:x.P.funcs[g]?=some fn)(hb:fn.body=some c)(hg:oJ x.P g=true)(bW:aj x.pl c=true)(hr:x.r=none)(hD:x.D=[])
 {args:List AV}{M:AH}{K Kp:AV→AH→Prop}(hn:fn.ntmps=x.n)(hle:Nat.ble args.length x.n=true)
 (h:bT x c (ax x.T fn.results.toList K) Kp (ao args) M):aa x.P g args M K Kp:=by
 unfold aa
 refine⟨hg,fun ρ w hs aA=>?_⟩
 have Rb:args.length≤x.n:=by simpa using hle
 have hlen:(AV.cl ρ args).toArray.size=args.length:=by simp[AV.aY]
 have ha:bE ρ x.D x.n (ao args) {tmps:=(AV.cl ρ args).toArray++Array.replicate (fn.ntmps-(AV.cl ρ args).toArray.size) undef,defers:=[]}:=by
  refine⟨hD.symm,?_,fun t=>?_,fun t=>?_⟩
  ·rw[Array.size_append,Array.size_replicate,hlen,hn];omega
  ·simp only[ao];split
   ·exact(AV.aK ρ args).1 aA _ (List.mem_of_getElem? ‹_›)
   ·exact trivial
  ·simp only[ao,Array.getD_eq_getD_getElem?]
   by_cases ht:t<args.length
   ·rw[Array.getElem?_append_left (by rw[hlen];exact ht)]
    simp[AV.aY,List.getElem?_eq_getElem ht]
   ·rw[Array.getElem?_append_right (by rw[hlen];omega),List.getElem?_eq_none (by omega)]
    simp only[Array.getElem?_replicate]
    split<;>rfl
 have hw:=lL hT hm c bW _ Kp _ M ρ w _ x.D hs (Ext.refl _ _ _) (Marks.refl _ _ _) ha h
 rw[hD]at hw
 refine callsIn_wide.1 (callsIn_of_wp_marks (F:=Fence.wide) (n:=0) hf hb trivial (wpIn_mono (Q:=eK ρ M w [] x.n (ax x.T fn.results.toList K) Kp) ?_ fun e act w' hq=>?_))
 ·rw[hr]at hw;exact hw
 ·have fin:∀(ρ':Env)(M':AH)(a':AA)(D':List Deferred),aU ρ' M' w'→Ext ρ M w ρ' M' w'→Marks w.heap.size [] D' w'→bE ρ' D' x.n a' act→(yk x.T M' a' fn.results.toList fun vs=>match vs with|[v]=>K v M'|vs=>K (.aL vs) M')→
   LeavesInM Fence.wide 0 x.P fn act.tmps (iq ρ M w K Kp) act.defers .returning w':=by
   intro ρ' M' a' D' h1 h2 ⟨rs,CD,Fw,xu⟩ h3 h4
   rw[h3.defers,CD,List.append_nil]
   refine cX (by simp) (fun w2 g1 g2=>?_) rs w' Fw xu h1 h2
   obtain⟨vs,k1,k2,k3⟩:=iP hT g1 h3 _ _ h4
   have yQ:(fn.results.mapM (qP act.tmps)).run x.P w2=Result.ok (AV.cl ρ' vs).toArray w2:=by
    rw[Array.mapM_eq_mapM_toList]
    simp[k3]
   show∃v,(results fn act.tmps).run x.P w2=.ok v w2∧iq ρ M w K Kp (.returned v) w2
   rw[iO]
   simp only[Sem.run_bind,yQ]
   match vs,k1,k2 with
   |[v],k1,k2=>exact⟨v.c ρ',by simp[AV.cl],ρ',M',g1,g2,v,rfl,k2.1,k1⟩
   |[],k1,k2=>exact⟨(AV.aL []).c ρ',by simp[AV.cl,AV.c],ρ',M',g1,g2,.aL [],rfl,k2,k1⟩
   |v::u::vs,k1,k2=>exact⟨(AV.aL (v::u::vs)).c ρ',by simp[AV.cl,AV.c],ρ',M',g1,g2,.aL (v::u::vs),rfl,k2,k1⟩
  cases e with
  |normal=>obtain⟨ρ',M',a',D',h1,h2,hm,h3,h4⟩:=hq;exact fin ρ' M' a' D' h1 h2 hm h3 h4
  |ret=>obtain⟨ρ',M',a',D',h1,h2,hm,h3,h4⟩:=hq;exact fin ρ' M' a' D' h1 h2 hm h3 h4
  |exit id=>obtain⟨ρ',M',a',D',h1,h2,hm,h3,h4⟩:=hq;exact h4.elim
  |panic ch=>
   obtain⟨ρ',M',v,D',h1,h2,⟨rs,CD,Fw,xu⟩,h3,h4,h5,h6⟩:=hq
   show LeavesInM Fence.wide 0 x.P fn act.tmps (iq ρ M w K Kp) act.defers (.panicking ch) w'
   rw[h3,CD,List.append_nil]
   refine cX (F:=Fence.wide) (n:=0) (P:=x.P) (fn:=fn) (tmps:=act.tmps) (R:=iq ρ M w K Kp) (u:=.panicking ch) (by simp) (fun w2 g1 g2=>?_) rs w' Fw xu h1 h2
   show iq ρ M w K Kp (.panicked ch) w2
   exact⟨ρ',M',g1,g2,v,h4,h5,h6⟩
  |goto l=>exact hq.elim
  |outgrown=>exact hq.elim
end Go.Proofs.Ytibadaomjlkoaaa
open Go.RowKit
namespace Go.Proofs.Ytibadaomjlkoaaa
mutual
def AV.nb (k:Nat):AV→Bool
 | .ptr i _ _=>Nat.blt i k
 | .mE i _ _ _ _=>Nat.blt i k
 | .sl i _ _ _ _=>Nat.blt i k
 | .mp i _=>Nat.blt i k
 | .fn _ a b=>AV.su k a&&AV.su k b
 | .jo _ v=>v.nb k
 | .agg l=>AV.su k l
 | .aL l=>AV.su k l
 | .raw _=>true| .bo _=>true| .tt=>true| .ff=>true| .int _ _=>true| .str _=>true| .np=>true| .ns=>true| .nf=>true| .ni=>true| .nm=>true
def AV.su (k:Nat):List AV→Bool
 |[]=>true
 |v::l=>v.nb k&&AV.su k l
end
def pw (ρ:Env)(k:Nat):Env:=fun i g=>if i<k then ρ i g else none
theorem sT {ρ:Env}{k i:Nat}(h:Nat.blt i k=true)(g:Nat):pw ρ k i g=ρ i g:=by
 have:i<k:=by simpa using h
 simp[pw,this]
mutual
theorem AV.oE {ρ:Env}{k:Nat}:∀v:AV,v.nb k=true→v.ok ρ→v.ok (pw ρ k)
 | .ptr i g _=>fun h=>by simp only[AV.nb]at h;simp only[AV.ok,sT h];exact fun h=>h
 | .mE i g _ _ _=>fun h=>by simp only[AV.nb]at h;simp only[AV.ok,sT h];exact fun h=>h
 | .sl i g _ _ _=>fun h=>by simp only[AV.nb]at h;simp only[AV.ok,sT h];exact fun h=>h
 | .mp i g=>fun h=>by simp only[AV.nb]at h;simp only[AV.ok,sT h];exact fun h=>h
 | .fn _ a b=>fun h k=>by
   simp only[AV.nb,Bool.and_eq_true]at h;simp only[AV.ok]at k⊢
   exact⟨AV.ud a h.1 k.1,AV.ud b h.2 k.2⟩
 | .jo _ v=>fun h k=>by simp only[AV.nb]at h;simp only[AV.ok]at k⊢;exact AV.oE v h k
 | .agg l=>fun h k=>by simp only[AV.nb]at h;simp only[AV.ok]at k⊢;exact AV.ud l h k
 | .aL l=>fun h k=>by simp only[AV.nb]at h;simp only[AV.ok]at k⊢;exact AV.ud l h k
 | .bo _=>fun _ _=>trivial| .tt=>fun _ _=>trivial| .ff=>fun _ _=>trivial| .int _ _=>fun _ _=>trivial| .str _=>fun _ _=>trivial
 | .np=>fun _ _=>trivial| .ns=>fun _ _=>trivial| .nf=>fun _ _=>trivial| .ni=>fun _ _=>trivial| .nm=>fun _ _=>trivial| .raw _=>fun _ _=>trivial
theorem AV.ud {ρ:Env}{k:Nat}:∀l:List AV,AV.su k l=true→AV.dK ρ l→AV.dK (pw ρ k) l
 |[]=>fun _ _=>trivial
 |v::l=>fun h k=>by
  simp only[AV.su,Bool.and_eq_true]at h;simp only[AV.dK]at k⊢
  exact⟨AV.oE v h.1 k.1,AV.ud l h.2 k.2⟩
end
theorem sU {ρ:Env}{k:Nat}:∀i g l,pw ρ k i g=some l→ρ i g=some l:=by
 intro i g l h
 unfold pw at h
 split at h
 ·exact h
 ·cases h
theorem AV.Cm {ρ:Env}{k:Nat}{v:AV}(h:v.nb k=true)(aA:v.ok ρ):v.c (pw ρ k)=v.c ρ:=
 (AV.de sU v (AV.oE v h aA)).symm
def af.nb (k:Nat):af→Prop
 | .cells cs=>AV.su k cs=true
 | .ints _ _ _=>True
 | .bV _ _=>True
 | .cJ _ n get _=>∀j,AV.su k (get j)=true
 | .map _ es=>∀p∈es,p.2.nb k=true
 | .loop _ _ _ _ _ a _ _ _ _=>∀t,(a t).nb k=true
def AO.nb (k:Nat):AO→Prop
 | .gone=>True
 | .one _ _ x=>x.nb k
 | .bG _ _ x=>∀g,(x g).nb k
def mi (k:Nat):AH→Prop
 |[]=>True
 |o::M=>o.nb k∧mi k M
theorem yw {k:Nat}:∀{l:List AV},AV.su k l=true→∀v∈l,v.nb k=true
 |[],_,v,hv=>by cases hv
 |u::l,h,v,hv=>by
  simp only[AV.su,Bool.and_eq_true]at h
  rcases List.mem_cons.1 hv with rfl|hv
  ·exact h.1
  ·exact yw h.2 v hv
theorem af.S9 {k:Nat}{x:af}(h:x.nb k){j:Nat}{v:AV}(hv:x.at j=some v):v.nb k=true:=by
 cases x with
 |cells cs=>exact yw h v (List.mem_of_getElem? hv)
 |ints kk xs c=>simp only[af.at,Option.map_eq_some_iff]at hv;obtain⟨z,_,rfl⟩:=hv;rfl
 |bV xs c=>simp only[af.at,Option.map_eq_some_iff]at hv;obtain⟨z,_,rfl⟩:=hv;rfl
 |cJ sz n get c=>
  simp only[af.at]at hv
  split at hv
  ·exact yw (h _) v (List.mem_of_getElem? hv)
  ·cases hv
 |map _ _=>simp[af.at]at hv
 |loop _ _ _ _ _ _ _ _ _ _=>simp[af.at]at hv
theorem bO.cut {ρ:Env}{k:Nat}{own:Bool}{x:af}{b base:Nat}{w:World}(hn:x.nb k)(h:bO ρ own x b base w):bO (pw ρ k) own x b base w:=by
 rcases h.all with⟨hx,c,e,fr,k1,k2,k3,k4⟩|⟨hx,hb,hs⟩
 ·refine .mk' hx ⟨c,e,fr,k1,k2,fun j v hv=>?_,k4⟩
  have hb:=af.S9 hn hv
  have:=k3 j v hv
  exact⟨AV.oE v hb this.1,by rw[AV.Cm hb this.1];exact this.2⟩
 ·refine⟨.inr ⟨hx,hb,?_⟩⟩
  cases x with
  |map kk es=>
   obtain⟨fq,clock,h1,h2,h3,h4,h5⟩:=hs
   refine⟨fq,clock,h1,?_,fun p hp=>⟨AV.oE _ (hn p hp) (h3 p hp).1,(h3 p hp).2⟩,h4,h5⟩
   rw[h2]
   exact List.map_congr_left fun p hp=>by rw[AV.Cm (hn p hp) (h3 p hp).1]
  |loop l st pd fn n a ps as bd df=>
   obtain⟨h1,tmps,h2,h3,h4⟩:=hs
   exact⟨h1,tmps,h2,h3,fun t=>⟨AV.oE _ (hn t) (h4 t).1,by rw[AV.Cm (hn t) (h4 t).1];exact(h4 t).2⟩⟩
  |cells _=>exact hs.elim
  |ints _ _ _=>exact hs.elim
  |bV _ _=>exact hs.elim
  |cJ _ _ _ _=>exact hs.elim
theorem Ff {k:Nat}:∀{M:AH},mi k M→∀{i:Nat}{o:AO},M[i]?=some o→o.nb k
 |[],_,i,o,h=>by simp at h
 |p::M,hn,0,o,h=>by simp at h;subst h;exact hn.1
 |p::M,hn,i+1,o,h=>Ff hn.2 (by simpa using h)
def jr:AH→AH→Prop
 |_,[]=>True
 |o::M,o'::N=>(match o' with
  | .gone=>True
  |o'=>o'=o)∧jr M N
 |[],_::_=>False
theorem wv:∀M:AH,jr M M
 |[]=>trivial
 |o::M=>⟨by cases o<;>first|trivial|rfl,wv M⟩
theorem pR:∀{M N:AH},jr M N→∀{i:Nat}{o:AO},N[i]?=some o→o=.gone∨M[i]?=some o
 |_,[],_,i,o,h=>by simp at h
 |[],_::_,hs,_,_,_=>hs.elim
 |o1::M,o2::N,hs,0,o,h=>by
  simp at h;subst h
  cases o2 with
  |gone=>exact .inl rfl
  |one own g x=>right;simp;exact hs.1.symm
  |bG own m x=>right;simp;exact hs.1.symm
 |o1::M,o2::N,hs,i+1,o,h=>by
  have:=pR hs.2 (i:=i) (by simpa using h)
  simpa using this
theorem jz {M N:AH}(h:jr M N){i g:Nat}{own:Bool}{x:af}(hs:slot N i g=some (own,x)):slot M i g=some (own,x)∧i<N.length:=by
 unfold slot at hs⊢
 cases ho:N[i]? with
 |none=>rw[ho]at hs;cases hs
 |some o=>
  rw[ho]at hs
  refine⟨?_,(List.getElem?_eq_some_iff.1 ho).1⟩
  rcases pR h ho with rfl|h1
  ·cases hs
  ·rw[h1];exact hs
theorem Lm {M:AH}{k:Nat}(h:mi k M){i g:Nat}{own:Bool}{x:af}(hs:slot M i g=some (own,x)):x.nb k:=by
 unfold slot at hs
 cases ho:M[i]? with
 |none=>rw[ho]at hs;cases hs
 |some o=>
  rw[ho]at hs
  have:=Ff h ho
  cases o with
  |gone=>cases hs
  |one bt g' x'=>
   simp only[bc]at hs
   split at hs
   ·injection hs with hs;injection hs with h1 h2;subst h2;exact this
   ·cases hs
  |bG bt m x'=>
   simp only[bc]at hs
   split at hs
   ·injection hs with hs;injection hs with h1 h2;subst h2;exact this g
   ·cases hs
theorem pW {ρ0 ρ:Env}{M0 M N:AH}{w0 w:World}(h0:∀i g,(ρ0 i g).isSome=true→i<M0.length)(hs:aU ρ M w)(hE:Ext ρ0 M0 w0 ρ M w)(h:jr M N)(hn:mi N.length N)(hl:M0.length≤N.length):
 aU (pw ρ N.length) N w∧Ext ρ0 M0 w0 (pw ρ N.length) N w:=by
 have hk:∀{i:Nat}(g:Nat),i<N.length→pw ρ N.length i g=ρ i g:=fun g hi=>by simp[pw,hi]
 have Js:∀i g,(pw ρ N.length i g).isSome=true→i<N.length∧(ρ i g).isSome=true:=by
  intro i g hi
  unfold pw at hi
  split at hi
  ·exact⟨‹_›,hi⟩
  ·cases hi
 refine⟨⟨fun i g hi=>(Js i g hi).1,?_,?_,?_,?_⟩,⟨?_,hE.size,hE.frame,?_,hE.os,hE.tape,hE.output⟩⟩
 ·intro i g own g' x hm hi
  rcases pR h hm with he|h1
  ·cases he
  ·exact hs.tag i g own g' x h1 (Js i g hi).2
 ·intro i g own m x hm hi
  rcases pR h hm with he|h1
  ·cases he
  ·exact hs.bG i g own m x h1 (Js i g hi).2
 ·intro i g own x cV
  obtain⟨h1,h2⟩:=jz h cV
  rw[hk g h2]
  rcases hs.holds i g own x h1 with⟨q,e1,e2⟩|e
  ·exact .inl ⟨q,e1,e2.cut (Lm hn cV)⟩
  ·exact .inr e
 ·intro i g x i' g' bt x' q q' h1 h2 e1 e2 he
  obtain⟨a1,a2⟩:=jz h h1
  obtain⟨b1,b2⟩:=jz h h2
  exact hs.apart i g x i' g' bt x' q q' a1 b1 (sU _ _ _ e1) (sU _ _ _ e2) he
 ·intro i g l e
  have:=h0 i g (by simp[e])
  rw[hk g (by omega)]
  exact hE.env i g l e
 ·intro i g x q h1 e1 hb
  exact hE.fresh i g x q (jz h h1).1 (sU _ _ _ e1) hb
def vX:List (Nat×AV)→Nat→Option AV
 |[],_=>none
 |(t,v)::l,k=>match Nat.beq k t with
  |true=>some v
  |false=>vX l k
def lS (l:List (Nat×AV))(d:Nat→Value):AA:=fun t=>match vX l t with
 |some v=>v
 |none=>.raw (d t)
def v3:List (Nat×AV)→AA→Prop
 |[],_=>True
 |(t,v)::l,a=>a t=v∧v3 l a
def I1 (k:Nat):List (Nat×AV)→Bool
 |[]=>true
 |(_,v)::l=>v.nb k&&I1 k l
theorem sY:∀{l:List (Nat×AV)}{a:AA},v3 l a→∀{t:Nat}{v:AV},vX l t=some v→a t=v
 |[],a,_,t,v,h=>by cases h
 |(t',v')::l,a,hh,t,v,h=>by
  simp only[vX]at h
  split at h
  ·rename_i hb
   injection h with h;subst h
   rw[Nat.eq_of_beq_eq_true hb];exact hh.1
  ·exact sY hh.2 h
theorem nK:∀{l:List (Nat×AV)}{k:Nat},I1 k l=true→∀{t:Nat}{v:AV},vX l t=some v→v.nb k=true
 |[],k,_,t,v,h=>by cases h
 |(t',v')::l,k,hh,t,v,h=>by
  simp only[I1,Bool.and_eq_true]at hh
  simp only[vX]at h
  split at h
  ·injection h with h;subst h;exact hh.1
  ·exact nK hh.2 h
theorem BF {ρ:Env}{D:List Deferred}{n:Nat}{a:AA}{act:Act}(h:bE ρ D n a act){l:List (Nat×AV)}{k:Nat}(hl:I1 k l=true)(ha:v3 l a):
 bE (pw ρ k) D n (lS l fun t=>act.tmps.getD t undef) act:=by
 refine⟨h.defers,h.size,fun t=>?_,fun t=>?_⟩
 ·simp only[lS]
  split
  ·rename_i v hv
   exact AV.oE v (nK hl hv) (by rw[←sY ha hv];exact h.ok t)
  ·exact trivial
 ·simp only[lS]
  split
  ·rename_i v hv
   have he:=sY ha hv
   rw[AV.Cm (nK hl hv) (by rw[←he];exact h.ok t),←he];exact h.get t
  ·rfl
theorem cY {P:Nat→Prop}(h:∃k,P k):∃k,P k∧∀j,P j→k≤j:=by
 obtain⟨k,hk⟩:=h
 induction k using Nat.strongRecOn with
 |_ k ih=>
  by_cases hh:∃j,j<k∧P j
  ·obtain⟨j,hj,hp⟩:=hh;exact ih j hj hp
  ·exact⟨k,hk,fun j hp=>Nat.le_of_not_lt fun hj=>hh ⟨j,hj,hp⟩⟩
def Qf {σ:Type}(I:σ→Prop)(μ:σ→Nat)(A:σ→List (Nat×AV))(H:σ→AH)(Q:jm→AA→AH→Prop)(k:Nat)(e:jm)(a:AA)(M:AH):Prop:=
 match e with
 | .normal=>∃s,(I s∧μ s<k)∧v3 (A s) a∧jr M (H s)
 |e=>Q e a M
theorem WA.loop {x:Cx}{σ:Type}(I:σ→Prop)(μ:σ→Nat)(A:σ→List (Nat×AV))(H:σ→AH)(s0:σ)
 (hT:aq x.P x.T)(hm:x.P.follows .mixedOrders=true){c:Code}(bW:aj x.pl c=true){Q:jm→AA→AH→Prop}{Kp:AV→AH→Prop}{a:AA}{M:AH}
 (h0:I s0∧v3 (A s0) a∧jr M (H s0))(hlen:∀s,Nat.ble M.length (H s).length=true)(hA:∀s,I1 (H s).length (A s)=true)(hH:∀s,mi (H s).length (H s))
 (mR:∀s,I s→∀d,bT x c (Qf I μ A H Q (μ s)) Kp (lS (A s) d) (H s)):
 WA x.P x.r x.D x.n (.loop c) Q Kp a M:=by
 unfold WA
 intro pin D0 ρ0 w0 KA mj Ty AW NG
 let Inv:Nat→Act→World→Prop:=fun k act w=>dw pin act∧∃s ρ,I s∧μ s=k∧aU ρ (H s) w∧Ext ρ0 M w0 ρ (H s) w∧∃D d,Marks w0.heap.size D0 D w∧bE ρ D x.n (lS (A s) d) act
 have hle:∀s,M.length≤(H s).length:=fun s=>by simpa using hlen s
 have mk:∀s ρ M' a' aJ w' D,dw pin aJ→I s→aU ρ M' w'→Ext ρ0 M w0 ρ M' w'→Marks w0.heap.size D0 D w'→bE ρ D x.n a' aJ→v3 (A s) a'→jr M' (H s)→Inv (μ s) aJ w':=by
  intro s ρ M' a' aJ w' D HM hI h1 h2 hm h3 h4 h5
  obtain⟨k1,k2⟩:=pW AW.n8 h1 h2 h5 (hH s) (hle s)
  exact⟨HM,s,_,hI,rfl,k1,k2,D,_,hm,BF h3 (hA s) h4⟩
 have dI:=mk s0 ρ0 M a KA w0 D0 Ty h0.1 AW (Ext.refl _ _ _) (Marks.refl _ _ _) NG h0.2.1 h0.2.2
 refine wpIn_loop (fun act w=>∃k,Inv k act w) (fun act w=>by classical exact if h:∃k,Inv k act w then Classical.choose (cY h)else 0) ⟨_,dI⟩ ?_
 intro act w hI
 have Ra:=Classical.choose_spec (cY hI)
 rw[dif_pos hI]
 generalize Classical.choose (cY hI)=k at*
 obtain⟨⟨HM,s,ρ,X1,rfl,hs,hE,D,d,JC,ha⟩,Q9⟩:=Ra
 refine wpIn_mono (fU hT hm c bW _ Kp _ _ ρ w act D hs hE JC ha mj HM (mR s X1 d)) fun e aJ w' hq=>?_
 obtain⟨hq,rj⟩:=hq
 cases e with
 |normal=>
  obtain⟨ρ',M',a',D',h1,h2,TP,h3,s',⟨h4,h5⟩,h6,h7⟩:=hq
  have G2:=mk s' ρ' M' a' aJ w' D' rj h4 h1 h2 TP h3 h6 h7
  have hex:∃k,Inv k aJ w':=⟨_,G2⟩
  refine⟨hex,?_⟩
  rw[dif_pos hex]
  have:=(Classical.choose_spec (cY hex)).2 _ G2
  omega
 |exit id=>exact⟨hq,rj⟩
 |ret=>exact⟨hq,rj⟩
 |panic ch=>exact⟨hq,rj⟩
 |goto l=>exact hq.elim
 |outgrown=>exact hq.elim
theorem aa.mono {P:Program}{g:Nat}{args:List AV}{M:AH}{K K' Kp ZK:AV→AH→Prop}(h:aa P g args M K Kp)(hK:∀r M',K r M'→K' r M')(Un:∀r M',Kp r M'→ZK r M'):aa P g args M K' ZK:=by
 unfold aa at*
 refine⟨h.1,fun ρ w hs aA=>Calls.mono (h.2 ρ w hs aA) fun e w' he=>?_⟩
 obtain⟨ρ',M',h1,h2,h3⟩:=he
 refine⟨ρ',M',h1,h2,?_⟩
 cases e with
 |returned v=>obtain⟨r,e1,e2,e3⟩:=h3;exact⟨r,e1,e2,hK _ _ e3⟩
 |panicked ch=>obtain⟨r,e1,e2,e3⟩:=h3;exact⟨r,e1,e2,Un _ _ e3⟩
 |outgrown=>exact h3.elim
def Vw (M M':AH)(l l':List AV):Prop:=∀ρ w,aU ρ M w→AV.dK ρ l→∃ρ',aU ρ' M' w∧Ext ρ M w ρ' M' w∧AV.cl ρ' l'=AV.cl ρ l∧AV.dK ρ' l'
theorem aa.view {P:Program}{g:Nat}{args OY:List AV}{M M':AH}{K Kp:AV→AH→Prop}(hv:Vw M M' args OY)(h:aa P g OY M' K Kp):aa P g args M K Kp:=by
 unfold aa at*
 refine⟨h.1,fun ρ w hs aA=>?_⟩
 obtain⟨ρ',h1,h2,h3,h4⟩:=hv ρ w hs aA
 have:=h.2 ρ' w h1 h4
 rw[h3]at this
 refine Calls.mono this fun e w' he=>?_
 obtain⟨gK,lO,k1,k2,k3⟩:=he
 exact⟨gK,lO,k1,h2.trans k2,k3⟩
end Go.Proofs.Ytibadaomjlkoaaa
open Go.RowKit
namespace Go.Proofs.Ytibadaomjlkoaaa
inductive TE where
 |own (i:Nat)
 |e9 (i:Nat)
 |eI (i g off:Nat)
 deriving Inhabited
def TE.i:TE→Nat
 | .own i=>i| .e9 i=>i| .eI i _ _=>i
def zp (t:List TE)(m j:Nat):Nat:=
 match t[j]? with
 |some e=>e.i
 |none=>m+(j-t.length)
def Cb (t:List TE)(j g:Nat):Nat:=
 match t[j]? with
 |some (.eI _ g' _)=>g'
 |_=>g
def Cc (t:List TE)(j off:Nat):Nat:=
 match t[j]? with
 |some (.eI _ _ o)=>o+off
 |_=>off
mutual
def AV.rn (t:List TE)(m:Nat):AV→AV
 | .ptr i g off=>.ptr (zp t m i) (Cb t i g) (Cc t i off)
 | .mE i g sz j o=>.mE (zp t m i) (Cb t i g) sz j (Cc t i o)
 | .sl i g off n c=>.sl (zp t m i) (Cb t i g) (Cc t i off) n c
 | .mp i g=>.mp (zp t m i) (Cb t i g)
 | .fn q a b=>.fn q (AV.rM t m a) (AV.rM t m b)
 | .jo ty v=>.jo ty (v.rn t m)
 | .agg l=>.agg (AV.rM t m l)
 | .aL l=>.aL (AV.rM t m l)
 | .bo x=>.bo x| .tt=>.tt| .ff=>.ff| .int k n=>.int k n| .str x=>.str x| .np=>.np| .ns=>.ns| .nf=>.nf| .ni=>.ni| .nm=>.nm| .raw v=>.raw v
def AV.rM (t:List TE)(m:Nat):List AV→List AV
 |[]=>[]
 |v::l=>v.rn t m::AV.rM t m l
end
theorem AV.Ca (t:List TE)(m:Nat)(l:List AV):AV.rM t m l=l.map (AV.rn t m):=by
 induction l with
 |nil=>rfl
 |cons v l ih=>simp[AV.rM,ih]
def af.rn (t:List TE)(m:Nat):af→af
 | .cells cs=>.cells (AV.rM t m cs)
 | .ints k xs c=>.ints k xs c
 | .bV xs c=>.bV xs c
 | .cJ sz n get c=>.cJ sz n (fun j=>AV.rM t m (get j)) c
 | .map kk es=>.map kk (es.map fun p=>(p.1,p.2.rn t m))
 | .loop l st pd fn n a ps as bd df=>.loop l st pd fn n (fun j=>(a j).rn t m) ps as bd df
theorem af.qM (t:List TE)(m:Nat)(x:af):(x.rn t m).row=x.row:=by cases x<;>rfl
def AO.rn (t:List TE)(m:Nat):AO→AO
 | .gone=>.gone
 | .one own g x=>.one own g (x.rn t m)
 | .bG own n x=>.bG own n (fun g=>(x g).rn t m)
def Oi (t:List TE)(m:Nat):AH→AH
 |[]=>[]
 |o::M=>o.rn t m::Oi t m M
theorem Ix (t:List TE)(m:Nat)(M:AH):Oi t m M=M.map (AO.rn t m):=by
 induction M with
 |nil=>rfl
 |cons v l ih=>simp[Oi,ih]
theorem af.EZ (t:List TE)(m:Nat)(x:af)(k:Nat):(x.rn t m).at k=(x.at k).map (AV.rn t m):=by
 cases x with
 |cells cs=>simp[af.rn,af.at,AV.Ca]
 |ints kk xs c=>simp only[af.rn,af.at,Option.map_map];rfl
 |bV xs c=>simp only[af.rn,af.at,Option.map_map];rfl
 |cJ sz n get c=>
  simp only[af.rn,af.at]
  split
  ·simp[AV.Ca]
  ·rfl
 |map _ _=>rfl
 |loop _ _ _ _ _ _ _ _ _ _=>rfl
theorem af.sK (t:List TE)(m:Nat)(x:af):(x.rn t m).size=x.size:=by
 cases x with
 |cells cs=>simp[af.rn,af.size,AV.Ca]
 |_=>rfl
theorem af.Lq {t:List TE}{m:Nat}{x:af}(h:x.bP):(x.rn t m).bP:=by
 cases x<;>exact h
def eG (t:List TE)(m:Nat)(off:Nat)(x xc:af):Prop:=
 off+x.size≤xc.size∧(∀k v,x.at k=some v→xc.at (off+k)=some (v.rn t m))∧(xc.bP→x.bP)∧x.row=true∧xc.row=true
theorem eG.same {t:List TE}{m:Nat}{x xc:af}(h:x.rn t m=xc)(hv:xc.bP→x.bP)(hr:x.row=true:=by rfl):eG t m 0 x xc:=by
 subst h
 refine⟨by rw[af.sK];omega,fun k v hv=>?_,hv,hr,by rw[af.qM];exact hr⟩
 rw[Nat.zero_add,af.EZ,hv];rfl
theorem eG.ints {t:List TE}{m:Nat}{k:IntKind}{xs ys:List Int}{c co off:Nat}(h1:off+c≤co)(h2:xs=(ys.drop off).take xs.length):eG t m off (.ints k xs c) (.ints k ys co):=by
 refine⟨h1,fun j v hv=>?_,?_,rfl,rfl⟩
 ·simp only[af.at,Option.map_eq_some_iff]at hv⊢
  obtain⟨z,hz,rfl⟩:=hv
  refine⟨z,?_,rfl⟩
  have hj:=(List.getElem?_eq_some_iff.1 hz).1
  rw[h2,List.getElem?_take,if_pos hj,List.getElem?_drop]at hz
  exact hz
 ·rintro⟨e1,e2⟩
  subst e1;subst e2
  simp at h2
  exact⟨h2,by omega⟩
theorem eG.bV {t:List TE}{m:Nat}{xs ys:List Bool}{c co off:Nat}(h1:off+c≤co)(h2:xs=(ys.drop off).take xs.length):eG t m off (.bV xs c) (.bV ys co):=by
 refine⟨h1,fun j v hv=>?_,?_,rfl,rfl⟩
 ·simp only[af.at,Option.map_eq_some_iff]at hv⊢
  obtain⟨z,hz,rfl⟩:=hv
  refine⟨z,?_,rfl⟩
  have hj:=(List.getElem?_eq_some_iff.1 hz).1
  rw[h2,List.getElem?_take,if_pos hj,List.getElem?_drop]at hz
  exact hz
 ·rintro⟨e1,e2⟩
  subst e1;subst e2
  simp at h2
  exact⟨h2,by omega⟩
def AO.fl:AO→Bool
 | .one true _ _=>true
 | .bG true _ _=>true
 |_=>false
def AO.qd:AO→Bool
 | .gone=>true
 | .one true _ _=>true
 | .bG true _ _=>true
 |_=>false
def AO.ro:AO→AO
 | .gone=>.gone
 | .one _ g x=>.one false g x
 | .bG _ n x=>.bG false n x
def AO.H4:AO→Bool
 | .gone=>false
 | .one _ g _=>Nat.beq g 0
 | .bG _ _ _=>true
def uQ (t0:List TE)(m:Nat)(Mc:AH):List TE→AH→Prop
 |[],[]=>True
 | .own i::t,o::M=>(Mc[i]?=some (o.rn t0 m)∧o.qd=true)∧uQ t0 m Mc t M
 | .e9 i::t,o::M=>(o.H4=true∧∃o',Mc[i]?=some o'∧o.rn t0 m=o'.ro)∧uQ t0 m Mc t M
 | .eI i g off::t,o::M=>(∃x own xc,o=.one false 0 x∧slot Mc i g=some (own,xc)∧eG t0 m off x xc)∧uQ t0 m Mc t M
 |_,_=>False
def TE.same:TE→TE→Bool
 |e,e'=>Nat.beq e.i e'.i
def TE.fl:TE→Bool
 | .own _=>true
 |_=>false
def bL:List TE→Bool
 |[]=>true
 |e::t=>t.all (fun e'=>!(e.fl||e'.fl)||!(Nat.beq e.i e'.i))&&bL t
def lV:List TE→AH→AH→Prop
 |[],_,M'=>M'.all AO.qd=true
 | .own _::t,_::M,o'::M'=>o'.qd=true∧lV t M M'
 | .e9 _::t,o::M,o'::M'=>o'=o∧lV t M M'
 | .eI _ _ _::t,o::M,o'::M'=>o'=o∧lV t M M'
 |_,_,_=>False
def dk (t0:List TE)(m:Nat):List TE→AH→AH→AH
 | .own i::t,o::M',Mc=>dk t0 m t M' (Mc.set i (o.rn t0 m))
 |_::t,_::M',Mc=>dk t0 m t M' Mc
 |[],M',Mc=>Mc++Oi t0 m M'
 |_,[],Mc=>Mc
theorem kC {t0:List TE}{m:Nat}{Mc:AH}:∀{t:List TE}{M:AH},uQ t0 m Mc t M→t.length=M.length∧∀(j:Nat) e o,t[j]? =some e→M[j]? =some o→match e with
    | .own i=>Mc[i]? =some (o.rn t0 m)∧o.qd=true
    | .e9 i=>o.H4=true∧∃o',Mc[i]? =some o'∧o.rn t0 m=o'.ro
    | .eI i g off=>∃x own xc,o= .one false 0 x∧slot Mc i g=some (own,xc)∧eG t0 m off x xc
  |[],[],_=>⟨rfl,fun j e o h=>by simp at h⟩
  |[],_::_,h=>by cases h
  | .own i::t,[],h=>by cases h
  | .e9 i::t,[],h=>by cases h
  | .eI i g off::t,[],h=>by cases h
  | .own i::t,o::M,h=>by
    obtain⟨h1,h2⟩:=kC h.2
    refine⟨by simp[h1],fun j e o' he ho=> ?_⟩
    cases j with
    |zero=>simp at he ho;subst he;subst ho;exact h.1
    |succ j=>exact h2 j e o' (by simpa using he) (by simpa using ho)
  | .e9 i::t,o::M,h=>by
    obtain⟨h1,h2⟩:=kC h.2
    refine⟨by simp[h1],fun j e o' he ho=> ?_⟩
    cases j with
    |zero=>simp at he ho;subst he;subst ho;exact h.1
    |succ j=>exact h2 j e o' (by simpa using he) (by simpa using ho)
  | .eI i g off::t,o::M,h=>by
    obtain⟨h1,h2⟩:=kC h.2
    refine⟨by simp[h1],fun j e o' he ho=> ?_⟩
    cases j with
    |zero=>simp at he ho;subst he;subst ho;exact h.1
    |succ j=>exact h2 j e o' (by simpa using he) (by simpa using ho)
theorem nV:∀{t:List TE}{M M':AH},lV t M M'→t.length≤M'.length∧(∀(j:Nat) o',M'[j]?=some o'→match t[j]? with
 |some (.own _)=>o'.qd=true
 |none=>o'.qd=true
 |_=>M[j]?=some o')
 |[],M,M',h=>⟨Nat.zero_le _,fun j o' ho=>by
    simp only[List.getElem?_nil]
    exact List.all_eq_true.1 h o' (List.mem_of_getElem? ho)⟩
 | .own i::t,o::M,o1::M',h=>by
   obtain⟨h1,h2⟩:=nV h.2
   refine⟨by simpa using h1,fun j o' ho=>?_⟩
   cases j with
   |zero=>simp at ho;subst ho;exact h.1
   |succ j=>simpa using h2 j o' (by simpa using ho)
 | .e9 i::t,o::M,o1::M',h=>by
   obtain⟨h1,h2⟩:=nV h.2
   refine⟨by simpa using h1,fun j o' ho=>?_⟩
   cases j with
   |zero=>simp at ho;subst ho;simp[h.1]
   |succ j=>simpa using h2 j o' (by simpa using ho)
 | .eI i g off::t,o::M,o1::M',h=>by
   obtain⟨h1,h2⟩:=nV h.2
   refine⟨by simpa using h1,fun j o' ho=>?_⟩
   cases j with
   |zero=>simp at ho;subst ho;simp[h.1]
   |succ j=>simpa using h2 j o' (by simpa using ho)
 | .own _::_,[],_,h=>by cases h
 | .e9 _::_,[],_,h=>by cases h
 | .eI _ _ _::_,[],_,h=>by cases h
 | .own _::_,_::_,[],h=>by cases h
 | .e9 _::_,_::_,[],h=>by cases h
 | .eI _ _ _::_,_::_,[],h=>by cases h
theorem fX:∀{t:List TE},bL t=true→∀{j j':Nat}{e e':TE},t[j]?=some e→t[j']?=some e'→(e.fl=true∨e'.fl=true)→e.i=e'.i→j=j'
 |[],_,j,j',e,e',h,_,_,_=>by simp at h
 |a::t,ha,j,j',e,e',h,h',ho,hi=>by
  simp only[bL,Bool.and_eq_true,List.all_eq_true]at ha
  have key:∀b∈t,(a.fl=true∨b.fl=true)→a.i≠b.i:=by
   intro b hb Sc heq
   have:=ha.1 b hb
   rw[heq]at this
   have e1:Nat.beq b.i b.i=true:=Nat.beq_refl _
   rw[e1]at this
   rcases Sc with h|h<;>simp[h]at this
  cases j with
  |zero=>
   cases j' with
   |zero=>rfl
   |succ j'=>
    simp at h h'
    subst h
    exact absurd hi (key e' (List.mem_of_getElem? h') ho)
  |succ j=>
   cases j' with
   |zero=>
    simp at h h'
    subst h'
    exact absurd hi.symm (key e (List.mem_of_getElem? h) ho.symm)
   |succ j'=>exact congrArg Nat.succ (fX ha.2 (by simpa using h) (by simpa using h') ho hi)
theorem jB (t0:List TE)(m:Nat):∀(t:List TE)(M' Mc:AH),t.length≤M'.length→(dk t0 m t M' Mc).length=Mc.length+(M'.length-t.length)
 |[],M',Mc,_=>by simp[dk,Ix]
 | .own i::t,o::M',Mc,h=>by
   simp only[dk];rw[jB t0 m t M' _ (by simpa using h)];simp
 | .e9 i::t,o::M',Mc,h=>by
   simp only[dk];rw[jB t0 m t M' _ (by simpa using h)];simp
 | .eI i g off::t,o::M',Mc,h=>by
   simp only[dk];rw[jB t0 m t M' _ (by simpa using h)];simp
 |_::_,[],Mc,h=>by simp at h
theorem pZ (t0:List TE)(m:Nat):∀(t:List TE)(M' Mc:AH)(k:Nat),t.length≤M'.length→(dk t0 m t M' Mc)[Mc.length+k]?=(M'[t.length+k]?).map (AO.rn t0 m)
 |[],M',Mc,k,_=>by simp only[dk,Ix];rw[List.getElem?_append_right (by omega)];simp
 | .own i::t,o::M',Mc,k,h=>by
   simp only[dk]
   have:=pZ t0 m t M' (Mc.set i (o.rn t0 m)) k (by simpa using h)
   rw[List.length_set]at this
   rw[this,List.length_cons,show t.length+1+k=t.length+k+1 from by omega,List.getElem?_cons_succ]
 | .e9 i::t,o::M',Mc,k,h=>by
   simp only[dk]
   rw[pZ t0 m t M' Mc k (by simpa using h),List.length_cons,show t.length+1+k=t.length+k+1 from by omega,List.getElem?_cons_succ]
 | .eI i g off::t,o::M',Mc,k,h=>by
   simp only[dk]
   rw[pZ t0 m t M' Mc k (by simpa using h),List.length_cons,show t.length+1+k=t.length+k+1 from by omega,List.getElem?_cons_succ]
 |_::_,[],Mc,k,h=>by simp at h
theorem mv (t0:List TE)(m:Nat):∀(t:List TE)(M' Mc:AH)(i:Nat),i<Mc.length→t.length≤M'.length→(∀j:Nat,t[j]?≠some (TE.own i))→(dk t0 m t M' Mc)[i]?=Mc[i]?
 |[],M',Mc,i,hi,_,_=>by simp only[dk];rw[List.getElem?_append_left hi]
 | .own i0::t,o::M',Mc,i,hi,h,hn=>by
   simp only[dk]
   rw[mv t0 m t M' _ i (by simpa using hi) (by simpa using h) (fun j hj=>hn (j+1) (by simpa using hj))]
   rw[List.getElem?_set_ne]
   intro e;subst e;exact hn 0 rfl
 | .e9 i0::t,o::M',Mc,i,hi,h,hn=>by
   simp only[dk]
   exact mv t0 m t M' _ i hi (by simpa using h) (fun j hj=>hn (j+1) (by simpa using hj))
 | .eI i0 g off::t,o::M',Mc,i,hi,h,hn=>by
   simp only[dk]
   exact mv t0 m t M' _ i hi (by simpa using h) (fun j hj=>hn (j+1) (by simpa using hj))
 |_::_,[],Mc,i,_,h,_=>by simp at h
theorem pY (t0:List TE)(m:Nat):∀(t:List TE)(M' Mc:AH)(i j:Nat),i<Mc.length→t.length≤M'.length→bL t=true→t[j]?=some (.own i)→(dk t0 m t M' Mc)[i]?=(M'[j]?).map (AO.rn t0 m)
 |[],M',Mc,i,j,_,_,_,hj=>by simp at hj
 |_::_,[],Mc,i,j,_,h,_,_=>by simp at h
 |e::t,o::M',Mc,i,0,hi,h,ha,hj=>by
  simp at hj;subst hj
  simp only[dk]
  rw[mv t0 m t M' _ i (by simpa using hi) (by simpa using h)]
  ·simp[List.getElem?_set,hi]
  ·intro j hj
   have:=fX ha (j:=0) (j':=j+1) (e:=.own i) (e':=.own i) rfl (by simpa using hj) (.inl rfl) rfl
   omega
 | .own i0::t,o::M',Mc,i,j+1,hi,h,ha,hj=>by
   simp only[dk]
   have rp:bL t=true:=by simp only[bL,Bool.and_eq_true]at ha;exact ha.2
   rw[pY t0 m t M' _ i j (by simpa using hi) (by simpa using h) rp (by simpa using hj)];simp
 | .e9 i0::t,o::M',Mc,i,j+1,hi,h,ha,hj=>by
   simp only[dk]
   have rp:bL t=true:=by simp only[bL,Bool.and_eq_true]at ha;exact ha.2
   rw[pY t0 m t M' _ i j hi (by simpa using h) rp (by simpa using hj)];simp
 | .eI i0 g off::t,o::M',Mc,i,j+1,hi,h,ha,hj=>by
   simp only[dk]
   have rp:bL t=true:=by simp only[bL,Bool.and_eq_true]at ha;exact ha.2
   rw[pY t0 m t M' _ i j hi (by simpa using h) rp (by simpa using hj)];simp
def ck (t:List TE)(ρ:Env):Env:=fun j g=>
 match t[j]? with
 |some (.own i)=>ρ i g
 |some (.e9 i)=>ρ i g
 |some (.eI i g' off)=>if g=0 then(ρ i g').map (fun l=>l.map (fun q=>(q.1,q.2+off)))else none
 |none=>none
theorem x6 {t0:List TE}{m:Nat}{o:AO}{g:Nat}:bc (o.rn t0 m) g=(bc o g).map (fun x=>(x.1,x.2.rn t0 m)):=by
 cases o with
 |gone=>rfl
 |one own g' x=>simp only[AO.rn,bc];split<;>rfl
 |bG own n x=>simp only[AO.rn,bc];split<;>rfl
theorem Ll {o:AO}{g:Nat}:bc o.ro g=(bc o g).map (fun x=>(false,x.2)):=by
 cases o with
 |gone=>rfl
 |one own g' x=>simp only[AO.ro,bc];split<;>rfl
 |bG own n x=>simp only[AO.ro,bc];split<;>rfl
theorem tw {o:AO}(h:o.qd=true){g:Nat}{own:Bool}{x:af}(hs:bc o g=some (own,x)):own=true:=by
 cases o with
 |gone=>cases hs
 |one bt g' x'=>
  cases bt with
  |false=>cases h
  |true=>
   simp only[bc]at hs
   split at hs
   ·injection hs with hs;injection hs with h1 _;exact h1.symm
   ·cases hs
 |bG bt n x'=>
  cases bt with
  |false=>cases h
  |true=>
   simp only[bc]at hs
   split at hs
   ·injection hs with hs;injection hs with h1 _;exact h1.symm
   ·cases hs
end Go.Proofs.Ytibadaomjlkoaaa
open Go.RowKit
namespace Go.Proofs.Ytibadaomjlkoaaa
structure HJ (t:List TE)(m:Nat)(ρ' KY:Env):Prop where
 out:∀j g l,ρ' j g=some l→∃l0,KY (zp t m j) (Cb t j g)=some l0∧l=l0.map (fun q=>(q.1,q.2+Cc t j 0))
theorem yj (t:List TE)(j off:Nat):Cc t j off=Cc t j 0+off:=by
 unfold Cc;split<;>omega
mutual
theorem qN {t:List TE}{m:Nat}{ρ' KY:Env}(h:HJ t m ρ' KY):∀v:AV,v.ok ρ'→(v.rn t m).ok KY∧(v.rn t m).c KY=v.c ρ'
 | .ptr i g off=>fun aA=>by
   simp only[AV.ok]at aA
   obtain⟨l,hl⟩:=Option.isSome_iff_exists.1 aA
   obtain⟨l0,h1,rfl⟩:=h.out i g l hl
   refine⟨by simp[AV.rn,AV.ok,h1],?_⟩
   simp only[AV.rn,AV.c,h1,hl]
   cases l0 with
   |none=>rfl
   |some q=>simp only[Option.map_some,yj t i off];congr 2;congr 1;omega
 | .mE i g sz j off=>fun aA=>by
   simp only[AV.ok]at aA
   obtain⟨l,hl⟩:=Option.isSome_iff_exists.1 aA
   obtain⟨l0,h1,rfl⟩:=h.out i g l hl
   refine⟨by simp[AV.rn,AV.ok,h1],?_⟩
   simp only[AV.rn,AV.c,h1,hl]
   cases l0 with
   |none=>rfl
   |some q=>simp only[Option.map_some,yj t i off];congr 2;congr 1;omega
 | .sl i g off n c=>fun aA=>by
   simp only[AV.ok]at aA
   obtain⟨l,hl⟩:=Option.isSome_iff_exists.1 aA
   obtain⟨l0,h1,rfl⟩:=h.out i g l hl
   refine⟨by simp[AV.rn,AV.ok,h1],?_⟩
   simp only[AV.rn,AV.c,h1,hl]
   cases l0 with
   |none=>rfl
   |some q=>simp only[Option.map_some,yj t i off];congr 2;congr 1;omega
 | .mp i g=>fun aA=>by
   simp only[AV.ok]at aA
   obtain⟨l,hl⟩:=Option.isSome_iff_exists.1 aA
   obtain⟨l0,h1,rfl⟩:=h.out i g l hl
   refine⟨by simp[AV.rn,AV.ok,h1],?_⟩
   simp only[AV.rn,AV.c,h1,hl]
   cases l0 with
   |none=>rfl
   |some q=>rfl
 | .fn q a b=>fun aA=>by
   simp only[AV.ok]at aA
   obtain⟨a1,a2⟩:=rL h a aA.1
   obtain⟨b1,b2⟩:=rL h b aA.2
   exact⟨⟨a1,b1⟩,by simp only[AV.rn,AV.c,a2,b2]⟩
 | .jo ty v=>fun aA=>by
   simp only[AV.ok]at aA
   obtain⟨a1,a2⟩:=qN h v aA
   exact⟨a1,by simp only[AV.rn,AV.c,a2]⟩
 | .agg l=>fun aA=>by
   simp only[AV.ok]at aA
   obtain⟨a1,a2⟩:=rL h l aA
   exact⟨a1,by simp only[AV.rn,AV.c,a2]⟩
 | .aL l=>fun aA=>by
   simp only[AV.ok]at aA
   obtain⟨a1,a2⟩:=rL h l aA
   exact⟨a1,by simp only[AV.rn,AV.c,a2]⟩
 | .bo _=>fun _=>⟨trivial,rfl⟩| .tt=>fun _=>⟨trivial,rfl⟩| .ff=>fun _=>⟨trivial,rfl⟩| .int _ _=>fun _=>⟨trivial,rfl⟩| .str _=>fun _=>⟨trivial,rfl⟩
 | .np=>fun _=>⟨trivial,rfl⟩| .ns=>fun _=>⟨trivial,rfl⟩| .nf=>fun _=>⟨trivial,rfl⟩| .ni=>fun _=>⟨trivial,rfl⟩| .nm=>fun _=>⟨trivial,rfl⟩| .raw _=>fun _=>⟨trivial,rfl⟩
theorem rL {t:List TE}{m:Nat}{ρ' KY:Env}(h:HJ t m ρ' KY):∀l:List AV,AV.dK ρ' l→AV.dK KY (AV.rM t m l)∧AV.cl KY (AV.rM t m l)=AV.cl ρ' l
 |[]=>fun _=>⟨trivial,rfl⟩
 |v::l=>fun aA=>by
  simp only[AV.dK]at aA
  obtain⟨a1,a2⟩:=qN h v aA.1
  obtain⟨b1,b2⟩:=rL h l aA.2
  exact⟨⟨a1,b1⟩,by simp only[AV.rM,AV.cl,a2,b2]⟩
end
def Oe (t:List TE)(j g:Nat):Bool:=
 match t[j]? with
 |some (.eI _ _ _)=>Nat.beq g 0
 |some _=>true
 |none=>false
mutual
def AV.w0 (t:List TE):AV→Bool
 | .ptr i g _=>Oe t i g
 | .mE i g _ _ _=>Oe t i g
 | .sl i g _ _ _=>Oe t i g
 | .mp i g=>Oe t i g
 | .fn _ a b=>AV.pE t a&&AV.pE t b
 | .jo _ v=>v.w0 t
 | .agg l=>AV.pE t l
 | .aL l=>AV.pE t l
 | .raw _=>true| .bo _=>true| .tt=>true| .ff=>true| .int _ _=>true| .str _=>true| .np=>true| .ns=>true| .nf=>true| .ni=>true| .nm=>true
def AV.pE (t:List TE):List AV→Bool
 |[]=>true
 |v::l=>v.w0 t&&AV.pE t l
end
theorem n6 {t:List TE}{m:Nat}{ρ:Env}{j g:Nat}(hw:Oe t j g=true)(h:(ρ (zp t m j) (Cb t j g)).isSome=true):(ck t ρ j g).isSome=true:=by
 unfold Oe at hw
 unfold zp Cb at h
 unfold ck
 cases ht:t[j]? with
 |none=>rw[ht]at hw;cases hw
 |some e=>
  rw[ht]at hw h
  cases e with
  |own i=>exact h
  |e9 i=>exact h
  |eI i g' off=>
   have:g=0:=Nat.eq_of_beq_eq_true hw
   simp only[this,if_true]
   simpa[TE.i]using h
mutual
theorem nJ {t:List TE}{m:Nat}{ρ:Env}:∀v:AV,v.w0 t=true→(v.rn t m).ok ρ→v.ok (ck t ρ)
 | .ptr i g _=>fun hw h=>by simp only[AV.w0]at hw;simp only[AV.rn,AV.ok]at h⊢;exact n6 hw h
 | .mE i g _ _ _=>fun hw h=>by simp only[AV.w0]at hw;simp only[AV.rn,AV.ok]at h⊢;exact n6 hw h
 | .sl i g _ _ _=>fun hw h=>by simp only[AV.w0]at hw;simp only[AV.rn,AV.ok]at h⊢;exact n6 hw h
 | .mp i g=>fun hw h=>by simp only[AV.w0]at hw;simp only[AV.rn,AV.ok]at h⊢;exact n6 hw h
 | .fn _ a b=>fun hw h=>by
   simp only[AV.w0,Bool.and_eq_true]at hw;simp only[AV.rn,AV.ok]at h⊢
   exact⟨gw a hw.1 h.1,gw b hw.2 h.2⟩
 | .jo _ v=>fun hw h=>by simp only[AV.w0]at hw;simp only[AV.rn,AV.ok]at h⊢;exact nJ v hw h
 | .agg l=>fun hw h=>by simp only[AV.w0]at hw;simp only[AV.rn,AV.ok]at h⊢;exact gw l hw h
 | .aL l=>fun hw h=>by simp only[AV.w0]at hw;simp only[AV.rn,AV.ok]at h⊢;exact gw l hw h
 | .bo _=>fun _ _=>trivial| .tt=>fun _ _=>trivial| .ff=>fun _ _=>trivial| .int _ _=>fun _ _=>trivial| .str _=>fun _ _=>trivial
 | .np=>fun _ _=>trivial| .ns=>fun _ _=>trivial| .nf=>fun _ _=>trivial| .ni=>fun _ _=>trivial| .nm=>fun _ _=>trivial| .raw _=>fun _ _=>trivial
theorem gw {t:List TE}{m:Nat}{ρ:Env}:∀l:List AV,AV.pE t l=true→AV.dK ρ (AV.rM t m l)→AV.dK (ck t ρ) l
 |[]=>fun _ _=>trivial
 |v::l=>fun hw h=>by
  simp only[AV.pE,Bool.and_eq_true]at hw;simp only[AV.rM,AV.dK]at h⊢
  exact⟨nJ v hw.1 h.1,gw l hw.2 h.2⟩
end
theorem uV {t:List TE}{m:Nat}{ρ:Env}:HJ t m (ck t ρ) ρ:=by
 constructor
 intro j g l hl
 unfold ck at hl
 unfold zp Cb Cc
 cases ht:t[j]? with
 |none=>rw[ht]at hl;cases hl
 |some e=>
  rw[ht]at hl
  cases e with
  |own i=>exact⟨l,hl,by cases l<;>rfl⟩
  |e9 i=>exact⟨l,hl,by cases l<;>rfl⟩
  |eI i g' off=>
   simp only at hl
   split at hl
   ·rw[Option.map_eq_some_iff]at hl
    obtain⟨l0,h1,h2⟩:=hl
    exact⟨l0,h1,h2.symm⟩
   ·cases hl
section
variable{t:List TE}{Mc M:AH}{ρ:Env}{w:World}
theorem tz {M:AH}{i g:Nat}{own:Bool}{x:af}(h:slot M i g=some (own,x)):∃o,M[i]?=some o∧bc o g=some (own,x):=by
 unfold slot at h
 cases ho:M[i]? with
 |none=>rw[ho]at h;cases h
 |some o=>rw[ho]at h;exact⟨o,rfl,h⟩
theorem sH {M:AH}{i g:Nat}{o:AO}{y:Option (Bool×af)}(h1:M[i]?=some o)(h2:bc o g=y):slot M i g=y:=by
 unfold slot;rw[h1];exact h2
theorem nd (fS:uQ t Mc.length Mc t M){j g:Nat}{own:Bool}{x:af}(hs:slot M j g=some (own,x)):
 (∃i,t[j]?=some (.own i)∧slot Mc i g=some (own,x.rn t Mc.length)∧own=true)∨
 (∃i bt,t[j]?=some (.e9 i)∧slot Mc i g=some (bt,x.rn t Mc.length)∧own=false)∨
 (∃i g' off bt xc,t[j]?=some (.eI i g' off)∧g=0∧slot Mc i g'=some (bt,xc)∧eG t Mc.length off x xc∧own=false):=by
 obtain⟨hl,cq⟩:=kC fS
 obtain⟨o,ho,rX⟩:=tz hs
 have hj:j<t.length:=by rw[hl];exact(List.getElem?_eq_some_iff.1 ho).1
 obtain⟨e,he⟩:∃e,t[j]?=some e:=⟨_,List.getElem?_eq_getElem hj⟩
 have:=cq j e o he ho
 cases e with
 |own i=>
  refine .inl ⟨i,he,?_,tw this.2 rX⟩
  exact sH this.1 (by rw[x6,rX];rfl)
 |e9 i=>
  obtain⟨_,o',h1,h2⟩:=this
  have h3:bc (o.rn t Mc.length) g=bc o'.ro g:=by rw[h2]
  rw[x6,Ll,rX]at h3
  cases hh:bc o' g with
  |none=>rw[hh]at h3;cases h3
  |some y=>
   rw[hh]at h3
   simp only[Option.map_some,Option.some.injEq,Prod.mk.injEq]at h3
   obtain⟨bt,xc⟩:=y
   refine .inr (.inl ⟨i,bt,he,sH h1 ?_,h3.1⟩)
   rw[hh,h3.2]
 |eI i g' off=>
  obtain⟨x0,bt,xc,rfl,h2,h3⟩:=this
  simp only[bc]at rX
  split at rX
  ·injection rX with rX;injection rX with a b;subst a;subst b
   exact .inr (.inr ⟨i,g',off,bt,xc,he,‹_›,h2,h3,rfl⟩)
  ·cases rX
theorem ji (fS:uQ t Mc.length Mc t M){j g:Nat}{x:af}{q:Nat×Nat}(hs:slot M j g=some (true,x))(hq:ck t ρ j g=some (some q)):
 ∃i,t[j]?=some (.own i)∧slot Mc i g=some (true,x.rn t Mc.length)∧ρ i g=some (some q):=by
 rcases nd fS hs with⟨i,h1,h2,_⟩|⟨_,_,_,_,h⟩|⟨_,_,_,_,_,_,_,_,_,h⟩
 ·unfold ck at hq;rw[h1]at hq;exact⟨i,h1,h2,hq⟩
 ·cases h
 ·cases h
def af.w0 (t:List TE):af→Prop
 | .cells cs=>AV.pE t cs=true
 | .ints _ _ _=>True
 | .bV _ _=>True
 | .cJ _ n get _=>∀j,AV.pE t (get j)=true
 | .map _ es=>∀p∈es,p.2.w0 t=true
 | .loop _ _ _ _ _ a _ _ _ _=>∀j,(a j).w0 t=true
def AO.w0 (t:List TE):AO→Prop
 | .gone=>True
 | .one _ _ x=>x.w0 t
 | .bG _ _ x=>∀g,(x g).w0 t
def Pg (t:List TE):AH→Prop
 |[]=>True
 |o::M=>o.w0 t∧Pg t M
theorem xS {t:List TE}:∀{l:List AV},AV.pE t l=true→∀v∈l,v.w0 t=true
 |[],_,v,hv=>by cases hv
 |u::l,h,v,hv=>by
  simp only[AV.pE,Bool.and_eq_true]at h
  rcases List.mem_cons.1 hv with rfl|hv
  ·exact h.1
  ·exact xS h.2 v hv
theorem af.Su {t:List TE}{x:af}(h:x.w0 t){j:Nat}{v:AV}(hv:x.at j=some v):v.w0 t=true:=by
 cases x with
 |cells cs=>exact xS h v (List.mem_of_getElem? hv)
 |ints kk xs c=>simp only[af.at,Option.map_eq_some_iff]at hv;obtain⟨z,_,rfl⟩:=hv;rfl
 |bV xs c=>simp only[af.at,Option.map_eq_some_iff]at hv;obtain⟨z,_,rfl⟩:=hv;rfl
 |cJ sz n get c=>
  simp only[af.at]at hv
  split at hv
  ·exact xS (h _) v (List.mem_of_getElem? hv)
  ·cases hv
 |map _ _=>simp[af.at]at hv
 |loop _ _ _ _ _ _ _ _ _ _=>simp[af.at]at hv
theorem ED {t:List TE}:∀{M:AH},Pg t M→∀{i:Nat}{o:AO},M[i]?=some o→o.w0 t
 |[],_,i,o,h=>by simp at h
 |p::M,hn,0,o,h=>by simp at h;subst h;exact hn.1
 |p::M,hn,i+1,o,h=>ED hn.2 (by simpa using h)
theorem Lk {t:List TE}{M:AH}(h:Pg t M){i g:Nat}{own:Bool}{x:af}(hs:slot M i g=some (own,x)):x.w0 t:=by
 obtain⟨o,ho,rX⟩:=tz hs
 have:=ED h ho
 cases o with
 |gone=>cases rX
 |one bt g' x'=>
  simp only[bc]at rX
  split at rX
  ·injection rX with rX;injection rX with h1 h2;subst h2;exact this
  ·cases rX
 |bG bt m x'=>
  simp only[bc]at rX
  split at rX
  ·injection rX with rX;injection rX with h1 h2;subst h2;exact this g
  ·cases rX
theorem vg (hs:aU ρ Mc w)(pG:bL t=true)(fS:uQ t Mc.length Mc t M)(QQ:Pg t M):aU (ck t ρ) M w:=by
 obtain⟨hl,cq⟩:=kC fS
 have hR:HJ t Mc.length (ck t ρ) ρ:=uV
 have Rn:∀j g,(ck t ρ j g).isSome=true→∃e,t[j]?=some e:=by
  intro j g h
  unfold ck at h
  cases ht:t[j]? with
  |none=>rw[ht]at h;cases h
  |some e=>exact⟨e,rfl⟩
 refine⟨?_,?_,?_,?_,?_⟩
 ·intro j g h
  obtain⟨e,he⟩:=Rn j g h
  rw[←hl];exact(List.getElem?_eq_some_iff.1 he).1
 ·intro j g own g' x hm h
  obtain⟨e,he⟩:=Rn j g h
  have:=cq j e _ he hm
  unfold ck at h
  rw[he]at h
  cases e with
  |own i=>exact hs.tag i g own g' _ this.1 h
  |e9 i=>
   obtain⟨_,o',h1,h2⟩:=this
   cases o' with
   |gone=>cases h2
   |one oe g2 x2=>injection h2 with _ e2 _;subst e2;exact hs.tag i g oe _ x2 h1 h
   |bG _ _ _=>cases h2
  |eI i g2 off=>
   obtain⟨x0,oe,xc,e0,_,_⟩:=this
   injection e0 with _ e1 _
   simp only at h
   split at h
   ·omega
   ·cases h
 ·intro j g own n x hm h
  obtain⟨e,he⟩:=Rn j g h
  have:=cq j e _ he hm
  unfold ck at h
  rw[he]at h
  cases e with
  |own i=>exact hs.bG i g own n _ this.1 h
  |e9 i=>
   obtain⟨_,o',h1,h2⟩:=this
   cases o' with
   |gone=>cases h2
   |one oe g2 x2=>cases h2
   |bG oe n2 x2=>injection h2 with _ e2 _;subst e2;exact hs.bG i g oe _ x2 h1 h
  |eI i g2 off=>
   obtain⟨x0,oe,xc,e0,_,_⟩:=this
   cases e0
 ·intro j g own x cV
  have V2:=Lk QQ cV
  have YE:∀(bt:Bool)(b base:Nat),bO ρ bt (x.rn t Mc.length) b base w→x.row=false→bO (ck t ρ) own x b base w:=by
   intro bt b base hh hx
   rcases hh.all with⟨h0,_⟩|⟨_,hb,hs⟩
   ·rw[af.qM,hx]at h0;cases h0
   ·refine⟨.inr ⟨hx,hb,?_⟩⟩
    cases x with
    |map kk es=>
     obtain⟨fq,clock,h1,h2,h3,h4,h5⟩:=hs
     have aA:∀p∈es,p.2.ok (ck t ρ):=fun p hp=>nJ p.2 (V2 p hp) (h3 (p.1,p.2.rn t Mc.length) (List.mem_map_of_mem hp)).1
     refine⟨fq,clock,h1,?_,fun p hp=>⟨aA p hp,(h3 (p.1,p.2.rn t Mc.length) (List.mem_map_of_mem hp)).2⟩,h4,h5⟩
     rw[h2,List.map_map]
     exact List.map_congr_left fun p hp=>by show(kk.v p.1,(p.2.rn t Mc.length).c ρ)=_;rw[(qN hR p.2 (aA p hp)).2]
    |loop l st pd fn n a ps as bd df=>
     obtain⟨h1,tmps,h2,h3,h4⟩:=hs
     have aA:∀j,(a j).ok (ck t ρ):=fun j=>nJ (a j) (V2 j) (h4 j).1
     exact⟨h1,tmps,h2,h3,fun j=>⟨aA j,by rw[(h4 j).2,(qN hR (a j) (aA j)).2]⟩⟩
    |cells _=>exact hs.elim
    |ints _ _ _=>exact hs.elim
    |bV _ _=>exact hs.elim
    |cJ _ _ _ _=>exact hs.elim
  have back:∀(bt:Bool)(xc:af)(b base off:Nat),x.row=true→xc.row=true→bO ρ bt xc b base w→(∀k v,x.at k=some v→xc.at (off+k)=some (v.rn t Mc.length))→off+x.size≤xc.size→(own=true→bt=true)→bO (ck t ρ) own x b (base+off) w:=by
   intro bt xc b base off rh V3 hh fH eJ CF
   obtain⟨c,e,fr,k1,k2,k3,k4⟩:=hh.out V3
   refine .mk' rh ⟨c,e,fr,k1,by omega,fun k v hv=>?_,fun h=>k4 (CF h)⟩
   have h1:=k3 _ _ (fH k v hv)
   have h2:=nJ v (af.Su V2 hv) h1.1
   rw[Nat.add_assoc]
   exact⟨h2,by rw[←(qN hR v h2).2];exact h1.2⟩
  rcases nd fS cV with⟨i,h1,h2,h3⟩|⟨i,bt,h1,h2,h3⟩|⟨i,g',off,bt,xc,h1,h0,h2,h3,h4⟩
  ·have he:ck t ρ j g=ρ i g:=by unfold ck;rw[h1]
   rcases hs.holds i g _ _ h2 with⟨q,e1,e2⟩|⟨e1,e2⟩
   ·exact .inl ⟨q,by rw[he];exact e1,if hx:x.row=true then back own _ q.1 q.2 0 hx (by rw[af.qM];exact hx) e2 (fun k v hv=>by rw[Nat.zero_add,af.EZ,hv];rfl) (by rw[af.sK];omega) (fun h=>h)else YE own _ _ e2 (by simpa using hx)⟩
   ·exact .inr ⟨by rw[he];exact e1,by cases x<;>exact e2⟩
  ·have he:ck t ρ j g=ρ i g:=by unfold ck;rw[h1]
   rcases hs.holds i g _ _ h2 with⟨q,e1,e2⟩|⟨e1,e2⟩
   ·exact .inl ⟨q,by rw[he];exact e1,if hx:x.row=true then back bt _ q.1 q.2 0 hx (by rw[af.qM];exact hx) e2 (fun k v hv=>by rw[Nat.zero_add,af.EZ,hv];rfl) (by rw[af.sK];omega) (fun h=>by rw[h3]at h;cases h)else YE bt _ _ e2 (by simpa using hx)⟩
   ·exact .inr ⟨by rw[he];exact e1,by cases x<;>exact e2⟩
  ·have he:ck t ρ j g=(ρ i g').map (fun l=>l.map (fun q=>(q.1,q.2+off))):=by unfold ck;rw[h1];simp[h0]
   rcases hs.holds i g' _ _ h2 with⟨q,e1,e2⟩|⟨e1,e2⟩
   ·exact .inl ⟨(q.1,q.2+off),by rw[he,e1];rfl,back bt _ q.1 q.2 off h3.2.2.2.1 h3.2.2.2.2 e2 h3.2.1 h3.1 (fun h=>by rw[h4]at h;cases h)⟩
   ·exact .inr ⟨by rw[he,e1];rfl,h3.2.2.1 e2⟩
 ·intro j g x j' g' bt x' q q' gJ om hq BL Xa
  obtain⟨i,a1,a2,a3⟩:=ji fS gJ hq
  rcases nd fS om with⟨i',h1,h2,h3⟩|⟨i',oe,h1,h2,h3⟩|⟨i',g2,off,oe,xc,h1,h0,h2,h3,h4⟩
  ·have he:ρ i' g'=some (some q'):=by unfold ck at BL;rw[h1]at BL;exact BL
   obtain⟨e1,e2⟩:=hs.apart i g _ i' g' _ _ q q' a2 h2 a3 he Xa
   exact⟨fX pG a1 h1 (.inl rfl) e1,e2⟩
  ·have he:ρ i' g'=some (some q'):=by unfold ck at BL;rw[h1]at BL;exact BL
   obtain⟨e1,e2⟩:=hs.apart i g _ i' g' _ _ q q' a2 h2 a3 he Xa
   exact⟨fX pG a1 h1 (.inl rfl) e1,e2⟩
  ·exfalso
   unfold ck at BL
   rw[h1]at BL
   simp only[h0,if_true,Option.map_eq_some_iff]at BL
   obtain⟨l,JF,oI⟩:=BL
   obtain⟨q0,e0,e3⟩:=oI
   subst e0
   obtain⟨e1,e2⟩:=hs.apart i g _ i' g2 _ _ q q0 a2 h2 a3 JF (by rw[Xa,←e3])
   have:=fX pG a1 h1 (.inl rfl) e1
   subst this
   rw[a1]at h1;cases h1
end
end Go.Proofs.Ytibadaomjlkoaaa
open Go.RowKit
namespace Go.Proofs.Ytibadaomjlkoaaa
def gn:List TE→Nat→Option Nat
 |[],_=>none
 | .own i::t,k=>if i=k then some 0 else(gn t k).map (·+1)
 |_::t,k=>(gn t k).map (·+1)
theorem eF:∀{t:List TE}{k j:Nat},gn t k=some j→t[j]?=some (.own k)
 |[],k,j,h=>by cases h
 | .own i::t,k,j,h=>by
   simp only[gn]at h
   split at h
   ·injection h with h;subst h;subst_vars;rfl
   ·obtain⟨j',h1,rfl⟩:=Option.map_eq_some_iff.1 h
    simpa using eF h1
 | .e9 i::t,k,j,h=>by
   obtain⟨j',h1,rfl⟩:=Option.map_eq_some_iff.1 h
   simpa using eF h1
 | .eI i g off::t,k,j,h=>by
   obtain⟨j',h1,rfl⟩:=Option.map_eq_some_iff.1 h
   simpa using eF h1
theorem fE:∀{t:List TE}{k:Nat},gn t k=none→∀j:Nat,t[j]?≠some (TE.own k)
 |[],k,h,j=>by simp
 | .own i::t,k,h,j=>by
   simp only[gn]at h
   split at h
   ·cases h
   ·have h':=Option.map_eq_none_iff.1 h
    cases j with
    |zero=>simp only[List.getElem?_cons_zero];intro e;injection e with e;injection e with e;exact‹¬_› e
    |succ j=>simpa using fE h' j
 | .e9 i::t,k,h,j=>by
   have h':=Option.map_eq_none_iff.1 h
   cases j with
   |zero=>simp
   |succ j=>simpa using fE h' j
 | .eI i g off::t,k,h,j=>by
   have h':=Option.map_eq_none_iff.1 h
   cases j with
   |zero=>simp
   |succ j=>simpa using fE h' j
def qp (t:List TE)(m:Nat)(ρ eH:Env):Env:=fun i g=>
 match ρ i g with
 |some l=>some l
 |none=>if m≤i then eH (t.length+(i-m)) g else match gn t i with
  |some j=>eH j g
  |none=>none
set_option maxHeartbeats 1000000 in
theorem vf {t:List TE}{Mc M M':AH}{ρ eH:Env}{w w':World}(hs:aU ρ Mc w)(pG:bL t=true)(fS:uQ t Mc.length Mc t M)(JH:lV t M M')
 (om:aU eH M' w')(hE:Ext (ck t ρ) M w eH M' w')(gJ:aU (ck t ρ) M w):
 HJ t Mc.length eH (qp t Mc.length ρ eH)∧aU (qp t Mc.length ρ eH) (dk t Mc.length t M' Mc) w'∧Ext ρ Mc w (qp t Mc.length ρ eH) (dk t Mc.length t M' Mc) w':=by
 obtain⟨hl,cq⟩:=kC fS
 obtain⟨hlen,Xw⟩:=nV JH
 have hold:∀i g l,ρ i g=some l→qp t Mc.length ρ eH i g=some l:=fun i g l h=>by simp only[qp,h]
 have CF:∀i j:Nat,t[j]?=some (TE.own i)→i<Mc.length∧∀g,qp t Mc.length ρ eH i g=eH j g:=by
  intro i j hj
  have AY:j<M.length:=by rw[←hl];exact(List.getElem?_eq_some_iff.1 hj).1
  have hi:i<Mc.length:=by
   have:=cq j _ _ hj (List.getElem?_eq_getElem AY)
   exact(List.getElem?_eq_some_iff.1 this.1).1
  refine⟨hi,fun g=>?_⟩
  have hc:ck t ρ j g=ρ i g:=by unfold ck;rw[hj]
  unfold qp
  cases hr:ρ i g with
  |some l=>exact(hE.env j g l (by rw[hc,hr])).symm
  |none=>
   simp only
   rw[if_neg (by omega)]
   cases hf:gn t i with
   |none=>exact absurd hj (fE hf j)
   |some j'=>rw[fX pG hj (eF hf) (.inl rfl) rfl]
 have me:∀k g,qp t Mc.length ρ eH (Mc.length+k) g=eH (t.length+k) g:=by
  intro k g
  unfold qp
  cases hr:ρ (Mc.length+k) g with
  |some l=>have:=hs.n8 (Mc.length+k) g (by rw[hr];rfl);omega
  |none=>simp only;rw[if_pos (by omega),show Mc.length+k-Mc.length=k from by omega]
 have OC:∀i,i<Mc.length→(∀j:Nat,t[j]?≠some (TE.own i))→∀g,qp t Mc.length ρ eH i g=ρ i g:=by
  intro i hi hn g
  unfold qp
  cases hr:ρ i g with
  |some l=>rfl
  |none=>
   simp only
   rw[if_neg (by omega)]
   cases hf:gn t i with
   |none=>rfl
   |some j=>exact absurd (eF hf) (hn j)
 have hR:HJ t Mc.length eH (qp t Mc.length ρ eH):=by
  constructor
  intro j g l KM
  unfold zp Cb Cc
  have hjM:j<M'.length:=om.n8 j g (by rw[KM];rfl)
  have V9:=List.getElem?_eq_getElem hjM
  have hk:=Xw j _ V9
  cases ht:t[j]? with
  |none=>
   have Ha:t.length≤j:=by simpa using ht
   simp only
   refine⟨l,?_,by cases l<;>rfl⟩
   rw[me,show t.length+(j-t.length)=j from by omega];exact KM
  |some e=>
   rw[ht]at hk
   cases e with
   |own i=>exact⟨l,((CF i j ht).2 g).trans KM,by cases l<;>rfl⟩
   |e9 i=>
    simp only at hk
    have h0:=(cq j _ _ ht hk).1
    have cV:∃own x,slot M j g=some (own,x):=by
     unfold slot
     rw[hk]
     generalize M'[j]=o at*
     cases o with
     |gone=>cases h0
     |one own g1 x=>
      have:g1=0:=Nat.eq_of_beq_eq_true h0
      have h2:=om.tag j g own g1 x V9 (by rw[KM];rfl)
      exact⟨own,x,by simp only[bc];rw[if_pos (by omega)]⟩
     |bG own n x=>
      have h2:=om.bG j g own n x V9 (by rw[KM];rfl)
      exact⟨own,x g,by simp only[bc];rw[if_pos h2]⟩
    obtain⟨own,x,cV⟩:=cV
    have hc:ck t ρ j g=ρ i g:=by unfold ck;rw[ht]
    have:ρ i g=some l:=by
     rcases gJ.holds j g own x cV with⟨q,e1,_⟩|⟨e1,_⟩
     ·have:=hE.env j g _ e1;rw[KM]at this;rw[←hc,e1,this]
     ·have:=hE.env j g _ e1;rw[KM]at this;rw[←hc,e1,this]
    exact⟨l,hold i g l this,by cases l<;>rfl⟩
   |eI i g' off=>
    simp only at hk
    obtain⟨x,own,xc,ho,h1,h2⟩:=cq j _ _ ht hk
    have hg:g=0:=by
     have:=om.tag j g false 0 x (by rw[V9,ho]) (by rw[KM];rfl)
     omega
    subst hg
    have cV:slot M j 0=some (false,x):=sH (o:=M'[j]) hk (by rw[ho];rfl)
    have hc:ck t ρ j 0=(ρ i g').map (fun l=>l.map (fun q=>(q.1,q.2+off))):=by unfold ck;rw[ht];simp
    have:ck t ρ j 0=some l:=by
     rcases gJ.holds j 0 false x cV with⟨q,e1,_⟩|⟨e1,_⟩
     ·have:=hE.env j 0 _ e1;rw[KM]at this;rw[e1,this]
     ·have:=hE.env j 0 _ e1;rw[KM]at this;rw[e1,this]
    rw[hc,Option.map_eq_some_iff]at this
    obtain⟨l0,e1,e2⟩:=this
    exact⟨l0,hold i g' l0 e1,e2.symm⟩
 have cls:∀i,(∃j,zp t Mc.length j=i∧(dk t Mc.length t M' Mc)[i]?=(M'[j]?).map (AO.rn t Mc.length)∧(∀g,qp t Mc.length ρ eH i g=eH j g)∧∀o,M'[j]?=some o→o.qd=true)∨
  (i<Mc.length∧(dk t Mc.length t M' Mc)[i]?=Mc[i]?∧(∀g,qp t Mc.length ρ eH i g=ρ i g)∧∀j:Nat,t[j]?≠some (TE.own i)):=by
  intro i
  by_cases hi:i<Mc.length
  ·cases hf:gn t i with
   |some j=>
    have hj:=eF hf
    refine .inl ⟨j,by unfold zp;rw[hj];rfl,pY t Mc.length t M' Mc i j hi hlen pG hj,(CF i j hj).2,fun o ho=>?_⟩
    have:=Xw j o ho
    rw[hj]at this;exact this
   |none=>
    have hn:=fE hf
    exact .inr ⟨hi,mv t Mc.length t M' Mc i hi hlen hn,OC i hi hn,hn⟩
  ·obtain⟨k,rfl⟩:∃k,i=Mc.length+k:=⟨i-Mc.length,by omega⟩
   have ht:t[t.length+k]?=none:=by simp
   refine .inl ⟨t.length+k,by unfold zp;rw[ht];simp only;omega,pZ t Mc.length t M' Mc k hlen,me k,fun o ho=>?_⟩
   have:=Xw (t.length+k) o ho
   rw[ht]at this;exact this
 have ku:∀{i j g:Nat}{own:Bool}{x:af},(dk t Mc.length t M' Mc)[i]?=(M'[j]?).map (AO.rn t Mc.length)→(∀o,M'[j]?=some o→o.qd=true)→slot (dk t Mc.length t M' Mc) i g=some (own,x)→∃x',slot M' j g=some (true,x')∧x=x'.rn t Mc.length∧own=true:=by
  intro i j g own x h1 h2 cV
  obtain⟨o,ho,rX⟩:=tz cV
  rw[h1,Option.map_eq_some_iff]at ho
  obtain⟨o',uH,rfl⟩:=ho
  rw[x6,Option.map_eq_some_iff]at rX
  obtain⟨⟨bt,x'⟩,e1,e2⟩:=rX
  have:=tw (h2 o' uH) e1
  subst this
  injection e2 with e2 e3
  exact⟨x',sH uH e1,e3.symm,e2.symm⟩
 have kq:∀{i g:Nat}{own:Bool}{x:af},(dk t Mc.length t M' Mc)[i]?=Mc[i]?→slot (dk t Mc.length t M' Mc) i g=some (own,x)→slot Mc i g=some (own,x):=by
  intro i g own x h1 cV
  unfold slot at cV⊢
  rw[h1]at cV;exact cV
 have yN:∀i g own x q,slot Mc i g=some (own,x)→ρ i g=some (some q)→bO ρ own x q.1 q.2 w:=by
  intro i g own x q h1 h2
  rcases hs.holds i g own x h1 with⟨q',e1,e2⟩|⟨e1,_⟩
  ·rw[h2]at e1;injection e1 with e1;injection e1 with e1;subst e1;exact e2
  ·rw[h2]at e1;cases e1
 have yC:∀{j g:Nat}{x:af}{q:Nat×Nat},slot M' j g=some (true,x)→eH j g=some (some q)→q.1<w.heap.size→∃(j0 i0 g0:Nat) (x0:af) (q0:Nat×Nat),t[j0]?=some (TE.own i0)∧slot Mc i0 g0=some (true,x0)∧ρ i0 g0=some (some q0)∧q0.1=q.1:=by
  intro j g x q h1 h2 h3
  obtain⟨j0,g0,x0,q0,a1,a2,a3⟩:=hE.fresh j g x q h1 h2 h3
  obtain⟨i0,b1,b2,b3⟩:=ji fS a1 a2
  exact⟨j0,i0,g0,_,q0,b1,b2,b3,a3⟩
 have frame:∀i g own x q,(∀j:Nat,t[j]?≠some (TE.own i))→slot Mc i g=some (own,x)→ρ i g=some (some q)→w'.heap[q.1]?=w.heap[q.1]?:=by
  intro i g own x q hn h1 h2
  refine hE.frame q.1 (yN i g own x q h1 h2).lt fun j0 g0 x0 q0 a1 a2 he=>?_
  obtain⟨i0,b1,b2,b3⟩:=ji fS a1 a2
  have:=(hs.apart i0 g0 _ i g own x q0 q b2 h1 b3 h2 he).1
  subst this
  exact hn j0 b1
 refine⟨hR,⟨?_,?_,?_,?_,?_⟩,⟨hold,hE.size,?_,?_,hE.os,hE.tape,hE.output⟩⟩
 ·intro i g h
  rcases cls i with⟨j,h0,h1,h2,h3⟩|⟨h0,h1,h2,h3⟩
  ·rw[h2]at h
   have hj:=om.n8 j g h
   rw[List.getElem?_eq_getElem hj]at h1
   exact(List.getElem?_eq_some_iff.1 h1).1
  ·rw[jB _ _ _ _ _ hlen];omega
 ·intro i g own g' x hm h
  rcases cls i with⟨j,h0,h1,h2,h3⟩|⟨h0,h1,h2,h3⟩
  ·rw[h2]at h
   rw[h1,Option.map_eq_some_iff]at hm
   obtain⟨o,ho,e⟩:=hm
   cases o with
   |gone=>cases e
   |one ML g1 x1=>injection e with _ e _;subst e;exact om.tag j g ML _ x1 ho h
   |bG _ _ _=>cases e
  ·rw[h1]at hm;rw[h2]at h;exact hs.tag i g own g' x hm h
 ·intro i g own n x hm h
  rcases cls i with⟨j,h0,h1,h2,h3⟩|⟨h0,h1,h2,h3⟩
  ·rw[h2]at h
   rw[h1,Option.map_eq_some_iff]at hm
   obtain⟨o,ho,e⟩:=hm
   cases o with
   |gone=>cases e
   |one ML g1 x1=>cases e
   |bG ML n1 x1=>injection e with _ e _;subst e;exact om.bG j g ML _ x1 ho h
  ·rw[h1]at hm;rw[h2]at h;exact hs.bG i g own n x hm h
 ·intro i g own x cV
  rcases cls i with⟨j,h0,h1,h2,h3⟩|⟨h0,h1,h2,h3⟩
  ·obtain⟨x',a1,rfl,rfl⟩:=ku h1 h3 cV
   rw[h2]
   rcases om.holds j g true x' a1 with⟨q,e1,e2⟩|⟨e1,e2⟩
   ·refine .inl ⟨q,e1,?_⟩
    rcases e2.all with⟨hx,c,e,fr,k1,k2,k3,k4⟩|⟨hx,hb,hs⟩
    ·refine .mk' (by rw[af.qM];exact hx) ⟨c,e,fr,k1,by rw[af.sK];exact k2,fun k v hv=>?_,k4⟩
     rw[af.EZ,Option.map_eq_some_iff]at hv
     obtain⟨v',qw,rfl⟩:=hv
     have:=k3 k v' qw
     obtain⟨c1,c2⟩:=qN hR v' this.1
     exact⟨c1,by rw[c2];exact this.2⟩
    ·refine⟨.inr ⟨by rw[af.qM];exact hx,hb,?_⟩⟩
     cases x' with
     |map kk es=>
      obtain⟨fq,clock,h1,h2,h3,h4,h5⟩:=hs
      refine⟨fq,clock,h1,?_,fun p hp=>?_,h4,h5⟩
      ·rw[h2,List.map_map]
       exact List.map_congr_left fun p hp=>by show _=(kk.v p.1,(p.2.rn t Mc.length).c _);rw[(qN hR p.2 (h3 p hp).1).2]
      ·obtain⟨p',xm,rfl⟩:=List.mem_map.1 hp
       exact⟨(qN hR p'.2 (h3 p' xm).1).1,(h3 p' xm).2⟩
     |loop l st pd fn n a ps as bd df=>
      obtain⟨h1,tmps,h2,h3,h4⟩:=hs
      exact⟨h1,tmps,h2,h3,fun j=>⟨(qN hR (a j) (h4 j).1).1,by rw[(h4 j).2,(qN hR (a j) (h4 j).1).2]⟩⟩
     |cells _=>exact hs.elim
     |ints _ _ _=>exact hs.elim
     |bV _ _=>exact hs.elim
     |cJ _ _ _ _=>exact hs.elim
   ·exact .inr ⟨e1,af.Lq e2⟩
  ·have Ni:=kq h1 cV
   rw[h2]
   rcases hs.holds i g own x Ni with⟨q,e1,e2⟩|e
   ·exact .inl ⟨q,e1,e2.ext hold (frame i g own x q h3 Ni e1)⟩
   ·exact .inr e
 ·intro i1 g1 x1 i2 g2 oe x2 q1 q2 Nh Ng AX cI he
  rcases cls i1 with⟨j1,a0,a1,a2,a3⟩|⟨a0,a1,a2,a3⟩<;>rcases cls i2 with⟨j2,b0,b1,b2,b3⟩|⟨b0,b1,b2,b3⟩
  ·obtain⟨y1,c1,c2,_⟩:=ku a1 a3 Nh
   obtain⟨y2,d1,d2,_⟩:=ku b1 b3 Ng
   rw[a2]at AX;rw[b2]at cI
   obtain⟨e1,e2⟩:=om.apart j1 g1 y1 j2 g2 _ y2 q1 q2 c1 d1 AX cI he
   exact⟨by rw[←a0,←b0,e1],e2⟩
  ·exfalso
   obtain⟨y1,c1,c2,_⟩:=ku a1 a3 Nh
   rw[a2]at AX;rw[b2]at cI
   have OA:=kq b1 Ng
   have a9:=(yN i2 g2 oe x2 q2 OA cI).lt
   obtain⟨j0,i0,g0,x0,q0,d1,d2,d3,d4⟩:=yC c1 AX (by omega)
   have:=(hs.apart i0 g0 x0 i2 g2 oe x2 q0 q2 d2 OA d3 cI (d4.trans he)).1
   subst this
   exact b3 j0 d1
  ·exfalso
   obtain⟨y2,c1,c2,_⟩:=ku b1 b3 Ng
   rw[a2]at AX;rw[b2]at cI
   have OB:=kq a1 Nh
   have a9:=(yN i1 g1 true x1 q1 OB AX).lt
   obtain⟨j0,i0,g0,x0,q0,d1,d2,d3,d4⟩:=yC c1 cI (by omega)
   have:=(hs.apart i0 g0 x0 i1 g1 true x1 q0 q1 d2 OB d3 AX (d4.trans he.symm)).1
   subst this
   exact a3 j0 d1
  ·rw[a2]at AX;rw[b2]at cI
   exact hs.apart i1 g1 x1 i2 g2 oe x2 q1 q2 (kq a1 Nh) (kq b1 Ng) AX cI he
 ·intro b hb hn
  refine hE.frame b hb fun j g x q h1 h2=>?_
  obtain⟨i0,b1,b2,b3⟩:=ji fS h1 h2
  exact hn i0 g _ q b2 b3
 ·intro i g x q cV hq hb
  rcases cls i with⟨j,h0,h1,h2,h3⟩|⟨h0,h1,h2,h3⟩
  ·obtain⟨x',a1,rfl,_⟩:=ku h1 h3 cV
   rw[h2]at hq
   obtain⟨j0,i0,g0,x0,q0,d1,d2,d3,d4⟩:=yC a1 hq hb
   exact⟨i0,g0,x0,q0,d2,d3,d4⟩
  ·rw[h2]at hq
   exact⟨i,g,x,q,kq h1 cV,hq,rfl⟩
theorem aa.lift (t:List TE){P:Program}{g:Nat}{args:List AV}{M:AH}{K0 VP:AV→AH→Prop}(h:aa P g args M K0 VP){Bw:List AV}{Mc:AH}{K Kp:AV→AH→Prop}
 (jO:AV.rM t Mc.length args=Bw)(T6:(bL t&&AV.pE t args)=true)(fS:uQ t Mc.length Mc t M)(QQ:Pg t M)
 (hK:∀r M',K0 r M'→lV t M M'∧K (r.rn t Mc.length) (dk t Mc.length t M' Mc))
 (Un:∀r M',VP r M'→lV t M M'∧Kp (r.rn t Mc.length) (dk t Mc.length t M' Mc)):aa P g Bw Mc K Kp:=by
 subst jO
 simp only[Bool.and_eq_true]at T6
 obtain⟨pG,ZY⟩:=T6
 unfold aa at*
 refine⟨h.1,fun ρ w hs aA=>?_⟩
 have gJ:=vg hs pG fS QQ
 have TC:=gw args ZY aA
 have lZ:=h.2 (ck t ρ) w gJ TC
 rw[←(rL (uV (m:=Mc.length)) args TC).2]at lZ
 refine Calls.mono lZ fun e w' he=>?_
 obtain⟨eH,M',h1,h2,h3⟩:=he
 cases e with
 |returned v=>
  obtain⟨r,e1,e2,e3⟩:=h3
  obtain⟨k1,k2⟩:=hK r M' e3
  obtain⟨b1,b2,b3⟩:=vf hs pG fS k1 h1 h2 gJ
  obtain⟨c1,c2⟩:=qN b1 r e2
  exact⟨_,_,b2,b3,_,by rw[c2];exact e1,c1,k2⟩
 |panicked ch=>
  obtain⟨r,e1,e2,e3⟩:=h3
  obtain⟨k1,k2⟩:=Un r M' e3
  obtain⟨b1,b2,b3⟩:=vf hs pG fS k1 h1 h2 gJ
  obtain⟨c1,c2⟩:=qN b1 r e2
  exact⟨_,_,b2,b3,_,by rw[c2];exact e1,c1,k2⟩
 |outgrown=>exact h3.elim
end Go.Proofs.Ytibadaomjlkoaaa
open Go.RowKit
namespace Go.Proofs.Ytibadaomjlkoaaa
theorem kY {ρ:Env}{M:AH}{w:World}{i g:Nat}{x x':af}(h:aU ρ M w)(hm:M[i]?=some (.one true g x))(eJ:x'.size≤x.size)
 (fH:∀k v',x'.at k=some v'→∃v,x.at k=some v∧v'.c ρ=v.c ρ∧v'.ok ρ)(hv:x.bP→x'.bP)(rh:x.row=true:=by rfl)(Cz:x'.row=true:=by rfl):
 aU ρ (M.set i (.one true g x')) w∧Ext ρ M w ρ (M.set i (.one true g x')) w:=by
 have a9:i<M.length:=(List.getElem?_eq_some_iff.1 hm).1
 refine kZ (i:=i) (g:=g) (x':=x') h (by simp) (fun i' eU=>by rw[List.getElem?_set_ne (Ne.symm eU)]) (by simp[a9]) (fun _ _ _ e=>e) (fun _ _ e=>.inl e) (fun g' hg=>h.tag i g' true g x hm hg)
  (fun b hb hn=>rfl) (Nat.le_refl _) rfl rfl rfl ?_
 rcases h.holds i g true x (ak hm)with⟨q,e1,e2⟩|⟨e1,e2⟩
 ·refine .inl ⟨q,e1,?_,.inr ⟨g,x,q,ak hm,e1,rfl⟩⟩
  obtain⟨c,e,fr,k1,k2,k3,k4⟩:=e2.out rh
  refine .mk' Cz ⟨c,e,fr,k1,by omega,fun k v hv=>?_,k4⟩
  obtain⟨v0,h1,h2,h3⟩:=fH k v hv
  exact⟨h3,by rw[h2];exact(k3 k v0 h1).2⟩
 ·exact .inr ⟨e1,hv e2⟩
theorem rJ {α:Type}(M:List α)(o o':α)(i:Nat)(h:i<M.length):(M++[o]).set i o'=M.set i o'++[o]:=by
 rw[List.set_append,if_pos h]
theorem Vw.ghost {M:AH}{i g k:Nat}{cs:List AV}{x:af}{l:List AV}(hm:M[i]?=some (.one true g (.cells cs)))(hk:cs[k]?=some .ns)(hx:x.bP):
 Vw M (M.set i (.one true g (.cells (cs.set k (.sl M.length 0 0 0 0))))++[.one true 0 x]) l l:=by
 intro ρ w hs aA
 have a9:i<M.length:=(List.getElem?_eq_some_iff.1 hm).1
 obtain⟨h1,h2⟩:=gh (x:=x) (l:=none) (w':=w) hs (fun _ _=>rfl) (Nat.le_refl _) rfl rfl rfl (.inr ⟨rfl,hx⟩)
 obtain⟨h3,h4⟩:=kY (x':=.cells (cs.set k (.sl M.length 0 0 0 0))) h1 (show(M++[AO.one true 0 x])[i]?=some (.one true g (.cells cs)) by rw[List.getElem?_append_left a9];exact hm)
  (by simp[af.size]) (fun j v' qw=>by
   simp only[af.at]at qw⊢
   by_cases hj:k=j
   ·subst hj
    have hlk:=(List.getElem?_eq_some_iff.1 hk).1
    rw[List.getElem?_set_self hlk]at qw
    injection qw with qw;subst qw
    exact⟨.ns,hk,by simp[AV.c,au],by simp[AV.ok,au]⟩
   ·rw[List.getElem?_set_ne hj]at qw
    refine⟨v',qw,rfl,?_⟩
    rcases h1.holds i g true (.cells cs) (ak (by rw[List.getElem?_append_left a9];exact hm))with⟨q,e1,e2⟩|⟨_,e2⟩
    ·obtain⟨c,e,fr,k1,k2,k3,k4⟩:=e2.out rfl
     exact(k3 j v' qw).1
    ·exact e2.elim) (fun h=>h.elim)
 rw[rJ _ _ _ _ a9]at h3 h4
 refine⟨_,h3,h2.trans h4,?_,AV.gm h2.env l aA⟩
 exact AV.j7 h2.env l aA
theorem Vw.nil {M:AH}{x:af}(hx:x.bP):Vw M (M++[.one true 0 x]) [.ns] [.sl M.length 0 0 0 0]:=by
 intro ρ w hs aA
 obtain⟨h1,h2⟩:=gh (x:=x) (l:=none) (w':=w) hs (fun _ _=>rfl) (Nat.le_refl _) rfl rfl rfl (.inr ⟨rfl,hx⟩)
 exact⟨_,h1,h2,by simp[AV.cl,AV.c,au],by simp[AV.dK,AV.ok,au]⟩
def Qv (k:Nat):List AV→List AV→Prop
 |[],[]=>True
 |v::l,v'::l'=>(v'=v∨(v=.ns∧v'=.sl k 0 0 0 0))∧Qv k l l'
 |_,_=>False
theorem Vw.yv {M:AH}{x:af}{l l':List AV}(hx:x.bP)(hl:Qv M.length l l'):Vw M (M++[.one true 0 x]) l l':=by
 intro ρ w hs aA
 obtain⟨h1,h2⟩:=gh (x:=x) (l:=none) (w':=w) hs (fun _ _=>rfl) (Nat.le_refl _) rfl rfl rfl (.inr ⟨rfl,hx⟩)
 have key:∀l l':List AV,Qv M.length l l'→AV.dK ρ l→AV.cl (j8 ρ M.length 0 none) l'=AV.cl ρ l∧AV.dK (j8 ρ M.length 0 none) l':=by
  intro l
  induction l with
  |nil=>intro l' h _;cases l' with
   |nil=>exact⟨rfl,trivial⟩
   |cons _ _=>cases h
  |cons v l ih=>
   intro l' h aA
   cases l' with
   |nil=>cases h
   |cons v' l'=>
    obtain⟨g1,g2⟩:=ih l' h.2 aA.2
    rcases h.1 with rfl|⟨rfl,rfl⟩
    ·exact⟨by simp only[AV.cl,g1,AV.de h2.env _ aA.1],AV.cF h2.env _ aA.1,g2⟩
    ·exact⟨by simp[AV.cl,AV.c,au,g1],by simp[AV.ok,au],g2⟩
 obtain⟨k1,k2⟩:=key l l' hl aA
 exact⟨_,h1,h2,k1,k2⟩
theorem Vw.refl (M:AH)(l:List AV):Vw M M l l:=fun ρ w hs aA=>⟨ρ,hs,Ext.refl _ _ _,rfl,aA⟩
theorem aa.fi {P:Program}{g:Nat}{args:List AV}{M:AH}{K Kp:AV→AH→Prop}(h:aa P g args M (fun r M'=>∃r' lO,Vw M' lO [r] [r']∧K r' lO) Kp):aa P g args M K Kp:=by
 unfold aa at*
 refine⟨h.1,fun ρ w hs aA=>Calls.mono (h.2 ρ w hs aA) fun e w' he=>?_⟩
 obtain⟨ρ',M',h1,h2,h3⟩:=he
 cases e with
 |returned v=>
  obtain⟨r,e1,e2,r',lO,e3,e4⟩:=h3
  obtain⟨gK,k1,k2,k3,k4⟩:=e3 ρ' w' h1 ⟨e2,trivial⟩
  simp only[AV.cl,List.cons.injEq,and_true]at k3
  exact⟨gK,lO,k1,h2.trans k2,r',by rw[k3];exact e1,k4.1,e4⟩
 |panicked ch=>
  obtain⟨r,e1,e2,e3⟩:=h3
  exact⟨ρ',M',h1,h2,r,e1,e2,e3⟩
 |outgrown=>exact h3.elim
theorem aa.bs {P:Program}{g:Nat}{args:List AV}{M:AH}{K Kp:AV→AH→Prop}(h:aa P g args M (fun r M'=>∃N,jr M' N∧mi N.length N∧(r.nb N.length&&Nat.ble M.length N.length)=true∧K r N) Kp):aa P g args M K Kp:=by
 unfold aa at*
 refine⟨h.1,fun ρ w hs aA=>Calls.mono (h.2 ρ w hs aA) fun e w' he=>?_⟩
 obtain⟨ρ',M',h1,h2,h3⟩:=he
 cases e with
 |returned v=>
  obtain⟨r,e1,e2,N,e3,e4,e5,e6⟩:=h3
  simp only[Bool.and_eq_true]at e5
  obtain⟨k1,k2⟩:=pW hs.n8 h1 h2 e3 e4 (by simpa using e5.2)
  exact⟨_,N,k1,k2,r,by rw[AV.Cm e5.1 e2];exact e1,AV.oE r e5.1 e2,e6⟩
 |panicked ch=>
  obtain⟨r,e1,e2,e3⟩:=h3
  exact⟨ρ',M',h1,h2,r,e1,e2,e3⟩
 |outgrown=>exact h3.elim
theorem WA.view {P:Program}{r:Option Nat}{D:List Deferred}{n:Nat}{c:Code}{Q:jm→AA→AH→Prop}{Kp:AV→AH→Prop}{l l':List (Nat×AV)}{a:AA}{M M':AH}
 (ha:v3 l a)(hk:l'.map (·.1)=l.map (·.1))(hv:Vw M M' (l.map (·.2)) (l'.map (·.2)))(h:∀d,WA P r D n c Q Kp (lS l' d) M'):WA P r D n c Q Kp a M:=by
 unfold WA at*
 intro pin D1 ρ w act mj Sb hs hA
 have aA:AV.dK ρ (l.map (·.2)):=by
  clear hk hv
  induction l with
  |nil=>trivial
  |cons x l ih=>exact⟨(show x.2.ok ρ from ha.1▸hA.ok _),ih ha.2⟩
 obtain⟨ρ',h1,h2,h3,h4⟩:=hv ρ w hs aA
 refine wpIn_mono (h (fun t=>act.tmps.getD t undef) pin D1 ρ' w act mj Sb h1 ⟨hA.defers,hA.size,fun t=>?_,fun t=>?_⟩) fun e aJ w' hq=>⟨hq.1.from h2 h1 (Marks.refl _ _ _),hq.2⟩
 ·simp only[lS]
  split
  ·rename_i v ph
   clear ha h3 hk hv h aA
   induction l' with
   |nil=>cases ph
   |cons y l' ih=>
    simp only[vX]at ph
    split at ph
    ·injection ph with ph;subst ph;exact h4.1
    ·exact ih h4.2 ph
  ·exact trivial
 ·simp only[lS]
  split
  ·rename_i v ph
   have hg:=hA.get t
   clear aA hv h h4
   induction l' generalizing l with
   |nil=>cases ph
   |cons y l' ih=>
    cases l with
    |nil=>cases hk
    |cons x l=>
     simp only[List.map_cons,List.cons.injEq]at hk
     simp only[List.map_cons,AV.cl,List.cons.injEq]at h3
     simp only[vX]at ph
     split at ph
     ·rename_i hb
      injection ph with ph;subst ph
      have ht:t=y.1:=Nat.eq_of_beq_eq_true hb
      have NF:=ha.1
      rw[h3.1,←NF,←hk.1,←ht];exact hg
     ·exact ih ha.2 hk.2 h3.2 ph
  ·rfl
end Go.Proofs.Ytibadaomjlkoaaa
