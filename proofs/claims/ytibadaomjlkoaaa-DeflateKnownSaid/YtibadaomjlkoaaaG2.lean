import Derived.Test.YtibadaomjlkoaaaG1
import Derived.OrdersIn
import Derived.Test.YtibadaomjlkoaaaAbI
import Derived.RangeFuncRecord
set_option linter.unusedVariables false
set_option linter.unusedSimpArgs false
open Go.RowKit
namespace Go.Proofs.Ytibadaomjlkoaaa
def FW (r:Option Nat):Fence:={fn:=fun _=>True,depth:=none,alive:=false,round:=r}
section
variable{r:Option Nat}{P:Program}{ops:Array Oper}{Q:Exit→Act→World→Prop}{S:World→Prop}{ds:List Nat}
def vf (r:Option Nat)(P:Program)(ops:Array Oper)(Q:Exit→Act→World→Prop)(o:Oper)(K:Act→World→Prop)(a:Act)(w:World):Prop:=
 if Region.wanted o (yielded ops a.tmps)=true then o.uponIn (FW r) 0 P a K Q ((execOp a.eval o).run P w)else K (a.put o.dst undef) w
def cm:Op→Bool
 | .defer _| .select ..=>false
 |_=>true
theorem vA {i:Nat}{o:Oper}{K:Act→World→Prop}{a:Act}{w:World}(hi:ops[i]?=some o)(hp:cm o.op=true)(h:vf r P ops Q o K a w):wpOpIn (FW r) 0 P ops Q i K a w:=by
 unfold wpOpIn vf at*
 simp only[hi]
 have hd:∀c,o.op≠ .defer c:=by intro c e;rw[e]at hp;cases hp
 split
 ·rename_i hw
  rw[if_pos hw]at h
  exact⟨fun _ _=>trivial,by rw[Oper.semAt_eq _ _ _ hd];exact h⟩
 ·rename_i hw
  rw[if_neg hw]at h
  exact⟨fun _ _=>trivial,h⟩
theorem y8 {o:Oper}{a:Act}{K K':Act→World→Prop}(h:∀a w,K a w→K' a w){res:Result Next}(hh:o.uponIn (FW r) 0 P a K Q res):o.uponIn (FW r) 0 P a K' Q res:=by
 cases res with
 |ok x w'=>
  cases x<;>simp only[Oper.uponIn]at hh⊢<;>
   first
    |exact h _ _ hh
    |exact⟨hh.1,CallsIn.mono hh.2 (fun e uQ he=>by cases e<;>first|exact h _ _ he|exact he)⟩
    |exact⟨hh.1,RowsIn.mono hh.2 (fun _ _ he=>h _ _ he)⟩
    |exact⟨hh.1,RoundIn.mono hh.2 (fun e uQ he=>by cases e<;>first|exact h _ _ he|exact he)⟩
 |halt x w'=>cases x<;>simp only[Oper.uponIn]at hh⊢<;>exact hh
theorem pC {o:Oper}{a:Act}{w:World}{K K':Act→World→Prop}(h:∀a w,K a w→K' a w)(hh:vf r P ops Q o K a w):vf r P ops Q o K' a w:=by
 unfold vf at*
 split
 ·rename_i hw;rw[if_pos hw]at hh;exact y8 h hh
 ·rename_i hw;rw[if_neg hw]at hh;exact h _ _ hh
def YI (P:Program)(ops:Array Oper)(S:World→Prop)(o:Oper)(v:Value)(a:Act):Prop:=
 (Region.wanted o (yielded ops a.tmps)=true∧∀w,S w→(execOp a.eval o).run P w=.ok (.value v) w)∨(Region.wanted o (yielded ops a.tmps)=false∧v=undef)
theorem YI.vf {o:Oper}{v:Value}{a:Act}(hy:YI P ops S o v a){K:Act→World→Prop}{w:World}(hS:S w)(h:K (a.put o.dst v) w):vf r P ops Q o K a w:=by
 unfold Ytibadaomjlkoaaa.vf
 rcases hy with⟨hw,hv⟩|⟨hw,rfl⟩
 ·rw[if_pos hw,hv w hS];exact h
 ·rw[if_neg (by rw[hw];simp)];exact h
theorem YI.same {o:Oper}{v:Value}{a a':Act}(hy:YI P ops S o v a)(he:execOp a'.eval o=execOp a.eval o)(hw:Region.wanted o (yielded ops a'.tmps)=Region.wanted o (yielded ops a.tmps)):YI P ops S o v a':=by
 unfold YI at*;rw[he,hw];exact hy
theorem D7 {oi oj:Oper}{v:Value}(oU:oi.apart ops oj=true)(Uo:cm oi.op=true)(Xm:cm oj.op=true)
 (hQ:∀c a w,Q (.panic c) (a.put oi.dst v) w→Q (.panic c) a w){K:Act→World→Prop}{a:Act}{w:World}
 (hy:YI P ops S oi v a)(h:vf r P ops Q oj K (a.put oi.dst v) w):
 vf r P ops Q oj (fun a' w'=>YI P ops S oi v a'∧K (a'.put oi.dst v) w') a w:=by
 obtain⟨h1,h2,h3⟩:=Oper.apart_spec oU
 have Yn:∀cs b,oi.op≠ .select cs b:=by intro cs b e;rw[e]at Uo;cases Uo
 have Ym:∀cs b,oj.op≠ .select cs b:=by intro cs b e;rw[e]at Xm;cases Xm
 have kV:∀(a:Act),YI P ops S oi v a→∀u,YI P ops S oi v (a.put oj.dst u):=fun a hy u=>
  hy.same (execOp_put oi Yn a oj.dst u h3) (wanted_put oi a oj.dst u h3)
 have Rr:∀d,YI P ops S oi v {a with defers:=d::a.defers}:=fun d=>hy.same rfl rfl
 unfold Ytibadaomjlkoaaa.vf at*
 rw[wanted_put oj a oi.dst v h1]at h
 split
 ·rename_i hw
  rw[if_pos hw,execOp_put oj Ym a oi.dst v h1]at h
  generalize(execOp a.eval oj).run P w=res at*
  cases res with
  |ok x w'=>
   cases x<;>simp only[Oper.uponIn]at h⊢
   case value u=>exact⟨kV a hy u,by rw[←Act.put_comm a v u h2];exact h⟩
   case skip=>exact⟨kV a hy _,by rw[←Act.put_comm a v undef h2];exact h⟩
   case defer d=>
    refine⟨kV _ (Rr d) _,?_⟩
    rw[←Act.put_comm _ v undef h2,←Act.put_defers]
    exact h
   case enter f args=>
    refine⟨h.1,CallsIn.mono h.2 fun e uQ he=>?_⟩
    cases e with
    |returned u=>exact⟨kV a hy u,by rw[←Act.put_comm a v u h2];exact he⟩
    |panicked c=>exact hQ _ _ _ he
    |outgrown=>exact he
   case row row args=>exact⟨h.1,RowsIn.mono h.2 fun u uQ he=>⟨kV a hy u,by rw[←Act.put_comm a v u h2];exact he⟩⟩
   case round l f tmps assign body=>
    refine⟨h.1,RoundIn.mono h.2 fun e uQ he=>?_⟩
    cases e with
    |returned u=>exact⟨kV a hy u,by rw[←Act.put_comm a v u h2];exact he⟩
    |panicked c=>exact hQ _ _ _ he
    |outgrown=>exact he
  |halt x w'=>
   cases x<;>simp only[Oper.uponIn]at h⊢
   case panic u=>exact hQ _ _ _ h
 ·rename_i hw
  rw[if_neg hw]at h
  exact⟨kV a hy _,by rw[←Act.put_comm a v undef h2];exact h⟩
def anyS (r:Option Nat)(P:Program)(ops:Array Oper)(Q:Exit→Act→World→Prop)(S:World→Prop)(ds:List Nat):Nat→Array Bool→Act→World→Prop
 |0,l,a,w=>Region.ready .any ops l=[]∧Q .normal a w
 |f+1,l,a,w=>(Region.ready .any ops l=[]→Q .normal a w)∧∀i∈Region.ready .any ops l,∀o,ops[i]?=some o→
   vf r P ops Q o (fun a' w'=>(i∉ds→w'=w∨S w')∧anyS r P ops Q S ds f (l.setIfInBounds i true) a' w') a w
theorem dv (hp:∀(i:Nat) o,ops[i]?=some o→cm o.op=true):∀(f:Nat)(l:Array Bool)(a:Act)(w:World),anyS r P ops Q S ds f l a w→wpAnyIn (FW r) 0 P .any ops Q f l a w
 |0,_,_,_,h=>h
 |f+1,l,a,w,h=>⟨h.1,fun i hi=>by
   obtain⟨_,o,ho,_⟩:=mem_ready.1 hi
   exact vA ho (hp i o ho) (pC (fun a' w' h'=>dv hp f _ a' w' h'.2) (h.2 i hi o ho))⟩
theorem fY {S':World→Prop}(hw:∀w,S w→S' w):∀(f:Nat)(l:Array Bool)(a:Act)(w:World),anyS r P ops Q S ds f l a w→anyS r P ops Q S' ds f l a w
 |0,_,_,_,h=>h
 |f+1,l,a,w,h=>⟨h.1,fun i hi o ho=>pC (fun a' w' h'=>⟨fun hd=>(h'.1 hd).imp id (hw w'),fY hw f _ a' w' h'.2⟩) (h.2 i hi o ho)⟩
def waits (ops:Array Oper)(i:Nat):Nat→Nat→Bool
 |0,_=>false
 |f+1,d=>match ops[d]? with
  |some o=>o.after.any fun e=>Region.binds .any e&&(e.on==i||waits ops i f e.on)
  |none=>false
def iS (ops:Array Oper)(l:Array Bool):Prop:=∀j o,ops[j]?=some o→l.getD j false=true→∀e∈o.after,Region.binds .any e=true→l.getD e.on false=true
theorem iS.set {ops:Array Oper}{l:Array Bool}{i:Nat}(h:iS ops l)(hi:i∈Region.ready .any ops l):iS ops (l.setIfInBounds i true):=by
 obtain⟨_,oi,Yw,hall⟩:=mem_ready.1 hi
 intro j oj hj hl e he hb
 by_cases rq:i=j
 ·subst rq
  rw[Yw]at hj;injection hj with hj;subst hj
  exact getD_set_true (hall e he hb)
 ·rw[getD_set_ne false rq]at hl
  exact getD_set_true (h j oj hj hl e he hb)
theorem iS.none {ops:Array Oper}{n:Nat}:iS ops (Array.replicate n false):=by
 intro j o _ hl
 simp only[Array.getD_eq_getD_getElem?,Array.getElem?_replicate]at hl
 split at hl<;>cases hl
theorem lf {i:Nat}{l:Array Bool}(EB:iS ops l):
 ∀(f d:Nat),waits ops i f d=true→l.getD i true=false→l.getD d false=true→False
 |0,_,h,_,_=>by cases h
 |f+1,d,h,hi,hl=>by
  unfold waits at h
  cases ho:ops[d]? with
  |none=>rw[ho]at h;cases h
  |some o=>
   rw[ho]at h
   obtain⟨e,he,h1⟩:=Array.any_eq_true'.1 h
   simp only[Bool.and_eq_true,Bool.or_eq_true,beq_iff_eq]at h1
   have hle:=EB d o ho hl e he h1.1
   rcases h1.2 with h2|h2
   ·rw[h2]at hle
    rcases Nat.lt_or_ge i l.size with h'|h'
    ·simp[h']at hi hle;rw[hi]at hle;cases hle
    ·simp[Array.getElem?_eq_none h']at hle
   ·exact lf EB f e.on h2 hi hle
theorem yZ {i:Nat}{l:Array Bool}(hc:iS ops l):∀(f:Nat){d:Nat},waits ops i f d=true→l.getD i true=false→d∈Region.ready .any ops l→False
 |0,_,h,_,_=>by cases h
 |f+1,d,h,hi,hd=>by
  obtain⟨_,o,ho,hall⟩:=mem_ready.1 hd
  unfold waits at h
  rw[ho]at h
  obtain⟨e,he,h1⟩:=Array.any_eq_true'.1 h
  simp only[Bool.and_eq_true,Bool.or_eq_true,beq_iff_eq]at h1
  have hle:=hall e he h1.1
  rcases h1.2 with h2|h2
  ·rw[h2]at hle
   rcases Nat.lt_or_ge i l.size with h'|h'
   ·simp[h']at hi hle;rw[hi]at hle;cases hle
   ·simp[Array.getElem?_eq_none h']at hle
  ·exact lf hc f e.on h2 hi hle
theorem ki {i:Nat}{oi:Oper}{v:Value}(hi:ops[i]?=some oi)(hp:∀(i:Nat) o,ops[i]?=some o→cm o.op=true)
 (hQ:∀c a w,Q (.panic c) (a.put oi.dst v) w→Q (.panic c) a w):
 ∀(f:Nat)(l:Array Bool)(a:Act)(w:World),
  (∀j oj,ops[j]?=some oj→j≠i→l.getD j true=false→(∀e∈oj.after,Region.binds .any e=true→e.on≠i)→oi.apart ops oj=true)→
  iS ops l→(∀d∈ds,l.getD d true=false→waits ops i ops.size d=true)→
  i∈Region.ready .any ops l→YI P ops S oi v a→S w→
  anyS r P ops Q S ds f (l.setIfInBounds i true) (a.put oi.dst v) w→anyS r P ops Q S ds (f+1) l a w:=by
 intro f
 induction f with
 |zero=>
  intro l a w _ _ _ hr hy hS H
  refine⟨fun h=>(by rw[h]at hr;cases hr),fun j hj o ho=>?_⟩
  by_cases fC:j=i
  ·subst fC
   rw[hi]at ho;injection ho with ho;subst ho
   exact hy.vf hS ⟨fun _=>.inl rfl,H⟩
  ·have:=ready_mono hj fC
   rw[H.1]at this
   cases this
 |succ f ih=>
  intro l a w jr hc hd hr hy hS H
  refine⟨fun h=>(by rw[h]at hr;cases hr),fun j hj oj uS=>?_⟩
  by_cases fC:j=i
  ·subst fC
   rw[hi]at uS;injection uS with uS;subst uS
   exact hy.vf hS ⟨fun _=>.inl rfl,H⟩
  ·have h1:=H.2 j (ready_mono hj fC) oj uS
   obtain⟨BZ,X8,yh,hall⟩:=mem_ready.1 hj
   rw[uS]at yh;injection yh with yh;subst yh
   have F9:=(mem_ready.1 hr).1
   have Px:∀e∈oj.after,Region.binds .any e=true→e.on≠i:=fun e he hb heq=>by
    have h1:=hall e he hb
    rw[heq]at h1
    rcases Nat.lt_or_ge i l.size with h'|h'
    ·simp[h']at F9 h1;rw[F9]at h1;cases h1
    ·simp[Array.getElem?_eq_none h']at h1
   have YH:j∉ds:=fun hm=>yZ hc ops.size (hd j hm BZ) F9 hj
   have h2:=D7 (jr j oj uS fC BZ Px) (hp i oi hi) (hp j oj uS) hQ hy h1
   refine pC (fun a' w' h3=>⟨h3.2.1,ih (l.setIfInBounds j true) a' w' ?_ (hc.set hj) ?_ (ready_mono hr (Ne.symm fC)) h3.1 ((h3.2.1 YH).elim (fun e=>e▸hS) id) ?_⟩) h2
   ·intro k ok hk Ut jq rl
    refine jr k ok hk Ut ?_ rl
    by_cases Iw:j=k
    ·subst Iw;exact BZ
    ·rw[getD_set_ne true Iw]at jq;exact jq
   ·intro d hm jq
    refine hd d hm ?_
    by_cases Iw:j=d
    ·subst Iw;exact BZ
    ·rw[getD_set_ne true Iw]at jq;exact jq
   ·rw[Array.setIfInBounds_comm _ _ fC]
    exact h3.2.2
end
end Go.Proofs.Ytibadaomjlkoaaa
open Go.RowKit
namespace Go.Proofs.Ytibadaomjlkoaaa
abbrev AA:=Nat→AV
def AA.put (n:Nat)(a:AA)(d:Option Nat)(v:AV):AA:=
 match d with
 |none=>a
 |some t=>fun k=>match Nat.beq k t&&Nat.blt t n with
  |true=>v
  |false=>a k
def oV (a:AA):Operand→AV
 | .tmp t=>a t
 | .const v=>Rk v
 | .global g=>.raw (.pointer (some ⟨g,0,none⟩))
 | .func f=>.fn (.func f) [] []
structure bs (ρ:Env)(D:List Deferred)(n:Nat)(a:AA)(act:Act):Prop where
 defers:act.defers=D
 size:act.tmps.size=n
 ok:∀t,(a t).ok ρ
 get:∀t,act.tmps.getD t undef=(a t).c ρ
theorem bs.ev {ρ:Env}{D:List Deferred}{n:Nat}{a:AA}{act:Act}(h:bs ρ D n a act):T8 ρ (oV a) act.eval:=by
 intro x
 cases x with
 |tmp t=>exact⟨h.get t,h.ok t⟩
 |const v=>exact⟨(Rj ρ v).symm,OL ρ v⟩
 |global g=>exact⟨rfl,trivial⟩
 |func f=>exact⟨rfl,⟨trivial,trivial⟩⟩
theorem bs.ext {ρ ρ':Env}{D:List Deferred}{n:Nat}{a:AA}{act:Act}(h:bs ρ D n a act)(he:∀i g l,ρ i g=some l→ρ' i g=some l):bs ρ' D n a act:=
 ⟨h.defers,h.size,fun t=>AV.cy he _ (h.ok t),fun t=>by rw[AV.cW he _ (h.ok t)];exact h.get t⟩
theorem bs.put {ρ:Env}{D:List Deferred}{n:Nat}{a:AA}{act:Act}(h:bs ρ D n a act)(d:Option Nat){v:AV}(hv:v.ok ρ):bs ρ D n (a.put n d v) (act.put d (v.c ρ)):=by
 cases d with
 |none=>exact h
 |some t=>
  refine⟨h.defers,by simp[Act.put,h.size],fun k=>?_,fun k=>?_⟩
  ·simp only[AA.put];split
   ·exact hv
   ·exact h.ok k
  ·simp only[AA.put,Act.put]
   split
   ·rename_i hb
    simp only[Bool.and_eq_true]at hb
    have e1:k=t:=Nat.eq_of_beq_eq_true hb.1
    have e2:t<n:=by simpa using hb.2
    subst e1
    simp[Array.getD_eq_getD_getElem?,h.size,e2]
   ·rename_i hb
    have hg:=h.get k
    by_cases hk:k=t
    ·subst hk
     have:¬k<n:=by
      intro aZ
      have e1:Nat.beq k k=true:=Nat.beq_refl k
      have e2:Nat.blt k n=true:=by simpa using aZ
      rw[e1,e2]at hb;cases hb
     rw[←hg]
     simp[Array.getD_eq_getD_getElem?,h.size,this]
    ·rw[←hg]
     simp[Array.getD_eq_getD_getElem?,Array.getElem?_setIfInBounds_ne (Ne.symm hk)]
def nU (P:Program)(g:Nat):Bool:=
 match P.funcs[g]? with
 |some fn=>fn.body.isSome&&!(fn.name=="runtime.NumGoroutine")
 |none=>false
theorem nr {P:Program}{g:Nat}(h:nU P g=true)(args:Array Value)(w:World):(callFunc g args).run P w=.ok (.enter g args) w:=by
 unfold nU at h
 split at h
 ·rename_i fn VR
  simp only[Bool.and_eq_true,Bool.not_eq_true']at h
  have hn:fn.name≠"runtime.NumGoroutine":=by have:=h.2;simpa using this
  have hb:fn.body≠none:=by intro e;rw[e]at h;exact absurd h.1 (by simp)
  simp[callFunc,VR,hn,hb]
 ·cases h
def gV (ρ:Env)(M:AH)(w:World)(K:AV→AH→Prop)(Kp:AV→AH→Prop)(e:Ending)(w':World):Prop:=
 ∃ρ' M',aR ρ' M' w'∧Ext ρ M w ρ' M' w'∧match e with
  | .returned v=>∃r,v=r.c ρ'∧r.ok ρ'∧K r M'
  | .panicked ch=>∃r,ch=[{v:=r.c ρ',recovered:=false}]∧r.ok ρ'∧Kp r M'
  | .outgrown=>False
@[irreducible] def aa (P:Program)(g:Nat)(args:List AV)(M:AH)(K:AV→AH→Prop)(Kp:AV→AH→Prop):Prop:=
  nU P g=true∧∀ρ w,aR ρ M w→AV.dC ρ args→Calls P g (AV.cl ρ args).toArray w (gV ρ M w K Kp)
@[irreducible] def aL (P:Program)(l:Nat)(args:List AV)(M:AH)(K:AV→AH→Prop)(Kp:AV→AH→Prop):Prop:=
  ∀ρ w,aR ρ M w→AV.dC ρ args→∃f tmps as bd,(Instr.yield l (AV.cl ρ args).toArray).run P w=.ok (.round l f tmps as bd) w∧∀r,RoundIn (FW r) 0 P l f tmps as bd w (gV ρ M w K Kp)
def Gq (P:Program)(T:List TI)(wr:Bool)(M:AH)(e:Operand→AV)(o:Op)(K:AV→AH→Prop)(Kp:AV→AH→Prop):Prop:=
 match o with
 | .store t a v=>Bf T M t (e a) (e v) fun M'=>K (.aG []) M'
 | .load t a=>pL T M t (e a) fun v=>K v M
 | .alloc t=>Dw T M t K
 | .box t x=>Qi M (e x) K
 | .buildSlice t len parts=>eX T M t len (parts.toList.map (·.1)) (parts.toList.map fun x=>e x.2) K
 | .makeSlice t l c=>fz T M t (e l) (e c) K
 | .call ⟨.builtin .append,args,ic⟩=>match args.toList,ic.toList with
   |[d,x],[tS,tX]=>match BK T tX with
    |true=>uM T M tS (e d) (e x) K
    |false=>yL T M tS tX (e d) (e x) K
   |_,_=>False
 | .call ⟨.builtin .copy,args,ic⟩=>match args.toList,ic.toList with
   |[d,x],[tD,tS]=>I7 T M tD tS (e d) (e x) K
   |_,_=>False
 | .call ⟨.builtin .len,args,ic⟩=>match args.toList,ic.toList with
   |[x],[t]=>match e x with
    | .mp i g=>na T M t (.mp i g) fun v=>K v M
    |_=>iy T wr M e (.call ⟨.builtin .len,args,ic⟩) fun v=>K v M
   |_,_=>False
 | .makeMap t none=>tq T M t K
 | .lookup t x ix ok=>wz T M t (e x) (e ix) ok fun v=>K v M
 | .mapUpdate t m k x=>JT T M t (e m) (e k) (e x) fun M'=>K (.aG []) M'
 | .insert t m k x=>JT T M t (e m) (e k) (e x) fun M'=>K (.aG []) M'
 | .call ⟨.value f,args,_⟩=>match e f with
   | .fn (.func g) first cap=>aa P g (first++args.toList.map e++cap) M K Kp
   | .fn (.yield l) [] []=>aL P l (args.toList.map e) M K Kp
   |_=>False
 | .call ⟨.invoke recv name,args,_⟩=>match e recv with
   | .iU t v=>xg P T M t name v fun g r=>aa P g (r::args.toList.map e) M K Kp
   |_=>False
 | .panic x=>match e x with
   | .iU t v=>Kp (.iU t v) M
   |_=>False
 | .convert src dst x=>match e x with
   | .ns=>n5 T M src dst .ns fun v=>K v M
   | .sl i g off n c=>match Nat.beq src dst with
     |true=>xE T M src dst i g off n c K
     |false=>n5 T M src dst (.sl i g off n c) fun v=>K v M
   | .str s=>match H6 T src dst with
     |true=>Ck T M src dst s K
     |false=>iy T wr M e (.convert src dst x) fun v=>K v M
   |_=>iy T wr M e (.convert src dst x) fun v=>K v M
 |o=>iy T wr M e o fun v=>K v M
theorem uD {P:Program}{f:FuncId}{args:Array Value}{w:World}{R:Ending→World→Prop}(r:Option Nat)(n:Nat)(h:Calls P f args w R):CallsIn (FW r) n P f args w R:=
 ⟨trivial,fun cs _=>let⟨e,w',fr,hr,s,x⟩:=h cs;⟨e,w',fr,hr,comesIn_wide.2 s,x⟩⟩
section
variable{P:Program}{T:List TI}{r:Option Nat}{Q:Exit→Act→World→Prop}
theorem yA {ρ:Env}{e:Operand→AV}{v:Operand→Value}(he:T8 ρ e v)(l:List Operand):l.map v=AV.cl ρ (l.map e)∧AV.dC ρ (l.map e):=by
 constructor
 ·rw[AV.aU,List.map_map]
  exact List.map_congr_left fun z _=>(he z).1
 ·rw[AV.aJ]
  intro z hz
  obtain⟨y,_,rfl⟩:=List.mem_map.1 hz
  exact(he y).2
theorem iB {ρ:Env}{l l':List AV}(h:AV.dC ρ l)(h':AV.dC ρ l'):AV.dC ρ (l++l'):=by
 rw[AV.aJ]at*
 intro v hv
 rcases List.mem_append.1 hv with hv|hv
 ·exact h v hv
 ·exact h' v hv
theorem fI (ρ:Env)(l l':List AV):AV.cl ρ (l++l')=AV.cl ρ l++AV.cl ρ l':=by simp[AV.aU]
set_option maxHeartbeats 1000000 in
theorem uj (hT:ao P T){wr:Bool}{M:AH}{e:Operand→AV}{o:Oper}{K Kp:AV→AH→Prop}{ρ:Env}{w:World}{act:Act}(hs:aR ρ M w)(he:T8 ρ e act.eval)
 (h:Gq P T wr M e o.op K Kp){K':Act→World→Prop}
 (hK:∀rv M' ρ' w',K rv M'→rv.ok ρ'→aR ρ' M' w'→Ext ρ M w ρ' M' w'→K' (act.put o.dst (rv.c ρ')) w')
 (hP:∀rv M' ρ' w',Kp rv M'→rv.ok ρ'→aR ρ' M' w'→Ext ρ M w ρ' M' w'→Q (.panic [{v:=rv.c ρ',recovered:=false}]) act w'):
 o.uponIn (FW r) 0 P act K' Q ((execOp act.eval o).run P w):=by
 obtain⟨dst,op,ty,pos,after,guard⟩:=o
 simp only at h hK
 have val:∀{s:Sem Value}{v M' ρ' w'},s.run P w=.ok (v.c ρ') w'→K v M'→v.ok ρ'→aR ρ' M' w'→Ext ρ M w ρ' M' w'→
  Oper.uponIn (FW r) 0 P {dst,op,type:=ty,pos,after,guard} act K' Q ((do pure (.value (←s)):Sem Next).run P w):=by
  intro s v M' ρ' w' h1 h2 h3 h4 h5
  rw[show(do pure (.value (←s)):Sem Next).run P w=.ok (.value (v.c ρ')) w' by simp[h1]]
  exact hK v M' ρ' w' h2 h3 h4 h5
 unfold Gq at h
 split at h
 ·rename_i t a v
  obtain⟨M',w',h1,h2,h3,h4⟩:=xv (P:=P) hT hs (he v).2 h
  rw[←(he a).1,←(he v).1]at h1
  have:(execOp act.eval {dst,op:=.store t a v,type:=ty,pos,after,guard}).run P w=.ok .skip w':=by simp[execOp,h1]
  rw[this]
  exact hK (.aG []) M' ρ w' h2 trivial h3 h4
 ·rename_i t a
  obtain⟨v,h1,h2,h3⟩:=fV (P:=P) hT hs.known (hs.id _) h
  have h4:=h3 w (hs.id _)
  rw[←(he a).1]at h4
  exact val h4 h1 h2 hs (Ext.refl _ _ _)
 ·rename_i t
  obtain⟨v,M',ρ',w',h1,h2,h3,h4,h5⟩:=yM (P:=P) hT hs h
  exact val h1 h2 h3 h4 h5
 ·rename_i t x
  obtain⟨v,M',ρ',w',h1,h2,h3,h4,h5⟩:=Cl (P:=P) (t:=t) hs (he x).2 h
  rw[←(he x).1]at h1
  exact val h1 h2 h3 h4 h5
 ·rename_i t len parts
  obtain⟨v,M',ρ',w',h1,h2,h3,h4,h5⟩:=pT (P:=P) hT hs (by rw[AV.aJ];intro z hz;obtain⟨y,_,rfl⟩:=List.mem_map.1 hz;exact(he y.2).2) h
  have e1:(parts.map fun(i,x)=>(i,act.eval x))=((parts.toList.map (·.1)).zip ((parts.toList.map fun x=>e x.2).map (AV.c ρ))).toArray:=by
   apply Array.toList_inj.1
   rw[Array.toList_map,List.toList_toArray,List.map_map]
   have:∀l:List (Nat×Operand),l.map (fun(i,x)=>(i,act.eval x))=(l.map (·.1)).zip (l.map ((AV.c ρ)∘fun x=>e x.2)):=by
    intro l
    induction l with
    |nil=>rfl
    |cons p l ih=>simp[ih,(he p.2).1]
   exact this _
  rw[←e1]at h1
  exact val h1 h2 h3 h4 h5
 ·rename_i t l c
  obtain⟨v,M',ρ',w',h1,h2,h3,h4,h5⟩:=qu (P:=P) hT hs h
  rw[←(he l).1,←(he c).1]at h1
  exact val h1 h2 h3 h4 h5
 ·rename_i args ic
  split at h
  ·rename_i d x tS tX B2 A1
   obtain rfl:args=#[d,x]:=by apply Array.toList_inj.1;simpa using B2
   obtain rfl:ic=#[tS,tX]:=by apply Array.toList_inj.1;simpa using A1
   split at h
   ·rename_i hX
    obtain⟨v,M',ρ',w',h1,h2,h3,h4,h5⟩:=uL (P:=P) (ty:=ty) hT hs hX h
    rw[←(he d).1,←(he x).1]at h1
    have:=val h1 h2 h3 h4 h5
    simpa[execOp,resolve,invoke,builtin]using this
   ·obtain⟨v,M',ρ',w',h1,h2,h3,h4,h5⟩:=vu (P:=P) (ty:=ty) hT hs (he d).2 h
    rw[←(he d).1,←(he x).1]at h1
    have:=val h1 h2 h3 h4 h5
    simpa[execOp,resolve,invoke,builtin]using this
  ·exact h.elim
 ·rename_i args ic
  split at h
  ·rename_i d x tD tS B2 A1
   obtain rfl:args=#[d,x]:=by apply Array.toList_inj.1;simpa using B2
   obtain rfl:ic=#[tD,tS]:=by apply Array.toList_inj.1;simpa using A1
   obtain⟨v,M',w',h1,h2,h3,h4,h5⟩:=Au (P:=P) (ty:=ty) hT hs h
   rw[←(he d).1,←(he x).1]at h1
   have:=val h1 h2 h3 h4 h5
   simpa[execOp,resolve,invoke,builtin]using this
  ·exact h.elim
 ·rename_i args ic
  split at h
  ·rename_i x t B2 A1
   obtain rfl:args=#[x]:=by apply Array.toList_inj.1;simpa using B2
   obtain rfl:ic=#[t]:=by apply Array.toList_inj.1;simpa using A1
   split at h
   ·rename_i i g hx
    obtain⟨v,h1,h2,_,h3⟩:=nR (P:=P) (ty:=ty) hT hs.known h
    have h4:=h3 w (hs.id _)
    rw[←hx,←(he x).1]at h4
    have:=val h4 h1 h2 hs (Ext.refl _ _ _)
    simpa[execOp,resolve,invoke,builtin]using this
   ·obtain⟨v,h1,h2,h3⟩:=eT (P:=P) (o:={dst,op:=.call ⟨.builtin .len,#[x],#[t]⟩,type:=ty,pos,after,guard}) hT hs.known he h
    rw[h3 w]
    exact hK v M ρ w h1 h2 hs (Ext.refl _ _ _)
  ·exact h.elim
 ·rename_i t
  obtain⟨v,M',ρ',w',h1,h2,h3,h4,h5⟩:=tp (P:=P) hT hs h
  exact val h1 h2 h3 h4 h5
 ·rename_i t x ix ok
  obtain⟨v,h1,h2,_,h3⟩:=re (P:=P) hT hs.known (hs.id _) h
  have h4:=h3 w (hs.id _)
  rw[←(he x).1,←(he ix).1]at h4
  exact val h4 h1 h2 hs (Ext.refl _ _ _)
 ·rename_i t m k x
  obtain⟨M',w',h1,h2,h3,h4⟩:=sq (P:=P) hT hs (he x).2 h
  rw[←(he m).1,←(he k).1,←(he x).1]at h1
  have:(execOp act.eval {dst,op:=.mapUpdate t m k x,type:=ty,pos,after,guard}).run P w=.ok .skip w':=by simp[execOp,h1]
  rw[this]
  exact hK (.aG []) M' ρ w' h2 trivial h3 h4
 ·rename_i t m k x
  obtain⟨M',w',h1,h2,h3,h4⟩:=sq (P:=P) hT hs (he x).2 h
  rw[←(he m).1,←(he k).1,←(he x).1]at h1
  have:(execOp act.eval {dst,op:=.insert t m k x,type:=ty,pos,after,guard}).run P w=.ok .skip w':=by simp[execOp,h1]
  rw[this]
  exact hK (.aG []) M' ρ w' h2 trivial h3 h4
 ·rename_i f args ic
  split at h
  ·rename_i g first cap hf
   unfold aa at h
   obtain⟨hg,h⟩:=h
   have A7:=(he f).1
   have wK:=(he f).2
   rw[hf]at A7 wK
   simp only[AV.ok]at wK
   obtain⟨e1,o1⟩:=yA he args.toList
   have ly:=h ρ w hs (iB (iB wK.1 o1) wK.2)
   rw[fI,fI,←e1]at ly
   have aQ:(execOp act.eval {dst,op:=.call ⟨.value f,args,ic⟩,type:=ty,pos,after,guard}).run P w=.ok (.enter g (AV.cl ρ first++args.toList.map act.eval++AV.cl ρ cap).toArray) w:=by
    have e2:((AV.cl ρ first).toArray++args.map act.eval++(AV.cl ρ cap).toArray)=(AV.cl ρ first++args.toList.map act.eval++AV.cl ρ cap).toArray:=by
     apply Array.toList_inj.1;simp
    simp only[execOp,resolve,Sem.run_bind,A7,AV.c,Deferred.ofValue,Sem.run_pure,Result.andThen_ok,invoke]
    rw[e2]
    exact nr hg _ w
   rw[aQ]
   refine⟨(fun h=>by cases h),CallsIn.mono (uD r _ ly) fun en w' Na=>?_⟩
   obtain⟨ρ',M',h1,h2,h3⟩:=Na
   cases en with
   |returned v=>obtain⟨rv,rfl,h4,h5⟩:=h3;exact hK rv M' ρ' w' h5 h4 h1 h2
   |panicked ch=>obtain⟨rv,rfl,h4,h5⟩:=h3;exact hP rv M' ρ' w' h5 h4 h1 h2
   |outgrown=>exact h3.elim
  ·rename_i l hf
   unfold aL at h
   have A7:=(he f).1
   rw[hf]at A7
   obtain⟨e1,o1⟩:=yA he args.toList
   obtain⟨g,tmps,as,bd,hy,Pn⟩:=h ρ w hs o1
   rw[←e1]at hy
   have aQ:(execOp act.eval {dst,op:=.call ⟨.value f,args,ic⟩,type:=ty,pos,after,guard}).run P w=.ok (.round l g tmps as bd) w:=by
    have e2:(#[]++args.map act.eval:Array Value)=(args.toList.map act.eval).toArray:=by
     apply Array.toList_inj.1;simp
    simp only[execOp,resolve,Sem.run_bind,A7,AV.c,AV.cl,Deferred.ofValue,Sem.run_pure,Result.andThen_ok,invoke]
    rw[e2];exact hy
   rw[aQ]
   refine⟨(fun h=>by cases h),RoundIn.mono (Pn r) fun en w' Na=>?_⟩
   obtain⟨ρ',M',h1,h2,h3⟩:=Na
   cases en with
   |returned v=>obtain⟨rv,rfl,h4,h5⟩:=h3;exact hK rv M' ρ' w' h5 h4 h1 h2
   |panicked ch=>obtain⟨rv,rfl,h4,h5⟩:=h3;exact hP rv M' ρ' w' h5 h4 h1 h2
   |outgrown=>exact h3.elim
  ·exact h.elim
 ·rename_i recv name args ic
  split at h
  ·rename_i t v hx
   have Ib:=(he recv).1
   have Rx:v.ok ρ:=by have:=(he recv).2;rw[hx]at this;exact this
   rw[hx]at Ib
   simp only[AV.c]at Ib
   obtain⟨g,UN,h,Yq,Sm⟩:=AY hT hs Rx h
   unfold aa at h
   obtain⟨hg,h⟩:=h
   obtain⟨e1,o1⟩:=yA he args.toList
   have ly:=h ρ w hs ⟨Yq,o1⟩
   simp only[AV.cl,←e1]at ly
   have aQ:(execOp act.eval {dst,op:=.call ⟨.invoke recv name,args,ic⟩,type:=ty,pos,after,guard}).run P w=.ok (.enter g (UN.c ρ::args.toList.map act.eval).toArray) w:=by
    have e2:((#[act.eval recv]++args.map act.eval).extract 1 (#[act.eval recv]++args.map act.eval).size)=args.map act.eval:=by
     apply Array.toList_inj.1;simp
     exact List.take_of_length_le (by simp)
    have e3:(#[UN.c ρ]++args.map act.eval)=(UN.c ρ::args.toList.map act.eval).toArray:=by
     apply Array.toList_inj.1;simp
    have e4:(#[act.eval recv]++args.map act.eval)[0]?=some (act.eval recv):=by rw[←Array.getElem?_toList];simp
    have e5:(execOp act.eval {dst,op:=.call ⟨.invoke recv name,args,ic⟩,type:=ty,pos,after,guard}).run P w=(invoke (.fn (.method name) #[]) (#[act.eval recv]++args.map act.eval)).run P w:=rfl
    rw[e5]
    simp only[invoke]
    cases h0:(#[act.eval recv]++args.map act.eval)[0]? with
    |none=>rw[e4]at h0;cases h0
    |some WW=>
    rw[e4]at h0
    cases h0
    simp only[e2]
    rw[Ib,Sm,e3]
    exact nr hg _ w
   rw[aQ]
   refine⟨(fun h=>by cases h),CallsIn.mono (uD r _ ly) fun en w' Na=>?_⟩
   obtain⟨ρ',M',h1,h2,h3⟩:=Na
   cases en with
   |returned v=>obtain⟨rv,rfl,h4,h5⟩:=h3;exact hK rv M' ρ' w' h5 h4 h1 h2
   |panicked ch=>obtain⟨rv,rfl,h4,h5⟩:=h3;exact hP rv M' ρ' w' h5 h4 h1 h2
   |outgrown=>exact h3.elim
  ·exact h.elim
 ·rename_i x
  split at h
  ·rename_i t v hx
   have Ib:=(he x).1
   rw[hx]at Ib
   have:(execOp act.eval {dst,op:=.panic x,type:=ty,pos,after,guard}).run P w=.halt (.panic ((AV.iU t v).c ρ)) w:=by
    simp[execOp,Ib,AV.c,Instr.panic]
   rw[this]
   exact hP (.iU t v) M ρ w h (by rw[←hx];exact(he x).2) hs (Ext.refl _ _ _)
  ·exact h.elim
 ·rename_i src SR x
  split at h
  ·rename_i hx
   obtain⟨v,h1,h2,_,h3⟩:=kv (P:=P) hT hs.known h
   have h4:=h3 w (hs.id _)
   rw[←hx,←(he x).1]at h4
   exact val h4 h1 h2 hs (Ext.refl _ _ _)
  ·rename_i i g off n c hx
   split at h
   ·obtain⟨v,M',ρ',w',h1,h2,h3,h4,h5⟩:=u5 (P:=P) hT hs h
    rw[←hx,←(he x).1]at h1
    exact val h1 h2 h3 h4 h5
   ·obtain⟨v,h1,h2,_,h3⟩:=kv (P:=P) hT hs.known h
    have h4:=h3 w (hs.id _)
    rw[←hx,←(he x).1]at h4
    exact val h4 h1 h2 hs (Ext.refl _ _ _)
  ·rename_i s hx
   split at h
   ·obtain⟨v,M',ρ',w',h1,h2,h3,h4,h5⟩:=yC (P:=P) hT hs h
    have Ib:=(he x).1
    rw[hx]at Ib
    simp only[AV.c]at Ib
    rw[←Ib]at h1
    exact val h1 h2 h3 h4 h5
   ·obtain⟨v,h1,h2,h3⟩:=eT (P:=P) (o:={dst,op:=.convert src SR x,type:=ty,pos,after,guard}) hT hs.known he h
    rw[h3 w]
    exact hK v M ρ w h1 h2 hs (Ext.refl _ _ _)
  ·obtain⟨v,h1,h2,h3⟩:=eT (P:=P) (o:={dst,op:=.convert src SR x,type:=ty,pos,after,guard}) hT hs.known he h
   rw[h3 w]
   exact hK v M ρ w h1 h2 hs (Ext.refl _ _ _)
 ·obtain⟨v,h1,h2,h3⟩:=eT (P:=P) (o:={dst,op,type:=ty,pos,after,guard}) hT hs.known he h
  rw[h3 w]
  exact hK v M ρ w h1 h2 hs (Ext.refl _ _ _)
end
def kX (n:Nat)(ops:Array Oper)(o:Oper)(a:AA)(run skip:AA→Prop):Prop:=
 match o.guard with
 |none=>run a
 |some (j,want)=>match ops[j]? with
  |some oj=>match oj.dst with
   |some t=>match a t with
    | .tt=>match want with
      |true=>run a
      |false=>skip a
    | .ff=>match want with
      |true=>skip a
      |false=>run a
    | .bo x=>match want with
      |true=>(x=true→run (a.put n (some t) .tt))∧(x=false→skip (a.put n (some t) .ff))
      |false=>(x=true→skip (a.put n (some t) .tt))∧(x=false→run (a.put n (some t) .ff))
    | .aG []=>skip a
    |_=>False
   |none=>False
  |none=>False
def de (l:List Nat)(t:Option Nat):Bool:=
 match t with
 |none=>false
 |some t=>match l with
  |[]=>false
  |x::l=>Nat.beq x t||de l (some t)
def lP (P:Program)(T:List TI)(n:Nat)(W:List Nat)(ops:Array Oper)(o:Oper)(a:AA)(M:AH)(K:AA→AH→Prop)(Kp:AV→AH→Prop):Prop:=
 bp (cm o.op) (kX n ops o a (fun a=>Gq P T (de W o.dst) M (oV a) o.op (fun v M'=>K (a.put n o.dst v) M') Kp) (fun a=>K (a.put n o.dst (.aG [])) M))
section
variable{P:Program}{T:List TI}{r:Option Nat}{Q:Exit→Act→World→Prop}
theorem nZ {ρ:Env}{D:List Deferred}{n:Nat}{a:AA}{act:Act}(h:bs ρ D n a act){ops:Array Oper}{j t:Nat}{oj:Oper}(hj:ops[j]?=some oj)(hd:oj.dst=some t){b:Bool}(hb:(a t).c ρ=.bool b):yielded ops act.tmps j=some b:=by
 have hg:=h.get t
 rw[hb]at hg
 have:act.tmps[t]?=some (.bool b):=by
  rw[Array.getD_eq_getD_getElem?]at hg
  cases hh:act.tmps[t]? with
  |none=>rw[hh]at hg;simp[undef]at hg
  |some v=>rw[hh]at hg;simpa using hg
 simp[yielded,hj,hd,this]
theorem kW {ρ:Env}{D:List Deferred}{n:Nat}{a:AA}{act:Act}(h:bs ρ D n a act){ops:Array Oper}{o:Oper}{run skip:AA→Prop}(hg:kX n ops o a run skip):
 ∃a',bs ρ D n a' act∧((Region.wanted o (yielded ops act.tmps)=true∧run a')∨(Region.wanted o (yielded ops act.tmps)=false∧skip a')):=by
 have same:∀(t:Nat)(x b:Bool)(v:AV),a t=.bo x→x=b→v.c ρ=.bool b→v.ok ρ→bs ρ D n (a.put n (some t) v) act:=by
  intro t x b v ha hx hv aA
  have h1:=h.put (some t) aA
  have:act.put (some t) (v.c ρ)=act:=by
   have Ga:=h.get t
   rw[ha]at Ga
   simp only[AV.c,hx]at Ga
   rw[hv]
   cases act with
   |mk tmps defers=>
    simp only[Act.put,Act.mk.injEq,and_true]
    apply Array.ext (by simp)
    intro i h1 h2
    by_cases hi:t=i
    ·subst hi
     simp only at Ga
     rw[Array.getElem_setIfInBounds_self]
     rw[Array.getD_eq_getD_getElem?,Array.getElem?_eq_getElem h2]at Ga
     exact Ga.symm
    ·rw[Array.getElem_setIfInBounds_ne _ hi]
  rw[this]at h1
  exact h1
 unfold kX at hg
 unfold Region.wanted
 split at hg
 ·rename_i PN
  exact⟨a,h,.inl ⟨by rw[PN],hg⟩⟩
 ·rename_i j want PN
  rw[PN]
  simp only
  split at hg
  ·rename_i oj uS
   split at hg
   ·rename_i t Uv
    split at hg
    ·rename_i fp
     have hy:=nZ h uS Uv (b:=true) (by rw[fp];rfl)
     rw[hy]
     split at hg
     ·exact⟨a,h,.inl ⟨rfl,hg⟩⟩
     ·exact⟨a,h,.inr ⟨rfl,hg⟩⟩
    ·rename_i fp
     have hy:=nZ h uS Uv (b:=false) (by rw[fp];rfl)
     rw[hy]
     split at hg
     ·exact⟨a,h,.inr ⟨rfl,hg⟩⟩
     ·exact⟨a,h,.inl ⟨rfl,hg⟩⟩
    ·rename_i x fp
     have hy:=nZ h uS Uv (b:=x) (by rw[fp];rfl)
     rw[hy]
     split at hg
     ·cases x with
      |true=>exact⟨_,same t _ true .tt fp rfl rfl trivial,.inl ⟨rfl,hg.1 rfl⟩⟩
      |false=>exact⟨_,same t _ false .ff fp rfl rfl trivial,.inr ⟨rfl,hg.2 rfl⟩⟩
     ·cases x with
      |true=>exact⟨_,same t _ true .tt fp rfl rfl trivial,.inr ⟨rfl,hg.1 rfl⟩⟩
      |false=>exact⟨_,same t _ false .ff fp rfl rfl trivial,.inl ⟨rfl,hg.2 rfl⟩⟩
    ·rename_i fp
     refine⟨a,h,.inr ⟨?_,hg⟩⟩
     have Ga:=h.get t
     rw[fp]at Ga
     have hy:yielded ops act.tmps j=none:=by
      simp only[yielded,uS,Option.bind_some,Uv]
      cases hx:act.tmps[t]? with
      |none=>rfl
      |some v=>
       rw[Array.getD_eq_getD_getElem?,hx]at Ga
       simp only[Option.getD_some,AV.c,AV.cl]at Ga
       rw[Ga]
     rw[hy];rfl
    ·exact hg.elim
   ·exact hg.elim
  ·exact hg.elim
theorem dH (hT:ao P T){n:Nat}{W:List Nat}{ops:Array Oper}{o:Oper}{a:AA}{M:AH}{K:AA→AH→Prop}{Kp:AV→AH→Prop}{ρ:Env}{D:List Deferred}{w:World}{act:Act}(hs:aR ρ M w)(ha:bs ρ D n a act)
 (h:lP P T n W ops o a M K Kp){K':Act→World→Prop}
 (hK:∀a' aH M' ρ' w',K a' M'→bs ρ' D n a' aH→aR ρ' M' w'→Ext ρ M w ρ' M' w'→K' aH w')
 (hP:∀rv M' ρ' w',Kp rv M'→rv.ok ρ'→aR ρ' M' w'→Ext ρ M w ρ' M' w'→Q (.panic [{v:=rv.c ρ',recovered:=false}]) act w'):
 cm o.op=true∧vf r P ops Q o K' act w:=by
 unfold lP at h
 replace h:=aq h
 obtain⟨hp,h⟩:=h
 refine⟨hp,?_⟩
 obtain⟨a',qG,h⟩:=kW ha h
 unfold vf
 rcases h with⟨hw,h⟩|⟨hw,h⟩
 ·rw[if_pos hw]
  exact uj hT hs qG.ev h (fun rv M' ρ' w' h1 h2 h3 h4=>hK _ _ M' ρ' w' h1 ((qG.ext h4.env).put o.dst h2) h3 h4) hP
 ·rw[if_neg (by rw[hw];simp)]
  exact hK _ _ M ρ w h (qG.put o.dst (v:=.aG []) trivial) hs (Ext.refl _ _ _)
def p9 (P:Program)(T:List TI)(n:Nat)(W:List Nat)(ops:Array Oper)(Kp:AV→AH→Prop)(K:AA→AH→Prop):List Oper→AA→AH→Prop
 |[],a,M=>K a M
 |o::l,a,M=>lP P T n W ops o a M (fun a M=>p9 P T n W ops Kp K l a M) Kp
theorem sm {i:Nat}{l:List Nat}{ops:Array Oper}{o:Oper}{act:Act}{w:World}(hi:ops[i]?=some o)(hp:cm o.op=true)(h:vf r P ops Q o (wpOpsIn (FW r) 0 P ops Q l) act w):wpOpsIn (FW r) 0 P ops Q (i::l) act w:=by
 rw[wpOpsIn_cons]
 exact vA hi hp h
theorem n9 (hT:ao P T){n:Nat}{W:List Nat}{ops:Array Oper}{K:AA→AH→Prop}{Kp:AV→AH→Prop}{D:List Deferred}{ρ0:Env}{M0:AH}{w0:World}:
 ∀(l:List Oper)(k:Nat)(a:AA)(M:AH)(ρ:Env)(w:World)(act:Act),ops.toList.drop k=l→aR ρ M w→Ext ρ0 M0 w0 ρ M w→bs ρ D n a act→p9 P T n W ops Kp K l a M→
  (∀a' aH M' ρ' w',K a' M'→bs ρ' D n a' aH→aR ρ' M' w'→Ext ρ0 M0 w0 ρ' M' w'→Q .normal aH w')→
  (∀rv M' ρ' w' aH,aH.defers=D→Kp rv M'→rv.ok ρ'→aR ρ' M' w'→Ext ρ0 M0 w0 ρ' M' w'→Q (.panic [{v:=rv.c ρ',recovered:=false}]) aH w')→
  wpOpsIn (FW r) 0 P ops Q (List.range' k l.length) act w
 |[],k,a,M,ρ,w,act,_,hs,hE,ha,h,hK,hP=>hK a act M ρ w h ha hs hE
 |o::l,k,a,M,ρ,w,act,hl,hs,hE,ha,h,hK,hP=>by
  have hi:ops[k]?=some o:=by
   have:=congrArg (fun l=>l[0]?) hl
   simpa using this
  have PH:ops.toList.drop (k+1)=l:=by
   have:=congrArg List.tail hl
   simpa using this
  simp only[p9]at h
  have key:=dH (r:=r) (Q:=Q) (K':=wpOpsIn (FW r) 0 P ops Q (List.range' (k+1) l.length)) hT hs ha h
   (fun a' aH M' ρ' w' h1 h2 h3 h4=>n9 hT l (k+1) a' M' ρ' w' aH PH h3 (hE.trans h4) h2 h1 hK hP)
   (fun rv M' ρ' w' h1 h2 h3 h4=>hP rv M' ρ' w' act ha.defers h1 h2 h3 (hE.trans h4))
  rw[List.length_cons,List.range'_succ]
  exact sm hi key.1 key.2
end
end Go.Proofs.Ytibadaomjlkoaaa
open Go.RowKit
namespace Go.Proofs.Ytibadaomjlkoaaa
def Ao (B:List Nat)(M M':AH):Prop:=∀b∈B,∀o,M[b]?=some o→M'[b]?=some o
def lz (B:List Nat)(M M':AH)(p:Prop):Prop:=
 match B with
 |[]=>p
 |b::B=>match M[b]? with
  |some o=>M'[b]?=some o∧lz B M M' p
  |none=>lz B M M' p
theorem k6 {B:List Nat}{M M':AH}{p:Prop}(h:lz B M M' p):Ao B M M'∧p:=by
 induction B with
 |nil=>exact⟨fun b hb=>absurd hb List.not_mem_nil,h⟩
 |cons x B ih=>
  simp only[lz]at h
  split at h
  ·rename_i o ho
   refine⟨fun b hb o' tQ=>?_,(ih h.2).2⟩
   rcases List.mem_cons.1 hb with rfl|hb
   ·rw[ho]at tQ;injection tQ with tQ;subst tQ;exact h.1
   ·exact(ih h.2).1 b hb o' tQ
  ·rename_i ho
   refine⟨fun b hb o' tQ=>?_,(ih h).2⟩
   rcases List.mem_cons.1 hb with rfl|hb
   ·rw[ho]at tQ;cases tQ
   ·exact(ih h).1 b hb o' tQ
theorem Ao.trans {B:List Nat}{M M' ld:AH}(h:Ao B M M')(h':Ao B M' ld):Ao B M ld:=fun b hb o ho=>h' b hb o (h b hb o ho)
def fu (P:Program)(T:List TI)(n:Nat)(W:List Nat)(ops:Array Oper)(Kp:AV→AH→Prop)(K:AA→AH→Prop)(B:List Nat):List Nat→List (Nat×Nat)→AA→AH→Prop
 |_,[],a,M=>K a M
 |sk,(i,md)::l,a,M=>match de sk (some i)with
  |true=>fu P T n W ops Kp K B sk l a M
  |false=>match ops[i]? with
   |none=>False
   |some o=>match md with
    |0=>bp (cm o.op) (kX n ops o a (fun a=>iy T (de W o.dst) M (oV a) o.op fun v=>fu P T n W ops Kp K B sk l (a.put n o.dst v) M) (fun a=>fu P T n W ops Kp K B sk l (a.put n o.dst (.aG [])) M))
    |1=>bp (cm o.op) (kX n ops o a (fun a=>match o.op with
      | .load t x=>bp (de B (some (oV a x).id)) (pL T M t (oV a x) fun v=>fu P T n W ops Kp K B sk l (a.put n o.dst v) M)
      | .convert s d x=>bp (de B (some (oV a x).id)) (n5 T M s d (oV a x) fun v=>fu P T n W ops Kp K B sk l (a.put n o.dst v) M)
      | .lookup t x ix ok=>bp (de B (some (oV a x).id)) (wz T M t (oV a x) (oV a ix) ok fun v=>fu P T n W ops Kp K B sk l (a.put n o.dst v) M)
      | .call ⟨.builtin .len,args,ic⟩=>match args.toList,ic.toList with
        |[x],[t]=>bp (de B (some (oV a x).id)) (na T M t (oV a x) fun v=>fu P T n W ops Kp K B sk l (a.put n o.dst v) M)
        |_,_=>False
      |_=>False) (fun a=>fu P T n W ops Kp K B sk l (a.put n o.dst (.aG [])) M))
    |2=>lP P T n W ops o a M (fun a M'=>lz B M M' (fu P T n W ops Kp K B sk l a M')) Kp
    |3=>lP P T n W ops o a M (fun a M'=>fu P T n W ops Kp K B sk l a M') Kp
    |j+4=>match ops[j]? with
     |none=>False
     |some oj=>lP P T n W ops o a M (fun a M'=>lz B M M' (fu P T n W ops Kp K B sk l a M')) Kp∧lP P T n W ops oj a M (fun a M'=>lz B M M' (lP P T n W ops o a M' (fun a ld=>lz B M' ld (fu P T n W ops Kp K B (j::sk) l a ld)) Kp)) Kp
def gH (sk:List Nat)(l:List (Nat×Nat)):Nat:=(l.filter fun x=>!(de sk (some x.1))).length
def ob (ops:Array Oper)(ds:List Nat):List Nat→List (Nat×Nat)→Array Bool→Bool
 |_,[],l=>Region.ready .any ops l==[]
 |sk,(i,md)::r,l=>match de sk (some i)with
  |true=>ob ops ds sk r l
  |false=>(match md with
   |0=>Region.free .any ops l i&&(Region.ready .any ops l).contains i
   |1=>Region.free .any ops l i&&(Region.ready .any ops l).contains i&&ds.all fun d=>l.getD d true||waits ops i ops.size d
   |2=>(Region.ready .any ops l==[i])&&!(ds.contains i)
   |3=>(Region.ready .any ops l==[i])&&ds.contains i&&r.all (fun x=>!(x.2==1)&&!(x.2==2)&&!(Nat.ble 4 x.2))
   |j+4=>(Region.ready .any ops l==[i,j]||Region.ready .any ops l==[j,i])&&(!(ds.contains i)&&!(ds.contains j))&&(Region.ready .any ops (l.setIfInBounds j true)==[i])&&Nat.blt (gH (j::sk) r) (gH sk r)&&
     ob ops ds (j::sk) r ((l.setIfInBounds j true).setIfInBounds i true))&&ob ops ds sk r (l.setIfInBounds i true)
theorem nv {l:List Nat}{t:Nat}(h:de l (some t)=true):t∈l:=by
 induction l with
 |nil=>simp[de]at h
 |cons x l ih=>
  simp only[de,Bool.or_eq_true]at h
  rcases h with h|h
  ·rw[Nat.eq_of_beq_eq_true h];exact List.mem_cons_self
  ·exact List.mem_cons_of_mem _ (ih h)
section
variable{r:Option Nat}{P:Program}{ops:Array Oper}{Q:Exit→Act→World→Prop}{S:World→Prop}{ds:List Nat}
theorem xe {i:Nat}{oi:Oper}{v:Value}(hi:ops[i]?=some oi)(hp:∀(i:Nat) o,ops[i]?=some o→cm o.op=true)
 (hQ:∀c a w,Q (.panic c) (a.put oi.dst v) w→Q (.panic c) a w):
 ∀(f:Nat)(l:Array Bool)(a:Act)(w:World),
  (∀j oj,ops[j]?=some oj→j≠i→l.getD j true=false→(∀e∈oj.after,Region.binds .any e=true→e.on≠i)→oi.apart ops oj=true)→
  i∈Region.ready .any ops l→YI P ops (fun _=>True) oi v a→
  anyS r P ops Q S ds f (l.setIfInBounds i true) (a.put oi.dst v) w→anyS r P ops Q S ds (f+1) l a w:=by
 intro f
 induction f with
 |zero=>
  intro l a w _ hr hy H
  refine⟨fun h=>(by rw[h]at hr;cases hr),fun j hj o ho=>?_⟩
  by_cases fC:j=i
  ·subst fC
   rw[hi]at ho;injection ho with ho;subst ho
   exact hy.vf trivial ⟨fun _=>.inl rfl,H⟩
  ·have:=ready_mono hj fC
   rw[H.1]at this
   cases this
 |succ f ih=>
  intro l a w jr hr hy H
  refine⟨fun h=>(by rw[h]at hr;cases hr),fun j hj oj uS=>?_⟩
  by_cases fC:j=i
  ·subst fC
   rw[hi]at uS;injection uS with uS;subst uS
   exact hy.vf trivial ⟨fun _=>.inl rfl,H⟩
  ·have h1:=H.2 j (ready_mono hj fC) oj uS
   obtain⟨BZ,X8,yh,hall⟩:=mem_ready.1 hj
   rw[uS]at yh;injection yh with yh;subst yh
   have F9:=(mem_ready.1 hr).1
   have Px:∀e∈oj.after,Region.binds .any e=true→e.on≠i:=fun e he hb heq=>by
    have h1:=hall e he hb
    rw[heq]at h1
    rcases Nat.lt_or_ge i l.size with h'|h'
    ·simp[h']at F9 h1;rw[F9]at h1;cases h1
    ·simp[Array.getElem?_eq_none h']at h1
   have h2:=D7 (jr j oj uS fC BZ Px) (hp i oi hi) (hp j oj uS) hQ hy h1
   refine pC (fun a' w' h3=>⟨h3.2.1,ih (l.setIfInBounds j true) a' w' ?_ (ready_mono hr (Ne.symm fC)) h3.1 ?_⟩) h2
   ·intro k ok hk Ut jq rl
    refine jr k ok hk Ut ?_ rl
    by_cases Iw:j=k
    ·subst Iw;exact BZ
    ·rw[getD_set_ne true Iw]at jq;exact jq
   ·rw[Array.setIfInBounds_comm _ _ fC]
    exact h3.2.2
theorem GC {l:Array Bool}{a:Act}{w:World}(hr:Region.ready .any ops l=[])(h:Q .normal a w):∀f,anyS r P ops Q S ds f l a w
 |0=>⟨hr,h⟩
 |_+1=>⟨fun _=>h,by rw[hr];simp⟩
theorem uN {i f:Nat}{o:Oper}{l:Array Bool}{a:Act}{w:World}(hr:Region.ready .any ops l=[i])(hi:ops[i]?=some o)
 (h:vf r P ops Q o (fun a' w'=>(i∉ds→w'=w∨S w')∧anyS r P ops Q S ds f (l.setIfInBounds i true) a' w') a w):anyS r P ops Q S ds (f+1) l a w:=by
 refine⟨fun h=>(by rw[hr]at h;cases h),fun j hj o' tQ=>?_⟩
 rw[hr]at hj
 obtain rfl:=List.mem_singleton.1 hj
 rw[hi]at tQ;injection tQ with tQ;subst tQ
 exact h
def SB (ρ0:Env)(M0:AH)(B:List Nat)(w:World):Prop:=∀b∈B,eP ρ0 M0 b w
theorem nz {ρ0 ρ':Env}{M0 M':AH}{B:List Nat}{w0 w':World}(h0:SB ρ0 M0 B w0)(hs:aR ρ' M' w')(he:∀i g l,ρ0 i g=some l→ρ' i g=some l)(hB:Ao B M0 M'):SB ρ0 M0 B w':=by
 intro b hb g own x q cQ hq
 have LL:slot M' b g=some (own,x):=by
  unfold slot at cQ⊢
  cases ho:M0[b]? with
  |none=>rw[ho]at cQ;cases cQ
  |some o=>rw[ho]at cQ;rw[hB b hb o ho];exact cQ
 exact(h0 b hb g own x q cQ hq).back he (hs.id b g own x q LL (he _ _ _ hq))
theorem SB.of {ρ:Env}{M:AH}{w:World}(h:aR ρ M w)(B:List Nat):SB ρ M B w:=fun b _=>h.id b
variable{T:List TI}
set_option maxHeartbeats 1000000 in
theorem bl (hT:ao P T){n:Nat}{W:List Nat}{K:AA→AH→Prop}{Kp:AV→AH→Prop}{B:List Nat}{D:List Deferred}{ρ0:Env}{M0:AH}{w0:World}
 (hp:∀(i:Nat) o,ops[i]?=some o→cm o.op=true)
 (hQ:∀c (a:Act) d v w,Q (.panic c) (a.put d v) w→Q (.panic c) a w):
 ∀(ck:List (Nat×Nat))(sk:List Nat)(l:Array Bool)(f:Nat)(a:AA)(M:AH)(ρ:Env)(w:World)(act:Act)(S:World→Prop),gH sk ck≤f→ob ops ds sk ck l=true→iS ops l→
  aR ρ M w→Ext ρ0 M0 w0 ρ M w→bs ρ D n a act→(ck.any (fun x=>x.2==1)=true→S w)→(∀w',S w'→SB ρ M B w')→(ck.any (fun x=>x.2==2||Nat.ble 4 x.2)=true→∀ρ' M' w',aR ρ' M' w'→(∀i g l,ρ i g=some l→ρ' i g=some l)→Ao B M M'→S w')→fu P T n W ops Kp K B sk ck a M→
  (∀a' aH M' ρ' w',K a' M'→bs ρ' D n a' aH→aR ρ' M' w'→Ext ρ0 M0 w0 ρ' M' w'→Q .normal aH w')→
  (∀rv M' ρ' w' aH,aH.defers=D→Kp rv M'→rv.ok ρ'→aR ρ' M' w'→Ext ρ0 M0 w0 ρ' M' w'→Q (.panic [{v:=rv.c ρ',recovered:=false}]) aH w')→
  anyS r P ops Q S ds f l act w
 |[],sk,l,f,a,M,ρ,w,act,S,_,bO,_,hs,hE,ha,_,_,_,h,hK,hP=>by
  simp only[ob,beq_iff_eq]at bO
  exact GC bO (hK a act M ρ w h ha hs hE) f
 |(i,md)::ck,sk,l,f,a,M,ρ,w,act,S,hf,bO,hc,hs,hE,ha,hS,GN,EH,h,hK,hP=>by
  simp only[ob]at bO
  simp only[fu]at h
  cases Pk:de sk (some i)with
  |true=>
   rw[Pk]at bO h
   exact bl hT hp hQ ck sk l f a M ρ w act S (by simpa[gH,Pk]using hf) bO hc hs hE ha (fun hh=>hS (by simp only[List.any_cons,hh,Bool.or_true])) GN (fun hh=>EH (by simp only[List.any_cons,hh,Bool.or_true])) h hK hP
  |false=>
  rw[Pk]at bO h
  have Z5:gH sk ck+1≤f:=by simpa[gH,Pk]using hf
  obtain⟨f,rfl⟩:∃f',f=f'+1:=⟨f-1,by omega⟩
  simp only[Bool.and_eq_true]at bO
  obtain⟨hm,bO⟩:=bO
  simp only at h
  split at h
  ·exact h.elim
  ·rename_i o hi
   have yj:gH sk ck≤f:=by omega
   have P1:ck.any (fun x=>x.2==1)=true→S w:=fun hh=>hS (by simp only[List.any_cons,hh,Bool.or_true])
   have B4:=fun(hh:ck.any (fun x=>x.2==2||Nat.ble 4 x.2)=true)=>EH (by simp only[List.any_cons,hh,Bool.or_true])
   split at h
   ·simp only[Bool.and_eq_true,List.contains_iff_mem]at hm
    have cz:i∈Region.ready .any ops l:=by simpa using hm.2
    replace h:=(aq h).2
    obtain⟨a',qG,h⟩:=kW ha h
    rcases h with⟨hw,h⟩|⟨hw,h⟩
    ·obtain⟨v,h1,h2,h3⟩:=eT hT hs.known qG.ev h
     refine xe hi hp (fun c a w=>hQ c a o.dst _ w) f l act w (Region.free_spec hi hm.1) cz (.inl ⟨hw,fun w' _=>h3 w'⟩) ?_
     exact bl hT hp hQ ck sk _ f _ M ρ w _ S yj bO (hc.set cz) hs hE (qG.put o.dst h2) P1 GN B4 h1 hK hP
    ·refine xe hi hp (fun c a w=>hQ c a o.dst _ w) f l act w (Region.free_spec hi hm.1) cz (.inr ⟨hw,rfl⟩) ?_
     exact bl hT hp hQ ck sk _ f _ M ρ w _ S yj bO (hc.set cz) hs hE (qG.put o.dst (v:=.aG []) trivial) P1 GN B4 h hK hP
   ·simp only[Bool.and_eq_true,List.contains_iff_mem]at hm
    obtain⟨⟨jr,Yr⟩,YS⟩:=hm
    have cz:i∈Region.ready .any ops l:=by simpa using Yr
    have Aa:∀d∈ds,l.getD d true=false→waits ops i ops.size d=true:=fun d hd jq=>by
     have:=List.all_eq_true.1 YS d hd
     rw[jq]at this
     simpa using this
    have Sz:=hS (by simp)
    replace h:=(aq h).2
    obtain⟨a',qG,h⟩:=kW ha h
    rcases h with⟨hw,h⟩|⟨hw,h⟩
    ·split at h
     ·rename_i t x rR
      replace h:=aq h
      obtain⟨L6,h⟩:=h
      have jA:=nv L6
      obtain⟨v,h1,h2,h3⟩:=fV (P:=P) hT hs.known (hs.id _) h
      have hx:=(qG.ev x)
      have aQ:∀w',S w'→(execOp act.eval o).run P w'=.ok (.value (v.c ρ)) w':=by
       intro w' Pg
       have h4:=h3 w' (GN w' Pg _ jA)
       rw[←hx.1]at h4
       obtain⟨dst,op,ty,pos,after,guard⟩:=o
       simp only at rR
       subst rR
       simp[execOp,h4]
      refine ki hi hp (fun c a w=>hQ c a o.dst _ w) f l act w (Region.free_spec hi jr) hc Aa cz (.inl ⟨hw,aQ⟩) Sz ?_
      exact bl hT hp hQ ck sk _ f _ M ρ w _ S yj bO (hc.set cz) hs hE (qG.put o.dst h2) P1 GN B4 h1 hK hP
     ·rename_i t t' x rR
      replace h:=aq h
      obtain⟨L6,h⟩:=h
      have jA:=nv L6
      obtain⟨v,h1,h2,M8,h3⟩:=kv (P:=P) hT hs.known h
      have hx:=(qG.ev x)
      have aQ:∀w',S w'→(execOp act.eval o).run P w'=.ok (.value (v.c ρ)) w':=by
       intro w' Pg
       have h4:=h3 w' (GN w' Pg _ jA)
       rw[←hx.1]at h4
       obtain⟨dst,op,ty,pos,after,guard⟩:=o
       simp only at rR
       subst rR
       simp[execOp,h4]
      refine ki hi hp (fun c a w=>hQ c a o.dst _ w) f l act w (Region.free_spec hi jr) hc Aa cz (.inl ⟨hw,aQ⟩) Sz ?_
      exact bl hT hp hQ ck sk _ f _ M ρ w _ S yj bO (hc.set cz) hs hE (qG.put o.dst h2) P1 GN B4 h1 hK hP
     ·rename_i t x ix ok rR
      replace h:=aq h
      obtain⟨L6,h⟩:=h
      have jA:=nv L6
      obtain⟨v,h1,h2,M8,h3⟩:=re (P:=P) hT hs.known (hs.id _) h
      have hx:=(qG.ev x)
      have QF:=(qG.ev ix)
      have aQ:∀w',S w'→(execOp act.eval o).run P w'=.ok (.value (v.c ρ)) w':=by
       intro w' Pg
       have h4:=h3 w' (GN w' Pg _ jA)
       rw[←hx.1,←QF.1]at h4
       obtain⟨dst,op,ty,pos,after,guard⟩:=o
       simp only at rR
       subst rR
       simp[execOp,h4]
      refine ki hi hp (fun c a w=>hQ c a o.dst _ w) f l act w (Region.free_spec hi jr) hc Aa cz (.inl ⟨hw,aQ⟩) Sz ?_
      exact bl hT hp hQ ck sk _ f _ M ρ w _ S yj bO (hc.set cz) hs hE (qG.put o.dst h2) P1 GN B4 h1 hK hP
     ·rename_i args ic rR
      split at h
      ·rename_i x t B2 A1
       obtain rfl:args=#[x]:=by apply Array.toList_inj.1;simpa using B2
       obtain rfl:ic=#[t]:=by apply Array.toList_inj.1;simpa using A1
       replace h:=aq h
       obtain⟨L6,h⟩:=h
       have jA:=nv L6
       obtain⟨v,h1,h2,M8,h3⟩:=nR (P:=P) (ty:=o.type) hT hs.known h
       have hx:=(qG.ev x)
       have aQ:∀w',S w'→(execOp act.eval o).run P w'=.ok (.value (v.c ρ)) w':=by
        intro w' Pg
        have h4:=h3 w' (GN w' Pg _ jA)
        rw[←hx.1]at h4
        obtain⟨dst,op,ty,pos,after,guard⟩:=o
        simp only at rR h4
        subst rR
        simp[execOp,resolve,invoke,builtin,h4]
       refine ki hi hp (fun c a w=>hQ c a o.dst _ w) f l act w (Region.free_spec hi jr) hc Aa cz (.inl ⟨hw,aQ⟩) Sz ?_
       exact bl hT hp hQ ck sk _ f _ M ρ w _ S yj bO (hc.set cz) hs hE (qG.put o.dst h2) P1 GN B4 h1 hK hP
      ·exact h.elim
     ·exact h.elim
    ·refine ki hi hp (fun c a w=>hQ c a o.dst _ w) f l act w (Region.free_spec hi jr) hc Aa cz (.inr ⟨hw,rfl⟩) Sz ?_
     exact bl hT hp hQ ck sk _ f _ M ρ w _ S yj bO (hc.set cz) hs hE (qG.put o.dst (v:=.aG []) trivial) P1 GN B4 h hK hP
   ·simp only[Bool.and_eq_true,beq_iff_eq]at hm
    have cz:i∈Region.ready .any ops l:=by rw[hm.1];exact List.mem_singleton.2 rfl
    refine uN hm.1 hi ?_
    refine(dH (r:=r) (Q:=Q) hT hs ha h ?_ ?_).2
    ·intro a' aH M' ρ' w' h1 h2 h3 h4
     replace h1:=k6 h1
     have B5:=hE.trans h4
     have EH:=EH (by simp)
     have B3:=EH ρ' M' w' h3 h4.env h1.1
     refine⟨fun _=>.inr B3,?_⟩
     refine fY (S:=fun u=>S u∧SB ρ' M' B u) (fun u hu=>hu.1) f _ _ _ ?_
     refine bl hT hp hQ ck sk _ f a' M' ρ' w' aH (fun u=>S u∧SB ρ' M' B u) yj bO (hc.set cz) h3 B5 h2 (fun _=>⟨B3,SB.of h3 B⟩) (fun u hu=>hu.2) ?_ h1.2 hK hP
     intro _ gh ld uQ k1 k2 k3
     exact⟨EH gh ld uQ k1 (fun i g l e=>k2 i g l (h4.env i g l e)) (h1.1.trans k3),nz (SB.of h3 B) k1 k2 k3⟩
    ·intro rv M' ρ' w' h1 h2 h3 h4
     exact hP rv M' ρ' w' act ha.defers h1 h2 h3 (hE.trans h4)
   ·simp only[Bool.and_eq_true,beq_iff_eq]at hm
    obtain⟨⟨yQ,tV⟩,rl⟩:=hm
    have cz:i∈Region.ready .any ops l:=by rw[yQ];exact List.mem_singleton.2 rfl
    refine uN yQ hi ?_
    refine(dH (r:=r) (Q:=Q) hT hs ha h ?_ ?_).2
    ·intro a' aH M' ρ' w' h1 h2 h3 h4
     have B5:=hE.trans h4
     refine⟨fun hn=>absurd (by simpa using tV) hn,?_⟩
     have Vv:ck.any (fun x=>x.2==1)=true→False:=by
      intro vn
      obtain⟨x,hx,BO⟩:=List.any_eq_true.1 vn
      have:=List.all_eq_true.1 rl x hx
      rw[BO]at this
      simp at this
     have Vu:ck.any (fun x=>x.2==2||Nat.ble 4 x.2)=true→False:=by
      intro vn
      obtain⟨x,hx,BO⟩:=List.any_eq_true.1 vn
      have:=List.all_eq_true.1 rl x hx
      simp only[Bool.and_eq_true,Bool.not_eq_true']at this
      rw[this.1.2,this.2]at BO
      cases BO
     refine fY (S:=fun _=>False) (fun u hu=>hu.elim) f _ _ _ ?_
     exact bl hT hp hQ ck sk _ f a' M' ρ' w' aH (fun _=>False) yj bO (hc.set cz) h3 B5 h2 (fun vn=>Vv vn) (fun u hu=>hu.elim) (fun vn=>(Vu vn).elim) h1 hK hP
    ·intro rv M' ρ' w' h1 h2 h3 h4
     exact hP rv M' ρ' w' act ha.defers h1 h2 h3 (hE.trans h4)
   ·rename_i j
    split at h
    ·exact h.elim
    ·rename_i oj hj
     simp only[Bool.and_eq_true,Bool.or_eq_true,beq_iff_eq]at hm
     obtain⟨⟨⟨⟨yQ,tV,EA⟩,Xi⟩,dz⟩,Vo⟩:=hm
     have F2:gH (j::sk) ck<gH sk ck:=by simpa using dz
     have cz:i∈Region.ready .any ops l:=by rcases yQ with e|e<;>rw[e]<;>simp
     have LO:j∈Region.ready .any ops l:=by rcases yQ with e|e<;>rw[e]<;>simp
     refine⟨fun h0=>(by rw[h0]at cz;cases cz),fun k hk ok aA=>?_⟩
     have mf:k=i∨k=j:=by rcases yQ with e|e<;>rw[e]at hk<;>simp at hk<;>omega
     rcases mf with rfl|rfl
     ·rw[hi]at aA;injection aA with aA;subst aA
      refine(dH (r:=r) (Q:=Q) hT hs ha h.1 ?_ ?_).2
      ·intro a' aH M' ρ' w' h1 h2 h3 h4
       replace h1:=k6 h1
       have B5:=hE.trans h4
       have EH:=EH (by simp)
       have B3:=EH ρ' M' w' h3 h4.env h1.1
       refine⟨fun _=>.inr B3,?_⟩
       refine fY (S:=fun u=>S u∧SB ρ' M' B u) (fun u hu=>hu.1) f _ _ _ ?_
       refine bl hT hp hQ ck sk _ f a' M' ρ' w' aH (fun u=>S u∧SB ρ' M' B u) yj bO (hc.set cz) h3 B5 h2 (fun _=>⟨B3,SB.of h3 B⟩) (fun u hu=>hu.2) ?_ h1.2 hK hP
       intro _ gh ld uQ k1 k2 k3
       exact⟨EH gh ld uQ k1 (fun i g l e=>k2 i g l (h4.env i g l e)) (h1.1.trans k3),nz (SB.of h3 B) k1 k2 k3⟩
      ·intro rv M' ρ' w' h1 h2 h3 h4
       exact hP rv M' ρ' w' act ha.defers h1 h2 h3 (hE.trans h4)
     ·rw[hj]at aA;injection aA with aA;subst aA
      refine(dH (r:=r) (Q:=Q) hT hs ha h.2 ?_ ?_).2
      ·intro a' aH M' ρ' w' h1 h2 h3 h4
       replace h1:=k6 h1
       have B5:=hE.trans h4
       have EH:=EH (by simp)
       have B3:=EH ρ' M' w' h3 h4.env h1.1
       refine⟨fun _=>.inr B3,?_⟩
       have Y1:=hc.set LO
       have LP:i∈Region.ready .any ops (l.setIfInBounds k true):=by rw[Xi];exact List.mem_singleton.2 rfl
       obtain⟨f,rfl⟩:∃f',f=f'+1:=⟨f-1,by omega⟩
       refine uN Xi hi ?_
       refine(dH (r:=r) (Q:=Q) hT h3 h2 h1.2 ?_ ?_).2
       ·intro WN Jq ld gh uQ g1 g2 g3 g4
        replace g1:=k6 g1
        have SA:∀mH M1 w1,aR mH M1 w1→(∀i g l,ρ' i g=some l→mH i g=some l)→Ao B M' M1→S w1∧SB ρ' M' B w1:=fun mH M1 w1 k1 k2 k3=>⟨EH mH M1 w1 k1 (fun i g l e=>k2 i g l (h4.env i g l e)) (h1.1.trans k3),nz (SB.of h3 B) k1 k2 k3⟩
        have Sy:=SA gh ld uQ g3 g4.env g1.1
        refine⟨fun _=>.inr Sy.1,?_⟩
        refine fY (S:=fun u=>S u∧SB gh ld B u) (fun u hu=>hu.1) f _ _ _ ?_
        refine bl hT hp hQ ck (k::sk) _ f WN ld gh uQ Jq (fun u=>S u∧SB gh ld B u) (by omega) Vo (Y1.set LP) g3 (B5.trans g4) g2 (fun _=>⟨Sy.1,SB.of g3 B⟩) (fun u hu=>hu.2) ?_ g1.2 hK hP
        intro _ mH M1 w1 k1 k2 k3
        exact⟨(SA mH M1 w1 k1 (fun i g l e=>k2 i g l (g4.env i g l e)) (g1.1.trans k3)).1,nz (SB.of g3 B) k1 k2 k3⟩
       ·intro rv ld gh uQ g1 g2 g3 g4
        exact hP rv ld gh uQ aH h2.defers g1 g2 g3 (B5.trans g4)
      ·intro rv M' ρ' w' h1 h2 h3 h4
       exact hP rv M' ρ' w' act ha.defers h1 h2 h3 (hE.trans h4)
end
end Go.Proofs.Ytibadaomjlkoaaa
open Go.RowKit
namespace Go.Proofs.Ytibadaomjlkoaaa
theorem AP {ρ:Env}{M:AH}{w w1:World}{x:ae}{c:Array Value}{e:TypeId}{r:Nat}(h:aR ρ M w)(hr:M[r]?=some .gone)(jq:∀g,ρ r g=none)(Pc:w1.heap=w.heap)(BU:w1.os=w.os)(iG:w1.tape=w.tape)(oz:w1.output=w.output)
 (Eu:x.size≤c.size)(fp:∀k v,x.at k=some v→v.ok ρ∧c[k]?=some (v.c ρ))(qA:x.row=true:=by rfl):
 aR (jE ρ r 0 (some (w.heap.size,0))) (M.set r (.one true 0 x)) (w1.alloc (.cells c e))∧Ext ρ M w (jE ρ r 0 (some (w.heap.size,0))) (M.set r (.one true 0 x)) (w1.alloc (.cells c e)):=by
 have Pj:(ρ r 0).isSome=false:=by rw[jq 0];rfl
 have aZ:r<M.length:=(List.getElem?_eq_some_iff.1 hr).1
 have er:w1.heap.size=w.heap.size:=by rw[Pc]
 refine kB (i:=r) (g:=0) (x':=x) h (by simp) (fun i' eJ=>List.getElem?_set_ne (Ne.symm eJ)) (by simp[aZ]) (dp Pj) dD (fun g' hg=>by rw[jq g']at hg;cases hg) (fun b hb _=>?_) (by simp[Pc]) BU iG oz
  (.inl ⟨(w.heap.size,0),ar _ _ _ _,.mk' qA ⟨c,e,(0,0),?_,by show 0+x.size≤c.size;omega,fun k v hv=>?_,fun _=>rfl⟩,.inl (Nat.le_refl _)⟩)
 ·rw[Below.heap_alloc w1 _ b (by omega),Pc]
 ·show(w1.alloc _).heap[w.heap.size]?=_
  rw[←er];exact heap_alloc_new w1 _
 ·have h1:=fp k v hv
  refine⟨AV.cy (dp Pj) v h1.1,?_⟩
  rw[AV.cW (dp Pj) v h1.1]
  show c[0+k]?=_
  rw[Nat.zero_add]
  exact h1.2
theorem p3 {ρ:Env}{r:Nat}{l:Option (Nat×Nat)}:∀i g,i≠r→jE ρ r 0 l i g=ρ i g:=by
 intro i g h
 unfold jE
 rw[if_neg (fun e=>h e.1)]
inductive Ef where
 |val (v:AV)
 |mk (l c:Nat)(x:ae)
def Ef.O2:Ef→Bool
 | .mk ..=>true
 |_=>false
def Ef.v (r:Nat):Ef→AV
 | .val v=>v
 | .mk l c _=>.sl r 0 0 l c
def Ef.BA:Ef→List AO
 | .val _=>[]
 | .mk _ _ x=>[.one true 0 x]
theorem uI {P:Program}{T:List TI}(hT:ao P T){M:AH}{t len:Nat}{idx:List Nat}{vs:List AV}{K:AV→AH→Prop}
 (h:eX T M t len idx vs K):∃x,K (.sl M.length 0 0 len len) (M++[.one true 0 x])∧∀{ρ:Env}{w:World}{M':AH}{r:Nat},aR ρ M' w→M'[r]?=some .gone→(∀g,ρ r g=none)→AV.dC ρ vs→
  ∃ρ' w',(Instr.buildSlice t len (idx.zip (vs.map (AV.c ρ))).toArray).run P w=.ok ((AV.sl r 0 0 len len).c ρ') w'∧(AV.sl r 0 0 len len).ok ρ'∧aR ρ' (M'.set r (.one true 0 x)) w'∧Ext ρ M' w ρ' (M'.set r (.one true 0 x)) w'∧∀i g,i≠r→ρ' i g=ρ i g:=by
 unfold eX at h
 split at h
 ·rename_i el s1 s2 s3 ht
  obtain⟨d,hd,eC⟩:=hT.fL ht
  obtain rfl:=aK eC
  split at h
  ·rename_i te qB
   replace h:=aq h
   obtain⟨hb,h⟩:=h
   simp only[Bool.and_eq_true,beq_iff_eq]at hb
   obtain⟨⟨⟨⟨PK,hlen⟩,QM⟩,Ep⟩,hall⟩:=hb
   have Is:vs.length=len:=Nat.eq_of_beq_eq_true hlen
   have P8:len*te.size≤16777216:=by simpa using QM
   have H9:te.zero.length=te.size:=Nat.eq_of_beq_eq_true Ep
   split at h
   ·rename_i x hx
    refine⟨x,h,fun{ρ w M' r} hs hr jq aA=>?_⟩
    obtain⟨cB,er,fp⟩:=tv ρ hx hall aA
    obtain⟨d2,ie,z,e1,e2,e3,rfl⟩:=hT.get qB
    simp only at cB er P8 H9 hall
    have uU:∀u∈vs.map (AV.c ρ),u.cells.size=ie.size:=fun u hu=>by
     obtain⟨v,hv,rfl⟩:=List.mem_map.1 hu
     have:=List.all_eq_true.1 hall v hv
     simp only[Bool.and_eq_true]at this
     rw[←Array.length_toList,AV.mV ρ v (by rintro y rfl;have:=this.1;simp[AV.parts,AV.one]at this),AV.aU,List.length_map]
     exact Nat.eq_of_beq_eq_true this.2
    have e9:z.cells.size=ie.size:=by simpa using H9
    subst Is
    have O6:(idx.zip (vs.map (AV.c ρ)))=((vs.map (AV.c ρ)).zipIdx 0).map fun x=>(x.2,x.1):=by
     subst PK
     apply List.ext_getElem?
     intro j
     simp only[List.getElem?_map,List.getElem?_zipIdx,List.getElem?_zip_eq_some]
     by_cases hj:j<vs.length
     ·simp[List.zip,hj]
     ·simp[List.zip,hj,List.getElem?_eq_none (Nat.le_of_not_lt hj)]
    have Pf:=fun c0=>Go.Great.fill_whole cB (vs.map (AV.c ρ)) c0 uU
    have yS:=ml (vs.map (AV.c ρ)) uU
    rw[List.length_map]at yS
    have key:=fun(w1:World) VN VM VL VK=>AP (w1:=w1) (x:=x) (c:=((vs.map (AV.c ρ)).flatMap fun u=>u.cells.toList).toArray) (e:=el) hs hr jq VN VM VL VK
     (by rw[er,List.size_toArray,yS];exact Nat.le_refl _) (fun k v hv=>by have:=fp k v hv;exact⟨this.1,by simpa using this.2⟩) (rf (by assumption))
    obtain⟨h1,h2⟩:=key _ rfl rfl rfl rfl
    by_cases PG:vs.length=0
    ·have:vs=[]:=List.eq_nil_of_length_eq_zero PG
     subst this
     refine⟨_,_,?_,dy.2,h1,h2,p3⟩
     rw[dy.1]
     simp[Instr.buildSlice,run_underlying hd,sizeOf,typeInfo,e2,newRow,Instr.fill]
     have:(Array.map (fun _=>(default:Value)) (Array.range 0))=#[]:=by apply Array.eq_empty_of_size_eq_zero;simp
     rw[this]
    ·have IB:=Pf ((Array.range (vs.length*ie.size)).map (z.cells[·%z.cells.size]!)) (by simp)
     have aQ:=run_buildSlice (P:=P) w t el vs.length (idx.zip (vs.map (AV.c ρ))).toArray _ ie z hd e2 e3 (by omega) (by
      intro h0
      rcases Nat.mul_eq_zero.1 h0 with h0|h0
      ·exact PG h0
      ·omega) (by rw[List.toList_toArray,O6];exact IB)
     exact⟨_,_,by rw[dy.1];exact aQ,dy.2,h1,h2,p3⟩
   ·exact h.elim
  ·exact h.elim
 ·exact h.elim
theorem vg {P:Program}{T:List TI}(hT:ao P T){M:AH}{t:Nat}{l c:AV}{K:AV→AH→Prop}
 (h:fz T M t l c K):∃ln cp x,K (.sl M.length 0 0 ln cp) (M++[.one true 0 x])∧∀{ρ:Env}{w:World}{M':AH}{r:Nat},aR ρ M' w→M'[r]?=some .gone→(∀g,ρ r g=none)→
  ∃ρ' w',(Instr.makeSlice t (l.c ρ) (c.c ρ)).run P w=.ok ((AV.sl r 0 0 ln cp).c ρ') w'∧(AV.sl r 0 0 ln cp).ok ρ'∧aR ρ' (M'.set r (.one true 0 x)) w'∧Ext ρ M' w ρ' (M'.set r (.one true 0 x)) w'∧∀i g,i≠r→ρ' i g=ρ i g:=by
 unfold fz at h
 split at h
 ·rename_i kl l kc c
  split at h
  ·rename_i el s1 s2 s3 ht
   obtain⟨d,hd,eC⟩:=hT.fL ht
   obtain rfl:=aK eC
   split at h
   ·rename_i te qB
    obtain⟨⟨h0,tT,hb,P6⟩,h⟩:=h
    split at h
    ·rename_i x hx
     refine⟨_,_,x,h,fun{ρ w M' r} hs hr jq=>?_⟩
     obtain⟨cB,Ep,er,fp⟩:=q9 hx (by omega)
     have yc:=hT.mI qB ρ
     obtain⟨d2,ie,z,e1,e2,e3,rfl⟩:=hT.get qB
     simp only at cB Ep er fp hb yc
     have e9:z.cells.size=ie.size:=by simpa using Ep
     have aQ:=run_make (P:=P) w t el ie z hd e2 e3 kl kc l c h0 tT (by omega) (by omega)
     have key:=fun(w1:World) VN VM VL VK=>AP (w1:=w1) (x:=x) (c:=madeCells z.cells (c.toNat*ie.size)) (e:=el) hs hr jq VN VM VL VK (by rw[er,size_madeCells];exact Nat.le_refl _) (fun k v hv=>by
      obtain⟨hk,u,hu,hc⟩:=fp k v hv
      refine⟨(hc ρ).2 ((AV.aJ ρ _).1 yc u (List.mem_of_getElem? hu)),?_⟩
      have hm:k%ie.size<z.cells.size:=by rw[e9];exact Nat.mod_lt _ cB
      have U9:FF z.cells[k%ie.size]=u:=by
       rw[List.getElem?_map,Array.getElem?_toList,Array.getElem?_eq_getElem hm]at hu
       simpa using hu
      rw[←(hc ρ).1,←U9,pE]
      simp only[madeCells,Array.getElem?_map,Array.getElem?_range,hk,if_true,Option.map_some,e9]
      rw[getElem!_pos z.cells _ hm]) (pJ (by assumption))
     obtain⟨h1,h2⟩:=key _ rfl rfl rfl rfl
     exact⟨_,_,by rw[dy.1];exact aQ,dy.2,h1,h2,p3⟩
    ·exact h.elim
   ·exact h.elim
  ·exact h.elim
 ·exact h.elim
def xn:Op→Option (List Operand)
 | .move x=>some [x]
 | .assign x=>some [x]
 | .build _ ps=>some (ps.toList.map (·.2))
 | .buildSlice _ _ ps=>some (ps.toList.map (·.2))
 | .makeSlice _ l c=>some [l,c]
 |_=>none
def Jv (P:Program)(o:Oper)(ops:List Operand)(e:Operand→AV):Ef→Prop
 | .val v=>∀{ρ:Env}{f:Operand→Value},(∀x∈ops,f x=(e x).c ρ∧(e x).ok ρ)→v.ok ρ∧∀w,(execOp f o).run P w=.ok (.value (v.c ρ)) w
 | .mk l c x=>∀{ρ:Env}{f:Operand→Value}{w:World}{M':AH}{r:Nat},(∀x∈ops,f x=(e x).c ρ∧(e x).ok ρ)→aR ρ M' w→M'[r]?=some .gone→(∀g,ρ r g=none)→
  ∃ρ' w',(execOp f o).run P w=.ok (.value ((AV.sl r 0 0 l c).c ρ')) w'∧(AV.sl r 0 0 l c).ok ρ'∧aR ρ' (M'.set r (.one true 0 x)) w'∧Ext ρ M' w ρ' (M'.set r (.one true 0 x)) w'∧∀i g,i≠r→ρ' i g=ρ i g
theorem E7 {ρ:Env}{e:Operand→AV}{f:Operand→Value}{l:List (Nat×Operand)}(h:∀x∈l.map (·.2),f x=(e x).c ρ∧(e x).ok ρ):
 l.map (fun(i,x)=>(i,f x))=(l.map (·.1)).zip ((l.map fun x=>e x.2).map (AV.c ρ))∧AV.dC ρ (l.map fun x=>e x.2):=by
 constructor
 ·induction l with
  |nil=>rfl
  |cons p l ih=>
   simp only[List.map_cons,List.zip_cons_cons]
   rw[ih fun x hx=>h x (List.mem_cons_of_mem _ hx),(h p.2 (by simp)).1]
 ·rw[AV.aJ]
  intro z hz
  obtain⟨y,hy,rfl⟩:=List.mem_map.1 hz
  exact(h y.2 (List.mem_map.2 ⟨y,hy,rfl⟩)).2
theorem Wt {P:Program}{T:List TI}(hT:ao P T){wr:Bool}{M:AH}{e:Operand→AV}{o:Oper}{K Kp:AV→AH→Prop}{tk:List Operand}(ht:xn o.op=some tk)(h:Gq P T wr M e o.op K Kp):
 ∃ef:Ef,K (ef.v M.length) (M++ef.BA)∧Jv P o tk e ef:=by
 obtain⟨dst,op,ty,pos,after,guard⟩:=o
 simp only at ht h
 have Hs:∀{v:AV},K v M→Jv P ⟨dst,op,ty,pos,after,guard⟩ tk e (.val v)→∃ef:Ef,K (ef.v M.length) (M++ef.BA)∧Jv P ⟨dst,op,ty,pos,after,guard⟩ tk e ef:=by
  intro v h1 h2
  refine⟨.val v,?_,h2⟩
  show K v (M++[])
  rw[List.append_nil];exact h1
 unfold xn at ht
 split at ht
 ·rename_i x
  injection ht with ht;subst ht
  have h':iy T wr M e (.move x) fun v=>K v M:=h
  have h2:=ec (show kZ (e x) (fun v=>K v M)from h')
  exact Hs h2 fun{ρ f} hf=>⟨(hf x (by simp)).2,fun w=>by simp[execOp,(hf x (by simp)).1]⟩
 ·rename_i x
  injection ht with ht;subst ht
  have h':iy T wr M e (.assign x) fun v=>K v M:=h
  have h2:=ec (show kZ (e x) (fun v=>K v M)from h')
  exact Hs h2 fun{ρ f} hf=>⟨(hf x (by simp)).2,fun w=>by simp[execOp,(hf x (by simp)).1]⟩
 ·rename_i t ps
  injection ht with ht;subst ht
  have h':iy T wr [] e (.build t ps) fun v=>K v M:=h
  have VV:∃v,K v M∧iy T wr [] e (.build t ps) fun v'=>v'=v:=by
   simp only[iy]at h'⊢
   split at h'
   ·split at h'
    ·split at h'
     ·exact⟨_,h',rfl⟩
     ·exact h'.elim
    ·exact h'.elim
   ·split at h'
    ·split at h'
     ·exact⟨_,h',rfl⟩
     ·exact h'.elim
    ·exact h'.elim
   ·exact h'.elim
  obtain⟨v,h1,h2⟩:=VV
  refine Hs h1 fun{ρ f} hf=>?_
  haveI dec:∀x,Decidable (x∈ps.toList.map (fun x:Nat×Operand=>x.2)):=fun x=>Classical.propDecidable _
  have h3:iy T wr [] (fun x=>if x∈ps.toList.map (fun x:Nat×Operand=>x.2)then e x else .raw (f x)) (.build t ps) fun v'=>v'=v:=by
   have e1:ps.toList.map (fun x=>(x.1,(fun x=>if x∈ps.toList.map (fun x:Nat×Operand=>x.2)then e x else AV.raw (f x)) x.2))=ps.toList.map fun x=>(x.1,e x.2):=by
    apply List.map_congr_left
    intro x hx
    simp only
    rw[if_pos (List.mem_map.2 ⟨x,hx,rfl⟩)]
   simp only[iy]at h2⊢
   rw[e1]
   exact h2
  have VS:T8 ρ (fun x=>if x∈ps.toList.map (fun x:Nat×Operand=>x.2)then e x else .raw (f x)) f:=by
   intro x
   simp only
   split
   ·exact hf x ‹_›
   ·exact⟨rfl,trivial⟩
  obtain⟨u,k1,k2,k3⟩:=eT (P:=P) (o:=⟨dst,.build t ps,ty,pos,after,guard⟩) (ρ:=ρ) hT (M:=[]) (fun i g own x hs=>by simp[slot]at hs) VS h3
  obtain rfl:u=v:=k1
  exact⟨k2,k3⟩
 ·rename_i t len ps
  injection ht with ht;subst ht
  obtain⟨x,h1,h2⟩:=uI (P:=P) hT (show eX T M t len (ps.toList.map (·.1)) (ps.toList.map fun x=>e x.2) K from h)
  refine⟨.mk len len x,h1,fun{ρ f w M' r} hf hs hr jq=>?_⟩
  obtain⟨m1,m2⟩:=E7 hf
  obtain⟨ρ',w',k1,k2,k3,k4,k5⟩:=h2 hs hr jq m2
  refine⟨ρ',w',?_,k2,k3,k4,k5⟩
  have e1:(ps.map fun(i,x)=>(i,f x))=((ps.toList.map (·.1)).zip ((ps.toList.map fun x=>e x.2).map (AV.c ρ))).toArray:=by
   apply Array.toList_inj.1
   rw[Array.toList_map,List.toList_toArray]
   exact m1
  rw[←e1]at k1
  show((do pure (.value (←Instr.buildSlice t len (ps.map fun(i,x)=>(i,f x)))):Sem Next)).run P w=_
  simp[k1]
 ·rename_i t l c
  injection ht with ht;subst ht
  obtain⟨ln,cp,x,h1,h2⟩:=vg (P:=P) hT (show fz T M t (e l) (e c) K from h)
  refine⟨.mk ln cp x,h1,fun{ρ f w M' r} hf hs hr jq=>?_⟩
  obtain⟨ρ',w',k1,k2,k3,k4,k5⟩:=h2 hs hr jq
  refine⟨ρ',w',?_,k2,k3,k4,k5⟩
  rw[←(hf l (by simp)).1,←(hf c (by simp)).1]at k1
  show((do pure (.value (←Instr.makeSlice t (f l) (f c))):Sem Next)).run P w=_
  simp[k1]
 ·cases ht
def iM (ops:Array Oper)(j:Nat):Option Nat:=match ops[j]? with
 |some o=>o.dst
 |none=>none
def qv (ops:Array Oper):Bool:=(List.range ops.size).all fun i=>match ops[i]? with
 |none=>false
 |some o=>match o.dst,xn o.op with
  |some d,some tk=>o.guard.isNone&&cm o.op&&(o.after.toList.all fun e=>Nat.blt e.on i)&&((List.range ops.size).all fun j=>Nat.beq j i||!(iM ops j==some d))&&
   tk.all fun x=>match x with
    | .tmp t=>(List.range ops.size).all fun j=>!(iM ops j==some t)||(Nat.blt j i&&o.after.toList.any fun e=>Nat.beq e.on j&&Region.binds .any e)
    |_=>true
  |_,_=>false
structure Qk (ops:Array Oper)(i:Nat)(o:Oper)(d:Nat)(tk:List Operand):Prop where
 get:ops[i]?=some o
 dst:o.dst=some d
 takes:xn o.op=some tk
 guard:o.guard=none
 before:∀e∈o.after,e.on<i
 apart:∀j,j<ops.size→j≠i→iM ops j≠some d
 WD:∀t,Operand.tmp t∈tk→∀j,j<ops.size→iM ops j=some t→j<i∧∃e∈o.after,e.on=j∧Region.binds .any e=true
theorem m7 {ops:Array Oper}(h:qv ops=true){i:Nat}(hi:i<ops.size):∃o d tk,Qk ops i o d tk:=by
 unfold qv at h
 have h1:=List.all_eq_true.1 h i (List.mem_range.2 hi)
 split at h1
 ·cases h1
 ·rename_i o ho
  split at h1
  ·rename_i d tk hd ht
   simp only[Bool.and_eq_true]at h1
   obtain⟨⟨⟨⟨g1,_⟩,g2⟩,g3⟩,g4⟩:=h1
   refine⟨o,d,tk,ho,hd,ht,by simpa using g1,?_,?_,?_⟩
   ·intro e he
    have:=List.all_eq_true.1 g2 e (by simpa using he)
    simpa using this
   ·intro j hj fC EA
    have:=List.all_eq_true.1 g3 j (List.mem_range.2 hj)
    simp only[Bool.or_eq_true]at this
    rcases this with h|h
    ·exact fC (Nat.eq_of_beq_eq_true h)
    ·rw[EA]at h;simp at h
   ·intro t RG j hj EA
    have:=List.all_eq_true.1 g4 _ RG
    simp only at this
    have:=List.all_eq_true.1 this j (List.mem_range.2 hj)
    rw[EA]at this
    simp only[beq_self_eq_true,Bool.not_true,Bool.false_or,Bool.and_eq_true]at this
    refine⟨by simpa using this.1,?_⟩
    obtain⟨e,he,h2⟩:=List.any_eq_true.1 this.2
    simp only[Bool.and_eq_true]at h2
    exact⟨e,by simpa using he,Nat.eq_of_beq_eq_true h2.1,h2.2⟩
  ·cases h1
section
variable{P:Program}{T:List TI}{n:Nat}{W:List Nat}{ops:Array Oper}{a0:AA}{M0:AH}
def cM (f:Nat→Ef):Nat→Nat
 |0=>0
 |k+1=>cM f k+(f k).BA.length
def AZ (M0:AH)(f:Nat→Ef)(k:Nat):Nat:=M0.length+cM f k
def aD (n:Nat)(ops:Array Oper)(a0:AA)(M0:AH)(f:Nat→Ef)(d:Nat→Bool):Nat→AA
 |0=>a0
 |k+1=>match d k with
  |true=>(aD n ops a0 M0 f d k).put n (iM ops k) ((f k).v (AZ M0 f k))
  |false=>aD n ops a0 M0 f d k
def oD (b:Bool):Ef→List AO
 | .val _=>[]
 | .mk _ _ x=>match b with
   |true=>[.one true 0 x]
   |false=>[.gone]
def mD (f:Nat→Ef)(d:Nat→Bool):Nat→AH
 |0=>[]
 |k+1=>mD f d k++oD (d k) (f k)
theorem OM (b:Bool)(e:Ef):(oD b e).length=e.BA.length:=by cases e<;>cases b<;>rfl
theorem Lp (e:Ef):oD true e=e.BA:=by cases e<;>rfl
theorem ma (f:Nat→Ef)(d:Nat→Bool):∀k,(mD f d k).length=cM f k
 |0=>rfl
 |k+1=>by simp only[mD,cM,List.length_append,ma f d k,OM]
theorem uH {f g:Nat→Ef}:∀{k:Nat},(∀j,j<k→f j=g j)→cM f k=cM g k
 |0,_=>rfl
 |k+1,h=>by simp only[cM];rw[uH fun j hj=>h j (by omega),h k (by omega)]
theorem uP {f g:Nat→Ef}{d:Nat→Bool}:∀{k:Nat},(∀j,j<k→f j=g j)→aD n ops a0 M0 f d k=aD n ops a0 M0 g d k
 |0,_=>rfl
 |k+1,h=>by
  simp only[aD]
  rw[uP fun j hj=>h j (by omega),h k (by omega)]
  unfold AZ
  rw[uH fun j hj=>h j (by omega)]
theorem zX {f g:Nat→Ef}{d:Nat→Bool}:∀{k:Nat},(∀j,j<k→f j=g j)→mD f d k=mD g d k
 |0,_=>rfl
 |k+1,h=>by simp only[mD];rw[zX fun j hj=>h j (by omega),h k (by omega)]
def tt (_:Nat):Bool:=true
theorem vT (hT:ao P T)(aA:qv ops=true){K:AA→AH→Prop}{Kp:AV→AH→Prop}:∀(j k:Nat)(f:Nat→Ef),k+j=ops.size→p9 P T n W ops Kp K (ops.toList.drop k) (aD n ops a0 M0 f tt k) (M0++mD f tt k)→
 ∃g:Nat→Ef,(∀i,i<k→g i=f i)∧(∀i,k≤i→i<ops.size→∃o d tk,Qk ops i o d tk∧Jv P o tk (oV (aD n ops a0 M0 g tt i)) (g i))∧K (aD n ops a0 M0 g tt ops.size) (M0++mD g tt ops.size)
 |0,k,f,hk,h=>by
  obtain rfl:k=ops.size:=by omega
  rw[List.drop_of_length_le (by simp)]at h
  exact⟨f,fun _ _=>rfl,fun i h1 h2=>by omega,h⟩
 |j+1,k,f,hk,h=>by
  have QD:k<ops.size:=by omega
  obtain⟨o,d,tk,hm⟩:=m7 aA QD
  have IF:ops.toList.drop k=o::ops.toList.drop (k+1):=by
   rw[List.drop_eq_getElem_cons (by simpa using QD)]
   congr 1
   have:=hm.get
   rw[Array.getElem?_eq_getElem QD]at this
   simpa using this
  rw[IF]at h
  simp only[p9,lP]at h
  replace h:=(aq h).2
  unfold kX at h
  rw[hm.guard]at h
  simp only at h
  obtain⟨e,h1,h2⟩:=Wt hT hm.takes h
  have hf:∀i,i<k→(fun i=>if i=k then e else f i) i=f i:=fun i hi=>by simp only;rw[if_neg (by omega)]
  have ha:aD n ops a0 M0 (fun i=>if i=k then e else f i) tt k=aD n ops a0 M0 f tt k:=uP hf
  have YA:mD (fun i=>if i=k then e else f i) tt k=mD f tt k:=zX hf
  have hc:cM (fun i=>if i=k then e else f i) k=cM f k:=uH hf
  have hd:iM ops k=o.dst:=by unfold iM;rw[hm.get]
  have hlen:(M0++mD f tt k).length=AZ M0 (fun i=>if i=k then e else f i) k:=by rw[List.length_append,ma];unfold AZ;rw[hc]
  have XA:(fun i=>if i=k then e else f i) k=e:=if_pos rfl
  obtain⟨g,g1,g2,g3⟩:=vT hT aA j (k+1) (fun i=>if i=k then e else f i) (by omega) (by
   have e1:aD n ops a0 M0 (fun i=>if i=k then e else f i) tt (k+1)=(aD n ops a0 M0 f tt k).put n o.dst (e.v (M0++mD f tt k).length):=by
    show(aD n ops a0 M0 (fun i=>if i=k then e else f i) tt k).put n (iM ops k) (((fun i=>if i=k then e else f i) k).v _)=_
    rw[ha,hd,XA,hlen]
   have e2:M0++mD (fun i=>if i=k then e else f i) tt (k+1)=M0++mD f tt k++e.BA:=by
    show M0++(mD (fun i=>if i=k then e else f i) tt k++oD true ((fun i=>if i=k then e else f i) k))=_
    rw[YA,XA,Lp,List.append_assoc]
   rw[e1,e2]
   exact h1)
  refine⟨g,fun i hi=>by rw[g1 i (by omega)];exact hf i hi,fun i Ey hi=>?_,g3⟩
  rcases Nat.lt_or_ge k i with h3|h3
  ·exact g2 i h3 hi
  ·obtain rfl:i=k:=by omega
   have e3:aD n ops a0 M0 g tt i=aD n ops a0 M0 f tt i:=uP fun j hj=>by rw[g1 j (by omega)];exact hf j hj
   refine⟨o,d,tk,hm,?_⟩
   rw[e3,g1 i (by omega),if_pos rfl]
   exact h2
theorem mF {f:Nat→Ef}{d:Nat→Bool}{t:Nat}:∀{k:Nat},(∀j,j<k→d j=true→iM ops j≠some t)→aD n ops a0 M0 f d k t=a0 t
 |0,_=>rfl
 |k+1,h=>by
  have ih:=mF (f:=f) (d:=d) (k:=k) fun j hj=>h j (by omega)
  simp only[aD]
  cases hd:d k with
  |false=>exact ih
  |true=>
   have hk:=h k (by omega) hd
   simp only
   unfold AA.put
   cases he:iM ops k with
   |none=>exact ih
   |some u=>
    simp only
    have:Nat.beq t u=false:=by
     cases hb:Nat.beq t u with
     |false=>rfl
     |true=>exact absurd (by rw[he,Nat.eq_of_beq_eq_true hb]) hk
    rw[this];exact ih
theorem qR {f:Nat→Ef}{d:Nat→Bool}{t i:Nat}(hi:iM ops i=some t)(PV:d i=true):∀{k:Nat},i<k→(∀j,j<k→j≠i→iM ops j≠some t)→
 aD n ops a0 M0 f d k t=if Nat.blt t n=true then(f i).v (AZ M0 f i)else a0 t
 |0,h,_=>by omega
 |k+1,h,hu=>by
  rcases Nat.lt_or_ge i k with h1|h1
  ·have ih:=qR (f:=f) (d:=d) hi PV (k:=k) h1 fun j hj=>hu j (by omega)
   have hk:=hu k (by omega) (by omega)
   simp only[aD]
   cases hd:d k with
   |false=>exact ih
   |true=>
    simp only
    unfold AA.put
    cases he:iM ops k with
    |none=>exact ih
    |some u=>
     simp only
     have:Nat.beq t u=false:=by
      cases hb:Nat.beq t u with
      |false=>rfl
      |true=>exact absurd (by rw[he,Nat.eq_of_beq_eq_true hb]) hk
     rw[this];exact ih
  ·obtain rfl:i=k:=by omega
   have hn:=mF (n:=n) (a0:=a0) (M0:=M0) (f:=f) (d:=d) (ops:=ops) (t:=t) (k:=i) fun j hj _=>hu j (by omega) (by omega)
   simp only[aD,PV]
   unfold AA.put
   rw[hi]
   simp only[Nat.beq_refl,Bool.true_and]
   cases hb:Nat.blt t n with
   |true=>rfl
   |false=>exact hn
theorem ES {f:Nat→Ef}{i:Nat}:∀{k:Nat},i≤k→cM f i≤cM f k
 |0,h=>by obtain rfl:i=0:=by omega
          exact Nat.le_refl _
 |k+1,h=>by
  rcases Nat.lt_or_ge k i with h1|h1
  ·obtain rfl:i=k+1:=by omega
   exact Nat.le_refl _
  ·exact Nat.le_trans (ES h1) (Nat.le_add_right _ _)
theorem H5 {e:Ef}(h:e.O2=true):e.BA.length=1:=by cases e;cases h;rfl
theorem ET {f:Nat→Ef}{i k:Nat}(hi:(f i).O2=true)(h:i<k):cM f i<cM f k:=by
 have:=ES (f:=f) (show i+1≤k from h)
 simp only[cM,H5 hi]at this
 omega
theorem MQ {f:Nat→Ef}{d:Nat→Bool}{i l c:Nat}{x:ae}(hi:f i=.mk l c x):∀{k:Nat},i<k→(mD f d k)[cM f i]?=some (match d i with|true=>.one true 0 x|false=>.gone)
 |0,h=>by omega
 |k+1,h=>by
  simp only[mD]
  rcases Nat.lt_or_ge i k with h1|h1
  ·rw[List.getElem?_append_left (by rw[ma];exact ET (by rw[hi];rfl) h1)]
   exact MQ hi h1
  ·obtain rfl:i=k:=by omega
   rw[List.getElem?_append_right (by rw[ma];exact Nat.le_refl _),ma,Nat.sub_self,hi]
   cases d i<;>rfl
theorem HV {f:Nat→Ef}{d d':Nat→Bool}{i l c:Nat}{x:ae}(hi:f i=.mk l c x)(hd:d' i=true)(ho:∀j,j≠i→d' j=d j):∀{k:Nat},i<k→(mD f d k).set (cM f i) (.one true 0 x)=mD f d' k
 |0,h=>by omega
 |k+1,h=>by
  simp only[mD]
  rcases Nat.lt_or_ge i k with h1|h1
  ·rw[List.set_append_left _ _ (by rw[ma];exact ET (by rw[hi];rfl) h1),HV hi hd ho h1,ho k (by omega)]
  ·obtain rfl:i=k:=by omega
   have e:mD f d' i=mD f d i:=by
    clear h h1
    have:∀m,m≤i→mD f d' m=mD f d m:=by
     intro m
     induction m with
     |zero=>intro _;rfl
     |succ m ih=>intro hm;simp only[mD];rw[ih (by omega),ho m (by omega)]
    exact this i (Nat.le_refl _)
   rw[List.set_append_right _ _ (by rw[ma];exact Nat.le_refl _),ma,Nat.sub_self,e,hi,hd]
   cases d i<;>rfl
theorem HU {f:Nat→Ef}{d d':Nat→Bool}{i:Nat}{v:AV}(hi:f i=.val v)(ho:∀j,j≠i→d' j=d j):∀k:Nat,mD f d' k=mD f d k
 |0=>rfl
 |k+1=>by
  simp only[mD]
  rw[HU hi ho k]
  by_cases e:k=i
  ·subst e;rw[hi];rfl
  ·rw[ho k e]
theorem Eh {f:Nat→Ef}:∀k,∀o∈mD f (fun _=>false) k,o=.gone
 |0,o,h=>by cases h
 |k+1,o,h=>by
  simp only[mD]at h
  rcases List.mem_append.1 h with h|h
  ·exact Eh k o h
  ·cases hf:f k with
   |val v=>rw[hf]at h;cases h
   |mk l c x=>rw[hf]at h;exact List.mem_singleton.1 h
theorem n7 {M L:AH}(hL:∀o∈L,o=.gone)(i g:Nat):slot (M++L) i g=slot M i g:=by
 unfold slot
 rcases Nat.lt_or_ge i M.length with h|h
 ·rw[List.getElem?_append_left h]
 ·rw[List.getElem?_append_right h,List.getElem?_eq_none h]
  cases ho:L[i-M.length]? with
  |none=>rfl
  |some o=>rw[hL o (List.mem_of_getElem? ho)];rfl
theorem Fl {ρ:Env}{M L:AH}{w:World}(hs:aR ρ M w)(hL:∀o∈L,o=.gone):aR ρ (M++L) w∧Ext ρ M w ρ (M++L) w:=by
 have cj:∀(i:Nat)(o:AO),(M++L)[i]?=some o→o≠AO.gone→M[i]?=some o:=by
  intro i o h hn
  rcases Nat.lt_or_ge i M.length with h1|h1
  ·rwa[List.getElem?_append_left h1]at h
  ·rw[List.getElem?_append_right h1]at h
   exact absurd (hL o (List.mem_of_getElem? h)) hn
 refine⟨⟨fun i g h=>by have:=hs.nw i g h;rw[List.length_append];omega,fun i g own g' x h=>hs.tag i g own g' x (cj i _ h (by simp)),fun i g own m x h=>hs.bu i g own m x (cj i _ h (by simp)),fun i g own x h=>?_,fun i g x i' g' bn x' q q' h h'=>?_⟩,
  fun _ _ _ h=>h,Nat.le_refl _,fun _ _ _=>rfl,fun i g x q h1 h2 _=>?_,rfl,rfl,rfl⟩
 ·rw[n7 hL]at h;exact hs.holds i g own x h
 ·rw[n7 hL]at h h';exact hs.apart i g x i' g' bn x' q q' h h'
 ·rw[n7 hL]at h1;exact⟨i,g,x,q,h1,h2,rfl⟩
def jR (d:Nat→Bool):Nat→Nat
 |0=>0
 |k+1=>jR d k+(match d k with|true=>0|false=>1)
theorem sT {d:Nat→Bool}:∀{k:Nat},jR d k=0→∀j,j<k→d j=true
 |0,_,j,hj=>by omega
 |k+1,h,j,hj=>by
  simp only[jR]at h
  cases hd:d k with
  |false=>rw[hd]at h;simp at h
  |true=>
   rw[hd]at h
   simp only[Nat.add_zero]at h
   rcases(show j<k∨j=k by omega)with h1|rfl
   ·exact sT (by omega) j h1
   ·exact hd
theorem vY {d d':Nat→Bool}{i:Nat}(hd:d i=false)(nE:d' i=true)(ho:∀j,j≠i→d' j=d j):∀{k:Nat},i<k→jR d' k+1=jR d k
 |0,h=>by omega
 |k+1,h=>by
  simp only[jR]
  rcases Nat.lt_or_ge i k with h1|h1
  ·have:=vY hd nE ho h1
   rw[ho k (by omega)];omega
  ·obtain rfl:i=k:=by omega
   have:∀m,m≤i→jR d' m=jR d m:=by
    intro m
    induction m with
    |zero=>intro _;rfl
    |succ m ih=>intro hm;simp only[jR];rw[ih (by omega),ho m (by omega)]
   rw[this i (Nat.le_refl _),hd,nE]
   rfl
variable{r:Option Nat}{Q:Exit→Act→World→Prop}{ds:List Nat}{D:List Deferred}
theorem HT (aA:qv ops=true){g:Nat→Ef}{ρ0:Env}{w0:World}(YT:∀i gg,(ρ0 i gg).isSome=true→i<M0.length)
 (hg:∀i,i<ops.size→∃o d tk,Qk ops i o d tk∧Jv P o tk (oV (aD n ops a0 M0 g tt i)) (g i))
 (hK:∀ρ' w' aH,bs ρ' D n (aD n ops a0 M0 g tt ops.size) aH→aR ρ' (M0++mD g tt ops.size) w'→Ext ρ0 M0 w0 ρ' (M0++mD g tt ops.size) w'→Q .normal aH w'):
 ∀(f:Nat)(l:Array Bool)(ρ:Env)(w:World)(act:Act),l.size=ops.size→jR (fun k=>l.getD k false) ops.size≤f→
  aR ρ (M0++mD g (fun k=>l.getD k false) ops.size) w→Ext ρ0 M0 w0 ρ (M0++mD g (fun k=>l.getD k false) ops.size) w→bs ρ D n (aD n ops a0 M0 g (fun k=>l.getD k false) ops.size) act→
  (∀k,k<ops.size→(g k).O2=true→l.getD k false=false→∀gg,ρ (AZ M0 g k) gg=none)→anyS r P ops Q (fun _=>True) ds f l act w:=by
 have fin:∀(l:Array Bool)(ρ:Env)(w:World)(act:Act),(∀k,k<ops.size→l.getD k false=true)→aR ρ (M0++mD g (fun k=>l.getD k false) ops.size) w→Ext ρ0 M0 w0 ρ (M0++mD g (fun k=>l.getD k false) ops.size) w→bs ρ D n (aD n ops a0 M0 g (fun k=>l.getD k false) ops.size) act→Q .normal act w:=by
  intro l ρ w act hall hs hE ha
  have e1:∀k,k≤ops.size→mD g (fun k=>l.getD k false) k=mD g tt k:=by
   intro k
   induction k with
   |zero=>intro _;rfl
   |succ k ih=>intro hk;simp only[mD];rw[ih (by omega),hall k (by omega)];rfl
  have e2:∀k,k≤ops.size→aD n ops a0 M0 g (fun k=>l.getD k false) k=aD n ops a0 M0 g tt k:=by
   intro k
   induction k with
   |zero=>intro _;rfl
   |succ k ih=>intro hk;simp only[aD];rw[ih (by omega),hall k (by omega)];rfl
  rw[e1 _ (Nat.le_refl _)]at hs hE
  rw[e2 _ (Nat.le_refl _)]at ha
  exact hK ρ w act ha hs hE
 have NL:∀(l:Array Bool),l.size=ops.size→Region.ready .any ops l=[]→∀k,k<ops.size→l.getD k false=true:=by
  intro l hl hr k
  induction k using Nat.strongRecOn with
  |_ k ih=>
   intro hk
   cases hd:l.getD k false with
   |true=>rfl
   |false=>
    exfalso
    obtain⟨o,d,tk,hm⟩:=m7 aA hk
    have:k∈Region.ready .any ops l:=by
     rw[mem_ready]
     refine⟨?_,o,hm.get,fun e he _=>ih e.on (hm.before e he) (Nat.lt_trans (hm.before e he) hk)⟩
     have GL:k<l.size:=by omega
     simp only[Array.getD,GL,dif_pos]at hd⊢
     exact hd
    rw[hr]at this;cases this
 intro f
 induction f with
 |zero=>
  intro l ρ w act hl hf hs hE ha hu
  have hall:=sT (show jR (fun k=>l.getD k false) ops.size=0 by omega)
  refine⟨?_,fin l ρ w act hall hs hE ha⟩
  rw[List.eq_nil_iff_forall_not_mem]
  intro k hk
  obtain⟨h1,o,ho,_⟩:=mem_ready.1 hk
  have QD:=(Array.getElem?_eq_some_iff.1 ho).1
  have h2:=hall k QD
  have GL:k<l.size:=by omega
  simp only[Array.getD,GL,dif_pos]at h1 h2
  rw[h1]at h2;cases h2
 |succ f W3=>
  intro l ρ w act hl hf hs hE ha hu
  refine⟨fun hr=>fin l ρ w act (NL l hl hr) hs hE ha,fun i hi o' tQ=>?_⟩
  obtain⟨h1,o1,Qy,Si⟩:=mem_ready.1 hi
  have QG:=(Array.getElem?_eq_some_iff.1 Qy).1
  obtain⟨o,d,tk,hm,Uu⟩:=hg i QG
  have e0:=hm.get
  rw[tQ]at e0;injection e0 with e0;subst e0
  have e0:=hm.get
  rw[Qy]at e0;injection e0 with e0;subst e0
  have mg:i<l.size:=by omega
  have PV:l.getD i false=false:=by simp only[Array.getD,mg,dif_pos]at h1⊢;exact h1
  have PS:iM ops i=some d:=by unfold iM;rw[hm.get];exact hm.dst
  have VS:∀x∈tk,oV (aD n ops a0 M0 g (fun k=>l.getD k false) ops.size) x=oV (aD n ops a0 M0 g tt i) x:=by
   intro x hx
   cases x with
   |tmp t=>
    show aD n ops a0 M0 g (fun k=>l.getD k false) ops.size t=aD n ops a0 M0 g tt i t
    by_cases hex:∃j,j<ops.size∧iM ops j=some t
    ·obtain⟨j,hj,F8⟩:=hex
     obtain⟨fC,e,he,YP,hb⟩:=hm.WD t hx j hj F8
     have JH:l.getD j false=true:=by rw[←YP];exact Si e he hb
     obtain⟨oj,dj,tj,vl⟩:=m7 aA hj
     have PT:dj=t:=by
      have:iM ops j=some dj:=by unfold iM;rw[vl.get];exact vl.dst
      rw[F8]at this;injection this with this;exact this.symm
     have RA:∀k,k<ops.size→k≠j→iM ops k≠some t:=fun k hk LY=>by rw[←PT];exact vl.apart k hk LY
     rw[qR F8 JH hj RA,qR (d:=tt) F8 rfl fC fun k hk=>RA k (by omega)]
    ·rw[mF fun j hj _ h=>hex ⟨j,hj,h⟩,mF fun j hj _ h=>hex ⟨j,by omega,h⟩]
   |const v=>rfl
   |global g=>rfl
   |func f=>rfl
  have vo:∀x∈tk,act.eval x=(oV (aD n ops a0 M0 g tt i) x).c ρ∧(oV (aD n ops a0 M0 g tt i) x).ok ρ:=by
   intro x hx
   have:=ha.ev x
   rw[VS x hx]at this
   exact this
  have nE:∀k,(l.setIfInBounds i true).getD k false=if k=i then true else l.getD k false:=by
   intro k
   simp only[Array.getD_eq_getD_getElem?,Array.getElem?_setIfInBounds]
   by_cases e:i=k
   ·subst e;simp[mg]
   ·rw[if_neg e,if_neg (fun h=>e h.symm)]
  have PU:(fun k=>(l.setIfInBounds i true).getD k false) i=true:=by simp only[nE];simp
  have VT:∀j,j≠i→(fun k=>(l.setIfInBounds i true).getD k false) j=(fun k=>l.getD k false) j:=fun j hj=>by simp only[nE];rw[if_neg hj]
  have Uy:aD n ops a0 M0 g (fun k=>(l.setIfInBounds i true).getD k false) ops.size=(aD n ops a0 M0 g (fun k=>l.getD k false) ops.size).put n (some d) ((g i).v (AZ M0 g i)):=by
   funext t
   by_cases ht:t=d
   ·subst ht
    rw[qR PS PU QG hm.apart]
    have hn:aD n ops a0 M0 g (fun k=>l.getD k false) ops.size t=a0 t:=mF fun j hj JH h=>by
     by_cases e:j=i
     ·subst e;have IG:l.getD j false=true:=JH;rw[PV]at IG;cases IG
     ·exact hm.apart j hj e h
    unfold AA.put
    simp only[Nat.beq_refl,Bool.true_and,hn]
    cases Nat.blt t n<;>rfl
   ·have hp:(aD n ops a0 M0 g (fun k=>l.getD k false) ops.size).put n (some d) ((g i).v (AZ M0 g i)) t=aD n ops a0 M0 g (fun k=>l.getD k false) ops.size t:=by
     unfold AA.put
     simp only
     have:Nat.beq t d=false:=by
      cases hb:Nat.beq t d with
      |false=>rfl
      |true=>exact absurd (Nat.eq_of_beq_eq_true hb) ht
     rw[this];rfl
    rw[hp]
    by_cases hex:∃j,j<ops.size∧iM ops j=some t∧l.getD j false=true
    ·obtain⟨j,hj,F8,JH⟩:=hex
     obtain⟨oj,dj,tj,vl⟩:=m7 aA hj
     have PT:dj=t:=by
      have:iM ops j=some dj:=by unfold iM;rw[vl.get];exact vl.dst
      rw[F8]at this;injection this with this;exact this.symm
     have fC:j≠i:=fun e=>by subst e;rw[PS]at F8;injection F8 with F8;exact ht F8.symm
     have RA:∀k,k<ops.size→k≠j→iM ops k≠some t:=fun k hk LY=>by rw[←PT];exact vl.apart k hk LY
     rw[qR F8 (show(l.setIfInBounds i true).getD j false=true by rw[nE j,if_neg fC];exact JH) hj RA,qR F8 JH hj RA]
    ·rw[mF fun j hj JH h=>?_,mF fun j hj JH h=>hex ⟨j,hj,h,JH⟩]
     by_cases e:j=i
     ·subst e;rw[PS]at h;injection h with h;exact ht h.symm
     ·have IG:(l.setIfInBounds i true).getD j false=true:=JH
      rw[nE j,if_neg e]at IG;exact hex ⟨j,hj,h,IG⟩
  have M3:=vY (d:=fun k=>l.getD k false) PV PU VT QG
  unfold vf
  rw[if_pos (by unfold Region.wanted;rw[hm.guard])]
  cases PM:g i with
  |val v=>
   rw[PM]at Uu Uy
   obtain⟨v1,v2⟩:=Uu vo
   rw[v2 w]
   have QA:mD g (fun k=>(l.setIfInBounds i true).getD k false) ops.size=mD g (fun k=>l.getD k false) ops.size:=HU PM VT _
   refine⟨fun _=>.inl rfl,W3 _ ρ w _ (by simpa using hl) (by omega) (by rw[QA];exact hs) (by rw[QA];exact hE) ?_ fun k hk kp L7=>hu k hk kp ?_⟩
   ·rw[Uy,hm.dst];exact ha.put (some d) v1
   ·rw[nE k]at L7
    split at L7
    ·cases L7
    ·exact L7
  |mk ln cp x=>
   rw[PM]at Uu Uy
   have Sg:(M0++mD g (fun k=>l.getD k false) ops.size)[AZ M0 g i]?=some .gone:=by
    unfold AZ
    rw[List.getElem?_append_right (by omega),Nat.add_sub_cancel_left,MQ PM QG]
    simp only[PV]
   have jq:=hu i QG (by rw[PM];rfl) PV
   obtain⟨ρ',w',k1,k2,k3,k4,k5⟩:=Uu vo hs Sg jq
   rw[k1]
   have BP:(M0++mD g (fun k=>l.getD k false) ops.size).set (AZ M0 g i) (.one true 0 x)=M0++mD g (fun k=>(l.setIfInBounds i true).getD k false) ops.size:=by
    unfold AZ
    rw[List.set_append_right _ _ (by omega),Nat.add_sub_cancel_left,HV PM PU VT QG]
   rw[BP]at k3 k4
   refine⟨fun _=>.inr trivial,W3 _ ρ' w' _ (by simpa using hl) (by omega) k3 (hE.trans k4) ?_ fun k hk kp L7 gg=>?_⟩
   ·rw[Uy,hm.dst];exact(ha.ext k4.env).put (some d) k2
   ·rw[nE k]at L7
    split at L7
    ·cases L7
    ·rename_i Ut
     rw[k5 _ gg ?_]
     ·exact hu k hk kp L7 gg
     ·unfold AZ
      rcases Nat.lt_or_ge k i with h|h
      ·have:=ET kp h;omega
      ·have:=ET (f:=g) (i:=i) (k:=k) (by rw[PM];rfl) (by omega);omega
theorem ra (hT:ao P T)(aA:qv ops=true){K:AA→AH→Prop}{Kp:AV→AH→Prop}{ρ0:Env}{w0:World}{act:Act}(hs:aR ρ0 M0 w0)(ha:bs ρ0 D n a0 act)(h:p9 P T n W ops Kp K ops.toList a0 M0)
 (hK:∀a' aH M' ρ' w',K a' M'→bs ρ' D n a' aH→aR ρ' M' w'→Ext ρ0 M0 w0 ρ' M' w'→Q .normal aH w'):
 anyS r P ops Q (fun _=>True) ds ops.size (Array.replicate ops.size false) act w0:=by
 obtain⟨g,_,g2,g3⟩:=vT (a0:=a0) (M0:=M0) (n:=n) (W:=W) hT aA (K:=K) (Kp:=Kp) ops.size 0 (fun _=>.val .ns) (by omega) (by
  show p9 P T n W ops Kp K (ops.toList.drop 0) a0 (M0++[])
  rw[List.append_nil];exact h)
 have VX:(fun k=>(Array.replicate ops.size false).getD k false)=fun _=>false:=by
  funext k
  simp only[Array.getD_eq_getD_getElem?,Array.getElem?_replicate]
  split<;>rfl
 have Iq:=Eh (f:=g) ops.size
 obtain⟨s1,s2⟩:=Fl hs Iq
 have Md:aD n ops a0 M0 g (fun _=>false) ops.size=a0:=by
  funext t
  exact mF fun j _ h=>by cases h
 refine HT aA hs.nw (fun i hi=>g2 i (Nat.zero_le _) hi) (fun ρ' w' aH h1 h2 h3=>hK _ _ _ _ _ g3 h1 h2 h3) ops.size _ ρ0 w0 act (by simp) ?_ (by rw[VX];exact s1) (by rw[VX];exact s2) (by rw[VX,Md];exact ha) fun k hk kp _ gg=>?_
 ·have:∀(d:Nat→Bool) k,jR d k≤k:=by
   intro d k
   induction k with
   |zero=>exact Nat.le_refl _
   |succ k ih=>simp only[jR];split<;>omega
  exact this _ _
 ·cases hh:ρ0 (AZ M0 g k) gg with
  |none=>rfl
  |some q=>
   have:=hs.nw (AZ M0 g k) gg (by rw[hh];rfl)
   unfold AZ at this;omega
end
end Go.Proofs.Ytibadaomjlkoaaa
open Go.RowKit
namespace Go.Proofs.Ytibadaomjlkoaaa
inductive iT where
 |normal
 |exit (id:Nat)
 |ret
def Marks (B:Nat)(D D':List Deferred)(w:World):Prop:=
 ∃rs:List Nat,D'=rs.map (fun r=>{target:=.collected r,args:=#[]})++D∧rs.Nodup∧∀r∈rs,B≤r∧w.heap[r]?=some (.deferred (some []))
theorem Marks.refl (B:Nat)(D:List Deferred)(w:World):Marks B D D w:=⟨[],rfl,List.nodup_nil,fun _ h=>by cases h⟩
theorem bH.fj {ρ:Env}{own:Bool}{x:ae}{b base:Nat}{w:World}(h:bH ρ own x b base w){c:Option (List Deferred)}:w.heap[b]?≠some (.deferred c):=by
 intro e
 rcases h.all with⟨_,c,el,fr,h1,_⟩|⟨_,_,h1⟩
 ·rw[e]at h1;cases h1
 ·cases x with
  |map kk es=>obtain⟨_,_,h1,_⟩:=h1;rw[e]at h1;cases h1
  |loop l st pd fn n a ps as bd df=>obtain⟨_,_,h1,_⟩:=h1;rw[e]at h1;cases h1
  |cells _=>exact h1.elim
  |ints _ _ _=>exact h1.elim
  |bN _ _=>exact h1.elim
  |cI _ _ _ _=>exact h1.elim
theorem aR.fj {ρ:Env}{M:AH}{w:World}(h:aR ρ M w){i g:Nat}{own:Bool}{x:ae}{q:Nat×Nat}(hs:slot M i g=some (own,x))(hq:ρ i g=some (some q)){c:Option (List Deferred)}:w.heap[q.1]?≠some (.deferred c):=by
 rcases h.holds i g own x hs with⟨q',e1,e2⟩|⟨e1,_⟩
 ·rw[hq]at e1;injection e1 with e1;injection e1 with e1;subst e1;exact e2.fj
 ·rw[hq]at e1;cases e1
theorem Marks.kV {B:Nat}{D D':List Deferred}{ρ ρ':Env}{M M':AH}{w w':World}(hs:aR ρ M w)(hE:Ext ρ M w ρ' M' w')(h:Marks B D D' w):Marks B D D' w':=by
 obtain⟨rs,h0,hn,h1⟩:=h
 refine⟨rs,h0,hn,fun r hr=>⟨(h1 r hr).1,?_⟩⟩
 have h2:=(h1 r hr).2
 rw[hE.frame r (Array.getElem?_eq_some_iff.1 h2).1 (fun i g x q h3 h4 h5=>hs.fj h3 h4 (by rw[h5];exact h2))]
 exact h2
theorem Marks.trans {B:Nat}{D D' X3:List Deferred}{ρ ρ':Env}{M M':AH}{w w':World}(hB:B≤w.heap.size)(hs:aR ρ M w)(hE:Ext ρ M w ρ' M' w')(h:Marks B D D' w)(h':Marks w.heap.size D' X3 w'):Marks B D X3 w':=by
 have hk:=h.kV hs hE
 obtain⟨rs,rfl,hn,h1⟩:=h
 obtain⟨X7,rfl,A4,h2⟩:=h'
 obtain⟨ZI,e2,_,h3⟩:=hk
 have aZ:∀r∈rs,r<w.heap.size:=fun r hr=>(Array.getElem?_eq_some_iff.1 (h1 r hr).2).1
 have BR:∀r∈rs,w'.heap[r]?=some (.deferred (some [])):=fun r hr=>by
  have h2:=(h1 r hr).2
  rw[hE.frame r (aZ r hr) (fun i g x q h3 h4 h5=>hs.fj h3 h4 (by rw[h5];exact h2))]
  exact h2
 refine⟨X7++rs,by simp,?_,fun r hr=>?_⟩
 ·rw[List.nodup_append]
  refine⟨A4,hn,fun a ha b hb e=>?_⟩
  subst e
  have:=(h2 a ha).1
  have:=aZ a hb
  omega
 ·rcases List.mem_append.1 hr with hr|hr
  ·exact⟨Nat.le_trans hB (h2 r hr).1,(h2 r hr).2⟩
  ·exact⟨(h1 r hr).1,BR r hr⟩
theorem zn {ρ:Env}{M:AH}{w:World}(hs:aR ρ M w){r:Nat}{c:Option (List Deferred)}(h:w.heap[r]?=some (.deferred c))(o:Obj):aR ρ M (w.putObj r o):=by
 refine⟨hs.nw,hs.tag,hs.bu,fun i g own x cQ=>?_,hs.apart⟩
 rcases hs.holds i g own x cQ with⟨q,e1,e2⟩|e
 ·refine .inl ⟨q,e1,e2.ext (fun _ _ _ h=>h) (World.putObj_heap_other fun e=>?_)⟩
  exact hs.fj cQ e1 (by rw[e];exact h)
 ·exact .inr e
theorem An {ρ0 ρ:Env}{M0 M:AH}{w0 w:World}(hE:Ext ρ0 M0 w0 ρ M w){r:Nat}(hr:w0.heap.size≤r)(o:Obj):Ext ρ0 M0 w0 ρ M (w.putObj r o):=
 ⟨hE.env,by simpa using hE.size,fun b hb hn=>by rw[World.putObj_heap_other (by omega)];exact hE.frame b hb hn,hE.fresh,hE.os,hE.tape,hE.output⟩
theorem cK {F:Fence}{n:Nat}{P:Program}{fn:Func}{tmps:Array Value}{R:Ending→World→Prop}{ρ0 ρ:Env}{M0 M:AH}{w0:World}{u:FrameMode}(hu:u≠ .run)
 (qD:∀w,aR ρ M w→Ext ρ0 M0 w0 ρ M w→LeavesIn F n P fn tmps R [] u w):∀(rs:List Nat)(w:World),rs.Nodup→(∀r∈rs,w0.heap.size≤r∧w.heap[r]?=some (.deferred (some [])))→aR ρ M w→Ext ρ0 M0 w0 ρ M w→
 LeavesInM F n P fn tmps R (rs.map (fun r=>{target:=.collected r,args:=#[]})) u w
 |[],w,_,_,hs,hE=>qD w hs hE
 |r::rs,w,hn,h,hs,hE=>by
  obtain⟨h1,h2⟩:=h r List.mem_cons_self
  refine⟨hu,.inl ⟨r,_,rfl,run_takeDeferred h2,cK hu qD rs _ (List.nodup_cons.1 hn).2 (fun r' Ev=>⟨(h r' (List.mem_cons_of_mem _ Ev)).1,?_⟩) (zn hs h2 _) (An hE h1 _)⟩⟩
  rw[World.putObj_heap_other (fun e=>(List.nodup_cons.1 hn).1 (by rw[←e];exact Ev))]
  exact(h r' (List.mem_cons_of_mem _ Ev)).2
def ew (ρ0:Env)(M0:AH)(w0:World)(D:List Deferred)(n:Nat)(Q:iT→AA→AH→Prop)(Kp:AV→AH→Prop)(e:Exit)(act:Act)(w':World):Prop:=
 match e with
 | .normal=>∃ρ' M' a' D',aR ρ' M' w'∧Ext ρ0 M0 w0 ρ' M' w'∧Marks w0.heap.size D D' w'∧bs ρ' D' n a' act∧Q .normal a' M'
 | .exit id=>∃ρ' M' a' D',aR ρ' M' w'∧Ext ρ0 M0 w0 ρ' M' w'∧Marks w0.heap.size D D' w'∧bs ρ' D' n a' act∧Q (.exit id) a' M'
 | .ret=>∃ρ' M' a' D',aR ρ' M' w'∧Ext ρ0 M0 w0 ρ' M' w'∧Marks w0.heap.size D D' w'∧bs ρ' D' n a' act∧Q .ret a' M'
 | .panic ch=>∃ρ' M' v D',aR ρ' M' w'∧Ext ρ0 M0 w0 ρ' M' w'∧Marks w0.heap.size D D' w'∧act.defers=D'∧ch=[{v:=v.c ρ',recovered:=false}]∧v.ok ρ'∧Kp v M'
 |_=>False
theorem ew.from {ρ0 ρ:Env}{M0 M:AH}{w0 w:World}{D0 D:List Deferred}{n:Nat}{Q:iT→AA→AH→Prop}{Kp:AV→AH→Prop}{e:Exit}{act:Act}{w':World}(hE:Ext ρ0 M0 w0 ρ M w)(hs:aR ρ M w)(hM:Marks w0.heap.size D0 D w)
 (h:ew ρ M w D n Q Kp e act w'):ew ρ0 M0 w0 D0 n Q Kp e act w':=by
 cases e with
 |normal=>obtain⟨ρ',M',a',D',h1,h2,h3,h4⟩:=h;exact⟨ρ',M',a',D',h1,hE.trans h2,hM.trans hE.size hs h2 h3,h4⟩
 |exit id=>obtain⟨ρ',M',a',D',h1,h2,h3,h4⟩:=h;exact⟨ρ',M',a',D',h1,hE.trans h2,hM.trans hE.size hs h2 h3,h4⟩
 |ret=>obtain⟨ρ',M',a',D',h1,h2,h3,h4⟩:=h;exact⟨ρ',M',a',D',h1,hE.trans h2,hM.trans hE.size hs h2 h3,h4⟩
 |panic ch=>obtain⟨ρ',M',v,D',h1,h2,h3,h4⟩:=h;exact⟨ρ',M',v,D',h1,hE.trans h2,hM.trans hE.size hs h2 h3,h4⟩
 |goto l=>exact h.elim
 |outgrown=>exact h.elim
abbrev MA:=List (Nat×Value)
def dm (pin:MA)(act:Act):Prop:=∀p∈pin,act.tmps.getD p.1 undef=p.2
def qn (pin:MA)(d:Option Nat):Bool:=pin.all fun p=>!(d==some p.1)
theorem dm.put {pin:MA}{act:Act}{d:Option Nat}{v:Value}(h:dm pin act)(hd:qn pin d=true):dm pin (act.put d v):=by
 intro p hp
 have h1:=h p hp
 have h2:=List.all_eq_true.1 hd p hp
 cases d with
 |none=>exact h1
 |some t=>
  have ht:t≠p.1:=fun e=>by subst e;simp at h2
  show(act.tmps.setIfInBounds t v).getD p.1 undef=_
  rw[Array.getD_eq_getD_getElem?,Array.getElem?_setIfInBounds,if_neg ht,←Array.getD_eq_getD_getElem?]
  exact h1
def eG (pin:MA):Code→Bool
 | .region _ ops _=>ops.toList.all fun o=>qn pin o.dst
 | .seq a b=>eG pin a&&eG pin b
 | .cond _ a b=>eG pin a&&eG pin b
 | .block _ a=>eG pin a
 | .loop a=>eG pin a
 | .scope a=>eG pin a
 | .rangeFunc ..=>pin.isEmpty
 |_=>true
theorem zP (c:Code):eG [] c=true:=by
 induction c with
 |region id ops d=>simp[eG,qn]
 |seq a b h1 h2=>simp[eG,h1,h2]
 |cond o a b h1 h2=>simp[eG,h1,h2]
 |block id a h=>simp[eG,h]
 |loop a h=>simp[eG,h]
 |scope a h=>simp[eG,h]
 |rangeFunc f ps a b=>rfl
 |_=>rfl
theorem dm.nil (act:Act):dm [] act:=fun _ h=>by cases h
section
variable{P:Program}{r:Option Nat}{pin:MA}{Q:Exit→Act→World→Prop}
theorem yY {ops:Array Oper}{i:Nat}{K:Act→World→Prop}{a:Act}{w:World}(rl:¬LetsOut Q)(oA:∀o∈ops.toList,qn pin o.dst=true)(hp:dm pin a)(h:wpOpIn (FW r) 0 P ops Q i K a w):
 wpOpIn (FW r) 0 P ops (fun e a w=>Q e a w∧dm pin a) i (fun a w=>K a w∧dm pin a) a w:=by
 unfold wpOpIn at*
 cases ho:ops[i]? with
 |none=>rw[ho]at h;exact⟨h,hp⟩
 |some o=>
  rw[ho]at h
  simp only at h⊢
  have hd:qn pin o.dst=true:=oA o (by have:=Array.mem_of_getElem? ho;simpa using this)
  split
  ·rename_i hw
   rw[if_pos hw]at h
   unfold Oper.wpIn at*
   refine⟨h.1,?_⟩
   have hh:=h.2
   generalize(o.semAt (FW r).round a.eval).run P w=res at*
   have A5:∀{R:Exit→Act→World→Prop},LetsOut Q→LetsOut R:=fun h=>absurd h rl
   cases res with
   |ok x w'=>
    cases x<;>simp only[Oper.uponIn]at hh⊢<;>
     first
      |exact⟨hh,hp.put hd⟩
      |exact⟨hh,dm.put (act:={a with defers:=_::a.defers}) hp hd⟩
      |exact⟨hh.1,CallsIn.mono hh.2 (fun e uQ he=>by cases e<;>first|exact⟨he,hp.put hd⟩|exact⟨he,hp⟩|exact A5 he)⟩
      |exact⟨hh.1,RowsIn.mono hh.2 (fun _ _ he=>⟨he,hp.put hd⟩)⟩
      |exact⟨hh.1,RoundIn.mono hh.2 (fun e uQ he=>by cases e<;>first|exact⟨he,hp.put hd⟩|exact⟨he,hp⟩|exact A5 he)⟩
   |halt x w'=>cases x<;>simp only[Oper.uponIn]at hh⊢<;>first|exact⟨hh,hp⟩|exact hh
  ·rename_i hw
   rw[if_neg hw]at h
   exact⟨h.1,h.2,hp.put hd⟩
theorem oX {ops:Array Oper}{i:Nat}{K K':Act→World→Prop}{a:Act}{w:World}(hK:∀a w,K a w→K' a w)(h:wpOpIn (FW r) 0 P ops Q i K a w):wpOpIn (FW r) 0 P ops Q i K' a w:=by
 unfold wpOpIn at*
 split
 ·rename_i ho;rw[ho]at h;exact hK _ _ h
 ·rename_i o ho
  rw[ho]at h
  simp only at h
  split
  ·rename_i hw;rw[if_pos hw]at h;exact Oper.wpIn_mono hK h
  ·rename_i hw;rw[if_neg hw]at h;exact⟨h.1,hK _ _ h.2⟩
theorem vz {ops:Array Oper}(rl:¬LetsOut Q)(oA:∀o∈ops.toList,qn pin o.dst=true):∀(l:List Nat)(a:Act)(w:World),dm pin a→wpOpsIn (FW r) 0 P ops Q l a w→wpOpsIn (FW r) 0 P ops (fun e a w=>Q e a w∧dm pin a) l a w
 |[],a,w,hp,h=>⟨h,hp⟩
 |i::l,a,w,hp,h=>by
  rw[wpOpsIn_cons]at*
  exact oX (fun a w h=>vz rl oA l a w h.2 h.1) (yY rl oA hp h)
theorem pW {ops:Array Oper}(rl:¬LetsOut Q)(oA:∀o∈ops.toList,qn pin o.dst=true):∀(f:Nat)(l:Array Bool)(a:Act)(w:World),dm pin a→wpAnyIn (FW r) 0 P .any ops Q f l a w→wpAnyIn (FW r) 0 P .any ops (fun e a w=>Q e a w∧dm pin a) f l a w
 |0,l,a,w,hp,h=>⟨h.1,h.2,hp⟩
 |f+1,l,a,w,hp,h=>⟨fun hr=>⟨h.1 hr,hp⟩,fun i hi=>oX (fun a w h=>pW rl oA f _ a w h.2 h.1) (yY rl oA hp (h.2 i hi))⟩
end
def EV (pin:MA)(ρ0:Env)(M0:AH)(w0:World)(D:List Deferred)(n:Nat)(Q:iT→AA→AH→Prop)(Kp:AV→AH→Prop)(e:Exit)(act:Act)(w':World):Prop:=ew ρ0 M0 w0 D n Q Kp e act w'∧dm pin act
theorem ew.HK {ρ0:Env}{M0:AH}{w0:World}{D:List Deferred}{n:Nat}{Q:iT→AA→AH→Prop}{Kp:AV→AH→Prop}:¬LetsOut (ew ρ0 M0 w0 D n Q Kp):=fun⟨_,_,h⟩=>h
@[irreducible] def WA (P:Program)(r:Option Nat)(D0:List Deferred)(n:Nat)(c:Code)(Q:iT→AA→AH→Prop)(Kp:AV→AH→Prop)(a:AA)(M:AH):Prop:=
  ∀pin D ρ w act,eG pin c=true→dm pin act→aR ρ M w→bs ρ D n a act→c.wpIn (FW r) 0 P (EV pin ρ M w D n Q Kp) act w
structure Cx where
 P:Program
 T:List TI
 n:Nat
 W:List Nat:=[]
 pl:Nat→Option (List (Nat×Nat)×List Nat):=fun _=>none
 B:Nat→List Nat:=fun _=>[]
 r:Option Nat:=none
 D:List Deferred:=[]
def bL (x:Cx):Code→(iT→AA→AH→Prop)→(AV→AH→Prop)→AA→AH→Prop
 | .skip,Q,_,a,M=>Q .normal a M
 | .label _,Q,_,a,M=>Q .normal a M
 | .seq c d,Q,Kp,a,M=>bL x c (fun e a M=>match e with
  | .normal=>bL x d Q Kp a M
  |e=>Q e a M) Kp a M
 | .cond o c d,Q,Kp,a,M=>match oV a o with
   | .tt=>bL x c Q Kp a M
   | .ff=>bL x d Q Kp a M
   | .bo b=>(b=true→bL x c Q Kp a M)∧(b=false→bL x d Q Kp a M)
   |_=>False
 | .block id c,Q,Kp,a,M=>bL x c (fun e a M=>match e with
  | .exit LD=>match Nat.beq LD id with
    |true=>Q .normal a M
    |false=>Q (.exit LD) a M
  |e=>Q e a M) Kp a M
 | .exit id,Q,_,a,M=>Q (.exit id) a M
 | .ret,Q,_,a,M=>Q .ret a M
 | .region id ops draw,Q,Kp,a,M=>match draw with
   |false=>p9 x.P x.T x.n x.W ops Kp (fun a M=>Q .normal a M) ops.toList a M
   |true=>match x.pl id with
    |some (ck,_)=>match ck with
     |[]=>p9 x.P x.T x.n x.W ops Kp (fun a M=>Q .normal a M) ops.toList a M
     |p::ck=>fu x.P x.T x.n x.W ops Kp (fun a M=>Q .normal a M) (x.B id) [] (p::ck) a M
    |none=>False
 | .loop c,Q,Kp,a,M=>WA x.P x.r x.D x.n (.loop c) Q Kp a M
 | .rangeFunc f ps as c,Q,Kp,a,M=>WA x.P x.r x.D x.n (.rangeFunc f ps as c) Q Kp a M
 |_,_,_,_,_=>False
def aj (pl:Nat→Option (List (Nat×Nat)×List Nat)):Code→Bool
 | .region id ops true=>match pl id with
   |some (ck,ds)=>(match ck with
    |[]=>qv ops
    |p::ck=>ob ops ds [] (p::ck) (Array.replicate ops.size false))&&ops.all (fun o=>cm o.op)&&Nat.ble ck.length ops.size
   |none=>true
 | .seq a b=>aj pl a&&aj pl b
 | .cond _ a b=>aj pl a&&aj pl b
 | .block _ a=>aj pl a
 | .loop a=>aj pl a
 | .rangeFunc _ _ a b=>aj pl a&&aj pl b
 | .scope a=>aj pl a
 |_=>true
theorem fH {x:Cx}{pin:MA}(hT:ao x.P x.T)(hm:x.P.follows .mixedOrders=true){ρ0:Env}{M0:AH}{w0:World}{D0:List Deferred}:
 ∀(c:Code)(bO:aj x.pl c=true)(Q:iT→AA→AH→Prop)(Kp:AV→AH→Prop)(a:AA)(M:AH)(ρ:Env)(w:World)(act:Act)(D:List Deferred),aR ρ M w→Ext ρ0 M0 w0 ρ M w→Marks w0.heap.size D0 D w→bs ρ D x.n a act→eG pin c=true→dm pin act→bL x c Q Kp a M→
  c.wpIn (FW x.r) 0 x.P (EV pin ρ0 M0 w0 D0 x.n Q Kp) act w:=by
 intro c
 induction c with
 |skip=>exact fun _ Q Kp a M ρ w act D hs hE hM ha _ hp h=>wpIn_skip ⟨⟨ρ,M,a,D,hs,hE,hM,ha,h⟩,hp⟩
 |label l=>exact fun _ Q Kp a M ρ w act D hs hE hM ha _ hp h=>wpIn_label ⟨⟨ρ,M,a,D,hs,hE,hM,ha,h⟩,hp⟩
 |exit id=>exact fun _ Q Kp a M ρ w act D hs hE hM ha _ hp h=>wpIn_exit ⟨⟨ρ,M,a,D,hs,hE,hM,ha,h⟩,hp⟩
 |ret=>exact fun _ Q Kp a M ρ w act D hs hE hM ha _ hp h=>wpIn_ret ⟨⟨ρ,M,a,D,hs,hE,hM,ha,h⟩,hp⟩
 |seq c d LC LB=>
  intro bO Q Kp a M ρ w act D hs hE hM ha lL hp h
  simp only[aj,Bool.and_eq_true]at bO
  simp only[eG,Bool.and_eq_true]at lL
  refine wpIn_seq (wpIn_mono (LC bO.1 _ Kp a M ρ w act D hs hE hM ha lL.1 hp h) fun e aH w' hq=>?_)
  obtain⟨hq,wI⟩:=hq
  cases e with
  |normal=>obtain⟨ρ',M',a',D',h1,h2,vp,h3,h4⟩:=hq;exact LB bO.2 Q Kp a' M' ρ' w' aH D' h1 h2 vp h3 lL.2 wI h4
  |exit id=>exact⟨hq,wI⟩
  |ret=>exact⟨hq,wI⟩
  |panic ch=>exact⟨hq,wI⟩
  |goto l=>exact hq.elim
  |outgrown=>exact hq.elim
 |cond o c d LC LB=>
  intro bO Q Kp a M ρ w act D hs hE hM ha lL hp h
  simp only[aj,Bool.and_eq_true]at bO
  simp only[eG,Bool.and_eq_true]at lL
  have he:=(ha.ev o).1
  simp only[bL]at h
  split at h<;>rename_i hh<;>(try rw[hh]at he)
  ·exact wpIn_cond_true he (LC bO.1 Q Kp a M ρ w act D hs hE hM ha lL.1 hp h)
  ·exact wpIn_cond_false he (LB bO.2 Q Kp a M ρ w act D hs hE hM ha lL.2 hp h)
  ·exact wpIn_cond_split he (fun hb=>LC bO.1 Q Kp a M ρ w act D hs hE hM ha lL.1 hp (h.1 hb)) (fun hb=>LB bO.2 Q Kp a M ρ w act D hs hE hM ha lL.2 hp (h.2 hb))
  ·exact h.elim
 |block id c ih=>
  intro bO Q Kp a M ρ w act D hs hE hM ha lL hp h
  refine wpIn_block (wpIn_mono (ih bO _ Kp a M ρ w act D hs hE hM ha lL hp h) fun e aH w' hq=>?_)
  obtain⟨hq,wI⟩:=hq
  cases e with
  |normal=>exact⟨hq,wI⟩
  |exit LD=>
   obtain⟨ρ',M',a',D',h1,h2,vp,h3,h4⟩:=hq
   simp only[Exit.inBlock]
   simp only at h4
   split at h4
   ·rename_i hb
    rw[if_pos (Nat.eq_of_beq_eq_true hb)]
    exact⟨⟨ρ',M',a',D',h1,h2,vp,h3,h4⟩,wI⟩
   ·rename_i hb
    rw[if_neg (Nat.ne_of_beq_eq_false hb)]
    exact⟨⟨ρ',M',a',D',h1,h2,vp,h3,h4⟩,wI⟩
  |ret=>exact⟨hq,wI⟩
  |panic ch=>exact⟨hq,wI⟩
  |goto l=>exact hq.elim
  |outgrown=>exact hq.elim
 |loop c ih=>
  intro bO Q Kp a M ρ w act D hs hE hM ha lL hp h
  simp only[bL]at h
  unfold WA at h
  exact wpIn_mono (h pin D ρ w act lL hp hs ha) fun e aH w' hq=>⟨hq.1.from hE hs hM,hq.2⟩
 |rangeFunc f ps as c=>
  intro bO Q Kp a M ρ w act D hs hE hM ha lL hp h
  simp only[bL]at h
  unfold WA at h
  exact wpIn_mono (h pin D ρ w act lL hp hs ha) fun e aH w' hq=>⟨hq.1.from hE hs hM,hq.2⟩
 |region id ops draw=>
  intro bO Q Kp a M ρ w act D hs hE hM ha lL hp h
  simp only[bL]at h
  split at h
  ·have LS:∀o∈ops.toList,qn pin o.dst=true:=fun o ho=>List.all_eq_true.1 lL o ho
   refine wpIn_region (vz ew.HK LS _ _ _ hp ?_)
   have:=n9 (r:=x.r) (Q:=ew ρ0 M0 w0 D0 x.n Q Kp) hT ops.toList 0 a M ρ w act (by simp) hs (Ext.refl _ _ _) ha h
    (fun a' aH M' ρ' w' h1 h2 h3 h4=>⟨ρ',M',a',D,h3,hE.trans h4,hM.kV hs h4,h2,h1⟩) (fun rv M' ρ' w' aH h0 h1 h2 h3 h4=>⟨ρ',M',rv,D,h3,hE.trans h4,hM.kV hs h4,h0,rfl,h2,h1⟩)
   rw[show List.range ops.size=List.range' 0 ops.toList.length by rw[List.range_eq_range',Array.length_toList]]
   exact this
  ·split at h
   ·rename_i ck ds Ps
    simp only[aj,Ps,Bool.and_eq_true]at bO
    obtain⟨⟨uV,gP⟩,EE⟩:=bO
    have LS:∀o∈ops.toList,qn pin o.dst=true:=fun o ho=>List.all_eq_true.1 lL o ho
    obtain⟨B,hB⟩:∃B,x.B id=B:=⟨_,rfl⟩
    rw[hB]at h
    have Qv:=hp
    have hp:∀(i:Nat) o,ops[i]?=some o→cm o.op=true:=fun i o hi=>by
     exact Array.all_eq_true_iff_forall_mem.1 gP o (Array.mem_of_getElem? hi)
    have vk:aR ρ M {w with drawn:=w.drawn+1}:=⟨hs.nw,hs.tag,hs.bu,fun i g own y hy=>by
     rcases hs.holds i g own y hy with⟨q,h1,h2⟩|h1
     ·exact .inl ⟨q,h1,bH.ext (w:=w) (fun _ _ _ h=>h) rfl h2⟩
     ·exact .inr h1,hs.apart⟩
    have B5:Ext ρ0 M0 w0 ρ M {w with drawn:=w.drawn+1}:=⟨hE.env,hE.size,hE.frame,hE.fresh,hE.os,hE.tape,hE.output⟩
    have vp:Marks w0.heap.size D0 D {w with drawn:=w.drawn+1}:=hM
    have Zk:Ext ρ M {w with drawn:=w.drawn+1} ρ M {w with drawn:=w.drawn+1}:=Ext.refl _ _ _
    cases ck with
    |nil=>
     refine wpIn_region_any hm (pW ew.HK LS _ _ _ _ Qv (dv (S:=fun _=>True) (ds:=ds) hp _ _ _ _ ?_))
     exact ra (r:=x.r) (Q:=ew ρ0 M0 w0 D0 x.n Q Kp) (w0:={w with drawn:=w.drawn+1}) hT uV vk ha h
      (fun a' aH M' ρ' w' h1 h2 h3 h4=>⟨ρ',M',a',D,h3,B5.trans h4,vp.kV vk h4,h2,h1⟩)
    |cons p ck=>
    refine wpIn_region_any hm (pW ew.HK LS _ _ _ _ Qv (dv (S:=SB ρ M B) (ds:=ds) hp _ _ _ _ ?_))
    exact bl (r:=x.r) (Q:=ew ρ0 M0 w0 D0 x.n Q Kp) (w0:={w with drawn:=w.drawn+1}) hT hp
     (fun c aH d v w' hq=>by
      obtain⟨ρ',M',u,D',h1,h2,hm,h3,h4⟩:=hq
      exact⟨ρ',M',u,D',h1,h2,hm,by cases d<;>exact h3,h4⟩)
     (p::ck) [] _ ops.size a M ρ _ act (SB ρ M B) (Nat.le_trans (List.length_filter_le _ _) (by simpa using EE)) uV iS.none vk Zk ha (fun _=>SB.of vk B) (fun _ h=>h) (fun _ ρ' M' w' k1 k2 k3=>nz (SB.of vk B) k1 k2 k3) h
     (fun a' aH M' ρ' w' h1 h2 h3 h4=>⟨ρ',M',a',D,h3,B5.trans h4,vp.kV vk h4,h2,h1⟩) (fun rv M' ρ' w' aH h0 h1 h2 h3 h4=>⟨ρ',M',rv,D,h3,B5.trans h4,vp.kV vk h4,h0,rfl,h2,h1⟩)
   ·exact h.elim
 |scope c=>exact fun _ Q Kp a M ρ w act D hs hE hM ha _ _ h=>h.elim
 |goto l=>exact fun _ Q Kp a M ρ w act D hs hE hM ha _ _ h=>h.elim
 |refuse ZG=>exact fun _ Q Kp a M ρ w act D hs hE hM ha _ _ h=>h.elim
theorem k7 {x:Cx}(hT:ao x.P x.T)(hm:x.P.follows .mixedOrders=true){ρ0:Env}{M0:AH}{w0:World}{D0:List Deferred}:
 ∀(c:Code)(bO:aj x.pl c=true)(Q:iT→AA→AH→Prop)(Kp:AV→AH→Prop)(a:AA)(M:AH)(ρ:Env)(w:World)(act:Act)(D:List Deferred),aR ρ M w→Ext ρ0 M0 w0 ρ M w→Marks w0.heap.size D0 D w→bs ρ D x.n a act→bL x c Q Kp a M→
  c.wpIn (FW x.r) 0 x.P (ew ρ0 M0 w0 D0 x.n Q Kp) act w:=
 fun c bO Q Kp a M ρ w act D hs hE hM ha h=>wpIn_mono (fH (pin:=[]) hT hm c bO Q Kp a M ρ w act D hs hE hM ha (zP c) (dm.nil act) h) fun _ _ _ h=>h.1
theorem Ax {x:Cx}(hT:ao x.P x.T)(hm:x.P.follows .mixedOrders=true){c:Code}(bO:aj x.pl c=true){Q:iT→AA→AH→Prop}{Kp:AV→AH→Prop}{a:AA}{M:AH}(h:bL x c Q Kp a M):
 WA x.P x.r x.D x.n c Q Kp a M:=by
 unfold WA
 exact fun pin D ρ w act lL hp hs ha=>fH hT hm c bO Q Kp a M ρ w act D hs (Ext.refl _ _ _) (Marks.refl _ _ _) ha lL hp h
def Ea:AV→AV
 | .tt=>.bo true| .ff=>.bo false| .bo x=>.bo x| .int k n=>.int k n| .str x=>.str x| .np=>.np| .ptr i g off=>.ptr i g off| .lY i g sz j o=>.lY i g sz j o
 | .ns=>.ns| .sl i g off n c=>.sl i g off n c| .nf=>.nf| .fn q a b=>.fn q a b| .ni=>.ni| .iU t v=>.iU t v| .nm=>.nm| .mp i g=>.mp i g
 | .agg l=>.agg l| .aG l=>.aG l| .raw v=>.raw v
theorem Ls (ρ:Env)(v:AV):(Ea v).c ρ=v.c ρ:=by cases v<;>rfl
theorem HJ {ρ:Env}{v:AV}(h:v.ok ρ):(Ea v).ok ρ:=by cases v<;>exact h
def xL (T:List TI)(M:AH)(a:AA):List ResultVar→(List AV→Prop)→Prop
 |[],K=>K []
 | .tmp t::l,K=>xL T M a l fun vs=>kZ (Ea (a t)) fun v=>K (v::vs)
 | .cell ad t::l,K=>pL T M t (a ad) fun v=>xL T M a l fun vs=>K (v::vs)
def az (T:List TI)(rs:List ResultVar)(K:AV→AH→Prop)(e:iT)(a:AA)(M:AH):Prop:=
 match e with
 | .normal| .ret=>xL T M a rs fun vs=>match vs with
   |[v]=>K v M
   |vs=>K (.aG vs) M
 |_=>False
def au (args:List AV):AA:=fun k=>match args[k]? with
 |some v=>v
 |none=>.aG []
def qf (tmps:Array Value):ResultVar→Sem Value
 | .tmp t=>pure (tmps.getD t undef)
 | .cell a t=>do loadVar t (←asAddr (tmps.getD a undef))
theorem il (fn:Func)(tmps:Array Value):results fn tmps=(do
 let vs←fn.results.mapM (qf tmps)
 pure (if h:vs.size=1 then vs[0]else .tuple vs)):=by
 unfold results
 have:(fun r=>match r with
  |ResultVar.tmp t=>(pure (tmps.getD t undef):Sem Value)
  |ResultVar.cell a t=>do loadVar t (←asAddr (tmps.getD a undef)))=qf tmps:=by
  funext r;cases r<;>rfl
 rw[←this];rfl
theorem iq {P:Program}{T:List TI}(hT:ao P T){M:AH}{a:AA}{ρ:Env}{w:World}{act:Act}{D:List Deferred}{n:Nat}(hs:aR ρ M w)(ha:bs ρ D n a act):
 ∀(l:List ResultVar)(K:List AV→Prop),xL T M a l K→∃vs,K vs∧AV.dC ρ vs∧(l.mapM (qf act.tmps)).run P w=Result.ok (AV.cl ρ vs) w
 |[],K,h=>⟨[],h,trivial,by simp[AV.cl]⟩
 | .tmp t::l,K,h=>by
   obtain⟨vs,h1,h2,h3⟩:=iq hT hs ha l _ h
   refine⟨Ea (a t)::vs,ec h1,⟨HJ (ha.ok t),h2⟩,?_⟩
   rw[List.mapM_cons]
   simp[h3,ha.get t,AV.cl,qf,Ls]
 | .cell ad t::l,K,h=>by
   obtain⟨v,h1,h2,h3⟩:=fV (P:=P) hT hs.known (hs.id _) h
   obtain⟨vs,k1,k2,k3⟩:=iq hT hs ha l _ h1
   refine⟨v::vs,k1,⟨h2,k2⟩,?_⟩
   have h4:=h3 w (hs.id _)
   have aQ:(qf act.tmps (.cell ad t)).run P w=Result.ok (v.c ρ) w:=by
    simp only[qf]
    rw[ha.get ad]
    simp only[Instr.loadAt]at h4
    generalize(a ad).c ρ=u at h4
    cases u with
    |pointer o=>cases o with
     |none=>simp[Instr.sureAddr]at h4
     |some ad=>simpa[Instr.sureAddr,asAddr]using h4
    |_=>simp[Instr.sureAddr]at h4
   rw[List.mapM_cons]
   simp only[Sem.run_bind]
   rw[aQ]
   simp[k3,AV.cl]
theorem aa.intro {x:Cx}(hT:ao x.P x.T)(hm:x.P.follows .mixedOrders=true){g:Nat}{fn:Func}{c:Code}(hf:x.P.funcs[g]?=some fn)(hb:fn.body=some c)(hg:nU x.P g=true)(bO:aj x.pl c=true)(hr:x.r=none)(hD:x.D=[])
 {args:List AV}{M:AH}{K Kp:AV→AH→Prop}(hn:fn.ntmps=x.n)(hle:Nat.ble args.length x.n=true)
 (h:bL x c (az x.T fn.results.toList K) Kp (au args) M):aa x.P g args M K Kp:=by
 unfold aa
 refine⟨hg,fun ρ w hs aA=>?_⟩
 have PD:args.length≤x.n:=by simpa using hle
 have hlen:(AV.cl ρ args).toArray.size=args.length:=by simp[AV.aU]
 have ha:bs ρ x.D x.n (au args) {tmps:=(AV.cl ρ args).toArray++Array.replicate (fn.ntmps-(AV.cl ρ args).toArray.size) undef,defers:=[]}:=by
  refine⟨hD.symm,?_,fun t=>?_,fun t=>?_⟩
  ·rw[Array.size_append,Array.size_replicate,hlen,hn];omega
  ·simp only[au];split
   ·exact(AV.aJ ρ args).1 aA _ (List.mem_of_getElem? ‹_›)
   ·exact trivial
  ·simp only[au,Array.getD_eq_getD_getElem?]
   by_cases ht:t<args.length
   ·rw[Array.getElem?_append_left (by rw[hlen];exact ht)]
    simp[AV.aU,List.getElem?_eq_getElem ht]
   ·rw[Array.getElem?_append_right (by rw[hlen];omega),List.getElem?_eq_none (by omega)]
    simp only[Array.getElem?_replicate]
    split<;>rfl
 have hw:=k7 hT hm c bO _ Kp _ M ρ w _ x.D hs (Ext.refl _ _ _) (Marks.refl _ _ _) ha h
 rw[hD]at hw
 refine callsIn_wide.1 (callsIn_of_wp_marks (F:=Fence.wide) (n:=0) hf hb trivial (wpIn_mono (Q:=ew ρ M w [] x.n (az x.T fn.results.toList K) Kp) ?_ fun e act w' hq=>?_))
 ·rw[hr]at hw;exact hw
 ·have fin:∀(ρ':Env)(M':AH)(a':AA)(D':List Deferred),aR ρ' M' w'→Ext ρ M w ρ' M' w'→Marks w.heap.size [] D' w'→bs ρ' D' x.n a' act→(xL x.T M' a' fn.results.toList fun vs=>match vs with|[v]=>K v M'|vs=>K (.aG vs) M')→
   LeavesInM Fence.wide 0 x.P fn act.tmps (gV ρ M w K Kp) act.defers .returning w':=by
   intro ρ' M' a' D' h1 h2 ⟨rs,BR,Ew,yk⟩ h3 h4
   rw[h3.defers,BR,List.append_nil]
   refine cK (by simp) (fun w2 g1 g2=>?_) rs w' Ew yk h1 h2
   obtain⟨vs,k1,k2,k3⟩:=iq hT g1 h3 _ _ h4
   have yi:(fn.results.mapM (qf act.tmps)).run x.P w2=Result.ok (AV.cl ρ' vs).toArray w2:=by
    rw[Array.mapM_eq_mapM_toList]
    simp[k3]
   show∃v,(results fn act.tmps).run x.P w2=.ok v w2∧gV ρ M w K Kp (.returned v) w2
   rw[il]
   simp only[Sem.run_bind,yi]
   match vs,k1,k2 with
   |[v],k1,k2=>exact⟨v.c ρ',by simp[AV.cl],ρ',M',g1,g2,v,rfl,k2.1,k1⟩
   |[],k1,k2=>exact⟨(AV.aG []).c ρ',by simp[AV.cl,AV.c],ρ',M',g1,g2,.aG [],rfl,k2,k1⟩
   |v::u::vs,k1,k2=>exact⟨(AV.aG (v::u::vs)).c ρ',by simp[AV.cl,AV.c],ρ',M',g1,g2,.aG (v::u::vs),rfl,k2,k1⟩
  cases e with
  |normal=>obtain⟨ρ',M',a',D',h1,h2,hm,h3,h4⟩:=hq;exact fin ρ' M' a' D' h1 h2 hm h3 h4
  |ret=>obtain⟨ρ',M',a',D',h1,h2,hm,h3,h4⟩:=hq;exact fin ρ' M' a' D' h1 h2 hm h3 h4
  |exit id=>obtain⟨ρ',M',a',D',h1,h2,hm,h3,h4⟩:=hq;exact h4.elim
  |panic ch=>
   obtain⟨ρ',M',v,D',h1,h2,⟨rs,BR,Ew,yk⟩,h3,h4,h5,h6⟩:=hq
   show LeavesInM Fence.wide 0 x.P fn act.tmps (gV ρ M w K Kp) act.defers (.panicking ch) w'
   rw[h3,BR,List.append_nil]
   refine cK (F:=Fence.wide) (n:=0) (P:=x.P) (fn:=fn) (tmps:=act.tmps) (R:=gV ρ M w K Kp) (u:=.panicking ch) (by simp) (fun w2 g1 g2=>?_) rs w' Ew yk h1 h2
   show gV ρ M w K Kp (.panicked ch) w2
   exact⟨ρ',M',g1,g2,v,h4,h5,h6⟩
  |goto l=>exact hq.elim
  |outgrown=>exact hq.elim
end Go.Proofs.Ytibadaomjlkoaaa
open Go.RowKit
namespace Go.Proofs.Ytibadaomjlkoaaa
mutual
def AV.nb (k:Nat):AV→Bool
 | .ptr i _ _=>Nat.blt i k
 | .lY i _ _ _ _=>Nat.blt i k
 | .sl i _ _ _ _=>Nat.blt i k
 | .mp i _=>Nat.blt i k
 | .fn _ a b=>AV.rN k a&&AV.rN k b
 | .iU _ v=>v.nb k
 | .agg l=>AV.rN k l
 | .aG l=>AV.rN k l
 | .raw _=>true| .bo _=>true| .tt=>true| .ff=>true| .int _ _=>true| .str _=>true| .np=>true| .ns=>true| .nf=>true| .ni=>true| .nm=>true
def AV.rN (k:Nat):List AV→Bool
 |[]=>true
 |v::l=>v.nb k&&AV.rN k l
end
def oL (ρ:Env)(k:Nat):Env:=fun i g=>if i<k then ρ i g else none
theorem sb {ρ:Env}{k i:Nat}(h:Nat.blt i k=true)(g:Nat):oL ρ k i g=ρ i g:=by
 have:i<k:=by simpa using h
 simp[oL,this]
mutual
theorem AV.nQ {ρ:Env}{k:Nat}:∀v:AV,v.nb k=true→v.ok ρ→v.ok (oL ρ k)
 | .ptr i g _=>fun h=>by simp only[AV.nb]at h;simp only[AV.ok,sb h];exact fun h=>h
 | .lY i g _ _ _=>fun h=>by simp only[AV.nb]at h;simp only[AV.ok,sb h];exact fun h=>h
 | .sl i g _ _ _=>fun h=>by simp only[AV.nb]at h;simp only[AV.ok,sb h];exact fun h=>h
 | .mp i g=>fun h=>by simp only[AV.nb]at h;simp only[AV.ok,sb h];exact fun h=>h
 | .fn _ a b=>fun h k=>by
   simp only[AV.nb,Bool.and_eq_true]at h;simp only[AV.ok]at k⊢
   exact⟨AV.th a h.1 k.1,AV.th b h.2 k.2⟩
 | .iU _ v=>fun h k=>by simp only[AV.nb]at h;simp only[AV.ok]at k⊢;exact AV.nQ v h k
 | .agg l=>fun h k=>by simp only[AV.nb]at h;simp only[AV.ok]at k⊢;exact AV.th l h k
 | .aG l=>fun h k=>by simp only[AV.nb]at h;simp only[AV.ok]at k⊢;exact AV.th l h k
 | .bo _=>fun _ _=>trivial| .tt=>fun _ _=>trivial| .ff=>fun _ _=>trivial| .int _ _=>fun _ _=>trivial| .str _=>fun _ _=>trivial
 | .np=>fun _ _=>trivial| .ns=>fun _ _=>trivial| .nf=>fun _ _=>trivial| .ni=>fun _ _=>trivial| .nm=>fun _ _=>trivial| .raw _=>fun _ _=>trivial
theorem AV.th {ρ:Env}{k:Nat}:∀l:List AV,AV.rN k l=true→AV.dC ρ l→AV.dC (oL ρ k) l
 |[]=>fun _ _=>trivial
 |v::l=>fun h k=>by
  simp only[AV.rN,Bool.and_eq_true]at h;simp only[AV.dC]at k⊢
  exact⟨AV.nQ v h.1 k.1,AV.th l h.2 k.2⟩
end
theorem sd {ρ:Env}{k:Nat}:∀i g l,oL ρ k i g=some l→ρ i g=some l:=by
 intro i g l h
 unfold oL at h
 split at h
 ·exact h
 ·cases h
theorem AV.BC {ρ:Env}{k:Nat}{v:AV}(h:v.nb k=true)(aA:v.ok ρ):v.c (oL ρ k)=v.c ρ:=
 (AV.cW sd v (AV.nQ v h aA)).symm
def ae.nb (k:Nat):ae→Prop
 | .cells cs=>AV.rN k cs=true
 | .ints _ _ _=>True
 | .bN _ _=>True
 | .cI _ n get _=>∀j,AV.rN k (get j)=true
 | .map _ es=>∀p∈es,p.2.nb k=true
 | .loop _ _ _ _ _ a _ _ _ _=>∀t,(a t).nb k=true
def AO.nb (k:Nat):AO→Prop
 | .gone=>True
 | .one _ _ x=>x.nb k
 | .bu _ _ x=>∀g,(x g).nb k
def lJ (k:Nat):AH→Prop
 |[]=>True
 |o::M=>o.nb k∧lJ k M
theorem xV {k:Nat}:∀{l:List AV},AV.rN k l=true→∀v∈l,v.nb k=true
 |[],_,v,hv=>by cases hv
 |u::l,h,v,hv=>by
  simp only[AV.rN,Bool.and_eq_true]at h
  rcases List.mem_cons.1 hv with rfl|hv
  ·exact h.1
  ·exact xV h.2 v hv
theorem ae.Rn {k:Nat}{x:ae}(h:x.nb k){j:Nat}{v:AV}(hv:x.at j=some v):v.nb k=true:=by
 cases x with
 |cells cs=>exact xV h v (List.mem_of_getElem? hv)
 |ints kk xs c=>simp only[ae.at,Option.map_eq_some_iff]at hv;obtain⟨z,_,rfl⟩:=hv;rfl
 |bN xs c=>simp only[ae.at,Option.map_eq_some_iff]at hv;obtain⟨z,_,rfl⟩:=hv;rfl
 |cI sz n get c=>
  simp only[ae.at]at hv
  split at hv
  ·exact xV (h _) v (List.mem_of_getElem? hv)
  ·cases hv
 |map _ _=>simp[ae.at]at hv
 |loop _ _ _ _ _ _ _ _ _ _=>simp[ae.at]at hv
theorem bH.cut {ρ:Env}{k:Nat}{own:Bool}{x:ae}{b base:Nat}{w:World}(hn:x.nb k)(h:bH ρ own x b base w):bH (oL ρ k) own x b base w:=by
 rcases h.all with⟨hx,c,e,fr,k1,k2,k3,k4⟩|⟨hx,hb,hs⟩
 ·refine .mk' hx ⟨c,e,fr,k1,k2,fun j v hv=>?_,k4⟩
  have hb:=ae.Rn hn hv
  have:=k3 j v hv
  exact⟨AV.nQ v hb this.1,by rw[AV.BC hb this.1];exact this.2⟩
 ·refine⟨.inr ⟨hx,hb,?_⟩⟩
  cases x with
  |map kk es=>
   obtain⟨fb,clock,h1,h2,h3,h4,h5⟩:=hs
   refine⟨fb,clock,h1,?_,fun p hp=>⟨AV.nQ _ (hn p hp) (h3 p hp).1,(h3 p hp).2⟩,h4,h5⟩
   rw[h2]
   exact List.map_congr_left fun p hp=>by rw[AV.BC (hn p hp) (h3 p hp).1]
  |loop l st pd fn n a ps as bd df=>
   obtain⟨h1,tmps,h2,h3,h4⟩:=hs
   exact⟨h1,tmps,h2,h3,fun t=>⟨AV.nQ _ (hn t) (h4 t).1,by rw[AV.BC (hn t) (h4 t).1];exact(h4 t).2⟩⟩
  |cells _=>exact hs.elim
  |ints _ _ _=>exact hs.elim
  |bN _ _=>exact hs.elim
  |cI _ _ _ _=>exact hs.elim
theorem Ed {k:Nat}:∀{M:AH},lJ k M→∀{i:Nat}{o:AO},M[i]?=some o→o.nb k
 |[],_,i,o,h=>by simp at h
 |p::M,hn,0,o,h=>by simp at h;subst h;exact hn.1
 |p::M,hn,i+1,o,h=>Ed hn.2 (by simpa using h)
def iV:AH→AH→Prop
 |_,[]=>True
 |o::M,o'::N=>(match o' with
  | .gone=>True
  |o'=>o'=o)∧iV M N
 |[],_::_=>False
theorem vQ:∀M:AH,iV M M
 |[]=>trivial
 |o::M=>⟨by cases o<;>first|trivial|rfl,vQ M⟩
theorem pc:∀{M N:AH},iV M N→∀{i:Nat}{o:AO},N[i]?=some o→o=.gone∨M[i]?=some o
 |_,[],_,i,o,h=>by simp at h
 |[],_::_,hs,_,_,_=>hs.elim
 |o1::M,o2::N,hs,0,o,h=>by
  simp at h;subst h
  cases o2 with
  |gone=>exact .inl rfl
  |one own g x=>right;simp;exact hs.1.symm
  |bu own m x=>right;simp;exact hs.1.symm
 |o1::M,o2::N,hs,i+1,o,h=>by
  have:=pc hs.2 (i:=i) (by simpa using h)
  simpa using this
theorem jd {M N:AH}(h:iV M N){i g:Nat}{own:Bool}{x:ae}(hs:slot N i g=some (own,x)):slot M i g=some (own,x)∧i<N.length:=by
 unfold slot at hs⊢
 cases ho:N[i]? with
 |none=>rw[ho]at hs;cases hs
 |some o=>
  rw[ho]at hs
  refine⟨?_,(List.getElem?_eq_some_iff.1 ho).1⟩
  rcases pc h ho with rfl|h1
  ·cases hs
  ·rw[h1];exact hs
theorem J8 {M:AH}{k:Nat}(h:lJ k M){i g:Nat}{own:Bool}{x:ae}(hs:slot M i g=some (own,x)):x.nb k:=by
 unfold slot at hs
 cases ho:M[i]? with
 |none=>rw[ho]at hs;cases hs
 |some o=>
  rw[ho]at hs
  have:=Ed h ho
  cases o with
  |gone=>cases hs
  |one bn g' x'=>
   simp only[a9]at hs
   split at hs
   ·injection hs with hs;injection hs with h1 h2;subst h2;exact this
   ·cases hs
  |bu bn m x'=>
   simp only[a9]at hs
   split at hs
   ·injection hs with hs;injection hs with h1 h2;subst h2;exact this g
   ·cases hs
theorem pj {ρ0 ρ:Env}{M0 M N:AH}{w0 w:World}(h0:∀i g,(ρ0 i g).isSome=true→i<M0.length)(hs:aR ρ M w)(hE:Ext ρ0 M0 w0 ρ M w)(h:iV M N)(hn:lJ N.length N)(hl:M0.length≤N.length):
 aR (oL ρ N.length) N w∧Ext ρ0 M0 w0 (oL ρ N.length) N w:=by
 have hk:∀{i:Nat}(g:Nat),i<N.length→oL ρ N.length i g=ρ i g:=fun g hi=>by simp[oL,hi]
 have Ie:∀i g,(oL ρ N.length i g).isSome=true→i<N.length∧(ρ i g).isSome=true:=by
  intro i g hi
  unfold oL at hi
  split at hi
  ·exact⟨‹_›,hi⟩
  ·cases hi
 refine⟨⟨fun i g hi=>(Ie i g hi).1,?_,?_,?_,?_⟩,⟨?_,hE.size,hE.frame,?_,hE.os,hE.tape,hE.output⟩⟩
 ·intro i g own g' x hm hi
  rcases pc h hm with he|h1
  ·cases he
  ·exact hs.tag i g own g' x h1 (Ie i g hi).2
 ·intro i g own m x hm hi
  rcases pc h hm with he|h1
  ·cases he
  ·exact hs.bu i g own m x h1 (Ie i g hi).2
 ·intro i g own x cQ
  obtain⟨h1,h2⟩:=jd h cQ
  rw[hk g h2]
  rcases hs.holds i g own x h1 with⟨q,e1,e2⟩|e
  ·exact .inl ⟨q,e1,e2.cut (J8 hn cQ)⟩
  ·exact .inr e
 ·intro i g x i' g' bn x' q q' h1 h2 e1 e2 he
  obtain⟨a1,a2⟩:=jd h h1
  obtain⟨b1,b2⟩:=jd h h2
  exact hs.apart i g x i' g' bn x' q q' a1 b1 (sd _ _ _ e1) (sd _ _ _ e2) he
 ·intro i g l e
  have:=h0 i g (by simp[e])
  rw[hk g (by omega)]
  exact hE.env i g l e
 ·intro i g x q h1 e1 hb
  exact hE.fresh i g x q (jd h h1).1 (sd _ _ _ e1) hb
def vq:List (Nat×AV)→Nat→Option AV
 |[],_=>none
 |(t,v)::l,k=>match Nat.beq k t with
  |true=>some v
  |false=>vq l k
def lj (l:List (Nat×AV))(d:Nat→Value):AA:=fun t=>match vq l t with
 |some v=>v
 |none=>.raw (d t)
def vw:List (Nat×AV)→AA→Prop
 |[],_=>True
 |(t,v)::l,a=>a t=v∧vw l a
def HN (k:Nat):List (Nat×AV)→Bool
 |[]=>true
 |(_,v)::l=>v.nb k&&HN k l
theorem si:∀{l:List (Nat×AV)}{a:AA},vw l a→∀{t:Nat}{v:AV},vq l t=some v→a t=v
 |[],a,_,t,v,h=>by cases h
 |(t',v')::l,a,hh,t,v,h=>by
  simp only[vq]at h
  split at h
  ·rename_i hb
   injection h with h;subst h
   rw[Nat.eq_of_beq_eq_true hb];exact hh.1
  ·exact si hh.2 h
theorem mY:∀{l:List (Nat×AV)}{k:Nat},HN k l=true→∀{t:Nat}{v:AV},vq l t=some v→v.nb k=true
 |[],k,_,t,v,h=>by cases h
 |(t',v')::l,k,hh,t,v,h=>by
  simp only[HN,Bool.and_eq_true]at hh
  simp only[vq]at h
  split at h
  ·injection h with h;subst h;exact hh.1
  ·exact mY hh.2 h
theorem AW {ρ:Env}{D:List Deferred}{n:Nat}{a:AA}{act:Act}(h:bs ρ D n a act){l:List (Nat×AV)}{k:Nat}(hl:HN k l=true)(ha:vw l a):
 bs (oL ρ k) D n (lj l fun t=>act.tmps.getD t undef) act:=by
 refine⟨h.defers,h.size,fun t=>?_,fun t=>?_⟩
 ·simp only[lj]
  split
  ·rename_i v hv
   exact AV.nQ v (mY hl hv) (by rw[←si ha hv];exact h.ok t)
  ·exact trivial
 ·simp only[lj]
  split
  ·rename_i v hv
   have he:=si ha hv
   rw[AV.BC (mY hl hv) (by rw[←he];exact h.ok t),←he];exact h.get t
  ·rfl
theorem cP {P:Nat→Prop}(h:∃k,P k):∃k,P k∧∀j,P j→k≤j:=by
 obtain⟨k,hk⟩:=h
 induction k using Nat.strongRecOn with
 |_ k ih=>
  by_cases hh:∃j,j<k∧P j
  ·obtain⟨j,hj,hp⟩:=hh;exact ih j hj hp
  ·exact⟨k,hk,fun j hp=>Nat.le_of_not_lt fun hj=>hh ⟨j,hj,hp⟩⟩
def OC {σ:Type}(I:σ→Prop)(μ:σ→Nat)(A:σ→List (Nat×AV))(H:σ→AH)(Q:iT→AA→AH→Prop)(k:Nat)(e:iT)(a:AA)(M:AH):Prop:=
 match e with
 | .normal=>∃s,(I s∧μ s<k)∧vw (A s) a∧iV M (H s)
 |e=>Q e a M
theorem WA.loop {x:Cx}{σ:Type}(I:σ→Prop)(μ:σ→Nat)(A:σ→List (Nat×AV))(H:σ→AH)(s0:σ)
 (hT:ao x.P x.T)(hm:x.P.follows .mixedOrders=true){c:Code}(bO:aj x.pl c=true){Q:iT→AA→AH→Prop}{Kp:AV→AH→Prop}{a:AA}{M:AH}
 (h0:I s0∧vw (A s0) a∧iV M (H s0))(hlen:∀s,Nat.ble M.length (H s).length=true)(hA:∀s,HN (H s).length (A s)=true)(hH:∀s,lJ (H s).length (H s))
 (mh:∀s,I s→∀d,bL x c (OC I μ A H Q (μ s)) Kp (lj (A s) d) (H s)):
 WA x.P x.r x.D x.n (.loop c) Q Kp a M:=by
 unfold WA
 intro pin D0 ρ0 w0 Jp lL RQ Ab Md
 let Inv:Nat→Act→World→Prop:=fun k act w=>dm pin act∧∃s ρ,I s∧μ s=k∧aR ρ (H s) w∧Ext ρ0 M w0 ρ (H s) w∧∃D d,Marks w0.heap.size D0 D w∧bs ρ D x.n (lj (A s) d) act
 have hle:∀s,M.length≤(H s).length:=fun s=>by simpa using hlen s
 have mk:∀s ρ M' a' aH w' D,dm pin aH→I s→aR ρ M' w'→Ext ρ0 M w0 ρ M' w'→Marks w0.heap.size D0 D w'→bs ρ D x.n a' aH→vw (A s) a'→iV M' (H s)→Inv (μ s) aH w':=by
  intro s ρ M' a' aH w' D GJ hI h1 h2 hm h3 h4 h5
  obtain⟨k1,k2⟩:=pj Ab.nw h1 h2 h5 (hH s) (hle s)
  exact⟨GJ,s,_,hI,rfl,k1,k2,D,_,hm,AW h3 (hA s) h4⟩
 have dz:=mk s0 ρ0 M a Jp w0 D0 RQ h0.1 Ab (Ext.refl _ _ _) (Marks.refl _ _ _) Md h0.2.1 h0.2.2
 refine wpIn_loop (fun act w=>∃k,Inv k act w) (fun act w=>by classical exact if h:∃k,Inv k act w then Classical.choose (cP h)else 0) ⟨_,dz⟩ ?_
 intro act w hI
 have PC:=Classical.choose_spec (cP hI)
 rw[dif_pos hI]
 generalize Classical.choose (cP hI)=k at*
 obtain⟨⟨GJ,s,ρ,Wd,rfl,hs,hE,D,d,Iq,ha⟩,PB⟩:=PC
 refine wpIn_mono (fH hT hm c bO _ Kp _ _ ρ w act D hs hE Iq ha lL GJ (mh s Wd d)) fun e aH w' hq=>?_
 obtain⟨hq,qC⟩:=hq
 cases e with
 |normal=>
  obtain⟨ρ',M',a',D',h1,h2,R6,h3,s',⟨h4,h5⟩,h6,h7⟩:=hq
  have F2:=mk s' ρ' M' a' aH w' D' qC h4 h1 h2 R6 h3 h6 h7
  have hex:∃k,Inv k aH w':=⟨_,F2⟩
  refine⟨hex,?_⟩
  rw[dif_pos hex]
  have:=(Classical.choose_spec (cP hex)).2 _ F2
  omega
 |exit id=>exact⟨hq,qC⟩
 |ret=>exact⟨hq,qC⟩
 |panic ch=>exact⟨hq,qC⟩
 |goto l=>exact hq.elim
 |outgrown=>exact hq.elim
theorem aa.mono {P:Program}{g:Nat}{args:List AV}{M:AH}{K K' Kp X2:AV→AH→Prop}(h:aa P g args M K Kp)(hK:∀r M',K r M'→K' r M')(SH:∀r M',Kp r M'→X2 r M'):aa P g args M K' X2:=by
 unfold aa at*
 refine⟨h.1,fun ρ w hs aA=>Calls.mono (h.2 ρ w hs aA) fun e w' he=>?_⟩
 obtain⟨ρ',M',h1,h2,h3⟩:=he
 refine⟨ρ',M',h1,h2,?_⟩
 cases e with
 |returned v=>obtain⟨r,e1,e2,e3⟩:=h3;exact⟨r,e1,e2,hK _ _ e3⟩
 |panicked ch=>obtain⟨r,e1,e2,e3⟩:=h3;exact⟨r,e1,e2,SH _ _ e3⟩
 |outgrown=>exact h3.elim
def Vw (M M':AH)(l l':List AV):Prop:=∀ρ w,aR ρ M w→AV.dC ρ l→∃ρ',aR ρ' M' w∧Ext ρ M w ρ' M' w∧AV.cl ρ' l'=AV.cl ρ l∧AV.dC ρ' l'
theorem aa.view {P:Program}{g:Nat}{args Ns:List AV}{M M':AH}{K Kp:AV→AH→Prop}(hv:Vw M M' args Ns)(h:aa P g Ns M' K Kp):aa P g args M K Kp:=by
 unfold aa at*
 refine⟨h.1,fun ρ w hs aA=>?_⟩
 obtain⟨ρ',h1,h2,h3,h4⟩:=hv ρ w hs aA
 have:=h.2 ρ' w h1 h4
 rw[h3]at this
 refine Calls.mono this fun e w' he=>?_
 obtain⟨gh,ld,k1,k2,k3⟩:=he
 exact⟨gh,ld,k1,h2.trans k2,k3⟩
end Go.Proofs.Ytibadaomjlkoaaa
open Go.RowKit
namespace Go.Proofs.Ytibadaomjlkoaaa
inductive TE where
 |own (i:Nat)
 |eZ (i:Nat)
 |ep (i g off:Nat)
 deriving Inhabited
def TE.i:TE→Nat
 | .own i=>i| .eZ i=>i| .ep i _ _=>i
def yP (t:List TE)(m j:Nat):Nat:=
 match t[j]? with
 |some e=>e.i
 |none=>m+(j-t.length)
def Bp (t:List TE)(j g:Nat):Nat:=
 match t[j]? with
 |some (.ep _ g' _)=>g'
 |_=>g
def Bq (t:List TE)(j off:Nat):Nat:=
 match t[j]? with
 |some (.ep _ _ o)=>o+off
 |_=>off
mutual
def AV.rn (t:List TE)(m:Nat):AV→AV
 | .ptr i g off=>.ptr (yP t m i) (Bp t i g) (Bq t i off)
 | .lY i g sz j o=>.lY (yP t m i) (Bp t i g) sz j (Bq t i o)
 | .sl i g off n c=>.sl (yP t m i) (Bp t i g) (Bq t i off) n c
 | .mp i g=>.mp (yP t m i) (Bp t i g)
 | .fn q a b=>.fn q (AV.qZ t m a) (AV.qZ t m b)
 | .iU ty v=>.iU ty (v.rn t m)
 | .agg l=>.agg (AV.qZ t m l)
 | .aG l=>.aG (AV.qZ t m l)
 | .bo x=>.bo x| .tt=>.tt| .ff=>.ff| .int k n=>.int k n| .str x=>.str x| .np=>.np| .ns=>.ns| .nf=>.nf| .ni=>.ni| .nm=>.nm| .raw v=>.raw v
def AV.qZ (t:List TE)(m:Nat):List AV→List AV
 |[]=>[]
 |v::l=>v.rn t m::AV.qZ t m l
end
theorem AV.Bo (t:List TE)(m:Nat)(l:List AV):AV.qZ t m l=l.map (AV.rn t m):=by
 induction l with
 |nil=>rfl
 |cons v l ih=>simp[AV.qZ,ih]
def ae.rn (t:List TE)(m:Nat):ae→ae
 | .cells cs=>.cells (AV.qZ t m cs)
 | .ints k xs c=>.ints k xs c
 | .bN xs c=>.bN xs c
 | .cI sz n get c=>.cI sz n (fun j=>AV.qZ t m (get j)) c
 | .map kk es=>.map kk (es.map fun p=>(p.1,p.2.rn t m))
 | .loop l st pd fn n a ps as bd df=>.loop l st pd fn n (fun j=>(a j).rn t m) ps as bd df
theorem ae.qd (t:List TE)(m:Nat)(x:ae):(x.rn t m).row=x.row:=by cases x<;>rfl
def AO.rn (t:List TE)(m:Nat):AO→AO
 | .gone=>.gone
 | .one own g x=>.one own g (x.rn t m)
 | .bu own n x=>.bu own n (fun g=>(x g).rn t m)
def MH (t:List TE)(m:Nat):AH→AH
 |[]=>[]
 |o::M=>o.rn t m::MH t m M
theorem Ho (t:List TE)(m:Nat)(M:AH):MH t m M=M.map (AO.rn t m):=by
 induction M with
 |nil=>rfl
 |cons v l ih=>simp[MH,ih]
theorem ae.DV (t:List TE)(m:Nat)(x:ae)(k:Nat):(x.rn t m).at k=(x.at k).map (AV.rn t m):=by
 cases x with
 |cells cs=>simp[ae.rn,ae.at,AV.Bo]
 |ints kk xs c=>simp only[ae.rn,ae.at,Option.map_map];rfl
 |bN xs c=>simp only[ae.rn,ae.at,Option.map_map];rfl
 |cI sz n get c=>
  simp only[ae.rn,ae.at]
  split
  ·simp[AV.Bo]
  ·rfl
 |map _ _=>rfl
 |loop _ _ _ _ _ _ _ _ _ _=>rfl
theorem ae.r8 (t:List TE)(m:Nat)(x:ae):(x.rn t m).size=x.size:=by
 cases x with
 |cells cs=>simp[ae.rn,ae.size,AV.Bo]
 |_=>rfl
theorem ae.Kc {t:List TE}{m:Nat}{x:ae}(h:x.bI):(x.rn t m).bI:=by
 cases x<;>exact h
def eh (t:List TE)(m:Nat)(off:Nat)(x xc:ae):Prop:=
 off+x.size≤xc.size∧(∀k v,x.at k=some v→xc.at (off+k)=some (v.rn t m))∧(xc.bI→x.bI)∧x.row=true∧xc.row=true
theorem eh.same {t:List TE}{m:Nat}{x xc:ae}(h:x.rn t m=xc)(hv:xc.bI→x.bI)(hr:x.row=true:=by rfl):eh t m 0 x xc:=by
 subst h
 refine⟨by rw[ae.r8];omega,fun k v hv=>?_,hv,hr,by rw[ae.qd];exact hr⟩
 rw[Nat.zero_add,ae.DV,hv];rfl
theorem eh.ints {t:List TE}{m:Nat}{k:IntKind}{xs ys:List Int}{c co off:Nat}(h1:off+c≤co)(h2:xs=(ys.drop off).take xs.length):eh t m off (.ints k xs c) (.ints k ys co):=by
 refine⟨h1,fun j v hv=>?_,?_,rfl,rfl⟩
 ·simp only[ae.at,Option.map_eq_some_iff]at hv⊢
  obtain⟨z,hz,rfl⟩:=hv
  refine⟨z,?_,rfl⟩
  have hj:=(List.getElem?_eq_some_iff.1 hz).1
  rw[h2,List.getElem?_take,if_pos hj,List.getElem?_drop]at hz
  exact hz
 ·rintro⟨e1,e2⟩
  subst e1;subst e2
  simp at h2
  exact⟨h2,by omega⟩
theorem eh.bN {t:List TE}{m:Nat}{xs ys:List Bool}{c co off:Nat}(h1:off+c≤co)(h2:xs=(ys.drop off).take xs.length):eh t m off (.bN xs c) (.bN ys co):=by
 refine⟨h1,fun j v hv=>?_,?_,rfl,rfl⟩
 ·simp only[ae.at,Option.map_eq_some_iff]at hv⊢
  obtain⟨z,hz,rfl⟩:=hv
  refine⟨z,?_,rfl⟩
  have hj:=(List.getElem?_eq_some_iff.1 hz).1
  rw[h2,List.getElem?_take,if_pos hj,List.getElem?_drop]at hz
  exact hz
 ·rintro⟨e1,e2⟩
  subst e1;subst e2
  simp at h2
  exact⟨h2,by omega⟩
def AO.eV:AO→Bool
 | .one true _ _=>true
 | .bu true _ _=>true
 |_=>false
def AO.pD:AO→Bool
 | .gone=>true
 | .one true _ _=>true
 | .bu true _ _=>true
 |_=>false
def AO.ro:AO→AO
 | .gone=>.gone
 | .one _ g x=>.one false g x
 | .bu _ n x=>.bu false n x
def AO.G0:AO→Bool
 | .gone=>false
 | .one _ g _=>Nat.beq g 0
 | .bu _ _ _=>true
def ud (t0:List TE)(m:Nat)(Mc:AH):List TE→AH→Prop
 |[],[]=>True
 | .own i::t,o::M=>(Mc[i]?=some (o.rn t0 m)∧o.pD=true)∧ud t0 m Mc t M
 | .eZ i::t,o::M=>(o.G0=true∧∃o',Mc[i]?=some o'∧o.rn t0 m=o'.ro)∧ud t0 m Mc t M
 | .ep i g off::t,o::M=>(∃x own xc,o=.one false 0 x∧slot Mc i g=some (own,xc)∧eh t0 m off x xc)∧ud t0 m Mc t M
 |_,_=>False
def TE.same:TE→TE→Bool
 |e,e'=>Nat.beq e.i e'.i
def TE.eV:TE→Bool
 | .own _=>true
 |_=>false
def bB:List TE→Bool
 |[]=>true
 |e::t=>t.all (fun e'=>!(e.eV||e'.eV)||!(Nat.beq e.i e'.i))&&bB t
def lr:List TE→AH→AH→Prop
 |[],_,M'=>M'.all AO.pD=true
 | .own _::t,_::M,o'::M'=>o'.pD=true∧lr t M M'
 | .eZ _::t,o::M,o'::M'=>o'=o∧lr t M M'
 | .ep _ _ _::t,o::M,o'::M'=>o'=o∧lr t M M'
 |_,_,_=>False
def c8 (t0:List TE)(m:Nat):List TE→AH→AH→AH
 | .own i::t,o::M',Mc=>c8 t0 m t M' (Mc.set i (o.rn t0 m))
 |_::t,_::M',Mc=>c8 t0 m t M' Mc
 |[],M',Mc=>Mc++MH t0 m M'
 |_,[],Mc=>Mc
theorem j7 {t0:List TE}{m:Nat}{Mc:AH}:∀{t:List TE}{M:AH},ud t0 m Mc t M→t.length=M.length∧∀(j:Nat) e o,t[j]? =some e→M[j]? =some o→match e with
    | .own i=>Mc[i]? =some (o.rn t0 m)∧o.pD=true
    | .eZ i=>o.G0=true∧∃o',Mc[i]? =some o'∧o.rn t0 m=o'.ro
    | .ep i g off=>∃x own xc,o= .one false 0 x∧slot Mc i g=some (own,xc)∧eh t0 m off x xc
  |[],[],_=>⟨rfl,fun j e o h=>by simp at h⟩
  |[],_::_,h=>by cases h
  | .own i::t,[],h=>by cases h
  | .eZ i::t,[],h=>by cases h
  | .ep i g off::t,[],h=>by cases h
  | .own i::t,o::M,h=>by
    obtain⟨h1,h2⟩:=j7 h.2
    refine⟨by simp[h1],fun j e o' he ho=> ?_⟩
    cases j with
    |zero=>simp at he ho;subst he;subst ho;exact h.1
    |succ j=>exact h2 j e o' (by simpa using he) (by simpa using ho)
  | .eZ i::t,o::M,h=>by
    obtain⟨h1,h2⟩:=j7 h.2
    refine⟨by simp[h1],fun j e o' he ho=> ?_⟩
    cases j with
    |zero=>simp at he ho;subst he;subst ho;exact h.1
    |succ j=>exact h2 j e o' (by simpa using he) (by simpa using ho)
  | .ep i g off::t,o::M,h=>by
    obtain⟨h1,h2⟩:=j7 h.2
    refine⟨by simp[h1],fun j e o' he ho=> ?_⟩
    cases j with
    |zero=>simp at he ho;subst he;subst ho;exact h.1
    |succ j=>exact h2 j e o' (by simpa using he) (by simpa using ho)
theorem nj:∀{t:List TE}{M M':AH},lr t M M'→t.length≤M'.length∧(∀(j:Nat) o',M'[j]?=some o'→match t[j]? with
 |some (.own _)=>o'.pD=true
 |none=>o'.pD=true
 |_=>M[j]?=some o')
 |[],M,M',h=>⟨Nat.zero_le _,fun j o' ho=>by
    simp only[List.getElem?_nil]
    exact List.all_eq_true.1 h o' (List.mem_of_getElem? ho)⟩
 | .own i::t,o::M,o1::M',h=>by
   obtain⟨h1,h2⟩:=nj h.2
   refine⟨by simpa using h1,fun j o' ho=>?_⟩
   cases j with
   |zero=>simp at ho;subst ho;exact h.1
   |succ j=>simpa using h2 j o' (by simpa using ho)
 | .eZ i::t,o::M,o1::M',h=>by
   obtain⟨h1,h2⟩:=nj h.2
   refine⟨by simpa using h1,fun j o' ho=>?_⟩
   cases j with
   |zero=>simp at ho;subst ho;simp[h.1]
   |succ j=>simpa using h2 j o' (by simpa using ho)
 | .ep i g off::t,o::M,o1::M',h=>by
   obtain⟨h1,h2⟩:=nj h.2
   refine⟨by simpa using h1,fun j o' ho=>?_⟩
   cases j with
   |zero=>simp at ho;subst ho;simp[h.1]
   |succ j=>simpa using h2 j o' (by simpa using ho)
 | .own _::_,[],_,h=>by cases h
 | .eZ _::_,[],_,h=>by cases h
 | .ep _ _ _::_,[],_,h=>by cases h
 | .own _::_,_::_,[],h=>by cases h
 | .eZ _::_,_::_,[],h=>by cases h
 | .ep _ _ _::_,_::_,[],h=>by cases h
theorem fK:∀{t:List TE},bB t=true→∀{j j':Nat}{e e':TE},t[j]?=some e→t[j']?=some e'→(e.eV=true∨e'.eV=true)→e.i=e'.i→j=j'
 |[],_,j,j',e,e',h,_,_,_=>by simp at h
 |a::t,ha,j,j',e,e',h,h',ho,hi=>by
  simp only[bB,Bool.and_eq_true,List.all_eq_true]at ha
  have key:∀b∈t,(a.eV=true∨b.eV=true)→a.i≠b.i:=by
   intro b hb Qw heq
   have:=ha.1 b hb
   rw[heq]at this
   have e1:Nat.beq b.i b.i=true:=Nat.beq_refl _
   rw[e1]at this
   rcases Qw with h|h<;>simp[h]at this
  cases j with
  |zero=>
   cases j' with
   |zero=>rfl
   |succ j'=>
    simp at h h'
    subst h
    exact absurd hi (key e' (List.mem_of_getElem? h') ho)
  |succ j=>
   cases j' with
   |zero=>
    simp at h h'
    subst h'
    exact absurd hi.symm (key e (List.mem_of_getElem? h) ho.symm)
   |succ j'=>exact congrArg Nat.succ (fK ha.2 (by simpa using h) (by simpa using h') ho hi)
theorem jf (t0:List TE)(m:Nat):∀(t:List TE)(M' Mc:AH),t.length≤M'.length→(c8 t0 m t M' Mc).length=Mc.length+(M'.length-t.length)
 |[],M',Mc,_=>by simp[c8,Ho]
 | .own i::t,o::M',Mc,h=>by
   simp only[c8];rw[jf t0 m t M' _ (by simpa using h)];simp
 | .eZ i::t,o::M',Mc,h=>by
   simp only[c8];rw[jf t0 m t M' _ (by simpa using h)];simp
 | .ep i g off::t,o::M',Mc,h=>by
   simp only[c8];rw[jf t0 m t M' _ (by simpa using h)];simp
 |_::_,[],Mc,h=>by simp at h
theorem po (t0:List TE)(m:Nat):∀(t:List TE)(M' Mc:AH)(k:Nat),t.length≤M'.length→(c8 t0 m t M' Mc)[Mc.length+k]?=(M'[t.length+k]?).map (AO.rn t0 m)
 |[],M',Mc,k,_=>by simp only[c8,Ho];rw[List.getElem?_append_right (by omega)];simp
 | .own i::t,o::M',Mc,k,h=>by
   simp only[c8]
   have:=po t0 m t M' (Mc.set i (o.rn t0 m)) k (by simpa using h)
   rw[List.length_set]at this
   rw[this,List.length_cons,show t.length+1+k=t.length+k+1 from by omega,List.getElem?_cons_succ]
 | .eZ i::t,o::M',Mc,k,h=>by
   simp only[c8]
   rw[po t0 m t M' Mc k (by simpa using h),List.length_cons,show t.length+1+k=t.length+k+1 from by omega,List.getElem?_cons_succ]
 | .ep i g off::t,o::M',Mc,k,h=>by
   simp only[c8]
   rw[po t0 m t M' Mc k (by simpa using h),List.length_cons,show t.length+1+k=t.length+k+1 from by omega,List.getElem?_cons_succ]
 |_::_,[],Mc,k,h=>by simp at h
theorem lS (t0:List TE)(m:Nat):∀(t:List TE)(M' Mc:AH)(i:Nat),i<Mc.length→t.length≤M'.length→(∀j:Nat,t[j]?≠some (TE.own i))→(c8 t0 m t M' Mc)[i]?=Mc[i]?
 |[],M',Mc,i,hi,_,_=>by simp only[c8];rw[List.getElem?_append_left hi]
 | .own i0::t,o::M',Mc,i,hi,h,hn=>by
   simp only[c8]
   rw[lS t0 m t M' _ i (by simpa using hi) (by simpa using h) (fun j hj=>hn (j+1) (by simpa using hj))]
   rw[List.getElem?_set_ne]
   intro e;subst e;exact hn 0 rfl
 | .eZ i0::t,o::M',Mc,i,hi,h,hn=>by
   simp only[c8]
   exact lS t0 m t M' _ i hi (by simpa using h) (fun j hj=>hn (j+1) (by simpa using hj))
 | .ep i0 g off::t,o::M',Mc,i,hi,h,hn=>by
   simp only[c8]
   exact lS t0 m t M' _ i hi (by simpa using h) (fun j hj=>hn (j+1) (by simpa using hj))
 |_::_,[],Mc,i,_,h,_=>by simp at h
theorem pn (t0:List TE)(m:Nat):∀(t:List TE)(M' Mc:AH)(i j:Nat),i<Mc.length→t.length≤M'.length→bB t=true→t[j]?=some (.own i)→(c8 t0 m t M' Mc)[i]?=(M'[j]?).map (AO.rn t0 m)
 |[],M',Mc,i,j,_,_,_,hj=>by simp at hj
 |_::_,[],Mc,i,j,_,h,_,_=>by simp at h
 |e::t,o::M',Mc,i,0,hi,h,ha,hj=>by
  simp at hj;subst hj
  simp only[c8]
  rw[lS t0 m t M' _ i (by simpa using hi) (by simpa using h)]
  ·simp[List.getElem?_set,hi]
  ·intro j hj
   have:=fK ha (j:=0) (j':=j+1) (e:=.own i) (e':=.own i) rfl (by simpa using hj) (.inl rfl) rfl
   omega
 | .own i0::t,o::M',Mc,i,j+1,hi,h,ha,hj=>by
   simp only[c8]
   have qG:bB t=true:=by simp only[bB,Bool.and_eq_true]at ha;exact ha.2
   rw[pn t0 m t M' _ i j (by simpa using hi) (by simpa using h) qG (by simpa using hj)];simp
 | .eZ i0::t,o::M',Mc,i,j+1,hi,h,ha,hj=>by
   simp only[c8]
   have qG:bB t=true:=by simp only[bB,Bool.and_eq_true]at ha;exact ha.2
   rw[pn t0 m t M' _ i j hi (by simpa using h) qG (by simpa using hj)];simp
 | .ep i0 g off::t,o::M',Mc,i,j+1,hi,h,ha,hj=>by
   simp only[c8]
   have qG:bB t=true:=by simp only[bB,Bool.and_eq_true]at ha;exact ha.2
   rw[pn t0 m t M' _ i j hi (by simpa using h) qG (by simpa using hj)];simp
def bZ (t:List TE)(ρ:Env):Env:=fun j g=>
 match t[j]? with
 |some (.own i)=>ρ i g
 |some (.eZ i)=>ρ i g
 |some (.ep i g' off)=>if g=0 then(ρ i g').map (fun l=>l.map (fun q=>(q.1,q.2+off)))else none
 |none=>none
theorem xy {t0:List TE}{m:Nat}{o:AO}{g:Nat}:a9 (o.rn t0 m) g=(a9 o g).map (fun x=>(x.1,x.2.rn t0 m)):=by
 cases o with
 |gone=>rfl
 |one own g' x=>simp only[AO.rn,a9];split<;>rfl
 |bu own n x=>simp only[AO.rn,a9];split<;>rfl
theorem J7 {o:AO}{g:Nat}:a9 o.ro g=(a9 o g).map (fun x=>(false,x.2)):=by
 cases o with
 |gone=>rfl
 |one own g' x=>simp only[AO.ro,a9];split<;>rfl
 |bu own n x=>simp only[AO.ro,a9];split<;>rfl
theorem sF {o:AO}(h:o.pD=true){g:Nat}{own:Bool}{x:ae}(hs:a9 o g=some (own,x)):own=true:=by
 cases o with
 |gone=>cases hs
 |one bn g' x'=>
  cases bn with
  |false=>cases h
  |true=>
   simp only[a9]at hs
   split at hs
   ·injection hs with hs;injection hs with h1 _;exact h1.symm
   ·cases hs
 |bu bn n x'=>
  cases bn with
  |false=>cases h
  |true=>
   simp only[a9]at hs
   split at hs
   ·injection hs with hs;injection hs with h1 _;exact h1.symm
   ·cases hs
end Go.Proofs.Ytibadaomjlkoaaa
open Go.RowKit
namespace Go.Proofs.Ytibadaomjlkoaaa
structure GG (t:List TE)(m:Nat)(ρ' JN:Env):Prop where
 out:∀j g l,ρ' j g=some l→∃l0,JN (yP t m j) (Bp t j g)=some l0∧l=l0.map (fun q=>(q.1,q.2+Bq t j 0))
theorem xK (t:List TE)(j off:Nat):Bq t j off=Bq t j 0+off:=by
 unfold Bq;split<;>omega
mutual
theorem qe {t:List TE}{m:Nat}{ρ' JN:Env}(h:GG t m ρ' JN):∀v:AV,v.ok ρ'→(v.rn t m).ok JN∧(v.rn t m).c JN=v.c ρ'
 | .ptr i g off=>fun aA=>by
   simp only[AV.ok]at aA
   obtain⟨l,hl⟩:=Option.isSome_iff_exists.1 aA
   obtain⟨l0,h1,rfl⟩:=h.out i g l hl
   refine⟨by simp[AV.rn,AV.ok,h1],?_⟩
   simp only[AV.rn,AV.c,h1,hl]
   cases l0 with
   |none=>rfl
   |some q=>simp only[Option.map_some,xK t i off];congr 2;congr 1;omega
 | .lY i g sz j off=>fun aA=>by
   simp only[AV.ok]at aA
   obtain⟨l,hl⟩:=Option.isSome_iff_exists.1 aA
   obtain⟨l0,h1,rfl⟩:=h.out i g l hl
   refine⟨by simp[AV.rn,AV.ok,h1],?_⟩
   simp only[AV.rn,AV.c,h1,hl]
   cases l0 with
   |none=>rfl
   |some q=>simp only[Option.map_some,xK t i off];congr 2;congr 1;omega
 | .sl i g off n c=>fun aA=>by
   simp only[AV.ok]at aA
   obtain⟨l,hl⟩:=Option.isSome_iff_exists.1 aA
   obtain⟨l0,h1,rfl⟩:=h.out i g l hl
   refine⟨by simp[AV.rn,AV.ok,h1],?_⟩
   simp only[AV.rn,AV.c,h1,hl]
   cases l0 with
   |none=>rfl
   |some q=>simp only[Option.map_some,xK t i off];congr 2;congr 1;omega
 | .mp i g=>fun aA=>by
   simp only[AV.ok]at aA
   obtain⟨l,hl⟩:=Option.isSome_iff_exists.1 aA
   obtain⟨l0,h1,rfl⟩:=h.out i g l hl
   refine⟨by simp[AV.rn,AV.ok,h1],?_⟩
   simp only[AV.rn,AV.c,h1,hl]
   cases l0 with
   |none=>rfl
   |some q=>rfl
 | .fn q a b=>fun aA=>by
   simp only[AV.ok]at aA
   obtain⟨a1,a2⟩:=qY h a aA.1
   obtain⟨b1,b2⟩:=qY h b aA.2
   exact⟨⟨a1,b1⟩,by simp only[AV.rn,AV.c,a2,b2]⟩
 | .iU ty v=>fun aA=>by
   simp only[AV.ok]at aA
   obtain⟨a1,a2⟩:=qe h v aA
   exact⟨a1,by simp only[AV.rn,AV.c,a2]⟩
 | .agg l=>fun aA=>by
   simp only[AV.ok]at aA
   obtain⟨a1,a2⟩:=qY h l aA
   exact⟨a1,by simp only[AV.rn,AV.c,a2]⟩
 | .aG l=>fun aA=>by
   simp only[AV.ok]at aA
   obtain⟨a1,a2⟩:=qY h l aA
   exact⟨a1,by simp only[AV.rn,AV.c,a2]⟩
 | .bo _=>fun _=>⟨trivial,rfl⟩| .tt=>fun _=>⟨trivial,rfl⟩| .ff=>fun _=>⟨trivial,rfl⟩| .int _ _=>fun _=>⟨trivial,rfl⟩| .str _=>fun _=>⟨trivial,rfl⟩
 | .np=>fun _=>⟨trivial,rfl⟩| .ns=>fun _=>⟨trivial,rfl⟩| .nf=>fun _=>⟨trivial,rfl⟩| .ni=>fun _=>⟨trivial,rfl⟩| .nm=>fun _=>⟨trivial,rfl⟩| .raw _=>fun _=>⟨trivial,rfl⟩
theorem qY {t:List TE}{m:Nat}{ρ' JN:Env}(h:GG t m ρ' JN):∀l:List AV,AV.dC ρ' l→AV.dC JN (AV.qZ t m l)∧AV.cl JN (AV.qZ t m l)=AV.cl ρ' l
 |[]=>fun _=>⟨trivial,rfl⟩
 |v::l=>fun aA=>by
  simp only[AV.dC]at aA
  obtain⟨a1,a2⟩:=qe h v aA.1
  obtain⟨b1,b2⟩:=qY h l aA.2
  exact⟨⟨a1,b1⟩,by simp only[AV.qZ,AV.cl,a2,b2]⟩
end
def MC (t:List TE)(j g:Nat):Bool:=
 match t[j]? with
 |some (.ep _ _ _)=>Nat.beq g 0
 |some _=>true
 |none=>false
mutual
def AV.w0 (t:List TE):AV→Bool
 | .ptr i g _=>MC t i g
 | .lY i g _ _ _=>MC t i g
 | .sl i g _ _ _=>MC t i g
 | .mp i g=>MC t i g
 | .fn _ a b=>AV.oT t a&&AV.oT t b
 | .iU _ v=>v.w0 t
 | .agg l=>AV.oT t l
 | .aG l=>AV.oT t l
 | .raw _=>true| .bo _=>true| .tt=>true| .ff=>true| .int _ _=>true| .str _=>true| .np=>true| .ns=>true| .nf=>true| .ni=>true| .nm=>true
def AV.oT (t:List TE):List AV→Bool
 |[]=>true
 |v::l=>v.w0 t&&AV.oT t l
end
theorem nu {t:List TE}{m:Nat}{ρ:Env}{j g:Nat}(hw:MC t j g=true)(h:(ρ (yP t m j) (Bp t j g)).isSome=true):(bZ t ρ j g).isSome=true:=by
 unfold MC at hw
 unfold yP Bp at h
 unfold bZ
 cases ht:t[j]? with
 |none=>rw[ht]at hw;cases hw
 |some e=>
  rw[ht]at hw h
  cases e with
  |own i=>exact h
  |eZ i=>exact h
  |ep i g' off=>
   have:g=0:=Nat.eq_of_beq_eq_true hw
   simp only[this,if_true]
   simpa[TE.i]using h
mutual
theorem mX {t:List TE}{m:Nat}{ρ:Env}:∀v:AV,v.w0 t=true→(v.rn t m).ok ρ→v.ok (bZ t ρ)
 | .ptr i g _=>fun hw h=>by simp only[AV.w0]at hw;simp only[AV.rn,AV.ok]at h⊢;exact nu hw h
 | .lY i g _ _ _=>fun hw h=>by simp only[AV.w0]at hw;simp only[AV.rn,AV.ok]at h⊢;exact nu hw h
 | .sl i g _ _ _=>fun hw h=>by simp only[AV.w0]at hw;simp only[AV.rn,AV.ok]at h⊢;exact nu hw h
 | .mp i g=>fun hw h=>by simp only[AV.w0]at hw;simp only[AV.rn,AV.ok]at h⊢;exact nu hw h
 | .fn _ a b=>fun hw h=>by
   simp only[AV.w0,Bool.and_eq_true]at hw;simp only[AV.rn,AV.ok]at h⊢
   exact⟨fT a hw.1 h.1,fT b hw.2 h.2⟩
 | .iU _ v=>fun hw h=>by simp only[AV.w0]at hw;simp only[AV.rn,AV.ok]at h⊢;exact mX v hw h
 | .agg l=>fun hw h=>by simp only[AV.w0]at hw;simp only[AV.rn,AV.ok]at h⊢;exact fT l hw h
 | .aG l=>fun hw h=>by simp only[AV.w0]at hw;simp only[AV.rn,AV.ok]at h⊢;exact fT l hw h
 | .bo _=>fun _ _=>trivial| .tt=>fun _ _=>trivial| .ff=>fun _ _=>trivial| .int _ _=>fun _ _=>trivial| .str _=>fun _ _=>trivial
 | .np=>fun _ _=>trivial| .ns=>fun _ _=>trivial| .nf=>fun _ _=>trivial| .ni=>fun _ _=>trivial| .nm=>fun _ _=>trivial| .raw _=>fun _ _=>trivial
theorem fT {t:List TE}{m:Nat}{ρ:Env}:∀l:List AV,AV.oT t l=true→AV.dC ρ (AV.qZ t m l)→AV.dC (bZ t ρ) l
 |[]=>fun _ _=>trivial
 |v::l=>fun hw h=>by
  simp only[AV.oT,Bool.and_eq_true]at hw;simp only[AV.qZ,AV.dC]at h⊢
  exact⟨mX v hw.1 h.1,fT l hw.2 h.2⟩
end
theorem uh {t:List TE}{m:Nat}{ρ:Env}:GG t m (bZ t ρ) ρ:=by
 constructor
 intro j g l hl
 unfold bZ at hl
 unfold yP Bp Bq
 cases ht:t[j]? with
 |none=>rw[ht]at hl;cases hl
 |some e=>
  rw[ht]at hl
  cases e with
  |own i=>exact⟨l,hl,by cases l<;>rfl⟩
  |eZ i=>exact⟨l,hl,by cases l<;>rfl⟩
  |ep i g' off=>
   simp only at hl
   split at hl
   ·rw[Option.map_eq_some_iff]at hl
    obtain⟨l0,h1,h2⟩:=hl
    exact⟨l0,h1,h2.symm⟩
   ·cases hl
section
variable{t:List TE}{Mc M:AH}{ρ:Env}{w:World}
theorem sG {M:AH}{i g:Nat}{own:Bool}{x:ae}(h:slot M i g=some (own,x)):∃o,M[i]?=some o∧a9 o g=some (own,x):=by
 unfold slot at h
 cases ho:M[i]? with
 |none=>rw[ho]at h;cases h
 |some o=>rw[ho]at h;exact⟨o,rfl,h⟩
theorem rZ {M:AH}{i g:Nat}{o:AO}{y:Option (Bool×ae)}(h1:M[i]?=some o)(h2:a9 o g=y):slot M i g=y:=by
 unfold slot;rw[h1];exact h2
theorem mB (fE:ud t Mc.length Mc t M){j g:Nat}{own:Bool}{x:ae}(hs:slot M j g=some (own,x)):
 (∃i,t[j]?=some (.own i)∧slot Mc i g=some (own,x.rn t Mc.length)∧own=true)∨
 (∃i bn,t[j]?=some (.eZ i)∧slot Mc i g=some (bn,x.rn t Mc.length)∧own=false)∨
 (∃i g' off bn xc,t[j]?=some (.ep i g' off)∧g=0∧slot Mc i g'=some (bn,xc)∧eh t Mc.length off x xc∧own=false):=by
 obtain⟨hl,cj⟩:=j7 fE
 obtain⟨o,ho,rk⟩:=sG hs
 have hj:j<t.length:=by rw[hl];exact(List.getElem?_eq_some_iff.1 ho).1
 obtain⟨e,he⟩:∃e,t[j]?=some e:=⟨_,List.getElem?_eq_getElem hj⟩
 have:=cj j e o he ho
 cases e with
 |own i=>
  refine .inl ⟨i,he,?_,sF this.2 rk⟩
  exact rZ this.1 (by rw[xy,rk];rfl)
 |eZ i=>
  obtain⟨_,o',h1,h2⟩:=this
  have h3:a9 (o.rn t Mc.length) g=a9 o'.ro g:=by rw[h2]
  rw[xy,J7,rk]at h3
  cases hh:a9 o' g with
  |none=>rw[hh]at h3;cases h3
  |some y=>
   rw[hh]at h3
   simp only[Option.map_some,Option.some.injEq,Prod.mk.injEq]at h3
   obtain⟨bn,xc⟩:=y
   refine .inr (.inl ⟨i,bn,he,rZ h1 ?_,h3.1⟩)
   rw[hh,h3.2]
 |ep i g' off=>
  obtain⟨x0,bn,xc,rfl,h2,h3⟩:=this
  simp only[a9]at rk
  split at rk
  ·injection rk with rk;injection rk with a b;subst a;subst b
   exact .inr (.inr ⟨i,g',off,bn,xc,he,‹_›,h2,h3,rfl⟩)
  ·cases rk
theorem iP (fE:ud t Mc.length Mc t M){j g:Nat}{x:ae}{q:Nat×Nat}(hs:slot M j g=some (true,x))(hq:bZ t ρ j g=some (some q)):
 ∃i,t[j]?=some (.own i)∧slot Mc i g=some (true,x.rn t Mc.length)∧ρ i g=some (some q):=by
 rcases mB fE hs with⟨i,h1,h2,_⟩|⟨_,_,_,_,h⟩|⟨_,_,_,_,_,_,_,_,_,h⟩
 ·unfold bZ at hq;rw[h1]at hq;exact⟨i,h1,h2,hq⟩
 ·cases h
 ·cases h
def ae.w0 (t:List TE):ae→Prop
 | .cells cs=>AV.oT t cs=true
 | .ints _ _ _=>True
 | .bN _ _=>True
 | .cI _ n get _=>∀j,AV.oT t (get j)=true
 | .map _ es=>∀p∈es,p.2.w0 t=true
 | .loop _ _ _ _ _ a _ _ _ _=>∀j,(a j).w0 t=true
def AO.w0 (t:List TE):AO→Prop
 | .gone=>True
 | .one _ _ x=>x.w0 t
 | .bu _ _ x=>∀g,(x g).w0 t
def NJ (t:List TE):AH→Prop
 |[]=>True
 |o::M=>o.w0 t∧NJ t M
theorem xm {t:List TE}:∀{l:List AV},AV.oT t l=true→∀v∈l,v.w0 t=true
 |[],_,v,hv=>by cases hv
 |u::l,h,v,hv=>by
  simp only[AV.oT,Bool.and_eq_true]at h
  rcases List.mem_cons.1 hv with rfl|hv
  ·exact h.1
  ·exact xm h.2 v hv
theorem ae.QO {t:List TE}{x:ae}(h:x.w0 t){j:Nat}{v:AV}(hv:x.at j=some v):v.w0 t=true:=by
 cases x with
 |cells cs=>exact xm h v (List.mem_of_getElem? hv)
 |ints kk xs c=>simp only[ae.at,Option.map_eq_some_iff]at hv;obtain⟨z,_,rfl⟩:=hv;rfl
 |bN xs c=>simp only[ae.at,Option.map_eq_some_iff]at hv;obtain⟨z,_,rfl⟩:=hv;rfl
 |cI sz n get c=>
  simp only[ae.at]at hv
  split at hv
  ·exact xm (h _) v (List.mem_of_getElem? hv)
  ·cases hv
 |map _ _=>simp[ae.at]at hv
 |loop _ _ _ _ _ _ _ _ _ _=>simp[ae.at]at hv
theorem DC {t:List TE}:∀{M:AH},NJ t M→∀{i:Nat}{o:AO},M[i]?=some o→o.w0 t
 |[],_,i,o,h=>by simp at h
 |p::M,hn,0,o,h=>by simp at h;subst h;exact hn.1
 |p::M,hn,i+1,o,h=>DC hn.2 (by simpa using h)
theorem J6 {t:List TE}{M:AH}(h:NJ t M){i g:Nat}{own:Bool}{x:ae}(hs:slot M i g=some (own,x)):x.w0 t:=by
 obtain⟨o,ho,rk⟩:=sG hs
 have:=DC h ho
 cases o with
 |gone=>cases rk
 |one bn g' x'=>
  simp only[a9]at rk
  split at rk
  ·injection rk with rk;injection rk with h1 h2;subst h2;exact this
  ·cases rk
 |bu bn m x'=>
  simp only[a9]at rk
  split at rk
  ·injection rk with rk;injection rk with h1 h2;subst h2;exact this g
  ·cases rk
theorem uG (hs:aR ρ Mc w)(oU:bB t=true)(fE:ud t Mc.length Mc t M)(Pf:NJ t M):aR (bZ t ρ) M w:=by
 obtain⟨hl,cj⟩:=j7 fE
 have hR:GG t Mc.length (bZ t ρ) ρ:=uh
 have PQ:∀j g,(bZ t ρ j g).isSome=true→∃e,t[j]?=some e:=by
  intro j g h
  unfold bZ at h
  cases ht:t[j]? with
  |none=>rw[ht]at h;cases h
  |some e=>exact⟨e,rfl⟩
 refine⟨?_,?_,?_,?_,?_⟩
 ·intro j g h
  obtain⟨e,he⟩:=PQ j g h
  rw[←hl];exact(List.getElem?_eq_some_iff.1 he).1
 ·intro j g own g' x hm h
  obtain⟨e,he⟩:=PQ j g h
  have:=cj j e _ he hm
  unfold bZ at h
  rw[he]at h
  cases e with
  |own i=>exact hs.tag i g own g' _ this.1 h
  |eZ i=>
   obtain⟨_,o',h1,h2⟩:=this
   cases o' with
   |gone=>cases h2
   |one nA g2 x2=>injection h2 with _ e2 _;subst e2;exact hs.tag i g nA _ x2 h1 h
   |bu _ _ _=>cases h2
  |ep i g2 off=>
   obtain⟨x0,nA,xc,e0,_,_⟩:=this
   injection e0 with _ e1 _
   simp only at h
   split at h
   ·omega
   ·cases h
 ·intro j g own n x hm h
  obtain⟨e,he⟩:=PQ j g h
  have:=cj j e _ he hm
  unfold bZ at h
  rw[he]at h
  cases e with
  |own i=>exact hs.bu i g own n _ this.1 h
  |eZ i=>
   obtain⟨_,o',h1,h2⟩:=this
   cases o' with
   |gone=>cases h2
   |one nA g2 x2=>cases h2
   |bu nA n2 x2=>injection h2 with _ e2 _;subst e2;exact hs.bu i g nA _ x2 h1 h
  |ep i g2 off=>
   obtain⟨x0,nA,xc,e0,_,_⟩:=this
   cases e0
 ·intro j g own x cQ
  have Uj:=J6 Pf cQ
  have WU:∀(bn:Bool)(b base:Nat),bH ρ bn (x.rn t Mc.length) b base w→x.row=false→bH (bZ t ρ) own x b base w:=by
   intro bn b base hh hx
   rcases hh.all with⟨h0,_⟩|⟨_,hb,hs⟩
   ·rw[ae.qd,hx]at h0;cases h0
   ·refine⟨.inr ⟨hx,hb,?_⟩⟩
    cases x with
    |map kk es=>
     obtain⟨fb,clock,h1,h2,h3,h4,h5⟩:=hs
     have aA:∀p∈es,p.2.ok (bZ t ρ):=fun p hp=>mX p.2 (Uj p hp) (h3 (p.1,p.2.rn t Mc.length) (List.mem_map_of_mem hp)).1
     refine⟨fb,clock,h1,?_,fun p hp=>⟨aA p hp,(h3 (p.1,p.2.rn t Mc.length) (List.mem_map_of_mem hp)).2⟩,h4,h5⟩
     rw[h2,List.map_map]
     exact List.map_congr_left fun p hp=>by show(kk.v p.1,(p.2.rn t Mc.length).c ρ)=_;rw[(qe hR p.2 (aA p hp)).2]
    |loop l st pd fn n a ps as bd df=>
     obtain⟨h1,tmps,h2,h3,h4⟩:=hs
     have aA:∀j,(a j).ok (bZ t ρ):=fun j=>mX (a j) (Uj j) (h4 j).1
     exact⟨h1,tmps,h2,h3,fun j=>⟨aA j,by rw[(h4 j).2,(qe hR (a j) (aA j)).2]⟩⟩
    |cells _=>exact hs.elim
    |ints _ _ _=>exact hs.elim
    |bN _ _=>exact hs.elim
    |cI _ _ _ _=>exact hs.elim
  have back:∀(bn:Bool)(xc:ae)(b base off:Nat),x.row=true→xc.row=true→bH ρ bn xc b base w→(∀k v,x.at k=some v→xc.at (off+k)=some (v.rn t Mc.length))→off+x.size≤xc.size→(own=true→bn=true)→bH (bZ t ρ) own x b (base+off) w:=by
   intro bn xc b base off qA Uk hh fp er BT
   obtain⟨c,e,fr,k1,k2,k3,k4⟩:=hh.out Uk
   refine .mk' qA ⟨c,e,fr,k1,by omega,fun k v hv=>?_,fun h=>k4 (BT h)⟩
   have h1:=k3 _ _ (fp k v hv)
   have h2:=mX v (ae.QO Uj hv) h1.1
   rw[Nat.add_assoc]
   exact⟨h2,by rw[←(qe hR v h2).2];exact h1.2⟩
  rcases mB fE cQ with⟨i,h1,h2,h3⟩|⟨i,bn,h1,h2,h3⟩|⟨i,g',off,bn,xc,h1,h0,h2,h3,h4⟩
  ·have he:bZ t ρ j g=ρ i g:=by unfold bZ;rw[h1]
   rcases hs.holds i g _ _ h2 with⟨q,e1,e2⟩|⟨e1,e2⟩
   ·exact .inl ⟨q,by rw[he];exact e1,if hx:x.row=true then back own _ q.1 q.2 0 hx (by rw[ae.qd];exact hx) e2 (fun k v hv=>by rw[Nat.zero_add,ae.DV,hv];rfl) (by rw[ae.r8];omega) (fun h=>h)else WU own _ _ e2 (by simpa using hx)⟩
   ·exact .inr ⟨by rw[he];exact e1,by cases x<;>exact e2⟩
  ·have he:bZ t ρ j g=ρ i g:=by unfold bZ;rw[h1]
   rcases hs.holds i g _ _ h2 with⟨q,e1,e2⟩|⟨e1,e2⟩
   ·exact .inl ⟨q,by rw[he];exact e1,if hx:x.row=true then back bn _ q.1 q.2 0 hx (by rw[ae.qd];exact hx) e2 (fun k v hv=>by rw[Nat.zero_add,ae.DV,hv];rfl) (by rw[ae.r8];omega) (fun h=>by rw[h3]at h;cases h)else WU bn _ _ e2 (by simpa using hx)⟩
   ·exact .inr ⟨by rw[he];exact e1,by cases x<;>exact e2⟩
  ·have he:bZ t ρ j g=(ρ i g').map (fun l=>l.map (fun q=>(q.1,q.2+off))):=by unfold bZ;rw[h1];simp[h0]
   rcases hs.holds i g' _ _ h2 with⟨q,e1,e2⟩|⟨e1,e2⟩
   ·exact .inl ⟨(q.1,q.2+off),by rw[he,e1];rfl,back bn _ q.1 q.2 off h3.2.2.2.1 h3.2.2.2.2 e2 h3.2.1 h3.1 (fun h=>by rw[h4]at h;cases h)⟩
   ·exact .inr ⟨by rw[he,e1];rfl,h3.2.2.1 e2⟩
 ·intro j g x j' g' bn x' q q' fZ nD hq A2 Vl
  obtain⟨i,a1,a2,a3⟩:=iP fE fZ hq
  rcases mB fE nD with⟨i',h1,h2,h3⟩|⟨i',nA,h1,h2,h3⟩|⟨i',g2,off,nA,xc,h1,h0,h2,h3,h4⟩
  ·have he:ρ i' g'=some (some q'):=by unfold bZ at A2;rw[h1]at A2;exact A2
   obtain⟨e1,e2⟩:=hs.apart i g _ i' g' _ _ q q' a2 h2 a3 he Vl
   exact⟨fK oU a1 h1 (.inl rfl) e1,e2⟩
  ·have he:ρ i' g'=some (some q'):=by unfold bZ at A2;rw[h1]at A2;exact A2
   obtain⟨e1,e2⟩:=hs.apart i g _ i' g' _ _ q q' a2 h2 a3 he Vl
   exact⟨fK oU a1 h1 (.inl rfl) e1,e2⟩
  ·exfalso
   unfold bZ at A2
   rw[h1]at A2
   simp only[h0,if_true,Option.map_eq_some_iff]at A2
   obtain⟨l,JC,oB⟩:=A2
   obtain⟨q0,e0,e3⟩:=oB
   subst e0
   obtain⟨e1,e2⟩:=hs.apart i g _ i' g2 _ _ q q0 a2 h2 a3 JC (by rw[Vl,←e3])
   have:=fK oU a1 h1 (.inl rfl) e1
   subst this
   rw[a1]at h1;cases h1
end
end Go.Proofs.Ytibadaomjlkoaaa
open Go.RowKit
namespace Go.Proofs.Ytibadaomjlkoaaa
def fP:List TE→Nat→Option Nat
 |[],_=>none
 | .own i::t,k=>if i=k then some 0 else(fP t k).map (·+1)
 |_::t,k=>(fP t k).map (·+1)
theorem ee:∀{t:List TE}{k j:Nat},fP t k=some j→t[j]?=some (.own k)
 |[],k,j,h=>by cases h
 | .own i::t,k,j,h=>by
   simp only[fP]at h
   split at h
   ·injection h with h;subst h;subst_vars;rfl
   ·obtain⟨j',h1,rfl⟩:=Option.map_eq_some_iff.1 h
    simpa using ee h1
 | .eZ i::t,k,j,h=>by
   obtain⟨j',h1,rfl⟩:=Option.map_eq_some_iff.1 h
   simpa using ee h1
 | .ep i g off::t,k,j,h=>by
   obtain⟨j',h1,rfl⟩:=Option.map_eq_some_iff.1 h
   simpa using ee h1
theorem fm:∀{t:List TE}{k:Nat},fP t k=none→∀j:Nat,t[j]?≠some (TE.own k)
 |[],k,h,j=>by simp
 | .own i::t,k,h,j=>by
   simp only[fP]at h
   split at h
   ·cases h
   ·have h':=Option.map_eq_none_iff.1 h
    cases j with
    |zero=>simp only[List.getElem?_cons_zero];intro e;injection e with e;injection e with e;exact‹¬_› e
    |succ j=>simpa using fm h' j
 | .eZ i::t,k,h,j=>by
   have h':=Option.map_eq_none_iff.1 h
   cases j with
   |zero=>simp
   |succ j=>simpa using fm h' j
 | .ep i g off::t,k,h,j=>by
   have h':=Option.map_eq_none_iff.1 h
   cases j with
   |zero=>simp
   |succ j=>simpa using fm h' j
def pQ (t:List TE)(m:Nat)(ρ ek:Env):Env:=fun i g=>
 match ρ i g with
 |some l=>some l
 |none=>if m≤i then ek (t.length+(i-m)) g else match fP t i with
  |some j=>ek j g
  |none=>none
set_option maxHeartbeats 1000000 in
theorem uE {t:List TE}{Mc M M':AH}{ρ ek:Env}{w w':World}(hs:aR ρ Mc w)(oU:bB t=true)(fE:ud t Mc.length Mc t M)(Iv:lr t M M')
 (nD:aR ek M' w')(hE:Ext (bZ t ρ) M w ek M' w')(fZ:aR (bZ t ρ) M w):
 GG t Mc.length ek (pQ t Mc.length ρ ek)∧aR (pQ t Mc.length ρ ek) (c8 t Mc.length t M' Mc) w'∧Ext ρ Mc w (pQ t Mc.length ρ ek) (c8 t Mc.length t M' Mc) w':=by
 obtain⟨hl,cj⟩:=j7 fE
 obtain⟨hlen,VG⟩:=nj Iv
 have hold:∀i g l,ρ i g=some l→pQ t Mc.length ρ ek i g=some l:=fun i g l h=>by simp only[pQ,h]
 have BT:∀i j:Nat,t[j]?=some (TE.own i)→i<Mc.length∧∀g,pQ t Mc.length ρ ek i g=ek j g:=by
  intro i j hj
  have Ad:j<M.length:=by rw[←hl];exact(List.getElem?_eq_some_iff.1 hj).1
  have hi:i<Mc.length:=by
   have:=cj j _ _ hj (List.getElem?_eq_getElem Ad)
   exact(List.getElem?_eq_some_iff.1 this.1).1
  refine⟨hi,fun g=>?_⟩
  have hc:bZ t ρ j g=ρ i g:=by unfold bZ;rw[hj]
  unfold pQ
  cases hr:ρ i g with
  |some l=>exact(hE.env j g l (by rw[hc,hr])).symm
  |none=>
   simp only
   rw[if_neg (by omega)]
   cases hf:fP t i with
   |none=>exact absurd hj (fm hf j)
   |some j'=>rw[fK oU hj (ee hf) (.inl rfl) rfl]
 have lE:∀k g,pQ t Mc.length ρ ek (Mc.length+k) g=ek (t.length+k) g:=by
  intro k g
  unfold pQ
  cases hr:ρ (Mc.length+k) g with
  |some l=>have:=hs.nw (Mc.length+k) g (by rw[hr];rfl);omega
  |none=>simp only;rw[if_pos (by omega),show Mc.length+k-Mc.length=k from by omega]
 have M3:∀i,i<Mc.length→(∀j:Nat,t[j]?≠some (TE.own i))→∀g,pQ t Mc.length ρ ek i g=ρ i g:=by
  intro i hi hn g
  unfold pQ
  cases hr:ρ i g with
  |some l=>rfl
  |none=>
   simp only
   rw[if_neg (by omega)]
   cases hf:fP t i with
   |none=>rfl
   |some j=>exact absurd (ee hf) (hn j)
 have hR:GG t Mc.length ek (pQ t Mc.length ρ ek):=by
  constructor
  intro j g l JB
  unfold yP Bp Bq
  have YJ:j<M'.length:=nD.nw j g (by rw[JB];rfl)
  have Uq:=List.getElem?_eq_getElem YJ
  have hk:=VG j _ Uq
  cases ht:t[j]? with
  |none=>
   have F8:t.length≤j:=by simpa using ht
   simp only
   refine⟨l,?_,by cases l<;>rfl⟩
   rw[lE,show t.length+(j-t.length)=j from by omega];exact JB
  |some e=>
   rw[ht]at hk
   cases e with
   |own i=>exact⟨l,((BT i j ht).2 g).trans JB,by cases l<;>rfl⟩
   |eZ i=>
    simp only at hk
    have h0:=(cj j _ _ ht hk).1
    have cQ:∃own x,slot M j g=some (own,x):=by
     unfold slot
     rw[hk]
     generalize M'[j]=o at*
     cases o with
     |gone=>cases h0
     |one own g1 x=>
      have:g1=0:=Nat.eq_of_beq_eq_true h0
      have h2:=nD.tag j g own g1 x Uq (by rw[JB];rfl)
      exact⟨own,x,by simp only[a9];rw[if_pos (by omega)]⟩
     |bu own n x=>
      have h2:=nD.bu j g own n x Uq (by rw[JB];rfl)
      exact⟨own,x g,by simp only[a9];rw[if_pos h2]⟩
    obtain⟨own,x,cQ⟩:=cQ
    have hc:bZ t ρ j g=ρ i g:=by unfold bZ;rw[ht]
    have:ρ i g=some l:=by
     rcases fZ.holds j g own x cQ with⟨q,e1,_⟩|⟨e1,_⟩
     ·have:=hE.env j g _ e1;rw[JB]at this;rw[←hc,e1,this]
     ·have:=hE.env j g _ e1;rw[JB]at this;rw[←hc,e1,this]
    exact⟨l,hold i g l this,by cases l<;>rfl⟩
   |ep i g' off=>
    simp only at hk
    obtain⟨x,own,xc,ho,h1,h2⟩:=cj j _ _ ht hk
    have hg:g=0:=by
     have:=nD.tag j g false 0 x (by rw[Uq,ho]) (by rw[JB];rfl)
     omega
    subst hg
    have cQ:slot M j 0=some (false,x):=rZ (o:=M'[j]) hk (by rw[ho];rfl)
    have hc:bZ t ρ j 0=(ρ i g').map (fun l=>l.map (fun q=>(q.1,q.2+off))):=by unfold bZ;rw[ht];simp
    have:bZ t ρ j 0=some l:=by
     rcases fZ.holds j 0 false x cQ with⟨q,e1,_⟩|⟨e1,_⟩
     ·have:=hE.env j 0 _ e1;rw[JB]at this;rw[e1,this]
     ·have:=hE.env j 0 _ e1;rw[JB]at this;rw[e1,this]
    rw[hc,Option.map_eq_some_iff]at this
    obtain⟨l0,e1,e2⟩:=this
    exact⟨l0,hold i g' l0 e1,e2.symm⟩
 have cls:∀i,(∃j,yP t Mc.length j=i∧(c8 t Mc.length t M' Mc)[i]?=(M'[j]?).map (AO.rn t Mc.length)∧(∀g,pQ t Mc.length ρ ek i g=ek j g)∧∀o,M'[j]?=some o→o.pD=true)∨
  (i<Mc.length∧(c8 t Mc.length t M' Mc)[i]?=Mc[i]?∧(∀g,pQ t Mc.length ρ ek i g=ρ i g)∧∀j:Nat,t[j]?≠some (TE.own i)):=by
  intro i
  by_cases hi:i<Mc.length
  ·cases hf:fP t i with
   |some j=>
    have hj:=ee hf
    refine .inl ⟨j,by unfold yP;rw[hj];rfl,pn t Mc.length t M' Mc i j hi hlen oU hj,(BT i j hj).2,fun o ho=>?_⟩
    have:=VG j o ho
    rw[hj]at this;exact this
   |none=>
    have hn:=fm hf
    exact .inr ⟨hi,lS t Mc.length t M' Mc i hi hlen hn,M3 i hi hn,hn⟩
  ·obtain⟨k,rfl⟩:∃k,i=Mc.length+k:=⟨i-Mc.length,by omega⟩
   have ht:t[t.length+k]?=none:=by simp
   refine .inl ⟨t.length+k,by unfold yP;rw[ht];simp only;omega,po t Mc.length t M' Mc k hlen,lE k,fun o ho=>?_⟩
   have:=VG (t.length+k) o ho
   rw[ht]at this;exact this
 have jU:∀{i j g:Nat}{own:Bool}{x:ae},(c8 t Mc.length t M' Mc)[i]?=(M'[j]?).map (AO.rn t Mc.length)→(∀o,M'[j]?=some o→o.pD=true)→slot (c8 t Mc.length t M' Mc) i g=some (own,x)→∃x',slot M' j g=some (true,x')∧x=x'.rn t Mc.length∧own=true:=by
  intro i j g own x h1 h2 cQ
  obtain⟨o,ho,rk⟩:=sG cQ
  rw[h1,Option.map_eq_some_iff]at ho
  obtain⟨o',tQ,rfl⟩:=ho
  rw[xy,Option.map_eq_some_iff]at rk
  obtain⟨⟨bn,x'⟩,e1,e2⟩:=rk
  have:=sF (h2 o' tQ) e1
  subst this
  injection e2 with e2 e3
  exact⟨x',rZ tQ e1,e3.symm,e2.symm⟩
 have jQ:∀{i g:Nat}{own:Bool}{x:ae},(c8 t Mc.length t M' Mc)[i]?=Mc[i]?→slot (c8 t Mc.length t M' Mc) i g=some (own,x)→slot Mc i g=some (own,x):=by
  intro i g own x h1 cQ
  unfold slot at cQ⊢
  rw[h1]at cQ;exact cQ
 have yg:∀i g own x q,slot Mc i g=some (own,x)→ρ i g=some (some q)→bH ρ own x q.1 q.2 w:=by
  intro i g own x q h1 h2
  rcases hs.holds i g own x h1 with⟨q',e1,e2⟩|⟨e1,_⟩
  ·rw[h2]at e1;injection e1 with e1;injection e1 with e1;subst e1;exact e2
  ·rw[h2]at e1;cases e1
 have x4:∀{j g:Nat}{x:ae}{q:Nat×Nat},slot M' j g=some (true,x)→ek j g=some (some q)→q.1<w.heap.size→∃(j0 i0 g0:Nat) (x0:ae) (q0:Nat×Nat),t[j0]?=some (TE.own i0)∧slot Mc i0 g0=some (true,x0)∧ρ i0 g0=some (some q0)∧q0.1=q.1:=by
  intro j g x q h1 h2 h3
  obtain⟨j0,g0,x0,q0,a1,a2,a3⟩:=hE.fresh j g x q h1 h2 h3
  obtain⟨i0,b1,b2,b3⟩:=iP fE a1 a2
  exact⟨j0,i0,g0,_,q0,b1,b2,b3,a3⟩
 have frame:∀i g own x q,(∀j:Nat,t[j]?≠some (TE.own i))→slot Mc i g=some (own,x)→ρ i g=some (some q)→w'.heap[q.1]?=w.heap[q.1]?:=by
  intro i g own x q hn h1 h2
  refine hE.frame q.1 (yg i g own x q h1 h2).lt fun j0 g0 x0 q0 a1 a2 he=>?_
  obtain⟨i0,b1,b2,b3⟩:=iP fE a1 a2
  have:=(hs.apart i0 g0 _ i g own x q0 q b2 h1 b3 h2 he).1
  subst this
  exact hn j0 b1
 refine⟨hR,⟨?_,?_,?_,?_,?_⟩,⟨hold,hE.size,?_,?_,hE.os,hE.tape,hE.output⟩⟩
 ·intro i g h
  rcases cls i with⟨j,h0,h1,h2,h3⟩|⟨h0,h1,h2,h3⟩
  ·rw[h2]at h
   have hj:=nD.nw j g h
   rw[List.getElem?_eq_getElem hj]at h1
   exact(List.getElem?_eq_some_iff.1 h1).1
  ·rw[jf _ _ _ _ _ hlen];omega
 ·intro i g own g' x hm h
  rcases cls i with⟨j,h0,h1,h2,h3⟩|⟨h0,h1,h2,h3⟩
  ·rw[h2]at h
   rw[h1,Option.map_eq_some_iff]at hm
   obtain⟨o,ho,e⟩:=hm
   cases o with
   |gone=>cases e
   |one Ll g1 x1=>injection e with _ e _;subst e;exact nD.tag j g Ll _ x1 ho h
   |bu _ _ _=>cases e
  ·rw[h1]at hm;rw[h2]at h;exact hs.tag i g own g' x hm h
 ·intro i g own n x hm h
  rcases cls i with⟨j,h0,h1,h2,h3⟩|⟨h0,h1,h2,h3⟩
  ·rw[h2]at h
   rw[h1,Option.map_eq_some_iff]at hm
   obtain⟨o,ho,e⟩:=hm
   cases o with
   |gone=>cases e
   |one Ll g1 x1=>cases e
   |bu Ll n1 x1=>injection e with _ e _;subst e;exact nD.bu j g Ll _ x1 ho h
  ·rw[h1]at hm;rw[h2]at h;exact hs.bu i g own n x hm h
 ·intro i g own x cQ
  rcases cls i with⟨j,h0,h1,h2,h3⟩|⟨h0,h1,h2,h3⟩
  ·obtain⟨x',a1,rfl,rfl⟩:=jU h1 h3 cQ
   rw[h2]
   rcases nD.holds j g true x' a1 with⟨q,e1,e2⟩|⟨e1,e2⟩
   ·refine .inl ⟨q,e1,?_⟩
    rcases e2.all with⟨hx,c,e,fr,k1,k2,k3,k4⟩|⟨hx,hb,hs⟩
    ·refine .mk' (by rw[ae.qd];exact hx) ⟨c,e,fr,k1,by rw[ae.r8];exact k2,fun k v hv=>?_,k4⟩
     rw[ae.DV,Option.map_eq_some_iff]at hv
     obtain⟨v',pV,rfl⟩:=hv
     have:=k3 k v' pV
     obtain⟨c1,c2⟩:=qe hR v' this.1
     exact⟨c1,by rw[c2];exact this.2⟩
    ·refine⟨.inr ⟨by rw[ae.qd];exact hx,hb,?_⟩⟩
     cases x' with
     |map kk es=>
      obtain⟨fb,clock,h1,h2,h3,h4,h5⟩:=hs
      refine⟨fb,clock,h1,?_,fun p hp=>?_,h4,h5⟩
      ·rw[h2,List.map_map]
       exact List.map_congr_left fun p hp=>by show _=(kk.v p.1,(p.2.rn t Mc.length).c _);rw[(qe hR p.2 (h3 p hp).1).2]
      ·obtain⟨p',wI,rfl⟩:=List.mem_map.1 hp
       exact⟨(qe hR p'.2 (h3 p' wI).1).1,(h3 p' wI).2⟩
     |loop l st pd fn n a ps as bd df=>
      obtain⟨h1,tmps,h2,h3,h4⟩:=hs
      exact⟨h1,tmps,h2,h3,fun j=>⟨(qe hR (a j) (h4 j).1).1,by rw[(h4 j).2,(qe hR (a j) (h4 j).1).2]⟩⟩
     |cells _=>exact hs.elim
     |ints _ _ _=>exact hs.elim
     |bN _ _=>exact hs.elim
     |cI _ _ _ _=>exact hs.elim
   ·exact .inr ⟨e1,ae.Kc e2⟩
  ·have LL:=jQ h1 cQ
   rw[h2]
   rcases hs.holds i g own x LL with⟨q,e1,e2⟩|e
   ·exact .inl ⟨q,e1,e2.ext hold (frame i g own x q h3 LL e1)⟩
   ·exact .inr e
 ·intro i1 g1 x1 i2 g2 nA x2 q1 q2 LJ LI Ac eI he
  rcases cls i1 with⟨j1,a0,a1,a2,a3⟩|⟨a0,a1,a2,a3⟩<;>rcases cls i2 with⟨j2,b0,b1,b2,b3⟩|⟨b0,b1,b2,b3⟩
  ·obtain⟨y1,c1,c2,_⟩:=jU a1 a3 LJ
   obtain⟨y2,d1,d2,_⟩:=jU b1 b3 LI
   rw[a2]at Ac;rw[b2]at eI
   obtain⟨e1,e2⟩:=nD.apart j1 g1 y1 j2 g2 _ y2 q1 q2 c1 d1 Ac eI he
   exact⟨by rw[←a0,←b0,e1],e2⟩
  ·exfalso
   obtain⟨y1,c1,c2,_⟩:=jU a1 a3 LJ
   rw[a2]at Ac;rw[b2]at eI
   have MY:=jQ b1 LI
   have aZ:=(yg i2 g2 nA x2 q2 MY eI).lt
   obtain⟨j0,i0,g0,x0,q0,d1,d2,d3,d4⟩:=x4 c1 Ac (by omega)
   have:=(hs.apart i0 g0 x0 i2 g2 nA x2 q0 q2 d2 MY d3 eI (d4.trans he)).1
   subst this
   exact b3 j0 d1
  ·exfalso
   obtain⟨y2,c1,c2,_⟩:=jU b1 b3 LI
   rw[a2]at Ac;rw[b2]at eI
   have MZ:=jQ a1 LJ
   have aZ:=(yg i1 g1 true x1 q1 MZ Ac).lt
   obtain⟨j0,i0,g0,x0,q0,d1,d2,d3,d4⟩:=x4 c1 eI (by omega)
   have:=(hs.apart i0 g0 x0 i1 g1 true x1 q0 q1 d2 MZ d3 Ac (d4.trans he.symm)).1
   subst this
   exact a3 j0 d1
  ·rw[a2]at Ac;rw[b2]at eI
   exact hs.apart i1 g1 x1 i2 g2 nA x2 q1 q2 (jQ a1 LJ) (jQ b1 LI) Ac eI he
 ·intro b hb hn
  refine hE.frame b hb fun j g x q h1 h2=>?_
  obtain⟨i0,b1,b2,b3⟩:=iP fE h1 h2
  exact hn i0 g _ q b2 b3
 ·intro i g x q cQ hq hb
  rcases cls i with⟨j,h0,h1,h2,h3⟩|⟨h0,h1,h2,h3⟩
  ·obtain⟨x',a1,rfl,_⟩:=jU h1 h3 cQ
   rw[h2]at hq
   obtain⟨j0,i0,g0,x0,q0,d1,d2,d3,d4⟩:=x4 a1 hq hb
   exact⟨i0,g0,x0,q0,d2,d3,d4⟩
  ·rw[h2]at hq
   exact⟨i,g,x,q,jQ h1 cQ,hq,rfl⟩
theorem aa.lift (t:List TE){P:Program}{g:Nat}{args:List AV}{M:AH}{K0 T7:AV→AH→Prop}(h:aa P g args M K0 T7){AK:List AV}{Mc:AH}{K Kp:AV→AH→Prop}
 (jW:AV.qZ t Mc.length args=AK)(Sn:(bB t&&AV.oT t args)=true)(fE:ud t Mc.length Mc t M)(Pf:NJ t M)
 (hK:∀r M',K0 r M'→lr t M M'∧K (r.rn t Mc.length) (c8 t Mc.length t M' Mc))
 (SH:∀r M',T7 r M'→lr t M M'∧Kp (r.rn t Mc.length) (c8 t Mc.length t M' Mc)):aa P g AK Mc K Kp:=by
 subst jW
 simp only[Bool.and_eq_true]at Sn
 obtain⟨oU,Yg⟩:=Sn
 unfold aa at*
 refine⟨h.1,fun ρ w hs aA=>?_⟩
 have fZ:=uG hs oU fE Pf
 have RU:=fT args Yg aA
 have ly:=h.2 (bZ t ρ) w fZ RU
 rw[←(qY (uh (m:=Mc.length)) args RU).2]at ly
 refine Calls.mono ly fun e w' he=>?_
 obtain⟨ek,M',h1,h2,h3⟩:=he
 cases e with
 |returned v=>
  obtain⟨r,e1,e2,e3⟩:=h3
  obtain⟨k1,k2⟩:=hK r M' e3
  obtain⟨b1,b2,b3⟩:=uE hs oU fE k1 h1 h2 fZ
  obtain⟨c1,c2⟩:=qe b1 r e2
  exact⟨_,_,b2,b3,_,by rw[c2];exact e1,c1,k2⟩
 |panicked ch=>
  obtain⟨r,e1,e2,e3⟩:=h3
  obtain⟨k1,k2⟩:=SH r M' e3
  obtain⟨b1,b2,b3⟩:=uE hs oU fE k1 h1 h2 fZ
  obtain⟨c1,c2⟩:=qe b1 r e2
  exact⟨_,_,b2,b3,_,by rw[c2];exact e1,c1,k2⟩
 |outgrown=>exact h3.elim
end Go.Proofs.Ytibadaomjlkoaaa
open Go.RowKit
namespace Go.Proofs.Ytibadaomjlkoaaa
theorem kA {ρ:Env}{M:AH}{w:World}{i g:Nat}{x x':ae}(h:aR ρ M w)(hm:M[i]?=some (.one true g x))(er:x'.size≤x.size)
 (fp:∀k v',x'.at k=some v'→∃v,x.at k=some v∧v'.c ρ=v.c ρ∧v'.ok ρ)(hv:x.bI→x'.bI)(qA:x.row=true:=by rfl)(BN:x'.row=true:=by rfl):
 aR ρ (M.set i (.one true g x')) w∧Ext ρ M w ρ (M.set i (.one true g x')) w:=by
 have aZ:i<M.length:=(List.getElem?_eq_some_iff.1 hm).1
 refine kB (i:=i) (g:=g) (x':=x') h (by simp) (fun i' eJ=>by rw[List.getElem?_set_ne (Ne.symm eJ)]) (by simp[aZ]) (fun _ _ _ e=>e) (fun _ _ e=>.inl e) (fun g' hg=>h.tag i g' true g x hm hg)
  (fun b hb hn=>rfl) (Nat.le_refl _) rfl rfl rfl ?_
 rcases h.holds i g true x (ak hm)with⟨q,e1,e2⟩|⟨e1,e2⟩
 ·refine .inl ⟨q,e1,?_,.inr ⟨g,x,q,ak hm,e1,rfl⟩⟩
  obtain⟨c,e,fr,k1,k2,k3,k4⟩:=e2.out qA
  refine .mk' BN ⟨c,e,fr,k1,by omega,fun k v hv=>?_,k4⟩
  obtain⟨v0,h1,h2,h3⟩:=fp k v hv
  exact⟨h3,by rw[h2];exact(k3 k v0 h1).2⟩
 ·exact .inr ⟨e1,hv e2⟩
theorem qX {α:Type}(M:List α)(o o':α)(i:Nat)(h:i<M.length):(M++[o]).set i o'=M.set i o'++[o]:=by
 rw[List.set_append,if_pos h]
theorem Vw.ghost {M:AH}{i g k:Nat}{cs:List AV}{x:ae}{l:List AV}(hm:M[i]?=some (.one true g (.cells cs)))(hk:cs[k]?=some .ns)(hx:x.bI):
 Vw M (M.set i (.one true g (.cells (cs.set k (.sl M.length 0 0 0 0))))++[.one true 0 x]) l l:=by
 intro ρ w hs aA
 have aZ:i<M.length:=(List.getElem?_eq_some_iff.1 hm).1
 obtain⟨h1,h2⟩:=fN (x:=x) (l:=none) (w':=w) hs (fun _ _=>rfl) (Nat.le_refl _) rfl rfl rfl (.inr ⟨rfl,hx⟩)
 obtain⟨h3,h4⟩:=kA (x':=.cells (cs.set k (.sl M.length 0 0 0 0))) h1 (show(M++[AO.one true 0 x])[i]?=some (.one true g (.cells cs)) by rw[List.getElem?_append_left aZ];exact hm)
  (by simp[ae.size]) (fun j v' pV=>by
   simp only[ae.at]at pV⊢
   by_cases hj:k=j
   ·subst hj
    have YB:=(List.getElem?_eq_some_iff.1 hk).1
    rw[List.getElem?_set_self YB]at pV
    injection pV with pV;subst pV
    exact⟨.ns,hk,by simp[AV.c,ar],by simp[AV.ok,ar]⟩
   ·rw[List.getElem?_set_ne hj]at pV
    refine⟨v',pV,rfl,?_⟩
    rcases h1.holds i g true (.cells cs) (ak (by rw[List.getElem?_append_left aZ];exact hm))with⟨q,e1,e2⟩|⟨_,e2⟩
    ·obtain⟨c,e,fr,k1,k2,k3,k4⟩:=e2.out rfl
     exact(k3 j v' pV).1
    ·exact e2.elim) (fun h=>h.elim)
 rw[qX _ _ _ _ aZ]at h3 h4
 refine⟨_,h3,h2.trans h4,?_,AV.fO h2.env l aA⟩
 exact AV.jD h2.env l aA
theorem Vw.nil {M:AH}{x:ae}(hx:x.bI):Vw M (M++[.one true 0 x]) [.ns] [.sl M.length 0 0 0 0]:=by
 intro ρ w hs aA
 obtain⟨h1,h2⟩:=fN (x:=x) (l:=none) (w':=w) hs (fun _ _=>rfl) (Nat.le_refl _) rfl rfl rfl (.inr ⟨rfl,hx⟩)
 exact⟨_,h1,h2,by simp[AV.cl,AV.c,ar],by simp[AV.dC,AV.ok,ar]⟩
def OR (k:Nat):List AV→List AV→Prop
 |[],[]=>True
 |v::l,v'::l'=>(v'=v∨(v=.ns∧v'=.sl k 0 0 0 0))∧OR k l l'
 |_,_=>False
theorem Vw.xU {M:AH}{x:ae}{l l':List AV}(hx:x.bI)(hl:OR M.length l l'):Vw M (M++[.one true 0 x]) l l':=by
 intro ρ w hs aA
 obtain⟨h1,h2⟩:=fN (x:=x) (l:=none) (w':=w) hs (fun _ _=>rfl) (Nat.le_refl _) rfl rfl rfl (.inr ⟨rfl,hx⟩)
 have key:∀l l':List AV,OR M.length l l'→AV.dC ρ l→AV.cl (jE ρ M.length 0 none) l'=AV.cl ρ l∧AV.dC (jE ρ M.length 0 none) l':=by
  intro l
  induction l with
  |nil=>intro l' h _;cases l' with
   |nil=>exact⟨rfl,trivial⟩
   |cons _ _=>cases h
  |cons v l ih=>
   intro l' h aA
   cases l' with
   |nil=>cases h
   |cons v' l'=>
    obtain⟨g1,g2⟩:=ih l' h.2 aA.2
    rcases h.1 with rfl|⟨rfl,rfl⟩
    ·exact⟨by simp only[AV.cl,g1,AV.cW h2.env _ aA.1],AV.cy h2.env _ aA.1,g2⟩
    ·exact⟨by simp[AV.cl,AV.c,ar,g1],by simp[AV.ok,ar],g2⟩
 obtain⟨k1,k2⟩:=key l l' hl aA
 exact⟨_,h1,h2,k1,k2⟩
theorem Vw.refl (M:AH)(l:List AV):Vw M M l l:=fun ρ w hs aA=>⟨ρ,hs,Ext.refl _ _ _,rfl,aA⟩
theorem aa.eU {P:Program}{g:Nat}{args:List AV}{M:AH}{K Kp:AV→AH→Prop}(h:aa P g args M (fun r M'=>∃r' ld,Vw M' ld [r] [r']∧K r' ld) Kp):aa P g args M K Kp:=by
 unfold aa at*
 refine⟨h.1,fun ρ w hs aA=>Calls.mono (h.2 ρ w hs aA) fun e w' he=>?_⟩
 obtain⟨ρ',M',h1,h2,h3⟩:=he
 cases e with
 |returned v=>
  obtain⟨r,e1,e2,r',ld,e3,e4⟩:=h3
  obtain⟨gh,k1,k2,k3,k4⟩:=e3 ρ' w' h1 ⟨e2,trivial⟩
  simp only[AV.cl,List.cons.injEq,and_true]at k3
  exact⟨gh,ld,k1,h2.trans k2,r',by rw[k3];exact e1,k4.1,e4⟩
 |panicked ch=>
  obtain⟨r,e1,e2,e3⟩:=h3
  exact⟨ρ',M',h1,h2,r,e1,e2,e3⟩
 |outgrown=>exact h3.elim
theorem aa.cg {P:Program}{g:Nat}{args:List AV}{M:AH}{K Kp:AV→AH→Prop}(h:aa P g args M (fun r M'=>∃N,iV M' N∧lJ N.length N∧(r.nb N.length&&Nat.ble M.length N.length)=true∧K r N) Kp):aa P g args M K Kp:=by
 unfold aa at*
 refine⟨h.1,fun ρ w hs aA=>Calls.mono (h.2 ρ w hs aA) fun e w' he=>?_⟩
 obtain⟨ρ',M',h1,h2,h3⟩:=he
 cases e with
 |returned v=>
  obtain⟨r,e1,e2,N,e3,e4,e5,e6⟩:=h3
  simp only[Bool.and_eq_true]at e5
  obtain⟨k1,k2⟩:=pj hs.nw h1 h2 e3 e4 (by simpa using e5.2)
  exact⟨_,N,k1,k2,r,by rw[AV.BC e5.1 e2];exact e1,AV.nQ r e5.1 e2,e6⟩
 |panicked ch=>
  obtain⟨r,e1,e2,e3⟩:=h3
  exact⟨ρ',M',h1,h2,r,e1,e2,e3⟩
 |outgrown=>exact h3.elim
theorem WA.view {P:Program}{r:Option Nat}{D:List Deferred}{n:Nat}{c:Code}{Q:iT→AA→AH→Prop}{Kp:AV→AH→Prop}{l l':List (Nat×AV)}{a:AA}{M M':AH}
 (ha:vw l a)(hk:l'.map (·.1)=l.map (·.1))(hv:Vw M M' (l.map (·.2)) (l'.map (·.2)))(h:∀d,WA P r D n c Q Kp (lj l' d) M'):WA P r D n c Q Kp a M:=by
 unfold WA at*
 intro pin D1 ρ w act lL Qv hs hA
 have aA:AV.dC ρ (l.map (·.2)):=by
  clear hk hv
  induction l with
  |nil=>trivial
  |cons x l ih=>exact⟨(show x.2.ok ρ from ha.1▸hA.ok _),ih ha.2⟩
 obtain⟨ρ',h1,h2,h3,h4⟩:=hv ρ w hs aA
 refine wpIn_mono (h (fun t=>act.tmps.getD t undef) pin D1 ρ' w act lL Qv h1 ⟨hA.defers,hA.size,fun t=>?_,fun t=>?_⟩) fun e aH w' hq=>⟨hq.1.from h2 h1 (Marks.refl _ _ _),hq.2⟩
 ·simp only[lj]
  split
  ·rename_i v oC
   clear ha h3 hk hv h aA
   induction l' with
   |nil=>cases oC
   |cons y l' ih=>
    simp only[vq]at oC
    split at oC
    ·injection oC with oC;subst oC;exact h4.1
    ·exact ih h4.2 oC
  ·exact trivial
 ·simp only[lj]
  split
  ·rename_i v oC
   have hg:=hA.get t
   clear aA hv h h4
   induction l' generalizing l with
   |nil=>cases oC
   |cons y l' ih=>
    cases l with
    |nil=>cases hk
    |cons x l=>
     simp only[List.map_cons,List.cons.injEq]at hk
     simp only[List.map_cons,AV.cl,List.cons.injEq]at h3
     simp only[vq]at oC
     split at oC
     ·rename_i hb
      injection oC with oC;subst oC
      have ht:t=y.1:=Nat.eq_of_beq_eq_true hb
      have Mb:=ha.1
      rw[h3.1,←Mb,←hk.1,←ht];exact hg
     ·exact ih ha.2 hk.2 h3.2 oC
  ·rfl
end Go.Proofs.Ytibadaomjlkoaaa
