import Derived.Test.YtibadaomjlkoaaaAb20
import Derived.LoopNIn
set_option linter.unusedVariables false
set_option linter.unusedSimpArgs false
open Go.RowKit
namespace Go.Proofs.Ytibadaomjlkoaaa
theorem C0:∃f:Cx→Code→(jr→AA→AH→Prop)→(AV→AH→Prop)→AA→AH→Prop,f=bO:=⟨_,rfl⟩
@[irreducible] noncomputable def au:Cx→Code→(jr→AA→AH→Prop)→(AV→AH→Prop)→AA→AH→Prop:=Classical.choose C0
theorem dU:au=bO:=by unfold au;exact Classical.choose_spec C0
theorem GZ:∃f:Cx→Array Oper→(AV→AH→Prop)→(AA→AH→Prop)→List Oper→AA→AH→Prop,f=fun x=>sf x.P x.T x.n x.W:=⟨_,rfl⟩
@[irreducible] noncomputable def vm:Cx→Array Oper→(AV→AH→Prop)→(AA→AH→Prop)→List Oper→AA→AH→Prop:=Classical.choose GZ
theorem rf:vm=fun x=>sf x.P x.T x.n x.W:=by unfold vm;exact Classical.choose_spec GZ
theorem CT:∃f:Cx→Array Oper→(AV→AH→Prop)→(AA→AH→Prop)→List Nat→List Nat→List (Nat×Nat)→AA→AH→Prop,f=fun x=>gw x.P x.T x.n x.W:=⟨_,rfl⟩
@[irreducible] noncomputable def lr:Cx→Array Oper→(AV→AH→Prop)→(AA→AH→Prop)→List Nat→List Nat→List (Nat×Nat)→AA→AH→Prop:=Classical.choose CT
theorem wI:lr=fun x=>gw x.P x.T x.n x.W:=by unfold lr;exact Classical.choose_spec CT
def DN (k:AA→AH→Prop)(Q:jr→AA→AH→Prop)(e:jr)(a:AA)(M:AH):Prop:=
 match e with
 | .normal=>k a M
 |e=>Q e a M
def MH (id:Nat)(Q:jr→AA→AH→Prop)(e:jr)(a:AA)(M:AH):Prop:=
 match e with
 | .exit PL=>match Nat.beq PL id with
   |true=>Q .normal a M
   |false=>Q (.exit PL) a M
 |e=>Q e a M
def Rx (v:AV)(p q:Prop):Prop:=
 match v with
 | .tt=>p
 | .ff=>q
 | .bo b=>(b=true→p)∧(b=false→q)
 |_=>False
def IV:List Oper→Nat→Option Oper
 |[],_=>none
 |o::_,0=>some o
 |_::l,i+1=>IV l i
theorem Ak:∀(l:List Oper)(i:Nat),IV l i=l[i]?
 |[],i=>by simp[IV]
 |o::l,0=>rfl
 |o::l,i+1=>by simp[IV,Ak l i]
def yI:AH→(AH→Prop)→Prop
 |[],K=>K []
 |o::M,K=>yI M fun M=>K (o::M)
theorem vO:∀(M:AH)(K:AH→Prop),yI M K=K M
 |[],K=>rfl
 |o::M,K=>vO M fun M=>K (o::M)
def S6 (n t:Nat)(v:AV)(a:AA):AA:=fun k=>match Nat.beq k t&&Nat.blt t n with
 |true=>v
 |false=>a k
def DX (n:Nat)(a:AA)(d:Option Nat)(v:AV)(K:AA→Prop):Prop:=
 match d with
 |none=>K a
 |some t=>K (S6 n t v a)
theorem Ha (n:Nat)(a:AA)(d:Option Nat)(v:AV)(K:AA→Prop):DX n a d v K=K (a.put n d v):=by
 cases d<;>rfl
def tq (x:Cx)(ops:Array Oper)(o:Oper)(a:AA)(M:AH)(K:AA→AH→Prop)(Kp:AV→AH→Prop):Prop:=
 bK (cN o.op) (my x.n ops o a (fun a=>JC x.P x.T (dy x.W o.dst) M (qL a) o.op (fun v M'=>DX x.n a o.dst v fun a=>yI M' fun M=>K a M) Kp) (fun a=>DX x.n a o.dst (.aE []) fun a=>K a M))
theorem BI (x:Cx)(ops:Array Oper)(o:Oper)(a:AA)(M:AH)(K:AA→AH→Prop)(Kp:AV→AH→Prop):tq x ops o a M K Kp=nw x.P x.T x.n x.W ops o a M K Kp:=by
 simp only[tq,nw,Ha,vO]
section
variable{x:Cx}{Q:jr→AA→AH→Prop}{Kp:AV→AH→Prop}{a:AA}{M:AH}{c d:Code}{id:Nat}{ops:Array Oper}{K:AA→AH→Prop}
def CZ (x:Cx)(c:Code)(Q:jr→AA→AH→Prop)(Kp:AV→AH→Prop)(a:AA)(M:AH):Prop:=
 match c with
 | .skip=>Q .normal a M
 | .label _=>Q .normal a M
 | .exit id=>Q (.exit id) a M
 | .ret=>Q .ret a M
 | .seq c d=>au x c (DN (au x d Q Kp) Q) Kp a M
 | .cond o c d=>Rx (qL a o) (au x c Q Kp a M) (au x d Q Kp a M)
 | .block id c=>au x c (MH id Q) Kp a M
 | .region id ops draw=>match draw with
   |false=>yI M fun M=>vm x ops Kp (fun a M=>Q .normal a M) ops.toList a M
   |true=>match x.pl id with
    |some (cK,_)=>match cK with
     |[]=>yI M fun M=>vm x ops Kp (fun a M=>Q .normal a M) ops.toList a M
     |p::cK=>yI M fun M=>lr x ops Kp (fun a M=>Q .normal a M) (x.B id) [] (p::cK) a M
    |none=>False
 | .loop c=>WA x.P x.r x.D x.n (.loop c) Q Kp a M
 | .rangeFunc f ps as c=>WA x.P x.r x.D x.n (.rangeFunc f ps as c) Q Kp a M
 |_=>False
theorem MX (h:CZ x c Q Kp a M):au x c Q Kp a M:=by
 rw[dU]
 unfold CZ at h
 simp only[vO]at h
 rw[dU]at h
 cases c with
 |seq c d=>
  have e:DN (bO x d Q Kp) Q=fun e a M=>match e with| .normal=>bO x d Q Kp a M|e=>Q e a M:=by
   funext e a M;cases e<;>rfl
  simp only[e]at h;exact h
 |cond o c d=>
  simp only[Rx]at h
  simp only[bO]
  generalize qL a o=v at*
  cases v<;>first|exact h|exact h.elim
 |block id c=>
  have e:MH id Q=fun e a M=>match e with
   | .exit PL=>match Nat.beq PL id with
     |true=>Q .normal a M
     |false=>Q (.exit PL) a M
   |e=>Q e a M:=by
   funext e a M;cases e<;>rfl
  simp only[e]at h;exact h
 |region id ops draw=>
  cases draw with
  |false=>simp only[rf]at h;exact h
  |true=>
   simp only[bO]
   simp only[wI,rf]at h
   split at h
   ·rename_i cK ds hp
    rw[hp]
    cases cK<;>exact h
   ·exact h.elim
 |_=>exact h
def GY (x:Cx)(ops:Array Oper)(Kp:AV→AH→Prop)(K:AA→AH→Prop)(l:List Oper)(a:AA)(M:AH):Prop:=
 match l with
 |[]=>K a M
 |o::l=>tq x ops o a M (fun a M=>vm x ops Kp K l a M) Kp
theorem MW {l:List Oper}(h:GY x ops Kp K l a M):vm x ops Kp K l a M:=by
 rw[rf]
 cases l with
 |nil=>exact h
 |cons o l=>simp only[GY,BI,rf]at h;exact h
def QY (T:List TI)(B:List Nat)(M0:AH)(e:Operand→AV)(op:Op)(K:AV→Prop):Prop:=
 match op with
 | .load t x=>bK (dy B (some (e x).id)) (rF T M0 t (e x) K)
 | .convert s d x=>bK (dy B (some (e x).id)) (p3 T M0 s d (e x) K)
 | .lookup t x ix ok=>bK (dy B (some (e x).id)) (yQ T M0 t (e x) (e ix) ok K)
 | .call ⟨.builtin .len,args,js⟩=>match args.toList,js.toList with
   |[x],[t]=>bK (dy B (some (e x).id)) (oX T M0 t (e x) K)
   |_,_=>False
 |_=>False
def Te (o:Option Oper)(p:Oper→Prop):Prop:=
 match o with
 |some o=>p o
 |none=>False
def CS (x:Cx)(ops:Array Oper)(Kp:AV→AH→Prop)(K:AA→AH→Prop)(B:List Nat)(sk:List Nat)(l:List (Nat×Nat))(a:AA)(M:AH):Prop:=
 match l with
 |[]=>K a M
 |(i,md)::l=>match dy sk (some i)with
  |true=>lr x ops Kp K B sk l a M
  |false=>Te (IV ops.toList i) fun o=>match md with
   |0=>bK (cN o.op) (my x.n ops o a (fun a=>jx x.T (dy x.W o.dst) M (qL a) o.op fun v=>DX x.n a o.dst v fun a=>lr x ops Kp K B sk l a M) (fun a=>DX x.n a o.dst (.aE []) fun a=>lr x ops Kp K B sk l a M))
   |1=>bK (cN o.op) (my x.n ops o a (fun a=>QY x.T B M (qL a) o.op fun v=>DX x.n a o.dst v fun a=>lr x ops Kp K B sk l a M) (fun a=>DX x.n a o.dst (.aE []) fun a=>lr x ops Kp K B sk l a M))
   |2=>tq x ops o a M (fun a M'=>mT B M M' (lr x ops Kp K B sk l a M')) Kp
   |3=>tq x ops o a M (fun a M'=>lr x ops Kp K B sk l a M') Kp
   |j+4=>Te (IV ops.toList j) fun oj=>tq x ops o a M (fun a M'=>mT B M M' (lr x ops Kp K B sk l a M')) Kp∧tq x ops oj a M (fun a M'=>mT B M M' (tq x ops o a M' (fun a mK=>mT B M' mK (lr x ops Kp K B (j::sk) l a mK)) Kp)) Kp
theorem MZ {B:List Nat}{sk:List Nat}{l:List (Nat×Nat)}(h:CS x ops Kp K B sk l a M):lr x ops Kp K B sk l a M:=by
 rw[wI]
 cases l with
 |nil=>exact h
 |cons im l=>
  obtain⟨i,md⟩:=im
  unfold CS at h
  simp only[Ha,BI]at h
  simp only[Ak,Array.getElem?_toList]at h
  simp only[gw]
  rw[wI]at h
  cases TM:dy sk (some i)with
  |true=>rw[TM]at h;exact h
  |false=>
  rw[TM]at h
  simp only at h⊢
  cases ho:ops[i]? with
  |none=>rw[ho]at h;exact h.elim
  |some o=>
   rw[ho]at h
   simp only[Te]at h
   have e:∀(e:Operand→AV)(op:Op)(K:AV→Prop),QY x.T B M e op K=(match op with
    | .load t J3=>bK (dy B (some (e J3).id)) (rF x.T M t (e J3) K)
    | .convert s d J3=>bK (dy B (some (e J3).id)) (p3 x.T M s d (e J3) K)
    | .lookup t J3 ix ok=>bK (dy B (some (e J3).id)) (yQ x.T M t (e J3) (e ix) ok K)
    | .call ⟨.builtin .len,args,js⟩=>match args.toList,js.toList with
      |[J3],[t]=>bK (dy B (some (e J3).id)) (oX x.T M t (e J3) K)
      |_,_=>False
    |_=>False):=fun e op K=>rfl
   match md,h with
   |0,h=>exact h
   |1,h=>simp only[e]at h;exact h
   |2,h=>exact h
   |3,h=>exact h
   |j+4,h=>
    simp only[Ak,Array.getElem?_toList]at h
    cases hj:ops[j]? with
    |none=>rw[hj]at h;exact h.elim
    |some oj=>rw[hj]at h;simp only[hj];exact h
end
theorem aJ.intro {x:Cx}(hT:av x.P x.T)(hm:x.P.follows .mixedOrders=true){g:Nat}{fn:Func}{c:Code}(hf:x.P.funcs[g]?=some fn)(hb:fn.body=some c)(hg:pS x.P g=true)(cg:ai x.pl c=true)(hr:x.r=none)(hD:x.D=[])
 {args:List AV}{M:AH}{K Kp:AV→AH→Prop}(hn:fn.ntmps=x.n)(hle:Nat.ble args.length x.n=true)
 (h:au x c (ar x.T fn.results.toList K) Kp (aq args) M):aa x.P g args M K Kp:=by
 rw[dU]at h
 exact aa.intro hT hm hf hb hg cg hr hD hn hle h
@[irreducible] def gG {σ:Type}(I:σ→Prop)(μ:σ→Nat)(A:σ→List (Nat×AV))(H:σ→AH)(Q:jr→AA→AH→Prop)(k:Nat)(e:jr)(a:AA)(M:AH):Prop:=DU I μ A H Q k e a M
theorem WO.loop {x:Cx}{σ:Type}(I:σ→Prop)(μ:σ→Nat)(A:σ→List (Nat×AV))(H:σ→AH)(s0:σ)
 (hT:av x.P x.T)(hm:x.P.follows .mixedOrders=true){c:Code}(cg:ai x.pl c=true){Q:jr→AA→AH→Prop}{Kp:AV→AH→Prop}{a:AA}{M:AH}
 (h0:∃l M',I s0∧xV l a∧l.map (·.1)=(A s0).map (·.1)∧Vw M M' (l.map (·.2)) ((A s0).map (·.2))∧j5 M' (H s0))(hlen:∀s,Nat.ble M.length (H s).length=true)(hA:∀s,Lb (H s).length (A s)=true)(hH:∀s,kq (H s).length (H s))
 (nV:∀s,I s→∀d,au x c (gG I μ A H Q (μ s)) Kp (mN (A s) d) (H s)):
 WA x.P x.r x.D x.n (.loop c) Q Kp a M:=by
 rw[dU]at nV
 have e:∀k,gG I μ A H Q k=DU I μ A H Q k:=fun k=>by funext e a M;unfold gG;rfl
 simp only[e]at nV
 exact WA.V5 I μ A H s0 hT hm cg h0 hlen hA hH nV
section
variable{σ:Type}{I:σ→Prop}{μ:σ→Nat}{A:σ→List (Nat×AV)}{H:σ→AH}{Q:jr→AA→AH→Prop}{k:Nat}{a:AA}{M:AH}
theorem RO.mk (s:σ)(l:List (Nat×AV))(M':AH)
 (hI:I s)(ZV:μ s<k)(hl:xV l a)(hk:l.map (·.1)=(A s).map (·.1))(hv:Vw M M' (l.map (·.2)) ((A s).map (·.2)))(hs:j5 M' (H s)):gG I μ A H Q k .normal a M:=by
 unfold gG
 exact⟨s,l,M',⟨hI,ZV⟩,hl,hk,hv,hs⟩
theorem RO.same (s:σ)
 (hI:I s)(ZV:μ s<k)(hl:xV (A s) a)(hs:j5 M (H s)):gG I μ A H Q k .normal a M:=by
 unfold gG
 exact⟨s,A s,M,⟨hI,ZV⟩,hl,rfl,Vw.refl _ _,hs⟩
theorem RO.exit {id:Nat}(h:Q (.exit id) a M):gG I μ A H Q k (.exit id) a M:=by unfold gG;exact h
theorem RO.ret (h:Q .ret a M):gG I μ A H Q k .ret a M:=by unfold gG;exact h
end
theorem WO.go {x:Cx}{σ:Type}(I:σ→Prop)(μ:σ→Nat)(A:σ→List (Nat×AV))(H:σ→AH)(s0:σ)
 (hT:av x.P x.T)(hm:x.P.follows .mixedOrders=true){c:Code}(cg:ai x.pl c=true){Q:jr→AA→AH→Prop}{Kp:AV→AH→Prop}{a:AA}{M:AH}
 (hI:I s0)(ha:xV (A s0) a)(hs:j5 M (H s0))(hlen:∀s,Nat.ble M.length (H s).length=true)(hA:∀s,Lb (H s).length (A s)=true)(hH:∀s,kq (H s).length (H s))
 (nV:∀s,I s→∀d,au x c (gG I μ A H Q (μ s)) Kp (mN (A s) d) (H s)):
 WA x.P x.r x.D x.n (.loop c) Q Kp a M:=
 WO.loop I μ A H s0 hT hm cg ⟨A s0,M,hI,ha,rfl,Vw.refl _ _,hs⟩ hlen hA hH nV
theorem WO.Dv {x:Cx}{σ:Type}(I:σ→Prop)(μ:σ→Nat)(A:σ→List (Nat×AV))(H:σ→AH)(s0:σ)
 (hT:av x.P x.T)(hm:x.P.follows .mixedOrders=true){c:Code}(cg:ai x.pl c=true){Q:jr→AA→AH→Prop}{Kp:AV→AH→Prop}{a:AA}{M:AH}
 (l:List (Nat×AV))(M':AH)(hI:I s0)(ha:xV l a)(hk:l.map (·.1)=(A s0).map (·.1))(hv:Vw M M' (l.map (·.2)) ((A s0).map (·.2)))(hs:j5 M' (H s0))(hlen:∀s,Nat.ble M.length (H s).length=true)(hA:∀s,Lb (H s).length (A s)=true)(hH:∀s,kq (H s).length (H s))
 (nV:∀s,I s→∀d,au x c (gG I μ A H Q (μ s)) Kp (mN (A s) d) (H s)):
 WA x.P x.r x.D x.n (.loop c) Q Kp a M:=
 WO.loop I μ A H s0 hT hm cg ⟨l,M',hI,ha,hk,hv,hs⟩ hlen hA hH nV
def uz (x:Cx)(c:Code)(Q:jr→AA→AH→Prop)(Kp:AV→AH→Prop):Nat→AA→AH→Prop
 |0,_,_=>False
 |m+1,a,M=>au x c (DN (uz x c Q Kp m) Q) Kp a M
theorem WO.rounds (m:Nat){x:Cx}(hT:av x.P x.T)(hm:x.P.follows .mixedOrders=true){c:Code}(cg:ai x.pl c=true){Q:jr→AA→AH→Prop}{Kp:AV→AH→Prop}{a:AA}{M:AH}
 (h:uz x c Q Kp m a M):WA x.P x.r x.D x.n (.loop c) Q Kp a M:=by
 unfold WA
 intro pin D ρ w act nj UX hs hA
 refine wpIn_loop_rounds m ?_
 suffices hh:∀(m:Nat)(a:AA)(M1:AH)(ot:Env)(w1:World)(pE:Act)(D1:List Deferred),aW ot M1 w1→Ext ρ M w ot M1 w1→Marks w.heap.size D D1 w1→bQ ot D1 x.n a pE→dH pin pE→uz x c Q Kp m a M1→Code.roundsIn (FW x.r) 0 x.P c (HX pin ρ M w D x.n Q Kp) m pE w1 from hh m a M ρ w act D hs (Ext.refl _ _ _) (Marks.refl _ _ _) hA UX h
 intro m
 induction m with
 |zero=>intro a M1 ot w1 pE D1 _ _ _ _ _ h;exact h.elim
 |succ m ih=>
  intro a M1 ot w1 pE D1 s1 e1 m1 a1 JV h
  have h':au x c (DN (uz x c Q Kp m) Q) Kp a M1:=h
  rw[dU]at h'
  rw[roundsIn_succ]
  refine wpIn_mono (gV hT hm c cg _ Kp a M1 ot w1 pE D1 s1 (Ext.refl ot M1 w1) (Marks.refl _ _ _) a1 nj JV h') fun e lI w2 hq=>?_
  obtain⟨hq,sT⟩:=hq
  cases e with
  |normal=>
   obtain⟨e9,M2,a2,D2,s2,e2,m2,a3,h2⟩:=hq
   exact ih a2 M2 e9 w2 lI D2 s2 (e1.trans e2) (m1.trans e1.size s1 e2 m2) a3 sT h2
  |exit id=>exact⟨fc.from (e:=.exit id) (Q:=Q) (Kp:=Kp) e1 s1 m1 hq,sT⟩
  |ret=>exact⟨fc.from (e:=.ret) (Q:=Q) (Kp:=Kp) e1 s1 m1 hq,sT⟩
  |panic ch=>exact⟨fc.from (e:=.panic ch) (n:=x.n) (Q:=Q) (Kp:=Kp) e1 s1 m1 hq,sT⟩
  |goto l=>exact hq.elim
  |outgrown=>exact hq.elim
theorem mG {b:Bool}{p q:Prop}(h:b=false)(hq:q):(b=true→p)∧(b=false→q):=by subst h;exact⟨fun e=>(by cases e),fun _=>hq⟩
theorem fi {b:Bool}{p q:Prop}(h:b=true)(hp:p):(b=true→p)∧(b=false→q):=by subst h;exact⟨fun _=>hp,fun e=>(by cases e)⟩
theorem side {p:Prop}(h:p:=by first|exact rfl|omega|exact Nat.le_of_ble_eq_true rfl|(dsimp only;omega)|(simp only[List.length_cons,List.length_nil,List.length_append,List.length_replicate,List.length_set,List.length_take,List.length_drop,List.length_map,List.length_range];omega)|decide|(refine⟨?_,?_,?_,?_,?_⟩<;>first|exact rfl|omega|exact Nat.zero_le _|exact Nat.le_refl _|(dsimp only;omega)|(simp only[List.length_append,List.length_cons,List.length_nil];omega)|(simp<;>fail)|(simp;omega))|(refine⟨?_,?_,?_⟩<;>first|exact rfl|omega|exact Nat.le_refl _|(dsimp only;omega)|(simp<;>fail)|(simp;omega))):p:=h
theorem QL {p:Prop}(h:p:=by first|exact rfl|decide|(simp<;>fail)):p:=h
structure Hid (q:Prop):Prop where
 out:q
theorem Rs {p q:Prop}(hq:q)(step:Hid q→p:=by intro h;(repeat((conv=>whnf);first|with_reducible refine MX ?_|with_reducible refine MW ?_|with_reducible refine MZ ?_|with_reducible refine RO.exit ?_|with_reducible refine RO.ret ?_|((with_reducible refine And.intro ?sc ?_);case sc=>exact side)));exact h.out):p:=step ⟨hq⟩
theorem Qs {p q:Prop}(hq:q)(step:Hid q→p:=by intro h;(repeat((conv=>whnf);first|with_reducible refine MX ?_|with_reducible refine MW ?_|with_reducible refine MZ ?_|with_reducible refine RO.exit ?_|with_reducible refine RO.ret ?_|((with_reducible refine And.intro ?sc ?_);case sc=>exact side)|((with_reducible refine mG ?sc ?_);case sc=>exact QL)|((with_reducible refine fi ?sc ?_);case sc=>exact QL)));exact h.out):p:=step ⟨hq⟩
theorem aI {a b:Prop}(h:a)(h2:b):a∧b:=⟨h,h2⟩
end Go.Proofs.Ytibadaomjlkoaaa
