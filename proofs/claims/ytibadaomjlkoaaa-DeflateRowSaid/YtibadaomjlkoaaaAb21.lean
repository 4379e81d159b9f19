import Derived.Test.YtibadaomjlkoaaaAb20
import Derived.LoopNIn
set_option linter.unusedVariables false
set_option linter.unusedSimpArgs false
open Go.RowKit
namespace Go.Proofs.Ytibadaomjlkoaaa
theorem AQ:∃f:Cx→Code→(iZ→AA→AH→Prop)→(AV→AH→Prop)→AA→AH→Prop,f=bO:=⟨_,rfl⟩
@[irreducible] noncomputable def ax:Cx→Code→(iZ→AA→AH→Prop)→(AV→AH→Prop)→AA→AH→Prop:=Classical.choose AQ
theorem dx:ax=bO:=by unfold ax;exact Classical.choose_spec AQ
theorem Ea:∃f:Cx→Array Oper→(AV→AH→Prop)→(AA→AH→Prop)→List Oper→AA→AH→Prop,f=fun x=>ql x.P x.T x.n x.W:=⟨_,rfl⟩
@[irreducible] noncomputable def sW:Cx→Array Oper→(AV→AH→Prop)→(AA→AH→Prop)→List Oper→AA→AH→Prop:=Classical.choose Ea
theorem pD:sW=fun x=>ql x.P x.T x.n x.W:=by unfold sW;exact Classical.choose_spec Ea
theorem AF:∃f:Cx→Array Oper→(AV→AH→Prop)→(AA→AH→Prop)→List Nat→List Nat→List (Nat×Nat)→AA→AH→Prop,f=fun x=>fx x.P x.T x.n x.W:=⟨_,rfl⟩
@[irreducible] noncomputable def kg:Cx→Array Oper→(AV→AH→Prop)→(AA→AH→Prop)→List Nat→List Nat→List (Nat×Nat)→AA→AH→Prop:=Classical.choose AF
theorem uC:kg=fun x=>fx x.P x.T x.n x.W:=by unfold kg;exact Classical.choose_spec AF
def BA (k:AA→AH→Prop)(Q:iZ→AA→AH→Prop)(e:iZ)(a:AA)(M:AH):Prop:=
 match e with
 | .normal=>k a M
 |e=>Q e a M
def JF (id:Nat)(Q:iZ→AA→AH→Prop)(e:iZ)(a:AA)(M:AH):Prop:=
 match e with
 | .exit L7=>match Nat.beq L7 id with
   |true=>Q .normal a M
   |false=>Q (.exit L7) a M
 |e=>Q e a M
def NO (v:AV)(p q:Prop):Prop:=
 match v with
 | .tt=>p
 | .ff=>q
 | .bo b=>(b=true→p)∧(b=false→q)
 |_=>False
def F2:List Oper→Nat→Option Oper
 |[],_=>none
 |o::_,0=>some o
 |_::l,i+1=>F2 l i
theorem x9:∀(l:List Oper)(i:Nat),F2 l i=l[i]?
 |[],i=>by simp[F2]
 |o::l,0=>rfl
 |o::l,i+1=>by simp[F2,x9 l i]
def wz:AH→(AH→Prop)→Prop
 |[],K=>K []
 |o::M,K=>wz M fun M=>K (o::M)
theorem tC:∀(M:AH)(K:AH→Prop),wz M K=K M
 |[],K=>rfl
 |o::M,K=>tC M fun M=>K (o::M)
def O7 (n t:Nat)(v:AV)(a:AA):AA:=fun k=>match Nat.beq k t&&Nat.blt t n with
 |true=>v
 |false=>a k
def BH (n:Nat)(a:AA)(d:Option Nat)(v:AV)(K:AA→Prop):Prop:=
 match d with
 |none=>K a
 |some t=>K (O7 n t v a)
theorem Ej (n:Nat)(a:AA)(d:Option Nat)(v:AV)(K:AA→Prop):BH n a d v K=K (a.put n d v):=by
 cases d<;>rfl
def ra (x:Cx)(ops:Array Oper)(o:Oper)(a:AA)(M:AH)(K:AA→AH→Prop)(Kp:AV→AH→Prop):Prop:=
 bq (cn o.op) (k9 x.n ops o a (fun a=>GJ x.P x.T (dg x.W o.dst) M (pc a) o.op (fun v M'=>BH x.n a o.dst v fun a=>wz M' fun M=>K a M) Kp) (fun a=>BH x.n a o.dst (.aL []) fun a=>K a M))
theorem zr (x:Cx)(ops:Array Oper)(o:Oper)(a:AA)(M:AH)(K:AA→AH→Prop)(Kp:AV→AH→Prop):ra x ops o a M K Kp=lX x.P x.T x.n x.W ops o a M K Kp:=by
 simp only[ra,lX,Ej,tC]
section
variable{x:Cx}{Q:iZ→AA→AH→Prop}{Kp:AV→AH→Prop}{a:AA}{M:AH}{c d:Code}{id:Nat}{ops:Array Oper}{K:AA→AH→Prop}
def AP (x:Cx)(c:Code)(Q:iZ→AA→AH→Prop)(Kp:AV→AH→Prop)(a:AA)(M:AH):Prop:=
 match c with
 | .skip=>Q .normal a M
 | .label _=>Q .normal a M
 | .exit id=>Q (.exit id) a M
 | .ret=>Q .ret a M
 | .seq c d=>ax x c (BA (ax x d Q Kp) Q) Kp a M
 | .cond o c d=>NO (pc a o) (ax x c Q Kp a M) (ax x d Q Kp a M)
 | .block id c=>ax x c (JF id Q) Kp a M
 | .region id ops draw=>match draw with
   |false=>wz M fun M=>sW x ops Kp (fun a M=>Q .normal a M) ops.toList a M
   |true=>match x.pl id with
    |some (cm,_)=>match cm with
     |[]=>wz M fun M=>sW x ops Kp (fun a M=>Q .normal a M) ops.toList a M
     |p::cm=>wz M fun M=>kg x ops Kp (fun a M=>Q .normal a M) (x.B id) [] (p::cm) a M
    |none=>False
 | .loop c=>WA x.P x.r x.D x.n (.loop c) Q Kp a M
 | .rangeFunc f ps as c=>WA x.P x.r x.D x.n (.rangeFunc f ps as c) Q Kp a M
 |_=>False
theorem JS (h:AP x c Q Kp a M):ax x c Q Kp a M:=by
 rw[dx]
 unfold AP at h
 simp only[tC]at h
 rw[dx]at h
 cases c with
 |seq c d=>
  have e:BA (bO x d Q Kp) Q=fun e a M=>match e with| .normal=>bO x d Q Kp a M|e=>Q e a M:=by
   funext e a M;cases e<;>rfl
  simp only[e]at h;exact h
 |cond o c d=>
  simp only[NO]at h
  simp only[bO]
  generalize pc a o=v at*
  cases v<;>first|exact h|exact h.elim
 |block id c=>
  have e:JF id Q=fun e a M=>match e with
   | .exit L7=>match Nat.beq L7 id with
     |true=>Q .normal a M
     |false=>Q (.exit L7) a M
   |e=>Q e a M:=by
   funext e a M;cases e<;>rfl
  simp only[e]at h;exact h
 |region id ops draw=>
  cases draw with
  |false=>simp only[pD]at h;exact h
  |true=>
   simp only[bO]
   simp only[uC,pD]at h
   split at h
   ·rename_i cm ds hp
    rw[hp]
    cases cm<;>exact h
   ·exact h.elim
 |_=>exact h
def D9 (x:Cx)(ops:Array Oper)(Kp:AV→AH→Prop)(K:AA→AH→Prop)(l:List Oper)(a:AA)(M:AH):Prop:=
 match l with
 |[]=>K a M
 |o::l=>ra x ops o a M (fun a M=>sW x ops Kp K l a M) Kp
theorem JR {l:List Oper}(h:D9 x ops Kp K l a M):sW x ops Kp K l a M:=by
 rw[pD]
 cases l with
 |nil=>exact h
 |cons o l=>simp only[D9,zr,pD]at h;exact h
def Nm (T:List TI)(B:List Nat)(M0:AH)(e:Operand→AV)(op:Op)(K:AV→Prop):Prop:=
 match op with
 | .load t x=>bq (dg B (some (e x).id)) (pV T M0 t (e x) K)
 | .convert s d x=>bq (dg B (some (e x).id)) (om T M0 s d (e x) K)
 | .lookup t x ix ok=>bq (dg B (some (e x).id)) (wH T M0 t (e x) (e ix) ok K)
 | .call ⟨.builtin .len,args,iq⟩=>match args.toList,iq.toList with
   |[x],[t]=>bq (dg B (some (e x).id)) (nu T M0 t (e x) K)
   |_,_=>False
 |_=>False
def Ph (o:Option Oper)(p:Oper→Prop):Prop:=
 match o with
 |some o=>p o
 |none=>False
def AE (x:Cx)(ops:Array Oper)(Kp:AV→AH→Prop)(K:AA→AH→Prop)(B:List Nat)(sk:List Nat)(l:List (Nat×Nat))(a:AA)(M:AH):Prop:=
 match l with
 |[]=>K a M
 |(i,md)::l=>match dg sk (some i)with
  |true=>kg x ops Kp K B sk l a M
  |false=>Ph (F2 ops.toList i) fun o=>match md with
   |0=>bq (cn o.op) (k9 x.n ops o a (fun a=>iE x.T (dg x.W o.dst) M (pc a) o.op fun v=>BH x.n a o.dst v fun a=>kg x ops Kp K B sk l a M) (fun a=>BH x.n a o.dst (.aL []) fun a=>kg x ops Kp K B sk l a M))
   |1=>bq (cn o.op) (k9 x.n ops o a (fun a=>Nm x.T B M (pc a) o.op fun v=>BH x.n a o.dst v fun a=>kg x ops Kp K B sk l a M) (fun a=>BH x.n a o.dst (.aL []) fun a=>kg x ops Kp K B sk l a M))
   |2=>ra x ops o a M (fun a M'=>lF B M M' (kg x ops Kp K B sk l a M')) Kp
   |3=>ra x ops o a M (fun a M'=>kg x ops Kp K B sk l a M') Kp
   |j+4=>Ph (F2 ops.toList j) fun oj=>ra x ops o a M (fun a M'=>lF B M M' (kg x ops Kp K B sk l a M')) Kp∧ra x ops oj a M (fun a M'=>lF B M M' (ra x ops o a M' (fun a lq=>lF B M' lq (kg x ops Kp K B (j::sk) l a lq)) Kp)) Kp
theorem JV {B:List Nat}{sk:List Nat}{l:List (Nat×Nat)}(h:AE x ops Kp K B sk l a M):kg x ops Kp K B sk l a M:=by
 rw[uC]
 cases l with
 |nil=>exact h
 |cons im l=>
  obtain⟨i,md⟩:=im
  unfold AE at h
  simp only[Ej,zr]at h
  simp only[x9,Array.getElem?_toList]at h
  simp only[fx]
  rw[uC]at h
  cases PL:dg sk (some i)with
  |true=>rw[PL]at h;exact h
  |false=>
  rw[PL]at h
  simp only at h⊢
  cases ho:ops[i]? with
  |none=>rw[ho]at h;exact h.elim
  |some o=>
   rw[ho]at h
   simp only[Ph]at h
   have e:∀(e:Operand→AV)(op:Op)(K:AV→Prop),Nm x.T B M e op K=(match op with
    | .load t G9=>bq (dg B (some (e G9).id)) (pV x.T M t (e G9) K)
    | .convert s d G9=>bq (dg B (some (e G9).id)) (om x.T M s d (e G9) K)
    | .lookup t G9 ix ok=>bq (dg B (some (e G9).id)) (wH x.T M t (e G9) (e ix) ok K)
    | .call ⟨.builtin .len,args,iq⟩=>match args.toList,iq.toList with
      |[G9],[t]=>bq (dg B (some (e G9).id)) (nu x.T M t (e G9) K)
      |_,_=>False
    |_=>False):=fun e op K=>rfl
   match md,h with
   |0,h=>exact h
   |1,h=>simp only[e]at h;exact h
   |2,h=>exact h
   |3,h=>exact h
   |j+4,h=>
    simp only[x9,Array.getElem?_toList]at h
    cases hj:ops[j]? with
    |none=>rw[hj]at h;exact h.elim
    |some oj=>rw[hj]at h;simp only[hj];exact h
end
theorem aM.intro {x:Cx}(hT:ao x.P x.T)(hm:x.P.follows .mixedOrders=true){g:Nat}{fn:Func}{c:Code}(hf:x.P.funcs[g]?=some fn)(hb:fn.body=some c)(hg:n9 x.P g=true)(bR:aj x.pl c=true)(hr:x.r=none)(hD:x.D=[])
 {args:List AV}{M:AH}{K Kp:AV→AH→Prop}(hn:fn.ntmps=x.n)(hle:Nat.ble args.length x.n=true)
 (h:ax x c (az x.T fn.results.toList K) Kp (au args) M):aa x.P g args M K Kp:=by
 rw[dx]at h
 exact aa.intro hT hm hf hb hg bR hr hD hn hle h
@[irreducible] def fz {σ:Type}(I:σ→Prop)(μ:σ→Nat)(A:σ→List (Nat×AV))(H:σ→AH)(Q:iZ→AA→AH→Prop)(k:Nat)(e:iZ)(a:AA)(M:AH):Prop:=BD I μ A H Q k e a M
theorem WO.loop {x:Cx}{σ:Type}(I:σ→Prop)(μ:σ→Nat)(A:σ→List (Nat×AV))(H:σ→AH)(s0:σ)
 (hT:ao x.P x.T)(hm:x.P.follows .mixedOrders=true){c:Code}(bR:aj x.pl c=true){Q:iZ→AA→AH→Prop}{Kp:AV→AH→Prop}{a:AA}{M:AH}
 (h0:∃l M',I s0∧vE l a∧l.map (·.1)=(A s0).map (·.1)∧Vw M M' (l.map (·.2)) ((A s0).map (·.2))∧jb M' (H s0))(hlen:∀s,Nat.ble M.length (H s).length=true)(hA:∀s,H9 (H s).length (A s)=true)(hH:∀s,lQ (H s).length (H s))
 (mv:∀s,I s→∀d,ax x c (fz I μ A H Q (μ s)) Kp (lz (A s) d) (H s)):
 WA x.P x.r x.D x.n (.loop c) Q Kp a M:=by
 rw[dx]at mv
 have e:∀k,fz I μ A H Q k=BD I μ A H Q k:=fun k=>by funext e a M;unfold fz;rfl
 simp only[e]at mv
 exact WA.RU I μ A H s0 hT hm bR h0 hlen hA hH mv
section
variable{σ:Type}{I:σ→Prop}{μ:σ→Nat}{A:σ→List (Nat×AV)}{H:σ→AH}{Q:iZ→AA→AH→Prop}{k:Nat}{a:AA}{M:AH}
theorem RO.mk (s:σ)(l:List (Nat×AV))(M':AH)
 (hI:I s)(Vo:μ s<k)(hl:vE l a)(hk:l.map (·.1)=(A s).map (·.1))(hv:Vw M M' (l.map (·.2)) ((A s).map (·.2)))(hs:jb M' (H s)):fz I μ A H Q k .normal a M:=by
 unfold fz
 exact⟨s,l,M',⟨hI,Vo⟩,hl,hk,hv,hs⟩
theorem RO.same (s:σ)
 (hI:I s)(Vo:μ s<k)(hl:vE (A s) a)(hs:jb M (H s)):fz I μ A H Q k .normal a M:=by
 unfold fz
 exact⟨s,A s,M,⟨hI,Vo⟩,hl,rfl,Vw.refl _ _,hs⟩
theorem RO.exit {id:Nat}(h:Q (.exit id) a M):fz I μ A H Q k (.exit id) a M:=by unfold fz;exact h
theorem RO.ret (h:Q .ret a M):fz I μ A H Q k .ret a M:=by unfold fz;exact h
end
theorem WO.go {x:Cx}{σ:Type}(I:σ→Prop)(μ:σ→Nat)(A:σ→List (Nat×AV))(H:σ→AH)(s0:σ)
 (hT:ao x.P x.T)(hm:x.P.follows .mixedOrders=true){c:Code}(bR:aj x.pl c=true){Q:iZ→AA→AH→Prop}{Kp:AV→AH→Prop}{a:AA}{M:AH}
 (hI:I s0)(ha:vE (A s0) a)(hs:jb M (H s0))(hlen:∀s,Nat.ble M.length (H s).length=true)(hA:∀s,H9 (H s).length (A s)=true)(hH:∀s,lQ (H s).length (H s))
 (mv:∀s,I s→∀d,ax x c (fz I μ A H Q (μ s)) Kp (lz (A s) d) (H s)):
 WA x.P x.r x.D x.n (.loop c) Q Kp a M:=
 WO.loop I μ A H s0 hT hm bR ⟨A s0,M,hI,ha,rfl,Vw.refl _ _,hs⟩ hlen hA hH mv
theorem WO.MD {x:Cx}{σ:Type}(I:σ→Prop)(μ:σ→Nat)(A:σ→List (Nat×AV))(H:σ→AH)(s0:σ)
 (hT:ao x.P x.T)(hm:x.P.follows .mixedOrders=true){c:Code}(bR:aj x.pl c=true){Q:iZ→AA→AH→Prop}{Kp:AV→AH→Prop}{a:AA}{M:AH}
 (l:List (Nat×AV))(M':AH)(hI:I s0)(ha:vE l a)(hk:l.map (·.1)=(A s0).map (·.1))(hv:Vw M M' (l.map (·.2)) ((A s0).map (·.2)))(hs:jb M' (H s0))(hlen:∀s,Nat.ble M.length (H s).length=true)(hA:∀s,H9 (H s).length (A s)=true)(hH:∀s,lQ (H s).length (H s))
 (mv:∀s,I s→∀d,ax x c (fz I μ A H Q (μ s)) Kp (lz (A s) d) (H s)):
 WA x.P x.r x.D x.n (.loop c) Q Kp a M:=
 WO.loop I μ A H s0 hT hm bR ⟨l,M',hI,ha,hk,hv,hs⟩ hlen hA hH mv
def sg (x:Cx)(c:Code)(Q:iZ→AA→AH→Prop)(Kp:AV→AH→Prop):Nat→AA→AH→Prop
 |0,_,_=>False
 |m+1,a,M=>ax x c (BA (sg x c Q Kp m) Q) Kp a M
theorem WO.rounds (m:Nat){x:Cx}(hT:ao x.P x.T)(hm:x.P.follows .mixedOrders=true){c:Code}(bR:aj x.pl c=true){Q:iZ→AA→AH→Prop}{Kp:AV→AH→Prop}{a:AA}{M:AH}
 (h:sg x c Q Kp m a M):WA x.P x.r x.D x.n (.loop c) Q Kp a M:=by
 unfold WA
 intro pin D ρ w act lS QV hs hA
 refine wpIn_loop_rounds m ?_
 suffices hh:∀(m:Nat)(a:AA)(M1:AH)(mR:Env)(w1:World)(nS:Act)(D1:List Deferred),aR mR M1 w1→Ext ρ M w mR M1 w1→Marks w.heap.size D D1 w1→bt mR D1 x.n a nS→dq pin nS→sg x c Q Kp m a M1→Code.roundsIn (FW x.r) 0 x.P c (Fc pin ρ M w D x.n Q Kp) m nS w1 from hh m a M ρ w act D hs (Ext.refl _ _ _) (Marks.refl _ _ _) hA QV h
 intro m
 induction m with
 |zero=>intro a M1 mR w1 nS D1 _ _ _ _ _ h;exact h.elim
 |succ m ih=>
  intro a M1 mR w1 nS D1 s1 e1 m1 a1 G2 h
  have h':ax x c (BA (sg x c Q Kp m) Q) Kp a M1:=h
  rw[dx]at h'
  rw[roundsIn_succ]
  refine wpIn_mono (fI hT hm c bR _ Kp a M1 mR w1 nS D1 s1 (Ext.refl mR M1 w1) (Marks.refl _ _ _) a1 lS G2 h') fun e kq w2 hq=>?_
  obtain⟨hq,qN⟩:=hq
  cases e with
  |normal=>
   obtain⟨ek,M2,a2,D2,s2,e2,m2,a3,h2⟩:=hq
   exact ih a2 M2 ek w2 kq D2 s2 (e1.trans e2) (m1.trans e1.size s1 e2 m2) a3 qN h2
  |exit id=>exact⟨er.from (e:=.exit id) (Q:=Q) (Kp:=Kp) e1 s1 m1 hq,qN⟩
  |ret=>exact⟨er.from (e:=.ret) (Q:=Q) (Kp:=Kp) e1 s1 m1 hq,qN⟩
  |panic ch=>exact⟨er.from (e:=.panic ch) (n:=x.n) (Q:=Q) (Kp:=Kp) e1 s1 m1 hq,qN⟩
  |goto l=>exact hq.elim
  |outgrown=>exact hq.elim
theorem Xf {b:Bool}{p q:Prop}(h:b=false)(hq:q):(b=true→p)∧(b=false→q):=by subst h;exact⟨fun e=>(by cases e),fun _=>hq⟩
theorem JA {b:Bool}{p q:Prop}(h:b=true)(hp:p):(b=true→p)∧(b=false→q):=by subst h;exact⟨fun _=>hp,fun e=>(by cases e)⟩
theorem side {p:Prop}(h:p:=by first|exact rfl|omega|exact Nat.le_of_ble_eq_true rfl|(dsimp only;omega)|(simp only[List.length_cons,List.length_nil,List.length_append,List.length_replicate,List.length_set,List.length_take,List.length_drop,List.length_map,List.length_range];omega)|decide|(refine⟨?_,?_,?_,?_,?_⟩<;>first|exact rfl|omega|exact Nat.zero_le _|exact Nat.le_refl _|(dsimp only;omega)|(simp only[List.length_append,List.length_cons,List.length_nil];omega)|(simp<;>fail)|(simp;omega))|(refine⟨?_,?_,?_⟩<;>first|exact rfl|omega|exact Nat.le_refl _|(dsimp only;omega)|(simp<;>fail)|(simp;omega))):p:=h
theorem Na {p:Prop}(h:p:=by first|exact rfl|decide|(simp<;>fail)):p:=h
structure Hid (q:Prop):Prop where
 out:q
theorem Rs {p q:Prop}(hq:q)(step:Hid q→p:=by intro h;(repeat((conv=>whnf);first|with_reducible refine JS ?_|with_reducible refine JR ?_|with_reducible refine JV ?_|with_reducible refine RO.exit ?_|with_reducible refine RO.ret ?_|((with_reducible refine And.intro ?sc ?_);case sc=>exact side)));exact h.out):p:=step ⟨hq⟩
theorem Qs {p q:Prop}(hq:q)(step:Hid q→p:=by intro h;(repeat((conv=>whnf);first|with_reducible refine JS ?_|with_reducible refine JR ?_|with_reducible refine JV ?_|with_reducible refine RO.exit ?_|with_reducible refine RO.ret ?_|((with_reducible refine And.intro ?sc ?_);case sc=>exact side)|((with_reducible refine Xf ?sc ?_);case sc=>exact Na)|((with_reducible refine JA ?sc ?_);case sc=>exact Na)));exact h.out):p:=step ⟨hq⟩
theorem aI {a b:Prop}(h:a)(h2:b):a∧b:=⟨h,h2⟩
end Go.Proofs.Ytibadaomjlkoaaa
