import Derived.Test.YtibadaomjlkoaaaAb20
import Derived.LoopNIn
set_option linter.unusedVariables false
set_option linter.unusedSimpArgs false
open Go.RowKit
namespace Go.Proofs.Ytibadaomjlkoaaa
theorem Bj:∃f:Cx→Code→(jm→AA→AH→Prop)→(AV→AH→Prop)→AA→AH→Prop,f=bT:=⟨_,rfl⟩
@[irreducible] noncomputable def av:Cx→Code→(jm→AA→AH→Prop)→(AV→AH→Prop)→AA→AH→Prop:=Classical.choose Bj
theorem dD:av=bT:=by unfold av;exact Classical.choose_spec Bj
theorem EU:∃f:Cx→Array Oper→(AV→AH→Prop)→(AA→AH→Prop)→List Oper→AA→AH→Prop,f=fun x=>qI x.P x.T x.n x.W:=⟨_,rfl⟩
@[irreducible] noncomputable def tE:Cx→Array Oper→(AV→AH→Prop)→(AA→AH→Prop)→List Oper→AA→AH→Prop:=Classical.choose EU
theorem p3:tE=fun x=>qI x.P x.T x.n x.W:=by unfold tE;exact Classical.choose_spec EU
theorem Bd:∃f:Cx→Array Oper→(AV→AH→Prop)→(AA→AH→Prop)→List Nat→List Nat→List (Nat×Nat)→AA→AH→Prop,f=fun x=>fJ x.P x.T x.n x.W:=⟨_,rfl⟩
@[irreducible] noncomputable def kD:Cx→Array Oper→(AV→AH→Prop)→(AA→AH→Prop)→List Nat→List Nat→List (Nat×Nat)→AA→AH→Prop:=Classical.choose Bd
theorem uZ:kD=fun x=>fJ x.P x.T x.n x.W:=by unfold kD;exact Classical.choose_spec Bd
def B6 (k:AA→AH→Prop)(Q:jm→AA→AH→Prop)(e:jm)(a:AA)(M:AH):Prop:=
 match e with
 | .normal=>k a M
 |e=>Q e a M
def Kr (id:Nat)(Q:jm→AA→AH→Prop)(e:jm)(a:AA)(M:AH):Prop:=
 match e with
 | .exit Na=>match Nat.beq Na id with
   |true=>Q .normal a M
   |false=>Q (.exit Na) a M
 |e=>Q e a M
def OU (v:AV)(p q:Prop):Prop:=
 match v with
 | .tt=>p
 | .ff=>q
 | .bo b=>(b=true→p)∧(b=false→q)
 |_=>False
def GJ:List Oper→Nat→Option Oper
 |[],_=>none
 |o::_,0=>some o
 |_::l,i+1=>GJ l i
theorem yu:∀(l:List Oper)(i:Nat),GJ l i=l[i]?
 |[],i=>by simp[GJ]
 |o::l,0=>rfl
 |o::l,i+1=>by simp[GJ,yu l i]
def wU:AH→(AH→Prop)→Prop
 |[],K=>K []
 |o::M,K=>wU M fun M=>K (o::M)
theorem uc:∀(M:AH)(K:AH→Prop),wU M K=K M
 |[],K=>rfl
 |o::M,K=>uc M fun M=>K (o::M)
def Qj (n t:Nat)(v:AV)(a:AA):AA:=fun k=>match Nat.beq k t&&Nat.blt t n with
 |true=>v
 |false=>a k
def Cd (n:Nat)(a:AA)(d:Option Nat)(v:AV)(K:AA→Prop):Prop:=
 match d with
 |none=>K a
 |some t=>K (Qj n t v a)
theorem E3 (n:Nat)(a:AA)(d:Option Nat)(v:AV)(K:AA→Prop):Cd n a d v K=K (a.put n d v):=by
 cases d<;>rfl
def rH (x:Cx)(ops:Array Oper)(o:Oper)(a:AA)(M:AH)(K:AA→AH→Prop)(Kp:AV→AH→Prop):Prop:=
 bu (cw o.op) (lH x.n ops o a (fun a=>Hr x.P x.T (dp x.W o.dst) M (pH a) o.op (fun v M'=>Cd x.n a o.dst v fun a=>wU M' fun M=>K a M) Kp) (fun a=>Cd x.n a o.dst (.aL []) fun a=>K a M))
theorem zT (x:Cx)(ops:Array Oper)(o:Oper)(a:AA)(M:AH)(K:AA→AH→Prop)(Kp:AV→AH→Prop):rH x ops o a M K Kp=mq x.P x.T x.n x.W ops o a M K Kp:=by
 simp only[rH,mq,E3,uc]
section
variable{x:Cx}{Q:jm→AA→AH→Prop}{Kp:AV→AH→Prop}{a:AA}{M:AH}{c d:Code}{id:Nat}{ops:Array Oper}{K:AA→AH→Prop}
def Bi (x:Cx)(c:Code)(Q:jm→AA→AH→Prop)(Kp:AV→AH→Prop)(a:AA)(M:AH):Prop:=
 match c with
 | .skip=>Q .normal a M
 | .label _=>Q .normal a M
 | .exit id=>Q (.exit id) a M
 | .ret=>Q .ret a M
 | .seq c d=>av x c (B6 (av x d Q Kp) Q) Kp a M
 | .cond o c d=>OU (pH a o) (av x c Q Kp a M) (av x d Q Kp a M)
 | .block id c=>av x c (Kr id Q) Kp a M
 | .region id ops draw=>match draw with
   |false=>wU M fun M=>tE x ops Kp (fun a M=>Q .normal a M) ops.toList a M
   |true=>match x.pl id with
    |some (cr,_)=>match cr with
     |[]=>wU M fun M=>tE x ops Kp (fun a M=>Q .normal a M) ops.toList a M
     |p::cr=>wU M fun M=>kD x ops Kp (fun a M=>Q .normal a M) (x.B id) [] (p::cr) a M
    |none=>False
 | .loop c=>WA x.P x.r x.D x.n (.loop c) Q Kp a M
 | .rangeFunc f ps as c=>WA x.P x.r x.D x.n (.rangeFunc f ps as c) Q Kp a M
 |_=>False
theorem KE (h:Bi x c Q Kp a M):av x c Q Kp a M:=by
 rw[dD]
 unfold Bi at h
 simp only[uc]at h
 rw[dD]at h
 cases c with
 |seq c d=>
  have e:B6 (bT x d Q Kp) Q=fun e a M=>match e with| .normal=>bT x d Q Kp a M|e=>Q e a M:=by
   funext e a M;cases e<;>rfl
  simp only[e]at h;exact h
 |cond o c d=>
  simp only[OU]at h
  simp only[bT]
  generalize pH a o=v at*
  cases v<;>first|exact h|exact h.elim
 |block id c=>
  have e:Kr id Q=fun e a M=>match e with
   | .exit Na=>match Nat.beq Na id with
     |true=>Q .normal a M
     |false=>Q (.exit Na) a M
   |e=>Q e a M:=by
   funext e a M;cases e<;>rfl
  simp only[e]at h;exact h
 |region id ops draw=>
  cases draw with
  |false=>simp only[p3]at h;exact h
  |true=>
   simp only[bT]
   simp only[uZ,p3]at h
   split at h
   ·rename_i cr ds hp
    rw[hp]
    cases cr<;>exact h
   ·exact h.elim
 |_=>exact h
def ET (x:Cx)(ops:Array Oper)(Kp:AV→AH→Prop)(K:AA→AH→Prop)(l:List Oper)(a:AA)(M:AH):Prop:=
 match l with
 |[]=>K a M
 |o::l=>rH x ops o a M (fun a M=>tE x ops Kp K l a M) Kp
theorem KD {l:List Oper}(h:ET x ops Kp K l a M):tE x ops Kp K l a M:=by
 rw[p3]
 cases l with
 |nil=>exact h
 |cons o l=>simp only[ET,zT,p3]at h;exact h
def Ou (T:List TI)(B:List Nat)(M0:AH)(e:Operand→AV)(op:Op)(K:AV→Prop):Prop:=
 match op with
 | .load t x=>bu (dp B (some (e x).id)) (qk T M0 t (e x) K)
 | .convert s d x=>bu (dp B (some (e x).id)) (oR T M0 s d (e x) K)
 | .lookup t x ix ok=>bu (dp B (some (e x).id)) (xa T M0 t (e x) (e ix) ok K)
 | .call ⟨.builtin .len,args,iJ⟩=>match args.toList,iJ.toList with
   |[x],[t]=>bu (dp B (some (e x).id)) (nQ T M0 t (e x) K)
   |_,_=>False
 |_=>False
def Qr (o:Option Oper)(p:Oper→Prop):Prop:=
 match o with
 |some o=>p o
 |none=>False
def Bc (x:Cx)(ops:Array Oper)(Kp:AV→AH→Prop)(K:AA→AH→Prop)(B:List Nat)(sk:List Nat)(l:List (Nat×Nat))(a:AA)(M:AH):Prop:=
 match l with
 |[]=>K a M
 |(i,md)::l=>match dp sk (some i)with
  |true=>kD x ops Kp K B sk l a M
  |false=>Qr (GJ ops.toList i) fun o=>match md with
   |0=>bu (cw o.op) (lH x.n ops o a (fun a=>iR x.T (dp x.W o.dst) M (pH a) o.op fun v=>Cd x.n a o.dst v fun a=>kD x ops Kp K B sk l a M) (fun a=>Cd x.n a o.dst (.aL []) fun a=>kD x ops Kp K B sk l a M))
   |1=>bu (cw o.op) (lH x.n ops o a (fun a=>Ou x.T B M (pH a) o.op fun v=>Cd x.n a o.dst v fun a=>kD x ops Kp K B sk l a M) (fun a=>Cd x.n a o.dst (.aL []) fun a=>kD x ops Kp K B sk l a M))
   |2=>rH x ops o a M (fun a M'=>l7 B M M' (kD x ops Kp K B sk l a M')) Kp
   |3=>rH x ops o a M (fun a M'=>kD x ops Kp K B sk l a M') Kp
   |j+4=>Qr (GJ ops.toList j) fun oj=>rH x ops o a M (fun a M'=>l7 B M M' (kD x ops Kp K B sk l a M')) Kp∧rH x ops oj a M (fun a M'=>l7 B M M' (rH x ops o a M' (fun a lO=>l7 B M' lO (kD x ops Kp K B (j::sk) l a lO)) Kp)) Kp
theorem KI {B:List Nat}{sk:List Nat}{l:List (Nat×Nat)}(h:Bc x ops Kp K B sk l a M):kD x ops Kp K B sk l a M:=by
 rw[uZ]
 cases l with
 |nil=>exact h
 |cons im l=>
  obtain⟨i,md⟩:=im
  unfold Bc at h
  simp only[E3,zT]at h
  simp only[yu,Array.getElem?_toList]at h
  simp only[fJ]
  rw[uZ]at h
  cases QU:dp sk (some i)with
  |true=>rw[QU]at h;exact h
  |false=>
  rw[QU]at h
  simp only at h⊢
  cases ho:ops[i]? with
  |none=>rw[ho]at h;exact h.elim
  |some o=>
   rw[ho]at h
   simp only[Qr]at h
   have e:∀(e:Operand→AV)(op:Op)(K:AV→Prop),Ou x.T B M e op K=(match op with
    | .load t HT=>bu (dp B (some (e HT).id)) (qk x.T M t (e HT) K)
    | .convert s d HT=>bu (dp B (some (e HT).id)) (oR x.T M s d (e HT) K)
    | .lookup t HT ix ok=>bu (dp B (some (e HT).id)) (xa x.T M t (e HT) (e ix) ok K)
    | .call ⟨.builtin .len,args,iJ⟩=>match args.toList,iJ.toList with
      |[HT],[t]=>bu (dp B (some (e HT).id)) (nQ x.T M t (e HT) K)
      |_,_=>False
    |_=>False):=fun e op K=>rfl
   match md,h with
   |0,h=>exact h
   |1,h=>simp only[e]at h;exact h
   |2,h=>exact h
   |3,h=>exact h
   |j+4,h=>
    simp only[yu,Array.getElem?_toList]at h
    cases hj:ops[j]? with
    |none=>rw[hj]at h;exact h.elim
    |some oj=>rw[hj]at h;simp only[hj];exact h
end
theorem aG.intro {x:Cx}(hT:aq x.P x.T)(hm:x.P.follows .mixedOrders=true){g:Nat}{fn:Func}{c:Code}(hf:x.P.funcs[g]?=some fn)(hb:fn.body=some c)(hg:oJ x.P g=true)(bW:aj x.pl c=true)(hr:x.r=none)(hD:x.D=[])
 {args:List AV}{M:AH}{K Kp:AV→AH→Prop}(hn:fn.ntmps=x.n)(hle:Nat.ble args.length x.n=true)
 (h:av x c (ax x.T fn.results.toList K) Kp (ao args) M):aa x.P g args M K Kp:=by
 rw[dD]at h
 exact aa.intro hT hm hf hb hg bW hr hD hn hle h
@[irreducible] def fO {σ:Type}(I:σ→Prop)(μ:σ→Nat)(A:σ→List (Nat×AV))(H:σ→AH)(Q:jm→AA→AH→Prop)(k:Nat)(e:jm)(a:AA)(M:AH):Prop:=B9 I μ A H Q k e a M
theorem WO.loop {x:Cx}{σ:Type}(I:σ→Prop)(μ:σ→Nat)(A:σ→List (Nat×AV))(H:σ→AH)(s0:σ)
 (hT:aq x.P x.T)(hm:x.P.follows .mixedOrders=true){c:Code}(bW:aj x.pl c=true){Q:jm→AA→AH→Prop}{Kp:AV→AH→Prop}{a:AA}{M:AH}
 (h0:∃l M',I s0∧v3 l a∧l.map (·.1)=(A s0).map (·.1)∧Vw M M' (l.map (·.2)) ((A s0).map (·.2))∧jr M' (H s0))(hlen:∀s,Nat.ble M.length (H s).length=true)(hA:∀s,I1 (H s).length (A s)=true)(hH:∀s,mi (H s).length (H s))
 (mR:∀s,I s→∀d,av x c (fO I μ A H Q (μ s)) Kp (lS (A s) d) (H s)):
 WA x.P x.r x.D x.n (.loop c) Q Kp a M:=by
 rw[dD]at mR
 have e:∀k,fO I μ A H Q k=B9 I μ A H Q k:=fun k=>by funext e a M;unfold fO;rfl
 simp only[e]at mR
 exact WA.Ta I μ A H s0 hT hm bW h0 hlen hA hH mR
section
variable{σ:Type}{I:σ→Prop}{μ:σ→Nat}{A:σ→List (Nat×AV)}{H:σ→AH}{Q:jm→AA→AH→Prop}{k:Nat}{a:AA}{M:AH}
theorem RO.mk (s:σ)(l:List (Nat×AV))(M':AH)
 (hI:I s)(WK:μ s<k)(hl:v3 l a)(hk:l.map (·.1)=(A s).map (·.1))(hv:Vw M M' (l.map (·.2)) ((A s).map (·.2)))(hs:jr M' (H s)):fO I μ A H Q k .normal a M:=by
 unfold fO
 exact⟨s,l,M',⟨hI,WK⟩,hl,hk,hv,hs⟩
theorem RO.same (s:σ)
 (hI:I s)(WK:μ s<k)(hl:v3 (A s) a)(hs:jr M (H s)):fO I μ A H Q k .normal a M:=by
 unfold fO
 exact⟨s,A s,M,⟨hI,WK⟩,hl,rfl,Vw.refl _ _,hs⟩
theorem RO.exit {id:Nat}(h:Q (.exit id) a M):fO I μ A H Q k (.exit id) a M:=by unfold fO;exact h
theorem RO.ret (h:Q .ret a M):fO I μ A H Q k .ret a M:=by unfold fO;exact h
end
theorem WO.go {x:Cx}{σ:Type}(I:σ→Prop)(μ:σ→Nat)(A:σ→List (Nat×AV))(H:σ→AH)(s0:σ)
 (hT:aq x.P x.T)(hm:x.P.follows .mixedOrders=true){c:Code}(bW:aj x.pl c=true){Q:jm→AA→AH→Prop}{Kp:AV→AH→Prop}{a:AA}{M:AH}
 (hI:I s0)(ha:v3 (A s0) a)(hs:jr M (H s0))(hlen:∀s,Nat.ble M.length (H s).length=true)(hA:∀s,I1 (H s).length (A s)=true)(hH:∀s,mi (H s).length (H s))
 (mR:∀s,I s→∀d,av x c (fO I μ A H Q (μ s)) Kp (lS (A s) d) (H s)):
 WA x.P x.r x.D x.n (.loop c) Q Kp a M:=
 WO.loop I μ A H s0 hT hm bW ⟨A s0,M,hI,ha,rfl,Vw.refl _ _,hs⟩ hlen hA hH mR
theorem WO.KW {x:Cx}{σ:Type}(I:σ→Prop)(μ:σ→Nat)(A:σ→List (Nat×AV))(H:σ→AH)(s0:σ)
 (hT:aq x.P x.T)(hm:x.P.follows .mixedOrders=true){c:Code}(bW:aj x.pl c=true){Q:jm→AA→AH→Prop}{Kp:AV→AH→Prop}{a:AA}{M:AH}
 (l:List (Nat×AV))(M':AH)(hI:I s0)(ha:v3 l a)(hk:l.map (·.1)=(A s0).map (·.1))(hv:Vw M M' (l.map (·.2)) ((A s0).map (·.2)))(hs:jr M' (H s0))(hlen:∀s,Nat.ble M.length (H s).length=true)(hA:∀s,I1 (H s).length (A s)=true)(hH:∀s,mi (H s).length (H s))
 (mR:∀s,I s→∀d,av x c (fO I μ A H Q (μ s)) Kp (lS (A s) d) (H s)):
 WA x.P x.r x.D x.n (.loop c) Q Kp a M:=
 WO.loop I μ A H s0 hT hm bW ⟨l,M',hI,ha,hk,hv,hs⟩ hlen hA hH mR
def sJ (x:Cx)(c:Code)(Q:jm→AA→AH→Prop)(Kp:AV→AH→Prop):Nat→AA→AH→Prop
 |0,_,_=>False
 |m+1,a,M=>av x c (B6 (sJ x c Q Kp m) Q) Kp a M
theorem WO.rounds (m:Nat){x:Cx}(hT:aq x.P x.T)(hm:x.P.follows .mixedOrders=true){c:Code}(bW:aj x.pl c=true){Q:jm→AA→AH→Prop}{Kp:AV→AH→Prop}{a:AA}{M:AH}
 (h:sJ x c Q Kp m a M):WA x.P x.r x.D x.n (.loop c) Q Kp a M:=by
 unfold WA
 intro pin D ρ w act mj Sb hs hA
 refine wpIn_loop_rounds m ?_
 suffices hh:∀(m:Nat)(a:AA)(M1:AH)(nq:Env)(w1:World)(oq:Act)(D1:List Deferred),aU nq M1 w1→Ext ρ M w nq M1 w1→Marks w.heap.size D D1 w1→bE nq D1 x.n a oq→dw pin oq→sJ x c Q Kp m a M1→Code.roundsIn (FW x.r) 0 x.P c (FX pin ρ M w D x.n Q Kp) m oq w1 from hh m a M ρ w act D hs (Ext.refl _ _ _) (Marks.refl _ _ _) hA Sb h
 intro m
 induction m with
 |zero=>intro a M1 nq w1 oq D1 _ _ _ _ _ h;exact h.elim
 |succ m ih=>
  intro a M1 nq w1 oq D1 s1 e1 m1 a1 HM h
  have h':av x c (B6 (sJ x c Q Kp m) Q) Kp a M1:=h
  rw[dD]at h'
  rw[roundsIn_succ]
  refine wpIn_mono (fU hT hm c bW _ Kp a M1 nq w1 oq D1 s1 (Ext.refl nq M1 w1) (Marks.refl _ _ _) a1 mj HM h') fun e kM w2 hq=>?_
  obtain⟨hq,rj⟩:=hq
  cases e with
  |normal=>
   obtain⟨eH,M2,a2,D2,s2,e2,m2,a3,h2⟩:=hq
   exact ih a2 M2 eH w2 kM D2 s2 (e1.trans e2) (m1.trans e1.size s1 e2 m2) a3 rj h2
  |exit id=>exact⟨eK.from (e:=.exit id) (Q:=Q) (Kp:=Kp) e1 s1 m1 hq,rj⟩
  |ret=>exact⟨eK.from (e:=.ret) (Q:=Q) (Kp:=Kp) e1 s1 m1 hq,rj⟩
  |panic ch=>exact⟨eK.from (e:=.panic ch) (n:=x.n) (Q:=Q) (Kp:=Kp) e1 s1 m1 hq,rj⟩
  |goto l=>exact hq.elim
  |outgrown=>exact hq.elim
theorem Yx {b:Bool}{p q:Prop}(h:b=false)(hq:q):(b=true→p)∧(b=false→q):=by subst h;exact⟨fun e=>(by cases e),fun _=>hq⟩
theorem Kl {b:Bool}{p q:Prop}(h:b=true)(hp:p):(b=true→p)∧(b=false→q):=by subst h;exact⟨fun _=>hp,fun e=>(by cases e)⟩
theorem side {p:Prop}(h:p:=by first|exact rfl|omega|exact Nat.le_of_ble_eq_true rfl|(dsimp only;omega)|(simp only[List.length_cons,List.length_nil,List.length_append,List.length_replicate,List.length_set,List.length_take,List.length_drop,List.length_map,List.length_range];omega)|decide|(refine⟨?_,?_,?_,?_,?_⟩<;>first|exact rfl|omega|exact Nat.zero_le _|exact Nat.le_refl _|(dsimp only;omega)|(simp only[List.length_append,List.length_cons,List.length_nil];omega)|(simp<;>fail)|(simp;omega))|(refine⟨?_,?_,?_⟩<;>first|exact rfl|omega|exact Nat.le_refl _|(dsimp only;omega)|(simp<;>fail)|(simp;omega))):p:=h
theorem Og {p:Prop}(h:p:=by first|exact rfl|decide|(simp<;>fail)):p:=h
structure Hid (q:Prop):Prop where
 out:q
theorem Rs {p q:Prop}(hq:q)(step:Hid q→p:=by intro h;(repeat((conv=>whnf);first|with_reducible refine KE ?_|with_reducible refine KD ?_|with_reducible refine KI ?_|with_reducible refine RO.exit ?_|with_reducible refine RO.ret ?_|((with_reducible refine And.intro ?sc ?_);case sc=>exact side)));exact h.out):p:=step ⟨hq⟩
theorem Qs {p q:Prop}(hq:q)(step:Hid q→p:=by intro h;(repeat((conv=>whnf);first|with_reducible refine KE ?_|with_reducible refine KD ?_|with_reducible refine KI ?_|with_reducible refine RO.exit ?_|with_reducible refine RO.ret ?_|((with_reducible refine And.intro ?sc ?_);case sc=>exact side)|((with_reducible refine Yx ?sc ?_);case sc=>exact Og)|((with_reducible refine Kl ?sc ?_);case sc=>exact Og)));exact h.out):p:=step ⟨hq⟩
theorem aI {a b:Prop}(h:a)(h2:b):a∧b:=⟨h,h2⟩
end Go.Proofs.Ytibadaomjlkoaaa
