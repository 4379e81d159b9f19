import Derived.Test.YtibadaomjlkoaaaAb20
import Derived.LoopNIn
set_option linter.unusedVariables false
set_option linter.unusedSimpArgs false
open Go.RowKit
namespace Go.Proofs.Ytibadaomjlkoaaa
theorem Aw:∃f:Cx→Code→(iT→AA→AH→Prop)→(AV→AH→Prop)→AA→AH→Prop,f=bL:=⟨_,rfl⟩
@[irreducible] noncomputable def ax:Cx→Code→(iT→AA→AH→Prop)→(AV→AH→Prop)→AA→AH→Prop:=Classical.choose Aw
theorem dw:ax=bL:=by unfold ax;exact Classical.choose_spec Aw
theorem DO:∃f:Cx→Array Oper→(AV→AH→Prop)→(AA→AH→Prop)→List Oper→AA→AH→Prop,f=fun x=>p9 x.P x.T x.n x.W:=⟨_,rfl⟩
@[irreducible] noncomputable def sL:Cx→Array Oper→(AV→AH→Prop)→(AA→AH→Prop)→List Oper→AA→AH→Prop:=Classical.choose DO
theorem pq:sL=fun x=>p9 x.P x.T x.n x.W:=by unfold sL;exact Classical.choose_spec DO
theorem Ar:∃f:Cx→Array Oper→(AV→AH→Prop)→(AA→AH→Prop)→List Nat→List Nat→List (Nat×Nat)→AA→AH→Prop,f=fun x=>fu x.P x.T x.n x.W:=⟨_,rfl⟩
@[irreducible] noncomputable def j9:Cx→Array Oper→(AV→AH→Prop)→(AA→AH→Prop)→List Nat→List Nat→List (Nat×Nat)→AA→AH→Prop:=Classical.choose Ar
theorem um:j9=fun x=>fu x.P x.T x.n x.W:=by unfold j9;exact Classical.choose_spec Ar
def Bk (k:AA→AH→Prop)(Q:iT→AA→AH→Prop)(e:iT)(a:AA)(M:AH):Prop:=
 match e with
 | .normal=>k a M
 |e=>Q e a M
def Jg (id:Nat)(Q:iT→AA→AH→Prop)(e:iT)(a:AA)(M:AH):Prop:=
 match e with
 | .exit LD=>match Nat.beq LD id with
   |true=>Q .normal a M
   |false=>Q (.exit LD) a M
 |e=>Q e a M
def Nn (v:AV)(p q:Prop):Prop:=
 match v with
 | .tt=>p
 | .ff=>q
 | .bo b=>(b=true→p)∧(b=false→q)
 |_=>False
def FH:List Oper→Nat→Option Oper
 |[],_=>none
 |o::_,0=>some o
 |_::l,i+1=>FH l i
theorem xT:∀(l:List Oper)(i:Nat),FH l i=l[i]?
 |[],i=>by simp[FH]
 |o::l,0=>rfl
 |o::l,i+1=>by simp[FH,xT l i]
def wk:AH→(AH→Prop)→Prop
 |[],K=>K []
 |o::M,K=>wk M fun M=>K (o::M)
theorem tg:∀(M:AH)(K:AH→Prop),wk M K=K M
 |[],K=>rfl
 |o::M,K=>tg M fun M=>K (o::M)
def OG (n t:Nat)(v:AV)(a:AA):AA:=fun k=>match Nat.beq k t&&Nat.blt t n with
 |true=>v
 |false=>a k
def Br (n:Nat)(a:AA)(d:Option Nat)(v:AV)(K:AA→Prop):Prop:=
 match d with
 |none=>K a
 |some t=>K (OG n t v a)
theorem DY (n:Nat)(a:AA)(d:Option Nat)(v:AV)(K:AA→Prop):Br n a d v K=K (a.put n d v):=by
 cases d<;>rfl
def qV (x:Cx)(ops:Array Oper)(o:Oper)(a:AA)(M:AH)(K:AA→AH→Prop)(Kp:AV→AH→Prop):Prop:=
 bp (cm o.op) (kX x.n ops o a (fun a=>Gq x.P x.T (de x.W o.dst) M (oV a) o.op (fun v M'=>Br x.n a o.dst v fun a=>wk M' fun M=>K a M) Kp) (fun a=>Br x.n a o.dst (.aG []) fun a=>K a M))
theorem zi (x:Cx)(ops:Array Oper)(o:Oper)(a:AA)(M:AH)(K:AA→AH→Prop)(Kp:AV→AH→Prop):qV x ops o a M K Kp=lP x.P x.T x.n x.W ops o a M K Kp:=by
 simp only[qV,lP,DY,tg]
section
variable{x:Cx}{Q:iT→AA→AH→Prop}{Kp:AV→AH→Prop}{a:AA}{M:AH}{c d:Code}{id:Nat}{ops:Array Oper}{K:AA→AH→Prop}
def Av (x:Cx)(c:Code)(Q:iT→AA→AH→Prop)(Kp:AV→AH→Prop)(a:AA)(M:AH):Prop:=
 match c with
 | .skip=>Q .normal a M
 | .label _=>Q .normal a M
 | .exit id=>Q (.exit id) a M
 | .ret=>Q .ret a M
 | .seq c d=>ax x c (Bk (ax x d Q Kp) Q) Kp a M
 | .cond o c d=>Nn (oV a o) (ax x c Q Kp a M) (ax x d Q Kp a M)
 | .block id c=>ax x c (Jg id Q) Kp a M
 | .region id ops draw=>match draw with
   |false=>wk M fun M=>sL x ops Kp (fun a M=>Q .normal a M) ops.toList a M
   |true=>match x.pl id with
    |some (ck,_)=>match ck with
     |[]=>wk M fun M=>sL x ops Kp (fun a M=>Q .normal a M) ops.toList a M
     |p::ck=>wk M fun M=>j9 x ops Kp (fun a M=>Q .normal a M) (x.B id) [] (p::ck) a M
    |none=>False
 | .loop c=>WA x.P x.r x.D x.n (.loop c) Q Kp a M
 | .rangeFunc f ps as c=>WA x.P x.r x.D x.n (.rangeFunc f ps as c) Q Kp a M
 |_=>False
theorem Jt (h:Av x c Q Kp a M):ax x c Q Kp a M:=by
 rw[dw]
 unfold Av at h
 simp only[tg]at h
 rw[dw]at h
 cases c with
 |seq c d=>
  have e:Bk (bL x d Q Kp) Q=fun e a M=>match e with| .normal=>bL x d Q Kp a M|e=>Q e a M:=by
   funext e a M;cases e<;>rfl
  simp only[e]at h;exact h
 |cond o c d=>
  simp only[Nn]at h
  simp only[bL]
  generalize oV a o=v at*
  cases v<;>first|exact h|exact h.elim
 |block id c=>
  have e:Jg id Q=fun e a M=>match e with
   | .exit LD=>match Nat.beq LD id with
     |true=>Q .normal a M
     |false=>Q (.exit LD) a M
   |e=>Q e a M:=by
   funext e a M;cases e<;>rfl
  simp only[e]at h;exact h
 |region id ops draw=>
  cases draw with
  |false=>simp only[pq]at h;exact h
  |true=>
   simp only[bL]
   simp only[um,pq]at h
   split at h
   ·rename_i ck ds hp
    rw[hp]
    cases ck<;>exact h
   ·exact h.elim
 |_=>exact h
def DN (x:Cx)(ops:Array Oper)(Kp:AV→AH→Prop)(K:AA→AH→Prop)(l:List Oper)(a:AA)(M:AH):Prop:=
 match l with
 |[]=>K a M
 |o::l=>qV x ops o a M (fun a M=>sL x ops Kp K l a M) Kp
theorem Js {l:List Oper}(h:DN x ops Kp K l a M):sL x ops Kp K l a M:=by
 rw[pq]
 cases l with
 |nil=>exact h
 |cons o l=>simp only[DN,zi,pq]at h;exact h
def MR (T:List TI)(B:List Nat)(M0:AH)(e:Operand→AV)(op:Op)(K:AV→Prop):Prop:=
 match op with
 | .load t x=>bp (de B (some (e x).id)) (pL T M0 t (e x) K)
 | .convert s d x=>bp (de B (some (e x).id)) (n5 T M0 s d (e x) K)
 | .lookup t x ix ok=>bp (de B (some (e x).id)) (wz T M0 t (e x) (e ix) ok K)
 | .call ⟨.builtin .len,args,ic⟩=>match args.toList,ic.toList with
   |[x],[t]=>bp (de B (some (e x).id)) (na T M0 t (e x) K)
   |_,_=>False
 |_=>False
def OO (o:Option Oper)(p:Oper→Prop):Prop:=
 match o with
 |some o=>p o
 |none=>False
def Aq (x:Cx)(ops:Array Oper)(Kp:AV→AH→Prop)(K:AA→AH→Prop)(B:List Nat)(sk:List Nat)(l:List (Nat×Nat))(a:AA)(M:AH):Prop:=
 match l with
 |[]=>K a M
 |(i,md)::l=>match de sk (some i)with
  |true=>j9 x ops Kp K B sk l a M
  |false=>OO (FH ops.toList i) fun o=>match md with
   |0=>bp (cm o.op) (kX x.n ops o a (fun a=>iy x.T (de x.W o.dst) M (oV a) o.op fun v=>Br x.n a o.dst v fun a=>j9 x ops Kp K B sk l a M) (fun a=>Br x.n a o.dst (.aG []) fun a=>j9 x ops Kp K B sk l a M))
   |1=>bp (cm o.op) (kX x.n ops o a (fun a=>MR x.T B M (oV a) o.op fun v=>Br x.n a o.dst v fun a=>j9 x ops Kp K B sk l a M) (fun a=>Br x.n a o.dst (.aG []) fun a=>j9 x ops Kp K B sk l a M))
   |2=>qV x ops o a M (fun a M'=>lz B M M' (j9 x ops Kp K B sk l a M')) Kp
   |3=>qV x ops o a M (fun a M'=>j9 x ops Kp K B sk l a M') Kp
   |j+4=>OO (FH ops.toList j) fun oj=>qV x ops o a M (fun a M'=>lz B M M' (j9 x ops Kp K B sk l a M')) Kp∧qV x ops oj a M (fun a M'=>lz B M M' (qV x ops o a M' (fun a ld=>lz B M' ld (j9 x ops Kp K B (j::sk) l a ld)) Kp)) Kp
theorem Jw {B:List Nat}{sk:List Nat}{l:List (Nat×Nat)}(h:Aq x ops Kp K B sk l a M):j9 x ops Kp K B sk l a M:=by
 rw[um]
 cases l with
 |nil=>exact h
 |cons im l=>
  obtain⟨i,md⟩:=im
  unfold Aq at h
  simp only[DY,zi]at h
  simp only[xT,Array.getElem?_toList]at h
  simp only[fu]
  rw[um]at h
  cases Pk:de sk (some i)with
  |true=>rw[Pk]at h;exact h
  |false=>
  rw[Pk]at h
  simp only at h⊢
  cases ho:ops[i]? with
  |none=>rw[ho]at h;exact h.elim
  |some o=>
   rw[ho]at h
   simp only[OO]at h
   have e:∀(e:Operand→AV)(op:Op)(K:AV→Prop),MR x.T B M e op K=(match op with
    | .load t GQ=>bp (de B (some (e GQ).id)) (pL x.T M t (e GQ) K)
    | .convert s d GQ=>bp (de B (some (e GQ).id)) (n5 x.T M s d (e GQ) K)
    | .lookup t GQ ix ok=>bp (de B (some (e GQ).id)) (wz x.T M t (e GQ) (e ix) ok K)
    | .call ⟨.builtin .len,args,ic⟩=>match args.toList,ic.toList with
      |[GQ],[t]=>bp (de B (some (e GQ).id)) (na x.T M t (e GQ) K)
      |_,_=>False
    |_=>False):=fun e op K=>rfl
   match md,h with
   |0,h=>exact h
   |1,h=>simp only[e]at h;exact h
   |2,h=>exact h
   |3,h=>exact h
   |j+4,h=>
    simp only[xT,Array.getElem?_toList]at h
    cases hj:ops[j]? with
    |none=>rw[hj]at h;exact h.elim
    |some oj=>rw[hj]at h;simp only[hj];exact h
end
theorem aM.intro {x:Cx}(hT:ao x.P x.T)(hm:x.P.follows .mixedOrders=true){g:Nat}{fn:Func}{c:Code}(hf:x.P.funcs[g]?=some fn)(hb:fn.body=some c)(hg:nU x.P g=true)(bO:aj x.pl c=true)(hr:x.r=none)(hD:x.D=[])
 {args:List AV}{M:AH}{K Kp:AV→AH→Prop}(hn:fn.ntmps=x.n)(hle:Nat.ble args.length x.n=true)
 (h:ax x c (az x.T fn.results.toList K) Kp (au args) M):aa x.P g args M K Kp:=by
 rw[dw]at h
 exact aa.intro hT hm hf hb hg bO hr hD hn hle h
@[irreducible] def fx {σ:Type}(I:σ→Prop)(μ:σ→Nat)(A:σ→List (Nat×AV))(H:σ→AH)(Q:iT→AA→AH→Prop)(k:Nat)(e:iT)(a:AA)(M:AH):Prop:=Bn I μ A H Q k e a M
theorem WO.loop {x:Cx}{σ:Type}(I:σ→Prop)(μ:σ→Nat)(A:σ→List (Nat×AV))(H:σ→AH)(s0:σ)
 (hT:ao x.P x.T)(hm:x.P.follows .mixedOrders=true){c:Code}(bO:aj x.pl c=true){Q:iT→AA→AH→Prop}{Kp:AV→AH→Prop}{a:AA}{M:AH}
 (h0:∃l M',I s0∧vw l a∧l.map (·.1)=(A s0).map (·.1)∧Vw M M' (l.map (·.2)) ((A s0).map (·.2))∧iV M' (H s0))(hlen:∀s,Nat.ble M.length (H s).length=true)(hA:∀s,HN (H s).length (A s)=true)(hH:∀s,lJ (H s).length (H s))
 (mh:∀s,I s→∀d,ax x c (fx I μ A H Q (μ s)) Kp (lj (A s) d) (H s)):
 WA x.P x.r x.D x.n (.loop c) Q Kp a M:=by
 rw[dw]at mh
 have e:∀k,fx I μ A H Q k=Bn I μ A H Q k:=fun k=>by funext e a M;unfold fx;rfl
 simp only[e]at mh
 exact WA.Ro I μ A H s0 hT hm bO h0 hlen hA hH mh
section
variable{σ:Type}{I:σ→Prop}{μ:σ→Nat}{A:σ→List (Nat×AV)}{H:σ→AH}{Q:iT→AA→AH→Prop}{k:Nat}{a:AA}{M:AH}
theorem RO.mk (s:σ)(l:List (Nat×AV))(M':AH)
 (hI:I s)(UZ:μ s<k)(hl:vw l a)(hk:l.map (·.1)=(A s).map (·.1))(hv:Vw M M' (l.map (·.2)) ((A s).map (·.2)))(hs:iV M' (H s)):fx I μ A H Q k .normal a M:=by
 unfold fx
 exact⟨s,l,M',⟨hI,UZ⟩,hl,hk,hv,hs⟩
theorem RO.same (s:σ)
 (hI:I s)(UZ:μ s<k)(hl:vw (A s) a)(hs:iV M (H s)):fx I μ A H Q k .normal a M:=by
 unfold fx
 exact⟨s,A s,M,⟨hI,UZ⟩,hl,rfl,Vw.refl _ _,hs⟩
theorem RO.exit {id:Nat}(h:Q (.exit id) a M):fx I μ A H Q k (.exit id) a M:=by unfold fx;exact h
theorem RO.ret (h:Q .ret a M):fx I μ A H Q k .ret a M:=by unfold fx;exact h
end
theorem WO.go {x:Cx}{σ:Type}(I:σ→Prop)(μ:σ→Nat)(A:σ→List (Nat×AV))(H:σ→AH)(s0:σ)
 (hT:ao x.P x.T)(hm:x.P.follows .mixedOrders=true){c:Code}(bO:aj x.pl c=true){Q:iT→AA→AH→Prop}{Kp:AV→AH→Prop}{a:AA}{M:AH}
 (hI:I s0)(ha:vw (A s0) a)(hs:iV M (H s0))(hlen:∀s,Nat.ble M.length (H s).length=true)(hA:∀s,HN (H s).length (A s)=true)(hH:∀s,lJ (H s).length (H s))
 (mh:∀s,I s→∀d,ax x c (fx I μ A H Q (μ s)) Kp (lj (A s) d) (H s)):
 WA x.P x.r x.D x.n (.loop c) Q Kp a M:=
 WO.loop I μ A H s0 hT hm bO ⟨A s0,M,hI,ha,rfl,Vw.refl _ _,hs⟩ hlen hA hH mh
theorem WO.Mf {x:Cx}{σ:Type}(I:σ→Prop)(μ:σ→Nat)(A:σ→List (Nat×AV))(H:σ→AH)(s0:σ)
 (hT:ao x.P x.T)(hm:x.P.follows .mixedOrders=true){c:Code}(bO:aj x.pl c=true){Q:iT→AA→AH→Prop}{Kp:AV→AH→Prop}{a:AA}{M:AH}
 (l:List (Nat×AV))(M':AH)(hI:I s0)(ha:vw l a)(hk:l.map (·.1)=(A s0).map (·.1))(hv:Vw M M' (l.map (·.2)) ((A s0).map (·.2)))(hs:iV M' (H s0))(hlen:∀s,Nat.ble M.length (H s).length=true)(hA:∀s,HN (H s).length (A s)=true)(hH:∀s,lJ (H s).length (H s))
 (mh:∀s,I s→∀d,ax x c (fx I μ A H Q (μ s)) Kp (lj (A s) d) (H s)):
 WA x.P x.r x.D x.n (.loop c) Q Kp a M:=
 WO.loop I μ A H s0 hT hm bO ⟨l,M',hI,ha,hk,hv,hs⟩ hlen hA hH mh
def r7 (x:Cx)(c:Code)(Q:iT→AA→AH→Prop)(Kp:AV→AH→Prop):Nat→AA→AH→Prop
 |0,_,_=>False
 |m+1,a,M=>ax x c (Bk (r7 x c Q Kp m) Q) Kp a M
theorem WO.rounds (m:Nat){x:Cx}(hT:ao x.P x.T)(hm:x.P.follows .mixedOrders=true){c:Code}(bO:aj x.pl c=true){Q:iT→AA→AH→Prop}{Kp:AV→AH→Prop}{a:AA}{M:AH}
 (h:r7 x c Q Kp m a M):WA x.P x.r x.D x.n (.loop c) Q Kp a M:=by
 unfold WA
 intro pin D ρ w act lL Qv hs hA
 refine wpIn_loop_rounds m ?_
 suffices hh:∀(m:Nat)(a:AA)(M1:AH)(mH:Env)(w1:World)(nG:Act)(D1:List Deferred),aR mH M1 w1→Ext ρ M w mH M1 w1→Marks w.heap.size D D1 w1→bs mH D1 x.n a nG→dm pin nG→r7 x c Q Kp m a M1→Code.roundsIn (FW x.r) 0 x.P c (EV pin ρ M w D x.n Q Kp) m nG w1 from hh m a M ρ w act D hs (Ext.refl _ _ _) (Marks.refl _ _ _) hA Qv h
 intro m
 induction m with
 |zero=>intro a M1 mH w1 nG D1 _ _ _ _ _ h;exact h.elim
 |succ m ih=>
  intro a M1 mH w1 nG D1 s1 e1 m1 a1 GJ h
  have h':ax x c (Bk (r7 x c Q Kp m) Q) Kp a M1:=h
  rw[dw]at h'
  rw[roundsIn_succ]
  refine wpIn_mono (fH hT hm c bO _ Kp a M1 mH w1 nG D1 s1 (Ext.refl mH M1 w1) (Marks.refl _ _ _) a1 lL GJ h') fun e km w2 hq=>?_
  obtain⟨hq,qC⟩:=hq
  cases e with
  |normal=>
   obtain⟨ek,M2,a2,D2,s2,e2,m2,a3,h2⟩:=hq
   exact ih a2 M2 ek w2 km D2 s2 (e1.trans e2) (m1.trans e1.size s1 e2 m2) a3 qC h2
  |exit id=>exact⟨ew.from (e:=.exit id) (Q:=Q) (Kp:=Kp) e1 s1 m1 hq,qC⟩
  |ret=>exact⟨ew.from (e:=.ret) (Q:=Q) (Kp:=Kp) e1 s1 m1 hq,qC⟩
  |panic ch=>exact⟨ew.from (e:=.panic ch) (n:=x.n) (Q:=Q) (Kp:=Kp) e1 s1 m1 hq,qC⟩
  |goto l=>exact hq.elim
  |outgrown=>exact hq.elim
theorem T3 {b:Bool}{p q:Prop}(h:b=false)(hq:q):(b=true→p)∧(b=false→q):=by subst h;exact⟨fun e=>(by cases e),fun _=>hq⟩
theorem Jb {b:Bool}{p q:Prop}(h:b=true)(hp:p):(b=true→p)∧(b=false→q):=by subst h;exact⟨fun _=>hp,fun e=>(by cases e)⟩
theorem side {p:Prop}(h:p:=by first|exact rfl|omega|exact Nat.le_of_ble_eq_true rfl|(dsimp only;omega)|(simp only[List.length_cons,List.length_nil,List.length_append,List.length_replicate,List.length_set,List.length_take,List.length_drop,List.length_map,List.length_range];omega)|decide|(refine⟨?_,?_,?_,?_,?_⟩<;>first|exact rfl|omega|exact Nat.zero_le _|exact Nat.le_refl _|(dsimp only;omega)|(simp only[List.length_append,List.length_cons,List.length_nil];omega)|(simp<;>fail)|(simp;omega))|(refine⟨?_,?_,?_⟩<;>first|exact rfl|omega|exact Nat.le_refl _|(dsimp only;omega)|(simp<;>fail)|(simp;omega))):p:=h
theorem MF {p:Prop}(h:p:=by first|exact rfl|decide|(simp<;>fail)):p:=h
structure Hid (q:Prop):Prop where
 out:q
theorem Rs {p q:Prop}(hq:q)(step:Hid q→p:=by intro h;(repeat((conv=>whnf);first|with_reducible refine Jt ?_|with_reducible refine Js ?_|with_reducible refine Jw ?_|with_reducible refine RO.exit ?_|with_reducible refine RO.ret ?_|((with_reducible refine And.intro ?sc ?_);case sc=>exact side)));exact h.out):p:=step ⟨hq⟩
theorem Qs {p q:Prop}(hq:q)(step:Hid q→p:=by intro h;(repeat((conv=>whnf);first|with_reducible refine Jt ?_|with_reducible refine Js ?_|with_reducible refine Jw ?_|with_reducible refine RO.exit ?_|with_reducible refine RO.ret ?_|((with_reducible refine And.intro ?sc ?_);case sc=>exact side)|((with_reducible refine T3 ?sc ?_);case sc=>exact MF)|((with_reducible refine Jb ?sc ?_);case sc=>exact MF)));exact h.out):p:=step ⟨hq⟩
theorem aI {a b:Prop}(h:a)(h2:b):a∧b:=⟨h,h2⟩
end Go.Proofs.Ytibadaomjlkoaaa
