import Derived.Test.YtibadaomjlkoaaaAb20
import Derived.LoopNIn
set_option linter.unusedVariables false
set_option linter.unusedSimpArgs false
open Go.RowKit
namespace Go.Proofs.Ytibadaomjlkoaaa
theorem Ay:∃f:Cx→Code→(iW→AA→AH→Prop)→(AV→AH→Prop)→AA→AH→Prop,f=bL:=⟨_,rfl⟩
@[irreducible] noncomputable def ax:Cx→Code→(iW→AA→AH→Prop)→(AV→AH→Prop)→AA→AH→Prop:=Classical.choose Ay
theorem dx:ax=bL:=by unfold ax;exact Classical.choose_spec Ay
theorem DR:∃f:Cx→Array Oper→(AV→AH→Prop)→(AA→AH→Prop)→List Oper→AA→AH→Prop,f=fun x=>qc x.P x.T x.n x.W:=⟨_,rfl⟩
@[irreducible] noncomputable def sL:Cx→Array Oper→(AV→AH→Prop)→(AA→AH→Prop)→List Oper→AA→AH→Prop:=Classical.choose DR
theorem pw:sL=fun x=>qc x.P x.T x.n x.W:=by unfold sL;exact Classical.choose_spec DR
theorem Ar:∃f:Cx→Array Oper→(AV→AH→Prop)→(AA→AH→Prop)→List Nat→List Nat→List (Nat×Nat)→AA→AH→Prop,f=fun x=>fx x.P x.T x.n x.W:=⟨_,rfl⟩
@[irreducible] noncomputable def kf:Cx→Array Oper→(AV→AH→Prop)→(AA→AH→Prop)→List Nat→List Nat→List (Nat×Nat)→AA→AH→Prop:=Classical.choose Ar
theorem um:kf=fun x=>fx x.P x.T x.n x.W:=by unfold kf;exact Classical.choose_spec Ar
def Bm (k:AA→AH→Prop)(Q:iW→AA→AH→Prop)(e:iW)(a:AA)(M:AH):Prop:=
 match e with
 | .normal=>k a M
 |e=>Q e a M
def Jf (id:Nat)(Q:iW→AA→AH→Prop)(e:iW)(a:AA)(M:AH):Prop:=
 match e with
 | .exit LA=>match Nat.beq LA id with
   |true=>Q .normal a M
   |false=>Q (.exit LA) a M
 |e=>Q e a M
def Nl (v:AV)(p q:Prop):Prop:=
 match v with
 | .tt=>p
 | .ff=>q
 | .bo b=>(b=true→p)∧(b=false→q)
 |_=>False
def FL:List Oper→Nat→Option Oper
 |[],_=>none
 |o::_,0=>some o
 |_::l,i+1=>FL l i
theorem xT:∀(l:List Oper)(i:Nat),FL l i=l[i]?
 |[],i=>by simp[FL]
 |o::l,0=>rfl
 |o::l,i+1=>by simp[FL,xT l i]
def wi:AH→(AH→Prop)→Prop
 |[],K=>K []
 |o::M,K=>wi M fun M=>K (o::M)
theorem tg:∀(M:AH)(K:AH→Prop),wi M K=K M
 |[],K=>rfl
 |o::M,K=>tg M fun M=>K (o::M)
def OD (n t:Nat)(v:AV)(a:AA):AA:=fun k=>match Nat.beq k t&&Nat.blt t n with
 |true=>v
 |false=>a k
def Bt (n:Nat)(a:AA)(d:Option Nat)(v:AV)(K:AA→Prop):Prop:=
 match d with
 |none=>K a
 |some t=>K (OD n t v a)
theorem D3 (n:Nat)(a:AA)(d:Option Nat)(v:AV)(K:AA→Prop):Bt n a d v K=K (a.put n d v):=by
 cases d<;>rfl
def qW (x:Cx)(ops:Array Oper)(o:Oper)(a:AA)(M:AH)(K:AA→AH→Prop)(Kp:AV→AH→Prop):Prop:=
 bp (cm o.op) (k8 x.n ops o a (fun a=>Gr x.P x.T (dg x.W o.dst) M (oY a) o.op (fun v M'=>Bt x.n a o.dst v fun a=>wi M' fun M=>K a M) Kp) (fun a=>Bt x.n a o.dst (.aL []) fun a=>K a M))
theorem zg (x:Cx)(ops:Array Oper)(o:Oper)(a:AA)(M:AH)(K:AA→AH→Prop)(Kp:AV→AH→Prop):qW x ops o a M K Kp=lU x.P x.T x.n x.W ops o a M K Kp:=by
 simp only[qW,lU,D3,tg]
section
variable{x:Cx}{Q:iW→AA→AH→Prop}{Kp:AV→AH→Prop}{a:AA}{M:AH}{c d:Code}{id:Nat}{ops:Array Oper}{K:AA→AH→Prop}
def Ax (x:Cx)(c:Code)(Q:iW→AA→AH→Prop)(Kp:AV→AH→Prop)(a:AA)(M:AH):Prop:=
 match c with
 | .skip=>Q .normal a M
 | .label _=>Q .normal a M
 | .exit id=>Q (.exit id) a M
 | .ret=>Q .ret a M
 | .seq c d=>ax x c (Bm (ax x d Q Kp) Q) Kp a M
 | .cond o c d=>Nl (oY a o) (ax x c Q Kp a M) (ax x d Q Kp a M)
 | .block id c=>ax x c (Jf id Q) Kp a M
 | .region id ops draw=>match draw with
   |false=>wi M fun M=>sL x ops Kp (fun a M=>Q .normal a M) ops.toList a M
   |true=>match x.pl id with
    |some (ck,_)=>match ck with
     |[]=>wi M fun M=>sL x ops Kp (fun a M=>Q .normal a M) ops.toList a M
     |p::ck=>wi M fun M=>kf x ops Kp (fun a M=>Q .normal a M) (x.B id) [] (p::ck) a M
    |none=>False
 | .loop c=>WA x.P x.r x.D x.n (.loop c) Q Kp a M
 | .rangeFunc f ps as c=>WA x.P x.r x.D x.n (.rangeFunc f ps as c) Q Kp a M
 |_=>False
theorem Js (h:Ax x c Q Kp a M):ax x c Q Kp a M:=by
 rw[dx]
 unfold Ax at h
 simp only[tg]at h
 rw[dx]at h
 cases c with
 |seq c d=>
  have e:Bm (bL x d Q Kp) Q=fun e a M=>match e with| .normal=>bL x d Q Kp a M|e=>Q e a M:=by
   funext e a M;cases e<;>rfl
  simp only[e]at h;exact h
 |cond o c d=>
  simp only[Nl]at h
  simp only[bL]
  generalize oY a o=v at*
  cases v<;>first|exact h|exact h.elim
 |block id c=>
  have e:Jf id Q=fun e a M=>match e with
   | .exit LA=>match Nat.beq LA id with
     |true=>Q .normal a M
     |false=>Q (.exit LA) a M
   |e=>Q e a M:=by
   funext e a M;cases e<;>rfl
  simp only[e]at h;exact h
 |region id ops draw=>
  cases draw with
  |false=>simp only[pw]at h;exact h
  |true=>
   simp only[bL]
   simp only[um,pw]at h
   split at h
   ·rename_i ck ds hp
    rw[hp]
    cases ck<;>exact h
   ·exact h.elim
 |_=>exact h
def DQ (x:Cx)(ops:Array Oper)(Kp:AV→AH→Prop)(K:AA→AH→Prop)(l:List Oper)(a:AA)(M:AH):Prop:=
 match l with
 |[]=>K a M
 |o::l=>qW x ops o a M (fun a M=>sL x ops Kp K l a M) Kp
theorem Jr {l:List Oper}(h:DQ x ops Kp K l a M):sL x ops Kp K l a M:=by
 rw[pw]
 cases l with
 |nil=>exact h
 |cons o l=>simp only[DQ,zg,pw]at h;exact h
def MO (T:List TI)(B:List Nat)(M0:AH)(e:Operand→AV)(op:Op)(K:AV→Prop):Prop:=
 match op with
 | .load t x=>bp (dg B (some (e x).id)) (pO T M0 t (e x) K)
 | .convert s d x=>bp (dg B (some (e x).id)) (n9 T M0 s d (e x) K)
 | .lookup t x ix ok=>bp (dg B (some (e x).id)) (wx T M0 t (e x) (e ix) ok K)
 | .call ⟨.builtin .len,args,ij⟩=>match args.toList,ij.toList with
   |[x],[t]=>bp (dg B (some (e x).id)) (nh T M0 t (e x) K)
   |_,_=>False
 |_=>False
def OM (o:Option Oper)(p:Oper→Prop):Prop:=
 match o with
 |some o=>p o
 |none=>False
def Aq (x:Cx)(ops:Array Oper)(Kp:AV→AH→Prop)(K:AA→AH→Prop)(B:List Nat)(sk:List Nat)(l:List (Nat×Nat))(a:AA)(M:AH):Prop:=
 match l with
 |[]=>K a M
 |(i,md)::l=>match dg sk (some i)with
  |true=>kf x ops Kp K B sk l a M
  |false=>OM (FL ops.toList i) fun o=>match md with
   |0=>bp (cm o.op) (k8 x.n ops o a (fun a=>iA x.T (dg x.W o.dst) M (oY a) o.op fun v=>Bt x.n a o.dst v fun a=>kf x ops Kp K B sk l a M) (fun a=>Bt x.n a o.dst (.aL []) fun a=>kf x ops Kp K B sk l a M))
   |1=>bp (cm o.op) (k8 x.n ops o a (fun a=>MO x.T B M (oY a) o.op fun v=>Bt x.n a o.dst v fun a=>kf x ops Kp K B sk l a M) (fun a=>Bt x.n a o.dst (.aL []) fun a=>kf x ops Kp K B sk l a M))
   |2=>qW x ops o a M (fun a M'=>lF B M M' (kf x ops Kp K B sk l a M')) Kp
   |3=>qW x ops o a M (fun a M'=>kf x ops Kp K B sk l a M') Kp
   |j+4=>OM (FL ops.toList j) fun oj=>qW x ops o a M (fun a M'=>lF B M M' (kf x ops Kp K B sk l a M')) Kp∧qW x ops oj a M (fun a M'=>lF B M M' (qW x ops o a M' (fun a lp=>lF B M' lp (kf x ops Kp K B (j::sk) l a lp)) Kp)) Kp
theorem Jv {B:List Nat}{sk:List Nat}{l:List (Nat×Nat)}(h:Aq x ops Kp K B sk l a M):kf x ops Kp K B sk l a M:=by
 rw[um]
 cases l with
 |nil=>exact h
 |cons im l=>
  obtain⟨i,md⟩:=im
  unfold Aq at h
  simp only[D3,zg]at h
  simp only[xT,Array.getElem?_toList]at h
  simp only[fx]
  rw[um]at h
  cases Ph:dg sk (some i)with
  |true=>rw[Ph]at h;exact h
  |false=>
  rw[Ph]at h
  simp only at h⊢
  cases ho:ops[i]? with
  |none=>rw[ho]at h;exact h.elim
  |some o=>
   rw[ho]at h
   simp only[OM]at h
   have e:∀(e:Operand→AV)(op:Op)(K:AV→Prop),MO x.T B M e op K=(match op with
    | .load t GR=>bp (dg B (some (e GR).id)) (pO x.T M t (e GR) K)
    | .convert s d GR=>bp (dg B (some (e GR).id)) (n9 x.T M s d (e GR) K)
    | .lookup t GR ix ok=>bp (dg B (some (e GR).id)) (wx x.T M t (e GR) (e ix) ok K)
    | .call ⟨.builtin .len,args,ij⟩=>match args.toList,ij.toList with
      |[GR],[t]=>bp (dg B (some (e GR).id)) (nh x.T M t (e GR) K)
      |_,_=>False
    |_=>False):=fun e op K=>rfl
   match md,h with
   |0,h=>exact h
   |1,h=>simp only[e]at h;exact h
   |2,h=>exact h
   |3,h=>exact h
   |j+4,h=>
    simp only[xT,Array.getElem?_toList]at h
    cases hj:ops[j]? with
    |none=>rw[hj]at h;exact h.elim
    |some oj=>rw[hj]at h;simp only[hj];exact h
end
theorem aM.intro {x:Cx}(hT:ao x.P x.T)(hm:x.P.follows .mixedOrders=true){g:Nat}{fn:Func}{c:Code}(hf:x.P.funcs[g]?=some fn)(hb:fn.body=some c)(hg:nY x.P g=true)(bO:aj x.pl c=true)(hr:x.r=none)(hD:x.D=[])
 {args:List AV}{M:AH}{K Kp:AV→AH→Prop}(hn:fn.ntmps=x.n)(hle:Nat.ble args.length x.n=true)
 (h:ax x c (az x.T fn.results.toList K) Kp (au args) M):aa x.P g args M K Kp:=by
 rw[dx]at h
 exact aa.intro hT hm hf hb hg bO hr hD hn hle h
@[irreducible] def fz {σ:Type}(I:σ→Prop)(μ:σ→Nat)(A:σ→List (Nat×AV))(H:σ→AH)(Q:iW→AA→AH→Prop)(k:Nat)(e:iW)(a:AA)(M:AH):Prop:=Bp I μ A H Q k e a M
theorem WO.loop {x:Cx}{σ:Type}(I:σ→Prop)(μ:σ→Nat)(A:σ→List (Nat×AV))(H:σ→AH)(s0:σ)
 (hT:ao x.P x.T)(hm:x.P.follows .mixedOrders=true){c:Code}(bO:aj x.pl c=true){Q:iW→AA→AH→Prop}{Kp:AV→AH→Prop}{a:AA}{M:AH}
 (h0:∃l M',I s0∧vt l a∧l.map (·.1)=(A s0).map (·.1)∧Vw M M' (l.map (·.2)) ((A s0).map (·.2))∧iY M' (H s0))(hlen:∀s,Nat.ble M.length (H s).length=true)(hA:∀s,HO (H s).length (A s)=true)(hH:∀s,lO (H s).length (H s))
 (mn:∀s,I s→∀d,ax x c (fz I μ A H Q (μ s)) Kp (ly (A s) d) (H s)):
 WA x.P x.r x.D x.n (.loop c) Q Kp a M:=by
 rw[dx]at mn
 have e:∀k,fz I μ A H Q k=Bp I μ A H Q k:=fun k=>by funext e a M;unfold fz;rfl
 simp only[e]at mn
 exact WA.Rq I μ A H s0 hT hm bO h0 hlen hA hH mn
section
variable{σ:Type}{I:σ→Prop}{μ:σ→Nat}{A:σ→List (Nat×AV)}{H:σ→AH}{Q:iW→AA→AH→Prop}{k:Nat}{a:AA}{M:AH}
theorem RO.mk (s:σ)(l:List (Nat×AV))(M':AH)
 (hI:I s)(UY:μ s<k)(hl:vt l a)(hk:l.map (·.1)=(A s).map (·.1))(hv:Vw M M' (l.map (·.2)) ((A s).map (·.2)))(hs:iY M' (H s)):fz I μ A H Q k .normal a M:=by
 unfold fz
 exact⟨s,l,M',⟨hI,UY⟩,hl,hk,hv,hs⟩
theorem RO.same (s:σ)
 (hI:I s)(UY:μ s<k)(hl:vt (A s) a)(hs:iY M (H s)):fz I μ A H Q k .normal a M:=by
 unfold fz
 exact⟨s,A s,M,⟨hI,UY⟩,hl,rfl,Vw.refl _ _,hs⟩
theorem RO.exit {id:Nat}(h:Q (.exit id) a M):fz I μ A H Q k (.exit id) a M:=by unfold fz;exact h
theorem RO.ret (h:Q .ret a M):fz I μ A H Q k .ret a M:=by unfold fz;exact h
end
theorem WO.go {x:Cx}{σ:Type}(I:σ→Prop)(μ:σ→Nat)(A:σ→List (Nat×AV))(H:σ→AH)(s0:σ)
 (hT:ao x.P x.T)(hm:x.P.follows .mixedOrders=true){c:Code}(bO:aj x.pl c=true){Q:iW→AA→AH→Prop}{Kp:AV→AH→Prop}{a:AA}{M:AH}
 (hI:I s0)(ha:vt (A s0) a)(hs:iY M (H s0))(hlen:∀s,Nat.ble M.length (H s).length=true)(hA:∀s,HO (H s).length (A s)=true)(hH:∀s,lO (H s).length (H s))
 (mn:∀s,I s→∀d,ax x c (fz I μ A H Q (μ s)) Kp (ly (A s) d) (H s)):
 WA x.P x.r x.D x.n (.loop c) Q Kp a M:=
 WO.loop I μ A H s0 hT hm bO ⟨A s0,M,hI,ha,rfl,Vw.refl _ _,hs⟩ hlen hA hH mn
theorem WO.Md {x:Cx}{σ:Type}(I:σ→Prop)(μ:σ→Nat)(A:σ→List (Nat×AV))(H:σ→AH)(s0:σ)
 (hT:ao x.P x.T)(hm:x.P.follows .mixedOrders=true){c:Code}(bO:aj x.pl c=true){Q:iW→AA→AH→Prop}{Kp:AV→AH→Prop}{a:AA}{M:AH}
 (l:List (Nat×AV))(M':AH)(hI:I s0)(ha:vt l a)(hk:l.map (·.1)=(A s0).map (·.1))(hv:Vw M M' (l.map (·.2)) ((A s0).map (·.2)))(hs:iY M' (H s0))(hlen:∀s,Nat.ble M.length (H s).length=true)(hA:∀s,HO (H s).length (A s)=true)(hH:∀s,lO (H s).length (H s))
 (mn:∀s,I s→∀d,ax x c (fz I μ A H Q (μ s)) Kp (ly (A s) d) (H s)):
 WA x.P x.r x.D x.n (.loop c) Q Kp a M:=
 WO.loop I μ A H s0 hT hm bO ⟨l,M',hI,ha,hk,hv,hs⟩ hlen hA hH mn
def r7 (x:Cx)(c:Code)(Q:iW→AA→AH→Prop)(Kp:AV→AH→Prop):Nat→AA→AH→Prop
 |0,_,_=>False
 |m+1,a,M=>ax x c (Bm (r7 x c Q Kp m) Q) Kp a M
theorem WO.rounds (m:Nat){x:Cx}(hT:ao x.P x.T)(hm:x.P.follows .mixedOrders=true){c:Code}(bO:aj x.pl c=true){Q:iW→AA→AH→Prop}{Kp:AV→AH→Prop}{a:AA}{M:AH}
 (h:r7 x c Q Kp m a M):WA x.P x.r x.D x.n (.loop c) Q Kp a M:=by
 unfold WA
 intro pin D ρ w act lQ Qu hs hA
 refine wpIn_loop_rounds m ?_
 suffices hh:∀(m:Nat)(a:AA)(M1:AH)(mL:Env)(w1:World)(nK:Act)(D1:List Deferred),aR mL M1 w1→Ext ρ M w mL M1 w1→Marks w.heap.size D D1 w1→bs mL D1 x.n a nK→dp pin nK→r7 x c Q Kp m a M1→Code.roundsIn (FW x.r) 0 x.P c (EY pin ρ M w D x.n Q Kp) m nK w1 from hh m a M ρ w act D hs (Ext.refl _ _ _) (Marks.refl _ _ _) hA Qu h
 intro m
 induction m with
 |zero=>intro a M1 mL w1 nK D1 _ _ _ _ _ h;exact h.elim
 |succ m ih=>
  intro a M1 mL w1 nK D1 s1 e1 m1 a1 GK h
  have h':ax x c (Bm (r7 x c Q Kp m) Q) Kp a M1:=h
  rw[dx]at h'
  rw[roundsIn_succ]
  refine wpIn_mono (fJ hT hm c bO _ Kp a M1 mL w1 nK D1 s1 (Ext.refl mL M1 w1) (Marks.refl _ _ _) a1 lQ GK h') fun e kp w2 hq=>?_
  obtain⟨hq,qF⟩:=hq
  cases e with
  |normal=>
   obtain⟨eh,M2,a2,D2,s2,e2,m2,a3,h2⟩:=hq
   exact ih a2 M2 eh w2 kp D2 s2 (e1.trans e2) (m1.trans e1.size s1 e2 m2) a3 qF h2
  |exit id=>exact⟨ep.from (e:=.exit id) (Q:=Q) (Kp:=Kp) e1 s1 m1 hq,qF⟩
  |ret=>exact⟨ep.from (e:=.ret) (Q:=Q) (Kp:=Kp) e1 s1 m1 hq,qF⟩
  |panic ch=>exact⟨ep.from (e:=.panic ch) (n:=x.n) (Q:=Q) (Kp:=Kp) e1 s1 m1 hq,qF⟩
  |goto l=>exact hq.elim
  |outgrown=>exact hq.elim
theorem T2 {b:Bool}{p q:Prop}(h:b=false)(hq:q):(b=true→p)∧(b=false→q):=by subst h;exact⟨fun e=>(by cases e),fun _=>hq⟩
theorem Qg {b:Bool}{p q:Prop}(h:b=true)(hp:p):(b=true→p)∧(b=false→q):=by subst h;exact⟨fun _=>hp,fun e=>(by cases e)⟩
theorem side {p:Prop}(h:p:=by first|exact rfl|omega|exact Nat.le_of_ble_eq_true rfl|(dsimp only;omega)|(simp only[List.length_cons,List.length_nil,List.length_append,List.length_replicate,List.length_set,List.length_take,List.length_drop,List.length_map,List.length_range];omega)|decide|(refine⟨?_,?_,?_,?_,?_⟩<;>first|exact rfl|omega|exact Nat.zero_le _|exact Nat.le_refl _|(dsimp only;omega)|(simp only[List.length_append,List.length_cons,List.length_nil];omega)|(simp<;>fail)|(simp;omega))|(refine⟨?_,?_,?_⟩<;>first|exact rfl|omega|exact Nat.le_refl _|(dsimp only;omega)|(simp<;>fail)|(simp;omega))):p:=h
theorem MC {p:Prop}(h:p:=by first|exact rfl|decide|(simp<;>fail)):p:=h
structure Hid (q:Prop):Prop where
 out:q
theorem Rs {p q:Prop}(hq:q)(step:Hid q→p:=by intro h;(repeat((conv=>whnf);first|with_reducible refine Js ?_|with_reducible refine Jr ?_|with_reducible refine Jv ?_|with_reducible refine RO.exit ?_|with_reducible refine RO.ret ?_|((with_reducible refine And.intro ?sc ?_);case sc=>exact side)));exact h.out):p:=step ⟨hq⟩
theorem Qs {p q:Prop}(hq:q)(step:Hid q→p:=by intro h;(repeat((conv=>whnf);first|with_reducible refine Js ?_|with_reducible refine Jr ?_|with_reducible refine Jv ?_|with_reducible refine RO.exit ?_|with_reducible refine RO.ret ?_|((with_reducible refine And.intro ?sc ?_);case sc=>exact side)|((with_reducible refine T2 ?sc ?_);case sc=>exact MC)|((with_reducible refine Qg ?sc ?_);case sc=>exact MC)));exact h.out):p:=step ⟨hq⟩
theorem aI {a b:Prop}(h:a)(h2:b):a∧b:=⟨h,h2⟩
end Go.Proofs.Ytibadaomjlkoaaa
