import Derived.Test.YtibadaomjlkoaaaAb21
import Derived.RangeFuncIn
set_option linter.unusedVariables false
set_option linter.unusedSimpArgs false
open Go.RowKit
namespace Go.Proofs.Ytibadaomjlkoaaa
theorem pU {ρ:Env}{M:AH}{w:World}(hs:aR ρ M w){i g l:Nat}{own:Bool}{st:LoopState}{pd:Option Code}{fn:FuncId}{n:Nat}{a:Nat→AV}{ps:Array Tmp}{as bd:Code}{df:Nat}
 (hi:M[i]?=some (.one own g (.loop l st pd fn n a ps as bd df))):ρ i g=some (some (l,0))∧∃tmps,w.heap[l]?=some (.loop {state:=st,pending:=pd,fn:=fn,tmps:=tmps,params:=ps,assign:=as,body:=bd,defers:=df})∧tmps.size=n∧∀t,(a t).ok ρ∧tmps.getD t undef=(a t).c ρ:=by
 rcases hs.holds i g own _ (ak hi)with⟨q,e1,e2⟩|⟨_,e2⟩
 ·rcases e2.all with⟨h0,_⟩|⟨_,hb,h1,tmps,h2⟩
  ·cases h0
  ·obtain⟨b,base⟩:=q
   simp only at hb h1 h2
   subst hb;subst h1
   exact⟨e1,tmps,h2⟩
 ·exact e2.elim
theorem tI {ρ:Env}{M:AH}{w:World}(hs:aR ρ M w){i g l:Nat}{st:LoopState}{pd:Option Code}{fn:FuncId}{n:Nat}{a:Nat→AV}{ps:Array Tmp}{as bd:Code}{df:Nat}
 (hi:M[i]?=some (.one true g (.loop l st pd fn n a ps as bd df))){tmps:Array Value}(ht:tmps.size=n∧∀t,(a t).ok ρ∧tmps.getD t undef=(a t).c ρ)(hl:l<w.heap.size)(UA:LoopState)(UC:Option Code):
 aR ρ (M.set i (.one true g (.loop l UA UC fn n a ps as bd df))) (w.putObj l (.loop {state:=UA,pending:=UC,fn:=fn,tmps:=tmps,params:=ps,assign:=as,body:=bd,defers:=df}))∧
 Ext ρ M w ρ (M.set i (.one true g (.loop l UA UC fn n a ps as bd df))) (w.putObj l (.loop {state:=UA,pending:=UC,fn:=fn,tmps:=tmps,params:=ps,assign:=as,body:=bd,defers:=df})):=by
 obtain⟨h1,_⟩:=pU hs hi
 exact xM hs hi h1 (fun b hb=>World.putObj_heap_other hb) (by simp) rfl rfl rfl ⟨.inr ⟨rfl,rfl,rfl,tmps,World.putObj_heap_same hl,ht⟩⟩
def zO (n:Nat):List Nat→List AV→AA→AA
 |p::ps,v::vs,a=>zO n ps vs (O7 n p v a)
 |_,_,a=>a
theorem wg {ρ:Env}{n:Nat}:∀(ps:List Nat)(vs:List AV)(a:AA)(tmps:Array Value),AV.dE ρ vs→tmps.size=n→(∀t,(a t).ok ρ∧tmps.getD t undef=(a t).c ρ)→
 let M9:=(ps.zip (AV.cl ρ vs)).foldl (fun t (x:Nat×Value)=>t.setIfInBounds x.1 x.2) tmps
 M9.size=n∧∀t,(zO n ps vs a t).ok ρ∧M9.getD t undef=(zO n ps vs a t).c ρ
 |[],vs,a,tmps,_,h1,h2=>by cases vs<;>exact⟨h1,h2⟩
 |p::ps,[],a,tmps,_,h1,h2=>⟨h1,h2⟩
 |p::ps,v::vs,a,tmps,aA,h1,h2=>by
  have ha:bt ρ [] n a {tmps:=tmps,defers:=[]}:=⟨rfl,h1,fun t=>(h2 t).1,fun t=>(h2 t).2⟩
  have hb:=ha.put (some p) aA.1
  exact wg ps vs (O7 n p v a) (tmps.setIfInBounds p (v.c ρ)) aA.2 hb.size (fun t=>⟨hb.ok t,hb.get t⟩)
def zK (i g l:Nat)(fn:FuncId)(n:Nat)(a0:Nat→AV)(ps:Array Tmp)(as bd:Code)(df:Nat)(K:AV→AH→Prop)(e:iZ)(a:AA)(M:AH):Prop:=
 M[i]?=some (.one true g (.loop l .busy none fn n a0 ps as bd df))∧match e with
 | .normal=>K .tt (M.set i (.one true g (.loop l .ready none fn n a0 ps as bd df)))
 | .ret=>K .ff (M.set i (.one true g (.loop l .done (some .ret) fn n a0 ps as bd df)))
 | .exit id=>K .ff (M.set i (.one true g (.loop l .done (some (.exit id)) fn n a0 ps as bd df)))
def wa (x:Cx)(i g l:Nat)(fn:FuncId)(n:Nat)(a0:Nat→AV)(ps:Array Tmp)(as bd:Code)(df:Nat)(K:AV→AH→Prop)(e:iZ)(a:AA)(M:AH):Prop:=
 match e with
 | .normal=>M[i]?=some (.one true g (.loop l .ready none fn n a0 ps as bd df))∧ax x bd (zK i g l fn n a0 ps as bd df K) (fun _ _=>False) a (M.set i (.one true g (.loop l .busy none fn n a0 ps as bd df)))
 |_=>False
theorem aK.round {x:Cx}(hT:ao x.P x.T)(hm:x.P.follows .mixedOrders=true){i g l:Nat}(hr:x.r=some l){fn:FuncId}{a0:Nat→AV}{ps:Array Tmp}{as bd:Code}{df:Nat}(bR:(aj x.pl as&&aj x.pl bd)=true)
 {args:List AV}{M:AH}{K Kp:AV→AH→Prop}(hi:M[i]?=some (.one true g (.loop l .ready none fn x.n a0 ps as bd df)))(QU:ps.toList.length=args.length)
 (h:ax x as (wa x i g l fn x.n a0 ps as bd df K) (fun _ _=>False) (zO x.n ps.toList args a0) M):aK x.P l args M K Kp:=by
 simp only[Bool.and_eq_true]at bR
 unfold aK
 intro ρ w hs aA
 obtain⟨h1,tmps,h2,h3,h4⟩:=pU hs hi
 have ep:(AV.cl ρ args).toArray.size=ps.size:=by simp[AV.aW,←QU]
 have hy:=run_yield (P:=x.P) (args:=(AV.cl ρ args).toArray) h2 ep
 refine⟨_,_,_,_,hy,fun r=>?_⟩
 have SL:(ps.zip (AV.cl ρ args).toArray).foldl (fun tmps (t,a)=>tmps.setIfInBounds t a) tmps=(ps.toList.zip (AV.cl ρ args)).foldl (fun t (x:Nat×Value)=>t.setIfInBounds x.1 x.2) tmps:=by
  rw[←Array.foldl_toList];simp
 simp only[SL]
 obtain⟨p1,p2⟩:=wg (n:=x.n) ps.toList args a0 tmps aA h3 h4
 have vz:bt ρ [] x.n (zO x.n ps.toList args a0) {tmps:=(ps.toList.zip (AV.cl ρ args)).foldl (fun t (x:Nat×Value)=>t.setIfInBounds x.1 x.2) tmps,defers:=[]}:=⟨rfl,p1,fun t=>(p2 t).1,fun t=>(p2 t).2⟩
 have hF:(FW r).inRound l=FW (some l):=rfl
 have h:=h
 rw[dx]at h
 have XC:=lh hT hm as bR.1 _ _ _ M ρ w _ [] hs (Ext.refl ρ M w) (Marks.refl w.heap.size [] w) vz h
 rw[hr]at XC
 refine roundIn_of_wpIn trivial ?_
 rw[hF]
 have Vt:as.wpIn (FW (some l)) 0 x.P (er ρ M w [] x.n (wa x i g l fn x.n a0 ps as bd df K) (fun _ _=>False)) {tmps:=(ps.toList.zip (AV.cl ρ args)).foldl (fun t (x:Nat×Value)=>t.setIfInBounds x.1 x.2) tmps,defers:=[]} w:=XC
 refine wpIn_mono Vt fun e nS w1 hq=>?_
 cases e with
 |normal=>
  obtain⟨mR,M1,a1,D1,s1,e1,m1,Z0,Ra,hb⟩:=hq
  obtain⟨k1,Yu,k2,k3,k4⟩:=pU s1 Ra
  have a8:l<w1.heap.size:=eS k2
  obtain⟨s2,e2⟩:=tI s1 Ra ⟨k3,k4⟩ a8 .busy none
  refine⟨_,run_beginRound k2 rfl,?_⟩
  rw[dx]at hb
  have XD:=lh hT hm bd bR.2 _ _ _ _ mR _ nS D1 s2 (e1.trans e2) (m1.k7 s1 e2) Z0 hb
  rw[hr]at XD
  have Vu:bd.wpIn (FW (some l)) 0 x.P (er ρ M w [] x.n (zK i g l fn x.n a0 ps as bd df K) (fun _ _=>False)) nS (w1.putObj l (.loop {state:=.busy,pending:=none,fn:=fn,tmps:=Yu,params:=ps,assign:=as,body:=bd,defers:=df})):=XD
  refine wpIn_mono Vu fun e kq w2 eJ=>?_
  have fin:∀(ek:Env)(M2:AH),aR ek M2 w2→Ext ρ M w ek M2 w2→M2[i]?=some (.one true g (.loop l .busy none fn x.n a0 ps as bd df))→∀(jump:Option Code)(v:AV),v.c ek=.bool jump.isNone→v.ok ek→
   K v (M2.set i (.one true g (.loop l (if jump.isNone then .ready else .done) jump fn x.n a0 ps as bd df)))→∃v w',(Instr.endRound l jump).run x.P w2=.ok v w'∧gY ρ M w K Kp (.returned v) w':=by
   intro ek M2 s3 e3 NG jump v hv R6 hK
   obtain⟨j1,Z6,j2,j3,j4⟩:=pU s3 NG
   obtain⟨s4,e4⟩:=tI s3 NG ⟨j3,j4⟩ (eS j2) (if jump.isNone then .ready else .done) jump
   exact⟨_,_,run_endRound jump j2,ek,_,s4,e3.trans e4,v,hv.symm,R6,hK⟩
  cases e with
  |normal=>obtain⟨ek,M2,a2,D2,s3,e3,_,_,NG,hK⟩:=eJ;exact fin ek M2 s3 e3 NG none .tt rfl trivial hK
  |ret=>obtain⟨ek,M2,a2,D2,s3,e3,_,_,NG,hK⟩:=eJ;exact fin ek M2 s3 e3 NG (some .ret) .ff rfl trivial hK
  |exit id=>obtain⟨ek,M2,a2,D2,s3,e3,_,_,NG,hK⟩:=eJ;exact fin ek M2 s3 e3 NG (some (.exit id)) .ff rfl trivial hK
  |goto t=>exact eJ.elim
  |panic ch=>obtain⟨_,_,_,_,_,_,_,_,_,_,h0⟩:=eJ;exact h0.elim
  |outgrown=>exact eJ.elim
 |exit id=>obtain⟨_,_,_,_,_,_,_,_,h0⟩:=hq;exact h0.elim
 |ret=>obtain⟨_,_,_,_,_,_,_,_,h0⟩:=hq;exact h0.elim
 |goto t=>exact hq.elim
 |panic ch=>obtain⟨_,_,_,_,_,_,_,_,_,_,h0⟩:=hq;exact h0.elim
 |outgrown=>exact hq.elim
def HM (i g l:Nat)(fn:FuncId)(n:Nat)(a0:Nat→AV)(ps:Array Tmp)(as bd:Code)(df:Nat)(Q:iZ→AH→Prop)(r:AV)(M:AH):Prop:=
 M[i]?=some (.one true g (.loop l .ready none fn n a0 ps as bd df))∧Q .normal (M.set i (.one true g (.loop l .exhausted none fn n a0 ps as bd df)))∨
 M[i]?=some (.one true g (.loop l .done (some .ret) fn n a0 ps as bd df))∧Q .ret (M.set i (.one true g (.loop l .exhausted (some .ret) fn n a0 ps as bd df)))∨
 ∃id,M[i]?=some (.one true g (.loop l .done (some (.exit id)) fn n a0 ps as bd df))∧Q (.exit id) (M.set i (.one true g (.loop l .exhausted (some (.exit id)) fn n a0 ps as bd df)))
theorem WO.range {x:Cx}{f:Operand}{ps:Array Tmp}{as bd:Code}{Q:iZ→AA→AH→Prop}{Kp:AV→AH→Prop}{a:AA}{M:AH}(hr:x.r=none){gf:Nat}{cap:List AV}(hf:pc a f=.fn (.func gf) [] cap)(lv:List (Nat×AV))(hl:vE lv a)
 (h:∀l fn df d,aa x.P gf (.fn (.yield l) [] []::cap) (M++[.one true 0 (.loop l .ready none fn x.n (lz lv d) ps as bd df)])
  (HM M.length 0 l fn x.n (lz lv d) ps as bd df fun e M'=>Q e (lz lv d) M') Kp):
 WA x.P x.r x.D x.n (.rangeFunc f ps as bd) Q Kp a M:=by
 unfold WA
 intro pin D ρ w act lS _ hs hA
 obtain rfl:pin=[]:=by simpa[eG]using lS
 refine wpIn_mono (Q:=er ρ M w D x.n Q Kp) ?_ fun e a w h=>⟨h,dq.nil _⟩
 rw[hr]
 refine wpIn_rangeFunc fun fn _=>?_
 obtain⟨W1,NF⟩:∃W1,W1=(w.alloc (.deferred (some []))).alloc (.loop {state:=.ready,pending:=none,fn:=fn,tmps:=act.tmps,params:=ps,assign:=as,body:=bd,defers:=w.heap.size}):=⟨_,rfl⟩
 have ep:W1.heap.size=w.heap.size+2:=by rw[NF];simp
 have hold:∀b,b<w.heap.size→W1.heap[b]?=w.heap[b]?:=fun b hb=>by
  rw[NF,Below.heap_alloc _ _ b (by simp;omega),Below.heap_alloc _ _ b hb]
 have ZJ:W1.heap[w.heap.size]?=some (.deferred (some [])):=by
  rw[NF,Below.heap_alloc _ _ _ (by simp)];exact World.alloc_heap_new w _
 have ZF:W1.heap[w.heap.size+1]?=some (.loop {state:=.ready,pending:=none,fn:=fn,tmps:=act.tmps,params:=ps,assign:=as,body:=bd,defers:=w.heap.size}):=by
  rw[NF];have:=World.alloc_heap_new (w.alloc (.deferred (some []))) (.loop {state:=.ready,pending:=none,fn:=fn,tmps:=act.tmps,params:=ps,assign:=as,body:=bd,defers:=w.heap.size});rwa[World.size_alloc]at this
 obtain⟨d,hd⟩:∃d:Nat→Value,d=fun t=>act.tmps.getD t undef:=⟨_,rfl⟩
 have wR:∀t,(lz lv d t).ok ρ∧act.tmps.getD t undef=(lz lv d t).c ρ:=by
  intro t
  simp only[lz]
  split
  ·rename_i v hv
   have he:=sA hl hv
   rw[←he];exact⟨hA.ok t,hA.get t⟩
  ·rw[hd];exact⟨trivial,rfl⟩
 have jw:(ρ M.length 0).isSome=false:=by
  cases hh:(ρ M.length 0).isSome with
  |false=>rfl
  |true=>exact absurd (hs.nI _ _ hh) (Nat.lt_irrefl _)
 have L9:=dr (l:=some (w.heap.size+1,0)) jw
 obtain⟨s1,e1⟩:=fO (x:=.loop (w.heap.size+1) .ready none fn x.n (lz lv d) ps as bd w.heap.size) (l:=some (w.heap.size+1,0)) (w':=W1) hs hold (by omega) (by rw[NF];rfl) (by rw[NF];rfl) (by rw[NF];rfl)
  (.inl ⟨w.heap.size+1,0,rfl,by omega,⟨.inr ⟨rfl,rfl,rfl,act.tmps,ZF,hA.size,fun t=>⟨AV.cz L9 _ (wR t).1,by rw[AV.cX L9 _ (wR t).1];exact(wR t).2⟩⟩⟩⟩)
 have Bl:=(hA.ev f).1
 have wS:=(hA.ev f).2
 rw[hf]at Bl wS
 simp only[AV.ok]at wS
 have SU:=AV.fP L9 cap wS.2
 have SV:=AV.jL L9 cap wS.2
 have lE:=h (w.heap.size+1) fn w.heap.size d
 unfold aa at lE
 have SW:=lE.2 _ W1 s1 ⟨⟨trivial,trivial⟩,SU⟩
 have jy:(AV.cl (jM ρ M.length 0 (some (w.heap.size+1,0))) (.fn (.yield (w.heap.size+1)) [] []::cap)).toArray=#[Value.func (.yield (w.heap.size+1)) #[] #[]]++(AV.cl ρ cap).toArray:=by
  apply Array.toList_inj.1
  simp[AV.cl,AV.c,SV]
 rw[jy]at SW
 refine⟨w.heap.size+1,[{target:=.collected w.heap.size,args:=#[]}],W1,{target:=.fn (.func gf) (AV.cl ρ cap).toArray,args:=#[.func (.yield (w.heap.size+1)) #[] #[]]},W1,gf,
  #[.func (.yield (w.heap.size+1)) #[] #[]]++(AV.cl ρ cap).toArray,W1,?_,?_,fun _ _=>trivial,?_,fun h=>(by cases h),?_⟩
 ·rw[NF];exact run_enterLoop_outer _ _ _ _ _
 ·simp only[resolve,Bl,AV.c,AV.cl]
  simp[Deferred.ofValue,Act.eval]
 ·simp only[invoke]
  exact nD lE.1 _ _
 ·refine CallsIn.mono (uQ none 0 SW) fun en w3 NB=>?_
  obtain⟨ρ',M',s2,e2,h3⟩:=NB
  have ku:Marks w.heap.size D ({target:=.collected w.heap.size,args:=#[]}::D) W1:=⟨[w.heap.size],rfl,by simp,fun r hr=>by simp at hr;subst hr;exact⟨Nat.le_refl _,ZJ⟩⟩
  have IM:=ku.k7 s1 e2
  cases en with
  |returned v=>
   obtain⟨rv,_,_,hK⟩:=h3
   have fin:∀(st:LoopState)(pd:Option Code),st≠ .busy→M'[M.length]?=some (.one true 0 (.loop (w.heap.size+1) st pd fn x.n (lz lv d) ps as bd w.heap.size))→
    ∃w4,(Instr.endLoop (w.heap.size+1)).run x.P w3=.ok pd w4∧aR ρ' (M'.set M.length (.one true 0 (.loop (w.heap.size+1) .exhausted pd fn x.n (lz lv d) ps as bd w.heap.size))) w4∧
     Ext ρ M w ρ' (M'.set M.length (.one true 0 (.loop (w.heap.size+1) .exhausted pd fn x.n (lz lv d) ps as bd w.heap.size))) w4∧Marks w.heap.size D ({target:=.collected w.heap.size,args:=#[]}::D) w4∧
     bt ρ' ({target:=.collected w.heap.size,args:=#[]}::D) x.n (lz lv d) {act with defers:=[{target:=.collected w.heap.size,args:=#[]}]++act.defers}:=by
    intro st pd dB vA
    obtain⟨k1,tm,k2,k3,k4⟩:=pU s2 vA
    have aQ:=run_endLoop (P:=x.P) k2 dB
    obtain⟨s5,e5⟩:=tI s2 vA ⟨k3,k4⟩ (eS k2) .exhausted pd
    refine⟨_,aQ,s5,(e1.trans e2).trans e5,IM.k7 s2 e5,?_,hA.size,fun t=>?_,fun t=>?_⟩
    ·show[_]++act.defers=_::D
     rw[hA.defers];rfl
    ·exact AV.cz (e1.trans e2).env _ (wR t).1
    ·rw[AV.cX (e1.trans e2).env _ (wR t).1];exact(wR t).2
   rcases hK with⟨vA,hQ⟩|⟨vA,hQ⟩|⟨id,vA,hQ⟩
   ·obtain⟨w4,r1,r2,r3,r4,r5⟩:=fin .ready none (by simp) vA
    exact⟨none,w4,r1,ρ',_,_,_,r2,r3,r4,r5,hQ⟩
   ·obtain⟨w4,r1,r2,r3,r4,r5⟩:=fin .done (some .ret) (by simp) vA
    exact⟨some .ret,w4,r1,wpIn_ret ⟨ρ',_,_,_,r2,r3,r4,r5,hQ⟩⟩
   ·obtain⟨w4,r1,r2,r3,r4,r5⟩:=fin .done (some (.exit id)) (by simp) vA
    exact⟨some (.exit id),w4,r1,wpIn_exit ⟨ρ',_,_,_,r2,r3,r4,r5,hQ⟩⟩
  |panicked ch=>
   obtain⟨rv,h5,h6,h7⟩:=h3
   exact⟨ρ',M',rv,_,s2,e1.trans e2,IM,by show[_]++act.defers=_::D;rw[hA.defers];rfl,h5,h6,h7⟩
  |outgrown=>exact h3.elim
end Go.Proofs.Ytibadaomjlkoaaa
