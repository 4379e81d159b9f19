import Derived.Test.YtibadaomjlkoaaaAb21
import Derived.RangeFuncIn
set_option linter.unusedVariables false
set_option linter.unusedSimpArgs false
open Go.RowKit
namespace Go.Proofs.Ytibadaomjlkoaaa
theorem rE {ρ:Env}{M:AH}{w:World}(hs:aW ρ M w){i g l:Nat}{own:Bool}{st:LoopState}{pd:Option Code}{fn:FuncId}{n:Nat}{a:Nat→AV}{ps:Array Tmp}{as bd:Code}{df:Nat}
 (hi:M[i]?=some (.one own g (.loop l st pd fn n a ps as bd df))):ρ i g=some (some (l,0))∧∃tmps,w.heap[l]?=some (.loop {state:=st,pending:=pd,fn:=fn,tmps:=tmps,params:=ps,assign:=as,body:=bd,defers:=df})∧tmps.size=n∧∀t,(a t).ok ρ∧tmps.getD t undef=(a t).c ρ:=by
 rcases hs.holds i g own _ (ao hi)with⟨q,e1,e2⟩|⟨_,e2⟩
 ·rcases e2.all with⟨h0,_⟩|⟨_,hb,h1,tmps,h2⟩
  ·cases h0
  ·obtain⟨b,base⟩:=q
   simp only at hb h1 h2
   subst hb;subst h1
   exact⟨e1,tmps,h2⟩
 ·exact e2.elim
theorem vV {ρ:Env}{M:AH}{w:World}(hs:aW ρ M w){i g l:Nat}{st:LoopState}{pd:Option Code}{fn:FuncId}{n:Nat}{a:Nat→AV}{ps:Array Tmp}{as bd:Code}{df:Nat}
 (hi:M[i]?=some (.one true g (.loop l st pd fn n a ps as bd df))){tmps:Array Value}(ht:tmps.size=n∧∀t,(a t).ok ρ∧tmps.getD t undef=(a t).c ρ)(hl:l<w.heap.size)(Y8:LoopState)(Za:Option Code):
 aW ρ (M.set i (.one true g (.loop l Y8 Za fn n a ps as bd df))) (w.putObj l (.loop {state:=Y8,pending:=Za,fn:=fn,tmps:=tmps,params:=ps,assign:=as,body:=bd,defers:=df}))∧
 Ext ρ M w ρ (M.set i (.one true g (.loop l Y8 Za fn n a ps as bd df))) (w.putObj l (.loop {state:=Y8,pending:=Za,fn:=fn,tmps:=tmps,params:=ps,assign:=as,body:=bd,defers:=df})):=by
 obtain⟨h1,_⟩:=rE hs hi
 exact zT hs hi h1 (fun b hb=>World.putObj_heap_other hb) (by simp) rfl rfl rfl ⟨.inr ⟨rfl,rfl,rfl,tmps,World.putObj_heap_same hl,ht⟩⟩
def B6 (n:Nat):List Nat→List AV→AA→AA
 |p::ps,v::vs,a=>B6 n ps vs (S6 n p v a)
 |_,_,a=>a
theorem yw {ρ:Env}{n:Nat}:∀(ps:List Nat)(vs:List AV)(a:AA)(tmps:Array Value),AV.eb ρ vs→tmps.size=n→(∀t,(a t).ok ρ∧tmps.getD t undef=(a t).c ρ)→
 let QJ:=(ps.zip (AV.cl ρ vs)).foldl (fun t (x:Nat×Value)=>t.setIfInBounds x.1 x.2) tmps
 QJ.size=n∧∀t,(B6 n ps vs a t).ok ρ∧QJ.getD t undef=(B6 n ps vs a t).c ρ
 |[],vs,a,tmps,_,h1,h2=>by cases vs<;>exact⟨h1,h2⟩
 |p::ps,[],a,tmps,_,h1,h2=>⟨h1,h2⟩
 |p::ps,v::vs,a,tmps,aF,h1,h2=>by
  have ha:bQ ρ [] n a {tmps:=tmps,defers:=[]}:=⟨rfl,h1,fun t=>(h2 t).1,fun t=>(h2 t).2⟩
  have hb:=ha.put (some p) aF.1
  exact yw ps vs (S6 n p v a) (tmps.setIfInBounds p (v.c ρ)) aF.2 hb.size (fun t=>⟨hb.ok t,hb.get t⟩)
def B2 (i g l:Nat)(fn:FuncId)(n:Nat)(a0:Nat→AV)(ps:Array Tmp)(as bd:Code)(df:Nat)(K:AV→AH→Prop)(e:jr)(a:AA)(M:AH):Prop:=
 M[i]?=some (.one true g (.loop l .busy none fn n a0 ps as bd df))∧match e with
 | .normal=>K .tt (M.set i (.one true g (.loop l .ready none fn n a0 ps as bd df)))
 | .ret=>K .ff (M.set i (.one true g (.loop l .done (some .ret) fn n a0 ps as bd df)))
 | .exit id=>K .ff (M.set i (.one true g (.loop l .done (some (.exit id)) fn n a0 ps as bd df)))
def yp (x:Cx)(i g l:Nat)(fn:FuncId)(n:Nat)(a0:Nat→AV)(ps:Array Tmp)(as bd:Code)(df:Nat)(K:AV→AH→Prop)(e:jr)(a:AA)(M:AH):Prop:=
 match e with
 | .normal=>M[i]?=some (.one true g (.loop l .ready none fn n a0 ps as bd df))∧au x bd (B2 i g l fn n a0 ps as bd df K) (fun _ _=>False) a (M.set i (.one true g (.loop l .busy none fn n a0 ps as bd df)))
 |_=>False
theorem aS.round {x:Cx}(hT:av x.P x.T)(hm:x.P.follows .mixedOrders=true){i g l:Nat}(hr:x.r=some l){fn:FuncId}{a0:Nat→AV}{ps:Array Tmp}{as bd:Code}{df:Nat}(cg:(ai x.pl as&&ai x.pl bd)=true)
 {args:List AV}{M:AH}{K Kp:AV→AH→Prop}(hi:M[i]?=some (.one true g (.loop l .ready none fn x.n a0 ps as bd df)))(UW:ps.toList.length=args.length)
 (h:au x as (yp x i g l fn x.n a0 ps as bd df K) (fun _ _=>False) (B6 x.n ps.toList args a0) M):aS x.P l args M K Kp:=by
 simp only[Bool.and_eq_true]at cg
 unfold aS
 intro ρ w hs aF
 obtain⟨h1,tmps,h2,h3,h4⟩:=rE hs hi
 have fb:(AV.cl ρ args).toArray.size=ps.size:=by simp[AV.bc,←UW]
 have hy:=run_yield (P:=x.P) (args:=(AV.cl ρ args).toArray) h2 fb
 refine⟨_,_,_,_,hy,fun r=>?_⟩
 have WS:(ps.zip (AV.cl ρ args).toArray).foldl (fun tmps (t,a)=>tmps.setIfInBounds t a) tmps=(ps.toList.zip (AV.cl ρ args)).foldl (fun t (x:Nat×Value)=>t.setIfInBounds x.1 x.2) tmps:=by
  rw[←Array.foldl_toList];simp
 simp only[WS]
 obtain⟨p1,p2⟩:=yw (n:=x.n) ps.toList args a0 tmps aF h3 h4
 have xQ:bQ ρ [] x.n (B6 x.n ps.toList args a0) {tmps:=(ps.toList.zip (AV.cl ρ args)).foldl (fun t (x:Nat×Value)=>t.setIfInBounds x.1 x.2) tmps,defers:=[]}:=⟨rfl,p1,fun t=>(p2 t).1,fun t=>(p2 t).2⟩
 have hF:(FW r).inRound l=FW (some l):=rfl
 have h:=h
 rw[dU]at h
 have hwp:=mE hT hm as cg.1 _ _ _ M ρ w _ [] hs (Ext.refl ρ M w) (Marks.refl w.heap.size [] w) xQ h
 rw[hr]at hwp
 refine roundIn_of_wpIn trivial ?_
 rw[hF]
 have Z1:as.wpIn (FW (some l)) 0 x.P (fc ρ M w [] x.n (yp x i g l fn x.n a0 ps as bd df K) (fun _ _=>False)) {tmps:=(ps.toList.zip (AV.cl ρ args)).foldl (fun t (x:Nat×Value)=>t.setIfInBounds x.1 x.2) tmps,defers:=[]} w:=hwp
 refine wpIn_mono Z1 fun e pE w1 hq=>?_
 cases e with
 |normal=>
  obtain⟨ot,M1,a1,D1,s1,e1,m1,ac1,Vb,hb⟩:=hq
  obtain⟨k1,tm1,k2,k3,k4⟩:=rE s1 Vb
  have bh:l<w1.heap.size:=fC k2
  obtain⟨s2,e2⟩:=vV s1 Vb ⟨k3,k4⟩ bh .busy none
  refine⟨_,run_beginRound k2 rfl,?_⟩
  rw[dU]at hb
  have hwb:=mE hT hm bd cg.2 _ _ _ _ ot _ pE D1 s2 (e1.trans e2) (m1.mq s1 e2) ac1 hb
  rw[hr]at hwb
  have Z2:bd.wpIn (FW (some l)) 0 x.P (fc ρ M w [] x.n (B2 i g l fn x.n a0 ps as bd df K) (fun _ _=>False)) pE (w1.putObj l (.loop {state:=.busy,pending:=none,fn:=fn,tmps:=tm1,params:=ps,assign:=as,body:=bd,defers:=df})):=hwb
  refine wpIn_mono Z2 fun e lI w2 eW=>?_
  have fin:∀(e9:Env)(M2:AH),aW e9 M2 w2→Ext ρ M w e9 M2 w2→M2[i]?=some (.one true g (.loop l .busy none fn x.n a0 ps as bd df))→∀(jump:Option Code)(v:AV),v.c e9=.bool jump.isNone→v.ok e9→
   K v (M2.set i (.one true g (.loop l (if jump.isNone then .ready else .done) jump fn x.n a0 ps as bd df)))→∃v w',(Instr.endRound l jump).run x.P w2=.ok v w'∧jf ρ M w K Kp (.returned v) w':=by
   intro e9 M2 s3 e3 Rk jump v hv Wg hK
   obtain⟨j1,tm2,j2,j3,j4⟩:=rE s3 Rk
   obtain⟨s4,e4⟩:=vV s3 Rk ⟨j3,j4⟩ (fC j2) (if jump.isNone then .ready else .done) jump
   exact⟨_,_,run_endRound jump j2,e9,_,s4,e3.trans e4,v,hv.symm,Wg,hK⟩
  cases e with
  |normal=>obtain⟨e9,M2,a2,D2,s3,e3,_,_,Rk,hK⟩:=eW;exact fin e9 M2 s3 e3 Rk none .tt rfl trivial hK
  |ret=>obtain⟨e9,M2,a2,D2,s3,e3,_,_,Rk,hK⟩:=eW;exact fin e9 M2 s3 e3 Rk (some .ret) .ff rfl trivial hK
  |exit id=>obtain⟨e9,M2,a2,D2,s3,e3,_,_,Rk,hK⟩:=eW;exact fin e9 M2 s3 e3 Rk (some (.exit id)) .ff rfl trivial hK
  |goto t=>exact eW.elim
  |panic ch=>obtain⟨_,_,_,_,_,_,_,_,_,_,h0⟩:=eW;exact h0.elim
  |outgrown=>exact eW.elim
 |exit id=>obtain⟨_,_,_,_,_,_,_,_,h0⟩:=hq;exact h0.elim
 |ret=>obtain⟨_,_,_,_,_,_,_,_,h0⟩:=hq;exact h0.elim
 |goto t=>exact hq.elim
 |panic ch=>obtain⟨_,_,_,_,_,_,_,_,_,_,h0⟩:=hq;exact h0.elim
 |outgrown=>exact hq.elim
def KK (i g l:Nat)(fn:FuncId)(n:Nat)(a0:Nat→AV)(ps:Array Tmp)(as bd:Code)(df:Nat)(Q:jr→AH→Prop)(r:AV)(M:AH):Prop:=
 M[i]?=some (.one true g (.loop l .ready none fn n a0 ps as bd df))∧Q .normal (M.set i (.one true g (.loop l .exhausted none fn n a0 ps as bd df)))∨
 M[i]?=some (.one true g (.loop l .done (some .ret) fn n a0 ps as bd df))∧Q .ret (M.set i (.one true g (.loop l .exhausted (some .ret) fn n a0 ps as bd df)))∨
 ∃id,M[i]?=some (.one true g (.loop l .done (some (.exit id)) fn n a0 ps as bd df))∧Q (.exit id) (M.set i (.one true g (.loop l .exhausted (some (.exit id)) fn n a0 ps as bd df)))
theorem WO.range {x:Cx}{f:Operand}{ps:Array Tmp}{as bd:Code}{Q:jr→AA→AH→Prop}{Kp:AV→AH→Prop}{a:AA}{M:AH}(hr:x.r=none){gf:Nat}{cap:List AV}(hf:qL a f=.fn (.func gf) [] cap)(lv:List (Nat×AV))(hl:xV lv a)
 (h:∀l fn df d,aa x.P gf (.fn (.yield l) [] []::cap) (M++[.one true 0 (.loop l .ready none fn x.n (mN lv d) ps as bd df)])
  (KK M.length 0 l fn x.n (mN lv d) ps as bd df fun e M'=>Q e (mN lv d) M') Kp):
 WA x.P x.r x.D x.n (.rangeFunc f ps as bd) Q Kp a M:=by
 unfold WA
 intro pin D ρ w act nj _ hs hA
 obtain rfl:pin=[]:=by simpa[fm]using nj
 refine wpIn_mono (Q:=fc ρ M w D x.n Q Kp) ?_ fun e a w h=>⟨h,dH.nil _⟩
 rw[hr]
 refine wpIn_rangeFunc fun fn _=>?_
 obtain⟨W1,Rj⟩:∃W1,W1=(w.alloc (.deferred (some []))).alloc (.loop {state:=.ready,pending:=none,fn:=fn,tmps:=act.tmps,params:=ps,assign:=as,body:=bd,defers:=w.heap.size}):=⟨_,rfl⟩
 have fb:W1.heap.size=w.heap.size+2:=by rw[Rj];simp
 have hold:∀b,b<w.heap.size→W1.heap[b]?=w.heap[b]?:=fun b hb=>by
  rw[Rj,Below.heap_alloc _ _ b (by simp;omega),Below.heap_alloc _ _ b hb]
 have hD1:W1.heap[w.heap.size]?=some (.deferred (some [])):=by
  rw[Rj,Below.heap_alloc _ _ _ (by simp)];exact World.alloc_heap_new w _
 have hL1:W1.heap[w.heap.size+1]?=some (.loop {state:=.ready,pending:=none,fn:=fn,tmps:=act.tmps,params:=ps,assign:=as,body:=bd,defers:=w.heap.size}):=by
  rw[Rj];have:=World.alloc_heap_new (w.alloc (.deferred (some []))) (.loop {state:=.ready,pending:=none,fn:=fn,tmps:=act.tmps,params:=ps,assign:=as,body:=bd,defers:=w.heap.size});rwa[World.size_alloc]at this
 obtain⟨d,hd⟩:∃d:Nat→Value,d=fun t=>act.tmps.getD t undef:=⟨_,rfl⟩
 have y7:∀t,(mN lv d t).ok ρ∧act.tmps.getD t undef=(mN lv d t).c ρ:=by
  intro t
  simp only[mN]
  split
  ·rename_i v hv
   have he:=uP hl hv
   rw[←he];exact⟨hA.ok t,hA.get t⟩
  ·rw[hd];exact⟨trivial,rfl⟩
 have ku:(ρ M.length 0).isSome=false:=by
  cases hh:(ρ M.length 0).isSome with
  |false=>rfl
  |true=>exact absurd (hs.pr _ _ hh) (Nat.lt_irrefl _)
 have PN:=dI (l:=some (w.heap.size+1,0)) ku
 obtain⟨s1,e1⟩:=hJ (x:=.loop (w.heap.size+1) .ready none fn x.n (mN lv d) ps as bd w.heap.size) (l:=some (w.heap.size+1,0)) (w':=W1) hs hold (by omega) (by rw[Rj];rfl) (by rw[Rj];rfl) (by rw[Rj];rfl)
  (.inl ⟨w.heap.size+1,0,rfl,by omega,⟨.inr ⟨rfl,rfl,rfl,act.tmps,hL1,hA.size,fun t=>⟨AV.cW PN _ (y7 t).1,by rw[AV.dr PN _ (y7 t).1];exact(y7 t).2⟩⟩⟩⟩)
 have Dt:=(hA.ev f).1
 have y8:=(hA.ev f).2
 rw[hf]at Dt y8
 simp only[AV.ok]at y8
 have W3:=AV.hU PN cap y8.2
 have W4:=AV.kM PN cap y8.2
 have mS:=h (w.heap.size+1) fn w.heap.size d
 unfold aa at mS
 have W5:=mS.2 _ W1 s1 ⟨⟨trivial,trivial⟩,W3⟩
 have kz:(AV.cl (kO ρ M.length 0 (some (w.heap.size+1,0))) (.fn (.yield (w.heap.size+1)) [] []::cap)).toArray=#[Value.func (.yield (w.heap.size+1)) #[] #[]]++(AV.cl ρ cap).toArray:=by
  apply Array.toList_inj.1
  simp[AV.cl,AV.c,W4]
 rw[kz]at W5
 refine⟨w.heap.size+1,[{target:=.collected w.heap.size,args:=#[]}],W1,{target:=.fn (.func gf) (AV.cl ρ cap).toArray,args:=#[.func (.yield (w.heap.size+1)) #[] #[]]},W1,gf,
  #[.func (.yield (w.heap.size+1)) #[] #[]]++(AV.cl ρ cap).toArray,W1,?_,?_,fun _ _=>trivial,?_,fun h=>(by cases h),?_⟩
 ·rw[Rj];exact run_enterLoop_outer _ _ _ _ _
 ·simp only[resolve,Dt,AV.c,AV.cl]
  simp[Deferred.ofValue,Act.eval]
 ·simp only[invoke]
  exact ph mS.1 _ _
 ·refine CallsIn.mono (wW none 0 W5) fun en w3 Rf=>?_
  obtain⟨ρ',M',s2,e2,h3⟩:=Rf
  have lM:Marks w.heap.size D ({target:=.collected w.heap.size,args:=#[]}::D) W1:=⟨[w.heap.size],rfl,by simp,fun r hr=>by simp at hr;subst hr;exact⟨Nat.le_refl _,hD1⟩⟩
  have LO:=lM.mq s1 e2
  cases en with
  |returned v=>
   obtain⟨rv,_,_,hK⟩:=h3
   have fin:∀(st:LoopState)(pd:Option Code),st≠ .busy→M'[M.length]?=some (.one true 0 (.loop (w.heap.size+1) st pd fn x.n (mN lv d) ps as bd w.heap.size))→
    ∃w4,(Instr.endLoop (w.heap.size+1)).run x.P w3=.ok pd w4∧aW ρ' (M'.set M.length (.one true 0 (.loop (w.heap.size+1) .exhausted pd fn x.n (mN lv d) ps as bd w.heap.size))) w4∧
     Ext ρ M w ρ' (M'.set M.length (.one true 0 (.loop (w.heap.size+1) .exhausted pd fn x.n (mN lv d) ps as bd w.heap.size))) w4∧Marks w.heap.size D ({target:=.collected w.heap.size,args:=#[]}::D) w4∧
     bQ ρ' ({target:=.collected w.heap.size,args:=#[]}::D) x.n (mN lv d) {act with defers:=[{target:=.collected w.heap.size,args:=#[]}]++act.defers}:=by
    intro st pd a8 xR
    obtain⟨k1,tm,k2,k3,k4⟩:=rE s2 xR
    have aN:=run_endLoop (P:=x.P) k2 a8
    obtain⟨s5,e5⟩:=vV s2 xR ⟨k3,k4⟩ (fC k2) .exhausted pd
    refine⟨_,aN,s5,(e1.trans e2).trans e5,LO.mq s2 e5,?_,hA.size,fun t=>?_,fun t=>?_⟩
    ·show[_]++act.defers=_::D
     rw[hA.defers];rfl
    ·exact AV.cW (e1.trans e2).env _ (y7 t).1
    ·rw[AV.dr (e1.trans e2).env _ (y7 t).1];exact(y7 t).2
   rcases hK with⟨xR,hQ⟩|⟨xR,hQ⟩|⟨id,xR,hQ⟩
   ·obtain⟨w4,r1,r2,r3,r4,r5⟩:=fin .ready none (by simp) xR
    exact⟨none,w4,r1,ρ',_,_,_,r2,r3,r4,r5,hQ⟩
   ·obtain⟨w4,r1,r2,r3,r4,r5⟩:=fin .done (some .ret) (by simp) xR
    exact⟨some .ret,w4,r1,wpIn_ret ⟨ρ',_,_,_,r2,r3,r4,r5,hQ⟩⟩
   ·obtain⟨w4,r1,r2,r3,r4,r5⟩:=fin .done (some (.exit id)) (by simp) xR
    exact⟨some (.exit id),w4,r1,wpIn_exit ⟨ρ',_,_,_,r2,r3,r4,r5,hQ⟩⟩
  |panicked ch=>
   obtain⟨rv,h5,h6,h7⟩:=h3
   exact⟨ρ',M',rv,_,s2,e1.trans e2,LO,by show[_]++act.defers=_::D;rw[hA.defers];rfl,h5,h6,h7⟩
  |outgrown=>exact h3.elim
end Go.Proofs.Ytibadaomjlkoaaa
