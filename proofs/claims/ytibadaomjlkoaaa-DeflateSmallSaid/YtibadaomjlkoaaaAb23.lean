import Derived.Test.YtibadaomjlkoaaaAb21
import Derived.RangeFuncIn
set_option linter.unusedVariables false
set_option linter.unusedSimpArgs false
open Go.RowKit
namespace Go.Proofs.Ytibadaomjlkoaaa
theorem qj {ρ:Env}{M:AH}{w:World}(hs:aU ρ M w){i g l:Nat}{own:Bool}{st:LoopState}{pd:Option Code}{fn:FuncId}{n:Nat}{a:Nat→AV}{ps:Array Tmp}{as bd:Code}{df:Nat}
 (hi:M[i]?=some (.one own g (.loop l st pd fn n a ps as bd df))):ρ i g=some (some (l,0))∧∃tmps,w.heap[l]?=some (.loop {state:=st,pending:=pd,fn:=fn,tmps:=tmps,params:=ps,assign:=as,body:=bd,defers:=df})∧tmps.size=n∧∀t,(a t).ok ρ∧tmps.getD t undef=(a t).c ρ:=by
 rcases hs.holds i g own _ (ak hi)with⟨q,e1,e2⟩|⟨_,e2⟩
 ·rcases e2.all with⟨h0,_⟩|⟨_,hb,h1,tmps,h2⟩
  ·cases h0
  ·obtain⟨b,base⟩:=q
   simp only at hb h1 h2
   subst hb;subst h1
   exact⟨e1,tmps,h2⟩
 ·exact e2.elim
theorem uh {ρ:Env}{M:AH}{w:World}(hs:aU ρ M w){i g l:Nat}{st:LoopState}{pd:Option Code}{fn:FuncId}{n:Nat}{a:Nat→AV}{ps:Array Tmp}{as bd:Code}{df:Nat}
 (hi:M[i]?=some (.one true g (.loop l st pd fn n a ps as bd df))){tmps:Array Value}(ht:tmps.size=n∧∀t,(a t).ok ρ∧tmps.getD t undef=(a t).c ρ)(hl:l<w.heap.size)(VT:LoopState)(VW:Option Code):
 aU ρ (M.set i (.one true g (.loop l VT VW fn n a ps as bd df))) (w.putObj l (.loop {state:=VT,pending:=VW,fn:=fn,tmps:=tmps,params:=ps,assign:=as,body:=bd,defers:=df}))∧
 Ext ρ M w ρ (M.set i (.one true g (.loop l VT VW fn n a ps as bd df))) (w.putObj l (.loop {state:=VT,pending:=VW,fn:=fn,tmps:=tmps,params:=ps,assign:=as,body:=bd,defers:=df})):=by
 obtain⟨h1,_⟩:=qj hs hi
 exact x9 hs hi h1 (fun b hb=>World.putObj_heap_other hb) (by simp) rfl rfl rfl ⟨.inr ⟨rfl,rfl,rfl,tmps,World.putObj_heap_same hl,ht⟩⟩
def Ah (n:Nat):List Nat→List AV→AA→AA
 |p::ps,v::vs,a=>Ah n ps vs (Qj n p v a)
 |_,_,a=>a
theorem wH {ρ:Env}{n:Nat}:∀(ps:List Nat)(vs:List AV)(a:AA)(tmps:Array Value),AV.dK ρ vs→tmps.size=n→(∀t,(a t).ok ρ∧tmps.getD t undef=(a t).c ρ)→
 let Of:=(ps.zip (AV.cl ρ vs)).foldl (fun t (x:Nat×Value)=>t.setIfInBounds x.1 x.2) tmps
 Of.size=n∧∀t,(Ah n ps vs a t).ok ρ∧Of.getD t undef=(Ah n ps vs a t).c ρ
 |[],vs,a,tmps,_,h1,h2=>by cases vs<;>exact⟨h1,h2⟩
 |p::ps,[],a,tmps,_,h1,h2=>⟨h1,h2⟩
 |p::ps,v::vs,a,tmps,aA,h1,h2=>by
  have ha:bE ρ [] n a {tmps:=tmps,defers:=[]}:=⟨rfl,h1,fun t=>(h2 t).1,fun t=>(h2 t).2⟩
  have hb:=ha.put (some p) aA.1
  exact wH ps vs (Qj n p v a) (tmps.setIfInBounds p (v.c ρ)) aA.2 hb.size (fun t=>⟨hb.ok t,hb.get t⟩)
def Ad (i g l:Nat)(fn:FuncId)(n:Nat)(a0:Nat→AV)(ps:Array Tmp)(as bd:Code)(df:Nat)(K:AV→AH→Prop)(e:jm)(a:AA)(M:AH):Prop:=
 M[i]?=some (.one true g (.loop l .busy none fn n a0 ps as bd df))∧match e with
 | .normal=>K .tt (M.set i (.one true g (.loop l .ready none fn n a0 ps as bd df)))
 | .ret=>K .ff (M.set i (.one true g (.loop l .done (some .ret) fn n a0 ps as bd df)))
 | .exit id=>K .ff (M.set i (.one true g (.loop l .done (some (.exit id)) fn n a0 ps as bd df)))
def wD (x:Cx)(i g l:Nat)(fn:FuncId)(n:Nat)(a0:Nat→AV)(ps:Array Tmp)(as bd:Code)(df:Nat)(K:AV→AH→Prop)(e:jm)(a:AA)(M:AH):Prop:=
 match e with
 | .normal=>M[i]?=some (.one true g (.loop l .ready none fn n a0 ps as bd df))∧av x bd (Ad i g l fn n a0 ps as bd df K) (fun _ _=>False) a (M.set i (.one true g (.loop l .busy none fn n a0 ps as bd df)))
 |_=>False
theorem aN.round {x:Cx}(hT:aq x.P x.T)(hm:x.P.follows .mixedOrders=true){i g l:Nat}(hr:x.r=some l){fn:FuncId}{a0:Nat→AV}{ps:Array Tmp}{as bd:Code}{df:Nat}(bW:(aj x.pl as&&aj x.pl bd)=true)
 {args:List AV}{M:AH}{K Kp:AV→AH→Prop}(hi:M[i]?=some (.one true g (.loop l .ready none fn x.n a0 ps as bd df)))(Sa:ps.toList.length=args.length)
 (h:av x as (wD x i g l fn x.n a0 ps as bd df K) (fun _ _=>False) (Ah x.n ps.toList args a0) M):aN x.P l args M K Kp:=by
 simp only[Bool.and_eq_true]at bW
 unfold aN
 intro ρ w hs aA
 obtain⟨h1,tmps,h2,h3,h4⟩:=qj hs hi
 have eJ:(AV.cl ρ args).toArray.size=ps.size:=by simp[AV.aY,←Sa]
 have hy:=run_yield (P:=x.P) (args:=(AV.cl ρ args).toArray) h2 eJ
 refine⟨_,_,_,_,hy,fun r=>?_⟩
 have T0:(ps.zip (AV.cl ρ args).toArray).foldl (fun tmps (t,a)=>tmps.setIfInBounds t a) tmps=(ps.toList.zip (AV.cl ρ args)).foldl (fun t (x:Nat×Value)=>t.setIfInBounds x.1 x.2) tmps:=by
  rw[←Array.foldl_toList];simp
 simp only[T0]
 obtain⟨p1,p2⟩:=wH (n:=x.n) ps.toList args a0 tmps aA h3 h4
 have vV:bE ρ [] x.n (Ah x.n ps.toList args a0) {tmps:=(ps.toList.zip (AV.cl ρ args)).foldl (fun t (x:Nat×Value)=>t.setIfInBounds x.1 x.2) tmps,defers:=[]}:=⟨rfl,p1,fun t=>(p2 t).1,fun t=>(p2 t).2⟩
 have hF:(FW r).inRound l=FW (some l):=rfl
 have h:=h
 rw[dD]at h
 have YU:=lL hT hm as bW.1 _ _ _ M ρ w _ [] hs (Ext.refl ρ M w) (Marks.refl w.heap.size [] w) vV h
 rw[hr]at YU
 refine roundIn_of_wpIn trivial ?_
 rw[hF]
 have WR:as.wpIn (FW (some l)) 0 x.P (eK ρ M w [] x.n (wD x i g l fn x.n a0 ps as bd df K) (fun _ _=>False)) {tmps:=(ps.toList.zip (AV.cl ρ args)).foldl (fun t (x:Nat×Value)=>t.setIfInBounds x.1 x.2) tmps,defers:=[]} w:=YU
 refine wpIn_mono WR fun e oq w1 hq=>?_
 cases e with
 |normal=>
  obtain⟨nq,M1,a1,D1,s1,e1,m1,ac1,Sp,hb⟩:=hq
  obtain⟨k1,ZN,k2,k3,k4⟩:=qj s1 Sp
  have a9:l<w1.heap.size:=fc k2
  obtain⟨s2,e2⟩:=uh s1 Sp ⟨k3,k4⟩ a9 .busy none
  refine⟨_,run_beginRound k2 rfl,?_⟩
  rw[dD]at hb
  have YV:=lL hT hm bd bW.2 _ _ _ _ nq _ oq D1 s2 (e1.trans e2) (m1.lF s1 e2) ac1 hb
  rw[hr]at YV
  have WS:bd.wpIn (FW (some l)) 0 x.P (eK ρ M w [] x.n (Ad i g l fn x.n a0 ps as bd df K) (fun _ _=>False)) oq (w1.putObj l (.loop {state:=.busy,pending:=none,fn:=fn,tmps:=ZN,params:=ps,assign:=as,body:=bd,defers:=df})):=YV
  refine wpIn_mono WS fun e kM w2 cI=>?_
  have fin:∀(eH:Env)(M2:AH),aU eH M2 w2→Ext ρ M w eH M2 w2→M2[i]?=some (.one true g (.loop l .busy none fn x.n a0 ps as bd df))→∀(jump:Option Code)(v:AV),v.c eH=.bool jump.isNone→v.ok eH→
   K v (M2.set i (.one true g (.loop l (if jump.isNone then .ready else .done) jump fn x.n a0 ps as bd df)))→∃v w',(Instr.endRound l jump).run x.P w2=.ok v w'∧iq ρ M w K Kp (.returned v) w':=by
   intro eH M2 s3 e3 OM jump v hv Tj hK
   obtain⟨j1,tm2,j2,j3,j4⟩:=qj s3 OM
   obtain⟨s4,e4⟩:=uh s3 OM ⟨j3,j4⟩ (fc j2) (if jump.isNone then .ready else .done) jump
   exact⟨_,_,run_endRound jump j2,eH,_,s4,e3.trans e4,v,hv.symm,Tj,hK⟩
  cases e with
  |normal=>obtain⟨eH,M2,a2,D2,s3,e3,_,_,OM,hK⟩:=cI;exact fin eH M2 s3 e3 OM none .tt rfl trivial hK
  |ret=>obtain⟨eH,M2,a2,D2,s3,e3,_,_,OM,hK⟩:=cI;exact fin eH M2 s3 e3 OM (some .ret) .ff rfl trivial hK
  |exit id=>obtain⟨eH,M2,a2,D2,s3,e3,_,_,OM,hK⟩:=cI;exact fin eH M2 s3 e3 OM (some (.exit id)) .ff rfl trivial hK
  |goto t=>exact cI.elim
  |panic ch=>obtain⟨_,_,_,_,_,_,_,_,_,_,h0⟩:=cI;exact h0.elim
  |outgrown=>exact cI.elim
 |exit id=>obtain⟨_,_,_,_,_,_,_,_,h0⟩:=hq;exact h0.elim
 |ret=>obtain⟨_,_,_,_,_,_,_,_,h0⟩:=hq;exact h0.elim
 |goto t=>exact hq.elim
 |panic ch=>obtain⟨_,_,_,_,_,_,_,_,_,_,h0⟩:=hq;exact h0.elim
 |outgrown=>exact hq.elim
def IA (i g l:Nat)(fn:FuncId)(n:Nat)(a0:Nat→AV)(ps:Array Tmp)(as bd:Code)(df:Nat)(Q:jm→AH→Prop)(r:AV)(M:AH):Prop:=
 M[i]?=some (.one true g (.loop l .ready none fn n a0 ps as bd df))∧Q .normal (M.set i (.one true g (.loop l .exhausted none fn n a0 ps as bd df)))∨
 M[i]?=some (.one true g (.loop l .done (some .ret) fn n a0 ps as bd df))∧Q .ret (M.set i (.one true g (.loop l .exhausted (some .ret) fn n a0 ps as bd df)))∨
 ∃id,M[i]?=some (.one true g (.loop l .done (some (.exit id)) fn n a0 ps as bd df))∧Q (.exit id) (M.set i (.one true g (.loop l .exhausted (some (.exit id)) fn n a0 ps as bd df)))
theorem WO.range {x:Cx}{f:Operand}{ps:Array Tmp}{as bd:Code}{Q:jm→AA→AH→Prop}{Kp:AV→AH→Prop}{a:AA}{M:AH}(hr:x.r=none){gf:Nat}{cap:List AV}(hf:pH a f=.fn (.func gf) [] cap)(lv:List (Nat×AV))(hl:v3 lv a)
 (h:∀l fn df d,aa x.P gf (.fn (.yield l) [] []::cap) (M++[.one true 0 (.loop l .ready none fn x.n (lS lv d) ps as bd df)])
  (IA M.length 0 l fn x.n (lS lv d) ps as bd df fun e M'=>Q e (lS lv d) M') Kp):
 WA x.P x.r x.D x.n (.rangeFunc f ps as bd) Q Kp a M:=by
 unfold WA
 intro pin D ρ w act mj _ hs hA
 obtain rfl:pin=[]:=by simpa[eR]using mj
 refine wpIn_mono (Q:=eK ρ M w D x.n Q Kp) ?_ fun e a w h=>⟨h,dw.nil _⟩
 rw[hr]
 refine wpIn_rangeFunc fun fn _=>?_
 obtain⟨W1,OL⟩:∃W1,W1=(w.alloc (.deferred (some []))).alloc (.loop {state:=.ready,pending:=none,fn:=fn,tmps:=act.tmps,params:=ps,assign:=as,body:=bd,defers:=w.heap.size}):=⟨_,rfl⟩
 have eJ:W1.heap.size=w.heap.size+2:=by rw[OL];simp
 have hold:∀b,b<w.heap.size→W1.heap[b]?=w.heap[b]?:=fun b hb=>by
  rw[OL,Below.heap_alloc _ _ b (by simp;omega),Below.heap_alloc _ _ b hb]
 have hD1:W1.heap[w.heap.size]?=some (.deferred (some [])):=by
  rw[OL,Below.heap_alloc _ _ _ (by simp)];exact World.alloc_heap_new w _
 have hL1:W1.heap[w.heap.size+1]?=some (.loop {state:=.ready,pending:=none,fn:=fn,tmps:=act.tmps,params:=ps,assign:=as,body:=bd,defers:=w.heap.size}):=by
  rw[OL];have:=World.alloc_heap_new (w.alloc (.deferred (some []))) (.loop {state:=.ready,pending:=none,fn:=fn,tmps:=act.tmps,params:=ps,assign:=as,body:=bd,defers:=w.heap.size});rwa[World.size_alloc]at this
 obtain⟨d,hd⟩:∃d:Nat→Value,d=fun t=>act.tmps.getD t undef:=⟨_,rfl⟩
 have xn:∀t,(lS lv d t).ok ρ∧act.tmps.getD t undef=(lS lv d t).c ρ:=by
  intro t
  simp only[lS]
  split
  ·rename_i v hv
   have he:=sY hl hv
   rw[←he];exact⟨hA.ok t,hA.get t⟩
  ·rw[hd];exact⟨trivial,rfl⟩
 have jM:(ρ M.length 0).isSome=false:=by
  cases hh:(ρ M.length 0).isSome with
  |false=>rfl
  |true=>exact absurd (hs.n8 _ _ hh) (Nat.lt_irrefl _)
 have Nc:=dx (l:=some (w.heap.size+1,0)) jM
 obtain⟨s1,e1⟩:=gh (x:=.loop (w.heap.size+1) .ready none fn x.n (lS lv d) ps as bd w.heap.size) (l:=some (w.heap.size+1,0)) (w':=W1) hs hold (by omega) (by rw[OL];rfl) (by rw[OL];rfl) (by rw[OL];rfl)
  (.inl ⟨w.heap.size+1,0,rfl,by omega,⟨.inr ⟨rfl,rfl,rfl,act.tmps,hL1,hA.size,fun t=>⟨AV.cF Nc _ (xn t).1,by rw[AV.de Nc _ (xn t).1];exact(xn t).2⟩⟩⟩⟩)
 have BQ:=(hA.ev f).1
 have xp:=(hA.ev f).2
 rw[hf]at BQ xp
 simp only[AV.ok]at xp
 have T8:=AV.gm Nc cap xp.2
 have T9:=AV.j7 Nc cap xp.2
 have lZ:=h (w.heap.size+1) fn w.heap.size d
 unfold aa at lZ
 have Ua:=lZ.2 _ W1 s1 ⟨⟨trivial,trivial⟩,T8⟩
 have jO:(AV.cl (j8 ρ M.length 0 (some (w.heap.size+1,0))) (.fn (.yield (w.heap.size+1)) [] []::cap)).toArray=#[Value.func (.yield (w.heap.size+1)) #[] #[]]++(AV.cl ρ cap).toArray:=by
  apply Array.toList_inj.1
  simp[AV.cl,AV.c,T9]
 rw[jO]at Ua
 refine⟨w.heap.size+1,[{target:=.collected w.heap.size,args:=#[]}],W1,{target:=.fn (.func gf) (AV.cl ρ cap).toArray,args:=#[.func (.yield (w.heap.size+1)) #[] #[]]},W1,gf,
  #[.func (.yield (w.heap.size+1)) #[] #[]]++(AV.cl ρ cap).toArray,W1,?_,?_,fun _ _=>trivial,?_,fun h=>(by cases h),?_⟩
 ·rw[OL];exact run_enterLoop_outer _ _ _ _ _
 ·simp only[resolve,BQ,AV.c,AV.cl]
  simp[Deferred.ofValue,Act.eval]
 ·simp only[invoke]
  exact n4 lZ.1 _ _
 ·refine CallsIn.mono (ve none 0 Ua) fun en w3 OI=>?_
  obtain⟨ρ',M',s2,e2,h3⟩:=OI
  have kP:Marks w.heap.size D ({target:=.collected w.heap.size,args:=#[]}::D) W1:=⟨[w.heap.size],rfl,by simp,fun r hr=>by simp at hr;subst hr;exact⟨Nat.le_refl _,hD1⟩⟩
  have JB:=kP.lF s1 e2
  cases en with
  |returned v=>
   obtain⟨rv,_,_,hK⟩:=h3
   have fin:∀(st:LoopState)(pd:Option Code),st≠ .busy→M'[M.length]?=some (.one true 0 (.loop (w.heap.size+1) st pd fn x.n (lS lv d) ps as bd w.heap.size))→
    ∃w4,(Instr.endLoop (w.heap.size+1)).run x.P w3=.ok pd w4∧aU ρ' (M'.set M.length (.one true 0 (.loop (w.heap.size+1) .exhausted pd fn x.n (lS lv d) ps as bd w.heap.size))) w4∧
     Ext ρ M w ρ' (M'.set M.length (.one true 0 (.loop (w.heap.size+1) .exhausted pd fn x.n (lS lv d) ps as bd w.heap.size))) w4∧Marks w.heap.size D ({target:=.collected w.heap.size,args:=#[]}::D) w4∧
     bE ρ' ({target:=.collected w.heap.size,args:=#[]}::D) x.n (lS lv d) {act with defers:=[{target:=.collected w.heap.size,args:=#[]}]++act.defers}:=by
    intro st pd dI vW
    obtain⟨k1,tm,k2,k3,k4⟩:=qj s2 vW
    have aS:=run_endLoop (P:=x.P) k2 dI
    obtain⟨s5,e5⟩:=uh s2 vW ⟨k3,k4⟩ (fc k2) .exhausted pd
    refine⟨_,aS,s5,(e1.trans e2).trans e5,JB.lF s2 e5,?_,hA.size,fun t=>?_,fun t=>?_⟩
    ·show[_]++act.defers=_::D
     rw[hA.defers];rfl
    ·exact AV.cF (e1.trans e2).env _ (xn t).1
    ·rw[AV.de (e1.trans e2).env _ (xn t).1];exact(xn t).2
   rcases hK with⟨vW,hQ⟩|⟨vW,hQ⟩|⟨id,vW,hQ⟩
   ·obtain⟨w4,r1,r2,r3,r4,r5⟩:=fin .ready none (by simp) vW
    exact⟨none,w4,r1,ρ',_,_,_,r2,r3,r4,r5,hQ⟩
   ·obtain⟨w4,r1,r2,r3,r4,r5⟩:=fin .done (some .ret) (by simp) vW
    exact⟨some .ret,w4,r1,wpIn_ret ⟨ρ',_,_,_,r2,r3,r4,r5,hQ⟩⟩
   ·obtain⟨w4,r1,r2,r3,r4,r5⟩:=fin .done (some (.exit id)) (by simp) vW
    exact⟨some (.exit id),w4,r1,wpIn_exit ⟨ρ',_,_,_,r2,r3,r4,r5,hQ⟩⟩
  |panicked ch=>
   obtain⟨rv,h5,h6,h7⟩:=h3
   exact⟨ρ',M',rv,_,s2,e1.trans e2,JB,by show[_]++act.defers=_::D;rw[hA.defers];rfl,h5,h6,h7⟩
  |outgrown=>exact h3.elim
end Go.Proofs.Ytibadaomjlkoaaa
