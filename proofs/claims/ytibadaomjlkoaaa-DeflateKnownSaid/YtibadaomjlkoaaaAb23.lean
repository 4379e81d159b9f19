import Derived.Test.YtibadaomjlkoaaaAb21
import Derived.RangeFuncIn
set_option linter.unusedVariables false
set_option linter.unusedSimpArgs false
open Go.RowKit
namespace Go.Proofs.Ytibadaomjlkoaaa
theorem pK {ρ:Env}{M:AH}{w:World}(hs:aR ρ M w){i g l:Nat}{own:Bool}{st:LoopState}{pd:Option Code}{fn:FuncId}{n:Nat}{a:Nat→AV}{ps:Array Tmp}{as bd:Code}{df:Nat}
 (hi:M[i]?=some (.one own g (.loop l st pd fn n a ps as bd df))):ρ i g=some (some (l,0))∧∃tmps,w.heap[l]?=some (.loop {state:=st,pending:=pd,fn:=fn,tmps:=tmps,params:=ps,assign:=as,body:=bd,defers:=df})∧tmps.size=n∧∀t,(a t).ok ρ∧tmps.getD t undef=(a t).c ρ:=by
 rcases hs.holds i g own _ (ak hi)with⟨q,e1,e2⟩|⟨_,e2⟩
 ·rcases e2.all with⟨h0,_⟩|⟨_,hb,h1,tmps,h2⟩
  ·cases h0
  ·obtain⟨b,base⟩:=q
   simp only at hb h1 h2
   subst hb;subst h1
   exact⟨e1,tmps,h2⟩
 ·exact e2.elim
theorem tu {ρ:Env}{M:AH}{w:World}(hs:aR ρ M w){i g l:Nat}{st:LoopState}{pd:Option Code}{fn:FuncId}{n:Nat}{a:Nat→AV}{ps:Array Tmp}{as bd:Code}{df:Nat}
 (hi:M[i]?=some (.one true g (.loop l st pd fn n a ps as bd df))){tmps:Array Value}(ht:tmps.size=n∧∀t,(a t).ok ρ∧tmps.getD t undef=(a t).c ρ)(hl:l<w.heap.size)(Ub:LoopState)(Ud:Option Code):
 aR ρ (M.set i (.one true g (.loop l Ub Ud fn n a ps as bd df))) (w.putObj l (.loop {state:=Ub,pending:=Ud,fn:=fn,tmps:=tmps,params:=ps,assign:=as,body:=bd,defers:=df}))∧
 Ext ρ M w ρ (M.set i (.one true g (.loop l Ub Ud fn n a ps as bd df))) (w.putObj l (.loop {state:=Ub,pending:=Ud,fn:=fn,tmps:=tmps,params:=ps,assign:=as,body:=bd,defers:=df})):=by
 obtain⟨h1,_⟩:=pK hs hi
 exact xB hs hi h1 (fun b hb=>World.putObj_heap_other hb) (by simp) rfl rfl rfl ⟨.inr ⟨rfl,rfl,rfl,tmps,World.putObj_heap_same hl,ht⟩⟩
def zD (n:Nat):List Nat→List AV→AA→AA
 |p::ps,v::vs,a=>zD n ps vs (OG n p v a)
 |_,_,a=>a
theorem v5 {ρ:Env}{n:Nat}:∀(ps:List Nat)(vs:List AV)(a:AA)(tmps:Array Value),AV.dC ρ vs→tmps.size=n→(∀t,(a t).ok ρ∧tmps.getD t undef=(a t).c ρ)→
 let MD:=(ps.zip (AV.cl ρ vs)).foldl (fun t (x:Nat×Value)=>t.setIfInBounds x.1 x.2) tmps
 MD.size=n∧∀t,(zD n ps vs a t).ok ρ∧MD.getD t undef=(zD n ps vs a t).c ρ
 |[],vs,a,tmps,_,h1,h2=>by cases vs<;>exact⟨h1,h2⟩
 |p::ps,[],a,tmps,_,h1,h2=>⟨h1,h2⟩
 |p::ps,v::vs,a,tmps,aA,h1,h2=>by
  have ha:bs ρ [] n a {tmps:=tmps,defers:=[]}:=⟨rfl,h1,fun t=>(h2 t).1,fun t=>(h2 t).2⟩
  have hb:=ha.put (some p) aA.1
  exact v5 ps vs (OG n p v a) (tmps.setIfInBounds p (v.c ρ)) aA.2 hb.size (fun t=>⟨hb.ok t,hb.get t⟩)
def zz (i g l:Nat)(fn:FuncId)(n:Nat)(a0:Nat→AV)(ps:Array Tmp)(as bd:Code)(df:Nat)(K:AV→AH→Prop)(e:iT)(a:AA)(M:AH):Prop:=
 M[i]?=some (.one true g (.loop l .busy none fn n a0 ps as bd df))∧match e with
 | .normal=>K .tt (M.set i (.one true g (.loop l .ready none fn n a0 ps as bd df)))
 | .ret=>K .ff (M.set i (.one true g (.loop l .done (some .ret) fn n a0 ps as bd df)))
 | .exit id=>K .ff (M.set i (.one true g (.loop l .done (some (.exit id)) fn n a0 ps as bd df)))
def vX (x:Cx)(i g l:Nat)(fn:FuncId)(n:Nat)(a0:Nat→AV)(ps:Array Tmp)(as bd:Code)(df:Nat)(K:AV→AH→Prop)(e:iT)(a:AA)(M:AH):Prop:=
 match e with
 | .normal=>M[i]?=some (.one true g (.loop l .ready none fn n a0 ps as bd df))∧ax x bd (zz i g l fn n a0 ps as bd df K) (fun _ _=>False) a (M.set i (.one true g (.loop l .busy none fn n a0 ps as bd df)))
 |_=>False
theorem aL.round {x:Cx}(hT:ao x.P x.T)(hm:x.P.follows .mixedOrders=true){i g l:Nat}(hr:x.r=some l){fn:FuncId}{a0:Nat→AV}{ps:Array Tmp}{as bd:Code}{df:Nat}(bO:(aj x.pl as&&aj x.pl bd)=true)
 {args:List AV}{M:AH}{K Kp:AV→AH→Prop}(hi:M[i]?=some (.one true g (.loop l .ready none fn x.n a0 ps as bd df)))(Qu:ps.toList.length=args.length)
 (h:ax x as (vX x i g l fn x.n a0 ps as bd df K) (fun _ _=>False) (zD x.n ps.toList args a0) M):aL x.P l args M K Kp:=by
 simp only[Bool.and_eq_true]at bO
 unfold aL
 intro ρ w hs aA
 obtain⟨h1,tmps,h2,h3,h4⟩:=pK hs hi
 have er:(AV.cl ρ args).toArray.size=ps.size:=by simp[AV.aU,←Qu]
 have hy:=run_yield (P:=x.P) (args:=(AV.cl ρ args).toArray) h2 er
 refine⟨_,_,_,_,hy,fun r=>?_⟩
 have Sh:(ps.zip (AV.cl ρ args).toArray).foldl (fun tmps (t,a)=>tmps.setIfInBounds t a) tmps=(ps.toList.zip (AV.cl ρ args)).foldl (fun t (x:Nat×Value)=>t.setIfInBounds x.1 x.2) tmps:=by
  rw[←Array.foldl_toList];simp
 simp only[Sh]
 obtain⟨p1,p2⟩:=v5 (n:=x.n) ps.toList args a0 tmps aA h3 h4
 have vo:bs ρ [] x.n (zD x.n ps.toList args a0) {tmps:=(ps.toList.zip (AV.cl ρ args)).foldl (fun t (x:Nat×Value)=>t.setIfInBounds x.1 x.2) tmps,defers:=[]}:=⟨rfl,p1,fun t=>(p2 t).1,fun t=>(p2 t).2⟩
 have hF:(FW r).inRound l=FW (some l):=rfl
 have h:=h
 rw[dw]at h
 have Xc:=k7 hT hm as bO.1 _ _ _ M ρ w _ [] hs (Ext.refl ρ M w) (Marks.refl w.heap.size [] w) vo h
 rw[hr]at Xc
 refine roundIn_of_wpIn trivial ?_
 rw[hF]
 have U4:as.wpIn (FW (some l)) 0 x.P (ew ρ M w [] x.n (vX x i g l fn x.n a0 ps as bd df K) (fun _ _=>False)) {tmps:=(ps.toList.zip (AV.cl ρ args)).foldl (fun t (x:Nat×Value)=>t.setIfInBounds x.1 x.2) tmps,defers:=[]} w:=Xc
 refine wpIn_mono U4 fun e nG w1 hq=>?_
 cases e with
 |normal=>
  obtain⟨mH,M1,a1,D1,s1,e1,m1,ZD,QJ,hb⟩:=hq
  obtain⟨k1,X5,k2,k3,k4⟩:=pK s1 QJ
  have aZ:l<w1.heap.size:=eR k2
  obtain⟨s2,e2⟩:=tu s1 QJ ⟨k3,k4⟩ aZ .busy none
  refine⟨_,run_beginRound k2 rfl,?_⟩
  rw[dw]at hb
  have Xd:=k7 hT hm bd bO.2 _ _ _ _ mH _ nG D1 s2 (e1.trans e2) (m1.kV s1 e2) ZD hb
  rw[hr]at Xd
  have U5:bd.wpIn (FW (some l)) 0 x.P (ew ρ M w [] x.n (zz i g l fn x.n a0 ps as bd df K) (fun _ _=>False)) nG (w1.putObj l (.loop {state:=.busy,pending:=none,fn:=fn,tmps:=X5,params:=ps,assign:=as,body:=bd,defers:=df})):=Xd
  refine wpIn_mono U5 fun e km w2 eI=>?_
  have fin:∀(ek:Env)(M2:AH),aR ek M2 w2→Ext ρ M w ek M2 w2→M2[i]?=some (.one true g (.loop l .busy none fn x.n a0 ps as bd df))→∀(jump:Option Code)(v:AV),v.c ek=.bool jump.isNone→v.ok ek→
   K v (M2.set i (.one true g (.loop l (if jump.isNone then .ready else .done) jump fn x.n a0 ps as bd df)))→∃v w',(Instr.endRound l jump).run x.P w2=.ok v w'∧gV ρ M w K Kp (.returned v) w':=by
   intro ek M2 s3 e3 Nf jump v hv Ry hK
   obtain⟨j1,ZH,j2,j3,j4⟩:=pK s3 Nf
   obtain⟨s4,e4⟩:=tu s3 Nf ⟨j3,j4⟩ (eR j2) (if jump.isNone then .ready else .done) jump
   exact⟨_,_,run_endRound jump j2,ek,_,s4,e3.trans e4,v,hv.symm,Ry,hK⟩
  cases e with
  |normal=>obtain⟨ek,M2,a2,D2,s3,e3,_,_,Nf,hK⟩:=eI;exact fin ek M2 s3 e3 Nf none .tt rfl trivial hK
  |ret=>obtain⟨ek,M2,a2,D2,s3,e3,_,_,Nf,hK⟩:=eI;exact fin ek M2 s3 e3 Nf (some .ret) .ff rfl trivial hK
  |exit id=>obtain⟨ek,M2,a2,D2,s3,e3,_,_,Nf,hK⟩:=eI;exact fin ek M2 s3 e3 Nf (some (.exit id)) .ff rfl trivial hK
  |goto t=>exact eI.elim
  |panic ch=>obtain⟨_,_,_,_,_,_,_,_,_,_,h0⟩:=eI;exact h0.elim
  |outgrown=>exact eI.elim
 |exit id=>obtain⟨_,_,_,_,_,_,_,_,h0⟩:=hq;exact h0.elim
 |ret=>obtain⟨_,_,_,_,_,_,_,_,h0⟩:=hq;exact h0.elim
 |goto t=>exact hq.elim
 |panic ch=>obtain⟨_,_,_,_,_,_,_,_,_,_,h0⟩:=hq;exact h0.elim
 |outgrown=>exact hq.elim
def Hr (i g l:Nat)(fn:FuncId)(n:Nat)(a0:Nat→AV)(ps:Array Tmp)(as bd:Code)(df:Nat)(Q:iT→AH→Prop)(r:AV)(M:AH):Prop:=
 M[i]?=some (.one true g (.loop l .ready none fn n a0 ps as bd df))∧Q .normal (M.set i (.one true g (.loop l .exhausted none fn n a0 ps as bd df)))∨
 M[i]?=some (.one true g (.loop l .done (some .ret) fn n a0 ps as bd df))∧Q .ret (M.set i (.one true g (.loop l .exhausted (some .ret) fn n a0 ps as bd df)))∨
 ∃id,M[i]?=some (.one true g (.loop l .done (some (.exit id)) fn n a0 ps as bd df))∧Q (.exit id) (M.set i (.one true g (.loop l .exhausted (some (.exit id)) fn n a0 ps as bd df)))
theorem WO.range {x:Cx}{f:Operand}{ps:Array Tmp}{as bd:Code}{Q:iT→AA→AH→Prop}{Kp:AV→AH→Prop}{a:AA}{M:AH}(hr:x.r=none){gf:Nat}{cap:List AV}(hf:oV a f=.fn (.func gf) [] cap)(lv:List (Nat×AV))(hl:vw lv a)
 (h:∀l fn df d,aa x.P gf (.fn (.yield l) [] []::cap) (M++[.one true 0 (.loop l .ready none fn x.n (lj lv d) ps as bd df)])
  (Hr M.length 0 l fn x.n (lj lv d) ps as bd df fun e M'=>Q e (lj lv d) M') Kp):
 WA x.P x.r x.D x.n (.rangeFunc f ps as bd) Q Kp a M:=by
 unfold WA
 intro pin D ρ w act lL _ hs hA
 obtain rfl:pin=[]:=by simpa[eG]using lL
 refine wpIn_mono (Q:=ew ρ M w D x.n Q Kp) ?_ fun e a w h=>⟨h,dm.nil _⟩
 rw[hr]
 refine wpIn_rangeFunc fun fn _=>?_
 obtain⟨W1,Nd⟩:∃W1,W1=(w.alloc (.deferred (some []))).alloc (.loop {state:=.ready,pending:=none,fn:=fn,tmps:=act.tmps,params:=ps,assign:=as,body:=bd,defers:=w.heap.size}):=⟨_,rfl⟩
 have er:W1.heap.size=w.heap.size+2:=by rw[Nd];simp
 have hold:∀b,b<w.heap.size→W1.heap[b]?=w.heap[b]?:=fun b hb=>by
  rw[Nd,Below.heap_alloc _ _ b (by simp;omega),Below.heap_alloc _ _ b hb]
 have Zm:W1.heap[w.heap.size]?=some (.deferred (some [])):=by
  rw[Nd,Below.heap_alloc _ _ _ (by simp)];exact World.alloc_heap_new w _
 have Zi:W1.heap[w.heap.size+1]?=some (.loop {state:=.ready,pending:=none,fn:=fn,tmps:=act.tmps,params:=ps,assign:=as,body:=bd,defers:=w.heap.size}):=by
  rw[Nd];have:=World.alloc_heap_new (w.alloc (.deferred (some []))) (.loop {state:=.ready,pending:=none,fn:=fn,tmps:=act.tmps,params:=ps,assign:=as,body:=bd,defers:=w.heap.size});rwa[World.size_alloc]at this
 obtain⟨d,hd⟩:∃d:Nat→Value,d=fun t=>act.tmps.getD t undef:=⟨_,rfl⟩
 have wJ:∀t,(lj lv d t).ok ρ∧act.tmps.getD t undef=(lj lv d t).c ρ:=by
  intro t
  simp only[lj]
  split
  ·rename_i v hv
   have he:=si hl hv
   rw[←he];exact⟨hA.ok t,hA.get t⟩
  ·rw[hd];exact⟨trivial,rfl⟩
 have jq:(ρ M.length 0).isSome=false:=by
  cases hh:(ρ M.length 0).isSome with
  |false=>rfl
  |true=>exact absurd (hs.nw _ _ hh) (Nat.lt_irrefl _)
 have LG:=dp (l:=some (w.heap.size+1,0)) jq
 obtain⟨s1,e1⟩:=fN (x:=.loop (w.heap.size+1) .ready none fn x.n (lj lv d) ps as bd w.heap.size) (l:=some (w.heap.size+1,0)) (w':=W1) hs hold (by omega) (by rw[Nd];rfl) (by rw[Nd];rfl) (by rw[Nd];rfl)
  (.inl ⟨w.heap.size+1,0,rfl,by omega,⟨.inr ⟨rfl,rfl,rfl,act.tmps,Zi,hA.size,fun t=>⟨AV.cy LG _ (wJ t).1,by rw[AV.cW LG _ (wJ t).1];exact(wJ t).2⟩⟩⟩⟩)
 have A7:=(hA.ev f).1
 have wK:=(hA.ev f).2
 rw[hf]at A7 wK
 simp only[AV.ok]at wK
 have Sp:=AV.fO LG cap wK.2
 have Sq:=AV.jD LG cap wK.2
 have ly:=h (w.heap.size+1) fn w.heap.size d
 unfold aa at ly
 have Sr:=ly.2 _ W1 s1 ⟨⟨trivial,trivial⟩,Sp⟩
 have jW:(AV.cl (jE ρ M.length 0 (some (w.heap.size+1,0))) (.fn (.yield (w.heap.size+1)) [] []::cap)).toArray=#[Value.func (.yield (w.heap.size+1)) #[] #[]]++(AV.cl ρ cap).toArray:=by
  apply Array.toList_inj.1
  simp[AV.cl,AV.c,Sq]
 rw[jW]at Sr
 refine⟨w.heap.size+1,[{target:=.collected w.heap.size,args:=#[]}],W1,{target:=.fn (.func gf) (AV.cl ρ cap).toArray,args:=#[.func (.yield (w.heap.size+1)) #[] #[]]},W1,gf,
  #[.func (.yield (w.heap.size+1)) #[] #[]]++(AV.cl ρ cap).toArray,W1,?_,?_,fun _ _=>trivial,?_,fun h=>(by cases h),?_⟩
 ·rw[Nd];exact run_enterLoop_outer _ _ _ _ _
 ·simp only[resolve,A7,AV.c,AV.cl]
  simp[Deferred.ofValue,Act.eval]
 ·simp only[invoke]
  exact nr ly.1 _ _
 ·refine CallsIn.mono (uD none 0 Sr) fun en w3 Na=>?_
  obtain⟨ρ',M',s2,e2,h3⟩:=Na
  have kp:Marks w.heap.size D ({target:=.collected w.heap.size,args:=#[]}::D) W1:=⟨[w.heap.size],rfl,by simp,fun r hr=>by simp at hr;subst hr;exact⟨Nat.le_refl _,Zm⟩⟩
  have Ip:=kp.kV s1 e2
  cases en with
  |returned v=>
   obtain⟨rv,_,_,hK⟩:=h3
   have fin:∀(st:LoopState)(pd:Option Code),st≠ .busy→M'[M.length]?=some (.one true 0 (.loop (w.heap.size+1) st pd fn x.n (lj lv d) ps as bd w.heap.size))→
    ∃w4,(Instr.endLoop (w.heap.size+1)).run x.P w3=.ok pd w4∧aR ρ' (M'.set M.length (.one true 0 (.loop (w.heap.size+1) .exhausted pd fn x.n (lj lv d) ps as bd w.heap.size))) w4∧
     Ext ρ M w ρ' (M'.set M.length (.one true 0 (.loop (w.heap.size+1) .exhausted pd fn x.n (lj lv d) ps as bd w.heap.size))) w4∧Marks w.heap.size D ({target:=.collected w.heap.size,args:=#[]}::D) w4∧
     bs ρ' ({target:=.collected w.heap.size,args:=#[]}::D) x.n (lj lv d) {act with defers:=[{target:=.collected w.heap.size,args:=#[]}]++act.defers}:=by
    intro st pd dz vp
    obtain⟨k1,tm,k2,k3,k4⟩:=pK s2 vp
    have aQ:=run_endLoop (P:=x.P) k2 dz
    obtain⟨s5,e5⟩:=tu s2 vp ⟨k3,k4⟩ (eR k2) .exhausted pd
    refine⟨_,aQ,s5,(e1.trans e2).trans e5,Ip.kV s2 e5,?_,hA.size,fun t=>?_,fun t=>?_⟩
    ·show[_]++act.defers=_::D
     rw[hA.defers];rfl
    ·exact AV.cy (e1.trans e2).env _ (wJ t).1
    ·rw[AV.cW (e1.trans e2).env _ (wJ t).1];exact(wJ t).2
   rcases hK with⟨vp,hQ⟩|⟨vp,hQ⟩|⟨id,vp,hQ⟩
   ·obtain⟨w4,r1,r2,r3,r4,r5⟩:=fin .ready none (by simp) vp
    exact⟨none,w4,r1,ρ',_,_,_,r2,r3,r4,r5,hQ⟩
   ·obtain⟨w4,r1,r2,r3,r4,r5⟩:=fin .done (some .ret) (by simp) vp
    exact⟨some .ret,w4,r1,wpIn_ret ⟨ρ',_,_,_,r2,r3,r4,r5,hQ⟩⟩
   ·obtain⟨w4,r1,r2,r3,r4,r5⟩:=fin .done (some (.exit id)) (by simp) vp
    exact⟨some (.exit id),w4,r1,wpIn_exit ⟨ρ',_,_,_,r2,r3,r4,r5,hQ⟩⟩
  |panicked ch=>
   obtain⟨rv,h5,h6,h7⟩:=h3
   exact⟨ρ',M',rv,_,s2,e1.trans e2,Ip,by show[_]++act.defers=_::D;rw[hA.defers];rfl,h5,h6,h7⟩
  |outgrown=>exact h3.elim
end Go.Proofs.Ytibadaomjlkoaaa
