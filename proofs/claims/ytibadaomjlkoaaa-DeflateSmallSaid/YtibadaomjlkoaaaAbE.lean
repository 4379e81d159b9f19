import Derived.Test.YtibadaomjlkoaaaAbW
import Derived.RecoverIn
set_option linter.unusedVariables false
set_option linter.unusedSimpArgs false
open Go.RowKit
namespace Go.Proofs.Ytibadaomjlkoaaa
def I4 (ρ:Env)(v:Option AV)(u:FrameMode):Prop:=match v with
 |none=>u=.returning
 |some v=>u=.panicking [{v:=v.c ρ,recovered:=false}]∧v.ok ρ
def sg (P:Program)(g:Nat)(args:List AV)(M:AH)(v:Option AV)(K:AH→Prop):Prop:=
 oJ P g=true∧∀ρ w u,aU ρ M w→AV.dK ρ args→I4 ρ v u→
  CallsDIn (FW none) 0 P g (AV.cl ρ args).toArray u w fun e u' w'=>(∃x,e=.returned x)∧settle u'=.returning∧∃ρ' M',aU ρ' M' w'∧Ext ρ M w ρ' M' w'∧K M'
def Qh (v:Option AV):AV:=match v with
 |none=>.ni
 |some v=>v
def Ii:Op→Bool
 | .move _| .assign _| .typeAssert ..| .extract ..| .alloc _| .store ..| .load ..| .fieldAddr ..| .binOp ..=>true
 |_=>false
theorem EE {P:Program}{s:Sem Value}{w w':World}{x:Next}(h:(do pure (.value (←s)):Sem Next).run P w=.ok x w'):∃z,x=.value z:=by
 simp only[Sem.run_bind]at h
 cases hs:s.run P w with
 |ok a w1=>rw[hs]at h;simp at h;exact⟨a,h.1.symm⟩
 |halt a w1=>rw[hs]at h;simp at h
theorem zX {P:Program}{s:Sem Unit}{w w':World}{x:Next}(h:(do s;pure .skip:Sem Next).run P w=.ok x w'):x=.skip:=by
 simp only[Sem.run_bind]at h
 cases hs:s.run P w with
 |ok a w1=>rw[hs]at h;simp at h;exact h.1.symm
 |halt a w1=>rw[hs]at h;simp at h
theorem Ih {P:Program}{o:Oper}(hb:Ii o.op=true){f:Operand→Value}{w w':World}{x:Next}(h:(execOp f o).run P w=.ok x w'):(∃z,x=.value z)∨x=.skip:=by
 obtain⟨dst,op,ty,pos,after,guard⟩:=o
 cases op<;>simp only[Ii]at hb<;>first
  |(cases hb;done)
  |exact .inl (EE h)
  |exact .inr (zX h)
  |(simp only[execOp]at h;exact .inl (EE h))
  |(simp only[execOp]at h;exact .inr (zX h))
  |(simp[execOp]at h;exact .inl ⟨_,h.1.symm⟩)
def Iy (P:Program)(T:List TI)(n:Nat)(W:List Nat)(v:Option AV)(K:AA→AH→Prop):Bool→List Oper→AA→AH→Prop
 |_,[],a,M=>K a M
 |done,o::l,a,M=>match o.guard with
  |some _=>False
  |none=>match o.op with
   | .call ⟨.builtin .recover,args,_⟩=>match done,args.toList with
     |false,[]=>Iy P T n W v K true l (a.put n o.dst (Qh v)) M
     |_,_=>False
   |op=>bu (Ii op) (Hr P T (dp W o.dst) M (pH a) op (fun z M'=>Iy P T n W v K done l (a.put n o.dst z) M') (fun _ _=>False))
section
variable{P:Program}{T:List TI}
def Es (v:Option Value)(done:Bool)(c:Frame):Prop:=match v,done with
 |none,_=>c.mode=.returning
 |some v,false=>c.mode=.panicking [{v:=v,recovered:=false}]
 |some v,true=>c.mode=.panicking [{v:=v,recovered:=true}]
theorem lf (hT:aq P T){n:Nat}{W:List Nat}{ops:Array Oper}{v:Option AV}{vc:Option Value}{K:AA→AH→Prop}{D:List Deferred}{ρ0:Env}{M0:AH}{w0:World}{c0:Frame}{cs:List Frame}{Q:Exit→Act→List Frame→World→Prop}:
 ∀(l:List Oper)(k:Nat)(done:Bool)(a:AA)(M:AH)(ρ:Env)(w:World)(act:Act)(c:Frame),ops.toList.drop k=l→aU ρ M w→Ext ρ0 M0 w0 ρ M w→(Qh v).ok ρ→vc=v.map (AV.c ρ)→bE ρ D n a act→Es vc done c→(∃u,c={c0 with mode:=u})→Iy P T n W v K done l a M→
  (∀a' M' ρ' w' aJ c' oM,K a' M'→aU ρ' M' w'→Ext ρ0 M0 w0 ρ' M' w'→bE ρ' D n a' aJ→Es vc oM c'→(∃u,c'={c0 with mode:=u})→(oM=false→done=false∧∀o∈l,∀as iJ,o.op≠ .call ⟨.builtin .recover,as,iJ⟩)→Q .normal aJ (c'::cs) w')→
  wpOpsSIn (FW none) 0 P ops Q (List.range' k l.length) act (c::cs) w
 |[],k,done,a,M,ρ,w,act,c,_,hs,hE,_,_,ha,hb,hc,h,hK=>hK a M ρ w act c done h hs hE ha hb hc (fun hd=>⟨hd,fun o ho=>by cases ho⟩)
 |o::l,k,done,a,M,ρ,w,act,c,hl,hs,hE,hv,WV,ha,hb,hc,h,hK=>by
  have hi:ops[k]?=some o:=by
   have:=congrArg (fun l=>l[0]?) hl
   simpa using this
  have Rf:ops.toList.drop (k+1)=l:=by
   have:=congrArg List.tail hl
   simpa using this
  simp only[Iy]at h
  split at h
  ·exact h.elim
  ·rename_i hg
   rw[List.length_cons,List.range'_succ]
   simp only[wpOpsSIn,hi]
   refine⟨fun _ _=>trivial,?_⟩
   rw[if_pos (by unfold Region.wanted;rw[hg])]
   split at h
   ·rename_i args iJ sA
    split at h
    ·rename_i jO
     obtain rfl:args=#[]:=by apply Array.toList_inj.1;simpa using jO
     have aS:(execOp act.eval o).run P w=.ok .recover w:=by
      obtain⟨dst,op,ty,pos,after,guard⟩:=o
      simp only at sA
      subst sA
      simp[execOp,resolve,invoke,builtin]
     rw[aS]
     simp only
     cases v with
     |none=>
      obtain rfl:vc=none:=WV
      have hm:c.mode=.returning:=hb
      have uG:recoverD (c::cs)=none:=by simp[recoverD,hm]
      rw[uG]
      simp only
      exact lf hT l (k+1) true (a.put n o.dst .ni) M ρ w (act.put o.dst .nilIface) c Rf hs hE hv rfl (ha.put o.dst (v:=.ni) hv) hm hc h (fun a' M' ρ' w' aJ c' oM h1 h2 h3 h4 h5 h6 h7=>hK a' M' ρ' w' aJ c' oM h1 h2 h3 h4 h5 h6 (fun hd=>by have:=(h7 hd).1;cases this))
     |some z=>
      obtain rfl:vc=some (z.c ρ):=WV
      have hm:c.mode=.panicking [{v:=z.c ρ,recovered:=false}]:=hb
      have uG:recoverD (c::cs)=some (z.c ρ,{c with mode:=.panicking [{v:=z.c ρ,recovered:=true}]}::cs):=by simp[recoverD,hm]
      rw[uG]
      simp only
      obtain⟨u,rfl⟩:=hc
      exact lf hT l (k+1) true (a.put n o.dst z) M ρ w (act.put o.dst (z.c ρ)) _ Rf hs hE hv rfl (ha.put o.dst (v:=z) hv) rfl ⟨_,rfl⟩ h (fun a' M' ρ' w' aJ c' oM h1 h2 h3 h4 h5 h6 h7=>hK a' M' ρ' w' aJ c' oM h1 h2 h3 h4 h5 h6 (fun hd=>by have:=(h7 hd).1;cases this))
    ·exact h.elim
   ·rename_i hnr
    replace h:=ar h
    obtain⟨Z6,h⟩:=h
    have Nc:=uX (r:=none) (Q:=fun _ _ _=>False) (o:=o) hT hs ha.ev h (K':=fun aJ w'=>wpOpsSIn (FW none) 0 P ops Q (List.range' (k+1) l.length) aJ (c::cs) w')
     (fun rv M' ρ' w' g1 g2 g3 g4=>lf hT l (k+1) done (a.put n o.dst rv) M' ρ' w' (act.put o.dst (rv.c ρ')) c Rf g3 (hE.trans g4) (AV.cF g4.env _ hv)
      (by rw[WV];cases v with
       |none=>rfl
       |some z=>exact congrArg some (AV.de g4.env z hv).symm) ((ha.ext g4.env).put o.dst g2) hb hc g1 (fun a' lO gK vr aJ c' oM h1 h2 h3 h4 h5 h6 h7=>hK a' lO gK vr aJ c' oM h1 h2 h3 h4 h5 h6 (fun hd=>by
       obtain⟨p1,p2⟩:=h7 hd
       refine⟨p1,fun o' uH as iJ=>?_⟩
       rcases List.mem_cons.1 uH with rfl|uH
       ·intro e
        exact hnr _ _ e
       ·exact p2 o' uH as iJ)))
     (fun rv M' ρ' w' g1 _ _ _=>g1.elim)
    generalize sx:(execOp act.eval o).run P w=res at Nc
    cases res with
    |ok x w1=>
     rcases Ih Z6 sx with⟨z,rfl⟩|rfl
     ·exact Nc
     ·exact Nc
    |halt x w1=>cases x<;>exact Nc.elim
end
def mC:Code→Bool
 | .skip=>true
 | .ret=>true
 | .seq a b=>mC a&&mC b
 | .cond _ a b=>mC a&&mC b
 | .region _ _ _=>true
 |_=>false
def FY (ρ0:Env)(M0:AH)(w0:World)(D:List Deferred)(n:Nat)(Q:jm→AA→AH→Prop)(e:Exit)(act:Act)(w':World):Prop:=
 match e with
 | .normal=>∃ρ' M' a',aU ρ' M' w'∧Ext ρ0 M0 w0 ρ' M' w'∧bE ρ' D n a' act∧Q .normal a' M'
 | .ret=>∃ρ' M' a',aU ρ' M' w'∧Ext ρ0 M0 w0 ρ' M' w'∧bE ρ' D n a' act∧Q .ret a' M'
 |_=>False
theorem VI {x:Cx}(hT:aq x.P x.T)(hm:x.P.follows .mixedOrders=true){ρ0:Env}{M0:AH}{w0:World}{D:List Deferred}:
 ∀(c:Code)(_:mC c=true)(_:aj x.pl c=true)(Q:jm→AA→AH→Prop)(a:AA)(M:AH)(ρ:Env)(w:World)(act:Act),(∀id a M,¬Q (.exit id) a M)→aU ρ M w→Ext ρ0 M0 w0 ρ M w→bE ρ D x.n a act→bT x c Q (fun _ _=>False) a M→
  c.wpIn (FW x.r) 0 x.P (FY ρ0 M0 w0 D x.n Q) act w:=by
 intro c
 induction c with
 |skip=>exact fun _ _ Q a M ρ w act _ hs hE ha h=>wpIn_skip ⟨ρ,M,a,hs,hE,ha,h⟩
 |ret=>exact fun _ _ Q a M ρ w act _ hs hE ha h=>wpIn_ret ⟨ρ,M,a,hs,hE,ha,h⟩
 |seq c d M9 M8=>
  intro bW rj Q a M ρ w act hx hs hE ha h
  simp only[mC,Bool.and_eq_true]at bW
  simp only[aj,Bool.and_eq_true]at rj
  refine wpIn_seq (wpIn_mono (M9 bW.1 rj.1 (fun e a M=>match e with| .normal=>bT x d Q (fun _ _=>False) a M|e=>Q e a M) a M ρ w act (fun id a M h=>hx id a M h) hs hE ha h) fun e aJ w' hq=>?_)
  cases e with
  |normal=>obtain⟨ρ',M',a',h1,h2,h3,h4⟩:=hq;exact M8 bW.2 rj.2 Q a' M' ρ' w' aJ hx h1 h2 h3 h4
  |ret=>exact hq
  |exit id=>exact hq.elim
  |panic ch=>exact hq.elim
  |goto l=>exact hq.elim
  |outgrown=>exact hq.elim
 |cond o c d M9 M8=>
  intro bW rj Q a M ρ w act hx hs hE ha h
  simp only[mC,Bool.and_eq_true]at bW
  simp only[aj,Bool.and_eq_true]at rj
  have he:=(ha.ev o).1
  simp only[bT]at h
  split at h<;>rename_i hh<;>(try rw[hh]at he)
  ·exact wpIn_cond_true he (M9 bW.1 rj.1 Q a M ρ w act hx hs hE ha h)
  ·exact wpIn_cond_false he (M8 bW.2 rj.2 Q a M ρ w act hx hs hE ha h)
  ·exact wpIn_cond_split he (fun hb=>M9 bW.1 rj.1 Q a M ρ w act hx hs hE ha (h.1 hb)) (fun hb=>M8 bW.2 rj.2 Q a M ρ w act hx hs hE ha (h.2 hb))
  ·exact h.elim
 |region id ops draw=>
  intro bW rj Q a M ρ w act hx hs hE ha h
  simp only[bT]at h
  cases draw with
  |false=>
   refine wpIn_region ?_
   have:=oV (r:=x.r) (Q:=FY ρ0 M0 w0 D x.n Q) (ρ0:=ρ) (M0:=M) (w0:=w) hT ops.toList 0 a M ρ w act (by simp) hs (Ext.refl _ _ _) ha h
    (fun a' aJ M' ρ' w' h1 h2 h3 h4=>⟨ρ',M',a',h3,hE.trans h4,h2,h1⟩) (fun rv M' ρ' w' aJ h0 h1 h2 h3 h4=>h1.elim)
   rw[show List.range ops.size=List.range' 0 ops.toList.length by rw[List.range_eq_range',Array.length_toList]]
   exact this
  |true=>
   simp only at h
   split at h
   ·rename_i cr ds Q1
    simp only[aj,Q1,Bool.and_eq_true]at rj
    obtain⟨⟨vy,ig⟩,FC⟩:=rj
    obtain⟨B,hB⟩:∃B,x.B id=B:=⟨_,rfl⟩
    rw[hB]at h
    have hp:∀(i:Nat) o,ops[i]?=some o→cw o.op=true:=fun i o hi=>by
     exact Array.all_eq_true_iff_forall_mem.1 ig o (Array.mem_of_getElem? hi)
    have vS:aU ρ M {w with drawn:=w.drawn+1}:=⟨hs.n8,hs.tag,hs.bG,fun i g own y hy=>by
     rcases hs.holds i g own y hy with⟨q,h1,h2⟩|h1
     ·exact .inl ⟨q,h1,bO.ext (w:=w) (fun _ _ _ h=>h) rfl h2⟩
     ·exact .inr h1,hs.apart⟩
    have CR:Ext ρ0 M0 w0 ρ M {w with drawn:=w.drawn+1}:=⟨hE.env,hE.size,hE.frame,hE.fresh,hE.os,hE.tape,hE.output⟩
    cases cr with
    |nil=>
     refine wpIn_region_any hm (dC (S:=fun _=>True) (ds:=ds) hp _ _ _ _ ?_)
     exact rR (r:=x.r) (Q:=FY ρ0 M0 w0 D x.n Q) (w0:={w with drawn:=w.drawn+1}) hT vy vS ha h
      (fun a' aJ M' ρ' w' h1 h2 h3 h4=>⟨ρ',M',a',h3,CR.trans h4,h2,h1⟩)
    |cons p cr=>
    refine wpIn_region_any hm (dC (S:=SB ρ M B) (ds:=ds) hp _ _ _ _ ?_)
    exact bq (r:=x.r) (Q:=FY ρ0 M0 w0 D x.n Q) (ρ0:=ρ) (M0:=M) (w0:={w with drawn:=w.drawn+1}) hT hp
     (fun c aJ d v w' hq=>hq)
     (p::cr) [] _ ops.size a M ρ _ act (SB ρ M B) (Nat.le_trans (List.length_filter_le _ _) (by simpa using FC)) vy jl.none vS (Ext.refl _ _ _) ha (fun _=>SB.of vS B) (fun _ h=>h) (fun _ ρ' M' w' k1 k2 k3=>od (SB.of vS B) k1 k2 k3) h
     (fun a' aJ M' ρ' w' h1 h2 h3 h4=>⟨ρ',M',a',h3,CR.trans h4,h2,h1⟩) (fun rv M' ρ' w' aJ h0 h1 h2 h3 h4=>h1.elim)
   ·exact h.elim
 |_=>intro bW;cases bW
theorem sg.intro {x:Cx}(hT:aq x.P x.T)(hm:x.P.follows .mixedOrders=true){g:Nat}{fn:Func}{id:Nat}{ops:Array Oper}{rest:Code}(hf:x.P.funcs[g]?=some fn)(hb:fn.body=some (.seq (.region id ops false) rest))(hg:oJ x.P g=true)(V8:mC rest=true)(bW:aj x.pl rest=true)(hr:x.r=none)
 (sx:fn.results=#[])(uG:ops.toList.any (fun o=>match o.op with| .call ⟨.builtin .recover,_,_⟩=>true|_=>false)=true)
 {args:List AV}{M:AH}{v:Option AV}{K:AH→Prop}(hn:fn.ntmps=x.n)(hle:Nat.ble args.length x.n=true)
 (h:Iy x.P x.T x.n x.W v (fun a M=>av x rest (fun e _ M'=>match e with| .normal=>K M'| .ret=>K M'|_=>False) (fun _ _=>False) a M) false ops.toList (ao args) M):sg x.P g args M v K:=by
 refine⟨hg,fun ρ w u hs aA hu=>?_⟩
 have Rb:args.length≤x.n:=by simpa using hle
 have hlen:(AV.cl ρ args).toArray.size=args.length:=by simp[AV.aY]
 have ha:bE ρ [] x.n (ao args) {tmps:=(AV.cl ρ args).toArray++Array.replicate (fn.ntmps-(AV.cl ρ args).toArray.size) undef,defers:=[]}:=by
  refine⟨rfl,?_,fun t=>?_,fun t=>?_⟩
  ·rw[Array.size_append,Array.size_replicate,hlen,hn];omega
  ·simp only[ao];split
   ·exact(AV.aK ρ args).1 aA _ (List.mem_of_getElem? ‹_›)
   ·exact trivial
  ·simp only[ao,Array.getD_eq_getD_getElem?]
   by_cases ht:t<args.length
   ·rw[Array.getElem?_append_left (by rw[hlen];exact ht)]
    simp[AV.aY,List.getElem?_eq_getElem ht]
   ·rw[Array.getElem?_append_right (by rw[hlen];omega),List.getElem?_eq_none (by omega)]
    simp only[Array.getElem?_replicate]
    split<;>rfl
 have G1:(Qh v).ok ρ:=by
  cases v with
  |none=>exact trivial
  |some z=>exact hu.2
 refine callsDIn_of_wpSIn hf hb trivial fun c0 cs r7=>?_
 have KT:Es (v.map (AV.c ρ)) false c0:=by
  cases v with
  |none=>exact r7.trans hu
  |some z=>exact r7.trans hu.1
 refine wpSIn_seq (wpSIn_region ?_)
 have key:=lf (ops:=ops) (Q:=Exit.thenS (rest.wpSIn (FW none) 0 x.P (bodyPostS x.P fn c0 cs fun e u' w'=>(∃x,e=.returned x)∧settle u'=.returning∧∃ρ' M',aU ρ' M' w'∧Ext ρ M w ρ' M' w'∧K M')) (bodyPostS x.P fn c0 cs fun e u' w'=>(∃x,e=.returned x)∧settle u'=.returning∧∃ρ' M',aU ρ' M' w'∧Ext ρ M w ρ' M' w'∧K M')) (cs:=cs) (ρ0:=ρ) (M0:=M) (w0:=w) hT ops.toList 0 false (ao args) M ρ w _ c0 (by simp) hs (Ext.refl _ _ _) G1 rfl ha KT ⟨c0.mode,rfl⟩ h
  (fun a' M1 nq w1 aJ c' oM h1 gJ Uo h2 h3 h4 h5=>?_)
 ·rw[show List.range ops.size=List.range' 0 ops.toList.length by rw[List.range_eq_range',Array.length_toList]]
  exact key
 ·show rest.wpSIn (FW none) 0 x.P _ aJ (c'::cs) w1
  refine wpSIn_of_wpIn rfl ?_
  have hw:=VI (ρ0:=ρ) (M0:=M) (w0:=w) hT hm rest V8 bW (fun e _ M'=>match e with| .normal=>K M'| .ret=>K M'|_=>False) a' M1 nq w1 aJ (fun _ _ _ h=>h) gJ Uo h2 (by rw[dD]at h1;exact h1)
  rw[hr]at hw
  have CB:∃u',c'={c0 with mode:=u'}∧settle u'=.returning:=by
   obtain⟨u',rfl⟩:=h4
   refine⟨u',rfl,?_⟩
   cases v with
   |none=>
    have:u'=.returning:=h3
    rw[this];rfl
   |some z=>
    cases oM with
    |true=>
     have:u'=.panicking [{v:=z.c ρ,recovered:=true}]:=h3
     rw[this];rfl
    |false=>
     exfalso
     obtain⟨o,ho,Sc⟩:=List.any_eq_true.1 uG
     have:=(h5 rfl).2 o ho
     split at Sc
     ·rename_i as iJ sA;exact this _ _ sA
     ·cases Sc
  obtain⟨u',r8,CB⟩:=CB
  refine wpIn_mono hw fun e kM w2 hq=>?_
  have fin:∀{eH:Env}{M2:AH}{a2:AA},aU eH M2 w2→Ext ρ M w eH M2 w2→bE eH [] x.n a2 kM→K M2→kM.defers=[]∧∃YB,c'::cs={c0 with mode:=YB}::cs∧∃vv,(results fn kM.tmps).run x.P w2=.ok vv w2∧((∃y,Ending.returned vv=.returned y)∧settle YB=.returning∧∃ρ' M',aU ρ' M' w2∧Ext ρ M w ρ' M' w2∧K M'):=by
   intro eH M2 a2 g1 g2 g4 g6
   refine⟨g4.defers,u',by rw[r8],.tuple #[],?_,⟨_,rfl⟩,CB,eH,M2,g1,g2,g6⟩
   rw[iO,sx]
   simp
  cases e with
  |normal=>obtain⟨eH,M2,a2,g1,g2,g3,g4⟩:=hq;exact fin g1 g2 g3 g4
  |ret=>obtain⟨eH,M2,a2,g1,g2,g3,g4⟩:=hq;exact fin g1 g2 g3 g4
  |exit id=>exact hq.elim
  |panic ch=>exact hq.elim
  |goto l=>exact hq.elim
  |outgrown=>exact hq.elim
theorem oG {F:Fence}{n:Nat}{P:Program}{fn:Func}{tmps:Array Value}{R:Ending→World→Prop}{ρ0 ρ:Env}{M0 M:AH}{w0:World}{u:FrameMode}{ds:List Deferred}(hu:u≠ .run)
 (rk:∀w,aU ρ M w→Ext ρ0 M0 w0 ρ M w→LeavesInM F n P fn tmps R ds u w):∀(rs:List Nat)(w:World),rs.Nodup→(∀r∈rs,w0.heap.size≤r∧w.heap[r]?=some (.deferred (some [])))→aU ρ M w→Ext ρ0 M0 w0 ρ M w→
 LeavesInM F n P fn tmps R (rs.map (fun r=>{target:=.collected r,args:=#[]})++ds) u w
 |[],w,_,_,hs,hE=>rk w hs hE
 |r::rs,w,hn,h,hs,hE=>by
  obtain⟨h1,h2⟩:=h r List.mem_cons_self
  refine⟨hu,.inl ⟨r,_,rfl,run_takeDeferred h2,oG hu rk rs _ (List.nodup_cons.1 hn).2 (fun r' Fv=>⟨(h r' (List.mem_cons_of_mem _ Fv)).1,?_⟩) (zY hs h2 _) (A9 hE h1 _)⟩⟩
  rw[World.putObj_heap_other (fun e=>(List.nodup_cons.1 hn).1 (by rw[←e];exact Fv))]
  exact(h r' (List.mem_cons_of_mem _ Fv)).2
def zb:List ResultVar→Bool
 |[]=>true
 | .cell _ _::l=>zb l
 |_=>false
def BC:List ResultVar→List Nat
 |[]=>[]
 | .cell a _::l=>a::BC l
 | .tmp _::l=>BC l
theorem Ae {P:Program}{T:List TI}(hT:aq P T){M:AH}{a:AA}{ρ:Env}{w:World}{act:Act}(hs:aU ρ M w):
 ∀(l:List ResultVar)(K:List AV→Prop),zb l=true→(∀t∈BC l,act.tmps.getD t undef=(a t).c ρ)→yk T M a l K→∃vs,K vs∧AV.dK ρ vs∧(l.mapM (qP act.tmps)).run P w=Result.ok (AV.cl ρ vs) w
 |[],K,_,_,h=>⟨[],h,trivial,by simp[AV.cl]⟩
 | .tmp t::l,K,hc,_,h=>by cases hc
 | .cell ad t::l,K,hc,hp,h=>by
   obtain⟨v,h1,h2,h3⟩:=gz (P:=P) hT hs.known (hs.id _) h
   obtain⟨vs,k1,k2,k3⟩:=Ae hT hs l _ hc (fun t ht=>hp t (List.mem_cons_of_mem _ ht)) h1
   refine⟨v::vs,k1,⟨h2,k2⟩,?_⟩
   have h4:=h3 w (hs.id _)
   have aS:(qP act.tmps (.cell ad t)).run P w=Result.ok (v.c ρ) w:=by
    simp only[qP]
    rw[hp ad List.mem_cons_self]
    simp only[Instr.loadAt]at h4
    generalize(a ad).c ρ=u at h4
    cases u with
    |pointer o=>cases o with
     |none=>simp[Instr.sureAddr]at h4
     |some ad=>simpa[Instr.sureAddr,asAddr]using h4
    |_=>simp[Instr.sureAddr]at h4
   rw[List.mapM_cons]
   simp only[Sem.run_bind]
   rw[aS]
   simp[k3,AV.cl]
theorem tC {P:Program}{T:List TI}{r:Option Nat}{Q:Exit→Act→World→Prop}(hT:aq P T){n:Nat}{W:List Nat}{ops:Array Oper}{K:AA→AH→Prop}{D:List Deferred}{ρ0:Env}{M0:AH}{w0:World}:
 ∀(l tl:List Oper)(k:Nat)(a:AA)(M:AH)(ρ:Env)(w:World)(act:Act),ops.toList.drop k=l++tl→aU ρ M w→Ext ρ0 M0 w0 ρ M w→bE ρ D n a act→qI P T n W ops (fun _ _=>False) K l a M→
  (∀a' aJ M' ρ' w',K a' M'→bE ρ' D n a' aJ→aU ρ' M' w'→Ext ρ0 M0 w0 ρ' M' w'→wpOpsIn (FW r) 0 P ops Q (List.range' (k+l.length) tl.length) aJ w')→
  wpOpsIn (FW r) 0 P ops Q (List.range' k (l++tl).length) act w
 |[],tl,k,a,M,ρ,w,act,_,hs,hE,ha,h,hK=>hK a act M ρ w h ha hs hE
 |o::l,tl,k,a,M,ρ,w,act,hl,hs,hE,ha,h,hK=>by
  have hi:ops[k]?=some o:=by
   have:=congrArg (fun l=>l[0]?) hl
   simpa using this
  have Rf:ops.toList.drop (k+1)=l++tl:=by
   have:=congrArg List.tail hl
   simpa using this
  simp only[qI]at h
  have key:=dU (r:=r) (Q:=Q) (K':=wpOpsIn (FW r) 0 P ops Q (List.range' (k+1) (l++tl).length)) hT hs ha h
   (fun a' aJ M' ρ' w' h1 h2 h3 h4=>tC hT l tl (k+1) a' M' ρ' w' aJ Rf h3 (hE.trans h4) h2 h1 (fun Yz KB lO gK vr g1 g2 g3 g4=>by
    have:=hK Yz KB lO gK vr g1 g2 g3 g4
    rw[List.length_cons,show k+(l.length+1)=k+1+l.length by omega]at this
    exact this))
   (fun rv M' ρ' w' h1 h2 h3 h4=>h1.elim)
  rw[List.cons_append,List.length_cons,List.range'_succ]
  exact s7 hi key.1 key.2
def NU (P:Program)(T:List TI)(gd:Nat)(FN:List AV)(rs:List ResultVar)(a:AA)(K:AV→AH→Prop)(v:Option AV)(M:AH):Prop:=
 sg P gd FN M v fun M'=>yk T M' a rs fun vs=>match vs with
  |[z]=>K z M'
  |vs=>K (.aL vs) M'
def QD (P:Program)(T:List TI)(gd:Nat)(FN:List AV)(rs:List ResultVar)(a:AA)(K:AV→AH→Prop)(e:jm)(_:AA)(M:AH):Prop:=
 match e with
 | .normal=>NU P T gd FN rs a K none M
 | .ret=>NU P T gd FN rs a K none M
 |_=>False
def rz (x:Cx)(rs:List ResultVar)(rest:Code)(dst:Option Nat)(f:Operand)(as:List Operand)(K:AV→AH→Prop)(a:AA)(M:AH):Prop:=
 match pH a f with
 | .fn (.func gd) first cap=>av x rest (QD x.P x.T gd (first++as.map (pH a)++cap) rs (a.put x.n dst (.aL [])) K) (fun v M'=>NU x.P x.T gd (first++as.map (pH a)++cap) rs (a.put x.n dst (.aL [])) K (some v) M') (a.put x.n dst (.aL [])) M
 |_=>False
def S4 (ts:List Nat)(c:Code):Bool:=eR (ts.map fun t=>(t,undef)) c
theorem Cj {pin pin':Oc}(h:pin.map (·.1)=pin'.map (·.1)):∀c:Code,eR pin c=eR pin' c:=by
 have hd:∀d,qX pin d=qX pin' d:=by
  intro d
  have:∀p:Oc,qX p d=(p.map (·.1)).all fun t=>!(d==some t):=fun p=>by unfold qX;rw[List.all_map];rfl
  rw[this,this,h]
 intro c
 induction c with
 |region id ops d=>simp only[eR,hd]
 |seq a b h1 h2=>simp only[eR,h1,h2]
 |cond o a b h1 h2=>simp only[eR,h1,h2]
 |block id a h=>simp only[eR,h]
 |loop a h=>simp only[eR,h]
 |scope a h=>simp only[eR,h]
 |rangeFunc f ps a b=>
  simp only[eR]
  cases pin<;>cases pin'<;>simp_all
 |_=>rfl
theorem aa.QH {x:Cx}(hT:aq x.P x.T)(hm:x.P.follows .mixedOrders=true){g:Nat}{fn:Func}{c:Code}(hf:x.P.funcs[g]?=some fn)(hb:fn.body=some c)(hg:oJ x.P g=true)(bW:aj x.pl c=true)(hr:x.r=none)
 {args:List AV}{M:AH}{K Kp:AV→AH→Prop}(hn:fn.ntmps=x.n)(hle:Nat.ble args.length x.n=true)
 (k:Nat){id:Nat}{ops:Array Oper}{rest:Code}{l:List Oper}{o:Oper}{f:Operand}{as iJ}(Jq:kh k c=.seq (.region id ops false) rest)(Jy:ops.toList=l++[o])(sA:o.op=.defer ⟨.value f,as,iJ⟩)(Rl:o.guard=none)
 (Q0:aj x.pl rest=true)(fB:zb fn.results.toList=true)(pg:S4 (BC fn.results.toList) rest=true)
 (h:sq x (fun a M=>tE x ops (fun _ _=>False) (rz x fn.results.toList rest o.dst f as.toList K) l a M) (ax x.T fn.results.toList K) Kp k c (ao args) M):aa x.P g args M K Kp:=by
 unfold aa
 refine⟨hg,fun ρ w hs aA=>?_⟩
 have Rb:args.length≤x.n:=by simpa using hle
 have hlen:(AV.cl ρ args).toArray.size=args.length:=by simp[AV.aY]
 have ha:bE ρ [] x.n (ao args) {tmps:=(AV.cl ρ args).toArray++Array.replicate (fn.ntmps-(AV.cl ρ args).toArray.size) undef,defers:=[]}:=by
  refine⟨rfl,?_,fun t=>?_,fun t=>?_⟩
  ·rw[Array.size_append,Array.size_replicate,hlen,hn];omega
  ·simp only[ao];split
   ·exact(AV.aK ρ args).1 aA _ (List.mem_of_getElem? ‹_›)
   ·exact trivial
  ·simp only[ao,Array.getD_eq_getD_getElem?]
   by_cases ht:t<args.length
   ·rw[Array.getElem?_append_left (by rw[hlen];exact ht)]
    simp[AV.aY,List.getElem?_eq_getElem ht]
   ·rw[Array.getElem?_append_right (by rw[hlen];omega),List.getElem?_eq_none (by omega)]
    simp only[Array.getElem?_replicate]
    split<;>rfl
 have Ct:∀{e:Exit}{act:Act}{w':World},eK ρ M w [] x.n (ax x.T fn.results.toList K) Kp e act w'→bodyPostM Fence.wide 0 x.P fn (iq ρ M w K Kp) e act w':=by
  intro e act w' hq
  have fin:∀(ρ':Env)(M':AH)(a':AA)(D':List Deferred),aU ρ' M' w'→Ext ρ M w ρ' M' w'→Marks w.heap.size [] D' w'→bE ρ' D' x.n a' act→(yk x.T M' a' fn.results.toList fun vs=>match vs with|[v]=>K v M'|vs=>K (.aL vs) M')→
   LeavesInM Fence.wide 0 x.P fn act.tmps (iq ρ M w K Kp) act.defers .returning w':=by
   intro ρ' M' a' D' h1 h2 ⟨rs,CD,Fw,xu⟩ h3 h4
   rw[h3.defers,CD,List.append_nil]
   refine cX (by simp) (fun w2 g1 g2=>?_) rs w' Fw xu h1 h2
   obtain⟨vs,k1,k2,k3⟩:=iP hT g1 h3 _ _ h4
   have yQ:(fn.results.mapM (qP act.tmps)).run x.P w2=Result.ok (AV.cl ρ' vs).toArray w2:=by
    rw[Array.mapM_eq_mapM_toList]
    simp[k3]
   show∃v,(results fn act.tmps).run x.P w2=.ok v w2∧iq ρ M w K Kp (.returned v) w2
   rw[iO]
   simp only[Sem.run_bind,yQ]
   match vs,k1,k2 with
   |[v],k1,k2=>exact⟨v.c ρ',by simp[AV.cl],ρ',M',g1,g2,v,rfl,k2.1,k1⟩
   |[],k1,k2=>exact⟨(AV.aL []).c ρ',by simp[AV.cl,AV.c],ρ',M',g1,g2,.aL [],rfl,k2,k1⟩
   |v::u::vs,k1,k2=>exact⟨(AV.aL (v::u::vs)).c ρ',by simp[AV.cl,AV.c],ρ',M',g1,g2,.aL (v::u::vs),rfl,k2,k1⟩
  cases e with
  |normal=>obtain⟨ρ',M',a',D',h1,h2,hm,h3,h4⟩:=hq;exact fin ρ' M' a' D' h1 h2 hm h3 h4
  |ret=>obtain⟨ρ',M',a',D',h1,h2,hm,h3,h4⟩:=hq;exact fin ρ' M' a' D' h1 h2 hm h3 h4
  |exit id=>obtain⟨ρ',M',a',D',h1,h2,hm,h3,h4⟩:=hq;exact h4.elim
  |panic ch=>
   obtain⟨ρ',M',v,D',h1,h2,⟨rs,CD,Fw,xu⟩,h3,h4,h5,h6⟩:=hq
   show LeavesInM Fence.wide 0 x.P fn act.tmps (iq ρ M w K Kp) act.defers (.panicking ch) w'
   rw[h3,CD,List.append_nil]
   refine cX (F:=Fence.wide) (n:=0) (P:=x.P) (fn:=fn) (tmps:=act.tmps) (R:=iq ρ M w K Kp) (u:=.panicking ch) (by simp) (fun w2 g1 g2=>?_) rs w' Fw xu h1 h2
   show iq ρ M w K Kp (.panicked ch) w2
   exact⟨ρ',M',g1,g2,v,h4,h5,h6⟩
  |goto l=>exact hq.elim
  |outgrown=>exact hq.elim
 refine callsIn_wide.1 (callsIn_of_wp_marks (F:=Fence.wide) (n:=0) hf hb trivial ?_)
 have hFW:(FW x.r)=Fence.wide:=by rw[hr];rfl
 have key:∀(k:Nat)(c:Code)(a:AA)(M1:AH)(nq:Env)(w1:World)(oq:Act)(D1:List Deferred),kh k c=.seq (.region id ops false) rest→aj x.pl c=true→
  sq x (fun a M=>tE x ops (fun _ _=>False) (rz x fn.results.toList rest o.dst f as.toList K) l a M) (ax x.T fn.results.toList K) Kp k c a M1→
  aU nq M1 w1→Ext ρ M w nq M1 w1→Marks w.heap.size [] D1 w1→bE nq D1 x.n a oq→c.wpIn (FW x.r) 0 x.P (bodyPostM Fence.wide 0 x.P fn (iq ρ M w K Kp)) oq w1:=by
  intro k
  induction k with
  |succ k ih=>
   intro c a M1 nq w1 oq D1 ht hp h gJ Uo Sp NF
   cases c with
   |seq c d=>
    simp only[aj,Bool.and_eq_true]at hp
    have h':av x c (B6 (sq x (fun a M=>tE x ops (fun _ _=>False) (rz x fn.results.toList rest o.dst f as.toList K) l a M) (ax x.T fn.results.toList K) Kp k d) (ax x.T fn.results.toList K)) Kp a M1:=h
    rw[dD]at h'
    refine wpIn_seq (wpIn_mono (lL hT hm c hp.1 _ Kp a M1 nq w1 oq D1 gJ Uo Sp NF h') fun e aJ w' hq=>?_)
    cases e with
    |normal=>
     obtain⟨ρ',M',a',D',h1,h2,vW,h3,h4⟩:=hq
     exact ih d a' M' ρ' w' aJ D' ht hp.2 h4 h1 h2 vW h3
    |exit id=>exact Ct (e:=.exit id) hq
    |ret=>exact Ct (e:=.ret) hq
    |panic ch=>exact Ct (e:=.panic ch) hq
    |goto l=>exact hq.elim
    |outgrown=>exact hq.elim
   |_=>exact h.elim
  |zero=>
   intro c a M1 nq w1 oq D1 ht hp h gJ Uo Sp NF
   have Z3:c=.seq (.region id ops false) rest:=ht
   subst Z3
   have h':tE x ops (fun _ _=>False) (rz x fn.results.toList rest o.dst f as.toList K) l a M1:=h
   rw[p3]at h'
   refine wpIn_seq (wpIn_region ?_)
   rw[show List.range ops.size=List.range' 0 (l++[o]).length by rw[List.range_eq_range',←Jy,Array.length_toList]]
   refine tC (ρ0:=nq) (M0:=M1) (w0:=w1) hT l [o] 0 a M1 nq w1 oq (by rw[List.drop_zero,Jy]) gJ (Ext.refl _ _ _) NF h' fun a2 kM M2 eH w2 hd yS om Wo=>?_
   have hio:ops[0+l.length]?=some o:=by
    have:=congrArg (fun q=>q[l.length]?) Jy
    simpa using this
   unfold rz at hd
   split at hd
   ·rename_i gd first cap XH
    have BQ:=(yS.ev f).1
    have xp:=(yS.ev f).2
    rw[XH]at BQ xp
    simp only[AV.ok]at xp
    obtain⟨cm1,cm2⟩:=za yS.ev as.toList
    show wpOpsIn (FW x.r) 0 x.P ops _ [0+l.length] kM w2
    simp only[wpOpsIn,hio]
    rw[if_pos (by unfold Region.wanted;rw[Rl])]
    have aS:(o.semAt (FW x.r).round kM.eval).run x.P w2=.ok (.defer {target:=.fn (.func gd) (AV.cl eH cap).toArray,args:=(AV.cl eH first).toArray++as.map kM.eval}) w2:=by
     rw[hr]
     show(o.semAt none kM.eval).run x.P w2=_
     rw[Oper.semAt_none]
     obtain⟨dst,op,ty,pos,after,guard⟩:=o
     simp only at sA
     subst sA
     simp only[AV.c]at BQ
     simp[execOp,resolve,BQ,Deferred.ofValue]
    refine⟨fun _ _=>trivial,?_⟩
    rw[aS]
    obtain⟨Kz,OJ⟩:∃Kz,Kz=({kM with defers:={target:=.fn (.func gd) (AV.cl eH cap).toArray,args:=(AV.cl eH first).toArray++as.map kM.eval}::kM.defers}:Act).put o.dst undef:=⟨_,rfl⟩
    obtain⟨dd,XM⟩:∃dd:Deferred,dd={target:=.fn (.func gd) (AV.cl eH cap).toArray,args:=(AV.cl eH first).toArray++as.map kM.eval}:=⟨_,rfl⟩
    obtain⟨a3,Uc⟩:∃a3,a3=a2.put x.n o.dst (.aL []):=⟨_,rfl⟩
    obtain⟨da,T3⟩:∃da,da=first++as.toList.map (pH a2)++cap:=⟨_,rfl⟩
    rw[←Uc,←T3]at hd
    have ND:bE eH (dd::D1) x.n a3 Kz:=by
     have h0:bE eH (dd::D1) x.n a2 ({kM with defers:=dd::kM.defers}:Act):=⟨by show dd::kM.defers=_;rw[yS.defers],yS.size,yS.ok,yS.get⟩
     have:=h0.put o.dst (v:=.aL []) trivial
     rw[Uc,OJ,←XM]
     exact this
    have T2:AV.dK eH da:=by rw[T3];exact iU (iU xp.1 cm2) xp.2
    have hdc:(AV.cl eH da).toArray=(AV.cl eH first).toArray++as.map kM.eval++(AV.cl eH cap).toArray:=by
     apply Array.toList_inj.1
     rw[T3,fV,fV,←cm1]
     simp
    show rest.wpIn (FW x.r) 0 x.P (bodyPostM Fence.wide 0 x.P fn (iq ρ M w K Kp)) _ w2
    rw[←OJ]
    rw[dD]at hd
    have Tx:dw ((BC fn.results.toList).map fun t=>(t,(a3 t).c eH)) Kz:=by
     intro p hp
     obtain⟨t,_,rfl⟩:=List.mem_map.1 hp
     exact ND.get t
    have TD:eR ((BC fn.results.toList).map fun t=>(t,(a3 t).c eH)) rest=true:=by
     rw[Cj (pin':=(BC fn.results.toList).map fun t=>(t,undef)) (by simp[List.map_map,Function.comp_def])]
     exact pg
    refine wpIn_mono (fU hT hm rest Q0 _ _ a3 M2 eH w2 Kz (dd::D1) om (Ext.refl _ _ _) (Marks.refl _ _ _) ND TD Tx hd) fun e Ez w4 hq=>?_
    obtain⟨hq,Tw⟩:=hq
    have close:∀{v:Option AV}{KZ:Env}{M4:AH}{D4:List Deferred}{u:FrameMode},aU KZ M4 w4→Ext eH M2 w2 KZ M4 w4→Marks w2.heap.size (dd::D1) D4 w4→Ez.defers=D4→u≠ .run→I4 KZ v u→NU x.P x.T gd da fn.results.toList a3 K v M4→
     LeavesInM Fence.wide 0 x.P fn Ez.tmps (iq ρ M w K Kp) Ez.defers u w4:=by
     intro v KZ M4 D4 u s4 e4 ⟨rs,CD,Fw,xu⟩ AZ hu TM rk
     rw[AZ,CD]
     refine oG (ρ0:=nq) (M0:=M1) (w0:=w1) hu (fun w5 g1 g2=>?_) rs w4 Fw (fun r hr=>⟨Nat.le_trans Wo.size (xu r hr).1,(xu r hr).2⟩) s4 (Wo.trans e4)
     refine⟨hu,.inr ⟨fun h=>(by cases h),.func gd,(AV.cl eH cap).toArray,gd,(AV.cl eH first).toArray++as.map kM.eval++(AV.cl eH cap).toArray,by rw[XM],?_,fun _ _=>trivial,?_⟩⟩
     ·rw[XM]
      simp only[invoke]
      exact n4 rk.1 _ _
     ·have FA:=rk.2 KZ w5 u g1 (AV.gm e4.env da T2) TM
      rw[AV.j7 e4.env da T2,hdc]at FA
      refine CallsDIn.mono FA fun e6 u6 w6 h6=>?_
      obtain⟨⟨y,rfl⟩,CB,O2,M6,s6,e6,sx⟩:=h6
      show LeavesInM Fence.wide 0 x.P fn Ez.tmps (iq ρ M w K Kp) D1 (settle u6) w6
      rw[CB]
      obtain⟨ZO,W5,Xm,XS⟩:=Sp.lF gJ (g2.trans e6)
      rw[W5,List.append_nil]
      refine cX (ρ0:=ρ) (M0:=M) (w0:=w) (by simp) (fun w7 q1 q2=>?_) ZO w6 Xm XS s6 (Uo.trans (g2.trans e6))
      obtain⟨vs,k1,k2,k3⟩:=Ae (act:=Ez) hT q1 fn.results.toList _ fB (fun t ht=>by
       rw[AV.de e6.env (a3 t) (AV.cF e4.env (a3 t) (ND.ok t)),AV.de e4.env (a3 t) (ND.ok t)]
       exact Tw (t,(a3 t).c eH) (List.mem_map.2 ⟨t,ht,rfl⟩)) sx
      have yQ:(fn.results.mapM (qP Ez.tmps)).run x.P w7=Result.ok (AV.cl O2 vs).toArray w7:=by
       rw[Array.mapM_eq_mapM_toList]
       simp[k3]
      show∃v,(results fn Ez.tmps).run x.P w7=.ok v w7∧iq ρ M w K Kp (.returned v) w7
      rw[iO]
      simp only[Sem.run_bind,yQ]
      match vs,k1,k2 with
      |[v],k1,k2=>exact⟨v.c O2,by simp[AV.cl],O2,M6,q1,q2,v,rfl,k2.1,k1⟩
      |[],k1,k2=>exact⟨(AV.aL []).c O2,by simp[AV.cl,AV.c],O2,M6,q1,q2,.aL [],rfl,k2,k1⟩
      |v::u::vs,k1,k2=>exact⟨(AV.aL (v::u::vs)).c O2,by simp[AV.cl,AV.c],O2,M6,q1,q2,.aL (v::u::vs),rfl,k2,k1⟩
    cases e with
    |normal=>obtain⟨KZ,M4,a4,D4,s4,e4,m4,Wu,hl⟩:=hq;exact close (v:=none) s4 e4 m4 Wu.defers (by simp) rfl hl
    |ret=>obtain⟨KZ,M4,a4,D4,s4,e4,m4,Wu,hl⟩:=hq;exact close (v:=none) s4 e4 m4 Wu.defers (by simp) rfl hl
    |exit id=>obtain⟨KZ,M4,a4,D4,s4,e4,m4,Wu,hl⟩:=hq;exact hl.elim
    |panic ch=>
     obtain⟨KZ,M4,v,D4,s4,e4,m4,AZ,Zk,G1,hl⟩:=hq
     exact close (v:=some v) s4 e4 m4 AZ (by simp) ⟨by rw[Zk],G1⟩ hl
    |goto l=>exact hq.elim
    |outgrown=>exact hq.elim
   ·exact hd.elim
 have h0:=key k c (ao args) M ρ w _ [] Jq bW h hs (Ext.refl _ _ _) (Marks.refl _ _ _) ha
 rw[hFW]at h0
 exact h0
def Ov:Code→Option (Array Oper×Code×List Oper×Oper×Operand×Array Operand)
 | .seq (.region _ ops false) rest=>match ops.toList.reverse with
   |o::l=>match o.op,o.guard with
    | .defer ⟨.value f,as,_⟩,none=>some (ops,rest,l.reverse,o,f,as)
    |_,_=>none
   |[]=>none
 |_=>none
theorem aa.RM {x:Cx}(hT:aq x.P x.T)(hm:x.P.follows .mixedOrders=true){g:Nat}{fn:Func}{c:Code}(hf:x.P.funcs[g]?=some fn)(hb:fn.body=some c)(hg:oJ x.P g=true)(bW:aj x.pl c=true)(hr:x.r=none)
 {args:List AV}{M:AH}{K Kp:AV→AH→Prop}(hn:fn.ntmps=x.n)(hle:Nat.ble args.length x.n=true)
 (k:Nat){ops:Array Oper}{rest:Code}{l:List Oper}{o:Oper}{f:Operand}{as:Array Operand}(hd:Ov (kh k c)=some (ops,rest,l,o,f,as))
 (Q0:aj x.pl rest=true)(fB:zb fn.results.toList=true)(pg:S4 (BC fn.results.toList) rest=true)
 (h:sq x (fun a M=>tE x ops (fun _ _=>False) (rz x fn.results.toList rest o.dst f as.toList K) l a M) (ax x.T fn.results.toList K) Kp k c (ao args) M):aa x.P g args M K Kp:=by
 unfold Ov at hd
 split at hd
 ·rename_i id WB YF Jq
  split at hd
  ·rename_i o' l' W9
   split at hd
   ·rename_i f' as' iJ sA Rl
    simp only[Option.some.injEq,Prod.mk.injEq]at hd
    obtain⟨rfl,rfl,rfl,rfl,rfl,rfl⟩:=hd
    have Jy:WB.toList=l'.reverse++[o']:=by
     have:=congrArg List.reverse W9
     simpa using this
    exact aa.QH hT hm hf hb hg bW hr hn hle k Jq Jy sA Rl Q0 fB pg h
   ·cases hd
  ·cases hd
 ·cases hd
attribute[irreducible] sg
end Go.Proofs.Ytibadaomjlkoaaa
