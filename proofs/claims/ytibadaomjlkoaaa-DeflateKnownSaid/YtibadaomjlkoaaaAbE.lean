import Derived.Test.YtibadaomjlkoaaaAbW
import Derived.RecoverIn
set_option linter.unusedVariables false
set_option linter.unusedSimpArgs false
open Go.RowKit
namespace Go.Proofs.Ytibadaomjlkoaaa
def HQ (ρ:Env)(v:Option AV)(u:FrameMode):Prop:=match v with
 |none=>u=.returning
 |some v=>u=.panicking [{v:=v.c ρ,recovered:=false}]∧v.ok ρ
def rE (P:Program)(g:Nat)(args:List AV)(M:AH)(v:Option AV)(K:AH→Prop):Prop:=
 nU P g=true∧∀ρ w u,aR ρ M w→AV.dC ρ args→HQ ρ v u→
  CallsDIn (FW none) 0 P g (AV.cl ρ args).toArray u w fun e u' w'=>(∃x,e=.returned x)∧settle u'=.returning∧∃ρ' M',aR ρ' M' w'∧Ext ρ M w ρ' M' w'∧K M'
def OE (v:Option AV):AV:=match v with
 |none=>.ni
 |some v=>v
def Hc:Op→Bool
 | .move _| .assign _| .typeAssert ..| .extract ..| .alloc _| .store ..| .load ..| .fieldAddr ..| .binOp ..=>true
 |_=>false
theorem DD {P:Program}{s:Sem Value}{w w':World}{x:Next}(h:(do pure (.value (←s)):Sem Next).run P w=.ok x w'):∃z,x=.value z:=by
 simp only[Sem.run_bind]at h
 cases hs:s.run P w with
 |ok a w1=>rw[hs]at h;simp at h;exact⟨a,h.1.symm⟩
 |halt a w1=>rw[hs]at h;simp at h
theorem zm {P:Program}{s:Sem Unit}{w w':World}{x:Next}(h:(do s;pure .skip:Sem Next).run P w=.ok x w'):x=.skip:=by
 simp only[Sem.run_bind]at h
 cases hs:s.run P w with
 |ok a w1=>rw[hs]at h;simp at h;exact h.1.symm
 |halt a w1=>rw[hs]at h;simp at h
theorem Hb {P:Program}{o:Oper}(hb:Hc o.op=true){f:Operand→Value}{w w':World}{x:Next}(h:(execOp f o).run P w=.ok x w'):(∃z,x=.value z)∨x=.skip:=by
 obtain⟨dst,op,ty,pos,after,guard⟩:=o
 cases op<;>simp only[Hc]at hb<;>first
  |(cases hb;done)
  |exact .inl (DD h)
  |exact .inr (zm h)
  |(simp only[execOp]at h;exact .inl (DD h))
  |(simp only[execOp]at h;exact .inr (zm h))
  |(simp[execOp]at h;exact .inl ⟨_,h.1.symm⟩)
def Hp (P:Program)(T:List TI)(n:Nat)(W:List Nat)(v:Option AV)(K:AA→AH→Prop):Bool→List Oper→AA→AH→Prop
 |_,[],a,M=>K a M
 |done,o::l,a,M=>match o.guard with
  |some _=>False
  |none=>match o.op with
   | .call ⟨.builtin .recover,args,_⟩=>match done,args.toList with
     |false,[]=>Hp P T n W v K true l (a.put n o.dst (OE v)) M
     |_,_=>False
   |op=>bp (Hc op) (Gq P T (de W o.dst) M (oV a) op (fun z M'=>Hp P T n W v K done l (a.put n o.dst z) M') (fun _ _=>False))
section
variable{P:Program}{T:List TI}
def Dr (v:Option Value)(done:Bool)(c:Frame):Prop:=match v,done with
 |none,_=>c.mode=.returning
 |some v,false=>c.mode=.panicking [{v:=v,recovered:=false}]
 |some v,true=>c.mode=.panicking [{v:=v,recovered:=true}]
theorem kH (hT:ao P T){n:Nat}{W:List Nat}{ops:Array Oper}{v:Option AV}{vc:Option Value}{K:AA→AH→Prop}{D:List Deferred}{ρ0:Env}{M0:AH}{w0:World}{c0:Frame}{cs:List Frame}{Q:Exit→Act→List Frame→World→Prop}:
 ∀(l:List Oper)(k:Nat)(done:Bool)(a:AA)(M:AH)(ρ:Env)(w:World)(act:Act)(c:Frame),ops.toList.drop k=l→aR ρ M w→Ext ρ0 M0 w0 ρ M w→(OE v).ok ρ→vc=v.map (AV.c ρ)→bs ρ D n a act→Dr vc done c→(∃u,c={c0 with mode:=u})→Hp P T n W v K done l a M→
  (∀a' M' ρ' w' aH c' nX,K a' M'→aR ρ' M' w'→Ext ρ0 M0 w0 ρ' M' w'→bs ρ' D n a' aH→Dr vc nX c'→(∃u,c'={c0 with mode:=u})→(nX=false→done=false∧∀o∈l,∀as ic,o.op≠ .call ⟨.builtin .recover,as,ic⟩)→Q .normal aH (c'::cs) w')→
  wpOpsSIn (FW none) 0 P ops Q (List.range' k l.length) act (c::cs) w
 |[],k,done,a,M,ρ,w,act,c,_,hs,hE,_,_,ha,hb,hc,h,hK=>hK a M ρ w act c done h hs hE ha hb hc (fun hd=>⟨hd,fun o ho=>by cases ho⟩)
 |o::l,k,done,a,M,ρ,w,act,c,hl,hs,hE,hv,U8,ha,hb,hc,h,hK=>by
  have hi:ops[k]?=some o:=by
   have:=congrArg (fun l=>l[0]?) hl
   simpa using this
  have PH:ops.toList.drop (k+1)=l:=by
   have:=congrArg List.tail hl
   simpa using this
  simp only[Hp]at h
  split at h
  ·exact h.elim
  ·rename_i hg
   rw[List.length_cons,List.range'_succ]
   simp only[wpOpsSIn,hi]
   refine⟨fun _ _=>trivial,?_⟩
   rw[if_pos (by unfold Region.wanted;rw[hg])]
   split at h
   ·rename_i args ic rR
    split at h
    ·rename_i jW
     obtain rfl:args=#[]:=by apply Array.toList_inj.1;simpa using jW
     have aQ:(execOp act.eval o).run P w=.ok .recover w:=by
      obtain⟨dst,op,ty,pos,after,guard⟩:=o
      simp only at rR
      subst rR
      simp[execOp,resolve,invoke,builtin]
     rw[aQ]
     simp only
     cases v with
     |none=>
      obtain rfl:vc=none:=U8
      have hm:c.mode=.returning:=hb
      have tP:recoverD (c::cs)=none:=by simp[recoverD,hm]
      rw[tP]
      simp only
      exact kH hT l (k+1) true (a.put n o.dst .ni) M ρ w (act.put o.dst .nilIface) c PH hs hE hv rfl (ha.put o.dst (v:=.ni) hv) hm hc h (fun a' M' ρ' w' aH c' nX h1 h2 h3 h4 h5 h6 h7=>hK a' M' ρ' w' aH c' nX h1 h2 h3 h4 h5 h6 (fun hd=>by have:=(h7 hd).1;cases this))
     |some z=>
      obtain rfl:vc=some (z.c ρ):=U8
      have hm:c.mode=.panicking [{v:=z.c ρ,recovered:=false}]:=hb
      have tP:recoverD (c::cs)=some (z.c ρ,{c with mode:=.panicking [{v:=z.c ρ,recovered:=true}]}::cs):=by simp[recoverD,hm]
      rw[tP]
      simp only
      obtain⟨u,rfl⟩:=hc
      exact kH hT l (k+1) true (a.put n o.dst z) M ρ w (act.put o.dst (z.c ρ)) _ PH hs hE hv rfl (ha.put o.dst (v:=z) hv) rfl ⟨_,rfl⟩ h (fun a' M' ρ' w' aH c' nX h1 h2 h3 h4 h5 h6 h7=>hK a' M' ρ' w' aH c' nX h1 h2 h3 h4 h5 h6 (fun hd=>by have:=(h7 hd).1;cases this))
    ·exact h.elim
   ·rename_i Yy
    replace h:=aq h
    obtain⟨Yo,h⟩:=h
    have LG:=uj (r:=none) (Q:=fun _ _ _=>False) (o:=o) hT hs ha.ev h (K':=fun aH w'=>wpOpsSIn (FW none) 0 P ops Q (List.range' (k+1) l.length) aH (c::cs) w')
     (fun rv M' ρ' w' g1 g2 g3 g4=>kH hT l (k+1) done (a.put n o.dst rv) M' ρ' w' (act.put o.dst (rv.c ρ')) c PH g3 (hE.trans g4) (AV.cy g4.env _ hv)
      (by rw[U8];cases v with
       |none=>rfl
       |some z=>exact congrArg some (AV.cW g4.env z hv).symm) ((ha.ext g4.env).put o.dst g2) hb hc g1 (fun a' ld gh uQ aH c' nX h1 h2 h3 h4 h5 h6 h7=>hK a' ld gh uQ aH c' nX h1 h2 h3 h4 h5 h6 (fun hd=>by
       obtain⟨p1,p2⟩:=h7 hd
       refine⟨p1,fun o' tQ as ic=>?_⟩
       rcases List.mem_cons.1 tQ with rfl|tQ
       ·intro e
        exact Yy _ _ e
       ·exact p2 o' tQ as ic)))
     (fun rv M' ρ' w' g1 _ _ _=>g1.elim)
    generalize rQ:(execOp act.eval o).run P w=res at LG
    cases res with
    |ok x w1=>
     rcases Hb Yo rQ with⟨z,rfl⟩|rfl
     ·exact LG
     ·exact LG
    |halt x w1=>cases x<;>exact LG.elim
end
def lX:Code→Bool
 | .skip=>true
 | .ret=>true
 | .seq a b=>lX a&&lX b
 | .cond _ a b=>lX a&&lX b
 | .region _ _ _=>true
 |_=>false
def EW (ρ0:Env)(M0:AH)(w0:World)(D:List Deferred)(n:Nat)(Q:iT→AA→AH→Prop)(e:Exit)(act:Act)(w':World):Prop:=
 match e with
 | .normal=>∃ρ' M' a',aR ρ' M' w'∧Ext ρ0 M0 w0 ρ' M' w'∧bs ρ' D n a' act∧Q .normal a' M'
 | .ret=>∃ρ' M' a',aR ρ' M' w'∧Ext ρ0 M0 w0 ρ' M' w'∧bs ρ' D n a' act∧Q .ret a' M'
 |_=>False
theorem TZ {x:Cx}(hT:ao x.P x.T)(hm:x.P.follows .mixedOrders=true){ρ0:Env}{M0:AH}{w0:World}{D:List Deferred}:
 ∀(c:Code)(_:lX c=true)(_:aj x.pl c=true)(Q:iT→AA→AH→Prop)(a:AA)(M:AH)(ρ:Env)(w:World)(act:Act),(∀id a M,¬Q (.exit id) a M)→aR ρ M w→Ext ρ0 M0 w0 ρ M w→bs ρ D x.n a act→bL x c Q (fun _ _=>False) a M→
  c.wpIn (FW x.r) 0 x.P (EW ρ0 M0 w0 D x.n Q) act w:=by
 intro c
 induction c with
 |skip=>exact fun _ _ Q a M ρ w act _ hs hE ha h=>wpIn_skip ⟨ρ,M,a,hs,hE,ha,h⟩
 |ret=>exact fun _ _ Q a M ρ w act _ hs hE ha h=>wpIn_ret ⟨ρ,M,a,hs,hE,ha,h⟩
 |seq c d LC LB=>
  intro bO qC Q a M ρ w act hx hs hE ha h
  simp only[lX,Bool.and_eq_true]at bO
  simp only[aj,Bool.and_eq_true]at qC
  refine wpIn_seq (wpIn_mono (LC bO.1 qC.1 (fun e a M=>match e with| .normal=>bL x d Q (fun _ _=>False) a M|e=>Q e a M) a M ρ w act (fun id a M h=>hx id a M h) hs hE ha h) fun e aH w' hq=>?_)
  cases e with
  |normal=>obtain⟨ρ',M',a',h1,h2,h3,h4⟩:=hq;exact LB bO.2 qC.2 Q a' M' ρ' w' aH hx h1 h2 h3 h4
  |ret=>exact hq
  |exit id=>exact hq.elim
  |panic ch=>exact hq.elim
  |goto l=>exact hq.elim
  |outgrown=>exact hq.elim
 |cond o c d LC LB=>
  intro bO qC Q a M ρ w act hx hs hE ha h
  simp only[lX,Bool.and_eq_true]at bO
  simp only[aj,Bool.and_eq_true]at qC
  have he:=(ha.ev o).1
  simp only[bL]at h
  split at h<;>rename_i hh<;>(try rw[hh]at he)
  ·exact wpIn_cond_true he (LC bO.1 qC.1 Q a M ρ w act hx hs hE ha h)
  ·exact wpIn_cond_false he (LB bO.2 qC.2 Q a M ρ w act hx hs hE ha h)
  ·exact wpIn_cond_split he (fun hb=>LC bO.1 qC.1 Q a M ρ w act hx hs hE ha (h.1 hb)) (fun hb=>LB bO.2 qC.2 Q a M ρ w act hx hs hE ha (h.2 hb))
  ·exact h.elim
 |region id ops draw=>
  intro bO qC Q a M ρ w act hx hs hE ha h
  simp only[bL]at h
  cases draw with
  |false=>
   refine wpIn_region ?_
   have:=n9 (r:=x.r) (Q:=EW ρ0 M0 w0 D x.n Q) (ρ0:=ρ) (M0:=M) (w0:=w) hT ops.toList 0 a M ρ w act (by simp) hs (Ext.refl _ _ _) ha h
    (fun a' aH M' ρ' w' h1 h2 h3 h4=>⟨ρ',M',a',h3,hE.trans h4,h2,h1⟩) (fun rv M' ρ' w' aH h0 h1 h2 h3 h4=>h1.elim)
   rw[show List.range ops.size=List.range' 0 ops.toList.length by rw[List.range_eq_range',Array.length_toList]]
   exact this
  |true=>
   simp only at h
   split at h
   ·rename_i ck ds Ps
    simp only[aj,Ps,Bool.and_eq_true]at qC
    obtain⟨⟨uV,gP⟩,EE⟩:=qC
    obtain⟨B,hB⟩:∃B,x.B id=B:=⟨_,rfl⟩
    rw[hB]at h
    have hp:∀(i:Nat) o,ops[i]?=some o→cm o.op=true:=fun i o hi=>by
     exact Array.all_eq_true_iff_forall_mem.1 gP o (Array.mem_of_getElem? hi)
    have vk:aR ρ M {w with drawn:=w.drawn+1}:=⟨hs.nw,hs.tag,hs.bu,fun i g own y hy=>by
     rcases hs.holds i g own y hy with⟨q,h1,h2⟩|h1
     ·exact .inl ⟨q,h1,bH.ext (w:=w) (fun _ _ _ h=>h) rfl h2⟩
     ·exact .inr h1,hs.apart⟩
    have B5:Ext ρ0 M0 w0 ρ M {w with drawn:=w.drawn+1}:=⟨hE.env,hE.size,hE.frame,hE.fresh,hE.os,hE.tape,hE.output⟩
    cases ck with
    |nil=>
     refine wpIn_region_any hm (dv (S:=fun _=>True) (ds:=ds) hp _ _ _ _ ?_)
     exact ra (r:=x.r) (Q:=EW ρ0 M0 w0 D x.n Q) (w0:={w with drawn:=w.drawn+1}) hT uV vk ha h
      (fun a' aH M' ρ' w' h1 h2 h3 h4=>⟨ρ',M',a',h3,B5.trans h4,h2,h1⟩)
    |cons p ck=>
    refine wpIn_region_any hm (dv (S:=SB ρ M B) (ds:=ds) hp _ _ _ _ ?_)
    exact bl (r:=x.r) (Q:=EW ρ0 M0 w0 D x.n Q) (ρ0:=ρ) (M0:=M) (w0:={w with drawn:=w.drawn+1}) hT hp
     (fun c aH d v w' hq=>hq)
     (p::ck) [] _ ops.size a M ρ _ act (SB ρ M B) (Nat.le_trans (List.length_filter_le _ _) (by simpa using EE)) uV iS.none vk (Ext.refl _ _ _) ha (fun _=>SB.of vk B) (fun _ h=>h) (fun _ ρ' M' w' k1 k2 k3=>nz (SB.of vk B) k1 k2 k3) h
     (fun a' aH M' ρ' w' h1 h2 h3 h4=>⟨ρ',M',a',h3,B5.trans h4,h2,h1⟩) (fun rv M' ρ' w' aH h0 h1 h2 h3 h4=>h1.elim)
   ·exact h.elim
 |_=>intro bO;cases bO
theorem rE.intro {x:Cx}(hT:ao x.P x.T)(hm:x.P.follows .mixedOrders=true){g:Nat}{fn:Func}{id:Nat}{ops:Array Oper}{rest:Code}(hf:x.P.funcs[g]?=some fn)(hb:fn.body=some (.seq (.region id ops false) rest))(hg:nU x.P g=true)(Up:lX rest=true)(bO:aj x.pl rest=true)(hr:x.r=none)
 (rQ:fn.results=#[])(tP:ops.toList.any (fun o=>match o.op with| .call ⟨.builtin .recover,_,_⟩=>true|_=>false)=true)
 {args:List AV}{M:AH}{v:Option AV}{K:AH→Prop}(hn:fn.ntmps=x.n)(hle:Nat.ble args.length x.n=true)
 (h:Hp x.P x.T x.n x.W v (fun a M=>ax x rest (fun e _ M'=>match e with| .normal=>K M'| .ret=>K M'|_=>False) (fun _ _=>False) a M) false ops.toList (au args) M):rE x.P g args M v K:=by
 refine⟨hg,fun ρ w u hs aA hu=>?_⟩
 have PD:args.length≤x.n:=by simpa using hle
 have hlen:(AV.cl ρ args).toArray.size=args.length:=by simp[AV.aU]
 have ha:bs ρ [] x.n (au args) {tmps:=(AV.cl ρ args).toArray++Array.replicate (fn.ntmps-(AV.cl ρ args).toArray.size) undef,defers:=[]}:=by
  refine⟨rfl,?_,fun t=>?_,fun t=>?_⟩
  ·rw[Array.size_append,Array.size_replicate,hlen,hn];omega
  ·simp only[au];split
   ·exact(AV.aJ ρ args).1 aA _ (List.mem_of_getElem? ‹_›)
   ·exact trivial
  ·simp only[au,Array.getD_eq_getD_getElem?]
   by_cases ht:t<args.length
   ·rw[Array.getElem?_append_left (by rw[hlen];exact ht)]
    simp[AV.aU,List.getElem?_eq_getElem ht]
   ·rw[Array.getElem?_append_right (by rw[hlen];omega),List.getElem?_eq_none (by omega)]
    simp only[Array.getElem?_replicate]
    split<;>rfl
 have F1:(OE v).ok ρ:=by
  cases v with
  |none=>exact trivial
  |some z=>exact hu.2
 refine callsDIn_of_wpSIn hf hb trivial fun c0 cs vm=>?_
 have JJ:Dr (v.map (AV.c ρ)) false c0:=by
  cases v with
  |none=>exact vm.trans hu
  |some z=>exact vm.trans hu.1
 refine wpSIn_seq (wpSIn_region ?_)
 have key:=kH (ops:=ops) (Q:=Exit.thenS (rest.wpSIn (FW none) 0 x.P (bodyPostS x.P fn c0 cs fun e u' w'=>(∃x,e=.returned x)∧settle u'=.returning∧∃ρ' M',aR ρ' M' w'∧Ext ρ M w ρ' M' w'∧K M')) (bodyPostS x.P fn c0 cs fun e u' w'=>(∃x,e=.returned x)∧settle u'=.returning∧∃ρ' M',aR ρ' M' w'∧Ext ρ M w ρ' M' w'∧K M')) (cs:=cs) (ρ0:=ρ) (M0:=M) (w0:=w) hT ops.toList 0 false (au args) M ρ w _ c0 (by simp) hs (Ext.refl _ _ _) F1 rfl ha JJ ⟨c0.mode,rfl⟩ h
  (fun a' M1 mH w1 aH c' nX h1 fZ SJ h2 h3 h4 h5=>?_)
 ·rw[show List.range ops.size=List.range' 0 ops.toList.length by rw[List.range_eq_range',Array.length_toList]]
  exact key
 ·show rest.wpSIn (FW none) 0 x.P _ aH (c'::cs) w1
  refine wpSIn_of_wpIn rfl ?_
  have hw:=TZ (ρ0:=ρ) (M0:=M) (w0:=w) hT hm rest Up bO (fun e _ M'=>match e with| .normal=>K M'| .ret=>K M'|_=>False) a' M1 mH w1 aH (fun _ _ _ h=>h) fZ SJ h2 (by rw[dw]at h1;exact h1)
  rw[hr]at hw
  have BP:∃u',c'={c0 with mode:=u'}∧settle u'=.returning:=by
   obtain⟨u',rfl⟩:=h4
   refine⟨u',rfl,?_⟩
   cases v with
   |none=>
    have:u'=.returning:=h3
    rw[this];rfl
   |some z=>
    cases nX with
    |true=>
     have:u'=.panicking [{v:=z.c ρ,recovered:=true}]:=h3
     rw[this];rfl
    |false=>
     exfalso
     obtain⟨o,ho,Qw⟩:=List.any_eq_true.1 tP
     have:=(h5 rfl).2 o ho
     split at Qw
     ·rename_i as ic rR;exact this _ _ rR
     ·cases Qw
  obtain⟨u',rr,BP⟩:=BP
  refine wpIn_mono hw fun e km w2 hq=>?_
  have fin:∀{ek:Env}{M2:AH}{a2:AA},aR ek M2 w2→Ext ρ M w ek M2 w2→bs ek [] x.n a2 km→K M2→km.defers=[]∧∃WR,c'::cs={c0 with mode:=WR}::cs∧∃vv,(results fn km.tmps).run x.P w2=.ok vv w2∧((∃y,Ending.returned vv=.returned y)∧settle WR=.returning∧∃ρ' M',aR ρ' M' w2∧Ext ρ M w ρ' M' w2∧K M'):=by
   intro ek M2 a2 g1 g2 g4 g6
   refine⟨g4.defers,u',by rw[rr],.tuple #[],?_,⟨_,rfl⟩,BP,ek,M2,g1,g2,g6⟩
   rw[il,rQ]
   simp
  cases e with
  |normal=>obtain⟨ek,M2,a2,g1,g2,g3,g4⟩:=hq;exact fin g1 g2 g3 g4
  |ret=>obtain⟨ek,M2,a2,g1,g2,g3,g4⟩:=hq;exact fin g1 g2 g3 g4
  |exit id=>exact hq.elim
  |panic ch=>exact hq.elim
  |goto l=>exact hq.elim
  |outgrown=>exact hq.elim
theorem nS {F:Fence}{n:Nat}{P:Program}{fn:Func}{tmps:Array Value}{R:Ending→World→Prop}{ρ0 ρ:Env}{M0 M:AH}{w0:World}{u:FrameMode}{ds:List Deferred}(hu:u≠ .run)
 (qD:∀w,aR ρ M w→Ext ρ0 M0 w0 ρ M w→LeavesInM F n P fn tmps R ds u w):∀(rs:List Nat)(w:World),rs.Nodup→(∀r∈rs,w0.heap.size≤r∧w.heap[r]?=some (.deferred (some [])))→aR ρ M w→Ext ρ0 M0 w0 ρ M w→
 LeavesInM F n P fn tmps R (rs.map (fun r=>{target:=.collected r,args:=#[]})++ds) u w
 |[],w,_,_,hs,hE=>qD w hs hE
 |r::rs,w,hn,h,hs,hE=>by
  obtain⟨h1,h2⟩:=h r List.mem_cons_self
  refine⟨hu,.inl ⟨r,_,rfl,run_takeDeferred h2,nS hu qD rs _ (List.nodup_cons.1 hn).2 (fun r' Ev=>⟨(h r' (List.mem_cons_of_mem _ Ev)).1,?_⟩) (zn hs h2 _) (An hE h1 _)⟩⟩
  rw[World.putObj_heap_other (fun e=>(List.nodup_cons.1 hn).1 (by rw[←e];exact Ev))]
  exact(h r' (List.mem_cons_of_mem _ Ev)).2
def yB:List ResultVar→Bool
 |[]=>true
 | .cell _ _::l=>yB l
 |_=>false
def AR:List ResultVar→List Nat
 |[]=>[]
 | .cell a _::l=>a::AR l
 | .tmp _::l=>AR l
theorem zA {P:Program}{T:List TI}(hT:ao P T){M:AH}{a:AA}{ρ:Env}{w:World}{act:Act}(hs:aR ρ M w):
 ∀(l:List ResultVar)(K:List AV→Prop),yB l=true→(∀t∈AR l,act.tmps.getD t undef=(a t).c ρ)→xL T M a l K→∃vs,K vs∧AV.dC ρ vs∧(l.mapM (qf act.tmps)).run P w=Result.ok (AV.cl ρ vs) w
 |[],K,_,_,h=>⟨[],h,trivial,by simp[AV.cl]⟩
 | .tmp t::l,K,hc,_,h=>by cases hc
 | .cell ad t::l,K,hc,hp,h=>by
   obtain⟨v,h1,h2,h3⟩:=fV (P:=P) hT hs.known (hs.id _) h
   obtain⟨vs,k1,k2,k3⟩:=zA hT hs l _ hc (fun t ht=>hp t (List.mem_cons_of_mem _ ht)) h1
   refine⟨v::vs,k1,⟨h2,k2⟩,?_⟩
   have h4:=h3 w (hs.id _)
   have aQ:(qf act.tmps (.cell ad t)).run P w=Result.ok (v.c ρ) w:=by
    simp only[qf]
    rw[hp ad List.mem_cons_self]
    simp only[Instr.loadAt]at h4
    generalize(a ad).c ρ=u at h4
    cases u with
    |pointer o=>cases o with
     |none=>simp[Instr.sureAddr]at h4
     |some ad=>simpa[Instr.sureAddr,asAddr]using h4
    |_=>simp[Instr.sureAddr]at h4
   rw[List.mapM_cons]
   simp only[Sem.run_bind]
   rw[aQ]
   simp[k3,AV.cl]
theorem sK {P:Program}{T:List TI}{r:Option Nat}{Q:Exit→Act→World→Prop}(hT:ao P T){n:Nat}{W:List Nat}{ops:Array Oper}{K:AA→AH→Prop}{D:List Deferred}{ρ0:Env}{M0:AH}{w0:World}:
 ∀(l tl:List Oper)(k:Nat)(a:AA)(M:AH)(ρ:Env)(w:World)(act:Act),ops.toList.drop k=l++tl→aR ρ M w→Ext ρ0 M0 w0 ρ M w→bs ρ D n a act→p9 P T n W ops (fun _ _=>False) K l a M→
  (∀a' aH M' ρ' w',K a' M'→bs ρ' D n a' aH→aR ρ' M' w'→Ext ρ0 M0 w0 ρ' M' w'→wpOpsIn (FW r) 0 P ops Q (List.range' (k+l.length) tl.length) aH w')→
  wpOpsIn (FW r) 0 P ops Q (List.range' k (l++tl).length) act w
 |[],tl,k,a,M,ρ,w,act,_,hs,hE,ha,h,hK=>hK a act M ρ w h ha hs hE
 |o::l,tl,k,a,M,ρ,w,act,hl,hs,hE,ha,h,hK=>by
  have hi:ops[k]?=some o:=by
   have:=congrArg (fun l=>l[0]?) hl
   simpa using this
  have PH:ops.toList.drop (k+1)=l++tl:=by
   have:=congrArg List.tail hl
   simpa using this
  simp only[p9]at h
  have key:=dH (r:=r) (Q:=Q) (K':=wpOpsIn (FW r) 0 P ops Q (List.range' (k+1) (l++tl).length)) hT hs ha h
   (fun a' aH M' ρ' w' h1 h2 h3 h4=>sK hT l tl (k+1) a' M' ρ' w' aH PH h3 (hE.trans h4) h2 h1 (fun WN Jq ld gh uQ g1 g2 g3 g4=>by
    have:=hK WN Jq ld gh uQ g1 g2 g3 g4
    rw[List.length_cons,show k+(l.length+1)=k+1+l.length by omega]at this
    exact this))
   (fun rv M' ρ' w' h1 h2 h3 h4=>h1.elim)
  rw[List.cons_append,List.length_cons,List.range'_succ]
  exact sm hi key.1 key.2
def Mp (P:Program)(T:List TI)(gd:Nat)(EN:List AV)(rs:List ResultVar)(a:AA)(K:AV→AH→Prop)(v:Option AV)(M:AH):Prop:=
 rE P gd EN M v fun M'=>xL T M' a rs fun vs=>match vs with
  |[z]=>K z M'
  |vs=>K (.aG vs) M'
def OZ (P:Program)(T:List TI)(gd:Nat)(EN:List AV)(rs:List ResultVar)(a:AA)(K:AV→AH→Prop)(e:iT)(_:AA)(M:AH):Prop:=
 match e with
 | .normal=>Mp P T gd EN rs a K none M
 | .ret=>Mp P T gd EN rs a K none M
 |_=>False
def qM (x:Cx)(rs:List ResultVar)(rest:Code)(dst:Option Nat)(f:Operand)(as:List Operand)(K:AV→AH→Prop)(a:AA)(M:AH):Prop:=
 match oV a f with
 | .fn (.func gd) first cap=>ax x rest (OZ x.P x.T gd (first++as.map (oV a)++cap) rs (a.put x.n dst (.aG [])) K) (fun v M'=>Mp x.P x.T gd (first++as.map (oV a)++cap) rs (a.put x.n dst (.aG [])) K (some v) M') (a.put x.n dst (.aG [])) M
 |_=>False
def Ri (ts:List Nat)(c:Code):Bool:=eG (ts.map fun t=>(t,undef)) c
theorem Bz {pin pin':MA}(h:pin.map (·.1)=pin'.map (·.1)):∀c:Code,eG pin c=eG pin' c:=by
 have hd:∀d,qn pin d=qn pin' d:=by
  intro d
  have:∀p:MA,qn p d=(p.map (·.1)).all fun t=>!(d==some t):=fun p=>by unfold qn;rw[List.all_map];rfl
  rw[this,this,h]
 intro c
 induction c with
 |region id ops d=>simp only[eG,hd]
 |seq a b h1 h2=>simp only[eG,h1,h2]
 |cond o a b h1 h2=>simp only[eG,h1,h2]
 |block id a h=>simp only[eG,h]
 |loop a h=>simp only[eG,h]
 |scope a h=>simp only[eG,h]
 |rangeFunc f ps a b=>
  simp only[eG]
  cases pin<;>cases pin'<;>simp_all
 |_=>rfl
theorem aa.O4 {x:Cx}(hT:ao x.P x.T)(hm:x.P.follows .mixedOrders=true){g:Nat}{fn:Func}{c:Code}(hf:x.P.funcs[g]?=some fn)(hb:fn.body=some c)(hg:nU x.P g=true)(bO:aj x.pl c=true)(hr:x.r=none)
 {args:List AV}{M:AH}{K Kp:AV→AH→Prop}(hn:fn.ntmps=x.n)(hle:Nat.ble args.length x.n=true)
 (k:Nat){id:Nat}{ops:Array Oper}{rest:Code}{l:List Oper}{o:Oper}{f:Operand}{as ic}(Ic:jJ k c=.seq (.region id ops false) rest)(Il:ops.toList=l++[o])(rR:o.op=.defer ⟨.value f,as,ic⟩)(PN:o.guard=none)
 (Pr:aj x.pl rest=true)(fk:yB fn.results.toList=true)(oA:Ri (AR fn.results.toList) rest=true)
 (h:rK x (fun a M=>sL x ops (fun _ _=>False) (qM x fn.results.toList rest o.dst f as.toList K) l a M) (az x.T fn.results.toList K) Kp k c (au args) M):aa x.P g args M K Kp:=by
 unfold aa
 refine⟨hg,fun ρ w hs aA=>?_⟩
 have PD:args.length≤x.n:=by simpa using hle
 have hlen:(AV.cl ρ args).toArray.size=args.length:=by simp[AV.aU]
 have ha:bs ρ [] x.n (au args) {tmps:=(AV.cl ρ args).toArray++Array.replicate (fn.ntmps-(AV.cl ρ args).toArray.size) undef,defers:=[]}:=by
  refine⟨rfl,?_,fun t=>?_,fun t=>?_⟩
  ·rw[Array.size_append,Array.size_replicate,hlen,hn];omega
  ·simp only[au];split
   ·exact(AV.aJ ρ args).1 aA _ (List.mem_of_getElem? ‹_›)
   ·exact trivial
  ·simp only[au,Array.getD_eq_getD_getElem?]
   by_cases ht:t<args.length
   ·rw[Array.getElem?_append_left (by rw[hlen];exact ht)]
    simp[AV.aU,List.getElem?_eq_getElem ht]
   ·rw[Array.getElem?_append_right (by rw[hlen];omega),List.getElem?_eq_none (by omega)]
    simp only[Array.getElem?_replicate]
    split<;>rfl
 have BI:∀{e:Exit}{act:Act}{w':World},ew ρ M w [] x.n (az x.T fn.results.toList K) Kp e act w'→bodyPostM Fence.wide 0 x.P fn (gV ρ M w K Kp) e act w':=by
  intro e act w' hq
  have fin:∀(ρ':Env)(M':AH)(a':AA)(D':List Deferred),aR ρ' M' w'→Ext ρ M w ρ' M' w'→Marks w.heap.size [] D' w'→bs ρ' D' x.n a' act→(xL x.T M' a' fn.results.toList fun vs=>match vs with|[v]=>K v M'|vs=>K (.aG vs) M')→
   LeavesInM Fence.wide 0 x.P fn act.tmps (gV ρ M w K Kp) act.defers .returning w':=by
   intro ρ' M' a' D' h1 h2 ⟨rs,BR,Ew,yk⟩ h3 h4
   rw[h3.defers,BR,List.append_nil]
   refine cK (by simp) (fun w2 g1 g2=>?_) rs w' Ew yk h1 h2
   obtain⟨vs,k1,k2,k3⟩:=iq hT g1 h3 _ _ h4
   have yi:(fn.results.mapM (qf act.tmps)).run x.P w2=Result.ok (AV.cl ρ' vs).toArray w2:=by
    rw[Array.mapM_eq_mapM_toList]
    simp[k3]
   show∃v,(results fn act.tmps).run x.P w2=.ok v w2∧gV ρ M w K Kp (.returned v) w2
   rw[il]
   simp only[Sem.run_bind,yi]
   match vs,k1,k2 with
   |[v],k1,k2=>exact⟨v.c ρ',by simp[AV.cl],ρ',M',g1,g2,v,rfl,k2.1,k1⟩
   |[],k1,k2=>exact⟨(AV.aG []).c ρ',by simp[AV.cl,AV.c],ρ',M',g1,g2,.aG [],rfl,k2,k1⟩
   |v::u::vs,k1,k2=>exact⟨(AV.aG (v::u::vs)).c ρ',by simp[AV.cl,AV.c],ρ',M',g1,g2,.aG (v::u::vs),rfl,k2,k1⟩
  cases e with
  |normal=>obtain⟨ρ',M',a',D',h1,h2,hm,h3,h4⟩:=hq;exact fin ρ' M' a' D' h1 h2 hm h3 h4
  |ret=>obtain⟨ρ',M',a',D',h1,h2,hm,h3,h4⟩:=hq;exact fin ρ' M' a' D' h1 h2 hm h3 h4
  |exit id=>obtain⟨ρ',M',a',D',h1,h2,hm,h3,h4⟩:=hq;exact h4.elim
  |panic ch=>
   obtain⟨ρ',M',v,D',h1,h2,⟨rs,BR,Ew,yk⟩,h3,h4,h5,h6⟩:=hq
   show LeavesInM Fence.wide 0 x.P fn act.tmps (gV ρ M w K Kp) act.defers (.panicking ch) w'
   rw[h3,BR,List.append_nil]
   refine cK (F:=Fence.wide) (n:=0) (P:=x.P) (fn:=fn) (tmps:=act.tmps) (R:=gV ρ M w K Kp) (u:=.panicking ch) (by simp) (fun w2 g1 g2=>?_) rs w' Ew yk h1 h2
   show gV ρ M w K Kp (.panicked ch) w2
   exact⟨ρ',M',g1,g2,v,h4,h5,h6⟩
  |goto l=>exact hq.elim
  |outgrown=>exact hq.elim
 refine callsIn_wide.1 (callsIn_of_wp_marks (F:=Fence.wide) (n:=0) hf hb trivial ?_)
 have Zj:(FW x.r)=Fence.wide:=by rw[hr];rfl
 have key:∀(k:Nat)(c:Code)(a:AA)(M1:AH)(mH:Env)(w1:World)(nG:Act)(D1:List Deferred),jJ k c=.seq (.region id ops false) rest→aj x.pl c=true→
  rK x (fun a M=>sL x ops (fun _ _=>False) (qM x fn.results.toList rest o.dst f as.toList K) l a M) (az x.T fn.results.toList K) Kp k c a M1→
  aR mH M1 w1→Ext ρ M w mH M1 w1→Marks w.heap.size [] D1 w1→bs mH D1 x.n a nG→c.wpIn (FW x.r) 0 x.P (bodyPostM Fence.wide 0 x.P fn (gV ρ M w K Kp)) nG w1:=by
  intro k
  induction k with
  |succ k ih=>
   intro c a M1 mH w1 nG D1 ht hp h fZ SJ QJ Mb
   cases c with
   |seq c d=>
    simp only[aj,Bool.and_eq_true]at hp
    have h':ax x c (Bk (rK x (fun a M=>sL x ops (fun _ _=>False) (qM x fn.results.toList rest o.dst f as.toList K) l a M) (az x.T fn.results.toList K) Kp k d) (az x.T fn.results.toList K)) Kp a M1:=h
    rw[dw]at h'
    refine wpIn_seq (wpIn_mono (k7 hT hm c hp.1 _ Kp a M1 mH w1 nG D1 fZ SJ QJ Mb h') fun e aH w' hq=>?_)
    cases e with
    |normal=>
     obtain⟨ρ',M',a',D',h1,h2,vp,h3,h4⟩:=hq
     exact ih d a' M' ρ' w' aH D' ht hp.2 h4 h1 h2 vp h3
    |exit id=>exact BI (e:=.exit id) hq
    |ret=>exact BI (e:=.ret) hq
    |panic ch=>exact BI (e:=.panic ch) hq
    |goto l=>exact hq.elim
    |outgrown=>exact hq.elim
   |_=>exact h.elim
  |zero=>
   intro c a M1 mH w1 nG D1 ht hp h fZ SJ QJ Mb
   have Yl:c=.seq (.region id ops false) rest:=ht
   subst Yl
   have h':sL x ops (fun _ _=>False) (qM x fn.results.toList rest o.dst f as.toList K) l a M1:=h
   rw[pq]at h'
   refine wpIn_seq (wpIn_region ?_)
   rw[show List.range ops.size=List.range' 0 (l++[o]).length by rw[List.range_eq_range',←Il,Array.length_toList]]
   refine sK (ρ0:=mH) (M0:=M1) (w0:=w1) hT l [o] 0 a M1 mH w1 nG (by rw[List.drop_zero,Il]) fZ (Ext.refl _ _ _) Mb h' fun a2 km M2 ek w2 hd uW nD UE=>?_
   have YM:ops[0+l.length]?=some o:=by
    have:=congrArg (fun q=>q[l.length]?) Il
    simpa using this
   unfold qM at hd
   split at hd
   ·rename_i gd first cap VR
    have A7:=(uW.ev f).1
    have wK:=(uW.ev f).2
    rw[VR]at A7 wK
    simp only[AV.ok]at wK
    obtain⟨Zx,Zw⟩:=yA uW.ev as.toList
    show wpOpsIn (FW x.r) 0 x.P ops _ [0+l.length] km w2
    simp only[wpOpsIn,YM]
    rw[if_pos (by unfold Region.wanted;rw[PN])]
    have aQ:(o.semAt (FW x.r).round km.eval).run x.P w2=.ok (.defer {target:=.fn (.func gd) (AV.cl ek cap).toArray,args:=(AV.cl ek first).toArray++as.map km.eval}) w2:=by
     rw[hr]
     show(o.semAt none km.eval).run x.P w2=_
     rw[Oper.semAt_none]
     obtain⟨dst,op,ty,pos,after,guard⟩:=o
     simp only at rR
     subst rR
     simp only[AV.c]at A7
     simp[execOp,resolve,A7,Deferred.ofValue]
    refine⟨fun _ _=>trivial,?_⟩
    rw[aQ]
    obtain⟨Jo,Nb⟩:∃Jo,Jo=({km with defers:={target:=.fn (.func gd) (AV.cl ek cap).toArray,args:=(AV.cl ek first).toArray++as.map km.eval}::km.defers}:Act).put o.dst undef:=⟨_,rfl⟩
    obtain⟨dd,VW⟩:∃dd:Deferred,dd={target:=.fn (.func gd) (AV.cl ek cap).toArray,args:=(AV.cl ek first).toArray++as.map km.eval}:=⟨_,rfl⟩
    obtain⟨a3,St⟩:∃a3,a3=a2.put x.n o.dst (.aG []):=⟨_,rfl⟩
    obtain⟨da,Sk⟩:∃da,da=first++as.toList.map (oV a2)++cap:=⟨_,rfl⟩
    rw[←St,←Sk]at hd
    have Gf:bs ek (dd::D1) x.n a3 Jo:=by
     have h0:bs ek (dd::D1) x.n a2 ({km with defers:=dd::km.defers}:Act):=⟨by show dd::km.defers=_;rw[uW.defers],uW.size,uW.ok,uW.get⟩
     have:=h0.put o.dst (v:=.aG []) trivial
     rw[St,Nb,←VW]
     exact this
    have Sj:AV.dC ek da:=by rw[Sk];exact iB (iB wK.1 Zw) wK.2
    have YU:(AV.cl ek da).toArray=(AV.cl ek first).toArray++as.map km.eval++(AV.cl ek cap).toArray:=by
     apply Array.toList_inj.1
     rw[Sk,fI,fI,←Zx]
     simp
    show rest.wpIn (FW x.r) 0 x.P (bodyPostM Fence.wide 0 x.P fn (gV ρ M w K Kp)) _ w2
    rw[←Nb]
    rw[dw]at hd
    have RP:dm ((AR fn.results.toList).map fun t=>(t,(a3 t).c ek)) Jo:=by
     intro p hp
     obtain⟨t,_,rfl⟩:=List.mem_map.1 hp
     exact Gf.get t
    have RV:eG ((AR fn.results.toList).map fun t=>(t,(a3 t).c ek)) rest=true:=by
     rw[Bz (pin':=(AR fn.results.toList).map fun t=>(t,undef)) (by simp[List.map_map,Function.comp_def])]
     exact oA
    refine wpIn_mono (fH hT hm rest Pr _ _ a3 M2 ek w2 Jo (dd::D1) nD (Ext.refl _ _ _) (Marks.refl _ _ _) Gf RV RP hd) fun e Dy w4 hq=>?_
    obtain⟨hq,RN⟩:=hq
    have close:∀{v:Option AV}{JO:Env}{M4:AH}{D4:List Deferred}{u:FrameMode},aR JO M4 w4→Ext ek M2 w2 JO M4 w4→Marks w2.heap.size (dd::D1) D4 w4→Dy.defers=D4→u≠ .run→HQ JO v u→Mp x.P x.T gd da fn.results.toList a3 K v M4→
     LeavesInM Fence.wide 0 x.P fn Dy.tmps (gV ρ M w K Kp) Dy.defers u w4:=by
     intro v JO M4 D4 u s4 e4 ⟨rs,BR,Ew,yk⟩ Ae hu R0 qD
     rw[Ae,BR]
     refine nS (ρ0:=mH) (M0:=M1) (w0:=w1) hu (fun w5 g1 g2=>?_) rs w4 Ew (fun r hr=>⟨Nat.le_trans UE.size (yk r hr).1,(yk r hr).2⟩) s4 (UE.trans e4)
     refine⟨hu,.inr ⟨fun h=>(by cases h),.func gd,(AV.cl ek cap).toArray,gd,(AV.cl ek first).toArray++as.map km.eval++(AV.cl ek cap).toArray,by rw[VW],?_,fun _ _=>trivial,?_⟩⟩
     ·rw[VW]
      simp only[invoke]
      exact nr qD.1 _ _
     ·have EC:=qD.2 JO w5 u g1 (AV.fO e4.env da Sj) R0
      rw[AV.jD e4.env da Sj,YU]at EC
      refine CallsDIn.mono EC fun e6 u6 w6 h6=>?_
      obtain⟨⟨y,rfl⟩,BP,Nw,M6,s6,e6,rQ⟩:=h6
      show LeavesInM Fence.wide 0 x.P fn Dy.tmps (gV ρ M w K Kp) D1 (settle u6) w6
      rw[BP]
      obtain⟨X6,Vg,Vx,V2⟩:=QJ.kV fZ (g2.trans e6)
      rw[Vg,List.append_nil]
      refine cK (ρ0:=ρ) (M0:=M) (w0:=w) (by simp) (fun w7 q1 q2=>?_) X6 w6 Vx V2 s6 (SJ.trans (g2.trans e6))
      obtain⟨vs,k1,k2,k3⟩:=zA (act:=Dy) hT q1 fn.results.toList _ fk (fun t ht=>by
       rw[AV.cW e6.env (a3 t) (AV.cy e4.env (a3 t) (Gf.ok t)),AV.cW e4.env (a3 t) (Gf.ok t)]
       exact RN (t,(a3 t).c ek) (List.mem_map.2 ⟨t,ht,rfl⟩)) rQ
      have yi:(fn.results.mapM (qf Dy.tmps)).run x.P w7=Result.ok (AV.cl Nw vs).toArray w7:=by
       rw[Array.mapM_eq_mapM_toList]
       simp[k3]
      show∃v,(results fn Dy.tmps).run x.P w7=.ok v w7∧gV ρ M w K Kp (.returned v) w7
      rw[il]
      simp only[Sem.run_bind,yi]
      match vs,k1,k2 with
      |[v],k1,k2=>exact⟨v.c Nw,by simp[AV.cl],Nw,M6,q1,q2,v,rfl,k2.1,k1⟩
      |[],k1,k2=>exact⟨(AV.aG []).c Nw,by simp[AV.cl,AV.c],Nw,M6,q1,q2,.aG [],rfl,k2,k1⟩
      |v::u::vs,k1,k2=>exact⟨(AV.aG (v::u::vs)).c Nw,by simp[AV.cl,AV.c],Nw,M6,q1,q2,.aG (v::u::vs),rfl,k2,k1⟩
    cases e with
    |normal=>obtain⟨JO,M4,a4,D4,s4,e4,m4,UK,hl⟩:=hq;exact close (v:=none) s4 e4 m4 UK.defers (by simp) rfl hl
    |ret=>obtain⟨JO,M4,a4,D4,s4,e4,m4,UK,hl⟩:=hq;exact close (v:=none) s4 e4 m4 UK.defers (by simp) rfl hl
    |exit id=>obtain⟨JO,M4,a4,D4,s4,e4,m4,UK,hl⟩:=hq;exact hl.elim
    |panic ch=>
     obtain⟨JO,M4,v,D4,s4,e4,m4,Ae,XB,F1,hl⟩:=hq
     exact close (v:=some v) s4 e4 m4 Ae (by simp) ⟨by rw[XB],F1⟩ hl
    |goto l=>exact hq.elim
    |outgrown=>exact hq.elim
   ·exact hd.elim
 have h0:=key k c (au args) M ρ w _ [] Ic bO h hs (Ext.refl _ _ _) (Marks.refl _ _ _) ha
 rw[Zj]at h0
 exact h0
def MS:Code→Option (Array Oper×Code×List Oper×Oper×Operand×Array Operand)
 | .seq (.region _ ops false) rest=>match ops.toList.reverse with
   |o::l=>match o.op,o.guard with
    | .defer ⟨.value f,as,_⟩,none=>some (ops,rest,l.reverse,o,f,as)
    |_,_=>none
   |[]=>none
 |_=>none
theorem aa.Qc {x:Cx}(hT:ao x.P x.T)(hm:x.P.follows .mixedOrders=true){g:Nat}{fn:Func}{c:Code}(hf:x.P.funcs[g]?=some fn)(hb:fn.body=some c)(hg:nU x.P g=true)(bO:aj x.pl c=true)(hr:x.r=none)
 {args:List AV}{M:AH}{K Kp:AV→AH→Prop}(hn:fn.ntmps=x.n)(hle:Nat.ble args.length x.n=true)
 (k:Nat){ops:Array Oper}{rest:Code}{l:List Oper}{o:Oper}{f:Operand}{as:Array Operand}(hd:MS (jJ k c)=some (ops,rest,l,o,f,as))
 (Pr:aj x.pl rest=true)(fk:yB fn.results.toList=true)(oA:Ri (AR fn.results.toList) rest=true)
 (h:rK x (fun a M=>sL x ops (fun _ _=>False) (qM x fn.results.toList rest o.dst f as.toList K) l a M) (az x.T fn.results.toList K) Kp k c (au args) M):aa x.P g args M K Kp:=by
 unfold MS at hd
 split at hd
 ·rename_i id UQ WV Ic
  split at hd
  ·rename_i o' l' Vk
   split at hd
   ·rename_i f' as' ic rR PN
    simp only[Option.some.injEq,Prod.mk.injEq]at hd
    obtain⟨rfl,rfl,rfl,rfl,rfl,rfl⟩:=hd
    have Il:UQ.toList=l'.reverse++[o']:=by
     have:=congrArg List.reverse Vk
     simpa using this
    exact aa.O4 hT hm hf hb hg bO hr hn hle k Ic Il rR PN Pr fk oA h
   ·cases hd
  ·cases hd
 ·cases hd
attribute[irreducible] rE
end Go.Proofs.Ytibadaomjlkoaaa
