import Derived.Test.YtibadaomjlkoaaaAbW
import Derived.RecoverIn
set_option linter.unusedVariables false
set_option linter.unusedSimpArgs false
open Go.RowKit
namespace Go.Proofs.Ytibadaomjlkoaaa
def HR (ρ:Env)(v:Option AV)(u:FrameMode):Prop:=match v with
 |none=>u=.returning
 |some v=>u=.panicking [{v:=v.c ρ,recovered:=false}]∧v.ok ρ
def rE (P:Program)(g:Nat)(args:List AV)(M:AH)(v:Option AV)(K:AH→Prop):Prop:=
 nY P g=true∧∀ρ w u,aR ρ M w→AV.dD ρ args→HR ρ v u→
  CallsDIn (FW none) 0 P g (AV.cl ρ args).toArray u w fun e u' w'=>(∃x,e=.returned x)∧settle u'=.returning∧∃ρ' M',aR ρ' M' w'∧Ext ρ M w ρ' M' w'∧K M'
def OC (v:Option AV):AV:=match v with
 |none=>.ni
 |some v=>v
def Hd:Op→Bool
 | .move _| .assign _| .typeAssert ..| .extract ..| .alloc _| .store ..| .load ..| .fieldAddr ..| .binOp ..=>true
 |_=>false
theorem DF {P:Program}{s:Sem Value}{w w':World}{x:Next}(h:(do pure (.value (←s)):Sem Next).run P w=.ok x w'):∃z,x=.value z:=by
 simp only[Sem.run_bind]at h
 cases hs:s.run P w with
 |ok a w1=>rw[hs]at h;simp at h;exact⟨a,h.1.symm⟩
 |halt a w1=>rw[hs]at h;simp at h
theorem zk {P:Program}{s:Sem Unit}{w w':World}{x:Next}(h:(do s;pure .skip:Sem Next).run P w=.ok x w'):x=.skip:=by
 simp only[Sem.run_bind]at h
 cases hs:s.run P w with
 |ok a w1=>rw[hs]at h;simp at h;exact h.1.symm
 |halt a w1=>rw[hs]at h;simp at h
theorem Hc {P:Program}{o:Oper}(hb:Hd o.op=true){f:Operand→Value}{w w':World}{x:Next}(h:(execOp f o).run P w=.ok x w'):(∃z,x=.value z)∨x=.skip:=by
 obtain⟨dst,op,ty,pos,after,guard⟩:=o
 cases op<;>simp only[Hd]at hb<;>first
  |(cases hb;done)
  |exact .inl (DF h)
  |exact .inr (zk h)
  |(simp only[execOp]at h;exact .inl (DF h))
  |(simp only[execOp]at h;exact .inr (zk h))
  |(simp[execOp]at h;exact .inl ⟨_,h.1.symm⟩)
def Hq (P:Program)(T:List TI)(n:Nat)(W:List Nat)(v:Option AV)(K:AA→AH→Prop):Bool→List Oper→AA→AH→Prop
 |_,[],a,M=>K a M
 |done,o::l,a,M=>match o.guard with
  |some _=>False
  |none=>match o.op with
   | .call ⟨.builtin .recover,args,_⟩=>match done,args.toList with
     |false,[]=>Hq P T n W v K true l (a.put n o.dst (OC v)) M
     |_,_=>False
   |op=>bp (Hd op) (Gr P T (dg W o.dst) M (oY a) op (fun z M'=>Hq P T n W v K done l (a.put n o.dst z) M') (fun _ _=>False))
section
variable{P:Program}{T:List TI}
def Dt (v:Option Value)(done:Bool)(c:Frame):Prop:=match v,done with
 |none,_=>c.mode=.returning
 |some v,false=>c.mode=.panicking [{v:=v,recovered:=false}]
 |some v,true=>c.mode=.panicking [{v:=v,recovered:=true}]
theorem kK (hT:ao P T){n:Nat}{W:List Nat}{ops:Array Oper}{v:Option AV}{vc:Option Value}{K:AA→AH→Prop}{D:List Deferred}{ρ0:Env}{M0:AH}{w0:World}{c0:Frame}{cs:List Frame}{Q:Exit→Act→List Frame→World→Prop}:
 ∀(l:List Oper)(k:Nat)(done:Bool)(a:AA)(M:AH)(ρ:Env)(w:World)(act:Act)(c:Frame),ops.toList.drop k=l→aR ρ M w→Ext ρ0 M0 w0 ρ M w→(OC v).ok ρ→vc=v.map (AV.c ρ)→bs ρ D n a act→Dt vc done c→(∃u,c={c0 with mode:=u})→Hq P T n W v K done l a M→
  (∀a' M' ρ' w' aG c' n5,K a' M'→aR ρ' M' w'→Ext ρ0 M0 w0 ρ' M' w'→bs ρ' D n a' aG→Dt vc n5 c'→(∃u,c'={c0 with mode:=u})→(n5=false→done=false∧∀o∈l,∀as ij,o.op≠ .call ⟨.builtin .recover,as,ij⟩)→Q .normal aG (c'::cs) w')→
  wpOpsSIn (FW none) 0 P ops Q (List.range' k l.length) act (c::cs) w
 |[],k,done,a,M,ρ,w,act,c,_,hs,hE,_,_,ha,hb,hc,h,hK=>hK a M ρ w act c done h hs hE ha hb hc (fun hd=>⟨hd,fun o ho=>by cases ho⟩)
 |o::l,k,done,a,M,ρ,w,act,c,hl,hs,hE,hv,U7,ha,hb,hc,h,hK=>by
  have hi:ops[k]?=some o:=by
   have:=congrArg (fun l=>l[0]?) hl
   simpa using this
  have PF:ops.toList.drop (k+1)=l:=by
   have:=congrArg List.tail hl
   simpa using this
  simp only[Hq]at h
  split at h
  ·exact h.elim
  ·rename_i hg
   rw[List.length_cons,List.range'_succ]
   simp only[wpOpsSIn,hi]
   refine⟨fun _ _=>trivial,?_⟩
   rw[if_pos (by unfold Region.wanted;rw[hg])]
   split at h
   ·rename_i args ij rQ
    split at h
    ·rename_i jv
     obtain rfl:args=#[]:=by apply Array.toList_inj.1;simpa using jv
     have aQ:(execOp act.eval o).run P w=.ok .recover w:=by
      obtain⟨dst,op,ty,pos,after,guard⟩:=o
      simp only at rQ
      subst rQ
      simp[execOp,resolve,invoke,builtin]
     rw[aQ]
     simp only
     cases v with
     |none=>
      obtain rfl:vc=none:=U7
      have hm:c.mode=.returning:=hb
      have tP:recoverD (c::cs)=none:=by simp[recoverD,hm]
      rw[tP]
      simp only
      exact kK hT l (k+1) true (a.put n o.dst .ni) M ρ w (act.put o.dst .nilIface) c PF hs hE hv rfl (ha.put o.dst (v:=.ni) hv) hm hc h (fun a' M' ρ' w' aG c' n5 h1 h2 h3 h4 h5 h6 h7=>hK a' M' ρ' w' aG c' n5 h1 h2 h3 h4 h5 h6 (fun hd=>by have:=(h7 hd).1;cases this))
     |some z=>
      obtain rfl:vc=some (z.c ρ):=U7
      have hm:c.mode=.panicking [{v:=z.c ρ,recovered:=false}]:=hb
      have tP:recoverD (c::cs)=some (z.c ρ,{c with mode:=.panicking [{v:=z.c ρ,recovered:=true}]}::cs):=by simp[recoverD,hm]
      rw[tP]
      simp only
      obtain⟨u,rfl⟩:=hc
      exact kK hT l (k+1) true (a.put n o.dst z) M ρ w (act.put o.dst (z.c ρ)) _ PF hs hE hv rfl (ha.put o.dst (v:=z) hv) rfl ⟨_,rfl⟩ h (fun a' M' ρ' w' aG c' n5 h1 h2 h3 h4 h5 h6 h7=>hK a' M' ρ' w' aG c' n5 h1 h2 h3 h4 h5 h6 (fun hd=>by have:=(h7 hd).1;cases this))
    ·exact h.elim
   ·rename_i Yv
    replace h:=aq h
    obtain⟨Xg,h⟩:=h
    have LC:=uj (r:=none) (Q:=fun _ _ _=>False) (o:=o) hT hs ha.ev h (K':=fun aG w'=>wpOpsSIn (FW none) 0 P ops Q (List.range' (k+1) l.length) aG (c::cs) w')
     (fun rv M' ρ' w' g1 g2 g3 g4=>kK hT l (k+1) done (a.put n o.dst rv) M' ρ' w' (act.put o.dst (rv.c ρ')) c PF g3 (hE.trans g4) (AV.cy g4.env _ hv)
      (by rw[U7];cases v with
       |none=>rfl
       |some z=>exact congrArg some (AV.cX g4.env z hv).symm) ((ha.ext g4.env).put o.dst g2) hb hc g1 (fun a' lp gp uP aG c' n5 h1 h2 h3 h4 h5 h6 h7=>hK a' lp gp uP aG c' n5 h1 h2 h3 h4 h5 h6 (fun hd=>by
       obtain⟨p1,p2⟩:=h7 hd
       refine⟨p1,fun o' tQ as ij=>?_⟩
       rcases List.mem_cons.1 tQ with rfl|tQ
       ·intro e
        exact Yv _ _ e
       ·exact p2 o' tQ as ij)))
     (fun rv M' ρ' w' g1 _ _ _=>g1.elim)
    generalize rP:(execOp act.eval o).run P w=res at LC
    cases res with
    |ok x w1=>
     rcases Hc Xg rP with⟨z,rfl⟩|rfl
     ·exact LC
     ·exact LC
    |halt x w1=>cases x<;>exact LC.elim
end
def l8:Code→Bool
 | .skip=>true
 | .ret=>true
 | .seq a b=>l8 a&&l8 b
 | .cond _ a b=>l8 a&&l8 b
 | .region _ _ _=>true
 |_=>false
def EZ (ρ0:Env)(M0:AH)(w0:World)(D:List Deferred)(n:Nat)(Q:iW→AA→AH→Prop)(e:Exit)(act:Act)(w':World):Prop:=
 match e with
 | .normal=>∃ρ' M' a',aR ρ' M' w'∧Ext ρ0 M0 w0 ρ' M' w'∧bs ρ' D n a' act∧Q .normal a' M'
 | .ret=>∃ρ' M' a',aR ρ' M' w'∧Ext ρ0 M0 w0 ρ' M' w'∧bs ρ' D n a' act∧Q .ret a' M'
 |_=>False
theorem TY {x:Cx}(hT:ao x.P x.T)(hm:x.P.follows .mixedOrders=true){ρ0:Env}{M0:AH}{w0:World}{D:List Deferred}:
 ∀(c:Code)(_:l8 c=true)(_:aj x.pl c=true)(Q:iW→AA→AH→Prop)(a:AA)(M:AH)(ρ:Env)(w:World)(act:Act),(∀id a M,¬Q (.exit id) a M)→aR ρ M w→Ext ρ0 M0 w0 ρ M w→bs ρ D x.n a act→bL x c Q (fun _ _=>False) a M→
  c.wpIn (FW x.r) 0 x.P (EZ ρ0 M0 w0 D x.n Q) act w:=by
 intro c
 induction c with
 |skip=>exact fun _ _ Q a M ρ w act _ hs hE ha h=>wpIn_skip ⟨ρ,M,a,hs,hE,ha,h⟩
 |ret=>exact fun _ _ Q a M ρ w act _ hs hE ha h=>wpIn_ret ⟨ρ,M,a,hs,hE,ha,h⟩
 |seq c d Lz Ly=>
  intro bO qF Q a M ρ w act hx hs hE ha h
  simp only[l8,Bool.and_eq_true]at bO
  simp only[aj,Bool.and_eq_true]at qF
  refine wpIn_seq (wpIn_mono (Lz bO.1 qF.1 (fun e a M=>match e with| .normal=>bL x d Q (fun _ _=>False) a M|e=>Q e a M) a M ρ w act (fun id a M h=>hx id a M h) hs hE ha h) fun e aG w' hq=>?_)
  cases e with
  |normal=>obtain⟨ρ',M',a',h1,h2,h3,h4⟩:=hq;exact Ly bO.2 qF.2 Q a' M' ρ' w' aG hx h1 h2 h3 h4
  |ret=>exact hq
  |exit id=>exact hq.elim
  |panic ch=>exact hq.elim
  |goto l=>exact hq.elim
  |outgrown=>exact hq.elim
 |cond o c d Lz Ly=>
  intro bO qF Q a M ρ w act hx hs hE ha h
  simp only[l8,Bool.and_eq_true]at bO
  simp only[aj,Bool.and_eq_true]at qF
  have he:=(ha.ev o).1
  simp only[bL]at h
  split at h<;>rename_i hh<;>(try rw[hh]at he)
  ·exact wpIn_cond_true he (Lz bO.1 qF.1 Q a M ρ w act hx hs hE ha h)
  ·exact wpIn_cond_false he (Ly bO.2 qF.2 Q a M ρ w act hx hs hE ha h)
  ·exact wpIn_cond_split he (fun hb=>Lz bO.1 qF.1 Q a M ρ w act hx hs hE ha (h.1 hb)) (fun hb=>Ly bO.2 qF.2 Q a M ρ w act hx hs hE ha (h.2 hb))
  ·exact h.elim
 |region id ops draw=>
  intro bO qF Q a M ρ w act hx hs hE ha h
  simp only[bL]at h
  cases draw with
  |false=>
   refine wpIn_region ?_
   have:=oe (r:=x.r) (Q:=EZ ρ0 M0 w0 D x.n Q) (ρ0:=ρ) (M0:=M) (w0:=w) hT ops.toList 0 a M ρ w act (by simp) hs (Ext.refl _ _ _) ha h
    (fun a' aG M' ρ' w' h1 h2 h3 h4=>⟨ρ',M',a',h3,hE.trans h4,h2,h1⟩) (fun rv M' ρ' w' aG h0 h1 h2 h3 h4=>h1.elim)
   rw[show List.range ops.size=List.range' 0 ops.toList.length by rw[List.range_eq_range',Array.length_toList]]
   exact this
  |true=>
   simp only at h
   split at h
   ·rename_i ck ds Pq
    simp only[aj,Pq,Bool.and_eq_true]at qF
    obtain⟨⟨uU,gR⟩,EH⟩:=qF
    obtain⟨B,hB⟩:∃B,x.B id=B:=⟨_,rfl⟩
    rw[hB]at h
    have hp:∀(i:Nat) o,ops[i]?=some o→cm o.op=true:=fun i o hi=>by
     exact Array.all_eq_true_iff_forall_mem.1 gR o (Array.mem_of_getElem? hi)
    have vh:aR ρ M {w with drawn:=w.drawn+1}:=⟨hs.nA,hs.tag,hs.bu,fun i g own y hy=>by
     rcases hs.holds i g own y hy with⟨q,h1,h2⟩|h1
     ·exact .inl ⟨q,h1,bH.ext (w:=w) (fun _ _ _ h=>h) rfl h2⟩
     ·exact .inr h1,hs.apart⟩
    have B7:Ext ρ0 M0 w0 ρ M {w with drawn:=w.drawn+1}:=⟨hE.env,hE.size,hE.frame,hE.fresh,hE.os,hE.tape,hE.output⟩
    cases ck with
    |nil=>
     refine wpIn_region_any hm (dw (S:=fun _=>True) (ds:=ds) hp _ _ _ _ ?_)
     exact re (r:=x.r) (Q:=EZ ρ0 M0 w0 D x.n Q) (w0:={w with drawn:=w.drawn+1}) hT uU vh ha h
      (fun a' aG M' ρ' w' h1 h2 h3 h4=>⟨ρ',M',a',h3,B7.trans h4,h2,h1⟩)
    |cons p ck=>
    refine wpIn_region_any hm (dw (S:=SB ρ M B) (ds:=ds) hp _ _ _ _ ?_)
    exact bl (r:=x.r) (Q:=EZ ρ0 M0 w0 D x.n Q) (ρ0:=ρ) (M0:=M) (w0:={w with drawn:=w.drawn+1}) hT hp
     (fun c aG d v w' hq=>hq)
     (p::ck) [] _ ops.size a M ρ _ act (SB ρ M B) (Nat.le_trans (List.length_filter_le _ _) (by simpa using EH)) uU iV.none vh (Ext.refl _ _ _) ha (fun _=>SB.of vh B) (fun _ h=>h) (fun _ ρ' M' w' k1 k2 k3=>nD (SB.of vh B) k1 k2 k3) h
     (fun a' aG M' ρ' w' h1 h2 h3 h4=>⟨ρ',M',a',h3,B7.trans h4,h2,h1⟩) (fun rv M' ρ' w' aG h0 h1 h2 h3 h4=>h1.elim)
   ·exact h.elim
 |_=>intro bO;cases bO
theorem rE.intro {x:Cx}(hT:ao x.P x.T)(hm:x.P.follows .mixedOrders=true){g:Nat}{fn:Func}{id:Nat}{ops:Array Oper}{rest:Code}(hf:x.P.funcs[g]?=some fn)(hb:fn.body=some (.seq (.region id ops false) rest))(hg:nY x.P g=true)(Uo:l8 rest=true)(bO:aj x.pl rest=true)(hr:x.r=none)
 (rP:fn.results=#[])(tP:ops.toList.any (fun o=>match o.op with| .call ⟨.builtin .recover,_,_⟩=>true|_=>false)=true)
 {args:List AV}{M:AH}{v:Option AV}{K:AH→Prop}(hn:fn.ntmps=x.n)(hle:Nat.ble args.length x.n=true)
 (h:Hq x.P x.T x.n x.W v (fun a M=>ax x rest (fun e _ M'=>match e with| .normal=>K M'| .ret=>K M'|_=>False) (fun _ _=>False) a M) false ops.toList (au args) M):rE x.P g args M v K:=by
 refine⟨hg,fun ρ w u hs aA hu=>?_⟩
 have PB:args.length≤x.n:=by simpa using hle
 have hlen:(AV.cl ρ args).toArray.size=args.length:=by simp[AV.aU]
 have ha:bs ρ [] x.n (au args) {tmps:=(AV.cl ρ args).toArray++Array.replicate (fn.ntmps-(AV.cl ρ args).toArray.size) undef,defers:=[]}:=by
  refine⟨rfl,?_,fun t=>?_,fun t=>?_⟩
  ·rw[Array.size_append,Array.size_replicate,hlen,hn];omega
  ·simp only[au];split
   ·exact(AV.aH ρ args).1 aA _ (List.mem_of_getElem? ‹_›)
   ·exact trivial
  ·simp only[au,Array.getD_eq_getD_getElem?]
   by_cases ht:t<args.length
   ·rw[Array.getElem?_append_left (by rw[hlen];exact ht)]
    simp[AV.aU,List.getElem?_eq_getElem ht]
   ·rw[Array.getElem?_append_right (by rw[hlen];omega),List.getElem?_eq_none (by omega)]
    simp only[Array.getElem?_replicate]
    split<;>rfl
 have F4:(OC v).ok ρ:=by
  cases v with
  |none=>exact trivial
  |some z=>exact hu.2
 refine callsDIn_of_wpSIn hf hb trivial fun c0 cs vl=>?_
 have JH:Dt (v.map (AV.c ρ)) false c0:=by
  cases v with
  |none=>exact vl.trans hu
  |some z=>exact vl.trans hu.1
 refine wpSIn_seq (wpSIn_region ?_)
 have key:=kK (ops:=ops) (Q:=Exit.thenS (rest.wpSIn (FW none) 0 x.P (bodyPostS x.P fn c0 cs fun e u' w'=>(∃x,e=.returned x)∧settle u'=.returning∧∃ρ' M',aR ρ' M' w'∧Ext ρ M w ρ' M' w'∧K M')) (bodyPostS x.P fn c0 cs fun e u' w'=>(∃x,e=.returned x)∧settle u'=.returning∧∃ρ' M',aR ρ' M' w'∧Ext ρ M w ρ' M' w'∧K M')) (cs:=cs) (ρ0:=ρ) (M0:=M) (w0:=w) hT ops.toList 0 false (au args) M ρ w _ c0 (by simp) hs (Ext.refl _ _ _) F4 rfl ha JH ⟨c0.mode,rfl⟩ h
  (fun a' M1 mL w1 aG c' n5 h1 gn SJ h2 h3 h4 h5=>?_)
 ·rw[show List.range ops.size=List.range' 0 ops.toList.length by rw[List.range_eq_range',Array.length_toList]]
  exact key
 ·show rest.wpSIn (FW none) 0 x.P _ aG (c'::cs) w1
  refine wpSIn_of_wpIn rfl ?_
  have hw:=TY (ρ0:=ρ) (M0:=M) (w0:=w) hT hm rest Uo bO (fun e _ M'=>match e with| .normal=>K M'| .ret=>K M'|_=>False) a' M1 mL w1 aG (fun _ _ _ h=>h) gn SJ h2 (by rw[dx]at h1;exact h1)
  rw[hr]at hw
  have BR:∃u',c'={c0 with mode:=u'}∧settle u'=.returning:=by
   obtain⟨u',rfl⟩:=h4
   refine⟨u',rfl,?_⟩
   cases v with
   |none=>
    have:u'=.returning:=h3
    rw[this];rfl
   |some z=>
    cases n5 with
    |true=>
     have:u'=.panicking [{v:=z.c ρ,recovered:=true}]:=h3
     rw[this];rfl
    |false=>
     exfalso
     obtain⟨o,ho,Qv⟩:=List.any_eq_true.1 tP
     have:=(h5 rfl).2 o ho
     split at Qv
     ·rename_i as ij rQ;exact this _ _ rQ
     ·cases Qv
  obtain⟨u',ru,BR⟩:=BR
  refine wpIn_mono hw fun e kp w2 hq=>?_
  have fin:∀{eh:Env}{M2:AH}{a2:AA},aR eh M2 w2→Ext ρ M w eh M2 w2→bs eh [] x.n a2 kp→K M2→kp.defers=[]∧∃WQ,c'::cs={c0 with mode:=WQ}::cs∧∃vv,(results fn kp.tmps).run x.P w2=.ok vv w2∧((∃y,Ending.returned vv=.returned y)∧settle WQ=.returning∧∃ρ' M',aR ρ' M' w2∧Ext ρ M w ρ' M' w2∧K M'):=by
   intro eh M2 a2 g1 g2 g4 g6
   refine⟨g4.defers,u',by rw[ru],.tuple #[],?_,⟨_,rfl⟩,BR,eh,M2,g1,g2,g6⟩
   rw[iw,rP]
   simp
  cases e with
  |normal=>obtain⟨eh,M2,a2,g1,g2,g3,g4⟩:=hq;exact fin g1 g2 g3 g4
  |ret=>obtain⟨eh,M2,a2,g1,g2,g3,g4⟩:=hq;exact fin g1 g2 g3 g4
  |exit id=>exact hq.elim
  |panic ch=>exact hq.elim
  |goto l=>exact hq.elim
  |outgrown=>exact hq.elim
theorem nW {F:Fence}{n:Nat}{P:Program}{fn:Func}{tmps:Array Value}{R:Ending→World→Prop}{ρ0 ρ:Env}{M0 M:AH}{w0:World}{u:FrameMode}{ds:List Deferred}(hu:u≠ .run)
 (qG:∀w,aR ρ M w→Ext ρ0 M0 w0 ρ M w→LeavesInM F n P fn tmps R ds u w):∀(rs:List Nat)(w:World),rs.Nodup→(∀r∈rs,w0.heap.size≤r∧w.heap[r]?=some (.deferred (some [])))→aR ρ M w→Ext ρ0 M0 w0 ρ M w→
 LeavesInM F n P fn tmps R (rs.map (fun r=>{target:=.collected r,args:=#[]})++ds) u w
 |[],w,_,_,hs,hE=>qG w hs hE
 |r::rs,w,hn,h,hs,hE=>by
  obtain⟨h1,h2⟩:=h r List.mem_cons_self
  refine⟨hu,.inl ⟨r,_,rfl,run_takeDeferred h2,nW hu qG rs _ (List.nodup_cons.1 hn).2 (fun r' Ex=>⟨(h r' (List.mem_cons_of_mem _ Ex)).1,?_⟩) (zl hs h2 _) (An hE h1 _)⟩⟩
  rw[World.putObj_heap_other (fun e=>(List.nodup_cons.1 hn).1 (by rw[←e];exact Ex))]
  exact(h r' (List.mem_cons_of_mem _ Ex)).2
def yz:List ResultVar→Bool
 |[]=>true
 | .cell _ _::l=>yz l
 |_=>false
def AU:List ResultVar→List Nat
 |[]=>[]
 | .cell a _::l=>a::AU l
 | .tmp _::l=>AU l
theorem zy {P:Program}{T:List TI}(hT:ao P T){M:AH}{a:AA}{ρ:Env}{w:World}{act:Act}(hs:aR ρ M w):
 ∀(l:List ResultVar)(K:List AV→Prop),yz l=true→(∀t∈AU l,act.tmps.getD t undef=(a t).c ρ)→xL T M a l K→∃vs,K vs∧AV.dD ρ vs∧(l.mapM (qi act.tmps)).run P w=Result.ok (AV.cl ρ vs) w
 |[],K,_,_,h=>⟨[],h,trivial,by simp[AV.cl]⟩
 | .tmp t::l,K,hc,_,h=>by cases hc
 | .cell ad t::l,K,hc,hp,h=>by
   obtain⟨v,h1,h2,h3⟩:=fX (P:=P) hT hs.known (hs.id _) h
   obtain⟨vs,k1,k2,k3⟩:=zy hT hs l _ hc (fun t ht=>hp t (List.mem_cons_of_mem _ ht)) h1
   refine⟨v::vs,k1,⟨h2,k2⟩,?_⟩
   have h4:=h3 w (hs.id _)
   have aQ:(qi act.tmps (.cell ad t)).run P w=Result.ok (v.c ρ) w:=by
    simp only[qi]
    rw[hp ad List.mem_cons_self]
    simp only[Instr.loadAt]at h4
    generalize(a ad).c ρ=u at h4
    cases u with
    |pointer o=>cases o with
     |none=>simp[Instr.sureAddr]at h4
     |some ad=>simpa[Instr.sureAddr,asAddr]using h4
    |_=>simp[Instr.sureAddr]at h4
   rw[List.mapM_cons]
   simp only[Sem.run_bind]
   rw[aQ]
   simp[k3,AV.cl]
theorem sK {P:Program}{T:List TI}{r:Option Nat}{Q:Exit→Act→World→Prop}(hT:ao P T){n:Nat}{W:List Nat}{ops:Array Oper}{K:AA→AH→Prop}{D:List Deferred}{ρ0:Env}{M0:AH}{w0:World}:
 ∀(l tl:List Oper)(k:Nat)(a:AA)(M:AH)(ρ:Env)(w:World)(act:Act),ops.toList.drop k=l++tl→aR ρ M w→Ext ρ0 M0 w0 ρ M w→bs ρ D n a act→qc P T n W ops (fun _ _=>False) K l a M→
  (∀a' aG M' ρ' w',K a' M'→bs ρ' D n a' aG→aR ρ' M' w'→Ext ρ0 M0 w0 ρ' M' w'→wpOpsIn (FW r) 0 P ops Q (List.range' (k+l.length) tl.length) aG w')→
  wpOpsIn (FW r) 0 P ops Q (List.range' k (l++tl).length) act w
 |[],tl,k,a,M,ρ,w,act,_,hs,hE,ha,h,hK=>hK a act M ρ w h ha hs hE
 |o::l,tl,k,a,M,ρ,w,act,hl,hs,hE,ha,h,hK=>by
  have hi:ops[k]?=some o:=by
   have:=congrArg (fun l=>l[0]?) hl
   simpa using this
  have PF:ops.toList.drop (k+1)=l++tl:=by
   have:=congrArg List.tail hl
   simpa using this
  simp only[qc]at h
  have key:=dI (r:=r) (Q:=Q) (K':=wpOpsIn (FW r) 0 P ops Q (List.range' (k+1) (l++tl).length)) hT hs ha h
   (fun a' aG M' ρ' w' h1 h2 h3 h4=>sK hT l tl (k+1) a' M' ρ' w' aG PF h3 (hE.trans h4) h2 h1 (fun WM Jp lp gp uP g1 g2 g3 g4=>by
    have:=hK WM Jp lp gp uP g1 g2 g3 g4
    rw[List.length_cons,show k+(l.length+1)=k+1+l.length by omega]at this
    exact this))
   (fun rv M' ρ' w' h1 h2 h3 h4=>h1.elim)
  rw[List.cons_append,List.length_cons,List.range'_succ]
  exact sm hi key.1 key.2
def Mn (P:Program)(T:List TI)(gd:Nat)(ER:List AV)(rs:List ResultVar)(a:AA)(K:AV→AH→Prop)(v:Option AV)(M:AH):Prop:=
 rE P gd ER M v fun M'=>xL T M' a rs fun vs=>match vs with
  |[z]=>K z M'
  |vs=>K (.aL vs) M'
def OX (P:Program)(T:List TI)(gd:Nat)(ER:List AV)(rs:List ResultVar)(a:AA)(K:AV→AH→Prop)(e:iW)(_:AA)(M:AH):Prop:=
 match e with
 | .normal=>Mn P T gd ER rs a K none M
 | .ret=>Mn P T gd ER rs a K none M
 |_=>False
def qN (x:Cx)(rs:List ResultVar)(rest:Code)(dst:Option Nat)(f:Operand)(as:List Operand)(K:AV→AH→Prop)(a:AA)(M:AH):Prop:=
 match oY a f with
 | .fn (.func gd) first cap=>ax x rest (OX x.P x.T gd (first++as.map (oY a)++cap) rs (a.put x.n dst (.aL [])) K) (fun v M'=>Mn x.P x.T gd (first++as.map (oY a)++cap) rs (a.put x.n dst (.aL [])) K (some v) M') (a.put x.n dst (.aL [])) M
 |_=>False
def Rk (ts:List Nat)(c:Code):Bool:=eG (ts.map fun t=>(t,undef)) c
theorem BB {pin pin':My}(h:pin.map (·.1)=pin'.map (·.1)):∀c:Code,eG pin c=eG pin' c:=by
 have hd:∀d,qq pin d=qq pin' d:=by
  intro d
  have:∀p:My,qq p d=(p.map (·.1)).all fun t=>!(d==some t):=fun p=>by unfold qq;rw[List.all_map];rfl
  rw[this,this,h]
 intro c
 induction c with
 |region id ops d=>simp only[eG,hd]
 |seq a b h1 h2=>simp only[eG,h1,h2]
 |cond o a b h1 h2=>simp only[eG,h1,h2]
 |block id a h=>simp only[eG,h]
 |loop a h=>simp only[eG,h]
 |scope a h=>simp only[eG,h]
 |rangeFunc f ps a b=>
  simp only[eG]
  cases pin<;>cases pin'<;>simp_all
 |_=>rfl
theorem aa.O2 {x:Cx}(hT:ao x.P x.T)(hm:x.P.follows .mixedOrders=true){g:Nat}{fn:Func}{c:Code}(hf:x.P.funcs[g]?=some fn)(hb:fn.body=some c)(hg:nY x.P g=true)(bO:aj x.pl c=true)(hr:x.r=none)
 {args:List AV}{M:AH}{K Kp:AV→AH→Prop}(hn:fn.ntmps=x.n)(hle:Nat.ble args.length x.n=true)
 (k:Nat){id:Nat}{ops:Array Oper}{rest:Code}{l:List Oper}{o:Oper}{f:Operand}{as ij}(Ic:jN k c=.seq (.region id ops false) rest)(Il:ops.toList=l++[o])(rQ:o.op=.defer ⟨.value f,as,ij⟩)(PL:o.guard=none)
 (Pp:aj x.pl rest=true)(fl:yz fn.results.toList=true)(oF:Rk (AU fn.results.toList) rest=true)
 (h:rK x (fun a M=>sL x ops (fun _ _=>False) (qN x fn.results.toList rest o.dst f as.toList K) l a M) (az x.T fn.results.toList K) Kp k c (au args) M):aa x.P g args M K Kp:=by
 unfold aa
 refine⟨hg,fun ρ w hs aA=>?_⟩
 have PB:args.length≤x.n:=by simpa using hle
 have hlen:(AV.cl ρ args).toArray.size=args.length:=by simp[AV.aU]
 have ha:bs ρ [] x.n (au args) {tmps:=(AV.cl ρ args).toArray++Array.replicate (fn.ntmps-(AV.cl ρ args).toArray.size) undef,defers:=[]}:=by
  refine⟨rfl,?_,fun t=>?_,fun t=>?_⟩
  ·rw[Array.size_append,Array.size_replicate,hlen,hn];omega
  ·simp only[au];split
   ·exact(AV.aH ρ args).1 aA _ (List.mem_of_getElem? ‹_›)
   ·exact trivial
  ·simp only[au,Array.getD_eq_getD_getElem?]
   by_cases ht:t<args.length
   ·rw[Array.getElem?_append_left (by rw[hlen];exact ht)]
    simp[AV.aU,List.getElem?_eq_getElem ht]
   ·rw[Array.getElem?_append_right (by rw[hlen];omega),List.getElem?_eq_none (by omega)]
    simp only[Array.getElem?_replicate]
    split<;>rfl
 have BK:∀{e:Exit}{act:Act}{w':World},ep ρ M w [] x.n (az x.T fn.results.toList K) Kp e act w'→bodyPostM Fence.wide 0 x.P fn (gX ρ M w K Kp) e act w':=by
  intro e act w' hq
  have fin:∀(ρ':Env)(M':AH)(a':AA)(D':List Deferred),aR ρ' M' w'→Ext ρ M w ρ' M' w'→Marks w.heap.size [] D' w'→bs ρ' D' x.n a' act→(xL x.T M' a' fn.results.toList fun vs=>match vs with|[v]=>K v M'|vs=>K (.aL vs) M')→
   LeavesInM Fence.wide 0 x.P fn act.tmps (gX ρ M w K Kp) act.defers .returning w':=by
   intro ρ' M' a' D' h1 h2 ⟨rs,BT,Ey,yj⟩ h3 h4
   rw[h3.defers,BT,List.append_nil]
   refine cN (by simp) (fun w2 g1 g2=>?_) rs w' Ey yj h1 h2
   obtain⟨vs,k1,k2,k3⟩:=iy hT g1 h3 _ _ h4
   have yg:(fn.results.mapM (qi act.tmps)).run x.P w2=Result.ok (AV.cl ρ' vs).toArray w2:=by
    rw[Array.mapM_eq_mapM_toList]
    simp[k3]
   show∃v,(results fn act.tmps).run x.P w2=.ok v w2∧gX ρ M w K Kp (.returned v) w2
   rw[iw]
   simp only[Sem.run_bind,yg]
   match vs,k1,k2 with
   |[v],k1,k2=>exact⟨v.c ρ',by simp[AV.cl],ρ',M',g1,g2,v,rfl,k2.1,k1⟩
   |[],k1,k2=>exact⟨(AV.aL []).c ρ',by simp[AV.cl,AV.c],ρ',M',g1,g2,.aL [],rfl,k2,k1⟩
   |v::u::vs,k1,k2=>exact⟨(AV.aL (v::u::vs)).c ρ',by simp[AV.cl,AV.c],ρ',M',g1,g2,.aL (v::u::vs),rfl,k2,k1⟩
  cases e with
  |normal=>obtain⟨ρ',M',a',D',h1,h2,hm,h3,h4⟩:=hq;exact fin ρ' M' a' D' h1 h2 hm h3 h4
  |ret=>obtain⟨ρ',M',a',D',h1,h2,hm,h3,h4⟩:=hq;exact fin ρ' M' a' D' h1 h2 hm h3 h4
  |exit id=>obtain⟨ρ',M',a',D',h1,h2,hm,h3,h4⟩:=hq;exact h4.elim
  |panic ch=>
   obtain⟨ρ',M',v,D',h1,h2,⟨rs,BT,Ey,yj⟩,h3,h4,h5,h6⟩:=hq
   show LeavesInM Fence.wide 0 x.P fn act.tmps (gX ρ M w K Kp) act.defers (.panicking ch) w'
   rw[h3,BT,List.append_nil]
   refine cN (F:=Fence.wide) (n:=0) (P:=x.P) (fn:=fn) (tmps:=act.tmps) (R:=gX ρ M w K Kp) (u:=.panicking ch) (by simp) (fun w2 g1 g2=>?_) rs w' Ey yj h1 h2
   show gX ρ M w K Kp (.panicked ch) w2
   exact⟨ρ',M',g1,g2,v,h4,h5,h6⟩
  |goto l=>exact hq.elim
  |outgrown=>exact hq.elim
 refine callsIn_wide.1 (callsIn_of_wp_marks (F:=Fence.wide) (n:=0) hf hb trivial ?_)
 have Zg:(FW x.r)=Fence.wide:=by rw[hr];rfl
 have key:∀(k:Nat)(c:Code)(a:AA)(M1:AH)(mL:Env)(w1:World)(nK:Act)(D1:List Deferred),jN k c=.seq (.region id ops false) rest→aj x.pl c=true→
  rK x (fun a M=>sL x ops (fun _ _=>False) (qN x fn.results.toList rest o.dst f as.toList K) l a M) (az x.T fn.results.toList K) Kp k c a M1→
  aR mL M1 w1→Ext ρ M w mL M1 w1→Marks w.heap.size [] D1 w1→bs mL D1 x.n a nK→c.wpIn (FW x.r) 0 x.P (bodyPostM Fence.wide 0 x.P fn (gX ρ M w K Kp)) nK w1:=by
  intro k
  induction k with
  |succ k ih=>
   intro c a M1 mL w1 nK D1 ht hp h gn SJ QJ L9
   cases c with
   |seq c d=>
    simp only[aj,Bool.and_eq_true]at hp
    have h':ax x c (Bm (rK x (fun a M=>sL x ops (fun _ _=>False) (qN x fn.results.toList rest o.dst f as.toList K) l a M) (az x.T fn.results.toList K) Kp k d) (az x.T fn.results.toList K)) Kp a M1:=h
    rw[dx]at h'
    refine wpIn_seq (wpIn_mono (lg hT hm c hp.1 _ Kp a M1 mL w1 nK D1 gn SJ QJ L9 h') fun e aG w' hq=>?_)
    cases e with
    |normal=>
     obtain⟨ρ',M',a',D',h1,h2,vo,h3,h4⟩:=hq
     exact ih d a' M' ρ' w' aG D' ht hp.2 h4 h1 h2 vo h3
    |exit id=>exact BK (e:=.exit id) hq
    |ret=>exact BK (e:=.ret) hq
    |panic ch=>exact BK (e:=.panic ch) hq
    |goto l=>exact hq.elim
    |outgrown=>exact hq.elim
   |_=>exact h.elim
  |zero=>
   intro c a M1 mL w1 nK D1 ht hp h gn SJ QJ L9
   have Yj:c=.seq (.region id ops false) rest:=ht
   subst Yj
   have h':sL x ops (fun _ _=>False) (qN x fn.results.toList rest o.dst f as.toList K) l a M1:=h
   rw[pw]at h'
   refine wpIn_seq (wpIn_region ?_)
   rw[show List.range ops.size=List.range' 0 (l++[o]).length by rw[List.range_eq_range',←Il,Array.length_toList]]
   refine sK (ρ0:=mL) (M0:=M1) (w0:=w1) hT l [o] 0 a M1 mL w1 nK (by rw[List.drop_zero,Il]) gn (Ext.refl _ _ _) L9 h' fun a2 kp M2 eh w2 hd uV nI UD=>?_
   have YJ:ops[0+l.length]?=some o:=by
    have:=congrArg (fun q=>q[l.length]?) Il
    simpa using this
   unfold qN at hd
   split at hd
   ·rename_i gd first cap VQ
    have A9:=(uV.ev f).1
    have wJ:=(uV.ev f).2
    rw[VQ]at A9 wJ
    simp only[AV.ok]at wJ
    obtain⟨Zt,Zs⟩:=yy uV.ev as.toList
    show wpOpsIn (FW x.r) 0 x.P ops _ [0+l.length] kp w2
    simp only[wpOpsIn,YJ]
    rw[if_pos (by unfold Region.wanted;rw[PL])]
    have aQ:(o.semAt (FW x.r).round kp.eval).run x.P w2=.ok (.defer {target:=.fn (.func gd) (AV.cl eh cap).toArray,args:=(AV.cl eh first).toArray++as.map kp.eval}) w2:=by
     rw[hr]
     show(o.semAt none kp.eval).run x.P w2=_
     rw[Oper.semAt_none]
     obtain⟨dst,op,ty,pos,after,guard⟩:=o
     simp only at rQ
     subst rQ
     simp only[AV.c]at A9
     simp[execOp,resolve,A9,Deferred.ofValue]
    refine⟨fun _ _=>trivial,?_⟩
    rw[aQ]
    obtain⟨Jn,M9⟩:∃Jn,Jn=({kp with defers:={target:=.fn (.func gd) (AV.cl eh cap).toArray,args:=(AV.cl eh first).toArray++as.map kp.eval}::kp.defers}:Act).put o.dst undef:=⟨_,rfl⟩
    obtain⟨dd,VV⟩:∃dd:Deferred,dd={target:=.fn (.func gd) (AV.cl eh cap).toArray,args:=(AV.cl eh first).toArray++as.map kp.eval}:=⟨_,rfl⟩
    obtain⟨a3,Sv⟩:∃a3,a3=a2.put x.n o.dst (.aL []):=⟨_,rfl⟩
    obtain⟨da,Sm⟩:∃da,da=first++as.toList.map (oY a2)++cap:=⟨_,rfl⟩
    rw[←Sv,←Sm]at hd
    have L8:bs eh (dd::D1) x.n a3 Jn:=by
     have h0:bs eh (dd::D1) x.n a2 ({kp with defers:=dd::kp.defers}:Act):=⟨by show dd::kp.defers=_;rw[uV.defers],uV.size,uV.ok,uV.get⟩
     have:=h0.put o.dst (v:=.aL []) trivial
     rw[Sv,M9,←VV]
     exact this
    have Sl:AV.dD eh da:=by rw[Sm];exact iD (iD wJ.1 Zs) wJ.2
    have YR:(AV.cl eh da).toArray=(AV.cl eh first).toArray++as.map kp.eval++(AV.cl eh cap).toArray:=by
     apply Array.toList_inj.1
     rw[Sm,fK,fK,←Zt]
     simp
    show rest.wpIn (FW x.r) 0 x.P (bodyPostM Fence.wide 0 x.P fn (gX ρ M w K Kp)) _ w2
    rw[←M9]
    rw[dx]at hd
    have RR:dp ((AU fn.results.toList).map fun t=>(t,(a3 t).c eh)) Jn:=by
     intro p hp
     obtain⟨t,_,rfl⟩:=List.mem_map.1 hp
     exact L8.get t
    have RX:eG ((AU fn.results.toList).map fun t=>(t,(a3 t).c eh)) rest=true:=by
     rw[BB (pin':=(AU fn.results.toList).map fun t=>(t,undef)) (by simp[List.map_map,Function.comp_def])]
     exact oF
    refine wpIn_mono (fJ hT hm rest Pp _ _ a3 M2 eh w2 Jn (dd::D1) nI (Ext.refl _ _ _) (Marks.refl _ _ _) L8 RX RR hd) fun e DA w4 hq=>?_
    obtain⟨hq,RQ⟩:=hq
    have close:∀{v:Option AV}{JM:Env}{M4:AH}{D4:List Deferred}{u:FrameMode},aR JM M4 w4→Ext eh M2 w2 JM M4 w4→Marks w2.heap.size (dd::D1) D4 w4→DA.defers=D4→u≠ .run→HR JM v u→Mn x.P x.T gd da fn.results.toList a3 K v M4→
     LeavesInM Fence.wide 0 x.P fn DA.tmps (gX ρ M w K Kp) DA.defers u w4:=by
     intro v JM M4 D4 u s4 e4 ⟨rs,BT,Ey,yj⟩ Ae hu R5 qG
     rw[Ae,BT]
     refine nW (ρ0:=mL) (M0:=M1) (w0:=w1) hu (fun w5 g1 g2=>?_) rs w4 Ey (fun r hr=>⟨Nat.le_trans UD.size (yj r hr).1,(yj r hr).2⟩) s4 (UD.trans e4)
     refine⟨hu,.inr ⟨fun h=>(by cases h),.func gd,(AV.cl eh cap).toArray,gd,(AV.cl eh first).toArray++as.map kp.eval++(AV.cl eh cap).toArray,by rw[VV],?_,fun _ _=>trivial,?_⟩⟩
     ·rw[VV]
      simp only[invoke]
      exact nw qG.1 _ _
     ·have EE:=qG.2 JM w5 u g1 (AV.fQ e4.env da Sl) R5
      rw[AV.jH e4.env da Sl,YR]at EE
      refine CallsDIn.mono EE fun e6 u6 w6 h6=>?_
      obtain⟨⟨y,rfl⟩,BR,Nu,M6,s6,e6,rP⟩:=h6
      show LeavesInM Fence.wide 0 x.P fn DA.tmps (gX ρ M w K Kp) D1 (settle u6) w6
      rw[BR]
      obtain⟨X3,Vf,Vv,V2⟩:=QJ.kY gn (g2.trans e6)
      rw[Vf,List.append_nil]
      refine cN (ρ0:=ρ) (M0:=M) (w0:=w) (by simp) (fun w7 q1 q2=>?_) X3 w6 Vv V2 s6 (SJ.trans (g2.trans e6))
      obtain⟨vs,k1,k2,k3⟩:=zy (act:=DA) hT q1 fn.results.toList _ fl (fun t ht=>by
       rw[AV.cX e6.env (a3 t) (AV.cy e4.env (a3 t) (L8.ok t)),AV.cX e4.env (a3 t) (L8.ok t)]
       exact RQ (t,(a3 t).c eh) (List.mem_map.2 ⟨t,ht,rfl⟩)) rP
      have yg:(fn.results.mapM (qi DA.tmps)).run x.P w7=Result.ok (AV.cl Nu vs).toArray w7:=by
       rw[Array.mapM_eq_mapM_toList]
       simp[k3]
      show∃v,(results fn DA.tmps).run x.P w7=.ok v w7∧gX ρ M w K Kp (.returned v) w7
      rw[iw]
      simp only[Sem.run_bind,yg]
      match vs,k1,k2 with
      |[v],k1,k2=>exact⟨v.c Nu,by simp[AV.cl],Nu,M6,q1,q2,v,rfl,k2.1,k1⟩
      |[],k1,k2=>exact⟨(AV.aL []).c Nu,by simp[AV.cl,AV.c],Nu,M6,q1,q2,.aL [],rfl,k2,k1⟩
      |v::u::vs,k1,k2=>exact⟨(AV.aL (v::u::vs)).c Nu,by simp[AV.cl,AV.c],Nu,M6,q1,q2,.aL (v::u::vs),rfl,k2,k1⟩
    cases e with
    |normal=>obtain⟨JM,M4,a4,D4,s4,e4,m4,UJ,hl⟩:=hq;exact close (v:=none) s4 e4 m4 UJ.defers (by simp) rfl hl
    |ret=>obtain⟨JM,M4,a4,D4,s4,e4,m4,UJ,hl⟩:=hq;exact close (v:=none) s4 e4 m4 UJ.defers (by simp) rfl hl
    |exit id=>obtain⟨JM,M4,a4,D4,s4,e4,m4,UJ,hl⟩:=hq;exact hl.elim
    |panic ch=>
     obtain⟨JM,M4,v,D4,s4,e4,m4,Ae,XB,F4,hl⟩:=hq
     exact close (v:=some v) s4 e4 m4 Ae (by simp) ⟨by rw[XB],F4⟩ hl
    |goto l=>exact hq.elim
    |outgrown=>exact hq.elim
   ·exact hd.elim
 have h0:=key k c (au args) M ρ w _ [] Ic bO h hs (Ext.refl _ _ _) (Marks.refl _ _ _) ha
 rw[Zg]at h0
 exact h0
def MP:Code→Option (Array Oper×Code×List Oper×Oper×Operand×Array Operand)
 | .seq (.region _ ops false) rest=>match ops.toList.reverse with
   |o::l=>match o.op,o.guard with
    | .defer ⟨.value f,as,_⟩,none=>some (ops,rest,l.reverse,o,f,as)
    |_,_=>none
   |[]=>none
 |_=>none
theorem aa.Qa {x:Cx}(hT:ao x.P x.T)(hm:x.P.follows .mixedOrders=true){g:Nat}{fn:Func}{c:Code}(hf:x.P.funcs[g]?=some fn)(hb:fn.body=some c)(hg:nY x.P g=true)(bO:aj x.pl c=true)(hr:x.r=none)
 {args:List AV}{M:AH}{K Kp:AV→AH→Prop}(hn:fn.ntmps=x.n)(hle:Nat.ble args.length x.n=true)
 (k:Nat){ops:Array Oper}{rest:Code}{l:List Oper}{o:Oper}{f:Operand}{as:Array Operand}(hd:MP (jN k c)=some (ops,rest,l,o,f,as))
 (Pp:aj x.pl rest=true)(fl:yz fn.results.toList=true)(oF:Rk (AU fn.results.toList) rest=true)
 (h:rK x (fun a M=>sL x ops (fun _ _=>False) (qN x fn.results.toList rest o.dst f as.toList K) l a M) (az x.T fn.results.toList K) Kp k c (au args) M):aa x.P g args M K Kp:=by
 unfold MP at hd
 split at hd
 ·rename_i id UP WU Ic
  split at hd
  ·rename_i o' l' Vj
   split at hd
   ·rename_i f' as' ij rQ PL
    simp only[Option.some.injEq,Prod.mk.injEq]at hd
    obtain⟨rfl,rfl,rfl,rfl,rfl,rfl⟩:=hd
    have Il:UP.toList=l'.reverse++[o']:=by
     have:=congrArg List.reverse Vj
     simpa using this
    exact aa.O2 hT hm hf hb hg bO hr hn hle k Ic Il rQ PL Pp fl oF h
   ·cases hd
  ·cases hd
 ·cases hd
attribute[irreducible] rE
end Go.Proofs.Ytibadaomjlkoaaa
