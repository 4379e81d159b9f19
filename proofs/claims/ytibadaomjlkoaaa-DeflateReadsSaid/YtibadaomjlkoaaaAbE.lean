import Derived.Test.YtibadaomjlkoaaaAbW
import Derived.RecoverIn
set_option linter.unusedVariables false
set_option linter.unusedSimpArgs false
open Go.RowKit
namespace Go.Proofs.Ytibadaomjlkoaaa
def Lf (ρ:Env)(v:Option AV)(u:FrameMode):Prop:=match v with
 |none=>u=.returning
 |some v=>u=.panicking [{v:=v.c ρ,recovered:=false}]∧v.ok ρ
def tW (P:Program)(g:Nat)(args:List AV)(M:AH)(v:Option AV)(K:AH→Prop):Prop:=
 pS P g=true∧∀ρ w u,aW ρ M w→AV.eb ρ args→Lf ρ v u→
  CallsDIn (FW none) 0 P g (AV.cl ρ args).toArray u w fun e u' w'=>(∃x,e=.returned x)∧settle u'=.returning∧∃ρ' M',aW ρ' M' w'∧Ext ρ M w ρ' M' w'∧K M'
def S5 (v:Option AV):AV:=match v with
 |none=>.ni
 |some v=>v
def Kt:Op→Bool
 | .move _| .assign _| .typeAssert ..| .extract ..| .alloc _| .store ..| .load ..| .fieldAddr ..| .binOp ..=>true
 |_=>false
theorem GM {P:Program}{s:Sem Value}{w w':World}{x:Next}(h:(do pure (.value (←s)):Sem Next).run P w=.ok x w'):∃z,x=.value z:=by
 simp only[Sem.run_bind]at h
 cases hs:s.run P w with
 |ok a w1=>rw[hs]at h;simp at h;exact⟨a,h.1.symm⟩
 |halt a w1=>rw[hs]at h;simp at h
theorem BP {P:Program}{s:Sem Unit}{w w':World}{x:Next}(h:(do s;pure .skip:Sem Next).run P w=.ok x w'):x=.skip:=by
 simp only[Sem.run_bind]at h
 cases hs:s.run P w with
 |ok a w1=>rw[hs]at h;simp at h;exact h.1.symm
 |halt a w1=>rw[hs]at h;simp at h
theorem Ks {P:Program}{o:Oper}(hb:Kt o.op=true){f:Operand→Value}{w w':World}{x:Next}(h:(execOp f o).run P w=.ok x w'):(∃z,x=.value z)∨x=.skip:=by
 obtain⟨dst,op,ty,pos,after,guard⟩:=o
 cases op<;>simp only[Kt]at hb<;>first
  |(cases hb;done)
  |exact .inl (GM h)
  |exact .inr (BP h)
  |(simp only[execOp]at h;exact .inl (GM h))
  |(simp only[execOp]at h;exact .inr (BP h))
  |(simp[execOp]at h;exact .inl ⟨_,h.1.symm⟩)
def KI (P:Program)(T:List TI)(n:Nat)(W:List Nat)(v:Option AV)(K:AA→AH→Prop):Bool→List Oper→AA→AH→Prop
 |_,[],a,M=>K a M
 |done,o::l,a,M=>match o.guard with
  |some _=>False
  |none=>match o.op with
   | .call ⟨.builtin .recover,args,_⟩=>match done,args.toList with
     |false,[]=>KI P T n W v K true l (a.put n o.dst (S5 v)) M
     |_,_=>False
   |op=>bK (Kt op) (JC P T (dy W o.dst) M (qL a) op (fun z M'=>KI P T n W v K done l (a.put n o.dst z) M') (fun _ _=>False))
section
variable{P:Program}{T:List TI}
def Gx (v:Option Value)(done:Bool)(c:Frame):Prop:=match v,done with
 |none,_=>c.mode=.returning
 |some v,false=>c.mode=.panicking [{v:=v,recovered:=false}]
 |some v,true=>c.mode=.panicking [{v:=v,recovered:=true}]
theorem ma (hT:av P T){n:Nat}{W:List Nat}{ops:Array Oper}{v:Option AV}{vc:Option Value}{K:AA→AH→Prop}{D:List Deferred}{ρ0:Env}{M0:AH}{w0:World}{c0:Frame}{cs:List Frame}{Q:Exit→Act→List Frame→World→Prop}:
 ∀(l:List Oper)(k:Nat)(done:Bool)(a:AA)(M:AH)(ρ:Env)(w:World)(act:Act)(c:Frame),ops.toList.drop k=l→aW ρ M w→Ext ρ0 M0 w0 ρ M w→(S5 v).ok ρ→vc=v.map (AV.c ρ)→bQ ρ D n a act→Gx vc done c→(∃u,c={c0 with mode:=u})→KI P T n W v K done l a M→
  (∀a' M' ρ' w' aP c' pV,K a' M'→aW ρ' M' w'→Ext ρ0 M0 w0 ρ' M' w'→bQ ρ' D n a' aP→Gx vc pV c'→(∃u,c'={c0 with mode:=u})→(pV=false→done=false∧∀o∈l,∀as js,o.op≠ .call ⟨.builtin .recover,as,js⟩)→Q .normal aP (c'::cs) w')→
  wpOpsSIn (FW none) 0 P ops Q (List.range' k l.length) act (c::cs) w
 |[],k,done,a,M,ρ,w,act,c,_,hs,hE,_,_,ha,hb,hc,h,hK=>hK a M ρ w act c done h hs hE ha hb hc (fun hd=>⟨hd,fun o ho=>by cases ho⟩)
 |o::l,k,done,a,M,ρ,w,act,c,hl,hs,hE,hv,UQ,ha,hb,hc,h,hK=>by
  have hi:ops[k]?=some o:=by
   have:=congrArg (fun l=>l[0]?) hl
   simpa using this
  have T4:ops.toList.drop (k+1)=l:=by
   have:=congrArg List.tail hl
   simpa using this
  simp only[KI]at h
  split at h
  ·exact h.elim
  ·rename_i hg
   rw[List.length_cons,List.range'_succ]
   simp only[wpOpsSIn,hi]
   refine⟨fun _ _=>trivial,?_⟩
   rw[if_pos (by unfold Region.wanted;rw[hg])]
   split at h
   ·rename_i args js uj
    split at h
    ·rename_i kz
     obtain rfl:args=#[]:=by apply Array.toList_inj.1;simpa using kz
     have aN:(execOp act.eval o).run P w=.ok .recover w:=by
      obtain⟨dst,op,ty,pos,after,guard⟩:=o
      simp only at uj
      subst uj
      simp[execOp,resolve,invoke,builtin]
     rw[aN]
     simp only
     cases v with
     |none=>
      obtain rfl:vc=none:=UQ
      have hm:c.mode=.returning:=hb
      have wm:recoverD (c::cs)=none:=by simp[recoverD,hm]
      rw[wm]
      simp only
      exact ma hT l (k+1) true (a.put n o.dst .ni) M ρ w (act.put o.dst .nilIface) c T4 hs hE hv rfl (ha.put o.dst (v:=.ni) hv) hm hc h (fun a' M' ρ' w' aP c' pV h1 h2 h3 h4 h5 h6 h7=>hK a' M' ρ' w' aP c' pV h1 h2 h3 h4 h5 h6 (fun hd=>by have:=(h7 hd).1;cases this))
     |some z=>
      obtain rfl:vc=some (z.c ρ):=UQ
      have hm:c.mode=.panicking [{v:=z.c ρ,recovered:=false}]:=hb
      have wm:recoverD (c::cs)=some (z.c ρ,{c with mode:=.panicking [{v:=z.c ρ,recovered:=true}]}::cs):=by simp[recoverD,hm]
      rw[wm]
      simp only
      obtain⟨u,rfl⟩:=hc
      exact ma hT l (k+1) true (a.put n o.dst z) M ρ w (act.put o.dst (z.c ρ)) _ T4 hs hE hv rfl (ha.put o.dst (v:=z) hv) rfl ⟨_,rfl⟩ h (fun a' M' ρ' w' aP c' pV h1 h2 h3 h4 h5 h6 h7=>hK a' M' ρ' w' aP c' pV h1 h2 h3 h4 h5 h6 (fun hd=>by have:=(h7 hd).1;cases this))
    ·exact h.elim
   ·rename_i hnr
    replace h:=aw h
    obtain⟨hsb,h⟩:=h
    have PN:=wG (r:=none) (Q:=fun _ _ _=>False) (o:=o) hT hs ha.ev h (K':=fun aP w'=>wpOpsSIn (FW none) 0 P ops Q (List.range' (k+1) l.length) aP (c::cs) w')
     (fun rv M' ρ' w' g1 g2 g3 g4=>ma hT l (k+1) done (a.put n o.dst rv) M' ρ' w' (act.put o.dst (rv.c ρ')) c T4 g3 (hE.trans g4) (AV.cW g4.env _ hv)
      (by rw[UQ];cases v with
       |none=>rfl
       |some z=>exact congrArg some (AV.dr g4.env z hv).symm) ((ha.ext g4.env).put o.dst g2) hb hc g1 (fun a' mK iG xh aP c' pV h1 h2 h3 h4 h5 h6 h7=>hK a' mK iG xh aP c' pV h1 h2 h3 h4 h5 h6 (fun hd=>by
       obtain⟨p1,p2⟩:=h7 hd
       refine⟨p1,fun o' wo as js=>?_⟩
       rcases List.mem_cons.1 wo with rfl|wo
       ·intro e
        exact hnr _ _ e
       ·exact p2 o' wo as js)))
     (fun rv M' ρ' w' g1 _ _ _=>g1.elim)
    generalize ui:(execOp act.eval o).run P w=res at PN
    cases res with
    |ok x w1=>
     rcases Ks hsb ui with⟨z,rfl⟩|rfl
     ·exact PN
     ·exact PN
    |halt x w1=>cases x<;>exact PN.elim
end
def nH:Code→Bool
 | .skip=>true
 | .ret=>true
 | .seq a b=>nH a&&nH b
 | .cond _ a b=>nH a&&nH b
 | .region _ _ _=>true
 |_=>false
def HY (ρ0:Env)(M0:AH)(w0:World)(D:List Deferred)(n:Nat)(Q:jr→AA→AH→Prop)(e:Exit)(act:Act)(w':World):Prop:=
 match e with
 | .normal=>∃ρ' M' a',aW ρ' M' w'∧Ext ρ0 M0 w0 ρ' M' w'∧bQ ρ' D n a' act∧Q .normal a' M'
 | .ret=>∃ρ' M' a',aW ρ' M' w'∧Ext ρ0 M0 w0 ρ' M' w'∧bQ ρ' D n a' act∧Q .ret a' M'
 |_=>False
theorem YW {x:Cx}(hT:av x.P x.T)(hm:x.P.follows .mixedOrders=true){ρ0:Env}{M0:AH}{w0:World}{D:List Deferred}:
 ∀(c:Code)(_:nH c=true)(_:ai x.pl c=true)(Q:jr→AA→AH→Prop)(a:AA)(M:AH)(ρ:Env)(w:World)(act:Act),(∀id a M,¬Q (.exit id) a M)→aW ρ M w→Ext ρ0 M0 w0 ρ M w→bQ ρ D x.n a act→bO x c Q (fun _ _=>False) a M→
  c.wpIn (FW x.r) 0 x.P (HY ρ0 M0 w0 D x.n Q) act w:=by
 intro c
 induction c with
 |skip=>exact fun _ _ Q a M ρ w act _ hs hE ha h=>wpIn_skip ⟨ρ,M,a,hs,hE,ha,h⟩
 |ret=>exact fun _ _ Q a M ρ w act _ hs hE ha h=>wpIn_ret ⟨ρ,M,a,hs,hE,ha,h⟩
 |seq c d PK PJ=>
  intro cg sT Q a M ρ w act hx hs hE ha h
  simp only[nH,Bool.and_eq_true]at cg
  simp only[ai,Bool.and_eq_true]at sT
  refine wpIn_seq (wpIn_mono (PK cg.1 sT.1 (fun e a M=>match e with| .normal=>bO x d Q (fun _ _=>False) a M|e=>Q e a M) a M ρ w act (fun id a M h=>hx id a M h) hs hE ha h) fun e aP w' hq=>?_)
  cases e with
  |normal=>obtain⟨ρ',M',a',h1,h2,h3,h4⟩:=hq;exact PJ cg.2 sT.2 Q a' M' ρ' w' aP hx h1 h2 h3 h4
  |ret=>exact hq
  |exit id=>exact hq.elim
  |panic ch=>exact hq.elim
  |goto l=>exact hq.elim
  |outgrown=>exact hq.elim
 |cond o c d PK PJ=>
  intro cg sT Q a M ρ w act hx hs hE ha h
  simp only[nH,Bool.and_eq_true]at cg
  simp only[ai,Bool.and_eq_true]at sT
  have he:=(ha.ev o).1
  simp only[bO]at h
  split at h<;>rename_i hh<;>(try rw[hh]at he)
  ·exact wpIn_cond_true he (PK cg.1 sT.1 Q a M ρ w act hx hs hE ha h)
  ·exact wpIn_cond_false he (PJ cg.2 sT.2 Q a M ρ w act hx hs hE ha h)
  ·exact wpIn_cond_split he (fun hb=>PK cg.1 sT.1 Q a M ρ w act hx hs hE ha (h.1 hb)) (fun hb=>PJ cg.2 sT.2 Q a M ρ w act hx hs hE ha (h.2 hb))
  ·exact h.elim
 |region id ops draw=>
  intro cg sT Q a M ρ w act hx hs hE ha h
  simp only[bO]at h
  cases draw with
  |false=>
   refine wpIn_region ?_
   have:=p9 (r:=x.r) (Q:=HY ρ0 M0 w0 D x.n Q) (ρ0:=ρ) (M0:=M) (w0:=w) hT ops.toList 0 a M ρ w act (by simp) hs (Ext.refl _ _ _) ha h
    (fun a' aP M' ρ' w' h1 h2 h3 h4=>⟨ρ',M',a',h3,hE.trans h4,h2,h1⟩) (fun rv M' ρ' w' aP h0 h1 h2 h3 h4=>h1.elim)
   rw[show List.range ops.size=List.range' 0 ops.toList.length by rw[List.range_eq_range',Array.length_toList]]
   exact this
  |true=>
   simp only at h
   split at h
   ·rename_i cK ds TS
    simp only[ai,TS,Bool.and_eq_true]at sT
    obtain⟨⟨rJ,gm⟩,AL⟩:=sT
    obtain⟨B,hB⟩:∃B,x.B id=B:=⟨_,rfl⟩
    rw[hB]at h
    have hp:∀(i:Nat) o,ops[i]?=some o→cN o.op=true:=fun i o hi=>by
     exact Array.all_eq_true_iff_forall_mem.1 gm o (Array.mem_of_getElem? hi)
    have xL:aW ρ M {w with drawn:=w.drawn+1}:=⟨hs.pr,hs.tag,hs.aX,fun i g own y hy=>by
     rcases hs.holds i g own y hy with⟨q,h1,h2⟩|h1
     ·exact .inl ⟨q,h1,b8.ext (w:=w) (fun _ _ _ h=>h) rfl h2⟩
     ·exact .inr h1,hs.apart⟩
    have EK:Ext ρ0 M0 w0 ρ M {w with drawn:=w.drawn+1}:=⟨hE.env,hE.size,hE.frame,hE.fresh,hE.os,hE.tape,hE.output⟩
    cases cK with
    |nil=>
     refine wpIn_region_any hm (dN (S:=fun _=>True) (ds:=ds) hp _ _ _ _ ?_)
     exact tF (r:=x.r) (Q:=HY ρ0 M0 w0 D x.n Q) (w0:={w with drawn:=w.drawn+1}) hT rJ xL ha h
      (fun a' aP M' ρ' w' h1 h2 h3 h4=>⟨ρ',M',a',h3,EK.trans h4,h2,h1⟩)
    |cons p cK=>
    refine wpIn_region_any hm (dN (S:=SB ρ M B) (ds:=ds) hp _ _ _ _ ?_)
    exact bE (r:=x.r) (Q:=HY ρ0 M0 w0 D x.n Q) (ρ0:=ρ) (M0:=M) (w0:={w with drawn:=w.drawn+1}) hT hp
     (fun c aP d v w' hq=>hq)
     (p::cK) [] _ ops.size a M ρ _ act (SB ρ M B) (Nat.le_trans (List.length_filter_le _ _) (by simpa using AL)) rJ jY.none xL (Ext.refl _ _ _) ha (fun _=>SB.of xL B) (fun _ h=>h) (fun _ ρ' M' w' k1 k2 k3=>pw (SB.of xL B) k1 k2 k3) h
     (fun a' aP M' ρ' w' h1 h2 h3 h4=>⟨ρ',M',a',h3,EK.trans h4,h2,h1⟩) (fun rv M' ρ' w' aP h0 h1 h2 h3 h4=>h1.elim)
   ·exact h.elim
 |_=>intro cg;cases cg
theorem tW.intro {x:Cx}(hT:av x.P x.T)(hm:x.P.follows .mixedOrders=true){g:Nat}{fn:Func}{id:Nat}{ops:Array Oper}{rest:Code}(hf:x.P.funcs[g]?=some fn)(hb:fn.body=some (.seq (.region id ops false) rest))(hg:pS x.P g=true)(Zm:nH rest=true)(cg:ai x.pl rest=true)(hr:x.r=none)
 (ui:fn.results=#[])(wm:ops.toList.any (fun o=>match o.op with| .call ⟨.builtin .recover,_,_⟩=>true|_=>false)=true)
 {args:List AV}{M:AH}{v:Option AV}{K:AH→Prop}(hn:fn.ntmps=x.n)(hle:Nat.ble args.length x.n=true)
 (h:KI x.P x.T x.n x.W v (fun a M=>au x rest (fun e _ M'=>match e with| .normal=>K M'| .ret=>K M'|_=>False) (fun _ _=>False) a M) false ops.toList (aq args) M):tW x.P g args M v K:=by
 refine⟨hg,fun ρ w u hs aF hu=>?_⟩
 have T2:args.length≤x.n:=by simpa using hle
 have hlen:(AV.cl ρ args).toArray.size=args.length:=by simp[AV.bc]
 have ha:bQ ρ [] x.n (aq args) {tmps:=(AV.cl ρ args).toArray++Array.replicate (fn.ntmps-(AV.cl ρ args).toArray.size) undef,defers:=[]}:=by
  refine⟨rfl,?_,fun t=>?_,fun t=>?_⟩
  ·rw[Array.size_append,Array.size_replicate,hlen,hn];omega
  ·simp only[aq];split
   ·exact(AV.aQ ρ args).1 aF _ (List.mem_of_getElem? ‹_›)
   ·exact trivial
  ·simp only[aq,Array.getD_eq_getD_getElem?]
   by_cases ht:t<args.length
   ·rw[Array.getElem?_append_left (by rw[hlen];exact ht)]
    simp[AV.bc,List.getElem?_eq_getElem ht]
   ·rw[Array.getElem?_append_right (by rw[hlen];omega),List.getElem?_eq_none (by omega)]
    simp only[Array.getElem?_replicate]
    split<;>rfl
 have Jb:(S5 v).ok ρ:=by
  cases v with
  |none=>exact trivial
  |some z=>exact hu.2
 refine callsDIn_of_wpSIn hf hb trivial fun c0 cs xk=>?_
 have Ma:Gx (v.map (AV.c ρ)) false c0:=by
  cases v with
  |none=>exact xk.trans hu
  |some z=>exact xk.trans hu.1
 refine wpSIn_seq (wpSIn_region ?_)
 have key:=ma (ops:=ops) (Q:=Exit.thenS (rest.wpSIn (FW none) 0 x.P (bodyPostS x.P fn c0 cs fun e u' w'=>(∃x,e=.returned x)∧settle u'=.returning∧∃ρ' M',aW ρ' M' w'∧Ext ρ M w ρ' M' w'∧K M')) (bodyPostS x.P fn c0 cs fun e u' w'=>(∃x,e=.returned x)∧settle u'=.returning∧∃ρ' M',aW ρ' M' w'∧Ext ρ M w ρ' M' w'∧K M')) (cs:=cs) (ρ0:=ρ) (M0:=M) (w0:=w) hT ops.toList 0 false (aq args) M ρ w _ c0 (by simp) hs (Ext.refl _ _ _) Jb rfl ha Ma ⟨c0.mode,rfl⟩ h
  (fun a' M1 ot w1 aP c' pV h1 fW Xp h2 h3 h4 h5=>?_)
 ·rw[show List.range ops.size=List.range' 0 ops.toList.length by rw[List.range_eq_range',Array.length_toList]]
  exact key
 ·show rest.wpSIn (FW none) 0 x.P _ aP (c'::cs) w1
  refine wpSIn_of_wpIn rfl ?_
  have hw:=YW (ρ0:=ρ) (M0:=M) (w0:=w) hT hm rest Zm cg (fun e _ M'=>match e with| .normal=>K M'| .ret=>K M'|_=>False) a' M1 ot w1 aP (fun _ _ _ h=>h) fW Xp h2 (by rw[dU]at h1;exact h1)
  rw[hr]at hw
  have Et:∃u',c'={c0 with mode:=u'}∧settle u'=.returning:=by
   obtain⟨u',rfl⟩:=h4
   refine⟨u',rfl,?_⟩
   cases v with
   |none=>
    have:u'=.returning:=h3
    rw[this];rfl
   |some z=>
    cases pV with
    |true=>
     have:u'=.panicking [{v:=z.c ρ,recovered:=true}]:=h3
     rw[this];rfl
    |false=>
     exfalso
     obtain⟨o,ho,UY⟩:=List.any_eq_true.1 wm
     have:=(h5 rfl).2 o ho
     split at UY
     ·rename_i as js uj;exact this _ _ uj
     ·cases UY
  obtain⟨u',nU,Et⟩:=Et
  refine wpIn_mono hw fun e lI w2 hq=>?_
  have fin:∀{e9:Env}{M2:AH}{a2:AA},aW e9 M2 w2→Ext ρ M w e9 M2 w2→bQ e9 [] x.n a2 lI→K M2→lI.defers=[]∧∃u'',c'::cs={c0 with mode:=u''}::cs∧∃vv,(results fn lI.tmps).run x.P w2=.ok vv w2∧((∃y,Ending.returned vv=.returned y)∧settle u''=.returning∧∃ρ' M',aW ρ' M' w2∧Ext ρ M w ρ' M' w2∧K M'):=by
   intro e9 M2 a2 g1 g2 g4 g6
   refine⟨g4.defers,u',by rw[nU],.tuple #[],?_,⟨_,rfl⟩,Et,e9,M2,g1,g2,g6⟩
   rw[ju,ui]
   simp
  cases e with
  |normal=>obtain⟨e9,M2,a2,g1,g2,g3,g4⟩:=hq;exact fin g1 g2 g3 g4
  |ret=>obtain⟨e9,M2,a2,g1,g2,g3,g4⟩:=hq;exact fin g1 g2 g3 g4
  |exit id=>exact hq.elim
  |panic ch=>exact hq.elim
  |goto l=>exact hq.elim
  |outgrown=>exact hq.elim
theorem pP {F:Fence}{n:Nat}{P:Program}{fn:Func}{tmps:Array Value}{R:Ending→World→Prop}{ρ0 ρ:Env}{M0 M:AH}{w0:World}{u:FrameMode}{ds:List Deferred}(hu:u≠ .run)
 (sU:∀w,aW ρ M w→Ext ρ0 M0 w0 ρ M w→LeavesInM F n P fn tmps R ds u w):∀(rs:List Nat)(w:World),rs.Nodup→(∀r∈rs,w0.heap.size≤r∧w.heap[r]?=some (.deferred (some [])))→aW ρ M w→Ext ρ0 M0 w0 ρ M w→
 LeavesInM F n P fn tmps R (rs.map (fun r=>{target:=.collected r,args:=#[]})++ds) u w
 |[],w,_,_,hs,hE=>sU w hs hE
 |r::rs,w,hn,h,hs,hE=>by
  obtain⟨h1,h2⟩:=h r List.mem_cons_self
  refine⟨hu,.inl ⟨r,_,rfl,run_takeDeferred h2,pP hu sU rs _ (List.nodup_cons.1 hn).2 (fun r' Dr=>⟨(h r' (List.mem_cons_of_mem _ Dr)).1,?_⟩) (BQ hs h2 _) (CP hE h1 _)⟩⟩
  rw[World.putObj_heap_other (fun e=>(List.nodup_cons.1 hn).1 (by rw[←e];exact Dr))]
  exact(h r' (List.mem_cons_of_mem _ Dr)).2
def A2:List ResultVar→Bool
 |[]=>true
 | .cell _ _::l=>A2 l
 |_=>false
def Dg:List ResultVar→List Nat
 |[]=>[]
 | .cell a _::l=>a::Dg l
 | .tmp _::l=>Dg l
theorem B3 {P:Program}{T:List TI}(hT:av P T){M:AH}{a:AA}{ρ:Env}{w:World}{act:Act}(hs:aW ρ M w):
 ∀(l:List ResultVar)(K:List AV→Prop),A2 l=true→(∀t∈Dg l,act.tmps.getD t undef=(a t).c ρ)→Ad T M a l K→∃vs,K vs∧AV.eb ρ vs∧(l.mapM (ss act.tmps)).run P w=Result.ok (AV.cl ρ vs) w
 |[],K,_,_,h=>⟨[],h,trivial,by simp[AV.cl]⟩
 | .tmp t::l,K,hc,_,h=>by cases hc
 | .cell ad t::l,K,hc,hp,h=>by
   obtain⟨v,h1,h2,h3⟩:=iz (P:=P) hT hs.known (hs.id _) h
   obtain⟨vs,k1,k2,k3⟩:=B3 hT hs l _ hc (fun t ht=>hp t (List.mem_cons_of_mem _ ht)) h1
   refine⟨v::vs,k1,⟨h2,k2⟩,?_⟩
   have h4:=h3 w (hs.id _)
   have aN:(ss act.tmps (.cell ad t)).run P w=Result.ok (v.c ρ) w:=by
    simp only[ss]
    rw[hp ad List.mem_cons_self]
    simp only[Instr.loadAt]at h4
    generalize(a ad).c ρ=u at h4
    cases u with
    |pointer o=>cases o with
     |none=>simp[Instr.sureAddr]at h4
     |some ad=>simpa[Instr.sureAddr,asAddr]using h4
    |_=>simp[Instr.sureAddr]at h4
   rw[List.mapM_cons]
   simp only[Sem.run_bind]
   rw[aN]
   simp[k3,AV.cl]
theorem vl {P:Program}{T:List TI}{r:Option Nat}{Q:Exit→Act→World→Prop}(hT:av P T){n:Nat}{W:List Nat}{ops:Array Oper}{K:AA→AH→Prop}{D:List Deferred}{ρ0:Env}{M0:AH}{w0:World}:
 ∀(l tl:List Oper)(k:Nat)(a:AA)(M:AH)(ρ:Env)(w:World)(act:Act),ops.toList.drop k=l++tl→aW ρ M w→Ext ρ0 M0 w0 ρ M w→bQ ρ D n a act→sf P T n W ops (fun _ _=>False) K l a M→
  (∀a' aP M' ρ' w',K a' M'→bQ ρ' D n a' aP→aW ρ' M' w'→Ext ρ0 M0 w0 ρ' M' w'→wpOpsIn (FW r) 0 P ops Q (List.range' (k+l.length) tl.length) aP w')→
  wpOpsIn (FW r) 0 P ops Q (List.range' k (l++tl).length) act w
 |[],tl,k,a,M,ρ,w,act,_,hs,hE,ha,h,hK=>hK a act M ρ w h ha hs hE
 |o::l,tl,k,a,M,ρ,w,act,hl,hs,hE,ha,h,hK=>by
  have hi:ops[k]?=some o:=by
   have:=congrArg (fun l=>l[0]?) hl
   simpa using this
  have T4:ops.toList.drop (k+1)=l++tl:=by
   have:=congrArg List.tail hl
   simpa using this
  simp only[sf]at h
  have key:=ey (r:=r) (Q:=Q) (K':=wpOpsIn (FW r) 0 P ops Q (List.range' (k+1) (l++tl).length)) hT hs ha h
   (fun a' aP M' ρ' w' h1 h2 h3 h4=>vl hT l tl (k+1) a' M' ρ' w' aP T4 h3 (hE.trans h4) h2 h1 (fun a'' MU mK iG xh g1 g2 g3 g4=>by
    have:=hK a'' MU mK iG xh g1 g2 g3 g4
    rw[List.length_cons,show k+(l.length+1)=k+1+l.length by omega]at this
    exact this))
   (fun rv M' ρ' w' h1 h2 h3 h4=>h1.elim)
  rw[List.cons_append,List.length_cons,List.range'_succ]
  exact uR hi key.1 key.2
def Qr (P:Program)(T:List TI)(gd:Nat)(HO:List AV)(rs:List ResultVar)(a:AA)(K:AV→AH→Prop)(v:Option AV)(M:AH):Prop:=
 tW P gd HO M v fun M'=>Ad T M' a rs fun vs=>match vs with
  |[z]=>K z M'
  |vs=>K (.aE vs) M'
def Tr (P:Program)(T:List TI)(gd:Nat)(HO:List AV)(rs:List ResultVar)(a:AA)(K:AV→AH→Prop)(e:jr)(_:AA)(M:AH):Prop:=
 match e with
 | .normal=>Qr P T gd HO rs a K none M
 | .ret=>Qr P T gd HO rs a K none M
 |_=>False
def s9 (x:Cx)(rs:List ResultVar)(rest:Code)(dst:Option Nat)(f:Operand)(as:List Operand)(K:AV→AH→Prop)(a:AA)(M:AH):Prop:=
 match qL a f with
 | .fn (.func gd) first cap=>au x rest (Tr x.P x.T gd (first++as.map (qL a)++cap) rs (a.put x.n dst (.aE [])) K) (fun v M'=>Qr x.P x.T gd (first++as.map (qL a)++cap) rs (a.put x.n dst (.aE [])) K (some v) M') (a.put x.n dst (.aE [])) M
 |_=>False
def V0 (ts:List Nat)(c:Code):Bool:=fm (ts.map fun t=>(t,undef)) c
theorem D8 {pin pin':QF}(h:pin.map (·.1)=pin'.map (·.1)):∀c:Code,fm pin c=fm pin' c:=by
 have hd:∀d,sC pin d=sC pin' d:=by
  intro d
  have:∀p:QF,sC p d=(p.map (·.1)).all fun t=>!(d==some t):=fun p=>by unfold sC;rw[List.all_map];rfl
  rw[this,this,h]
 intro c
 induction c with
 |region id ops d=>simp only[fm,hd]
 |seq a b h1 h2=>simp only[fm,h1,h2]
 |cond o a b h1 h2=>simp only[fm,h1,h2]
 |block id a h=>simp only[fm,h]
 |loop a h=>simp only[fm,h]
 |scope a h=>simp only[fm,h]
 |rangeFunc f ps a b=>
  simp only[fm]
  cases pin<;>cases pin'<;>simp_all
 |_=>rfl
theorem aa.Tu {x:Cx}(hT:av x.P x.T)(hm:x.P.follows .mixedOrders=true){g:Nat}{fn:Func}{c:Code}(hf:x.P.funcs[g]?=some fn)(hb:fn.body=some c)(hg:pS x.P g=true)(cg:ai x.pl c=true)(hr:x.r=none)
 {args:List AV}{M:AH}{K Kp:AV→AH→Prop}(hn:fn.ntmps=x.n)(hle:Nat.ble args.length x.n=true)
 (k:Nat){id:Nat}{ops:Array Oper}{rest:Code}{l:List Oper}{o:Oper}{f:Operand}{as js}(LD:kT k c=.seq (.region id ops false) rest)(LL:ops.toList=l++[o])(uj:o.op=.defer ⟨.value f,as,js⟩)(Ub:o.guard=none)
 (TR:ai x.pl rest=true)(fX:A2 fn.results.toList=true)(m8:V0 (Dg fn.results.toList) rest=true)
 (h:sv x (fun a M=>vm x ops (fun _ _=>False) (s9 x fn.results.toList rest o.dst f as.toList K) l a M) (ar x.T fn.results.toList K) Kp k c (aq args) M):aa x.P g args M K Kp:=by
 unfold aa
 refine⟨hg,fun ρ w hs aF=>?_⟩
 have T2:args.length≤x.n:=by simpa using hle
 have hlen:(AV.cl ρ args).toArray.size=args.length:=by simp[AV.bc]
 have ha:bQ ρ [] x.n (aq args) {tmps:=(AV.cl ρ args).toArray++Array.replicate (fn.ntmps-(AV.cl ρ args).toArray.size) undef,defers:=[]}:=by
  refine⟨rfl,?_,fun t=>?_,fun t=>?_⟩
  ·rw[Array.size_append,Array.size_replicate,hlen,hn];omega
  ·simp only[aq];split
   ·exact(AV.aQ ρ args).1 aF _ (List.mem_of_getElem? ‹_›)
   ·exact trivial
  ·simp only[aq,Array.getD_eq_getD_getElem?]
   by_cases ht:t<args.length
   ·rw[Array.getElem?_append_left (by rw[hlen];exact ht)]
    simp[AV.bc,List.getElem?_eq_getElem ht]
   ·rw[Array.getElem?_append_right (by rw[hlen];omega),List.getElem?_eq_none (by omega)]
    simp only[Array.getElem?_replicate]
    split<;>rfl
 have Ej:∀{e:Exit}{act:Act}{w':World},fc ρ M w [] x.n (ar x.T fn.results.toList K) Kp e act w'→bodyPostM Fence.wide 0 x.P fn (jf ρ M w K Kp) e act w':=by
  intro e act w' hq
  have fin:∀(ρ':Env)(M':AH)(a':AA)(D':List Deferred),aW ρ' M' w'→Ext ρ M w ρ' M' w'→Marks w.heap.size [] D' w'→bQ ρ' D' x.n a' act→(Ad x.T M' a' fn.results.toList fun vs=>match vs with|[v]=>K v M'|vs=>K (.aE vs) M')→
   LeavesInM Fence.wide 0 x.P fn act.tmps (jf ρ M w K Kp) act.defers .returning w':=by
   intro ρ' M' a' D' h1 h2 ⟨rs,Ev,Hz,uH⟩ h3 h4
   rw[h3.defers,Ev,List.append_nil]
   refine dh (by simp) (fun w2 g1 g2=>?_) rs w' Hz uH h1 h2
   obtain⟨vs,k1,k2,k3⟩:=jv hT g1 h3 _ _ h4
   have AG:(fn.results.mapM (ss act.tmps)).run x.P w2=Result.ok (AV.cl ρ' vs).toArray w2:=by
    rw[Array.mapM_eq_mapM_toList]
    simp[k3]
   show∃v,(results fn act.tmps).run x.P w2=.ok v w2∧jf ρ M w K Kp (.returned v) w2
   rw[ju]
   simp only[Sem.run_bind,AG]
   match vs,k1,k2 with
   |[v],k1,k2=>exact⟨v.c ρ',by simp[AV.cl],ρ',M',g1,g2,v,rfl,k2.1,k1⟩
   |[],k1,k2=>exact⟨(AV.aE []).c ρ',by simp[AV.cl,AV.c],ρ',M',g1,g2,.aE [],rfl,k2,k1⟩
   |v::u::vs,k1,k2=>exact⟨(AV.aE (v::u::vs)).c ρ',by simp[AV.cl,AV.c],ρ',M',g1,g2,.aE (v::u::vs),rfl,k2,k1⟩
  cases e with
  |normal=>obtain⟨ρ',M',a',D',h1,h2,hm,h3,h4⟩:=hq;exact fin ρ' M' a' D' h1 h2 hm h3 h4
  |ret=>obtain⟨ρ',M',a',D',h1,h2,hm,h3,h4⟩:=hq;exact fin ρ' M' a' D' h1 h2 hm h3 h4
  |exit id=>obtain⟨ρ',M',a',D',h1,h2,hm,h3,h4⟩:=hq;exact h4.elim
  |panic ch=>
   obtain⟨ρ',M',v,D',h1,h2,⟨rs,Ev,Hz,uH⟩,h3,h4,h5,h6⟩:=hq
   show LeavesInM Fence.wide 0 x.P fn act.tmps (jf ρ M w K Kp) act.defers (.panicking ch) w'
   rw[h3,Ev,List.append_nil]
   refine dh (F:=Fence.wide) (n:=0) (P:=x.P) (fn:=fn) (tmps:=act.tmps) (R:=jf ρ M w K Kp) (u:=.panicking ch) (by simp) (fun w2 g1 g2=>?_) rs w' Hz uH h1 h2
   show jf ρ M w K Kp (.panicked ch) w2
   exact⟨ρ',M',g1,g2,v,h4,h5,h6⟩
  |goto l=>exact hq.elim
  |outgrown=>exact hq.elim
 refine callsIn_wide.1 (callsIn_of_wp_marks (F:=Fence.wide) (n:=0) hf hb trivial ?_)
 have hFW:(FW x.r)=Fence.wide:=by rw[hr];rfl
 have key:∀(k:Nat)(c:Code)(a:AA)(M1:AH)(ot:Env)(w1:World)(pE:Act)(D1:List Deferred),kT k c=.seq (.region id ops false) rest→ai x.pl c=true→
  sv x (fun a M=>vm x ops (fun _ _=>False) (s9 x fn.results.toList rest o.dst f as.toList K) l a M) (ar x.T fn.results.toList K) Kp k c a M1→
  aW ot M1 w1→Ext ρ M w ot M1 w1→Marks w.heap.size [] D1 w1→bQ ot D1 x.n a pE→c.wpIn (FW x.r) 0 x.P (bodyPostM Fence.wide 0 x.P fn (jf ρ M w K Kp)) pE w1:=by
  intro k
  induction k with
  |succ k ih=>
   intro c a M1 ot w1 pE D1 ht hp h fW Xp Vb Js
   cases c with
   |seq c d=>
    simp only[ai,Bool.and_eq_true]at hp
    have h':au x c (DN (sv x (fun a M=>vm x ops (fun _ _=>False) (s9 x fn.results.toList rest o.dst f as.toList K) l a M) (ar x.T fn.results.toList K) Kp k d) (ar x.T fn.results.toList K)) Kp a M1:=h
    rw[dU]at h'
    refine wpIn_seq (wpIn_mono (mE hT hm c hp.1 _ Kp a M1 ot w1 pE D1 fW Xp Vb Js h') fun e aP w' hq=>?_)
    cases e with
    |normal=>
     obtain⟨ρ',M',a',D',h1,h2,xR,h3,h4⟩:=hq
     exact ih d a' M' ρ' w' aP D' ht hp.2 h4 h1 h2 xR h3
    |exit id=>exact Ej (e:=.exit id) hq
    |ret=>exact Ej (e:=.ret) hq
    |panic ch=>exact Ej (e:=.panic ch) hq
    |goto l=>exact hq.elim
    |outgrown=>exact hq.elim
   |_=>exact h.elim
  |zero=>
   intro c a M1 ot w1 pE D1 ht hp h fW Xp Vb Js
   have ht':c=.seq (.region id ops false) rest:=ht
   subst ht'
   have h':vm x ops (fun _ _=>False) (s9 x fn.results.toList rest o.dst f as.toList K) l a M1:=h
   rw[rf]at h'
   refine wpIn_seq (wpIn_region ?_)
   rw[show List.range ops.size=List.range' 0 (l++[o]).length by rw[List.range_eq_range',←LL,Array.length_toList]]
   refine vl (ρ0:=ot) (M0:=M1) (w0:=w1) hT l [o] 0 a M1 ot w1 pE (by rw[List.drop_zero,LL]) fW (Ext.refl _ _ _) Js h' fun a2 lI M2 e9 w2 hd qJ pC Xo=>?_
   have hio:ops[0+l.length]?=some o:=by
    have:=congrArg (fun q=>q[l.length]?) LL
    simpa using this
   unfold s9 at hd
   split at hd
   ·rename_i gd first cap hfn
    have Dt:=(qJ.ev f).1
    have y8:=(qJ.ev f).2
    rw[hfn]at Dt y8
    simp only[AV.ok]at y8
    obtain⟨cm1,cm2⟩:=A1 qJ.ev as.toList
    show wpOpsIn (FW x.r) 0 x.P ops _ [0+l.length] lI w2
    simp only[wpOpsIn,hio]
    rw[if_pos (by unfold Region.wanted;rw[Ub])]
    have aN:(o.semAt (FW x.r).round lI.eval).run x.P w2=.ok (.defer {target:=.fn (.func gd) (AV.cl e9 cap).toArray,args:=(AV.cl e9 first).toArray++as.map lI.eval}) w2:=by
     rw[hr]
     show(o.semAt none lI.eval).run x.P w2=_
     rw[Oper.semAt_none]
     obtain⟨dst,op,ty,pos,after,guard⟩:=o
     simp only at uj
     subst uj
     simp only[AV.c]at Dt
     simp[execOp,resolve,Dt,Deferred.ofValue]
    refine⟨fun _ _=>trivial,?_⟩
    rw[aN]
    obtain⟨MS,Rh⟩:∃MS,MS=({lI with defers:={target:=.fn (.func gd) (AV.cl e9 cap).toArray,args:=(AV.cl e9 first).toArray++as.map lI.eval}::lI.defers}:Act).put o.dst undef:=⟨_,rfl⟩
    obtain⟨dd,hdd⟩:∃dd:Deferred,dd={target:=.fn (.func gd) (AV.cl e9 cap).toArray,args:=(AV.cl e9 first).toArray++as.map lI.eval}:=⟨_,rfl⟩
    obtain⟨a3,Xa⟩:∃a3,a3=a2.put x.n o.dst (.aE []):=⟨_,rfl⟩
    obtain⟨da,WW⟩:∃da,da=first++as.toList.map (qL a2)++cap:=⟨_,rfl⟩
    rw[←Xa,←WW]at hd
    have Nj:bQ e9 (dd::D1) x.n a3 MS:=by
     have h0:bQ e9 (dd::D1) x.n a2 ({lI with defers:=dd::lI.defers}:Act):=⟨by show dd::lI.defers=_;rw[qJ.defers],qJ.size,qJ.ok,qJ.get⟩
     have:=h0.put o.dst (v:=.aE []) trivial
     rw[Xa,Rh,←hdd]
     exact this
    have WV:AV.eb e9 da:=by rw[WW];exact jB (jB y8.1 cm2) y8.2
    have hdc:(AV.cl e9 da).toArray=(AV.cl e9 first).toArray++as.map lI.eval++(AV.cl e9 cap).toArray:=by
     apply Array.toList_inj.1
     rw[WW,gW,gW,←cm1]
     simp
    show rest.wpIn (FW x.r) 0 x.P (bodyPostM Fence.wide 0 x.P fn (jf ρ M w K Kp)) _ w2
    rw[←Rh]
    rw[dU]at hd
    have Wr:dH ((Dg fn.results.toList).map fun t=>(t,(a3 t).c e9)) MS:=by
     intro p hp
     obtain⟨t,_,rfl⟩:=List.mem_map.1 hp
     exact Nj.get t
    have Wy:fm ((Dg fn.results.toList).map fun t=>(t,(a3 t).c e9)) rest=true:=by
     rw[D8 (pin':=(Dg fn.results.toList).map fun t=>(t,undef)) (by simp[List.map_map,Function.comp_def])]
     exact m8
    refine wpIn_mono (gV hT hm rest TR _ _ a3 M2 e9 w2 MS (dd::D1) pC (Ext.refl _ _ _) (Marks.refl _ _ _) Nj Wy Wr hd) fun e GF w4 hq=>?_
    obtain⟨hq,Wq⟩:=hq
    have close:∀{v:Option AV}{Np:Env}{M4:AH}{D4:List Deferred}{u:FrameMode},aW Np M4 w4→Ext e9 M2 w2 Np M4 w4→Marks w2.heap.size (dd::D1) D4 w4→GF.defers=D4→u≠ .run→Lf Np v u→Qr x.P x.T gd da fn.results.toList a3 K v M4→
     LeavesInM Fence.wide 0 x.P fn GF.tmps (jf ρ M w K Kp) GF.defers u w4:=by
     intro v Np M4 D4 u s4 e4 ⟨rs,Ev,Hz,uH⟩ CH hu WD sU
     rw[CH,Ev]
     refine pP (ρ0:=ot) (M0:=M1) (w0:=w1) hu (fun w5 g1 g2=>?_) rs w4 Hz (fun r hr=>⟨Nat.le_trans Xo.size (uH r hr).1,(uH r hr).2⟩) s4 (Xo.trans e4)
     refine⟨hu,.inr ⟨fun h=>(by cases h),.func gd,(AV.cl e9 cap).toArray,gd,(AV.cl e9 first).toArray++as.map lI.eval++(AV.cl e9 cap).toArray,by rw[hdd],?_,fun _ _=>trivial,?_⟩⟩
     ·rw[hdd]
      simp only[invoke]
      exact ph sU.1 _ _
     ·have HE:=sU.2 Np w5 u g1 (AV.hU e4.env da WV) WD
      rw[AV.kM e4.env da WV,hdc]at HE
      refine CallsDIn.mono HE fun e6 u6 w6 h6=>?_
      obtain⟨⟨y,rfl⟩,Et,RH,M6,s6,e6,ui⟩:=h6
      show LeavesInM Fence.wide 0 x.P fn GF.tmps (jf ρ M w K Kp) D1 (settle u6) w6
      rw[Et]
      obtain⟨rs1,aab,aaj,aay⟩:=Vb.mq fW (g2.trans e6)
      rw[aab,List.append_nil]
      refine dh (ρ0:=ρ) (M0:=M) (w0:=w) (by simp) (fun w7 q1 q2=>?_) rs1 w6 aaj aay s6 (Xp.trans (g2.trans e6))
      obtain⟨vs,k1,k2,k3⟩:=B3 (act:=GF) hT q1 fn.results.toList _ fX (fun t ht=>by
       rw[AV.dr e6.env (a3 t) (AV.cW e4.env (a3 t) (Nj.ok t)),AV.dr e4.env (a3 t) (Nj.ok t)]
       exact Wq (t,(a3 t).c e9) (List.mem_map.2 ⟨t,ht,rfl⟩)) ui
      have AG:(fn.results.mapM (ss GF.tmps)).run x.P w7=Result.ok (AV.cl RH vs).toArray w7:=by
       rw[Array.mapM_eq_mapM_toList]
       simp[k3]
      show∃v,(results fn GF.tmps).run x.P w7=.ok v w7∧jf ρ M w K Kp (.returned v) w7
      rw[ju]
      simp only[Sem.run_bind,AG]
      match vs,k1,k2 with
      |[v],k1,k2=>exact⟨v.c RH,by simp[AV.cl],RH,M6,q1,q2,v,rfl,k2.1,k1⟩
      |[],k1,k2=>exact⟨(AV.aE []).c RH,by simp[AV.cl,AV.c],RH,M6,q1,q2,.aE [],rfl,k2,k1⟩
      |v::u::vs,k1,k2=>exact⟨(AV.aE (v::u::vs)).c RH,by simp[AV.cl,AV.c],RH,M6,q1,q2,.aE (v::u::vs),rfl,k2,k1⟩
    cases e with
    |normal=>obtain⟨Np,M4,a4,D4,s4,e4,m4,ZI,hl⟩:=hq;exact close (v:=none) s4 e4 m4 ZI.defers (by simp) rfl hl
    |ret=>obtain⟨Np,M4,a4,D4,s4,e4,m4,ZI,hl⟩:=hq;exact close (v:=none) s4 e4 m4 ZI.defers (by simp) rfl hl
    |exit id=>obtain⟨Np,M4,a4,D4,s4,e4,m4,ZI,hl⟩:=hq;exact hl.elim
    |panic ch=>
     obtain⟨Np,M4,v,D4,s4,e4,m4,CH,hch,Jb,hl⟩:=hq
     exact close (v:=some v) s4 e4 m4 CH (by simp) ⟨by rw[hch],Jb⟩ hl
    |goto l=>exact hq.elim
    |outgrown=>exact hq.elim
   ·exact hd.elim
 have h0:=key k c (aq args) M ρ w _ [] LD cg h hs (Ext.refl _ _ _) (Marks.refl _ _ _) ha
 rw[hFW]at h0
 exact h0
def QZ:Code→Option (Array Oper×Code×List Oper×Oper×Operand×Array Operand)
 | .seq (.region _ ops false) rest=>match ops.toList.reverse with
   |o::l=>match o.op,o.guard with
    | .defer ⟨.value f,as,_⟩,none=>some (ops,rest,l.reverse,o,f,as)
    |_,_=>none
   |[]=>none
 |_=>none
theorem aa.UB {x:Cx}(hT:av x.P x.T)(hm:x.P.follows .mixedOrders=true){g:Nat}{fn:Func}{c:Code}(hf:x.P.funcs[g]?=some fn)(hb:fn.body=some c)(hg:pS x.P g=true)(cg:ai x.pl c=true)(hr:x.r=none)
 {args:List AV}{M:AH}{K Kp:AV→AH→Prop}(hn:fn.ntmps=x.n)(hle:Nat.ble args.length x.n=true)
 (k:Nat){ops:Array Oper}{rest:Code}{l:List Oper}{o:Oper}{f:Operand}{as:Array Operand}(hd:QZ (kT k c)=some (ops,rest,l,o,f,as))
 (TR:ai x.pl rest=true)(fX:A2 fn.results.toList=true)(m8:V0 (Dg fn.results.toList) rest=true)
 (h:sv x (fun a M=>vm x ops (fun _ _=>False) (s9 x fn.results.toList rest o.dst f as.toList K) l a M) (ar x.T fn.results.toList K) Kp k c (aq args) M):aa x.P g args M K Kp:=by
 unfold QZ at hd
 split at hd
 ·rename_i id ZP aaR LD
  split at hd
  ·rename_i o' l' aac
   split at hd
   ·rename_i f' as' js uj Ub
    simp only[Option.some.injEq,Prod.mk.injEq]at hd
    obtain⟨rfl,rfl,rfl,rfl,rfl,rfl⟩:=hd
    have LL:ZP.toList=l'.reverse++[o']:=by
     have:=congrArg List.reverse aac
     simpa using this
    exact aa.Tu hT hm hf hb hg cg hr hn hle k LD LL uj Ub TR fX m8 h
   ·cases hd
  ·cases hd
 ·cases hd
attribute[irreducible] tW
end Go.Proofs.Ytibadaomjlkoaaa
