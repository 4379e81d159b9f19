import Derived.Test.YtibadaomjlkoaaaAbW
import Derived.RecoverIn
set_option linter.unusedVariables false
set_option linter.unusedSimpArgs false
open Go.RowKit
namespace Go.Proofs.Ytibadaomjlkoaaa
def Ic (ρ:Env)(v:Option AV)(u:FrameMode):Prop:=match v with
 |none=>u=.returning
 |some v=>u=.panicking [{v:=v.c ρ,recovered:=false}]∧v.ok ρ
def rO (P:Program)(g:Nat)(args:List AV)(M:AH)(v:Option AV)(K:AH→Prop):Prop:=
 n9 P g=true∧∀ρ w u,aR ρ M w→AV.dE ρ args→Ic ρ v u→
  CallsDIn (FW none) 0 P g (AV.cl ρ args).toArray u w fun e u' w'=>(∃x,e=.returned x)∧settle u'=.returning∧∃ρ' M',aR ρ' M' w'∧Ext ρ M w ρ' M' w'∧K M'
def O5 (v:Option AV):AV:=match v with
 |none=>.ni
 |some v=>v
def Hx:Op→Bool
 | .move _| .assign _| .typeAssert ..| .extract ..| .alloc _| .store ..| .load ..| .fieldAddr ..| .binOp ..=>true
 |_=>false
theorem DV {P:Program}{s:Sem Value}{w w':World}{x:Next}(h:(do pure (.value (←s)):Sem Next).run P w=.ok x w'):∃z,x=.value z:=by
 simp only[Sem.run_bind]at h
 cases hs:s.run P w with
 |ok a w1=>rw[hs]at h;simp at h;exact⟨a,h.1.symm⟩
 |halt a w1=>rw[hs]at h;simp at h
theorem zx {P:Program}{s:Sem Unit}{w w':World}{x:Next}(h:(do s;pure .skip:Sem Next).run P w=.ok x w'):x=.skip:=by
 simp only[Sem.run_bind]at h
 cases hs:s.run P w with
 |ok a w1=>rw[hs]at h;simp at h;exact h.1.symm
 |halt a w1=>rw[hs]at h;simp at h
theorem Hw {P:Program}{o:Oper}(hb:Hx o.op=true){f:Operand→Value}{w w':World}{x:Next}(h:(execOp f o).run P w=.ok x w'):(∃z,x=.value z)∨x=.skip:=by
 obtain⟨dst,op,ty,pos,after,guard⟩:=o
 cases op<;>simp only[Hx]at hb<;>first
  |(cases hb;done)
  |exact .inl (DV h)
  |exact .inr (zx h)
  |(simp only[execOp]at h;exact .inl (DV h))
  |(simp only[execOp]at h;exact .inr (zx h))
  |(simp[execOp]at h;exact .inl ⟨_,h.1.symm⟩)
def HK (P:Program)(T:List TI)(n:Nat)(W:List Nat)(v:Option AV)(K:AA→AH→Prop):Bool→List Oper→AA→AH→Prop
 |_,[],a,M=>K a M
 |done,o::l,a,M=>match o.guard with
  |some _=>False
  |none=>match o.op with
   | .call ⟨.builtin .recover,args,_⟩=>match done,args.toList with
     |false,[]=>HK P T n W v K true l (a.put n o.dst (O5 v)) M
     |_,_=>False
   |op=>bq (Hx op) (GJ P T (dg W o.dst) M (pc a) op (fun z M'=>HK P T n W v K done l (a.put n o.dst z) M') (fun _ _=>False))
section
variable{P:Program}{T:List TI}
def DH (v:Option Value)(done:Bool)(c:Frame):Prop:=match v,done with
 |none,_=>c.mode=.returning
 |some v,false=>c.mode=.panicking [{v:=v,recovered:=false}]
 |some v,true=>c.mode=.panicking [{v:=v,recovered:=true}]
theorem kL (hT:ao P T){n:Nat}{W:List Nat}{ops:Array Oper}{v:Option AV}{vc:Option Value}{K:AA→AH→Prop}{D:List Deferred}{ρ0:Env}{M0:AH}{w0:World}{c0:Frame}{cs:List Frame}{Q:Exit→Act→List Frame→World→Prop}:
 ∀(l:List Oper)(k:Nat)(done:Bool)(a:AA)(M:AH)(ρ:Env)(w:World)(act:Act)(c:Frame),ops.toList.drop k=l→aR ρ M w→Ext ρ0 M0 w0 ρ M w→(O5 v).ok ρ→vc=v.map (AV.c ρ)→bt ρ D n a act→DH vc done c→(∃u,c={c0 with mode:=u})→HK P T n W v K done l a M→
  (∀a' M' ρ' w' aG c' od,K a' M'→aR ρ' M' w'→Ext ρ0 M0 w0 ρ' M' w'→bt ρ' D n a' aG→DH vc od c'→(∃u,c'={c0 with mode:=u})→(od=false→done=false∧∀o∈l,∀as iq,o.op≠ .call ⟨.builtin .recover,as,iq⟩)→Q .normal aG (c'::cs) w')→
  wpOpsSIn (FW none) 0 P ops Q (List.range' k l.length) act (c::cs) w
 |[],k,done,a,M,ρ,w,act,c,_,hs,hE,_,_,ha,hb,hc,h,hK=>hK a M ρ w act c done h hs hE ha hb hc (fun hd=>⟨hd,fun o ho=>by cases ho⟩)
 |o::l,k,done,a,M,ρ,w,act,c,hl,hs,hE,hv,Vy,ha,hb,hc,h,hK=>by
  have hi:ops[k]?=some o:=by
   have:=congrArg (fun l=>l[0]?) hl
   simpa using this
  have P8:ops.toList.drop (k+1)=l:=by
   have:=congrArg List.tail hl
   simpa using this
  simp only[HK]at h
  split at h
  ·exact h.elim
  ·rename_i hg
   rw[List.length_cons,List.range'_succ]
   simp only[wpOpsSIn,hi]
   refine⟨fun _ _=>trivial,?_⟩
   rw[if_pos (by unfold Region.wanted;rw[hg])]
   split at h
   ·rename_i args iq r6
    split at h
    ·rename_i jy
     obtain rfl:args=#[]:=by apply Array.toList_inj.1;simpa using jy
     have aQ:(execOp act.eval o).run P w=.ok .recover w:=by
      obtain⟨dst,op,ty,pos,after,guard⟩:=o
      simp only at r6
      subst r6
      simp[execOp,resolve,invoke,builtin]
     rw[aQ]
     simp only
     cases v with
     |none=>
      obtain rfl:vc=none:=Vy
      have hm:c.mode=.returning:=hb
      have ud:recoverD (c::cs)=none:=by simp[recoverD,hm]
      rw[ud]
      simp only
      exact kL hT l (k+1) true (a.put n o.dst .ni) M ρ w (act.put o.dst .nilIface) c P8 hs hE hv rfl (ha.put o.dst (v:=.ni) hv) hm hc h (fun a' M' ρ' w' aG c' od h1 h2 h3 h4 h5 h6 h7=>hK a' M' ρ' w' aG c' od h1 h2 h3 h4 h5 h6 (fun hd=>by have:=(h7 hd).1;cases this))
     |some z=>
      obtain rfl:vc=some (z.c ρ):=Vy
      have hm:c.mode=.panicking [{v:=z.c ρ,recovered:=false}]:=hb
      have ud:recoverD (c::cs)=some (z.c ρ,{c with mode:=.panicking [{v:=z.c ρ,recovered:=true}]}::cs):=by simp[recoverD,hm]
      rw[ud]
      simp only
      obtain⟨u,rfl⟩:=hc
      exact kL hT l (k+1) true (a.put n o.dst z) M ρ w (act.put o.dst (z.c ρ)) _ P8 hs hE hv rfl (ha.put o.dst (v:=z) hv) rfl ⟨_,rfl⟩ h (fun a' M' ρ' w' aG c' od h1 h2 h3 h4 h5 h6 h7=>hK a' M' ρ' w' aG c' od h1 h2 h3 h4 h5 h6 (fun hd=>by have:=(h7 hd).1;cases this))
    ·exact h.elim
   ·rename_i YY
    replace h:=aq h
    obtain⟨YO,h⟩:=h
    have L9:=uA (r:=none) (Q:=fun _ _ _=>False) (o:=o) hT hs ha.ev h (K':=fun aG w'=>wpOpsSIn (FW none) 0 P ops Q (List.range' (k+1) l.length) aG (c::cs) w')
     (fun rv M' ρ' w' g1 g2 g3 g4=>kL hT l (k+1) done (a.put n o.dst rv) M' ρ' w' (act.put o.dst (rv.c ρ')) c P8 g3 (hE.trans g4) (AV.cz g4.env _ hv)
      (by rw[Vy];cases v with
       |none=>rfl
       |some z=>exact congrArg some (AV.cX g4.env z hv).symm) ((ha.ext g4.env).put o.dst g2) hb hc g1 (fun a' lq gq u2 aG c' od h1 h2 h3 h4 h5 h6 h7=>hK a' lq gq u2 aG c' od h1 h2 h3 h4 h5 h6 (fun hd=>by
       obtain⟨p1,p2⟩:=h7 hd
       refine⟨p1,fun o' ue as iq=>?_⟩
       rcases List.mem_cons.1 ue with rfl|ue
       ·intro e
        exact YY _ _ e
       ·exact p2 o' ue as iq)))
     (fun rv M' ρ' w' g1 _ _ _=>g1.elim)
    generalize rZ:(execOp act.eval o).run P w=res at L9
    cases res with
    |ok x w1=>
     rcases Hw YO rZ with⟨z,rfl⟩|rfl
     ·exact L9
     ·exact L9
    |halt x w1=>cases x<;>exact L9.elim
end
def mc:Code→Bool
 | .skip=>true
 | .ret=>true
 | .seq a b=>mc a&&mc b
 | .cond _ a b=>mc a&&mc b
 | .region _ _ _=>true
 |_=>false
def Fe (ρ0:Env)(M0:AH)(w0:World)(D:List Deferred)(n:Nat)(Q:iZ→AA→AH→Prop)(e:Exit)(act:Act)(w':World):Prop:=
 match e with
 | .normal=>∃ρ' M' a',aR ρ' M' w'∧Ext ρ0 M0 w0 ρ' M' w'∧bt ρ' D n a' act∧Q .normal a' M'
 | .ret=>∃ρ' M' a',aR ρ' M' w'∧Ext ρ0 M0 w0 ρ' M' w'∧bt ρ' D n a' act∧Q .ret a' M'
 |_=>False
theorem Up {x:Cx}(hT:ao x.P x.T)(hm:x.P.follows .mixedOrders=true){ρ0:Env}{M0:AH}{w0:World}{D:List Deferred}:
 ∀(c:Code)(_:mc c=true)(_:aj x.pl c=true)(Q:iZ→AA→AH→Prop)(a:AA)(M:AH)(ρ:Env)(w:World)(act:Act),(∀id a M,¬Q (.exit id) a M)→aR ρ M w→Ext ρ0 M0 w0 ρ M w→bt ρ D x.n a act→bO x c Q (fun _ _=>False) a M→
  c.wpIn (FW x.r) 0 x.P (Fe ρ0 M0 w0 D x.n Q) act w:=by
 intro c
 induction c with
 |skip=>exact fun _ _ Q a M ρ w act _ hs hE ha h=>wpIn_skip ⟨ρ,M,a,hs,hE,ha,h⟩
 |ret=>exact fun _ _ Q a M ρ w act _ hs hE ha h=>wpIn_ret ⟨ρ,M,a,hs,hE,ha,h⟩
 |seq c d L6 L5=>
  intro bR qN Q a M ρ w act hx hs hE ha h
  simp only[mc,Bool.and_eq_true]at bR
  simp only[aj,Bool.and_eq_true]at qN
  refine wpIn_seq (wpIn_mono (L6 bR.1 qN.1 (fun e a M=>match e with| .normal=>bO x d Q (fun _ _=>False) a M|e=>Q e a M) a M ρ w act (fun id a M h=>hx id a M h) hs hE ha h) fun e aG w' hq=>?_)
  cases e with
  |normal=>obtain⟨ρ',M',a',h1,h2,h3,h4⟩:=hq;exact L5 bR.2 qN.2 Q a' M' ρ' w' aG hx h1 h2 h3 h4
  |ret=>exact hq
  |exit id=>exact hq.elim
  |panic ch=>exact hq.elim
  |goto l=>exact hq.elim
  |outgrown=>exact hq.elim
 |cond o c d L6 L5=>
  intro bR qN Q a M ρ w act hx hs hE ha h
  simp only[mc,Bool.and_eq_true]at bR
  simp only[aj,Bool.and_eq_true]at qN
  have he:=(ha.ev o).1
  simp only[bO]at h
  split at h<;>rename_i hh<;>(try rw[hh]at he)
  ·exact wpIn_cond_true he (L6 bR.1 qN.1 Q a M ρ w act hx hs hE ha h)
  ·exact wpIn_cond_false he (L5 bR.2 qN.2 Q a M ρ w act hx hs hE ha h)
  ·exact wpIn_cond_split he (fun hb=>L6 bR.1 qN.1 Q a M ρ w act hx hs hE ha (h.1 hb)) (fun hb=>L5 bR.2 qN.2 Q a M ρ w act hx hs hE ha (h.2 hb))
  ·exact h.elim
 |region id ops draw=>
  intro bR qN Q a M ρ w act hx hs hE ha h
  simp only[bO]at h
  cases draw with
  |false=>
   refine wpIn_region ?_
   have:=ou (r:=x.r) (Q:=Fe ρ0 M0 w0 D x.n Q) (ρ0:=ρ) (M0:=M) (w0:=w) hT ops.toList 0 a M ρ w act (by simp) hs (Ext.refl _ _ _) ha h
    (fun a' aG M' ρ' w' h1 h2 h3 h4=>⟨ρ',M',a',h3,hE.trans h4,h2,h1⟩) (fun rv M' ρ' w' aG h0 h1 h2 h3 h4=>h1.elim)
   rw[show List.range ops.size=List.range' 0 ops.toList.length by rw[List.range_eq_range',Array.length_toList]]
   exact this
  |true=>
   simp only at h
   split at h
   ·rename_i cm ds PT
    simp only[aj,PT,Bool.and_eq_true]at qN
    obtain⟨⟨u7,gS⟩,EU⟩:=qN
    obtain⟨B,hB⟩:∃B,x.B id=B:=⟨_,rfl⟩
    rw[hB]at h
    have hp:∀(i:Nat) o,ops[i]?=some o→cn o.op=true:=fun i o hi=>by
     exact Array.all_eq_true_iff_forall_mem.1 gS o (Array.mem_of_getElem? hi)
    have vu:aR ρ M {w with drawn:=w.drawn+1}:=⟨hs.nI,hs.tag,hs.bw,fun i g own y hy=>by
     rcases hs.holds i g own y hy with⟨q,h1,h2⟩|h1
     ·exact .inl ⟨q,h1,bI.ext (w:=w) (fun _ _ _ h=>h) rfl h2⟩
     ·exact .inr h1,hs.apart⟩
    have Cl:Ext ρ0 M0 w0 ρ M {w with drawn:=w.drawn+1}:=⟨hE.env,hE.size,hE.frame,hE.fresh,hE.os,hE.tape,hE.output⟩
    cases cm with
    |nil=>
     refine wpIn_region_any hm (dw (S:=fun _=>True) (ds:=ds) hp _ _ _ _ ?_)
     exact rq (r:=x.r) (Q:=Fe ρ0 M0 w0 D x.n Q) (w0:={w with drawn:=w.drawn+1}) hT u7 vu ha h
      (fun a' aG M' ρ' w' h1 h2 h3 h4=>⟨ρ',M',a',h3,Cl.trans h4,h2,h1⟩)
    |cons p cm=>
    refine wpIn_region_any hm (dw (S:=SB ρ M B) (ds:=ds) hp _ _ _ _ ?_)
    exact bm (r:=x.r) (Q:=Fe ρ0 M0 w0 D x.n Q) (ρ0:=ρ) (M0:=M) (w0:={w with drawn:=w.drawn+1}) hT hp
     (fun c aG d v w' hq=>hq)
     (p::cm) [] _ ops.size a M ρ _ act (SB ρ M B) (Nat.le_trans (List.length_filter_le _ _) (by simpa using EU)) u7 iY.none vu (Ext.refl _ _ _) ha (fun _=>SB.of vu B) (fun _ h=>h) (fun _ ρ' M' w' k1 k2 k3=>nM (SB.of vu B) k1 k2 k3) h
     (fun a' aG M' ρ' w' h1 h2 h3 h4=>⟨ρ',M',a',h3,Cl.trans h4,h2,h1⟩) (fun rv M' ρ' w' aG h0 h1 h2 h3 h4=>h1.elim)
   ·exact h.elim
 |_=>intro bR;cases bR
theorem rO.intro {x:Cx}(hT:ao x.P x.T)(hm:x.P.follows .mixedOrders=true){g:Nat}{fn:Func}{id:Nat}{ops:Array Oper}{rest:Code}(hf:x.P.funcs[g]?=some fn)(hb:fn.body=some (.seq (.region id ops false) rest))(hg:n9 x.P g=true)(UO:mc rest=true)(bR:aj x.pl rest=true)(hr:x.r=none)
 (rZ:fn.results=#[])(ud:ops.toList.any (fun o=>match o.op with| .call ⟨.builtin .recover,_,_⟩=>true|_=>false)=true)
 {args:List AV}{M:AH}{v:Option AV}{K:AH→Prop}(hn:fn.ntmps=x.n)(hle:Nat.ble args.length x.n=true)
 (h:HK x.P x.T x.n x.W v (fun a M=>ax x rest (fun e _ M'=>match e with| .normal=>K M'| .ret=>K M'|_=>False) (fun _ _=>False) a M) false ops.toList (au args) M):rO x.P g args M v K:=by
 refine⟨hg,fun ρ w u hs aA hu=>?_⟩
 have P4:args.length≤x.n:=by simpa using hle
 have hlen:(AV.cl ρ args).toArray.size=args.length:=by simp[AV.aW]
 have ha:bt ρ [] x.n (au args) {tmps:=(AV.cl ρ args).toArray++Array.replicate (fn.ntmps-(AV.cl ρ args).toArray.size) undef,defers:=[]}:=by
  refine⟨rfl,?_,fun t=>?_,fun t=>?_⟩
  ·rw[Array.size_append,Array.size_replicate,hlen,hn];omega
  ·simp only[au];split
   ·exact(AV.aH ρ args).1 aA _ (List.mem_of_getElem? ‹_›)
   ·exact trivial
  ·simp only[au,Array.getD_eq_getD_getElem?]
   by_cases ht:t<args.length
   ·rw[Array.getElem?_append_left (by rw[hlen];exact ht)]
    simp[AV.aW,List.getElem?_eq_getElem ht]
   ·rw[Array.getElem?_append_right (by rw[hlen];omega),List.getElem?_eq_none (by omega)]
    simp only[Array.getElem?_replicate]
    split<;>rfl
 have Gi:(O5 v).ok ρ:=by
  cases v with
  |none=>exact trivial
  |some z=>exact hu.2
 refine callsDIn_of_wpSIn hf hb trivial fun c0 cs vx=>?_
 have J7:DH (v.map (AV.c ρ)) false c0:=by
  cases v with
  |none=>exact vx.trans hu
  |some z=>exact vx.trans hu.1
 refine wpSIn_seq (wpSIn_region ?_)
 have key:=kL (ops:=ops) (Q:=Exit.thenS (rest.wpSIn (FW none) 0 x.P (bodyPostS x.P fn c0 cs fun e u' w'=>(∃x,e=.returned x)∧settle u'=.returning∧∃ρ' M',aR ρ' M' w'∧Ext ρ M w ρ' M' w'∧K M')) (bodyPostS x.P fn c0 cs fun e u' w'=>(∃x,e=.returned x)∧settle u'=.returning∧∃ρ' M',aR ρ' M' w'∧Ext ρ M w ρ' M' w'∧K M')) (cs:=cs) (ρ0:=ρ) (M0:=M) (w0:=w) hT ops.toList 0 false (au args) M ρ w _ c0 (by simp) hs (Ext.refl _ _ _) Gi rfl ha J7 ⟨c0.mode,rfl⟩ h
  (fun a' M1 mR w1 aG c' od h1 gp Ta h2 h3 h4 h5=>?_)
 ·rw[show List.range ops.size=List.range' 0 ops.toList.length by rw[List.range_eq_range',Array.length_toList]]
  exact key
 ·show rest.wpSIn (FW none) 0 x.P _ aG (c'::cs) w1
  refine wpSIn_of_wpIn rfl ?_
  have hw:=Up (ρ0:=ρ) (M0:=M) (w0:=w) hT hm rest UO bR (fun e _ M'=>match e with| .normal=>K M'| .ret=>K M'|_=>False) a' M1 mR w1 aG (fun _ _ _ h=>h) gp Ta h2 (by rw[dx]at h1;exact h1)
  rw[hr]at hw
  have B5:∃u',c'={c0 with mode:=u'}∧settle u'=.returning:=by
   obtain⟨u',rfl⟩:=h4
   refine⟨u',rfl,?_⟩
   cases v with
   |none=>
    have:u'=.returning:=h3
    rw[this];rfl
   |some z=>
    cases od with
    |true=>
     have:u'=.panicking [{v:=z.c ρ,recovered:=true}]:=h3
     rw[this];rfl
    |false=>
     exfalso
     obtain⟨o,ho,QW⟩:=List.any_eq_true.1 ud
     have:=(h5 rfl).2 o ho
     split at QW
     ·rename_i as iq r6;exact this _ _ r6
     ·cases QW
  obtain⟨u',rF,B5⟩:=B5
  refine wpIn_mono hw fun e kq w2 hq=>?_
  have fin:∀{ek:Env}{M2:AH}{a2:AA},aR ek M2 w2→Ext ρ M w ek M2 w2→bt ek [] x.n a2 kq→K M2→kq.defers=[]∧∃Xk,c'::cs={c0 with mode:=Xk}::cs∧∃vv,(results fn kq.tmps).run x.P w2=.ok vv w2∧((∃y,Ending.returned vv=.returned y)∧settle Xk=.returning∧∃ρ' M',aR ρ' M' w2∧Ext ρ M w ρ' M' w2∧K M'):=by
   intro ek M2 a2 g1 g2 g4 g6
   refine⟨g4.defers,u',by rw[rF],.tuple #[],?_,⟨_,rfl⟩,B5,ek,M2,g1,g2,g6⟩
   rw[iB,rZ]
   simp
  cases e with
  |normal=>obtain⟨ek,M2,a2,g1,g2,g3,g4⟩:=hq;exact fin g1 g2 g3 g4
  |ret=>obtain⟨ek,M2,a2,g1,g2,g3,g4⟩:=hq;exact fin g1 g2 g3 g4
  |exit id=>exact hq.elim
  |panic ch=>exact hq.elim
  |goto l=>exact hq.elim
  |outgrown=>exact hq.elim
theorem n7 {F:Fence}{n:Nat}{P:Program}{fn:Func}{tmps:Array Value}{R:Ending→World→Prop}{ρ0 ρ:Env}{M0 M:AH}{w0:World}{u:FrameMode}{ds:List Deferred}(hu:u≠ .run)
 (qP:∀w,aR ρ M w→Ext ρ0 M0 w0 ρ M w→LeavesInM F n P fn tmps R ds u w):∀(rs:List Nat)(w:World),rs.Nodup→(∀r∈rs,w0.heap.size≤r∧w.heap[r]?=some (.deferred (some [])))→aR ρ M w→Ext ρ0 M0 w0 ρ M w→
 LeavesInM F n P fn tmps R (rs.map (fun r=>{target:=.collected r,args:=#[]})++ds) u w
 |[],w,_,_,hs,hE=>qP w hs hE
 |r::rs,w,hn,h,hs,hE=>by
  obtain⟨h1,h2⟩:=h r List.mem_cons_self
  refine⟨hu,.inl ⟨r,_,rfl,run_takeDeferred h2,n7 hu qP rs _ (List.nodup_cons.1 hn).2 (fun r' EL=>⟨(h r' (List.mem_cons_of_mem _ EL)).1,?_⟩) (zy hs h2 _) (Az hE h1 _)⟩⟩
  rw[World.putObj_heap_other (fun e=>(List.nodup_cons.1 hn).1 (by rw[←e];exact EL))]
  exact(h r' (List.mem_cons_of_mem _ EL)).2
def yK:List ResultVar→Bool
 |[]=>true
 | .cell _ _::l=>yK l
 |_=>false
def A7:List ResultVar→List Nat
 |[]=>[]
 | .cell a _::l=>a::A7 l
 | .tmp _::l=>A7 l
theorem zL {P:Program}{T:List TI}(hT:ao P T){M:AH}{a:AA}{ρ:Env}{w:World}{act:Act}(hs:aR ρ M w):
 ∀(l:List ResultVar)(K:List AV→Prop),yK l=true→(∀t∈A7 l,act.tmps.getD t undef=(a t).c ρ)→xX T M a l K→∃vs,K vs∧AV.dE ρ vs∧(l.mapM (qs act.tmps)).run P w=Result.ok (AV.cl ρ vs) w
 |[],K,_,_,h=>⟨[],h,trivial,by simp[AV.cl]⟩
 | .tmp t::l,K,hc,_,h=>by cases hc
 | .cell ad t::l,K,hc,hp,h=>by
   obtain⟨v,h1,h2,h3⟩:=fW (P:=P) hT hs.known (hs.id _) h
   obtain⟨vs,k1,k2,k3⟩:=zL hT hs l _ hc (fun t ht=>hp t (List.mem_cons_of_mem _ ht)) h1
   refine⟨v::vs,k1,⟨h2,k2⟩,?_⟩
   have h4:=h3 w (hs.id _)
   have aQ:(qs act.tmps (.cell ad t)).run P w=Result.ok (v.c ρ) w:=by
    simp only[qs]
    rw[hp ad List.mem_cons_self]
    simp only[Instr.loadAt]at h4
    generalize(a ad).c ρ=u at h4
    cases u with
    |pointer o=>cases o with
     |none=>simp[Instr.sureAddr]at h4
     |some ad=>simpa[Instr.sureAddr,asAddr]using h4
    |_=>simp[Instr.sureAddr]at h4
   rw[List.mapM_cons]
   simp only[Sem.run_bind]
   rw[aQ]
   simp[k3,AV.cl]
theorem sV {P:Program}{T:List TI}{r:Option Nat}{Q:Exit→Act→World→Prop}(hT:ao P T){n:Nat}{W:List Nat}{ops:Array Oper}{K:AA→AH→Prop}{D:List Deferred}{ρ0:Env}{M0:AH}{w0:World}:
 ∀(l tl:List Oper)(k:Nat)(a:AA)(M:AH)(ρ:Env)(w:World)(act:Act),ops.toList.drop k=l++tl→aR ρ M w→Ext ρ0 M0 w0 ρ M w→bt ρ D n a act→ql P T n W ops (fun _ _=>False) K l a M→
  (∀a' aG M' ρ' w',K a' M'→bt ρ' D n a' aG→aR ρ' M' w'→Ext ρ0 M0 w0 ρ' M' w'→wpOpsIn (FW r) 0 P ops Q (List.range' (k+l.length) tl.length) aG w')→
  wpOpsIn (FW r) 0 P ops Q (List.range' k (l++tl).length) act w
 |[],tl,k,a,M,ρ,w,act,_,hs,hE,ha,h,hK=>hK a act M ρ w h ha hs hE
 |o::l,tl,k,a,M,ρ,w,act,hl,hs,hE,ha,h,hK=>by
  have hi:ops[k]?=some o:=by
   have:=congrArg (fun l=>l[0]?) hl
   simpa using this
  have P8:ops.toList.drop (k+1)=l++tl:=by
   have:=congrArg List.tail hl
   simpa using this
  simp only[ql]at h
  have key:=dK (r:=r) (Q:=Q) (K':=wpOpsIn (FW r) 0 P ops Q (List.range' (k+1) (l++tl).length)) hT hs ha h
   (fun a' aG M' ρ' w' h1 h2 h3 h4=>sV hT l tl (k+1) a' M' ρ' w' aG P8 h3 (hE.trans h4) h2 h1 (fun Xi JP lq gq u2 g1 g2 g3 g4=>by
    have:=hK Xi JP lq gq u2 g1 g2 g3 g4
    rw[List.length_cons,show k+(l.length+1)=k+1+l.length by omega]at this
    exact this))
   (fun rv M' ρ' w' h1 h2 h3 h4=>h1.elim)
  rw[List.cons_append,List.length_cons,List.range'_succ]
  exact sC hi key.1 key.2
def MP (P:Program)(T:List TI)(gd:Nat)(E5:List AV)(rs:List ResultVar)(a:AA)(K:AV→AH→Prop)(v:Option AV)(M:AH):Prop:=
 rO P gd E5 M v fun M'=>xX T M' a rs fun vs=>match vs with
  |[z]=>K z M'
  |vs=>K (.aL vs) M'
def Pu (P:Program)(T:List TI)(gd:Nat)(E5:List AV)(rs:List ResultVar)(a:AA)(K:AV→AH→Prop)(e:iZ)(_:AA)(M:AH):Prop:=
 match e with
 | .normal=>MP P T gd E5 rs a K none M
 | .ret=>MP P T gd E5 rs a K none M
 |_=>False
def qV (x:Cx)(rs:List ResultVar)(rest:Code)(dst:Option Nat)(f:Operand)(as:List Operand)(K:AV→AH→Prop)(a:AA)(M:AH):Prop:=
 match pc a f with
 | .fn (.func gd) first cap=>ax x rest (Pu x.P x.T gd (first++as.map (pc a)++cap) rs (a.put x.n dst (.aL [])) K) (fun v M'=>MP x.P x.T gd (first++as.map (pc a)++cap) rs (a.put x.n dst (.aL [])) K (some v) M') (a.put x.n dst (.aL [])) M
 |_=>False
def RN (ts:List Nat)(c:Code):Bool:=eG (ts.map fun t=>(t,undef)) c
theorem BN {pin pin':M5}(h:pin.map (·.1)=pin'.map (·.1)):∀c:Code,eG pin c=eG pin' c:=by
 have hd:∀d,qA pin d=qA pin' d:=by
  intro d
  have:∀p:M5,qA p d=(p.map (·.1)).all fun t=>!(d==some t):=fun p=>by unfold qA;rw[List.all_map];rfl
  rw[this,this,h]
 intro c
 induction c with
 |region id ops d=>simp only[eG,hd]
 |seq a b h1 h2=>simp only[eG,h1,h2]
 |cond o a b h1 h2=>simp only[eG,h1,h2]
 |block id a h=>simp only[eG,h]
 |loop a h=>simp only[eG,h]
 |scope a h=>simp only[eG,h]
 |rangeFunc f ps a b=>
  simp only[eG]
  cases pin<;>cases pin'<;>simp_all
 |_=>rfl
theorem aa.Py {x:Cx}(hT:ao x.P x.T)(hm:x.P.follows .mixedOrders=true){g:Nat}{fn:Func}{c:Code}(hf:x.P.funcs[g]?=some fn)(hb:fn.body=some c)(hg:n9 x.P g=true)(bR:aj x.pl c=true)(hr:x.r=none)
 {args:List AV}{M:AH}{K Kp:AV→AH→Prop}(hn:fn.ntmps=x.n)(hle:Nat.ble args.length x.n=true)
 (k:Nat){id:Nat}{ops:Array Oper}{rest:Code}{l:List Oper}{o:Oper}{f:Operand}{as iq}(IB:jR k c=.seq (.region id ops false) rest)(IJ:ops.toList=l++[o])(r6:o.op=.defer ⟨.value f,as,iq⟩)(Qe:o.guard=none)
 (PS:aj x.pl rest=true)(fm:yK fn.results.toList=true)(oM:RN (A7 fn.results.toList) rest=true)
 (h:rT x (fun a M=>sW x ops (fun _ _=>False) (qV x fn.results.toList rest o.dst f as.toList K) l a M) (az x.T fn.results.toList K) Kp k c (au args) M):aa x.P g args M K Kp:=by
 unfold aa
 refine⟨hg,fun ρ w hs aA=>?_⟩
 have P4:args.length≤x.n:=by simpa using hle
 have hlen:(AV.cl ρ args).toArray.size=args.length:=by simp[AV.aW]
 have ha:bt ρ [] x.n (au args) {tmps:=(AV.cl ρ args).toArray++Array.replicate (fn.ntmps-(AV.cl ρ args).toArray.size) undef,defers:=[]}:=by
  refine⟨rfl,?_,fun t=>?_,fun t=>?_⟩
  ·rw[Array.size_append,Array.size_replicate,hlen,hn];omega
  ·simp only[au];split
   ·exact(AV.aH ρ args).1 aA _ (List.mem_of_getElem? ‹_›)
   ·exact trivial
  ·simp only[au,Array.getD_eq_getD_getElem?]
   by_cases ht:t<args.length
   ·rw[Array.getElem?_append_left (by rw[hlen];exact ht)]
    simp[AV.aW,List.getElem?_eq_getElem ht]
   ·rw[Array.getElem?_append_right (by rw[hlen];omega),List.getElem?_eq_none (by omega)]
    simp only[Array.getElem?_replicate]
    split<;>rfl
 have BX:∀{e:Exit}{act:Act}{w':World},er ρ M w [] x.n (az x.T fn.results.toList K) Kp e act w'→bodyPostM Fence.wide 0 x.P fn (gY ρ M w K Kp) e act w':=by
  intro e act w' hq
  have fin:∀(ρ':Env)(M':AH)(a':AA)(D':List Deferred),aR ρ' M' w'→Ext ρ M w ρ' M' w'→Marks w.heap.size [] D' w'→bt ρ' D' x.n a' act→(xX x.T M' a' fn.results.toList fun vs=>match vs with|[v]=>K v M'|vs=>K (.aL vs) M')→
   LeavesInM Fence.wide 0 x.P fn act.tmps (gY ρ M w K Kp) act.defers .returning w':=by
   intro ρ' M' a' D' h1 h2 ⟨rs,B7,EM,yw⟩ h3 h4
   rw[h3.defers,B7,List.append_nil]
   refine cN (by simp) (fun w2 g1 g2=>?_) rs w' EM yw h1 h2
   obtain⟨vs,k1,k2,k3⟩:=iC hT g1 h3 _ _ h4
   have yu:(fn.results.mapM (qs act.tmps)).run x.P w2=Result.ok (AV.cl ρ' vs).toArray w2:=by
    rw[Array.mapM_eq_mapM_toList]
    simp[k3]
   show∃v,(results fn act.tmps).run x.P w2=.ok v w2∧gY ρ M w K Kp (.returned v) w2
   rw[iB]
   simp only[Sem.run_bind,yu]
   match vs,k1,k2 with
   |[v],k1,k2=>exact⟨v.c ρ',by simp[AV.cl],ρ',M',g1,g2,v,rfl,k2.1,k1⟩
   |[],k1,k2=>exact⟨(AV.aL []).c ρ',by simp[AV.cl,AV.c],ρ',M',g1,g2,.aL [],rfl,k2,k1⟩
   |v::u::vs,k1,k2=>exact⟨(AV.aL (v::u::vs)).c ρ',by simp[AV.cl,AV.c],ρ',M',g1,g2,.aL (v::u::vs),rfl,k2,k1⟩
  cases e with
  |normal=>obtain⟨ρ',M',a',D',h1,h2,hm,h3,h4⟩:=hq;exact fin ρ' M' a' D' h1 h2 hm h3 h4
  |ret=>obtain⟨ρ',M',a',D',h1,h2,hm,h3,h4⟩:=hq;exact fin ρ' M' a' D' h1 h2 hm h3 h4
  |exit id=>obtain⟨ρ',M',a',D',h1,h2,hm,h3,h4⟩:=hq;exact h4.elim
  |panic ch=>
   obtain⟨ρ',M',v,D',h1,h2,⟨rs,B7,EM,yw⟩,h3,h4,h5,h6⟩:=hq
   show LeavesInM Fence.wide 0 x.P fn act.tmps (gY ρ M w K Kp) act.defers (.panicking ch) w'
   rw[h3,B7,List.append_nil]
   refine cN (F:=Fence.wide) (n:=0) (P:=x.P) (fn:=fn) (tmps:=act.tmps) (R:=gY ρ M w K Kp) (u:=.panicking ch) (by simp) (fun w2 g1 g2=>?_) rs w' EM yw h1 h2
   show gY ρ M w K Kp (.panicked ch) w2
   exact⟨ρ',M',g1,g2,v,h4,h5,h6⟩
  |goto l=>exact hq.elim
  |outgrown=>exact hq.elim
 refine callsIn_wide.1 (callsIn_of_wp_marks (F:=Fence.wide) (n:=0) hf hb trivial ?_)
 have ZG:(FW x.r)=Fence.wide:=by rw[hr];rfl
 have key:∀(k:Nat)(c:Code)(a:AA)(M1:AH)(mR:Env)(w1:World)(nS:Act)(D1:List Deferred),jR k c=.seq (.region id ops false) rest→aj x.pl c=true→
  rT x (fun a M=>sW x ops (fun _ _=>False) (qV x fn.results.toList rest o.dst f as.toList K) l a M) (az x.T fn.results.toList K) Kp k c a M1→
  aR mR M1 w1→Ext ρ M w mR M1 w1→Marks w.heap.size [] D1 w1→bt mR D1 x.n a nS→c.wpIn (FW x.r) 0 x.P (bodyPostM Fence.wide 0 x.P fn (gY ρ M w K Kp)) nS w1:=by
  intro k
  induction k with
  |succ k ih=>
   intro c a M1 mR w1 nS D1 ht hp h gp Ta Ra MA
   cases c with
   |seq c d=>
    simp only[aj,Bool.and_eq_true]at hp
    have h':ax x c (BA (rT x (fun a M=>sW x ops (fun _ _=>False) (qV x fn.results.toList rest o.dst f as.toList K) l a M) (az x.T fn.results.toList K) Kp k d) (az x.T fn.results.toList K)) Kp a M1:=h
    rw[dx]at h'
    refine wpIn_seq (wpIn_mono (lh hT hm c hp.1 _ Kp a M1 mR w1 nS D1 gp Ta Ra MA h') fun e aG w' hq=>?_)
    cases e with
    |normal=>
     obtain⟨ρ',M',a',D',h1,h2,vA,h3,h4⟩:=hq
     exact ih d a' M' ρ' w' aG D' ht hp.2 h4 h1 h2 vA h3
    |exit id=>exact BX (e:=.exit id) hq
    |ret=>exact BX (e:=.ret) hq
    |panic ch=>exact BX (e:=.panic ch) hq
    |goto l=>exact hq.elim
    |outgrown=>exact hq.elim
   |_=>exact h.elim
  |zero=>
   intro c a M1 mR w1 nS D1 ht hp h gp Ta Ra MA
   have YL:c=.seq (.region id ops false) rest:=ht
   subst YL
   have h':sW x ops (fun _ _=>False) (qV x fn.results.toList rest o.dst f as.toList K) l a M1:=h
   rw[pD]at h'
   refine wpIn_seq (wpIn_region ?_)
   rw[show List.range ops.size=List.range' 0 (l++[o]).length by rw[List.range_eq_range',←IJ,Array.length_toList]]
   refine sV (ρ0:=mR) (M0:=M1) (w0:=w1) hT l [o] 0 a M1 mR w1 nS (by rw[List.drop_zero,IJ]) gp (Ext.refl _ _ _) MA h' fun a2 kq M2 ek w2 hd uj nQ U4=>?_
   have Zb:ops[0+l.length]?=some o:=by
    have:=congrArg (fun q=>q[l.length]?) IJ
    simpa using this
   unfold qV at hd
   split at hd
   ·rename_i gd first cap Wg
    have Bl:=(uj.ev f).1
    have wS:=(uj.ev f).2
    rw[Wg]at Bl wS
    simp only[AV.ok]at wS
    obtain⟨ZU,ZT⟩:=yJ uj.ev as.toList
    show wpOpsIn (FW x.r) 0 x.P ops _ [0+l.length] kq w2
    simp only[wpOpsIn,Zb]
    rw[if_pos (by unfold Region.wanted;rw[Qe])]
    have aQ:(o.semAt (FW x.r).round kq.eval).run x.P w2=.ok (.defer {target:=.fn (.func gd) (AV.cl ek cap).toArray,args:=(AV.cl ek first).toArray++as.map kq.eval}) w2:=by
     rw[hr]
     show(o.semAt none kq.eval).run x.P w2=_
     rw[Oper.semAt_none]
     obtain⟨dst,op,ty,pos,after,guard⟩:=o
     simp only at r6
     subst r6
     simp only[AV.c]at Bl
     simp[execOp,resolve,Bl,Deferred.ofValue]
    refine⟨fun _ _=>trivial,?_⟩
    rw[aQ]
    obtain⟨JN,NC⟩:∃JN,JN=({kq with defers:={target:=.fn (.func gd) (AV.cl ek cap).toArray,args:=(AV.cl ek first).toArray++as.map kq.eval}::kq.defers}:Act).put o.dst undef:=⟨_,rfl⟩
    obtain⟨dd,Wl⟩:∃dd:Deferred,dd={target:=.fn (.func gd) (AV.cl ek cap).toArray,args:=(AV.cl ek first).toArray++as.map kq.eval}:=⟨_,rfl⟩
    obtain⟨a3,SY⟩:∃a3,a3=a2.put x.n o.dst (.aL []):=⟨_,rfl⟩
    obtain⟨da,SO⟩:∃da,da=first++as.toList.map (pc a2)++cap:=⟨_,rfl⟩
    rw[←SY,←SO]at hd
    have Mz:bt ek (dd::D1) x.n a3 JN:=by
     have h0:bt ek (dd::D1) x.n a2 ({kq with defers:=dd::kq.defers}:Act):=⟨by show dd::kq.defers=_;rw[uj.defers],uj.size,uj.ok,uj.get⟩
     have:=h0.put o.dst (v:=.aL []) trivial
     rw[SY,NC,←Wl]
     exact this
    have SN:AV.dE ek da:=by rw[SO];exact iH (iH wS.1 ZT) wS.2
    have Zj:(AV.cl ek da).toArray=(AV.cl ek first).toArray++as.map kq.eval++(AV.cl ek cap).toArray:=by
     apply Array.toList_inj.1
     rw[SO,fJ,fJ,←ZU]
     simp
    show rest.wpIn (FW x.r) 0 x.P (bodyPostM Fence.wide 0 x.P fn (gY ρ M w K Kp)) _ w2
    rw[←NC]
    rw[dx]at hd
    have Sk:dq ((A7 fn.results.toList).map fun t=>(t,(a3 t).c ek)) JN:=by
     intro p hp
     obtain⟨t,_,rfl⟩:=List.mem_map.1 hp
     exact Mz.get t
    have Sq:eG ((A7 fn.results.toList).map fun t=>(t,(a3 t).c ek)) rest=true:=by
     rw[BN (pin':=(A7 fn.results.toList).map fun t=>(t,undef)) (by simp[List.map_map,Function.comp_def])]
     exact oM
    refine wpIn_mono (fI hT hm rest PS _ _ a3 M2 ek w2 JN (dd::D1) nQ (Ext.refl _ _ _) (Marks.refl _ _ _) Mz Sq Sk hd) fun e DO w4 hq=>?_
    obtain⟨hq,Sj⟩:=hq
    have close:∀{v:Option AV}{Kc:Env}{M4:AH}{D4:List Deferred}{u:FrameMode},aR Kc M4 w4→Ext ek M2 w2 Kc M4 w4→Marks w2.heap.size (dd::D1) D4 w4→DO.defers=D4→u≠ .run→Ic Kc v u→MP x.P x.T gd da fn.results.toList a3 K v M4→
     LeavesInM Fence.wide 0 x.P fn DO.tmps (gY ρ M w K Kp) DO.defers u w4:=by
     intro v Kc M4 D4 u s4 e4 ⟨rs,B7,EM,yw⟩ Aq hu Sv qP
     rw[Aq,B7]
     refine n7 (ρ0:=mR) (M0:=M1) (w0:=w1) hu (fun w5 g1 g2=>?_) rs w4 EM (fun r hr=>⟨Nat.le_trans U4.size (yw r hr).1,(yw r hr).2⟩) s4 (U4.trans e4)
     refine⟨hu,.inr ⟨fun h=>(by cases h),.func gd,(AV.cl ek cap).toArray,gd,(AV.cl ek first).toArray++as.map kq.eval++(AV.cl ek cap).toArray,by rw[Wl],?_,fun _ _=>trivial,?_⟩⟩
     ·rw[Wl]
      simp only[invoke]
      exact nD qP.1 _ _
     ·have ES:=qP.2 Kc w5 u g1 (AV.fP e4.env da SN) Sv
      rw[AV.jL e4.env da SN,Zj]at ES
      refine CallsDIn.mono ES fun e6 u6 w6 h6=>?_
      obtain⟨⟨y,rfl⟩,B5,NW,M6,s6,e6,rZ⟩:=h6
      show LeavesInM Fence.wide 0 x.P fn DO.tmps (gY ρ M w K Kp) D1 (settle u6) w6
      rw[B5]
      obtain⟨Yv,VG,VW,Wr⟩:=Ra.k7 gp (g2.trans e6)
      rw[VG,List.append_nil]
      refine cN (ρ0:=ρ) (M0:=M) (w0:=w) (by simp) (fun w7 q1 q2=>?_) Yv w6 VW Wr s6 (Ta.trans (g2.trans e6))
      obtain⟨vs,k1,k2,k3⟩:=zL (act:=DO) hT q1 fn.results.toList _ fm (fun t ht=>by
       rw[AV.cX e6.env (a3 t) (AV.cz e4.env (a3 t) (Mz.ok t)),AV.cX e4.env (a3 t) (Mz.ok t)]
       exact Sj (t,(a3 t).c ek) (List.mem_map.2 ⟨t,ht,rfl⟩)) rZ
      have yu:(fn.results.mapM (qs DO.tmps)).run x.P w7=Result.ok (AV.cl NW vs).toArray w7:=by
       rw[Array.mapM_eq_mapM_toList]
       simp[k3]
      show∃v,(results fn DO.tmps).run x.P w7=.ok v w7∧gY ρ M w K Kp (.returned v) w7
      rw[iB]
      simp only[Sem.run_bind,yu]
      match vs,k1,k2 with
      |[v],k1,k2=>exact⟨v.c NW,by simp[AV.cl],NW,M6,q1,q2,v,rfl,k2.1,k1⟩
      |[],k1,k2=>exact⟨(AV.aL []).c NW,by simp[AV.cl,AV.c],NW,M6,q1,q2,.aL [],rfl,k2,k1⟩
      |v::u::vs,k1,k2=>exact⟨(AV.aL (v::u::vs)).c NW,by simp[AV.cl,AV.c],NW,M6,q1,q2,.aL (v::u::vs),rfl,k2,k1⟩
    cases e with
    |normal=>obtain⟨Kc,M4,a4,D4,s4,e4,m4,Va,hl⟩:=hq;exact close (v:=none) s4 e4 m4 Va.defers (by simp) rfl hl
    |ret=>obtain⟨Kc,M4,a4,D4,s4,e4,m4,Va,hl⟩:=hq;exact close (v:=none) s4 e4 m4 Va.defers (by simp) rfl hl
    |exit id=>obtain⟨Kc,M4,a4,D4,s4,e4,m4,Va,hl⟩:=hq;exact hl.elim
    |panic ch=>
     obtain⟨Kc,M4,v,D4,s4,e4,m4,Aq,X1,Gi,hl⟩:=hq
     exact close (v:=some v) s4 e4 m4 Aq (by simp) ⟨by rw[X1],Gi⟩ hl
    |goto l=>exact hq.elim
    |outgrown=>exact hq.elim
   ·exact hd.elim
 have h0:=key k c (au args) M ρ w _ [] IB bR h hs (Ext.refl _ _ _) (Marks.refl _ _ _) ha
 rw[ZG]at h0
 exact h0
def Nn:Code→Option (Array Oper×Code×List Oper×Oper×Operand×Array Operand)
 | .seq (.region _ ops false) rest=>match ops.toList.reverse with
   |o::l=>match o.op,o.guard with
    | .defer ⟨.value f,as,_⟩,none=>some (ops,rest,l.reverse,o,f,as)
    |_,_=>none
   |[]=>none
 |_=>none
theorem aa.QD {x:Cx}(hT:ao x.P x.T)(hm:x.P.follows .mixedOrders=true){g:Nat}{fn:Func}{c:Code}(hf:x.P.funcs[g]?=some fn)(hb:fn.body=some c)(hg:n9 x.P g=true)(bR:aj x.pl c=true)(hr:x.r=none)
 {args:List AV}{M:AH}{K Kp:AV→AH→Prop}(hn:fn.ntmps=x.n)(hle:Nat.ble args.length x.n=true)
 (k:Nat){ops:Array Oper}{rest:Code}{l:List Oper}{o:Oper}{f:Operand}{as:Array Operand}(hd:Nn (jR k c)=some (ops,rest,l,o,f,as))
 (PS:aj x.pl rest=true)(fm:yK fn.results.toList=true)(oM:RN (A7 fn.results.toList) rest=true)
 (h:rT x (fun a M=>sW x ops (fun _ _=>False) (qV x fn.results.toList rest o.dst f as.toList K) l a M) (az x.T fn.results.toList K) Kp k c (au args) M):aa x.P g args M K Kp:=by
 unfold Nn at hd
 split at hd
 ·rename_i id Vg Xo IB
  split at hd
  ·rename_i o' l' VK
   split at hd
   ·rename_i f' as' iq r6 Qe
    simp only[Option.some.injEq,Prod.mk.injEq]at hd
    obtain⟨rfl,rfl,rfl,rfl,rfl,rfl⟩:=hd
    have IJ:Vg.toList=l'.reverse++[o']:=by
     have:=congrArg List.reverse VK
     simpa using this
    exact aa.Py hT hm hf hb hg bR hr hn hle k IB IJ r6 Qe PS fm oM h
   ·cases hd
  ·cases hd
 ·cases hd
attribute[irreducible] rO
end Go.Proofs.Ytibadaomjlkoaaa
