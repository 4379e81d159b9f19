import Derived.Test.YtibadaomjlkoaaaGdm
import Derived.Test.YtibadaomjlkoaaaGdj
import Derived.Test.YtibadaomjlkoaaaGdl
set_option linter.unusedVariables false
set_option linter.unusedSimpArgs false
open Go.RowKit
namespace Go.Proofs.Ytibadaomjlkoaaa
set_option maxRecDepth 10000
theorem Hf {xs:List Int}(hb:∀x∈xs,0≤x∧x<256):∀t∈bV xs,NU t:=by
 intro t ht
 have h:=oh hb t ht
 exact⟨fun hz=>⟨(h.one hz).1,(h.one hz).2.1⟩,fun hz=>⟨(h.rep hz).1,(h.rep hz).2.1,(h.rep hz).2.2.1,(h.rep hz).2.2.2.1⟩⟩
def GK (xs:List Int):List Bool:=dv (bV xs) (eN (bV xs)) (eM (bV xs))
def kZ (s b:List Int):List Int:=if s.length<b.length then s else b
def eL (xs:List Int):List Int:=kZ (bl (GK xs)) (kZ (bl (bK (bV xs))) (dF xs.length xs))
theorem FM {ts:List Tk}(lK:∀t∈ts,NU t)(lR:ts.length≤150000):(dv ts (eN ts) (eM ts)).length≤8388608:=by
 have bk:=yT lK lR
 generalize eN ts=A at bk
 generalize eM ts=D at bk
 have NH:=bk.al
 have Qv:=bk.dl
 have hl:(A++D).length≤316:=by rw[List.length_append];omega
 obtain⟨_,ok⟩:=xT hl (fun x hx=>by
  rcases List.mem_append.1 hx with h|h
  ·exact bk.ab x h
  ·exact bk.db x h)
 have h1:=pH ok (bf (A++D)) (fun x hx=>hx)
 have h2:(bf (A++D)).length≤(A++D).length:=na (A++D) (A++D).length 0
 have h3:=pk ts bk.Vc
 have h4:=jh bk.fin
 have h5:=tA (JY (A++D)) (nL (A++D))
 have h6:=jX A D
 unfold dv
 simp only[List.length_append]
 simp only[List.length_append]at h1 h2
 rw[List.length_append]at hl
 omega
section
variable{K Kp:AV→AH→Prop}{xs:List Int}{c c0:Nat}
theorem Pr {M:AH}{i g n c co:Nat}{o:Bool}(hi:M[i]?=some (.one o g (.ints .u8 xs co)))(hn:n=xs.length)(hx:xs.length≤1000000)(hc:xs.length≤c)(wW:c≤co)(hb:∀x∈xs,0≤x∧x<256){ts:List Tk}(lK:bV xs=ts)
 (h:∀g' c',ts.length≤c'→K (.sl M.length g' 0 ts.length c') (M++[.one true g' (nU ts c')])):aa Try.prog 14 [.sl i g 0 n c] M K Kp:=by
 subst hn lK
 refine aa.lift [.ew i g 0] (ye (xs:=xs) (c0:=c) (c:=co) (K:=fun r N=>∃g QG,(bV xs).length≤QG∧r=.sl 1 g 0 (bV xs).length QG∧N=[.one false 0 (.ints .u8 xs co),.one true g (nU (bV xs) QG)]) (Kp:=fun _ _=>False) hx hc wW hb (fun g c' h=>⟨g,c',h,rfl,rfl⟩)) rfl rfl ⟨⟨_,_,_,rfl,ak hi,eB.same rfl (fun h=>h)⟩,trivial⟩ ⟨trivial,trivial⟩ ?_ (fun _ _ h=>h.elim)
 rintro r M' ⟨g',c',rF,rfl,rfl⟩
 exact⟨⟨rfl,rfl⟩,h g' c' rF⟩
theorem Fx {M:AH}{i g n c co:Nat}{o:Bool}(hi:M[i]?=some (.one o g (.ints .u8 xs co)))(hn:n=xs.length)(hx:xs.length≤1000000)(hc:xs.length≤c)(wW:c≤co){S:List Int}(hS:dF xs.length xs=S)
 (h:∀g' c',S.length≤c'→K (.sl M.length g' 0 S.length c') (M++[.one true g' (.ints .u8 S c')])):aa Try.prog 15 [.sl i g 0 n c] M K Kp:=by
 subst hn hS
 refine aa.lift [.ew i g 0] (xG (xs:=xs) (c0:=c) (c:=co) (K:=fun r N=>∃g QG,(dF xs.length xs).length≤QG∧r=.sl 1 g 0 (dF xs.length xs).length QG∧N=[.one false 0 (.ints .u8 xs co),.one true g (.ints .u8 (dF xs.length xs) QG)]) (Kp:=fun _ _=>False) hx hc wW (fun g c' h=>⟨g,c',h,rfl,rfl⟩)) rfl rfl ⟨⟨_,_,_,rfl,ak hi,eB.same rfl (fun h=>h)⟩,trivial⟩ ⟨trivial,trivial⟩ ?_ (fun _ _ h=>h.elim)
 rintro r M' ⟨g',c',rF,rfl,rfl⟩
 exact⟨⟨rfl,rfl⟩,h g' c' rF⟩
theorem mN {X:WX}{row:List Bool}{Y:List Int}{g c:Nat}(hY:bl row=Y)(hr:row.length≤8388608)(hc:(aN row).length≤c){Kp:AV→AH→Prop}:
 aa Try.prog 18 [.ptr 0 0 0] (fS X row g c)
  (fun r M=>∃g' c',r=.sl 5 g' 0 Y.length c'∧M=fS X row g c++[.one true g' (.ints .u8 Y c')]∧Y.length≤c') Kp:=by
 subst hY;exact AY hr hc
theorem GC {ts:List Tk}{R:List Bool}{gt ct g0 c0:Nat}(hR:bK ts=R)(lK:∀t∈ts,M3 bL cS t)(lR:ts.length≤150000)(Ar:ts.length≤ct):
 aa Try.prog 16 [.ptr 0 0 0] (w3 ts gt ct g0 c0) (fun r N=>∃g c ga ca,(aN R).length≤c∧r=.aL []∧N=fS (dX ts gt ct bL ga ca cS 0 32) R g c) (fun _ _=>False):=by
 subst hR
 exact AJ lK lR Ar (fun g c ga ca hc=>⟨g,c,ga,ca,hc,rfl,rfl⟩)
theorem xg {ts:List Tk}{A D:List Int}{R:List Bool}{gt ct g0 c0:Nat}(hA:eN ts=A)(hD:eM ts=D)(hR:dv ts A D=R)(lK:∀t∈ts,NU t)(lR:ts.length≤150000)(Ar:ts.length≤ct):
 aa Try.prog 17 [.ptr 0 0 0] (w3 ts gt ct g0 c0) (fun r N=>∃g c ga ca gd cd,(aN R).length≤c∧r=.aL []∧N=fS (dX ts gt ct A ga ca D gd cd) R g c) (fun _ _=>False):=by
 subst hA hD hR
 exact Jq lK lR Ar (fun g c ga ca gd cd hc=>⟨g,c,ga,ca,gd,cd,hc,rfl,rfl⟩)
set_option maxHeartbeats 16000000 in
theorem yE (hx:xs.length≤150000)(hc:xs.length≤c0)(vx:c0≤c)(hb:∀x∈xs,0≤x∧x<256)
 (h:∀g c',(eL xs).length≤c'→K (.aL [.sl 1 g 0 (eL xs).length c',.int .i64 0]) [.one false 0 (.ints .u8 xs c),.one true g (.ints .u8 (eL xs) c')]):
 aa Try.prog 8 [.sl 0 0 0 xs.length c0] [.one false 0 (.ints .u8 xs c)] K Kp:=by
 have Qf:=oh hb
 have hR:=Hf hb
 have lR:=pj xs
 obtain⟨ts,lK⟩:∃ts,bV xs=ts:=⟨_,rfl⟩
 rw[lK]at Qf hR lR
 have XJ:(bK ts).length≤8388608:=by
  unfold bK
  have h2:=pk ts Qf
  have h3:(aS bL 256).length≤15:=jh (mC (s:=256) (by omega))
  rw[List.length_append,List.length_append,ai];omega
 have UM:(dv ts (eN ts) (eM ts)).length≤8388608:=FM hR (by omega)
 have Aq:eL xs=kZ (bl (dv ts (eN ts) (eM ts))) (kZ (bl (bK ts)) (dF xs.length xs)):=by unfold eL GK;rw[lK]
 obtain⟨S,hS⟩:∃S,dF xs.length xs=S:=⟨_,rfl⟩
 obtain⟨A,hA⟩:∃A,eN ts=A:=⟨_,rfl⟩
 obtain⟨D,hD⟩:∃D,eM ts=D:=⟨_,rfl⟩
 rw[hS,hA,hD]at Aq
 rw[hA,hD]at UM
 obtain⟨RF,Wy⟩:∃R,bK ts=R:=⟨_,rfl⟩
 obtain⟨RD,U1⟩:∃R,dv ts A D=R:=⟨_,rfl⟩
 rw[Wy,U1]at Aq
 rw[Wy]at XJ
 rw[U1]at UM
 obtain⟨F,hF⟩:∃F,bl RF=F:=⟨_,rfl⟩
 obtain⟨Y,hY⟩:∃Y,bl RD=Y:=⟨_,rfl⟩
 rw[hF,hY]at Aq
 refine aa.de ?_
 refine Rg (fun _=>[]) [] rfl ?_
 refine Qs ?_
 refine And.intro (fun q=>absurd (show(524288:Int)<(xs.length:Int)from of_decide_eq_true q) (by omega)) (fun _=>?_)
 refine Qs ?_
 refine Pr (i:=0) rfl rfl (by omega) hc vx hb lK fun g1 c1 h1=>?_
 refine Qs ?_
 refine Fx (i:=0) rfl rfl (by omega) hc vx hS fun g4 c4 h4=>?_
 refine Qs ?_
 refine WO.rounds 3 ag mixed (by kernel_rfl) ?_
 refine Qs ?_
 refine aa.view (Vw.ghost (i:=2) (g:=0) (k:=0) (cs:=[.ns,.int .u32 0,.int .i64 0,.sl 1 g1 0 ts.length c1,.ns,.ns]) (x:=.ints .u8 [] 0) rfl rfl ⟨rfl,rfl⟩) ?_
 refine aa.lift [.own 2,.own 6,.own 1] (GC (gt:=g1) (ct:=c1) (g0:=0) (c0:=0) Wy Qf (by omega) h1)
  rfl rfl ⟨⟨rfl,rfl⟩,⟨rfl,rfl⟩,⟨rfl,rfl⟩,trivial⟩ ⟨rfl,trivial,fun j=>rfl,trivial⟩ ?_ (fun _ _ h=>h.elim)
 rintro r M' ⟨g6,c6,g7,c7,h6,rfl,rfl⟩
 refine⟨⟨rfl,rfl,rfl,rfl⟩,?_⟩
 refine Qs ?_
 refine aa.lift [.own 2,.own 6,.own 1,.own 7,.own 8] (mN (X:=dX ts g1 c1 bL g7 c7 cS 0 32) (g:=g6) (c:=c6) (Kp:=fun _ _=>False) hF XJ h6) rfl rfl ⟨⟨rfl,rfl⟩,⟨rfl,rfl⟩,⟨rfl,rfl⟩,⟨rfl,rfl⟩,⟨rfl,rfl⟩,trivial⟩ ⟨rfl,trivial,fun j=>rfl,trivial,trivial,trivial⟩ ?_ (fun _ _ h=>h.elim)
 rintro r M' ⟨hU,il,rfl,rfl,ZN⟩
 refine⟨⟨rfl,rfl,rfl,rfl,rfl,rfl⟩,?_⟩
 refine Qs ?_
 refine And.intro (fun q=>?_) (fun q=>?_)
 ·have q:F.length<S.length:=by have q:(F.length:Int)<(S.length:Int):=of_decide_eq_true q;omega
  have u7:kZ F S=F:=if_pos q
  rw[u7]at Aq
  refine Qs ?_
  refine aa.view (Vw.ghost (i:=3) (g:=0) (k:=0) (cs:=[.ns,.int .u32 0,.int .i64 0,.sl 1 g1 0 ts.length c1,.ns,.ns]) (x:=.ints .u8 [] 0) rfl rfl ⟨rfl,rfl⟩) ?_
  refine aa.lift [.own 3,.own 11,.own 1] (xg (gt:=g1) (ct:=c1) (g0:=0) (c0:=0) hA hD U1 hR (by omega) h1)
   rfl rfl ⟨⟨rfl,rfl⟩,⟨rfl,rfl⟩,⟨rfl,rfl⟩,trivial⟩ ⟨rfl,trivial,fun j=>rfl,trivial⟩ ?_ (fun _ _ h=>h.elim)
  rintro r M' ⟨WR,Xe,hJ,ik,WQ,Xd,WN,rfl,rfl⟩
  refine⟨⟨rfl,rfl,rfl,rfl⟩,?_⟩
  refine Qs ?_
  refine aa.lift [.own 3,.own 11,.own 1,.own 12,.own 13] (mN (X:=dX ts g1 c1 A hJ ik D WQ Xd) (g:=WR) (c:=Xe) (Kp:=fun _ _=>False) hY UM WN) rfl rfl ⟨⟨rfl,rfl⟩,⟨rfl,rfl⟩,⟨rfl,rfl⟩,⟨rfl,rfl⟩,⟨rfl,rfl⟩,trivial⟩ ⟨rfl,trivial,fun j=>rfl,trivial,trivial,trivial⟩ ?_ (fun _ _ h=>h.elim)
  rintro r M' ⟨QA,QI,rfl,rfl,qT⟩
  refine⟨⟨rfl,rfl,rfl,rfl,rfl,rfl⟩,?_⟩
  refine Qs ?_
  refine And.intro (fun q2=>?_) (fun q2=>?_)
  ·have q2:Y.length<F.length:=by have q2:(Y.length:Int)<(F.length:Int):=of_decide_eq_true q2;omega
   have gS:kZ Y F=Y:=if_pos q2
   rw[gS]at Aq
   rw[Aq]at h
   refine Qs ?_
   refine⟨[.fb 0,.own 15],.aL [.sl 1 QA 0 Y.length QI,.int .i64 0],[.one false 0 (.ints .u8 xs c),.one true QA (.ints .u8 Y QI)],⟨⟨⟨rfl,_,rfl,rfl⟩,⟨rfl,rfl⟩,trivial⟩,rfl,⟨trivial,trivial,trivial⟩,rfl,fun i hi=>?_⟩,h QA QI qT⟩
   match i,hi with
   |0,_=>exact .inr rfl
  ·have q2:¬Y.length<F.length:=by have q2:¬(Y.length:Int)<(F.length:Int):=of_decide_eq_false q2;omega
   have gS:kZ Y F=F:=if_neg q2
   rw[gS]at Aq
   rw[Aq]at h
   refine Qs ?_
   refine⟨[.fb 0,.own 10],.aL [.sl 1 hU 0 F.length il,.int .i64 0],[.one false 0 (.ints .u8 xs c),.one true hU (.ints .u8 F il)],⟨⟨⟨rfl,_,rfl,rfl⟩,⟨rfl,rfl⟩,trivial⟩,rfl,⟨trivial,trivial,trivial⟩,rfl,fun i hi=>?_⟩,h hU il ZN⟩
   match i,hi with
   |0,_=>exact .inr rfl
 ·have q:¬F.length<S.length:=by have q:¬(F.length:Int)<(S.length:Int):=of_decide_eq_false q;omega
  have u7:kZ F S=S:=if_neg q
  rw[u7]at Aq
  refine Qs ?_
  refine aa.view (Vw.ghost (i:=3) (g:=0) (k:=0) (cs:=[.ns,.int .u32 0,.int .i64 0,.sl 1 g1 0 ts.length c1,.ns,.ns]) (x:=.ints .u8 [] 0) rfl rfl ⟨rfl,rfl⟩) ?_
  refine aa.lift [.own 3,.own 11,.own 1] (xg (gt:=g1) (ct:=c1) (g0:=0) (c0:=0) hA hD U1 hR (by omega) h1)
   rfl rfl ⟨⟨rfl,rfl⟩,⟨rfl,rfl⟩,⟨rfl,rfl⟩,trivial⟩ ⟨rfl,trivial,fun j=>rfl,trivial⟩ ?_ (fun _ _ h=>h.elim)
  rintro r M' ⟨WR,Xe,hJ,ik,WQ,Xd,WN,rfl,rfl⟩
  refine⟨⟨rfl,rfl,rfl,rfl⟩,?_⟩
  refine Qs ?_
  refine aa.lift [.own 3,.own 11,.own 1,.own 12,.own 13] (mN (X:=dX ts g1 c1 A hJ ik D WQ Xd) (g:=WR) (c:=Xe) (Kp:=fun _ _=>False) hY UM WN) rfl rfl ⟨⟨rfl,rfl⟩,⟨rfl,rfl⟩,⟨rfl,rfl⟩,⟨rfl,rfl⟩,⟨rfl,rfl⟩,trivial⟩ ⟨rfl,trivial,fun j=>rfl,trivial,trivial,trivial⟩ ?_ (fun _ _ h=>h.elim)
  rintro r M' ⟨QA,QI,rfl,rfl,qT⟩
  refine⟨⟨rfl,rfl,rfl,rfl,rfl,rfl⟩,?_⟩
  refine Qs ?_
  refine And.intro (fun q2=>?_) (fun q2=>?_)
  ·have q2:Y.length<S.length:=by have q2:(Y.length:Int)<(S.length:Int):=of_decide_eq_true q2;omega
   have gS:kZ Y S=Y:=if_pos q2
   rw[gS]at Aq
   rw[Aq]at h
   refine Qs ?_
   refine⟨[.fb 0,.own 15],.aL [.sl 1 QA 0 Y.length QI,.int .i64 0],[.one false 0 (.ints .u8 xs c),.one true QA (.ints .u8 Y QI)],⟨⟨⟨rfl,_,rfl,rfl⟩,⟨rfl,rfl⟩,trivial⟩,rfl,⟨trivial,trivial,trivial⟩,rfl,fun i hi=>?_⟩,h QA QI qT⟩
   match i,hi with
   |0,_=>exact .inr rfl
  ·have q2:¬Y.length<S.length:=by have q2:¬(Y.length:Int)<(S.length:Int):=of_decide_eq_false q2;omega
   have gS:kZ Y S=S:=if_neg q2
   rw[gS]at Aq
   rw[Aq]at h
   refine Qs ?_
   refine⟨[.fb 0,.own 4],.aL [.sl 1 g4 0 S.length c4,.int .i64 0],[.one false 0 (.ints .u8 xs c),.one true g4 (.ints .u8 S c4)],⟨⟨⟨rfl,_,rfl,rfl⟩,⟨rfl,rfl⟩,trivial⟩,rfl,⟨trivial,trivial,trivial⟩,rfl,fun i hi=>?_⟩,h g4 c4 h4⟩
   match i,hi with
   |0,_=>exact .inr rfl
end
end Go.Proofs.Ytibadaomjlkoaaa
open Go.RowKit
namespace Go.Proofs.Ytibadaomjlkoaaa
set_option maxRecDepth 10000
theorem zV:∀j,(aP.getD j 0).toNat=qy.getD j 0:=by
 intro j
 rcases Nat.lt_or_ge j 19 with h|h
 ·have:∀j,j<19→(aP.getD j 0).toNat=qy.getD j 0:=by decide
  exact this j h
 ·rw[List.getD_eq_getElem?_getD,List.getElem?_eq_none (show aP.length≤j from h),List.getD_eq_getElem?_getD,List.getElem?_eq_none (show qy.length≤j from h)];rfl
theorem wv (ls:List Int):∀k n j,iG ls k n≤j→j<n→ls.getD (aP.getD j 0).toNat 0=0
 |0,n,j,h1,h2=>by simp only[iG]at h1;omega
 |k+1,n,j,h1,h2=>by
  simp only[iG]at h1
  split at h1
  ·rename_i hc
   rcases Nat.lt_or_ge j (n-1)with h|h
   ·exact wv ls k (n-1) j h1 h
   ·rw[show j=n-1 by omega];exact hc.2
  ·omega
theorem wm {ls:List Int}(hb:∀j,0≤ls.getD j 0∧ls.getD j 0<8){row q:List Bool}{lim N:Nat}{o:List Int}(hN:N≤19):∀(n i:Nat)(p:List Bool)(l:List Int),i+n=N→row=p++(((aP.drop i).take n).flatMap (fun s=>bitsOf (ls.getD s.toNat 0) 3)++q)→l.length=19→
 (∀s,s<19→l.getD s 0=if∃j,j<i∧qy.getD j 0=s then ls.getD s 0 else 0)→
 ∃l',(x7 n i l).run row lim ⟨p.length,o⟩=.ok (l',⟨p.length+3*n,o⟩)∧l'.length=19∧∀s,s<19→l'.getD s 0=if∃j,j<N∧qy.getD j 0=s then ls.getD s 0 else 0
 |0,i,p,l,hi,hr,hl,h=>⟨l,rfl,hl,by rw[←hi];exact h⟩
 |n+1,i,p,l,hi,hr,hl,h=>by
  have mu:i<aP.length:=by show i<19;omega
  have hd:(aP.drop i).take (n+1)=aP.getD i 0::(aP.drop (i+1)).take n:=by
   rw[List.drop_eq_getElem_cons mu,List.take_succ_cons,List.getD_eq_getElem?_getD,List.getElem?_eq_getElem mu];rfl
  rw[hd,List.flatMap_cons,List.append_assoc]at hr
  have Ch:=hb (aP.getD i 0).toNat
  rw[x7,DP.dc hr rfl Ch.1 Ch.2]
  have hlen:(p++bitsOf (ls.getD (aP.getD i 0).toNat 0) 3).length=p.length+3:=by rw[List.length_append,ai]
  obtain⟨l',h1,h2,h3⟩:=wm hb (row:=row) (q:=q) (lim:=lim) (o:=o) hN n (i+1) (p++bitsOf (ls.getD (aP.getD i 0).toNat 0) 3) (l.set (qy.getD i 0) (ls.getD (aP.getD i 0).toNat 0)) (by omega) (by rw[hr,List.append_assoc]) (by rw[List.length_set];exact hl) (by
   intro s hs
   rw[g8,zV]
   by_cases he:qy.getD i 0=s
   ·rw[if_pos ⟨he,by omega⟩,if_pos ⟨i,Nat.lt_succ_self i,he⟩,he]
   ·rw[if_neg (fun x=>he x.1),h s hs]
    by_cases hj:∃j,j<i∧qy.getD j 0=s
    ·obtain⟨j,j1,j2⟩:=hj
     rw[if_pos ⟨j,j1,j2⟩,if_pos ⟨j,by omega,j2⟩]
    ·rw[if_neg hj,if_neg]
     rintro⟨j,j1,j2⟩
     rcases Nat.lt_succ_iff_lt_or_eq.1 j1 with h|rfl
     ·exact hj ⟨j,h,j2⟩
     ·exact he j2)
  rw[hlen]at h1
  exact⟨l',by rw[h1,show p.length+3+3*n=p.length+3*(n+1) by omega],h2,h3⟩
theorem LN:∀s,s<19→∃j,j<19∧qy.getD j 0=s:=by decide
theorem Il {a b:List Int}(hl:a.length=b.length)(h:∀s,s<a.length→a.getD s 0=b.getD s 0):a=b:=by
 refine List.ext_getElem hl fun i h1 h2=>?_
 have:=h i h1
 rwa[List.getD_eq_getElem?_getD,List.getElem?_eq_getElem h1,List.getD_eq_getElem?_getD,List.getElem?_eq_getElem h2]at this
theorem HV {L ls:List Int}(ok:mQ L ls){row q p:List Bool}{lim:Nat}{o:List Int}(hr:row=p++(eb ls (iG ls 15 19)++q)):
 (x7 (iG ls 15 19) 0 (List.replicate 19 0)).run row lim ⟨p.length,o⟩=.ok (ls,⟨p.length+(eb ls (iG ls 15 19)).length,o⟩):=by
 have hN:=(x8 ls 15 19 (by decide)).2
 have hb:∀j,0≤ls.getD j 0∧ls.getD j 0<8:=by
  intro j
  rcases Nat.lt_or_ge j ls.length with h|h
  ·rw[List.getD_eq_getElem?_getD,List.getElem?_eq_getElem h];exact ok.NR _ (List.getElem_mem _)
  ·rw[List.getD_eq_getElem?_getD,List.getElem?_eq_none h];decide
 obtain⟨l',h1,h2,h3⟩:=wm hb (row:=row) (q:=q) (lim:=lim) (o:=o) hN (iG ls 15 19) 0 p (List.replicate 19 0) (Nat.zero_add _) hr rfl (fun s hs=>by rw[iD,if_neg];rintro⟨j,j1,_⟩;omega)
 have Bj:(eb ls (iG ls 15 19)).length=3*iG ls 15 19:=by
  unfold eb;rw[qU,List.length_take,show aP.length=19 from rfl,Nat.min_eq_left hN]
 have IQ:=ok.len
 have:l'=ls:=by
  refine Il (by omega) fun s hs=>?_
  rw[h3 s (by omega)]
  split
  ·rfl
  ·rename_i hn
   obtain⟨j,j1,j2⟩:=LN s (by omega)
   have h4:=wv ls 15 19 j (by
    rcases Nat.lt_or_ge j (iG ls 15 19)with h|h
    ·exact absurd ⟨j,h,j2⟩ hn
    ·exact h) j1
   rw[zV,j2]at h4
   exact h4.symm
 rw[h1,this,Bj]
theorem pn {L:List Int}{v:Int}:∀(m i:Nat),i+m≤L.length→(∀j,j<m→L.getD (i+j) 0=v)→L.take i++List.replicate m v=L.take (i+m)
 |0,i,_,_=>List.append_nil _
 |m+1,i,h1,h2=>by
  rw[List.replicate_succ,show i+(m+1)=i+1+m by omega,←pn m (i+1) (by omega) (fun j hj=>by rw[show i+1+j=i+(j+1) by omega];exact h2 (j+1) (by omega)),←mV (show i<L.length by omega),List.append_assoc]
  have:=h2 0 (by omega)
  rw[Nat.add_zero]at this
  rw[this];rfl
theorem BC (L:List Int)(i n:Nat):((ay L i n).1.1=18∧(ay L i n).1.2.2=7∧(ay L i n).1.2.1+11=(ay L i n).2∧L.getD i 0=0)∨((ay L i n).1.1=17∧(ay L i n).1.2.2=3∧(ay L i n).1.2.1+3=(ay L i n).2∧L.getD i 0=0)∨
 ((ay L i n).1.1=16∧(ay L i n).1.2.2=2∧(ay L i n).1.2.1+3=(ay L i n).2∧0<i∧L.getD (i-1) 0=L.getD i 0)∨((ay L i n).1.1=(L.getD i 0).toNat∧(ay L i n).1.2=(0,0)∧(ay L i n).2=1):=by
 unfold ay
 split
 ·rename_i h;exact .inl ⟨rfl,rfl,by show min n 138-11+11=min n 138;omega,h.1⟩
 ·split
  ·rename_i h;exact .inr (.inl ⟨rfl,rfl,by show n-3+3=n;omega,h.1⟩)
  ·split
   ·rename_i h;exact .inr (.inr (.inl ⟨rfl,rfl,by show min n 6-3+3=min n 6;omega,h.1,h.2.1⟩))
   ·exact .inr (.inr (.inr ⟨rfl,rfl,rfl⟩))
theorem tq {L ls:List Int}(ok:mQ L ls)(J9:∀x∈L,0≤x∧x<16){row q:List Bool}{lim:Nat}{o:List Int}:∀(F i:Nat)(p:List Bool),i≤L.length→L.length-i<F→(∀x∈cG L (L.length-i) i,x∈bf L)→row=p++(eF ls (cG L (L.length-i) i)++q)→
 (nZ (cq (bU ls) []) L.length F (L.take i)).run row lim ⟨p.length,o⟩=.ok (L,⟨p.length+(eF ls (cG L (L.length-i) i)).length,o⟩)
 |0,i,p,_,h,_,_=>absurd h (Nat.not_lt_zero _)
 |F+1,i,p,hi,hF,hm,hr=>by
  have lR:(L.take i).length=i:=by rw[List.length_take];omega
  rw[nZ]
  by_cases he:i<L.length
  ·rw[if_neg (by omega)]
   have dB:=ov he
   have VI:=m9 L i L.length 1 (by omega)
   have heq:=Eb L i L.length 1 (fun j hj=>by rw[show i+j=i by omega])
   obtain⟨n,hn⟩:∃n,runN L i L.length 1=n:=⟨_,rfl⟩
   rw[hn]at dB VI heq
   have hle:=pI L i n VI.1
   have u5:=BC L i n
   obtain⟨x,hx⟩:∃x,(ay L i n).1=x:=⟨_,rfl⟩
   obtain⟨m,XR⟩:∃m,(ay L i n).2=m:=⟨_,rfl⟩
   rw[hx,XR]at dB u5
   rw[XR]at hle
   rw[dB]at hm hr⊢
   obtain⟨hC,hE,hK⟩:=ok.rows x (hm x List.mem_cons_self)
   obtain⟨G,hG⟩:∃G,eF ls (cG L (L.length-(i+m)) (i+m))=G:=⟨_,rfl⟩
   have UL:eF ls (x::cG L (L.length-(i+m)) (i+m))=aS ls (x.1:Int)++bitsOf (x.2.1:Int) x.2.2++G:=by rw[←hG];rfl
   rw[UL]at hr⊢
   have ih:=tq ok J9 (row:=row) (q:=q) (lim:=lim) (o:=o) F (i+m) (p++(aS ls (x.1:Int)++bitsOf (x.2.1:Int) x.2.2)) (by omega) (by omega) (fun y hy=>hm y (List.mem_cons_of_mem _ hy)) (by rw[hr,hG];simp only[List.append_assoc])
   rw[hG]at ih
   have YP:row=p++(aS ls (x.1:Int)++(bitsOf (x.2.1:Int) x.2.2++(G++q))):=by rw[hr];simp only[List.append_assoc]
   have Mg:row=(p++aS ls (x.1:Int))++(bitsOf (x.2.1:Int) x.2.2++(G++q)):=by rw[hr];simp only[List.append_assoc]
   have U3:((x.2.1:Nat):Int)<2^x.2.2:=by exact_mod_cast hE
   have I1:(p++(aS ls (x.1:Int)++bitsOf (x.2.1:Int) x.2.2)).length+G.length=p.length+(aS ls (x.1:Int)++bitsOf (x.2.1:Int) x.2.2++G).length:=by simp only[List.length_append];omega
   rw[I1,show(p++(aS ls (x.1:Int)++bitsOf (x.2.1:Int) x.2.2)).length=p.length+(aS ls (x.1:Int)).length+x.2.2 by simp only[List.length_append,ai];omega]at ih
   rw[DP.run_bind,jS ok.each hC YP rfl]
   simp only
   obtain⟨sy,ex,kk⟩:=x
   simp only at u5 Mg U3 ih⊢
   rcases u5 with⟨a,b,c,d⟩|⟨a,b,c,d⟩|⟨a,b,c,d,d2⟩|⟨a,b,c⟩
   ·subst a b
    have hT:=pn (L:=L) m i (v:=0) (by omega) (fun j hj=>by rw[heq j (by omega)];exact d)
    rw[if_neg (by decide),if_neg (by decide),if_neg (by decide),DP.bind,DP.dc Mg (by simp only[List.length_append]) (Int.natCast_nonneg _) U3,DP.bind]
    simp only
    rw[lR,if_neg (by omega),show(11+(ex:Int)).toNat=m by omega,hT]
    exact ih
   ·subst a b
    have hT:=pn (L:=L) m i (v:=0) (by omega) (fun j hj=>by rw[heq j (by omega)];exact d)
    rw[if_neg (by decide),if_neg (by decide),if_pos (by decide),DP.bind,DP.dc Mg (by simp only[List.length_append]) (Int.natCast_nonneg _) U3,DP.bind]
    simp only
    rw[lR,if_neg (by omega),show(3+(ex:Int)).toNat=m by omega,hT]
    exact ih
   ·subst a b
    have hT:=pn (L:=L) m i (v:=L.getD (i-1) 0) (by omega) (fun j hj=>by rw[heq j (by omega)];exact d2.symm)
    have eK:L.take i≠[]:=by intro h;rw[h]at lR;simp only[List.length_nil]at lR;omega
    rw[if_neg (by decide),if_pos (by decide),if_neg eK,DP.bind,DP.dc Mg (by simp only[List.length_append]) (Int.natCast_nonneg _) U3,DP.bind]
    simp only
    rw[lR,if_neg (by omega),show(3+(ex:Int)).toNat=m by omega,dt (show i-1<i by omega),hT]
    exact ih
   ·have hb:=J9 (L.getD i 0) (by rw[List.getD_eq_getElem?_getD,List.getElem?_eq_getElem he];exact List.getElem_mem _)
    obtain⟨rfl,rfl⟩:=Prod.mk.inj b
    subst c
    have e1:((sy:Nat):Int)=L.getD i 0:=by omega
    rw[if_pos (by omega),e1,mV he]
    rw[e1]at ih
    exact ih
  ·have SJ:i=L.length:=by omega
   rw[if_pos (by omega),SJ,Nat.sub_self,List.take_length]
   rfl
theorem MQ {xs A D:List Int}(bk:yW (bV xs) A D)(hx:xs.length≤1000000){row q:List Bool}{lim f:Nat}(hl:xs.length≤lim)(hr:row=dv (bV xs) A D++q):
 (jF (f+1)).run row lim ⟨0,[]⟩=.ok ((),⟨(dv (bV xs) A D).length,xs⟩):=by
 have NH:=bk.al
 have Qv:=bk.dl
 obtain⟨L,hL⟩:∃L,A++D=L:=⟨_,rfl⟩
 have iP:L.length=A.length+D.length:=by rw[←hL,List.length_append]
 have J9:∀x∈L,0≤x∧x<16:=by
  intro x hx
  rw[←hL]at hx
  rcases List.mem_append.1 hx with h|h
  ·exact bk.ab x h
  ·exact bk.db x h
 obtain⟨_,ok⟩:=xT (L:=L) (by omega) J9
 have Mn:nL L=iG (JY L) 15 19:=rfl
 obtain⟨ls,Cd⟩:∃ls,JY L=ls:=⟨_,rfl⟩
 rw[Cd]at ok Mn
 obtain⟨N,hN⟩:∃N,iG ls 15 19=N:=⟨_,rfl⟩
 rw[hN]at Mn
 have S5:=Ia L
 rw[Mn]at S5
 have hD:dv (bV xs) A D=gz A D++eb ls N++eF ls (bf L)++(bg A D (bV xs)++aS A 256):=by
  unfold dv;rw[hL,Cd,Mn]
 have hH:gz A D=bitsOf 5 3++bitsOf ((A.length-257:Nat):Int) 5++bitsOf ((D.length-1:Nat):Int) 5++bitsOf ((N-4:Nat):Int) 4:=by
  unfold gz;rw[hL,Mn]
 have h3:bitsOf 5 3=bitsOf 1 1++bitsOf 2 2:=by decide
 obtain⟨R1,Ya⟩:∃R,bg A D (bV xs)++(aS A 256++q)=R:=⟨_,rfl⟩
 have PO:row=bitsOf 5 3++(bitsOf ((A.length-257:Nat):Int) 5++(bitsOf ((D.length-1:Nat):Int) 5++(bitsOf ((N-4:Nat):Int) 4++(eb ls N++(eF ls (bf L)++R1))))):=by
  rw[hr,hD,hH,←Ya];simp only[List.append_assoc]
 have yZ:row=[]++(bitsOf 1 1++(bitsOf 2 2++(bitsOf ((A.length-257:Nat):Int) 5++(bitsOf ((D.length-1:Nat):Int) 5++(bitsOf ((N-4:Nat):Int) 4++(eb ls N++(eF ls (bf L)++R1))))))):=by
  rw[PO,h3];simp only[List.append_assoc,List.nil_append]
 have hB:(gE 2).run row lim ⟨3,[]⟩=.ok ((),⟨(dv (bV xs) A D).length,xs⟩):=by
  unfold gE
  rw[if_neg (by decide),if_neg (by decide),if_pos rfl,LL]
  rw[DP.dc (p:=bitsOf 5 3) (s:=⟨3,[]⟩) PO rfl (Int.natCast_nonneg _) (by omega),
   DP.dc (p:=bitsOf 5 3++bitsOf ((A.length-257:Nat):Int) 5) (v:=((D.length-1:Nat):Int)) (n:=5) (q:=bitsOf ((N-4:Nat):Int) 4++(eb ls N++(eF ls (bf L)++R1))) (by rw[PO];simp only[List.append_assoc]) (by simp only[List.length_append,ai]) (Int.natCast_nonneg _) (by omega),
   DP.dc (p:=bitsOf 5 3++bitsOf ((A.length-257:Nat):Int) 5++bitsOf ((D.length-1:Nat):Int) 5) (v:=((N-4:Nat):Int)) (n:=4) (q:=eb ls N++(eF ls (bf L)++R1)) (by rw[PO];simp only[List.append_assoc]) (by simp only[List.length_append,ai]) (Int.natCast_nonneg _) (by omega)]
  rw[if_neg (by omega),DP.run_bind]
  simp only[Int.toNat_natCast]
  have XN:(bitsOf 5 3++bitsOf ((A.length-257:Nat):Int) 5++bitsOf ((D.length-1:Nat):Int) 5++bitsOf ((N-4:Nat):Int) 4).length=17:=by simp only[List.length_append,ai]
  have hO:=HV ok (row:=row) (p:=gz A D) (q:=eF ls (bf L)++R1) (lim:=lim) (o:=[]) (by rw[PO,hH,hN];simp only[List.append_assoc])
  rw[hN,jX]at hO
  rw[show N-4+4=N by omega,show 3+5+5+4=17 from rfl,hO]
  simp only
  rw[DP.run_bind,rU,if_pos ok.each,DP.run]
  simp only
  have Yc:=tq ok J9 (row:=row) (q:=R1) (lim:=lim) (o:=[]) 401 0 (gz A D++eb ls N) (Nat.zero_le _) (by omega) (fun x hx=>hx) (by
   rw[PO,hH];show _=_++(eF ls (bf L)++R1);simp only[List.append_assoc])
  rw[List.length_append,jX,Nat.sub_zero,List.take_zero]at Yc
  rw[DP.run_bind,show A.length-257+257+(D.length-1+1)=L.length by omega,Yc]
  simp only
  have Qy:=bk.fin.2.2.1
  have hg:L.getD 256 0=A.getD 256 0:=by
   rw[←hL,List.getD_eq_getElem?_getD,List.getElem?_append_left (by omega),List.getD_eq_getElem?_getD]
  have Qy:1≤A.getD 256 0:=Qy
  rw[hg,if_neg (by omega),show A.length-257+257=A.length by omega,show L.take A.length=A by rw[←hL,List.take_left],show L.drop A.length=D by rw[←hL,List.drop_left]]
  rw[DP.run_bind,rU,if_pos bk.ea,DP.run]
  simp only
  rw[DP.run_bind,rU,if_pos bk.ed,DP.run]
  simp only
  have hs:=oC (xs:=xs) bk.ea bk.ed bk.fin (row:=row) (q:=q) hl (bV xs) FU 0 (gz A D++eb ls N++eF ls (bf L)) (kz xs) (Nat.zero_le _) bk.Vc (Nat.lt_of_le_of_lt (Nat.le_trans (pj xs) hx) JT) (by
   rw[PO,Ya,hH];simp only[List.append_assoc])
  rw[List.take_zero]at hs
  rw[show(cG L L.length 0)=bf L from rfl,show 17+(eb ls N).length+(eF ls (bf L)).length=(gz A D++eb ls N++eF ls (bf L)).length by rw[List.length_append,List.length_append,jX],hs,hD]
  simp only[List.length_append,Nat.add_assoc]
 have:=qw (f:=f) (last:=1) (k:=2) (s:=⟨0,[]⟩) (by decide) (by decide) yZ rfl hB
 rw[if_neg (by decide)]at this
 exact this
theorem MR {xs A D:List Int}(bk:yW (bV xs) A D)(hx:xs.length≤1000000){zs:List Int}{lim:Nat}(hl:xs.length≤lim):
 lJ (bl (dv (bV xs) A D)++zs) lim=.ok ((),⟨(dv (bV xs) A D).length,xs⟩):=by
 obtain⟨k,hk,h1,h2⟩:=jB (dv (bV xs) A D)
 exact Ak (fun q f=>MQ bk hx hl rfl) ⟨_,h1⟩
end Go.Proofs.Ytibadaomjlkoaaa
open Go.RowKit
namespace Go.Proofs.Ytibadaomjlkoaaa
theorem vp:gE 0=nh:=by unfold gE;rw[if_pos rfl]
theorem Hp (last:Int)(ys:List Int):(jU last ys).length=ys.length+5:=by unfold jU;rw[List.length_append];show 5+_=_;omega
theorem sL {row p q:List Bool}{lim f:Nat}{last:Int}{ys o:List Int}(hl:0≤last∧last<2)(hy:ys.length≤65535)(hb:∀y∈ys,0≤y∧y<256)(jf:o.length+ys.length≤lim)(hp:p.length%8=0)(hr:row=p++(unpack (jU last ys)++q)):
 (jF (f+1)).run row lim ⟨p.length,o⟩=if last=0 then(jF f).run row lim ⟨p.length+8*(jU last ys).length,o++ys⟩else .ok ((),⟨p.length+8*(jU last ys).length,o++ys⟩):=by
 obtain⟨n,hn⟩:∃n:Int,(ys.length:Int)=n:=⟨_,rfl⟩
 have ZR:bitsOf n 16=bitsOf (n%256) 8++bitsOf (n/256%256) 8:=by
  have:=lj n 8 8
  rw[show n%2^8=n%256 by omega,show n/2^8=n/256%256 by omega]at this
  exact this
 have WZ:bitsOf (65535-n) 16=bitsOf (255-n%256) 8++bitsOf (255-n/256%256) 8:=by
  have:=lj (65535-n) 8 8
  rw[show(65535-n)%2^8=255-n%256 by omega,show(65535-n)/2^8=255-n/256%256 by omega]at this
  exact this
 have e8:bitsOf last 8=bitsOf last 1++(bitsOf 0 2++bitsOf 0 5):=by
  have:last=0∨last=1:=by omega
  rcases this with rfl|rfl<;>decide
 have hu:unpack (jU last ys)=bitsOf last 8++(bitsOf n 16++(bitsOf (65535-n) 16++unpack ys)):=by
  unfold jU
  rw[hn,eD,ZR,WZ]
  simp[unpack]
 have yZ:row=p++(bitsOf last 1++(bitsOf 0 2++(bitsOf 0 5++(bitsOf n 16++(bitsOf (65535-n) 16++(unpack ys++q)))))):=by
  rw[hr,hu,e8];simp only[List.append_assoc]
 have QT:row=(p++bitsOf last 8)++(bitsOf (ys.length:Int) 16++(bitsOf (65535-(ys.length:Int)) 16++(unpack ys++q))):=by
  rw[hr,hu,hn];simp only[List.append_assoc]
 have hB:(gE 0).run row lim ⟨p.length+3,o⟩=.ok ((),⟨p.length+8*(jU last ys).length,o++ys⟩):=by
  rw[vp]
  have:=x6 (row:=row) (lim:=lim) (ys:=ys) (p:=p++bitsOf last 8) (q:=q) (s:=⟨p.length+3,o⟩) QT (by show(p.length+3+7)/8*8=_;rw[List.length_append,ai];omega) hy hb jf
  rw[this,List.length_append,ai,Hp,show p.length+8+32+8*ys.length=p.length+8*(ys.length+5) by omega]
 exact qw (f:=f) (s:=⟨p.length,o⟩) hl (by decide) yZ rfl hB
theorem zq {row:List Bool}{lim:Nat}{q:List Bool}:∀(k f:Nat)(ys o:List Int)(p:List Bool),ys.length≤(k+1)*65535→k<f→(∀y∈ys,0≤y∧y<256)→o.length+ys.length≤lim→p.length%8=0→row=p++(unpack (dF k ys)++q)→
 (jF f).run row lim ⟨p.length,o⟩=.ok ((),⟨p.length+8*(dF k ys).length,o++ys⟩)
 |k,0,_,_,_,_,h,_,_,_,_=>absurd h (Nat.not_lt_zero _)
 |0,f+1,ys,o,p,h1,_,hb,hl,hp,hr=>by
  rw[sL (last:=1) (by decide) (by omega) hb hl hp hr,if_neg (by decide)];rfl
 |k+1,f+1,ys,o,p,h1,h2,hb,hl,hp,hr=>by
  by_cases hc:ys.length≤65535
  ·rw[dF,if_pos hc]at hr⊢
   rw[sL (last:=1) (by decide) hc hb hl hp hr,if_neg (by decide)]
  ·rw[dF,if_neg hc]at hr⊢
   have ht:(ys.take 65535).length=65535:=by rw[List.length_take];omega
   rw[eD,List.append_assoc]at hr
   rw[sL (last:=0) (by decide) (by omega) (fun y hy=>hb y (List.mem_of_mem_take hy)) (by rw[ht];omega) hp hr,if_pos rfl]
   have EI:=bx (jU 0 (ys.take 65535))
   have ih:=zq (row:=row) (lim:=lim) (q:=q) k f (ys.drop 65535) (o++ys.take 65535) (p++unpack (jU 0 (ys.take 65535))) (by rw[List.length_drop];omega) (by omega) (fun y hy=>hb y (List.mem_of_mem_drop hy)) (by rw[List.length_append,List.length_drop,ht];omega) (by rw[List.length_append,EI];omega) (by rw[hr,List.append_assoc])
   rw[List.length_append,EI,List.append_assoc,List.take_append_drop]at ih
   rw[ih,List.length_append,show p.length+8*(jU 0 (ys.take 65535)).length+8*(dF k (ys.drop 65535)).length=p.length+8*((jU 0 (ys.take 65535)).length+(dF k (ys.drop 65535)).length) by omega]
theorem Ko {xs:List Int}(hb:∀x∈xs,0≤x∧x<256)(hx:xs.length≤1000000){zs:List Int}{lim:Nat}(hl:xs.length≤lim):
 lJ (dF xs.length xs++zs) lim=.ok ((),⟨8*(dF xs.length xs).length,xs⟩):=by
 rw[pX,eD]
 have:=zq (row:=unpack (dF xs.length xs)++unpack zs) (lim:=lim) (q:=unpack zs) xs.length FI xs [] [] (by omega) (by unfold FI;omega) hb (by show 0+xs.length≤lim;omega) rfl rfl
 simp only[List.length_nil,Nat.zero_add,List.nil_append]at this
 exact this
theorem qX (row:List Bool):(row.length+7)/8=(bl row).length:=by
 obtain⟨k,hk,_,h2⟩:=jB row
 omega
theorem xk {xs:List Int}(hb:∀x∈xs,0≤x∧x<256)(hx:xs.length≤150000){zs:List Int}{lim:Nat}(hl:xs.length≤lim):
 ∃a,lJ (eL xs++zs) lim=.ok ((),⟨a,xs⟩)∧(a+7)/8=(eL xs).length:=by
 have hR:=Hf hb
 have hn:=pj xs
 have h0:=Ko hb (by omega) (zs:=zs) hl
 have h1:=MJ hb (by omega) (zs:=zs) hl
 have h2:=MR (yT hR (by omega)) (by omega) (zs:=zs) hl
 have c0:∃a,lJ (dF xs.length xs++zs) lim=.ok ((),⟨a,xs⟩)∧(a+7)/8=(dF xs.length xs).length:=⟨_,h0,by omega⟩
 have c1:∃a,lJ (bl (bK (bV xs))++zs) lim=.ok ((),⟨a,xs⟩)∧(a+7)/8=(bl (bK (bV xs))).length:=⟨_,h1,qX _⟩
 have c2:∃a,lJ (bl (GK xs)++zs) lim=.ok ((),⟨a,xs⟩)∧(a+7)/8=(bl (GK xs)).length:=⟨_,h2,qX _⟩
 have RV:∀s b:List Int,(∃a,lJ (s++zs) lim=.ok ((),⟨a,xs⟩)∧(a+7)/8=s.length)→(∃a,lJ (b++zs) lim=.ok ((),⟨a,xs⟩)∧(a+7)/8=b.length)→∃a,lJ (kZ s b++zs) lim=.ok ((),⟨a,xs⟩)∧(a+7)/8=(kZ s b).length:=by
  intro s b hs hb
  unfold kZ
  split
  ·exact hs
  ·exact hb
 exact RV _ _ c2 (RV _ _ c1 c0)
theorem EA (s b:List Int):(kZ s b).length≤s.length∧(kZ s b).length≤b.length:=by
 unfold kZ;split<;>omega
theorem AL (xs:List Int):(eL xs).length≤(bl (GK xs)).length∧(eL xs).length≤(bl (bK (bV xs))).length∧(eL xs).length≤(dF xs.length xs).length:=by
 have h1:=EA (bl (GK xs)) (kZ (bl (bK (bV xs))) (dF xs.length xs))
 have h2:=EA (bl (bK (bV xs))) (dF xs.length xs)
 unfold eL
 omega
theorem Fz:∀(k:Nat)(ys:List Int),(∀y∈ys,0≤y∧y<256)→∀x∈dF k ys,0≤x∧x<256:=by
 have hB:∀(l:Int)(ys:List Int),(l=0∨l=1)→(∀y∈ys,0≤y∧y<256)→∀x∈jU l ys,0≤x∧x<256:=by
  intro l ys hl h x hx
  unfold jU at hx
  rcases List.mem_append.1 hx with hx|hx
  ·simp only[List.mem_cons,List.not_mem_nil,or_false]at hx
   rcases hx with rfl|rfl|rfl|rfl|rfl<;>omega
  ·exact h x hx
 intro k
 induction k with
 |zero=>intro ys h;exact hB 1 ys (.inr rfl) h
 |succ k ih=>
  intro ys h
  rw[dF]
  split
  ·exact hB 1 ys (.inr rfl) h
  ·intro x hx
   rcases List.mem_append.1 hx with hx|hx
   ·exact hB 0 _ (.inl rfl) (fun y hy=>h y (List.mem_of_mem_take hy)) x hx
   ·exact ih _ (fun y hy=>h y (List.mem_of_mem_drop hy)) x hx
theorem uI {xs:List Int}(hb:∀x∈xs,0≤x∧x<256):∀x∈eL xs,0≤x∧x<256:=by
 have RV:∀s b:List Int,(∀x∈s,0≤x∧x<256)→(∀x∈b,0≤x∧x<256)→∀x∈kZ s b,0≤x∧x<256:=by
  intro s b hs hb
  unfold kZ
  split
  ·exact hs
  ·exact hb
 exact RV _ _ (rL _) (RV _ _ (rL _) (Fz _ _ hb))
end Go.Proofs.Ytibadaomjlkoaaa
open Go.RowKit
namespace Go.Proofs.Ytibadaomjlkoaaa
set_option maxRecDepth 10000
theorem MZ:(eL [97,98,99]).length≤5:=by
 have h:=(AL [97,98,99]).2.1
 have h2:(bl (bK (bV [97,98,99]))).length=5:=by decide+kernel
 omega
section
variable{M:AH}{K Kp:AV→AH→Prop}
theorem AK {i g off n c co:Nat}{o:Bool}{xs ys:List Int}{Y:List Int}(hi:M[i]?=some (.one o g (.ints .u8 ys co)))(hn:n=xs.length)(hy:xs=(ys.drop off).take xs.length)(wW:off+c≤co)(hx:xs.length≤150000)(hc:xs.length≤c)(hb:∀x∈xs,0≤x∧x<256)(hY:eL xs=Y)
 (h:∀g' c',Y.length≤c'→K (.aL [.sl M.length g' 0 Y.length c',.int .i64 0]) (M++[.one true g' (.ints .u8 Y c')])):aa Try.prog 8 [.sl i g off n c] M K Kp:=by
 subst hn hY
 refine aa.lift [.ew i g off] (yE (xs:=xs) (c0:=c) (c:=c) (K:=fun r N=>∃g c',(eL xs).length≤c'∧r=.aL [.sl 1 g 0 (eL xs).length c',.int .i64 0]∧N=[.one false 0 (.ints .u8 xs c),.one true g (.ints .u8 (eL xs) c')]) (Kp:=fun _ _=>False) hx hc (Nat.le_refl _) hb (fun g c' h=>⟨g,c',h,rfl,rfl⟩)) rfl rfl ⟨⟨_,_,_,rfl,ak hi,eB.ints wW hy⟩,trivial⟩ ⟨trivial,trivial⟩ ?_ (fun _ _ h=>h.elim)
 rintro r M' ⟨g',c',rF,rfl,rfl⟩
 exact⟨⟨rfl,rfl⟩,h g' c' rF⟩
theorem uG {i g n c co:Nat}{o:Bool}{xs:List Int}{Y:List Int}(hi:M[i]?=some (.one o g (.ints .u8 xs co)))(hn:n=xs.length)(hx:xs.length≤150000)(hc:xs.length≤c)(wW:c≤co)(hb:∀x∈xs,0≤x∧x<256)(hY:eL xs=Y)
 (h:∀g' c',Y.length≤c'→K (.aL [.sl M.length g' 0 Y.length c',.int .i64 0]) (M++[.one true g' (.ints .u8 Y c')])):aa Try.prog 8 [.sl i g 0 n c] M K Kp:=
 AK hi hn (by rw[List.drop_zero,List.take_length]) (by omega) hx hc hb hY h
theorem ED {i g n c0 co:Nat}{o:Bool}{xs:List Int}{lim:Nat}{limit:Int}{s:DS}(hi:M[i]?=some (.one o g (.ints .u8 xs co)))(hl:limit=(lim:Int))(hn:n=xs.length)(hc:xs.length≤co)
 (EH:xs.length≤1000000)(yn:∀x∈xs,0≤x∧x<256)(jf:lim≤524288)(he:lJ xs lim=.ok ((),s))
 (h:∀g c,s.out.length≤c→K (.aL [.sl M.length g 0 s.out.length c,.int .i64 (((s.a+7)/8:Nat):Int),.int .i64 0]) (M++[.one true g (.ints .u8 s.out c)])):
 aa Try.prog 13 [.sl i g 0 n c0,.int .i64 limit] M K Kp:=by
 subst hl
 refine B1 hi hn hc EH yn (by omega) (fun h=>absurd h (by omega)) (fun g2 c2 s2 _ _ e5 qz gS=>?_) (fun e _ _ e5=>?_)
 ·rw[Int.toNat_natCast,he]at e5
  obtain rfl:s=s2:=by injection e5 with e5;injection e5
  exact h g2 c2 qz.oc
 ·rw[Int.toNat_natCast,he]at e5
  cases e5
theorem BZ (h:K (.bo true) []):aa Try.prog 10 [] [] K Kp:=by
 obtain⟨Y,hY⟩:∃Y,eL [97,98,99]=Y:=⟨_,rfl⟩
 have hl:=MZ
 have Q9:=uI (xs:=[97,98,99]) (by decide)
 obtain⟨a,ha,uj⟩:=xk (xs:=[97,98,99]) (by decide) (by decide) (zs:=[]) (lim:=3) (by decide)
 rw[List.append_nil]at ha
 rw[hY]at hl Q9 ha uj
 refine aa.cj ?_
 refine O0 (fun _=>[]) [] rfl ?_
 refine Qs ?_
 refine uG (i:=0) (xs:=[97,98,99]) rfl rfl (by decide) (by decide) (by decide) (by decide) hY fun g1 c1 h1=>?_
 refine Qs ?_
 refine ED (i:=1) (xs:=Y) (lim:=3) rfl rfl rfl h1 (by omega) Q9 (by decide) ha fun g2 c2 h2=>?_
 refine Qs ?_
 refine JA (decide_eq_true (show(Y.length:Int)≤5 by omega)) ?_
 refine Qs ?_
 intro ys rY
 obtain rfl:ys=[97,98,99]:=by rw[rY];rfl
 refine Qs ?_
 refine JA (Fw _ rfl) ?_
 have e3:(((a+7)/8:Nat):Int)=(Y.length:Int):=by rw[uj]
 refine Qs ?_
 rw[decide_eq_true e3]
 exact⟨[],iz _,trivial,rfl,h⟩
theorem Ip (h:K (.bo true) M):aa Try.prog 10 [] M K Kp:=by
 refine aa.lift [] (BZ (K:=fun r N=>r=.bo true∧N=[]) (Kp:=fun _ _=>False) ⟨rfl,rfl⟩) rfl rfl trivial trivial ?_ (fun _ _ h=>h.elim)
 rintro r M' ⟨rfl,rfl⟩
 rw[←List.append_nil M]at h
 exact⟨rfl,h⟩
end
end Go.Proofs.Ytibadaomjlkoaaa
