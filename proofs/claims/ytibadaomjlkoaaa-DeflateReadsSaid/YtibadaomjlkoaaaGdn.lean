import Derived.Test.YtibadaomjlkoaaaGdm
import Derived.Test.YtibadaomjlkoaaaGdj
import Derived.Test.YtibadaomjlkoaaaGdl
set_option linter.unusedVariables false
set_option linter.unusedSimpArgs false
open Go.RowKit
namespace Go.Proofs.Ytibadaomjlkoaaa
set_option maxRecDepth 10000
theorem J9 {xs:List Int}(hb:∀x∈xs,0≤x∧x<256):∀t∈cI xs,RE t:=by
 intro t ht
 have h:=pY hb t ht
 exact⟨fun hz=>⟨(h.one hz).1,(h.one hz).2.1⟩,fun hz=>⟨(h.rep hz).1,(h.rep hz).2.1,(h.rep hz).2.2.1,(h.rep hz).2.2.2.1⟩⟩
def JD (xs:List Int):List Bool:=dM (cI xs) (fu (cI xs)) (fq (cI xs))
def mo (s b:List Int):List Int:=if s.length<b.length then s else b
def fp (xs:List Int):List Int:=mo (bC (JD xs)) (mo (bC (cy (cI xs))) (dL xs.length xs))
theorem IF {ts:List Tk}(lL:∀t∈ts,RE t)(m7:ts.length≤150000):(dM ts (fu ts) (fq ts)).length≤8388608:=by
 have bk:=Bc lL m7
 generalize fu ts=A at bk
 generalize fq ts=D at bk
 have Nl:=bk.al
 have Rm:=bk.dl
 have hl:(A++D).length≤316:=by rw[List.length_append];omega
 obtain⟨_,ok⟩:=z8 hl (fun x hx=>by
  rcases List.mem_append.1 hx with h|h
  ·exact bk.ab x h
  ·exact bk.db x h)
 have h1:=rk ok (bt (A++D)) (fun x hx=>hx)
 have h2:(bt (A++D)).length≤(A++D).length:=oL (A++D) (A++D).length 0
 have h3:=qS ts bk.ZL
 have h4:=j9 bk.fin
 have h5:=vL (M8 (A++D)) (nL (A++D))
 have h6:=kZ A D
 unfold dM
 simp only[List.length_append]
 simp only[List.length_append]at h1 h2
 rw[List.length_append]at hl
 omega
section
variable{K Kp:AV→AH→Prop}{xs:List Int}{c c0:Nat}
theorem Tn {M:AH}{i g n c co:Nat}{o:Bool}(hi:M[i]?=some (.one o g (.ints .u8 xs co)))(hn:n=xs.length)(hx:xs.length≤1000000)(hc:xs.length≤c)(wu:c≤co)(hb:∀x∈xs,0≤x∧x<256){ts:List Tk}(lL:cI xs=ts)
 (h:∀g' c',ts.length≤c'→K (.sl M.length g' 0 ts.length c') (M++[.one true g' (pH ts c')])):aa Try.prog 14 [.sl i g 0 n c] M K Kp:=by
 subst hn lL
 refine aa.lift [.cP i g 0] (Ap (xs:=xs) (c0:=c) (c:=co) (K:=fun r N=>∃g UE,(cI xs).length≤UE∧r=.sl 1 g 0 (cI xs).length UE∧N=[.one false 0 (.ints .u8 xs co),.one true g (pH (cI xs) UE)]) (Kp:=fun _ _=>False) hx hc wu hb (fun g c' h=>⟨g,c',h,rfl,rfl⟩)) rfl rfl ⟨⟨_,_,_,rfl,ao hi,cq.same rfl (fun h=>h)⟩,trivial⟩ ⟨trivial,trivial⟩ ?_ (fun _ _ h=>h.elim)
 rintro r M' ⟨g',c',nU,rfl,rfl⟩
 exact⟨⟨rfl,rfl⟩,h g' c' nU⟩
theorem Ii {M:AH}{i g n c co:Nat}{o:Bool}(hi:M[i]?=some (.one o g (.ints .u8 xs co)))(hn:n=xs.length)(hx:xs.length≤1000000)(hc:xs.length≤c)(wu:c≤co){S:List Int}(hS:dL xs.length xs=S)
 (h:∀g' c',S.length≤c'→K (.sl M.length g' 0 S.length c') (M++[.one true g' (.ints .u8 S c')])):aa Try.prog 15 [.sl i g 0 n c] M K Kp:=by
 subst hn hS
 refine aa.lift [.cP i g 0] (zG (xs:=xs) (c0:=c) (c:=co) (K:=fun r N=>∃g UE,(dL xs.length xs).length≤UE∧r=.sl 1 g 0 (dL xs.length xs).length UE∧N=[.one false 0 (.ints .u8 xs co),.one true g (.ints .u8 (dL xs.length xs) UE)]) (Kp:=fun _ _=>False) hx hc wu (fun g c' h=>⟨g,c',h,rfl,rfl⟩)) rfl rfl ⟨⟨_,_,_,rfl,ao hi,cq.same rfl (fun h=>h)⟩,trivial⟩ ⟨trivial,trivial⟩ ?_ (fun _ _ h=>h.elim)
 rintro r M' ⟨g',c',nU,rfl,rfl⟩
 exact⟨⟨rfl,rfl⟩,h g' c' nU⟩
theorem oe {X:WX}{row:List Bool}{Y:List Int}{g c:Nat}(hY:bC row=Y)(hr:row.length≤8388608)(hc:(aU row).length≤c){Kp:AV→AH→Prop}:
 aa Try.prog 18 [.ptr 0 0 0] (ic X row g c)
  (fun r M=>∃g' c',r=.sl 5 g' 0 Y.length c'∧M=ic X row g c++[.one true g' (.ints .u8 Y c')]∧Y.length≤c') Kp:=by
 subst hY;exact C6 hr hc
theorem Jx {ts:List Tk}{R:List Bool}{gt ct g0 c0:Nat}(hR:cy ts=R)(lL:∀t∈ts,QE bG dC t)(m7:ts.length≤150000)(CI:ts.length≤ct):
 aa Try.prog 16 [.ptr 0 0 0] (w3 ts gt ct g0 c0) (fun r N=>∃g c ga ca,(aU R).length≤c∧r=.aE []∧N=ic (dX ts gt ct bG ga ca dC 0 32) R g c) (fun _ _=>False):=by
 subst hR
 exact CV lL m7 CI (fun g c ga ca hc=>⟨g,c,ga,ca,hc,rfl,rfl⟩)
theorem zh {ts:List Tk}{A D:List Int}{R:List Bool}{gt ct g0 c0:Nat}(hA:fu ts=A)(hD:fq ts=D)(hR:dM ts A D=R)(lL:∀t∈ts,RE t)(m7:ts.length≤150000)(CI:ts.length≤ct):
 aa Try.prog 17 [.ptr 0 0 0] (w3 ts gt ct g0 c0) (fun r N=>∃g c ga ca gd cd,(aU R).length≤c∧r=.aE []∧N=ic (dX ts gt ct A ga ca D gd cd) R g c) (fun _ _=>False):=by
 subst hA hD hR
 exact Ms lL m7 CI (fun g c ga ca gd cd hc=>⟨g,c,ga,ca,gd,cd,hc,rfl,rfl⟩)
set_option maxHeartbeats 16000000 in
theorem AY (hx:xs.length≤150000)(hc:xs.length≤c0)(xk:c0≤c)(hb:∀x∈xs,0≤x∧x<256)
 (h:∀g c',(fp xs).length≤c'→K (.aE [.sl 1 g 0 (fp xs).length c',.int .i64 0]) [.one false 0 (.ints .u8 xs c),.one true g (.ints .u8 (fp xs) c')]):
 aa Try.prog 8 [.sl 0 0 0 xs.length c0] [.one false 0 (.ints .u8 xs c)] K Kp:=by
 have Uc:=pY hb
 have hR:=J9 hb
 have m7:=qR xs
 obtain⟨ts,lL⟩:∃ts,cI xs=ts:=⟨_,rfl⟩
 rw[lL]at Uc hR m7
 have hrF:(cy ts).length≤8388608:=by
  unfold cy
  have h2:=qS ts Uc
  have h3:(bf bG 256).length≤15:=j9 (n5 (s:=256) (by omega))
  rw[List.length_append,List.length_append,ak];omega
 have Zk:(dM ts (fu ts) (fq ts)).length≤8388608:=IF hR (by omega)
 have CH:fp xs=mo (bC (dM ts (fu ts) (fq ts))) (mo (bC (cy ts)) (dL xs.length xs)):=by unfold fp JD;rw[lL]
 obtain⟨S,hS⟩:∃S,dL xs.length xs=S:=⟨_,rfl⟩
 obtain⟨A,hA⟩:∃A,fu ts=A:=⟨_,rfl⟩
 obtain⟨D,hD⟩:∃D,fq ts=D:=⟨_,rfl⟩
 rw[hS,hA,hD]at CH
 rw[hA,hD]at Zk
 obtain⟨RF,hRF⟩:∃R,cy ts=R:=⟨_,rfl⟩
 obtain⟨RD,ZC⟩:∃R,dM ts A D=R:=⟨_,rfl⟩
 rw[hRF,ZC]at CH
 rw[hRF]at hrF
 rw[ZC]at Zk
 obtain⟨F,hF⟩:∃F,bC RF=F:=⟨_,rfl⟩
 obtain⟨Y,hY⟩:∃Y,bC RD=Y:=⟨_,rfl⟩
 rw[hF,hY]at CH
 refine aa.cQ ?_
 refine Vl (fun _=>[]) [] rfl ?_
 refine Qs ?_
 refine And.intro (fun q=>absurd (show(524288:Int)<(xs.length:Int)from of_decide_eq_true q) (by omega)) (fun _=>?_)
 refine Qs ?_
 refine Tn (i:=0) rfl rfl (by omega) hc xk hb lL fun g1 c1 h1=>?_
 refine Qs ?_
 refine Ii (i:=0) rfl rfl (by omega) hc xk hS fun g4 c4 h4=>?_
 refine Qs ?_
 refine WO.rounds 3 ae mixed (by kernel_rfl) ?_
 refine Qs ?_
 refine aa.view (Vw.ghost (i:=2) (g:=0) (k:=0) (cs:=[.ns,.int .u32 0,.int .i64 0,.sl 1 g1 0 ts.length c1,.ns,.ns]) (x:=.ints .u8 [] 0) rfl rfl ⟨rfl,rfl⟩) ?_
 refine aa.lift [.own 2,.own 6,.own 1] (Jx (gt:=g1) (ct:=c1) (g0:=0) (c0:=0) hRF Uc (by omega) h1)
  rfl rfl ⟨⟨rfl,rfl⟩,⟨rfl,rfl⟩,⟨rfl,rfl⟩,trivial⟩ ⟨rfl,trivial,fun j=>rfl,trivial⟩ ?_ (fun _ _ h=>h.elim)
 rintro r M' ⟨g6,c6,g7,c7,h6,rfl,rfl⟩
 refine⟨⟨rfl,rfl,rfl,rfl⟩,?_⟩
 refine Qs ?_
 refine aa.lift [.own 2,.own 6,.own 1,.own 7,.own 8] (oe (X:=dX ts g1 c1 bG g7 c7 dC 0 32) (g:=g6) (c:=c6) (Kp:=fun _ _=>False) hF hrF h6) rfl rfl ⟨⟨rfl,rfl⟩,⟨rfl,rfl⟩,⟨rfl,rfl⟩,⟨rfl,rfl⟩,⟨rfl,rfl⟩,trivial⟩ ⟨rfl,trivial,fun j=>rfl,trivial,trivial,trivial⟩ ?_ (fun _ _ h=>h.elim)
 rintro r M' ⟨jj,jq,rfl,rfl,h10⟩
 refine⟨⟨rfl,rfl,rfl,rfl,rfl,rfl⟩,?_⟩
 refine Qs ?_
 refine And.intro (fun q=>?_) (fun q=>?_)
 ·have q:F.length<S.length:=by have q:(F.length:Int)<(S.length:Int):=of_decide_eq_true q;omega
  have rJ:mo F S=F:=if_pos q
  rw[rJ]at CH
  refine Qs ?_
  refine aa.view (Vw.ghost (i:=3) (g:=0) (k:=0) (cs:=[.ns,.int .u32 0,.int .i64 0,.sl 1 g1 0 ts.length c1,.ns,.ns]) (x:=.ints .u8 [] 0) rfl rfl ⟨rfl,rfl⟩) ?_
  refine aa.lift [.own 3,.own 11,.own 1] (zh (gt:=g1) (ct:=c1) (g0:=0) (c0:=0) hA hD ZC hR (by omega) h1)
   rfl rfl ⟨⟨rfl,rfl⟩,⟨rfl,rfl⟩,⟨rfl,rfl⟩,trivial⟩ ⟨rfl,trivial,fun j=>rfl,trivial⟩ ?_ (fun _ _ h=>h.elim)
  rintro r M' ⟨g11,c11,ji,jo,g13,c13,h11,rfl,rfl⟩
  refine⟨⟨rfl,rfl,rfl,rfl⟩,?_⟩
  refine Qs ?_
  refine aa.lift [.own 3,.own 11,.own 1,.own 12,.own 13] (oe (X:=dX ts g1 c1 A ji jo D g13 c13) (g:=g11) (c:=c11) (Kp:=fun _ _=>False) hY Zk h11) rfl rfl ⟨⟨rfl,rfl⟩,⟨rfl,rfl⟩,⟨rfl,rfl⟩,⟨rfl,rfl⟩,⟨rfl,rfl⟩,trivial⟩ ⟨rfl,trivial,fun j=>rfl,trivial,trivial,trivial⟩ ?_ (fun _ _ h=>h.elim)
  rintro r M' ⟨Uy,UG,rfl,rfl,qs⟩
  refine⟨⟨rfl,rfl,rfl,rfl,rfl,rfl⟩,?_⟩
  refine Qs ?_
  refine And.intro (fun q2=>?_) (fun q2=>?_)
  ·have q2:Y.length<F.length:=by have q2:(Y.length:Int)<(F.length:Int):=of_decide_eq_true q2;omega
   have gm:mo Y F=Y:=if_pos q2
   rw[gm]at CH
   rw[CH]at h
   refine Qs ?_
   refine⟨[.dE 0,.own 15],.aE [.sl 1 Uy 0 Y.length UG,.int .i64 0],[.one false 0 (.ints .u8 xs c),.one true Uy (.ints .u8 Y UG)],⟨⟨⟨rfl,_,rfl,rfl⟩,⟨rfl,rfl⟩,trivial⟩,rfl,⟨trivial,trivial,trivial⟩,rfl,fun i hi=>?_⟩,h Uy UG qs⟩
   match i,hi with
   |0,_=>exact .inr rfl
  ·have q2:¬Y.length<F.length:=by have q2:¬(Y.length:Int)<(F.length:Int):=of_decide_eq_false q2;omega
   have gm:mo Y F=F:=if_neg q2
   rw[gm]at CH
   rw[CH]at h
   refine Qs ?_
   refine⟨[.dE 0,.own 10],.aE [.sl 1 jj 0 F.length jq,.int .i64 0],[.one false 0 (.ints .u8 xs c),.one true jj (.ints .u8 F jq)],⟨⟨⟨rfl,_,rfl,rfl⟩,⟨rfl,rfl⟩,trivial⟩,rfl,⟨trivial,trivial,trivial⟩,rfl,fun i hi=>?_⟩,h jj jq h10⟩
   match i,hi with
   |0,_=>exact .inr rfl
 ·have q:¬F.length<S.length:=by have q:¬(F.length:Int)<(S.length:Int):=of_decide_eq_false q;omega
  have rJ:mo F S=S:=if_neg q
  rw[rJ]at CH
  refine Qs ?_
  refine aa.view (Vw.ghost (i:=3) (g:=0) (k:=0) (cs:=[.ns,.int .u32 0,.int .i64 0,.sl 1 g1 0 ts.length c1,.ns,.ns]) (x:=.ints .u8 [] 0) rfl rfl ⟨rfl,rfl⟩) ?_
  refine aa.lift [.own 3,.own 11,.own 1] (zh (gt:=g1) (ct:=c1) (g0:=0) (c0:=0) hA hD ZC hR (by omega) h1)
   rfl rfl ⟨⟨rfl,rfl⟩,⟨rfl,rfl⟩,⟨rfl,rfl⟩,trivial⟩ ⟨rfl,trivial,fun j=>rfl,trivial⟩ ?_ (fun _ _ h=>h.elim)
  rintro r M' ⟨g11,c11,ji,jo,g13,c13,h11,rfl,rfl⟩
  refine⟨⟨rfl,rfl,rfl,rfl⟩,?_⟩
  refine Qs ?_
  refine aa.lift [.own 3,.own 11,.own 1,.own 12,.own 13] (oe (X:=dX ts g1 c1 A ji jo D g13 c13) (g:=g11) (c:=c11) (Kp:=fun _ _=>False) hY Zk h11) rfl rfl ⟨⟨rfl,rfl⟩,⟨rfl,rfl⟩,⟨rfl,rfl⟩,⟨rfl,rfl⟩,⟨rfl,rfl⟩,trivial⟩ ⟨rfl,trivial,fun j=>rfl,trivial,trivial,trivial⟩ ?_ (fun _ _ h=>h.elim)
  rintro r M' ⟨Uy,UG,rfl,rfl,qs⟩
  refine⟨⟨rfl,rfl,rfl,rfl,rfl,rfl⟩,?_⟩
  refine Qs ?_
  refine And.intro (fun q2=>?_) (fun q2=>?_)
  ·have q2:Y.length<S.length:=by have q2:(Y.length:Int)<(S.length:Int):=of_decide_eq_true q2;omega
   have gm:mo Y S=Y:=if_pos q2
   rw[gm]at CH
   rw[CH]at h
   refine Qs ?_
   refine⟨[.dE 0,.own 15],.aE [.sl 1 Uy 0 Y.length UG,.int .i64 0],[.one false 0 (.ints .u8 xs c),.one true Uy (.ints .u8 Y UG)],⟨⟨⟨rfl,_,rfl,rfl⟩,⟨rfl,rfl⟩,trivial⟩,rfl,⟨trivial,trivial,trivial⟩,rfl,fun i hi=>?_⟩,h Uy UG qs⟩
   match i,hi with
   |0,_=>exact .inr rfl
  ·have q2:¬Y.length<S.length:=by have q2:¬(Y.length:Int)<(S.length:Int):=of_decide_eq_false q2;omega
   have gm:mo Y S=S:=if_neg q2
   rw[gm]at CH
   rw[CH]at h
   refine Qs ?_
   refine⟨[.dE 0,.own 4],.aE [.sl 1 g4 0 S.length c4,.int .i64 0],[.one false 0 (.ints .u8 xs c),.one true g4 (.ints .u8 S c4)],⟨⟨⟨rfl,_,rfl,rfl⟩,⟨rfl,rfl⟩,trivial⟩,rfl,⟨trivial,trivial,trivial⟩,rfl,fun i hi=>?_⟩,h g4 c4 h4⟩
   match i,hi with
   |0,_=>exact .inr rfl
end
end Go.Proofs.Ytibadaomjlkoaaa
open Go.RowKit
namespace Go.Proofs.Ytibadaomjlkoaaa
set_option maxRecDepth 10000
theorem Cd:∀j,(aV.getD j 0).toNat=kG.getD j 0:=by
 intro j
 rcases Nat.lt_or_ge j 19 with h|h
 ·have:∀j,j<19→(aV.getD j 0).toNat=kG.getD j 0:=by decide
  exact this j h
 ·rw[List.getD_eq_getElem?_getD,List.getElem?_eq_none (show aV.length≤j from h),List.getD_eq_getElem?_getD,List.getElem?_eq_none (show kG.length≤j from h)];rfl
theorem yF (ls:List Int):∀k n j,jA ls k n≤j→j<n→ls.getD (aV.getD j 0).toNat 0=0
 |0,n,j,h1,h2=>by simp only[jA]at h1;omega
 |k+1,n,j,h1,h2=>by
  simp only[jA]at h1
  split at h1
  ·rename_i hc
   rcases Nat.lt_or_ge j (n-1)with h|h
   ·exact yF ls k (n-1) j h1 h
   ·rw[show j=n-1 by omega];exact hc.2
  ·omega
theorem yB {ls:List Int}(hb:∀j,0≤ls.getD j 0∧ls.getD j 0<8){row q:List Bool}{lim N:Nat}{o:List Int}(hN:N≤19):∀(n i:Nat)(p:List Bool)(l:List Int),i+n=N→row=p++(((aV.drop i).take n).flatMap (fun s=>bitsOf (ls.getD s.toNat 0) 3)++q)→l.length=19→
 (∀s,s<19→l.getD s 0=if∃j,j<i∧kG.getD j 0=s then ls.getD s 0 else 0)→
 ∃l',(sx n i l).run row lim ⟨p.length,o⟩=.ok (l',⟨p.length+3*n,o⟩)∧l'.length=19∧∀s,s<19→l'.getD s 0=if∃j,j<N∧kG.getD j 0=s then ls.getD s 0 else 0
 |0,i,p,l,hi,hr,hl,h=>⟨l,rfl,hl,by rw[←hi];exact h⟩
 |n+1,i,p,l,hi,hr,hl,h=>by
  have gv:i<aV.length:=by show i<19;omega
  have hd:(aV.drop i).take (n+1)=aV.getD i 0::(aV.drop (i+1)).take n:=by
   rw[List.drop_eq_getElem_cons gv,List.take_succ_cons,List.getD_eq_getElem?_getD,List.getElem?_eq_getElem gv];rfl
  rw[hd,List.flatMap_cons,List.append_assoc]at hr
  have na:=hb (aV.getD i 0).toNat
  rw[sx,DP.dx hr rfl na.1 na.2]
  have hlen:(p++bitsOf (ls.getD (aV.getD i 0).toNat 0) 3).length=p.length+3:=by rw[List.length_append,ak]
  obtain⟨l',h1,h2,h3⟩:=yB hb (row:=row) (q:=q) (lim:=lim) (o:=o) hN n (i+1) (p++bitsOf (ls.getD (aV.getD i 0).toNat 0) 3) (l.set (kG.getD i 0) (ls.getD (aV.getD i 0).toNat 0)) (by omega) (by rw[hr,List.append_assoc]) (by rw[List.length_set];exact hl) (by
   intro s hs
   rw[jg,Cd]
   by_cases he:kG.getD i 0=s
   ·rw[if_pos ⟨he,by omega⟩,if_pos ⟨i,Nat.lt_succ_self i,he⟩,he]
   ·rw[if_neg (fun x=>he x.1),h s hs]
    by_cases hj:∃j,j<i∧kG.getD j 0=s
    ·obtain⟨j,j1,j2⟩:=hj
     rw[if_pos ⟨j,j1,j2⟩,if_pos ⟨j,by omega,j2⟩]
    ·rw[if_neg hj,if_neg]
     rintro⟨j,j1,j2⟩
     rcases Nat.lt_succ_iff_lt_or_eq.1 j1 with h|rfl
     ·exact hj ⟨j,h,j2⟩
     ·exact he j2)
  rw[hlen]at h1
  exact⟨l',by rw[h1,show p.length+3+3*n=p.length+3*(n+1) by omega],h2,h3⟩
theorem Pq:∀s,s<19→∃j,j<19∧kG.getD j 0=s:=by decide
theorem Lm {a b:List Int}(hl:a.length=b.length)(h:∀s,s<a.length→a.getD s 0=b.getD s 0):a=b:=by
 refine List.ext_getElem hl fun i h1 h2=>?_
 have:=h i h1
 rwa[List.getD_eq_getElem?_getD,List.getElem?_eq_getElem h1,List.getD_eq_getElem?_getD,List.getElem?_eq_getElem h2]at this
theorem KU {L ls:List Int}(ok:oq L ls){row q p:List Bool}{lim:Nat}{o:List Int}(hr:row=p++(eT ls (jA ls 15 19)++q)):
 (sx (jA ls 15 19) 0 (List.replicate 19 0)).run row lim ⟨p.length,o⟩=.ok (ls,⟨p.length+(eT ls (jA ls 15 19)).length,o⟩):=by
 have hN:=(Aj ls 15 19 (by decide)).2
 have hb:∀j,0≤ls.getD j 0∧ls.getD j 0<8:=by
  intro j
  rcases Nat.lt_or_ge j ls.length with h|h
  ·rw[List.getD_eq_getElem?_getD,List.getElem?_eq_getElem h];exact ok.RA _ (List.getElem_mem _)
  ·rw[List.getD_eq_getElem?_getD,List.getElem?_eq_none h];decide
 obtain⟨l',h1,h2,h3⟩:=yB hb (row:=row) (q:=q) (lim:=lim) (o:=o) hN (jA ls 15 19) 0 p (List.replicate 19 0) (Nat.zero_add _) hr rfl (fun s hs=>by rw[jw,if_neg];rintro⟨j,j1,_⟩;omega)
 have Ds:(eT ls (jA ls 15 19)).length=3*jA ls 15 19:=by
  unfold eT;rw[sY,List.length_take,show aV.length=19 from rfl,Nat.min_eq_left hN]
 have y6:=ok.len
 have:l'=ls:=by
  refine Lm (by omega) fun s hs=>?_
  rw[h3 s (by omega)]
  split
  ·rfl
  ·rename_i hn
   obtain⟨j,j1,j2⟩:=Pq s (by omega)
   have h4:=yF ls 15 19 j (by
    rcases Nat.lt_or_ge j (jA ls 15 19)with h|h
    ·exact absurd ⟨j,h,j2⟩ hn
    ·exact h) j1
   rw[Cd,j2]at h4
   exact h4.symm
 rw[h1,this,Ds]
theorem qT {L:List Int}{v:Int}:∀(m i:Nat),i+m≤L.length→(∀j,j<m→L.getD (i+j) 0=v)→L.take i++List.replicate m v=L.take (i+m)
 |0,i,_,_=>List.append_nil _
 |m+1,i,h1,h2=>by
  rw[List.replicate_succ,show i+(m+1)=i+1+m by omega,←qT m (i+1) (by omega) (fun j hj=>by rw[show i+1+j=i+(j+1) by omega];exact h2 (j+1) (by omega)),←oB (show i<L.length by omega),List.append_assoc]
  have:=h2 0 (by omega)
  rw[Nat.add_zero]at this
  rw[this];rfl
theorem DT (L:List Int)(i n:Nat):((aC L i n).1.1=18∧(aC L i n).1.2.2=7∧(aC L i n).1.2.1+11=(aC L i n).2∧L.getD i 0=0)∨((aC L i n).1.1=17∧(aC L i n).1.2.2=3∧(aC L i n).1.2.1+3=(aC L i n).2∧L.getD i 0=0)∨
 ((aC L i n).1.1=16∧(aC L i n).1.2.2=2∧(aC L i n).1.2.1+3=(aC L i n).2∧0<i∧L.getD (i-1) 0=L.getD i 0)∨((aC L i n).1.1=(L.getD i 0).toNat∧(aC L i n).1.2=(0,0)∧(aC L i n).2=1):=by
 unfold aC
 split
 ·rename_i h;exact .inl ⟨rfl,rfl,by show min n 138-11+11=min n 138;omega,h.1⟩
 ·split
  ·rename_i h;exact .inr (.inl ⟨rfl,rfl,by show n-3+3=n;omega,h.1⟩)
  ·split
   ·rename_i h;exact .inr (.inr (.inl ⟨rfl,rfl,by show min n 6-3+3=min n 6;omega,h.1,h.2.1⟩))
   ·exact .inr (.inr (.inr ⟨rfl,rfl,rfl⟩))
theorem vE {L ls:List Int}(ok:oq L ls)(Nk:∀x∈L,0≤x∧x<16){row q:List Bool}{lim:Nat}{o:List Int}:∀(F i:Nat)(p:List Bool),i≤L.length→L.length-i<F→(∀x∈dc L (L.length-i) i,x∈bt L)→row=p++(fl ls (dc L (L.length-i) i)++q)→
 (gp (bx (aj ls) []) L.length F (L.take i)).run row lim ⟨p.length,o⟩=.ok (L,⟨p.length+(fl ls (dc L (L.length-i) i)).length,o⟩)
 |0,i,p,_,h,_,_=>absurd h (Nat.not_lt_zero _)
 |F+1,i,p,hi,hF,hm,hr=>by
  have m7:(L.take i).length=i:=by rw[List.length_take];omega
  rw[gp]
  by_cases he:i<L.length
  ·rw[if_neg (by omega)]
   have a8:=qa he
   have hrn:=oK L i L.length 1 (by omega)
   have heq:=G0 L i L.length 1 (fun j hj=>by rw[show i+j=i by omega])
   obtain⟨n,hn⟩:∃n,runN L i L.length 1=n:=⟨_,rfl⟩
   rw[hn]at a8 hrn heq
   have hle:=rl L i n hrn.1
   have xj:=DT L i n
   obtain⟨x,hx⟩:∃x,(aC L i n).1=x:=⟨_,rfl⟩
   obtain⟨m,hmm⟩:∃m,(aC L i n).2=m:=⟨_,rfl⟩
   rw[hx,hmm]at a8 xj
   rw[hmm]at hle
   rw[a8]at hm hr⊢
   obtain⟨hC,hE,hK⟩:=ok.rows x (hm x List.mem_cons_self)
   obtain⟨G,hG⟩:∃G,fl ls (dc L (L.length-(i+m)) (i+m))=G:=⟨_,rfl⟩
   have Zj:fl ls (x::dc L (L.length-(i+m)) (i+m))=bf ls (x.1:Int)++bitsOf (x.2.1:Int) x.2.2++G:=by rw[←hG];rfl
   rw[Zj]at hr⊢
   have ih:=vE ok Nk (row:=row) (q:=q) (lim:=lim) (o:=o) F (i+m) (p++(bf ls (x.1:Int)++bitsOf (x.2.1:Int) x.2.2)) (by omega) (by omega) (fun y hy=>hm y (List.mem_cons_of_mem _ hy)) (by rw[hr,hG];simp only[List.append_assoc])
   rw[hG]at ih
   have hrx:row=p++(bf ls (x.1:Int)++(bitsOf (x.2.1:Int) x.2.2++(G++q))):=by rw[hr];simp only[List.append_assoc]
   have PU:row=(p++bf ls (x.1:Int))++(bitsOf (x.2.1:Int) x.2.2++(G++q)):=by rw[hr];simp only[List.append_assoc]
   have ZE:((x.2.1:Nat):Int)<2^x.2.2:=by exact_mod_cast hE
   have LY:(p++(bf ls (x.1:Int)++bitsOf (x.2.1:Int) x.2.2)).length+G.length=p.length+(bf ls (x.1:Int)++bitsOf (x.2.1:Int) x.2.2++G).length:=by simp only[List.length_append];omega
   rw[LY,show(p++(bf ls (x.1:Int)++bitsOf (x.2.1:Int) x.2.2)).length=p.length+(bf ls (x.1:Int)).length+x.2.2 by simp only[List.length_append,ak];omega]at ih
   rw[DP.run_bind,kU ok.each hC hrx rfl]
   simp only
   obtain⟨sy,ex,kk⟩:=x
   simp only at xj PU ZE ih⊢
   rcases xj with⟨a,b,c,d⟩|⟨a,b,c,d⟩|⟨a,b,c,d,d2⟩|⟨a,b,c⟩
   ·subst a b
    have hT:=qT (L:=L) m i (v:=0) (by omega) (fun j hj=>by rw[heq j (by omega)];exact d)
    rw[if_neg (by decide),if_neg (by decide),if_neg (by decide),DP.bind,DP.dx PU (by simp only[List.length_append]) (Int.natCast_nonneg _) ZE,DP.bind]
    simp only
    rw[m7,if_neg (by omega),show(11+(ex:Int)).toNat=m by omega,hT]
    exact ih
   ·subst a b
    have hT:=qT (L:=L) m i (v:=0) (by omega) (fun j hj=>by rw[heq j (by omega)];exact d)
    rw[if_neg (by decide),if_neg (by decide),if_pos (by decide),DP.bind,DP.dx PU (by simp only[List.length_append]) (Int.natCast_nonneg _) ZE,DP.bind]
    simp only
    rw[m7,if_neg (by omega),show(3+(ex:Int)).toNat=m by omega,hT]
    exact ih
   ·subst a b
    have hT:=qT (L:=L) m i (v:=L.getD (i-1) 0) (by omega) (fun j hj=>by rw[heq j (by omega)];exact d2.symm)
    have eN:L.take i≠[]:=by intro h;rw[h]at m7;simp only[List.length_nil]at m7;omega
    rw[if_neg (by decide),if_pos (by decide),if_neg eN,DP.bind,DP.dx PU (by simp only[List.length_append]) (Int.natCast_nonneg _) ZE,DP.bind]
    simp only
    rw[m7,if_neg (by omega),show(3+(ex:Int)).toNat=m by omega,dJ (show i-1<i by omega),hT]
    exact ih
   ·have hb:=Nk (L.getD i 0) (by rw[List.getD_eq_getElem?_getD,List.getElem?_eq_getElem he];exact List.getElem_mem _)
    obtain⟨rfl,rfl⟩:=Prod.mk.inj b
    subst c
    have e1:((sy:Nat):Int)=L.getD i 0:=by omega
    rw[if_pos (by omega),e1,oB he]
    rw[e1]at ih
    exact ih
  ·have WQ:i=L.length:=by omega
   rw[if_pos (by omega),WQ,Nat.sub_self,List.take_length]
   rfl
theorem Qt {xs A D:List Int}(bk:Bg (cI xs) A D)(hx:xs.length≤1000000){row q:List Bool}{lim f:Nat}(hl:xs.length≤lim)(hr:row=dM (cI xs) A D++q):
 (il (f+1)).run row lim ⟨0,[]⟩=.ok ((),⟨(dM (cI xs) A D).length,xs⟩):=by
 have Nl:=bk.al
 have Rm:=bk.dl
 obtain⟨L,hL⟩:∃L,A++D=L:=⟨_,rfl⟩
 have jO:L.length=A.length+D.length:=by rw[←hL,List.length_append]
 have Nk:∀x∈L,0≤x∧x<16:=by
  intro x hx
  rw[←hL]at hx
  rcases List.mem_append.1 hx with h|h
  ·exact bk.ab x h
  ·exact bk.db x h
 obtain⟨_,ok⟩:=z8 (L:=L) (by omega) Nk
 have P1:nL L=jA (M8 L) 15 19:=rfl
 obtain⟨ls,ED⟩:∃ls,M8 L=ls:=⟨_,rfl⟩
 rw[ED]at ok P1
 obtain⟨N,hN⟩:∃N,jA ls 15 19=N:=⟨_,rfl⟩
 rw[hN]at P1
 have Xj:=Ld L
 rw[P1]at Xj
 have hD:dM (cI xs) A D=iK A D++eT ls N++fl ls (bt L)++(bY A D (cI xs)++bf A 256):=by
  unfold dM;rw[hL,ED,P1]
 have hH:iK A D=bitsOf 5 3++bitsOf ((A.length-257:Nat):Int) 5++bitsOf ((D.length-1:Nat):Int) 5++bitsOf ((N-4:Nat):Int) 4:=by
  unfold iK;rw[hL,P1]
 have h3:bitsOf 5 3=bitsOf 1 1++bitsOf 2 2:=by decide
 obtain⟨R1,hR1⟩:∃R,bY A D (cI xs)++(bf A 256++q)=R:=⟨_,rfl⟩
 have TP:row=bitsOf 5 3++(bitsOf ((A.length-257:Nat):Int) 5++(bitsOf ((D.length-1:Nat):Int) 5++(bitsOf ((N-4:Nat):Int) 4++(eT ls N++(fl ls (bt L)++R1))))):=by
  rw[hr,hD,hH,←hR1];simp only[List.append_assoc]
 have Bi:row=[]++(bitsOf 1 1++(bitsOf 2 2++(bitsOf ((A.length-257:Nat):Int) 5++(bitsOf ((D.length-1:Nat):Int) 5++(bitsOf ((N-4:Nat):Int) 4++(eT ls N++(fl ls (bt L)++R1))))))):=by
  rw[TP,h3];simp only[List.append_assoc,List.nil_append]
 have hB:(gJ 2).run row lim ⟨3,[]⟩=.ok ((),⟨(dM (cI xs) A D).length,xs⟩):=by
  unfold gJ
  rw[if_neg (by decide),if_neg (by decide),if_pos rfl,Cb]
  rw[DP.dx (p:=bitsOf 5 3) (s:=⟨3,[]⟩) TP rfl (Int.natCast_nonneg _) (by omega),
   DP.dx (p:=bitsOf 5 3++bitsOf ((A.length-257:Nat):Int) 5) (v:=((D.length-1:Nat):Int)) (n:=5) (q:=bitsOf ((N-4:Nat):Int) 4++(eT ls N++(fl ls (bt L)++R1))) (by rw[TP];simp only[List.append_assoc]) (by simp only[List.length_append,ak]) (Int.natCast_nonneg _) (by omega),
   DP.dx (p:=bitsOf 5 3++bitsOf ((A.length-257:Nat):Int) 5++bitsOf ((D.length-1:Nat):Int) 5) (v:=((N-4:Nat):Int)) (n:=4) (q:=eT ls N++(fl ls (bt L)++R1)) (by rw[TP];simp only[List.append_assoc]) (by simp only[List.length_append,ak]) (Int.natCast_nonneg _) (by omega)]
  rw[if_neg (by omega),DP.run_bind]
  simp only[Int.toNat_natCast]
  have hp1:(bitsOf 5 3++bitsOf ((A.length-257:Nat):Int) 5++bitsOf ((D.length-1:Nat):Int) 5++bitsOf ((N-4:Nat):Int) 4).length=17:=by simp only[List.length_append,ak]
  have hO:=KU ok (row:=row) (p:=iK A D) (q:=fl ls (bt L)++R1) (lim:=lim) (o:=[]) (by rw[TP,hH,hN];simp only[List.append_assoc])
  rw[hN,kZ]at hO
  rw[show N-4+4=N by omega,show 3+5+5+4=17 from rfl,hO]
  simp only
  rw[DP.run_bind,gH,if_pos ok.each,DP.run]
  simp only
  have hLe:=vE ok Nk (row:=row) (q:=R1) (lim:=lim) (o:=[]) 401 0 (iK A D++eT ls N) (Nat.zero_le _) (by omega) (fun x hx=>hx) (by
   rw[TP,hH];show _=_++(fl ls (bt L)++R1);simp only[List.append_assoc])
  rw[List.length_append,kZ,Nat.sub_zero,List.take_zero]at hLe
  rw[DP.run_bind,show A.length-257+257+(D.length-1+1)=L.length by omega,hLe]
  simp only
  have Uw:=bk.fin.2.2.1
  have hg:L.getD 256 0=A.getD 256 0:=by
   rw[←hL,List.getD_eq_getElem?_getD,List.getElem?_append_left (by omega),List.getD_eq_getElem?_getD]
  have Uw:1≤A.getD 256 0:=Uw
  rw[hg,if_neg (by omega),show A.length-257+257=A.length by omega,show L.take A.length=A by rw[←hL,List.take_left],show L.drop A.length=D by rw[←hL,List.drop_left]]
  rw[DP.run_bind,gH,if_pos bk.ea,DP.run]
  simp only
  rw[DP.run_bind,gH,if_pos bk.ed,DP.run]
  simp only
  have hs:=qe (xs:=xs) bk.ea bk.ed bk.fin (row:=row) (q:=q) hl (cI xs) FU 0 (iK A D++eT ls N++fl ls (bt L)) (lP xs) (Nat.zero_le _) bk.ZL (Nat.lt_of_le_of_lt (Nat.le_trans (qR xs) hx) Bf) (by
   rw[TP,hR1,hH];simp only[List.append_assoc])
  rw[List.take_zero]at hs
  rw[show(dc L L.length 0)=bt L from rfl,show 17+(eT ls N).length+(fl ls (bt L)).length=(iK A D++eT ls N++fl ls (bt L)).length by rw[List.length_append,List.length_append,kZ],hs,hD]
  simp only[List.length_append,Nat.add_assoc]
 have:=sA (f:=f) (last:=1) (k:=2) (s:=⟨0,[]⟩) (by decide) (by decide) Bi rfl hB
 rw[if_neg (by decide)]at this
 exact this
theorem Qu {xs A D:List Int}(bk:Bg (cI xs) A D)(hx:xs.length≤1000000){zs:List Int}{lim:Nat}(hl:xs.length≤lim):
 jJ (bC (dM (cI xs) A D)++zs) lim=.ok ((),⟨(dM (cI xs) A D).length,xs⟩):=by
 obtain⟨k,hk,h1,h2⟩:=kC (dM (cI xs) A D)
 exact Cz (fun q f=>Qt bk hx hl rfl) ⟨_,h1⟩
end Go.Proofs.Ytibadaomjlkoaaa
open Go.RowKit
namespace Go.Proofs.Ytibadaomjlkoaaa
theorem xH:gJ 0=jc:=by unfold gJ;rw[if_pos rfl]
theorem qY (last:Int)(ys:List Int):(kW last ys).length=ys.length+5:=by unfold kW;rw[List.length_append];show 5+_=_;omega
theorem u4 {row p q:List Bool}{lim f:Nat}{last:Int}{ys o:List Int}(hl:0≤last∧last<2)(hy:ys.length≤65535)(hb:∀y∈ys,0≤y∧y<256)(iP:o.length+ys.length≤lim)(hp:p.length%8=0)(hr:row=p++(unpack (kW last ys)++q)):
 (il (f+1)).run row lim ⟨p.length,o⟩=if last=0 then(il f).run row lim ⟨p.length+8*(kW last ys).length,o++ys⟩else .ok ((),⟨p.length+8*(kW last ys).length,o++ys⟩):=by
 obtain⟨n,hn⟩:∃n:Int,(ys.length:Int)=n:=⟨_,rfl⟩
 have e16:bitsOf n 16=bitsOf (n%256) 8++bitsOf (n/256%256) 8:=by
  have:=mH n 8 8
  rw[show n%2^8=n%256 by omega,show n/2^8=n/256%256 by omega]at this
  exact this
 have aaH:bitsOf (65535-n) 16=bitsOf (255-n%256) 8++bitsOf (255-n/256%256) 8:=by
  have:=mH (65535-n) 8 8
  rw[show(65535-n)%2^8=255-n%256 by omega,show(65535-n)/2^8=255-n/256%256 by omega]at this
  exact this
 have e8:bitsOf last 8=bitsOf last 1++(bitsOf 0 2++bitsOf 0 5):=by
  have:last=0∨last=1:=by omega
  rcases this with rfl|rfl<;>decide
 have hu:unpack (kW last ys)=bitsOf last 8++(bitsOf n 16++(bitsOf (65535-n) 16++unpack ys)):=by
  unfold kW
  rw[hn,fk,e16,aaH]
  simp[unpack]
 have Bi:row=p++(bitsOf last 1++(bitsOf 0 2++(bitsOf 0 5++(bitsOf n 16++(bitsOf (65535-n) 16++(unpack ys++q)))))):=by
  rw[hr,hu,e8];simp only[List.append_assoc]
 have UU:row=(p++bitsOf last 8)++(bitsOf (ys.length:Int) 16++(bitsOf (65535-(ys.length:Int)) 16++(unpack ys++q))):=by
  rw[hr,hu,hn];simp only[List.append_assoc]
 have hB:(gJ 0).run row lim ⟨p.length+3,o⟩=.ok ((),⟨p.length+8*(kW last ys).length,o++ys⟩):=by
  rw[xH]
  have:=Ai (row:=row) (lim:=lim) (ys:=ys) (p:=p++bitsOf last 8) (q:=q) (s:=⟨p.length+3,o⟩) UU (by show(p.length+3+7)/8*8=_;rw[List.length_append,ak];omega) hy hb iP
  rw[this,List.length_append,ak,qY,show p.length+8+32+8*ys.length=p.length+8*(ys.length+5) by omega]
 exact sA (f:=f) (s:=⟨p.length,o⟩) hl (by decide) Bi rfl hB
theorem BG {row:List Bool}{lim:Nat}{q:List Bool}:∀(k f:Nat)(ys o:List Int)(p:List Bool),ys.length≤(k+1)*65535→k<f→(∀y∈ys,0≤y∧y<256)→o.length+ys.length≤lim→p.length%8=0→row=p++(unpack (dL k ys)++q)→
 (il f).run row lim ⟨p.length,o⟩=.ok ((),⟨p.length+8*(dL k ys).length,o++ys⟩)
 |k,0,_,_,_,_,h,_,_,_,_=>absurd h (Nat.not_lt_zero _)
 |0,f+1,ys,o,p,h1,_,hb,hl,hp,hr=>by
  rw[u4 (last:=1) (by decide) (by omega) hb hl hp hr,if_neg (by decide)];rfl
 |k+1,f+1,ys,o,p,h1,h2,hb,hl,hp,hr=>by
  by_cases hc:ys.length≤65535
  ·rw[dL,if_pos hc]at hr⊢
   rw[u4 (last:=1) (by decide) hc hb hl hp hr,if_neg (by decide)]
  ·rw[dL,if_neg hc]at hr⊢
   have ht:(ys.take 65535).length=65535:=by rw[List.length_take];omega
   rw[fk,List.append_assoc]at hr
   rw[u4 (last:=0) (by decide) (by omega) (fun y hy=>hb y (List.mem_of_mem_take hy)) (by rw[ht];omega) hp hr,if_pos rfl]
   have uh:=aL (kW 0 (ys.take 65535))
   have ih:=BG (row:=row) (lim:=lim) (q:=q) k f (ys.drop 65535) (o++ys.take 65535) (p++unpack (kW 0 (ys.take 65535))) (by rw[List.length_drop];omega) (by omega) (fun y hy=>hb y (List.mem_of_mem_drop hy)) (by rw[List.length_append,List.length_drop,ht];omega) (by rw[List.length_append,uh];omega) (by rw[hr,List.append_assoc])
   rw[List.length_append,uh,List.append_assoc,List.take_append_drop]at ih
   rw[ih,List.length_append,show p.length+8*(kW 0 (ys.take 65535)).length+8*(dL k (ys.drop 65535)).length=p.length+8*((kW 0 (ys.take 65535)).length+(dL k (ys.drop 65535)).length) by omega]
theorem NB {xs:List Int}(hb:∀x∈xs,0≤x∧x<256)(hx:xs.length≤1000000){zs:List Int}{lim:Nat}(hl:xs.length≤lim):
 jJ (dL xs.length xs++zs) lim=.ok ((),⟨8*(dL xs.length xs).length,xs⟩):=by
 rw[nR,fk]
 have:=BG (row:=unpack (dL xs.length xs)++unpack zs) (lim:=lim) (q:=unpack zs) xs.length FI xs [] [] (by omega) (by unfold FI;omega) hb (by show 0+xs.length≤lim;omega) rfl rfl
 simp only[List.length_nil,Nat.zero_add,List.nil_append]at this
 exact this
theorem zq (row:List Bool):(row.length+7)/8=(bC row).length:=by
 obtain⟨k,hk,_,h2⟩:=kC row
 omega
theorem zl {xs:List Int}(hb:∀x∈xs,0≤x∧x<256)(hx:xs.length≤150000){zs:List Int}{lim:Nat}(hl:xs.length≤lim):
 ∃a,jJ (fp xs++zs) lim=.ok ((),⟨a,xs⟩)∧(a+7)/8=(fp xs).length:=by
 have hR:=J9 hb
 have hn:=qR xs
 have h0:=NB hb (by omega) (zs:=zs) hl
 have h1:=Ql hb (by omega) (zs:=zs) hl
 have h2:=Qu (Bc hR (by omega)) (by omega) (zs:=zs) hl
 have c0:∃a,jJ (dL xs.length xs++zs) lim=.ok ((),⟨a,xs⟩)∧(a+7)/8=(dL xs.length xs).length:=⟨_,h0,by omega⟩
 have c1:∃a,jJ (bC (cy (cI xs))++zs) lim=.ok ((),⟨a,xs⟩)∧(a+7)/8=(bC (cy (cI xs))).length:=⟨_,h1,zq _⟩
 have c2:∃a,jJ (bC (JD xs)++zs) lim=.ok ((),⟨a,xs⟩)∧(a+7)/8=(bC (JD xs)).length:=⟨_,h2,zq _⟩
 have V6:∀s b:List Int,(∃a,jJ (s++zs) lim=.ok ((),⟨a,xs⟩)∧(a+7)/8=s.length)→(∃a,jJ (b++zs) lim=.ok ((),⟨a,xs⟩)∧(a+7)/8=b.length)→∃a,jJ (mo s b++zs) lim=.ok ((),⟨a,xs⟩)∧(a+7)/8=(mo s b).length:=by
  intro s b hs hb
  unfold mo
  split
  ·exact hs
  ·exact hb
 exact V6 _ _ c2 (V6 _ _ c1 c0)
theorem Hr (s b:List Int):(mo s b).length≤s.length∧(mo s b).length≤b.length:=by
 unfold mo;split<;>omega
theorem CX (xs:List Int):(fp xs).length≤(bC (JD xs)).length∧(fp xs).length≤(bC (cy (cI xs))).length∧(fp xs).length≤(dL xs.length xs).length:=by
 have h1:=Hr (bC (JD xs)) (mo (bC (cy (cI xs))) (dL xs.length xs))
 have h2:=Hr (bC (cy (cI xs))) (dL xs.length xs)
 unfold fp
 omega
theorem BH:∀(k:Nat)(ys:List Int),ys.length≤(k+1)*65535→(dL k ys).length≤ys.length+5*(ys.length/65535+1)
 |0,ys,h=>by rw[dL,qY];omega
 |k+1,ys,h=>by
  rw[dL]
  split
  ·rw[qY];omega
  ·have ih:=BH k (ys.drop 65535) (by rw[List.length_drop];omega)
   rw[List.length_append,qY,List.length_take]
   rw[List.length_drop]at ih
   omega
theorem Ik:∀(k:Nat)(ys:List Int),(∀y∈ys,0≤y∧y<256)→∀x∈dL k ys,0≤x∧x<256:=by
 have hB:∀(l:Int)(ys:List Int),(l=0∨l=1)→(∀y∈ys,0≤y∧y<256)→∀x∈kW l ys,0≤x∧x<256:=by
  intro l ys hl h x hx
  unfold kW at hx
  rcases List.mem_append.1 hx with hx|hx
  ·simp only[List.mem_cons,List.not_mem_nil,or_false]at hx
   rcases hx with rfl|rfl|rfl|rfl|rfl<;>omega
  ·exact h x hx
 intro k
 induction k with
 |zero=>intro ys h;exact hB 1 ys (.inr rfl) h
 |succ k ih=>
  intro ys h
  rw[dL]
  split
  ·exact hB 1 ys (.inr rfl) h
  ·intro x hx
   rcases List.mem_append.1 hx with hx|hx
   ·exact hB 0 _ (.inl rfl) (fun y hy=>h y (List.mem_of_mem_take hy)) x hx
   ·exact ih _ (fun y hy=>h y (List.mem_of_mem_drop hy)) x hx
theorem wM {xs:List Int}(hb:∀x∈xs,0≤x∧x<256):∀x∈fp xs,0≤x∧x<256:=by
 have V6:∀s b:List Int,(∀x∈s,0≤x∧x<256)→(∀x∈b,0≤x∧x<256)→∀x∈mo s b,0≤x∧x<256:=by
  intro s b hs hb
  unfold mo
  split
  ·exact hs
  ·exact hb
 exact V6 _ _ (tT _) (V6 _ _ (tT _) (Ik _ _ hb))
end Go.Proofs.Ytibadaomjlkoaaa
open Go.RowKit
namespace Go.Proofs.Ytibadaomjlkoaaa
set_option maxRecDepth 10000
theorem QD:(fp [97,98,99]).length≤5:=by
 have h:=(CX [97,98,99]).2.1
 have h2:(bC (cy (cI [97,98,99]))).length=5:=by decide+kernel
 omega
section
variable{M:AH}{K Kp:AV→AH→Prop}
theorem CW {i g off n c co:Nat}{o:Bool}{xs ys:List Int}{Y:List Int}(hi:M[i]?=some (.one o g (.ints .u8 ys co)))(hn:n=xs.length)(hy:xs=(ys.drop off).take xs.length)(wu:off+c≤co)(hx:xs.length≤150000)(hc:xs.length≤c)(hb:∀x∈xs,0≤x∧x<256)(hY:fp xs=Y)
 (h:∀g' c',Y.length≤c'→K (.aE [.sl M.length g' 0 Y.length c',.int .i64 0]) (M++[.one true g' (.ints .u8 Y c')])):aa Try.prog 8 [.sl i g off n c] M K Kp:=by
 subst hn hY
 refine aa.lift [.cP i g off] (AY (xs:=xs) (c0:=c) (c:=c) (K:=fun r N=>∃g c',(fp xs).length≤c'∧r=.aE [.sl 1 g 0 (fp xs).length c',.int .i64 0]∧N=[.one false 0 (.ints .u8 xs c),.one true g (.ints .u8 (fp xs) c')]) (Kp:=fun _ _=>False) hx hc (Nat.le_refl _) hb (fun g c' h=>⟨g,c',h,rfl,rfl⟩)) rfl rfl ⟨⟨_,_,_,rfl,ao hi,cq.ints wu hy⟩,trivial⟩ ⟨trivial,trivial⟩ ?_ (fun _ _ h=>h.elim)
 rintro r M' ⟨g',c',nU,rfl,rfl⟩
 exact⟨⟨rfl,rfl⟩,h g' c' nU⟩
theorem wL {i g n c co:Nat}{o:Bool}{xs:List Int}{Y:List Int}(hi:M[i]?=some (.one o g (.ints .u8 xs co)))(hn:n=xs.length)(hx:xs.length≤150000)(hc:xs.length≤c)(wu:c≤co)(hb:∀x∈xs,0≤x∧x<256)(hY:fp xs=Y)
 (h:∀g' c',Y.length≤c'→K (.aE [.sl M.length g' 0 Y.length c',.int .i64 0]) (M++[.one true g' (.ints .u8 Y c')])):aa Try.prog 8 [.sl i g 0 n c] M K Kp:=
 CW hi hn (by rw[List.drop_zero,List.take_length]) (by omega) hx hc hb hY h
theorem PI {i g n c0 co:Nat}{o:Bool}{xs:List Int}{lim:Nat}{limit:Int}{s:DS}(hi:M[i]?=some (.one o g (.ints .u8 xs co)))(hl:limit=(lim:Int))(hn:n=xs.length)(hc:xs.length≤co)
 (uG:xs.length≤1000000)(sR:∀x∈xs,0≤x∧x<256)(iP:lim≤524288)(he:jJ xs lim=.ok ((),s))
 (h:∀g c,s.out.length≤c→K (.aE [.sl M.length g 0 s.out.length c,.int .i64 (((s.a+7)/8:Nat):Int),.int .i64 0]) (M++[.one true g (.ints .u8 s.out c)])):
 aa Try.prog 13 [.sl i g 0 n c0,.int .i64 limit] M K Kp:=by
 subst hl
 refine Em hi hn hc uG sR (by omega) (fun h=>absurd h (by omega)) (fun g2 c2 s2 _ _ e5 iw gm=>?_) (fun e _ _ e5=>?_)
 ·rw[Int.toNat_natCast,he]at e5
  obtain rfl:s=s2:=by injection e5 with e5;injection e5
  exact h g2 c2 iw.oc
 ·rw[Int.toNat_natCast,he]at e5
  cases e5
theorem Ek (h:K (.bo true) []):aa Try.prog 10 [] [] K Kp:=by
 obtain⟨Y,hY⟩:∃Y,fp [97,98,99]=Y:=⟨_,rfl⟩
 have hl:=QD
 have Xb:=wM (xs:=[97,98,99]) (by decide)
 obtain⟨a,ha,qJ⟩:=zl (xs:=[97,98,99]) (by decide) (by decide) (zs:=[]) (lim:=3) (by decide)
 rw[List.append_nil]at ha
 rw[hY]at hl Xb ha qJ
 refine aa.bI ?_
 refine SY (fun _=>[]) [] rfl ?_
 refine Qs ?_
 refine wL (i:=0) (xs:=[97,98,99]) rfl rfl (by decide) (by decide) (by decide) (by decide) hY fun g1 c1 h1=>?_
 refine Qs ?_
 refine PI (i:=1) (xs:=Y) (lim:=3) rfl rfl rfl h1 (by omega) Xb (by decide) ha fun g2 c2 h2=>?_
 refine Qs ?_
 refine fi (decide_eq_true (show(Y.length:Int)≤5 by omega)) ?_
 refine Qs ?_
 intro ys sP
 obtain rfl:ys=[97,98,99]:=by rw[sP];rfl
 refine Qs ?_
 refine fi (Ih _ rfl) ?_
 have e3:(((a+7)/8:Nat):Int)=(Y.length:Int):=by rw[qJ]
 refine Qs ?_
 rw[decide_eq_true e3]
 exact⟨[],cU _,trivial,rfl,h⟩
theorem Lp (h:K (.bo true) M):aa Try.prog 10 [] M K Kp:=by
 refine aa.lift [] (Ek (K:=fun r N=>r=.bo true∧N=[]) (Kp:=fun _ _=>False) ⟨rfl,rfl⟩) rfl rfl trivial trivial ?_ (fun _ _ h=>h.elim)
 rintro r M' ⟨rfl,rfl⟩
 rw[←List.append_nil M]at h
 exact⟨rfl,h⟩
end
end Go.Proofs.Ytibadaomjlkoaaa
