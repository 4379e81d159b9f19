import Derived.Test.YtibadaomjlkoaaaGdm
import Derived.Test.YtibadaomjlkoaaaGdj
import Derived.Test.YtibadaomjlkoaaaGdl
set_option linter.unusedVariables false
set_option linter.unusedSimpArgs false
open Go.RowKit
namespace Go.Proofs.Ytibadaomjlkoaaa
set_option maxRecDepth 10000
theorem BV {xs:List Int}(hb:∀x∈xs,0≤x∧x<256):∀t∈bb xs,Oa t:=by
 intro t ht
 have h:=oQ hb t ht
 exact⟨fun hz=>⟨(h.one hz).1,(h.one hz).2.1⟩,fun hz=>⟨(h.rep hz).1,(h.rep hz).2.1,(h.rep hz).2.2.1,(h.rep hz).2.2.2.1⟩⟩
def Hs (xs:List Int):List Bool:=dB (bb xs) (eW (bb xs)) (eV (bb xs))
def lD (s b:List Int):List Int:=if s.length<b.length then s else b
def ek (xs:List Int):List Int:=lD (bp (Hs xs)) (lD (bp (bx (bb xs))) (dA xs.length xs))
theorem Gv {ts:List Tk}(lX:∀t∈ts,Oa t)(lY:ts.length≤150000):(dB ts (eW ts) (eV ts)).length≤8388608:=by
 have bk:=zk lX lY
 generalize eW ts=A at bk
 generalize eV ts=D at bk
 have ON:=bk.al
 have RC:=bk.dl
 have hl:(A++D).length≤316:=by rw[List.length_append];omega
 obtain⟨_,ok⟩:=yg hl (fun x hx=>by
  rcases List.mem_append.1 hx with h|h
  ·exact bk.ab x h
  ·exact bk.db x h)
 have h1:=p6 ok (bl (A++D)) (fun x hx=>hx)
 have h2:(bl (A++D)).length≤(A++D).length:=nD (A++D) (A++D).length 0
 have h3:=pM ts bk.Ww
 have h4:=jx bk.fin
 have h5:=tZ (KL (A++D)) (nL (A++D))
 have h6:=kp A D
 unfold dB
 simp only[List.length_append]
 simp only[List.length_append]at h1 h2
 rw[List.length_append]at hl
 omega
section
variable{K Kp:AV→AH→Prop}{xs:List Int}{c c0:Nat}
theorem QA {M:AH}{i g n c co:Nat}{o:Bool}(hi:M[i]?=some (.one o g (.ints .u8 xs co)))(hn:n=xs.length)(hx:xs.length≤1000000)(hc:xs.length≤c)(vx:c≤co)(hb:∀x∈xs,0≤x∧x<256){ts:List Tk}(lX:bb xs=ts)
 (h:∀g' c',ts.length≤c'→K (.sl M.length g' 0 ts.length c') (M++[.one true g' (jn ts c')])):aa Try.prog 14 [.sl i g 0 n c] M K Kp:=by
 subst hn lX
 refine aa.lift [.eI i g 0] (yB (xs:=xs) (c0:=c) (c:=co) (K:=fun r N=>∃g RQ,(bb xs).length≤RQ∧r=.sl 1 g 0 (bb xs).length RQ∧N=[.one false 0 (.ints .u8 xs co),.one true g (jn (bb xs) RQ)]) (Kp:=fun _ _=>False) hx hc vx hb (fun g c' h=>⟨g,c',h,rfl,rfl⟩)) rfl rfl ⟨⟨_,_,_,rfl,ak hi,eG.same rfl (fun h=>h)⟩,trivial⟩ ⟨trivial,trivial⟩ ?_ (fun _ _ h=>h.elim)
 rintro r M' ⟨g',c',r8,rfl,rfl⟩
 exact⟨⟨rfl,rfl⟩,h g' c' r8⟩
theorem Gg {M:AH}{i g n c co:Nat}{o:Bool}(hi:M[i]?=some (.one o g (.ints .u8 xs co)))(hn:n=xs.length)(hx:xs.length≤1000000)(hc:xs.length≤c)(vx:c≤co){S:List Int}(hS:dA xs.length xs=S)
 (h:∀g' c',S.length≤c'→K (.sl M.length g' 0 S.length c') (M++[.one true g' (.ints .u8 S c')])):aa Try.prog 15 [.sl i g 0 n c] M K Kp:=by
 subst hn hS
 refine aa.lift [.eI i g 0] (xY (xs:=xs) (c0:=c) (c:=co) (K:=fun r N=>∃g RQ,(dA xs.length xs).length≤RQ∧r=.sl 1 g 0 (dA xs.length xs).length RQ∧N=[.one false 0 (.ints .u8 xs co),.one true g (.ints .u8 (dA xs.length xs) RQ)]) (Kp:=fun _ _=>False) hx hc vx (fun g c' h=>⟨g,c',h,rfl,rfl⟩)) rfl rfl ⟨⟨_,_,_,rfl,ak hi,eG.same rfl (fun h=>h)⟩,trivial⟩ ⟨trivial,trivial⟩ ?_ (fun _ _ h=>h.elim)
 rintro r M' ⟨g',c',r8,rfl,rfl⟩
 exact⟨⟨rfl,rfl⟩,h g' c' r8⟩
theorem ng {X:WX}{row:List Bool}{Y:List Int}{g c:Nat}(hY:bp row=Y)(hr:row.length≤8388608)(hc:(aP row).length≤c){Kp:AV→AH→Prop}:
 aa Try.prog 18 [.ptr 0 0 0] (gq X row g c)
  (fun r M=>∃g' c',r=.sl 5 g' 0 Y.length c'∧M=gq X row g c++[.one true g' (.ints .u8 Y c')]∧Y.length≤c') Kp:=by
 subst hY;exact Bp hr hc
theorem Hm {ts:List Tk}{R:List Bool}{gt ct g0 c0:Nat}(hR:bx ts=R)(lX:∀t∈ts,Ob bC cN t)(lY:ts.length≤150000)(A0:ts.length≤ct):
 aa Try.prog 16 [.ptr 0 0 0] (w3 ts gt ct g0 c0) (fun r N=>∃g c ga ca,(aP R).length≤c∧r=.aL []∧N=gq (dX ts gt ct bC ga ca cN 0 32) R g c) (fun _ _=>False):=by
 subst hR
 exact Bf lX lY A0 (fun g c ga ca hc=>⟨g,c,ga,ca,hc,rfl,rfl⟩)
theorem xD {ts:List Tk}{A D:List Int}{R:List Bool}{gt ct g0 c0:Nat}(hA:eW ts=A)(hD:eV ts=D)(hR:dB ts A D=R)(lX:∀t∈ts,Oa t)(lY:ts.length≤150000)(A0:ts.length≤ct):
 aa Try.prog 17 [.ptr 0 0 0] (w3 ts gt ct g0 c0) (fun r N=>∃g c ga ca gd cd,(aP R).length≤c∧r=.aL []∧N=gq (dX ts gt ct A ga ca D gd cd) R g c) (fun _ _=>False):=by
 subst hA hD hR
 exact Kb lX lY A0 (fun g c ga ca gd cd hc=>⟨g,c,ga,ca,gd,cd,hc,rfl,rfl⟩)
set_option maxHeartbeats 16000000 in
theorem y5 (hx:xs.length≤150000)(hc:xs.length≤c0)(r7:c0≤c)(hb:∀x∈xs,0≤x∧x<256)
 (h:∀g c',(ek xs).length≤c'→K (.aL [.sl 1 g 0 (ek xs).length c',.int .i64 0]) [.one false 0 (.ints .u8 xs c),.one true g (.ints .u8 (ek xs) c')]):
 aa Try.prog 8 [.sl 0 0 0 xs.length c0] [.one false 0 (.ints .u8 xs c)] K Kp:=by
 have Rm:=oQ hb
 have hR:=BV hb
 have lY:=mn xs
 obtain⟨ts,lX⟩:∃ts,bb xs=ts:=⟨_,rfl⟩
 rw[lX]at Rm hR lY
 have Y1:(bx ts).length≤8388608:=by
  unfold bx
  have h2:=pM ts Rm
  have h3:(aQ bC 256).length≤15:=jx (mW (s:=256) (by omega))
  rw[List.length_append,List.length_append,ai];omega
 have V6:(dB ts (eW ts) (eV ts)).length≤8388608:=Gv hR (by omega)
 have AZ:ek xs=lD (bp (dB ts (eW ts) (eV ts))) (lD (bp (bx ts)) (dA xs.length xs)):=by unfold ek Hs;rw[lX]
 obtain⟨S,hS⟩:∃S,dA xs.length xs=S:=⟨_,rfl⟩
 obtain⟨A,hA⟩:∃A,eW ts=A:=⟨_,rfl⟩
 obtain⟨D,hD⟩:∃D,eV ts=D:=⟨_,rfl⟩
 rw[hS,hA,hD]at AZ
 rw[hA,hD]at V6
 obtain⟨RF,XW⟩:∃R,bx ts=R:=⟨_,rfl⟩
 obtain⟨RD,Wl⟩:∃R,dB ts A D=R:=⟨_,rfl⟩
 rw[XW,Wl]at AZ
 rw[XW]at Y1
 rw[Wl]at V6
 obtain⟨F,hF⟩:∃F,bp RF=F:=⟨_,rfl⟩
 obtain⟨Y,hY⟩:∃Y,bp RD=Y:=⟨_,rfl⟩
 rw[hF,hY]at AZ
 refine aa.cU ?_
 refine Sv (fun _=>[]) [] rfl ?_
 refine Qs ?_
 refine And.intro (fun q=>absurd (show(524288:Int)<(xs.length:Int)from of_decide_eq_true q) (by omega)) (fun _=>?_)
 refine Qs ?_
 refine QA (i:=0) rfl rfl (by omega) hc r7 hb lX fun g1 c1 h1=>?_
 refine Qs ?_
 refine Gg (i:=0) rfl rfl (by omega) hc r7 hS fun g4 c4 h4=>?_
 refine Qs ?_
 refine WO.rounds 3 ae mixed (by kernel_rfl) ?_
 refine Qs ?_
 refine aa.view (Vw.ghost (i:=2) (g:=0) (k:=0) (cs:=[.ns,.int .u32 0,.int .i64 0,.sl 1 g1 0 ts.length c1,.ns,.ns]) (x:=.ints .u8 [] 0) rfl rfl ⟨rfl,rfl⟩) ?_
 refine aa.lift [.own 2,.own 6,.own 1] (Hm (gt:=g1) (ct:=c1) (g0:=0) (c0:=0) XW Rm (by omega) h1)
  rfl rfl ⟨⟨rfl,rfl⟩,⟨rfl,rfl⟩,⟨rfl,rfl⟩,trivial⟩ ⟨rfl,trivial,fun j=>rfl,trivial⟩ ?_ (fun _ _ h=>h.elim)
 rintro r M' ⟨g6,c6,g7,c7,h6,rfl,rfl⟩
 refine⟨⟨rfl,rfl,rfl,rfl⟩,?_⟩
 refine Qs ?_
 refine aa.lift [.own 2,.own 6,.own 1,.own 7,.own 8] (ng (X:=dX ts g1 c1 bC g7 c7 cN 0 32) (g:=g6) (c:=c6) (Kp:=fun _ _=>False) hF Y1 h6) rfl rfl ⟨⟨rfl,rfl⟩,⟨rfl,rfl⟩,⟨rfl,rfl⟩,⟨rfl,rfl⟩,⟨rfl,rfl⟩,trivial⟩ ⟨rfl,trivial,fun j=>rfl,trivial,trivial,trivial⟩ ?_ (fun _ _ h=>h.elim)
 rintro r M' ⟨iB,iI,rfl,rfl,h10⟩
 refine⟨⟨rfl,rfl,rfl,rfl,rfl,rfl⟩,?_⟩
 refine Qs ?_
 refine And.intro (fun q=>?_) (fun q=>?_)
 ·have q:F.length<S.length:=by have q:(F.length:Int)<(S.length:Int):=of_decide_eq_true q;omega
  have vy:lD F S=F:=if_pos q
  rw[vy]at AZ
  refine Qs ?_
  refine aa.view (Vw.ghost (i:=3) (g:=0) (k:=0) (cs:=[.ns,.int .u32 0,.int .i64 0,.sl 1 g1 0 ts.length c1,.ns,.ns]) (x:=.ints .u8 [] 0) rfl rfl ⟨rfl,rfl⟩) ?_
  refine aa.lift [.own 3,.own 11,.own 1] (xD (gt:=g1) (ct:=c1) (g0:=0) (c0:=0) hA hD Wl hR (by omega) h1)
   rfl rfl ⟨⟨rfl,rfl⟩,⟨rfl,rfl⟩,⟨rfl,rfl⟩,trivial⟩ ⟨rfl,trivial,fun j=>rfl,trivial⟩ ?_ (fun _ _ h=>h.elim)
  rintro r M' ⟨Yb,Yw,iA,iH,Ya,Yv,X9,rfl,rfl⟩
  refine⟨⟨rfl,rfl,rfl,rfl⟩,?_⟩
  refine Qs ?_
  refine aa.lift [.own 3,.own 11,.own 1,.own 12,.own 13] (ng (X:=dX ts g1 c1 A iA iH D Ya Yv) (g:=Yb) (c:=Yw) (Kp:=fun _ _=>False) hY V6 X9) rfl rfl ⟨⟨rfl,rfl⟩,⟨rfl,rfl⟩,⟨rfl,rfl⟩,⟨rfl,rfl⟩,⟨rfl,rfl⟩,trivial⟩ ⟨rfl,trivial,fun j=>rfl,trivial,trivial,trivial⟩ ?_ (fun _ _ h=>h.elim)
  rintro r M' ⟨RJ,RS,rfl,rfl,rq⟩
  refine⟨⟨rfl,rfl,rfl,rfl,rfl,rfl⟩,?_⟩
  refine Qs ?_
  refine And.intro (fun q2=>?_) (fun q2=>?_)
  ·have q2:Y.length<F.length:=by have q2:(Y.length:Int)<(F.length:Int):=of_decide_eq_true q2;omega
   have ig:lD Y F=Y:=if_pos q2
   rw[ig]at AZ
   rw[AZ]at h
   refine Qs ?_
   refine⟨[.e9 0,.own 15],.aL [.sl 1 RJ 0 Y.length RS,.int .i64 0],[.one false 0 (.ints .u8 xs c),.one true RJ (.ints .u8 Y RS)],⟨⟨⟨rfl,_,rfl,rfl⟩,⟨rfl,rfl⟩,trivial⟩,rfl,⟨trivial,trivial,trivial⟩,rfl,fun i hi=>?_⟩,h RJ RS rq⟩
   match i,hi with
   |0,_=>exact .inr rfl
  ·have q2:¬Y.length<F.length:=by have q2:¬(Y.length:Int)<(F.length:Int):=of_decide_eq_false q2;omega
   have ig:lD Y F=F:=if_neg q2
   rw[ig]at AZ
   rw[AZ]at h
   refine Qs ?_
   refine⟨[.e9 0,.own 10],.aL [.sl 1 iB 0 F.length iI,.int .i64 0],[.one false 0 (.ints .u8 xs c),.one true iB (.ints .u8 F iI)],⟨⟨⟨rfl,_,rfl,rfl⟩,⟨rfl,rfl⟩,trivial⟩,rfl,⟨trivial,trivial,trivial⟩,rfl,fun i hi=>?_⟩,h iB iI h10⟩
   match i,hi with
   |0,_=>exact .inr rfl
 ·have q:¬F.length<S.length:=by have q:¬(F.length:Int)<(S.length:Int):=of_decide_eq_false q;omega
  have vy:lD F S=S:=if_neg q
  rw[vy]at AZ
  refine Qs ?_
  refine aa.view (Vw.ghost (i:=3) (g:=0) (k:=0) (cs:=[.ns,.int .u32 0,.int .i64 0,.sl 1 g1 0 ts.length c1,.ns,.ns]) (x:=.ints .u8 [] 0) rfl rfl ⟨rfl,rfl⟩) ?_
  refine aa.lift [.own 3,.own 11,.own 1] (xD (gt:=g1) (ct:=c1) (g0:=0) (c0:=0) hA hD Wl hR (by omega) h1)
   rfl rfl ⟨⟨rfl,rfl⟩,⟨rfl,rfl⟩,⟨rfl,rfl⟩,trivial⟩ ⟨rfl,trivial,fun j=>rfl,trivial⟩ ?_ (fun _ _ h=>h.elim)
  rintro r M' ⟨Yb,Yw,iA,iH,Ya,Yv,X9,rfl,rfl⟩
  refine⟨⟨rfl,rfl,rfl,rfl⟩,?_⟩
  refine Qs ?_
  refine aa.lift [.own 3,.own 11,.own 1,.own 12,.own 13] (ng (X:=dX ts g1 c1 A iA iH D Ya Yv) (g:=Yb) (c:=Yw) (Kp:=fun _ _=>False) hY V6 X9) rfl rfl ⟨⟨rfl,rfl⟩,⟨rfl,rfl⟩,⟨rfl,rfl⟩,⟨rfl,rfl⟩,⟨rfl,rfl⟩,trivial⟩ ⟨rfl,trivial,fun j=>rfl,trivial,trivial,trivial⟩ ?_ (fun _ _ h=>h.elim)
  rintro r M' ⟨RJ,RS,rfl,rfl,rq⟩
  refine⟨⟨rfl,rfl,rfl,rfl,rfl,rfl⟩,?_⟩
  refine Qs ?_
  refine And.intro (fun q2=>?_) (fun q2=>?_)
  ·have q2:Y.length<S.length:=by have q2:(Y.length:Int)<(S.length:Int):=of_decide_eq_true q2;omega
   have ig:lD Y S=Y:=if_pos q2
   rw[ig]at AZ
   rw[AZ]at h
   refine Qs ?_
   refine⟨[.e9 0,.own 15],.aL [.sl 1 RJ 0 Y.length RS,.int .i64 0],[.one false 0 (.ints .u8 xs c),.one true RJ (.ints .u8 Y RS)],⟨⟨⟨rfl,_,rfl,rfl⟩,⟨rfl,rfl⟩,trivial⟩,rfl,⟨trivial,trivial,trivial⟩,rfl,fun i hi=>?_⟩,h RJ RS rq⟩
   match i,hi with
   |0,_=>exact .inr rfl
  ·have q2:¬Y.length<S.length:=by have q2:¬(Y.length:Int)<(S.length:Int):=of_decide_eq_false q2;omega
   have ig:lD Y S=S:=if_neg q2
   rw[ig]at AZ
   rw[AZ]at h
   refine Qs ?_
   refine⟨[.e9 0,.own 4],.aL [.sl 1 g4 0 S.length c4,.int .i64 0],[.one false 0 (.ints .u8 xs c),.one true g4 (.ints .u8 S c4)],⟨⟨⟨rfl,_,rfl,rfl⟩,⟨rfl,rfl⟩,trivial⟩,rfl,⟨trivial,trivial,trivial⟩,rfl,fun i hi=>?_⟩,h g4 c4 h4⟩
   match i,hi with
   |0,_=>exact .inr rfl
end
end Go.Proofs.Ytibadaomjlkoaaa
open Go.RowKit
namespace Go.Proofs.Ytibadaomjlkoaaa
set_option maxRecDepth 10000
theorem Ao:∀j,(aR.getD j 0).toNat=qV.getD j 0:=by
 intro j
 rcases Nat.lt_or_ge j 19 with h|h
 ·have:∀j,j<19→(aR.getD j 0).toNat=qV.getD j 0:=by decide
  exact this j h
 ·rw[List.getD_eq_getElem?_getD,List.getElem?_eq_none (show aR.length≤j from h),List.getD_eq_getElem?_getD,List.getElem?_eq_none (show qV.length≤j from h)];rfl
theorem wQ (ls:List Int):∀k n j,iT ls k n≤j→j<n→ls.getD (aR.getD j 0).toNat 0=0
 |0,n,j,h1,h2=>by simp only[iT]at h1;omega
 |k+1,n,j,h1,h2=>by
  simp only[iT]at h1
  split at h1
  ·rename_i hc
   rcases Nat.lt_or_ge j (n-1)with h|h
   ·exact wQ ls k (n-1) j h1 h
   ·rw[show j=n-1 by omega];exact hc.2
  ·omega
theorem wM {ls:List Int}(hb:∀j,0≤ls.getD j 0∧ls.getD j 0<8){row q:List Bool}{lim N:Nat}{o:List Int}(hN:N≤19):∀(n i:Nat)(p:List Bool)(l:List Int),i+n=N→row=p++(((aR.drop i).take n).flatMap (fun s=>bitsOf (ls.getD s.toNat 0) 3)++q)→l.length=19→
 (∀s,s<19→l.getD s 0=if∃j,j<i∧qV.getD j 0=s then ls.getD s 0 else 0)→
 ∃l',(yq n i l).run row lim ⟨p.length,o⟩=.ok (l',⟨p.length+3*n,o⟩)∧l'.length=19∧∀s,s<19→l'.getD s 0=if∃j,j<N∧qV.getD j 0=s then ls.getD s 0 else 0
 |0,i,p,l,hi,hr,hl,h=>⟨l,rfl,hl,by rw[←hi];exact h⟩
 |n+1,i,p,l,hi,hr,hl,h=>by
  have jq:i<aR.length:=by show i<19;omega
  have hd:(aR.drop i).take (n+1)=aR.getD i 0::(aR.drop (i+1)).take n:=by
   rw[List.drop_eq_getElem_cons jq,List.take_succ_cons,List.getD_eq_getElem?_getD,List.getElem?_eq_getElem jq];rfl
  rw[hd,List.flatMap_cons,List.append_assoc]at hr
  have CN:=hb (aR.getD i 0).toNat
  rw[yq,DP.dm hr rfl CN.1 CN.2]
  have hlen:(p++bitsOf (ls.getD (aR.getD i 0).toNat 0) 3).length=p.length+3:=by rw[List.length_append,ai]
  obtain⟨l',h1,h2,h3⟩:=wM hb (row:=row) (q:=q) (lim:=lim) (o:=o) hN n (i+1) (p++bitsOf (ls.getD (aR.getD i 0).toNat 0) 3) (l.set (qV.getD i 0) (ls.getD (aR.getD i 0).toNat 0)) (by omega) (by rw[hr,List.append_assoc]) (by rw[List.length_set];exact hl) (by
   intro s hs
   rw[iy,Ao]
   by_cases he:qV.getD i 0=s
   ·rw[if_pos ⟨he,by omega⟩,if_pos ⟨i,Nat.lt_succ_self i,he⟩,he]
   ·rw[if_neg (fun x=>he x.1),h s hs]
    by_cases hj:∃j,j<i∧qV.getD j 0=s
    ·obtain⟨j,j1,j2⟩:=hj
     rw[if_pos ⟨j,j1,j2⟩,if_pos ⟨j,by omega,j2⟩]
    ·rw[if_neg hj,if_neg]
     rintro⟨j,j1,j2⟩
     rcases Nat.lt_succ_iff_lt_or_eq.1 j1 with h|rfl
     ·exact hj ⟨j,h,j2⟩
     ·exact he j2)
  rw[hlen]at h1
  exact⟨l',by rw[h1,show p.length+3+3*n=p.length+3*(n+1) by omega],h2,h3⟩
theorem MM:∀s,s<19→∃j,j<19∧qV.getD j 0=s:=by decide
theorem Jc {a b:List Int}(hl:a.length=b.length)(h:∀s,s<a.length→a.getD s 0=b.getD s 0):a=b:=by
 refine List.ext_getElem hl fun i h1 h2=>?_
 have:=h i h1
 rwa[List.getD_eq_getElem?_getD,List.getElem?_eq_getElem h1,List.getD_eq_getElem?_getD,List.getElem?_eq_getElem h2]at this
theorem IJ {L ls:List Int}(ok:nn L ls){row q p:List Bool}{lim:Nat}{o:List Int}(hr:row=p++(eB ls (iT ls 15 19)++q)):
 (yq (iT ls 15 19) 0 (List.replicate 19 0)).run row lim ⟨p.length,o⟩=.ok (ls,⟨p.length+(eB ls (iT ls 15 19)).length,o⟩):=by
 have hN:=(yr ls 15 19 (by decide)).2
 have hb:∀j,0≤ls.getD j 0∧ls.getD j 0<8:=by
  intro j
  rcases Nat.lt_or_ge j ls.length with h|h
  ·rw[List.getD_eq_getElem?_getD,List.getElem?_eq_getElem h];exact ok.OX _ (List.getElem_mem _)
  ·rw[List.getD_eq_getElem?_getD,List.getElem?_eq_none h];decide
 obtain⟨l',h1,h2,h3⟩:=wM hb (row:=row) (q:=q) (lim:=lim) (o:=o) hN (iT ls 15 19) 0 p (List.replicate 19 0) (Nat.zero_add _) hr rfl (fun s hs=>by rw[iQ,if_neg];rintro⟨j,j1,_⟩;omega)
 have BO:(eB ls (iT ls 15 19)).length=3*iT ls 15 19:=by
  unfold eB;rw[ru,List.length_take,show aR.length=19 from rfl,Nat.min_eq_left hN]
 have JD:=ok.len
 have:l'=ls:=by
  refine Jc (by omega) fun s hs=>?_
  rw[h3 s (by omega)]
  split
  ·rfl
  ·rename_i hn
   obtain⟨j,j1,j2⟩:=MM s (by omega)
   have h4:=wQ ls 15 19 j (by
    rcases Nat.lt_or_ge j (iT ls 15 19)with h|h
    ·exact absurd ⟨j,h,j2⟩ hn
    ·exact h) j1
   rw[Ao,j2]at h4
   exact h4.symm
 rw[h1,this,BO]
theorem pN {L:List Int}{v:Int}:∀(m i:Nat),i+m≤L.length→(∀j,j<m→L.getD (i+j) 0=v)→L.take i++List.replicate m v=L.take (i+m)
 |0,i,_,_=>List.append_nil _
 |m+1,i,h1,h2=>by
  rw[List.replicate_succ,show i+(m+1)=i+1+m by omega,←pN m (i+1) (by omega) (fun j hj=>by rw[show i+1+j=i+(j+1) by omega];exact h2 (j+1) (by omega)),←nv (show i<L.length by omega),List.append_assoc]
  have:=h2 0 (by omega)
  rw[Nat.add_zero]at this
  rw[this];rfl
theorem B8 (L:List Int)(i n:Nat):((az L i n).1.1=18∧(az L i n).1.2.2=7∧(az L i n).1.2.1+11=(az L i n).2∧L.getD i 0=0)∨((az L i n).1.1=17∧(az L i n).1.2.2=3∧(az L i n).1.2.1+3=(az L i n).2∧L.getD i 0=0)∨
 ((az L i n).1.1=16∧(az L i n).1.2.2=2∧(az L i n).1.2.1+3=(az L i n).2∧0<i∧L.getD (i-1) 0=L.getD i 0)∨((az L i n).1.1=(L.getD i 0).toNat∧(az L i n).1.2=(0,0)∧(az L i n).2=1):=by
 unfold az
 split
 ·rename_i h;exact .inl ⟨rfl,rfl,by show min n 138-11+11=min n 138;omega,h.1⟩
 ·split
  ·rename_i h;exact .inr (.inl ⟨rfl,rfl,by show n-3+3=n;omega,h.1⟩)
  ·split
   ·rename_i h;exact .inr (.inr (.inl ⟨rfl,rfl,by show min n 6-3+3=min n 6;omega,h.1,h.2.1⟩))
   ·exact .inr (.inr (.inr ⟨rfl,rfl,rfl⟩))
theorem tT {L ls:List Int}(ok:nn L ls)(KV:∀x∈L,0≤x∧x<16){row q:List Bool}{lim:Nat}{o:List Int}:∀(F i:Nat)(p:List Bool),i≤L.length→L.length-i<F→(∀x∈cQ L (L.length-i) i,x∈bl L)→row=p++(eQ ls (cQ L (L.length-i) i)++q)→
 (oB (cy (bZ ls) []) L.length F (L.take i)).run row lim ⟨p.length,o⟩=.ok (L,⟨p.length+(eQ ls (cQ L (L.length-i) i)).length,o⟩)
 |0,i,p,_,h,_,_=>absurd h (Nat.not_lt_zero _)
 |F+1,i,p,hi,hF,hm,hr=>by
  have lY:(L.take i).length=i:=by rw[List.length_take];omega
  rw[oB]
  by_cases he:i<L.length
  ·rw[if_neg (by omega)]
   have dI:=oW he
   have W7:=nC L i L.length 1 (by omega)
   have heq:=EV L i L.length 1 (fun j hj=>by rw[show i+j=i by omega])
   obtain⟨n,hn⟩:∃n,runN L i L.length 1=n:=⟨_,rfl⟩
   rw[hn]at dI W7 heq
   have hle:=p7 L i n W7.1
   have vw:=B8 L i n
   obtain⟨x,hx⟩:∃x,(az L i n).1=x:=⟨_,rfl⟩
   obtain⟨m,Y9⟩:∃m,(az L i n).2=m:=⟨_,rfl⟩
   rw[hx,Y9]at dI vw
   rw[Y9]at hle
   rw[dI]at hm hr⊢
   obtain⟨hC,hE,hK⟩:=ok.rows x (hm x List.mem_cons_self)
   obtain⟨G,hG⟩:∃G,eQ ls (cQ L (L.length-(i+m)) (i+m))=G:=⟨_,rfl⟩
   have V5:eQ ls (x::cQ L (L.length-(i+m)) (i+m))=aQ ls (x.1:Int)++bitsOf (x.2.1:Int) x.2.2++G:=by rw[←hG];rfl
   rw[V5]at hr⊢
   have ih:=tT ok KV (row:=row) (q:=q) (lim:=lim) (o:=o) F (i+m) (p++(aQ ls (x.1:Int)++bitsOf (x.2.1:Int) x.2.2)) (by omega) (by omega) (fun y hy=>hm y (List.mem_cons_of_mem _ hy)) (by rw[hr,hG];simp only[List.append_assoc])
   rw[hG]at ih
   have Z7:row=p++(aQ ls (x.1:Int)++(bitsOf (x.2.1:Int) x.2.2++(G++q))):=by rw[hr];simp only[List.append_assoc]
   have Nk:row=(p++aQ ls (x.1:Int))++(bitsOf (x.2.1:Int) x.2.2++(G++q)):=by rw[hr];simp only[List.append_assoc]
   have Wn:((x.2.1:Nat):Int)<2^x.2.2:=by exact_mod_cast hE
   have JM:(p++(aQ ls (x.1:Int)++bitsOf (x.2.1:Int) x.2.2)).length+G.length=p.length+(aQ ls (x.1:Int)++bitsOf (x.2.1:Int) x.2.2++G).length:=by simp only[List.length_append];omega
   rw[JM,show(p++(aQ ls (x.1:Int)++bitsOf (x.2.1:Int) x.2.2)).length=p.length+(aQ ls (x.1:Int)).length+x.2.2 by simp only[List.length_append,ai];omega]at ih
   rw[DP.run_bind,ki ok.each hC Z7 rfl]
   simp only
   obtain⟨sy,ex,kk⟩:=x
   simp only at vw Nk Wn ih⊢
   rcases vw with⟨a,b,c,d⟩|⟨a,b,c,d⟩|⟨a,b,c,d,d2⟩|⟨a,b,c⟩
   ·subst a b
    have hT:=pN (L:=L) m i (v:=0) (by omega) (fun j hj=>by rw[heq j (by omega)];exact d)
    rw[if_neg (by decide),if_neg (by decide),if_neg (by decide),DP.bind,DP.dm Nk (by simp only[List.length_append]) (Int.natCast_nonneg _) Wn,DP.bind]
    simp only
    rw[lY,if_neg (by omega),show(11+(ex:Int)).toNat=m by omega,hT]
    exact ih
   ·subst a b
    have hT:=pN (L:=L) m i (v:=0) (by omega) (fun j hj=>by rw[heq j (by omega)];exact d)
    rw[if_neg (by decide),if_neg (by decide),if_pos (by decide),DP.bind,DP.dm Nk (by simp only[List.length_append]) (Int.natCast_nonneg _) Wn,DP.bind]
    simp only
    rw[lY,if_neg (by omega),show(3+(ex:Int)).toNat=m by omega,hT]
    exact ih
   ·subst a b
    have hT:=pN (L:=L) m i (v:=L.getD (i-1) 0) (by omega) (fun j hj=>by rw[heq j (by omega)];exact d2.symm)
    have eU:L.take i≠[]:=by intro h;rw[h]at lY;simp only[List.length_nil]at lY;omega
    rw[if_neg (by decide),if_pos (by decide),if_neg eU,DP.bind,DP.dm Nk (by simp only[List.length_append]) (Int.natCast_nonneg _) Wn,DP.bind]
    simp only
    rw[lY,if_neg (by omega),show(3+(ex:Int)).toNat=m by omega,dy (show i-1<i by omega),hT]
    exact ih
   ·have hb:=KV (L.getD i 0) (by rw[List.getD_eq_getElem?_getD,List.getElem?_eq_getElem he];exact List.getElem_mem _)
    obtain⟨rfl,rfl⟩:=Prod.mk.inj b
    subst c
    have e1:((sy:Nat):Int)=L.getD i 0:=by omega
    rw[if_pos (by omega),e1,nv he]
    rw[e1]at ih
    exact ih
  ·have TY:i=L.length:=by omega
   rw[if_pos (by omega),TY,Nat.sub_self,List.take_length]
   rfl
theorem NV {xs A D:List Int}(bk:zn (bb xs) A D)(hx:xs.length≤1000000){row q:List Bool}{lim f:Nat}(hl:xs.length≤lim)(hr:row=dB (bb xs) A D++q):
 (jX (f+1)).run row lim ⟨0,[]⟩=.ok ((),⟨(dB (bb xs) A D).length,xs⟩):=by
 have ON:=bk.al
 have RC:=bk.dl
 obtain⟨L,hL⟩:∃L,A++D=L:=⟨_,rfl⟩
 have jc:L.length=A.length+D.length:=by rw[←hL,List.length_append]
 have KV:∀x∈L,0≤x∧x<16:=by
  intro x hx
  rw[←hL]at hx
  rcases List.mem_append.1 hx with h|h
  ·exact bk.ab x h
  ·exact bk.db x h
 obtain⟨_,ok⟩:=yg (L:=L) (by omega) KV
 have Ns:nL L=iT (KL L) 15 19:=rfl
 obtain⟨ls,CJ⟩:∃ls,KL L=ls:=⟨_,rfl⟩
 rw[CJ]at ok Ns
 obtain⟨N,hN⟩:∃N,iT ls 15 19=N:=⟨_,rfl⟩
 rw[hN]at Ns
 have Uj:=I2 L
 rw[Ns]at Uj
 have hD:dB (bb xs) A D=gQ A D++eB ls N++eQ ls (bl L)++(bh A D (bb xs)++aQ A 256):=by
  unfold dB;rw[hL,CJ,Ns]
 have hH:gQ A D=bitsOf 5 3++bitsOf ((A.length-257:Nat):Int) 5++bitsOf ((D.length-1:Nat):Int) 5++bitsOf ((N-4:Nat):Int) 4:=by
  unfold gQ;rw[hL,Ns]
 have h3:bitsOf 5 3=bitsOf 1 1++bitsOf 2 2:=by decide
 obtain⟨R1,Zt⟩:∃R,bh A D (bb xs)++(aQ A 256++q)=R:=⟨_,rfl⟩
 have QX:row=bitsOf 5 3++(bitsOf ((A.length-257:Nat):Int) 5++(bitsOf ((D.length-1:Nat):Int) 5++(bitsOf ((N-4:Nat):Int) 4++(eB ls N++(eQ ls (bl L)++R1))))):=by
  rw[hr,hD,hH,←Zt];simp only[List.append_assoc]
 have zr:row=[]++(bitsOf 1 1++(bitsOf 2 2++(bitsOf ((A.length-257:Nat):Int) 5++(bitsOf ((D.length-1:Nat):Int) 5++(bitsOf ((N-4:Nat):Int) 4++(eB ls N++(eQ ls (bl L)++R1))))))):=by
  rw[QX,h3];simp only[List.append_assoc,List.nil_append]
 have hB:(gS 2).run row lim ⟨3,[]⟩=.ok ((),⟨(dB (bb xs) A D).length,xs⟩):=by
  unfold gS
  rw[if_neg (by decide),if_neg (by decide),if_pos rfl,MJ]
  rw[DP.dm (p:=bitsOf 5 3) (s:=⟨3,[]⟩) QX rfl (Int.natCast_nonneg _) (by omega),
   DP.dm (p:=bitsOf 5 3++bitsOf ((A.length-257:Nat):Int) 5) (v:=((D.length-1:Nat):Int)) (n:=5) (q:=bitsOf ((N-4:Nat):Int) 4++(eB ls N++(eQ ls (bl L)++R1))) (by rw[QX];simp only[List.append_assoc]) (by simp only[List.length_append,ai]) (Int.natCast_nonneg _) (by omega),
   DP.dm (p:=bitsOf 5 3++bitsOf ((A.length-257:Nat):Int) 5++bitsOf ((D.length-1:Nat):Int) 5) (v:=((N-4:Nat):Int)) (n:=4) (q:=eB ls N++(eQ ls (bl L)++R1)) (by rw[QX];simp only[List.append_assoc]) (by simp only[List.length_append,ai]) (Int.natCast_nonneg _) (by omega)]
  rw[if_neg (by omega),DP.run_bind]
  simp only[Int.toNat_natCast]
  have Y5:(bitsOf 5 3++bitsOf ((A.length-257:Nat):Int) 5++bitsOf ((D.length-1:Nat):Int) 5++bitsOf ((N-4:Nat):Int) 4).length=17:=by simp only[List.length_append,ai]
  have hO:=IJ ok (row:=row) (p:=gQ A D) (q:=eQ ls (bl L)++R1) (lim:=lim) (o:=[]) (by rw[QX,hH,hN];simp only[List.append_assoc])
  rw[hN,kp]at hO
  rw[show N-4+4=N by omega,show 3+5+5+4=17 from rfl,hO]
  simp only
  rw[DP.run_bind,sr,if_pos ok.each,DP.run]
  simp only
  have Zu:=tT ok KV (row:=row) (q:=R1) (lim:=lim) (o:=[]) 401 0 (gQ A D++eB ls N) (Nat.zero_le _) (by omega) (fun x hx=>hx) (by
   rw[QX,hH];show _=_++(eQ ls (bl L)++R1);simp only[List.append_assoc])
  rw[List.length_append,kp,Nat.sub_zero,List.take_zero]at Zu
  rw[DP.run_bind,show A.length-257+257+(D.length-1+1)=L.length by omega,Zu]
  simp only
  have RH:=bk.fin.2.2.1
  have hg:L.getD 256 0=A.getD 256 0:=by
   rw[←hL,List.getD_eq_getElem?_getD,List.getElem?_append_left (by omega),List.getD_eq_getElem?_getD]
  have RH:1≤A.getD 256 0:=RH
  rw[hg,if_neg (by omega),show A.length-257+257=A.length by omega,show L.take A.length=A by rw[←hL,List.take_left],show L.drop A.length=D by rw[←hL,List.drop_left]]
  rw[DP.run_bind,sr,if_pos bk.ea,DP.run]
  simp only
  rw[DP.run_bind,sr,if_pos bk.ed,DP.run]
  simp only
  have hs:=o4 (xs:=xs) bk.ea bk.ed bk.fin (row:=row) (q:=q) hl (bb xs) FU 0 (gQ A D++eB ls N++eQ ls (bl L)) (fM xs) (Nat.zero_le _) bk.Ww (Nat.lt_of_le_of_lt (Nat.le_trans (mn xs) hx) KF) (by
   rw[QX,Zt,hH];simp only[List.append_assoc])
  rw[List.take_zero]at hs
  rw[show(cQ L L.length 0)=bl L from rfl,show 17+(eB ls N).length+(eQ ls (bl L)).length=(gQ A D++eB ls N++eQ ls (bl L)).length by rw[List.length_append,List.length_append,kp],hs,hD]
  simp only[List.length_append,Nat.add_assoc]
 have:=qT (f:=f) (last:=1) (k:=2) (s:=⟨0,[]⟩) (by decide) (by decide) zr rfl hB
 rw[if_neg (by decide)]at this
 exact this
theorem NW {xs A D:List Int}(bk:zn (bb xs) A D)(hx:xs.length≤1000000){zs:List Int}{lim:Nat}(hl:xs.length≤lim):
 mc (bp (dB (bb xs) A D)++zs) lim=.ok ((),⟨(dB (bb xs) A D).length,xs⟩):=by
 obtain⟨k,hk,h1,h2⟩:=jS (dB (bb xs) A D)
 exact AQ (fun q f=>NV bk hx hl rfl) ⟨_,h1⟩
end Go.Proofs.Ytibadaomjlkoaaa
open Go.RowKit
namespace Go.Proofs.Ytibadaomjlkoaaa
theorem vO:gS 0=nI:=by unfold gS;rw[if_pos rfl]
theorem pS (last:Int)(ys:List Int):(km last ys).length=ys.length+5:=by unfold km;rw[List.length_append];show 5+_=_;omega
theorem tp {row p q:List Bool}{lim f:Nat}{last:Int}{ys o:List Int}(hl:0≤last∧last<2)(hy:ys.length≤65535)(hb:∀y∈ys,0≤y∧y<256)(jv:o.length+ys.length≤lim)(hp:p.length%8=0)(hr:row=p++(unpack (km last ys)++q)):
 (jX (f+1)).run row lim ⟨p.length,o⟩=if last=0 then(jX f).run row lim ⟨p.length+8*(km last ys).length,o++ys⟩else .ok ((),⟨p.length+8*(km last ys).length,o++ys⟩):=by
 obtain⟨n,hn⟩:∃n:Int,(ys.length:Int)=n:=⟨_,rfl⟩
 have e16:bitsOf n 16=bitsOf (n%256) 8++bitsOf (n/256%256) 8:=by
  have:=lM n 8 8
  rw[show n%2^8=n%256 by omega,show n/2^8=n/256%256 by omega]at this
  exact this
 have Yi:bitsOf (65535-n) 16=bitsOf (255-n%256) 8++bitsOf (255-n/256%256) 8:=by
  have:=lM (65535-n) 8 8
  rw[show(65535-n)%2^8=255-n%256 by omega,show(65535-n)/2^8=255-n/256%256 by omega]at this
  exact this
 have e8:bitsOf last 8=bitsOf last 1++(bitsOf 0 2++bitsOf 0 5):=by
  have:last=0∨last=1:=by omega
  rcases this with rfl|rfl<;>decide
 have hu:unpack (km last ys)=bitsOf last 8++(bitsOf n 16++(bitsOf (65535-n) 16++unpack ys)):=by
  unfold km
  rw[hn,eP,e16,Yi]
  simp[unpack]
 have zr:row=p++(bitsOf last 1++(bitsOf 0 2++(bitsOf 0 5++(bitsOf n 16++(bitsOf (65535-n) 16++(unpack ys++q)))))):=by
  rw[hr,hu,e8];simp only[List.append_assoc]
 have R9:row=(p++bitsOf last 8)++(bitsOf (ys.length:Int) 16++(bitsOf (65535-(ys.length:Int)) 16++(unpack ys++q))):=by
  rw[hr,hu,hn];simp only[List.append_assoc]
 have hB:(gS 0).run row lim ⟨p.length+3,o⟩=.ok ((),⟨p.length+8*(km last ys).length,o++ys⟩):=by
  rw[vO]
  have:=yp (row:=row) (lim:=lim) (ys:=ys) (p:=p++bitsOf last 8) (q:=q) (s:=⟨p.length+3,o⟩) R9 (by show(p.length+3+7)/8*8=_;rw[List.length_append,ai];omega) hy hb jv
  rw[this,List.length_append,ai,pS,show p.length+8+32+8*ys.length=p.length+8*(ys.length+5) by omega]
 exact qT (f:=f) (s:=⟨p.length,o⟩) hl (by decide) zr rfl hB
theorem zR {row:List Bool}{lim:Nat}{q:List Bool}:∀(k f:Nat)(ys o:List Int)(p:List Bool),ys.length≤(k+1)*65535→k<f→(∀y∈ys,0≤y∧y<256)→o.length+ys.length≤lim→p.length%8=0→row=p++(unpack (dA k ys)++q)→
 (jX f).run row lim ⟨p.length,o⟩=.ok ((),⟨p.length+8*(dA k ys).length,o++ys⟩)
 |k,0,_,_,_,_,h,_,_,_,_=>absurd h (Nat.not_lt_zero _)
 |0,f+1,ys,o,p,h1,_,hb,hl,hp,hr=>by
  rw[tp (last:=1) (by decide) (by omega) hb hl hp hr,if_neg (by decide)];rfl
 |k+1,f+1,ys,o,p,h1,h2,hb,hl,hp,hr=>by
  by_cases hc:ys.length≤65535
  ·rw[dA,if_pos hc]at hr⊢
   rw[tp (last:=1) (by decide) hc hb hl hp hr,if_neg (by decide)]
  ·rw[dA,if_neg hc]at hr⊢
   have ht:(ys.take 65535).length=65535:=by rw[List.length_take];omega
   rw[eP,List.append_assoc]at hr
   rw[tp (last:=0) (by decide) (by omega) (fun y hy=>hb y (List.mem_of_mem_take hy)) (by rw[ht];omega) hp hr,if_pos rfl]
   have Fs:=bH (km 0 (ys.take 65535))
   have ih:=zR (row:=row) (lim:=lim) (q:=q) k f (ys.drop 65535) (o++ys.take 65535) (p++unpack (km 0 (ys.take 65535))) (by rw[List.length_drop];omega) (by omega) (fun y hy=>hb y (List.mem_of_mem_drop hy)) (by rw[List.length_append,List.length_drop,ht];omega) (by rw[List.length_append,Fs];omega) (by rw[hr,List.append_assoc])
   rw[List.length_append,Fs,List.append_assoc,List.take_append_drop]at ih
   rw[ih,List.length_append,show p.length+8*(km 0 (ys.take 65535)).length+8*(dA k (ys.drop 65535)).length=p.length+8*((km 0 (ys.take 65535)).length+(dA k (ys.drop 65535)).length) by omega]
theorem Ld {xs:List Int}(hb:∀x∈xs,0≤x∧x<256)(hx:xs.length≤1000000){zs:List Int}{lim:Nat}(hl:xs.length≤lim):
 mc (dA xs.length xs++zs) lim=.ok ((),⟨8*(dA xs.length xs).length,xs⟩):=by
 rw[ql,eP]
 have:=zR (row:=unpack (dA xs.length xs)++unpack zs) (lim:=lim) (q:=unpack zs) xs.length FI xs [] [] (by omega) (by unfold FI;omega) hb (by show 0+xs.length≤lim;omega) rfl rfl
 simp only[List.length_nil,Nat.zero_add,List.nil_append]at this
 exact this
theorem oa (row:List Bool):(row.length+7)/8=(bp row).length:=by
 obtain⟨k,hk,_,h2⟩:=jS row
 omega
theorem Hv {xs:List Int}(hb:∀x∈xs,0≤x∧x<256)(hx:xs.length≤150000){zs:List Int}{lim:Nat}(hl:xs.length≤lim):
 ∃a,mc (ek xs++zs) lim=.ok ((),⟨a,xs⟩)∧(a+7)/8=(ek xs).length:=by
 have hR:=BV hb
 have hn:=mn xs
 have h0:=Ld hb (by omega) (zs:=zs) hl
 have h1:=NN hb (by omega) (zs:=zs) hl
 have h2:=NW (zk hR (by omega)) (by omega) (zs:=zs) hl
 have c0:∃a,mc (dA xs.length xs++zs) lim=.ok ((),⟨a,xs⟩)∧(a+7)/8=(dA xs.length xs).length:=⟨_,h0,by omega⟩
 have c1:∃a,mc (bp (bx (bb xs))++zs) lim=.ok ((),⟨a,xs⟩)∧(a+7)/8=(bp (bx (bb xs))).length:=⟨_,h1,oa _⟩
 have c2:∃a,mc (bp (Hs xs)++zs) lim=.ok ((),⟨a,xs⟩)∧(a+7)/8=(bp (Hs xs)).length:=⟨_,h2,oa _⟩
 have Tb:∀s b:List Int,(∃a,mc (s++zs) lim=.ok ((),⟨a,xs⟩)∧(a+7)/8=s.length)→(∃a,mc (b++zs) lim=.ok ((),⟨a,xs⟩)∧(a+7)/8=b.length)→∃a,mc (lD s b++zs) lim=.ok ((),⟨a,xs⟩)∧(a+7)/8=(lD s b).length:=by
  intro s b hs hb
  unfold lD
  split
  ·exact hs
  ·exact hb
 exact Tb _ _ c2 (Tb _ _ c1 c0)
theorem Fk (s b:List Int):(lD s b).length≤s.length∧(lD s b).length≤b.length:=by
 unfold lD;split<;>omega
theorem u3 (xs:List Int):(ek xs).length≤(bp (Hs xs)).length∧(ek xs).length≤(bp (bx (bb xs))).length∧(ek xs).length≤(dA xs.length xs).length:=by
 have h1:=Fk (bp (Hs xs)) (lD (bp (bx (bb xs))) (dA xs.length xs))
 have h2:=Fk (bp (bx (bb xs))) (dA xs.length xs)
 unfold ek
 omega
theorem zS:∀(k:Nat)(ys:List Int),ys.length≤(k+1)*65535→(dA k ys).length≤ys.length+5*(ys.length/65535+1)
 |0,ys,h=>by rw[dA,pS];omega
 |k+1,ys,h=>by
  rw[dA]
  split
  ·rw[pS];omega
  ·have ih:=zS k (ys.drop 65535) (by rw[List.length_drop];omega)
   rw[List.length_append,pS,List.length_take]
   rw[List.length_drop]at ih
   omega
theorem Gi:∀(k:Nat)(ys:List Int),(∀y∈ys,0≤y∧y<256)→∀x∈dA k ys,0≤x∧x<256:=by
 have hB:∀(l:Int)(ys:List Int),(l=0∨l=1)→(∀y∈ys,0≤y∧y<256)→∀x∈km l ys,0≤x∧x<256:=by
  intro l ys hl h x hx
  unfold km at hx
  rcases List.mem_append.1 hx with hx|hx
  ·simp only[List.mem_cons,List.not_mem_nil,or_false]at hx
   rcases hx with rfl|rfl|rfl|rfl|rfl<;>omega
  ·exact h x hx
 intro k
 induction k with
 |zero=>intro ys h;exact hB 1 ys (.inr rfl) h
 |succ k ih=>
  intro ys h
  rw[dA]
  split
  ·exact hB 1 ys (.inr rfl) h
  ·intro x hx
   rcases List.mem_append.1 hx with hx|hx
   ·exact hB 0 _ (.inl rfl) (fun y hy=>h y (List.mem_of_mem_take hy)) x hx
   ·exact ih _ (fun y hy=>h y (List.mem_of_mem_drop hy)) x hx
theorem C0 {xs:List Int}(hb:∀x∈xs,0≤x∧x<256):∀x∈ek xs,0≤x∧x<256:=by
 have Tb:∀s b:List Int,(∀x∈s,0≤x∧x<256)→(∀x∈b,0≤x∧x<256)→∀x∈lD s b,0≤x∧x<256:=by
  intro s b hs hb
  unfold lD
  split
  ·exact hs
  ·exact hb
 exact Tb _ _ (sd _) (Tb _ _ (sd _) (Gi _ _ hb))
end Go.Proofs.Ytibadaomjlkoaaa
open Go.RowKit
namespace Go.Proofs.Ytibadaomjlkoaaa
set_option maxRecDepth 10000
theorem N9:(ek [97,98,99]).length≤5:=by
 have h:=(u3 [97,98,99]).2.1
 have h2:(bp (bx (bb [97,98,99]))).length=5:=by decide+kernel
 omega
section
variable{M:AH}{K Kp:AV→AH→Prop}
theorem Bg {i g off n c co:Nat}{o:Bool}{xs ys:List Int}{Y:List Int}(hi:M[i]?=some (.one o g (.ints .u8 ys co)))(hn:n=xs.length)(hy:xs=(ys.drop off).take xs.length)(vx:off+c≤co)(hx:xs.length≤150000)(hc:xs.length≤c)(hb:∀x∈xs,0≤x∧x<256)(hY:ek xs=Y)
 (h:∀g' c',Y.length≤c'→K (.aL [.sl M.length g' 0 Y.length c',.int .i64 0]) (M++[.one true g' (.ints .u8 Y c')])):aa Try.prog 8 [.sl i g off n c] M K Kp:=by
 subst hn hY
 refine aa.lift [.eI i g off] (y5 (xs:=xs) (c0:=c) (c:=c) (K:=fun r N=>∃g c',(ek xs).length≤c'∧r=.aL [.sl 1 g 0 (ek xs).length c',.int .i64 0]∧N=[.one false 0 (.ints .u8 xs c),.one true g (.ints .u8 (ek xs) c')]) (Kp:=fun _ _=>False) hx hc (Nat.le_refl _) hb (fun g c' h=>⟨g,c',h,rfl,rfl⟩)) rfl rfl ⟨⟨_,_,_,rfl,ak hi,eG.ints vx hy⟩,trivial⟩ ⟨trivial,trivial⟩ ?_ (fun _ _ h=>h.elim)
 rintro r M' ⟨g',c',r8,rfl,rfl⟩
 exact⟨⟨rfl,rfl⟩,h g' c' r8⟩
theorem u2 {i g n c co:Nat}{o:Bool}{xs:List Int}{Y:List Int}(hi:M[i]?=some (.one o g (.ints .u8 xs co)))(hn:n=xs.length)(hx:xs.length≤150000)(hc:xs.length≤c)(vx:c≤co)(hb:∀x∈xs,0≤x∧x<256)(hY:ek xs=Y)
 (h:∀g' c',Y.length≤c'→K (.aL [.sl M.length g' 0 Y.length c',.int .i64 0]) (M++[.one true g' (.ints .u8 Y c')])):aa Try.prog 8 [.sl i g 0 n c] M K Kp:=
 Bg hi hn (by rw[List.drop_zero,List.take_length]) (by omega) hx hc hb hY h
theorem M7 {i g n c0 co:Nat}{o:Bool}{xs:List Int}{lim:Nat}{limit:Int}{s:DS}(hi:M[i]?=some (.one o g (.ints .u8 xs co)))(hl:limit=(lim:Int))(hn:n=xs.length)(hc:xs.length≤co)
 (AS:xs.length≤1000000)(yK:∀x∈xs,0≤x∧x<256)(jv:lim≤524288)(he:mc xs lim=.ok ((),s))
 (h:∀g c,s.out.length≤c→K (.aL [.sl M.length g 0 s.out.length c,.int .i64 (((s.a+7)/8:Nat):Int),.int .i64 0]) (M++[.one true g (.ints .u8 s.out c)])):
 aa Try.prog 13 [.sl i g 0 n c0,.int .i64 limit] M K Kp:=by
 subst hl
 refine Cw hi hn hc AS yK (by omega) (fun h=>absurd h (by omega)) (fun g2 c2 s2 _ _ e5 qW ig=>?_) (fun e _ _ e5=>?_)
 ·rw[Int.toNat_natCast,he]at e5
  obtain rfl:s=s2:=by injection e5 with e5;injection e5
  exact h g2 c2 qW.oc
 ·rw[Int.toNat_natCast,he]at e5
  cases e5
theorem Cu (h:K (.bo true) []):aa Try.prog 10 [] [] K Kp:=by
 obtain⟨Y,hY⟩:∃Y,ek [97,98,99]=Y:=⟨_,rfl⟩
 have hl:=N9
 have Zr:=C0 (xs:=[97,98,99]) (by decide)
 obtain⟨a,ha,yS⟩:=Hv (xs:=[97,98,99]) (by decide) (by decide) (zs:=[]) (lim:=3) (by decide)
 rw[List.append_nil]at ha
 rw[hY]at hl Zr ha yS
 refine aa.bs ?_
 refine Qd (fun _=>[]) [] rfl ?_
 refine Qs ?_
 refine u2 (i:=0) (xs:=[97,98,99]) rfl rfl (by decide) (by decide) (by decide) (by decide) hY fun g1 c1 h1=>?_
 refine Qs ?_
 refine M7 (i:=1) (xs:=Y) (lim:=3) rfl rfl rfl h1 (by omega) Zr (by decide) ha fun g2 c2 h2=>?_
 refine Qs ?_
 refine Kl (decide_eq_true (show(Y.length:Int)≤5 by omega)) ?_
 refine Qs ?_
 intro ys sw
 obtain rfl:ys=[97,98,99]:=by rw[sw];rfl
 refine Qs ?_
 refine Kl (Gf _ rfl) ?_
 have e3:(((a+7)/8:Nat):Int)=(Y.length:Int):=by rw[yS]
 refine Qs ?_
 rw[decide_eq_true e3]
 exact⟨[],bJ _,trivial,rfl,h⟩
theorem Jf (h:K (.bo true) M):aa Try.prog 10 [] M K Kp:=by
 refine aa.lift [] (Cu (K:=fun r N=>r=.bo true∧N=[]) (Kp:=fun _ _=>False) ⟨rfl,rfl⟩) rfl rfl trivial trivial ?_ (fun _ _ h=>h.elim)
 rintro r M' ⟨rfl,rfl⟩
 rw[←List.append_nil M]at h
 exact⟨rfl,h⟩
end
end Go.Proofs.Ytibadaomjlkoaaa
