import Derived.Test.YtibadaomjlkoaaaGdm
import Derived.Test.YtibadaomjlkoaaaGdj
import Derived.Test.YtibadaomjlkoaaaGdl
set_option linter.unusedVariables false
set_option linter.unusedSimpArgs false
open Go.RowKit
namespace Go.Proofs.Ytibadaomjlkoaaa
set_option maxRecDepth 10000
theorem GX {xs:List Int}(hb:∀x∈xs,0≤x∧x<256):∀t∈b9 xs,Nu t:=by
 intro t ht
 have h:=n4 hb t ht
 exact⟨fun hz=>⟨(h.one hz).1,(h.one hz).2.1⟩,fun hz=>⟨(h.rep hz).1,(h.rep hz).2.1,(h.rep hz).2.2.1,(h.rep hz).2.2.2.1⟩⟩
def Gr (xs:List Int):List Bool:=du (b9 xs) (eM (b9 xs)) (eL (b9 xs))
def kU (s b:List Int):List Int:=if s.length<b.length then s else b
def dQ (xs:List Int):List Int:=kU (bg (Gr xs)) (kU (bg (bV (b9 xs))) (dt xs.length xs))
theorem Fv {ts:List Tk}(lD:∀t∈ts,Nu t)(lK:ts.length≤150000):(du ts (eM ts) (eL ts)).length≤8388608:=by
 have bk:=yK lD lK
 generalize eM ts=A at bk
 generalize eL ts=D at bk
 have Ng:=bk.al
 have P4:=bk.dl
 have hl:(A++D).length≤316:=by rw[List.length_append];omega
 obtain⟨_,ok⟩:=xH hl (fun x hx=>by
  rcases List.mem_append.1 hx with h|h
  ·exact bk.ab x h
  ·exact bk.db x h)
 have h1:=pw ok (bf (A++D)) (fun x hx=>hx)
 have h2:(bf (A++D)).length≤(A++D).length:=mT (A++D) (A++D).length 0
 have h3:=o5 ts bk.UM
 have h4:=jb bk.fin
 have h5:=tc (Jz (A++D)) (nL (A++D))
 have h6:=jP A D
 unfold du
 simp only[List.length_append]
 simp only[List.length_append]at h1 h2
 rw[List.length_append]at hl
 omega
section
variable{K Kp:AV→AH→Prop}{xs:List Int}{c c0:Nat}
theorem OW {M:AH}{i g n c co:Nat}{o:Bool}(hi:M[i]?=some (.one o g (.ints .u8 xs co)))(hn:n=xs.length)(hx:xs.length≤1000000)(hc:xs.length≤c)(wM:c≤co)(hb:∀x∈xs,0≤x∧x<256){ts:List Tk}(lD:b9 xs=ts)
 (h:∀g' c',ts.length≤c'→K (.sl M.length g' 0 ts.length c') (M++[.one true g' (nI ts c')])):aa Try.prog 14 [.sl i g 0 n c] M K Kp:=by
 subst hn lD
 refine aa.lift [.ep i g 0] (xZ (xs:=xs) (c0:=c) (c:=co) (K:=fun r N=>∃g Qf,(b9 xs).length≤Qf∧r=.sl 1 g 0 (b9 xs).length Qf∧N=[.one false 0 (.ints .u8 xs co),.one true g (nI (b9 xs) Qf)]) (Kp:=fun _ _=>False) hx hc wM hb (fun g c' h=>⟨g,c',h,rfl,rfl⟩)) rfl rfl ⟨⟨_,_,_,rfl,ak hi,eh.same rfl (fun h=>h)⟩,trivial⟩ ⟨trivial,trivial⟩ ?_ (fun _ _ h=>h.elim)
 rintro r M' ⟨g',c',rr,rfl,rfl⟩
 exact⟨⟨rfl,rfl⟩,h g' c' rr⟩
theorem Ff {M:AH}{i g n c co:Nat}{o:Bool}(hi:M[i]?=some (.one o g (.ints .u8 xs co)))(hn:n=xs.length)(hx:xs.length≤1000000)(hc:xs.length≤c)(wM:c≤co){S:List Int}(hS:dt xs.length xs=S)
 (h:∀g' c',S.length≤c'→K (.sl M.length g' 0 S.length c') (M++[.one true g' (.ints .u8 S c')])):aa Try.prog 15 [.sl i g 0 n c] M K Kp:=by
 subst hn hS
 refine aa.lift [.ep i g 0] (xu (xs:=xs) (c0:=c) (c:=co) (K:=fun r N=>∃g Qf,(dt xs.length xs).length≤Qf∧r=.sl 1 g 0 (dt xs.length xs).length Qf∧N=[.one false 0 (.ints .u8 xs co),.one true g (.ints .u8 (dt xs.length xs) Qf)]) (Kp:=fun _ _=>False) hx hc wM (fun g c' h=>⟨g,c',h,rfl,rfl⟩)) rfl rfl ⟨⟨_,_,_,rfl,ak hi,eh.same rfl (fun h=>h)⟩,trivial⟩ ⟨trivial,trivial⟩ ?_ (fun _ _ h=>h.elim)
 rintro r M' ⟨g',c',rr,rfl,rfl⟩
 exact⟨⟨rfl,rfl⟩,h g' c' rr⟩
theorem mC {X:WX}{row:List Bool}{Y:List Int}{g c:Nat}(hY:bg row=Y)(hr:row.length≤8388608)(hc:(aN row).length≤c){Kp:AV→AH→Prop}:
 aa Try.prog 18 [.ptr 0 0 0] (fR X row g c)
  (fun r M=>∃g' c',r=.sl 5 g' 0 Y.length c'∧M=fR X row g c++[.one true g' (.ints .u8 Y c')]∧Y.length≤c') Kp:=by
 subst hY;exact AE hr hc
theorem Gl {ts:List Tk}{R:List Bool}{gt ct g0 c0:Nat}(hR:bV ts=R)(lD:∀t∈ts,Mz cN eK t)(lK:ts.length≤150000)(Af:ts.length≤ct):
 aa Try.prog 16 [.ptr 0 0 0] (w3 ts gt ct g0 c0) (fun r N=>∃g c ga ca,(aN R).length≤c∧r=.aG []∧N=fR (dX ts gt ct cN ga ca eK 0 32) R g c) (fun _ _=>False):=by
 subst hR
 exact At lD lK Af (fun g c ga ca hc=>⟨g,c,ga,ca,hc,rfl,rfl⟩)
theorem wV {ts:List Tk}{A D:List Int}{R:List Bool}{gt ct g0 c0:Nat}(hA:eM ts=A)(hD:eL ts=D)(hR:du ts A D=R)(lD:∀t∈ts,Nu t)(lK:ts.length≤150000)(Af:ts.length≤ct):
 aa Try.prog 17 [.ptr 0 0 0] (w3 ts gt ct g0 c0) (fun r N=>∃g c ga ca gd cd,(aN R).length≤c∧r=.aG []∧N=fR (dX ts gt ct A ga ca D gd cd) R g c) (fun _ _=>False):=by
 subst hA hD hR
 exact I2 lD lK Af (fun g c ga ca gd cd hc=>⟨g,c,ga,ca,gd,cd,hc,rfl,rfl⟩)
set_option maxHeartbeats 16000000 in
theorem yv (hx:xs.length≤150000)(hc:xs.length≤c0)(vm:c0≤c)(hb:∀x∈xs,0≤x∧x<256)
 (h:∀g c',(dQ xs).length≤c'→K (.aG [.sl 1 g 0 (dQ xs).length c',.int .i64 0]) [.one false 0 (.ints .u8 xs c),.one true g (.ints .u8 (dQ xs) c')]):
 aa Try.prog 8 [.sl 0 0 0 xs.length c0] [.one false 0 (.ints .u8 xs c)] K Kp:=by
 have PO:=n4 hb
 have hR:=GX hb
 have lK:=o4 xs
 obtain⟨ts,lD⟩:∃ts,b9 xs=ts:=⟨_,rfl⟩
 rw[lD]at PO hR lK
 have Xj:(bV ts).length≤8388608:=by
  unfold bV
  have h2:=o5 ts PO
  have h3:(aV cN 256).length≤15:=jb (mn (s:=256) (by omega))
  rw[List.length_append,List.length_append,ai];omega
 have Un:(du ts (eM ts) (eL ts)).length≤8388608:=Fv hR (by omega)
 have Ae:dQ xs=kU (bg (du ts (eM ts) (eL ts))) (kU (bg (bV ts)) (dt xs.length xs)):=by unfold dQ Gr;rw[lD]
 obtain⟨S,hS⟩:∃S,dt xs.length xs=S:=⟨_,rfl⟩
 obtain⟨A,hA⟩:∃A,eM ts=A:=⟨_,rfl⟩
 obtain⟨D,hD⟩:∃D,eL ts=D:=⟨_,rfl⟩
 rw[hS,hA,hD]at Ae
 rw[hA,hD]at Un
 obtain⟨RF,V8⟩:∃R,bV ts=R:=⟨_,rfl⟩
 obtain⟨RD,UB⟩:∃R,du ts A D=R:=⟨_,rfl⟩
 rw[V8,UB]at Ae
 rw[V8]at Xj
 rw[UB]at Un
 obtain⟨F,hF⟩:∃F,bg RF=F:=⟨_,rfl⟩
 obtain⟨Y,hY⟩:∃Y,bg RD=Y:=⟨_,rfl⟩
 rw[hF,hY]at Ae
 refine aa.dc ?_
 refine ME (fun _=>[]) [] rfl ?_
 refine Qs ?_
 refine And.intro (fun q=>absurd (show(524288:Int)<(xs.length:Int)from of_decide_eq_true q) (by omega)) (fun _=>?_)
 refine Qs ?_
 refine OW (i:=0) rfl rfl (by omega) hc vm hb lD fun g1 c1 h1=>?_
 refine Qs ?_
 refine Ff (i:=0) rfl rfl (by omega) hc vm hS fun g4 c4 h4=>?_
 refine Qs ?_
 refine WO.rounds 3 ag mixed (by kernel_rfl) ?_
 refine Qs ?_
 refine aa.view (Vw.ghost (i:=2) (g:=0) (k:=0) (cs:=[.ns,.int .u32 0,.int .i64 0,.sl 1 g1 0 ts.length c1,.ns,.ns]) (x:=.ints .u8 [] 0) rfl rfl ⟨rfl,rfl⟩) ?_
 refine aa.lift [.own 2,.own 6,.own 1] (Gl (gt:=g1) (ct:=c1) (g0:=0) (c0:=0) V8 PO (by omega) h1)
  rfl rfl ⟨⟨rfl,rfl⟩,⟨rfl,rfl⟩,⟨rfl,rfl⟩,trivial⟩ ⟨rfl,trivial,fun j=>rfl,trivial⟩ ?_ (fun _ _ h=>h.elim)
 rintro r M' ⟨g6,c6,g7,c7,h6,rfl,rfl⟩
 refine⟨⟨rfl,rfl,rfl,rfl⟩,?_⟩
 refine Qs ?_
 refine aa.lift [.own 2,.own 6,.own 1,.own 7,.own 8] (mC (X:=dX ts g1 c1 cN g7 c7 eK 0 32) (g:=g6) (c:=c6) (Kp:=fun _ _=>False) hF Xj h6) rfl rfl ⟨⟨rfl,rfl⟩,⟨rfl,rfl⟩,⟨rfl,rfl⟩,⟨rfl,rfl⟩,⟨rfl,rfl⟩,trivial⟩ ⟨rfl,trivial,fun j=>rfl,trivial,trivial,trivial⟩ ?_ (fun _ _ h=>h.elim)
 rintro r M' ⟨gZ,ia,rfl,rfl,Zp⟩
 refine⟨⟨rfl,rfl,rfl,rfl,rfl,rfl⟩,?_⟩
 refine Qs ?_
 refine And.intro (fun q=>?_) (fun q=>?_)
 ·have q:F.length<S.length:=by have q:(F.length:Int)<(S.length:Int):=of_decide_eq_true q;omega
  have uV:kU F S=F:=if_pos q
  rw[uV]at Ae
  refine Qs ?_
  refine aa.view (Vw.ghost (i:=3) (g:=0) (k:=0) (cs:=[.ns,.int .u32 0,.int .i64 0,.sl 1 g1 0 ts.length c1,.ns,.ns]) (x:=.ints .u8 [] 0) rfl rfl ⟨rfl,rfl⟩) ?_
  refine aa.lift [.own 3,.own 11,.own 1] (wV (gt:=g1) (ct:=c1) (g0:=0) (c0:=0) hA hD UB hR (by omega) h1)
   rfl rfl ⟨⟨rfl,rfl⟩,⟨rfl,rfl⟩,⟨rfl,rfl⟩,trivial⟩ ⟨rfl,trivial,fun j=>rfl,trivial⟩ ?_ (fun _ _ h=>h.elim)
  rintro r M' ⟨Wn,WK,gY,hZ,Wm,WJ,Wl,rfl,rfl⟩
  refine⟨⟨rfl,rfl,rfl,rfl⟩,?_⟩
  refine Qs ?_
  refine aa.lift [.own 3,.own 11,.own 1,.own 12,.own 13] (mC (X:=dX ts g1 c1 A gY hZ D Wm WJ) (g:=Wn) (c:=WK) (Kp:=fun _ _=>False) hY Un Wl) rfl rfl ⟨⟨rfl,rfl⟩,⟨rfl,rfl⟩,⟨rfl,rfl⟩,⟨rfl,rfl⟩,⟨rfl,rfl⟩,trivial⟩ ⟨rfl,trivial,fun j=>rfl,trivial,trivial,trivial⟩ ?_ (fun _ _ h=>h.elim)
  rintro r M' ⟨P9,Qh,rfl,rfl,qI⟩
  refine⟨⟨rfl,rfl,rfl,rfl,rfl,rfl⟩,?_⟩
  refine Qs ?_
  refine And.intro (fun q2=>?_) (fun q2=>?_)
  ·have q2:Y.length<F.length:=by have q2:(Y.length:Int)<(F.length:Int):=of_decide_eq_true q2;omega
   have gP:kU Y F=Y:=if_pos q2
   rw[gP]at Ae
   rw[Ae]at h
   refine Qs ?_
   refine⟨[.eZ 0,.own 15],.aG [.sl 1 P9 0 Y.length Qh,.int .i64 0],[.one false 0 (.ints .u8 xs c),.one true P9 (.ints .u8 Y Qh)],⟨⟨⟨rfl,_,rfl,rfl⟩,⟨rfl,rfl⟩,trivial⟩,rfl,⟨trivial,trivial,trivial⟩,rfl,fun i hi=>?_⟩,h P9 Qh qI⟩
   match i,hi with
   |0,_=>exact .inr rfl
  ·have q2:¬Y.length<F.length:=by have q2:¬(Y.length:Int)<(F.length:Int):=of_decide_eq_false q2;omega
   have gP:kU Y F=F:=if_neg q2
   rw[gP]at Ae
   rw[Ae]at h
   refine Qs ?_
   refine⟨[.eZ 0,.own 10],.aG [.sl 1 gZ 0 F.length ia,.int .i64 0],[.one false 0 (.ints .u8 xs c),.one true gZ (.ints .u8 F ia)],⟨⟨⟨rfl,_,rfl,rfl⟩,⟨rfl,rfl⟩,trivial⟩,rfl,⟨trivial,trivial,trivial⟩,rfl,fun i hi=>?_⟩,h gZ ia Zp⟩
   match i,hi with
   |0,_=>exact .inr rfl
 ·have q:¬F.length<S.length:=by have q:¬(F.length:Int)<(S.length:Int):=of_decide_eq_false q;omega
  have uV:kU F S=S:=if_neg q
  rw[uV]at Ae
  refine Qs ?_
  refine aa.view (Vw.ghost (i:=3) (g:=0) (k:=0) (cs:=[.ns,.int .u32 0,.int .i64 0,.sl 1 g1 0 ts.length c1,.ns,.ns]) (x:=.ints .u8 [] 0) rfl rfl ⟨rfl,rfl⟩) ?_
  refine aa.lift [.own 3,.own 11,.own 1] (wV (gt:=g1) (ct:=c1) (g0:=0) (c0:=0) hA hD UB hR (by omega) h1)
   rfl rfl ⟨⟨rfl,rfl⟩,⟨rfl,rfl⟩,⟨rfl,rfl⟩,trivial⟩ ⟨rfl,trivial,fun j=>rfl,trivial⟩ ?_ (fun _ _ h=>h.elim)
  rintro r M' ⟨Wn,WK,gY,hZ,Wm,WJ,Wl,rfl,rfl⟩
  refine⟨⟨rfl,rfl,rfl,rfl⟩,?_⟩
  refine Qs ?_
  refine aa.lift [.own 3,.own 11,.own 1,.own 12,.own 13] (mC (X:=dX ts g1 c1 A gY hZ D Wm WJ) (g:=Wn) (c:=WK) (Kp:=fun _ _=>False) hY Un Wl) rfl rfl ⟨⟨rfl,rfl⟩,⟨rfl,rfl⟩,⟨rfl,rfl⟩,⟨rfl,rfl⟩,⟨rfl,rfl⟩,trivial⟩ ⟨rfl,trivial,fun j=>rfl,trivial,trivial,trivial⟩ ?_ (fun _ _ h=>h.elim)
  rintro r M' ⟨P9,Qh,rfl,rfl,qI⟩
  refine⟨⟨rfl,rfl,rfl,rfl,rfl,rfl⟩,?_⟩
  refine Qs ?_
  refine And.intro (fun q2=>?_) (fun q2=>?_)
  ·have q2:Y.length<S.length:=by have q2:(Y.length:Int)<(S.length:Int):=of_decide_eq_true q2;omega
   have gP:kU Y S=Y:=if_pos q2
   rw[gP]at Ae
   rw[Ae]at h
   refine Qs ?_
   refine⟨[.eZ 0,.own 15],.aG [.sl 1 P9 0 Y.length Qh,.int .i64 0],[.one false 0 (.ints .u8 xs c),.one true P9 (.ints .u8 Y Qh)],⟨⟨⟨rfl,_,rfl,rfl⟩,⟨rfl,rfl⟩,trivial⟩,rfl,⟨trivial,trivial,trivial⟩,rfl,fun i hi=>?_⟩,h P9 Qh qI⟩
   match i,hi with
   |0,_=>exact .inr rfl
  ·have q2:¬Y.length<S.length:=by have q2:¬(Y.length:Int)<(S.length:Int):=of_decide_eq_false q2;omega
   have gP:kU Y S=S:=if_neg q2
   rw[gP]at Ae
   rw[Ae]at h
   refine Qs ?_
   refine⟨[.eZ 0,.own 4],.aG [.sl 1 g4 0 S.length c4,.int .i64 0],[.one false 0 (.ints .u8 xs c),.one true g4 (.ints .u8 S c4)],⟨⟨⟨rfl,_,rfl,rfl⟩,⟨rfl,rfl⟩,trivial⟩,rfl,⟨trivial,trivial,trivial⟩,rfl,fun i hi=>?_⟩,h g4 c4 h4⟩
   match i,hi with
   |0,_=>exact .inr rfl
end
end Go.Proofs.Ytibadaomjlkoaaa
open Go.RowKit
namespace Go.Proofs.Ytibadaomjlkoaaa
set_option maxRecDepth 10000
theorem zM:∀j,(aP.getD j 0).toNat=ql.getD j 0:=by
 intro j
 rcases Nat.lt_or_ge j 19 with h|h
 ·have:∀j,j<19→(aP.getD j 0).toNat=ql.getD j 0:=by decide
  exact this j h
 ·rw[List.getD_eq_getElem?_getD,List.getElem?_eq_none (show aP.length≤j from h),List.getD_eq_getElem?_getD,List.getElem?_eq_none (show ql.length≤j from h)];rfl
theorem wh (ls:List Int):∀k n j,iA ls k n≤j→j<n→ls.getD (aP.getD j 0).toNat 0=0
 |0,n,j,h1,h2=>by simp only[iA]at h1;omega
 |k+1,n,j,h1,h2=>by
  simp only[iA]at h1
  split at h1
  ·rename_i hc
   rcases Nat.lt_or_ge j (n-1)with h|h
   ·exact wh ls k (n-1) j h1 h
   ·rw[show j=n-1 by omega];exact hc.2
  ·omega
theorem wb {ls:List Int}(hb:∀j,0≤ls.getD j 0∧ls.getD j 0<8){row q:List Bool}{lim N:Nat}{o:List Int}(hN:N≤19):∀(n i:Nat)(p:List Bool)(l:List Int),i+n=N→row=p++(((aP.drop i).take n).flatMap (fun s=>bitsOf (ls.getD s.toNat 0) 3)++q)→l.length=19→
 (∀s,s<19→l.getD s 0=if∃j,j<i∧ql.getD j 0=s then ls.getD s 0 else 0)→
 ∃l',(xR n i l).run row lim ⟨p.length,o⟩=.ok (l',⟨p.length+3*n,o⟩)∧l'.length=19∧∀s,s<19→l'.getD s 0=if∃j,j<N∧ql.getD j 0=s then ls.getD s 0 else 0
 |0,i,p,l,hi,hr,hl,h=>⟨l,rfl,hl,by rw[←hi];exact h⟩
 |n+1,i,p,l,hi,hr,hl,h=>by
  have mg:i<aP.length:=by show i<19;omega
  have hd:(aP.drop i).take (n+1)=aP.getD i 0::(aP.drop (i+1)).take n:=by
   rw[List.drop_eq_getElem_cons mg,List.take_succ_cons,List.getD_eq_getElem?_getD,List.getElem?_eq_getElem mg];rfl
  rw[hd,List.flatMap_cons,List.append_assoc]at hr
  have B1:=hb (aP.getD i 0).toNat
  rw[xR,DP.c9 hr rfl B1.1 B1.2]
  have hlen:(p++bitsOf (ls.getD (aP.getD i 0).toNat 0) 3).length=p.length+3:=by rw[List.length_append,ai]
  obtain⟨l',h1,h2,h3⟩:=wb hb (row:=row) (q:=q) (lim:=lim) (o:=o) hN n (i+1) (p++bitsOf (ls.getD (aP.getD i 0).toNat 0) 3) (l.set (ql.getD i 0) (ls.getD (aP.getD i 0).toNat 0)) (by omega) (by rw[hr,List.append_assoc]) (by rw[List.length_set];exact hl) (by
   intro s hs
   rw[jY,zM]
   by_cases he:ql.getD i 0=s
   ·rw[if_pos ⟨he,by omega⟩,if_pos ⟨i,Nat.lt_succ_self i,he⟩,he]
   ·rw[if_neg (fun x=>he x.1),h s hs]
    by_cases hj:∃j,j<i∧ql.getD j 0=s
    ·obtain⟨j,j1,j2⟩:=hj
     rw[if_pos ⟨j,j1,j2⟩,if_pos ⟨j,by omega,j2⟩]
    ·rw[if_neg hj,if_neg]
     rintro⟨j,j1,j2⟩
     rcases Nat.lt_succ_iff_lt_or_eq.1 j1 with h|rfl
     ·exact hj ⟨j,h,j2⟩
     ·exact he j2)
  rw[hlen]at h1
  exact⟨l',by rw[h1,show p.length+3+3*n=p.length+3*(n+1) by omega],h2,h3⟩
theorem Lm:∀s,s<19→∃j,j<19∧ql.getD j 0=s:=by decide
theorem HX {a b:List Int}(hl:a.length=b.length)(h:∀s,s<a.length→a.getD s 0=b.getD s 0):a=b:=by
 refine List.ext_getElem hl fun i h1 h2=>?_
 have:=h i h1
 rwa[List.getD_eq_getElem?_getD,List.getElem?_eq_getElem h1,List.getD_eq_getElem?_getD,List.getElem?_eq_getElem h2]at this
theorem HA {L ls:List Int}(ok:mG L ls){row q p:List Bool}{lim:Nat}{o:List Int}(hr:row=p++(dZ ls (iA ls 15 19)++q)):
 (xR (iA ls 15 19) 0 (List.replicate 19 0)).run row lim ⟨p.length,o⟩=.ok (ls,⟨p.length+(dZ ls (iA ls 15 19)).length,o⟩):=by
 have hN:=(xS ls 15 19 (by decide)).2
 have hb:∀j,0≤ls.getD j 0∧ls.getD j 0<8:=by
  intro j
  rcases Nat.lt_or_ge j ls.length with h|h
  ·rw[List.getD_eq_getElem?_getD,List.getElem?_eq_getElem h];exact ok.Nr _ (List.getElem_mem _)
  ·rw[List.getD_eq_getElem?_getD,List.getElem?_eq_none h];decide
 obtain⟨l',h1,h2,h3⟩:=wb hb (row:=row) (q:=q) (lim:=lim) (o:=o) hN (iA ls 15 19) 0 p (List.replicate 19 0) (Nat.zero_add _) hr rfl (fun s hs=>by rw[iw,if_neg];rintro⟨j,j1,_⟩;omega)
 have A5:(dZ ls (iA ls 15 19)).length=3*iA ls 15 19:=by
  unfold dZ;rw[qJ,List.length_take,show aP.length=19 from rfl,Nat.min_eq_left hN]
 have Ir:=ok.len
 have:l'=ls:=by
  refine HX (by omega) fun s hs=>?_
  rw[h3 s (by omega)]
  split
  ·rfl
  ·rename_i hn
   obtain⟨j,j1,j2⟩:=Lm s (by omega)
   have h4:=wh ls 15 19 j (by
    rcases Nat.lt_or_ge j (iA ls 15 19)with h|h
    ·exact absurd ⟨j,h,j2⟩ hn
    ·exact h) j1
   rw[zM,j2]at h4
   exact h4.symm
 rw[h1,this,A5]
theorem o6 {L:List Int}{v:Int}:∀(m i:Nat),i+m≤L.length→(∀j,j<m→L.getD (i+j) 0=v)→L.take i++List.replicate m v=L.take (i+m)
 |0,i,_,_=>List.append_nil _
 |m+1,i,h1,h2=>by
  rw[List.replicate_succ,show i+(m+1)=i+1+m by omega,←o6 m (i+1) (by omega) (fun j hj=>by rw[show i+1+j=i+(j+1) by omega];exact h2 (j+1) (by omega)),←mL (show i<L.length by omega),List.append_assoc]
  have:=h2 0 (by omega)
  rw[Nat.add_zero]at this
  rw[this];rfl
theorem Bm (L:List Int)(i n:Nat):((ay L i n).1.1=18∧(ay L i n).1.2.2=7∧(ay L i n).1.2.1+11=(ay L i n).2∧L.getD i 0=0)∨((ay L i n).1.1=17∧(ay L i n).1.2.2=3∧(ay L i n).1.2.1+3=(ay L i n).2∧L.getD i 0=0)∨
 ((ay L i n).1.1=16∧(ay L i n).1.2.2=2∧(ay L i n).1.2.1+3=(ay L i n).2∧0<i∧L.getD (i-1) 0=L.getD i 0)∨((ay L i n).1.1=(L.getD i 0).toNat∧(ay L i n).1.2=(0,0)∧(ay L i n).2=1):=by
 unfold ay
 split
 ·rename_i h;exact .inl ⟨rfl,rfl,by show min n 138-11+11=min n 138;omega,h.1⟩
 ·split
  ·rename_i h;exact .inr (.inl ⟨rfl,rfl,by show n-3+3=n;omega,h.1⟩)
  ·split
   ·rename_i h;exact .inr (.inr (.inl ⟨rfl,rfl,by show min n 6-3+3=min n 6;omega,h.1,h.2.1⟩))
   ·exact .inr (.inr (.inr ⟨rfl,rfl,rfl⟩))
theorem sZ {L ls:List Int}(ok:mG L ls)(JL:∀x∈L,0≤x∧x<16){row q:List Bool}{lim:Nat}{o:List Int}:∀(F i:Nat)(p:List Bool),i≤L.length→L.length-i<F→(∀x∈cF L (L.length-i) i,x∈bf L)→row=p++(eF ls (cF L (L.length-i) i)++q)→
 (nO (cn (bR ls) []) L.length F (L.take i)).run row lim ⟨p.length,o⟩=.ok (L,⟨p.length+(eF ls (cF L (L.length-i) i)).length,o⟩)
 |0,i,p,_,h,_,_=>absurd h (Nat.not_lt_zero _)
 |F+1,i,p,hi,hF,hm,hr=>by
  have lK:(L.take i).length=i:=by rw[List.length_take];omega
  rw[nO]
  by_cases he:i<L.length
  ·rw[if_neg (by omega)]
   have dz:=oa he
   have Vi:=mS L i L.length 1 (by omega)
   have heq:=DQ L i L.length 1 (fun j hj=>by rw[show i+j=i by omega])
   obtain⟨n,hn⟩:∃n,runN L i L.length 1=n:=⟨_,rfl⟩
   rw[hn]at dz Vi heq
   have hle:=px L i n Vi.1
   have uU:=Bm L i n
   obtain⟨x,hx⟩:∃x,(ay L i n).1=x:=⟨_,rfl⟩
   obtain⟨m,Xr⟩:∃m,(ay L i n).2=m:=⟨_,rfl⟩
   rw[hx,Xr]at dz uU
   rw[Xr]at hle
   rw[dz]at hm hr⊢
   obtain⟨hC,hE,hK⟩:=ok.rows x (hm x List.mem_cons_self)
   obtain⟨G,hG⟩:∃G,eF ls (cF L (L.length-(i+m)) (i+m))=G:=⟨_,rfl⟩
   have Um:eF ls (x::cF L (L.length-(i+m)) (i+m))=aV ls (x.1:Int)++bitsOf (x.2.1:Int) x.2.2++G:=by rw[←hG];rfl
   rw[Um]at hr⊢
   have ih:=sZ ok JL (row:=row) (q:=q) (lim:=lim) (o:=o) F (i+m) (p++(aV ls (x.1:Int)++bitsOf (x.2.1:Int) x.2.2)) (by omega) (by omega) (fun y hy=>hm y (List.mem_cons_of_mem _ hy)) (by rw[hr,hG];simp only[List.append_assoc])
   rw[hG]at ih
   have Yp:row=p++(aV ls (x.1:Int)++(bitsOf (x.2.1:Int) x.2.2++(G++q))):=by rw[hr];simp only[List.append_assoc]
   have LN:row=(p++aV ls (x.1:Int))++(bitsOf (x.2.1:Int) x.2.2++(G++q)):=by rw[hr];simp only[List.append_assoc]
   have UD:((x.2.1:Nat):Int)<2^x.2.2:=by exact_mod_cast hE
   have IA:(p++(aV ls (x.1:Int)++bitsOf (x.2.1:Int) x.2.2)).length+G.length=p.length+(aV ls (x.1:Int)++bitsOf (x.2.1:Int) x.2.2++G).length:=by simp only[List.length_append];omega
   rw[IA,show(p++(aV ls (x.1:Int)++bitsOf (x.2.1:Int) x.2.2)).length=p.length+(aV ls (x.1:Int)).length+x.2.2 by simp only[List.length_append,ai];omega]at ih
   rw[DP.run_bind,jK ok.each hC Yp rfl]
   simp only
   obtain⟨sy,ex,kk⟩:=x
   simp only at uU LN UD ih⊢
   rcases uU with⟨a,b,c,d⟩|⟨a,b,c,d⟩|⟨a,b,c,d,d2⟩|⟨a,b,c⟩
   ·subst a b
    have hT:=o6 (L:=L) m i (v:=0) (by omega) (fun j hj=>by rw[heq j (by omega)];exact d)
    rw[if_neg (by decide),if_neg (by decide),if_neg (by decide),DP.bind,DP.c9 LN (by simp only[List.length_append]) (Int.natCast_nonneg _) UD,DP.bind]
    simp only
    rw[lK,if_neg (by omega),show(11+(ex:Int)).toNat=m by omega,hT]
    exact ih
   ·subst a b
    have hT:=o6 (L:=L) m i (v:=0) (by omega) (fun j hj=>by rw[heq j (by omega)];exact d)
    rw[if_neg (by decide),if_neg (by decide),if_pos (by decide),DP.bind,DP.c9 LN (by simp only[List.length_append]) (Int.natCast_nonneg _) UD,DP.bind]
    simp only
    rw[lK,if_neg (by omega),show(3+(ex:Int)).toNat=m by omega,hT]
    exact ih
   ·subst a b
    have hT:=o6 (L:=L) m i (v:=L.getD (i-1) 0) (by omega) (fun j hj=>by rw[heq j (by omega)];exact d2.symm)
    have eJ:L.take i≠[]:=by intro h;rw[h]at lK;simp only[List.length_nil]at lK;omega
    rw[if_neg (by decide),if_pos (by decide),if_neg eJ,DP.bind,DP.c9 LN (by simp only[List.length_append]) (Int.natCast_nonneg _) UD,DP.bind]
    simp only
    rw[lK,if_neg (by omega),show(3+(ex:Int)).toNat=m by omega,dq (show i-1<i by omega),hT]
    exact ih
   ·have hb:=JL (L.getD i 0) (by rw[List.getD_eq_getElem?_getD,List.getElem?_eq_getElem he];exact List.getElem_mem _)
    obtain⟨rfl,rfl⟩:=Prod.mk.inj b
    subst c
    have e1:((sy:Nat):Int)=L.getD i 0:=by omega
    rw[if_pos (by omega),e1,mL he]
    rw[e1]at ih
    exact ih
  ·have Sf:i=L.length:=by omega
   rw[if_pos (by omega),Sf,Nat.sub_self,List.take_length]
   rfl
theorem Mq {xs A D:List Int}(bk:yN (b9 xs) A D)(hx:xs.length≤1000000){row q:List Bool}{lim f:Nat}(hl:xs.length≤lim)(hr:row=du (b9 xs) A D++q):
 (jy (f+1)).run row lim ⟨0,[]⟩=.ok ((),⟨(du (b9 xs) A D).length,xs⟩):=by
 have Ng:=bk.al
 have P4:=bk.dl
 obtain⟨L,hL⟩:∃L,A++D=L:=⟨_,rfl⟩
 have iJ:L.length=A.length+D.length:=by rw[←hL,List.length_append]
 have JL:∀x∈L,0≤x∧x<16:=by
  intro x hx
  rw[←hL]at hx
  rcases List.mem_append.1 hx with h|h
  ·exact bk.ab x h
  ·exact bk.db x h
 obtain⟨_,ok⟩:=xH (L:=L) (by omega) JL
 have LV:nL L=iA (Jz L) 15 19:=rfl
 obtain⟨ls,BX⟩:∃ls,Jz L=ls:=⟨_,rfl⟩
 rw[BX]at ok LV
 obtain⟨N,hN⟩:∃N,iA ls 15 19=N:=⟨_,rfl⟩
 rw[hN]at LV
 have SD:=HO L
 rw[LV]at SD
 have hD:du (b9 xs) A D=gq A D++dZ ls N++eF ls (bf L)++(bF A D (b9 xs)++aV A 256):=by
  unfold du;rw[hL,BX,LV]
 have hH:gq A D=bitsOf 5 3++bitsOf ((A.length-257:Nat):Int) 5++bitsOf ((D.length-1:Nat):Int) 5++bitsOf ((N-4:Nat):Int) 4:=by
  unfold gq;rw[hL,LV]
 have h3:bitsOf 5 3=bitsOf 1 1++bitsOf 2 2:=by decide
 obtain⟨R1,XM⟩:∃R,bF A D (b9 xs)++(aV A 256++q)=R:=⟨_,rfl⟩
 have Po:row=bitsOf 5 3++(bitsOf ((A.length-257:Nat):Int) 5++(bitsOf ((D.length-1:Nat):Int) 5++(bitsOf ((N-4:Nat):Int) 4++(dZ ls N++(eF ls (bf L)++R1))))):=by
  rw[hr,hD,hH,←XM];simp only[List.append_assoc]
 have yQ:row=[]++(bitsOf 1 1++(bitsOf 2 2++(bitsOf ((A.length-257:Nat):Int) 5++(bitsOf ((D.length-1:Nat):Int) 5++(bitsOf ((N-4:Nat):Int) 4++(dZ ls N++(eF ls (bf L)++R1))))))):=by
  rw[Po,h3];simp only[List.append_assoc,List.nil_append]
 have hB:(gw 2).run row lim ⟨3,[]⟩=.ok ((),⟨(du (b9 xs) A D).length,xs⟩):=by
  unfold gw
  rw[if_neg (by decide),if_neg (by decide),if_pos rfl,Lk]
  rw[DP.c9 (p:=bitsOf 5 3) (s:=⟨3,[]⟩) Po rfl (Int.natCast_nonneg _) (by omega),
   DP.c9 (p:=bitsOf 5 3++bitsOf ((A.length-257:Nat):Int) 5) (v:=((D.length-1:Nat):Int)) (n:=5) (q:=bitsOf ((N-4:Nat):Int) 4++(dZ ls N++(eF ls (bf L)++R1))) (by rw[Po];simp only[List.append_assoc]) (by simp only[List.length_append,ai]) (Int.natCast_nonneg _) (by omega),
   DP.c9 (p:=bitsOf 5 3++bitsOf ((A.length-257:Nat):Int) 5++bitsOf ((D.length-1:Nat):Int) 5) (v:=((N-4:Nat):Int)) (n:=4) (q:=dZ ls N++(eF ls (bf L)++R1)) (by rw[Po];simp only[List.append_assoc]) (by simp only[List.length_append,ai]) (Int.natCast_nonneg _) (by omega)]
  rw[if_neg (by omega),DP.run_bind]
  simp only[Int.toNat_natCast]
  have Xn:(bitsOf 5 3++bitsOf ((A.length-257:Nat):Int) 5++bitsOf ((D.length-1:Nat):Int) 5++bitsOf ((N-4:Nat):Int) 4).length=17:=by simp only[List.length_append,ai]
  have hO:=HA ok (row:=row) (p:=gq A D) (q:=eF ls (bf L)++R1) (lim:=lim) (o:=[]) (by rw[Po,hH,hN];simp only[List.append_assoc])
  rw[hN,jP]at hO
  rw[show N-4+4=N by omega,show 3+5+5+4=17 from rfl,hO]
  simp only
  rw[DP.run_bind,rL,if_pos ok.each,DP.run]
  simp only
  have XN:=sZ ok JL (row:=row) (q:=R1) (lim:=lim) (o:=[]) 401 0 (gq A D++dZ ls N) (Nat.zero_le _) (by omega) (fun x hx=>hx) (by
   rw[Po,hH];show _=_++(eF ls (bf L)++R1);simp only[List.append_assoc])
  rw[List.length_append,jP,Nat.sub_zero,List.take_zero]at XN
  rw[DP.run_bind,show A.length-257+257+(D.length-1+1)=L.length by omega,XN]
  simp only
  have P7:=bk.fin.2.2.1
  have hg:L.getD 256 0=A.getD 256 0:=by
   rw[←hL,List.getD_eq_getElem?_getD,List.getElem?_append_left (by omega),List.getD_eq_getElem?_getD]
  have P7:1≤A.getD 256 0:=P7
  rw[hg,if_neg (by omega),show A.length-257+257=A.length by omega,show L.take A.length=A by rw[←hL,List.take_left],show L.drop A.length=D by rw[←hL,List.drop_left]]
  rw[DP.run_bind,rL,if_pos bk.ea,DP.run]
  simp only
  rw[DP.run_bind,rL,if_pos bk.ed,DP.run]
  simp only
  have hs:=og (xs:=xs) bk.ea bk.ed bk.fin (row:=row) (q:=q) hl (b9 xs) FU 0 (gq A D++dZ ls N++eF ls (bf L)) (ks xs) (Nat.zero_le _) bk.UM (Nat.lt_of_le_of_lt (Nat.le_trans (o4 xs) hx) Ju) (by
   rw[Po,XM,hH];simp only[List.append_assoc])
  rw[List.take_zero]at hs
  rw[show(cF L L.length 0)=bf L from rfl,show 17+(dZ ls N).length+(eF ls (bf L)).length=(gq A D++dZ ls N++eF ls (bf L)).length by rw[List.length_append,List.length_append,jP],hs,hD]
  simp only[List.length_append,Nat.add_assoc]
 have:=qj (f:=f) (last:=1) (k:=2) (s:=⟨0,[]⟩) (by decide) (by decide) yQ rfl hB
 rw[if_neg (by decide)]at this
 exact this
theorem Mr {xs A D:List Int}(bk:yN (b9 xs) A D)(hx:xs.length≤1000000){zs:List Int}{lim:Nat}(hl:xs.length≤lim):
 lC (bg (du (b9 xs) A D)++zs) lim=.ok ((),⟨(du (b9 xs) A D).length,xs⟩):=by
 obtain⟨k,hk,h1,h2⟩:=ju (du (b9 xs) A D)
 exact z8 (fun q f=>Mq bk hx hl rfl) ⟨_,h1⟩
end Go.Proofs.Ytibadaomjlkoaaa
open Go.RowKit
namespace Go.Proofs.Ytibadaomjlkoaaa
theorem ve:gw 0=mW:=by unfold gw;rw[if_pos rfl]
theorem pe (last:Int)(ys:List Int):(jM last ys).length=ys.length+5:=by unfold jM;rw[List.length_append];show 5+_=_;omega
theorem sB {row p q:List Bool}{lim f:Nat}{last:Int}{ys o:List Int}(hl:0≤last∧last<2)(hy:ys.length≤65535)(hb:∀y∈ys,0≤y∧y<256)(iZ:o.length+ys.length≤lim)(hp:p.length%8=0)(hr:row=p++(unpack (jM last ys)++q)):
 (jy (f+1)).run row lim ⟨p.length,o⟩=if last=0 then(jy f).run row lim ⟨p.length+8*(jM last ys).length,o++ys⟩else .ok ((),⟨p.length+8*(jM last ys).length,o++ys⟩):=by
 obtain⟨n,hn⟩:∃n:Int,(ys.length:Int)=n:=⟨_,rfl⟩
 have Zu:bitsOf n 16=bitsOf (n%256) 8++bitsOf (n/256%256) 8:=by
  have:=k8 n 8 8
  rw[show n%2^8=n%256 by omega,show n/2^8=n/256%256 by omega]at this
  exact this
 have Wu:bitsOf (65535-n) 16=bitsOf (255-n%256) 8++bitsOf (255-n/256%256) 8:=by
  have:=k8 (65535-n) 8 8
  rw[show(65535-n)%2^8=255-n%256 by omega,show(65535-n)/2^8=255-n/256%256 by omega]at this
  exact this
 have e8:bitsOf last 8=bitsOf last 1++(bitsOf 0 2++bitsOf 0 5):=by
  have:last=0∨last=1:=by omega
  rcases this with rfl|rfl<;>decide
 have hu:unpack (jM last ys)=bitsOf last 8++(bitsOf n 16++(bitsOf (65535-n) 16++unpack ys)):=by
  unfold jM
  rw[hn,eD,Zu,Wu]
  simp[unpack]
 have yQ:row=p++(bitsOf last 1++(bitsOf 0 2++(bitsOf 0 5++(bitsOf n 16++(bitsOf (65535-n) 16++(unpack ys++q)))))):=by
  rw[hr,hu,e8];simp only[List.append_assoc]
 have Qt:row=(p++bitsOf last 8)++(bitsOf (ys.length:Int) 16++(bitsOf (65535-(ys.length:Int)) 16++(unpack ys++q))):=by
  rw[hr,hu,hn];simp only[List.append_assoc]
 have hB:(gw 0).run row lim ⟨p.length+3,o⟩=.ok ((),⟨p.length+8*(jM last ys).length,o++ys⟩):=by
  rw[ve]
  have:=xQ (row:=row) (lim:=lim) (ys:=ys) (p:=p++bitsOf last 8) (q:=q) (s:=⟨p.length+3,o⟩) Qt (by show(p.length+3+7)/8*8=_;rw[List.length_append,ai];omega) hy hb iZ
  rw[this,List.length_append,ai,pe,show p.length+8+32+8*ys.length=p.length+8*(ys.length+5) by omega]
 exact qj (f:=f) (s:=⟨p.length,o⟩) hl (by decide) yQ rfl hB
theorem zg {row:List Bool}{lim:Nat}{q:List Bool}:∀(k f:Nat)(ys o:List Int)(p:List Bool),ys.length≤(k+1)*65535→k<f→(∀y∈ys,0≤y∧y<256)→o.length+ys.length≤lim→p.length%8=0→row=p++(unpack (dt k ys)++q)→
 (jy f).run row lim ⟨p.length,o⟩=.ok ((),⟨p.length+8*(dt k ys).length,o++ys⟩)
 |k,0,_,_,_,_,h,_,_,_,_=>absurd h (Nat.not_lt_zero _)
 |0,f+1,ys,o,p,h1,_,hb,hl,hp,hr=>by
  rw[sB (last:=1) (by decide) (by omega) hb hl hp hr,if_neg (by decide)];rfl
 |k+1,f+1,ys,o,p,h1,h2,hb,hl,hp,hr=>by
  by_cases hc:ys.length≤65535
  ·rw[dt,if_pos hc]at hr⊢
   rw[sB (last:=1) (by decide) hc hb hl hp hr,if_neg (by decide)]
  ·rw[dt,if_neg hc]at hr⊢
   have ht:(ys.take 65535).length=65535:=by rw[List.length_take];omega
   rw[eD,List.append_assoc]at hr
   rw[sB (last:=0) (by decide) (by omega) (fun y hy=>hb y (List.mem_of_mem_take hy)) (by rw[ht];omega) hp hr,if_pos rfl]
   have Es:=bw (jM 0 (ys.take 65535))
   have ih:=zg (row:=row) (lim:=lim) (q:=q) k f (ys.drop 65535) (o++ys.take 65535) (p++unpack (jM 0 (ys.take 65535))) (by rw[List.length_drop];omega) (by omega) (fun y hy=>hb y (List.mem_of_mem_drop hy)) (by rw[List.length_append,List.length_drop,ht];omega) (by rw[List.length_append,Es];omega) (by rw[hr,List.append_assoc])
   rw[List.length_append,Es,List.append_assoc,List.take_append_drop]at ih
   rw[ih,List.length_append,show p.length+8*(jM 0 (ys.take 65535)).length+8*(dt k (ys.drop 65535)).length=p.length+8*((jM 0 (ys.take 65535)).length+(dt k (ys.drop 65535)).length) by omega]
theorem JZ {xs:List Int}(hb:∀x∈xs,0≤x∧x<256)(hx:xs.length≤1000000){zs:List Int}{lim:Nat}(hl:xs.length≤lim):
 lC (dt xs.length xs++zs) lim=.ok ((),⟨8*(dt xs.length xs).length,xs⟩):=by
 rw[pM,eD]
 have:=zg (row:=unpack (dt xs.length xs)++unpack zs) (lim:=lim) (q:=unpack zs) xs.length FI xs [] [] (by omega) (by unfold FI;omega) hb (by show 0+xs.length≤lim;omega) rfl rfl
 simp only[List.length_nil,Nat.zero_add,List.nil_append]at this
 exact this
theorem xd (row:List Bool):(row.length+7)/8=(bg row).length:=by
 obtain⟨k,hk,_,h2⟩:=ju row
 omega
theorem qL {xs:List Int}(hb:∀x∈xs,0≤x∧x<256)(hx:xs.length≤150000){zs:List Int}{lim:Nat}(hl:xs.length≤lim):
 ∃a,lC (dQ xs++zs) lim=.ok ((),⟨a,xs⟩)∧(a+7)/8=(dQ xs).length:=by
 have hR:=GX hb
 have hn:=o4 xs
 have h0:=JZ hb (by omega) (zs:=zs) hl
 have h1:=Ml hb (by omega) (zs:=zs) hl
 have h2:=Mr (yK hR (by omega)) (by omega) (zs:=zs) hl
 have c0:∃a,lC (dt xs.length xs++zs) lim=.ok ((),⟨a,xs⟩)∧(a+7)/8=(dt xs.length xs).length:=⟨_,h0,by omega⟩
 have c1:∃a,lC (bg (bV (b9 xs))++zs) lim=.ok ((),⟨a,xs⟩)∧(a+7)/8=(bg (bV (b9 xs))).length:=⟨_,h1,xd _⟩
 have c2:∃a,lC (bg (Gr xs)++zs) lim=.ok ((),⟨a,xs⟩)∧(a+7)/8=(bg (Gr xs)).length:=⟨_,h2,xd _⟩
 have Rp:∀s b:List Int,(∃a,lC (s++zs) lim=.ok ((),⟨a,xs⟩)∧(a+7)/8=s.length)→(∃a,lC (b++zs) lim=.ok ((),⟨a,xs⟩)∧(a+7)/8=b.length)→∃a,lC (kU s b++zs) lim=.ok ((),⟨a,xs⟩)∧(a+7)/8=(kU s b).length:=by
  intro s b hs hb
  unfold kU
  split
  ·exact hs
  ·exact hb
 exact Rp _ _ c2 (Rp _ _ c1 c0)
theorem Ej (s b:List Int):(kU s b).length≤s.length∧(kU s b).length≤b.length:=by
 unfold kU;split<;>omega
theorem uu (xs:List Int):(dQ xs).length≤(bg (Gr xs)).length∧(dQ xs).length≤(bg (bV (b9 xs))).length∧(dQ xs).length≤(dt xs.length xs).length:=by
 have h1:=Ej (bg (Gr xs)) (kU (bg (bV (b9 xs))) (dt xs.length xs))
 have h2:=Ej (bg (bV (b9 xs))) (dt xs.length xs)
 unfold dQ
 omega
theorem zh:∀(k:Nat)(ys:List Int),ys.length≤(k+1)*65535→(dt k ys).length≤ys.length+5*(ys.length/65535+1)
 |0,ys,h=>by rw[dt,pe];omega
 |k+1,ys,h=>by
  rw[dt]
  split
  ·rw[pe];omega
  ·have ih:=zh k (ys.drop 65535) (by rw[List.length_drop];omega)
   rw[List.length_append,pe,List.length_take]
   rw[List.length_drop]at ih
   omega
theorem Fh:∀(k:Nat)(ys:List Int),(∀y∈ys,0≤y∧y<256)→∀x∈dt k ys,0≤x∧x<256:=by
 have hB:∀(l:Int)(ys:List Int),(l=0∨l=1)→(∀y∈ys,0≤y∧y<256)→∀x∈jM l ys,0≤x∧x<256:=by
  intro l ys hl h x hx
  unfold jM at hx
  rcases List.mem_append.1 hx with hx|hx
  ·simp only[List.mem_cons,List.not_mem_nil,or_false]at hx
   rcases hx with rfl|rfl|rfl|rfl|rfl<;>omega
  ·exact h x hx
 intro k
 induction k with
 |zero=>intro ys h;exact hB 1 ys (.inr rfl) h
 |succ k ih=>
  intro ys h
  rw[dt]
  split
  ·exact hB 1 ys (.inr rfl) h
  ·intro x hx
   rcases List.mem_append.1 hx with hx|hx
   ·exact hB 0 _ (.inl rfl) (fun y hy=>h y (List.mem_of_mem_take hy)) x hx
   ·exact ih _ (fun y hy=>h y (List.mem_of_mem_drop hy)) x hx
theorem oK {xs:List Int}(hb:∀x∈xs,0≤x∧x<256):∀x∈dQ xs,0≤x∧x<256:=by
 have Rp:∀s b:List Int,(∀x∈s,0≤x∧x<256)→(∀x∈b,0≤x∧x<256)→∀x∈kU s b,0≤x∧x<256:=by
  intro s b hs hb
  unfold kU
  split
  ·exact hs
  ·exact hb
 exact Rp _ _ (rB _) (Rp _ _ (rB _) (Fh _ _ hb))
end Go.Proofs.Ytibadaomjlkoaaa
open Go.RowKit
namespace Go.Proofs.Ytibadaomjlkoaaa
set_option maxRecDepth 10000
theorem My:(dQ [97,98,99]).length≤5:=by
 have h:=(uu [97,98,99]).2.1
 have h2:(bg (bV (b9 [97,98,99]))).length=5:=by decide+kernel
 omega
section
variable{M:AH}{K Kp:AV→AH→Prop}
theorem rA {i g off n c co:Nat}{o:Bool}{xs ys:List Int}{Y:List Int}(hi:M[i]?=some (.one o g (.ints .u8 ys co)))(hn:n=xs.length)(hy:xs=(ys.drop off).take xs.length)(wM:off+c≤co)(hx:xs.length≤150000)(hc:xs.length≤c)(hb:∀x∈xs,0≤x∧x<256)(hY:dQ xs=Y)
 (h:∀g' c',Y.length≤c'→K (.aG [.sl M.length g' 0 Y.length c',.int .i64 0]) (M++[.one true g' (.ints .u8 Y c')])):aa Try.prog 8 [.sl i g off n c] M K Kp:=by
 subst hn hY
 refine aa.lift [.ep i g off] (yv (xs:=xs) (c0:=c) (c:=c) (K:=fun r N=>∃g c',(dQ xs).length≤c'∧r=.aG [.sl 1 g 0 (dQ xs).length c',.int .i64 0]∧N=[.one false 0 (.ints .u8 xs c),.one true g (.ints .u8 (dQ xs) c')]) (Kp:=fun _ _=>False) hx hc (Nat.le_refl _) hb (fun g c' h=>⟨g,c',h,rfl,rfl⟩)) rfl rfl ⟨⟨_,_,_,rfl,ak hi,eh.ints wM hy⟩,trivial⟩ ⟨trivial,trivial⟩ ?_ (fun _ _ h=>h.elim)
 rintro r M' ⟨g',c',rr,rfl,rfl⟩
 exact⟨⟨rfl,rfl⟩,h g' c' rr⟩
theorem ur {i g n c co:Nat}{o:Bool}{xs:List Int}{Y:List Int}(hi:M[i]?=some (.one o g (.ints .u8 xs co)))(hn:n=xs.length)(hx:xs.length≤150000)(hc:xs.length≤c)(wM:c≤co)(hb:∀x∈xs,0≤x∧x<256)(hY:dQ xs=Y)
 (h:∀g' c',Y.length≤c'→K (.aG [.sl M.length g' 0 Y.length c',.int .i64 0]) (M++[.one true g' (.ints .u8 Y c')])):aa Try.prog 8 [.sl i g 0 n c] M K Kp:=
 rA hi hn (by rw[List.drop_zero,List.take_length]) (by omega) hx hc hb hY h
theorem x7 {i g n c0 co:Nat}{o:Bool}{xs:List Int}{lim:Nat}{limit:Int}{s:DS}(hi:M[i]?=some (.one o g (.ints .u8 xs co)))(hl:limit=(lim:Int))(hn:n=xs.length)(hc:xs.length≤co)
 (Er:xs.length≤1000000)(yd:∀x∈xs,0≤x∧x<256)(iZ:lim≤524288)(he:lC xs lim=.ok ((),s))
 (h:∀g c,s.out.length≤c→K (.aG [.sl M.length g 0 s.out.length c,.int .i64 (((s.a+7)/8:Nat):Int),.int .i64 0]) (M++[.one true g (.ints .u8 s.out c)])):
 aa Try.prog 13 [.sl i g 0 n c0,.int .i64 limit] M K Kp:=by
 subst hl
 refine BL hi hn hc Er yd (by omega) (fun h=>absurd h (by omega)) (fun g2 c2 s2 _ _ e5 qm gP=>?_) (fun e _ _ e5=>?_)
 ·rw[Int.toNat_natCast,he]at e5
  obtain rfl:s=s2:=by injection e5 with e5;injection e5
  exact h g2 c2 qm.oc
 ·rw[Int.toNat_natCast,he]at e5
  cases e5
theorem BJ (h:K (.bo true) []):aa Try.prog 10 [] [] K Kp:=by
 obtain⟨Y,hY⟩:∃Y,dQ [97,98,99]=Y:=⟨_,rfl⟩
 have hl:=My
 have Sv:=oK (xs:=[97,98,99]) (by decide)
 obtain⟨a,ha,uW⟩:=qL (xs:=[97,98,99]) (by decide) (by decide) (zs:=[]) (lim:=3) (by decide)
 rw[List.append_nil]at ha
 rw[hY]at hl Sv ha uW
 refine aa.cg ?_
 refine OA (fun _=>[]) [] rfl ?_
 refine Qs ?_
 refine ur (i:=0) (xs:=[97,98,99]) rfl rfl (by decide) (by decide) (by decide) (by decide) hY fun g1 c1 h1=>?_
 refine Qs ?_
 refine x7 (i:=1) (xs:=Y) (lim:=3) rfl rfl rfl h1 (by omega) Sv (by decide) ha fun g2 c2 h2=>?_
 refine Qs ?_
 refine Jb (decide_eq_true (show(Y.length:Int)≤5 by omega)) ?_
 refine Qs ?_
 intro ys rP
 obtain rfl:ys=[97,98,99]:=by rw[rP];rfl
 refine Qs ?_
 refine Jb (Fe _ rfl) ?_
 have e3:(((a+7)/8:Nat):Int)=(Y.length:Int):=by rw[uW]
 refine Qs ?_
 rw[decide_eq_true e3]
 exact⟨[],ij _,trivial,rfl,h⟩
theorem H0 (h:K (.bo true) M):aa Try.prog 10 [] M K Kp:=by
 refine aa.lift [] (BJ (K:=fun r N=>r=.bo true∧N=[]) (Kp:=fun _ _=>False) ⟨rfl,rfl⟩) rfl rfl trivial trivial ?_ (fun _ _ h=>h.elim)
 rintro r M' ⟨rfl,rfl⟩
 rw[←List.append_nil M]at h
 exact⟨rfl,h⟩
end
end Go.Proofs.Ytibadaomjlkoaaa
