import Derived.Test.YtibadaomjlkoaaaGdo
import Derived.Test.YtibadaomjlkoaaaGde
import Derived.Test.YtibadaomjlkoaaaBv
import Derived.Test.YtibadaomjlkoaaaGdg
set_option linter.unusedVariables false
set_option linter.unusedSimpArgs false
open Go.RowKit
namespace Go.Proofs.Ytibadaomjlkoaaa
set_option maxRecDepth 10000
theorem yr (ts:List bb)(row:List Bool)(a:Nat):∀(f b:Nat),(nC ts row a f b).2.2≠0→(nC ts row a f b).1=0
 |0,b,_=>rfl
 |f+1,b,h=>by
  simp only[nC]at h⊢
  split
  ·rename_i hh
   rw[hh]at h
   exact absurd rfl h
  ·rename_i hh
   rw[hh]at h
   simp only at h
   split
   ·rename_i h2
    rw[if_pos h2]at h
    split
    ·rfl
    ·rename_i h3
     rw[if_neg h3]at h
     exact yr ts row a f (b+1) h
   ·rfl
theorem II {ts:List bb}{row:List Bool}{a:Nat}:(l9 ts row a).2.2≠0→(l9 ts row a).1=0:=yr ts row a _ a
theorem G7 {N:Nat}(ts:List bb)(hN:0<N)(h:∀t∈ts,t.1<N)(row:List Bool)(a:Nat):∀(f b:Nat),0≤(nC ts row a f b).1∧(nC ts row a f b).1<N
 |0,b=>⟨Int.le_refl _,Int.ofNat_lt.2 hN⟩
 |f+1,b=>by
  simp only[nC]
  split
  ·rename_i t hh
   have:=h t (List.mem_of_find?_eq_some hh)
   simp only
   omega
  ·split
   ·split
    ·exact⟨Int.le_refl _,Int.ofNat_lt.2 hN⟩
    ·exact G7 ts hN h row a f (b+1)
   ·exact⟨Int.le_refl _,Int.ofNat_lt.2 hN⟩
section
variable{K Kp:AV→AH→Prop}{xs:List Int}{lim gr cr cx g c:Nat}{s:DS}{e:Int}
def sH (lim gr cr:Nat)(xs:List Int)(g c:Nat)(s:DS)(e:Int):AH:=[.one true 0 (.cells [.sl 1 gr 0 (unpack xs).length cr,.int .i64 (s.a:Int),.sl 2 g 0 s.out.length c,.int .i64 (lim:Int),.int .i64 e]),.one true gr (.ax (unpack xs) cr),.one true g (.ints .u8 s.out c)]
theorem KB {n:Nat}:kq (n+3) (sH lim gr cr xs g c s e):=⟨by simp[af.nb,AV.qi,AV.nb,AO.nb],trivial,trivial,trivial⟩
theorem fQ:kq 3 (sH lim gr cr xs g c s e):=KB (n:=0)
theorem Ip {n:Nat}(ok:cZ xs lim c s)(hr:(unpack xs).length≤cr)(hn:n≤16)(h0:s.a+n≤(unpack xs).length→K (.int .i64 (num (((unpack xs).drop s.a).take n))) (sH lim gr cr xs g c {s with a:=s.a+n} 0))
 (h1:¬s.a+n≤(unpack xs).length→K (.int .i64 0) (sH lim gr cr xs g c s 50)):
 aa Try.prog 20 [.ptr 0 0 0,.int .i64 (n:Int)] (sH lim gr cr xs g c s 0) K Kp:=by
 have uh:=aL xs
 have iA:=ok.xl
 have Mf:=ok.al
 refine Ko (fun _=>[0]) [] rfl ?_
 refine Qs ?_
 by_cases hle:s.a+n≤(unpack xs).length
 ·have hp:kn (unpack xs) s.a n=(num (((unpack xs).drop s.a).take n),s.a+n,0):=by
   unfold kn;rw[if_neg (by omega),if_neg (by omega)];rfl
  have Ma:=num_nonneg (((unpack xs).drop s.a).take n)
  have rJ:=fU (((unpack xs).drop s.a).take n)
  have gm:num (((unpack xs).drop s.a).take n)<65536:=by
   have h1:(2:Int)^(((unpack xs).drop s.a).take n).length≤2^16:=by exact_mod_cast Nat.pow_le_pow_right (by omega) (show(((unpack xs).drop s.a).take n).length≤16 by rw[List.length_take];omega)
   have h2:(2:Int)^16=65536:=by decide
   omega
  have hK:=h0 hle
  refine G5 (i:=1) rfl rfl (by omega) (by omega) ⟨hr,Nat.le_refl _⟩ hp ?_
  refine Qs ?_
  exact hK
 ·have hp:kn (unpack xs) s.a n=(0,s.a,50):=by
   unfold kn;rw[if_neg (by omega),if_pos (by omega)]
  have hK:=h1 hle
  refine G5 (i:=1) rfl rfl (by omega) (by omega) ⟨hr,Nat.le_refl _⟩ hp ?_
  refine Qs ?_
  exact hK
theorem DJ {n:Nat}(he:e≠0)(h0:K (.int .i64 0) (sH lim gr cr xs g c s e)):
 aa Try.prog 20 [.ptr 0 0 0,.int .i64 (n:Int)] (sH lim gr cr xs g c s e) K Kp:=by
 refine Ko (fun _=>[0]) [] rfl ?_
 refine Qs ?_
 refine fi (by simpa using he) ?_
 refine Qs ?_
 exact h0
def xq (b:Bool)(v e:Int):Int:=if b=true∧e=0 then v else e
theorem kd {b:Bool}{v:Int}(h0:K (.aE []) (sH lim gr cr xs g c s (xq b v e))):
 aa Try.prog 26 [.ptr 0 0 0,.bo b,.int .i64 v] (sH lim gr cr xs g c s e) K Kp:=by
 refine DG (fun _=>[0]) [] rfl ?_
 unfold xq at h0
 refine Qs ?_
 refine And.intro (fun q=>?_) (fun q=>?_)
 ·refine Qs ?_
  refine And.intro (fun q2=>?_) (fun q2=>?_)
  ·rw[if_pos ⟨q,of_decide_eq_true q2⟩]at h0
   refine Qs ?_
   exact h0
  ·rw[if_neg (fun x=>of_decide_eq_false q2 x.2)]at h0
   refine Qs ?_
   exact h0
 ·rw[if_neg (fun x=>by rw[q]at x;exact absurd x.1 (by decide))]at h0
  refine Qs ?_
  exact h0
theorem ki (E:AH){f:Nat}{args:List AV}(h:aa Try.prog f args (sH lim gr cr xs g c s e) (fun r M=>∃g' c' s' e',M=sH lim gr cr xs g' c' s' e'∧r.nb 3=true∧K r (M++E)) (fun _ _=>False))(ha:AV.qi 3 args=true):
 aa Try.prog f args (sH lim gr cr xs g c s e++E) K Kp:=by
 refine aa.frame E h ha fQ (fun o ho=>?_) ?_ (fun _ _ h=>h.elim)
 ·simp only[sH,List.mem_cons,List.not_mem_nil,or_false]at ho
  rcases ho with rfl|rfl|rfl<;>rfl
 ·rintro r M' ⟨g',c',s',e',rfl,h1,h2⟩
  exact⟨rfl,⟨rfl,rfl,rfl,rfl⟩,fQ,h1,h2⟩
theorem DO {v:Int}(ok:cZ xs lim c s)(hv:0≤v∧v<256)(h0:∀g' c',¬lim≤s.out.length→cZ xs lim c' {s with out:=s.out++[v]}→K (.aE []) (sH lim gr cr xs g' c' {s with out:=s.out++[v]} 0))
 (h1:lim≤s.out.length→K (.aE []) (sH lim gr cr xs g c s 81)):
 aa Try.prog 52 [.ptr 0 0 0,.int .u8 v] (sH lim gr cr xs g c s 0) K Kp:=by
 have iA:=ok.ll
 have Mf:=ok.ol
 have h3':=ok.oc
 refine aa.bI ?_
 refine Kk (fun _=>[0]) [] rfl ?_
 refine Qs ?_
 by_cases hl:lim≤s.out.length
 ·refine kd (b:=decide ((lim:Int)≤(s.out.length:Int))) (v:=81) (e:=0) ?_
  rw[show xq (decide ((lim:Int)≤(s.out.length:Int))) 81 0=81 from if_pos ⟨decide_eq_true (by omega),rfl⟩]
  have hK:=h1 hl
  refine Qs ?_
  exact⟨sH lim gr cr xs g c s 81,aI rfl (aI rfl (aI rfl (cU _))),fQ,rfl,hK⟩
 ·refine kd (b:=decide ((lim:Int)≤(s.out.length:Int))) (v:=81) (e:=0) ?_
  rw[show xq (decide ((lim:Int)≤(s.out.length:Int))) 81 0=0 from if_neg (fun x=>hl (by have:=of_decide_eq_true x.1;omega))]
  refine Qs ?_
  intro zs dk
  obtain rfl:zs=[v]:=by rw[dk];rfl
  refine Qs ?_
  intro c4 jM
  have qq:s.out.length+1≤c4:=jM
  refine Qs ?_
  refine Exists.intro (sH lim gr cr xs (g+1) c4 {s with out:=s.out++[v]} 0) (And.intro (And.intro ?_ (And.intro rfl (And.intro rfl trivial))) (And.intro fQ (And.intro rfl ?_)))
  ·show AO.one true 0 (.cells [.sl 1 gr 0 (unpack xs).length cr,.int .i64 (s.a:Int),.sl 2 (g+1) 0 (s.out++[v]).length c4,.int .i64 (lim:Int),.int .i64 0])=AO.one true 0 (.cells [.sl 1 gr 0 (unpack xs).length cr,.int .i64 (s.a:Int),.sl 2 (g+1) 0 (s.out.length+1) c4,.int .i64 (lim:Int),.int .i64 0])
   rw[List.length_append];rfl
  ·exact h0 (g+1) c4 hl ⟨ok.xl,ok.xb,ok.al,ok.ll,by show(s.out++[v]).length≤lim;rw[List.length_append,List.length_singleton];omega,by show(s.out++[v]).length≤c4;rw[List.length_append];exact qq⟩
theorem BU {v:Int}(he:e≠0)(h0:K (.aE []) (sH lim gr cr xs g c s e)):
 aa Try.prog 52 [.ptr 0 0 0,.int .u8 v] (sH lim gr cr xs g c s e) K Kp:=by
 refine Kk (fun _=>[0]) [] rfl ?_
 refine Qs ?_
 refine kd (b:=decide ((lim:Int)≤(s.out.length:Int))) (v:=81) (e:=e) ?_
 rw[show xq (decide ((lim:Int)≤(s.out.length:Int))) 81 e=e from if_neg (fun x=>he x.2)]
 refine Qs ?_
 refine mG (decide_eq_false he) ?_
 refine Qs ?_
 exact h0
def S3 (lim gr cr:Nat)(xs:List Int)(g c:Nat)(s:DS)(e:Int)(ls:List Int)(cl:Nat):AH:=sH lim gr cr xs g c s e++[.one false 0 (.ints .u8 ls cl)]
theorem tw {ls:List Int}{cl c0:Nat}(hl:ls.length≤2000)(hu:∀x∈ls,0≤x∧x<256)
 (h0:∀g' c' cv,(aj ls).length≤c'→K (.sl 5 g' 0 (aj ls).length c') (S3 lim gr cr xs g c s (aB ls) ls cl++[.aX true (aj ls).length (bF (aj ls) cv),tO 4 cv g' c' (aj ls)])):
 aa Try.prog 24 [.ptr 0 0 0,.sl 3 0 0 ls.length c0] (S3 lim gr cr xs g c s 0 ls cl) K Kp:=by
 refine Kn (fun _=>[0]) [] rfl ?_
 refine Qs ?_
 refine UJ (i:=3) rfl rfl hl hu (fun g' c' cv nU=>?_)
 have hK:=h0 g' c' cv nU
 refine Qs ?_
 exact hK
def M5 (lim gr cr:Nat)(xs:List Int)(g c:Nat)(s:DS)(e:Int)(ts:List bb)(cv:Nat→Nat)(d:Nat):AH:=sH lim gr cr xs g c s e++[.aX false ts.length (bF ts cv),.one false 0 (.cw 2 ts.length (gT 3 cv ts) d)]
theorem IA {M:AH}{iF iT iR g d gr cr c0 c1 a:Nat}{ow oT oR:Bool}{ts:List bb}{row:List Bool}{cv:Nat→Nat}(h1:M[iF]?=some (.aX ow ts.length (bF ts cv)))(h2:M[iT]?=some (.one oT g (.cw 2 ts.length (gT iF cv ts) d)))(h3:M[iR]?=some (.one oR gr (.ax row cr)))
 (lL:ts.length≤1000000)(qs:∀t∈ts,t.2.2≤15)(hr:row.length≤10000000)(ha:a≤row.length)(pD:row.length≤c1)(hcr:c1≤cr)
 (hK:K (.aE [.int .i64 (l9 ts row a).1,.int .i64 ((l9 ts row a).2.1:Int),.int .i64 (l9 ts row a).2.2]) M):
 aa Try.prog 84 [.sl iT g 0 ts.length c0,.sl iR gr 0 row.length c1,.int .i64 (a:Int)] M K Kp:=by
 refine aa.lift [.dE iF,.cP iT g 0,.cP iR gr 0] (DQ (ts:=ts) (row:=row) (cv:=cv) (d:=d) (cr:=cr) (c0:=c0) (c1:=c1) (a:=a) (K:=fun r M=>r=.aE [.int .i64 (l9 ts row a).1,.int .i64 ((l9 ts row a).2.1:Int),.int .i64 (l9 ts row a).2.2]∧M=Vq cv d cr ts row) (Kp:=fun _ _=>False) lL qs hr ha pD hcr ⟨rfl,rfl⟩) rfl rfl
  ⟨⟨rfl,_,h1,rfl⟩,⟨_,_,_,rfl,ao h2,cq.same rfl (fun h=>h)⟩,⟨_,_,_,rfl,ao h3,cq.same rfl (fun h=>h)⟩,trivial⟩ ⟨fun _=>trivial,fun _=>rfl,trivial,trivial⟩ ?_ (fun _ _ h=>h.elim)
 rintro r M' ⟨rfl,rfl⟩
 refine⟨⟨rfl,rfl,rfl,rfl⟩,?_⟩
 rw[←List.append_nil M]at hK
 exact hK
theorem zN {ls:List Int}{cv:Nat→Nat}{d c0:Nat}(ok:cZ xs lim c s)(hr:(unpack xs).length≤cr)(hl:(aj ls).length≤1000000)(y6:ls.length≤2000)
 (h0:∀v s',(pZ (bx (aj ls) [])).run (unpack xs) lim s=.ok (v,s')→cZ xs lim c s'→K (.int .i64 v) (M5 lim gr cr xs g c s' 0 (aj ls) cv d))
 (h1:∀er s',(pZ (bx (aj ls) [])).run (unpack xs) lim s=.error er→er≠0→cZ xs lim c s'→K (.int .i64 0) (M5 lim gr cr xs g c s' er (aj ls) cv d)):
 aa Try.prog 53 [.ptr 0 0 0,.sl 4 0 0 (aj ls).length c0] (M5 lim gr cr xs g c s 0 (aj ls) cv d) K Kp:=by
 have uh:=aL xs
 have iA:=ok.xl
 have Mf:=ok.al
 have hle:s.a≤(unpack xs).length:=by omega
 have Zi:=u0 (lim:=lim) (row:=unpack xs) (gP ls) s
 rw[uV hle]at Zi
 have hf2:=NS (ts:=aj ls) hle
 have hz:(l9 (aj ls) (unpack xs) s.a).2.2≠0→(l9 (aj ls) (unpack xs) s.a).1=0:=II
 obtain⟨⟨v,a',er⟩,hR⟩:∃R,l9 (aj ls) (unpack xs) s.a=R:=⟨_,rfl⟩
 have hnn:0≤v∧v<1000000:=by
  have:=G7 (N:=ls.length+1) (aj ls) (Nat.succ_pos _) (fun t ht=>Nat.lt_succ_of_lt (lH ht).1) (unpack xs) s.a ((unpack xs).length-s.a+1) s.a
  have h3:nC (aj ls) (unpack xs) s.a ((unpack xs).length-s.a+1) s.a=(v,a',er):=hR
  rw[h3]at this
  simp only at this
  omega
 rw[hR]at Zi hf2 hz
 have hf2:a'≤(unpack xs).length:=hf2
 refine Kj (fun _=>[0]) [] rfl ?_
 refine Qs ?_
 refine IA (iF:=3) (iT:=4) (iR:=1) rfl rfl rfl hl (fun t ht=>(lH ht).2.2.1) (by omega) hle hr (Nat.le_refl _) ?_
 rw[hR]
 by_cases he:er=0
 ·subst he
  have hK:=h0 v {s with a:=a'} (by rw[Zi];rfl) ⟨ok.xl,ok.xb,by show a'≤_;omega,ok.ll,ok.ol,ok.oc⟩
  refine Qs ?_
  exact hK
 ·obtain rfl:v=0:=hz he
  have hK:=h1 er {s with a:=a'} (by rw[Zi];exact if_neg he) he ⟨ok.xl,ok.xb,by show a'≤_;omega,ok.ll,ok.ol,ok.oc⟩
  refine Qs ?_
  exact hK
end
end Go.Proofs.Ytibadaomjlkoaaa
open Go.RowKit
namespace Go.Proofs.Ytibadaomjlkoaaa
set_option maxRecDepth 10000
section
variable{K Kp:AV→AH→Prop}{xs:List Int}{lim gr cr cx g c:Nat}{s:DS}{e:Int}
theorem p6 (E:AH){n:Nat}{α:Type}{k:Int→DP α}{R:Except Int (α×DS)}(hR:(DP.get n k).run (unpack xs) lim s=R)(ok:cZ xs lim c s)(hr:(unpack xs).length≤cr)(hn:n≤16)
 (h0:∀(v:Nat) s',v<2^n→s'.out=s.out→s'.a=s.a+n→cZ xs lim c s'→(k v).run (unpack xs) lim s'=R→K (.int .i64 (v:Int)) (sH lim gr cr xs g c s' 0++E))
 (h1:R=.error 50→K (.int .i64 0) (sH lim gr cr xs g c s 50++E)):
 aa Try.prog 20 [.ptr 0 0 0,.int .i64 (n:Int)] (sH lim gr cr xs g c s 0++E) K Kp:=by
 have uh:=aL xs
 simp only[DP.run]at hR
 refine ki E (Ip ok hr hn (fun h=>⟨_,_,_,_,rfl,rfl,?_⟩) (fun h=>⟨_,_,_,_,rfl,rfl,?_⟩)) rfl
 ·rw[if_pos h]at hR
  obtain⟨v,hv,rR⟩:=QV ((unpack xs).drop s.a) n hn
  rw[hv]at hR⊢
  exact h0 v _ rR rfl rfl ⟨ok.xl,ok.xb,by show s.a+n≤_;omega,ok.ll,ok.ol,ok.oc⟩ hR
 ·rw[if_neg h]at hR
  exact h1 hR.symm
theorem ve (E:AH){n:Nat}(he:e≠0)(h0:K (.int .i64 0) (sH lim gr cr xs g c s e++E)):
 aa Try.prog 20 [.ptr 0 0 0,.int .i64 (n:Int)] (sH lim gr cr xs g c s e++E) K Kp:=
 ki E (DJ he ⟨_,_,_,_,rfl,rfl,h0⟩) rfl
theorem zX (E:AH){v:Int}{α:Type}{k:DP α}{R:Except Int (α×DS)}(hR:(DP.uq v k).run (unpack xs) lim s=R)(ok:cZ xs lim c s)(hb:∀x∈s.out,0≤x∧x<256)(hv:0≤v∧v<256)
 (h0:∀g' c' s',s'.out=s.out++[v]→s'.a=s.a→(∀x∈s'.out,0≤x∧x<256)→cZ xs lim c' s'→k.run (unpack xs) lim s'=R→K (.aE []) (sH lim gr cr xs g' c' s' 0++E))
 (h1:R=.error 81→K (.aE []) (sH lim gr cr xs g c s 81++E)):
 aa Try.prog 52 [.ptr 0 0 0,.int .u8 v] (sH lim gr cr xs g c s 0++E) K Kp:=by
 simp only[DP.run]at hR
 refine ki E (DO ok hv (fun g' c' h rQ=>⟨_,_,_,_,rfl,rfl,?_⟩) (fun h=>⟨_,_,_,_,rfl,rfl,?_⟩)) rfl
 ·rw[if_neg h]at hR
  exact h0 g' c' _ rfl rfl (fun x hx=>by
   rcases List.mem_append.1 hx with h2|h2
   ·exact hb x h2
   ·rw[List.mem_singleton.1 h2];exact hv) rQ hR
 ·rw[if_pos h]at hR
  exact h1 hR.symm
theorem Iy (E:AH){v:Int}(he:e≠0)(h0:K (.aE []) (sH lim gr cr xs g c s e++E)):
 aa Try.prog 52 [.ptr 0 0 0,.int .u8 v] (sH lim gr cr xs g c s e++E) K Kp:=
 ki E (BU he ⟨_,_,_,_,rfl,rfl,h0⟩) rfl
theorem bN (E:AH){b:Bool}{v:Int}(h0:K (.aE []) (sH lim gr cr xs g c s (xq b v e)++E)):
 aa Try.prog 26 [.ptr 0 0 0,.bo b,.int .i64 v] (sH lim gr cr xs g c s e++E) K Kp:=
 ki E (kd ⟨_,_,_,_,rfl,rfl,h0⟩) rfl
theorem Iz (E:AH)(i:Nat){gi off c0 co:Nat}{o:Bool}{ls ys:List Int}(hi:E[i]?=some (.one o gi (.ints .u8 ys co)))(hy:ls=(ys.drop off).take ls.length)(hc:off+ls.length≤co)(hl:ls.length≤2000)(hu:∀x∈ls,0≤x∧x<256)
 (h0:∀g' c' cv,(aj ls).length≤c'→K (.sl (E.length+4) g' 0 (aj ls).length c') (sH lim gr cr xs g c s (aB ls)++(E++[.aX true (aj ls).length (bF (aj ls) cv),tO (E.length+3) cv g' c' (aj ls)]))):
 aa Try.prog 24 [.ptr 0 0 0,.sl (i+3) gi off ls.length c0] (sH lim gr cr xs g c s 0++E) K Kp:=by
 refine aa.lift [.own 0,.own 1,.own 2,.cP (i+3) gi off] (tw (ls:=ls) (cl:=ls.length) (c0:=c0) (K:=fun r M=>∃g' c' cv,(aj ls).length≤c'∧r=.sl 5 g' 0 (aj ls).length c'∧M=S3 lim gr cr xs g c s (aB ls) ls ls.length++[.aX true (aj ls).length (bF (aj ls) cv),tO 4 cv g' c' (aj ls)]) (Kp:=fun _ _=>False) hl hu (fun g' c' cv h=>⟨g',c',cv,h,rfl,rfl⟩)) (by simp[AV.mX,AV.rn,sr,uB,uC,TE.i]) rfl
  ⟨⟨rfl,rfl⟩,⟨rfl,rfl⟩,⟨rfl,rfl⟩,⟨_,_,_,rfl,ao (M:=sH lim gr cr xs g c s 0++E) (i:=i+3) hi,cq.ints hc hy⟩,trivial⟩ ⟨rfl,trivial,trivial,trivial,trivial⟩ ?_ (fun _ _ h=>h.elim)
 rintro r M' ⟨g',c',cv,h,rfl,rfl⟩
 refine⟨⟨rfl,rfl,rfl,rfl,rfl⟩,?_⟩
 exact h0 g' c' cv h
theorem sa (E:AH)(i j:Nat){ls:List Int}{cv:Nat→Nat}{d c0 gj:Nat}{ow oT:Bool}{α:Type}{k:Int→DP α}{R:Except Int (α×DS)}(hi:E[i]?=some (.aX ow (aj ls).length (bF (aj ls) cv)))(hj:E[j]?=some (.one oT gj (.cw 2 (aj ls).length (gT (i+3) cv (aj ls)) d)))
 (hR:((pZ (bx (aj ls) [])).bind k).run (unpack xs) lim s=R)(ok:cZ xs lim c s)(hr:(unpack xs).length≤cr)(hl:(aj ls).length≤1000000)(y6:ls.length≤2000)
 (h0:∀(v:Int) s',s'.out=s.out→0≤v∧v<(ls.length:Int)→cZ xs lim c s'→(k v).run (unpack xs) lim s'=R→K (.int .i64 v) (sH lim gr cr xs g c s' 0++E))
 (h1:∀er s',R=.error er→er≠0→cZ xs lim c s'→K (.int .i64 0) (sH lim gr cr xs g c s' er++E)):
 aa Try.prog 53 [.ptr 0 0 0,.sl (j+3) gj 0 (aj ls).length c0] (sH lim gr cr xs g c s 0++E) K Kp:=by
 rw[DP.run_bind]at hR
 refine aa.lift [.own 0,.own 1,.own 2,.dE (i+3),.cP (j+3) gj 0] (zN (ls:=ls) (cv:=cv) (d:=d) (c0:=c0) (K:=fun r M=>∃v s' e',r=.int .i64 v∧M=M5 lim gr cr xs g c s' e' (aj ls) cv d∧K (.int .i64 v) (sH lim gr cr xs g c s' e'++E)) (Kp:=fun _ _=>False) ok hr hl y6
  (fun v s' h rQ=>⟨v,s',0,rfl,rfl,?_⟩) (fun er s' h he rQ=>⟨0,s',er,rfl,rfl,?_⟩)) (by simp[AV.mX,AV.rn,sr,uB,uC,TE.i]) rfl
  ⟨⟨rfl,rfl⟩,⟨rfl,rfl⟩,⟨rfl,rfl⟩,⟨rfl,_,hi,rfl⟩,⟨_,_,_,rfl,ao (M:=sH lim gr cr xs g c s 0++E) (i:=j+3) hj,cq.same rfl (fun h=>h)⟩,trivial⟩ ⟨rfl,trivial,trivial,fun _=>trivial,fun _=>rfl,trivial⟩ ?_ (fun _ _ h=>h.elim)
 ·rw[h]at hR
  exact h0 v s' (nt h) (qU (r9 (N:=ls.length) (Int.natCast_nonneg _) (aj ls) [] (fun t ht=>Int.ofNat_lt.2 (lH ht).1) (fun c n z h=>by cases h)) h) rQ hR
 ·rw[h]at hR
  exact h1 er s' hR.symm he rQ
 ·rintro r M' ⟨v,s',e',rfl,rfl,hk⟩
  refine⟨⟨rfl,rfl,rfl,rfl,rfl,rfl⟩,?_⟩
  rw[←List.append_nil E]at hk
  exact hk
theorem u7 {ts:List bb}{cv:Nat→Nat}{d c0:Nat}(he:e≠0)(h0:K (.int .i64 0) (M5 lim gr cr xs g c s e ts cv d)):
 aa Try.prog 53 [.ptr 0 0 0,.sl 4 0 0 ts.length c0] (M5 lim gr cr xs g c s e ts cv d) K Kp:=by
 refine Kj (fun _=>[0]) [] rfl ?_
 refine Qs ?_
 refine fi (by simpa using he) ?_
 refine Qs ?_
 exact h0
theorem DI (E:AH)(i j:Nat){ts:List bb}{cv:Nat→Nat}{d c0 gj:Nat}{ow oT:Bool}(hi:E[i]?=some (.aX ow ts.length (bF ts cv)))(hj:E[j]?=some (.one oT gj (.cw 2 ts.length (gT (i+3) cv ts) d)))
 (he:e≠0)(h0:K (.int .i64 0) (sH lim gr cr xs g c s e++E)):
 aa Try.prog 53 [.ptr 0 0 0,.sl (j+3) gj 0 ts.length c0] (sH lim gr cr xs g c s e++E) K Kp:=by
 refine aa.lift [.own 0,.own 1,.own 2,.dE (i+3),.cP (j+3) gj 0] (u7 (ts:=ts) (cv:=cv) (d:=d) (c0:=c0) (K:=fun r M=>r=.int .i64 0∧M=M5 lim gr cr xs g c s e ts cv d) (Kp:=fun _ _=>False) he ⟨rfl,rfl⟩) (by simp[AV.mX,AV.rn,sr,uB,uC,TE.i]) rfl
  ⟨⟨rfl,rfl⟩,⟨rfl,rfl⟩,⟨rfl,rfl⟩,⟨rfl,_,hi,rfl⟩,⟨_,_,_,rfl,ao (M:=sH lim gr cr xs g c s e++E) (i:=j+3) hj,cq.same rfl (fun h=>h)⟩,trivial⟩ ⟨rfl,trivial,trivial,fun _=>trivial,fun _=>rfl,trivial⟩ ?_ (fun _ _ h=>h.elim)
 rintro r M' ⟨rfl,rfl⟩
 refine⟨⟨rfl,rfl,rfl,rfl,rfl,rfl⟩,?_⟩
 rw[←List.append_nil E]at h0
 exact h0
end
end Go.Proofs.Ytibadaomjlkoaaa
open Go.RowKit
namespace Go.Proofs.Ytibadaomjlkoaaa
set_option maxRecDepth 10000
theorem PA:∀k,k<28→8≤k→(vU k).2=k/4-1∧(vU k).1=3+(4+k%4)*2^(k/4-1):=by decide+kernel
theorem Pz:∀k,k<8→vU k=(3+k,0):=by decide+kernel
theorem JN:∀k,k<30→4≤k→dR k=k/2-1∧fw k=1+(2+k%2)*2^(k/2-1):=by decide+kernel
theorem JM:∀k,k<4→(fw k,dR k)=(1+k,0):=by decide+kernel
theorem DP.vq {α:Type}{row:List Bool}{lim:Nat}{s:DS}{k:Int→DP α}(h:s.a≤row.length):(DP.get 0 k).run row lim s=(k 0).run row lim s:=by
 rw[DP.run,if_pos (show s.a+0≤row.length from h)];rfl
theorem PC {α:Type}{row:List Bool}{lim:Nat}{s:DS}{F:Int→DP α}{k:Nat}(hk:k<29)(h:s.a≤row.length):
 (((if((257+k:Nat):Int)<285 then(mY (((257+k:Nat):Int)-257).toNat 4).bind fun z=>.ret (3+z)else .ret 258:DP Int).bind F).run row lim s)=(DP.get (vU k).2 fun w=>F (((vU k).1:Int)+w)).run row lim s:=by
 rw[show(((257+k:Nat):Int)-257).toNat=k by omega]
 by_cases h28:k=28
 ·subst h28
  rw[if_neg (by decide),show(vU 28).2=0 from rfl,DP.vq h]
  rfl
 ·rw[if_pos (by omega)]
  unfold mY
  by_cases h8:k<8
  ·rw[if_pos h8,Pz k h8,DP.vq h]
   simp only[DP.bind]
   rw[show(((3+k:Nat):Int)+0)=3+(k:Int) by omega]
  ·obtain⟨e1,e2⟩:=PA k (by omega) (by omega)
   rw[if_neg h8,e1,e2]
   simp only[DP.bind,DP.run]
   split
   ·rw[show(((3+(4+k%4)*2^(k/4-1):Nat):Int))=3+(((4+k%4)*2^(k/4-1):Nat):Int) by rw[Int.natCast_add];rfl,Int.add_assoc]
   ·rfl
theorem Qv {α:Type}{row:List Bool}{lim:Nat}{s:DS}{F:Int→DP α}{k:Nat}(hk:k<30)(h:s.a≤row.length):
 ((mY k 2).bind fun z=>F (1+z)).run row lim s=(DP.get (dR k) fun w=>F ((fw k:Int)+w)).run row lim s:=by
 unfold mY
 by_cases h8:k<4
 ·have e:=JM k h8
  rw[Prod.mk.injEq]at e
  rw[if_pos h8,e.1,e.2,DP.vq h]
  simp only[DP.bind]
  rw[show(((1+k:Nat):Int)+0)=1+(k:Int) by omega]
 ·obtain⟨e1,e2⟩:=JN k (by omega) (by omega)
  rw[if_neg h8,e1,e2]
  simp only[DP.bind,DP.run]
  split
  ·rw[show(((1+(2+k%2)*2^(k/2-1):Nat):Int))=1+(((2+k%2)*2^(k/2-1):Nat):Int) by rw[Int.natCast_add];rfl,Int.add_assoc]
  ·rfl
section
variable{K Kp:AV→AH→Prop}{xs:List Int}{lim gr cr cx g c:Nat}{s:DS}{e:Int}
def wV (A B:List Int)(fA fB:Nat→Nat)(dA dB:Nat):AH:=[.aX false (aj A).length (bF (aj A) fA),.one false 0 (.cw 2 (aj A).length (gT 3 fA (aj A)) dA),.aX false (aj B).length (bF (aj B) fB),.one false 0 (.cw 2 (aj B).length (gT 5 fB (aj B)) dB)]
theorem MB {A B:List Int}{fA fB:Nat→Nat}{dA dB:Nat}:kq 7 (sH lim gr cr xs g c s e++wV A B fA fB dA dB):=⟨by simp[af.nb,AV.qi,AV.nb,AO.nb],trivial,trivial,fun _=>trivial,fun j=>rfl,fun _=>trivial,fun j=>rfl,trivial⟩
theorem DH {A B:List Int}{fA fB:Nat→Nat}{dA dB cA cB:Nat}{f0:Nat}(ok:cZ xs lim c s)(hr:(unpack xs).length≤cr)(hb:∀x∈s.out,0≤x∧x<256)(hA:A.length≤2000)(hB:B.length≤2000)(Uu:(aj A).length≤1000000)(Xr:(aj B).length≤1000000)
 (hf:lim<f0+s.out.length){R:Except Int (Unit×DS)}(hR:(dQ (bx (aj A) []) (bx (aj B) []) f0).run (unpack xs) lim s=R)
 (h0:∀g' c' s',R=.ok ((),s')→cZ xs lim c' s'→(∀x∈s'.out,0≤x∧x<256)→K (.aE []) (sH lim gr cr xs g' c' s' 0++wV A B fA fB dA dB))
 (h1:∀er g' c' s' e',R=.error er→e'≠0→cZ xs lim c' s'→K (.aE []) (sH lim gr cr xs g' c' s' e'++wV A B fA fB dA dB)):
 aa Try.prog 23 [.ptr 0 0 0,.sl 4 0 0 (aj A).length cA,.sl 6 0 0 (aj B).length cB] (sH lim gr cr xs g c s 0++wV A B fA fB dA dB) K Kp:=by
 have uh:=aL xs
 refine zK (fun _=>[0,2]) [] rfl ?_
 refine Qs ?_
 refine WO.go (σ:=Nat×Nat×Nat×DS×Int) (fun(f,g,c,s,e)=>cZ xs lim c s∧((e=0∧(∀x∈s.out,0≤x∧x<256)∧lim<f+s.out.length∧(dQ (bx (aj A) []) (bx (aj B) []) f).run (unpack xs) lim s=R)∨(e≠0∧∃er,R=.error er)))
  (fun(f,g,c,s,e)=>if e=0 then lim-s.out.length+1 else 0)
  (fun _=>[(0,.ptr 0 0 0),(1,.sl 4 0 0 (aj A).length cA),(2,.sl 6 0 0 (aj B).length cB)]) (fun(f,g,c,s,e)=>sH lim gr cr xs g c s e++wV A B fA fB dA dB) (f0,g,c,s,0) ae mixed (by kernel_rfl) ⟨ok,.inl ⟨rfl,hb,hf,hR⟩⟩ (aI rfl (aI rfl (aI rfl (trivial)))) (aI rfl (aI rfl (aI rfl (aI rfl (aI rfl (aI rfl (aI rfl (trivial)))))))) (fun _=>rfl) (fun _=>rfl) (fun _=>MB) ?_
 rintro⟨f,g,c,s,e⟩ ⟨ok,he⟩ d0
 rcases he with⟨he,hb,hf,hR⟩|⟨he,er,hE⟩
 rotate_left
 ·refine Qs ?_
  refine mG (decide_eq_false he) ?_
  refine Qs ?_
  exact h1 er g c s e hE he ok
 subst he
 have Jg:=ok.ol
 have W9:=ok.al
 obtain⟨f,rfl⟩:∃f',f=f'+1:=⟨f-1,by omega⟩
 rw[dQ]at hR
 refine Qs ?_
 refine sa (wV A B fA fB dA dB) 0 1 rfl rfl hR ok hr Uu hA (fun v s1 ho hv mZ hR=>?_) (fun er s1 hE he mZ=>?_)
 rotate_left
 ·refine Qs ?_
  refine fi (by simpa using he) ?_
  refine Qs ?_
  exact h1 er g c s1 er hE he mZ
 have rJ:∀x∈s1.out,0≤x∧x<256:=by rw[ho];exact hb
 refine Qs ?_
 refine And.intro (fun q1=>?_) (fun q1=>?_)
 ·have q1:v=256:=of_decide_eq_true q1
  rw[if_neg (by omega),if_pos q1]at hR
  refine Qs ?_
  exact h0 g c s1 hR.symm mZ rJ
 have q1:v≠256:=of_decide_eq_false q1
 refine Qs ?_
 refine And.intro (fun q2=>?_) (fun q2=>?_)
 ·have q2:v<256:=of_decide_eq_true q2
  rw[if_pos q2]at hR
  have e1:v%256=v:=Int.emod_eq_of_lt hv.1 q2
  refine Qs ?_
  rw[e1]
  refine zX (wV A B fA fB dA dB) hR mZ rJ ⟨hv.1,q2⟩ (fun g2 c2 s2 rT qJ gm iw hR=>?_) (fun hE=>?_)
  ·have o8:s2.out.length=s.out.length+1:=by rw[rT,ho,List.length_append];rfl
   have aaW:=iw.ol
   refine Qs ?_
   refine RO.same (f,g2,c2,s2,0) ⟨iw,.inl ⟨rfl,gm,by omega,hR⟩⟩ ?_ (aI rfl (aI rfl (aI rfl (trivial)))) (aI rfl (aI rfl (aI rfl (aI rfl (aI rfl (aI rfl (aI rfl (trivial))))))))
   show(if(0:Int)=0 then lim-s2.out.length+1 else 0)<(if(0:Int)=0 then lim-s.out.length+1 else 0)
   rw[if_pos rfl,if_pos rfl];omega
  ·refine Qs ?_
   refine RO.same (f,g,c,s1,81) ⟨mZ,.inr ⟨by decide,81,hE⟩⟩ ?_ (aI rfl (aI rfl (aI rfl (trivial)))) (aI rfl (aI rfl (aI rfl (aI rfl (aI rfl (aI rfl (aI rfl (trivial))))))))
   show(if(81:Int)=0 then lim-s1.out.length+1 else 0)<(if(0:Int)=0 then lim-s.out.length+1 else 0)
   rw[if_neg (by decide),if_pos rfl];omega
 have q2:¬v<256:=of_decide_eq_false q2
 rw[if_neg q2,if_neg q1]at hR
 refine Qs ?_
 refine bN (wV A B fA fB dA dB) (b:=decide (285<v)) (v:=80) (e:=0) ?_
 by_cases q3:285<v
 ·rw[if_pos q3]at hR
  rw[show xq (decide (285<v)) 80 0=80 from if_pos ⟨decide_eq_true q3,rfl⟩]
  refine Qs ?_
  exact h1 80 g c s1 80 hR.symm (by decide) mZ
 rw[if_neg q3]at hR
 rw[show xq (decide (285<v)) 80 0=0 from if_neg (fun x=>q3 (of_decide_eq_true x.1))]
 obtain⟨k,hk⟩:∃k:Nat,v=((257+k:Nat):Int):=⟨(v-257).toNat,by omega⟩
 subst hk
 have P6:k<29:=by omega
 have bh:=Tp k P6
 rw[PC P6 (by have:=mZ.al;omega)]at hR
 refine Qs ?_
 refine Qy rfl P6 ?_
 refine Qs ?_
 refine p6 (wV A B fA fB dA dB) hR mZ hr (by omega) (fun w s2 hw rT qJ iw hR=>?_) (fun hE=>?_)
 rotate_left
 ·refine Qs ?_
  refine DI (wV A B fA fB dA dB) 2 3 rfl rfl (e:=50) (by decide) ?_
  refine Qs ?_
  refine bN (wV A B fA fB dA dB) (b:=decide ((29:Int)<0)) (v:=80) (e:=50) ?_
  rw[show xq (decide ((29:Int)<0)) 80 50=50 from rfl]
  refine Qs ?_
  exact h1 50 g c s1 50 hE (by decide) mZ
 obtain⟨N,hN⟩:∃N:Nat,(vU k).1+w=N:=⟨_,rfl⟩
 have Va:((vU k).1:Int)+(w:Int)=(N:Int):=by omega
 have hNl:3≤N∧N≤400:=by
  have h3:=(lE k P6).1
  have h4:3≤(vU k).1:=by unfold vU;split;decide;exact h3
  have h5:(2:Nat)^(vU k).2≤2^6:=Nat.pow_le_pow_right (by decide) bh.2
  omega
 have gm:∀x∈s2.out,0≤x∧x<256:=by rw[rT];exact rJ
 rw[Va]at hR
 refine Qs ?_
 refine sa (wV A B fA fB dA dB) 2 3 rfl rfl hR iw hr Xr hB (fun y s3 qF hy iV hR=>?_) (fun er s3 hE he iV=>?_)
 rotate_left
 ·refine Qs ?_
  refine bN (wV A B fA fB dA dB) (b:=decide ((29:Int)<0)) (v:=80) (e:=er) ?_
  rw[show xq (decide ((29:Int)<0)) 80 er=er from if_neg (fun x=>absurd x.1 (by decide))]
  refine Qs ?_
  refine fi (by simpa using he) ?_
  refine Qs ?_
  exact h1 er g c s3 er hE he iV
 have AL:∀x∈s3.out,0≤x∧x<256:=by rw[qF];exact gm
 refine Qs ?_
 refine bN (wV A B fA fB dA dB) (b:=decide (29<y)) (v:=80) (e:=0) ?_
 by_cases q4:29<y
 ·rw[if_pos q4]at hR
  rw[show xq (decide (29<y)) 80 0=80 from if_pos ⟨decide_eq_true q4,rfl⟩]
  refine Qs ?_
  exact h1 80 g c s3 80 hR.symm (by decide) iV
 rw[if_neg q4]at hR
 rw[show xq (decide (29<y)) 80 0=0 from if_neg (fun x=>q4 (of_decide_eq_true x.1))]
 obtain⟨j,hj⟩:∃j:Nat,y=(j:Int):=⟨y.toNat,by omega⟩
 subst hj
 have T7:j<30:=by omega
 have hbd:=oh j T7
 rw[Int.toNat_natCast,Qv (F:=fun z=>DP.AW z ((jz z.toNat (N:Int).toNat).bind fun _=>dQ (bx (aj A) []) (bx (aj B) []) f)) T7 (by have:=iV.al;omega)]at hR
 refine Qs ?_
 refine Qn T7 ?_
 refine Qs ?_
 refine p6 (wV A B fA fB dA dB) hR iV hr (by omega) (fun w2 s4 hw2 Ez ha4 uf hR=>?_) (fun hE=>?_)
 rotate_left
 ·refine Qs ?_
  refine bN (wV A B fA fB dA dB) (b:=decide ((s3.out.length:Int)<(fw j:Int)+0)) (v:=70) (e:=50) ?_
  rw[show xq (decide ((s3.out.length:Int)<(fw j:Int)+0)) 70 50=50 from if_neg (fun x=>absurd x.2 (by decide))]
  refine Qs ?_
  refine WO.rounds 1 ae mixed (by kernel_rfl) ?_
  refine Qs ?_
  refine fi (decide_eq_true (show(0:Int)<((vU k).1:Int)+(w:Int) by omega)) ?_
  refine Qs ?_
  refine RO.same (f,g,c,s3,50) ⟨iV,.inr ⟨by decide,50,hE⟩⟩ ?_ (aI rfl (aI rfl (aI rfl (trivial)))) (aI rfl (aI rfl (aI rfl (aI rfl (aI rfl (aI rfl (aI rfl (trivial))))))))
  show(if(50:Int)=0 then lim-s3.out.length+1 else 0)<(if(0:Int)=0 then lim-s.out.length+1 else 0)
  rw[if_neg (by decide),if_pos rfl];omega
 obtain⟨D,hD⟩:∃D:Nat,fw j+w2=D:=⟨_,rfl⟩
 have Us:(fw j:Int)+(w2:Int)=(D:Int):=by omega
 have Rm:1≤D∧D≤100000:=by
  have h5:(2:Nat)^dR j≤2^14:=Nat.pow_le_pow_right (by decide) hbd.2.2
  omega
 have Zx:∀x∈s4.out,0≤x∧x<256:=by rw[Ez];exact AL
 have hl4:s4.out.length=s.out.length:=by rw[Ez,qF,rT,ho]
 rw[Us]at hR
 simp only[DP.run]at hR
 have Ww:=uf.ol
 refine Qs ?_
 refine bN (wV A B fA fB dA dB) (b:=decide ((s4.out.length:Int)<(fw j:Int)+(w2:Int))) (v:=70) (e:=0) ?_
 rw[Us]
 by_cases q5:(s4.out.length:Int)<(D:Int)
 ·rw[if_pos q5]at hR
  rw[show xq (decide ((s4.out.length:Int)<(D:Int))) 70 0=70 from if_pos ⟨decide_eq_true q5,rfl⟩]
  refine Qs ?_
  refine WO.rounds 1 ae mixed (by kernel_rfl) ?_
  refine Qs ?_
  refine fi (decide_eq_true (show(0:Int)<((vU k).1:Int)+(w:Int) by omega)) ?_
  refine Qs ?_
  refine RO.same (f,g,c,s4,70) ⟨uf,.inr ⟨by decide,70,hR.symm⟩⟩ ?_ (aI rfl (aI rfl (aI rfl (trivial)))) (aI rfl (aI rfl (aI rfl (aI rfl (aI rfl (aI rfl (aI rfl (trivial))))))))
  show(if(70:Int)=0 then lim-s4.out.length+1 else 0)<(if(0:Int)=0 then lim-s.out.length+1 else 0)
  rw[if_neg (by decide),if_pos rfl];omega
 rw[if_neg q5,Int.toNat_natCast,Int.toNat_natCast]at hR
 rw[show xq (decide ((s4.out.length:Int)<(D:Int))) 70 0=0 from if_neg (fun x=>q5 (of_decide_eq_true x.1))]
 refine Qs ?_
 refine WO.go (σ:=Nat×Nat×Nat×DS×Int) (fun(i,g,c,s5,e)=>i≤N∧cZ xs lim c s5∧((e=0∧(∀x∈s5.out,0≤x∧x<256)∧s5.out.length=s.out.length+i∧((jz D (N-i)).bind fun _=>dQ (bx (aj A) []) (bx (aj B) []) f).run (unpack xs) lim s5=R)∨(e≠0∧∃er,R=.error er)))
  (fun(i,_)=>N-i)
  (fun(i,_)=>[(0,.ptr 0 0 0),(1,.sl 4 0 0 (aj A).length cA),(2,.sl 6 0 0 (aj B).length cB),(7,.int .i64 (N:Int)),(10,.int .i64 (D:Int)),(12,.int .i64 (i:Int))]) (fun(i,g,c,s,e)=>sH lim gr cr xs g c s e++wV A B fA fB dA dB) (0,g,c,s4,0) ae mixed (by kernel_rfl)
  ⟨Nat.zero_le _,uf,.inl ⟨rfl,Zx,hl4,hR⟩⟩ (aI rfl (aI rfl (aI rfl (aI (congrArg (AV.int .i64) Va) (aI rfl (aI rfl trivial)))))) (aI rfl (aI rfl (aI rfl (aI rfl (aI rfl (aI rfl (aI rfl (trivial)))))))) (fun _=>rfl) (fun _=>rfl) (fun _=>MB) ?_
 rintro⟨i,g5,c5,s5,e5⟩ ⟨hi,py,xO⟩ d5
 refine Qs ?_
 refine And.intro (fun r1=>?_) (fun r1=>?_)
 ·have r1:i<N:=by have r1:(i:Int)<(N:Int):=of_decide_eq_true r1;omega
  rcases xO with⟨xO,EG,P3,nc⟩|⟨xO,er,hE⟩
  rotate_left
  ·refine Qs ?_
   refine mG (decide_eq_false xO) ?_
   refine Qs ?_
   refine RO.same (f,g5,c5,s5,e5) ⟨py,.inr ⟨xO,er,hE⟩⟩ ?_ (aI rfl (aI rfl (aI rfl (trivial)))) (aI rfl (aI rfl (aI rfl (aI rfl (aI rfl (aI rfl (aI rfl (trivial))))))))
   show(if e5=0 then lim-s5.out.length+1 else 0)<(if(0:Int)=0 then lim-s.out.length+1 else 0)
   rw[if_neg xO,if_pos rfl];omega
  subst xO
  rw[show N-i=(N-(i+1))+1 by omega,jz]at nc
  simp only[DP.bind]at nc
  rw[DP.run,if_neg (by omega)]at nc
  have eix:(s5.out.length:Int)-(D:Int)=((s5.out.length-D:Nat):Int):=by omega
  have W7:0≤s5.out.getD (s5.out.length-D) 0∧s5.out.getD (s5.out.length-D) 0<256:=sX EG (by omega)
  have LM:=py.ol
  have aaX:=py.oc
  have aa0:=py.ll
  have aaE:((s5.out.length:Int)-(D:Int)).toNat+0=s5.out.length-D:=by omega
  rw[←aaE]at nc W7
  refine Qs ?_
  refine zX (wV A B fA fB dA dB) (v:=s5.out.getD (((s5.out.length:Int)-(D:Int)).toNat+0) 0) nc py EG W7 (fun g6 c6 s6 UZ ha6 Rg K2 hR6=>?_) (fun hE=>?_)
  ·have hl6:s6.out.length=s.out.length+(i+1):=by rw[UZ,List.length_append,List.length_singleton];omega
   refine Qs ?_
   refine RO.same (i+1,g6,c6,s6,0) ⟨r1,K2,.inl ⟨rfl,Rg,hl6,hR6⟩⟩ (show N-(i+1)<N-i by omega) (aI rfl (aI rfl (aI rfl (aI rfl (aI rfl (aI rfl (trivial))))))) (aI rfl (aI rfl (aI rfl (aI rfl (aI rfl (aI rfl (aI rfl (trivial))))))))
  ·refine Qs ?_
   refine RO.same (i+1,g5,c5,s5,81) ⟨r1,py,.inr ⟨by decide,81,hE⟩⟩ (show N-(i+1)<N-i by omega) (aI rfl (aI rfl (aI rfl (aI rfl (aI rfl (aI rfl (trivial))))))) (aI rfl (aI rfl (aI rfl (aI rfl (aI rfl (aI rfl (aI rfl (trivial))))))))
 ·have r1:i=N:=by have r1:¬(i:Int)<(N:Int):=of_decide_eq_false r1;omega
  subst r1
  rcases xO with⟨xO,EG,P3,nc⟩|⟨xO,er,hE⟩
  ·subst xO
   rw[Nat.sub_self]at nc
   have LM:=py.ol
   refine Qs ?_
   refine RO.same (f,g5,c5,s5,0) ⟨py,.inl ⟨rfl,EG,by omega,nc⟩⟩ ?_ (aI rfl (aI rfl (aI rfl (trivial)))) (aI rfl (aI rfl (aI rfl (aI rfl (aI rfl (aI rfl (aI rfl (trivial))))))))
   show(if(0:Int)=0 then lim-s5.out.length+1 else 0)<(if(0:Int)=0 then lim-s.out.length+1 else 0)
   rw[if_pos rfl,if_pos rfl];omega
  ·refine Qs ?_
   refine RO.same (f,g5,c5,s5,e5) ⟨py,.inr ⟨xO,er,hE⟩⟩ ?_ (aI rfl (aI rfl (aI rfl (trivial)))) (aI rfl (aI rfl (aI rfl (aI rfl (aI rfl (aI rfl (aI rfl (trivial))))))))
   show(if e5=0 then lim-s5.out.length+1 else 0)<(if(0:Int)=0 then lim-s.out.length+1 else 0)
   rw[if_neg xO,if_pos rfl];omega
end
end Go.Proofs.Ytibadaomjlkoaaa
open Go.RowKit
namespace Go.Proofs.Ytibadaomjlkoaaa
set_option maxRecDepth 10000
section
variable{K Kp:AV→AH→Prop}{xs:List Int}{lim gr cr cx g c:Nat}{s:DS}{e:Int}
def QK (iR iO lim gr cr:Nat)(xs:List Int)(g c:Nat)(s:DS)(e:Int):AO:=.one true 0 (.cells [.sl iR gr 0 (unpack xs).length cr,.int .i64 (s.a:Int),.sl iO g 0 s.out.length c,.int .i64 (lim:Int),.int .i64 e])
def SZ (gr cr:Nat)(xs:List Int):AO:=.one true gr (.ax (unpack xs) cr)
def S0 (g c:Nat)(s:DS):AO:=.one true g (.ints .u8 s.out c)
def Kq (iS iR iO lim gr cr:Nat)(xs:List Int)(g c:Nat)(s:DS)(e:Int)(M:AH):AH:=((M.set iS (QK iR iO lim gr cr xs g c s e)).set iR (SZ gr cr xs)).set iO (S0 g c s)
theorem zY {M:AH}{f iS iR iO:Nat}{l:List AV}(hS:M[iS]?=some (QK iR iO lim gr cr xs g c s e))(hR:M[iR]?=some (SZ gr cr xs))(hO:M[iO]?=some (S0 g c s))
 (h:aa Try.prog f (.ptr 0 0 0::l) (sH lim gr cr xs g c s e) (fun r M'=>∃g' c' s' e',M'=sH lim gr cr xs g' c' s' e'∧(∀t m,r.rn t m=r)∧K r (Kq iS iR iO lim gr cr xs g' c' s' e' M)) (fun _ _=>False))
 (hl:∀t m,AV.mX t m l=l)(lN:(bu [.own iS,.own iR,.own iO]&&AV.nq [.own iS,.own iR,.own iO] (.ptr 0 0 0::l))=true):
 aa Try.prog f (.ptr iS 0 0::l) M K Kp:=by
 refine aa.lift [.own iS,.own iR,.own iO] h (by show AV.ptr iS 0 0::AV.mX [.own iS,.own iR,.own iO] M.length l=_;rw[hl]) lN ⟨⟨hS,rfl⟩,⟨hR,rfl⟩,⟨hO,rfl⟩,trivial⟩ ⟨rfl,trivial,trivial,trivial⟩ ?_ (fun _ _ h=>h.elim)
 rintro r M' ⟨g',c',s',e',rfl,h1,h2⟩
 refine⟨⟨rfl,rfl,rfl,rfl⟩,?_⟩
 rw[h1]
 rw[←List.append_nil (Kq iS iR iO lim gr cr xs g' c' s' e' M)]at h2
 exact h2
theorem vo {M:AH}{iS iR iO iL gi off c0 co n:Nat}{o:Bool}{ls ys:List Int}(hS:M[iS]?=some (QK iR iO lim gr cr xs g c s 0))(hR:M[iR]?=some (SZ gr cr xs))(hO:M[iO]?=some (S0 g c s))(hi:M[iL]?=some (.one o gi (.ints .u8 ys co)))(hn:n=ls.length)
 (hy:ls=(ys.drop off).take ls.length)(hc:off+ls.length≤co)(hl:ls.length≤2000)(hu:∀x∈ls,0≤x∧x<256)(lN:(bu [.own iS,.own iR,.own iO,.cP iL gi off]&&AV.nq [.own iS,.own iR,.own iO,.cP iL gi off] [.ptr 0 0 0,.sl 3 0 0 n c0])=true)
 (h0:∀g' c' cv,(aj ls).length≤c'→K (.sl (M.length+1) g' 0 (aj ls).length c') (Kq iS iR iO lim gr cr xs g c s (aB ls) M++[.aX true (aj ls).length (bF (aj ls) cv),tO M.length cv g' c' (aj ls)])):
 aa Try.prog 24 [.ptr iS 0 0,.sl iL gi off n c0] M K Kp:=by
 subst hn
 refine aa.lift [.own iS,.own iR,.own iO,.cP iL gi off] (tw (ls:=ls) (cl:=ls.length) (c0:=c0) (K:=fun r M=>∃g' c' cv,(aj ls).length≤c'∧r=.sl 5 g' 0 (aj ls).length c'∧M=S3 lim gr cr xs g c s (aB ls) ls ls.length++[.aX true (aj ls).length (bF (aj ls) cv),tO 4 cv g' c' (aj ls)]) (Kp:=fun _ _=>False) hl hu (fun g' c' cv h=>⟨g',c',cv,h,rfl,rfl⟩)) (by simp[AV.mX,AV.rn,sr,uB,uC,TE.i]) lN
  ⟨⟨hS,rfl⟩,⟨hR,rfl⟩,⟨hO,rfl⟩,⟨_,_,_,rfl,ao hi,cq.ints hc hy⟩,trivial⟩ ⟨rfl,trivial,trivial,trivial,trivial⟩ ?_ (fun _ _ h=>h.elim)
 rintro r M' ⟨g',c',cv,h,rfl,rfl⟩
 refine⟨⟨rfl,rfl,rfl,rfl,rfl⟩,?_⟩
 exact h0 g' c' cv h
theorem yi {M:AH}{iS iR iO a1 a2 b1 b2 gA gB:Nat}{o1 o2 o3 o4:Bool}{A B:List Int}{fA fB:Nat→Nat}{dA dB cA cB:Nat}{f0:Nat}(hS:M[iS]?=some (QK iR iO lim gr cr xs g c s 0))(hR:M[iR]?=some (SZ gr cr xs))(hO:M[iO]?=some (S0 g c s))
 (Uu:M[a1]?=some (.aX o1 (aj A).length (bF (aj A) fA)))(Qf:M[a2]?=some (.one o2 gA (.cw 2 (aj A).length (gT a1 fA (aj A)) dA)))(Xr:M[b1]?=some (.aX o3 (aj B).length (bF (aj B) fB)))(Rn:M[b2]?=some (.one o4 gB (.cw 2 (aj B).length (gT b1 fB (aj B)) dB)))
 (lN:(bu [.own iS,.own iR,.own iO,.dE a1,.cP a2 gA 0,.dE b1,.cP b2 gB 0]&&AV.nq [.own iS,.own iR,.own iO,.dE a1,.cP a2 gA 0,.dE b1,.cP b2 gB 0] [.ptr 0 0 0,.sl 4 0 0 (aj A).length cA,.sl 6 0 0 (aj B).length cB])=true)
 (ok:cZ xs lim c s)(hr:(unpack xs).length≤cr)(hb:∀x∈s.out,0≤x∧x<256)(hA:A.length≤2000)(hB:B.length≤2000)(Nl:(aj A).length≤1000000)(hBl:(aj B).length≤1000000)
 (hf:lim<f0+s.out.length){R:Except Int (Unit×DS)}(hE:(dQ (bx (aj A) []) (bx (aj B) []) f0).run (unpack xs) lim s=R)
 (h0:∀g' c' s',R=.ok ((),s')→cZ xs lim c' s'→(∀x∈s'.out,0≤x∧x<256)→K (.aE []) (Kq iS iR iO lim gr cr xs g' c' s' 0 M))
 (h1:∀er g' c' s' e',R=.error er→e'≠0→cZ xs lim c' s'→K (.aE []) (Kq iS iR iO lim gr cr xs g' c' s' e' M)):
 aa Try.prog 23 [.ptr iS 0 0,.sl a2 gA 0 (aj A).length cA,.sl b2 gB 0 (aj B).length cB] M K Kp:=by
 refine aa.lift [.own iS,.own iR,.own iO,.dE a1,.cP a2 gA 0,.dE b1,.cP b2 gB 0] (DH (fA:=fA) (fB:=fB) (dA:=dA) (dB:=dB) (cA:=cA) (cB:=cB) (K:=fun r M'=>∃g' c' s' e',r=.aE []∧M'=sH lim gr cr xs g' c' s' e'++wV A B fA fB dA dB∧K (.aE []) (Kq iS iR iO lim gr cr xs g' c' s' e' M)) (Kp:=fun _ _=>False) ok hr hb hA hB Nl hBl hf hE
  (fun g' c' s' q1 q2 q3=>⟨g',c',s',0,rfl,rfl,h0 g' c' s' q1 q2 q3⟩) (fun er g' c' s' e' q1 q2 q3=>⟨g',c',s',e',rfl,rfl,h1 er g' c' s' e' q1 q2 q3⟩)) (by simp[AV.mX,AV.rn,sr,uB,uC,TE.i]) lN
  ⟨⟨hS,rfl⟩,⟨hR,rfl⟩,⟨hO,rfl⟩,⟨rfl,_,Uu,rfl⟩,⟨_,_,_,rfl,ao Qf,cq.same rfl (fun h=>h)⟩,⟨rfl,_,Xr,rfl⟩,⟨_,_,_,rfl,ao Rn,cq.same rfl (fun h=>h)⟩,trivial⟩ ⟨rfl,trivial,trivial,fun _=>trivial,fun _=>rfl,fun _=>trivial,fun _=>rfl,trivial⟩ ?_ (fun _ _ h=>h.elim)
 rintro r M' ⟨g',c',s',e',rfl,rfl,hk⟩
 refine⟨⟨rfl,rfl,rfl,rfl,rfl,rfl,rfl,rfl⟩,?_⟩
 rw[←List.append_nil (Kq iS iR iO lim gr cr xs g' c' s' e' M)]at hk
 exact hk
theorem BJ {a b:AV}(he:e≠0)(h0:K (.aE []) (sH lim gr cr xs g c s e)):
 aa Try.prog 23 [.ptr 0 0 0,a,b] (sH lim gr cr xs g c s e) K Kp:=by
 refine zK (fun _=>[0,2]) [] rfl ?_
 refine Qs ?_
 refine WO.rounds 1 ae mixed (by kernel_rfl) ?_
 refine Qs ?_
 refine mG (decide_eq_false he) ?_
 refine Qs ?_
 exact h0
theorem pk:∀i,i<288→bG.take (i+1)=bG.take i++[if 143<i∧i<256 then(if 255<i∧i<280 then 7 else 9)else if 255<i∧i<280 then 7 else 8]:=by decide+kernel
theorem BT (h:∀g1 c1 g2 c2,288≤c1→32≤c2→K (.aE [.sl 0 g1 0 288 c1,.sl 1 g2 0 32 c2]) [.one true g1 (.ints .u8 bG c1),.one true g2 (.ints .u8 dC c2)]):aa Try.prog 22 [] [] K Kp:=by
 refine aa.k8 ?_
 refine SS (fun _=>[]) [] rfl ?_
 refine Qs ?_
 refine WO.Dv (σ:=Nat×Nat×Nat) (fun(i,g,c)=>i≤288∧i≤c) (fun(i,_)=>288-i) (fun(i,g,c)=>[(2,.sl 0 g 0 i c),(3,.ns),(4,.int .i64 (i:Int))]) (fun(i,g,c)=>[.one true g (.ints .u8 (bG.take i) c)]) (0,0,0) ae mixed (by kernel_rfl)
  [(2,.ns),(3,.ns),(4,.int .i64 ((0:Nat):Int))] _ ⟨Nat.zero_le _,Nat.le_refl _⟩ (aI rfl (aI rfl (aI rfl (trivial)))) rfl (Vw.pz (x:=.ints .u8 [] 0) ⟨rfl,rfl⟩ (And.intro (.inr ⟨rfl,rfl⟩) (And.intro (.inl rfl) (And.intro (.inl rfl) trivial)))) (aI rfl (trivial)) (fun _=>rfl) (fun _=>rfl) (fun _=>⟨trivial,trivial⟩) ?_
 rintro⟨i,g,c⟩ ⟨hi,hc⟩ d
 have y9:(bG.take i).length=i:=by rw[List.length_take];show min i 288=i;omega
 rcases Nat.lt_or_ge i 288 with hq|hq
 ·rcases Nat.lt_or_ge i 144 with q1|q1
  ·
   refine Qs ?_
   refine fi (decide_eq_true (show(i:Int)<288 by omega)) ?_
   refine Qs ?_
   refine mG (decide_eq_false (show¬(143:Int)<(i:Int) by omega)) ?_
   refine Qs ?_
   refine mG (decide_eq_false (show¬(255:Int)<(i:Int) by omega)) ?_
   have ev:bG.take (i+1)=bG.take i++[(8:Int)]:=by rw[pk i hq];rw[if_neg (by omega),if_neg (by omega)]
   refine Qs ?_
   intro zs dk
   obtain rfl:zs=[(8:Int)]:=by rw[dk];rfl
   refine Qs ?_
   intro c4 jM
   refine Qs ?_
   refine RO.same (i+1,g+1,c4) ⟨hq,jM⟩ (Nat.sub_lt_sub_left hq (Nat.lt_succ_self i)) (aI rfl (aI rfl (aI rfl trivial))) (aI (congrArg (fun l=>AO.one true (g+1) (.ints .u8 l c4)) ev) trivial)
  ·rcases Nat.lt_or_ge i 256 with q2|q2
   ·
    refine Qs ?_
    refine fi (decide_eq_true (show(i:Int)<288 by omega)) ?_
    refine Qs ?_
    refine fi (decide_eq_true (show(143:Int)<(i:Int) by omega)) ?_
    refine Qs ?_
    refine fi (decide_eq_true (show(i:Int)<256 by omega)) ?_
    refine Qs ?_
    refine mG (decide_eq_false (show¬(255:Int)<(i:Int) by omega)) ?_
    have ev:bG.take (i+1)=bG.take i++[(9:Int)]:=by rw[pk i hq];rw[if_pos ⟨by omega,by omega⟩,if_neg (by omega)]
    refine Qs ?_
    intro zs dk
    obtain rfl:zs=[(9:Int)]:=by rw[dk];rfl
    refine Qs ?_
    intro c4 jM
    refine Qs ?_
    refine RO.same (i+1,g+1,c4) ⟨hq,jM⟩ (Nat.sub_lt_sub_left hq (Nat.lt_succ_self i)) (aI rfl (aI rfl (aI rfl trivial))) (aI (congrArg (fun l=>AO.one true (g+1) (.ints .u8 l c4)) ev) trivial)
   ·rcases Nat.lt_or_ge i 280 with q3|q3
    ·
     refine Qs ?_
     refine fi (decide_eq_true (show(i:Int)<288 by omega)) ?_
     refine Qs ?_
     refine fi (decide_eq_true (show(143:Int)<(i:Int) by omega)) ?_
     refine Qs ?_
     refine mG (decide_eq_false (show¬(i:Int)<256 by omega)) ?_
     refine Qs ?_
     refine fi (decide_eq_true (show(255:Int)<(i:Int) by omega)) ?_
     refine Qs ?_
     refine fi (decide_eq_true (show(i:Int)<280 by omega)) ?_
     have ev:bG.take (i+1)=bG.take i++[(7:Int)]:=by rw[pk i hq];rw[if_neg (by omega),if_pos ⟨by omega,by omega⟩]
     refine Qs ?_
     intro zs dk
     obtain rfl:zs=[(7:Int)]:=by rw[dk];rfl
     refine Qs ?_
     intro c4 jM
     refine Qs ?_
     refine RO.same (i+1,g+1,c4) ⟨hq,jM⟩ (Nat.sub_lt_sub_left hq (Nat.lt_succ_self i)) (aI rfl (aI rfl (aI rfl trivial))) (aI (congrArg (fun l=>AO.one true (g+1) (.ints .u8 l c4)) ev) trivial)
    ·
     refine Qs ?_
     refine fi (decide_eq_true (show(i:Int)<288 by omega)) ?_
     refine Qs ?_
     refine fi (decide_eq_true (show(143:Int)<(i:Int) by omega)) ?_
     refine Qs ?_
     refine mG (decide_eq_false (show¬(i:Int)<256 by omega)) ?_
     refine Qs ?_
     refine fi (decide_eq_true (show(255:Int)<(i:Int) by omega)) ?_
     refine Qs ?_
     refine mG (decide_eq_false (show¬(i:Int)<280 by omega)) ?_
     have ev:bG.take (i+1)=bG.take i++[(8:Int)]:=by rw[pk i hq];rw[if_neg (by omega),if_neg (by omega)]
     refine Qs ?_
     intro zs dk
     obtain rfl:zs=[(8:Int)]:=by rw[dk];rfl
     refine Qs ?_
     intro c4 jM
     refine Qs ?_
     refine RO.same (i+1,g+1,c4) ⟨hq,jM⟩ (Nat.sub_lt_sub_left hq (Nat.lt_succ_self i)) (aI rfl (aI rfl (aI rfl trivial))) (aI (congrArg (fun l=>AO.one true (g+1) (.ints .u8 l c4)) ev) trivial)
 ·obtain rfl:i=288:=by omega
  have aaG:bG.take 288=bG:=by decide+kernel
  refine Qs ?_
  rw[aaG]
  refine WO.Dv (σ:=Nat×Nat×Nat) (fun(i,g,c)=>i≤32∧i≤c) (fun(i,_)=>32-i) (fun(i,g2,c2)=>[(2,.sl 0 g 0 288 c),(3,.sl 1 g2 0 i c2),(6,.int .i64 (i:Int))]) (fun(i,g2,c2)=>[.one true g (.ints .u8 bG c),.one true g2 (.ints .u8 (List.replicate i 5) c2)]) (0,0,0) ae mixed (by kernel_rfl)
   [(2,.sl 0 g 0 288 c),(3,.ns),(6,.int .i64 ((0:Nat):Int))] _ ⟨Nat.zero_le _,Nat.le_refl _⟩ (aI rfl (aI rfl (aI rfl (trivial)))) rfl (Vw.pz (x:=.ints .u8 [] 0) ⟨rfl,rfl⟩ (And.intro (.inl rfl) (And.intro (.inr ⟨rfl,rfl⟩) (And.intro (.inl rfl) trivial)))) (aI rfl (aI rfl (trivial))) (fun _=>rfl) (fun _=>rfl) (fun _=>⟨trivial,trivial,trivial⟩) ?_
  rintro⟨i,g2,c2⟩ ⟨hi,JY⟩ d
  have y9:(List.replicate i (5:Int)).length=i:=List.length_replicate
  rcases Nat.lt_or_ge i 32 with hq|hq
  ·refine Qs ?_
   refine fi (decide_eq_true (show(i:Int)<32 by omega)) ?_
   refine Qs ?_
   intro zs dk
   obtain rfl:zs=[5]:=by rw[dk];rfl
   refine Qs ?_
   intro c4 jM
   refine Qs ?_
   refine RO.same (i+1,g2+1,c4) ⟨hq,jM⟩ (Nat.sub_lt_sub_left hq (Nat.lt_succ_self i)) (aI rfl (aI rfl (aI rfl trivial))) (aI rfl (aI (congrArg (fun l=>AO.one true (g2+1) (.ints .u8 l c4)) (List.replicate_succ' (n:=i) (a:=(5:Int)))) trivial))
  ·obtain rfl:i=32:=by omega
   refine Qs ?_
   exact⟨[.one true g (.ints .u8 bG c),.one true g2 (.ints .u8 dC c2)],aI rfl (aI rfl (cU _)),⟨trivial,trivial,trivial⟩,rfl,h g c g2 c2 (by omega) (by omega)⟩
theorem D6 (h:∀g,K (.sl 0 g 0 19 19) [.one true g (.ints .i64 (kG.map fun(n:Nat)=>(n:Int)) 19)]):aa Try.prog 57 [] [] K Kp:=by
 refine aa.k8 ?_
 refine Sz (fun _=>[]) [] rfl ?_
 refine Qs ?_
 exact⟨[.one true 0 (.ints .i64 (kG.map fun(n:Nat)=>(n:Int)) 19)],aI rfl (cU _),⟨trivial,trivial⟩,rfl,h 0⟩
end
end Go.Proofs.Ytibadaomjlkoaaa
