import Derived.Test.YtibadaomjlkoaaaGdp
import Derived.Test.YtibadaomjlkoaaaGdg
import Derived.Test.YtibadaomjlkoaaaGdh
set_option linter.unusedVariables false
set_option linter.unusedSimpArgs false
open Go.RowKit
namespace Go.Proofs.Ytibadaomjlkoaaa
set_option maxRecDepth 10000
theorem nn {b:Bool}{v e:Int}(h:e≠0):xq b v e=e:=if_neg (fun x=>h x.2)
theorem GI {b:Bool}{v:Int}(h:b=true):xq b v 0=v:=if_pos ⟨h,rfl⟩
theorem GJ {b:Bool}{v:Int}(h:b=false):xq b v 0=0:=if_neg (fun x=>by rw[h]at x;exact absurd x.1 (by decide))
section
variable{K Kp:AV→AH→Prop}{xs:List Int}{lim gr cr cx g c:Nat}{s:DS}{e:Int}
theorem zO (ok:cZ xs lim c s)(hr:(unpack xs).length≤cr)(hb:∀x∈s.out,0≤x∧x<256){R:Except Int (Unit×DS)}(hR:jc.run (unpack xs) lim s=R)
 (h0:∀g' c' s',R=.ok ((),s')→cZ xs lim c' s'→(∀x∈s'.out,0≤x∧x<256)→K (.aE []) (sH lim gr cr xs g' c' s' 0))
 (h1:∀er g' c' s' e',R=.error er→e'≠0→cZ xs lim c' s'→K (.aE []) (sH lim gr cr xs g' c' s' e')):
 aa Try.prog 21 [.ptr 0 0 0] (sH lim gr cr xs g c s 0) K Kp:=by
 have uh:=aL xs
 have iA:=ok.xl
 have Mf:=ok.al
 refine SU (fun _=>[0]) [] rfl ?_
 refine Qs ?_
 refine WO.go (σ:=Nat) (fun a=>s.a≤a∧a≤(s.a+7)/8*8) (fun a=>(s.a+7)/8*8-a) (fun a=>[(0,.ptr 0 0 0)]) (fun a=>sH lim gr cr xs g c {s with a:=a} 0) s.a ae mixed (by kernel_rfl)
  ⟨Nat.le_refl _,by omega⟩ (aI rfl (trivial)) (aI rfl (aI rfl (aI rfl (trivial)))) (fun _=>rfl) (fun _=>rfl) (fun _=>KB (n:=0)) ?_
 rintro a ⟨Js,qJ⟩ d
 have em:((a:Int)).tmod 8=((a%8:Nat):Int):=by rw[Int.tmod_eq_emod_of_nonneg (by omega)];rfl
 refine Qs ?_
 refine And.intro (fun q=>?_) (fun q=>?_)
 ·have q:¬a%8=0:=by
   have q:¬((a:Int)).tmod 8=0:=by simpa using q
   rw[em]at q;omega
  refine Qs ?_
  refine RO.same (a+1) ⟨by omega,by omega⟩ (show(s.a+7)/8*8-(a+1)<(s.a+7)/8*8-a by omega) (aI rfl (trivial)) (aI rfl (aI rfl (aI rfl (trivial))))
 ·have q:a%8=0:=by
   have q:((a:Int)).tmod 8=0:=by simpa using q
   rw[em]at q;omega
  obtain rfl:a=(s.a+7)/8*8:=by omega
  rw[jc,DP.run]at hR
  obtain⟨s1,fW⟩:∃s1:DS,{s with a:=(s.a+7)/8*8}=s1:=⟨_,rfl⟩
  have mZ:cZ xs lim c s1:=by rw[←fW];exact⟨ok.xl,ok.xb,by show(s.a+7)/8*8≤_;omega,ok.ll,ok.ol,ok.oc⟩
  have rJ:∀x∈s1.out,0≤x∧x<256:=by rw[←fW];exact hb
  rw[fW]at hR
  have y6:=mZ.ll
  have Jg:=mZ.ol
  refine Qs ?_
  rw[show AV.int .i64 (((s.a+7)/8*8:Nat):Int)=.int .i64 (s1.a:Int) by rw[←fW],show s.out=s1.out by rw[←fW]]
  refine p6 [] (n:=16) hR mZ hr (by omega) (fun n s2 hn rT qJ iw hR=>?_) (fun hE=>?_)
  rotate_left
  ·refine Qs ?_
   refine ve [] (n:=16) (e:=50) (by decide) ?_
   refine Qs ?_
   refine bN [] (v:=80) (e:=50) ?_
   rw[nn (by decide)]
   refine Qs ?_
   refine bN [] (v:=81) (e:=50) ?_
   rw[nn (by decide)]
   refine Qs ?_
   refine WO.rounds 1 ae mixed (by kernel_rfl) ?_
   refine Qs ?_
   exact h1 50 g c s1 50 hE (by decide) mZ
  have aaZ:=iw.ol
  rw[show(((n:Int))=(n:Int))from rfl]at hR
  refine Qs ?_
  refine p6 [] (n:=16) hR iw hr (by omega) (fun m s3 hm qF Nj iV hR=>?_) (fun hE=>?_)
  rotate_left
  ·refine Qs ?_
   refine bN [] (v:=80) (e:=50) ?_
   rw[nn (by decide)]
   refine Qs ?_
   refine bN [] (v:=81) (e:=50) ?_
   rw[nn (by decide)]
   refine Qs ?_
   refine WO.rounds 1 ae mixed (by kernel_rfl) ?_
   refine Qs ?_
   refine And.intro (fun q=>?_) (fun q=>?_)
   ·refine Qs ?_
    exact h1 50 g c s2 50 hE (by decide) iw
   ·refine Qs ?_
    exact h1 50 g c s2 50 hE (by decide) iw
  have aaY:=iV.ol
  have AL:∀x∈s3.out,0≤x∧x<256:=by rw[qF,rT];exact rJ
  refine Qs ?_
  refine bN [] (v:=80) (e:=0) ?_
  by_cases q1:(n:Int)+(m:Int)=65535
  rotate_left
  ·rw[if_neg q1]at hR
   rw[GI (by simp;omega)]
   refine Qs ?_
   refine bN [] (v:=81) (e:=80) ?_
   rw[nn (by decide)]
   refine Qs ?_
   refine WO.rounds 1 ae mixed (by kernel_rfl) ?_
   refine Qs ?_
   refine And.intro (fun q=>?_) (fun q=>?_)
   ·refine Qs ?_
    exact h1 80 g c s3 80 hR.symm (by decide) iV
   ·refine Qs ?_
    exact h1 80 g c s3 80 hR.symm (by decide) iV
  rw[if_pos q1,DP.run]at hR
  rw[GJ (by simp;omega)]
  refine Qs ?_
  refine bN [] (v:=81) (e:=0) ?_
  by_cases q2:(lim:Int)-(s3.out.length:Int)<(n:Int)
  ·rw[if_pos q2]at hR
   rw[GI (by simpa using q2)]
   refine Qs ?_
   refine WO.rounds 1 ae mixed (by kernel_rfl) ?_
   refine Qs ?_
   refine And.intro (fun q=>?_) (fun q=>?_)
   ·refine Qs ?_
    exact h1 81 g c s3 81 hR.symm (by decide) iV
   ·refine Qs ?_
    exact h1 81 g c s3 81 hR.symm (by decide) iV
  rw[if_neg q2,Int.toNat_natCast]at hR
  rw[GJ (by simpa using q2)]
  refine Qs ?_
  refine WO.go (σ:=Nat×Nat×Nat×DS×Int) (fun(i,g,c,s5,e)=>i≤n∧cZ xs lim c s5∧((e=0∧(∀x∈s5.out,0≤x∧x<256)∧(xG (n-i)).run (unpack xs) lim s5=R)∨(e≠0∧∃er,R=.error er)))
   (fun(i,_)=>n-i) (fun(i,_)=>[(0,.ptr 0 0 0),(2,.int .i64 (n:Int)),(4,.int .i64 (i:Int))]) (fun(i,g,c,s,e)=>sH lim gr cr xs g c s e) (0,g,c,s3,0) ae mixed (by kernel_rfl)
   ⟨Nat.zero_le _,iV,.inl ⟨rfl,AL,hR⟩⟩ (aI rfl (aI rfl (aI rfl (trivial)))) (aI rfl (aI rfl (aI rfl (trivial)))) (fun _=>rfl) (fun _=>rfl) (fun _=>KB (n:=0)) ?_
  rintro⟨i,g5,c5,s5,e5⟩ ⟨hi,py,xO⟩ d5
  rcases xO with⟨xO,EG,nc⟩|⟨xO,er,hE⟩
  rotate_left
  ·refine Qs ?_
   refine And.intro (fun r1=>?_) (fun r1=>?_)
   ·refine Qs ?_
    refine mG (decide_eq_false xO) ?_
    refine Qs ?_
    exact h1 er g5 c5 s5 e5 hE xO py
   ·refine Qs ?_
    exact h1 er g5 c5 s5 e5 hE xO py
  subst xO
  refine Qs ?_
  refine And.intro (fun r1=>?_) (fun r1=>?_)
  ·have r1:i<n:=by have r1:(i:Int)<(n:Int):=of_decide_eq_true r1;omega
   rw[show n-i=(n-(i+1))+1 by omega,xG]at nc
   refine Qs ?_
   refine p6 [] (n:=8) nc py hr (by omega) (fun v s6 hv UZ ha6 K2 hR6=>?_) (fun hE=>?_)
   rotate_left
   ·refine Qs ?_
    refine Iy [] (e:=50) (by decide) ?_
    refine Qs ?_
    refine RO.same (i+1,g5,c5,s5,50) ⟨r1,py,.inr ⟨by decide,50,hE⟩⟩ (show n-(i+1)<n-i by omega) (aI rfl (aI rfl (aI rfl (trivial)))) (aI rfl (aI rfl (aI rfl (trivial))))
   have Rg:∀x∈s6.out,0≤x∧x<256:=by rw[UZ];exact EG
   have e1:(v:Int)%256=(v:Int):=by omega
   refine Qs ?_
   rw[e1]
   refine zX [] (v:=(v:Int)) hR6 K2 Rg ⟨by omega,by omega⟩ (fun g7 c7 s7 ho7 ha7 Um VZ hR7=>?_) (fun hE=>?_)
   ·refine Qs ?_
    refine RO.same (i+1,g7,c7,s7,0) ⟨r1,VZ,.inl ⟨rfl,Um,hR7⟩⟩ (show n-(i+1)<n-i by omega) (aI rfl (aI rfl (aI rfl (trivial)))) (aI rfl (aI rfl (aI rfl (trivial))))
   ·refine Qs ?_
    refine RO.same (i+1,g5,c5,s6,81) ⟨r1,K2,.inr ⟨by decide,81,hE⟩⟩ (show n-(i+1)<n-i by omega) (aI rfl (aI rfl (aI rfl (trivial)))) (aI rfl (aI rfl (aI rfl (trivial))))
  ·have r1:i=n:=by have r1:¬(i:Int)<(n:Int):=of_decide_eq_false r1;omega
   subst r1
   rw[Nat.sub_self]at nc
   refine Qs ?_
   exact h0 g5 c5 s5 nc.symm py EG
end
end Go.Proofs.Ytibadaomjlkoaaa
open Go.RowKit
namespace Go.Proofs.Ytibadaomjlkoaaa
set_option maxRecDepth 10000
section
variable{K Kp:AV→AH→Prop}{xs:List Int}{lim gr cr cx g c:Nat}{s:DS}{e:Int}
theorem p5 (E:AH){n:Nat}{β:Type}{k:Int→DP β}{R:Except Int (β×DS)}(a8:(e=0∧(DP.get n k).run (unpack xs) lim s=R)∨(e≠0∧∃er,R=.error er))(ok:cZ xs lim c s)(hr:(unpack xs).length≤cr)(hn:n≤16)
 (h:∀(v:Nat) s' e',v<2^n→s'.out=s.out→cZ xs lim c s'→((e'=0∧(k v).run (unpack xs) lim s'=R)∨(e'≠0∧∃er,R=.error er))→K (.int .i64 (v:Int)) (sH lim gr cr xs g c s' e'++E)):
 aa Try.prog 20 [.ptr 0 0 0,.int .i64 (n:Int)] (sH lim gr cr xs g c s e++E) K Kp:=by
 rcases a8 with⟨he,hR⟩|⟨he,hE⟩
 ·subst he
  exact p6 E hR ok hr hn (fun v s' h1 h2 h3 h4 h5=>h v s' 0 h1 h2 h4 (.inl ⟨rfl,h5⟩)) (fun hE=>h 0 s 50 (Nat.two_pow_pos n) rfl ok (.inr ⟨by decide,50,hE⟩))
 ·exact ve E he (h 0 s e (Nat.two_pow_pos n) rfl ok (.inr ⟨he,hE⟩))
theorem nu (E:AH){b:Bool}{v v0:Int}{β:Type}{p:DP β}{R:Except Int (β×DS)}(a8:(e=0∧(if b=true then .fail v0 else p:DP β).run (unpack xs) lim s=R)∨(e≠0∧∃er,R=.error er))(hv:v≠0)
 (h:∀e',((e'=0∧e=0∧b=false∧p.run (unpack xs) lim s=R)∨(e'≠0∧∃er,R=.error er))→K (.aE []) (sH lim gr cr xs g c s e'++E)):
 aa Try.prog 26 [.ptr 0 0 0,.bo b,.int .i64 v] (sH lim gr cr xs g c s e++E) K Kp:=by
 refine bN E (h _ ?_)
 rcases a8 with⟨he,hR⟩|⟨he,hE⟩
 ·subst he
  cases b with
  |true=>exact .inr ⟨by rw[GI rfl];exact hv,v0,hR.symm⟩
  |false=>exact .inl ⟨GJ rfl,rfl,rfl,hR⟩
 ·exact .inr ⟨by rw[nn he];exact he,hE⟩
theorem zC {v:Int}(h0:K (.aE []) (sH lim gr cr xs g c s (xq true v e))):
 aa Try.prog 26 [.ptr 0 0 0,.tt,.int .i64 v] (sH lim gr cr xs g c s e) K Kp:=by
 refine DG (fun _=>[0]) [] rfl ?_
 unfold xq at h0
 refine Qs ?_
 refine And.intro (fun q2=>?_) (fun q2=>?_)
 ·rw[if_pos ⟨rfl,of_decide_eq_true q2⟩]at h0
  refine Qs ?_
  exact h0
 ·rw[if_neg (fun x=>of_decide_eq_false q2 x.2)]at h0
  refine Qs ?_
  exact h0
theorem yc (E:AH){v v0:Int}{β:Type}{R:Except Int (β×DS)}(a8:(e=0∧(DP.fail v0:DP β).run (unpack xs) lim s=R)∨(e≠0∧∃er,R=.error er))(hv:v≠0)
 (h:∀e' er,e'≠0→R=.error er→K (.aE []) (sH lim gr cr xs g c s e'++E)):
 aa Try.prog 26 [.ptr 0 0 0,.tt,.int .i64 v] (sH lim gr cr xs g c s e++E) K Kp:=by
 refine ki E (zC ⟨_,_,_,_,rfl,rfl,?_⟩) rfl
 rcases a8 with⟨he,hR⟩|⟨he,er,hE⟩
 ·subst he
  exact h _ v0 (by rw[GI rfl];exact hv) hR.symm
 ·exact h _ er (by rw[nn he];exact he) hE
theorem zD {v:Int}(h0:K (.aE []) (sH lim gr cr xs g c s e)):
 aa Try.prog 26 [.ptr 0 0 0,.ff,.int .i64 v] (sH lim gr cr xs g c s e) K Kp:=by
 refine DG (fun _=>[0]) [] rfl ?_
 refine Qs ?_
 exact h0
theorem DD (E:AH){v:Int}(h0:K (.aE []) (sH lim gr cr xs g c s e++E)):
 aa Try.prog 26 [.ptr 0 0 0,.ff,.int .i64 v] (sH lim gr cr xs g c s e++E) K Kp:=
 ki E (zD ⟨_,_,_,_,rfl,rfl,h0⟩) rfl
theorem xz {ls:List Int}{cl n c0:Nat}(he:e≠0)(h0:K .ns (S3 lim gr cr xs g c s e ls cl)):
 aa Try.prog 24 [.ptr 0 0 0,.sl 3 0 0 n c0] (S3 lim gr cr xs g c s e ls cl) K Kp:=by
 refine Kn (fun _=>[0]) [] rfl ?_
 refine Qs ?_
 refine fi (by simpa using he) ?_
 refine Qs ?_
 exact h0
theorem oJ (E:AH)(i:Nat){gi off n c0 co:Nat}{o:Bool}{ys:List Int}(hi:E[i]?=some (.one o gi (.ints .u8 ys co)))(hc:off≤co)(he:e≠0)(h0:K .ns (sH lim gr cr xs g c s e++E)):
 aa Try.prog 24 [.ptr 0 0 0,.sl (i+3) gi off n c0] (sH lim gr cr xs g c s e++E) K Kp:=by
 refine aa.lift [.own 0,.own 1,.own 2,.cP (i+3) gi off] (xz (ls:=[]) (cl:=0) (n:=n) (c0:=c0) (K:=fun r M=>r=.ns∧M=S3 lim gr cr xs g c s e [] 0) (Kp:=fun _ _=>False) he ⟨rfl,rfl⟩) (by simp[AV.mX,AV.rn,sr,uB,uC,TE.i]) rfl
  ⟨⟨rfl,rfl⟩,⟨rfl,rfl⟩,⟨rfl,rfl⟩,⟨_,_,_,rfl,ao (M:=sH lim gr cr xs g c s e++E) (i:=i+3) hi,cq.ints (by show off+0≤co;omega) (by simp)⟩,trivial⟩ ⟨rfl,trivial,trivial,trivial,trivial⟩ ?_ (fun _ _ h=>h.elim)
 rintro r M' ⟨rfl,rfl⟩
 refine⟨⟨rfl,rfl,rfl,rfl,rfl⟩,?_⟩
 rw[←List.append_nil E]at h0
 exact h0
theorem vn (E:AH)(i:Nat){gi off c0 co:Nat}{o:Bool}{ls ys:List Int}{β:Type}{k:List ((Int×Int)×Int)→DP β}{R:Except Int (β×DS)}(a8:((gH ls).bind k).run (unpack xs) lim s=R)
 (hi:E[i]?=some (.one o gi (.ints .u8 ys co)))(hy:ls=(ys.drop off).take ls.length)(hc:off+ls.length≤co)(hl:ls.length≤2000)(hu:∀x∈ls,0≤x∧x<256)
 (h0:∀g' c' cv,(aj ls).length≤c'→(k (bx (aj ls) [])).run (unpack xs) lim s=R→aB ls=0→K (.sl (E.length+4) g' 0 (aj ls).length c') (sH lim gr cr xs g c s 0++(E++[.aX true (aj ls).length (bF (aj ls) cv),tO (E.length+3) cv g' c' (aj ls)])))
 (h1:∀g' c' cv e',(aj ls).length≤c'→e'≠0→R=.error e'→K (.sl (E.length+4) g' 0 (aj ls).length c') (sH lim gr cr xs g c s e'++(E++[.aX true (aj ls).length (bF (aj ls) cv),tO (E.length+3) cv g' c' (aj ls)]))):
 aa Try.prog 24 [.ptr 0 0 0,.sl (i+3) gi off ls.length c0] (sH lim gr cr xs g c s 0++E) K Kp:=by
 refine Iz E i hi hy hc hl hu (fun g' c' cv nU=>?_)
 unfold gH at a8
 by_cases hz:aB ls=0
 ·rw[if_pos hz]at a8
  have:=h0 g' c' cv nU a8 hz
  rw[hz];exact this
 ·rw[if_neg hz]at a8
  exact h1 g' c' cv _ nU hz a8.symm
theorem zL {A B:List Int}{fA fB:Nat→Nat}{dA dB cA cB:Nat}(he:e≠0)(h0:K (.aE []) (sH lim gr cr xs g c s e++wV A B fA fB dA dB)):
 aa Try.prog 23 [.ptr 0 0 0,.sl 4 0 0 (aj A).length cA,.sl 6 0 0 (aj B).length cB] (sH lim gr cr xs g c s e++wV A B fA fB dA dB) K Kp:=by
 refine zK (fun _=>[0,2]) [] rfl ?_
 refine Qs ?_
 refine WO.rounds 1 ae mixed (by kernel_rfl) ?_
 refine Qs ?_
 refine mG (decide_eq_false he) ?_
 refine Qs ?_
 exact h0
theorem zM {A:List Int}{fA:Nat→Nat}{dA cA:Nat}{b:AV}(he:e≠0)(h0:K (.aE []) (M5 lim gr cr xs g c s e (aj A) fA dA)):
 aa Try.prog 23 [.ptr 0 0 0,.sl 4 0 0 (aj A).length cA,b] (M5 lim gr cr xs g c s e (aj A) fA dA) K Kp:=by
 refine zK (fun _=>[0,2]) [] rfl ?_
 refine Qs ?_
 refine WO.rounds 1 ae mixed (by kernel_rfl) ?_
 refine Qs ?_
 refine mG (decide_eq_false he) ?_
 refine Qs ?_
 exact h0
theorem BK {M:AH}{iS iR iO a1 a2 b1 b2 gA gB:Nat}{o1 o2 o3 o4:Bool}{A B:List Int}{fA fB:Nat→Nat}{dA dB cA cB:Nat}(hS:M[iS]?=some (QK iR iO lim gr cr xs g c s e))(hR:M[iR]?=some (SZ gr cr xs))(hO:M[iO]?=some (S0 g c s))
 (Uu:M[a1]?=some (.aX o1 (aj A).length (bF (aj A) fA)))(Qf:M[a2]?=some (.one o2 gA (.cw 2 (aj A).length (gT a1 fA (aj A)) dA)))(Xr:M[b1]?=some (.aX o3 (aj B).length (bF (aj B) fB)))(Rn:M[b2]?=some (.one o4 gB (.cw 2 (aj B).length (gT b1 fB (aj B)) dB)))
 (lN:(bu [.own iS,.own iR,.own iO,.dE a1,.cP a2 gA 0,.dE b1,.cP b2 gB 0]&&AV.nq [.own iS,.own iR,.own iO,.dE a1,.cP a2 gA 0,.dE b1,.cP b2 gB 0] [.ptr 0 0 0,.sl 4 0 0 (aj A).length cA,.sl 6 0 0 (aj B).length cB])=true)
 (he:e≠0)(h1:K (.aE []) (Kq iS iR iO lim gr cr xs g c s e M)):
 aa Try.prog 23 [.ptr iS 0 0,.sl a2 gA 0 (aj A).length cA,.sl b2 gB 0 (aj B).length cB] M K Kp:=by
 refine aa.lift [.own iS,.own iR,.own iO,.dE a1,.cP a2 gA 0,.dE b1,.cP b2 gB 0] (zL (fA:=fA) (fB:=fB) (dA:=dA) (dB:=dB) (cA:=cA) (cB:=cB) (K:=fun r M'=>r=.aE []∧M'=sH lim gr cr xs g c s e++wV A B fA fB dA dB) (Kp:=fun _ _=>False) he ⟨rfl,rfl⟩) (by simp[AV.mX,AV.rn,sr,uB,uC,TE.i]) lN
  ⟨⟨hS,rfl⟩,⟨hR,rfl⟩,⟨hO,rfl⟩,⟨rfl,_,Uu,rfl⟩,⟨_,_,_,rfl,ao Qf,cq.same rfl (fun h=>h)⟩,⟨rfl,_,Xr,rfl⟩,⟨_,_,_,rfl,ao Rn,cq.same rfl (fun h=>h)⟩,trivial⟩ ⟨rfl,trivial,trivial,fun _=>trivial,fun _=>rfl,fun _=>trivial,fun _=>rfl,trivial⟩ ?_ (fun _ _ h=>h.elim)
 rintro r M' ⟨rfl,rfl⟩
 refine⟨⟨rfl,rfl,rfl,rfl,rfl,rfl,rfl,rfl⟩,?_⟩
 rw[←List.append_nil (Kq iS iR iO lim gr cr xs g c s e M)]at h1
 exact h1
theorem BL {M:AH}{iS iR iO a1 a2 gA:Nat}{o1 o2:Bool}{A:List Int}{fA:Nat→Nat}{dA cA:Nat}(hS:M[iS]?=some (QK iR iO lim gr cr xs g c s e))(hR:M[iR]?=some (SZ gr cr xs))(hO:M[iO]?=some (S0 g c s))
 (Uu:M[a1]?=some (.aX o1 (aj A).length (bF (aj A) fA)))(Qf:M[a2]?=some (.one o2 gA (.cw 2 (aj A).length (gT a1 fA (aj A)) dA)))
 (lN:(bu [.own iS,.own iR,.own iO,.dE a1,.cP a2 gA 0]&&AV.nq [.own iS,.own iR,.own iO,.dE a1,.cP a2 gA 0] [.ptr 0 0 0,.sl 4 0 0 (aj A).length cA,.ns])=true)
 (he:e≠0)(h1:K (.aE []) (Kq iS iR iO lim gr cr xs g c s e M)):
 aa Try.prog 23 [.ptr iS 0 0,.sl a2 gA 0 (aj A).length cA,.ns] M K Kp:=by
 refine aa.lift [.own iS,.own iR,.own iO,.dE a1,.cP a2 gA 0] (zM (b:=.ns) (fA:=fA) (dA:=dA) (cA:=cA) (K:=fun r M'=>r=.aE []∧M'=M5 lim gr cr xs g c s e (aj A) fA dA) (Kp:=fun _ _=>False) he ⟨rfl,rfl⟩) (by simp[AV.mX,AV.rn,sr,uB,uC,TE.i]) lN
  ⟨⟨hS,rfl⟩,⟨hR,rfl⟩,⟨hO,rfl⟩,⟨rfl,_,Uu,rfl⟩,⟨_,_,_,rfl,ao Qf,cq.same rfl (fun h=>h)⟩,trivial⟩ ⟨rfl,trivial,trivial,fun _=>trivial,fun _=>rfl,trivial⟩ ?_ (fun _ _ h=>h.elim)
 rintro r M' ⟨rfl,rfl⟩
 refine⟨⟨rfl,rfl,rfl,rfl,rfl,rfl⟩,?_⟩
 rw[←List.append_nil (Kq iS iR iO lim gr cr xs g c s e M)]at h1
 exact h1
theorem Il (E:AH)(he:e≠0)(h0:K (.aE []) (sH lim gr cr xs g c s e++E)):
 aa Try.prog 23 [.ptr 0 0 0,.ns,.ns] (sH lim gr cr xs g c s e++E) K Kp:=
 ki E (BJ he ⟨_,_,_,_,rfl,rfl,h0⟩) rfl
end
end Go.Proofs.Ytibadaomjlkoaaa
open Go.RowKit
namespace Go.Proofs.Ytibadaomjlkoaaa
set_option maxRecDepth 10000
theorem om (ls:List Int):(aj ls).length≤15*ls.length:=by
 unfold aj;split
 ·exact oA ls 15
 ·exact Nat.zero_le _
theorem DP.bind_assoc {α β γ:Type}(f:α→DP β)(g:β→DP γ):∀p:DP α,(p.bind f).bind g=p.bind fun x=>(f x).bind g:=by
 intro p
 induction p with
 |ret x=>rfl
 |fail e=>rfl
 |get n k ih=>exact congrArg (DP.get n) (funext ih)
 |align k ih=>exact congrArg DP.align ih
 |uq c k ih=>exact congrArg (DP.uq c) ih
 |back d k ih=>exact congrArg (DP.back d) (funext ih)
 |AW d k ih=>exact congrArg (DP.AW d) ih
 |room n k ih=>exact congrArg (DP.room n) ih
def ue:List Int:=kG.map fun(n:Nat)=>(n:Int)
theorem KY:∀i,i<19→ue.getD i 0=(kG.getD i 0:Int)∧kG.getD i 0<19:=by decide+kernel
section
variable{K Kp:AV→AH→Prop}{xs:List Int}{lim gr cr cx g c:Nat}{s:DS}{e:Int}
theorem KX {M:AH}(h:∀g,K (.sl M.length g 0 19 19) (M++[.one true g (.ints .i64 ue 19)])):aa Try.prog 57 [] M K Kp:=by
 refine aa.lift [] (D6 (K:=fun r N=>∃g,r=.sl 0 g 0 19 19∧N=[.one true g (.ints .i64 ue 19)]) (Kp:=fun _ _=>False) (fun g=>⟨g,rfl,rfl⟩)) rfl rfl trivial trivial ?_ (fun _ _ h=>h.elim)
 rintro r M' ⟨g,rfl,rfl⟩
 exact⟨rfl,h g⟩
theorem S2 {x y:AO}(hx:x.nb 5)(hy:y.nb 5):kq 5 (sH lim gr cr xs g c s e++[x,y]):=⟨by simp[af.nb,AV.qi,AV.nb,AO.nb],trivial,trivial,hx,hy,trivial⟩
def XA (va vb vc:Int):DP Unit:=(sx (vc.toNat+4) 0 (List.replicate 19 0)).bind fun ls=>(gH ls).bind fun T=>(gp T (va.toNat+257+(vb.toNat+1)) 401 []).bind fun l=>if l.getD 256 0=0 then .fail 80 else
    (gH (l.take (va.toNat+257))).bind fun A=>(gH (l.drop (va.toNat+257))).bind fun B=>dQ A B FU
structure Sd1 (xs:List Int)(lim c:Nat)(R:Except Int (Unit×DS))(s0:DS)(x:Nat×Nat×Nat×DS×Int):Prop where
 ok:cZ xs lim c x.2.2.2.1
 b:x.1<32∧x.2.1<32∧x.2.2.1<16
 o:x.2.2.2.1.out=s0.out
 st:(x.2.2.2.2=0∧x.1≤29∧x.2.1≤29∧(XA x.1 x.2.1 x.2.2.1).run (unpack xs) lim x.2.2.2.1=R)∨(x.2.2.2.2≠0∧∃er,R=.error er)
noncomputable abbrev ZH:Cx:=aaN (fun r=>if r=9 then[4]else[0,3,4]) []
theorem Vp {Q:jr→AA→AH→Prop}(ok:cZ xs lim c s)(hr:(unpack xs).length≤cr){R:Except Int (Unit×DS)}(hR:Cb.run (unpack xs) lim s=R):
 sv ZH (lB (σ:={x:Nat×Nat×Nat×DS×Int//Sd1 xs lim c R s x}) (fun x=>[(0,.ptr 0 0 0),(2,.int .i64 ((x.1.1:Int)+257)),(3,.int .i64 ((x.1.2.1:Int)+1)),(4,.int .i64 ((x.1.2.2.1:Int)+4))]) (fun x=>sH lim gr cr xs g c x.1.2.2.2.1 x.1.2.2.2.2)) Q Kp 4 Gh (aq [.ptr 0 0 0]) (sH lim gr cr xs g c s 0):=by
 have uh:=aL xs
 have iA:=ok.xl
 have Mf:=ok.al
 unfold Cb at hR
 refine Qs ?_
 refine p5 [] (n:=5) (.inl ⟨rfl,hR⟩) ok hr (by omega) (fun va s1 e1 hva EA mZ a8=>?_)
 refine Qs ?_
 refine p5 [] (n:=5) a8 mZ hr (by omega) (fun vb s2 e2 Zh rT iw a8=>?_)
 refine Qs ?_
 refine p5 [] (n:=4) a8 iw hr (by omega) (fun vc s3 e3 UQ qF iV a8=>?_)
 refine Qs ?_
 refine And.intro (fun q=>?_) (fun q=>?_)
 ·have q:(286:Int)<(va:Int)+257:=of_decide_eq_true q
  rw[if_pos (.inl q)]at a8
  refine Qs ?_
  refine yc [] a8 (by decide) (fun e' er he hE=>?_)
  refine Qs ?_
  exact lB.mk ⟨(va,vb,vc,s3,e'),iV,⟨hva,Zh,UQ⟩,by rw[qF,rT,EA],.inr ⟨he,er,hE⟩⟩ (aI rfl (aI rfl (aI rfl (aI rfl (trivial))))) (aI rfl (aI rfl (aI rfl (trivial))))
 ·have q:¬(286:Int)<(va:Int)+257:=of_decide_eq_false q
  have TJ:(e3=0∧(if decide ((30:Int)<(vb:Int)+1)=true then .fail 80 else XA va vb vc:DP Unit).run (unpack xs) lim s3=R)∨(e3≠0∧∃er,R=.error er):=by
   rcases a8 with⟨h1,h2⟩|h1
   ·refine .inl ⟨h1,?_⟩
    by_cases q2:(30:Int)<(vb:Int)+1
    ·rw[if_pos (.inr q2)]at h2
     rw[if_pos (decide_eq_true q2)];exact h2
    ·rw[if_neg (fun x=>x.elim q q2)]at h2
     rw[if_neg (fun x=>q2 (of_decide_eq_true x))];exact h2
   ·exact .inr h1
  refine Qs ?_
  refine nu [] TJ (by decide) (fun e' a8=>?_)
  refine Qs ?_
  refine lB.mk ⟨(va,vb,vc,s3,e'),iV,⟨hva,Zh,UQ⟩,by rw[qF,rT,EA],?_⟩ (aI rfl (aI rfl (aI rfl (aI rfl (trivial))))) (aI rfl (aI rfl (aI rfl (trivial))))
  rcases a8 with⟨h1,_,h2,h3⟩|h1
  ·have h2:¬(30:Int)<(vb:Int)+1:=of_decide_eq_false h2
   exact .inl ⟨h1,by show va≤29;omega,by show vb≤29;omega,h3⟩
  ·exact .inr h1
theorem lZ:∀o∈sH lim gr cr xs g c s e,(o.ec||(o.DB&&!o.ec))=true:=by
 intro o ho
 simp only[sH,List.mem_cons,List.not_mem_nil,or_false]at ho
 rcases ho with rfl|rfl|rfl<;>rfl
def Ro (va vb:Int)(ls:List Int):DP Unit:=(gH ls).bind fun T=>(gp T (va.toNat+257+(vb.toNat+1)) 401 []).bind fun l=>if l.getD 256 0=0 then .fail 80 else
    (gH (l.take (va.toNat+257))).bind fun A=>(gH (l.drop (va.toNat+257))).bind fun B=>dQ A B FU
def Vh (lim gr cr:Nat)(xs:List Int)(g c:Nat)(s:DS)(e:Int)(ls:List Int)(go:Nat):AH:=sH lim gr cr xs g c s e++[.one true 0 (.ints .u8 ls 19),.one true go (.ints .i64 ue 19)]
theorem Nq {ls:List Int}{go:Nat}:kq 5 (Vh lim gr cr xs g c s e ls go):=S2 trivial trivial
def J1 (lim gr cr:Nat)(xs:List Int)(g c:Nat)(s:DS)(e:Int)(T:List bb)(fT:Nat→Nat)(gT cT:Nat)(l:List Int)(g9 c9:Nat):AH:=sH lim gr cr xs g c s e++[.gone,.gone,.aX true T.length (bF T fT),tO 5 fT gT cT T,.one true g9 (.ints .u8 l c9)]
theorem ur {T:List bb}{fT:Nat→Nat}{gT cT:Nat}{l:List Int}{g9 c9:Nat}:kq 8 (J1 lim gr cr xs g c s e T fT gT cT l g9 c9):=⟨by simp[af.nb,AV.qi,AV.nb,AO.nb],trivial,trivial,trivial,trivial,fun _=>trivial,fun j=>rfl,trivial,trivial⟩
def tg (T:List ((Int×Int)×Int))(N f:Nat)(l:List Int)(G:List Int→DP Unit)(V:Int)(k:Nat):DP Unit:=if decide ((N:Int)<(l.length:Int)+(k:Int))=true then .fail 80 else(gp T N f (l++List.replicate k V)).bind G
theorem rV {T:List ((Int×Int)×Int)}{N f:Nat}{l:List Int}{G:List Int→DP Unit}{V w:Int}{k:Nat}(hk:w=(k:Int)):((if(N:Int)-(l.length:Int)<w then .fail 80 else gp T N f (l++List.replicate w.toNat V):DP (List Int)).bind G)=tg T N f l G V k:=by
 subst hk
 unfold tg
 by_cases h:(N:Int)-(l.length:Int)<(k:Int)
 ·rw[if_pos h,if_pos (decide_eq_true (by omega))];rfl
 ·rw[if_neg h,if_neg (fun x=>h (by have:=of_decide_eq_true x;omega)),Int.toNat_natCast]
theorem Ix (ok:cZ xs lim c s)(hr:(unpack xs).length≤cr)(hb:∀x∈s.out,0≤x∧x<256){R:Except Int (Unit×DS)}(hR:Cb.run (unpack xs) lim s=R)
 (h0:∀g' c' s',R=.ok ((),s')→cZ xs lim c' s'→(∀x∈s'.out,0≤x∧x<256)→K (.aE []) (sH lim gr cr xs g' c' s' 0))
 (h1:∀er g' c' s' e',R=.error er→e'≠0→cZ xs lim c' s'→K (.aE []) (sH lim gr cr xs g' c' s' e')):
 aa Try.prog 25 [.ptr 0 0 0] (sH lim gr cr xs g c s 0) K Kp:=by
 have uh:=aL xs
 have iA:=ok.xl
 have Mf:=ok.al
 refine aa.cQ ?_
 refine aa.Lv (x:=ZH) ae mixed Try.func25 (rfl:Try.f25.body=some Gh) (by kernel_rfl) Hc rfl rfl rfl rfl ?_
 refine WA.cut (x:=ZH) ae mixed (σ:={x:Nat×Nat×Nat×DS×Int//Sd1 xs lim c R s x}) (fun x=>[(0,.ptr 0 0 0),(2,.int .i64 ((x.1.1:Int)+257)),(3,.int .i64 ((x.1.2.1:Int)+1)),(4,.int .i64 ((x.1.2.2.1:Int)+4))]) (fun x=>sH lim gr cr xs g c x.1.2.2.2.1 x.1.2.2.2.2) (fun _=>rfl) (fun _=>rfl) (fun _=>fQ) 4 _ _ Hc (Vp ok hr hR) fun s1 d1=>?_
 obtain⟨⟨va,vb,vc,s1,e1⟩,mZ,⟨b1,b2,b3⟩,EA,a8⟩:=s1
 have b1:va<32:=b1
 have b2:vb<32:=b2
 have b3:vc<16:=b3
 have EA:s1.out=s.out:=EA
 have mZ:cZ xs lim c s1:=mZ
 refine WA.last (x:=ZH) ae mixed (by kernel_rfl) ?_
 have Md:e1=0→va≤29∧vb≤29:=by
  intro q
  rcases a8 with⟨q1,q2,q3,q4⟩|q4
  ·exact⟨q2,q3⟩
  ·exact absurd q q4.1
 have a8:(e1=0∧((sx (vc+4) 0 (List.replicate 19 0)).bind (Ro va vb)).run (unpack xs) lim s1=R)∨(e1≠0∧∃er,R=.error er):=by
  rcases a8 with⟨q1,q2,q3,q4⟩|q
  ·exact .inl ⟨q1,q4⟩
  ·exact .inr q
 have Ep:ue.length=19:=rfl
 refine Qs ?_
 refine KX fun go=>?_
 refine Qs ?_
 refine WO.go (σ:=Nat×List Int×DS×Int) (fun(i,ls,s,e)=>i≤vc+4∧ls.length=19∧(∀x∈ls,0≤x∧x<256)∧cZ xs lim c s∧s.out=s1.out∧((e=0∧((sx (vc+4-i) i ls).bind (Ro va vb)).run (unpack xs) lim s=R)∨(e≠0∧∃er,R=.error er)))
  (fun(i,_)=>vc+4-i) (fun(i,_)=>[(0,.ptr 0 0 0),(2,.int .i64 ((va:Int)+257)),(3,.int .i64 ((vb:Int)+1)),(4,.int .i64 ((vc:Int)+4)),(5,.sl 3 0 0 19 19),(6,.sl 4 go 0 19 19),(7,.int .i64 (i:Int))]) (fun(i,ls,s,e)=>Vh lim gr cr xs g c s e ls go) (0,List.replicate 19 0,s1,e1) ae mixed (by kernel_rfl)
  ⟨Nat.zero_le _,rfl,by decide,mZ,rfl,a8⟩ (aI rfl (aI rfl (aI rfl (aI rfl (aI rfl (aI rfl (aI rfl (trivial)))))))) (aI rfl (aI rfl (aI rfl (aI rfl (aI rfl (trivial)))))) (fun _=>rfl) (fun _=>rfl) (fun _=>Nq) ?_
 rintro⟨i,ls,s2,e2⟩ ⟨hi,y6,CF,iw,rT,a8⟩ d2
 refine Qs ?_
 refine And.intro (fun q1=>?_) (fun q1=>?_)
 ·have q1:i<vc+4:=by have q1:(i:Int)<(vc:Int)+4:=of_decide_eq_true q1;omega
  obtain⟨z1,z2⟩:=KY i (by omega)
  rw[show vc+4-i=(vc+4-(i+1))+1 by omega,sx]at a8
  have hz3:(ue.getD ((i:Int).toNat+0) 0)=(kG.getD i 0:Int):=z1
  refine Qs ?_
  refine p5 [.one true 0 (.ints .u8 ls 19),.one true go (.ints .i64 ue 19)] (n:=3) a8 iw hr (by omega) (fun v s3 e3 hv qF iV a8=>?_)
  have e1:(v:Int)%256=(v:Int):=by omega
  have z4:0≤ue.getD ((i:Int).toNat+0) 0∧ue.getD ((i:Int).toNat+0) 0<19:=by rw[hz3];omega
  have z5:(ue.getD ((i:Int).toNat+0) 0).toNat+0=kG.getD i 0:=by rw[hz3];rfl
  refine Qs ?_
  refine RO.same (i+1,ls.set (kG.getD i 0) v,s3,e3) ⟨q1,by rw[List.length_set];exact y6,?_,iV,by rw[qF];exact rT,?_⟩ (show vc+4-(i+1)<vc+4-i by omega) (aI rfl (aI rfl (aI rfl (aI rfl (aI rfl (aI rfl (aI rfl (trivial)))))))) (aI rfl (aI rfl (aI rfl (aI (congrArg (fun l=>AO.one true 0 (.ints .u8 l 19)) ?_) (aI rfl trivial)))))
  ·intro x hx
   rcases List.mem_or_eq_of_mem_set hx with h|h
   ·exact CF x h
   ·rw[h];omega
  ·exact a8
  ·rw[←z5,e1]
 ·have q1:i=vc+4:=by have q1:¬(i:Int)<(vc:Int)+4:=of_decide_eq_false q1;omega
  subst q1
  rw[Nat.sub_self]at a8
  rcases a8 with⟨CG,a8⟩|⟨CG,er,hE⟩
  rotate_left
  ·refine Qs ?_
   refine oJ [.one true 0 (.ints .u8 ls 19),.one true go (.ints .i64 ue 19)] 0 rfl (Nat.zero_le _) CG ?_
   refine Qs ?_
   refine WO.rounds 1 ae mixed (by kernel_rfl) ?_
   refine Qs ?_
   refine mG (decide_eq_false CG) ?_
   refine Qs ?_
   refine fi (by simpa using CG) ?_
   refine Qs ?_
   exact⟨_,_,_,bV (M:=sH lim gr cr xs g c s2 e2) fQ lZ rfl,h1 er g c s2 e2 hE CG iw⟩
  subst CG
  have a8:((gH ls).bind fun T=>(gp T (va+257+(vb+1)) 401 []).bind fun l=>if l.getD 256 0=0 then .fail 80 else
   (gH (l.take (va+257))).bind fun A=>(gH (l.drop (va+257))).bind fun B=>dQ A B FU).run (unpack xs) lim s2=R:=a8
  have aao:ls=(ls.drop 0).take ls.length:=by rw[List.drop_zero,List.take_length]
  have hT1:=om ls
  refine Qs ?_
  rw[show(AV.sl 3 0 0 19 19)=.sl (0+3) 0 0 ls.length 19 by rw[y6]]
  refine vn [.one true 0 (.ints .u8 ls 19),.one true go (.ints .i64 ue 19)] 0 a8 rfl aao (by omega) (by omega) CF (fun gT cT lA hcT a8 hz=>?_) (fun gT cT lA e' hcT qI hE=>?_)
  rotate_left
  ·refine Qs ?_
   refine WO.rounds 1 ae mixed (by kernel_rfl) ?_
   refine Qs ?_
   refine mG (decide_eq_false qI) ?_
   refine Qs ?_
   refine fi (by simpa using qI) ?_
   refine Qs ?_
   exact⟨_,_,_,bV (M:=sH lim gr cr xs g c s2 e') fQ lZ rfl,h1 e' g c s2 e' hE qI iw⟩
  obtain⟨N,hN⟩:∃N,va+257+(vb+1)=N:=⟨_,rfl⟩
  have Va:(va:Int)+257+((vb:Int)+1)=(N:Int):=by omega
  obtain⟨G,hG⟩:∃G:List Int→DP Unit,(fun l:List Int=>(if l.getD 256 0=0 then .fail 80 else
   (gH (l.take (va+257))).bind fun A=>(gH (l.drop (va+257))).bind fun B=>dQ A B FU:DP Unit))=G:=⟨_,rfl⟩
  rw[hN,hG]at a8
  obtain⟨T,hT⟩:∃T,aj ls=T:=⟨_,rfl⟩
  refine Qs ?_
  refine WO.Dv (σ:=Nat×List Int×Nat×Nat×DS×Int) (fun(f,l,g9,c9,s,e)=>l.length≤c9∧l.length≤1000∧(∀x∈l,0≤x∧x<256)∧cZ xs lim c s∧s.out=s2.out∧((e=0∧l.length≤N∧N<f+l.length∧((gp (bx (aj ls) []) N f l).bind G).run (unpack xs) lim s=R)∨(e≠0∧∃er,R=.error er)))
   (fun(f,l,g9,c9,s,e)=>if e=0 then N-l.length+1 else 0) (fun(f,l,g9,c9,s,e)=>[(0,.ptr 0 0 0),(2,.int .i64 ((va:Int)+257)),(3,.int .i64 ((vb:Int)+1)),(8,.sl 6 gT 0 (aj ls).length cT),(9,.sl 7 g9 0 l.length c9)])
   (fun(f,l,g9,c9,s,e)=>J1 lim gr cr xs g c s e (aj ls) lA gT cT l g9 c9) (401,[],0,0,s2,0) ae mixed (by kernel_rfl)
   [(0,.ptr 0 0 0),(2,.int .i64 ((va:Int)+257)),(3,.int .i64 ((vb:Int)+1)),(8,.sl 6 gT 0 (aj ls).length cT),(9,.ns)] _ ⟨Nat.le_refl _,Nat.zero_le _,by simp,iw,rfl,.inl ⟨rfl,Nat.zero_le _,by show N<401+0;omega,a8⟩⟩ (aI rfl (aI rfl (aI rfl (aI rfl (aI rfl (trivial)))))) rfl
   (Vw.pz (x:=.ints .u8 [] 0) ⟨rfl,rfl⟩ (And.intro (.inl rfl) (And.intro (.inl rfl) (And.intro (.inl rfl) (And.intro (.inl rfl) (And.intro (.inr ⟨rfl,rfl⟩) trivial)))))) (aI rfl (aI rfl (aI rfl (aI trivial (aI trivial (aI rfl (aI rfl (aI rfl (trivial))))))))) (fun _=>rfl) (fun _=>rfl) (fun _=>ur) ?_
  rintro⟨f,l,g9,c9,s3,e3⟩ ⟨EE,o8,CE,iV,qF,a8⟩ d3
  rcases a8 with⟨WT,hlN,hfN,a8⟩|⟨WT,er,hE⟩
  rotate_left
  ·refine Qs ?_
   refine mG (decide_eq_false WT) ?_
   refine Qs ?_
   refine fi (by simpa using WT) ?_
   refine Qs ?_
   exact⟨_,_,_,bV (M:=sH lim gr cr xs g c s3 e3) fQ lZ rfl,h1 er g c s3 e3 hE WT iV⟩
  subst WT
  obtain⟨f,rfl⟩:∃f',f=f'+1:=⟨f-1,by have:N<f+l.length:=hfN;omega⟩
  refine Qs ?_
  refine And.intro (fun q=>?_) (fun q=>?_)
  ·have q:l.length<N:=by have q:(l.length:Int)<(va:Int)+257+((vb:Int)+1):=of_decide_eq_true q;omega
   rw[gp,if_neg (by omega),DP.bind_assoc]at a8
   refine Qs ?_
   refine sa [.gone,.gone,.aX true (aj ls).length (bF (aj ls) lA),tO 5 lA gT cT (aj ls),.one true g9 (.ints .u8 l c9)] 2 3 rfl rfl a8 iV hr (by omega) (by omega) (fun v s4 Ez hv uf a8=>?_) (fun er s4 hE he4 uf=>?_)
   rotate_left
   ·refine Qs ?_
    refine fi (by simpa using he4) ?_
    refine Qs ?_
    exact⟨_,_,_,bV (M:=sH lim gr cr xs g c s4 er) fQ lZ rfl,h1 er g c s4 er hE he4 uf⟩
   rw[y6]at hv
   refine Qs ?_
   refine And.intro (fun q2=>?_) (fun q2=>?_)
   ·have q2:v<16:=of_decide_eq_true q2
    rw[if_pos q2]at a8
    have e1:v%256=v:=Int.emod_eq_of_lt hv.1 (by omega)
    refine Qs ?_
    intro zs dk
    obtain rfl:zs=[v%256]:=by rw[dk];rfl
    refine Qs ?_
    intro c4 jM
    have jM:l.length+1≤c4:=jM
    refine Qs ?_
    refine RO.same (f,l++[v],g9+1,c4,s4,0) ⟨by rw[List.length_append];exact jM,by rw[List.length_append,List.length_singleton];omega,?_,uf,by rw[Ez];exact qF,.inl ⟨rfl,by rw[List.length_append,List.length_singleton];omega,by rw[List.length_append,List.length_singleton];omega,a8⟩⟩ ?_
     (aI rfl (aI rfl (aI rfl (aI rfl (aI (by rw[List.length_append];rfl) trivial))))) (aI rfl (aI rfl (aI rfl (aI trivial (aI trivial (aI rfl (aI rfl (aI (congrArg (fun z=>AO.one true (g9+1) (.ints .u8 (l++[z]) c4)) e1.symm) trivial))))))))
    ·intro x hx
     rcases List.mem_append.1 hx with h|h
     ·exact CE x h
     ·rw[List.mem_singleton.1 h];omega
    ·show(if(0:Int)=0 then N-(l++[v]).length+1 else 0)<(if(0:Int)=0 then N-l.length+1 else 0)
     rw[if_pos rfl,if_pos rfl,List.length_append,List.length_singleton];omega
   ·have q2:¬v<16:=of_decide_eq_false q2
    rw[if_neg q2,DP.bind_assoc]at a8
    refine Qs ?_
    refine And.intro (fun q3=>?_) (fun q3=>?_)
    ·have q3:v=16:=of_decide_eq_true q3
     subst q3
     rw[if_pos rfl]at a8
     refine Qs ?_
     by_cases hn:l=[]
     ·subst hn
      rw[if_pos rfl]at a8
      refine bN [.gone,.gone,.aX true (aj ls).length (bF (aj ls) lA),tO 5 lA gT cT (aj ls),.one true g9 (.ints .u8 [] c9)] (v:=80) (e:=0) ?_
      rw[show xq (decide ((([]:List Int).length:Int)=0)) 80 0=80 from rfl]
      refine Qs ?_
      refine bN [.gone,.gone,.aX true (aj ls).length (bF (aj ls) lA),tO 5 lA gT cT (aj ls),.one true g9 (.ints .u8 [] c9)] (v:=80) (e:=80) ?_
      rw[nn (by decide)]
      refine Qs ?_
      refine WO.rounds 1 ae mixed (by kernel_rfl) ?_
      refine Qs ?_
      refine RO.same (f,[],g9,c9,s4,80) ⟨EE,o8,CE,uf,by rw[Ez];exact qF,.inr ⟨by decide,80,a8.symm⟩⟩ ?_ (aI rfl (aI rfl (aI rfl (aI rfl (aI rfl (trivial)))))) (aI rfl (aI rfl (aI rfl (aI trivial (aI trivial (aI rfl (aI rfl (aI rfl (trivial)))))))))
      show(if(80:Int)=0 then N-([]:List Int).length+1 else 0)<(if(0:Int)=0 then N-([]:List Int).length+1 else 0)
      rw[if_neg (by decide),if_pos rfl];omega
     ·rw[if_neg hn]at a8
      have hlp:0<l.length:=List.length_pos_iff.2 hn
      refine bN [.gone,.gone,.aX true (aj ls).length (bF (aj ls) lA),tO 5 lA gT cT (aj ls),.one true g9 (.ints .u8 l c9)] (v:=80) (e:=0) ?_
      rw[GJ (decide_eq_false (by omega))]
      have eV:((l.length:Int)-1).toNat+0=l.length-1:=by omega
      refine Qs ?_
      refine p5 [.gone,.gone,.aX true (aj ls).length (bF (aj ls) lA),tO 5 lA gT cT (aj ls),.one true g9 (.ints .u8 l c9)] (n:=2) (.inl ⟨rfl,a8⟩) uf hr (by omega) (fun w s5 e5 hw AF py a8=>?_)
      have hKl:3≤3+w∧3+w≤138:=by omega
      have Rl:(3:Int)+(w:Int)=((3+w:Nat):Int):=by omega
      have wi:(e5=0∧(tg (bx (aj ls) []) N f l G (l.getD (l.length-1) 0) (3+w)).run (unpack xs) lim s5=R)∨(e5≠0∧∃er,R=.error er):=by
       rcases a8 with⟨h1,h2⟩|h2
       ·exact .inl ⟨h1,by rw[←rV Rl];exact h2⟩
       ·exact .inr h2
      unfold tg at wi
      rw[show decide ((N:Int)<(l.length:Int)+((3+w:Nat):Int))=decide ((va:Int)+257+((vb:Int)+1)<(l.length:Int)+((3:Int)+(w:Int))) by rw[Va,Rl]]at wi
      have Xc:0≤(l.getD (l.length-1) 0)∧(l.getD (l.length-1) 0)<256:=sX CE (by omega)
      refine Qs ?_
      refine nu [.gone,.gone,.aX true (aj ls).length (bF (aj ls) lA),tO 5 lA gT cT (aj ls),.one true g9 (.ints .u8 l c9)] wi (by decide) (fun e6 Es=>?_)
      refine Qs ?_
      refine WO.go (σ:=Nat×Nat×Nat) (fun(i,g9,c9)=>i≤3+w∧l.length+i≤c9) (fun(i,_)=>3+w-i)
       (fun(i,g9,c9)=>[(0,.ptr 0 0 0),(2,.int .i64 ((va:Int)+257)),(3,.int .i64 ((vb:Int)+1)),(8,.sl 6 gT 0 (aj ls).length cT),(9,.sl 7 g9 0 (l.length+i) c9),(11,.int .u8 (l.getD (((l.length:Int)-1).toNat+0) 0)),(12,.int .i64 ((3:Int)+(w:Int))),(13,.int .i64 (i:Int))])
       (fun(i,g9,c9)=>J1 lim gr cr xs g c s5 e6 (aj ls) lA gT cT (l++List.replicate i (l.getD (l.length-1) 0)) g9 c9) (0,g9,c9) ae mixed (by kernel_rfl)
       ⟨Nat.zero_le _,EE⟩ (aI rfl (aI rfl (aI rfl (aI rfl (aI rfl (aI rfl (aI rfl (aI rfl (trivial))))))))) (aI rfl (aI rfl (aI rfl (aI trivial (aI trivial (aI rfl (aI rfl (aI (by rw[List.replicate_zero,List.append_nil]) trivial)))))))) (fun _=>rfl) (fun _=>rfl) (fun _=>ur) ?_
      rintro⟨i,g8,c8⟩ ⟨hi,W6⟩ d8
      have fJ:(l++List.replicate i (l.getD (l.length-1) 0)).length=l.length+i:=by rw[List.length_append,List.length_replicate]
      refine Qs ?_
      refine And.intro (fun r=>?_) (fun r=>?_)
      ·have r:i<3+w:=by have r:(i:Int)<(3:Int)+(w:Int):=of_decide_eq_true r;omega
       refine Qs ?_
       intro zs dk
       obtain rfl:zs=[(l.getD (((l.length:Int)-1).toNat+0) 0)]:=by rw[dk];rfl
       refine Qs ?_
       intro c4 jM
       have jM:l.length+i+1≤c4:=jM
       refine Qs ?_
       refine RO.same (i+1,g8+1,c4) ⟨r,by omega⟩ (show 3+w-(i+1)<3+w-i by omega) (aI rfl (aI rfl (aI rfl (aI rfl (aI rfl (aI rfl (aI rfl (aI rfl (trivial))))))))) (aI rfl (aI rfl (aI rfl (aI trivial (aI trivial (aI rfl (aI rfl (aI (congrArg (fun z=>AO.one true (g8+1) (.ints .u8 z c4)) ?_) trivial))))))))
       rw[List.replicate_succ',List.append_assoc,eV]
      ·have r:i=3+w:=by have r:¬(i:Int)<(3:Int)+(w:Int):=of_decide_eq_false r;omega
       subst r
       refine Qs ?_
       refine RO.same (f,l++List.replicate (3+w) (l.getD (l.length-1) 0),g8,c8,s5,e6) ⟨by rw[fJ];exact W6,by rw[fJ];omega,?_,py,by rw[AF,Ez];exact qF,?_⟩ ?_ (aI rfl (aI rfl (aI rfl (aI rfl (aI (by rw[fJ];rfl) trivial))))) (aI rfl (aI rfl (aI rfl (aI trivial (aI trivial (aI rfl (aI rfl (aI rfl (trivial)))))))))
       ·intro x hx
        rcases List.mem_append.1 hx with h|h
        ·exact CE x h
        ·rw[List.eq_of_mem_replicate h];exact Xc
       ·rcases Es with⟨h1,h2,h3,h4⟩|h4
        ·have h3:¬(va:Int)+257+((vb:Int)+1)<(l.length:Int)+((3:Int)+(w:Int)):=of_decide_eq_false h3
         exact .inl ⟨h1,by rw[fJ];omega,by rw[fJ];omega,h4⟩
        ·exact .inr h4
       ·show(if e6=0 then N-(l++List.replicate (3+w) (l.getD (l.length-1) 0)).length+1 else 0)<(if(0:Int)=0 then N-l.length+1 else 0)
        rw[if_pos rfl,fJ]
        split<;>omega
    ·have q3:v≠16:=of_decide_eq_false q3
     rw[if_neg q3]at a8
     refine Qs ?_
     refine DD [.gone,.gone,.aX true (aj ls).length (bF (aj ls) lA),tO 5 lA gT cT (aj ls),.one true g9 (.ints .u8 l c9)] ?_
     refine Qs ?_
     refine mG (decide_eq_false q3) ?_
     refine Qs ?_
     refine And.intro (fun q4=>?_) (fun q4=>?_)
     ·have q4:v=17:=of_decide_eq_true q4
      subst q4
      rw[if_pos rfl]at a8
      refine Qs ?_
      refine p5 [.gone,.gone,.aX true (aj ls).length (bF (aj ls) lA),tO 5 lA gT cT (aj ls),.one true g9 (.ints .u8 l c9)] (n:=3) (.inl ⟨rfl,a8⟩) uf hr (by omega) (fun w s5 e5 hw AF py a8=>?_)
      have hKl:3≤3+w∧3+w≤138:=by omega
      have Rl:(3:Int)+(w:Int)=((3+w:Nat):Int):=by omega
      have wi:(e5=0∧(tg (bx (aj ls) []) N f l G (0:Int) (3+w)).run (unpack xs) lim s5=R)∨(e5≠0∧∃er,R=.error er):=by
       rcases a8 with⟨h1,h2⟩|h2
       ·exact .inl ⟨h1,by rw[←rV Rl];exact h2⟩
       ·exact .inr h2
      unfold tg at wi
      rw[show decide ((N:Int)<(l.length:Int)+((3+w:Nat):Int))=decide ((va:Int)+257+((vb:Int)+1)<(l.length:Int)+((3:Int)+(w:Int))) by rw[Va,Rl]]at wi
      have Xc:0≤(0:Int)∧(0:Int)<256:=⟨by decide,by decide⟩
      refine Qs ?_
      refine nu [.gone,.gone,.aX true (aj ls).length (bF (aj ls) lA),tO 5 lA gT cT (aj ls),.one true g9 (.ints .u8 l c9)] wi (by decide) (fun e6 Es=>?_)
      refine Qs ?_
      refine WO.go (σ:=Nat×Nat×Nat) (fun(i,g9,c9)=>i≤3+w∧l.length+i≤c9) (fun(i,_)=>3+w-i)
       (fun(i,g9,c9)=>[(0,.ptr 0 0 0),(2,.int .i64 ((va:Int)+257)),(3,.int .i64 ((vb:Int)+1)),(8,.sl 6 gT 0 (aj ls).length cT),(9,.sl 7 g9 0 (l.length+i) c9),(11,.int .u8 (0:Int)),(12,.int .i64 ((3:Int)+(w:Int))),(13,.int .i64 (i:Int))])
       (fun(i,g9,c9)=>J1 lim gr cr xs g c s5 e6 (aj ls) lA gT cT (l++List.replicate i (0:Int)) g9 c9) (0,g9,c9) ae mixed (by kernel_rfl)
       ⟨Nat.zero_le _,EE⟩ (aI rfl (aI rfl (aI rfl (aI rfl (aI rfl (aI rfl (aI rfl (aI rfl (trivial))))))))) (aI rfl (aI rfl (aI rfl (aI trivial (aI trivial (aI rfl (aI rfl (aI (by rw[List.replicate_zero,List.append_nil]) trivial)))))))) (fun _=>rfl) (fun _=>rfl) (fun _=>ur) ?_
      rintro⟨i,g8,c8⟩ ⟨hi,W6⟩ d8
      have fJ:(l++List.replicate i (0:Int)).length=l.length+i:=by rw[List.length_append,List.length_replicate]
      refine Qs ?_
      refine And.intro (fun r=>?_) (fun r=>?_)
      ·have r:i<3+w:=by have r:(i:Int)<(3:Int)+(w:Int):=of_decide_eq_true r;omega
       refine Qs ?_
       intro zs dk
       obtain rfl:zs=[(0:Int)]:=by rw[dk];rfl
       refine Qs ?_
       intro c4 jM
       have jM:l.length+i+1≤c4:=jM
       refine Qs ?_
       refine RO.same (i+1,g8+1,c4) ⟨r,by omega⟩ (show 3+w-(i+1)<3+w-i by omega) (aI rfl (aI rfl (aI rfl (aI rfl (aI rfl (aI rfl (aI rfl (aI rfl (trivial))))))))) (aI rfl (aI rfl (aI rfl (aI trivial (aI trivial (aI rfl (aI rfl (aI (congrArg (fun z=>AO.one true (g8+1) (.ints .u8 z c4)) ?_) trivial))))))))
       rw[List.replicate_succ',List.append_assoc,←List.append_assoc]
      ·have r:i=3+w:=by have r:¬(i:Int)<(3:Int)+(w:Int):=of_decide_eq_false r;omega
       subst r
       refine Qs ?_
       refine RO.same (f,l++List.replicate (3+w) (0:Int),g8,c8,s5,e6) ⟨by rw[fJ];exact W6,by rw[fJ];omega,?_,py,by rw[AF,Ez];exact qF,?_⟩ ?_ (aI rfl (aI rfl (aI rfl (aI rfl (aI (by rw[fJ];rfl) trivial))))) (aI rfl (aI rfl (aI rfl (aI trivial (aI trivial (aI rfl (aI rfl (aI rfl (trivial)))))))))
       ·intro x hx
        rcases List.mem_append.1 hx with h|h
        ·exact CE x h
        ·rw[List.eq_of_mem_replicate h];exact Xc
       ·rcases Es with⟨h1,h2,h3,h4⟩|h4
        ·have h3:¬(va:Int)+257+((vb:Int)+1)<(l.length:Int)+((3:Int)+(w:Int)):=of_decide_eq_false h3
         exact .inl ⟨h1,by rw[fJ];omega,by rw[fJ];omega,h4⟩
        ·exact .inr h4
       ·show(if e6=0 then N-(l++List.replicate (3+w) (0:Int)).length+1 else 0)<(if(0:Int)=0 then N-l.length+1 else 0)
        rw[if_pos rfl,fJ]
        split<;>omega
     ·have q4:v≠17:=of_decide_eq_false q4
      rw[if_neg q4]at a8
      obtain rfl:v=18:=by omega
      refine Qs ?_
      refine p5 [.gone,.gone,.aX true (aj ls).length (bF (aj ls) lA),tO 5 lA gT cT (aj ls),.one true g9 (.ints .u8 l c9)] (n:=7) (.inl ⟨rfl,a8⟩) uf hr (by omega) (fun w s5 e5 hw AF py a8=>?_)
      have hKl:3≤11+w∧11+w≤138:=by omega
      have Rl:(11:Int)+(w:Int)=((11+w:Nat):Int):=by omega
      have wi:(e5=0∧(tg (bx (aj ls) []) N f l G (0:Int) (11+w)).run (unpack xs) lim s5=R)∨(e5≠0∧∃er,R=.error er):=by
       rcases a8 with⟨h1,h2⟩|h2
       ·exact .inl ⟨h1,by rw[←rV Rl];exact h2⟩
       ·exact .inr h2
      unfold tg at wi
      rw[show decide ((N:Int)<(l.length:Int)+((11+w:Nat):Int))=decide ((va:Int)+257+((vb:Int)+1)<(l.length:Int)+((11:Int)+(w:Int))) by rw[Va,Rl]]at wi
      have Xc:0≤(0:Int)∧(0:Int)<256:=⟨by decide,by decide⟩
      refine Qs ?_
      refine nu [.gone,.gone,.aX true (aj ls).length (bF (aj ls) lA),tO 5 lA gT cT (aj ls),.one true g9 (.ints .u8 l c9)] wi (by decide) (fun e6 Es=>?_)
      refine Qs ?_
      refine WO.go (σ:=Nat×Nat×Nat) (fun(i,g9,c9)=>i≤11+w∧l.length+i≤c9) (fun(i,_)=>11+w-i)
       (fun(i,g9,c9)=>[(0,.ptr 0 0 0),(2,.int .i64 ((va:Int)+257)),(3,.int .i64 ((vb:Int)+1)),(8,.sl 6 gT 0 (aj ls).length cT),(9,.sl 7 g9 0 (l.length+i) c9),(11,.int .u8 (0:Int)),(12,.int .i64 ((11:Int)+(w:Int))),(13,.int .i64 (i:Int))])
       (fun(i,g9,c9)=>J1 lim gr cr xs g c s5 e6 (aj ls) lA gT cT (l++List.replicate i (0:Int)) g9 c9) (0,g9,c9) ae mixed (by kernel_rfl)
       ⟨Nat.zero_le _,EE⟩ (aI rfl (aI rfl (aI rfl (aI rfl (aI rfl (aI rfl (aI rfl (aI rfl (trivial))))))))) (aI rfl (aI rfl (aI rfl (aI trivial (aI trivial (aI rfl (aI rfl (aI (by rw[List.replicate_zero,List.append_nil]) trivial)))))))) (fun _=>rfl) (fun _=>rfl) (fun _=>ur) ?_
      rintro⟨i,g8,c8⟩ ⟨hi,W6⟩ d8
      have fJ:(l++List.replicate i (0:Int)).length=l.length+i:=by rw[List.length_append,List.length_replicate]
      refine Qs ?_
      refine And.intro (fun r=>?_) (fun r=>?_)
      ·have r:i<11+w:=by have r:(i:Int)<(11:Int)+(w:Int):=of_decide_eq_true r;omega
       refine Qs ?_
       intro zs dk
       obtain rfl:zs=[(0:Int)]:=by rw[dk];rfl
       refine Qs ?_
       intro c4 jM
       have jM:l.length+i+1≤c4:=jM
       refine Qs ?_
       refine RO.same (i+1,g8+1,c4) ⟨r,by omega⟩ (show 11+w-(i+1)<11+w-i by omega) (aI rfl (aI rfl (aI rfl (aI rfl (aI rfl (aI rfl (aI rfl (aI rfl (trivial))))))))) (aI rfl (aI rfl (aI rfl (aI trivial (aI trivial (aI rfl (aI rfl (aI (congrArg (fun z=>AO.one true (g8+1) (.ints .u8 z c4)) ?_) trivial))))))))
       rw[List.replicate_succ',List.append_assoc,←List.append_assoc]
      ·have r:i=11+w:=by have r:¬(i:Int)<(11:Int)+(w:Int):=of_decide_eq_false r;omega
       subst r
       refine Qs ?_
       refine RO.same (f,l++List.replicate (11+w) (0:Int),g8,c8,s5,e6) ⟨by rw[fJ];exact W6,by rw[fJ];omega,?_,py,by rw[AF,Ez];exact qF,?_⟩ ?_ (aI rfl (aI rfl (aI rfl (aI rfl (aI (by rw[fJ];rfl) trivial))))) (aI rfl (aI rfl (aI rfl (aI trivial (aI trivial (aI rfl (aI rfl (aI rfl (trivial)))))))))
       ·intro x hx
        rcases List.mem_append.1 hx with h|h
        ·exact CE x h
        ·rw[List.eq_of_mem_replicate h];exact Xc
       ·rcases Es with⟨h1,h2,h3,h4⟩|h4
        ·have h3:¬(va:Int)+257+((vb:Int)+1)<(l.length:Int)+((11:Int)+(w:Int)):=of_decide_eq_false h3
         exact .inl ⟨h1,by rw[fJ];omega,by rw[fJ];omega,h4⟩
        ·exact .inr h4
       ·show(if e6=0 then N-(l++List.replicate (11+w) (0:Int)).length+1 else 0)<(if(0:Int)=0 then N-l.length+1 else 0)
        rw[if_pos rfl,fJ]
        split<;>omega
  ·have q:¬l.length<N:=by have q:¬(l.length:Int)<(va:Int)+257+((vb:Int)+1):=of_decide_eq_false q;omega
   rw[gp,if_pos (by omega)]at a8
   have aa1:l.length=va+257+(vb+1):=by omega
   have eO:bT c9 ((va:Int)+257).toNat 0 1=va+257:=by unfold bT;rw[if_neg (by omega)];omega
   have TJ:((0:Int)=0∧(if decide (l.getD (Int.toNat 256+0) 0=0)=true then .fail 80 else(gH (l.take (va+257))).bind fun A=>(gH (l.drop (va+257))).bind fun B=>dQ A B FU:DP Unit).run (unpack xs) lim s3=R)∨((0:Int)≠0∧∃er,R=.error er):=by
    refine .inl ⟨rfl,?_⟩
    have a8:(G l).run (unpack xs) lim s3=R:=a8
    rw[←hG]at a8
    simp only at a8
    rw[show Int.toNat 256+0=256 from rfl]
    by_cases h:l.getD 256 0=0
    ·rw[if_pos h]at a8
     rw[if_pos (decide_eq_true h)];exact a8
    ·rw[if_neg h]at a8
     rw[if_neg (fun x=>h (of_decide_eq_true x))];exact a8
   refine Qs ?_
   refine nu [.gone,.gone,.aX true (aj ls).length (bF (aj ls) lA),tO 5 lA gT cT (aj ls),.one true g9 (.ints .u8 l c9)] TJ (by decide) (fun e6 Es=>?_)
   rcases Es with⟨h1,h2,h3,a8⟩|⟨Zt,er,hE⟩
   rotate_left
   ·refine Qs ?_
    refine oJ [.gone,.gone,.aX true (aj ls).length (bF (aj ls) lA),tO 5 lA gT cT (aj ls),.one true g9 (.ints .u8 l c9)] 4 rfl (Nat.zero_le _) Zt ?_
    refine Qs ?_
    refine oJ [.gone,.gone,.aX true (aj ls).length (bF (aj ls) lA),tO 5 lA gT cT (aj ls),.one true g9 (.ints .u8 l c9)] 4 rfl (by show bT c9 ((va:Int)+257).toNat 0 1≤c9;rw[eO];omega) Zt ?_
    refine Qs ?_
    refine Il [.gone,.gone,.aX true (aj ls).length (bF (aj ls) lA),tO 5 lA gT cT (aj ls),.one true g9 (.ints .u8 l c9)] Zt ?_
    refine Qs ?_
    exact⟨_,_,_,bV (M:=sH lim gr cr xs g c s3 e6) fQ lZ rfl,h1 er g c s3 e6 hE Zt iV⟩
   ·subst h1
    have hTA:=om (l.take (va+257))
    have hTB:=om (l.drop (va+257))
    have eA:(l.take (va+257)).length=va+257:=by rw[List.length_take];omega
    have eB:(l.drop (va+257)).length=vb+1:=by rw[List.length_drop];omega
    have b3:∀x∈s3.out,0≤x∧x<256:=by rw[qF,rT,EA];exact hb
    refine Qs ?_
    rw[show AV.sl 7 g9 0 ((va:Int)+257).toNat c9=.sl (4+3) g9 0 (l.take (va+257)).length c9 by rw[eA];rfl]
    refine vn [.gone,.gone,.aX true (aj ls).length (bF (aj ls) lA),tO 5 lA gT cT (aj ls),.one true g9 (.ints .u8 l c9)] 4 a8 rfl (by rw[List.drop_zero,eA]) (by rw[eA];omega) (by omega) (fun x hx=>CE x (List.mem_of_mem_take hx)) (fun gA cA Vf Zw a8 Wc=>?_) (fun gA cA Vf e' Zw qI hE=>?_)
    rotate_left
    ·refine Qs ?_
     refine oJ [.gone,.gone,.aX true (aj ls).length (bF (aj ls) lA),tO 5 lA gT cT (aj ls),.one true g9 (.ints .u8 l c9),.aX true (aj (l.take (va+257))).length (bF (aj (l.take (va+257))) Vf),tO 8 Vf gA cA (aj (l.take (va+257)))] 4 rfl (by show bT c9 ((va:Int)+257).toNat 0 1≤c9;rw[eO];omega) qI ?_
     refine Qs ?_
     refine BL (iS:=0) (iR:=1) (iO:=2) (a1:=8) (a2:=9) rfl rfl rfl rfl rfl rfl qI ?_
     refine Qs ?_
     exact⟨_,_,_,bV (M:=sH lim gr cr xs g c s3 e') fQ lZ rfl,h1 e' g c s3 e' hE qI iV⟩
    have eD:AV.sl 7 g9 (bT c9 ((va:Int)+257).toNat 0 1) (l.length-((va:Int)+257).toNat) (c9-((va:Int)+257).toNat)=.sl (4+3) g9 (va+257) (l.drop (va+257)).length (c9-(va+257)):=by
     rw[eO,eB,show((va:Int)+257).toNat=va+257 by omega,show l.length-(va+257)=vb+1 by omega]
    refine Qs ?_
    rw[show AV.sl 7 g9 (bT c9 ((va:Int)+257).toNat 0 ({k:=TK.int IntKind.u8,size:=1,bytes:=1,zero:=[AV.int IntKind.u8 0]}:TI).size) (l.length-((va:Int)+257).toNat) (c9-((va:Int)+257).toNat)=.sl (4+3) g9 (va+257) (l.drop (va+257)).length (c9-(va+257))from eD]
    refine vn [.gone,.gone,.aX true (aj ls).length (bF (aj ls) lA),tO 5 lA gT cT (aj ls),.one true g9 (.ints .u8 l c9),.aX true (aj (l.take (va+257))).length (bF (aj (l.take (va+257))) Vf),tO 8 Vf gA cA (aj (l.take (va+257)))] 4 a8 rfl (by rw[eB,List.take_of_length_le (by omega)]) (by rw[eB];omega) (by omega) (fun x hx=>CE x (List.mem_of_mem_drop hx)) (fun gB cB cvB hcB a8 hzB=>?_) (fun gB cB cvB e' hcB qI hE=>?_)
    rotate_left
    ·refine Qs ?_
     refine BK (iS:=0) (iR:=1) (iO:=2) (a1:=8) (a2:=9) (b1:=10) (b2:=11) rfl rfl rfl rfl rfl rfl rfl rfl qI ?_
     refine Qs ?_
     exact⟨_,_,_,bV (M:=sH lim gr cr xs g c s3 e') fQ lZ rfl,h1 e' g c s3 e' hE qI iV⟩
    refine Qs ?_
    refine yi (iS:=0) (iR:=1) (iO:=2) (a1:=8) (a2:=9) (b1:=10) (b2:=11) (f0:=FU) rfl rfl rfl rfl rfl rfl rfl rfl iV hr b3 (by omega) (by omega) (by omega) (by omega) (by have:=Bf;have:=iV.ll;omega) a8 (fun g' c' s' hE rQ na=>?_) (fun er g' c' s' e' hE qI rQ=>?_)
    ·refine Qs ?_
     exact⟨_,_,_,bV (M:=sH lim gr cr xs g' c' s' 0) fQ lZ rfl,h0 g' c' s' hE rQ na⟩
    ·refine Qs ?_
     exact⟨_,_,_,bV (M:=sH lim gr cr xs g' c' s' e') fQ lZ rfl,h1 er g' c' s' e' hE qI rQ⟩
end
end Go.Proofs.Ytibadaomjlkoaaa
open Go.RowKit
namespace Go.Proofs.Ytibadaomjlkoaaa
set_option maxRecDepth 10000
section
variable{K Kp:AV→AH→Prop}{xs:List Int}{lim gr cr cx g c co:Nat}{s:DS}{e:Int}
def iH (co lim gr cr:Nat)(xs:List Int)(g c:Nat)(s:DS)(e:Int):AH:=[.one false 0 (.ints .u8 xs co),SZ gr cr xs,QK 1 3 lim gr cr xs g c s e,S0 g c s]
theorem Wa:kq 4 (iH co lim gr cr xs g c s e):=⟨trivial,trivial,by simp[QK,af.nb,AV.qi,AV.nb,AO.nb],trivial,trivial⟩
theorem Ea (E:AH){n:Nat}{β:Type}{k:Int→DP β}{R:Except Int (β×DS)}(a8:(e=0∧(DP.get n k).run (unpack xs) lim s=R)∨(e≠0∧∃er,R=.error er))(ok:cZ xs lim c s)(hr:(unpack xs).length≤cr)(hn:n≤16)
 (h:∀(v:Nat) s' e',v<2^n→s'.out=s.out→(e'=0→s'.a=s.a+n)→cZ xs lim c s'→((e'=0∧(k v).run (unpack xs) lim s'=R)∨(e'≠0∧∃er,R=.error er))→K (.int .i64 (v:Int)) (iH co lim gr cr xs g c s' e'++E)):
 aa Try.prog 20 [.ptr 2 0 0,.int .i64 (n:Int)] (iH co lim gr cr xs g c s e++E) K Kp:=by
 refine zY (iS:=2) (iR:=1) (iO:=3) (l:=[.int .i64 (n:Int)]) rfl rfl rfl ?_ (fun _ _=>rfl) rfl
 rcases a8 with⟨he,hR⟩|⟨he,hE⟩
 ·subst he
  exact p6 [] hR ok hr hn (fun v s' h1 h2 h3 h4 h5=>⟨g,c,s',0,rfl,fun _ _=>rfl,h v s' 0 h1 h2 (fun _=>h3) h4 (.inl ⟨rfl,h5⟩)⟩) (fun hE=>⟨g,c,s,50,rfl,fun _ _=>rfl,h 0 s 50 (Nat.two_pow_pos n) rfl (fun h=>absurd h (by decide)) ok (.inr ⟨by decide,50,hE⟩)⟩)
 ·exact ve [] he ⟨g,c,s,e,rfl,fun _ _=>rfl,h 0 s e (Nat.two_pow_pos n) rfl (fun h=>absurd h he) ok (.inr ⟨he,hE⟩)⟩
theorem HU {f:Nat}{p:DP Unit}(hf:(f=21∧p=jc)∨(f=25∧p=Cb))(ok:cZ xs lim c s)(hr:(unpack xs).length≤cr)(hb:∀x∈s.out,0≤x∧x<256){R:Except Int (Unit×DS)}(hR:p.run (unpack xs) lim s=R)
 (h0:∀g' c' s',R=.ok ((),s')→cZ xs lim c' s'→(∀x∈s'.out,0≤x∧x<256)→K (.aE []) (iH co lim gr cr xs g' c' s' 0))
 (h1:∀er g' c' s' e',R=.error er→e'≠0→cZ xs lim c' s'→K (.aE []) (iH co lim gr cr xs g' c' s' e')):
 aa Try.prog f [.ptr 2 0 0] (iH co lim gr cr xs g c s 0) K Kp:=by
 refine zY (iS:=2) (iR:=1) (iO:=3) (l:=[]) rfl rfl rfl ?_ (fun _ _=>rfl) rfl
 rcases hf with⟨rfl,rfl⟩|⟨rfl,rfl⟩
 ·exact zO ok hr hb hR (fun g' c' s' a b d=>⟨g',c',s',0,rfl,fun _ _=>rfl,h0 g' c' s' a b d⟩) (fun er g' c' s' e' a b d=>⟨g',c',s',e',rfl,fun _ _=>rfl,h1 er g' c' s' e' a b d⟩)
 ·exact Ix ok hr hb hR (fun g' c' s' a b d=>⟨g',c',s',0,rfl,fun _ _=>rfl,h0 g' c' s' a b d⟩) (fun er g' c' s' e' a b d=>⟨g',c',s',e',rfl,fun _ _=>rfl,h1 er g' c' s' e' a b d⟩)
theorem Iv {M:AH}(h:∀g1 c1 g2 c2,288≤c1→32≤c2→K (.aE [.sl M.length g1 0 288 c1,.sl (M.length+1) g2 0 32 c2]) (M++[.one true g1 (.ints .u8 bG c1),.one true g2 (.ints .u8 dC c2)])):aa Try.prog 22 [] M K Kp:=by
 refine aa.lift [] (BT (K:=fun r N=>∃g1 c1 g2 c2,288≤c1∧32≤c2∧r=.aE [.sl 0 g1 0 288 c1,.sl 1 g2 0 32 c2]∧N=[.one true g1 (.ints .u8 bG c1),.one true g2 (.ints .u8 dC c2)]) (Kp:=fun _ _=>False) (fun g1 c1 g2 c2 a b=>⟨g1,c1,g2,c2,a,b,rfl,rfl⟩)) rfl rfl trivial trivial ?_ (fun _ _ h=>h.elim)
 rintro r M' ⟨g1,c1,g2,c2,a,b,rfl,rfl⟩
 exact⟨rfl,h g1 c1 g2 c2 a b⟩
theorem uE:∀o∈[AO.one false 0 (.ints .u8 xs co)],(o.ec||(o.DB&&!o.ec))=true:=fun o ho=>by rw[List.mem_singleton.1 ho];rfl
theorem En {n0:Nat}{limit:Int}(uG:xs.length≤1000000)(sR:∀x∈xs,0≤x∧x<256)(iP:limit<9223372036854775808)(Ra:xs.length≤n0)(wu:n0≤co)
 (h1:limit<0∨524288<limit→K (.aE [.ns,.int .i64 0,.int .i64 1]) [.one false 0 (.ints .u8 xs co)])
 (h2:∀g c s,0≤limit→limit≤524288→jJ xs limit.toNat=.ok ((),s)→cZ xs limit.toNat c s→(∀x∈s.out,0≤x∧x<256)→K (.aE [.sl 1 g 0 s.out.length c,.int .i64 (((s.a+7)/8:Nat):Int),.int .i64 0]) [.one false 0 (.ints .u8 xs co),.one true g (.ints .u8 s.out c)])
 (h3:∀er e,0≤limit→limit≤524288→jJ xs limit.toNat=.error er→e≠0→K (.aE [.ns,.int .i64 0,.int .i64 e]) [.one false 0 (.ints .u8 xs co)]):
 aa Try.prog 9 [.sl 0 0 0 xs.length n0,.int .i64 limit] [.one false 0 (.ints .u8 xs co)] K Kp:=by
 refine aa.cQ ?_
 refine Vk (fun _=>[2]) [] rfl ?_
 refine Qs ?_
 refine And.intro (fun hA=>?_) (fun hA=>?_)
 ·have hA:limit<0:=of_decide_eq_true hA
  refine Qs ?_
  exact⟨_,_,_,bV (M:=[.one false 0 (.ints .u8 xs co)]) (E:=[]) ⟨trivial,trivial⟩ (fun o ho=>by rw[List.mem_singleton.1 ho];rfl) rfl,h1 (.inl hA)⟩
 have hA:¬limit<0:=of_decide_eq_false hA
 refine Qs ?_
 refine And.intro (fun hB=>?_) (fun hB=>?_)
 ·have hB:524288<limit:=of_decide_eq_true hB
  refine Qs ?_
  exact⟨_,_,_,bV (M:=[.one false 0 (.ints .u8 xs co)]) (E:=[]) ⟨trivial,trivial⟩ (fun o ho=>by rw[List.mem_singleton.1 ho];rfl) rfl,h1 (.inr hB)⟩
 have hB:¬524288<limit:=of_decide_eq_false hB
 obtain⟨lim,rfl⟩:=Int.eq_ofNat_of_zero_le (show 0≤limit by omega)
 rw[Int.toNat_natCast]at h2 h3
 have y6:lim≤524288:=by omega
 have uh:=aL xs
 obtain⟨R,hR⟩:∃R,jJ xs lim=R:=⟨_,rfl⟩
 rw[hR]at h2 h3
 rw[nR]at hR
 refine Qs ?_
 refine NQ (i:=0) (xs:=xs) rfl rfl (by omega) sR fun gr cr hcr=>?_
 refine Qs ?_
 refine WO.Dv (σ:=Nat×Nat×Nat×DS×Int×Int) (fun(f,g,c,s,last,e)=>cZ xs lim c s∧((e=0∧(∀x∈s.out,0≤x∧x<256)∧8*xs.length<f+s.a∧(if last=0 then(il f).run (unpack xs) lim s else .ok ((),s))=R)∨(e≠0∧∃er,R=.error er)))
  (fun(f,g,c,s,last,e)=>if e=0 then 8*xs.length-s.a+1 else 0)
  (fun(f,g,c,s,last,e)=>[(7,.ptr 2 0 0),(8,.int .i64 last)]) (fun(f,g,c,s,last,e)=>iH co lim gr cr xs g c s e) (FI,0,0,⟨0,[]⟩,0,0) ae mixed (by kernel_rfl)
  [(7,.ptr 2 0 0),(8,.int .i64 0)] _ ⟨⟨uG,sR,Nat.zero_le _,by omega,Nat.zero_le _,Nat.zero_le _⟩,.inl ⟨rfl,fun x hx=>(by cases hx),by show 8*xs.length<FI+0;unfold FI;omega,by rw[if_pos rfl];exact hR⟩⟩ (aI rfl (aI rfl (trivial))) rfl
  (Vw.ghost (i:=2) (k:=2) (x:=.ints .u8 [] 0) rfl rfl ⟨rfl,rfl⟩) (aI rfl (aI rfl (aI rfl (aI rfl (trivial))))) (fun _=>rfl) (fun _=>rfl) (fun _=>Wa) ?_
 rintro⟨f,g,c,s,last,e⟩ ⟨ok,a8⟩ d0
 rcases a8 with⟨he,hb,hf,hR⟩|⟨he,er,hE⟩
 rotate_left
 ·refine Qs ?_
  refine And.intro (fun q=>?_) (fun q=>?_)
  ·refine Qs ?_
   refine mG (decide_eq_false he) ?_
   refine Qs ?_
   refine fi (by simpa using he) ?_
   refine Qs ?_
   exact⟨_,_,_,bV (M:=[.one false 0 (.ints .u8 xs co)]) ⟨trivial,trivial⟩ uE rfl,h3 er e (by omega) (by omega) hE he⟩
  ·refine Qs ?_
   refine fi (by simpa using he) ?_
   refine Qs ?_
   exact⟨_,_,_,bV (M:=[.one false 0 (.ints .u8 xs co)]) ⟨trivial,trivial⟩ uE rfl,h3 er e (by omega) (by omega) hE he⟩
 subst he
 refine Qs ?_
 refine And.intro (fun q=>?_) (fun q=>?_)
 rotate_left
 ·have q:¬last=0:=of_decide_eq_false q
  rw[if_neg q]at hR
  have W9:=ok.al
  have aa6:=ok.xl
  have ed:((s.a:Int)+7).tdiv 8=(((s.a+7)/8:Nat):Int):=by rw[Int.tdiv_eq_ediv_of_nonneg (by omega)];omega
  refine Qs ?_
  rw[ed]
  refine⟨[.dE 0,.own 3],.aE [.sl 1 g 0 s.out.length c,.int .i64 (((s.a+7)/8:Nat):Int),.int .i64 0],[.one false 0 (.ints .u8 xs co),.one true g (.ints .u8 s.out c)],⟨⟨⟨rfl,_,rfl,rfl⟩,⟨rfl,rfl⟩,trivial⟩,rfl,⟨trivial,trivial,trivial⟩,rfl,fun i hi=>?_⟩,h2 g c s (by omega) (by omega) hR.symm ok hb⟩
  match i,hi with
  |0,_=>exact .inr rfl
 have q:last=0:=of_decide_eq_true q
 rw[if_pos q]at hR
 subst q
 have W9:=ok.al
 obtain⟨f,rfl⟩:∃f',f=f'+1:=⟨f-1,by omega⟩
 rw[il]at hR
 refine Qs ?_
 refine Ea [] (n:=1) (.inl ⟨rfl,hR⟩) ok (by omega) (by omega) (fun last s1 e1 hv EA Js mZ a8=>?_)
 refine Qs ?_
 rcases a8 with⟨Zu,hR⟩|⟨Zu,er,hE⟩
 rotate_left
 ·refine Ea [] (n:=2) (k:=fun _=>DP.ret ()) (.inr ⟨Zu,er,hE⟩) mZ (by omega) (by omega) (fun k s2 e2 hk rT qJ iw a8=>?_)
  rcases a8 with⟨CG,qK⟩|⟨CG,er2,Xo⟩
  ·exfalso
   rw[hE]at qK;cases qK
  refine Qs ?_
  refine fi (by simpa using CG) ?_
  refine Qs ?_
  refine fi (by simpa using CG) ?_
  refine Qs ?_
  exact⟨_,_,_,bV (M:=[.one false 0 (.ints .u8 xs co)]) ⟨trivial,trivial⟩ uE rfl,h3 er e2 (by omega) (by omega) hE CG⟩
 subst Zu
 refine Ea [] (n:=2) (.inl ⟨rfl,hR⟩) mZ (by omega) (by omega) (fun k s2 e2 hk rT qJ iw a8=>?_)
 rcases a8 with⟨CG,hR⟩|⟨CG,er,hE⟩
 rotate_left
 ·refine Qs ?_
  refine fi (by simpa using CG) ?_
  refine Qs ?_
  refine fi (by simpa using CG) ?_
  refine Qs ?_
  exact⟨_,_,_,bV (M:=[.one false 0 (.ints .u8 xs co)]) ⟨trivial,trivial⟩ uE rfl,h3 er e2 (by omega) (by omega) hE CG⟩
 subst CG
 have Js:=Js rfl
 have qJ:=qJ rfl
 have gm:∀x∈s2.out,0≤x∧x<256:=by rw[rT,EA];exact hb
 rw[DP.run_bind]at hR
 obtain⟨R2,qK⟩:∃R2,(gJ k).run (unpack xs) lim s2=R2:=⟨_,rfl⟩
 rw[qK]at hR
 obtain rfl|rfl|rfl|rfl:k=0∨k=1∨k=2∨k=3:=by omega
 ·refine Qs ?_
  refine HU (.inl ⟨rfl,rfl⟩) iw (by omega) gm qK (fun g' c' s' hE rQ na=>?_) (fun er g' c' s' e' hE qI rQ=>?_)
  ·refine Qs ?_
   have aN:=DP.l6 _ _ iw.ol (qK.trans hE)
   rw[hE]at hR
   refine RO.same (f,g',c',s',(last:Int),0) ⟨rQ,.inl ⟨rfl,na,by have:=aN.2.2;omega,?_⟩⟩ ?_ (aI rfl (aI rfl (trivial))) (aI rfl (aI rfl (aI rfl (aI rfl (trivial)))))
   ·have hR:((if(last:Int)=0 then il f else .ret ():DP Unit).run (unpack xs) lim s')=R:=hR
    rw[←hR]
    split<;>rfl
   ·show(if(0:Int)=0 then 8*xs.length-s'.a+1 else 0)<(if(0:Int)=0 then 8*xs.length-s.a+1 else 0)
    rw[if_pos rfl,if_pos rfl]
    have:=aN.2.2
    have:=rQ.al
    omega
  ·refine Qs ?_
   refine RO.same (f,g',c',s',(last:Int),e') ⟨rQ,.inr ⟨qI,er,by rw[hE]at hR;exact hR.symm⟩⟩ ?_ (aI rfl (aI rfl (trivial))) (aI rfl (aI rfl (aI rfl (aI rfl (trivial)))))
   show(if e'=0 then 8*xs.length-s'.a+1 else 0)<(if(0:Int)=0 then 8*xs.length-s.a+1 else 0)
   rw[if_neg qI,if_pos rfl];omega
 ·refine Qs ?_
  refine Iv fun g1 c1 g2 c2 pD JY=>?_
  refine Qs ?_
  refine vo (iS:=2) (iR:=1) (iO:=3) (iL:=4) (ls:=bG) rfl rfl rfl rfl rfl (by rw[List.drop_zero,List.take_length]) (by show 0+288≤c1;omega) (by decide) (by decide) rfl (fun gA cA Vf Zw=>?_)
  rw[sZ]
  refine Qs ?_
  refine vo (iS:=2) (iR:=1) (iO:=3) (iL:=5) (ls:=dC) rfl rfl rfl rfl rfl (by rw[List.drop_zero,List.take_length]) (by show 0+32≤c2;omega) (by decide) (by decide) rfl (fun gB cB cvB hcB=>?_)
  rw[show aB dC=0 by decide+kernel]
  refine Qs ?_
  refine yi (iS:=2) (iR:=1) (iO:=3) (a1:=6) (a2:=7) (b1:=8) (b2:=9) (f0:=FU) rfl rfl rfl rfl rfl rfl rfl rfl iw (by omega) gm (by decide) (by decide) (by have:=om bG;have:bG.length=288:=rfl;omega) (by have:=om dC;have:dC.length=32:=rfl;omega) (by have:=Bf;omega) (vI▸qK) (fun g' c' s' hE rQ na=>?_) (fun er g' c' s' e' hE qI rQ=>?_)
  ·refine Qs ?_
   have aN:=DP.l6 _ _ iw.ol (qK.trans hE)
   rw[hE]at hR
   refine RO.same (f,g',c',s',(last:Int),0) ⟨rQ,.inl ⟨rfl,na,by have:=aN.2.2;omega,?_⟩⟩ ?_ (aI rfl (aI rfl (trivial))) (aI rfl (aI rfl (aI rfl (aI rfl (trivial)))))
   ·have hR:((if(last:Int)=0 then il f else .ret ():DP Unit).run (unpack xs) lim s')=R:=hR
    rw[←hR]
    split<;>rfl
   ·show(if(0:Int)=0 then 8*xs.length-s'.a+1 else 0)<(if(0:Int)=0 then 8*xs.length-s.a+1 else 0)
    rw[if_pos rfl,if_pos rfl]
    have:=aN.2.2
    have:=rQ.al
    omega
  ·refine Qs ?_
   refine RO.same (f,g',c',s',(last:Int),e') ⟨rQ,.inr ⟨qI,er,by rw[hE]at hR;exact hR.symm⟩⟩ ?_ (aI rfl (aI rfl (trivial))) (aI rfl (aI rfl (aI rfl (aI rfl (trivial)))))
   show(if e'=0 then 8*xs.length-s'.a+1 else 0)<(if(0:Int)=0 then 8*xs.length-s.a+1 else 0)
   rw[if_neg qI,if_pos rfl];omega
 ·refine Qs ?_
  refine HU (.inr ⟨rfl,rfl⟩) iw (by omega) gm qK (fun g' c' s' hE rQ na=>?_) (fun er g' c' s' e' hE qI rQ=>?_)
  ·refine Qs ?_
   have aN:=DP.l6 _ _ iw.ol (qK.trans hE)
   rw[hE]at hR
   refine RO.same (f,g',c',s',(last:Int),0) ⟨rQ,.inl ⟨rfl,na,by have:=aN.2.2;omega,?_⟩⟩ ?_ (aI rfl (aI rfl (trivial))) (aI rfl (aI rfl (aI rfl (aI rfl (trivial)))))
   ·have hR:((if(last:Int)=0 then il f else .ret ():DP Unit).run (unpack xs) lim s')=R:=hR
    rw[←hR]
    split<;>rfl
   ·show(if(0:Int)=0 then 8*xs.length-s'.a+1 else 0)<(if(0:Int)=0 then 8*xs.length-s.a+1 else 0)
    rw[if_pos rfl,if_pos rfl]
    have:=aN.2.2
    have:=rQ.al
    omega
  ·refine Qs ?_
   refine RO.same (f,g',c',s',(last:Int),e') ⟨rQ,.inr ⟨qI,er,by rw[hE]at hR;exact hR.symm⟩⟩ ?_ (aI rfl (aI rfl (trivial))) (aI rfl (aI rfl (aI rfl (aI rfl (trivial)))))
   show(if e'=0 then 8*xs.length-s'.a+1 else 0)<(if(0:Int)=0 then 8*xs.length-s.a+1 else 0)
   rw[if_neg qI,if_pos rfl];omega
 ·refine Qs ?_
  refine zY (iS:=2) (iR:=1) (iO:=3) (l:=[.tt,.int .i64 80]) (s:=s2) (e:=0) rfl rfl rfl (yc [] (R:=R2) (.inl ⟨rfl,qK⟩) (by decide) (fun e' er qI hE=>⟨g,c,s2,e',rfl,fun _ _=>rfl,?_⟩)) (fun _ _=>rfl) rfl
  refine Qs ?_
  refine RO.same (f,g,c,s2,(last:Int),e') ⟨iw,.inr ⟨qI,er,by rw[hE]at hR;exact hR.symm⟩⟩ ?_ (aI rfl (aI rfl (trivial))) (aI rfl (aI rfl (aI rfl (aI rfl (trivial)))))
  show(if e'=0 then 8*xs.length-s2.a+1 else 0)<(if(0:Int)=0 then 8*xs.length-s.a+1 else 0)
  rw[if_neg qI,if_pos rfl];omega
theorem Lw {M:AH}{i g n n0 co:Nat}{o:Bool}{limit:Int}(hi:M[i]?=some (.one o g (.ints .u8 xs co)))(hn:n=xs.length)(uG:xs.length≤1000000)(sR:∀x∈xs,0≤x∧x<256)(iP:limit<9223372036854775808)(Ra:xs.length≤n0)(wu:n0≤co)
 (h1:limit<0∨524288<limit→K (.aE [.ns,.int .i64 0,.int .i64 1]) M)
 (h2:∀g c s,0≤limit→limit≤524288→jJ xs limit.toNat=.ok ((),s)→cZ xs limit.toNat c s→(∀x∈s.out,0≤x∧x<256)→K (.aE [.sl M.length g 0 s.out.length c,.int .i64 (((s.a+7)/8:Nat):Int),.int .i64 0]) (M++[.one true g (.ints .u8 s.out c)]))
 (h3:∀er e,0≤limit→limit≤524288→jJ xs limit.toNat=.error er→e≠0→K (.aE [.ns,.int .i64 0,.int .i64 e]) M):
 aa Try.prog 9 [.sl i g 0 n n0,.int .i64 limit] M K Kp:=by
 subst hn
 refine aa.lift [.cP i g 0] (En (co:=co) (n0:=n0) (K:=fun r N=>(∃e,r=.aE [.ns,.int .i64 0,.int .i64 e]∧N=[.one false 0 (.ints .u8 xs co)]∧K (.aE [.ns,.int .i64 0,.int .i64 e]) M)∨∃g c s,r=.aE [.sl 1 g 0 s.out.length c,.int .i64 (((s.a+7)/8:Nat):Int),.int .i64 0]∧N=[.one false 0 (.ints .u8 xs co),.one true g (.ints .u8 s.out c)]∧K (.aE [.sl M.length g 0 s.out.length c,.int .i64 (((s.a+7)/8:Nat):Int),.int .i64 0]) (M++[.one true g (.ints .u8 s.out c)])) (Kp:=fun _ _=>False) uG sR iP Ra wu
  (fun h=>.inl ⟨1,rfl,rfl,h1 h⟩) (fun g c s a b d e f=>.inr ⟨g,c,s,rfl,rfl,h2 g c s a b d e f⟩) (fun er e a b d f=>.inl ⟨e,rfl,rfl,h3 er e a b d f⟩)) rfl rfl ⟨⟨_,_,_,rfl,ao hi,cq.same rfl (fun h=>h)⟩,trivial⟩ ⟨trivial,trivial⟩ ?_ (fun _ _ h=>h.elim)
 rintro r M' (⟨e,rfl,rfl,h⟩|⟨g,c,s,rfl,rfl,h⟩)
 ·rw[←List.append_nil M]at h
  exact⟨⟨rfl,rfl⟩,h⟩
 ·exact⟨⟨rfl,rfl⟩,h⟩
end
end Go.Proofs.Ytibadaomjlkoaaa
