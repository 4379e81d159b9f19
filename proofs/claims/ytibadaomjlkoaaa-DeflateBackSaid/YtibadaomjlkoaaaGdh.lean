import Derived.Test.YtibadaomjlkoaaaGdg
import Derived.Test.YtibadaomjlkoaaaGdc
set_option linter.unusedVariables false
set_option linter.unusedSimpArgs false
open Go.RowKit
namespace Go.Proofs.Ytibadaomjlkoaaa
set_option maxRecDepth 10000
section
variable{K Kp:AV→AH→Prop}{xs:List Int}
theorem x5 {co n0:Nat}{limit:Int}(wG:xs.length≤1000000)(yb:∀x∈xs,0≤x∧x<256)(jc:limit<9223372036854775808)
 (h1:limit<0∨524288<limit→K (.aL [.ns,.int .i64 0,.int .i64 1]) [.one false 0 (.ints .u8 xs co)])
 (h2:∀g c s,0≤limit→limit≤524288→(jC FI).run (unpack xs) limit.toNat ⟨0,[]⟩=.ok ((),s)→gW xs limit.toNat c s→(∀x∈s.out,0≤x∧x<256)→K (.aL [.sl 1 g 0 s.out.length c,.int .i64 (((s.a+7)/8:Nat):Int),.int .i64 0]) [.one false 0 (.ints .u8 xs co),.one true g (.ints .u8 s.out c)])
 (h3:∀e,0≤limit→limit≤524288→(jC FI).run (unpack xs) limit.toNat ⟨0,[]⟩=.error e→K (.aL [.ns,.int .i64 0,.int .i64 e]) [.one false 0 (.ints .u8 xs co)]):
 aa Try.prog 13 [.sl 0 0 0 xs.length n0,.int .i64 limit] [.one false 0 (.ints .u8 xs co)] K Kp:=by
 refine aa.de ?_
 refine aa.Qa (x:=WG (fun _=>[6]) []) ag mixed Try.func13 (rfl:Try.f13.body=some Je) (by kernel_rfl) Lg rfl rfl rfl 2 rfl (by kernel_rfl) rfl (by kernel_rfl) ?_
 refine Qs ?_
 refine And.intro (fun hA=>?_) (fun hA=>?_)
 ·have IK:limit<0:=by simpa using hA
  refine Qs ?_
  exact⟨_,_,_,jn (M:=[.one false 0 (.ints .u8 xs co)]) (E:=[_,_,_]) ⟨trivial,trivial⟩ (fun o ho=>by rw[List.mem_singleton.1 ho];rfl) rfl,h1 (.inl IK)⟩
 have IK:¬limit<0:=by simpa using hA
 refine Qs ?_
 refine And.intro (fun hB=>?_) (fun hB=>?_)
 ·have QL:524288<limit:=by simpa using hB
  refine Qs ?_
  exact⟨_,_,_,jn (M:=[.one false 0 (.ints .u8 xs co)]) (E:=[_,_,_]) ⟨trivial,trivial⟩ (fun o ho=>by rw[List.mem_singleton.1 ho];rfl) rfl,h1 (.inr QL)⟩
 have QL:¬524288<limit:=by simpa using hB
 obtain⟨lim,rfl⟩:=Int.eq_ofNat_of_zero_le (show 0≤limit by omega)
 rw[Int.toNat_natCast]at h2 h3
 have Ir:lim≤524288:=by omega
 have Eu:=bw xs
 obtain⟨R,hR⟩:∃R,(jC FI).run (unpack xs) lim ⟨0,[]⟩=R:=⟨_,rfl⟩
 rw[hR]at h2 h3
 refine Qs ?_
 refine OQ (i:=0) (xs:=xs) rfl rfl (by omega) fun gb cb Y0=>?_
 refine Qs ?_
 refine WO.Md (σ:=Nat×Nat×Nat×DS×Int) (fun(f,g,c,s,last)=>gW xs lim c s∧(∀x∈s.out,0≤x∧x<256)∧8*xs.length<f+s.a∧(if last=0 then(jC f).run (unpack xs) lim s else .ok ((),s))=R) (fun(f,g,c,s,last)=>8*xs.length-s.a)
  (fun(f,g,c,s,last)=>[(4,.ptr 1 0 0),(5,.ptr 2 0 0),(6,.ptr 3 0 0),(7,.ptr 6 0 0),(8,.ptr 7 0 0),(9,.int .i64 last)]) (fun(f,g,c,s,last)=>zI co lim gb cb xs .ns (.int .i64 0) (.int .i64 0) g c s) (FI,0,0,⟨0,[]⟩,0) ag mixed (by kernel_rfl)
  [(4,.ptr 1 0 0),(5,.ptr 2 0 0),(6,.ptr 3 0 0),(7,.ptr 6 0 0),(8,.ptr 7 0 0),(9,.int .i64 0)] _ ⟨⟨wG,yb,Nat.zero_le _,by omega,Nat.zero_le _,Nat.zero_le _⟩,fun x hx=>(by cases hx),by show 8*xs.length<FI+0;unfold FI;omega,by rw[if_pos rfl];exact hR⟩ (aI rfl (aI rfl (aI rfl (aI rfl (aI rfl (aI rfl (trivial))))))) rfl
  (Vw.ghost (i:=6) (k:=1) (x:=.ints .u8 [] 0) rfl rfl ⟨rfl,rfl⟩) (aI rfl (aI rfl (aI rfl (aI rfl (aI rfl (aI rfl (aI rfl (aI rfl (aI rfl (trivial)))))))))) (fun _=>rfl) (fun _=>rfl) (fun _=>?_) ?_
 ·exact⟨trivial,rfl,rfl,rfl,trivial,rfl,rfl,rfl,trivial,trivial⟩
 rintro⟨f,g,c,s,last⟩ ⟨ok,hb,hf,hR⟩ d0
 refine Qs ?_
 refine And.intro (fun hc=>?_) (fun hc=>?_)
 ·have he:last=0:=by simpa using hc
  rw[if_pos he]at hR
  obtain⟨f,rfl⟩:∃f',f=f'+1:=⟨f-1,by have:=ok.al;omega⟩
  rw[jC]at hR
  refine Qs ?_
  refine Ea (n:=1) hR ok (by omega) (fun v s1 hv Qx L9 FH hR=>?_) (fun h=>?_)
  ·refine Qs ?_
   refine Ea (n:=2) hR FH (by omega) (fun k s2 hk GL uV qp hR=>?_) (fun h=>?_)
   ·rw[DP.run_bind]at hR
    obtain⟨R2,yR⟩:∃R2,(gB k).run (unpack xs) lim s2=R2:=⟨_,rfl⟩
    rw[yR]at hR
    have gR:∀x∈s2.out,0≤x∧x<256:=by rw[GL,Qx];exact hb
    have Y9:s.a+3≤s2.a:=by omega
    obtain rfl|rfl|rfl|rfl:k=0∨k=1∨k=2∨k=3:=by omega
    ·
     refine Qs ?_
     refine yH (k:=0) (.inl ⟨rfl,rfl⟩) yR qp gR (fun g3 c3 s3 e3 uQ EH=>?_) (fun e g3 c3 s3 e3=>?_)
     ·have Vz:s2.a≤s3.a:=by
       have:=DP.r6 _ _ qp.ol (yR.trans e3)
       exact this.2.2
      rw[e3]at hR
      simp only at hR
      have P0:(if(v:Int)=0 then(jC f).run (unpack xs) lim s3 else .ok ((),s3))=R:=by
       rw[←hR];split<;>rfl
      refine Qs ?_
      refine RO.same (f,g3,c3,s3,(v:Int)) ⟨uQ,EH,by omega,P0⟩ (show 8*xs.length-s3.a<8*xs.length-s.a by have:=qp.al;omega) (aI rfl (aI rfl (aI rfl (aI rfl (aI rfl (aI rfl (trivial))))))) (aI rfl (aI rfl (aI rfl (aI rfl (aI rfl (aI rfl (aI rfl (aI rfl (aI rfl (trivial))))))))))
     ·rw[e3]at hR
      refine ia ?_
      conv=>whnf
      refine And.intro rfl ?_
      conv=>whnf
      refine And.intro rfl ?_
      conv=>whnf
      refine And.intro rfl ?_
      conv=>whnf
      exact⟨_,_,_,jn (M:=[.one false 0 (.ints .u8 xs co)]) (E:=[_,_,_,_,_,_,_,_,_]) ⟨trivial,trivial⟩ (fun o ho=>by rw[List.mem_singleton.1 ho];rfl) rfl,h3 e (by omega) (by omega) hR.symm⟩
    ·
     refine Qs ?_
     refine yH (k:=1) (.inr (.inl ⟨rfl,rfl⟩)) yR qp gR (fun g3 c3 s3 e3 uQ EH=>?_) (fun e g3 c3 s3 e3=>?_)
     ·have Vz:s2.a≤s3.a:=by
       have:=DP.r6 _ _ qp.ol (yR.trans e3)
       exact this.2.2
      rw[e3]at hR
      simp only at hR
      have P0:(if(v:Int)=0 then(jC f).run (unpack xs) lim s3 else .ok ((),s3))=R:=by
       rw[←hR];split<;>rfl
      refine Qs ?_
      refine RO.same (f,g3,c3,s3,(v:Int)) ⟨uQ,EH,by omega,P0⟩ (show 8*xs.length-s3.a<8*xs.length-s.a by have:=qp.al;omega) (aI rfl (aI rfl (aI rfl (aI rfl (aI rfl (aI rfl (trivial))))))) (aI rfl (aI rfl (aI rfl (aI rfl (aI rfl (aI rfl (aI rfl (aI rfl (aI rfl (trivial))))))))))
     ·rw[e3]at hR
      refine ia ?_
      conv=>whnf
      refine And.intro rfl ?_
      conv=>whnf
      refine And.intro rfl ?_
      conv=>whnf
      refine And.intro rfl ?_
      conv=>whnf
      exact⟨_,_,_,jn (M:=[.one false 0 (.ints .u8 xs co)]) (E:=[_,_,_,_,_,_,_,_,_]) ⟨trivial,trivial⟩ (fun o ho=>by rw[List.mem_singleton.1 ho];rfl) rfl,h3 e (by omega) (by omega) hR.symm⟩
    ·
     refine Qs ?_
     refine yH (k:=2) (.inr (.inr (.inl ⟨rfl,rfl⟩))) yR qp gR (fun g3 c3 s3 e3 uQ EH=>?_) (fun e g3 c3 s3 e3=>?_)
     ·have Vz:s2.a≤s3.a:=by
       have:=DP.r6 _ _ qp.ol (yR.trans e3)
       exact this.2.2
      rw[e3]at hR
      simp only at hR
      have P0:(if(v:Int)=0 then(jC f).run (unpack xs) lim s3 else .ok ((),s3))=R:=by
       rw[←hR];split<;>rfl
      refine Qs ?_
      refine RO.same (f,g3,c3,s3,(v:Int)) ⟨uQ,EH,by omega,P0⟩ (show 8*xs.length-s3.a<8*xs.length-s.a by have:=qp.al;omega) (aI rfl (aI rfl (aI rfl (aI rfl (aI rfl (aI rfl (trivial))))))) (aI rfl (aI rfl (aI rfl (aI rfl (aI rfl (aI rfl (aI rfl (aI rfl (aI rfl (trivial))))))))))
     ·rw[e3]at hR
      refine ia ?_
      conv=>whnf
      refine And.intro rfl ?_
      conv=>whnf
      refine And.intro rfl ?_
      conv=>whnf
      refine And.intro rfl ?_
      conv=>whnf
      exact⟨_,_,_,jn (M:=[.one false 0 (.ints .u8 xs co)]) (E:=[_,_,_,_,_,_,_,_,_]) ⟨trivial,trivial⟩ (fun o ho=>by rw[List.mem_singleton.1 ho];rfl) rfl,h3 e (by omega) (by omega) hR.symm⟩
    ·
     refine Qs ?_
     refine yH (k:=3) (.inr (.inr (.inr ⟨rfl,rfl⟩))) yR qp gR (fun g3 c3 s3 e3 uQ EH=>?_) (fun e g3 c3 s3 e3=>?_)
     ·have Vz:s2.a≤s3.a:=by
       have:=DP.r6 _ _ qp.ol (yR.trans e3)
       exact this.2.2
      rw[e3]at hR
      simp only at hR
      have P0:(if(v:Int)=0 then(jC f).run (unpack xs) lim s3 else .ok ((),s3))=R:=by
       rw[←hR];split<;>rfl
      refine Qs ?_
      refine RO.same (f,g3,c3,s3,(v:Int)) ⟨uQ,EH,by omega,P0⟩ (show 8*xs.length-s3.a<8*xs.length-s.a by have:=qp.al;omega) (aI rfl (aI rfl (aI rfl (aI rfl (aI rfl (aI rfl (trivial))))))) (aI rfl (aI rfl (aI rfl (aI rfl (aI rfl (aI rfl (aI rfl (aI rfl (aI rfl (trivial))))))))))
     ·rw[e3]at hR
      refine ia ?_
      conv=>whnf
      refine And.intro rfl ?_
      conv=>whnf
      refine And.intro rfl ?_
      conv=>whnf
      refine And.intro rfl ?_
      conv=>whnf
      exact⟨_,_,_,jn (M:=[.one false 0 (.ints .u8 xs co)]) (E:=[_,_,_,_,_,_,_,_,_]) ⟨trivial,trivial⟩ (fun o ho=>by rw[List.mem_singleton.1 ho];rfl) rfl,h3 e (by omega) (by omega) hR.symm⟩
   ·
    refine ia ?_
    conv=>whnf
    refine And.intro rfl ?_
    conv=>whnf
    refine And.intro rfl ?_
    conv=>whnf
    refine And.intro rfl ?_
    conv=>whnf
    exact⟨_,_,_,jn (M:=[.one false 0 (.ints .u8 xs co)]) (E:=[_,_,_,_,_,_,_,_,_]) ⟨trivial,trivial⟩ (fun o ho=>by rw[List.mem_singleton.1 ho];rfl) rfl,h3 50 (by omega) (by omega) h⟩
  ·
   refine ia ?_
   conv=>whnf
   refine And.intro rfl ?_
   conv=>whnf
   refine And.intro rfl ?_
   conv=>whnf
   refine And.intro rfl ?_
   conv=>whnf
   exact⟨_,_,_,jn (M:=[.one false 0 (.ints .u8 xs co)]) (E:=[_,_,_,_,_,_,_,_,_]) ⟨trivial,trivial⟩ (fun o ho=>by rw[List.mem_singleton.1 ho];rfl) rfl,h3 50 (by omega) (by omega) h⟩
 ·have he:¬last=0:=by simpa using hc
  rw[if_neg he]at hR
  have hK:=h2 g c s (by omega) (by omega) hR.symm ok hb
  have XH:=ok.al
  have e8:((s.a:Int)+7).tdiv 8=(((s.a+7)/8:Nat):Int):=Int.ofNat_tdiv (s.a+7) 8|>.symm
  refine Qs ?_
  refine T4 (i:=5) (j:=4) (xs:=xs) (a:=s.a) rfl rfl rfl ?_
  refine Qs ?_
  rw[e8]
  refine Qs ?_
  refine Gy ?_
  conv=>whnf
  refine And.intro rfl ?_
  conv=>whnf
  refine And.intro rfl ?_
  conv=>whnf
  refine And.intro rfl ?_
  conv=>whnf
  refine⟨[.fb 0,.own 8],.aL [.sl 1 g 0 s.out.length c,.int .i64 (((s.a+7)/8:Nat):Int),.int .i64 0],[.one false 0 (.ints .u8 xs co),.one true g (.ints .u8 s.out c)],⟨⟨⟨rfl,_,rfl,rfl⟩,⟨rfl,rfl⟩,trivial⟩,rfl,⟨trivial,trivial,trivial⟩,rfl,?_⟩,hK⟩
  intro i hi
  match i,hi with
  |0,_=>exact .inr rfl
end
end Go.Proofs.Ytibadaomjlkoaaa
open Go.RowKit
namespace Go.Proofs.Ytibadaomjlkoaaa
set_option maxRecDepth 10000
def lI (xs:List Int)(lim:Nat):Except Int (Unit×DS):=(jC FI).run (unpack xs) lim ⟨0,[]⟩
theorem pP (xs:List Int)(lim:Nat):lI xs lim=(jC FI).run (unpack xs) lim ⟨0,[]⟩:=rfl
attribute[irreducible] lI
end Go.Proofs.Ytibadaomjlkoaaa
open Go.RowKit
namespace Go.Proofs.Ytibadaomjlkoaaa
set_option maxRecDepth 10000
section
variable{M:AH}{K Kp:AV→AH→Prop}
theorem z7 {i g off n c0 co:Nat}{o:Bool}{xs ys:List Int}{limit:Int}(hi:M[i]?=some (.one o g (.ints .u8 ys co)))(hn:n=xs.length)(hy:xs=(ys.drop off).take xs.length)(hc:off+xs.length≤co)
 (wG:xs.length≤1000000)(yb:∀x∈xs,0≤x∧x<256)(jc:limit<9223372036854775808)
 (h1:limit<0∨524288<limit→K (.aL [.ns,.int .i64 0,.int .i64 1]) M)
 (h2:∀g c s,0≤limit→limit≤524288→lI xs limit.toNat=.ok ((),s)→gW xs limit.toNat c s→(∀x∈s.out,0≤x∧x<256)→K (.aL [.sl M.length g 0 s.out.length c,.int .i64 (((s.a+7)/8:Nat):Int),.int .i64 0]) (M++[.one true g (.ints .u8 s.out c)]))
 (h3:∀e,0≤limit→limit≤524288→lI xs limit.toNat=.error e→K (.aL [.ns,.int .i64 0,.int .i64 e]) M):
 aa Try.prog 13 [.sl i g off n c0,.int .i64 limit] M K Kp:=by
 subst hn
 refine aa.lift [.er i g off] (x5 (xs:=xs) (n0:=c0) (co:=xs.length) (limit:=limit) (K:=fun r N=>(r.rn [.er i g off] M.length=r∧N=[.one false 0 (.ints .u8 xs xs.length)]∧K r M)∨∃g c s,r=.aL [.sl 1 g 0 s.out.length c,.int .i64 (((s.a+7)/8:Nat):Int),.int .i64 0]∧N=[.one false 0 (.ints .u8 xs xs.length),.one true g (.ints .u8 s.out c)]∧K (.aL [.sl M.length g 0 s.out.length c,.int .i64 (((s.a+7)/8:Nat):Int),.int .i64 0]) (M++[.one true g (.ints .u8 s.out c)])) (Kp:=fun _ _=>False) wG yb jc
  (fun h=>.inl ⟨rfl,rfl,h1 h⟩) (fun g c s a1 a2 a3 a4 a5=>.inr ⟨g,c,s,rfl,rfl,h2 g c s a1 a2 (by rw[pP];exact a3) a4 a5⟩) (fun e a1 a2 a3=>.inl ⟨rfl,rfl,h3 e a1 a2 (by rw[pP];exact a3)⟩))
  (by simp[AV.q6,AV.rn,yN,Br,Bs,TE.i]) rfl ⟨⟨_,_,_,rfl,ak hi,eB.ints hc hy⟩,trivial⟩ ⟨trivial,trivial⟩ ?_ (fun _ _ h=>h.elim)
 rintro r M' (⟨hr,rfl,hk⟩|⟨g,c,s,rfl,rfl,hk⟩)
 ·refine⟨⟨rfl,rfl⟩,?_⟩
  rw[hr]
  rw[←List.append_nil M]at hk
  exact hk
 ·exact⟨⟨rfl,rfl⟩,hk⟩
theorem BN {i g n c0 co:Nat}{o:Bool}{xs:List Int}{limit:Int}(hi:M[i]?=some (.one o g (.ints .u8 xs co)))(hn:n=xs.length)(hc:xs.length≤co)
 (wG:xs.length≤1000000)(yb:∀x∈xs,0≤x∧x<256)(jc:limit<9223372036854775808)
 (h1:limit<0∨524288<limit→K (.aL [.ns,.int .i64 0,.int .i64 1]) M)
 (h2:∀g c s,0≤limit→limit≤524288→lI xs limit.toNat=.ok ((),s)→gW xs limit.toNat c s→(∀x∈s.out,0≤x∧x<256)→K (.aL [.sl M.length g 0 s.out.length c,.int .i64 (((s.a+7)/8:Nat):Int),.int .i64 0]) (M++[.one true g (.ints .u8 s.out c)]))
 (h3:∀e,0≤limit→limit≤524288→lI xs limit.toNat=.error e→K (.aL [.ns,.int .i64 0,.int .i64 e]) M):
 aa Try.prog 13 [.sl i g 0 n c0,.int .i64 limit] M K Kp:=
 z7 hi hn (by rw[List.drop_zero,List.take_length]) (by omega) wG yb jc h1 h2 h3
end
end Go.Proofs.Ytibadaomjlkoaaa
open Go.RowKit
namespace Go.Proofs.Ytibadaomjlkoaaa
end Go.Proofs.Ytibadaomjlkoaaa
open Go.RowKit
namespace Go.Proofs.Ytibadaomjlkoaaa
theorem DP.dc {α:Type}{row p q:List Bool}{v:Int}{n lim:Nat}{k:Int→DP α}{s:DS}(hr:row=p++(bitsOf v n++q))(ha:s.a=p.length)(h0:0≤v)(h:v<2^n):
 (DP.get n k).run row lim s=(k v).run row lim {s with a:=s.a+n}:=by
 rw[DP.run,if_pos (by rw[hr];simp[ai];omega),hr,ha,Lo p q v n h0 h]
theorem v8 {row:List Bool}{lim:Nat}:∀(ys:List Int)(p q:List Bool)(s:DS),row=p++(unpack ys++q)→s.a=p.length→(∀y∈ys,0≤y∧y<256)→s.out.length+ys.length≤lim→
 (zG ys.length).run row lim s=.ok ((),⟨s.a+8*ys.length,s.out++ys⟩)
 |[],p,q,s,_,_,_,_=>by
  obtain⟨a,o⟩:=s
  simp[zG,DP.run]
 |y::ys,p,q,s,hr,ha,hy,hl=>by
  have pS:=hy y List.mem_cons_self
  rw[List.length_cons,zG,DP.dc (p:=p) (v:=y) (n:=8) (q:=unpack ys++q) (by rw[hr,dF,List.append_assoc]) ha pS.1 (by have:=pS.2;omega),DP.run,if_neg (show¬lim≤s.out.length by simp only[List.length_cons]at hl;omega),
   v8 ys (p++bitsOf y 8) q ⟨s.a+8,s.out++[y]⟩ (by rw[hr,dF];simp[List.append_assoc]) (by rw[List.length_append,ai,ha]) (fun z hz=>hy z (List.mem_cons_of_mem _ hz)) (by simp only[List.length_append,List.length_cons,List.length_nil]at hl⊢;omega)]
  simp only[List.append_assoc,List.cons_append,List.nil_append]
  rw[show s.a+8+8*ys.length=s.a+8*(ys.length+1) by omega]
theorem xQ {row:List Bool}{lim:Nat}{ys:List Int}{p q:List Bool}{s:DS}(hr:row=p++(bitsOf (ys.length:Int) 16++(bitsOf (65535-(ys.length:Int)) 16++(unpack ys++q))))(ha:(s.a+7)/8*8=p.length)(hl:ys.length≤65535)(hy:∀y∈ys,0≤y∧y<256)(jc:s.out.length+ys.length≤lim):
 m7.run row lim s=.ok ((),⟨p.length+32+8*ys.length,s.out++ys⟩):=by
 rw[m7,DP.run,DP.dc (p:=p) hr ha (by omega) (by omega),DP.dc (p:=p++bitsOf (ys.length:Int) 16) (v:=65535-(ys.length:Int)) (q:=unpack ys++q) (by rw[hr];simp[List.append_assoc]) (by show(s.a+7)/8*8+16=_;rw[List.length_append,ai,ha]) (by omega) (by omega),
  if_pos (by omega),DP.run,if_neg (show¬(lim:Int)-s.out.length<ys.length by omega),Int.toNat_natCast]
 have e:=v8 (row:=row) (lim:=lim) ys (p++bitsOf (ys.length:Int) 16++bitsOf (65535-(ys.length:Int)) 16) q ⟨(s.a+7)/8*8+16+16,s.out⟩ (by rw[hr];simp[List.append_assoc]) (by show(s.a+7)/8*8+16+16=_;rw[List.length_append,List.length_append,ai,ai,ha]) hy jc
 simp only[ha]at e⊢
 exact e
end Go.Proofs.Ytibadaomjlkoaaa
open Go.RowKit
namespace Go.Proofs.Ytibadaomjlkoaaa
structure Tk where
 b:Int
 l:Nat
 d:Nat
def Tk.row (t:Tk):List AV:=[.int .u8 t.b,.int .i64 (t.l:Int),.int .i64 (t.d:Int)]
section
variable(xs:List Int)
def rJ (f a:Nat):Nat→Nat→Nat
 |0,n=>n
 |k+1,n=>if a+n<xs.length∧xs.getD (f+n) 0=xs.getD (a+n) 0 then rJ f a k (n+1)else n
def qz (f a:Nat):Nat:=rJ xs f a 258 0
def qA (i:Nat):Int×Int:=(xs.getD i 0,xs.getD (i+1) 0*256+xs.getD (i+2) 0)
abbrev rV:=List ((Int×Int)×Int)×List Int
def jX (i:Nat)(s:rV):rV:=
 if i+3≤xs.length then(lG (qA xs i) ((i:Int)+1) s.1,s.2.set i ((bS (qA xs i) s.1).getD 0))else s
def u0 (a f:Nat)(t:Tk):Tk:=if 3≤qz xs f a∧t.l<qz xs f a then⟨0,qz xs f a,a-f⟩else t
def dR (ah:List Int)(a:Nat):Nat→Nat→Tk→Tk
 |0,_,t=>t
 |k+1,p,t=>if 0<p∧a-(p-1)≤32768∧t.l<258 then dR ah a k (ah.getD (p-1) 0).toNat (u0 xs a (p-1) t)else t
def uI (s:rV)(a:Nat):Tk:=
 if a+3≤xs.length then dR xs s.2 a a ((bS (qA xs a) s.1).getD 0).toNat ⟨xs.getD a 0,0,0⟩else⟨xs.getD a 0,0,0⟩
def bJ:Nat→Nat→rV→rV
 |0,_,s=>s
 |k+1,i,s=>bJ k (i+1) (jX xs i s)
def eA:Nat→Nat→rV→List Tk→List Tk
 |0,_,_,out=>out
 |k+1,a,s,out=>if a<xs.length then eA k (a+max (uI xs s a).l 1) (bJ xs (max (uI xs s a).l 1) a s) (out++[uI xs s a])else out
def cj:List Tk:=eA xs xs.length 0 ([],List.replicate xs.length 0) []
structure n6 (a:Nat)(s:rV):Prop where
 len:s.2.length=xs.length
 ah:∀i,0≤s.2.getD i 0∧s.2.getD i 0≤(i:Int)
 es:∀k v,bS k s.1=some v→1≤v∧v≤(a:Int)
end
section
variable{xs:List Int}
theorem DU (f a:Nat):∀k n,a+n≤xs.length→rJ xs f a k n≤n+k∧a+rJ xs f a k n≤xs.length∧n≤rJ xs f a k n
 |0,n,h=>⟨Nat.le_refl _,h,Nat.le_refl _⟩
 |k+1,n,h=>by
  simp only[rJ]
  split
  ·rename_i hc
   have:=DU f a k (n+1) hc.1
   omega
  ·omega
theorem Em {f a:Nat}(h:a≤xs.length):qz xs f a≤258∧a+qz xs f a≤xs.length:=by
 have:=DU (xs:=xs) f a 258 0 h
 unfold qz;omega
theorem DV (f a:Nat):∀k n,(∀i,i<n→xs.getD (f+i) 0=xs.getD (a+i) 0)→∀i,i<rJ xs f a k n→xs.getD (f+i) 0=xs.getD (a+i) 0
 |0,n,h,i,hi=>h i hi
 |k+1,n,h,i,hi=>by
  simp only[rJ]at hi
  split at hi
  ·rename_i hc
   refine DV f a k (n+1) (fun j hj=>?_) i hi
   rcases(show j<n∨j=n by omega)with h1|rfl
   ·exact h j h1
   ·exact hc.2
  ·exact h i hi
theorem Lt {f a i:Nat}(h:i<qz xs f a):xs.getD (f+i) 0=xs.getD (a+i) 0:=DV f a 258 0 (fun i hi=>absurd hi (Nat.not_lt_zero i)) i h
theorem j6 {l:List Int}{i j:Nat}{v:Int}:(l.set i v).getD j 0=if i=j∧i<l.length then v else l.getD j 0:=by
 simp only[List.getD_eq_getElem?_getD,List.getElem?_set]
 by_cases h:i=j
 ·subst h
  by_cases h2:i<l.length
  ·simp[h2]
  ·simp[h2]
 ·simp[h]
theorem n6.note {a:Nat}{s:rV}(h:n6 xs a s):n6 xs (a+1) (jX xs a s):=by
 unfold jX
 have lL:∀k v,bS k s.1=some v→1≤v∧v≤((a+1:Nat):Int):=fun k v hv=>by have:=h.es k v hv;omega
 split
 ·refine⟨by simp only[List.length_set];exact h.len,fun i=>?_,fun k v hv=>?_⟩
  ·simp only
   rw[j6]
   split
   ·rename_i hc
    cases hf:bS (qA xs a) s.1 with
    |none=>simp only[Option.getD_none];omega
    |some v=>have:=h.es _ _ hf;simp only[Option.getD_some];omega
   ·exact h.ah i
  ·simp only at hv
   rw[ke]at hv
   split at hv
   ·injection hv with hv;subst hv;omega
   ·exact lL k v hv
 ·exact⟨h.len,h.ah,lL⟩
theorem n6.notes:∀(k a:Nat){s:rV},n6 xs a s→n6 xs (a+k) (bJ xs k a s)
 |0,a,s,h=>h
 |k+1,a,s,h=>by
  have:=n6.notes k (a+1) h.note
  rw[show a+(k+1)=a+1+k by omega]
  exact this
theorem dm:∀(k i:Nat)(s:rV),bJ xs (k+1) i s=jX xs (i+k) (bJ xs k i s)
 |0,i,s=>rfl
 |k+1,i,s=>by
  rw[bJ,dm k (i+1) (jX xs i s),show i+1+k=i+(k+1) by omega]
  rfl
theorem Gq {a:Nat}{s:rV}(h:n6 xs a s)(k:Int×Int):0≤(bS k s.1).getD 0∧(bS k s.1).getD 0≤(a:Int):=by
 cases hf:bS k s.1 with
 |none=>simp
 |some v=>have:=h.es _ _ hf;simp only[Option.getD_some];omega
structure lN (xs:List Int)(a:Nat)(t:Tk):Prop where
 le:t.l≤258∧a+t.l≤xs.length
 one:t.l=0→t.b=xs.getD a 0∧t.d=0
 rep:t.l≠0→t.b=0∧3≤t.l∧1≤t.d∧t.d≤a∧t.d≤32768∧∀i,i<t.l→xs.getD (a-t.d+i) 0=xs.getD (a+i) 0
theorem lN.try {a f:Nat}{t:Tk}(ha:a≤xs.length)(hf:f<a)(hd:a-f≤32768)(h:lN xs a t):lN xs a (u0 xs a f t):=by
 unfold u0
 split
 ·rename_i hc
  have:=Em (f:=f) ha
  refine⟨this,fun h0=>?_,fun _=>⟨rfl,hc.1,by show 1≤a-f;omega,by show a-f≤a;omega,hd,fun i hi=>?_⟩⟩
  ·have:qz xs f a=0:=h0
   omega
  ·show xs.getD (a-(a-f)+i) 0=_
   rw[show a-(a-f)=f by omega]
   exact Lt hi
 ·exact h
theorem lN.chain {a:Nat}{ah:List Int}(ha:a≤xs.length)(IJ:∀i,0≤ah.getD i 0∧ah.getD i 0≤(i:Int)):∀(k p:Nat){t:Tk},p≤a→lN xs a t→lN xs a (dR xs ah a k p t)
 |0,p,t,_,h=>h
 |k+1,p,t,hp,h=>by
  simp only[dR]
  split
  ·rename_i hc
   have:=IJ (p-1)
   exact lN.chain ha IJ k _ (by omega) (h.try ha (by omega) hc.2.1)
  ·exact h
theorem lN.T3 {a:Nat}{s:rV}(ha:a<xs.length)(hs:n6 xs a s):lN xs a (uI xs s a):=by
 have h0:lN xs a ⟨xs.getD a 0,0,0⟩:=⟨⟨Nat.zero_le _,Nat.le_of_lt ha⟩,fun _=>⟨rfl,rfl⟩,fun h=>absurd rfl h⟩
 unfold uI
 split
 ·have:=Gq hs (qA xs a)
  exact lN.chain (Nat.le_of_lt ha) hs.ah _ _ (by omega) h0
 ·exact h0
theorem gh {a:Nat}{ah:List Int}(IJ:∀i,0≤ah.getD i 0∧ah.getD i 0≤(i:Int)):∀(k k' p:Nat)(t:Tk),p≤k→p≤k'→dR xs ah a k p t=dR xs ah a k' p t
 |0,0,p,t,_,_=>rfl
 |0,k'+1,p,t,h,_=>by
  simp only[dR]
  rw[if_neg (by omega)]
 |k+1,0,p,t,_,h=>by
  simp only[dR]
  rw[if_neg (by omega)]
 |k+1,k'+1,p,t,h1,h2=>by
  simp only[dR]
  split
  ·have:=IJ (p-1)
   exact gh IJ k k' _ _ (by omega) (by omega)
  ·rfl
theorem n6.start (xs:List Int):n6 xs 0 ([],List.replicate xs.length 0):=
 ⟨List.length_replicate,fun i=>by
  have:(List.replicate xs.length (0:Int)).getD i 0=0:=by
   rw[List.getD_eq_getElem?_getD,List.getElem?_replicate];split<;>rfl
  simp only[this];omega,fun k v h=>by cases h⟩
inductive kq (xs:List Int):Nat→List Tk→Prop where
 |done {a:Nat}(h:xs.length≤a):kq xs a []
 |step {a:Nat}{t:Tk}{ts:List Tk}(ha:a<xs.length)(h:lN xs a t)(h2:kq xs (a+max t.l 1) ts):kq xs a (t::ts)
theorem oz:∀(k a:Nat)(s:rV)(out:List Tk),eA xs k a s out=out++eA xs k a s []
 |0,a,s,out=>by simp[eA]
 |k+1,a,s,out=>by
  simp only[eA]
  split
  ·rw[oz k _ _ (out++_),oz k _ _ ([]++_)]
   simp
  ·simp
theorem pL:∀(k a:Nat)(s:rV),n6 xs a s→xs.length≤a+k→kq xs a (eA xs k a s [])
 |0,a,s,hs,h=>.done (by omega)
 |k+1,a,s,hs,h=>by
  simp only[eA]
  split
  ·rename_i hc
   rw[oz]
   exact .step hc (lN.T3 hc hs) (pL k _ _ (n6.notes _ _ hs) (by omega))
  ·exact .done (by omega)
theorem ky (xs:List Int):kq xs 0 (cj xs):=pL _ _ _ (n6.start xs) (by omega)
theorem q9:∀(k k' a:Nat)(s:rV)(out:List Tk),xs.length≤a+k→xs.length≤a+k'→eA xs k a s out=eA xs k' a s out
 |0,0,a,s,out,_,_=>rfl
 |0,k'+1,a,s,out,h,_=>by
  simp only[eA]
  rw[if_neg (by omega)]
 |k+1,0,a,s,out,_,h=>by
  simp only[eA]
  rw[if_neg (by omega)]
 |k+1,k'+1,a,s,out,h1,h2=>by
  simp only[eA]
  split
  ·exact q9 k k' _ _ _ (by omega) (by omega)
  ·rfl
end
end Go.Proofs.Ytibadaomjlkoaaa
