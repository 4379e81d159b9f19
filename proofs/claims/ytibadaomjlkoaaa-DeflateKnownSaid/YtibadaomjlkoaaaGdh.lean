import Derived.Test.YtibadaomjlkoaaaGdg
import Derived.Test.YtibadaomjlkoaaaGdc
set_option linter.unusedVariables false
set_option linter.unusedSimpArgs false
open Go.RowKit
namespace Go.Proofs.Ytibadaomjlkoaaa
set_option maxRecDepth 10000
section
variable{K Kp:AV→AH→Prop}{xs:List Int}
theorem x6 {co n0:Nat}{limit:Int}(Er:xs.length≤1000000)(yd:∀x∈xs,0≤x∧x<256)(iZ:limit<9223372036854775808)
 (h1:limit<0∨524288<limit→K (.aG [.ns,.int .i64 0,.int .i64 1]) [.one false 0 (.ints .u8 xs co)])
 (h2:∀g c s,0≤limit→limit≤524288→(jy FI).run (unpack xs) limit.toNat ⟨0,[]⟩=.ok ((),s)→gS xs limit.toNat c s→(∀x∈s.out,0≤x∧x<256)→K (.aG [.sl 1 g 0 s.out.length c,.int .i64 (((s.a+7)/8:Nat):Int),.int .i64 0]) [.one false 0 (.ints .u8 xs co),.one true g (.ints .u8 s.out c)])
 (h3:∀e,0≤limit→limit≤524288→(jy FI).run (unpack xs) limit.toNat ⟨0,[]⟩=.error e→K (.aG [.ns,.int .i64 0,.int .i64 e]) [.one false 0 (.ints .u8 xs co)]):
 aa Try.prog 13 [.sl 0 0 0 xs.length n0,.int .i64 limit] [.one false 0 (.ints .u8 xs co)] K Kp:=by
 refine aa.dc ?_
 refine aa.Qc (x:=WH (fun _=>[6]) []) ag mixed Try.func13 (rfl:Try.f13.body=some Jf) (by kernel_rfl) Li rfl rfl rfl 2 rfl (by kernel_rfl) rfl (by kernel_rfl) ?_
 refine Qs ?_
 refine And.intro (fun hA=>?_) (fun hA=>?_)
 ·have IK:limit<0:=by simpa using hA
  refine Qs ?_
  exact⟨_,_,_,jk (M:=[.one false 0 (.ints .u8 xs co)]) (E:=[_,_,_]) ⟨trivial,trivial⟩ (fun o ho=>by rw[List.mem_singleton.1 ho];rfl) rfl,h1 (.inl IK)⟩
 have IK:¬limit<0:=by simpa using hA
 refine Qs ?_
 refine And.intro (fun hB=>?_) (fun hB=>?_)
 ·have QL:524288<limit:=by simpa using hB
  refine Qs ?_
  exact⟨_,_,_,jk (M:=[.one false 0 (.ints .u8 xs co)]) (E:=[_,_,_]) ⟨trivial,trivial⟩ (fun o ho=>by rw[List.mem_singleton.1 ho];rfl) rfl,h1 (.inr QL)⟩
 have QL:¬524288<limit:=by simpa using hB
 obtain⟨lim,rfl⟩:=Int.eq_ofNat_of_zero_le (show 0≤limit by omega)
 rw[Int.toNat_natCast]at h2 h3
 have Ir:lim≤524288:=by omega
 have Es:=bw xs
 obtain⟨R,hR⟩:∃R,(jy FI).run (unpack xs) lim ⟨0,[]⟩=R:=⟨_,rfl⟩
 rw[hR]at h2 h3
 refine Qs ?_
 refine OS (i:=0) (xs:=xs) rfl rfl (by omega) fun gb cb Y4=>?_
 refine Qs ?_
 refine WO.Mf (σ:=Nat×Nat×Nat×DS×Int) (fun(f,g,c,s,last)=>gS xs lim c s∧(∀x∈s.out,0≤x∧x<256)∧8*xs.length<f+s.a∧(if last=0 then(jy f).run (unpack xs) lim s else .ok ((),s))=R) (fun(f,g,c,s,last)=>8*xs.length-s.a)
  (fun(f,g,c,s,last)=>[(4,.ptr 1 0 0),(5,.ptr 2 0 0),(6,.ptr 3 0 0),(7,.ptr 6 0 0),(8,.ptr 7 0 0),(9,.int .i64 last)]) (fun(f,g,c,s,last)=>zI co lim gb cb xs .ns (.int .i64 0) (.int .i64 0) g c s) (FI,0,0,⟨0,[]⟩,0) ag mixed (by kernel_rfl)
  [(4,.ptr 1 0 0),(5,.ptr 2 0 0),(6,.ptr 3 0 0),(7,.ptr 6 0 0),(8,.ptr 7 0 0),(9,.int .i64 0)] _ ⟨⟨Er,yd,Nat.zero_le _,by omega,Nat.zero_le _,Nat.zero_le _⟩,fun x hx=>(by cases hx),by show 8*xs.length<FI+0;unfold FI;omega,by rw[if_pos rfl];exact hR⟩ (aI rfl (aI rfl (aI rfl (aI rfl (aI rfl (aI rfl (trivial))))))) rfl
  (Vw.ghost (i:=6) (k:=1) (x:=.ints .u8 [] 0) rfl rfl ⟨rfl,rfl⟩) (aI rfl (aI rfl (aI rfl (aI rfl (aI rfl (aI rfl (aI rfl (aI rfl (aI rfl (trivial)))))))))) (fun _=>rfl) (fun _=>rfl) (fun _=>?_) ?_
 ·exact⟨trivial,rfl,rfl,rfl,trivial,rfl,rfl,rfl,trivial,trivial⟩
 rintro⟨f,g,c,s,last⟩ ⟨ok,hb,hf,hR⟩ d0
 refine Qs ?_
 refine And.intro (fun hc=>?_) (fun hc=>?_)
 ·have he:last=0:=by simpa using hc
  rw[if_pos he]at hR
  obtain⟨f,rfl⟩:∃f',f=f'+1:=⟨f-1,by have:=ok.al;omega⟩
  rw[jy]at hR
  refine Qs ?_
  refine D8 (n:=1) hR ok (by omega) (fun v s1 hv Qy Mb FE hR=>?_) (fun h=>?_)
  ·refine Qs ?_
   refine D8 (n:=2) hR FE (by omega) (fun k s2 hk GK uW qm hR=>?_) (fun h=>?_)
   ·rw[DP.run_bind]at hR
    obtain⟨R2,yU⟩:∃R2,(gw k).run (unpack xs) lim s2=R2:=⟨_,rfl⟩
    rw[yU]at hR
    have gP:∀x∈s2.out,0≤x∧x<256:=by rw[GK,Qy];exact hb
    have Zd:s.a+3≤s2.a:=by omega
    obtain rfl|rfl|rfl|rfl:k=0∨k=1∨k=2∨k=3:=by omega
    ·
     refine Qs ?_
     refine yJ (k:=0) (.inl ⟨rfl,rfl⟩) yU qm gP (fun g3 c3 s3 e3 uR EE=>?_) (fun e g3 c3 s3 e3=>?_)
     ·have VA:s2.a≤s3.a:=by
       have:=DP.r6 _ _ qm.ol (yU.trans e3)
       exact this.2.2
      rw[e3]at hR
      simp only at hR
      have P2:(if(v:Int)=0 then(jy f).run (unpack xs) lim s3 else .ok ((),s3))=R:=by
       rw[←hR];split<;>rfl
      refine Qs ?_
      refine RO.same (f,g3,c3,s3,(v:Int)) ⟨uR,EE,by omega,P2⟩ (show 8*xs.length-s3.a<8*xs.length-s.a by have:=qm.al;omega) (aI rfl (aI rfl (aI rfl (aI rfl (aI rfl (aI rfl (trivial))))))) (aI rfl (aI rfl (aI rfl (aI rfl (aI rfl (aI rfl (aI rfl (aI rfl (aI rfl (trivial))))))))))
     ·rw[e3]at hR
      refine hU ?_
      conv=>whnf
      refine And.intro rfl ?_
      conv=>whnf
      refine And.intro rfl ?_
      conv=>whnf
      refine And.intro rfl ?_
      conv=>whnf
      exact⟨_,_,_,jk (M:=[.one false 0 (.ints .u8 xs co)]) (E:=[_,_,_,_,_,_,_,_,_]) ⟨trivial,trivial⟩ (fun o ho=>by rw[List.mem_singleton.1 ho];rfl) rfl,h3 e (by omega) (by omega) hR.symm⟩
    ·
     refine Qs ?_
     refine yJ (k:=1) (.inr (.inl ⟨rfl,rfl⟩)) yU qm gP (fun g3 c3 s3 e3 uR EE=>?_) (fun e g3 c3 s3 e3=>?_)
     ·have VA:s2.a≤s3.a:=by
       have:=DP.r6 _ _ qm.ol (yU.trans e3)
       exact this.2.2
      rw[e3]at hR
      simp only at hR
      have P2:(if(v:Int)=0 then(jy f).run (unpack xs) lim s3 else .ok ((),s3))=R:=by
       rw[←hR];split<;>rfl
      refine Qs ?_
      refine RO.same (f,g3,c3,s3,(v:Int)) ⟨uR,EE,by omega,P2⟩ (show 8*xs.length-s3.a<8*xs.length-s.a by have:=qm.al;omega) (aI rfl (aI rfl (aI rfl (aI rfl (aI rfl (aI rfl (trivial))))))) (aI rfl (aI rfl (aI rfl (aI rfl (aI rfl (aI rfl (aI rfl (aI rfl (aI rfl (trivial))))))))))
     ·rw[e3]at hR
      refine hU ?_
      conv=>whnf
      refine And.intro rfl ?_
      conv=>whnf
      refine And.intro rfl ?_
      conv=>whnf
      refine And.intro rfl ?_
      conv=>whnf
      exact⟨_,_,_,jk (M:=[.one false 0 (.ints .u8 xs co)]) (E:=[_,_,_,_,_,_,_,_,_]) ⟨trivial,trivial⟩ (fun o ho=>by rw[List.mem_singleton.1 ho];rfl) rfl,h3 e (by omega) (by omega) hR.symm⟩
    ·
     refine Qs ?_
     refine yJ (k:=2) (.inr (.inr (.inl ⟨rfl,rfl⟩))) yU qm gP (fun g3 c3 s3 e3 uR EE=>?_) (fun e g3 c3 s3 e3=>?_)
     ·have VA:s2.a≤s3.a:=by
       have:=DP.r6 _ _ qm.ol (yU.trans e3)
       exact this.2.2
      rw[e3]at hR
      simp only at hR
      have P2:(if(v:Int)=0 then(jy f).run (unpack xs) lim s3 else .ok ((),s3))=R:=by
       rw[←hR];split<;>rfl
      refine Qs ?_
      refine RO.same (f,g3,c3,s3,(v:Int)) ⟨uR,EE,by omega,P2⟩ (show 8*xs.length-s3.a<8*xs.length-s.a by have:=qm.al;omega) (aI rfl (aI rfl (aI rfl (aI rfl (aI rfl (aI rfl (trivial))))))) (aI rfl (aI rfl (aI rfl (aI rfl (aI rfl (aI rfl (aI rfl (aI rfl (aI rfl (trivial))))))))))
     ·rw[e3]at hR
      refine hU ?_
      conv=>whnf
      refine And.intro rfl ?_
      conv=>whnf
      refine And.intro rfl ?_
      conv=>whnf
      refine And.intro rfl ?_
      conv=>whnf
      exact⟨_,_,_,jk (M:=[.one false 0 (.ints .u8 xs co)]) (E:=[_,_,_,_,_,_,_,_,_]) ⟨trivial,trivial⟩ (fun o ho=>by rw[List.mem_singleton.1 ho];rfl) rfl,h3 e (by omega) (by omega) hR.symm⟩
    ·
     refine Qs ?_
     refine yJ (k:=3) (.inr (.inr (.inr ⟨rfl,rfl⟩))) yU qm gP (fun g3 c3 s3 e3 uR EE=>?_) (fun e g3 c3 s3 e3=>?_)
     ·have VA:s2.a≤s3.a:=by
       have:=DP.r6 _ _ qm.ol (yU.trans e3)
       exact this.2.2
      rw[e3]at hR
      simp only at hR
      have P2:(if(v:Int)=0 then(jy f).run (unpack xs) lim s3 else .ok ((),s3))=R:=by
       rw[←hR];split<;>rfl
      refine Qs ?_
      refine RO.same (f,g3,c3,s3,(v:Int)) ⟨uR,EE,by omega,P2⟩ (show 8*xs.length-s3.a<8*xs.length-s.a by have:=qm.al;omega) (aI rfl (aI rfl (aI rfl (aI rfl (aI rfl (aI rfl (trivial))))))) (aI rfl (aI rfl (aI rfl (aI rfl (aI rfl (aI rfl (aI rfl (aI rfl (aI rfl (trivial))))))))))
     ·rw[e3]at hR
      refine hU ?_
      conv=>whnf
      refine And.intro rfl ?_
      conv=>whnf
      refine And.intro rfl ?_
      conv=>whnf
      refine And.intro rfl ?_
      conv=>whnf
      exact⟨_,_,_,jk (M:=[.one false 0 (.ints .u8 xs co)]) (E:=[_,_,_,_,_,_,_,_,_]) ⟨trivial,trivial⟩ (fun o ho=>by rw[List.mem_singleton.1 ho];rfl) rfl,h3 e (by omega) (by omega) hR.symm⟩
   ·
    refine hU ?_
    conv=>whnf
    refine And.intro rfl ?_
    conv=>whnf
    refine And.intro rfl ?_
    conv=>whnf
    refine And.intro rfl ?_
    conv=>whnf
    exact⟨_,_,_,jk (M:=[.one false 0 (.ints .u8 xs co)]) (E:=[_,_,_,_,_,_,_,_,_]) ⟨trivial,trivial⟩ (fun o ho=>by rw[List.mem_singleton.1 ho];rfl) rfl,h3 50 (by omega) (by omega) h⟩
  ·
   refine hU ?_
   conv=>whnf
   refine And.intro rfl ?_
   conv=>whnf
   refine And.intro rfl ?_
   conv=>whnf
   refine And.intro rfl ?_
   conv=>whnf
   exact⟨_,_,_,jk (M:=[.one false 0 (.ints .u8 xs co)]) (E:=[_,_,_,_,_,_,_,_,_]) ⟨trivial,trivial⟩ (fun o ho=>by rw[List.mem_singleton.1 ho];rfl) rfl,h3 50 (by omega) (by omega) h⟩
 ·have he:¬last=0:=by simpa using hc
  rw[if_neg he]at hR
  have hK:=h2 g c s (by omega) (by omega) hR.symm ok hb
  have XH:=ok.al
  have e8:((s.a:Int)+7).tdiv 8=(((s.a+7)/8:Nat):Int):=Int.ofNat_tdiv (s.a+7) 8|>.symm
  refine Qs ?_
  refine T5 (i:=5) (j:=4) (xs:=xs) (a:=s.a) rfl rfl rfl ?_
  refine Qs ?_
  rw[e8]
  refine Qs ?_
  refine Gx ?_
  conv=>whnf
  refine And.intro rfl ?_
  conv=>whnf
  refine And.intro rfl ?_
  conv=>whnf
  refine And.intro rfl ?_
  conv=>whnf
  refine⟨[.eZ 0,.own 8],.aG [.sl 1 g 0 s.out.length c,.int .i64 (((s.a+7)/8:Nat):Int),.int .i64 0],[.one false 0 (.ints .u8 xs co),.one true g (.ints .u8 s.out c)],⟨⟨⟨rfl,_,rfl,rfl⟩,⟨rfl,rfl⟩,trivial⟩,rfl,⟨trivial,trivial,trivial⟩,rfl,?_⟩,hK⟩
  intro i hi
  match i,hi with
  |0,_=>exact .inr rfl
end
end Go.Proofs.Ytibadaomjlkoaaa
open Go.RowKit
namespace Go.Proofs.Ytibadaomjlkoaaa
set_option maxRecDepth 10000
def lC (xs:List Int)(lim:Nat):Except Int (Unit×DS):=(jy FI).run (unpack xs) lim ⟨0,[]⟩
theorem pM (xs:List Int)(lim:Nat):lC xs lim=(jy FI).run (unpack xs) lim ⟨0,[]⟩:=rfl
attribute[irreducible] lC
end Go.Proofs.Ytibadaomjlkoaaa
open Go.RowKit
namespace Go.Proofs.Ytibadaomjlkoaaa
set_option maxRecDepth 10000
section
variable{M:AH}{K Kp:AV→AH→Prop}
theorem z7 {i g off n c0 co:Nat}{o:Bool}{xs ys:List Int}{limit:Int}(hi:M[i]?=some (.one o g (.ints .u8 ys co)))(hn:n=xs.length)(hy:xs=(ys.drop off).take xs.length)(hc:off+xs.length≤co)
 (Er:xs.length≤1000000)(yd:∀x∈xs,0≤x∧x<256)(iZ:limit<9223372036854775808)
 (h1:limit<0∨524288<limit→K (.aG [.ns,.int .i64 0,.int .i64 1]) M)
 (h2:∀g c s,0≤limit→limit≤524288→lC xs limit.toNat=.ok ((),s)→gS xs limit.toNat c s→(∀x∈s.out,0≤x∧x<256)→K (.aG [.sl M.length g 0 s.out.length c,.int .i64 (((s.a+7)/8:Nat):Int),.int .i64 0]) (M++[.one true g (.ints .u8 s.out c)]))
 (h3:∀e,0≤limit→limit≤524288→lC xs limit.toNat=.error e→K (.aG [.ns,.int .i64 0,.int .i64 e]) M):
 aa Try.prog 13 [.sl i g off n c0,.int .i64 limit] M K Kp:=by
 subst hn
 refine aa.lift [.ep i g off] (x6 (xs:=xs) (n0:=c0) (co:=xs.length) (limit:=limit) (K:=fun r N=>(r.rn [.ep i g off] M.length=r∧N=[.one false 0 (.ints .u8 xs xs.length)]∧K r M)∨∃g c s,r=.aG [.sl 1 g 0 s.out.length c,.int .i64 (((s.a+7)/8:Nat):Int),.int .i64 0]∧N=[.one false 0 (.ints .u8 xs xs.length),.one true g (.ints .u8 s.out c)]∧K (.aG [.sl M.length g 0 s.out.length c,.int .i64 (((s.a+7)/8:Nat):Int),.int .i64 0]) (M++[.one true g (.ints .u8 s.out c)])) (Kp:=fun _ _=>False) Er yd iZ
  (fun h=>.inl ⟨rfl,rfl,h1 h⟩) (fun g c s a1 a2 a3 a4 a5=>.inr ⟨g,c,s,rfl,rfl,h2 g c s a1 a2 (by rw[pM];exact a3) a4 a5⟩) (fun e a1 a2 a3=>.inl ⟨rfl,rfl,h3 e a1 a2 (by rw[pM];exact a3)⟩))
  (by simp[AV.qZ,AV.rn,yP,Bp,Bq,TE.i]) rfl ⟨⟨_,_,_,rfl,ak hi,eh.ints hc hy⟩,trivial⟩ ⟨trivial,trivial⟩ ?_ (fun _ _ h=>h.elim)
 rintro r M' (⟨hr,rfl,hk⟩|⟨g,c,s,rfl,rfl,hk⟩)
 ·refine⟨⟨rfl,rfl⟩,?_⟩
  rw[hr]
  rw[←List.append_nil M]at hk
  exact hk
 ·exact⟨⟨rfl,rfl⟩,hk⟩
theorem BL {i g n c0 co:Nat}{o:Bool}{xs:List Int}{limit:Int}(hi:M[i]?=some (.one o g (.ints .u8 xs co)))(hn:n=xs.length)(hc:xs.length≤co)
 (Er:xs.length≤1000000)(yd:∀x∈xs,0≤x∧x<256)(iZ:limit<9223372036854775808)
 (h1:limit<0∨524288<limit→K (.aG [.ns,.int .i64 0,.int .i64 1]) M)
 (h2:∀g c s,0≤limit→limit≤524288→lC xs limit.toNat=.ok ((),s)→gS xs limit.toNat c s→(∀x∈s.out,0≤x∧x<256)→K (.aG [.sl M.length g 0 s.out.length c,.int .i64 (((s.a+7)/8:Nat):Int),.int .i64 0]) (M++[.one true g (.ints .u8 s.out c)]))
 (h3:∀e,0≤limit→limit≤524288→lC xs limit.toNat=.error e→K (.aG [.ns,.int .i64 0,.int .i64 e]) M):
 aa Try.prog 13 [.sl i g 0 n c0,.int .i64 limit] M K Kp:=
 z7 hi hn (by rw[List.drop_zero,List.take_length]) (by omega) Er yd iZ h1 h2 h3
end
end Go.Proofs.Ytibadaomjlkoaaa
open Go.RowKit
namespace Go.Proofs.Ytibadaomjlkoaaa
end Go.Proofs.Ytibadaomjlkoaaa
open Go.RowKit
namespace Go.Proofs.Ytibadaomjlkoaaa
theorem DP.c9 {α:Type}{row p q:List Bool}{v:Int}{n lim:Nat}{k:Int→DP α}{s:DS}(hr:row=p++(bitsOf v n++q))(ha:s.a=p.length)(h0:0≤v)(h:v<2^n):
 (DP.get n k).run row lim s=(k v).run row lim {s with a:=s.a+n}:=by
 rw[DP.run,if_pos (by rw[hr];simp[ai];omega),hr,ha,Lq p q v n h0 h]
theorem wa {row:List Bool}{lim:Nat}:∀(ys:List Int)(p q:List Bool)(s:DS),row=p++(unpack ys++q)→s.a=p.length→(∀y∈ys,0≤y∧y<256)→s.out.length+ys.length≤lim→
 (zK ys.length).run row lim s=.ok ((),⟨s.a+8*ys.length,s.out++ys⟩)
 |[],p,q,s,_,_,_,_=>by
  obtain⟨a,o⟩:=s
  simp[zK,DP.run]
 |y::ys,p,q,s,hr,ha,hy,hl=>by
  have pP:=hy y List.mem_cons_self
  rw[List.length_cons,zK,DP.c9 (p:=p) (v:=y) (n:=8) (q:=unpack ys++q) (by rw[hr,dE,List.append_assoc]) ha pP.1 (by have:=pP.2;omega),DP.run,if_neg (show¬lim≤s.out.length by simp only[List.length_cons]at hl;omega),
   wa ys (p++bitsOf y 8) q ⟨s.a+8,s.out++[y]⟩ (by rw[hr,dE];simp[List.append_assoc]) (by rw[List.length_append,ai,ha]) (fun z hz=>hy z (List.mem_cons_of_mem _ hz)) (by simp only[List.length_append,List.length_cons,List.length_nil]at hl⊢;omega)]
  simp only[List.append_assoc,List.cons_append,List.nil_append]
  rw[show s.a+8+8*ys.length=s.a+8*(ys.length+1) by omega]
theorem xQ {row:List Bool}{lim:Nat}{ys:List Int}{p q:List Bool}{s:DS}(hr:row=p++(bitsOf (ys.length:Int) 16++(bitsOf (65535-(ys.length:Int)) 16++(unpack ys++q))))(ha:(s.a+7)/8*8=p.length)(hl:ys.length≤65535)(hy:∀y∈ys,0≤y∧y<256)(iZ:s.out.length+ys.length≤lim):
 mW.run row lim s=.ok ((),⟨p.length+32+8*ys.length,s.out++ys⟩):=by
 rw[mW,DP.run,DP.c9 (p:=p) hr ha (by omega) (by omega),DP.c9 (p:=p++bitsOf (ys.length:Int) 16) (v:=65535-(ys.length:Int)) (q:=unpack ys++q) (by rw[hr];simp[List.append_assoc]) (by show(s.a+7)/8*8+16=_;rw[List.length_append,ai,ha]) (by omega) (by omega),
  if_pos (by omega),DP.run,if_neg (show¬(lim:Int)-s.out.length<ys.length by omega),Int.toNat_natCast]
 have e:=wa (row:=row) (lim:=lim) ys (p++bitsOf (ys.length:Int) 16++bitsOf (65535-(ys.length:Int)) 16) q ⟨(s.a+7)/8*8+16+16,s.out⟩ (by rw[hr];simp[List.append_assoc]) (by show(s.a+7)/8*8+16+16=_;rw[List.length_append,List.length_append,ai,ai,ha]) hy iZ
 simp only[ha]at e⊢
 exact e
end Go.Proofs.Ytibadaomjlkoaaa
open Go.RowKit
namespace Go.Proofs.Ytibadaomjlkoaaa
structure Tk where
 b:Int
 l:Nat
 d:Nat
def Tk.row (t:Tk):List AV:=[.int .u8 t.b,.int .i64 (t.l:Int),.int .i64 (t.d:Int)]
section
variable(xs:List Int)
def rJ (f a:Nat):Nat→Nat→Nat
 |0,n=>n
 |k+1,n=>if a+n<xs.length∧xs.getD (f+n) 0=xs.getD (a+n) 0 then rJ f a k (n+1)else n
def qw (f a:Nat):Nat:=rJ xs f a 258 0
def qx (i:Nat):Int×Int:=(xs.getD i 0,xs.getD (i+1) 0*256+xs.getD (i+2) 0)
abbrev rV:=List ((Int×Int)×Int)×List Int
def jT (i:Nat)(s:rV):rV:=
 if i+3≤xs.length then(lA (qx xs i) ((i:Int)+1) s.1,s.2.set i ((bS (qx xs i) s.1).getD 0))else s
def u1 (a f:Nat)(t:Tk):Tk:=if 3≤qw xs f a∧t.l<qw xs f a then⟨0,qw xs f a,a-f⟩else t
def dR (ah:List Int)(a:Nat):Nat→Nat→Tk→Tk
 |0,_,t=>t
 |k+1,p,t=>if 0<p∧a-(p-1)≤32768∧t.l<258 then dR ah a k (ah.getD (p-1) 0).toNat (u1 xs a (p-1) t)else t
def uJ (s:rV)(a:Nat):Tk:=
 if a+3≤xs.length then dR xs s.2 a a ((bS (qx xs a) s.1).getD 0).toNat ⟨xs.getD a 0,0,0⟩else⟨xs.getD a 0,0,0⟩
def bJ:Nat→Nat→rV→rV
 |0,_,s=>s
 |k+1,i,s=>bJ k (i+1) (jT xs i s)
def eB:Nat→Nat→rV→List Tk→List Tk
 |0,_,_,out=>out
 |k+1,a,s,out=>if a<xs.length then eB k (a+max (uJ xs s a).l 1) (bJ xs (max (uJ xs s a).l 1) a s) (out++[uJ xs s a])else out
def b9:List Tk:=eB xs xs.length 0 ([],List.replicate xs.length 0) []
structure nY (a:Nat)(s:rV):Prop where
 len:s.2.length=xs.length
 ah:∀i,0≤s.2.getD i 0∧s.2.getD i 0≤(i:Int)
 es:∀k v,bS k s.1=some v→1≤v∧v≤(a:Int)
end
section
variable{xs:List Int}
theorem DR (f a:Nat):∀k n,a+n≤xs.length→rJ xs f a k n≤n+k∧a+rJ xs f a k n≤xs.length∧n≤rJ xs f a k n
 |0,n,h=>⟨Nat.le_refl _,h,Nat.le_refl _⟩
 |k+1,n,h=>by
  simp only[rJ]
  split
  ·rename_i hc
   have:=DR f a k (n+1) hc.1
   omega
  ·omega
theorem Ek {f a:Nat}(h:a≤xs.length):qw xs f a≤258∧a+qw xs f a≤xs.length:=by
 have:=DR (xs:=xs) f a 258 0 h
 unfold qw;omega
theorem DT (f a:Nat):∀k n,(∀i,i<n→xs.getD (f+i) 0=xs.getD (a+i) 0)→∀i,i<rJ xs f a k n→xs.getD (f+i) 0=xs.getD (a+i) 0
 |0,n,h,i,hi=>h i hi
 |k+1,n,h,i,hi=>by
  simp only[rJ]at hi
  split at hi
  ·rename_i hc
   refine DT f a k (n+1) (fun j hj=>?_) i hi
   rcases(show j<n∨j=n by omega)with h1|rfl
   ·exact h j h1
   ·exact hc.2
  ·exact h i hi
theorem Lw {f a i:Nat}(h:i<qw xs f a):xs.getD (f+i) 0=xs.getD (a+i) 0:=DT f a 258 0 (fun i hi=>absurd hi (Nat.not_lt_zero i)) i h
theorem jY {l:List Int}{i j:Nat}{v:Int}:(l.set i v).getD j 0=if i=j∧i<l.length then v else l.getD j 0:=by
 simp only[List.getD_eq_getElem?_getD,List.getElem?_set]
 by_cases h:i=j
 ·subst h
  by_cases h2:i<l.length
  ·simp[h2]
  ·simp[h2]
 ·simp[h]
theorem nY.note {a:Nat}{s:rV}(h:nY xs a s):nY xs (a+1) (jT xs a s):=by
 unfold jT
 have lF:∀k v,bS k s.1=some v→1≤v∧v≤((a+1:Nat):Int):=fun k v hv=>by have:=h.es k v hv;omega
 split
 ·refine⟨by simp only[List.length_set];exact h.len,fun i=>?_,fun k v hv=>?_⟩
  ·simp only
   rw[jY]
   split
   ·rename_i hc
    cases hf:bS (qx xs a) s.1 with
    |none=>simp only[Option.getD_none];omega
    |some v=>have:=h.es _ _ hf;simp only[Option.getD_some];omega
   ·exact h.ah i
  ·simp only at hv
   rw[j8]at hv
   split at hv
   ·injection hv with hv;subst hv;omega
   ·exact lF k v hv
 ·exact⟨h.len,h.ah,lF⟩
theorem nY.notes:∀(k a:Nat){s:rV},nY xs a s→nY xs (a+k) (bJ xs k a s)
 |0,a,s,h=>h
 |k+1,a,s,h=>by
  have:=nY.notes k (a+1) h.note
  rw[show a+(k+1)=a+1+k by omega]
  exact this
theorem dk:∀(k i:Nat)(s:rV),bJ xs (k+1) i s=jT xs (i+k) (bJ xs k i s)
 |0,i,s=>rfl
 |k+1,i,s=>by
  rw[bJ,dk k (i+1) (jT xs i s),show i+1+k=i+(k+1) by omega]
  rfl
theorem Gp {a:Nat}{s:rV}(h:nY xs a s)(k:Int×Int):0≤(bS k s.1).getD 0∧(bS k s.1).getD 0≤(a:Int):=by
 cases hf:bS k s.1 with
 |none=>simp
 |some v=>have:=h.es _ _ hf;simp only[Option.getD_some];omega
structure lI (xs:List Int)(a:Nat)(t:Tk):Prop where
 le:t.l≤258∧a+t.l≤xs.length
 one:t.l=0→t.b=xs.getD a 0∧t.d=0
 rep:t.l≠0→t.b=0∧3≤t.l∧1≤t.d∧t.d≤a∧t.d≤32768∧∀i,i<t.l→xs.getD (a-t.d+i) 0=xs.getD (a+i) 0
theorem lI.try {a f:Nat}{t:Tk}(ha:a≤xs.length)(hf:f<a)(hd:a-f≤32768)(h:lI xs a t):lI xs a (u1 xs a f t):=by
 unfold u1
 split
 ·rename_i hc
  have:=Ek (f:=f) ha
  refine⟨this,fun h0=>?_,fun _=>⟨rfl,hc.1,by show 1≤a-f;omega,by show a-f≤a;omega,hd,fun i hi=>?_⟩⟩
  ·have:qw xs f a=0:=h0
   omega
  ·show xs.getD (a-(a-f)+i) 0=_
   rw[show a-(a-f)=f by omega]
   exact Lw hi
 ·exact h
theorem lI.chain {a:Nat}{ah:List Int}(ha:a≤xs.length)(IJ:∀i,0≤ah.getD i 0∧ah.getD i 0≤(i:Int)):∀(k p:Nat){t:Tk},p≤a→lI xs a t→lI xs a (dR xs ah a k p t)
 |0,p,t,_,h=>h
 |k+1,p,t,hp,h=>by
  simp only[dR]
  split
  ·rename_i hc
   have:=IJ (p-1)
   exact lI.chain ha IJ k _ (by omega) (h.try ha (by omega) hc.2.1)
  ·exact h
theorem lI.T4 {a:Nat}{s:rV}(ha:a<xs.length)(hs:nY xs a s):lI xs a (uJ xs s a):=by
 have h0:lI xs a ⟨xs.getD a 0,0,0⟩:=⟨⟨Nat.zero_le _,Nat.le_of_lt ha⟩,fun _=>⟨rfl,rfl⟩,fun h=>absurd rfl h⟩
 unfold uJ
 split
 ·have:=Gp hs (qx xs a)
  exact lI.chain (Nat.le_of_lt ha) hs.ah _ _ (by omega) h0
 ·exact h0
theorem fX {a:Nat}{ah:List Int}(IJ:∀i,0≤ah.getD i 0∧ah.getD i 0≤(i:Int)):∀(k k' p:Nat)(t:Tk),p≤k→p≤k'→dR xs ah a k p t=dR xs ah a k' p t
 |0,0,p,t,_,_=>rfl
 |0,k'+1,p,t,h,_=>by
  simp only[dR]
  rw[if_neg (by omega)]
 |k+1,0,p,t,_,h=>by
  simp only[dR]
  rw[if_neg (by omega)]
 |k+1,k'+1,p,t,h1,h2=>by
  simp only[dR]
  split
  ·have:=IJ (p-1)
   exact fX IJ k k' _ _ (by omega) (by omega)
  ·rfl
theorem nY.start (xs:List Int):nY xs 0 ([],List.replicate xs.length 0):=
 ⟨List.length_replicate,fun i=>by
  have:(List.replicate xs.length (0:Int)).getD i 0=0:=by
   rw[List.getD_eq_getElem?_getD,List.getElem?_replicate];split<;>rfl
  simp only[this];omega,fun k v h=>by cases h⟩
inductive kn (xs:List Int):Nat→List Tk→Prop where
 |done {a:Nat}(h:xs.length≤a):kn xs a []
 |step {a:Nat}{t:Tk}{ts:List Tk}(ha:a<xs.length)(h:lI xs a t)(h2:kn xs (a+max t.l 1) ts):kn xs a (t::ts)
theorem oq:∀(k a:Nat)(s:rV)(out:List Tk),eB xs k a s out=out++eB xs k a s []
 |0,a,s,out=>by simp[eB]
 |k+1,a,s,out=>by
  simp only[eB]
  split
  ·rw[oq k _ _ (out++_),oq k _ _ ([]++_)]
   simp
  ·simp
theorem pI:∀(k a:Nat)(s:rV),nY xs a s→xs.length≤a+k→kn xs a (eB xs k a s [])
 |0,a,s,hs,h=>.done (by omega)
 |k+1,a,s,hs,h=>by
  simp only[eB]
  split
  ·rename_i hc
   rw[oq]
   exact .step hc (lI.T4 hc hs) (pI k _ _ (nY.notes _ _ hs) (by omega))
  ·exact .done (by omega)
theorem ks (xs:List Int):kn xs 0 (b9 xs):=pI _ _ _ (nY.start xs) (by omega)
theorem q8:∀(k k' a:Nat)(s:rV)(out:List Tk),xs.length≤a+k→xs.length≤a+k'→eB xs k a s out=eB xs k' a s out
 |0,0,a,s,out,_,_=>rfl
 |0,k'+1,a,s,out,h,_=>by
  simp only[eB]
  rw[if_neg (by omega)]
 |k+1,0,a,s,out,_,h=>by
  simp only[eB]
  rw[if_neg (by omega)]
 |k+1,k'+1,a,s,out,h1,h2=>by
  simp only[eB]
  split
  ·exact q8 k k' _ _ _ (by omega) (by omega)
  ·rfl
end
end Go.Proofs.Ytibadaomjlkoaaa
