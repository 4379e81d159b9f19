import Derived.Test.YtibadaomjlkoaaaGdg
import Derived.Test.YtibadaomjlkoaaaGdc
set_option linter.unusedVariables false
set_option linter.unusedSimpArgs false
open Go.RowKit
namespace Go.Proofs.Ytibadaomjlkoaaa
set_option maxRecDepth 10000
section
variable{K Kp:AV→AH→Prop}{xs:List Int}
theorem yE {co n0:Nat}{limit:Int}(AS:xs.length≤1000000)(yK:∀x∈xs,0≤x∧x<256)(jv:limit<9223372036854775808)
 (h1:limit<0∨524288<limit→K (.aL [.ns,.int .i64 0,.int .i64 1]) [.one false 0 (.ints .u8 xs co)])
 (h2:∀g c s,0≤limit→limit≤524288→(jX FI).run (unpack xs) limit.toNat ⟨0,[]⟩=.ok ((),s)→il xs limit.toNat c s→(∀x∈s.out,0≤x∧x<256)→K (.aL [.sl 1 g 0 s.out.length c,.int .i64 (((s.a+7)/8:Nat):Int),.int .i64 0]) [.one false 0 (.ints .u8 xs co),.one true g (.ints .u8 s.out c)])
 (h3:∀e,0≤limit→limit≤524288→(jX FI).run (unpack xs) limit.toNat ⟨0,[]⟩=.error e→K (.aL [.ns,.int .i64 0,.int .i64 e]) [.one false 0 (.ints .u8 xs co)]):
 aa Try.prog 13 [.sl 0 0 0 xs.length n0,.int .i64 limit] [.one false 0 (.ints .u8 xs co)] K Kp:=by
 refine aa.cU ?_
 refine aa.RM (x:=Yt (fun _=>[6]) []) ae mixed Try.func13 (rfl:Try.f13.body=some Kq) (by kernel_rfl) MF rfl rfl rfl 2 rfl (by kernel_rfl) rfl (by kernel_rfl) ?_
 refine Qs ?_
 refine And.intro (fun hA=>?_) (fun hA=>?_)
 ·have JV:limit<0:=by simpa using hA
  refine Qs ?_
  exact⟨_,_,_,jG (M:=[.one false 0 (.ints .u8 xs co)]) (E:=[_,_,_]) ⟨trivial,trivial⟩ (fun o ho=>by rw[List.mem_singleton.1 ho];rfl) rfl,h1 (.inl JV)⟩
 have JV:¬limit<0:=by simpa using hA
 refine Qs ?_
 refine And.intro (fun hB=>?_) (fun hB=>?_)
 ·have Sr:524288<limit:=by simpa using hB
  refine Qs ?_
  exact⟨_,_,_,jG (M:=[.one false 0 (.ints .u8 xs co)]) (E:=[_,_,_]) ⟨trivial,trivial⟩ (fun o ho=>by rw[List.mem_singleton.1 ho];rfl) rfl,h1 (.inr Sr)⟩
 have Sr:¬524288<limit:=by simpa using hB
 obtain⟨lim,rfl⟩:=Int.eq_ofNat_of_zero_le (show 0≤limit by omega)
 rw[Int.toNat_natCast]at h2 h3
 have JD:lim≤524288:=by omega
 have Fs:=bH xs
 obtain⟨R,hR⟩:∃R,(jX FI).run (unpack xs) lim ⟨0,[]⟩=R:=⟨_,rfl⟩
 rw[hR]at h2 h3
 refine Qs ?_
 refine Qw (i:=0) (xs:=xs) rfl rfl (by omega) fun gb cb hcb=>?_
 refine Qs ?_
 refine WO.KW (σ:=Nat×Nat×Nat×DS×Int) (fun(f,g,c,s,last)=>il xs lim c s∧(∀x∈s.out,0≤x∧x<256)∧8*xs.length<f+s.a∧(if last=0 then(jX f).run (unpack xs) lim s else .ok ((),s))=R) (fun(f,g,c,s,last)=>8*xs.length-s.a)
  (fun(f,g,c,s,last)=>[(4,.ptr 1 0 0),(5,.ptr 2 0 0),(6,.ptr 3 0 0),(7,.ptr 6 0 0),(8,.ptr 7 0 0),(9,.int .i64 last)]) (fun(f,g,c,s,last)=>zI co lim gb cb xs .ns (.int .i64 0) (.int .i64 0) g c s) (FI,0,0,⟨0,[]⟩,0) ae mixed (by kernel_rfl)
  [(4,.ptr 1 0 0),(5,.ptr 2 0 0),(6,.ptr 3 0 0),(7,.ptr 6 0 0),(8,.ptr 7 0 0),(9,.int .i64 0)] _ ⟨⟨AS,yK,Nat.zero_le _,by omega,Nat.zero_le _,Nat.zero_le _⟩,fun x hx=>(by cases hx),by show 8*xs.length<FI+0;unfold FI;omega,by rw[if_pos rfl];exact hR⟩ (aI rfl (aI rfl (aI rfl (aI rfl (aI rfl (aI rfl (trivial))))))) rfl
  (Vw.ghost (i:=6) (k:=1) (x:=.ints .u8 [] 0) rfl rfl ⟨rfl,rfl⟩) (aI rfl (aI rfl (aI rfl (aI rfl (aI rfl (aI rfl (aI rfl (aI rfl (aI rfl (trivial)))))))))) (fun _=>rfl) (fun _=>rfl) (fun _=>?_) ?_
 ·exact⟨trivial,rfl,rfl,rfl,trivial,rfl,rfl,rfl,trivial,trivial⟩
 rintro⟨f,g,c,s,last⟩ ⟨ok,hb,hf,hR⟩ d0
 refine Qs ?_
 refine And.intro (fun hc=>?_) (fun hc=>?_)
 ·have he:last=0:=by simpa using hc
  rw[if_pos he]at hR
  obtain⟨f,rfl⟩:∃f',f=f'+1:=⟨f-1,by have:=ok.al;omega⟩
  rw[jX]at hR
  refine Qs ?_
  refine E9 (n:=1) hR ok (by omega) (fun v s1 hv Se NF GG hR=>?_) (fun h=>?_)
  ·refine Qs ?_
   refine E9 (n:=2) hR GG (by omega) (fun k s2 hk HN yS qW hR=>?_) (fun h=>?_)
   ·rw[DP.run_bind]at hR
    obtain⟨R2,zw⟩:∃R2,(gS k).run (unpack xs) lim s2=R2:=⟨_,rfl⟩
    rw[zw]at hR
    have ig:∀x∈s2.out,0≤x∧x<256:=by rw[HN,Se];exact hb
    have aag:s.a+3≤s2.a:=by omega
    obtain rfl|rfl|rfl|rfl:k=0∨k=1∨k=2∨k=3:=by omega
    ·
     refine Qs ?_
     refine zj (k:=0) (.inl ⟨rfl,rfl⟩) zw qW ig (fun g3 c3 s3 e3 vt FC=>?_) (fun e g3 c3 s3 e3=>?_)
     ·have Xp:s2.a≤s3.a:=by
       have:=DP.sI _ _ qW.ol (zw.trans e3)
       exact this.2.2
      rw[e3]at hR
      simp only at hR
      have RA:(if(v:Int)=0 then(jX f).run (unpack xs) lim s3 else .ok ((),s3))=R:=by
       rw[←hR];split<;>rfl
      refine Qs ?_
      refine RO.same (f,g3,c3,s3,(v:Int)) ⟨vt,FC,by omega,RA⟩ (show 8*xs.length-s3.a<8*xs.length-s.a by have:=qW.al;omega) (aI rfl (aI rfl (aI rfl (aI rfl (aI rfl (aI rfl (trivial))))))) (aI rfl (aI rfl (aI rfl (aI rfl (aI rfl (aI rfl (aI rfl (aI rfl (aI rfl (trivial))))))))))
     ·rw[e3]at hR
      refine iG ?_
      conv=>whnf
      refine And.intro rfl ?_
      conv=>whnf
      refine And.intro rfl ?_
      conv=>whnf
      refine And.intro rfl ?_
      conv=>whnf
      exact⟨_,_,_,jG (M:=[.one false 0 (.ints .u8 xs co)]) (E:=[_,_,_,_,_,_,_,_,_]) ⟨trivial,trivial⟩ (fun o ho=>by rw[List.mem_singleton.1 ho];rfl) rfl,h3 e (by omega) (by omega) hR.symm⟩
    ·
     refine Qs ?_
     refine zj (k:=1) (.inr (.inl ⟨rfl,rfl⟩)) zw qW ig (fun g3 c3 s3 e3 vt FC=>?_) (fun e g3 c3 s3 e3=>?_)
     ·have Xp:s2.a≤s3.a:=by
       have:=DP.sI _ _ qW.ol (zw.trans e3)
       exact this.2.2
      rw[e3]at hR
      simp only at hR
      have RA:(if(v:Int)=0 then(jX f).run (unpack xs) lim s3 else .ok ((),s3))=R:=by
       rw[←hR];split<;>rfl
      refine Qs ?_
      refine RO.same (f,g3,c3,s3,(v:Int)) ⟨vt,FC,by omega,RA⟩ (show 8*xs.length-s3.a<8*xs.length-s.a by have:=qW.al;omega) (aI rfl (aI rfl (aI rfl (aI rfl (aI rfl (aI rfl (trivial))))))) (aI rfl (aI rfl (aI rfl (aI rfl (aI rfl (aI rfl (aI rfl (aI rfl (aI rfl (trivial))))))))))
     ·rw[e3]at hR
      refine iG ?_
      conv=>whnf
      refine And.intro rfl ?_
      conv=>whnf
      refine And.intro rfl ?_
      conv=>whnf
      refine And.intro rfl ?_
      conv=>whnf
      exact⟨_,_,_,jG (M:=[.one false 0 (.ints .u8 xs co)]) (E:=[_,_,_,_,_,_,_,_,_]) ⟨trivial,trivial⟩ (fun o ho=>by rw[List.mem_singleton.1 ho];rfl) rfl,h3 e (by omega) (by omega) hR.symm⟩
    ·
     refine Qs ?_
     refine zj (k:=2) (.inr (.inr (.inl ⟨rfl,rfl⟩))) zw qW ig (fun g3 c3 s3 e3 vt FC=>?_) (fun e g3 c3 s3 e3=>?_)
     ·have Xp:s2.a≤s3.a:=by
       have:=DP.sI _ _ qW.ol (zw.trans e3)
       exact this.2.2
      rw[e3]at hR
      simp only at hR
      have RA:(if(v:Int)=0 then(jX f).run (unpack xs) lim s3 else .ok ((),s3))=R:=by
       rw[←hR];split<;>rfl
      refine Qs ?_
      refine RO.same (f,g3,c3,s3,(v:Int)) ⟨vt,FC,by omega,RA⟩ (show 8*xs.length-s3.a<8*xs.length-s.a by have:=qW.al;omega) (aI rfl (aI rfl (aI rfl (aI rfl (aI rfl (aI rfl (trivial))))))) (aI rfl (aI rfl (aI rfl (aI rfl (aI rfl (aI rfl (aI rfl (aI rfl (aI rfl (trivial))))))))))
     ·rw[e3]at hR
      refine iG ?_
      conv=>whnf
      refine And.intro rfl ?_
      conv=>whnf
      refine And.intro rfl ?_
      conv=>whnf
      refine And.intro rfl ?_
      conv=>whnf
      exact⟨_,_,_,jG (M:=[.one false 0 (.ints .u8 xs co)]) (E:=[_,_,_,_,_,_,_,_,_]) ⟨trivial,trivial⟩ (fun o ho=>by rw[List.mem_singleton.1 ho];rfl) rfl,h3 e (by omega) (by omega) hR.symm⟩
    ·
     refine Qs ?_
     refine zj (k:=3) (.inr (.inr (.inr ⟨rfl,rfl⟩))) zw qW ig (fun g3 c3 s3 e3 vt FC=>?_) (fun e g3 c3 s3 e3=>?_)
     ·have Xp:s2.a≤s3.a:=by
       have:=DP.sI _ _ qW.ol (zw.trans e3)
       exact this.2.2
      rw[e3]at hR
      simp only at hR
      have RA:(if(v:Int)=0 then(jX f).run (unpack xs) lim s3 else .ok ((),s3))=R:=by
       rw[←hR];split<;>rfl
      refine Qs ?_
      refine RO.same (f,g3,c3,s3,(v:Int)) ⟨vt,FC,by omega,RA⟩ (show 8*xs.length-s3.a<8*xs.length-s.a by have:=qW.al;omega) (aI rfl (aI rfl (aI rfl (aI rfl (aI rfl (aI rfl (trivial))))))) (aI rfl (aI rfl (aI rfl (aI rfl (aI rfl (aI rfl (aI rfl (aI rfl (aI rfl (trivial))))))))))
     ·rw[e3]at hR
      refine iG ?_
      conv=>whnf
      refine And.intro rfl ?_
      conv=>whnf
      refine And.intro rfl ?_
      conv=>whnf
      refine And.intro rfl ?_
      conv=>whnf
      exact⟨_,_,_,jG (M:=[.one false 0 (.ints .u8 xs co)]) (E:=[_,_,_,_,_,_,_,_,_]) ⟨trivial,trivial⟩ (fun o ho=>by rw[List.mem_singleton.1 ho];rfl) rfl,h3 e (by omega) (by omega) hR.symm⟩
   ·
    refine iG ?_
    conv=>whnf
    refine And.intro rfl ?_
    conv=>whnf
    refine And.intro rfl ?_
    conv=>whnf
    refine And.intro rfl ?_
    conv=>whnf
    exact⟨_,_,_,jG (M:=[.one false 0 (.ints .u8 xs co)]) (E:=[_,_,_,_,_,_,_,_,_]) ⟨trivial,trivial⟩ (fun o ho=>by rw[List.mem_singleton.1 ho];rfl) rfl,h3 50 (by omega) (by omega) h⟩
  ·
   refine iG ?_
   conv=>whnf
   refine And.intro rfl ?_
   conv=>whnf
   refine And.intro rfl ?_
   conv=>whnf
   refine And.intro rfl ?_
   conv=>whnf
   exact⟨_,_,_,jG (M:=[.one false 0 (.ints .u8 xs co)]) (E:=[_,_,_,_,_,_,_,_,_]) ⟨trivial,trivial⟩ (fun o ho=>by rw[List.mem_singleton.1 ho];rfl) rfl,h3 50 (by omega) (by omega) h⟩
 ·have he:¬last=0:=by simpa using hc
  rw[if_neg he]at hR
  have hK:=h2 g c s (by omega) (by omega) hR.symm ok hb
  have Zq:=ok.al
  have e8:((s.a:Int)+7).tdiv 8=(((s.a+7)/8:Nat):Int):=Int.ofNat_tdiv (s.a+7) 8|>.symm
  refine Qs ?_
  refine VN (i:=5) (j:=4) (xs:=xs) (a:=s.a) rfl rfl rfl ?_
  refine Qs ?_
  rw[e8]
  refine Qs ?_
  refine Hz ?_
  conv=>whnf
  refine And.intro rfl ?_
  conv=>whnf
  refine And.intro rfl ?_
  conv=>whnf
  refine And.intro rfl ?_
  conv=>whnf
  refine⟨[.e9 0,.own 8],.aL [.sl 1 g 0 s.out.length c,.int .i64 (((s.a+7)/8:Nat):Int),.int .i64 0],[.one false 0 (.ints .u8 xs co),.one true g (.ints .u8 s.out c)],⟨⟨⟨rfl,_,rfl,rfl⟩,⟨rfl,rfl⟩,trivial⟩,rfl,⟨trivial,trivial,trivial⟩,rfl,?_⟩,hK⟩
  intro i hi
  match i,hi with
  |0,_=>exact .inr rfl
end
end Go.Proofs.Ytibadaomjlkoaaa
open Go.RowKit
namespace Go.Proofs.Ytibadaomjlkoaaa
set_option maxRecDepth 10000
def mc (xs:List Int)(lim:Nat):Except Int (Unit×DS):=(jX FI).run (unpack xs) lim ⟨0,[]⟩
theorem ql (xs:List Int)(lim:Nat):mc xs lim=(jX FI).run (unpack xs) lim ⟨0,[]⟩:=rfl
attribute[irreducible] mc
end Go.Proofs.Ytibadaomjlkoaaa
open Go.RowKit
namespace Go.Proofs.Ytibadaomjlkoaaa
set_option maxRecDepth 10000
section
variable{M:AH}{K Kp:AV→AH→Prop}
theorem AP {i g off n c0 co:Nat}{o:Bool}{xs ys:List Int}{limit:Int}(hi:M[i]?=some (.one o g (.ints .u8 ys co)))(hn:n=xs.length)(hy:xs=(ys.drop off).take xs.length)(hc:off+xs.length≤co)
 (AS:xs.length≤1000000)(yK:∀x∈xs,0≤x∧x<256)(jv:limit<9223372036854775808)
 (h1:limit<0∨524288<limit→K (.aL [.ns,.int .i64 0,.int .i64 1]) M)
 (h2:∀g c s,0≤limit→limit≤524288→mc xs limit.toNat=.ok ((),s)→il xs limit.toNat c s→(∀x∈s.out,0≤x∧x<256)→K (.aL [.sl M.length g 0 s.out.length c,.int .i64 (((s.a+7)/8:Nat):Int),.int .i64 0]) (M++[.one true g (.ints .u8 s.out c)]))
 (h3:∀e,0≤limit→limit≤524288→mc xs limit.toNat=.error e→K (.aL [.ns,.int .i64 0,.int .i64 e]) M):
 aa Try.prog 13 [.sl i g off n c0,.int .i64 limit] M K Kp:=by
 subst hn
 refine aa.lift [.eI i g off] (yE (xs:=xs) (n0:=c0) (co:=xs.length) (limit:=limit) (K:=fun r N=>(r.rn [.eI i g off] M.length=r∧N=[.one false 0 (.ints .u8 xs xs.length)]∧K r M)∨∃g c s,r=.aL [.sl 1 g 0 s.out.length c,.int .i64 (((s.a+7)/8:Nat):Int),.int .i64 0]∧N=[.one false 0 (.ints .u8 xs xs.length),.one true g (.ints .u8 s.out c)]∧K (.aL [.sl M.length g 0 s.out.length c,.int .i64 (((s.a+7)/8:Nat):Int),.int .i64 0]) (M++[.one true g (.ints .u8 s.out c)])) (Kp:=fun _ _=>False) AS yK jv
  (fun h=>.inl ⟨rfl,rfl,h1 h⟩) (fun g c s a1 a2 a3 a4 a5=>.inr ⟨g,c,s,rfl,rfl,h2 g c s a1 a2 (by rw[ql];exact a3) a4 a5⟩) (fun e a1 a2 a3=>.inl ⟨rfl,rfl,h3 e a1 a2 (by rw[ql];exact a3)⟩))
  (by simp[AV.rM,AV.rn,zp,Cb,Cc,TE.i]) rfl ⟨⟨_,_,_,rfl,ak hi,eG.ints hc hy⟩,trivial⟩ ⟨trivial,trivial⟩ ?_ (fun _ _ h=>h.elim)
 rintro r M' (⟨hr,rfl,hk⟩|⟨g,c,s,rfl,rfl,hk⟩)
 ·refine⟨⟨rfl,rfl⟩,?_⟩
  rw[hr]
  rw[←List.append_nil M]at hk
  exact hk
 ·exact⟨⟨rfl,rfl⟩,hk⟩
theorem Cw {i g n c0 co:Nat}{o:Bool}{xs:List Int}{limit:Int}(hi:M[i]?=some (.one o g (.ints .u8 xs co)))(hn:n=xs.length)(hc:xs.length≤co)
 (AS:xs.length≤1000000)(yK:∀x∈xs,0≤x∧x<256)(jv:limit<9223372036854775808)
 (h1:limit<0∨524288<limit→K (.aL [.ns,.int .i64 0,.int .i64 1]) M)
 (h2:∀g c s,0≤limit→limit≤524288→mc xs limit.toNat=.ok ((),s)→il xs limit.toNat c s→(∀x∈s.out,0≤x∧x<256)→K (.aL [.sl M.length g 0 s.out.length c,.int .i64 (((s.a+7)/8:Nat):Int),.int .i64 0]) (M++[.one true g (.ints .u8 s.out c)]))
 (h3:∀e,0≤limit→limit≤524288→mc xs limit.toNat=.error e→K (.aL [.ns,.int .i64 0,.int .i64 e]) M):
 aa Try.prog 13 [.sl i g 0 n c0,.int .i64 limit] M K Kp:=
 AP hi hn (by rw[List.drop_zero,List.take_length]) (by omega) AS yK jv h1 h2 h3
end
end Go.Proofs.Ytibadaomjlkoaaa
open Go.RowKit
namespace Go.Proofs.Ytibadaomjlkoaaa
end Go.Proofs.Ytibadaomjlkoaaa
open Go.RowKit
namespace Go.Proofs.Ytibadaomjlkoaaa
theorem DP.dm {α:Type}{row p q:List Bool}{v:Int}{n lim:Nat}{k:Int→DP α}{s:DS}(hr:row=p++(bitsOf v n++q))(ha:s.a=p.length)(h0:0≤v)(h:v<2^n):
 (DP.get n k).run row lim s=(k v).run row lim {s with a:=s.a+n}:=by
 rw[DP.run,if_pos (by rw[hr];simp[ai];omega),hr,ha,MQ p q v n h0 h]
theorem wL {row:List Bool}{lim:Nat}:∀(ys:List Int)(p q:List Bool)(s:DS),row=p++(unpack ys++q)→s.a=p.length→(∀y∈ys,0≤y∧y<256)→s.out.length+ys.length≤lim→
 (Am ys.length).run row lim s=.ok ((),⟨s.a+8*ys.length,s.out++ys⟩)
 |[],p,q,s,_,_,_,_=>by
  obtain⟨a,o⟩:=s
  simp[Am,DP.run]
 |y::ys,p,q,s,hr,ha,hy,hl=>by
  have qo:=hy y List.mem_cons_self
  rw[List.length_cons,Am,DP.dm (p:=p) (v:=y) (n:=8) (q:=unpack ys++q) (by rw[hr,dN,List.append_assoc]) ha qo.1 (by have:=qo.2;omega),DP.run,if_neg (show¬lim≤s.out.length by simp only[List.length_cons]at hl;omega),
   wL ys (p++bitsOf y 8) q ⟨s.a+8,s.out++[y]⟩ (by rw[hr,dN];simp[List.append_assoc]) (by rw[List.length_append,ai,ha]) (fun z hz=>hy z (List.mem_cons_of_mem _ hz)) (by simp only[List.length_append,List.length_cons,List.length_nil]at hl⊢;omega)]
  simp only[List.append_assoc,List.cons_append,List.nil_append]
  rw[show s.a+8+8*ys.length=s.a+8*(ys.length+1) by omega]
theorem yp {row:List Bool}{lim:Nat}{ys:List Int}{p q:List Bool}{s:DS}(hr:row=p++(bitsOf (ys.length:Int) 16++(bitsOf (65535-(ys.length:Int)) 16++(unpack ys++q))))(ha:(s.a+7)/8*8=p.length)(hl:ys.length≤65535)(hy:∀y∈ys,0≤y∧y<256)(jv:s.out.length+ys.length≤lim):
 nI.run row lim s=.ok ((),⟨p.length+32+8*ys.length,s.out++ys⟩):=by
 rw[nI,DP.run,DP.dm (p:=p) hr ha (by omega) (by omega),DP.dm (p:=p++bitsOf (ys.length:Int) 16) (v:=65535-(ys.length:Int)) (q:=unpack ys++q) (by rw[hr];simp[List.append_assoc]) (by show(s.a+7)/8*8+16=_;rw[List.length_append,ai,ha]) (by omega) (by omega),
  if_pos (by omega),DP.run,if_neg (show¬(lim:Int)-s.out.length<ys.length by omega),Int.toNat_natCast]
 have e:=wL (row:=row) (lim:=lim) ys (p++bitsOf (ys.length:Int) 16++bitsOf (65535-(ys.length:Int)) 16) q ⟨(s.a+7)/8*8+16+16,s.out⟩ (by rw[hr];simp[List.append_assoc]) (by show(s.a+7)/8*8+16+16=_;rw[List.length_append,List.length_append,ai,ai,ha]) hy jv
 simp only[ha]at e⊢
 exact e
end Go.Proofs.Ytibadaomjlkoaaa
open Go.RowKit
namespace Go.Proofs.Ytibadaomjlkoaaa
structure Tk where
 b:Int
 l:Nat
 d:Nat
def Tk.row (t:Tk):List AV:=[.int .u8 t.b,.int .i64 (t.l:Int),.int .i64 (t.d:Int)]
section
variable(xs:List Int)
def jW (f a:Nat):Nat→Nat→Nat
 |0,n=>n
 |k+1,n=>if a+n<xs.length∧xs.getD (f+n) 0=xs.getD (a+n) 0 then jW f a k (n+1)else n
def dL (f a:Nat):Nat:=jW xs f a 258 0
def eT (i:Nat):Int×Int:=(xs.getD i 0,xs.getD (i+1) 0*256+xs.getD (i+2) 0)
abbrev pD:=List ((Int×Int)×Int)×List Int
def iW (i:Nat)(s:pD):pD:=
 if i+3≤xs.length then(l9 (eT xs i) ((i:Int)+1) s.1,s.2.set i ((bS (eT xs i) s.1).getD 0))else s
def kS (a f:Nat)(t:Tk):Tk:=if 3≤dL xs f a∧t.l<dL xs f a then⟨0,dL xs f a,a-f⟩else t
def dq (ah:List Int)(a:Nat):Nat→Nat→Tk→Tk
 |0,_,t=>t
 |k+1,p,t=>if 0<p∧a-(p-1)≤32768∧t.l<258 then dq ah a k (ah.getD (p-1) 0).toNat (kS xs a (p-1) t)else t
def qv (s:pD)(a:Nat):Tk:=
 if a+3≤xs.length then dq xs s.2 a a ((bS (eT xs a) s.1).getD 0).toNat ⟨xs.getD a 0,0,0⟩else⟨xs.getD a 0,0,0⟩
def bK:Nat→Nat→pD→pD
 |0,_,s=>s
 |k+1,i,s=>bK k (i+1) (iW xs i s)
def dH:Nat→Nat→pD→List Tk→List Tk
 |0,_,_,out=>out
 |k+1,a,s,out=>if a<xs.length then dH k (a+max (qv xs s a).l 1) (bK xs (max (qv xs s a).l 1) a s) (out++[qv xs s a])else out
def bb:List Tk:=dH xs xs.length 0 ([],List.replicate xs.length 0) []
structure oO (a:Nat)(s:pD):Prop where
 len:s.2.length=xs.length
 ah:∀i,0≤s.2.getD i 0∧s.2.getD i 0≤(i:Int)
 es:∀k v,bS k s.1=some v→1≤v∧v≤(a:Int)
end
section
variable{xs:List Int}
theorem EW (f a:Nat):∀k n,a+n≤xs.length→jW xs f a k n≤n+k∧a+jW xs f a k n≤xs.length∧n≤jW xs f a k n
 |0,n,h=>⟨Nat.le_refl _,h,Nat.le_refl _⟩
 |k+1,n,h=>by
  simp only[jW]
  split
  ·rename_i hc
   have:=EW f a k (n+1) hc.1
   omega
  ·omega
theorem lE {f a:Nat}(h:a≤xs.length):dL xs f a≤258∧a+dL xs f a≤xs.length:=by
 have:=EW (xs:=xs) f a 258 0 h
 unfold dL;omega
theorem EX (f a:Nat):∀k n,(∀i,i<n→xs.getD (f+i) 0=xs.getD (a+i) 0)→∀i,i<jW xs f a k n→xs.getD (f+i) 0=xs.getD (a+i) 0
 |0,n,h,i,hi=>h i hi
 |k+1,n,h,i,hi=>by
  simp only[jW]at hi
  split at hi
  ·rename_i hc
   refine EX f a k (n+1) (fun j hj=>?_) i hi
   rcases(show j<n∨j=n by omega)with h1|rfl
   ·exact h j h1
   ·exact hc.2
  ·exact h i hi
theorem sP {f a i:Nat}(h:i<dL xs f a):xs.getD (f+i) 0=xs.getD (a+i) 0:=EX f a 258 0 (fun i hi=>absurd hi (Nat.not_lt_zero i)) i h
theorem iy {l:List Int}{i j:Nat}{v:Int}:(l.set i v).getD j 0=if i=j∧i<l.length then v else l.getD j 0:=by
 simp only[List.getD_eq_getElem?_getD,List.getElem?_set]
 by_cases h:i=j
 ·subst h
  by_cases h2:i<l.length
  ·simp[h2]
  ·simp[h2]
 ·simp[h]
theorem oO.note {a:Nat}{s:pD}(h:oO xs a s):oO xs (a+1) (iW xs a s):=by
 unfold iW
 have mf:∀k v,bS k s.1=some v→1≤v∧v≤((a+1:Nat):Int):=fun k v hv=>by have:=h.es k v hv;omega
 split
 ·refine⟨by simp only[List.length_set];exact h.len,fun i=>?_,fun k v hv=>?_⟩
  ·simp only
   rw[iy]
   split
   ·rename_i hc
    cases hf:bS (eT xs a) s.1 with
    |none=>simp only[Option.getD_none];omega
    |some v=>have:=h.es _ _ hf;simp only[Option.getD_some];omega
   ·exact h.ah i
  ·simp only at hv
   rw[iC]at hv
   split at hv
   ·injection hv with hv;subst hv;omega
   ·exact mf k v hv
 ·exact⟨h.len,h.ah,mf⟩
theorem oO.notes:∀(k a:Nat){s:pD},oO xs a s→oO xs (a+k) (bK xs k a s)
 |0,a,s,h=>h
 |k+1,a,s,h=>by
  have:=oO.notes k (a+1) h.note
  rw[show a+(k+1)=a+1+k by omega]
  exact this
theorem dv:∀(k i:Nat)(s:pD),bK xs (k+1) i s=iW xs (i+k) (bK xs k i s)
 |0,i,s=>rfl
 |k+1,i,s=>by
  rw[bK,dv k (i+1) (iW xs i s),show i+1+k=i+(k+1) by omega]
  rfl
theorem Hp {a:Nat}{s:pD}(h:oO xs a s)(k:Int×Int):0≤(bS k s.1).getD 0∧(bS k s.1).getD 0≤(a:Int):=by
 cases hf:bS k s.1 with
 |none=>simp
 |some v=>have:=h.es _ _ hf;simp only[Option.getD_some];omega
structure mh (xs:List Int)(a:Nat)(t:Tk):Prop where
 le:t.l≤258∧a+t.l≤xs.length
 one:t.l=0→t.b=xs.getD a 0∧t.d=0
 rep:t.l≠0→t.b=0∧3≤t.l∧1≤t.d∧t.d≤a∧t.d≤32768∧∀i,i<t.l→xs.getD (a-t.d+i) 0=xs.getD (a+i) 0
theorem mh.try {a f:Nat}{t:Tk}(ha:a≤xs.length)(hf:f<a)(hd:a-f≤32768)(h:mh xs a t):mh xs a (kS xs a f t):=by
 unfold kS
 split
 ·rename_i hc
  have:=lE (f:=f) ha
  refine⟨this,fun h0=>?_,fun _=>⟨rfl,hc.1,by show 1≤a-f;omega,by show a-f≤a;omega,hd,fun i hi=>?_⟩⟩
  ·have:dL xs f a=0:=h0
   omega
  ·show xs.getD (a-(a-f)+i) 0=_
   rw[show a-(a-f)=f by omega]
   exact sP hi
 ·exact h
theorem mh.chain {a:Nat}{ah:List Int}(ha:a≤xs.length)(FF:∀i,0≤ah.getD i 0∧ah.getD i 0≤(i:Int)):∀(k p:Nat){t:Tk},p≤a→mh xs a t→mh xs a (dq xs ah a k p t)
 |0,p,t,_,h=>h
 |k+1,p,t,hp,h=>by
  simp only[dq]
  split
  ·rename_i hc
   have:=FF (p-1)
   exact mh.chain ha FF k _ (by omega) (h.try ha (by omega) hc.2.1)
  ·exact h
theorem mh.VM {a:Nat}{s:pD}(ha:a<xs.length)(hs:oO xs a s):mh xs a (qv xs s a):=by
 have h0:mh xs a ⟨xs.getD a 0,0,0⟩:=⟨⟨Nat.zero_le _,Nat.le_of_lt ha⟩,fun _=>⟨rfl,rfl⟩,fun h=>absurd rfl h⟩
 unfold qv
 split
 ·have:=Hp hs (eT xs a)
  exact mh.chain (Nat.le_of_lt ha) hs.ah _ _ (by omega) h0
 ·exact h0
theorem gG {a:Nat}{ah:List Int}(FF:∀i,0≤ah.getD i 0∧ah.getD i 0≤(i:Int)):∀(k k' p:Nat)(t:Tk),p≤k→p≤k'→dq xs ah a k p t=dq xs ah a k' p t
 |0,0,p,t,_,_=>rfl
 |0,k'+1,p,t,h,_=>by
  simp only[dq]
  rw[if_neg (by omega)]
 |k+1,0,p,t,_,h=>by
  simp only[dq]
  rw[if_neg (by omega)]
 |k+1,k'+1,p,t,h1,h2=>by
  simp only[dq]
  split
  ·have:=FF (p-1)
   exact gG FF k k' _ _ (by omega) (by omega)
  ·rfl
theorem oO.start (xs:List Int):oO xs 0 ([],List.replicate xs.length 0):=
 ⟨List.length_replicate,fun i=>by
  have:(List.replicate xs.length (0:Int)).getD i 0=0:=by
   rw[List.getD_eq_getElem?_getD,List.getElem?_replicate];split<;>rfl
  simp only[this];omega,fun k v h=>by cases h⟩
inductive jQ (xs:List Int):Nat→List Tk→Prop where
 |done {a:Nat}(h:xs.length≤a):jQ xs a []
 |step {a:Nat}{t:Tk}{ts:List Tk}(ha:a<xs.length)(h:mh xs a t)(h2:jQ xs (a+max t.l 1) ts):jQ xs a (t::ts)
theorem lC:∀(k a:Nat)(s:pD)(out:List Tk),dH xs k a s out=out++dH xs k a s []
 |0,a,s,out=>by simp[dH]
 |k+1,a,s,out=>by
  simp only[dH]
  split
  ·rw[lC k _ _ (out++_),lC k _ _ ([]++_)]
   simp
  ·simp
theorem qh:∀(k a:Nat)(s:pD),oO xs a s→xs.length≤a+k→jQ xs a (dH xs k a s [])
 |0,a,s,hs,h=>.done (by omega)
 |k+1,a,s,hs,h=>by
  simp only[dH]
  split
  ·rename_i hc
   rw[lC]
   exact .step hc (mh.VM hc hs) (qh k _ _ (oO.notes _ _ hs) (by omega))
  ·exact .done (by omega)
theorem fM (xs:List Int):jQ xs 0 (bb xs):=qh _ _ _ (oO.start xs) (by omega)
theorem rP:∀(k k' a:Nat)(s:pD)(out:List Tk),xs.length≤a+k→xs.length≤a+k'→dH xs k a s out=dH xs k' a s out
 |0,0,a,s,out,_,_=>rfl
 |0,k'+1,a,s,out,h,_=>by
  simp only[dH]
  rw[if_neg (by omega)]
 |k+1,0,a,s,out,_,h=>by
  simp only[dH]
  rw[if_neg (by omega)]
 |k+1,k'+1,a,s,out,h1,h2=>by
  simp only[dH]
  split
  ·exact rP k k' _ _ _ (by omega) (by omega)
  ·rfl
end
end Go.Proofs.Ytibadaomjlkoaaa
