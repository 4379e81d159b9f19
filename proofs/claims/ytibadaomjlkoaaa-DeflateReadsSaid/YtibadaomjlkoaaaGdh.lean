import Derived.Test.YtibadaomjlkoaaaGdg
import Derived.Test.YtibadaomjlkoaaaGdc
set_option linter.unusedVariables false
set_option linter.unusedSimpArgs false
open Go.RowKit
namespace Go.Proofs.Ytibadaomjlkoaaa
set_option maxRecDepth 10000
section
variable{K Kp:AV→AH→Prop}{xs:List Int}
theorem As {co n0:Nat}{limit:Int}(uG:xs.length≤1000000)(sR:∀x∈xs,0≤x∧x<256)(iP:limit<9223372036854775808)
 (h1:limit<0∨524288<limit→K (.aE [.ns,.int .i64 0,.int .i64 1]) [.one false 0 (.ints .u8 xs co)])
 (h2:∀g c s,0≤limit→limit≤524288→(il FI).run (unpack xs) limit.toNat ⟨0,[]⟩=.ok ((),s)→cZ xs limit.toNat c s→(∀x∈s.out,0≤x∧x<256)→K (.aE [.sl 1 g 0 s.out.length c,.int .i64 (((s.a+7)/8:Nat):Int),.int .i64 0]) [.one false 0 (.ints .u8 xs co),.one true g (.ints .u8 s.out c)])
 (h3:∀e,0≤limit→limit≤524288→(il FI).run (unpack xs) limit.toNat ⟨0,[]⟩=.error e→K (.aE [.ns,.int .i64 0,.int .i64 e]) [.one false 0 (.ints .u8 xs co)]):
 aa Try.prog 13 [.sl 0 0 0 xs.length n0,.int .i64 limit] [.one false 0 (.ints .u8 xs co)] K Kp:=by
 refine aa.cQ ?_
 refine aa.UB (x:=aaO (fun _=>[6]) []) ae mixed Try.func13 (rfl:Try.f13.body=some MG) (by kernel_rfl) Pn rfl rfl rfl 2 rfl (by kernel_rfl) rfl (by kernel_rfl) ?_
 refine Qs ?_
 refine And.intro (fun hA=>?_) (fun hA=>?_)
 ·have Me:limit<0:=by simpa using hA
  refine Qs ?_
  exact⟨_,_,_,bV (M:=[.one false 0 (.ints .u8 xs co)]) (E:=[_,_,_]) ⟨trivial,trivial⟩ (fun o ho=>by rw[List.mem_singleton.1 ho];rfl) rfl,h1 (.inl Me)⟩
 have Me:¬limit<0:=by simpa using hA
 refine Qs ?_
 refine And.intro (fun hB=>?_) (fun hB=>?_)
 ·have Vd:524288<limit:=by simpa using hB
  refine Qs ?_
  exact⟨_,_,_,bV (M:=[.one false 0 (.ints .u8 xs co)]) (E:=[_,_,_]) ⟨trivial,trivial⟩ (fun o ho=>by rw[List.mem_singleton.1 ho];rfl) rfl,h1 (.inr Vd)⟩
 have Vd:¬524288<limit:=by simpa using hB
 obtain⟨lim,rfl⟩:=Int.eq_ofNat_of_zero_le (show 0≤limit by omega)
 rw[Int.toNat_natCast]at h2 h3
 have y6:lim≤524288:=by omega
 have uh:=aL xs
 obtain⟨R,hR⟩:∃R,(il FI).run (unpack xs) lim ⟨0,[]⟩=R:=⟨_,rfl⟩
 rw[hR]at h2 h3
 refine Qs ?_
 refine Ti (i:=0) (xs:=xs) rfl rfl (by omega) fun gb cb hcb=>?_
 refine Qs ?_
 refine WO.Dv (σ:=Nat×Nat×Nat×DS×Int) (fun(f,g,c,s,last)=>cZ xs lim c s∧(∀x∈s.out,0≤x∧x<256)∧8*xs.length<f+s.a∧(if last=0 then(il f).run (unpack xs) lim s else .ok ((),s))=R) (fun(f,g,c,s,last)=>8*xs.length-s.a)
  (fun(f,g,c,s,last)=>[(4,.ptr 1 0 0),(5,.ptr 2 0 0),(6,.ptr 3 0 0),(7,.ptr 6 0 0),(8,.ptr 7 0 0),(9,.int .i64 last)]) (fun(f,g,c,s,last)=>zI co lim gb cb xs .ns (.int .i64 0) (.int .i64 0) g c s) (FI,0,0,⟨0,[]⟩,0) ae mixed (by kernel_rfl)
  [(4,.ptr 1 0 0),(5,.ptr 2 0 0),(6,.ptr 3 0 0),(7,.ptr 6 0 0),(8,.ptr 7 0 0),(9,.int .i64 0)] _ ⟨⟨uG,sR,Nat.zero_le _,by omega,Nat.zero_le _,Nat.zero_le _⟩,fun x hx=>(by cases hx),by show 8*xs.length<FI+0;unfold FI;omega,by rw[if_pos rfl];exact hR⟩ (aI rfl (aI rfl (aI rfl (aI rfl (aI rfl (aI rfl (trivial))))))) rfl
  (Vw.ghost (i:=6) (k:=1) (x:=.ints .u8 [] 0) rfl rfl ⟨rfl,rfl⟩) (aI rfl (aI rfl (aI rfl (aI rfl (aI rfl (aI rfl (aI rfl (aI rfl (aI rfl (trivial)))))))))) (fun _=>rfl) (fun _=>rfl) (fun _=>?_) ?_
 ·exact⟨trivial,rfl,rfl,rfl,trivial,rfl,rfl,rfl,trivial,trivial⟩
 rintro⟨f,g,c,s,last⟩ ⟨ok,hb,hf,hR⟩ d0
 refine Qs ?_
 refine And.intro (fun hc=>?_) (fun hc=>?_)
 ·have he:last=0:=by simpa using hc
  rw[if_pos he]at hR
  obtain⟨f,rfl⟩:∃f',f=f'+1:=⟨f-1,by have:=ok.al;omega⟩
  rw[il]at hR
  refine Qs ?_
  refine Hh (n:=1) hR ok (by omega) (fun v s1 hv EA Js mZ hR=>?_) (fun h=>?_)
  ·refine Qs ?_
   refine Hh (n:=2) hR mZ (by omega) (fun k s2 hk rT qJ iw hR=>?_) (fun h=>?_)
   ·rw[DP.run_bind]at hR
    obtain⟨R2,qK⟩:∃R2,(gJ k).run (unpack xs) lim s2=R2:=⟨_,rfl⟩
    rw[qK]at hR
    have gm:∀x∈s2.out,0≤x∧x<256:=by rw[rT,EA];exact hb
    have aa7:s.a+3≤s2.a:=by omega
    obtain rfl|rfl|rfl|rfl:k=0∨k=1∨k=2∨k=3:=by omega
    ·
     refine Qs ?_
     refine Bb (k:=0) (.inl ⟨rfl,rfl⟩) qK iw gm (fun g3 c3 s3 e3 iV AL=>?_) (fun e g3 c3 s3 e3=>?_)
     ·have hmo:s2.a≤s3.a:=by
       have:=DP.l6 _ _ iw.ol (qK.trans e3)
       exact this.2.2
      rw[e3]at hR
      simp only at hR
      have Uq:(if(v:Int)=0 then(il f).run (unpack xs) lim s3 else .ok ((),s3))=R:=by
       rw[←hR];split<;>rfl
      refine Qs ?_
      refine RO.same (f,g3,c3,s3,(v:Int)) ⟨iV,AL,by omega,Uq⟩ (show 8*xs.length-s3.a<8*xs.length-s.a by have:=iw.al;omega) (aI rfl (aI rfl (aI rfl (aI rfl (aI rfl (aI rfl (trivial))))))) (aI rfl (aI rfl (aI rfl (aI rfl (aI rfl (aI rfl (aI rfl (aI rfl (aI rfl (trivial))))))))))
     ·rw[e3]at hR
      refine jn ?_
      conv=>whnf
      refine And.intro rfl ?_
      conv=>whnf
      refine And.intro rfl ?_
      conv=>whnf
      refine And.intro rfl ?_
      conv=>whnf
      exact⟨_,_,_,bV (M:=[.one false 0 (.ints .u8 xs co)]) (E:=[_,_,_,_,_,_,_,_,_]) ⟨trivial,trivial⟩ (fun o ho=>by rw[List.mem_singleton.1 ho];rfl) rfl,h3 e (by omega) (by omega) hR.symm⟩
    ·
     refine Qs ?_
     refine Bb (k:=1) (.inr (.inl ⟨rfl,rfl⟩)) qK iw gm (fun g3 c3 s3 e3 iV AL=>?_) (fun e g3 c3 s3 e3=>?_)
     ·have hmo:s2.a≤s3.a:=by
       have:=DP.l6 _ _ iw.ol (qK.trans e3)
       exact this.2.2
      rw[e3]at hR
      simp only at hR
      have Uq:(if(v:Int)=0 then(il f).run (unpack xs) lim s3 else .ok ((),s3))=R:=by
       rw[←hR];split<;>rfl
      refine Qs ?_
      refine RO.same (f,g3,c3,s3,(v:Int)) ⟨iV,AL,by omega,Uq⟩ (show 8*xs.length-s3.a<8*xs.length-s.a by have:=iw.al;omega) (aI rfl (aI rfl (aI rfl (aI rfl (aI rfl (aI rfl (trivial))))))) (aI rfl (aI rfl (aI rfl (aI rfl (aI rfl (aI rfl (aI rfl (aI rfl (aI rfl (trivial))))))))))
     ·rw[e3]at hR
      refine jn ?_
      conv=>whnf
      refine And.intro rfl ?_
      conv=>whnf
      refine And.intro rfl ?_
      conv=>whnf
      refine And.intro rfl ?_
      conv=>whnf
      exact⟨_,_,_,bV (M:=[.one false 0 (.ints .u8 xs co)]) (E:=[_,_,_,_,_,_,_,_,_]) ⟨trivial,trivial⟩ (fun o ho=>by rw[List.mem_singleton.1 ho];rfl) rfl,h3 e (by omega) (by omega) hR.symm⟩
    ·
     refine Qs ?_
     refine Bb (k:=2) (.inr (.inr (.inl ⟨rfl,rfl⟩))) qK iw gm (fun g3 c3 s3 e3 iV AL=>?_) (fun e g3 c3 s3 e3=>?_)
     ·have hmo:s2.a≤s3.a:=by
       have:=DP.l6 _ _ iw.ol (qK.trans e3)
       exact this.2.2
      rw[e3]at hR
      simp only at hR
      have Uq:(if(v:Int)=0 then(il f).run (unpack xs) lim s3 else .ok ((),s3))=R:=by
       rw[←hR];split<;>rfl
      refine Qs ?_
      refine RO.same (f,g3,c3,s3,(v:Int)) ⟨iV,AL,by omega,Uq⟩ (show 8*xs.length-s3.a<8*xs.length-s.a by have:=iw.al;omega) (aI rfl (aI rfl (aI rfl (aI rfl (aI rfl (aI rfl (trivial))))))) (aI rfl (aI rfl (aI rfl (aI rfl (aI rfl (aI rfl (aI rfl (aI rfl (aI rfl (trivial))))))))))
     ·rw[e3]at hR
      refine jn ?_
      conv=>whnf
      refine And.intro rfl ?_
      conv=>whnf
      refine And.intro rfl ?_
      conv=>whnf
      refine And.intro rfl ?_
      conv=>whnf
      exact⟨_,_,_,bV (M:=[.one false 0 (.ints .u8 xs co)]) (E:=[_,_,_,_,_,_,_,_,_]) ⟨trivial,trivial⟩ (fun o ho=>by rw[List.mem_singleton.1 ho];rfl) rfl,h3 e (by omega) (by omega) hR.symm⟩
    ·
     refine Qs ?_
     refine Bb (k:=3) (.inr (.inr (.inr ⟨rfl,rfl⟩))) qK iw gm (fun g3 c3 s3 e3 iV AL=>?_) (fun e g3 c3 s3 e3=>?_)
     ·have hmo:s2.a≤s3.a:=by
       have:=DP.l6 _ _ iw.ol (qK.trans e3)
       exact this.2.2
      rw[e3]at hR
      simp only at hR
      have Uq:(if(v:Int)=0 then(il f).run (unpack xs) lim s3 else .ok ((),s3))=R:=by
       rw[←hR];split<;>rfl
      refine Qs ?_
      refine RO.same (f,g3,c3,s3,(v:Int)) ⟨iV,AL,by omega,Uq⟩ (show 8*xs.length-s3.a<8*xs.length-s.a by have:=iw.al;omega) (aI rfl (aI rfl (aI rfl (aI rfl (aI rfl (aI rfl (trivial))))))) (aI rfl (aI rfl (aI rfl (aI rfl (aI rfl (aI rfl (aI rfl (aI rfl (aI rfl (trivial))))))))))
     ·rw[e3]at hR
      refine jn ?_
      conv=>whnf
      refine And.intro rfl ?_
      conv=>whnf
      refine And.intro rfl ?_
      conv=>whnf
      refine And.intro rfl ?_
      conv=>whnf
      exact⟨_,_,_,bV (M:=[.one false 0 (.ints .u8 xs co)]) (E:=[_,_,_,_,_,_,_,_,_]) ⟨trivial,trivial⟩ (fun o ho=>by rw[List.mem_singleton.1 ho];rfl) rfl,h3 e (by omega) (by omega) hR.symm⟩
   ·
    refine jn ?_
    conv=>whnf
    refine And.intro rfl ?_
    conv=>whnf
    refine And.intro rfl ?_
    conv=>whnf
    refine And.intro rfl ?_
    conv=>whnf
    exact⟨_,_,_,bV (M:=[.one false 0 (.ints .u8 xs co)]) (E:=[_,_,_,_,_,_,_,_,_]) ⟨trivial,trivial⟩ (fun o ho=>by rw[List.mem_singleton.1 ho];rfl) rfl,h3 50 (by omega) (by omega) h⟩
  ·
   refine jn ?_
   conv=>whnf
   refine And.intro rfl ?_
   conv=>whnf
   refine And.intro rfl ?_
   conv=>whnf
   refine And.intro rfl ?_
   conv=>whnf
   exact⟨_,_,_,bV (M:=[.one false 0 (.ints .u8 xs co)]) (E:=[_,_,_,_,_,_,_,_,_]) ⟨trivial,trivial⟩ (fun o ho=>by rw[List.mem_singleton.1 ho];rfl) rfl,h3 50 (by omega) (by omega) h⟩
 ·have he:¬last=0:=by simpa using hc
  rw[if_neg he]at hR
  have hK:=h2 g c s (by omega) (by omega) hR.symm ok hb
  have W9:=ok.al
  have e8:((s.a:Int)+7).tdiv 8=(((s.a+7)/8:Nat):Int):=Int.ofNat_tdiv (s.a+7) 8|>.symm
  refine Qs ?_
  refine Y1 (i:=5) (j:=4) (xs:=xs) (a:=s.a) rfl rfl rfl ?_
  refine Qs ?_
  rw[e8]
  refine Qs ?_
  refine JI ?_
  conv=>whnf
  refine And.intro rfl ?_
  conv=>whnf
  refine And.intro rfl ?_
  conv=>whnf
  refine And.intro rfl ?_
  conv=>whnf
  refine⟨[.dE 0,.own 8],.aE [.sl 1 g 0 s.out.length c,.int .i64 (((s.a+7)/8:Nat):Int),.int .i64 0],[.one false 0 (.ints .u8 xs co),.one true g (.ints .u8 s.out c)],⟨⟨⟨rfl,_,rfl,rfl⟩,⟨rfl,rfl⟩,trivial⟩,rfl,⟨trivial,trivial,trivial⟩,rfl,?_⟩,hK⟩
  intro i hi
  match i,hi with
  |0,_=>exact .inr rfl
end
end Go.Proofs.Ytibadaomjlkoaaa
open Go.RowKit
namespace Go.Proofs.Ytibadaomjlkoaaa
set_option maxRecDepth 10000
def jJ (xs:List Int)(lim:Nat):Except Int (Unit×DS):=(il FI).run (unpack xs) lim ⟨0,[]⟩
theorem nR (xs:List Int)(lim:Nat):jJ xs lim=(il FI).run (unpack xs) lim ⟨0,[]⟩:=rfl
attribute[irreducible] jJ
end Go.Proofs.Ytibadaomjlkoaaa
open Go.RowKit
namespace Go.Proofs.Ytibadaomjlkoaaa
set_option maxRecDepth 10000
section
variable{M:AH}{K Kp:AV→AH→Prop}
theorem Cy {i g off n c0 co:Nat}{o:Bool}{xs ys:List Int}{limit:Int}(hi:M[i]?=some (.one o g (.ints .u8 ys co)))(hn:n=xs.length)(hy:xs=(ys.drop off).take xs.length)(hc:off+xs.length≤co)
 (uG:xs.length≤1000000)(sR:∀x∈xs,0≤x∧x<256)(iP:limit<9223372036854775808)
 (h1:limit<0∨524288<limit→K (.aE [.ns,.int .i64 0,.int .i64 1]) M)
 (h2:∀g c s,0≤limit→limit≤524288→jJ xs limit.toNat=.ok ((),s)→cZ xs limit.toNat c s→(∀x∈s.out,0≤x∧x<256)→K (.aE [.sl M.length g 0 s.out.length c,.int .i64 (((s.a+7)/8:Nat):Int),.int .i64 0]) (M++[.one true g (.ints .u8 s.out c)]))
 (h3:∀e,0≤limit→limit≤524288→jJ xs limit.toNat=.error e→K (.aE [.ns,.int .i64 0,.int .i64 e]) M):
 aa Try.prog 13 [.sl i g off n c0,.int .i64 limit] M K Kp:=by
 subst hn
 refine aa.lift [.cP i g off] (As (xs:=xs) (n0:=c0) (co:=xs.length) (limit:=limit) (K:=fun r N=>(r.rn [.cP i g off] M.length=r∧N=[.one false 0 (.ints .u8 xs xs.length)]∧K r M)∨∃g c s,r=.aE [.sl 1 g 0 s.out.length c,.int .i64 (((s.a+7)/8:Nat):Int),.int .i64 0]∧N=[.one false 0 (.ints .u8 xs xs.length),.one true g (.ints .u8 s.out c)]∧K (.aE [.sl M.length g 0 s.out.length c,.int .i64 (((s.a+7)/8:Nat):Int),.int .i64 0]) (M++[.one true g (.ints .u8 s.out c)])) (Kp:=fun _ _=>False) uG sR iP
  (fun h=>.inl ⟨rfl,rfl,h1 h⟩) (fun g c s a1 a2 a3 a4 a5=>.inr ⟨g,c,s,rfl,rfl,h2 g c s a1 a2 (by rw[nR];exact a3) a4 a5⟩) (fun e a1 a2 a3=>.inl ⟨rfl,rfl,h3 e a1 a2 (by rw[nR];exact a3)⟩))
  (by simp[AV.mX,AV.rn,sr,uB,uC,TE.i]) rfl ⟨⟨_,_,_,rfl,ao hi,cq.ints hc hy⟩,trivial⟩ ⟨trivial,trivial⟩ ?_ (fun _ _ h=>h.elim)
 rintro r M' (⟨hr,rfl,hk⟩|⟨g,c,s,rfl,rfl,hk⟩)
 ·refine⟨⟨rfl,rfl⟩,?_⟩
  rw[hr]
  rw[←List.append_nil M]at hk
  exact hk
 ·exact⟨⟨rfl,rfl⟩,hk⟩
theorem Em {i g n c0 co:Nat}{o:Bool}{xs:List Int}{limit:Int}(hi:M[i]?=some (.one o g (.ints .u8 xs co)))(hn:n=xs.length)(hc:xs.length≤co)
 (uG:xs.length≤1000000)(sR:∀x∈xs,0≤x∧x<256)(iP:limit<9223372036854775808)
 (h1:limit<0∨524288<limit→K (.aE [.ns,.int .i64 0,.int .i64 1]) M)
 (h2:∀g c s,0≤limit→limit≤524288→jJ xs limit.toNat=.ok ((),s)→cZ xs limit.toNat c s→(∀x∈s.out,0≤x∧x<256)→K (.aE [.sl M.length g 0 s.out.length c,.int .i64 (((s.a+7)/8:Nat):Int),.int .i64 0]) (M++[.one true g (.ints .u8 s.out c)]))
 (h3:∀e,0≤limit→limit≤524288→jJ xs limit.toNat=.error e→K (.aE [.ns,.int .i64 0,.int .i64 e]) M):
 aa Try.prog 13 [.sl i g 0 n c0,.int .i64 limit] M K Kp:=
 Cy hi hn (by rw[List.drop_zero,List.take_length]) (by omega) uG sR iP h1 h2 h3
end
end Go.Proofs.Ytibadaomjlkoaaa
open Go.RowKit
namespace Go.Proofs.Ytibadaomjlkoaaa
end Go.Proofs.Ytibadaomjlkoaaa
open Go.RowKit
namespace Go.Proofs.Ytibadaomjlkoaaa
theorem DP.dx {α:Type}{row p q:List Bool}{v:Int}{n lim:Nat}{k:Int→DP α}{s:DS}(hr:row=p++(bitsOf v n++q))(ha:s.a=p.length)(h0:0≤v)(h:v<2^n):
 (DP.get n k).run row lim s=(k v).run row lim {s with a:=s.a+n}:=by
 rw[DP.run,if_pos (by rw[hr];simp[ak];omega),hr,ha,Pu p q v n h0 h]
theorem yA {row:List Bool}{lim:Nat}:∀(ys:List Int)(p q:List Bool)(s:DS),row=p++(unpack ys++q)→s.a=p.length→(∀y∈ys,0≤y∧y<256)→s.out.length+ys.length≤lim→
 (xG ys.length).run row lim s=.ok ((),⟨s.a+8*ys.length,s.out++ys⟩)
 |[],p,q,s,_,_,_,_=>by
  obtain⟨a,o⟩:=s
  simp[xG,DP.run]
 |y::ys,p,q,s,hr,ha,hy,hl=>by
  have pR:=hy y List.mem_cons_self
  rw[List.length_cons,xG,DP.dx (p:=p) (v:=y) (n:=8) (q:=unpack ys++q) (by rw[hr,ep,List.append_assoc]) ha pR.1 (by have:=pR.2;omega),DP.run,if_neg (show¬lim≤s.out.length by simp only[List.length_cons]at hl;omega),
   yA ys (p++bitsOf y 8) q ⟨s.a+8,s.out++[y]⟩ (by rw[hr,ep];simp[List.append_assoc]) (by rw[List.length_append,ak,ha]) (fun z hz=>hy z (List.mem_cons_of_mem _ hz)) (by simp only[List.length_append,List.length_cons,List.length_nil]at hl⊢;omega)]
  simp only[List.append_assoc,List.cons_append,List.nil_append]
  rw[show s.a+8+8*ys.length=s.a+8*(ys.length+1) by omega]
theorem Ai {row:List Bool}{lim:Nat}{ys:List Int}{p q:List Bool}{s:DS}(hr:row=p++(bitsOf (ys.length:Int) 16++(bitsOf (65535-(ys.length:Int)) 16++(unpack ys++q))))(ha:(s.a+7)/8*8=p.length)(hl:ys.length≤65535)(hy:∀y∈ys,0≤y∧y<256)(iP:s.out.length+ys.length≤lim):
 jc.run row lim s=.ok ((),⟨p.length+32+8*ys.length,s.out++ys⟩):=by
 rw[jc,DP.run,DP.dx (p:=p) hr ha (by omega) (by omega),DP.dx (p:=p++bitsOf (ys.length:Int) 16) (v:=65535-(ys.length:Int)) (q:=unpack ys++q) (by rw[hr];simp[List.append_assoc]) (by show(s.a+7)/8*8+16=_;rw[List.length_append,ak,ha]) (by omega) (by omega),
  if_pos (by omega),DP.run,if_neg (show¬(lim:Int)-s.out.length<ys.length by omega),Int.toNat_natCast]
 have e:=yA (row:=row) (lim:=lim) ys (p++bitsOf (ys.length:Int) 16++bitsOf (65535-(ys.length:Int)) 16) q ⟨(s.a+7)/8*8+16+16,s.out⟩ (by rw[hr];simp[List.append_assoc]) (by show(s.a+7)/8*8+16+16=_;rw[List.length_append,List.length_append,ak,ak,ha]) hy iP
 simp only[ha]at e⊢
 exact e
end Go.Proofs.Ytibadaomjlkoaaa
open Go.RowKit
namespace Go.Proofs.Ytibadaomjlkoaaa
structure Tk where
 b:Int
 l:Nat
 d:Nat
def Tk.row (t:Tk):List AV:=[.int .u8 t.b,.int .i64 (t.l:Int),.int .i64 (t.d:Int)]
section
variable(xs:List Int)
def uc (f a:Nat):Nat→Nat→Nat
 |0,n=>n
 |k+1,n=>if a+n<xs.length∧xs.getD (f+n) 0=xs.getD (a+n) 0 then uc f a k (n+1)else n
def sL (f a:Nat):Nat:=uc xs f a 258 0
def pB (i:Nat):Int×Int:=(xs.getD i 0,xs.getD (i+1) 0*256+xs.getD (i+2) 0)
abbrev rU:=List ((Int×Int)×Int)×List Int
def jD (i:Nat)(s:rU):rU:=
 if i+3≤xs.length then(mV (pB xs i) ((i:Int)+1) s.1,s.2.set i ((cf (pB xs i) s.1).getD 0))else s
def xu (a f:Nat)(t:Tk):Tk:=if 3≤sL xs f a∧t.l<sL xs f a then⟨0,sL xs f a,a-f⟩else t
def eL (ah:List Int)(a:Nat):Nat→Nat→Tk→Tk
 |0,_,t=>t
 |k+1,p,t=>if 0<p∧a-(p-1)≤32768∧t.l<258 then eL ah a k (ah.getD (p-1) 0).toNat (xu xs a (p-1) t)else t
def w9 (s:rU)(a:Nat):Tk:=
 if a+3≤xs.length then eL xs s.2 a a ((cf (pB xs a) s.1).getD 0).toNat ⟨xs.getD a 0,0,0⟩else⟨xs.getD a 0,0,0⟩
def bW:Nat→Nat→rU→rU
 |0,_,s=>s
 |k+1,i,s=>bW k (i+1) (jD xs i s)
def fh:Nat→Nat→rU→List Tk→List Tk
 |0,_,_,out=>out
 |k+1,a,s,out=>if a<xs.length then fh k (a+max (w9 xs s a).l 1) (bW xs (max (w9 xs s a).l 1) a s) (out++[w9 xs s a])else out
def cI:List Tk:=fh xs xs.length 0 ([],List.replicate xs.length 0) []
structure pW (a:Nat)(s:rU):Prop where
 len:s.2.length=xs.length
 ah:∀i,0≤s.2.getD i 0∧s.2.getD i 0≤(i:Int)
 es:∀k v,cf k s.1=some v→1≤v∧v≤(a:Int)
end
section
variable{xs:List Int}
theorem G1 (f a:Nat):∀k n,a+n≤xs.length→uc xs f a k n≤n+k∧a+uc xs f a k n≤xs.length∧n≤uc xs f a k n
 |0,n,h=>⟨Nat.le_refl _,h,Nat.le_refl _⟩
 |k+1,n,h=>by
  simp only[uc]
  split
  ·rename_i hc
   have:=G1 f a k (n+1) hc.1
   omega
  ·omega
theorem Hs {f a:Nat}(h:a≤xs.length):sL xs f a≤258∧a+sL xs f a≤xs.length:=by
 have:=G1 (xs:=xs) f a 258 0 h
 unfold sL;omega
theorem G2 (f a:Nat):∀k n,(∀i,i<n→xs.getD (f+i) 0=xs.getD (a+i) 0)→∀i,i<uc xs f a k n→xs.getD (f+i) 0=xs.getD (a+i) 0
 |0,n,h,i,hi=>h i hi
 |k+1,n,h,i,hi=>by
  simp only[uc]at hi
  split at hi
  ·rename_i hc
   refine G2 f a k (n+1) (fun j hj=>?_) i hi
   rcases(show j<n∨j=n by omega)with h1|rfl
   ·exact h j h1
   ·exact hc.2
  ·exact h i hi
theorem PD {f a i:Nat}(h:i<sL xs f a):xs.getD (f+i) 0=xs.getD (a+i) 0:=G2 f a 258 0 (fun i hi=>absurd hi (Nat.not_lt_zero i)) i h
theorem jg {l:List Int}{i j:Nat}{v:Int}:(l.set i v).getD j 0=if i=j∧i<l.length then v else l.getD j 0:=by
 simp only[List.getD_eq_getElem?_getD,List.getElem?_set]
 by_cases h:i=j
 ·subst h
  by_cases h2:i<l.length
  ·simp[h2]
  ·simp[h2]
 ·simp[h]
theorem pW.note {a:Nat}{s:rU}(h:pW xs a s):pW xs (a+1) (jD xs a s):=by
 unfold jD
 have m9:∀k v,cf k s.1=some v→1≤v∧v≤((a+1:Nat):Int):=fun k v hv=>by have:=h.es k v hv;omega
 split
 ·refine⟨by simp only[List.length_set];exact h.len,fun i=>?_,fun k v hv=>?_⟩
  ·simp only
   rw[jg]
   split
   ·rename_i hc
    cases hf:cf (pB xs a) s.1 with
    |none=>simp only[Option.getD_none];omega
    |some v=>have:=h.es _ _ hf;simp only[Option.getD_some];omega
   ·exact h.ah i
  ·simp only at hv
   rw[jk]at hv
   split at hv
   ·injection hv with hv;subst hv;omega
   ·exact m9 k v hv
 ·exact⟨h.len,h.ah,m9⟩
theorem pW.notes:∀(k a:Nat){s:rU},pW xs a s→pW xs (a+k) (bW xs k a s)
 |0,a,s,h=>h
 |k+1,a,s,h=>by
  have:=pW.notes k (a+1) h.note
  rw[show a+(k+1)=a+1+k by omega]
  exact this
theorem dG:∀(k i:Nat)(s:rU),bW xs (k+1) i s=jD xs (i+k) (bW xs k i s)
 |0,i,s=>rfl
 |k+1,i,s=>by
  rw[bW,dG k (i+1) (jD xs i s),show i+1+k=i+(k+1) by omega]
  rfl
theorem JA {a:Nat}{s:rU}(h:pW xs a s)(k:Int×Int):0≤(cf k s.1).getD 0∧(cf k s.1).getD 0≤(a:Int):=by
 cases hf:cf k s.1 with
 |none=>simp
 |some v=>have:=h.es _ _ hf;simp only[Option.getD_some];omega
structure nh (xs:List Int)(a:Nat)(t:Tk):Prop where
 le:t.l≤258∧a+t.l≤xs.length
 one:t.l=0→t.b=xs.getD a 0∧t.d=0
 rep:t.l≠0→t.b=0∧3≤t.l∧1≤t.d∧t.d≤a∧t.d≤32768∧∀i,i<t.l→xs.getD (a-t.d+i) 0=xs.getD (a+i) 0
theorem nh.try {a f:Nat}{t:Tk}(ha:a≤xs.length)(hf:f<a)(hd:a-f≤32768)(h:nh xs a t):nh xs a (xu xs a f t):=by
 unfold xu
 split
 ·rename_i hc
  have:=Hs (f:=f) ha
  refine⟨this,fun h0=>?_,fun _=>⟨rfl,hc.1,by show 1≤a-f;omega,by show a-f≤a;omega,hd,fun i hi=>?_⟩⟩
  ·have:sL xs f a=0:=h0
   omega
  ·show xs.getD (a-(a-f)+i) 0=_
   rw[show a-(a-f)=f by omega]
   exact PD hi
 ·exact h
theorem nh.chain {a:Nat}{ah:List Int}(ha:a≤xs.length)(Mb:∀i,0≤ah.getD i 0∧ah.getD i 0≤(i:Int)):∀(k p:Nat){t:Tk},p≤a→nh xs a t→nh xs a (eL xs ah a k p t)
 |0,p,t,_,h=>h
 |k+1,p,t,hp,h=>by
  simp only[eL]
  split
  ·rename_i hc
   have:=Mb (p-1)
   exact nh.chain ha Mb k _ (by omega) (h.try ha (by omega) hc.2.1)
  ·exact h
theorem nh.Y0 {a:Nat}{s:rU}(ha:a<xs.length)(hs:pW xs a s):nh xs a (w9 xs s a):=by
 have h0:nh xs a ⟨xs.getD a 0,0,0⟩:=⟨⟨Nat.zero_le _,Nat.le_of_lt ha⟩,fun _=>⟨rfl,rfl⟩,fun h=>absurd rfl h⟩
 unfold w9
 split
 ·have:=JA hs (pB xs a)
  exact nh.chain (Nat.le_of_lt ha) hs.ah _ _ (by omega) h0
 ·exact h0
theorem iC {a:Nat}{ah:List Int}(Mb:∀i,0≤ah.getD i 0∧ah.getD i 0≤(i:Int)):∀(k k' p:Nat)(t:Tk),p≤k→p≤k'→eL xs ah a k p t=eL xs ah a k' p t
 |0,0,p,t,_,_=>rfl
 |0,k'+1,p,t,h,_=>by
  simp only[eL]
  rw[if_neg (by omega)]
 |k+1,0,p,t,_,h=>by
  simp only[eL]
  rw[if_neg (by omega)]
 |k+1,k'+1,p,t,h1,h2=>by
  simp only[eL]
  split
  ·have:=Mb (p-1)
   exact iC Mb k k' _ _ (by omega) (by omega)
  ·rfl
theorem pW.start (xs:List Int):pW xs 0 ([],List.replicate xs.length 0):=
 ⟨List.length_replicate,fun i=>by
  have:(List.replicate xs.length (0:Int)).getD i 0=0:=by
   rw[List.getD_eq_getElem?_getD,List.getElem?_replicate];split<;>rfl
  simp only[this];omega,fun k v h=>by cases h⟩
inductive lJ (xs:List Int):Nat→List Tk→Prop where
 |done {a:Nat}(h:xs.length≤a):lJ xs a []
 |step {a:Nat}{t:Tk}{ts:List Tk}(ha:a<xs.length)(h:nh xs a t)(h2:lJ xs (a+max t.l 1) ts):lJ xs a (t::ts)
theorem qj:∀(k a:Nat)(s:rU)(out:List Tk),fh xs k a s out=out++fh xs k a s []
 |0,a,s,out=>by simp[fh]
 |k+1,a,s,out=>by
  simp only[fh]
  split
  ·rw[qj k _ _ (out++_),qj k _ _ ([]++_)]
   simp
  ·simp
theorem rC:∀(k a:Nat)(s:rU),pW xs a s→xs.length≤a+k→lJ xs a (fh xs k a s [])
 |0,a,s,hs,h=>.done (by omega)
 |k+1,a,s,hs,h=>by
  simp only[fh]
  split
  ·rename_i hc
   rw[qj]
   exact .step hc (nh.Y0 hc hs) (rC k _ _ (pW.notes _ _ hs) (by omega))
  ·exact .done (by omega)
theorem lP (xs:List Int):lJ xs 0 (cI xs):=rC _ _ _ (pW.start xs) (by omega)
theorem tC:∀(k k' a:Nat)(s:rU)(out:List Tk),xs.length≤a+k→xs.length≤a+k'→fh xs k a s out=fh xs k' a s out
 |0,0,a,s,out,_,_=>rfl
 |0,k'+1,a,s,out,h,_=>by
  simp only[fh]
  rw[if_neg (by omega)]
 |k+1,0,a,s,out,_,h=>by
  simp only[fh]
  rw[if_neg (by omega)]
 |k+1,k'+1,a,s,out,h1,h2=>by
  simp only[fh]
  split
  ·exact tC k k' _ _ _ (by omega) (by omega)
  ·rfl
end
end Go.Proofs.Ytibadaomjlkoaaa
