import Derived.Test.YtibadaomjlkoaaaGdf
import Derived.Test.YtibadaomjlkoaaaGx
import Derived.Test.YtibadaomjlkoaaaAbE
set_option linter.unusedVariables false
set_option linter.unusedSimpArgs false
open Go.RowKit
namespace Go.Proofs.Ytibadaomjlkoaaa
set_option maxRecDepth 10000
def lR (d:Nat):Nat→DP Unit
 |0=>.ret ()
 |n+1=>.back d fun v=>.y8 v (lR d n)
def jH (A B:List ((Int×Int)×Int)):Nat→DP Unit
 |0=>.fail 50
 |f+1=>(si A).bind fun v=>if v<256 then .y8 v (jH A B f)else if v=256 then .ret ()else if 285<v then .fail 80 else
   (if v<285 then(qb (v-257).toNat 4).bind fun z=>.ret (3+z)else .ret 258:DP Int).bind fun n=>
    (si B).bind fun d=>if 29<d then .fail 80 else(qb d.toNat 2).bind fun z=>.Ht (1+z) ((lR (1+z).toNat n.toNat).bind fun _=>jH A B f)
def KJ (lim gb cb:Nat)(xs:List Int)(A B:List ((Int×Int)×Int))(g c:Nat)(s:DS):AH:=zH lim gb cb xs g c s++[bM A,bI 4,bM B,bI 6]
section
variable{K Kp:AV→AH→Prop}{xs:List Int}{lim gb cb g c:Nat}{s:DS}
theorem BS {A B:List ((Int×Int)×Int)}:mi 8 (KJ lim gb cb xs A B g c s):=⟨by simp[af.nb,AV.su,AV.nb,AO.nb],rfl,trivial,trivial,lT _ (.pair .i64 .i64) _,rfl,lT _ (.pair .i64 .i64) _,rfl,trivial⟩
theorem Gb {A B:List ((Int×Int)×Int)}{N N':Int}{f0:Nat}(ok:il xs lim c s)(hb:∀x∈s.out,0≤x∧x<256)(hA:fI A)(hB:fI B)(X6:lQ N A)(Wq:lQ N' B)(hf:lim<f0+s.out.length){R:Except Int (Unit×DS)}(hR:(jH A B f0).run (unpack xs) lim s=R)
 (h0:∀g' c' s',R=.ok ((),s')→il xs lim c' s'→(∀x∈s'.out,0≤x∧x<256)→K (.aL []) (KJ lim gb cb xs A B g' c' s'))
 (h1:∀e g' c' s',R=.error e→Kp (bn e) (KJ lim gb cb xs A B g' c' s')):
 aa Try.prog 62 [.ptr 0 0 0,.ptr 5 0 0,.ptr 7 0 0] (KJ lim gb cb xs A B g c s) K Kp:=by
 refine PM (fun _=>[0,3]) [] rfl ?_
 refine Qs ?_
 refine WO.go (σ:=Nat×Nat×Nat×DS) (fun(f,g,c,s)=>il xs lim c s∧(∀x∈s.out,0≤x∧x<256)∧lim<f+s.out.length∧(jH A B f).run (unpack xs) lim s=R) (fun(f,g,c,s)=>lim-s.out.length)
  (fun _=>[(0,.ptr 0 0 0),(1,.ptr 5 0 0),(2,.ptr 7 0 0)]) (fun(f,g,c,s)=>KJ lim gb cb xs A B g c s) (f0,g,c,s) ae mixed (by kernel_rfl) ⟨ok,hb,hf,hR⟩ (aI rfl (aI rfl (aI rfl (trivial)))) (aI rfl (aI rfl (aI rfl (aI rfl (aI rfl (aI rfl (aI rfl (aI rfl (trivial))))))))) (fun _=>rfl) (fun _=>rfl) (fun _=>BS) ?_
 rintro⟨f,g,c,s⟩ ⟨ok,hb,hf,hR⟩ d0
 have Jz:=ok.ol
 obtain⟨f,rfl⟩:∃f',f=f'+1:=⟨f-1,by omega⟩
 rw[jH,DP.run_bind]at hR
 refine Qs ?_
 refine nw [bM A,bI 4,bM B,bI 6] 0 rfl rfl ok hA rfl (fun v s1 h GG=>?_) (fun e s1 h=>?_)
 ·rw[h]at hR
  simp only at hR
  have hv:=(sF X6 h).1
  have ho:=pO h
  refine Qs ?_
  refine And.intro (fun hc=>?_) (fun hc=>?_)
  ·have hl:v<256:=by simpa using hc
   rw[if_pos hl]at hR
   simp only[DP.run]at hR
   have e1:v%256=v:=Int.emod_eq_of_lt hv hl
   refine Qs ?_
   rw[e1]
   refine sV [bM A,bI 4,bM B,bI 6] GG ⟨hv,hl⟩ (fun g2 c2 jv qW=>?_) (fun jv=>?_)
   ·rw[if_neg jv]at hR
    have ig:∀x∈s1.out++[v],0≤x∧x<256:=by
     intro x hx
     rcases List.mem_append.1 hx with hx|hx
     ·rw[ho]at hx;exact hb x hx
     ·rw[List.mem_singleton.1 hx];exact⟨hv,hl⟩
    refine Qs ?_
    refine RO.same (f,g2,c2,{s1 with out:=s1.out++[v]}) ⟨qW,ig,by show lim<f+(s1.out++[v]).length;rw[List.length_append,List.length_singleton,ho];omega,hR⟩ (by show lim-(s1.out++[v]).length<lim-s.out.length;rw[List.length_append,List.length_singleton,ho];rw[ho]at jv;omega) (aI rfl (aI rfl (aI rfl (trivial)))) (aI rfl (aI rfl (aI rfl (aI rfl (aI rfl (aI rfl (aI rfl (aI rfl (trivial)))))))))
   ·rw[if_pos jv]at hR
    exact h1 81 _ _ _ hR.symm
  have hl:¬v<256:=by simpa using hc
  rw[if_neg hl]at hR
  refine Qs ?_
  refine And.intro (fun hc=>?_) (fun hc=>?_)
  ·have he:v=256:=by simpa using hc
   rw[if_pos he]at hR
   have hK:=h0 g c s1 hR.symm GG (by rw[ho];exact hb)
   refine Qs ?_
   exact hK
  have he:¬v=256:=by simpa using hc
  rw[if_neg he]at hR
  refine Qs ?_
  refine And.intro (fun hc=>?_) (fun hc=>?_)
  ·have hg:285<v:=by simpa using hc
   rw[if_pos hg]at hR
   refine Qs ?_
   refine b9 (fun h=>absurd h (by decide)) (fun _=>?_)
   exact h1 80 _ _ _ hR.symm
  have hg:¬285<v:=by simpa using hc
  rw[if_neg hg]at hR
  refine Qs ?_
  refine And.intro (fun hc=>?_) (fun hc=>?_)
  ·have hm:v<285:=by simpa using hc
   rw[if_pos hm,DP.run_bind,DP.run_bind]at hR
   obtain⟨w,hw⟩:∃w,(v-257).toNat=w:=⟨_,rfl⟩
   have ZZ:v-257=(w:Int):=by omega
   rw[hw]at hR
   refine Qs ?_
   rw[ZZ]
   refine CV [bM A,bI 4,bM B,bI 6] (v:=w) (each:=4) GG (.inr rfl) (by omega) (fun z2 s2 h2 qW QK=>?_) (fun e s2 h2=>?_)
   ·rw[h2]at hR
    have HN:=tU h2
    simp only[DP.run]at hR
    rw[DP.run_bind]at hR
    refine Qs ?_
    refine nw [bM A,bI 4,bM B,bI 6] 2 rfl rfl qW hB rfl (fun v2 s3 h3 vt=>?_) (fun e s3 h3=>?_)
    ·rw[h3]at hR
     simp only at hR
     have rW:=(sF Wq h3).1
     have G6:=pO h3
     refine Qs ?_
     refine And.intro (fun A2=>?_) (fun A2=>?_)
     ·have kQ:(29:Int)<v2:=by simpa using A2
      rw[if_pos kQ]at hR
      refine Qs ?_
      refine b9 (fun h=>absurd h (by decide)) (fun _=>?_)
      exact h1 80 _ _ _ hR.symm
     have kQ:¬(29:Int)<v2:=by simpa using A2
     rw[if_neg kQ,DP.run_bind]at hR
     obtain⟨w2,rfl⟩:=Int.eq_ofNat_of_zero_le rW
     rw[Int.toNat_natCast]at hR
     refine Qs ?_
     refine CV [bM A,bI 4,bM B,bI 6] (v:=w2) (each:=2) vt (.inl rfl) (by omega) (fun z4 s4 h4 GF ZS=>?_) (fun e s4 h4=>?_)
     ·rw[h4]at hR
      have Sd:=tU h4
      simp only[DP.run]at hR
      have Xh:=GF.ol
      have Xt:=GF.ll
      refine Qs ?_
      refine And.intro (fun He=>?_) (fun He=>?_)
      ·have Rd:(s4.out.length:Int)<1+z4:=by simpa using He
       rw[if_pos Rd]at hR
       refine Qs ?_
       refine b9 (fun h=>absurd h (by decide)) (fun _=>?_)
       exact h1 70 _ _ _ hR.symm
      have Rd:¬(s4.out.length:Int)<1+z4:=by simpa using He
      rw[if_neg Rd,DP.run_bind]at hR
      obtain⟨D,hD⟩:∃D,(1+z4).toNat=D:=⟨_,rfl⟩
      have X3:1+z4=(D:Int):=by omega
      rw[hD]at hR
      obtain⟨n,hn⟩:∃n,(3+z2).toNat=n:=⟨_,rfl⟩
      have G8:3+z2=(n:Int):=by omega
      have Sf:3≤n:=by omega
      rw[hn]at hR
      obtain⟨R2,zw⟩:∃R2,(lR D n).run (unpack xs) lim s4=R2:=⟨_,rfl⟩
      rw[zw]at hR
      have G5:s4.out=s.out:=by rw[Sd,G6,HN,ho]
      rw[X3]
      refine Qs ?_
      refine WO.go (σ:=Nat×Nat×Nat×DS) (fun(j,g,c,s')=>il xs lim c s'∧(∀x∈s'.out,0≤x∧x<256)∧j≤n∧s'.out.length=s4.out.length+j∧(lR D (n-j)).run (unpack xs) lim s'=R2) (fun(j,_)=>n-j)
       (fun(j,_)=>[(0,.ptr 0 0 0),(1,.ptr 5 0 0),(2,.ptr 7 0 0),(8,.int .i64 (D:Int)),(51,.int .i64 (n:Int)),(52,.int .i64 (j:Int))]) (fun(j,g,c,s)=>KJ lim gb cb xs A B g c s) (0,g,c,s4) ae mixed (by kernel_rfl) ⟨GF,by rw[G5];exact hb,Nat.zero_le _,rfl,zw⟩ (And.intro rfl (And.intro rfl (And.intro rfl (And.intro rfl (And.intro (congrArg (AV.int .i64) G8) (And.intro rfl trivial)))))) (aI rfl (aI rfl (aI rfl (aI rfl (aI rfl (aI rfl (aI rfl (aI rfl (trivial))))))))) (fun _=>rfl) (fun _=>rfl) (fun _=>BS) ?_
      rintro⟨j,g5,c5,s5⟩ ⟨IQ,Rw,hj,QV,uM⟩ d5
      have Q2:=IQ.ol
      refine Qs ?_
      refine And.intro (fun Hd=>?_) (fun Hd=>?_)
      ·have hj6:j<n:=by simp only[decide_eq_true_eq]at Hd;omega
       have hD3:1≤D∧D≤s5.out.length:=by omega
       have e6:((s5.out.length:Int)-(D:Int)).toNat+0=s5.out.length-D:=by omega
       obtain⟨y,hy⟩:∃y,s5.out.getD (s5.out.length-D) 0=y:=⟨_,rfl⟩
       have qo:0≤y∧y<256:=by
        rw[←hy,List.getD_eq_getElem?_getD,List.getElem?_eq_getElem (by omega),Option.getD_some]
        exact Rw _ (List.getElem_mem _)
       rw[show n-j=n-(j+1)+1 by omega]at uM
       simp only[lR,DP.run,hy]at uM
       rw[if_neg (by omega)]at uM
       refine Qs ?_
       rw[e6,hy]
       refine sV [bM A,bI 4,bM B,bI 6] IQ qo (fun g7 c7 jv WC=>?_) (fun jv=>?_)
       ·rw[if_neg jv]at uM
        have Ub:∀x∈s5.out++[y],0≤x∧x<256:=by
         intro x hx
         rcases List.mem_append.1 hx with hx|hx
         ·exact Rw x hx
         ·rw[List.mem_singleton.1 hx];exact qo
        refine Qs ?_
        refine RO.same (j+1,g7,c7,{s5 with out:=s5.out++[y]}) ⟨WC,Ub,by omega,by show(s5.out++[y]).length=_;rw[List.length_append,List.length_singleton];omega,uM⟩ (show n-(j+1)<n-j by omega) (aI rfl (aI rfl (aI rfl (aI rfl (aI rfl (aI rfl (trivial))))))) (aI rfl (aI rfl (aI rfl (aI rfl (aI rfl (aI rfl (aI rfl (aI rfl (trivial)))))))))
       ·rw[if_pos jv]at uM
        rw[←uM]at hR
        exact h1 81 _ _ _ hR.symm
      ·obtain rfl:j=n:=by simp only[decide_eq_false_iff_not]at Hd;omega
       rw[Nat.sub_self]at uM
       simp only[lR,DP.run]at uM
       rw[←uM]at hR
       simp only at hR
       refine Qs ?_
       refine RO.same (f,g5,c5,s5) ⟨IQ,Rw,by show lim<f+s5.out.length;rw[QV,G5];omega,hR⟩ (by show lim-s5.out.length<lim-s.out.length;rw[QV,G5];rw[QV,G5]at Q2;omega) (aI rfl (aI rfl (aI rfl (trivial)))) (aI rfl (aI rfl (aI rfl (aI rfl (aI rfl (aI rfl (aI rfl (aI rfl (trivial)))))))))
     ·rw[h4]at hR
      exact h1 e _ _ _ hR.symm
    ·rw[h3]at hR
     exact h1 e _ _ _ hR.symm
   ·rw[h2]at hR
    exact h1 e _ _ _ hR.symm
  ·have hm:¬v<285:=by simpa using hc
   rw[if_neg hm,DP.run_bind]at hR
   simp only[DP.run]at hR
   rw[DP.run_bind]at hR
   refine Qs ?_
   refine nw [bM A,bI 4,bM B,bI 6] 2 rfl rfl GG hB rfl (fun v2 s3 h3 vt=>?_) (fun e s3 h3=>?_)
   ·rw[h3]at hR
    simp only at hR
    have rW:=(sF Wq h3).1
    have G6:=pO h3
    refine Qs ?_
    refine And.intro (fun A2=>?_) (fun A2=>?_)
    ·have kQ:(29:Int)<v2:=by simpa using A2
     rw[if_pos kQ]at hR
     refine Qs ?_
     refine b9 (fun h=>absurd h (by decide)) (fun _=>?_)
     exact h1 80 _ _ _ hR.symm
    have kQ:¬(29:Int)<v2:=by simpa using A2
    rw[if_neg kQ,DP.run_bind]at hR
    obtain⟨w2,rfl⟩:=Int.eq_ofNat_of_zero_le rW
    rw[Int.toNat_natCast]at hR
    refine Qs ?_
    refine CV [bM A,bI 4,bM B,bI 6] (v:=w2) (each:=2) vt (.inl rfl) (by omega) (fun z4 s4 h4 GF ZS=>?_) (fun e s4 h4=>?_)
    ·rw[h4]at hR
     have Sd:=tU h4
     simp only[DP.run]at hR
     have Xh:=GF.ol
     have Xt:=GF.ll
     refine Qs ?_
     refine And.intro (fun He=>?_) (fun He=>?_)
     ·have Rd:(s4.out.length:Int)<1+z4:=by simpa using He
      rw[if_pos Rd]at hR
      refine Qs ?_
      refine b9 (fun h=>absurd h (by decide)) (fun _=>?_)
      exact h1 70 _ _ _ hR.symm
     have Rd:¬(s4.out.length:Int)<1+z4:=by simpa using He
     rw[if_neg Rd,DP.run_bind]at hR
     obtain⟨D,hD⟩:∃D,(1+z4).toNat=D:=⟨_,rfl⟩
     have X3:1+z4=(D:Int):=by omega
     rw[hD]at hR
     obtain⟨n,hn⟩:∃n,((258:Int)).toNat=n:=⟨_,rfl⟩
     have G8:(258:Int)=(n:Int):=by omega
     have Sf:3≤n:=by omega
     rw[hn]at hR
     obtain⟨R2,zw⟩:∃R2,(lR D n).run (unpack xs) lim s4=R2:=⟨_,rfl⟩
     rw[zw]at hR
     have G5:s4.out=s.out:=by rw[Sd,G6,ho]
     rw[X3]
     refine Qs ?_
     refine WO.go (σ:=Nat×Nat×Nat×DS) (fun(j,g,c,s')=>il xs lim c s'∧(∀x∈s'.out,0≤x∧x<256)∧j≤n∧s'.out.length=s4.out.length+j∧(lR D (n-j)).run (unpack xs) lim s'=R2) (fun(j,_)=>n-j)
      (fun(j,_)=>[(0,.ptr 0 0 0),(1,.ptr 5 0 0),(2,.ptr 7 0 0),(8,.int .i64 (D:Int)),(51,.int .i64 (n:Int)),(52,.int .i64 (j:Int))]) (fun(j,g,c,s)=>KJ lim gb cb xs A B g c s) (0,g,c,s4) ae mixed (by kernel_rfl) ⟨GF,by rw[G5];exact hb,Nat.zero_le _,rfl,zw⟩ (And.intro rfl (And.intro rfl (And.intro rfl (And.intro rfl (And.intro (congrArg (AV.int .i64) G8) (And.intro rfl trivial)))))) (aI rfl (aI rfl (aI rfl (aI rfl (aI rfl (aI rfl (aI rfl (aI rfl (trivial))))))))) (fun _=>rfl) (fun _=>rfl) (fun _=>BS) ?_
     rintro⟨j,g5,c5,s5⟩ ⟨IQ,Rw,hj,QV,uM⟩ d5
     have Q2:=IQ.ol
     refine Qs ?_
     refine And.intro (fun Hd=>?_) (fun Hd=>?_)
     ·have hj6:j<n:=by simp only[decide_eq_true_eq]at Hd;omega
      have hD3:1≤D∧D≤s5.out.length:=by omega
      have e6:((s5.out.length:Int)-(D:Int)).toNat+0=s5.out.length-D:=by omega
      obtain⟨y,hy⟩:∃y,s5.out.getD (s5.out.length-D) 0=y:=⟨_,rfl⟩
      have qo:0≤y∧y<256:=by
       rw[←hy,List.getD_eq_getElem?_getD,List.getElem?_eq_getElem (by omega),Option.getD_some]
       exact Rw _ (List.getElem_mem _)
      rw[show n-j=n-(j+1)+1 by omega]at uM
      simp only[lR,DP.run,hy]at uM
      rw[if_neg (by omega)]at uM
      refine Qs ?_
      rw[e6,hy]
      refine sV [bM A,bI 4,bM B,bI 6] IQ qo (fun g7 c7 jv WC=>?_) (fun jv=>?_)
      ·rw[if_neg jv]at uM
       have Ub:∀x∈s5.out++[y],0≤x∧x<256:=by
        intro x hx
        rcases List.mem_append.1 hx with hx|hx
        ·exact Rw x hx
        ·rw[List.mem_singleton.1 hx];exact qo
       refine Qs ?_
       refine RO.same (j+1,g7,c7,{s5 with out:=s5.out++[y]}) ⟨WC,Ub,by omega,by show(s5.out++[y]).length=_;rw[List.length_append,List.length_singleton];omega,uM⟩ (show n-(j+1)<n-j by omega) (aI rfl (aI rfl (aI rfl (aI rfl (aI rfl (aI rfl (trivial))))))) (aI rfl (aI rfl (aI rfl (aI rfl (aI rfl (aI rfl (aI rfl (aI rfl (trivial)))))))))
      ·rw[if_pos jv]at uM
       rw[←uM]at hR
       exact h1 81 _ _ _ hR.symm
     ·obtain rfl:j=n:=by simp only[decide_eq_false_iff_not]at Hd;omega
      rw[Nat.sub_self]at uM
      simp only[lR,DP.run]at uM
      rw[←uM]at hR
      simp only at hR
      refine Qs ?_
      refine RO.same (f,g5,c5,s5) ⟨IQ,Rw,by show lim<f+s5.out.length;rw[QV,G5];omega,hR⟩ (by show lim-s5.out.length<lim-s.out.length;rw[QV,G5];rw[QV,G5]at Q2;omega) (aI rfl (aI rfl (aI rfl (trivial)))) (aI rfl (aI rfl (aI rfl (aI rfl (aI rfl (aI rfl (aI rfl (aI rfl (trivial)))))))))
    ·rw[h4]at hR
     exact h1 e _ _ _ hR.symm
   ·rw[h3]at hR
    exact h1 e _ _ _ hR.symm
 ·rw[h]at hR
  exact h1 e _ _ _ hR.symm
end
end Go.Proofs.Ytibadaomjlkoaaa
open Go.RowKit
namespace Go.Proofs.Ytibadaomjlkoaaa
set_option maxRecDepth 10000
theorem St {n m:Nat}(hn:n<65536)(hm:m<65536):cm .xor .i64 (n:Int) (m:Int)=65535↔n+m=65535:=by
 have h1:(BitVec.ofInt 64 (n:Int)^^^BitVec.ofInt 64 (m:Int)).toNat=n^^^m:=by
  rw[BitVec.toNat_xor,BitVec.ofInt_natCast,BitVec.ofInt_natCast,BitVec.toNat_ofNat,BitVec.toNat_ofNat,Nat.mod_eq_of_lt (by omega),Nat.mod_eq_of_lt (by omega)]
 have h2:n^^^m<2^16:=Nat.xor_lt_two_pow (n:=16) hn hm
 have h3:cm .xor .i64 (n:Int) (m:Int)=((n^^^m:Nat):Int):=by
  show IntKind.i64.wrap ((BitVec.ofInt 64 (n:Int)^^^BitVec.ofInt 64 (m:Int)).toNat:Int)=_
  rw[h1,kR (by omega)]
 have h4:∀n:Nat,n<65536→n^^^65535=65535-n:=by
  intro n hn
  have:=congrArg BitVec.toNat (BitVec.xor_allOnes (x:=BitVec.ofNat 16 n))
  rw[BitVec.toNat_xor,BitVec.toNat_not,BitVec.toNat_ofNat,BitVec.toNat_allOnes,Nat.mod_eq_of_lt hn]at this
  exact this
 rw[h3]
 constructor
 ·intro h
  have h':n^^^m=65535:=by omega
  have h5:m=n^^^65535:=by rw[←h',←Nat.xor_assoc,Nat.xor_self,Nat.zero_xor]
  rw[h4 n hn]at h5
  omega
 ·intro h
  have h5:m=n^^^65535:=by rw[h4 n hn];omega
  rw[h5,←Nat.xor_assoc,Nat.xor_self,Nat.zero_xor]
  rfl
def Am:Nat→DP Unit
 |0=>.ret ()
 |n+1=>.get 8 fun v=>.y8 v (Am n)
def nI:DP Unit:=.align (.get 16 fun n=>.get 16 fun m=>if n+m=65535 then .room n (Am n.toNat)else .fail 80)
section
variable{K Kp:AV→AH→Prop}{xs:List Int}{lim gb cb g c:Nat}{s:DS}
theorem S8 (l:List Bool)(n:Nat)(hn:n≤16):∃k:Nat,num (l.take n)=k∧k<2^n:=by
 obtain⟨k,hk⟩:=Int.eq_ofNat_of_zero_le (num_nonneg (l.take n))
 refine⟨k,hk,?_⟩
 have h1:(2:Int)^(l.take n).length≤2^n:=by exact_mod_cast Nat.pow_le_pow_right (by omega) (show(l.take n).length≤n by rw[List.length_take];omega)
 have h2:=gV (l.take n)
 have h3:((2^n:Nat):Int)=2^n:=by push_cast;rfl
 omega
theorem ec (E:AH){n:Nat}{α:Type}{k:Int→DP α}{R:Except Int (α×DS)}(hR:(DP.get n k).run (unpack xs) lim s=R)(ok:il xs lim c s)(hn:n≤16)
 (h0:∀(v:Nat) s',v<2^n→s'.out=s.out→s'.a=s.a+n→il xs lim c s'→(k v).run (unpack xs) lim s'=R→K (.int .i64 (v:Int)) (zH lim gb cb xs g c s'++E))
 (h1:R=.error 50→Kp (bn 50) (zH lim gb cb xs g c s++E)):
 aa Try.prog 35 [.ptr 0 0 0,.int .i64 (n:Int)] (zH lim gb cb xs g c s++E) K Kp:=by
 have Fs:=bH xs
 simp only[DP.run]at hR
 refine GI E ok hn (fun h=>?_) (fun h=>?_)
 ·rw[if_pos h]at hR
  obtain⟨v,hv,rW⟩:=S8 ((unpack xs).drop s.a) n hn
  rw[hv]at hR⊢
  exact h0 v _ rW rfl rfl ⟨ok.xl,ok.xb,by show s.a+n≤_;omega,ok.ll,ok.ol,ok.oc⟩ hR
 ·rw[if_neg h]at hR
  exact h1 hR.symm
theorem RP (E:AH){v:Int}{α:Type}{k:DP α}{R:Except Int (α×DS)}(hR:(DP.y8 v k).run (unpack xs) lim s=R)(ok:il xs lim c s)(hb:∀x∈s.out,0≤x∧x<256)(hv:0≤v∧v<256)
 (h0:∀g' c' s',s'.out=s.out++[v]→s'.a=s.a→(∀x∈s'.out,0≤x∧x<256)→il xs lim c' s'→k.run (unpack xs) lim s'=R→K (.aL []) (zH lim gb cb xs g' c' s'++E))
 (h1:R=.error 81→Kp (bn 81) (zH lim gb cb xs g c s++E)):
 aa Try.prog 61 [.ptr 0 0 0,.int .u8 v] (zH lim gb cb xs g c s++E) K Kp:=by
 simp only[DP.run]at hR
 refine sV E ok hv (fun g' c' h WD=>?_) (fun h=>?_)
 ·rw[if_neg h]at hR
  refine h0 g' c' _ rfl rfl (fun x hx=>?_) WD hR
  rcases List.mem_append.1 hx with hx|hx
  ·exact hb x hx
  ·rw[List.mem_singleton.1 hx];exact hv
 ·rw[if_pos h]at hR
  exact h1 hR.symm
theorem zQ (ok:il xs lim c s)(hb:∀x∈s.out,0≤x∧x<256){R:Except Int (Unit×DS)}(hR:nI.run (unpack xs) lim s=R)
 (h0:∀g' c' s',R=.ok ((),s')→il xs lim c' s'→(∀x∈s'.out,0≤x∧x<256)→K (.aL []) (zH lim gb cb xs g' c' s'))
 (h1:∀e g' c' s',R=.error e→Kp (bn e) (zH lim gb cb xs g' c' s')):
 aa Try.prog 31 [.ptr 0 0 0] (zH lim gb cb xs g c s) K Kp:=by
 have Fs:=bH xs
 have AS:=ok.xl
 have Zq:=ok.al
 have Jz:=ok.ol
 have JD:=ok.ll
 unfold nI at hR
 rw[DP.run]at hR
 obtain⟨s1,gJ⟩:∃s1:DS,{s with a:=(s.a+7)/8*8}=s1:=⟨_,rfl⟩
 have W4:s1.a=(s.a+7)/8*8:=by rw[←gJ]
 have Tt:s1.out=s.out:=by rw[←gJ]
 have GG:il xs lim c s1:=by rw[←gJ];exact⟨ok.xl,ok.xb,by show(s.a+7)/8*8≤_;omega,ok.ll,ok.ol,ok.oc⟩
 rw[gJ]at hR
 refine P5 (fun _=>[0]) [] rfl ?_
 refine Qs ?_
 refine Gz (i:=1) (j:=2) (xs:=xs) (a:=s.a) rfl rfl rfl (by omega) ok.al ?_
 rw[←W4,←Tt]
 refine Qs ?_
 refine ec [] (n:=16) hR GG (by omega) (fun n s2 hn HN yS qW hR=>?_) (fun h=>h1 50 _ _ _ h)
 refine Qs ?_
 refine ec [] (n:=16) hR qW (by omega) (fun m s3 hm G6 ND vt hR=>?_) (fun h=>h1 50 _ _ _ h)
 have hx:=St hn hm
 refine Qs ?_
 refine And.intro (fun hc=>?_) (fun hc=>?_)
 ·have eU:¬n+m=65535:=fun e=>by rw[hx.2 e]at hc;simp at hc
  rw[if_neg (by omega)]at hR
  refine Qs ?_
  refine b9 (fun h=>absurd h (by decide)) (fun _=>?_)
  exact h1 80 _ _ _ hR.symm
 have he:n+m=65535:=by
  refine hx.1 ?_
  simpa using hc
 rw[if_pos (by omega),Int.toNat_natCast]at hR
 have aaa:=vt.ol
 rw[DP.run]at hR
 refine Qs ?_
 refine And.intro (fun hc=>?_) (fun hc=>?_)
 ·have hg:(lim:Int)-s3.out.length<n:=by simpa using hc
  rw[if_pos hg]at hR
  refine Qs ?_
  refine b9 (fun h=>absurd h (by decide)) (fun _=>?_)
  exact h1 81 _ _ _ hR.symm
 have hg:¬(lim:Int)-s3.out.length<n:=by simpa using hc
 rw[if_neg hg]at hR
 have FC:∀x∈s3.out,0≤x∧x<256:=by rw[G6,HN,Tt];exact hb
 refine Qs ?_
 refine WO.go (σ:=Nat×Nat×Nat×DS) (fun(j,g,c,s)=>il xs lim c s∧(∀x∈s.out,0≤x∧x<256)∧j≤n∧(Am (n-j)).run (unpack xs) lim s=R) (fun(j,_)=>n-j)
  (fun(j,_)=>[(0,.ptr 0 0 0),(33,.int .i64 (n:Int)),(34,.int .i64 (j:Int))]) (fun(j,g,c,s)=>zH lim gb cb xs g c s) (0,g,c,s3) ae mixed (by kernel_rfl) ⟨vt,FC,Nat.zero_le _,hR⟩ (aI rfl (aI rfl (aI rfl (trivial)))) (aI rfl (aI rfl (aI rfl (aI rfl (trivial))))) (fun _=>rfl) (fun _=>rfl) (fun _=>fu) ?_
 rintro⟨j,g,c,s4⟩ ⟨GF,Zp,hj,hR⟩ d0
 refine Qs ?_
 refine And.intro (fun hc=>?_) (fun hc=>?_)
 ·have TW:j<n:=by simp only[decide_eq_true_eq]at hc;omega
  rw[show n-j=n-(j+1)+1 by omega,Am]at hR
  refine Qs ?_
  refine ec [] (n:=8) hR GF (by omega) (fun v s5 hv G5 ha5 IQ hR=>?_) (fun h=>h1 50 _ _ _ h)
  have rW:(v:Int)%256=v:=by omega
  refine Qs ?_
  rw[rW]
  refine RP [] hR IQ (by rw[G5];exact Zp) (by omega) (fun g6 c6 s6 Y6 ha6 Wg R5 hR=>?_) (fun h=>h1 81 _ _ _ h)
  refine Qs ?_
  refine RO.same (j+1,g6,c6,s6) ⟨R5,Wg,TW,hR⟩ (show n-(j+1)<n-j by omega) (aI rfl (aI rfl (aI rfl (trivial)))) (aI rfl (aI rfl (aI rfl (aI rfl (trivial)))))
 ·obtain rfl:j=n:=by simp only[decide_eq_false_iff_not]at hc;omega
  rw[Nat.sub_self,Am,DP.run]at hR
  have hK:=h0 g c s4 hR.symm GF Zp
  refine Qs ?_
  exact hK
end
end Go.Proofs.Ytibadaomjlkoaaa
open Go.RowKit
namespace Go.Proofs.Ytibadaomjlkoaaa
set_option maxRecDepth 10000
def oB (T:List ((Int×Int)×Int))(n:Nat):Nat→List Int→DP (List Int)
 |0,l=>.ret l
 |f+1,l=>if n≤l.length then .ret l else(si T).bind fun v=>if v<16 then oB T n f (l++[v])else
   (if v=16 then(if l=[]then .fail 80 else .get 2 fun k=>.ret (l.getD (l.length-1) 0,3+k))else if v=17 then .get 3 fun k=>.ret (0,3+k)else .get 7 fun k=>.ret (0,11+k):DP (Int×Int)).bind fun r=>
    if(n:Int)-l.length<r.2 then .fail 80 else oB T n f (l++List.replicate r.2.toNat r.1)
section
variable{K Kp:AV→AH→Prop}{xs:List Int}{lim gb cb g c:Nat}{s:DS}
theorem H6 (E:AH)(i:Nat){es:List ((Int×Int)×Int)}{N:Int}{α:Type}{k:Int→DP α}{R:Except Int (α×DS)}(hR:((si es).bind k).run (unpack xs) lim s=R)(KO:E[i]?=some (bM es))(Fy:E[i+1]?=some (bI (i+4)))(ok:il xs lim c s)(mf:fI es)(hN:lQ N es)
 (pG:(bL [.own 0,.own 1,.own 2,.own 3,.own (i+4),.own (i+5)]&&AV.pE [.own 0,.own 1,.own 2,.own 3,.own (i+4),.own (i+5)] [.ptr 0 0 0,.ptr 5 0 0])=true)
 (h0:∀v s',0≤v→v<N→s'.out=s.out→il xs lim c s'→(k v).run (unpack xs) lim s'=R→K (.int .i64 v) (zH lim gb cb xs g c s'++E))
 (h1:∀e s',R=.error e→Kp (bn e) (zH lim gb cb xs g c s'++E)):
 aa Try.prog 86 [.ptr 0 0 0,.ptr (i+5) 0 0] (zH lim gb cb xs g c s++E) K Kp:=by
 rw[DP.run_bind]at hR
 refine nw E i KO Fy ok mf pG (fun v s' h WD=>?_) (fun e s' h=>?_)
 ·rw[h]at hR
  obtain⟨b1,b2⟩:=sF hN h
  exact h0 v s' b1 b2 (pO h) WD hR
 ·rw[h]at hR
  exact h1 e s' hR.symm
def FZ (lim gb cb:Nat)(xs:List Int)(T:List ((Int×Int)×Int))(g c:Nat)(s:DS):AH:=zH lim gb cb xs g c s++[bM T,bI 4]
def RX (lim gb cb:Nat)(xs:List Int)(T:List ((Int×Int)×Int))(g c:Nat)(s:DS)(gl cl:Nat)(l:List Int):AH:=zH lim gb cb xs g c s++[bM T,bI 4,.one true gl (.ints .u8 l cl)]
theorem ml {T:List ((Int×Int)×Int)}:mi 6 (FZ lim gb cb xs T g c s):=⟨by simp[af.nb,AV.su,AV.nb,AO.nb],rfl,trivial,trivial,lT _ (.pair .i64 .i64) _,rfl,trivial⟩
theorem HS {T:List ((Int×Int)×Int)}{gl cl:Nat}{l:List Int}:mi 7 (RX lim gb cb xs T g c s gl cl l):=⟨by simp[af.nb,AV.su,AV.nb,AO.nb],rfl,trivial,trivial,lT _ (.pair .i64 .i64) _,rfl,trivial,trivial⟩
theorem vz {T:List ((Int×Int)×Int)}{n f0:Nat}(ok:il xs lim c s)(hT:fI T)(hN:lQ 19 T)(hn:1≤n∧n≤400)(hf:n<f0){R:Except Int (List Int×DS)}(hR:(oB T n f0 []).run (unpack xs) lim s=R)
 (h0:∀gl cl l s',R=.ok (l,s')→s'.out=s.out→il xs lim c s'→l.length=n→(∀x∈l,0≤x∧x<256)→l.length≤cl→K (.sl 6 gl 0 l.length cl) (RX lim gb cb xs T g c s' gl cl l))
 (h1:∀e s',R=.error e→Kp (bn e) (FZ lim gb cb xs T g c s')):
 aa Try.prog 64 [.ptr 0 0 0,.ptr 5 0 0,.int .i64 (n:Int)] (FZ lim gb cb xs T g c s) K Kp:=by
 refine aa.qR ?_
 refine PK (fun _=>[7]) [] rfl ?_
 refine Qs ?_
 refine WO.KW (σ:=Nat×DS×Nat×Nat×List Int) (fun(f,s',gl,cl,l)=>s'.out=s.out∧il xs lim c s'∧l.length≤n∧l.length≤cl∧(∀x∈l,0≤x∧x<256)∧n<f+l.length∧(oB T n f l).run (unpack xs) lim s'=R) (fun(f,s',gl,cl,l)=>n-l.length)
  (fun(f,s',gl,cl,l)=>[(0,.ptr 0 0 0),(1,.ptr 5 0 0),(2,.int .i64 (n:Int)),(7,.sl 6 gl 0 l.length cl)]) (fun(f,s',gl,cl,l)=>RX lim gb cb xs T g c s' gl cl l) (f0,s,0,0,[]) ae mixed (by kernel_rfl)
  [(0,.ptr 0 0 0),(1,.ptr 5 0 0),(2,.int .i64 (n:Int)),(7,.ns)] _ ⟨rfl,ok,Nat.zero_le _,Nat.zero_le _,fun x hx=>(by cases hx),by omega,hR⟩ (aI rfl (aI rfl (aI rfl (aI rfl (trivial))))) rfl
  (Vw.yv (x:=.ints .u8 [] 0) ⟨rfl,rfl⟩ (And.intro (.inl rfl) (And.intro (.inl rfl) (And.intro (.inl rfl) (And.intro (.inr ⟨rfl,rfl⟩) trivial))))) (aI rfl (aI rfl (aI rfl (aI rfl (aI rfl (aI rfl (aI rfl (trivial)))))))) (fun _=>rfl) (fun _=>rfl) (fun _=>HS) ?_
 rintro⟨f,s1,gl,cl,l⟩ ⟨ho,GG,hl,FA,hb,hf,hR⟩ d0
 obtain⟨f,rfl⟩:∃f',f=f'+1:=⟨f-1,by omega⟩
 rw[oB]at hR
 refine Qs ?_
 refine And.intro (fun hc=>?_) (fun hc=>?_)
 ·have a9:¬n≤l.length:=by simp only[decide_eq_true_eq]at hc;omega
  rw[if_neg a9]at hR
  refine Qs ?_
  refine H6 [bM T,bI 4,.one true gl (.ints .u8 l cl)] 0 hR rfl rfl GG hT hN rfl (fun v s2 hv rW HN qW hR=>?_) (fun e s' h=>?_)
  ·refine Qs ?_
   refine And.intro (fun hc=>?_) (fun hc=>?_)
   ·have X8:v<16:=by simpa using hc
    rw[if_pos X8]at hR
    have e1:v%256=v:=by omega
    refine Qs ?_
    rw[e1]
    refine Qs ?_
    intro zs fe
    obtain rfl:zs=[v]:=by rw[fe];rfl
    refine Qs ?_
    intro c4 xr
    have rl:l.length+1≤c4:=xr
    have ig:∀x∈l++[v],0≤x∧x<256:=by
     intro x hx
     rcases List.mem_append.1 hx with hx|hx
     ·exact hb x hx
     ·rw[List.mem_singleton.1 hx];omega
    have oI:(l++[v]).length=l.length+1:=by rw[List.length_append];rfl
    refine Qs ?_
    refine RO.same (f,s2,gl+1,c4,l++[v]) ⟨by rw[HN,ho],qW,by rw[oI];omega,by rw[oI];exact rl,ig,by rw[oI];omega,hR⟩ (show n-(l++[v]).length<n-l.length by rw[oI];omega) (And.intro rfl (And.intro rfl (And.intro rfl (And.intro ?_ trivial)))) (aI rfl (aI rfl (aI rfl (aI rfl (aI rfl (aI rfl (aI rfl (trivial))))))))
    show AV.sl 6 (gl+1) 0 (l.length+1) c4=AV.sl 6 (gl+1) 0 (l++[v]).length c4
    rw[oI]
   have X8:¬v<16:=by simpa using hc
   rw[if_neg X8]at hR
   obtain rfl|rfl|rfl:v=16∨v=17∨v=18:=by omega
   ·rw[if_pos rfl]at hR
    refine Qs ?_
    refine And.intro (fun hc=>?_) (fun hc=>?_)
    ·have he:l=[]:=by simpa using hc
     rw[if_pos he]at hR
     refine Qs ?_
     refine b9 (fun h=>absurd h (by decide)) (fun _=>?_)
     exact Exists.intro (FZ lim gb cb xs T g c s2) (And.intro (aI rfl (aI rfl (aI rfl (aI rfl (aI rfl (aI rfl (trivial))))))) (And.intro ml (And.intro rfl (h1 80 s2 hR.symm))))
    have he:¬l=[]:=by simpa using hc
    have hlp:1≤l.length:=by cases l with|nil=>exact absurd rfl he|cons x l=>simp
    rw[if_neg he]at hR
    obtain⟨y,hy⟩:∃y,l.getD (l.length-1) 0=y:=⟨_,rfl⟩
    have qo:0≤y∧y<256:=by
     rw[←hy,List.getD_eq_getElem?_getD,List.getElem?_eq_getElem (by omega),Option.getD_some]
     exact hb _ (List.getElem_mem _)
    have e6:((l.length:Int)-1).toNat+0=l.length-1:=by omega
    rw[hy]at hR
    refine Qs ?_
    rw[e6,hy]
    refine ec [bM T,bI 4,.one true gl (.ints .u8 l cl),.one true 0 (.cells [.int .i64 2,.int .i64 3])] (n:=2) hR qW (by omega) (fun v s3 YW G6 ND vt hR=>?_) (fun h=>Exists.intro (FZ lim gb cb xs T g c s2) (And.intro (aI rfl (aI rfl (aI rfl (aI rfl (aI rfl (aI rfl (trivial))))))) (And.intro ml (And.intro rfl (h1 50 s2 h)))))
    rw[DP.bind]at hR
    simp only at hR
    refine Qs ?_
    refine And.intro (fun hc=>?_) (fun hc=>?_)
    ·have hg:(n:Int)-l.length<3+v:=by simpa using hc
     rw[if_pos hg]at hR
     refine Qs ?_
     refine b9 (fun h=>absurd h (by decide)) (fun _=>?_)
     exact Exists.intro (FZ lim gb cb xs T g c s3) (And.intro (aI rfl (aI rfl (aI rfl (aI rfl (aI rfl (aI rfl (trivial))))))) (And.intro ml (And.intro rfl (h1 80 s3 hR.symm))))
    have hg:¬(n:Int)-l.length<3+v:=by simpa using hc
    obtain⟨k,hk⟩:∃k:Nat,3+(v:Int)=(k:Int):=⟨3+v,by push_cast;rfl⟩
    rw[if_neg hg,hk,Int.toNat_natCast]at hR
    have G9:1≤k∧k≤65536:=by omega
    refine Qs ?_
    rw[hk]
    refine bX (i:=8) rfl G9 qo ?_
    refine Qs ?_
    intro zs fe
    obtain rfl:zs=List.replicate k y:=by rw[fe];simp
    have KN:(List.replicate k y).length=k:=List.length_replicate ..
    refine Qs ?_
    intro c4 xr
    have rl:l.length+k≤c4:=xr
    have ig:∀x∈l++List.replicate k y,0≤x∧x<256:=by
     intro x hx
     rcases List.mem_append.1 hx with hx|hx
     ·exact hb x hx
     ·rw[List.eq_of_mem_replicate hx];exact qo
    have oI:(l++List.replicate k y).length=l.length+k:=by rw[List.length_append,List.length_replicate]
    refine Qs ?_
    refine RO.same (f,s3,gl+1,c4,l++List.replicate k y) ⟨by rw[G6,HN,ho],vt,by rw[oI];omega,by rw[oI];exact rl,ig,by rw[oI];omega,hR⟩ (show n-(l++List.replicate k y).length<n-l.length by rw[oI];omega) (And.intro rfl (And.intro rfl (And.intro rfl (And.intro ?_ trivial)))) (aI rfl (aI rfl (aI rfl (aI rfl (aI rfl (aI rfl (aI rfl (trivial))))))))
    show AV.sl 6 (gl+1) 0 (l.length+k) c4=AV.sl 6 (gl+1) 0 (l++List.replicate k y).length c4
    rw[oI]
   ·rw[if_neg (by decide),if_pos rfl]at hR
    refine Qs ?_
    refine ec [bM T,bI 4,.one true gl (.ints .u8 l cl),.one true 0 (.cells [.int .i64 3,.int .i64 3])] (n:=3) hR qW (by omega) (fun v s3 YW G6 ND vt hR=>?_) (fun h=>Exists.intro (FZ lim gb cb xs T g c s2) (And.intro (aI rfl (aI rfl (aI rfl (aI rfl (aI rfl (aI rfl (trivial))))))) (And.intro ml (And.intro rfl (h1 50 s2 h)))))
    rw[DP.bind]at hR
    simp only at hR
    refine Qs ?_
    refine And.intro (fun hc=>?_) (fun hc=>?_)
    ·have hg:(n:Int)-l.length<3+v:=by simpa using hc
     rw[if_pos hg]at hR
     refine Qs ?_
     refine b9 (fun h=>absurd h (by decide)) (fun _=>?_)
     exact Exists.intro (FZ lim gb cb xs T g c s3) (And.intro (aI rfl (aI rfl (aI rfl (aI rfl (aI rfl (aI rfl (trivial))))))) (And.intro ml (And.intro rfl (h1 80 s3 hR.symm))))
    have hg:¬(n:Int)-l.length<3+v:=by simpa using hc
    obtain⟨k,hk⟩:∃k:Nat,3+(v:Int)=(k:Int):=⟨3+v,by push_cast;rfl⟩
    rw[if_neg hg,hk,Int.toNat_natCast]at hR
    have G9:1≤k∧k≤65536:=by omega
    refine Qs ?_
    rw[hk]
    refine bX (i:=8) rfl G9 (by decide) ?_
    refine Qs ?_
    intro zs fe
    obtain rfl:zs=List.replicate k (0:Int):=by rw[fe];simp
    have KN:(List.replicate k (0:Int)).length=k:=List.length_replicate ..
    refine Qs ?_
    intro c4 xr
    have rl:l.length+k≤c4:=xr
    have ig:∀x∈l++List.replicate k (0:Int),0≤x∧x<256:=by
     intro x hx
     rcases List.mem_append.1 hx with hx|hx
     ·exact hb x hx
     ·rw[List.eq_of_mem_replicate hx];exact(by decide)
    have oI:(l++List.replicate k (0:Int)).length=l.length+k:=by rw[List.length_append,List.length_replicate]
    refine Qs ?_
    refine RO.same (f,s3,gl+1,c4,l++List.replicate k (0:Int)) ⟨by rw[G6,HN,ho],vt,by rw[oI];omega,by rw[oI];exact rl,ig,by rw[oI];omega,hR⟩ (show n-(l++List.replicate k (0:Int)).length<n-l.length by rw[oI];omega) (And.intro rfl (And.intro rfl (And.intro rfl (And.intro ?_ trivial)))) (aI rfl (aI rfl (aI rfl (aI rfl (aI rfl (aI rfl (aI rfl (trivial))))))))
    show AV.sl 6 (gl+1) 0 (l.length+k) c4=AV.sl 6 (gl+1) 0 (l++List.replicate k (0:Int)).length c4
    rw[oI]
   ·rw[if_neg (by decide),if_neg (by decide)]at hR
    refine Qs ?_
    refine ec [bM T,bI 4,.one true gl (.ints .u8 l cl),.one true 0 (.cells [.int .i64 7,.int .i64 11])] (n:=7) hR qW (by omega) (fun v s3 YW G6 ND vt hR=>?_) (fun h=>Exists.intro (FZ lim gb cb xs T g c s2) (And.intro (aI rfl (aI rfl (aI rfl (aI rfl (aI rfl (aI rfl (trivial))))))) (And.intro ml (And.intro rfl (h1 50 s2 h)))))
    rw[DP.bind]at hR
    simp only at hR
    refine Qs ?_
    refine And.intro (fun hc=>?_) (fun hc=>?_)
    ·have hg:(n:Int)-l.length<11+v:=by simpa using hc
     rw[if_pos hg]at hR
     refine Qs ?_
     refine b9 (fun h=>absurd h (by decide)) (fun _=>?_)
     exact Exists.intro (FZ lim gb cb xs T g c s3) (And.intro (aI rfl (aI rfl (aI rfl (aI rfl (aI rfl (aI rfl (trivial))))))) (And.intro ml (And.intro rfl (h1 80 s3 hR.symm))))
    have hg:¬(n:Int)-l.length<11+v:=by simpa using hc
    obtain⟨k,hk⟩:∃k:Nat,11+(v:Int)=(k:Int):=⟨11+v,by push_cast;rfl⟩
    rw[if_neg hg,hk,Int.toNat_natCast]at hR
    have G9:1≤k∧k≤65536:=by omega
    refine Qs ?_
    rw[hk]
    refine bX (i:=8) rfl G9 (by decide) ?_
    refine Qs ?_
    intro zs fe
    obtain rfl:zs=List.replicate k (0:Int):=by rw[fe];simp
    have KN:(List.replicate k (0:Int)).length=k:=List.length_replicate ..
    refine Qs ?_
    intro c4 xr
    have rl:l.length+k≤c4:=xr
    have ig:∀x∈l++List.replicate k (0:Int),0≤x∧x<256:=by
     intro x hx
     rcases List.mem_append.1 hx with hx|hx
     ·exact hb x hx
     ·rw[List.eq_of_mem_replicate hx];exact(by decide)
    have oI:(l++List.replicate k (0:Int)).length=l.length+k:=by rw[List.length_append,List.length_replicate]
    refine Qs ?_
    refine RO.same (f,s3,gl+1,c4,l++List.replicate k (0:Int)) ⟨by rw[G6,HN,ho],vt,by rw[oI];omega,by rw[oI];exact rl,ig,by rw[oI];omega,hR⟩ (show n-(l++List.replicate k (0:Int)).length<n-l.length by rw[oI];omega) (And.intro rfl (And.intro rfl (And.intro rfl (And.intro ?_ trivial)))) (aI rfl (aI rfl (aI rfl (aI rfl (aI rfl (aI rfl (aI rfl (trivial))))))))
    show AV.sl 6 (gl+1) 0 (l.length+k) c4=AV.sl 6 (gl+1) 0 (l++List.replicate k (0:Int)).length c4
    rw[oI]
  ·exact Exists.intro (FZ lim gb cb xs T g c s') (And.intro (aI rfl (aI rfl (aI rfl (aI rfl (aI rfl (aI rfl (trivial))))))) (And.intro ml (And.intro rfl (h1 e s' h))))
 ·have JK:n≤l.length:=by simp only[decide_eq_false_iff_not]at hc;omega
  rw[if_pos JK,DP.run]at hR
  refine Qs ?_
  exact Exists.intro (RX lim gb cb xs T g c s1 gl cl l) (And.intro (aI rfl (aI rfl (aI rfl (aI rfl (aI rfl (aI rfl (aI rfl (trivial)))))))) (And.intro HS (And.intro rfl (h0 gl cl l s1 hR.symm ho GG (by omega) hb FA))))
end
end Go.Proofs.Ytibadaomjlkoaaa
open Go.RowKit
namespace Go.Proofs.Ytibadaomjlkoaaa
set_option maxRecDepth 10000
def bC:List Int:=List.replicate 144 8++List.replicate 112 9++List.replicate 24 7++List.replicate 8 8
def cN:List Int:=List.replicate 32 5
def FU:Nat:=1000001
section
variable{K Kp:AV→AH→Prop}{xs:List Int}{lim gb cb g c:Nat}{s:DS}
theorem GN (h1:Kp (bn 80) (zH lim gb cb xs g c s)):aa Try.prog 34 [.ptr 0 0 0] (zH lim gb cb xs g c s) K Kp:=by
 refine P2 (fun _=>[]) [] rfl ?_
 refine Qs ?_
 refine b9 (fun h=>absurd h (by decide)) (fun _=>?_)
 exact h1
def CT:List (List AV):=[[.int .i64 144,.int .i64 8],[.int .i64 112,.int .i64 9],[.int .i64 24,.int .i64 7],[.int .i64 8,.int .i64 8]]
def Yc:List (Nat×Int):=[(144,8),(112,9),(24,7),(8,8)]
def cz (i:Nat):List Int:=(Yc.take i).flatMap fun r=>List.replicate r.1 r.2
theorem J1:cz 4=bC:=by decide+kernel
def Zz (lim gb cb:Nat)(xs:List Int)(g c:Nat)(s:DS)(gl cl:Nat)(l:List Int):AH:=zH lim gb cb xs g c s++[.one true 0 (.cJ 2 4 (fun j=>CT.getD j []) 4),.one true gl (.ints .u8 l cl)]
theorem NP (k:Nat):(af.cJ 2 4 (fun j=>CT.getD j []) 4).nb k:=by
 intro j
 by_cases h:j<4
 ·match j,h with
  |0,_=>rfl
  |1,_=>rfl
  |2,_=>rfl
  |3,_=>rfl
 ·show AV.su k (CT.getD j [])=true
  rw[List.getD_eq_getElem?_getD,List.getElem?_eq_none (show CT.length≤j by show 4≤j;omega)];rfl
theorem RK {gl cl:Nat}{l:List Int}:mi 6 (Zz lim gb cb xs g c s gl cl l):=⟨by simp[af.nb,AV.su,AV.nb,AO.nb],rfl,trivial,trivial,NP _,trivial,trivial⟩
theorem EM (E:AH)(i j:Nat){A B:List ((Int×Int)×Int)}{N N':Int}{f0:Nat}(KO:E[i]?=some (bM A))(Fy:E[i+1]?=some (bI (i+4)))(Zf:E[j]?=some (bM B))(Sk:E[j+1]?=some (bI (j+4)))
 (pG:(bL [.own 0,.own 1,.own 2,.own 3,.own (i+4),.own (i+5),.own (j+4),.own (j+5)]&&AV.pE [.own 0,.own 1,.own 2,.own 3,.own (i+4),.own (i+5),.own (j+4),.own (j+5)] [.ptr 0 0 0,.ptr 5 0 0,.ptr 7 0 0])=true)
 (ok:il xs lim c s)(hb:∀x∈s.out,0≤x∧x<256)(hA:fI A)(hB:fI B)(X6:lQ N A)(Wq:lQ N' B)(hf:lim<f0+s.out.length){R:Except Int (Unit×DS)}(hR:(jH A B f0).run (unpack xs) lim s=R)
 (h0:∀g' c' s',R=.ok ((),s')→il xs lim c' s'→(∀x∈s'.out,0≤x∧x<256)→K (.aL []) (zH lim gb cb xs g' c' s'++E))
 (h1:∀e g' c' s',R=.error e→Kp (bn e) (zH lim gb cb xs g' c' s'++E)):
 aa Try.prog 62 [.ptr 0 0 0,.ptr (i+5) 0 0,.ptr (j+5) 0 0] (zH lim gb cb xs g c s++E) K Kp:=by
 have key:∀g' c' s',dk [.own 0,.own 1,.own 2,.own 3,.own (i+4),.own (i+5),.own (j+4),.own (j+5)] (zH lim gb cb xs g c s++E).length [.own 0,.own 1,.own 2,.own 3,.own (i+4),.own (i+5),.own (j+4),.own (j+5)] (KJ lim gb cb xs A B g' c' s') (zH lim gb cb xs g c s++E)=zH lim gb cb xs g' c' s'++E:=by
  intro g' c' s'
  show((((zH lim gb cb xs g' c' s'++E).set (i+4) (AO.one true 0 ((af.map (.pair .i64 .i64) (lA A)).rn [.own 0,.own 1,.own 2,.own 3,.own (i+4),.own (i+5),.own (j+4),.own (j+5)] (zH lim gb cb xs g c s++E).length))).set (i+5) (bI (i+4))).set (j+4) (AO.one true 0 ((af.map (.pair .i64 .i64) (lA B)).rn [.own 0,.own 1,.own 2,.own 3,.own (i+4),.own (i+5),.own (j+4),.own (j+5)] (zH lim gb cb xs g c s++E).length))).set (j+5) (bI (j+4))++[]=_
  rw[jJ,jJ,List.append_nil]
  show zH lim gb cb xs g' c' s'++((((E.set i (bM A)).set (i+1) (bI (i+4))).set j (bM B)).set (j+1) (bI (j+4)))=_
  rw[rI KO,rI Fy,rI Zf,rI Sk]
 refine aa.lift [.own 0,.own 1,.own 2,.own 3,.own (i+4),.own (i+5),.own (j+4),.own (j+5)] (Gb (K:=fun r M=>∃g' c' s',r=.aL []∧M=KJ lim gb cb xs A B g' c' s'∧K r (zH lim gb cb xs g' c' s'++E)) (Kp:=fun r M=>∃e g' c' s',r=bn e∧M=KJ lim gb cb xs A B g' c' s'∧Kp r (zH lim gb cb xs g' c' s'++E)) ok hb hA hB X6 Wq hf hR
  (fun g' c' s' h k l=>⟨g',c',s',rfl,rfl,h0 g' c' s' h k l⟩) (fun e g' c' s' h=>⟨e,g',c',s',rfl,rfl,h1 e g' c' s' h⟩)) rfl pG
  ⟨⟨rfl,rfl⟩,⟨rfl,rfl⟩,⟨rfl,rfl⟩,⟨rfl,rfl⟩,⟨?_,rfl⟩,⟨?_,rfl⟩,⟨?_,rfl⟩,⟨?_,rfl⟩,trivial⟩ ⟨rfl,rfl,trivial,trivial,wW _ (.pair .i64 .i64) A,rfl,wW _ (.pair .i64 .i64) B,rfl,trivial⟩ ?_ ?_
 ·show E[i]?=some (AO.one true 0 ((af.map (.pair .i64 .i64) (lA A)).rn _ _))
  rw[jJ];exact KO
 ·exact Fy
 ·show E[j]?=some (AO.one true 0 ((af.map (.pair .i64 .i64) (lA B)).rn _ _))
  rw[jJ];exact Zf
 ·exact Sk
 ·rintro r M' ⟨g',c',s',rfl,rfl,hk⟩
  refine⟨⟨rfl,rfl,rfl,rfl,rfl,rfl,rfl,rfl,rfl⟩,?_⟩
  rw[key]
  exact hk
 ·rintro r M' ⟨e,g',c',s',rfl,rfl,hk⟩
  refine⟨⟨rfl,rfl,rfl,rfl,rfl,rfl,rfl,rfl,rfl⟩,?_⟩
  rw[key]
  exact hk
theorem CS (ok:il xs lim c s)(hb:∀x∈s.out,0≤x∧x<256){R:Except Int (Unit×DS)}(hR:(jH (cy (bZ bC) []) (cy (bZ cN) []) FU).run (unpack xs) lim s=R)
 (h0:∀g' c' s',R=.ok ((),s')→il xs lim c' s'→(∀x∈s'.out,0≤x∧x<256)→K (.aL []) (zH lim gb cb xs g' c' s'))
 (h1:∀e g' c' s',R=.error e→Kp (bn e) (zH lim gb cb xs g' c' s')):
 aa Try.prog 32 [.ptr 0 0 0] (zH lim gb cb xs g c s) K Kp:=by
 refine aa.qR ?_
 refine P4 (fun _=>[]) [] rfl ?_
 refine Qs ?_
 refine WO.KW (σ:=Nat×Nat×Nat) (fun(i,gl,cl)=>i≤4∧(cz i).length≤cl) (fun(i,_)=>4-i) (fun(i,gl,cl)=>[(0,.ptr 0 0 0),(2,.sl 5 gl 0 (cz i).length cl),(9,.sl 4 0 0 4 4),(10,.int .i64 4),(11,.int .i64 (i:Int))])
  (fun(i,gl,cl)=>Zz lim gb cb xs g c s gl cl (cz i)) (0,0,0) ae mixed (by kernel_rfl) [(0,.ptr 0 0 0),(2,.ns),(9,.sl 4 0 0 4 4),(10,.int .i64 4),(11,.int .i64 0)] _ ⟨Nat.zero_le _,Nat.zero_le _⟩ (aI rfl (aI rfl (aI rfl (aI rfl (aI rfl (trivial)))))) rfl
  (Vw.trans (Vw.cJ (i:=4) (fun j=>CT.getD j []) rfl ?_) (Vw.yv (x:=.ints .u8 [] 0) ⟨rfl,rfl⟩ (And.intro (.inl rfl) (And.intro (.inr ⟨rfl,rfl⟩) (And.intro (.inl rfl) (And.intro (.inl rfl) (And.intro (.inl rfl) trivial))))))) (aI rfl (aI rfl (aI rfl (aI rfl (aI rfl (aI rfl (trivial))))))) (fun _=>rfl) (fun _=>rfl) (fun _=>RK) ?_
 ·intro r hr
  refine congrArg (fun l=>List.getD l r []) (?_:CT=_)
  kernel_rfl
 rintro⟨i,gl,cl⟩ ⟨hi,FA⟩ d0
 refine Or.elim (Nat.lt_or_ge i 4) (fun hl=>?_) (fun hl=>?_)
 ·match i,hl with
  |0,_=>
   have hp:cz 1=cz 0++List.replicate 144 8:=by decide+kernel
   have bW:(cz 0).length=0:=by decide+kernel
   have CE:(cz 1).length=0+144:=by decide+kernel
   have Ru:(cz 0).length≤cl:=FA
   have KN:(List.replicate 144 (8:Int)).length=144:=List.length_replicate ..
   refine Qs ?_
   refine bX (i:=7) (k:=144) (v:=8) rfl (by omega) (by omega) ?_
   refine Qs ?_
   intro zs fe
   obtain rfl:zs=List.replicate 144 8:=by rw[fe];rfl
   refine Qs ?_
   intro c4 xr
   have rl:(cz 0).length+144≤c4:=xr
   refine Qs ?_
   refine RO.same (1,gl+1,c4) ⟨by decide,by show(cz 1).length≤c4;omega⟩ (show 4-1<4-0 by decide) (And.intro rfl (And.intro ?_ (aI rfl (aI rfl (aI rfl (trivial)))))) (And.intro rfl (And.intro rfl (And.intro rfl (And.intro rfl (And.intro rfl (And.intro ?_ trivial))))))
   ·show AV.sl 5 (gl+1) 0 ((cz 0).length+144) c4=AV.sl 5 (gl+1) 0 (cz 1).length c4
    rw[CE,bW]
   ·show AO.one true (gl+1) (.ints .u8 (cz 0++List.replicate 144 8) c4)=AO.one true (gl+1) (.ints .u8 (cz 1) c4)
    rw[hp]
  |1,_=>
   have hp:cz 2=cz 1++List.replicate 112 9:=by decide+kernel
   have bW:(cz 1).length=144:=by decide+kernel
   have CE:(cz 2).length=144+112:=by decide+kernel
   have Ru:(cz 1).length≤cl:=FA
   have KN:(List.replicate 112 (9:Int)).length=112:=List.length_replicate ..
   refine Qs ?_
   refine bX (i:=7) (k:=112) (v:=9) rfl (by omega) (by omega) ?_
   refine Qs ?_
   intro zs fe
   obtain rfl:zs=List.replicate 112 9:=by rw[fe];rfl
   refine Qs ?_
   intro c4 xr
   have rl:(cz 1).length+112≤c4:=xr
   refine Qs ?_
   refine RO.same (2,gl+1,c4) ⟨by decide,by show(cz 2).length≤c4;omega⟩ (show 4-2<4-1 by decide) (And.intro rfl (And.intro ?_ (aI rfl (aI rfl (aI rfl (trivial)))))) (And.intro rfl (And.intro rfl (And.intro rfl (And.intro rfl (And.intro rfl (And.intro ?_ trivial))))))
   ·show AV.sl 5 (gl+1) 0 ((cz 1).length+112) c4=AV.sl 5 (gl+1) 0 (cz 2).length c4
    rw[CE,bW]
   ·show AO.one true (gl+1) (.ints .u8 (cz 1++List.replicate 112 9) c4)=AO.one true (gl+1) (.ints .u8 (cz 2) c4)
    rw[hp]
  |2,_=>
   have hp:cz 3=cz 2++List.replicate 24 7:=by decide+kernel
   have bW:(cz 2).length=256:=by decide+kernel
   have CE:(cz 3).length=256+24:=by decide+kernel
   have Ru:(cz 2).length≤cl:=FA
   have KN:(List.replicate 24 (7:Int)).length=24:=List.length_replicate ..
   refine Qs ?_
   refine bX (i:=7) (k:=24) (v:=7) rfl (by omega) (by omega) ?_
   refine Qs ?_
   intro zs fe
   obtain rfl:zs=List.replicate 24 7:=by rw[fe];rfl
   refine Qs ?_
   intro c4 xr
   have rl:(cz 2).length+24≤c4:=xr
   refine Qs ?_
   refine RO.same (3,gl+1,c4) ⟨by decide,by show(cz 3).length≤c4;omega⟩ (show 4-3<4-2 by decide) (And.intro rfl (And.intro ?_ (aI rfl (aI rfl (aI rfl (trivial)))))) (And.intro rfl (And.intro rfl (And.intro rfl (And.intro rfl (And.intro rfl (And.intro ?_ trivial))))))
   ·show AV.sl 5 (gl+1) 0 ((cz 2).length+24) c4=AV.sl 5 (gl+1) 0 (cz 3).length c4
    rw[CE,bW]
   ·show AO.one true (gl+1) (.ints .u8 (cz 2++List.replicate 24 7) c4)=AO.one true (gl+1) (.ints .u8 (cz 3) c4)
    rw[hp]
  |3,_=>
   have hp:cz 4=cz 3++List.replicate 8 8:=by decide+kernel
   have bW:(cz 3).length=280:=by decide+kernel
   have CE:(cz 4).length=280+8:=by decide+kernel
   have Ru:(cz 3).length≤cl:=FA
   have KN:(List.replicate 8 (8:Int)).length=8:=List.length_replicate ..
   refine Qs ?_
   refine bX (i:=7) (k:=8) (v:=8) rfl (by omega) (by omega) ?_
   refine Qs ?_
   intro zs fe
   obtain rfl:zs=List.replicate 8 8:=by rw[fe];rfl
   refine Qs ?_
   intro c4 xr
   have rl:(cz 3).length+8≤c4:=xr
   refine Qs ?_
   refine RO.same (4,gl+1,c4) ⟨by decide,by show(cz 4).length≤c4;omega⟩ (show 4-4<4-3 by decide) (And.intro rfl (And.intro ?_ (aI rfl (aI rfl (aI rfl (trivial)))))) (And.intro rfl (And.intro rfl (And.intro rfl (And.intro rfl (And.intro rfl (And.intro ?_ trivial))))))
   ·show AV.sl 5 (gl+1) 0 ((cz 3).length+8) c4=AV.sl 5 (gl+1) 0 (cz 4).length c4
    rw[CE,bW]
   ·show AO.one true (gl+1) (.ints .u8 (cz 3++List.replicate 8 8) c4)=AO.one true (gl+1) (.ints .u8 (cz 4) c4)
    rw[hp]
 ·obtain rfl:i=4:=by omega
  simp only[J1]at FA
  have X4:∀x∈bC,0≤x∧x<256:=by decide+kernel
  have Sq:∀x∈cN,0≤x∧x<256:=by decide+kernel
  have ON:bC.length=288:=by decide+kernel
  have Ur:aE bC=0:=by decide+kernel
  have Uq:aE cN=0:=by decide+kernel
  have JD:=ok.ll
  refine Qs ?_
  rw[J1]
  refine td (i:=5) (ls:=bC) rfl rfl (by omega) X4 (fun _=>?_) (fun h=>absurd Ur h)
  refine Qs ?_
  refine bX (i:=8) (k:=32) (v:=5) rfl (by omega) (by omega) ?_
  refine Qs ?_
  refine td (i:=9) (ls:=cN) rfl rfl (by decide) Sq (fun _=>?_) (fun h=>absurd Uq h)
  refine Qs ?_
  refine EM [.one true 0 (.cJ 2 4 (fun j=>CT.getD j []) 4),.one true gl (.ints .u8 bC cl),bM (cy (bZ bC) []),bI 6,.one true 0 (.ints .u8 [5] 1),.one true 0 (.ints .u8 cN 32),bM (cy (bZ cN) []),bI 10] 2 6 rfl rfl rfl rfl rfl ok hb (iw _) (iw _) (kj (N:=2000) (by omega)) (kj (N:=2000) (by decide)) (by unfold FU;omega) hR (fun g' c' s' h k l=>?_) (fun e g' c' s' h=>?_)
  ·refine Qs ?_
   exact Exists.intro (zH lim gb cb xs g' c' s') (And.intro (aI rfl (aI rfl (aI rfl (aI rfl (trivial))))) (And.intro fu (And.intro rfl (h0 g' c' s' h k l))))
  ·exact Exists.intro (zH lim gb cb xs g' c' s') (And.intro (aI rfl (aI rfl (aI rfl (aI rfl (trivial))))) (And.intro fu (And.intro rfl (h1 e g' c' s' h))))
end
end Go.Proofs.Ytibadaomjlkoaaa
open Go.RowKit
namespace Go.Proofs.Ytibadaomjlkoaaa
set_option maxRecDepth 10000
def qV:List Nat:=[16,17,18,0,8,7,9,6,10,5,11,4,12,3,13,2,14,1,15]
def yq:Nat→Nat→List Int→DP (List Int)
 |0,_,ls=>.ret ls
 |n+1,i,ls=>.get 3 fun v=>yq n (i+1) (ls.set (qV.getD i 0) v)
def MJ:DP Unit:=.get 5 fun a=>.get 5 fun b=>.get 4 fun c=>if 286<a+257∨30<b+1 then .fail 80 else
 (yq (c.toNat+4) 0 (List.replicate 19 0)).bind fun ls=>(sr ls).bind fun T=>(oB T (a.toNat+257+(b.toNat+1)) 401 []).bind fun l=>if l.getD 256 0=0 then .fail 80 else
  (sr (l.take (a.toNat+257))).bind fun A=>(sr (l.drop (a.toNat+257))).bind fun B=>jH A B FU
section
variable{K Kp:AV→AH→Prop}{xs:List Int}{lim gb cb g c:Nat}{s:DS}
theorem wi {M:AH}{i g off n c0 co:Nat}{o:Bool}{ls ys:List Int}(hi:M[i]?=some (.one o g (.ints .u8 ys co)))(hn:n=ls.length)(hy:ls=(ys.drop off).take ls.length)(hc:off+ls.length≤co)(hl:ls.length≤2000)(hu:∀x∈ls,0≤x∧x<256)
 (h0:aE ls=0→K (.ptr (M.length+1) 0 0) (M++[bM (cy (bZ ls) []),bI M.length]))
 (h1:aE ls≠0→Kp (bn (aE ls)) M):aa Try.prog 63 [.sl i g off n c0] M K Kp:=by
 subst hn
 refine aa.lift [.eI i g off] (tc (ls:=ls) (c0:=c0) (c:=ls.length) (K:=fun r M=>aE ls=0∧r=.ptr 2 0 0∧M=[.one false 0 (.ints .u8 ls ls.length),bM (cy (bZ ls) []),bI 1]) (Kp:=fun v M=>aE ls≠0∧v=bn (aE ls)∧M=[.one false 0 (.ints .u8 ls ls.length)]) hl hu (fun h=>⟨h,rfl,rfl⟩) (fun h=>⟨h,rfl,rfl⟩)) (by simp[AV.rM,AV.rn,zp,Cb,Cc,TE.i]) rfl ⟨⟨_,_,_,rfl,ak hi,eG.ints hc hy⟩,trivial⟩ ⟨trivial,trivial⟩ ?_ ?_
 ·rintro r M' ⟨e,rfl,rfl⟩
  refine⟨⟨rfl,rfl⟩,?_⟩
  have:=h0 e
  unfold bM at this
  rw[←jJ [.eI i g off] M.length (.pair .i64 .i64) (cy (bZ ls) [])]at this
  exact this
 ·rintro r M' ⟨e,rfl,rfl⟩
  refine⟨⟨rfl,rfl⟩,?_⟩
  have:=h1 e
  rw[←List.append_nil M]at this
  exact this
theorem zx (E:AH)(i:Nat){T:List ((Int×Int)×Int)}{n f0:Nat}(KO:E[i]?=some (bM T))(Fy:E[i+1]?=some (bI (i+4)))
 (pG:(bL [.own 0,.own 1,.own 2,.own 3,.own (i+4),.own (i+5)]&&AV.pE [.own 0,.own 1,.own 2,.own 3,.own (i+4),.own (i+5)] [.ptr 0 0 0,.ptr 5 0 0,.int .i64 (n:Int)])=true)
 (ok:il xs lim c s)(hT:fI T)(hN:lQ 19 T)(hn:1≤n∧n≤400)(hf:n<f0){R:Except Int (List Int×DS)}(hR:(oB T n f0 []).run (unpack xs) lim s=R)
 (h0:∀gl cl l s',R=.ok (l,s')→s'.out=s.out→il xs lim c s'→l.length=n→(∀x∈l,0≤x∧x<256)→l.length≤cl→K (.sl (E.length+4) gl 0 l.length cl) (zH lim gb cb xs g c s'++(E++[.one true gl (.ints .u8 l cl)])))
 (h1:∀e s',R=.error e→Kp (bn e) (zH lim gb cb xs g c s'++E)):
 aa Try.prog 64 [.ptr 0 0 0,.ptr (i+5) 0 0,.int .i64 (n:Int)] (zH lim gb cb xs g c s++E) K Kp:=by
 have key:∀s' X,dk [.own 0,.own 1,.own 2,.own 3,.own (i+4),.own (i+5)] (zH lim gb cb xs g c s++E).length [.own 0,.own 1,.own 2,.own 3,.own (i+4),.own (i+5)] (zH lim gb cb xs g c s'++bM T::bI 4::X) (zH lim gb cb xs g c s++E)=zH lim gb cb xs g c s'++(E++Oi [.own 0,.own 1,.own 2,.own 3,.own (i+4),.own (i+5)] (zH lim gb cb xs g c s++E).length X):=by
  intro s' X
  show((zH lim gb cb xs g c s'++E).set (i+4) (AO.one true 0 ((af.map (.pair .i64 .i64) (lA T)).rn [.own 0,.own 1,.own 2,.own 3,.own (i+4),.own (i+5)] (zH lim gb cb xs g c s++E).length))).set (i+5) (bI (i+4))++Oi [.own 0,.own 1,.own 2,.own 3,.own (i+4),.own (i+5)] (zH lim gb cb xs g c s++E).length X=_
  rw[jJ]
  show zH lim gb cb xs g c s'++((E.set i (bM T)).set (i+1) (bI (i+4))++Oi [.own 0,.own 1,.own 2,.own 3,.own (i+4),.own (i+5)] (zH lim gb cb xs g c s++E).length X)=_
  rw[rI KO,rI Fy]
 refine aa.lift [.own 0,.own 1,.own 2,.own 3,.own (i+4),.own (i+5)] (vz (K:=fun r M=>∃gl cl l s',r=.sl 6 gl 0 l.length cl∧M=RX lim gb cb xs T g c s' gl cl l∧K (.sl (E.length+4) gl 0 l.length cl) (zH lim gb cb xs g c s'++(E++[.one true gl (.ints .u8 l cl)]))) (Kp:=fun r M=>∃e s',r=bn e∧M=FZ lim gb cb xs T g c s'∧Kp r (zH lim gb cb xs g c s'++E)) ok hT hN hn hf hR
  (fun gl cl l s' a1 a2 a3 a4 a5 a6=>⟨gl,cl,l,s',rfl,rfl,h0 gl cl l s' a1 a2 a3 a4 a5 a6⟩) (fun e s' h=>⟨e,s',rfl,rfl,h1 e s' h⟩)) rfl pG
  ⟨⟨rfl,rfl⟩,⟨rfl,rfl⟩,⟨rfl,rfl⟩,⟨rfl,rfl⟩,⟨?_,rfl⟩,⟨?_,rfl⟩,trivial⟩ ⟨rfl,rfl,trivial,trivial,wW _ (.pair .i64 .i64) T,rfl,trivial⟩ ?_ ?_
 ·show E[i]?=some (AO.one true 0 ((af.map (.pair .i64 .i64) (lA T)).rn _ _))
  rw[jJ];exact KO
 ·exact Fy
 ·rintro r M' ⟨gl,cl,l,s',rfl,rfl,hk⟩
  refine⟨⟨rfl,rfl,rfl,rfl,rfl,rfl,rfl⟩,?_⟩
  have:=key s' [.one true gl (.ints .u8 l cl)]
  rw[show RX lim gb cb xs T g c s' gl cl l=zH lim gb cb xs g c s'++bM T::bI 4::[.one true gl (.ints .u8 l cl)]from rfl,this]
  exact hk
 ·rintro r M' ⟨e,s',rfl,rfl,hk⟩
  refine⟨⟨rfl,rfl,rfl,rfl,rfl,rfl,rfl⟩,?_⟩
  have:=key s' []
  rw[show FZ lim gb cb xs T g c s'=zH lim gb cb xs g c s'++bM T::bI 4::[]from rfl,this]
  show Kp _ (zH lim gb cb xs g c s'++(E++[]))
  rw[List.append_nil]
  exact hk
def YA (lim gb cb:Nat)(xs:List Int)(g c:Nat)(s:DS)(ls:List Int):AH:=zH lim gb cb xs g c s++[.one true 0 (.ints .u8 ls 19)]
theorem O3 {ls:List Int}:mi 5 (YA lim gb cb xs g c s ls):=⟨by simp[af.nb,AV.su,AV.nb,AO.nb],rfl,trivial,trivial,trivial,trivial⟩
theorem yX (ok:il xs lim c s)(hb:∀x∈s.out,0≤x∧x<256){R:Except Int (Unit×DS)}(hR:MJ.run (unpack xs) lim s=R)
 (h0:∀g' c' s',R=.ok ((),s')→il xs lim c' s'→(∀x∈s'.out,0≤x∧x<256)→K (.aL []) (zH lim gb cb xs g' c' s'))
 (h1:∀e g' c' s',R=.error e→Kp (bn e) (zH lim gb cb xs g' c' s')):
 aa Try.prog 33 [.ptr 0 0 0] (zH lim gb cb xs g c s) K Kp:=by
 refine aa.qR ?_
 refine P3 (fun _=>[]) [] rfl ?_
 unfold MJ at hR
 refine Qs ?_
 refine ec [] (n:=5) hR ok (by omega) (fun a s1 ha Se NF GG hR=>?_) (fun h=>Exists.intro (zH lim gb cb xs g c s) (And.intro (aI rfl (aI rfl (aI rfl (aI rfl (trivial))))) (And.intro fu (And.intro rfl (h1 50 g c s h)))))
 refine Qs ?_
 refine ec [] (n:=5) hR GG (by omega) (fun b s2 ig HN yS qW hR=>?_) (fun h=>Exists.intro (zH lim gb cb xs g c s1) (And.intro (aI rfl (aI rfl (aI rfl (aI rfl (trivial))))) (And.intro fu (And.intro rfl (h1 50 g c s1 h)))))
 refine Qs ?_
 refine ec [] (n:=4) hR qW (by omega) (fun cc s3 NC G6 ND vt hR=>?_) (fun h=>Exists.intro (zH lim gb cb xs g c s2) (And.intro (aI rfl (aI rfl (aI rfl (aI rfl (trivial))))) (And.intro fu (And.intro rfl (h1 50 g c s2 h)))))
 simp only[Int.toNat_natCast]at hR
 refine Qs ?_
 refine And.intro (fun hA=>?_) (fun hA=>?_)
 ·have JV:(286:Int)<a+257:=by simpa using hA
  rw[if_pos (.inl JV)]at hR
  refine Qs ?_
  refine b9 (fun h=>absurd h (by decide)) (fun _=>?_)
  exact Exists.intro (zH lim gb cb xs g c s3) (And.intro (aI rfl (aI rfl (aI rfl (aI rfl (trivial))))) (And.intro fu (And.intro rfl (h1 80 _ _ _ hR.symm))))
 have JV:¬(286:Int)<a+257:=by simpa using hA
 refine Qs ?_
 refine And.intro (fun hB=>?_) (fun hB=>?_)
 ·have Sr:(30:Int)<b+1:=by simpa using hB
  rw[if_pos (.inr Sr)]at hR
  refine Qs ?_
  refine b9 (fun h=>absurd h (by decide)) (fun _=>?_)
  exact Exists.intro (zH lim gb cb xs g c s3) (And.intro (aI rfl (aI rfl (aI rfl (aI rfl (trivial))))) (And.intro fu (And.intro rfl (h1 80 _ _ _ hR.symm))))
 have Sr:¬(30:Int)<b+1:=by simpa using hB
 rw[if_neg (by rintro(h|h);exact JV h;exact Sr h),DP.run_bind]at hR
 obtain⟨R2,zw⟩:∃R2,(yq (cc+4) 0 (List.replicate 19 0)).run (unpack xs) lim s3=R2:=⟨_,rfl⟩
 rw[zw]at hR
 refine Qs ?_
 refine WO.go (σ:=Nat×DS×List Int) (fun(i,s',ls)=>s'.out=s.out∧il xs lim c s'∧i≤cc+4∧ls.length=19∧(∀x∈ls,0≤x∧x<256)∧(yq (cc+4-i) i ls).run (unpack xs) lim s'=R2) (fun(i,_)=>cc+4-i)
  (fun(i,_)=>[(0,.ptr 0 0 0),(2,.int .i64 ((a:Int)+257)),(3,.int .i64 ((b:Int)+1)),(5,.sl 4 0 0 19 19),(25,.int .i64 ((cc:Int)+4)),(26,.int .i64 (i:Int))]) (fun(i,s',ls)=>YA lim gb cb xs g c s' ls) (0,s3,List.replicate 19 0) ae mixed (by kernel_rfl)
  ⟨by rw[G6,HN,Se],vt,Nat.zero_le _,by decide,by decide,zw⟩ (aI rfl (aI rfl (aI rfl (aI rfl (aI rfl (aI rfl (trivial))))))) (aI rfl (aI rfl (aI rfl (aI rfl (aI rfl (trivial)))))) (fun _=>rfl) (fun _=>rfl) (fun _=>O3) ?_
 rintro⟨i,s4,ls⟩ ⟨Sd,GF,hi,CJ,Fx,Ui⟩ d0
 refine Qs ?_
 refine And.intro (fun hc=>?_) (fun hc=>?_)
 ·have a9:i<cc+4:=by simp only[decide_eq_true_eq]at hc;omega
  rw[show cc+4-i=cc+4-(i+1)+1 by omega,yq]at Ui
  have Xz:i<19:=by omega
  have eJ:ByteArray.size {data:=#[16,17,18,0,8,7,9,6,10,5,11,4,12,3,13,2,14,1,15]}=19:=rfl
  obtain⟨z,hz⟩:∃z,(({data:=#[16,17,18,0,8,7,9,6,10,5,11,4,12,3,13,2,14,1,15]}:ByteArray).data.toList.getD ((i:Int)).toNat 0).toNat=z:=⟨_,rfl⟩
  have ZR:qV.getD i 0=z∧z<19:=by
   have:∀i,i<19→qV.getD i 0=(({data:=#[16,17,18,0,8,7,9,6,10,5,11,4,12,3,13,2,14,1,15]}:ByteArray).data.toList.getD i 0).toNat∧qV.getD i 0<19:=by decide
   obtain⟨k1,k2⟩:=this i Xz
   rw[Int.toNat_natCast]at hz
   rw[hz]at k1
   exact⟨k1,k1▸k2⟩
  rw[ZR.1]at Ui
  refine Qs ?_
  rw[hz]
  refine Qs ?_
  refine ec [.one true 0 (.ints .u8 ls 19)] (n:=3) Ui GF (by omega) (fun v s5 hv G5 ha5 IQ uM=>?_) (fun h=>Exists.intro (zH lim gb cb xs g c s4) (And.intro (aI rfl (aI rfl (aI rfl (aI rfl (trivial))))) (And.intro fu (And.intro rfl (h1 50 g c s4 (by rw[h]at hR;exact hR.symm))))))
  have rW:(v:Int)%256=v:=by omega
  have Xu:∀x∈ls.set z (v:Int),0≤x∧x<256:=fun x hx=>by
   rcases List.mem_or_eq_of_mem_set hx with hx|rfl
   ·exact Fx x hx
   ·omega
  refine Qs ?_
  refine RO.same (i+1,s5,ls.set z (v:Int)) ⟨by rw[G5,Sd],IQ,by omega,by rw[List.length_set];exact CJ,Xu,uM⟩ (show cc+4-(i+1)<cc+4-i by omega) (aI rfl (aI rfl (aI rfl (aI rfl (aI rfl (aI rfl (trivial))))))) (And.intro rfl (And.intro rfl (And.intro rfl (And.intro rfl (And.intro ?_ trivial)))))
  show AO.one true 0 (.ints .u8 (ls.set z (v:Int)) 19)=AO.one true 0 (.ints .u8 (ls.set z ((v:Int)%256)) 19)
  rw[rW]
 ·obtain rfl:i=cc+4:=by simp only[decide_eq_false_iff_not]at hc;omega
  rw[Nat.sub_self,yq,DP.run]at Ui
  rw[←Ui]at hR
  simp only at hR
  rw[DP.run_bind]at hR
  refine Qs ?_
  refine td (i:=4) (ls:=ls) rfl CJ.symm (by omega) Fx (fun he=>?_) (fun he=>?_)
  ·rw[sr,if_pos he,DP.run]at hR
   simp only at hR
   rw[DP.run_bind]at hR
   obtain⟨R3,Zs⟩:∃R3,(oB (cy (bZ ls) []) (a+257+(b+1)) 401 []).run (unpack xs) lim s4=R3:=⟨_,rfl⟩
   rw[Zs]at hR
   have en:(a:Int)+257+((b:Int)+1)=((a+257+(b+1):Nat):Int):=by push_cast;rfl
   refine Qs ?_
   rw[en]
   refine zx [.one true 0 (.ints .u8 ls 19),bM (cy (bZ ls) []),bI 5] 1 rfl rfl rfl GF (iw _) (kj (by omega)) (by omega) (by omega) Zs (fun gl cl l s6 e6 Y6 R5 hl6 Wg FA=>?_) (fun e s' h=>?_)
   ·rw[e6]at hR
    simp only at hR
    refine Qs ?_
    refine And.intro (fun hc=>?_) (fun hc=>?_)
    ·have hz:l.getD 256 0=0:=by simpa using hc
     rw[if_pos hz]at hR
     refine Qs ?_
     refine b9 (fun h=>absurd h (by decide)) (fun _=>?_)
     exact Exists.intro (zH lim gb cb xs g c s6) (And.intro (aI rfl (aI rfl (aI rfl (aI rfl (trivial))))) (And.intro fu (And.intro rfl (h1 80 _ _ _ hR.symm))))
    have hz:¬l.getD 256 0=0:=by simpa using hc
    rw[if_neg hz,DP.run_bind]at hR
    have Ub:∀x∈s6.out,0≤x∧x<256:=by rw[Y6,Sd];exact hb
    have Rc:(l.take (a+257)).length=a+257:=by rw[List.length_take];omega
    have hlB:(l.drop (a+257)).length=b+1:=by rw[List.length_drop];omega
    have X4:∀x∈l.take (a+257),0≤x∧x<256:=fun x hx=>Wg x (List.mem_of_mem_take hx)
    have Sq:∀x∈l.drop (a+257),0≤x∧x<256:=fun x hx=>Wg x (List.mem_of_mem_drop hx)
    have e7:((a:Int)+257).toNat=a+257:=by omega
    have e8:cS cl (a+257) 0 1=a+257:=by rw[Qn (by omega)];omega
    have JD:=ok.ll
    refine Qs ?_
    rw[e7]
    simp only[e8]
    refine wi (i:=7) (off:=0) (ys:=l) (co:=cl) (ls:=l.take (a+257)) rfl Rc.symm (by rw[Rc,List.drop_zero]) (by omega) (by omega) X4 (fun Ur=>?_) (fun Ur=>?_)
    ·rw[sr,if_pos Ur,DP.run]at hR
     simp only at hR
     rw[DP.run_bind]at hR
     refine Qs ?_
     refine wi (i:=7) (off:=a+257) (ys:=l) (co:=cl) (ls:=l.drop (a+257)) rfl (List.length_drop ..).symm List.take_length.symm (by omega) (by omega) Sq (fun Uq=>?_) (fun Uq=>?_)
     ·rw[sr,if_pos Uq,DP.run]at hR
      simp only at hR
      refine Qs ?_
      refine EM [.one true 0 (.ints .u8 ls 19),bM (cy (bZ ls) []),bI 5,.one true gl (.ints .u8 l cl),bM (cy (bZ (l.take (a+257))) []),bI 8,bM (cy (bZ (l.drop (a+257))) []),bI 10] 4 6 rfl rfl rfl rfl rfl R5 Ub (iw _) (iw _) (kj (N:=2000) (by omega)) (kj (N:=2000) (by omega)) (by unfold FU;omega) hR (fun g' c' s' h k l=>?_) (fun e g' c' s' h=>?_)
      ·refine Qs ?_
       exact Exists.intro (zH lim gb cb xs g' c' s') (And.intro (aI rfl (aI rfl (aI rfl (aI rfl (trivial))))) (And.intro fu (And.intro rfl (h0 g' c' s' h k l))))
      ·exact Exists.intro (zH lim gb cb xs g' c' s') (And.intro (aI rfl (aI rfl (aI rfl (aI rfl (trivial))))) (And.intro fu (And.intro rfl (h1 e g' c' s' h))))
     ·rw[sr,if_neg Uq,DP.run]at hR
      exact Exists.intro (zH lim gb cb xs g c s6) (And.intro (aI rfl (aI rfl (aI rfl (aI rfl (trivial))))) (And.intro fu (And.intro rfl (h1 _ _ _ _ hR.symm))))
    ·rw[sr,if_neg Ur,DP.run]at hR
     exact Exists.intro (zH lim gb cb xs g c s6) (And.intro (aI rfl (aI rfl (aI rfl (aI rfl (trivial))))) (And.intro fu (And.intro rfl (h1 _ _ _ _ hR.symm))))
   ·rw[h]at hR
    exact Exists.intro (zH lim gb cb xs g c s') (And.intro (aI rfl (aI rfl (aI rfl (aI rfl (trivial))))) (And.intro fu (And.intro rfl (h1 e _ _ _ hR.symm))))
  ·rw[sr,if_neg he,DP.run]at hR
   exact Exists.intro (zH lim gb cb xs g c s4) (And.intro (aI rfl (aI rfl (aI rfl (aI rfl (trivial))))) (And.intro fu (And.intro rfl (h1 _ _ _ _ hR.symm))))
end
end Go.Proofs.Ytibadaomjlkoaaa
open Go.RowKit
namespace Go.Proofs.Ytibadaomjlkoaaa
set_option maxRecDepth 10000
def IK:DP Unit:=jH (cy (bZ bC) []) (cy (bZ cN) []) FU
def gS (k:Int):DP Unit:=if k=0 then nI else if k=1 then IK else if k=2 then MJ else .fail 80
def jX:Nat→DP Unit
 |0=>.fail 50
 |f+1=>.get 1 fun last=>.get 2 fun k=>(gS k).bind fun _=>if last=0 then jX f else .ret ()
def FI:Nat:=8000001
section
variable{K Kp:AV→AH→Prop}{xs:List Int}{lim gb cb g c:Nat}{s:DS}
def zI (co lim gb cb:Nat)(xs:List Int)(r1 r2 r3:AV)(g c:Nat)(s:DS):AH:=[.one false 0 (.ints .u8 xs co),.one true 0 (.cells [r1]),.one true 0 (.cells [r2]),.one true 0 (.cells [r3]),rb gb cb xs,ro 4 gb cb xs s.a,
 .one true 0 (.cells [.ptr 5 0 0,.sl 8 g 0 s.out.length c,.int .i64 (lim:Int)]),.one true 0 (.cells [.fn (.func 31) [] [],.fn (.func 32) [] [],.fn (.func 33) [] [],.fn (.func 34) [] []]),.one true g (.ints .u8 s.out c)]
theorem Hz {co:Nat}{r1 r2 r3:AV}{KH:AH→Prop}(h:KH (zI co lim gb cb xs r1 r2 r3 g c s++[.one true 0 (.cells [.int .i64 0])])):sg Try.prog 29 [.ptr 1 0 0,.ptr 2 0 0,.ptr 3 0 0] (zI co lim gb cb xs r1 r2 r3 g c s) none KH:=by
 refine sg.intro (x:=Vy (fun _=>[9]) []) ae mixed Try.func29 (rfl:Try.f29.body=_) (by kernel_rfl) rfl (by kernel_rfl) rfl rfl rfl rfl rfl ?_
 conv=>whnf
 refine And.intro rfl ?_
 conv=>whnf
 refine Qs ?_
 exact h
theorem iG {co:Nat}{r1 r2 r3:AV}{e:Int}{KH:AH→Prop}(h:KH (zI co lim gb cb xs .ns (.int .i64 0) (.int .i64 e) g c s++[.one true 0 (.cells [.int .i64 e])])):sg Try.prog 29 [.ptr 1 0 0,.ptr 2 0 0,.ptr 3 0 0] (zI co lim gb cb xs r1 r2 r3 g c s) (some (bn e)) KH:=by
 refine sg.intro (x:=Vy (fun _=>[9]) []) ae mixed Try.func29 (rfl:Try.f29.body=_) (by kernel_rfl) rfl (by kernel_rfl) rfl rfl rfl rfl rfl ?_
 conv=>whnf
 refine And.intro rfl ?_
 conv=>whnf
 refine Qs ?_
 exact h
theorem Od {f:Nat}{args Bw:List AV}{co:Nat}{r1 r2 r3:AV}(h:aa Try.prog f args (zH lim gb cb xs g c s) (fun r M=>∃g' c' s',M=zH lim gb cb xs g' c' s'∧(∀m,r.rn [.own 6,.own 5,.own 4,.own 8] m=r)∧K r (zI co lim gb cb xs r1 r2 r3 g' c' s')) (fun r M=>∃g' c' s',M=zH lim gb cb xs g' c' s'∧(∀m,r.rn [.own 6,.own 5,.own 4,.own 8] m=r)∧Kp r (zI co lim gb cb xs r1 r2 r3 g' c' s')))
 (jO:AV.rM [.own 6,.own 5,.own 4,.own 8] 9 args=Bw)(hw:AV.pE [.own 6,.own 5,.own 4,.own 8] args=true):aa Try.prog f Bw (zI co lim gb cb xs r1 r2 r3 g c s) K Kp:=by
 refine aa.lift [.own 6,.own 5,.own 4,.own 8] h jO (by rw[hw];rfl) ⟨⟨rfl,rfl⟩,⟨rfl,rfl⟩,⟨rfl,rfl⟩,⟨rfl,rfl⟩,trivial⟩ ⟨rfl,rfl,trivial,trivial,trivial⟩ ?_ ?_
 ·rintro r M' ⟨g',c',s',rfl,hr,hk⟩
  refine⟨⟨rfl,rfl,rfl,rfl,rfl⟩,?_⟩
  rw[hr]
  exact hk
 ·rintro r M' ⟨g',c',s',rfl,hr,hk⟩
  refine⟨⟨rfl,rfl,rfl,rfl,rfl⟩,?_⟩
  rw[hr]
  exact hk
theorem E9 {co:Nat}{r1 r2 r3:AV}{n:Nat}{α:Type}{k:Int→DP α}{R:Except Int (α×DS)}(hR:(DP.get n k).run (unpack xs) lim s=R)(ok:il xs lim c s)(hn:n≤16)
 (h0:∀(v:Nat) s',v<2^n→s'.out=s.out→s'.a=s.a+n→il xs lim c s'→(k v).run (unpack xs) lim s'=R→K (.int .i64 (v:Int)) (zI co lim gb cb xs r1 r2 r3 g c s'))
 (h1:R=.error 50→Kp (bn 50) (zI co lim gb cb xs r1 r2 r3 g c s)):
 aa Try.prog 35 [.ptr 6 0 0,.int .i64 (n:Int)] (zI co lim gb cb xs r1 r2 r3 g c s) K Kp:=by
 refine Od (args:=[.ptr 0 0 0,.int .i64 (n:Int)]) ?_ rfl rfl
 exact ec [] hR ok hn (fun v s' a1 a2 a3 a4 a5=>⟨g,c,s',rfl,fun _=>rfl,h0 v s' a1 a2 a3 a4 a5⟩) (fun h=>⟨g,c,s,rfl,fun _=>rfl,h1 h⟩)
theorem zj {co:Nat}{r1 r2 r3:AV}{f:Nat}{k:Nat}{R:Except Int (Unit×DS)}(hf:(k=0∧f=31)∨(k=1∧f=32)∨(k=2∧f=33)∨(k=3∧f=34))
 (hR:(gS k).run (unpack xs) lim s=R)(ok:il xs lim c s)(hb:∀x∈s.out,0≤x∧x<256)
 (h0:∀g' c' s',R=.ok ((),s')→il xs lim c' s'→(∀x∈s'.out,0≤x∧x<256)→K (.aL []) (zI co lim gb cb xs r1 r2 r3 g' c' s'))
 (h1:∀e g' c' s',R=.error e→Kp (bn e) (zI co lim gb cb xs r1 r2 r3 g' c' s')):
 aa Try.prog f [.ptr 6 0 0] (zI co lim gb cb xs r1 r2 r3 g c s) K Kp:=by
 refine Od (args:=[.ptr 0 0 0]) ?_ rfl rfl
 rcases hf with⟨rfl,rfl⟩|⟨rfl,rfl⟩|⟨rfl,rfl⟩|⟨rfl,rfl⟩
 ·exact zQ ok hb hR (fun g' c' s' a1 a2 a3=>⟨g',c',s',rfl,fun _=>rfl,h0 g' c' s' a1 a2 a3⟩) (fun e g' c' s' h=>⟨g',c',s',rfl,fun _=>rfl,h1 e g' c' s' h⟩)
 ·exact CS ok hb hR (fun g' c' s' a1 a2 a3=>⟨g',c',s',rfl,fun _=>rfl,h0 g' c' s' a1 a2 a3⟩) (fun e g' c' s' h=>⟨g',c',s',rfl,fun _=>rfl,h1 e g' c' s' h⟩)
 ·exact yX ok hb hR (fun g' c' s' a1 a2 a3=>⟨g',c',s',rfl,fun _=>rfl,h0 g' c' s' a1 a2 a3⟩) (fun e g' c' s' h=>⟨g',c',s',rfl,fun _=>rfl,h1 e g' c' s' h⟩)
 ·exact GN ⟨g,c,s,rfl,fun _=>rfl,h1 80 g c s hR.symm⟩
end
end Go.Proofs.Ytibadaomjlkoaaa
