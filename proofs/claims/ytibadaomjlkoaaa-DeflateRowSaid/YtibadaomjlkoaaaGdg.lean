import Derived.Test.YtibadaomjlkoaaaGdf
import Derived.Test.YtibadaomjlkoaaaGx
import Derived.Test.YtibadaomjlkoaaaAbE
set_option linter.unusedVariables false
set_option linter.unusedSimpArgs false
open Go.RowKit
namespace Go.Proofs.Ytibadaomjlkoaaa
set_option maxRecDepth 10000
def ly (d:Nat):Nat→DP Unit
 |0=>.ret ()
 |n+1=>.back d fun v=>.yH v (ly d n)
def js (A B:List ((Int×Int)×Int)):Nat→DP Unit
 |0=>.fail 50
 |f+1=>(rP A).bind fun v=>if v<256 then .yH v (js A B f)else if v=256 then .ret ()else if 285<v then .fail 80 else
   (if v<285 then(pM (v-257).toNat 4).bind fun z=>.ret (3+z)else .ret 258:DP Int).bind fun n=>
    (rP B).bind fun d=>if 29<d then .fail 80 else(pM d.toNat 2).bind fun z=>.GL (1+z) ((ly (1+z).toNat n.toNat).bind fun _=>js A B f)
def JW (lim gb cb:Nat)(xs:List Int)(A B:List ((Int×Int)×Int))(g c:Nat)(s:DS):AH:=zH lim gb cb xs g c s++[bG A,bB 4,bG B,bB 6]
section
variable{K Kp:AV→AH→Prop}{xs:List Int}{lim gb cb g c:Nat}{s:DS}
theorem Bn {A B:List ((Int×Int)×Int)}:lQ 8 (JW lim gb cb xs A B g c s):=⟨by simp[ae.nb,AV.rW,AV.nb,AO.nb],rfl,trivial,trivial,lA _ (.pair .i64 .i64) _,rfl,lA _ (.pair .i64 .i64) _,rfl,trivial⟩
theorem Ft {A B:List ((Int×Int)×Int)}{N N':Int}{f0:Nat}(ok:gX xs lim c s)(hb:∀x∈s.out,0≤x∧x<256)(hA:fw A)(hB:fw B)(WK:lx N A)(U6:lx N' B)(hf:lim<f0+s.out.length){R:Except Int (Unit×DS)}(hR:(js A B f0).run (unpack xs) lim s=R)
 (h0:∀g' c' s',R=.ok ((),s')→gX xs lim c' s'→(∀x∈s'.out,0≤x∧x<256)→K (.aL []) (JW lim gb cb xs A B g' c' s'))
 (h1:∀e g' c' s',R=.error e→Kp (bj e) (JW lim gb cb xs A B g' c' s')):
 aa Try.prog 62 [.ptr 0 0 0,.ptr 5 0 0,.ptr 7 0 0] (JW lim gb cb xs A B g c s) K Kp:=by
 refine OH (fun _=>[0,3]) [] rfl ?_
 refine Qs ?_
 refine WO.go (σ:=Nat×Nat×Nat×DS) (fun(f,g,c,s)=>gX xs lim c s∧(∀x∈s.out,0≤x∧x<256)∧lim<f+s.out.length∧(js A B f).run (unpack xs) lim s=R) (fun(f,g,c,s)=>lim-s.out.length)
  (fun _=>[(0,.ptr 0 0 0),(1,.ptr 5 0 0),(2,.ptr 7 0 0)]) (fun(f,g,c,s)=>JW lim gb cb xs A B g c s) (f0,g,c,s) ag mixed (by kernel_rfl) ⟨ok,hb,hf,hR⟩ (aI rfl (aI rfl (aI rfl (trivial)))) (aI rfl (aI rfl (aI rfl (aI rfl (aI rfl (aI rfl (aI rfl (aI rfl (trivial))))))))) (fun _=>rfl) (fun _=>rfl) (fun _=>Bn) ?_
 rintro⟨f,g,c,s⟩ ⟨ok,hb,hf,hR⟩ d0
 have IK:=ok.ol
 obtain⟨f,rfl⟩:∃f',f=f'+1:=⟨f-1,by omega⟩
 rw[js,DP.run_bind]at hR
 refine Qs ?_
 refine mW [bG A,bB 4,bG B,bB 6] 0 rfl rfl ok hA rfl (fun v s1 h FZ=>?_) (fun e s1 h=>?_)
 ·rw[h]at hR
  simp only at hR
  have hv:=(sb WK h).1
  have ho:=po h
  refine Qs ?_
  refine And.intro (fun hc=>?_) (fun hc=>?_)
  ·have hl:v<256:=by simpa using hc
   rw[if_pos hl]at hR
   simp only[DP.run]at hR
   have e1:v%256=v:=Int.emod_eq_of_lt hv hl
   refine Qs ?_
   rw[e1]
   refine sv [bG A,bB 4,bG B,bB 6] FZ ⟨hv,hl⟩ (fun g2 c2 jf qz=>?_) (fun jf=>?_)
   ·rw[if_neg jf]at hR
    have gS:∀x∈s1.out++[v],0≤x∧x<256:=by
     intro x hx
     rcases List.mem_append.1 hx with hx|hx
     ·rw[ho]at hx;exact hb x hx
     ·rw[List.mem_singleton.1 hx];exact⟨hv,hl⟩
    refine Qs ?_
    refine RO.same (f,g2,c2,{s1 with out:=s1.out++[v]}) ⟨qz,gS,by show lim<f+(s1.out++[v]).length;rw[List.length_append,List.length_singleton,ho];omega,hR⟩ (by show lim-(s1.out++[v]).length<lim-s.out.length;rw[List.length_append,List.length_singleton,ho];rw[ho]at jf;omega) (aI rfl (aI rfl (aI rfl (trivial)))) (aI rfl (aI rfl (aI rfl (aI rfl (aI rfl (aI rfl (aI rfl (aI rfl (trivial)))))))))
   ·rw[if_pos jf]at hR
    exact h1 81 _ _ _ hR.symm
  have hl:¬v<256:=by simpa using hc
  rw[if_neg hl]at hR
  refine Qs ?_
  refine And.intro (fun hc=>?_) (fun hc=>?_)
  ·have he:v=256:=by simpa using hc
   rw[if_pos he]at hR
   have hK:=h0 g c s1 hR.symm FZ (by rw[ho];exact hb)
   refine Qs ?_
   exact hK
  have he:¬v=256:=by simpa using hc
  rw[if_neg he]at hR
  refine Qs ?_
  refine And.intro (fun hc=>?_) (fun hc=>?_)
  ·have hg:285<v:=by simpa using hc
   rw[if_pos hg]at hR
   refine Qs ?_
   refine bX (fun h=>absurd h (by decide)) (fun _=>?_)
   exact h1 80 _ _ _ hR.symm
  have hg:¬285<v:=by simpa using hc
  rw[if_neg hg]at hR
  refine Qs ?_
  refine And.intro (fun hc=>?_) (fun hc=>?_)
  ·have hm:v<285:=by simpa using hc
   rw[if_pos hm,DP.run_bind,DP.run_bind]at hR
   obtain⟨w,hw⟩:∃w,(v-257).toNat=w:=⟨_,rfl⟩
   have YG:v-257=(w:Int):=by omega
   rw[hw]at hR
   refine Qs ?_
   rw[YG]
   refine Cp [bG A,bB 4,bG B,bB 6] (v:=w) (each:=4) FZ (.inr rfl) (by omega) (fun z2 s2 h2 qz PB=>?_) (fun e s2 h2=>?_)
   ·rw[h2]at hR
    have G3:=tu h2
    simp only[DP.run]at hR
    rw[DP.run_bind]at hR
    refine Qs ?_
    refine mW [bG A,bB 4,bG B,bB 6] 2 rfl rfl qz hB rfl (fun v2 s3 h3 u3=>?_) (fun e s3 h3=>?_)
    ·rw[h3]at hR
     simp only at hR
     have rA:=(sb U6 h3).1
     have Gn:=po h3
     refine Qs ?_
     refine And.intro (fun At=>?_) (fun At=>?_)
     ·have kv:(29:Int)<v2:=by simpa using At
      rw[if_pos kv]at hR
      refine Qs ?_
      refine bX (fun h=>absurd h (by decide)) (fun _=>?_)
      exact h1 80 _ _ _ hR.symm
     have kv:¬(29:Int)<v2:=by simpa using At
     rw[if_neg kv,DP.run_bind]at hR
     obtain⟨w2,rfl⟩:=Int.eq_ofNat_of_zero_le rA
     rw[Int.toNat_natCast]at hR
     refine Qs ?_
     refine Cp [bG A,bB 4,bG B,bB 6] (v:=w2) (each:=2) u3 (.inl rfl) (by omega) (fun z4 s4 h4 FY Yz=>?_) (fun e s4 h4=>?_)
     ·rw[h4]at hR
      have QX:=tu h4
      simp only[DP.run]at hR
      have VR:=FY.ol
      have V3:=FY.ll
      refine Qs ?_
      refine And.intro (fun Gu=>?_) (fun Gu=>?_)
      ·have P6:(s4.out.length:Int)<1+z4:=by simpa using Gu
       rw[if_pos P6]at hR
       refine Qs ?_
       refine bX (fun h=>absurd h (by decide)) (fun _=>?_)
       exact h1 70 _ _ _ hR.symm
      have P6:¬(s4.out.length:Int)<1+z4:=by simpa using Gu
      rw[if_neg P6,DP.run_bind]at hR
      obtain⟨D,hD⟩:∃D,(1+z4).toNat=D:=⟨_,rfl⟩
      have WH:1+z4=(D:Int):=by omega
      rw[hD]at hR
      obtain⟨n,hn⟩:∃n,(3+z2).toNat=n:=⟨_,rfl⟩
      have Nx:3+z2=(n:Int):=by omega
      have QZ:3≤n:=by omega
      rw[hn]at hR
      obtain⟨R2,y7⟩:∃R2,(ly D n).run (unpack xs) lim s4=R2:=⟨_,rfl⟩
      rw[y7]at hR
      have Gm:s4.out=s.out:=by rw[QX,Gn,G3,ho]
      rw[WH]
      refine Qs ?_
      refine WO.go (σ:=Nat×Nat×Nat×DS) (fun(j,g,c,s')=>gX xs lim c s'∧(∀x∈s'.out,0≤x∧x<256)∧j≤n∧s'.out.length=s4.out.length+j∧(ly D (n-j)).run (unpack xs) lim s'=R2) (fun(j,_)=>n-j)
       (fun(j,_)=>[(0,.ptr 0 0 0),(1,.ptr 5 0 0),(2,.ptr 7 0 0),(8,.int .i64 (D:Int)),(51,.int .i64 (n:Int)),(52,.int .i64 (j:Int))]) (fun(j,g,c,s)=>JW lim gb cb xs A B g c s) (0,g,c,s4) ag mixed (by kernel_rfl) ⟨FY,by rw[Gm];exact hb,Nat.zero_le _,rfl,y7⟩ (And.intro rfl (And.intro rfl (And.intro rfl (And.intro rfl (And.intro (congrArg (AV.int .i64) Nx) (And.intro rfl trivial)))))) (aI rfl (aI rfl (aI rfl (aI rfl (aI rfl (aI rfl (aI rfl (aI rfl (trivial))))))))) (fun _=>rfl) (fun _=>rfl) (fun _=>Bn) ?_
      rintro⟨j,g5,c5,s5⟩ ⟨H0,Qo,hj,PM,uk⟩ d5
      have PU:=H0.ol
      refine Qs ?_
      refine And.intro (fun Gt=>?_) (fun Gt=>?_)
      ·have Y9:j<n:=by simp only[decide_eq_true_eq]at Gt;omega
       have ZI:1≤D∧D≤s5.out.length:=by omega
       have e6:((s5.out.length:Int)-(D:Int)).toNat+0=s5.out.length-D:=by omega
       obtain⟨y,hy⟩:∃y,s5.out.getD (s5.out.length-D) 0=y:=⟨_,rfl⟩
       have p3:0≤y∧y<256:=by
        rw[←hy,List.getD_eq_getElem?_getD,List.getElem?_eq_getElem (by omega),Option.getD_some]
        exact Qo _ (List.getElem_mem _)
       rw[show n-j=n-(j+1)+1 by omega]at uk
       simp only[ly,DP.run,hy]at uk
       rw[if_neg (by omega)]at uk
       refine Qs ?_
       rw[e6,hy]
       refine sv [bG A,bB 4,bG B,bB 6] H0 p3 (fun g7 c7 jf Vh=>?_) (fun jf=>?_)
       ·rw[if_neg jf]at uk
        have SX:∀x∈s5.out++[y],0≤x∧x<256:=by
         intro x hx
         rcases List.mem_append.1 hx with hx|hx
         ·exact Qo x hx
         ·rw[List.mem_singleton.1 hx];exact p3
        refine Qs ?_
        refine RO.same (j+1,g7,c7,{s5 with out:=s5.out++[y]}) ⟨Vh,SX,by omega,by show(s5.out++[y]).length=_;rw[List.length_append,List.length_singleton];omega,uk⟩ (show n-(j+1)<n-j by omega) (aI rfl (aI rfl (aI rfl (aI rfl (aI rfl (aI rfl (trivial))))))) (aI rfl (aI rfl (aI rfl (aI rfl (aI rfl (aI rfl (aI rfl (aI rfl (trivial)))))))))
       ·rw[if_pos jf]at uk
        rw[←uk]at hR
        exact h1 81 _ _ _ hR.symm
      ·obtain rfl:j=n:=by simp only[decide_eq_false_iff_not]at Gt;omega
       rw[Nat.sub_self]at uk
       simp only[ly,DP.run]at uk
       rw[←uk]at hR
       simp only at hR
       refine Qs ?_
       refine RO.same (f,g5,c5,s5) ⟨H0,Qo,by show lim<f+s5.out.length;rw[PM,Gm];omega,hR⟩ (by show lim-s5.out.length<lim-s.out.length;rw[PM,Gm];rw[PM,Gm]at PU;omega) (aI rfl (aI rfl (aI rfl (trivial)))) (aI rfl (aI rfl (aI rfl (aI rfl (aI rfl (aI rfl (aI rfl (aI rfl (trivial)))))))))
     ·rw[h4]at hR
      exact h1 e _ _ _ hR.symm
    ·rw[h3]at hR
     exact h1 e _ _ _ hR.symm
   ·rw[h2]at hR
    exact h1 e _ _ _ hR.symm
  ·have hm:¬v<285:=by simpa using hc
   rw[if_neg hm,DP.run_bind]at hR
   simp only[DP.run]at hR
   rw[DP.run_bind]at hR
   refine Qs ?_
   refine mW [bG A,bB 4,bG B,bB 6] 2 rfl rfl FZ hB rfl (fun v2 s3 h3 u3=>?_) (fun e s3 h3=>?_)
   ·rw[h3]at hR
    simp only at hR
    have rA:=(sb U6 h3).1
    have Gn:=po h3
    refine Qs ?_
    refine And.intro (fun At=>?_) (fun At=>?_)
    ·have kv:(29:Int)<v2:=by simpa using At
     rw[if_pos kv]at hR
     refine Qs ?_
     refine bX (fun h=>absurd h (by decide)) (fun _=>?_)
     exact h1 80 _ _ _ hR.symm
    have kv:¬(29:Int)<v2:=by simpa using At
    rw[if_neg kv,DP.run_bind]at hR
    obtain⟨w2,rfl⟩:=Int.eq_ofNat_of_zero_le rA
    rw[Int.toNat_natCast]at hR
    refine Qs ?_
    refine Cp [bG A,bB 4,bG B,bB 6] (v:=w2) (each:=2) u3 (.inl rfl) (by omega) (fun z4 s4 h4 FY Yz=>?_) (fun e s4 h4=>?_)
    ·rw[h4]at hR
     have QX:=tu h4
     simp only[DP.run]at hR
     have VR:=FY.ol
     have V3:=FY.ll
     refine Qs ?_
     refine And.intro (fun Gu=>?_) (fun Gu=>?_)
     ·have P6:(s4.out.length:Int)<1+z4:=by simpa using Gu
      rw[if_pos P6]at hR
      refine Qs ?_
      refine bX (fun h=>absurd h (by decide)) (fun _=>?_)
      exact h1 70 _ _ _ hR.symm
     have P6:¬(s4.out.length:Int)<1+z4:=by simpa using Gu
     rw[if_neg P6,DP.run_bind]at hR
     obtain⟨D,hD⟩:∃D,(1+z4).toNat=D:=⟨_,rfl⟩
     have WH:1+z4=(D:Int):=by omega
     rw[hD]at hR
     obtain⟨n,hn⟩:∃n,((258:Int)).toNat=n:=⟨_,rfl⟩
     have Nx:(258:Int)=(n:Int):=by omega
     have QZ:3≤n:=by omega
     rw[hn]at hR
     obtain⟨R2,y7⟩:∃R2,(ly D n).run (unpack xs) lim s4=R2:=⟨_,rfl⟩
     rw[y7]at hR
     have Gm:s4.out=s.out:=by rw[QX,Gn,ho]
     rw[WH]
     refine Qs ?_
     refine WO.go (σ:=Nat×Nat×Nat×DS) (fun(j,g,c,s')=>gX xs lim c s'∧(∀x∈s'.out,0≤x∧x<256)∧j≤n∧s'.out.length=s4.out.length+j∧(ly D (n-j)).run (unpack xs) lim s'=R2) (fun(j,_)=>n-j)
      (fun(j,_)=>[(0,.ptr 0 0 0),(1,.ptr 5 0 0),(2,.ptr 7 0 0),(8,.int .i64 (D:Int)),(51,.int .i64 (n:Int)),(52,.int .i64 (j:Int))]) (fun(j,g,c,s)=>JW lim gb cb xs A B g c s) (0,g,c,s4) ag mixed (by kernel_rfl) ⟨FY,by rw[Gm];exact hb,Nat.zero_le _,rfl,y7⟩ (And.intro rfl (And.intro rfl (And.intro rfl (And.intro rfl (And.intro (congrArg (AV.int .i64) Nx) (And.intro rfl trivial)))))) (aI rfl (aI rfl (aI rfl (aI rfl (aI rfl (aI rfl (aI rfl (aI rfl (trivial))))))))) (fun _=>rfl) (fun _=>rfl) (fun _=>Bn) ?_
     rintro⟨j,g5,c5,s5⟩ ⟨H0,Qo,hj,PM,uk⟩ d5
     have PU:=H0.ol
     refine Qs ?_
     refine And.intro (fun Gt=>?_) (fun Gt=>?_)
     ·have Y9:j<n:=by simp only[decide_eq_true_eq]at Gt;omega
      have ZI:1≤D∧D≤s5.out.length:=by omega
      have e6:((s5.out.length:Int)-(D:Int)).toNat+0=s5.out.length-D:=by omega
      obtain⟨y,hy⟩:∃y,s5.out.getD (s5.out.length-D) 0=y:=⟨_,rfl⟩
      have p3:0≤y∧y<256:=by
       rw[←hy,List.getD_eq_getElem?_getD,List.getElem?_eq_getElem (by omega),Option.getD_some]
       exact Qo _ (List.getElem_mem _)
      rw[show n-j=n-(j+1)+1 by omega]at uk
      simp only[ly,DP.run,hy]at uk
      rw[if_neg (by omega)]at uk
      refine Qs ?_
      rw[e6,hy]
      refine sv [bG A,bB 4,bG B,bB 6] H0 p3 (fun g7 c7 jf Vh=>?_) (fun jf=>?_)
      ·rw[if_neg jf]at uk
       have SX:∀x∈s5.out++[y],0≤x∧x<256:=by
        intro x hx
        rcases List.mem_append.1 hx with hx|hx
        ·exact Qo x hx
        ·rw[List.mem_singleton.1 hx];exact p3
       refine Qs ?_
       refine RO.same (j+1,g7,c7,{s5 with out:=s5.out++[y]}) ⟨Vh,SX,by omega,by show(s5.out++[y]).length=_;rw[List.length_append,List.length_singleton];omega,uk⟩ (show n-(j+1)<n-j by omega) (aI rfl (aI rfl (aI rfl (aI rfl (aI rfl (aI rfl (trivial))))))) (aI rfl (aI rfl (aI rfl (aI rfl (aI rfl (aI rfl (aI rfl (aI rfl (trivial)))))))))
      ·rw[if_pos jf]at uk
       rw[←uk]at hR
       exact h1 81 _ _ _ hR.symm
     ·obtain rfl:j=n:=by simp only[decide_eq_false_iff_not]at Gt;omega
      rw[Nat.sub_self]at uk
      simp only[ly,DP.run]at uk
      rw[←uk]at hR
      simp only at hR
      refine Qs ?_
      refine RO.same (f,g5,c5,s5) ⟨H0,Qo,by show lim<f+s5.out.length;rw[PM,Gm];omega,hR⟩ (by show lim-s5.out.length<lim-s.out.length;rw[PM,Gm];rw[PM,Gm]at PU;omega) (aI rfl (aI rfl (aI rfl (trivial)))) (aI rfl (aI rfl (aI rfl (aI rfl (aI rfl (aI rfl (aI rfl (aI rfl (trivial)))))))))
    ·rw[h4]at hR
     exact h1 e _ _ _ hR.symm
   ·rw[h3]at hR
    exact h1 e _ _ _ hR.symm
 ·rw[h]at hR
  exact h1 e _ _ _ hR.symm
end
end Go.Proofs.Ytibadaomjlkoaaa
open Go.RowKit
namespace Go.Proofs.Ytibadaomjlkoaaa
set_option maxRecDepth 10000
theorem Re {n m:Nat}(hn:n<65536)(hm:m<65536):cf .xor .i64 (n:Int) (m:Int)=65535↔n+m=65535:=by
 have h1:(BitVec.ofInt 64 (n:Int)^^^BitVec.ofInt 64 (m:Int)).toNat=n^^^m:=by
  rw[BitVec.toNat_xor,BitVec.ofInt_natCast,BitVec.ofInt_natCast,BitVec.toNat_ofNat,BitVec.toNat_ofNat,Nat.mod_eq_of_lt (by omega),Nat.mod_eq_of_lt (by omega)]
 have h2:n^^^m<2^16:=Nat.xor_lt_two_pow (n:=16) hn hm
 have h3:cf .xor .i64 (n:Int) (m:Int)=((n^^^m:Nat):Int):=by
  show IntKind.i64.wrap ((BitVec.ofInt 64 (n:Int)^^^BitVec.ofInt 64 (m:Int)).toNat:Int)=_
  rw[h1,ky (by omega)]
 have h4:∀n:Nat,n<65536→n^^^65535=65535-n:=by
  intro n hn
  have:=congrArg BitVec.toNat (BitVec.xor_allOnes (x:=BitVec.ofNat 16 n))
  rw[BitVec.toNat_xor,BitVec.toNat_not,BitVec.toNat_ofNat,BitVec.toNat_allOnes,Nat.mod_eq_of_lt hn]at this
  exact this
 rw[h3]
 constructor
 ·intro h
  have h':n^^^m=65535:=by omega
  have h5:m=n^^^65535:=by rw[←h',←Nat.xor_assoc,Nat.xor_self,Nat.zero_xor]
  rw[h4 n hn]at h5
  omega
 ·intro h
  have h5:m=n^^^65535:=by rw[h4 n hn];omega
  rw[h5,←Nat.xor_assoc,Nat.xor_self,Nat.zero_xor]
  rfl
def zT:Nat→DP Unit
 |0=>.ret ()
 |n+1=>.get 8 fun v=>.yH v (zT n)
def nh:DP Unit:=.align (.get 16 fun n=>.get 16 fun m=>if n+m=65535 then .room n (zT n.toNat)else .fail 80)
section
variable{K Kp:AV→AH→Prop}{xs:List Int}{lim gb cb g c:Nat}{s:DS}
theorem RS (l:List Bool)(n:Nat)(hn:n≤16):∃k:Nat,num (l.take n)=k∧k<2^n:=by
 obtain⟨k,hk⟩:=Int.eq_ofNat_of_zero_le (num_nonneg (l.take n))
 refine⟨k,hk,?_⟩
 have h1:(2:Int)^(l.take n).length≤2^n:=by exact_mod_cast Nat.pow_le_pow_right (by omega) (show(l.take n).length≤n by rw[List.length_take];omega)
 have h2:=gF (l.take n)
 have h3:((2^n:Nat):Int)=2^n:=by push_cast;rfl
 omega
theorem dR (E:AH){n:Nat}{α:Type}{k:Int→DP α}{R:Except Int (α×DS)}(hR:(DP.get n k).run (unpack xs) lim s=R)(ok:gX xs lim c s)(hn:n≤16)
 (h0:∀(v:Nat) s',v<2^n→s'.out=s.out→s'.a=s.a+n→gX xs lim c s'→(k v).run (unpack xs) lim s'=R→K (.int .i64 (v:Int)) (zH lim gb cb xs g c s'++E))
 (h1:R=.error 50→Kp (bj 50) (zH lim gb cb xs g c s++E)):
 aa Try.prog 35 [.ptr 0 0 0,.int .i64 (n:Int)] (zH lim gb cb xs g c s++E) K Kp:=by
 have EI:=bx xs
 simp only[DP.run]at hR
 refine F1 E ok hn (fun h=>?_) (fun h=>?_)
 ·rw[if_pos h]at hR
  obtain⟨v,hv,rA⟩:=RS ((unpack xs).drop s.a) n hn
  rw[hv]at hR⊢
  exact h0 v _ rA rfl rfl ⟨ok.xl,ok.xb,by show s.a+n≤_;omega,ok.ll,ok.ol,ok.oc⟩ hR
 ·rw[if_neg h]at hR
  exact h1 hR.symm
theorem QF (E:AH){v:Int}{α:Type}{k:DP α}{R:Except Int (α×DS)}(hR:(DP.yH v k).run (unpack xs) lim s=R)(ok:gX xs lim c s)(hb:∀x∈s.out,0≤x∧x<256)(hv:0≤v∧v<256)
 (h0:∀g' c' s',s'.out=s.out++[v]→s'.a=s.a→(∀x∈s'.out,0≤x∧x<256)→gX xs lim c' s'→k.run (unpack xs) lim s'=R→K (.aL []) (zH lim gb cb xs g' c' s'++E))
 (h1:R=.error 81→Kp (bj 81) (zH lim gb cb xs g c s++E)):
 aa Try.prog 61 [.ptr 0 0 0,.int .u8 v] (zH lim gb cb xs g c s++E) K Kp:=by
 simp only[DP.run]at hR
 refine sv E ok hv (fun g' c' h Vi=>?_) (fun h=>?_)
 ·rw[if_neg h]at hR
  refine h0 g' c' _ rfl rfl (fun x hx=>?_) Vi hR
  rcases List.mem_append.1 hx with hx|hx
  ·exact hb x hx
  ·rw[List.mem_singleton.1 hx];exact hv
 ·rw[if_pos h]at hR
  exact h1 hR.symm
theorem zp (ok:gX xs lim c s)(hb:∀x∈s.out,0≤x∧x<256){R:Except Int (Unit×DS)}(hR:nh.run (unpack xs) lim s=R)
 (h0:∀g' c' s',R=.ok ((),s')→gX xs lim c' s'→(∀x∈s'.out,0≤x∧x<256)→K (.aL []) (zH lim gb cb xs g' c' s'))
 (h1:∀e g' c' s',R=.error e→Kp (bj e) (zH lim gb cb xs g' c' s')):
 aa Try.prog 31 [.ptr 0 0 0] (zH lim gb cb xs g c s) K Kp:=by
 have EI:=bx xs
 have EH:=ok.xl
 have X7:=ok.al
 have IK:=ok.ol
 have IQ:=ok.ll
 unfold nh at hR
 rw[DP.run]at hR
 obtain⟨s1,gp⟩:∃s1:DS,{s with a:=(s.a+7)/8*8}=s1:=⟨_,rfl⟩
 have VF:s1.a=(s.a+7)/8*8:=by rw[←gp]
 have Sg:s1.out=s.out:=by rw[←gp]
 have FZ:gX xs lim c s1:=by rw[←gp];exact⟨ok.xl,ok.xb,by show(s.a+7)/8*8≤_;omega,ok.ll,ok.ol,ok.oc⟩
 rw[gp]at hR
 refine OW (fun _=>[0]) [] rfl ?_
 refine Qs ?_
 refine FR (i:=1) (j:=2) (xs:=xs) (a:=s.a) rfl rfl rfl (by omega) ok.al ?_
 rw[←VF,←Sg]
 refine Qs ?_
 refine dR [] (n:=16) hR FZ (by omega) (fun n s2 hn G3 uj qz hR=>?_) (fun h=>h1 50 _ _ _ h)
 refine Qs ?_
 refine dR [] (n:=16) hR qz (by omega) (fun m s3 hm Gn Mz u3 hR=>?_) (fun h=>h1 50 _ _ _ h)
 have hx:=Re hn hm
 refine Qs ?_
 refine And.intro (fun hc=>?_) (fun hc=>?_)
 ·have eK:¬n+m=65535:=fun e=>by rw[hx.2 e]at hc;simp at hc
  rw[if_neg (by omega)]at hR
  refine Qs ?_
  refine bX (fun h=>absurd h (by decide)) (fun _=>?_)
  exact h1 80 _ _ _ hR.symm
 have he:n+m=65535:=by
  refine hx.1 ?_
  simpa using hc
 rw[if_pos (by omega),Int.toNat_natCast]at hR
 have YV:=u3.ol
 rw[DP.run]at hR
 refine Qs ?_
 refine And.intro (fun hc=>?_) (fun hc=>?_)
 ·have hg:(lim:Int)-s3.out.length<n:=by simpa using hc
  rw[if_pos hg]at hR
  refine Qs ?_
  refine bX (fun h=>absurd h (by decide)) (fun _=>?_)
  exact h1 81 _ _ _ hR.symm
 have hg:¬(lim:Int)-s3.out.length<n:=by simpa using hc
 rw[if_neg hg]at hR
 have EU:∀x∈s3.out,0≤x∧x<256:=by rw[Gn,G3,Sg];exact hb
 refine Qs ?_
 refine WO.go (σ:=Nat×Nat×Nat×DS) (fun(j,g,c,s)=>gX xs lim c s∧(∀x∈s.out,0≤x∧x<256)∧j≤n∧(zT (n-j)).run (unpack xs) lim s=R) (fun(j,_)=>n-j)
  (fun(j,_)=>[(0,.ptr 0 0 0),(33,.int .i64 (n:Int)),(34,.int .i64 (j:Int))]) (fun(j,g,c,s)=>zH lim gb cb xs g c s) (0,g,c,s3) ag mixed (by kernel_rfl) ⟨u3,EU,Nat.zero_le _,hR⟩ (aI rfl (aI rfl (aI rfl (trivial)))) (aI rfl (aI rfl (aI rfl (aI rfl (trivial))))) (fun _=>rfl) (fun _=>rfl) (fun _=>fh) ?_
 rintro⟨j,g,c,s4⟩ ⟨FY,X6,hj,hR⟩ d0
 refine Qs ?_
 refine And.intro (fun hc=>?_) (fun hc=>?_)
 ·have SG:j<n:=by simp only[decide_eq_true_eq]at hc;omega
  rw[show n-j=n-(j+1)+1 by omega,zT]at hR
  refine Qs ?_
  refine dR [] (n:=8) hR FY (by omega) (fun v s5 hv Gm ZA H0 hR=>?_) (fun h=>h1 50 _ _ _ h)
  have rA:(v:Int)%256=v:=by omega
  refine Qs ?_
  rw[rA]
  refine QF [] hR H0 (by rw[Gm];exact X6) (by omega) (fun g6 c6 s6 XO ha6 UW QP hR=>?_) (fun h=>h1 81 _ _ _ h)
  refine Qs ?_
  refine RO.same (j+1,g6,c6,s6) ⟨QP,UW,SG,hR⟩ (show n-(j+1)<n-j by omega) (aI rfl (aI rfl (aI rfl (trivial)))) (aI rfl (aI rfl (aI rfl (aI rfl (trivial)))))
 ·obtain rfl:j=n:=by simp only[decide_eq_false_iff_not]at hc;omega
  rw[Nat.sub_self,zT,DP.run]at hR
  have hK:=h0 g c s4 hR.symm FY X6
  refine Qs ?_
  exact hK
end
end Go.Proofs.Ytibadaomjlkoaaa
open Go.RowKit
namespace Go.Proofs.Ytibadaomjlkoaaa
set_option maxRecDepth 10000
def nZ (T:List ((Int×Int)×Int))(n:Nat):Nat→List Int→DP (List Int)
 |0,l=>.ret l
 |f+1,l=>if n≤l.length then .ret l else(rP T).bind fun v=>if v<16 then nZ T n f (l++[v])else
   (if v=16 then(if l=[]then .fail 80 else .get 2 fun k=>.ret (l.getD (l.length-1) 0,3+k))else if v=17 then .get 3 fun k=>.ret (0,3+k)else .get 7 fun k=>.ret (0,11+k):DP (Int×Int)).bind fun r=>
    if(n:Int)-l.length<r.2 then .fail 80 else nZ T n f (l++List.replicate r.2.toNat r.1)
section
variable{K Kp:AV→AH→Prop}{xs:List Int}{lim gb cb g c:Nat}{s:DS}
theorem Hm (E:AH)(i:Nat){es:List ((Int×Int)×Int)}{N:Int}{α:Type}{k:Int→DP α}{R:Except Int (α×DS)}(hR:((rP es).bind k).run (unpack xs) lim s=R)(J2:E[i]?=some (bG es))(EP:E[i+1]?=some (bB (i+4)))(ok:gX xs lim c s)(lM:fw es)(hN:lx N es)
 (o9:(bE [.own 0,.own 1,.own 2,.own 3,.own (i+4),.own (i+5)]&&AV.o8 [.own 0,.own 1,.own 2,.own 3,.own (i+4),.own (i+5)] [.ptr 0 0 0,.ptr 5 0 0])=true)
 (h0:∀v s',0≤v→v<N→s'.out=s.out→gX xs lim c s'→(k v).run (unpack xs) lim s'=R→K (.int .i64 v) (zH lim gb cb xs g c s'++E))
 (h1:∀e s',R=.error e→Kp (bj e) (zH lim gb cb xs g c s'++E)):
 aa Try.prog 86 [.ptr 0 0 0,.ptr (i+5) 0 0] (zH lim gb cb xs g c s++E) K Kp:=by
 rw[DP.run_bind]at hR
 refine mW E i J2 EP ok lM o9 (fun v s' h Vi=>?_) (fun e s' h=>?_)
 ·rw[h]at hR
  obtain⟨b1,b2⟩:=sb hN h
  exact h0 v s' b1 b2 (po h) Vi hR
 ·rw[h]at hR
  exact h1 e s' hR.symm
def Ff (lim gb cb:Nat)(xs:List Int)(T:List ((Int×Int)×Int))(g c:Nat)(s:DS):AH:=zH lim gb cb xs g c s++[bG T,bB 4]
def QM (lim gb cb:Nat)(xs:List Int)(T:List ((Int×Int)×Int))(g c:Nat)(s:DS)(gl cl:Nat)(l:List Int):AH:=zH lim gb cb xs g c s++[bG T,bB 4,.one true gl (.ints .u8 l cl)]
theorem lT {T:List ((Int×Int)×Int)}:lQ 6 (Ff lim gb cb xs T g c s):=⟨by simp[ae.nb,AV.rW,AV.nb,AO.nb],rfl,trivial,trivial,lA _ (.pair .i64 .i64) _,rfl,trivial⟩
theorem G8 {T:List ((Int×Int)×Int)}{gl cl:Nat}{l:List Int}:lQ 7 (QM lim gb cb xs T g c s gl cl l):=⟨by simp[ae.nb,AV.rW,AV.nb,AO.nb],rfl,trivial,trivial,lA _ (.pair .i64 .i64) _,rfl,trivial,trivial⟩
theorem u9 {T:List ((Int×Int)×Int)}{n f0:Nat}(ok:gX xs lim c s)(hT:fw T)(hN:lx 19 T)(hn:1≤n∧n≤400)(hf:n<f0){R:Except Int (List Int×DS)}(hR:(nZ T n f0 []).run (unpack xs) lim s=R)
 (h0:∀gl cl l s',R=.ok (l,s')→s'.out=s.out→gX xs lim c s'→l.length=n→(∀x∈l,0≤x∧x<256)→l.length≤cl→K (.sl 6 gl 0 l.length cl) (QM lim gb cb xs T g c s' gl cl l))
 (h1:∀e s',R=.error e→Kp (bj e) (Ff lim gb cb xs T g c s')):
 aa Try.prog 64 [.ptr 0 0 0,.ptr 5 0 0,.int .i64 (n:Int)] (Ff lim gb cb xs T g c s) K Kp:=by
 refine aa.qu ?_
 refine OE (fun _=>[7]) [] rfl ?_
 refine Qs ?_
 refine WO.MD (σ:=Nat×DS×Nat×Nat×List Int) (fun(f,s',gl,cl,l)=>s'.out=s.out∧gX xs lim c s'∧l.length≤n∧l.length≤cl∧(∀x∈l,0≤x∧x<256)∧n<f+l.length∧(nZ T n f l).run (unpack xs) lim s'=R) (fun(f,s',gl,cl,l)=>n-l.length)
  (fun(f,s',gl,cl,l)=>[(0,.ptr 0 0 0),(1,.ptr 5 0 0),(2,.int .i64 (n:Int)),(7,.sl 6 gl 0 l.length cl)]) (fun(f,s',gl,cl,l)=>QM lim gb cb xs T g c s' gl cl l) (f0,s,0,0,[]) ag mixed (by kernel_rfl)
  [(0,.ptr 0 0 0),(1,.ptr 5 0 0),(2,.int .i64 (n:Int)),(7,.ns)] _ ⟨rfl,ok,Nat.zero_le _,Nat.zero_le _,fun x hx=>(by cases hx),by omega,hR⟩ (aI rfl (aI rfl (aI rfl (aI rfl (trivial))))) rfl
  (Vw.z6 (x:=.ints .u8 [] 0) ⟨rfl,rfl⟩ (And.intro (.inl rfl) (And.intro (.inl rfl) (And.intro (.inl rfl) (And.intro (.inr ⟨rfl,rfl⟩) trivial))))) (aI rfl (aI rfl (aI rfl (aI rfl (aI rfl (aI rfl (aI rfl (trivial)))))))) (fun _=>rfl) (fun _=>rfl) (fun _=>G8) ?_
 rintro⟨f,s1,gl,cl,l⟩ ⟨ho,FZ,hl,ES,hb,hf,hR⟩ d0
 obtain⟨f,rfl⟩:∃f',f=f'+1:=⟨f-1,by omega⟩
 rw[nZ]at hR
 refine Qs ?_
 refine And.intro (fun hc=>?_) (fun hc=>?_)
 ·have a8:¬n≤l.length:=by simp only[decide_eq_true_eq]at hc;omega
  rw[if_neg a8]at hR
  refine Qs ?_
  refine Hm [bG T,bB 4,.one true gl (.ints .u8 l cl)] 0 hR rfl rfl FZ hT hN rfl (fun v s2 hv rA G3 qz hR=>?_) (fun e s' h=>?_)
  ·refine Qs ?_
   refine And.intro (fun hc=>?_) (fun hc=>?_)
   ·have WM:v<16:=by simpa using hc
    rw[if_pos WM]at hR
    have e1:v%256=v:=by omega
    refine Qs ?_
    rw[e1]
    refine Qs ?_
    intro zs fc
    obtain rfl:zs=[v]:=by rw[fc];rfl
    refine Qs ?_
    intro c4 y6
    have qR:l.length+1≤c4:=y6
    have gS:∀x∈l++[v],0≤x∧x<256:=by
     intro x hx
     rcases List.mem_append.1 hx with hx|hx
     ·exact hb x hx
     ·rw[List.mem_singleton.1 hx];omega
    have oO:(l++[v]).length=l.length+1:=by rw[List.length_append];rfl
    refine Qs ?_
    refine RO.same (f,s2,gl+1,c4,l++[v]) ⟨by rw[G3,ho],qz,by rw[oO];omega,by rw[oO];exact qR,gS,by rw[oO];omega,hR⟩ (show n-(l++[v]).length<n-l.length by rw[oO];omega) (And.intro rfl (And.intro rfl (And.intro rfl (And.intro ?_ trivial)))) (aI rfl (aI rfl (aI rfl (aI rfl (aI rfl (aI rfl (aI rfl (trivial))))))))
    show AV.sl 6 (gl+1) 0 (l.length+1) c4=AV.sl 6 (gl+1) 0 (l++[v]).length c4
    rw[oO]
   have WM:¬v<16:=by simpa using hc
   rw[if_neg WM]at hR
   obtain rfl|rfl|rfl:v=16∨v=17∨v=18:=by omega
   ·rw[if_pos rfl]at hR
    refine Qs ?_
    refine And.intro (fun hc=>?_) (fun hc=>?_)
    ·have he:l=[]:=by simpa using hc
     rw[if_pos he]at hR
     refine Qs ?_
     refine bX (fun h=>absurd h (by decide)) (fun _=>?_)
     exact Exists.intro (Ff lim gb cb xs T g c s2) (And.intro (aI rfl (aI rfl (aI rfl (aI rfl (aI rfl (aI rfl (trivial))))))) (And.intro lT (And.intro rfl (h1 80 s2 hR.symm))))
    have he:¬l=[]:=by simpa using hc
    have hlp:1≤l.length:=by cases l with|nil=>exact absurd rfl he|cons x l=>simp
    rw[if_neg he]at hR
    obtain⟨y,hy⟩:∃y,l.getD (l.length-1) 0=y:=⟨_,rfl⟩
    have p3:0≤y∧y<256:=by
     rw[←hy,List.getD_eq_getElem?_getD,List.getElem?_eq_getElem (by omega),Option.getD_some]
     exact hb _ (List.getElem_mem _)
    have e6:((l.length:Int)-1).toNat+0=l.length-1:=by omega
    rw[hy]at hR
    refine Qs ?_
    rw[e6,hy]
    refine dR [bG T,bB 4,.one true gl (.ints .u8 l cl),.one true 0 (.cells [.int .i64 2,.int .i64 3])] (n:=2) hR qz (by omega) (fun v s3 XE Gn Mz u3 hR=>?_) (fun h=>Exists.intro (Ff lim gb cb xs T g c s2) (And.intro (aI rfl (aI rfl (aI rfl (aI rfl (aI rfl (aI rfl (trivial))))))) (And.intro lT (And.intro rfl (h1 50 s2 h)))))
    rw[DP.bind]at hR
    simp only at hR
    refine Qs ?_
    refine And.intro (fun hc=>?_) (fun hc=>?_)
    ·have hg:(n:Int)-l.length<3+v:=by simpa using hc
     rw[if_pos hg]at hR
     refine Qs ?_
     refine bX (fun h=>absurd h (by decide)) (fun _=>?_)
     exact Exists.intro (Ff lim gb cb xs T g c s3) (And.intro (aI rfl (aI rfl (aI rfl (aI rfl (aI rfl (aI rfl (trivial))))))) (And.intro lT (And.intro rfl (h1 80 s3 hR.symm))))
    have hg:¬(n:Int)-l.length<3+v:=by simpa using hc
    obtain⟨k,hk⟩:∃k:Nat,3+(v:Int)=(k:Int):=⟨3+v,by push_cast;rfl⟩
    rw[if_neg hg,hk,Int.toNat_natCast]at hR
    have Mr:1≤k∧k≤65536:=by omega
    refine Qs ?_
    rw[hk]
    refine bS (i:=8) rfl Mr p3 ?_
    refine Qs ?_
    intro zs fc
    obtain rfl:zs=List.replicate k y:=by rw[fc];simp
    have J1:(List.replicate k y).length=k:=List.length_replicate ..
    refine Qs ?_
    intro c4 y6
    have qR:l.length+k≤c4:=y6
    have gS:∀x∈l++List.replicate k y,0≤x∧x<256:=by
     intro x hx
     rcases List.mem_append.1 hx with hx|hx
     ·exact hb x hx
     ·rw[List.eq_of_mem_replicate hx];exact p3
    have oO:(l++List.replicate k y).length=l.length+k:=by rw[List.length_append,List.length_replicate]
    refine Qs ?_
    refine RO.same (f,s3,gl+1,c4,l++List.replicate k y) ⟨by rw[Gn,G3,ho],u3,by rw[oO];omega,by rw[oO];exact qR,gS,by rw[oO];omega,hR⟩ (show n-(l++List.replicate k y).length<n-l.length by rw[oO];omega) (And.intro rfl (And.intro rfl (And.intro rfl (And.intro ?_ trivial)))) (aI rfl (aI rfl (aI rfl (aI rfl (aI rfl (aI rfl (aI rfl (trivial))))))))
    show AV.sl 6 (gl+1) 0 (l.length+k) c4=AV.sl 6 (gl+1) 0 (l++List.replicate k y).length c4
    rw[oO]
   ·rw[if_neg (by decide),if_pos rfl]at hR
    refine Qs ?_
    refine dR [bG T,bB 4,.one true gl (.ints .u8 l cl),.one true 0 (.cells [.int .i64 3,.int .i64 3])] (n:=3) hR qz (by omega) (fun v s3 XE Gn Mz u3 hR=>?_) (fun h=>Exists.intro (Ff lim gb cb xs T g c s2) (And.intro (aI rfl (aI rfl (aI rfl (aI rfl (aI rfl (aI rfl (trivial))))))) (And.intro lT (And.intro rfl (h1 50 s2 h)))))
    rw[DP.bind]at hR
    simp only at hR
    refine Qs ?_
    refine And.intro (fun hc=>?_) (fun hc=>?_)
    ·have hg:(n:Int)-l.length<3+v:=by simpa using hc
     rw[if_pos hg]at hR
     refine Qs ?_
     refine bX (fun h=>absurd h (by decide)) (fun _=>?_)
     exact Exists.intro (Ff lim gb cb xs T g c s3) (And.intro (aI rfl (aI rfl (aI rfl (aI rfl (aI rfl (aI rfl (trivial))))))) (And.intro lT (And.intro rfl (h1 80 s3 hR.symm))))
    have hg:¬(n:Int)-l.length<3+v:=by simpa using hc
    obtain⟨k,hk⟩:∃k:Nat,3+(v:Int)=(k:Int):=⟨3+v,by push_cast;rfl⟩
    rw[if_neg hg,hk,Int.toNat_natCast]at hR
    have Mr:1≤k∧k≤65536:=by omega
    refine Qs ?_
    rw[hk]
    refine bS (i:=8) rfl Mr (by decide) ?_
    refine Qs ?_
    intro zs fc
    obtain rfl:zs=List.replicate k (0:Int):=by rw[fc];simp
    have J1:(List.replicate k (0:Int)).length=k:=List.length_replicate ..
    refine Qs ?_
    intro c4 y6
    have qR:l.length+k≤c4:=y6
    have gS:∀x∈l++List.replicate k (0:Int),0≤x∧x<256:=by
     intro x hx
     rcases List.mem_append.1 hx with hx|hx
     ·exact hb x hx
     ·rw[List.eq_of_mem_replicate hx];exact(by decide)
    have oO:(l++List.replicate k (0:Int)).length=l.length+k:=by rw[List.length_append,List.length_replicate]
    refine Qs ?_
    refine RO.same (f,s3,gl+1,c4,l++List.replicate k (0:Int)) ⟨by rw[Gn,G3,ho],u3,by rw[oO];omega,by rw[oO];exact qR,gS,by rw[oO];omega,hR⟩ (show n-(l++List.replicate k (0:Int)).length<n-l.length by rw[oO];omega) (And.intro rfl (And.intro rfl (And.intro rfl (And.intro ?_ trivial)))) (aI rfl (aI rfl (aI rfl (aI rfl (aI rfl (aI rfl (aI rfl (trivial))))))))
    show AV.sl 6 (gl+1) 0 (l.length+k) c4=AV.sl 6 (gl+1) 0 (l++List.replicate k (0:Int)).length c4
    rw[oO]
   ·rw[if_neg (by decide),if_neg (by decide)]at hR
    refine Qs ?_
    refine dR [bG T,bB 4,.one true gl (.ints .u8 l cl),.one true 0 (.cells [.int .i64 7,.int .i64 11])] (n:=7) hR qz (by omega) (fun v s3 XE Gn Mz u3 hR=>?_) (fun h=>Exists.intro (Ff lim gb cb xs T g c s2) (And.intro (aI rfl (aI rfl (aI rfl (aI rfl (aI rfl (aI rfl (trivial))))))) (And.intro lT (And.intro rfl (h1 50 s2 h)))))
    rw[DP.bind]at hR
    simp only at hR
    refine Qs ?_
    refine And.intro (fun hc=>?_) (fun hc=>?_)
    ·have hg:(n:Int)-l.length<11+v:=by simpa using hc
     rw[if_pos hg]at hR
     refine Qs ?_
     refine bX (fun h=>absurd h (by decide)) (fun _=>?_)
     exact Exists.intro (Ff lim gb cb xs T g c s3) (And.intro (aI rfl (aI rfl (aI rfl (aI rfl (aI rfl (aI rfl (trivial))))))) (And.intro lT (And.intro rfl (h1 80 s3 hR.symm))))
    have hg:¬(n:Int)-l.length<11+v:=by simpa using hc
    obtain⟨k,hk⟩:∃k:Nat,11+(v:Int)=(k:Int):=⟨11+v,by push_cast;rfl⟩
    rw[if_neg hg,hk,Int.toNat_natCast]at hR
    have Mr:1≤k∧k≤65536:=by omega
    refine Qs ?_
    rw[hk]
    refine bS (i:=8) rfl Mr (by decide) ?_
    refine Qs ?_
    intro zs fc
    obtain rfl:zs=List.replicate k (0:Int):=by rw[fc];simp
    have J1:(List.replicate k (0:Int)).length=k:=List.length_replicate ..
    refine Qs ?_
    intro c4 y6
    have qR:l.length+k≤c4:=y6
    have gS:∀x∈l++List.replicate k (0:Int),0≤x∧x<256:=by
     intro x hx
     rcases List.mem_append.1 hx with hx|hx
     ·exact hb x hx
     ·rw[List.eq_of_mem_replicate hx];exact(by decide)
    have oO:(l++List.replicate k (0:Int)).length=l.length+k:=by rw[List.length_append,List.length_replicate]
    refine Qs ?_
    refine RO.same (f,s3,gl+1,c4,l++List.replicate k (0:Int)) ⟨by rw[Gn,G3,ho],u3,by rw[oO];omega,by rw[oO];exact qR,gS,by rw[oO];omega,hR⟩ (show n-(l++List.replicate k (0:Int)).length<n-l.length by rw[oO];omega) (And.intro rfl (And.intro rfl (And.intro rfl (And.intro ?_ trivial)))) (aI rfl (aI rfl (aI rfl (aI rfl (aI rfl (aI rfl (aI rfl (trivial))))))))
    show AV.sl 6 (gl+1) 0 (l.length+k) c4=AV.sl 6 (gl+1) 0 (l++List.replicate k (0:Int)).length c4
    rw[oO]
  ·exact Exists.intro (Ff lim gb cb xs T g c s') (And.intro (aI rfl (aI rfl (aI rfl (aI rfl (aI rfl (aI rfl (trivial))))))) (And.intro lT (And.intro rfl (h1 e s' h))))
 ·have IZ:n≤l.length:=by simp only[decide_eq_false_iff_not]at hc;omega
  rw[if_pos IZ,DP.run]at hR
  refine Qs ?_
  exact Exists.intro (QM lim gb cb xs T g c s1 gl cl l) (And.intro (aI rfl (aI rfl (aI rfl (aI rfl (aI rfl (aI rfl (aI rfl (trivial)))))))) (And.intro G8 (And.intro rfl (h0 gl cl l s1 hR.symm ho FZ (by omega) hb ES))))
end
end Go.Proofs.Ytibadaomjlkoaaa
open Go.RowKit
namespace Go.Proofs.Ytibadaomjlkoaaa
set_option maxRecDepth 10000
def bL:List Int:=List.replicate 144 8++List.replicate 112 9++List.replicate 24 7++List.replicate 8 8
def cS:List Int:=List.replicate 32 5
def FU:Nat:=1000001
section
variable{K Kp:AV→AH→Prop}{xs:List Int}{lim gb cb g c:Nat}{s:DS}
theorem F6 (h1:Kp (bj 80) (zH lim gb cb xs g c s)):aa Try.prog 34 [.ptr 0 0 0] (zH lim gb cb xs g c s) K Kp:=by
 refine OT (fun _=>[]) [] rfl ?_
 refine Qs ?_
 refine bX (fun h=>absurd h (by decide)) (fun _=>?_)
 exact h1
def Cn:List (List AV):=[[.int .i64 144,.int .i64 8],[.int .i64 112,.int .i64 9],[.int .i64 24,.int .i64 7],[.int .i64 8,.int .i64 8]]
def WS:List (Nat×Int):=[(144,8),(112,9),(24,7),(8,8)]
def cr (i:Nat):List Int:=(WS.take i).flatMap fun r=>List.replicate r.1 r.2
theorem Jg:cr 4=bL:=by decide+kernel
def Yh (lim gb cb:Nat)(xs:List Int)(g c:Nat)(s:DS)(gl cl:Nat)(l:List Int):AH:=zH lim gb cb xs g c s++[.one true 0 (.cJ 2 4 (fun j=>Cn.getD j []) 4),.one true gl (.ints .u8 l cl)]
theorem MM (k:Nat):(ae.cJ 2 4 (fun j=>Cn.getD j []) 4).nb k:=by
 intro j
 by_cases h:j<4
 ·match j,h with
  |0,_=>rfl
  |1,_=>rfl
  |2,_=>rfl
  |3,_=>rfl
 ·show AV.rW k (Cn.getD j [])=true
  rw[List.getD_eq_getElem?_getD,List.getElem?_eq_none (show Cn.length≤j by show 4≤j;omega)];rfl
theorem QB {gl cl:Nat}{l:List Int}:lQ 6 (Yh lim gb cb xs g c s gl cl l):=⟨by simp[ae.nb,AV.rW,AV.nb,AO.nb],rfl,trivial,trivial,MM _,trivial,trivial⟩
theorem D3 (E:AH)(i j:Nat){A B:List ((Int×Int)×Int)}{N N':Int}{f0:Nat}(J2:E[i]?=some (bG A))(EP:E[i+1]?=some (bB (i+4)))(XX:E[j]?=some (bG B))(Q4:E[j+1]?=some (bB (j+4)))
 (o9:(bE [.own 0,.own 1,.own 2,.own 3,.own (i+4),.own (i+5),.own (j+4),.own (j+5)]&&AV.o8 [.own 0,.own 1,.own 2,.own 3,.own (i+4),.own (i+5),.own (j+4),.own (j+5)] [.ptr 0 0 0,.ptr 5 0 0,.ptr 7 0 0])=true)
 (ok:gX xs lim c s)(hb:∀x∈s.out,0≤x∧x<256)(hA:fw A)(hB:fw B)(WK:lx N A)(U6:lx N' B)(hf:lim<f0+s.out.length){R:Except Int (Unit×DS)}(hR:(js A B f0).run (unpack xs) lim s=R)
 (h0:∀g' c' s',R=.ok ((),s')→gX xs lim c' s'→(∀x∈s'.out,0≤x∧x<256)→K (.aL []) (zH lim gb cb xs g' c' s'++E))
 (h1:∀e g' c' s',R=.error e→Kp (bj e) (zH lim gb cb xs g' c' s'++E)):
 aa Try.prog 62 [.ptr 0 0 0,.ptr (i+5) 0 0,.ptr (j+5) 0 0] (zH lim gb cb xs g c s++E) K Kp:=by
 have key:∀g' c' s',c9 [.own 0,.own 1,.own 2,.own 3,.own (i+4),.own (i+5),.own (j+4),.own (j+5)] (zH lim gb cb xs g c s++E).length [.own 0,.own 1,.own 2,.own 3,.own (i+4),.own (i+5),.own (j+4),.own (j+5)] (JW lim gb cb xs A B g' c' s') (zH lim gb cb xs g c s++E)=zH lim gb cb xs g' c' s'++E:=by
  intro g' c' s'
  show((((zH lim gb cb xs g' c' s'++E).set (i+4) (AO.one true 0 ((ae.map (.pair .i64 .i64) (kW A)).rn [.own 0,.own 1,.own 2,.own 3,.own (i+4),.own (i+5),.own (j+4),.own (j+5)] (zH lim gb cb xs g c s++E).length))).set (i+5) (bB (i+4))).set (j+4) (AO.one true 0 ((ae.map (.pair .i64 .i64) (kW B)).rn [.own 0,.own 1,.own 2,.own 3,.own (i+4),.own (i+5),.own (j+4),.own (j+5)] (zH lim gb cb xs g c s++E).length))).set (j+5) (bB (j+4))++[]=_
  rw[ju,ju,List.append_nil]
  show zH lim gb cb xs g' c' s'++((((E.set i (bG A)).set (i+1) (bB (i+4))).set j (bG B)).set (j+1) (bB (j+4)))=_
  rw[re J2,re EP,re XX,re Q4]
 refine aa.lift [.own 0,.own 1,.own 2,.own 3,.own (i+4),.own (i+5),.own (j+4),.own (j+5)] (Ft (K:=fun r M=>∃g' c' s',r=.aL []∧M=JW lim gb cb xs A B g' c' s'∧K r (zH lim gb cb xs g' c' s'++E)) (Kp:=fun r M=>∃e g' c' s',r=bj e∧M=JW lim gb cb xs A B g' c' s'∧Kp r (zH lim gb cb xs g' c' s'++E)) ok hb hA hB WK U6 hf hR
  (fun g' c' s' h k l=>⟨g',c',s',rfl,rfl,h0 g' c' s' h k l⟩) (fun e g' c' s' h=>⟨e,g',c',s',rfl,rfl,h1 e g' c' s' h⟩)) rfl o9
  ⟨⟨rfl,rfl⟩,⟨rfl,rfl⟩,⟨rfl,rfl⟩,⟨rfl,rfl⟩,⟨?_,rfl⟩,⟨?_,rfl⟩,⟨?_,rfl⟩,⟨?_,rfl⟩,trivial⟩ ⟨rfl,rfl,trivial,trivial,wB _ (.pair .i64 .i64) A,rfl,wB _ (.pair .i64 .i64) B,rfl,trivial⟩ ?_ ?_
 ·show E[i]?=some (AO.one true 0 ((ae.map (.pair .i64 .i64) (kW A)).rn _ _))
  rw[ju];exact J2
 ·exact EP
 ·show E[j]?=some (AO.one true 0 ((ae.map (.pair .i64 .i64) (kW B)).rn _ _))
  rw[ju];exact XX
 ·exact Q4
 ·rintro r M' ⟨g',c',s',rfl,rfl,hk⟩
  refine⟨⟨rfl,rfl,rfl,rfl,rfl,rfl,rfl,rfl,rfl⟩,?_⟩
  rw[key]
  exact hk
 ·rintro r M' ⟨e,g',c',s',rfl,rfl,hk⟩
  refine⟨⟨rfl,rfl,rfl,rfl,rfl,rfl,rfl,rfl,rfl⟩,?_⟩
  rw[key]
  exact hk
theorem Cm (ok:gX xs lim c s)(hb:∀x∈s.out,0≤x∧x<256){R:Except Int (Unit×DS)}(hR:(js (cq (bU bL) []) (cq (bU cS) []) FU).run (unpack xs) lim s=R)
 (h0:∀g' c' s',R=.ok ((),s')→gX xs lim c' s'→(∀x∈s'.out,0≤x∧x<256)→K (.aL []) (zH lim gb cb xs g' c' s'))
 (h1:∀e g' c' s',R=.error e→Kp (bj e) (zH lim gb cb xs g' c' s')):
 aa Try.prog 32 [.ptr 0 0 0] (zH lim gb cb xs g c s) K Kp:=by
 refine aa.qu ?_
 refine OV (fun _=>[]) [] rfl ?_
 refine Qs ?_
 refine WO.MD (σ:=Nat×Nat×Nat) (fun(i,gl,cl)=>i≤4∧(cr i).length≤cl) (fun(i,_)=>4-i) (fun(i,gl,cl)=>[(0,.ptr 0 0 0),(2,.sl 5 gl 0 (cr i).length cl),(9,.sl 4 0 0 4 4),(10,.int .i64 4),(11,.int .i64 (i:Int))])
  (fun(i,gl,cl)=>Yh lim gb cb xs g c s gl cl (cr i)) (0,0,0) ag mixed (by kernel_rfl) [(0,.ptr 0 0 0),(2,.ns),(9,.sl 4 0 0 4 4),(10,.int .i64 4),(11,.int .i64 0)] _ ⟨Nat.zero_le _,Nat.zero_le _⟩ (aI rfl (aI rfl (aI rfl (aI rfl (aI rfl (trivial)))))) rfl
  (Vw.trans (Vw.cJ (i:=4) (fun j=>Cn.getD j []) rfl ?_) (Vw.z6 (x:=.ints .u8 [] 0) ⟨rfl,rfl⟩ (And.intro (.inl rfl) (And.intro (.inr ⟨rfl,rfl⟩) (And.intro (.inl rfl) (And.intro (.inl rfl) (And.intro (.inl rfl) trivial))))))) (aI rfl (aI rfl (aI rfl (aI rfl (aI rfl (aI rfl (trivial))))))) (fun _=>rfl) (fun _=>rfl) (fun _=>QB) ?_
 ·intro r hr
  refine congrArg (fun l=>List.getD l r []) (?_:Cn=_)
  kernel_rfl
 rintro⟨i,gl,cl⟩ ⟨hi,ES⟩ d0
 refine Or.elim (Nat.lt_or_ge i 4) (fun hl=>?_) (fun hl=>?_)
 ·match i,hl with
  |0,_=>
   have hp:cr 1=cr 0++List.replicate 144 8:=by decide+kernel
   have bR:(cr 0).length=0:=by decide+kernel
   have B8:(cr 1).length=0+144:=by decide+kernel
   have Qm:(cr 0).length≤cl:=ES
   have J1:(List.replicate 144 (8:Int)).length=144:=List.length_replicate ..
   refine Qs ?_
   refine bS (i:=7) (k:=144) (v:=8) rfl (by omega) (by omega) ?_
   refine Qs ?_
   intro zs fc
   obtain rfl:zs=List.replicate 144 8:=by rw[fc];rfl
   refine Qs ?_
   intro c4 y6
   have qR:(cr 0).length+144≤c4:=y6
   refine Qs ?_
   refine RO.same (1,gl+1,c4) ⟨by decide,by show(cr 1).length≤c4;omega⟩ (show 4-1<4-0 by decide) (And.intro rfl (And.intro ?_ (aI rfl (aI rfl (aI rfl (trivial)))))) (And.intro rfl (And.intro rfl (And.intro rfl (And.intro rfl (And.intro rfl (And.intro ?_ trivial))))))
   ·show AV.sl 5 (gl+1) 0 ((cr 0).length+144) c4=AV.sl 5 (gl+1) 0 (cr 1).length c4
    rw[B8,bR]
   ·show AO.one true (gl+1) (.ints .u8 (cr 0++List.replicate 144 8) c4)=AO.one true (gl+1) (.ints .u8 (cr 1) c4)
    rw[hp]
  |1,_=>
   have hp:cr 2=cr 1++List.replicate 112 9:=by decide+kernel
   have bR:(cr 1).length=144:=by decide+kernel
   have B8:(cr 2).length=144+112:=by decide+kernel
   have Qm:(cr 1).length≤cl:=ES
   have J1:(List.replicate 112 (9:Int)).length=112:=List.length_replicate ..
   refine Qs ?_
   refine bS (i:=7) (k:=112) (v:=9) rfl (by omega) (by omega) ?_
   refine Qs ?_
   intro zs fc
   obtain rfl:zs=List.replicate 112 9:=by rw[fc];rfl
   refine Qs ?_
   intro c4 y6
   have qR:(cr 1).length+112≤c4:=y6
   refine Qs ?_
   refine RO.same (2,gl+1,c4) ⟨by decide,by show(cr 2).length≤c4;omega⟩ (show 4-2<4-1 by decide) (And.intro rfl (And.intro ?_ (aI rfl (aI rfl (aI rfl (trivial)))))) (And.intro rfl (And.intro rfl (And.intro rfl (And.intro rfl (And.intro rfl (And.intro ?_ trivial))))))
   ·show AV.sl 5 (gl+1) 0 ((cr 1).length+112) c4=AV.sl 5 (gl+1) 0 (cr 2).length c4
    rw[B8,bR]
   ·show AO.one true (gl+1) (.ints .u8 (cr 1++List.replicate 112 9) c4)=AO.one true (gl+1) (.ints .u8 (cr 2) c4)
    rw[hp]
  |2,_=>
   have hp:cr 3=cr 2++List.replicate 24 7:=by decide+kernel
   have bR:(cr 2).length=256:=by decide+kernel
   have B8:(cr 3).length=256+24:=by decide+kernel
   have Qm:(cr 2).length≤cl:=ES
   have J1:(List.replicate 24 (7:Int)).length=24:=List.length_replicate ..
   refine Qs ?_
   refine bS (i:=7) (k:=24) (v:=7) rfl (by omega) (by omega) ?_
   refine Qs ?_
   intro zs fc
   obtain rfl:zs=List.replicate 24 7:=by rw[fc];rfl
   refine Qs ?_
   intro c4 y6
   have qR:(cr 2).length+24≤c4:=y6
   refine Qs ?_
   refine RO.same (3,gl+1,c4) ⟨by decide,by show(cr 3).length≤c4;omega⟩ (show 4-3<4-2 by decide) (And.intro rfl (And.intro ?_ (aI rfl (aI rfl (aI rfl (trivial)))))) (And.intro rfl (And.intro rfl (And.intro rfl (And.intro rfl (And.intro rfl (And.intro ?_ trivial))))))
   ·show AV.sl 5 (gl+1) 0 ((cr 2).length+24) c4=AV.sl 5 (gl+1) 0 (cr 3).length c4
    rw[B8,bR]
   ·show AO.one true (gl+1) (.ints .u8 (cr 2++List.replicate 24 7) c4)=AO.one true (gl+1) (.ints .u8 (cr 3) c4)
    rw[hp]
  |3,_=>
   have hp:cr 4=cr 3++List.replicate 8 8:=by decide+kernel
   have bR:(cr 3).length=280:=by decide+kernel
   have B8:(cr 4).length=280+8:=by decide+kernel
   have Qm:(cr 3).length≤cl:=ES
   have J1:(List.replicate 8 (8:Int)).length=8:=List.length_replicate ..
   refine Qs ?_
   refine bS (i:=7) (k:=8) (v:=8) rfl (by omega) (by omega) ?_
   refine Qs ?_
   intro zs fc
   obtain rfl:zs=List.replicate 8 8:=by rw[fc];rfl
   refine Qs ?_
   intro c4 y6
   have qR:(cr 3).length+8≤c4:=y6
   refine Qs ?_
   refine RO.same (4,gl+1,c4) ⟨by decide,by show(cr 4).length≤c4;omega⟩ (show 4-4<4-3 by decide) (And.intro rfl (And.intro ?_ (aI rfl (aI rfl (aI rfl (trivial)))))) (And.intro rfl (And.intro rfl (And.intro rfl (And.intro rfl (And.intro rfl (And.intro ?_ trivial))))))
   ·show AV.sl 5 (gl+1) 0 ((cr 3).length+8) c4=AV.sl 5 (gl+1) 0 (cr 4).length c4
    rw[B8,bR]
   ·show AO.one true (gl+1) (.ints .u8 (cr 3++List.replicate 8 8) c4)=AO.one true (gl+1) (.ints .u8 (cr 4) c4)
    rw[hp]
 ·obtain rfl:i=4:=by omega
  simp only[Jg]at ES
  have WI:∀x∈bL,0≤x∧x<256:=by decide+kernel
  have Rb:∀x∈cS,0≤x∧x<256:=by decide+kernel
  have NH:bL.length=288:=by decide+kernel
  have Tc:aE bL=0:=by decide+kernel
  have Tb:aE cS=0:=by decide+kernel
  have IQ:=ok.ll
  refine Qs ?_
  rw[Jg]
  refine sH (i:=5) (ls:=bL) rfl rfl (by omega) WI (fun _=>?_) (fun h=>absurd Tc h)
  refine Qs ?_
  refine bS (i:=8) (k:=32) (v:=5) rfl (by omega) (by omega) ?_
  refine Qs ?_
  refine sH (i:=9) (ls:=cS) rfl rfl (by decide) Rb (fun _=>?_) (fun h=>absurd Tb h)
  refine Qs ?_
  refine D3 [.one true 0 (.cJ 2 4 (fun j=>Cn.getD j []) 4),.one true gl (.ints .u8 bL cl),bG (cq (bU bL) []),bB 6,.one true 0 (.ints .u8 [5] 1),.one true 0 (.ints .u8 cS 32),bG (cq (bU cS) []),bB 10] 2 6 rfl rfl rfl rfl rfl ok hb (gZ _) (gZ _) (jT (N:=2000) (by omega)) (jT (N:=2000) (by decide)) (by unfold FU;omega) hR (fun g' c' s' h k l=>?_) (fun e g' c' s' h=>?_)
  ·refine Qs ?_
   exact Exists.intro (zH lim gb cb xs g' c' s') (And.intro (aI rfl (aI rfl (aI rfl (aI rfl (trivial))))) (And.intro fh (And.intro rfl (h0 g' c' s' h k l))))
  ·exact Exists.intro (zH lim gb cb xs g' c' s') (And.intro (aI rfl (aI rfl (aI rfl (aI rfl (trivial))))) (And.intro fh (And.intro rfl (h1 e g' c' s' h))))
end
end Go.Proofs.Ytibadaomjlkoaaa
open Go.RowKit
namespace Go.Proofs.Ytibadaomjlkoaaa
set_option maxRecDepth 10000
def qy:List Nat:=[16,17,18,0,8,7,9,6,10,5,11,4,12,3,13,2,14,1,15]
def x7:Nat→Nat→List Int→DP (List Int)
 |0,_,ls=>.ret ls
 |n+1,i,ls=>.get 3 fun v=>x7 n (i+1) (ls.set (qy.getD i 0) v)
def LL:DP Unit:=.get 5 fun a=>.get 5 fun b=>.get 4 fun c=>if 286<a+257∨30<b+1 then .fail 80 else
 (x7 (c.toNat+4) 0 (List.replicate 19 0)).bind fun ls=>(rU ls).bind fun T=>(nZ T (a.toNat+257+(b.toNat+1)) 401 []).bind fun l=>if l.getD 256 0=0 then .fail 80 else
  (rU (l.take (a.toNat+257))).bind fun A=>(rU (l.drop (a.toNat+257))).bind fun B=>js A B FU
section
variable{K Kp:AV→AH→Prop}{xs:List Int}{lim gb cb g c:Nat}{s:DS}
theorem vR {M:AH}{i g off n c0 co:Nat}{o:Bool}{ls ys:List Int}(hi:M[i]?=some (.one o g (.ints .u8 ys co)))(hn:n=ls.length)(hy:ls=(ys.drop off).take ls.length)(hc:off+ls.length≤co)(hl:ls.length≤2000)(hu:∀x∈ls,0≤x∧x<256)
 (h0:aE ls=0→K (.ptr (M.length+1) 0 0) (M++[bG (cq (bU ls) []),bB M.length]))
 (h1:aE ls≠0→Kp (bj (aE ls)) M):aa Try.prog 63 [.sl i g off n c0] M K Kp:=by
 subst hn
 refine aa.lift [.ew i g off] (sG (ls:=ls) (c0:=c0) (c:=ls.length) (K:=fun r M=>aE ls=0∧r=.ptr 2 0 0∧M=[.one false 0 (.ints .u8 ls ls.length),bG (cq (bU ls) []),bB 1]) (Kp:=fun v M=>aE ls≠0∧v=bj (aE ls)∧M=[.one false 0 (.ints .u8 ls ls.length)]) hl hu (fun h=>⟨h,rfl,rfl⟩) (fun h=>⟨h,rfl,rfl⟩)) (by simp[AV.ri,AV.rn,yY,BF,BG,TE.i]) rfl ⟨⟨_,_,_,rfl,ak hi,eB.ints hc hy⟩,trivial⟩ ⟨trivial,trivial⟩ ?_ ?_
 ·rintro r M' ⟨e,rfl,rfl⟩
  refine⟨⟨rfl,rfl⟩,?_⟩
  have:=h0 e
  unfold bG at this
  rw[←ju [.ew i g off] M.length (.pair .i64 .i64) (cq (bU ls) [])]at this
  exact this
 ·rintro r M' ⟨e,rfl,rfl⟩
  refine⟨⟨rfl,rfl⟩,?_⟩
  have:=h1 e
  rw[←List.append_nil M]at this
  exact this
theorem y8 (E:AH)(i:Nat){T:List ((Int×Int)×Int)}{n f0:Nat}(J2:E[i]?=some (bG T))(EP:E[i+1]?=some (bB (i+4)))
 (o9:(bE [.own 0,.own 1,.own 2,.own 3,.own (i+4),.own (i+5)]&&AV.o8 [.own 0,.own 1,.own 2,.own 3,.own (i+4),.own (i+5)] [.ptr 0 0 0,.ptr 5 0 0,.int .i64 (n:Int)])=true)
 (ok:gX xs lim c s)(hT:fw T)(hN:lx 19 T)(hn:1≤n∧n≤400)(hf:n<f0){R:Except Int (List Int×DS)}(hR:(nZ T n f0 []).run (unpack xs) lim s=R)
 (h0:∀gl cl l s',R=.ok (l,s')→s'.out=s.out→gX xs lim c s'→l.length=n→(∀x∈l,0≤x∧x<256)→l.length≤cl→K (.sl (E.length+4) gl 0 l.length cl) (zH lim gb cb xs g c s'++(E++[.one true gl (.ints .u8 l cl)])))
 (h1:∀e s',R=.error e→Kp (bj e) (zH lim gb cb xs g c s'++E)):
 aa Try.prog 64 [.ptr 0 0 0,.ptr (i+5) 0 0,.int .i64 (n:Int)] (zH lim gb cb xs g c s++E) K Kp:=by
 have key:∀s' X,c9 [.own 0,.own 1,.own 2,.own 3,.own (i+4),.own (i+5)] (zH lim gb cb xs g c s++E).length [.own 0,.own 1,.own 2,.own 3,.own (i+4),.own (i+5)] (zH lim gb cb xs g c s'++bG T::bB 4::X) (zH lim gb cb xs g c s++E)=zH lim gb cb xs g c s'++(E++Nc [.own 0,.own 1,.own 2,.own 3,.own (i+4),.own (i+5)] (zH lim gb cb xs g c s++E).length X):=by
  intro s' X
  show((zH lim gb cb xs g c s'++E).set (i+4) (AO.one true 0 ((ae.map (.pair .i64 .i64) (kW T)).rn [.own 0,.own 1,.own 2,.own 3,.own (i+4),.own (i+5)] (zH lim gb cb xs g c s++E).length))).set (i+5) (bB (i+4))++Nc [.own 0,.own 1,.own 2,.own 3,.own (i+4),.own (i+5)] (zH lim gb cb xs g c s++E).length X=_
  rw[ju]
  show zH lim gb cb xs g c s'++((E.set i (bG T)).set (i+1) (bB (i+4))++Nc [.own 0,.own 1,.own 2,.own 3,.own (i+4),.own (i+5)] (zH lim gb cb xs g c s++E).length X)=_
  rw[re J2,re EP]
 refine aa.lift [.own 0,.own 1,.own 2,.own 3,.own (i+4),.own (i+5)] (u9 (K:=fun r M=>∃gl cl l s',r=.sl 6 gl 0 l.length cl∧M=QM lim gb cb xs T g c s' gl cl l∧K (.sl (E.length+4) gl 0 l.length cl) (zH lim gb cb xs g c s'++(E++[.one true gl (.ints .u8 l cl)]))) (Kp:=fun r M=>∃e s',r=bj e∧M=Ff lim gb cb xs T g c s'∧Kp r (zH lim gb cb xs g c s'++E)) ok hT hN hn hf hR
  (fun gl cl l s' a1 a2 a3 a4 a5 a6=>⟨gl,cl,l,s',rfl,rfl,h0 gl cl l s' a1 a2 a3 a4 a5 a6⟩) (fun e s' h=>⟨e,s',rfl,rfl,h1 e s' h⟩)) rfl o9
  ⟨⟨rfl,rfl⟩,⟨rfl,rfl⟩,⟨rfl,rfl⟩,⟨rfl,rfl⟩,⟨?_,rfl⟩,⟨?_,rfl⟩,trivial⟩ ⟨rfl,rfl,trivial,trivial,wB _ (.pair .i64 .i64) T,rfl,trivial⟩ ?_ ?_
 ·show E[i]?=some (AO.one true 0 ((ae.map (.pair .i64 .i64) (kW T)).rn _ _))
  rw[ju];exact J2
 ·exact EP
 ·rintro r M' ⟨gl,cl,l,s',rfl,rfl,hk⟩
  refine⟨⟨rfl,rfl,rfl,rfl,rfl,rfl,rfl⟩,?_⟩
  have:=key s' [.one true gl (.ints .u8 l cl)]
  rw[show QM lim gb cb xs T g c s' gl cl l=zH lim gb cb xs g c s'++bG T::bB 4::[.one true gl (.ints .u8 l cl)]from rfl,this]
  exact hk
 ·rintro r M' ⟨e,s',rfl,rfl,hk⟩
  refine⟨⟨rfl,rfl,rfl,rfl,rfl,rfl,rfl⟩,?_⟩
  have:=key s' []
  rw[show Ff lim gb cb xs T g c s'=zH lim gb cb xs g c s'++bG T::bB 4::[]from rfl,this]
  show Kp _ (zH lim gb cb xs g c s'++(E++[]))
  rw[List.append_nil]
  exact hk
def Xj (lim gb cb:Nat)(xs:List Int)(g c:Nat)(s:DS)(ls:List Int):AH:=zH lim gb cb xs g c s++[.one true 0 (.ints .u8 ls 19)]
theorem NX {ls:List Int}:lQ 5 (Xj lim gb cb xs g c s ls):=⟨by simp[ae.nb,AV.rW,AV.nb,AO.nb],rfl,trivial,trivial,trivial,trivial⟩
theorem yB (ok:gX xs lim c s)(hb:∀x∈s.out,0≤x∧x<256){R:Except Int (Unit×DS)}(hR:LL.run (unpack xs) lim s=R)
 (h0:∀g' c' s',R=.ok ((),s')→gX xs lim c' s'→(∀x∈s'.out,0≤x∧x<256)→K (.aL []) (zH lim gb cb xs g' c' s'))
 (h1:∀e g' c' s',R=.error e→Kp (bj e) (zH lim gb cb xs g' c' s')):
 aa Try.prog 33 [.ptr 0 0 0] (zH lim gb cb xs g c s) K Kp:=by
 refine aa.qu ?_
 refine OU (fun _=>[]) [] rfl ?_
 unfold LL at hR
 refine Qs ?_
 refine dR [] (n:=5) hR ok (by omega) (fun a s1 ha QY MA FZ hR=>?_) (fun h=>Exists.intro (zH lim gb cb xs g c s) (And.intro (aI rfl (aI rfl (aI rfl (aI rfl (trivial))))) (And.intro fh (And.intro rfl (h1 50 g c s h)))))
 refine Qs ?_
 refine dR [] (n:=5) hR FZ (by omega) (fun b s2 gS G3 uj qz hR=>?_) (fun h=>Exists.intro (zH lim gb cb xs g c s1) (And.intro (aI rfl (aI rfl (aI rfl (aI rfl (trivial))))) (And.intro fh (And.intro rfl (h1 50 g c s1 h)))))
 refine Qs ?_
 refine dR [] (n:=4) hR qz (by omega) (fun cc s3 My Gn Mz u3 hR=>?_) (fun h=>Exists.intro (zH lim gb cb xs g c s2) (And.intro (aI rfl (aI rfl (aI rfl (aI rfl (trivial))))) (And.intro fh (And.intro rfl (h1 50 g c s2 h)))))
 simp only[Int.toNat_natCast]at hR
 refine Qs ?_
 refine And.intro (fun hA=>?_) (fun hA=>?_)
 ·have Ja:(286:Int)<a+257:=by simpa using hA
  rw[if_pos (.inl Ja)]at hR
  refine Qs ?_
  refine bX (fun h=>absurd h (by decide)) (fun _=>?_)
  exact Exists.intro (zH lim gb cb xs g c s3) (And.intro (aI rfl (aI rfl (aI rfl (aI rfl (trivial))))) (And.intro fh (And.intro rfl (h1 80 _ _ _ hR.symm))))
 have Ja:¬(286:Int)<a+257:=by simpa using hA
 refine Qs ?_
 refine And.intro (fun hB=>?_) (fun hB=>?_)
 ·have Rc:(30:Int)<b+1:=by simpa using hB
  rw[if_pos (.inr Rc)]at hR
  refine Qs ?_
  refine bX (fun h=>absurd h (by decide)) (fun _=>?_)
  exact Exists.intro (zH lim gb cb xs g c s3) (And.intro (aI rfl (aI rfl (aI rfl (aI rfl (trivial))))) (And.intro fh (And.intro rfl (h1 80 _ _ _ hR.symm))))
 have Rc:¬(30:Int)<b+1:=by simpa using hB
 rw[if_neg (by rintro(h|h);exact Ja h;exact Rc h),DP.run_bind]at hR
 obtain⟨R2,y7⟩:∃R2,(x7 (cc+4) 0 (List.replicate 19 0)).run (unpack xs) lim s3=R2:=⟨_,rfl⟩
 rw[y7]at hR
 refine Qs ?_
 refine WO.go (σ:=Nat×DS×List Int) (fun(i,s',ls)=>s'.out=s.out∧gX xs lim c s'∧i≤cc+4∧ls.length=19∧(∀x∈ls,0≤x∧x<256)∧(x7 (cc+4-i) i ls).run (unpack xs) lim s'=R2) (fun(i,_)=>cc+4-i)
  (fun(i,_)=>[(0,.ptr 0 0 0),(2,.int .i64 ((a:Int)+257)),(3,.int .i64 ((b:Int)+1)),(5,.sl 4 0 0 19 19),(25,.int .i64 ((cc:Int)+4)),(26,.int .i64 (i:Int))]) (fun(i,s',ls)=>Xj lim gb cb xs g c s' ls) (0,s3,List.replicate 19 0) ag mixed (by kernel_rfl)
  ⟨by rw[Gn,G3,QY],u3,Nat.zero_le _,by decide,by decide,y7⟩ (aI rfl (aI rfl (aI rfl (aI rfl (aI rfl (aI rfl (trivial))))))) (aI rfl (aI rfl (aI rfl (aI rfl (aI rfl (trivial)))))) (fun _=>rfl) (fun _=>rfl) (fun _=>NX) ?_
 rintro⟨i,s4,ls⟩ ⟨QX,FY,hi,Cd,EN,S4⟩ d0
 refine Qs ?_
 refine And.intro (fun hc=>?_) (fun hc=>?_)
 ·have a8:i<cc+4:=by simp only[decide_eq_true_eq]at hc;omega
  rw[show cc+4-i=cc+4-(i+1)+1 by omega,x7]at S4
  have V8:i<19:=by omega
  have ep:ByteArray.size {data:=#[16,17,18,0,8,7,9,6,10,5,11,4,12,3,13,2,14,1,15]}=19:=rfl
  obtain⟨z,hz⟩:∃z,(({data:=#[16,17,18,0,8,7,9,6,10,5,11,4,12,3,13,2,14,1,15]}:ByteArray).data.toList.getD ((i:Int)).toNat 0).toNat=z:=⟨_,rfl⟩
  have Yy:qy.getD i 0=z∧z<19:=by
   have:∀i,i<19→qy.getD i 0=(({data:=#[16,17,18,0,8,7,9,6,10,5,11,4,12,3,13,2,14,1,15]}:ByteArray).data.toList.getD i 0).toNat∧qy.getD i 0<19:=by decide
   obtain⟨k1,k2⟩:=this i V8
   rw[Int.toNat_natCast]at hz
   rw[hz]at k1
   exact⟨k1,k1▸k2⟩
  rw[Yy.1]at S4
  refine Qs ?_
  rw[hz]
  refine Qs ?_
  refine dR [.one true 0 (.ints .u8 ls 19)] (n:=3) S4 FY (by omega) (fun v s5 hv Gm ZA H0 uk=>?_) (fun h=>Exists.intro (zH lim gb cb xs g c s4) (And.intro (aI rfl (aI rfl (aI rfl (aI rfl (trivial))))) (And.intro fh (And.intro rfl (h1 50 g c s4 (by rw[h]at hR;exact hR.symm))))))
  have rA:(v:Int)%256=v:=by omega
  have V4:∀x∈ls.set z (v:Int),0≤x∧x<256:=fun x hx=>by
   rcases List.mem_or_eq_of_mem_set hx with hx|rfl
   ·exact EN x hx
   ·omega
  refine Qs ?_
  refine RO.same (i+1,s5,ls.set z (v:Int)) ⟨by rw[Gm,QX],H0,by omega,by rw[List.length_set];exact Cd,V4,uk⟩ (show cc+4-(i+1)<cc+4-i by omega) (aI rfl (aI rfl (aI rfl (aI rfl (aI rfl (aI rfl (trivial))))))) (And.intro rfl (And.intro rfl (And.intro rfl (And.intro rfl (And.intro ?_ trivial)))))
  show AO.one true 0 (.ints .u8 (ls.set z (v:Int)) 19)=AO.one true 0 (.ints .u8 (ls.set z ((v:Int)%256)) 19)
  rw[rA]
 ·obtain rfl:i=cc+4:=by simp only[decide_eq_false_iff_not]at hc;omega
  rw[Nat.sub_self,x7,DP.run]at S4
  rw[←S4]at hR
  simp only at hR
  rw[DP.run_bind]at hR
  refine Qs ?_
  refine sH (i:=4) (ls:=ls) rfl Cd.symm (by omega) EN (fun he=>?_) (fun he=>?_)
  ·rw[rU,if_pos he,DP.run]at hR
   simp only at hR
   rw[DP.run_bind]at hR
   obtain⟨R3,X9⟩:∃R3,(nZ (cq (bU ls) []) (a+257+(b+1)) 401 []).run (unpack xs) lim s4=R3:=⟨_,rfl⟩
   rw[X9]at hR
   have en:(a:Int)+257+((b:Int)+1)=((a+257+(b+1):Nat):Int):=by push_cast;rfl
   refine Qs ?_
   rw[en]
   refine y8 [.one true 0 (.ints .u8 ls 19),bG (cq (bU ls) []),bB 5] 1 rfl rfl rfl FY (gZ _) (jT (by omega)) (by omega) (by omega) X9 (fun gl cl l s6 e6 XO QP hl6 UW ES=>?_) (fun e s' h=>?_)
   ·rw[e6]at hR
    simp only at hR
    refine Qs ?_
    refine And.intro (fun hc=>?_) (fun hc=>?_)
    ·have hz:l.getD 256 0=0:=by simpa using hc
     rw[if_pos hz]at hR
     refine Qs ?_
     refine bX (fun h=>absurd h (by decide)) (fun _=>?_)
     exact Exists.intro (zH lim gb cb xs g c s6) (And.intro (aI rfl (aI rfl (aI rfl (aI rfl (trivial))))) (And.intro fh (And.intro rfl (h1 80 _ _ _ hR.symm))))
    have hz:¬l.getD 256 0=0:=by simpa using hc
    rw[if_neg hz,DP.run_bind]at hR
    have SX:∀x∈s6.out,0≤x∧x<256:=by rw[XO,QX];exact hb
    have P5:(l.take (a+257)).length=a+257:=by rw[List.length_take];omega
    have hlB:(l.drop (a+257)).length=b+1:=by rw[List.length_drop];omega
    have WI:∀x∈l.take (a+257),0≤x∧x<256:=fun x hx=>UW x (List.mem_of_mem_take hx)
    have Rb:∀x∈l.drop (a+257),0≤x∧x<256:=fun x hx=>UW x (List.mem_of_mem_drop hx)
    have e7:((a:Int)+257).toNat=a+257:=by omega
    have e8:cI cl (a+257) 0 1=a+257:=by rw[Pb (by omega)];omega
    have IQ:=ok.ll
    refine Qs ?_
    rw[e7]
    simp only[e8]
    refine vR (i:=7) (off:=0) (ys:=l) (co:=cl) (ls:=l.take (a+257)) rfl P5.symm (by rw[P5,List.drop_zero]) (by omega) (by omega) WI (fun Tc=>?_) (fun Tc=>?_)
    ·rw[rU,if_pos Tc,DP.run]at hR
     simp only at hR
     rw[DP.run_bind]at hR
     refine Qs ?_
     refine vR (i:=7) (off:=a+257) (ys:=l) (co:=cl) (ls:=l.drop (a+257)) rfl (List.length_drop ..).symm List.take_length.symm (by omega) (by omega) Rb (fun Tb=>?_) (fun Tb=>?_)
     ·rw[rU,if_pos Tb,DP.run]at hR
      simp only at hR
      refine Qs ?_
      refine D3 [.one true 0 (.ints .u8 ls 19),bG (cq (bU ls) []),bB 5,.one true gl (.ints .u8 l cl),bG (cq (bU (l.take (a+257))) []),bB 8,bG (cq (bU (l.drop (a+257))) []),bB 10] 4 6 rfl rfl rfl rfl rfl QP SX (gZ _) (gZ _) (jT (N:=2000) (by omega)) (jT (N:=2000) (by omega)) (by unfold FU;omega) hR (fun g' c' s' h k l=>?_) (fun e g' c' s' h=>?_)
      ·refine Qs ?_
       exact Exists.intro (zH lim gb cb xs g' c' s') (And.intro (aI rfl (aI rfl (aI rfl (aI rfl (trivial))))) (And.intro fh (And.intro rfl (h0 g' c' s' h k l))))
      ·exact Exists.intro (zH lim gb cb xs g' c' s') (And.intro (aI rfl (aI rfl (aI rfl (aI rfl (trivial))))) (And.intro fh (And.intro rfl (h1 e g' c' s' h))))
     ·rw[rU,if_neg Tb,DP.run]at hR
      exact Exists.intro (zH lim gb cb xs g c s6) (And.intro (aI rfl (aI rfl (aI rfl (aI rfl (trivial))))) (And.intro fh (And.intro rfl (h1 _ _ _ _ hR.symm))))
    ·rw[rU,if_neg Tc,DP.run]at hR
     exact Exists.intro (zH lim gb cb xs g c s6) (And.intro (aI rfl (aI rfl (aI rfl (aI rfl (trivial))))) (And.intro fh (And.intro rfl (h1 _ _ _ _ hR.symm))))
   ·rw[h]at hR
    exact Exists.intro (zH lim gb cb xs g c s') (And.intro (aI rfl (aI rfl (aI rfl (aI rfl (trivial))))) (And.intro fh (And.intro rfl (h1 e _ _ _ hR.symm))))
  ·rw[rU,if_neg he,DP.run]at hR
   exact Exists.intro (zH lim gb cb xs g c s4) (And.intro (aI rfl (aI rfl (aI rfl (aI rfl (trivial))))) (And.intro fh (And.intro rfl (h1 _ _ _ _ hR.symm))))
end
end Go.Proofs.Ytibadaomjlkoaaa
open Go.RowKit
namespace Go.Proofs.Ytibadaomjlkoaaa
set_option maxRecDepth 10000
def HW:DP Unit:=js (cq (bU bL) []) (cq (bU cS) []) FU
def gE (k:Int):DP Unit:=if k=0 then nh else if k=1 then HW else if k=2 then LL else .fail 80
def jF:Nat→DP Unit
 |0=>.fail 50
 |f+1=>.get 1 fun last=>.get 2 fun k=>(gE k).bind fun _=>if last=0 then jF f else .ret ()
def FI:Nat:=8000001
section
variable{K Kp:AV→AH→Prop}{xs:List Int}{lim gb cb g c:Nat}{s:DS}
def zI (co lim gb cb:Nat)(xs:List Int)(r1 r2 r3:AV)(g c:Nat)(s:DS):AH:=[.one false 0 (.ints .u8 xs co),.one true 0 (.cells [r1]),.one true 0 (.cells [r2]),.one true 0 (.cells [r3]),rb gb cb xs,ro 4 gb cb xs s.a,
 .one true 0 (.cells [.ptr 5 0 0,.sl 8 g 0 s.out.length c,.int .i64 (lim:Int)]),.one true 0 (.cells [.fn (.func 31) [] [],.fn (.func 32) [] [],.fn (.func 33) [] [],.fn (.func 34) [] []]),.one true g (.ints .u8 s.out c)]
theorem GQ {co:Nat}{r1 r2 r3:AV}{KH:AH→Prop}(h:KH (zI co lim gb cb xs r1 r2 r3 g c s++[.one true 0 (.cells [.int .i64 0])])):rO Try.prog 29 [.ptr 1 0 0,.ptr 2 0 0,.ptr 3 0 0] (zI co lim gb cb xs r1 r2 r3 g c s) none KH:=by
 refine rO.intro (x:=Uj (fun _=>[9]) []) ag mixed Try.func29 (rfl:Try.f29.body=_) (by kernel_rfl) rfl (by kernel_rfl) rfl rfl rfl rfl rfl ?_
 conv=>whnf
 refine And.intro rfl ?_
 conv=>whnf
 refine Qs ?_
 exact h
theorem ij {co:Nat}{r1 r2 r3:AV}{e:Int}{KH:AH→Prop}(h:KH (zI co lim gb cb xs .ns (.int .i64 0) (.int .i64 e) g c s++[.one true 0 (.cells [.int .i64 e])])):rO Try.prog 29 [.ptr 1 0 0,.ptr 2 0 0,.ptr 3 0 0] (zI co lim gb cb xs r1 r2 r3 g c s) (some (bj e)) KH:=by
 refine rO.intro (x:=Uj (fun _=>[9]) []) ag mixed Try.func29 (rfl:Try.f29.body=_) (by kernel_rfl) rfl (by kernel_rfl) rfl rfl rfl rfl rfl ?_
 conv=>whnf
 refine And.intro rfl ?_
 conv=>whnf
 refine Qs ?_
 exact h
theorem M7 {f:Nat}{args A2:List AV}{co:Nat}{r1 r2 r3:AV}(h:aa Try.prog f args (zH lim gb cb xs g c s) (fun r M=>∃g' c' s',M=zH lim gb cb xs g' c' s'∧(∀m,r.rn [.own 6,.own 5,.own 4,.own 8] m=r)∧K r (zI co lim gb cb xs r1 r2 r3 g' c' s')) (fun r M=>∃g' c' s',M=zH lim gb cb xs g' c' s'∧(∀m,r.rn [.own 6,.own 5,.own 4,.own 8] m=r)∧Kp r (zI co lim gb cb xs r1 r2 r3 g' c' s')))
 (jy:AV.ri [.own 6,.own 5,.own 4,.own 8] 9 args=A2)(hw:AV.o8 [.own 6,.own 5,.own 4,.own 8] args=true):aa Try.prog f A2 (zI co lim gb cb xs r1 r2 r3 g c s) K Kp:=by
 refine aa.lift [.own 6,.own 5,.own 4,.own 8] h jy (by rw[hw];rfl) ⟨⟨rfl,rfl⟩,⟨rfl,rfl⟩,⟨rfl,rfl⟩,⟨rfl,rfl⟩,trivial⟩ ⟨rfl,rfl,trivial,trivial,trivial⟩ ?_ ?_
 ·rintro r M' ⟨g',c',s',rfl,hr,hk⟩
  refine⟨⟨rfl,rfl,rfl,rfl,rfl⟩,?_⟩
  rw[hr]
  exact hk
 ·rintro r M' ⟨g',c',s',rfl,hr,hk⟩
  refine⟨⟨rfl,rfl,rfl,rfl,rfl⟩,?_⟩
  rw[hr]
  exact hk
theorem Ep {co:Nat}{r1 r2 r3:AV}{n:Nat}{α:Type}{k:Int→DP α}{R:Except Int (α×DS)}(hR:(DP.get n k).run (unpack xs) lim s=R)(ok:gX xs lim c s)(hn:n≤16)
 (h0:∀(v:Nat) s',v<2^n→s'.out=s.out→s'.a=s.a+n→gX xs lim c s'→(k v).run (unpack xs) lim s'=R→K (.int .i64 (v:Int)) (zI co lim gb cb xs r1 r2 r3 g c s'))
 (h1:R=.error 50→Kp (bj 50) (zI co lim gb cb xs r1 r2 r3 g c s)):
 aa Try.prog 35 [.ptr 6 0 0,.int .i64 (n:Int)] (zI co lim gb cb xs r1 r2 r3 g c s) K Kp:=by
 refine M7 (args:=[.ptr 0 0 0,.int .i64 (n:Int)]) ?_ rfl rfl
 exact dR [] hR ok hn (fun v s' a1 a2 a3 a4 a5=>⟨g,c,s',rfl,fun _=>rfl,h0 v s' a1 a2 a3 a4 a5⟩) (fun h=>⟨g,c,s,rfl,fun _=>rfl,h1 h⟩)
theorem yS {co:Nat}{r1 r2 r3:AV}{f:Nat}{k:Nat}{R:Except Int (Unit×DS)}(hf:(k=0∧f=31)∨(k=1∧f=32)∨(k=2∧f=33)∨(k=3∧f=34))
 (hR:(gE k).run (unpack xs) lim s=R)(ok:gX xs lim c s)(hb:∀x∈s.out,0≤x∧x<256)
 (h0:∀g' c' s',R=.ok ((),s')→gX xs lim c' s'→(∀x∈s'.out,0≤x∧x<256)→K (.aL []) (zI co lim gb cb xs r1 r2 r3 g' c' s'))
 (h1:∀e g' c' s',R=.error e→Kp (bj e) (zI co lim gb cb xs r1 r2 r3 g' c' s')):
 aa Try.prog f [.ptr 6 0 0] (zI co lim gb cb xs r1 r2 r3 g c s) K Kp:=by
 refine M7 (args:=[.ptr 0 0 0]) ?_ rfl rfl
 rcases hf with⟨rfl,rfl⟩|⟨rfl,rfl⟩|⟨rfl,rfl⟩|⟨rfl,rfl⟩
 ·exact zp ok hb hR (fun g' c' s' a1 a2 a3=>⟨g',c',s',rfl,fun _=>rfl,h0 g' c' s' a1 a2 a3⟩) (fun e g' c' s' h=>⟨g',c',s',rfl,fun _=>rfl,h1 e g' c' s' h⟩)
 ·exact Cm ok hb hR (fun g' c' s' a1 a2 a3=>⟨g',c',s',rfl,fun _=>rfl,h0 g' c' s' a1 a2 a3⟩) (fun e g' c' s' h=>⟨g',c',s',rfl,fun _=>rfl,h1 e g' c' s' h⟩)
 ·exact yB ok hb hR (fun g' c' s' a1 a2 a3=>⟨g',c',s',rfl,fun _=>rfl,h0 g' c' s' a1 a2 a3⟩) (fun e g' c' s' h=>⟨g',c',s',rfl,fun _=>rfl,h1 e g' c' s' h⟩)
 ·exact F6 ⟨g,c,s,rfl,fun _=>rfl,h1 80 g c s hR.symm⟩
end
end Go.Proofs.Ytibadaomjlkoaaa
