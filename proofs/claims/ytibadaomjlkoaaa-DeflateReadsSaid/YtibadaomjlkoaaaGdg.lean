import Derived.Test.YtibadaomjlkoaaaGdf
import Derived.Test.YtibadaomjlkoaaaGx
import Derived.Test.YtibadaomjlkoaaaAbE
set_option linter.unusedVariables false
set_option linter.unusedSimpArgs false
open Go.RowKit
namespace Go.Proofs.Ytibadaomjlkoaaa
set_option maxRecDepth 10000
def jz (d:Nat):Nat→DP Unit
 |0=>.ret ()
 |n+1=>.back d fun v=>.uq v (jz d n)
def dQ (A B:List ((Int×Int)×Int)):Nat→DP Unit
 |0=>.fail 50
 |f+1=>(pZ A).bind fun v=>if v<256 then .uq v (dQ A B f)else if v=256 then .ret ()else if 285<v then .fail 80 else
   (if v<285 then(mY (v-257).toNat 4).bind fun z=>.ret (3+z)else .ret 258:DP Int).bind fun n=>
    (pZ B).bind fun d=>if 29<d then .fail 80 else(mY d.toNat 2).bind fun z=>.AW (1+z) ((jz (1+z).toNat n.toNat).bind fun _=>dQ A B f)
def M3 (lim gb cb:Nat)(xs:List Int)(A B:List ((Int×Int)×Int))(g c:Nat)(s:DS):AH:=zH lim gb cb xs g c s++[bX A,bU 4,bX B,bU 6]
section
variable{K Kp:AV→AH→Prop}{xs:List Int}{lim gb cb g c:Nat}{s:DS}
theorem Dw {A B:List ((Int×Int)×Int)}:kq 8 (M3 lim gb cb xs A B g c s):=⟨by simp[af.nb,AV.qi,AV.nb,AO.nb],rfl,trivial,trivial,mO _ (.pair .i64 .i64) _,rfl,mO _ (.pair .i64 .i64) _,rfl,trivial⟩
theorem Ic {A B:List ((Int×Int)×Int)}{N N':Int}{f0:Nat}(ok:cZ xs lim c s)(hb:∀x∈s.out,0≤x∧x<256)(hA:gq A)(hB:gq B)(Qf:mM N A)(Rn:mM N' B)(hf:lim<f0+s.out.length){R:Except Int (Unit×DS)}(hR:(dQ A B f0).run (unpack xs) lim s=R)
 (h0:∀g' c' s',R=.ok ((),s')→cZ xs lim c' s'→(∀x∈s'.out,0≤x∧x<256)→K (.aE []) (M3 lim gb cb xs A B g' c' s'))
 (h1:∀e g' c' s',R=.error e→Kp (bB e) (M3 lim gb cb xs A B g' c' s')):
 aa Try.prog 62 [.ptr 0 0 0,.ptr 5 0 0,.ptr 7 0 0] (M3 lim gb cb xs A B g c s) K Kp:=by
 refine Sw (fun _=>[0,3]) [] rfl ?_
 refine Qs ?_
 refine WO.go (σ:=Nat×Nat×Nat×DS) (fun(f,g,c,s)=>cZ xs lim c s∧(∀x∈s.out,0≤x∧x<256)∧lim<f+s.out.length∧(dQ A B f).run (unpack xs) lim s=R) (fun(f,g,c,s)=>lim-s.out.length)
  (fun _=>[(0,.ptr 0 0 0),(1,.ptr 5 0 0),(2,.ptr 7 0 0)]) (fun(f,g,c,s)=>M3 lim gb cb xs A B g c s) (f0,g,c,s) ae mixed (by kernel_rfl) ⟨ok,hb,hf,hR⟩ (aI rfl (aI rfl (aI rfl (trivial)))) (aI rfl (aI rfl (aI rfl (aI rfl (aI rfl (aI rfl (aI rfl (aI rfl (trivial))))))))) (fun _=>rfl) (fun _=>rfl) (fun _=>Dw) ?_
 rintro⟨f,g,c,s⟩ ⟨ok,hb,hf,hR⟩ d0
 have Jg:=ok.ol
 obtain⟨f,rfl⟩:∃f',f=f'+1:=⟨f-1,by omega⟩
 rw[dQ,DP.run_bind]at hR
 refine Qs ?_
 refine oC [bX A,bU 4,bX B,bU 6] 0 rfl rfl ok hA rfl (fun v s1 h mZ=>?_) (fun e s1 h=>?_)
 ·rw[h]at hR
  simp only at hR
  have hv:=(qU Qf h).1
  have ho:=nt h
  refine Qs ?_
  refine And.intro (fun hc=>?_) (fun hc=>?_)
  ·have hl:v<256:=by simpa using hc
   rw[if_pos hl]at hR
   simp only[DP.run]at hR
   have e1:v%256=v:=Int.emod_eq_of_lt hv hl
   refine Qs ?_
   rw[e1]
   refine uL [bX A,bU 4,bX B,bU 6] mZ ⟨hv,hl⟩ (fun g2 c2 iP iw=>?_) (fun iP=>?_)
   ·rw[if_neg iP]at hR
    have gm:∀x∈s1.out++[v],0≤x∧x<256:=by
     intro x hx
     rcases List.mem_append.1 hx with hx|hx
     ·rw[ho]at hx;exact hb x hx
     ·rw[List.mem_singleton.1 hx];exact⟨hv,hl⟩
    refine Qs ?_
    refine RO.same (f,g2,c2,{s1 with out:=s1.out++[v]}) ⟨iw,gm,by show lim<f+(s1.out++[v]).length;rw[List.length_append,List.length_singleton,ho];omega,hR⟩ (by show lim-(s1.out++[v]).length<lim-s.out.length;rw[List.length_append,List.length_singleton,ho];rw[ho]at iP;omega) (aI rfl (aI rfl (aI rfl (trivial)))) (aI rfl (aI rfl (aI rfl (aI rfl (aI rfl (aI rfl (aI rfl (aI rfl (trivial)))))))))
   ·rw[if_pos iP]at hR
    exact h1 81 _ _ _ hR.symm
  have hl:¬v<256:=by simpa using hc
  rw[if_neg hl]at hR
  refine Qs ?_
  refine And.intro (fun hc=>?_) (fun hc=>?_)
  ·have he:v=256:=by simpa using hc
   rw[if_pos he]at hR
   have hK:=h0 g c s1 hR.symm mZ (by rw[ho];exact hb)
   refine Qs ?_
   exact hK
  have he:¬v=256:=by simpa using hc
  rw[if_neg he]at hR
  refine Qs ?_
  refine And.intro (fun hc=>?_) (fun hc=>?_)
  ·have hg:285<v:=by simpa using hc
   rw[if_pos hg]at hR
   refine Qs ?_
   refine cm (fun h=>absurd h (by decide)) (fun _=>?_)
   exact h1 80 _ _ _ hR.symm
  have hg:¬285<v:=by simpa using hc
  rw[if_neg hg]at hR
  refine Qs ?_
  refine And.intro (fun hc=>?_) (fun hc=>?_)
  ·have hm:v<285:=by simpa using hc
   rw[if_pos hm,DP.run_bind,DP.run_bind]at hR
   obtain⟨w,hw⟩:∃w,(v-257).toNat=w:=⟨_,rfl⟩
   have hw2:v-257=(w:Int):=by omega
   rw[hw]at hR
   refine Qs ?_
   rw[hw2]
   refine EO [bX A,bU 4,bX B,bU 6] (v:=w) (each:=4) mZ (.inr rfl) (by omega) (fun z2 s2 h2 iw Tx=>?_) (fun e s2 h2=>?_)
   ·rw[h2]at hR
    have rT:=vG h2
    simp only[DP.run]at hR
    rw[DP.run_bind]at hR
    refine Qs ?_
    refine oC [bX A,bU 4,bX B,bU 6] 2 rfl rfl iw hB rfl (fun v2 s3 h3 iV=>?_) (fun e s3 h3=>?_)
    ·rw[h3]at hR
     simp only at hR
     have rR:=(qU Rn h3).1
     have qF:=nt h3
     refine Qs ?_
     refine And.intro (fun AK=>?_) (fun AK=>?_)
     ·have kv:(29:Int)<v2:=by simpa using AK
      rw[if_pos kv]at hR
      refine Qs ?_
      refine cm (fun h=>absurd h (by decide)) (fun _=>?_)
      exact h1 80 _ _ _ hR.symm
     have kv:¬(29:Int)<v2:=by simpa using AK
     rw[if_neg kv,DP.run_bind]at hR
     obtain⟨w2,rfl⟩:=Int.eq_ofNat_of_zero_le rR
     rw[Int.toNat_natCast]at hR
     refine Qs ?_
     refine EO [bX A,bU 4,bX B,bU 6] (v:=w2) (each:=2) iV (.inl rfl) (by omega) (fun z4 s4 h4 uf hz4=>?_) (fun e s4 h4=>?_)
     ·rw[h4]at hR
      have Ez:=vG h4
      simp only[DP.run]at hR
      have Ww:=uf.ol
      have aan:=uf.ll
      refine Qs ?_
      refine And.intro (fun Jp=>?_) (fun Jp=>?_)
      ·have P3:(s4.out.length:Int)<1+z4:=by simpa using Jp
       rw[if_pos P3]at hR
       refine Qs ?_
       refine cm (fun h=>absurd h (by decide)) (fun _=>?_)
       exact h1 70 _ _ _ hR.symm
      have P3:¬(s4.out.length:Int)<1+z4:=by simpa using Jp
      rw[if_neg P3,DP.run_bind]at hR
      obtain⟨D,hD⟩:∃D,(1+z4).toNat=D:=⟨_,rfl⟩
      have hD2:1+z4=(D:Int):=by omega
      rw[hD]at hR
      obtain⟨n,hn⟩:∃n,(3+z2).toNat=n:=⟨_,rfl⟩
      have M9:3+z2=(n:Int):=by omega
      have U0:3≤n:=by omega
      rw[hn]at hR
      obtain⟨R2,qK⟩:∃R2,(jz D n).run (unpack xs) lim s4=R2:=⟨_,rfl⟩
      rw[qK]at hR
      have AF:s4.out=s.out:=by rw[Ez,qF,rT,ho]
      rw[hD2]
      refine Qs ?_
      refine WO.go (σ:=Nat×Nat×Nat×DS) (fun(j,g,c,s')=>cZ xs lim c s'∧(∀x∈s'.out,0≤x∧x<256)∧j≤n∧s'.out.length=s4.out.length+j∧(jz D (n-j)).run (unpack xs) lim s'=R2) (fun(j,_)=>n-j)
       (fun(j,_)=>[(0,.ptr 0 0 0),(1,.ptr 5 0 0),(2,.ptr 7 0 0),(8,.int .i64 (D:Int)),(51,.int .i64 (n:Int)),(52,.int .i64 (j:Int))]) (fun(j,g,c,s)=>M3 lim gb cb xs A B g c s) (0,g,c,s4) ae mixed (by kernel_rfl) ⟨uf,by rw[AF];exact hb,Nat.zero_le _,rfl,qK⟩ (And.intro rfl (And.intro rfl (And.intro rfl (And.intro rfl (And.intro (congrArg (AV.int .i64) M9) (And.intro rfl trivial)))))) (aI rfl (aI rfl (aI rfl (aI rfl (aI rfl (aI rfl (aI rfl (aI rfl (trivial))))))))) (fun _=>rfl) (fun _=>rfl) (fun _=>Dw) ?_
      rintro⟨j,g5,c5,s5⟩ ⟨py,EG,hj,TN,nc⟩ d5
      have LM:=py.ol
      refine Qs ?_
      refine And.intro (fun Jo=>?_) (fun Jo=>?_)
      ·have hj6:j<n:=by simp only[decide_eq_true_eq]at Jo;omega
       have hD3:1≤D∧D≤s5.out.length:=by omega
       have e6:((s5.out.length:Int)-(D:Int)).toNat+0=s5.out.length-D:=by omega
       obtain⟨y,hy⟩:∃y,s5.out.getD (s5.out.length-D) 0=y:=⟨_,rfl⟩
       have pR:0≤y∧y<256:=by
        rw[←hy,List.getD_eq_getElem?_getD,List.getElem?_eq_getElem (by omega),Option.getD_some]
        exact EG _ (List.getElem_mem _)
       rw[show n-j=n-(j+1)+1 by omega]at nc
       simp only[jz,DP.run,hy]at nc
       rw[if_neg (by omega)]at nc
       refine Qs ?_
       rw[e6,hy]
       refine uL [bX A,bU 4,bX B,bU 6] py pR (fun g7 c7 iP VZ=>?_) (fun iP=>?_)
       ·rw[if_neg iP]at nc
        have Um:∀x∈s5.out++[y],0≤x∧x<256:=by
         intro x hx
         rcases List.mem_append.1 hx with hx|hx
         ·exact EG x hx
         ·rw[List.mem_singleton.1 hx];exact pR
        refine Qs ?_
        refine RO.same (j+1,g7,c7,{s5 with out:=s5.out++[y]}) ⟨VZ,Um,by omega,by show(s5.out++[y]).length=_;rw[List.length_append,List.length_singleton];omega,nc⟩ (show n-(j+1)<n-j by omega) (aI rfl (aI rfl (aI rfl (aI rfl (aI rfl (aI rfl (trivial))))))) (aI rfl (aI rfl (aI rfl (aI rfl (aI rfl (aI rfl (aI rfl (aI rfl (trivial)))))))))
       ·rw[if_pos iP]at nc
        rw[←nc]at hR
        exact h1 81 _ _ _ hR.symm
      ·obtain rfl:j=n:=by simp only[decide_eq_false_iff_not]at Jo;omega
       rw[Nat.sub_self]at nc
       simp only[jz,DP.run]at nc
       rw[←nc]at hR
       simp only at hR
       refine Qs ?_
       refine RO.same (f,g5,c5,s5) ⟨py,EG,by show lim<f+s5.out.length;rw[TN,AF];omega,hR⟩ (by show lim-s5.out.length<lim-s.out.length;rw[TN,AF];rw[TN,AF]at LM;omega) (aI rfl (aI rfl (aI rfl (trivial)))) (aI rfl (aI rfl (aI rfl (aI rfl (aI rfl (aI rfl (aI rfl (aI rfl (trivial)))))))))
     ·rw[h4]at hR
      exact h1 e _ _ _ hR.symm
    ·rw[h3]at hR
     exact h1 e _ _ _ hR.symm
   ·rw[h2]at hR
    exact h1 e _ _ _ hR.symm
  ·have hm:¬v<285:=by simpa using hc
   rw[if_neg hm,DP.run_bind]at hR
   simp only[DP.run]at hR
   rw[DP.run_bind]at hR
   refine Qs ?_
   refine oC [bX A,bU 4,bX B,bU 6] 2 rfl rfl mZ hB rfl (fun v2 s3 h3 iV=>?_) (fun e s3 h3=>?_)
   ·rw[h3]at hR
    simp only at hR
    have rR:=(qU Rn h3).1
    have qF:=nt h3
    refine Qs ?_
    refine And.intro (fun AK=>?_) (fun AK=>?_)
    ·have kv:(29:Int)<v2:=by simpa using AK
     rw[if_pos kv]at hR
     refine Qs ?_
     refine cm (fun h=>absurd h (by decide)) (fun _=>?_)
     exact h1 80 _ _ _ hR.symm
    have kv:¬(29:Int)<v2:=by simpa using AK
    rw[if_neg kv,DP.run_bind]at hR
    obtain⟨w2,rfl⟩:=Int.eq_ofNat_of_zero_le rR
    rw[Int.toNat_natCast]at hR
    refine Qs ?_
    refine EO [bX A,bU 4,bX B,bU 6] (v:=w2) (each:=2) iV (.inl rfl) (by omega) (fun z4 s4 h4 uf hz4=>?_) (fun e s4 h4=>?_)
    ·rw[h4]at hR
     have Ez:=vG h4
     simp only[DP.run]at hR
     have Ww:=uf.ol
     have aan:=uf.ll
     refine Qs ?_
     refine And.intro (fun Jp=>?_) (fun Jp=>?_)
     ·have P3:(s4.out.length:Int)<1+z4:=by simpa using Jp
      rw[if_pos P3]at hR
      refine Qs ?_
      refine cm (fun h=>absurd h (by decide)) (fun _=>?_)
      exact h1 70 _ _ _ hR.symm
     have P3:¬(s4.out.length:Int)<1+z4:=by simpa using Jp
     rw[if_neg P3,DP.run_bind]at hR
     obtain⟨D,hD⟩:∃D,(1+z4).toNat=D:=⟨_,rfl⟩
     have hD2:1+z4=(D:Int):=by omega
     rw[hD]at hR
     obtain⟨n,hn⟩:∃n,((258:Int)).toNat=n:=⟨_,rfl⟩
     have M9:(258:Int)=(n:Int):=by omega
     have U0:3≤n:=by omega
     rw[hn]at hR
     obtain⟨R2,qK⟩:∃R2,(jz D n).run (unpack xs) lim s4=R2:=⟨_,rfl⟩
     rw[qK]at hR
     have AF:s4.out=s.out:=by rw[Ez,qF,ho]
     rw[hD2]
     refine Qs ?_
     refine WO.go (σ:=Nat×Nat×Nat×DS) (fun(j,g,c,s')=>cZ xs lim c s'∧(∀x∈s'.out,0≤x∧x<256)∧j≤n∧s'.out.length=s4.out.length+j∧(jz D (n-j)).run (unpack xs) lim s'=R2) (fun(j,_)=>n-j)
      (fun(j,_)=>[(0,.ptr 0 0 0),(1,.ptr 5 0 0),(2,.ptr 7 0 0),(8,.int .i64 (D:Int)),(51,.int .i64 (n:Int)),(52,.int .i64 (j:Int))]) (fun(j,g,c,s)=>M3 lim gb cb xs A B g c s) (0,g,c,s4) ae mixed (by kernel_rfl) ⟨uf,by rw[AF];exact hb,Nat.zero_le _,rfl,qK⟩ (And.intro rfl (And.intro rfl (And.intro rfl (And.intro rfl (And.intro (congrArg (AV.int .i64) M9) (And.intro rfl trivial)))))) (aI rfl (aI rfl (aI rfl (aI rfl (aI rfl (aI rfl (aI rfl (aI rfl (trivial))))))))) (fun _=>rfl) (fun _=>rfl) (fun _=>Dw) ?_
     rintro⟨j,g5,c5,s5⟩ ⟨py,EG,hj,TN,nc⟩ d5
     have LM:=py.ol
     refine Qs ?_
     refine And.intro (fun Jo=>?_) (fun Jo=>?_)
     ·have hj6:j<n:=by simp only[decide_eq_true_eq]at Jo;omega
      have hD3:1≤D∧D≤s5.out.length:=by omega
      have e6:((s5.out.length:Int)-(D:Int)).toNat+0=s5.out.length-D:=by omega
      obtain⟨y,hy⟩:∃y,s5.out.getD (s5.out.length-D) 0=y:=⟨_,rfl⟩
      have pR:0≤y∧y<256:=by
       rw[←hy,List.getD_eq_getElem?_getD,List.getElem?_eq_getElem (by omega),Option.getD_some]
       exact EG _ (List.getElem_mem _)
      rw[show n-j=n-(j+1)+1 by omega]at nc
      simp only[jz,DP.run,hy]at nc
      rw[if_neg (by omega)]at nc
      refine Qs ?_
      rw[e6,hy]
      refine uL [bX A,bU 4,bX B,bU 6] py pR (fun g7 c7 iP VZ=>?_) (fun iP=>?_)
      ·rw[if_neg iP]at nc
       have Um:∀x∈s5.out++[y],0≤x∧x<256:=by
        intro x hx
        rcases List.mem_append.1 hx with hx|hx
        ·exact EG x hx
        ·rw[List.mem_singleton.1 hx];exact pR
       refine Qs ?_
       refine RO.same (j+1,g7,c7,{s5 with out:=s5.out++[y]}) ⟨VZ,Um,by omega,by show(s5.out++[y]).length=_;rw[List.length_append,List.length_singleton];omega,nc⟩ (show n-(j+1)<n-j by omega) (aI rfl (aI rfl (aI rfl (aI rfl (aI rfl (aI rfl (trivial))))))) (aI rfl (aI rfl (aI rfl (aI rfl (aI rfl (aI rfl (aI rfl (aI rfl (trivial)))))))))
      ·rw[if_pos iP]at nc
       rw[←nc]at hR
       exact h1 81 _ _ _ hR.symm
     ·obtain rfl:j=n:=by simp only[decide_eq_false_iff_not]at Jo;omega
      rw[Nat.sub_self]at nc
      simp only[jz,DP.run]at nc
      rw[←nc]at hR
      simp only at hR
      refine Qs ?_
      refine RO.same (f,g5,c5,s5) ⟨py,EG,by show lim<f+s5.out.length;rw[TN,AF];omega,hR⟩ (by show lim-s5.out.length<lim-s.out.length;rw[TN,AF];rw[TN,AF]at LM;omega) (aI rfl (aI rfl (aI rfl (trivial)))) (aI rfl (aI rfl (aI rfl (aI rfl (aI rfl (aI rfl (aI rfl (aI rfl (trivial)))))))))
    ·rw[h4]at hR
     exact h1 e _ _ _ hR.symm
   ·rw[h3]at hR
    exact h1 e _ _ _ hR.symm
 ·rw[h]at hR
  exact h1 e _ _ _ hR.symm
end
end Go.Proofs.Ytibadaomjlkoaaa
open Go.RowKit
namespace Go.Proofs.Ytibadaomjlkoaaa
set_option maxRecDepth 10000
theorem Vi {n m:Nat}(hn:n<65536)(hm:m<65536):cG .xor .i64 (n:Int) (m:Int)=65535↔n+m=65535:=by
 have h1:(BitVec.ofInt 64 (n:Int)^^^BitVec.ofInt 64 (m:Int)).toNat=n^^^m:=by
  rw[BitVec.toNat_xor,BitVec.ofInt_natCast,BitVec.ofInt_natCast,BitVec.toNat_ofNat,BitVec.toNat_ofNat,Nat.mod_eq_of_lt (by omega),Nat.mod_eq_of_lt (by omega)]
 have h2:n^^^m<2^16:=Nat.xor_lt_two_pow (n:=16) hn hm
 have h3:cG .xor .i64 (n:Int) (m:Int)=((n^^^m:Nat):Int):=by
  show IntKind.i64.wrap ((BitVec.ofInt 64 (n:Int)^^^BitVec.ofInt 64 (m:Int)).toNat:Int)=_
  rw[h1,lO (by omega)]
 have h4:∀n:Nat,n<65536→n^^^65535=65535-n:=by
  intro n hn
  have:=congrArg BitVec.toNat (BitVec.xor_allOnes (x:=BitVec.ofNat 16 n))
  rw[BitVec.toNat_xor,BitVec.toNat_not,BitVec.toNat_ofNat,BitVec.toNat_allOnes,Nat.mod_eq_of_lt hn]at this
  exact this
 rw[h3]
 constructor
 ·intro h
  have h':n^^^m=65535:=by omega
  have h5:m=n^^^65535:=by rw[←h',←Nat.xor_assoc,Nat.xor_self,Nat.zero_xor]
  rw[h4 n hn]at h5
  omega
 ·intro h
  have h5:m=n^^^65535:=by rw[h4 n hn];omega
  rw[h5,←Nat.xor_assoc,Nat.xor_self,Nat.zero_xor]
  rfl
def xG:Nat→DP Unit
 |0=>.ret ()
 |n+1=>.get 8 fun v=>.uq v (xG n)
def jc:DP Unit:=.align (.get 16 fun n=>.get 16 fun m=>if n+m=65535 then .room n (xG n.toNat)else .fail 80)
section
variable{K Kp:AV→AH→Prop}{xs:List Int}{lim gb cb g c:Nat}{s:DS}
theorem QV (l:List Bool)(n:Nat)(hn:n≤16):∃k:Nat,num (l.take n)=k∧k<2^n:=by
 obtain⟨k,hk⟩:=Int.eq_ofNat_of_zero_le (num_nonneg (l.take n))
 refine⟨k,hk,?_⟩
 have h1:(2:Int)^(l.take n).length≤2^n:=by exact_mod_cast Nat.pow_le_pow_right (by omega) (show(l.take n).length≤n by rw[List.length_take];omega)
 have h2:=fU (l.take n)
 have h3:((2^n:Nat):Int)=2^n:=by push_cast;rfl
 omega
theorem eI (E:AH){n:Nat}{α:Type}{k:Int→DP α}{R:Except Int (α×DS)}(hR:(DP.get n k).run (unpack xs) lim s=R)(ok:cZ xs lim c s)(hn:n≤16)
 (h0:∀(v:Nat) s',v<2^n→s'.out=s.out→s'.a=s.a+n→cZ xs lim c s'→(k v).run (unpack xs) lim s'=R→K (.int .i64 (v:Int)) (zH lim gb cb xs g c s'++E))
 (h1:R=.error 50→Kp (bB 50) (zH lim gb cb xs g c s++E)):
 aa Try.prog 35 [.ptr 0 0 0,.int .i64 (n:Int)] (zH lim gb cb xs g c s++E) K Kp:=by
 have uh:=aL xs
 simp only[DP.run]at hR
 refine IU E ok hn (fun h=>?_) (fun h=>?_)
 ·rw[if_pos h]at hR
  obtain⟨v,hv,rR⟩:=QV ((unpack xs).drop s.a) n hn
  rw[hv]at hR⊢
  exact h0 v _ rR rfl rfl ⟨ok.xl,ok.xb,by show s.a+n≤_;omega,ok.ll,ok.ol,ok.oc⟩ hR
 ·rw[if_neg h]at hR
  exact h1 hR.symm
theorem UD (E:AH){v:Int}{α:Type}{k:DP α}{R:Except Int (α×DS)}(hR:(DP.uq v k).run (unpack xs) lim s=R)(ok:cZ xs lim c s)(hb:∀x∈s.out,0≤x∧x<256)(hv:0≤v∧v<256)
 (h0:∀g' c' s',s'.out=s.out++[v]→s'.a=s.a→(∀x∈s'.out,0≤x∧x<256)→cZ xs lim c' s'→k.run (unpack xs) lim s'=R→K (.aE []) (zH lim gb cb xs g' c' s'++E))
 (h1:R=.error 81→Kp (bB 81) (zH lim gb cb xs g c s++E)):
 aa Try.prog 61 [.ptr 0 0 0,.int .u8 v] (zH lim gb cb xs g c s++E) K Kp:=by
 simp only[DP.run]at hR
 refine uL E ok hv (fun g' c' h rQ=>?_) (fun h=>?_)
 ·rw[if_neg h]at hR
  refine h0 g' c' _ rfl rfl (fun x hx=>?_) rQ hR
  rcases List.mem_append.1 hx with hx|hx
  ·exact hb x hx
  ·rw[List.mem_singleton.1 hx];exact hv
 ·rw[if_pos h]at hR
  exact h1 hR.symm
theorem BF (ok:cZ xs lim c s)(hb:∀x∈s.out,0≤x∧x<256){R:Except Int (Unit×DS)}(hR:jc.run (unpack xs) lim s=R)
 (h0:∀g' c' s',R=.ok ((),s')→cZ xs lim c' s'→(∀x∈s'.out,0≤x∧x<256)→K (.aE []) (zH lim gb cb xs g' c' s'))
 (h1:∀e g' c' s',R=.error e→Kp (bB e) (zH lim gb cb xs g' c' s')):
 aa Try.prog 31 [.ptr 0 0 0] (zH lim gb cb xs g c s) K Kp:=by
 have uh:=aL xs
 have uG:=ok.xl
 have W9:=ok.al
 have Jg:=ok.ol
 have y6:=ok.ll
 unfold jc at hR
 rw[DP.run]at hR
 obtain⟨s1,fW⟩:∃s1:DS,{s with a:=(s.a+7)/8*8}=s1:=⟨_,rfl⟩
 have aaa:s1.a=(s.a+7)/8*8:=by rw[←fW]
 have Wn:s1.out=s.out:=by rw[←fW]
 have mZ:cZ xs lim c s1:=by rw[←fW];exact⟨ok.xl,ok.xb,by show(s.a+7)/8*8≤_;omega,ok.ll,ok.ol,ok.oc⟩
 rw[fW]at hR
 refine SR (fun _=>[0]) [] rfl ?_
 refine Qs ?_
 refine IK (i:=1) (j:=2) (xs:=xs) (a:=s.a) rfl rfl rfl (by omega) ok.al ?_
 rw[←aaa,←Wn]
 refine Qs ?_
 refine eI [] (n:=16) hR mZ (by omega) (fun n s2 hn rT qJ iw hR=>?_) (fun h=>h1 50 _ _ _ h)
 refine Qs ?_
 refine eI [] (n:=16) hR iw (by omega) (fun m s3 hm qF Nj iV hR=>?_) (fun h=>h1 50 _ _ _ h)
 have hx:=Vi hn hm
 refine Qs ?_
 refine And.intro (fun hc=>?_) (fun hc=>?_)
 ·have eN:¬n+m=65535:=fun e=>by rw[hx.2 e]at hc;simp at hc
  rw[if_neg (by omega)]at hR
  refine Qs ?_
  refine cm (fun h=>absurd h (by decide)) (fun _=>?_)
  exact h1 80 _ _ _ hR.symm
 have he:n+m=65535:=by
  refine hx.1 ?_
  simpa using hc
 rw[if_pos (by omega),Int.toNat_natCast]at hR
 have aaV:=iV.ol
 rw[DP.run]at hR
 refine Qs ?_
 refine And.intro (fun hc=>?_) (fun hc=>?_)
 ·have hg:(lim:Int)-s3.out.length<n:=by simpa using hc
  rw[if_pos hg]at hR
  refine Qs ?_
  refine cm (fun h=>absurd h (by decide)) (fun _=>?_)
  exact h1 81 _ _ _ hR.symm
 have hg:¬(lim:Int)-s3.out.length<n:=by simpa using hc
 rw[if_neg hg]at hR
 have AL:∀x∈s3.out,0≤x∧x<256:=by rw[qF,rT,Wn];exact hb
 refine Qs ?_
 refine WO.go (σ:=Nat×Nat×Nat×DS) (fun(j,g,c,s)=>cZ xs lim c s∧(∀x∈s.out,0≤x∧x<256)∧j≤n∧(xG (n-j)).run (unpack xs) lim s=R) (fun(j,_)=>n-j)
  (fun(j,_)=>[(0,.ptr 0 0 0),(33,.int .i64 (n:Int)),(34,.int .i64 (j:Int))]) (fun(j,g,c,s)=>zH lim gb cb xs g c s) (0,g,c,s3) ae mixed (by kernel_rfl) ⟨iV,AL,Nat.zero_le _,hR⟩ (aI rfl (aI rfl (aI rfl (trivial)))) (aI rfl (aI rfl (aI rfl (aI rfl (trivial))))) (fun _=>rfl) (fun _=>rfl) (fun _=>fN) ?_
 rintro⟨j,g,c,s4⟩ ⟨uf,Zx,hj,hR⟩ d0
 refine Qs ?_
 refine And.intro (fun hc=>?_) (fun hc=>?_)
 ·have LS:j<n:=by simp only[decide_eq_true_eq]at hc;omega
  rw[show n-j=n-(j+1)+1 by omega,xG]at hR
  refine Qs ?_
  refine eI [] (n:=8) hR uf (by omega) (fun v s5 hv AF ha5 py hR=>?_) (fun h=>h1 50 _ _ _ h)
  have rR:(v:Int)%256=v:=by omega
  refine Qs ?_
  rw[rR]
  refine UD [] hR py (by rw[AF];exact Zx) (by omega) (fun g6 c6 s6 UZ ha6 Rg K2 hR=>?_) (fun h=>h1 81 _ _ _ h)
  refine Qs ?_
  refine RO.same (j+1,g6,c6,s6) ⟨K2,Rg,LS,hR⟩ (show n-(j+1)<n-j by omega) (aI rfl (aI rfl (aI rfl (trivial)))) (aI rfl (aI rfl (aI rfl (aI rfl (trivial)))))
 ·obtain rfl:j=n:=by simp only[decide_eq_false_iff_not]at hc;omega
  rw[Nat.sub_self,xG,DP.run]at hR
  have hK:=h0 g c s4 hR.symm uf Zx
  refine Qs ?_
  exact hK
end
end Go.Proofs.Ytibadaomjlkoaaa
open Go.RowKit
namespace Go.Proofs.Ytibadaomjlkoaaa
set_option maxRecDepth 10000
def gp (T:List ((Int×Int)×Int))(n:Nat):Nat→List Int→DP (List Int)
 |0,l=>.ret l
 |f+1,l=>if n≤l.length then .ret l else(pZ T).bind fun v=>if v<16 then gp T n f (l++[v])else
   (if v=16 then(if l=[]then .fail 80 else .get 2 fun k=>.ret (l.getD (l.length-1) 0,3+k))else if v=17 then .get 3 fun k=>.ret (0,3+k)else .get 7 fun k=>.ret (0,11+k):DP (Int×Int)).bind fun r=>
    if(n:Int)-l.length<r.2 then .fail 80 else gp T n f (l++List.replicate r.2.toNat r.1)
section
variable{K Kp:AV→AH→Prop}{xs:List Int}{lim gb cb g c:Nat}{s:DS}
theorem Kd (E:AH)(i:Nat){es:List ((Int×Int)×Int)}{N:Int}{α:Type}{k:Int→DP α}{R:Except Int (α×DS)}(hR:((pZ es).bind k).run (unpack xs) lim s=R)(Nd:E[i]?=some (bX es))(HA:E[i+1]?=some (bU (i+4)))(ok:cZ xs lim c s)(m9:gq es)(hN:mM N es)
 (lN:(bu [.own 0,.own 1,.own 2,.own 3,.own (i+4),.own (i+5)]&&AV.nq [.own 0,.own 1,.own 2,.own 3,.own (i+4),.own (i+5)] [.ptr 0 0 0,.ptr 5 0 0])=true)
 (h0:∀v s',0≤v→v<N→s'.out=s.out→cZ xs lim c s'→(k v).run (unpack xs) lim s'=R→K (.int .i64 v) (zH lim gb cb xs g c s'++E))
 (h1:∀e s',R=.error e→Kp (bB e) (zH lim gb cb xs g c s'++E)):
 aa Try.prog 86 [.ptr 0 0 0,.ptr (i+5) 0 0] (zH lim gb cb xs g c s++E) K Kp:=by
 rw[DP.run_bind]at hR
 refine oC E i Nd HA ok m9 lN (fun v s' h rQ=>?_) (fun e s' h=>?_)
 ·rw[h]at hR
  obtain⟨b1,b2⟩:=qU hN h
  exact h0 v s' b1 b2 (nt h) rQ hR
 ·rw[h]at hR
  exact h1 e s' hR.symm
def HZ (lim gb cb:Nat)(xs:List Int)(T:List ((Int×Int)×Int))(g c:Nat)(s:DS):AH:=zH lim gb cb xs g c s++[bX T,bU 4]
def UL (lim gb cb:Nat)(xs:List Int)(T:List ((Int×Int)×Int))(g c:Nat)(s:DS)(gl cl:Nat)(l:List Int):AH:=zH lim gb cb xs g c s++[bX T,bU 4,.one true gl (.ints .u8 l cl)]
theorem nk {T:List ((Int×Int)×Int)}:kq 6 (HZ lim gb cb xs T g c s):=⟨by simp[af.nb,AV.qi,AV.nb,AO.nb],rfl,trivial,trivial,mO _ (.pair .i64 .i64) _,rfl,trivial⟩
theorem J2 {T:List ((Int×Int)×Int)}{gl cl:Nat}{l:List Int}:kq 7 (UL lim gb cb xs T g c s gl cl l):=⟨by simp[af.nb,AV.qi,AV.nb,AO.nb],rfl,trivial,trivial,mO _ (.pair .i64 .i64) _,rfl,trivial,trivial⟩
theorem xm {T:List ((Int×Int)×Int)}{n f0:Nat}(ok:cZ xs lim c s)(hT:gq T)(hN:mM 19 T)(hn:1≤n∧n≤400)(hf:n<f0){R:Except Int (List Int×DS)}(hR:(gp T n f0 []).run (unpack xs) lim s=R)
 (h0:∀gl cl l s',R=.ok (l,s')→s'.out=s.out→cZ xs lim c s'→l.length=n→(∀x∈l,0≤x∧x<256)→l.length≤cl→K (.sl 6 gl 0 l.length cl) (UL lim gb cb xs T g c s' gl cl l))
 (h1:∀e s',R=.error e→Kp (bB e) (HZ lim gb cb xs T g c s')):
 aa Try.prog 64 [.ptr 0 0 0,.ptr 5 0 0,.int .i64 (n:Int)] (HZ lim gb cb xs T g c s) K Kp:=by
 refine aa.k8 ?_
 refine Su (fun _=>[7]) [] rfl ?_
 refine Qs ?_
 refine WO.Dv (σ:=Nat×DS×Nat×Nat×List Int) (fun(f,s',gl,cl,l)=>s'.out=s.out∧cZ xs lim c s'∧l.length≤n∧l.length≤cl∧(∀x∈l,0≤x∧x<256)∧n<f+l.length∧(gp T n f l).run (unpack xs) lim s'=R) (fun(f,s',gl,cl,l)=>n-l.length)
  (fun(f,s',gl,cl,l)=>[(0,.ptr 0 0 0),(1,.ptr 5 0 0),(2,.int .i64 (n:Int)),(7,.sl 6 gl 0 l.length cl)]) (fun(f,s',gl,cl,l)=>UL lim gb cb xs T g c s' gl cl l) (f0,s,0,0,[]) ae mixed (by kernel_rfl)
  [(0,.ptr 0 0 0),(1,.ptr 5 0 0),(2,.int .i64 (n:Int)),(7,.ns)] _ ⟨rfl,ok,Nat.zero_le _,Nat.zero_le _,fun x hx=>(by cases hx),by omega,hR⟩ (aI rfl (aI rfl (aI rfl (aI rfl (trivial))))) rfl
  (Vw.pz (x:=.ints .u8 [] 0) ⟨rfl,rfl⟩ (And.intro (.inl rfl) (And.intro (.inl rfl) (And.intro (.inl rfl) (And.intro (.inr ⟨rfl,rfl⟩) trivial))))) (aI rfl (aI rfl (aI rfl (aI rfl (aI rfl (aI rfl (aI rfl (trivial)))))))) (fun _=>rfl) (fun _=>rfl) (fun _=>J2) ?_
 rintro⟨f,s1,gl,cl,l⟩ ⟨ho,mZ,hl,HE,hb,hf,hR⟩ d0
 obtain⟨f,rfl⟩:∃f',f=f'+1:=⟨f-1,by omega⟩
 rw[gp]at hR
 refine Qs ?_
 refine And.intro (fun hc=>?_) (fun hc=>?_)
 ·have bh:¬n≤l.length:=by simp only[decide_eq_true_eq]at hc;omega
  rw[if_neg bh]at hR
  refine Qs ?_
  refine Kd [bX T,bU 4,.one true gl (.ints .u8 l cl)] 0 hR rfl rfl mZ hT hN rfl (fun v s2 hv rR rT iw hR=>?_) (fun e s' h=>?_)
  ·refine Qs ?_
   refine And.intro (fun hc=>?_) (fun hc=>?_)
   ·have h16:v<16:=by simpa using hc
    rw[if_pos h16]at hR
    have e1:v%256=v:=by omega
    refine Qs ?_
    rw[e1]
    refine Qs ?_
    intro zs dk
    obtain rfl:zs=[v]:=by rw[dk];rfl
    refine Qs ?_
    intro c4 jM
    have qq:l.length+1≤c4:=jM
    have gm:∀x∈l++[v],0≤x∧x<256:=by
     intro x hx
     rcases List.mem_append.1 hx with hx|hx
     ·exact hb x hx
     ·rw[List.mem_singleton.1 hx];omega
    have o8:(l++[v]).length=l.length+1:=by rw[List.length_append];rfl
    refine Qs ?_
    refine RO.same (f,s2,gl+1,c4,l++[v]) ⟨by rw[rT,ho],iw,by rw[o8];omega,by rw[o8];exact qq,gm,by rw[o8];omega,hR⟩ (show n-(l++[v]).length<n-l.length by rw[o8];omega) (And.intro rfl (And.intro rfl (And.intro rfl (And.intro ?_ trivial)))) (aI rfl (aI rfl (aI rfl (aI rfl (aI rfl (aI rfl (aI rfl (trivial))))))))
    show AV.sl 6 (gl+1) 0 (l.length+1) c4=AV.sl 6 (gl+1) 0 (l++[v]).length c4
    rw[o8]
   have h16:¬v<16:=by simpa using hc
   rw[if_neg h16]at hR
   obtain rfl|rfl|rfl:v=16∨v=17∨v=18:=by omega
   ·rw[if_pos rfl]at hR
    refine Qs ?_
    refine And.intro (fun hc=>?_) (fun hc=>?_)
    ·have he:l=[]:=by simpa using hc
     rw[if_pos he]at hR
     refine Qs ?_
     refine cm (fun h=>absurd h (by decide)) (fun _=>?_)
     exact Exists.intro (HZ lim gb cb xs T g c s2) (And.intro (aI rfl (aI rfl (aI rfl (aI rfl (aI rfl (aI rfl (trivial))))))) (And.intro nk (And.intro rfl (h1 80 s2 hR.symm))))
    have he:¬l=[]:=by simpa using hc
    have hlp:1≤l.length:=by cases l with|nil=>exact absurd rfl he|cons x l=>simp
    rw[if_neg he]at hR
    obtain⟨y,hy⟩:∃y,l.getD (l.length-1) 0=y:=⟨_,rfl⟩
    have pR:0≤y∧y<256:=by
     rw[←hy,List.getD_eq_getElem?_getD,List.getElem?_eq_getElem (by omega),Option.getD_some]
     exact hb _ (List.getElem_mem _)
    have e6:((l.length:Int)-1).toNat+0=l.length-1:=by omega
    rw[hy]at hR
    refine Qs ?_
    rw[e6,hy]
    refine eI [bX T,bU 4,.one true gl (.ints .u8 l cl),.one true 0 (.cells [.int .i64 2,.int .i64 3])] (n:=2) hR iw (by omega) (fun v s3 hv3 qF Nj iV hR=>?_) (fun h=>Exists.intro (HZ lim gb cb xs T g c s2) (And.intro (aI rfl (aI rfl (aI rfl (aI rfl (aI rfl (aI rfl (trivial))))))) (And.intro nk (And.intro rfl (h1 50 s2 h)))))
    rw[DP.bind]at hR
    simp only at hR
    refine Qs ?_
    refine And.intro (fun hc=>?_) (fun hc=>?_)
    ·have hg:(n:Int)-l.length<3+v:=by simpa using hc
     rw[if_pos hg]at hR
     refine Qs ?_
     refine cm (fun h=>absurd h (by decide)) (fun _=>?_)
     exact Exists.intro (HZ lim gb cb xs T g c s3) (And.intro (aI rfl (aI rfl (aI rfl (aI rfl (aI rfl (aI rfl (trivial))))))) (And.intro nk (And.intro rfl (h1 80 s3 hR.symm))))
    have hg:¬(n:Int)-l.length<3+v:=by simpa using hc
    obtain⟨k,hk⟩:∃k:Nat,3+(v:Int)=(k:Int):=⟨3+v,by push_cast;rfl⟩
    rw[if_neg hg,hk,Int.toNat_natCast]at hR
    have Jk:1≤k∧k≤65536:=by omega
    refine Qs ?_
    rw[hk]
    refine cj (i:=8) rfl Jk pR ?_
    refine Qs ?_
    intro zs dk
    obtain rfl:zs=List.replicate k y:=by rw[dk];simp
    have Nb:(List.replicate k y).length=k:=List.length_replicate ..
    refine Qs ?_
    intro c4 jM
    have qq:l.length+k≤c4:=jM
    have gm:∀x∈l++List.replicate k y,0≤x∧x<256:=by
     intro x hx
     rcases List.mem_append.1 hx with hx|hx
     ·exact hb x hx
     ·rw[List.eq_of_mem_replicate hx];exact pR
    have o8:(l++List.replicate k y).length=l.length+k:=by rw[List.length_append,List.length_replicate]
    refine Qs ?_
    refine RO.same (f,s3,gl+1,c4,l++List.replicate k y) ⟨by rw[qF,rT,ho],iV,by rw[o8];omega,by rw[o8];exact qq,gm,by rw[o8];omega,hR⟩ (show n-(l++List.replicate k y).length<n-l.length by rw[o8];omega) (And.intro rfl (And.intro rfl (And.intro rfl (And.intro ?_ trivial)))) (aI rfl (aI rfl (aI rfl (aI rfl (aI rfl (aI rfl (aI rfl (trivial))))))))
    show AV.sl 6 (gl+1) 0 (l.length+k) c4=AV.sl 6 (gl+1) 0 (l++List.replicate k y).length c4
    rw[o8]
   ·rw[if_neg (by decide),if_pos rfl]at hR
    refine Qs ?_
    refine eI [bX T,bU 4,.one true gl (.ints .u8 l cl),.one true 0 (.cells [.int .i64 3,.int .i64 3])] (n:=3) hR iw (by omega) (fun v s3 hv3 qF Nj iV hR=>?_) (fun h=>Exists.intro (HZ lim gb cb xs T g c s2) (And.intro (aI rfl (aI rfl (aI rfl (aI rfl (aI rfl (aI rfl (trivial))))))) (And.intro nk (And.intro rfl (h1 50 s2 h)))))
    rw[DP.bind]at hR
    simp only at hR
    refine Qs ?_
    refine And.intro (fun hc=>?_) (fun hc=>?_)
    ·have hg:(n:Int)-l.length<3+v:=by simpa using hc
     rw[if_pos hg]at hR
     refine Qs ?_
     refine cm (fun h=>absurd h (by decide)) (fun _=>?_)
     exact Exists.intro (HZ lim gb cb xs T g c s3) (And.intro (aI rfl (aI rfl (aI rfl (aI rfl (aI rfl (aI rfl (trivial))))))) (And.intro nk (And.intro rfl (h1 80 s3 hR.symm))))
    have hg:¬(n:Int)-l.length<3+v:=by simpa using hc
    obtain⟨k,hk⟩:∃k:Nat,3+(v:Int)=(k:Int):=⟨3+v,by push_cast;rfl⟩
    rw[if_neg hg,hk,Int.toNat_natCast]at hR
    have Jk:1≤k∧k≤65536:=by omega
    refine Qs ?_
    rw[hk]
    refine cj (i:=8) rfl Jk (by decide) ?_
    refine Qs ?_
    intro zs dk
    obtain rfl:zs=List.replicate k (0:Int):=by rw[dk];simp
    have Nb:(List.replicate k (0:Int)).length=k:=List.length_replicate ..
    refine Qs ?_
    intro c4 jM
    have qq:l.length+k≤c4:=jM
    have gm:∀x∈l++List.replicate k (0:Int),0≤x∧x<256:=by
     intro x hx
     rcases List.mem_append.1 hx with hx|hx
     ·exact hb x hx
     ·rw[List.eq_of_mem_replicate hx];exact(by decide)
    have o8:(l++List.replicate k (0:Int)).length=l.length+k:=by rw[List.length_append,List.length_replicate]
    refine Qs ?_
    refine RO.same (f,s3,gl+1,c4,l++List.replicate k (0:Int)) ⟨by rw[qF,rT,ho],iV,by rw[o8];omega,by rw[o8];exact qq,gm,by rw[o8];omega,hR⟩ (show n-(l++List.replicate k (0:Int)).length<n-l.length by rw[o8];omega) (And.intro rfl (And.intro rfl (And.intro rfl (And.intro ?_ trivial)))) (aI rfl (aI rfl (aI rfl (aI rfl (aI rfl (aI rfl (aI rfl (trivial))))))))
    show AV.sl 6 (gl+1) 0 (l.length+k) c4=AV.sl 6 (gl+1) 0 (l++List.replicate k (0:Int)).length c4
    rw[o8]
   ·rw[if_neg (by decide),if_neg (by decide)]at hR
    refine Qs ?_
    refine eI [bX T,bU 4,.one true gl (.ints .u8 l cl),.one true 0 (.cells [.int .i64 7,.int .i64 11])] (n:=7) hR iw (by omega) (fun v s3 hv3 qF Nj iV hR=>?_) (fun h=>Exists.intro (HZ lim gb cb xs T g c s2) (And.intro (aI rfl (aI rfl (aI rfl (aI rfl (aI rfl (aI rfl (trivial))))))) (And.intro nk (And.intro rfl (h1 50 s2 h)))))
    rw[DP.bind]at hR
    simp only at hR
    refine Qs ?_
    refine And.intro (fun hc=>?_) (fun hc=>?_)
    ·have hg:(n:Int)-l.length<11+v:=by simpa using hc
     rw[if_pos hg]at hR
     refine Qs ?_
     refine cm (fun h=>absurd h (by decide)) (fun _=>?_)
     exact Exists.intro (HZ lim gb cb xs T g c s3) (And.intro (aI rfl (aI rfl (aI rfl (aI rfl (aI rfl (aI rfl (trivial))))))) (And.intro nk (And.intro rfl (h1 80 s3 hR.symm))))
    have hg:¬(n:Int)-l.length<11+v:=by simpa using hc
    obtain⟨k,hk⟩:∃k:Nat,11+(v:Int)=(k:Int):=⟨11+v,by push_cast;rfl⟩
    rw[if_neg hg,hk,Int.toNat_natCast]at hR
    have Jk:1≤k∧k≤65536:=by omega
    refine Qs ?_
    rw[hk]
    refine cj (i:=8) rfl Jk (by decide) ?_
    refine Qs ?_
    intro zs dk
    obtain rfl:zs=List.replicate k (0:Int):=by rw[dk];simp
    have Nb:(List.replicate k (0:Int)).length=k:=List.length_replicate ..
    refine Qs ?_
    intro c4 jM
    have qq:l.length+k≤c4:=jM
    have gm:∀x∈l++List.replicate k (0:Int),0≤x∧x<256:=by
     intro x hx
     rcases List.mem_append.1 hx with hx|hx
     ·exact hb x hx
     ·rw[List.eq_of_mem_replicate hx];exact(by decide)
    have o8:(l++List.replicate k (0:Int)).length=l.length+k:=by rw[List.length_append,List.length_replicate]
    refine Qs ?_
    refine RO.same (f,s3,gl+1,c4,l++List.replicate k (0:Int)) ⟨by rw[qF,rT,ho],iV,by rw[o8];omega,by rw[o8];exact qq,gm,by rw[o8];omega,hR⟩ (show n-(l++List.replicate k (0:Int)).length<n-l.length by rw[o8];omega) (And.intro rfl (And.intro rfl (And.intro rfl (And.intro ?_ trivial)))) (aI rfl (aI rfl (aI rfl (aI rfl (aI rfl (aI rfl (aI rfl (trivial))))))))
    show AV.sl 6 (gl+1) 0 (l.length+k) c4=AV.sl 6 (gl+1) 0 (l++List.replicate k (0:Int)).length c4
    rw[o8]
  ·exact Exists.intro (HZ lim gb cb xs T g c s') (And.intro (aI rfl (aI rfl (aI rfl (aI rfl (aI rfl (aI rfl (trivial))))))) (And.intro nk (And.intro rfl (h1 e s' h))))
 ·have LW:n≤l.length:=by simp only[decide_eq_false_iff_not]at hc;omega
  rw[if_pos LW,DP.run]at hR
  refine Qs ?_
  exact Exists.intro (UL lim gb cb xs T g c s1 gl cl l) (And.intro (aI rfl (aI rfl (aI rfl (aI rfl (aI rfl (aI rfl (aI rfl (trivial)))))))) (And.intro J2 (And.intro rfl (h0 gl cl l s1 hR.symm ho mZ (by omega) hb HE))))
end
end Go.Proofs.Ytibadaomjlkoaaa
open Go.RowKit
namespace Go.Proofs.Ytibadaomjlkoaaa
set_option maxRecDepth 10000
def bG:List Int:=List.replicate 144 8++List.replicate 112 9++List.replicate 24 7++List.replicate 8 8
def dC:List Int:=List.replicate 32 5
def FU:Nat:=1000001
section
variable{K Kp:AV→AH→Prop}{xs:List Int}{lim gb cb g c:Nat}{s:DS}
theorem IZ (h1:Kp (bB 80) (zH lim gb cb xs g c s)):aa Try.prog 34 [.ptr 0 0 0] (zH lim gb cb xs g c s) K Kp:=by
 refine SO (fun _=>[]) [] rfl ?_
 refine Qs ?_
 refine cm (fun h=>absurd h (by decide)) (fun _=>?_)
 exact h1
def EM:List (List AV):=[[.int .i64 144,.int .i64 8],[.int .i64 112,.int .i64 9],[.int .i64 24,.int .i64 7],[.int .i64 8,.int .i64 8]]
def aaD:List (Nat×Int):=[(144,8),(112,9),(24,7),(8,8)]
def cR (i:Nat):List Int:=(aaD.take i).flatMap fun r=>List.replicate r.1 r.2
theorem Ml:cR 4=bG:=by decide+kernel
def fxH (lim gb cb:Nat)(xs:List Int)(g c:Nat)(s:DS)(gl cl:Nat)(l:List Int):AH:=zH lim gb cb xs g c s++[.one true 0 (.cw 2 4 (fun j=>EM.getD j []) 4),.one true gl (.ints .u8 l cl)]
theorem Qm (k:Nat):(af.cw 2 4 (fun j=>EM.getD j []) 4).nb k:=by
 intro j
 by_cases h:j<4
 ·match j,h with
  |0,_=>rfl
  |1,_=>rfl
  |2,_=>rfl
  |3,_=>rfl
 ·show AV.qi k (EM.getD j [])=true
  rw[List.getD_eq_getElem?_getD,List.getElem?_eq_none (show EM.length≤j by show 4≤j;omega)];rfl
theorem Uz {gl cl:Nat}{l:List Int}:kq 6 (fxH lim gb cb xs g c s gl cl l):=⟨by simp[af.nb,AV.qi,AV.nb,AO.nb],rfl,trivial,trivial,Qm _,trivial,trivial⟩
theorem GR (E:AH)(i j:Nat){A B:List ((Int×Int)×Int)}{N N':Int}{f0:Nat}(Nd:E[i]?=some (bX A))(HA:E[i+1]?=some (bU (i+4)))(hj1:E[j]?=some (bX B))(U6:E[j+1]?=some (bU (j+4)))
 (lN:(bu [.own 0,.own 1,.own 2,.own 3,.own (i+4),.own (i+5),.own (j+4),.own (j+5)]&&AV.nq [.own 0,.own 1,.own 2,.own 3,.own (i+4),.own (i+5),.own (j+4),.own (j+5)] [.ptr 0 0 0,.ptr 5 0 0,.ptr 7 0 0])=true)
 (ok:cZ xs lim c s)(hb:∀x∈s.out,0≤x∧x<256)(hA:gq A)(hB:gq B)(Qf:mM N A)(Rn:mM N' B)(hf:lim<f0+s.out.length){R:Except Int (Unit×DS)}(hR:(dQ A B f0).run (unpack xs) lim s=R)
 (h0:∀g' c' s',R=.ok ((),s')→cZ xs lim c' s'→(∀x∈s'.out,0≤x∧x<256)→K (.aE []) (zH lim gb cb xs g' c' s'++E))
 (h1:∀e g' c' s',R=.error e→Kp (bB e) (zH lim gb cb xs g' c' s'++E)):
 aa Try.prog 62 [.ptr 0 0 0,.ptr (i+5) 0 0,.ptr (j+5) 0 0] (zH lim gb cb xs g c s++E) K Kp:=by
 have key:∀g' c' s',dw [.own 0,.own 1,.own 2,.own 3,.own (i+4),.own (i+5),.own (j+4),.own (j+5)] (zH lim gb cb xs g c s++E).length [.own 0,.own 1,.own 2,.own 3,.own (i+4),.own (i+5),.own (j+4),.own (j+5)] (M3 lim gb cb xs A B g' c' s') (zH lim gb cb xs g c s++E)=zH lim gb cb xs g' c' s'++E:=by
  intro g' c' s'
  show((((zH lim gb cb xs g' c' s'++E).set (i+4) (AO.one true 0 ((af.map (.pair .i64 .i64) (mm A)).rn [.own 0,.own 1,.own 2,.own 3,.own (i+4),.own (i+5),.own (j+4),.own (j+5)] (zH lim gb cb xs g c s++E).length))).set (i+5) (bU (i+4))).set (j+4) (AO.one true 0 ((af.map (.pair .i64 .i64) (mm B)).rn [.own 0,.own 1,.own 2,.own 3,.own (i+4),.own (i+5),.own (j+4),.own (j+5)] (zH lim gb cb xs g c s++E).length))).set (j+5) (bU (j+4))++[]=_
  rw[kr,kr,List.append_nil]
  show zH lim gb cb xs g' c' s'++((((E.set i (bX A)).set (i+1) (bU (i+4))).set j (bX B)).set (j+1) (bU (j+4)))=_
  rw[tu Nd,tu HA,tu hj1,tu U6]
 refine aa.lift [.own 0,.own 1,.own 2,.own 3,.own (i+4),.own (i+5),.own (j+4),.own (j+5)] (Ic (K:=fun r M=>∃g' c' s',r=.aE []∧M=M3 lim gb cb xs A B g' c' s'∧K r (zH lim gb cb xs g' c' s'++E)) (Kp:=fun r M=>∃e g' c' s',r=bB e∧M=M3 lim gb cb xs A B g' c' s'∧Kp r (zH lim gb cb xs g' c' s'++E)) ok hb hA hB Qf Rn hf hR
  (fun g' c' s' h k l=>⟨g',c',s',rfl,rfl,h0 g' c' s' h k l⟩) (fun e g' c' s' h=>⟨e,g',c',s',rfl,rfl,h1 e g' c' s' h⟩)) rfl lN
  ⟨⟨rfl,rfl⟩,⟨rfl,rfl⟩,⟨rfl,rfl⟩,⟨rfl,rfl⟩,⟨?_,rfl⟩,⟨?_,rfl⟩,⟨?_,rfl⟩,⟨?_,rfl⟩,trivial⟩ ⟨rfl,rfl,trivial,trivial,yK _ (.pair .i64 .i64) A,rfl,yK _ (.pair .i64 .i64) B,rfl,trivial⟩ ?_ ?_
 ·show E[i]?=some (AO.one true 0 ((af.map (.pair .i64 .i64) (mm A)).rn _ _))
  rw[kr];exact Nd
 ·exact HA
 ·show E[j]?=some (AO.one true 0 ((af.map (.pair .i64 .i64) (mm B)).rn _ _))
  rw[kr];exact hj1
 ·exact U6
 ·rintro r M' ⟨g',c',s',rfl,rfl,hk⟩
  refine⟨⟨rfl,rfl,rfl,rfl,rfl,rfl,rfl,rfl,rfl⟩,?_⟩
  rw[key]
  exact hk
 ·rintro r M' ⟨e,g',c',s',rfl,rfl,hk⟩
  refine⟨⟨rfl,rfl,rfl,rfl,rfl,rfl,rfl,rfl,rfl⟩,?_⟩
  rw[key]
  exact hk
theorem EL (ok:cZ xs lim c s)(hb:∀x∈s.out,0≤x∧x<256){R:Except Int (Unit×DS)}(hR:(dQ (bx (aj bG) []) (bx (aj dC) []) FU).run (unpack xs) lim s=R)
 (h0:∀g' c' s',R=.ok ((),s')→cZ xs lim c' s'→(∀x∈s'.out,0≤x∧x<256)→K (.aE []) (zH lim gb cb xs g' c' s'))
 (h1:∀e g' c' s',R=.error e→Kp (bB e) (zH lim gb cb xs g' c' s')):
 aa Try.prog 32 [.ptr 0 0 0] (zH lim gb cb xs g c s) K Kp:=by
 refine aa.k8 ?_
 refine SQ (fun _=>[]) [] rfl ?_
 refine Qs ?_
 refine WO.Dv (σ:=Nat×Nat×Nat) (fun(i,gl,cl)=>i≤4∧(cR i).length≤cl) (fun(i,_)=>4-i) (fun(i,gl,cl)=>[(0,.ptr 0 0 0),(2,.sl 5 gl 0 (cR i).length cl),(9,.sl 4 0 0 4 4),(10,.int .i64 4),(11,.int .i64 (i:Int))])
  (fun(i,gl,cl)=>fxH lim gb cb xs g c s gl cl (cR i)) (0,0,0) ae mixed (by kernel_rfl) [(0,.ptr 0 0 0),(2,.ns),(9,.sl 4 0 0 4 4),(10,.int .i64 4),(11,.int .i64 0)] _ ⟨Nat.zero_le _,Nat.zero_le _⟩ (aI rfl (aI rfl (aI rfl (aI rfl (aI rfl (trivial)))))) rfl
  (Vw.trans (Vw.cw (i:=4) (fun j=>EM.getD j []) rfl ?_) (Vw.pz (x:=.ints .u8 [] 0) ⟨rfl,rfl⟩ (And.intro (.inl rfl) (And.intro (.inr ⟨rfl,rfl⟩) (And.intro (.inl rfl) (And.intro (.inl rfl) (And.intro (.inl rfl) trivial))))))) (aI rfl (aI rfl (aI rfl (aI rfl (aI rfl (aI rfl (trivial))))))) (fun _=>rfl) (fun _=>rfl) (fun _=>Uz) ?_
 ·intro r hr
  refine congrArg (fun l=>List.getD l r []) (?_:EM=_)
  kernel_rfl
 rintro⟨i,gl,cl⟩ ⟨hi,HE⟩ d0
 refine Or.elim (Nat.lt_or_ge i 4) (fun hl=>?_) (fun hl=>?_)
 ·match i,hl with
  |0,_=>
   have hp:cR 1=cR 0++List.replicate 144 8:=by decide+kernel
   have cg:(cR 0).length=0:=by decide+kernel
   have Ew:(cR 1).length=0+144:=by decide+kernel
   have Uj:(cR 0).length≤cl:=HE
   have Nb:(List.replicate 144 (8:Int)).length=144:=List.length_replicate ..
   refine Qs ?_
   refine cj (i:=7) (k:=144) (v:=8) rfl (by omega) (by omega) ?_
   refine Qs ?_
   intro zs dk
   obtain rfl:zs=List.replicate 144 8:=by rw[dk];rfl
   refine Qs ?_
   intro c4 jM
   have qq:(cR 0).length+144≤c4:=jM
   refine Qs ?_
   refine RO.same (1,gl+1,c4) ⟨by decide,by show(cR 1).length≤c4;omega⟩ (show 4-1<4-0 by decide) (And.intro rfl (And.intro ?_ (aI rfl (aI rfl (aI rfl (trivial)))))) (And.intro rfl (And.intro rfl (And.intro rfl (And.intro rfl (And.intro rfl (And.intro ?_ trivial))))))
   ·show AV.sl 5 (gl+1) 0 ((cR 0).length+144) c4=AV.sl 5 (gl+1) 0 (cR 1).length c4
    rw[Ew,cg]
   ·show AO.one true (gl+1) (.ints .u8 (cR 0++List.replicate 144 8) c4)=AO.one true (gl+1) (.ints .u8 (cR 1) c4)
    rw[hp]
  |1,_=>
   have hp:cR 2=cR 1++List.replicate 112 9:=by decide+kernel
   have cg:(cR 1).length=144:=by decide+kernel
   have Ew:(cR 2).length=144+112:=by decide+kernel
   have Uj:(cR 1).length≤cl:=HE
   have Nb:(List.replicate 112 (9:Int)).length=112:=List.length_replicate ..
   refine Qs ?_
   refine cj (i:=7) (k:=112) (v:=9) rfl (by omega) (by omega) ?_
   refine Qs ?_
   intro zs dk
   obtain rfl:zs=List.replicate 112 9:=by rw[dk];rfl
   refine Qs ?_
   intro c4 jM
   have qq:(cR 1).length+112≤c4:=jM
   refine Qs ?_
   refine RO.same (2,gl+1,c4) ⟨by decide,by show(cR 2).length≤c4;omega⟩ (show 4-2<4-1 by decide) (And.intro rfl (And.intro ?_ (aI rfl (aI rfl (aI rfl (trivial)))))) (And.intro rfl (And.intro rfl (And.intro rfl (And.intro rfl (And.intro rfl (And.intro ?_ trivial))))))
   ·show AV.sl 5 (gl+1) 0 ((cR 1).length+112) c4=AV.sl 5 (gl+1) 0 (cR 2).length c4
    rw[Ew,cg]
   ·show AO.one true (gl+1) (.ints .u8 (cR 1++List.replicate 112 9) c4)=AO.one true (gl+1) (.ints .u8 (cR 2) c4)
    rw[hp]
  |2,_=>
   have hp:cR 3=cR 2++List.replicate 24 7:=by decide+kernel
   have cg:(cR 2).length=256:=by decide+kernel
   have Ew:(cR 3).length=256+24:=by decide+kernel
   have Uj:(cR 2).length≤cl:=HE
   have Nb:(List.replicate 24 (7:Int)).length=24:=List.length_replicate ..
   refine Qs ?_
   refine cj (i:=7) (k:=24) (v:=7) rfl (by omega) (by omega) ?_
   refine Qs ?_
   intro zs dk
   obtain rfl:zs=List.replicate 24 7:=by rw[dk];rfl
   refine Qs ?_
   intro c4 jM
   have qq:(cR 2).length+24≤c4:=jM
   refine Qs ?_
   refine RO.same (3,gl+1,c4) ⟨by decide,by show(cR 3).length≤c4;omega⟩ (show 4-3<4-2 by decide) (And.intro rfl (And.intro ?_ (aI rfl (aI rfl (aI rfl (trivial)))))) (And.intro rfl (And.intro rfl (And.intro rfl (And.intro rfl (And.intro rfl (And.intro ?_ trivial))))))
   ·show AV.sl 5 (gl+1) 0 ((cR 2).length+24) c4=AV.sl 5 (gl+1) 0 (cR 3).length c4
    rw[Ew,cg]
   ·show AO.one true (gl+1) (.ints .u8 (cR 2++List.replicate 24 7) c4)=AO.one true (gl+1) (.ints .u8 (cR 3) c4)
    rw[hp]
  |3,_=>
   have hp:cR 4=cR 3++List.replicate 8 8:=by decide+kernel
   have cg:(cR 3).length=280:=by decide+kernel
   have Ew:(cR 4).length=280+8:=by decide+kernel
   have Uj:(cR 3).length≤cl:=HE
   have Nb:(List.replicate 8 (8:Int)).length=8:=List.length_replicate ..
   refine Qs ?_
   refine cj (i:=7) (k:=8) (v:=8) rfl (by omega) (by omega) ?_
   refine Qs ?_
   intro zs dk
   obtain rfl:zs=List.replicate 8 8:=by rw[dk];rfl
   refine Qs ?_
   intro c4 jM
   have qq:(cR 3).length+8≤c4:=jM
   refine Qs ?_
   refine RO.same (4,gl+1,c4) ⟨by decide,by show(cR 4).length≤c4;omega⟩ (show 4-4<4-3 by decide) (And.intro rfl (And.intro ?_ (aI rfl (aI rfl (aI rfl (trivial)))))) (And.intro rfl (And.intro rfl (And.intro rfl (And.intro rfl (And.intro rfl (And.intro ?_ trivial))))))
   ·show AV.sl 5 (gl+1) 0 ((cR 3).length+8) c4=AV.sl 5 (gl+1) 0 (cR 4).length c4
    rw[Ew,cg]
   ·show AO.one true (gl+1) (.ints .u8 (cR 3++List.replicate 8 8) c4)=AO.one true (gl+1) (.ints .u8 (cR 4) c4)
    rw[hp]
 ·obtain rfl:i=4:=by omega
  simp only[Ml]at HE
  have hAu:∀x∈bG,0≤x∧x<256:=by decide+kernel
  have Vc:∀x∈dC,0≤x∧x<256:=by decide+kernel
  have Nl:bG.length=288:=by decide+kernel
  have Xs:aB bG=0:=by decide+kernel
  have Xq:aB dC=0:=by decide+kernel
  have y6:=ok.ll
  refine Qs ?_
  rw[Ml]
  refine uZ (i:=5) (ls:=bG) rfl rfl (by omega) hAu (fun _=>?_) (fun h=>absurd Xs h)
  refine Qs ?_
  refine cj (i:=8) (k:=32) (v:=5) rfl (by omega) (by omega) ?_
  refine Qs ?_
  refine uZ (i:=9) (ls:=dC) rfl rfl (by decide) Vc (fun _=>?_) (fun h=>absurd Xq h)
  refine Qs ?_
  refine GR [.one true 0 (.cw 2 4 (fun j=>EM.getD j []) 4),.one true gl (.ints .u8 bG cl),bX (bx (aj bG) []),bU 6,.one true 0 (.ints .u8 [5] 1),.one true 0 (.ints .u8 dC 32),bX (bx (aj dC) []),bU 10] 2 6 rfl rfl rfl rfl rfl ok hb (gP _) (gP _) (kV (N:=2000) (by omega)) (kV (N:=2000) (by decide)) (by unfold FU;omega) hR (fun g' c' s' h k l=>?_) (fun e g' c' s' h=>?_)
  ·refine Qs ?_
   exact Exists.intro (zH lim gb cb xs g' c' s') (And.intro (aI rfl (aI rfl (aI rfl (aI rfl (trivial))))) (And.intro fN (And.intro rfl (h0 g' c' s' h k l))))
  ·exact Exists.intro (zH lim gb cb xs g' c' s') (And.intro (aI rfl (aI rfl (aI rfl (aI rfl (trivial))))) (And.intro fN (And.intro rfl (h1 e g' c' s' h))))
end
end Go.Proofs.Ytibadaomjlkoaaa
open Go.RowKit
namespace Go.Proofs.Ytibadaomjlkoaaa
set_option maxRecDepth 10000
def kG:List Nat:=[16,17,18,0,8,7,9,6,10,5,11,4,12,3,13,2,14,1,15]
def sx:Nat→Nat→List Int→DP (List Int)
 |0,_,ls=>.ret ls
 |n+1,i,ls=>.get 3 fun v=>sx n (i+1) (ls.set (kG.getD i 0) v)
def Cb:DP Unit:=.get 5 fun a=>.get 5 fun b=>.get 4 fun c=>if 286<a+257∨30<b+1 then .fail 80 else
 (sx (c.toNat+4) 0 (List.replicate 19 0)).bind fun ls=>(gH ls).bind fun T=>(gp T (a.toNat+257+(b.toNat+1)) 401 []).bind fun l=>if l.getD 256 0=0 then .fail 80 else
  (gH (l.take (a.toNat+257))).bind fun A=>(gH (l.drop (a.toNat+257))).bind fun B=>dQ A B FU
section
variable{K Kp:AV→AH→Prop}{xs:List Int}{lim gb cb g c:Nat}{s:DS}
theorem ya {M:AH}{i g off n c0 co:Nat}{o:Bool}{ls ys:List Int}(hi:M[i]?=some (.one o g (.ints .u8 ys co)))(hn:n=ls.length)(hy:ls=(ys.drop off).take ls.length)(hc:off+ls.length≤co)(hl:ls.length≤2000)(hu:∀x∈ls,0≤x∧x<256)
 (h0:aB ls=0→K (.ptr (M.length+1) 0 0) (M++[bX (bx (aj ls) []),bU M.length]))
 (h1:aB ls≠0→Kp (bB (aB ls)) M):aa Try.prog 63 [.sl i g off n c0] M K Kp:=by
 subst hn
 refine aa.lift [.cP i g off] (uY (ls:=ls) (c0:=c0) (c:=ls.length) (K:=fun r M=>aB ls=0∧r=.ptr 2 0 0∧M=[.one false 0 (.ints .u8 ls ls.length),bX (bx (aj ls) []),bU 1]) (Kp:=fun v M=>aB ls≠0∧v=bB (aB ls)∧M=[.one false 0 (.ints .u8 ls ls.length)]) hl hu (fun h=>⟨h,rfl,rfl⟩) (fun h=>⟨h,rfl,rfl⟩)) (by simp[AV.mX,AV.rn,sr,uB,uC,TE.i]) rfl ⟨⟨_,_,_,rfl,ao hi,cq.ints hc hy⟩,trivial⟩ ⟨trivial,trivial⟩ ?_ ?_
 ·rintro r M' ⟨e,rfl,rfl⟩
  refine⟨⟨rfl,rfl⟩,?_⟩
  have:=h0 e
  unfold bX at this
  rw[←kr [.cP i g off] M.length (.pair .i64 .i64) (bx (aj ls) [])]at this
  exact this
 ·rintro r M' ⟨e,rfl,rfl⟩
  refine⟨⟨rfl,rfl⟩,?_⟩
  have:=h1 e
  rw[←List.append_nil M]at this
  exact this
theorem Bo (E:AH)(i:Nat){T:List ((Int×Int)×Int)}{n f0:Nat}(Nd:E[i]?=some (bX T))(HA:E[i+1]?=some (bU (i+4)))
 (lN:(bu [.own 0,.own 1,.own 2,.own 3,.own (i+4),.own (i+5)]&&AV.nq [.own 0,.own 1,.own 2,.own 3,.own (i+4),.own (i+5)] [.ptr 0 0 0,.ptr 5 0 0,.int .i64 (n:Int)])=true)
 (ok:cZ xs lim c s)(hT:gq T)(hN:mM 19 T)(hn:1≤n∧n≤400)(hf:n<f0){R:Except Int (List Int×DS)}(hR:(gp T n f0 []).run (unpack xs) lim s=R)
 (h0:∀gl cl l s',R=.ok (l,s')→s'.out=s.out→cZ xs lim c s'→l.length=n→(∀x∈l,0≤x∧x<256)→l.length≤cl→K (.sl (E.length+4) gl 0 l.length cl) (zH lim gb cb xs g c s'++(E++[.one true gl (.ints .u8 l cl)])))
 (h1:∀e s',R=.error e→Kp (bB e) (zH lim gb cb xs g c s'++E)):
 aa Try.prog 64 [.ptr 0 0 0,.ptr (i+5) 0 0,.int .i64 (n:Int)] (zH lim gb cb xs g c s++E) K Kp:=by
 have key:∀s' X,dw [.own 0,.own 1,.own 2,.own 3,.own (i+4),.own (i+5)] (zH lim gb cb xs g c s++E).length [.own 0,.own 1,.own 2,.own 3,.own (i+4),.own (i+5)] (zH lim gb cb xs g c s'++bX T::bU 4::X) (zH lim gb cb xs g c s++E)=zH lim gb cb xs g c s'++(E++QN [.own 0,.own 1,.own 2,.own 3,.own (i+4),.own (i+5)] (zH lim gb cb xs g c s++E).length X):=by
  intro s' X
  show((zH lim gb cb xs g c s'++E).set (i+4) (AO.one true 0 ((af.map (.pair .i64 .i64) (mm T)).rn [.own 0,.own 1,.own 2,.own 3,.own (i+4),.own (i+5)] (zH lim gb cb xs g c s++E).length))).set (i+5) (bU (i+4))++QN [.own 0,.own 1,.own 2,.own 3,.own (i+4),.own (i+5)] (zH lim gb cb xs g c s++E).length X=_
  rw[kr]
  show zH lim gb cb xs g c s'++((E.set i (bX T)).set (i+1) (bU (i+4))++QN [.own 0,.own 1,.own 2,.own 3,.own (i+4),.own (i+5)] (zH lim gb cb xs g c s++E).length X)=_
  rw[tu Nd,tu HA]
 refine aa.lift [.own 0,.own 1,.own 2,.own 3,.own (i+4),.own (i+5)] (xm (K:=fun r M=>∃gl cl l s',r=.sl 6 gl 0 l.length cl∧M=UL lim gb cb xs T g c s' gl cl l∧K (.sl (E.length+4) gl 0 l.length cl) (zH lim gb cb xs g c s'++(E++[.one true gl (.ints .u8 l cl)]))) (Kp:=fun r M=>∃e s',r=bB e∧M=HZ lim gb cb xs T g c s'∧Kp r (zH lim gb cb xs g c s'++E)) ok hT hN hn hf hR
  (fun gl cl l s' a1 a2 a3 a4 a5 a6=>⟨gl,cl,l,s',rfl,rfl,h0 gl cl l s' a1 a2 a3 a4 a5 a6⟩) (fun e s' h=>⟨e,s',rfl,rfl,h1 e s' h⟩)) rfl lN
  ⟨⟨rfl,rfl⟩,⟨rfl,rfl⟩,⟨rfl,rfl⟩,⟨rfl,rfl⟩,⟨?_,rfl⟩,⟨?_,rfl⟩,trivial⟩ ⟨rfl,rfl,trivial,trivial,yK _ (.pair .i64 .i64) T,rfl,trivial⟩ ?_ ?_
 ·show E[i]?=some (AO.one true 0 ((af.map (.pair .i64 .i64) (mm T)).rn _ _))
  rw[kr];exact Nd
 ·exact HA
 ·rintro r M' ⟨gl,cl,l,s',rfl,rfl,hk⟩
  refine⟨⟨rfl,rfl,rfl,rfl,rfl,rfl,rfl⟩,?_⟩
  have:=key s' [.one true gl (.ints .u8 l cl)]
  rw[show UL lim gb cb xs T g c s' gl cl l=zH lim gb cb xs g c s'++bX T::bU 4::[.one true gl (.ints .u8 l cl)]from rfl,this]
  exact hk
 ·rintro r M' ⟨e,s',rfl,rfl,hk⟩
  refine⟨⟨rfl,rfl,rfl,rfl,rfl,rfl,rfl⟩,?_⟩
  have:=key s' []
  rw[show HZ lim gb cb xs T g c s'=zH lim gb cb xs g c s'++bX T::bU 4::[]from rfl,this]
  show Kp _ (zH lim gb cb xs g c s'++(E++[]))
  rw[List.append_nil]
  exact hk
def zHl (lim gb cb:Nat)(xs:List Int)(g c:Nat)(s:DS)(ls:List Int):AH:=zH lim gb cb xs g c s++[.one true 0 (.ints .u8 ls 19)]
theorem RI {ls:List Int}:kq 5 (zHl lim gb cb xs g c s ls):=⟨by simp[af.nb,AV.qi,AV.nb,AO.nb],rfl,trivial,trivial,trivial,trivial⟩
theorem AS (ok:cZ xs lim c s)(hb:∀x∈s.out,0≤x∧x<256){R:Except Int (Unit×DS)}(hR:Cb.run (unpack xs) lim s=R)
 (h0:∀g' c' s',R=.ok ((),s')→cZ xs lim c' s'→(∀x∈s'.out,0≤x∧x<256)→K (.aE []) (zH lim gb cb xs g' c' s'))
 (h1:∀e g' c' s',R=.error e→Kp (bB e) (zH lim gb cb xs g' c' s')):
 aa Try.prog 33 [.ptr 0 0 0] (zH lim gb cb xs g c s) K Kp:=by
 refine aa.k8 ?_
 refine SP (fun _=>[]) [] rfl ?_
 unfold Cb at hR
 refine Qs ?_
 refine eI [] (n:=5) hR ok (by omega) (fun a s1 ha EA Js mZ hR=>?_) (fun h=>Exists.intro (zH lim gb cb xs g c s) (And.intro (aI rfl (aI rfl (aI rfl (aI rfl (trivial))))) (And.intro fN (And.intro rfl (h1 50 g c s h)))))
 refine Qs ?_
 refine eI [] (n:=5) hR mZ (by omega) (fun b s2 gm rT qJ iw hR=>?_) (fun h=>Exists.intro (zH lim gb cb xs g c s1) (And.intro (aI rfl (aI rfl (aI rfl (aI rfl (trivial))))) (And.intro fN (And.intro rfl (h1 50 g c s1 h)))))
 refine Qs ?_
 refine eI [] (n:=4) hR iw (by omega) (fun cc s3 JY qF Nj iV hR=>?_) (fun h=>Exists.intro (zH lim gb cb xs g c s2) (And.intro (aI rfl (aI rfl (aI rfl (aI rfl (trivial))))) (And.intro fN (And.intro rfl (h1 50 g c s2 h)))))
 simp only[Int.toNat_natCast]at hR
 refine Qs ?_
 refine And.intro (fun hA=>?_) (fun hA=>?_)
 ·have Me:(286:Int)<a+257:=by simpa using hA
  rw[if_pos (.inl Me)]at hR
  refine Qs ?_
  refine cm (fun h=>absurd h (by decide)) (fun _=>?_)
  exact Exists.intro (zH lim gb cb xs g c s3) (And.intro (aI rfl (aI rfl (aI rfl (aI rfl (trivial))))) (And.intro fN (And.intro rfl (h1 80 _ _ _ hR.symm))))
 have Me:¬(286:Int)<a+257:=by simpa using hA
 refine Qs ?_
 refine And.intro (fun hB=>?_) (fun hB=>?_)
 ·have Vd:(30:Int)<b+1:=by simpa using hB
  rw[if_pos (.inr Vd)]at hR
  refine Qs ?_
  refine cm (fun h=>absurd h (by decide)) (fun _=>?_)
  exact Exists.intro (zH lim gb cb xs g c s3) (And.intro (aI rfl (aI rfl (aI rfl (aI rfl (trivial))))) (And.intro fN (And.intro rfl (h1 80 _ _ _ hR.symm))))
 have Vd:¬(30:Int)<b+1:=by simpa using hB
 rw[if_neg (by rintro(h|h);exact Me h;exact Vd h),DP.run_bind]at hR
 obtain⟨R2,qK⟩:∃R2,(sx (cc+4) 0 (List.replicate 19 0)).run (unpack xs) lim s3=R2:=⟨_,rfl⟩
 rw[qK]at hR
 refine Qs ?_
 refine WO.go (σ:=Nat×DS×List Int) (fun(i,s',ls)=>s'.out=s.out∧cZ xs lim c s'∧i≤cc+4∧ls.length=19∧(∀x∈ls,0≤x∧x<256)∧(sx (cc+4-i) i ls).run (unpack xs) lim s'=R2) (fun(i,_)=>cc+4-i)
  (fun(i,_)=>[(0,.ptr 0 0 0),(2,.int .i64 ((a:Int)+257)),(3,.int .i64 ((b:Int)+1)),(5,.sl 4 0 0 19 19),(25,.int .i64 ((cc:Int)+4)),(26,.int .i64 (i:Int))]) (fun(i,s',ls)=>zHl lim gb cb xs g c s' ls) (0,s3,List.replicate 19 0) ae mixed (by kernel_rfl)
  ⟨by rw[qF,rT,EA],iV,Nat.zero_le _,by decide,by decide,qK⟩ (aI rfl (aI rfl (aI rfl (aI rfl (aI rfl (aI rfl (trivial))))))) (aI rfl (aI rfl (aI rfl (aI rfl (aI rfl (trivial)))))) (fun _=>rfl) (fun _=>rfl) (fun _=>RI) ?_
 rintro⟨i,s4,ls⟩ ⟨Ez,uf,hi,ED,CF,Xi⟩ d0
 refine Qs ?_
 refine And.intro (fun hc=>?_) (fun hc=>?_)
 ·have bh:i<cc+4:=by simp only[decide_eq_true_eq]at hc;omega
  rw[show cc+4-i=cc+4-(i+1)+1 by omega,sx]at Xi
  have aar:i<19:=by omega
  have fb:ByteArray.size {data:=#[16,17,18,0,8,7,9,6,10,5,11,4,12,3,13,2,14,1,15]}=19:=rfl
  obtain⟨z,hz⟩:∃z,(({data:=#[16,17,18,0,8,7,9,6,10,5,11,4,12,3,13,2,14,1,15]}:ByteArray).data.toList.getD ((i:Int)).toNat 0).toNat=z:=⟨_,rfl⟩
  have hzo:kG.getD i 0=z∧z<19:=by
   have:∀i,i<19→kG.getD i 0=(({data:=#[16,17,18,0,8,7,9,6,10,5,11,4,12,3,13,2,14,1,15]}:ByteArray).data.toList.getD i 0).toNat∧kG.getD i 0<19:=by decide
   obtain⟨k1,k2⟩:=this i aar
   rw[Int.toNat_natCast]at hz
   rw[hz]at k1
   exact⟨k1,k1▸k2⟩
  rw[hzo.1]at Xi
  refine Qs ?_
  rw[hz]
  refine Qs ?_
  refine eI [.one true 0 (.ints .u8 ls 19)] (n:=3) Xi uf (by omega) (fun v s5 hv AF ha5 py nc=>?_) (fun h=>Exists.intro (zH lim gb cb xs g c s4) (And.intro (aI rfl (aI rfl (aI rfl (aI rfl (trivial))))) (And.intro fN (And.intro rfl (h1 50 g c s4 (by rw[h]at hR;exact hR.symm))))))
  have rR:(v:Int)%256=v:=by omega
  have aap:∀x∈ls.set z (v:Int),0≤x∧x<256:=fun x hx=>by
   rcases List.mem_or_eq_of_mem_set hx with hx|rfl
   ·exact CF x hx
   ·omega
  refine Qs ?_
  refine RO.same (i+1,s5,ls.set z (v:Int)) ⟨by rw[AF,Ez],py,by omega,by rw[List.length_set];exact ED,aap,nc⟩ (show cc+4-(i+1)<cc+4-i by omega) (aI rfl (aI rfl (aI rfl (aI rfl (aI rfl (aI rfl (trivial))))))) (And.intro rfl (And.intro rfl (And.intro rfl (And.intro rfl (And.intro ?_ trivial)))))
  show AO.one true 0 (.ints .u8 (ls.set z (v:Int)) 19)=AO.one true 0 (.ints .u8 (ls.set z ((v:Int)%256)) 19)
  rw[rR]
 ·obtain rfl:i=cc+4:=by simp only[decide_eq_false_iff_not]at hc;omega
  rw[Nat.sub_self,sx,DP.run]at Xi
  rw[←Xi]at hR
  simp only at hR
  rw[DP.run_bind]at hR
  refine Qs ?_
  refine uZ (i:=4) (ls:=ls) rfl ED.symm (by omega) CF (fun he=>?_) (fun he=>?_)
  ·rw[gH,if_pos he,DP.run]at hR
   simp only at hR
   rw[DP.run_bind]at hR
   obtain⟨R3,hR3⟩:∃R3,(gp (bx (aj ls) []) (a+257+(b+1)) 401 []).run (unpack xs) lim s4=R3:=⟨_,rfl⟩
   rw[hR3]at hR
   have en:(a:Int)+257+((b:Int)+1)=((a+257+(b+1):Nat):Int):=by push_cast;rfl
   refine Qs ?_
   rw[en]
   refine Bo [.one true 0 (.ints .u8 ls 19),bX (bx (aj ls) []),bU 5] 1 rfl rfl rfl uf (gP _) (kV (by omega)) (by omega) (by omega) hR3 (fun gl cl l s6 e6 UZ K2 hl6 Rg HE=>?_) (fun e s' h=>?_)
   ·rw[e6]at hR
    simp only at hR
    refine Qs ?_
    refine And.intro (fun hc=>?_) (fun hc=>?_)
    ·have hz:l.getD 256 0=0:=by simpa using hc
     rw[if_pos hz]at hR
     refine Qs ?_
     refine cm (fun h=>absurd h (by decide)) (fun _=>?_)
     exact Exists.intro (zH lim gb cb xs g c s6) (And.intro (aI rfl (aI rfl (aI rfl (aI rfl (trivial))))) (And.intro fN (And.intro rfl (h1 80 _ _ _ hR.symm))))
    have hz:¬l.getD 256 0=0:=by simpa using hc
    rw[if_neg hz,DP.run_bind]at hR
    have Um:∀x∈s6.out,0≤x∧x<256:=by rw[UZ,Ez];exact hb
    have T3:(l.take (a+257)).length=a+257:=by rw[List.length_take];omega
    have hlB:(l.drop (a+257)).length=b+1:=by rw[List.length_drop];omega
    have hAu:∀x∈l.take (a+257),0≤x∧x<256:=fun x hx=>Rg x (List.mem_of_mem_take hx)
    have Vc:∀x∈l.drop (a+257),0≤x∧x<256:=fun x hx=>Rg x (List.mem_of_mem_drop hx)
    have e7:((a:Int)+257).toNat=a+257:=by omega
    have e8:bT cl (a+257) 0 1=a+257:=by rw[D7 (by omega)];omega
    have y6:=ok.ll
    refine Qs ?_
    rw[e7]
    simp only[e8]
    refine ya (i:=7) (off:=0) (ys:=l) (co:=cl) (ls:=l.take (a+257)) rfl T3.symm (by rw[T3,List.drop_zero]) (by omega) (by omega) hAu (fun Xs=>?_) (fun Xs=>?_)
    ·rw[gH,if_pos Xs,DP.run]at hR
     simp only at hR
     rw[DP.run_bind]at hR
     refine Qs ?_
     refine ya (i:=7) (off:=a+257) (ys:=l) (co:=cl) (ls:=l.drop (a+257)) rfl (List.length_drop ..).symm List.take_length.symm (by omega) (by omega) Vc (fun Xq=>?_) (fun Xq=>?_)
     ·rw[gH,if_pos Xq,DP.run]at hR
      simp only at hR
      refine Qs ?_
      refine GR [.one true 0 (.ints .u8 ls 19),bX (bx (aj ls) []),bU 5,.one true gl (.ints .u8 l cl),bX (bx (aj (l.take (a+257))) []),bU 8,bX (bx (aj (l.drop (a+257))) []),bU 10] 4 6 rfl rfl rfl rfl rfl K2 Um (gP _) (gP _) (kV (N:=2000) (by omega)) (kV (N:=2000) (by omega)) (by unfold FU;omega) hR (fun g' c' s' h k l=>?_) (fun e g' c' s' h=>?_)
      ·refine Qs ?_
       exact Exists.intro (zH lim gb cb xs g' c' s') (And.intro (aI rfl (aI rfl (aI rfl (aI rfl (trivial))))) (And.intro fN (And.intro rfl (h0 g' c' s' h k l))))
      ·exact Exists.intro (zH lim gb cb xs g' c' s') (And.intro (aI rfl (aI rfl (aI rfl (aI rfl (trivial))))) (And.intro fN (And.intro rfl (h1 e g' c' s' h))))
     ·rw[gH,if_neg Xq,DP.run]at hR
      exact Exists.intro (zH lim gb cb xs g c s6) (And.intro (aI rfl (aI rfl (aI rfl (aI rfl (trivial))))) (And.intro fN (And.intro rfl (h1 _ _ _ _ hR.symm))))
    ·rw[gH,if_neg Xs,DP.run]at hR
     exact Exists.intro (zH lim gb cb xs g c s6) (And.intro (aI rfl (aI rfl (aI rfl (aI rfl (trivial))))) (And.intro fN (And.intro rfl (h1 _ _ _ _ hR.symm))))
   ·rw[h]at hR
    exact Exists.intro (zH lim gb cb xs g c s') (And.intro (aI rfl (aI rfl (aI rfl (aI rfl (trivial))))) (And.intro fN (And.intro rfl (h1 e _ _ _ hR.symm))))
  ·rw[gH,if_neg he,DP.run]at hR
   exact Exists.intro (zH lim gb cb xs g c s4) (And.intro (aI rfl (aI rfl (aI rfl (aI rfl (trivial))))) (And.intro fN (And.intro rfl (h1 _ _ _ _ hR.symm))))
end
end Go.Proofs.Ytibadaomjlkoaaa
open Go.RowKit
namespace Go.Proofs.Ytibadaomjlkoaaa
set_option maxRecDepth 10000
def KV:DP Unit:=dQ (bx (aj bG) []) (bx (aj dC) []) FU
def gJ (k:Int):DP Unit:=if k=0 then jc else if k=1 then KV else if k=2 then Cb else .fail 80
def il:Nat→DP Unit
 |0=>.fail 50
 |f+1=>.get 1 fun last=>.get 2 fun k=>(gJ k).bind fun _=>if last=0 then il f else .ret ()
def FI:Nat:=8000001
section
variable{K Kp:AV→AH→Prop}{xs:List Int}{lim gb cb g c:Nat}{s:DS}
def zI (co lim gb cb:Nat)(xs:List Int)(r1 r2 r3:AV)(g c:Nat)(s:DS):AH:=[.one false 0 (.ints .u8 xs co),.one true 0 (.cells [r1]),.one true 0 (.cells [r2]),.one true 0 (.cells [r3]),rb gb cb xs,ro 4 gb cb xs s.a,
 .one true 0 (.cells [.ptr 5 0 0,.sl 8 g 0 s.out.length c,.int .i64 (lim:Int)]),.one true 0 (.cells [.fn (.func 31) [] [],.fn (.func 32) [] [],.fn (.func 33) [] [],.fn (.func 34) [] []]),.one true g (.ints .u8 s.out c)]
theorem JI {co:Nat}{r1 r2 r3:AV}{KH:AH→Prop}(h:KH (zI co lim gb cb xs r1 r2 r3 g c s++[.one true 0 (.cells [.int .i64 0])])):tW Try.prog 29 [.ptr 1 0 0,.ptr 2 0 0,.ptr 3 0 0] (zI co lim gb cb xs r1 r2 r3 g c s) none KH:=by
 refine tW.intro (x:=YJ (fun _=>[9]) []) ae mixed Try.func29 (rfl:Try.f29.body=_) (by kernel_rfl) rfl (by kernel_rfl) rfl rfl rfl rfl rfl ?_
 conv=>whnf
 refine And.intro rfl ?_
 conv=>whnf
 refine Qs ?_
 exact h
theorem jn {co:Nat}{r1 r2 r3:AV}{e:Int}{KH:AH→Prop}(h:KH (zI co lim gb cb xs .ns (.int .i64 0) (.int .i64 e) g c s++[.one true 0 (.cells [.int .i64 e])])):tW Try.prog 29 [.ptr 1 0 0,.ptr 2 0 0,.ptr 3 0 0] (zI co lim gb cb xs r1 r2 r3 g c s) (some (bB e)) KH:=by
 refine tW.intro (x:=YJ (fun _=>[9]) []) ae mixed Try.func29 (rfl:Try.f29.body=_) (by kernel_rfl) rfl (by kernel_rfl) rfl rfl rfl rfl rfl ?_
 conv=>whnf
 refine And.intro rfl ?_
 conv=>whnf
 refine Qs ?_
 exact h
theorem QH {f:Nat}{args Db:List AV}{co:Nat}{r1 r2 r3:AV}(h:aa Try.prog f args (zH lim gb cb xs g c s) (fun r M=>∃g' c' s',M=zH lim gb cb xs g' c' s'∧(∀m,r.rn [.own 6,.own 5,.own 4,.own 8] m=r)∧K r (zI co lim gb cb xs r1 r2 r3 g' c' s')) (fun r M=>∃g' c' s',M=zH lim gb cb xs g' c' s'∧(∀m,r.rn [.own 6,.own 5,.own 4,.own 8] m=r)∧Kp r (zI co lim gb cb xs r1 r2 r3 g' c' s')))
 (kz:AV.mX [.own 6,.own 5,.own 4,.own 8] 9 args=Db)(hw:AV.nq [.own 6,.own 5,.own 4,.own 8] args=true):aa Try.prog f Db (zI co lim gb cb xs r1 r2 r3 g c s) K Kp:=by
 refine aa.lift [.own 6,.own 5,.own 4,.own 8] h kz (by rw[hw];rfl) ⟨⟨rfl,rfl⟩,⟨rfl,rfl⟩,⟨rfl,rfl⟩,⟨rfl,rfl⟩,trivial⟩ ⟨rfl,rfl,trivial,trivial,trivial⟩ ?_ ?_
 ·rintro r M' ⟨g',c',s',rfl,hr,hk⟩
  refine⟨⟨rfl,rfl,rfl,rfl,rfl⟩,?_⟩
  rw[hr]
  exact hk
 ·rintro r M' ⟨g',c',s',rfl,hr,hk⟩
  refine⟨⟨rfl,rfl,rfl,rfl,rfl⟩,?_⟩
  rw[hr]
  exact hk
theorem Hh {co:Nat}{r1 r2 r3:AV}{n:Nat}{α:Type}{k:Int→DP α}{R:Except Int (α×DS)}(hR:(DP.get n k).run (unpack xs) lim s=R)(ok:cZ xs lim c s)(hn:n≤16)
 (h0:∀(v:Nat) s',v<2^n→s'.out=s.out→s'.a=s.a+n→cZ xs lim c s'→(k v).run (unpack xs) lim s'=R→K (.int .i64 (v:Int)) (zI co lim gb cb xs r1 r2 r3 g c s'))
 (h1:R=.error 50→Kp (bB 50) (zI co lim gb cb xs r1 r2 r3 g c s)):
 aa Try.prog 35 [.ptr 6 0 0,.int .i64 (n:Int)] (zI co lim gb cb xs r1 r2 r3 g c s) K Kp:=by
 refine QH (args:=[.ptr 0 0 0,.int .i64 (n:Int)]) ?_ rfl rfl
 exact eI [] hR ok hn (fun v s' a1 a2 a3 a4 a5=>⟨g,c,s',rfl,fun _=>rfl,h0 v s' a1 a2 a3 a4 a5⟩) (fun h=>⟨g,c,s,rfl,fun _=>rfl,h1 h⟩)
theorem Bb {co:Nat}{r1 r2 r3:AV}{f:Nat}{k:Nat}{R:Except Int (Unit×DS)}(hf:(k=0∧f=31)∨(k=1∧f=32)∨(k=2∧f=33)∨(k=3∧f=34))
 (hR:(gJ k).run (unpack xs) lim s=R)(ok:cZ xs lim c s)(hb:∀x∈s.out,0≤x∧x<256)
 (h0:∀g' c' s',R=.ok ((),s')→cZ xs lim c' s'→(∀x∈s'.out,0≤x∧x<256)→K (.aE []) (zI co lim gb cb xs r1 r2 r3 g' c' s'))
 (h1:∀e g' c' s',R=.error e→Kp (bB e) (zI co lim gb cb xs r1 r2 r3 g' c' s')):
 aa Try.prog f [.ptr 6 0 0] (zI co lim gb cb xs r1 r2 r3 g c s) K Kp:=by
 refine QH (args:=[.ptr 0 0 0]) ?_ rfl rfl
 rcases hf with⟨rfl,rfl⟩|⟨rfl,rfl⟩|⟨rfl,rfl⟩|⟨rfl,rfl⟩
 ·exact BF ok hb hR (fun g' c' s' a1 a2 a3=>⟨g',c',s',rfl,fun _=>rfl,h0 g' c' s' a1 a2 a3⟩) (fun e g' c' s' h=>⟨g',c',s',rfl,fun _=>rfl,h1 e g' c' s' h⟩)
 ·exact EL ok hb hR (fun g' c' s' a1 a2 a3=>⟨g',c',s',rfl,fun _=>rfl,h0 g' c' s' a1 a2 a3⟩) (fun e g' c' s' h=>⟨g',c',s',rfl,fun _=>rfl,h1 e g' c' s' h⟩)
 ·exact AS ok hb hR (fun g' c' s' a1 a2 a3=>⟨g',c',s',rfl,fun _=>rfl,h0 g' c' s' a1 a2 a3⟩) (fun e g' c' s' h=>⟨g',c',s',rfl,fun _=>rfl,h1 e g' c' s' h⟩)
 ·exact IZ ⟨g,c,s,rfl,fun _=>rfl,h1 80 g c s hR.symm⟩
end
end Go.Proofs.Ytibadaomjlkoaaa
