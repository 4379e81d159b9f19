import Derived.Test.YtibadaomjlkoaaaGdf
import Derived.Test.YtibadaomjlkoaaaGx
import Derived.Test.YtibadaomjlkoaaaAbE
set_option linter.unusedVariables false
set_option linter.unusedSimpArgs false
open Go.RowKit
namespace Go.Proofs.Ytibadaomjlkoaaa
set_option maxRecDepth 10000
def lh (d:Nat):Nat→DP Unit
 |0=>.ret ()
 |n+1=>.back d fun v=>.yy v (lh d n)
def jl (A B:List ((Int×Int)×Int)):Nat→DP Unit
 |0=>.fail 50
 |f+1=>(rF A).bind fun v=>if v<256 then .yy v (jl A B f)else if v=256 then .ret ()else if 285<v then .fail 80 else
   (if v<285 then(pB (v-257).toNat 4).bind fun z=>.ret (3+z)else .ret 258:DP Int).bind fun n=>
    (rF B).bind fun d=>if 29<d then .fail 80 else(pB d.toNat 2).bind fun z=>.Gs (1+z) ((lh (1+z).toNat n.toNat).bind fun _=>jl A B f)
def Jx (lim gb cb:Nat)(xs:List Int)(A B:List ((Int×Int)×Int))(g c:Nat)(s:DS):AH:=zH lim gb cb xs g c s++[bE A,bx 4,bE B,bx 6]
section
variable{K Kp:AV→AH→Prop}{xs:List Int}{lim gb cb g c:Nat}{s:DS}
theorem A9 {A B:List ((Int×Int)×Int)}:lJ 8 (Jx lim gb cb xs A B g c s):=⟨by simp[ae.nb,AV.rN,AV.nb,AO.nb],rfl,trivial,trivial,lp _ (.pair .i64 .i64) _,rfl,lp _ (.pair .i64 .i64) _,rfl,trivial⟩
theorem Fa {A B:List ((Int×Int)×Int)}{N N':Int}{f0:Nat}(ok:gS xs lim c s)(hb:∀x∈s.out,0≤x∧x<256)(hA:fq A)(hB:fq B)(Wi:lg N A)(UG:lg N' B)(hf:lim<f0+s.out.length){R:Except Int (Unit×DS)}(hR:(jl A B f0).run (unpack xs) lim s=R)
 (h0:∀g' c' s',R=.ok ((),s')→gS xs lim c' s'→(∀x∈s'.out,0≤x∧x<256)→K (.aG []) (Jx lim gb cb xs A B g' c' s'))
 (h1:∀e g' c' s',R=.error e→Kp (bj e) (Jx lim gb cb xs A B g' c' s')):
 aa Try.prog 62 [.ptr 0 0 0,.ptr 5 0 0,.ptr 7 0 0] (Jx lim gb cb xs A B g c s) K Kp:=by
 refine Oe (fun _=>[0,3]) [] rfl ?_
 refine Qs ?_
 refine WO.go (σ:=Nat×Nat×Nat×DS) (fun(f,g,c,s)=>gS xs lim c s∧(∀x∈s.out,0≤x∧x<256)∧lim<f+s.out.length∧(jl A B f).run (unpack xs) lim s=R) (fun(f,g,c,s)=>lim-s.out.length)
  (fun _=>[(0,.ptr 0 0 0),(1,.ptr 5 0 0),(2,.ptr 7 0 0)]) (fun(f,g,c,s)=>Jx lim gb cb xs A B g c s) (f0,g,c,s) ag mixed (by kernel_rfl) ⟨ok,hb,hf,hR⟩ (aI rfl (aI rfl (aI rfl (trivial)))) (aI rfl (aI rfl (aI rfl (aI rfl (aI rfl (aI rfl (aI rfl (aI rfl (trivial))))))))) (fun _=>rfl) (fun _=>rfl) (fun _=>A9) ?_
 rintro⟨f,g,c,s⟩ ⟨ok,hb,hf,hR⟩ d0
 have Im:=ok.ol
 obtain⟨f,rfl⟩:∃f',f=f'+1:=⟨f-1,by omega⟩
 rw[jl,DP.run_bind]at hR
 refine Qs ?_
 refine mM [bE A,bx 4,bE B,bx 6] 0 rfl rfl ok hA rfl (fun v s1 h FE=>?_) (fun e s1 h=>?_)
 ·rw[h]at hR
  simp only at hR
  have hv:=(rX Wi h).1
  have ho:=o7 h
  refine Qs ?_
  refine And.intro (fun hc=>?_) (fun hc=>?_)
  ·have hl:v<256:=by simpa using hc
   rw[if_pos hl]at hR
   simp only[DP.run]at hR
   have e1:v%256=v:=Int.emod_eq_of_lt hv hl
   refine Qs ?_
   rw[e1]
   refine se [bE A,bx 4,bE B,bx 6] FE ⟨hv,hl⟩ (fun g2 c2 iZ qm=>?_) (fun iZ=>?_)
   ·rw[if_neg iZ]at hR
    have gP:∀x∈s1.out++[v],0≤x∧x<256:=by
     intro x hx
     rcases List.mem_append.1 hx with hx|hx
     ·rw[ho]at hx;exact hb x hx
     ·rw[List.mem_singleton.1 hx];exact⟨hv,hl⟩
    refine Qs ?_
    refine RO.same (f,g2,c2,{s1 with out:=s1.out++[v]}) ⟨qm,gP,by show lim<f+(s1.out++[v]).length;rw[List.length_append,List.length_singleton,ho];omega,hR⟩ (by show lim-(s1.out++[v]).length<lim-s.out.length;rw[List.length_append,List.length_singleton,ho];rw[ho]at iZ;omega) (aI rfl (aI rfl (aI rfl (trivial)))) (aI rfl (aI rfl (aI rfl (aI rfl (aI rfl (aI rfl (aI rfl (aI rfl (trivial)))))))))
   ·rw[if_pos iZ]at hR
    exact h1 81 _ _ _ hR.symm
  have hl:¬v<256:=by simpa using hc
  rw[if_neg hl]at hR
  refine Qs ?_
  refine And.intro (fun hc=>?_) (fun hc=>?_)
  ·have he:v=256:=by simpa using hc
   rw[if_pos he]at hR
   have hK:=h0 g c s1 hR.symm FE (by rw[ho];exact hb)
   refine Qs ?_
   exact hK
  have he:¬v=256:=by simpa using hc
  rw[if_neg he]at hR
  refine Qs ?_
  refine And.intro (fun hc=>?_) (fun hc=>?_)
  ·have hg:285<v:=by simpa using hc
   rw[if_pos hg]at hR
   refine Qs ?_
   refine bU (fun h=>absurd h (by decide)) (fun _=>?_)
   exact h1 80 _ _ _ hR.symm
  have hg:¬285<v:=by simpa using hc
  rw[if_neg hg]at hR
  refine Qs ?_
  refine And.intro (fun hc=>?_) (fun hc=>?_)
  ·have hm:v<285:=by simpa using hc
   rw[if_pos hm,DP.run_bind,DP.run_bind]at hR
   obtain⟨w,hw⟩:∃w,(v-257).toNat=w:=⟨_,rfl⟩
   have Yh:v-257=(w:Int):=by omega
   rw[hw]at hR
   refine Qs ?_
   rw[Yh]
   refine B9 [bE A,bx 4,bE B,bx 6] (v:=w) (each:=4) FE (.inr rfl) (by omega) (fun z2 s2 h2 qm O7=>?_) (fun e s2 h2=>?_)
   ·rw[h2]at hR
    have GK:=s7 h2
    simp only[DP.run]at hR
    rw[DP.run_bind]at hR
    refine Qs ?_
    refine mM [bE A,bx 4,bE B,bx 6] 2 rfl rfl qm hB rfl (fun v2 s3 h3 uR=>?_) (fun e s3 h3=>?_)
    ·rw[h3]at hR
     simp only at hR
     have rj:=(rX UG h3).1
     have F6:=o7 h3
     refine Qs ?_
     refine And.intro (fun Ah=>?_) (fun Ah=>?_)
     ·have kq:(29:Int)<v2:=by simpa using Ah
      rw[if_pos kq]at hR
      refine Qs ?_
      refine bU (fun h=>absurd h (by decide)) (fun _=>?_)
      exact h1 80 _ _ _ hR.symm
     have kq:¬(29:Int)<v2:=by simpa using Ah
     rw[if_neg kq,DP.run_bind]at hR
     obtain⟨w2,rfl⟩:=Int.eq_ofNat_of_zero_le rj
     rw[Int.toNat_natCast]at hR
     refine Qs ?_
     refine B9 [bE A,bx 4,bE B,bx 6] (v:=w2) (each:=2) uR (.inl rfl) (by omega) (fun z4 s4 h4 FD Ya=>?_) (fun e s4 h4=>?_)
     ·rw[h4]at hR
      have Qx:=s7 h4
      simp only[DP.run]at hR
      have Vr:=FD.ol
      have VE:=FD.ll
      refine Qs ?_
      refine And.intro (fun Gc=>?_) (fun Gc=>?_)
      ·have PF:(s4.out.length:Int)<1+z4:=by simpa using Gc
       rw[if_pos PF]at hR
       refine Qs ?_
       refine bU (fun h=>absurd h (by decide)) (fun _=>?_)
       exact h1 70 _ _ _ hR.symm
      have PF:¬(s4.out.length:Int)<1+z4:=by simpa using Gc
      rw[if_neg PF,DP.run_bind]at hR
      obtain⟨D,hD⟩:∃D,(1+z4).toNat=D:=⟨_,rfl⟩
      have Wf:1+z4=(D:Int):=by omega
      rw[hD]at hR
      obtain⟨n,hn⟩:∃n,(3+z2).toNat=n:=⟨_,rfl⟩
      have JA:3+z2=(n:Int):=by omega
      have Qz:3≤n:=by omega
      rw[hn]at hR
      obtain⟨R2,yU⟩:∃R2,(lh D n).run (unpack xs) lim s4=R2:=⟨_,rfl⟩
      rw[yU]at hR
      have F5:s4.out=s.out:=by rw[Qx,F6,GK,ho]
      rw[Wf]
      refine Qs ?_
      refine WO.go (σ:=Nat×Nat×Nat×DS) (fun(j,g,c,s')=>gS xs lim c s'∧(∀x∈s'.out,0≤x∧x<256)∧j≤n∧s'.out.length=s4.out.length+j∧(lh D (n-j)).run (unpack xs) lim s'=R2) (fun(j,_)=>n-j)
       (fun(j,_)=>[(0,.ptr 0 0 0),(1,.ptr 5 0 0),(2,.ptr 7 0 0),(8,.int .i64 (D:Int)),(51,.int .i64 (n:Int)),(52,.int .i64 (j:Int))]) (fun(j,g,c,s)=>Jx lim gb cb xs A B g c s) (0,g,c,s4) ag mixed (by kernel_rfl) ⟨FD,by rw[F5];exact hb,Nat.zero_le _,rfl,yU⟩ (And.intro rfl (And.intro rfl (And.intro rfl (And.intro rfl (And.intro (congrArg (AV.int .i64) JA) (And.intro rfl trivial)))))) (aI rfl (aI rfl (aI rfl (aI rfl (aI rfl (aI rfl (aI rfl (aI rfl (trivial))))))))) (fun _=>rfl) (fun _=>rfl) (fun _=>A9) ?_
      rintro⟨j,g5,c5,s5⟩ ⟨HF,PY,hj,Pm,tY⟩ d5
      have Pt:=HF.ol
      refine Qs ?_
      refine And.intro (fun Gb=>?_) (fun Gb=>?_)
      ·have YK:j<n:=by simp only[decide_eq_true_eq]at Gb;omega
       have Zl:1≤D∧D≤s5.out.length:=by omega
       have e6:((s5.out.length:Int)-(D:Int)).toNat+0=s5.out.length-D:=by omega
       obtain⟨y,hy⟩:∃y,s5.out.getD (s5.out.length-D) 0=y:=⟨_,rfl⟩
       have pP:0≤y∧y<256:=by
        rw[←hy,List.getD_eq_getElem?_getD,List.getElem?_eq_getElem (by omega),Option.getD_some]
        exact PY _ (List.getElem_mem _)
       rw[show n-j=n-(j+1)+1 by omega]at tY
       simp only[lh,DP.run,hy]at tY
       rw[if_neg (by omega)]at tY
       refine Qs ?_
       rw[e6,hy]
       refine se [bE A,bx 4,bE B,bx 6] HF pP (fun g7 c7 iZ UR=>?_) (fun iZ=>?_)
       ·rw[if_neg iZ]at tY
        have Ss:∀x∈s5.out++[y],0≤x∧x<256:=by
         intro x hx
         rcases List.mem_append.1 hx with hx|hx
         ·exact PY x hx
         ·rw[List.mem_singleton.1 hx];exact pP
        refine Qs ?_
        refine RO.same (j+1,g7,c7,{s5 with out:=s5.out++[y]}) ⟨UR,Ss,by omega,by show(s5.out++[y]).length=_;rw[List.length_append,List.length_singleton];omega,tY⟩ (show n-(j+1)<n-j by omega) (aI rfl (aI rfl (aI rfl (aI rfl (aI rfl (aI rfl (trivial))))))) (aI rfl (aI rfl (aI rfl (aI rfl (aI rfl (aI rfl (aI rfl (aI rfl (trivial)))))))))
       ·rw[if_pos iZ]at tY
        rw[←tY]at hR
        exact h1 81 _ _ _ hR.symm
      ·obtain rfl:j=n:=by simp only[decide_eq_false_iff_not]at Gb;omega
       rw[Nat.sub_self]at tY
       simp only[lh,DP.run]at tY
       rw[←tY]at hR
       simp only at hR
       refine Qs ?_
       refine RO.same (f,g5,c5,s5) ⟨HF,PY,by show lim<f+s5.out.length;rw[Pm,F5];omega,hR⟩ (by show lim-s5.out.length<lim-s.out.length;rw[Pm,F5];rw[Pm,F5]at Pt;omega) (aI rfl (aI rfl (aI rfl (trivial)))) (aI rfl (aI rfl (aI rfl (aI rfl (aI rfl (aI rfl (aI rfl (aI rfl (trivial)))))))))
     ·rw[h4]at hR
      exact h1 e _ _ _ hR.symm
    ·rw[h3]at hR
     exact h1 e _ _ _ hR.symm
   ·rw[h2]at hR
    exact h1 e _ _ _ hR.symm
  ·have hm:¬v<285:=by simpa using hc
   rw[if_neg hm,DP.run_bind]at hR
   simp only[DP.run]at hR
   rw[DP.run_bind]at hR
   refine Qs ?_
   refine mM [bE A,bx 4,bE B,bx 6] 2 rfl rfl FE hB rfl (fun v2 s3 h3 uR=>?_) (fun e s3 h3=>?_)
   ·rw[h3]at hR
    simp only at hR
    have rj:=(rX UG h3).1
    have F6:=o7 h3
    refine Qs ?_
    refine And.intro (fun Ah=>?_) (fun Ah=>?_)
    ·have kq:(29:Int)<v2:=by simpa using Ah
     rw[if_pos kq]at hR
     refine Qs ?_
     refine bU (fun h=>absurd h (by decide)) (fun _=>?_)
     exact h1 80 _ _ _ hR.symm
    have kq:¬(29:Int)<v2:=by simpa using Ah
    rw[if_neg kq,DP.run_bind]at hR
    obtain⟨w2,rfl⟩:=Int.eq_ofNat_of_zero_le rj
    rw[Int.toNat_natCast]at hR
    refine Qs ?_
    refine B9 [bE A,bx 4,bE B,bx 6] (v:=w2) (each:=2) uR (.inl rfl) (by omega) (fun z4 s4 h4 FD Ya=>?_) (fun e s4 h4=>?_)
    ·rw[h4]at hR
     have Qx:=s7 h4
     simp only[DP.run]at hR
     have Vr:=FD.ol
     have VE:=FD.ll
     refine Qs ?_
     refine And.intro (fun Gc=>?_) (fun Gc=>?_)
     ·have PF:(s4.out.length:Int)<1+z4:=by simpa using Gc
      rw[if_pos PF]at hR
      refine Qs ?_
      refine bU (fun h=>absurd h (by decide)) (fun _=>?_)
      exact h1 70 _ _ _ hR.symm
     have PF:¬(s4.out.length:Int)<1+z4:=by simpa using Gc
     rw[if_neg PF,DP.run_bind]at hR
     obtain⟨D,hD⟩:∃D,(1+z4).toNat=D:=⟨_,rfl⟩
     have Wf:1+z4=(D:Int):=by omega
     rw[hD]at hR
     obtain⟨n,hn⟩:∃n,((258:Int)).toNat=n:=⟨_,rfl⟩
     have JA:(258:Int)=(n:Int):=by omega
     have Qz:3≤n:=by omega
     rw[hn]at hR
     obtain⟨R2,yU⟩:∃R2,(lh D n).run (unpack xs) lim s4=R2:=⟨_,rfl⟩
     rw[yU]at hR
     have F5:s4.out=s.out:=by rw[Qx,F6,ho]
     rw[Wf]
     refine Qs ?_
     refine WO.go (σ:=Nat×Nat×Nat×DS) (fun(j,g,c,s')=>gS xs lim c s'∧(∀x∈s'.out,0≤x∧x<256)∧j≤n∧s'.out.length=s4.out.length+j∧(lh D (n-j)).run (unpack xs) lim s'=R2) (fun(j,_)=>n-j)
      (fun(j,_)=>[(0,.ptr 0 0 0),(1,.ptr 5 0 0),(2,.ptr 7 0 0),(8,.int .i64 (D:Int)),(51,.int .i64 (n:Int)),(52,.int .i64 (j:Int))]) (fun(j,g,c,s)=>Jx lim gb cb xs A B g c s) (0,g,c,s4) ag mixed (by kernel_rfl) ⟨FD,by rw[F5];exact hb,Nat.zero_le _,rfl,yU⟩ (And.intro rfl (And.intro rfl (And.intro rfl (And.intro rfl (And.intro (congrArg (AV.int .i64) JA) (And.intro rfl trivial)))))) (aI rfl (aI rfl (aI rfl (aI rfl (aI rfl (aI rfl (aI rfl (aI rfl (trivial))))))))) (fun _=>rfl) (fun _=>rfl) (fun _=>A9) ?_
     rintro⟨j,g5,c5,s5⟩ ⟨HF,PY,hj,Pm,tY⟩ d5
     have Pt:=HF.ol
     refine Qs ?_
     refine And.intro (fun Gb=>?_) (fun Gb=>?_)
     ·have YK:j<n:=by simp only[decide_eq_true_eq]at Gb;omega
      have Zl:1≤D∧D≤s5.out.length:=by omega
      have e6:((s5.out.length:Int)-(D:Int)).toNat+0=s5.out.length-D:=by omega
      obtain⟨y,hy⟩:∃y,s5.out.getD (s5.out.length-D) 0=y:=⟨_,rfl⟩
      have pP:0≤y∧y<256:=by
       rw[←hy,List.getD_eq_getElem?_getD,List.getElem?_eq_getElem (by omega),Option.getD_some]
       exact PY _ (List.getElem_mem _)
      rw[show n-j=n-(j+1)+1 by omega]at tY
      simp only[lh,DP.run,hy]at tY
      rw[if_neg (by omega)]at tY
      refine Qs ?_
      rw[e6,hy]
      refine se [bE A,bx 4,bE B,bx 6] HF pP (fun g7 c7 iZ UR=>?_) (fun iZ=>?_)
      ·rw[if_neg iZ]at tY
       have Ss:∀x∈s5.out++[y],0≤x∧x<256:=by
        intro x hx
        rcases List.mem_append.1 hx with hx|hx
        ·exact PY x hx
        ·rw[List.mem_singleton.1 hx];exact pP
       refine Qs ?_
       refine RO.same (j+1,g7,c7,{s5 with out:=s5.out++[y]}) ⟨UR,Ss,by omega,by show(s5.out++[y]).length=_;rw[List.length_append,List.length_singleton];omega,tY⟩ (show n-(j+1)<n-j by omega) (aI rfl (aI rfl (aI rfl (aI rfl (aI rfl (aI rfl (trivial))))))) (aI rfl (aI rfl (aI rfl (aI rfl (aI rfl (aI rfl (aI rfl (aI rfl (trivial)))))))))
      ·rw[if_pos iZ]at tY
       rw[←tY]at hR
       exact h1 81 _ _ _ hR.symm
     ·obtain rfl:j=n:=by simp only[decide_eq_false_iff_not]at Gb;omega
      rw[Nat.sub_self]at tY
      simp only[lh,DP.run]at tY
      rw[←tY]at hR
      simp only at hR
      refine Qs ?_
      refine RO.same (f,g5,c5,s5) ⟨HF,PY,by show lim<f+s5.out.length;rw[Pm,F5];omega,hR⟩ (by show lim-s5.out.length<lim-s.out.length;rw[Pm,F5];rw[Pm,F5]at Pt;omega) (aI rfl (aI rfl (aI rfl (trivial)))) (aI rfl (aI rfl (aI rfl (aI rfl (aI rfl (aI rfl (aI rfl (aI rfl (trivial)))))))))
    ·rw[h4]at hR
     exact h1 e _ _ _ hR.symm
   ·rw[h3]at hR
    exact h1 e _ _ _ hR.symm
 ·rw[h]at hR
  exact h1 e _ _ _ hR.symm
end
end Go.Proofs.Ytibadaomjlkoaaa
open Go.RowKit
namespace Go.Proofs.Ytibadaomjlkoaaa
set_option maxRecDepth 10000
theorem QN {n m:Nat}(hn:n<65536)(hm:m<65536):b8 .xor .i64 (n:Int) (m:Int)=65535↔n+m=65535:=by
 have h1:(BitVec.ofInt 64 (n:Int)^^^BitVec.ofInt 64 (m:Int)).toNat=n^^^m:=by
  rw[BitVec.toNat_xor,BitVec.ofInt_natCast,BitVec.ofInt_natCast,BitVec.toNat_ofNat,BitVec.toNat_ofNat,Nat.mod_eq_of_lt (by omega),Nat.mod_eq_of_lt (by omega)]
 have h2:n^^^m<2^16:=Nat.xor_lt_two_pow (n:=16) hn hm
 have h3:b8 .xor .i64 (n:Int) (m:Int)=((n^^^m:Nat):Int):=by
  show IntKind.i64.wrap ((BitVec.ofInt 64 (n:Int)^^^BitVec.ofInt 64 (m:Int)).toNat:Int)=_
  rw[h1,kr (by omega)]
 have h4:∀n:Nat,n<65536→n^^^65535=65535-n:=by
  intro n hn
  have:=congrArg BitVec.toNat (BitVec.xor_allOnes (x:=BitVec.ofNat 16 n))
  rw[BitVec.toNat_xor,BitVec.toNat_not,BitVec.toNat_ofNat,BitVec.toNat_allOnes,Nat.mod_eq_of_lt hn]at this
  exact this
 rw[h3]
 constructor
 ·intro h
  have h':n^^^m=65535:=by omega
  have h5:m=n^^^65535:=by rw[←h',←Nat.xor_assoc,Nat.xor_self,Nat.zero_xor]
  rw[h4 n hn]at h5
  omega
 ·intro h
  have h5:m=n^^^65535:=by rw[h4 n hn];omega
  rw[h5,←Nat.xor_assoc,Nat.xor_self,Nat.zero_xor]
  rfl
def zK:Nat→DP Unit
 |0=>.ret ()
 |n+1=>.get 8 fun v=>.yy v (zK n)
def mW:DP Unit:=.align (.get 16 fun n=>.get 16 fun m=>if n+m=65535 then .room n (zK n.toNat)else .fail 80)
section
variable{K Kp:AV→AH→Prop}{xs:List Int}{lim gb cb g c:Nat}{s:DS}
theorem Rm (l:List Bool)(n:Nat)(hn:n≤16):∃k:Nat,num (l.take n)=k∧k<2^n:=by
 obtain⟨k,hk⟩:=Int.eq_ofNat_of_zero_le (num_nonneg (l.take n))
 refine⟨k,hk,?_⟩
 have h1:(2:Int)^(l.take n).length≤2^n:=by exact_mod_cast Nat.pow_le_pow_right (by omega) (show(l.take n).length≤n by rw[List.length_take];omega)
 have h2:=gy (l.take n)
 have h3:((2^n:Nat):Int)=2^n:=by push_cast;rfl
 omega
theorem dM (E:AH){n:Nat}{α:Type}{k:Int→DP α}{R:Except Int (α×DS)}(hR:(DP.get n k).run (unpack xs) lim s=R)(ok:gS xs lim c s)(hn:n≤16)
 (h0:∀(v:Nat) s',v<2^n→s'.out=s.out→s'.a=s.a+n→gS xs lim c s'→(k v).run (unpack xs) lim s'=R→K (.int .i64 (v:Int)) (zH lim gb cb xs g c s'++E))
 (h1:R=.error 50→Kp (bj 50) (zH lim gb cb xs g c s++E)):
 aa Try.prog 35 [.ptr 0 0 0,.int .i64 (n:Int)] (zH lim gb cb xs g c s++E) K Kp:=by
 have Es:=bw xs
 simp only[DP.run]at hR
 refine FG E ok hn (fun h=>?_) (fun h=>?_)
 ·rw[if_pos h]at hR
  obtain⟨v,hv,rj⟩:=Rm ((unpack xs).drop s.a) n hn
  rw[hv]at hR⊢
  exact h0 v _ rj rfl rfl ⟨ok.xl,ok.xb,by show s.a+n≤_;omega,ok.ll,ok.ol,ok.oc⟩ hR
 ·rw[if_neg h]at hR
  exact h1 hR.symm
theorem Qe (E:AH){v:Int}{α:Type}{k:DP α}{R:Except Int (α×DS)}(hR:(DP.yy v k).run (unpack xs) lim s=R)(ok:gS xs lim c s)(hb:∀x∈s.out,0≤x∧x<256)(hv:0≤v∧v<256)
 (h0:∀g' c' s',s'.out=s.out++[v]→s'.a=s.a→(∀x∈s'.out,0≤x∧x<256)→gS xs lim c' s'→k.run (unpack xs) lim s'=R→K (.aG []) (zH lim gb cb xs g' c' s'++E))
 (h1:R=.error 81→Kp (bj 81) (zH lim gb cb xs g c s++E)):
 aa Try.prog 61 [.ptr 0 0 0,.int .u8 v] (zH lim gb cb xs g c s++E) K Kp:=by
 simp only[DP.run]at hR
 refine se E ok hv (fun g' c' h US=>?_) (fun h=>?_)
 ·rw[if_neg h]at hR
  refine h0 g' c' _ rfl rfl (fun x hx=>?_) US hR
  rcases List.mem_append.1 hx with hx|hx
  ·exact hb x hx
  ·rw[List.mem_singleton.1 hx];exact hv
 ·rw[if_pos h]at hR
  exact h1 hR.symm
theorem zf (ok:gS xs lim c s)(hb:∀x∈s.out,0≤x∧x<256){R:Except Int (Unit×DS)}(hR:mW.run (unpack xs) lim s=R)
 (h0:∀g' c' s',R=.ok ((),s')→gS xs lim c' s'→(∀x∈s'.out,0≤x∧x<256)→K (.aG []) (zH lim gb cb xs g' c' s'))
 (h1:∀e g' c' s',R=.error e→Kp (bj e) (zH lim gb cb xs g' c' s')):
 aa Try.prog 31 [.ptr 0 0 0] (zH lim gb cb xs g c s) K Kp:=by
 have Es:=bw xs
 have Er:=ok.xl
 have XH:=ok.al
 have Im:=ok.ol
 have Ir:=ok.ll
 unfold mW at hR
 rw[DP.run]at hR
 obtain⟨s1,fZ⟩:∃s1:DS,{s with a:=(s.a+7)/8*8}=s1:=⟨_,rfl⟩
 have Vf:s1.a=(s.a+7)/8*8:=by rw[←fZ]
 have RK:s1.out=s.out:=by rw[←fZ]
 have FE:gS xs lim c s1:=by rw[←fZ];exact⟨ok.xl,ok.xb,by show(s.a+7)/8*8≤_;omega,ok.ll,ok.ol,ok.oc⟩
 rw[fZ]at hR
 refine Ow (fun _=>[0]) [] rfl ?_
 refine Qs ?_
 refine Fz (i:=1) (j:=2) (xs:=xs) (a:=s.a) rfl rfl rfl (by omega) ok.al ?_
 rw[←Vf,←RK]
 refine Qs ?_
 refine dM [] (n:=16) hR FE (by omega) (fun n s2 hn GK uW qm hR=>?_) (fun h=>h1 50 _ _ _ h)
 refine Qs ?_
 refine dM [] (n:=16) hR qm (by omega) (fun m s3 hm F6 Gf uR hR=>?_) (fun h=>h1 50 _ _ _ h)
 have hx:=QN hn hm
 refine Qs ?_
 refine And.intro (fun hc=>?_) (fun hc=>?_)
 ·have eJ:¬n+m=65535:=fun e=>by rw[hx.2 e]at hc;simp at hc
  rw[if_neg (by omega)]at hR
  refine Qs ?_
  refine bU (fun h=>absurd h (by decide)) (fun _=>?_)
  exact h1 80 _ _ _ hR.symm
 have he:n+m=65535:=by
  refine hx.1 ?_
  simpa using hc
 rw[if_pos (by omega),Int.toNat_natCast]at hR
 have Yv:=uR.ol
 rw[DP.run]at hR
 refine Qs ?_
 refine And.intro (fun hc=>?_) (fun hc=>?_)
 ·have hg:(lim:Int)-s3.out.length<n:=by simpa using hc
  rw[if_pos hg]at hR
  refine Qs ?_
  refine bU (fun h=>absurd h (by decide)) (fun _=>?_)
  exact h1 81 _ _ _ hR.symm
 have hg:¬(lim:Int)-s3.out.length<n:=by simpa using hc
 rw[if_neg hg]at hR
 have EE:∀x∈s3.out,0≤x∧x<256:=by rw[F6,GK,RK];exact hb
 refine Qs ?_
 refine WO.go (σ:=Nat×Nat×Nat×DS) (fun(j,g,c,s)=>gS xs lim c s∧(∀x∈s.out,0≤x∧x<256)∧j≤n∧(zK (n-j)).run (unpack xs) lim s=R) (fun(j,_)=>n-j)
  (fun(j,_)=>[(0,.ptr 0 0 0),(33,.int .i64 (n:Int)),(34,.int .i64 (j:Int))]) (fun(j,g,c,s)=>zH lim gb cb xs g c s) (0,g,c,s3) ag mixed (by kernel_rfl) ⟨uR,EE,Nat.zero_le _,hR⟩ (aI rfl (aI rfl (aI rfl (trivial)))) (aI rfl (aI rfl (aI rfl (aI rfl (trivial))))) (fun _=>rfl) (fun _=>rfl) (fun _=>fe) ?_
 rintro⟨j,g,c,s4⟩ ⟨FD,XG,hj,hR⟩ d0
 refine Qs ?_
 refine And.intro (fun hc=>?_) (fun hc=>?_)
 ·have Sd:j<n:=by simp only[decide_eq_true_eq]at hc;omega
  rw[show n-j=n-(j+1)+1 by omega,zK]at hR
  refine Qs ?_
  refine dM [] (n:=8) hR FD (by omega) (fun v s5 hv F5 Zc HF hR=>?_) (fun h=>h1 50 _ _ _ h)
  have rj:(v:Int)%256=v:=by omega
  refine Qs ?_
  rw[rj]
  refine Qe [] hR HF (by rw[F5];exact XG) (by omega) (fun g6 c6 s6 Xo ha6 Uw Qo hR=>?_) (fun h=>h1 81 _ _ _ h)
  refine Qs ?_
  refine RO.same (j+1,g6,c6,s6) ⟨Qo,Uw,Sd,hR⟩ (show n-(j+1)<n-j by omega) (aI rfl (aI rfl (aI rfl (trivial)))) (aI rfl (aI rfl (aI rfl (aI rfl (trivial)))))
 ·obtain rfl:j=n:=by simp only[decide_eq_false_iff_not]at hc;omega
  rw[Nat.sub_self,zK,DP.run]at hR
  have hK:=h0 g c s4 hR.symm FD XG
  refine Qs ?_
  exact hK
end
end Go.Proofs.Ytibadaomjlkoaaa
open Go.RowKit
namespace Go.Proofs.Ytibadaomjlkoaaa
set_option maxRecDepth 10000
def nO (T:List ((Int×Int)×Int))(n:Nat):Nat→List Int→DP (List Int)
 |0,l=>.ret l
 |f+1,l=>if n≤l.length then .ret l else(rF T).bind fun v=>if v<16 then nO T n f (l++[v])else
   (if v=16 then(if l=[]then .fail 80 else .get 2 fun k=>.ret (l.getD (l.length-1) 0,3+k))else if v=17 then .get 3 fun k=>.ret (0,3+k)else .get 7 fun k=>.ret (0,11+k):DP (Int×Int)).bind fun r=>
    if(n:Int)-l.length<r.2 then .fail 80 else nO T n f (l++List.replicate r.2.toNat r.1)
section
variable{K Kp:AV→AH→Prop}{xs:List Int}{lim gb cb g c:Nat}{s:DS}
theorem G2 (E:AH)(i:Nat){es:List ((Int×Int)×Int)}{N:Int}{α:Type}{k:Int→DP α}{R:Except Int (α×DS)}(hR:((rF es).bind k).run (unpack xs) lim s=R)(JE:E[i]?=some (bE es))(Ez:E[i+1]?=some (bx (i+4)))(ok:gS xs lim c s)(lF:fq es)(hN:lg N es)
 (oU:(bB [.own 0,.own 1,.own 2,.own 3,.own (i+4),.own (i+5)]&&AV.oT [.own 0,.own 1,.own 2,.own 3,.own (i+4),.own (i+5)] [.ptr 0 0 0,.ptr 5 0 0])=true)
 (h0:∀v s',0≤v→v<N→s'.out=s.out→gS xs lim c s'→(k v).run (unpack xs) lim s'=R→K (.int .i64 v) (zH lim gb cb xs g c s'++E))
 (h1:∀e s',R=.error e→Kp (bj e) (zH lim gb cb xs g c s'++E)):
 aa Try.prog 86 [.ptr 0 0 0,.ptr (i+5) 0 0] (zH lim gb cb xs g c s++E) K Kp:=by
 rw[DP.run_bind]at hR
 refine mM E i JE Ez ok lF oU (fun v s' h US=>?_) (fun e s' h=>?_)
 ·rw[h]at hR
  obtain⟨b1,b2⟩:=rX hN h
  exact h0 v s' b1 b2 (o7 h) US hR
 ·rw[h]at hR
  exact h1 e s' hR.symm
def EX (lim gb cb:Nat)(xs:List Int)(T:List ((Int×Int)×Int))(g c:Nat)(s:DS):AH:=zH lim gb cb xs g c s++[bE T,bx 4]
def Ql (lim gb cb:Nat)(xs:List Int)(T:List ((Int×Int)×Int))(g c:Nat)(s:DS)(gl cl:Nat)(l:List Int):AH:=zH lim gb cb xs g c s++[bE T,bx 4,.one true gl (.ints .u8 l cl)]
theorem lM {T:List ((Int×Int)×Int)}:lJ 6 (EX lim gb cb xs T g c s):=⟨by simp[ae.nb,AV.rN,AV.nb,AO.nb],rfl,trivial,trivial,lp _ (.pair .i64 .i64) _,rfl,trivial⟩
theorem GP {T:List ((Int×Int)×Int)}{gl cl:Nat}{l:List Int}:lJ 7 (Ql lim gb cb xs T g c s gl cl l):=⟨by simp[ae.nb,AV.rN,AV.nb,AO.nb],rfl,trivial,trivial,lp _ (.pair .i64 .i64) _,rfl,trivial,trivial⟩
theorem uX {T:List ((Int×Int)×Int)}{n f0:Nat}(ok:gS xs lim c s)(hT:fq T)(hN:lg 19 T)(hn:1≤n∧n≤400)(hf:n<f0){R:Except Int (List Int×DS)}(hR:(nO T n f0 []).run (unpack xs) lim s=R)
 (h0:∀gl cl l s',R=.ok (l,s')→s'.out=s.out→gS xs lim c s'→l.length=n→(∀x∈l,0≤x∧x<256)→l.length≤cl→K (.sl 6 gl 0 l.length cl) (Ql lim gb cb xs T g c s' gl cl l))
 (h1:∀e s',R=.error e→Kp (bj e) (EX lim gb cb xs T g c s')):
 aa Try.prog 64 [.ptr 0 0 0,.ptr 5 0 0,.int .i64 (n:Int)] (EX lim gb cb xs T g c s) K Kp:=by
 refine aa.qh ?_
 refine Oc (fun _=>[7]) [] rfl ?_
 refine Qs ?_
 refine WO.Mf (σ:=Nat×DS×Nat×Nat×List Int) (fun(f,s',gl,cl,l)=>s'.out=s.out∧gS xs lim c s'∧l.length≤n∧l.length≤cl∧(∀x∈l,0≤x∧x<256)∧n<f+l.length∧(nO T n f l).run (unpack xs) lim s'=R) (fun(f,s',gl,cl,l)=>n-l.length)
  (fun(f,s',gl,cl,l)=>[(0,.ptr 0 0 0),(1,.ptr 5 0 0),(2,.int .i64 (n:Int)),(7,.sl 6 gl 0 l.length cl)]) (fun(f,s',gl,cl,l)=>Ql lim gb cb xs T g c s' gl cl l) (f0,s,0,0,[]) ag mixed (by kernel_rfl)
  [(0,.ptr 0 0 0),(1,.ptr 5 0 0),(2,.int .i64 (n:Int)),(7,.ns)] _ ⟨rfl,ok,Nat.zero_le _,Nat.zero_le _,fun x hx=>(by cases hx),by omega,hR⟩ (aI rfl (aI rfl (aI rfl (aI rfl (trivial))))) rfl
  (Vw.xU (x:=.ints .u8 [] 0) ⟨rfl,rfl⟩ (And.intro (.inl rfl) (And.intro (.inl rfl) (And.intro (.inl rfl) (And.intro (.inr ⟨rfl,rfl⟩) trivial))))) (aI rfl (aI rfl (aI rfl (aI rfl (aI rfl (aI rfl (aI rfl (trivial)))))))) (fun _=>rfl) (fun _=>rfl) (fun _=>GP) ?_
 rintro⟨f,s1,gl,cl,l⟩ ⟨ho,FE,hl,EC,hb,hf,hR⟩ d0
 obtain⟨f,rfl⟩:∃f',f=f'+1:=⟨f-1,by omega⟩
 rw[nO]at hR
 refine Qs ?_
 refine And.intro (fun hc=>?_) (fun hc=>?_)
 ·have aZ:¬n≤l.length:=by simp only[decide_eq_true_eq]at hc;omega
  rw[if_neg aZ]at hR
  refine Qs ?_
  refine G2 [bE T,bx 4,.one true gl (.ints .u8 l cl)] 0 hR rfl rfl FE hT hN rfl (fun v s2 hv rj GK qm hR=>?_) (fun e s' h=>?_)
  ·refine Qs ?_
   refine And.intro (fun hc=>?_) (fun hc=>?_)
   ·have Wk:v<16:=by simpa using hc
    rw[if_pos Wk]at hR
    have e1:v%256=v:=by omega
    refine Qs ?_
    rw[e1]
    refine Qs ?_
    intro zs e9
    obtain rfl:zs=[v]:=by rw[e9];rfl
    refine Qs ?_
    intro c4 yT
    have qF:l.length+1≤c4:=yT
    have gP:∀x∈l++[v],0≤x∧x<256:=by
     intro x hx
     rcases List.mem_append.1 hx with hx|hx
     ·exact hb x hx
     ·rw[List.mem_singleton.1 hx];omega
    have oB:(l++[v]).length=l.length+1:=by rw[List.length_append];rfl
    refine Qs ?_
    refine RO.same (f,s2,gl+1,c4,l++[v]) ⟨by rw[GK,ho],qm,by rw[oB];omega,by rw[oB];exact qF,gP,by rw[oB];omega,hR⟩ (show n-(l++[v]).length<n-l.length by rw[oB];omega) (And.intro rfl (And.intro rfl (And.intro rfl (And.intro ?_ trivial)))) (aI rfl (aI rfl (aI rfl (aI rfl (aI rfl (aI rfl (aI rfl (trivial))))))))
    show AV.sl 6 (gl+1) 0 (l.length+1) c4=AV.sl 6 (gl+1) 0 (l++[v]).length c4
    rw[oB]
   have Wk:¬v<16:=by simpa using hc
   rw[if_neg Wk]at hR
   obtain rfl|rfl|rfl:v=16∨v=17∨v=18:=by omega
   ·rw[if_pos rfl]at hR
    refine Qs ?_
    refine And.intro (fun hc=>?_) (fun hc=>?_)
    ·have he:l=[]:=by simpa using hc
     rw[if_pos he]at hR
     refine Qs ?_
     refine bU (fun h=>absurd h (by decide)) (fun _=>?_)
     exact Exists.intro (EX lim gb cb xs T g c s2) (And.intro (aI rfl (aI rfl (aI rfl (aI rfl (aI rfl (aI rfl (trivial))))))) (And.intro lM (And.intro rfl (h1 80 s2 hR.symm))))
    have he:¬l=[]:=by simpa using hc
    have ZZ:1≤l.length:=by cases l with|nil=>exact absurd rfl he|cons x l=>simp
    rw[if_neg he]at hR
    obtain⟨y,hy⟩:∃y,l.getD (l.length-1) 0=y:=⟨_,rfl⟩
    have pP:0≤y∧y<256:=by
     rw[←hy,List.getD_eq_getElem?_getD,List.getElem?_eq_getElem (by omega),Option.getD_some]
     exact hb _ (List.getElem_mem _)
    have e6:((l.length:Int)-1).toNat+0=l.length-1:=by omega
    rw[hy]at hR
    refine Qs ?_
    rw[e6,hy]
    refine dM [bE T,bx 4,.one true gl (.ints .u8 l cl),.one true 0 (.cells [.int .i64 2,.int .i64 3])] (n:=2) hR qm (by omega) (fun v s3 Xe F6 Gf uR hR=>?_) (fun h=>Exists.intro (EX lim gb cb xs T g c s2) (And.intro (aI rfl (aI rfl (aI rfl (aI rfl (aI rfl (aI rfl (trivial))))))) (And.intro lM (And.intro rfl (h1 50 s2 h)))))
    rw[DP.bind]at hR
    simp only at hR
    refine Qs ?_
    refine And.intro (fun hc=>?_) (fun hc=>?_)
    ·have hg:(n:Int)-l.length<3+v:=by simpa using hc
     rw[if_pos hg]at hR
     refine Qs ?_
     refine bU (fun h=>absurd h (by decide)) (fun _=>?_)
     exact Exists.intro (EX lim gb cb xs T g c s3) (And.intro (aI rfl (aI rfl (aI rfl (aI rfl (aI rfl (aI rfl (trivial))))))) (And.intro lM (And.intro rfl (h1 80 s3 hR.symm))))
    have hg:¬(n:Int)-l.length<3+v:=by simpa using hc
    obtain⟨k,hk⟩:∃k:Nat,3+(v:Int)=(k:Int):=⟨3+v,by push_cast;rfl⟩
    rw[if_neg hg,hk,Int.toNat_natCast]at hR
    have L0:1≤k∧k≤65536:=by omega
    refine Qs ?_
    rw[hk]
    refine bP (i:=8) rfl L0 pP ?_
    refine Qs ?_
    intro zs e9
    obtain rfl:zs=List.replicate k y:=by rw[e9];simp
    have JD:(List.replicate k y).length=k:=List.length_replicate ..
    refine Qs ?_
    intro c4 yT
    have qF:l.length+k≤c4:=yT
    have gP:∀x∈l++List.replicate k y,0≤x∧x<256:=by
     intro x hx
     rcases List.mem_append.1 hx with hx|hx
     ·exact hb x hx
     ·rw[List.eq_of_mem_replicate hx];exact pP
    have oB:(l++List.replicate k y).length=l.length+k:=by rw[List.length_append,List.length_replicate]
    refine Qs ?_
    refine RO.same (f,s3,gl+1,c4,l++List.replicate k y) ⟨by rw[F6,GK,ho],uR,by rw[oB];omega,by rw[oB];exact qF,gP,by rw[oB];omega,hR⟩ (show n-(l++List.replicate k y).length<n-l.length by rw[oB];omega) (And.intro rfl (And.intro rfl (And.intro rfl (And.intro ?_ trivial)))) (aI rfl (aI rfl (aI rfl (aI rfl (aI rfl (aI rfl (aI rfl (trivial))))))))
    show AV.sl 6 (gl+1) 0 (l.length+k) c4=AV.sl 6 (gl+1) 0 (l++List.replicate k y).length c4
    rw[oB]
   ·rw[if_neg (by decide),if_pos rfl]at hR
    refine Qs ?_
    refine dM [bE T,bx 4,.one true gl (.ints .u8 l cl),.one true 0 (.cells [.int .i64 3,.int .i64 3])] (n:=3) hR qm (by omega) (fun v s3 Xe F6 Gf uR hR=>?_) (fun h=>Exists.intro (EX lim gb cb xs T g c s2) (And.intro (aI rfl (aI rfl (aI rfl (aI rfl (aI rfl (aI rfl (trivial))))))) (And.intro lM (And.intro rfl (h1 50 s2 h)))))
    rw[DP.bind]at hR
    simp only at hR
    refine Qs ?_
    refine And.intro (fun hc=>?_) (fun hc=>?_)
    ·have hg:(n:Int)-l.length<3+v:=by simpa using hc
     rw[if_pos hg]at hR
     refine Qs ?_
     refine bU (fun h=>absurd h (by decide)) (fun _=>?_)
     exact Exists.intro (EX lim gb cb xs T g c s3) (And.intro (aI rfl (aI rfl (aI rfl (aI rfl (aI rfl (aI rfl (trivial))))))) (And.intro lM (And.intro rfl (h1 80 s3 hR.symm))))
    have hg:¬(n:Int)-l.length<3+v:=by simpa using hc
    obtain⟨k,hk⟩:∃k:Nat,3+(v:Int)=(k:Int):=⟨3+v,by push_cast;rfl⟩
    rw[if_neg hg,hk,Int.toNat_natCast]at hR
    have L0:1≤k∧k≤65536:=by omega
    refine Qs ?_
    rw[hk]
    refine bP (i:=8) rfl L0 (by decide) ?_
    refine Qs ?_
    intro zs e9
    obtain rfl:zs=List.replicate k (0:Int):=by rw[e9];simp
    have JD:(List.replicate k (0:Int)).length=k:=List.length_replicate ..
    refine Qs ?_
    intro c4 yT
    have qF:l.length+k≤c4:=yT
    have gP:∀x∈l++List.replicate k (0:Int),0≤x∧x<256:=by
     intro x hx
     rcases List.mem_append.1 hx with hx|hx
     ·exact hb x hx
     ·rw[List.eq_of_mem_replicate hx];exact(by decide)
    have oB:(l++List.replicate k (0:Int)).length=l.length+k:=by rw[List.length_append,List.length_replicate]
    refine Qs ?_
    refine RO.same (f,s3,gl+1,c4,l++List.replicate k (0:Int)) ⟨by rw[F6,GK,ho],uR,by rw[oB];omega,by rw[oB];exact qF,gP,by rw[oB];omega,hR⟩ (show n-(l++List.replicate k (0:Int)).length<n-l.length by rw[oB];omega) (And.intro rfl (And.intro rfl (And.intro rfl (And.intro ?_ trivial)))) (aI rfl (aI rfl (aI rfl (aI rfl (aI rfl (aI rfl (aI rfl (trivial))))))))
    show AV.sl 6 (gl+1) 0 (l.length+k) c4=AV.sl 6 (gl+1) 0 (l++List.replicate k (0:Int)).length c4
    rw[oB]
   ·rw[if_neg (by decide),if_neg (by decide)]at hR
    refine Qs ?_
    refine dM [bE T,bx 4,.one true gl (.ints .u8 l cl),.one true 0 (.cells [.int .i64 7,.int .i64 11])] (n:=7) hR qm (by omega) (fun v s3 Xe F6 Gf uR hR=>?_) (fun h=>Exists.intro (EX lim gb cb xs T g c s2) (And.intro (aI rfl (aI rfl (aI rfl (aI rfl (aI rfl (aI rfl (trivial))))))) (And.intro lM (And.intro rfl (h1 50 s2 h)))))
    rw[DP.bind]at hR
    simp only at hR
    refine Qs ?_
    refine And.intro (fun hc=>?_) (fun hc=>?_)
    ·have hg:(n:Int)-l.length<11+v:=by simpa using hc
     rw[if_pos hg]at hR
     refine Qs ?_
     refine bU (fun h=>absurd h (by decide)) (fun _=>?_)
     exact Exists.intro (EX lim gb cb xs T g c s3) (And.intro (aI rfl (aI rfl (aI rfl (aI rfl (aI rfl (aI rfl (trivial))))))) (And.intro lM (And.intro rfl (h1 80 s3 hR.symm))))
    have hg:¬(n:Int)-l.length<11+v:=by simpa using hc
    obtain⟨k,hk⟩:∃k:Nat,11+(v:Int)=(k:Int):=⟨11+v,by push_cast;rfl⟩
    rw[if_neg hg,hk,Int.toNat_natCast]at hR
    have L0:1≤k∧k≤65536:=by omega
    refine Qs ?_
    rw[hk]
    refine bP (i:=8) rfl L0 (by decide) ?_
    refine Qs ?_
    intro zs e9
    obtain rfl:zs=List.replicate k (0:Int):=by rw[e9];simp
    have JD:(List.replicate k (0:Int)).length=k:=List.length_replicate ..
    refine Qs ?_
    intro c4 yT
    have qF:l.length+k≤c4:=yT
    have gP:∀x∈l++List.replicate k (0:Int),0≤x∧x<256:=by
     intro x hx
     rcases List.mem_append.1 hx with hx|hx
     ·exact hb x hx
     ·rw[List.eq_of_mem_replicate hx];exact(by decide)
    have oB:(l++List.replicate k (0:Int)).length=l.length+k:=by rw[List.length_append,List.length_replicate]
    refine Qs ?_
    refine RO.same (f,s3,gl+1,c4,l++List.replicate k (0:Int)) ⟨by rw[F6,GK,ho],uR,by rw[oB];omega,by rw[oB];exact qF,gP,by rw[oB];omega,hR⟩ (show n-(l++List.replicate k (0:Int)).length<n-l.length by rw[oB];omega) (And.intro rfl (And.intro rfl (And.intro rfl (And.intro ?_ trivial)))) (aI rfl (aI rfl (aI rfl (aI rfl (aI rfl (aI rfl (aI rfl (trivial))))))))
    show AV.sl 6 (gl+1) 0 (l.length+k) c4=AV.sl 6 (gl+1) 0 (l++List.replicate k (0:Int)).length c4
    rw[oB]
  ·exact Exists.intro (EX lim gb cb xs T g c s') (And.intro (aI rfl (aI rfl (aI rfl (aI rfl (aI rfl (aI rfl (trivial))))))) (And.intro lM (And.intro rfl (h1 e s' h))))
 ·have Iy:n≤l.length:=by simp only[decide_eq_false_iff_not]at hc;omega
  rw[if_pos Iy,DP.run]at hR
  refine Qs ?_
  exact Exists.intro (Ql lim gb cb xs T g c s1 gl cl l) (And.intro (aI rfl (aI rfl (aI rfl (aI rfl (aI rfl (aI rfl (aI rfl (trivial)))))))) (And.intro GP (And.intro rfl (h0 gl cl l s1 hR.symm ho FE (by omega) hb EC))))
end
end Go.Proofs.Ytibadaomjlkoaaa
open Go.RowKit
namespace Go.Proofs.Ytibadaomjlkoaaa
set_option maxRecDepth 10000
def cN:List Int:=List.replicate 144 8++List.replicate 112 9++List.replicate 24 7++List.replicate 8 8
def eK:List Int:=List.replicate 32 5
def FU:Nat:=1000001
section
variable{K Kp:AV→AH→Prop}{xs:List Int}{lim gb cb g c:Nat}{s:DS}
theorem FM (h1:Kp (bj 80) (zH lim gb cb xs g c s)):aa Try.prog 34 [.ptr 0 0 0] (zH lim gb cb xs g c s) K Kp:=by
 refine Ot (fun _=>[]) [] rfl ?_
 refine Qs ?_
 refine bU (fun h=>absurd h (by decide)) (fun _=>?_)
 exact h1
def B7:List (List AV):=[[.int .i64 144,.int .i64 8],[.int .i64 112,.int .i64 9],[.int .i64 24,.int .i64 7],[.int .i64 8,.int .i64 8]]
def Wo:List (Nat×Int):=[(144,8),(112,9),(24,7),(8,8)]
def cq (i:Nat):List Int:=(Wo.take i).flatMap fun r=>List.replicate r.1 r.2
theorem IV:cq 4=cN:=by decide+kernel
def XS (lim gb cb:Nat)(xs:List Int)(g c:Nat)(s:DS)(gl cl:Nat)(l:List Int):AH:=zH lim gb cb xs g c s++[.one true 0 (.cI 2 4 (fun j=>B7.getD j []) 4),.one true gl (.ints .u8 l cl)]
theorem Mm (k:Nat):(ae.cI 2 4 (fun j=>B7.getD j []) 4).nb k:=by
 intro j
 by_cases h:j<4
 ·match j,h with
  |0,_=>rfl
  |1,_=>rfl
  |2,_=>rfl
  |3,_=>rfl
 ·show AV.rN k (B7.getD j [])=true
  rw[List.getD_eq_getElem?_getD,List.getElem?_eq_none (show B7.length≤j by show 4≤j;omega)];rfl
theorem Qa {gl cl:Nat}{l:List Int}:lJ 6 (XS lim gb cb xs g c s gl cl l):=⟨by simp[ae.nb,AV.rN,AV.nb,AO.nb],rfl,trivial,trivial,Mm _,trivial,trivial⟩
theorem DI (E:AH)(i j:Nat){A B:List ((Int×Int)×Int)}{N N':Int}{f0:Nat}(JE:E[i]?=some (bE A))(Ez:E[i+1]?=some (bx (i+4)))(Xx:E[j]?=some (bE B))(QE:E[j+1]?=some (bx (j+4)))
 (oU:(bB [.own 0,.own 1,.own 2,.own 3,.own (i+4),.own (i+5),.own (j+4),.own (j+5)]&&AV.oT [.own 0,.own 1,.own 2,.own 3,.own (i+4),.own (i+5),.own (j+4),.own (j+5)] [.ptr 0 0 0,.ptr 5 0 0,.ptr 7 0 0])=true)
 (ok:gS xs lim c s)(hb:∀x∈s.out,0≤x∧x<256)(hA:fq A)(hB:fq B)(Wi:lg N A)(UG:lg N' B)(hf:lim<f0+s.out.length){R:Except Int (Unit×DS)}(hR:(jl A B f0).run (unpack xs) lim s=R)
 (h0:∀g' c' s',R=.ok ((),s')→gS xs lim c' s'→(∀x∈s'.out,0≤x∧x<256)→K (.aG []) (zH lim gb cb xs g' c' s'++E))
 (h1:∀e g' c' s',R=.error e→Kp (bj e) (zH lim gb cb xs g' c' s'++E)):
 aa Try.prog 62 [.ptr 0 0 0,.ptr (i+5) 0 0,.ptr (j+5) 0 0] (zH lim gb cb xs g c s++E) K Kp:=by
 have key:∀g' c' s',c8 [.own 0,.own 1,.own 2,.own 3,.own (i+4),.own (i+5),.own (j+4),.own (j+5)] (zH lim gb cb xs g c s++E).length [.own 0,.own 1,.own 2,.own 3,.own (i+4),.own (i+5),.own (j+4),.own (j+5)] (Jx lim gb cb xs A B g' c' s') (zH lim gb cb xs g c s++E)=zH lim gb cb xs g' c' s'++E:=by
  intro g' c' s'
  show((((zH lim gb cb xs g' c' s'++E).set (i+4) (AO.one true 0 ((ae.map (.pair .i64 .i64) (kS A)).rn [.own 0,.own 1,.own 2,.own 3,.own (i+4),.own (i+5),.own (j+4),.own (j+5)] (zH lim gb cb xs g c s++E).length))).set (i+5) (bx (i+4))).set (j+4) (AO.one true 0 ((ae.map (.pair .i64 .i64) (kS B)).rn [.own 0,.own 1,.own 2,.own 3,.own (i+4),.own (i+5),.own (j+4),.own (j+5)] (zH lim gb cb xs g c s++E).length))).set (j+5) (bx (j+4))++[]=_
  rw[jn,jn,List.append_nil]
  show zH lim gb cb xs g' c' s'++((((E.set i (bE A)).set (i+1) (bx (i+4))).set j (bE B)).set (j+1) (bx (j+4)))=_
  rw[qW JE,qW Ez,qW Xx,qW QE]
 refine aa.lift [.own 0,.own 1,.own 2,.own 3,.own (i+4),.own (i+5),.own (j+4),.own (j+5)] (Fa (K:=fun r M=>∃g' c' s',r=.aG []∧M=Jx lim gb cb xs A B g' c' s'∧K r (zH lim gb cb xs g' c' s'++E)) (Kp:=fun r M=>∃e g' c' s',r=bj e∧M=Jx lim gb cb xs A B g' c' s'∧Kp r (zH lim gb cb xs g' c' s'++E)) ok hb hA hB Wi UG hf hR
  (fun g' c' s' h k l=>⟨g',c',s',rfl,rfl,h0 g' c' s' h k l⟩) (fun e g' c' s' h=>⟨e,g',c',s',rfl,rfl,h1 e g' c' s' h⟩)) rfl oU
  ⟨⟨rfl,rfl⟩,⟨rfl,rfl⟩,⟨rfl,rfl⟩,⟨rfl,rfl⟩,⟨?_,rfl⟩,⟨?_,rfl⟩,⟨?_,rfl⟩,⟨?_,rfl⟩,trivial⟩ ⟨rfl,rfl,trivial,trivial,wo _ (.pair .i64 .i64) A,rfl,wo _ (.pair .i64 .i64) B,rfl,trivial⟩ ?_ ?_
 ·show E[i]?=some (AO.one true 0 ((ae.map (.pair .i64 .i64) (kS A)).rn _ _))
  rw[jn];exact JE
 ·exact Ez
 ·show E[j]?=some (AO.one true 0 ((ae.map (.pair .i64 .i64) (kS B)).rn _ _))
  rw[jn];exact Xx
 ·exact QE
 ·rintro r M' ⟨g',c',s',rfl,rfl,hk⟩
  refine⟨⟨rfl,rfl,rfl,rfl,rfl,rfl,rfl,rfl,rfl⟩,?_⟩
  rw[key]
  exact hk
 ·rintro r M' ⟨e,g',c',s',rfl,rfl,hk⟩
  refine⟨⟨rfl,rfl,rfl,rfl,rfl,rfl,rfl,rfl,rfl⟩,?_⟩
  rw[key]
  exact hk
theorem B6 (ok:gS xs lim c s)(hb:∀x∈s.out,0≤x∧x<256){R:Except Int (Unit×DS)}(hR:(jl (cn (bR cN) []) (cn (bR eK) []) FU).run (unpack xs) lim s=R)
 (h0:∀g' c' s',R=.ok ((),s')→gS xs lim c' s'→(∀x∈s'.out,0≤x∧x<256)→K (.aG []) (zH lim gb cb xs g' c' s'))
 (h1:∀e g' c' s',R=.error e→Kp (bj e) (zH lim gb cb xs g' c' s')):
 aa Try.prog 32 [.ptr 0 0 0] (zH lim gb cb xs g c s) K Kp:=by
 refine aa.qh ?_
 refine Ov (fun _=>[]) [] rfl ?_
 refine Qs ?_
 refine WO.Mf (σ:=Nat×Nat×Nat) (fun(i,gl,cl)=>i≤4∧(cq i).length≤cl) (fun(i,_)=>4-i) (fun(i,gl,cl)=>[(0,.ptr 0 0 0),(2,.sl 5 gl 0 (cq i).length cl),(9,.sl 4 0 0 4 4),(10,.int .i64 4),(11,.int .i64 (i:Int))])
  (fun(i,gl,cl)=>XS lim gb cb xs g c s gl cl (cq i)) (0,0,0) ag mixed (by kernel_rfl) [(0,.ptr 0 0 0),(2,.ns),(9,.sl 4 0 0 4 4),(10,.int .i64 4),(11,.int .i64 0)] _ ⟨Nat.zero_le _,Nat.zero_le _⟩ (aI rfl (aI rfl (aI rfl (aI rfl (aI rfl (trivial)))))) rfl
  (Vw.trans (Vw.cI (i:=4) (fun j=>B7.getD j []) rfl ?_) (Vw.xU (x:=.ints .u8 [] 0) ⟨rfl,rfl⟩ (And.intro (.inl rfl) (And.intro (.inr ⟨rfl,rfl⟩) (And.intro (.inl rfl) (And.intro (.inl rfl) (And.intro (.inl rfl) trivial))))))) (aI rfl (aI rfl (aI rfl (aI rfl (aI rfl (aI rfl (trivial))))))) (fun _=>rfl) (fun _=>rfl) (fun _=>Qa) ?_
 ·intro r hr
  refine congrArg (fun l=>List.getD l r []) (?_:B7=_)
  kernel_rfl
 rintro⟨i,gl,cl⟩ ⟨hi,EC⟩ d0
 refine Or.elim (Nat.lt_or_ge i 4) (fun hl=>?_) (fun hl=>?_)
 ·match i,hl with
  |0,_=>
   have hp:cq 1=cq 0++List.replicate 144 8:=by decide+kernel
   have bO:(cq 0).length=0:=by decide+kernel
   have BS:(cq 1).length=0+144:=by decide+kernel
   have PW:(cq 0).length≤cl:=EC
   have JD:(List.replicate 144 (8:Int)).length=144:=List.length_replicate ..
   refine Qs ?_
   refine bP (i:=7) (k:=144) (v:=8) rfl (by omega) (by omega) ?_
   refine Qs ?_
   intro zs e9
   obtain rfl:zs=List.replicate 144 8:=by rw[e9];rfl
   refine Qs ?_
   intro c4 yT
   have qF:(cq 0).length+144≤c4:=yT
   refine Qs ?_
   refine RO.same (1,gl+1,c4) ⟨by decide,by show(cq 1).length≤c4;omega⟩ (show 4-1<4-0 by decide) (And.intro rfl (And.intro ?_ (aI rfl (aI rfl (aI rfl (trivial)))))) (And.intro rfl (And.intro rfl (And.intro rfl (And.intro rfl (And.intro rfl (And.intro ?_ trivial))))))
   ·show AV.sl 5 (gl+1) 0 ((cq 0).length+144) c4=AV.sl 5 (gl+1) 0 (cq 1).length c4
    rw[BS,bO]
   ·show AO.one true (gl+1) (.ints .u8 (cq 0++List.replicate 144 8) c4)=AO.one true (gl+1) (.ints .u8 (cq 1) c4)
    rw[hp]
  |1,_=>
   have hp:cq 2=cq 1++List.replicate 112 9:=by decide+kernel
   have bO:(cq 1).length=144:=by decide+kernel
   have BS:(cq 2).length=144+112:=by decide+kernel
   have PW:(cq 1).length≤cl:=EC
   have JD:(List.replicate 112 (9:Int)).length=112:=List.length_replicate ..
   refine Qs ?_
   refine bP (i:=7) (k:=112) (v:=9) rfl (by omega) (by omega) ?_
   refine Qs ?_
   intro zs e9
   obtain rfl:zs=List.replicate 112 9:=by rw[e9];rfl
   refine Qs ?_
   intro c4 yT
   have qF:(cq 1).length+112≤c4:=yT
   refine Qs ?_
   refine RO.same (2,gl+1,c4) ⟨by decide,by show(cq 2).length≤c4;omega⟩ (show 4-2<4-1 by decide) (And.intro rfl (And.intro ?_ (aI rfl (aI rfl (aI rfl (trivial)))))) (And.intro rfl (And.intro rfl (And.intro rfl (And.intro rfl (And.intro rfl (And.intro ?_ trivial))))))
   ·show AV.sl 5 (gl+1) 0 ((cq 1).length+112) c4=AV.sl 5 (gl+1) 0 (cq 2).length c4
    rw[BS,bO]
   ·show AO.one true (gl+1) (.ints .u8 (cq 1++List.replicate 112 9) c4)=AO.one true (gl+1) (.ints .u8 (cq 2) c4)
    rw[hp]
  |2,_=>
   have hp:cq 3=cq 2++List.replicate 24 7:=by decide+kernel
   have bO:(cq 2).length=256:=by decide+kernel
   have BS:(cq 3).length=256+24:=by decide+kernel
   have PW:(cq 2).length≤cl:=EC
   have JD:(List.replicate 24 (7:Int)).length=24:=List.length_replicate ..
   refine Qs ?_
   refine bP (i:=7) (k:=24) (v:=7) rfl (by omega) (by omega) ?_
   refine Qs ?_
   intro zs e9
   obtain rfl:zs=List.replicate 24 7:=by rw[e9];rfl
   refine Qs ?_
   intro c4 yT
   have qF:(cq 2).length+24≤c4:=yT
   refine Qs ?_
   refine RO.same (3,gl+1,c4) ⟨by decide,by show(cq 3).length≤c4;omega⟩ (show 4-3<4-2 by decide) (And.intro rfl (And.intro ?_ (aI rfl (aI rfl (aI rfl (trivial)))))) (And.intro rfl (And.intro rfl (And.intro rfl (And.intro rfl (And.intro rfl (And.intro ?_ trivial))))))
   ·show AV.sl 5 (gl+1) 0 ((cq 2).length+24) c4=AV.sl 5 (gl+1) 0 (cq 3).length c4
    rw[BS,bO]
   ·show AO.one true (gl+1) (.ints .u8 (cq 2++List.replicate 24 7) c4)=AO.one true (gl+1) (.ints .u8 (cq 3) c4)
    rw[hp]
  |3,_=>
   have hp:cq 4=cq 3++List.replicate 8 8:=by decide+kernel
   have bO:(cq 3).length=280:=by decide+kernel
   have BS:(cq 4).length=280+8:=by decide+kernel
   have PW:(cq 3).length≤cl:=EC
   have JD:(List.replicate 8 (8:Int)).length=8:=List.length_replicate ..
   refine Qs ?_
   refine bP (i:=7) (k:=8) (v:=8) rfl (by omega) (by omega) ?_
   refine Qs ?_
   intro zs e9
   obtain rfl:zs=List.replicate 8 8:=by rw[e9];rfl
   refine Qs ?_
   intro c4 yT
   have qF:(cq 3).length+8≤c4:=yT
   refine Qs ?_
   refine RO.same (4,gl+1,c4) ⟨by decide,by show(cq 4).length≤c4;omega⟩ (show 4-4<4-3 by decide) (And.intro rfl (And.intro ?_ (aI rfl (aI rfl (aI rfl (trivial)))))) (And.intro rfl (And.intro rfl (And.intro rfl (And.intro rfl (And.intro rfl (And.intro ?_ trivial))))))
   ·show AV.sl 5 (gl+1) 0 ((cq 3).length+8) c4=AV.sl 5 (gl+1) 0 (cq 4).length c4
    rw[BS,bO]
   ·show AO.one true (gl+1) (.ints .u8 (cq 3++List.replicate 8 8) c4)=AO.one true (gl+1) (.ints .u8 (cq 4) c4)
    rw[hp]
 ·obtain rfl:i=4:=by omega
  simp only[IV]at EC
  have Wg:∀x∈cN,0≤x∧x<256:=by decide+kernel
  have QK:∀x∈eK,0≤x∧x<256:=by decide+kernel
  have Ng:cN.length=288:=by decide+kernel
  have SL:aE cN=0:=by decide+kernel
  have SK:aE eK=0:=by decide+kernel
  have Ir:=ok.ll
  refine Qs ?_
  rw[IV]
  refine sv (i:=5) (ls:=cN) rfl rfl (by omega) Wg (fun _=>?_) (fun h=>absurd SL h)
  refine Qs ?_
  refine bP (i:=8) (k:=32) (v:=5) rfl (by omega) (by omega) ?_
  refine Qs ?_
  refine sv (i:=9) (ls:=eK) rfl rfl (by decide) QK (fun _=>?_) (fun h=>absurd SK h)
  refine Qs ?_
  refine DI [.one true 0 (.cI 2 4 (fun j=>B7.getD j []) 4),.one true gl (.ints .u8 cN cl),bE (cn (bR cN) []),bx 6,.one true 0 (.ints .u8 [5] 1),.one true 0 (.ints .u8 eK 32),bE (cn (bR eK) []),bx 10] 2 6 rfl rfl rfl rfl rfl ok hb (gW _) (gW _) (jL (N:=2000) (by omega)) (jL (N:=2000) (by decide)) (by unfold FU;omega) hR (fun g' c' s' h k l=>?_) (fun e g' c' s' h=>?_)
  ·refine Qs ?_
   exact Exists.intro (zH lim gb cb xs g' c' s') (And.intro (aI rfl (aI rfl (aI rfl (aI rfl (trivial))))) (And.intro fe (And.intro rfl (h0 g' c' s' h k l))))
  ·exact Exists.intro (zH lim gb cb xs g' c' s') (And.intro (aI rfl (aI rfl (aI rfl (aI rfl (trivial))))) (And.intro fe (And.intro rfl (h1 e g' c' s' h))))
end
end Go.Proofs.Ytibadaomjlkoaaa
open Go.RowKit
namespace Go.Proofs.Ytibadaomjlkoaaa
set_option maxRecDepth 10000
def ql:List Nat:=[16,17,18,0,8,7,9,6,10,5,11,4,12,3,13,2,14,1,15]
def xR:Nat→Nat→List Int→DP (List Int)
 |0,_,ls=>.ret ls
 |n+1,i,ls=>.get 3 fun v=>xR n (i+1) (ls.set (ql.getD i 0) v)
def Lk:DP Unit:=.get 5 fun a=>.get 5 fun b=>.get 4 fun c=>if 286<a+257∨30<b+1 then .fail 80 else
 (xR (c.toNat+4) 0 (List.replicate 19 0)).bind fun ls=>(rL ls).bind fun T=>(nO T (a.toNat+257+(b.toNat+1)) 401 []).bind fun l=>if l.getD 256 0=0 then .fail 80 else
  (rL (l.take (a.toNat+257))).bind fun A=>(rL (l.drop (a.toNat+257))).bind fun B=>jl A B FU
section
variable{K Kp:AV→AH→Prop}{xs:List Int}{lim gb cb g c:Nat}{s:DS}
theorem vI {M:AH}{i g off n c0 co:Nat}{o:Bool}{ls ys:List Int}(hi:M[i]?=some (.one o g (.ints .u8 ys co)))(hn:n=ls.length)(hy:ls=(ys.drop off).take ls.length)(hc:off+ls.length≤co)(hl:ls.length≤2000)(hu:∀x∈ls,0≤x∧x<256)
 (h0:aE ls=0→K (.ptr (M.length+1) 0 0) (M++[bE (cn (bR ls) []),bx M.length]))
 (h1:aE ls≠0→Kp (bj (aE ls)) M):aa Try.prog 63 [.sl i g off n c0] M K Kp:=by
 subst hn
 refine aa.lift [.ep i g off] (su (ls:=ls) (c0:=c0) (c:=ls.length) (K:=fun r M=>aE ls=0∧r=.ptr 2 0 0∧M=[.one false 0 (.ints .u8 ls ls.length),bE (cn (bR ls) []),bx 1]) (Kp:=fun v M=>aE ls≠0∧v=bj (aE ls)∧M=[.one false 0 (.ints .u8 ls ls.length)]) hl hu (fun h=>⟨h,rfl,rfl⟩) (fun h=>⟨h,rfl,rfl⟩)) (by simp[AV.qZ,AV.rn,yP,Bp,Bq,TE.i]) rfl ⟨⟨_,_,_,rfl,ak hi,eh.ints hc hy⟩,trivial⟩ ⟨trivial,trivial⟩ ?_ ?_
 ·rintro r M' ⟨e,rfl,rfl⟩
  refine⟨⟨rfl,rfl⟩,?_⟩
  have:=h0 e
  unfold bE at this
  rw[←jn [.ep i g off] M.length (.pair .i64 .i64) (cn (bR ls) [])]at this
  exact this
 ·rintro r M' ⟨e,rfl,rfl⟩
  refine⟨⟨rfl,rfl⟩,?_⟩
  have:=h1 e
  rw[←List.append_nil M]at this
  exact this
theorem yV (E:AH)(i:Nat){T:List ((Int×Int)×Int)}{n f0:Nat}(JE:E[i]?=some (bE T))(Ez:E[i+1]?=some (bx (i+4)))
 (oU:(bB [.own 0,.own 1,.own 2,.own 3,.own (i+4),.own (i+5)]&&AV.oT [.own 0,.own 1,.own 2,.own 3,.own (i+4),.own (i+5)] [.ptr 0 0 0,.ptr 5 0 0,.int .i64 (n:Int)])=true)
 (ok:gS xs lim c s)(hT:fq T)(hN:lg 19 T)(hn:1≤n∧n≤400)(hf:n<f0){R:Except Int (List Int×DS)}(hR:(nO T n f0 []).run (unpack xs) lim s=R)
 (h0:∀gl cl l s',R=.ok (l,s')→s'.out=s.out→gS xs lim c s'→l.length=n→(∀x∈l,0≤x∧x<256)→l.length≤cl→K (.sl (E.length+4) gl 0 l.length cl) (zH lim gb cb xs g c s'++(E++[.one true gl (.ints .u8 l cl)])))
 (h1:∀e s',R=.error e→Kp (bj e) (zH lim gb cb xs g c s'++E)):
 aa Try.prog 64 [.ptr 0 0 0,.ptr (i+5) 0 0,.int .i64 (n:Int)] (zH lim gb cb xs g c s++E) K Kp:=by
 have key:∀s' X,c8 [.own 0,.own 1,.own 2,.own 3,.own (i+4),.own (i+5)] (zH lim gb cb xs g c s++E).length [.own 0,.own 1,.own 2,.own 3,.own (i+4),.own (i+5)] (zH lim gb cb xs g c s'++bE T::bx 4::X) (zH lim gb cb xs g c s++E)=zH lim gb cb xs g c s'++(E++MH [.own 0,.own 1,.own 2,.own 3,.own (i+4),.own (i+5)] (zH lim gb cb xs g c s++E).length X):=by
  intro s' X
  show((zH lim gb cb xs g c s'++E).set (i+4) (AO.one true 0 ((ae.map (.pair .i64 .i64) (kS T)).rn [.own 0,.own 1,.own 2,.own 3,.own (i+4),.own (i+5)] (zH lim gb cb xs g c s++E).length))).set (i+5) (bx (i+4))++MH [.own 0,.own 1,.own 2,.own 3,.own (i+4),.own (i+5)] (zH lim gb cb xs g c s++E).length X=_
  rw[jn]
  show zH lim gb cb xs g c s'++((E.set i (bE T)).set (i+1) (bx (i+4))++MH [.own 0,.own 1,.own 2,.own 3,.own (i+4),.own (i+5)] (zH lim gb cb xs g c s++E).length X)=_
  rw[qW JE,qW Ez]
 refine aa.lift [.own 0,.own 1,.own 2,.own 3,.own (i+4),.own (i+5)] (uX (K:=fun r M=>∃gl cl l s',r=.sl 6 gl 0 l.length cl∧M=Ql lim gb cb xs T g c s' gl cl l∧K (.sl (E.length+4) gl 0 l.length cl) (zH lim gb cb xs g c s'++(E++[.one true gl (.ints .u8 l cl)]))) (Kp:=fun r M=>∃e s',r=bj e∧M=EX lim gb cb xs T g c s'∧Kp r (zH lim gb cb xs g c s'++E)) ok hT hN hn hf hR
  (fun gl cl l s' a1 a2 a3 a4 a5 a6=>⟨gl,cl,l,s',rfl,rfl,h0 gl cl l s' a1 a2 a3 a4 a5 a6⟩) (fun e s' h=>⟨e,s',rfl,rfl,h1 e s' h⟩)) rfl oU
  ⟨⟨rfl,rfl⟩,⟨rfl,rfl⟩,⟨rfl,rfl⟩,⟨rfl,rfl⟩,⟨?_,rfl⟩,⟨?_,rfl⟩,trivial⟩ ⟨rfl,rfl,trivial,trivial,wo _ (.pair .i64 .i64) T,rfl,trivial⟩ ?_ ?_
 ·show E[i]?=some (AO.one true 0 ((ae.map (.pair .i64 .i64) (kS T)).rn _ _))
  rw[jn];exact JE
 ·exact Ez
 ·rintro r M' ⟨gl,cl,l,s',rfl,rfl,hk⟩
  refine⟨⟨rfl,rfl,rfl,rfl,rfl,rfl,rfl⟩,?_⟩
  have:=key s' [.one true gl (.ints .u8 l cl)]
  rw[show Ql lim gb cb xs T g c s' gl cl l=zH lim gb cb xs g c s'++bE T::bx 4::[.one true gl (.ints .u8 l cl)]from rfl,this]
  exact hk
 ·rintro r M' ⟨e,s',rfl,rfl,hk⟩
  refine⟨⟨rfl,rfl,rfl,rfl,rfl,rfl,rfl⟩,?_⟩
  have:=key s' []
  rw[show EX lim gb cb xs T g c s'=zH lim gb cb xs g c s'++bE T::bx 4::[]from rfl,this]
  show Kp _ (zH lim gb cb xs g c s'++(E++[]))
  rw[List.append_nil]
  exact hk
def WQ (lim gb cb:Nat)(xs:List Int)(g c:Nat)(s:DS)(ls:List Int):AH:=zH lim gb cb xs g c s++[.one true 0 (.ints .u8 ls 19)]
theorem Nx {ls:List Int}:lJ 5 (WQ lim gb cb xs g c s ls):=⟨by simp[ae.nb,AV.rN,AV.nb,AO.nb],rfl,trivial,trivial,trivial,trivial⟩
theorem yp (ok:gS xs lim c s)(hb:∀x∈s.out,0≤x∧x<256){R:Except Int (Unit×DS)}(hR:Lk.run (unpack xs) lim s=R)
 (h0:∀g' c' s',R=.ok ((),s')→gS xs lim c' s'→(∀x∈s'.out,0≤x∧x<256)→K (.aG []) (zH lim gb cb xs g' c' s'))
 (h1:∀e g' c' s',R=.error e→Kp (bj e) (zH lim gb cb xs g' c' s')):
 aa Try.prog 33 [.ptr 0 0 0] (zH lim gb cb xs g c s) K Kp:=by
 refine aa.qh ?_
 refine Ou (fun _=>[]) [] rfl ?_
 unfold Lk at hR
 refine Qs ?_
 refine dM [] (n:=5) hR ok (by omega) (fun a s1 ha Qy Mb FE hR=>?_) (fun h=>Exists.intro (zH lim gb cb xs g c s) (And.intro (aI rfl (aI rfl (aI rfl (aI rfl (trivial))))) (And.intro fe (And.intro rfl (h1 50 g c s h)))))
 refine Qs ?_
 refine dM [] (n:=5) hR FE (by omega) (fun b s2 gP GK uW qm hR=>?_) (fun h=>Exists.intro (zH lim gb cb xs g c s1) (And.intro (aI rfl (aI rfl (aI rfl (aI rfl (trivial))))) (And.intro fe (And.intro rfl (h1 50 g c s1 h)))))
 refine Qs ?_
 refine dM [] (n:=4) hR qm (by omega) (fun cc s3 Ma F6 Gf uR hR=>?_) (fun h=>Exists.intro (zH lim gb cb xs g c s2) (And.intro (aI rfl (aI rfl (aI rfl (aI rfl (trivial))))) (And.intro fe (And.intro rfl (h1 50 g c s2 h)))))
 simp only[Int.toNat_natCast]at hR
 refine Qs ?_
 refine And.intro (fun hA=>?_) (fun hA=>?_)
 ·have IK:(286:Int)<a+257:=by simpa using hA
  rw[if_pos (.inl IK)]at hR
  refine Qs ?_
  refine bU (fun h=>absurd h (by decide)) (fun _=>?_)
  exact Exists.intro (zH lim gb cb xs g c s3) (And.intro (aI rfl (aI rfl (aI rfl (aI rfl (trivial))))) (And.intro fe (And.intro rfl (h1 80 _ _ _ hR.symm))))
 have IK:¬(286:Int)<a+257:=by simpa using hA
 refine Qs ?_
 refine And.intro (fun hB=>?_) (fun hB=>?_)
 ·have QL:(30:Int)<b+1:=by simpa using hB
  rw[if_pos (.inr QL)]at hR
  refine Qs ?_
  refine bU (fun h=>absurd h (by decide)) (fun _=>?_)
  exact Exists.intro (zH lim gb cb xs g c s3) (And.intro (aI rfl (aI rfl (aI rfl (aI rfl (trivial))))) (And.intro fe (And.intro rfl (h1 80 _ _ _ hR.symm))))
 have QL:¬(30:Int)<b+1:=by simpa using hB
 rw[if_neg (by rintro(h|h);exact IK h;exact QL h),DP.run_bind]at hR
 obtain⟨R2,yU⟩:∃R2,(xR (cc+4) 0 (List.replicate 19 0)).run (unpack xs) lim s3=R2:=⟨_,rfl⟩
 rw[yU]at hR
 refine Qs ?_
 refine WO.go (σ:=Nat×DS×List Int) (fun(i,s',ls)=>s'.out=s.out∧gS xs lim c s'∧i≤cc+4∧ls.length=19∧(∀x∈ls,0≤x∧x<256)∧(xR (cc+4-i) i ls).run (unpack xs) lim s'=R2) (fun(i,_)=>cc+4-i)
  (fun(i,_)=>[(0,.ptr 0 0 0),(2,.int .i64 ((a:Int)+257)),(3,.int .i64 ((b:Int)+1)),(5,.sl 4 0 0 19 19),(25,.int .i64 ((cc:Int)+4)),(26,.int .i64 (i:Int))]) (fun(i,s',ls)=>WQ lim gb cb xs g c s' ls) (0,s3,List.replicate 19 0) ag mixed (by kernel_rfl)
  ⟨by rw[F6,GK,Qy],uR,Nat.zero_le _,by decide,by decide,yU⟩ (aI rfl (aI rfl (aI rfl (aI rfl (aI rfl (aI rfl (trivial))))))) (aI rfl (aI rfl (aI rfl (aI rfl (aI rfl (trivial)))))) (fun _=>rfl) (fun _=>rfl) (fun _=>Nx) ?_
 rintro⟨i,s4,ls⟩ ⟨Qx,FD,hi,BX,Ex,SC⟩ d0
 refine Qs ?_
 refine And.intro (fun hc=>?_) (fun hc=>?_)
 ·have aZ:i<cc+4:=by simp only[decide_eq_true_eq]at hc;omega
  rw[show cc+4-i=cc+4-(i+1)+1 by omega,xR]at SC
  have VJ:i<19:=by omega
  have er:ByteArray.size {data:=#[16,17,18,0,8,7,9,6,10,5,11,4,12,3,13,2,14,1,15]}=19:=rfl
  obtain⟨z,hz⟩:∃z,(({data:=#[16,17,18,0,8,7,9,6,10,5,11,4,12,3,13,2,14,1,15]}:ByteArray).data.toList.getD ((i:Int)).toNat 0).toNat=z:=⟨_,rfl⟩
  have X9:ql.getD i 0=z∧z<19:=by
   have:∀i,i<19→ql.getD i 0=(({data:=#[16,17,18,0,8,7,9,6,10,5,11,4,12,3,13,2,14,1,15]}:ByteArray).data.toList.getD i 0).toNat∧ql.getD i 0<19:=by decide
   obtain⟨k1,k2⟩:=this i VJ
   rw[Int.toNat_natCast]at hz
   rw[hz]at k1
   exact⟨k1,k1▸k2⟩
  rw[X9.1]at SC
  refine Qs ?_
  rw[hz]
  refine Qs ?_
  refine dM [.one true 0 (.ints .u8 ls 19)] (n:=3) SC FD (by omega) (fun v s5 hv F5 Zc HF tY=>?_) (fun h=>Exists.intro (zH lim gb cb xs g c s4) (And.intro (aI rfl (aI rfl (aI rfl (aI rfl (trivial))))) (And.intro fe (And.intro rfl (h1 50 g c s4 (by rw[h]at hR;exact hR.symm))))))
  have rj:(v:Int)%256=v:=by omega
  have VF:∀x∈ls.set z (v:Int),0≤x∧x<256:=fun x hx=>by
   rcases List.mem_or_eq_of_mem_set hx with hx|rfl
   ·exact Ex x hx
   ·omega
  refine Qs ?_
  refine RO.same (i+1,s5,ls.set z (v:Int)) ⟨by rw[F5,Qx],HF,by omega,by rw[List.length_set];exact BX,VF,tY⟩ (show cc+4-(i+1)<cc+4-i by omega) (aI rfl (aI rfl (aI rfl (aI rfl (aI rfl (aI rfl (trivial))))))) (And.intro rfl (And.intro rfl (And.intro rfl (And.intro rfl (And.intro ?_ trivial)))))
  show AO.one true 0 (.ints .u8 (ls.set z (v:Int)) 19)=AO.one true 0 (.ints .u8 (ls.set z ((v:Int)%256)) 19)
  rw[rj]
 ·obtain rfl:i=cc+4:=by simp only[decide_eq_false_iff_not]at hc;omega
  rw[Nat.sub_self,xR,DP.run]at SC
  rw[←SC]at hR
  simp only at hR
  rw[DP.run_bind]at hR
  refine Qs ?_
  refine sv (i:=4) (ls:=ls) rfl BX.symm (by omega) Ex (fun he=>?_) (fun he=>?_)
  ·rw[rL,if_pos he,DP.run]at hR
   simp only at hR
   rw[DP.run_bind]at hR
   obtain⟨R3,XL⟩:∃R3,(nO (cn (bR ls) []) (a+257+(b+1)) 401 []).run (unpack xs) lim s4=R3:=⟨_,rfl⟩
   rw[XL]at hR
   have en:(a:Int)+257+((b:Int)+1)=((a+257+(b+1):Nat):Int):=by push_cast;rfl
   refine Qs ?_
   rw[en]
   refine yV [.one true 0 (.ints .u8 ls 19),bE (cn (bR ls) []),bx 5] 1 rfl rfl rfl FD (gW _) (jL (by omega)) (by omega) (by omega) XL (fun gl cl l s6 e6 Xo Qo Z2 Uw EC=>?_) (fun e s' h=>?_)
   ·rw[e6]at hR
    simp only at hR
    refine Qs ?_
    refine And.intro (fun hc=>?_) (fun hc=>?_)
    ·have hz:l.getD 256 0=0:=by simpa using hc
     rw[if_pos hz]at hR
     refine Qs ?_
     refine bU (fun h=>absurd h (by decide)) (fun _=>?_)
     exact Exists.intro (zH lim gb cb xs g c s6) (And.intro (aI rfl (aI rfl (aI rfl (aI rfl (trivial))))) (And.intro fe (And.intro rfl (h1 80 _ _ _ hR.symm))))
    have hz:¬l.getD 256 0=0:=by simpa using hc
    rw[if_neg hz,DP.run_bind]at hR
    have Ss:∀x∈s6.out,0≤x∧x<256:=by rw[Xo,Qx];exact hb
    have PE:(l.take (a+257)).length=a+257:=by rw[List.length_take];omega
    have Z1:(l.drop (a+257)).length=b+1:=by rw[List.length_drop];omega
    have Wg:∀x∈l.take (a+257),0≤x∧x<256:=fun x hx=>Uw x (List.mem_of_mem_take hx)
    have QK:∀x∈l.drop (a+257),0≤x∧x<256:=fun x hx=>Uw x (List.mem_of_mem_drop hx)
    have e7:((a:Int)+257).toNat=a+257:=by omega
    have e8:cH cl (a+257) 0 1=a+257:=by rw[OK (by omega)];omega
    have Ir:=ok.ll
    refine Qs ?_
    rw[e7]
    simp only[e8]
    refine vI (i:=7) (off:=0) (ys:=l) (co:=cl) (ls:=l.take (a+257)) rfl PE.symm (by rw[PE,List.drop_zero]) (by omega) (by omega) Wg (fun SL=>?_) (fun SL=>?_)
    ·rw[rL,if_pos SL,DP.run]at hR
     simp only at hR
     rw[DP.run_bind]at hR
     refine Qs ?_
     refine vI (i:=7) (off:=a+257) (ys:=l) (co:=cl) (ls:=l.drop (a+257)) rfl (List.length_drop ..).symm List.take_length.symm (by omega) (by omega) QK (fun SK=>?_) (fun SK=>?_)
     ·rw[rL,if_pos SK,DP.run]at hR
      simp only at hR
      refine Qs ?_
      refine DI [.one true 0 (.ints .u8 ls 19),bE (cn (bR ls) []),bx 5,.one true gl (.ints .u8 l cl),bE (cn (bR (l.take (a+257))) []),bx 8,bE (cn (bR (l.drop (a+257))) []),bx 10] 4 6 rfl rfl rfl rfl rfl Qo Ss (gW _) (gW _) (jL (N:=2000) (by omega)) (jL (N:=2000) (by omega)) (by unfold FU;omega) hR (fun g' c' s' h k l=>?_) (fun e g' c' s' h=>?_)
      ·refine Qs ?_
       exact Exists.intro (zH lim gb cb xs g' c' s') (And.intro (aI rfl (aI rfl (aI rfl (aI rfl (trivial))))) (And.intro fe (And.intro rfl (h0 g' c' s' h k l))))
      ·exact Exists.intro (zH lim gb cb xs g' c' s') (And.intro (aI rfl (aI rfl (aI rfl (aI rfl (trivial))))) (And.intro fe (And.intro rfl (h1 e g' c' s' h))))
     ·rw[rL,if_neg SK,DP.run]at hR
      exact Exists.intro (zH lim gb cb xs g c s6) (And.intro (aI rfl (aI rfl (aI rfl (aI rfl (trivial))))) (And.intro fe (And.intro rfl (h1 _ _ _ _ hR.symm))))
    ·rw[rL,if_neg SL,DP.run]at hR
     exact Exists.intro (zH lim gb cb xs g c s6) (And.intro (aI rfl (aI rfl (aI rfl (aI rfl (trivial))))) (And.intro fe (And.intro rfl (h1 _ _ _ _ hR.symm))))
   ·rw[h]at hR
    exact Exists.intro (zH lim gb cb xs g c s') (And.intro (aI rfl (aI rfl (aI rfl (aI rfl (trivial))))) (And.intro fe (And.intro rfl (h1 e _ _ _ hR.symm))))
  ·rw[rL,if_neg he,DP.run]at hR
   exact Exists.intro (zH lim gb cb xs g c s4) (And.intro (aI rfl (aI rfl (aI rfl (aI rfl (trivial))))) (And.intro fe (And.intro rfl (h1 _ _ _ _ hR.symm))))
end
end Go.Proofs.Ytibadaomjlkoaaa
open Go.RowKit
namespace Go.Proofs.Ytibadaomjlkoaaa
set_option maxRecDepth 10000
def HB:DP Unit:=jl (cn (bR cN) []) (cn (bR eK) []) FU
def gw (k:Int):DP Unit:=if k=0 then mW else if k=1 then HB else if k=2 then Lk else .fail 80
def jy:Nat→DP Unit
 |0=>.fail 50
 |f+1=>.get 1 fun last=>.get 2 fun k=>(gw k).bind fun _=>if last=0 then jy f else .ret ()
def FI:Nat:=8000001
section
variable{K Kp:AV→AH→Prop}{xs:List Int}{lim gb cb g c:Nat}{s:DS}
def zI (co lim gb cb:Nat)(xs:List Int)(r1 r2 r3:AV)(g c:Nat)(s:DS):AH:=[.one false 0 (.ints .u8 xs co),.one true 0 (.cells [r1]),.one true 0 (.cells [r2]),.one true 0 (.cells [r3]),rb gb cb xs,ro 4 gb cb xs s.a,
 .one true 0 (.cells [.ptr 5 0 0,.sl 8 g 0 s.out.length c,.int .i64 (lim:Int)]),.one true 0 (.cells [.fn (.func 31) [] [],.fn (.func 32) [] [],.fn (.func 33) [] [],.fn (.func 34) [] []]),.one true g (.ints .u8 s.out c)]
theorem Gx {co:Nat}{r1 r2 r3:AV}{KH:AH→Prop}(h:KH (zI co lim gb cb xs r1 r2 r3 g c s++[.one true 0 (.cells [.int .i64 0])])):rE Try.prog 29 [.ptr 1 0 0,.ptr 2 0 0,.ptr 3 0 0] (zI co lim gb cb xs r1 r2 r3 g c s) none KH:=by
 refine rE.intro (x:=TT (fun _=>[9]) []) ag mixed Try.func29 (rfl:Try.f29.body=_) (by kernel_rfl) rfl (by kernel_rfl) rfl rfl rfl rfl rfl ?_
 conv=>whnf
 refine And.intro rfl ?_
 conv=>whnf
 refine Qs ?_
 exact h
theorem hU {co:Nat}{r1 r2 r3:AV}{e:Int}{KH:AH→Prop}(h:KH (zI co lim gb cb xs .ns (.int .i64 0) (.int .i64 e) g c s++[.one true 0 (.cells [.int .i64 e])])):rE Try.prog 29 [.ptr 1 0 0,.ptr 2 0 0,.ptr 3 0 0] (zI co lim gb cb xs r1 r2 r3 g c s) (some (bj e)) KH:=by
 refine rE.intro (x:=TT (fun _=>[9]) []) ag mixed Try.func29 (rfl:Try.f29.body=_) (by kernel_rfl) rfl (by kernel_rfl) rfl rfl rfl rfl rfl ?_
 conv=>whnf
 refine And.intro rfl ?_
 conv=>whnf
 refine Qs ?_
 exact h
theorem MB {f:Nat}{args AK:List AV}{co:Nat}{r1 r2 r3:AV}(h:aa Try.prog f args (zH lim gb cb xs g c s) (fun r M=>∃g' c' s',M=zH lim gb cb xs g' c' s'∧(∀m,r.rn [.own 6,.own 5,.own 4,.own 8] m=r)∧K r (zI co lim gb cb xs r1 r2 r3 g' c' s')) (fun r M=>∃g' c' s',M=zH lim gb cb xs g' c' s'∧(∀m,r.rn [.own 6,.own 5,.own 4,.own 8] m=r)∧Kp r (zI co lim gb cb xs r1 r2 r3 g' c' s')))
 (jW:AV.qZ [.own 6,.own 5,.own 4,.own 8] 9 args=AK)(hw:AV.oT [.own 6,.own 5,.own 4,.own 8] args=true):aa Try.prog f AK (zI co lim gb cb xs r1 r2 r3 g c s) K Kp:=by
 refine aa.lift [.own 6,.own 5,.own 4,.own 8] h jW (by rw[hw];rfl) ⟨⟨rfl,rfl⟩,⟨rfl,rfl⟩,⟨rfl,rfl⟩,⟨rfl,rfl⟩,trivial⟩ ⟨rfl,rfl,trivial,trivial,trivial⟩ ?_ ?_
 ·rintro r M' ⟨g',c',s',rfl,hr,hk⟩
  refine⟨⟨rfl,rfl,rfl,rfl,rfl⟩,?_⟩
  rw[hr]
  exact hk
 ·rintro r M' ⟨g',c',s',rfl,hr,hk⟩
  refine⟨⟨rfl,rfl,rfl,rfl,rfl⟩,?_⟩
  rw[hr]
  exact hk
theorem D8 {co:Nat}{r1 r2 r3:AV}{n:Nat}{α:Type}{k:Int→DP α}{R:Except Int (α×DS)}(hR:(DP.get n k).run (unpack xs) lim s=R)(ok:gS xs lim c s)(hn:n≤16)
 (h0:∀(v:Nat) s',v<2^n→s'.out=s.out→s'.a=s.a+n→gS xs lim c s'→(k v).run (unpack xs) lim s'=R→K (.int .i64 (v:Int)) (zI co lim gb cb xs r1 r2 r3 g c s'))
 (h1:R=.error 50→Kp (bj 50) (zI co lim gb cb xs r1 r2 r3 g c s)):
 aa Try.prog 35 [.ptr 6 0 0,.int .i64 (n:Int)] (zI co lim gb cb xs r1 r2 r3 g c s) K Kp:=by
 refine MB (args:=[.ptr 0 0 0,.int .i64 (n:Int)]) ?_ rfl rfl
 exact dM [] hR ok hn (fun v s' a1 a2 a3 a4 a5=>⟨g,c,s',rfl,fun _=>rfl,h0 v s' a1 a2 a3 a4 a5⟩) (fun h=>⟨g,c,s,rfl,fun _=>rfl,h1 h⟩)
theorem yJ {co:Nat}{r1 r2 r3:AV}{f:Nat}{k:Nat}{R:Except Int (Unit×DS)}(hf:(k=0∧f=31)∨(k=1∧f=32)∨(k=2∧f=33)∨(k=3∧f=34))
 (hR:(gw k).run (unpack xs) lim s=R)(ok:gS xs lim c s)(hb:∀x∈s.out,0≤x∧x<256)
 (h0:∀g' c' s',R=.ok ((),s')→gS xs lim c' s'→(∀x∈s'.out,0≤x∧x<256)→K (.aG []) (zI co lim gb cb xs r1 r2 r3 g' c' s'))
 (h1:∀e g' c' s',R=.error e→Kp (bj e) (zI co lim gb cb xs r1 r2 r3 g' c' s')):
 aa Try.prog f [.ptr 6 0 0] (zI co lim gb cb xs r1 r2 r3 g c s) K Kp:=by
 refine MB (args:=[.ptr 0 0 0]) ?_ rfl rfl
 rcases hf with⟨rfl,rfl⟩|⟨rfl,rfl⟩|⟨rfl,rfl⟩|⟨rfl,rfl⟩
 ·exact zf ok hb hR (fun g' c' s' a1 a2 a3=>⟨g',c',s',rfl,fun _=>rfl,h0 g' c' s' a1 a2 a3⟩) (fun e g' c' s' h=>⟨g',c',s',rfl,fun _=>rfl,h1 e g' c' s' h⟩)
 ·exact B6 ok hb hR (fun g' c' s' a1 a2 a3=>⟨g',c',s',rfl,fun _=>rfl,h0 g' c' s' a1 a2 a3⟩) (fun e g' c' s' h=>⟨g',c',s',rfl,fun _=>rfl,h1 e g' c' s' h⟩)
 ·exact yp ok hb hR (fun g' c' s' a1 a2 a3=>⟨g',c',s',rfl,fun _=>rfl,h0 g' c' s' a1 a2 a3⟩) (fun e g' c' s' h=>⟨g',c',s',rfl,fun _=>rfl,h1 e g' c' s' h⟩)
 ·exact FM ⟨g,c,s,rfl,fun _=>rfl,h1 80 g c s hR.symm⟩
end
end Go.Proofs.Ytibadaomjlkoaaa
