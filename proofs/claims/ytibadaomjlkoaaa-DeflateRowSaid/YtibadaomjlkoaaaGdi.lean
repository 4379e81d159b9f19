import Derived.Test.YtibadaomjlkoaaaGdh
import Derived.Test.YtibadaomjlkoaaaGx
import Derived.Test.YtibadaomjlkoaaaGb
set_option linter.unusedVariables false
set_option linter.unusedSimpArgs false
open Go.RowKit
namespace Go.Proofs.Ytibadaomjlkoaaa
set_option maxRecDepth 10000
section
variable{K Kp:AV→AH→Prop}{xs:List Int}{c c0:Nat}
theorem BT {f a:Nat}(hx:xs.length≤1000000)(hf:f≤a)(ha:a≤xs.length)(h:K (.int .i64 (k6 xs f a:Nat)) [.one false 0 (.ints .u8 xs c)]):
 aa Try.prog 39 [.sl 0 0 0 xs.length c0,.int .i64 (f:Int),.int .i64 (a:Int)] [.one false 0 (.ints .u8 xs c)] K Kp:=by
 refine OP (fun _=>[0]) [] rfl ?_
 refine Qs ?_
 refine WO.go (σ:=Nat) (fun n=>n≤258∧a+n≤xs.length∧l8 xs f a (258-n) n=k6 xs f a) (fun n=>258-n) (fun n=>[(0,.sl 0 0 0 xs.length c0),(1,.int .i64 (f:Int)),(2,.int .i64 (a:Int)),(7,.int .i64 (n:Int))])
  (fun _=>[.one false 0 (.ints .u8 xs c)]) 0 ag mixed (by kernel_rfl) ⟨by decide,ha,rfl⟩ (aI rfl (aI rfl (aI rfl (aI rfl (trivial))))) (aI rfl (trivial)) (fun _=>rfl) (fun _=>rfl) (fun _=>⟨trivial,trivial⟩) ?_
 rintro n ⟨h1,h2,h3⟩ d
 refine Qs ?_
 refine And.intro (fun q1=>?_) (fun q1=>?_)
 ·have hn:n<258:=by simp only[decide_eq_true_eq]at q1;omega
  refine Qs ?_
  refine And.intro (fun q2=>?_) (fun q2=>?_)
  ·have Nx:a+n<xs.length:=by simp only[decide_eq_true_eq]at q2;omega
   refine Qs ?_
   refine And.intro (fun q3=>?_) (fun q3=>?_)
   ·have e3:xs.getD (f+n) 0=xs.getD (a+n) 0:=of_decide_eq_true q3
    refine Qs ?_
    refine RO.same (n+1) ⟨by omega,Nx,?_⟩ (show 258-(n+1)<258-n by omega) (aI rfl (aI rfl (aI rfl (aI rfl (trivial))))) (aI rfl (trivial))
    rw[←h3,show 258-n=(258-(n+1))+1 by omega,l8,if_pos ⟨Nx,e3⟩]
   ·have e3:¬xs.getD (f+n) 0=xs.getD (a+n) 0:=of_decide_eq_false q3
    refine Qs ?_
    rw[←h3,show 258-n=(257-n)+1 by omega,l8,if_neg (fun x=>e3 x.2)]at h
    exact h
  ·have Nx:¬a+n<xs.length:=by simp only[decide_eq_false_iff_not]at q2;omega
   refine Qs ?_
   rw[←h3,show 258-n=(257-n)+1 by omega,l8,if_neg (fun x=>Nx x.1)]at h
   exact h
 ·have hn:n=258:=by simp only[decide_eq_false_iff_not]at q1;omega
  subst hn
  refine Qs ?_
  rw[←h3]at h
  exact h
end
end Go.Proofs.Ytibadaomjlkoaaa
open Go.RowKit
namespace Go.Proofs.Ytibadaomjlkoaaa
set_option maxRecDepth 10000
section
variable{K Kp:AV→AH→Prop}{xs:List Int}{c c0:Nat}
theorem Ie {M:AH}{i g n c0 co f a:Nat}{o:Bool}{xs:List Int}(hi:M[i]?=some (.one o g (.ints .u8 xs co)))(hn:n=xs.length)(hc:xs.length≤co)(hx:xs.length≤1000000)(hf:f≤a)(ha:a≤xs.length)(h:K (.int .i64 (k6 xs f a:Nat)) M):
 aa Try.prog 39 [.sl i g 0 n c0,.int .i64 (f:Int),.int .i64 (a:Int)] M K Kp:=by
 subst hn
 refine aa.lift [.ew i g 0] (BT (xs:=xs) (c:=xs.length) (c0:=c0) (f:=f) (a:=a) (K:=fun r N=>r=.int .i64 (k6 xs f a:Nat)∧N=[.one false 0 (.ints .u8 xs xs.length)]) (Kp:=fun _ _=>False) hx hf ha ⟨rfl,rfl⟩)
  (by simp[AV.ri,AV.rn,yY,BF,BG,TE.i]) rfl ⟨⟨_,_,_,rfl,ak hi,eB.ints (by omega) (by rw[List.drop_zero,List.take_length])⟩,trivial⟩ ⟨trivial,trivial⟩ ?_ (fun _ _ h=>h.elim)
 rintro r M' ⟨rfl,rfl⟩
 refine⟨⟨rfl,rfl⟩,?_⟩
 rw[←List.append_nil M]at h
 exact h
def Ki (xs:List Int)(c c0 ga a:Nat)(t:Tk):AH:=[.one false 0 (.ints .u8 xs c),.one true 0 (.cells [.sl 0 0 0 xs.length c0]),.one true ga (.cells [.int .i64 (a:Int)]),.one true 0 (.cells t.row)]
theorem Hc {f a ga:Nat}{t:Tk}(hx:xs.length≤1000000)(hc:xs.length≤c)(hf:f≤a)(ha:a≤xs.length)(h:K (.aL []) (Ki xs c c0 ga a (lH xs a f t))):
 aa Try.prog 38 [.int .i64 (f:Int),.ptr 1 0 0,.ptr 2 ga 0,.ptr 3 0 0] (Ki xs c c0 ga a t) K Kp:=by
 obtain⟨b,l,d⟩:=t
 refine OQ (fun _=>[]) [] rfl ?_
 refine Qs ?_
 refine Ie (i:=0) (xs:=xs) rfl rfl hc hx hf ha ?_
 have hm:=pW (f:=f) ha
 obtain⟨m,XS⟩:∃m,k6 xs f a=m:=⟨_,rfl⟩
 rw[XS]at hm⊢
 have ht:lH xs a f ⟨b,l,d⟩=if 3≤m∧l<m then⟨0,m,a-f⟩else⟨b,l,d⟩:=by unfold lH;rw[XS]
 rw[ht]at h
 refine Qs ?_
 refine And.intro (fun q1=>?_) (fun q1=>?_)
 ·have h1:3≤m:=by simp only[decide_eq_true_eq]at q1;omega
  refine Qs ?_
  refine And.intro (fun q2=>?_) (fun q2=>?_)
  ·have h2:l<m:=by simp only[decide_eq_true_eq]at q2;omega
   rw[if_pos ⟨h1,h2⟩]at h
   refine Qs ?_
   have e:((a-f:Nat):Int)=(a:Int)-f:=by omega
   simp only[Ki,Tk.row,e]at h
   exact h
  ·have h2:¬l<m:=by simp only[decide_eq_false_iff_not]at q2;omega
   rw[if_neg (fun x=>h2 x.2)]at h
   refine Qs ?_
   exact h
 ·have h1:¬3≤m:=by simp only[decide_eq_false_iff_not]at q1;omega
  rw[if_neg (fun x=>h1 x.1)]at h
  refine Qs ?_
  exact h
def mi (xs:List Int)(c c0:Nat)(s:o7):AH:=[.one false 0 (.ints .u8 xs c),.one true 0 (.cells [.sl 0 0 0 xs.length c0]),.one true 0 (.map (.vM .u8) (kW s.1)),.one true 0 (.cells [.mp 2 0]),
 .one true 0 (.ints .i64 s.2 xs.length),.one true 0 (.cells [.sl 4 0 0 xs.length xs.length])]
theorem mh {s:o7}:lQ 6 (mi xs c c0 s):=⟨trivial,rfl,lA _ (.vM .u8) _,rfl,trivial,rfl,trivial⟩
theorem F5 {i:Nat}{s:o7}(hx:xs.length≤1000000)(hc:xs.length≤c0)(vx:c0≤c)(hb:∀x∈xs,0≤x∧x<256)(hi:i<xs.length)(hs:oe xs i s)(h:K (.aL []) (mi xs c c0 (iJ xs i s))):
 aa Try.prog 37 [.int .i64 (i:Int),.ptr 1 0 0,.ptr 3 0 0,.ptr 5 0 0] (mi xs c c0 s) K Kp:=by
 obtain⟨es,ah⟩:=s
 have hl:=hs.len
 simp only at hl
 refine aa.cj ?_
 refine OR (fun _=>[2,3,5,6]) [] rfl ?_
 refine Qs ?_
 refine And.intro (fun q1=>?_) (fun q1=>?_)
 ·have h1:i+3≤xs.length:=by simp only[decide_eq_true_eq]at q1;omega
  have ho:cI c0 (i:Int).toNat 0 1=i:=by unfold cI;rw[if_neg (by omega)];omega
  have gS:0≤xs.getD (cI c0 (i:Int).toNat 0 1+2) 0∧xs.getD (cI c0 (i:Int).toNat 0 1+2) 0<256:=by
   rw[ho]
   refine hb _ ?_
   rw[List.getD_eq_getElem?_getD,List.getElem?_eq_getElem (show i+2<xs.length by omega)]
   exact List.getElem_mem _
  have hk:((xs.getD (cI c0 (i:Int).toNat 0 1+0) 0,xs.getD (cI c0 (i:Int).toNat 0 1+1) 0*256+xs.getD (cI c0 (i:Int).toNat 0 1+2) 0):Int×Int)=eI xs i:=by rw[ho];rfl
  refine Qs ?_
  refine And.intro (fun v hv=>?_) (fun hv=>?_)
  ·have rA:ob (xs.getD (cI c0 (i:Int).toNat 0 1+0) 0,xs.getD (cI c0 (i:Int).toNat 0 1+1) 0*256+xs.getD (cI c0 (i:Int).toNat 0 1+2) 0) (kW es)=some v:=hv
   rw[hk,iR]at rA
   clear hv
   obtain⟨z,hz,rfl⟩:=Option.map_eq_some_iff.1 rA
   clear rA
   refine Qs ?_
   intro Cr lM
   have I4:Cr=qe (xs.getD (cI c0 (i:Int).toNat 0 1+0) 0,xs.getD (cI c0 (i:Int).toNat 0 1+1) 0*256+xs.getD (cI c0 (i:Int).toNat 0 1+2) 0) (.int .i64 ((i:Int)+1)) (kW es):=lM
   rw[hk,pg]at I4
   clear lM
   subst I4
   have e:iJ xs i (es,ah)=(lG (eI xs i) ((i:Int)+1) es,ah.set i z):=by
    unfold iJ;rw[if_pos h1];simp only[hz,Option.getD_some,Option.getD_none]
   rw[e]at h
   refine Qs ?_
   exact⟨mi xs c c0 (lG (eI xs i) ((i:Int)+1) es,ah.set i z),(aI rfl (aI rfl (aI rfl (aI rfl (aI rfl (aI rfl (trivial))))))),mh,rfl,h⟩
  ·have rA:ob (xs.getD (cI c0 (i:Int).toNat 0 1+0) 0,xs.getD (cI c0 (i:Int).toNat 0 1+1) 0*256+xs.getD (cI c0 (i:Int).toNat 0 1+2) 0) (kW es)=none:=hv
   rw[hk,iR]at rA
   clear hv
   have hz:bN (eI xs i) es=none:=Option.map_eq_none_iff.1 rA
   clear rA
   refine Qs ?_
   intro Cr lM
   have I4:Cr=qe (xs.getD (cI c0 (i:Int).toNat 0 1+0) 0,xs.getD (cI c0 (i:Int).toNat 0 1+1) 0*256+xs.getD (cI c0 (i:Int).toNat 0 1+2) 0) (.int .i64 ((i:Int)+1)) (kW es):=lM
   rw[hk,pg]at I4
   clear lM
   subst I4
   have e:iJ xs i (es,ah)=(lG (eI xs i) ((i:Int)+1) es,ah.set i 0):=by
    unfold iJ;rw[if_pos h1];simp only[hz,Option.getD_some,Option.getD_none]
   rw[e]at h
   refine Qs ?_
   exact⟨mi xs c c0 (lG (eI xs i) ((i:Int)+1) es,ah.set i 0),(aI rfl (aI rfl (aI rfl (aI rfl (aI rfl (aI rfl (trivial))))))),mh,rfl,h⟩
 ·have h1:¬i+3≤xs.length:=by simp only[decide_eq_false_iff_not]at q1;omega
  unfold iJ at h
  rw[if_neg h1]at h
  refine Qs ?_
  exact⟨mi xs c c0 (es,ah),vY _,mh,rfl,h⟩
end
end Go.Proofs.Ytibadaomjlkoaaa
open Go.RowKit
namespace Go.Proofs.Ytibadaomjlkoaaa
set_option maxRecDepth 10000
instance:Inhabited Tk:=⟨⟨0,0,0⟩⟩
def nU (l:List Tk)(c:Nat):ae:=.cJ 3 l.length (fun j=>(l.getD j default).row) c
theorem Hj (k:Nat)(l:List Tk)(c:Nat):(nU l c).nb k:=fun j=>rfl
def BS (xs:List Int)(c c0:Nat)(a:Nat)(s:o7)(ga:Nat)(out:List Tk)(g co:Nat):AH:=mi xs c c0 s++[.one true ga (.cells [.int .i64 (a:Int)]),.one true g (nU out co)]
section
variable{K Kp:AV→AH→Prop}{xs:List Int}{c c0:Nat}
theorem Pp {a:Nat}{s:o7}{ga:Nat}{out:List Tk}{g co:Nat}:lQ 8 (BS xs c c0 a s ga out g co):=⟨trivial,rfl,lA _ (.vM .u8) _,rfl,trivial,rfl,rfl,fun j=>rfl,trivial⟩
theorem Ew {a:Nat}{s:o7}{ga:Nat}{out:List Tk}{g co:Nat}{t:Tk}:lQ 9 (BS xs c c0 a s ga out g co++[.one true 0 (.cells t.row)]):=⟨trivial,rfl,lA _ (.vM .u8) _,rfl,trivial,rfl,rfl,fun j=>rfl,rfl,trivial⟩
theorem kX {a:Nat}{s:o7}{ga:Nat}{out:List Tk}{g co:Nat}:lQ 10 (BS xs c c0 a s ga out g co++[AO.gone,AO.gone]):=⟨trivial,rfl,lA _ (.vM .u8) _,rfl,trivial,rfl,rfl,fun j=>rfl,trivial,trivial,trivial⟩
theorem Hd {a f ga g co:Nat}{t:Tk}{s:o7}{out:List Tk}(hx:xs.length≤1000000)(hc:xs.length≤c)(hf:f≤a)(ha:a≤xs.length)(h:K (.aL []) (BS xs c c0 a s ga out g co++[.one true 0 (.cells (lH xs a f t).row)])):
 aa Try.prog 38 [.int .i64 (f:Int),.ptr 1 0 0,.ptr 6 ga 0,.ptr 8 0 0] (BS xs c c0 a s ga out g co++[.one true 0 (.cells t.row)]) K Kp:=by
 refine aa.lift [.fb 0,.own 1,.own 6,.own 8] (Hc (xs:=xs) (c:=c) (c0:=c0) (ga:=ga) (t:=t) (K:=fun r N=>r=.aL []∧N=Ki xs c c0 ga a (lH xs a f t)) (Kp:=fun _ _=>False) hx hc hf ha ⟨rfl,rfl⟩)
  rfl rfl ⟨⟨rfl,_,rfl,rfl⟩,⟨rfl,rfl⟩,⟨rfl,rfl⟩,⟨rfl,rfl⟩,trivial⟩ ⟨trivial,rfl,rfl,rfl,trivial⟩ ?_ (fun _ _ h=>h.elim)
 rintro r M' ⟨rfl,rfl⟩
 refine⟨⟨rfl,rfl,rfl,rfl,rfl⟩,?_⟩
 exact h
theorem kV {i:Nat}{s:o7}{E:AH}(hx:xs.length≤1000000)(hc:xs.length≤c0)(vx:c0≤c)(hb:∀x∈xs,0≤x∧x<256)(hi:i<xs.length)(hs:oe xs i s)(h:K (.aL []) (mi xs c c0 (iJ xs i s)++E)):
 aa Try.prog 37 [.int .i64 (i:Int),.ptr 1 0 0,.ptr 3 0 0,.ptr 5 0 0] (mi xs c c0 s++E) K Kp:=by
 refine aa.frame E (F5 (xs:=xs) (c:=c) (c0:=c0) (K:=fun r N=>r=.aL []∧N=mi xs c c0 (iJ xs i s)) (Kp:=fun _ _=>False) hx hc vx hb hi hs ⟨rfl,rfl⟩) rfl mh (fun o ho=>?_) ?_ (fun _ _ h=>h.elim)
 ·simp only[mi,List.mem_cons,List.not_mem_nil,or_false]at ho
  rcases ho with rfl|rfl|rfl|rfl|rfl|rfl<;>rfl
 ·rintro r M' ⟨rfl,rfl⟩
  exact⟨rfl,⟨rfl,rfl,rfl,rfl,rfl,rfl,rfl⟩,mh,rfl,h⟩
theorem dD {out:List Tk}{B:Tk}{q:Nat}(hq:q<out.length+1):((out++[B]).getD q default).row=if q<out.length then(out.getD q default).row else B.row:=by
 rw[List.getD_eq_getElem?_getD,List.getElem?_append]
 split
 ·rw[List.getD_eq_getElem?_getD]
 ·rw[show q-out.length=0 by omega];rfl
theorem ye (hx:xs.length≤1000000)(hc:xs.length≤c0)(vx:c0≤c)(hb:∀x∈xs,0≤x∧x<256)
 (h:∀g co,(bV xs).length≤co→K (.sl 1 g 0 (bV xs).length co) [.one false 0 (.ints .u8 xs c),.one true g (nU (bV xs) co)]):
 aa Try.prog 14 [.sl 0 0 0 xs.length c0] [.one false 0 (.ints .u8 xs c)] K Kp:=by
 refine aa.de ?_
 refine OZ (fun _=>[0,1,2,3,6]) [] rfl ?_
 refine Qs ?_
 refine WO.MD (σ:=Nat×o7×Nat×List Tk×Nat×Nat) (fun(a,s,ga,out,g,co)=>a≤xs.length∧oe xs a s∧out.length≤co∧out.length≤a∧dA xs (xs.length-a) a s out=bV xs) (fun(a,_)=>xs.length-a)
  (fun(a,s,ga,out,g,co)=>[(1,.ptr 1 0 0),(3,.sl 7 g 0 out.length co),(4,.ptr 3 0 0),(5,.ptr 5 0 0),(6,.fn (.func 37) [] [.ptr 1 0 0,.ptr 3 0 0,.ptr 5 0 0]),(7,.ptr 6 ga 0)])
  (fun(a,s,ga,out,g,co)=>BS xs c c0 a s ga out g co) (0,([],List.replicate xs.length 0),0,[],0,0) ag mixed (by kernel_rfl)
  [(1,.ptr 1 0 0),(3,.ns),(4,.ptr 3 0 0),(5,.ptr 5 0 0),(6,.fn (.func 37) [] [.ptr 1 0 0,.ptr 3 0 0,.ptr 5 0 0]),(7,.ptr 6 0 0)] _ ⟨Nat.zero_le _,oe.start xs,Nat.le_refl _,Nat.le_refl _,rfl⟩ (aI rfl (aI rfl (aI rfl (aI rfl (aI rfl (aI rfl (trivial))))))) rfl
  (Vw.z6 (x:=nU [] 0) ⟨rfl,rfl⟩ (And.intro (.inl rfl) (And.intro (.inr ⟨rfl,rfl⟩) (And.intro (.inl rfl) (And.intro (.inl rfl) (And.intro (.inl rfl) (And.intro (.inl rfl) trivial))))))) (aI rfl (aI rfl (aI rfl (aI rfl (aI rfl (aI rfl (aI rfl (aI rfl (trivial))))))))) (fun _=>rfl) (fun _=>rfl) (fun _=>Pp) ?_
 rintro⟨a,⟨es,ah⟩,ga,out,g,co⟩ ⟨i1,i2,i3,i4,i5⟩ d
 refine Qs ?_
 refine And.intro (fun q1=>?_) (fun q1=>?_)
 ·have ha:a<xs.length:=by simp only[decide_eq_true_eq]at q1;omega
  have X7:ah.length=xs.length:=i2.len
  obtain⟨B,hB⟩:∃B,p9 xs (es,ah) a=B:=⟨_,rfl⟩
  have Qw:lP xs a B:=by rw[←hB];exact lP.Ut ha i2
  have PX:dA xs (xs.length-(a+max B.l 1)) (a+max B.l 1) (bC xs (max B.l 1) a (es,ah)) (out++[B])=bV xs:=by
   rw[←i5,show xs.length-a=(xs.length-(a+1))+1 by omega,dA,if_pos ha,hB]
   exact rl _ _ _ _ _ (by omega) (by omega)
  unfold p9 at hB
  refine Qs ?_
  refine And.intro (fun q2=>?_) (fun q2=>?_)
  ·have h3:a+3≤xs.length:=by simp only[decide_eq_true_eq]at q2;omega
   rw[if_pos h3]at hB
   have ho:cI c0 (a:Int).toNat 0 1=a:=by unfold cI;rw[if_neg (by omega)];omega
   have gS:0≤xs.getD (cI c0 (a:Int).toNat 0 1+2) 0∧xs.getD (cI c0 (a:Int).toNat 0 1+2) 0<256:=by
    rw[ho]
    refine hb _ ?_
    rw[List.getD_eq_getElem?_getD,List.getElem?_eq_getElem (show a+2<xs.length by omega)]
    exact List.getElem_mem _
   have hk:((xs.getD (cI c0 (a:Int).toNat 0 1+0) 0,xs.getD (cI c0 (a:Int).toNat 0 1+1) 0*256+xs.getD (cI c0 (a:Int).toNat 0 1+2) 0):Int×Int)=eI xs a:=by rw[ho];rfl
   refine Qs ?_
   refine And.intro (fun v hv=>?_) (fun hv=>?_)
   ·have rA:ob (xs.getD (cI c0 (a:Int).toNat 0 1+0) 0,xs.getD (cI c0 (a:Int).toNat 0 1+1) 0*256+xs.getD (cI c0 (a:Int).toNat 0 1+2) 0) (kW es)=some v:=hv
    rw[hk,iR]at rA
    clear hv
    obtain⟨z,hz,rfl⟩:=Option.map_eq_some_iff.1 rA
    clear rA
    obtain⟨p,rfl⟩:∃p:Nat,z=p:=⟨z.toNat,by have:=i2.es _ _ hz;omega⟩
    have G2:p≤a:=by have:=i2.es _ _ hz;omega
    rw[hz]at hB
    simp only[Option.getD_some,Int.toNat_natCast]at hB
    rw[gm i2.ah a p p _ G2 (Nat.le_refl p)]at hB
    refine Qs ?_
    refine WO.go (σ:=Nat×Tk) (fun(p,t)=>p≤a∧dh xs ah a p p t=B) (fun(p,t)=>p)
     (fun(p,t)=>[(1,.ptr 1 0 0),(3,.sl 7 g 0 out.length co),(4,.ptr 3 0 0),(5,.ptr 5 0 0),(6,.fn (.func 37) [] [.ptr 1 0 0,.ptr 3 0 0,.ptr 5 0 0]),(7,.ptr 6 ga 0),(8,.ptr 8 0 0),(9,.fn (.func 38) [] [.ptr 1 0 0,.ptr 6 ga 0,.ptr 8 0 0]),(10,.int .i64 (p:Int))])
     (fun(p,t)=>BS xs c c0 a (es,ah) ga out g co++[.one true 0 (.cells t.row)]) (p,⟨xs.getD a 0,0,0⟩) ag mixed (by kernel_rfl) ⟨G2,hB⟩ (aI rfl (aI rfl (aI rfl (aI rfl (aI rfl (aI rfl (aI rfl (aI rfl (aI rfl (trivial)))))))))) (aI rfl (aI rfl (aI rfl (aI rfl (aI rfl (aI rfl (aI rfl (aI rfl (aI rfl (trivial)))))))))) (fun _=>rfl) (fun _=>rfl) (fun _=>Ew) ?_
    rintro⟨p,t⟩ ⟨j1,j2⟩ d2
    have EX:=i2.ah (p-1)
    refine Qs ?_
    refine And.intro (fun r1=>?_) (fun r1=>?_)
    ·have hp:0<p:=by simp only[decide_eq_true_eq]at r1;omega
     refine Qs ?_
     refine And.intro (fun r2=>?_) (fun r2=>?_)
     ·have hd:a-(p-1)≤32768:=by simp only[decide_eq_true_eq]at r2;omega
      refine Qs ?_
      refine And.intro (fun r3=>?_) (fun r3=>?_)
      ·have hl:t.l<258:=by have r3:(t.l:Int)<258:=of_decide_eq_true r3;omega
       obtain⟨p,rfl⟩:∃p',p=p'+1:=⟨p-1,by omega⟩
       have e1:((p+1:Nat):Int)-1=(p:Int):=by omega
       rw[dh,if_pos ⟨hp,hd,hl⟩]at j2
       refine Qs ?_
       rw[e1]
       refine Hd (f:=p) hx (by omega) (by omega) (by omega) ?_
       have EX:0≤ah.getD p 0∧ah.getD p 0≤(p:Int):=i2.ah p
       refine Qs ?_
       refine RO.same ((ah.getD p 0).toNat,lH xs a p t) ⟨by omega,?_⟩ (show(ah.getD p 0).toNat<p+1 by omega) (aI rfl (aI rfl (aI rfl (aI rfl (aI rfl (aI rfl (aI rfl (aI rfl (aI ?_ trivial))))))))) (aI rfl (aI rfl (aI rfl (aI rfl (aI rfl (aI rfl (aI rfl (aI rfl (aI rfl (trivial))))))))))
       ·rw[←j2]
        exact gm i2.ah _ _ _ _ (Nat.le_refl _) (by show(ah.getD p 0).toNat≤p;omega)
       ·show AV.int .i64 (ah.getD ((((p+1:Nat):Int)-1).toNat+0) 0)=.int .i64 (((ah.getD p 0).toNat:Nat):Int)
        rw[e1,Int.toNat_natCast,Int.toNat_of_nonneg EX.1,Nat.add_zero]
      ·have hl:¬t.l<258:=by have r3:¬(t.l:Int)<258:=of_decide_eq_false r3;omega
       obtain⟨p,rfl⟩:∃p',p=p'+1:=⟨p-1,by omega⟩
       rw[dh,if_neg (fun x=>hl x.2.2)]at j2
       subst j2
       refine Qs ?_
       refine And.intro (fun q hq=>?_) ?_
       ·obtain rfl:q=0:=by have:q<1:=hq;omega
        exact⟨rfl,rfl⟩
       refine Qs ?_
       refine⟨fun j=>((out++[t]).getD j default).row,fun q hq=>?_,fun fg qQ=>?_⟩
       ·by_cases eJ:q<out.length
        ·exact((dD hq).trans (if_pos eJ)).trans (if_pos eJ).symm
        ·obtain rfl:q=out.length:=by have:q<out.length+1:=hq;omega
         refine((dD hq).trans (if_neg eJ)).trans (Eq.trans ?_ (if_neg eJ).symm)
         rw[Nat.sub_self]
         rfl
       have hE:nU (out++[t]) fg=.cJ 3 (out.length+1) (fun j=>((out++[t]).getD j default).row) fg:=by unfold nU;rw[List.length_append];rfl
       refine Qs ?_
       refine WO.go (σ:=Nat) (fun i=>i≤max t.l 1) (fun i=>max t.l 1-i)
        (fun i=>[(1,.ptr 1 0 0),(3,.sl 7 (g+1) 0 (out.length+1) fg),(4,.ptr 3 0 0),(5,.ptr 5 0 0),(6,.fn (.func 37) [] [.ptr 1 0 0,.ptr 3 0 0,.ptr 5 0 0]),(7,.ptr 6 ga 0),(69,.int .i64 (max (t.l:Int) 1)),(70,.int .i64 (i:Int))])
        (fun i=>BS xs c c0 (a+i) (bC xs i a (es,ah)) ga (out++[t]) (g+1) fg++[AO.gone,AO.gone]) 0 ag mixed (by kernel_rfl) (Nat.zero_le _) (aI rfl (aI rfl (aI rfl (aI rfl (aI rfl (aI rfl (aI rfl (aI rfl (trivial))))))))) (aI rfl (aI rfl (aI rfl (aI rfl (aI rfl (aI rfl (aI rfl (aI (congrArg (AO.one true (g+1)) hE) (aI trivial (aI trivial trivial)))))))))) (fun _=>rfl) (fun _=>rfl) (fun _=>kX) ?_
       intro k k1 d3
       have k1:k≤max t.l 1:=k1
       have ku:oe xs (a+k) (bC xs k a (es,ah)):=oe.notes k a i2
       have hle:t.l≤258∧a+t.l≤xs.length:=Qw.le
       refine Qs ?_
       refine And.intro (fun q5=>?_) (fun q5=>?_)
       ·have nA:k<max t.l 1:=by
         have q5:(k:Int)<max (t.l:Int) 1:=of_decide_eq_true q5
         omega
        refine Qs ?_
        refine kV (i:=a+k) (E:=[.one true ga (.cells [.int .i64 ((a+k:Nat):Int)]),.one true (g+1) (nU (out++[t]) fg),.gone,.gone]) hx hc vx hb (by omega) ku ?_
        rw[←dp]
        refine Qs ?_
        refine RO.same (k+1) (show k+1≤max t.l 1 from nA) (show max t.l 1-(k+1)<max t.l 1-k from Nat.sub_lt_sub_left nA (Nat.lt_succ_self k)) (aI rfl (aI rfl (aI rfl (aI rfl (aI rfl (aI rfl (aI rfl (aI rfl (trivial))))))))) (aI rfl (aI rfl (aI rfl (aI rfl (aI rfl (aI rfl (aI rfl (aI rfl (aI trivial (aI trivial (trivial)))))))))))
       ·have nA:k=max t.l 1:=by
         have q5:¬(k:Int)<max (t.l:Int) 1:=of_decide_eq_false q5
         omega
        subst nA
        refine Qs ?_
        refine RO.mk (a+max t.l 1,bC xs (max t.l 1) a (es,ah),ga+1,out++[t],g+1,fg)
         [(1,.ptr 1 0 0),(3,.sl 7 (g+1) 0 (out.length+1) fg),(4,.ptr 3 0 0),(5,.ptr 5 0 0),(6,.fn (.func 37) [] [.ptr 1 0 0,.ptr 3 0 0,.ptr 5 0 0]),(7,.ptr 10 0 0)] _ ⟨by omega,ku,by rw[List.length_append];exact qQ,by rw[List.length_append];show out.length+1≤_;omega,PX⟩ (show xs.length-(a+max t.l 1)<xs.length-a by omega)
         (aI rfl (aI rfl (aI rfl (aI rfl (aI rfl (aI rfl (trivial))))))) rfl (Vw.move (i:=6) (k:=10) rfl rfl rfl (aI nn.same (aI ?_ (aI nn.same (aI nn.same (aI nn.same (aI (.inr (.inr ⟨_,rfl,rfl⟩)) trivial))))))) (aI rfl (aI rfl (aI rfl (aI rfl (aI rfl (aI rfl (aI rfl (aI rfl (trivial)))))))))
        exact .inl (by rw[List.length_append];rfl)
     ·have hd:¬a-(p-1)≤32768:=by have r2:¬(a:Int)-((p:Int)-1)≤32768:=of_decide_eq_false r2;omega
      obtain⟨p,rfl⟩:∃p',p=p'+1:=⟨p-1,by omega⟩
      rw[dh,if_neg (fun x=>hd x.2.1)]at j2
      subst j2
      refine Qs ?_
      refine And.intro (fun q hq=>?_) ?_
      ·obtain rfl:q=0:=by have:q<1:=hq;omega
       exact⟨rfl,rfl⟩
      refine Qs ?_
      refine⟨fun j=>((out++[t]).getD j default).row,fun q hq=>?_,fun fg qQ=>?_⟩
      ·by_cases eJ:q<out.length
       ·exact((dD hq).trans (if_pos eJ)).trans (if_pos eJ).symm
       ·obtain rfl:q=out.length:=by have:q<out.length+1:=hq;omega
        refine((dD hq).trans (if_neg eJ)).trans (Eq.trans ?_ (if_neg eJ).symm)
        rw[Nat.sub_self]
        rfl
      have hE:nU (out++[t]) fg=.cJ 3 (out.length+1) (fun j=>((out++[t]).getD j default).row) fg:=by unfold nU;rw[List.length_append];rfl
      refine Qs ?_
      refine WO.go (σ:=Nat) (fun i=>i≤max t.l 1) (fun i=>max t.l 1-i)
       (fun i=>[(1,.ptr 1 0 0),(3,.sl 7 (g+1) 0 (out.length+1) fg),(4,.ptr 3 0 0),(5,.ptr 5 0 0),(6,.fn (.func 37) [] [.ptr 1 0 0,.ptr 3 0 0,.ptr 5 0 0]),(7,.ptr 6 ga 0),(69,.int .i64 (max (t.l:Int) 1)),(70,.int .i64 (i:Int))])
       (fun i=>BS xs c c0 (a+i) (bC xs i a (es,ah)) ga (out++[t]) (g+1) fg++[AO.gone,AO.gone]) 0 ag mixed (by kernel_rfl) (Nat.zero_le _) (aI rfl (aI rfl (aI rfl (aI rfl (aI rfl (aI rfl (aI rfl (aI rfl (trivial))))))))) (aI rfl (aI rfl (aI rfl (aI rfl (aI rfl (aI rfl (aI rfl (aI (congrArg (AO.one true (g+1)) hE) (aI trivial (aI trivial trivial)))))))))) (fun _=>rfl) (fun _=>rfl) (fun _=>kX) ?_
      intro k k1 d3
      have k1:k≤max t.l 1:=k1
      have ku:oe xs (a+k) (bC xs k a (es,ah)):=oe.notes k a i2
      have hle:t.l≤258∧a+t.l≤xs.length:=Qw.le
      refine Qs ?_
      refine And.intro (fun q5=>?_) (fun q5=>?_)
      ·have nA:k<max t.l 1:=by
        have q5:(k:Int)<max (t.l:Int) 1:=of_decide_eq_true q5
        omega
       refine Qs ?_
       refine kV (i:=a+k) (E:=[.one true ga (.cells [.int .i64 ((a+k:Nat):Int)]),.one true (g+1) (nU (out++[t]) fg),.gone,.gone]) hx hc vx hb (by omega) ku ?_
       rw[←dp]
       refine Qs ?_
       refine RO.same (k+1) (show k+1≤max t.l 1 from nA) (show max t.l 1-(k+1)<max t.l 1-k from Nat.sub_lt_sub_left nA (Nat.lt_succ_self k)) (aI rfl (aI rfl (aI rfl (aI rfl (aI rfl (aI rfl (aI rfl (aI rfl (trivial))))))))) (aI rfl (aI rfl (aI rfl (aI rfl (aI rfl (aI rfl (aI rfl (aI rfl (aI trivial (aI trivial (trivial)))))))))))
      ·have nA:k=max t.l 1:=by
        have q5:¬(k:Int)<max (t.l:Int) 1:=of_decide_eq_false q5
        omega
       subst nA
       refine Qs ?_
       refine RO.mk (a+max t.l 1,bC xs (max t.l 1) a (es,ah),ga+1,out++[t],g+1,fg)
        [(1,.ptr 1 0 0),(3,.sl 7 (g+1) 0 (out.length+1) fg),(4,.ptr 3 0 0),(5,.ptr 5 0 0),(6,.fn (.func 37) [] [.ptr 1 0 0,.ptr 3 0 0,.ptr 5 0 0]),(7,.ptr 10 0 0)] _ ⟨by omega,ku,by rw[List.length_append];exact qQ,by rw[List.length_append];show out.length+1≤_;omega,PX⟩ (show xs.length-(a+max t.l 1)<xs.length-a by omega)
        (aI rfl (aI rfl (aI rfl (aI rfl (aI rfl (aI rfl (trivial))))))) rfl (Vw.move (i:=6) (k:=10) rfl rfl rfl (aI nn.same (aI ?_ (aI nn.same (aI nn.same (aI nn.same (aI (.inr (.inr ⟨_,rfl,rfl⟩)) trivial))))))) (aI rfl (aI rfl (aI rfl (aI rfl (aI rfl (aI rfl (aI rfl (aI rfl (trivial)))))))))
       exact .inl (by rw[List.length_append];rfl)
    ·have hp:p=0:=by have r1:¬(0:Int)<(p:Int):=of_decide_eq_false r1;omega
     subst hp
     have j2:t=B:=j2
     subst j2
     refine Qs ?_
     refine And.intro (fun q hq=>?_) ?_
     ·obtain rfl:q=0:=by have:q<1:=hq;omega
      exact⟨rfl,rfl⟩
     refine Qs ?_
     refine⟨fun j=>((out++[t]).getD j default).row,fun q hq=>?_,fun fg qQ=>?_⟩
     ·by_cases eJ:q<out.length
      ·exact((dD hq).trans (if_pos eJ)).trans (if_pos eJ).symm
      ·obtain rfl:q=out.length:=by have:q<out.length+1:=hq;omega
       refine((dD hq).trans (if_neg eJ)).trans (Eq.trans ?_ (if_neg eJ).symm)
       rw[Nat.sub_self]
       rfl
     have hE:nU (out++[t]) fg=.cJ 3 (out.length+1) (fun j=>((out++[t]).getD j default).row) fg:=by unfold nU;rw[List.length_append];rfl
     refine Qs ?_
     refine WO.go (σ:=Nat) (fun i=>i≤max t.l 1) (fun i=>max t.l 1-i)
      (fun i=>[(1,.ptr 1 0 0),(3,.sl 7 (g+1) 0 (out.length+1) fg),(4,.ptr 3 0 0),(5,.ptr 5 0 0),(6,.fn (.func 37) [] [.ptr 1 0 0,.ptr 3 0 0,.ptr 5 0 0]),(7,.ptr 6 ga 0),(69,.int .i64 (max (t.l:Int) 1)),(70,.int .i64 (i:Int))])
      (fun i=>BS xs c c0 (a+i) (bC xs i a (es,ah)) ga (out++[t]) (g+1) fg++[AO.gone,AO.gone]) 0 ag mixed (by kernel_rfl) (Nat.zero_le _) (aI rfl (aI rfl (aI rfl (aI rfl (aI rfl (aI rfl (aI rfl (aI rfl (trivial))))))))) (aI rfl (aI rfl (aI rfl (aI rfl (aI rfl (aI rfl (aI rfl (aI (congrArg (AO.one true (g+1)) hE) (aI trivial (aI trivial trivial)))))))))) (fun _=>rfl) (fun _=>rfl) (fun _=>kX) ?_
     intro k k1 d3
     have k1:k≤max t.l 1:=k1
     have ku:oe xs (a+k) (bC xs k a (es,ah)):=oe.notes k a i2
     have hle:t.l≤258∧a+t.l≤xs.length:=Qw.le
     refine Qs ?_
     refine And.intro (fun q5=>?_) (fun q5=>?_)
     ·have nA:k<max t.l 1:=by
       have q5:(k:Int)<max (t.l:Int) 1:=of_decide_eq_true q5
       omega
      refine Qs ?_
      refine kV (i:=a+k) (E:=[.one true ga (.cells [.int .i64 ((a+k:Nat):Int)]),.one true (g+1) (nU (out++[t]) fg),.gone,.gone]) hx hc vx hb (by omega) ku ?_
      rw[←dp]
      refine Qs ?_
      refine RO.same (k+1) (show k+1≤max t.l 1 from nA) (show max t.l 1-(k+1)<max t.l 1-k from Nat.sub_lt_sub_left nA (Nat.lt_succ_self k)) (aI rfl (aI rfl (aI rfl (aI rfl (aI rfl (aI rfl (aI rfl (aI rfl (trivial))))))))) (aI rfl (aI rfl (aI rfl (aI rfl (aI rfl (aI rfl (aI rfl (aI rfl (aI trivial (aI trivial (trivial)))))))))))
     ·have nA:k=max t.l 1:=by
       have q5:¬(k:Int)<max (t.l:Int) 1:=of_decide_eq_false q5
       omega
      subst nA
      refine Qs ?_
      refine RO.mk (a+max t.l 1,bC xs (max t.l 1) a (es,ah),ga+1,out++[t],g+1,fg)
       [(1,.ptr 1 0 0),(3,.sl 7 (g+1) 0 (out.length+1) fg),(4,.ptr 3 0 0),(5,.ptr 5 0 0),(6,.fn (.func 37) [] [.ptr 1 0 0,.ptr 3 0 0,.ptr 5 0 0]),(7,.ptr 10 0 0)] _ ⟨by omega,ku,by rw[List.length_append];exact qQ,by rw[List.length_append];show out.length+1≤_;omega,PX⟩ (show xs.length-(a+max t.l 1)<xs.length-a by omega)
       (aI rfl (aI rfl (aI rfl (aI rfl (aI rfl (aI rfl (trivial))))))) rfl (Vw.move (i:=6) (k:=10) rfl rfl rfl (aI nn.same (aI ?_ (aI nn.same (aI nn.same (aI nn.same (aI (.inr (.inr ⟨_,rfl,rfl⟩)) trivial))))))) (aI rfl (aI rfl (aI rfl (aI rfl (aI rfl (aI rfl (aI rfl (aI rfl (trivial)))))))))
      exact .inl (by rw[List.length_append];rfl)
   ·have rA:ob (xs.getD (cI c0 (a:Int).toNat 0 1+0) 0,xs.getD (cI c0 (a:Int).toNat 0 1+1) 0*256+xs.getD (cI c0 (a:Int).toNat 0 1+2) 0) (kW es)=none:=hv
    rw[hk,iR]at rA
    clear hv
    have hz:bN (eI xs a) es=none:=Option.map_eq_none_iff.1 rA
    clear rA
    rw[hz]at hB
    simp only[Option.getD_none,Int.toNat_zero]at hB
    rw[gm i2.ah a 0 0 _ (Nat.zero_le a) (Nat.le_refl 0)]at hB
    refine Qs ?_
    refine WO.go (σ:=Nat×Tk) (fun(p,t)=>p≤a∧dh xs ah a p p t=B) (fun(p,t)=>p)
     (fun(p,t)=>[(1,.ptr 1 0 0),(3,.sl 7 g 0 out.length co),(4,.ptr 3 0 0),(5,.ptr 5 0 0),(6,.fn (.func 37) [] [.ptr 1 0 0,.ptr 3 0 0,.ptr 5 0 0]),(7,.ptr 6 ga 0),(8,.ptr 8 0 0),(9,.fn (.func 38) [] [.ptr 1 0 0,.ptr 6 ga 0,.ptr 8 0 0]),(10,.int .i64 (p:Int))])
     (fun(p,t)=>BS xs c c0 a (es,ah) ga out g co++[.one true 0 (.cells t.row)]) (0,⟨xs.getD a 0,0,0⟩) ag mixed (by kernel_rfl) ⟨Nat.zero_le a,hB⟩ (aI rfl (aI rfl (aI rfl (aI rfl (aI rfl (aI rfl (aI rfl (aI rfl (aI rfl (trivial)))))))))) (aI rfl (aI rfl (aI rfl (aI rfl (aI rfl (aI rfl (aI rfl (aI rfl (aI rfl (trivial)))))))))) (fun _=>rfl) (fun _=>rfl) (fun _=>Ew) ?_
    rintro⟨p,t⟩ ⟨j1,j2⟩ d2
    have EX:=i2.ah (p-1)
    refine Qs ?_
    refine And.intro (fun r1=>?_) (fun r1=>?_)
    ·have hp:0<p:=by simp only[decide_eq_true_eq]at r1;omega
     refine Qs ?_
     refine And.intro (fun r2=>?_) (fun r2=>?_)
     ·have hd:a-(p-1)≤32768:=by simp only[decide_eq_true_eq]at r2;omega
      refine Qs ?_
      refine And.intro (fun r3=>?_) (fun r3=>?_)
      ·have hl:t.l<258:=by have r3:(t.l:Int)<258:=of_decide_eq_true r3;omega
       obtain⟨p,rfl⟩:∃p',p=p'+1:=⟨p-1,by omega⟩
       have e1:((p+1:Nat):Int)-1=(p:Int):=by omega
       rw[dh,if_pos ⟨hp,hd,hl⟩]at j2
       refine Qs ?_
       rw[e1]
       refine Hd (f:=p) hx (by omega) (by omega) (by omega) ?_
       have EX:0≤ah.getD p 0∧ah.getD p 0≤(p:Int):=i2.ah p
       refine Qs ?_
       refine RO.same ((ah.getD p 0).toNat,lH xs a p t) ⟨by omega,?_⟩ (show(ah.getD p 0).toNat<p+1 by omega) (aI rfl (aI rfl (aI rfl (aI rfl (aI rfl (aI rfl (aI rfl (aI rfl (aI ?_ trivial))))))))) (aI rfl (aI rfl (aI rfl (aI rfl (aI rfl (aI rfl (aI rfl (aI rfl (aI rfl (trivial))))))))))
       ·rw[←j2]
        exact gm i2.ah _ _ _ _ (Nat.le_refl _) (by show(ah.getD p 0).toNat≤p;omega)
       ·show AV.int .i64 (ah.getD ((((p+1:Nat):Int)-1).toNat+0) 0)=.int .i64 (((ah.getD p 0).toNat:Nat):Int)
        rw[e1,Int.toNat_natCast,Int.toNat_of_nonneg EX.1,Nat.add_zero]
      ·have hl:¬t.l<258:=by have r3:¬(t.l:Int)<258:=of_decide_eq_false r3;omega
       obtain⟨p,rfl⟩:∃p',p=p'+1:=⟨p-1,by omega⟩
       rw[dh,if_neg (fun x=>hl x.2.2)]at j2
       subst j2
       refine Qs ?_
       refine And.intro (fun q hq=>?_) ?_
       ·obtain rfl:q=0:=by have:q<1:=hq;omega
        exact⟨rfl,rfl⟩
       refine Qs ?_
       refine⟨fun j=>((out++[t]).getD j default).row,fun q hq=>?_,fun fg qQ=>?_⟩
       ·by_cases eJ:q<out.length
        ·exact((dD hq).trans (if_pos eJ)).trans (if_pos eJ).symm
        ·obtain rfl:q=out.length:=by have:q<out.length+1:=hq;omega
         refine((dD hq).trans (if_neg eJ)).trans (Eq.trans ?_ (if_neg eJ).symm)
         rw[Nat.sub_self]
         rfl
       have hE:nU (out++[t]) fg=.cJ 3 (out.length+1) (fun j=>((out++[t]).getD j default).row) fg:=by unfold nU;rw[List.length_append];rfl
       refine Qs ?_
       refine WO.go (σ:=Nat) (fun i=>i≤max t.l 1) (fun i=>max t.l 1-i)
        (fun i=>[(1,.ptr 1 0 0),(3,.sl 7 (g+1) 0 (out.length+1) fg),(4,.ptr 3 0 0),(5,.ptr 5 0 0),(6,.fn (.func 37) [] [.ptr 1 0 0,.ptr 3 0 0,.ptr 5 0 0]),(7,.ptr 6 ga 0),(69,.int .i64 (max (t.l:Int) 1)),(70,.int .i64 (i:Int))])
        (fun i=>BS xs c c0 (a+i) (bC xs i a (es,ah)) ga (out++[t]) (g+1) fg++[AO.gone,AO.gone]) 0 ag mixed (by kernel_rfl) (Nat.zero_le _) (aI rfl (aI rfl (aI rfl (aI rfl (aI rfl (aI rfl (aI rfl (aI rfl (trivial))))))))) (aI rfl (aI rfl (aI rfl (aI rfl (aI rfl (aI rfl (aI rfl (aI (congrArg (AO.one true (g+1)) hE) (aI trivial (aI trivial trivial)))))))))) (fun _=>rfl) (fun _=>rfl) (fun _=>kX) ?_
       intro k k1 d3
       have k1:k≤max t.l 1:=k1
       have ku:oe xs (a+k) (bC xs k a (es,ah)):=oe.notes k a i2
       have hle:t.l≤258∧a+t.l≤xs.length:=Qw.le
       refine Qs ?_
       refine And.intro (fun q5=>?_) (fun q5=>?_)
       ·have nA:k<max t.l 1:=by
         have q5:(k:Int)<max (t.l:Int) 1:=of_decide_eq_true q5
         omega
        refine Qs ?_
        refine kV (i:=a+k) (E:=[.one true ga (.cells [.int .i64 ((a+k:Nat):Int)]),.one true (g+1) (nU (out++[t]) fg),.gone,.gone]) hx hc vx hb (by omega) ku ?_
        rw[←dp]
        refine Qs ?_
        refine RO.same (k+1) (show k+1≤max t.l 1 from nA) (show max t.l 1-(k+1)<max t.l 1-k from Nat.sub_lt_sub_left nA (Nat.lt_succ_self k)) (aI rfl (aI rfl (aI rfl (aI rfl (aI rfl (aI rfl (aI rfl (aI rfl (trivial))))))))) (aI rfl (aI rfl (aI rfl (aI rfl (aI rfl (aI rfl (aI rfl (aI rfl (aI trivial (aI trivial (trivial)))))))))))
       ·have nA:k=max t.l 1:=by
         have q5:¬(k:Int)<max (t.l:Int) 1:=of_decide_eq_false q5
         omega
        subst nA
        refine Qs ?_
        refine RO.mk (a+max t.l 1,bC xs (max t.l 1) a (es,ah),ga+1,out++[t],g+1,fg)
         [(1,.ptr 1 0 0),(3,.sl 7 (g+1) 0 (out.length+1) fg),(4,.ptr 3 0 0),(5,.ptr 5 0 0),(6,.fn (.func 37) [] [.ptr 1 0 0,.ptr 3 0 0,.ptr 5 0 0]),(7,.ptr 10 0 0)] _ ⟨by omega,ku,by rw[List.length_append];exact qQ,by rw[List.length_append];show out.length+1≤_;omega,PX⟩ (show xs.length-(a+max t.l 1)<xs.length-a by omega)
         (aI rfl (aI rfl (aI rfl (aI rfl (aI rfl (aI rfl (trivial))))))) rfl (Vw.move (i:=6) (k:=10) rfl rfl rfl (aI nn.same (aI ?_ (aI nn.same (aI nn.same (aI nn.same (aI (.inr (.inr ⟨_,rfl,rfl⟩)) trivial))))))) (aI rfl (aI rfl (aI rfl (aI rfl (aI rfl (aI rfl (aI rfl (aI rfl (trivial)))))))))
        exact .inl (by rw[List.length_append];rfl)
     ·have hd:¬a-(p-1)≤32768:=by have r2:¬(a:Int)-((p:Int)-1)≤32768:=of_decide_eq_false r2;omega
      obtain⟨p,rfl⟩:∃p',p=p'+1:=⟨p-1,by omega⟩
      rw[dh,if_neg (fun x=>hd x.2.1)]at j2
      subst j2
      refine Qs ?_
      refine And.intro (fun q hq=>?_) ?_
      ·obtain rfl:q=0:=by have:q<1:=hq;omega
       exact⟨rfl,rfl⟩
      refine Qs ?_
      refine⟨fun j=>((out++[t]).getD j default).row,fun q hq=>?_,fun fg qQ=>?_⟩
      ·by_cases eJ:q<out.length
       ·exact((dD hq).trans (if_pos eJ)).trans (if_pos eJ).symm
       ·obtain rfl:q=out.length:=by have:q<out.length+1:=hq;omega
        refine((dD hq).trans (if_neg eJ)).trans (Eq.trans ?_ (if_neg eJ).symm)
        rw[Nat.sub_self]
        rfl
      have hE:nU (out++[t]) fg=.cJ 3 (out.length+1) (fun j=>((out++[t]).getD j default).row) fg:=by unfold nU;rw[List.length_append];rfl
      refine Qs ?_
      refine WO.go (σ:=Nat) (fun i=>i≤max t.l 1) (fun i=>max t.l 1-i)
       (fun i=>[(1,.ptr 1 0 0),(3,.sl 7 (g+1) 0 (out.length+1) fg),(4,.ptr 3 0 0),(5,.ptr 5 0 0),(6,.fn (.func 37) [] [.ptr 1 0 0,.ptr 3 0 0,.ptr 5 0 0]),(7,.ptr 6 ga 0),(69,.int .i64 (max (t.l:Int) 1)),(70,.int .i64 (i:Int))])
       (fun i=>BS xs c c0 (a+i) (bC xs i a (es,ah)) ga (out++[t]) (g+1) fg++[AO.gone,AO.gone]) 0 ag mixed (by kernel_rfl) (Nat.zero_le _) (aI rfl (aI rfl (aI rfl (aI rfl (aI rfl (aI rfl (aI rfl (aI rfl (trivial))))))))) (aI rfl (aI rfl (aI rfl (aI rfl (aI rfl (aI rfl (aI rfl (aI (congrArg (AO.one true (g+1)) hE) (aI trivial (aI trivial trivial)))))))))) (fun _=>rfl) (fun _=>rfl) (fun _=>kX) ?_
      intro k k1 d3
      have k1:k≤max t.l 1:=k1
      have ku:oe xs (a+k) (bC xs k a (es,ah)):=oe.notes k a i2
      have hle:t.l≤258∧a+t.l≤xs.length:=Qw.le
      refine Qs ?_
      refine And.intro (fun q5=>?_) (fun q5=>?_)
      ·have nA:k<max t.l 1:=by
        have q5:(k:Int)<max (t.l:Int) 1:=of_decide_eq_true q5
        omega
       refine Qs ?_
       refine kV (i:=a+k) (E:=[.one true ga (.cells [.int .i64 ((a+k:Nat):Int)]),.one true (g+1) (nU (out++[t]) fg),.gone,.gone]) hx hc vx hb (by omega) ku ?_
       rw[←dp]
       refine Qs ?_
       refine RO.same (k+1) (show k+1≤max t.l 1 from nA) (show max t.l 1-(k+1)<max t.l 1-k from Nat.sub_lt_sub_left nA (Nat.lt_succ_self k)) (aI rfl (aI rfl (aI rfl (aI rfl (aI rfl (aI rfl (aI rfl (aI rfl (trivial))))))))) (aI rfl (aI rfl (aI rfl (aI rfl (aI rfl (aI rfl (aI rfl (aI rfl (aI trivial (aI trivial (trivial)))))))))))
      ·have nA:k=max t.l 1:=by
        have q5:¬(k:Int)<max (t.l:Int) 1:=of_decide_eq_false q5
        omega
       subst nA
       refine Qs ?_
       refine RO.mk (a+max t.l 1,bC xs (max t.l 1) a (es,ah),ga+1,out++[t],g+1,fg)
        [(1,.ptr 1 0 0),(3,.sl 7 (g+1) 0 (out.length+1) fg),(4,.ptr 3 0 0),(5,.ptr 5 0 0),(6,.fn (.func 37) [] [.ptr 1 0 0,.ptr 3 0 0,.ptr 5 0 0]),(7,.ptr 10 0 0)] _ ⟨by omega,ku,by rw[List.length_append];exact qQ,by rw[List.length_append];show out.length+1≤_;omega,PX⟩ (show xs.length-(a+max t.l 1)<xs.length-a by omega)
        (aI rfl (aI rfl (aI rfl (aI rfl (aI rfl (aI rfl (trivial))))))) rfl (Vw.move (i:=6) (k:=10) rfl rfl rfl (aI nn.same (aI ?_ (aI nn.same (aI nn.same (aI nn.same (aI (.inr (.inr ⟨_,rfl,rfl⟩)) trivial))))))) (aI rfl (aI rfl (aI rfl (aI rfl (aI rfl (aI rfl (aI rfl (aI rfl (trivial)))))))))
       exact .inl (by rw[List.length_append];rfl)
    ·have hp:p=0:=by have r1:¬(0:Int)<(p:Int):=of_decide_eq_false r1;omega
     subst hp
     have j2:t=B:=j2
     subst j2
     refine Qs ?_
     refine And.intro (fun q hq=>?_) ?_
     ·obtain rfl:q=0:=by have:q<1:=hq;omega
      exact⟨rfl,rfl⟩
     refine Qs ?_
     refine⟨fun j=>((out++[t]).getD j default).row,fun q hq=>?_,fun fg qQ=>?_⟩
     ·by_cases eJ:q<out.length
      ·exact((dD hq).trans (if_pos eJ)).trans (if_pos eJ).symm
      ·obtain rfl:q=out.length:=by have:q<out.length+1:=hq;omega
       refine((dD hq).trans (if_neg eJ)).trans (Eq.trans ?_ (if_neg eJ).symm)
       rw[Nat.sub_self]
       rfl
     have hE:nU (out++[t]) fg=.cJ 3 (out.length+1) (fun j=>((out++[t]).getD j default).row) fg:=by unfold nU;rw[List.length_append];rfl
     refine Qs ?_
     refine WO.go (σ:=Nat) (fun i=>i≤max t.l 1) (fun i=>max t.l 1-i)
      (fun i=>[(1,.ptr 1 0 0),(3,.sl 7 (g+1) 0 (out.length+1) fg),(4,.ptr 3 0 0),(5,.ptr 5 0 0),(6,.fn (.func 37) [] [.ptr 1 0 0,.ptr 3 0 0,.ptr 5 0 0]),(7,.ptr 6 ga 0),(69,.int .i64 (max (t.l:Int) 1)),(70,.int .i64 (i:Int))])
      (fun i=>BS xs c c0 (a+i) (bC xs i a (es,ah)) ga (out++[t]) (g+1) fg++[AO.gone,AO.gone]) 0 ag mixed (by kernel_rfl) (Nat.zero_le _) (aI rfl (aI rfl (aI rfl (aI rfl (aI rfl (aI rfl (aI rfl (aI rfl (trivial))))))))) (aI rfl (aI rfl (aI rfl (aI rfl (aI rfl (aI rfl (aI rfl (aI (congrArg (AO.one true (g+1)) hE) (aI trivial (aI trivial trivial)))))))))) (fun _=>rfl) (fun _=>rfl) (fun _=>kX) ?_
     intro k k1 d3
     have k1:k≤max t.l 1:=k1
     have ku:oe xs (a+k) (bC xs k a (es,ah)):=oe.notes k a i2
     have hle:t.l≤258∧a+t.l≤xs.length:=Qw.le
     refine Qs ?_
     refine And.intro (fun q5=>?_) (fun q5=>?_)
     ·have nA:k<max t.l 1:=by
       have q5:(k:Int)<max (t.l:Int) 1:=of_decide_eq_true q5
       omega
      refine Qs ?_
      refine kV (i:=a+k) (E:=[.one true ga (.cells [.int .i64 ((a+k:Nat):Int)]),.one true (g+1) (nU (out++[t]) fg),.gone,.gone]) hx hc vx hb (by omega) ku ?_
      rw[←dp]
      refine Qs ?_
      refine RO.same (k+1) (show k+1≤max t.l 1 from nA) (show max t.l 1-(k+1)<max t.l 1-k from Nat.sub_lt_sub_left nA (Nat.lt_succ_self k)) (aI rfl (aI rfl (aI rfl (aI rfl (aI rfl (aI rfl (aI rfl (aI rfl (trivial))))))))) (aI rfl (aI rfl (aI rfl (aI rfl (aI rfl (aI rfl (aI rfl (aI rfl (aI trivial (aI trivial (trivial)))))))))))
     ·have nA:k=max t.l 1:=by
       have q5:¬(k:Int)<max (t.l:Int) 1:=of_decide_eq_false q5
       omega
      subst nA
      refine Qs ?_
      refine RO.mk (a+max t.l 1,bC xs (max t.l 1) a (es,ah),ga+1,out++[t],g+1,fg)
       [(1,.ptr 1 0 0),(3,.sl 7 (g+1) 0 (out.length+1) fg),(4,.ptr 3 0 0),(5,.ptr 5 0 0),(6,.fn (.func 37) [] [.ptr 1 0 0,.ptr 3 0 0,.ptr 5 0 0]),(7,.ptr 10 0 0)] _ ⟨by omega,ku,by rw[List.length_append];exact qQ,by rw[List.length_append];show out.length+1≤_;omega,PX⟩ (show xs.length-(a+max t.l 1)<xs.length-a by omega)
       (aI rfl (aI rfl (aI rfl (aI rfl (aI rfl (aI rfl (trivial))))))) rfl (Vw.move (i:=6) (k:=10) rfl rfl rfl (aI nn.same (aI ?_ (aI nn.same (aI nn.same (aI nn.same (aI (.inr (.inr ⟨_,rfl,rfl⟩)) trivial))))))) (aI rfl (aI rfl (aI rfl (aI rfl (aI rfl (aI rfl (aI rfl (aI rfl (trivial)))))))))
      exact .inl (by rw[List.length_append];rfl)
  ·have h3:¬a+3≤xs.length:=by simp only[decide_eq_false_iff_not]at q2;omega
   rw[if_neg h3]at hB
   have j2:(⟨xs.getD a 0,0,0⟩:Tk)=B:=hB
   subst j2
   refine Qs ?_
   refine And.intro (fun q hq=>?_) ?_
   ·obtain rfl:q=0:=by have:q<1:=hq;omega
    exact⟨rfl,rfl⟩
   refine Qs ?_
   refine⟨fun j=>((out++[(⟨xs.getD a 0,0,0⟩:Tk)]).getD j default).row,fun q hq=>?_,fun fg qQ=>?_⟩
   ·by_cases eJ:q<out.length
    ·exact((dD hq).trans (if_pos eJ)).trans (if_pos eJ).symm
    ·obtain rfl:q=out.length:=by have:q<out.length+1:=hq;omega
     refine((dD hq).trans (if_neg eJ)).trans (Eq.trans ?_ (if_neg eJ).symm)
     rw[Nat.sub_self]
     rfl
   have hE:nU (out++[(⟨xs.getD a 0,0,0⟩:Tk)]) fg=.cJ 3 (out.length+1) (fun j=>((out++[(⟨xs.getD a 0,0,0⟩:Tk)]).getD j default).row) fg:=by unfold nU;rw[List.length_append];rfl
   refine Qs ?_
   refine WO.go (σ:=Nat) (fun i=>i≤max (⟨xs.getD a 0,0,0⟩:Tk).l 1) (fun i=>max (⟨xs.getD a 0,0,0⟩:Tk).l 1-i)
    (fun i=>[(1,.ptr 1 0 0),(3,.sl 7 (g+1) 0 (out.length+1) fg),(4,.ptr 3 0 0),(5,.ptr 5 0 0),(6,.fn (.func 37) [] [.ptr 1 0 0,.ptr 3 0 0,.ptr 5 0 0]),(7,.ptr 6 ga 0),(69,.int .i64 (max ((⟨xs.getD a 0,0,0⟩:Tk).l:Int) 1)),(70,.int .i64 (i:Int))])
    (fun i=>BS xs c c0 (a+i) (bC xs i a (es,ah)) ga (out++[(⟨xs.getD a 0,0,0⟩:Tk)]) (g+1) fg++[AO.gone,AO.gone]) 0 ag mixed (by kernel_rfl) (Nat.zero_le _) (aI rfl (aI rfl (aI rfl (aI rfl (aI rfl (aI rfl (aI rfl (aI rfl (trivial))))))))) (aI rfl (aI rfl (aI rfl (aI rfl (aI rfl (aI rfl (aI rfl (aI (congrArg (AO.one true (g+1)) hE) (aI trivial (aI trivial trivial)))))))))) (fun _=>rfl) (fun _=>rfl) (fun _=>kX) ?_
   intro k k1 d3
   have k1:k≤max (⟨xs.getD a 0,0,0⟩:Tk).l 1:=k1
   have ku:oe xs (a+k) (bC xs k a (es,ah)):=oe.notes k a i2
   have hle:(⟨xs.getD a 0,0,0⟩:Tk).l≤258∧a+(⟨xs.getD a 0,0,0⟩:Tk).l≤xs.length:=Qw.le
   refine Qs ?_
   refine And.intro (fun q5=>?_) (fun q5=>?_)
   ·have nA:k<max (⟨xs.getD a 0,0,0⟩:Tk).l 1:=by
     have q5:(k:Int)<max ((⟨xs.getD a 0,0,0⟩:Tk).l:Int) 1:=of_decide_eq_true q5
     omega
    refine Qs ?_
    refine kV (i:=a+k) (E:=[.one true ga (.cells [.int .i64 ((a+k:Nat):Int)]),.one true (g+1) (nU (out++[(⟨xs.getD a 0,0,0⟩:Tk)]) fg),.gone,.gone]) hx hc vx hb (by omega) ku ?_
    rw[←dp]
    refine Qs ?_
    refine RO.same (k+1) (show k+1≤max (⟨xs.getD a 0,0,0⟩:Tk).l 1 from nA) (show max (⟨xs.getD a 0,0,0⟩:Tk).l 1-(k+1)<max (⟨xs.getD a 0,0,0⟩:Tk).l 1-k from Nat.sub_lt_sub_left nA (Nat.lt_succ_self k)) (aI rfl (aI rfl (aI rfl (aI rfl (aI rfl (aI rfl (aI rfl (aI rfl (trivial))))))))) (aI rfl (aI rfl (aI rfl (aI rfl (aI rfl (aI rfl (aI rfl (aI rfl (aI trivial (aI trivial (trivial)))))))))))
   ·have nA:k=max (⟨xs.getD a 0,0,0⟩:Tk).l 1:=by
     have q5:¬(k:Int)<max ((⟨xs.getD a 0,0,0⟩:Tk).l:Int) 1:=of_decide_eq_false q5
     omega
    subst nA
    refine Qs ?_
    refine RO.mk (a+max (⟨xs.getD a 0,0,0⟩:Tk).l 1,bC xs (max (⟨xs.getD a 0,0,0⟩:Tk).l 1) a (es,ah),ga+1,out++[(⟨xs.getD a 0,0,0⟩:Tk)],g+1,fg)
     [(1,.ptr 1 0 0),(3,.sl 7 (g+1) 0 (out.length+1) fg),(4,.ptr 3 0 0),(5,.ptr 5 0 0),(6,.fn (.func 37) [] [.ptr 1 0 0,.ptr 3 0 0,.ptr 5 0 0]),(7,.ptr 10 0 0)] _ ⟨by omega,ku,by rw[List.length_append];exact qQ,by rw[List.length_append];show out.length+1≤_;omega,PX⟩ (show xs.length-(a+max (⟨xs.getD a 0,0,0⟩:Tk).l 1)<xs.length-a by omega)
     (aI rfl (aI rfl (aI rfl (aI rfl (aI rfl (aI rfl (trivial))))))) rfl (Vw.move (i:=6) (k:=10) rfl rfl rfl (aI nn.same (aI ?_ (aI nn.same (aI nn.same (aI nn.same (aI (.inr (.inr ⟨_,rfl,rfl⟩)) trivial))))))) (aI rfl (aI rfl (aI rfl (aI rfl (aI rfl (aI rfl (aI rfl (aI rfl (trivial)))))))))
    exact .inl (by rw[List.length_append];rfl)
 ·have ha:a=xs.length:=by have q1:¬(a:Int)<(xs.length:Int):=of_decide_eq_false q1;omega
  have ho:out=bV xs:=by rw[←i5,show xs.length-a=0 by omega];rfl
  refine Qs ?_
  refine⟨[.fb 0,.own 7],.sl 1 g 0 out.length co,[.one false 0 (.ints .u8 xs c),.one true g (nU out co)],⟨⟨⟨rfl,_,rfl,rfl⟩,⟨rfl,rfl⟩,trivial⟩,rfl,⟨trivial,fun j=>rfl,trivial⟩,rfl,fun i hi=>?_⟩,?_⟩
  ·match i,hi with
   |0,_=>exact .inr rfl
  ·subst ho
   exact h g co i3
end
end Go.Proofs.Ytibadaomjlkoaaa
open Go.RowKit
namespace Go.Proofs.Ytibadaomjlkoaaa
set_option maxRecDepth 10000
structure WX where
 t:AV
 a:AV
 d:AV
 gT:Nat
 gA:Nat
 gD:Nat
 cT:ae
 cA:ae
 cD:ae
 nb:AV.rW 5 [t,a,d]=true∧cT.nb 5∧cA.nb 5∧cD.nb 5
 UD:AV.rW 6 [t,a,d]=true∧cT.nb 6∧cA.nb 6∧cD.nb 6
def Kd (X:WX)(g:Nat)(c:Nat)(xs:List Int)(a n:Int):AH:=[.one true 0 (.cells [.sl 1 g 0 xs.length c,.int .u32 a,.int .i64 n,X.t,X.a,X.d]),.one true g (.ints .u8 xs c),.one true X.gT X.cT,.one true X.gA X.cA,.one true X.gD X.cD]
def fS (X:WX)(row:List Bool)(g c:Nat):AH:=Kd X g c (aN row) (num (rest row)) ((row.length%8:Nat):Int)
theorem WX.ok (X:WX){g c:Nat}{xs:List Int}{a n:Int}:lQ 5 (Kd X g c xs a n):=⟨X.nb.1,trivial,X.nb.2.1,X.nb.2.2.1,X.nb.2.2.2,trivial⟩
theorem WX.QP (X:WX){row:List Bool}{g c g' c':Nat}{ys:List Int}:lQ 6 (fS X row g c++[.one true g' (.ints .u8 ys c')]):=⟨X.UD.1,trivial,X.UD.2.1,X.UD.2.2.1,X.UD.2.2.2,trivial,trivial⟩
section
variable{X:WX}
theorem F9 {g c:Nat}{xs:List Int}{a n:Int}(hn:0≤n∧n<8)(hl:xs.length≤1048576){K Kp:AV→AH→Prop}
 (h:K (.int .i64 (8*xs.length+n)) (Kd X g c xs a n)):aa Try.prog 68 [.ptr 0 0 0] (Kd X g c xs a n) K Kp:=by
 refine NZ (fun _=>[0]) [] rfl ?_
 repeat(refine And.intro (by first|exact rfl|omega) ?_)
 exact h
theorem Gc {xs:List Int}{v a n k:Int}{g c:Nat}(hn:0≤n∧n<8)(hk:0≤k∧k≤32)(hl:xs.length≤1048576)(UJ:xs.length≤c){Kp}:
 aa Try.prog 66 [.ptr 0 0 0,.int .u32 v,.int .i64 k] (Kd X g c xs a n)
  (fun r M=>∃g' c' DR a' n',r=.aL []∧M=Kd X g' c' DR a' n'∧DR.length≤c'∧Ai xs (cf .or .u32 a (bF .u32 v n)) (n+k) ((n+k).toNat/8)=(DR,a',n')) Kp:=by
 refine N3 (fun _=>[0]) [] rfl ?_
 repeat(refine And.intro (by first|exact rfl|omega) ?_)
 refine WA.loop (σ:=Nat×Nat×List Int×Int×Int) (fun(g',c',DR,a',n')=>DR.length≤c'∧0≤n'∧n'≤40∧DR.length*8+n'≤8*xs.length+40∧Ai xs (cf .or .u32 a (bF .u32 v n)) (n+k) ((n+k).toNat/8)=Ai DR a' n' (n'.toNat/8))
  (fun(g',c',DR,a',n')=>n'.toNat) (fun _=>[(0,.ptr 0 0 0)]) (fun(g',c',DR,a',n')=>Kd X g' c' DR a' n') (g,c,xs,cf .or .u32 a (bF .u32 v n),n+k) ag mixed (by kernel_rfl)
  ⟨?_,⟨rfl,trivial⟩,⟨rfl,rfl,rfl,rfl,rfl,trivial⟩⟩ (fun _=>rfl) (fun _=>rfl) (fun _=>X.ok) ?_
 ·refine⟨by omega,by omega,by omega,by omega,rfl⟩
 ·rintro⟨g',c',DR,a',n'⟩ ⟨h0,h1,h2,h3,h4⟩ d
  repeat(refine And.intro (by first|exact rfl|omega) ?_)
  refine And.intro (fun hc=>?_) (fun hc=>?_)
  ·simp only[decide_eq_true_eq]at hc
   repeat(refine And.intro (by first|exact rfl|exact Nat.le_of_ble_eq_true rfl|omega) ?_)
   intro ys rY
   obtain rfl:ys=[a'%256]:=rY
   repeat(refine And.intro (by first|exact rfl|omega|(dsimp only;omega)) ?_)
   intro c1 ui
   repeat(refine And.intro (by first|exact rfl|omega) ?_)
   refine⟨(g'+1,c1,DR++[a'%256],cg .u32 a' 8,n'-8),⟨⟨by simp;omega,by omega,by omega,by simp;omega,?_⟩,by simp only;omega⟩,⟨rfl,trivial⟩,⟨?_,rfl,rfl,rfl,rfl,trivial⟩⟩
   ·rw[h4,show n'.toNat/8=(n'-8).toNat/8+1 from by omega];rfl
   ·simp only[Kd,List.length_append,List.length_cons,List.length_nil];rfl
  ·simp only[decide_eq_false_iff_not]at hc
   refine⟨g',c',DR,a',n',rfl,rfl,h0,?_⟩
   have:n'.toNat/8=0:=by omega
   rw[h4,this];rfl
theorem wh {row:List Bool}{v n:Int}{g c:Nat}(hv:0≤v)(hr:row.length≤8388608)(hc:(aN row).length≤c){Kp}:
 aa Try.prog 40 [.ptr 0 0 0,.int .u32 v,.int .i64 n] (fS X row g c)
  (fun r M=>∃g' c',r=.int .i64 (jd row v n).2∧M=fS X (jd row v n).1 g' c'∧(aN (jd row v n).1).length≤c'∧(jd row v n).1.length≤8388608) Kp:=by
 have bR:=kS row
 refine N6 (fun _=>[0]) [] rfl ?_
 repeat(refine And.intro (by first|exact rfl|omega) ?_)
 refine Aa fun b hb=>?_
 rw[Ex hv]at hb
 have Cb:yd v n=b:=by cases b<;>cases hm:yd v n<;>simp_all
 clear hb
 refine And.intro (fun h1=>?_) (fun h1=>?_)
 ·have lN:b=false:=by simpa using h1
  subst lN
  have e:jd row v n=(row,1):=by simp[jd,Cb]
  rw[e]
  exact⟨g,c,rfl,rfl,hc,hr⟩
 ·have lN:b=true:=by simpa using h1
  subst lN
  have hm:=Cb
  simp only[yd,decide_eq_true_eq]at hm
  refine F9 (by omega) (by omega) ?_
  repeat(refine And.intro (by first|exact rfl|omega) ?_)
  have hlen:(8*((aN row).length:Int)+((row.length%8:Nat):Int))=row.length:=by rw[bR];omega
  refine And.intro (fun h2=>?_) (fun h2=>?_)
  ·simp only[decide_eq_true_eq]at h2
   rw[hlen]at h2
   have e:jd row v n=(row,2):=by simp[jd,Cb,h2]
   rw[e]
   exact⟨g,c,rfl,rfl,hc,hr⟩
  ·simp only[decide_eq_false_iff_not]at h2
   rw[hlen]at h2
   refine aa.mono (Gc (by omega) (by omega) (by omega) hc) ?_ (fun _ _ h=>h)
   rintro r M ⟨g',c',DR,a',n',rfl,rfl,UJ,hL⟩
   obtain⟨k,rfl⟩:=Int.eq_ofNat_of_zero_le hm.1
   rw[show(((row.length%8:Nat):Int)+(k:Int)).toNat/8=(row.length%8+k)/8 from by omega,Iq row v k (by omega) hv (by simpa using hm.2.2)]at hL
   injection hL with e1 e2;injection e2 with e2 e3
   subst e1;subst e2;subst e3
   have e:jd row v k=(row++bitsOf v k,0):=by simp only[jd,Cb,Int.toNat_natCast];rw[if_neg (by simp),if_neg (by omega)]
   rw[e]
   exact⟨g',c',rfl,rfl,UJ,by simp[ai];omega⟩
theorem AY {row:List Bool}{g c:Nat}(hr:row.length≤8388608)(hc:(aN row).length≤c){Kp}:
 aa Try.prog 18 [.ptr 0 0 0] (fS X row g c)
  (fun r M=>∃g' c',r=.sl 5 g' 0 (bl row).length c'∧M=fS X row g c++[.one true g' (.ints .u8 (bl row) c')]∧(bl row).length≤c') Kp:=by
 have bR:=kS row
 refine aa.cj ?_
 refine N9 (fun _=>[0]) [] rfl ?_
 repeat(refine And.intro (by first|exact rfl|omega) ?_)
 refine aa.lift [.ew 1 g 0] (uO (xs:=aN row) (c0:=c) (c:=c) (Kp:=fun _ _=>False) (by omega)) rfl rfl ⟨⟨_,_,_,rfl,ak rfl,eB.same rfl (fun h=>h)⟩,trivial⟩ ⟨trivial,trivial⟩ ?_ (fun _ _ h=>h.elim)
 rintro r M ⟨g',c',rfl,rfl,rF⟩
 refine⟨⟨rfl,rfl⟩,?_⟩
 repeat(refine And.intro (by first|exact rfl|omega) ?_)
 refine And.intro (fun h1=>?_) (fun h1=>?_)
 ·simp only[decide_eq_true_eq]at h1
  repeat(refine And.intro (by first|exact rfl|exact Nat.le_of_ble_eq_true rfl|exact⟨rfl,rfl,rfl,Nat.le_refl _,rF⟩|omega) ?_)
  intro ys rY
  obtain rfl:ys=[num (rest row)%256]:=rY
  repeat(refine And.intro (by first|exact rfl|omega|(dsimp only;omega)) ?_)
  intro c1 ui
  have h8:¬row.length%8=0:=by omega
  have a8:=gF (rest row)
  rw[jq]at a8
  have Qy:(2:Int)^(row.length%8)≤2^7:=by exact_mod_cast Nat.pow_le_pow_right (by omega) (by omega)
  have hm:num (rest row)%256=num (rest row):=Int.emod_eq_of_lt (num_nonneg _) (by omega)
  have hb:bl row=aN row++[num (rest row)%256]:=by simp[bl,h8,hm]
  refine⟨fS X row g c++[AO.one true (g'+1) (.ints .u8 (aN row++[num (rest row)%256]) c1)],(aI rfl (aI rfl (aI rfl (aI rfl (aI rfl (aI rfl trivial)))))),X.QP,rfl,g'+1,c1,?_,?_,?_⟩
  ·rw[hb,List.length_append];rfl
  ·rw[hb]
  ·rw[hb,List.length_append];exact ui
 ·simp only[decide_eq_false_iff_not]at h1
  have hb:bl row=aN row:=by
   have:row.length%8=0:=by omega
   simp[bl,this]
  rw[hb]
  exact⟨fS X row g c++[AO.one true g' (.ints .u8 (aN row) c')],(aI rfl (aI rfl (aI rfl (aI rfl (aI rfl (aI rfl trivial)))))),X.QP,rfl,g',c',rfl,rfl,rF⟩
end
end Go.Proofs.Ytibadaomjlkoaaa
open Go.RowKit
namespace Go.Proofs.Ytibadaomjlkoaaa
set_option maxRecDepth 10000
def dX (ts:List Tk)(gt ct:Nat)(A:List Int)(ga ca:Nat)(D:List Int)(gd cd:Nat):WX:=
 ⟨.sl 2 gt 0 ts.length ct,.sl 3 ga 0 A.length ca,.sl 4 gd 0 D.length cd,gt,ga,gd,nU ts ct,.ints .u8 A ca,.ints .u8 D cd,⟨rfl,Hj _ _ _,trivial,trivial⟩,⟨rfl,Hj _ _ _,trivial,trivial⟩⟩
section
variable{K Kp:AV→AH→Prop}{X:WX}{row:List Bool}{g c:Nat}
theorem Fg (E:AH){f:Nat}{args:List AV}(h:aa Try.prog f args (fS X row g c) (fun r M=>∃g' c' vm,M=fS X vm g' c'∧r.nb 5=true∧K r (M++E)) (fun _ _=>False))
 (ha:AV.rW 5 args=true):aa Try.prog f args (fS X row g c++E) K Kp:=by
 refine aa.frame E h ha X.ok (fun o ho=>?_) ?_ (fun _ _ h=>h.elim)
 ·simp only[fS,Kd,List.mem_cons,List.not_mem_nil,or_false]at ho
  rcases ho with rfl|rfl|rfl|rfl|rfl<;>rfl
 ·rintro r M' ⟨g',c',vm,rfl,h1,h2⟩
  exact⟨rfl,⟨rfl,rfl,rfl,rfl,rfl,rfl⟩,X.ok,h1,h2⟩
theorem kP (E:AH){v n:Int}(hv:0≤v)(hr:row.length≤8388608)(hc:(aN row).length≤c)
 (h:∀g' c',(aN (jd row v n).1).length≤c'→(jd row v n).1.length≤8388608→K (.int .i64 (jd row v n).2) (fS X (jd row v n).1 g' c'++E)):
 aa Try.prog 40 [.ptr 0 0 0,.int .u32 v,.int .i64 n] (fS X row g c++E) K Kp:=by
 refine Fg E (aa.mono (wh (X:=X) (Kp:=fun _ _=>False) hv hr hc) ?_ (fun _ _ h=>h)) rfl
 rintro r M ⟨g',c',rfl,rfl,h1,h2⟩
 exact⟨g',c',_,rfl,rfl,h g' c' h1 h2⟩
def codeF (row:List Bool)(cs ls:List Int)(s:Nat)(ex n:Int):List Bool:=(jd (jd row (cs.getD s 0) (ls.getD s 0)).1 ex n).1
end
section
variable{K Kp:AV→AH→Prop}{row:List Bool}{g c:Nat}{ts:List Tk}{gt ct:Nat}{A:List Int}{ga ca:Nat}{D:List Int}{gd cd:Nat}
theorem GP {cs ls:List Int}{c1 c2 c3 c4 s:Nat}{ex n:Int}(gp:s<cs.length)(nQ:s<ls.length)(u5:0≤cs.getD s 0∧cs.getD s 0<65536)(Cd:0≤ls.getD s 0∧ls.getD s 0<256)(hex:0≤ex∧ex<4294967296)
 (hr:row.length≤8388608)(hc:(aN row).length≤c)
 (h:∀g' c',(aN (codeF row cs ls s ex n)).length≤c'→(codeF row cs ls s ex n).length≤8388608→K (.aL []) (fS (dX ts gt ct A ga ca D gd cd) (codeF row cs ls s ex n) g' c'++[.one false 0 (.ints .u16 cs c1),.one false 0 (.ints .u8 ls c2)])):
 aa Try.prog 48 [.ptr 0 0 0,.sl 5 0 0 cs.length c3,.sl 6 0 0 ls.length c4,.agg [.int .i64 (s:Int),.int .i64 ex,.int .i64 n]]
  (fS (dX ts gt ct A ga ca D gd cd) row g c++[.one false 0 (.ints .u16 cs c1),.one false 0 (.ints .u8 ls c2)]) K Kp:=by
 have Sz:0≤ls.getD ((s:Int).toNat+0) 0∧ls.getD ((s:Int).toNat+0) 0<256:=Cd
 have hm:cs.getD ((s:Int).toNat+0) 0%4294967296=cs.getD s 0:=by show cs.getD s 0%4294967296=cs.getD s 0;exact Int.emod_eq_of_lt u5.1 (by omega)
 have IM:ex%4294967296=ex:=Int.emod_eq_of_lt hex.1 hex.2
 refine aa.cj ?_
 refine Bv (fun _=>[5,6,7]) [] rfl ?_
 refine Qs ?_
 refine kP (X:=dX ts gt ct A ga ca D gd cd) [.one false 0 (.ints .u16 cs c1),.one false 0 (.ints .u8 ls c2),.one true 0 (.cells [.int .i64 (s:Int),.int .i64 ex,.int .i64 n])] (v:=cs.getD ((s:Int).toNat+0) 0%4294967296) (n:=ls.getD ((s:Int).toNat+0) 0) (by rw[hm];exact u5.1) hr hc (fun g1 Yp h1 h2=>?_)
 rw[hm]at h1 h2⊢
 refine Qs ?_
 refine kP (X:=dX ts gt ct A ga ca D gd cd) [.one false 0 (.ints .u16 cs c1),.one false 0 (.ints .u8 ls c2),.one true 0 (.cells [.int .i64 (s:Int),.int .i64 ex,.int .i64 n])] (v:=ex%4294967296) (n:=n) (by rw[IM];exact hex.1) h2 h1 (fun g2 NQ h3 h4=>?_)
 rw[IM]at h3 h4⊢
 refine Qs ?_
 exact⟨fS (dX ts gt ct A ga ca D gd cd) (codeF row cs ls s ex n) g2 NQ++[AO.one false 0 (.ints .u16 cs c1),AO.one false 0 (.ints .u8 ls c2)],(aI rfl (aI rfl (aI rfl (aI rfl (aI rfl (aI rfl (aI rfl (trivial)))))))),⟨rfl,trivial,(fun j=>rfl),trivial,trivial,trivial,trivial,trivial⟩,rfl,h g2 NQ h3 h4⟩
theorem CA {cs:List Int}{c1 c3 s:Nat}{ex n:Int}(gp:s<cs.length)(nQ:s<A.length)(u5:0≤cs.getD s 0∧cs.getD s 0<65536)(Cd:0≤A.getD s 0∧A.getD s 0<256)(hex:0≤ex∧ex<4294967296)
 (hr:row.length≤8388608)(hc:(aN row).length≤c)
 (h:∀g' c',(aN (codeF row cs A s ex n)).length≤c'→(codeF row cs A s ex n).length≤8388608→K (.aL []) (fS (dX ts gt ct A ga ca D gd cd) (codeF row cs A s ex n) g' c'++[.one false 0 (.ints .u16 cs c1)])):
 aa Try.prog 48 [.ptr 0 0 0,.sl 5 0 0 cs.length c3,.sl 3 ga 0 A.length ca,.agg [.int .i64 (s:Int),.int .i64 ex,.int .i64 n]]
  (fS (dX ts gt ct A ga ca D gd cd) row g c++[.one false 0 (.ints .u16 cs c1)]) K Kp:=by
 have Sz:0≤A.getD ((s:Int).toNat+0) 0∧A.getD ((s:Int).toNat+0) 0<256:=Cd
 have hm:cs.getD ((s:Int).toNat+0) 0%4294967296=cs.getD s 0:=by show cs.getD s 0%4294967296=cs.getD s 0;exact Int.emod_eq_of_lt u5.1 (by omega)
 have IM:ex%4294967296=ex:=Int.emod_eq_of_lt hex.1 hex.2
 refine aa.cj ?_
 refine Bv (fun _=>[5,3,6]) [] rfl ?_
 refine Qs ?_
 refine kP (X:=dX ts gt ct A ga ca D gd cd) [.one false 0 (.ints .u16 cs c1),.one true 0 (.cells [.int .i64 (s:Int),.int .i64 ex,.int .i64 n])] (v:=cs.getD ((s:Int).toNat+0) 0%4294967296) (n:=A.getD ((s:Int).toNat+0) 0) (by rw[hm];exact u5.1) hr hc (fun g1 Yp h1 h2=>?_)
 rw[hm]at h1 h2⊢
 refine Qs ?_
 refine kP (X:=dX ts gt ct A ga ca D gd cd) [.one false 0 (.ints .u16 cs c1),.one true 0 (.cells [.int .i64 (s:Int),.int .i64 ex,.int .i64 n])] (v:=ex%4294967296) (n:=n) (by rw[IM];exact hex.1) h2 h1 (fun g2 NQ h3 h4=>?_)
 rw[IM]at h3 h4⊢
 refine Qs ?_
 exact⟨fS (dX ts gt ct A ga ca D gd cd) (codeF row cs A s ex n) g2 NQ++[AO.one false 0 (.ints .u16 cs c1)],(aI rfl (aI rfl (aI rfl (aI rfl (aI rfl (aI rfl (trivial))))))),⟨rfl,trivial,(fun j=>rfl),trivial,trivial,trivial,trivial⟩,rfl,h g2 NQ h3 h4⟩
theorem Cz {cs:List Int}{c1 c3 s:Nat}{ex n:Int}(gp:s<cs.length)(nQ:s<D.length)(u5:0≤cs.getD s 0∧cs.getD s 0<65536)(Cd:0≤D.getD s 0∧D.getD s 0<256)(hex:0≤ex∧ex<4294967296)
 (hr:row.length≤8388608)(hc:(aN row).length≤c)
 (h:∀g' c',(aN (codeF row cs D s ex n)).length≤c'→(codeF row cs D s ex n).length≤8388608→K (.aL []) (fS (dX ts gt ct A ga ca D gd cd) (codeF row cs D s ex n) g' c'++[.one false 0 (.ints .u16 cs c1)])):
 aa Try.prog 48 [.ptr 0 0 0,.sl 5 0 0 cs.length c3,.sl 4 gd 0 D.length cd,.agg [.int .i64 (s:Int),.int .i64 ex,.int .i64 n]]
  (fS (dX ts gt ct A ga ca D gd cd) row g c++[.one false 0 (.ints .u16 cs c1)]) K Kp:=by
 have Sz:0≤D.getD ((s:Int).toNat+0) 0∧D.getD ((s:Int).toNat+0) 0<256:=Cd
 have hm:cs.getD ((s:Int).toNat+0) 0%4294967296=cs.getD s 0:=by show cs.getD s 0%4294967296=cs.getD s 0;exact Int.emod_eq_of_lt u5.1 (by omega)
 have IM:ex%4294967296=ex:=Int.emod_eq_of_lt hex.1 hex.2
 refine aa.cj ?_
 refine Bv (fun _=>[5,4,6]) [] rfl ?_
 refine Qs ?_
 refine kP (X:=dX ts gt ct A ga ca D gd cd) [.one false 0 (.ints .u16 cs c1),.one true 0 (.cells [.int .i64 (s:Int),.int .i64 ex,.int .i64 n])] (v:=cs.getD ((s:Int).toNat+0) 0%4294967296) (n:=D.getD ((s:Int).toNat+0) 0) (by rw[hm];exact u5.1) hr hc (fun g1 Yp h1 h2=>?_)
 rw[hm]at h1 h2⊢
 refine Qs ?_
 refine kP (X:=dX ts gt ct A ga ca D gd cd) [.one false 0 (.ints .u16 cs c1),.one true 0 (.cells [.int .i64 (s:Int),.int .i64 ex,.int .i64 n])] (v:=ex%4294967296) (n:=n) (by rw[IM];exact hex.1) h2 h1 (fun g2 NQ h3 h4=>?_)
 rw[IM]at h3 h4⊢
 refine Qs ?_
 exact⟨fS (dX ts gt ct A ga ca D gd cd) (codeF row cs D s ex n) g2 NQ++[AO.one false 0 (.ints .u16 cs c1)],(aI rfl (aI rfl (aI rfl (aI rfl (aI rfl (aI rfl (trivial))))))),⟨rfl,trivial,(fun j=>rfl),trivial,trivial,trivial,trivial⟩,rfl,h g2 NQ h3 h4⟩
end
end Go.Proofs.Ytibadaomjlkoaaa
