import Derived.Test.YtibadaomjlkoaaaGdh
import Derived.Test.YtibadaomjlkoaaaGx
import Derived.Test.YtibadaomjlkoaaaGb
set_option linter.unusedVariables false
set_option linter.unusedSimpArgs false
open Go.RowKit
namespace Go.Proofs.Ytibadaomjlkoaaa
set_option maxRecDepth 10000
section
variable{K Kp:AV→AH→Prop}{xs:List Int}{c c0:Nat}
theorem Eg {f a:Nat}(hx:xs.length≤1000000)(hf:f≤a)(ha:a≤xs.length)(h:K (.int .i64 (sL xs f a:Nat)) [.one false 0 (.ints .u8 xs c)]):
 aa Try.prog 39 [.sl 0 0 0 xs.length c0,.int .i64 (f:Int),.int .i64 (a:Int)] [.one false 0 (.ints .u8 xs c)] K Kp:=by
 refine SK (fun _=>[0]) [] rfl ?_
 refine Qs ?_
 refine WO.go (σ:=Nat) (fun n=>n≤258∧a+n≤xs.length∧uc xs f a (258-n) n=sL xs f a) (fun n=>258-n) (fun n=>[(0,.sl 0 0 0 xs.length c0),(1,.int .i64 (f:Int)),(2,.int .i64 (a:Int)),(7,.int .i64 (n:Int))])
  (fun _=>[.one false 0 (.ints .u8 xs c)]) 0 ae mixed (by kernel_rfl) ⟨by decide,ha,rfl⟩ (aI rfl (aI rfl (aI rfl (aI rfl (trivial))))) (aI rfl (trivial)) (fun _=>rfl) (fun _=>rfl) (fun _=>⟨trivial,trivial⟩) ?_
 rintro n ⟨h1,h2,h3⟩ d
 refine Qs ?_
 refine And.intro (fun q1=>?_) (fun q1=>?_)
 ·have hn:n<258:=by simp only[decide_eq_true_eq]at q1;omega
  refine Qs ?_
  refine And.intro (fun q2=>?_) (fun q2=>?_)
  ·have M9:a+n<xs.length:=by simp only[decide_eq_true_eq]at q2;omega
   refine Qs ?_
   refine And.intro (fun q3=>?_) (fun q3=>?_)
   ·have e3:xs.getD (f+n) 0=xs.getD (a+n) 0:=of_decide_eq_true q3
    refine Qs ?_
    refine RO.same (n+1) ⟨by omega,M9,?_⟩ (show 258-(n+1)<258-n by omega) (aI rfl (aI rfl (aI rfl (aI rfl (trivial))))) (aI rfl (trivial))
    rw[←h3,show 258-n=(258-(n+1))+1 by omega,uc,if_pos ⟨M9,e3⟩]
   ·have e3:¬xs.getD (f+n) 0=xs.getD (a+n) 0:=of_decide_eq_false q3
    refine Qs ?_
    rw[←h3,show 258-n=(257-n)+1 by omega,uc,if_neg (fun x=>e3 x.2)]at h
    exact h
  ·have M9:¬a+n<xs.length:=by simp only[decide_eq_false_iff_not]at q2;omega
   refine Qs ?_
   rw[←h3,show 258-n=(257-n)+1 by omega,uc,if_neg (fun x=>M9 x.1)]at h
   exact h
 ·have hn:n=258:=by simp only[decide_eq_false_iff_not]at q1;omega
  subst hn
  refine Qs ?_
  rw[←h3]at h
  exact h
end
end Go.Proofs.Ytibadaomjlkoaaa
open Go.RowKit
namespace Go.Proofs.Ytibadaomjlkoaaa
set_option maxRecDepth 10000
section
variable{K Kp:AV→AH→Prop}{xs:List Int}{c c0:Nat}
theorem Lg {M:AH}{i g n c0 co f a:Nat}{o:Bool}{xs:List Int}(hi:M[i]?=some (.one o g (.ints .u8 xs co)))(hn:n=xs.length)(hc:xs.length≤co)(hx:xs.length≤1000000)(hf:f≤a)(ha:a≤xs.length)(h:K (.int .i64 (sL xs f a:Nat)) M):
 aa Try.prog 39 [.sl i g 0 n c0,.int .i64 (f:Int),.int .i64 (a:Int)] M K Kp:=by
 subst hn
 refine aa.lift [.cP i g 0] (Eg (xs:=xs) (c:=xs.length) (c0:=c0) (f:=f) (a:=a) (K:=fun r N=>r=.int .i64 (sL xs f a:Nat)∧N=[.one false 0 (.ints .u8 xs xs.length)]) (Kp:=fun _ _=>False) hx hf ha ⟨rfl,rfl⟩)
  (by simp[AV.mX,AV.rn,sr,uB,uC,TE.i]) rfl ⟨⟨_,_,_,rfl,ao hi,cq.ints (by omega) (by rw[List.drop_zero,List.take_length])⟩,trivial⟩ ⟨trivial,trivial⟩ ?_ (fun _ _ h=>h.elim)
 rintro r M' ⟨rfl,rfl⟩
 refine⟨⟨rfl,rfl⟩,?_⟩
 rw[←List.append_nil M]at h
 exact h
def Nw (xs:List Int)(c c0 ga a:Nat)(t:Tk):AH:=[.one false 0 (.ints .u8 xs c),.one true 0 (.cells [.sl 0 0 0 xs.length c0]),.one true ga (.cells [.int .i64 (a:Int)]),.one true 0 (.cells t.row)]
theorem J6 {f a ga:Nat}{t:Tk}(hx:xs.length≤1000000)(hc:xs.length≤c)(hf:f≤a)(ha:a≤xs.length)(h:K (.aE []) (Nw xs c c0 ga a (xu xs a f t))):
 aa Try.prog 38 [.int .i64 (f:Int),.ptr 1 0 0,.ptr 2 ga 0,.ptr 3 0 0] (Nw xs c c0 ga a t) K Kp:=by
 obtain⟨b,l,d⟩:=t
 refine SL (fun _=>[]) [] rfl ?_
 refine Qs ?_
 refine Lg (i:=0) (xs:=xs) rfl rfl hc hx hf ha ?_
 have hm:=Hs (f:=f) ha
 obtain⟨m,hme⟩:∃m,sL xs f a=m:=⟨_,rfl⟩
 rw[hme]at hm⊢
 have ht:xu xs a f ⟨b,l,d⟩=if 3≤m∧l<m then⟨0,m,a-f⟩else⟨b,l,d⟩:=by unfold xu;rw[hme]
 rw[ht]at h
 refine Qs ?_
 refine And.intro (fun q1=>?_) (fun q1=>?_)
 ·have h1:3≤m:=by simp only[decide_eq_true_eq]at q1;omega
  refine Qs ?_
  refine And.intro (fun q2=>?_) (fun q2=>?_)
  ·have h2:l<m:=by simp only[decide_eq_true_eq]at q2;omega
   rw[if_pos ⟨h1,h2⟩]at h
   refine Qs ?_
   have e:((a-f:Nat):Int)=(a:Int)-f:=by omega
   simp only[Nw,Tk.row,e]at h
   exact h
  ·have h2:¬l<m:=by simp only[decide_eq_false_iff_not]at q2;omega
   rw[if_neg (fun x=>h2 x.2)]at h
   refine Qs ?_
   exact h
 ·have h1:¬3≤m:=by simp only[decide_eq_false_iff_not]at q1;omega
  rw[if_neg (fun x=>h1 x.1)]at h
  refine Qs ?_
  exact h
def nN (xs:List Int)(c c0:Nat)(s:rU):AH:=[.one false 0 (.ints .u8 xs c),.one true 0 (.cells [.sl 0 0 0 xs.length c0]),.one true 0 (.map (.x6 .u8) (mm s.1)),.one true 0 (.cells [.mp 2 0]),
 .one true 0 (.ints .i64 s.2 xs.length),.one true 0 (.cells [.sl 4 0 0 xs.length xs.length])]
theorem nM {s:rU}:kq 6 (nN xs c c0 s):=⟨trivial,rfl,mO _ (.x6 .u8) _,rfl,trivial,rfl,trivial⟩
theorem IY {i:Nat}{s:rU}(hx:xs.length≤1000000)(hc:xs.length≤c0)(xk:c0≤c)(hb:∀x∈xs,0≤x∧x<256)(hi:i<xs.length)(hs:pW xs i s)(h:K (.aE []) (nN xs c c0 (jD xs i s))):
 aa Try.prog 37 [.int .i64 (i:Int),.ptr 1 0 0,.ptr 3 0 0,.ptr 5 0 0] (nN xs c c0 s) K Kp:=by
 obtain⟨es,ah⟩:=s
 have hl:=hs.len
 simp only at hl
 refine aa.bI ?_
 refine SM (fun _=>[2,3,5,6]) [] rfl ?_
 refine Qs ?_
 refine And.intro (fun q1=>?_) (fun q1=>?_)
 ·have h1:i+3≤xs.length:=by simp only[decide_eq_true_eq]at q1;omega
  have ho:bT c0 (i:Int).toNat 0 1=i:=by unfold bT;rw[if_neg (by omega)];omega
  have gm:0≤xs.getD (bT c0 (i:Int).toNat 0 1+2) 0∧xs.getD (bT c0 (i:Int).toNat 0 1+2) 0<256:=by
   rw[ho]
   refine hb _ ?_
   rw[List.getD_eq_getElem?_getD,List.getElem?_eq_getElem (show i+2<xs.length by omega)]
   exact List.getElem_mem _
  have hk:((xs.getD (bT c0 (i:Int).toNat 0 1+0) 0,xs.getD (bT c0 (i:Int).toNat 0 1+1) 0*256+xs.getD (bT c0 (i:Int).toNat 0 1+2) 0):Int×Int)=pB xs i:=by rw[ho];rfl
  refine Qs ?_
  refine And.intro (fun v hv=>?_) (fun hv=>?_)
  ·have rR:pU (xs.getD (bT c0 (i:Int).toNat 0 1+0) 0,xs.getD (bT c0 (i:Int).toNat 0 1+1) 0*256+xs.getD (bT c0 (i:Int).toNat 0 1+2) 0) (mm es)=some v:=hv
   rw[hk,jR]at rR
   clear hv
   obtain⟨z,hz,rfl⟩:=Option.map_eq_some_iff.1 rR
   clear rR
   refine Qs ?_
   intro ER m9
   have L4:ER=rZ (xs.getD (bT c0 (i:Int).toNat 0 1+0) 0,xs.getD (bT c0 (i:Int).toNat 0 1+1) 0*256+xs.getD (bT c0 (i:Int).toNat 0 1+2) 0) (.int .i64 ((i:Int)+1)) (mm es):=m9
   rw[hk,qP]at L4
   clear m9
   subst L4
   have e:jD xs i (es,ah)=(mV (pB xs i) ((i:Int)+1) es,ah.set i z):=by
    unfold jD;rw[if_pos h1];simp only[hz,Option.getD_some,Option.getD_none]
   rw[e]at h
   refine Qs ?_
   exact⟨nN xs c c0 (mV (pB xs i) ((i:Int)+1) es,ah.set i z),(aI rfl (aI rfl (aI rfl (aI rfl (aI rfl (aI rfl (trivial))))))),nM,rfl,h⟩
  ·have rR:pU (xs.getD (bT c0 (i:Int).toNat 0 1+0) 0,xs.getD (bT c0 (i:Int).toNat 0 1+1) 0*256+xs.getD (bT c0 (i:Int).toNat 0 1+2) 0) (mm es)=none:=hv
   rw[hk,jR]at rR
   clear hv
   have hz:cf (pB xs i) es=none:=Option.map_eq_none_iff.1 rR
   clear rR
   refine Qs ?_
   intro ER m9
   have L4:ER=rZ (xs.getD (bT c0 (i:Int).toNat 0 1+0) 0,xs.getD (bT c0 (i:Int).toNat 0 1+1) 0*256+xs.getD (bT c0 (i:Int).toNat 0 1+2) 0) (.int .i64 ((i:Int)+1)) (mm es):=m9
   rw[hk,qP]at L4
   clear m9
   subst L4
   have e:jD xs i (es,ah)=(mV (pB xs i) ((i:Int)+1) es,ah.set i 0):=by
    unfold jD;rw[if_pos h1];simp only[hz,Option.getD_some,Option.getD_none]
   rw[e]at h
   refine Qs ?_
   exact⟨nN xs c c0 (mV (pB xs i) ((i:Int)+1) es,ah.set i 0),(aI rfl (aI rfl (aI rfl (aI rfl (aI rfl (aI rfl (trivial))))))),nM,rfl,h⟩
 ·have h1:¬i+3≤xs.length:=by simp only[decide_eq_false_iff_not]at q1;omega
  unfold jD at h
  rw[if_neg h1]at h
  refine Qs ?_
  exact⟨nN xs c c0 (es,ah),yh _,nM,rfl,h⟩
end
end Go.Proofs.Ytibadaomjlkoaaa
open Go.RowKit
namespace Go.Proofs.Ytibadaomjlkoaaa
set_option maxRecDepth 10000
instance:Inhabited Tk:=⟨⟨0,0,0⟩⟩
def pH (l:List Tk)(c:Nat):af:=.cw 3 l.length (fun j=>(l.getD j default).row) c
theorem Kb (k:Nat)(l:List Tk)(c:Nat):(pH l c).nb k:=fun j=>rfl
def Ee (xs:List Int)(c c0:Nat)(a:Nat)(s:rU)(ga:Nat)(out:List Tk)(g co:Nat):AH:=nN xs c c0 s++[.one true ga (.cells [.int .i64 (a:Int)]),.one true g (pH out co)]
section
variable{K Kp:AV→AH→Prop}{xs:List Int}{c c0:Nat}
theorem Tl {a:Nat}{s:rU}{ga:Nat}{out:List Tk}{g co:Nat}:kq 8 (Ee xs c c0 a s ga out g co):=⟨trivial,rfl,mO _ (.x6 .u8) _,rfl,trivial,rfl,rfl,fun j=>rfl,trivial⟩
theorem Hn {a:Nat}{s:rU}{ga:Nat}{out:List Tk}{g co:Nat}{t:Tk}:kq 9 (Ee xs c c0 a s ga out g co++[.one true 0 (.cells t.row)]):=⟨trivial,rfl,mO _ (.x6 .u8) _,rfl,trivial,rfl,rfl,fun j=>rfl,rfl,trivial⟩
theorem mn {a:Nat}{s:rU}{ga:Nat}{out:List Tk}{g co:Nat}:kq 10 (Ee xs c c0 a s ga out g co++[AO.gone,AO.gone]):=⟨trivial,rfl,mO _ (.x6 .u8) _,rfl,trivial,rfl,rfl,fun j=>rfl,trivial,trivial,trivial⟩
theorem J7 {a f ga g co:Nat}{t:Tk}{s:rU}{out:List Tk}(hx:xs.length≤1000000)(hc:xs.length≤c)(hf:f≤a)(ha:a≤xs.length)(h:K (.aE []) (Ee xs c c0 a s ga out g co++[.one true 0 (.cells (xu xs a f t).row)])):
 aa Try.prog 38 [.int .i64 (f:Int),.ptr 1 0 0,.ptr 6 ga 0,.ptr 8 0 0] (Ee xs c c0 a s ga out g co++[.one true 0 (.cells t.row)]) K Kp:=by
 refine aa.lift [.dE 0,.own 1,.own 6,.own 8] (J6 (xs:=xs) (c:=c) (c0:=c0) (ga:=ga) (t:=t) (K:=fun r N=>r=.aE []∧N=Nw xs c c0 ga a (xu xs a f t)) (Kp:=fun _ _=>False) hx hc hf ha ⟨rfl,rfl⟩)
  rfl rfl ⟨⟨rfl,_,rfl,rfl⟩,⟨rfl,rfl⟩,⟨rfl,rfl⟩,⟨rfl,rfl⟩,trivial⟩ ⟨trivial,rfl,rfl,rfl,trivial⟩ ?_ (fun _ _ h=>h.elim)
 rintro r M' ⟨rfl,rfl⟩
 refine⟨⟨rfl,rfl,rfl,rfl,rfl⟩,?_⟩
 exact h
theorem ml {i:Nat}{s:rU}{E:AH}(hx:xs.length≤1000000)(hc:xs.length≤c0)(xk:c0≤c)(hb:∀x∈xs,0≤x∧x<256)(hi:i<xs.length)(hs:pW xs i s)(h:K (.aE []) (nN xs c c0 (jD xs i s)++E)):
 aa Try.prog 37 [.int .i64 (i:Int),.ptr 1 0 0,.ptr 3 0 0,.ptr 5 0 0] (nN xs c c0 s++E) K Kp:=by
 refine aa.frame E (IY (xs:=xs) (c:=c) (c0:=c0) (K:=fun r N=>r=.aE []∧N=nN xs c c0 (jD xs i s)) (Kp:=fun _ _=>False) hx hc xk hb hi hs ⟨rfl,rfl⟩) rfl nM (fun o ho=>?_) ?_ (fun _ _ h=>h.elim)
 ·simp only[nN,List.mem_cons,List.not_mem_nil,or_false]at ho
  rcases ho with rfl|rfl|rfl|rfl|rfl|rfl<;>rfl
 ·rintro r M' ⟨rfl,rfl⟩
  exact⟨rfl,⟨rfl,rfl,rfl,rfl,rfl,rfl,rfl⟩,nM,rfl,h⟩
theorem dZ {out:List Tk}{B:Tk}{q:Nat}(hq:q<out.length+1):((out++[B]).getD q default).row=if q<out.length then(out.getD q default).row else B.row:=by
 rw[List.getD_eq_getElem?_getD,List.getElem?_append]
 split
 ·rw[List.getD_eq_getElem?_getD]
 ·rw[show q-out.length=0 by omega];rfl
theorem Ap (hx:xs.length≤1000000)(hc:xs.length≤c0)(xk:c0≤c)(hb:∀x∈xs,0≤x∧x<256)
 (h:∀g co,(cI xs).length≤co→K (.sl 1 g 0 (cI xs).length co) [.one false 0 (.ints .u8 xs c),.one true g (pH (cI xs) co)]):
 aa Try.prog 14 [.sl 0 0 0 xs.length c0] [.one false 0 (.ints .u8 xs c)] K Kp:=by
 refine aa.cQ ?_
 refine SX (fun _=>[0,1,2,3,6]) [] rfl ?_
 refine Qs ?_
 refine WO.Dv (σ:=Nat×rU×Nat×List Tk×Nat×Nat) (fun(a,s,ga,out,g,co)=>a≤xs.length∧pW xs a s∧out.length≤co∧out.length≤a∧fh xs (xs.length-a) a s out=cI xs) (fun(a,_)=>xs.length-a)
  (fun(a,s,ga,out,g,co)=>[(1,.ptr 1 0 0),(3,.sl 7 g 0 out.length co),(4,.ptr 3 0 0),(5,.ptr 5 0 0),(6,.fn (.func 37) [] [.ptr 1 0 0,.ptr 3 0 0,.ptr 5 0 0]),(7,.ptr 6 ga 0)])
  (fun(a,s,ga,out,g,co)=>Ee xs c c0 a s ga out g co) (0,([],List.replicate xs.length 0),0,[],0,0) ae mixed (by kernel_rfl)
  [(1,.ptr 1 0 0),(3,.ns),(4,.ptr 3 0 0),(5,.ptr 5 0 0),(6,.fn (.func 37) [] [.ptr 1 0 0,.ptr 3 0 0,.ptr 5 0 0]),(7,.ptr 6 0 0)] _ ⟨Nat.zero_le _,pW.start xs,Nat.le_refl _,Nat.le_refl _,rfl⟩ (aI rfl (aI rfl (aI rfl (aI rfl (aI rfl (aI rfl (trivial))))))) rfl
  (Vw.pz (x:=pH [] 0) ⟨rfl,rfl⟩ (And.intro (.inl rfl) (And.intro (.inr ⟨rfl,rfl⟩) (And.intro (.inl rfl) (And.intro (.inl rfl) (And.intro (.inl rfl) (And.intro (.inl rfl) trivial))))))) (aI rfl (aI rfl (aI rfl (aI rfl (aI rfl (aI rfl (aI rfl (aI rfl (trivial))))))))) (fun _=>rfl) (fun _=>rfl) (fun _=>Tl) ?_
 rintro⟨a,⟨es,ah⟩,ga,out,g,co⟩ ⟨i1,i2,i3,i4,i5⟩ d
 refine Qs ?_
 refine And.intro (fun q1=>?_) (fun q1=>?_)
 ·have ha:a<xs.length:=by simp only[decide_eq_true_eq]at q1;omega
  have W9:ah.length=xs.length:=i2.len
  obtain⟨B,hB⟩:∃B,w9 xs (es,ah) a=B:=⟨_,rfl⟩
  have Ut:nh xs a B:=by rw[←hB];exact nh.Y0 ha i2
  have TV:fh xs (xs.length-(a+max B.l 1)) (a+max B.l 1) (bW xs (max B.l 1) a (es,ah)) (out++[B])=cI xs:=by
   rw[←i5,show xs.length-a=(xs.length-(a+1))+1 by omega,fh,if_pos ha,hB]
   exact tC _ _ _ _ _ (by omega) (by omega)
  unfold w9 at hB
  refine Qs ?_
  refine And.intro (fun q2=>?_) (fun q2=>?_)
  ·have h3:a+3≤xs.length:=by simp only[decide_eq_true_eq]at q2;omega
   rw[if_pos h3]at hB
   have ho:bT c0 (a:Int).toNat 0 1=a:=by unfold bT;rw[if_neg (by omega)];omega
   have gm:0≤xs.getD (bT c0 (a:Int).toNat 0 1+2) 0∧xs.getD (bT c0 (a:Int).toNat 0 1+2) 0<256:=by
    rw[ho]
    refine hb _ ?_
    rw[List.getD_eq_getElem?_getD,List.getElem?_eq_getElem (show a+2<xs.length by omega)]
    exact List.getElem_mem _
   have hk:((xs.getD (bT c0 (a:Int).toNat 0 1+0) 0,xs.getD (bT c0 (a:Int).toNat 0 1+1) 0*256+xs.getD (bT c0 (a:Int).toNat 0 1+2) 0):Int×Int)=pB xs a:=by rw[ho];rfl
   refine Qs ?_
   refine And.intro (fun v hv=>?_) (fun hv=>?_)
   ·have rR:pU (xs.getD (bT c0 (a:Int).toNat 0 1+0) 0,xs.getD (bT c0 (a:Int).toNat 0 1+1) 0*256+xs.getD (bT c0 (a:Int).toNat 0 1+2) 0) (mm es)=some v:=hv
    rw[hk,jR]at rR
    clear hv
    obtain⟨z,hz,rfl⟩:=Option.map_eq_some_iff.1 rR
    clear rR
    obtain⟨p,rfl⟩:∃p:Nat,z=p:=⟨z.toNat,by have:=i2.es _ _ hz;omega⟩
    have JV:p≤a:=by have:=i2.es _ _ hz;omega
    rw[hz]at hB
    simp only[Option.getD_some,Int.toNat_natCast]at hB
    rw[iC i2.ah a p p _ JV (Nat.le_refl p)]at hB
    refine Qs ?_
    refine WO.go (σ:=Nat×Tk) (fun(p,t)=>p≤a∧eL xs ah a p p t=B) (fun(p,t)=>p)
     (fun(p,t)=>[(1,.ptr 1 0 0),(3,.sl 7 g 0 out.length co),(4,.ptr 3 0 0),(5,.ptr 5 0 0),(6,.fn (.func 37) [] [.ptr 1 0 0,.ptr 3 0 0,.ptr 5 0 0]),(7,.ptr 6 ga 0),(8,.ptr 8 0 0),(9,.fn (.func 38) [] [.ptr 1 0 0,.ptr 6 ga 0,.ptr 8 0 0]),(10,.int .i64 (p:Int))])
     (fun(p,t)=>Ee xs c c0 a (es,ah) ga out g co++[.one true 0 (.cells t.row)]) (p,⟨xs.getD a 0,0,0⟩) ae mixed (by kernel_rfl) ⟨JV,hB⟩ (aI rfl (aI rfl (aI rfl (aI rfl (aI rfl (aI rfl (aI rfl (aI rfl (aI rfl (trivial)))))))))) (aI rfl (aI rfl (aI rfl (aI rfl (aI rfl (aI rfl (aI rfl (aI rfl (aI rfl (trivial)))))))))) (fun _=>rfl) (fun _=>rfl) (fun _=>Hn) ?_
    rintro⟨p,t⟩ ⟨j1,j2⟩ d2
    have Mb:=i2.ah (p-1)
    refine Qs ?_
    refine And.intro (fun r1=>?_) (fun r1=>?_)
    ·have hp:0<p:=by simp only[decide_eq_true_eq]at r1;omega
     refine Qs ?_
     refine And.intro (fun r2=>?_) (fun r2=>?_)
     ·have hd:a-(p-1)≤32768:=by simp only[decide_eq_true_eq]at r2;omega
      refine Qs ?_
      refine And.intro (fun r3=>?_) (fun r3=>?_)
      ·have hl:t.l<258:=by have r3:(t.l:Int)<258:=of_decide_eq_true r3;omega
       obtain⟨p,rfl⟩:∃p',p=p'+1:=⟨p-1,by omega⟩
       have e1:((p+1:Nat):Int)-1=(p:Int):=by omega
       rw[eL,if_pos ⟨hp,hd,hl⟩]at j2
       refine Qs ?_
       rw[e1]
       refine J7 (f:=p) hx (by omega) (by omega) (by omega) ?_
       have Mb:0≤ah.getD p 0∧ah.getD p 0≤(p:Int):=i2.ah p
       refine Qs ?_
       refine RO.same ((ah.getD p 0).toNat,xu xs a p t) ⟨by omega,?_⟩ (show(ah.getD p 0).toNat<p+1 by omega) (aI rfl (aI rfl (aI rfl (aI rfl (aI rfl (aI rfl (aI rfl (aI rfl (aI ?_ trivial))))))))) (aI rfl (aI rfl (aI rfl (aI rfl (aI rfl (aI rfl (aI rfl (aI rfl (aI rfl (trivial))))))))))
       ·rw[←j2]
        exact iC i2.ah _ _ _ _ (Nat.le_refl _) (by show(ah.getD p 0).toNat≤p;omega)
       ·show AV.int .i64 (ah.getD ((((p+1:Nat):Int)-1).toNat+0) 0)=.int .i64 (((ah.getD p 0).toNat:Nat):Int)
        rw[e1,Int.toNat_natCast,Int.toNat_of_nonneg Mb.1,Nat.add_zero]
      ·have hl:¬t.l<258:=by have r3:¬(t.l:Int)<258:=of_decide_eq_false r3;omega
       obtain⟨p,rfl⟩:∃p',p=p'+1:=⟨p-1,by omega⟩
       rw[eL,if_neg (fun x=>hl x.2.2)]at j2
       subst j2
       refine Qs ?_
       refine And.intro (fun q hq=>?_) ?_
       ·obtain rfl:q=0:=by have:q<1:=hq;omega
        exact⟨rfl,rfl⟩
       refine Qs ?_
       refine⟨fun j=>((out++[t]).getD j default).row,fun q hq=>?_,fun co2 sV=>?_⟩
       ·by_cases eW:q<out.length
        ·exact((dZ hq).trans (if_pos eW)).trans (if_pos eW).symm
        ·obtain rfl:q=out.length:=by have:q<out.length+1:=hq;omega
         refine((dZ hq).trans (if_neg eW)).trans (Eq.trans ?_ (if_neg eW).symm)
         rw[Nat.sub_self]
         rfl
       have hE:pH (out++[t]) co2=.cw 3 (out.length+1) (fun j=>((out++[t]).getD j default).row) co2:=by unfold pH;rw[List.length_append];rfl
       refine Qs ?_
       refine WO.go (σ:=Nat) (fun i=>i≤max t.l 1) (fun i=>max t.l 1-i)
        (fun i=>[(1,.ptr 1 0 0),(3,.sl 7 (g+1) 0 (out.length+1) co2),(4,.ptr 3 0 0),(5,.ptr 5 0 0),(6,.fn (.func 37) [] [.ptr 1 0 0,.ptr 3 0 0,.ptr 5 0 0]),(7,.ptr 6 ga 0),(69,.int .i64 (max (t.l:Int) 1)),(70,.int .i64 (i:Int))])
        (fun i=>Ee xs c c0 (a+i) (bW xs i a (es,ah)) ga (out++[t]) (g+1) co2++[AO.gone,AO.gone]) 0 ae mixed (by kernel_rfl) (Nat.zero_le _) (aI rfl (aI rfl (aI rfl (aI rfl (aI rfl (aI rfl (aI rfl (aI rfl (trivial))))))))) (aI rfl (aI rfl (aI rfl (aI rfl (aI rfl (aI rfl (aI rfl (aI (congrArg (AO.one true (g+1)) hE) (aI trivial (aI trivial trivial)))))))))) (fun _=>rfl) (fun _=>rfl) (fun _=>mn) ?_
       intro k k1 d3
       have k1:k≤max t.l 1:=k1
       have lM:pW xs (a+k) (bW xs k a (es,ah)):=pW.notes k a i2
       have hle:t.l≤258∧a+t.l≤xs.length:=Ut.le
       refine Qs ?_
       refine And.intro (fun q5=>?_) (fun q5=>?_)
       ·have o9:k<max t.l 1:=by
         have q5:(k:Int)<max (t.l:Int) 1:=of_decide_eq_true q5
         omega
        refine Qs ?_
        refine ml (i:=a+k) (E:=[.one true ga (.cells [.int .i64 ((a+k:Nat):Int)]),.one true (g+1) (pH (out++[t]) co2),.gone,.gone]) hx hc xk hb (by omega) lM ?_
        rw[←dG]
        refine Qs ?_
        refine RO.same (k+1) (show k+1≤max t.l 1 from o9) (show max t.l 1-(k+1)<max t.l 1-k from Nat.sub_lt_sub_left o9 (Nat.lt_succ_self k)) (aI rfl (aI rfl (aI rfl (aI rfl (aI rfl (aI rfl (aI rfl (aI rfl (trivial))))))))) (aI rfl (aI rfl (aI rfl (aI rfl (aI rfl (aI rfl (aI rfl (aI rfl (aI trivial (aI trivial (trivial)))))))))))
       ·have o9:k=max t.l 1:=by
         have q5:¬(k:Int)<max (t.l:Int) 1:=of_decide_eq_false q5
         omega
        subst o9
        refine Qs ?_
        refine RO.mk (a+max t.l 1,bW xs (max t.l 1) a (es,ah),ga+1,out++[t],g+1,co2)
         [(1,.ptr 1 0 0),(3,.sl 7 (g+1) 0 (out.length+1) co2),(4,.ptr 3 0 0),(5,.ptr 5 0 0),(6,.fn (.func 37) [] [.ptr 1 0 0,.ptr 3 0 0,.ptr 5 0 0]),(7,.ptr 10 0 0)] _ ⟨by omega,lM,by rw[List.length_append];exact sV,by rw[List.length_append];show out.length+1≤_;omega,TV⟩ (show xs.length-(a+max t.l 1)<xs.length-a by omega)
         (aI rfl (aI rfl (aI rfl (aI rfl (aI rfl (aI rfl (trivial))))))) rfl (Vw.move (i:=6) (k:=10) rfl rfl rfl (aI oS.same (aI ?_ (aI oS.same (aI oS.same (aI oS.same (aI (.inr (.inr ⟨_,rfl,rfl⟩)) trivial))))))) (aI rfl (aI rfl (aI rfl (aI rfl (aI rfl (aI rfl (aI rfl (aI rfl (trivial)))))))))
        exact .inl (by rw[List.length_append];rfl)
     ·have hd:¬a-(p-1)≤32768:=by have r2:¬(a:Int)-((p:Int)-1)≤32768:=of_decide_eq_false r2;omega
      obtain⟨p,rfl⟩:∃p',p=p'+1:=⟨p-1,by omega⟩
      rw[eL,if_neg (fun x=>hd x.2.1)]at j2
      subst j2
      refine Qs ?_
      refine And.intro (fun q hq=>?_) ?_
      ·obtain rfl:q=0:=by have:q<1:=hq;omega
       exact⟨rfl,rfl⟩
      refine Qs ?_
      refine⟨fun j=>((out++[t]).getD j default).row,fun q hq=>?_,fun co2 sV=>?_⟩
      ·by_cases eW:q<out.length
       ·exact((dZ hq).trans (if_pos eW)).trans (if_pos eW).symm
       ·obtain rfl:q=out.length:=by have:q<out.length+1:=hq;omega
        refine((dZ hq).trans (if_neg eW)).trans (Eq.trans ?_ (if_neg eW).symm)
        rw[Nat.sub_self]
        rfl
      have hE:pH (out++[t]) co2=.cw 3 (out.length+1) (fun j=>((out++[t]).getD j default).row) co2:=by unfold pH;rw[List.length_append];rfl
      refine Qs ?_
      refine WO.go (σ:=Nat) (fun i=>i≤max t.l 1) (fun i=>max t.l 1-i)
       (fun i=>[(1,.ptr 1 0 0),(3,.sl 7 (g+1) 0 (out.length+1) co2),(4,.ptr 3 0 0),(5,.ptr 5 0 0),(6,.fn (.func 37) [] [.ptr 1 0 0,.ptr 3 0 0,.ptr 5 0 0]),(7,.ptr 6 ga 0),(69,.int .i64 (max (t.l:Int) 1)),(70,.int .i64 (i:Int))])
       (fun i=>Ee xs c c0 (a+i) (bW xs i a (es,ah)) ga (out++[t]) (g+1) co2++[AO.gone,AO.gone]) 0 ae mixed (by kernel_rfl) (Nat.zero_le _) (aI rfl (aI rfl (aI rfl (aI rfl (aI rfl (aI rfl (aI rfl (aI rfl (trivial))))))))) (aI rfl (aI rfl (aI rfl (aI rfl (aI rfl (aI rfl (aI rfl (aI (congrArg (AO.one true (g+1)) hE) (aI trivial (aI trivial trivial)))))))))) (fun _=>rfl) (fun _=>rfl) (fun _=>mn) ?_
      intro k k1 d3
      have k1:k≤max t.l 1:=k1
      have lM:pW xs (a+k) (bW xs k a (es,ah)):=pW.notes k a i2
      have hle:t.l≤258∧a+t.l≤xs.length:=Ut.le
      refine Qs ?_
      refine And.intro (fun q5=>?_) (fun q5=>?_)
      ·have o9:k<max t.l 1:=by
        have q5:(k:Int)<max (t.l:Int) 1:=of_decide_eq_true q5
        omega
       refine Qs ?_
       refine ml (i:=a+k) (E:=[.one true ga (.cells [.int .i64 ((a+k:Nat):Int)]),.one true (g+1) (pH (out++[t]) co2),.gone,.gone]) hx hc xk hb (by omega) lM ?_
       rw[←dG]
       refine Qs ?_
       refine RO.same (k+1) (show k+1≤max t.l 1 from o9) (show max t.l 1-(k+1)<max t.l 1-k from Nat.sub_lt_sub_left o9 (Nat.lt_succ_self k)) (aI rfl (aI rfl (aI rfl (aI rfl (aI rfl (aI rfl (aI rfl (aI rfl (trivial))))))))) (aI rfl (aI rfl (aI rfl (aI rfl (aI rfl (aI rfl (aI rfl (aI rfl (aI trivial (aI trivial (trivial)))))))))))
      ·have o9:k=max t.l 1:=by
        have q5:¬(k:Int)<max (t.l:Int) 1:=of_decide_eq_false q5
        omega
       subst o9
       refine Qs ?_
       refine RO.mk (a+max t.l 1,bW xs (max t.l 1) a (es,ah),ga+1,out++[t],g+1,co2)
        [(1,.ptr 1 0 0),(3,.sl 7 (g+1) 0 (out.length+1) co2),(4,.ptr 3 0 0),(5,.ptr 5 0 0),(6,.fn (.func 37) [] [.ptr 1 0 0,.ptr 3 0 0,.ptr 5 0 0]),(7,.ptr 10 0 0)] _ ⟨by omega,lM,by rw[List.length_append];exact sV,by rw[List.length_append];show out.length+1≤_;omega,TV⟩ (show xs.length-(a+max t.l 1)<xs.length-a by omega)
        (aI rfl (aI rfl (aI rfl (aI rfl (aI rfl (aI rfl (trivial))))))) rfl (Vw.move (i:=6) (k:=10) rfl rfl rfl (aI oS.same (aI ?_ (aI oS.same (aI oS.same (aI oS.same (aI (.inr (.inr ⟨_,rfl,rfl⟩)) trivial))))))) (aI rfl (aI rfl (aI rfl (aI rfl (aI rfl (aI rfl (aI rfl (aI rfl (trivial)))))))))
       exact .inl (by rw[List.length_append];rfl)
    ·have hp:p=0:=by have r1:¬(0:Int)<(p:Int):=of_decide_eq_false r1;omega
     subst hp
     have j2:t=B:=j2
     subst j2
     refine Qs ?_
     refine And.intro (fun q hq=>?_) ?_
     ·obtain rfl:q=0:=by have:q<1:=hq;omega
      exact⟨rfl,rfl⟩
     refine Qs ?_
     refine⟨fun j=>((out++[t]).getD j default).row,fun q hq=>?_,fun co2 sV=>?_⟩
     ·by_cases eW:q<out.length
      ·exact((dZ hq).trans (if_pos eW)).trans (if_pos eW).symm
      ·obtain rfl:q=out.length:=by have:q<out.length+1:=hq;omega
       refine((dZ hq).trans (if_neg eW)).trans (Eq.trans ?_ (if_neg eW).symm)
       rw[Nat.sub_self]
       rfl
     have hE:pH (out++[t]) co2=.cw 3 (out.length+1) (fun j=>((out++[t]).getD j default).row) co2:=by unfold pH;rw[List.length_append];rfl
     refine Qs ?_
     refine WO.go (σ:=Nat) (fun i=>i≤max t.l 1) (fun i=>max t.l 1-i)
      (fun i=>[(1,.ptr 1 0 0),(3,.sl 7 (g+1) 0 (out.length+1) co2),(4,.ptr 3 0 0),(5,.ptr 5 0 0),(6,.fn (.func 37) [] [.ptr 1 0 0,.ptr 3 0 0,.ptr 5 0 0]),(7,.ptr 6 ga 0),(69,.int .i64 (max (t.l:Int) 1)),(70,.int .i64 (i:Int))])
      (fun i=>Ee xs c c0 (a+i) (bW xs i a (es,ah)) ga (out++[t]) (g+1) co2++[AO.gone,AO.gone]) 0 ae mixed (by kernel_rfl) (Nat.zero_le _) (aI rfl (aI rfl (aI rfl (aI rfl (aI rfl (aI rfl (aI rfl (aI rfl (trivial))))))))) (aI rfl (aI rfl (aI rfl (aI rfl (aI rfl (aI rfl (aI rfl (aI (congrArg (AO.one true (g+1)) hE) (aI trivial (aI trivial trivial)))))))))) (fun _=>rfl) (fun _=>rfl) (fun _=>mn) ?_
     intro k k1 d3
     have k1:k≤max t.l 1:=k1
     have lM:pW xs (a+k) (bW xs k a (es,ah)):=pW.notes k a i2
     have hle:t.l≤258∧a+t.l≤xs.length:=Ut.le
     refine Qs ?_
     refine And.intro (fun q5=>?_) (fun q5=>?_)
     ·have o9:k<max t.l 1:=by
       have q5:(k:Int)<max (t.l:Int) 1:=of_decide_eq_true q5
       omega
      refine Qs ?_
      refine ml (i:=a+k) (E:=[.one true ga (.cells [.int .i64 ((a+k:Nat):Int)]),.one true (g+1) (pH (out++[t]) co2),.gone,.gone]) hx hc xk hb (by omega) lM ?_
      rw[←dG]
      refine Qs ?_
      refine RO.same (k+1) (show k+1≤max t.l 1 from o9) (show max t.l 1-(k+1)<max t.l 1-k from Nat.sub_lt_sub_left o9 (Nat.lt_succ_self k)) (aI rfl (aI rfl (aI rfl (aI rfl (aI rfl (aI rfl (aI rfl (aI rfl (trivial))))))))) (aI rfl (aI rfl (aI rfl (aI rfl (aI rfl (aI rfl (aI rfl (aI rfl (aI trivial (aI trivial (trivial)))))))))))
     ·have o9:k=max t.l 1:=by
       have q5:¬(k:Int)<max (t.l:Int) 1:=of_decide_eq_false q5
       omega
      subst o9
      refine Qs ?_
      refine RO.mk (a+max t.l 1,bW xs (max t.l 1) a (es,ah),ga+1,out++[t],g+1,co2)
       [(1,.ptr 1 0 0),(3,.sl 7 (g+1) 0 (out.length+1) co2),(4,.ptr 3 0 0),(5,.ptr 5 0 0),(6,.fn (.func 37) [] [.ptr 1 0 0,.ptr 3 0 0,.ptr 5 0 0]),(7,.ptr 10 0 0)] _ ⟨by omega,lM,by rw[List.length_append];exact sV,by rw[List.length_append];show out.length+1≤_;omega,TV⟩ (show xs.length-(a+max t.l 1)<xs.length-a by omega)
       (aI rfl (aI rfl (aI rfl (aI rfl (aI rfl (aI rfl (trivial))))))) rfl (Vw.move (i:=6) (k:=10) rfl rfl rfl (aI oS.same (aI ?_ (aI oS.same (aI oS.same (aI oS.same (aI (.inr (.inr ⟨_,rfl,rfl⟩)) trivial))))))) (aI rfl (aI rfl (aI rfl (aI rfl (aI rfl (aI rfl (aI rfl (aI rfl (trivial)))))))))
      exact .inl (by rw[List.length_append];rfl)
   ·have rR:pU (xs.getD (bT c0 (a:Int).toNat 0 1+0) 0,xs.getD (bT c0 (a:Int).toNat 0 1+1) 0*256+xs.getD (bT c0 (a:Int).toNat 0 1+2) 0) (mm es)=none:=hv
    rw[hk,jR]at rR
    clear hv
    have hz:cf (pB xs a) es=none:=Option.map_eq_none_iff.1 rR
    clear rR
    rw[hz]at hB
    simp only[Option.getD_none,Int.toNat_zero]at hB
    rw[iC i2.ah a 0 0 _ (Nat.zero_le a) (Nat.le_refl 0)]at hB
    refine Qs ?_
    refine WO.go (σ:=Nat×Tk) (fun(p,t)=>p≤a∧eL xs ah a p p t=B) (fun(p,t)=>p)
     (fun(p,t)=>[(1,.ptr 1 0 0),(3,.sl 7 g 0 out.length co),(4,.ptr 3 0 0),(5,.ptr 5 0 0),(6,.fn (.func 37) [] [.ptr 1 0 0,.ptr 3 0 0,.ptr 5 0 0]),(7,.ptr 6 ga 0),(8,.ptr 8 0 0),(9,.fn (.func 38) [] [.ptr 1 0 0,.ptr 6 ga 0,.ptr 8 0 0]),(10,.int .i64 (p:Int))])
     (fun(p,t)=>Ee xs c c0 a (es,ah) ga out g co++[.one true 0 (.cells t.row)]) (0,⟨xs.getD a 0,0,0⟩) ae mixed (by kernel_rfl) ⟨Nat.zero_le a,hB⟩ (aI rfl (aI rfl (aI rfl (aI rfl (aI rfl (aI rfl (aI rfl (aI rfl (aI rfl (trivial)))))))))) (aI rfl (aI rfl (aI rfl (aI rfl (aI rfl (aI rfl (aI rfl (aI rfl (aI rfl (trivial)))))))))) (fun _=>rfl) (fun _=>rfl) (fun _=>Hn) ?_
    rintro⟨p,t⟩ ⟨j1,j2⟩ d2
    have Mb:=i2.ah (p-1)
    refine Qs ?_
    refine And.intro (fun r1=>?_) (fun r1=>?_)
    ·have hp:0<p:=by simp only[decide_eq_true_eq]at r1;omega
     refine Qs ?_
     refine And.intro (fun r2=>?_) (fun r2=>?_)
     ·have hd:a-(p-1)≤32768:=by simp only[decide_eq_true_eq]at r2;omega
      refine Qs ?_
      refine And.intro (fun r3=>?_) (fun r3=>?_)
      ·have hl:t.l<258:=by have r3:(t.l:Int)<258:=of_decide_eq_true r3;omega
       obtain⟨p,rfl⟩:∃p',p=p'+1:=⟨p-1,by omega⟩
       have e1:((p+1:Nat):Int)-1=(p:Int):=by omega
       rw[eL,if_pos ⟨hp,hd,hl⟩]at j2
       refine Qs ?_
       rw[e1]
       refine J7 (f:=p) hx (by omega) (by omega) (by omega) ?_
       have Mb:0≤ah.getD p 0∧ah.getD p 0≤(p:Int):=i2.ah p
       refine Qs ?_
       refine RO.same ((ah.getD p 0).toNat,xu xs a p t) ⟨by omega,?_⟩ (show(ah.getD p 0).toNat<p+1 by omega) (aI rfl (aI rfl (aI rfl (aI rfl (aI rfl (aI rfl (aI rfl (aI rfl (aI ?_ trivial))))))))) (aI rfl (aI rfl (aI rfl (aI rfl (aI rfl (aI rfl (aI rfl (aI rfl (aI rfl (trivial))))))))))
       ·rw[←j2]
        exact iC i2.ah _ _ _ _ (Nat.le_refl _) (by show(ah.getD p 0).toNat≤p;omega)
       ·show AV.int .i64 (ah.getD ((((p+1:Nat):Int)-1).toNat+0) 0)=.int .i64 (((ah.getD p 0).toNat:Nat):Int)
        rw[e1,Int.toNat_natCast,Int.toNat_of_nonneg Mb.1,Nat.add_zero]
      ·have hl:¬t.l<258:=by have r3:¬(t.l:Int)<258:=of_decide_eq_false r3;omega
       obtain⟨p,rfl⟩:∃p',p=p'+1:=⟨p-1,by omega⟩
       rw[eL,if_neg (fun x=>hl x.2.2)]at j2
       subst j2
       refine Qs ?_
       refine And.intro (fun q hq=>?_) ?_
       ·obtain rfl:q=0:=by have:q<1:=hq;omega
        exact⟨rfl,rfl⟩
       refine Qs ?_
       refine⟨fun j=>((out++[t]).getD j default).row,fun q hq=>?_,fun co2 sV=>?_⟩
       ·by_cases eW:q<out.length
        ·exact((dZ hq).trans (if_pos eW)).trans (if_pos eW).symm
        ·obtain rfl:q=out.length:=by have:q<out.length+1:=hq;omega
         refine((dZ hq).trans (if_neg eW)).trans (Eq.trans ?_ (if_neg eW).symm)
         rw[Nat.sub_self]
         rfl
       have hE:pH (out++[t]) co2=.cw 3 (out.length+1) (fun j=>((out++[t]).getD j default).row) co2:=by unfold pH;rw[List.length_append];rfl
       refine Qs ?_
       refine WO.go (σ:=Nat) (fun i=>i≤max t.l 1) (fun i=>max t.l 1-i)
        (fun i=>[(1,.ptr 1 0 0),(3,.sl 7 (g+1) 0 (out.length+1) co2),(4,.ptr 3 0 0),(5,.ptr 5 0 0),(6,.fn (.func 37) [] [.ptr 1 0 0,.ptr 3 0 0,.ptr 5 0 0]),(7,.ptr 6 ga 0),(69,.int .i64 (max (t.l:Int) 1)),(70,.int .i64 (i:Int))])
        (fun i=>Ee xs c c0 (a+i) (bW xs i a (es,ah)) ga (out++[t]) (g+1) co2++[AO.gone,AO.gone]) 0 ae mixed (by kernel_rfl) (Nat.zero_le _) (aI rfl (aI rfl (aI rfl (aI rfl (aI rfl (aI rfl (aI rfl (aI rfl (trivial))))))))) (aI rfl (aI rfl (aI rfl (aI rfl (aI rfl (aI rfl (aI rfl (aI (congrArg (AO.one true (g+1)) hE) (aI trivial (aI trivial trivial)))))))))) (fun _=>rfl) (fun _=>rfl) (fun _=>mn) ?_
       intro k k1 d3
       have k1:k≤max t.l 1:=k1
       have lM:pW xs (a+k) (bW xs k a (es,ah)):=pW.notes k a i2
       have hle:t.l≤258∧a+t.l≤xs.length:=Ut.le
       refine Qs ?_
       refine And.intro (fun q5=>?_) (fun q5=>?_)
       ·have o9:k<max t.l 1:=by
         have q5:(k:Int)<max (t.l:Int) 1:=of_decide_eq_true q5
         omega
        refine Qs ?_
        refine ml (i:=a+k) (E:=[.one true ga (.cells [.int .i64 ((a+k:Nat):Int)]),.one true (g+1) (pH (out++[t]) co2),.gone,.gone]) hx hc xk hb (by omega) lM ?_
        rw[←dG]
        refine Qs ?_
        refine RO.same (k+1) (show k+1≤max t.l 1 from o9) (show max t.l 1-(k+1)<max t.l 1-k from Nat.sub_lt_sub_left o9 (Nat.lt_succ_self k)) (aI rfl (aI rfl (aI rfl (aI rfl (aI rfl (aI rfl (aI rfl (aI rfl (trivial))))))))) (aI rfl (aI rfl (aI rfl (aI rfl (aI rfl (aI rfl (aI rfl (aI rfl (aI trivial (aI trivial (trivial)))))))))))
       ·have o9:k=max t.l 1:=by
         have q5:¬(k:Int)<max (t.l:Int) 1:=of_decide_eq_false q5
         omega
        subst o9
        refine Qs ?_
        refine RO.mk (a+max t.l 1,bW xs (max t.l 1) a (es,ah),ga+1,out++[t],g+1,co2)
         [(1,.ptr 1 0 0),(3,.sl 7 (g+1) 0 (out.length+1) co2),(4,.ptr 3 0 0),(5,.ptr 5 0 0),(6,.fn (.func 37) [] [.ptr 1 0 0,.ptr 3 0 0,.ptr 5 0 0]),(7,.ptr 10 0 0)] _ ⟨by omega,lM,by rw[List.length_append];exact sV,by rw[List.length_append];show out.length+1≤_;omega,TV⟩ (show xs.length-(a+max t.l 1)<xs.length-a by omega)
         (aI rfl (aI rfl (aI rfl (aI rfl (aI rfl (aI rfl (trivial))))))) rfl (Vw.move (i:=6) (k:=10) rfl rfl rfl (aI oS.same (aI ?_ (aI oS.same (aI oS.same (aI oS.same (aI (.inr (.inr ⟨_,rfl,rfl⟩)) trivial))))))) (aI rfl (aI rfl (aI rfl (aI rfl (aI rfl (aI rfl (aI rfl (aI rfl (trivial)))))))))
        exact .inl (by rw[List.length_append];rfl)
     ·have hd:¬a-(p-1)≤32768:=by have r2:¬(a:Int)-((p:Int)-1)≤32768:=of_decide_eq_false r2;omega
      obtain⟨p,rfl⟩:∃p',p=p'+1:=⟨p-1,by omega⟩
      rw[eL,if_neg (fun x=>hd x.2.1)]at j2
      subst j2
      refine Qs ?_
      refine And.intro (fun q hq=>?_) ?_
      ·obtain rfl:q=0:=by have:q<1:=hq;omega
       exact⟨rfl,rfl⟩
      refine Qs ?_
      refine⟨fun j=>((out++[t]).getD j default).row,fun q hq=>?_,fun co2 sV=>?_⟩
      ·by_cases eW:q<out.length
       ·exact((dZ hq).trans (if_pos eW)).trans (if_pos eW).symm
       ·obtain rfl:q=out.length:=by have:q<out.length+1:=hq;omega
        refine((dZ hq).trans (if_neg eW)).trans (Eq.trans ?_ (if_neg eW).symm)
        rw[Nat.sub_self]
        rfl
      have hE:pH (out++[t]) co2=.cw 3 (out.length+1) (fun j=>((out++[t]).getD j default).row) co2:=by unfold pH;rw[List.length_append];rfl
      refine Qs ?_
      refine WO.go (σ:=Nat) (fun i=>i≤max t.l 1) (fun i=>max t.l 1-i)
       (fun i=>[(1,.ptr 1 0 0),(3,.sl 7 (g+1) 0 (out.length+1) co2),(4,.ptr 3 0 0),(5,.ptr 5 0 0),(6,.fn (.func 37) [] [.ptr 1 0 0,.ptr 3 0 0,.ptr 5 0 0]),(7,.ptr 6 ga 0),(69,.int .i64 (max (t.l:Int) 1)),(70,.int .i64 (i:Int))])
       (fun i=>Ee xs c c0 (a+i) (bW xs i a (es,ah)) ga (out++[t]) (g+1) co2++[AO.gone,AO.gone]) 0 ae mixed (by kernel_rfl) (Nat.zero_le _) (aI rfl (aI rfl (aI rfl (aI rfl (aI rfl (aI rfl (aI rfl (aI rfl (trivial))))))))) (aI rfl (aI rfl (aI rfl (aI rfl (aI rfl (aI rfl (aI rfl (aI (congrArg (AO.one true (g+1)) hE) (aI trivial (aI trivial trivial)))))))))) (fun _=>rfl) (fun _=>rfl) (fun _=>mn) ?_
      intro k k1 d3
      have k1:k≤max t.l 1:=k1
      have lM:pW xs (a+k) (bW xs k a (es,ah)):=pW.notes k a i2
      have hle:t.l≤258∧a+t.l≤xs.length:=Ut.le
      refine Qs ?_
      refine And.intro (fun q5=>?_) (fun q5=>?_)
      ·have o9:k<max t.l 1:=by
        have q5:(k:Int)<max (t.l:Int) 1:=of_decide_eq_true q5
        omega
       refine Qs ?_
       refine ml (i:=a+k) (E:=[.one true ga (.cells [.int .i64 ((a+k:Nat):Int)]),.one true (g+1) (pH (out++[t]) co2),.gone,.gone]) hx hc xk hb (by omega) lM ?_
       rw[←dG]
       refine Qs ?_
       refine RO.same (k+1) (show k+1≤max t.l 1 from o9) (show max t.l 1-(k+1)<max t.l 1-k from Nat.sub_lt_sub_left o9 (Nat.lt_succ_self k)) (aI rfl (aI rfl (aI rfl (aI rfl (aI rfl (aI rfl (aI rfl (aI rfl (trivial))))))))) (aI rfl (aI rfl (aI rfl (aI rfl (aI rfl (aI rfl (aI rfl (aI rfl (aI trivial (aI trivial (trivial)))))))))))
      ·have o9:k=max t.l 1:=by
        have q5:¬(k:Int)<max (t.l:Int) 1:=of_decide_eq_false q5
        omega
       subst o9
       refine Qs ?_
       refine RO.mk (a+max t.l 1,bW xs (max t.l 1) a (es,ah),ga+1,out++[t],g+1,co2)
        [(1,.ptr 1 0 0),(3,.sl 7 (g+1) 0 (out.length+1) co2),(4,.ptr 3 0 0),(5,.ptr 5 0 0),(6,.fn (.func 37) [] [.ptr 1 0 0,.ptr 3 0 0,.ptr 5 0 0]),(7,.ptr 10 0 0)] _ ⟨by omega,lM,by rw[List.length_append];exact sV,by rw[List.length_append];show out.length+1≤_;omega,TV⟩ (show xs.length-(a+max t.l 1)<xs.length-a by omega)
        (aI rfl (aI rfl (aI rfl (aI rfl (aI rfl (aI rfl (trivial))))))) rfl (Vw.move (i:=6) (k:=10) rfl rfl rfl (aI oS.same (aI ?_ (aI oS.same (aI oS.same (aI oS.same (aI (.inr (.inr ⟨_,rfl,rfl⟩)) trivial))))))) (aI rfl (aI rfl (aI rfl (aI rfl (aI rfl (aI rfl (aI rfl (aI rfl (trivial)))))))))
       exact .inl (by rw[List.length_append];rfl)
    ·have hp:p=0:=by have r1:¬(0:Int)<(p:Int):=of_decide_eq_false r1;omega
     subst hp
     have j2:t=B:=j2
     subst j2
     refine Qs ?_
     refine And.intro (fun q hq=>?_) ?_
     ·obtain rfl:q=0:=by have:q<1:=hq;omega
      exact⟨rfl,rfl⟩
     refine Qs ?_
     refine⟨fun j=>((out++[t]).getD j default).row,fun q hq=>?_,fun co2 sV=>?_⟩
     ·by_cases eW:q<out.length
      ·exact((dZ hq).trans (if_pos eW)).trans (if_pos eW).symm
      ·obtain rfl:q=out.length:=by have:q<out.length+1:=hq;omega
       refine((dZ hq).trans (if_neg eW)).trans (Eq.trans ?_ (if_neg eW).symm)
       rw[Nat.sub_self]
       rfl
     have hE:pH (out++[t]) co2=.cw 3 (out.length+1) (fun j=>((out++[t]).getD j default).row) co2:=by unfold pH;rw[List.length_append];rfl
     refine Qs ?_
     refine WO.go (σ:=Nat) (fun i=>i≤max t.l 1) (fun i=>max t.l 1-i)
      (fun i=>[(1,.ptr 1 0 0),(3,.sl 7 (g+1) 0 (out.length+1) co2),(4,.ptr 3 0 0),(5,.ptr 5 0 0),(6,.fn (.func 37) [] [.ptr 1 0 0,.ptr 3 0 0,.ptr 5 0 0]),(7,.ptr 6 ga 0),(69,.int .i64 (max (t.l:Int) 1)),(70,.int .i64 (i:Int))])
      (fun i=>Ee xs c c0 (a+i) (bW xs i a (es,ah)) ga (out++[t]) (g+1) co2++[AO.gone,AO.gone]) 0 ae mixed (by kernel_rfl) (Nat.zero_le _) (aI rfl (aI rfl (aI rfl (aI rfl (aI rfl (aI rfl (aI rfl (aI rfl (trivial))))))))) (aI rfl (aI rfl (aI rfl (aI rfl (aI rfl (aI rfl (aI rfl (aI (congrArg (AO.one true (g+1)) hE) (aI trivial (aI trivial trivial)))))))))) (fun _=>rfl) (fun _=>rfl) (fun _=>mn) ?_
     intro k k1 d3
     have k1:k≤max t.l 1:=k1
     have lM:pW xs (a+k) (bW xs k a (es,ah)):=pW.notes k a i2
     have hle:t.l≤258∧a+t.l≤xs.length:=Ut.le
     refine Qs ?_
     refine And.intro (fun q5=>?_) (fun q5=>?_)
     ·have o9:k<max t.l 1:=by
       have q5:(k:Int)<max (t.l:Int) 1:=of_decide_eq_true q5
       omega
      refine Qs ?_
      refine ml (i:=a+k) (E:=[.one true ga (.cells [.int .i64 ((a+k:Nat):Int)]),.one true (g+1) (pH (out++[t]) co2),.gone,.gone]) hx hc xk hb (by omega) lM ?_
      rw[←dG]
      refine Qs ?_
      refine RO.same (k+1) (show k+1≤max t.l 1 from o9) (show max t.l 1-(k+1)<max t.l 1-k from Nat.sub_lt_sub_left o9 (Nat.lt_succ_self k)) (aI rfl (aI rfl (aI rfl (aI rfl (aI rfl (aI rfl (aI rfl (aI rfl (trivial))))))))) (aI rfl (aI rfl (aI rfl (aI rfl (aI rfl (aI rfl (aI rfl (aI rfl (aI trivial (aI trivial (trivial)))))))))))
     ·have o9:k=max t.l 1:=by
       have q5:¬(k:Int)<max (t.l:Int) 1:=of_decide_eq_false q5
       omega
      subst o9
      refine Qs ?_
      refine RO.mk (a+max t.l 1,bW xs (max t.l 1) a (es,ah),ga+1,out++[t],g+1,co2)
       [(1,.ptr 1 0 0),(3,.sl 7 (g+1) 0 (out.length+1) co2),(4,.ptr 3 0 0),(5,.ptr 5 0 0),(6,.fn (.func 37) [] [.ptr 1 0 0,.ptr 3 0 0,.ptr 5 0 0]),(7,.ptr 10 0 0)] _ ⟨by omega,lM,by rw[List.length_append];exact sV,by rw[List.length_append];show out.length+1≤_;omega,TV⟩ (show xs.length-(a+max t.l 1)<xs.length-a by omega)
       (aI rfl (aI rfl (aI rfl (aI rfl (aI rfl (aI rfl (trivial))))))) rfl (Vw.move (i:=6) (k:=10) rfl rfl rfl (aI oS.same (aI ?_ (aI oS.same (aI oS.same (aI oS.same (aI (.inr (.inr ⟨_,rfl,rfl⟩)) trivial))))))) (aI rfl (aI rfl (aI rfl (aI rfl (aI rfl (aI rfl (aI rfl (aI rfl (trivial)))))))))
      exact .inl (by rw[List.length_append];rfl)
  ·have h3:¬a+3≤xs.length:=by simp only[decide_eq_false_iff_not]at q2;omega
   rw[if_neg h3]at hB
   have j2:(⟨xs.getD a 0,0,0⟩:Tk)=B:=hB
   subst j2
   refine Qs ?_
   refine And.intro (fun q hq=>?_) ?_
   ·obtain rfl:q=0:=by have:q<1:=hq;omega
    exact⟨rfl,rfl⟩
   refine Qs ?_
   refine⟨fun j=>((out++[(⟨xs.getD a 0,0,0⟩:Tk)]).getD j default).row,fun q hq=>?_,fun co2 sV=>?_⟩
   ·by_cases eW:q<out.length
    ·exact((dZ hq).trans (if_pos eW)).trans (if_pos eW).symm
    ·obtain rfl:q=out.length:=by have:q<out.length+1:=hq;omega
     refine((dZ hq).trans (if_neg eW)).trans (Eq.trans ?_ (if_neg eW).symm)
     rw[Nat.sub_self]
     rfl
   have hE:pH (out++[(⟨xs.getD a 0,0,0⟩:Tk)]) co2=.cw 3 (out.length+1) (fun j=>((out++[(⟨xs.getD a 0,0,0⟩:Tk)]).getD j default).row) co2:=by unfold pH;rw[List.length_append];rfl
   refine Qs ?_
   refine WO.go (σ:=Nat) (fun i=>i≤max (⟨xs.getD a 0,0,0⟩:Tk).l 1) (fun i=>max (⟨xs.getD a 0,0,0⟩:Tk).l 1-i)
    (fun i=>[(1,.ptr 1 0 0),(3,.sl 7 (g+1) 0 (out.length+1) co2),(4,.ptr 3 0 0),(5,.ptr 5 0 0),(6,.fn (.func 37) [] [.ptr 1 0 0,.ptr 3 0 0,.ptr 5 0 0]),(7,.ptr 6 ga 0),(69,.int .i64 (max ((⟨xs.getD a 0,0,0⟩:Tk).l:Int) 1)),(70,.int .i64 (i:Int))])
    (fun i=>Ee xs c c0 (a+i) (bW xs i a (es,ah)) ga (out++[(⟨xs.getD a 0,0,0⟩:Tk)]) (g+1) co2++[AO.gone,AO.gone]) 0 ae mixed (by kernel_rfl) (Nat.zero_le _) (aI rfl (aI rfl (aI rfl (aI rfl (aI rfl (aI rfl (aI rfl (aI rfl (trivial))))))))) (aI rfl (aI rfl (aI rfl (aI rfl (aI rfl (aI rfl (aI rfl (aI (congrArg (AO.one true (g+1)) hE) (aI trivial (aI trivial trivial)))))))))) (fun _=>rfl) (fun _=>rfl) (fun _=>mn) ?_
   intro k k1 d3
   have k1:k≤max (⟨xs.getD a 0,0,0⟩:Tk).l 1:=k1
   have lM:pW xs (a+k) (bW xs k a (es,ah)):=pW.notes k a i2
   have hle:(⟨xs.getD a 0,0,0⟩:Tk).l≤258∧a+(⟨xs.getD a 0,0,0⟩:Tk).l≤xs.length:=Ut.le
   refine Qs ?_
   refine And.intro (fun q5=>?_) (fun q5=>?_)
   ·have o9:k<max (⟨xs.getD a 0,0,0⟩:Tk).l 1:=by
     have q5:(k:Int)<max ((⟨xs.getD a 0,0,0⟩:Tk).l:Int) 1:=of_decide_eq_true q5
     omega
    refine Qs ?_
    refine ml (i:=a+k) (E:=[.one true ga (.cells [.int .i64 ((a+k:Nat):Int)]),.one true (g+1) (pH (out++[(⟨xs.getD a 0,0,0⟩:Tk)]) co2),.gone,.gone]) hx hc xk hb (by omega) lM ?_
    rw[←dG]
    refine Qs ?_
    refine RO.same (k+1) (show k+1≤max (⟨xs.getD a 0,0,0⟩:Tk).l 1 from o9) (show max (⟨xs.getD a 0,0,0⟩:Tk).l 1-(k+1)<max (⟨xs.getD a 0,0,0⟩:Tk).l 1-k from Nat.sub_lt_sub_left o9 (Nat.lt_succ_self k)) (aI rfl (aI rfl (aI rfl (aI rfl (aI rfl (aI rfl (aI rfl (aI rfl (trivial))))))))) (aI rfl (aI rfl (aI rfl (aI rfl (aI rfl (aI rfl (aI rfl (aI rfl (aI trivial (aI trivial (trivial)))))))))))
   ·have o9:k=max (⟨xs.getD a 0,0,0⟩:Tk).l 1:=by
     have q5:¬(k:Int)<max ((⟨xs.getD a 0,0,0⟩:Tk).l:Int) 1:=of_decide_eq_false q5
     omega
    subst o9
    refine Qs ?_
    refine RO.mk (a+max (⟨xs.getD a 0,0,0⟩:Tk).l 1,bW xs (max (⟨xs.getD a 0,0,0⟩:Tk).l 1) a (es,ah),ga+1,out++[(⟨xs.getD a 0,0,0⟩:Tk)],g+1,co2)
     [(1,.ptr 1 0 0),(3,.sl 7 (g+1) 0 (out.length+1) co2),(4,.ptr 3 0 0),(5,.ptr 5 0 0),(6,.fn (.func 37) [] [.ptr 1 0 0,.ptr 3 0 0,.ptr 5 0 0]),(7,.ptr 10 0 0)] _ ⟨by omega,lM,by rw[List.length_append];exact sV,by rw[List.length_append];show out.length+1≤_;omega,TV⟩ (show xs.length-(a+max (⟨xs.getD a 0,0,0⟩:Tk).l 1)<xs.length-a by omega)
     (aI rfl (aI rfl (aI rfl (aI rfl (aI rfl (aI rfl (trivial))))))) rfl (Vw.move (i:=6) (k:=10) rfl rfl rfl (aI oS.same (aI ?_ (aI oS.same (aI oS.same (aI oS.same (aI (.inr (.inr ⟨_,rfl,rfl⟩)) trivial))))))) (aI rfl (aI rfl (aI rfl (aI rfl (aI rfl (aI rfl (aI rfl (aI rfl (trivial)))))))))
    exact .inl (by rw[List.length_append];rfl)
 ·have ha:a=xs.length:=by have q1:¬(a:Int)<(xs.length:Int):=of_decide_eq_false q1;omega
  have ho:out=cI xs:=by rw[←i5,show xs.length-a=0 by omega];rfl
  refine Qs ?_
  refine⟨[.dE 0,.own 7],.sl 1 g 0 out.length co,[.one false 0 (.ints .u8 xs c),.one true g (pH out co)],⟨⟨⟨rfl,_,rfl,rfl⟩,⟨rfl,rfl⟩,trivial⟩,rfl,⟨trivial,fun j=>rfl,trivial⟩,rfl,fun i hi=>?_⟩,?_⟩
  ·match i,hi with
   |0,_=>exact .inr rfl
  ·subst ho
   exact h g co i3
end
end Go.Proofs.Ytibadaomjlkoaaa
open Go.RowKit
namespace Go.Proofs.Ytibadaomjlkoaaa
set_option maxRecDepth 10000
structure WX where
 t:AV
 a:AV
 d:AV
 gT:Nat
 gA:Nat
 gD:Nat
 cT:af
 cA:af
 cD:af
 nb:AV.qi 5 [t,a,d]=true∧cT.nb 5∧cA.nb 5∧cD.nb 5
 Zb:AV.qi 6 [t,a,d]=true∧cT.nb 6∧cA.nb 6∧cD.nb 6
def Nr (X:WX)(g:Nat)(c:Nat)(xs:List Int)(a n:Int):AH:=[.one true 0 (.cells [.sl 1 g 0 xs.length c,.int .u32 a,.int .i64 n,X.t,X.a,X.d]),.one true g (.ints .u8 xs c),.one true X.gT X.cT,.one true X.gA X.cA,.one true X.gD X.cD]
def ic (X:WX)(row:List Bool)(g c:Nat):AH:=Nr X g c (aU row) (num (rest row)) ((row.length%8:Nat):Int)
theorem WX.ok (X:WX){g c:Nat}{xs:List Int}{a n:Int}:kq 5 (Nr X g c xs a n):=⟨X.nb.1,trivial,X.nb.2.1,X.nb.2.2.1,X.nb.2.2.2,trivial⟩
theorem WX.K2 (X:WX){row:List Bool}{g c g' c':Nat}{ys:List Int}:kq 6 (ic X row g c++[.one true g' (.ints .u8 ys c')]):=⟨X.Zb.1,trivial,X.Zb.2.1,X.Zb.2.2.1,X.Zb.2.2.2,trivial,trivial⟩
section
variable{X:WX}
theorem I2 {g c:Nat}{xs:List Int}{a n:Int}(hn:0≤n∧n<8)(hl:xs.length≤1048576){K Kp:AV→AH→Prop}
 (h:K (.int .i64 (8*xs.length+n)) (Nr X g c xs a n)):aa Try.prog 68 [.ptr 0 0 0] (Nr X g c xs a n) K Kp:=by
 refine RL (fun _=>[0]) [] rfl ?_
 repeat(refine And.intro (by first|exact rfl|omega) ?_)
 exact h
theorem I5 {xs:List Int}{v a n k:Int}{g c:Nat}(hn:0≤n∧n<8)(hk:0≤k∧k≤32)(hl:xs.length≤1048576)(Zf:xs.length≤c){Kp}:
 aa Try.prog 66 [.ptr 0 0 0,.int .u32 v,.int .i64 k] (Nr X g c xs a n)
  (fun r M=>∃g' c' GH a' n',r=.aE []∧M=Nr X g' c' GH a' n'∧GH.length≤c'∧Cv xs (cG .or .u32 a (bg .u32 v n)) (n+k) ((n+k).toNat/8)=(GH,a',n')) Kp:=by
 refine RN (fun _=>[0]) [] rfl ?_
 repeat(refine And.intro (by first|exact rfl|omega) ?_)
 refine WA.loop (σ:=Nat×Nat×List Int×Int×Int) (fun(g',c',GH,a',n')=>GH.length≤c'∧0≤n'∧n'≤40∧GH.length*8+n'≤8*xs.length+40∧Cv xs (cG .or .u32 a (bg .u32 v n)) (n+k) ((n+k).toNat/8)=Cv GH a' n' (n'.toNat/8))
  (fun(g',c',GH,a',n')=>n'.toNat) (fun _=>[(0,.ptr 0 0 0)]) (fun(g',c',GH,a',n')=>Nr X g' c' GH a' n') (g,c,xs,cG .or .u32 a (bg .u32 v n),n+k) ae mixed (by kernel_rfl)
  ⟨?_,⟨rfl,trivial⟩,⟨rfl,rfl,rfl,rfl,rfl,trivial⟩⟩ (fun _=>rfl) (fun _=>rfl) (fun _=>X.ok) ?_
 ·refine⟨by omega,by omega,by omega,by omega,rfl⟩
 ·rintro⟨g',c',GH,a',n'⟩ ⟨h0,h1,h2,h3,h4⟩ d
  repeat(refine And.intro (by first|exact rfl|omega) ?_)
  refine And.intro (fun hc=>?_) (fun hc=>?_)
  ·simp only[decide_eq_true_eq]at hc
   repeat(refine And.intro (by first|exact rfl|exact Nat.le_of_ble_eq_true rfl|omega) ?_)
   intro ys sP
   obtain rfl:ys=[a'%256]:=sP
   repeat(refine And.intro (by first|exact rfl|omega|(dsimp only;omega)) ?_)
   intro c1 pD
   repeat(refine And.intro (by first|exact rfl|omega) ?_)
   refine⟨(g'+1,c1,GH++[a'%256],bS .u32 a' 8,n'-8),⟨⟨by simp;omega,by omega,by omega,by simp;omega,?_⟩,by simp only;omega⟩,⟨rfl,trivial⟩,⟨?_,rfl,rfl,rfl,rfl,trivial⟩⟩
   ·rw[h4,show n'.toNat/8=(n'-8).toNat/8+1 from by omega];rfl
   ·simp only[Nr,List.length_append,List.length_cons,List.length_nil];rfl
  ·simp only[decide_eq_false_iff_not]at hc
   refine⟨g',c',GH,a',n',rfl,rfl,h0,?_⟩
   have:n'.toNat/8=0:=by omega
   rw[h4,this];rfl
theorem yx {row:List Bool}{v n:Int}{g c:Nat}(hv:0≤v)(hr:row.length≤8388608)(hc:(aU row).length≤c){Kp}:
 aa Try.prog 40 [.ptr 0 0 0,.int .u32 v,.int .i64 n] (ic X row g c)
  (fun r M=>∃g' c',r=.int .i64 (j6 row v n).2∧M=ic X (j6 row v n).1 g' c'∧(aU (j6 row v n).1).length≤c'∧(j6 row v n).1.length≤8388608) Kp:=by
 have cg:=mh row
 refine RT (fun _=>[0]) [] rfl ?_
 repeat(refine And.intro (by first|exact rfl|omega) ?_)
 refine Cp fun b hb=>?_
 rw[Ho hv]at hb
 have EB:Ao v n=b:=by cases b<;>cases hm:Ao v n<;>simp_all
 clear hb
 refine And.intro (fun h1=>?_) (fun h1=>?_)
 ·have iA:b=false:=by simpa using h1
  subst iA
  have e:j6 row v n=(row,1):=by simp[j6,EB]
  rw[e]
  exact⟨g,c,rfl,rfl,hc,hr⟩
 ·have iA:b=true:=by simpa using h1
  subst iA
  have hm:=EB
  simp only[Ao,decide_eq_true_eq]at hm
  refine I2 (by omega) (by omega) ?_
  repeat(refine And.intro (by first|exact rfl|omega) ?_)
  have hlen:(8*((aU row).length:Int)+((row.length%8:Nat):Int))=row.length:=by rw[cg];omega
  refine And.intro (fun h2=>?_) (fun h2=>?_)
  ·simp only[decide_eq_true_eq]at h2
   rw[hlen]at h2
   have e:j6 row v n=(row,2):=by simp[j6,EB,h2]
   rw[e]
   exact⟨g,c,rfl,rfl,hc,hr⟩
  ·simp only[decide_eq_false_iff_not]at h2
   rw[hlen]at h2
   refine aa.mono (I5 (by omega) (by omega) (by omega) hc) ?_ (fun _ _ h=>h)
   rintro r M ⟨g',c',GH,a',n',rfl,rfl,Zf,hL⟩
   obtain⟨k,rfl⟩:=Int.eq_ofNat_of_zero_le hm.1
   rw[show(((row.length%8:Nat):Int)+(k:Int)).toNat/8=(row.length%8+k)/8 from by omega,Lq row v k (by omega) hv (by simpa using hm.2.2)]at hL
   injection hL with e1 e2;injection e2 with e2 e3
   subst e1;subst e2;subst e3
   have e:j6 row v k=(row++bitsOf v k,0):=by simp only[j6,EB,Int.toNat_natCast];rw[if_neg (by simp),if_neg (by omega)]
   rw[e]
   exact⟨g',c',rfl,rfl,Zf,by simp[ak];omega⟩
theorem C6 {row:List Bool}{g c:Nat}(hr:row.length≤8388608)(hc:(aU row).length≤c){Kp}:
 aa Try.prog 18 [.ptr 0 0 0] (ic X row g c)
  (fun r M=>∃g' c',r=.sl 5 g' 0 (bC row).length c'∧M=ic X row g c++[.one true g' (.ints .u8 (bC row) c')]∧(bC row).length≤c') Kp:=by
 have cg:=mh row
 refine aa.bI ?_
 refine RX (fun _=>[0]) [] rfl ?_
 repeat(refine And.intro (by first|exact rfl|omega) ?_)
 refine aa.lift [.cP 1 g 0] (wS (xs:=aU row) (c0:=c) (c:=c) (Kp:=fun _ _=>False) (by omega)) rfl rfl ⟨⟨_,_,_,rfl,ao rfl,cq.same rfl (fun h=>h)⟩,trivial⟩ ⟨trivial,trivial⟩ ?_ (fun _ _ h=>h.elim)
 rintro r M ⟨g',c',rfl,rfl,nU⟩
 refine⟨⟨rfl,rfl⟩,?_⟩
 repeat(refine And.intro (by first|exact rfl|omega) ?_)
 refine And.intro (fun h1=>?_) (fun h1=>?_)
 ·simp only[decide_eq_true_eq]at h1
  repeat(refine And.intro (by first|exact rfl|exact Nat.le_of_ble_eq_true rfl|exact⟨rfl,rfl,rfl,Nat.le_refl _,nU⟩|omega) ?_)
  intro ys sP
  obtain rfl:ys=[num (rest row)%256]:=sP
  repeat(refine And.intro (by first|exact rfl|omega|(dsimp only;omega)) ?_)
  intro c1 pD
  have h8:¬row.length%8=0:=by omega
  have bh:=fU (rest row)
  rw[ko]at bh
  have Uw:(2:Int)^(row.length%8)≤2^7:=by exact_mod_cast Nat.pow_le_pow_right (by omega) (by omega)
  have hm:num (rest row)%256=num (rest row):=Int.emod_eq_of_lt (num_nonneg _) (by omega)
  have hb:bC row=aU row++[num (rest row)%256]:=by simp[bC,h8,hm]
  refine⟨ic X row g c++[AO.one true (g'+1) (.ints .u8 (aU row++[num (rest row)%256]) c1)],(aI rfl (aI rfl (aI rfl (aI rfl (aI rfl (aI rfl trivial)))))),X.K2,rfl,g'+1,c1,?_,?_,?_⟩
  ·rw[hb,List.length_append];rfl
  ·rw[hb]
  ·rw[hb,List.length_append];exact pD
 ·simp only[decide_eq_false_iff_not]at h1
  have hb:bC row=aU row:=by
   have:row.length%8=0:=by omega
   simp[bC,this]
  rw[hb]
  exact⟨ic X row g c++[AO.one true g' (.ints .u8 (aU row) c')],(aI rfl (aI rfl (aI rfl (aI rfl (aI rfl (aI rfl trivial)))))),X.K2,rfl,g',c',rfl,rfl,nU⟩
end
end Go.Proofs.Ytibadaomjlkoaaa
open Go.RowKit
namespace Go.Proofs.Ytibadaomjlkoaaa
set_option maxRecDepth 10000
def dX (ts:List Tk)(gt ct:Nat)(A:List Int)(ga ca:Nat)(D:List Int)(gd cd:Nat):WX:=
 ⟨.sl 2 gt 0 ts.length ct,.sl 3 ga 0 A.length ca,.sl 4 gd 0 D.length cd,gt,ga,gd,pH ts ct,.ints .u8 A ca,.ints .u8 D cd,⟨rfl,Kb _ _ _,trivial,trivial⟩,⟨rfl,Kb _ _ _,trivial,trivial⟩⟩
section
variable{K Kp:AV→AH→Prop}{X:WX}{row:List Bool}{g c:Nat}
theorem H0 (E:AH){f:Nat}{args:List AV}(h:aa Try.prog f args (ic X row g c) (fun r M=>∃g' c' xD,M=ic X xD g' c'∧r.nb 5=true∧K r (M++E)) (fun _ _=>False))
 (ha:AV.qi 5 args=true):aa Try.prog f args (ic X row g c++E) K Kp:=by
 refine aa.frame E h ha X.ok (fun o ho=>?_) ?_ (fun _ _ h=>h.elim)
 ·simp only[ic,Nr,List.mem_cons,List.not_mem_nil,or_false]at ho
  rcases ho with rfl|rfl|rfl|rfl|rfl<;>rfl
 ·rintro r M' ⟨g',c',xD,rfl,h1,h2⟩
  exact⟨rfl,⟨rfl,rfl,rfl,rfl,rfl,rfl⟩,X.ok,h1,h2⟩
theorem me (E:AH){v n:Int}(hv:0≤v)(hr:row.length≤8388608)(hc:(aU row).length≤c)
 (h:∀g' c',(aU (j6 row v n).1).length≤c'→(j6 row v n).1.length≤8388608→K (.int .i64 (j6 row v n).2) (ic X (j6 row v n).1 g' c'++E)):
 aa Try.prog 40 [.ptr 0 0 0,.int .u32 v,.int .i64 n] (ic X row g c++E) K Kp:=by
 refine H0 E (aa.mono (yx (X:=X) (Kp:=fun _ _=>False) hv hr hc) ?_ (fun _ _ h=>h)) rfl
 rintro r M ⟨g',c',rfl,rfl,h1,h2⟩
 exact⟨g',c',_,rfl,rfl,h g' c' h1 h2⟩
def codeF (row:List Bool)(cs ls:List Int)(s:Nat)(ex n:Int):List Bool:=(j6 (j6 row (cs.getD s 0) (ls.getD s 0)).1 ex n).1
end
section
variable{K Kp:AV→AH→Prop}{row:List Bool}{g c:Nat}{ts:List Tk}{gt ct:Nat}{A:List Int}{ga ca:Nat}{D:List Int}{gd cd:Nat}
theorem JH {cs ls:List Int}{c1 c2 c3 c4 s:Nat}{ex n:Int}(fW:s<cs.length)(pC:s<ls.length)(xj:0≤cs.getD s 0∧cs.getD s 0<65536)(ED:0≤ls.getD s 0∧ls.getD s 0<256)(hex:0≤ex∧ex<4294967296)
 (hr:row.length≤8388608)(hc:(aU row).length≤c)
 (h:∀g' c',(aU (codeF row cs ls s ex n)).length≤c'→(codeF row cs ls s ex n).length≤8388608→K (.aE []) (ic (dX ts gt ct A ga ca D gd cd) (codeF row cs ls s ex n) g' c'++[.one false 0 (.ints .u16 cs c1),.one false 0 (.ints .u8 ls c2)])):
 aa Try.prog 48 [.ptr 0 0 0,.sl 5 0 0 cs.length c3,.sl 6 0 0 ls.length c4,.agg [.int .i64 (s:Int),.int .i64 ex,.int .i64 n]]
  (ic (dX ts gt ct A ga ca D gd cd) row g c++[.one false 0 (.ints .u16 cs c1),.one false 0 (.ints .u8 ls c2)]) K Kp:=by
 have WI:0≤ls.getD ((s:Int).toNat+0) 0∧ls.getD ((s:Int).toNat+0) 0<256:=ED
 have hm:cs.getD ((s:Int).toNat+0) 0%4294967296=cs.getD s 0:=by show cs.getD s 0%4294967296=cs.getD s 0;exact Int.emod_eq_of_lt xj.1 (by omega)
 have LO:ex%4294967296=ex:=Int.emod_eq_of_lt hex.1 hex.2
 refine aa.bI ?_
 refine DF (fun _=>[5,6,7]) [] rfl ?_
 refine Qs ?_
 refine me (X:=dX ts gt ct A ga ca D gd cd) [.one false 0 (.ints .u16 cs c1),.one false 0 (.ints .u8 ls c2),.one true 0 (.cells [.int .i64 (s:Int),.int .i64 ex,.int .i64 n])] (v:=cs.getD ((s:Int).toNat+0) 0%4294967296) (n:=ls.getD ((s:Int).toNat+0) 0) (by rw[hm];exact xj.1) hr hc (fun g1 c1' h1 h2=>?_)
 rw[hm]at h1 h2⊢
 refine Qs ?_
 refine me (X:=dX ts gt ct A ga ca D gd cd) [.one false 0 (.ints .u16 cs c1),.one false 0 (.ints .u8 ls c2),.one true 0 (.cells [.int .i64 (s:Int),.int .i64 ex,.int .i64 n])] (v:=ex%4294967296) (n:=n) (by rw[LO];exact hex.1) h2 h1 (fun g2 Rz h3 h4=>?_)
 rw[LO]at h3 h4⊢
 refine Qs ?_
 exact⟨ic (dX ts gt ct A ga ca D gd cd) (codeF row cs ls s ex n) g2 Rz++[AO.one false 0 (.ints .u16 cs c1),AO.one false 0 (.ints .u8 ls c2)],(aI rfl (aI rfl (aI rfl (aI rfl (aI rfl (aI rfl (aI rfl (trivial)))))))),⟨rfl,trivial,(fun j=>rfl),trivial,trivial,trivial,trivial,trivial⟩,rfl,h g2 Rz h3 h4⟩
theorem EZ {cs:List Int}{c1 c3 s:Nat}{ex n:Int}(fW:s<cs.length)(pC:s<A.length)(xj:0≤cs.getD s 0∧cs.getD s 0<65536)(ED:0≤A.getD s 0∧A.getD s 0<256)(hex:0≤ex∧ex<4294967296)
 (hr:row.length≤8388608)(hc:(aU row).length≤c)
 (h:∀g' c',(aU (codeF row cs A s ex n)).length≤c'→(codeF row cs A s ex n).length≤8388608→K (.aE []) (ic (dX ts gt ct A ga ca D gd cd) (codeF row cs A s ex n) g' c'++[.one false 0 (.ints .u16 cs c1)])):
 aa Try.prog 48 [.ptr 0 0 0,.sl 5 0 0 cs.length c3,.sl 3 ga 0 A.length ca,.agg [.int .i64 (s:Int),.int .i64 ex,.int .i64 n]]
  (ic (dX ts gt ct A ga ca D gd cd) row g c++[.one false 0 (.ints .u16 cs c1)]) K Kp:=by
 have WI:0≤A.getD ((s:Int).toNat+0) 0∧A.getD ((s:Int).toNat+0) 0<256:=ED
 have hm:cs.getD ((s:Int).toNat+0) 0%4294967296=cs.getD s 0:=by show cs.getD s 0%4294967296=cs.getD s 0;exact Int.emod_eq_of_lt xj.1 (by omega)
 have LO:ex%4294967296=ex:=Int.emod_eq_of_lt hex.1 hex.2
 refine aa.bI ?_
 refine DF (fun _=>[5,3,6]) [] rfl ?_
 refine Qs ?_
 refine me (X:=dX ts gt ct A ga ca D gd cd) [.one false 0 (.ints .u16 cs c1),.one true 0 (.cells [.int .i64 (s:Int),.int .i64 ex,.int .i64 n])] (v:=cs.getD ((s:Int).toNat+0) 0%4294967296) (n:=A.getD ((s:Int).toNat+0) 0) (by rw[hm];exact xj.1) hr hc (fun g1 c1' h1 h2=>?_)
 rw[hm]at h1 h2⊢
 refine Qs ?_
 refine me (X:=dX ts gt ct A ga ca D gd cd) [.one false 0 (.ints .u16 cs c1),.one true 0 (.cells [.int .i64 (s:Int),.int .i64 ex,.int .i64 n])] (v:=ex%4294967296) (n:=n) (by rw[LO];exact hex.1) h2 h1 (fun g2 Rz h3 h4=>?_)
 rw[LO]at h3 h4⊢
 refine Qs ?_
 exact⟨ic (dX ts gt ct A ga ca D gd cd) (codeF row cs A s ex n) g2 Rz++[AO.one false 0 (.ints .u16 cs c1)],(aI rfl (aI rfl (aI rfl (aI rfl (aI rfl (aI rfl (trivial))))))),⟨rfl,trivial,(fun j=>rfl),trivial,trivial,trivial,trivial⟩,rfl,h g2 Rz h3 h4⟩
theorem EY {cs:List Int}{c1 c3 s:Nat}{ex n:Int}(fW:s<cs.length)(pC:s<D.length)(xj:0≤cs.getD s 0∧cs.getD s 0<65536)(ED:0≤D.getD s 0∧D.getD s 0<256)(hex:0≤ex∧ex<4294967296)
 (hr:row.length≤8388608)(hc:(aU row).length≤c)
 (h:∀g' c',(aU (codeF row cs D s ex n)).length≤c'→(codeF row cs D s ex n).length≤8388608→K (.aE []) (ic (dX ts gt ct A ga ca D gd cd) (codeF row cs D s ex n) g' c'++[.one false 0 (.ints .u16 cs c1)])):
 aa Try.prog 48 [.ptr 0 0 0,.sl 5 0 0 cs.length c3,.sl 4 gd 0 D.length cd,.agg [.int .i64 (s:Int),.int .i64 ex,.int .i64 n]]
  (ic (dX ts gt ct A ga ca D gd cd) row g c++[.one false 0 (.ints .u16 cs c1)]) K Kp:=by
 have WI:0≤D.getD ((s:Int).toNat+0) 0∧D.getD ((s:Int).toNat+0) 0<256:=ED
 have hm:cs.getD ((s:Int).toNat+0) 0%4294967296=cs.getD s 0:=by show cs.getD s 0%4294967296=cs.getD s 0;exact Int.emod_eq_of_lt xj.1 (by omega)
 have LO:ex%4294967296=ex:=Int.emod_eq_of_lt hex.1 hex.2
 refine aa.bI ?_
 refine DF (fun _=>[5,4,6]) [] rfl ?_
 refine Qs ?_
 refine me (X:=dX ts gt ct A ga ca D gd cd) [.one false 0 (.ints .u16 cs c1),.one true 0 (.cells [.int .i64 (s:Int),.int .i64 ex,.int .i64 n])] (v:=cs.getD ((s:Int).toNat+0) 0%4294967296) (n:=D.getD ((s:Int).toNat+0) 0) (by rw[hm];exact xj.1) hr hc (fun g1 c1' h1 h2=>?_)
 rw[hm]at h1 h2⊢
 refine Qs ?_
 refine me (X:=dX ts gt ct A ga ca D gd cd) [.one false 0 (.ints .u16 cs c1),.one true 0 (.cells [.int .i64 (s:Int),.int .i64 ex,.int .i64 n])] (v:=ex%4294967296) (n:=n) (by rw[LO];exact hex.1) h2 h1 (fun g2 Rz h3 h4=>?_)
 rw[LO]at h3 h4⊢
 refine Qs ?_
 exact⟨ic (dX ts gt ct A ga ca D gd cd) (codeF row cs D s ex n) g2 Rz++[AO.one false 0 (.ints .u16 cs c1)],(aI rfl (aI rfl (aI rfl (aI rfl (aI rfl (aI rfl (trivial))))))),⟨rfl,trivial,(fun j=>rfl),trivial,trivial,trivial,trivial⟩,rfl,h g2 Rz h3 h4⟩
end
end Go.Proofs.Ytibadaomjlkoaaa
