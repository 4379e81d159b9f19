import Derived.Test.YtibadaomjlkoaaaGdh
import Derived.Test.YtibadaomjlkoaaaGx
import Derived.Test.YtibadaomjlkoaaaGb
set_option linter.unusedVariables false
set_option linter.unusedSimpArgs false
open Go.RowKit
namespace Go.Proofs.Ytibadaomjlkoaaa
set_option maxRecDepth 10000
section
variable{K Kp:AV→AH→Prop}{xs:List Int}{c c0:Nat}
theorem BF {f a:Nat}(hx:xs.length≤1000000)(hf:f≤a)(ha:a≤xs.length)(h:K (.int .i64 (qw xs f a:Nat)) [.one false 0 (.ints .u8 xs c)]):
 aa Try.prog 39 [.sl 0 0 0 xs.length c0,.int .i64 (f:Int),.int .i64 (a:Int)] [.one false 0 (.ints .u8 xs c)] K Kp:=by
 refine Om (fun _=>[0]) [] rfl ?_
 refine Qs ?_
 refine WO.go (σ:=Nat) (fun n=>n≤258∧a+n≤xs.length∧rJ xs f a (258-n) n=qw xs f a) (fun n=>258-n) (fun n=>[(0,.sl 0 0 0 xs.length c0),(1,.int .i64 (f:Int)),(2,.int .i64 (a:Int)),(7,.int .i64 (n:Int))])
  (fun _=>[.one false 0 (.ints .u8 xs c)]) 0 ag mixed (by kernel_rfl) ⟨by decide,ha,rfl⟩ (aI rfl (aI rfl (aI rfl (aI rfl (trivial))))) (aI rfl (trivial)) (fun _=>rfl) (fun _=>rfl) (fun _=>⟨trivial,trivial⟩) ?_
 rintro n ⟨h1,h2,h3⟩ d
 refine Qs ?_
 refine And.intro (fun q1=>?_) (fun q1=>?_)
 ·have hn:n<258:=by simp only[decide_eq_true_eq]at q1;omega
  refine Qs ?_
  refine And.intro (fun q2=>?_) (fun q2=>?_)
  ·have JA:a+n<xs.length:=by simp only[decide_eq_true_eq]at q2;omega
   refine Qs ?_
   refine And.intro (fun q3=>?_) (fun q3=>?_)
   ·have e3:xs.getD (f+n) 0=xs.getD (a+n) 0:=of_decide_eq_true q3
    refine Qs ?_
    refine RO.same (n+1) ⟨by omega,JA,?_⟩ (show 258-(n+1)<258-n by omega) (aI rfl (aI rfl (aI rfl (aI rfl (trivial))))) (aI rfl (trivial))
    rw[←h3,show 258-n=(258-(n+1))+1 by omega,rJ,if_pos ⟨JA,e3⟩]
   ·have e3:¬xs.getD (f+n) 0=xs.getD (a+n) 0:=of_decide_eq_false q3
    refine Qs ?_
    rw[←h3,show 258-n=(257-n)+1 by omega,rJ,if_neg (fun x=>e3 x.2)]at h
    exact h
  ·have JA:¬a+n<xs.length:=by simp only[decide_eq_false_iff_not]at q2;omega
   refine Qs ?_
   rw[←h3,show 258-n=(257-n)+1 by omega,rJ,if_neg (fun x=>JA x.1)]at h
   exact h
 ·have hn:n=258:=by simp only[decide_eq_false_iff_not]at q1;omega
  subst hn
  refine Qs ?_
  rw[←h3]at h
  exact h
end
end Go.Proofs.Ytibadaomjlkoaaa
open Go.RowKit
namespace Go.Proofs.Ytibadaomjlkoaaa
set_option maxRecDepth 10000
section
variable{K Kp:AV→AH→Prop}{xs:List Int}{c c0:Nat}
theorem HR {M:AH}{i g n c0 co f a:Nat}{o:Bool}{xs:List Int}(hi:M[i]?=some (.one o g (.ints .u8 xs co)))(hn:n=xs.length)(hc:xs.length≤co)(hx:xs.length≤1000000)(hf:f≤a)(ha:a≤xs.length)(h:K (.int .i64 (qw xs f a:Nat)) M):
 aa Try.prog 39 [.sl i g 0 n c0,.int .i64 (f:Int),.int .i64 (a:Int)] M K Kp:=by
 subst hn
 refine aa.lift [.ep i g 0] (BF (xs:=xs) (c:=xs.length) (c0:=c0) (f:=f) (a:=a) (K:=fun r N=>r=.int .i64 (qw xs f a:Nat)∧N=[.one false 0 (.ints .u8 xs xs.length)]) (Kp:=fun _ _=>False) hx hf ha ⟨rfl,rfl⟩)
  (by simp[AV.qZ,AV.rn,yP,Bp,Bq,TE.i]) rfl ⟨⟨_,_,_,rfl,ak hi,eh.ints (by omega) (by rw[List.drop_zero,List.take_length])⟩,trivial⟩ ⟨trivial,trivial⟩ ?_ (fun _ _ h=>h.elim)
 rintro r M' ⟨rfl,rfl⟩
 refine⟨⟨rfl,rfl⟩,?_⟩
 rw[←List.append_nil M]at h
 exact h
def JU (xs:List Int)(c c0 ga a:Nat)(t:Tk):AH:=[.one false 0 (.ints .u8 xs c),.one true 0 (.cells [.sl 0 0 0 xs.length c0]),.one true ga (.cells [.int .i64 (a:Int)]),.one true 0 (.cells t.row)]
theorem GU {f a ga:Nat}{t:Tk}(hx:xs.length≤1000000)(hc:xs.length≤c)(hf:f≤a)(ha:a≤xs.length)(h:K (.aG []) (JU xs c c0 ga a (u1 xs a f t))):
 aa Try.prog 38 [.int .i64 (f:Int),.ptr 1 0 0,.ptr 2 ga 0,.ptr 3 0 0] (JU xs c c0 ga a t) K Kp:=by
 obtain⟨b,l,d⟩:=t
 refine On (fun _=>[]) [] rfl ?_
 refine Qs ?_
 refine HR (i:=0) (xs:=xs) rfl rfl hc hx hf ha ?_
 have hm:=Ek (f:=f) ha
 obtain⟨m,Xs⟩:∃m,qw xs f a=m:=⟨_,rfl⟩
 rw[Xs]at hm⊢
 have ht:u1 xs a f ⟨b,l,d⟩=if 3≤m∧l<m then⟨0,m,a-f⟩else⟨b,l,d⟩:=by unfold u1;rw[Xs]
 rw[ht]at h
 refine Qs ?_
 refine And.intro (fun q1=>?_) (fun q1=>?_)
 ·have h1:3≤m:=by simp only[decide_eq_true_eq]at q1;omega
  refine Qs ?_
  refine And.intro (fun q2=>?_) (fun q2=>?_)
  ·have h2:l<m:=by simp only[decide_eq_true_eq]at q2;omega
   rw[if_pos ⟨h1,h2⟩]at h
   refine Qs ?_
   have e:((a-f:Nat):Int)=(a:Int)-f:=by omega
   simp only[JU,Tk.row,e]at h
   exact h
  ·have h2:¬l<m:=by simp only[decide_eq_false_iff_not]at q2;omega
   rw[if_neg (fun x=>h2 x.2)]at h
   refine Qs ?_
   exact h
 ·have h1:¬3≤m:=by simp only[decide_eq_false_iff_not]at q1;omega
  rw[if_neg (fun x=>h1 x.1)]at h
  refine Qs ?_
  exact h
def l8 (xs:List Int)(c c0:Nat)(s:rV):AH:=[.one false 0 (.ints .u8 xs c),.one true 0 (.cells [.sl 0 0 0 xs.length c0]),.one true 0 (.map (.vD .u8) (kS s.1)),.one true 0 (.cells [.mp 2 0]),
 .one true 0 (.ints .i64 s.2 xs.length),.one true 0 (.cells [.sl 4 0 0 xs.length xs.length])]
theorem l7 {s:rV}:lJ 6 (l8 xs c c0 s):=⟨trivial,rfl,lp _ (.vD .u8) _,rfl,trivial,rfl,trivial⟩
theorem FL {i:Nat}{s:rV}(hx:xs.length≤1000000)(hc:xs.length≤c0)(vm:c0≤c)(hb:∀x∈xs,0≤x∧x<256)(hi:i<xs.length)(hs:nY xs i s)(h:K (.aG []) (l8 xs c c0 (jT xs i s))):
 aa Try.prog 37 [.int .i64 (i:Int),.ptr 1 0 0,.ptr 3 0 0,.ptr 5 0 0] (l8 xs c c0 s) K Kp:=by
 obtain⟨es,ah⟩:=s
 have hl:=hs.len
 simp only at hl
 refine aa.cg ?_
 refine Oo (fun _=>[2,3,5,6]) [] rfl ?_
 refine Qs ?_
 refine And.intro (fun q1=>?_) (fun q1=>?_)
 ·have h1:i+3≤xs.length:=by simp only[decide_eq_true_eq]at q1;omega
  have ho:cH c0 (i:Int).toNat 0 1=i:=by unfold cH;rw[if_neg (by omega)];omega
  have gP:0≤xs.getD (cH c0 (i:Int).toNat 0 1+2) 0∧xs.getD (cH c0 (i:Int).toNat 0 1+2) 0<256:=by
   rw[ho]
   refine hb _ ?_
   rw[List.getD_eq_getElem?_getD,List.getElem?_eq_getElem (show i+2<xs.length by omega)]
   exact List.getElem_mem _
  have hk:((xs.getD (cH c0 (i:Int).toNat 0 1+0) 0,xs.getD (cH c0 (i:Int).toNat 0 1+1) 0*256+xs.getD (cH c0 (i:Int).toNat 0 1+2) 0):Int×Int)=qx xs i:=by rw[ho];rfl
  refine Qs ?_
  refine And.intro (fun v hv=>?_) (fun hv=>?_)
  ·have rj:nW (xs.getD (cH c0 (i:Int).toNat 0 1+0) 0,xs.getD (cH c0 (i:Int).toNat 0 1+1) 0*256+xs.getD (cH c0 (i:Int).toNat 0 1+2) 0) (kS es)=some v:=hv
   rw[hk,iL]at rj
   clear hv
   obtain⟨z,hz,rfl⟩:=Option.map_eq_some_iff.1 rj
   clear rj
   refine Qs ?_
   intro Cb lF
   have ID:Cb=pZ (xs.getD (cH c0 (i:Int).toNat 0 1+0) 0,xs.getD (cH c0 (i:Int).toNat 0 1+1) 0*256+xs.getD (cH c0 (i:Int).toNat 0 1+2) 0) (.int .i64 ((i:Int)+1)) (kS es):=lF
   rw[hk,oY]at ID
   clear lF
   subst ID
   have e:jT xs i (es,ah)=(lA (qx xs i) ((i:Int)+1) es,ah.set i z):=by
    unfold jT;rw[if_pos h1];simp only[hz,Option.getD_some,Option.getD_none]
   rw[e]at h
   refine Qs ?_
   exact⟨l8 xs c c0 (lA (qx xs i) ((i:Int)+1) es,ah.set i z),(aI rfl (aI rfl (aI rfl (aI rfl (aI rfl (aI rfl (trivial))))))),l7,rfl,h⟩
  ·have rj:nW (xs.getD (cH c0 (i:Int).toNat 0 1+0) 0,xs.getD (cH c0 (i:Int).toNat 0 1+1) 0*256+xs.getD (cH c0 (i:Int).toNat 0 1+2) 0) (kS es)=none:=hv
   rw[hk,iL]at rj
   clear hv
   have hz:bS (qx xs i) es=none:=Option.map_eq_none_iff.1 rj
   clear rj
   refine Qs ?_
   intro Cb lF
   have ID:Cb=pZ (xs.getD (cH c0 (i:Int).toNat 0 1+0) 0,xs.getD (cH c0 (i:Int).toNat 0 1+1) 0*256+xs.getD (cH c0 (i:Int).toNat 0 1+2) 0) (.int .i64 ((i:Int)+1)) (kS es):=lF
   rw[hk,oY]at ID
   clear lF
   subst ID
   have e:jT xs i (es,ah)=(lA (qx xs i) ((i:Int)+1) es,ah.set i 0):=by
    unfold jT;rw[if_pos h1];simp only[hz,Option.getD_some,Option.getD_none]
   rw[e]at h
   refine Qs ?_
   exact⟨l8 xs c c0 (lA (qx xs i) ((i:Int)+1) es,ah.set i 0),(aI rfl (aI rfl (aI rfl (aI rfl (aI rfl (aI rfl (trivial))))))),l7,rfl,h⟩
 ·have h1:¬i+3≤xs.length:=by simp only[decide_eq_false_iff_not]at q1;omega
  unfold jT at h
  rw[if_neg h1]at h
  refine Qs ?_
  exact⟨l8 xs c c0 (es,ah),vQ _,l7,rfl,h⟩
end
end Go.Proofs.Ytibadaomjlkoaaa
open Go.RowKit
namespace Go.Proofs.Ytibadaomjlkoaaa
set_option maxRecDepth 10000
instance:Inhabited Tk:=⟨⟨0,0,0⟩⟩
def nI (l:List Tk)(c:Nat):ae:=.cI 3 l.length (fun j=>(l.getD j default).row) c
theorem GZ (k:Nat)(l:List Tk)(c:Nat):(nI l c).nb k:=fun j=>rfl
def BE (xs:List Int)(c c0:Nat)(a:Nat)(s:rV)(ga:Nat)(out:List Tk)(g co:Nat):AH:=l8 xs c c0 s++[.one true ga (.cells [.int .i64 (a:Int)]),.one true g (nI out co)]
section
variable{K Kp:AV→AH→Prop}{xs:List Int}{c c0:Nat}
theorem OU {a:Nat}{s:rV}{ga:Nat}{out:List Tk}{g co:Nat}:lJ 8 (BE xs c c0 a s ga out g co):=⟨trivial,rfl,lp _ (.vD .u8) _,rfl,trivial,rfl,rfl,fun j=>rfl,trivial⟩
theorem Ee {a:Nat}{s:rV}{ga:Nat}{out:List Tk}{g co:Nat}{t:Tk}:lJ 9 (BE xs c c0 a s ga out g co++[.one true 0 (.cells t.row)]):=⟨trivial,rfl,lp _ (.vD .u8) _,rfl,trivial,rfl,rfl,fun j=>rfl,rfl,trivial⟩
theorem kT {a:Nat}{s:rV}{ga:Nat}{out:List Tk}{g co:Nat}:lJ 10 (BE xs c c0 a s ga out g co++[AO.gone,AO.gone]):=⟨trivial,rfl,lp _ (.vD .u8) _,rfl,trivial,rfl,rfl,fun j=>rfl,trivial,trivial,trivial⟩
theorem GV {a f ga g co:Nat}{t:Tk}{s:rV}{out:List Tk}(hx:xs.length≤1000000)(hc:xs.length≤c)(hf:f≤a)(ha:a≤xs.length)(h:K (.aG []) (BE xs c c0 a s ga out g co++[.one true 0 (.cells (u1 xs a f t).row)])):
 aa Try.prog 38 [.int .i64 (f:Int),.ptr 1 0 0,.ptr 6 ga 0,.ptr 8 0 0] (BE xs c c0 a s ga out g co++[.one true 0 (.cells t.row)]) K Kp:=by
 refine aa.lift [.eZ 0,.own 1,.own 6,.own 8] (GU (xs:=xs) (c:=c) (c0:=c0) (ga:=ga) (t:=t) (K:=fun r N=>r=.aG []∧N=JU xs c c0 ga a (u1 xs a f t)) (Kp:=fun _ _=>False) hx hc hf ha ⟨rfl,rfl⟩)
  rfl rfl ⟨⟨rfl,_,rfl,rfl⟩,⟨rfl,rfl⟩,⟨rfl,rfl⟩,⟨rfl,rfl⟩,trivial⟩ ⟨trivial,rfl,rfl,rfl,trivial⟩ ?_ (fun _ _ h=>h.elim)
 rintro r M' ⟨rfl,rfl⟩
 refine⟨⟨rfl,rfl,rfl,rfl,rfl⟩,?_⟩
 exact h
theorem kR {i:Nat}{s:rV}{E:AH}(hx:xs.length≤1000000)(hc:xs.length≤c0)(vm:c0≤c)(hb:∀x∈xs,0≤x∧x<256)(hi:i<xs.length)(hs:nY xs i s)(h:K (.aG []) (l8 xs c c0 (jT xs i s)++E)):
 aa Try.prog 37 [.int .i64 (i:Int),.ptr 1 0 0,.ptr 3 0 0,.ptr 5 0 0] (l8 xs c c0 s++E) K Kp:=by
 refine aa.frame E (FL (xs:=xs) (c:=c) (c0:=c0) (K:=fun r N=>r=.aG []∧N=l8 xs c c0 (jT xs i s)) (Kp:=fun _ _=>False) hx hc vm hb hi hs ⟨rfl,rfl⟩) rfl l7 (fun o ho=>?_) ?_ (fun _ _ h=>h.elim)
 ·simp only[l8,List.mem_cons,List.not_mem_nil,or_false]at ho
  rcases ho with rfl|rfl|rfl|rfl|rfl|rfl<;>rfl
 ·rintro r M' ⟨rfl,rfl⟩
  exact⟨rfl,⟨rfl,rfl,rfl,rfl,rfl,rfl,rfl⟩,l7,rfl,h⟩
theorem dB {out:List Tk}{B:Tk}{q:Nat}(hq:q<out.length+1):((out++[B]).getD q default).row=if q<out.length then(out.getD q default).row else B.row:=by
 rw[List.getD_eq_getElem?_getD,List.getElem?_append]
 split
 ·rw[List.getD_eq_getElem?_getD]
 ·rw[show q-out.length=0 by omega];rfl
theorem xZ (hx:xs.length≤1000000)(hc:xs.length≤c0)(vm:c0≤c)(hb:∀x∈xs,0≤x∧x<256)
 (h:∀g co,(b9 xs).length≤co→K (.sl 1 g 0 (b9 xs).length co) [.one false 0 (.ints .u8 xs c),.one true g (nI (b9 xs) co)]):
 aa Try.prog 14 [.sl 0 0 0 xs.length c0] [.one false 0 (.ints .u8 xs c)] K Kp:=by
 refine aa.dc ?_
 refine Oz (fun _=>[0,1,2,3,6]) [] rfl ?_
 refine Qs ?_
 refine WO.Mf (σ:=Nat×rV×Nat×List Tk×Nat×Nat) (fun(a,s,ga,out,g,co)=>a≤xs.length∧nY xs a s∧out.length≤co∧out.length≤a∧eB xs (xs.length-a) a s out=b9 xs) (fun(a,_)=>xs.length-a)
  (fun(a,s,ga,out,g,co)=>[(1,.ptr 1 0 0),(3,.sl 7 g 0 out.length co),(4,.ptr 3 0 0),(5,.ptr 5 0 0),(6,.fn (.func 37) [] [.ptr 1 0 0,.ptr 3 0 0,.ptr 5 0 0]),(7,.ptr 6 ga 0)])
  (fun(a,s,ga,out,g,co)=>BE xs c c0 a s ga out g co) (0,([],List.replicate xs.length 0),0,[],0,0) ag mixed (by kernel_rfl)
  [(1,.ptr 1 0 0),(3,.ns),(4,.ptr 3 0 0),(5,.ptr 5 0 0),(6,.fn (.func 37) [] [.ptr 1 0 0,.ptr 3 0 0,.ptr 5 0 0]),(7,.ptr 6 0 0)] _ ⟨Nat.zero_le _,nY.start xs,Nat.le_refl _,Nat.le_refl _,rfl⟩ (aI rfl (aI rfl (aI rfl (aI rfl (aI rfl (aI rfl (trivial))))))) rfl
  (Vw.xU (x:=nI [] 0) ⟨rfl,rfl⟩ (And.intro (.inl rfl) (And.intro (.inr ⟨rfl,rfl⟩) (And.intro (.inl rfl) (And.intro (.inl rfl) (And.intro (.inl rfl) (And.intro (.inl rfl) trivial))))))) (aI rfl (aI rfl (aI rfl (aI rfl (aI rfl (aI rfl (aI rfl (aI rfl (trivial))))))))) (fun _=>rfl) (fun _=>rfl) (fun _=>OU) ?_
 rintro⟨a,⟨es,ah⟩,ga,out,g,co⟩ ⟨i1,i2,i3,i4,i5⟩ d
 refine Qs ?_
 refine And.intro (fun q1=>?_) (fun q1=>?_)
 ·have ha:a<xs.length:=by simp only[decide_eq_true_eq]at q1;omega
  have XH:ah.length=xs.length:=i2.len
  obtain⟨B,hB⟩:∃B,uJ xs (es,ah) a=B:=⟨_,rfl⟩
  have P5:lI xs a B:=by rw[←hB];exact lI.T4 ha i2
  have Pw:eB xs (xs.length-(a+max B.l 1)) (a+max B.l 1) (bJ xs (max B.l 1) a (es,ah)) (out++[B])=b9 xs:=by
   rw[←i5,show xs.length-a=(xs.length-(a+1))+1 by omega,eB,if_pos ha,hB]
   exact q8 _ _ _ _ _ (by omega) (by omega)
  unfold uJ at hB
  refine Qs ?_
  refine And.intro (fun q2=>?_) (fun q2=>?_)
  ·have h3:a+3≤xs.length:=by simp only[decide_eq_true_eq]at q2;omega
   rw[if_pos h3]at hB
   have ho:cH c0 (a:Int).toNat 0 1=a:=by unfold cH;rw[if_neg (by omega)];omega
   have gP:0≤xs.getD (cH c0 (a:Int).toNat 0 1+2) 0∧xs.getD (cH c0 (a:Int).toNat 0 1+2) 0<256:=by
    rw[ho]
    refine hb _ ?_
    rw[List.getD_eq_getElem?_getD,List.getElem?_eq_getElem (show a+2<xs.length by omega)]
    exact List.getElem_mem _
   have hk:((xs.getD (cH c0 (a:Int).toNat 0 1+0) 0,xs.getD (cH c0 (a:Int).toNat 0 1+1) 0*256+xs.getD (cH c0 (a:Int).toNat 0 1+2) 0):Int×Int)=qx xs a:=by rw[ho];rfl
   refine Qs ?_
   refine And.intro (fun v hv=>?_) (fun hv=>?_)
   ·have rj:nW (xs.getD (cH c0 (a:Int).toNat 0 1+0) 0,xs.getD (cH c0 (a:Int).toNat 0 1+1) 0*256+xs.getD (cH c0 (a:Int).toNat 0 1+2) 0) (kS es)=some v:=hv
    rw[hk,iL]at rj
    clear hv
    obtain⟨z,hz,rfl⟩:=Option.map_eq_some_iff.1 rj
    clear rj
    obtain⟨p,rfl⟩:∃p:Nat,z=p:=⟨z.toNat,by have:=i2.es _ _ hz;omega⟩
    have GJ:p≤a:=by have:=i2.es _ _ hz;omega
    rw[hz]at hB
    simp only[Option.getD_some,Int.toNat_natCast]at hB
    rw[fX i2.ah a p p _ GJ (Nat.le_refl p)]at hB
    refine Qs ?_
    refine WO.go (σ:=Nat×Tk) (fun(p,t)=>p≤a∧dR xs ah a p p t=B) (fun(p,t)=>p)
     (fun(p,t)=>[(1,.ptr 1 0 0),(3,.sl 7 g 0 out.length co),(4,.ptr 3 0 0),(5,.ptr 5 0 0),(6,.fn (.func 37) [] [.ptr 1 0 0,.ptr 3 0 0,.ptr 5 0 0]),(7,.ptr 6 ga 0),(8,.ptr 8 0 0),(9,.fn (.func 38) [] [.ptr 1 0 0,.ptr 6 ga 0,.ptr 8 0 0]),(10,.int .i64 (p:Int))])
     (fun(p,t)=>BE xs c c0 a (es,ah) ga out g co++[.one true 0 (.cells t.row)]) (p,⟨xs.getD a 0,0,0⟩) ag mixed (by kernel_rfl) ⟨GJ,hB⟩ (aI rfl (aI rfl (aI rfl (aI rfl (aI rfl (aI rfl (aI rfl (aI rfl (aI rfl (trivial)))))))))) (aI rfl (aI rfl (aI rfl (aI rfl (aI rfl (aI rfl (aI rfl (aI rfl (aI rfl (trivial)))))))))) (fun _=>rfl) (fun _=>rfl) (fun _=>Ee) ?_
    rintro⟨p,t⟩ ⟨j1,j2⟩ d2
    have IJ:=i2.ah (p-1)
    refine Qs ?_
    refine And.intro (fun r1=>?_) (fun r1=>?_)
    ·have hp:0<p:=by simp only[decide_eq_true_eq]at r1;omega
     refine Qs ?_
     refine And.intro (fun r2=>?_) (fun r2=>?_)
     ·have hd:a-(p-1)≤32768:=by simp only[decide_eq_true_eq]at r2;omega
      refine Qs ?_
      refine And.intro (fun r3=>?_) (fun r3=>?_)
      ·have hl:t.l<258:=by have r3:(t.l:Int)<258:=of_decide_eq_true r3;omega
       obtain⟨p,rfl⟩:∃p',p=p'+1:=⟨p-1,by omega⟩
       have e1:((p+1:Nat):Int)-1=(p:Int):=by omega
       rw[dR,if_pos ⟨hp,hd,hl⟩]at j2
       refine Qs ?_
       rw[e1]
       refine GV (f:=p) hx (by omega) (by omega) (by omega) ?_
       have IJ:0≤ah.getD p 0∧ah.getD p 0≤(p:Int):=i2.ah p
       refine Qs ?_
       refine RO.same ((ah.getD p 0).toNat,u1 xs a p t) ⟨by omega,?_⟩ (show(ah.getD p 0).toNat<p+1 by omega) (aI rfl (aI rfl (aI rfl (aI rfl (aI rfl (aI rfl (aI rfl (aI rfl (aI ?_ trivial))))))))) (aI rfl (aI rfl (aI rfl (aI rfl (aI rfl (aI rfl (aI rfl (aI rfl (aI rfl (trivial))))))))))
       ·rw[←j2]
        exact fX i2.ah _ _ _ _ (Nat.le_refl _) (by show(ah.getD p 0).toNat≤p;omega)
       ·show AV.int .i64 (ah.getD ((((p+1:Nat):Int)-1).toNat+0) 0)=.int .i64 (((ah.getD p 0).toNat:Nat):Int)
        rw[e1,Int.toNat_natCast,Int.toNat_of_nonneg IJ.1,Nat.add_zero]
      ·have hl:¬t.l<258:=by have r3:¬(t.l:Int)<258:=of_decide_eq_false r3;omega
       obtain⟨p,rfl⟩:∃p',p=p'+1:=⟨p-1,by omega⟩
       rw[dR,if_neg (fun x=>hl x.2.2)]at j2
       subst j2
       refine Qs ?_
       refine And.intro (fun q hq=>?_) ?_
       ·obtain rfl:q=0:=by have:q<1:=hq;omega
        exact⟨rfl,rfl⟩
       refine Qs ?_
       refine⟨fun j=>((out++[t]).getD j default).row,fun q hq=>?_,fun fc qE=>?_⟩
       ·by_cases eI:q<out.length
        ·exact((dB hq).trans (if_pos eI)).trans (if_pos eI).symm
        ·obtain rfl:q=out.length:=by have:q<out.length+1:=hq;omega
         refine((dB hq).trans (if_neg eI)).trans (Eq.trans ?_ (if_neg eI).symm)
         rw[Nat.sub_self]
         rfl
       have hE:nI (out++[t]) fc=.cI 3 (out.length+1) (fun j=>((out++[t]).getD j default).row) fc:=by unfold nI;rw[List.length_append];rfl
       refine Qs ?_
       refine WO.go (σ:=Nat) (fun i=>i≤max t.l 1) (fun i=>max t.l 1-i)
        (fun i=>[(1,.ptr 1 0 0),(3,.sl 7 (g+1) 0 (out.length+1) fc),(4,.ptr 3 0 0),(5,.ptr 5 0 0),(6,.fn (.func 37) [] [.ptr 1 0 0,.ptr 3 0 0,.ptr 5 0 0]),(7,.ptr 6 ga 0),(69,.int .i64 (max (t.l:Int) 1)),(70,.int .i64 (i:Int))])
        (fun i=>BE xs c c0 (a+i) (bJ xs i a (es,ah)) ga (out++[t]) (g+1) fc++[AO.gone,AO.gone]) 0 ag mixed (by kernel_rfl) (Nat.zero_le _) (aI rfl (aI rfl (aI rfl (aI rfl (aI rfl (aI rfl (aI rfl (aI rfl (trivial))))))))) (aI rfl (aI rfl (aI rfl (aI rfl (aI rfl (aI rfl (aI rfl (aI (congrArg (AO.one true (g+1)) hE) (aI trivial (aI trivial trivial)))))))))) (fun _=>rfl) (fun _=>rfl) (fun _=>kT) ?_
       intro k k1 d3
       have k1:k≤max t.l 1:=k1
       have kp:nY xs (a+k) (bJ xs k a (es,ah)):=nY.notes k a i2
       have hle:t.l≤258∧a+t.l≤xs.length:=P5.le
       refine Qs ?_
       refine And.intro (fun q5=>?_) (fun q5=>?_)
       ·have nk:k<max t.l 1:=by
         have q5:(k:Int)<max (t.l:Int) 1:=of_decide_eq_true q5
         omega
        refine Qs ?_
        refine kR (i:=a+k) (E:=[.one true ga (.cells [.int .i64 ((a+k:Nat):Int)]),.one true (g+1) (nI (out++[t]) fc),.gone,.gone]) hx hc vm hb (by omega) kp ?_
        rw[←dk]
        refine Qs ?_
        refine RO.same (k+1) (show k+1≤max t.l 1 from nk) (show max t.l 1-(k+1)<max t.l 1-k from Nat.sub_lt_sub_left nk (Nat.lt_succ_self k)) (aI rfl (aI rfl (aI rfl (aI rfl (aI rfl (aI rfl (aI rfl (aI rfl (trivial))))))))) (aI rfl (aI rfl (aI rfl (aI rfl (aI rfl (aI rfl (aI rfl (aI rfl (aI trivial (aI trivial (trivial)))))))))))
       ·have nk:k=max t.l 1:=by
         have q5:¬(k:Int)<max (t.l:Int) 1:=of_decide_eq_false q5
         omega
        subst nk
        refine Qs ?_
        refine RO.mk (a+max t.l 1,bJ xs (max t.l 1) a (es,ah),ga+1,out++[t],g+1,fc)
         [(1,.ptr 1 0 0),(3,.sl 7 (g+1) 0 (out.length+1) fc),(4,.ptr 3 0 0),(5,.ptr 5 0 0),(6,.fn (.func 37) [] [.ptr 1 0 0,.ptr 3 0 0,.ptr 5 0 0]),(7,.ptr 10 0 0)] _ ⟨by omega,kp,by rw[List.length_append];exact qE,by rw[List.length_append];show out.length+1≤_;omega,Pw⟩ (show xs.length-(a+max t.l 1)<xs.length-a by omega)
         (aI rfl (aI rfl (aI rfl (aI rfl (aI rfl (aI rfl (trivial))))))) rfl (Vw.move (i:=6) (k:=10) rfl rfl rfl (aI mZ.same (aI ?_ (aI mZ.same (aI mZ.same (aI mZ.same (aI (.inr (.inr ⟨_,rfl,rfl⟩)) trivial))))))) (aI rfl (aI rfl (aI rfl (aI rfl (aI rfl (aI rfl (aI rfl (aI rfl (trivial)))))))))
        exact .inl (by rw[List.length_append];rfl)
     ·have hd:¬a-(p-1)≤32768:=by have r2:¬(a:Int)-((p:Int)-1)≤32768:=of_decide_eq_false r2;omega
      obtain⟨p,rfl⟩:∃p',p=p'+1:=⟨p-1,by omega⟩
      rw[dR,if_neg (fun x=>hd x.2.1)]at j2
      subst j2
      refine Qs ?_
      refine And.intro (fun q hq=>?_) ?_
      ·obtain rfl:q=0:=by have:q<1:=hq;omega
       exact⟨rfl,rfl⟩
      refine Qs ?_
      refine⟨fun j=>((out++[t]).getD j default).row,fun q hq=>?_,fun fc qE=>?_⟩
      ·by_cases eI:q<out.length
       ·exact((dB hq).trans (if_pos eI)).trans (if_pos eI).symm
       ·obtain rfl:q=out.length:=by have:q<out.length+1:=hq;omega
        refine((dB hq).trans (if_neg eI)).trans (Eq.trans ?_ (if_neg eI).symm)
        rw[Nat.sub_self]
        rfl
      have hE:nI (out++[t]) fc=.cI 3 (out.length+1) (fun j=>((out++[t]).getD j default).row) fc:=by unfold nI;rw[List.length_append];rfl
      refine Qs ?_
      refine WO.go (σ:=Nat) (fun i=>i≤max t.l 1) (fun i=>max t.l 1-i)
       (fun i=>[(1,.ptr 1 0 0),(3,.sl 7 (g+1) 0 (out.length+1) fc),(4,.ptr 3 0 0),(5,.ptr 5 0 0),(6,.fn (.func 37) [] [.ptr 1 0 0,.ptr 3 0 0,.ptr 5 0 0]),(7,.ptr 6 ga 0),(69,.int .i64 (max (t.l:Int) 1)),(70,.int .i64 (i:Int))])
       (fun i=>BE xs c c0 (a+i) (bJ xs i a (es,ah)) ga (out++[t]) (g+1) fc++[AO.gone,AO.gone]) 0 ag mixed (by kernel_rfl) (Nat.zero_le _) (aI rfl (aI rfl (aI rfl (aI rfl (aI rfl (aI rfl (aI rfl (aI rfl (trivial))))))))) (aI rfl (aI rfl (aI rfl (aI rfl (aI rfl (aI rfl (aI rfl (aI (congrArg (AO.one true (g+1)) hE) (aI trivial (aI trivial trivial)))))))))) (fun _=>rfl) (fun _=>rfl) (fun _=>kT) ?_
      intro k k1 d3
      have k1:k≤max t.l 1:=k1
      have kp:nY xs (a+k) (bJ xs k a (es,ah)):=nY.notes k a i2
      have hle:t.l≤258∧a+t.l≤xs.length:=P5.le
      refine Qs ?_
      refine And.intro (fun q5=>?_) (fun q5=>?_)
      ·have nk:k<max t.l 1:=by
        have q5:(k:Int)<max (t.l:Int) 1:=of_decide_eq_true q5
        omega
       refine Qs ?_
       refine kR (i:=a+k) (E:=[.one true ga (.cells [.int .i64 ((a+k:Nat):Int)]),.one true (g+1) (nI (out++[t]) fc),.gone,.gone]) hx hc vm hb (by omega) kp ?_
       rw[←dk]
       refine Qs ?_
       refine RO.same (k+1) (show k+1≤max t.l 1 from nk) (show max t.l 1-(k+1)<max t.l 1-k from Nat.sub_lt_sub_left nk (Nat.lt_succ_self k)) (aI rfl (aI rfl (aI rfl (aI rfl (aI rfl (aI rfl (aI rfl (aI rfl (trivial))))))))) (aI rfl (aI rfl (aI rfl (aI rfl (aI rfl (aI rfl (aI rfl (aI rfl (aI trivial (aI trivial (trivial)))))))))))
      ·have nk:k=max t.l 1:=by
        have q5:¬(k:Int)<max (t.l:Int) 1:=of_decide_eq_false q5
        omega
       subst nk
       refine Qs ?_
       refine RO.mk (a+max t.l 1,bJ xs (max t.l 1) a (es,ah),ga+1,out++[t],g+1,fc)
        [(1,.ptr 1 0 0),(3,.sl 7 (g+1) 0 (out.length+1) fc),(4,.ptr 3 0 0),(5,.ptr 5 0 0),(6,.fn (.func 37) [] [.ptr 1 0 0,.ptr 3 0 0,.ptr 5 0 0]),(7,.ptr 10 0 0)] _ ⟨by omega,kp,by rw[List.length_append];exact qE,by rw[List.length_append];show out.length+1≤_;omega,Pw⟩ (show xs.length-(a+max t.l 1)<xs.length-a by omega)
        (aI rfl (aI rfl (aI rfl (aI rfl (aI rfl (aI rfl (trivial))))))) rfl (Vw.move (i:=6) (k:=10) rfl rfl rfl (aI mZ.same (aI ?_ (aI mZ.same (aI mZ.same (aI mZ.same (aI (.inr (.inr ⟨_,rfl,rfl⟩)) trivial))))))) (aI rfl (aI rfl (aI rfl (aI rfl (aI rfl (aI rfl (aI rfl (aI rfl (trivial)))))))))
       exact .inl (by rw[List.length_append];rfl)
    ·have hp:p=0:=by have r1:¬(0:Int)<(p:Int):=of_decide_eq_false r1;omega
     subst hp
     have j2:t=B:=j2
     subst j2
     refine Qs ?_
     refine And.intro (fun q hq=>?_) ?_
     ·obtain rfl:q=0:=by have:q<1:=hq;omega
      exact⟨rfl,rfl⟩
     refine Qs ?_
     refine⟨fun j=>((out++[t]).getD j default).row,fun q hq=>?_,fun fc qE=>?_⟩
     ·by_cases eI:q<out.length
      ·exact((dB hq).trans (if_pos eI)).trans (if_pos eI).symm
      ·obtain rfl:q=out.length:=by have:q<out.length+1:=hq;omega
       refine((dB hq).trans (if_neg eI)).trans (Eq.trans ?_ (if_neg eI).symm)
       rw[Nat.sub_self]
       rfl
     have hE:nI (out++[t]) fc=.cI 3 (out.length+1) (fun j=>((out++[t]).getD j default).row) fc:=by unfold nI;rw[List.length_append];rfl
     refine Qs ?_
     refine WO.go (σ:=Nat) (fun i=>i≤max t.l 1) (fun i=>max t.l 1-i)
      (fun i=>[(1,.ptr 1 0 0),(3,.sl 7 (g+1) 0 (out.length+1) fc),(4,.ptr 3 0 0),(5,.ptr 5 0 0),(6,.fn (.func 37) [] [.ptr 1 0 0,.ptr 3 0 0,.ptr 5 0 0]),(7,.ptr 6 ga 0),(69,.int .i64 (max (t.l:Int) 1)),(70,.int .i64 (i:Int))])
      (fun i=>BE xs c c0 (a+i) (bJ xs i a (es,ah)) ga (out++[t]) (g+1) fc++[AO.gone,AO.gone]) 0 ag mixed (by kernel_rfl) (Nat.zero_le _) (aI rfl (aI rfl (aI rfl (aI rfl (aI rfl (aI rfl (aI rfl (aI rfl (trivial))))))))) (aI rfl (aI rfl (aI rfl (aI rfl (aI rfl (aI rfl (aI rfl (aI (congrArg (AO.one true (g+1)) hE) (aI trivial (aI trivial trivial)))))))))) (fun _=>rfl) (fun _=>rfl) (fun _=>kT) ?_
     intro k k1 d3
     have k1:k≤max t.l 1:=k1
     have kp:nY xs (a+k) (bJ xs k a (es,ah)):=nY.notes k a i2
     have hle:t.l≤258∧a+t.l≤xs.length:=P5.le
     refine Qs ?_
     refine And.intro (fun q5=>?_) (fun q5=>?_)
     ·have nk:k<max t.l 1:=by
       have q5:(k:Int)<max (t.l:Int) 1:=of_decide_eq_true q5
       omega
      refine Qs ?_
      refine kR (i:=a+k) (E:=[.one true ga (.cells [.int .i64 ((a+k:Nat):Int)]),.one true (g+1) (nI (out++[t]) fc),.gone,.gone]) hx hc vm hb (by omega) kp ?_
      rw[←dk]
      refine Qs ?_
      refine RO.same (k+1) (show k+1≤max t.l 1 from nk) (show max t.l 1-(k+1)<max t.l 1-k from Nat.sub_lt_sub_left nk (Nat.lt_succ_self k)) (aI rfl (aI rfl (aI rfl (aI rfl (aI rfl (aI rfl (aI rfl (aI rfl (trivial))))))))) (aI rfl (aI rfl (aI rfl (aI rfl (aI rfl (aI rfl (aI rfl (aI rfl (aI trivial (aI trivial (trivial)))))))))))
     ·have nk:k=max t.l 1:=by
       have q5:¬(k:Int)<max (t.l:Int) 1:=of_decide_eq_false q5
       omega
      subst nk
      refine Qs ?_
      refine RO.mk (a+max t.l 1,bJ xs (max t.l 1) a (es,ah),ga+1,out++[t],g+1,fc)
       [(1,.ptr 1 0 0),(3,.sl 7 (g+1) 0 (out.length+1) fc),(4,.ptr 3 0 0),(5,.ptr 5 0 0),(6,.fn (.func 37) [] [.ptr 1 0 0,.ptr 3 0 0,.ptr 5 0 0]),(7,.ptr 10 0 0)] _ ⟨by omega,kp,by rw[List.length_append];exact qE,by rw[List.length_append];show out.length+1≤_;omega,Pw⟩ (show xs.length-(a+max t.l 1)<xs.length-a by omega)
       (aI rfl (aI rfl (aI rfl (aI rfl (aI rfl (aI rfl (trivial))))))) rfl (Vw.move (i:=6) (k:=10) rfl rfl rfl (aI mZ.same (aI ?_ (aI mZ.same (aI mZ.same (aI mZ.same (aI (.inr (.inr ⟨_,rfl,rfl⟩)) trivial))))))) (aI rfl (aI rfl (aI rfl (aI rfl (aI rfl (aI rfl (aI rfl (aI rfl (trivial)))))))))
      exact .inl (by rw[List.length_append];rfl)
   ·have rj:nW (xs.getD (cH c0 (a:Int).toNat 0 1+0) 0,xs.getD (cH c0 (a:Int).toNat 0 1+1) 0*256+xs.getD (cH c0 (a:Int).toNat 0 1+2) 0) (kS es)=none:=hv
    rw[hk,iL]at rj
    clear hv
    have hz:bS (qx xs a) es=none:=Option.map_eq_none_iff.1 rj
    clear rj
    rw[hz]at hB
    simp only[Option.getD_none,Int.toNat_zero]at hB
    rw[fX i2.ah a 0 0 _ (Nat.zero_le a) (Nat.le_refl 0)]at hB
    refine Qs ?_
    refine WO.go (σ:=Nat×Tk) (fun(p,t)=>p≤a∧dR xs ah a p p t=B) (fun(p,t)=>p)
     (fun(p,t)=>[(1,.ptr 1 0 0),(3,.sl 7 g 0 out.length co),(4,.ptr 3 0 0),(5,.ptr 5 0 0),(6,.fn (.func 37) [] [.ptr 1 0 0,.ptr 3 0 0,.ptr 5 0 0]),(7,.ptr 6 ga 0),(8,.ptr 8 0 0),(9,.fn (.func 38) [] [.ptr 1 0 0,.ptr 6 ga 0,.ptr 8 0 0]),(10,.int .i64 (p:Int))])
     (fun(p,t)=>BE xs c c0 a (es,ah) ga out g co++[.one true 0 (.cells t.row)]) (0,⟨xs.getD a 0,0,0⟩) ag mixed (by kernel_rfl) ⟨Nat.zero_le a,hB⟩ (aI rfl (aI rfl (aI rfl (aI rfl (aI rfl (aI rfl (aI rfl (aI rfl (aI rfl (trivial)))))))))) (aI rfl (aI rfl (aI rfl (aI rfl (aI rfl (aI rfl (aI rfl (aI rfl (aI rfl (trivial)))))))))) (fun _=>rfl) (fun _=>rfl) (fun _=>Ee) ?_
    rintro⟨p,t⟩ ⟨j1,j2⟩ d2
    have IJ:=i2.ah (p-1)
    refine Qs ?_
    refine And.intro (fun r1=>?_) (fun r1=>?_)
    ·have hp:0<p:=by simp only[decide_eq_true_eq]at r1;omega
     refine Qs ?_
     refine And.intro (fun r2=>?_) (fun r2=>?_)
     ·have hd:a-(p-1)≤32768:=by simp only[decide_eq_true_eq]at r2;omega
      refine Qs ?_
      refine And.intro (fun r3=>?_) (fun r3=>?_)
      ·have hl:t.l<258:=by have r3:(t.l:Int)<258:=of_decide_eq_true r3;omega
       obtain⟨p,rfl⟩:∃p',p=p'+1:=⟨p-1,by omega⟩
       have e1:((p+1:Nat):Int)-1=(p:Int):=by omega
       rw[dR,if_pos ⟨hp,hd,hl⟩]at j2
       refine Qs ?_
       rw[e1]
       refine GV (f:=p) hx (by omega) (by omega) (by omega) ?_
       have IJ:0≤ah.getD p 0∧ah.getD p 0≤(p:Int):=i2.ah p
       refine Qs ?_
       refine RO.same ((ah.getD p 0).toNat,u1 xs a p t) ⟨by omega,?_⟩ (show(ah.getD p 0).toNat<p+1 by omega) (aI rfl (aI rfl (aI rfl (aI rfl (aI rfl (aI rfl (aI rfl (aI rfl (aI ?_ trivial))))))))) (aI rfl (aI rfl (aI rfl (aI rfl (aI rfl (aI rfl (aI rfl (aI rfl (aI rfl (trivial))))))))))
       ·rw[←j2]
        exact fX i2.ah _ _ _ _ (Nat.le_refl _) (by show(ah.getD p 0).toNat≤p;omega)
       ·show AV.int .i64 (ah.getD ((((p+1:Nat):Int)-1).toNat+0) 0)=.int .i64 (((ah.getD p 0).toNat:Nat):Int)
        rw[e1,Int.toNat_natCast,Int.toNat_of_nonneg IJ.1,Nat.add_zero]
      ·have hl:¬t.l<258:=by have r3:¬(t.l:Int)<258:=of_decide_eq_false r3;omega
       obtain⟨p,rfl⟩:∃p',p=p'+1:=⟨p-1,by omega⟩
       rw[dR,if_neg (fun x=>hl x.2.2)]at j2
       subst j2
       refine Qs ?_
       refine And.intro (fun q hq=>?_) ?_
       ·obtain rfl:q=0:=by have:q<1:=hq;omega
        exact⟨rfl,rfl⟩
       refine Qs ?_
       refine⟨fun j=>((out++[t]).getD j default).row,fun q hq=>?_,fun fc qE=>?_⟩
       ·by_cases eI:q<out.length
        ·exact((dB hq).trans (if_pos eI)).trans (if_pos eI).symm
        ·obtain rfl:q=out.length:=by have:q<out.length+1:=hq;omega
         refine((dB hq).trans (if_neg eI)).trans (Eq.trans ?_ (if_neg eI).symm)
         rw[Nat.sub_self]
         rfl
       have hE:nI (out++[t]) fc=.cI 3 (out.length+1) (fun j=>((out++[t]).getD j default).row) fc:=by unfold nI;rw[List.length_append];rfl
       refine Qs ?_
       refine WO.go (σ:=Nat) (fun i=>i≤max t.l 1) (fun i=>max t.l 1-i)
        (fun i=>[(1,.ptr 1 0 0),(3,.sl 7 (g+1) 0 (out.length+1) fc),(4,.ptr 3 0 0),(5,.ptr 5 0 0),(6,.fn (.func 37) [] [.ptr 1 0 0,.ptr 3 0 0,.ptr 5 0 0]),(7,.ptr 6 ga 0),(69,.int .i64 (max (t.l:Int) 1)),(70,.int .i64 (i:Int))])
        (fun i=>BE xs c c0 (a+i) (bJ xs i a (es,ah)) ga (out++[t]) (g+1) fc++[AO.gone,AO.gone]) 0 ag mixed (by kernel_rfl) (Nat.zero_le _) (aI rfl (aI rfl (aI rfl (aI rfl (aI rfl (aI rfl (aI rfl (aI rfl (trivial))))))))) (aI rfl (aI rfl (aI rfl (aI rfl (aI rfl (aI rfl (aI rfl (aI (congrArg (AO.one true (g+1)) hE) (aI trivial (aI trivial trivial)))))))))) (fun _=>rfl) (fun _=>rfl) (fun _=>kT) ?_
       intro k k1 d3
       have k1:k≤max t.l 1:=k1
       have kp:nY xs (a+k) (bJ xs k a (es,ah)):=nY.notes k a i2
       have hle:t.l≤258∧a+t.l≤xs.length:=P5.le
       refine Qs ?_
       refine And.intro (fun q5=>?_) (fun q5=>?_)
       ·have nk:k<max t.l 1:=by
         have q5:(k:Int)<max (t.l:Int) 1:=of_decide_eq_true q5
         omega
        refine Qs ?_
        refine kR (i:=a+k) (E:=[.one true ga (.cells [.int .i64 ((a+k:Nat):Int)]),.one true (g+1) (nI (out++[t]) fc),.gone,.gone]) hx hc vm hb (by omega) kp ?_
        rw[←dk]
        refine Qs ?_
        refine RO.same (k+1) (show k+1≤max t.l 1 from nk) (show max t.l 1-(k+1)<max t.l 1-k from Nat.sub_lt_sub_left nk (Nat.lt_succ_self k)) (aI rfl (aI rfl (aI rfl (aI rfl (aI rfl (aI rfl (aI rfl (aI rfl (trivial))))))))) (aI rfl (aI rfl (aI rfl (aI rfl (aI rfl (aI rfl (aI rfl (aI rfl (aI trivial (aI trivial (trivial)))))))))))
       ·have nk:k=max t.l 1:=by
         have q5:¬(k:Int)<max (t.l:Int) 1:=of_decide_eq_false q5
         omega
        subst nk
        refine Qs ?_
        refine RO.mk (a+max t.l 1,bJ xs (max t.l 1) a (es,ah),ga+1,out++[t],g+1,fc)
         [(1,.ptr 1 0 0),(3,.sl 7 (g+1) 0 (out.length+1) fc),(4,.ptr 3 0 0),(5,.ptr 5 0 0),(6,.fn (.func 37) [] [.ptr 1 0 0,.ptr 3 0 0,.ptr 5 0 0]),(7,.ptr 10 0 0)] _ ⟨by omega,kp,by rw[List.length_append];exact qE,by rw[List.length_append];show out.length+1≤_;omega,Pw⟩ (show xs.length-(a+max t.l 1)<xs.length-a by omega)
         (aI rfl (aI rfl (aI rfl (aI rfl (aI rfl (aI rfl (trivial))))))) rfl (Vw.move (i:=6) (k:=10) rfl rfl rfl (aI mZ.same (aI ?_ (aI mZ.same (aI mZ.same (aI mZ.same (aI (.inr (.inr ⟨_,rfl,rfl⟩)) trivial))))))) (aI rfl (aI rfl (aI rfl (aI rfl (aI rfl (aI rfl (aI rfl (aI rfl (trivial)))))))))
        exact .inl (by rw[List.length_append];rfl)
     ·have hd:¬a-(p-1)≤32768:=by have r2:¬(a:Int)-((p:Int)-1)≤32768:=of_decide_eq_false r2;omega
      obtain⟨p,rfl⟩:∃p',p=p'+1:=⟨p-1,by omega⟩
      rw[dR,if_neg (fun x=>hd x.2.1)]at j2
      subst j2
      refine Qs ?_
      refine And.intro (fun q hq=>?_) ?_
      ·obtain rfl:q=0:=by have:q<1:=hq;omega
       exact⟨rfl,rfl⟩
      refine Qs ?_
      refine⟨fun j=>((out++[t]).getD j default).row,fun q hq=>?_,fun fc qE=>?_⟩
      ·by_cases eI:q<out.length
       ·exact((dB hq).trans (if_pos eI)).trans (if_pos eI).symm
       ·obtain rfl:q=out.length:=by have:q<out.length+1:=hq;omega
        refine((dB hq).trans (if_neg eI)).trans (Eq.trans ?_ (if_neg eI).symm)
        rw[Nat.sub_self]
        rfl
      have hE:nI (out++[t]) fc=.cI 3 (out.length+1) (fun j=>((out++[t]).getD j default).row) fc:=by unfold nI;rw[List.length_append];rfl
      refine Qs ?_
      refine WO.go (σ:=Nat) (fun i=>i≤max t.l 1) (fun i=>max t.l 1-i)
       (fun i=>[(1,.ptr 1 0 0),(3,.sl 7 (g+1) 0 (out.length+1) fc),(4,.ptr 3 0 0),(5,.ptr 5 0 0),(6,.fn (.func 37) [] [.ptr 1 0 0,.ptr 3 0 0,.ptr 5 0 0]),(7,.ptr 6 ga 0),(69,.int .i64 (max (t.l:Int) 1)),(70,.int .i64 (i:Int))])
       (fun i=>BE xs c c0 (a+i) (bJ xs i a (es,ah)) ga (out++[t]) (g+1) fc++[AO.gone,AO.gone]) 0 ag mixed (by kernel_rfl) (Nat.zero_le _) (aI rfl (aI rfl (aI rfl (aI rfl (aI rfl (aI rfl (aI rfl (aI rfl (trivial))))))))) (aI rfl (aI rfl (aI rfl (aI rfl (aI rfl (aI rfl (aI rfl (aI (congrArg (AO.one true (g+1)) hE) (aI trivial (aI trivial trivial)))))))))) (fun _=>rfl) (fun _=>rfl) (fun _=>kT) ?_
      intro k k1 d3
      have k1:k≤max t.l 1:=k1
      have kp:nY xs (a+k) (bJ xs k a (es,ah)):=nY.notes k a i2
      have hle:t.l≤258∧a+t.l≤xs.length:=P5.le
      refine Qs ?_
      refine And.intro (fun q5=>?_) (fun q5=>?_)
      ·have nk:k<max t.l 1:=by
        have q5:(k:Int)<max (t.l:Int) 1:=of_decide_eq_true q5
        omega
       refine Qs ?_
       refine kR (i:=a+k) (E:=[.one true ga (.cells [.int .i64 ((a+k:Nat):Int)]),.one true (g+1) (nI (out++[t]) fc),.gone,.gone]) hx hc vm hb (by omega) kp ?_
       rw[←dk]
       refine Qs ?_
       refine RO.same (k+1) (show k+1≤max t.l 1 from nk) (show max t.l 1-(k+1)<max t.l 1-k from Nat.sub_lt_sub_left nk (Nat.lt_succ_self k)) (aI rfl (aI rfl (aI rfl (aI rfl (aI rfl (aI rfl (aI rfl (aI rfl (trivial))))))))) (aI rfl (aI rfl (aI rfl (aI rfl (aI rfl (aI rfl (aI rfl (aI rfl (aI trivial (aI trivial (trivial)))))))))))
      ·have nk:k=max t.l 1:=by
        have q5:¬(k:Int)<max (t.l:Int) 1:=of_decide_eq_false q5
        omega
       subst nk
       refine Qs ?_
       refine RO.mk (a+max t.l 1,bJ xs (max t.l 1) a (es,ah),ga+1,out++[t],g+1,fc)
        [(1,.ptr 1 0 0),(3,.sl 7 (g+1) 0 (out.length+1) fc),(4,.ptr 3 0 0),(5,.ptr 5 0 0),(6,.fn (.func 37) [] [.ptr 1 0 0,.ptr 3 0 0,.ptr 5 0 0]),(7,.ptr 10 0 0)] _ ⟨by omega,kp,by rw[List.length_append];exact qE,by rw[List.length_append];show out.length+1≤_;omega,Pw⟩ (show xs.length-(a+max t.l 1)<xs.length-a by omega)
        (aI rfl (aI rfl (aI rfl (aI rfl (aI rfl (aI rfl (trivial))))))) rfl (Vw.move (i:=6) (k:=10) rfl rfl rfl (aI mZ.same (aI ?_ (aI mZ.same (aI mZ.same (aI mZ.same (aI (.inr (.inr ⟨_,rfl,rfl⟩)) trivial))))))) (aI rfl (aI rfl (aI rfl (aI rfl (aI rfl (aI rfl (aI rfl (aI rfl (trivial)))))))))
       exact .inl (by rw[List.length_append];rfl)
    ·have hp:p=0:=by have r1:¬(0:Int)<(p:Int):=of_decide_eq_false r1;omega
     subst hp
     have j2:t=B:=j2
     subst j2
     refine Qs ?_
     refine And.intro (fun q hq=>?_) ?_
     ·obtain rfl:q=0:=by have:q<1:=hq;omega
      exact⟨rfl,rfl⟩
     refine Qs ?_
     refine⟨fun j=>((out++[t]).getD j default).row,fun q hq=>?_,fun fc qE=>?_⟩
     ·by_cases eI:q<out.length
      ·exact((dB hq).trans (if_pos eI)).trans (if_pos eI).symm
      ·obtain rfl:q=out.length:=by have:q<out.length+1:=hq;omega
       refine((dB hq).trans (if_neg eI)).trans (Eq.trans ?_ (if_neg eI).symm)
       rw[Nat.sub_self]
       rfl
     have hE:nI (out++[t]) fc=.cI 3 (out.length+1) (fun j=>((out++[t]).getD j default).row) fc:=by unfold nI;rw[List.length_append];rfl
     refine Qs ?_
     refine WO.go (σ:=Nat) (fun i=>i≤max t.l 1) (fun i=>max t.l 1-i)
      (fun i=>[(1,.ptr 1 0 0),(3,.sl 7 (g+1) 0 (out.length+1) fc),(4,.ptr 3 0 0),(5,.ptr 5 0 0),(6,.fn (.func 37) [] [.ptr 1 0 0,.ptr 3 0 0,.ptr 5 0 0]),(7,.ptr 6 ga 0),(69,.int .i64 (max (t.l:Int) 1)),(70,.int .i64 (i:Int))])
      (fun i=>BE xs c c0 (a+i) (bJ xs i a (es,ah)) ga (out++[t]) (g+1) fc++[AO.gone,AO.gone]) 0 ag mixed (by kernel_rfl) (Nat.zero_le _) (aI rfl (aI rfl (aI rfl (aI rfl (aI rfl (aI rfl (aI rfl (aI rfl (trivial))))))))) (aI rfl (aI rfl (aI rfl (aI rfl (aI rfl (aI rfl (aI rfl (aI (congrArg (AO.one true (g+1)) hE) (aI trivial (aI trivial trivial)))))))))) (fun _=>rfl) (fun _=>rfl) (fun _=>kT) ?_
     intro k k1 d3
     have k1:k≤max t.l 1:=k1
     have kp:nY xs (a+k) (bJ xs k a (es,ah)):=nY.notes k a i2
     have hle:t.l≤258∧a+t.l≤xs.length:=P5.le
     refine Qs ?_
     refine And.intro (fun q5=>?_) (fun q5=>?_)
     ·have nk:k<max t.l 1:=by
       have q5:(k:Int)<max (t.l:Int) 1:=of_decide_eq_true q5
       omega
      refine Qs ?_
      refine kR (i:=a+k) (E:=[.one true ga (.cells [.int .i64 ((a+k:Nat):Int)]),.one true (g+1) (nI (out++[t]) fc),.gone,.gone]) hx hc vm hb (by omega) kp ?_
      rw[←dk]
      refine Qs ?_
      refine RO.same (k+1) (show k+1≤max t.l 1 from nk) (show max t.l 1-(k+1)<max t.l 1-k from Nat.sub_lt_sub_left nk (Nat.lt_succ_self k)) (aI rfl (aI rfl (aI rfl (aI rfl (aI rfl (aI rfl (aI rfl (aI rfl (trivial))))))))) (aI rfl (aI rfl (aI rfl (aI rfl (aI rfl (aI rfl (aI rfl (aI rfl (aI trivial (aI trivial (trivial)))))))))))
     ·have nk:k=max t.l 1:=by
       have q5:¬(k:Int)<max (t.l:Int) 1:=of_decide_eq_false q5
       omega
      subst nk
      refine Qs ?_
      refine RO.mk (a+max t.l 1,bJ xs (max t.l 1) a (es,ah),ga+1,out++[t],g+1,fc)
       [(1,.ptr 1 0 0),(3,.sl 7 (g+1) 0 (out.length+1) fc),(4,.ptr 3 0 0),(5,.ptr 5 0 0),(6,.fn (.func 37) [] [.ptr 1 0 0,.ptr 3 0 0,.ptr 5 0 0]),(7,.ptr 10 0 0)] _ ⟨by omega,kp,by rw[List.length_append];exact qE,by rw[List.length_append];show out.length+1≤_;omega,Pw⟩ (show xs.length-(a+max t.l 1)<xs.length-a by omega)
       (aI rfl (aI rfl (aI rfl (aI rfl (aI rfl (aI rfl (trivial))))))) rfl (Vw.move (i:=6) (k:=10) rfl rfl rfl (aI mZ.same (aI ?_ (aI mZ.same (aI mZ.same (aI mZ.same (aI (.inr (.inr ⟨_,rfl,rfl⟩)) trivial))))))) (aI rfl (aI rfl (aI rfl (aI rfl (aI rfl (aI rfl (aI rfl (aI rfl (trivial)))))))))
      exact .inl (by rw[List.length_append];rfl)
  ·have h3:¬a+3≤xs.length:=by simp only[decide_eq_false_iff_not]at q2;omega
   rw[if_neg h3]at hB
   have j2:(⟨xs.getD a 0,0,0⟩:Tk)=B:=hB
   subst j2
   refine Qs ?_
   refine And.intro (fun q hq=>?_) ?_
   ·obtain rfl:q=0:=by have:q<1:=hq;omega
    exact⟨rfl,rfl⟩
   refine Qs ?_
   refine⟨fun j=>((out++[(⟨xs.getD a 0,0,0⟩:Tk)]).getD j default).row,fun q hq=>?_,fun fc qE=>?_⟩
   ·by_cases eI:q<out.length
    ·exact((dB hq).trans (if_pos eI)).trans (if_pos eI).symm
    ·obtain rfl:q=out.length:=by have:q<out.length+1:=hq;omega
     refine((dB hq).trans (if_neg eI)).trans (Eq.trans ?_ (if_neg eI).symm)
     rw[Nat.sub_self]
     rfl
   have hE:nI (out++[(⟨xs.getD a 0,0,0⟩:Tk)]) fc=.cI 3 (out.length+1) (fun j=>((out++[(⟨xs.getD a 0,0,0⟩:Tk)]).getD j default).row) fc:=by unfold nI;rw[List.length_append];rfl
   refine Qs ?_
   refine WO.go (σ:=Nat) (fun i=>i≤max (⟨xs.getD a 0,0,0⟩:Tk).l 1) (fun i=>max (⟨xs.getD a 0,0,0⟩:Tk).l 1-i)
    (fun i=>[(1,.ptr 1 0 0),(3,.sl 7 (g+1) 0 (out.length+1) fc),(4,.ptr 3 0 0),(5,.ptr 5 0 0),(6,.fn (.func 37) [] [.ptr 1 0 0,.ptr 3 0 0,.ptr 5 0 0]),(7,.ptr 6 ga 0),(69,.int .i64 (max ((⟨xs.getD a 0,0,0⟩:Tk).l:Int) 1)),(70,.int .i64 (i:Int))])
    (fun i=>BE xs c c0 (a+i) (bJ xs i a (es,ah)) ga (out++[(⟨xs.getD a 0,0,0⟩:Tk)]) (g+1) fc++[AO.gone,AO.gone]) 0 ag mixed (by kernel_rfl) (Nat.zero_le _) (aI rfl (aI rfl (aI rfl (aI rfl (aI rfl (aI rfl (aI rfl (aI rfl (trivial))))))))) (aI rfl (aI rfl (aI rfl (aI rfl (aI rfl (aI rfl (aI rfl (aI (congrArg (AO.one true (g+1)) hE) (aI trivial (aI trivial trivial)))))))))) (fun _=>rfl) (fun _=>rfl) (fun _=>kT) ?_
   intro k k1 d3
   have k1:k≤max (⟨xs.getD a 0,0,0⟩:Tk).l 1:=k1
   have kp:nY xs (a+k) (bJ xs k a (es,ah)):=nY.notes k a i2
   have hle:(⟨xs.getD a 0,0,0⟩:Tk).l≤258∧a+(⟨xs.getD a 0,0,0⟩:Tk).l≤xs.length:=P5.le
   refine Qs ?_
   refine And.intro (fun q5=>?_) (fun q5=>?_)
   ·have nk:k<max (⟨xs.getD a 0,0,0⟩:Tk).l 1:=by
     have q5:(k:Int)<max ((⟨xs.getD a 0,0,0⟩:Tk).l:Int) 1:=of_decide_eq_true q5
     omega
    refine Qs ?_
    refine kR (i:=a+k) (E:=[.one true ga (.cells [.int .i64 ((a+k:Nat):Int)]),.one true (g+1) (nI (out++[(⟨xs.getD a 0,0,0⟩:Tk)]) fc),.gone,.gone]) hx hc vm hb (by omega) kp ?_
    rw[←dk]
    refine Qs ?_
    refine RO.same (k+1) (show k+1≤max (⟨xs.getD a 0,0,0⟩:Tk).l 1 from nk) (show max (⟨xs.getD a 0,0,0⟩:Tk).l 1-(k+1)<max (⟨xs.getD a 0,0,0⟩:Tk).l 1-k from Nat.sub_lt_sub_left nk (Nat.lt_succ_self k)) (aI rfl (aI rfl (aI rfl (aI rfl (aI rfl (aI rfl (aI rfl (aI rfl (trivial))))))))) (aI rfl (aI rfl (aI rfl (aI rfl (aI rfl (aI rfl (aI rfl (aI rfl (aI trivial (aI trivial (trivial)))))))))))
   ·have nk:k=max (⟨xs.getD a 0,0,0⟩:Tk).l 1:=by
     have q5:¬(k:Int)<max ((⟨xs.getD a 0,0,0⟩:Tk).l:Int) 1:=of_decide_eq_false q5
     omega
    subst nk
    refine Qs ?_
    refine RO.mk (a+max (⟨xs.getD a 0,0,0⟩:Tk).l 1,bJ xs (max (⟨xs.getD a 0,0,0⟩:Tk).l 1) a (es,ah),ga+1,out++[(⟨xs.getD a 0,0,0⟩:Tk)],g+1,fc)
     [(1,.ptr 1 0 0),(3,.sl 7 (g+1) 0 (out.length+1) fc),(4,.ptr 3 0 0),(5,.ptr 5 0 0),(6,.fn (.func 37) [] [.ptr 1 0 0,.ptr 3 0 0,.ptr 5 0 0]),(7,.ptr 10 0 0)] _ ⟨by omega,kp,by rw[List.length_append];exact qE,by rw[List.length_append];show out.length+1≤_;omega,Pw⟩ (show xs.length-(a+max (⟨xs.getD a 0,0,0⟩:Tk).l 1)<xs.length-a by omega)
     (aI rfl (aI rfl (aI rfl (aI rfl (aI rfl (aI rfl (trivial))))))) rfl (Vw.move (i:=6) (k:=10) rfl rfl rfl (aI mZ.same (aI ?_ (aI mZ.same (aI mZ.same (aI mZ.same (aI (.inr (.inr ⟨_,rfl,rfl⟩)) trivial))))))) (aI rfl (aI rfl (aI rfl (aI rfl (aI rfl (aI rfl (aI rfl (aI rfl (trivial)))))))))
    exact .inl (by rw[List.length_append];rfl)
 ·have ha:a=xs.length:=by have q1:¬(a:Int)<(xs.length:Int):=of_decide_eq_false q1;omega
  have ho:out=b9 xs:=by rw[←i5,show xs.length-a=0 by omega];rfl
  refine Qs ?_
  refine⟨[.eZ 0,.own 7],.sl 1 g 0 out.length co,[.one false 0 (.ints .u8 xs c),.one true g (nI out co)],⟨⟨⟨rfl,_,rfl,rfl⟩,⟨rfl,rfl⟩,trivial⟩,rfl,⟨trivial,fun j=>rfl,trivial⟩,rfl,fun i hi=>?_⟩,?_⟩
  ·match i,hi with
   |0,_=>exact .inr rfl
  ·subst ho
   exact h g co i3
end
end Go.Proofs.Ytibadaomjlkoaaa
open Go.RowKit
namespace Go.Proofs.Ytibadaomjlkoaaa
set_option maxRecDepth 10000
structure WX where
 t:AV
 a:AV
 d:AV
 gT:Nat
 gA:Nat
 gD:Nat
 cT:ae
 cA:ae
 cD:ae
 nb:AV.rN 5 [t,a,d]=true∧cT.nb 5∧cA.nb 5∧cD.nb 5
 Ue:AV.rN 6 [t,a,d]=true∧cT.nb 6∧cA.nb 6∧cD.nb 6
def JP (X:WX)(g:Nat)(c:Nat)(xs:List Int)(a n:Int):AH:=[.one true 0 (.cells [.sl 1 g 0 xs.length c,.int .u32 a,.int .i64 n,X.t,X.a,X.d]),.one true g (.ints .u8 xs c),.one true X.gT X.cT,.one true X.gA X.cA,.one true X.gD X.cD]
def fR (X:WX)(row:List Bool)(g c:Nat):AH:=JP X g c (aN row) (num (rest row)) ((row.length%8:Nat):Int)
theorem WX.ok (X:WX){g c:Nat}{xs:List Int}{a n:Int}:lJ 5 (JP X g c xs a n):=⟨X.nb.1,trivial,X.nb.2.1,X.nb.2.2.1,X.nb.2.2.2,trivial⟩
theorem WX.Qo (X:WX){row:List Bool}{g c g' c':Nat}{ys:List Int}:lJ 6 (fR X row g c++[.one true g' (.ints .u8 ys c')]):=⟨X.Ue.1,trivial,X.Ue.2.1,X.Ue.2.2.1,X.Ue.2.2.2,trivial,trivial⟩
section
variable{X:WX}
theorem FP {g c:Nat}{xs:List Int}{a n:Int}(hn:0≤n∧n<8)(hl:xs.length≤1048576){K Kp:AV→AH→Prop}
 (h:K (.int .i64 (8*xs.length+n)) (JP X g c xs a n)):aa Try.prog 68 [.ptr 0 0 0] (JP X g c xs a n) K Kp:=by
 refine Nz (fun _=>[0]) [] rfl ?_
 repeat(refine And.intro (by first|exact rfl|omega) ?_)
 exact h
theorem FT {xs:List Int}{v a n k:Int}{g c:Nat}(hn:0≤n∧n<8)(hk:0≤k∧k≤32)(hl:xs.length≤1048576)(Uk:xs.length≤c){Kp}:
 aa Try.prog 66 [.ptr 0 0 0,.int .u32 v,.int .i64 k] (JP X g c xs a n)
  (fun r M=>∃g' c' DA a' n',r=.aG []∧M=JP X g' c' DA a' n'∧DA.length≤c'∧z6 xs (b8 .or .u32 a (bC .u32 v n)) (n+k) ((n+k).toNat/8)=(DA,a',n')) Kp:=by
 refine NB (fun _=>[0]) [] rfl ?_
 repeat(refine And.intro (by first|exact rfl|omega) ?_)
 refine WA.loop (σ:=Nat×Nat×List Int×Int×Int) (fun(g',c',DA,a',n')=>DA.length≤c'∧0≤n'∧n'≤40∧DA.length*8+n'≤8*xs.length+40∧z6 xs (b8 .or .u32 a (bC .u32 v n)) (n+k) ((n+k).toNat/8)=z6 DA a' n' (n'.toNat/8))
  (fun(g',c',DA,a',n')=>n'.toNat) (fun _=>[(0,.ptr 0 0 0)]) (fun(g',c',DA,a',n')=>JP X g' c' DA a' n') (g,c,xs,b8 .or .u32 a (bC .u32 v n),n+k) ag mixed (by kernel_rfl)
  ⟨?_,⟨rfl,trivial⟩,⟨rfl,rfl,rfl,rfl,rfl,trivial⟩⟩ (fun _=>rfl) (fun _=>rfl) (fun _=>X.ok) ?_
 ·refine⟨by omega,by omega,by omega,by omega,rfl⟩
 ·rintro⟨g',c',DA,a',n'⟩ ⟨h0,h1,h2,h3,h4⟩ d
  repeat(refine And.intro (by first|exact rfl|omega) ?_)
  refine And.intro (fun hc=>?_) (fun hc=>?_)
  ·simp only[decide_eq_true_eq]at hc
   repeat(refine And.intro (by first|exact rfl|exact Nat.le_of_ble_eq_true rfl|omega) ?_)
   intro ys rP
   obtain rfl:ys=[a'%256]:=rP
   repeat(refine And.intro (by first|exact rfl|omega|(dsimp only;omega)) ?_)
   intro c1 tW
   repeat(refine And.intro (by first|exact rfl|omega) ?_)
   refine⟨(g'+1,c1,DA++[a'%256],cf .u32 a' 8,n'-8),⟨⟨by simp;omega,by omega,by omega,by simp;omega,?_⟩,by simp only;omega⟩,⟨rfl,trivial⟩,⟨?_,rfl,rfl,rfl,rfl,trivial⟩⟩
   ·rw[h4,show n'.toNat/8=(n'-8).toNat/8+1 from by omega];rfl
   ·simp only[JP,List.length_append,List.length_cons,List.length_nil];rfl
  ·simp only[decide_eq_false_iff_not]at hc
   refine⟨g',c',DA,a',n',rfl,rfl,h0,?_⟩
   have:n'.toNat/8=0:=by omega
   rw[h4,this];rfl
theorem v7 {row:List Bool}{v n:Int}{g c:Nat}(hv:0≤v)(hr:row.length≤8388608)(hc:(aN row).length≤c){Kp}:
 aa Try.prog 40 [.ptr 0 0 0,.int .u32 v,.int .i64 n] (fR X row g c)
  (fun r M=>∃g' c',r=.int .i64 (iX row v n).2∧M=fR X (iX row v n).1 g' c'∧(aN (iX row v n).1).length≤c'∧(iX row v n).1.length≤8388608) Kp:=by
 have bO:=kO row
 refine NF (fun _=>[0]) [] rfl ?_
 repeat(refine And.intro (by first|exact rfl|omega) ?_)
 refine zV fun b hb=>?_
 rw[Eg hv]at hb
 have BV:xY v n=b:=by cases b<;>cases hm:xY v n<;>simp_all
 clear hb
 refine And.intro (fun h1=>?_) (fun h1=>?_)
 ·have lG:b=false:=by simpa using h1
  subst lG
  have e:iX row v n=(row,1):=by simp[iX,BV]
  rw[e]
  exact⟨g,c,rfl,rfl,hc,hr⟩
 ·have lG:b=true:=by simpa using h1
  subst lG
  have hm:=BV
  simp only[xY,decide_eq_true_eq]at hm
  refine FP (by omega) (by omega) ?_
  repeat(refine And.intro (by first|exact rfl|omega) ?_)
  have hlen:(8*((aN row).length:Int)+((row.length%8:Nat):Int))=row.length:=by rw[bO];omega
  refine And.intro (fun h2=>?_) (fun h2=>?_)
  ·simp only[decide_eq_true_eq]at h2
   rw[hlen]at h2
   have e:iX row v n=(row,2):=by simp[iX,BV,h2]
   rw[e]
   exact⟨g,c,rfl,rfl,hc,hr⟩
  ·simp only[decide_eq_false_iff_not]at h2
   rw[hlen]at h2
   refine aa.mono (FT (by omega) (by omega) (by omega) hc) ?_ (fun _ _ h=>h)
   rintro r M ⟨g',c',DA,a',n',rfl,rfl,Uk,hL⟩
   obtain⟨k,rfl⟩:=Int.eq_ofNat_of_zero_le hm.1
   rw[show(((row.length%8:Nat):Int)+(k:Int)).toNat/8=(row.length%8+k)/8 from by omega,H2 row v k (by omega) hv (by simpa using hm.2.2)]at hL
   injection hL with e1 e2;injection e2 with e2 e3
   subst e1;subst e2;subst e3
   have e:iX row v k=(row++bitsOf v k,0):=by simp only[iX,BV,Int.toNat_natCast];rw[if_neg (by simp),if_neg (by omega)]
   rw[e]
   exact⟨g',c',rfl,rfl,Uk,by simp[ai];omega⟩
theorem AE {row:List Bool}{g c:Nat}(hr:row.length≤8388608)(hc:(aN row).length≤c){Kp}:
 aa Try.prog 18 [.ptr 0 0 0] (fR X row g c)
  (fun r M=>∃g' c',r=.sl 5 g' 0 (bg row).length c'∧M=fR X row g c++[.one true g' (.ints .u8 (bg row) c')]∧(bg row).length≤c') Kp:=by
 have bO:=kO row
 refine aa.cg ?_
 refine NI (fun _=>[0]) [] rfl ?_
 repeat(refine And.intro (by first|exact rfl|omega) ?_)
 refine aa.lift [.ep 1 g 0] (uB (xs:=aN row) (c0:=c) (c:=c) (Kp:=fun _ _=>False) (by omega)) rfl rfl ⟨⟨_,_,_,rfl,ak rfl,eh.same rfl (fun h=>h)⟩,trivial⟩ ⟨trivial,trivial⟩ ?_ (fun _ _ h=>h.elim)
 rintro r M ⟨g',c',rfl,rfl,rr⟩
 refine⟨⟨rfl,rfl⟩,?_⟩
 repeat(refine And.intro (by first|exact rfl|omega) ?_)
 refine And.intro (fun h1=>?_) (fun h1=>?_)
 ·simp only[decide_eq_true_eq]at h1
  repeat(refine And.intro (by first|exact rfl|exact Nat.le_of_ble_eq_true rfl|exact⟨rfl,rfl,rfl,Nat.le_refl _,rr⟩|omega) ?_)
  intro ys rP
  obtain rfl:ys=[num (rest row)%256]:=rP
  repeat(refine And.intro (by first|exact rfl|omega|(dsimp only;omega)) ?_)
  intro c1 tW
  have h8:¬row.length%8=0:=by omega
  have aZ:=gy (rest row)
  rw[jj]at aZ
  have P7:(2:Int)^(row.length%8)≤2^7:=by exact_mod_cast Nat.pow_le_pow_right (by omega) (by omega)
  have hm:num (rest row)%256=num (rest row):=Int.emod_eq_of_lt (num_nonneg _) (by omega)
  have hb:bg row=aN row++[num (rest row)%256]:=by simp[bg,h8,hm]
  refine⟨fR X row g c++[AO.one true (g'+1) (.ints .u8 (aN row++[num (rest row)%256]) c1)],(aI rfl (aI rfl (aI rfl (aI rfl (aI rfl (aI rfl trivial)))))),X.Qo,rfl,g'+1,c1,?_,?_,?_⟩
  ·rw[hb,List.length_append];rfl
  ·rw[hb]
  ·rw[hb,List.length_append];exact tW
 ·simp only[decide_eq_false_iff_not]at h1
  have hb:bg row=aN row:=by
   have:row.length%8=0:=by omega
   simp[bg,this]
  rw[hb]
  exact⟨fR X row g c++[AO.one true g' (.ints .u8 (aN row) c')],(aI rfl (aI rfl (aI rfl (aI rfl (aI rfl (aI rfl trivial)))))),X.Qo,rfl,g',c',rfl,rfl,rr⟩
end
end Go.Proofs.Ytibadaomjlkoaaa
open Go.RowKit
namespace Go.Proofs.Ytibadaomjlkoaaa
set_option maxRecDepth 10000
def dX (ts:List Tk)(gt ct:Nat)(A:List Int)(ga ca:Nat)(D:List Int)(gd cd:Nat):WX:=
 ⟨.sl 2 gt 0 ts.length ct,.sl 3 ga 0 A.length ca,.sl 4 gd 0 D.length cd,gt,ga,gd,nI ts ct,.ints .u8 A ca,.ints .u8 D cd,⟨rfl,GZ _ _ _,trivial,trivial⟩,⟨rfl,GZ _ _ _,trivial,trivial⟩⟩
section
variable{K Kp:AV→AH→Prop}{X:WX}{row:List Bool}{g c:Nat}
theorem EY (E:AH){f:Nat}{args:List AV}(h:aa Try.prog f args (fR X row g c) (fun r M=>∃g' c' va,M=fR X va g' c'∧r.nb 5=true∧K r (M++E)) (fun _ _=>False))
 (ha:AV.rN 5 args=true):aa Try.prog f args (fR X row g c++E) K Kp:=by
 refine aa.frame E h ha X.ok (fun o ho=>?_) ?_ (fun _ _ h=>h.elim)
 ·simp only[fR,JP,List.mem_cons,List.not_mem_nil,or_false]at ho
  rcases ho with rfl|rfl|rfl|rfl|rfl<;>rfl
 ·rintro r M' ⟨g',c',va,rfl,h1,h2⟩
  exact⟨rfl,⟨rfl,rfl,rfl,rfl,rfl,rfl⟩,X.ok,h1,h2⟩
theorem kK (E:AH){v n:Int}(hv:0≤v)(hr:row.length≤8388608)(hc:(aN row).length≤c)
 (h:∀g' c',(aN (iX row v n).1).length≤c'→(iX row v n).1.length≤8388608→K (.int .i64 (iX row v n).2) (fR X (iX row v n).1 g' c'++E)):
 aa Try.prog 40 [.ptr 0 0 0,.int .u32 v,.int .i64 n] (fR X row g c++E) K Kp:=by
 refine EY E (aa.mono (v7 (X:=X) (Kp:=fun _ _=>False) hv hr hc) ?_ (fun _ _ h=>h)) rfl
 rintro r M ⟨g',c',rfl,rfl,h1,h2⟩
 exact⟨g',c',_,rfl,rfl,h g' c' h1 h2⟩
def codeF (row:List Bool)(cs ls:List Int)(s:Nat)(ex n:Int):List Bool:=(iX (iX row (cs.getD s 0) (ls.getD s 0)).1 ex n).1
end
section
variable{K Kp:AV→AH→Prop}{row:List Bool}{g c:Nat}{ts:List Tk}{gt ct:Nat}{A:List Int}{ga ca:Nat}{D:List Int}{gd cd:Nat}
theorem Gw {cs ls:List Int}{c1 c2 c3 c4 s:Nat}{ex n:Int}(fZ:s<cs.length)(nD:s<ls.length)(uU:0≤cs.getD s 0∧cs.getD s 0<65536)(BX:0≤ls.getD s 0∧ls.getD s 0<256)(hex:0≤ex∧ex<4294967296)
 (hr:row.length≤8388608)(hc:(aN row).length≤c)
 (h:∀g' c',(aN (codeF row cs ls s ex n)).length≤c'→(codeF row cs ls s ex n).length≤8388608→K (.aG []) (fR (dX ts gt ct A ga ca D gd cd) (codeF row cs ls s ex n) g' c'++[.one false 0 (.ints .u16 cs c1),.one false 0 (.ints .u8 ls c2)])):
 aa Try.prog 48 [.ptr 0 0 0,.sl 5 0 0 cs.length c3,.sl 6 0 0 ls.length c4,.agg [.int .i64 (s:Int),.int .i64 ex,.int .i64 n]]
  (fR (dX ts gt ct A ga ca D gd cd) row g c++[.one false 0 (.ints .u16 cs c1),.one false 0 (.ints .u8 ls c2)]) K Kp:=by
 have R7:0≤ls.getD ((s:Int).toNat+0) 0∧ls.getD ((s:Int).toNat+0) 0<256:=BX
 have hm:cs.getD ((s:Int).toNat+0) 0%4294967296=cs.getD s 0:=by show cs.getD s 0%4294967296=cs.getD s 0;exact Int.emod_eq_of_lt uU.1 (by omega)
 have Ip:ex%4294967296=ex:=Int.emod_eq_of_lt hex.1 hex.2
 refine aa.cg ?_
 refine Bg (fun _=>[5,6,7]) [] rfl ?_
 refine Qs ?_
 refine kK (X:=dX ts gt ct A ga ca D gd cd) [.one false 0 (.ints .u16 cs c1),.one false 0 (.ints .u8 ls c2),.one true 0 (.cells [.int .i64 (s:Int),.int .i64 ex,.int .i64 n])] (v:=cs.getD ((s:Int).toNat+0) 0%4294967296) (n:=ls.getD ((s:Int).toNat+0) 0) (by rw[hm];exact uU.1) hr hc (fun g1 X0 h1 h2=>?_)
 rw[hm]at h1 h2⊢
 refine Qs ?_
 refine kK (X:=dX ts gt ct A ga ca D gd cd) [.one false 0 (.ints .u16 cs c1),.one false 0 (.ints .u8 ls c2),.one true 0 (.cells [.int .i64 (s:Int),.int .i64 ex,.int .i64 n])] (v:=ex%4294967296) (n:=n) (by rw[Ip];exact hex.1) h2 h1 (fun g2 Nq h3 h4=>?_)
 rw[Ip]at h3 h4⊢
 refine Qs ?_
 exact⟨fR (dX ts gt ct A ga ca D gd cd) (codeF row cs ls s ex n) g2 Nq++[AO.one false 0 (.ints .u16 cs c1),AO.one false 0 (.ints .u8 ls c2)],(aI rfl (aI rfl (aI rfl (aI rfl (aI rfl (aI rfl (aI rfl (trivial)))))))),⟨rfl,trivial,(fun j=>rfl),trivial,trivial,trivial,trivial,trivial⟩,rfl,h g2 Nq h3 h4⟩
theorem Cj {cs:List Int}{c1 c3 s:Nat}{ex n:Int}(fZ:s<cs.length)(nD:s<A.length)(uU:0≤cs.getD s 0∧cs.getD s 0<65536)(BX:0≤A.getD s 0∧A.getD s 0<256)(hex:0≤ex∧ex<4294967296)
 (hr:row.length≤8388608)(hc:(aN row).length≤c)
 (h:∀g' c',(aN (codeF row cs A s ex n)).length≤c'→(codeF row cs A s ex n).length≤8388608→K (.aG []) (fR (dX ts gt ct A ga ca D gd cd) (codeF row cs A s ex n) g' c'++[.one false 0 (.ints .u16 cs c1)])):
 aa Try.prog 48 [.ptr 0 0 0,.sl 5 0 0 cs.length c3,.sl 3 ga 0 A.length ca,.agg [.int .i64 (s:Int),.int .i64 ex,.int .i64 n]]
  (fR (dX ts gt ct A ga ca D gd cd) row g c++[.one false 0 (.ints .u16 cs c1)]) K Kp:=by
 have R7:0≤A.getD ((s:Int).toNat+0) 0∧A.getD ((s:Int).toNat+0) 0<256:=BX
 have hm:cs.getD ((s:Int).toNat+0) 0%4294967296=cs.getD s 0:=by show cs.getD s 0%4294967296=cs.getD s 0;exact Int.emod_eq_of_lt uU.1 (by omega)
 have Ip:ex%4294967296=ex:=Int.emod_eq_of_lt hex.1 hex.2
 refine aa.cg ?_
 refine Bg (fun _=>[5,3,6]) [] rfl ?_
 refine Qs ?_
 refine kK (X:=dX ts gt ct A ga ca D gd cd) [.one false 0 (.ints .u16 cs c1),.one true 0 (.cells [.int .i64 (s:Int),.int .i64 ex,.int .i64 n])] (v:=cs.getD ((s:Int).toNat+0) 0%4294967296) (n:=A.getD ((s:Int).toNat+0) 0) (by rw[hm];exact uU.1) hr hc (fun g1 X0 h1 h2=>?_)
 rw[hm]at h1 h2⊢
 refine Qs ?_
 refine kK (X:=dX ts gt ct A ga ca D gd cd) [.one false 0 (.ints .u16 cs c1),.one true 0 (.cells [.int .i64 (s:Int),.int .i64 ex,.int .i64 n])] (v:=ex%4294967296) (n:=n) (by rw[Ip];exact hex.1) h2 h1 (fun g2 Nq h3 h4=>?_)
 rw[Ip]at h3 h4⊢
 refine Qs ?_
 exact⟨fR (dX ts gt ct A ga ca D gd cd) (codeF row cs A s ex n) g2 Nq++[AO.one false 0 (.ints .u16 cs c1)],(aI rfl (aI rfl (aI rfl (aI rfl (aI rfl (aI rfl (trivial))))))),⟨rfl,trivial,(fun j=>rfl),trivial,trivial,trivial,trivial⟩,rfl,h g2 Nq h3 h4⟩
theorem Ci {cs:List Int}{c1 c3 s:Nat}{ex n:Int}(fZ:s<cs.length)(nD:s<D.length)(uU:0≤cs.getD s 0∧cs.getD s 0<65536)(BX:0≤D.getD s 0∧D.getD s 0<256)(hex:0≤ex∧ex<4294967296)
 (hr:row.length≤8388608)(hc:(aN row).length≤c)
 (h:∀g' c',(aN (codeF row cs D s ex n)).length≤c'→(codeF row cs D s ex n).length≤8388608→K (.aG []) (fR (dX ts gt ct A ga ca D gd cd) (codeF row cs D s ex n) g' c'++[.one false 0 (.ints .u16 cs c1)])):
 aa Try.prog 48 [.ptr 0 0 0,.sl 5 0 0 cs.length c3,.sl 4 gd 0 D.length cd,.agg [.int .i64 (s:Int),.int .i64 ex,.int .i64 n]]
  (fR (dX ts gt ct A ga ca D gd cd) row g c++[.one false 0 (.ints .u16 cs c1)]) K Kp:=by
 have R7:0≤D.getD ((s:Int).toNat+0) 0∧D.getD ((s:Int).toNat+0) 0<256:=BX
 have hm:cs.getD ((s:Int).toNat+0) 0%4294967296=cs.getD s 0:=by show cs.getD s 0%4294967296=cs.getD s 0;exact Int.emod_eq_of_lt uU.1 (by omega)
 have Ip:ex%4294967296=ex:=Int.emod_eq_of_lt hex.1 hex.2
 refine aa.cg ?_
 refine Bg (fun _=>[5,4,6]) [] rfl ?_
 refine Qs ?_
 refine kK (X:=dX ts gt ct A ga ca D gd cd) [.one false 0 (.ints .u16 cs c1),.one true 0 (.cells [.int .i64 (s:Int),.int .i64 ex,.int .i64 n])] (v:=cs.getD ((s:Int).toNat+0) 0%4294967296) (n:=D.getD ((s:Int).toNat+0) 0) (by rw[hm];exact uU.1) hr hc (fun g1 X0 h1 h2=>?_)
 rw[hm]at h1 h2⊢
 refine Qs ?_
 refine kK (X:=dX ts gt ct A ga ca D gd cd) [.one false 0 (.ints .u16 cs c1),.one true 0 (.cells [.int .i64 (s:Int),.int .i64 ex,.int .i64 n])] (v:=ex%4294967296) (n:=n) (by rw[Ip];exact hex.1) h2 h1 (fun g2 Nq h3 h4=>?_)
 rw[Ip]at h3 h4⊢
 refine Qs ?_
 exact⟨fR (dX ts gt ct A ga ca D gd cd) (codeF row cs D s ex n) g2 Nq++[AO.one false 0 (.ints .u16 cs c1)],(aI rfl (aI rfl (aI rfl (aI rfl (aI rfl (aI rfl (trivial))))))),⟨rfl,trivial,(fun j=>rfl),trivial,trivial,trivial,trivial⟩,rfl,h g2 Nq h3 h4⟩
end
end Go.Proofs.Ytibadaomjlkoaaa
