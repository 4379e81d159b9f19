import Derived.Test.YtibadaomjlkoaaaGdh
import Derived.Test.YtibadaomjlkoaaaGx
import Derived.Test.YtibadaomjlkoaaaGb
set_option linter.unusedVariables false
set_option linter.unusedSimpArgs false
open Go.RowKit
namespace Go.Proofs.Ytibadaomjlkoaaa
set_option maxRecDepth 10000
section
variable{K Kp:AV→AH→Prop}{xs:List Int}{c c0:Nat}
theorem Cp {f a:Nat}(hx:xs.length≤1000000)(hf:f≤a)(ha:a≤xs.length)(h:K (.int .i64 (dL xs f a:Nat)) [.one false 0 (.ints .u8 xs c)]):
 aa Try.prog 39 [.sl 0 0 0 xs.length c0,.int .i64 (f:Int),.int .i64 (a:Int)] [.one false 0 (.ints .u8 xs c)] K Kp:=by
 refine PY (fun _=>[0]) [] rfl ?_
 refine Qs ?_
 refine WO.go (σ:=Nat) (fun n=>n≤258∧a+n≤xs.length∧jW xs f a (258-n) n=dL xs f a) (fun n=>258-n) (fun n=>[(0,.sl 0 0 0 xs.length c0),(1,.int .i64 (f:Int)),(2,.int .i64 (a:Int)),(7,.int .i64 (n:Int))])
  (fun _=>[.one false 0 (.ints .u8 xs c)]) 0 ae mixed (by kernel_rfl) ⟨by decide,ha,rfl⟩ (aI rfl (aI rfl (aI rfl (aI rfl (trivial))))) (aI rfl (trivial)) (fun _=>rfl) (fun _=>rfl) (fun _=>⟨trivial,trivial⟩) ?_
 rintro n ⟨h1,h2,h3⟩ d
 refine Qs ?_
 refine And.intro (fun q1=>?_) (fun q1=>?_)
 ·have hn:n<258:=by simp only[decide_eq_true_eq]at q1;omega
  refine Qs ?_
  refine And.intro (fun q2=>?_) (fun q2=>?_)
  ·have G8:a+n<xs.length:=by simp only[decide_eq_true_eq]at q2;omega
   refine Qs ?_
   refine And.intro (fun q3=>?_) (fun q3=>?_)
   ·have e3:xs.getD (f+n) 0=xs.getD (a+n) 0:=of_decide_eq_true q3
    refine Qs ?_
    refine RO.same (n+1) ⟨by omega,G8,?_⟩ (show 258-(n+1)<258-n by omega) (aI rfl (aI rfl (aI rfl (aI rfl (trivial))))) (aI rfl (trivial))
    rw[←h3,show 258-n=(258-(n+1))+1 by omega,jW,if_pos ⟨G8,e3⟩]
   ·have e3:¬xs.getD (f+n) 0=xs.getD (a+n) 0:=of_decide_eq_false q3
    refine Qs ?_
    rw[←h3,show 258-n=(257-n)+1 by omega,jW,if_neg (fun x=>e3 x.2)]at h
    exact h
  ·have G8:¬a+n<xs.length:=by simp only[decide_eq_false_iff_not]at q2;omega
   refine Qs ?_
   rw[←h3,show 258-n=(257-n)+1 by omega,jW,if_neg (fun x=>G8 x.1)]at h
   exact h
 ·have hn:n=258:=by simp only[decide_eq_false_iff_not]at q1;omega
  subst hn
  refine Qs ?_
  rw[←h3]at h
  exact h
end
end Go.Proofs.Ytibadaomjlkoaaa
open Go.RowKit
namespace Go.Proofs.Ytibadaomjlkoaaa
set_option maxRecDepth 10000
section
variable{K Kp:AV→AH→Prop}{xs:List Int}{c c0:Nat}
theorem I5 {M:AH}{i g n c0 co f a:Nat}{o:Bool}{xs:List Int}(hi:M[i]?=some (.one o g (.ints .u8 xs co)))(hn:n=xs.length)(hc:xs.length≤co)(hx:xs.length≤1000000)(hf:f≤a)(ha:a≤xs.length)(h:K (.int .i64 (dL xs f a:Nat)) M):
 aa Try.prog 39 [.sl i g 0 n c0,.int .i64 (f:Int),.int .i64 (a:Int)] M K Kp:=by
 subst hn
 refine aa.lift [.eI i g 0] (Cp (xs:=xs) (c:=xs.length) (c0:=c0) (f:=f) (a:=a) (K:=fun r N=>r=.int .i64 (dL xs f a:Nat)∧N=[.one false 0 (.ints .u8 xs xs.length)]) (Kp:=fun _ _=>False) hx hf ha ⟨rfl,rfl⟩)
  (by simp[AV.rM,AV.rn,zp,Cb,Cc,TE.i]) rfl ⟨⟨_,_,_,rfl,ak hi,eG.ints (by omega) (by rw[List.drop_zero,List.take_length])⟩,trivial⟩ ⟨trivial,trivial⟩ ?_ (fun _ _ h=>h.elim)
 rintro r M' ⟨rfl,rfl⟩
 refine⟨⟨rfl,rfl⟩,?_⟩
 rw[←List.append_nil M]at h
 exact h
def K6 (xs:List Int)(c c0 ga a:Nat)(t:Tk):AH:=[.one false 0 (.ints .u8 xs c),.one true 0 (.cells [.sl 0 0 0 xs.length c0]),.one true ga (.cells [.int .i64 (a:Int)]),.one true 0 (.cells t.row)]
theorem HW {f a ga:Nat}{t:Tk}(hx:xs.length≤1000000)(hc:xs.length≤c)(hf:f≤a)(ha:a≤xs.length)(h:K (.aL []) (K6 xs c c0 ga a (kS xs a f t))):
 aa Try.prog 38 [.int .i64 (f:Int),.ptr 1 0 0,.ptr 2 ga 0,.ptr 3 0 0] (K6 xs c c0 ga a t) K Kp:=by
 obtain⟨b,l,d⟩:=t
 refine PZ (fun _=>[]) [] rfl ?_
 refine Qs ?_
 refine I5 (i:=0) (xs:=xs) rfl rfl hc hx hf ha ?_
 have hm:=lE (f:=f) ha
 obtain⟨m,Za⟩:∃m,dL xs f a=m:=⟨_,rfl⟩
 rw[Za]at hm⊢
 have ht:kS xs a f ⟨b,l,d⟩=if 3≤m∧l<m then⟨0,m,a-f⟩else⟨b,l,d⟩:=by unfold kS;rw[Za]
 rw[ht]at h
 refine Qs ?_
 refine And.intro (fun q1=>?_) (fun q1=>?_)
 ·have h1:3≤m:=by simp only[decide_eq_true_eq]at q1;omega
  refine Qs ?_
  refine And.intro (fun q2=>?_) (fun q2=>?_)
  ·have h2:l<m:=by simp only[decide_eq_true_eq]at q2;omega
   rw[if_pos ⟨h1,h2⟩]at h
   refine Qs ?_
   have e:((a-f:Nat):Int)=(a:Int)-f:=by omega
   simp only[K6,Tk.row,e]at h
   exact h
  ·have h2:¬l<m:=by simp only[decide_eq_false_iff_not]at q2;omega
   rw[if_neg (fun x=>h2 x.2)]at h
   refine Qs ?_
   exact h
 ·have h1:¬3≤m:=by simp only[decide_eq_false_iff_not]at q1;omega
  rw[if_neg (fun x=>h1 x.1)]at h
  refine Qs ?_
  exact h
def mI (xs:List Int)(c c0:Nat)(s:pD):AH:=[.one false 0 (.ints .u8 xs c),.one true 0 (.cells [.sl 0 0 0 xs.length c0]),.one true 0 (.map (.wc .u8) (lA s.1)),.one true 0 (.cells [.mp 2 0]),
 .one true 0 (.ints .i64 s.2 xs.length),.one true 0 (.cells [.sl 4 0 0 xs.length xs.length])]
theorem mH {s:pD}:mi 6 (mI xs c c0 s):=⟨trivial,rfl,lT _ (.wc .u8) _,rfl,trivial,rfl,trivial⟩
theorem GM {i:Nat}{s:pD}(hx:xs.length≤1000000)(hc:xs.length≤c0)(r7:c0≤c)(hb:∀x∈xs,0≤x∧x<256)(hi:i<xs.length)(hs:oO xs i s)(h:K (.aL []) (mI xs c c0 (iW xs i s))):
 aa Try.prog 37 [.int .i64 (i:Int),.ptr 1 0 0,.ptr 3 0 0,.ptr 5 0 0] (mI xs c c0 s) K Kp:=by
 obtain⟨es,ah⟩:=s
 have hl:=hs.len
 simp only at hl
 refine aa.bs ?_
 refine P0 (fun _=>[2,3,5,6]) [] rfl ?_
 refine Qs ?_
 refine And.intro (fun q1=>?_) (fun q1=>?_)
 ·have h1:i+3≤xs.length:=by simp only[decide_eq_true_eq]at q1;omega
  have ho:cS c0 (i:Int).toNat 0 1=i:=by unfold cS;rw[if_neg (by omega)];omega
  have ig:0≤xs.getD (cS c0 (i:Int).toNat 0 1+2) 0∧xs.getD (cS c0 (i:Int).toNat 0 1+2) 0<256:=by
   rw[ho]
   refine hb _ ?_
   rw[List.getD_eq_getElem?_getD,List.getElem?_eq_getElem (show i+2<xs.length by omega)]
   exact List.getElem_mem _
  have hk:((xs.getD (cS c0 (i:Int).toNat 0 1+0) 0,xs.getD (cS c0 (i:Int).toNat 0 1+1) 0*256+xs.getD (cS c0 (i:Int).toNat 0 1+2) 0):Int×Int)=eT xs i:=by rw[ho];rfl
  refine Qs ?_
  refine And.intro (fun v hv=>?_) (fun hv=>?_)
  ·have rW:oL (xs.getD (cS c0 (i:Int).toNat 0 1+0) 0,xs.getD (cS c0 (i:Int).toNat 0 1+1) 0*256+xs.getD (cS c0 (i:Int).toNat 0 1+2) 0) (lA es)=some v:=hv
   rw[hk,je]at rW
   clear hv
   obtain⟨z,hz,rfl⟩:=Option.map_eq_some_iff.1 rW
   clear rW
   refine Qs ?_
   intro CX mf
   have JP:CX=qA (xs.getD (cS c0 (i:Int).toNat 0 1+0) 0,xs.getD (cS c0 (i:Int).toNat 0 1+1) 0*256+xs.getD (cS c0 (i:Int).toNat 0 1+2) 0) (.int .i64 ((i:Int)+1)) (lA es):=mf
   rw[hk,pK]at JP
   clear mf
   subst JP
   have e:iW xs i (es,ah)=(l9 (eT xs i) ((i:Int)+1) es,ah.set i z):=by
    unfold iW;rw[if_pos h1];simp only[hz,Option.getD_some,Option.getD_none]
   rw[e]at h
   refine Qs ?_
   exact⟨mI xs c c0 (l9 (eT xs i) ((i:Int)+1) es,ah.set i z),(aI rfl (aI rfl (aI rfl (aI rfl (aI rfl (aI rfl (trivial))))))),mH,rfl,h⟩
  ·have rW:oL (xs.getD (cS c0 (i:Int).toNat 0 1+0) 0,xs.getD (cS c0 (i:Int).toNat 0 1+1) 0*256+xs.getD (cS c0 (i:Int).toNat 0 1+2) 0) (lA es)=none:=hv
   rw[hk,je]at rW
   clear hv
   have hz:bS (eT xs i) es=none:=Option.map_eq_none_iff.1 rW
   clear rW
   refine Qs ?_
   intro CX mf
   have JP:CX=qA (xs.getD (cS c0 (i:Int).toNat 0 1+0) 0,xs.getD (cS c0 (i:Int).toNat 0 1+1) 0*256+xs.getD (cS c0 (i:Int).toNat 0 1+2) 0) (.int .i64 ((i:Int)+1)) (lA es):=mf
   rw[hk,pK]at JP
   clear mf
   subst JP
   have e:iW xs i (es,ah)=(l9 (eT xs i) ((i:Int)+1) es,ah.set i 0):=by
    unfold iW;rw[if_pos h1];simp only[hz,Option.getD_some,Option.getD_none]
   rw[e]at h
   refine Qs ?_
   exact⟨mI xs c c0 (l9 (eT xs i) ((i:Int)+1) es,ah.set i 0),(aI rfl (aI rfl (aI rfl (aI rfl (aI rfl (aI rfl (trivial))))))),mH,rfl,h⟩
 ·have h1:¬i+3≤xs.length:=by simp only[decide_eq_false_iff_not]at q1;omega
  unfold iW at h
  rw[if_neg h1]at h
  refine Qs ?_
  exact⟨mI xs c c0 (es,ah),wv _,mH,rfl,h⟩
end
end Go.Proofs.Ytibadaomjlkoaaa
open Go.RowKit
namespace Go.Proofs.Ytibadaomjlkoaaa
set_option maxRecDepth 10000
instance:Inhabited Tk:=⟨⟨0,0,0⟩⟩
def jn (l:List Tk)(c:Nat):af:=.cJ 3 l.length (fun j=>(l.getD j default).row) c
theorem H3 (k:Nat)(l:List Tk)(c:Nat):(jn l c).nb k:=fun j=>rfl
def Co (xs:List Int)(c c0:Nat)(a:Nat)(s:pD)(ga:Nat)(out:List Tk)(g co:Nat):AH:=mI xs c c0 s++[.one true ga (.cells [.int .i64 (a:Int)]),.one true g (jn out co)]
section
variable{K Kp:AV→AH→Prop}{xs:List Int}{c c0:Nat}
theorem Qy {a:Nat}{s:pD}{ga:Nat}{out:List Tk}{g co:Nat}:mi 8 (Co xs c c0 a s ga out g co):=⟨trivial,rfl,lT _ (.wc .u8) _,rfl,trivial,rfl,rfl,fun j=>rfl,trivial⟩
theorem Fg {a:Nat}{s:pD}{ga:Nat}{out:List Tk}{g co:Nat}{t:Tk}:mi 9 (Co xs c c0 a s ga out g co++[.one true 0 (.cells t.row)]):=⟨trivial,rfl,lT _ (.wc .u8) _,rfl,trivial,rfl,rfl,fun j=>rfl,rfl,trivial⟩
theorem lB {a:Nat}{s:pD}{ga:Nat}{out:List Tk}{g co:Nat}:mi 10 (Co xs c c0 a s ga out g co++[AO.gone,AO.gone]):=⟨trivial,rfl,lT _ (.wc .u8) _,rfl,trivial,rfl,rfl,fun j=>rfl,trivial,trivial,trivial⟩
theorem HX {a f ga g co:Nat}{t:Tk}{s:pD}{out:List Tk}(hx:xs.length≤1000000)(hc:xs.length≤c)(hf:f≤a)(ha:a≤xs.length)(h:K (.aL []) (Co xs c c0 a s ga out g co++[.one true 0 (.cells (kS xs a f t).row)])):
 aa Try.prog 38 [.int .i64 (f:Int),.ptr 1 0 0,.ptr 6 ga 0,.ptr 8 0 0] (Co xs c c0 a s ga out g co++[.one true 0 (.cells t.row)]) K Kp:=by
 refine aa.lift [.e9 0,.own 1,.own 6,.own 8] (HW (xs:=xs) (c:=c) (c0:=c0) (ga:=ga) (t:=t) (K:=fun r N=>r=.aL []∧N=K6 xs c c0 ga a (kS xs a f t)) (Kp:=fun _ _=>False) hx hc hf ha ⟨rfl,rfl⟩)
  rfl rfl ⟨⟨rfl,_,rfl,rfl⟩,⟨rfl,rfl⟩,⟨rfl,rfl⟩,⟨rfl,rfl⟩,trivial⟩ ⟨trivial,rfl,rfl,rfl,trivial⟩ ?_ (fun _ _ h=>h.elim)
 rintro r M' ⟨rfl,rfl⟩
 refine⟨⟨rfl,rfl,rfl,rfl,rfl⟩,?_⟩
 exact h
theorem lz {i:Nat}{s:pD}{E:AH}(hx:xs.length≤1000000)(hc:xs.length≤c0)(r7:c0≤c)(hb:∀x∈xs,0≤x∧x<256)(hi:i<xs.length)(hs:oO xs i s)(h:K (.aL []) (mI xs c c0 (iW xs i s)++E)):
 aa Try.prog 37 [.int .i64 (i:Int),.ptr 1 0 0,.ptr 3 0 0,.ptr 5 0 0] (mI xs c c0 s++E) K Kp:=by
 refine aa.frame E (GM (xs:=xs) (c:=c) (c0:=c0) (K:=fun r N=>r=.aL []∧N=mI xs c c0 (iW xs i s)) (Kp:=fun _ _=>False) hx hc r7 hb hi hs ⟨rfl,rfl⟩) rfl mH (fun o ho=>?_) ?_ (fun _ _ h=>h.elim)
 ·simp only[mI,List.mem_cons,List.not_mem_nil,or_false]at ho
  rcases ho with rfl|rfl|rfl|rfl|rfl|rfl<;>rfl
 ·rintro r M' ⟨rfl,rfl⟩
  exact⟨rfl,⟨rfl,rfl,rfl,rfl,rfl,rfl,rfl⟩,mH,rfl,h⟩
theorem bQ {out:List Tk}{B:Tk}{q:Nat}(hq:q<out.length+1):((out++[B]).getD q default).row=if q<out.length then(out.getD q default).row else B.row:=by
 rw[List.getD_eq_getElem?_getD,List.getElem?_append]
 split
 ·rw[List.getD_eq_getElem?_getD]
 ·rw[show q-out.length=0 by omega];rfl
theorem yB (hx:xs.length≤1000000)(hc:xs.length≤c0)(r7:c0≤c)(hb:∀x∈xs,0≤x∧x<256)
 (h:∀g co,(bb xs).length≤co→K (.sl 1 g 0 (bb xs).length co) [.one false 0 (.ints .u8 xs c),.one true g (jn (bb xs) co)]):
 aa Try.prog 14 [.sl 0 0 0 xs.length c0] [.one false 0 (.ints .u8 xs c)] K Kp:=by
 refine aa.cU ?_
 refine Qa (fun _=>[0,1,2,3,6]) [] rfl ?_
 refine Qs ?_
 refine WO.KW (σ:=Nat×pD×Nat×List Tk×Nat×Nat) (fun(a,s,ga,out,g,co)=>a≤xs.length∧oO xs a s∧out.length≤co∧out.length≤a∧dH xs (xs.length-a) a s out=bb xs) (fun(a,_)=>xs.length-a)
  (fun(a,s,ga,out,g,co)=>[(1,.ptr 1 0 0),(3,.sl 7 g 0 out.length co),(4,.ptr 3 0 0),(5,.ptr 5 0 0),(6,.fn (.func 37) [] [.ptr 1 0 0,.ptr 3 0 0,.ptr 5 0 0]),(7,.ptr 6 ga 0)])
  (fun(a,s,ga,out,g,co)=>Co xs c c0 a s ga out g co) (0,([],List.replicate xs.length 0),0,[],0,0) ae mixed (by kernel_rfl)
  [(1,.ptr 1 0 0),(3,.ns),(4,.ptr 3 0 0),(5,.ptr 5 0 0),(6,.fn (.func 37) [] [.ptr 1 0 0,.ptr 3 0 0,.ptr 5 0 0]),(7,.ptr 6 0 0)] _ ⟨Nat.zero_le _,oO.start xs,Nat.le_refl _,Nat.le_refl _,rfl⟩ (aI rfl (aI rfl (aI rfl (aI rfl (aI rfl (aI rfl (trivial))))))) rfl
  (Vw.yv (x:=jn [] 0) ⟨rfl,rfl⟩ (And.intro (.inl rfl) (And.intro (.inr ⟨rfl,rfl⟩) (And.intro (.inl rfl) (And.intro (.inl rfl) (And.intro (.inl rfl) (And.intro (.inl rfl) trivial))))))) (aI rfl (aI rfl (aI rfl (aI rfl (aI rfl (aI rfl (aI rfl (aI rfl (trivial))))))))) (fun _=>rfl) (fun _=>rfl) (fun _=>Qy) ?_
 rintro⟨a,⟨es,ah⟩,ga,out,g,co⟩ ⟨i1,i2,i3,i4,i5⟩ d
 refine Qs ?_
 refine And.intro (fun q1=>?_) (fun q1=>?_)
 ·have ha:a<xs.length:=by simp only[decide_eq_true_eq]at q1;omega
  have Zq:ah.length=xs.length:=i2.len
  obtain⟨B,hB⟩:∃B,qv xs (es,ah) a=B:=⟨_,rfl⟩
  have RE:mh xs a B:=by rw[←hB];exact mh.VM ha i2
  have yP:dH xs (xs.length-(a+max B.l 1)) (a+max B.l 1) (bK xs (max B.l 1) a (es,ah)) (out++[B])=bb xs:=by
   rw[←i5,show xs.length-a=(xs.length-(a+1))+1 by omega,dH,if_pos ha,hB]
   exact rP _ _ _ _ _ (by omega) (by omega)
  unfold qv at hB
  refine Qs ?_
  refine And.intro (fun q2=>?_) (fun q2=>?_)
  ·have h3:a+3≤xs.length:=by simp only[decide_eq_true_eq]at q2;omega
   rw[if_pos h3]at hB
   have ho:cS c0 (a:Int).toNat 0 1=a:=by unfold cS;rw[if_neg (by omega)];omega
   have ig:0≤xs.getD (cS c0 (a:Int).toNat 0 1+2) 0∧xs.getD (cS c0 (a:Int).toNat 0 1+2) 0<256:=by
    rw[ho]
    refine hb _ ?_
    rw[List.getD_eq_getElem?_getD,List.getElem?_eq_getElem (show a+2<xs.length by omega)]
    exact List.getElem_mem _
   have hk:((xs.getD (cS c0 (a:Int).toNat 0 1+0) 0,xs.getD (cS c0 (a:Int).toNat 0 1+1) 0*256+xs.getD (cS c0 (a:Int).toNat 0 1+2) 0):Int×Int)=eT xs a:=by rw[ho];rfl
   refine Qs ?_
   refine And.intro (fun v hv=>?_) (fun hv=>?_)
   ·have rW:oL (xs.getD (cS c0 (a:Int).toNat 0 1+0) 0,xs.getD (cS c0 (a:Int).toNat 0 1+1) 0*256+xs.getD (cS c0 (a:Int).toNat 0 1+2) 0) (lA es)=some v:=hv
    rw[hk,je]at rW
    clear hv
    obtain⟨z,hz,rfl⟩:=Option.map_eq_some_iff.1 rW
    clear rW
    obtain⟨p,rfl⟩:∃p:Nat,z=p:=⟨z.toNat,by have:=i2.es _ _ hz;omega⟩
    have HM:p≤a:=by have:=i2.es _ _ hz;omega
    rw[hz]at hB
    simp only[Option.getD_some,Int.toNat_natCast]at hB
    rw[gG i2.ah a p p _ HM (Nat.le_refl p)]at hB
    refine Qs ?_
    refine WO.go (σ:=Nat×Tk) (fun(p,t)=>p≤a∧dq xs ah a p p t=B) (fun(p,t)=>p)
     (fun(p,t)=>[(1,.ptr 1 0 0),(3,.sl 7 g 0 out.length co),(4,.ptr 3 0 0),(5,.ptr 5 0 0),(6,.fn (.func 37) [] [.ptr 1 0 0,.ptr 3 0 0,.ptr 5 0 0]),(7,.ptr 6 ga 0),(8,.ptr 8 0 0),(9,.fn (.func 38) [] [.ptr 1 0 0,.ptr 6 ga 0,.ptr 8 0 0]),(10,.int .i64 (p:Int))])
     (fun(p,t)=>Co xs c c0 a (es,ah) ga out g co++[.one true 0 (.cells t.row)]) (p,⟨xs.getD a 0,0,0⟩) ae mixed (by kernel_rfl) ⟨HM,hB⟩ (aI rfl (aI rfl (aI rfl (aI rfl (aI rfl (aI rfl (aI rfl (aI rfl (aI rfl (trivial)))))))))) (aI rfl (aI rfl (aI rfl (aI rfl (aI rfl (aI rfl (aI rfl (aI rfl (aI rfl (trivial)))))))))) (fun _=>rfl) (fun _=>rfl) (fun _=>Fg) ?_
    rintro⟨p,t⟩ ⟨j1,j2⟩ d2
    have FF:=i2.ah (p-1)
    refine Qs ?_
    refine And.intro (fun r1=>?_) (fun r1=>?_)
    ·have hp:0<p:=by simp only[decide_eq_true_eq]at r1;omega
     refine Qs ?_
     refine And.intro (fun r2=>?_) (fun r2=>?_)
     ·have hd:a-(p-1)≤32768:=by simp only[decide_eq_true_eq]at r2;omega
      refine Qs ?_
      refine And.intro (fun r3=>?_) (fun r3=>?_)
      ·have hl:t.l<258:=by have r3:(t.l:Int)<258:=of_decide_eq_true r3;omega
       obtain⟨p,rfl⟩:∃p',p=p'+1:=⟨p-1,by omega⟩
       have e1:((p+1:Nat):Int)-1=(p:Int):=by omega
       rw[dq,if_pos ⟨hp,hd,hl⟩]at j2
       refine Qs ?_
       rw[e1]
       refine HX (f:=p) hx (by omega) (by omega) (by omega) ?_
       have FF:0≤ah.getD p 0∧ah.getD p 0≤(p:Int):=i2.ah p
       refine Qs ?_
       refine RO.same ((ah.getD p 0).toNat,kS xs a p t) ⟨by omega,?_⟩ (show(ah.getD p 0).toNat<p+1 by omega) (aI rfl (aI rfl (aI rfl (aI rfl (aI rfl (aI rfl (aI rfl (aI rfl (aI ?_ trivial))))))))) (aI rfl (aI rfl (aI rfl (aI rfl (aI rfl (aI rfl (aI rfl (aI rfl (aI rfl (trivial))))))))))
       ·rw[←j2]
        exact gG i2.ah _ _ _ _ (Nat.le_refl _) (by show(ah.getD p 0).toNat≤p;omega)
       ·show AV.int .i64 (ah.getD ((((p+1:Nat):Int)-1).toNat+0) 0)=.int .i64 (((ah.getD p 0).toNat:Nat):Int)
        rw[e1,Int.toNat_natCast,Int.toNat_of_nonneg FF.1,Nat.add_zero]
      ·have hl:¬t.l<258:=by have r3:¬(t.l:Int)<258:=of_decide_eq_false r3;omega
       obtain⟨p,rfl⟩:∃p',p=p'+1:=⟨p-1,by omega⟩
       rw[dq,if_neg (fun x=>hl x.2.2)]at j2
       subst j2
       refine Qs ?_
       refine And.intro (fun q hq=>?_) ?_
       ·obtain rfl:q=0:=by have:q<1:=hq;omega
        exact⟨rfl,rfl⟩
       refine Qs ?_
       refine⟨fun j=>((out++[t]).getD j default).row,fun q hq=>?_,fun dE j5=>?_⟩
       ·by_cases cI:q<out.length
        ·exact((bQ hq).trans (if_pos cI)).trans (if_pos cI).symm
        ·obtain rfl:q=out.length:=by have:q<out.length+1:=hq;omega
         refine((bQ hq).trans (if_neg cI)).trans (Eq.trans ?_ (if_neg cI).symm)
         rw[Nat.sub_self]
         rfl
       have hE:jn (out++[t]) dE=.cJ 3 (out.length+1) (fun j=>((out++[t]).getD j default).row) dE:=by unfold jn;rw[List.length_append];rfl
       refine Qs ?_
       refine WO.go (σ:=Nat) (fun i=>i≤max t.l 1) (fun i=>max t.l 1-i)
        (fun i=>[(1,.ptr 1 0 0),(3,.sl 7 (g+1) 0 (out.length+1) dE),(4,.ptr 3 0 0),(5,.ptr 5 0 0),(6,.fn (.func 37) [] [.ptr 1 0 0,.ptr 3 0 0,.ptr 5 0 0]),(7,.ptr 6 ga 0),(69,.int .i64 (max (t.l:Int) 1)),(70,.int .i64 (i:Int))])
        (fun i=>Co xs c c0 (a+i) (bK xs i a (es,ah)) ga (out++[t]) (g+1) dE++[AO.gone,AO.gone]) 0 ae mixed (by kernel_rfl) (Nat.zero_le _) (aI rfl (aI rfl (aI rfl (aI rfl (aI rfl (aI rfl (aI rfl (aI rfl (trivial))))))))) (aI rfl (aI rfl (aI rfl (aI rfl (aI rfl (aI rfl (aI rfl (aI (congrArg (AO.one true (g+1)) hE) (aI trivial (aI trivial trivial)))))))))) (fun _=>rfl) (fun _=>rfl) (fun _=>lB) ?_
       intro k k1 d3
       have k1:k≤max t.l 1:=k1
       have kP:oO xs (a+k) (bK xs k a (es,ah)):=oO.notes k a i2
       have hle:t.l≤258∧a+t.l≤xs.length:=RE.le
       refine Qs ?_
       refine And.intro (fun q5=>?_) (fun q5=>?_)
       ·have nW:k<max t.l 1:=by
         have q5:(k:Int)<max (t.l:Int) 1:=of_decide_eq_true q5
         omega
        refine Qs ?_
        refine lz (i:=a+k) (E:=[.one true ga (.cells [.int .i64 ((a+k:Nat):Int)]),.one true (g+1) (jn (out++[t]) dE),.gone,.gone]) hx hc r7 hb (by omega) kP ?_
        rw[←dv]
        refine Qs ?_
        refine RO.same (k+1) (show k+1≤max t.l 1 from nW) (show max t.l 1-(k+1)<max t.l 1-k from Nat.sub_lt_sub_left nW (Nat.lt_succ_self k)) (aI rfl (aI rfl (aI rfl (aI rfl (aI rfl (aI rfl (aI rfl (aI rfl (trivial))))))))) (aI rfl (aI rfl (aI rfl (aI rfl (aI rfl (aI rfl (aI rfl (aI rfl (aI trivial (aI trivial (trivial)))))))))))
       ·have nW:k=max t.l 1:=by
         have q5:¬(k:Int)<max (t.l:Int) 1:=of_decide_eq_false q5
         omega
        subst nW
        refine Qs ?_
        refine RO.mk (a+max t.l 1,bK xs (max t.l 1) a (es,ah),ga+1,out++[t],g+1,dE)
         [(1,.ptr 1 0 0),(3,.sl 7 (g+1) 0 (out.length+1) dE),(4,.ptr 3 0 0),(5,.ptr 5 0 0),(6,.fn (.func 37) [] [.ptr 1 0 0,.ptr 3 0 0,.ptr 5 0 0]),(7,.ptr 10 0 0)] _ ⟨by omega,kP,by rw[List.length_append];exact j5,by rw[List.length_append];show out.length+1≤_;omega,yP⟩ (show xs.length-(a+max t.l 1)<xs.length-a by omega)
         (aI rfl (aI rfl (aI rfl (aI rfl (aI rfl (aI rfl (trivial))))))) rfl (Vw.move (i:=6) (k:=10) rfl rfl rfl (aI nM.same (aI ?_ (aI nM.same (aI nM.same (aI nM.same (aI (.inr (.inr ⟨_,rfl,rfl⟩)) trivial))))))) (aI rfl (aI rfl (aI rfl (aI rfl (aI rfl (aI rfl (aI rfl (aI rfl (trivial)))))))))
        exact .inl (by rw[List.length_append];rfl)
     ·have hd:¬a-(p-1)≤32768:=by have r2:¬(a:Int)-((p:Int)-1)≤32768:=of_decide_eq_false r2;omega
      obtain⟨p,rfl⟩:∃p',p=p'+1:=⟨p-1,by omega⟩
      rw[dq,if_neg (fun x=>hd x.2.1)]at j2
      subst j2
      refine Qs ?_
      refine And.intro (fun q hq=>?_) ?_
      ·obtain rfl:q=0:=by have:q<1:=hq;omega
       exact⟨rfl,rfl⟩
      refine Qs ?_
      refine⟨fun j=>((out++[t]).getD j default).row,fun q hq=>?_,fun dE j5=>?_⟩
      ·by_cases cI:q<out.length
       ·exact((bQ hq).trans (if_pos cI)).trans (if_pos cI).symm
       ·obtain rfl:q=out.length:=by have:q<out.length+1:=hq;omega
        refine((bQ hq).trans (if_neg cI)).trans (Eq.trans ?_ (if_neg cI).symm)
        rw[Nat.sub_self]
        rfl
      have hE:jn (out++[t]) dE=.cJ 3 (out.length+1) (fun j=>((out++[t]).getD j default).row) dE:=by unfold jn;rw[List.length_append];rfl
      refine Qs ?_
      refine WO.go (σ:=Nat) (fun i=>i≤max t.l 1) (fun i=>max t.l 1-i)
       (fun i=>[(1,.ptr 1 0 0),(3,.sl 7 (g+1) 0 (out.length+1) dE),(4,.ptr 3 0 0),(5,.ptr 5 0 0),(6,.fn (.func 37) [] [.ptr 1 0 0,.ptr 3 0 0,.ptr 5 0 0]),(7,.ptr 6 ga 0),(69,.int .i64 (max (t.l:Int) 1)),(70,.int .i64 (i:Int))])
       (fun i=>Co xs c c0 (a+i) (bK xs i a (es,ah)) ga (out++[t]) (g+1) dE++[AO.gone,AO.gone]) 0 ae mixed (by kernel_rfl) (Nat.zero_le _) (aI rfl (aI rfl (aI rfl (aI rfl (aI rfl (aI rfl (aI rfl (aI rfl (trivial))))))))) (aI rfl (aI rfl (aI rfl (aI rfl (aI rfl (aI rfl (aI rfl (aI (congrArg (AO.one true (g+1)) hE) (aI trivial (aI trivial trivial)))))))))) (fun _=>rfl) (fun _=>rfl) (fun _=>lB) ?_
      intro k k1 d3
      have k1:k≤max t.l 1:=k1
      have kP:oO xs (a+k) (bK xs k a (es,ah)):=oO.notes k a i2
      have hle:t.l≤258∧a+t.l≤xs.length:=RE.le
      refine Qs ?_
      refine And.intro (fun q5=>?_) (fun q5=>?_)
      ·have nW:k<max t.l 1:=by
        have q5:(k:Int)<max (t.l:Int) 1:=of_decide_eq_true q5
        omega
       refine Qs ?_
       refine lz (i:=a+k) (E:=[.one true ga (.cells [.int .i64 ((a+k:Nat):Int)]),.one true (g+1) (jn (out++[t]) dE),.gone,.gone]) hx hc r7 hb (by omega) kP ?_
       rw[←dv]
       refine Qs ?_
       refine RO.same (k+1) (show k+1≤max t.l 1 from nW) (show max t.l 1-(k+1)<max t.l 1-k from Nat.sub_lt_sub_left nW (Nat.lt_succ_self k)) (aI rfl (aI rfl (aI rfl (aI rfl (aI rfl (aI rfl (aI rfl (aI rfl (trivial))))))))) (aI rfl (aI rfl (aI rfl (aI rfl (aI rfl (aI rfl (aI rfl (aI rfl (aI trivial (aI trivial (trivial)))))))))))
      ·have nW:k=max t.l 1:=by
        have q5:¬(k:Int)<max (t.l:Int) 1:=of_decide_eq_false q5
        omega
       subst nW
       refine Qs ?_
       refine RO.mk (a+max t.l 1,bK xs (max t.l 1) a (es,ah),ga+1,out++[t],g+1,dE)
        [(1,.ptr 1 0 0),(3,.sl 7 (g+1) 0 (out.length+1) dE),(4,.ptr 3 0 0),(5,.ptr 5 0 0),(6,.fn (.func 37) [] [.ptr 1 0 0,.ptr 3 0 0,.ptr 5 0 0]),(7,.ptr 10 0 0)] _ ⟨by omega,kP,by rw[List.length_append];exact j5,by rw[List.length_append];show out.length+1≤_;omega,yP⟩ (show xs.length-(a+max t.l 1)<xs.length-a by omega)
        (aI rfl (aI rfl (aI rfl (aI rfl (aI rfl (aI rfl (trivial))))))) rfl (Vw.move (i:=6) (k:=10) rfl rfl rfl (aI nM.same (aI ?_ (aI nM.same (aI nM.same (aI nM.same (aI (.inr (.inr ⟨_,rfl,rfl⟩)) trivial))))))) (aI rfl (aI rfl (aI rfl (aI rfl (aI rfl (aI rfl (aI rfl (aI rfl (trivial)))))))))
       exact .inl (by rw[List.length_append];rfl)
    ·have hp:p=0:=by have r1:¬(0:Int)<(p:Int):=of_decide_eq_false r1;omega
     subst hp
     have j2:t=B:=j2
     subst j2
     refine Qs ?_
     refine And.intro (fun q hq=>?_) ?_
     ·obtain rfl:q=0:=by have:q<1:=hq;omega
      exact⟨rfl,rfl⟩
     refine Qs ?_
     refine⟨fun j=>((out++[t]).getD j default).row,fun q hq=>?_,fun dE j5=>?_⟩
     ·by_cases cI:q<out.length
      ·exact((bQ hq).trans (if_pos cI)).trans (if_pos cI).symm
      ·obtain rfl:q=out.length:=by have:q<out.length+1:=hq;omega
       refine((bQ hq).trans (if_neg cI)).trans (Eq.trans ?_ (if_neg cI).symm)
       rw[Nat.sub_self]
       rfl
     have hE:jn (out++[t]) dE=.cJ 3 (out.length+1) (fun j=>((out++[t]).getD j default).row) dE:=by unfold jn;rw[List.length_append];rfl
     refine Qs ?_
     refine WO.go (σ:=Nat) (fun i=>i≤max t.l 1) (fun i=>max t.l 1-i)
      (fun i=>[(1,.ptr 1 0 0),(3,.sl 7 (g+1) 0 (out.length+1) dE),(4,.ptr 3 0 0),(5,.ptr 5 0 0),(6,.fn (.func 37) [] [.ptr 1 0 0,.ptr 3 0 0,.ptr 5 0 0]),(7,.ptr 6 ga 0),(69,.int .i64 (max (t.l:Int) 1)),(70,.int .i64 (i:Int))])
      (fun i=>Co xs c c0 (a+i) (bK xs i a (es,ah)) ga (out++[t]) (g+1) dE++[AO.gone,AO.gone]) 0 ae mixed (by kernel_rfl) (Nat.zero_le _) (aI rfl (aI rfl (aI rfl (aI rfl (aI rfl (aI rfl (aI rfl (aI rfl (trivial))))))))) (aI rfl (aI rfl (aI rfl (aI rfl (aI rfl (aI rfl (aI rfl (aI (congrArg (AO.one true (g+1)) hE) (aI trivial (aI trivial trivial)))))))))) (fun _=>rfl) (fun _=>rfl) (fun _=>lB) ?_
     intro k k1 d3
     have k1:k≤max t.l 1:=k1
     have kP:oO xs (a+k) (bK xs k a (es,ah)):=oO.notes k a i2
     have hle:t.l≤258∧a+t.l≤xs.length:=RE.le
     refine Qs ?_
     refine And.intro (fun q5=>?_) (fun q5=>?_)
     ·have nW:k<max t.l 1:=by
       have q5:(k:Int)<max (t.l:Int) 1:=of_decide_eq_true q5
       omega
      refine Qs ?_
      refine lz (i:=a+k) (E:=[.one true ga (.cells [.int .i64 ((a+k:Nat):Int)]),.one true (g+1) (jn (out++[t]) dE),.gone,.gone]) hx hc r7 hb (by omega) kP ?_
      rw[←dv]
      refine Qs ?_
      refine RO.same (k+1) (show k+1≤max t.l 1 from nW) (show max t.l 1-(k+1)<max t.l 1-k from Nat.sub_lt_sub_left nW (Nat.lt_succ_self k)) (aI rfl (aI rfl (aI rfl (aI rfl (aI rfl (aI rfl (aI rfl (aI rfl (trivial))))))))) (aI rfl (aI rfl (aI rfl (aI rfl (aI rfl (aI rfl (aI rfl (aI rfl (aI trivial (aI trivial (trivial)))))))))))
     ·have nW:k=max t.l 1:=by
       have q5:¬(k:Int)<max (t.l:Int) 1:=of_decide_eq_false q5
       omega
      subst nW
      refine Qs ?_
      refine RO.mk (a+max t.l 1,bK xs (max t.l 1) a (es,ah),ga+1,out++[t],g+1,dE)
       [(1,.ptr 1 0 0),(3,.sl 7 (g+1) 0 (out.length+1) dE),(4,.ptr 3 0 0),(5,.ptr 5 0 0),(6,.fn (.func 37) [] [.ptr 1 0 0,.ptr 3 0 0,.ptr 5 0 0]),(7,.ptr 10 0 0)] _ ⟨by omega,kP,by rw[List.length_append];exact j5,by rw[List.length_append];show out.length+1≤_;omega,yP⟩ (show xs.length-(a+max t.l 1)<xs.length-a by omega)
       (aI rfl (aI rfl (aI rfl (aI rfl (aI rfl (aI rfl (trivial))))))) rfl (Vw.move (i:=6) (k:=10) rfl rfl rfl (aI nM.same (aI ?_ (aI nM.same (aI nM.same (aI nM.same (aI (.inr (.inr ⟨_,rfl,rfl⟩)) trivial))))))) (aI rfl (aI rfl (aI rfl (aI rfl (aI rfl (aI rfl (aI rfl (aI rfl (trivial)))))))))
      exact .inl (by rw[List.length_append];rfl)
   ·have rW:oL (xs.getD (cS c0 (a:Int).toNat 0 1+0) 0,xs.getD (cS c0 (a:Int).toNat 0 1+1) 0*256+xs.getD (cS c0 (a:Int).toNat 0 1+2) 0) (lA es)=none:=hv
    rw[hk,je]at rW
    clear hv
    have hz:bS (eT xs a) es=none:=Option.map_eq_none_iff.1 rW
    clear rW
    rw[hz]at hB
    simp only[Option.getD_none,Int.toNat_zero]at hB
    rw[gG i2.ah a 0 0 _ (Nat.zero_le a) (Nat.le_refl 0)]at hB
    refine Qs ?_
    refine WO.go (σ:=Nat×Tk) (fun(p,t)=>p≤a∧dq xs ah a p p t=B) (fun(p,t)=>p)
     (fun(p,t)=>[(1,.ptr 1 0 0),(3,.sl 7 g 0 out.length co),(4,.ptr 3 0 0),(5,.ptr 5 0 0),(6,.fn (.func 37) [] [.ptr 1 0 0,.ptr 3 0 0,.ptr 5 0 0]),(7,.ptr 6 ga 0),(8,.ptr 8 0 0),(9,.fn (.func 38) [] [.ptr 1 0 0,.ptr 6 ga 0,.ptr 8 0 0]),(10,.int .i64 (p:Int))])
     (fun(p,t)=>Co xs c c0 a (es,ah) ga out g co++[.one true 0 (.cells t.row)]) (0,⟨xs.getD a 0,0,0⟩) ae mixed (by kernel_rfl) ⟨Nat.zero_le a,hB⟩ (aI rfl (aI rfl (aI rfl (aI rfl (aI rfl (aI rfl (aI rfl (aI rfl (aI rfl (trivial)))))))))) (aI rfl (aI rfl (aI rfl (aI rfl (aI rfl (aI rfl (aI rfl (aI rfl (aI rfl (trivial)))))))))) (fun _=>rfl) (fun _=>rfl) (fun _=>Fg) ?_
    rintro⟨p,t⟩ ⟨j1,j2⟩ d2
    have FF:=i2.ah (p-1)
    refine Qs ?_
    refine And.intro (fun r1=>?_) (fun r1=>?_)
    ·have hp:0<p:=by simp only[decide_eq_true_eq]at r1;omega
     refine Qs ?_
     refine And.intro (fun r2=>?_) (fun r2=>?_)
     ·have hd:a-(p-1)≤32768:=by simp only[decide_eq_true_eq]at r2;omega
      refine Qs ?_
      refine And.intro (fun r3=>?_) (fun r3=>?_)
      ·have hl:t.l<258:=by have r3:(t.l:Int)<258:=of_decide_eq_true r3;omega
       obtain⟨p,rfl⟩:∃p',p=p'+1:=⟨p-1,by omega⟩
       have e1:((p+1:Nat):Int)-1=(p:Int):=by omega
       rw[dq,if_pos ⟨hp,hd,hl⟩]at j2
       refine Qs ?_
       rw[e1]
       refine HX (f:=p) hx (by omega) (by omega) (by omega) ?_
       have FF:0≤ah.getD p 0∧ah.getD p 0≤(p:Int):=i2.ah p
       refine Qs ?_
       refine RO.same ((ah.getD p 0).toNat,kS xs a p t) ⟨by omega,?_⟩ (show(ah.getD p 0).toNat<p+1 by omega) (aI rfl (aI rfl (aI rfl (aI rfl (aI rfl (aI rfl (aI rfl (aI rfl (aI ?_ trivial))))))))) (aI rfl (aI rfl (aI rfl (aI rfl (aI rfl (aI rfl (aI rfl (aI rfl (aI rfl (trivial))))))))))
       ·rw[←j2]
        exact gG i2.ah _ _ _ _ (Nat.le_refl _) (by show(ah.getD p 0).toNat≤p;omega)
       ·show AV.int .i64 (ah.getD ((((p+1:Nat):Int)-1).toNat+0) 0)=.int .i64 (((ah.getD p 0).toNat:Nat):Int)
        rw[e1,Int.toNat_natCast,Int.toNat_of_nonneg FF.1,Nat.add_zero]
      ·have hl:¬t.l<258:=by have r3:¬(t.l:Int)<258:=of_decide_eq_false r3;omega
       obtain⟨p,rfl⟩:∃p',p=p'+1:=⟨p-1,by omega⟩
       rw[dq,if_neg (fun x=>hl x.2.2)]at j2
       subst j2
       refine Qs ?_
       refine And.intro (fun q hq=>?_) ?_
       ·obtain rfl:q=0:=by have:q<1:=hq;omega
        exact⟨rfl,rfl⟩
       refine Qs ?_
       refine⟨fun j=>((out++[t]).getD j default).row,fun q hq=>?_,fun dE j5=>?_⟩
       ·by_cases cI:q<out.length
        ·exact((bQ hq).trans (if_pos cI)).trans (if_pos cI).symm
        ·obtain rfl:q=out.length:=by have:q<out.length+1:=hq;omega
         refine((bQ hq).trans (if_neg cI)).trans (Eq.trans ?_ (if_neg cI).symm)
         rw[Nat.sub_self]
         rfl
       have hE:jn (out++[t]) dE=.cJ 3 (out.length+1) (fun j=>((out++[t]).getD j default).row) dE:=by unfold jn;rw[List.length_append];rfl
       refine Qs ?_
       refine WO.go (σ:=Nat) (fun i=>i≤max t.l 1) (fun i=>max t.l 1-i)
        (fun i=>[(1,.ptr 1 0 0),(3,.sl 7 (g+1) 0 (out.length+1) dE),(4,.ptr 3 0 0),(5,.ptr 5 0 0),(6,.fn (.func 37) [] [.ptr 1 0 0,.ptr 3 0 0,.ptr 5 0 0]),(7,.ptr 6 ga 0),(69,.int .i64 (max (t.l:Int) 1)),(70,.int .i64 (i:Int))])
        (fun i=>Co xs c c0 (a+i) (bK xs i a (es,ah)) ga (out++[t]) (g+1) dE++[AO.gone,AO.gone]) 0 ae mixed (by kernel_rfl) (Nat.zero_le _) (aI rfl (aI rfl (aI rfl (aI rfl (aI rfl (aI rfl (aI rfl (aI rfl (trivial))))))))) (aI rfl (aI rfl (aI rfl (aI rfl (aI rfl (aI rfl (aI rfl (aI (congrArg (AO.one true (g+1)) hE) (aI trivial (aI trivial trivial)))))))))) (fun _=>rfl) (fun _=>rfl) (fun _=>lB) ?_
       intro k k1 d3
       have k1:k≤max t.l 1:=k1
       have kP:oO xs (a+k) (bK xs k a (es,ah)):=oO.notes k a i2
       have hle:t.l≤258∧a+t.l≤xs.length:=RE.le
       refine Qs ?_
       refine And.intro (fun q5=>?_) (fun q5=>?_)
       ·have nW:k<max t.l 1:=by
         have q5:(k:Int)<max (t.l:Int) 1:=of_decide_eq_true q5
         omega
        refine Qs ?_
        refine lz (i:=a+k) (E:=[.one true ga (.cells [.int .i64 ((a+k:Nat):Int)]),.one true (g+1) (jn (out++[t]) dE),.gone,.gone]) hx hc r7 hb (by omega) kP ?_
        rw[←dv]
        refine Qs ?_
        refine RO.same (k+1) (show k+1≤max t.l 1 from nW) (show max t.l 1-(k+1)<max t.l 1-k from Nat.sub_lt_sub_left nW (Nat.lt_succ_self k)) (aI rfl (aI rfl (aI rfl (aI rfl (aI rfl (aI rfl (aI rfl (aI rfl (trivial))))))))) (aI rfl (aI rfl (aI rfl (aI rfl (aI rfl (aI rfl (aI rfl (aI rfl (aI trivial (aI trivial (trivial)))))))))))
       ·have nW:k=max t.l 1:=by
         have q5:¬(k:Int)<max (t.l:Int) 1:=of_decide_eq_false q5
         omega
        subst nW
        refine Qs ?_
        refine RO.mk (a+max t.l 1,bK xs (max t.l 1) a (es,ah),ga+1,out++[t],g+1,dE)
         [(1,.ptr 1 0 0),(3,.sl 7 (g+1) 0 (out.length+1) dE),(4,.ptr 3 0 0),(5,.ptr 5 0 0),(6,.fn (.func 37) [] [.ptr 1 0 0,.ptr 3 0 0,.ptr 5 0 0]),(7,.ptr 10 0 0)] _ ⟨by omega,kP,by rw[List.length_append];exact j5,by rw[List.length_append];show out.length+1≤_;omega,yP⟩ (show xs.length-(a+max t.l 1)<xs.length-a by omega)
         (aI rfl (aI rfl (aI rfl (aI rfl (aI rfl (aI rfl (trivial))))))) rfl (Vw.move (i:=6) (k:=10) rfl rfl rfl (aI nM.same (aI ?_ (aI nM.same (aI nM.same (aI nM.same (aI (.inr (.inr ⟨_,rfl,rfl⟩)) trivial))))))) (aI rfl (aI rfl (aI rfl (aI rfl (aI rfl (aI rfl (aI rfl (aI rfl (trivial)))))))))
        exact .inl (by rw[List.length_append];rfl)
     ·have hd:¬a-(p-1)≤32768:=by have r2:¬(a:Int)-((p:Int)-1)≤32768:=of_decide_eq_false r2;omega
      obtain⟨p,rfl⟩:∃p',p=p'+1:=⟨p-1,by omega⟩
      rw[dq,if_neg (fun x=>hd x.2.1)]at j2
      subst j2
      refine Qs ?_
      refine And.intro (fun q hq=>?_) ?_
      ·obtain rfl:q=0:=by have:q<1:=hq;omega
       exact⟨rfl,rfl⟩
      refine Qs ?_
      refine⟨fun j=>((out++[t]).getD j default).row,fun q hq=>?_,fun dE j5=>?_⟩
      ·by_cases cI:q<out.length
       ·exact((bQ hq).trans (if_pos cI)).trans (if_pos cI).symm
       ·obtain rfl:q=out.length:=by have:q<out.length+1:=hq;omega
        refine((bQ hq).trans (if_neg cI)).trans (Eq.trans ?_ (if_neg cI).symm)
        rw[Nat.sub_self]
        rfl
      have hE:jn (out++[t]) dE=.cJ 3 (out.length+1) (fun j=>((out++[t]).getD j default).row) dE:=by unfold jn;rw[List.length_append];rfl
      refine Qs ?_
      refine WO.go (σ:=Nat) (fun i=>i≤max t.l 1) (fun i=>max t.l 1-i)
       (fun i=>[(1,.ptr 1 0 0),(3,.sl 7 (g+1) 0 (out.length+1) dE),(4,.ptr 3 0 0),(5,.ptr 5 0 0),(6,.fn (.func 37) [] [.ptr 1 0 0,.ptr 3 0 0,.ptr 5 0 0]),(7,.ptr 6 ga 0),(69,.int .i64 (max (t.l:Int) 1)),(70,.int .i64 (i:Int))])
       (fun i=>Co xs c c0 (a+i) (bK xs i a (es,ah)) ga (out++[t]) (g+1) dE++[AO.gone,AO.gone]) 0 ae mixed (by kernel_rfl) (Nat.zero_le _) (aI rfl (aI rfl (aI rfl (aI rfl (aI rfl (aI rfl (aI rfl (aI rfl (trivial))))))))) (aI rfl (aI rfl (aI rfl (aI rfl (aI rfl (aI rfl (aI rfl (aI (congrArg (AO.one true (g+1)) hE) (aI trivial (aI trivial trivial)))))))))) (fun _=>rfl) (fun _=>rfl) (fun _=>lB) ?_
      intro k k1 d3
      have k1:k≤max t.l 1:=k1
      have kP:oO xs (a+k) (bK xs k a (es,ah)):=oO.notes k a i2
      have hle:t.l≤258∧a+t.l≤xs.length:=RE.le
      refine Qs ?_
      refine And.intro (fun q5=>?_) (fun q5=>?_)
      ·have nW:k<max t.l 1:=by
        have q5:(k:Int)<max (t.l:Int) 1:=of_decide_eq_true q5
        omega
       refine Qs ?_
       refine lz (i:=a+k) (E:=[.one true ga (.cells [.int .i64 ((a+k:Nat):Int)]),.one true (g+1) (jn (out++[t]) dE),.gone,.gone]) hx hc r7 hb (by omega) kP ?_
       rw[←dv]
       refine Qs ?_
       refine RO.same (k+1) (show k+1≤max t.l 1 from nW) (show max t.l 1-(k+1)<max t.l 1-k from Nat.sub_lt_sub_left nW (Nat.lt_succ_self k)) (aI rfl (aI rfl (aI rfl (aI rfl (aI rfl (aI rfl (aI rfl (aI rfl (trivial))))))))) (aI rfl (aI rfl (aI rfl (aI rfl (aI rfl (aI rfl (aI rfl (aI rfl (aI trivial (aI trivial (trivial)))))))))))
      ·have nW:k=max t.l 1:=by
        have q5:¬(k:Int)<max (t.l:Int) 1:=of_decide_eq_false q5
        omega
       subst nW
       refine Qs ?_
       refine RO.mk (a+max t.l 1,bK xs (max t.l 1) a (es,ah),ga+1,out++[t],g+1,dE)
        [(1,.ptr 1 0 0),(3,.sl 7 (g+1) 0 (out.length+1) dE),(4,.ptr 3 0 0),(5,.ptr 5 0 0),(6,.fn (.func 37) [] [.ptr 1 0 0,.ptr 3 0 0,.ptr 5 0 0]),(7,.ptr 10 0 0)] _ ⟨by omega,kP,by rw[List.length_append];exact j5,by rw[List.length_append];show out.length+1≤_;omega,yP⟩ (show xs.length-(a+max t.l 1)<xs.length-a by omega)
        (aI rfl (aI rfl (aI rfl (aI rfl (aI rfl (aI rfl (trivial))))))) rfl (Vw.move (i:=6) (k:=10) rfl rfl rfl (aI nM.same (aI ?_ (aI nM.same (aI nM.same (aI nM.same (aI (.inr (.inr ⟨_,rfl,rfl⟩)) trivial))))))) (aI rfl (aI rfl (aI rfl (aI rfl (aI rfl (aI rfl (aI rfl (aI rfl (trivial)))))))))
       exact .inl (by rw[List.length_append];rfl)
    ·have hp:p=0:=by have r1:¬(0:Int)<(p:Int):=of_decide_eq_false r1;omega
     subst hp
     have j2:t=B:=j2
     subst j2
     refine Qs ?_
     refine And.intro (fun q hq=>?_) ?_
     ·obtain rfl:q=0:=by have:q<1:=hq;omega
      exact⟨rfl,rfl⟩
     refine Qs ?_
     refine⟨fun j=>((out++[t]).getD j default).row,fun q hq=>?_,fun dE j5=>?_⟩
     ·by_cases cI:q<out.length
      ·exact((bQ hq).trans (if_pos cI)).trans (if_pos cI).symm
      ·obtain rfl:q=out.length:=by have:q<out.length+1:=hq;omega
       refine((bQ hq).trans (if_neg cI)).trans (Eq.trans ?_ (if_neg cI).symm)
       rw[Nat.sub_self]
       rfl
     have hE:jn (out++[t]) dE=.cJ 3 (out.length+1) (fun j=>((out++[t]).getD j default).row) dE:=by unfold jn;rw[List.length_append];rfl
     refine Qs ?_
     refine WO.go (σ:=Nat) (fun i=>i≤max t.l 1) (fun i=>max t.l 1-i)
      (fun i=>[(1,.ptr 1 0 0),(3,.sl 7 (g+1) 0 (out.length+1) dE),(4,.ptr 3 0 0),(5,.ptr 5 0 0),(6,.fn (.func 37) [] [.ptr 1 0 0,.ptr 3 0 0,.ptr 5 0 0]),(7,.ptr 6 ga 0),(69,.int .i64 (max (t.l:Int) 1)),(70,.int .i64 (i:Int))])
      (fun i=>Co xs c c0 (a+i) (bK xs i a (es,ah)) ga (out++[t]) (g+1) dE++[AO.gone,AO.gone]) 0 ae mixed (by kernel_rfl) (Nat.zero_le _) (aI rfl (aI rfl (aI rfl (aI rfl (aI rfl (aI rfl (aI rfl (aI rfl (trivial))))))))) (aI rfl (aI rfl (aI rfl (aI rfl (aI rfl (aI rfl (aI rfl (aI (congrArg (AO.one true (g+1)) hE) (aI trivial (aI trivial trivial)))))))))) (fun _=>rfl) (fun _=>rfl) (fun _=>lB) ?_
     intro k k1 d3
     have k1:k≤max t.l 1:=k1
     have kP:oO xs (a+k) (bK xs k a (es,ah)):=oO.notes k a i2
     have hle:t.l≤258∧a+t.l≤xs.length:=RE.le
     refine Qs ?_
     refine And.intro (fun q5=>?_) (fun q5=>?_)
     ·have nW:k<max t.l 1:=by
       have q5:(k:Int)<max (t.l:Int) 1:=of_decide_eq_true q5
       omega
      refine Qs ?_
      refine lz (i:=a+k) (E:=[.one true ga (.cells [.int .i64 ((a+k:Nat):Int)]),.one true (g+1) (jn (out++[t]) dE),.gone,.gone]) hx hc r7 hb (by omega) kP ?_
      rw[←dv]
      refine Qs ?_
      refine RO.same (k+1) (show k+1≤max t.l 1 from nW) (show max t.l 1-(k+1)<max t.l 1-k from Nat.sub_lt_sub_left nW (Nat.lt_succ_self k)) (aI rfl (aI rfl (aI rfl (aI rfl (aI rfl (aI rfl (aI rfl (aI rfl (trivial))))))))) (aI rfl (aI rfl (aI rfl (aI rfl (aI rfl (aI rfl (aI rfl (aI rfl (aI trivial (aI trivial (trivial)))))))))))
     ·have nW:k=max t.l 1:=by
       have q5:¬(k:Int)<max (t.l:Int) 1:=of_decide_eq_false q5
       omega
      subst nW
      refine Qs ?_
      refine RO.mk (a+max t.l 1,bK xs (max t.l 1) a (es,ah),ga+1,out++[t],g+1,dE)
       [(1,.ptr 1 0 0),(3,.sl 7 (g+1) 0 (out.length+1) dE),(4,.ptr 3 0 0),(5,.ptr 5 0 0),(6,.fn (.func 37) [] [.ptr 1 0 0,.ptr 3 0 0,.ptr 5 0 0]),(7,.ptr 10 0 0)] _ ⟨by omega,kP,by rw[List.length_append];exact j5,by rw[List.length_append];show out.length+1≤_;omega,yP⟩ (show xs.length-(a+max t.l 1)<xs.length-a by omega)
       (aI rfl (aI rfl (aI rfl (aI rfl (aI rfl (aI rfl (trivial))))))) rfl (Vw.move (i:=6) (k:=10) rfl rfl rfl (aI nM.same (aI ?_ (aI nM.same (aI nM.same (aI nM.same (aI (.inr (.inr ⟨_,rfl,rfl⟩)) trivial))))))) (aI rfl (aI rfl (aI rfl (aI rfl (aI rfl (aI rfl (aI rfl (aI rfl (trivial)))))))))
      exact .inl (by rw[List.length_append];rfl)
  ·have h3:¬a+3≤xs.length:=by simp only[decide_eq_false_iff_not]at q2;omega
   rw[if_neg h3]at hB
   have j2:(⟨xs.getD a 0,0,0⟩:Tk)=B:=hB
   subst j2
   refine Qs ?_
   refine And.intro (fun q hq=>?_) ?_
   ·obtain rfl:q=0:=by have:q<1:=hq;omega
    exact⟨rfl,rfl⟩
   refine Qs ?_
   refine⟨fun j=>((out++[(⟨xs.getD a 0,0,0⟩:Tk)]).getD j default).row,fun q hq=>?_,fun dE j5=>?_⟩
   ·by_cases cI:q<out.length
    ·exact((bQ hq).trans (if_pos cI)).trans (if_pos cI).symm
    ·obtain rfl:q=out.length:=by have:q<out.length+1:=hq;omega
     refine((bQ hq).trans (if_neg cI)).trans (Eq.trans ?_ (if_neg cI).symm)
     rw[Nat.sub_self]
     rfl
   have hE:jn (out++[(⟨xs.getD a 0,0,0⟩:Tk)]) dE=.cJ 3 (out.length+1) (fun j=>((out++[(⟨xs.getD a 0,0,0⟩:Tk)]).getD j default).row) dE:=by unfold jn;rw[List.length_append];rfl
   refine Qs ?_
   refine WO.go (σ:=Nat) (fun i=>i≤max (⟨xs.getD a 0,0,0⟩:Tk).l 1) (fun i=>max (⟨xs.getD a 0,0,0⟩:Tk).l 1-i)
    (fun i=>[(1,.ptr 1 0 0),(3,.sl 7 (g+1) 0 (out.length+1) dE),(4,.ptr 3 0 0),(5,.ptr 5 0 0),(6,.fn (.func 37) [] [.ptr 1 0 0,.ptr 3 0 0,.ptr 5 0 0]),(7,.ptr 6 ga 0),(69,.int .i64 (max ((⟨xs.getD a 0,0,0⟩:Tk).l:Int) 1)),(70,.int .i64 (i:Int))])
    (fun i=>Co xs c c0 (a+i) (bK xs i a (es,ah)) ga (out++[(⟨xs.getD a 0,0,0⟩:Tk)]) (g+1) dE++[AO.gone,AO.gone]) 0 ae mixed (by kernel_rfl) (Nat.zero_le _) (aI rfl (aI rfl (aI rfl (aI rfl (aI rfl (aI rfl (aI rfl (aI rfl (trivial))))))))) (aI rfl (aI rfl (aI rfl (aI rfl (aI rfl (aI rfl (aI rfl (aI (congrArg (AO.one true (g+1)) hE) (aI trivial (aI trivial trivial)))))))))) (fun _=>rfl) (fun _=>rfl) (fun _=>lB) ?_
   intro k k1 d3
   have k1:k≤max (⟨xs.getD a 0,0,0⟩:Tk).l 1:=k1
   have kP:oO xs (a+k) (bK xs k a (es,ah)):=oO.notes k a i2
   have hle:(⟨xs.getD a 0,0,0⟩:Tk).l≤258∧a+(⟨xs.getD a 0,0,0⟩:Tk).l≤xs.length:=RE.le
   refine Qs ?_
   refine And.intro (fun q5=>?_) (fun q5=>?_)
   ·have nW:k<max (⟨xs.getD a 0,0,0⟩:Tk).l 1:=by
     have q5:(k:Int)<max ((⟨xs.getD a 0,0,0⟩:Tk).l:Int) 1:=of_decide_eq_true q5
     omega
    refine Qs ?_
    refine lz (i:=a+k) (E:=[.one true ga (.cells [.int .i64 ((a+k:Nat):Int)]),.one true (g+1) (jn (out++[(⟨xs.getD a 0,0,0⟩:Tk)]) dE),.gone,.gone]) hx hc r7 hb (by omega) kP ?_
    rw[←dv]
    refine Qs ?_
    refine RO.same (k+1) (show k+1≤max (⟨xs.getD a 0,0,0⟩:Tk).l 1 from nW) (show max (⟨xs.getD a 0,0,0⟩:Tk).l 1-(k+1)<max (⟨xs.getD a 0,0,0⟩:Tk).l 1-k from Nat.sub_lt_sub_left nW (Nat.lt_succ_self k)) (aI rfl (aI rfl (aI rfl (aI rfl (aI rfl (aI rfl (aI rfl (aI rfl (trivial))))))))) (aI rfl (aI rfl (aI rfl (aI rfl (aI rfl (aI rfl (aI rfl (aI rfl (aI trivial (aI trivial (trivial)))))))))))
   ·have nW:k=max (⟨xs.getD a 0,0,0⟩:Tk).l 1:=by
     have q5:¬(k:Int)<max ((⟨xs.getD a 0,0,0⟩:Tk).l:Int) 1:=of_decide_eq_false q5
     omega
    subst nW
    refine Qs ?_
    refine RO.mk (a+max (⟨xs.getD a 0,0,0⟩:Tk).l 1,bK xs (max (⟨xs.getD a 0,0,0⟩:Tk).l 1) a (es,ah),ga+1,out++[(⟨xs.getD a 0,0,0⟩:Tk)],g+1,dE)
     [(1,.ptr 1 0 0),(3,.sl 7 (g+1) 0 (out.length+1) dE),(4,.ptr 3 0 0),(5,.ptr 5 0 0),(6,.fn (.func 37) [] [.ptr 1 0 0,.ptr 3 0 0,.ptr 5 0 0]),(7,.ptr 10 0 0)] _ ⟨by omega,kP,by rw[List.length_append];exact j5,by rw[List.length_append];show out.length+1≤_;omega,yP⟩ (show xs.length-(a+max (⟨xs.getD a 0,0,0⟩:Tk).l 1)<xs.length-a by omega)
     (aI rfl (aI rfl (aI rfl (aI rfl (aI rfl (aI rfl (trivial))))))) rfl (Vw.move (i:=6) (k:=10) rfl rfl rfl (aI nM.same (aI ?_ (aI nM.same (aI nM.same (aI nM.same (aI (.inr (.inr ⟨_,rfl,rfl⟩)) trivial))))))) (aI rfl (aI rfl (aI rfl (aI rfl (aI rfl (aI rfl (aI rfl (aI rfl (trivial)))))))))
    exact .inl (by rw[List.length_append];rfl)
 ·have ha:a=xs.length:=by have q1:¬(a:Int)<(xs.length:Int):=of_decide_eq_false q1;omega
  have ho:out=bb xs:=by rw[←i5,show xs.length-a=0 by omega];rfl
  refine Qs ?_
  refine⟨[.e9 0,.own 7],.sl 1 g 0 out.length co,[.one false 0 (.ints .u8 xs c),.one true g (jn out co)],⟨⟨⟨rfl,_,rfl,rfl⟩,⟨rfl,rfl⟩,trivial⟩,rfl,⟨trivial,fun j=>rfl,trivial⟩,rfl,fun i hi=>?_⟩,?_⟩
  ·match i,hi with
   |0,_=>exact .inr rfl
  ·subst ho
   exact h g co i3
end
end Go.Proofs.Ytibadaomjlkoaaa
open Go.RowKit
namespace Go.Proofs.Ytibadaomjlkoaaa
set_option maxRecDepth 10000
structure WX where
 t:AV
 a:AV
 d:AV
 gT:Nat
 gA:Nat
 gD:Nat
 cT:af
 cA:af
 cD:af
 nb:AV.su 5 [t,a,d]=true∧cT.nb 5∧cA.nb 5∧cD.nb 5
 VX:AV.su 6 [t,a,d]=true∧cT.nb 6∧cA.nb 6∧cD.nb 6
def K1 (X:WX)(g:Nat)(c:Nat)(xs:List Int)(a n:Int):AH:=[.one true 0 (.cells [.sl 1 g 0 xs.length c,.int .u32 a,.int .i64 n,X.t,X.a,X.d]),.one true g (.ints .u8 xs c),.one true X.gT X.cT,.one true X.gA X.cA,.one true X.gD X.cD]
def gq (X:WX)(row:List Bool)(g c:Nat):AH:=K1 X g c (aP row) (num (rest row)) ((row.length%8:Nat):Int)
theorem WX.ok (X:WX){g c:Nat}{xs:List Int}{a n:Int}:mi 5 (K1 X g c xs a n):=⟨X.nb.1,trivial,X.nb.2.1,X.nb.2.2.1,X.nb.2.2.2,trivial⟩
theorem WX.R5 (X:WX){row:List Bool}{g c g' c':Nat}{ys:List Int}:mi 6 (gq X row g c++[.one true g' (.ints .u8 ys c')]):=⟨X.VX.1,trivial,X.VX.2.1,X.VX.2.2.1,X.VX.2.2.2,trivial,trivial⟩
section
variable{X:WX}
theorem GR {g c:Nat}{xs:List Int}{a n:Int}(hn:0≤n∧n<8)(hl:xs.length≤1048576){K Kp:AV→AH→Prop}
 (h:K (.int .i64 (8*xs.length+n)) (K1 X g c xs a n)):aa Try.prog 68 [.ptr 0 0 0] (K1 X g c xs a n) K Kp:=by
 refine O5 (fun _=>[0]) [] rfl ?_
 repeat(refine And.intro (by first|exact rfl|omega) ?_)
 exact h
theorem GV {xs:List Int}{v a n k:Int}{g c:Nat}(hn:0≤n∧n<8)(hk:0≤k∧k≤32)(hl:xs.length≤1048576)(V3:xs.length≤c){Kp}:
 aa Try.prog 66 [.ptr 0 0 0,.int .u32 v,.int .i64 k] (K1 X g c xs a n)
  (fun r M=>∃g' c' EB a' n',r=.aL []∧M=K1 X g' c' EB a' n'∧EB.length≤c'∧AM xs (cm .or .u32 a (ba .u32 v n)) (n+k) ((n+k).toNat/8)=(EB,a',n')) Kp:=by
 refine O7 (fun _=>[0]) [] rfl ?_
 repeat(refine And.intro (by first|exact rfl|omega) ?_)
 refine WA.loop (σ:=Nat×Nat×List Int×Int×Int) (fun(g',c',EB,a',n')=>EB.length≤c'∧0≤n'∧n'≤40∧EB.length*8+n'≤8*xs.length+40∧AM xs (cm .or .u32 a (ba .u32 v n)) (n+k) ((n+k).toNat/8)=AM EB a' n' (n'.toNat/8))
  (fun(g',c',EB,a',n')=>n'.toNat) (fun _=>[(0,.ptr 0 0 0)]) (fun(g',c',EB,a',n')=>K1 X g' c' EB a' n') (g,c,xs,cm .or .u32 a (ba .u32 v n),n+k) ae mixed (by kernel_rfl)
  ⟨?_,⟨rfl,trivial⟩,⟨rfl,rfl,rfl,rfl,rfl,trivial⟩⟩ (fun _=>rfl) (fun _=>rfl) (fun _=>X.ok) ?_
 ·refine⟨by omega,by omega,by omega,by omega,rfl⟩
 ·rintro⟨g',c',EB,a',n'⟩ ⟨h0,h1,h2,h3,h4⟩ d
  repeat(refine And.intro (by first|exact rfl|omega) ?_)
  refine And.intro (fun hc=>?_) (fun hc=>?_)
  ·simp only[decide_eq_true_eq]at hc
   repeat(refine And.intro (by first|exact rfl|exact Nat.le_of_ble_eq_true rfl|omega) ?_)
   intro ys sw
   obtain rfl:ys=[a'%256]:=sw
   repeat(refine And.intro (by first|exact rfl|omega|(dsimp only;omega)) ?_)
   intro c1 uL
   repeat(refine And.intro (by first|exact rfl|omega) ?_)
   refine⟨(g'+1,c1,EB++[a'%256],cn .u32 a' 8,n'-8),⟨⟨by simp;omega,by omega,by omega,by simp;omega,?_⟩,by simp only;omega⟩,⟨rfl,trivial⟩,⟨?_,rfl,rfl,rfl,rfl,trivial⟩⟩
   ·rw[h4,show n'.toNat/8=(n'-8).toNat/8+1 from by omega];rfl
   ·simp only[K1,List.length_append,List.length_cons,List.length_nil];rfl
  ·simp only[decide_eq_false_iff_not]at hc
   refine⟨g',c',EB,a',n',rfl,rfl,h0,?_⟩
   have:n'.toNat/8=0:=by omega
   rw[h4,this];rfl
theorem wI {row:List Bool}{v n:Int}{g c:Nat}(hv:0≤v)(hr:row.length≤8388608)(hc:(aP row).length≤c){Kp}:
 aa Try.prog 40 [.ptr 0 0 0,.int .u32 v,.int .i64 n] (gq X row g c)
  (fun r M=>∃g' c',r=.int .i64 (jt row v n).2∧M=gq X (jt row v n).1 g' c'∧(aP (jt row v n).1).length≤c'∧(jt row v n).1.length≤8388608) Kp:=by
 have bW:=lr row
 refine Pa (fun _=>[0]) [] rfl ?_
 repeat(refine And.intro (by first|exact rfl|omega) ?_)
 refine Az fun b hb=>?_
 rw[Fh hv]at hb
 have CH:yz v n=b:=by cases b<;>cases hm:yz v n<;>simp_all
 clear hb
 refine And.intro (fun h1=>?_) (fun h1=>?_)
 ·have l6:b=false:=by simpa using h1
  subst l6
  have e:jt row v n=(row,1):=by simp[jt,CH]
  rw[e]
  exact⟨g,c,rfl,rfl,hc,hr⟩
 ·have l6:b=true:=by simpa using h1
  subst l6
  have hm:=CH
  simp only[yz,decide_eq_true_eq]at hm
  refine GR (by omega) (by omega) ?_
  repeat(refine And.intro (by first|exact rfl|omega) ?_)
  have hlen:(8*((aP row).length:Int)+((row.length%8:Nat):Int))=row.length:=by rw[bW];omega
  refine And.intro (fun h2=>?_) (fun h2=>?_)
  ·simp only[decide_eq_true_eq]at h2
   rw[hlen]at h2
   have e:jt row v n=(row,2):=by simp[jt,CH,h2]
   rw[e]
   exact⟨g,c,rfl,rfl,hc,hr⟩
  ·simp only[decide_eq_false_iff_not]at h2
   rw[hlen]at h2
   refine aa.mono (GV (by omega) (by omega) (by omega) hc) ?_ (fun _ _ h=>h)
   rintro r M ⟨g',c',EB,a',n',rfl,rfl,V3,hL⟩
   obtain⟨k,rfl⟩:=Int.eq_ofNat_of_zero_le hm.1
   rw[show(((row.length%8:Nat):Int)+(k:Int)).toNat/8=(row.length%8+k)/8 from by omega,Jg row v k (by omega) hv (by simpa using hm.2.2)]at hL
   injection hL with e1 e2;injection e2 with e2 e3
   subst e1;subst e2;subst e3
   have e:jt row v k=(row++bitsOf v k,0):=by simp only[jt,CH,Int.toNat_natCast];rw[if_neg (by simp),if_neg (by omega)]
   rw[e]
   exact⟨g',c',rfl,rfl,V3,by simp[ai];omega⟩
theorem Bp {row:List Bool}{g c:Nat}(hr:row.length≤8388608)(hc:(aP row).length≤c){Kp}:
 aa Try.prog 18 [.ptr 0 0 0] (gq X row g c)
  (fun r M=>∃g' c',r=.sl 5 g' 0 (bp row).length c'∧M=gq X row g c++[.one true g' (.ints .u8 (bp row) c')]∧(bp row).length≤c') Kp:=by
 have bW:=lr row
 refine aa.bs ?_
 refine Pf (fun _=>[0]) [] rfl ?_
 repeat(refine And.intro (by first|exact rfl|omega) ?_)
 refine aa.lift [.eI 1 g 0] (vb (xs:=aP row) (c0:=c) (c:=c) (Kp:=fun _ _=>False) (by omega)) rfl rfl ⟨⟨_,_,_,rfl,ak rfl,eG.same rfl (fun h=>h)⟩,trivial⟩ ⟨trivial,trivial⟩ ?_ (fun _ _ h=>h.elim)
 rintro r M ⟨g',c',rfl,rfl,r8⟩
 refine⟨⟨rfl,rfl⟩,?_⟩
 repeat(refine And.intro (by first|exact rfl|omega) ?_)
 refine And.intro (fun h1=>?_) (fun h1=>?_)
 ·simp only[decide_eq_true_eq]at h1
  repeat(refine And.intro (by first|exact rfl|exact Nat.le_of_ble_eq_true rfl|exact⟨rfl,rfl,rfl,Nat.le_refl _,r8⟩|omega) ?_)
  intro ys sw
  obtain rfl:ys=[num (rest row)%256]:=sw
  repeat(refine And.intro (by first|exact rfl|omega|(dsimp only;omega)) ?_)
  intro c1 uL
  have h8:¬row.length%8=0:=by omega
  have a9:=gV (rest row)
  rw[jF]at a9
  have RH:(2:Int)^(row.length%8)≤2^7:=by exact_mod_cast Nat.pow_le_pow_right (by omega) (by omega)
  have hm:num (rest row)%256=num (rest row):=Int.emod_eq_of_lt (num_nonneg _) (by omega)
  have hb:bp row=aP row++[num (rest row)%256]:=by simp[bp,h8,hm]
  refine⟨gq X row g c++[AO.one true (g'+1) (.ints .u8 (aP row++[num (rest row)%256]) c1)],(aI rfl (aI rfl (aI rfl (aI rfl (aI rfl (aI rfl trivial)))))),X.R5,rfl,g'+1,c1,?_,?_,?_⟩
  ·rw[hb,List.length_append];rfl
  ·rw[hb]
  ·rw[hb,List.length_append];exact uL
 ·simp only[decide_eq_false_iff_not]at h1
  have hb:bp row=aP row:=by
   have:row.length%8=0:=by omega
   simp[bp,this]
  rw[hb]
  exact⟨gq X row g c++[AO.one true g' (.ints .u8 (aP row) c')],(aI rfl (aI rfl (aI rfl (aI rfl (aI rfl (aI rfl trivial)))))),X.R5,rfl,g',c',rfl,rfl,r8⟩
end
end Go.Proofs.Ytibadaomjlkoaaa
open Go.RowKit
namespace Go.Proofs.Ytibadaomjlkoaaa
set_option maxRecDepth 10000
def dX (ts:List Tk)(gt ct:Nat)(A:List Int)(ga ca:Nat)(D:List Int)(gd cd:Nat):WX:=
 ⟨.sl 2 gt 0 ts.length ct,.sl 3 ga 0 A.length ca,.sl 4 gd 0 D.length cd,gt,ga,gd,jn ts ct,.ints .u8 A ca,.ints .u8 D cd,⟨rfl,H3 _ _ _,trivial,trivial⟩,⟨rfl,H3 _ _ _,trivial,trivial⟩⟩
section
variable{K Kp:AV→AH→Prop}{X:WX}{row:List Bool}{g c:Nat}
theorem F0 (E:AH){f:Nat}{args:List AV}(h:aa Try.prog f args (gq X row g c) (fun r M=>∃g' c' vK,M=gq X vK g' c'∧r.nb 5=true∧K r (M++E)) (fun _ _=>False))
 (ha:AV.su 5 args=true):aa Try.prog f args (gq X row g c++E) K Kp:=by
 refine aa.frame E h ha X.ok (fun o ho=>?_) ?_ (fun _ _ h=>h.elim)
 ·simp only[gq,K1,List.mem_cons,List.not_mem_nil,or_false]at ho
  rcases ho with rfl|rfl|rfl|rfl|rfl<;>rfl
 ·rintro r M' ⟨g',c',vK,rfl,h1,h2⟩
  exact⟨rfl,⟨rfl,rfl,rfl,rfl,rfl,rfl⟩,X.ok,h1,h2⟩
theorem lj (E:AH){v n:Int}(hv:0≤v)(hr:row.length≤8388608)(hc:(aP row).length≤c)
 (h:∀g' c',(aP (jt row v n).1).length≤c'→(jt row v n).1.length≤8388608→K (.int .i64 (jt row v n).2) (gq X (jt row v n).1 g' c'++E)):
 aa Try.prog 40 [.ptr 0 0 0,.int .u32 v,.int .i64 n] (gq X row g c++E) K Kp:=by
 refine F0 E (aa.mono (wI (X:=X) (Kp:=fun _ _=>False) hv hr hc) ?_ (fun _ _ h=>h)) rfl
 rintro r M ⟨g',c',rfl,rfl,h1,h2⟩
 exact⟨g',c',_,rfl,rfl,h g' c' h1 h2⟩
def codeF (row:List Bool)(cs ls:List Int)(s:Nat)(ex n:Int):List Bool:=(jt (jt row (cs.getD s 0) (ls.getD s 0)).1 ex n).1
end
section
variable{K Kp:AV→AH→Prop}{row:List Bool}{g c:Nat}{ts:List Tk}{gt ct:Nat}{A:List Int}{ga ca:Nat}{D:List Int}{gd cd:Nat}
theorem Hy {cs ls:List Int}{c1 c2 c3 c4 s:Nat}{ex n:Int}(gJ:s<cs.length)(om:s<ls.length)(vw:0≤cs.getD s 0∧cs.getD s 0<65536)(CJ:0≤ls.getD s 0∧ls.getD s 0<256)(hex:0≤ex∧ex<4294967296)
 (hr:row.length≤8388608)(hc:(aP row).length≤c)
 (h:∀g' c',(aP (codeF row cs ls s ex n)).length≤c'→(codeF row cs ls s ex n).length≤8388608→K (.aL []) (gq (dX ts gt ct A ga ca D gd cd) (codeF row cs ls s ex n) g' c'++[.one false 0 (.ints .u16 cs c1),.one false 0 (.ints .u8 ls c2)])):
 aa Try.prog 48 [.ptr 0 0 0,.sl 5 0 0 cs.length c3,.sl 6 0 0 ls.length c4,.agg [.int .i64 (s:Int),.int .i64 ex,.int .i64 n]]
  (gq (dX ts gt ct A ga ca D gd cd) row g c++[.one false 0 (.ints .u16 cs c1),.one false 0 (.ints .u8 ls c2)]) K Kp:=by
 have TQ:0≤ls.getD ((s:Int).toNat+0) 0∧ls.getD ((s:Int).toNat+0) 0<256:=CJ
 have hm:cs.getD ((s:Int).toNat+0) 0%4294967296=cs.getD s 0:=by show cs.getD s 0%4294967296=cs.getD s 0;exact Int.emod_eq_of_lt vw.1 (by omega)
 have JB:ex%4294967296=ex:=Int.emod_eq_of_lt hex.1 hex.2
 refine aa.bs ?_
 refine B2 (fun _=>[5,6,7]) [] rfl ?_
 refine Qs ?_
 refine lj (X:=dX ts gt ct A ga ca D gd cd) [.one false 0 (.ints .u16 cs c1),.one false 0 (.ints .u8 ls c2),.one true 0 (.cells [.int .i64 (s:Int),.int .i64 ex,.int .i64 n])] (v:=cs.getD ((s:Int).toNat+0) 0%4294967296) (n:=ls.getD ((s:Int).toNat+0) 0) (by rw[hm];exact vw.1) hr hc (fun g1 ZH h1 h2=>?_)
 rw[hm]at h1 h2⊢
 refine Qs ?_
 refine lj (X:=dX ts gt ct A ga ca D gd cd) [.one false 0 (.ints .u16 cs c1),.one false 0 (.ints .u8 ls c2),.one true 0 (.cells [.int .i64 (s:Int),.int .i64 ex,.int .i64 n])] (v:=ex%4294967296) (n:=n) (by rw[JB];exact hex.1) h2 h1 (fun g2 OW h3 h4=>?_)
 rw[JB]at h3 h4⊢
 refine Qs ?_
 exact⟨gq (dX ts gt ct A ga ca D gd cd) (codeF row cs ls s ex n) g2 OW++[AO.one false 0 (.ints .u16 cs c1),AO.one false 0 (.ints .u8 ls c2)],(aI rfl (aI rfl (aI rfl (aI rfl (aI rfl (aI rfl (aI rfl (trivial)))))))),⟨rfl,trivial,(fun j=>rfl),trivial,trivial,trivial,trivial,trivial⟩,rfl,h g2 OW h3 h4⟩
theorem C6 {cs:List Int}{c1 c3 s:Nat}{ex n:Int}(gJ:s<cs.length)(om:s<A.length)(vw:0≤cs.getD s 0∧cs.getD s 0<65536)(CJ:0≤A.getD s 0∧A.getD s 0<256)(hex:0≤ex∧ex<4294967296)
 (hr:row.length≤8388608)(hc:(aP row).length≤c)
 (h:∀g' c',(aP (codeF row cs A s ex n)).length≤c'→(codeF row cs A s ex n).length≤8388608→K (.aL []) (gq (dX ts gt ct A ga ca D gd cd) (codeF row cs A s ex n) g' c'++[.one false 0 (.ints .u16 cs c1)])):
 aa Try.prog 48 [.ptr 0 0 0,.sl 5 0 0 cs.length c3,.sl 3 ga 0 A.length ca,.agg [.int .i64 (s:Int),.int .i64 ex,.int .i64 n]]
  (gq (dX ts gt ct A ga ca D gd cd) row g c++[.one false 0 (.ints .u16 cs c1)]) K Kp:=by
 have TQ:0≤A.getD ((s:Int).toNat+0) 0∧A.getD ((s:Int).toNat+0) 0<256:=CJ
 have hm:cs.getD ((s:Int).toNat+0) 0%4294967296=cs.getD s 0:=by show cs.getD s 0%4294967296=cs.getD s 0;exact Int.emod_eq_of_lt vw.1 (by omega)
 have JB:ex%4294967296=ex:=Int.emod_eq_of_lt hex.1 hex.2
 refine aa.bs ?_
 refine B2 (fun _=>[5,3,6]) [] rfl ?_
 refine Qs ?_
 refine lj (X:=dX ts gt ct A ga ca D gd cd) [.one false 0 (.ints .u16 cs c1),.one true 0 (.cells [.int .i64 (s:Int),.int .i64 ex,.int .i64 n])] (v:=cs.getD ((s:Int).toNat+0) 0%4294967296) (n:=A.getD ((s:Int).toNat+0) 0) (by rw[hm];exact vw.1) hr hc (fun g1 ZH h1 h2=>?_)
 rw[hm]at h1 h2⊢
 refine Qs ?_
 refine lj (X:=dX ts gt ct A ga ca D gd cd) [.one false 0 (.ints .u16 cs c1),.one true 0 (.cells [.int .i64 (s:Int),.int .i64 ex,.int .i64 n])] (v:=ex%4294967296) (n:=n) (by rw[JB];exact hex.1) h2 h1 (fun g2 OW h3 h4=>?_)
 rw[JB]at h3 h4⊢
 refine Qs ?_
 exact⟨gq (dX ts gt ct A ga ca D gd cd) (codeF row cs A s ex n) g2 OW++[AO.one false 0 (.ints .u16 cs c1)],(aI rfl (aI rfl (aI rfl (aI rfl (aI rfl (aI rfl (trivial))))))),⟨rfl,trivial,(fun j=>rfl),trivial,trivial,trivial,trivial⟩,rfl,h g2 OW h3 h4⟩
theorem C5 {cs:List Int}{c1 c3 s:Nat}{ex n:Int}(gJ:s<cs.length)(om:s<D.length)(vw:0≤cs.getD s 0∧cs.getD s 0<65536)(CJ:0≤D.getD s 0∧D.getD s 0<256)(hex:0≤ex∧ex<4294967296)
 (hr:row.length≤8388608)(hc:(aP row).length≤c)
 (h:∀g' c',(aP (codeF row cs D s ex n)).length≤c'→(codeF row cs D s ex n).length≤8388608→K (.aL []) (gq (dX ts gt ct A ga ca D gd cd) (codeF row cs D s ex n) g' c'++[.one false 0 (.ints .u16 cs c1)])):
 aa Try.prog 48 [.ptr 0 0 0,.sl 5 0 0 cs.length c3,.sl 4 gd 0 D.length cd,.agg [.int .i64 (s:Int),.int .i64 ex,.int .i64 n]]
  (gq (dX ts gt ct A ga ca D gd cd) row g c++[.one false 0 (.ints .u16 cs c1)]) K Kp:=by
 have TQ:0≤D.getD ((s:Int).toNat+0) 0∧D.getD ((s:Int).toNat+0) 0<256:=CJ
 have hm:cs.getD ((s:Int).toNat+0) 0%4294967296=cs.getD s 0:=by show cs.getD s 0%4294967296=cs.getD s 0;exact Int.emod_eq_of_lt vw.1 (by omega)
 have JB:ex%4294967296=ex:=Int.emod_eq_of_lt hex.1 hex.2
 refine aa.bs ?_
 refine B2 (fun _=>[5,4,6]) [] rfl ?_
 refine Qs ?_
 refine lj (X:=dX ts gt ct A ga ca D gd cd) [.one false 0 (.ints .u16 cs c1),.one true 0 (.cells [.int .i64 (s:Int),.int .i64 ex,.int .i64 n])] (v:=cs.getD ((s:Int).toNat+0) 0%4294967296) (n:=D.getD ((s:Int).toNat+0) 0) (by rw[hm];exact vw.1) hr hc (fun g1 ZH h1 h2=>?_)
 rw[hm]at h1 h2⊢
 refine Qs ?_
 refine lj (X:=dX ts gt ct A ga ca D gd cd) [.one false 0 (.ints .u16 cs c1),.one true 0 (.cells [.int .i64 (s:Int),.int .i64 ex,.int .i64 n])] (v:=ex%4294967296) (n:=n) (by rw[JB];exact hex.1) h2 h1 (fun g2 OW h3 h4=>?_)
 rw[JB]at h3 h4⊢
 refine Qs ?_
 exact⟨gq (dX ts gt ct A ga ca D gd cd) (codeF row cs D s ex n) g2 OW++[AO.one false 0 (.ints .u16 cs c1)],(aI rfl (aI rfl (aI rfl (aI rfl (aI rfl (aI rfl (trivial))))))),⟨rfl,trivial,(fun j=>rfl),trivial,trivial,trivial,trivial⟩,rfl,h g2 OW h3 h4⟩
end
end Go.Proofs.Ytibadaomjlkoaaa
