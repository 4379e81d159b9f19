import Derived.Test.YtibadaomjlkoaaaGda
import Derived.Test.YtibadaomjlkoaaaGb
set_option linter.unusedVariables false
set_option linter.unusedSimpArgs false
open Go.RowKit
namespace Go.Proofs.Ytibadaomjlkoaaa
def kP (n k:Nat):List Int:=(List.replicate n 0).set k 1
def aM (fr:List Int):List Nat:=(List.range fr.length).filter fun i=>decide (0<fr.getD i 0)
def cS (fr:List Int):List It:=(aM fr).mapIdx fun k s=>⟨fr.getD s 0,0,k⟩
structure Row where
 all:List It
 us:Nat→List Int
 m:Nat
def UM (m:Nat)(x:It):It:={x with u:=m+x.u}
def Row.next (lv:List It)(r:Row):Row where
 all:=(bm (az r.all)).map (UM r.m)++lv
 us:=fun j=>if j<r.m then r.us j else Bh r.us (az r.all) (j-r.m)
 m:=r.m+(az r.all).length
def ag (fr:List Int):Nat→Row
 |0=>⟨[],kP (aM fr).length,(aM fr).length⟩
 |k+1=>(ag fr k).next (cS fr)
def qE (used:List Nat)(uv:List Int)(out:List Int):List Int:=(used.zip uv).foldl (fun o p=>o.set p.1 ((o.getD p.1 0+p.2%256)%256)) out
def ud (fr:List Int)(r:Row)(t:List It):List Int:=t.foldl (fun o x=>qE (aM fr) (r.us x.u) o) (List.replicate fr.length 0)
def xK (fr:List Int)(limit:Int):Bool:=decide (limit<1)||decide (15<limit)||decide (320<fr.length)||fr.any jX
def bM (fr:List Int)(limit:Nat):List Int:=
 match(aM fr).length with
 |0=>List.replicate fr.length 0
 |1=>(List.replicate fr.length 0).set ((aM fr).getD 0 0) 1
 |n=>ud fr (ag fr limit) ((eF (ag fr limit).all.length (dV (ag fr limit).all)).take (2*n-2))
def bw (fr:List Int)(limit:Int):List Int×Int:=
 if xK fr limit=true then([],1)else if 2^limit.toNat<(aM fr).length then([],60)else(bM fr limit.toNat,0)
theorem yy:∀(h:Nat){L:List It}{x:It},h≤L.length→x∈eF h L→x∈L
 |0,_,_,_,h=>by cases h
 |h+1,L,x,hn,hx=>by
  simp only[eF,List.mem_cons]at hx
  rcases hx with rfl|hx
  ·exact iy (Nat.succ_pos h) hn (lh (by rw[eG];omega))
  ·exact iy (Nat.succ_pos h) hn (yy h (by rw[eG];omega) hx)
theorem qd:∀l:List It,(cz l).length=l.length/2
 |[]=>rfl
 |[_]=>by simp[cz]
 |a::b::r=>by simp[cz,qd r];omega
theorem jy:∀{l:List It}{a b:It},(a,b)∈cz l→a∈l∧b∈l
 |[],_,_,h=>by cases h
 |[_],_,_,h=>by cases h
 |a::b::r,x,y,h=>by
  simp only[cz,List.mem_cons]at h
  rcases h with h|h
  ·cases h;simp
  ·obtain⟨h1,h2⟩:=jy h
   simp[h1,h2]
theorem mg (L:List It):(az L).length=L.length/2:=by unfold az;rw[qd,oM]
theorem u5 {L:List It}{x:It}(h:x∈dV L):∃y∈L,y.w=x.w∧y.u=x.u:=by
 unfold dV at h
 exact Co (sI _ (by rw[eJ];exact Nat.le_refl _) h)
theorem iM {L:List It}{x:It}(h:x∈eF L.length (dV L)):∃y∈L,y.w=x.w∧y.u=x.u:=
 u5 (yy _ (by rw[lS];exact Nat.le_refl _) h)
theorem DZ {L:List It}{a b:It}(h:(a,b)∈az L):(∃y∈L,y.w=a.w∧y.u=a.u)∧∃y∈L,y.w=b.w∧y.u=b.u:=by
 obtain⟨h1,h2⟩:=jy h
 exact⟨iM h1,iM h2⟩
theorem tA {L:List It}{p:It×It}(h:p∈az L):(∃y∈L,y.w=p.1.w∧y.u=p.1.u)∧∃y∈L,y.w=p.2.w∧y.u=p.2.u:=by
 obtain⟨a,b⟩:=p
 exact DZ h
theorem rY (fr:List Int):(aM fr).length≤fr.length:=by
 unfold aM;exact Nat.le_trans (List.length_filter_le _ _) (by simp)
theorem gz {fr:List Int}{s:Nat}(h:s∈aM fr):s<fr.length∧0<fr.getD s 0:=by
 unfold aM at h
 simp only[List.mem_filter,List.mem_range,decide_eq_true_eq]at h
 exact h
theorem Hq (fr:List Int):(cS fr).length=(aM fr).length:=by simp[cS]
theorem kY (fr:List Int)(k:Nat):(ag fr (k+1)).all.length=(ag fr k).all.length/2+(aM fr).length:=by
 simp[ag,Row.next,dg,mg,Hq]
theorem iZ (fr:List Int):∀k,(ag fr k).all.length≤2*(aM fr).length
 |0=>Nat.zero_le _
 |k+1=>by rw[kY];have:=iZ fr k;omega
theorem vw (fr:List Int)(K:Nat)(hK:(aM fr).length≤2^K):∀k,k+1≤K→2*(aM fr).length≤(ag fr (k+1)).all.length+2^(K-k)
 |0,_=>by rw[kY];simp only[Nat.sub_zero];omega
 |k+1,h=>by
  have ih:=vw fr K hK k (by omega)
  rw[kY]
  have e:2^(K-k)=2*2^(K-(k+1)):=by rw[show K-k=(K-(k+1))+1 by omega,Nat.pow_succ];omega
  rw[e]at ih
  omega
theorem l8 (fr:List Int){K:Nat}(h1:1≤K)(hK:(aM fr).length≤2^K):2*(aM fr).length-2≤(ag fr K).all.length:=by
 obtain⟨k,rfl⟩:∃k,K=k+1:=⟨K-1,by omega⟩
 have:=vw fr (k+1) hK k (Nat.le_refl _)
 rw[show k+1-k=1 by omega]at this
 omega
theorem H3 (n k:Nat):(kP n k).length=n:=by simp[kP]
theorem H2 {n k:Nat}{v:Int}(h:v∈kP n k):0≤v∧v≤1:=by
 rcases List.mem_or_eq_of_mem_set h with h|rfl
 ·obtain⟨_,rfl⟩:=List.mem_replicate.1 h;omega
 ·omega
theorem ML {fr:List Int}(h:fr.any jX=false){x:Int}(hx:x∈fr):0≤x∧x≤1099511627776:=by
 have:=List.any_eq_false.1 h x hx
 simp only[jX,Bool.or_eq_true,decide_eq_true_eq,not_or]at this
 omega
theorem Bp:∀{a b:List Int}{v:Int},v∈List.zipWith (·+·) a b→∃x∈a,∃y∈b,v=x+y
 |[],_,_,h=>by simp at h
 |_::_,[],_,h=>by simp at h
 |x::a,y::b,v,h=>by
  simp only[List.zipWith_cons_cons,List.mem_cons]at h
  rcases h with rfl|h
  ·exact⟨x,by simp,y,by simp,rfl⟩
  ·obtain⟨x',h1,y',h2,e⟩:=Bp h
   exact⟨x',by simp[h1],y',by simp[h2],e⟩
theorem jh {l:List Nat}{j d:Nat}(h:j<l.length):l.getD j d∈l:=by
 rw[List.getD_eq_getElem?_getD,List.getElem?_eq_getElem h];exact List.getElem_mem h
theorem Jv {l:List Int}{j:Nat}{d:Int}(h:j<l.length):l.getD j d∈l:=by
 rw[List.getD_eq_getElem?_getD,List.getElem?_eq_getElem h];exact List.getElem_mem h
theorem Ju {l:List (It×It)}{j:Nat}(h:j<l.length):l.getD j default∈l:=by
 rw[List.getD_eq_getElem?_getD,List.getElem?_eq_getElem h];exact List.getElem_mem h
theorem To {fr:List Int}(h:fr.any jX=false){x:It}(hx:x∈cS fr):M7 (aM fr).length 1099511627776 x:=by
 obtain⟨j,hj,rfl⟩:=List.getElem_of_mem hx
 have qG:j<(aM fr).length:=by simpa[cS]using hj
 simp only[cS,List.getElem_mapIdx]
 obtain⟨h1,h2⟩:=gz (List.getElem_mem qG)
 have:=ML h (Jv (d:=0) h1)
 exact⟨qG,this⟩
theorem nB {fr:List Int}(h:fr.any jX=false)(hl:fr.length≤320):∀k,k≤15→uQ (aM fr).length (ag fr k).m (ag fr k).us (1099511627776*2^k) (2^k) (ag fr k).all
 |0,_=>by
  have hn:=rY fr
  exact⟨by simp[ag],by simp[ag],fun r _=>H3 _ _,fun r _ v hv=>by simpa using H2 hv,by omega,by decide,by decide⟩
 |k+1,hk=>by
  have ih:=nB h hl k (by omega)
  have hn:=rY fr
  have y6:=iZ fr (k+1)
  have Jd:(2:Int)^(k+1)=2*2^k:=by rw[Int.pow_succ];omega
  have cg:(2:Int)^k≤16384:=by
   have:(2:Int)^k≤2^14:=by exact_mod_cast Nat.pow_le_pow_right (by omega) (show k≤14 by omega)
   simpa using this
  have hp1:(1:Int)≤2^k:=by exact_mod_cast Nat.one_le_two_pow
  have Bk:∀j,j<(az (ag fr k).all).length→M7 (ag fr k).m (1099511627776*2^k) ((az (ag fr k).all).getD j default).1∧M7 (ag fr k).m (1099511627776*2^k) ((az (ag fr k).all).getD j default).2:=by
   intro j hj
   obtain⟨⟨y,h1,e1,e2⟩,z,h2,e3,e4⟩:=tA (Ju hj)
   have a:=ih.items y h1
   have b:=ih.items z h2
   unfold M7 at*
   rw[←e1,←e2,←e3,←e4]
   exact⟨a,b⟩
  have Zp:(aM fr).length≤(ag fr k).m:=by
   clear ih Bk y6 Jd cg hp1 hk
   induction k with
   |zero=>exact Nat.le_refl _
   |succ k ih=>simp only[ag,Row.next];omega
  refine⟨by omega,?_,?_,?_,by omega,by rw[Jd];omega,by rw[Jd];omega⟩
  ·intro x hx
   simp only[ag,Row.next,List.mem_append,List.mem_map]at hx
   rcases hx with⟨y,hy,rfl⟩|hx
   ·obtain⟨j,hj,rfl⟩:=List.getElem_of_mem hy
    have qG:j<(az (ag fr k).all).length:=by simpa[bm]using hj
    obtain⟨⟨_,a1,a2⟩,⟨_,b1,b2⟩⟩:=Bk j qG
    simp only[List.getD_eq_getElem?_getD,List.getElem?_eq_getElem qG,Option.getD_some]at a1 a2 b1 b2
    simp only[UM,bm,List.getElem_mapIdx,M7,ag,Row.next]
    refine⟨by omega,by omega,by rw[Jd];omega⟩
   ·obtain⟨h1,h2,h3⟩:=To h hx
    refine⟨?_,h2,by rw[Jd];omega⟩
    simp only[ag,Row.next];omega
  ·intro r hr
   simp only[ag,Row.next]at hr⊢
   split
   ·exact ih.ul r ‹_›
   ·obtain⟨⟨a,_⟩,⟨b,_⟩⟩:=Bk (r-(ag fr k).m) (by omega)
    simp only[Bh,List.length_zipWith,ih.ul _ a,ih.ul _ b,Nat.min_self]
  ·intro r hr v hv
   simp only[ag,Row.next]at hr hv
   split at hv
   ·have:=ih.uv r ‹_› v hv
    rw[Jd];omega
   ·obtain⟨⟨a,_⟩,⟨b,_⟩⟩:=Bk (r-(ag fr k).m) (by omega)
    obtain⟨x,hx,y,hy,rfl⟩:=Bp hv
    have:=ih.uv _ a x hx
    have:=ih.uv _ b y hy
    rw[Jd];omega
theorem MQ (used:List Nat)(uv:List Int)(out:List Int):(qE used uv out).length=out.length:=by
 unfold qE
 generalize used.zip uv=l
 induction l generalizing out with
 |nil=>rfl
 |cons p l ih=>rw[List.foldl_cons,ih];simp
theorem vJ (fr:List Int)(r:Row)(t:List It):(ud fr r t).length=fr.length:=by
 unfold ud
 suffices h:∀o:List Int,(t.foldl (fun o x=>qE (aM fr) (r.us x.u) o) o).length=o.length by rw[h];simp
 induction t with
 |nil=>intro o;rfl
 |cons x t ih=>intro o;rw[List.foldl_cons,ih,MQ]
theorem vY (fr:List Int)(K:Nat):(bM fr K).length=fr.length:=by
 unfold bM;split<;>simp[vJ]
theorem yT {fr:List Int}(K:Nat)(h:(aM fr).length=0):bM fr K=List.replicate fr.length 0:=by
 unfold bM;rw[h];rfl
theorem Cs {fr:List Int}(K:Nat)(h:(aM fr).length=1):bM fr K=(List.replicate fr.length 0).set ((aM fr).getD 0 0) 1:=by
 unfold bM;rw[h];rfl
theorem vX {fr:List Int}(K:Nat)(h:2≤(aM fr).length):bM fr K=ud fr (ag fr K) ((eF (ag fr K).all.length (dV (ag fr K).all)).take (2*(aM fr).length-2)):=by
 unfold bM
 split
 ·omega
 ·omega
 ·rfl
theorem G3 (fr:List Int)(k:Nat):(aM fr).length≤(ag fr k).m:=by
 induction k with
 |zero=>exact Nat.le_refl _
 |succ k ih=>simp only[ag,Row.next];omega
theorem oV {fr:List Int}{k:Nat}(h:k<(aM fr).length):(cS fr).getD k default=⟨fr.getD ((aM fr).getD k 0) 0,0,k⟩:=by
 simp[cS,List.getD_eq_getElem?_getD,h]
theorem Hk {lv:List It}{r:Row}{j:Nat}(h:j<(az r.all).length):(r.next lv).all.getD j default=UM r.m ((bm (az r.all)).getD j default):=by
 have h':j<(bm (az r.all)).length:=by rw[dg];exact h
 simp[Row.next,List.getD_eq_getElem?_getD,List.getElem?_append_left,h']
theorem Hl {lv:List It}{r:Row}{j:Nat}(h:(az r.all).length≤j):(r.next lv).all.getD j default=lv.getD (j-(az r.all).length) default:=by
 simp[Row.next,List.getD_eq_getElem?_getD,List.getElem?_append_right,dg,h]
def Di (used:List Nat)(uv:List Int)(k:Nat)(out:List Int):List Int:=((used.zip uv).take k).foldl (fun o p=>o.set p.1 ((o.getD p.1 0+p.2%256)%256)) out
theorem JR {used:List Nat}{uv:List Int}{k:Nat}(out:List Int)(h1:k<used.length)(h2:k<uv.length):
 Di used uv (k+1) out=(Di used uv k out).set (used.getD k 0) (((Di used uv k out).getD (used.getD k 0) 0+uv.getD k 0%256)%256):=by
 have hk:k<(used.zip uv).length:=by simp;omega
 unfold Di
 rw[List.take_succ_eq_append_getElem hk,List.foldl_append,List.getElem_zip]
 simp[List.getD_eq_getElem?_getD,h1,h2]
theorem MR {used:List Nat}{uv:List Int}{k:Nat}(out:List Int)(h1:used.length≤k):Di used uv k out=qE used uv out:=by
 unfold Di qE
 rw[List.take_of_length_le (by simp;omega)]
theorem sB (fr:List Int)(r:Row)(t:List It)(x:It):ud fr r (t++[x])=qE (aM fr) (r.us x.u) (ud fr r t):=by
 unfold ud;rw[List.foldl_append];rfl
end Go.Proofs.Ytibadaomjlkoaaa
open Go.RowKit
namespace Go.Proofs.Ytibadaomjlkoaaa
set_option maxRecDepth 10000
def upto (fr:List Int)(i:Nat):List Nat:=(List.range i).filter fun j=>decide (0<fr.getD j 0)
theorem x4 (fr:List Int)(i:Nat):upto fr (i+1)=if 0<fr.getD i 0 then upto fr i++[i]else upto fr i:=by
 unfold upto
 rw[List.range_succ,List.filter_append]
 by_cases h:0<fr.getD i 0
 ·rw[if_pos h,List.filter_cons_of_pos (by simpa using h)];simp
 ·rw[if_neg h,List.filter_cons_of_neg (by simpa using h)];simp
theorem J5 (fr:List Int)(i:Nat):(upto fr i).length≤i:=by
 unfold upto;exact Nat.le_trans (List.length_filter_le _ _) (by simp)
theorem Iu (K:Nat)(h:K≤15):bg .i64 1 (K:Int)=((2^K:Nat):Int):=by
 have:∀K,K<16→bg .i64 1 ((K:Nat):Int)=((2^K:Nat):Int):=by decide
 exact this K (by omega)
section
variable{fr:List Int}{c c0:Nat}{Kp:AV→AH→Prop}
theorem Ar {limit:Int}(hl:fr.length≤2000):aa Try.prog 46 [.sl 0 0 0 fr.length c0,.int .i64 limit] [.one false 0 (.ints .i64 fr c)]
 (fun r M=>∃g' c',r=.aE [.sl 1 g' 0 (bw fr limit).1.length c',.int .i64 (bw fr limit).2]∧M=[.one false 0 (.ints .i64 fr c),.one true g' (.ints .u8 (bw fr limit).1 c')]∧(bw fr limit).1.length≤c') Kp:=by
 have bad:xK fr limit=true→bw fr limit=([],1):=fun h=>by unfold bw;rw[if_pos h]
 refine aa.cQ ?_
 refine aa.eS ?_
 refine SF (fun _=>[0]) [] rfl ?_
 refine Qs ?_
 refine And.intro (fun b1=>?_) (fun b1=>?_)
 ·have e:=bad (by unfold xK;rw[b1];rfl)
  refine Qs ?_
  refine⟨_,_,Vw.canon (x:=.ints .u8 [] 0) ⟨rfl,rfl⟩ (bL (mF (bL (by simp only[iE];exact .inr rfl) (bL (iB _ _) (ee _)))) (ee _)),[.dE 0,.own 1],.aE [.sl 1 0 0 0 0,.int .i64 1],[.one false 0 (.ints .i64 fr c),.one true 0 (.ints .u8 [] 0)],⟨⟨⟨rfl,_,rfl,rfl⟩,⟨rfl,rfl⟩,trivial⟩,rfl,⟨trivial,trivial,trivial⟩,rfl,?_⟩,?_⟩
  ·intro i hi
   match i,hi with
   |0,_=>exact .inr rfl
  ·rw[e]
   exact⟨0,0,rfl,rfl,Nat.le_refl _⟩
 refine Qs ?_
 refine And.intro (fun b2=>?_) (fun b2=>?_)
 ·have e:=bad (by unfold xK;rw[b2];simp)
  refine Qs ?_
  refine⟨_,_,Vw.canon (x:=.ints .u8 [] 0) ⟨rfl,rfl⟩ (bL (mF (bL (by simp only[iE];exact .inr rfl) (bL (iB _ _) (ee _)))) (ee _)),[.dE 0,.own 1],.aE [.sl 1 0 0 0 0,.int .i64 1],[.one false 0 (.ints .i64 fr c),.one true 0 (.ints .u8 [] 0)],⟨⟨⟨rfl,_,rfl,rfl⟩,⟨rfl,rfl⟩,trivial⟩,rfl,⟨trivial,trivial,trivial⟩,rfl,?_⟩,?_⟩
  ·intro i hi
   match i,hi with
   |0,_=>exact .inr rfl
  ·rw[e]
   exact⟨0,0,rfl,rfl,Nat.le_refl _⟩
 refine Qs ?_
 refine And.intro (fun b3=>?_) (fun b3=>?_)
 ·have b3':(320:Int)<fr.length:=by simpa using b3
  have e:=bad (by unfold xK;rw[show decide (320<fr.length)=true by rw[decide_eq_true_eq];omega];simp)
  refine Qs ?_
  refine⟨_,_,Vw.canon (x:=.ints .u8 [] 0) ⟨rfl,rfl⟩ (bL (mF (bL (by simp only[iE];exact .inr rfl) (bL (iB _ _) (ee _)))) (ee _)),[.dE 0,.own 1],.aE [.sl 1 0 0 0 0,.int .i64 1],[.one false 0 (.ints .i64 fr c),.one true 0 (.ints .u8 [] 0)],⟨⟨⟨rfl,_,rfl,rfl⟩,⟨rfl,rfl⟩,trivial⟩,rfl,⟨trivial,trivial,trivial⟩,rfl,?_⟩,?_⟩
  ·intro i hi
   match i,hi with
   |0,_=>exact .inr rfl
  ·rw[e]
   exact⟨0,0,rfl,rfl,Nat.le_refl _⟩
 have b3':¬(320:Int)<fr.length:=by simpa using b3
 have Vg:¬limit<1:=by simpa using b1
 have b2':¬15<limit:=by simpa using b2
 refine Qs ?_
 refine Jr (by omega) ?_
 refine Qs ?_
 refine And.intro (fun b4=>?_) (fun b4=>?_)
 ·have e:=bad (by unfold xK;rw[b4];simp)
  refine Qs ?_
  refine⟨_,_,Vw.canon (x:=.ints .u8 [] 0) ⟨rfl,rfl⟩ (bL (mF (bL (by simp only[iE];exact .inr rfl) (bL (iB _ _) (ee _)))) (ee _)),[.dE 0,.own 1],.aE [.sl 1 0 0 0 0,.int .i64 1],[.one false 0 (.ints .i64 fr c),.one true 0 (.ints .u8 [] 0)],⟨⟨⟨rfl,_,rfl,rfl⟩,⟨rfl,rfl⟩,trivial⟩,rfl,⟨trivial,trivial,trivial⟩,rfl,?_⟩,?_⟩
  ·intro i hi
   match i,hi with
   |0,_=>exact .inr rfl
  ·rw[e]
   exact⟨0,0,rfl,rfl,Nat.le_refl _⟩
 have CF:xK fr limit=false:=by
  unfold xK
  rw[b1,b2,b4,show decide (320<fr.length)=false by rw[decide_eq_false_iff_not];omega];rfl
 refine Rs ?_
 refine WO.Dv (σ:=Nat×Nat×Nat×List Int) (fun(i,g,cc,ys)=>i≤fr.length∧ys.length≤cc∧ys=(upto fr i).map Int.ofNat) (fun(i,_,_,_)=>fr.length-i)
  (fun(i,g,cc,ys)=>[(0,.sl 0 0 0 fr.length c0),(1,.int .i64 limit),(6,.sl 1 0 0 fr.length fr.length),(7,.sl 2 g 0 ys.length cc),(38,.sl 0 0 0 fr.length c0),(39,.int .i64 fr.length),(40,.int .i64 (i:Int))])
  (fun(i,g,cc,ys)=>[.one false 0 (.ints .i64 fr c),.one true 0 (.ints .u8 (List.replicate fr.length 0) fr.length),.one true g (.ints .i64 ys cc)]) (0,0,0,[]) ae mixed (by kernel_rfl)
  [(0,.sl 0 0 0 fr.length c0),(1,.int .i64 limit),(6,.sl 1 0 0 fr.length fr.length),(7,.ns),(38,.sl 0 0 0 fr.length c0),(39,.int .i64 fr.length),(40,.int .i64 0)] _ ⟨Nat.zero_le _,Nat.zero_le _,rfl⟩ (aI rfl (aI rfl (aI rfl (aI rfl (aI rfl (aI rfl (aI rfl (trivial)))))))) rfl (Vw.pz (x:=.ints .i64 [] 0) ⟨rfl,rfl⟩ ?_) (aI rfl (aI rfl (aI rfl (trivial)))) (fun _=>rfl) (fun _=>rfl) (fun _=>⟨trivial,trivial,trivial,trivial⟩) ?_
 ·exact And.intro (.inl rfl) (And.intro (.inl rfl) (And.intro (.inl rfl) (And.intro (.inr ⟨rfl,rfl⟩) (And.intro (.inl rfl) (And.intro (.inl rfl) (And.intro (.inl rfl) trivial))))))
 rintro⟨i,g,cc,ys⟩ ⟨h1,h2,h3⟩ d
 have hyl:ys.length≤i:=by rw[h3,List.length_map];exact J5 fr i
 refine Rs ?_
 refine And.intro (fun hc=>?_) (fun hc=>?_)
 ·simp only[decide_eq_true_eq]at hc
  refine Rs ?_
  refine And.intro (fun hb=>?_) (fun hb=>?_)
  ·have na:0<fr.getD i 0:=by simpa using hb
   refine Rs ?_
   intro zs dk
   obtain rfl:zs=[(i:Int)]:=by rw[dk];rfl
   refine Rs ?_
   intro c1 pD
   refine Rs ?_
   refine RO.same (i+1,g+1,c1,ys++[(i:Int)]) ⟨by omega,by simpa using pD,by rw[x4,if_pos na,h3];simp⟩ (show fr.length-(i+1)<fr.length-i by omega) (And.intro rfl (And.intro rfl (And.intro rfl (And.intro ?_ (And.intro rfl (And.intro rfl (And.intro rfl trivial))))))) (aI rfl (aI rfl (aI rfl (trivial))))
   show AV.sl 2 (g+1) 0 (ys.length+1) c1=AV.sl 2 (g+1) 0 (ys++[(i:Int)]).length c1
   rw[List.length_append];rfl
  ·have na:¬0<fr.getD i 0:=by simpa using hb
   refine Rs ?_
   refine RO.same (i+1,g,cc,ys) ⟨by omega,h2,by rw[x4,if_neg na];exact h3⟩ (show fr.length-(i+1)<fr.length-i by omega) (aI rfl (aI rfl (aI rfl (aI rfl (aI rfl (aI rfl (aI rfl (trivial)))))))) (aI rfl (aI rfl (aI rfl (trivial))))
 ·simp only[decide_eq_false_iff_not]at hc
  obtain rfl:i=fr.length:=by omega
  have hu:ys=(aM fr).map Int.ofNat:=h3
  have uh:=rY fr
  have hyn:ys.length=(aM fr).length:=by rw[hu,List.length_map]
  clear h3
  obtain⟨K,rfl⟩:∃K:Nat,limit=(K:Int):=⟨limit.toNat,by omega⟩
  have CB:bg .i64 1 (K:Int)=((2^K:Nat):Int):=Iu K (by omega)
  have hgo:bw fr (K:Int)=if 2^K<(aM fr).length then([],60)else(bM fr K,0):=by
   unfold bw;rw[CF];simp
  refine Qs ?_
  refine And.intro (fun b5=>?_) (fun b5=>?_)
  ·have b5':bg .i64 1 (K:Int)<ys.length:=by simpa using b5
   have e:bw fr (K:Int)=([],60):=by rw[hgo,if_pos (by omega)]
   refine Qs ?_
   refine⟨_,_,Vw.canon (x:=.ints .u8 [] 0) ⟨rfl,rfl⟩ (bL (mF (bL (by simp only[iE];exact .inr rfl) (bL (iB _ _) (ee _)))) (ee _)),[.dE 0,.own 3],.aE [.sl 1 0 0 0 0,.int .i64 60],[.one false 0 (.ints .i64 fr c),.one true 0 (.ints .u8 [] 0)],⟨⟨⟨rfl,_,rfl,rfl⟩,⟨rfl,rfl⟩,trivial⟩,rfl,⟨trivial,trivial,trivial⟩,rfl,?_⟩,?_⟩
   ·intro i hi
    match i,hi with
    |0,_=>exact .inr rfl
   ·rw[e]
    exact⟨0,0,rfl,rfl,Nat.le_refl _⟩
  have b5':¬bg .i64 1 (K:Int)<ys.length:=by simpa using b5
  have aas:bw fr (K:Int)=(bM fr K,0):=by rw[hgo,if_neg (by omega)]
  refine Qs ?_
  have ZZ:∀k,k<ys.length→ys.getD k 0=((aM fr).getD k 0:Int)∧(aM fr).getD k 0<fr.length:=by
   intro k hk
   have mr:k<(aM fr).length:=by omega
   refine⟨?_,(gz (jh mr)).1⟩
   rw[hu];simp[List.getD_eq_getElem?_getD,mr]
  have ui:∀OUT:List Int,bM fr K=OUT→∃g' c',AV.aE [.sl 1 0 0 fr.length fr.length,.int .i64 0]=.aE [.sl 1 g' 0 (bw fr (K:Int)).1.length c',.int .i64 (bw fr (K:Int)).2]∧[AO.one false 0 (.ints .i64 fr c),AO.one true 0 (.ints .u8 OUT fr.length)]=[.one false 0 (.ints .i64 fr c),.one true g' (.ints .u8 (bw fr (K:Int)).1 c')]∧(bw fr (K:Int)).1.length≤c':=by
   rintro _ rfl
   rw[aas]
   exact⟨0,fr.length,by simp only[vY],rfl,by simp only[vY];exact Nat.le_refl _⟩
  refine And.intro (fun b6=>?_) (fun b6=>?_)
  ·have b6':(ys.length:Int)=1:=by simpa using b6
   have hk0:=ZZ 0 (by omega)
   have Bn:0≤ys.getD (Int.toNat 0+0) 0∧ys.getD (Int.toNat 0+0) 0<fr.length:=by
    show 0≤ys.getD 0 0∧ys.getD 0 0<fr.length
    omega
   have fJ:(List.replicate fr.length (0:Int)).length=fr.length:=by simp
   refine Qs ?_
   refine⟨_,_,Vw.refl _ _,[.dE 0,.own 1],.aE [.sl 1 0 0 fr.length fr.length,.int .i64 0],[.one false 0 (.ints .i64 fr c),.one true 0 (.ints .u8 ((List.replicate fr.length (0:Int)).set ((ys.getD (Int.toNat 0+0) 0).toNat+0) 1) fr.length)],⟨⟨⟨rfl,_,rfl,rfl⟩,⟨rfl,rfl⟩,trivial⟩,rfl,⟨trivial,trivial,trivial⟩,rfl,?_⟩,ui _ ?_⟩
   ·intro i hi
    match i,hi with
    |0,_=>exact .inr rfl
   rw[Cs K (by omega)]
   show _=(List.replicate fr.length 0).set ((ys.getD 0 0).toNat+0) 1
   rw[hk0.1,Int.toNat_natCast,Nat.add_zero]
  have b6':¬(ys.length:Int)=1:=by simpa using b6
  refine Qs ?_
  refine And.intro (fun b7=>?_) (fun b7=>?_)
  ·have b7':(ys.length:Int)=0:=by simpa using b7
   refine Qs ?_
   refine⟨_,_,Vw.refl _ _,[.dE 0,.own 1],.aE [.sl 1 0 0 fr.length fr.length,.int .i64 0],[.one false 0 (.ints .i64 fr c),.one true 0 (.ints .u8 (List.replicate fr.length (0:Int)) fr.length)],⟨⟨⟨rfl,_,rfl,rfl⟩,⟨rfl,rfl⟩,trivial⟩,rfl,⟨trivial,trivial,trivial⟩,rfl,?_⟩,ui _ ?_⟩
   ·intro i hi
    match i,hi with
    |0,_=>exact .inr rfl
   exact yT K (by omega)
  have b7':¬(ys.length:Int)=0:=by simpa using b7
  have hn:(aM fr).length=ys.length:=hyn.symm
  have hlv:(cS fr).length=ys.length:=by rw[Hq,hn]
  have hU0:ys.length≤320:=by omega
  refine Rs ?_
  refine WO.Dv (σ:=Nat×Nat×Nat) (fun(k,gL,cL)=>k≤ys.length∧((cS fr).take k).length≤cL) (fun(k,_,_)=>ys.length-k)
   (fun(k,gL,cL)=>[(0,.sl 0 0 0 fr.length c0),(1,.int .i64 K),(6,.sl 1 0 0 fr.length fr.length),(7,.sl 2 g 0 ys.length cc),(11,.sl 4 gL 0 ((cS fr).take k).length cL),(12,.ns),(72,.sl 2 g 0 ys.length cc),(73,.int .i64 ys.length),(74,.int .i64 (k:Int))])
   (fun(k,gL,cL)=>[.one false 0 (.ints .i64 fr c),.one true 0 (.ints .u8 (List.replicate fr.length 0) fr.length),.one true g (.ints .i64 ys cc),.aX false k (uF (kP ys.length) (fun _=>ys.length)),aO 3 ys.length (fun _=>ys.length) gL cL ((cS fr).take k)]) (0,0,0) ae mixed (by kernel_rfl)
   [(0,.sl 0 0 0 fr.length c0),(1,.int .i64 K),(6,.sl 1 0 0 fr.length fr.length),(7,.sl 2 g 0 ys.length cc),(11,.ns),(12,.ns),(72,.sl 2 g 0 ys.length cc),(73,.int .i64 ys.length),(74,.int .i64 0)] _ ⟨Nat.zero_le _,Nat.zero_le _⟩ (aI rfl (aI rfl (aI rfl (aI rfl (aI rfl (aI rfl (aI rfl (aI rfl (aI rfl (trivial)))))))))) rfl
   (Vw.trans (Vw.Qo (own:=false) (f:=uF (kP ys.length) (fun _=>ys.length))) (Vw.pz (x:=.cw 3 ((cS fr).take 0).length (gU 3 ys.length (fun _=>ys.length) ((cS fr).take 0)) 0) ⟨rfl,rfl⟩ ?_)) (aI rfl (aI rfl (aI rfl (aI rfl (aI rfl (trivial)))))) (fun _=>rfl) (fun _=>rfl) (fun _=>⟨trivial,trivial,trivial,fun _=>trivial,fun _=>rfl,trivial⟩) ?_
  ·exact And.intro (.inl rfl) (And.intro (.inl rfl) (And.intro (.inl rfl) (And.intro (.inl rfl) (And.intro (.inr ⟨rfl,rfl⟩) (And.intro (.inl rfl) (And.intro (.inl rfl) (And.intro (.inl rfl) (And.intro (.inl rfl) trivial))))))))
  rintro⟨k,gL,cL⟩ ⟨k1,k2⟩ d
  have yZ:((cS fr).take k).length=k:=by rw[List.length_take];omega
  refine Rs ?_
  refine And.intro (fun hc=>?_) (fun hc=>?_)
  ·simp only[decide_eq_true_eq]at hc
   obtain⟨y1,y2⟩:=ZZ k (by omega)
   have y3:ys.getD ((k:Int).toNat+0) 0=((aM fr).getD k 0:Int):=by rw[Int.toNat_natCast,Nat.add_zero];exact y1
   have y4:0≤ys.getD ((k:Int).toNat+0) 0∧ys.getD ((k:Int).toNat+0) 0<fr.length:=by omega
   refine Rs ?_
   refine And.intro ?_ ?_
   ·refine Rs ?_
    refine And.intro (fun q hq=>?_) ?_
    ·match q,hq with
     |0,_=>exact⟨rfl,rfl⟩
    refine And.intro ⟨by show((cS fr).take k).length+1≤_;omega,by show(((cS fr).take k).length+1)*40≤_;omega⟩ ?_
    refine Exists.intro (fun q=>if q<k then gU 3 ys.length (fun _=>ys.length) ((cS fr).take k) q else[.int .i64 (fr.getD ((ys.getD ((k:Int).toNat+0) 0).toNat+0) 0),.int .i64 0,.sl 5 0 0 (ys.length:Int).toNat (ys.length:Int).toNat]) (And.intro (fun q hq=>?_) (fun c1 pD=>?_))
    ·by_cases xM:q<((cS fr).take k).length
     ·rw[if_pos xM]
      show(if q<k then _ else _)=_
      rw[if_pos (by omega)]
     ·have Bj:q<((cS fr).take k).length+1:=hq
      have eW:q-((cS fr).take k).length=0:=by omega
      rw[if_neg xM,eW]
      show(if q<k then _ else _)=_
      rw[if_neg (by omega)]
      rfl
    have wv:((cS fr).take k).length+1≤c1:=pD
    have el:((cS fr).take (k+1)).length=((cS fr).take k).length+1:=by rw[List.length_take,List.length_take];omega
    refine Rs ?_
    refine RO.mk (k+1,gL+1,c1) [(0,.sl 0 0 0 fr.length c0),(1,.int .i64 K),(6,.sl 1 0 0 fr.length fr.length),(7,.sl 2 g 0 ys.length cc),(11,.sl 4 (gL+1) 0 (((cS fr).take k).length+1) c1),(12,.ns),(72,.sl 2 g 0 ys.length cc),(73,.int .i64 ys.length),(74,.int .i64 ((k:Int)+1))] _ ⟨by omega,by rw[el];exact wv⟩ (show ys.length-(k+1)<ys.length-k by omega) (aI rfl (aI rfl (aI rfl (aI rfl (aI rfl (aI rfl (aI rfl (aI rfl (aI rfl (trivial)))))))))) rfl
     (Vw.freeze (iu:=3) (k:=5) (o:=4) (uF (kP ys.length) (fun _=>ys.length)) (gU 3 ys.length (fun _=>ys.length) ((cS fr).take (k+1))) rfl rfl rfl rfl (fun _ _=>rfl) rfl ?_ ?_) ?_
    ·intro r hr
     have Dr:r<((cS fr).take k).length+1:=hr
     show AV.ik _ (ob 3 ys.length _ (((cS fr).take (k+1)).getD r default))=(if r<k then _ else _)
     by_cases fJ:r<k
     ·rw[if_pos fJ]
      have e1:((cS fr).take (k+1)).getD r default=(cS fr).getD r default:=by simp only[List.getD_eq_getElem?_getD,List.getElem?_take,if_pos (show r<k+1 by omega)]
      have e2:((cS fr).take k).getD r default=(cS fr).getD r default:=by simp only[List.getD_eq_getElem?_getD,List.getElem?_take,if_pos fJ]
      show _=[AV.int .i64 (((cS fr).take k).getD r default).w,AV.int .i64 (((cS fr).take k).getD r default).k,AV.sl 3 (((cS fr).take k).getD r default).u 0 ys.length ys.length]
      rw[e1,e2,oV (by omega)]
      simp only[AV.ik,AV.rm,bR (show¬(3=3∧r=k) by omega)]
     ·have hrk:r=k:=by omega
      subst hrk
      have e1:((cS fr).take (r+1)).getD r default=(cS fr).getD r default:=by simp only[List.getD_eq_getElem?_getD,List.getElem?_take,if_pos (show r<r+1 by omega)]
      rw[if_neg fJ,e1,oV (by omega),y3]
      simp only[AV.ik,AV.rm,fS,Int.toNat_natCast,Nat.add_zero]
    ·show AV.ik _ [AV.sl 0 0 0 fr.length c0,.int .i64 K,.sl 1 0 0 fr.length fr.length,.sl 2 g 0 ys.length cc,.sl 4 (gL+1) 0 ((cS fr).take (k+1)).length c1,.ns,.sl 2 g 0 ys.length cc,.int .i64 ys.length,.int .i64 ((k:Int)+1)]=[AV.sl 0 0 0 fr.length c0,.int .i64 K,.sl 1 0 0 fr.length fr.length,.sl 2 g 0 ys.length cc,.sl 4 (gL+1) 0 (((cS fr).take k).length+1) c1,.ns,.sl 2 g 0 ys.length cc,.int .i64 ys.length,.int .i64 ((k:Int)+1)]
     rw[el]
     rfl
    ·refine And.intro rfl (And.intro rfl (And.intro rfl (And.intro rfl (And.intro ?_ trivial))))
     show aO 3 ys.length _ (gL+1) c1 ((cS fr).take (k+1))=AO.one true (gL+1) (.cw 3 (((cS fr).take k).length+1) _ c1)
     unfold aO
     rw[el]
   ·refine Rs ?_
    refine And.intro (fun q hq=>?_) ?_
    ·match q,hq with
     |0,_=>exact⟨rfl,rfl⟩
    refine And.intro ⟨by show((cS fr).take k).length+1≤_;omega,by show(((cS fr).take k).length+1)*40≤_;omega⟩ ?_
    refine Exists.intro (fun q=>if q<k then gU 3 ys.length (fun _=>ys.length) ((cS fr).take k) q else[.int .i64 (fr.getD ((ys.getD ((k:Int).toNat+0) 0).toNat+0) 0),.int .i64 0,.sl 6 0 0 (ys.length:Int).toNat (ys.length:Int).toNat]) (And.intro (fun q hq=>?_) (fun c1 pD=>?_))
    ·by_cases xM:q<((cS fr).take k).length
     ·rw[if_pos xM]
      show(if q<k then _ else _)=_
      rw[if_pos (by omega)]
     ·have Bj:q<((cS fr).take k).length+1:=hq
      have eW:q-((cS fr).take k).length=0:=by omega
      rw[if_neg xM,eW]
      show(if q<k then _ else _)=_
      rw[if_neg (by omega)]
      rfl
    have wv:((cS fr).take k).length+1≤c1:=pD
    have el:((cS fr).take (k+1)).length=((cS fr).take k).length+1:=by rw[List.length_take,List.length_take];omega
    refine Rs ?_
    refine RO.mk (k+1,gL+1,c1) [(0,.sl 0 0 0 fr.length c0),(1,.int .i64 K),(6,.sl 1 0 0 fr.length fr.length),(7,.sl 2 g 0 ys.length cc),(11,.sl 4 (gL+1) 0 (((cS fr).take k).length+1) c1),(12,.ns),(72,.sl 2 g 0 ys.length cc),(73,.int .i64 ys.length),(74,.int .i64 ((k:Int)+1))] _ ⟨by omega,by rw[el];exact wv⟩ (show ys.length-(k+1)<ys.length-k by omega) (aI rfl (aI rfl (aI rfl (aI rfl (aI rfl (aI rfl (aI rfl (aI rfl (aI rfl (trivial)))))))))) rfl
     (Vw.freeze (iu:=3) (k:=6) (o:=4) (uF (kP ys.length) (fun _=>ys.length)) (gU 3 ys.length (fun _=>ys.length) ((cS fr).take (k+1))) rfl rfl rfl rfl (fun _ _=>rfl) rfl ?_ ?_) ?_
    ·intro r hr
     have Dr:r<((cS fr).take k).length+1:=hr
     show AV.ik _ (ob 3 ys.length _ (((cS fr).take (k+1)).getD r default))=(if r<k then _ else _)
     by_cases fJ:r<k
     ·rw[if_pos fJ]
      have e1:((cS fr).take (k+1)).getD r default=(cS fr).getD r default:=by simp only[List.getD_eq_getElem?_getD,List.getElem?_take,if_pos (show r<k+1 by omega)]
      have e2:((cS fr).take k).getD r default=(cS fr).getD r default:=by simp only[List.getD_eq_getElem?_getD,List.getElem?_take,if_pos fJ]
      show _=[AV.int .i64 (((cS fr).take k).getD r default).w,AV.int .i64 (((cS fr).take k).getD r default).k,AV.sl 3 (((cS fr).take k).getD r default).u 0 ys.length ys.length]
      rw[e1,e2,oV (by omega)]
      simp only[AV.ik,AV.rm,bR (show¬(3=3∧r=k) by omega)]
     ·have hrk:r=k:=by omega
      subst hrk
      have e1:((cS fr).take (r+1)).getD r default=(cS fr).getD r default:=by simp only[List.getD_eq_getElem?_getD,List.getElem?_take,if_pos (show r<r+1 by omega)]
      rw[if_neg fJ,e1,oV (by omega),y3]
      simp only[AV.ik,AV.rm,fS,Int.toNat_natCast,Nat.add_zero]
    ·show AV.ik _ [AV.sl 0 0 0 fr.length c0,.int .i64 K,.sl 1 0 0 fr.length fr.length,.sl 2 g 0 ys.length cc,.sl 4 (gL+1) 0 ((cS fr).take (k+1)).length c1,.ns,.sl 2 g 0 ys.length cc,.int .i64 ys.length,.int .i64 ((k:Int)+1)]=[AV.sl 0 0 0 fr.length c0,.int .i64 K,.sl 1 0 0 fr.length fr.length,.sl 2 g 0 ys.length cc,.sl 4 (gL+1) 0 (((cS fr).take k).length+1) c1,.ns,.sl 2 g 0 ys.length cc,.int .i64 ys.length,.int .i64 ((k:Int)+1)]
     rw[el]
     rfl
    ·refine And.intro rfl (And.intro rfl (And.intro rfl (And.intro rfl (And.intro ?_ trivial))))
     show aO 3 ys.length _ (gL+1) c1 ((cS fr).take (k+1))=AO.one true (gL+1) (.cw 3 (((cS fr).take k).length+1) _ c1)
     unfold aO
     rw[el]
  ·simp only[decide_eq_false_iff_not]at hc
   have WL:k=ys.length:=by omega
   have m7:(cS fr).take k=cS fr:=List.take_of_length_le (by omega)
   rw[m7]at k2 yZ
   subst WL
   refine Rs ?_
   refine WO.Dv (σ:=Nat×Nat×Nat×(Nat→Nat)) (fun(k,gA,cA,cu)=>k≤K∧(ag fr k).all.length≤cA∧∀r,r<ys.length→cu r=ys.length) (fun(k,_,_,_)=>K-k)
    (fun(k,gA,cA,cu)=>[(6,.sl 1 0 0 fr.length fr.length),(7,.sl 2 g 0 ys.length cc),(11,.sl 4 gL 0 (cS fr).length cL),(12,.sl 5 gA 0 (ag fr k).all.length cA),(96,.int .i64 K),(97,.int .i64 (k:Int))])
    (fun(k,gA,cA,cu)=>[.one false 0 (.ints .i64 fr c),.one true 0 (.ints .u8 (List.replicate fr.length 0) fr.length),.one true g (.ints .i64 ys cc),.aX false (ag fr k).m (uF (ag fr k).us cu),aO 3 ys.length (fun _=>ys.length) gL cL (cS fr),aO 3 ys.length cu gA cA (ag fr k).all]) (0,0,0,fun _=>ys.length) ae mixed (by kernel_rfl)
    [(6,.sl 1 0 0 fr.length fr.length),(7,.sl 2 g 0 ys.length cc),(11,.sl 4 gL 0 ((cS fr).take ys.length).length cL),(12,.ns),(96,.int .i64 K),(97,.int .i64 0)] _ ⟨Nat.zero_le _,Nat.zero_le _,fun _ _=>rfl⟩ (aI rfl (aI rfl (aI rfl (aI rfl (aI rfl (aI rfl (trivial))))))) rfl
    (Vw.pz (x:=.cw 3 (ag fr 0).all.length (gU 3 ys.length (fun _=>ys.length) (ag fr 0).all) 0) ⟨rfl,rfl⟩ ?_) (And.intro rfl (And.intro rfl (And.intro rfl (And.intro ?_ (And.intro ?_ (And.intro rfl trivial)))))) (fun _=>rfl) (fun _=>rfl) (fun _=>⟨trivial,trivial,trivial,fun _=>trivial,fun _=>rfl,fun _=>rfl,trivial⟩) ?_
   ·exact And.intro (.inl rfl) (And.intro (.inl rfl) (And.intro (.inl (by show AV.sl 4 gL 0 (cS fr).length cL=AV.sl 4 gL 0 ((cS fr).take ys.length).length cL;rw[m7])) (And.intro (.inr ⟨rfl,rfl⟩) (And.intro (.inl rfl) (And.intro (.inl rfl) trivial)))))
   ·show AO.aX false (aM fr).length (uF (kP (aM fr).length) (fun _=>ys.length))=AO.aX false ys.length (uF (kP ys.length) (fun _=>ys.length))
    rw[hn]
   ·show aO 3 ys.length (fun _=>ys.length) gL cL (cS fr)=aO 3 ys.length (fun _=>ys.length) gL cL ((cS fr).take ys.length)
    rw[m7]
   rintro⟨k,gA,cA,cu⟩ ⟨r1,r2,r3⟩ d
   refine Rs ?_
   refine And.intro (fun hc=>?_) (fun hc=>?_)
   ·simp only[decide_eq_true_eq]at hc
    have aF:=nB b4 (by omega) k (by omega)
    rw[hn]at aF
    have Jj:=G3 fr k
    rw[hn]at Jj
    have fJ:=iZ fr k
    have Jg:=dg (az (ag fr k).all)
    have cg:=mg (ag fr k).all
    refine Rs ?_
    refine KT (a:=5) (u:=3) aF rfl rfl rfl fun g' c' cv hp=>?_
    have y5:(bm (az (ag fr k).all)).length≤c':=by omega
    refine Rs ?_
    refine And.intro (fun q _=>⟨rfl,rfl⟩) ?_
    refine And.intro ⟨by show(az (ag fr k).all).length+(cS fr).length≤_;omega,by show((az (ag fr k).all).length+(cS fr).length)*40≤_;omega⟩ ?_
    refine Exists.intro (fun q=>if q<(az (ag fr k).all).length then gU 6 ys.length cv (bm (az (ag fr k).all)) q else gU 3 ys.length (fun _=>ys.length) (cS fr) (q-(az (ag fr k).all).length)) (And.intro (fun q hq=>rfl) (fun c1 pD=>?_))
    have wv:(az (ag fr k).all).length+(cS fr).length≤c1:=pD
    have WB:(ag fr (k+1)).all.length=(az (ag fr k).all).length+(cS fr).length:=by simp only[ag,Row.next,List.length_append,List.length_map,Jg]
    refine Rs ?_
    refine RO.mk (k+1,gA+1,c1,(fun j=>if j<(ag fr k).m then cu j else cv (j-(ag fr k).m))) [(6,.sl 1 0 0 fr.length fr.length),(7,.sl 2 g 0 ys.length cc),(11,.sl 4 gL 0 (cS fr).length cL),(12,.sl 7 (g'+1) 0 ((az (ag fr k).all).length+(cS fr).length) c1),(96,.int .i64 K),(97,.int .i64 ((k:Int)+1))] _ ⟨by omega,by rw[WB];exact wv,fun r hr=>by show(if r<(ag fr k).m then cu r else cv (r-(ag fr k).m))=_;rw[if_pos (by omega)];exact r3 r hr⟩ (show K-(k+1)<K-k by omega) (aI rfl (aI rfl (aI rfl (aI rfl (aI rfl (aI rfl (trivial))))))) rfl
     (Vw.trans (l':=[.sl 1 0 0 fr.length fr.length,.sl 2 g 0 ys.length cc,.sl 4 gL 0 (cS fr).length cL,.sl 7 (g'+1) 0 ((az (ag fr k).all).length+(cS fr).length) c1,.int .i64 K,.int .i64 ((k:Int)+1)])
      (Vw.merge (iu:=3) (iv:=6) (o:=7) (uF (ag fr (k+1)).us (fun j=>if j<(ag fr k).m then cu j else cv (j-(ag fr k).m))) (gU 3 ys.length (fun j=>if j<(ag fr k).m then cu j else cv (j-(ag fr k).m)) (ag fr (k+1)).all) rfl rfl rfl rfl ?_ ?_ ?_ rfl) (Vw.move (i:=5) (k:=7) rfl rfl rfl ?_)) ?_
    ·intro r hr
     show af.ints .i64 (if r<(ag fr k).m then _ else _) (if r<(ag fr k).m then _ else _)=af.ints .i64 _ _
     rw[if_pos hr,if_pos hr]
    ·intro r hr
     show af.ints .i64 (if(ag fr k).m+r<(ag fr k).m then _ else _) (if(ag fr k).m+r<(ag fr k).m then _ else _)=af.ints .i64 _ _
     rw[if_neg (by omega),if_neg (by omega),Nat.add_sub_cancel_left]
    ·intro r hr
     have Dr:r<(az (ag fr k).all).length+(cS fr).length:=hr
     show AV.ik _ [AV.int .i64 ((ag fr (k+1)).all.getD r default).w,AV.int .i64 ((ag fr (k+1)).all.getD r default).k,AV.sl 3 ((ag fr (k+1)).all.getD r default).u 0 ys.length (if((ag fr (k+1)).all.getD r default).u<(ag fr k).m then cu ((ag fr (k+1)).all.getD r default).u else cv (((ag fr (k+1)).all.getD r default).u-(ag fr k).m))]=(if r<(az (ag fr k).all).length then _ else _)
     by_cases Wo:r<(az (ag fr k).all).length
     ·have e1:(ag fr (k+1)).all.getD r default=UM (ag fr k).m ((bm (az (ag fr k).all)).getD r default):=Hk Wo
      rw[if_pos Wo,e1]
      show _=[AV.int .i64 ((bm (az (ag fr k).all)).getD r default).w,AV.int .i64 ((bm (az (ag fr k).all)).getD r default).k,AV.sl 6 ((bm (az (ag fr k).all)).getD r default).u 0 ys.length (cv ((bm (az (ag fr k).all)).getD r default).u)]
      simp only[UM,D5 Wo,AV.ik,AV.rm,Ag Wo,if_neg (show¬(ag fr k).m+r<(ag fr k).m by omega),Nat.add_sub_cancel_left]
     ·have e1:(ag fr (k+1)).all.getD r default=(cS fr).getD (r-(az (ag fr k).all).length) default:=Hl (by omega)
      rw[if_neg Wo,e1]
      show _=[AV.int .i64 ((cS fr).getD (r-(az (ag fr k).all).length) default).w,AV.int .i64 ((cS fr).getD (r-(az (ag fr k).all).length) default).k,AV.sl 3 ((cS fr).getD (r-(az (ag fr k).all).length) default).u 0 ys.length ys.length]
      rw[oV (by omega)]
      have Wp:=r3 (r-(az (ag fr k).all).length) (by omega)
      simp only[AV.ik,AV.rm,jb (show¬(3=3∧(ag fr k).m≤r-(az (ag fr k).all).length∧r-(az (ag fr k).all).length<(ag fr k).m+(az (ag fr k).all).length) by omega),if_pos (show r-(az (ag fr k).all).length<(ag fr k).m by omega),Wp]
    ·refine And.intro (.inl rfl) (And.intro (.inl rfl) (And.intro (.inl rfl) (And.intro (.inr (.inl ⟨0,(az (ag fr k).all).length+(cS fr).length,c1,rfl,?_⟩)) (And.intro (.inl rfl) (And.intro (.inl rfl) trivial)))))
     show AV.sl 5 (gA+1) 0 (ag fr (k+1)).all.length c1=_
     rw[WB]
    ·refine And.intro rfl (And.intro rfl (And.intro rfl (And.intro rfl (And.intro rfl (And.intro ?_ trivial)))))
     show aO 3 ys.length (fun j=>if j<(ag fr k).m then cu j else cv (j-(ag fr k).m)) (gA+1) c1 (ag fr (k+1)).all=AO.one true (gA+1) (.cw 3 ((az (ag fr k).all).length+(cS fr).length) _ c1)
     unfold aO
     rw[WB]
   ·simp only[decide_eq_false_iff_not]at hc
    have hkK:k=K:=by omega
    subst hkK
    have aF:=nB b4 (by omega) k (by omega)
    rw[hn]at aF
    have fJ:=iZ fr k
    have Rf:=l8 fr (K:=k) (by omega) (by omega)
    refine Rs ?_
    refine WO.go (σ:=Nat×List It) (fun s=>s.1≤(ag fr k).all.length∧s.2=fz s.1 (ag fr k).all) (fun s=>(ag fr k).all.length-s.1)
     (fun s=>[(6,.sl 1 0 0 fr.length fr.length),(7,.sl 2 g 0 ys.length cc),(16,.ptr 6 0 0),(106,.int .i64 (ag fr k).all.length),(107,.int .i64 (s.1:Int))])
     (fun s=>[.one false 0 (.ints .i64 fr c),.one true 0 (.ints .u8 (List.replicate fr.length 0) fr.length),.one true g (.ints .i64 ys cc),.aX false (ag fr k).m (uF (ag fr k).us cu),aO 3 ys.length (fun _=>ys.length) gL cL (cS fr),aO 3 ys.length cu gA cA s.2,qO 5 gA (ag fr k).all.length cA]) (0,(ag fr k).all) ae mixed (by kernel_rfl) ⟨Nat.zero_le _,(yH _).symm⟩ (aI rfl (aI rfl (aI rfl (aI rfl (aI rfl (trivial)))))) (aI rfl (aI rfl (aI rfl (aI rfl (aI rfl (aI rfl (aI rfl (trivial)))))))) (fun _=>rfl) (fun _=>rfl) (fun _=>⟨trivial,trivial,trivial,fun _=>trivial,fun _=>rfl,fun _=>rfl,rfl,trivial⟩) ?_
    rintro⟨i,L1⟩ ⟨h1,h2⟩ d
    simp only at h1 h2
    have EE:L1.length=(ag fr k).all.length:=by rw[h2,eJ]
    refine Rs ?_
    refine And.intro (fun hc=>?_) (fun hc=>?_)
    ·simp only[decide_eq_true_eq]at hc
     refine Qs ?_
     refine RO.mk (i+1,fz (i+1) (ag fr k).all) [(6,.sl 1 0 0 fr.length fr.length),(7,.sl 2 g 0 ys.length cc),(16,.ptr 6 0 0),(106,.int .i64 (ag fr k).all.length),(107,.int .i64 ((i:Int)+1))] _ ⟨by show i+1≤_;omega,rfl⟩ (show(ag fr k).all.length-(i+1)<(ag fr k).all.length-i by omega) (aI rfl (aI rfl (aI rfl (aI rfl (aI rfl (trivial)))))) rfl (Vw.cw (i:=5) (gU 3 ys.length cu (fz (i+1) (ag fr k).all)) rfl ?_) ?_
     ·intro r hr
      rw[EE]at hr
      have:=yG (u:=3) (n:=ys.length) (cu:=cu) i (ag fr k).all r hr (by omega)
      rw[this,h2]
      rfl
     ·refine And.intro rfl (And.intro rfl (And.intro rfl (And.intro rfl (And.intro rfl (And.intro ?_ (And.intro rfl trivial))))))
      show aO 3 ys.length cu gA cA (fz (i+1) (ag fr k).all)=AO.one true gA (.cw 3 L1.length (gU 3 ys.length cu (fz (i+1) (ag fr k).all)) cA)
      unfold aO
      rw[EE,eJ]
    ·simp only[decide_eq_false_iff_not]at hc
     have hi:i=(ag fr k).all.length:=by omega
     refine Rs ?_
     refine Hu (q:=6) (a:=5) (u:=3) (L:=L1) rfl rfl rfl rfl (by omega) (by omega) (by omega) ?_
     have a8:iX (ag fr k).all.length ((ag fr k).all.length/2) L1=dV (ag fr k).all:=by rw[h2,hi];rfl
     rw[a8]
     refine Rs ?_
     refine WO.go (σ:=Nat×List It×List It×List Int) (fun(h,Lc,ts,O)=>Lc.length=(ag fr k).all.length∧h+ts.length=(ag fr k).all.length∧ts++eF h Lc=eF (ag fr k).all.length (dV (ag fr k).all)∧(∀x∈Lc,x.u<(ag fr k).m)∧ts.length≤2*ys.length-2∧O=ud fr (ag fr k) ts) (fun(h,Lc,ts,O)=>2*ys.length-2-ts.length)
      (fun(h,Lc,ts,O)=>[(6,.sl 1 0 0 fr.length fr.length),(7,.sl 2 g 0 ys.length cc),(16,.ptr 6 0 0),(121,.int .i64 (2*(ys.length:Int)-2)),(122,.int .i64 (ts.length:Int))])
      (fun(h,Lc,ts,O)=>[.one false 0 (.ints .i64 fr c),.one true 0 (.ints .u8 O fr.length),.one true g (.ints .i64 ys cc),.aX false (ag fr k).m (uF (ag fr k).us cu),aO 3 ys.length (fun _=>ys.length) gL cL (cS fr),aO 3 ys.length cu gA cA Lc,qO 5 gA h cA]) ((ag fr k).all.length,dV (ag fr k).all,[],List.replicate fr.length 0) ae mixed (by kernel_rfl) ⟨lS _,rfl,rfl,?_,Nat.zero_le _,rfl⟩ (aI rfl (aI rfl (aI rfl (aI rfl (aI rfl (trivial)))))) (aI rfl (aI rfl (aI rfl (aI rfl (aI rfl (aI rfl (aI rfl (trivial)))))))) (fun _=>rfl) (fun _=>rfl) (fun _=>⟨trivial,trivial,trivial,fun _=>trivial,fun _=>rfl,fun _=>rfl,rfl,trivial⟩) ?_
     ·intro x hx
      obtain⟨y,hy,_,e2⟩:=u5 hx
      rw[←e2];exact(aF.items y hy).1
     rintro⟨h,Lc,ts,O⟩ ⟨s1,s2,s3,s4,s5,s6⟩ d
     have hOl:O.length=fr.length:=by rw[s6,vJ]
     refine Rs ?_
     refine And.intro (fun hc=>?_) (fun hc=>?_)
     ·have nU:(ts.length:Int)<2*(ys.length:Int)-2:=by simpa using hc
      obtain⟨h',rfl⟩:∃h',h=h'+1:=⟨h-1,by omega⟩
      have Tz:(fg (h'+1) Lc).getD h' default∈Lc:=iy (by omega) (by omega) (lh (by rw[eG];omega))
      generalize HJ:fg (h'+1) Lc=L3
      have kv:L3.length=Lc.length:=by rw[←HJ,eG]
      have Qe:∀x∈L3,x.u<(ag fr k).m:=fun x hx=>s4 x (iy (by omega) (by omega) (HJ▸hx))
      rw[HJ]at Tz
      generalize hx:L3.getD h' default=x
      rw[hx]at Tz
      have hxu:=s4 x Tz
      have huv:=aF.ul x.u hxu
      refine Rs ?_
      refine r8 (q:=6) (a:=5) (u:=3) (h:=h') (L:=Lc) rfl rfl rfl rfl (by omega) (by omega) (by omega) (by omega) x (by rw[HJ];exact hx) hxu rfl ?_
      rw[HJ]
      refine Rs ?_
      refine WO.go (σ:=Nat×List Int) (fun s=>s.1≤ys.length∧s.2.length=fr.length∧s.2=Di (aM fr) ((ag fr k).us x.u) s.1 O) (fun s=>ys.length-s.1)
       (fun s=>[(6,.sl 1 0 0 fr.length fr.length),(7,.sl 2 g 0 ys.length cc),(16,.ptr 6 0 0),(121,.int .i64 (2*(ys.length:Int)-2)),(122,.int .i64 (ts.length:Int)),(125,.sl 7 0 0 ys.length (cu x.u)),(126,.int .i64 ys.length),(127,.int .i64 (s.1:Int))])
       (fun s=>[.one false 0 (.ints .i64 fr c),.one true 0 (.ints .u8 s.2 fr.length),.one true g (.ints .i64 ys cc),.aX false (ag fr k).m (uF (ag fr k).us cu),aO 3 ys.length (fun _=>ys.length) gL cL (cS fr),aO 3 ys.length cu gA cA L3,qO 5 gA h' cA,.one false 0 (.ints .i64 ((ag fr k).us x.u) (cu x.u))]) (0,O) ae mixed (by kernel_rfl) ⟨Nat.zero_le _,hOl,rfl⟩ (aI rfl (aI rfl (aI rfl (aI rfl (aI rfl (aI rfl (aI rfl (aI rfl (trivial))))))))) (aI rfl (aI rfl (aI rfl (aI rfl (aI rfl (aI rfl (aI rfl (aI rfl (trivial))))))))) (fun _=>rfl) (fun _=>rfl) (fun _=>⟨trivial,trivial,trivial,fun _=>trivial,fun _=>rfl,fun _=>rfl,rfl,trivial,trivial⟩) ?_
      rintro⟨i,O1⟩ ⟨o1,o2,o3⟩ d
      simp only at o1 o2 o3
      refine Rs ?_
      refine And.intro (fun hd=>?_) (fun hd=>?_)
      ·simp only[decide_eq_true_eq]at hd
       obtain⟨y1,y2⟩:=ZZ i (by omega)
       have y3:ys.getD ((i:Int).toNat+0) 0=((aM fr).getD i 0:Int):=by rw[Int.toNat_natCast,Nat.add_zero];exact y1
       have y4:0≤ys.getD ((i:Int).toNat+0) 0∧ys.getD ((i:Int).toNat+0) 0<fr.length:=by omega
       refine Qs ?_
       refine RO.same (i+1,O1.set ((ys.getD ((i:Int).toNat+0) 0).toNat+0) ((O1.getD ((ys.getD ((i:Int).toNat+0) 0).toNat+0) 0+((ag fr k).us x.u).getD ((i:Int).toNat+0) 0%256)%256)) ⟨by show i+1≤_;omega,by simpa using o2,?_⟩ (show ys.length-(i+1)<ys.length-i by omega) (aI rfl (aI rfl (aI rfl (aI rfl (aI rfl (aI rfl (aI rfl (aI rfl (trivial))))))))) (aI rfl (aI rfl (aI rfl (aI rfl (aI rfl (aI rfl (aI rfl (aI rfl (trivial)))))))))
       show O1.set _ _=Di (aM fr) ((ag fr k).us x.u) (i+1) O
       rw[JR O (by omega) (by omega),←o3,y3]
       simp only[Int.toNat_natCast,Nat.add_zero]
      ·simp only[decide_eq_false_iff_not]at hd
       have hi:i=ys.length:=by omega
       have hO:O1=qE (aM fr) ((ag fr k).us x.u) O:=by rw[o3,MR O (by omega)]
       refine Rs ?_
       refine RO.same (h',L3,ts++[x],O1) ⟨by omega,by rw[List.length_append];simp only[List.length_singleton];omega,?_,Qe,by rw[List.length_append];simp only[List.length_singleton];omega,?_⟩ (show 2*ys.length-2-(ts++[x]).length<2*ys.length-2-ts.length by rw[List.length_append];simp only[List.length_singleton];omega) (And.intro rfl (And.intro rfl (And.intro rfl (And.intro rfl (And.intro ?_ trivial))))) (aI rfl (aI rfl (aI rfl (aI rfl (aI rfl (aI rfl (aI rfl (trivial))))))))
       ·rw[←s3]
        simp only[eF,HJ,hx,List.append_assoc,List.singleton_append]
       ·rw[sB,hO,s6]
       ·show AV.int .i64 ((ts.length:Int)+1)=AV.int .i64 ((ts++[x]).length:Int)
        rw[List.length_append];rfl
     ·have nU:¬(ts.length:Int)<2*(ys.length:Int)-2:=by simpa using hc
      have lL:ts.length=2*(aM fr).length-2:=by omega
      have yZ:(eF (ag fr k).all.length (dV (ag fr k).all)).take (2*(aM fr).length-2)=ts:=by rw[←s3,←lL,List.take_left'];rfl
      refine Rs ?_
      refine⟨_,_,Vw.refl _ _,[.dE 0,.own 1],.aE [.sl 1 0 0 fr.length fr.length,.int .i64 0],[.one false 0 (.ints .i64 fr c),.one true 0 (.ints .u8 O fr.length)],⟨⟨⟨rfl,_,rfl,rfl⟩,⟨rfl,rfl⟩,trivial⟩,rfl,⟨trivial,trivial,trivial⟩,rfl,?_⟩,ui _ ?_⟩
      ·intro i hi
       match i,hi with
       |0,_=>exact .inr rfl
      rw[vX k (by omega),yZ]
      exact s6.symm
end
end Go.Proofs.Ytibadaomjlkoaaa
open Go.RowKit
namespace Go.Proofs.Ytibadaomjlkoaaa
set_option maxRecDepth 10000
theorem lO {z:Nat}(h:z<2^63):IntKind.i64.wrap (z:Int)=(z:Int):=by
 simp[IntKind.wrap,IntKind.bits,IntKind.signed];omega
theorem GX {x k:Nat}(h:x*2^k<2^63)(hk:k≤64):bg .i64 (x:Int) (k:Int)=((x*2^k:Nat):Int):=by
 simp only[bg,IntKind.bits,Int.toNat_natCast,Nat.min_eq_left hk]
 have:(x:Int)*2^k=((x*2^k:Nat):Int):=by push_cast;rfl
 rw[this,lO h]
theorem kg {x:Nat}(h:x<2^62):bg .i64 (x:Int) 1=((2*x:Nat):Int):=by
 have:=GX (x:=x) (k:=1) (by omega) (by omega)
 rw[Nat.mul_comm 2 x]
 exact this
theorem ZO {a b:Nat}(ha:a<2^62)(hb:b<2^62):cG .or .i64 (a:Int) (b:Int)=((a|||b:Nat):Int):=by
 have h1:(BitVec.ofInt 64 (a:Int)|||BitVec.ofInt 64 (b:Int)).toNat=a|||b:=by
  rw[BitVec.toNat_or,BitVec.ofInt_natCast,BitVec.ofInt_natCast,BitVec.toNat_ofNat,BitVec.toNat_ofNat,Nat.mod_eq_of_lt (by omega),Nat.mod_eq_of_lt (by omega)]
 have h2:(a|||b)<2^62:=Nat.or_lt_two_pow ha hb
 show IntKind.i64.wrap ((BitVec.ofInt 64 (a:Int)|||BitVec.ofInt 64 (b:Int)).toNat:Int)=_
 rw[h1,lO (by omega)]
theorem Ce {a b:Nat}(ha:a<2^61)(hb:b<2):cG .or .i64 ((2*a:Nat):Int) (b:Int)=((2*a+b:Nat):Int):=by
 rw[ZO (by omega) (by omega)]
 have:=Nat.two_pow_add_eq_or_of_lt (i:=1) (b:=b) (by omega) a
 rw[show 2^1*a=2*a by omega]at this
 rw[this]
theorem QC {a:Nat}(ha:a<2^62):cG .and .i64 (a:Int) 1=((a%2:Nat):Int):=by
 have h1:(BitVec.ofInt 64 (a:Int)&&&BitVec.ofInt 64 (1:Int)).toNat=a%2:=by
  rw[BitVec.toNat_and,show BitVec.ofInt 64 (1:Int)=1#64 from rfl,BitVec.ofInt_natCast,BitVec.toNat_ofNat,Nat.mod_eq_of_lt (by omega)]
  exact Nat.and_two_pow_sub_one_eq_mod a 1
 show IntKind.i64.wrap ((BitVec.ofInt 64 (a:Int)&&&BitVec.ofInt 64 (1:Int)).toNat:Int)=_
 rw[h1,lO (by omega)]
theorem zW {x k:Nat}(hk:k≤64):bS .i64 (x:Int) (k:Int)=((x/2^k:Nat):Int):=by
 simp only[bS,IntKind.bits,Int.toNat_natCast,Nat.min_eq_left hk]
 have:(2:Int)^k=((2^k:Nat):Int):=by push_cast;rfl
 rw[this,Int.fdiv_eq_ediv_of_nonneg _ (Int.natCast_nonneg _)];rfl
theorem NP {x:Nat}:bS .i64 (x:Int) 1=((x/2:Nat):Int):=zW (k:=1) (by omega)
def kQ:Nat→Nat→Nat→Nat
 |0,_,o=>o
 |n+1,c,o=>kQ n (c/2) (2*o+c%2)
theorem H5 {code n:Nat}{M:AH}{K Kp:AV→AH→Prop}(hc:code<2^30)(hn:n≤30)(hK:K (.int .u16 ((kQ n code 0%65536:Nat):Int)) M):aa Try.prog 82 [.int .i64 code,.int .i64 n] M K Kp:=by
 refine aa.Y2 (v:=.int .u16 ((kQ n code 0%65536:Nat):Int)) ?_ (fun _=>rfl) rfl (fun _=>rfl) hK
 refine Si (fun _=>[]) [] rfl ?_
 refine Rs ?_
 refine WO.go (σ:=Nat×Nat×Nat) (fun(i,c,o)=>i≤n∧c<2^30∧o<2^i∧kQ (n-i) c o=kQ n code 0) (fun(i,_,_)=>n-i)
  (fun(i,c,o)=>[(0,.int .i64 (c:Int)),(5,.int .i64 (o:Int)),(6,.int .i64 n),(7,.int .i64 (i:Int))]) (fun _=>[]) (0,code,0) ae mixed (by kernel_rfl) ⟨Nat.zero_le _,hc,by decide,rfl⟩ (aI rfl (aI rfl (aI rfl (aI rfl (trivial))))) trivial (fun _=>rfl) (fun _=>rfl) (fun _=>trivial) ?_
 rintro⟨i,cc,o⟩ ⟨h1,h2,h3,h4⟩ d
 refine Rs ?_
 refine And.intro (fun hd=>?_) (fun hd=>?_)
 ·simp only[decide_eq_true_eq]at hd
  have hp:(2:Nat)^i≤2^30:=Nat.pow_le_pow_right (by omega) (by omega)
  have e1:bg .i64 (o:Int) 1=((2*o:Nat):Int):=kg (by omega)
  have e2:cG .and .i64 (cc:Int) 1=((cc%2:Nat):Int):=QC (by omega)
  have e3:cG .or .i64 ((2*o:Nat):Int) ((cc%2:Nat):Int)=((2*o+cc%2:Nat):Int):=Ce (by omega) (by omega)
  have e4:bS .i64 (cc:Int) 1=((cc/2:Nat):Int):=NP
  obtain⟨j,hj⟩:∃j,n-i=j+1:=⟨n-i-1,by omega⟩
  refine Rs ?_
  refine RO.same (i+1,cc/2,2*o+cc%2) ⟨by omega,by omega,by rw[Nat.pow_succ];omega,?_⟩ (show n-(i+1)<n-i by omega) (And.intro ?_ (And.intro ?_ (And.intro rfl (And.intro rfl trivial)))) trivial
  ·rw[hj]at h4
   rw[show n-(i+1)=j by omega,←h4];rfl
  ·show AV.int .i64 (bS .i64 (cc:Int) 1)=_
   rw[e4]
  ·show AV.int .i64 (cG .or .i64 (bg .i64 (o:Int) 1) (cG .and .i64 (cc:Int) 1))=_
   rw[e1,e2,e3]
 ·simp only[decide_eq_false_iff_not]at hd
  have hi:i=n:=by omega
  refine Rs ?_
  refine And.intro ?_ rfl
  show AV.int .u16 ((o:Int)%65536)=_
  rw[hi,Nat.sub_self]at h4
  have h4:o=kQ n code 0:=h4
  rw[h4];rfl
end Go.Proofs.Ytibadaomjlkoaaa
open Go.RowKit
namespace Go.Proofs.Ytibadaomjlkoaaa
set_option maxRecDepth 10000
def aY (ls:List Int):Nat→Nat
 |0=>0
 |i+1=>aY ls i+if 0<ls.getD i 0 then 2^(15-(ls.getD i 0).toNat)else 0
def bn (ls:List Int):Nat→Nat
 |0=>0
 |i+1=>bn ls i+if 0<ls.getD i 0 then 1 else 0
theorem uw (ls:List Int):∀i,aY ls i≤i*32768
 |0=>Nat.le_refl _
 |i+1=>by
  have:=uw ls i
  have h2:2^(15-(ls.getD i 0).toNat)≤32768:=Nat.le_trans (Nat.pow_le_pow_right (by omega) (Nat.sub_le 15 _)) (by decide)
  have h3:aY ls (i+1)=aY ls i+if 0<ls.getD i 0 then 2^(15-(ls.getD i 0).toNat)else 0:=rfl
  rw[h3,Nat.succ_mul]
  split
  ·exact Nat.add_le_add this h2
  ·exact Nat.le_trans this (Nat.le_add_right _ _)
theorem uO (ls:List Int):∀i,bn ls i≤i
 |0=>Nat.le_refl _
 |i+1=>by have:=uO ls i;simp only[bn];split<;>omega
def eh (ls:List Int):Bool:=decide (320<ls.length)||ls.any ng
def a9 (ls:List Int):Bool:=decide (aY ls ls.length=32768)||decide (bn ls ls.length=0)||(decide (bn ls ls.length=1)&&decide (aY ls ls.length=16384))
def aB (ls:List Int):Int:=if eh ls=true then 1 else if a9 ls=true then 0 else 60
def dD (ls:List Int)(n:Nat)(x:Nat×List (Nat×Nat×Nat))(s:Nat):Nat×List (Nat×Nat×Nat):=if ls.getD s 0=(n:Int)then(x.1+1,x.2++[(s,x.1,n)])else x
def cJ (ls:List Int)(n i:Nat)(x:Nat×List (Nat×Nat×Nat)):Nat×List (Nat×Nat×Nat):=(List.range i).foldl (dD ls n) x
def aK (ls:List Int):Nat→Nat×List (Nat×Nat×Nat)
 |0=>(0,[])
 |n+1=>cJ ls (n+1) ls.length (2*(aK ls n).1,(aK ls n).2)
theorem aZ (ls:List Int)(n i:Nat)(x:Nat×List (Nat×Nat×Nat)):cJ ls n (i+1) x=dD ls n (cJ ls n i x) i:=by
 unfold cJ;rw[List.range_succ,List.foldl_append];rfl
theorem ja (ls:List Int)(n:Nat)(x:Nat×List (Nat×Nat×Nat)):∀i,(cJ ls n i x).1≤x.1+i
 |0=>Nat.le_refl _
 |i+1=>by
  have:=ja ls n x i
  rw[aZ];unfold dD;split
  ·show(cJ ls n i x).1+1≤_;omega
  ·omega
theorem ij (ls:List Int):∀n,(aK ls n).1+ls.length≤2^n*ls.length
 |0=>by simp[aK]
 |n+1=>by
  have ih:=ij ls n
  have:=ja ls (n+1) (2*(aK ls n).1,(aK ls n).2) ls.length
  simp only[aK]
  have e:2^(n+1)*ls.length=2*(2^n*ls.length):=by rw[Nat.pow_succ,Nat.mul_comm (2^n) 2,Nat.mul_assoc]
  have h3:(2*(aK ls n).1,(aK ls n).2).1=2*(aK ls n).1:=rfl
  omega
def pA (ts:List (Nat×Nat×Nat))(o:List Int):List Int:=ts.foldl (fun o t=>o.set t.1 ((kQ t.2.2 t.2.1 0%65536:Nat):Int)) o
theorem fo (ts:List (Nat×Nat×Nat))(o:List Int):(pA ts o).length=o.length:=by
 unfold pA
 induction ts generalizing o with
 |nil=>rfl
 |cons t ts ih=>rw[List.foldl_cons,ih];simp
theorem o5 (ts:List (Nat×Nat×Nat))(t:Nat×Nat×Nat)(o:List Int):pA (ts++[t]) o=(pA ts o).set t.1 ((kQ t.2.2 t.2.1 0%65536:Nat):Int):=by
 unfold pA;rw[List.foldl_append];rfl
def mm (ez:List ((Int×Int)×Int)):List ((Int×Int)×AV):=ez.map fun p=>(p.1,.int .i64 p.2)
def mV (k:Int×Int)(z:Int):List ((Int×Int)×Int)→List ((Int×Int)×Int)
 |[]=>[(k,z)]
 |(k',z')::l=>if k=k' then(k',z)::l else(k',z')::mV k z l
def cf (k:Int×Int):List ((Int×Int)×Int)→Option Int
 |[]=>none
 |(k',z)::l=>if k=k' then some z else cf k l
theorem qP (k:Int×Int)(z:Int):∀ez,rZ k (.int .i64 z) (mm ez)=mm (mV k z ez)
 |[]=>rfl
 |(k',z')::l=>by
  show(if k=k' then _ else _)=mm (if k=k' then _ else _)
  split
  ·rfl
  ·show _::rZ k (.int .i64 z) (mm l)=_::mm (mV k z l)
   rw[qP k z l]
theorem jR (k:Int×Int):∀ez,pU k (mm ez)=(cf k ez).map (AV.int .i64)
 |[]=>rfl
 |(k',z')::l=>by
  show(if k=k' then _ else _)=Option.map _ (if k=k' then _ else _)
  split
  ·rfl
  ·exact jR k l
theorem jk (k k':Int×Int)(z:Int):∀ez,cf k (mV k' z ez)=if k=k' then some z else cf k ez
 |[]=>by simp only[mV,cf]
 |(a,b)::l=>by
  simp only[mV]
  by_cases h1:k'=a
  ·subst h1
   rw[if_pos rfl]
   simp only[cf]
   by_cases h2:k=k'
   ·rw[if_pos h2,if_pos h2]
   ·rw[if_neg h2,if_neg h2,if_neg h2]
  ·rw[if_neg h1]
   simp only[cf,jk k k' z l]
   by_cases h2:k=a
   ·subst h2
    rw[if_pos rfl,if_pos rfl,if_neg (fun e=>h1 e.symm)]
   ·rw[if_neg h2,if_neg h2]
def zj (t:Nat×Nat×Nat):Nat→List ((Int×Int)×Int)→List ((Int×Int)×Int)
 |0,es=>es
 |k+1,es=>zj t k (mV (((t.2.1/2^(t.2.2-k):Nat):Int),(k:Int)) (-1) es)
def Cf (es:List ((Int×Int)×Int))(t:Nat×Nat×Nat):List ((Int×Int)×Int):=zj t t.2.2 (mV ((t.2.1:Int),(t.2.2:Int)) (t.1:Int) es)
def bx (ts:List (Nat×Nat×Nat))(es:List ((Int×Int)×Int)):List ((Int×Int)×Int):=ts.foldl Cf es
theorem oZ (ts:List (Nat×Nat×Nat))(t:Nat×Nat×Nat)(es:List ((Int×Int)×Int)):bx (ts++[t]) es=Cf (bx ts es) t:=by
 unfold bx;rw[List.foldl_append];rfl
def wP (ls:List Int)(c co:Nat)(o:List Int):AH:=[.one false 0 (.ints .u8 ls c),.one true 0 (.ints .u16 o co),.one true 0 (.cells [.sl 1 0 0 co co])]
def rB (ls:List Int)(c:Nat)(es:List ((Int×Int)×Int)):AH:=[.one false 0 (.ints .u8 ls c),.one true 0 (.map (.pair .i64 .i64) (mm es)),.one true 0 (.cells [.mp 1 0]),.one true 0 (.cells [.ptr 2 0 0])]
theorem kp {ls:List Int}{c:Nat}{es:List ((Int×Int)×Int)}:kq (rB ls c es).length (rB ls c es):=by
 refine⟨trivial,fun p hp=>?_,rfl,rfl,trivial⟩
 obtain⟨q,_,rfl⟩:=List.mem_map.1 hp
 rfl
section
variable{ls:List Int}{c c0:Nat}{K Kp:AV→AH→Prop}
theorem oa {o:List Int}{s code n co:Nat}(hs:s<o.length)(ho:o.length=co)(hb:co≤1000000)(hc:code<2^30)(hn:n≤30)(hK:K (.aE []) (wP ls c co (o.set s ((kQ n code 0%65536:Nat):Int)))):
 aa Try.prog 81 [.int .i64 s,.int .i64 code,.int .i64 n,.ptr 2 0 0] (wP ls c co o) K Kp:=by
 refine Sj (fun _=>[2]) [] rfl ?_
 refine Qs ?_
 refine H5 hc hn ?_
 refine Qs ?_
 exact hK
theorem sG {es:List ((Int×Int)×Int)}{s code n:Nat}(hs:s<2^30)(hc:code<2^30)(hn:n≤30)(hK:K (.aE []) (rB ls c (Cf es (s,code,n)))):
 aa Try.prog 102 [.int .i64 s,.int .i64 code,.int .i64 n,.ptr 3 0 0] (rB ls c es) K Kp:=by
 refine NH (fun _=>[3,2]) [] rfl ?_
 refine Qs ?_
 intro ER m9
 replace m9:ER=mm (mV ((code:Int),(n:Int)) (s:Int) es):=by rw[m9];exact qP ((code:Int),(n:Int)) (s:Int) es
 subst m9
 refine Rs ?_
 refine WO.go (σ:=Nat×List ((Int×Int)×Int)) (fun st=>st.1≤n∧zj (s,code,n) st.1 st.2=Cf es (s,code,n)) (fun st=>st.1)
  (fun st=>[(1,.int .i64 code),(2,.int .i64 n),(3,.ptr 3 0 0),(7,.int .i64 ((st.1:Int)-1))]) (fun st=>rB ls c st.2) (n,mV ((code:Int),(n:Int)) (s:Int) es) ae mixed (by kernel_rfl) ⟨Nat.le_refl _,rfl⟩ (aI rfl (aI rfl (aI rfl (aI rfl (trivial))))) (aI rfl (aI rfl (aI rfl (aI rfl (trivial))))) (fun _=>rfl) (fun _=>rfl) (fun _=>kp) ?_
 rintro⟨k,e1⟩ ⟨h1,h2⟩ d
 simp only at h1 h2
 refine Rs ?_
 refine And.intro (fun hd=>?_) (fun hd=>?_)
 ·simp only[decide_eq_true_eq]at hd
  obtain⟨j,rfl⟩:∃j,k=j+1:=⟨k-1,by omega⟩
  have CB:bS .i64 (code:Int) ((n:Int)-(((j+1:Nat):Int)-1))=((code/2^(n-j):Nat):Int):=by
   rw[show(n:Int)-(((j+1:Nat):Int)-1)=((n-j:Nat):Int) by omega]
   exact zW (by omega)
  have hj:((j+1:Nat):Int)-1=(j:Int):=by omega
  refine Rs ?_
  intro ER m9
  replace m9:ER=mm (mV (((code/2^(n-j):Nat):Int),(j:Int)) (-1) e1):=by
   rw[m9,←qP,←CB,←hj];rfl
  subst m9
  refine Rs ?_
  refine RO.same (j,mV (((code/2^(n-j):Nat):Int),(j:Int)) (-1) e1) ⟨by show j≤n;omega,h2⟩ (Nat.lt_succ_self j) (And.intro rfl (And.intro rfl (And.intro rfl (And.intro ?_ trivial)))) (aI rfl (aI rfl (aI rfl (aI rfl (trivial)))))
  show AV.int .i64 (((j+1:Nat):Int)-1-1)=AV.int .i64 ((j:Int)-1)
  rw[hj]
 ·simp only[decide_eq_false_iff_not]at hd
  obtain rfl:k=0:=by omega
  have h2:e1=Cf es (s,code,n):=h2
  subst h2
  refine Rs ?_
  exact hK
end
end Go.Proofs.Ytibadaomjlkoaaa
