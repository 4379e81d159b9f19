import Derived.Test.YtibadaomjlkoaaaGda
import Derived.Test.YtibadaomjlkoaaaGb
set_option linter.unusedVariables false
set_option linter.unusedSimpArgs false
open Go.RowKit
namespace Go.Proofs.Ytibadaomjlkoaaa
def j9 (n k:Nat):List Int:=(List.replicate n 0).set k 1
def aC (fr:List Int):List Nat:=(List.range fr.length).filter fun i=>decide (0<fr.getD i 0)
def cB (fr:List Int):List It:=(aC fr).mapIdx fun k s=>⟨fr.getD s 0,0,k⟩
structure Row where
 all:List It
 us:Nat→List Int
 m:Nat
def RY (m:Nat)(x:It):It:={x with u:=m+x.u}
def Row.next (lv:List It)(r:Row):Row where
 all:=(a8 (aw r.all)).map (RY r.m)++lv
 us:=fun j=>if j<r.m then r.us j else zo r.us (aw r.all) (j-r.m)
 m:=r.m+(aw r.all).length
def ag (fr:List Int):Nat→Row
 |0=>⟨[],j9 (aC fr).length,(aC fr).length⟩
 |k+1=>(ag fr k).next (cB fr)
def pC (used:List Nat)(uv:List Int)(out:List Int):List Int:=(used.zip uv).foldl (fun o p=>o.set p.1 ((o.getD p.1 0+p.2%256)%256)) out
def ss (fr:List Int)(r:Row)(t:List It):List Int:=t.foldl (fun o x=>pC (aC fr) (r.us x.u) o) (List.replicate fr.length 0)
def vR (fr:List Int)(limit:Int):Bool:=decide (limit<1)||decide (15<limit)||decide (320<fr.length)||fr.any jk
def bw (fr:List Int)(limit:Nat):List Int:=
 match(aC fr).length with
 |0=>List.replicate fr.length 0
 |1=>(List.replicate fr.length 0).set ((aC fr).getD 0 0) 1
 |n=>ss fr (ag fr limit) ((dW (ag fr limit).all.length (dF (ag fr limit).all)).take (2*n-2))
def bm (fr:List Int)(limit:Int):List Int×Int:=
 if vR fr limit=true then([],1)else if 2^limit.toNat<(aC fr).length then([],60)else(bw fr limit.toNat,0)
theorem wJ:∀(h:Nat){L:List It}{x:It},h≤L.length→x∈dW h L→x∈L
 |0,_,_,_,h=>by cases h
 |h+1,L,x,hn,hx=>by
  simp only[dW,List.mem_cons]at hx
  rcases hx with rfl|hx
  ·exact gy (Nat.succ_pos h) hn (kz (by rw[dY];omega))
  ·exact gy (Nat.succ_pos h) hn (wJ h (by rw[dY];omega) hx)
theorem oZ:∀l:List It,(cg l).length=l.length/2
 |[]=>rfl
 |[_]=>by simp[cg]
 |a::b::r=>by simp[cg,oZ r];omega
theorem iS:∀{l:List It}{a b:It},(a,b)∈cg l→a∈l∧b∈l
 |[],_,_,h=>by cases h
 |[_],_,_,h=>by cases h
 |a::b::r,x,y,h=>by
  simp only[cg,List.mem_cons]at h
  rcases h with h|h
  ·cases h;simp
  ·obtain⟨h1,h2⟩:=iS h
   simp[h1,h2]
theorem lq (L:List It):(aw L).length=L.length/2:=by unfold aw;rw[oZ,nG]
theorem tq {L:List It}{x:It}(h:x∈dF L):∃y∈L,y.w=x.w∧y.u=x.u:=by
 unfold dF at h
 exact Ay (q8 _ (by rw[ee];exact Nat.le_refl _) h)
theorem gR {L:List It}{x:It}(h:x∈dW L.length (dF L)):∃y∈L,y.w=x.w∧y.u=x.u:=
 tq (wJ _ (by rw[kW];exact Nat.le_refl _) h)
theorem Cf {L:List It}{a b:It}(h:(a,b)∈aw L):(∃y∈L,y.w=a.w∧y.u=a.u)∧∃y∈L,y.w=b.w∧y.u=b.u:=by
 obtain⟨h1,h2⟩:=iS h
 exact⟨gR h1,gR h2⟩
theorem rN {L:List It}{p:It×It}(h:p∈aw L):(∃y∈L,y.w=p.1.w∧y.u=p.1.u)∧∃y∈L,y.w=p.2.w∧y.u=p.2.u:=by
 obtain⟨a,b⟩:=p
 exact Cf h
theorem qz (fr:List Int):(aC fr).length≤fr.length:=by
 unfold aC;exact Nat.le_trans (List.length_filter_le _ _) (by simp)
theorem fL {fr:List Int}{s:Nat}(h:s∈aC fr):s<fr.length∧0<fr.getD s 0:=by
 unfold aC at h
 simp only[List.mem_filter,List.mem_range,decide_eq_true_eq]at h
 exact h
theorem Fj (fr:List Int):(cB fr).length=(aC fr).length:=by simp[cB]
theorem ko (fr:List Int)(k:Nat):(ag fr (k+1)).all.length=(ag fr k).all.length/2+(aC fr).length:=by
 simp[ag,Row.next,cW,lq,Fj]
theorem hU (fr:List Int):∀k,(ag fr k).all.length≤2*(aC fr).length
 |0=>Nat.zero_le _
 |k+1=>by rw[ko];have:=hU fr k;omega
theorem tJ (fr:List Int)(K:Nat)(hK:(aC fr).length≤2^K):∀k,k+1≤K→2*(aC fr).length≤(ag fr (k+1)).all.length+2^(K-k)
 |0,_=>by rw[ko];simp only[Nat.sub_zero];omega
 |k+1,h=>by
  have ih:=tJ fr K hK k (by omega)
  rw[ko]
  have e:2^(K-k)=2*2^(K-(k+1)):=by rw[show K-k=(K-(k+1))+1 by omega,Nat.pow_succ];omega
  rw[e]at ih
  omega
theorem ld (fr:List Int){K:Nat}(h1:1≤K)(hK:(aC fr).length≤2^K):2*(aC fr).length-2≤(ag fr K).all.length:=by
 obtain⟨k,rfl⟩:∃k,K=k+1:=⟨K-1,by omega⟩
 have:=tJ fr (k+1) hK k (Nat.le_refl _)
 rw[show k+1-k=1 by omega]at this
 omega
theorem F2 (n k:Nat):(j9 n k).length=n:=by simp[j9]
theorem F1 {n k:Nat}{v:Int}(h:v∈j9 n k):0≤v∧v≤1:=by
 rcases List.mem_or_eq_of_mem_set h with h|rfl
 ·obtain⟨_,rfl⟩:=List.mem_replicate.1 h;omega
 ·omega
theorem Ku {fr:List Int}(h:fr.any jk=false){x:Int}(hx:x∈fr):0≤x∧x≤1099511627776:=by
 have:=List.any_eq_false.1 h x hx
 simp only[jk,Bool.or_eq_true,decide_eq_true_eq,not_or]at this
 omega
theorem zy:∀{a b:List Int}{v:Int},v∈List.zipWith (·+·) a b→∃x∈a,∃y∈b,v=x+y
 |[],_,_,h=>by simp at h
 |_::_,[],_,h=>by simp at h
 |x::a,y::b,v,h=>by
  simp only[List.zipWith_cons_cons,List.mem_cons]at h
  rcases h with rfl|h
  ·exact⟨x,by simp,y,by simp,rfl⟩
  ·obtain⟨x',h1,y',h2,e⟩:=zy h
   exact⟨x',by simp[h1],y',by simp[h2],e⟩
theorem iz {l:List Nat}{j d:Nat}(h:j<l.length):l.getD j d∈l:=by
 rw[List.getD_eq_getElem?_getD,List.getElem?_eq_getElem h];exact List.getElem_mem h
theorem Hj {l:List Int}{j:Nat}{d:Int}(h:j<l.length):l.getD j d∈l:=by
 rw[List.getD_eq_getElem?_getD,List.getElem?_eq_getElem h];exact List.getElem_mem h
theorem Hi {l:List (It×It)}{j:Nat}(h:j<l.length):l.getD j default∈l:=by
 rw[List.getD_eq_getElem?_getD,List.getElem?_eq_getElem h];exact List.getElem_mem h
theorem QB {fr:List Int}(h:fr.any jk=false){x:It}(hx:x∈cB fr):KK (aC fr).length 1099511627776 x:=by
 obtain⟨j,hj,rfl⟩:=List.getElem_of_mem hx
 have rZ:j<(aC fr).length:=by simpa[cB]using hj
 simp only[cB,List.getElem_mapIdx]
 obtain⟨h1,h2⟩:=fL (List.getElem_mem rZ)
 have:=Ku h (Hj (d:=0) h1)
 exact⟨rZ,this⟩
theorem my {fr:List Int}(h:fr.any jk=false)(hl:fr.length≤320):∀k,k≤15→sZ (aC fr).length (ag fr k).m (ag fr k).us (1099511627776*2^k) (2^k) (ag fr k).all
 |0,_=>by
  have hn:=qz fr
  exact⟨by simp[ag],by simp[ag],fun r _=>F2 _ _,fun r _ v hv=>by simpa using F1 hv,by omega,by decide,by decide⟩
 |k+1,hk=>by
  have ih:=my h hl k (by omega)
  have hn:=qz fr
  have JD:=hU fr (k+1)
  have Ju:(2:Int)^(k+1)=2*2^k:=by rw[Int.pow_succ];omega
  have bW:(2:Int)^k≤16384:=by
   have:(2:Int)^k≤2^14:=by exact_mod_cast Nat.pow_le_pow_right (by omega) (show k≤14 by omega)
   simpa using this
  have Y5:(1:Int)≤2^k:=by exact_mod_cast Nat.one_le_two_pow
  have BM:∀j,j<(aw (ag fr k).all).length→KK (ag fr k).m (1099511627776*2^k) ((aw (ag fr k).all).getD j default).1∧KK (ag fr k).m (1099511627776*2^k) ((aw (ag fr k).all).getD j default).2:=by
   intro j hj
   obtain⟨⟨y,h1,e1,e2⟩,z,h2,e3,e4⟩:=rN (Hi hj)
   have a:=ih.items y h1
   have b:=ih.items z h2
   unfold KK at*
   rw[←e1,←e2,←e3,←e4]
   exact⟨a,b⟩
  have Wa:(aC fr).length≤(ag fr k).m:=by
   clear ih BM JD Ju bW Y5 hk
   induction k with
   |zero=>exact Nat.le_refl _
   |succ k ih=>simp only[ag,Row.next];omega
  refine⟨by omega,?_,?_,?_,by omega,by rw[Ju];omega,by rw[Ju];omega⟩
  ·intro x hx
   simp only[ag,Row.next,List.mem_append,List.mem_map]at hx
   rcases hx with⟨y,hy,rfl⟩|hx
   ·obtain⟨j,hj,rfl⟩:=List.getElem_of_mem hy
    have rZ:j<(aw (ag fr k).all).length:=by simpa[a8]using hj
    obtain⟨⟨_,a1,a2⟩,⟨_,b1,b2⟩⟩:=BM j rZ
    simp only[List.getD_eq_getElem?_getD,List.getElem?_eq_getElem rZ,Option.getD_some]at a1 a2 b1 b2
    simp only[RY,a8,List.getElem_mapIdx,KK,ag,Row.next]
    refine⟨by omega,by omega,by rw[Ju];omega⟩
   ·obtain⟨h1,h2,h3⟩:=QB h hx
    refine⟨?_,h2,by rw[Ju];omega⟩
    simp only[ag,Row.next];omega
  ·intro r hr
   simp only[ag,Row.next]at hr⊢
   split
   ·exact ih.ul r ‹_›
   ·obtain⟨⟨a,_⟩,⟨b,_⟩⟩:=BM (r-(ag fr k).m) (by omega)
    simp only[zo,List.length_zipWith,ih.ul _ a,ih.ul _ b,Nat.min_self]
  ·intro r hr v hv
   simp only[ag,Row.next]at hr hv
   split at hv
   ·have:=ih.uv r ‹_› v hv
    rw[Ju];omega
   ·obtain⟨⟨a,_⟩,⟨b,_⟩⟩:=BM (r-(ag fr k).m) (by omega)
    obtain⟨x,hx,y,hy,rfl⟩:=zy hv
    have:=ih.uv _ a x hx
    have:=ih.uv _ b y hy
    rw[Ju];omega
theorem Kx (used:List Nat)(uv:List Int)(out:List Int):(pC used uv out).length=out.length:=by
 unfold pC
 generalize used.zip uv=l
 induction l generalizing out with
 |nil=>rfl
 |cons p l ih=>rw[List.foldl_cons,ih];simp
theorem tW (fr:List Int)(r:Row)(t:List It):(ss fr r t).length=fr.length:=by
 unfold ss
 suffices h:∀o:List Int,(t.foldl (fun o x=>pC (aC fr) (r.us x.u) o) o).length=o.length by rw[h];simp
 induction t with
 |nil=>intro o;rfl
 |cons x t ih=>intro o;rw[List.foldl_cons,ih,Kx]
theorem uk (fr:List Int)(K:Nat):(bw fr K).length=fr.length:=by
 unfold bw;split<;>simp[tW]
theorem xf {fr:List Int}(K:Nat)(h:(aC fr).length=0):bw fr K=List.replicate fr.length 0:=by
 unfold bw;rw[h];rfl
theorem AJ {fr:List Int}(K:Nat)(h:(aC fr).length=1):bw fr K=(List.replicate fr.length 0).set ((aC fr).getD 0 0) 1:=by
 unfold bw;rw[h];rfl
theorem uj {fr:List Int}(K:Nat)(h:2≤(aC fr).length):bw fr K=ss fr (ag fr K) ((dW (ag fr K).all.length (dF (ag fr K).all)).take (2*(aC fr).length-2)):=by
 unfold bw
 split
 ·omega
 ·omega
 ·rfl
theorem EY (fr:List Int)(k:Nat):(aC fr).length≤(ag fr k).m:=by
 induction k with
 |zero=>exact Nat.le_refl _
 |succ k ih=>simp only[ag,Row.next];omega
theorem nO {fr:List Int}{k:Nat}(h:k<(aC fr).length):(cB fr).getD k default=⟨fr.getD ((aC fr).getD k 0) 0,0,k⟩:=by
 simp[cB,List.getD_eq_getElem?_getD,h]
theorem Fc {lv:List It}{r:Row}{j:Nat}(h:j<(aw r.all).length):(r.next lv).all.getD j default=RY r.m ((a8 (aw r.all)).getD j default):=by
 have h':j<(a8 (aw r.all)).length:=by rw[cW];exact h
 simp[Row.next,List.getD_eq_getElem?_getD,List.getElem?_append_left,h']
theorem Fe {lv:List It}{r:Row}{j:Nat}(h:(aw r.all).length≤j):(r.next lv).all.getD j default=lv.getD (j-(aw r.all).length) default:=by
 simp[Row.next,List.getD_eq_getElem?_getD,List.getElem?_append_right,cW,h]
def BE (used:List Nat)(uv:List Int)(k:Nat)(out:List Int):List Int:=((used.zip uv).take k).foldl (fun o p=>o.set p.1 ((o.getD p.1 0+p.2%256)%256)) out
theorem HG {used:List Nat}{uv:List Int}{k:Nat}(out:List Int)(h1:k<used.length)(h2:k<uv.length):
 BE used uv (k+1) out=(BE used uv k out).set (used.getD k 0) (((BE used uv k out).getD (used.getD k 0) 0+uv.getD k 0%256)%256):=by
 have hk:k<(used.zip uv).length:=by simp;omega
 unfold BE
 rw[List.take_succ_eq_append_getElem hk,List.foldl_append,List.getElem_zip]
 simp[List.getD_eq_getElem?_getD,h1,h2]
theorem Ky {used:List Nat}{uv:List Int}{k:Nat}(out:List Int)(h1:used.length≤k):BE used uv k out=pC used uv out:=by
 unfold BE pC
 rw[List.take_of_length_le (by simp;omega)]
theorem qU (fr:List Int)(r:Row)(t:List It)(x:It):ss fr r (t++[x])=pC (aC fr) (r.us x.u) (ss fr r t):=by
 unfold ss;rw[List.foldl_append];rfl
end Go.Proofs.Ytibadaomjlkoaaa
open Go.RowKit
namespace Go.Proofs.Ytibadaomjlkoaaa
set_option maxRecDepth 10000
def upto (fr:List Int)(i:Nat):List Nat:=(List.range i).filter fun j=>decide (0<fr.getD j 0)
theorem wa (fr:List Int)(i:Nat):upto fr (i+1)=if 0<fr.getD i 0 then upto fr i++[i]else upto fr i:=by
 unfold upto
 rw[List.range_succ,List.filter_append]
 by_cases h:0<fr.getD i 0
 ·rw[if_pos h,List.filter_cons_of_pos (by simpa using h)];simp
 ·rw[if_neg h,List.filter_cons_of_neg (by simpa using h)];simp
theorem HV (fr:List Int)(i:Nat):(upto fr i).length≤i:=by
 unfold upto;exact Nat.le_trans (List.length_filter_le _ _) (by simp)
theorem Gp (K:Nat)(h:K≤15):ba .i64 1 (K:Int)=((2^K:Nat):Int):=by
 have:∀K,K<16→ba .i64 1 ((K:Nat):Int)=((2^K:Nat):Int):=by decide
 exact this K (by omega)
section
variable{fr:List Int}{c c0:Nat}{Kp:AV→AH→Prop}
theorem yD {limit:Int}(hl:fr.length≤2000):aa Try.prog 46 [.sl 0 0 0 fr.length c0,.int .i64 limit] [.one false 0 (.ints .i64 fr c)]
 (fun r M=>∃g' c',r=.aL [.sl 1 g' 0 (bm fr limit).1.length c',.int .i64 (bm fr limit).2]∧M=[.one false 0 (.ints .i64 fr c),.one true g' (.ints .u8 (bm fr limit).1 c')]∧(bm fr limit).1.length≤c') Kp:=by
 have bad:vR fr limit=true→bm fr limit=([],1):=fun h=>by unfold bm;rw[if_pos h]
 refine aa.cU ?_
 refine aa.fi ?_
 refine PU (fun _=>[0]) [] rfl ?_
 refine Qs ?_
 refine And.intro (fun b1=>?_) (fun b1=>?_)
 ·have e:=bad (by unfold vR;rw[b1];rfl)
  refine Qs ?_
  refine⟨_,_,Vw.canon (x:=.ints .u8 [] 0) ⟨rfl,rfl⟩ (bU (n9 (bU (by simp only[gX];exact .inr rfl) (bU (jh _ _) (eY _)))) (eY _)),[.e9 0,.own 1],.aL [.sl 1 0 0 0 0,.int .i64 1],[.one false 0 (.ints .i64 fr c),.one true 0 (.ints .u8 [] 0)],⟨⟨⟨rfl,_,rfl,rfl⟩,⟨rfl,rfl⟩,trivial⟩,rfl,⟨trivial,trivial,trivial⟩,rfl,?_⟩,?_⟩
  ·intro i hi
   match i,hi with
   |0,_=>exact .inr rfl
  ·rw[e]
   exact⟨0,0,rfl,rfl,Nat.le_refl _⟩
 refine Qs ?_
 refine And.intro (fun b2=>?_) (fun b2=>?_)
 ·have e:=bad (by unfold vR;rw[b2];simp)
  refine Qs ?_
  refine⟨_,_,Vw.canon (x:=.ints .u8 [] 0) ⟨rfl,rfl⟩ (bU (n9 (bU (by simp only[gX];exact .inr rfl) (bU (jh _ _) (eY _)))) (eY _)),[.e9 0,.own 1],.aL [.sl 1 0 0 0 0,.int .i64 1],[.one false 0 (.ints .i64 fr c),.one true 0 (.ints .u8 [] 0)],⟨⟨⟨rfl,_,rfl,rfl⟩,⟨rfl,rfl⟩,trivial⟩,rfl,⟨trivial,trivial,trivial⟩,rfl,?_⟩,?_⟩
  ·intro i hi
   match i,hi with
   |0,_=>exact .inr rfl
  ·rw[e]
   exact⟨0,0,rfl,rfl,Nat.le_refl _⟩
 refine Qs ?_
 refine And.intro (fun b3=>?_) (fun b3=>?_)
 ·have b3':(320:Int)<fr.length:=by simpa using b3
  have e:=bad (by unfold vR;rw[show decide (320<fr.length)=true by rw[decide_eq_true_eq];omega];simp)
  refine Qs ?_
  refine⟨_,_,Vw.canon (x:=.ints .u8 [] 0) ⟨rfl,rfl⟩ (bU (n9 (bU (by simp only[gX];exact .inr rfl) (bU (jh _ _) (eY _)))) (eY _)),[.e9 0,.own 1],.aL [.sl 1 0 0 0 0,.int .i64 1],[.one false 0 (.ints .i64 fr c),.one true 0 (.ints .u8 [] 0)],⟨⟨⟨rfl,_,rfl,rfl⟩,⟨rfl,rfl⟩,trivial⟩,rfl,⟨trivial,trivial,trivial⟩,rfl,?_⟩,?_⟩
  ·intro i hi
   match i,hi with
   |0,_=>exact .inr rfl
  ·rw[e]
   exact⟨0,0,rfl,rfl,Nat.le_refl _⟩
 have b3':¬(320:Int)<fr.length:=by simpa using b3
 have Wt:¬limit<1:=by simpa using b1
 have b2':¬15<limit:=by simpa using b2
 refine Qs ?_
 refine Hg (by omega) ?_
 refine Qs ?_
 refine And.intro (fun b4=>?_) (fun b4=>?_)
 ·have e:=bad (by unfold vR;rw[b4];simp)
  refine Qs ?_
  refine⟨_,_,Vw.canon (x:=.ints .u8 [] 0) ⟨rfl,rfl⟩ (bU (n9 (bU (by simp only[gX];exact .inr rfl) (bU (jh _ _) (eY _)))) (eY _)),[.e9 0,.own 1],.aL [.sl 1 0 0 0 0,.int .i64 1],[.one false 0 (.ints .i64 fr c),.one true 0 (.ints .u8 [] 0)],⟨⟨⟨rfl,_,rfl,rfl⟩,⟨rfl,rfl⟩,trivial⟩,rfl,⟨trivial,trivial,trivial⟩,rfl,?_⟩,?_⟩
  ·intro i hi
   match i,hi with
   |0,_=>exact .inr rfl
  ·rw[e]
   exact⟨0,0,rfl,rfl,Nat.le_refl _⟩
 have Fx:vR fr limit=false:=by
  unfold vR
  rw[b1,b2,b4,show decide (320<fr.length)=false by rw[decide_eq_false_iff_not];omega];rfl
 refine Rs ?_
 refine WO.KW (σ:=Nat×Nat×Nat×List Int) (fun(i,g,cc,ys)=>i≤fr.length∧ys.length≤cc∧ys=(upto fr i).map Int.ofNat) (fun(i,_,_,_)=>fr.length-i)
  (fun(i,g,cc,ys)=>[(0,.sl 0 0 0 fr.length c0),(1,.int .i64 limit),(6,.sl 1 0 0 fr.length fr.length),(7,.sl 2 g 0 ys.length cc),(38,.sl 0 0 0 fr.length c0),(39,.int .i64 fr.length),(40,.int .i64 (i:Int))])
  (fun(i,g,cc,ys)=>[.one false 0 (.ints .i64 fr c),.one true 0 (.ints .u8 (List.replicate fr.length 0) fr.length),.one true g (.ints .i64 ys cc)]) (0,0,0,[]) ae mixed (by kernel_rfl)
  [(0,.sl 0 0 0 fr.length c0),(1,.int .i64 limit),(6,.sl 1 0 0 fr.length fr.length),(7,.ns),(38,.sl 0 0 0 fr.length c0),(39,.int .i64 fr.length),(40,.int .i64 0)] _ ⟨Nat.zero_le _,Nat.zero_le _,rfl⟩ (aI rfl (aI rfl (aI rfl (aI rfl (aI rfl (aI rfl (aI rfl (trivial)))))))) rfl (Vw.yv (x:=.ints .i64 [] 0) ⟨rfl,rfl⟩ ?_) (aI rfl (aI rfl (aI rfl (trivial)))) (fun _=>rfl) (fun _=>rfl) (fun _=>⟨trivial,trivial,trivial,trivial⟩) ?_
 ·exact And.intro (.inl rfl) (And.intro (.inl rfl) (And.intro (.inl rfl) (And.intro (.inr ⟨rfl,rfl⟩) (And.intro (.inl rfl) (And.intro (.inl rfl) (And.intro (.inl rfl) trivial))))))
 rintro⟨i,g,cc,ys⟩ ⟨h1,h2,h3⟩ d
 have hyl:ys.length≤i:=by rw[h3,List.length_map];exact HV fr i
 refine Rs ?_
 refine And.intro (fun hc=>?_) (fun hc=>?_)
 ·simp only[decide_eq_true_eq]at hc
  refine Rs ?_
  refine And.intro (fun hb=>?_) (fun hb=>?_)
  ·have CN:0<fr.getD i 0:=by simpa using hb
   refine Rs ?_
   intro zs fe
   obtain rfl:zs=[(i:Int)]:=by rw[fe];rfl
   refine Rs ?_
   intro c1 uL
   refine Rs ?_
   refine RO.same (i+1,g+1,c1,ys++[(i:Int)]) ⟨by omega,by simpa using uL,by rw[wa,if_pos CN,h3];simp⟩ (show fr.length-(i+1)<fr.length-i by omega) (And.intro rfl (And.intro rfl (And.intro rfl (And.intro ?_ (And.intro rfl (And.intro rfl (And.intro rfl trivial))))))) (aI rfl (aI rfl (aI rfl (trivial))))
   show AV.sl 2 (g+1) 0 (ys.length+1) c1=AV.sl 2 (g+1) 0 (ys++[(i:Int)]).length c1
   rw[List.length_append];rfl
  ·have CN:¬0<fr.getD i 0:=by simpa using hb
   refine Rs ?_
   refine RO.same (i+1,g,cc,ys) ⟨by omega,h2,by rw[wa,if_neg CN];exact h3⟩ (show fr.length-(i+1)<fr.length-i by omega) (aI rfl (aI rfl (aI rfl (aI rfl (aI rfl (aI rfl (aI rfl (trivial)))))))) (aI rfl (aI rfl (aI rfl (trivial))))
 ·simp only[decide_eq_false_iff_not]at hc
  obtain rfl:i=fr.length:=by omega
  have hu:ys=(aC fr).map Int.ofNat:=h3
  have Fs:=qz fr
  have ZV:ys.length=(aC fr).length:=by rw[hu,List.length_map]
  clear h3
  obtain⟨K,rfl⟩:∃K:Nat,limit=(K:Int):=⟨limit.toNat,by omega⟩
  have HL:ba .i64 1 (K:Int)=((2^K:Nat):Int):=Gp K (by omega)
  have Zg:bm fr (K:Int)=if 2^K<(aC fr).length then([],60)else(bw fr K,0):=by
   unfold bm;rw[Fx];simp
  refine Qs ?_
  refine And.intro (fun b5=>?_) (fun b5=>?_)
  ·have b5':ba .i64 1 (K:Int)<ys.length:=by simpa using b5
   have e:bm fr (K:Int)=([],60):=by rw[Zg,if_pos (by omega)]
   refine Qs ?_
   refine⟨_,_,Vw.canon (x:=.ints .u8 [] 0) ⟨rfl,rfl⟩ (bU (n9 (bU (by simp only[gX];exact .inr rfl) (bU (jh _ _) (eY _)))) (eY _)),[.e9 0,.own 3],.aL [.sl 1 0 0 0 0,.int .i64 60],[.one false 0 (.ints .i64 fr c),.one true 0 (.ints .u8 [] 0)],⟨⟨⟨rfl,_,rfl,rfl⟩,⟨rfl,rfl⟩,trivial⟩,rfl,⟨trivial,trivial,trivial⟩,rfl,?_⟩,?_⟩
   ·intro i hi
    match i,hi with
    |0,_=>exact .inr rfl
   ·rw[e]
    exact⟨0,0,rfl,rfl,Nat.le_refl _⟩
  have b5':¬ba .i64 1 (K:Int)<ys.length:=by simpa using b5
  have XE:bm fr (K:Int)=(bw fr K,0):=by rw[Zg,if_neg (by omega)]
  refine Qs ?_
  have WN:∀k,k<ys.length→ys.getD k 0=((aC fr).getD k 0:Int)∧(aC fr).getD k 0<fr.length:=by
   intro k hk
   have mQ:k<(aC fr).length:=by omega
   refine⟨?_,(fL (iz mQ)).1⟩
   rw[hu];simp[List.getD_eq_getElem?_getD,mQ]
  have sx:∀ZI:List Int,bw fr K=ZI→∃g' c',AV.aL [.sl 1 0 0 fr.length fr.length,.int .i64 0]=.aL [.sl 1 g' 0 (bm fr (K:Int)).1.length c',.int .i64 (bm fr (K:Int)).2]∧[AO.one false 0 (.ints .i64 fr c),AO.one true 0 (.ints .u8 ZI fr.length)]=[.one false 0 (.ints .i64 fr c),.one true g' (.ints .u8 (bm fr (K:Int)).1 c')]∧(bm fr (K:Int)).1.length≤c':=by
   rintro _ rfl
   rw[XE]
   exact⟨0,fr.length,by simp only[uk],rfl,by simp only[uk];exact Nat.le_refl _⟩
  refine And.intro (fun b6=>?_) (fun b6=>?_)
  ·have b6':(ys.length:Int)=1:=by simpa using b6
   have hk0:=WN 0 (by omega)
   have BP:0≤ys.getD (Int.toNat 0+0) 0∧ys.getD (Int.toNat 0+0) 0<fr.length:=by
    show 0≤ys.getD 0 0∧ys.getD 0 0<fr.length
    omega
   have pe:(List.replicate fr.length (0:Int)).length=fr.length:=by simp
   refine Qs ?_
   refine⟨_,_,Vw.refl _ _,[.e9 0,.own 1],.aL [.sl 1 0 0 fr.length fr.length,.int .i64 0],[.one false 0 (.ints .i64 fr c),.one true 0 (.ints .u8 ((List.replicate fr.length (0:Int)).set ((ys.getD (Int.toNat 0+0) 0).toNat+0) 1) fr.length)],⟨⟨⟨rfl,_,rfl,rfl⟩,⟨rfl,rfl⟩,trivial⟩,rfl,⟨trivial,trivial,trivial⟩,rfl,?_⟩,sx _ ?_⟩
   ·intro i hi
    match i,hi with
    |0,_=>exact .inr rfl
   rw[AJ K (by omega)]
   show _=(List.replicate fr.length 0).set ((ys.getD 0 0).toNat+0) 1
   rw[hk0.1,Int.toNat_natCast,Nat.add_zero]
  have b6':¬(ys.length:Int)=1:=by simpa using b6
  refine Qs ?_
  refine And.intro (fun b7=>?_) (fun b7=>?_)
  ·have b7':(ys.length:Int)=0:=by simpa using b7
   refine Qs ?_
   refine⟨_,_,Vw.refl _ _,[.e9 0,.own 1],.aL [.sl 1 0 0 fr.length fr.length,.int .i64 0],[.one false 0 (.ints .i64 fr c),.one true 0 (.ints .u8 (List.replicate fr.length (0:Int)) fr.length)],⟨⟨⟨rfl,_,rfl,rfl⟩,⟨rfl,rfl⟩,trivial⟩,rfl,⟨trivial,trivial,trivial⟩,rfl,?_⟩,sx _ ?_⟩
   ·intro i hi
    match i,hi with
    |0,_=>exact .inr rfl
   exact xf K (by omega)
  have b7':¬(ys.length:Int)=0:=by simpa using b7
  have hn:(aC fr).length=ys.length:=ZV.symm
  have hlv:(cB fr).length=ys.length:=by rw[Fj,hn]
  have hU0:ys.length≤320:=by omega
  refine Rs ?_
  refine WO.KW (σ:=Nat×Nat×Nat) (fun(k,gL,cL)=>k≤ys.length∧((cB fr).take k).length≤cL) (fun(k,_,_)=>ys.length-k)
   (fun(k,gL,cL)=>[(0,.sl 0 0 0 fr.length c0),(1,.int .i64 K),(6,.sl 1 0 0 fr.length fr.length),(7,.sl 2 g 0 ys.length cc),(11,.sl 4 gL 0 ((cB fr).take k).length cL),(12,.ns),(72,.sl 2 g 0 ys.length cc),(73,.int .i64 ys.length),(74,.int .i64 (k:Int))])
   (fun(k,gL,cL)=>[.one false 0 (.ints .i64 fr c),.one true 0 (.ints .u8 (List.replicate fr.length 0) fr.length),.one true g (.ints .i64 ys cc),.bG false k (uF (j9 ys.length) (fun _=>ys.length)),aO 3 ys.length (fun _=>ys.length) gL cL ((cB fr).take k)]) (0,0,0) ae mixed (by kernel_rfl)
   [(0,.sl 0 0 0 fr.length c0),(1,.int .i64 K),(6,.sl 1 0 0 fr.length fr.length),(7,.sl 2 g 0 ys.length cc),(11,.ns),(12,.ns),(72,.sl 2 g 0 ys.length cc),(73,.int .i64 ys.length),(74,.int .i64 0)] _ ⟨Nat.zero_le _,Nat.zero_le _⟩ (aI rfl (aI rfl (aI rfl (aI rfl (aI rfl (aI rfl (aI rfl (aI rfl (aI rfl (trivial)))))))))) rfl
   (Vw.trans (Vw.Uv (own:=false) (f:=uF (j9 ys.length) (fun _=>ys.length))) (Vw.yv (x:=.cJ 3 ((cB fr).take 0).length (gU 3 ys.length (fun _=>ys.length) ((cB fr).take 0)) 0) ⟨rfl,rfl⟩ ?_)) (aI rfl (aI rfl (aI rfl (aI rfl (aI rfl (trivial)))))) (fun _=>rfl) (fun _=>rfl) (fun _=>⟨trivial,trivial,trivial,fun _=>trivial,fun _=>rfl,trivial⟩) ?_
  ·exact And.intro (.inl rfl) (And.intro (.inl rfl) (And.intro (.inl rfl) (And.intro (.inl rfl) (And.intro (.inr ⟨rfl,rfl⟩) (And.intro (.inl rfl) (And.intro (.inl rfl) (And.intro (.inl rfl) (And.intro (.inl rfl) trivial))))))))
  rintro⟨k,gL,cL⟩ ⟨k1,k2⟩ d
  have Tq:((cB fr).take k).length=k:=by rw[List.length_take];omega
  refine Rs ?_
  refine And.intro (fun hc=>?_) (fun hc=>?_)
  ·simp only[decide_eq_true_eq]at hc
   obtain⟨y1,y2⟩:=WN k (by omega)
   have y3:ys.getD ((k:Int).toNat+0) 0=((aC fr).getD k 0:Int):=by rw[Int.toNat_natCast,Nat.add_zero];exact y1
   have y4:0≤ys.getD ((k:Int).toNat+0) 0∧ys.getD ((k:Int).toNat+0) 0<fr.length:=by omega
   refine Rs ?_
   refine And.intro ?_ ?_
   ·refine Rs ?_
    refine And.intro (fun q hq=>?_) ?_
    ·match q,hq with
     |0,_=>exact⟨rfl,rfl⟩
    refine And.intro ⟨by show((cB fr).take k).length+1≤_;omega,by show(((cB fr).take k).length+1)*40≤_;omega⟩ ?_
    refine Exists.intro (fun q=>if q<k then gU 3 ys.length (fun _=>ys.length) ((cB fr).take k) q else[.int .i64 (fr.getD ((ys.getD ((k:Int).toNat+0) 0).toNat+0) 0),.int .i64 0,.sl 5 0 0 (ys.length:Int).toNat (ys.length:Int).toNat]) (And.intro (fun q hq=>?_) (fun c1 uL=>?_))
    ·by_cases Jt:q<((cB fr).take k).length
     ·rw[if_pos Jt]
      show(if q<k then _ else _)=_
      rw[if_pos (by omega)]
     ·have BL:q<((cB fr).take k).length+1:=hq
      have cI:q-((cB fr).take k).length=0:=by omega
      rw[if_neg Jt,cI]
      show(if q<k then _ else _)=_
      rw[if_neg (by omega)]
      rfl
    have CM:((cB fr).take k).length+1≤c1:=uL
    have el:((cB fr).take (k+1)).length=((cB fr).take k).length+1:=by rw[List.length_take,List.length_take];omega
    refine Rs ?_
    refine RO.mk (k+1,gL+1,c1) [(0,.sl 0 0 0 fr.length c0),(1,.int .i64 K),(6,.sl 1 0 0 fr.length fr.length),(7,.sl 2 g 0 ys.length cc),(11,.sl 4 (gL+1) 0 (((cB fr).take k).length+1) c1),(12,.ns),(72,.sl 2 g 0 ys.length cc),(73,.int .i64 ys.length),(74,.int .i64 ((k:Int)+1))] _ ⟨by omega,by rw[el];exact CM⟩ (show ys.length-(k+1)<ys.length-k by omega) (aI rfl (aI rfl (aI rfl (aI rfl (aI rfl (aI rfl (aI rfl (aI rfl (aI rfl (trivial)))))))))) rfl
     (Vw.freeze (iu:=3) (k:=5) (o:=4) (uF (j9 ys.length) (fun _=>ys.length)) (gU 3 ys.length (fun _=>ys.length) ((cB fr).take (k+1))) rfl rfl rfl rfl (fun _ _=>rfl) rfl ?_ ?_) ?_
    ·intro r hr
     have Fv:r<((cB fr).take k).length+1:=hr
     show AV.js _ (nc 3 ys.length _ (((cB fr).take (k+1)).getD r default))=(if r<k then _ else _)
     by_cases pe:r<k
     ·rw[if_pos pe]
      have e1:((cB fr).take (k+1)).getD r default=(cB fr).getD r default:=by simp only[List.getD_eq_getElem?_getD,List.getElem?_take,if_pos (show r<k+1 by omega)]
      have e2:((cB fr).take k).getD r default=(cB fr).getD r default:=by simp only[List.getD_eq_getElem?_getD,List.getElem?_take,if_pos pe]
      show _=[AV.int .i64 (((cB fr).take k).getD r default).w,AV.int .i64 (((cB fr).take k).getD r default).k,AV.sl 3 (((cB fr).take k).getD r default).u 0 ys.length ys.length]
      rw[e1,e2,nO (by omega)]
      simp only[AV.js,AV.rm,bR (show¬(3=3∧r=k) by omega)]
     ·have W8:r=k:=by omega
      subst W8
      have e1:((cB fr).take (r+1)).getD r default=(cB fr).getD r default:=by simp only[List.getD_eq_getElem?_getD,List.getElem?_take,if_pos (show r<r+1 by omega)]
      rw[if_neg pe,e1,nO (by omega),y3]
      simp only[AV.js,AV.rm,ia,Int.toNat_natCast,Nat.add_zero]
    ·show AV.js _ [AV.sl 0 0 0 fr.length c0,.int .i64 K,.sl 1 0 0 fr.length fr.length,.sl 2 g 0 ys.length cc,.sl 4 (gL+1) 0 ((cB fr).take (k+1)).length c1,.ns,.sl 2 g 0 ys.length cc,.int .i64 ys.length,.int .i64 ((k:Int)+1)]=[AV.sl 0 0 0 fr.length c0,.int .i64 K,.sl 1 0 0 fr.length fr.length,.sl 2 g 0 ys.length cc,.sl 4 (gL+1) 0 (((cB fr).take k).length+1) c1,.ns,.sl 2 g 0 ys.length cc,.int .i64 ys.length,.int .i64 ((k:Int)+1)]
     rw[el]
     rfl
    ·refine And.intro rfl (And.intro rfl (And.intro rfl (And.intro rfl (And.intro ?_ trivial))))
     show aO 3 ys.length _ (gL+1) c1 ((cB fr).take (k+1))=AO.one true (gL+1) (.cJ 3 (((cB fr).take k).length+1) _ c1)
     unfold aO
     rw[el]
   ·refine Rs ?_
    refine And.intro (fun q hq=>?_) ?_
    ·match q,hq with
     |0,_=>exact⟨rfl,rfl⟩
    refine And.intro ⟨by show((cB fr).take k).length+1≤_;omega,by show(((cB fr).take k).length+1)*40≤_;omega⟩ ?_
    refine Exists.intro (fun q=>if q<k then gU 3 ys.length (fun _=>ys.length) ((cB fr).take k) q else[.int .i64 (fr.getD ((ys.getD ((k:Int).toNat+0) 0).toNat+0) 0),.int .i64 0,.sl 6 0 0 (ys.length:Int).toNat (ys.length:Int).toNat]) (And.intro (fun q hq=>?_) (fun c1 uL=>?_))
    ·by_cases Jt:q<((cB fr).take k).length
     ·rw[if_pos Jt]
      show(if q<k then _ else _)=_
      rw[if_pos (by omega)]
     ·have BL:q<((cB fr).take k).length+1:=hq
      have cI:q-((cB fr).take k).length=0:=by omega
      rw[if_neg Jt,cI]
      show(if q<k then _ else _)=_
      rw[if_neg (by omega)]
      rfl
    have CM:((cB fr).take k).length+1≤c1:=uL
    have el:((cB fr).take (k+1)).length=((cB fr).take k).length+1:=by rw[List.length_take,List.length_take];omega
    refine Rs ?_
    refine RO.mk (k+1,gL+1,c1) [(0,.sl 0 0 0 fr.length c0),(1,.int .i64 K),(6,.sl 1 0 0 fr.length fr.length),(7,.sl 2 g 0 ys.length cc),(11,.sl 4 (gL+1) 0 (((cB fr).take k).length+1) c1),(12,.ns),(72,.sl 2 g 0 ys.length cc),(73,.int .i64 ys.length),(74,.int .i64 ((k:Int)+1))] _ ⟨by omega,by rw[el];exact CM⟩ (show ys.length-(k+1)<ys.length-k by omega) (aI rfl (aI rfl (aI rfl (aI rfl (aI rfl (aI rfl (aI rfl (aI rfl (aI rfl (trivial)))))))))) rfl
     (Vw.freeze (iu:=3) (k:=6) (o:=4) (uF (j9 ys.length) (fun _=>ys.length)) (gU 3 ys.length (fun _=>ys.length) ((cB fr).take (k+1))) rfl rfl rfl rfl (fun _ _=>rfl) rfl ?_ ?_) ?_
    ·intro r hr
     have Fv:r<((cB fr).take k).length+1:=hr
     show AV.js _ (nc 3 ys.length _ (((cB fr).take (k+1)).getD r default))=(if r<k then _ else _)
     by_cases pe:r<k
     ·rw[if_pos pe]
      have e1:((cB fr).take (k+1)).getD r default=(cB fr).getD r default:=by simp only[List.getD_eq_getElem?_getD,List.getElem?_take,if_pos (show r<k+1 by omega)]
      have e2:((cB fr).take k).getD r default=(cB fr).getD r default:=by simp only[List.getD_eq_getElem?_getD,List.getElem?_take,if_pos pe]
      show _=[AV.int .i64 (((cB fr).take k).getD r default).w,AV.int .i64 (((cB fr).take k).getD r default).k,AV.sl 3 (((cB fr).take k).getD r default).u 0 ys.length ys.length]
      rw[e1,e2,nO (by omega)]
      simp only[AV.js,AV.rm,bR (show¬(3=3∧r=k) by omega)]
     ·have W8:r=k:=by omega
      subst W8
      have e1:((cB fr).take (r+1)).getD r default=(cB fr).getD r default:=by simp only[List.getD_eq_getElem?_getD,List.getElem?_take,if_pos (show r<r+1 by omega)]
      rw[if_neg pe,e1,nO (by omega),y3]
      simp only[AV.js,AV.rm,ia,Int.toNat_natCast,Nat.add_zero]
    ·show AV.js _ [AV.sl 0 0 0 fr.length c0,.int .i64 K,.sl 1 0 0 fr.length fr.length,.sl 2 g 0 ys.length cc,.sl 4 (gL+1) 0 ((cB fr).take (k+1)).length c1,.ns,.sl 2 g 0 ys.length cc,.int .i64 ys.length,.int .i64 ((k:Int)+1)]=[AV.sl 0 0 0 fr.length c0,.int .i64 K,.sl 1 0 0 fr.length fr.length,.sl 2 g 0 ys.length cc,.sl 4 (gL+1) 0 (((cB fr).take k).length+1) c1,.ns,.sl 2 g 0 ys.length cc,.int .i64 ys.length,.int .i64 ((k:Int)+1)]
     rw[el]
     rfl
    ·refine And.intro rfl (And.intro rfl (And.intro rfl (And.intro rfl (And.intro ?_ trivial))))
     show aO 3 ys.length _ (gL+1) c1 ((cB fr).take (k+1))=AO.one true (gL+1) (.cJ 3 (((cB fr).take k).length+1) _ c1)
     unfold aO
     rw[el]
  ·simp only[decide_eq_false_iff_not]at hc
   have TU:k=ys.length:=by omega
   have lY:(cB fr).take k=cB fr:=List.take_of_length_le (by omega)
   rw[lY]at k2 Tq
   subst TU
   refine Rs ?_
   refine WO.KW (σ:=Nat×Nat×Nat×(Nat→Nat)) (fun(k,gA,cA,cu)=>k≤K∧(ag fr k).all.length≤cA∧∀r,r<ys.length→cu r=ys.length) (fun(k,_,_,_)=>K-k)
    (fun(k,gA,cA,cu)=>[(6,.sl 1 0 0 fr.length fr.length),(7,.sl 2 g 0 ys.length cc),(11,.sl 4 gL 0 (cB fr).length cL),(12,.sl 5 gA 0 (ag fr k).all.length cA),(96,.int .i64 K),(97,.int .i64 (k:Int))])
    (fun(k,gA,cA,cu)=>[.one false 0 (.ints .i64 fr c),.one true 0 (.ints .u8 (List.replicate fr.length 0) fr.length),.one true g (.ints .i64 ys cc),.bG false (ag fr k).m (uF (ag fr k).us cu),aO 3 ys.length (fun _=>ys.length) gL cL (cB fr),aO 3 ys.length cu gA cA (ag fr k).all]) (0,0,0,fun _=>ys.length) ae mixed (by kernel_rfl)
    [(6,.sl 1 0 0 fr.length fr.length),(7,.sl 2 g 0 ys.length cc),(11,.sl 4 gL 0 ((cB fr).take ys.length).length cL),(12,.ns),(96,.int .i64 K),(97,.int .i64 0)] _ ⟨Nat.zero_le _,Nat.zero_le _,fun _ _=>rfl⟩ (aI rfl (aI rfl (aI rfl (aI rfl (aI rfl (aI rfl (trivial))))))) rfl
    (Vw.yv (x:=.cJ 3 (ag fr 0).all.length (gU 3 ys.length (fun _=>ys.length) (ag fr 0).all) 0) ⟨rfl,rfl⟩ ?_) (And.intro rfl (And.intro rfl (And.intro rfl (And.intro ?_ (And.intro ?_ (And.intro rfl trivial)))))) (fun _=>rfl) (fun _=>rfl) (fun _=>⟨trivial,trivial,trivial,fun _=>trivial,fun _=>rfl,fun _=>rfl,trivial⟩) ?_
   ·exact And.intro (.inl rfl) (And.intro (.inl rfl) (And.intro (.inl (by show AV.sl 4 gL 0 (cB fr).length cL=AV.sl 4 gL 0 ((cB fr).take ys.length).length cL;rw[lY])) (And.intro (.inr ⟨rfl,rfl⟩) (And.intro (.inl rfl) (And.intro (.inl rfl) trivial)))))
   ·show AO.bG false (aC fr).length (uF (j9 (aC fr).length) (fun _=>ys.length))=AO.bG false ys.length (uF (j9 ys.length) (fun _=>ys.length))
    rw[hn]
   ·show aO 3 ys.length (fun _=>ys.length) gL cL (cB fr)=aO 3 ys.length (fun _=>ys.length) gL cL ((cB fr).take ys.length)
    rw[lY]
   rintro⟨k,gA,cA,cu⟩ ⟨r1,r2,r3⟩ d
   refine Rs ?_
   refine And.intro (fun hc=>?_) (fun hc=>?_)
   ·simp only[decide_eq_true_eq]at hc
    have aA:=my b4 (by omega) k (by omega)
    rw[hn]at aA
    have JC:=EY fr k
    rw[hn]at JC
    have pe:=hU fr k
    have Jz:=cW (aw (ag fr k).all)
    have bW:=lq (ag fr k).all
    refine Rs ?_
    refine II (a:=5) (u:=3) aA rfl rfl rfl fun g' c' cv hp=>?_
    have xm:(a8 (aw (ag fr k).all)).length≤c':=by omega
    refine Rs ?_
    refine And.intro (fun q _=>⟨rfl,rfl⟩) ?_
    refine And.intro ⟨by show(aw (ag fr k).all).length+(cB fr).length≤_;omega,by show((aw (ag fr k).all).length+(cB fr).length)*40≤_;omega⟩ ?_
    refine Exists.intro (fun q=>if q<(aw (ag fr k).all).length then gU 6 ys.length cv (a8 (aw (ag fr k).all)) q else gU 3 ys.length (fun _=>ys.length) (cB fr) (q-(aw (ag fr k).all).length)) (And.intro (fun q hq=>rfl) (fun c1 uL=>?_))
    have CM:(aw (ag fr k).all).length+(cB fr).length≤c1:=uL
    have TG:(ag fr (k+1)).all.length=(aw (ag fr k).all).length+(cB fr).length:=by simp only[ag,Row.next,List.length_append,List.length_map,Jz]
    refine Rs ?_
    refine RO.mk (k+1,gA+1,c1,(fun j=>if j<(ag fr k).m then cu j else cv (j-(ag fr k).m))) [(6,.sl 1 0 0 fr.length fr.length),(7,.sl 2 g 0 ys.length cc),(11,.sl 4 gL 0 (cB fr).length cL),(12,.sl 7 (g'+1) 0 ((aw (ag fr k).all).length+(cB fr).length) c1),(96,.int .i64 K),(97,.int .i64 ((k:Int)+1))] _ ⟨by omega,by rw[TG];exact CM,fun r hr=>by show(if r<(ag fr k).m then cu r else cv (r-(ag fr k).m))=_;rw[if_pos (by omega)];exact r3 r hr⟩ (show K-(k+1)<K-k by omega) (aI rfl (aI rfl (aI rfl (aI rfl (aI rfl (aI rfl (trivial))))))) rfl
     (Vw.trans (l':=[.sl 1 0 0 fr.length fr.length,.sl 2 g 0 ys.length cc,.sl 4 gL 0 (cB fr).length cL,.sl 7 (g'+1) 0 ((aw (ag fr k).all).length+(cB fr).length) c1,.int .i64 K,.int .i64 ((k:Int)+1)])
      (Vw.merge (iu:=3) (iv:=6) (o:=7) (uF (ag fr (k+1)).us (fun j=>if j<(ag fr k).m then cu j else cv (j-(ag fr k).m))) (gU 3 ys.length (fun j=>if j<(ag fr k).m then cu j else cv (j-(ag fr k).m)) (ag fr (k+1)).all) rfl rfl rfl rfl ?_ ?_ ?_ rfl) (Vw.move (i:=5) (k:=7) rfl rfl rfl ?_)) ?_
    ·intro r hr
     show af.ints .i64 (if r<(ag fr k).m then _ else _) (if r<(ag fr k).m then _ else _)=af.ints .i64 _ _
     rw[if_pos hr,if_pos hr]
    ·intro r hr
     show af.ints .i64 (if(ag fr k).m+r<(ag fr k).m then _ else _) (if(ag fr k).m+r<(ag fr k).m then _ else _)=af.ints .i64 _ _
     rw[if_neg (by omega),if_neg (by omega),Nat.add_sub_cancel_left]
    ·intro r hr
     have Fv:r<(aw (ag fr k).all).length+(cB fr).length:=hr
     show AV.js _ [AV.int .i64 ((ag fr (k+1)).all.getD r default).w,AV.int .i64 ((ag fr (k+1)).all.getD r default).k,AV.sl 3 ((ag fr (k+1)).all.getD r default).u 0 ys.length (if((ag fr (k+1)).all.getD r default).u<(ag fr k).m then cu ((ag fr (k+1)).all.getD r default).u else cv (((ag fr (k+1)).all.getD r default).u-(ag fr k).m))]=(if r<(aw (ag fr k).all).length then _ else _)
     by_cases Tu:r<(aw (ag fr k).all).length
     ·have e1:(ag fr (k+1)).all.getD r default=RY (ag fr k).m ((a8 (aw (ag fr k).all)).getD r default):=Fc Tu
      rw[if_pos Tu,e1]
      show _=[AV.int .i64 ((a8 (aw (ag fr k).all)).getD r default).w,AV.int .i64 ((a8 (aw (ag fr k).all)).getD r default).k,AV.sl 6 ((a8 (aw (ag fr k).all)).getD r default).u 0 ys.length (cv ((a8 (aw (ag fr k).all)).getD r default).u)]
      simp only[RY,Ci Tu,AV.js,AV.rm,yn Tu,if_neg (show¬(ag fr k).m+r<(ag fr k).m by omega),Nat.add_sub_cancel_left]
     ·have e1:(ag fr (k+1)).all.getD r default=(cB fr).getD (r-(aw (ag fr k).all).length) default:=Fe (by omega)
      rw[if_neg Tu,e1]
      show _=[AV.int .i64 ((cB fr).getD (r-(aw (ag fr k).all).length) default).w,AV.int .i64 ((cB fr).getD (r-(aw (ag fr k).all).length) default).k,AV.sl 3 ((cB fr).getD (r-(aw (ag fr k).all).length) default).u 0 ys.length ys.length]
      rw[nO (by omega)]
      have Tv:=r3 (r-(aw (ag fr k).all).length) (by omega)
      simp only[AV.js,AV.rm,hZ (show¬(3=3∧(ag fr k).m≤r-(aw (ag fr k).all).length∧r-(aw (ag fr k).all).length<(ag fr k).m+(aw (ag fr k).all).length) by omega),if_pos (show r-(aw (ag fr k).all).length<(ag fr k).m by omega),Tv]
    ·refine And.intro (.inl rfl) (And.intro (.inl rfl) (And.intro (.inl rfl) (And.intro (.inr (.inl ⟨0,(aw (ag fr k).all).length+(cB fr).length,c1,rfl,?_⟩)) (And.intro (.inl rfl) (And.intro (.inl rfl) trivial)))))
     show AV.sl 5 (gA+1) 0 (ag fr (k+1)).all.length c1=_
     rw[TG]
    ·refine And.intro rfl (And.intro rfl (And.intro rfl (And.intro rfl (And.intro rfl (And.intro ?_ trivial)))))
     show aO 3 ys.length (fun j=>if j<(ag fr k).m then cu j else cv (j-(ag fr k).m)) (gA+1) c1 (ag fr (k+1)).all=AO.one true (gA+1) (.cJ 3 ((aw (ag fr k).all).length+(cB fr).length) _ c1)
     unfold aO
     rw[TG]
   ·simp only[decide_eq_false_iff_not]at hc
    have hkK:k=K:=by omega
    subst hkK
    have aA:=my b4 (by omega) k (by omega)
    rw[hn]at aA
    have pe:=hU fr k
    have OI:=ld fr (K:=k) (by omega) (by omega)
    refine Rs ?_
    refine WO.go (σ:=Nat×List It) (fun s=>s.1≤(ag fr k).all.length∧s.2=fb s.1 (ag fr k).all) (fun s=>(ag fr k).all.length-s.1)
     (fun s=>[(6,.sl 1 0 0 fr.length fr.length),(7,.sl 2 g 0 ys.length cc),(16,.ptr 6 0 0),(106,.int .i64 (ag fr k).all.length),(107,.int .i64 (s.1:Int))])
     (fun s=>[.one false 0 (.ints .i64 fr c),.one true 0 (.ints .u8 (List.replicate fr.length 0) fr.length),.one true g (.ints .i64 ys cc),.bG false (ag fr k).m (uF (ag fr k).us cu),aO 3 ys.length (fun _=>ys.length) gL cL (cB fr),aO 3 ys.length cu gA cA s.2,qO 5 gA (ag fr k).all.length cA]) (0,(ag fr k).all) ae mixed (by kernel_rfl) ⟨Nat.zero_le _,(wS _).symm⟩ (aI rfl (aI rfl (aI rfl (aI rfl (aI rfl (trivial)))))) (aI rfl (aI rfl (aI rfl (aI rfl (aI rfl (aI rfl (aI rfl (trivial)))))))) (fun _=>rfl) (fun _=>rfl) (fun _=>⟨trivial,trivial,trivial,fun _=>trivial,fun _=>rfl,fun _=>rfl,rfl,trivial⟩) ?_
    rintro⟨i,L1⟩ ⟨h1,h2⟩ d
    simp only at h1 h2
    have JF:L1.length=(ag fr k).all.length:=by rw[h2,ee]
    refine Rs ?_
    refine And.intro (fun hc=>?_) (fun hc=>?_)
    ·simp only[decide_eq_true_eq]at hc
     refine Qs ?_
     refine RO.mk (i+1,fb (i+1) (ag fr k).all) [(6,.sl 1 0 0 fr.length fr.length),(7,.sl 2 g 0 ys.length cc),(16,.ptr 6 0 0),(106,.int .i64 (ag fr k).all.length),(107,.int .i64 ((i:Int)+1))] _ ⟨by show i+1≤_;omega,rfl⟩ (show(ag fr k).all.length-(i+1)<(ag fr k).all.length-i by omega) (aI rfl (aI rfl (aI rfl (aI rfl (aI rfl (trivial)))))) rfl (Vw.cJ (i:=5) (gU 3 ys.length cu (fb (i+1) (ag fr k).all)) rfl ?_) ?_
     ·intro r hr
      rw[JF]at hr
      have:=wR (u:=3) (n:=ys.length) (cu:=cu) i (ag fr k).all r hr (by omega)
      rw[this,h2]
      rfl
     ·refine And.intro rfl (And.intro rfl (And.intro rfl (And.intro rfl (And.intro rfl (And.intro ?_ (And.intro rfl trivial))))))
      show aO 3 ys.length cu gA cA (fb (i+1) (ag fr k).all)=AO.one true gA (.cJ 3 L1.length (gU 3 ys.length cu (fb (i+1) (ag fr k).all)) cA)
      unfold aO
      rw[JF,ee]
    ·simp only[decide_eq_false_iff_not]at hc
     have hi:i=(ag fr k).all.length:=by omega
     refine Rs ?_
     refine Fm (q:=6) (a:=5) (u:=3) (L:=L1) rfl rfl rfl rfl (by omega) (by omega) (by omega) ?_
     have dI:g9 (ag fr k).all.length ((ag fr k).all.length/2) L1=dF (ag fr k).all:=by rw[h2,hi];rfl
     rw[dI]
     refine Rs ?_
     refine WO.go (σ:=Nat×List It×List It×List Int) (fun(h,Lc,ts,O)=>Lc.length=(ag fr k).all.length∧h+ts.length=(ag fr k).all.length∧ts++dW h Lc=dW (ag fr k).all.length (dF (ag fr k).all)∧(∀x∈Lc,x.u<(ag fr k).m)∧ts.length≤2*ys.length-2∧O=ss fr (ag fr k) ts) (fun(h,Lc,ts,O)=>2*ys.length-2-ts.length)
      (fun(h,Lc,ts,O)=>[(6,.sl 1 0 0 fr.length fr.length),(7,.sl 2 g 0 ys.length cc),(16,.ptr 6 0 0),(121,.int .i64 (2*(ys.length:Int)-2)),(122,.int .i64 (ts.length:Int))])
      (fun(h,Lc,ts,O)=>[.one false 0 (.ints .i64 fr c),.one true 0 (.ints .u8 O fr.length),.one true g (.ints .i64 ys cc),.bG false (ag fr k).m (uF (ag fr k).us cu),aO 3 ys.length (fun _=>ys.length) gL cL (cB fr),aO 3 ys.length cu gA cA Lc,qO 5 gA h cA]) ((ag fr k).all.length,dF (ag fr k).all,[],List.replicate fr.length 0) ae mixed (by kernel_rfl) ⟨kW _,rfl,rfl,?_,Nat.zero_le _,rfl⟩ (aI rfl (aI rfl (aI rfl (aI rfl (aI rfl (trivial)))))) (aI rfl (aI rfl (aI rfl (aI rfl (aI rfl (aI rfl (aI rfl (trivial)))))))) (fun _=>rfl) (fun _=>rfl) (fun _=>⟨trivial,trivial,trivial,fun _=>trivial,fun _=>rfl,fun _=>rfl,rfl,trivial⟩) ?_
     ·intro x hx
      obtain⟨y,hy,_,e2⟩:=tq hx
      rw[←e2];exact(aA.items y hy).1
     rintro⟨h,Lc,ts,O⟩ ⟨s1,s2,s3,s4,s5,s6⟩ d
     have hOl:O.length=fr.length:=by rw[s6,tW]
     refine Rs ?_
     refine And.intro (fun hc=>?_) (fun hc=>?_)
     ·have r8:(ts.length:Int)<2*(ys.length:Int)-2:=by simpa using hc
      obtain⟨h',rfl⟩:∃h',h=h'+1:=⟨h-1,by omega⟩
      have QM:(eM (h'+1) Lc).getD h' default∈Lc:=gy (by omega) (by omega) (kz (by rw[dY];omega))
      generalize FH:eM (h'+1) Lc=L3
      have kQ:L3.length=Lc.length:=by rw[←FH,dY]
      have NH:∀x∈L3,x.u<(ag fr k).m:=fun x hx=>s4 x (gy (by omega) (by omega) (FH▸hx))
      rw[FH]at QM
      generalize hx:L3.getD h' default=x
      rw[hx]at QM
      have YR:=s4 x QM
      have huv:=aA.ul x.u YR
      refine Rs ?_
      refine qD (q:=6) (a:=5) (u:=3) (h:=h') (L:=Lc) rfl rfl rfl rfl (by omega) (by omega) (by omega) (by omega) x (by rw[FH];exact hx) YR rfl ?_
      rw[FH]
      refine Rs ?_
      refine WO.go (σ:=Nat×List Int) (fun s=>s.1≤ys.length∧s.2.length=fr.length∧s.2=BE (aC fr) ((ag fr k).us x.u) s.1 O) (fun s=>ys.length-s.1)
       (fun s=>[(6,.sl 1 0 0 fr.length fr.length),(7,.sl 2 g 0 ys.length cc),(16,.ptr 6 0 0),(121,.int .i64 (2*(ys.length:Int)-2)),(122,.int .i64 (ts.length:Int)),(125,.sl 7 0 0 ys.length (cu x.u)),(126,.int .i64 ys.length),(127,.int .i64 (s.1:Int))])
       (fun s=>[.one false 0 (.ints .i64 fr c),.one true 0 (.ints .u8 s.2 fr.length),.one true g (.ints .i64 ys cc),.bG false (ag fr k).m (uF (ag fr k).us cu),aO 3 ys.length (fun _=>ys.length) gL cL (cB fr),aO 3 ys.length cu gA cA L3,qO 5 gA h' cA,.one false 0 (.ints .i64 ((ag fr k).us x.u) (cu x.u))]) (0,O) ae mixed (by kernel_rfl) ⟨Nat.zero_le _,hOl,rfl⟩ (aI rfl (aI rfl (aI rfl (aI rfl (aI rfl (aI rfl (aI rfl (aI rfl (trivial))))))))) (aI rfl (aI rfl (aI rfl (aI rfl (aI rfl (aI rfl (aI rfl (aI rfl (trivial))))))))) (fun _=>rfl) (fun _=>rfl) (fun _=>⟨trivial,trivial,trivial,fun _=>trivial,fun _=>rfl,fun _=>rfl,rfl,trivial,trivial⟩) ?_
      rintro⟨i,O1⟩ ⟨o1,o2,o3⟩ d
      simp only at o1 o2 o3
      refine Rs ?_
      refine And.intro (fun hd=>?_) (fun hd=>?_)
      ·simp only[decide_eq_true_eq]at hd
       obtain⟨y1,y2⟩:=WN i (by omega)
       have y3:ys.getD ((i:Int).toNat+0) 0=((aC fr).getD i 0:Int):=by rw[Int.toNat_natCast,Nat.add_zero];exact y1
       have y4:0≤ys.getD ((i:Int).toNat+0) 0∧ys.getD ((i:Int).toNat+0) 0<fr.length:=by omega
       refine Qs ?_
       refine RO.same (i+1,O1.set ((ys.getD ((i:Int).toNat+0) 0).toNat+0) ((O1.getD ((ys.getD ((i:Int).toNat+0) 0).toNat+0) 0+((ag fr k).us x.u).getD ((i:Int).toNat+0) 0%256)%256)) ⟨by show i+1≤_;omega,by simpa using o2,?_⟩ (show ys.length-(i+1)<ys.length-i by omega) (aI rfl (aI rfl (aI rfl (aI rfl (aI rfl (aI rfl (aI rfl (aI rfl (trivial))))))))) (aI rfl (aI rfl (aI rfl (aI rfl (aI rfl (aI rfl (aI rfl (aI rfl (trivial)))))))))
       show O1.set _ _=BE (aC fr) ((ag fr k).us x.u) (i+1) O
       rw[HG O (by omega) (by omega),←o3,y3]
       simp only[Int.toNat_natCast,Nat.add_zero]
      ·simp only[decide_eq_false_iff_not]at hd
       have hi:i=ys.length:=by omega
       have hO:O1=pC (aC fr) ((ag fr k).us x.u) O:=by rw[o3,Ky O (by omega)]
       refine Rs ?_
       refine RO.same (h',L3,ts++[x],O1) ⟨by omega,by rw[List.length_append];simp only[List.length_singleton];omega,?_,NH,by rw[List.length_append];simp only[List.length_singleton];omega,?_⟩ (show 2*ys.length-2-(ts++[x]).length<2*ys.length-2-ts.length by rw[List.length_append];simp only[List.length_singleton];omega) (And.intro rfl (And.intro rfl (And.intro rfl (And.intro rfl (And.intro ?_ trivial))))) (aI rfl (aI rfl (aI rfl (aI rfl (aI rfl (aI rfl (aI rfl (trivial))))))))
       ·rw[←s3]
        simp only[dW,FH,hx,List.append_assoc,List.singleton_append]
       ·rw[qU,hO,s6]
       ·show AV.int .i64 ((ts.length:Int)+1)=AV.int .i64 ((ts++[x]).length:Int)
        rw[List.length_append];rfl
     ·have r8:¬(ts.length:Int)<2*(ys.length:Int)-2:=by simpa using hc
      have lX:ts.length=2*(aC fr).length-2:=by omega
      have Tq:(dW (ag fr k).all.length (dF (ag fr k).all)).take (2*(aC fr).length-2)=ts:=by rw[←s3,←lX,List.take_left'];rfl
      refine Rs ?_
      refine⟨_,_,Vw.refl _ _,[.e9 0,.own 1],.aL [.sl 1 0 0 fr.length fr.length,.int .i64 0],[.one false 0 (.ints .i64 fr c),.one true 0 (.ints .u8 O fr.length)],⟨⟨⟨rfl,_,rfl,rfl⟩,⟨rfl,rfl⟩,trivial⟩,rfl,⟨trivial,trivial,trivial⟩,rfl,?_⟩,sx _ ?_⟩
      ·intro i hi
       match i,hi with
       |0,_=>exact .inr rfl
      rw[uj k (by omega),Tq]
      exact s6.symm
end
end Go.Proofs.Ytibadaomjlkoaaa
open Go.RowKit
namespace Go.Proofs.Ytibadaomjlkoaaa
set_option maxRecDepth 10000
theorem kR {z:Nat}(h:z<2^63):IntKind.i64.wrap (z:Int)=(z:Int):=by
 simp[IntKind.wrap,IntKind.bits,IntKind.signed];omega
theorem Ip {x k:Nat}(h:x*2^k<2^63)(hk:k≤64):ba .i64 (x:Int) (k:Int)=((x*2^k:Nat):Int):=by
 simp only[ba,IntKind.bits,Int.toNat_natCast,Nat.min_eq_left hk]
 have:(x:Int)*2^k=((x*2^k:Nat):Int):=by push_cast;rfl
 rw[this,kR h]
theorem jA {x:Nat}(h:x<2^62):ba .i64 (x:Int) 1=((2*x:Nat):Int):=by
 have:=Ip (x:=x) (k:=1) (by omega) (by omega)
 rw[Nat.mul_comm 2 x]
 exact this
theorem Wz {a b:Nat}(ha:a<2^62)(hb:b<2^62):cm .or .i64 (a:Int) (b:Int)=((a|||b:Nat):Int):=by
 have h1:(BitVec.ofInt 64 (a:Int)|||BitVec.ofInt 64 (b:Int)).toNat=a|||b:=by
  rw[BitVec.toNat_or,BitVec.ofInt_natCast,BitVec.ofInt_natCast,BitVec.toNat_ofNat,BitVec.toNat_ofNat,Nat.mod_eq_of_lt (by omega),Nat.mod_eq_of_lt (by omega)]
 have h2:(a|||b)<2^62:=Nat.or_lt_two_pow ha hb
 show IntKind.i64.wrap ((BitVec.ofInt 64 (a:Int)|||BitVec.ofInt 64 (b:Int)).toNat:Int)=_
 rw[h1,kR (by omega)]
theorem Ap {a b:Nat}(ha:a<2^61)(hb:b<2):cm .or .i64 ((2*a:Nat):Int) (b:Int)=((2*a+b:Nat):Int):=by
 rw[Wz (by omega) (by omega)]
 have:=Nat.two_pow_add_eq_or_of_lt (i:=1) (b:=b) (by omega) a
 rw[show 2^1*a=2*a by omega]at this
 rw[this]
theorem N8 {a:Nat}(ha:a<2^62):cm .and .i64 (a:Int) 1=((a%2:Nat):Int):=by
 have h1:(BitVec.ofInt 64 (a:Int)&&&BitVec.ofInt 64 (1:Int)).toNat=a%2:=by
  rw[BitVec.toNat_and,show BitVec.ofInt 64 (1:Int)=1#64 from rfl,BitVec.ofInt_natCast,BitVec.toNat_ofNat,Nat.mod_eq_of_lt (by omega)]
  exact Nat.and_two_pow_sub_one_eq_mod a 1
 show IntKind.i64.wrap ((BitVec.ofInt 64 (a:Int)&&&BitVec.ofInt 64 (1:Int)).toNat:Int)=_
 rw[h1,kR (by omega)]
theorem Im {x k:Nat}(hk:k≤64):cn .i64 (x:Int) (k:Int)=((x/2^k:Nat):Int):=by
 simp only[cn,IntKind.bits,Int.toNat_natCast,Nat.min_eq_left hk]
 have:(2:Int)^k=((2^k:Nat):Int):=by push_cast;rfl
 rw[this,Int.fdiv_eq_ediv_of_nonneg _ (Int.natCast_nonneg _)];rfl
theorem Lp {x:Nat}:cn .i64 (x:Int) 1=((x/2:Nat):Int):=Im (k:=1) (by omega)
def kd:Nat→Nat→Nat→Nat
 |0,_,o=>o
 |n+1,c,o=>kd n (c/2) (2*o+c%2)
theorem F4 {code n:Nat}{M:AH}{K Kp:AV→AH→Prop}(hc:code<2^30)(hn:n≤30)(hK:K (.int .u16 ((kd n code 0%65536:Nat):Int)) M):aa Try.prog 82 [.int .i64 code,.int .i64 n] M K Kp:=by
 refine aa.RV (v:=.int .u16 ((kd n code 0%65536:Nat):Int)) ?_ (fun _=>rfl) rfl (fun _=>rfl) hK
 refine Py (fun _=>[]) [] rfl ?_
 refine Rs ?_
 refine WO.go (σ:=Nat×Nat×Nat) (fun(i,c,o)=>i≤n∧c<2^30∧o<2^i∧kd (n-i) c o=kd n code 0) (fun(i,_,_)=>n-i)
  (fun(i,c,o)=>[(0,.int .i64 (c:Int)),(5,.int .i64 (o:Int)),(6,.int .i64 n),(7,.int .i64 (i:Int))]) (fun _=>[]) (0,code,0) ae mixed (by kernel_rfl) ⟨Nat.zero_le _,hc,by decide,rfl⟩ (aI rfl (aI rfl (aI rfl (aI rfl (trivial))))) trivial (fun _=>rfl) (fun _=>rfl) (fun _=>trivial) ?_
 rintro⟨i,cc,o⟩ ⟨h1,h2,h3,h4⟩ d
 refine Rs ?_
 refine And.intro (fun hd=>?_) (fun hd=>?_)
 ·simp only[decide_eq_true_eq]at hd
  have hp:(2:Nat)^i≤2^30:=Nat.pow_le_pow_right (by omega) (by omega)
  have e1:ba .i64 (o:Int) 1=((2*o:Nat):Int):=jA (by omega)
  have e2:cm .and .i64 (cc:Int) 1=((cc%2:Nat):Int):=N8 (by omega)
  have e3:cm .or .i64 ((2*o:Nat):Int) ((cc%2:Nat):Int)=((2*o+cc%2:Nat):Int):=Ap (by omega) (by omega)
  have e4:cn .i64 (cc:Int) 1=((cc/2:Nat):Int):=Lp
  obtain⟨j,hj⟩:∃j,n-i=j+1:=⟨n-i-1,by omega⟩
  refine Rs ?_
  refine RO.same (i+1,cc/2,2*o+cc%2) ⟨by omega,by omega,by rw[Nat.pow_succ];omega,?_⟩ (show n-(i+1)<n-i by omega) (And.intro ?_ (And.intro ?_ (And.intro rfl (And.intro rfl trivial)))) trivial
  ·rw[hj]at h4
   rw[show n-(i+1)=j by omega,←h4];rfl
  ·show AV.int .i64 (cn .i64 (cc:Int) 1)=_
   rw[e4]
  ·show AV.int .i64 (cm .or .i64 (ba .i64 (o:Int) 1) (cm .and .i64 (cc:Int) 1))=_
   rw[e1,e2,e3]
 ·simp only[decide_eq_false_iff_not]at hd
  have hi:i=n:=by omega
  refine Rs ?_
  refine And.intro ?_ rfl
  show AV.int .u16 ((o:Int)%65536)=_
  rw[hi,Nat.sub_self]at h4
  have h4:o=kd n code 0:=h4
  rw[h4];rfl
end Go.Proofs.Ytibadaomjlkoaaa
open Go.RowKit
namespace Go.Proofs.Ytibadaomjlkoaaa
set_option maxRecDepth 10000
def bB (ls:List Int):Nat→Nat
 |0=>0
 |i+1=>bB ls i+if 0<ls.getD i 0 then 2^(15-(ls.getD i 0).toNat)else 0
def bY (ls:List Int):Nat→Nat
 |0=>0
 |i+1=>bY ls i+if 0<ls.getD i 0 then 1 else 0
theorem xW (ls:List Int):∀i,bB ls i≤i*32768
 |0=>Nat.le_refl _
 |i+1=>by
  have:=xW ls i
  have h2:2^(15-(ls.getD i 0).toNat)≤32768:=Nat.le_trans (Nat.pow_le_pow_right (by omega) (Nat.sub_le 15 _)) (by decide)
  have h3:bB ls (i+1)=bB ls i+if 0<ls.getD i 0 then 2^(15-(ls.getD i 0).toNat)else 0:=rfl
  rw[h3,Nat.succ_mul]
  split
  ·exact Nat.add_le_add this h2
  ·exact Nat.le_trans this (Nat.le_add_right _ _)
theorem y9 (ls:List Int):∀i,bY ls i≤i
 |0=>Nat.le_refl _
 |i+1=>by have:=y9 ls i;simp only[bY];split<;>omega
def fW (ls:List Int):Bool:=decide (320<ls.length)||ls.any rC
def bF (ls:List Int):Bool:=decide (bB ls ls.length=32768)||decide (bY ls ls.length=0)||(decide (bY ls ls.length=1)&&decide (bB ls ls.length=16384))
def aE (ls:List Int):Int:=if fW ls=true then 1 else if bF ls=true then 0 else 60
def dR (ls:List Int)(n:Nat)(x:Nat×List (Nat×Nat×Nat))(s:Nat):Nat×List (Nat×Nat×Nat):=if ls.getD s 0=(n:Int)then(x.1+1,x.2++[(s,x.1,n)])else x
def cZ (ls:List Int)(n i:Nat)(x:Nat×List (Nat×Nat×Nat)):Nat×List (Nat×Nat×Nat):=(List.range i).foldl (dR ls n) x
def aH (ls:List Int):Nat→Nat×List (Nat×Nat×Nat)
 |0=>(0,[])
 |n+1=>cZ ls (n+1) ls.length (2*(aH ls n).1,(aH ls n).2)
theorem bf (ls:List Int)(n i:Nat)(x:Nat×List (Nat×Nat×Nat)):cZ ls n (i+1) x=dR ls n (cZ ls n i x) i:=by
 unfold cZ;rw[List.range_succ,List.foldl_append];rfl
theorem jE (ls:List Int)(n:Nat)(x:Nat×List (Nat×Nat×Nat)):∀i,(cZ ls n i x).1≤x.1+i
 |0=>Nat.le_refl _
 |i+1=>by
  have:=jE ls n x i
  rw[bf];unfold dR;split
  ·show(cZ ls n i x).1+1≤_;omega
  ·omega
theorem iK (ls:List Int):∀n,(aH ls n).1+ls.length≤2^n*ls.length
 |0=>by simp[aH]
 |n+1=>by
  have ih:=iK ls n
  have:=jE ls (n+1) (2*(aH ls n).1,(aH ls n).2) ls.length
  simp only[aH]
  have e:2^(n+1)*ls.length=2*(2^n*ls.length):=by rw[Nat.pow_succ,Nat.mul_comm (2^n) 2,Nat.mul_assoc]
  have h3:(2*(aH ls n).1,(aH ls n).2).1=2*(aH ls n).1:=rfl
  omega
def oh (ts:List (Nat×Nat×Nat))(o:List Int):List Int:=ts.foldl (fun o t=>o.set t.1 ((kd t.2.2 t.2.1 0%65536:Nat):Int)) o
theorem eS (ts:List (Nat×Nat×Nat))(o:List Int):(oh ts o).length=o.length:=by
 unfold oh
 induction ts generalizing o with
 |nil=>rfl
 |cons t ts ih=>rw[List.foldl_cons,ih];simp
theorem nT (ts:List (Nat×Nat×Nat))(t:Nat×Nat×Nat)(o:List Int):oh (ts++[t]) o=(oh ts o).set t.1 ((kd t.2.2 t.2.1 0%65536:Nat):Int):=by
 unfold oh;rw[List.foldl_append];rfl
def lA (ez:List ((Int×Int)×Int)):List ((Int×Int)×AV):=ez.map fun p=>(p.1,.int .i64 p.2)
def l9 (k:Int×Int)(z:Int):List ((Int×Int)×Int)→List ((Int×Int)×Int)
 |[]=>[(k,z)]
 |(k',z')::l=>if k=k' then(k',z)::l else(k',z')::l9 k z l
def bS (k:Int×Int):List ((Int×Int)×Int)→Option Int
 |[]=>none
 |(k',z)::l=>if k=k' then some z else bS k l
theorem pK (k:Int×Int)(z:Int):∀ez,qA k (.int .i64 z) (lA ez)=lA (l9 k z ez)
 |[]=>rfl
 |(k',z')::l=>by
  show(if k=k' then _ else _)=lA (if k=k' then _ else _)
  split
  ·rfl
  ·show _::qA k (.int .i64 z) (lA l)=_::lA (l9 k z l)
   rw[pK k z l]
theorem je (k:Int×Int):∀ez,oL k (lA ez)=(bS k ez).map (AV.int .i64)
 |[]=>rfl
 |(k',z')::l=>by
  show(if k=k' then _ else _)=Option.map _ (if k=k' then _ else _)
  split
  ·rfl
  ·exact je k l
theorem iC (k k':Int×Int)(z:Int):∀ez,bS k (l9 k' z ez)=if k=k' then some z else bS k ez
 |[]=>by simp only[l9,bS]
 |(a,b)::l=>by
  simp only[l9]
  by_cases h1:k'=a
  ·subst h1
   rw[if_pos rfl]
   simp only[bS]
   by_cases h2:k=k'
   ·rw[if_pos h2,if_pos h2]
   ·rw[if_neg h2,if_neg h2,if_neg h2]
  ·rw[if_neg h1]
   simp only[bS,iC k k' z l]
   by_cases h2:k=a
   ·subst h2
    rw[if_pos rfl,if_pos rfl,if_neg (fun e=>h1 e.symm)]
   ·rw[if_neg h2,if_neg h2]
def xF (t:Nat×Nat×Nat):Nat→List ((Int×Int)×Int)→List ((Int×Int)×Int)
 |0,es=>es
 |k+1,es=>xF t k (l9 (((t.2.1/2^(t.2.2-k):Nat):Int),(k:Int)) (-1) es)
def Aq (es:List ((Int×Int)×Int))(t:Nat×Nat×Nat):List ((Int×Int)×Int):=xF t t.2.2 (l9 ((t.2.1:Int),(t.2.2:Int)) (t.1:Int) es)
def cy (ts:List (Nat×Nat×Nat))(es:List ((Int×Int)×Int)):List ((Int×Int)×Int):=ts.foldl Aq es
theorem nS (ts:List (Nat×Nat×Nat))(t:Nat×Nat×Nat)(es:List ((Int×Int)×Int)):cy (ts++[t]) es=Aq (cy ts es) t:=by
 unfold cy;rw[List.foldl_append];rfl
def u7 (ls:List Int)(c co:Nat)(o:List Int):AH:=[.one false 0 (.ints .u8 ls c),.one true 0 (.ints .u16 o co),.one true 0 (.cells [.sl 1 0 0 co co])]
def qg (ls:List Int)(c:Nat)(es:List ((Int×Int)×Int)):AH:=[.one false 0 (.ints .u8 ls c),.one true 0 (.map (.pair .i64 .i64) (lA es)),.one true 0 (.cells [.mp 1 0]),.one true 0 (.cells [.ptr 2 0 0])]
theorem jI {ls:List Int}{c:Nat}{es:List ((Int×Int)×Int)}:mi (qg ls c es).length (qg ls c es):=by
 refine⟨trivial,fun p hp=>?_,rfl,rfl,trivial⟩
 obtain⟨q,_,rfl⟩:=List.mem_map.1 hp
 rfl
section
variable{ls:List Int}{c c0:Nat}{K Kp:AV→AH→Prop}
theorem na {o:List Int}{s code n co:Nat}(hs:s<o.length)(ho:o.length=co)(hb:co≤1000000)(hc:code<2^30)(hn:n≤30)(hK:K (.aL []) (u7 ls c co (o.set s ((kd n code 0%65536:Nat):Int)))):
 aa Try.prog 81 [.int .i64 s,.int .i64 code,.int .i64 n,.ptr 2 0 0] (u7 ls c co o) K Kp:=by
 refine Pz (fun _=>[2]) [] rfl ?_
 refine Qs ?_
 refine F4 hc hn ?_
 refine Qs ?_
 exact hK
theorem q7 {es:List ((Int×Int)×Int)}{s code n:Nat}(hs:s<2^30)(hc:code<2^30)(hn:n≤30)(hK:K (.aL []) (qg ls c (Aq es (s,code,n)))):
 aa Try.prog 102 [.int .i64 s,.int .i64 code,.int .i64 n,.ptr 3 0 0] (qg ls c es) K Kp:=by
 refine Li (fun _=>[3,2]) [] rfl ?_
 refine Qs ?_
 intro CX mf
 replace mf:CX=lA (l9 ((code:Int),(n:Int)) (s:Int) es):=by rw[mf];exact pK ((code:Int),(n:Int)) (s:Int) es
 subst mf
 refine Rs ?_
 refine WO.go (σ:=Nat×List ((Int×Int)×Int)) (fun st=>st.1≤n∧xF (s,code,n) st.1 st.2=Aq es (s,code,n)) (fun st=>st.1)
  (fun st=>[(1,.int .i64 code),(2,.int .i64 n),(3,.ptr 3 0 0),(7,.int .i64 ((st.1:Int)-1))]) (fun st=>qg ls c st.2) (n,l9 ((code:Int),(n:Int)) (s:Int) es) ae mixed (by kernel_rfl) ⟨Nat.le_refl _,rfl⟩ (aI rfl (aI rfl (aI rfl (aI rfl (trivial))))) (aI rfl (aI rfl (aI rfl (aI rfl (trivial))))) (fun _=>rfl) (fun _=>rfl) (fun _=>jI) ?_
 rintro⟨k,e1⟩ ⟨h1,h2⟩ d
 simp only at h1 h2
 refine Rs ?_
 refine And.intro (fun hd=>?_) (fun hd=>?_)
 ·simp only[decide_eq_true_eq]at hd
  obtain⟨j,rfl⟩:∃j,k=j+1:=⟨k-1,by omega⟩
  have HL:cn .i64 (code:Int) ((n:Int)-(((j+1:Nat):Int)-1))=((code/2^(n-j):Nat):Int):=by
   rw[show(n:Int)-(((j+1:Nat):Int)-1)=((n-j:Nat):Int) by omega]
   exact Im (by omega)
  have hj:((j+1:Nat):Int)-1=(j:Int):=by omega
  refine Rs ?_
  intro CX mf
  replace mf:CX=lA (l9 (((code/2^(n-j):Nat):Int),(j:Int)) (-1) e1):=by
   rw[mf,←pK,←HL,←hj];rfl
  subst mf
  refine Rs ?_
  refine RO.same (j,l9 (((code/2^(n-j):Nat):Int),(j:Int)) (-1) e1) ⟨by show j≤n;omega,h2⟩ (Nat.lt_succ_self j) (And.intro rfl (And.intro rfl (And.intro rfl (And.intro ?_ trivial)))) (aI rfl (aI rfl (aI rfl (aI rfl (trivial)))))
  show AV.int .i64 (((j+1:Nat):Int)-1-1)=AV.int .i64 ((j:Int)-1)
  rw[hj]
 ·simp only[decide_eq_false_iff_not]at hd
  obtain rfl:k=0:=by omega
  have h2:e1=Aq es (s,code,n):=h2
  subst h2
  refine Rs ?_
  exact hK
end
end Go.Proofs.Ytibadaomjlkoaaa
