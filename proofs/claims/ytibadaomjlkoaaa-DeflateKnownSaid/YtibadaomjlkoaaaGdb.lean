import Derived.Test.YtibadaomjlkoaaaGda
import Derived.Test.YtibadaomjlkoaaaGb
set_option linter.unusedVariables false
set_option linter.unusedSimpArgs false
open Go.RowKit
namespace Go.Proofs.Ytibadaomjlkoaaa
def jF (n k:Nat):List Int:=(List.replicate n 0).set k 1
def aC (fr:List Int):List Nat:=(List.range fr.length).filter fun i=>decide (0<fr.getD i 0)
def cr (fr:List Int):List It:=(aC fr).mapIdx fun k s=>⟨fr.getD s 0,0,k⟩
structure Row where
 all:List It
 us:Nat→List Int
 m:Nat
def Qm (m:Nat)(x:It):It:={x with u:=m+x.u}
def Row.next (lv:List It)(r:Row):Row where
 all:=(aY (av r.all)).map (Qm r.m)++lv
 us:=fun j=>if j<r.m then r.us j else yO r.us (av r.all) (j-r.m)
 m:=r.m+(av r.all).length
def af (fr:List Int):Nat→Row
 |0=>⟨[],jF (aC fr).length,(aC fr).length⟩
 |k+1=>(af fr k).next (cr fr)
def oS (used:List Nat)(uv:List Int)(out:List Int):List Int:=(used.zip uv).foldl (fun o p=>o.set p.1 ((o.getD p.1 0+p.2%256)%256)) out
def rM (fr:List Int)(r:Row)(t:List It):List Int:=t.foldl (fun o x=>oS (aC fr) (r.us x.u) o) (List.replicate fr.length 0)
def vh (fr:List Int)(limit:Int):Bool:=decide (limit<1)||decide (15<limit)||decide (320<fr.length)||fr.any iR
def bq (fr:List Int)(limit:Nat):List Int:=
 match(aC fr).length with
 |0=>List.replicate fr.length 0
 |1=>(List.replicate fr.length 0).set ((aC fr).getD 0 0) 1
 |n=>rM fr (af fr limit) ((dJ (af fr limit).all.length (dx (af fr limit).all)).take (2*n-2))
def bh (fr:List Int)(limit:Int):List Int×Int:=
 if vh fr limit=true then([],1)else if 2^limit.toNat<(aC fr).length then([],60)else(bq fr limit.toNat,0)
theorem v8:∀(h:Nat){L:List It}{x:It},h≤L.length→x∈dJ h L→x∈L
 |0,_,_,_,h=>by cases h
 |h+1,L,x,hn,hx=>by
  simp only[dJ,List.mem_cons]at hx
  rcases hx with rfl|hx
  ·exact fU (Nat.succ_pos h) hn (jZ (by rw[dK];omega))
  ·exact fU (Nat.succ_pos h) hn (v8 h (by rw[dK];omega) hx)
theorem oe:∀l:List It,(bX l).length=l.length/2
 |[]=>rfl
 |[_]=>by simp[bX]
 |a::b::r=>by simp[bX,oe r];omega
theorem iz:∀{l:List It}{a b:It},(a,b)∈bX l→a∈l∧b∈l
 |[],_,_,h=>by cases h
 |[_],_,_,h=>by cases h
 |a::b::r,x,y,h=>by
  simp only[bX,List.mem_cons]at h
  rcases h with h|h
  ·cases h;simp
  ·obtain⟨h1,h2⟩:=iz h
   simp[h1,h2]
theorem kM (L:List It):(av L).length=L.length/2:=by unfold av;rw[oe,mU]
theorem sC {L:List It}{x:It}(h:x∈dx L):∃y∈L,y.w=x.w∧y.u=x.u:=by
 unfold dx at h
 exact zU (qt _ (by rw[dN];exact Nat.le_refl _) h)
theorem gv {L:List It}{x:It}(h:x∈dJ L.length (dx L)):∃y∈L,y.w=x.w∧y.u=x.u:=
 sC (v8 _ (by rw[ky];exact Nat.le_refl _) h)
theorem Bt {L:List It}{a b:It}(h:(a,b)∈av L):(∃y∈L,y.w=a.w∧y.u=a.u)∧∃y∈L,y.w=b.w∧y.u=b.u:=by
 obtain⟨h1,h2⟩:=iz h
 exact⟨gv h1,gv h2⟩
theorem q6 {L:List It}{p:It×It}(h:p∈av L):(∃y∈L,y.w=p.1.w∧y.u=p.1.u)∧∃y∈L,y.w=p.2.w∧y.u=p.2.u:=by
 obtain⟨a,b⟩:=p
 exact Bt h
theorem pY (fr:List Int):(aC fr).length≤fr.length:=by
 unfold aC;exact Nat.le_trans (List.length_filter_le _ _) (by simp)
theorem fw {fr:List Int}{s:Nat}(h:s∈aC fr):s<fr.length∧0<fr.getD s 0:=by
 unfold aC at h
 simp only[List.mem_filter,List.mem_range,decide_eq_true_eq]at h
 exact h
theorem Ei (fr:List Int):(cr fr).length=(aC fr).length:=by simp[cr]
theorem jO (fr:List Int)(k:Nat):(af fr (k+1)).all.length=(af fr k).all.length/2+(aC fr).length:=by
 simp[af,Row.next,cJ,kM,Ei]
theorem gJ (fr:List Int):∀k,(af fr k).all.length≤2*(aC fr).length
 |0=>Nat.zero_le _
 |k+1=>by rw[jO];have:=gJ fr k;omega
theorem sR (fr:List Int)(K:Nat)(hK:(aC fr).length≤2^K):∀k,k+1≤K→2*(aC fr).length≤(af fr (k+1)).all.length+2^(K-k)
 |0,_=>by rw[jO];simp only[Nat.sub_zero];omega
 |k+1,h=>by
  have ih:=sR fr K hK k (by omega)
  rw[jO]
  have e:2^(K-k)=2*2^(K-(k+1)):=by rw[show K-k=(K-(k+1))+1 by omega,Nat.pow_succ];omega
  rw[e]at ih
  omega
theorem kG (fr:List Int){K:Nat}(h1:1≤K)(hK:(aC fr).length≤2^K):2*(aC fr).length-2≤(af fr K).all.length:=by
 obtain⟨k,rfl⟩:∃k,K=k+1:=⟨K-1,by omega⟩
 have:=sR fr (k+1) hK k (Nat.le_refl _)
 rw[show k+1-k=1 by omega]at this
 omega
theorem E0 (n k:Nat):(jF n k).length=n:=by simp[jF]
theorem EZ {n k:Nat}{v:Int}(h:v∈jF n k):0≤v∧v≤1:=by
 rcases List.mem_or_eq_of_mem_set h with h|rfl
 ·obtain⟨_,rfl⟩:=List.mem_replicate.1 h;omega
 ·omega
theorem Jj {fr:List Int}(h:fr.any iR=false){x:Int}(hx:x∈fr):0≤x∧x≤1099511627776:=by
 have:=List.any_eq_false.1 h x hx
 simp only[iR,Bool.or_eq_true,decide_eq_true_eq,not_or]at this
 omega
theorem yW:∀{a b:List Int}{v:Int},v∈List.zipWith (·+·) a b→∃x∈a,∃y∈b,v=x+y
 |[],_,_,h=>by simp at h
 |_::_,[],_,h=>by simp at h
 |x::a,y::b,v,h=>by
  simp only[List.zipWith_cons_cons,List.mem_cons]at h
  rcases h with rfl|h
  ·exact⟨x,by simp,y,by simp,rfl⟩
  ·obtain⟨x',h1,y',h2,e⟩:=yW h
   exact⟨x',by simp[h1],y',by simp[h2],e⟩
theorem gX {l:List Nat}{j d:Nat}(h:j<l.length):l.getD j d∈l:=by
 rw[List.getD_eq_getElem?_getD,List.getElem?_eq_getElem h];exact List.getElem_mem h
theorem Gi {l:List Int}{j:Nat}{d:Int}(h:j<l.length):l.getD j d∈l:=by
 rw[List.getD_eq_getElem?_getD,List.getElem?_eq_getElem h];exact List.getElem_mem h
theorem Gh {l:List (It×It)}{j:Nat}(h:j<l.length):l.getD j default∈l:=by
 rw[List.getD_eq_getElem?_getD,List.getElem?_eq_getElem h];exact List.getElem_mem h
theorem OX {fr:List Int}(h:fr.any iR=false){x:It}(hx:x∈cr fr):Jy (aC fr).length 1099511627776 x:=by
 obtain⟨j,hj,rfl⟩:=List.getElem_of_mem hx
 have rp:j<(aC fr).length:=by simpa[cr]using hj
 simp only[cr,List.getElem_mapIdx]
 obtain⟨h1,h2⟩:=fw (List.getElem_mem rp)
 have:=Jj h (Gi (d:=0) h1)
 exact⟨rp,this⟩
theorem lU {fr:List Int}(h:fr.any iR=false)(hl:fr.length≤320):∀k,k≤15→sj (aC fr).length (af fr k).m (af fr k).us (1099511627776*2^k) (2^k) (af fr k).all
 |0,_=>by
  have hn:=pY fr
  exact⟨by simp[af],by simp[af],fun r _=>E0 _ _,fun r _ v hv=>by simpa using EZ hv,by omega,by decide,by decide⟩
 |k+1,hk=>by
  have ih:=lU h hl k (by omega)
  have hn:=pY fr
  have Ir:=gJ fr (k+1)
  have Ih:(2:Int)^(k+1)=2*2^k:=by rw[Int.pow_succ];omega
  have bO:(2:Int)^k≤16384:=by
   have:(2:Int)^k≤2^14:=by exact_mod_cast Nat.pow_le_pow_right (by omega) (show k≤14 by omega)
   simpa using this
  have Xn:(1:Int)≤2^k:=by exact_mod_cast Nat.one_le_two_pow
  have A3:∀j,j<(av (af fr k).all).length→Jy (af fr k).m (1099511627776*2^k) ((av (af fr k).all).getD j default).1∧Jy (af fr k).m (1099511627776*2^k) ((av (af fr k).all).getD j default).2:=by
   intro j hj
   obtain⟨⟨y,h1,e1,e2⟩,z,h2,e3,e4⟩:=q6 (Gh hj)
   have a:=ih.items y h1
   have b:=ih.items z h2
   unfold Jy at*
   rw[←e1,←e2,←e3,←e4]
   exact⟨a,b⟩
  have Ur:(aC fr).length≤(af fr k).m:=by
   clear ih A3 Ir Ih bO Xn hk
   induction k with
   |zero=>exact Nat.le_refl _
   |succ k ih=>simp only[af,Row.next];omega
  refine⟨by omega,?_,?_,?_,by omega,by rw[Ih];omega,by rw[Ih];omega⟩
  ·intro x hx
   simp only[af,Row.next,List.mem_append,List.mem_map]at hx
   rcases hx with⟨y,hy,rfl⟩|hx
   ·obtain⟨j,hj,rfl⟩:=List.getElem_of_mem hy
    have rp:j<(av (af fr k).all).length:=by simpa[aY]using hj
    obtain⟨⟨_,a1,a2⟩,⟨_,b1,b2⟩⟩:=A3 j rp
    simp only[List.getD_eq_getElem?_getD,List.getElem?_eq_getElem rp,Option.getD_some]at a1 a2 b1 b2
    simp only[Qm,aY,List.getElem_mapIdx,Jy,af,Row.next]
    refine⟨by omega,by omega,by rw[Ih];omega⟩
   ·obtain⟨h1,h2,h3⟩:=OX h hx
    refine⟨?_,h2,by rw[Ih];omega⟩
    simp only[af,Row.next];omega
  ·intro r hr
   simp only[af,Row.next]at hr⊢
   split
   ·exact ih.ul r ‹_›
   ·obtain⟨⟨a,_⟩,⟨b,_⟩⟩:=A3 (r-(af fr k).m) (by omega)
    simp only[yO,List.length_zipWith,ih.ul _ a,ih.ul _ b,Nat.min_self]
  ·intro r hr v hv
   simp only[af,Row.next]at hr hv
   split at hv
   ·have:=ih.uv r ‹_› v hv
    rw[Ih];omega
   ·obtain⟨⟨a,_⟩,⟨b,_⟩⟩:=A3 (r-(af fr k).m) (by omega)
    obtain⟨x,hx,y,hy,rfl⟩:=yW hv
    have:=ih.uv _ a x hx
    have:=ih.uv _ b y hy
    rw[Ih];omega
theorem Jm (used:List Nat)(uv:List Int)(out:List Int):(oS used uv out).length=out.length:=by
 unfold oS
 generalize used.zip uv=l
 induction l generalizing out with
 |nil=>rfl
 |cons p l ih=>rw[List.foldl_cons,ih];simp
theorem s9 (fr:List Int)(r:Row)(t:List It):(rM fr r t).length=fr.length:=by
 unfold rM
 suffices h:∀o:List Int,(t.foldl (fun o x=>oS (aC fr) (r.us x.u) o) o).length=o.length by rw[h];simp
 induction t with
 |nil=>intro o;rfl
 |cons x t ih=>intro o;rw[List.foldl_cons,ih,Jm]
theorem tz (fr:List Int)(K:Nat):(bq fr K).length=fr.length:=by
 unfold bq;split<;>simp[s9]
theorem wC {fr:List Int}(K:Nat)(h:(aC fr).length=0):bq fr K=List.replicate fr.length 0:=by
 unfold bq;rw[h];rfl
theorem zY {fr:List Int}(K:Nat)(h:(aC fr).length=1):bq fr K=(List.replicate fr.length 0).set ((aC fr).getD 0 0) 1:=by
 unfold bq;rw[h];rfl
theorem tw {fr:List Int}(K:Nat)(h:2≤(aC fr).length):bq fr K=rM fr (af fr K) ((dJ (af fr K).all.length (dx (af fr K).all)).take (2*(aC fr).length-2)):=by
 unfold bq
 split
 ·omega
 ·omega
 ·rfl
theorem DU (fr:List Int)(k:Nat):(aC fr).length≤(af fr k).m:=by
 induction k with
 |zero=>exact Nat.le_refl _
 |succ k ih=>simp only[af,Row.next];omega
theorem m8 {fr:List Int}{k:Nat}(h:k<(aC fr).length):(cr fr).getD k default=⟨fr.getD ((aC fr).getD k 0) 0,0,k⟩:=by
 simp[cr,List.getD_eq_getElem?_getD,h]
theorem Eb {lv:List It}{r:Row}{j:Nat}(h:j<(av r.all).length):(r.next lv).all.getD j default=Qm r.m ((aY (av r.all)).getD j default):=by
 have h':j<(aY (av r.all)).length:=by rw[cJ];exact h
 simp[Row.next,List.getD_eq_getElem?_getD,List.getElem?_append_left,h']
theorem Ec {lv:List It}{r:Row}{j:Nat}(h:(av r.all).length≤j):(r.next lv).all.getD j default=lv.getD (j-(av r.all).length) default:=by
 simp[Row.next,List.getD_eq_getElem?_getD,List.getElem?_append_right,cJ,h]
def AU (used:List Nat)(uv:List Int)(k:Nat)(out:List Int):List Int:=((used.zip uv).take k).foldl (fun o p=>o.set p.1 ((o.getD p.1 0+p.2%256)%256)) out
theorem GD {used:List Nat}{uv:List Int}{k:Nat}(out:List Int)(h1:k<used.length)(h2:k<uv.length):
 AU used uv (k+1) out=(AU used uv k out).set (used.getD k 0) (((AU used uv k out).getD (used.getD k 0) 0+uv.getD k 0%256)%256):=by
 have hk:k<(used.zip uv).length:=by simp;omega
 unfold AU
 rw[List.take_succ_eq_append_getElem hk,List.foldl_append,List.getElem_zip]
 simp[List.getD_eq_getElem?_getD,h1,h2]
theorem Jn {used:List Nat}{uv:List Int}{k:Nat}(out:List Int)(h1:used.length≤k):AU used uv k out=oS used uv out:=by
 unfold AU oS
 rw[List.take_of_length_le (by simp;omega)]
theorem qk (fr:List Int)(r:Row)(t:List It)(x:It):rM fr r (t++[x])=oS (aC fr) (r.us x.u) (rM fr r t):=by
 unfold rM;rw[List.foldl_append];rfl
end Go.Proofs.Ytibadaomjlkoaaa
open Go.RowKit
namespace Go.Proofs.Ytibadaomjlkoaaa
set_option maxRecDepth 10000
def upto (fr:List Int)(i:Nat):List Nat:=(List.range i).filter fun j=>decide (0<fr.getD j 0)
theorem vB (fr:List Int)(i:Nat):upto fr (i+1)=if 0<fr.getD i 0 then upto fr i++[i]else upto fr i:=by
 unfold upto
 rw[List.range_succ,List.filter_append]
 by_cases h:0<fr.getD i 0
 ·rw[if_pos h,List.filter_cons_of_pos (by simpa using h)];simp
 ·rw[if_neg h,List.filter_cons_of_neg (by simpa using h)];simp
theorem GS (fr:List Int)(i:Nat):(upto fr i).length≤i:=by
 unfold upto;exact Nat.le_trans (List.length_filter_le _ _) (by simp)
theorem Fo (K:Nat)(h:K≤15):bC .i64 1 (K:Int)=((2^K:Nat):Int):=by
 have:∀K,K<16→bC .i64 1 ((K:Nat):Int)=((2^K:Nat):Int):=by decide
 exact this K (by omega)
section
variable{fr:List Int}{c c0:Nat}{Kp:AV→AH→Prop}
theorem x5 {limit:Int}(hl:fr.length≤2000):aa Try.prog 46 [.sl 0 0 0 fr.length c0,.int .i64 limit] [.one false 0 (.ints .i64 fr c)]
 (fun r M=>∃g' c',r=.aG [.sl 1 g' 0 (bh fr limit).1.length c',.int .i64 (bh fr limit).2]∧M=[.one false 0 (.ints .i64 fr c),.one true g' (.ints .u8 (bh fr limit).1 c')]∧(bh fr limit).1.length≤c') Kp:=by
 have bad:vh fr limit=true→bh fr limit=([],1):=fun h=>by unfold bh;rw[if_pos h]
 refine aa.dc ?_
 refine aa.eU ?_
 refine Oi (fun _=>[0]) [] rfl ?_
 refine Qs ?_
 refine And.intro (fun b1=>?_) (fun b1=>?_)
 ·have e:=bad (by unfold vh;rw[b1];rfl)
  refine Qs ?_
  refine⟨_,_,Vw.canon (x:=.ints .u8 [] 0) ⟨rfl,rfl⟩ (bM (nx (bM (by simp only[gz];exact .inr rfl) (bM (iO _ _) (eO _)))) (eO _)),[.eZ 0,.own 1],.aG [.sl 1 0 0 0 0,.int .i64 1],[.one false 0 (.ints .i64 fr c),.one true 0 (.ints .u8 [] 0)],⟨⟨⟨rfl,_,rfl,rfl⟩,⟨rfl,rfl⟩,trivial⟩,rfl,⟨trivial,trivial,trivial⟩,rfl,?_⟩,?_⟩
  ·intro i hi
   match i,hi with
   |0,_=>exact .inr rfl
  ·rw[e]
   exact⟨0,0,rfl,rfl,Nat.le_refl _⟩
 refine Qs ?_
 refine And.intro (fun b2=>?_) (fun b2=>?_)
 ·have e:=bad (by unfold vh;rw[b2];simp)
  refine Qs ?_
  refine⟨_,_,Vw.canon (x:=.ints .u8 [] 0) ⟨rfl,rfl⟩ (bM (nx (bM (by simp only[gz];exact .inr rfl) (bM (iO _ _) (eO _)))) (eO _)),[.eZ 0,.own 1],.aG [.sl 1 0 0 0 0,.int .i64 1],[.one false 0 (.ints .i64 fr c),.one true 0 (.ints .u8 [] 0)],⟨⟨⟨rfl,_,rfl,rfl⟩,⟨rfl,rfl⟩,trivial⟩,rfl,⟨trivial,trivial,trivial⟩,rfl,?_⟩,?_⟩
  ·intro i hi
   match i,hi with
   |0,_=>exact .inr rfl
  ·rw[e]
   exact⟨0,0,rfl,rfl,Nat.le_refl _⟩
 refine Qs ?_
 refine And.intro (fun b3=>?_) (fun b3=>?_)
 ·have ZC:(320:Int)<fr.length:=by simpa using b3
  have e:=bad (by unfold vh;rw[show decide (320<fr.length)=true by rw[decide_eq_true_eq];omega];simp)
  refine Qs ?_
  refine⟨_,_,Vw.canon (x:=.ints .u8 [] 0) ⟨rfl,rfl⟩ (bM (nx (bM (by simp only[gz];exact .inr rfl) (bM (iO _ _) (eO _)))) (eO _)),[.eZ 0,.own 1],.aG [.sl 1 0 0 0 0,.int .i64 1],[.one false 0 (.ints .i64 fr c),.one true 0 (.ints .u8 [] 0)],⟨⟨⟨rfl,_,rfl,rfl⟩,⟨rfl,rfl⟩,trivial⟩,rfl,⟨trivial,trivial,trivial⟩,rfl,?_⟩,?_⟩
  ·intro i hi
   match i,hi with
   |0,_=>exact .inr rfl
  ·rw[e]
   exact⟨0,0,rfl,rfl,Nat.le_refl _⟩
 have ZC:¬(320:Int)<fr.length:=by simpa using b3
 have UJ:¬limit<1:=by simpa using b1
 have b2':¬15<limit:=by simpa using b2
 refine Qs ?_
 refine Ge (by omega) ?_
 refine Qs ?_
 refine And.intro (fun b4=>?_) (fun b4=>?_)
 ·have e:=bad (by unfold vh;rw[b4];simp)
  refine Qs ?_
  refine⟨_,_,Vw.canon (x:=.ints .u8 [] 0) ⟨rfl,rfl⟩ (bM (nx (bM (by simp only[gz];exact .inr rfl) (bM (iO _ _) (eO _)))) (eO _)),[.eZ 0,.own 1],.aG [.sl 1 0 0 0 0,.int .i64 1],[.one false 0 (.ints .i64 fr c),.one true 0 (.ints .u8 [] 0)],⟨⟨⟨rfl,_,rfl,rfl⟩,⟨rfl,rfl⟩,trivial⟩,rfl,⟨trivial,trivial,trivial⟩,rfl,?_⟩,?_⟩
  ·intro i hi
   match i,hi with
   |0,_=>exact .inr rfl
  ·rw[e]
   exact⟨0,0,rfl,rfl,Nat.le_refl _⟩
 have Ex:vh fr limit=false:=by
  unfold vh
  rw[b1,b2,b4,show decide (320<fr.length)=false by rw[decide_eq_false_iff_not];omega];rfl
 refine Rs ?_
 refine WO.Mf (σ:=Nat×Nat×Nat×List Int) (fun(i,g,cc,ys)=>i≤fr.length∧ys.length≤cc∧ys=(upto fr i).map Int.ofNat) (fun(i,_,_,_)=>fr.length-i)
  (fun(i,g,cc,ys)=>[(0,.sl 0 0 0 fr.length c0),(1,.int .i64 limit),(6,.sl 1 0 0 fr.length fr.length),(7,.sl 2 g 0 ys.length cc),(38,.sl 0 0 0 fr.length c0),(39,.int .i64 fr.length),(40,.int .i64 (i:Int))])
  (fun(i,g,cc,ys)=>[.one false 0 (.ints .i64 fr c),.one true 0 (.ints .u8 (List.replicate fr.length 0) fr.length),.one true g (.ints .i64 ys cc)]) (0,0,0,[]) ag mixed (by kernel_rfl)
  [(0,.sl 0 0 0 fr.length c0),(1,.int .i64 limit),(6,.sl 1 0 0 fr.length fr.length),(7,.ns),(38,.sl 0 0 0 fr.length c0),(39,.int .i64 fr.length),(40,.int .i64 0)] _ ⟨Nat.zero_le _,Nat.zero_le _,rfl⟩ (aI rfl (aI rfl (aI rfl (aI rfl (aI rfl (aI rfl (aI rfl (trivial)))))))) rfl (Vw.xU (x:=.ints .i64 [] 0) ⟨rfl,rfl⟩ ?_) (aI rfl (aI rfl (aI rfl (trivial)))) (fun _=>rfl) (fun _=>rfl) (fun _=>⟨trivial,trivial,trivial,trivial⟩) ?_
 ·exact And.intro (.inl rfl) (And.intro (.inl rfl) (And.intro (.inl rfl) (And.intro (.inr ⟨rfl,rfl⟩) (And.intro (.inl rfl) (And.intro (.inl rfl) (And.intro (.inl rfl) trivial))))))
 rintro⟨i,g,cc,ys⟩ ⟨h1,h2,h3⟩ d
 have ZP:ys.length≤i:=by rw[h3,List.length_map];exact GS fr i
 refine Rs ?_
 refine And.intro (fun hc=>?_) (fun hc=>?_)
 ·simp only[decide_eq_true_eq]at hc
  refine Rs ?_
  refine And.intro (fun hb=>?_) (fun hb=>?_)
  ·have B1:0<fr.getD i 0:=by simpa using hb
   refine Rs ?_
   intro zs e9
   obtain rfl:zs=[(i:Int)]:=by rw[e9];rfl
   refine Rs ?_
   intro c1 tW
   refine Rs ?_
   refine RO.same (i+1,g+1,c1,ys++[(i:Int)]) ⟨by omega,by simpa using tW,by rw[vB,if_pos B1,h3];simp⟩ (show fr.length-(i+1)<fr.length-i by omega) (And.intro rfl (And.intro rfl (And.intro rfl (And.intro ?_ (And.intro rfl (And.intro rfl (And.intro rfl trivial))))))) (aI rfl (aI rfl (aI rfl (trivial))))
   show AV.sl 2 (g+1) 0 (ys.length+1) c1=AV.sl 2 (g+1) 0 (ys++[(i:Int)]).length c1
   rw[List.length_append];rfl
  ·have B1:¬0<fr.getD i 0:=by simpa using hb
   refine Rs ?_
   refine RO.same (i+1,g,cc,ys) ⟨by omega,h2,by rw[vB,if_neg B1];exact h3⟩ (show fr.length-(i+1)<fr.length-i by omega) (aI rfl (aI rfl (aI rfl (aI rfl (aI rfl (aI rfl (aI rfl (trivial)))))))) (aI rfl (aI rfl (aI rfl (trivial))))
 ·simp only[decide_eq_false_iff_not]at hc
  obtain rfl:i=fr.length:=by omega
  have hu:ys=(aC fr).map Int.ofNat:=h3
  have Es:=pY fr
  have Yd:ys.length=(aC fr).length:=by rw[hu,List.length_map]
  clear h3
  obtain⟨K,rfl⟩:∃K:Nat,limit=(K:Int):=⟨limit.toNat,by omega⟩
  have GI:bC .i64 1 (K:Int)=((2^K:Nat):Int):=Fo K (by omega)
  have Xy:bh fr (K:Int)=if 2^K<(aC fr).length then([],60)else(bq fr K,0):=by
   unfold bh;rw[Ex];simp
  refine Qs ?_
  refine And.intro (fun b5=>?_) (fun b5=>?_)
  ·have ZB:bC .i64 1 (K:Int)<ys.length:=by simpa using b5
   have e:bh fr (K:Int)=([],60):=by rw[Xy,if_pos (by omega)]
   refine Qs ?_
   refine⟨_,_,Vw.canon (x:=.ints .u8 [] 0) ⟨rfl,rfl⟩ (bM (nx (bM (by simp only[gz];exact .inr rfl) (bM (iO _ _) (eO _)))) (eO _)),[.eZ 0,.own 3],.aG [.sl 1 0 0 0 0,.int .i64 60],[.one false 0 (.ints .i64 fr c),.one true 0 (.ints .u8 [] 0)],⟨⟨⟨rfl,_,rfl,rfl⟩,⟨rfl,rfl⟩,trivial⟩,rfl,⟨trivial,trivial,trivial⟩,rfl,?_⟩,?_⟩
   ·intro i hi
    match i,hi with
    |0,_=>exact .inr rfl
   ·rw[e]
    exact⟨0,0,rfl,rfl,Nat.le_refl _⟩
  have ZB:¬bC .i64 1 (K:Int)<ys.length:=by simpa using b5
  have VO:bh fr (K:Int)=(bq fr K,0):=by rw[Xy,if_neg (by omega)]
  refine Qs ?_
  have U2:∀k,k<ys.length→ys.getD k 0=((aC fr).getD k 0:Int)∧(aC fr).getD k 0<fr.length:=by
   intro k hk
   have mf:k<(aC fr).length:=by omega
   refine⟨?_,(fw (gX mf)).1⟩
   rw[hu];simp[List.getD_eq_getElem?_getD,mf]
  have rQ:∀X1:List Int,bq fr K=X1→∃g' c',AV.aG [.sl 1 0 0 fr.length fr.length,.int .i64 0]=.aG [.sl 1 g' 0 (bh fr (K:Int)).1.length c',.int .i64 (bh fr (K:Int)).2]∧[AO.one false 0 (.ints .i64 fr c),AO.one true 0 (.ints .u8 X1 fr.length)]=[.one false 0 (.ints .i64 fr c),.one true g' (.ints .u8 (bh fr (K:Int)).1 c')]∧(bh fr (K:Int)).1.length≤c':=by
   rintro _ rfl
   rw[VO]
   exact⟨0,fr.length,by simp only[tz],rfl,by simp only[tz];exact Nat.le_refl _⟩
  refine And.intro (fun b6=>?_) (fun b6=>?_)
  ·have ZA:(ys.length:Int)=1:=by simpa using b6
   have YG:=U2 0 (by omega)
   have A6:0≤ys.getD (Int.toNat 0+0) 0∧ys.getD (Int.toNat 0+0) 0<fr.length:=by
    show 0≤ys.getD 0 0∧ys.getD 0 0<fr.length
    omega
   have ov:(List.replicate fr.length (0:Int)).length=fr.length:=by simp
   refine Qs ?_
   refine⟨_,_,Vw.refl _ _,[.eZ 0,.own 1],.aG [.sl 1 0 0 fr.length fr.length,.int .i64 0],[.one false 0 (.ints .i64 fr c),.one true 0 (.ints .u8 ((List.replicate fr.length (0:Int)).set ((ys.getD (Int.toNat 0+0) 0).toNat+0) 1) fr.length)],⟨⟨⟨rfl,_,rfl,rfl⟩,⟨rfl,rfl⟩,trivial⟩,rfl,⟨trivial,trivial,trivial⟩,rfl,?_⟩,rQ _ ?_⟩
   ·intro i hi
    match i,hi with
    |0,_=>exact .inr rfl
   rw[zY K (by omega)]
   show _=(List.replicate fr.length 0).set ((ys.getD 0 0).toNat+0) 1
   rw[YG.1,Int.toNat_natCast,Nat.add_zero]
  have ZA:¬(ys.length:Int)=1:=by simpa using b6
  refine Qs ?_
  refine And.intro (fun b7=>?_) (fun b7=>?_)
  ·have Zz:(ys.length:Int)=0:=by simpa using b7
   refine Qs ?_
   refine⟨_,_,Vw.refl _ _,[.eZ 0,.own 1],.aG [.sl 1 0 0 fr.length fr.length,.int .i64 0],[.one false 0 (.ints .i64 fr c),.one true 0 (.ints .u8 (List.replicate fr.length (0:Int)) fr.length)],⟨⟨⟨rfl,_,rfl,rfl⟩,⟨rfl,rfl⟩,trivial⟩,rfl,⟨trivial,trivial,trivial⟩,rfl,?_⟩,rQ _ ?_⟩
   ·intro i hi
    match i,hi with
    |0,_=>exact .inr rfl
   exact wC K (by omega)
  have Zz:¬(ys.length:Int)=0:=by simpa using b7
  have hn:(aC fr).length=ys.length:=Yd.symm
  have ZY:(cr fr).length=ys.length:=by rw[Ei,hn]
  have hU0:ys.length≤320:=by omega
  refine Rs ?_
  refine WO.Mf (σ:=Nat×Nat×Nat) (fun(k,gL,cL)=>k≤ys.length∧((cr fr).take k).length≤cL) (fun(k,_,_)=>ys.length-k)
   (fun(k,gL,cL)=>[(0,.sl 0 0 0 fr.length c0),(1,.int .i64 K),(6,.sl 1 0 0 fr.length fr.length),(7,.sl 2 g 0 ys.length cc),(11,.sl 4 gL 0 ((cr fr).take k).length cL),(12,.ns),(72,.sl 2 g 0 ys.length cc),(73,.int .i64 ys.length),(74,.int .i64 (k:Int))])
   (fun(k,gL,cL)=>[.one false 0 (.ints .i64 fr c),.one true 0 (.ints .u8 (List.replicate fr.length 0) fr.length),.one true g (.ints .i64 ys cc),.bu false k (uF (jF ys.length) (fun _=>ys.length)),aO 3 ys.length (fun _=>ys.length) gL cL ((cr fr).take k)]) (0,0,0) ag mixed (by kernel_rfl)
   [(0,.sl 0 0 0 fr.length c0),(1,.int .i64 K),(6,.sl 1 0 0 fr.length fr.length),(7,.sl 2 g 0 ys.length cc),(11,.ns),(12,.ns),(72,.sl 2 g 0 ys.length cc),(73,.int .i64 ys.length),(74,.int .i64 0)] _ ⟨Nat.zero_le _,Nat.zero_le _⟩ (aI rfl (aI rfl (aI rfl (aI rfl (aI rfl (aI rfl (aI rfl (aI rfl (aI rfl (trivial)))))))))) rfl
   (Vw.trans (Vw.SP (own:=false) (f:=uF (jF ys.length) (fun _=>ys.length))) (Vw.xU (x:=.cI 3 ((cr fr).take 0).length (gU 3 ys.length (fun _=>ys.length) ((cr fr).take 0)) 0) ⟨rfl,rfl⟩ ?_)) (aI rfl (aI rfl (aI rfl (aI rfl (aI rfl (trivial)))))) (fun _=>rfl) (fun _=>rfl) (fun _=>⟨trivial,trivial,trivial,fun _=>trivial,fun _=>rfl,trivial⟩) ?_
  ·exact And.intro (.inl rfl) (And.intro (.inl rfl) (And.intro (.inl rfl) (And.intro (.inl rfl) (And.intro (.inr ⟨rfl,rfl⟩) (And.intro (.inl rfl) (And.intro (.inl rfl) (And.intro (.inl rfl) (And.intro (.inl rfl) trivial))))))))
  rintro⟨k,gL,cL⟩ ⟨k1,k2⟩ d
  have RG:((cr fr).take k).length=k:=by rw[List.length_take];omega
  refine Rs ?_
  refine And.intro (fun hc=>?_) (fun hc=>?_)
  ·simp only[decide_eq_true_eq]at hc
   obtain⟨y1,y2⟩:=U2 k (by omega)
   have y3:ys.getD ((k:Int).toNat+0) 0=((aC fr).getD k 0:Int):=by rw[Int.toNat_natCast,Nat.add_zero];exact y1
   have y4:0≤ys.getD ((k:Int).toNat+0) 0∧ys.getD ((k:Int).toNat+0) 0<fr.length:=by omega
   refine Rs ?_
   refine And.intro ?_ ?_
   ·refine Rs ?_
    refine And.intro (fun q hq=>?_) ?_
    ·match q,hq with
     |0,_=>exact⟨rfl,rfl⟩
    refine And.intro ⟨by show((cr fr).take k).length+1≤_;omega,by show(((cr fr).take k).length+1)*40≤_;omega⟩ ?_
    refine Exists.intro (fun q=>if q<k then gU 3 ys.length (fun _=>ys.length) ((cr fr).take k) q else[.int .i64 (fr.getD ((ys.getD ((k:Int).toNat+0) 0).toNat+0) 0),.int .i64 0,.sl 5 0 0 (ys.length:Int).toNat (ys.length:Int).toNat]) (And.intro (fun q hq=>?_) (fun c1 tW=>?_))
    ·by_cases Ig:q<((cr fr).take k).length
     ·rw[if_pos Ig]
      show(if q<k then _ else _)=_
      rw[if_pos (by omega)]
     ·have A2:q<((cr fr).take k).length+1:=hq
      have eI:q-((cr fr).take k).length=0:=by omega
      rw[if_neg Ig,eI]
      show(if q<k then _ else _)=_
      rw[if_neg (by omega)]
      rfl
    have B0:((cr fr).take k).length+1≤c1:=tW
    have el:((cr fr).take (k+1)).length=((cr fr).take k).length+1:=by rw[List.length_take,List.length_take];omega
    refine Rs ?_
    refine RO.mk (k+1,gL+1,c1) [(0,.sl 0 0 0 fr.length c0),(1,.int .i64 K),(6,.sl 1 0 0 fr.length fr.length),(7,.sl 2 g 0 ys.length cc),(11,.sl 4 (gL+1) 0 (((cr fr).take k).length+1) c1),(12,.ns),(72,.sl 2 g 0 ys.length cc),(73,.int .i64 ys.length),(74,.int .i64 ((k:Int)+1))] _ ⟨by omega,by rw[el];exact B0⟩ (show ys.length-(k+1)<ys.length-k by omega) (aI rfl (aI rfl (aI rfl (aI rfl (aI rfl (aI rfl (aI rfl (aI rfl (aI rfl (trivial)))))))))) rfl
     (Vw.freeze (iu:=3) (k:=5) (o:=4) (uF (jF ys.length) (fun _=>ys.length)) (gU 3 ys.length (fun _=>ys.length) ((cr fr).take (k+1))) rfl rfl rfl rfl (fun _ _=>rfl) rfl ?_ ?_) ?_
    ·intro r hr
     have Ev:r<((cr fr).take k).length+1:=hr
     show AV.iW _ (mz 3 ys.length _ (((cr fr).take (k+1)).getD r default))=(if r<k then _ else _)
     by_cases ov:r<k
     ·rw[if_pos ov]
      have e1:((cr fr).take (k+1)).getD r default=(cr fr).getD r default:=by simp only[List.getD_eq_getElem?_getD,List.getElem?_take,if_pos (show r<k+1 by omega)]
      have e2:((cr fr).take k).getD r default=(cr fr).getD r default:=by simp only[List.getD_eq_getElem?_getD,List.getElem?_take,if_pos ov]
      show _=[AV.int .i64 (((cr fr).take k).getD r default).w,AV.int .i64 (((cr fr).take k).getD r default).k,AV.sl 3 (((cr fr).take k).getD r default).u 0 ys.length ys.length]
      rw[e1,e2,m8 (by omega)]
      simp only[AV.iW,AV.rm,bK (show¬(3=3∧r=k) by omega)]
     ·have Vj:r=k:=by omega
      subst Vj
      have e1:((cr fr).take (r+1)).getD r default=(cr fr).getD r default:=by simp only[List.getD_eq_getElem?_getD,List.getElem?_take,if_pos (show r<r+1 by omega)]
      rw[if_neg ov,e1,m8 (by omega),y3]
      simp only[AV.iW,AV.rm,gM,Int.toNat_natCast,Nat.add_zero]
    ·show AV.iW _ [AV.sl 0 0 0 fr.length c0,.int .i64 K,.sl 1 0 0 fr.length fr.length,.sl 2 g 0 ys.length cc,.sl 4 (gL+1) 0 ((cr fr).take (k+1)).length c1,.ns,.sl 2 g 0 ys.length cc,.int .i64 ys.length,.int .i64 ((k:Int)+1)]=[AV.sl 0 0 0 fr.length c0,.int .i64 K,.sl 1 0 0 fr.length fr.length,.sl 2 g 0 ys.length cc,.sl 4 (gL+1) 0 (((cr fr).take k).length+1) c1,.ns,.sl 2 g 0 ys.length cc,.int .i64 ys.length,.int .i64 ((k:Int)+1)]
     rw[el]
     rfl
    ·refine And.intro rfl (And.intro rfl (And.intro rfl (And.intro rfl (And.intro ?_ trivial))))
     show aO 3 ys.length _ (gL+1) c1 ((cr fr).take (k+1))=AO.one true (gL+1) (.cI 3 (((cr fr).take k).length+1) _ c1)
     unfold aO
     rw[el]
   ·refine Rs ?_
    refine And.intro (fun q hq=>?_) ?_
    ·match q,hq with
     |0,_=>exact⟨rfl,rfl⟩
    refine And.intro ⟨by show((cr fr).take k).length+1≤_;omega,by show(((cr fr).take k).length+1)*40≤_;omega⟩ ?_
    refine Exists.intro (fun q=>if q<k then gU 3 ys.length (fun _=>ys.length) ((cr fr).take k) q else[.int .i64 (fr.getD ((ys.getD ((k:Int).toNat+0) 0).toNat+0) 0),.int .i64 0,.sl 6 0 0 (ys.length:Int).toNat (ys.length:Int).toNat]) (And.intro (fun q hq=>?_) (fun c1 tW=>?_))
    ·by_cases Ig:q<((cr fr).take k).length
     ·rw[if_pos Ig]
      show(if q<k then _ else _)=_
      rw[if_pos (by omega)]
     ·have A2:q<((cr fr).take k).length+1:=hq
      have eI:q-((cr fr).take k).length=0:=by omega
      rw[if_neg Ig,eI]
      show(if q<k then _ else _)=_
      rw[if_neg (by omega)]
      rfl
    have B0:((cr fr).take k).length+1≤c1:=tW
    have el:((cr fr).take (k+1)).length=((cr fr).take k).length+1:=by rw[List.length_take,List.length_take];omega
    refine Rs ?_
    refine RO.mk (k+1,gL+1,c1) [(0,.sl 0 0 0 fr.length c0),(1,.int .i64 K),(6,.sl 1 0 0 fr.length fr.length),(7,.sl 2 g 0 ys.length cc),(11,.sl 4 (gL+1) 0 (((cr fr).take k).length+1) c1),(12,.ns),(72,.sl 2 g 0 ys.length cc),(73,.int .i64 ys.length),(74,.int .i64 ((k:Int)+1))] _ ⟨by omega,by rw[el];exact B0⟩ (show ys.length-(k+1)<ys.length-k by omega) (aI rfl (aI rfl (aI rfl (aI rfl (aI rfl (aI rfl (aI rfl (aI rfl (aI rfl (trivial)))))))))) rfl
     (Vw.freeze (iu:=3) (k:=6) (o:=4) (uF (jF ys.length) (fun _=>ys.length)) (gU 3 ys.length (fun _=>ys.length) ((cr fr).take (k+1))) rfl rfl rfl rfl (fun _ _=>rfl) rfl ?_ ?_) ?_
    ·intro r hr
     have Ev:r<((cr fr).take k).length+1:=hr
     show AV.iW _ (mz 3 ys.length _ (((cr fr).take (k+1)).getD r default))=(if r<k then _ else _)
     by_cases ov:r<k
     ·rw[if_pos ov]
      have e1:((cr fr).take (k+1)).getD r default=(cr fr).getD r default:=by simp only[List.getD_eq_getElem?_getD,List.getElem?_take,if_pos (show r<k+1 by omega)]
      have e2:((cr fr).take k).getD r default=(cr fr).getD r default:=by simp only[List.getD_eq_getElem?_getD,List.getElem?_take,if_pos ov]
      show _=[AV.int .i64 (((cr fr).take k).getD r default).w,AV.int .i64 (((cr fr).take k).getD r default).k,AV.sl 3 (((cr fr).take k).getD r default).u 0 ys.length ys.length]
      rw[e1,e2,m8 (by omega)]
      simp only[AV.iW,AV.rm,bK (show¬(3=3∧r=k) by omega)]
     ·have Vj:r=k:=by omega
      subst Vj
      have e1:((cr fr).take (r+1)).getD r default=(cr fr).getD r default:=by simp only[List.getD_eq_getElem?_getD,List.getElem?_take,if_pos (show r<r+1 by omega)]
      rw[if_neg ov,e1,m8 (by omega),y3]
      simp only[AV.iW,AV.rm,gM,Int.toNat_natCast,Nat.add_zero]
    ·show AV.iW _ [AV.sl 0 0 0 fr.length c0,.int .i64 K,.sl 1 0 0 fr.length fr.length,.sl 2 g 0 ys.length cc,.sl 4 (gL+1) 0 ((cr fr).take (k+1)).length c1,.ns,.sl 2 g 0 ys.length cc,.int .i64 ys.length,.int .i64 ((k:Int)+1)]=[AV.sl 0 0 0 fr.length c0,.int .i64 K,.sl 1 0 0 fr.length fr.length,.sl 2 g 0 ys.length cc,.sl 4 (gL+1) 0 (((cr fr).take k).length+1) c1,.ns,.sl 2 g 0 ys.length cc,.int .i64 ys.length,.int .i64 ((k:Int)+1)]
     rw[el]
     rfl
    ·refine And.intro rfl (And.intro rfl (And.intro rfl (And.intro rfl (And.intro ?_ trivial))))
     show aO 3 ys.length _ (gL+1) c1 ((cr fr).take (k+1))=AO.one true (gL+1) (.cI 3 (((cr fr).take k).length+1) _ c1)
     unfold aO
     rw[el]
  ·simp only[decide_eq_false_iff_not]at hc
   have Sb:k=ys.length:=by omega
   have lK:(cr fr).take k=cr fr:=List.take_of_length_le (by omega)
   rw[lK]at k2 RG
   subst Sb
   refine Rs ?_
   refine WO.Mf (σ:=Nat×Nat×Nat×(Nat→Nat)) (fun(k,gA,cA,cu)=>k≤K∧(af fr k).all.length≤cA∧∀r,r<ys.length→cu r=ys.length) (fun(k,_,_,_)=>K-k)
    (fun(k,gA,cA,cu)=>[(6,.sl 1 0 0 fr.length fr.length),(7,.sl 2 g 0 ys.length cc),(11,.sl 4 gL 0 (cr fr).length cL),(12,.sl 5 gA 0 (af fr k).all.length cA),(96,.int .i64 K),(97,.int .i64 (k:Int))])
    (fun(k,gA,cA,cu)=>[.one false 0 (.ints .i64 fr c),.one true 0 (.ints .u8 (List.replicate fr.length 0) fr.length),.one true g (.ints .i64 ys cc),.bu false (af fr k).m (uF (af fr k).us cu),aO 3 ys.length (fun _=>ys.length) gL cL (cr fr),aO 3 ys.length cu gA cA (af fr k).all]) (0,0,0,fun _=>ys.length) ag mixed (by kernel_rfl)
    [(6,.sl 1 0 0 fr.length fr.length),(7,.sl 2 g 0 ys.length cc),(11,.sl 4 gL 0 ((cr fr).take ys.length).length cL),(12,.ns),(96,.int .i64 K),(97,.int .i64 0)] _ ⟨Nat.zero_le _,Nat.zero_le _,fun _ _=>rfl⟩ (aI rfl (aI rfl (aI rfl (aI rfl (aI rfl (aI rfl (trivial))))))) rfl
    (Vw.xU (x:=.cI 3 (af fr 0).all.length (gU 3 ys.length (fun _=>ys.length) (af fr 0).all) 0) ⟨rfl,rfl⟩ ?_) (And.intro rfl (And.intro rfl (And.intro rfl (And.intro ?_ (And.intro ?_ (And.intro rfl trivial)))))) (fun _=>rfl) (fun _=>rfl) (fun _=>⟨trivial,trivial,trivial,fun _=>trivial,fun _=>rfl,fun _=>rfl,trivial⟩) ?_
   ·exact And.intro (.inl rfl) (And.intro (.inl rfl) (And.intro (.inl (by show AV.sl 4 gL 0 (cr fr).length cL=AV.sl 4 gL 0 ((cr fr).take ys.length).length cL;rw[lK])) (And.intro (.inr ⟨rfl,rfl⟩) (And.intro (.inl rfl) (And.intro (.inl rfl) trivial)))))
   ·show AO.bu false (aC fr).length (uF (jF (aC fr).length) (fun _=>ys.length))=AO.bu false ys.length (uF (jF ys.length) (fun _=>ys.length))
    rw[hn]
   ·show aO 3 ys.length (fun _=>ys.length) gL cL (cr fr)=aO 3 ys.length (fun _=>ys.length) gL cL ((cr fr).take ys.length)
    rw[lK]
   rintro⟨k,gA,cA,cu⟩ ⟨r1,r2,r3⟩ d
   refine Rs ?_
   refine And.intro (fun hc=>?_) (fun hc=>?_)
   ·simp only[decide_eq_true_eq]at hc
    have aA:=lU b4 (by omega) k (by omega)
    rw[hn]at aA
    have Iq:=DU fr k
    rw[hn]at Iq
    have ov:=gJ fr k
    have Im:=cJ (av (af fr k).all)
    have bO:=kM (af fr k).all
    refine Rs ?_
    refine Hz (a:=5) (u:=3) aA rfl rfl rfl fun g' c' cv hp=>?_
    have wI:(aY (av (af fr k).all)).length≤c':=by omega
    refine Rs ?_
    refine And.intro (fun q _=>⟨rfl,rfl⟩) ?_
    refine And.intro ⟨by show(av (af fr k).all).length+(cr fr).length≤_;omega,by show((av (af fr k).all).length+(cr fr).length)*40≤_;omega⟩ ?_
    refine Exists.intro (fun q=>if q<(av (af fr k).all).length then gU 6 ys.length cv (aY (av (af fr k).all)) q else gU 3 ys.length (fun _=>ys.length) (cr fr) (q-(av (af fr k).all).length)) (And.intro (fun q hq=>rfl) (fun c1 tW=>?_))
    have B0:(av (af fr k).all).length+(cr fr).length≤c1:=tW
    have RX:(af fr (k+1)).all.length=(av (af fr k).all).length+(cr fr).length:=by simp only[af,Row.next,List.length_append,List.length_map,Im]
    refine Rs ?_
    refine RO.mk (k+1,gA+1,c1,(fun j=>if j<(af fr k).m then cu j else cv (j-(af fr k).m))) [(6,.sl 1 0 0 fr.length fr.length),(7,.sl 2 g 0 ys.length cc),(11,.sl 4 gL 0 (cr fr).length cL),(12,.sl 7 (g'+1) 0 ((av (af fr k).all).length+(cr fr).length) c1),(96,.int .i64 K),(97,.int .i64 ((k:Int)+1))] _ ⟨by omega,by rw[RX];exact B0,fun r hr=>by show(if r<(af fr k).m then cu r else cv (r-(af fr k).m))=_;rw[if_pos (by omega)];exact r3 r hr⟩ (show K-(k+1)<K-k by omega) (aI rfl (aI rfl (aI rfl (aI rfl (aI rfl (aI rfl (trivial))))))) rfl
     (Vw.trans (l':=[.sl 1 0 0 fr.length fr.length,.sl 2 g 0 ys.length cc,.sl 4 gL 0 (cr fr).length cL,.sl 7 (g'+1) 0 ((av (af fr k).all).length+(cr fr).length) c1,.int .i64 K,.int .i64 ((k:Int)+1)])
      (Vw.merge (iu:=3) (iv:=6) (o:=7) (uF (af fr (k+1)).us (fun j=>if j<(af fr k).m then cu j else cv (j-(af fr k).m))) (gU 3 ys.length (fun j=>if j<(af fr k).m then cu j else cv (j-(af fr k).m)) (af fr (k+1)).all) rfl rfl rfl rfl ?_ ?_ ?_ rfl) (Vw.move (i:=5) (k:=7) rfl rfl rfl ?_)) ?_
    ·intro r hr
     show ae.ints .i64 (if r<(af fr k).m then _ else _) (if r<(af fr k).m then _ else _)=ae.ints .i64 _ _
     rw[if_pos hr,if_pos hr]
    ·intro r hr
     show ae.ints .i64 (if(af fr k).m+r<(af fr k).m then _ else _) (if(af fr k).m+r<(af fr k).m then _ else _)=ae.ints .i64 _ _
     rw[if_neg (by omega),if_neg (by omega),Nat.add_sub_cancel_left]
    ·intro r hr
     have Ev:r<(av (af fr k).all).length+(cr fr).length:=hr
     show AV.iW _ [AV.int .i64 ((af fr (k+1)).all.getD r default).w,AV.int .i64 ((af fr (k+1)).all.getD r default).k,AV.sl 3 ((af fr (k+1)).all.getD r default).u 0 ys.length (if((af fr (k+1)).all.getD r default).u<(af fr k).m then cu ((af fr (k+1)).all.getD r default).u else cv (((af fr (k+1)).all.getD r default).u-(af fr k).m))]=(if r<(av (af fr k).all).length then _ else _)
     by_cases RL:r<(av (af fr k).all).length
     ·have e1:(af fr (k+1)).all.getD r default=Qm (af fr k).m ((aY (av (af fr k).all)).getD r default):=Eb RL
      rw[if_pos RL,e1]
      show _=[AV.int .i64 ((aY (av (af fr k).all)).getD r default).w,AV.int .i64 ((aY (av (af fr k).all)).getD r default).k,AV.sl 6 ((aY (av (af fr k).all)).getD r default).u 0 ys.length (cv ((aY (av (af fr k).all)).getD r default).u)]
      simp only[Qm,Bx RL,AV.iW,AV.rm,xO RL,if_neg (show¬(af fr k).m+r<(af fr k).m by omega),Nat.add_sub_cancel_left]
     ·have e1:(af fr (k+1)).all.getD r default=(cr fr).getD (r-(av (af fr k).all).length) default:=Ec (by omega)
      rw[if_neg RL,e1]
      show _=[AV.int .i64 ((cr fr).getD (r-(av (af fr k).all).length) default).w,AV.int .i64 ((cr fr).getD (r-(av (af fr k).all).length) default).k,AV.sl 3 ((cr fr).getD (r-(av (af fr k).all).length) default).u 0 ys.length ys.length]
      rw[m8 (by omega)]
      have RM:=r3 (r-(av (af fr k).all).length) (by omega)
      simp only[AV.iW,AV.rm,gK (show¬(3=3∧(af fr k).m≤r-(av (af fr k).all).length∧r-(av (af fr k).all).length<(af fr k).m+(av (af fr k).all).length) by omega),if_pos (show r-(av (af fr k).all).length<(af fr k).m by omega),RM]
    ·refine And.intro (.inl rfl) (And.intro (.inl rfl) (And.intro (.inl rfl) (And.intro (.inr (.inl ⟨0,(av (af fr k).all).length+(cr fr).length,c1,rfl,?_⟩)) (And.intro (.inl rfl) (And.intro (.inl rfl) trivial)))))
     show AV.sl 5 (gA+1) 0 (af fr (k+1)).all.length c1=_
     rw[RX]
    ·refine And.intro rfl (And.intro rfl (And.intro rfl (And.intro rfl (And.intro rfl (And.intro ?_ trivial)))))
     show aO 3 ys.length (fun j=>if j<(af fr k).m then cu j else cv (j-(af fr k).m)) (gA+1) c1 (af fr (k+1)).all=AO.one true (gA+1) (.cI 3 ((av (af fr k).all).length+(cr fr).length) _ c1)
     unfold aO
     rw[RX]
   ·simp only[decide_eq_false_iff_not]at hc
    have YF:k=K:=by omega
    subst YF
    have aA:=lU b4 (by omega) k (by omega)
    rw[hn]at aA
    have ov:=gJ fr k
    have Na:=kG fr (K:=k) (by omega) (by omega)
    refine Rs ?_
    refine WO.go (σ:=Nat×List It) (fun s=>s.1≤(af fr k).all.length∧s.2=eQ s.1 (af fr k).all) (fun s=>(af fr k).all.length-s.1)
     (fun s=>[(6,.sl 1 0 0 fr.length fr.length),(7,.sl 2 g 0 ys.length cc),(16,.ptr 6 0 0),(106,.int .i64 (af fr k).all.length),(107,.int .i64 (s.1:Int))])
     (fun s=>[.one false 0 (.ints .i64 fr c),.one true 0 (.ints .u8 (List.replicate fr.length 0) fr.length),.one true g (.ints .i64 ys cc),.bu false (af fr k).m (uF (af fr k).us cu),aO 3 ys.length (fun _=>ys.length) gL cL (cr fr),aO 3 ys.length cu gA cA s.2,qO 5 gA (af fr k).all.length cA]) (0,(af fr k).all) ag mixed (by kernel_rfl) ⟨Nat.zero_le _,(wj _).symm⟩ (aI rfl (aI rfl (aI rfl (aI rfl (aI rfl (trivial)))))) (aI rfl (aI rfl (aI rfl (aI rfl (aI rfl (aI rfl (aI rfl (trivial)))))))) (fun _=>rfl) (fun _=>rfl) (fun _=>⟨trivial,trivial,trivial,fun _=>trivial,fun _=>rfl,fun _=>rfl,rfl,trivial⟩) ?_
    rintro⟨i,L1⟩ ⟨h1,h2⟩ d
    simp only at h1 h2
    have JC:L1.length=(af fr k).all.length:=by rw[h2,dN]
    refine Rs ?_
    refine And.intro (fun hc=>?_) (fun hc=>?_)
    ·simp only[decide_eq_true_eq]at hc
     refine Qs ?_
     refine RO.mk (i+1,eQ (i+1) (af fr k).all) [(6,.sl 1 0 0 fr.length fr.length),(7,.sl 2 g 0 ys.length cc),(16,.ptr 6 0 0),(106,.int .i64 (af fr k).all.length),(107,.int .i64 ((i:Int)+1))] _ ⟨by show i+1≤_;omega,rfl⟩ (show(af fr k).all.length-(i+1)<(af fr k).all.length-i by omega) (aI rfl (aI rfl (aI rfl (aI rfl (aI rfl (trivial)))))) rfl (Vw.cI (i:=5) (gU 3 ys.length cu (eQ (i+1) (af fr k).all)) rfl ?_) ?_
     ·intro r hr
      rw[JC]at hr
      have:=wi (u:=3) (n:=ys.length) (cu:=cu) i (af fr k).all r hr (by omega)
      rw[this,h2]
      rfl
     ·refine And.intro rfl (And.intro rfl (And.intro rfl (And.intro rfl (And.intro rfl (And.intro ?_ (And.intro rfl trivial))))))
      show aO 3 ys.length cu gA cA (eQ (i+1) (af fr k).all)=AO.one true gA (.cI 3 L1.length (gU 3 ys.length cu (eQ (i+1) (af fr k).all)) cA)
      unfold aO
      rw[JC,dN]
    ·simp only[decide_eq_false_iff_not]at hc
     have hi:i=(af fr k).all.length:=by omega
     refine Rs ?_
     refine Em (q:=6) (a:=5) (u:=3) (L:=L1) rfl rfl rfl rfl (by omega) (by omega) (by omega) ?_
     have dz:gG (af fr k).all.length ((af fr k).all.length/2) L1=dx (af fr k).all:=by rw[h2,hi];rfl
     rw[dz]
     refine Rs ?_
     refine WO.go (σ:=Nat×List It×List It×List Int) (fun(h,Lc,ts,O)=>Lc.length=(af fr k).all.length∧h+ts.length=(af fr k).all.length∧ts++dJ h Lc=dJ (af fr k).all.length (dx (af fr k).all)∧(∀x∈Lc,x.u<(af fr k).m)∧ts.length≤2*ys.length-2∧O=rM fr (af fr k) ts) (fun(h,Lc,ts,O)=>2*ys.length-2-ts.length)
      (fun(h,Lc,ts,O)=>[(6,.sl 1 0 0 fr.length fr.length),(7,.sl 2 g 0 ys.length cc),(16,.ptr 6 0 0),(121,.int .i64 (2*(ys.length:Int)-2)),(122,.int .i64 (ts.length:Int))])
      (fun(h,Lc,ts,O)=>[.one false 0 (.ints .i64 fr c),.one true 0 (.ints .u8 O fr.length),.one true g (.ints .i64 ys cc),.bu false (af fr k).m (uF (af fr k).us cu),aO 3 ys.length (fun _=>ys.length) gL cL (cr fr),aO 3 ys.length cu gA cA Lc,qO 5 gA h cA]) ((af fr k).all.length,dx (af fr k).all,[],List.replicate fr.length 0) ag mixed (by kernel_rfl) ⟨ky _,rfl,rfl,?_,Nat.zero_le _,rfl⟩ (aI rfl (aI rfl (aI rfl (aI rfl (aI rfl (trivial)))))) (aI rfl (aI rfl (aI rfl (aI rfl (aI rfl (aI rfl (aI rfl (trivial)))))))) (fun _=>rfl) (fun _=>rfl) (fun _=>⟨trivial,trivial,trivial,fun _=>trivial,fun _=>rfl,fun _=>rfl,rfl,trivial⟩) ?_
     ·intro x hx
      obtain⟨y,hy,_,e2⟩:=sC hx
      rw[←e2];exact(aA.items y hy).1
     rintro⟨h,Lc,ts,O⟩ ⟨s1,s2,s3,s4,s5,s6⟩ d
     have Zh:O.length=fr.length:=by rw[s6,s9]
     refine Rs ?_
     refine And.intro (fun hc=>?_) (fun hc=>?_)
     ·have rr:(ts.length:Int)<2*(ys.length:Int)-2:=by simpa using hc
      obtain⟨h',rfl⟩:∃h',h=h'+1:=⟨h-1,by omega⟩
      have O9:(eA (h'+1) Lc).getD h' default∈Lc:=fU (by omega) (by omega) (jZ (by rw[dK];omega))
      generalize EI:eA (h'+1) Lc=L3
      have kq:L3.length=Lc.length:=by rw[←EI,dK]
      have Me:∀x∈L3,x.u<(af fr k).m:=fun x hx=>s4 x (fU (by omega) (by omega) (EI▸hx))
      rw[EI]at O9
      generalize hx:L3.getD h' default=x
      rw[hx]at O9
      have W9:=s4 x O9
      have ZQ:=aA.ul x.u W9
      refine Rs ?_
      refine p5 (q:=6) (a:=5) (u:=3) (h:=h') (L:=Lc) rfl rfl rfl rfl (by omega) (by omega) (by omega) (by omega) x (by rw[EI];exact hx) W9 rfl ?_
      rw[EI]
      refine Rs ?_
      refine WO.go (σ:=Nat×List Int) (fun s=>s.1≤ys.length∧s.2.length=fr.length∧s.2=AU (aC fr) ((af fr k).us x.u) s.1 O) (fun s=>ys.length-s.1)
       (fun s=>[(6,.sl 1 0 0 fr.length fr.length),(7,.sl 2 g 0 ys.length cc),(16,.ptr 6 0 0),(121,.int .i64 (2*(ys.length:Int)-2)),(122,.int .i64 (ts.length:Int)),(125,.sl 7 0 0 ys.length (cu x.u)),(126,.int .i64 ys.length),(127,.int .i64 (s.1:Int))])
       (fun s=>[.one false 0 (.ints .i64 fr c),.one true 0 (.ints .u8 s.2 fr.length),.one true g (.ints .i64 ys cc),.bu false (af fr k).m (uF (af fr k).us cu),aO 3 ys.length (fun _=>ys.length) gL cL (cr fr),aO 3 ys.length cu gA cA L3,qO 5 gA h' cA,.one false 0 (.ints .i64 ((af fr k).us x.u) (cu x.u))]) (0,O) ag mixed (by kernel_rfl) ⟨Nat.zero_le _,Zh,rfl⟩ (aI rfl (aI rfl (aI rfl (aI rfl (aI rfl (aI rfl (aI rfl (aI rfl (trivial))))))))) (aI rfl (aI rfl (aI rfl (aI rfl (aI rfl (aI rfl (aI rfl (aI rfl (trivial))))))))) (fun _=>rfl) (fun _=>rfl) (fun _=>⟨trivial,trivial,trivial,fun _=>trivial,fun _=>rfl,fun _=>rfl,rfl,trivial,trivial⟩) ?_
      rintro⟨i,O1⟩ ⟨o1,o2,o3⟩ d
      simp only at o1 o2 o3
      refine Rs ?_
      refine And.intro (fun hd=>?_) (fun hd=>?_)
      ·simp only[decide_eq_true_eq]at hd
       obtain⟨y1,y2⟩:=U2 i (by omega)
       have y3:ys.getD ((i:Int).toNat+0) 0=((aC fr).getD i 0:Int):=by rw[Int.toNat_natCast,Nat.add_zero];exact y1
       have y4:0≤ys.getD ((i:Int).toNat+0) 0∧ys.getD ((i:Int).toNat+0) 0<fr.length:=by omega
       refine Qs ?_
       refine RO.same (i+1,O1.set ((ys.getD ((i:Int).toNat+0) 0).toNat+0) ((O1.getD ((ys.getD ((i:Int).toNat+0) 0).toNat+0) 0+((af fr k).us x.u).getD ((i:Int).toNat+0) 0%256)%256)) ⟨by show i+1≤_;omega,by simpa using o2,?_⟩ (show ys.length-(i+1)<ys.length-i by omega) (aI rfl (aI rfl (aI rfl (aI rfl (aI rfl (aI rfl (aI rfl (aI rfl (trivial))))))))) (aI rfl (aI rfl (aI rfl (aI rfl (aI rfl (aI rfl (aI rfl (aI rfl (trivial)))))))))
       show O1.set _ _=AU (aC fr) ((af fr k).us x.u) (i+1) O
       rw[GD O (by omega) (by omega),←o3,y3]
       simp only[Int.toNat_natCast,Nat.add_zero]
      ·simp only[decide_eq_false_iff_not]at hd
       have hi:i=ys.length:=by omega
       have hO:O1=oS (aC fr) ((af fr k).us x.u) O:=by rw[o3,Jn O (by omega)]
       refine Rs ?_
       refine RO.same (h',L3,ts++[x],O1) ⟨by omega,by rw[List.length_append];simp only[List.length_singleton];omega,?_,Me,by rw[List.length_append];simp only[List.length_singleton];omega,?_⟩ (show 2*ys.length-2-(ts++[x]).length<2*ys.length-2-ts.length by rw[List.length_append];simp only[List.length_singleton];omega) (And.intro rfl (And.intro rfl (And.intro rfl (And.intro rfl (And.intro ?_ trivial))))) (aI rfl (aI rfl (aI rfl (aI rfl (aI rfl (aI rfl (aI rfl (trivial))))))))
       ·rw[←s3]
        simp only[dJ,EI,hx,List.append_assoc,List.singleton_append]
       ·rw[qk,hO,s6]
       ·show AV.int .i64 ((ts.length:Int)+1)=AV.int .i64 ((ts++[x]).length:Int)
        rw[List.length_append];rfl
     ·have rr:¬(ts.length:Int)<2*(ys.length:Int)-2:=by simpa using hc
      have lD:ts.length=2*(aC fr).length-2:=by omega
      have RG:(dJ (af fr k).all.length (dx (af fr k).all)).take (2*(aC fr).length-2)=ts:=by rw[←s3,←lD,List.take_left'];rfl
      refine Rs ?_
      refine⟨_,_,Vw.refl _ _,[.eZ 0,.own 1],.aG [.sl 1 0 0 fr.length fr.length,.int .i64 0],[.one false 0 (.ints .i64 fr c),.one true 0 (.ints .u8 O fr.length)],⟨⟨⟨rfl,_,rfl,rfl⟩,⟨rfl,rfl⟩,trivial⟩,rfl,⟨trivial,trivial,trivial⟩,rfl,?_⟩,rQ _ ?_⟩
      ·intro i hi
       match i,hi with
       |0,_=>exact .inr rfl
      rw[tw k (by omega),RG]
      exact s6.symm
end
end Go.Proofs.Ytibadaomjlkoaaa
open Go.RowKit
namespace Go.Proofs.Ytibadaomjlkoaaa
set_option maxRecDepth 10000
theorem kr {z:Nat}(h:z<2^63):IntKind.i64.wrap (z:Int)=(z:Int):=by
 simp[IntKind.wrap,IntKind.bits,IntKind.signed];omega
theorem Hi {x k:Nat}(h:x*2^k<2^63)(hk:k≤64):bC .i64 (x:Int) (k:Int)=((x*2^k:Nat):Int):=by
 simp only[bC,IntKind.bits,Int.toNat_natCast,Nat.min_eq_left hk]
 have:(x:Int)*2^k=((x*2^k:Nat):Int):=by push_cast;rfl
 rw[this,kr h]
theorem je {x:Nat}(h:x<2^62):bC .i64 (x:Int) 1=((2*x:Nat):Int):=by
 have:=Hi (x:=x) (k:=1) (by omega) (by omega)
 rw[Nat.mul_comm 2 x]
 exact this
theorem UP {a b:Nat}(ha:a<2^62)(hb:b<2^62):b8 .or .i64 (a:Int) (b:Int)=((a|||b:Nat):Int):=by
 have h1:(BitVec.ofInt 64 (a:Int)|||BitVec.ofInt 64 (b:Int)).toNat=a|||b:=by
  rw[BitVec.toNat_or,BitVec.ofInt_natCast,BitVec.ofInt_natCast,BitVec.toNat_ofNat,BitVec.toNat_ofNat,Nat.mod_eq_of_lt (by omega),Nat.mod_eq_of_lt (by omega)]
 have h2:(a|||b)<2^62:=Nat.or_lt_two_pow ha hb
 show IntKind.i64.wrap ((BitVec.ofInt 64 (a:Int)|||BitVec.ofInt 64 (b:Int)).toNat:Int)=_
 rw[h1,kr (by omega)]
theorem zN {a b:Nat}(ha:a<2^61)(hb:b<2):b8 .or .i64 ((2*a:Nat):Int) (b:Int)=((2*a+b:Nat):Int):=by
 rw[UP (by omega) (by omega)]
 have:=Nat.two_pow_add_eq_or_of_lt (i:=1) (b:=b) (by omega) a
 rw[show 2^1*a=2*a by omega]at this
 rw[this]
theorem Mx {a:Nat}(ha:a<2^62):b8 .and .i64 (a:Int) 1=((a%2:Nat):Int):=by
 have h1:(BitVec.ofInt 64 (a:Int)&&&BitVec.ofInt 64 (1:Int)).toNat=a%2:=by
  rw[BitVec.toNat_and,show BitVec.ofInt 64 (1:Int)=1#64 from rfl,BitVec.ofInt_natCast,BitVec.toNat_ofNat,Nat.mod_eq_of_lt (by omega)]
  exact Nat.and_two_pow_sub_one_eq_mod a 1
 show IntKind.i64.wrap ((BitVec.ofInt 64 (a:Int)&&&BitVec.ofInt 64 (1:Int)).toNat:Int)=_
 rw[h1,kr (by omega)]
theorem Hg {x k:Nat}(hk:k≤64):cf .i64 (x:Int) (k:Int)=((x/2^k:Nat):Int):=by
 simp only[cf,IntKind.bits,Int.toNat_natCast,Nat.min_eq_left hk]
 have:(2:Int)^k=((2^k:Nat):Int):=by push_cast;rfl
 rw[this,Int.fdiv_eq_ediv_of_nonneg _ (Int.natCast_nonneg _)];rfl
theorem Kb {x:Nat}:cf .i64 (x:Int) 1=((x/2:Nat):Int):=Hg (k:=1) (by omega)
def jG:Nat→Nat→Nat→Nat
 |0,_,o=>o
 |n+1,c,o=>jG n (c/2) (2*o+c%2)
theorem E3 {code n:Nat}{M:AH}{K Kp:AV→AH→Prop}(hc:code<2^30)(hn:n≤30)(hK:K (.int .u16 ((jG n code 0%65536:Nat):Int)) M):aa Try.prog 82 [.int .i64 code,.int .i64 n] M K Kp:=by
 refine aa.WM (v:=.int .u16 ((jG n code 0%65536:Nat):Int)) ?_ (fun _=>rfl) rfl (fun _=>rfl) hK
 refine NY (fun _=>[]) [] rfl ?_
 refine Rs ?_
 refine WO.go (σ:=Nat×Nat×Nat) (fun(i,c,o)=>i≤n∧c<2^30∧o<2^i∧jG (n-i) c o=jG n code 0) (fun(i,_,_)=>n-i)
  (fun(i,c,o)=>[(0,.int .i64 (c:Int)),(5,.int .i64 (o:Int)),(6,.int .i64 n),(7,.int .i64 (i:Int))]) (fun _=>[]) (0,code,0) ag mixed (by kernel_rfl) ⟨Nat.zero_le _,hc,by decide,rfl⟩ (aI rfl (aI rfl (aI rfl (aI rfl (trivial))))) trivial (fun _=>rfl) (fun _=>rfl) (fun _=>trivial) ?_
 rintro⟨i,cc,o⟩ ⟨h1,h2,h3,h4⟩ d
 refine Rs ?_
 refine And.intro (fun hd=>?_) (fun hd=>?_)
 ·simp only[decide_eq_true_eq]at hd
  have hp:(2:Nat)^i≤2^30:=Nat.pow_le_pow_right (by omega) (by omega)
  have e1:bC .i64 (o:Int) 1=((2*o:Nat):Int):=je (by omega)
  have e2:b8 .and .i64 (cc:Int) 1=((cc%2:Nat):Int):=Mx (by omega)
  have e3:b8 .or .i64 ((2*o:Nat):Int) ((cc%2:Nat):Int)=((2*o+cc%2:Nat):Int):=zN (by omega) (by omega)
  have e4:cf .i64 (cc:Int) 1=((cc/2:Nat):Int):=Kb
  obtain⟨j,hj⟩:∃j,n-i=j+1:=⟨n-i-1,by omega⟩
  refine Rs ?_
  refine RO.same (i+1,cc/2,2*o+cc%2) ⟨by omega,by omega,by rw[Nat.pow_succ];omega,?_⟩ (show n-(i+1)<n-i by omega) (And.intro ?_ (And.intro ?_ (And.intro rfl (And.intro rfl trivial)))) trivial
  ·rw[hj]at h4
   rw[show n-(i+1)=j by omega,←h4];rfl
  ·show AV.int .i64 (cf .i64 (cc:Int) 1)=_
   rw[e4]
  ·show AV.int .i64 (b8 .or .i64 (bC .i64 (o:Int) 1) (b8 .and .i64 (cc:Int) 1))=_
   rw[e1,e2,e3]
 ·simp only[decide_eq_false_iff_not]at hd
  have hi:i=n:=by omega
  refine Rs ?_
  refine And.intro ?_ rfl
  show AV.int .u16 ((o:Int)%65536)=_
  rw[hi,Nat.sub_self]at h4
  have h4:o=jG n code 0:=h4
  rw[h4];rfl
end Go.Proofs.Ytibadaomjlkoaaa
open Go.RowKit
namespace Go.Proofs.Ytibadaomjlkoaaa
set_option maxRecDepth 10000
def br (ls:List Int):Nat→Nat
 |0=>0
 |i+1=>br ls i+if 0<ls.getD i 0 then 2^(15-(ls.getD i 0).toNat)else 0
def bQ (ls:List Int):Nat→Nat
 |0=>0
 |i+1=>bQ ls i+if 0<ls.getD i 0 then 1 else 0
theorem xq (ls:List Int):∀i,br ls i≤i*32768
 |0=>Nat.le_refl _
 |i+1=>by
  have:=xq ls i
  have h2:2^(15-(ls.getD i 0).toNat)≤32768:=Nat.le_trans (Nat.pow_le_pow_right (by omega) (Nat.sub_le 15 _)) (by decide)
  have h3:br ls (i+1)=br ls i+if 0<ls.getD i 0 then 2^(15-(ls.getD i 0).toNat)else 0:=rfl
  rw[h3,Nat.succ_mul]
  split
  ·exact Nat.add_le_add this h2
  ·exact Nat.le_trans this (Nat.le_add_right _ _)
theorem yz (ls:List Int):∀i,bQ ls i≤i
 |0=>Nat.le_refl _
 |i+1=>by have:=yz ls i;simp only[bQ];split<;>omega
def fJ (ls:List Int):Bool:=decide (320<ls.length)||ls.any qQ
def bt (ls:List Int):Bool:=decide (br ls ls.length=32768)||decide (bQ ls ls.length=0)||(decide (bQ ls ls.length=1)&&decide (br ls ls.length=16384))
def aE (ls:List Int):Int:=if fJ ls=true then 1 else if bt ls=true then 0 else 60
def dG (ls:List Int)(n:Nat)(x:Nat×List (Nat×Nat×Nat))(s:Nat):Nat×List (Nat×Nat×Nat):=if ls.getD s 0=(n:Int)then(x.1+1,x.2++[(s,x.1,n)])else x
def cR (ls:List Int)(n i:Nat)(x:Nat×List (Nat×Nat×Nat)):Nat×List (Nat×Nat×Nat):=(List.range i).foldl (dG ls n) x
def aF (ls:List Int):Nat→Nat×List (Nat×Nat×Nat)
 |0=>(0,[])
 |n+1=>cR ls (n+1) ls.length (2*(aF ls n).1,(aF ls n).2)
theorem ba (ls:List Int)(n i:Nat)(x:Nat×List (Nat×Nat×Nat)):cR ls n (i+1) x=dG ls n (cR ls n i x) i:=by
 unfold cR;rw[List.range_succ,List.foldl_append];rfl
theorem ji (ls:List Int)(n:Nat)(x:Nat×List (Nat×Nat×Nat)):∀i,(cR ls n i x).1≤x.1+i
 |0=>Nat.le_refl _
 |i+1=>by
  have:=ji ls n x i
  rw[ba];unfold dG;split
  ·show(cR ls n i x).1+1≤_;omega
  ·omega
theorem ig (ls:List Int):∀n,(aF ls n).1+ls.length≤2^n*ls.length
 |0=>by simp[aF]
 |n+1=>by
  have ih:=ig ls n
  have:=ji ls (n+1) (2*(aF ls n).1,(aF ls n).2) ls.length
  simp only[aF]
  have e:2^(n+1)*ls.length=2*(2^n*ls.length):=by rw[Nat.pow_succ,Nat.mul_comm (2^n) 2,Nat.mul_assoc]
  have h3:(2*(aF ls n).1,(aF ls n).2).1=2*(aF ls n).1:=rfl
  omega
def nC (ts:List (Nat×Nat×Nat))(o:List Int):List Int:=ts.foldl (fun o t=>o.set t.1 ((jG t.2.2 t.2.1 0%65536:Nat):Int)) o
theorem eH (ts:List (Nat×Nat×Nat))(o:List Int):(nC ts o).length=o.length:=by
 unfold nC
 induction ts generalizing o with
 |nil=>rfl
 |cons t ts ih=>rw[List.foldl_cons,ih];simp
theorem ng (ts:List (Nat×Nat×Nat))(t:Nat×Nat×Nat)(o:List Int):nC (ts++[t]) o=(nC ts o).set t.1 ((jG t.2.2 t.2.1 0%65536:Nat):Int):=by
 unfold nC;rw[List.foldl_append];rfl
def kS (ez:List ((Int×Int)×Int)):List ((Int×Int)×AV):=ez.map fun p=>(p.1,.int .i64 p.2)
def lA (k:Int×Int)(z:Int):List ((Int×Int)×Int)→List ((Int×Int)×Int)
 |[]=>[(k,z)]
 |(k',z')::l=>if k=k' then(k',z)::l else(k',z')::lA k z l
def bS (k:Int×Int):List ((Int×Int)×Int)→Option Int
 |[]=>none
 |(k',z)::l=>if k=k' then some z else bS k l
theorem oY (k:Int×Int)(z:Int):∀ez,pZ k (.int .i64 z) (kS ez)=kS (lA k z ez)
 |[]=>rfl
 |(k',z')::l=>by
  show(if k=k' then _ else _)=kS (if k=k' then _ else _)
  split
  ·rfl
  ·show _::pZ k (.int .i64 z) (kS l)=_::kS (lA k z l)
   rw[oY k z l]
theorem iL (k:Int×Int):∀ez,nW k (kS ez)=(bS k ez).map (AV.int .i64)
 |[]=>rfl
 |(k',z')::l=>by
  show(if k=k' then _ else _)=Option.map _ (if k=k' then _ else _)
  split
  ·rfl
  ·exact iL k l
theorem j8 (k k':Int×Int)(z:Int):∀ez,bS k (lA k' z ez)=if k=k' then some z else bS k ez
 |[]=>by simp only[lA,bS]
 |(a,b)::l=>by
  simp only[lA]
  by_cases h1:k'=a
  ·subst h1
   rw[if_pos rfl]
   simp only[bS]
   by_cases h2:k=k'
   ·rw[if_pos h2,if_pos h2]
   ·rw[if_neg h2,if_neg h2,if_neg h2]
  ·rw[if_neg h1]
   simp only[bS,j8 k k' z l]
   by_cases h2:k=a
   ·subst h2
    rw[if_pos rfl,if_pos rfl,if_neg (fun e=>h1 e.symm)]
   ·rw[if_neg h2,if_neg h2]
def wX (t:Nat×Nat×Nat):Nat→List ((Int×Int)×Int)→List ((Int×Int)×Int)
 |0,es=>es
 |k+1,es=>wX t k (lA (((t.2.1/2^(t.2.2-k):Nat):Int),(k:Int)) (-1) es)
def zO (es:List ((Int×Int)×Int))(t:Nat×Nat×Nat):List ((Int×Int)×Int):=wX t t.2.2 (lA ((t.2.1:Int),(t.2.2:Int)) (t.1:Int) es)
def cn (ts:List (Nat×Nat×Nat))(es:List ((Int×Int)×Int)):List ((Int×Int)×Int):=ts.foldl zO es
theorem nd (ts:List (Nat×Nat×Nat))(t:Nat×Nat×Nat)(es:List ((Int×Int)×Int)):cn (ts++[t]) es=zO (cn ts es) t:=by
 unfold cn;rw[List.foldl_append];rfl
def uy (ls:List Int)(c co:Nat)(o:List Int):AH:=[.one false 0 (.ints .u8 ls c),.one true 0 (.ints .u16 o co),.one true 0 (.cells [.sl 1 0 0 co co])]
def pH (ls:List Int)(c:Nat)(es:List ((Int×Int)×Int)):AH:=[.one false 0 (.ints .u8 ls c),.one true 0 (.map (.pair .i64 .i64) (kS es)),.one true 0 (.cells [.mp 1 0]),.one true 0 (.cells [.ptr 2 0 0])]
theorem jm {ls:List Int}{c:Nat}{es:List ((Int×Int)×Int)}:lJ (pH ls c es).length (pH ls c es):=by
 refine⟨trivial,fun p hp=>?_,rfl,rfl,trivial⟩
 obtain⟨q,_,rfl⟩:=List.mem_map.1 hp
 rfl
section
variable{ls:List Int}{c c0:Nat}{K Kp:AV→AH→Prop}
theorem my {o:List Int}{s code n co:Nat}(hs:s<o.length)(ho:o.length=co)(hb:co≤1000000)(hc:code<2^30)(hn:n≤30)(hK:K (.aG []) (uy ls c co (o.set s ((jG n code 0%65536:Nat):Int)))):
 aa Try.prog 81 [.int .i64 s,.int .i64 code,.int .i64 n,.ptr 2 0 0] (uy ls c co o) K Kp:=by
 refine NZ (fun _=>[2]) [] rfl ?_
 refine Qs ?_
 refine E3 hc hn ?_
 refine Qs ?_
 exact hK
theorem qs {es:List ((Int×Int)×Int)}{s code n:Nat}(hs:s<2^30)(hc:code<2^30)(hn:n≤30)(hK:K (.aG []) (pH ls c (zO es (s,code,n)))):
 aa Try.prog 102 [.int .i64 s,.int .i64 code,.int .i64 n,.ptr 3 0 0] (pH ls c es) K Kp:=by
 refine J4 (fun _=>[3,2]) [] rfl ?_
 refine Qs ?_
 intro Cb lF
 replace lF:Cb=kS (lA ((code:Int),(n:Int)) (s:Int) es):=by rw[lF];exact oY ((code:Int),(n:Int)) (s:Int) es
 subst lF
 refine Rs ?_
 refine WO.go (σ:=Nat×List ((Int×Int)×Int)) (fun st=>st.1≤n∧wX (s,code,n) st.1 st.2=zO es (s,code,n)) (fun st=>st.1)
  (fun st=>[(1,.int .i64 code),(2,.int .i64 n),(3,.ptr 3 0 0),(7,.int .i64 ((st.1:Int)-1))]) (fun st=>pH ls c st.2) (n,lA ((code:Int),(n:Int)) (s:Int) es) ag mixed (by kernel_rfl) ⟨Nat.le_refl _,rfl⟩ (aI rfl (aI rfl (aI rfl (aI rfl (trivial))))) (aI rfl (aI rfl (aI rfl (aI rfl (trivial))))) (fun _=>rfl) (fun _=>rfl) (fun _=>jm) ?_
 rintro⟨k,e1⟩ ⟨h1,h2⟩ d
 simp only at h1 h2
 refine Rs ?_
 refine And.intro (fun hd=>?_) (fun hd=>?_)
 ·simp only[decide_eq_true_eq]at hd
  obtain⟨j,rfl⟩:∃j,k=j+1:=⟨k-1,by omega⟩
  have GI:cf .i64 (code:Int) ((n:Int)-(((j+1:Nat):Int)-1))=((code/2^(n-j):Nat):Int):=by
   rw[show(n:Int)-(((j+1:Nat):Int)-1)=((n-j:Nat):Int) by omega]
   exact Hg (by omega)
  have hj:((j+1:Nat):Int)-1=(j:Int):=by omega
  refine Rs ?_
  intro Cb lF
  replace lF:Cb=kS (lA (((code/2^(n-j):Nat):Int),(j:Int)) (-1) e1):=by
   rw[lF,←oY,←GI,←hj];rfl
  subst lF
  refine Rs ?_
  refine RO.same (j,lA (((code/2^(n-j):Nat):Int),(j:Int)) (-1) e1) ⟨by show j≤n;omega,h2⟩ (Nat.lt_succ_self j) (And.intro rfl (And.intro rfl (And.intro rfl (And.intro ?_ trivial)))) (aI rfl (aI rfl (aI rfl (aI rfl (trivial)))))
  show AV.int .i64 (((j+1:Nat):Int)-1-1)=AV.int .i64 ((j:Int)-1)
  rw[hj]
 ·simp only[decide_eq_false_iff_not]at hd
  obtain rfl:k=0:=by omega
  have h2:e1=zO es (s,code,n):=h2
  subst h2
  refine Rs ?_
  exact hK
end
end Go.Proofs.Ytibadaomjlkoaaa
