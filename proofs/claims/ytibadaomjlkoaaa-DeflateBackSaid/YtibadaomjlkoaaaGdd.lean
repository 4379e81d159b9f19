import Derived.Test.YtibadaomjlkoaaaGdc
import Derived.Test.YtibadaomjlkoaaaGb
import Derived.Test.YtibadaomjlkoaaaGdb
set_option linter.unusedVariables false
set_option linter.unusedSimpArgs false
open Go.RowKit
namespace Go.Proofs.Ytibadaomjlkoaaa
set_option maxRecDepth 10000
abbrev cF:=Nat×Nat×Nat
def cH (code n:Nat):List Bool:=(List.range n).map fun j=>decide (code/2^(n-1-j)%2=1)
theorem dh (code n:Nat):(cH code n).length=n:=by simp[cH]
abbrev gT (f:Nat)(cv:Nat→Nat)(ts:List cF):Nat→List AV:=fun j=>[.int .i64 ((ts.getD j default).1:Int),.sl f j 0 (ts.getD j default).2.2 (cv j)]
def bR (ls:List Int):List cF:=if aE ls=0 then(aF ls 15).2 else[]
section
variable{ls:List Int}{c c0:Nat}{Kp:AV→AH→Prop}
end
end Go.Proofs.Ytibadaomjlkoaaa
open Go.RowKit
namespace Go.Proofs.Ytibadaomjlkoaaa
set_option maxRecDepth 10000
theorem zu {ls:List Int}{n:Nat}{x:Nat×List cF}(hx:∀t∈x.2,t.1<ls.length∧1≤t.2.2∧t.2.2≤15∧ls.getD t.1 0=(t.2.2:Int))(hn:1≤n∧n≤15):∀i,i≤ls.length→∀t∈(cS ls n i x).2,t.1<ls.length∧1≤t.2.2∧t.2.2≤15∧ls.getD t.1 0=(t.2.2:Int)
 |0,_=>hx
 |i+1,hi=>by
  have ih:=zu hx hn i (by omega)
  rw[ba];unfold dH
  split
  ·rename_i hk
   intro t ht
   rcases List.mem_append.1 ht with ht|ht
   ·exact ih t ht
   ·obtain rfl:=List.mem_singleton.1 ht
    exact⟨by show i<_;omega,hn.1,hn.2,hk⟩
  ·exact ih
theorem vD {ls:List Int}:∀n,n≤15→∀t∈(aF ls n).2,t.1<ls.length∧1≤t.2.2∧t.2.2≤15∧ls.getD t.1 0=(t.2.2:Int)
 |0,_=>by intro t ht;cases ht
 |n+1,hn=>zu (x:=(2*(aF ls n).1,(aF ls n).2)) (vD n (by omega)) ⟨by omega,hn⟩ ls.length (Nat.le_refl _)
theorem uN {ls:List Int}{t:cF}(h:t∈bR ls):t.1<ls.length∧1≤t.2.2∧t.2.2≤15∧ls.getD t.1 0=(t.2.2:Int):=by
 unfold bR at h
 split at h
 ·exact vD 15 (Nat.le_refl _) t h
 ·cases h
theorem HI:∀l:List Bool,0≤num l
 |[]=>Int.le_refl 0
 |b::l=>by have:=HI l;simp only[num];split<;>omega
theorem Eb:∀l l':List Bool,num (l++l')=num l+2^l.length*num l'
 |[],l'=>by simp[num]
 |b::l,l'=>by
  simp only[List.cons_append,num,Eb l l',List.length_cons,Int.pow_succ]
  rw[Int.mul_add,←Int.mul_assoc,Int.mul_comm 2 (2^l.length),Int.add_assoc]
theorem oR (c n:Nat):cH c (n+1)=cH (c/2) n++[decide (c%2=1)]:=by
 unfold cH
 rw[List.range_succ,List.map_append]
 congr 1
 ·apply List.map_congr_left
  intro j hj
  have rq:j<n:=by simpa using hj
  rw[show n+1-1-j=(n-1-j)+1 by omega,Nat.pow_succ,Nat.mul_comm,Nat.div_div_eq_div_mul]
 ·simp
theorem vA:∀(n c o:Nat),((jK n c o:Nat):Int)=o*2^n+num (cH c n)
 |0,c,o=>by simp[jK,cH,num]
 |n+1,c,o=>by
  simp only[jK]
  rw[vA n (c/2) (2*o+c%2),oR,Eb,dh]
  have e:num [decide (c%2=1)]=((c%2:Nat):Int):=by
   simp only[num]
   rcases Nat.mod_two_eq_zero_or_one c with h|h<;>rw[h]<;>simp
  rw[e,Int.pow_succ]
  push_cast
  rw[Int.add_mul,Int.mul_comm 2 (o:Int),Int.mul_assoc,Int.mul_comm 2 (2^n),Int.mul_comm ((c:Int)%2) (2^n)]
  omega
theorem HH (c n:Nat):num (cH c n)=((jK n c 0:Nat):Int):=by rw[vA];simp
section
variable{M:AH}{K Kp:AV→AH→Prop}
end
section
variable{ls:List Int}{c c0:Nat}{Kp:AV→AH→Prop}
end
end Go.Proofs.Ytibadaomjlkoaaa
open Go.RowKit
namespace Go.Proofs.Ytibadaomjlkoaaa
set_option maxRecDepth 10000
def Du (xs ys:List Bool):Bool:=decide (ys.length≤xs.length)&&decide (xs.take ys.length=ys)
section
variable{xs ys:List Bool}{c0 c1 c d:Nat}{M:AH}{K Kp:AV→AH→Prop}
def gq (row:List Bool)(a b:Nat):List Bool:=(row.drop a).take (b-a)
def tU (zo:List Bool)(t:cF):Bool:=decide (cH t.2.1 t.2.2=zo)
def FA (ts:List cF)(row:List Bool)(a:Nat):Nat→Nat→Int×Nat×Int
 |0,b=>(0,b,50)
 |f+1,b=>match ts.find? (tU (gq row a b))with
  |some t=>((t.1:Int),b,0)
  |none=>if ts.any (fun t=>Du (cH t.2.1 t.2.2) (gq row a b))=true then if b=row.length then(0,b,50)else FA ts row a f (b+1)else(0,b,60)
def OB (ts:List cF)(row:List Bool)(a:Nat):Int×Nat×Int:=FA ts row a (row.length-a+1) a
end
end Go.Proofs.Ytibadaomjlkoaaa
open Go.RowKit
namespace Go.Proofs.Ytibadaomjlkoaaa
def Dr (b:Bool):Nat:=if b=true then 1 else 0
def lS (l:List Bool):Nat:=l.foldl (fun v b=>2*v+Dr b) 0
theorem p3 (l:List Bool)(b:Bool):lS (l++[b])=2*lS l+Dr b:=by unfold lS;rw[List.foldl_append];rfl
theorem mO:∀(n c:Nat),c<2^n→lS (cH c n)=c
 |0,c,h=>by
  have:c=0:=by simpa using h
  subst this;rfl
 |n+1,c,h=>by
  rw[oR,p3,mO n (c/2) (by rw[Nat.pow_succ]at h;omega)]
  unfold Dr
  rcases Nat.mod_two_eq_zero_or_one c with e|e<;>simp[e]<;>omega
theorem qQ:∀(n:Nat)(l:List Bool),l.length=n→cH (lS l) n=l
 |0,l,h=>by
  obtain rfl:=List.eq_nil_of_length_eq_zero h
  rfl
 |n+1,l,h=>by
  rcases List.eq_nil_or_concat l with rfl|⟨l,b,rfl⟩
  ·simp at h
  ·simp only[List.concat_eq_append]at h⊢
   rw[List.length_append,List.length_singleton]at h
   rw[oR,p3]
   have h1:(2*lS l+Dr b)/2=lS l:=by unfold Dr;split<;>omega
   have h2:decide ((2*lS l+Dr b)%2=1)=b:=by
    unfold Dr
    cases b<;>simp
   rw[h1,h2,qQ n l (by omega)]
theorem Dq (c N n:Nat)(h:n≤N):(cH c N).take n=cH (c/2^(N-n)) n:=by
 unfold cH
 rw[←List.map_take,List.take_range,Nat.min_eq_left h]
 apply List.map_congr_left
 intro j hj
 have rq:j<n:=by simpa using hj
 rw[Nat.div_div_eq_div_mul,←Nat.pow_add,show N-n+(n-1-j)=N-1-j by omega]
def preB (c n:Nat)(t:cF):Bool:=decide (n≤t.2.2)&&decide (t.2.1/2^(t.2.2-n)=c)
theorem AL {t:cF}{zo:List Bool}(ht:t.2.1<2^t.2.2):Du (cH t.2.1 t.2.2) zo=preB (lS zo) zo.length t:=by
 unfold Du preB
 rw[dh]
 by_cases h:zo.length≤t.2.2
 ·rw[decide_eq_true h,Bool.true_and,Bool.true_and,decide_eq_decide,Dq _ _ _ h]
  have aZ:t.2.1/2^(t.2.2-zo.length)<2^zo.length:=by
   apply Nat.div_lt_of_lt_mul
   rw[←Nat.pow_add,show t.2.2-zo.length+zo.length=t.2.2 by omega]
   exact ht
  constructor
  ·intro e
   have:=congrArg lS e
   rw[mO _ _ aZ]at this
   exact this
  ·intro e
   rw[e]
   exact qQ _ zo rfl
 ·rw[decide_eq_false h];rfl
theorem LY {t:cF}{zo:List Bool}(ht:t.2.1<2^t.2.2):tU zo t=(decide (t.2.2=zo.length)&&decide (t.2.1=lS zo)):=by
 unfold tU
 by_cases h:t.2.2=zo.length
 ·rw[decide_eq_true h,Bool.true_and,decide_eq_decide]
  constructor
  ·intro e
   have:=congrArg lS e
   rw[mO _ _ ht]at this
   exact this
  ·intro e
   rw[e,h]
   exact qQ _ zo rfl
 ·rw[decide_eq_false h,Bool.false_and,decide_eq_false_iff_not]
  intro e
  have:=congrArg List.length e
  rw[dh]at this
  exact h this
def wM (ts:List cF):Prop:=ts.Pairwise fun a b=>preB a.2.1 a.2.2 b=false
def HX (ts:List cF)(c n:Nat):Option Int:=
 match ts.find? (fun t=>decide (t.2.2=n)&&decide (t.2.1=c))with
 |some t=>some (t.1:Int)
 |none=>if ts.any (preB c n)=true then some (-1)else none
theorem ue (t:cF)(c n:Nat):∀(k:Nat)(es:List ((Int×Int)×Int)),bS ((c:Int),(n:Int)) (wW t k es)=if n<k∧c=t.2.1/2^(t.2.2-n)then some (-1)else bS ((c:Int),(n:Int)) es
 |0,es=>by rw[if_neg (by omega)];rfl
 |k+1,es=>by
  rw[wW,ue t c n k,ke]
  by_cases h1:n<k∧c=t.2.1/2^(t.2.2-n)
  ·rw[if_pos h1,if_pos ⟨by omega,h1.2⟩]
  ·rw[if_neg h1]
   by_cases h2:n=k∧c=t.2.1/2^(t.2.2-n)
   ·obtain⟨rfl,h2⟩:=h2
    rw[if_pos (show((c:Int),(n:Int))=(((t.2.1/2^(t.2.2-n):Nat):Int),(n:Int)) by rw[←h2]),if_pos ⟨by omega,h2⟩]
   ·have a1:¬((c:Int),(n:Int))=(((t.2.1/2^(t.2.2-k):Nat):Int),(k:Int)):=by
     intro h
     simp only[Prod.mk.injEq]at h
     have e1:n=k:=by omega
     subst e1
     exact h2 ⟨rfl,by have:=h.1;omega⟩
    have a2:¬(n<k+1∧c=t.2.1/2^(t.2.2-n)):=by
     intro h
     rcases Nat.lt_or_eq_of_le (Nat.le_of_lt_succ h.1)with h3|h3
     ·exact h1 ⟨h3,h.2⟩
     ·exact h2 ⟨h3,h.2⟩
    rw[if_neg a1,if_neg a2]
theorem wP (t:cF)(c n:Nat)(es:List ((Int×Int)×Int)):bS ((c:Int),(n:Int)) (zM es t)=if n<t.2.2∧c=t.2.1/2^(t.2.2-n)then some (-1)else if c=t.2.1∧n=t.2.2 then some (t.1:Int)else bS ((c:Int),(n:Int)) es:=by
 unfold zM
 rw[ue,ke]
 split
 ·rfl
 ·by_cases h:c=t.2.1∧n=t.2.2
  ·rw[if_pos h,if_pos (by rw[h.1,h.2])]
  ·rw[if_neg h,if_neg (fun e=>by simp only[Prod.mk.injEq]at e;exact h ⟨by omega,by omega⟩)]
theorem sV {c n:Nat}{t:cF}:preB c n t=true↔(n<t.2.2∧c=t.2.1/2^(t.2.2-n))∨(c=t.2.1∧n=t.2.2):=by
 unfold preB
 simp only[Bool.and_eq_true,decide_eq_true_eq]
 constructor
 ·rintro⟨h1,h2⟩
  rcases Nat.lt_or_eq_of_le h1 with h|h
  ·exact .inl ⟨h,h2.symm⟩
  ·subst h;simp at h2;exact .inr ⟨h2.symm,rfl⟩
 ·rintro(⟨h1,h2⟩|⟨rfl,rfl⟩)
  ·exact⟨by omega,h2.symm⟩
  ·simp
theorem Ak:∀(n0:Nat)(ts:List cF),ts.length=n0→wM ts→∀c n:Nat,bS ((c:Int),(n:Int)) (cn ts [])=HX ts c n
 |0,ts,h,_,c,n=>by
  obtain rfl:=List.eq_nil_of_length_eq_zero h
  rfl
 |n0+1,ts,h,hf,c,n=>by
  rcases List.eq_nil_or_concat ts with rfl|⟨ts,t,rfl⟩
  ·simp at h
  ·simp only[List.concat_eq_append]at h hf⊢
   rw[List.length_append,List.length_singleton]at h
   have yh:wM ts∧∀a∈ts,preB a.2.1 a.2.2 t=false:=by
    unfold wM at hf⊢
    rw[List.pairwise_append]at hf
    exact⟨hf.1,fun a ha=>hf.2.2 a ha t (by simp)⟩
   have ih:=Ak n0 ts (by omega) yh.1 c n
   rw[nk,wP,ih]
   unfold HX
   rw[List.find?_append,List.any_append]
   have rp:preB c n t=true→ts.find? (fun t=>decide (t.2.2=n)&&decide (t.2.1=c))=none:=by
    intro hp
    rw[List.find?_eq_none]
    intro a ha
    simp only[Bool.and_eq_true,decide_eq_true_eq]
    rintro⟨e1,e2⟩
    have:=yh.2 a ha
    rw[e1,e2,hp]at this
    cases this
   by_cases h1:n<t.2.2∧c=t.2.1/2^(t.2.2-n)
   ·have hp:preB c n t=true:=sV.2 (.inl h1)
    rw[if_pos h1,rp hp]
    have RY:(decide (t.2.2=n)&&decide (t.2.1=c))=false:=by rw[decide_eq_false (by omega)];rfl
    simp only[List.find?_cons,RY,List.find?_nil,Option.none_or,List.any_cons,hp,List.any_nil,Bool.or_false,Bool.or_true,if_true]
   ·rw[if_neg h1]
    by_cases h2:c=t.2.1∧n=t.2.2
    ·have hp:preB c n t=true:=sV.2 (.inr h2)
     rw[if_pos h2,rp hp]
     have RY:(decide (t.2.2=n)&&decide (t.2.1=c))=true:=by rw[h2.1,h2.2];simp
     simp only[List.find?_cons,RY,Option.none_or]
    ·rw[if_neg h2]
     have hp:preB c n t=false:=by
      cases hp:preB c n t with
      |false=>rfl
      |true=>rcases sV.1 hp with h|h
             ·exact absurd h h1
             ·exact absurd h h2
     have RY:(decide (t.2.2=n)&&decide (t.2.1=c))=false:=by
      rw[Bool.and_eq_false_iff]
      by_cases e:t.2.2=n
      ·right;rw[decide_eq_false_iff_not];intro e2;exact h2 ⟨e2.symm,e.symm⟩
      ·left;exact decide_eq_false e
     simp only[List.find?_cons,RY,List.find?_nil,Option.or_none,List.any_cons,hp,List.any_nil,Bool.or_false]
def cW (ts:List cF):Nat:=(ts.map fun t=>2^(15-t.2.2)).sum
theorem sH (ts:List cF)(t:cF):cW (ts++[t])=cW ts+2^(15-t.2.2):=by simp[cW]
def u7:List cF→Prop:=fun ts=>∀a b t,ts=a++t::b→t.2.1*2^(15-t.2.2)=cW a∧t.2.2≤15
theorem Fx {ts:List cF}{t:cF}(h:u7 ts)(h1:t.2.1*2^(15-t.2.2)=cW ts)(h2:t.2.2≤15):u7 (ts++[t]):=by
 intro a b x e
 rcases List.eq_nil_or_concat b with rfl|⟨b,y,rfl⟩
 ·have:=List.append_inj' e rfl
  obtain⟨rfl,e2⟩:=this
  obtain rfl:t=x:=by simpa using e2
  exact⟨h1,h2⟩
 ·simp only[List.concat_eq_append]at e
  rw[←List.cons_append,←List.append_assoc]at e
  have:=List.append_inj' e rfl
  exact h a b x this.1
theorem zt {ls:List Int}{n:Nat}{x:Nat×List cF}(hn:n≤15)(h:u7 x.2)(h2:x.1*2^(15-n)=cW x.2):∀i,u7 (cS ls n i x).2∧(cS ls n i x).1*2^(15-n)=cW (cS ls n i x).2
 |0=>⟨h,h2⟩
 |i+1=>by
  obtain⟨i1,i2⟩:=zt (ls:=ls) hn h h2 i
  rw[ba];unfold dH
  split
  ·refine⟨Fx i1 i2 hn,?_⟩
   show((cS ls n i x).1+1)*2^(15-n)=_
   rw[sH,Nat.add_mul,i2,Nat.one_mul]
  ·exact⟨i1,i2⟩
theorem vC {ls:List Int}:∀n,n≤15→u7 (aF ls n).2∧(aF ls n).1*2^(15-n)=cW (aF ls n).2
 |0,_=>⟨fun a b t e=>by simp[aF]at e,by simp[aF,cW]⟩
 |n+1,hn=>by
  obtain⟨h1,h2⟩:=vC (ls:=ls) n (by omega)
  refine zt (x:=(2*(aF ls n).1,(aF ls n).2)) hn h1 ?_ ls.length
  show 2*(aF ls n).1*2^(15-(n+1))=_
  rw[←h2,show 15-n=(15-(n+1))+1 by omega,Nat.pow_succ,Nat.mul_comm 2,Nat.mul_assoc,Nat.mul_comm 2]
def u1 (ls:List Int)(n:Nat):Nat→Nat
 |0=>0
 |i+1=>u1 ls n i+if 0<ls.getD i 0∧ls.getD i 0≤(n:Int)then 2^(15-(ls.getD i 0).toNat)else 0
theorem vJ (ls:List Int):∀i,u1 ls 0 i=0
 |0=>rfl
 |i+1=>by rw[u1,vJ ls i,if_neg (by omega)]
theorem vT (ls:List Int)(n:Nat)(x:Nat×List cF):∀i,cW (cS ls (n+1) i x).2+u1 ls n i=cW x.2+u1 ls (n+1) i
 |0=>rfl
 |i+1=>by
  have ih:=vT ls n x i
  rw[ba,u1,u1]
  unfold dH
  by_cases h:ls.getD i 0=((n+1:Nat):Int)
  ·rw[if_pos h]
   show cW ((cS ls (n+1) i x).2++[_])+_=_
   rw[sH,if_neg (by omega),if_pos (by omega),h,Int.toNat_natCast]
   show cW _+2^(15-(n+1))+_=_
   omega
  ·rw[if_neg h]
   by_cases h2:0<ls.getD i 0∧ls.getD i 0≤(n:Int)
   ·rw[if_pos h2,if_pos (by omega)];omega
   ·rw[if_neg h2,if_neg (by omega)];omega
theorem ss (ls:List Int):∀n,cW (aF ls n).2=u1 ls n ls.length
 |0=>by rw[vJ];rfl
 |n+1=>by
  have:=vT ls n (2*(aF ls n).1,(aF ls n).2) ls.length
  have ih:=ss ls n
  show cW (cS ls (n+1) ls.length (2*(aF ls n).1,(aF ls n).2)).2=_
  have e:cW (2*(aF ls n).1,(aF ls n).2).2=cW (aF ls n).2:=rfl
  omega
theorem zc {ls:List Int}(h:∀i,i<ls.length→ls.getD i 0≤15):∀i,i≤ls.length→u1 ls 15 i=br ls i
 |0,_=>rfl
 |i+1,hi=>by
  rw[u1,br,zc h i (by omega)]
  have:=h i (by omega)
  by_cases h2:0<ls.getD i 0
  ·rw[if_pos ⟨h2,by omega⟩,if_pos h2]
  ·rw[if_neg (by omega),if_neg h2]
theorem nC (ls:List Int):cW (bR ls)≤32768:=by
 unfold bR
 split
 ·rename_i h
  have hb:fL ls=false:=by
   cases hb:fL ls with
   |false=>rfl
   |true=>rw[hJ hb]at h;cases h
  have hf:bt ls=true:=by
   cases hf:bt ls with
   |true=>rfl
   |false=>rw[mC hb hf]at h;cases h
  have qL:∀i,i<ls.length→ls.getD i 0≤15:=by
   intro i hi
   unfold fL at hb
   simp only[Bool.or_eq_false_iff]at hb
   have:=List.any_eq_false.1 hb.2 _ (oI (d:=0) hi)
   simp only[qR,decide_eq_true_eq]at this
   omega
  rw[ss,zc qL _ (Nat.le_refl _)]
  unfold bt at hf
  simp only[Bool.or_eq_true,Bool.and_eq_true,decide_eq_true_eq]at hf
  have hz:∀i,bQ ls i=0→br ls i=0:=by
   intro i
   induction i with
   |zero=>intro _;rfl
   |succ i ih=>
    intro hc
    simp only[bQ]at hc
    simp only[br]
    split at hc
    ·omega
    ·rename_i h0;rw[if_neg h0,ih (by omega)]
  rcases hf with(hf|hf)|hf
  ·omega
  ·rw[hz _ hf];omega
  ·omega
 ·exact Nat.zero_le _
theorem ko (ls:List Int):u7 (bR ls):=by
 unfold bR;split
 ·exact(vC 15 (Nat.le_refl _)).1
 ·intro a b t e;simp at e
theorem qa (a b:List cF):cW (a++b)=cW a+cW b:=by simp[cW]
theorem od (t:cF)(b:List cF):cW (t::b)=2^(15-t.2.2)+cW b:=by simp[cW]
theorem xI {ts:List cF}(h:u7 ts)(hs:cW ts≤32768){t:cF}(ht:t∈ts):t.2.1<2^t.2.2∧t.2.2≤15:=by
 obtain⟨a,b,rfl⟩:=List.append_of_mem ht
 obtain⟨h1,h2⟩:=h a b t rfl
 refine⟨?_,h2⟩
 rw[qa,od,←h1]at hs
 have e:(32768:Nat)=2^t.2.2*2^(15-t.2.2):=by rw[←Nat.pow_add,show t.2.2+(15-t.2.2)=15 by omega]
 have h3:(t.2.1+1)*2^(15-t.2.2)≤2^t.2.2*2^(15-t.2.2):=by rw[←e,Nat.add_mul,Nat.one_mul];omega
 have:=Nat.le_of_mul_le_mul_right h3 (Nat.pow_pos (by omega))
 omega
theorem zr {ts:List cF}(h:u7 ts):wM ts:=by
 unfold wM
 rw[List.pairwise_iff_getElem]
 intro i j hi hj rr
 have e1:ts=ts.take i++ts[i]::ts.drop (i+1):=by rw[←List.drop_eq_getElem_cons hi,List.take_append_drop]
 have e2:ts=ts.take j++ts[j]::ts.drop (j+1):=by rw[←List.drop_eq_getElem_cons hj,List.take_append_drop]
 obtain⟨a1,a2⟩:=h _ _ _ e1
 obtain⟨b1,b2⟩:=h _ _ _ e2
 generalize ts[i]=x at*
 generalize ts[j]=y at*
 have hle:cW (ts.take i)+2^(15-x.2.2)≤cW (ts.take j):=by
  have e3:ts.take j=ts.take i++x::(ts.take j).drop (i+1):=by
   have:(ts.take j)[i]?=some x:=by
    rw[List.getElem?_take,if_pos rr]
    conv=>lhs;rw[e1]
    rw[List.getElem?_append_right (by simp;omega)]
    simp[Nat.min_eq_left (Nat.le_of_lt hi)]
   obtain⟨EB,e4⟩:=List.getElem?_eq_some_iff.1 this
   have e5:=List.take_append_drop i (ts.take j)
   rw[List.drop_eq_getElem_cons EB,e4,List.take_take,Nat.min_eq_left (Nat.le_of_lt rr)]at e5
   exact e5.symm
  rw[e3,qa,od];omega
 cases hp:preB x.2.1 x.2.2 y with
 |false=>rfl
 |true=>
  exfalso
  unfold preB at hp
  simp only[Bool.and_eq_true,decide_eq_true_eq]at hp
  obtain⟨p1,p2⟩:=hp
  have hy:y.2.1<(x.2.1+1)*2^(y.2.2-x.2.2):=by
   rw[←p2]
   have:=Nat.lt_div_mul_add (a:=y.2.1) (b:=2^(y.2.2-x.2.2)) (Nat.pow_pos (by omega))
   rw[Nat.add_mul,Nat.one_mul];exact this
  have hm:y.2.1*2^(15-y.2.2)<(x.2.1+1)*2^(y.2.2-x.2.2)*2^(15-y.2.2):=Nat.mul_lt_mul_of_pos_right hy (Nat.pow_pos (by omega))
  rw[Nat.mul_assoc,←Nat.pow_add,show y.2.2-x.2.2+(15-y.2.2)=15-x.2.2 by omega,Nat.add_mul,Nat.one_mul,b1,a1]at hm
  omega
theorem Hl {row:List Bool}{a b:Nat}(hb:b≤row.length):(gq row a b).length=b-a:=by
 unfold gq;rw[List.length_take,List.length_drop];omega
theorem Ft {row:List Bool}{a b:Nat}(ha:a≤b)(hb:b<row.length):gq row a (b+1)=gq row a b++[row.getD b false]:=by
 unfold gq
 rw[show b+1-a=(b-a)+1 by omega,List.take_succ_eq_append_getElem (by rw[List.length_drop];omega),List.getElem_drop,List.getD_eq_getElem?_getD,List.getElem?_eq_getElem hb]
 congr 2
 simp only[Option.getD_some]
 congr 1;omega
theorem Dx {α:Type}{l:List α}{p q:α→Bool}(h:∀x∈l,p x=q x):l.any p=l.any q:=by
 induction l with
 |nil=>rfl
 |cons x l ih=>rw[List.any_cons,List.any_cons,h x List.mem_cons_self,ih fun y hy=>h y (List.mem_cons_of_mem _ hy)]
theorem Al {α:Type}{l:List α}{p q:α→Bool}(h:∀x∈l,p x=q x):l.find? p=l.find? q:=by
 induction l with
 |nil=>rfl
 |cons x l ih=>rw[List.find?_cons,List.find?_cons,h x List.mem_cons_self,ih fun y hy=>h y (List.mem_cons_of_mem _ hy)]
theorem vY {ts:List cF}(aZ:∀t∈ts,t.2.1<2^t.2.2)(ju:wM ts){row:List Bool}{a:Nat}:∀(f b:Nat),a≤b→b≤row.length→
 l6 (cn ts []) row f (lS (gq row a b)) (b-a) b=FA ts row a f b
 |0,b,_,_=>rfl
 |f+1,b,JI,hb=>by
  have cR:=Hl (a:=a) hb
  have h1:ts.find? (tU (gq row a b))=ts.find? (fun t=>decide (t.2.2=b-a)&&decide (t.2.1=lS (gq row a b))):=
   Al fun t ht=>by rw[LY (aZ t ht),cR]
  have h2:ts.any (fun t=>Du (cH t.2.1 t.2.2) (gq row a b))=ts.any (preB (lS (gq row a b)) (b-a)):=
   Dx fun t ht=>by rw[AL (aZ t ht),cR]
  simp only[l6,FA]
  rw[Ak _ ts rfl ju,h1,h2]
  unfold HX
  cases hf:ts.find? (fun t=>decide (t.2.2=b-a)&&decide (t.2.1=lS (gq row a b)))with
  |some t=>
   simp only
   rw[if_pos (Int.natCast_nonneg _)]
  |none=>
   simp only
   cases ha:ts.any (preB (lS (gq row a b)) (b-a))with
   |false=>rfl
   |true=>
    simp only[if_true]
    rw[if_neg (by omega)]
    by_cases e:b=row.length
    ·rw[if_pos (by omega),if_pos e]
    ·rw[if_neg (by omega),if_neg e]
     have ih:=vY aZ ju (row:=row) (a:=a) f (b+1) (by omega) (by omega)
     rw[Ft JI (by omega),p3,show b+1-a=b-a+1 by omega]at ih
     exact ih
theorem Bd {ls:List Int}{row:List Bool}{a:Nat}(ha:a≤row.length):ew (cn (bR ls) []) row a=OB (bR ls) row a:=by
 unfold ew OB
 have:=vY (fun t ht=>(xI (ko ls) (nC ls) ht).1) (zr (ko ls)) (row:=row) (a:=a) (row.length-a+1) a (Nat.le_refl _) ha
 have e:gq row a a=[]:=by unfold gq;rw[Nat.sub_self,List.take_zero]
 rw[e,Nat.sub_self]at this
 exact this
def fw (es:List ((Int×Int)×Int)):Prop:=∀k z,bS k es=some z→k.2≤15
theorem wC {es:List ((Int×Int)×Int)}(h:fw es){k:Int×Int}(hk:k.2≤15)(z:Int):fw (lG k z es):=by
 intro k' z' e
 rw[ke]at e
 split at e
 ·rename_i e2;rw[e2];exact hk
 ·exact h k' z' e
theorem tH (t:cF):∀(k:Nat){es:List ((Int×Int)×Int)},k≤16→fw es→fw (wW t k es)
 |0,_,_,h=>h
 |k+1,_,hk,h=>tH t k (by omega) (wC h (by show((k:Nat):Int)≤15;omega) _)
theorem FZ {ts:List cF}(h:∀t∈ts,t.2.2≤15):∀es,fw es→fw (cn ts es):=by
 induction ts with
 |nil=>intro es h;exact h
 |cons t ts ih=>
  intro es he
  exact ih (fun x hx=>h x (List.mem_cons_of_mem _ hx)) _ (tH t _ (by have:=h t List.mem_cons_self;omega) (wC he (by have:=h t List.mem_cons_self;show((t.2.2:Nat):Int)≤15;omega) _))
theorem gY (ls:List Int):fw (cn (bR ls) []):=FZ (fun t ht=>(xI (ko ls) (nC ls) ht).2) [] (fun k z e=>by cases e)
end Go.Proofs.Ytibadaomjlkoaaa
open Go.RowKit
namespace Go.Proofs.Ytibadaomjlkoaaa
def rO (a b:It):Prop:=a.w<b.w∨(a.w=b.w∧a.k≤b.k)
theorem tC (a:It):rO a a:=.inr ⟨rfl,Int.le_refl _⟩
theorem wB {a b c:It}(h1:rO a b)(h2:rO b c):rO a c:=by unfold rO at*;omega
theorem rj {a b:It}(h:gJ a b=true):rO a b:=by
 simp only[gJ,Bool.or_eq_true,Bool.and_eq_true,decide_eq_true_eq]at h;unfold rO;omega
theorem tE {a b:It}(h:¬gJ b a=true):rO a b:=by
 simp only[gJ,Bool.or_eq_true,Bool.and_eq_true,decide_eq_true_eq]at h;unfold rO;omega
theorem dt {L:List It}{i j:Nat}(hi:i<L.length)(hj:j<L.length)(r:Nat):(cV L i j).getD r default=if r=j then L.getD i default else if r=i then L.getD j default else L.getD r default:=by
 unfold cV
 simp only[List.getD_eq_getElem?_getD,List.getElem?_set,List.length_set]
 by_cases h1:r=j
 ·subst h1;simp[hj]
 ·rw[if_neg (fun h=>h1 h.symm),if_neg h1]
  by_cases h2:r=i
  ·subst h2;simp[hi]
  ·rw[if_neg (fun h=>h2 h.symm),if_neg h2]
def wK (n:Nat)(L:List It)(s:Nat):Prop:=∀j c,s≤j→(c=2*j+1∨c=2*j+2)→c<n→rO (L.getD j default) (L.getD c default)
def RV (n:Nat)(L:List It)(s i:Nat):Prop:=(∀j c,s≤j→j≠i→(c=2*j+1∨c=2*j+2)→c<n→rO (L.getD j default) (L.getD c default))∧
 ∀p c,s≤p→(i=2*p+1∨i=2*p+2)→(c=2*i+1∨c=2*i+2)→c<n→rO (L.getD p default) (L.getD c default)
theorem oO:∀(f n:Nat)(L:List It)(i s:Nat),n-i≤f→s≤i→n≤L.length→RV n L s i→wK n (fp f n L i) s
 |0,n,L,i,s,hf,hs,hn,h=>by
  intro j c hj hc Ba
  exact h.1 j c hj (by omega) hc Ba
 |f+1,n,L,i,s,hf,hs,hn,h=>by
  simp only[fp]
  by_cases h1:2*i+1<n
  ·rw[if_pos h1]
   have hk:=nq (L:=L) h1
   have VG:jb n L i=2*i+1∨jb n L i=2*i+2:=by unfold jb;split<;>omega
   have LS:∀c,(c=2*i+1∨c=2*i+2)→c<n→rO (L.getD (jb n L i) default) (L.getD c default):=by
    intro c hc Ba
    unfold jb
    by_cases h3:2*i+2<n∧gJ (L.getD (2*i+2) default) (L.getD (2*i+1) default)=true
    ·rw[if_pos h3]
     rcases hc with rfl|rfl
     ·exact rj h3.2
     ·exact tC _
    ·rw[if_neg h3]
     rcases hc with rfl|rfl
     ·exact tC _
     ·exact tE (fun h4=>h3 ⟨Ba,h4⟩)
   generalize jb n L i=k at*
   by_cases h2:gJ (L.getD k default) (L.getD i default)=true
   ·rw[if_pos h2]
    have mm:i<L.length:=by omega
    have GM:k<L.length:=by omega
    refine oO f n _ k s (by omega) (by omega) (by rw[bm];exact hn) ⟨?_,?_⟩
    ·intro j c hj Iw hc Ba
     rw[dt mm GM,dt mm GM]
     by_cases e1:j=i
     ·rw[if_neg Iw,if_pos e1]
      by_cases e2:c=k
      ·rw[if_pos e2];exact rj h2
      ·rw[if_neg e2,if_neg (by omega)];exact LS c (by omega) Ba
     ·rw[if_neg Iw,if_neg e1,if_neg (show¬c=k by omega)]
      by_cases e3:c=i
      ·rw[if_pos e3];exact h.2 j k hj (by omega) VG hk.2
      ·rw[if_neg e3];exact h.1 j c hj e1 hc Ba
    ·intro p c hp ZS hc Ba
     have e:p=i:=by omega
     rw[dt mm GM,dt mm GM,if_neg (show¬p=k by omega),if_pos e,if_neg (show¬c=k by omega),if_neg (show¬c=i by omega)]
     exact h.1 k c (by omega) (by omega) hc Ba
   ·rw[if_neg h2]
    intro j c hj hc Ba
    by_cases e:j=i
    ·rw[e];exact wB (tE h2) (LS c (by omega) Ba)
    ·exact h.1 j c hj e hc Ba
  ·rw[if_neg h1]
   intro j c hj hc Ba
   exact h.1 j c hj (by omega) hc Ba
theorem As:∀(f n:Nat)(L:List It)(i j:Nat),n≤L.length→n≤j→(fp f n L i).getD j default=L.getD j default
 |0,_,_,_,_,_,_=>rfl
 |f+1,n,L,i,j,hn,hj=>by
  simp only[fp]
  split
  ·rename_i h1
   have hk:=nq (L:=L) h1
   split
   ·rw[As f n _ _ j (by rw[bm];exact hn) hj,dt (by omega) (by omega),if_neg (by omega),if_neg (by omega)]
   ·rfl
  ·rfl
theorem sx {L:List It}{i j:Nat}(hi:i<L.length)(hj:j<L.length):(cV L i j).Perm L:=by
 have gi:L.getD i default=L[i]:=by simp[List.getD_eq_getElem?_getD,hi]
 have gj:L.getD j default=L[j]:=by simp[List.getD_eq_getElem?_getD,hj]
 rw[List.perm_iff_count]
 intro x
 unfold cV
 rw[gi,gj,List.count_set (by rw[List.length_set];exact hj),List.count_set hi,List.getElem_set]
 have c1:L.count x≥if(L[i]==x)=true then 1 else 0:=by
  split
  ·rename_i h
   exact List.one_le_count_iff.2 (by have:=List.getElem_mem hi;rw[eq_of_beq h]at this;exact this)
  ·omega
 have c2:L.count x≥if(L[j]==x)=true then 1 else 0:=by
  split
  ·rename_i h
   exact List.one_le_count_iff.2 (by have:=List.getElem_mem hj;rw[eq_of_beq h]at this;exact this)
  ·omega
 by_cases e:i=j
 ·subst e;simp only[if_true];omega
 ·rw[if_neg e];omega
theorem sw {L:List It}{i j n:Nat}(hi:i<n)(hj:j<n):(cV L i j).take n=cV (L.take n) i j:=by
 unfold cV
 rw[List.take_set,List.take_set]
 simp only[List.getD_eq_getElem?_getD,List.getElem?_take,if_pos hi,if_pos hj]
theorem oM:∀(f n:Nat)(L:List It)(i:Nat),n≤L.length→((fp f n L i).take n).Perm (L.take n)
 |0,_,_,_,_=>List.Perm.refl _
 |f+1,n,L,i,hn=>by
  simp only[fp]
  split
  ·rename_i h1
   have hk:=nq (L:=L) h1
   split
   ·refine(oM f n _ _ (by rw[bm];exact hn)).trans ?_
    rw[sw (by omega) hk.2]
    exact sx (by rw[List.length_take];omega) (by rw[List.length_take];omega)
   ·exact List.Perm.refl _
  ·exact List.Perm.refl _
theorem tL (n:Nat):∀(i:Nat)(L:List It),n≤L.length→wK n L i→wK n (gK n i L) 0
 |0,_,_,h=>h
 |i+1,L,hn,h=>by
  rw[gK]
  refine tL n i _ (by rw[hU];exact hn) ?_
  refine oO _ n L i i (Nat.le_refl _) (Nat.le_refl _) hn ⟨?_,?_⟩
  ·intro j c hj fG hc Ba
   exact h j c (by omega) hc Ba
  ·intro p c hp Un
   omega
theorem tK (n:Nat):∀(i:Nat)(L:List It),n≤L.length→((gK n i L).take n).Perm (L.take n)
 |0,_,_=>List.Perm.refl _
 |i+1,L,hn=>by
  rw[gK]
  exact(tK n i _ (by rw[hU];exact hn)).trans (oM _ n L i hn)
theorem IE {n:Nat}{L:List It}(h:wK n L 0):∀(c:Nat),c<n→rO (L.getD 0 default) (L.getD c default):=by
 intro c
 induction c using Nat.strongRecOn with
 |_ c ih=>
  intro hc
  rcases Nat.eq_zero_or_pos c with rfl|hp
  ·exact tC _
  ·exact wB (ih ((c-1)/2) (by omega) (by omega)) (h ((c-1)/2) c (Nat.zero_le _) (by omega) hc)
theorem Fb {L:List It}{h:Nat}(hh:h<L.length):L.take (h+1)=L.take h++[L.getD h default]:=by
 rw[List.take_succ_eq_append_getElem hh];simp[List.getD_eq_getElem?_getD,hh]
theorem sW:∀(h:Nat)(L:List It),h≤L.length→wK h L 0→(dK h L).Perm (L.take h)∧(dK h L).Pairwise rO
 |0,_,_,_=>⟨by simp[dK],List.Pairwise.nil⟩
 |h+1,L,hl,hp=>by
  have h0:0<L.length:=by omega
  have hh:h<L.length:=by omega
  have hx:(ey (h+1) L).getD h default=L.getD 0 default:=by
   unfold ey kg
   rw[As (h+1-1-0) (h+1-1) (cV L 0 (h+1-1)) 0 h (by rw[bm];omega) (by omega),Nat.add_sub_cancel,dt h0 hh,if_pos rfl]
  have hq:wK h (ey (h+1) L) 0:=by
   unfold ey kg
   refine oO _ h _ 0 0 (Nat.le_refl _) (Nat.le_refl _) (by rw[bm];omega) ⟨?_,?_⟩
   ·intro j c hj YH hc XB
    rw[Nat.add_sub_cancel,dt h0 hh,dt h0 hh,if_neg (by omega),if_neg YH,if_neg (by omega),if_neg (by omega)]
    exact hp j c hj hc (by omega)
   ·intro p c wH Un
    omega
  obtain⟨i1,i2⟩:=sW h (ey (h+1) L) (by rw[dL];omega) hq
  have MY:(dK (h+1) L).Perm (L.take (h+1)):=by
   show((ey (h+1) L).getD h default::dK h (ey (h+1) L)).Perm _
   rw[hx]
   refine(List.Perm.cons _ (i1.trans (oM _ h _ 0 (by rw[bm];show h≤_;omega)))).trans ?_
   rw[Nat.add_sub_cancel]
   have e:(cV L 0 h).take (h+1)=(cV L 0 h).take h++[L.getD 0 default]:=by
    rw[Fb (by rw[bm];exact hh),dt h0 hh,if_pos rfl]
   refine(List.perm_append_singleton (L.getD 0 default) ((cV L 0 h).take h)).symm.trans ?_
   rw[←e,sw (by omega) (by omega)]
   exact sx (by rw[List.length_take];omega) (by rw[List.length_take];omega)
  refine⟨MY,?_⟩
  show((ey (h+1) L).getD h default::dK h (ey (h+1) L)).Pairwise rO
  refine List.Pairwise.cons (fun y hy=>?_) i2
  have Yc:y∈L.take (h+1):=MY.subset (List.mem_cons_of_mem _ hy)
  obtain⟨c,hc,rfl⟩:=List.getElem_of_mem Yc
  rw[List.length_take]at hc
  rw[hx,List.getElem_take]
  have:=IE hp c (by omega)
  rwa[show L.getD c default=L[c] by simp[List.getD_eq_getElem?_getD,show c<L.length by omega]]at this
def DO (L:List It):List It:=dK L.length (dy L)
theorem Fm (L:List It):(DO L).length=L.length:=mY _ _
theorem sE (L:List It):(DO L).Perm (eR L.length L)∧(DO L).Pairwise rO:=by
 have hl:=dQ L.length L
 obtain⟨h1,h2⟩:=sW L.length (dy L) (by rw[kB];exact Nat.le_refl _) (by
  unfold dy
  refine tL _ _ _ (by rw[hl];exact Nat.le_refl _) ?_
  intro j c hj hc Ba
  omega)
 refine⟨h1.trans ?_,h2⟩
 have:=tK L.length (L.length/2) (eR L.length L) (by rw[hl];exact Nat.le_refl _)
 unfold dy
 rwa[List.take_of_length_le (l:=eR L.length L) (by rw[hl];exact Nat.le_refl _)]at this
end Go.Proofs.Ytibadaomjlkoaaa
