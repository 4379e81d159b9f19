import Derived.Test.YtibadaomjlkoaaaGdc
import Derived.Test.YtibadaomjlkoaaaGb
import Derived.Test.YtibadaomjlkoaaaGdb
set_option linter.unusedVariables false
set_option linter.unusedSimpArgs false
open Go.RowKit
namespace Go.Proofs.Ytibadaomjlkoaaa
set_option maxRecDepth 10000
abbrev cE:=Nat×Nat×Nat
def cG (code n:Nat):List Bool:=(List.range n).map fun j=>decide (code/2^(n-1-j)%2=1)
theorem dg (code n:Nat):(cG code n).length=n:=by simp[cG]
abbrev gT (f:Nat)(cv:Nat→Nat)(ts:List cE):Nat→List AV:=fun j=>[.int .i64 ((ts.getD j default).1:Int),.sl f j 0 (ts.getD j default).2.2 (cv j)]
def bR (ls:List Int):List cE:=if aE ls=0 then(aF ls 15).2 else[]
section
variable{ls:List Int}{c c0:Nat}{Kp:AV→AH→Prop}
end
end Go.Proofs.Ytibadaomjlkoaaa
open Go.RowKit
namespace Go.Proofs.Ytibadaomjlkoaaa
set_option maxRecDepth 10000
theorem zx {ls:List Int}{n:Nat}{x:Nat×List cE}(hx:∀t∈x.2,t.1<ls.length∧1≤t.2.2∧t.2.2≤15∧ls.getD t.1 0=(t.2.2:Int))(hn:1≤n∧n≤15):∀i,i≤ls.length→∀t∈(cR ls n i x).2,t.1<ls.length∧1≤t.2.2∧t.2.2≤15∧ls.getD t.1 0=(t.2.2:Int)
 |0,_=>hx
 |i+1,hi=>by
  have ih:=zx hx hn i (by omega)
  rw[ba];unfold dG
  split
  ·rename_i hk
   intro t ht
   rcases List.mem_append.1 ht with ht|ht
   ·exact ih t ht
   ·obtain rfl:=List.mem_singleton.1 ht
    exact⟨by show i<_;omega,hn.1,hn.2,hk⟩
  ·exact ih
theorem vG {ls:List Int}:∀n,n≤15→∀t∈(aF ls n).2,t.1<ls.length∧1≤t.2.2∧t.2.2≤15∧ls.getD t.1 0=(t.2.2:Int)
 |0,_=>by intro t ht;cases ht
 |n+1,hn=>zx (x:=(2*(aF ls n).1,(aF ls n).2)) (vG n (by omega)) ⟨by omega,hn⟩ ls.length (Nat.le_refl _)
theorem uO {ls:List Int}{t:cE}(h:t∈bR ls):t.1<ls.length∧1≤t.2.2∧t.2.2≤15∧ls.getD t.1 0=(t.2.2:Int):=by
 unfold bR at h
 split at h
 ·exact vG 15 (Nat.le_refl _) t h
 ·cases h
theorem HH:∀l:List Bool,0≤num l
 |[]=>Int.le_refl 0
 |b::l=>by have:=HH l;simp only[num];split<;>omega
theorem D9:∀l l':List Bool,num (l++l')=num l+2^l.length*num l'
 |[],l'=>by simp[num]
 |b::l,l'=>by
  simp only[List.cons_append,num,D9 l l',List.length_cons,Int.pow_succ]
  rw[Int.mul_add,←Int.mul_assoc,Int.mul_comm 2 (2^l.length),Int.add_assoc]
theorem oO (c n:Nat):cG c (n+1)=cG (c/2) n++[decide (c%2=1)]:=by
 unfold cG
 rw[List.range_succ,List.map_append]
 congr 1
 ·apply List.map_congr_left
  intro j hj
  have rp:j<n:=by simpa using hj
  rw[show n+1-1-j=(n-1-j)+1 by omega,Nat.pow_succ,Nat.mul_comm,Nat.div_div_eq_div_mul]
 ·simp
theorem vC:∀(n c o:Nat),((jG n c o:Nat):Int)=o*2^n+num (cG c n)
 |0,c,o=>by simp[jG,cG,num]
 |n+1,c,o=>by
  simp only[jG]
  rw[vC n (c/2) (2*o+c%2),oO,D9,dg]
  have e:num [decide (c%2=1)]=((c%2:Nat):Int):=by
   simp only[num]
   rcases Nat.mod_two_eq_zero_or_one c with h|h<;>rw[h]<;>simp
  rw[e,Int.pow_succ]
  push_cast
  rw[Int.add_mul,Int.mul_comm 2 (o:Int),Int.mul_assoc,Int.mul_comm 2 (2^n),Int.mul_comm ((c:Int)%2) (2^n)]
  omega
theorem HG (c n:Nat):num (cG c n)=((jG n c 0:Nat):Int):=by rw[vC];simp
section
variable{M:AH}{K Kp:AV→AH→Prop}
end
section
variable{ls:List Int}{c c0:Nat}{Kp:AV→AH→Prop}
end
end Go.Proofs.Ytibadaomjlkoaaa
open Go.RowKit
namespace Go.Proofs.Ytibadaomjlkoaaa
set_option maxRecDepth 10000
def Ds (xs ys:List Bool):Bool:=decide (ys.length≤xs.length)&&decide (xs.take ys.length=ys)
section
variable{xs ys:List Bool}{c0 c1 c d:Nat}{M:AH}{K Kp:AV→AH→Prop}
def gm (row:List Bool)(a b:Nat):List Bool:=(row.drop a).take (b-a)
def tU (zq:List Bool)(t:cE):Bool:=decide (cG t.2.1 t.2.2=zq)
def Fx (ts:List cE)(row:List Bool)(a:Nat):Nat→Nat→Int×Nat×Int
 |0,b=>(0,b,50)
 |f+1,b=>match ts.find? (tU (gm row a b))with
  |some t=>((t.1:Int),b,0)
  |none=>if ts.any (fun t=>Ds (cG t.2.1 t.2.2) (gm row a b))=true then if b=row.length then(0,b,50)else Fx ts row a f (b+1)else(0,b,60)
def OD (ts:List cE)(row:List Bool)(a:Nat):Int×Nat×Int:=Fx ts row a (row.length-a+1) a
end
end Go.Proofs.Ytibadaomjlkoaaa
open Go.RowKit
namespace Go.Proofs.Ytibadaomjlkoaaa
def Dp (b:Bool):Nat:=if b=true then 1 else 0
def lN (l:List Bool):Nat:=l.foldl (fun v b=>2*v+Dp b) 0
theorem pX (l:List Bool)(b:Bool):lN (l++[b])=2*lN l+Dp b:=by unfold lN;rw[List.foldl_append];rfl
theorem mK:∀(n c:Nat),c<2^n→lN (cG c n)=c
 |0,c,h=>by
  have:c=0:=by simpa using h
  subst this;rfl
 |n+1,c,h=>by
  rw[oO,pX,mK n (c/2) (by rw[Nat.pow_succ]at h;omega)]
  unfold Dp
  rcases Nat.mod_two_eq_zero_or_one c with e|e<;>simp[e]<;>omega
theorem qP:∀(n:Nat)(l:List Bool),l.length=n→cG (lN l) n=l
 |0,l,h=>by
  obtain rfl:=List.eq_nil_of_length_eq_zero h
  rfl
 |n+1,l,h=>by
  rcases List.eq_nil_or_concat l with rfl|⟨l,b,rfl⟩
  ·simp at h
  ·simp only[List.concat_eq_append]at h⊢
   rw[List.length_append,List.length_singleton]at h
   rw[oO,pX]
   have h1:(2*lN l+Dp b)/2=lN l:=by unfold Dp;split<;>omega
   have h2:decide ((2*lN l+Dp b)%2=1)=b:=by
    unfold Dp
    cases b<;>simp
   rw[h1,h2,qP n l (by omega)]
theorem Dn (c N n:Nat)(h:n≤N):(cG c N).take n=cG (c/2^(N-n)) n:=by
 unfold cG
 rw[←List.map_take,List.take_range,Nat.min_eq_left h]
 apply List.map_congr_left
 intro j hj
 have rp:j<n:=by simpa using hj
 rw[Nat.div_div_eq_div_mul,←Nat.pow_add,show N-n+(n-1-j)=N-1-j by omega]
def preB (c n:Nat)(t:cE):Bool:=decide (n≤t.2.2)&&decide (t.2.1/2^(t.2.2-n)=c)
theorem AJ {t:cE}{zq:List Bool}(ht:t.2.1<2^t.2.2):Ds (cG t.2.1 t.2.2) zq=preB (lN zq) zq.length t:=by
 unfold Ds preB
 rw[dg]
 by_cases h:zq.length≤t.2.2
 ·rw[decide_eq_true h,Bool.true_and,Bool.true_and,decide_eq_decide,Dn _ _ _ h]
  have aZ:t.2.1/2^(t.2.2-zq.length)<2^zq.length:=by
   apply Nat.div_lt_of_lt_mul
   rw[←Nat.pow_add,show t.2.2-zq.length+zq.length=t.2.2 by omega]
   exact ht
  constructor
  ·intro e
   have:=congrArg lN e
   rw[mK _ _ aZ]at this
   exact this
  ·intro e
   rw[e]
   exact qP _ zq rfl
 ·rw[decide_eq_false h];rfl
theorem L4 {t:cE}{zq:List Bool}(ht:t.2.1<2^t.2.2):tU zq t=(decide (t.2.2=zq.length)&&decide (t.2.1=lN zq)):=by
 unfold tU
 by_cases h:t.2.2=zq.length
 ·rw[decide_eq_true h,Bool.true_and,decide_eq_decide]
  constructor
  ·intro e
   have:=congrArg lN e
   rw[mK _ _ ht]at this
   exact this
  ·intro e
   rw[e,h]
   exact qP _ zq rfl
 ·rw[decide_eq_false h,Bool.false_and,decide_eq_false_iff_not]
  intro e
  have:=congrArg List.length e
  rw[dg]at this
  exact h this
def wN (ts:List cE):Prop:=ts.Pairwise fun a b=>preB a.2.1 a.2.2 b=false
def HW (ts:List cE)(c n:Nat):Option Int:=
 match ts.find? (fun t=>decide (t.2.2=n)&&decide (t.2.1=c))with
 |some t=>some (t.1:Int)
 |none=>if ts.any (preB c n)=true then some (-1)else none
theorem ue (t:cE)(c n:Nat):∀(k:Nat)(es:List ((Int×Int)×Int)),bS ((c:Int),(n:Int)) (wX t k es)=if n<k∧c=t.2.1/2^(t.2.2-n)then some (-1)else bS ((c:Int),(n:Int)) es
 |0,es=>by rw[if_neg (by omega)];rfl
 |k+1,es=>by
  rw[wX,ue t c n k,j8]
  by_cases h1:n<k∧c=t.2.1/2^(t.2.2-n)
  ·rw[if_pos h1,if_pos ⟨by omega,h1.2⟩]
  ·rw[if_neg h1]
   by_cases h2:n=k∧c=t.2.1/2^(t.2.2-n)
   ·obtain⟨rfl,h2⟩:=h2
    rw[if_pos (show((c:Int),(n:Int))=(((t.2.1/2^(t.2.2-n):Nat):Int),(n:Int)) by rw[←h2]),if_pos ⟨by omega,h2⟩]
   ·have a1:¬((c:Int),(n:Int))=(((t.2.1/2^(t.2.2-k):Nat):Int),(k:Int)):=by
     intro h
     simp only[Prod.mk.injEq]at h
     have e1:n=k:=by omega
     subst e1
     exact h2 ⟨rfl,by have:=h.1;omega⟩
    have a2:¬(n<k+1∧c=t.2.1/2^(t.2.2-n)):=by
     intro h
     rcases Nat.lt_or_eq_of_le (Nat.le_of_lt_succ h.1)with h3|h3
     ·exact h1 ⟨h3,h.2⟩
     ·exact h2 ⟨h3,h.2⟩
    rw[if_neg a1,if_neg a2]
theorem wQ (t:cE)(c n:Nat)(es:List ((Int×Int)×Int)):bS ((c:Int),(n:Int)) (zO es t)=if n<t.2.2∧c=t.2.1/2^(t.2.2-n)then some (-1)else if c=t.2.1∧n=t.2.2 then some (t.1:Int)else bS ((c:Int),(n:Int)) es:=by
 unfold zO
 rw[ue,j8]
 split
 ·rfl
 ·by_cases h:c=t.2.1∧n=t.2.2
  ·rw[if_pos h,if_pos (by rw[h.1,h.2])]
  ·rw[if_neg h,if_neg (fun e=>by simp only[Prod.mk.injEq]at e;exact h ⟨by omega,by omega⟩)]
theorem sV {c n:Nat}{t:cE}:preB c n t=true↔(n<t.2.2∧c=t.2.1/2^(t.2.2-n))∨(c=t.2.1∧n=t.2.2):=by
 unfold preB
 simp only[Bool.and_eq_true,decide_eq_true_eq]
 constructor
 ·rintro⟨h1,h2⟩
  rcases Nat.lt_or_eq_of_le h1 with h|h
  ·exact .inl ⟨h,h2.symm⟩
  ·subst h;simp at h2;exact .inr ⟨h2.symm,rfl⟩
 ·rintro(⟨h1,h2⟩|⟨rfl,rfl⟩)
  ·exact⟨by omega,h2.symm⟩
  ·simp
theorem Ak:∀(n0:Nat)(ts:List cE),ts.length=n0→wN ts→∀c n:Nat,bS ((c:Int),(n:Int)) (cn ts [])=HW ts c n
 |0,ts,h,_,c,n=>by
  obtain rfl:=List.eq_nil_of_length_eq_zero h
  rfl
 |n0+1,ts,h,hf,c,n=>by
  rcases List.eq_nil_or_concat ts with rfl|⟨ts,t,rfl⟩
  ·simp at h
  ·simp only[List.concat_eq_append]at h hf⊢
   rw[List.length_append,List.length_singleton]at h
   have yj:wN ts∧∀a∈ts,preB a.2.1 a.2.2 t=false:=by
    unfold wN at hf⊢
    rw[List.pairwise_append]at hf
    exact⟨hf.1,fun a ha=>hf.2.2 a ha t (by simp)⟩
   have ih:=Ak n0 ts (by omega) yj.1 c n
   rw[nd,wQ,ih]
   unfold HW
   rw[List.find?_append,List.any_append]
   have rl:preB c n t=true→ts.find? (fun t=>decide (t.2.2=n)&&decide (t.2.1=c))=none:=by
    intro hp
    rw[List.find?_eq_none]
    intro a ha
    simp only[Bool.and_eq_true,decide_eq_true_eq]
    rintro⟨e1,e2⟩
    have:=yj.2 a ha
    rw[e1,e2,hp]at this
    cases this
   by_cases h1:n<t.2.2∧c=t.2.1/2^(t.2.2-n)
   ·have hp:preB c n t=true:=sV.2 (.inl h1)
    rw[if_pos h1,rl hp]
    have RW:(decide (t.2.2=n)&&decide (t.2.1=c))=false:=by rw[decide_eq_false (by omega)];rfl
    simp only[List.find?_cons,RW,List.find?_nil,Option.none_or,List.any_cons,hp,List.any_nil,Bool.or_false,Bool.or_true,if_true]
   ·rw[if_neg h1]
    by_cases h2:c=t.2.1∧n=t.2.2
    ·have hp:preB c n t=true:=sV.2 (.inr h2)
     rw[if_pos h2,rl hp]
     have RW:(decide (t.2.2=n)&&decide (t.2.1=c))=true:=by rw[h2.1,h2.2];simp
     simp only[List.find?_cons,RW,Option.none_or]
    ·rw[if_neg h2]
     have hp:preB c n t=false:=by
      cases hp:preB c n t with
      |false=>rfl
      |true=>rcases sV.1 hp with h|h
             ·exact absurd h h1
             ·exact absurd h h2
     have RW:(decide (t.2.2=n)&&decide (t.2.1=c))=false:=by
      rw[Bool.and_eq_false_iff]
      by_cases e:t.2.2=n
      ·right;rw[decide_eq_false_iff_not];intro e2;exact h2 ⟨e2.symm,e.symm⟩
      ·left;exact decide_eq_false e
     simp only[List.find?_cons,RW,List.find?_nil,Option.or_none,List.any_cons,hp,List.any_nil,Bool.or_false]
def cV (ts:List cE):Nat:=(ts.map fun t=>2^(15-t.2.2)).sum
theorem sH (ts:List cE)(t:cE):cV (ts++[t])=cV ts+2^(15-t.2.2):=by simp[cV]
def u9:List cE→Prop:=fun ts=>∀a b t,ts=a++t::b→t.2.1*2^(15-t.2.2)=cV a∧t.2.2≤15
theorem Fu {ts:List cE}{t:cE}(h:u9 ts)(h1:t.2.1*2^(15-t.2.2)=cV ts)(h2:t.2.2≤15):u9 (ts++[t]):=by
 intro a b x e
 rcases List.eq_nil_or_concat b with rfl|⟨b,y,rfl⟩
 ·have:=List.append_inj' e rfl
  obtain⟨rfl,e2⟩:=this
  obtain rfl:t=x:=by simpa using e2
  exact⟨h1,h2⟩
 ·simp only[List.concat_eq_append]at e
  rw[←List.cons_append,←List.append_assoc]at e
  have:=List.append_inj' e rfl
  exact h a b x this.1
theorem zw {ls:List Int}{n:Nat}{x:Nat×List cE}(hn:n≤15)(h:u9 x.2)(h2:x.1*2^(15-n)=cV x.2):∀i,u9 (cR ls n i x).2∧(cR ls n i x).1*2^(15-n)=cV (cR ls n i x).2
 |0=>⟨h,h2⟩
 |i+1=>by
  obtain⟨i1,i2⟩:=zw (ls:=ls) hn h h2 i
  rw[ba];unfold dG
  split
  ·refine⟨Fu i1 i2 hn,?_⟩
   show((cR ls n i x).1+1)*2^(15-n)=_
   rw[sH,Nat.add_mul,i2,Nat.one_mul]
  ·exact⟨i1,i2⟩
theorem vE {ls:List Int}:∀n,n≤15→u9 (aF ls n).2∧(aF ls n).1*2^(15-n)=cV (aF ls n).2
 |0,_=>⟨fun a b t e=>by simp[aF]at e,by simp[aF,cV]⟩
 |n+1,hn=>by
  obtain⟨h1,h2⟩:=vE (ls:=ls) n (by omega)
  refine zw (x:=(2*(aF ls n).1,(aF ls n).2)) hn h1 ?_ ls.length
  show 2*(aF ls n).1*2^(15-(n+1))=_
  rw[←h2,show 15-n=(15-(n+1))+1 by omega,Nat.pow_succ,Nat.mul_comm 2,Nat.mul_assoc,Nat.mul_comm 2]
def u2 (ls:List Int)(n:Nat):Nat→Nat
 |0=>0
 |i+1=>u2 ls n i+if 0<ls.getD i 0∧ls.getD i 0≤(n:Int)then 2^(15-(ls.getD i 0).toNat)else 0
theorem vL (ls:List Int):∀i,u2 ls 0 i=0
 |0=>rfl
 |i+1=>by rw[u2,vL ls i,if_neg (by omega)]
theorem vV (ls:List Int)(n:Nat)(x:Nat×List cE):∀i,cV (cR ls (n+1) i x).2+u2 ls n i=cV x.2+u2 ls (n+1) i
 |0=>rfl
 |i+1=>by
  have ih:=vV ls n x i
  rw[ba,u2,u2]
  unfold dG
  by_cases h:ls.getD i 0=((n+1:Nat):Int)
  ·rw[if_pos h]
   show cV ((cR ls (n+1) i x).2++[_])+_=_
   rw[sH,if_neg (by omega),if_pos (by omega),h,Int.toNat_natCast]
   show cV _+2^(15-(n+1))+_=_
   omega
  ·rw[if_neg h]
   by_cases h2:0<ls.getD i 0∧ls.getD i 0≤(n:Int)
   ·rw[if_pos h2,if_pos (by omega)];omega
   ·rw[if_neg h2,if_neg (by omega)];omega
theorem ss (ls:List Int):∀n,cV (aF ls n).2=u2 ls n ls.length
 |0=>by rw[vL];rfl
 |n+1=>by
  have:=vV ls n (2*(aF ls n).1,(aF ls n).2) ls.length
  have ih:=ss ls n
  show cV (cR ls (n+1) ls.length (2*(aF ls n).1,(aF ls n).2)).2=_
  have e:cV (2*(aF ls n).1,(aF ls n).2).2=cV (aF ls n).2:=rfl
  omega
theorem ze {ls:List Int}(h:∀i,i<ls.length→ls.getD i 0≤15):∀i,i≤ls.length→u2 ls 15 i=br ls i
 |0,_=>rfl
 |i+1,hi=>by
  rw[u2,br,ze h i (by omega)]
  have:=h i (by omega)
  by_cases h2:0<ls.getD i 0
  ·rw[if_pos ⟨h2,by omega⟩,if_pos h2]
  ·rw[if_neg (by omega),if_neg h2]
theorem ny (ls:List Int):cV (bR ls)≤32768:=by
 unfold bR
 split
 ·rename_i h
  have hb:fJ ls=false:=by
   cases hb:fJ ls with
   |false=>rfl
   |true=>rw[g8 hb]at h;cases h
  have hf:bt ls=true:=by
   cases hf:bt ls with
   |true=>rfl
   |false=>rw[mv hb hf]at h;cases h
  have qI:∀i,i<ls.length→ls.getD i 0≤15:=by
   intro i hi
   unfold fJ at hb
   simp only[Bool.or_eq_false_iff]at hb
   have:=List.any_eq_false.1 hb.2 _ (oE (d:=0) hi)
   simp only[qQ,decide_eq_true_eq]at this
   omega
  rw[ss,ze qI _ (Nat.le_refl _)]
  unfold bt at hf
  simp only[Bool.or_eq_true,Bool.and_eq_true,decide_eq_true_eq]at hf
  have hz:∀i,bQ ls i=0→br ls i=0:=by
   intro i
   induction i with
   |zero=>intro _;rfl
   |succ i ih=>
    intro hc
    simp only[bQ]at hc
    simp only[br]
    split at hc
    ·omega
    ·rename_i h0;rw[if_neg h0,ih (by omega)]
  rcases hf with(hf|hf)|hf
  ·omega
  ·rw[hz _ hf];omega
  ·omega
 ·exact Nat.zero_le _
theorem kj (ls:List Int):u9 (bR ls):=by
 unfold bR;split
 ·exact(vE 15 (Nat.le_refl _)).1
 ·intro a b t e;simp at e
theorem p7 (a b:List cE):cV (a++b)=cV a+cV b:=by simp[cV]
theorem n8 (t:cE)(b:List cE):cV (t::b)=2^(15-t.2.2)+cV b:=by simp[cV]
theorem xI {ts:List cE}(h:u9 ts)(hs:cV ts≤32768){t:cE}(ht:t∈ts):t.2.1<2^t.2.2∧t.2.2≤15:=by
 obtain⟨a,b,rfl⟩:=List.append_of_mem ht
 obtain⟨h1,h2⟩:=h a b t rfl
 refine⟨?_,h2⟩
 rw[p7,n8,←h1]at hs
 have e:(32768:Nat)=2^t.2.2*2^(15-t.2.2):=by rw[←Nat.pow_add,show t.2.2+(15-t.2.2)=15 by omega]
 have h3:(t.2.1+1)*2^(15-t.2.2)≤2^t.2.2*2^(15-t.2.2):=by rw[←e,Nat.add_mul,Nat.one_mul];omega
 have:=Nat.le_of_mul_le_mul_right h3 (Nat.pow_pos (by omega))
 omega
theorem zu {ts:List cE}(h:u9 ts):wN ts:=by
 unfold wN
 rw[List.pairwise_iff_getElem]
 intro i j hi hj rq
 have e1:ts=ts.take i++ts[i]::ts.drop (i+1):=by rw[←List.drop_eq_getElem_cons hi,List.take_append_drop]
 have e2:ts=ts.take j++ts[j]::ts.drop (j+1):=by rw[←List.drop_eq_getElem_cons hj,List.take_append_drop]
 obtain⟨a1,a2⟩:=h _ _ _ e1
 obtain⟨b1,b2⟩:=h _ _ _ e2
 generalize ts[i]=x at*
 generalize ts[j]=y at*
 have hle:cV (ts.take i)+2^(15-x.2.2)≤cV (ts.take j):=by
  have e3:ts.take j=ts.take i++x::(ts.take j).drop (i+1):=by
   have:(ts.take j)[i]?=some x:=by
    rw[List.getElem?_take,if_pos rq]
    conv=>lhs;rw[e1]
    rw[List.getElem?_append_right (by simp;omega)]
    simp[Nat.min_eq_left (Nat.le_of_lt hi)]
   obtain⟨Ez,e4⟩:=List.getElem?_eq_some_iff.1 this
   have e5:=List.take_append_drop i (ts.take j)
   rw[List.drop_eq_getElem_cons Ez,e4,List.take_take,Nat.min_eq_left (Nat.le_of_lt rq)]at e5
   exact e5.symm
  rw[e3,p7,n8];omega
 cases hp:preB x.2.1 x.2.2 y with
 |false=>rfl
 |true=>
  exfalso
  unfold preB at hp
  simp only[Bool.and_eq_true,decide_eq_true_eq]at hp
  obtain⟨p1,p2⟩:=hp
  have hy:y.2.1<(x.2.1+1)*2^(y.2.2-x.2.2):=by
   rw[←p2]
   have:=Nat.lt_div_mul_add (a:=y.2.1) (b:=2^(y.2.2-x.2.2)) (Nat.pow_pos (by omega))
   rw[Nat.add_mul,Nat.one_mul];exact this
  have hm:y.2.1*2^(15-y.2.2)<(x.2.1+1)*2^(y.2.2-x.2.2)*2^(15-y.2.2):=Nat.mul_lt_mul_of_pos_right hy (Nat.pow_pos (by omega))
  rw[Nat.mul_assoc,←Nat.pow_add,show y.2.2-x.2.2+(15-y.2.2)=15-x.2.2 by omega,Nat.add_mul,Nat.one_mul,b1,a1]at hm
  omega
theorem Hk {row:List Bool}{a b:Nat}(hb:b≤row.length):(gm row a b).length=b-a:=by
 unfold gm;rw[List.length_take,List.length_drop];omega
theorem Fp {row:List Bool}{a b:Nat}(ha:a≤b)(hb:b<row.length):gm row a (b+1)=gm row a b++[row.getD b false]:=by
 unfold gm
 rw[show b+1-a=(b-a)+1 by omega,List.take_succ_eq_append_getElem (by rw[List.length_drop];omega),List.getElem_drop,List.getD_eq_getElem?_getD,List.getElem?_eq_getElem hb]
 congr 2
 simp only[Option.getD_some]
 congr 1;omega
theorem Dv {α:Type}{l:List α}{p q:α→Bool}(h:∀x∈l,p x=q x):l.any p=l.any q:=by
 induction l with
 |nil=>rfl
 |cons x l ih=>rw[List.any_cons,List.any_cons,h x List.mem_cons_self,ih fun y hy=>h y (List.mem_cons_of_mem _ hy)]
theorem Al {α:Type}{l:List α}{p q:α→Bool}(h:∀x∈l,p x=q x):l.find? p=l.find? q:=by
 induction l with
 |nil=>rfl
 |cons x l ih=>rw[List.find?_cons,List.find?_cons,h x List.mem_cons_self,ih fun y hy=>h y (List.mem_cons_of_mem _ hy)]
theorem v3 {ts:List cE}(aZ:∀t∈ts,t.2.1<2^t.2.2)(jr:wN ts){row:List Bool}{a:Nat}:∀(f b:Nat),a≤b→b≤row.length→
 lV (cn ts []) row f (lN (gm row a b)) (b-a) b=Fx ts row a f b
 |0,b,_,_=>rfl
 |f+1,b,JK,hb=>by
  have cQ:=Hk (a:=a) hb
  have h1:ts.find? (tU (gm row a b))=ts.find? (fun t=>decide (t.2.2=b-a)&&decide (t.2.1=lN (gm row a b))):=
   Al fun t ht=>by rw[L4 (aZ t ht),cQ]
  have h2:ts.any (fun t=>Ds (cG t.2.1 t.2.2) (gm row a b))=ts.any (preB (lN (gm row a b)) (b-a)):=
   Dv fun t ht=>by rw[AJ (aZ t ht),cQ]
  simp only[lV,Fx]
  rw[Ak _ ts rfl jr,h1,h2]
  unfold HW
  cases hf:ts.find? (fun t=>decide (t.2.2=b-a)&&decide (t.2.1=lN (gm row a b)))with
  |some t=>
   simp only
   rw[if_pos (Int.natCast_nonneg _)]
  |none=>
   simp only
   cases ha:ts.any (preB (lN (gm row a b)) (b-a))with
   |false=>rfl
   |true=>
    simp only[if_true]
    rw[if_neg (by omega)]
    by_cases e:b=row.length
    ·rw[if_pos (by omega),if_pos e]
    ·rw[if_neg (by omega),if_neg e]
     have ih:=v3 aZ jr (row:=row) (a:=a) f (b+1) (by omega) (by omega)
     rw[Fp JK (by omega),pX,show b+1-a=b-a+1 by omega]at ih
     exact ih
theorem Bb {ls:List Int}{row:List Bool}{a:Nat}(ha:a≤row.length):ey (cn (bR ls) []) row a=OD (bR ls) row a:=by
 unfold ey OD
 have:=v3 (fun t ht=>(xI (kj ls) (ny ls) ht).1) (zu (kj ls)) (row:=row) (a:=a) (row.length-a+1) a (Nat.le_refl _) ha
 have e:gm row a a=[]:=by unfold gm;rw[Nat.sub_self,List.take_zero]
 rw[e,Nat.sub_self]at this
 exact this
def fq (es:List ((Int×Int)×Int)):Prop:=∀k z,bS k es=some z→k.2≤15
theorem wE {es:List ((Int×Int)×Int)}(h:fq es){k:Int×Int}(hk:k.2≤15)(z:Int):fq (lA k z es):=by
 intro k' z' e
 rw[j8]at e
 split at e
 ·rename_i e2;rw[e2];exact hk
 ·exact h k' z' e
theorem tH (t:cE):∀(k:Nat){es:List ((Int×Int)×Int)},k≤16→fq es→fq (wX t k es)
 |0,_,_,h=>h
 |k+1,_,hk,h=>tH t k (by omega) (wE h (by show((k:Nat):Int)≤15;omega) _)
theorem FV {ts:List cE}(h:∀t∈ts,t.2.2≤15):∀es,fq es→fq (cn ts es):=by
 induction ts with
 |nil=>intro es h;exact h
 |cons t ts ih=>
  intro es he
  exact ih (fun x hx=>h x (List.mem_cons_of_mem _ hx)) _ (tH t _ (by have:=h t List.mem_cons_self;omega) (wE he (by have:=h t List.mem_cons_self;show((t.2.2:Nat):Int)≤15;omega) _))
theorem gW (ls:List Int):fq (cn (bR ls) []):=FV (fun t ht=>(xI (kj ls) (ny ls) ht).2) [] (fun k z e=>by cases e)
end Go.Proofs.Ytibadaomjlkoaaa
open Go.RowKit
namespace Go.Proofs.Ytibadaomjlkoaaa
def rO (a b:It):Prop:=a.w<b.w∨(a.w=b.w∧a.k≤b.k)
theorem tC (a:It):rO a a:=.inr ⟨rfl,Int.le_refl _⟩
theorem wD {a b c:It}(h1:rO a b)(h2:rO b c):rO a c:=by unfold rO at*;omega
theorem ri {a b:It}(h:gF a b=true):rO a b:=by
 simp only[gF,Bool.or_eq_true,Bool.and_eq_true,decide_eq_true_eq]at h;unfold rO;omega
theorem tE {a b:It}(h:¬gF b a=true):rO a b:=by
 simp only[gF,Bool.or_eq_true,Bool.and_eq_true,decide_eq_true_eq]at h;unfold rO;omega
theorem dr {L:List It}{i j:Nat}(hi:i<L.length)(hj:j<L.length)(r:Nat):(cU L i j).getD r default=if r=j then L.getD i default else if r=i then L.getD j default else L.getD r default:=by
 unfold cU
 simp only[List.getD_eq_getElem?_getD,List.getElem?_set,List.length_set]
 by_cases h1:r=j
 ·subst h1;simp[hj]
 ·rw[if_neg (fun h=>h1 h.symm),if_neg h1]
  by_cases h2:r=i
  ·subst h2;simp[hi]
  ·rw[if_neg (fun h=>h2 h.symm),if_neg h2]
def wL (n:Nat)(L:List It)(s:Nat):Prop:=∀j c,s≤j→(c=2*j+1∨c=2*j+2)→c<n→rO (L.getD j default) (L.getD c default)
def RT (n:Nat)(L:List It)(s i:Nat):Prop:=(∀j c,s≤j→j≠i→(c=2*j+1∨c=2*j+2)→c<n→rO (L.getD j default) (L.getD c default))∧
 ∀p c,s≤p→(i=2*p+1∨i=2*p+2)→(c=2*i+1∨c=2*i+2)→c<n→rO (L.getD p default) (L.getD c default)
theorem oJ:∀(f n:Nat)(L:List It)(i s:Nat),n-i≤f→s≤i→n≤L.length→RT n L s i→wL n (fo f n L i) s
 |0,n,L,i,s,hf,hs,hn,h=>by
  intro j c hj hc A8
  exact h.1 j c hj (by omega) hc A8
 |f+1,n,L,i,s,hf,hs,hn,h=>by
  simp only[fo]
  by_cases h1:2*i+1<n
  ·rw[if_pos h1]
   have hk:=nh (L:=L) h1
   have VH:iY n L i=2*i+1∨iY n L i=2*i+2:=by unfold iY;split<;>omega
   have LW:∀c,(c=2*i+1∨c=2*i+2)→c<n→rO (L.getD (iY n L i) default) (L.getD c default):=by
    intro c hc A8
    unfold iY
    by_cases h3:2*i+2<n∧gF (L.getD (2*i+2) default) (L.getD (2*i+1) default)=true
    ·rw[if_pos h3]
     rcases hc with rfl|rfl
     ·exact ri h3.2
     ·exact tC _
    ·rw[if_neg h3]
     rcases hc with rfl|rfl
     ·exact tC _
     ·exact tE (fun h4=>h3 ⟨A8,h4⟩)
   generalize iY n L i=k at*
   by_cases h2:gF (L.getD k default) (L.getD i default)=true
   ·rw[if_pos h2]
    have mg:i<L.length:=by omega
    have GL:k<L.length:=by omega
    refine oJ f n _ k s (by omega) (by omega) (by rw[bm];exact hn) ⟨?_,?_⟩
    ·intro j c hj Iw hc A8
     rw[dr mg GL,dr mg GL]
     by_cases e1:j=i
     ·rw[if_neg Iw,if_pos e1]
      by_cases e2:c=k
      ·rw[if_pos e2];exact ri h2
      ·rw[if_neg e2,if_neg (by omega)];exact LW c (by omega) A8
     ·rw[if_neg Iw,if_neg e1,if_neg (show¬c=k by omega)]
      by_cases e3:c=i
      ·rw[if_pos e3];exact h.2 j k hj (by omega) VH hk.2
      ·rw[if_neg e3];exact h.1 j c hj e1 hc A8
    ·intro p c hp ZT hc A8
     have e:p=i:=by omega
     rw[dr mg GL,dr mg GL,if_neg (show¬p=k by omega),if_pos e,if_neg (show¬c=k by omega),if_neg (show¬c=i by omega)]
     exact h.1 k c (by omega) (by omega) hc A8
   ·rw[if_neg h2]
    intro j c hj hc A8
    by_cases e:j=i
    ·rw[e];exact wD (tE h2) (LW c (by omega) A8)
    ·exact h.1 j c hj e hc A8
  ·rw[if_neg h1]
   intro j c hj hc A8
   exact h.1 j c hj (by omega) hc A8
theorem As:∀(f n:Nat)(L:List It)(i j:Nat),n≤L.length→n≤j→(fo f n L i).getD j default=L.getD j default
 |0,_,_,_,_,_,_=>rfl
 |f+1,n,L,i,j,hn,hj=>by
  simp only[fo]
  split
  ·rename_i h1
   have hk:=nh (L:=L) h1
   split
   ·rw[As f n _ _ j (by rw[bm];exact hn) hj,dr (by omega) (by omega),if_neg (by omega),if_neg (by omega)]
   ·rfl
  ·rfl
theorem sx {L:List It}{i j:Nat}(hi:i<L.length)(hj:j<L.length):(cU L i j).Perm L:=by
 have gi:L.getD i default=L[i]:=by simp[List.getD_eq_getElem?_getD,hi]
 have gj:L.getD j default=L[j]:=by simp[List.getD_eq_getElem?_getD,hj]
 rw[List.perm_iff_count]
 intro x
 unfold cU
 rw[gi,gj,List.count_set (by rw[List.length_set];exact hj),List.count_set hi,List.getElem_set]
 have c1:L.count x≥if(L[i]==x)=true then 1 else 0:=by
  split
  ·rename_i h
   exact List.one_le_count_iff.2 (by have:=List.getElem_mem hi;rw[eq_of_beq h]at this;exact this)
  ·omega
 have c2:L.count x≥if(L[j]==x)=true then 1 else 0:=by
  split
  ·rename_i h
   exact List.one_le_count_iff.2 (by have:=List.getElem_mem hj;rw[eq_of_beq h]at this;exact this)
  ·omega
 by_cases e:i=j
 ·subst e;simp only[if_true];omega
 ·rw[if_neg e];omega
theorem sw {L:List It}{i j n:Nat}(hi:i<n)(hj:j<n):(cU L i j).take n=cU (L.take n) i j:=by
 unfold cU
 rw[List.take_set,List.take_set]
 simp only[List.getD_eq_getElem?_getD,List.getElem?_take,if_pos hi,if_pos hj]
theorem oI:∀(f n:Nat)(L:List It)(i:Nat),n≤L.length→((fo f n L i).take n).Perm (L.take n)
 |0,_,_,_,_=>List.Perm.refl _
 |f+1,n,L,i,hn=>by
  simp only[fo]
  split
  ·rename_i h1
   have hk:=nh (L:=L) h1
   split
   ·refine(oI f n _ _ (by rw[bm];exact hn)).trans ?_
    rw[sw (by omega) hk.2]
    exact sx (by rw[List.length_take];omega) (by rw[List.length_take];omega)
   ·exact List.Perm.refl _
  ·exact List.Perm.refl _
theorem tL (n:Nat):∀(i:Nat)(L:List It),n≤L.length→wL n L i→wL n (gG n i L) 0
 |0,_,_,h=>h
 |i+1,L,hn,h=>by
  rw[gG]
  refine tL n i _ (by rw[g9];exact hn) ?_
  refine oJ _ n L i i (Nat.le_refl _) (Nat.le_refl _) hn ⟨?_,?_⟩
  ·intro j c hj fC hc A8
   exact h j c (by omega) hc A8
  ·intro p c hp Uo
   omega
theorem tK (n:Nat):∀(i:Nat)(L:List It),n≤L.length→((gG n i L).take n).Perm (L.take n)
 |0,_,_=>List.Perm.refl _
 |i+1,L,hn=>by
  rw[gG]
  exact(tK n i _ (by rw[g9];exact hn)).trans (oI _ n L i hn)
theorem IE {n:Nat}{L:List It}(h:wL n L 0):∀(c:Nat),c<n→rO (L.getD 0 default) (L.getD c default):=by
 intro c
 induction c using Nat.strongRecOn with
 |_ c ih=>
  intro hc
  rcases Nat.eq_zero_or_pos c with rfl|hp
  ·exact tC _
  ·exact wD (ih ((c-1)/2) (by omega) (by omega)) (h ((c-1)/2) c (Nat.zero_le _) (by omega) hc)
theorem E8 {L:List It}{h:Nat}(hh:h<L.length):L.take (h+1)=L.take h++[L.getD h default]:=by
 rw[List.take_succ_eq_append_getElem hh];simp[List.getD_eq_getElem?_getD,hh]
theorem sW:∀(h:Nat)(L:List It),h≤L.length→wL h L 0→(dJ h L).Perm (L.take h)∧(dJ h L).Pairwise rO
 |0,_,_,_=>⟨by simp[dJ],List.Pairwise.nil⟩
 |h+1,L,hl,hp=>by
  have h0:0<L.length:=by omega
  have hh:h<L.length:=by omega
  have hx:(eA (h+1) L).getD h default=L.getD 0 default:=by
   unfold eA kd
   rw[As (h+1-1-0) (h+1-1) (cU L 0 (h+1-1)) 0 h (by rw[bm];omega) (by omega),Nat.add_sub_cancel,dr h0 hh,if_pos rfl]
  have hq:wL h (eA (h+1) L) 0:=by
   unfold eA kd
   refine oJ _ h _ 0 0 (Nat.le_refl _) (Nat.le_refl _) (by rw[bm];omega) ⟨?_,?_⟩
   ·intro j c hj YL hc XB
    rw[Nat.add_sub_cancel,dr h0 hh,dr h0 hh,if_neg (by omega),if_neg YL,if_neg (by omega),if_neg (by omega)]
    exact hp j c hj hc (by omega)
   ·intro p c wI Uo
    omega
  obtain⟨i1,i2⟩:=sW h (eA (h+1) L) (by rw[dK];omega) hq
  have M5:(dJ (h+1) L).Perm (L.take (h+1)):=by
   show((eA (h+1) L).getD h default::dJ h (eA (h+1) L)).Perm _
   rw[hx]
   refine(List.Perm.cons _ (i1.trans (oI _ h _ 0 (by rw[bm];show h≤_;omega)))).trans ?_
   rw[Nat.add_sub_cancel]
   have e:(cU L 0 h).take (h+1)=(cU L 0 h).take h++[L.getD 0 default]:=by
    rw[E8 (by rw[bm];exact hh),dr h0 hh,if_pos rfl]
   refine(List.perm_append_singleton (L.getD 0 default) ((cU L 0 h).take h)).symm.trans ?_
   rw[←e,sw (by omega) (by omega)]
   exact sx (by rw[List.length_take];omega) (by rw[List.length_take];omega)
  refine⟨M5,?_⟩
  show((eA (h+1) L).getD h default::dJ h (eA (h+1) L)).Pairwise rO
  refine List.Pairwise.cons (fun y hy=>?_) i2
  have Yf:y∈L.take (h+1):=M5.subset (List.mem_cons_of_mem _ hy)
  obtain⟨c,hc,rfl⟩:=List.getElem_of_mem Yf
  rw[List.length_take]at hc
  rw[hx,List.getElem_take]
  have:=IE hp c (by omega)
  rwa[show L.getD c default=L[c] by simp[List.getD_eq_getElem?_getD,show c<L.length by omega]]at this
def DM (L:List It):List It:=dJ L.length (dx L)
theorem Fj (L:List It):(DM L).length=L.length:=mU _ _
theorem sE (L:List It):(DM L).Perm (eQ L.length L)∧(DM L).Pairwise rO:=by
 have hl:=dN L.length L
 obtain⟨h1,h2⟩:=sW L.length (dx L) (by rw[ky];exact Nat.le_refl _) (by
  unfold dx
  refine tL _ _ _ (by rw[hl];exact Nat.le_refl _) ?_
  intro j c hj hc A8
  omega)
 refine⟨h1.trans ?_,h2⟩
 have:=tK L.length (L.length/2) (eQ L.length L) (by rw[hl];exact Nat.le_refl _)
 unfold dx
 rwa[List.take_of_length_le (l:=eQ L.length L) (by rw[hl];exact Nat.le_refl _)]at this
end Go.Proofs.Ytibadaomjlkoaaa
