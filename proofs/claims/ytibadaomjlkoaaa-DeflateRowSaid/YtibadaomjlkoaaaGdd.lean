import Derived.Test.YtibadaomjlkoaaaGdc
import Derived.Test.YtibadaomjlkoaaaGb
import Derived.Test.YtibadaomjlkoaaaGdb
set_option linter.unusedVariables false
set_option linter.unusedSimpArgs false
open Go.RowKit
namespace Go.Proofs.Ytibadaomjlkoaaa
set_option maxRecDepth 10000
abbrev cF:=Nat×Nat×Nat
def cH (code n:Nat):List Bool:=(List.range n).map fun j=>decide (code/2^(n-1-j)%2=1)
theorem di (code n:Nat):(cH code n).length=n:=by simp[cH]
abbrev gT (f:Nat)(cv:Nat→Nat)(ts:List cF):Nat→List AV:=fun j=>[.int .i64 ((ts.getD j default).1:Int),.sl f j 0 (ts.getD j default).2.2 (cv j)]
def bU (ls:List Int):List cF:=if aE ls=0 then(aF ls 15).2 else[]
section
variable{ls:List Int}{c c0:Nat}{Kp:AV→AH→Prop}
end
end Go.Proofs.Ytibadaomjlkoaaa
open Go.RowKit
namespace Go.Proofs.Ytibadaomjlkoaaa
set_option maxRecDepth 10000
theorem zG {ls:List Int}{n:Nat}{x:Nat×List cF}(hx:∀t∈x.2,t.1<ls.length∧1≤t.2.2∧t.2.2≤15∧ls.getD t.1 0=(t.2.2:Int))(hn:1≤n∧n≤15):∀i,i≤ls.length→∀t∈(cR ls n i x).2,t.1<ls.length∧1≤t.2.2∧t.2.2≤15∧ls.getD t.1 0=(t.2.2:Int)
 |0,_=>hx
 |i+1,hi=>by
  have ih:=zG hx hn i (by omega)
  rw[ba];unfold dJ
  split
  ·rename_i hk
   intro t ht
   rcases List.mem_append.1 ht with ht|ht
   ·exact ih t ht
   ·obtain rfl:=List.mem_singleton.1 ht
    exact⟨by show i<_;omega,hn.1,hn.2,hk⟩
  ·exact ih
theorem vP {ls:List Int}:∀n,n≤15→∀t∈(aF ls n).2,t.1<ls.length∧1≤t.2.2∧t.2.2≤15∧ls.getD t.1 0=(t.2.2:Int)
 |0,_=>by intro t ht;cases ht
 |n+1,hn=>zG (x:=(2*(aF ls n).1,(aF ls n).2)) (vP n (by omega)) ⟨by omega,hn⟩ ls.length (Nat.le_refl _)
theorem u0 {ls:List Int}{t:cF}(h:t∈bU ls):t.1<ls.length∧1≤t.2.2∧t.2.2≤15∧ls.getD t.1 0=(t.2.2:Int):=by
 unfold bU at h
 split at h
 ·exact vP 15 (Nat.le_refl _) t h
 ·cases h
theorem H3:∀l:List Bool,0≤num l
 |[]=>Int.le_refl 0
 |b::l=>by have:=H3 l;simp only[num];split<;>omega
theorem Er:∀l l':List Bool,num (l++l')=num l+2^l.length*num l'
 |[],l'=>by simp[num]
 |b::l,l'=>by
  simp only[List.cons_append,num,Er l l',List.length_cons,Int.pow_succ]
  rw[Int.mul_add,←Int.mul_assoc,Int.mul_comm 2 (2^l.length),Int.add_assoc]
theorem oY (c n:Nat):cH c (n+1)=cH (c/2) n++[decide (c%2=1)]:=by
 unfold cH
 rw[List.range_succ,List.map_append]
 congr 1
 ·apply List.map_congr_left
  intro j hj
  have rD:j<n:=by simpa using hj
  rw[show n+1-1-j=(n-1-j)+1 by omega,Nat.pow_succ,Nat.mul_comm,Nat.div_div_eq_div_mul]
 ·simp
theorem vL:∀(n c o:Nat),((jO n c o:Nat):Int)=o*2^n+num (cH c n)
 |0,c,o=>by simp[jO,cH,num]
 |n+1,c,o=>by
  simp only[jO]
  rw[vL n (c/2) (2*o+c%2),oY,Er,di]
  have e:num [decide (c%2=1)]=((c%2:Nat):Int):=by
   simp only[num]
   rcases Nat.mod_two_eq_zero_or_one c with h|h<;>rw[h]<;>simp
  rw[e,Int.pow_succ]
  push_cast
  rw[Int.add_mul,Int.mul_comm 2 (o:Int),Int.mul_assoc,Int.mul_comm 2 (2^n),Int.mul_comm ((c:Int)%2) (2^n)]
  omega
theorem H2 (c n:Nat):num (cH c n)=((jO n c 0:Nat):Int):=by rw[vL];simp
section
variable{M:AH}{K Kp:AV→AH→Prop}
end
section
variable{ls:List Int}{c c0:Nat}{Kp:AV→AH→Prop}
end
end Go.Proofs.Ytibadaomjlkoaaa
open Go.RowKit
namespace Go.Proofs.Ytibadaomjlkoaaa
set_option maxRecDepth 10000
def DI (xs ys:List Bool):Bool:=decide (ys.length≤xs.length)&&decide (xs.take ys.length=ys)
section
variable{xs ys:List Bool}{c0 c1 c d:Nat}{M:AH}{K Kp:AV→AH→Prop}
def gv (row:List Bool)(a b:Nat):List Bool:=(row.drop a).take (b-a)
def uh (zB:List Bool)(t:cF):Bool:=decide (cH t.2.1 t.2.2=zB)
def FP (ts:List cF)(row:List Bool)(a:Nat):Nat→Nat→Int×Nat×Int
 |0,b=>(0,b,50)
 |f+1,b=>match ts.find? (uh (gv row a b))with
  |some t=>((t.1:Int),b,0)
  |none=>if ts.any (fun t=>DI (cH t.2.1 t.2.2) (gv row a b))=true then if b=row.length then(0,b,50)else FP ts row a f (b+1)else(0,b,60)
def O4 (ts:List cF)(row:List Bool)(a:Nat):Int×Nat×Int:=FP ts row a (row.length-a+1) a
end
end Go.Proofs.Ytibadaomjlkoaaa
open Go.RowKit
namespace Go.Proofs.Ytibadaomjlkoaaa
def DF (b:Bool):Nat:=if b=true then 1 else 0
def lU (l:List Bool):Nat:=l.foldl (fun v b=>2*v+DF b) 0
theorem qc (l:List Bool)(b:Bool):lU (l++[b])=2*lU l+DF b:=by unfold lU;rw[List.foldl_append];rfl
theorem mU:∀(n c:Nat),c<2^n→lU (cH c n)=c
 |0,c,h=>by
  have:c=0:=by simpa using h
  subst this;rfl
 |n+1,c,h=>by
  rw[oY,qc,mU n (c/2) (by rw[Nat.pow_succ]at h;omega)]
  unfold DF
  rcases Nat.mod_two_eq_zero_or_one c with e|e<;>simp[e]<;>omega
theorem qY:∀(n:Nat)(l:List Bool),l.length=n→cH (lU l) n=l
 |0,l,h=>by
  obtain rfl:=List.eq_nil_of_length_eq_zero h
  rfl
 |n+1,l,h=>by
  rcases List.eq_nil_or_concat l with rfl|⟨l,b,rfl⟩
  ·simp at h
  ·simp only[List.concat_eq_append]at h⊢
   rw[List.length_append,List.length_singleton]at h
   rw[oY,qc]
   have h1:(2*lU l+DF b)/2=lU l:=by unfold DF;split<;>omega
   have h2:decide ((2*lU l+DF b)%2=1)=b:=by
    unfold DF
    cases b<;>simp
   rw[h1,h2,qY n l (by omega)]
theorem DE (c N n:Nat)(h:n≤N):(cH c N).take n=cH (c/2^(N-n)) n:=by
 unfold cH
 rw[←List.map_take,List.take_range,Nat.min_eq_left h]
 apply List.map_congr_left
 intro j hj
 have rD:j<n:=by simpa using hj
 rw[Nat.div_div_eq_div_mul,←Nat.pow_add,show N-n+(n-1-j)=N-1-j by omega]
def preB (c n:Nat)(t:cF):Bool:=decide (n≤t.2.2)&&decide (t.2.1/2^(t.2.2-n)=c)
theorem A1 {t:cF}{zB:List Bool}(ht:t.2.1<2^t.2.2):DI (cH t.2.1 t.2.2) zB=preB (lU zB) zB.length t:=by
 unfold DI preB
 rw[di]
 by_cases h:zB.length≤t.2.2
 ·rw[decide_eq_true h,Bool.true_and,Bool.true_and,decide_eq_decide,DE _ _ _ h]
  have a8:t.2.1/2^(t.2.2-zB.length)<2^zB.length:=by
   apply Nat.div_lt_of_lt_mul
   rw[←Nat.pow_add,show t.2.2-zB.length+zB.length=t.2.2 by omega]
   exact ht
  constructor
  ·intro e
   have:=congrArg lU e
   rw[mU _ _ a8]at this
   exact this
  ·intro e
   rw[e]
   exact qY _ zB rfl
 ·rw[decide_eq_false h];rfl
theorem Ms {t:cF}{zB:List Bool}(ht:t.2.1<2^t.2.2):uh zB t=(decide (t.2.2=zB.length)&&decide (t.2.1=lU zB)):=by
 unfold uh
 by_cases h:t.2.2=zB.length
 ·rw[decide_eq_true h,Bool.true_and,decide_eq_decide]
  constructor
  ·intro e
   have:=congrArg lU e
   rw[mU _ _ ht]at this
   exact this
  ·intro e
   rw[e,h]
   exact qY _ zB rfl
 ·rw[decide_eq_false h,Bool.false_and,decide_eq_false_iff_not]
  intro e
  have:=congrArg List.length e
  rw[di]at this
  exact h this
def wY (ts:List cF):Prop:=ts.Pairwise fun a b=>preB a.2.1 a.2.2 b=false
def Ik (ts:List cF)(c n:Nat):Option Int:=
 match ts.find? (fun t=>decide (t.2.2=n)&&decide (t.2.1=c))with
 |some t=>some (t.1:Int)
 |none=>if ts.any (preB c n)=true then some (-1)else none
theorem uu (t:cF)(c n:Nat):∀(k:Nat)(es:List ((Int×Int)×Int)),bN ((c:Int),(n:Int)) (xi t k es)=if n<k∧c=t.2.1/2^(t.2.2-n)then some (-1)else bN ((c:Int),(n:Int)) es
 |0,es=>by rw[if_neg (by omega)];rfl
 |k+1,es=>by
  rw[xi,uu t c n k,hZ]
  by_cases h1:n<k∧c=t.2.1/2^(t.2.2-n)
  ·rw[if_pos h1,if_pos ⟨by omega,h1.2⟩]
  ·rw[if_neg h1]
   by_cases h2:n=k∧c=t.2.1/2^(t.2.2-n)
   ·obtain⟨rfl,h2⟩:=h2
    rw[if_pos (show((c:Int),(n:Int))=(((t.2.1/2^(t.2.2-n):Nat):Int),(n:Int)) by rw[←h2]),if_pos ⟨by omega,h2⟩]
   ·have a1:¬((c:Int),(n:Int))=(((t.2.1/2^(t.2.2-k):Nat):Int),(k:Int)):=by
     intro h
     simp only[Prod.mk.injEq]at h
     have e1:n=k:=by omega
     subst e1
     exact h2 ⟨rfl,by have:=h.1;omega⟩
    have a2:¬(n<k+1∧c=t.2.1/2^(t.2.2-n)):=by
     intro h
     rcases Nat.lt_or_eq_of_le (Nat.le_of_lt_succ h.1)with h3|h3
     ·exact h1 ⟨h3,h.2⟩
     ·exact h2 ⟨h3,h.2⟩
    rw[if_neg a1,if_neg a2]
theorem w9 (t:cF)(c n:Nat)(es:List ((Int×Int)×Int)):bN ((c:Int),(n:Int)) (zX es t)=if n<t.2.2∧c=t.2.1/2^(t.2.2-n)then some (-1)else if c=t.2.1∧n=t.2.2 then some (t.1:Int)else bN ((c:Int),(n:Int)) es:=by
 unfold zX
 rw[uu,hZ]
 split
 ·rfl
 ·by_cases h:c=t.2.1∧n=t.2.2
  ·rw[if_pos h,if_pos (by rw[h.1,h.2])]
  ·rw[if_neg h,if_neg (fun e=>by simp only[Prod.mk.injEq]at e;exact h ⟨by omega,by omega⟩)]
theorem tg {c n:Nat}{t:cF}:preB c n t=true↔(n<t.2.2∧c=t.2.1/2^(t.2.2-n))∨(c=t.2.1∧n=t.2.2):=by
 unfold preB
 simp only[Bool.and_eq_true,decide_eq_true_eq]
 constructor
 ·rintro⟨h1,h2⟩
  rcases Nat.lt_or_eq_of_le h1 with h|h
  ·exact .inl ⟨h,h2.symm⟩
  ·subst h;simp at h2;exact .inr ⟨h2.symm,rfl⟩
 ·rintro(⟨h1,h2⟩|⟨rfl,rfl⟩)
  ·exact⟨by omega,h2.symm⟩
  ·simp
theorem Aw:∀(n0:Nat)(ts:List cF),ts.length=n0→wY ts→∀c n:Nat,bN ((c:Int),(n:Int)) (cq ts [])=Ik ts c n
 |0,ts,h,_,c,n=>by
  obtain rfl:=List.eq_nil_of_length_eq_zero h
  rfl
 |n0+1,ts,h,hf,c,n=>by
  rcases List.eq_nil_or_concat ts with rfl|⟨ts,t,rfl⟩
  ·simp at h
  ·simp only[List.concat_eq_append]at h hf⊢
   rw[List.length_append,List.length_singleton]at h
   have yv:wY ts∧∀a∈ts,preB a.2.1 a.2.2 t=false:=by
    unfold wY at hf⊢
    rw[List.pairwise_append]at hf
    exact⟨hf.1,fun a ha=>hf.2.2 a ha t (by simp)⟩
   have ih:=Aw n0 ts (by omega) yv.1 c n
   rw[nw,w9,ih]
   unfold Ik
   rw[List.find?_append,List.any_append]
   have rC:preB c n t=true→ts.find? (fun t=>decide (t.2.2=n)&&decide (t.2.1=c))=none:=by
    intro hp
    rw[List.find?_eq_none]
    intro a ha
    simp only[Bool.and_eq_true,decide_eq_true_eq]
    rintro⟨e1,e2⟩
    have:=yv.2 a ha
    rw[e1,e2,hp]at this
    cases this
   by_cases h1:n<t.2.2∧c=t.2.1/2^(t.2.2-n)
   ·have hp:preB c n t=true:=tg.2 (.inl h1)
    rw[if_pos h1,rC hp]
    have Sr:(decide (t.2.2=n)&&decide (t.2.1=c))=false:=by rw[decide_eq_false (by omega)];rfl
    simp only[List.find?_cons,Sr,List.find?_nil,Option.none_or,List.any_cons,hp,List.any_nil,Bool.or_false,Bool.or_true,if_true]
   ·rw[if_neg h1]
    by_cases h2:c=t.2.1∧n=t.2.2
    ·have hp:preB c n t=true:=tg.2 (.inr h2)
     rw[if_pos h2,rC hp]
     have Sr:(decide (t.2.2=n)&&decide (t.2.1=c))=true:=by rw[h2.1,h2.2];simp
     simp only[List.find?_cons,Sr,Option.none_or]
    ·rw[if_neg h2]
     have hp:preB c n t=false:=by
      cases hp:preB c n t with
      |false=>rfl
      |true=>rcases tg.1 hp with h|h
             ·exact absurd h h1
             ·exact absurd h h2
     have Sr:(decide (t.2.2=n)&&decide (t.2.1=c))=false:=by
      rw[Bool.and_eq_false_iff]
      by_cases e:t.2.2=n
      ·right;rw[decide_eq_false_iff_not];intro e2;exact h2 ⟨e2.symm,e.symm⟩
      ·left;exact decide_eq_false e
     simp only[List.find?_cons,Sr,List.find?_nil,Option.or_none,List.any_cons,hp,List.any_nil,Bool.or_false]
def cW (ts:List cF):Nat:=(ts.map fun t=>2^(15-t.2.2)).sum
theorem sS (ts:List cF)(t:cF):cW (ts++[t])=cW ts+2^(15-t.2.2):=by simp[cW]
def vl:List cF→Prop:=fun ts=>∀a b t,ts=a++t::b→t.2.1*2^(15-t.2.2)=cW a∧t.2.2≤15
theorem FL {ts:List cF}{t:cF}(h:vl ts)(h1:t.2.1*2^(15-t.2.2)=cW ts)(h2:t.2.2≤15):vl (ts++[t]):=by
 intro a b x e
 rcases List.eq_nil_or_concat b with rfl|⟨b,y,rfl⟩
 ·have:=List.append_inj' e rfl
  obtain⟨rfl,e2⟩:=this
  obtain rfl:t=x:=by simpa using e2
  exact⟨h1,h2⟩
 ·simp only[List.concat_eq_append]at e
  rw[←List.cons_append,←List.append_assoc]at e
  have:=List.append_inj' e rfl
  exact h a b x this.1
theorem zF {ls:List Int}{n:Nat}{x:Nat×List cF}(hn:n≤15)(h:vl x.2)(h2:x.1*2^(15-n)=cW x.2):∀i,vl (cR ls n i x).2∧(cR ls n i x).1*2^(15-n)=cW (cR ls n i x).2
 |0=>⟨h,h2⟩
 |i+1=>by
  obtain⟨i1,i2⟩:=zF (ls:=ls) hn h h2 i
  rw[ba];unfold dJ
  split
  ·refine⟨FL i1 i2 hn,?_⟩
   show((cR ls n i x).1+1)*2^(15-n)=_
   rw[sS,Nat.add_mul,i2,Nat.one_mul]
  ·exact⟨i1,i2⟩
theorem vO {ls:List Int}:∀n,n≤15→vl (aF ls n).2∧(aF ls n).1*2^(15-n)=cW (aF ls n).2
 |0,_=>⟨fun a b t e=>by simp[aF]at e,by simp[aF,cW]⟩
 |n+1,hn=>by
  obtain⟨h1,h2⟩:=vO (ls:=ls) n (by omega)
  refine zF (x:=(2*(aF ls n).1,(aF ls n).2)) hn h1 ?_ ls.length
  show 2*(aF ls n).1*2^(15-(n+1))=_
  rw[←h2,show 15-n=(15-(n+1))+1 by omega,Nat.pow_succ,Nat.mul_comm 2,Nat.mul_assoc,Nat.mul_comm 2]
def ve (ls:List Int)(n:Nat):Nat→Nat
 |0=>0
 |i+1=>ve ls n i+if 0<ls.getD i 0∧ls.getD i 0≤(n:Int)then 2^(15-(ls.getD i 0).toNat)else 0
theorem vU (ls:List Int):∀i,ve ls 0 i=0
 |0=>rfl
 |i+1=>by rw[ve,vU ls i,if_neg (by omega)]
theorem v8 (ls:List Int)(n:Nat)(x:Nat×List cF):∀i,cW (cR ls (n+1) i x).2+ve ls n i=cW x.2+ve ls (n+1) i
 |0=>rfl
 |i+1=>by
  have ih:=v8 ls n x i
  rw[ba,ve,ve]
  unfold dJ
  by_cases h:ls.getD i 0=((n+1:Nat):Int)
  ·rw[if_pos h]
   show cW ((cR ls (n+1) i x).2++[_])+_=_
   rw[sS,if_neg (by omega),if_pos (by omega),h,Int.toNat_natCast]
   show cW _+2^(15-(n+1))+_=_
   omega
  ·rw[if_neg h]
   by_cases h2:0<ls.getD i 0∧ls.getD i 0≤(n:Int)
   ·rw[if_pos h2,if_pos (by omega)];omega
   ·rw[if_neg h2,if_neg (by omega)];omega
theorem sF (ls:List Int):∀n,cW (aF ls n).2=ve ls n ls.length
 |0=>by rw[vU];rfl
 |n+1=>by
  have:=v8 ls n (2*(aF ls n).1,(aF ls n).2) ls.length
  have ih:=sF ls n
  show cW (cR ls (n+1) ls.length (2*(aF ls n).1,(aF ls n).2)).2=_
  have e:cW (2*(aF ls n).1,(aF ls n).2).2=cW (aF ls n).2:=rfl
  omega
theorem zo {ls:List Int}(h:∀i,i<ls.length→ls.getD i 0≤15):∀i,i≤ls.length→ve ls 15 i=bs ls i
 |0,_=>rfl
 |i+1,hi=>by
  rw[ve,bs,zo h i (by omega)]
  have:=h i (by omega)
  by_cases h2:0<ls.getD i 0
  ·rw[if_pos ⟨h2,by omega⟩,if_pos h2]
  ·rw[if_neg (by omega),if_neg h2]
theorem nK (ls:List Int):cW (bU ls)≤32768:=by
 unfold bU
 split
 ·rename_i h
  have hb:fK ls=false:=by
   cases hb:fK ls with
   |false=>rfl
   |true=>rw[ia hb]at h;cases h
  have hf:bu ls=true:=by
   cases hf:bu ls with
   |true=>rfl
   |false=>rw[mI hb hf]at h;cases h
  have qT:∀i,i<ls.length→ls.getD i 0≤15:=by
   intro i hi
   unfold fK at hb
   simp only[Bool.or_eq_false_iff]at hb
   have:=List.any_eq_false.1 hb.2 _ (oQ (d:=0) hi)
   simp only[qZ,decide_eq_true_eq]at this
   omega
  rw[sF,zo qT _ (Nat.le_refl _)]
  unfold bu at hf
  simp only[Bool.or_eq_true,Bool.and_eq_true,decide_eq_true_eq]at hf
  have hz:∀i,bT ls i=0→bs ls i=0:=by
   intro i
   induction i with
   |zero=>intro _;rfl
   |succ i ih=>
    intro hc
    simp only[bT]at hc
    simp only[bs]
    split at hc
    ·omega
    ·rename_i h0;rw[if_neg h0,ih (by omega)]
  rcases hf with(hf|hf)|hf
  ·omega
  ·rw[hz _ hf];omega
  ·omega
 ·exact Nat.zero_le _
theorem kp (ls:List Int):vl (bU ls):=by
 unfold bU;split
 ·exact(vO 15 (Nat.le_refl _)).1
 ·intro a b t e;simp at e
theorem qj (a b:List cF):cW (a++b)=cW a+cW b:=by simp[cW]
theorem ot (t:cF)(b:List cF):cW (t::b)=2^(15-t.2.2)+cW b:=by simp[cW]
theorem xU {ts:List cF}(h:vl ts)(hs:cW ts≤32768){t:cF}(ht:t∈ts):t.2.1<2^t.2.2∧t.2.2≤15:=by
 obtain⟨a,b,rfl⟩:=List.append_of_mem ht
 obtain⟨h1,h2⟩:=h a b t rfl
 refine⟨?_,h2⟩
 rw[qj,ot,←h1]at hs
 have e:(32768:Nat)=2^t.2.2*2^(15-t.2.2):=by rw[←Nat.pow_add,show t.2.2+(15-t.2.2)=15 by omega]
 have h3:(t.2.1+1)*2^(15-t.2.2)≤2^t.2.2*2^(15-t.2.2):=by rw[←e,Nat.add_mul,Nat.one_mul];omega
 have:=Nat.le_of_mul_le_mul_right h3 (Nat.pow_pos (by omega))
 omega
theorem zE {ts:List cF}(h:vl ts):wY ts:=by
 unfold wY
 rw[List.pairwise_iff_getElem]
 intro i j hi hj rE
 have e1:ts=ts.take i++ts[i]::ts.drop (i+1):=by rw[←List.drop_eq_getElem_cons hi,List.take_append_drop]
 have e2:ts=ts.take j++ts[j]::ts.drop (j+1):=by rw[←List.drop_eq_getElem_cons hj,List.take_append_drop]
 obtain⟨a1,a2⟩:=h _ _ _ e1
 obtain⟨b1,b2⟩:=h _ _ _ e2
 generalize ts[i]=x at*
 generalize ts[j]=y at*
 have hle:cW (ts.take i)+2^(15-x.2.2)≤cW (ts.take j):=by
  have e3:ts.take j=ts.take i++x::(ts.take j).drop (i+1):=by
   have:(ts.take j)[i]?=some x:=by
    rw[List.getElem?_take,if_pos rE]
    conv=>lhs;rw[e1]
    rw[List.getElem?_append_right (by simp;omega)]
    simp[Nat.min_eq_left (Nat.le_of_lt hi)]
   obtain⟨EP,e4⟩:=List.getElem?_eq_some_iff.1 this
   have e5:=List.take_append_drop i (ts.take j)
   rw[List.drop_eq_getElem_cons EP,e4,List.take_take,Nat.min_eq_left (Nat.le_of_lt rE)]at e5
   exact e5.symm
  rw[e3,qj,ot];omega
 cases hp:preB x.2.1 x.2.2 y with
 |false=>rfl
 |true=>
  exfalso
  unfold preB at hp
  simp only[Bool.and_eq_true,decide_eq_true_eq]at hp
  obtain⟨p1,p2⟩:=hp
  have hy:y.2.1<(x.2.1+1)*2^(y.2.2-x.2.2):=by
   rw[←p2]
   have:=Nat.lt_div_mul_add (a:=y.2.1) (b:=2^(y.2.2-x.2.2)) (Nat.pow_pos (by omega))
   rw[Nat.add_mul,Nat.one_mul];exact this
  have hm:y.2.1*2^(15-y.2.2)<(x.2.1+1)*2^(y.2.2-x.2.2)*2^(15-y.2.2):=Nat.mul_lt_mul_of_pos_right hy (Nat.pow_pos (by omega))
  rw[Nat.mul_assoc,←Nat.pow_add,show y.2.2-x.2.2+(15-y.2.2)=15-x.2.2 by omega,Nat.add_mul,Nat.one_mul,b1,a1]at hm
  omega
theorem HF {row:List Bool}{a b:Nat}(hb:b≤row.length):(gv row a b).length=b-a:=by
 unfold gv;rw[List.length_take,List.length_drop];omega
theorem FG {row:List Bool}{a b:Nat}(ha:a≤b)(hb:b<row.length):gv row a (b+1)=gv row a b++[row.getD b false]:=by
 unfold gv
 rw[show b+1-a=(b-a)+1 by omega,List.take_succ_eq_append_getElem (by rw[List.length_drop];omega),List.getElem_drop,List.getD_eq_getElem?_getD,List.getElem?_eq_getElem hb]
 congr 2
 simp only[Option.getD_some]
 congr 1;omega
theorem DL {α:Type}{l:List α}{p q:α→Bool}(h:∀x∈l,p x=q x):l.any p=l.any q:=by
 induction l with
 |nil=>rfl
 |cons x l ih=>rw[List.any_cons,List.any_cons,h x List.mem_cons_self,ih fun y hy=>h y (List.mem_cons_of_mem _ hy)]
theorem Ax {α:Type}{l:List α}{p q:α→Bool}(h:∀x∈l,p x=q x):l.find? p=l.find? q:=by
 induction l with
 |nil=>rfl
 |cons x l ih=>rw[List.find?_cons,List.find?_cons,h x List.mem_cons_self,ih fun y hy=>h y (List.mem_cons_of_mem _ hy)]
theorem we {ts:List cF}(a8:∀t∈ts,t.2.1<2^t.2.2)(jx:wY ts){row:List Bool}{a:Nat}:∀(f b:Nat),a≤b→b≤row.length→
 ma (cq ts []) row f (lU (gv row a b)) (b-a) b=FP ts row a f b
 |0,b,_,_=>rfl
 |f+1,b,J8,hb=>by
  have cQ:=HF (a:=a) hb
  have h1:ts.find? (uh (gv row a b))=ts.find? (fun t=>decide (t.2.2=b-a)&&decide (t.2.1=lU (gv row a b))):=
   Ax fun t ht=>by rw[Ms (a8 t ht),cQ]
  have h2:ts.any (fun t=>DI (cH t.2.1 t.2.2) (gv row a b))=ts.any (preB (lU (gv row a b)) (b-a)):=
   DL fun t ht=>by rw[A1 (a8 t ht),cQ]
  simp only[ma,FP]
  rw[Aw _ ts rfl jx,h1,h2]
  unfold Ik
  cases hf:ts.find? (fun t=>decide (t.2.2=b-a)&&decide (t.2.1=lU (gv row a b)))with
  |some t=>
   simp only
   rw[if_pos (Int.natCast_nonneg _)]
  |none=>
   simp only
   cases ha:ts.any (preB (lU (gv row a b)) (b-a))with
   |false=>rfl
   |true=>
    simp only[if_true]
    rw[if_neg (by omega)]
    by_cases e:b=row.length
    ·rw[if_pos (by omega),if_pos e]
    ·rw[if_neg (by omega),if_neg e]
     have ih:=we a8 jx (row:=row) (a:=a) f (b+1) (by omega) (by omega)
     rw[FG J8 (by omega),qc,show b+1-a=b-a+1 by omega]at ih
     exact ih
theorem Bp {ls:List Int}{row:List Bool}{a:Nat}(ha:a≤row.length):ey (cq (bU ls) []) row a=O4 (bU ls) row a:=by
 unfold ey O4
 have:=we (fun t ht=>(xU (kp ls) (nK ls) ht).1) (zE (kp ls)) (row:=row) (a:=a) (row.length-a+1) a (Nat.le_refl _) ha
 have e:gv row a a=[]:=by unfold gv;rw[Nat.sub_self,List.take_zero]
 rw[e,Nat.sub_self]at this
 exact this
def fw (es:List ((Int×Int)×Int)):Prop:=∀k z,bN k es=some z→k.2≤15
theorem wM {es:List ((Int×Int)×Int)}(h:fw es){k:Int×Int}(hk:k.2≤15)(z:Int):fw (lG k z es):=by
 intro k' z' e
 rw[hZ]at e
 split at e
 ·rename_i e2;rw[e2];exact hk
 ·exact h k' z' e
theorem tT (t:cF):∀(k:Nat){es:List ((Int×Int)×Int)},k≤16→fw es→fw (xi t k es)
 |0,_,_,h=>h
 |k+1,_,hk,h=>tT t k (by omega) (wM h (by show((k:Nat):Int)≤15;omega) _)
theorem Gd {ts:List cF}(h:∀t∈ts,t.2.2≤15):∀es,fw es→fw (cq ts es):=by
 induction ts with
 |nil=>intro es h;exact h
 |cons t ts ih=>
  intro es he
  exact ih (fun x hx=>h x (List.mem_cons_of_mem _ hx)) _ (tT t _ (by have:=h t List.mem_cons_self;omega) (wM he (by have:=h t List.mem_cons_self;show((t.2.2:Nat):Int)≤15;omega) _))
theorem gZ (ls:List Int):fw (cq (bU ls) []):=Gd (fun t ht=>(xU (kp ls) (nK ls) ht).2) [] (fun k z e=>by cases e)
end Go.Proofs.Ytibadaomjlkoaaa
open Go.RowKit
namespace Go.Proofs.Ytibadaomjlkoaaa
def rX (a b:It):Prop:=a.w<b.w∨(a.w=b.w∧a.k≤b.k)
theorem tO (a:It):rX a a:=.inr ⟨rfl,Int.le_refl _⟩
theorem wL {a b c:It}(h1:rX a b)(h2:rX b c):rX a c:=by unfold rX at*;omega
theorem rz {a b:It}(h:gK a b=true):rX a b:=by
 simp only[gK,Bool.or_eq_true,Bool.and_eq_true,decide_eq_true_eq]at h;unfold rX;omega
theorem tP {a b:It}(h:¬gK b a=true):rX a b:=by
 simp only[gK,Bool.or_eq_true,Bool.and_eq_true,decide_eq_true_eq]at h;unfold rX;omega
theorem du {L:List It}{i j:Nat}(hi:i<L.length)(hj:j<L.length)(r:Nat):(cV L i j).getD r default=if r=j then L.getD i default else if r=i then L.getD j default else L.getD r default:=by
 unfold cV
 simp only[List.getD_eq_getElem?_getD,List.getElem?_set,List.length_set]
 by_cases h1:r=j
 ·subst h1;simp[hj]
 ·rw[if_neg (fun h=>h1 h.symm),if_neg h1]
  by_cases h2:r=i
  ·subst h2;simp[hi]
  ·rw[if_neg (fun h=>h2 h.symm),if_neg h2]
def wV (n:Nat)(L:List It)(s:Nat):Prop:=∀j c,s≤j→(c=2*j+1∨c=2*j+2)→c<n→rX (L.getD j default) (L.getD c default)
def So (n:Nat)(L:List It)(s i:Nat):Prop:=(∀j c,s≤j→j≠i→(c=2*j+1∨c=2*j+2)→c<n→rX (L.getD j default) (L.getD c default))∧
 ∀p c,s≤p→(i=2*p+1∨i=2*p+2)→(c=2*i+1∨c=2*i+2)→c<n→rX (L.getD p default) (L.getD c default)
theorem oV:∀(f n:Nat)(L:List It)(i s:Nat),n-i≤f→s≤i→n≤L.length→So n L s i→wV n (fq f n L i) s
 |0,n,L,i,s,hf,hs,hn,h=>by
  intro j c hj hc Bm
  exact h.1 j c hj (by omega) hc Bm
 |f+1,n,L,i,s,hf,hs,hn,h=>by
  simp only[fq]
  by_cases h1:2*i+1<n
  ·rw[if_pos h1]
   have hk:=ny (L:=L) h1
   have V6:je n L i=2*i+1∨je n L i=2*i+2:=by unfold je;split<;>omega
   have Mo:∀c,(c=2*i+1∨c=2*i+2)→c<n→rX (L.getD (je n L i) default) (L.getD c default):=by
    intro c hc Bm
    unfold je
    by_cases h3:2*i+2<n∧gK (L.getD (2*i+2) default) (L.getD (2*i+1) default)=true
    ·rw[if_pos h3]
     rcases hc with rfl|rfl
     ·exact rz h3.2
     ·exact tO _
    ·rw[if_neg h3]
     rcases hc with rfl|rfl
     ·exact tO _
     ·exact tP (fun h4=>h3 ⟨Bm,h4⟩)
   generalize je n L i=k at*
   by_cases h2:gK (L.getD k default) (L.getD i default)=true
   ·rw[if_pos h2]
    have mu:i<L.length:=by omega
    have G4:k<L.length:=by omega
    refine oV f n _ k s (by omega) (by omega) (by rw[bn];exact hn) ⟨?_,?_⟩
    ·intro j c hj IX hc Bm
     rw[du mu G4,du mu G4]
     by_cases e1:j=i
     ·rw[if_neg IX,if_pos e1]
      by_cases e2:c=k
      ·rw[if_pos e2];exact rz h2
      ·rw[if_neg e2,if_neg (by omega)];exact Mo c (by omega) Bm
     ·rw[if_neg IX,if_neg e1,if_neg (show¬c=k by omega)]
      by_cases e3:c=i
      ·rw[if_pos e3];exact h.2 j k hj (by omega) V6 hk.2
      ·rw[if_neg e3];exact h.1 j c hj e1 hc Bm
    ·intro p c hp hpk hc Bm
     have e:p=i:=by omega
     rw[du mu G4,du mu G4,if_neg (show¬p=k by omega),if_pos e,if_neg (show¬c=k by omega),if_neg (show¬c=i by omega)]
     exact h.1 k c (by omega) (by omega) hc Bm
   ·rw[if_neg h2]
    intro j c hj hc Bm
    by_cases e:j=i
    ·rw[e];exact wL (tP h2) (Mo c (by omega) Bm)
    ·exact h.1 j c hj e hc Bm
  ·rw[if_neg h1]
   intro j c hj hc Bm
   exact h.1 j c hj (by omega) hc Bm
theorem AG:∀(f n:Nat)(L:List It)(i j:Nat),n≤L.length→n≤j→(fq f n L i).getD j default=L.getD j default
 |0,_,_,_,_,_,_=>rfl
 |f+1,n,L,i,j,hn,hj=>by
  simp only[fq]
  split
  ·rename_i h1
   have hk:=ny (L:=L) h1
   split
   ·rw[AG f n _ _ j (by rw[bn];exact hn) hj,du (by omega) (by omega),if_neg (by omega),if_neg (by omega)]
   ·rfl
  ·rfl
theorem sJ {L:List It}{i j:Nat}(hi:i<L.length)(hj:j<L.length):(cV L i j).Perm L:=by
 have gi:L.getD i default=L[i]:=by simp[List.getD_eq_getElem?_getD,hi]
 have gj:L.getD j default=L[j]:=by simp[List.getD_eq_getElem?_getD,hj]
 rw[List.perm_iff_count]
 intro x
 unfold cV
 rw[gi,gj,List.count_set (by rw[List.length_set];exact hj),List.count_set hi,List.getElem_set]
 have c1:L.count x≥if(L[i]==x)=true then 1 else 0:=by
  split
  ·rename_i h
   exact List.one_le_count_iff.2 (by have:=List.getElem_mem hi;rw[eq_of_beq h]at this;exact this)
  ·omega
 have c2:L.count x≥if(L[j]==x)=true then 1 else 0:=by
  split
  ·rename_i h
   exact List.one_le_count_iff.2 (by have:=List.getElem_mem hj;rw[eq_of_beq h]at this;exact this)
  ·omega
 by_cases e:i=j
 ·subst e;simp only[if_true];omega
 ·rw[if_neg e];omega
theorem sI {L:List It}{i j n:Nat}(hi:i<n)(hj:j<n):(cV L i j).take n=cV (L.take n) i j:=by
 unfold cV
 rw[List.take_set,List.take_set]
 simp only[List.getD_eq_getElem?_getD,List.getElem?_take,if_pos hi,if_pos hj]
theorem oU:∀(f n:Nat)(L:List It)(i:Nat),n≤L.length→((fq f n L i).take n).Perm (L.take n)
 |0,_,_,_,_=>List.Perm.refl _
 |f+1,n,L,i,hn=>by
  simp only[fq]
  split
  ·rename_i h1
   have hk:=ny (L:=L) h1
   split
   ·refine(oU f n _ _ (by rw[bn];exact hn)).trans ?_
    rw[sI (by omega) hk.2]
    exact sJ (by rw[List.length_take];omega) (by rw[List.length_take];omega)
   ·exact List.Perm.refl _
  ·exact List.Perm.refl _
theorem tY (n:Nat):∀(i:Nat)(L:List It),n≤L.length→wV n L i→wV n (gM n i L) 0
 |0,_,_,h=>h
 |i+1,L,hn,h=>by
  rw[gM]
  refine tY n i _ (by rw[ic];exact hn) ?_
  refine oV _ n L i i (Nat.le_refl _) (Nat.le_refl _) hn ⟨?_,?_⟩
  ·intro j c hj fE hc Bm
   exact h j c (by omega) hc Bm
  ·intro p c hp UN
   omega
theorem tW (n:Nat):∀(i:Nat)(L:List It),n≤L.length→((gM n i L).take n).Perm (L.take n)
 |0,_,_=>List.Perm.refl _
 |i+1,L,hn=>by
  rw[gM]
  exact(tW n i _ (by rw[ic];exact hn)).trans (oU _ n L i hn)
theorem I5 {n:Nat}{L:List It}(h:wV n L 0):∀(c:Nat),c<n→rX (L.getD 0 default) (L.getD c default):=by
 intro c
 induction c using Nat.strongRecOn with
 |_ c ih=>
  intro hc
  rcases Nat.eq_zero_or_pos c with rfl|hp
  ·exact tO _
  ·exact wL (ih ((c-1)/2) (by omega) (by omega)) (h ((c-1)/2) c (Nat.zero_le _) (by omega) hc)
theorem Fq {L:List It}{h:Nat}(hh:h<L.length):L.take (h+1)=L.take h++[L.getD h default]:=by
 rw[List.take_succ_eq_append_getElem hh];simp[List.getD_eq_getElem?_getD,hh]
theorem th:∀(h:Nat)(L:List It),h≤L.length→wV h L 0→(dM h L).Perm (L.take h)∧(dM h L).Pairwise rX
 |0,_,_,_=>⟨by simp[dM],List.Pairwise.nil⟩
 |h+1,L,hl,hp=>by
  have h0:0<L.length:=by omega
  have hh:h<L.length:=by omega
  have hx:(eA (h+1) L).getD h default=L.getD 0 default:=by
   unfold eA kh
   rw[AG (h+1-1-0) (h+1-1) (cV L 0 (h+1-1)) 0 h (by rw[bn];omega) (by omega),Nat.add_sub_cancel,du h0 hh,if_pos rfl]
  have hq:wV h (eA (h+1) L) 0:=by
   unfold eA kh
   refine oV _ h _ 0 0 (Nat.le_refl _) (Nat.le_refl _) (by rw[bn];omega) ⟨?_,?_⟩
   ·intro j c hj Za hc X1
    rw[Nat.add_sub_cancel,du h0 hh,du h0 hh,if_neg (by omega),if_neg Za,if_neg (by omega),if_neg (by omega)]
    exact hp j c hj hc (by omega)
   ·intro p c wQ UN
    omega
  obtain⟨i1,i2⟩:=th h (eA (h+1) L) (by rw[dN];omega) hq
  have Nw:(dM (h+1) L).Perm (L.take (h+1)):=by
   show((eA (h+1) L).getD h default::dM h (eA (h+1) L)).Perm _
   rw[hx]
   refine(List.Perm.cons _ (i1.trans (oU _ h _ 0 (by rw[bn];show h≤_;omega)))).trans ?_
   rw[Nat.add_sub_cancel]
   have e:(cV L 0 h).take (h+1)=(cV L 0 h).take h++[L.getD 0 default]:=by
    rw[Fq (by rw[bn];exact hh),du h0 hh,if_pos rfl]
   refine(List.perm_append_singleton (L.getD 0 default) ((cV L 0 h).take h)).symm.trans ?_
   rw[←e,sI (by omega) (by omega)]
   exact sJ (by rw[List.length_take];omega) (by rw[List.length_take];omega)
  refine⟨Nw,?_⟩
  show((eA (h+1) L).getD h default::dM h (eA (h+1) L)).Pairwise rX
  refine List.Pairwise.cons (fun y hy=>?_) i2
  have YE:y∈L.take (h+1):=Nw.subset (List.mem_cons_of_mem _ hy)
  obtain⟨c,hc,rfl⟩:=List.getElem_of_mem YE
  rw[List.length_take]at hc
  rw[hx,List.getElem_take]
  have:=I5 hp c (by omega)
  rwa[show L.getD c default=L[c] by simp[List.getD_eq_getElem?_getD,show c<L.length by omega]]at this
def D8 (L:List It):List It:=dM L.length (dy L)
theorem FB (L:List It):(D8 L).length=L.length:=nd _ _
theorem sP (L:List It):(D8 L).Perm (eR L.length L)∧(D8 L).Pairwise rX:=by
 have hl:=dU L.length L
 obtain⟨h1,h2⟩:=th L.length (dy L) (by rw[kC];exact Nat.le_refl _) (by
  unfold dy
  refine tY _ _ _ (by rw[hl];exact Nat.le_refl _) ?_
  intro j c hj hc Bm
  omega)
 refine⟨h1.trans ?_,h2⟩
 have:=tW L.length (L.length/2) (eR L.length L) (by rw[hl];exact Nat.le_refl _)
 unfold dy
 rwa[List.take_of_length_le (l:=eR L.length L) (by rw[hl];exact Nat.le_refl _)]at this
end Go.Proofs.Ytibadaomjlkoaaa
