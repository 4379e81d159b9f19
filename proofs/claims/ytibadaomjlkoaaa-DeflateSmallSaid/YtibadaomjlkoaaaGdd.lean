import Derived.Test.YtibadaomjlkoaaaGdc
import Derived.Test.YtibadaomjlkoaaaGb
import Derived.Test.YtibadaomjlkoaaaGdb
set_option linter.unusedVariables false
set_option linter.unusedSimpArgs false
open Go.RowKit
namespace Go.Proofs.Ytibadaomjlkoaaa
set_option maxRecDepth 10000
abbrev cP:=Nat×Nat×Nat
def cR (code n:Nat):List Bool:=(List.range n).map fun j=>decide (code/2^(n-1-j)%2=1)
theorem dr (code n:Nat):(cR code n).length=n:=by simp[cR]
abbrev gT (f:Nat)(cv:Nat→Nat)(ts:List cP):Nat→List AV:=fun j=>[.int .i64 ((ts.getD j default).1:Int),.sl f j 0 (ts.getD j default).2.2 (cv j)]
def bZ (ls:List Int):List cP:=if aE ls=0 then(aH ls 15).2 else[]
section
variable{ls:List Int}{c c0:Nat}{Kp:AV→AH→Prop}
end
end Go.Proofs.Ytibadaomjlkoaaa
open Go.RowKit
namespace Go.Proofs.Ytibadaomjlkoaaa
set_option maxRecDepth 10000
theorem Ab {ls:List Int}{n:Nat}{x:Nat×List cP}(hx:∀t∈x.2,t.1<ls.length∧1≤t.2.2∧t.2.2≤15∧ls.getD t.1 0=(t.2.2:Int))(hn:1≤n∧n≤15):∀i,i≤ls.length→∀t∈(cZ ls n i x).2,t.1<ls.length∧1≤t.2.2∧t.2.2≤15∧ls.getD t.1 0=(t.2.2:Int)
 |0,_=>hx
 |i+1,hi=>by
  have ih:=Ab hx hn i (by omega)
  rw[bf];unfold dR
  split
  ·rename_i hk
   intro t ht
   rcases List.mem_append.1 ht with ht|ht
   ·exact ih t ht
   ·obtain rfl:=List.mem_singleton.1 ht
    exact⟨by show i<_;omega,hn.1,hn.2,hk⟩
  ·exact ih
theorem wg {ls:List Int}:∀n,n≤15→∀t∈(aH ls n).2,t.1<ls.length∧1≤t.2.2∧t.2.2≤15∧ls.getD t.1 0=(t.2.2:Int)
 |0,_=>by intro t ht;cases ht
 |n+1,hn=>Ab (x:=(2*(aH ls n).1,(aH ls n).2)) (wg n (by omega)) ⟨by omega,hn⟩ ls.length (Nat.le_refl _)
theorem vp {ls:List Int}{t:cP}(h:t∈bZ ls):t.1<ls.length∧1≤t.2.2∧t.2.2≤15∧ls.getD t.1 0=(t.2.2:Int):=by
 unfold bZ at h
 split at h
 ·exact wg 15 (Nat.le_refl _) t h
 ·cases h
theorem IV:∀l:List Bool,0≤num l
 |[]=>Int.le_refl 0
 |b::l=>by have:=IV l;simp only[num];split<;>omega
theorem Fa:∀l l':List Bool,num (l++l')=num l+2^l.length*num l'
 |[],l'=>by simp[num]
 |b::l,l'=>by
  simp only[List.cons_append,num,Fa l l',List.length_cons,Int.pow_succ]
  rw[Int.mul_add,←Int.mul_assoc,Int.mul_comm 2 (2^l.length),Int.add_assoc]
theorem py (c n:Nat):cR c (n+1)=cR (c/2) n++[decide (c%2=1)]:=by
 unfold cR
 rw[List.range_succ,List.map_append]
 congr 1
 ·apply List.map_congr_left
  intro j hj
  have rZ:j<n:=by simpa using hj
  rw[show n+1-1-j=(n-1-j)+1 by omega,Nat.pow_succ,Nat.mul_comm,Nat.div_div_eq_div_mul]
 ·simp
theorem wb:∀(n c o:Nat),((kd n c o:Nat):Int)=o*2^n+num (cR c n)
 |0,c,o=>by simp[kd,cR,num]
 |n+1,c,o=>by
  simp only[kd]
  rw[wb n (c/2) (2*o+c%2),py,Fa,dr]
  have e:num [decide (c%2=1)]=((c%2:Nat):Int):=by
   simp only[num]
   rcases Nat.mod_two_eq_zero_or_one c with h|h<;>rw[h]<;>simp
  rw[e,Int.pow_succ]
  push_cast
  rw[Int.add_mul,Int.mul_comm 2 (o:Int),Int.mul_assoc,Int.mul_comm 2 (2^n),Int.mul_comm ((c:Int)%2) (2^n)]
  omega
theorem IU (c n:Nat):num (cR c n)=((kd n c 0:Nat):Int):=by rw[wb];simp
section
variable{M:AH}{K Kp:AV→AH→Prop}
end
section
variable{ls:List Int}{c c0:Nat}{Kp:AV→AH→Prop}
end
end Go.Proofs.Ytibadaomjlkoaaa
open Go.RowKit
namespace Go.Proofs.Ytibadaomjlkoaaa
set_option maxRecDepth 10000
def Et (xs ys:List Bool):Bool:=decide (ys.length≤xs.length)&&decide (xs.take ys.length=ys)
section
variable{xs ys:List Bool}{c0 c1 c d:Nat}{M:AH}{K Kp:AV→AH→Prop}
def gM (row:List Bool)(a b:Nat):List Bool:=(row.drop a).take (b-a)
def uK (z6:List Bool)(t:cP):Bool:=decide (cR t.2.1 t.2.2=z6)
def Gx (ts:List cP)(row:List Bool)(a:Nat):Nat→Nat→Int×Nat×Int
 |0,b=>(0,b,50)
 |f+1,b=>match ts.find? (uK (gM row a b))with
  |some t=>((t.1:Int),b,0)
  |none=>if ts.any (fun t=>Et (cR t.2.1 t.2.2) (gM row a b))=true then if b=row.length then(0,b,50)else Gx ts row a f (b+1)else(0,b,60)
def Qg (ts:List cP)(row:List Bool)(a:Nat):Int×Nat×Int:=Gx ts row a (row.length-a+1) a
end
end Go.Proofs.Ytibadaomjlkoaaa
open Go.RowKit
namespace Go.Proofs.Ytibadaomjlkoaaa
def Ep (b:Bool):Nat:=if b=true then 1 else 0
def mm (l:List Bool):Nat:=l.foldl (fun v b=>2*v+Ep b) 0
theorem qy (l:List Bool)(b:Bool):mm (l++[b])=2*mm l+Ep b:=by unfold mm;rw[List.foldl_append];rfl
theorem nu:∀(n c:Nat),c<2^n→mm (cR c n)=c
 |0,c,h=>by
  have:c=0:=by simpa using h
  subst this;rfl
 |n+1,c,h=>by
  rw[py,qy,nu n (c/2) (by rw[Nat.pow_succ]at h;omega)]
  unfold Ep
  rcases Nat.mod_two_eq_zero_or_one c with e|e<;>simp[e]<;>omega
theorem rB:∀(n:Nat)(l:List Bool),l.length=n→cR (mm l) n=l
 |0,l,h=>by
  obtain rfl:=List.eq_nil_of_length_eq_zero h
  rfl
 |n+1,l,h=>by
  rcases List.eq_nil_or_concat l with rfl|⟨l,b,rfl⟩
  ·simp at h
  ·simp only[List.concat_eq_append]at h⊢
   rw[List.length_append,List.length_singleton]at h
   rw[py,qy]
   have h1:(2*mm l+Ep b)/2=mm l:=by unfold Ep;split<;>omega
   have h2:decide ((2*mm l+Ep b)%2=1)=b:=by
    unfold Ep
    cases b<;>simp
   rw[h1,h2,rB n l (by omega)]
theorem Eo (c N n:Nat)(h:n≤N):(cR c N).take n=cR (c/2^(N-n)) n:=by
 unfold cR
 rw[←List.map_take,List.take_range,Nat.min_eq_left h]
 apply List.map_congr_left
 intro j hj
 have rZ:j<n:=by simpa using hj
 rw[Nat.div_div_eq_div_mul,←Nat.pow_add,show N-n+(n-1-j)=N-1-j by omega]
def preB (c n:Nat)(t:cP):Bool:=decide (n≤t.2.2)&&decide (t.2.1/2^(t.2.2-n)=c)
theorem Bv {t:cP}{z6:List Bool}(ht:t.2.1<2^t.2.2):Et (cR t.2.1 t.2.2) z6=preB (mm z6) z6.length t:=by
 unfold Et preB
 rw[dr]
 by_cases h:z6.length≤t.2.2
 ·rw[decide_eq_true h,Bool.true_and,Bool.true_and,decide_eq_decide,Eo _ _ _ h]
  have a9:t.2.1/2^(t.2.2-z6.length)<2^z6.length:=by
   apply Nat.div_lt_of_lt_mul
   rw[←Nat.pow_add,show t.2.2-z6.length+z6.length=t.2.2 by omega]
   exact ht
  constructor
  ·intro e
   have:=congrArg mm e
   rw[nu _ _ a9]at this
   exact this
  ·intro e
   rw[e]
   exact rB _ z6 rfl
 ·rw[decide_eq_false h];rfl
theorem Nw {t:cP}{z6:List Bool}(ht:t.2.1<2^t.2.2):uK z6 t=(decide (t.2.2=z6.length)&&decide (t.2.1=mm z6)):=by
 unfold uK
 by_cases h:t.2.2=z6.length
 ·rw[decide_eq_true h,Bool.true_and,decide_eq_decide]
  constructor
  ·intro e
   have:=congrArg mm e
   rw[nu _ _ ht]at this
   exact this
  ·intro e
   rw[e,h]
   exact rB _ z6 rfl
 ·rw[decide_eq_false h,Bool.false_and,decide_eq_false_iff_not]
  intro e
  have:=congrArg List.length e
  rw[dr]at this
  exact h this
def xv (ts:List cP):Prop:=ts.Pairwise fun a b=>preB a.2.1 a.2.2 b=false
def Jb (ts:List cP)(c n:Nat):Option Int:=
 match ts.find? (fun t=>decide (t.2.2=n)&&decide (t.2.1=c))with
 |some t=>some (t.1:Int)
 |none=>if ts.any (preB c n)=true then some (-1)else none
theorem uR (t:cP)(c n:Nat):∀(k:Nat)(es:List ((Int×Int)×Int)),bS ((c:Int),(n:Int)) (xF t k es)=if n<k∧c=t.2.1/2^(t.2.2-n)then some (-1)else bS ((c:Int),(n:Int)) es
 |0,es=>by rw[if_neg (by omega)];rfl
 |k+1,es=>by
  rw[xF,uR t c n k,iC]
  by_cases h1:n<k∧c=t.2.1/2^(t.2.2-n)
  ·rw[if_pos h1,if_pos ⟨by omega,h1.2⟩]
  ·rw[if_neg h1]
   by_cases h2:n=k∧c=t.2.1/2^(t.2.2-n)
   ·obtain⟨rfl,h2⟩:=h2
    rw[if_pos (show((c:Int),(n:Int))=(((t.2.1/2^(t.2.2-n):Nat):Int),(n:Int)) by rw[←h2]),if_pos ⟨by omega,h2⟩]
   ·have a1:¬((c:Int),(n:Int))=(((t.2.1/2^(t.2.2-k):Nat):Int),(k:Int)):=by
     intro h
     simp only[Prod.mk.injEq]at h
     have e1:n=k:=by omega
     subst e1
     exact h2 ⟨rfl,by have:=h.1;omega⟩
    have a2:¬(n<k+1∧c=t.2.1/2^(t.2.2-n)):=by
     intro h
     rcases Nat.lt_or_eq_of_le (Nat.le_of_lt_succ h.1)with h3|h3
     ·exact h1 ⟨h3,h.2⟩
     ·exact h2 ⟨h3,h.2⟩
    rw[if_neg a1,if_neg a2]
theorem xz (t:cP)(c n:Nat)(es:List ((Int×Int)×Int)):bS ((c:Int),(n:Int)) (Aq es t)=if n<t.2.2∧c=t.2.1/2^(t.2.2-n)then some (-1)else if c=t.2.1∧n=t.2.2 then some (t.1:Int)else bS ((c:Int),(n:Int)) es:=by
 unfold Aq
 rw[uR,iC]
 split
 ·rfl
 ·by_cases h:c=t.2.1∧n=t.2.2
  ·rw[if_pos h,if_pos (by rw[h.1,h.2])]
  ·rw[if_neg h,if_neg (fun e=>by simp only[Prod.mk.injEq]at e;exact h ⟨by omega,by omega⟩)]
theorem tO {c n:Nat}{t:cP}:preB c n t=true↔(n<t.2.2∧c=t.2.1/2^(t.2.2-n))∨(c=t.2.1∧n=t.2.2):=by
 unfold preB
 simp only[Bool.and_eq_true,decide_eq_true_eq]
 constructor
 ·rintro⟨h1,h2⟩
  rcases Nat.lt_or_eq_of_le h1 with h|h
  ·exact .inl ⟨h,h2.symm⟩
  ·subst h;simp at h2;exact .inr ⟨h2.symm,rfl⟩
 ·rintro(⟨h1,h2⟩|⟨rfl,rfl⟩)
  ·exact⟨by omega,h2.symm⟩
  ·simp
theorem A6:∀(n0:Nat)(ts:List cP),ts.length=n0→xv ts→∀c n:Nat,bS ((c:Int),(n:Int)) (cy ts [])=Jb ts c n
 |0,ts,h,_,c,n=>by
  obtain rfl:=List.eq_nil_of_length_eq_zero h
  rfl
 |n0+1,ts,h,hf,c,n=>by
  rcases List.eq_nil_or_concat ts with rfl|⟨ts,t,rfl⟩
  ·simp at h
  ·simp only[List.concat_eq_append]at h hf⊢
   rw[List.length_append,List.length_singleton]at h
   have yR:xv ts∧∀a∈ts,preB a.2.1 a.2.2 t=false:=by
    unfold xv at hf⊢
    rw[List.pairwise_append]at hf
    exact⟨hf.1,fun a ha=>hf.2.2 a ha t (by simp)⟩
   have ih:=A6 n0 ts (by omega) yR.1 c n
   rw[nS,xz,ih]
   unfold Jb
   rw[List.find?_append,List.any_append]
   have rY:preB c n t=true→ts.find? (fun t=>decide (t.2.2=n)&&decide (t.2.1=c))=none:=by
    intro hp
    rw[List.find?_eq_none]
    intro a ha
    simp only[Bool.and_eq_true,decide_eq_true_eq]
    rintro⟨e1,e2⟩
    have:=yR.2 a ha
    rw[e1,e2,hp]at this
    cases this
   by_cases h1:n<t.2.2∧c=t.2.1/2^(t.2.2-n)
   ·have hp:preB c n t=true:=tO.2 (.inl h1)
    rw[if_pos h1,rY hp]
    have TF:(decide (t.2.2=n)&&decide (t.2.1=c))=false:=by rw[decide_eq_false (by omega)];rfl
    simp only[List.find?_cons,TF,List.find?_nil,Option.none_or,List.any_cons,hp,List.any_nil,Bool.or_false,Bool.or_true,if_true]
   ·rw[if_neg h1]
    by_cases h2:c=t.2.1∧n=t.2.2
    ·have hp:preB c n t=true:=tO.2 (.inr h2)
     rw[if_pos h2,rY hp]
     have TF:(decide (t.2.2=n)&&decide (t.2.1=c))=true:=by rw[h2.1,h2.2];simp
     simp only[List.find?_cons,TF,Option.none_or]
    ·rw[if_neg h2]
     have hp:preB c n t=false:=by
      cases hp:preB c n t with
      |false=>rfl
      |true=>rcases tO.1 hp with h|h
             ·exact absurd h h1
             ·exact absurd h h2
     have TF:(decide (t.2.2=n)&&decide (t.2.1=c))=false:=by
      rw[Bool.and_eq_false_iff]
      by_cases e:t.2.2=n
      ·right;rw[decide_eq_false_iff_not];intro e2;exact h2 ⟨e2.symm,e.symm⟩
      ·left;exact decide_eq_false e
     simp only[List.find?_cons,TF,List.find?_nil,Option.or_none,List.any_cons,hp,List.any_nil,Bool.or_false]
def dc (ts:List cP):Nat:=(ts.map fun t=>2^(15-t.2.2)).sum
theorem tA (ts:List cP)(t:cP):dc (ts++[t])=dc ts+2^(15-t.2.2):=by simp[dc]
def vJ:List cP→Prop:=fun ts=>∀a b t,ts=a++t::b→t.2.1*2^(15-t.2.2)=dc a∧t.2.2≤15
theorem Gu {ts:List cP}{t:cP}(h:vJ ts)(h1:t.2.1*2^(15-t.2.2)=dc ts)(h2:t.2.2≤15):vJ (ts++[t]):=by
 intro a b x e
 rcases List.eq_nil_or_concat b with rfl|⟨b,y,rfl⟩
 ·have:=List.append_inj' e rfl
  obtain⟨rfl,e2⟩:=this
  obtain rfl:t=x:=by simpa using e2
  exact⟨h1,h2⟩
 ·simp only[List.concat_eq_append]at e
  rw[←List.cons_append,←List.append_assoc]at e
  have:=List.append_inj' e rfl
  exact h a b x this.1
theorem Aa {ls:List Int}{n:Nat}{x:Nat×List cP}(hn:n≤15)(h:vJ x.2)(h2:x.1*2^(15-n)=dc x.2):∀i,vJ (cZ ls n i x).2∧(cZ ls n i x).1*2^(15-n)=dc (cZ ls n i x).2
 |0=>⟨h,h2⟩
 |i+1=>by
  obtain⟨i1,i2⟩:=Aa (ls:=ls) hn h h2 i
  rw[bf];unfold dR
  split
  ·refine⟨Gu i1 i2 hn,?_⟩
   show((cZ ls n i x).1+1)*2^(15-n)=_
   rw[tA,Nat.add_mul,i2,Nat.one_mul]
  ·exact⟨i1,i2⟩
theorem we {ls:List Int}:∀n,n≤15→vJ (aH ls n).2∧(aH ls n).1*2^(15-n)=dc (aH ls n).2
 |0,_=>⟨fun a b t e=>by simp[aH]at e,by simp[aH,dc]⟩
 |n+1,hn=>by
  obtain⟨h1,h2⟩:=we (ls:=ls) n (by omega)
  refine Aa (x:=(2*(aH ls n).1,(aH ls n).2)) hn h1 ?_ ls.length
  show 2*(aH ls n).1*2^(15-(n+1))=_
  rw[←h2,show 15-n=(15-(n+1))+1 by omega,Nat.pow_succ,Nat.mul_comm 2,Nat.mul_assoc,Nat.mul_comm 2]
def vD (ls:List Int)(n:Nat):Nat→Nat
 |0=>0
 |i+1=>vD ls n i+if 0<ls.getD i 0∧ls.getD i 0≤(n:Int)then 2^(15-(ls.getD i 0).toNat)else 0
theorem wm (ls:List Int):∀i,vD ls 0 i=0
 |0=>rfl
 |i+1=>by rw[vD,wm ls i,if_neg (by omega)]
theorem wB (ls:List Int)(n:Nat)(x:Nat×List cP):∀i,dc (cZ ls (n+1) i x).2+vD ls n i=dc x.2+vD ls (n+1) i
 |0=>rfl
 |i+1=>by
  have ih:=wB ls n x i
  rw[bf,vD,vD]
  unfold dR
  by_cases h:ls.getD i 0=((n+1:Nat):Int)
  ·rw[if_pos h]
   show dc ((cZ ls (n+1) i x).2++[_])+_=_
   rw[tA,if_neg (by omega),if_pos (by omega),h,Int.toNat_natCast]
   show dc _+2^(15-(n+1))+_=_
   omega
  ·rw[if_neg h]
   by_cases h2:0<ls.getD i 0∧ls.getD i 0≤(n:Int)
   ·rw[if_pos h2,if_pos (by omega)];omega
   ·rw[if_neg h2,if_neg (by omega)];omega
theorem ta (ls:List Int):∀n,dc (aH ls n).2=vD ls n ls.length
 |0=>by rw[wm];rfl
 |n+1=>by
  have:=wB ls n (2*(aH ls n).1,(aH ls n).2) ls.length
  have ih:=ta ls n
  show dc (cZ ls (n+1) ls.length (2*(aH ls n).1,(aH ls n).2)).2=_
  have e:dc (2*(aH ls n).1,(aH ls n).2).2=dc (aH ls n).2:=rfl
  omega
theorem zP {ls:List Int}(h:∀i,i<ls.length→ls.getD i 0≤15):∀i,i≤ls.length→vD ls 15 i=bB ls i
 |0,_=>rfl
 |i+1,hi=>by
  rw[vD,bB,zP h i (by omega)]
  have:=h i (by omega)
  by_cases h2:0<ls.getD i 0
  ·rw[if_pos ⟨h2,by omega⟩,if_pos h2]
  ·rw[if_neg (by omega),if_neg h2]
theorem ob (ls:List Int):dc (bZ ls)≤32768:=by
 unfold bZ
 split
 ·rename_i h
  have hb:fW ls=false:=by
   cases hb:fW ls with
   |false=>rfl
   |true=>rw[iD hb]at h;cases h
  have hf:bF ls=true:=by
   cases hf:bF ls with
   |true=>rfl
   |false=>rw[m8 hb hf]at h;cases h
  have rq:∀i,i<ls.length→ls.getD i 0≤15:=by
   intro i hi
   unfold fW at hb
   simp only[Bool.or_eq_false_iff]at hb
   have:=List.any_eq_false.1 hb.2 _ (pj (d:=0) hi)
   simp only[rC,decide_eq_true_eq]at this
   omega
  rw[ta,zP rq _ (Nat.le_refl _)]
  unfold bF at hf
  simp only[Bool.or_eq_true,Bool.and_eq_true,decide_eq_true_eq]at hf
  have hz:∀i,bY ls i=0→bB ls i=0:=by
   intro i
   induction i with
   |zero=>intro _;rfl
   |succ i ih=>
    intro hc
    simp only[bY]at hc
    simp only[bB]
    split at hc
    ·omega
    ·rename_i h0;rw[if_neg h0,ih (by omega)]
  rcases hf with(hf|hf)|hf
  ·omega
  ·rw[hz _ hf];omega
  ·omega
 ·exact Nat.zero_le _
theorem kL (ls:List Int):vJ (bZ ls):=by
 unfold bZ;split
 ·exact(we 15 (Nat.le_refl _)).1
 ·intro a b t e;simp at e
theorem qF (a b:List cP):dc (a++b)=dc a+dc b:=by simp[dc]
theorem oU (t:cP)(b:List cP):dc (t::b)=2^(15-t.2.2)+dc b:=by simp[dc]
theorem yh {ts:List cP}(h:vJ ts)(hs:dc ts≤32768){t:cP}(ht:t∈ts):t.2.1<2^t.2.2∧t.2.2≤15:=by
 obtain⟨a,b,rfl⟩:=List.append_of_mem ht
 obtain⟨h1,h2⟩:=h a b t rfl
 refine⟨?_,h2⟩
 rw[qF,oU,←h1]at hs
 have e:(32768:Nat)=2^t.2.2*2^(15-t.2.2):=by rw[←Nat.pow_add,show t.2.2+(15-t.2.2)=15 by omega]
 have h3:(t.2.1+1)*2^(15-t.2.2)≤2^t.2.2*2^(15-t.2.2):=by rw[←e,Nat.add_mul,Nat.one_mul];omega
 have:=Nat.le_of_mul_le_mul_right h3 (Nat.pow_pos (by omega))
 omega
theorem z9 {ts:List cP}(h:vJ ts):xv ts:=by
 unfold xv
 rw[List.pairwise_iff_getElem]
 intro i j hi hj r6
 have e1:ts=ts.take i++ts[i]::ts.drop (i+1):=by rw[←List.drop_eq_getElem_cons hi,List.take_append_drop]
 have e2:ts=ts.take j++ts[j]::ts.drop (j+1):=by rw[←List.drop_eq_getElem_cons hj,List.take_append_drop]
 obtain⟨a1,a2⟩:=h _ _ _ e1
 obtain⟨b1,b2⟩:=h _ _ _ e2
 generalize ts[i]=x at*
 generalize ts[j]=y at*
 have hle:dc (ts.take i)+2^(15-x.2.2)≤dc (ts.take j):=by
  have e3:ts.take j=ts.take i++x::(ts.take j).drop (i+1):=by
   have:(ts.take j)[i]?=some x:=by
    rw[List.getElem?_take,if_pos r6]
    conv=>lhs;rw[e1]
    rw[List.getElem?_append_right (by simp;omega)]
    simp[Nat.min_eq_left (Nat.le_of_lt hi)]
   obtain⟨Fy,e4⟩:=List.getElem?_eq_some_iff.1 this
   have e5:=List.take_append_drop i (ts.take j)
   rw[List.drop_eq_getElem_cons Fy,e4,List.take_take,Nat.min_eq_left (Nat.le_of_lt r6)]at e5
   exact e5.symm
  rw[e3,qF,oU];omega
 cases hp:preB x.2.1 x.2.2 y with
 |false=>rfl
 |true=>
  exfalso
  unfold preB at hp
  simp only[Bool.and_eq_true,decide_eq_true_eq]at hp
  obtain⟨p1,p2⟩:=hp
  have hy:y.2.1<(x.2.1+1)*2^(y.2.2-x.2.2):=by
   rw[←p2]
   have:=Nat.lt_div_mul_add (a:=y.2.1) (b:=2^(y.2.2-x.2.2)) (Nat.pow_pos (by omega))
   rw[Nat.add_mul,Nat.one_mul];exact this
  have hm:y.2.1*2^(15-y.2.2)<(x.2.1+1)*2^(y.2.2-x.2.2)*2^(15-y.2.2):=Nat.mul_lt_mul_of_pos_right hy (Nat.pow_pos (by omega))
  rw[Nat.mul_assoc,←Nat.pow_add,show y.2.2-x.2.2+(15-y.2.2)=15-x.2.2 by omega,Nat.add_mul,Nat.one_mul,b1,a1]at hm
  omega
theorem Ir {row:List Bool}{a b:Nat}(hb:b≤row.length):(gM row a b).length=b-a:=by
 unfold gM;rw[List.length_take,List.length_drop];omega
theorem Gq {row:List Bool}{a b:Nat}(ha:a≤b)(hb:b<row.length):gM row a (b+1)=gM row a b++[row.getD b false]:=by
 unfold gM
 rw[show b+1-a=(b-a)+1 by omega,List.take_succ_eq_append_getElem (by rw[List.length_drop];omega),List.getElem_drop,List.getD_eq_getElem?_getD,List.getElem?_eq_getElem hb]
 congr 2
 simp only[Option.getD_some]
 congr 1;omega
theorem Ew {α:Type}{l:List α}{p q:α→Bool}(h:∀x∈l,p x=q x):l.any p=l.any q:=by
 induction l with
 |nil=>rfl
 |cons x l ih=>rw[List.any_cons,List.any_cons,h x List.mem_cons_self,ih fun y hy=>h y (List.mem_cons_of_mem _ hy)]
theorem A7 {α:Type}{l:List α}{p q:α→Bool}(h:∀x∈l,p x=q x):l.find? p=l.find? q:=by
 induction l with
 |nil=>rfl
 |cons x l ih=>rw[List.find?_cons,List.find?_cons,h x List.mem_cons_self,ih fun y hy=>h y (List.mem_cons_of_mem _ hy)]
theorem wG {ts:List cP}(a9:∀t∈ts,t.2.1<2^t.2.2)(jN:xv ts){row:List Bool}{a:Nat}:∀(f b:Nat),a≤b→b≤row.length→
 mz (cy ts []) row f (mm (gM row a b)) (b-a) b=Gx ts row a f b
 |0,b,_,_=>rfl
 |f+1,b,KU,hb=>by
  have cV:=Ir (a:=a) hb
  have h1:ts.find? (uK (gM row a b))=ts.find? (fun t=>decide (t.2.2=b-a)&&decide (t.2.1=mm (gM row a b))):=
   A7 fun t ht=>by rw[Nw (a9 t ht),cV]
  have h2:ts.any (fun t=>Et (cR t.2.1 t.2.2) (gM row a b))=ts.any (preB (mm (gM row a b)) (b-a)):=
   Ew fun t ht=>by rw[Bv (a9 t ht),cV]
  simp only[mz,Gx]
  rw[A6 _ ts rfl jN,h1,h2]
  unfold Jb
  cases hf:ts.find? (fun t=>decide (t.2.2=b-a)&&decide (t.2.1=mm (gM row a b)))with
  |some t=>
   simp only
   rw[if_pos (Int.natCast_nonneg _)]
  |none=>
   simp only
   cases ha:ts.any (preB (mm (gM row a b)) (b-a))with
   |false=>rfl
   |true=>
    simp only[if_true]
    rw[if_neg (by omega)]
    by_cases e:b=row.length
    ·rw[if_pos (by omega),if_pos e]
    ·rw[if_neg (by omega),if_neg e]
     have ih:=wG a9 jN (row:=row) (a:=a) f (b+1) (by omega) (by omega)
     rw[Gq KU (by omega),qy,show b+1-a=b-a+1 by omega]at ih
     exact ih
theorem BU {ls:List Int}{row:List Bool}{a:Nat}(ha:a≤row.length):eL (cy (bZ ls) []) row a=Qg (bZ ls) row a:=by
 unfold eL Qg
 have:=wG (fun t ht=>(yh (kL ls) (ob ls) ht).1) (z9 (kL ls)) (row:=row) (a:=a) (row.length-a+1) a (Nat.le_refl _) ha
 have e:gM row a a=[]:=by unfold gM;rw[Nat.sub_self,List.take_zero]
 rw[e,Nat.sub_self]at this
 exact this
def fI (es:List ((Int×Int)×Int)):Prop:=∀k z,bS k es=some z→k.2≤15
theorem xh {es:List ((Int×Int)×Int)}(h:fI es){k:Int×Int}(hk:k.2≤15)(z:Int):fI (l9 k z es):=by
 intro k' z' e
 rw[iC]at e
 split at e
 ·rename_i e2;rw[e2];exact hk
 ·exact h k' z' e
theorem ux (t:cP):∀(k:Nat){es:List ((Int×Int)×Int)},k≤16→fI es→fI (xF t k es)
 |0,_,_,h=>h
 |k+1,_,hk,h=>ux t k (by omega) (xh h (by show((k:Nat):Int)≤15;omega) _)
theorem GW {ts:List cP}(h:∀t∈ts,t.2.2≤15):∀es,fI es→fI (cy ts es):=by
 induction ts with
 |nil=>intro es h;exact h
 |cons t ts ih=>
  intro es he
  exact ih (fun x hx=>h x (List.mem_cons_of_mem _ hx)) _ (ux t _ (by have:=h t List.mem_cons_self;omega) (xh he (by have:=h t List.mem_cons_self;show((t.2.2:Nat):Int)≤15;omega) _))
theorem iw (ls:List Int):fI (cy (bZ ls) []):=GW (fun t ht=>(yh (kL ls) (ob ls) ht).2) [] (fun k z e=>by cases e)
end Go.Proofs.Ytibadaomjlkoaaa
open Go.RowKit
namespace Go.Proofs.Ytibadaomjlkoaaa
def sv (a b:It):Prop:=a.w<b.w∨(a.w=b.w∧a.k≤b.k)
theorem uq (a:It):sv a a:=.inr ⟨rfl,Int.le_refl _⟩
theorem xg {a b c:It}(h1:sv a b)(h2:sv b c):sv a c:=by unfold sv at*;omega
theorem rV {a b:It}(h:g8 a b=true):sv a b:=by
 simp only[g8,Bool.or_eq_true,Bool.and_eq_true,decide_eq_true_eq]at h;unfold sv;omega
theorem ur {a b:It}(h:¬g8 b a=true):sv a b:=by
 simp only[g8,Bool.or_eq_true,Bool.and_eq_true,decide_eq_true_eq]at h;unfold sv;omega
theorem dz {L:List It}{i j:Nat}(hi:i<L.length)(hj:j<L.length)(r:Nat):(c9 L i j).getD r default=if r=j then L.getD i default else if r=i then L.getD j default else L.getD r default:=by
 unfold c9
 simp only[List.getD_eq_getElem?_getD,List.getElem?_set,List.length_set]
 by_cases h1:r=j
 ·subst h1;simp[hj]
 ·rw[if_neg (fun h=>h1 h.symm),if_neg h1]
  by_cases h2:r=i
  ·subst h2;simp[hi]
  ·rw[if_neg (fun h=>h2 h.symm),if_neg h2]
def xq (n:Nat)(L:List It)(s:Nat):Prop:=∀j c,s≤j→(c=2*j+1∨c=2*j+2)→c<n→sv (L.getD j default) (L.getD c default)
def TB (n:Nat)(L:List It)(s i:Nat):Prop:=(∀j c,s≤j→j≠i→(c=2*j+1∨c=2*j+2)→c<n→sv (L.getD j default) (L.getD c default))∧
 ∀p c,s≤p→(i=2*p+1∨i=2*p+2)→(c=2*i+1∨c=2*i+2)→c<n→sv (L.getD p default) (L.getD c default)
theorem pr:∀(f n:Nat)(L:List It)(i s:Nat),n-i≤f→s≤i→n≤L.length→TB n L s i→xq n (fG f n L i) s
 |0,n,L,i,s,hf,hs,hn,h=>by
  intro j c hj hc BR
  exact h.1 j c hj (by omega) hc BR
 |f+1,n,L,i,s,hf,hs,hn,h=>by
  simp only[fG]
  by_cases h1:2*i+1<n
  ·rw[if_pos h1]
   have hk:=nU (L:=L) h1
   have Xx:ju n L i=2*i+1∨ju n L i=2*i+2:=by unfold ju;split<;>omega
   have Nt:∀c,(c=2*i+1∨c=2*i+2)→c<n→sv (L.getD (ju n L i) default) (L.getD c default):=by
    intro c hc BR
    unfold ju
    by_cases h3:2*i+2<n∧g8 (L.getD (2*i+2) default) (L.getD (2*i+1) default)=true
    ·rw[if_pos h3]
     rcases hc with rfl|rfl
     ·exact rV h3.2
     ·exact uq _
    ·rw[if_neg h3]
     rcases hc with rfl|rfl
     ·exact uq _
     ·exact ur (fun h4=>h3 ⟨BR,h4⟩)
   generalize ju n L i=k at*
   by_cases h2:g8 (L.getD k default) (L.getD i default)=true
   ·rw[if_pos h2]
    have jq:i<L.length:=by omega
    have HO:k<L.length:=by omega
    refine pr f n _ k s (by omega) (by omega) (by rw[br];exact hn) ⟨?_,?_⟩
    ·intro j c hj JI hc BR
     rw[dz jq HO,dz jq HO]
     by_cases e1:j=i
     ·rw[if_neg JI,if_pos e1]
      by_cases e2:c=k
      ·rw[if_pos e2];exact rV h2
      ·rw[if_neg e2,if_neg (by omega)];exact Nt c (by omega) BR
     ·rw[if_neg JI,if_neg e1,if_neg (show¬c=k by omega)]
      by_cases e3:c=i
      ·rw[if_pos e3];exact h.2 j k hj (by omega) Xx hk.2
      ·rw[if_neg e3];exact h.1 j c hj e1 hc BR
    ·intro p c hp hpk hc BR
     have e:p=i:=by omega
     rw[dz jq HO,dz jq HO,if_neg (show¬p=k by omega),if_pos e,if_neg (show¬c=k by omega),if_neg (show¬c=i by omega)]
     exact h.1 k c (by omega) (by omega) hc BR
   ·rw[if_neg h2]
    intro j c hj hc BR
    by_cases e:j=i
    ·rw[e];exact xg (ur h2) (Nt c (by omega) BR)
    ·exact h.1 j c hj e hc BR
  ·rw[if_neg h1]
   intro j c hj hc BR
   exact h.1 j c hj (by omega) hc BR
theorem Be:∀(f n:Nat)(L:List It)(i j:Nat),n≤L.length→n≤j→(fG f n L i).getD j default=L.getD j default
 |0,_,_,_,_,_,_=>rfl
 |f+1,n,L,i,j,hn,hj=>by
  simp only[fG]
  split
  ·rename_i h1
   have hk:=nU (L:=L) h1
   split
   ·rw[Be f n _ _ j (by rw[br];exact hn) hj,dz (by omega) (by omega),if_neg (by omega),if_neg (by omega)]
   ·rfl
  ·rfl
theorem th {L:List It}{i j:Nat}(hi:i<L.length)(hj:j<L.length):(c9 L i j).Perm L:=by
 have gi:L.getD i default=L[i]:=by simp[List.getD_eq_getElem?_getD,hi]
 have gj:L.getD j default=L[j]:=by simp[List.getD_eq_getElem?_getD,hj]
 rw[List.perm_iff_count]
 intro x
 unfold c9
 rw[gi,gj,List.count_set (by rw[List.length_set];exact hj),List.count_set hi,List.getElem_set]
 have c1:L.count x≥if(L[i]==x)=true then 1 else 0:=by
  split
  ·rename_i h
   exact List.one_le_count_iff.2 (by have:=List.getElem_mem hi;rw[eq_of_beq h]at this;exact this)
  ·omega
 have c2:L.count x≥if(L[j]==x)=true then 1 else 0:=by
  split
  ·rename_i h
   exact List.one_le_count_iff.2 (by have:=List.getElem_mem hj;rw[eq_of_beq h]at this;exact this)
  ·omega
 by_cases e:i=j
 ·subst e;simp only[if_true];omega
 ·rw[if_neg e];omega
theorem tg {L:List It}{i j n:Nat}(hi:i<n)(hj:j<n):(c9 L i j).take n=c9 (L.take n) i j:=by
 unfold c9
 rw[List.take_set,List.take_set]
 simp only[List.getD_eq_getElem?_getD,List.getElem?_take,if_pos hi,if_pos hj]
theorem pq:∀(f n:Nat)(L:List It)(i:Nat),n≤L.length→((fG f n L i).take n).Perm (L.take n)
 |0,_,_,_,_=>List.Perm.refl _
 |f+1,n,L,i,hn=>by
  simp only[fG]
  split
  ·rename_i h1
   have hk:=nU (L:=L) h1
   split
   ·refine(pq f n _ _ (by rw[br];exact hn)).trans ?_
    rw[tg (by omega) hk.2]
    exact th (by rw[List.length_take];omega) (by rw[List.length_take];omega)
   ·exact List.Perm.refl _
  ·exact List.Perm.refl _
theorem uB (n:Nat):∀(i:Nat)(L:List It),n≤L.length→xq n L i→xq n (g9 n i L) 0
 |0,_,_,h=>h
 |i+1,L,hn,h=>by
  rw[g9]
  refine uB n i _ (by rw[iE];exact hn) ?_
  refine pr _ n L i i (Nat.le_refl _) (Nat.le_refl _) hn ⟨?_,?_⟩
  ·intro j c hj fR hc BR
   exact h j c (by omega) hc BR
  ·intro p c hp V7
   omega
theorem uA (n:Nat):∀(i:Nat)(L:List It),n≤L.length→((g9 n i L).take n).Perm (L.take n)
 |0,_,_=>List.Perm.refl _
 |i+1,L,hn=>by
  rw[g9]
  exact(uA n i _ (by rw[iE];exact hn)).trans (pq _ n L i hn)
theorem JQ {n:Nat}{L:List It}(h:xq n L 0):∀(c:Nat),c<n→sv (L.getD 0 default) (L.getD c default):=by
 intro c
 induction c using Nat.strongRecOn with
 |_ c ih=>
  intro hc
  rcases Nat.eq_zero_or_pos c with rfl|hp
  ·exact uq _
  ·exact xg (ih ((c-1)/2) (by omega) (by omega)) (h ((c-1)/2) c (Nat.zero_le _) (by omega) hc)
theorem F9 {L:List It}{h:Nat}(hh:h<L.length):L.take (h+1)=L.take h++[L.getD h default]:=by
 rw[List.take_succ_eq_append_getElem hh];simp[List.getD_eq_getElem?_getD,hh]
theorem tP:∀(h:Nat)(L:List It),h≤L.length→xq h L 0→(dW h L).Perm (L.take h)∧(dW h L).Pairwise sv
 |0,_,_,_=>⟨by simp[dW],List.Pairwise.nil⟩
 |h+1,L,hl,hp=>by
  have h0:0<L.length:=by omega
  have hh:h<L.length:=by omega
  have hx:(eM (h+1) L).getD h default=L.getD 0 default:=by
   unfold eM kE
   rw[Be (h+1-1-0) (h+1-1) (c9 L 0 (h+1-1)) 0 h (by rw[br];omega) (by omega),Nat.add_sub_cancel,dz h0 hh,if_pos rfl]
  have hq:xq h (eM (h+1) L) 0:=by
   unfold eM kE
   refine pr _ h _ 0 0 (Nat.le_refl _) (Nat.le_refl _) (by rw[br];omega) ⟨?_,?_⟩
   ·intro j c hj hj0 hc Zk
    rw[Nat.add_sub_cancel,dz h0 hh,dz h0 hh,if_neg (by omega),if_neg hj0,if_neg (by omega),if_neg (by omega)]
    exact hp j c hj hc (by omega)
   ·intro p c xm V7
    omega
  obtain⟨i1,i2⟩:=tP h (eM (h+1) L) (by rw[dY];omega) hq
  have OD:(dW (h+1) L).Perm (L.take (h+1)):=by
   show((eM (h+1) L).getD h default::dW h (eM (h+1) L)).Perm _
   rw[hx]
   refine(List.Perm.cons _ (i1.trans (pq _ h _ 0 (by rw[br];show h≤_;omega)))).trans ?_
   rw[Nat.add_sub_cancel]
   have e:(c9 L 0 h).take (h+1)=(c9 L 0 h).take h++[L.getD 0 default]:=by
    rw[F9 (by rw[br];exact hh),dz h0 hh,if_pos rfl]
   refine(List.perm_append_singleton (L.getD 0 default) ((c9 L 0 h).take h)).symm.trans ?_
   rw[←e,tg (by omega) (by omega)]
   exact th (by rw[List.length_take];omega) (by rw[List.length_take];omega)
  refine⟨OD,?_⟩
  show((eM (h+1) L).getD h default::dW h (eM (h+1) L)).Pairwise sv
  refine List.Pairwise.cons (fun y hy=>?_) i2
  have ZX:y∈L.take (h+1):=OD.subset (List.mem_cons_of_mem _ hy)
  obtain⟨c,hc,rfl⟩:=List.getElem_of_mem ZX
  rw[List.length_take]at hc
  rw[hx,List.getElem_take]
  have:=JQ hp c (by omega)
  rwa[show L.getD c default=L[c] by simp[List.getD_eq_getElem?_getD,show c<L.length by omega]]at this
def ES (L:List It):List It:=dW L.length (dF L)
theorem Gk (L:List It):(ES L).length=L.length:=nG _ _
theorem tv (L:List It):(ES L).Perm (fb L.length L)∧(ES L).Pairwise sv:=by
 have hl:=ee L.length L
 obtain⟨h1,h2⟩:=tP L.length (dF L) (by rw[kW];exact Nat.le_refl _) (by
  unfold dF
  refine uB _ _ _ (by rw[hl];exact Nat.le_refl _) ?_
  intro j c hj hc BR
  omega)
 refine⟨h1.trans ?_,h2⟩
 have:=uA L.length (L.length/2) (fb L.length L) (by rw[hl];exact Nat.le_refl _)
 unfold dF
 rwa[List.take_of_length_le (l:=fb L.length L) (by rw[hl];exact Nat.le_refl _)]at this
end Go.Proofs.Ytibadaomjlkoaaa
