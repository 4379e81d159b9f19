import Derived.Test.YtibadaomjlkoaaaGde
import Derived.Test.YtibadaomjlkoaaaGdc
import Derived.Test.YtibadaomjlkoaaaGdd
import Derived.Test.YtibadaomjlkoaaaGb
import Derived.Test.YtibadaomjlkoaaaGx
set_option linter.unusedVariables false
set_option linter.unusedSimpArgs false
open Go.RowKit
namespace Go.Proofs.Ytibadaomjlkoaaa
set_option maxRecDepth 10000
end Go.Proofs.Ytibadaomjlkoaaa
open Go.RowKit
namespace Go.Proofs.Ytibadaomjlkoaaa
theorem yg (ls:List Int):∀i,(aY ls i:Int)=ck i fun j=>if 0<ls.getD j 0 then 2^(15-(ls.getD j 0).toNat)else 0
 |0=>rfl
 |i+1=>by
  simp only[aY,ck]
  rw[←yg ls i]
  split<;>push_cast<;>rfl
theorem zo (ls:List Int):∀i,(bn ls i:Int)=ck i fun j=>if 0<ls.getD j 0 then 1 else 0
 |0=>rfl
 |i+1=>by
  simp only[bn,ck]
  rw[←zo ls i]
  split<;>push_cast<;>rfl
theorem iQ.Hb {fr:List Int}{K:Nat}{l:List Int}(ok:iQ fr K l){s:Nat}(hs:s<fr.length):0<l.getD s 0↔0<fr.getD s 0:=by
 constructor
 ·intro h
  rcases Int.lt_or_le 0 (fr.getD s 0)with h2|h2
  ·exact h2
  ·have:=ok.zero s hs (by omega);omega
 ·intro h
  have:=ok.pos s hs h;omega
theorem iQ.rg {fr:List Int}{K:Nat}{l:List Int}(h:iQ fr K l){s:Nat}(hs:s<fr.length):0≤l.getD s 0∧l.getD s 0≤K:=by
 by_cases e:0<fr.getD s 0
 ·have:=h.pos s hs e;omega
 ·rw[h.zero s hs e];omega
theorem iQ.makes {fr:List Int}{K:Nat}{l:List Int}(ok:iQ fr K l)(hK:K≤15)(hl:fr.length≤320):aB l=0:=by
 have hlen:=ok.len
 have hb:eh l=false:=by
  unfold eh
  rw[decide_eq_false (by omega),Bool.false_or,List.any_eq_false]
  intro x hx
  obtain⟨j,hj,rfl⟩:=List.getElem_of_mem hx
  have:=ok.rg (s:=j) (by omega)
  rw[List.getD_eq_getElem?_getD,List.getElem?_eq_getElem hj]at this
  simp only[ng,decide_eq_true_eq,Option.getD_some]at this⊢
  omega
 refine eK hb ?_
 have hs:=yg l l.length
 have hc:=zo l l.length
 rw[hlen]at hs hc
 have e1:ck fr.length (fun j=>if 0<l.getD j 0 then(2:Int)^(15-(l.getD j 0).toNat)else 0)=ck fr.length (fun j=>if 0<fr.getD j 0 then(2:Int)^(15-(l.getD j 0).toNat)else 0):=
  bs fun j hj=>by
   have:=ok.Hb hj
   by_cases h:0<fr.getD j 0
   ·rw[if_pos h,if_pos (this.2 h)]
   ·rw[if_neg h,if_neg (fun x=>h (this.1 x))]
 have e2:ck fr.length (fun j=>if 0<l.getD j 0 then(1:Int)else 0)=ck fr.length (fun j=>if 0<fr.getD j 0 then(1:Int)else 0):=
  bs fun j hj=>by
   have:=ok.Hb hj
   by_cases h:0<fr.getD j 0
   ·rw[if_pos h,if_pos (this.2 h)]
   ·rw[if_neg h,if_neg (fun x=>h (this.1 x))]
 rw[e1]at hs
 rw[e2,oF (fun _=>1),BD]at hc
 unfold a9
 rw[hlen]
 rcases(show nF fr=0∨nF fr=1∨2≤nF fr by omega)with hn|hn|hn
 ·rw[decide_eq_true (show bn l fr.length=0 by omega)];simp
 ·have h1:bn l fr.length=1:=by omega
  rw[oF (fun j=>(2:Int)^(15-(l.getD j 0).toNat)),hn]at hs
  have hm:=gz (jh (l:=aM fr) (j:=0) (d:=0) (by have:(aM fr).length=1:=hn;omega))
  have hp:=ok.pos _ hm.1 hm.2
  have ho:=ok.one hn ((aM fr).getD 0 0)
  have EE:l.getD ((aM fr).getD 0 0) 0=1:=by omega
  simp only[ck,EE]at hs
  have h2:aY l fr.length=16384:=by
   have:(0:Int)+2^(15-(1:Int).toNat)=16384:=by decide
   omega
  rw[decide_eq_true h1,decide_eq_true h2];simp
 ·have:=ok.V7 hn
  rw[decide_eq_true (show aY l fr.length=32768 by omega)];simp
theorem vx {ls:List Int}{n:Nat}{x:Nat×List bb}(h1:∀t∈x.2,t.2.2<n∧ls.getD t.1 0=(t.2.2:Int))(h2:x.2.Pairwise fun a b=>a.1≠b.1):∀i,(cJ ls n i x).2.Pairwise (fun a b=>a.1≠b.1)∧∀t∈(cJ ls n i x).2,t∈x.2∨t.1<i
 |0=>⟨h2,fun t ht=>.inl ht⟩
 |i+1=>by
  obtain⟨a,b⟩:=vx h1 h2 i
  rw[aZ];unfold dD
  split
  ·rename_i hk
   refine⟨?_,fun t ht=>?_⟩
   ·rw[List.pairwise_append]
    refine⟨a,List.pairwise_singleton _ _,fun t ht y hy=>?_⟩
    obtain rfl:=List.mem_singleton.1 hy
    show t.1≠i
    rcases b t ht with h|h
    ·intro e
     obtain⟨c1,c2⟩:=h1 t h
     rw[e,hk]at c2
     omega
    ·omega
   ·rcases List.mem_append.1 ht with ht|ht
    ·rcases b t ht with h|h
     ·exact .inl h
     ·exact .inr (by omega)
    ·obtain rfl:=List.mem_singleton.1 ht
     exact .inr (Nat.lt_succ_self i)
  ·exact⟨a,fun t ht=>by rcases b t ht with h|h;exact .inl h;exact .inr (by omega)⟩
theorem GP {ls:List Int}:∀n,∀t∈(aK ls n).2,t.2.2≤n∧ls.getD t.1 0=(t.2.2:Int)
 |0=>by intro t ht;cases ht
 |n+1=>by
  have ih:=GP (ls:=ls) n
  have:∀i,∀t∈(cJ ls (n+1) i (2*(aK ls n).1,(aK ls n).2)).2,t.2.2≤n+1∧ls.getD t.1 0=(t.2.2:Int):=by
   intro i
   induction i with
   |zero=>intro t ht;have:=ih t ht;exact⟨by omega,this.2⟩
   |succ i ih2=>
    rw[aZ];unfold dD
    split
    ·rename_i hk
     intro t ht
     rcases List.mem_append.1 ht with ht|ht
     ·exact ih2 t ht
     ·obtain rfl:=List.mem_singleton.1 ht
      exact⟨Nat.le_refl _,hk⟩
    ·exact ih2
  exact this ls.length
theorem tn {ls:List Int}:∀n,(aK ls n).2.Pairwise fun a b=>a.1≠b.1
 |0=>List.Pairwise.nil
 |n+1=>(vx (x:=(2*(aK ls n).1,(aK ls n).2)) (fun t ht=>by have:=GP n t ht;exact⟨by omega,this.2⟩) (tn n) ls.length).1
theorem GD (ls:List Int):(aj ls).Pairwise fun a b=>a.1≠b.1:=by
 unfold aj;split
 ·exact tn 15
 ·exact List.Pairwise.nil
theorem yo {ls:List Int}{n:Nat}{x:Nat×List bb}{t:bb}:∀i,t∈x.2→t∈(cJ ls n i x).2
 |0,h=>h
 |i+1,h=>by
  have:=yo (ls:=ls) (n:=n) i h
  rw[aZ];unfold dD;split
  ·exact List.mem_append_left _ this
  ·exact this
theorem B1 {ls:List Int}{n s:Nat}{x:Nat×List bb}(h:ls.getD s 0=(n:Int)):∀i,s<i→∃t∈(cJ ls n i x).2,t.1=s
 |0,h0=>by omega
 |i+1,hi=>by
  rw[aZ]
  rcases(show s<i∨s=i by omega)with h1|h1
  ·obtain⟨t,h2,h3⟩:=B1 (x:=x) h i h1
   unfold dD;split
   ·exact⟨t,List.mem_append_left _ h2,h3⟩
   ·exact⟨t,h2,h3⟩
  ·subst h1
   unfold dD
   rw[if_pos h]
   exact⟨_,List.mem_append_right _ (List.mem_singleton.2 rfl),rfl⟩
theorem x9 {ls:List Int}{s m:Nat}(hs:s<ls.length)(h:ls.getD s 0=(m:Int))(h1:1≤m):∀n,m≤n→∃t∈(aK ls n).2,t.1=s
 |0,h0=>by omega
 |n+1,hn=>by
  rcases(show m≤n∨m=n+1 by omega)with h2|h2
  ·obtain⟨t,h3,h4⟩:=x9 hs h h1 n h2
   exact⟨t,yo ls.length h3,h4⟩
  ·subst h2
   exact B1 h ls.length hs
theorem MO {ls:List Int}(he:aB ls=0){s:Nat}(hs:s<ls.length)(h1:1≤ls.getD s 0)(qs:ls.getD s 0≤15):∃t∈aj ls,t.1=s∧ls.getD s 0=(t.2.2:Int):=by
 obtain⟨t,h2,h3⟩:=x9 (m:=(ls.getD s 0).toNat) hs (by omega) (by omega) 15 (by omega)
 have ht:t∈aj ls:=by unfold aj;rw[if_pos he];exact h2
 exact⟨t,ht,h3,by rw[←h3];exact(lH ht).2.2.2⟩
theorem Lr {o:List Int}:∀(ts:List bb),ts.Pairwise (fun a b=>a.1≠b.1)→(∀t∈ts,t.1<o.length∧t.2.2≤15)→∀t∈ts,(pA ts o).getD t.1 0=num (aG t.2.1 t.2.2):=by
 intro ts
 obtain⟨n,hn⟩:∃n,ts.length=n:=⟨_,rfl⟩
 induction n generalizing ts with
 |zero=>intro _ _ t ht;rw[List.eq_nil_of_length_eq_zero hn]at ht;cases ht
 |succ n ih=>
  rcases List.eq_nil_or_concat ts with rfl|⟨ts,y,rfl⟩
  ·simp at hn
  ·simp only[List.concat_eq_append]at hn⊢
   intro hp hb t ht
   rw[List.pairwise_append]at hp
   have hlen:(pA ts o).length=o.length:=fo ts o
   rw[o5,jP]
   rcases List.mem_append.1 ht with ht|ht
   ·rw[if_neg (fun h=>hp.2.2 t ht y (List.mem_singleton.2 rfl) h.1.symm)]
    exact ih ts (by rw[List.length_append]at hn;simpa using hn) hp.1 (fun t ht=>hb t (List.mem_append_left _ ht)) t ht
   ·obtain rfl:=List.mem_singleton.1 ht
    obtain⟨b1,b2⟩:=hb t (List.mem_append_right _ (List.mem_singleton.2 rfl))
    rw[if_pos ⟨rfl,by rw[hlen];exact b1⟩]
    have h1:=K3 t.2.1 t.2.2
    have h2:=fU (aG t.2.1 t.2.2)
    rw[bP]at h2
    have h3:=mf b2
    have h4:(2:Int)^15=32768:=by decide
    rw[h1]
    rw[h1]at h2
    omega
theorem EX {ls:List Int}(he:aB ls=0){t:bb}(ht:t∈aj ls):(aA ls).1.getD t.1 0=num (aG t.2.1 t.2.2):=by
 have e:aj ls=(aK ls 15).2:=by unfold aj;rw[if_pos he]
 unfold aA
 rw[if_pos he,←e]
 exact Lr _ (GD ls) (fun t ht=>by have:=lH ht;rw[List.length_replicate];exact⟨this.1,this.2.2.1⟩) t ht
theorem IC {ts:List bb}(h:xC ts){i j:Nat}(hi:i<ts.length)(hj:j<ts.length)(tN:i<j):ts[i].2.1*2^(15-ts[i].2.2)+2^(15-ts[i].2.2)≤ts[j].2.1*2^(15-ts[j].2.2):=by
 have e1:ts=ts.take i++ts[i]::ts.drop (i+1):=by rw[←List.drop_eq_getElem_cons hi,List.take_append_drop]
 have e2:ts=ts.take j++ts[j]::ts.drop (j+1):=by rw[←List.drop_eq_getElem_cons hj,List.take_append_drop]
 obtain⟨a1,a2⟩:=h _ _ _ e1
 obtain⟨b1,b2⟩:=h _ _ _ e2
 rw[a1,b1]
 have HA:i<(ts.take j).length:=by rw[List.length_take];omega
 have e5:=List.take_append_drop i (ts.take j)
 rw[List.drop_eq_getElem_cons HA,List.take_take,Nat.min_eq_left (Nat.le_of_lt tN),List.getElem_take]at e5
 rw[←e5,sd,p8];omega
theorem ID {ts:List bb}(h:xC ts){x y:bb}(hx:x∈ts)(hy:y∈ts)(Z0:x≠y):preB x.2.1 x.2.2 y=false:=by
 obtain⟨i,hi,rfl⟩:=List.getElem_of_mem hx
 obtain⟨j,hj,rfl⟩:=List.getElem_of_mem hy
 rcases Nat.lt_trichotomy i j with tN|rfl|tN
 ·exact List.pairwise_iff_getElem.1 (BX h) i j hi hj tN
 ·exact absurd rfl Z0
 ·have ho:=IC h hj hi tN
  have n1:=(h _ _ _ (show ts=ts.take i++ts[i]::ts.drop (i+1) by rw[←List.drop_eq_getElem_cons hi,List.take_append_drop])).2
  have n2:=(h _ _ _ (show ts=ts.take j++ts[j]::ts.drop (j+1) by rw[←List.drop_eq_getElem_cons hj,List.take_append_drop])).2
  generalize ts[i]=x at*
  generalize ts[j]=y at*
  cases hp:preB x.2.1 x.2.2 y with
  |false=>rfl
  |true=>
   exfalso
   unfold preB at hp
   simp only[Bool.and_eq_true,decide_eq_true_eq]at hp
   obtain⟨p1,p2⟩:=hp
   have h1:x.2.1*2^(y.2.2-x.2.2)≤y.2.1:=by rw[←p2];exact Nat.div_mul_le_self _ _
   have h2:=Nat.mul_le_mul_right (2^(15-y.2.2)) h1
   rw[Nat.mul_assoc,←Nat.pow_add,show y.2.2-x.2.2+(15-y.2.2)=15-x.2.2 by omega]at h2
   have:=Nat.two_pow_pos (15-y.2.2)
   omega
theorem C9 {ls:List Int}{x y:bb}(hx:x∈aj ls)(hy:y∈aj ls)(Z0:x≠y):mJ (aG y.2.1 y.2.2) (aG x.2.1 x.2.2)=false:=by
 have h1:=(z9 (lG ls) (pt ls) hx).1
 have h2:=(z9 (lG ls) (pt ls) hy).1
 rw[Da h2,oz _ _ h1,bP]
 exact ID (lG ls) hx hy Z0
theorem yu {ls:List Int}{t:bb}(ht:t∈aj ls){row:List Bool}{a:Nat}(hr:a+t.2.2≤row.length)(hs:gF row a (a+t.2.2)=aG t.2.1 t.2.2):
 ∀(f b:Nat),a≤b→b≤a+t.2.2→a+t.2.2<b+f→nC (aj ls) row a f b=((t.1:Int),a+t.2.2,0)
 |0,b,h1,h2,h3=>by omega
 |f+1,b,h1,h2,h3=>by
  have LG:gF row a b=(aG t.2.1 t.2.2).take (b-a):=by
   rw[←hs];unfold gF;rw[List.take_take];congr 1;omega
  have Ul:mJ (aG t.2.1 t.2.2) (gF row a b)=true:=by
   unfold mJ
   rw[LG,List.length_take,bP,Nat.min_eq_left (by omega),decide_eq_true (by omega),decide_eq_true rfl];rfl
  simp only[nC]
  rcases(show b=a+t.2.2∨b<a+t.2.2 by omega)with hb|hb
  ·have hh:mu (gF row a b) t=true:=by unfold mu;rw[hb,hs];exact decide_eq_true rfl
   cases hf:(aj ls).find? (mu (gF row a b))with
   |none=>exact absurd hh (List.find?_eq_none.1 hf t ht)
   |some u=>
    have hu:=List.find?_some hf
    have hm:=List.mem_of_find?_eq_some hf
    have e:u=t:=by
     by_cases e:u=t
     ·exact e
     ·exfalso
      have h:=C9 hm ht e
      unfold mu at hu
      rw[decide_eq_true_eq]at hu
      rw[hu,Ul]at h
      cases h
    subst e
    simp only[hb]
  ·have tL:(aj ls).find? (mu (gF row a b))=none:=by
    rw[List.find?_eq_none]
    intro u hu hh
    have e:u≠t:=by
     intro e
     subst e
     unfold mu at hh
     rw[decide_eq_true_eq]at hh
     have:=congrArg List.length hh
     rw[bP,LG,List.length_take,bP]at this
     omega
    have h:=C9 hu ht e
    unfold mu at hh
    rw[decide_eq_true_eq]at hh
    rw[hh,Ul]at h
    cases h
   rw[tL]
   simp only
   rw[if_pos (List.any_eq_true.2 ⟨t,ht,Ul⟩),if_neg (by omega)]
   exact yu ht hr hs f (b+1) (by omega) (by omega) (by omega)
theorem IJ {ls:List Int}{t:bb}(ht:t∈aj ls){row:List Bool}{a:Nat}(hr:a+t.2.2≤row.length)(hs:gF row a (a+t.2.2)=aG t.2.1 t.2.2):
 l9 (aj ls) row a=((t.1:Int),a+t.2.2,0):=yu ht hr hs _ a (Nat.le_refl _) (by omega) (by omega)
def bf (L:List Int)(s:Int):List Bool:=bitsOf ((aA L).1.getD s.toNat 0) (L.getD s.toNat 0).toNat
def j8 (L:List Int)(s:Int):Prop:=0≤s∧s<L.length∧1≤L.getD s.toNat 0∧L.getD s.toNat 0≤15
theorem BB (L:List Int)(s:Int):(bf L s).length=(L.getD s.toNat 0).toNat:=ak _ _
theorem yb {L:List Int}(he:aB L=0){s:Int}(h:j8 L s):∃t∈aj L,(t.1:Int)=s∧bf L s=aG t.2.1 t.2.2∧(aA L).1.getD s.toNat 0=num (aG t.2.1 t.2.2)∧(L.getD s.toNat 0).toNat=t.2.2:=by
 obtain⟨h1,h2,h3,h4⟩:=h
 obtain⟨t,t1,t2,t3⟩:=MO he (s:=s.toNat) (by omega) h3 h4
 have hc:=EX he t1
 rw[t2]at hc
 refine⟨t,t1,by omega,?_,hc,by omega⟩
 unfold bf
 have hb:=mI t.2.2 (aG t.2.1 t.2.2) (by rw[bP];exact Nat.le_refl _)
 rw[bP,Nat.sub_self,List.replicate_zero,List.append_nil]at hb
 rw[hc,show(L.getD s.toNat 0).toNat=t.2.2 by omega,hb]
theorem qV {L:List Int}(he:aB L=0){s:Int}(h:j8 L s):0≤(aA L).1.getD s.toNat 0∧(aA L).1.getD s.toNat 0<2^(L.getD s.toNat 0).toNat:=by
 obtain⟨t,t1,t2,t3,t4,t5⟩:=yb he h
 rw[t4,t5]
 have:=fU (aG t.2.1 t.2.2)
 rw[bP]at this
 exact⟨K4 _,this⟩
end Go.Proofs.Ytibadaomjlkoaaa
open Go.RowKit
namespace Go.Proofs.Ytibadaomjlkoaaa
inductive DP (α:Type) where
 |ret (x:α)
 |fail (e:Int)
 |get (n:Nat)(k:Int→DP α)
 |align (k:DP α)
 |uq (c:Int)(k:DP α)
 |back (d:Nat)(k:Int→DP α)
 |AW (d:Int)(k:DP α)
 |room (n:Int)(k:DP α)
structure DS where
 a:Nat
 out:List Int
def DP.run {α:Type}(row:List Bool)(lim:Nat):DP α→DS→Except Int (α×DS)
 | .ret x,s=>.ok (x,s)
 | .fail e,_=>.error e
 | .get n k,s=>if s.a+n≤row.length then(k (num ((row.drop s.a).take n))).run row lim {s with a:=s.a+n}else .error 50
 | .align k,s=>k.run row lim {s with a:=(s.a+7)/8*8}
 | .uq c k,s=>if lim≤s.out.length then .error 81 else k.run row lim {s with out:=s.out++[c]}
 | .back d k,s=>if s.out.length<d then .error 70 else(k (s.out.getD (s.out.length-d) 0)).run row lim s
 | .AW d k,s=>if(s.out.length:Int)<d then .error 70 else k.run row lim s
 | .room n k,s=>if(lim:Int)-s.out.length<n then .error 81 else k.run row lim s
def DP.bind {α β:Type}:DP α→(α→DP β)→DP β
 | .ret x,f=>f x
 | .fail e,_=>.fail e
 | .get n k,f=>.get n fun v=>(k v).bind f
 | .align k,f=>.align (k.bind f)
 | .uq c k,f=>.uq c (k.bind f)
 | .back d k,f=>.back d fun v=>(k v).bind f
 | .AW d k,f=>.AW d (k.bind f)
 | .room n k,f=>.room n (k.bind f)
theorem DP.run_bind {α β:Type}{row:List Bool}{lim:Nat}(f:α→DP β):∀(p:DP α)(s:DS),(p.bind f).run row lim s=match p.run row lim s with
 | .ok (x,s')=>(f x).run row lim s'
 | .error e=>.error e:=by
 intro p
 induction p with
 |ret x=>intro s;rfl
 |fail e=>intro s;rfl
 |get n k ih=>intro s;simp only[DP.bind,DP.run];split;exact ih _ _;rfl
 |align k ih=>intro s;simp only[DP.bind,DP.run];exact ih _
 |uq c k ih=>intro s;simp only[DP.bind,DP.run];split;rfl;exact ih _
 |back d k ih=>intro s;simp only[DP.bind,DP.run];split;rfl;exact ih _ _
 |AW d k ih=>intro s;simp only[DP.bind,DP.run];split;rfl;exact ih _
 |room n k ih=>intro s;simp only[DP.bind,DP.run];split;rfl;exact ih _
theorem DP.l6 {α:Type}{row:List Bool}{lim:Nat}:∀(p:DP α)(s:DS){x:α}{s':DS},s.out.length≤lim→p.run row lim s=.ok (x,s')→s'.out.length≤lim∧s.out.length≤s'.out.length∧s.a≤s'.a:=by
 intro p
 induction p with
 |ret x=>intro s x s' h e;simp only[DP.run,Except.ok.injEq,Prod.mk.injEq]at e;obtain⟨_,rfl⟩:=e;exact⟨h,Nat.le_refl _,Nat.le_refl _⟩
 |fail e=>intro s x s' h e;cases e
 |get n k ih=>
  intro s x s' h e;simp only[DP.run]at e;split at e
  ·have:=ih _ _ (by exact h) e;exact⟨this.1,this.2.1,Nat.le_trans (Nat.le_add_right _ _) this.2.2⟩
  ·cases e
 |align k ih=>
  intro s x s' h e;simp only[DP.run]at e
  have:=ih _ (by exact h) e
  exact⟨this.1,this.2.1,Nat.le_trans (by show s.a≤(s.a+7)/8*8;omega) this.2.2⟩
 |uq c k ih=>
  intro s x s' h e;simp only[DP.run]at e;split at e
  ·cases e
  ·rename_i hl
   have:=ih _ (by show(s.out++[c]).length≤lim;rw[List.length_append,List.length_singleton];omega) e
   have h2:(s.out++[c]).length≤s'.out.length:=this.2.1
   rw[List.length_append]at h2
   exact⟨this.1,by omega,this.2.2⟩
 |back d k ih=>intro s x s' h e;simp only[DP.run]at e;split at e;cases e;exact ih _ _ h e
 |AW d k ih=>intro s x s' h e;simp only[DP.run]at e;split at e;cases e;exact ih _ h e
 |room n k ih=>intro s x s' h e;simp only[DP.run]at e;split at e;cases e;exact ih _ h e
end Go.Proofs.Ytibadaomjlkoaaa
open Go.RowKit
namespace Go.Proofs.Ytibadaomjlkoaaa
set_option maxRecDepth 10000
def bB (e:Int):AV:=.jZ 64 (.agg [.int .i64 e])
section
variable{K Kp:AV→AH→Prop}
theorem I1 {e:Int}(h0:e=0→K (.aE []) [])(h1:e≠0→Kp (bB e) []):aa Try.prog 60 [.int .i64 e] [] K Kp:=by
 refine Sy (fun _=>[]) [] rfl ?_
 refine Qs ?_
 refine And.intro (fun h=>?_) (fun h=>?_)
 ·have h':e≠0:=by simpa using h
  refine Qs ?_
  exact h1 h'
 ·have h':e=0:=by simpa using h
  refine Qs ?_
  exact h0 h'
theorem cm {M:AH}{e:Int}(h0:e=0→K (.aE []) M)(h1:e≠0→Kp (bB e) M):aa Try.prog 60 [.int .i64 e] M K Kp:=by
 refine aa.lift [] (I1 (e:=e) (K:=fun r M=>r=.aE []∧M=[]∧e=0) (Kp:=fun r M=>r=bB e∧M=[]∧e≠0) (fun h=>⟨rfl,rfl,h⟩) (fun h=>⟨rfl,rfl,h⟩)) rfl rfl trivial trivial ?_ ?_
 ·rintro r M' ⟨rfl,rfl,h⟩
  have:=h0 h
  rw[←List.append_nil M]at this
  exact⟨rfl,this⟩
 ·rintro r M' ⟨rfl,rfl,h⟩
  have:=h1 h
  rw[←List.append_nil M]at this
  exact⟨rfl,this⟩
def zH (lim:Nat)(gb cb:Nat)(xs:List Int)(g c:Nat)(s:DS):AH:=[.one true 0 (.cells [.ptr 1 0 0,.sl 3 g 0 s.out.length c,.int .i64 (lim:Int)]),ro 2 gb cb xs s.a,rb gb cb xs,.one true g (.ints .u8 s.out c)]
variable{xs:List Int}{lim gb cb g c:Nat}{s:DS}
structure cZ (xs:List Int)(lim c:Nat)(s:DS):Prop where
 xl:xs.length≤1000000
 xb:∀x∈xs,0≤x∧x<256
 al:s.a≤8*xs.length
 ll:lim≤1000000
 ol:s.out.length≤lim
 oc:s.out.length≤c
theorem tB {n:Nat}(ok:cZ xs lim c s)(hn:n≤16)(h0:s.a+n≤(unpack xs).length→K (.int .i64 (num (((unpack xs).drop s.a).take n))) (zH lim gb cb xs g c {s with a:=s.a+n}))
 (h1:¬s.a+n≤(unpack xs).length→Kp (bB 50) (zH lim gb cb xs g c s)):
 aa Try.prog 35 [.ptr 0 0 0,.int .i64 (n:Int)] (zH lim gb cb xs g c s) K Kp:=by
 have uh:=aL xs
 have iA:=ok.xl
 have Mf:=ok.al
 refine SN (fun _=>[]) [] rfl ?_
 refine Qs ?_
 by_cases hle:s.a+n≤(unpack xs).length
 ·have hp:nd xs s.a n=(num (((unpack xs).drop s.a).take n),s.a+n,0):=by
   unfold nd;rw[if_neg (by omega),if_neg (by omega)];rfl
  have Ma:=num_nonneg (((unpack xs).drop s.a).take n)
  have rJ:=fU (((unpack xs).drop s.a).take n)
  have gm:num (((unpack xs).drop s.a).take n)<65536:=by
   have h1:(2:Int)^(((unpack xs).drop s.a).take n).length≤2^16:=by exact_mod_cast Nat.pow_le_pow_right (by omega) (show(((unpack xs).drop s.a).take n).length≤16 by rw[List.length_take];omega)
   have h2:(2:Int)^16=65536:=by decide
   omega
  have hK:=h0 hle
  refine get_at (i:=1) (j:=2) (xs:=xs) (a:=s.a) rfl rfl rfl (by omega) ok.al ok.xb hp ?_
  refine Qs ?_
  refine cm (fun _=>?_) (fun h=>absurd rfl h)
  refine Qs ?_
  exact hK
 ·have hp:nd xs s.a n=(0,s.a,50):=by
   unfold nd;rw[if_neg (by omega),if_pos (by omega)]
  refine get_at (i:=1) (j:=2) (xs:=xs) (a:=s.a) rfl rfl rfl (by omega) ok.al ok.xb hp ?_
  refine Qs ?_
  refine cm (fun h=>absurd h (by decide)) (fun _=>?_)
  exact h1 hle
theorem JG {v:Int}(ok:cZ xs lim c s)(hv:0≤v∧v<256)(h0:∀g' c',¬lim≤s.out.length→cZ xs lim c' {s with out:=s.out++[v]}→K (.aE []) (zH lim gb cb xs g' c' {s with out:=s.out++[v]}))
 (h1:lim≤s.out.length→Kp (bB 81) (zH lim gb cb xs g c s)):
 aa Try.prog 61 [.ptr 0 0 0,.int .u8 v] (zH lim gb cb xs g c s) K Kp:=by
 have iA:=ok.ll
 have Mf:=ok.ol
 have h3':=ok.oc
 refine aa.bI ?_
 refine Sx (fun _=>[0]) [] rfl ?_
 refine Qs ?_
 refine And.intro (fun h=>?_) (fun h=>?_)
 ·have hl:lim≤s.out.length:=by simp only[decide_eq_true_eq]at h;omega
  refine Qs ?_
  refine cm (fun h=>absurd h (by decide)) (fun _=>?_)
  exact h1 hl
 ·have hl:¬lim≤s.out.length:=by simp only[decide_eq_false_iff_not]at h;omega
  refine Qs ?_
  intro zs dk
  obtain rfl:zs=[v]:=by rw[dk];rfl
  refine Qs ?_
  intro c4 jM
  have qq:s.out.length+1≤c4:=jM
  refine Qs ?_
  refine Exists.intro (zH lim gb cb xs (g+1) c4 {s with out:=s.out++[v]}) (And.intro (And.intro ?_ (And.intro rfl (And.intro rfl (And.intro rfl trivial)))) (And.intro ⟨rfl,rfl,trivial,trivial,trivial⟩ (And.intro rfl ?_)))
  ·show AO.one true 0 (.cells [.ptr 1 0 0,.sl 3 (g+1) 0 (s.out++[v]).length c4,.int .i64 (lim:Int)])=AO.one true 0 (.cells [.ptr 1 0 0,.sl 3 (g+1) 0 (s.out.length+1) c4,.int .i64 (lim:Int)])
   rw[List.length_append];rfl
  ·exact h0 (g+1) c4 hl ⟨ok.xl,ok.xb,ok.al,ok.ll,by show(s.out++[v]).length≤lim;rw[List.length_append,List.length_singleton];omega,by show(s.out++[v]).length≤c4;rw[List.length_append];exact qq⟩
end
end Go.Proofs.Ytibadaomjlkoaaa
open Go.RowKit
namespace Go.Proofs.Ytibadaomjlkoaaa
set_option maxRecDepth 10000
theorem aa.k8 {P:Program}{g:Nat}{args:List AV}{M:AH}{K Kp:AV→AH→Prop}(h:aa P g args M (fun r M'=>∃N,j5 M' N∧kq N.length N∧(r.nb N.length&&Nat.ble M.length N.length)=true∧K r N) (fun r M'=>∃N,j5 M' N∧kq N.length N∧(r.nb N.length&&Nat.ble M.length N.length)=true∧Kp r N)):aa P g args M K Kp:=by
 refine aa.bI ?_
 unfold aa at*
 refine⟨h.1,fun ρ w hs aF=>Calls.mono (h.2 ρ w hs aF) fun e w' he=>?_⟩
 obtain⟨ρ',M',h1,h2,h3⟩:=he
 cases e with
 |returned v=>exact⟨ρ',M',h1,h2,h3⟩
 |panicked ch=>
  obtain⟨r,e1,e2,N,e3,e4,e5,e6⟩:=h3
  simp only[Bool.and_eq_true]at e5
  obtain⟨k1,k2⟩:=q8 hs.pr h1 h2 e3 e4 (by simpa using e5.2)
  exact⟨_,N,k1,k2,r,by rw[AV.Ec e5.1 e2];exact e1,AV.pN r e5.1 e2,e6⟩
 |outgrown=>exact h3.elim
def Ah (es:List ((Int×Int)×Int)):Nat→Nat→Nat→DP Int
 |0,_,_=>.fail 60
 |f+1,c,n=>match cf ((c:Int),(n:Int)) es with
  |none=>.fail 60
  |some z=>if 0≤z then .ret z else .get 1 fun b=>Ah es f (2*c+b.toNat) (n+1)
def pZ (es:List ((Int×Int)×Int)):DP Int:=Ah es 17 0 0
theorem Pv {row:List Bool}{a:Nat}(h:a<row.length):num ((row.drop a).take 1)=if row.getD a false=true then 1 else 0:=by
 rw[List.take_one,List.head?_drop,List.getElem?_eq_getElem h,List.getD_eq_getElem?_getD,List.getElem?_eq_getElem h]
 cases row[a]<;>rfl
theorem B9 {es:List ((Int×Int)×Int)}{row:List Bool}{lim:Nat}(m9:gq es):∀(f c n:Nat)(s:DS),16<f+n→(Ah es f c n).run row lim s=match nD es row (row.length-s.a+1) c n s.a with|(v,a',e)=>if e=0 then .ok (v,{s with a:=a'})else .error e
 |0,c,n,s,h=>by
  have:cf ((c:Int),(n:Int)) es=none:=by
   cases hz:cf ((c:Int),(n:Int)) es with
   |none=>rfl
   |some z=>have:=m9 _ _ hz;simp only at this;omega
  simp only[Ah,nD,this,DP.run]
  rfl
 |f+1,c,n,s,h=>by
  obtain⟨o,ho⟩:∃o,cf ((c:Int),(n:Int)) es=o:=⟨_,rfl⟩
  simp only[Ah,nD,ho]
  cases o with
  |none=>simp only[DP.run];rfl
  |some z=>
   simp only
   split
   ·simp[DP.run]
   ·simp only[DP.run]
    by_cases hl:row.length≤s.a
    ·rw[if_neg (by omega),if_pos hl]
     rfl
    ·rw[if_pos (by omega),if_neg hl,B9 m9 f _ (n+1) _ (by omega),Pv (by omega)]
     simp only
     rw[show(if row.getD s.a false=true then(1:Int)else 0).toNat=if row.getD s.a false=true then 1 else 0 by split<;>rfl,
      show row.length-(s.a+1)+1=row.length-s.a by omega]
theorem u0 {es:List ((Int×Int)×Int)}{row:List Bool}{lim:Nat}(m9:gq es)(s:DS):(pZ es).run row lim s=match fe es row s.a with|(v,a',e)=>if e=0 then .ok (v,{s with a:=a'})else .error e:=B9 m9 17 0 0 s (by omega)
theorem B4 (es:List ((Int×Int)×Int))(row:List Bool):∀(f c n a:Nat),a≤row.length→(nD es row f c n a).2.1≤row.length
 |0,_,_,a,h=>h
 |f+1,c,n,a,h=>by
  simp only[nD]
  split
  ·exact h
  ·split
   ·exact h
   ·split
    ·exact h
    ·exact B4 es row f _ _ _ (by omega)
theorem H6 {es:List ((Int×Int)×Int)}{row:List Bool}{a:Nat}(h:a≤row.length):(fe es row a).2.1≤row.length:=B4 es row _ _ _ a h
def mY (s each:Nat):DP Int:=if s<2*each then .ret s else .get (s/each-1) fun v=>.ret (((each+s%each)*2^(s/each-1):Nat)+v)
def gH (ls:List Int):DP (List ((Int×Int)×Int)):=if aB ls=0 then .ret (bx (aj ls) [])else .fail (aB ls)
def bX (es:List ((Int×Int)×Int)):AO:=.one true 0 (.map (.pair .i64 .i64) (mm es))
def bU (i:Nat):AO:=.one true 0 (.cells [.mp i 0])
section
variable{K Kp:AV→AH→Prop}
theorem uY {ls:List Int}{c c0:Nat}(hl:ls.length≤2000)(hu:∀x∈ls,0≤x∧x<256)
 (h0:aB ls=0→K (.ptr 2 0 0) [.one false 0 (.ints .u8 ls c),bX (bx (aj ls) []),bU 1])
 (h1:aB ls≠0→Kp (bB (aB ls)) [.one false 0 (.ints .u8 ls c)]):
 aa Try.prog 63 [.sl 0 0 0 ls.length c0] [.one false 0 (.ints .u8 ls c)] K Kp:=by
 refine Sv (fun _=>[]) [] rfl ?_
 refine Qs ?_
 refine P0 (i:=0) (ls:=ls) rfl rfl hl hu (fun he=>?_) (fun he=>?_)
 ·refine Qs ?_
  refine cm (fun h=>absurd h he) (fun _=>?_)
  exact h1 he
 ·have hK:=h0 he
  unfold aj bX at hK
  rw[if_pos he]at hK
  refine Qs ?_
  refine cm (fun h=>?_) (fun h=>absurd rfl h)
  refine Qs ?_
  exact hK
theorem uZ {M:AH}{i g n c0 co:Nat}{o:Bool}{ls:List Int}(hi:M[i]?=some (.one o g (.ints .u8 ls co)))(hn:n=ls.length)(hl:ls.length≤2000)(hu:∀x∈ls,0≤x∧x<256)
 (h0:aB ls=0→K (.ptr (M.length+1) 0 0) (M++[bX (bx (aj ls) []),bU M.length]))
 (h1:aB ls≠0→Kp (bB (aB ls)) M):aa Try.prog 63 [.sl i g 0 n c0] M K Kp:=by
 subst hn
 refine aa.lift [.cP i g 0] (uY (ls:=ls) (c0:=c0) (c:=co) (K:=fun r M=>aB ls=0∧r=.ptr 2 0 0∧M=[.one false 0 (.ints .u8 ls co),bX (bx (aj ls) []),bU 1]) (Kp:=fun v M=>aB ls≠0∧v=bB (aB ls)∧M=[.one false 0 (.ints .u8 ls co)]) hl hu (fun h=>⟨h,rfl,rfl⟩) (fun h=>⟨h,rfl,rfl⟩)) rfl rfl ⟨⟨_,_,_,rfl,ao hi,cq.same rfl (fun h=>h)⟩,trivial⟩ ⟨trivial,trivial⟩ ?_ ?_
 ·rintro r M' ⟨e,rfl,rfl⟩
  refine⟨⟨rfl,rfl⟩,?_⟩
  have:=h0 e
  unfold bX at this
  rw[←kr [.cP i g 0] M.length (.pair .i64 .i64) (bx (aj ls) [])]at this
  exact this
 ·rintro r M' ⟨e,rfl,rfl⟩
  refine⟨⟨rfl,rfl⟩,?_⟩
  have:=h1 e
  rw[←List.append_nil M]at this
  exact this
variable{xs:List Int}{lim gb cb g c:Nat}{s:DS}
theorem BA {es:List ((Int×Int)×Int)}(ok:cZ xs lim c s)(m9:gq es)(h0:∀v s',(pZ es).run (unpack xs) lim s=.ok (v,s')→cZ xs lim c s'→K (.int .i64 v) (zH lim gb cb xs g c s'++[bX es,bU 4]))
 (h1:∀e s',(pZ es).run (unpack xs) lim s=.error e→Kp (bB e) (zH lim gb cb xs g c s'++[bX es,bU 4])):
 aa Try.prog 86 [.ptr 0 0 0,.ptr 5 0 0] (zH lim gb cb xs g c s++[bX es,bU 4]) K Kp:=by
 have uh:=aL xs
 have iA:=ok.xl
 have Mf:=ok.al
 have aN:=u0 (row:=unpack xs) (lim:=lim) m9 s
 refine Sf (fun _=>[]) [] rfl ?_
 refine Qs ?_
 refine J8 (ir:=1) (ib:=2) (im:=4) (it:=5) (xs:=xs) (a:=s.a) (es:=es) rfl rfl rfl rfl rfl (by omega) ok.al ok.xb m9 ?_
 have hle:=H6 (es:=es) (row:=unpack xs) (a:=s.a) (by omega)
 generalize fe es (unpack xs) s.a=tr at aN hle
 obtain⟨v,a',e⟩:=tr
 simp only at aN hle
 refine Qs ?_
 refine cm (fun h=>?_) (fun h=>?_)
 ·rw[if_pos h]at aN
  have hK:=h0 v {s with a:=a'} aN ⟨ok.xl,ok.xb,by show a'≤_;omega,ok.ll,ok.ol,ok.oc⟩
  refine Qs ?_
  exact hK
 ·rw[if_neg h]at aN
  exact h1 e {s with a:=a'} aN
theorem Mo {v each:Nat}(ok:cZ xs lim c s)(he:each=2∨each=4)(hv:v<30)(h0:∀z s',(mY v each).run (unpack xs) lim s=.ok (z,s')→cZ xs lim c s'→0≤z∧z<100000→K (.int .i64 z) (zH lim gb cb xs g c s'))
 (h1:∀e s',(mY v each).run (unpack xs) lim s=.error e→Kp (bB e) (zH lim gb cb xs g c s')):
 aa Try.prog 87 [.ptr 0 0 0,.int .i64 (v:Int),.int .i64 (each:Int)] (zH lim gb cb xs g c s) K Kp:=by
 have uh:=aL xs
 have iA:=ok.xl
 have Mf:=ok.al
 have Zu:¬(each:Int)=0:=by omega
 refine Se (fun _=>[]) [] rfl ?_
 refine Qs ?_
 refine And.intro (fun h=>?_) (fun h=>?_)
 ·have hl:v<2*each:=by simp only[decide_eq_true_eq]at h;omega
  have hK:=h0 v s (by unfold mY;rw[if_pos hl];rfl) ok (by omega)
  refine Qs ?_
  exact hK
 ·have hl:¬v<2*each:=by simp only[decide_eq_false_iff_not]at h;omega
  have hq:2≤v/each∧v/each≤14:=by
   rcases he with rfl|rfl<;>omega
  have hm:v%each<4:=by
   rcases he with rfl|rfl<;>omega
  have e1:((v:Int)).tdiv (each:Int)=((v/each:Nat):Int):=(Int.ofNat_tdiv v each).symm
  have e2:((v:Int)).tmod (each:Int)=((v%each:Nat):Int):=(Int.ofNat_tmod v each).symm
  have hF:mY v each=.get (v/each-1) fun z=>.ret (((each+v%each)*2^(v/each-1):Nat)+z):=by unfold mY;rw[if_neg hl]
  rw[hF]at h0 h1
  obtain⟨n,hn⟩:∃n,v/each=n+1:=⟨v/each-1,by omega⟩
  obtain⟨r,hr⟩:∃r,v%each=r:=⟨_,rfl⟩
  have hp:2^n≤2^13:=Nat.pow_le_pow_right (by omega) (by omega)
  have fb:(each+r)*2^n≤8*2^13:=Nat.mul_le_mul (by omega) hp
  rw[hn,hr]at h0 h1
  rw[hn]at e1
  rw[hr]at e2
  simp only[Nat.add_sub_cancel,DP.run]at h0 h1
  refine Qs ?_
  rw[e1]
  refine Qs ?_
  rw[e2]
  have e3:((n+1:Nat):Int)-1=(n:Int):=by omega
  have e4:(each:Int)+(r:Int)=((each+r:Nat):Int):=by push_cast;rfl
  rw[e3,e4,GX (x:=each+r) (k:=n) (by omega) (by omega)]
  have Ma:=num_nonneg (((unpack xs).drop s.a).take n)
  have gm:num (((unpack xs).drop s.a).take n)<8192:=by
   have h1:(2:Int)^(((unpack xs).drop s.a).take n).length≤2^13:=by exact_mod_cast Nat.pow_le_pow_right (by omega) (show(((unpack xs).drop s.a).take n).length≤13 by rw[List.length_take];omega)
   have h2:(2:Int)^13=8192:=by decide
   have:=fU (((unpack xs).drop s.a).take n)
   omega
  refine tB (n:=n) ok (by omega) (fun h=>?_) (fun h=>?_)
  ·simp only[h,if_true]at h0
   have hK:=h0 _ _ rfl ⟨ok.xl,ok.xb,by show s.a+n≤_;omega,ok.ll,ok.ol,ok.oc⟩ (by omega)
   refine Qs ?_
   exact hK
  ·simp only[h,if_false]at h1
   exact h1 50 s rfl
end
end Go.Proofs.Ytibadaomjlkoaaa
open Go.RowKit
namespace Go.Proofs.Ytibadaomjlkoaaa
set_option maxRecDepth 10000
def mM (N:Int)(es:List ((Int×Int)×Int)):Prop:=∀(c n:Nat) z,cf ((c:Int),(n:Int)) es=some z→z<N
theorem r9 {N:Int}(hN:0≤N):∀(ts:List bb)(es:List ((Int×Int)×Int)),(∀t∈ts,(t.1:Int)<N)→mM N es→mM N (bx ts es)
 |[],es,_,h=>h
 |t::ts,es,ht,h=>by
  refine r9 hN ts (Cf es t) (fun x hx=>ht x (List.mem_cons_of_mem _ hx)) fun c n z hz=>?_
  rw[zd]at hz
  split at hz
  ·injection hz with hz;omega
  ·split at hz
   ·injection hz with hz;rw[←hz];exact ht t List.mem_cons_self
   ·exact h c n z hz
theorem kV {ls:List Int}{N:Int}(hN:(ls.length:Int)≤N):mM N (bx (aj ls) []):=
 r9 (by omega) _ [] (fun t ht=>by have:=(lH ht).1;omega) fun c n z hz=>by cases hz
theorem Hf {es:List ((Int×Int)×Int)}{N:Int}(m9:mM N es){row:List Bool}{lim:Nat}:∀(f c n:Nat)(s:DS){v:Int}{s':DS},(Ah es f c n).run row lim s=.ok (v,s')→0≤v∧v<N
 |0,c,n,s,v,s',h=>by cases h
 |f+1,c,n,s,v,s',h=>by
  obtain⟨o,ho⟩:∃o,cf ((c:Int),(n:Int)) es=o:=⟨_,rfl⟩
  simp only[Ah,ho]at h
  cases o with
  |none=>cases h
  |some z=>
   simp only at h
   split at h
   ·rename_i hz
    simp only[DP.run,Except.ok.injEq,Prod.mk.injEq]at h
    rw[←h.1];exact⟨hz,m9 c n z ho⟩
   ·simp only[DP.run]at h
    split at h
    ·exact Hf m9 f _ _ _ h
    ·cases h
theorem qU {es:List ((Int×Int)×Int)}{N:Int}(m9:mM N es){row:List Bool}{lim:Nat}{s s':DS}{v:Int}(h:(pZ es).run row lim s=.ok (v,s')):0≤v∧v<N:=Hf m9 17 0 0 s h
theorem Ca {es:List ((Int×Int)×Int)}{row:List Bool}{lim:Nat}:∀(f c n:Nat)(s:DS){v:Int}{s':DS},(Ah es f c n).run row lim s=.ok (v,s')→s'.out=s.out
 |0,c,n,s,v,s',h=>by cases h
 |f+1,c,n,s,v,s',h=>by
  obtain⟨o,ho⟩:∃o,cf ((c:Int),(n:Int)) es=o:=⟨_,rfl⟩
  simp only[Ah,ho]at h
  cases o with
  |none=>cases h
  |some z=>
   simp only at h
   split at h
   ·simp only[DP.run,Except.ok.injEq,Prod.mk.injEq]at h
    rw[←h.2]
   ·simp only[DP.run]at h
    split at h
    ·have h2:=Ca f _ _ _ h
     exact h2
    ·cases h
theorem nt {es:List ((Int×Int)×Int)}{row:List Bool}{lim:Nat}{s s':DS}{v:Int}(h:(pZ es).run row lim s=.ok (v,s')):s'.out=s.out:=Ca 17 0 0 s h
theorem vG {v each:Nat}{row:List Bool}{lim:Nat}{s s':DS}{z:Int}(h:(mY v each).run row lim s=.ok (z,s')):s'.out=s.out:=by
 unfold mY at h
 split at h
 ·simp only[DP.run,Except.ok.injEq,Prod.mk.injEq]at h;rw[←h.2]
 ·simp only[DP.run]at h
  split at h
  ·simp only[Except.ok.injEq,Prod.mk.injEq]at h;rw[←h.2]
  ·cases h
section
variable{K Kp:AV→AH→Prop}{xs:List Int}{lim gb cb g c:Nat}{s:DS}
theorem fN:kq 4 (zH lim gb cb xs g c s):=⟨by simp[af.nb,AV.qi,AV.nb,AO.nb],rfl,trivial,trivial,trivial⟩
theorem zx (E:AH){f:Nat}{args:List AV}(h:aa Try.prog f args (zH lim gb cb xs g c s) (fun r M=>∃g' c' s',M=zH lim gb cb xs g' c' s'∧r.nb 4=true∧K r (M++E)) (fun r M=>∃g' c' s',M=zH lim gb cb xs g' c' s'∧r.nb 4=true∧Kp r (M++E)))
 (ha:AV.qi 4 args=true):aa Try.prog f args (zH lim gb cb xs g c s++E) K Kp:=by
 refine aa.frame E h ha fN (fun o ho=>?_) ?_ ?_
 ·simp only[zH,List.mem_cons,List.not_mem_nil,or_false]at ho
  rcases ho with rfl|rfl|rfl|rfl<;>rfl
 ·rintro r M' ⟨g',c',s',rfl,h1,h2⟩
  exact⟨rfl,⟨rfl,rfl,rfl,rfl,rfl⟩,fN,h1,h2⟩
 ·rintro r M' ⟨g',c',s',rfl,h1,h2⟩
  exact⟨rfl,⟨rfl,rfl,rfl,rfl,rfl⟩,fN,h1,h2⟩
theorem IU (E:AH){n:Nat}(ok:cZ xs lim c s)(hn:n≤16)(h0:s.a+n≤(unpack xs).length→K (.int .i64 (num (((unpack xs).drop s.a).take n))) (zH lim gb cb xs g c {s with a:=s.a+n}++E))
 (h1:¬s.a+n≤(unpack xs).length→Kp (bB 50) (zH lim gb cb xs g c s++E)):
 aa Try.prog 35 [.ptr 0 0 0,.int .i64 (n:Int)] (zH lim gb cb xs g c s++E) K Kp:=
 zx E (tB ok hn (fun h=>⟨_,_,_,rfl,rfl,h0 h⟩) (fun h=>⟨_,_,_,rfl,rfl,h1 h⟩)) rfl
theorem uL (E:AH){v:Int}(ok:cZ xs lim c s)(hv:0≤v∧v<256)(h0:∀g' c',¬lim≤s.out.length→cZ xs lim c' {s with out:=s.out++[v]}→K (.aE []) (zH lim gb cb xs g' c' {s with out:=s.out++[v]}++E))
 (h1:lim≤s.out.length→Kp (bB 81) (zH lim gb cb xs g c s++E)):
 aa Try.prog 61 [.ptr 0 0 0,.int .u8 v] (zH lim gb cb xs g c s++E) K Kp:=
 zx E (JG ok hv (fun g' c' h k=>⟨_,_,_,rfl,rfl,h0 g' c' h k⟩) (fun h=>⟨_,_,_,rfl,rfl,h1 h⟩)) rfl
theorem EO (E:AH){v each:Nat}(ok:cZ xs lim c s)(he:each=2∨each=4)(hv:v<30)(h0:∀z s',(mY v each).run (unpack xs) lim s=.ok (z,s')→cZ xs lim c s'→0≤z∧z<100000→K (.int .i64 z) (zH lim gb cb xs g c s'++E))
 (h1:∀e s',(mY v each).run (unpack xs) lim s=.error e→Kp (bB e) (zH lim gb cb xs g c s'++E)):
 aa Try.prog 87 [.ptr 0 0 0,.int .i64 (v:Int),.int .i64 (each:Int)] (zH lim gb cb xs g c s++E) K Kp:=
 zx E (Mo ok he hv (fun z s' h1 h2 h3=>⟨_,_,_,rfl,rfl,h0 z s' h1 h2 h3⟩) (fun e s' h=>⟨_,_,_,rfl,rfl,h1 e s' h⟩)) rfl
theorem tu {α:Type}{l:List α}{i:Nat}{x:α}(h:l[i]?=some x):l.set i x=l:=by
 obtain⟨h1,h2⟩:=List.getElem?_eq_some_iff.1 h
 rw[←h2,List.set_getElem_self]
theorem oC (E:AH)(i:Nat){es:List ((Int×Int)×Int)}(Nd:E[i]?=some (bX es))(HA:E[i+1]?=some (bU (i+4)))(ok:cZ xs lim c s)(m9:gq es)
 (lN:(bu [.own 0,.own 1,.own 2,.own 3,.own (i+4),.own (i+5)]&&AV.nq [.own 0,.own 1,.own 2,.own 3,.own (i+4),.own (i+5)] [.ptr 0 0 0,.ptr 5 0 0])=true)
 (h0:∀v s',(pZ es).run (unpack xs) lim s=.ok (v,s')→cZ xs lim c s'→K (.int .i64 v) (zH lim gb cb xs g c s'++E))
 (h1:∀e s',(pZ es).run (unpack xs) lim s=.error e→Kp (bB e) (zH lim gb cb xs g c s'++E)):
 aa Try.prog 86 [.ptr 0 0 0,.ptr (i+5) 0 0] (zH lim gb cb xs g c s++E) K Kp:=by
 have key:∀s',dw [.own 0,.own 1,.own 2,.own 3,.own (i+4),.own (i+5)] (zH lim gb cb xs g c s++E).length [.own 0,.own 1,.own 2,.own 3,.own (i+4),.own (i+5)] (zH lim gb cb xs g c s'++[bX es,bU 4]) (zH lim gb cb xs g c s++E)=zH lim gb cb xs g c s'++E:=by
  intro s'
  show((zH lim gb cb xs g c s'++E).set (i+4) (AO.one true 0 ((af.map (.pair .i64 .i64) (mm es)).rn [.own 0,.own 1,.own 2,.own 3,.own (i+4),.own (i+5)] (zH lim gb cb xs g c s++E).length))).set (i+5) (bU (i+4))++[]=_
  rw[kr,List.append_nil]
  show zH lim gb cb xs g c s'++(E.set i (bX es)).set (i+1) (bU (i+4))=_
  rw[tu Nd,tu HA]
 refine aa.lift [.own 0,.own 1,.own 2,.own 3,.own (i+4),.own (i+5)] (BA (es:=es) (K:=fun r M=>∃v s',r=.int .i64 v∧M=zH lim gb cb xs g c s'++[bX es,bU 4]∧K r (zH lim gb cb xs g c s'++E)) (Kp:=fun r M=>∃e s',r=bB e∧M=zH lim gb cb xs g c s'++[bX es,bU 4]∧Kp r (zH lim gb cb xs g c s'++E)) ok m9
  (fun v s' h k=>⟨v,s',rfl,rfl,h0 v s' h k⟩) (fun e s' h=>⟨e,s',rfl,rfl,h1 e s' h⟩)) rfl lN
  ⟨⟨rfl,rfl⟩,⟨rfl,rfl⟩,⟨rfl,rfl⟩,⟨rfl,rfl⟩,⟨?_,rfl⟩,⟨?_,rfl⟩,trivial⟩ ⟨rfl,rfl,trivial,trivial,yK _ (.pair .i64 .i64) es,rfl,trivial⟩ ?_ ?_
 ·show E[i]?=some (AO.one true 0 ((af.map (.pair .i64 .i64) (mm es)).rn _ _))
  rw[kr];exact Nd
 ·exact HA
 ·rintro r M' ⟨v,s',rfl,rfl,hk⟩
  refine⟨⟨rfl,rfl,rfl,rfl,rfl,rfl,rfl⟩,?_⟩
  rw[key]
  exact hk
 ·rintro r M' ⟨v,s',rfl,rfl,hk⟩
  refine⟨⟨rfl,rfl,rfl,rfl,rfl,rfl,rfl⟩,?_⟩
  rw[key]
  exact hk
end
end Go.Proofs.Ytibadaomjlkoaaa
