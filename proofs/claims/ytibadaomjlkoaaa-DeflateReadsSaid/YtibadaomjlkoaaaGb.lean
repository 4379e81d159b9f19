import Derived.Test.YtibadaomjlkoaaaTb
import Derived.Laws.Strings
import Derived.Test.YtibadaomjlkoaaaG2
import Derived.Test.YtibadaomjlkoaaaAb18
import Derived.Test.YtibadaomjlkoaaaAb20
set_option linter.unusedVariables false
set_option linter.unusedSimpArgs false
open Go.RowKit
namespace Go.Proofs.Ytibadaomjlkoaaa
theorem cU (M:AH):j5 M []:=by cases M<;>trivial
theorem Pr {c l off sz:Nat}(h:c≠l):bT c l off sz=off+l*sz:=by unfold bT;rw[if_neg h]
theorem D7 {c l off:Nat}(h:c≠l):bT c l off 1=off+l:=by unfold bT;rw[if_neg h,Nat.mul_one]
theorem aa.Y2 {P:Program}{g:Nat}{args:List AV}{v:AV}{M:AH}{K Kp:AV→AH→Prop}(h:aa P g args [] (fun r M=>r=v∧M=[]) (fun _ _=>False))(ha:∀m,AV.mX [] m args=args)(hw:AV.nq [] args=true)(hv:∀m,v.rn [] m=v)(hK:K v M):aa P g args M K Kp:=by
 refine aa.lift [] h (ha _) (by simp[bu,hw]) trivial trivial ?_ (fun _ _ h=>h.elim)
 rintro r M' ⟨rfl,rfl⟩
 rw[hv]
 rw[←List.append_nil M]at hK
 exact⟨rfl,hK⟩
theorem xT (xs:List Int):(og xs).toList=xs.map (fun n=>UInt8.ofNat n.toNat):=by
 have key:∀(l:List Int)(r:ByteArray),(l.foldl (fun r n=>r.push (UInt8.ofNat n.toNat)) r).data.toList=r.data.toList++l.map (fun n=>UInt8.ofNat n.toNat):=by
  intro l
  induction l with
  |nil=>intro r;simp
  |cons x l ih=>intro r;rw[List.foldl_cons,ih];simp
 rw[ByteArray.toList_eq]
 have:=key xs ByteArray.empty
 simpa[og]using this
theorem Ih {xs:List Int}(l:List UInt8)(h:xs.map (fun n=>UInt8.ofNat n.toNat)=l):((og xs).toList==(ByteArray.mk l.toArray).toList)=true:=by
 rw[xT,ByteArray.toList_mk,h];simp
end Go.Proofs.Ytibadaomjlkoaaa
open Go.RowKit
namespace Go.Proofs.Ytibadaomjlkoaaa
def num:List Bool→Int
 |[]=>0
 |b::l=>(if b then 1 else 0)+2*num l
def bitsOf:Int→Nat→List Bool
 |_,0=>[]
 |v,n+1=>decide (v%2=1)::bitsOf (v/2) n
def eH:Nat→List Bool→List Int
 |0,_=>[]
 |k+1,l=>num (l.take 8)::eH k (l.drop 8)
def aU (row:List Bool):List Int:=eH (row.length/8) row
def rest (row:List Bool):List Bool:=row.drop (8*(row.length/8))
theorem num_nonneg:∀l:List Bool,0≤num l
 |[]=>Int.le_refl 0
 |b::l=>by have:=num_nonneg l;simp only[num];split<;>omega
theorem fU:∀l:List Bool,num l<2^l.length
 |[]=>by simp[num]
 |b::l=>by
  have:=fU l
  simp only[num,List.length_cons,Int.pow_succ]
  split<;>omega
theorem jC:∀l l':List Bool,num (l++l')=num l+2^l.length*num l'
 |[],l'=>by simp[num]
 |b::l,l'=>by
  simp only[List.cons_append,num,jC l l',List.length_cons,Int.pow_succ,Int.mul_add]
  have:2^l.length*2*num l'=2*(2^l.length*num l'):=by rw[Int.mul_comm (2^l.length) 2,Int.mul_assoc]
  omega
theorem ak:∀(n:Nat)(v:Int),(bitsOf v n).length=n
 |0,v=>rfl
 |n+1,v=>by simp[bitsOf,ak n]
theorem mj:∀(n:Nat)(v:Int),0≤v→v<2^n→num (bitsOf v n)=v
 |0,v,h1,h2=>by simp[bitsOf,num]at*;omega
 |n+1,v,h1,h2=>by
  rw[Int.pow_succ]at h2
  simp only[bitsOf,num,decide_eq_true_eq]
  rw[mj n (v/2) (by omega) (by omega)]
  split<;>omega
theorem rr:∀(k:Nat)(l:List Bool),(eH k l).length=k
 |0,l=>rfl
 |k+1,l=>by simp[eH,rr k]
theorem mh (row:List Bool):(aU row).length=row.length/8:=rr _ _
theorem ko (row:List Bool):(rest row).length=row.length%8:=by simp[rest];omega
theorem vD:∀(k:Nat)(l:List Bool),∀x∈eH k l,0≤x∧x<256
 |0,l,x,h=>by cases h
 |k+1,l,x,h=>by
  simp only[eH,List.mem_cons]at h
  rcases h with rfl|h
  ·refine⟨num_nonneg _,Int.lt_of_lt_of_le (fU _) ?_⟩
   have:(l.take 8).length≤8:=by simp;omega
   calc(2:Int)^(l.take 8).length≤2^8:=by exact_mod_cast Nat.pow_le_pow_right (by omega) this
    _=256:=by decide
  ·exact vD k _ x h
theorem mi:∀(k j:Nat)(l:List Bool),eH (k+j) l=eH k l++eH j (l.drop (8*k))
 |0,j,l=>by simp[eH]
 |k+1,j,l=>by
  rw[show k+1+j=(k+j)+1 from by omega]
  simp only[eH,mi k j,List.drop_drop,List.cons_append]
  rw[show 8+8*k=8*(k+1)from by omega]
theorem vC:∀(k:Nat)(l l':List Bool),8*k≤l.length→eH k (l++l')=eH k l
 |0,l,l',_=>rfl
 |k+1,l,l',h=>by
  simp only[eH]
  rw[List.take_append_of_le_length (by omega),List.drop_append_of_le_length (by omega),vC k _ _ (by simp;omega)]
def Cv (xs:List Int)(a n:Int):Nat→List Int×Int×Int
 |0=>(xs,a,n)
 |k+1=>Cv (xs++[a%256]) (bS .u32 a 8) (n-8) k
theorem Is (l:List Bool)(h:8≤l.length):bS .u32 (num l) 8=num (l.drop 8)∧num l%256=num (l.take 8):=by
 have h1:=jC (l.take 8) (l.drop 8)
 rw[List.take_append_drop]at h1
 have h2:(l.take 8).length=8:=by simp;omega
 have h3:=fU (l.take 8)
 have h4:=num_nonneg (l.take 8)
 rw[h2]at h1 h3
 have e:(2:Int)^8=256:=by decide
 rw[e]at h1 h3
 have h5:bS .u32 (num l) 8=num l/256:=by
  simp only[bS,IntKind.bits]
  rw[Int.fdiv_eq_ediv_of_nonneg _ (by decide)];rfl
 constructor
 ·rw[h5];omega
 ·omega
theorem Cu:∀(k:Nat)(xs:List Int)(l:List Bool),k=l.length/8→Cv xs (num l) l.length k=(xs++eH k l,num (l.drop (8*k)),((l.length%8:Nat):Int))
 |0,xs,l,h=>by
  simp only[Cv,eH,List.append_nil,Nat.mul_zero,List.drop_zero,Prod.mk.injEq,true_and];omega
 |k+1,xs,l,h=>by
  obtain⟨h1,h2⟩:=Is l (by omega)
  have h3:=Cu k (xs++[num (l.take 8)]) (l.drop 8) (by simp;omega)
  simp only[Cv,h1,h2]
  have:((l.length:Nat):Int)-8=((l.drop 8).length:Nat):=by simp;omega
  rw[this,h3]
  simp only[eH,List.append_assoc,List.singleton_append,List.drop_drop,Prod.mk.injEq,true_and]
  refine⟨by congr 2;omega,by simp;omega⟩
theorem Ta {a b:Nat}(ha:a<2^32)(hb:b<2^32):cG .or .u32 (a:Int) (b:Int)=((a|||b:Nat):Int):=by
 have h1:(BitVec.ofInt 32 (a:Int)|||BitVec.ofInt 32 (b:Int)).toNat=a|||b:=by
  rw[BitVec.toNat_or,BitVec.ofInt_natCast,BitVec.ofInt_natCast,BitVec.toNat_ofNat,BitVec.toNat_ofNat,Nat.mod_eq_of_lt ha,Nat.mod_eq_of_lt hb]
 have h2:(a|||b)<2^32:=Nat.or_lt_two_pow ha hb
 have h3:IntKind.u32.wrap ((a|||b:Nat):Int)=((a|||b:Nat):Int):=by
  generalize(a|||b)=z at*
  simp[IntKind.wrap,IntKind.bits,IntKind.signed];omega
 show IntKind.u32.wrap ((BitVec.ofInt 32 (a:Int)|||BitVec.ofInt 32 (b:Int)).toNat:Int)=_
 rw[h1,h3]
theorem KZ {a v:Int}{n k:Nat}(Qd:0≤a)(ha:a<2^n)(UR:0≤v)(hv:v<2^k)(hnk:n+k≤32):cG .or .u32 a (bg .u32 v n)=a+2^n*v:=by
 obtain⟨a,rfl⟩:=Int.eq_ofNat_of_zero_le Qd
 obtain⟨v,rfl⟩:=Int.eq_ofNat_of_zero_le UR
 have sW:a<2^n:=by exact_mod_cast ha
 have rS:v<2^k:=by exact_mod_cast hv
 have bh:v*2^n<2^32:=by
  calc v*2^n<2^k*2^n:=Nat.mul_lt_mul_of_pos_right rS (Nat.pow_pos (by omega))
   _=2^(k+n):=(Nat.pow_add 2 k n).symm
   _≤2^32:=Nat.pow_le_pow_right (by omega) (by omega)
 have aaA:a<2^32:=Nat.lt_of_lt_of_le sW (Nat.pow_le_pow_right (by omega) (by omega))
 have e1:bg .u32 (v:Int) n=((v*2^n:Nat):Int):=by
  simp only[bg,IntKind.bits,Int.toNat_natCast,Nat.min_eq_left (show n≤32 by omega)]
  have:(v:Int)*2^n=((v*2^n:Nat):Int):=by push_cast;rfl
  rw[this]
  simp[IntKind.wrap,IntKind.bits,IntKind.signed]
  omega
 rw[e1]
 have UY:a|||v*2^n=v*2^n+a:=by
  rw[Nat.or_comm,Nat.mul_comm,Nat.two_pow_add_eq_or_of_lt sW]
 rw[Ta aaA bh,UY]
 push_cast
 rw[Int.mul_comm,Int.add_comm]
theorem Lq (row:List Bool)(v:Int)(k:Nat)(hk:k≤24)(h0:0≤v)(hv:v<2^k):
 Cv (aU row) (cG .or .u32 (num (rest row)) (bg .u32 v ((row.length%8:Nat):Int))) (((row.length%8:Nat):Int)+k) ((row.length%8+k)/8)=
  (aU (row++bitsOf v k),num (rest (row++bitsOf v k)),(((row++bitsOf v k).length%8:Nat):Int)):=by
 have hr:=ko row
 have hn:=fU (rest row)
 rw[hr]at hn
 rw[KZ (num_nonneg _) hn h0 hv (by omega)]
 have e1:num (rest row)+2^(row.length%8)*v=num (rest row++bitsOf v k):=by
  rw[jC,hr,mj k v h0 hv]
 have hl:(rest row++bitsOf v k).length=row.length%8+k:=by simp[hr,ak]
 have e2:((row.length%8:Nat):Int)+k=((rest row++bitsOf v k).length:Nat):=by rw[hl];push_cast;rfl
 rw[e1,e2,Cu _ _ _ (by rw[hl])]
 have fJ:row.length=8*(row.length/8)+row.length%8:=by omega
 have hL:(row++bitsOf v k).length/8=row.length/8+(row.length%8+k)/8:=by simp[ak];omega
 have hd:(row++bitsOf v k).drop (8*(row.length/8))=rest row++bitsOf v k:=by
  rw[List.drop_append_of_le_length (by omega)];rfl
 simp only[Prod.mk.injEq]
 refine⟨?_,?_,?_⟩
 ·unfold aU
  rw[hL,mi,hd,vC (row.length/8) row _ (by omega)]
 ·unfold rest
  rw[hL,Nat.mul_add,←List.drop_drop,hd];rfl
 ·rw[hl];simp[ak]
end Go.Proofs.Ytibadaomjlkoaaa
open Go.RowKit
namespace Go.Proofs.Ytibadaomjlkoaaa
set_option maxRecDepth 10000
theorem Cp {M:AH}{K Kp:AV→AH→Prop}{v n:Int}(h:∀b:Bool,(b=true↔(0≤n∧n≤24∧bS .u32 v n=0))→K (.bo b) M):aa Try.prog 67 [.int .u32 v,.int .i64 n] M K Kp:=by
 refine RM (fun _=>[]) [] rfl ?_
 refine And.intro (fun h1=>And.intro (fun h2=>And.intro ?_ ?_) (fun h2=>?_)) (fun h1=>?_)
 all_goals simp only[decide_eq_true_eq,decide_eq_false_iff_not]at h1
 ·exact h1
 all_goals refine h _ ?_
 ·simp only[decide_eq_true_eq]at*
  simp only[*,true_and]
 ·simp only[decide_eq_true_eq,decide_eq_false_iff_not]at*
  simp only[*,false_and,and_false];simp
 ·simp only[h1,false_and];simp
def wr (g:Nat)(c:Nat)(xs:List Int)(a n:Int):AH:=[.one true 0 (.cells [.sl 1 g 0 xs.length c,.int .u32 a,.int .i64 n]),.one true g (.ints .u8 xs c)]
def Ao (v n:Int):Bool:=decide (0≤n∧n≤24∧v<2^n.toNat)
def j6 (row:List Bool)(v n:Int):List Bool×Int:=
 if Ao v n=false then(row,1)else if row.length+n>8388608 then(row,2)else(row++bitsOf v n.toNat,0)
theorem Ho {v n:Int}(hv:0≤v):(0≤n∧n≤24∧bS .u32 v n=0)↔Ao v n=true:=by
 simp only[Ao,decide_eq_true_eq]
 constructor
 ·rintro⟨h1,h2,h3⟩
  refine⟨h1,h2,?_⟩
  simp only[bS,IntKind.bits]at h3
  rw[Nat.min_eq_left (by omega),Int.fdiv_eq_ediv_of_nonneg _ (Int.le_of_lt (Int.pow_pos (by decide)))]at h3
  have hp:(0:Int)<2^n.toNat:=Int.pow_pos (by decide)
  exact Int.lt_of_not_ge fun LW=>by
   have:=Int.ediv_le_ediv hp LW
   rw[Int.ediv_self (by omega)]at this
   omega
 ·rintro⟨h1,h2,h3⟩
  refine⟨h1,h2,?_⟩
  simp only[bS,IntKind.bits]
  rw[Nat.min_eq_left (by omega),Int.fdiv_eq_ediv_of_nonneg _ (Int.le_of_lt (Int.pow_pos (by decide)))]
  exact Int.ediv_eq_zero_of_lt hv h3
end Go.Proofs.Ytibadaomjlkoaaa
open Go.RowKit
namespace Go.Proofs.Ytibadaomjlkoaaa
set_option maxRecDepth 10000
theorem wS {xs:List Int}{c0 c:Nat}(hb:xs.length≤70368744177664){Kp}:
 aa Try.prog 49 [.sl 0 0 0 xs.length c0] [.one false 0 (.ints .u8 xs c)]
  (fun r M=>∃g' c',r=.sl 1 g' 0 xs.length c'∧M=[.one false 0 (.ints .u8 xs c),.one true g' (.ints .u8 xs c')]∧xs.length≤c') Kp:=by
 refine aa.eS ?_
 refine RS (fun _=>[]) [] rfl ?_
 refine And.intro rfl ?_
 intro b hb
 refine And.intro (fun h1=>?_) (fun h1=>?_)
 ·obtain⟨rfl,rfl⟩:=hb (by simpa using h1)
  exact⟨_,_,Vw.nil (x:=.ints .u8 [] 0) ⟨rfl,rfl⟩,0,0,rfl,rfl,Nat.le_refl _⟩
 ·repeat(refine And.intro (by first|exact rfl|exact Nat.le_of_ble_eq_true rfl|omega|(dsimp only;omega)|(refine⟨rfl,rfl,rfl,Nat.le_refl _,Nat.le_refl _⟩)) ?_)
  intro ys sP
  have ZY:ys=xs:=by rw[sP];simp
  subst ZY
  repeat(refine And.intro (by first|exact rfl|omega|(dsimp only;omega)) ?_)
  intro c1 pD
  refine⟨_,_,Vw.refl _ _,1,c1,?_,rfl,by omega⟩
  show AV.sl 1 1 0 (0+ys.length) c1=_
  rw[Nat.zero_add]
def bC (row:List Bool):List Int:=if row.length%8=0 then aU row else aU row++[num (rest row)]
def KJ (xs:List Int)(at_:Int)(g c:Nat):AH:=[.one true 0 (.cells [.sl 1 g 0 xs.length c,.int .i64 at_]),.one true g (.ints .u8 xs c)]
theorem La {xs:List Int}{c0 c:Nat}(hb:xs.length≤70368744177664){Kp}:
 aa Try.prog 30 [.sl 0 0 0 xs.length c0] [.one false 0 (.ints .u8 xs c)]
  (fun r M=>∃g' c',r=.ptr 2 0 0∧M=[.one false 0 (.ints .u8 xs c),.one true g' (.ints .u8 xs c'),.one true 0 (.cells [.sl 1 g' 0 xs.length c',.int .i64 0])]∧xs.length≤c') Kp:=by
 refine RV (fun _=>[]) [] rfl ?_
 refine aa.mono (wS (Kp:=fun _ _=>False) hb) ?_ (fun _ _ h=>h.elim)
 rintro r M ⟨g',c',rfl,rfl,nU⟩
 exact⟨g',c',rfl,rfl,nU⟩
theorem I4 {xs:List Int}{a:Int}{g c:Nat}(hb:xs.length≤70368744177664)(ha:0≤a∧a≤8*xs.length){K Kp:AV→AH→Prop}
 (h:K (.int .i64 (8*xs.length-a)) (KJ xs a g c)):aa Try.prog 89 [.ptr 0 0 0] (KJ xs a g c) K Kp:=by
 refine RJ (fun _=>[0]) [] rfl ?_
 repeat(refine And.intro (by first|exact rfl|omega) ?_)
 exact h
theorem Qz {xs:List Int}{a:Int}{g c:Nat}{K Kp:AV→AH→Prop}
 (h:K (.int .i64 a) (KJ xs a g c)):aa Try.prog 36 [.ptr 0 0 0] (KJ xs a g c) K Kp:=by
 refine RU (fun _=>[0]) [] rfl ?_
 repeat(refine And.intro (by first|exact rfl|omega) ?_)
 exact h
end Go.Proofs.Ytibadaomjlkoaaa
open Go.RowKit
namespace Go.Proofs.Ytibadaomjlkoaaa
set_option maxRecDepth 10000
def unpack (xs:List Int):List Bool:=xs.flatMap fun b=>bitsOf b 8
theorem ep (x:Int)(xs:List Int):unpack (x::xs)=bitsOf x 8++unpack xs:=rfl
theorem aL:∀xs:List Int,(unpack xs).length=8*xs.length
 |[]=>rfl
 |x::xs=>by simp only[ep,List.length_append,ak,aL xs,List.length_cons];omega
theorem th:∀(k:Nat)(xs:List Int),(unpack xs).drop (8*k)=unpack (xs.drop k)
 |0,xs=>rfl
 |k+1,[]=>by simp[unpack]
 |k+1,x::xs=>by
  rw[ep,show 8*(k+1)=(bitsOf x 8).length+8*k from by rw[ak];omega,List.drop_append,show(bitsOf x 8).length+8*k-(bitsOf x 8).length=8*k from by omega,th k xs,List.drop_eq_nil_of_le (by omega)];simp
theorem Ch (l:List Bool)(k:Nat)(h:k≤l.length):num (l.drop k)=num l/2^k∧num (l.take k)=num l%2^k:=by
 have h1:=jC (l.take k) (l.drop k)
 rw[List.take_append_drop]at h1
 have h2:(l.take k).length=k:=by simp;omega
 have h3:=fU (l.take k)
 have h4:=num_nonneg (l.take k)
 rw[h2]at h1 h3
 have hp:(0:Int)<2^k:=Int.pow_pos (by decide)
 constructor
 ·rw[h1,Int.add_mul_ediv_left _ _ (by omega),Int.ediv_eq_zero_of_lt h4 h3,Int.zero_add]
 ·rw[h1,Int.add_mul_emod_self_left,Int.emod_eq_of_lt h4 h3]
theorem piece (xs:List Int)(Ay:∀x∈xs,0≤x∧x<256)(a k:Nat)(ha:a/8<xs.length)(hk:k≤8-a%8):
 num (((unpack xs).drop a).take k)=(xs.getD (a/8) 0/2^(a%8))%2^k:=by
 have hx:=Ay _ (List.getElem_mem ha)
 have e1:(unpack xs).drop a=((unpack xs).drop (8*(a/8))).drop (a%8):=by rw[List.drop_drop];congr 1;omega
 rw[e1,th,List.drop_eq_getElem_cons ha,ep,List.drop_append_of_le_length (by rw[ak];omega),List.take_append_of_le_length (by simp[ak];omega)]
 rw[(Ch _ k (by simp[ak];omega)).2,(Ch _ (a%8) (by rw[ak];omega)).1,mj 8 _ hx.1 (by have:=hx.2;omega)]
 rw[show xs.getD (a/8) 0=xs[a/8]from by simp[List.getD_eq_getElem?_getD,ha]]
theorem QA {a b:Nat}(ha:a<2^32)(hb:b<2^32):cG .and .u32 (a:Int) (b:Int)=((a&&&b:Nat):Int):=by
 have h1:(BitVec.ofInt 32 (a:Int)&&&BitVec.ofInt 32 (b:Int)).toNat=a&&&b:=by
  rw[BitVec.toNat_and,BitVec.ofInt_natCast,BitVec.ofInt_natCast,BitVec.toNat_ofNat,BitVec.toNat_ofNat,Nat.mod_eq_of_lt ha,Nat.mod_eq_of_lt hb]
 have h2:(a&&&b)<2^32:=Nat.and_lt_two_pow _ hb
 have h3:IntKind.u32.wrap ((a&&&b:Nat):Int)=((a&&&b:Nat):Int):=by
  generalize(a&&&b)=z at*
  simp[IntKind.wrap,IntKind.bits,IntKind.signed];omega
 show IntKind.u32.wrap ((BitVec.ofInt 32 (a:Int)&&&BitVec.ofInt 32 (b:Int)).toNat:Int)=_
 rw[h1,h3]
theorem wh {z:Nat}(h:z<2^63):IntKind.i64.wrap (z:Int)=(z:Int):=by
 simp[IntKind.wrap,IntKind.bits,IntKind.signed];omega
theorem MM {a:Nat}(ha:a<2^62):cG .and .i64 (a:Int) 7=((a%8:Nat):Int):=by
 have h1:(BitVec.ofInt 64 (a:Int)&&&BitVec.ofInt 64 (7:Int)).toNat=a%8:=by
  rw[BitVec.toNat_and,show BitVec.ofInt 64 (7:Int)=7#64 from rfl,BitVec.ofInt_natCast,BitVec.toNat_ofNat,Nat.mod_eq_of_lt (by omega)]
  exact Nat.and_two_pow_sub_one_eq_mod a 3
 show IntKind.i64.wrap ((BitVec.ofInt 64 (a:Int)&&&BitVec.ofInt 64 (7:Int)).toNat:Int)=_
 rw[h1,wh (by omega)]
theorem Dd {a:Nat}(ha:a<2^62):cG .andNot .i64 (a:Int) 7=((a/8*8:Nat):Int):=by
 have h1:(BitVec.ofInt 64 (a:Int)&&&~~~BitVec.ofInt 64 (7:Int)).toNat=a/8*8:=by
  rw[BitVec.toNat_and,show(~~~BitVec.ofInt 64 (7:Int)).toNat=2^64-(7+1)from rfl,BitVec.ofInt_natCast,BitVec.toNat_ofNat,Nat.mod_eq_of_lt (by omega)]
  apply Nat.eq_of_testBit_eq
  intro i
  rw[Nat.testBit_and,Nat.testBit_two_pow_sub_succ (by decide)]
  rw[show a/8*8=2^3*(a/2^3)from by omega,Nat.testBit_two_pow_mul,Nat.testBit_div_two_pow]
  by_cases h3:3≤i
  ·have h7:Nat.testBit 7 i=false:=Nat.testBit_lt_two_pow (Nat.lt_of_lt_of_le (by decide:7<2^3) (Nat.pow_le_pow_right (by omega) h3))
   rw[h7,show i-3+3=i from by omega]
   by_cases h64:i<64
   ·simp[h3,h64]
   ·have:Nat.testBit a i=false:=Nat.testBit_lt_two_pow (Nat.lt_of_lt_of_le ha (Nat.pow_le_pow_right (by omega) (by omega)))
    simp[this]
  ·have:i=0∨i=1∨i=2:=by omega
   rcases this with rfl|rfl|rfl<;>simp<;>(intros;decide)
 show IntKind.i64.wrap ((BitVec.ofInt 64 (a:Int)&&&~~~BitVec.ofInt 64 (7:Int)).toNat:Int)=_
 rw[h1,wh (by omega)]
theorem Ky (a:Nat):bS .i64 (a:Int) 3=((a/8:Nat):Int):=by
 simp only[bS,IntKind.bits]
 rw[Int.fdiv_eq_ediv_of_nonneg _ (by decide)];rfl
theorem NO {x:Int}{r:Nat}(hr:r≤32):bS .u32 x (r:Int)=x/2^r:=by
 simp only[bS,IntKind.bits,Int.toNat_natCast]
 rw[Nat.min_eq_left hr,Int.fdiv_eq_ediv_of_nonneg _ (Int.le_of_lt (Int.pow_pos (by decide)))]
theorem Kz {k:Nat}(hk:k≤31):bg .u32 1 (k:Int)=((2^k:Nat):Int):=by
 have:(2:Nat)^k<2^32:=Nat.pow_lt_pow_right (by omega) (by omega)
 simp only[bg,IntKind.bits,Int.toNat_natCast,Nat.min_eq_left (show k≤32 by omega),Int.one_mul]
 rw[show(2:Int)^k=((2^k:Nat):Int)from by push_cast;rfl]
 generalize(2:Nat)^k=z at*
 simp[IntKind.wrap,IntKind.bits,IntKind.signed];omega
theorem Lh {x k:Nat}(hx:x<2^32)(hk:k≤31):cG .and .u32 (x:Int) ((((2^k:Nat):Int)-1)%4294967296)=((x%2^k:Nat):Int):=by
 have hp:0<2^k:=Nat.pow_pos (by omega)
 have:(2:Nat)^k<2^32:=Nat.pow_lt_pow_right (by omega) (by omega)
 have e:(((2^k:Nat):Int)-1)%4294967296=((2^k-1:Nat):Int):=by
  generalize(2:Nat)^k=z at*
  omega
 rw[e,QA hx (by omega),Nat.and_two_pow_sub_one_eq_mod]
def nd (xs:List Int)(a:Nat)(n:Int):Int×Nat×Int:=
 if¬(0≤n∧n≤24)then(0,a,1)else if(8*xs.length:Int)-a<n then(0,a,50)else(num (((unpack xs).drop a).take n.toNat),a+n.toNat,0)
theorem B5 {xs:List Int}{a:Nat}{g c:Nat}(hb:xs.length≤70368744177664)(ha:a≤8*xs.length){K Kp:AV→AH→Prop}
 (h:K (.int .i64 0) (KJ xs ((a+7)/8*8:Nat) g c)):aa Try.prog 59 [.ptr 0 0 0] (KJ xs a g c) K Kp:=by
 refine RP (fun _=>[0]) [] rfl ?_
 repeat(refine And.intro (by first|exact rfl|omega) ?_)
 have e:=Dd (a:=a+7) (by omega)
 rw[←e]at h
 exact h
theorem Mg {xs:List Int}{a:Nat}{n:Int}{g c:Nat}(hb:xs.length≤70368744177664)(ha:a≤8*xs.length)(Ay:∀x∈xs,0≤x∧x<256){Kp}:
 aa Try.prog 65 [.ptr 0 0 0,.int .i64 n] (KJ xs a g c)
  (fun r M=>r=.aE [.int .u32 (nd xs a n).1,.int .i64 (nd xs a n).2.2]∧M=KJ xs (nd xs a n).2.1 g c) Kp:=by
 refine St (fun _=>[0,1]) [] rfl ?_
 refine Qs ?_
 refine Cp fun b na=>?_
 rw[Ho (by omega)]at na
 have EB:b=true↔0≤n∧n≤24:=by
  rw[na];simp only[Ao,decide_eq_true_eq]
  exact⟨fun h=>⟨h.1,h.2.1⟩,fun h=>⟨h.1,h.2,Int.pow_pos (by decide)⟩⟩
 clear na
 refine Qs ?_
 refine And.intro (fun h1=>?_) (fun h1=>?_)
 ·have Ma:b=false:=by simpa using h1
  subst Ma
  have e:nd xs a n=(0,a,1):=by simp only[nd];rw[if_pos (fun h=>by simpa using EB.2 h)]
  rw[e]
  refine Qs ?_
  exact rfl
 ·have Ma:b=true:=by simpa using h1
  subst Ma
  have hn:=EB.1 rfl
  refine Qs ?_
  refine I4 hb (by omega) ?_
  refine Qs ?_
  refine And.intro (fun h2=>?_) (fun h2=>?_)
  ·simp only[decide_eq_true_eq]at h2
   have e:nd xs a n=(0,a,50):=by simp only[nd];rw[if_neg (fun h=>h hn),if_pos h2]
   rw[e]
   refine Qs ?_
   exact rfl
  ·simp only[decide_eq_false_iff_not]at h2
   obtain⟨n,rfl⟩:=Int.eq_ofNat_of_zero_le hn.1
   have e:nd xs a n=(num (((unpack xs).drop a).take n),a+n,0):=by simp only[nd];rw[if_neg (fun h=>h hn),if_neg h2];rfl
   rw[e]
   have hu:=aL xs
   refine Qs ?_
   refine WO.go (σ:=Nat) (fun lg=>lg≤n) (fun lg=>n-lg)
    (fun lg=>[(0,.ptr 0 0 0),(1,.int .i64 n),(6,.int .u32 (num (((unpack xs).drop a).take lg))),(7,.int .i64 lg)]) (fun lg=>KJ xs ((a+lg:Nat):Int) g c) 0 ae mixed (by kernel_rfl)
    (Nat.zero_le _) (aI rfl (aI rfl (aI rfl (aI rfl (trivial))))) (aI rfl (aI rfl (trivial))) (fun _=>rfl) (fun _=>rfl) (fun _=>⟨rfl,trivial,trivial⟩) ?_
   intro lg hg d
   have e7:=MM (a:=a+lg) (by omega)
   have e3:=Ky (a+lg)
   refine Qs ?_
   refine And.intro (fun hc=>?_) (fun hc=>?_)
   ·simp only[decide_eq_true_eq]at hc
    obtain⟨kN,U5⟩:∃kN:Nat,kN=min (8-(a+lg)%8) (n-lg):=⟨_,rfl⟩
    have hk:min ((8:Int)-((((a+lg)%8:Nat)):Int)) ((n:Int)-(lg:Int))=(kN:Int):=by omega
    have TZ:(a+lg)/8<xs.length:=by omega
    refine Qs ?_
    rw[e7]
    refine Qs ?_
    rw[hk]
    refine Qs ?_
    rw[e3]
    refine Qs ?_
    refine RO.same (lg+kN) (by omega) (show n-(lg+kN)<n-lg by omega) (And.intro rfl (And.intro rfl (And.intro (congrArg (AV.int .u32) ?_) (And.intro rfl trivial)))) (And.intro ?_ (And.intro rfl trivial))
    ·show cG .or .u32 _ (bg .u32 (cG .and .u32 (bS .u32 (xs.getD ((a+lg)/8) 0%4294967296) (((a+lg)%8:Nat):Int)) ((bg .u32 1 ((kN:Nat):Int)-1)%4294967296)) (lg:Int))=_
     rw[Kz (by omega)]
     obtain⟨y,hy⟩:∃y:Nat,xs.getD ((a+lg)/8) 0=(y:Int)∧y<256:=by
      have hx:=Ay _ (List.getElem_mem TZ)
      have:xs.getD ((a+lg)/8) 0=xs[(a+lg)/8]:=by simp[List.getD_eq_getElem?_getD,TZ]
      exact⟨xs[(a+lg)/8].toNat,by rw[this];omega,by omega⟩
     have hp:=piece xs Ay (a+lg) kN TZ (by omega)
     have hym:(xs.getD ((a+lg)/8) 0)%4294967296=(y:Int):=by rw[hy.1];omega
     rw[hym,NO (by omega)]
     rw[hy.1]at hp
     have W2:∀r:Nat,(y:Int)/2^r=((y/2^r:Nat):Int):=fun r=>by push_cast;rfl
     rw[W2]at hp⊢
     have hyr:y/2^((a+lg)%8)<2^32:=Nat.lt_of_le_of_lt (Nat.div_le_self _ _) (by omega)
     rw[Lh hyr (by omega)]
     have hl:(((unpack xs).drop a).take lg).length=lg:=by simp;omega
     have h1:=fU (((unpack xs).drop a).take lg)
     rw[hl]at h1
     have h2:((y/2^((a+lg)%8)%2^kN:Nat):Int)<2^kN:=by exact_mod_cast Nat.mod_lt _ (Nat.pow_pos (by omega))
     rw[KZ (num_nonneg _) h1 (by omega) h2 (by omega)]
     have h3:((unpack xs).drop a).take (lg+kN)=((unpack xs).drop a).take lg++((unpack xs).drop (a+lg)).take kN:=by
      rw[List.take_add,List.drop_drop]
     rw[h3,jC,hl,hp]
     push_cast
     rfl
    ·show AO.one true 0 (.cells [.sl 1 g 0 xs.length c,.int .i64 ((a+(lg+kN):Nat):Int)])=AO.one true 0 (.cells [.sl 1 g 0 xs.length c,.int .i64 (((a+lg:Nat):Int)+(kN:Int))])
     rw[show((a+(lg+kN):Nat):Int)=((a+lg:Nat):Int)+(kN:Int) by push_cast;omega]
   ·simp only[decide_eq_false_iff_not]at hc
    obtain rfl:lg=n:=by omega
    refine Qs ?_
    exact rfl
end Go.Proofs.Ytibadaomjlkoaaa
open Go.RowKit
namespace Go.Proofs.Ytibadaomjlkoaaa
set_option maxRecDepth 10000
theorem DW {v n:Int}(hv:0≤v∧v<4294967296)(hn:n≤1000000){Kp}:
 aa Try.prog 50 [.int .u32 v,.int .i64 n] []
  (fun r M=>∃g c,r=.sl 0 g 0 (bitsOf v n.toNat).length c∧M=[.one true g (.ax (bitsOf v n.toNat) c)]∧(bitsOf v n.toNat).length≤c) Kp:=by
 refine aa.bI ?_
 refine RR (fun _=>[]) [] rfl ?_
 refine WA.view (l:=[(0,.int .u32 v),(1,.int .i64 n),(5,.ns),(6,.int .i64 0)]) (l':=[(0,.int .u32 v),(1,.int .i64 n),(5,.sl 0 0 0 0 0),(6,.int .i64 0)]) ?_ rfl (Vw.pz (x:=.ax [] 0) ⟨rfl,rfl⟩ ?_) fun d=>?_
 ·exact And.intro rfl (And.intro rfl (And.intro rfl (And.intro rfl trivial)))
 ·exact And.intro (.inl rfl) (And.intro (.inl rfl) (And.intro (.inr ⟨rfl,rfl⟩) (And.intro (.inl rfl) trivial)))
 refine WA.loop (σ:=Nat×Nat×Nat×Int×List Bool) (fun(i,g,c,v',xs)=>xs.length=i∧xs.length≤c∧(i:Int)≤max n 0∧0≤v'∧v'<4294967296∧bitsOf v n.toNat=xs++bitsOf v' (n.toNat-i)) (fun(i,_,_,_,_)=>n.toNat-i)
  (fun(i,g,c,v',xs)=>[(0,.int .u32 v'),(1,.int .i64 n),(5,.sl 0 g 0 xs.length c),(6,.int .i64 i)]) (fun(i,g,c,v',xs)=>[.one true g (.ax xs c)]) (0,0,0,v,[]) ae mixed (by kernel_rfl)
  ⟨⟨rfl,Nat.le_refl _,by omega,hv.1,hv.2,by simp⟩,And.intro rfl (And.intro rfl (And.intro rfl (And.intro rfl trivial))),And.intro rfl trivial⟩ (fun _=>rfl) (fun _=>rfl) (fun _=>⟨trivial,trivial⟩) ?_
 rintro⟨i,g,c,v',xs⟩ ⟨h1,h2,h3,h4,h5,h6⟩ d
 refine And.intro (fun hc=>?_) (fun hc=>?_)
 ·simp only[decide_eq_true_eq]at hc
  repeat(refine And.intro (by first|exact rfl|exact Nat.le_of_ble_eq_true rfl|omega|exact⟨rfl,rfl,rfl,Nat.le_refl _,h2⟩) ?_)
  intro ys sP
  obtain rfl:ys=[decide (v'.tmod 2=1)]:=sP
  repeat(refine And.intro (by first|exact rfl|omega|(dsimp only;omega)) ?_)
  intro c1 pD
  repeat(refine And.intro (by first|exact rfl|omega) ?_)
  have e1:(v'.tdiv 2)%4294967296=v'/2:=by rw[Int.tdiv_eq_ediv_of_nonneg h4];omega
  have e2:v'.tmod 2=v'%2:=Int.tmod_eq_emod_of_nonneg h4
  refine Exists.intro (i+1,g+1,c1,(v'.tdiv 2)%4294967296,xs++[decide (v'.tmod 2=1)]) (And.intro ⟨⟨?_,?_,?_,?_,?_,?_⟩,?_⟩ (And.intro (And.intro rfl (And.intro rfl (And.intro ?_ (And.intro ?_ trivial)))) (And.intro rfl trivial)))
  ·simp[h1]
  ·simp;omega
  ·omega
  ·omega
  ·omega
  ·rw[h6,show n.toNat-i=(n.toNat-(i+1))+1 from by omega,e1,e2]
   simp[bitsOf]
  ·show n.toNat-(i+1)<n.toNat-i
   omega
  ·show AV.sl 0 (g+1) 0 (xs.length+1) c1=AV.sl 0 (g+1) 0 (xs++[decide (v'.tmod 2=1)]).length c1
   rw[List.length_append];rfl
  ·show AV.int .i64 ((i:Int)+1)=AV.int .i64 ((i+1:Nat):Int)
   push_cast;rfl
 ·simp only[decide_eq_false_iff_not]at hc
  have e:bitsOf v n.toNat=xs:=by rw[h6,show n.toNat-i=0 from by omega];simp[bitsOf]
  rw[e]
  exact Exists.intro [AO.one true g (.ax xs c)] (And.intro (And.intro rfl trivial) (And.intro ⟨trivial,trivial⟩ (And.intro rfl ⟨g,c,rfl,rfl,h2⟩)))
end Go.Proofs.Ytibadaomjlkoaaa
open Go.RowKit
namespace Go.Proofs.Ytibadaomjlkoaaa
set_option maxRecDepth 10000
theorem Ab {xs:List Bool}{c0 c:Nat}(hl:xs.length≤31){K Kp:AV→AH→Prop}(h:K (.int .u32 (num xs)) [.one false 0 (.ax xs c)]):
 aa Try.prog 83 [.sl 0 0 0 xs.length c0] [.one false 0 (.ax xs c)] K Kp:=by
 refine RK (fun _=>[0]) [] rfl ?_
 repeat(refine And.intro (by first|exact rfl|omega) ?_)
 refine WA.loop (σ:=Nat) (fun j=>j≤xs.length) (fun j=>j)
  (fun j=>[(0,.sl 0 0 0 xs.length c0),(3,.int .u32 (num (xs.drop j))),(4,.int .i64 ((j:Int)-1))]) (fun _=>[.one false 0 (.ax xs c)]) xs.length ae mixed (by kernel_rfl)
  ⟨Nat.le_refl _,And.intro rfl (And.intro ?_ (And.intro rfl trivial)),And.intro rfl trivial⟩ (fun _=>rfl) (fun _=>rfl) (fun _=>⟨trivial,trivial⟩) ?_
 ·show AV.int .u32 0=AV.int .u32 (num (xs.drop xs.length))
  simp[num]
 rintro j hj d
 refine And.intro (fun hc=>?_) (fun hc=>?_)
 ·simp only[decide_eq_true_eq]at hc
  obtain⟨j,rfl⟩:∃j',j=j'+1:=⟨j-1,by omega⟩
  repeat(refine And.intro (by first|exact rfl|omega) ?_)
  have pc:j<xs.length:=by omega
  have hd:xs.drop j=xs[j]::xs.drop (j+1):=List.drop_eq_getElem_cons pc
  have hg:xs.getD ((((j+1:Nat):Int)-1).toNat+0) false=xs[j]:=by
   rw[show(((j+1:Nat):Int)-1).toNat+0=j from by omega];simp[List.getD_eq_getElem?_getD,pc]
  have bh:=fU (xs.drop (j+1))
  have h0:=num_nonneg (xs.drop (j+1))
  have h31:(2:Int)^(xs.drop (j+1)).length≤2^30:=by exact_mod_cast Nat.pow_le_pow_right (by omega) (by simp;omega)
  refine And.intro (fun hb=>?_) (fun hb=>?_)
  ·rw[hg]at hb
   repeat(refine And.intro (by first|exact rfl|omega) ?_)
   refine Exists.intro j (And.intro ⟨by omega,show j<j+1 by omega⟩ (And.intro (And.intro rfl (And.intro ?_ (And.intro ?_ trivial))) (And.intro rfl trivial)))
   ·show AV.int .u32 (((2*num (xs.drop (j+1)))%4294967296+1)%4294967296)=AV.int .u32 (num (xs.drop j))
    rw[hd,num,hb];congr 1;simp only[if_true];omega
   ·show AV.int .i64 (((j+1:Nat):Int)-1-1)=AV.int .i64 ((j:Int)-1)
    congr 1;omega
  ·rw[hg]at hb
   repeat(refine And.intro (by first|exact rfl|omega) ?_)
   refine Exists.intro j (And.intro ⟨by omega,show j<j+1 by omega⟩ (And.intro (And.intro rfl (And.intro ?_ (And.intro ?_ trivial))) (And.intro rfl trivial)))
   ·show AV.int .u32 ((2*num (xs.drop (j+1)))%4294967296)=AV.int .u32 (num (xs.drop j))
    rw[hd,num,hb];congr 1;simp only[Bool.false_eq_true,if_false];omega
   ·show AV.int .i64 (((j+1:Nat):Int)-1-1)=AV.int .i64 ((j:Int)-1)
    congr 1;omega
 ·simp only[decide_eq_false_iff_not]at hc
  obtain rfl:j=0:=by omega
  exact h
end Go.Proofs.Ytibadaomjlkoaaa
open Go.RowKit
namespace Go.Proofs.Ytibadaomjlkoaaa
set_option maxRecDepth 10000
def kn (row:List Bool)(a:Nat)(n:Int):Int×Nat×Int:=
 if¬(0≤n∧n≤24)then(0,a,1)else if(row.length:Int)-a<n then(0,a,50)else(num ((row.drop a).take n.toNat),a+n.toNat,0)
theorem IH {row:List Bool}{a:Nat}{n:Int}{c0 c:Nat}(hl:row.length≤1000000000)(ha:a≤row.length)(xk:row.length≤c0∧c0≤c){K Kp:AV→AH→Prop}
 (h:K (.aE [.int .u32 (kn row a n).1,.int .i64 (kn row a n).2.1,.int .i64 (kn row a n).2.2]) [.one false 0 (.ax row c)]):
 aa Try.prog 51 [.sl 0 0 0 row.length c0,.int .i64 a,.int .i64 n] [.one false 0 (.ax row c)] K Kp:=by
 have bad:¬(0≤n∧n≤24)→kn row a n=(0,a,1):=fun h0=>by simp only[kn];rw[if_pos h0]
 refine RQ (fun _=>[0]) [] rfl ?_
 refine And.intro (fun h1=>?_) (fun h1=>And.intro (fun h2=>?_) (fun h2=>?_))
 ·simp only[decide_eq_true_eq]at h1
  rw[bad (by omega)]at h;exact h
 ·simp only[decide_eq_true_eq]at h2
  rw[bad (by omega)]at h;exact h
 ·simp only[decide_eq_false_iff_not]at h1 h2
  repeat(refine And.intro (by first|exact rfl|omega) ?_)
  refine And.intro (fun h3=>?_) (fun h3=>?_)
  ·simp only[decide_eq_true_eq]at h3
   have e:kn row a n=(0,a,50):=by simp only[kn];rw[if_neg (fun hh=>hh (by omega)),if_pos h3]
   rw[e]at h;exact h
  ·simp only[decide_eq_false_iff_not]at h3
   obtain⟨n,rfl⟩:=Int.eq_ofNat_of_zero_le (show 0≤n by omega)
   have e:kn row a n=(num ((row.drop a).take n),a+n,0):=by simp only[kn];rw[if_neg (fun hh=>hh (by omega)),if_neg h3];rfl
   rw[e]at h
   repeat(refine And.intro (by first|exact rfl|omega) ?_)
   have m8:(bT c0 a 0 1=a)∨(n=0∧bT c0 a 0 1=0):=by
    unfold bT;split
    ·right;exact⟨by omega,rfl⟩
    ·left;omega
   have uG:((row.drop a).take n).length=n:=by simp;omega
   refine aa.lift [.cP 0 0 (bT c0 a 0 1)] (Ab (xs:=(row.drop a).take n) (c0:=c0-a) (c:=n) (Kp:=fun _ _=>False) (K:=fun r M=>r=.int .u32 (num ((row.drop a).take n))∧M=[.one false 0 (.ax ((row.drop a).take n) n)]) (by omega) ⟨rfl,rfl⟩)
    ?_ rfl ⟨⟨_,_,_,rfl,ao rfl,cq.ax ?_ ?_⟩,trivial⟩ ⟨trivial,trivial⟩ ?_ (fun _ _ h=>h.elim)
   ·show[AV.sl 0 0 (bT c0 a 0 1) ((row.drop a).take n).length (c0-a)]=[AV.sl 0 0 (bT c0 (a:Int).toNat 0 1) (((a:Int)+(n:Int)).toNat-(a:Int).toNat) (c0-(a:Int).toNat)]
    rw[uG,Int.toNat_natCast,show((a:Int)+(n:Int)).toNat-a=n from by omega]
   ·rcases m8 with e|⟨e1,e2⟩<;>omega
   ·rw[uG]
    rcases m8 with e|⟨e1,e2⟩
    ·rw[e]
    ·simp[e1]
   ·rintro r M ⟨rfl,rfl⟩
    refine⟨⟨rfl,rfl⟩,?_⟩
    repeat(refine And.intro (by first|exact rfl|omega) ?_)
    exact h
theorem tV:∀k:Nat,bitsOf 0 k=List.replicate k false
 |0=>rfl
 |k+1=>by simp[bitsOf,tV k,List.replicate_succ]
end Go.Proofs.Ytibadaomjlkoaaa
open Go.RowKit
namespace Go.Proofs.Ytibadaomjlkoaaa
set_option maxRecDepth 10000
theorem KF {xs:List Int}{c0 c:Nat}(hl:xs.length≤100000000)(Ay:∀x∈xs,0≤x∧x<256){Kp}:
 aa Try.prog 19 [.sl 0 0 0 xs.length c0] [.one false 0 (.ints .u8 xs c)]
  (fun r M=>∃g c',r=.sl 1 g 0 (unpack xs).length c'∧M=[.one false 0 (.ints .u8 xs c),.one true g (.ax (unpack xs) c')]∧(unpack xs).length≤c') Kp:=by
 refine aa.bI ?_
 refine RW (fun _=>[0]) [] rfl ?_
 refine WA.view (l:=[(0,.sl 0 0 0 xs.length c0),(3,.ns),(4,.int .i64 0)]) (l':=[(0,.sl 0 0 0 xs.length c0),(3,.sl 1 0 0 0 0),(4,.int .i64 0)]) ?_ rfl (Vw.pz (x:=.ax [] 0) ⟨rfl,rfl⟩ ?_) fun d=>?_
 ·exact And.intro rfl (And.intro rfl (And.intro rfl trivial))
 ·exact And.intro (.inl rfl) (And.intro (.inr ⟨rfl,rfl⟩) (And.intro (.inl rfl) trivial))
 refine WA.loop (σ:=Nat×Nat×Nat) (fun(j,g,c')=>j≤xs.length∧(unpack (xs.take j)).length≤c') (fun(j,_,_)=>xs.length-j)
  (fun(j,g,c')=>[(0,.sl 0 0 0 xs.length c0),(3,.sl 1 g 0 (unpack (xs.take j)).length c'),(4,.int .i64 j)]) (fun(j,g,c')=>[.one false 0 (.ints .u8 xs c),.one true g (.ax (unpack (xs.take j)) c')]) (0,0,0) ae mixed (by kernel_rfl)
  ⟨⟨Nat.zero_le _,Nat.le_refl _⟩,And.intro rfl (And.intro rfl (And.intro rfl trivial)),And.intro rfl (And.intro rfl trivial)⟩ (fun _=>rfl) (fun _=>rfl) (fun _=>⟨trivial,trivial,trivial⟩) ?_
 rintro⟨j,g,c'⟩ ⟨h1,h2⟩ dd
 refine And.intro (fun hc=>?_) (fun hc=>?_)
 ·simp only[decide_eq_true_eq]at hc
  have pc:j<xs.length:=by omega
  have hg:xs.getD ((j:Int).toNat+0) 0=xs[j]:=by simp[List.getD_eq_getElem?_getD,pc]
  have hx:=Ay _ (List.getElem_mem pc)
  repeat(refine And.intro (by first|exact rfl|omega) ?_)
  refine aa.lift [] (DW (v:=xs.getD ((j:Int).toNat+0) 0%4294967296) (n:=8) (by omega) (by omega) (Kp:=fun _ _=>False)) rfl rfl trivial trivial ?_ (fun _ _ h=>h.elim)
  rw[hg,show xs[j]%4294967296=xs[j]from by omega]
  rintro r M ⟨g2,c2,rfl,rfl,JY⟩
  refine⟨rfl,?_⟩
  have uH:=ak 8 xs[j]
  have uh:=aL (xs.take j)
  have m7:(xs.take j).length=j:=by simp;omega
  repeat(refine And.intro (by first|exact rfl|omega|exact⟨rfl,rfl,rfl,Nat.le_refl _,h2⟩|exact Nat.le_of_eq (Nat.zero_add _)) ?_)
  intro zs dk
  have ZX:zs=bitsOf xs[j] 8:=by
   rw[dk]
   show((bitsOf xs[j] 8).drop 0).take (bitsOf xs[j] 8).length=_
   simp
  subst ZX
  repeat(refine And.intro (by first|exact rfl|omega|(refine And.intro ?_ ?_<;>(show _≤_)<;>simp only[Int.toNat,Int.ofNat_eq_natCast]<;>omega)|(dsimp only;omega)) ?_)
  intro c3 AK
  repeat(refine And.intro (by first|exact rfl|omega) ?_)
  have LC:unpack (xs.take (j+1))=unpack (xs.take j)++bitsOf xs[j] 8:=by
   unfold unpack
   rw[List.take_succ_eq_append_getElem pc,List.flatMap_append]
   simp only[List.flatMap_cons,List.flatMap_nil,List.append_nil]
  have aav:(unpack (xs.take j)).length+(bitsOf xs[j] 8).length≤c3:=AK
  refine Exists.intro (j+1,g+1,c3) (And.intro ⟨⟨by omega,by rw[LC,List.length_append];exact aav⟩,show xs.length-(j+1)<xs.length-j by omega⟩ (And.intro (And.intro rfl (And.intro ?_ (And.intro ?_ trivial))) (And.intro rfl (And.intro ?_ trivial))))
  ·show AV.sl 1 (g+1) 0 ((unpack (xs.take j)).length+(bitsOf xs[j] 8).length) c3=AV.sl 1 (g+1) 0 (unpack (xs.take (j+1))).length c3
   rw[LC,List.length_append]
  ·show AV.int .i64 ((j:Int)+1)=AV.int .i64 ((j+1:Nat):Int)
   push_cast;rfl
  ·show AO.one true (g+1) (.ax (unpack (xs.take (j+1))) c3)=AO.one true (g+1) (.ax (unpack (xs.take j)++bitsOf xs[j] 8) c3)
   rw[LC]
 ·simp only[decide_eq_false_iff_not]at hc
  have hj:j=xs.length:=by omega
  subst hj
  rw[List.take_length]at h2
  exact Exists.intro [AO.one false 0 (.ints .u8 xs c),AO.one true g (.ax (unpack xs) c')] (And.intro (And.intro rfl (And.intro (by rw[List.take_length]) trivial)) (And.intro ⟨trivial,trivial,trivial⟩ (And.intro rfl ⟨g,c',by rw[List.take_length],rfl,h2⟩)))
theorem C7 (row:List Bool):bC row=eH ((row.length+7)/8) row:=by
 unfold bC
 split
 ·rename_i h
  rw[show(row.length+7)/8=row.length/8 from by omega];rfl
 ·rename_i h
  rw[show(row.length+7)/8=row.length/8+1 from by omega,mi]
  have:(rest row).take 8=rest row:=List.take_of_length_le (by rw[ko];omega)
  show eH (row.length/8) row++[num (rest row)]=eH (row.length/8) row++[num ((rest row).take 8)]
  rw[this]
end Go.Proofs.Ytibadaomjlkoaaa
open Go.RowKit
namespace Go.Proofs.Ytibadaomjlkoaaa
set_option maxRecDepth 10000
end Go.Proofs.Ytibadaomjlkoaaa
open Go.RowKit
namespace Go.Proofs.Ytibadaomjlkoaaa
theorem mI:∀(k:Nat)(l:List Bool),l.length≤k→bitsOf (num l) k=l++List.replicate (k-l.length) false
 |0,l,h=>by
  have:l=[]:=List.eq_nil_of_length_eq_zero (by omega)
  subst this;rfl
 |k+1,[],_=>by simp[num,tV]
 |k+1,b::l,h=>by
  have hl:l.length≤k:=by simpa using h
  have e1:(num (b::l))/2=num l:=by simp only[num];split<;>omega
  have e2:decide (num (b::l)%2=1)=b:=by
   simp only[num];cases b
   ·simp
   ·simp
  simp only[bitsOf,e1,e2,mI k l hl,List.cons_append,List.length_cons]
  rw[show k+1-(l.length+1)=k-l.length from by omega]
theorem mH (v:Int):∀(p q:Nat),bitsOf v (p+q)=bitsOf (v%2^p) p++bitsOf (v/2^p) q
 |0,q=>by simp[bitsOf]
 |p+1,q=>by
  have h1:v%2^(p+1)%2=v%2:=by
   rw[Int.pow_succ,Int.mul_comm];exact Int.emod_emod_of_dvd v (Int.dvd_mul_right 2 _)
  have h2:v%2^(p+1)/2=v/2%2^p:=by
   have hp:(0:Int)<2^p:=Int.pow_pos (by decide)
   have a1:=Int.emod_add_mul_ediv v (2^(p+1))
   have a2:=Int.emod_add_mul_ediv (v/2) (2^p)
   have a3:v/2/2^p=v/2^(p+1):=by rw[Int.ediv_ediv_of_nonneg (by decide),Int.pow_succ,Int.mul_comm]
   rw[a3]at a2
   have a4:(2:Int)^(p+1)*(v/2^(p+1))=2*(2^p*(v/2^(p+1))):=by rw[Int.pow_succ,Int.mul_comm (2^p) 2,Int.mul_assoc]
   rw[a4]at a1
   omega
  have h3:v/2^(p+1)=v/2/2^p:=by rw[Int.ediv_ediv_of_nonneg (by decide),Int.pow_succ,Int.mul_comm]
  rw[show p+1+q=(p+q)+1 from by omega]
  simp only[bitsOf,h1,h2,h3,List.cons_append,mH (v/2) p q]
theorem fk (a b:List Int):unpack (a++b)=unpack a++unpack b:=by simp[unpack]
theorem qQ:∀(k:Nat)(l:List Bool),8*k≤l.length→unpack (eH k l)=l.take (8*k)
 |0,l,_=>by simp[eH,unpack]
 |k+1,l,h=>by
  have hl:(l.take 8).length=8:=by simp;omega
  rw[eH,ep,mI 8 _ (by omega),qQ k _ (by simp;omega),hl]
  simp only[Nat.sub_self,List.replicate_zero,List.append_nil]
  rw[show 8*(k+1)=8+8*k from by omega,List.take_add]
theorem kC (row:List Bool):∃k,k<8∧unpack (bC row)=row++List.replicate k false∧8*(bC row).length=row.length+k:=by
 have cg:=mh row
 have hr:=ko row
 have h1:unpack (aU row)=row.take (8*(row.length/8)):=qQ _ _ (by omega)
 unfold bC
 split
 ·rename_i h
  refine⟨0,by omega,?_,by omega⟩
  rw[h1,List.take_of_length_le (by omega)];simp
 ·rename_i h
  refine⟨8-row.length%8,by omega,?_,by simp;omega⟩
  rw[fk,h1,ep,mI 8 _ (by omega),hr]
  show _++(rest row++List.replicate (8-row.length%8) false++[])=_
  rw[List.append_nil,←List.append_assoc]
  congr 1
  exact List.take_append_drop _ _
theorem tT (row:List Bool):∀x∈bC row,0≤x∧x<256:=by
 rw[C7];exact vD _ _
theorem Pu (p q:List Bool)(v:Int)(n:Nat)(h0:0≤v)(h:v<2^n):num (((p++(bitsOf v n++q)).drop p.length).take n)=v:=by
 rw[List.drop_left,List.take_append_of_le_length (by rw[ak];exact Nat.le_refl _),List.take_of_length_le (by rw[ak];exact Nat.le_refl _),mj n v h0 h]
theorem Af {row:List Bool}{v:Int}{n:Nat}(hn:n≤24)(hv:v<2^n)(hr:row.length+n≤8388608):j6 row v n=(row++bitsOf v n,0):=by
 have hm:Ao v n=true:=by simp only[Ao,decide_eq_true_eq];exact⟨by omega,by omega,by simpa using hv⟩
 simp only[j6,hm]
 rw[if_neg (by simp),if_neg (by omega)];rfl
end Go.Proofs.Ytibadaomjlkoaaa
open Go.RowKit
namespace Go.Proofs.Ytibadaomjlkoaaa
set_option maxRecDepth 10000
def ro (j g c:Nat)(xs:List Int)(a:Nat):AO:=.one true 0 (.cells [.sl j g 0 xs.length c,.int .i64 (a:Int)])
def rb (g c:Nat)(xs:List Int):AO:=.one true g (.ints .u8 xs c)
section
variable{M:AH}{K Kp:AV→AH→Prop}
theorem Gz {i j:Nat}(h:Nat.beq i j=false){l:List AV}(hl:AV.nq [.own i,.own j] l=true):(bu [.own i,.own j]&&AV.nq [.own i,.own j] l)=true:=by
 simp[bu,TE.ec,TE.i,h,hl]
theorem q9 {M:AH}{i:Nat}{o:AO}(h:M[i]?=some o):M.set i o=M:=by
 obtain⟨h1,h2⟩:=List.getElem?_eq_some_iff.1 h
 rw[←h2,List.set_getElem_self]
theorem get_at {i j g c:Nat}{xs:List Int}{a a':Nat}{n v e:Int}(hi:M[i]?=some (ro j g c xs a))(hj:M[j]?=some (rb g c xs))(tN:Nat.beq i j=false)(hb:xs.length≤70368744177664)(ha:a≤8*xs.length)(Ay:∀x∈xs,0≤x∧x<256)(hp:nd xs a n=(v,a',e))
 (h:K (.aE [.int .u32 v,.int .i64 e]) (M.set i (ro j g c xs a'))):aa Try.prog 65 [.ptr i 0 0,.int .i64 n] M K Kp:=by
 refine aa.lift [.own i,.own j] (Mg (a:=a) (n:=n) (g:=g) (c:=c) (Kp:=fun _ _=>False) hb ha Ay) rfl (Gz tN rfl) ⟨⟨hi,rfl⟩,⟨hj,rfl⟩,trivial⟩ ⟨rfl,trivial,trivial⟩ ?_ (fun _ _ h=>h.elim)
 rw[hp]
 rintro r M' ⟨rfl,rfl⟩
 refine⟨⟨rfl,rfl,rfl⟩,?_⟩
 have e:M.set i (ro j g c xs a')=(M.set i (ro j g c xs a')).set j (rb g c xs)++[]:=by
  rw[List.append_nil];exact(q9 (show(M.set i _)[j]?=some (rb g c xs) by rw[List.getElem?_set_ne (Nat.ne_of_beq_eq_false tN)];exact hj)).symm
 rw[e]at h
 exact h
theorem IK {i j g c:Nat}{xs:List Int}{a:Nat}(hi:M[i]?=some (ro j g c xs a))(hj:M[j]?=some (rb g c xs))(tN:Nat.beq i j=false)(hb:xs.length≤70368744177664)(ha:a≤8*xs.length)
 (h:K (.int .i64 0) (M.set i (ro j g c xs ((a+7)/8*8)))):aa Try.prog 59 [.ptr i 0 0] M K Kp:=by
 refine aa.lift [.own i,.own j] (B5 (a:=a) (g:=g) (c:=c) (K:=fun r M=>r=.int .i64 0∧M=KJ xs ((a+7)/8*8:Nat) g c) (Kp:=fun _ _=>False) hb ha ⟨rfl,rfl⟩) rfl (Gz tN rfl) ⟨⟨hi,rfl⟩,⟨hj,rfl⟩,trivial⟩ ⟨rfl,trivial,trivial⟩ ?_ (fun _ _ h=>h.elim)
 rintro r M' ⟨rfl,rfl⟩
 refine⟨⟨rfl,rfl,rfl⟩,?_⟩
 have e:M.set i (ro j g c xs ((a+7)/8*8))=(M.set i (ro j g c xs ((a+7)/8*8))).set j (rb g c xs)++[]:=by
  rw[List.append_nil];exact(q9 (show(M.set i _)[j]?=some (rb g c xs) by rw[List.getElem?_set_ne (Nat.ne_of_beq_eq_false tN)];exact hj)).symm
 rw[e]at h
 exact h
theorem V9 {i j:Nat}{o p:AO}(hi:M[i]?=some o)(hj:M[j]?=some p):M=(M.set i o).set j p++[]:=by
 rw[q9 hi,q9 hj,List.append_nil]
theorem Y1 {i j g c:Nat}{xs:List Int}{a:Nat}(hi:M[i]?=some (ro j g c xs a))(hj:M[j]?=some (rb g c xs))(tN:Nat.beq i j=false)
 (h:K (.int .i64 (a:Int)) M):aa Try.prog 36 [.ptr i 0 0] M K Kp:=by
 refine aa.lift [.own i,.own j] (Qz (xs:=xs) (a:=a) (g:=g) (c:=c) (K:=fun r M=>r=.int .i64 (a:Int)∧M=KJ xs (a:Int) g c) (Kp:=fun _ _=>False) ⟨rfl,rfl⟩) rfl (Gz tN rfl) ⟨⟨hi,rfl⟩,⟨hj,rfl⟩,trivial⟩ ⟨rfl,trivial,trivial⟩ ?_ (fun _ _ h=>h.elim)
 rintro r M' ⟨rfl,rfl⟩
 refine⟨⟨rfl,rfl,rfl⟩,?_⟩
 rw[V9 hi hj]at h
 exact h
theorem ZJ {t:List TE}{m:Nat}{k:IntKind}{xs:List Int}{c co:Nat}(h:c≤co):cq t m 0 (.ints k xs c) (.ints k xs co):=cq.ints (by omega) (by simp)
theorem ZK {t:List TE}{m:Nat}{xs:List Bool}{c co:Nat}(h:c≤co):cq t m 0 (.ax xs c) (.ax xs co):=cq.ax (by omega) (by simp)
theorem Ti {i g n c co:Nat}{own:Bool}{xs:List Int}(hi:M[i]?=some (.one own g (.ints .u8 xs co)))(hn:n=xs.length)(hb:xs.length≤70368744177664)
 (h:∀g' c',xs.length≤c'→K (.ptr (M.length+1) 0 0) (M++[rb g' c' xs,ro M.length g' c' xs 0])):
 aa Try.prog 30 [.sl i g 0 n c] M K Kp:=by
 subst hn
 refine aa.lift [.cP i g 0] (La (xs:=xs) (c0:=c) (c:=co) (Kp:=fun _ _=>False) hb) rfl rfl ⟨⟨_,_,_,rfl,ao hi,ZJ (Nat.le_refl _)⟩,trivial⟩ ⟨trivial,trivial⟩ ?_ (fun _ _ h=>h.elim)
 rintro r M' ⟨g',c',rfl,rfl,nU⟩
 exact⟨⟨rfl,rfl⟩,h g' c' nU⟩
end
end Go.Proofs.Ytibadaomjlkoaaa
