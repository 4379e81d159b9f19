import Derived.Test.YtibadaomjlkoaaaTb
import Derived.Laws.Strings
import Derived.Test.YtibadaomjlkoaaaG2
import Derived.Test.YtibadaomjlkoaaaAb18
import Derived.Test.YtibadaomjlkoaaaAb20
set_option linter.unusedVariables false
set_option linter.unusedSimpArgs false
open Go.RowKit
namespace Go.Proofs.Ytibadaomjlkoaaa
theorem bJ (M:AH):jr M []:=by cases M<;>trivial
theorem MN {c l off sz:Nat}(h:c≠l):cS c l off sz=off+l*sz:=by unfold cS;rw[if_neg h]
theorem Qn {c l off:Nat}(h:c≠l):cS c l off 1=off+l:=by unfold cS;rw[if_neg h,Nat.mul_one]
theorem aa.RV {P:Program}{g:Nat}{args:List AV}{v:AV}{M:AH}{K Kp:AV→AH→Prop}(h:aa P g args [] (fun r M=>r=v∧M=[]) (fun _ _=>False))(ha:∀m,AV.rM [] m args=args)(hw:AV.pE [] args=true)(hv:∀m,v.rn [] m=v)(hK:K v M):aa P g args M K Kp:=by
 refine aa.lift [] h (ha _) (by simp[bL,hw]) trivial trivial ?_ (fun _ _ h=>h.elim)
 rintro r M' ⟨rfl,rfl⟩
 rw[hv]
 rw[←List.append_nil M]at hK
 exact⟨rfl,hK⟩
theorem vY (xs:List Int):(nh xs).toList=xs.map (fun n=>UInt8.ofNat n.toNat):=by
 have key:∀(l:List Int)(r:ByteArray),(l.foldl (fun r n=>r.push (UInt8.ofNat n.toNat)) r).data.toList=r.data.toList++l.map (fun n=>UInt8.ofNat n.toNat):=by
  intro l
  induction l with
  |nil=>intro r;simp
  |cons x l ih=>intro r;rw[List.foldl_cons,ih];simp
 rw[ByteArray.toList_eq]
 have:=key xs ByteArray.empty
 simpa[nh]using this
theorem Gf {xs:List Int}(l:List UInt8)(h:xs.map (fun n=>UInt8.ofNat n.toNat)=l):((nh xs).toList==(ByteArray.mk l.toArray).toList)=true:=by
 rw[vY,ByteArray.toList_mk,h];simp
end Go.Proofs.Ytibadaomjlkoaaa
open Go.RowKit
namespace Go.Proofs.Ytibadaomjlkoaaa
def num:List Bool→Int
 |[]=>0
 |b::l=>(if b then 1 else 0)+2*num l
def bitsOf:Int→Nat→List Bool
 |_,0=>[]
 |v,n+1=>decide (v%2=1)::bitsOf (v/2) n
def dZ:Nat→List Bool→List Int
 |0,_=>[]
 |k+1,l=>num (l.take 8)::dZ k (l.drop 8)
def aP (row:List Bool):List Int:=dZ (row.length/8) row
def rest (row:List Bool):List Bool:=row.drop (8*(row.length/8))
theorem num_nonneg:∀l:List Bool,0≤num l
 |[]=>Int.le_refl 0
 |b::l=>by have:=num_nonneg l;simp only[num];split<;>omega
theorem gV:∀l:List Bool,num l<2^l.length
 |[]=>by simp[num]
 |b::l=>by
  have:=gV l
  simp only[num,List.length_cons,Int.pow_succ]
  split<;>omega
theorem iV:∀l l':List Bool,num (l++l')=num l+2^l.length*num l'
 |[],l'=>by simp[num]
 |b::l,l'=>by
  simp only[List.cons_append,num,iV l l',List.length_cons,Int.pow_succ,Int.mul_add]
  have:2^l.length*2*num l'=2*(2^l.length*num l'):=by rw[Int.mul_comm (2^l.length) 2,Int.mul_assoc]
  omega
theorem ai:∀(n:Nat)(v:Int),(bitsOf v n).length=n
 |0,v=>rfl
 |n+1,v=>by simp[bitsOf,ai n]
theorem ly:∀(n:Nat)(v:Int),0≤v→v<2^n→num (bitsOf v n)=v
 |0,v,h1,h2=>by simp[bitsOf,num]at*;omega
 |n+1,v,h1,h2=>by
  rw[Int.pow_succ]at h2
  simp only[bitsOf,num,decide_eq_true_eq]
  rw[ly n (v/2) (by omega) (by omega)]
  split<;>omega
theorem qa:∀(k:Nat)(l:List Bool),(dZ k l).length=k
 |0,l=>rfl
 |k+1,l=>by simp[dZ,qa k]
theorem lr (row:List Bool):(aP row).length=row.length/8:=qa _ _
theorem jF (row:List Bool):(rest row).length=row.length%8:=by simp[rest];omega
theorem tR:∀(k:Nat)(l:List Bool),∀x∈dZ k l,0≤x∧x<256
 |0,l,x,h=>by cases h
 |k+1,l,x,h=>by
  simp only[dZ,List.mem_cons]at h
  rcases h with rfl|h
  ·refine⟨num_nonneg _,Int.lt_of_lt_of_le (gV _) ?_⟩
   have:(l.take 8).length≤8:=by simp;omega
   calc(2:Int)^(l.take 8).length≤2^8:=by exact_mod_cast Nat.pow_le_pow_right (by omega) this
    _=256:=by decide
  ·exact tR k _ x h
theorem lx:∀(k j:Nat)(l:List Bool),dZ (k+j) l=dZ k l++dZ j (l.drop (8*k))
 |0,j,l=>by simp[dZ]
 |k+1,j,l=>by
  rw[show k+1+j=(k+j)+1 from by omega]
  simp only[dZ,lx k j,List.drop_drop,List.cons_append]
  rw[show 8+8*k=8*(k+1)from by omega]
theorem tQ:∀(k:Nat)(l l':List Bool),8*k≤l.length→dZ k (l++l')=dZ k l
 |0,l,l',_=>rfl
 |k+1,l,l',h=>by
  simp only[dZ]
  rw[List.take_append_of_le_length (by omega),List.drop_append_of_le_length (by omega),tQ k _ _ (by simp;omega)]
def AM (xs:List Int)(a n:Int):Nat→List Int×Int×Int
 |0=>(xs,a,n)
 |k+1=>AM (xs++[a%256]) (cn .u32 a 8) (n-8) k
theorem Gn (l:List Bool)(h:8≤l.length):cn .u32 (num l) 8=num (l.drop 8)∧num l%256=num (l.take 8):=by
 have h1:=iV (l.take 8) (l.drop 8)
 rw[List.take_append_drop]at h1
 have h2:(l.take 8).length=8:=by simp;omega
 have h3:=gV (l.take 8)
 have h4:=num_nonneg (l.take 8)
 rw[h2]at h1 h3
 have e:(2:Int)^8=256:=by decide
 rw[e]at h1 h3
 have h5:cn .u32 (num l) 8=num l/256:=by
  simp only[cn,IntKind.bits]
  rw[Int.fdiv_eq_ediv_of_nonneg _ (by decide)];rfl
 constructor
 ·rw[h5];omega
 ·omega
theorem AL:∀(k:Nat)(xs:List Int)(l:List Bool),k=l.length/8→AM xs (num l) l.length k=(xs++dZ k l,num (l.drop (8*k)),((l.length%8:Nat):Int))
 |0,xs,l,h=>by
  simp only[AM,dZ,List.append_nil,Nat.mul_zero,List.drop_zero,Prod.mk.injEq,true_and];omega
 |k+1,xs,l,h=>by
  obtain⟨h1,h2⟩:=Gn l (by omega)
  have h3:=AL k (xs++[num (l.take 8)]) (l.drop 8) (by simp;omega)
  simp only[AM,h1,h2]
  have:((l.length:Nat):Int)-8=((l.drop 8).length:Nat):=by simp;omega
  rw[this,h3]
  simp only[dZ,List.append_assoc,List.singleton_append,List.drop_drop,Prod.mk.injEq,true_and]
  refine⟨by congr 2;omega,by simp;omega⟩
theorem Qm {a b:Nat}(ha:a<2^32)(hb:b<2^32):cm .or .u32 (a:Int) (b:Int)=((a|||b:Nat):Int):=by
 have h1:(BitVec.ofInt 32 (a:Int)|||BitVec.ofInt 32 (b:Int)).toNat=a|||b:=by
  rw[BitVec.toNat_or,BitVec.ofInt_natCast,BitVec.ofInt_natCast,BitVec.toNat_ofNat,BitVec.toNat_ofNat,Nat.mod_eq_of_lt ha,Nat.mod_eq_of_lt hb]
 have h2:(a|||b)<2^32:=Nat.or_lt_two_pow ha hb
 have h3:IntKind.u32.wrap ((a|||b:Nat):Int)=((a|||b:Nat):Int):=by
  generalize(a|||b)=z at*
  simp[IntKind.wrap,IntKind.bits,IntKind.signed];omega
 show IntKind.u32.wrap ((BitVec.ofInt 32 (a:Int)|||BitVec.ofInt 32 (b:Int)).toNat:Int)=_
 rw[h1,h3]
theorem IM {a v:Int}{n k:Nat}(NG:0≤a)(ha:a<2^n)(R7:0≤v)(hv:v<2^k)(hnk:n+k≤32):cm .or .u32 a (ba .u32 v n)=a+2^n*v:=by
 obtain⟨a,rfl⟩:=Int.eq_ofNat_of_zero_le NG
 obtain⟨v,rfl⟩:=Int.eq_ofNat_of_zero_le R7
 have rp:a<2^n:=by exact_mod_cast ha
 have qw:v<2^k:=by exact_mod_cast hv
 have a9:v*2^n<2^32:=by
  calc v*2^n<2^k*2^n:=Nat.mul_lt_mul_of_pos_right qw (Nat.pow_pos (by omega))
   _=2^(k+n):=(Nat.pow_add 2 k n).symm
   _≤2^32:=Nat.pow_le_pow_right (by omega) (by omega)
 have XU:a<2^32:=Nat.lt_of_lt_of_le rp (Nat.pow_le_pow_right (by omega) (by omega))
 have e1:ba .u32 (v:Int) n=((v*2^n:Nat):Int):=by
  simp only[ba,IntKind.bits,Int.toNat_natCast,Nat.min_eq_left (show n≤32 by omega)]
  have:(v:Int)*2^n=((v*2^n:Nat):Int):=by push_cast;rfl
  rw[this]
  simp[IntKind.wrap,IntKind.bits,IntKind.signed]
  omega
 rw[e1]
 have Sc:a|||v*2^n=v*2^n+a:=by
  rw[Nat.or_comm,Nat.mul_comm,Nat.two_pow_add_eq_or_of_lt rp]
 rw[Qm XU a9,Sc]
 push_cast
 rw[Int.mul_comm,Int.add_comm]
theorem Jg (row:List Bool)(v:Int)(k:Nat)(hk:k≤24)(h0:0≤v)(hv:v<2^k):
 AM (aP row) (cm .or .u32 (num (rest row)) (ba .u32 v ((row.length%8:Nat):Int))) (((row.length%8:Nat):Int)+k) ((row.length%8+k)/8)=
  (aP (row++bitsOf v k),num (rest (row++bitsOf v k)),(((row++bitsOf v k).length%8:Nat):Int)):=by
 have hr:=jF row
 have hn:=gV (rest row)
 rw[hr]at hn
 rw[IM (num_nonneg _) hn h0 hv (by omega)]
 have e1:num (rest row)+2^(row.length%8)*v=num (rest row++bitsOf v k):=by
  rw[iV,hr,ly k v h0 hv]
 have hl:(rest row++bitsOf v k).length=row.length%8+k:=by simp[hr,ai]
 have e2:((row.length%8:Nat):Int)+k=((rest row++bitsOf v k).length:Nat):=by rw[hl];push_cast;rfl
 rw[e1,e2,AL _ _ _ (by rw[hl])]
 have pe:row.length=8*(row.length/8)+row.length%8:=by omega
 have hL:(row++bitsOf v k).length/8=row.length/8+(row.length%8+k)/8:=by simp[ai];omega
 have hd:(row++bitsOf v k).drop (8*(row.length/8))=rest row++bitsOf v k:=by
  rw[List.drop_append_of_le_length (by omega)];rfl
 simp only[Prod.mk.injEq]
 refine⟨?_,?_,?_⟩
 ·unfold aP
  rw[hL,lx,hd,tQ (row.length/8) row _ (by omega)]
 ·unfold rest
  rw[hL,Nat.mul_add,←List.drop_drop,hd];rfl
 ·rw[hl];simp[ai]
end Go.Proofs.Ytibadaomjlkoaaa
open Go.RowKit
namespace Go.Proofs.Ytibadaomjlkoaaa
set_option maxRecDepth 10000
theorem Az {M:AH}{K Kp:AV→AH→Prop}{v n:Int}(h:∀b:Bool,(b=true↔(0≤n∧n≤24∧cn .u32 v n=0))→K (.bo b) M):aa Try.prog 67 [.int .u32 v,.int .i64 n] M K Kp:=by
 refine O6 (fun _=>[]) [] rfl ?_
 refine And.intro (fun h1=>And.intro (fun h2=>And.intro ?_ ?_) (fun h2=>?_)) (fun h1=>?_)
 all_goals simp only[decide_eq_true_eq,decide_eq_false_iff_not]at h1
 ·exact h1
 all_goals refine h _ ?_
 ·simp only[decide_eq_true_eq]at*
  simp only[*,true_and]
 ·simp only[decide_eq_true_eq,decide_eq_false_iff_not]at*
  simp only[*,false_and,and_false];simp
 ·simp only[h1,false_and];simp
def wr (g:Nat)(c:Nat)(xs:List Int)(a n:Int):AH:=[.one true 0 (.cells [.sl 1 g 0 xs.length c,.int .u32 a,.int .i64 n]),.one true g (.ints .u8 xs c)]
def yz (v n:Int):Bool:=decide (0≤n∧n≤24∧v<2^n.toNat)
def jt (row:List Bool)(v n:Int):List Bool×Int:=
 if yz v n=false then(row,1)else if row.length+n>8388608 then(row,2)else(row++bitsOf v n.toNat,0)
theorem Fh {v n:Int}(hv:0≤v):(0≤n∧n≤24∧cn .u32 v n=0)↔yz v n=true:=by
 simp only[yz,decide_eq_true_eq]
 constructor
 ·rintro⟨h1,h2,h3⟩
  refine⟨h1,h2,?_⟩
  simp only[cn,IntKind.bits]at h3
  rw[Nat.min_eq_left (by omega),Int.fdiv_eq_ediv_of_nonneg _ (Int.le_of_lt (Int.pow_pos (by decide)))]at h3
  have hp:(0:Int)<2^n.toNat:=Int.pow_pos (by decide)
  exact Int.lt_of_not_ge fun JK=>by
   have:=Int.ediv_le_ediv hp JK
   rw[Int.ediv_self (by omega)]at this
   omega
 ·rintro⟨h1,h2,h3⟩
  refine⟨h1,h2,?_⟩
  simp only[cn,IntKind.bits]
  rw[Nat.min_eq_left (by omega),Int.fdiv_eq_ediv_of_nonneg _ (Int.le_of_lt (Int.pow_pos (by decide)))]
  exact Int.ediv_eq_zero_of_lt hv h3
end Go.Proofs.Ytibadaomjlkoaaa
open Go.RowKit
namespace Go.Proofs.Ytibadaomjlkoaaa
set_option maxRecDepth 10000
theorem vb {xs:List Int}{c0 c:Nat}(hb:xs.length≤70368744177664){Kp}:
 aa Try.prog 49 [.sl 0 0 0 xs.length c0] [.one false 0 (.ints .u8 xs c)]
  (fun r M=>∃g' c',r=.sl 1 g' 0 xs.length c'∧M=[.one false 0 (.ints .u8 xs c),.one true g' (.ints .u8 xs c')]∧xs.length≤c') Kp:=by
 refine aa.fi ?_
 refine O9 (fun _=>[]) [] rfl ?_
 refine And.intro rfl ?_
 intro b hb
 refine And.intro (fun h1=>?_) (fun h1=>?_)
 ·obtain⟨rfl,rfl⟩:=hb (by simpa using h1)
  exact⟨_,_,Vw.nil (x:=.ints .u8 [] 0) ⟨rfl,rfl⟩,0,0,rfl,rfl,Nat.le_refl _⟩
 ·repeat(refine And.intro (by first|exact rfl|exact Nat.le_of_ble_eq_true rfl|omega|(dsimp only;omega)|(refine⟨rfl,rfl,rfl,Nat.le_refl _,Nat.le_refl _⟩)) ?_)
  intro ys sw
  have WM:ys=xs:=by rw[sw];simp
  subst WM
  repeat(refine And.intro (by first|exact rfl|omega|(dsimp only;omega)) ?_)
  intro c1 uL
  refine⟨_,_,Vw.refl _ _,1,c1,?_,rfl,by omega⟩
  show AV.sl 1 1 0 (0+ys.length) c1=_
  rw[Nat.zero_add]
def bp (row:List Bool):List Int:=if row.length%8=0 then aP row else aP row++[num (rest row)]
def Iz (xs:List Int)(at_:Int)(g c:Nat):AH:=[.one true 0 (.cells [.sl 1 g 0 xs.length c,.int .i64 at_]),.one true g (.ints .u8 xs c)]
theorem I0 {xs:List Int}{c0 c:Nat}(hb:xs.length≤70368744177664){Kp}:
 aa Try.prog 30 [.sl 0 0 0 xs.length c0] [.one false 0 (.ints .u8 xs c)]
  (fun r M=>∃g' c',r=.ptr 2 0 0∧M=[.one false 0 (.ints .u8 xs c),.one true g' (.ints .u8 xs c'),.one true 0 (.cells [.sl 1 g' 0 xs.length c',.int .i64 0])]∧xs.length≤c') Kp:=by
 refine Pc (fun _=>[]) [] rfl ?_
 refine aa.mono (vb (Kp:=fun _ _=>False) hb) ?_ (fun _ _ h=>h.elim)
 rintro r M ⟨g',c',rfl,rfl,r8⟩
 exact⟨g',c',rfl,rfl,r8⟩
theorem GU {xs:List Int}{a:Int}{g c:Nat}(hb:xs.length≤70368744177664)(ha:0≤a∧a≤8*xs.length){K Kp:AV→AH→Prop}
 (h:K (.int .i64 (8*xs.length-a)) (Iz xs a g c)):aa Try.prog 89 [.ptr 0 0 0] (Iz xs a g c) K Kp:=by
 refine O4 (fun _=>[0]) [] rfl ?_
 repeat(refine And.intro (by first|exact rfl|omega) ?_)
 exact h
theorem N5 {xs:List Int}{a:Int}{g c:Nat}{K Kp:AV→AH→Prop}
 (h:K (.int .i64 a) (Iz xs a g c)):aa Try.prog 36 [.ptr 0 0 0] (Iz xs a g c) K Kp:=by
 refine Pb (fun _=>[0]) [] rfl ?_
 repeat(refine And.intro (by first|exact rfl|omega) ?_)
 exact h
end Go.Proofs.Ytibadaomjlkoaaa
open Go.RowKit
namespace Go.Proofs.Ytibadaomjlkoaaa
set_option maxRecDepth 10000
def unpack (xs:List Int):List Bool:=xs.flatMap fun b=>bitsOf b 8
theorem dN (x:Int)(xs:List Int):unpack (x::xs)=bitsOf x 8++unpack xs:=rfl
theorem bH:∀xs:List Int,(unpack xs).length=8*xs.length
 |[]=>rfl
 |x::xs=>by simp only[dN,List.length_append,ai,bH xs,List.length_cons];omega
theorem rE:∀(k:Nat)(xs:List Int),(unpack xs).drop (8*k)=unpack (xs.drop k)
 |0,xs=>rfl
 |k+1,[]=>by simp[unpack]
 |k+1,x::xs=>by
  rw[dN,show 8*(k+1)=(bitsOf x 8).length+8*k from by rw[ai];omega,List.drop_append,show(bitsOf x 8).length+8*k-(bitsOf x 8).length=8*k from by omega,rE k xs,List.drop_eq_nil_of_le (by omega)];simp
theorem As (l:List Bool)(k:Nat)(h:k≤l.length):num (l.drop k)=num l/2^k∧num (l.take k)=num l%2^k:=by
 have h1:=iV (l.take k) (l.drop k)
 rw[List.take_append_drop]at h1
 have h2:(l.take k).length=k:=by simp;omega
 have h3:=gV (l.take k)
 have h4:=num_nonneg (l.take k)
 rw[h2]at h1 h3
 have hp:(0:Int)<2^k:=Int.pow_pos (by decide)
 constructor
 ·rw[h1,Int.add_mul_ediv_left _ _ (by omega),Int.ediv_eq_zero_of_lt h4 h3,Int.zero_add]
 ·rw[h1,Int.add_mul_emod_self_left,Int.emod_eq_of_lt h4 h3]
theorem piece (xs:List Int)(AR:∀x∈xs,0≤x∧x<256)(a k:Nat)(ha:a/8<xs.length)(hk:k≤8-a%8):
 num (((unpack xs).drop a).take k)=(xs.getD (a/8) 0/2^(a%8))%2^k:=by
 have hx:=AR _ (List.getElem_mem ha)
 have e1:(unpack xs).drop a=((unpack xs).drop (8*(a/8))).drop (a%8):=by rw[List.drop_drop];congr 1;omega
 rw[e1,rE,List.drop_eq_getElem_cons ha,dN,List.drop_append_of_le_length (by rw[ai];omega),List.take_append_of_le_length (by simp[ai];omega)]
 rw[(As _ k (by simp[ai];omega)).2,(As _ (a%8) (by rw[ai];omega)).1,ly 8 _ hx.1 (by have:=hx.2;omega)]
 rw[show xs.getD (a/8) 0=xs[a/8]from by simp[List.getD_eq_getElem?_getD,ha]]
theorem N6 {a b:Nat}(ha:a<2^32)(hb:b<2^32):cm .and .u32 (a:Int) (b:Int)=((a&&&b:Nat):Int):=by
 have h1:(BitVec.ofInt 32 (a:Int)&&&BitVec.ofInt 32 (b:Int)).toNat=a&&&b:=by
  rw[BitVec.toNat_and,BitVec.ofInt_natCast,BitVec.ofInt_natCast,BitVec.toNat_ofNat,BitVec.toNat_ofNat,Nat.mod_eq_of_lt ha,Nat.mod_eq_of_lt hb]
 have h2:(a&&&b)<2^32:=Nat.and_lt_two_pow _ hb
 have h3:IntKind.u32.wrap ((a&&&b:Nat):Int)=((a&&&b:Nat):Int):=by
  generalize(a&&&b)=z at*
  simp[IntKind.wrap,IntKind.bits,IntKind.signed];omega
 show IntKind.u32.wrap ((BitVec.ofInt 32 (a:Int)&&&BitVec.ofInt 32 (b:Int)).toNat:Int)=_
 rw[h1,h3]
theorem uC {z:Nat}(h:z<2^63):IntKind.i64.wrap (z:Int)=(z:Int):=by
 simp[IntKind.wrap,IntKind.bits,IntKind.signed];omega
theorem Kv {a:Nat}(ha:a<2^62):cm .and .i64 (a:Int) 7=((a%8:Nat):Int):=by
 have h1:(BitVec.ofInt 64 (a:Int)&&&BitVec.ofInt 64 (7:Int)).toNat=a%8:=by
  rw[BitVec.toNat_and,show BitVec.ofInt 64 (7:Int)=7#64 from rfl,BitVec.ofInt_natCast,BitVec.toNat_ofNat,Nat.mod_eq_of_lt (by omega)]
  exact Nat.and_two_pow_sub_one_eq_mod a 3
 show IntKind.i64.wrap ((BitVec.ofInt 64 (a:Int)&&&BitVec.ofInt 64 (7:Int)).toNat:Int)=_
 rw[h1,uC (by omega)]
theorem Bz {a:Nat}(ha:a<2^62):cm .andNot .i64 (a:Int) 7=((a/8*8:Nat):Int):=by
 have h1:(BitVec.ofInt 64 (a:Int)&&&~~~BitVec.ofInt 64 (7:Int)).toNat=a/8*8:=by
  rw[BitVec.toNat_and,show(~~~BitVec.ofInt 64 (7:Int)).toNat=2^64-(7+1)from rfl,BitVec.ofInt_natCast,BitVec.toNat_ofNat,Nat.mod_eq_of_lt (by omega)]
  apply Nat.eq_of_testBit_eq
  intro i
  rw[Nat.testBit_and,Nat.testBit_two_pow_sub_succ (by decide)]
  rw[show a/8*8=2^3*(a/2^3)from by omega,Nat.testBit_two_pow_mul,Nat.testBit_div_two_pow]
  by_cases h3:3≤i
  ·have h7:Nat.testBit 7 i=false:=Nat.testBit_lt_two_pow (Nat.lt_of_lt_of_le (by decide:7<2^3) (Nat.pow_le_pow_right (by omega) h3))
   rw[h7,show i-3+3=i from by omega]
   by_cases h64:i<64
   ·simp[h3,h64]
   ·have:Nat.testBit a i=false:=Nat.testBit_lt_two_pow (Nat.lt_of_lt_of_le ha (Nat.pow_le_pow_right (by omega) (by omega)))
    simp[this]
  ·have:i=0∨i=1∨i=2:=by omega
   rcases this with rfl|rfl|rfl<;>simp<;>(intros;decide)
 show IntKind.i64.wrap ((BitVec.ofInt 64 (a:Int)&&&~~~BitVec.ofInt 64 (7:Int)).toNat:Int)=_
 rw[h1,uC (by omega)]
theorem Io (a:Nat):cn .i64 (a:Int) 3=((a/8:Nat):Int):=by
 simp only[cn,IntKind.bits]
 rw[Int.fdiv_eq_ediv_of_nonneg _ (by decide)];rfl
theorem Lo {x:Int}{r:Nat}(hr:r≤32):cn .u32 x (r:Int)=x/2^r:=by
 simp only[cn,IntKind.bits,Int.toNat_natCast]
 rw[Nat.min_eq_left hr,Int.fdiv_eq_ediv_of_nonneg _ (Int.le_of_lt (Int.pow_pos (by decide)))]
theorem Iq {k:Nat}(hk:k≤31):ba .u32 1 (k:Int)=((2^k:Nat):Int):=by
 have:(2:Nat)^k<2^32:=Nat.pow_lt_pow_right (by omega) (by omega)
 simp only[ba,IntKind.bits,Int.toNat_natCast,Nat.min_eq_left (show k≤32 by omega),Int.one_mul]
 rw[show(2:Int)^k=((2^k:Nat):Int)from by push_cast;rfl]
 generalize(2:Nat)^k=z at*
 simp[IntKind.wrap,IntKind.bits,IntKind.signed];omega
theorem I6 {x k:Nat}(hx:x<2^32)(hk:k≤31):cm .and .u32 (x:Int) ((((2^k:Nat):Int)-1)%4294967296)=((x%2^k:Nat):Int):=by
 have hp:0<2^k:=Nat.pow_pos (by omega)
 have:(2:Nat)^k<2^32:=Nat.pow_lt_pow_right (by omega) (by omega)
 have e:(((2^k:Nat):Int)-1)%4294967296=((2^k-1:Nat):Int):=by
  generalize(2:Nat)^k=z at*
  omega
 rw[e,N6 hx (by omega),Nat.and_two_pow_sub_one_eq_mod]
def mg (xs:List Int)(a:Nat)(n:Int):Int×Nat×Int:=
 if¬(0≤n∧n≤24)then(0,a,1)else if(8*xs.length:Int)-a<n then(0,a,50)else(num (((unpack xs).drop a).take n.toNat),a+n.toNat,0)
theorem Ag {xs:List Int}{a:Nat}{g c:Nat}(hb:xs.length≤70368744177664)(ha:a≤8*xs.length){K Kp:AV→AH→Prop}
 (h:K (.int .i64 0) (Iz xs ((a+7)/8*8:Nat) g c)):aa Try.prog 59 [.ptr 0 0 0] (Iz xs a g c) K Kp:=by
 refine O8 (fun _=>[0]) [] rfl ?_
 repeat(refine And.intro (by first|exact rfl|omega) ?_)
 have e:=Bz (a:=a+7) (by omega)
 rw[←e]at h
 exact h
theorem JW {xs:List Int}{a:Nat}{n:Int}{g c:Nat}(hb:xs.length≤70368744177664)(ha:a≤8*xs.length)(AR:∀x∈xs,0≤x∧x<256){Kp}:
 aa Try.prog 65 [.ptr 0 0 0,.int .i64 n] (Iz xs a g c)
  (fun r M=>r=.aL [.int .u32 (mg xs a n).1,.int .i64 (mg xs a n).2.2]∧M=Iz xs (mg xs a n).2.1 g c) Kp:=by
 refine PJ (fun _=>[0,1]) [] rfl ?_
 refine Qs ?_
 refine Az fun b CN=>?_
 rw[Fh (by omega)]at CN
 have CH:b=true↔0≤n∧n≤24:=by
  rw[CN];simp only[yz,decide_eq_true_eq]
  exact⟨fun h=>⟨h.1,h.2.1⟩,fun h=>⟨h.1,h.2,Int.pow_pos (by decide)⟩⟩
 clear CN
 refine Qs ?_
 refine And.intro (fun h1=>?_) (fun h1=>?_)
 ·have KT:b=false:=by simpa using h1
  subst KT
  have e:mg xs a n=(0,a,1):=by simp only[mg];rw[if_pos (fun h=>by simpa using CH.2 h)]
  rw[e]
  refine Qs ?_
  exact rfl
 ·have KT:b=true:=by simpa using h1
  subst KT
  have hn:=CH.1 rfl
  refine Qs ?_
  refine GU hb (by omega) ?_
  refine Qs ?_
  refine And.intro (fun h2=>?_) (fun h2=>?_)
  ·simp only[decide_eq_true_eq]at h2
   have e:mg xs a n=(0,a,50):=by simp only[mg];rw[if_neg (fun h=>h hn),if_pos h2]
   rw[e]
   refine Qs ?_
   exact rfl
  ·simp only[decide_eq_false_iff_not]at h2
   obtain⟨n,rfl⟩:=Int.eq_ofNat_of_zero_le hn.1
   have e:mg xs a n=(num (((unpack xs).drop a).take n),a+n,0):=by simp only[mg];rw[if_neg (fun h=>h hn),if_neg h2];rfl
   rw[e]
   have hu:=bH xs
   refine Qs ?_
   refine WO.go (σ:=Nat) (fun ky=>ky≤n) (fun ky=>n-ky)
    (fun ky=>[(0,.ptr 0 0 0),(1,.int .i64 n),(6,.int .u32 (num (((unpack xs).drop a).take ky))),(7,.int .i64 ky)]) (fun ky=>Iz xs ((a+ky:Nat):Int) g c) 0 ae mixed (by kernel_rfl)
    (Nat.zero_le _) (aI rfl (aI rfl (aI rfl (aI rfl (trivial))))) (aI rfl (aI rfl (trivial))) (fun _=>rfl) (fun _=>rfl) (fun _=>⟨rfl,trivial,trivial⟩) ?_
   intro ky hg d
   have e7:=Kv (a:=a+ky) (by omega)
   have e3:=Io (a+ky)
   refine Qs ?_
   refine And.intro (fun hc=>?_) (fun hc=>?_)
   ·simp only[decide_eq_true_eq]at hc
    obtain⟨kN,Sj⟩:∃kN:Nat,kN=min (8-(a+ky)%8) (n-ky):=⟨_,rfl⟩
    have hk:min ((8:Int)-((((a+ky)%8:Nat)):Int)) ((n:Int)-(ky:Int))=(kN:Int):=by omega
    have Q8:(a+ky)/8<xs.length:=by omega
    refine Qs ?_
    rw[e7]
    refine Qs ?_
    rw[hk]
    refine Qs ?_
    rw[e3]
    refine Qs ?_
    refine RO.same (ky+kN) (by omega) (show n-(ky+kN)<n-ky by omega) (And.intro rfl (And.intro rfl (And.intro (congrArg (AV.int .u32) ?_) (And.intro rfl trivial)))) (And.intro ?_ (And.intro rfl trivial))
    ·show cm .or .u32 _ (ba .u32 (cm .and .u32 (cn .u32 (xs.getD ((a+ky)/8) 0%4294967296) (((a+ky)%8:Nat):Int)) ((ba .u32 1 ((kN:Nat):Int)-1)%4294967296)) (ky:Int))=_
     rw[Iq (by omega)]
     obtain⟨y,hy⟩:∃y:Nat,xs.getD ((a+ky)/8) 0=(y:Int)∧y<256:=by
      have hx:=AR _ (List.getElem_mem Q8)
      have:xs.getD ((a+ky)/8) 0=xs[(a+ky)/8]:=by simp[List.getD_eq_getElem?_getD,Q8]
      exact⟨xs[(a+ky)/8].toNat,by rw[this];omega,by omega⟩
     have hp:=piece xs AR (a+ky) kN Q8 (by omega)
     have ZW:(xs.getD ((a+ky)/8) 0)%4294967296=(y:Int):=by rw[hy.1];omega
     rw[ZW,Lo (by omega)]
     rw[hy.1]at hp
     have T7:∀r:Nat,(y:Int)/2^r=((y/2^r:Nat):Int):=fun r=>by push_cast;rfl
     rw[T7]at hp⊢
     have ZU:y/2^((a+ky)%8)<2^32:=Nat.lt_of_le_of_lt (Nat.div_le_self _ _) (by omega)
     rw[I6 ZU (by omega)]
     have hl:(((unpack xs).drop a).take ky).length=ky:=by simp;omega
     have h1:=gV (((unpack xs).drop a).take ky)
     rw[hl]at h1
     have h2:((y/2^((a+ky)%8)%2^kN:Nat):Int)<2^kN:=by exact_mod_cast Nat.mod_lt _ (Nat.pow_pos (by omega))
     rw[IM (num_nonneg _) h1 (by omega) h2 (by omega)]
     have h3:((unpack xs).drop a).take (ky+kN)=((unpack xs).drop a).take ky++((unpack xs).drop (a+ky)).take kN:=by
      rw[List.take_add,List.drop_drop]
     rw[h3,iV,hl,hp]
     push_cast
     rfl
    ·show AO.one true 0 (.cells [.sl 1 g 0 xs.length c,.int .i64 ((a+(ky+kN):Nat):Int)])=AO.one true 0 (.cells [.sl 1 g 0 xs.length c,.int .i64 (((a+ky:Nat):Int)+(kN:Int))])
     rw[show((a+(ky+kN):Nat):Int)=((a+ky:Nat):Int)+(kN:Int) by push_cast;omega]
   ·simp only[decide_eq_false_iff_not]at hc
    obtain rfl:ky=n:=by omega
    refine Qs ?_
    exact rfl
end Go.Proofs.Ytibadaomjlkoaaa
open Go.RowKit
namespace Go.Proofs.Ytibadaomjlkoaaa
set_option maxRecDepth 10000
end Go.Proofs.Ytibadaomjlkoaaa
open Go.RowKit
namespace Go.Proofs.Ytibadaomjlkoaaa
set_option maxRecDepth 10000
end Go.Proofs.Ytibadaomjlkoaaa
open Go.RowKit
namespace Go.Proofs.Ytibadaomjlkoaaa
set_option maxRecDepth 10000
theorem sf:∀k:Nat,bitsOf 0 k=List.replicate k false
 |0=>rfl
 |k+1=>by simp[bitsOf,sf k,List.replicate_succ]
end Go.Proofs.Ytibadaomjlkoaaa
open Go.RowKit
namespace Go.Proofs.Ytibadaomjlkoaaa
set_option maxRecDepth 10000
theorem Bq (row:List Bool):bp row=dZ ((row.length+7)/8) row:=by
 unfold bp
 split
 ·rename_i h
  rw[show(row.length+7)/8=row.length/8 from by omega];rfl
 ·rename_i h
  rw[show(row.length+7)/8=row.length/8+1 from by omega,lx]
  have:(rest row).take 8=rest row:=List.take_of_length_le (by rw[jF];omega)
  show dZ (row.length/8) row++[num (rest row)]=dZ (row.length/8) row++[num ((rest row).take 8)]
  rw[this]
end Go.Proofs.Ytibadaomjlkoaaa
open Go.RowKit
namespace Go.Proofs.Ytibadaomjlkoaaa
set_option maxRecDepth 10000
end Go.Proofs.Ytibadaomjlkoaaa
open Go.RowKit
namespace Go.Proofs.Ytibadaomjlkoaaa
theorem lN:∀(k:Nat)(l:List Bool),l.length≤k→bitsOf (num l) k=l++List.replicate (k-l.length) false
 |0,l,h=>by
  have:l=[]:=List.eq_nil_of_length_eq_zero (by omega)
  subst this;rfl
 |k+1,[],_=>by simp[num,sf]
 |k+1,b::l,h=>by
  have hl:l.length≤k:=by simpa using h
  have e1:(num (b::l))/2=num l:=by simp only[num];split<;>omega
  have e2:decide (num (b::l)%2=1)=b:=by
   simp only[num];cases b
   ·simp
   ·simp
  simp only[bitsOf,e1,e2,lN k l hl,List.cons_append,List.length_cons]
  rw[show k+1-(l.length+1)=k-l.length from by omega]
theorem lM (v:Int):∀(p q:Nat),bitsOf v (p+q)=bitsOf (v%2^p) p++bitsOf (v/2^p) q
 |0,q=>by simp[bitsOf]
 |p+1,q=>by
  have h1:v%2^(p+1)%2=v%2:=by
   rw[Int.pow_succ,Int.mul_comm];exact Int.emod_emod_of_dvd v (Int.dvd_mul_right 2 _)
  have h2:v%2^(p+1)/2=v/2%2^p:=by
   have hp:(0:Int)<2^p:=Int.pow_pos (by decide)
   have a1:=Int.emod_add_mul_ediv v (2^(p+1))
   have a2:=Int.emod_add_mul_ediv (v/2) (2^p)
   have a3:v/2/2^p=v/2^(p+1):=by rw[Int.ediv_ediv_of_nonneg (by decide),Int.pow_succ,Int.mul_comm]
   rw[a3]at a2
   have a4:(2:Int)^(p+1)*(v/2^(p+1))=2*(2^p*(v/2^(p+1))):=by rw[Int.pow_succ,Int.mul_comm (2^p) 2,Int.mul_assoc]
   rw[a4]at a1
   omega
  have h3:v/2^(p+1)=v/2/2^p:=by rw[Int.ediv_ediv_of_nonneg (by decide),Int.pow_succ,Int.mul_comm]
  rw[show p+1+q=(p+q)+1 from by omega]
  simp only[bitsOf,h1,h2,h3,List.cons_append,lM (v/2) p q]
theorem eP (a b:List Int):unpack (a++b)=unpack a++unpack b:=by simp[unpack]
theorem pL:∀(k:Nat)(l:List Bool),8*k≤l.length→unpack (dZ k l)=l.take (8*k)
 |0,l,_=>by simp[dZ,unpack]
 |k+1,l,h=>by
  have hl:(l.take 8).length=8:=by simp;omega
  rw[dZ,dN,lN 8 _ (by omega),pL k _ (by simp;omega),hl]
  simp only[Nat.sub_self,List.replicate_zero,List.append_nil]
  rw[show 8*(k+1)=8+8*k from by omega,List.take_add]
theorem jS (row:List Bool):∃k,k<8∧unpack (bp row)=row++List.replicate k false∧8*(bp row).length=row.length+k:=by
 have bW:=lr row
 have hr:=jF row
 have h1:unpack (aP row)=row.take (8*(row.length/8)):=pL _ _ (by omega)
 unfold bp
 split
 ·rename_i h
  refine⟨0,by omega,?_,by omega⟩
  rw[h1,List.take_of_length_le (by omega)];simp
 ·rename_i h
  refine⟨8-row.length%8,by omega,?_,by simp;omega⟩
  rw[eP,h1,dN,lN 8 _ (by omega),hr]
  show _++(rest row++List.replicate (8-row.length%8) false++[])=_
  rw[List.append_nil,←List.append_assoc]
  congr 1
  exact List.take_append_drop _ _
theorem sd (row:List Bool):∀x∈bp row,0≤x∧x<256:=by
 rw[Bq];exact tR _ _
theorem MQ (p q:List Bool)(v:Int)(n:Nat)(h0:0≤v)(h:v<2^n):num (((p++(bitsOf v n++q)).drop p.length).take n)=v:=by
 rw[List.drop_left,List.take_append_of_le_length (by rw[ai];exact Nat.le_refl _),List.take_of_length_le (by rw[ai];exact Nat.le_refl _),ly n v h0 h]
theorem ym {row:List Bool}{v:Int}{n:Nat}(hn:n≤24)(hv:v<2^n)(hr:row.length+n≤8388608):jt row v n=(row++bitsOf v n,0):=by
 have hm:yz v n=true:=by simp only[yz,decide_eq_true_eq];exact⟨by omega,by omega,by simpa using hv⟩
 simp only[jt,hm]
 rw[if_neg (by simp),if_neg (by omega)];rfl
end Go.Proofs.Ytibadaomjlkoaaa
open Go.RowKit
namespace Go.Proofs.Ytibadaomjlkoaaa
set_option maxRecDepth 10000
def ro (j g c:Nat)(xs:List Int)(a:Nat):AO:=.one true 0 (.cells [.sl j g 0 xs.length c,.int .i64 (a:Int)])
def rb (g c:Nat)(xs:List Int):AO:=.one true g (.ints .u8 xs c)
section
variable{M:AH}{K Kp:AV→AH→Prop}
theorem Ev {i j:Nat}(h:Nat.beq i j=false){l:List AV}(hl:AV.pE [.own i,.own j] l=true):(bL [.own i,.own j]&&AV.pE [.own i,.own j] l)=true:=by
 simp[bL,TE.fl,TE.i,h,hl]
theorem pX {M:AH}{i:Nat}{o:AO}(h:M[i]?=some o):M.set i o=M:=by
 obtain⟨h1,h2⟩:=List.getElem?_eq_some_iff.1 h
 rw[←h2,List.set_getElem_self]
theorem get_at {i j g c:Nat}{xs:List Int}{a a':Nat}{n v e:Int}(hi:M[i]?=some (ro j g c xs a))(hj:M[j]?=some (rb g c xs))(r6:Nat.beq i j=false)(hb:xs.length≤70368744177664)(ha:a≤8*xs.length)(AR:∀x∈xs,0≤x∧x<256)(hp:mg xs a n=(v,a',e))
 (h:K (.aL [.int .u32 v,.int .i64 e]) (M.set i (ro j g c xs a'))):aa Try.prog 65 [.ptr i 0 0,.int .i64 n] M K Kp:=by
 refine aa.lift [.own i,.own j] (JW (a:=a) (n:=n) (g:=g) (c:=c) (Kp:=fun _ _=>False) hb ha AR) rfl (Ev r6 rfl) ⟨⟨hi,rfl⟩,⟨hj,rfl⟩,trivial⟩ ⟨rfl,trivial,trivial⟩ ?_ (fun _ _ h=>h.elim)
 rw[hp]
 rintro r M' ⟨rfl,rfl⟩
 refine⟨⟨rfl,rfl,rfl⟩,?_⟩
 have e:M.set i (ro j g c xs a')=(M.set i (ro j g c xs a')).set j (rb g c xs)++[]:=by
  rw[List.append_nil];exact(pX (show(M.set i _)[j]?=some (rb g c xs) by rw[List.getElem?_set_ne (Nat.ne_of_beq_eq_false r6)];exact hj)).symm
 rw[e]at h
 exact h
theorem Gz {i j g c:Nat}{xs:List Int}{a:Nat}(hi:M[i]?=some (ro j g c xs a))(hj:M[j]?=some (rb g c xs))(r6:Nat.beq i j=false)(hb:xs.length≤70368744177664)(ha:a≤8*xs.length)
 (h:K (.int .i64 0) (M.set i (ro j g c xs ((a+7)/8*8)))):aa Try.prog 59 [.ptr i 0 0] M K Kp:=by
 refine aa.lift [.own i,.own j] (Ag (a:=a) (g:=g) (c:=c) (K:=fun r M=>r=.int .i64 0∧M=Iz xs ((a+7)/8*8:Nat) g c) (Kp:=fun _ _=>False) hb ha ⟨rfl,rfl⟩) rfl (Ev r6 rfl) ⟨⟨hi,rfl⟩,⟨hj,rfl⟩,trivial⟩ ⟨rfl,trivial,trivial⟩ ?_ (fun _ _ h=>h.elim)
 rintro r M' ⟨rfl,rfl⟩
 refine⟨⟨rfl,rfl,rfl⟩,?_⟩
 have e:M.set i (ro j g c xs ((a+7)/8*8))=(M.set i (ro j g c xs ((a+7)/8*8))).set j (rb g c xs)++[]:=by
  rw[List.append_nil];exact(pX (show(M.set i _)[j]?=some (rb g c xs) by rw[List.getElem?_set_ne (Nat.ne_of_beq_eq_false r6)];exact hj)).symm
 rw[e]at h
 exact h
theorem Te {i j:Nat}{o p:AO}(hi:M[i]?=some o)(hj:M[j]?=some p):M=(M.set i o).set j p++[]:=by
 rw[pX hi,pX hj,List.append_nil]
theorem VN {i j g c:Nat}{xs:List Int}{a:Nat}(hi:M[i]?=some (ro j g c xs a))(hj:M[j]?=some (rb g c xs))(r6:Nat.beq i j=false)
 (h:K (.int .i64 (a:Int)) M):aa Try.prog 36 [.ptr i 0 0] M K Kp:=by
 refine aa.lift [.own i,.own j] (N5 (xs:=xs) (a:=a) (g:=g) (c:=c) (K:=fun r M=>r=.int .i64 (a:Int)∧M=Iz xs (a:Int) g c) (Kp:=fun _ _=>False) ⟨rfl,rfl⟩) rfl (Ev r6 rfl) ⟨⟨hi,rfl⟩,⟨hj,rfl⟩,trivial⟩ ⟨rfl,trivial,trivial⟩ ?_ (fun _ _ h=>h.elim)
 rintro r M' ⟨rfl,rfl⟩
 refine⟨⟨rfl,rfl,rfl⟩,?_⟩
 rw[Te hi hj]at h
 exact h
theorem Wv {t:List TE}{m:Nat}{k:IntKind}{xs:List Int}{c co:Nat}(h:c≤co):eG t m 0 (.ints k xs c) (.ints k xs co):=eG.ints (by omega) (by simp)
theorem Qw {i g n c co:Nat}{own:Bool}{xs:List Int}(hi:M[i]?=some (.one own g (.ints .u8 xs co)))(hn:n=xs.length)(hb:xs.length≤70368744177664)
 (h:∀g' c',xs.length≤c'→K (.ptr (M.length+1) 0 0) (M++[rb g' c' xs,ro M.length g' c' xs 0])):
 aa Try.prog 30 [.sl i g 0 n c] M K Kp:=by
 subst hn
 refine aa.lift [.eI i g 0] (I0 (xs:=xs) (c0:=c) (c:=co) (Kp:=fun _ _=>False) hb) rfl rfl ⟨⟨_,_,_,rfl,ak hi,Wv (Nat.le_refl _)⟩,trivial⟩ ⟨trivial,trivial⟩ ?_ (fun _ _ h=>h.elim)
 rintro r M' ⟨g',c',rfl,rfl,r8⟩
 exact⟨⟨rfl,rfl⟩,h g' c' r8⟩
end
end Go.Proofs.Ytibadaomjlkoaaa
