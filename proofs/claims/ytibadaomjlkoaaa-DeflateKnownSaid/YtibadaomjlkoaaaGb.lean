import Derived.Test.YtibadaomjlkoaaaTb
import Derived.Laws.Strings
import Derived.Test.YtibadaomjlkoaaaG2
import Derived.Test.YtibadaomjlkoaaaAb18
import Derived.Test.YtibadaomjlkoaaaAb20
set_option linter.unusedVariables false
set_option linter.unusedSimpArgs false
open Go.RowKit
namespace Go.Proofs.Ytibadaomjlkoaaa
theorem ij (M:AH):iV M []:=by cases M<;>trivial
theorem Ln {c l off sz:Nat}(h:c≠l):cH c l off sz=off+l*sz:=by unfold cH;rw[if_neg h]
theorem OK {c l off:Nat}(h:c≠l):cH c l off 1=off+l:=by unfold cH;rw[if_neg h,Nat.mul_one]
theorem aa.WM {P:Program}{g:Nat}{args:List AV}{v:AV}{M:AH}{K Kp:AV→AH→Prop}(h:aa P g args [] (fun r M=>r=v∧M=[]) (fun _ _=>False))(ha:∀m,AV.qZ [] m args=args)(hw:AV.oT [] args=true)(hv:∀m,v.rn [] m=v)(hK:K v M):aa P g args M K Kp:=by
 refine aa.lift [] h (ha _) (by simp[bB,hw]) trivial trivial ?_ (fun _ _ h=>h.elim)
 rintro r M' ⟨rfl,rfl⟩
 rw[hv]
 rw[←List.append_nil M]at hK
 exact⟨rfl,hK⟩
theorem vt (xs:List Int):(mE xs).toList=xs.map (fun n=>UInt8.ofNat n.toNat):=by
 have key:∀(l:List Int)(r:ByteArray),(l.foldl (fun r n=>r.push (UInt8.ofNat n.toNat)) r).data.toList=r.data.toList++l.map (fun n=>UInt8.ofNat n.toNat):=by
  intro l
  induction l with
  |nil=>intro r;simp
  |cons x l ih=>intro r;rw[List.foldl_cons,ih];simp
 rw[ByteArray.toList_eq]
 have:=key xs ByteArray.empty
 simpa[mE]using this
theorem Fe {xs:List Int}(l:List UInt8)(h:xs.map (fun n=>UInt8.ofNat n.toNat)=l):((mE xs).toList==(ByteArray.mk l.toArray).toList)=true:=by
 rw[vt,ByteArray.toList_mk,h];simp
end Go.Proofs.Ytibadaomjlkoaaa
open Go.RowKit
namespace Go.Proofs.Ytibadaomjlkoaaa
def num:List Bool→Int
 |[]=>0
 |b::l=>(if b then 1 else 0)+2*num l
def bitsOf:Int→Nat→List Bool
 |_,0=>[]
 |v,n+1=>decide (v%2=1)::bitsOf (v/2) n
def dL:Nat→List Bool→List Int
 |0,_=>[]
 |k+1,l=>num (l.take 8)::dL k (l.drop 8)
def aN (row:List Bool):List Int:=dL (row.length/8) row
def rest (row:List Bool):List Bool:=row.drop (8*(row.length/8))
theorem num_nonneg:∀l:List Bool,0≤num l
 |[]=>Int.le_refl 0
 |b::l=>by have:=num_nonneg l;simp only[num];split<;>omega
theorem gy:∀l:List Bool,num l<2^l.length
 |[]=>by simp[num]
 |b::l=>by
  have:=gy l
  simp only[num,List.length_cons,Int.pow_succ]
  split<;>omega
theorem iC:∀l l':List Bool,num (l++l')=num l+2^l.length*num l'
 |[],l'=>by simp[num]
 |b::l,l'=>by
  simp only[List.cons_append,num,iC l l',List.length_cons,Int.pow_succ,Int.mul_add]
  have:2^l.length*2*num l'=2*(2^l.length*num l'):=by rw[Int.mul_comm (2^l.length) 2,Int.mul_assoc]
  omega
theorem ai:∀(n:Nat)(v:Int),(bitsOf v n).length=n
 |0,v=>rfl
 |n+1,v=>by simp[bitsOf,ai n]
theorem kQ:∀(n:Nat)(v:Int),0≤v→v<2^n→num (bitsOf v n)=v
 |0,v,h1,h2=>by simp[bitsOf,num]at*;omega
 |n+1,v,h1,h2=>by
  rw[Int.pow_succ]at h2
  simp only[bitsOf,num,decide_eq_true_eq]
  rw[kQ n (v/2) (by omega) (by omega)]
  split<;>omega
theorem pA:∀(k:Nat)(l:List Bool),(dL k l).length=k
 |0,l=>rfl
 |k+1,l=>by simp[dL,pA k]
theorem kO (row:List Bool):(aN row).length=row.length/8:=pA _ _
theorem jj (row:List Bool):(rest row).length=row.length%8:=by simp[rest];omega
theorem sY:∀(k:Nat)(l:List Bool),∀x∈dL k l,0≤x∧x<256
 |0,l,x,h=>by cases h
 |k+1,l,x,h=>by
  simp only[dL,List.mem_cons]at h
  rcases h with rfl|h
  ·refine⟨num_nonneg _,Int.lt_of_lt_of_le (gy _) ?_⟩
   have:(l.take 8).length≤8:=by simp;omega
   calc(2:Int)^(l.take 8).length≤2^8:=by exact_mod_cast Nat.pow_le_pow_right (by omega) this
    _=256:=by decide
  ·exact sY k _ x h
theorem kP:∀(k j:Nat)(l:List Bool),dL (k+j) l=dL k l++dL j (l.drop (8*k))
 |0,j,l=>by simp[dL]
 |k+1,j,l=>by
  rw[show k+1+j=(k+j)+1 from by omega]
  simp only[dL,kP k j,List.drop_drop,List.cons_append]
  rw[show 8+8*k=8*(k+1)from by omega]
theorem sX:∀(k:Nat)(l l':List Bool),8*k≤l.length→dL k (l++l')=dL k l
 |0,l,l',_=>rfl
 |k+1,l,l',h=>by
  simp only[dL]
  rw[List.take_append_of_le_length (by omega),List.drop_append_of_le_length (by omega),sX k _ _ (by simp;omega)]
def z6 (xs:List Int)(a n:Int):Nat→List Int×Int×Int
 |0=>(xs,a,n)
 |k+1=>z6 (xs++[a%256]) (cf .u32 a 8) (n-8) k
theorem Fm (l:List Bool)(h:8≤l.length):cf .u32 (num l) 8=num (l.drop 8)∧num l%256=num (l.take 8):=by
 have h1:=iC (l.take 8) (l.drop 8)
 rw[List.take_append_drop]at h1
 have h2:(l.take 8).length=8:=by simp;omega
 have h3:=gy (l.take 8)
 have h4:=num_nonneg (l.take 8)
 rw[h2]at h1 h3
 have e:(2:Int)^8=256:=by decide
 rw[e]at h1 h3
 have h5:cf .u32 (num l) 8=num l/256:=by
  simp only[cf,IntKind.bits]
  rw[Int.fdiv_eq_ediv_of_nonneg _ (by decide)];rfl
 constructor
 ·rw[h5];omega
 ·omega
theorem z5:∀(k:Nat)(xs:List Int)(l:List Bool),k=l.length/8→z6 xs (num l) l.length k=(xs++dL k l,num (l.drop (8*k)),((l.length%8:Nat):Int))
 |0,xs,l,h=>by
  simp only[z6,dL,List.append_nil,Nat.mul_zero,List.drop_zero,Prod.mk.injEq,true_and];omega
 |k+1,xs,l,h=>by
  obtain⟨h1,h2⟩:=Fm l (by omega)
  have h3:=z5 k (xs++[num (l.take 8)]) (l.drop 8) (by simp;omega)
  simp only[z6,h1,h2]
  have:((l.length:Nat):Int)-8=((l.drop 8).length:Nat):=by simp;omega
  rw[this,h3]
  simp only[dL,List.append_assoc,List.singleton_append,List.drop_drop,Prod.mk.injEq,true_and]
  refine⟨by congr 2;omega,by simp;omega⟩
theorem OJ {a b:Nat}(ha:a<2^32)(hb:b<2^32):b8 .or .u32 (a:Int) (b:Int)=((a|||b:Nat):Int):=by
 have h1:(BitVec.ofInt 32 (a:Int)|||BitVec.ofInt 32 (b:Int)).toNat=a|||b:=by
  rw[BitVec.toNat_or,BitVec.ofInt_natCast,BitVec.ofInt_natCast,BitVec.toNat_ofNat,BitVec.toNat_ofNat,Nat.mod_eq_of_lt ha,Nat.mod_eq_of_lt hb]
 have h2:(a|||b)<2^32:=Nat.or_lt_two_pow ha hb
 have h3:IntKind.u32.wrap ((a|||b:Nat):Int)=((a|||b:Nat):Int):=by
  generalize(a|||b)=z at*
  simp[IntKind.wrap,IntKind.bits,IntKind.signed];omega
 show IntKind.u32.wrap ((BitVec.ofInt 32 (a:Int)|||BitVec.ofInt 32 (b:Int)).toNat:Int)=_
 rw[h1,h3]
theorem HD {a v:Int}{n k:Nat}(Md:0≤a)(ha:a<2^n)(Qq:0≤v)(hv:v<2^k)(ZU:n+k≤32):b8 .or .u32 a (bC .u32 v n)=a+2^n*v:=by
 obtain⟨a,rfl⟩:=Int.eq_ofNat_of_zero_le Md
 obtain⟨v,rfl⟩:=Int.eq_ofNat_of_zero_le Qq
 have qG:a<2^n:=by exact_mod_cast ha
 have pV:v<2^k:=by exact_mod_cast hv
 have aZ:v*2^n<2^32:=by
  calc v*2^n<2^k*2^n:=Nat.mul_lt_mul_of_pos_right pV (Nat.pow_pos (by omega))
   _=2^(k+n):=(Nat.pow_add 2 k n).symm
   _≤2^32:=Nat.pow_le_pow_right (by omega) (by omega)
 have V5:a<2^32:=Nat.lt_of_lt_of_le qG (Nat.pow_le_pow_right (by omega) (by omega))
 have e1:bC .u32 (v:Int) n=((v*2^n:Nat):Int):=by
  simp only[bC,IntKind.bits,Int.toNat_natCast,Nat.min_eq_left (show n≤32 by omega)]
  have:(v:Int)*2^n=((v*2^n:Nat):Int):=by push_cast;rfl
  rw[this]
  simp[IntKind.wrap,IntKind.bits,IntKind.signed]
  omega
 rw[e1]
 have Qw:a|||v*2^n=v*2^n+a:=by
  rw[Nat.or_comm,Nat.mul_comm,Nat.two_pow_add_eq_or_of_lt qG]
 rw[OJ V5 aZ,Qw]
 push_cast
 rw[Int.mul_comm,Int.add_comm]
theorem H2 (row:List Bool)(v:Int)(k:Nat)(hk:k≤24)(h0:0≤v)(hv:v<2^k):
 z6 (aN row) (b8 .or .u32 (num (rest row)) (bC .u32 v ((row.length%8:Nat):Int))) (((row.length%8:Nat):Int)+k) ((row.length%8+k)/8)=
  (aN (row++bitsOf v k),num (rest (row++bitsOf v k)),(((row++bitsOf v k).length%8:Nat):Int)):=by
 have hr:=jj row
 have hn:=gy (rest row)
 rw[hr]at hn
 rw[HD (num_nonneg _) hn h0 hv (by omega)]
 have e1:num (rest row)+2^(row.length%8)*v=num (rest row++bitsOf v k):=by
  rw[iC,hr,kQ k v h0 hv]
 have hl:(rest row++bitsOf v k).length=row.length%8+k:=by simp[hr,ai]
 have e2:((row.length%8:Nat):Int)+k=((rest row++bitsOf v k).length:Nat):=by rw[hl];push_cast;rfl
 rw[e1,e2,z5 _ _ _ (by rw[hl])]
 have ov:row.length=8*(row.length/8)+row.length%8:=by omega
 have hL:(row++bitsOf v k).length/8=row.length/8+(row.length%8+k)/8:=by simp[ai];omega
 have hd:(row++bitsOf v k).drop (8*(row.length/8))=rest row++bitsOf v k:=by
  rw[List.drop_append_of_le_length (by omega)];rfl
 simp only[Prod.mk.injEq]
 refine⟨?_,?_,?_⟩
 ·unfold aN
  rw[hL,kP,hd,sX (row.length/8) row _ (by omega)]
 ·unfold rest
  rw[hL,Nat.mul_add,←List.drop_drop,hd];rfl
 ·rw[hl];simp[ai]
end Go.Proofs.Ytibadaomjlkoaaa
open Go.RowKit
namespace Go.Proofs.Ytibadaomjlkoaaa
set_option maxRecDepth 10000
theorem zV {M:AH}{K Kp:AV→AH→Prop}{v n:Int}(h:∀b:Bool,(b=true↔(0≤n∧n≤24∧cf .u32 v n=0))→K (.bo b) M):aa Try.prog 67 [.int .u32 v,.int .i64 n] M K Kp:=by
 refine NA (fun _=>[]) [] rfl ?_
 refine And.intro (fun h1=>And.intro (fun h2=>And.intro ?_ ?_) (fun h2=>?_)) (fun h1=>?_)
 all_goals simp only[decide_eq_true_eq,decide_eq_false_iff_not]at h1
 ·exact h1
 all_goals refine h _ ?_
 ·simp only[decide_eq_true_eq]at*
  simp only[*,true_and]
 ·simp only[decide_eq_true_eq,decide_eq_false_iff_not]at*
  simp only[*,false_and,and_false];simp
 ·simp only[h1,false_and];simp
def wr (g:Nat)(c:Nat)(xs:List Int)(a n:Int):AH:=[.one true 0 (.cells [.sl 1 g 0 xs.length c,.int .u32 a,.int .i64 n]),.one true g (.ints .u8 xs c)]
def xY (v n:Int):Bool:=decide (0≤n∧n≤24∧v<2^n.toNat)
def iX (row:List Bool)(v n:Int):List Bool×Int:=
 if xY v n=false then(row,1)else if row.length+n>8388608 then(row,2)else(row++bitsOf v n.toNat,0)
theorem Eg {v n:Int}(hv:0≤v):(0≤n∧n≤24∧cf .u32 v n=0)↔xY v n=true:=by
 simp only[xY,decide_eq_true_eq]
 constructor
 ·rintro⟨h1,h2,h3⟩
  refine⟨h1,h2,?_⟩
  simp only[cf,IntKind.bits]at h3
  rw[Nat.min_eq_left (by omega),Int.fdiv_eq_ediv_of_nonneg _ (Int.le_of_lt (Int.pow_pos (by decide)))]at h3
  have hp:(0:Int)<2^n.toNat:=Int.pow_pos (by decide)
  exact Int.lt_of_not_ge fun Iy=>by
   have:=Int.ediv_le_ediv hp Iy
   rw[Int.ediv_self (by omega)]at this
   omega
 ·rintro⟨h1,h2,h3⟩
  refine⟨h1,h2,?_⟩
  simp only[cf,IntKind.bits]
  rw[Nat.min_eq_left (by omega),Int.fdiv_eq_ediv_of_nonneg _ (Int.le_of_lt (Int.pow_pos (by decide)))]
  exact Int.ediv_eq_zero_of_lt hv h3
end Go.Proofs.Ytibadaomjlkoaaa
open Go.RowKit
namespace Go.Proofs.Ytibadaomjlkoaaa
set_option maxRecDepth 10000
theorem uB {xs:List Int}{c0 c:Nat}(hb:xs.length≤70368744177664){Kp}:
 aa Try.prog 49 [.sl 0 0 0 xs.length c0] [.one false 0 (.ints .u8 xs c)]
  (fun r M=>∃g' c',r=.sl 1 g' 0 xs.length c'∧M=[.one false 0 (.ints .u8 xs c),.one true g' (.ints .u8 xs c')]∧xs.length≤c') Kp:=by
 refine aa.eU ?_
 refine ND (fun _=>[]) [] rfl ?_
 refine And.intro rfl ?_
 intro b hb
 refine And.intro (fun h1=>?_) (fun h1=>?_)
 ·obtain⟨rfl,rfl⟩:=hb (by simpa using h1)
  exact⟨_,_,Vw.nil (x:=.ints .u8 [] 0) ⟨rfl,rfl⟩,0,0,rfl,rfl,Nat.le_refl _⟩
 ·repeat(refine And.intro (by first|exact rfl|exact Nat.le_of_ble_eq_true rfl|omega|(dsimp only;omega)|(refine⟨rfl,rfl,rfl,Nat.le_refl _,Nat.le_refl _⟩)) ?_)
  intro ys rP
  have U1:ys=xs:=by rw[rP];simp
  subst U1
  repeat(refine And.intro (by first|exact rfl|omega|(dsimp only;omega)) ?_)
  intro c1 tW
  refine⟨_,_,Vw.refl _ _,1,c1,?_,rfl,by omega⟩
  show AV.sl 1 1 0 (0+ys.length) c1=_
  rw[Nat.zero_add]
def bg (row:List Bool):List Int:=if row.length%8=0 then aN row else aN row++[num (rest row)]
def Hq (xs:List Int)(at_:Int)(g c:Nat):AH:=[.one true 0 (.cells [.sl 1 g 0 xs.length c,.int .i64 at_]),.one true g (.ints .u8 xs c)]
theorem HM {xs:List Int}{c0 c:Nat}(hb:xs.length≤70368744177664){Kp}:
 aa Try.prog 30 [.sl 0 0 0 xs.length c0] [.one false 0 (.ints .u8 xs c)]
  (fun r M=>∃g' c',r=.ptr 2 0 0∧M=[.one false 0 (.ints .u8 xs c),.one true g' (.ints .u8 xs c'),.one true 0 (.cells [.sl 1 g' 0 xs.length c',.int .i64 0])]∧xs.length≤c') Kp:=by
 refine NH (fun _=>[]) [] rfl ?_
 refine aa.mono (uB (Kp:=fun _ _=>False) hb) ?_ (fun _ _ h=>h.elim)
 rintro r M ⟨g',c',rfl,rfl,rr⟩
 exact⟨g',c',rfl,rfl,rr⟩
theorem FR {xs:List Int}{a:Int}{g c:Nat}(hb:xs.length≤70368744177664)(ha:0≤a∧a≤8*xs.length){K Kp:AV→AH→Prop}
 (h:K (.int .i64 (8*xs.length-a)) (Hq xs a g c)):aa Try.prog 89 [.ptr 0 0 0] (Hq xs a g c) K Kp:=by
 refine Ny (fun _=>[0]) [] rfl ?_
 repeat(refine And.intro (by first|exact rfl|omega) ?_)
 exact h
theorem Mu {xs:List Int}{a:Int}{g c:Nat}{K Kp:AV→AH→Prop}
 (h:K (.int .i64 a) (Hq xs a g c)):aa Try.prog 36 [.ptr 0 0 0] (Hq xs a g c) K Kp:=by
 refine NG (fun _=>[0]) [] rfl ?_
 repeat(refine And.intro (by first|exact rfl|omega) ?_)
 exact h
end Go.Proofs.Ytibadaomjlkoaaa
open Go.RowKit
namespace Go.Proofs.Ytibadaomjlkoaaa
set_option maxRecDepth 10000
def unpack (xs:List Int):List Bool:=xs.flatMap fun b=>bitsOf b 8
theorem dE (x:Int)(xs:List Int):unpack (x::xs)=bitsOf x 8++unpack xs:=rfl
theorem bw:∀xs:List Int,(unpack xs).length=8*xs.length
 |[]=>rfl
 |x::xs=>by simp only[dE,List.length_append,ai,bw xs,List.length_cons];omega
theorem qS:∀(k:Nat)(xs:List Int),(unpack xs).drop (8*k)=unpack (xs.drop k)
 |0,xs=>rfl
 |k+1,[]=>by simp[unpack]
 |k+1,x::xs=>by
  rw[dE,show 8*(k+1)=(bitsOf x 8).length+8*k from by rw[ai];omega,List.drop_append,show(bitsOf x 8).length+8*k-(bitsOf x 8).length=8*k from by omega,qS k xs,List.drop_eq_nil_of_le (by omega)];simp
theorem zQ (l:List Bool)(k:Nat)(h:k≤l.length):num (l.drop k)=num l/2^k∧num (l.take k)=num l%2^k:=by
 have h1:=iC (l.take k) (l.drop k)
 rw[List.take_append_drop]at h1
 have h2:(l.take k).length=k:=by simp;omega
 have h3:=gy (l.take k)
 have h4:=num_nonneg (l.take k)
 rw[h2]at h1 h3
 have hp:(0:Int)<2^k:=Int.pow_pos (by decide)
 constructor
 ·rw[h1,Int.add_mul_ediv_left _ _ (by omega),Int.ediv_eq_zero_of_lt h4 h3,Int.zero_add]
 ·rw[h1,Int.add_mul_emod_self_left,Int.emod_eq_of_lt h4 h3]
theorem piece (xs:List Int)(z9:∀x∈xs,0≤x∧x<256)(a k:Nat)(ha:a/8<xs.length)(hk:k≤8-a%8):
 num (((unpack xs).drop a).take k)=(xs.getD (a/8) 0/2^(a%8))%2^k:=by
 have hx:=z9 _ (List.getElem_mem ha)
 have e1:(unpack xs).drop a=((unpack xs).drop (8*(a/8))).drop (a%8):=by rw[List.drop_drop];congr 1;omega
 rw[e1,qS,List.drop_eq_getElem_cons ha,dE,List.drop_append_of_le_length (by rw[ai];omega),List.take_append_of_le_length (by simp[ai];omega)]
 rw[(zQ _ k (by simp[ai];omega)).2,(zQ _ (a%8) (by rw[ai];omega)).1,kQ 8 _ hx.1 (by have:=hx.2;omega)]
 rw[show xs.getD (a/8) 0=xs[a/8]from by simp[List.getD_eq_getElem?_getD,ha]]
theorem Mv {a b:Nat}(ha:a<2^32)(hb:b<2^32):b8 .and .u32 (a:Int) (b:Int)=((a&&&b:Nat):Int):=by
 have h1:(BitVec.ofInt 32 (a:Int)&&&BitVec.ofInt 32 (b:Int)).toNat=a&&&b:=by
  rw[BitVec.toNat_and,BitVec.ofInt_natCast,BitVec.ofInt_natCast,BitVec.toNat_ofNat,BitVec.toNat_ofNat,Nat.mod_eq_of_lt ha,Nat.mod_eq_of_lt hb]
 have h2:(a&&&b)<2^32:=Nat.and_lt_two_pow _ hb
 have h3:IntKind.u32.wrap ((a&&&b:Nat):Int)=((a&&&b:Nat):Int):=by
  generalize(a&&&b)=z at*
  simp[IntKind.wrap,IntKind.bits,IntKind.signed];omega
 show IntKind.u32.wrap ((BitVec.ofInt 32 (a:Int)&&&BitVec.ofInt 32 (b:Int)).toNat:Int)=_
 rw[h1,h3]
theorem tM {z:Nat}(h:z<2^63):IntKind.i64.wrap (z:Int)=(z:Int):=by
 simp[IntKind.wrap,IntKind.bits,IntKind.signed];omega
theorem Jk {a:Nat}(ha:a<2^62):b8 .and .i64 (a:Int) 7=((a%8:Nat):Int):=by
 have h1:(BitVec.ofInt 64 (a:Int)&&&BitVec.ofInt 64 (7:Int)).toNat=a%8:=by
  rw[BitVec.toNat_and,show BitVec.ofInt 64 (7:Int)=7#64 from rfl,BitVec.ofInt_natCast,BitVec.toNat_ofNat,Nat.mod_eq_of_lt (by omega)]
  exact Nat.and_two_pow_sub_one_eq_mod a 3
 show IntKind.i64.wrap ((BitVec.ofInt 64 (a:Int)&&&BitVec.ofInt 64 (7:Int)).toNat:Int)=_
 rw[h1,tM (by omega)]
theorem AM {a:Nat}(ha:a<2^62):b8 .andNot .i64 (a:Int) 7=((a/8*8:Nat):Int):=by
 have h1:(BitVec.ofInt 64 (a:Int)&&&~~~BitVec.ofInt 64 (7:Int)).toNat=a/8*8:=by
  rw[BitVec.toNat_and,show(~~~BitVec.ofInt 64 (7:Int)).toNat=2^64-(7+1)from rfl,BitVec.ofInt_natCast,BitVec.toNat_ofNat,Nat.mod_eq_of_lt (by omega)]
  apply Nat.eq_of_testBit_eq
  intro i
  rw[Nat.testBit_and,Nat.testBit_two_pow_sub_succ (by decide)]
  rw[show a/8*8=2^3*(a/2^3)from by omega,Nat.testBit_two_pow_mul,Nat.testBit_div_two_pow]
  by_cases h3:3≤i
  ·have h7:Nat.testBit 7 i=false:=Nat.testBit_lt_two_pow (Nat.lt_of_lt_of_le (by decide:7<2^3) (Nat.pow_le_pow_right (by omega) h3))
   rw[h7,show i-3+3=i from by omega]
   by_cases Zn:i<64
   ·simp[h3,Zn]
   ·have:Nat.testBit a i=false:=Nat.testBit_lt_two_pow (Nat.lt_of_lt_of_le ha (Nat.pow_le_pow_right (by omega) (by omega)))
    simp[this]
  ·have:i=0∨i=1∨i=2:=by omega
   rcases this with rfl|rfl|rfl<;>simp<;>(intros;decide)
 show IntKind.i64.wrap ((BitVec.ofInt 64 (a:Int)&&&~~~BitVec.ofInt 64 (7:Int)).toNat:Int)=_
 rw[h1,tM (by omega)]
theorem Hh (a:Nat):cf .i64 (a:Int) 3=((a/8:Nat):Int):=by
 simp only[cf,IntKind.bits]
 rw[Int.fdiv_eq_ediv_of_nonneg _ (by decide)];rfl
theorem Ka {x:Int}{r:Nat}(hr:r≤32):cf .u32 x (r:Int)=x/2^r:=by
 simp only[cf,IntKind.bits,Int.toNat_natCast]
 rw[Nat.min_eq_left hr,Int.fdiv_eq_ediv_of_nonneg _ (Int.le_of_lt (Int.pow_pos (by decide)))]
theorem Hj {k:Nat}(hk:k≤31):bC .u32 1 (k:Int)=((2^k:Nat):Int):=by
 have:(2:Nat)^k<2^32:=Nat.pow_lt_pow_right (by omega) (by omega)
 simp only[bC,IntKind.bits,Int.toNat_natCast,Nat.min_eq_left (show k≤32 by omega),Int.one_mul]
 rw[show(2:Int)^k=((2^k:Nat):Int)from by push_cast;rfl]
 generalize(2:Nat)^k=z at*
 simp[IntKind.wrap,IntKind.bits,IntKind.signed];omega
theorem HS {x k:Nat}(hx:x<2^32)(hk:k≤31):b8 .and .u32 (x:Int) ((((2^k:Nat):Int)-1)%4294967296)=((x%2^k:Nat):Int):=by
 have hp:0<2^k:=Nat.pow_pos (by omega)
 have:(2:Nat)^k<2^32:=Nat.pow_lt_pow_right (by omega) (by omega)
 have e:(((2^k:Nat):Int)-1)%4294967296=((2^k-1:Nat):Int):=by
  generalize(2:Nat)^k=z at*
  omega
 rw[e,Mv hx (by omega),Nat.and_two_pow_sub_one_eq_mod]
def lH (xs:List Int)(a:Nat)(n:Int):Int×Nat×Int:=
 if¬(0≤n∧n≤24)then(0,a,1)else if(8*xs.length:Int)-a<n then(0,a,50)else(num (((unpack xs).drop a).take n.toNat),a+n.toNat,0)
theorem zC {xs:List Int}{a:Nat}{g c:Nat}(hb:xs.length≤70368744177664)(ha:a≤8*xs.length){K Kp:AV→AH→Prop}
 (h:K (.int .i64 0) (Hq xs ((a+7)/8*8:Nat) g c)):aa Try.prog 59 [.ptr 0 0 0] (Hq xs a g c) K Kp:=by
 refine NC (fun _=>[0]) [] rfl ?_
 repeat(refine And.intro (by first|exact rfl|omega) ?_)
 have e:=AM (a:=a+7) (by omega)
 rw[←e]at h
 exact h
theorem IL {xs:List Int}{a:Nat}{n:Int}{g c:Nat}(hb:xs.length≤70368744177664)(ha:a≤8*xs.length)(z9:∀x∈xs,0≤x∧x<256){Kp}:
 aa Try.prog 65 [.ptr 0 0 0,.int .i64 n] (Hq xs a g c)
  (fun r M=>r=.aG [.int .u32 (lH xs a n).1,.int .i64 (lH xs a n).2.2]∧M=Hq xs (lH xs a n).2.1 g c) Kp:=by
 refine Ob (fun _=>[0,1]) [] rfl ?_
 refine Qs ?_
 refine zV fun b B1=>?_
 rw[Eg (by omega)]at B1
 have BV:b=true↔0≤n∧n≤24:=by
  rw[B1];simp only[xY,decide_eq_true_eq]
  exact⟨fun h=>⟨h.1,h.2.1⟩,fun h=>⟨h.1,h.2,Int.pow_pos (by decide)⟩⟩
 clear B1
 refine Qs ?_
 refine And.intro (fun h1=>?_) (fun h1=>?_)
 ·have JJ:b=false:=by simpa using h1
  subst JJ
  have e:lH xs a n=(0,a,1):=by simp only[lH];rw[if_pos (fun h=>by simpa using BV.2 h)]
  rw[e]
  refine Qs ?_
  exact rfl
 ·have JJ:b=true:=by simpa using h1
  subst JJ
  have hn:=BV.1 rfl
  refine Qs ?_
  refine FR hb (by omega) ?_
  refine Qs ?_
  refine And.intro (fun h2=>?_) (fun h2=>?_)
  ·simp only[decide_eq_true_eq]at h2
   have e:lH xs a n=(0,a,50):=by simp only[lH];rw[if_neg (fun h=>h hn),if_pos h2]
   rw[e]
   refine Qs ?_
   exact rfl
  ·simp only[decide_eq_false_iff_not]at h2
   obtain⟨n,rfl⟩:=Int.eq_ofNat_of_zero_le hn.1
   have e:lH xs a n=(num (((unpack xs).drop a).take n),a+n,0):=by simp only[lH];rw[if_neg (fun h=>h hn),if_neg h2];rfl
   rw[e]
   have hu:=bw xs
   refine Qs ?_
   refine WO.go (σ:=Nat) (fun jX=>jX≤n) (fun jX=>n-jX)
    (fun jX=>[(0,.ptr 0 0 0),(1,.int .i64 n),(6,.int .u32 (num (((unpack xs).drop a).take jX))),(7,.int .i64 jX)]) (fun jX=>Hq xs ((a+jX:Nat):Int) g c) 0 ag mixed (by kernel_rfl)
    (Nat.zero_le _) (aI rfl (aI rfl (aI rfl (aI rfl (trivial))))) (aI rfl (aI rfl (trivial))) (fun _=>rfl) (fun _=>rfl) (fun _=>⟨rfl,trivial,trivial⟩) ?_
   intro jX hg d
   have e7:=Jk (a:=a+jX) (by omega)
   have e3:=Hh (a+jX)
   refine Qs ?_
   refine And.intro (fun hc=>?_) (fun hc=>?_)
   ·simp only[decide_eq_true_eq]at hc
    obtain⟨kN,QD⟩:∃kN:Nat,kN=min (8-(a+jX)%8) (n-jX):=⟨_,rfl⟩
    have hk:min ((8:Int)-((((a+jX)%8:Nat)):Int)) ((n:Int)-(jX:Int))=(kN:Int):=by omega
    have PA:(a+jX)/8<xs.length:=by omega
    refine Qs ?_
    rw[e7]
    refine Qs ?_
    rw[hk]
    refine Qs ?_
    rw[e3]
    refine Qs ?_
    refine RO.same (jX+kN) (by omega) (show n-(jX+kN)<n-jX by omega) (And.intro rfl (And.intro rfl (And.intro (congrArg (AV.int .u32) ?_) (And.intro rfl trivial)))) (And.intro ?_ (And.intro rfl trivial))
    ·show b8 .or .u32 _ (bC .u32 (b8 .and .u32 (cf .u32 (xs.getD ((a+jX)/8) 0%4294967296) (((a+jX)%8:Nat):Int)) ((bC .u32 1 ((kN:Nat):Int)-1)%4294967296)) (jX:Int))=_
     rw[Hj (by omega)]
     obtain⟨y,hy⟩:∃y:Nat,xs.getD ((a+jX)/8) 0=(y:Int)∧y<256:=by
      have hx:=z9 _ (List.getElem_mem PA)
      have:xs.getD ((a+jX)/8) 0=xs[(a+jX)/8]:=by simp[List.getD_eq_getElem?_getD,PA]
      exact⟨xs[(a+jX)/8].toNat,by rw[this];omega,by omega⟩
     have hp:=piece xs z9 (a+jX) kN PA (by omega)
     have Ye:(xs.getD ((a+jX)/8) 0)%4294967296=(y:Int):=by rw[hy.1];omega
     rw[Ye,Ka (by omega)]
     rw[hy.1]at hp
     have So:∀r:Nat,(y:Int)/2^r=((y/2^r:Nat):Int):=fun r=>by push_cast;rfl
     rw[So]at hp⊢
     have Yc:y/2^((a+jX)%8)<2^32:=Nat.lt_of_le_of_lt (Nat.div_le_self _ _) (by omega)
     rw[HS Yc (by omega)]
     have hl:(((unpack xs).drop a).take jX).length=jX:=by simp;omega
     have h1:=gy (((unpack xs).drop a).take jX)
     rw[hl]at h1
     have h2:((y/2^((a+jX)%8)%2^kN:Nat):Int)<2^kN:=by exact_mod_cast Nat.mod_lt _ (Nat.pow_pos (by omega))
     rw[HD (num_nonneg _) h1 (by omega) h2 (by omega)]
     have h3:((unpack xs).drop a).take (jX+kN)=((unpack xs).drop a).take jX++((unpack xs).drop (a+jX)).take kN:=by
      rw[List.take_add,List.drop_drop]
     rw[h3,iC,hl,hp]
     push_cast
     rfl
    ·show AO.one true 0 (.cells [.sl 1 g 0 xs.length c,.int .i64 ((a+(jX+kN):Nat):Int)])=AO.one true 0 (.cells [.sl 1 g 0 xs.length c,.int .i64 (((a+jX:Nat):Int)+(kN:Int))])
     rw[show((a+(jX+kN):Nat):Int)=((a+jX:Nat):Int)+(kN:Int) by push_cast;omega]
   ·simp only[decide_eq_false_iff_not]at hc
    obtain rfl:jX=n:=by omega
    refine Qs ?_
    exact rfl
end Go.Proofs.Ytibadaomjlkoaaa
open Go.RowKit
namespace Go.Proofs.Ytibadaomjlkoaaa
set_option maxRecDepth 10000
end Go.Proofs.Ytibadaomjlkoaaa
open Go.RowKit
namespace Go.Proofs.Ytibadaomjlkoaaa
set_option maxRecDepth 10000
end Go.Proofs.Ytibadaomjlkoaaa
open Go.RowKit
namespace Go.Proofs.Ytibadaomjlkoaaa
set_option maxRecDepth 10000
theorem rD:∀k:Nat,bitsOf 0 k=List.replicate k false
 |0=>rfl
 |k+1=>by simp[bitsOf,rD k,List.replicate_succ]
end Go.Proofs.Ytibadaomjlkoaaa
open Go.RowKit
namespace Go.Proofs.Ytibadaomjlkoaaa
set_option maxRecDepth 10000
theorem AF (row:List Bool):bg row=dL ((row.length+7)/8) row:=by
 unfold bg
 split
 ·rename_i h
  rw[show(row.length+7)/8=row.length/8 from by omega];rfl
 ·rename_i h
  rw[show(row.length+7)/8=row.length/8+1 from by omega,kP]
  have:(rest row).take 8=rest row:=List.take_of_length_le (by rw[jj];omega)
  show dL (row.length/8) row++[num (rest row)]=dL (row.length/8) row++[num ((rest row).take 8)]
  rw[this]
end Go.Proofs.Ytibadaomjlkoaaa
open Go.RowKit
namespace Go.Proofs.Ytibadaomjlkoaaa
set_option maxRecDepth 10000
end Go.Proofs.Ytibadaomjlkoaaa
open Go.RowKit
namespace Go.Proofs.Ytibadaomjlkoaaa
theorem k9:∀(k:Nat)(l:List Bool),l.length≤k→bitsOf (num l) k=l++List.replicate (k-l.length) false
 |0,l,h=>by
  have:l=[]:=List.eq_nil_of_length_eq_zero (by omega)
  subst this;rfl
 |k+1,[],_=>by simp[num,rD]
 |k+1,b::l,h=>by
  have hl:l.length≤k:=by simpa using h
  have e1:(num (b::l))/2=num l:=by simp only[num];split<;>omega
  have e2:decide (num (b::l)%2=1)=b:=by
   simp only[num];cases b
   ·simp
   ·simp
  simp only[bitsOf,e1,e2,k9 k l hl,List.cons_append,List.length_cons]
  rw[show k+1-(l.length+1)=k-l.length from by omega]
theorem k8 (v:Int):∀(p q:Nat),bitsOf v (p+q)=bitsOf (v%2^p) p++bitsOf (v/2^p) q
 |0,q=>by simp[bitsOf]
 |p+1,q=>by
  have h1:v%2^(p+1)%2=v%2:=by
   rw[Int.pow_succ,Int.mul_comm];exact Int.emod_emod_of_dvd v (Int.dvd_mul_right 2 _)
  have h2:v%2^(p+1)/2=v/2%2^p:=by
   have hp:(0:Int)<2^p:=Int.pow_pos (by decide)
   have a1:=Int.emod_add_mul_ediv v (2^(p+1))
   have a2:=Int.emod_add_mul_ediv (v/2) (2^p)
   have a3:v/2/2^p=v/2^(p+1):=by rw[Int.ediv_ediv_of_nonneg (by decide),Int.pow_succ,Int.mul_comm]
   rw[a3]at a2
   have a4:(2:Int)^(p+1)*(v/2^(p+1))=2*(2^p*(v/2^(p+1))):=by rw[Int.pow_succ,Int.mul_comm (2^p) 2,Int.mul_assoc]
   rw[a4]at a1
   omega
  have h3:v/2^(p+1)=v/2/2^p:=by rw[Int.ediv_ediv_of_nonneg (by decide),Int.pow_succ,Int.mul_comm]
  rw[show p+1+q=(p+q)+1 from by omega]
  simp only[bitsOf,h1,h2,h3,List.cons_append,k8 (v/2) p q]
theorem eD (a b:List Int):unpack (a++b)=unpack a++unpack b:=by simp[unpack]
theorem oZ:∀(k:Nat)(l:List Bool),8*k≤l.length→unpack (dL k l)=l.take (8*k)
 |0,l,_=>by simp[dL,unpack]
 |k+1,l,h=>by
  have hl:(l.take 8).length=8:=by simp;omega
  rw[dL,dE,k9 8 _ (by omega),oZ k _ (by simp;omega),hl]
  simp only[Nat.sub_self,List.replicate_zero,List.append_nil]
  rw[show 8*(k+1)=8+8*k from by omega,List.take_add]
theorem ju (row:List Bool):∃k,k<8∧unpack (bg row)=row++List.replicate k false∧8*(bg row).length=row.length+k:=by
 have bO:=kO row
 have hr:=jj row
 have h1:unpack (aN row)=row.take (8*(row.length/8)):=oZ _ _ (by omega)
 unfold bg
 split
 ·rename_i h
  refine⟨0,by omega,?_,by omega⟩
  rw[h1,List.take_of_length_le (by omega)];simp
 ·rename_i h
  refine⟨8-row.length%8,by omega,?_,by simp;omega⟩
  rw[eD,h1,dE,k9 8 _ (by omega),hr]
  show _++(rest row++List.replicate (8-row.length%8) false++[])=_
  rw[List.append_nil,←List.append_assoc]
  congr 1
  exact List.take_append_drop _ _
theorem rB (row:List Bool):∀x∈bg row,0≤x∧x<256:=by
 rw[AF];exact sY _ _
theorem Lq (p q:List Bool)(v:Int)(n:Nat)(h0:0≤v)(h:v<2^n):num (((p++(bitsOf v n++q)).drop p.length).take n)=v:=by
 rw[List.drop_left,List.take_append_of_le_length (by rw[ai];exact Nat.le_refl _),List.take_of_length_le (by rw[ai];exact Nat.le_refl _),kQ n v h0 h]
theorem xN {row:List Bool}{v:Int}{n:Nat}(hn:n≤24)(hv:v<2^n)(hr:row.length+n≤8388608):iX row v n=(row++bitsOf v n,0):=by
 have hm:xY v n=true:=by simp only[xY,decide_eq_true_eq];exact⟨by omega,by omega,by simpa using hv⟩
 simp only[iX,hm]
 rw[if_neg (by simp),if_neg (by omega)];rfl
end Go.Proofs.Ytibadaomjlkoaaa
open Go.RowKit
namespace Go.Proofs.Ytibadaomjlkoaaa
set_option maxRecDepth 10000
def ro (j g c:Nat)(xs:List Int)(a:Nat):AO:=.one true 0 (.cells [.sl j g 0 xs.length c,.int .i64 (a:Int)])
def rb (g c:Nat)(xs:List Int):AO:=.one true g (.ints .u8 xs c)
section
variable{M:AH}{K Kp:AV→AH→Prop}
theorem Du {i j:Nat}(h:Nat.beq i j=false){l:List AV}(hl:AV.oT [.own i,.own j] l=true):(bB [.own i,.own j]&&AV.oT [.own i,.own j] l)=true:=by
 simp[bB,TE.eV,TE.i,h,hl]
theorem pk {M:AH}{i:Nat}{o:AO}(h:M[i]?=some o):M.set i o=M:=by
 obtain⟨h1,h2⟩:=List.getElem?_eq_some_iff.1 h
 rw[←h2,List.set_getElem_self]
theorem get_at {i j g c:Nat}{xs:List Int}{a a':Nat}{n v e:Int}(hi:M[i]?=some (ro j g c xs a))(hj:M[j]?=some (rb g c xs))(rq:Nat.beq i j=false)(hb:xs.length≤70368744177664)(ha:a≤8*xs.length)(z9:∀x∈xs,0≤x∧x<256)(hp:lH xs a n=(v,a',e))
 (h:K (.aG [.int .u32 v,.int .i64 e]) (M.set i (ro j g c xs a'))):aa Try.prog 65 [.ptr i 0 0,.int .i64 n] M K Kp:=by
 refine aa.lift [.own i,.own j] (IL (a:=a) (n:=n) (g:=g) (c:=c) (Kp:=fun _ _=>False) hb ha z9) rfl (Du rq rfl) ⟨⟨hi,rfl⟩,⟨hj,rfl⟩,trivial⟩ ⟨rfl,trivial,trivial⟩ ?_ (fun _ _ h=>h.elim)
 rw[hp]
 rintro r M' ⟨rfl,rfl⟩
 refine⟨⟨rfl,rfl,rfl⟩,?_⟩
 have e:M.set i (ro j g c xs a')=(M.set i (ro j g c xs a')).set j (rb g c xs)++[]:=by
  rw[List.append_nil];exact(pk (show(M.set i _)[j]?=some (rb g c xs) by rw[List.getElem?_set_ne (Nat.ne_of_beq_eq_false rq)];exact hj)).symm
 rw[e]at h
 exact h
theorem Fz {i j g c:Nat}{xs:List Int}{a:Nat}(hi:M[i]?=some (ro j g c xs a))(hj:M[j]?=some (rb g c xs))(rq:Nat.beq i j=false)(hb:xs.length≤70368744177664)(ha:a≤8*xs.length)
 (h:K (.int .i64 0) (M.set i (ro j g c xs ((a+7)/8*8)))):aa Try.prog 59 [.ptr i 0 0] M K Kp:=by
 refine aa.lift [.own i,.own j] (zC (a:=a) (g:=g) (c:=c) (K:=fun r M=>r=.int .i64 0∧M=Hq xs ((a+7)/8*8:Nat) g c) (Kp:=fun _ _=>False) hb ha ⟨rfl,rfl⟩) rfl (Du rq rfl) ⟨⟨hi,rfl⟩,⟨hj,rfl⟩,trivial⟩ ⟨rfl,trivial,trivial⟩ ?_ (fun _ _ h=>h.elim)
 rintro r M' ⟨rfl,rfl⟩
 refine⟨⟨rfl,rfl,rfl⟩,?_⟩
 have e:M.set i (ro j g c xs ((a+7)/8*8))=(M.set i (ro j g c xs ((a+7)/8*8))).set j (rb g c xs)++[]:=by
  rw[List.append_nil];exact(pk (show(M.set i _)[j]?=some (rb g c xs) by rw[List.getElem?_set_ne (Nat.ne_of_beq_eq_false rq)];exact hj)).symm
 rw[e]at h
 exact h
theorem Rt {i j:Nat}{o p:AO}(hi:M[i]?=some o)(hj:M[j]?=some p):M=(M.set i o).set j p++[]:=by
 rw[pk hi,pk hj,List.append_nil]
theorem T5 {i j g c:Nat}{xs:List Int}{a:Nat}(hi:M[i]?=some (ro j g c xs a))(hj:M[j]?=some (rb g c xs))(rq:Nat.beq i j=false)
 (h:K (.int .i64 (a:Int)) M):aa Try.prog 36 [.ptr i 0 0] M K Kp:=by
 refine aa.lift [.own i,.own j] (Mu (xs:=xs) (a:=a) (g:=g) (c:=c) (K:=fun r M=>r=.int .i64 (a:Int)∧M=Hq xs (a:Int) g c) (Kp:=fun _ _=>False) ⟨rfl,rfl⟩) rfl (Du rq rfl) ⟨⟨hi,rfl⟩,⟨hj,rfl⟩,trivial⟩ ⟨rfl,trivial,trivial⟩ ?_ (fun _ _ h=>h.elim)
 rintro r M' ⟨rfl,rfl⟩
 refine⟨⟨rfl,rfl,rfl⟩,?_⟩
 rw[Rt hi hj]at h
 exact h
theorem UL {t:List TE}{m:Nat}{k:IntKind}{xs:List Int}{c co:Nat}(h:c≤co):eh t m 0 (.ints k xs c) (.ints k xs co):=eh.ints (by omega) (by simp)
theorem OS {i g n c co:Nat}{own:Bool}{xs:List Int}(hi:M[i]?=some (.one own g (.ints .u8 xs co)))(hn:n=xs.length)(hb:xs.length≤70368744177664)
 (h:∀g' c',xs.length≤c'→K (.ptr (M.length+1) 0 0) (M++[rb g' c' xs,ro M.length g' c' xs 0])):
 aa Try.prog 30 [.sl i g 0 n c] M K Kp:=by
 subst hn
 refine aa.lift [.ep i g 0] (HM (xs:=xs) (c0:=c) (c:=co) (Kp:=fun _ _=>False) hb) rfl rfl ⟨⟨_,_,_,rfl,ak hi,UL (Nat.le_refl _)⟩,trivial⟩ ⟨trivial,trivial⟩ ?_ (fun _ _ h=>h.elim)
 rintro r M' ⟨g',c',rfl,rfl,rr⟩
 exact⟨⟨rfl,rfl⟩,h g' c' rr⟩
end
end Go.Proofs.Ytibadaomjlkoaaa
