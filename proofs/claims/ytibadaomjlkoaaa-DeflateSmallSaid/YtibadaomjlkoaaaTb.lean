import Derived.Test.YtibadaomjlkoaaaAb23
import Derived.Test.YtibadaomjlkoaaaProg
import Derived.KernelRfl
set_option linter.unusedVariables false
namespace Go.Proofs.Ytibadaomjlkoaaa
noncomputable def tb:List TI:=[
⟨.other,1,0,[.raw (.tuple #[])]⟩,
⟨.func,1,8,[.nf]⟩,
⟨(.int .i64),1,8,[.int .i64 0]⟩,
⟨(.int .i64),1,8,[.int .i64 0]⟩,
⟨.bool,1,1,[.ff]⟩,
⟨(.int .u8),1,1,[.int .u8 0]⟩,
⟨(.int .u8),1,1,[.int .u8 0]⟩,
⟨(.struct [(0,2),(1,3),(2,4),(3,6)]),4,24,[.int .i64 0,.int .i64 0,.ff,.int .u8 0]⟩,
⟨(.struct [(0,2),(1,3),(2,4),(3,6)]),4,24,[.int .i64 0,.int .i64 0,.ff,.int .u8 0]⟩,
⟨.str,1,16,[.str ByteArray.empty]⟩,
⟨.str,1,16,[.str ByteArray.empty]⟩,
⟨.str,1,16,[.str ByteArray.empty]⟩,
⟨(.int .u64),1,8,[.int .u64 0]⟩,
⟨(.struct [(0,9),(1,12)]),2,24,[.str ByteArray.empty,.int .u64 0]⟩,
⟨(.struct [(0,9),(1,12)]),2,24,[.str ByteArray.empty,.int .u64 0]⟩,
⟨(.ptr 174),1,8,[.np]⟩,
⟨(.ptr 177),1,8,[.np]⟩,
⟨(.ptr 185),1,8,[.np]⟩,
⟨(.struct [(0,17)]),1,8,[.np]⟩,
⟨(.struct [(0,17)]),1,8,[.np]⟩,
⟨.iface,1,16,[.ni]⟩,
⟨(.int .i32),1,4,[.int .i32 0]⟩,
⟨(.slice 5),1,24,[.ns]⟩,
⟨(.int .i64),1,8,[.int .i64 0]⟩,
⟨.other,1,0,[.raw (.tuple #[.slice none 0 0,.int .i64 0])]⟩,
⟨.func,1,8,[.nf]⟩,
⟨.other,1,0,[.raw (.tuple #[.slice none 0 0,.int .i64 0,.int .i64 0])]⟩,
⟨.func,1,8,[.nf]⟩,
⟨.func,1,8,[.nf]⟩,
⟨.func,1,8,[.nf]⟩,
⟨.func,1,8,[.nf]⟩,
⟨.func,1,8,[.nf]⟩,
⟨.func,1,8,[.nf]⟩,
⟨(.int .u16),1,2,[.int .u16 0]⟩,
⟨.func,1,8,[.nf]⟩,
⟨(.int .u32),1,4,[.int .u32 0]⟩,
⟨(.int .u64),1,8,[.int .u64 0]⟩,
⟨(.slice 61),1,24,[.ns]⟩,
⟨.func,1,8,[.nf]⟩,
⟨(.ptr 43),1,8,[.np]⟩,
⟨(.struct [(0,22),(1,35),(2,3)]),3,40,[.ns,.int .u32 0,.int .i64 0]⟩,
⟨(.struct [(0,22),(1,35),(2,3)]),3,40,[.ns,.int .u32 0,.int .i64 0]⟩,
⟨(.struct [(0,41),(3,37),(4,22),(5,22)]),6,112,[.ns,.int .u32 0,.int .i64 0,.ns,.ns,.ns]⟩,
⟨(.struct [(0,41),(3,37),(4,22),(5,22)]),6,112,[.ns,.int .u32 0,.int .i64 0,.ns,.ns,.ns]⟩,
⟨.func,1,8,[.nf]⟩,
⟨(.slice 1),1,24,[.ns]⟩,
⟨(.slice 39),1,24,[.ns]⟩,
⟨.func,1,8,[.nf]⟩,
⟨(.ptr 53),1,8,[.np]⟩,
⟨(.slice 4),1,24,[.ns]⟩,
⟨(.slice 4),1,24,[.ns]⟩,
⟨.func,1,8,[.nf]⟩,
⟨(.struct [(0,50),(1,3),(2,22),(3,3),(4,23)]),5,72,[.ns,.int .i64 0,.ns,.int .i64 0,.int .i64 0]⟩,
⟨(.struct [(0,50),(1,3),(2,22),(3,3),(4,23)]),5,72,[.ns,.int .i64 0,.ns,.int .i64 0,.int .i64 0]⟩,
⟨.other,1,0,[.raw (.tuple #[.slice none 0 0,.slice none 0 0])]⟩,
⟨.func,1,8,[.nf]⟩,
⟨.func,1,8,[.nf]⟩,
⟨(.slice 141),1,24,[.ns]⟩,
⟨.func,1,8,[.nf]⟩,
⟨.func,1,8,[.nf]⟩,
⟨(.struct [(0,5),(1,3),(2,3)]),3,24,[.int .u8 0,.int .i64 0,.int .i64 0]⟩,
⟨(.struct [(0,5),(1,3),(2,3)]),3,24,[.int .u8 0,.int .i64 0,.int .i64 0]⟩,
⟨.func,1,8,[.nf]⟩,
⟨(.struct [(0,23)]),1,8,[.int .i64 0]⟩,
⟨(.struct [(0,23)]),1,8,[.int .i64 0]⟩,
⟨.other,1,0,[.raw (.tuple #[.agg #[.int .i64 0],.bool false])]⟩,
⟨(.ptr 70),1,8,[.np]⟩,
⟨(.ptr 104),1,8,[.np]⟩,
⟨.func,1,8,[.nf]⟩,
⟨(.struct [(0,67),(1,22),(2,3)]),3,40,[.np,.ns,.int .i64 0]⟩,
⟨(.struct [(0,67),(1,22),(2,3)]),3,40,[.np,.ns,.int .i64 0]⟩,
⟨.func,1,8,[.nf]⟩,
⟨(.arr 4 71),4,32,[.nf,.nf,.nf,.nf]⟩,
⟨.func,1,8,[.nf]⟩,
⟨(.map 76 3),1,8,[.nm]⟩,
⟨(.slice 3),1,24,[.ns]⟩,
⟨(.arr 3 5),3,3,[.int .u8 0,.int .u8 0,.int .u8 0]⟩,
⟨.func,1,8,[.nf]⟩,
⟨.func,1,8,[.nf]⟩,
⟨.func,1,8,[.nf]⟩,
⟨.func,1,8,[.nf]⟩,
⟨.func,1,8,[.nf]⟩,
⟨.func,1,8,[.nf]⟩,
⟨.func,1,8,[.nf]⟩,
⟨.func,1,8,[.nf]⟩,
⟨(.struct [(0,3),(1,3),(2,3)]),3,24,[.int .i64 0,.int .i64 0,.int .i64 0]⟩,
⟨(.struct [(0,3),(1,3),(2,3)]),3,24,[.int .i64 0,.int .i64 0,.int .i64 0]⟩,
⟨.func,1,8,[.nf]⟩,
⟨(.slice 33),1,24,[.ns]⟩,
⟨.other,1,0,[.raw (.tuple #[.slice none 0 0,.int .i64 0])]⟩,
⟨.func,1,8,[.nf]⟩,
⟨.func,1,8,[.nf]⟩,
⟨(.ptr 41),1,8,[.np]⟩,
⟨.func,1,8,[.nf]⟩,
⟨.other,1,0,[.raw (.tuple #[.int .u32 0,.int .i64 0,.int .i64 0])]⟩,
⟨.func,1,8,[.nf]⟩,
⟨.func,1,8,[.nf]⟩,
⟨.func,1,8,[.nf]⟩,
⟨.other,1,0,[.raw (.tuple #[.int .i64 0,.int .i64 0])]⟩,
⟨.func,1,8,[.nf]⟩,
⟨.other,1,0,[.raw (.tuple #[.slice none 0 0,.int .i64 0])]⟩,
⟨.func,1,8,[.nf]⟩,
⟨.func,1,8,[.nf]⟩,
⟨(.struct [(0,22),(1,3)]),2,32,[.ns,.int .i64 0]⟩,
⟨(.struct [(0,22),(1,3)]),2,32,[.ns,.int .i64 0]⟩,
⟨.func,1,8,[.nf]⟩,
⟨.func,1,8,[.nf]⟩,
⟨(.arr 2 3),2,16,[.int .i64 0,.int .i64 0]⟩,
⟨(.slice 107),1,24,[.ns]⟩,
⟨.func,1,8,[.nf]⟩,
⟨(.ptr 164),1,8,[.np]⟩,
⟨.func,1,8,[.nf]⟩,
⟨.func,1,8,[.nf]⟩,
⟨.other,1,0,[.raw (.tuple #[.int .u32 0,.int .i64 0])]⟩,
⟨.func,1,8,[.nf]⟩,
⟨.func,1,8,[.nf]⟩,
⟨.func,1,8,[.nf]⟩,
⟨(.slice 22),1,24,[.ns]⟩,
⟨.other,1,0,[.raw (.tuple #[.int .u64 0,.int .u64 0])]⟩,
⟨.func,1,8,[.nf]⟩,
⟨.func,1,8,[.nf]⟩,
⟨.func,1,8,[.nf]⟩,
⟨.func,1,8,[.nf]⟩,
⟨.func,1,8,[.nf]⟩,
⟨.func,1,8,[.nf]⟩,
⟨(.slice 127),1,24,[.ns]⟩,
⟨(.struct [(0,3),(1,3),(2,75)]),3,40,[.int .i64 0,.int .i64 0,.ns]⟩,
⟨(.struct [(0,3),(1,3),(2,75)]),3,40,[.int .i64 0,.int .i64 0,.ns]⟩,
⟨.func,1,8,[.nf]⟩,
⟨(.slice 127),1,24,[.ns]⟩,
⟨.func,1,8,[.nf]⟩,
⟨(.ptr 129),1,8,[.np]⟩,
⟨.func,1,8,[.nf]⟩,
⟨.func,1,8,[.nf]⟩,
⟨.func,1,8,[.nf]⟩,
⟨.func,1,8,[.nf]⟩,
⟨.func,1,8,[.nf]⟩,
⟨.other,1,0,[.raw (.tuple #[.int .i64 0,.int .i64 0,.int .i64 0])]⟩,
⟨.func,1,8,[.nf]⟩,
⟨.func,1,8,[.nf]⟩,
⟨(.struct [(0,3),(1,50)]),2,32,[.int .i64 0,.ns]⟩,
⟨(.struct [(0,3),(1,50)]),2,32,[.int .i64 0,.ns]⟩,
⟨.func,1,8,[.nf]⟩,
⟨.other,1,0,[.raw (.tuple #[.pointer none,.int .i64 0])]⟩,
⟨.func,1,8,[.nf]⟩,
⟨(.arr 3 107),6,48,[.int .i64 0,.int .i64 0,.int .i64 0,.int .i64 0,.int .i64 0,.int .i64 0]⟩,
⟨.other,1,0,[.raw (.tuple #[.int .u32 0,.int .u32 0])]⟩,
⟨.func,1,8,[.nf]⟩,
⟨(.int .u64),1,8,[.int .u64 0]⟩,
⟨.other,1,0,[.raw (.tuple #[.int .u64 0,.int .u64 0])]⟩,
⟨.func,1,8,[.nf]⟩,
⟨.func,1,8,[.nf]⟩,
⟨.func,1,8,[.nf]⟩,
⟨.iface,1,16,[.ni]⟩,
⟨.iface,1,16,[.ni]⟩,
⟨.func,1,8,[.nf]⟩,
⟨.func,1,8,[.nf]⟩,
⟨.func,1,8,[.nf]⟩,
⟨.func,1,8,[.nf]⟩,
⟨.func,1,8,[.nf]⟩,
⟨.other,1,0,[.raw (.tuple #[.int .i64 0,.int .i64 0])]⟩,
⟨.func,1,8,[.nf]⟩,
⟨(.map 166 3),1,8,[.nm]⟩,
⟨(.struct [(0,162)]),1,8,[.nm]⟩,
⟨(.struct [(0,162)]),1,8,[.nm]⟩,
⟨(.struct [(0,3),(1,3)]),2,16,[.int .i64 0,.int .i64 0]⟩,
⟨(.struct [(0,3),(1,3)]),2,16,[.int .i64 0,.int .i64 0]⟩,
⟨.func,1,8,[.nf]⟩,
⟨.func,1,8,[.nf]⟩,
⟨.func,1,8,[.nf]⟩,
⟨.func,1,8,[.nf]⟩,
⟨.other,1,0,[.raw (.tuple #[.int .i64 0,.bool false])]⟩,
⟨.func,1,8,[.nf]⟩,
⟨(.struct [(0,17),(1,17),(2,17),(3,9)]),4,40,[.np,.np,.np,.str ByteArray.empty]⟩,
⟨(.struct [(0,17),(1,17),(2,17),(3,9)]),4,40,[.np,.np,.np,.str ByteArray.empty]⟩,
⟨(.arr 0 16),0,0,[]⟩,
⟨(.struct [(0,175)]),0,0,[]⟩,
⟨(.struct [(0,175)]),0,0,[]⟩,
⟨(.int .u8),1,1,[.int .u8 0]⟩,
⟨(.int .u8),1,1,[.int .u8 0]⟩,
⟨.func,1,8,[.nf]⟩,
⟨(.ptr 5),1,8,[.np]⟩,
⟨(.int .i32),1,4,[.int .i32 0]⟩,
⟨(.int .i32),1,4,[.int .i32 0]⟩,
⟨(.struct [(0,12),(1,12),(2,35),(3,178),(4,5),(5,5),(6,179),(7,180),(8,181),(9,182),(10,183)]),11,48,[.int .u64 0,.int .u64 0,.int .u32 0,.int .u8 0,.int .u8 0,.int .u8 0,.int .u8 0,.nf,.np,.int .i32 0,.int .i32 0]⟩,
⟨(.struct [(0,12),(1,12),(2,35),(3,178),(4,5),(5,5),(6,179),(7,180),(8,181),(9,182),(10,183)]),11,48,[.int .u64 0,.int .u64 0,.int .u32 0,.int .u8 0,.int .u8 0,.int .u8 0,.int .u8 0,.nf,.np,.int .i32 0,.int .i32 0]⟩,
⟨.func,1,8,[.nf]⟩,
⟨.other,1,8,[.np]⟩]
theorem ae:aq Try.prog tb:=aq.mk' (by kernel_rfl)
theorem mixed:Try.prog.follows .mixedOrders=true:=by kernel_rfl
noncomputable def ZG (B:Nat→List Nat)(W:List Nat):Cx:={P:=Try.prog,T:=tb,n:=44,W:=W,B:=B}
noncomputable abbrev Ko:Code:=match Try.f4.body with|some c=>c|none=>.skip
theorem Ql:aj (fun _=>none) Ko=true:=by kernel_rfl
theorem Sw (B:Nat→List Nat)(W:List Nat){args:List AV}{M:AH}{K Kp:AV→AH→Prop}(hle:Nat.ble args.length 44=true)
 (h:av (ZG B W) Ko (ax tb Try.f4.results.toList K) Kp (ao args) M):aa Try.prog 4 args M K Kp:=
 aG.intro (x:=ZG B W) ae mixed Try.func4 (rfl:Try.f4.body=some Ko) (by kernel_rfl) Ql rfl rfl rfl hle h
noncomputable def ZF (B:Nat→List Nat)(W:List Nat):Cx:={P:=Try.prog,T:=tb,n:=54,W:=W,B:=B}
noncomputable abbrev Kn:Code:=match Try.f8.body with|some c=>c|none=>.skip
theorem Qk:aj (fun _=>none) Kn=true:=by kernel_rfl
theorem Sv (B:Nat→List Nat)(W:List Nat){args:List AV}{M:AH}{K Kp:AV→AH→Prop}(hle:Nat.ble args.length 54=true)
 (h:av (ZF B W) Kn (ax tb Try.f8.results.toList K) Kp (ao args) M):aa Try.prog 8 args M K Kp:=
 aG.intro (x:=ZF B W) ae mixed Try.func8 (rfl:Try.f8.body=some Kn) (by kernel_rfl) Qk rfl rfl rfl hle h
noncomputable def VH (B:Nat→List Nat)(W:List Nat):Cx:={P:=Try.prog,T:=tb,n:=40,W:=W,B:=B}
noncomputable abbrev En:Code:=match Try.f10.body with|some c=>c|none=>.skip
theorem MI:aj (fun _=>none) En=true:=by kernel_rfl
theorem Qd (B:Nat→List Nat)(W:List Nat){args:List AV}{M:AH}{K Kp:AV→AH→Prop}(hle:Nat.ble args.length 40=true)
 (h:av (VH B W) En (ax tb Try.f10.results.toList K) Kp (ao args) M):aa Try.prog 10 args M K Kp:=
 aG.intro (x:=VH B W) ae mixed Try.func10 (rfl:Try.f10.body=some En) (by kernel_rfl) MI rfl rfl rfl hle h
noncomputable def VG (B:Nat→List Nat)(W:List Nat):Cx:={P:=Try.prog,T:=tb,n:=16,W:=W,B:=B}
noncomputable abbrev Em:Code:=match Try.f11.body with|some c=>c|none=>.skip
theorem MH:aj (fun _=>none) Em=true:=by kernel_rfl
theorem Qc (B:Nat→List Nat)(W:List Nat){args:List AV}{M:AH}{K Kp:AV→AH→Prop}(hle:Nat.ble args.length 16=true)
 (h:av (VG B W) Em (ax tb Try.f11.results.toList K) Kp (ao args) M):aa Try.prog 11 args M K Kp:=
 aG.intro (x:=VG B W) ae mixed Try.func11 (rfl:Try.f11.body=some Em) (by kernel_rfl) MH rfl rfl rfl hle h
noncomputable def S3:Nat→Option (List (Nat×Nat)×List Nat):=fun id=>match id with
 |8=>some ([(0,0),(1,0),(2,0),(3,0),(4,0),(6,0),(7,0),(8,0),(9,0),(5,1),(10,1),(11,3),(12,0),(13,0)],[11])
 |_=>none
noncomputable def VF (B:Nat→List Nat)(W:List Nat):Cx:={P:=Try.prog,T:=tb,n:=48,W:=W,B:=B,pl:=S3}
noncomputable abbrev El:Code:=match Try.f12.body with|some c=>c|none=>.skip
theorem MG:aj S3 El=true:=by kernel_rfl
theorem Qb (B:Nat→List Nat)(W:List Nat){args:List AV}{M:AH}{K Kp:AV→AH→Prop}(hle:Nat.ble args.length 48=true)
 (h:av (VF B W) El (ax tb Try.f12.results.toList K) Kp (ao args) M):aa Try.prog 12 args M K Kp:=
 aG.intro (x:=VF B W) ae mixed Try.func12 (rfl:Try.f12.body=some El) (by kernel_rfl) MG rfl rfl rfl hle h
noncomputable def S2:Nat→Option (List (Nat×Nat)×List Nat):=fun id=>match id with
 |10=>some ([(0,0),(1,0),(2,0),(4,0),(5,0),(6,0),(3,1),(7,1),(8,2),(9,0),(10,0),(11,3),(12,3),(13,3)],[11,12,13])
 |_=>none
noncomputable def Yt (B:Nat→List Nat)(W:List Nat):Cx:={P:=Try.prog,T:=tb,n:=44,W:=W,B:=B,pl:=S2}
noncomputable abbrev Kq:Code:=match Try.f13.body with|some c=>c|none=>.skip
theorem MF:aj S2 Kq=true:=by kernel_rfl
noncomputable def S1:Nat→Option (List (Nat×Nat)×List Nat):=fun id=>match id with
 |10=>some ([(0,1),(1,1),(2,1),(3,1),(4,0),(5,0),(6,2),(7,1),(8,1),(9,0)],[])
 |_=>none
noncomputable def VE (B:Nat→List Nat)(W:List Nat):Cx:={P:=Try.prog,T:=tb,n:=80,W:=W,B:=B,pl:=S1}
noncomputable abbrev Ek:Code:=match Try.f14.body with|some c=>c|none=>.skip
theorem ME:aj S1 Ek=true:=by kernel_rfl
theorem Qa (B:Nat→List Nat)(W:List Nat){args:List AV}{M:AH}{K Kp:AV→AH→Prop}(hle:Nat.ble args.length 80=true)
 (h:av (VE B W) Ek (ax tb Try.f14.results.toList K) Kp (ao args) M):aa Try.prog 14 args M K Kp:=
 aG.intro (x:=VE B W) ae mixed Try.func14 (rfl:Try.f14.body=some Ek) (by kernel_rfl) ME rfl rfl rfl hle h
noncomputable def VD (B:Nat→List Nat)(W:List Nat):Cx:={P:=Try.prog,T:=tb,n:=40,W:=W,B:=B}
noncomputable abbrev Ej:Code:=match Try.f15.body with|some c=>c|none=>.skip
theorem MD:aj (fun _=>none) Ej=true:=by kernel_rfl
theorem P9 (B:Nat→List Nat)(W:List Nat){args:List AV}{M:AH}{K Kp:AV→AH→Prop}(hle:Nat.ble args.length 40=true)
 (h:av (VD B W) Ej (ax tb Try.f15.results.toList K) Kp (ao args) M):aa Try.prog 15 args M K Kp:=
 aG.intro (x:=VD B W) ae mixed Try.func15 (rfl:Try.f15.body=some Ej) (by kernel_rfl) MD rfl rfl rfl hle h
noncomputable def VC (B:Nat→List Nat)(W:List Nat):Cx:={P:=Try.prog,T:=tb,n:=26,W:=W,B:=B}
noncomputable abbrev Ei:Code:=match Try.f16.body with|some c=>c|none=>.skip
theorem MC:aj (fun _=>none) Ei=true:=by kernel_rfl
theorem P8 (B:Nat→List Nat)(W:List Nat){args:List AV}{M:AH}{K Kp:AV→AH→Prop}(hle:Nat.ble args.length 26=true)
 (h:av (VC B W) Ei (ax tb Try.f16.results.toList K) Kp (ao args) M):aa Try.prog 16 args M K Kp:=
 aG.intro (x:=VC B W) ae mixed Try.func16 (rfl:Try.f16.body=some Ei) (by kernel_rfl) MC rfl rfl rfl hle h
noncomputable def S0:Nat→Option (List (Nat×Nat)×List Nat):=fun id=>match id with
 |2=>some ([(0,1),(1,0),(2,0),(3,1),(4,1),(5,0),(6,0),(7,1),(8,3),(9,3),(10,0)],[8,9])
 |10=>some ([(0,0),(1,0),(2,0),(3,0),(5,0),(6,0),(7,0),(8,0),(9,0),(4,1),(10,1),(11,0),(12,1),(13,0),(14,0)],[])
 |13=>some ([(0,1),(1,0),(2,0),(3,1),(4,0),(5,0),(6,1),(7,0),(8,0),(9,0),(10,3)],[10])
 |14=>some ([(0,1),(1,0),(2,0),(3,1),(4,0),(5,0),(6,1),(7,0),(8,0),(9,0),(10,3)],[10])
 |19=>some ([(4,0),(0,1),(1,0),(2,0),(3,1),(5,0),(6,1),(7,0),(8,3)],[8])
 |_=>none
noncomputable def Hw (B:Nat→List Nat)(W:List Nat):Cx:={P:=Try.prog,T:=tb,n:=127,W:=W,B:=B,pl:=S0}
noncomputable abbrev px:Code:=match Try.f17.body with|some c=>c|none=>.skip
theorem E5:aj S0 px=true:=by kernel_rfl
noncomputable def VB (B:Nat→List Nat)(W:List Nat):Cx:={P:=Try.prog,T:=tb,n:=25,W:=W,B:=B}
noncomputable abbrev Eh:Code:=match Try.f18.body with|some c=>c|none=>.skip
theorem MB:aj (fun _=>none) Eh=true:=by kernel_rfl
theorem Pf (B:Nat→List Nat)(W:List Nat){args:List AV}{M:AH}{K Kp:AV→AH→Prop}(hle:Nat.ble args.length 25=true)
 (h:bT (VB B W) Eh (ax tb Try.f18.results.toList K) Kp (ao args) M):aa Try.prog 18 args M K Kp:=
 aa.intro (x:=VB B W) ae mixed Try.func18 (rfl:Try.f18.body=some Eh) (by kernel_rfl) MB rfl rfl rfl hle h
noncomputable def VA (B:Nat→List Nat)(W:List Nat):Cx:={P:=Try.prog,T:=tb,n:=53,W:=W,B:=B}
noncomputable abbrev Eg:Code:=match Try.f27.body with|some c=>c|none=>.skip
theorem MA:aj (fun _=>none) Eg=true:=by kernel_rfl
theorem P7 (B:Nat→List Nat)(W:List Nat){args:List AV}{M:AH}{K Kp:AV→AH→Prop}(hle:Nat.ble args.length 53=true)
 (h:av (VA B W) Eg (ax tb Try.f27.results.toList K) Kp (ao args) M):aa Try.prog 27 args M K Kp:=
 aG.intro (x:=VA B W) ae mixed Try.func27 (rfl:Try.f27.body=some Eg) (by kernel_rfl) MA rfl rfl rfl hle h
noncomputable def Vz (B:Nat→List Nat)(W:List Nat):Cx:={P:=Try.prog,T:=tb,n:=48,W:=W,B:=B}
noncomputable abbrev Ee:Code:=match Try.f28.body with|some c=>c|none=>.skip
theorem Mz:aj (fun _=>none) Ee=true:=by kernel_rfl
theorem P6 (B:Nat→List Nat)(W:List Nat){args:List AV}{M:AH}{K Kp:AV→AH→Prop}(hle:Nat.ble args.length 48=true)
 (h:av (Vz B W) Ee (ax tb Try.f28.results.toList K) Kp (ao args) M):aa Try.prog 28 args M K Kp:=
 aG.intro (x:=Vz B W) ae mixed Try.func28 (rfl:Try.f28.body=some Ee) (by kernel_rfl) Mz rfl rfl rfl hle h
noncomputable def Wy:Nat→Option (List (Nat×Nat)×List Nat):=fun id=>match id with
 |2=>some ([(0,0),(1,1),(2,2),(3,2),(4,3)],[4])
 |_=>none
noncomputable def Vy (B:Nat→List Nat)(W:List Nat):Cx:={P:=Try.prog,T:=tb,n:=13,W:=W,B:=B,pl:=Wy}
noncomputable def Vx (B:Nat→List Nat)(W:List Nat):Cx:={P:=Try.prog,T:=tb,n:=7,W:=W,B:=B}
noncomputable abbrev Ed:Code:=match Try.f30.body with|some c=>c|none=>.skip
theorem My:aj (fun _=>none) Ed=true:=by kernel_rfl
theorem Pc (B:Nat→List Nat)(W:List Nat){args:List AV}{M:AH}{K Kp:AV→AH→Prop}(hle:Nat.ble args.length 7=true)
 (h:bT (Vx B W) Ed (ax tb Try.f30.results.toList K) Kp (ao args) M):aa Try.prog 30 args M K Kp:=
 aa.intro (x:=Vx B W) ae mixed Try.func30 (rfl:Try.f30.body=some Ed) (by kernel_rfl) My rfl rfl rfl hle h
noncomputable def SZ:Nat→Option (List (Nat×Nat)×List Nat):=fun id=>match id with
 |4=>some ([(0,0),(1,0),(2,0),(3,0),(5,0),(6,0),(7,0),(4,1),(8,1),(9,0),(10,0),(11,0),(12,0)],[])
 |_=>none
noncomputable def Vv (B:Nat→List Nat)(W:List Nat):Cx:={P:=Try.prog,T:=tb,n:=42,W:=W,B:=B,pl:=SZ}
noncomputable abbrev Ec:Code:=match Try.f31.body with|some c=>c|none=>.skip
theorem Mx:aj SZ Ec=true:=by kernel_rfl
theorem P5 (B:Nat→List Nat)(W:List Nat){args:List AV}{M:AH}{K Kp:AV→AH→Prop}(hle:Nat.ble args.length 42=true)
 (h:av (Vv B W) Ec (ax tb Try.f31.results.toList K) Kp (ao args) M):aa Try.prog 31 args M K Kp:=
 aG.intro (x:=Vv B W) ae mixed Try.func31 (rfl:Try.f31.body=some Ec) (by kernel_rfl) Mx rfl rfl rfl hle h
noncomputable def Vu (B:Nat→List Nat)(W:List Nat):Cx:={P:=Try.prog,T:=tb,n:=32,W:=W,B:=B}
noncomputable abbrev Eb:Code:=match Try.f32.body with|some c=>c|none=>.skip
theorem Mw:aj (fun _=>none) Eb=true:=by kernel_rfl
theorem P4 (B:Nat→List Nat)(W:List Nat){args:List AV}{M:AH}{K Kp:AV→AH→Prop}(hle:Nat.ble args.length 32=true)
 (h:av (Vu B W) Eb (ax tb Try.f32.results.toList K) Kp (ao args) M):aa Try.prog 32 args M K Kp:=
 aG.intro (x:=Vu B W) ae mixed Try.func32 (rfl:Try.f32.body=some Eb) (by kernel_rfl) Mw rfl rfl rfl hle h
noncomputable def SY:Nat→Option (List (Nat×Nat)×List Nat):=fun id=>match id with
 |7=>some ([(0,0),(1,0),(2,0),(3,0),(4,3),(5,0),(6,0),(7,3)],[4,7])
 |12=>some ([(0,0),(1,0),(2,0),(3,0),(5,0),(6,0),(7,0),(4,3),(8,3),(9,3)],[4,8,9])
 |_=>none
noncomputable def Vt (B:Nat→List Nat)(W:List Nat):Cx:={P:=Try.prog,T:=tb,n:=59,W:=W,B:=B,pl:=SY}
noncomputable abbrev Ea:Code:=match Try.f33.body with|some c=>c|none=>.skip
theorem Mv:aj SY Ea=true:=by kernel_rfl
theorem P3 (B:Nat→List Nat)(W:List Nat){args:List AV}{M:AH}{K Kp:AV→AH→Prop}(hle:Nat.ble args.length 59=true)
 (h:av (Vt B W) Ea (ax tb Try.f33.results.toList K) Kp (ao args) M):aa Try.prog 33 args M K Kp:=
 aG.intro (x:=Vt B W) ae mixed Try.func33 (rfl:Try.f33.body=some Ea) (by kernel_rfl) Mv rfl rfl rfl hle h
noncomputable def Vs (B:Nat→List Nat)(W:List Nat):Cx:={P:=Try.prog,T:=tb,n:=3,W:=W,B:=B}
noncomputable abbrev D9:Code:=match Try.f34.body with|some c=>c|none=>.skip
theorem Mu:aj (fun _=>none) D9=true:=by kernel_rfl
theorem P2 (B:Nat→List Nat)(W:List Nat){args:List AV}{M:AH}{K Kp:AV→AH→Prop}(hle:Nat.ble args.length 3=true)
 (h:av (Vs B W) D9 (ax tb Try.f34.results.toList K) Kp (ao args) M):aa Try.prog 34 args M K Kp:=
 aG.intro (x:=Vs B W) ae mixed Try.func34 (rfl:Try.f34.body=some D9) (by kernel_rfl) Mu rfl rfl rfl hle h
noncomputable def Vr (B:Nat→List Nat)(W:List Nat):Cx:={P:=Try.prog,T:=tb,n:=20,W:=W,B:=B}
noncomputable abbrev D8:Code:=match Try.f35.body with|some c=>c|none=>.skip
theorem Mt:aj (fun _=>none) D8=true:=by kernel_rfl
theorem P1 (B:Nat→List Nat)(W:List Nat){args:List AV}{M:AH}{K Kp:AV→AH→Prop}(hle:Nat.ble args.length 20=true)
 (h:av (Vr B W) D8 (ax tb Try.f35.results.toList K) Kp (ao args) M):aa Try.prog 35 args M K Kp:=
 aG.intro (x:=Vr B W) ae mixed Try.func35 (rfl:Try.f35.body=some D8) (by kernel_rfl) Mt rfl rfl rfl hle h
noncomputable def Vq (B:Nat→List Nat)(W:List Nat):Cx:={P:=Try.prog,T:=tb,n:=9,W:=W,B:=B}
noncomputable abbrev D7:Code:=match Try.f36.body with|some c=>c|none=>.skip
theorem Ms:aj (fun _=>none) D7=true:=by kernel_rfl
theorem Pb (B:Nat→List Nat)(W:List Nat){args:List AV}{M:AH}{K Kp:AV→AH→Prop}(hle:Nat.ble args.length 9=true)
 (h:bT (Vq B W) D7 (ax tb Try.f36.results.toList K) Kp (ao args) M):aa Try.prog 36 args M K Kp:=
 aa.intro (x:=Vq B W) ae mixed Try.func36 (rfl:Try.f36.body=some D7) (by kernel_rfl) Ms rfl rfl rfl hle h
noncomputable def SX:Nat→Option (List (Nat×Nat)×List Nat):=fun id=>match id with
 |2=>some ([(1,0),(7,0),(8,0),(0,1),(2,1),(3,1),(4,1),(5,1),(6,1),(9,0),(10,2),(11,3)],[11])
 |_=>none
noncomputable def Vp (B:Nat→List Nat)(W:List Nat):Cx:={P:=Try.prog,T:=tb,n:=28,W:=W,B:=B,pl:=SX}
noncomputable abbrev D6:Code:=match Try.f37.body with|some c=>c|none=>.skip
theorem Mr:aj SX D6=true:=by kernel_rfl
theorem P0 (B:Nat→List Nat)(W:List Nat){args:List AV}{M:AH}{K Kp:AV→AH→Prop}(hle:Nat.ble args.length 28=true)
 (h:av (Vp B W) D6 (ax tb Try.f37.results.toList K) Kp (ao args) M):aa Try.prog 37 args M K Kp:=
 aG.intro (x:=Vp B W) ae mixed Try.func37 (rfl:Try.f37.body=some D6) (by kernel_rfl) Mr rfl rfl rfl hle h
noncomputable def Vo (B:Nat→List Nat)(W:List Nat):Cx:={P:=Try.prog,T:=tb,n:=23,W:=W,B:=B}
noncomputable abbrev D5:Code:=match Try.f38.body with|some c=>c|none=>.skip
theorem Mq:aj (fun _=>none) D5=true:=by kernel_rfl
theorem PZ (B:Nat→List Nat)(W:List Nat){args:List AV}{M:AH}{K Kp:AV→AH→Prop}(hle:Nat.ble args.length 23=true)
 (h:av (Vo B W) D5 (ax tb Try.f38.results.toList K) Kp (ao args) M):aa Try.prog 38 args M K Kp:=
 aG.intro (x:=Vo B W) ae mixed Try.func38 (rfl:Try.f38.body=some D5) (by kernel_rfl) Mq rfl rfl rfl hle h
noncomputable def SW:Nat→Option (List (Nat×Nat)×List Nat):=fun id=>match id with
 |2=>some ([(0,0),(1,0),(2,0),(3,0),(4,0),(5,0),(6,0),(7,0),(8,0),(9,0),(10,0),(11,0),(12,0),(13,0),(14,0),(15,0),(17,0),(18,0),(19,0),(20,0),(21,0),(16,1),(22,1),(23,0),(24,0)],[])
 |_=>none
noncomputable def Vn (B:Nat→List Nat)(W:List Nat):Cx:={P:=Try.prog,T:=tb,n:=36,W:=W,B:=B,pl:=SW}
noncomputable abbrev D3:Code:=match Try.f39.body with|some c=>c|none=>.skip
theorem Mp:aj SW D3=true:=by kernel_rfl
theorem PY (B:Nat→List Nat)(W:List Nat){args:List AV}{M:AH}{K Kp:AV→AH→Prop}(hle:Nat.ble args.length 36=true)
 (h:av (Vn B W) D3 (ax tb Try.f39.results.toList K) Kp (ao args) M):aa Try.prog 39 args M K Kp:=
 aG.intro (x:=Vn B W) ae mixed Try.func39 (rfl:Try.f39.body=some D3) (by kernel_rfl) Mp rfl rfl rfl hle h
noncomputable def Vm (B:Nat→List Nat)(W:List Nat):Cx:={P:=Try.prog,T:=tb,n:=27,W:=W,B:=B}
noncomputable abbrev DZ:Code:=match Try.f40.body with|some c=>c|none=>.skip
theorem Mo:aj (fun _=>none) DZ=true:=by kernel_rfl
theorem Pa (B:Nat→List Nat)(W:List Nat){args:List AV}{M:AH}{K Kp:AV→AH→Prop}(hle:Nat.ble args.length 27=true)
 (h:bT (Vm B W) DZ (ax tb Try.f40.results.toList K) Kp (ao args) M):aa Try.prog 40 args M K Kp:=
 aa.intro (x:=Vm B W) ae mixed Try.func40 (rfl:Try.f40.body=some DZ) (by kernel_rfl) Mo rfl rfl rfl hle h
noncomputable def Vl (B:Nat→List Nat)(W:List Nat):Cx:={P:=Try.prog,T:=tb,n:=36,W:=W,B:=B}
noncomputable abbrev DY:Code:=match Try.f41.body with|some c=>c|none=>.skip
theorem Mn:aj (fun _=>none) DY=true:=by kernel_rfl
theorem Ie (B:Nat→List Nat)(W:List Nat){args:List AV}{M:AH}{K Kp:AV→AH→Prop}(hle:Nat.ble args.length 36=true)
 (h:av (Vl B W) DY (ax tb Try.f41.results.toList K) Kp (ao args) M):aa Try.prog 41 args M K Kp:=
 aG.intro (x:=Vl B W) ae mixed Try.func41 (rfl:Try.f41.body=some DY) (by kernel_rfl) Mn rfl rfl rfl hle h
noncomputable def SV:Nat→Option (List (Nat×Nat)×List Nat):=fun id=>match id with
 |9=>some ([(0,0),(1,0),(2,0),(3,0),(4,0),(5,0),(6,0),(7,3),(8,0),(9,0)],[7])
 |_=>none
noncomputable def Vk (B:Nat→List Nat)(W:List Nat):Cx:={P:=Try.prog,T:=tb,n:=48,W:=W,B:=B,pl:=SV}
noncomputable abbrev DX:Code:=match Try.f42.body with|some c=>c|none=>.skip
theorem Mm:aj SV DX=true:=by kernel_rfl
theorem PX (B:Nat→List Nat)(W:List Nat){args:List AV}{M:AH}{K Kp:AV→AH→Prop}(hle:Nat.ble args.length 48=true)
 (h:av (Vk B W) DX (ax tb Try.f42.results.toList K) Kp (ao args) M):aa Try.prog 42 args M K Kp:=
 aG.intro (x:=Vk B W) ae mixed Try.func42 (rfl:Try.f42.body=some DX) (by kernel_rfl) Mm rfl rfl rfl hle h
noncomputable def SU:Nat→Option (List (Nat×Nat)×List Nat):=fun id=>match id with
 |6=>some ([(0,0),(1,0),(2,0),(3,0),(4,0),(6,0),(5,1),(7,1),(8,0),(9,0),(10,3)],[10])
 |7=>some ([(0,0),(1,0),(2,0),(3,0),(4,0),(6,0),(5,1),(7,1),(8,2),(9,3)],[9])
 |8=>some ([(0,0),(1,0),(2,0),(3,0),(4,0),(6,0),(5,1),(7,1),(8,0),(9,2),(10,3)],[10])
 |_=>none
noncomputable def Vj (B:Nat→List Nat)(W:List Nat):Cx:={P:=Try.prog,T:=tb,n:=77,W:=W,B:=B,pl:=SU}
noncomputable abbrev DW:Code:=match Try.f43.body with|some c=>c|none=>.skip
theorem Ml:aj SU DW=true:=by kernel_rfl
theorem PW (B:Nat→List Nat)(W:List Nat){args:List AV}{M:AH}{K Kp:AV→AH→Prop}(hle:Nat.ble args.length 77=true)
 (h:av (Vj B W) DW (ax tb Try.f43.results.toList K) Kp (ao args) M):aa Try.prog 43 args M K Kp:=
 aG.intro (x:=Vj B W) ae mixed Try.func43 (rfl:Try.f43.body=some DW) (by kernel_rfl) Ml rfl rfl rfl hle h
noncomputable def SS:Nat→Option (List (Nat×Nat)×List Nat):=fun id=>match id with
 |0=>some ([],[])
 |13=>some ([(0,0),(1,0),(2,0),(3,0),(4,0),(5,0),(8,0),(9,0),(10,0),(11,0),(6,1),(12,1),(7,2),(13,3),(14,0),(15,0),(16,3),(17,0),(18,0),(19,3)],[13,16,19])
 |_=>none
noncomputable def Vi (B:Nat→List Nat)(W:List Nat):Cx:={P:=Try.prog,T:=tb,n:=84,W:=W,B:=B,pl:=SS}
noncomputable abbrev DV:Code:=match Try.f44.body with|some c=>c|none=>.skip
theorem Mk:aj SS DV=true:=by kernel_rfl
theorem PV (B:Nat→List Nat)(W:List Nat){args:List AV}{M:AH}{K Kp:AV→AH→Prop}(hle:Nat.ble args.length 84=true)
 (h:av (Vi B W) DV (ax tb Try.f44.results.toList K) Kp (ao args) M):aa Try.prog 44 args M K Kp:=
 aG.intro (x:=Vi B W) ae mixed Try.func44 (rfl:Try.f44.body=some DV) (by kernel_rfl) Mk rfl rfl rfl hle h
noncomputable def Vh (B:Nat→List Nat)(W:List Nat):Cx:={P:=Try.prog,T:=tb,n:=4,W:=W,B:=B}
noncomputable abbrev DU:Code:=match Try.f45.body with|some c=>c|none=>.skip
theorem Mj:aj (fun _=>none) DU=true:=by kernel_rfl
theorem Ic (B:Nat→List Nat)(W:List Nat){args:List AV}{M:AH}{K Kp:AV→AH→Prop}(hle:Nat.ble args.length 4=true)
 (h:av (Vh B W) DU (ax tb Try.f45.results.toList K) Kp (ao args) M):aa Try.prog 45 args M K Kp:=
 aG.intro (x:=Vh B W) ae mixed Try.func45 (rfl:Try.f45.body=some DU) (by kernel_rfl) Mj rfl rfl rfl hle h
noncomputable def SR:Nat→Option (List (Nat×Nat)×List Nat):=fun id=>match id with
 |23=>some ([(0,0),(1,0),(2,0),(4,0),(5,0),(3,1),(6,12),(7,0),(8,2),(9,3)],[9])
 |_=>none
noncomputable def Vg (B:Nat→List Nat)(W:List Nat):Cx:={P:=Try.prog,T:=tb,n:=146,W:=W,B:=B,pl:=SR}
noncomputable abbrev DT:Code:=match Try.f46.body with|some c=>c|none=>.skip
theorem Mi:aj SR DT=true:=by kernel_rfl
theorem PU (B:Nat→List Nat)(W:List Nat){args:List AV}{M:AH}{K Kp:AV→AH→Prop}(hle:Nat.ble args.length 146=true)
 (h:av (Vg B W) DT (ax tb Try.f46.results.toList K) Kp (ao args) M):aa Try.prog 46 args M K Kp:=
 aG.intro (x:=Vg B W) ae mixed Try.func46 (rfl:Try.f46.body=some DT) (by kernel_rfl) Mi rfl rfl rfl hle h
noncomputable def Vf (B:Nat→List Nat)(W:List Nat):Cx:={P:=Try.prog,T:=tb,n:=17,W:=W,B:=B}
noncomputable abbrev DR:Code:=match Try.f47.body with|some c=>c|none=>.skip
theorem Mh:aj (fun _=>none) DR=true:=by kernel_rfl
theorem PT (B:Nat→List Nat)(W:List Nat){args:List AV}{M:AH}{K Kp:AV→AH→Prop}(hle:Nat.ble args.length 17=true)
 (h:av (Vf B W) DR (ax tb Try.f47.results.toList K) Kp (ao args) M):aa Try.prog 47 args M K Kp:=
 aG.intro (x:=Vf B W) ae mixed Try.func47 (rfl:Try.f47.body=some DR) (by kernel_rfl) Mh rfl rfl rfl hle h
noncomputable def SQ:Nat→Option (List (Nat×Nat)×List Nat):=fun id=>match id with
 |1=>some ([(0,0),(1,0),(2,0),(3,0),(4,0),(9,0),(10,0),(5,1),(6,0),(7,1),(8,0),(11,1),(12,0),(13,1),(14,0),(15,3)],[15])
 |2=>some ([(0,0),(1,0),(2,0),(3,0),(6,0),(4,1),(5,0),(7,1),(8,3)],[8])
 |_=>none
noncomputable def Ve (B:Nat→List Nat)(W:List Nat):Cx:={P:=Try.prog,T:=tb,n:=33,W:=W,B:=B,pl:=SQ}
noncomputable abbrev DQ:Code:=match Try.f48.body with|some c=>c|none=>.skip
theorem Mg:aj SQ DQ=true:=by kernel_rfl
theorem B2 (B:Nat→List Nat)(W:List Nat){args:List AV}{M:AH}{K Kp:AV→AH→Prop}(hle:Nat.ble args.length 33=true)
 (h:av (Ve B W) DQ (ax tb Try.f48.results.toList K) Kp (ao args) M):aa Try.prog 48 args M K Kp:=
 aG.intro (x:=Ve B W) ae mixed Try.func48 (rfl:Try.f48.body=some DQ) (by kernel_rfl) Mg rfl rfl rfl hle h
noncomputable def Vd (B:Nat→List Nat)(W:List Nat):Cx:={P:=Try.prog,T:=tb,n:=8,W:=W,B:=B}
noncomputable abbrev DO:Code:=match Try.f49.body with|some c=>c|none=>.skip
theorem Mf:aj (fun _=>none) DO=true:=by kernel_rfl
theorem O9 (B:Nat→List Nat)(W:List Nat){args:List AV}{M:AH}{K Kp:AV→AH→Prop}(hle:Nat.ble args.length 8=true)
 (h:bT (Vd B W) DO (ax tb Try.f49.results.toList K) Kp (ao args) M):aa Try.prog 49 args M K Kp:=
 aa.intro (x:=Vd B W) ae mixed Try.func49 (rfl:Try.f49.body=some DO) (by kernel_rfl) Mf rfl rfl rfl hle h
noncomputable def Vc (B:Nat→List Nat)(W:List Nat):Cx:={P:=Try.prog,T:=tb,n:=25,W:=W,B:=B}
noncomputable abbrev DN:Code:=match Try.f54.body with|some c=>c|none=>.skip
theorem Me:aj (fun _=>none) DN=true:=by kernel_rfl
theorem PS (B:Nat→List Nat)(W:List Nat){args:List AV}{M:AH}{K Kp:AV→AH→Prop}(hle:Nat.ble args.length 25=true)
 (h:av (Vc B W) DN (ax tb Try.f54.results.toList K) Kp (ao args) M):aa Try.prog 54 args M K Kp:=
 aG.intro (x:=Vc B W) ae mixed Try.func54 (rfl:Try.f54.body=some DN) (by kernel_rfl) Me rfl rfl rfl hle h
noncomputable def Vb (B:Nat→List Nat)(W:List Nat):Cx:={P:=Try.prog,T:=tb,n:=23,W:=W,B:=B}
noncomputable abbrev DM:Code:=match Try.f55.body with|some c=>c|none=>.skip
theorem Md:aj (fun _=>none) DM=true:=by kernel_rfl
theorem PR (B:Nat→List Nat)(W:List Nat){args:List AV}{M:AH}{K Kp:AV→AH→Prop}(hle:Nat.ble args.length 23=true)
 (h:av (Vb B W) DM (ax tb Try.f55.results.toList K) Kp (ao args) M):aa Try.prog 55 args M K Kp:=
 aG.intro (x:=Vb B W) ae mixed Try.func55 (rfl:Try.f55.body=some DM) (by kernel_rfl) Md rfl rfl rfl hle h
noncomputable def SP:Nat→Option (List (Nat×Nat)×List Nat):=fun id=>match id with
 |2=>some ([(0,0),(1,0),(2,0),(3,0),(4,0),(5,0),(6,0),(7,0),(8,0),(9,0),(10,0),(11,0),(12,0),(13,0),(14,0),(15,0),(17,0),(18,0),(19,0),(20,0),(21,0),(22,0),(23,0),(16,1),(24,1),(25,0),(26,0)],[])
 |_=>none
noncomputable def Va (B:Nat→List Nat)(W:List Nat):Cx:={P:=Try.prog,T:=tb,n:=38,W:=W,B:=B,pl:=SP}
noncomputable abbrev DL:Code:=match Try.f58.body with|some c=>c|none=>.skip
theorem Mb:aj SP DL=true:=by kernel_rfl
theorem PQ (B:Nat→List Nat)(W:List Nat){args:List AV}{M:AH}{K Kp:AV→AH→Prop}(hle:Nat.ble args.length 38=true)
 (h:av (Va B W) DL (ax tb Try.f58.results.toList K) Kp (ao args) M):aa Try.prog 58 args M K Kp:=
 aG.intro (x:=Va B W) ae mixed Try.func58 (rfl:Try.f58.body=some DL) (by kernel_rfl) Mb rfl rfl rfl hle h
noncomputable def U9 (B:Nat→List Nat)(W:List Nat):Cx:={P:=Try.prog,T:=tb,n:=14,W:=W,B:=B}
noncomputable abbrev DK:Code:=match Try.f59.body with|some c=>c|none=>.skip
theorem Ma:aj (fun _=>none) DK=true:=by kernel_rfl
theorem O8 (B:Nat→List Nat)(W:List Nat){args:List AV}{M:AH}{K Kp:AV→AH→Prop}(hle:Nat.ble args.length 14=true)
 (h:bT (U9 B W) DK (ax tb Try.f59.results.toList K) Kp (ao args) M):aa Try.prog 59 args M K Kp:=
 aa.intro (x:=U9 B W) ae mixed Try.func59 (rfl:Try.f59.body=some DK) (by kernel_rfl) Ma rfl rfl rfl hle h
noncomputable def U8 (B:Nat→List Nat)(W:List Nat):Cx:={P:=Try.prog,T:=tb,n:=7,W:=W,B:=B}
noncomputable abbrev DJ:Code:=match Try.f60.body with|some c=>c|none=>.skip
theorem L9:aj (fun _=>none) DJ=true:=by kernel_rfl
theorem PO (B:Nat→List Nat)(W:List Nat){args:List AV}{M:AH}{K Kp:AV→AH→Prop}(hle:Nat.ble args.length 7=true)
 (h:av (U8 B W) DJ (ax tb Try.f60.results.toList K) Kp (ao args) M):aa Try.prog 60 args M K Kp:=
 aG.intro (x:=U8 B W) ae mixed Try.func60 (rfl:Try.f60.body=some DJ) (by kernel_rfl) L9 rfl rfl rfl hle h
noncomputable def SO:Nat→Option (List (Nat×Nat)×List Nat):=fun id=>match id with
 |0=>some ([(0,0),(1,0),(2,0),(5,0),(6,0),(7,0),(3,1),(4,0),(8,1),(9,0)],[])
 |_=>none
noncomputable def U7 (B:Nat→List Nat)(W:List Nat):Cx:={P:=Try.prog,T:=tb,n:=25,W:=W,B:=B,pl:=SO}
noncomputable abbrev DI:Code:=match Try.f61.body with|some c=>c|none=>.skip
theorem L8:aj SO DI=true:=by kernel_rfl
theorem PN (B:Nat→List Nat)(W:List Nat){args:List AV}{M:AH}{K Kp:AV→AH→Prop}(hle:Nat.ble args.length 25=true)
 (h:av (U7 B W) DI (ax tb Try.f61.results.toList K) Kp (ao args) M):aa Try.prog 61 args M K Kp:=
 aG.intro (x:=U7 B W) ae mixed Try.func61 (rfl:Try.f61.body=some DI) (by kernel_rfl) L8 rfl rfl rfl hle h
noncomputable def SN:Nat→Option (List (Nat×Nat)×List Nat):=fun id=>match id with
 |17=>some ([(0,0),(1,0),(2,0),(3,0),(5,0),(6,0),(7,0),(10,0),(4,1),(8,1),(9,0),(11,0),(12,0),(13,1),(14,3)],[14])
 |_=>none
noncomputable def U6 (B:Nat→List Nat)(W:List Nat):Cx:={P:=Try.prog,T:=tb,n:=70,W:=W,B:=B,pl:=SN}
noncomputable abbrev DH:Code:=match Try.f62.body with|some c=>c|none=>.skip
theorem L7:aj SN DH=true:=by kernel_rfl
theorem PM (B:Nat→List Nat)(W:List Nat){args:List AV}{M:AH}{K Kp:AV→AH→Prop}(hle:Nat.ble args.length 70=true)
 (h:av (U6 B W) DH (ax tb Try.f62.results.toList K) Kp (ao args) M):aa Try.prog 62 args M K Kp:=
 aG.intro (x:=U6 B W) ae mixed Try.func62 (rfl:Try.f62.body=some DH) (by kernel_rfl) L7 rfl rfl rfl hle h
noncomputable def U5 (B:Nat→List Nat)(W:List Nat):Cx:={P:=Try.prog,T:=tb,n:=13,W:=W,B:=B}
noncomputable abbrev DG:Code:=match Try.f63.body with|some c=>c|none=>.skip
theorem L6:aj (fun _=>none) DG=true:=by kernel_rfl
theorem PL (B:Nat→List Nat)(W:List Nat){args:List AV}{M:AH}{K Kp:AV→AH→Prop}(hle:Nat.ble args.length 13=true)
 (h:av (U5 B W) DG (ax tb Try.f63.results.toList K) Kp (ao args) M):aa Try.prog 63 args M K Kp:=
 aG.intro (x:=U5 B W) ae mixed Try.func63 (rfl:Try.f63.body=some DG) (by kernel_rfl) L6 rfl rfl rfl hle h
noncomputable def SM:Nat→Option (List (Nat×Nat)×List Nat):=fun id=>match id with
 |12=>some ([(0,0),(2,0),(3,0),(1,1),(4,1),(5,2),(6,0),(7,0)],[])
 |_=>none
noncomputable def U4 (B:Nat→List Nat)(W:List Nat):Cx:={P:=Try.prog,T:=tb,n:=66,W:=W,B:=B,pl:=SM}
noncomputable abbrev DF:Code:=match Try.f64.body with|some c=>c|none=>.skip
theorem L5:aj SM DF=true:=by kernel_rfl
theorem PK (B:Nat→List Nat)(W:List Nat){args:List AV}{M:AH}{K Kp:AV→AH→Prop}(hle:Nat.ble args.length 66=true)
 (h:av (U4 B W) DF (ax tb Try.f64.results.toList K) Kp (ao args) M):aa Try.prog 64 args M K Kp:=
 aG.intro (x:=U4 B W) ae mixed Try.func64 (rfl:Try.f64.body=some DF) (by kernel_rfl) L5 rfl rfl rfl hle h
noncomputable def SL:Nat→Option (List (Nat×Nat)×List Nat):=fun id=>match id with
 |11=>some ([(0,0),(1,0),(2,0),(4,0),(5,0),(6,0),(12,0),(13,0),(14,0),(18,0),(19,0),(20,0),(3,1),(7,1),(8,0),(9,0),(10,1),(11,0),(15,1),(16,0),(17,0),(21,0),(22,0)],[])
 |_=>none
noncomputable def U3 (B:Nat→List Nat)(W:List Nat):Cx:={P:=Try.prog,T:=tb,n:=74,W:=W,B:=B,pl:=SL}
noncomputable abbrev DE:Code:=match Try.f65.body with|some c=>c|none=>.skip
theorem L4:aj SL DE=true:=by kernel_rfl
theorem PJ (B:Nat→List Nat)(W:List Nat){args:List AV}{M:AH}{K Kp:AV→AH→Prop}(hle:Nat.ble args.length 74=true)
 (h:av (U3 B W) DE (ax tb Try.f65.results.toList K) Kp (ao args) M):aa Try.prog 65 args M K Kp:=
 aG.intro (x:=U3 B W) ae mixed Try.func65 (rfl:Try.f65.body=some DE) (by kernel_rfl) L4 rfl rfl rfl hle h
noncomputable def SK:Nat→Option (List (Nat×Nat)×List Nat):=fun id=>match id with
 |0=>some ([(0,0),(1,0),(2,0),(4,0),(5,0),(6,0),(7,0),(3,1),(8,1),(9,0),(10,0),(11,0),(12,0),(13,3)],[13])
 |4=>some ([(0,0),(1,0),(2,0),(3,0),(5,0),(6,0),(7,0),(4,1),(8,1),(9,0),(10,2),(11,3),(12,0),(13,0),(14,3)],[11,14])
 |_=>none
noncomputable def U2 (B:Nat→List Nat)(W:List Nat):Cx:={P:=Try.prog,T:=tb,n:=60,W:=W,B:=B,pl:=SK}
noncomputable abbrev DD:Code:=match Try.f66.body with|some c=>c|none=>.skip
theorem L0:aj SK DD=true:=by kernel_rfl
theorem O7 (B:Nat→List Nat)(W:List Nat){args:List AV}{M:AH}{K Kp:AV→AH→Prop}(hle:Nat.ble args.length 60=true)
 (h:bT (U2 B W) DD (ax tb Try.f66.results.toList K) Kp (ao args) M):aa Try.prog 66 args M K Kp:=
 aa.intro (x:=U2 B W) ae mixed Try.func66 (rfl:Try.f66.body=some DD) (by kernel_rfl) L0 rfl rfl rfl hle h
noncomputable def U1 (B:Nat→List Nat)(W:List Nat):Cx:={P:=Try.prog,T:=tb,n:=17,W:=W,B:=B}
noncomputable abbrev DC:Code:=match Try.f67.body with|some c=>c|none=>.skip
theorem LZ:aj (fun _=>none) DC=true:=by kernel_rfl
theorem O6 (B:Nat→List Nat)(W:List Nat){args:List AV}{M:AH}{K Kp:AV→AH→Prop}(hle:Nat.ble args.length 17=true)
 (h:bT (U1 B W) DC (ax tb Try.f67.results.toList K) Kp (ao args) M):aa Try.prog 67 args M K Kp:=
 aa.intro (x:=U1 B W) ae mixed Try.func67 (rfl:Try.f67.body=some DC) (by kernel_rfl) LZ rfl rfl rfl hle h
noncomputable def SJ:Nat→Option (List (Nat×Nat)×List Nat):=fun id=>match id with
 |3=>some ([(0,0),(1,0),(2,0),(6,0),(7,0),(8,0),(3,1),(4,0),(5,0),(9,1),(10,0),(11,0)],[])
 |_=>none
noncomputable def U0 (B:Nat→List Nat)(W:List Nat):Cx:={P:=Try.prog,T:=tb,n:=16,W:=W,B:=B,pl:=SJ}
noncomputable abbrev DB:Code:=match Try.f68.body with|some c=>c|none=>.skip
theorem LY:aj SJ DB=true:=by kernel_rfl
theorem O5 (B:Nat→List Nat)(W:List Nat){args:List AV}{M:AH}{K Kp:AV→AH→Prop}(hle:Nat.ble args.length 16=true)
 (h:bT (U0 B W) DB (ax tb Try.f68.results.toList K) Kp (ao args) M):aa Try.prog 68 args M K Kp:=
 aa.intro (x:=U0 B W) ae mixed Try.func68 (rfl:Try.f68.body=some DB) (by kernel_rfl) LY rfl rfl rfl hle h
noncomputable def UZ (B:Nat→List Nat)(W:List Nat):Cx:={P:=Try.prog,T:=tb,n:=27,W:=W,B:=B}
noncomputable abbrev DA:Code:=match Try.f69.body with|some c=>c|none=>.skip
theorem LW:aj (fun _=>none) DA=true:=by kernel_rfl
theorem PI (B:Nat→List Nat)(W:List Nat){args:List AV}{M:AH}{K Kp:AV→AH→Prop}(hle:Nat.ble args.length 27=true)
 (h:av (UZ B W) DA (ax tb Try.f69.results.toList K) Kp (ao args) M):aa Try.prog 69 args M K Kp:=
 aG.intro (x:=UZ B W) ae mixed Try.func69 (rfl:Try.f69.body=some DA) (by kernel_rfl) LW rfl rfl rfl hle h
noncomputable def UY (B:Nat→List Nat)(W:List Nat):Cx:={P:=Try.prog,T:=tb,n:=30,W:=W,B:=B}
noncomputable abbrev Dz:Code:=match Try.f70.body with|some c=>c|none=>.skip
theorem LV:aj (fun _=>none) Dz=true:=by kernel_rfl
theorem PH (B:Nat→List Nat)(W:List Nat){args:List AV}{M:AH}{K Kp:AV→AH→Prop}(hle:Nat.ble args.length 30=true)
 (h:av (UY B W) Dz (ax tb Try.f70.results.toList K) Kp (ao args) M):aa Try.prog 70 args M K Kp:=
 aG.intro (x:=UY B W) ae mixed Try.func70 (rfl:Try.f70.body=some Dz) (by kernel_rfl) LV rfl rfl rfl hle h
noncomputable def UX (B:Nat→List Nat)(W:List Nat):Cx:={P:=Try.prog,T:=tb,n:=15,W:=W,B:=B}
noncomputable abbrev Dy:Code:=match Try.f71.body with|some c=>c|none=>.skip
theorem LU:aj (fun _=>none) Dy=true:=by kernel_rfl
theorem PG (B:Nat→List Nat)(W:List Nat){args:List AV}{M:AH}{K Kp:AV→AH→Prop}(hle:Nat.ble args.length 15=true)
 (h:av (UX B W) Dy (ax tb Try.f71.results.toList K) Kp (ao args) M):aa Try.prog 71 args M K Kp:=
 aG.intro (x:=UX B W) ae mixed Try.func71 (rfl:Try.f71.body=some Dy) (by kernel_rfl) LU rfl rfl rfl hle h
noncomputable def SH:Nat→Option (List (Nat×Nat)×List Nat):=fun id=>match id with
 |6=>some ([(0,0),(1,0),(2,0),(3,0),(4,0),(5,0),(6,0),(7,0),(8,0),(9,0),(10,0),(11,0),(12,0),(13,0),(14,0),(15,0),(16,0),(17,3)],[17])
 |_=>none
noncomputable def UW (B:Nat→List Nat)(W:List Nat):Cx:={P:=Try.prog,T:=tb,n:=37,W:=W,B:=B,pl:=SH}
noncomputable abbrev Dx:Code:=match Try.f72.body with|some c=>c|none=>.skip
theorem LS:aj SH Dx=true:=by kernel_rfl
theorem Ib (B:Nat→List Nat)(W:List Nat){args:List AV}{M:AH}{K Kp:AV→AH→Prop}(hle:Nat.ble args.length 37=true)
 (h:av (UW B W) Dx (ax tb Try.f72.results.toList K) Kp (ao args) M):aa Try.prog 72 args M K Kp:=
 aG.intro (x:=UW B W) ae mixed Try.func72 (rfl:Try.f72.body=some Dx) (by kernel_rfl) LS rfl rfl rfl hle h
noncomputable def UU (B:Nat→List Nat)(W:List Nat):Cx:={P:=Try.prog,T:=tb,n:=24,W:=W,B:=B}
noncomputable abbrev Dw:Code:=match Try.f73.body with|some c=>c|none=>.skip
theorem LR:aj (fun _=>none) Dw=true:=by kernel_rfl
theorem PF (B:Nat→List Nat)(W:List Nat){args:List AV}{M:AH}{K Kp:AV→AH→Prop}(hle:Nat.ble args.length 24=true)
 (h:av (UU B W) Dw (ax tb Try.f73.results.toList K) Kp (ao args) M):aa Try.prog 73 args M K Kp:=
 aG.intro (x:=UU B W) ae mixed Try.func73 (rfl:Try.f73.body=some Dw) (by kernel_rfl) LR rfl rfl rfl hle h
noncomputable def SG:Nat→Option (List (Nat×Nat)×List Nat):=fun id=>match id with
 |3=>some ([(0,0),(1,0),(2,0),(3,1),(4,0),(5,0),(6,0),(8,0),(9,0),(10,0),(14,0),(7,1),(11,0),(12,1),(13,1),(15,0),(16,1),(17,0),(18,0)],[])
 |12=>some ([(0,0),(1,0),(2,0),(4,0),(5,0),(9,0),(3,1),(6,0),(7,1),(8,1),(10,0),(11,1),(12,0),(13,0),(14,0),(15,0),(16,0),(17,0),(18,0)],[])
 |_=>none
noncomputable def UT (B:Nat→List Nat)(W:List Nat):Cx:={P:=Try.prog,T:=tb,n:=96,W:=W,B:=B,pl:=SG}
noncomputable abbrev Dv:Code:=match Try.f74.body with|some c=>c|none=>.skip
theorem LQ:aj SG Dv=true:=by kernel_rfl
theorem Ia (B:Nat→List Nat)(W:List Nat){args:List AV}{M:AH}{K Kp:AV→AH→Prop}(hle:Nat.ble args.length 96=true)
 (h:av (UT B W) Dv (ax tb Try.f74.results.toList K) Kp (ao args) M):aa Try.prog 74 args M K Kp:=
 aG.intro (x:=UT B W) ae mixed Try.func74 (rfl:Try.f74.body=some Dv) (by kernel_rfl) LQ rfl rfl rfl hle h
noncomputable def US (B:Nat→List Nat)(W:List Nat):Cx:={P:=Try.prog,T:=tb,n:=9,W:=W,B:=B}
noncomputable abbrev Du:Code:=match Try.f75.body with|some c=>c|none=>.skip
theorem LP:aj (fun _=>none) Du=true:=by kernel_rfl
theorem PE (B:Nat→List Nat)(W:List Nat){args:List AV}{M:AH}{K Kp:AV→AH→Prop}(hle:Nat.ble args.length 9=true)
 (h:av (US B W) Du (ax tb Try.f75.results.toList K) Kp (ao args) M):aa Try.prog 75 args M K Kp:=
 aG.intro (x:=US B W) ae mixed Try.func75 (rfl:Try.f75.body=some Du) (by kernel_rfl) LP rfl rfl rfl hle h
noncomputable def UR (B:Nat→List Nat)(W:List Nat):Cx:={P:=Try.prog,T:=tb,n:=9,W:=W,B:=B}
noncomputable abbrev Dt:Code:=match Try.f76.body with|some c=>c|none=>.skip
theorem LO:aj (fun _=>none) Dt=true:=by kernel_rfl
theorem PD (B:Nat→List Nat)(W:List Nat){args:List AV}{M:AH}{K Kp:AV→AH→Prop}(hle:Nat.ble args.length 9=true)
 (h:av (UR B W) Dt (ax tb Try.f76.results.toList K) Kp (ao args) M):aa Try.prog 76 args M K Kp:=
 aG.intro (x:=UR B W) ae mixed Try.func76 (rfl:Try.f76.body=some Dt) (by kernel_rfl) LO rfl rfl rfl hle h
noncomputable def SF:Nat→Option (List (Nat×Nat)×List Nat):=fun id=>match id with
 |11=>some ([(0,0),(2,0),(5,0),(1,1),(3,1),(4,0),(6,1),(7,13),(8,0),(9,2),(10,3)],[10])
 |_=>none
noncomputable def UQ (B:Nat→List Nat)(W:List Nat):Cx:={P:=Try.prog,T:=tb,n:=62,W:=W,B:=B,pl:=SF}
noncomputable abbrev Ds:Code:=match Try.f77.body with|some c=>c|none=>.skip
theorem LN:aj SF Ds=true:=by kernel_rfl
theorem PC (B:Nat→List Nat)(W:List Nat){args:List AV}{M:AH}{K Kp:AV→AH→Prop}(hle:Nat.ble args.length 62=true)
 (h:av (UQ B W) Ds (ax tb Try.f77.results.toList K) Kp (ao args) M):aa Try.prog 77 args M K Kp:=
 aG.intro (x:=UQ B W) ae mixed Try.func77 (rfl:Try.f77.body=some Ds) (by kernel_rfl) LN rfl rfl rfl hle h
noncomputable def UP (B:Nat→List Nat)(W:List Nat):Cx:={P:=Try.prog,T:=tb,n:=17,W:=W,B:=B}
noncomputable abbrev Dr:Code:=match Try.f78.body with|some c=>c|none=>.skip
theorem LM:aj (fun _=>none) Dr=true:=by kernel_rfl
theorem PB (B:Nat→List Nat)(W:List Nat){args:List AV}{M:AH}{K Kp:AV→AH→Prop}(hle:Nat.ble args.length 17=true)
 (h:av (UP B W) Dr (ax tb Try.f78.results.toList K) Kp (ao args) M):aa Try.prog 78 args M K Kp:=
 aG.intro (x:=UP B W) ae mixed Try.func78 (rfl:Try.f78.body=some Dr) (by kernel_rfl) LM rfl rfl rfl hle h
noncomputable def UO (B:Nat→List Nat)(W:List Nat):Cx:={P:=Try.prog,T:=tb,n:=7,W:=W,B:=B}
noncomputable abbrev Dq:Code:=match Try.f79.body with|some c=>c|none=>.skip
theorem LL:aj (fun _=>none) Dq=true:=by kernel_rfl
theorem PA (B:Nat→List Nat)(W:List Nat){args:List AV}{M:AH}{K Kp:AV→AH→Prop}(hle:Nat.ble args.length 7=true)
 (h:av (UO B W) Dq (ax tb Try.f79.results.toList K) Kp (ao args) M):aa Try.prog 79 args M K Kp:=
 aG.intro (x:=UO B W) ae mixed Try.func79 (rfl:Try.f79.body=some Dq) (by kernel_rfl) LL rfl rfl rfl hle h
noncomputable def UN (B:Nat→List Nat)(W:List Nat):Cx:={P:=Try.prog,T:=tb,n:=75,W:=W,B:=B}
noncomputable abbrev Dp:Code:=match Try.f80.body with|some c=>c|none=>.skip
theorem LJ:aj (fun _=>none) Dp=true:=by kernel_rfl
theorem H9 (B:Nat→List Nat)(W:List Nat){args:List AV}{M:AH}{K Kp:AV→AH→Prop}(hle:Nat.ble args.length 75=true)
 (h:av (UN B W) Dp (ax tb Try.f80.results.toList K) Kp (ao args) M):aa Try.prog 80 args M K Kp:=
 aG.intro (x:=UN B W) ae mixed Try.func80 (rfl:Try.f80.body=some Dp) (by kernel_rfl) LJ rfl rfl rfl hle h
noncomputable def SE:Nat→Option (List (Nat×Nat)×List Nat):=fun id=>match id with
 |0=>some ([(1,0),(2,0),(3,0),(0,1),(4,2),(5,0),(6,3)],[6])
 |_=>none
noncomputable def UM (B:Nat→List Nat)(W:List Nat):Cx:={P:=Try.prog,T:=tb,n:=13,W:=W,B:=B,pl:=SE}
noncomputable abbrev Dn:Code:=match Try.f81.body with|some c=>c|none=>.skip
theorem LI:aj SE Dn=true:=by kernel_rfl
theorem Pz (B:Nat→List Nat)(W:List Nat){args:List AV}{M:AH}{K Kp:AV→AH→Prop}(hle:Nat.ble args.length 13=true)
 (h:av (UM B W) Dn (ax tb Try.f81.results.toList K) Kp (ao args) M):aa Try.prog 81 args M K Kp:=
 aG.intro (x:=UM B W) ae mixed Try.func81 (rfl:Try.f81.body=some Dn) (by kernel_rfl) LI rfl rfl rfl hle h
noncomputable def UL (B:Nat→List Nat)(W:List Nat):Cx:={P:=Try.prog,T:=tb,n:=19,W:=W,B:=B}
noncomputable abbrev Dm:Code:=match Try.f82.body with|some c=>c|none=>.skip
theorem LH:aj (fun _=>none) Dm=true:=by kernel_rfl
theorem Py (B:Nat→List Nat)(W:List Nat){args:List AV}{M:AH}{K Kp:AV→AH→Prop}(hle:Nat.ble args.length 19=true)
 (h:av (UL B W) Dm (ax tb Try.f82.results.toList K) Kp (ao args) M):aa Try.prog 82 args M K Kp:=
 aG.intro (x:=UL B W) ae mixed Try.func82 (rfl:Try.f82.body=some Dm) (by kernel_rfl) LH rfl rfl rfl hle h
noncomputable def UK (B:Nat→List Nat)(W:List Nat):Cx:={P:=Try.prog,T:=tb,n:=19,W:=W,B:=B}
noncomputable abbrev Dl:Code:=match Try.f86.body with|some c=>c|none=>.skip
theorem LG:aj (fun _=>none) Dl=true:=by kernel_rfl
theorem Px (B:Nat→List Nat)(W:List Nat){args:List AV}{M:AH}{K Kp:AV→AH→Prop}(hle:Nat.ble args.length 19=true)
 (h:av (UK B W) Dl (ax tb Try.f86.results.toList K) Kp (ao args) M):aa Try.prog 86 args M K Kp:=
 aG.intro (x:=UK B W) ae mixed Try.func86 (rfl:Try.f86.body=some Dl) (by kernel_rfl) LG rfl rfl rfl hle h
noncomputable def SD:Nat→Option (List (Nat×Nat)×List Nat):=fun id=>match id with
 |4=>some ([(0,0),(1,0),(2,0),(3,0),(4,0),(5,0),(6,0),(7,0),(8,0),(9,3),(10,0),(11,0)],[9])
 |_=>none
noncomputable def UJ (B:Nat→List Nat)(W:List Nat):Cx:={P:=Try.prog,T:=tb,n:=28,W:=W,B:=B,pl:=SD}
noncomputable abbrev Dk:Code:=match Try.f87.body with|some c=>c|none=>.skip
theorem LF:aj SD Dk=true:=by kernel_rfl
theorem Pw (B:Nat→List Nat)(W:List Nat){args:List AV}{M:AH}{K Kp:AV→AH→Prop}(hle:Nat.ble args.length 28=true)
 (h:av (UJ B W) Dk (ax tb Try.f87.results.toList K) Kp (ao args) M):aa Try.prog 87 args M K Kp:=
 aG.intro (x:=UJ B W) ae mixed Try.func87 (rfl:Try.f87.body=some Dk) (by kernel_rfl) LF rfl rfl rfl hle h
noncomputable def UI (B:Nat→List Nat)(W:List Nat):Cx:={P:=Try.prog,T:=tb,n:=16,W:=W,B:=B}
noncomputable abbrev Dj:Code:=match Try.f88.body with|some c=>c|none=>.skip
theorem LD:aj (fun _=>none) Dj=true:=by kernel_rfl
theorem Pv (B:Nat→List Nat)(W:List Nat){args:List AV}{M:AH}{K Kp:AV→AH→Prop}(hle:Nat.ble args.length 16=true)
 (h:av (UI B W) Dj (ax tb Try.f88.results.toList K) Kp (ao args) M):aa Try.prog 88 args M K Kp:=
 aG.intro (x:=UI B W) ae mixed Try.func88 (rfl:Try.f88.body=some Dj) (by kernel_rfl) LD rfl rfl rfl hle h
noncomputable def SC:Nat→Option (List (Nat×Nat)×List Nat):=fun id=>match id with
 |3=>some ([(0,0),(1,0),(2,0),(6,0),(7,0),(8,0),(3,1),(4,0),(5,0),(9,1),(10,0),(11,0)],[])
 |_=>none
noncomputable def UH (B:Nat→List Nat)(W:List Nat):Cx:={P:=Try.prog,T:=tb,n:=16,W:=W,B:=B,pl:=SC}
noncomputable abbrev Di:Code:=match Try.f89.body with|some c=>c|none=>.skip
theorem LC:aj SC Di=true:=by kernel_rfl
theorem O4 (B:Nat→List Nat)(W:List Nat){args:List AV}{M:AH}{K Kp:AV→AH→Prop}(hle:Nat.ble args.length 16=true)
 (h:bT (UH B W) Di (ax tb Try.f89.results.toList K) Kp (ao args) M):aa Try.prog 89 args M K Kp:=
 aa.intro (x:=UH B W) ae mixed Try.func89 (rfl:Try.f89.body=some Di) (by kernel_rfl) LC rfl rfl rfl hle h
noncomputable def UG (B:Nat→List Nat)(W:List Nat):Cx:={P:=Try.prog,T:=tb,n:=51,W:=W,B:=B}
noncomputable abbrev Dh:Code:=match Try.f91.body with|some c=>c|none=>.skip
theorem LB:aj (fun _=>none) Dh=true:=by kernel_rfl
theorem Pu (B:Nat→List Nat)(W:List Nat){args:List AV}{M:AH}{K Kp:AV→AH→Prop}(hle:Nat.ble args.length 51=true)
 (h:av (UG B W) Dh (ax tb Try.f91.results.toList K) Kp (ao args) M):aa Try.prog 91 args M K Kp:=
 aG.intro (x:=UG B W) ae mixed Try.func91 (rfl:Try.f91.body=some Dh) (by kernel_rfl) LB rfl rfl rfl hle h
noncomputable def UF (B:Nat→List Nat)(W:List Nat):Cx:={P:=Try.prog,T:=tb,n:=19,W:=W,B:=B}
noncomputable abbrev Dg:Code:=match Try.f92.body with|some c=>c|none=>.skip
theorem LA:aj (fun _=>none) Dg=true:=by kernel_rfl
theorem Pt (B:Nat→List Nat)(W:List Nat){args:List AV}{M:AH}{K Kp:AV→AH→Prop}(hle:Nat.ble args.length 19=true)
 (h:av (UF B W) Dg (ax tb Try.f92.results.toList K) Kp (ao args) M):aa Try.prog 92 args M K Kp:=
 aG.intro (x:=UF B W) ae mixed Try.func92 (rfl:Try.f92.body=some Dg) (by kernel_rfl) LA rfl rfl rfl hle h
noncomputable def UE (B:Nat→List Nat)(W:List Nat):Cx:={P:=Try.prog,T:=tb,n:=8,W:=W,B:=B}
noncomputable abbrev Df:Code:=match Try.f93.body with|some c=>c|none=>.skip
theorem Lz:aj (fun _=>none) Df=true:=by kernel_rfl
theorem Ps (B:Nat→List Nat)(W:List Nat){args:List AV}{M:AH}{K Kp:AV→AH→Prop}(hle:Nat.ble args.length 8=true)
 (h:av (UE B W) Df (ax tb Try.f93.results.toList K) Kp (ao args) M):aa Try.prog 93 args M K Kp:=
 aG.intro (x:=UE B W) ae mixed Try.func93 (rfl:Try.f93.body=some Df) (by kernel_rfl) Lz rfl rfl rfl hle h
noncomputable def UD (B:Nat→List Nat)(W:List Nat):Cx:={P:=Try.prog,T:=tb,n:=5,W:=W,B:=B}
noncomputable abbrev De:Code:=match Try.f94.body with|some c=>c|none=>.skip
theorem Ly:aj (fun _=>none) De=true:=by kernel_rfl
theorem Pr (B:Nat→List Nat)(W:List Nat){args:List AV}{M:AH}{K Kp:AV→AH→Prop}(hle:Nat.ble args.length 5=true)
 (h:av (UD B W) De (ax tb Try.f94.results.toList K) Kp (ao args) M):aa Try.prog 94 args M K Kp:=
 aG.intro (x:=UD B W) ae mixed Try.func94 (rfl:Try.f94.body=some De) (by kernel_rfl) Ly rfl rfl rfl hle h
noncomputable def UC (B:Nat→List Nat)(W:List Nat):Cx:={P:=Try.prog,T:=tb,n:=8,W:=W,B:=B}
noncomputable abbrev Dd:Code:=match Try.f95.body with|some c=>c|none=>.skip
theorem Lx:aj (fun _=>none) Dd=true:=by kernel_rfl
theorem Pq (B:Nat→List Nat)(W:List Nat){args:List AV}{M:AH}{K Kp:AV→AH→Prop}(hle:Nat.ble args.length 8=true)
 (h:av (UC B W) Dd (ax tb Try.f95.results.toList K) Kp (ao args) M):aa Try.prog 95 args M K Kp:=
 aG.intro (x:=UC B W) ae mixed Try.func95 (rfl:Try.f95.body=some Dd) (by kernel_rfl) Lx rfl rfl rfl hle h
noncomputable def UB (B:Nat→List Nat)(W:List Nat):Cx:={P:=Try.prog,T:=tb,n:=48,W:=W,B:=B}
noncomputable abbrev Dc:Code:=match Try.f96.body with|some c=>c|none=>.skip
theorem Lw:aj (fun _=>none) Dc=true:=by kernel_rfl
theorem Pp (B:Nat→List Nat)(W:List Nat){args:List AV}{M:AH}{K Kp:AV→AH→Prop}(hle:Nat.ble args.length 48=true)
 (h:av (UB B W) Dc (ax tb Try.f96.results.toList K) Kp (ao args) M):aa Try.prog 96 args M K Kp:=
 aG.intro (x:=UB B W) ae mixed Try.func96 (rfl:Try.f96.body=some Dc) (by kernel_rfl) Lw rfl rfl rfl hle h
noncomputable def UA (B:Nat→List Nat)(W:List Nat):Cx:={P:=Try.prog,T:=tb,n:=15,W:=W,B:=B}
noncomputable abbrev Db:Code:=match Try.f97.body with|some c=>c|none=>.skip
theorem Lv:aj (fun _=>none) Db=true:=by kernel_rfl
theorem Po (B:Nat→List Nat)(W:List Nat){args:List AV}{M:AH}{K Kp:AV→AH→Prop}(hle:Nat.ble args.length 15=true)
 (h:av (UA B W) Db (ax tb Try.f97.results.toList K) Kp (ao args) M):aa Try.prog 97 args M K Kp:=
 aG.intro (x:=UA B W) ae mixed Try.func97 (rfl:Try.f97.body=some Db) (by kernel_rfl) Lv rfl rfl rfl hle h
noncomputable def Uz (B:Nat→List Nat)(W:List Nat):Cx:={P:=Try.prog,T:=tb,n:=9,W:=W,B:=B}
noncomputable abbrev Da:Code:=match Try.f98.body with|some c=>c|none=>.skip
theorem Lu:aj (fun _=>none) Da=true:=by kernel_rfl
theorem Pn (B:Nat→List Nat)(W:List Nat){args:List AV}{M:AH}{K Kp:AV→AH→Prop}(hle:Nat.ble args.length 9=true)
 (h:av (Uz B W) Da (ax tb Try.f98.results.toList K) Kp (ao args) M):aa Try.prog 98 args M K Kp:=
 aG.intro (x:=Uz B W) ae mixed Try.func98 (rfl:Try.f98.body=some Da) (by kernel_rfl) Lu rfl rfl rfl hle h
noncomputable def Uy (B:Nat→List Nat)(W:List Nat):Cx:={P:=Try.prog,T:=tb,n:=5,W:=W,B:=B}
noncomputable abbrev C9:Code:=match Try.f99.body with|some c=>c|none=>.skip
theorem Lt:aj (fun _=>none) C9=true:=by kernel_rfl
theorem Pm (B:Nat→List Nat)(W:List Nat){args:List AV}{M:AH}{K Kp:AV→AH→Prop}(hle:Nat.ble args.length 5=true)
 (h:av (Uy B W) C9 (ax tb Try.f99.results.toList K) Kp (ao args) M):aa Try.prog 99 args M K Kp:=
 aG.intro (x:=Uy B W) ae mixed Try.func99 (rfl:Try.f99.body=some C9) (by kernel_rfl) Lt rfl rfl rfl hle h
noncomputable def Om:Nat→Option (List (Nat×Nat)×List Nat):=fun id=>match id with
 |4=>some ([(0,0),(1,0),(2,0),(3,1),(4,1),(5,1),(6,0),(7,0),(8,0),(9,0),(10,0)],[])
 |_=>none
noncomputable def OT (B:Nat→List Nat)(W:List Nat):Cx:={P:=Try.prog,T:=tb,n:=52,W:=W,B:=B,pl:=Om}
noncomputable abbrev zi:Code:=match Try.f101.body with|some c=>c|none=>.skip
theorem IH:aj Om zi=true:=by kernel_rfl
theorem Lj (B:Nat→List Nat)(W:List Nat){args:List AV}{M:AH}{K Kp:AV→AH→Prop}(hle:Nat.ble args.length 52=true)
 (h:av (OT B W) zi (ax tb Try.f101.results.toList K) Kp (ao args) M):aa Try.prog 101 args M K Kp:=
 aG.intro (x:=OT B W) ae mixed Try.func101 (rfl:Try.f101.body=some zi) (by kernel_rfl) IH rfl rfl rfl hle h
noncomputable def Ol:Nat→Option (List (Nat×Nat)×List Nat):=fun id=>match id with
 |4=>some ([(4,0),(5,0),(6,0),(7,0),(8,0),(9,0),(10,0),(0,1),(1,0),(2,0),(3,1),(11,3)],[11])
 |_=>none
noncomputable def OS (B:Nat→List Nat)(W:List Nat):Cx:={P:=Try.prog,T:=tb,n:=33,W:=W,B:=B,pl:=Ol}
noncomputable abbrev zh:Code:=match Try.f102.body with|some c=>c|none=>.skip
theorem IG:aj Ol zh=true:=by kernel_rfl
theorem Li (B:Nat→List Nat)(W:List Nat){args:List AV}{M:AH}{K Kp:AV→AH→Prop}(hle:Nat.ble args.length 33=true)
 (h:av (OS B W) zh (ax tb Try.f102.results.toList K) Kp (ao args) M):aa Try.prog 102 args M K Kp:=
 aG.intro (x:=OS B W) ae mixed Try.func102 (rfl:Try.f102.body=some zh) (by kernel_rfl) IG rfl rfl rfl hle h
noncomputable def OR (B:Nat→List Nat)(W:List Nat):Cx:={P:=Try.prog,T:=tb,n:=19,W:=W,B:=B}
noncomputable abbrev zg:Code:=match Try.f103.body with|some c=>c|none=>.skip
theorem IF:aj (fun _=>none) zg=true:=by kernel_rfl
theorem Lh (B:Nat→List Nat)(W:List Nat){args:List AV}{M:AH}{K Kp:AV→AH→Prop}(hle:Nat.ble args.length 19=true)
 (h:av (OR B W) zg (ax tb Try.f103.results.toList K) Kp (ao args) M):aa Try.prog 103 args M K Kp:=
 aG.intro (x:=OR B W) ae mixed Try.func103 (rfl:Try.f103.body=some zg) (by kernel_rfl) IF rfl rfl rfl hle h
noncomputable def Ok:Nat→Option (List (Nat×Nat)×List Nat):=fun id=>match id with
 |1=>some ([(0,0),(1,0),(2,0),(3,0),(5,0),(6,0),(7,0),(8,0),(4,1),(9,1),(10,0),(11,0),(12,0),(13,0),(14,0),(15,0),(17,0),(18,0),(19,0),(20,0),(16,1),(21,1),(22,0),(23,0),(24,0),(25,0),(26,0),(27,0),(29,0),(30,0),(31,0),(32,0),(28,1),(33,1),(34,0),(35,0),(36,0),(37,0)],[])
 |_=>none
noncomputable def OQ (B:Nat→List Nat)(W:List Nat):Cx:={P:=Try.prog,T:=tb,n:=44,W:=W,B:=B,pl:=Ok}
noncomputable abbrev zf:Code:=match Try.f121.body with|some c=>c|none=>.skip
theorem IE:aj Ok zf=true:=by kernel_rfl
theorem Lg (B:Nat→List Nat)(W:List Nat){args:List AV}{M:AH}{K Kp:AV→AH→Prop}(hle:Nat.ble args.length 44=true)
 (h:av (OQ B W) zf (ax tb Try.f121.results.toList K) Kp (ao args) M):aa Try.prog 121 args M K Kp:=
 aG.intro (x:=OQ B W) ae mixed Try.func121 (rfl:Try.f121.body=some zf) (by kernel_rfl) IE rfl rfl rfl hle h
noncomputable def Oj:Nat→Option (List (Nat×Nat)×List Nat):=fun id=>match id with
 |0=>some ([(0,0),(1,0),(2,0),(3,0),(4,0),(5,0),(6,0),(8,0),(9,0),(10,0),(7,1),(11,1),(12,0),(13,3),(14,0),(15,3)],[13,15])
 |_=>none
noncomputable def OP (B:Nat→List Nat)(W:List Nat):Cx:={P:=Try.prog,T:=tb,n:=20,W:=W,B:=B,pl:=Oj}
noncomputable abbrev ze:Code:=match Try.f122.body with|some c=>c|none=>.skip
theorem ID:aj Oj ze=true:=by kernel_rfl
theorem Lf (B:Nat→List Nat)(W:List Nat){args:List AV}{M:AH}{K Kp:AV→AH→Prop}(hle:Nat.ble args.length 20=true)
 (h:av (OP B W) ze (ax tb Try.f122.results.toList K) Kp (ao args) M):aa Try.prog 122 args M K Kp:=
 aG.intro (x:=OP B W) ae mixed Try.func122 (rfl:Try.f122.body=some ze) (by kernel_rfl) ID rfl rfl rfl hle h
noncomputable def OO (B:Nat→List Nat)(W:List Nat):Cx:={P:=Try.prog,T:=tb,n:=23,W:=W,B:=B}
noncomputable abbrev zd:Code:=match Try.f123.body with|some c=>c|none=>.skip
theorem IC:aj (fun _=>none) zd=true:=by kernel_rfl
theorem Le (B:Nat→List Nat)(W:List Nat){args:List AV}{M:AH}{K Kp:AV→AH→Prop}(hle:Nat.ble args.length 23=true)
 (h:av (OO B W) zd (ax tb Try.f123.results.toList K) Kp (ao args) M):aa Try.prog 123 args M K Kp:=
 aG.intro (x:=OO B W) ae mixed Try.func123 (rfl:Try.f123.body=some zd) (by kernel_rfl) IC rfl rfl rfl hle h
end Go.Proofs.Ytibadaomjlkoaaa
