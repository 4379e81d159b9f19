import Derived.Test.YtibadaomjlkoaaaAb23
import Derived.Test.YtibadaomjlkoaaaProg
import Derived.KernelRfl
set_option linter.unusedVariables false
namespace Go.Proofs.Ytibadaomjlkoaaa
noncomputable def tb:List TI:=[
⟨.other,1,0,[.raw (.tuple #[])]⟩,
⟨.func,1,8,[.nf]⟩,
⟨(.int .i64),1,8,[.int .i64 0]⟩,
⟨(.int .i64),1,8,[.int .i64 0]⟩,
⟨.bool,1,1,[.ff]⟩,
⟨(.int .u8),1,1,[.int .u8 0]⟩,
⟨(.int .u8),1,1,[.int .u8 0]⟩,
⟨(.struct [(0,2),(1,3),(2,4),(3,6)]),4,24,[.int .i64 0,.int .i64 0,.ff,.int .u8 0]⟩,
⟨(.struct [(0,2),(1,3),(2,4),(3,6)]),4,24,[.int .i64 0,.int .i64 0,.ff,.int .u8 0]⟩,
⟨.str,1,16,[.str ByteArray.empty]⟩,
⟨.str,1,16,[.str ByteArray.empty]⟩,
⟨.str,1,16,[.str ByteArray.empty]⟩,
⟨(.int .u64),1,8,[.int .u64 0]⟩,
⟨(.struct [(0,9),(1,12)]),2,24,[.str ByteArray.empty,.int .u64 0]⟩,
⟨(.struct [(0,9),(1,12)]),2,24,[.str ByteArray.empty,.int .u64 0]⟩,
⟨(.ptr 174),1,8,[.np]⟩,
⟨(.ptr 177),1,8,[.np]⟩,
⟨(.ptr 185),1,8,[.np]⟩,
⟨(.struct [(0,17)]),1,8,[.np]⟩,
⟨(.struct [(0,17)]),1,8,[.np]⟩,
⟨.iface,1,16,[.ni]⟩,
⟨(.int .i32),1,4,[.int .i32 0]⟩,
⟨(.slice 5),1,24,[.ns]⟩,
⟨(.int .i64),1,8,[.int .i64 0]⟩,
⟨.other,1,0,[.raw (.tuple #[.slice none 0 0,.int .i64 0])]⟩,
⟨.func,1,8,[.nf]⟩,
⟨.other,1,0,[.raw (.tuple #[.slice none 0 0,.int .i64 0,.int .i64 0])]⟩,
⟨.func,1,8,[.nf]⟩,
⟨.func,1,8,[.nf]⟩,
⟨.func,1,8,[.nf]⟩,
⟨.func,1,8,[.nf]⟩,
⟨.func,1,8,[.nf]⟩,
⟨.func,1,8,[.nf]⟩,
⟨(.int .u16),1,2,[.int .u16 0]⟩,
⟨.func,1,8,[.nf]⟩,
⟨(.int .u32),1,4,[.int .u32 0]⟩,
⟨(.int .u64),1,8,[.int .u64 0]⟩,
⟨(.slice 61),1,24,[.ns]⟩,
⟨.func,1,8,[.nf]⟩,
⟨(.ptr 43),1,8,[.np]⟩,
⟨(.struct [(0,22),(1,35),(2,3)]),3,40,[.ns,.int .u32 0,.int .i64 0]⟩,
⟨(.struct [(0,22),(1,35),(2,3)]),3,40,[.ns,.int .u32 0,.int .i64 0]⟩,
⟨(.struct [(0,41),(3,37),(4,22),(5,22)]),6,112,[.ns,.int .u32 0,.int .i64 0,.ns,.ns,.ns]⟩,
⟨(.struct [(0,41),(3,37),(4,22),(5,22)]),6,112,[.ns,.int .u32 0,.int .i64 0,.ns,.ns,.ns]⟩,
⟨.func,1,8,[.nf]⟩,
⟨(.slice 1),1,24,[.ns]⟩,
⟨(.slice 39),1,24,[.ns]⟩,
⟨.func,1,8,[.nf]⟩,
⟨(.ptr 53),1,8,[.np]⟩,
⟨(.slice 4),1,24,[.ns]⟩,
⟨(.slice 4),1,24,[.ns]⟩,
⟨.func,1,8,[.nf]⟩,
⟨(.struct [(0,50),(1,3),(2,22),(3,3),(4,23)]),5,72,[.ns,.int .i64 0,.ns,.int .i64 0,.int .i64 0]⟩,
⟨(.struct [(0,50),(1,3),(2,22),(3,3),(4,23)]),5,72,[.ns,.int .i64 0,.ns,.int .i64 0,.int .i64 0]⟩,
⟨.other,1,0,[.raw (.tuple #[.slice none 0 0,.slice none 0 0])]⟩,
⟨.func,1,8,[.nf]⟩,
⟨.func,1,8,[.nf]⟩,
⟨(.slice 141),1,24,[.ns]⟩,
⟨.func,1,8,[.nf]⟩,
⟨.func,1,8,[.nf]⟩,
⟨(.struct [(0,5),(1,3),(2,3)]),3,24,[.int .u8 0,.int .i64 0,.int .i64 0]⟩,
⟨(.struct [(0,5),(1,3),(2,3)]),3,24,[.int .u8 0,.int .i64 0,.int .i64 0]⟩,
⟨.func,1,8,[.nf]⟩,
⟨(.struct [(0,23)]),1,8,[.int .i64 0]⟩,
⟨(.struct [(0,23)]),1,8,[.int .i64 0]⟩,
⟨.other,1,0,[.raw (.tuple #[.agg #[.int .i64 0],.bool false])]⟩,
⟨(.ptr 70),1,8,[.np]⟩,
⟨(.ptr 104),1,8,[.np]⟩,
⟨.func,1,8,[.nf]⟩,
⟨(.struct [(0,67),(1,22),(2,3)]),3,40,[.np,.ns,.int .i64 0]⟩,
⟨(.struct [(0,67),(1,22),(2,3)]),3,40,[.np,.ns,.int .i64 0]⟩,
⟨.func,1,8,[.nf]⟩,
⟨(.arr 4 71),4,32,[.nf,.nf,.nf,.nf]⟩,
⟨.func,1,8,[.nf]⟩,
⟨(.map 76 3),1,8,[.nm]⟩,
⟨(.slice 3),1,24,[.ns]⟩,
⟨(.arr 3 5),3,3,[.int .u8 0,.int .u8 0,.int .u8 0]⟩,
⟨.func,1,8,[.nf]⟩,
⟨.func,1,8,[.nf]⟩,
⟨.func,1,8,[.nf]⟩,
⟨.func,1,8,[.nf]⟩,
⟨.func,1,8,[.nf]⟩,
⟨.func,1,8,[.nf]⟩,
⟨.func,1,8,[.nf]⟩,
⟨.func,1,8,[.nf]⟩,
⟨(.struct [(0,3),(1,3),(2,3)]),3,24,[.int .i64 0,.int .i64 0,.int .i64 0]⟩,
⟨(.struct [(0,3),(1,3),(2,3)]),3,24,[.int .i64 0,.int .i64 0,.int .i64 0]⟩,
⟨.func,1,8,[.nf]⟩,
⟨(.slice 33),1,24,[.ns]⟩,
⟨.other,1,0,[.raw (.tuple #[.slice none 0 0,.int .i64 0])]⟩,
⟨.func,1,8,[.nf]⟩,
⟨.func,1,8,[.nf]⟩,
⟨(.ptr 41),1,8,[.np]⟩,
⟨.func,1,8,[.nf]⟩,
⟨.other,1,0,[.raw (.tuple #[.int .u32 0,.int .i64 0,.int .i64 0])]⟩,
⟨.func,1,8,[.nf]⟩,
⟨.func,1,8,[.nf]⟩,
⟨.func,1,8,[.nf]⟩,
⟨.other,1,0,[.raw (.tuple #[.int .i64 0,.int .i64 0])]⟩,
⟨.func,1,8,[.nf]⟩,
⟨.other,1,0,[.raw (.tuple #[.slice none 0 0,.int .i64 0])]⟩,
⟨.func,1,8,[.nf]⟩,
⟨.func,1,8,[.nf]⟩,
⟨(.struct [(0,22),(1,3)]),2,32,[.ns,.int .i64 0]⟩,
⟨(.struct [(0,22),(1,3)]),2,32,[.ns,.int .i64 0]⟩,
⟨.func,1,8,[.nf]⟩,
⟨.func,1,8,[.nf]⟩,
⟨(.arr 2 3),2,16,[.int .i64 0,.int .i64 0]⟩,
⟨(.slice 107),1,24,[.ns]⟩,
⟨.func,1,8,[.nf]⟩,
⟨(.ptr 164),1,8,[.np]⟩,
⟨.func,1,8,[.nf]⟩,
⟨.func,1,8,[.nf]⟩,
⟨.other,1,0,[.raw (.tuple #[.int .u32 0,.int .i64 0])]⟩,
⟨.func,1,8,[.nf]⟩,
⟨.func,1,8,[.nf]⟩,
⟨.func,1,8,[.nf]⟩,
⟨(.slice 22),1,24,[.ns]⟩,
⟨.other,1,0,[.raw (.tuple #[.int .u64 0,.int .u64 0])]⟩,
⟨.func,1,8,[.nf]⟩,
⟨.func,1,8,[.nf]⟩,
⟨.func,1,8,[.nf]⟩,
⟨.func,1,8,[.nf]⟩,
⟨.func,1,8,[.nf]⟩,
⟨.func,1,8,[.nf]⟩,
⟨(.slice 127),1,24,[.ns]⟩,
⟨(.struct [(0,3),(1,3),(2,75)]),3,40,[.int .i64 0,.int .i64 0,.ns]⟩,
⟨(.struct [(0,3),(1,3),(2,75)]),3,40,[.int .i64 0,.int .i64 0,.ns]⟩,
⟨.func,1,8,[.nf]⟩,
⟨(.slice 127),1,24,[.ns]⟩,
⟨.func,1,8,[.nf]⟩,
⟨(.ptr 129),1,8,[.np]⟩,
⟨.func,1,8,[.nf]⟩,
⟨.func,1,8,[.nf]⟩,
⟨.func,1,8,[.nf]⟩,
⟨.func,1,8,[.nf]⟩,
⟨.func,1,8,[.nf]⟩,
⟨.other,1,0,[.raw (.tuple #[.int .i64 0,.int .i64 0,.int .i64 0])]⟩,
⟨.func,1,8,[.nf]⟩,
⟨.func,1,8,[.nf]⟩,
⟨(.struct [(0,3),(1,50)]),2,32,[.int .i64 0,.ns]⟩,
⟨(.struct [(0,3),(1,50)]),2,32,[.int .i64 0,.ns]⟩,
⟨.func,1,8,[.nf]⟩,
⟨.other,1,0,[.raw (.tuple #[.pointer none,.int .i64 0])]⟩,
⟨.func,1,8,[.nf]⟩,
⟨(.arr 3 107),6,48,[.int .i64 0,.int .i64 0,.int .i64 0,.int .i64 0,.int .i64 0,.int .i64 0]⟩,
⟨.other,1,0,[.raw (.tuple #[.int .u32 0,.int .u32 0])]⟩,
⟨.func,1,8,[.nf]⟩,
⟨(.int .u64),1,8,[.int .u64 0]⟩,
⟨.other,1,0,[.raw (.tuple #[.int .u64 0,.int .u64 0])]⟩,
⟨.func,1,8,[.nf]⟩,
⟨.func,1,8,[.nf]⟩,
⟨.func,1,8,[.nf]⟩,
⟨.iface,1,16,[.ni]⟩,
⟨.iface,1,16,[.ni]⟩,
⟨.func,1,8,[.nf]⟩,
⟨.func,1,8,[.nf]⟩,
⟨.func,1,8,[.nf]⟩,
⟨.func,1,8,[.nf]⟩,
⟨.func,1,8,[.nf]⟩,
⟨.other,1,0,[.raw (.tuple #[.int .i64 0,.int .i64 0])]⟩,
⟨.func,1,8,[.nf]⟩,
⟨(.map 166 3),1,8,[.nm]⟩,
⟨(.struct [(0,162)]),1,8,[.nm]⟩,
⟨(.struct [(0,162)]),1,8,[.nm]⟩,
⟨(.struct [(0,3),(1,3)]),2,16,[.int .i64 0,.int .i64 0]⟩,
⟨(.struct [(0,3),(1,3)]),2,16,[.int .i64 0,.int .i64 0]⟩,
⟨.func,1,8,[.nf]⟩,
⟨.func,1,8,[.nf]⟩,
⟨.func,1,8,[.nf]⟩,
⟨.func,1,8,[.nf]⟩,
⟨.other,1,0,[.raw (.tuple #[.int .i64 0,.bool false])]⟩,
⟨.func,1,8,[.nf]⟩,
⟨(.struct [(0,17),(1,17),(2,17),(3,9)]),4,40,[.np,.np,.np,.str ByteArray.empty]⟩,
⟨(.struct [(0,17),(1,17),(2,17),(3,9)]),4,40,[.np,.np,.np,.str ByteArray.empty]⟩,
⟨(.arr 0 16),0,0,[]⟩,
⟨(.struct [(0,175)]),0,0,[]⟩,
⟨(.struct [(0,175)]),0,0,[]⟩,
⟨(.int .u8),1,1,[.int .u8 0]⟩,
⟨(.int .u8),1,1,[.int .u8 0]⟩,
⟨.func,1,8,[.nf]⟩,
⟨(.ptr 5),1,8,[.np]⟩,
⟨(.int .i32),1,4,[.int .i32 0]⟩,
⟨(.int .i32),1,4,[.int .i32 0]⟩,
⟨(.struct [(0,12),(1,12),(2,35),(3,178),(4,5),(5,5),(6,179),(7,180),(8,181),(9,182),(10,183)]),11,48,[.int .u64 0,.int .u64 0,.int .u32 0,.int .u8 0,.int .u8 0,.int .u8 0,.int .u8 0,.nf,.np,.int .i32 0,.int .i32 0]⟩,
⟨(.struct [(0,12),(1,12),(2,35),(3,178),(4,5),(5,5),(6,179),(7,180),(8,181),(9,182),(10,183)]),11,48,[.int .u64 0,.int .u64 0,.int .u32 0,.int .u8 0,.int .u8 0,.int .u8 0,.int .u8 0,.nf,.np,.int .i32 0,.int .i32 0]⟩,
⟨.func,1,8,[.nf]⟩,
⟨.other,1,8,[.np]⟩]
theorem ag:ao Try.prog tb:=ao.mk' (by kernel_rfl)
theorem mixed:Try.prog.follows .mixedOrders=true:=by kernel_rfl
noncomputable def WY:Nat→Option (List (Nat×Nat)×List Nat):=fun id=>match id with
 |15=>some ([(0,0),(1,0),(2,0),(3,0),(4,0),(5,0),(6,0),(7,0),(8,0),(9,0),(10,0),(11,0),(12,0),(13,0),(14,0),(15,0),(16,0),(17,0),(18,0),(19,0),(20,0),(21,0),(22,0),(24,0),(25,0),(23,1),(26,1),(27,0),(28,0),(29,0),(30,0),(31,0),(32,0),(33,0),(34,0),(35,3),(36,0),(37,0)],[35])
 |_=>none
noncomputable def XZ (B:Nat→List Nat)(W:List Nat):Cx:={P:=Try.prog,T:=tb,n:=118,W:=W,B:=B,pl:=WY}
noncomputable abbrev Je:Code:=match Try.f7.body with|some c=>c|none=>.skip
theorem OI:aj WY Je=true:=by kernel_rfl
theorem QP (B:Nat→List Nat)(W:List Nat){args:List AV}{M:AH}{K Kp:AV→AH→Prop}(hle:Nat.ble args.length 118=true)
 (h:ax (XZ B W) Je (az tb Try.f7.results.toList K) Kp (au args) M):aa Try.prog 7 args M K Kp:=
 aM.intro (x:=XZ B W) ag mixed Try.func7 (rfl:Try.f7.body=some Je) (by kernel_rfl) OI rfl rfl rfl hle h
noncomputable def XY (B:Nat→List Nat)(W:List Nat):Cx:={P:=Try.prog,T:=tb,n:=54,W:=W,B:=B}
noncomputable abbrev Jd:Code:=match Try.f8.body with|some c=>c|none=>.skip
theorem OH:aj (fun _=>none) Jd=true:=by kernel_rfl
theorem ME (B:Nat→List Nat)(W:List Nat){args:List AV}{M:AH}{K Kp:AV→AH→Prop}(hle:Nat.ble args.length 54=true)
 (h:ax (XY B W) Jd (az tb Try.f8.results.toList K) Kp (au args) M):aa Try.prog 8 args M K Kp:=
 aM.intro (x:=XY B W) ag mixed Try.func8 (rfl:Try.f8.body=some Jd) (by kernel_rfl) OH rfl rfl rfl hle h
noncomputable def TY (B:Nat→List Nat)(W:List Nat):Cx:={P:=Try.prog,T:=tb,n:=40,W:=W,B:=B}
noncomputable abbrev Dm:Code:=match Try.f10.body with|some c=>c|none=>.skip
theorem Lj:aj (fun _=>none) Dm=true:=by kernel_rfl
theorem OA (B:Nat→List Nat)(W:List Nat){args:List AV}{M:AH}{K Kp:AV→AH→Prop}(hle:Nat.ble args.length 40=true)
 (h:ax (TY B W) Dm (az tb Try.f10.results.toList K) Kp (au args) M):aa Try.prog 10 args M K Kp:=
 aM.intro (x:=TY B W) ag mixed Try.func10 (rfl:Try.f10.body=some Dm) (by kernel_rfl) Lj rfl rfl rfl hle h
noncomputable def Rh:Nat→Option (List (Nat×Nat)×List Nat):=fun id=>match id with
 |10=>some ([(0,0),(1,0),(2,0),(4,0),(5,0),(6,0),(3,1),(7,1),(8,2),(9,0),(10,0),(11,3),(12,3),(13,3)],[11,12,13])
 |_=>none
noncomputable def WH (B:Nat→List Nat)(W:List Nat):Cx:={P:=Try.prog,T:=tb,n:=44,W:=W,B:=B,pl:=Rh}
noncomputable abbrev Jf:Code:=match Try.f13.body with|some c=>c|none=>.skip
theorem Li:aj Rh Jf=true:=by kernel_rfl
noncomputable def Rg:Nat→Option (List (Nat×Nat)×List Nat):=fun id=>match id with
 |10=>some ([(0,1),(1,1),(2,1),(3,1),(4,0),(5,0),(6,2),(7,1),(8,1),(9,0)],[])
 |_=>none
noncomputable def TX (B:Nat→List Nat)(W:List Nat):Cx:={P:=Try.prog,T:=tb,n:=80,W:=W,B:=B,pl:=Rg}
noncomputable abbrev Dl:Code:=match Try.f14.body with|some c=>c|none=>.skip
theorem Lh:aj Rg Dl=true:=by kernel_rfl
theorem Oz (B:Nat→List Nat)(W:List Nat){args:List AV}{M:AH}{K Kp:AV→AH→Prop}(hle:Nat.ble args.length 80=true)
 (h:ax (TX B W) Dl (az tb Try.f14.results.toList K) Kp (au args) M):aa Try.prog 14 args M K Kp:=
 aM.intro (x:=TX B W) ag mixed Try.func14 (rfl:Try.f14.body=some Dl) (by kernel_rfl) Lh rfl rfl rfl hle h
noncomputable def TW (B:Nat→List Nat)(W:List Nat):Cx:={P:=Try.prog,T:=tb,n:=40,W:=W,B:=B}
noncomputable abbrev Dk:Code:=match Try.f15.body with|some c=>c|none=>.skip
theorem Lg:aj (fun _=>none) Dk=true:=by kernel_rfl
theorem Oy (B:Nat→List Nat)(W:List Nat){args:List AV}{M:AH}{K Kp:AV→AH→Prop}(hle:Nat.ble args.length 40=true)
 (h:ax (TW B W) Dk (az tb Try.f15.results.toList K) Kp (au args) M):aa Try.prog 15 args M K Kp:=
 aM.intro (x:=TW B W) ag mixed Try.func15 (rfl:Try.f15.body=some Dk) (by kernel_rfl) Lg rfl rfl rfl hle h
noncomputable def TV (B:Nat→List Nat)(W:List Nat):Cx:={P:=Try.prog,T:=tb,n:=26,W:=W,B:=B}
noncomputable abbrev Dj:Code:=match Try.f16.body with|some c=>c|none=>.skip
theorem Lf:aj (fun _=>none) Dj=true:=by kernel_rfl
theorem Ox (B:Nat→List Nat)(W:List Nat){args:List AV}{M:AH}{K Kp:AV→AH→Prop}(hle:Nat.ble args.length 26=true)
 (h:ax (TV B W) Dj (az tb Try.f16.results.toList K) Kp (au args) M):aa Try.prog 16 args M K Kp:=
 aM.intro (x:=TV B W) ag mixed Try.func16 (rfl:Try.f16.body=some Dj) (by kernel_rfl) Lf rfl rfl rfl hle h
noncomputable def Rf:Nat→Option (List (Nat×Nat)×List Nat):=fun id=>match id with
 |2=>some ([(0,1),(1,0),(2,0),(3,1),(4,1),(5,0),(6,0),(7,1),(8,3),(9,3),(10,0)],[8,9])
 |10=>some ([(0,0),(1,0),(2,0),(3,0),(5,0),(6,0),(7,0),(8,0),(9,0),(4,1),(10,1),(11,0),(12,1),(13,0),(14,0)],[])
 |13=>some ([(0,1),(1,0),(2,0),(3,1),(4,0),(5,0),(6,1),(7,0),(8,0),(9,0),(10,3)],[10])
 |14=>some ([(0,1),(1,0),(2,0),(3,1),(4,0),(5,0),(6,1),(7,0),(8,0),(9,0),(10,3)],[10])
 |19=>some ([(4,0),(0,1),(1,0),(2,0),(3,1),(5,0),(6,1),(7,0),(8,3)],[8])
 |_=>none
noncomputable def Gu (B:Nat→List Nat)(W:List Nat):Cx:={P:=Try.prog,T:=tb,n:=127,W:=W,B:=B,pl:=Rf}
noncomputable abbrev oM:Code:=match Try.f17.body with|some c=>c|none=>.skip
theorem D3:aj Rf oM=true:=by kernel_rfl
noncomputable def TU (B:Nat→List Nat)(W:List Nat):Cx:={P:=Try.prog,T:=tb,n:=25,W:=W,B:=B}
noncomputable abbrev Di:Code:=match Try.f18.body with|some c=>c|none=>.skip
theorem Le:aj (fun _=>none) Di=true:=by kernel_rfl
theorem NI (B:Nat→List Nat)(W:List Nat){args:List AV}{M:AH}{K Kp:AV→AH→Prop}(hle:Nat.ble args.length 25=true)
 (h:bL (TU B W) Di (az tb Try.f18.results.toList K) Kp (au args) M):aa Try.prog 18 args M K Kp:=
 aa.intro (x:=TU B W) ag mixed Try.func18 (rfl:Try.f18.body=some Di) (by kernel_rfl) Le rfl rfl rfl hle h
noncomputable def UO:Nat→Option (List (Nat×Nat)×List Nat):=fun id=>match id with
 |2=>some ([(0,0),(1,1),(2,2),(3,2),(4,3)],[4])
 |_=>none
noncomputable def TT (B:Nat→List Nat)(W:List Nat):Cx:={P:=Try.prog,T:=tb,n:=13,W:=W,B:=B,pl:=UO}
noncomputable def TS (B:Nat→List Nat)(W:List Nat):Cx:={P:=Try.prog,T:=tb,n:=7,W:=W,B:=B}
noncomputable abbrev Dh:Code:=match Try.f30.body with|some c=>c|none=>.skip
theorem Ld:aj (fun _=>none) Dh=true:=by kernel_rfl
theorem NH (B:Nat→List Nat)(W:List Nat){args:List AV}{M:AH}{K Kp:AV→AH→Prop}(hle:Nat.ble args.length 7=true)
 (h:bL (TS B W) Dh (az tb Try.f30.results.toList K) Kp (au args) M):aa Try.prog 30 args M K Kp:=
 aa.intro (x:=TS B W) ag mixed Try.func30 (rfl:Try.f30.body=some Dh) (by kernel_rfl) Ld rfl rfl rfl hle h
noncomputable def Re:Nat→Option (List (Nat×Nat)×List Nat):=fun id=>match id with
 |4=>some ([(0,0),(1,0),(2,0),(3,0),(5,0),(6,0),(7,0),(4,1),(8,1),(9,0),(10,0),(11,0),(12,0)],[])
 |_=>none
noncomputable def TR (B:Nat→List Nat)(W:List Nat):Cx:={P:=Try.prog,T:=tb,n:=42,W:=W,B:=B,pl:=Re}
noncomputable abbrev Dg:Code:=match Try.f31.body with|some c=>c|none=>.skip
theorem Lb:aj Re Dg=true:=by kernel_rfl
theorem Ow (B:Nat→List Nat)(W:List Nat){args:List AV}{M:AH}{K Kp:AV→AH→Prop}(hle:Nat.ble args.length 42=true)
 (h:ax (TR B W) Dg (az tb Try.f31.results.toList K) Kp (au args) M):aa Try.prog 31 args M K Kp:=
 aM.intro (x:=TR B W) ag mixed Try.func31 (rfl:Try.f31.body=some Dg) (by kernel_rfl) Lb rfl rfl rfl hle h
noncomputable def TQ (B:Nat→List Nat)(W:List Nat):Cx:={P:=Try.prog,T:=tb,n:=32,W:=W,B:=B}
noncomputable abbrev Df:Code:=match Try.f32.body with|some c=>c|none=>.skip
theorem La:aj (fun _=>none) Df=true:=by kernel_rfl
theorem Ov (B:Nat→List Nat)(W:List Nat){args:List AV}{M:AH}{K Kp:AV→AH→Prop}(hle:Nat.ble args.length 32=true)
 (h:ax (TQ B W) Df (az tb Try.f32.results.toList K) Kp (au args) M):aa Try.prog 32 args M K Kp:=
 aM.intro (x:=TQ B W) ag mixed Try.func32 (rfl:Try.f32.body=some Df) (by kernel_rfl) La rfl rfl rfl hle h
noncomputable def Rd:Nat→Option (List (Nat×Nat)×List Nat):=fun id=>match id with
 |7=>some ([(0,0),(1,0),(2,0),(3,0),(4,3),(5,0),(6,0),(7,3)],[4,7])
 |12=>some ([(0,0),(1,0),(2,0),(3,0),(5,0),(6,0),(7,0),(4,3),(8,3),(9,3)],[4,8,9])
 |_=>none
noncomputable def TP (B:Nat→List Nat)(W:List Nat):Cx:={P:=Try.prog,T:=tb,n:=59,W:=W,B:=B,pl:=Rd}
noncomputable abbrev De:Code:=match Try.f33.body with|some c=>c|none=>.skip
theorem K9:aj Rd De=true:=by kernel_rfl
theorem Ou (B:Nat→List Nat)(W:List Nat){args:List AV}{M:AH}{K Kp:AV→AH→Prop}(hle:Nat.ble args.length 59=true)
 (h:ax (TP B W) De (az tb Try.f33.results.toList K) Kp (au args) M):aa Try.prog 33 args M K Kp:=
 aM.intro (x:=TP B W) ag mixed Try.func33 (rfl:Try.f33.body=some De) (by kernel_rfl) K9 rfl rfl rfl hle h
noncomputable def TO (B:Nat→List Nat)(W:List Nat):Cx:={P:=Try.prog,T:=tb,n:=3,W:=W,B:=B}
noncomputable abbrev Dd:Code:=match Try.f34.body with|some c=>c|none=>.skip
theorem K8:aj (fun _=>none) Dd=true:=by kernel_rfl
theorem Ot (B:Nat→List Nat)(W:List Nat){args:List AV}{M:AH}{K Kp:AV→AH→Prop}(hle:Nat.ble args.length 3=true)
 (h:ax (TO B W) Dd (az tb Try.f34.results.toList K) Kp (au args) M):aa Try.prog 34 args M K Kp:=
 aM.intro (x:=TO B W) ag mixed Try.func34 (rfl:Try.f34.body=some Dd) (by kernel_rfl) K8 rfl rfl rfl hle h
noncomputable def TN (B:Nat→List Nat)(W:List Nat):Cx:={P:=Try.prog,T:=tb,n:=20,W:=W,B:=B}
noncomputable abbrev Dc:Code:=match Try.f35.body with|some c=>c|none=>.skip
theorem K7:aj (fun _=>none) Dc=true:=by kernel_rfl
theorem Oq (B:Nat→List Nat)(W:List Nat){args:List AV}{M:AH}{K Kp:AV→AH→Prop}(hle:Nat.ble args.length 20=true)
 (h:ax (TN B W) Dc (az tb Try.f35.results.toList K) Kp (au args) M):aa Try.prog 35 args M K Kp:=
 aM.intro (x:=TN B W) ag mixed Try.func35 (rfl:Try.f35.body=some Dc) (by kernel_rfl) K7 rfl rfl rfl hle h
noncomputable def TM (B:Nat→List Nat)(W:List Nat):Cx:={P:=Try.prog,T:=tb,n:=9,W:=W,B:=B}
noncomputable abbrev Db:Code:=match Try.f36.body with|some c=>c|none=>.skip
theorem K6:aj (fun _=>none) Db=true:=by kernel_rfl
theorem NG (B:Nat→List Nat)(W:List Nat){args:List AV}{M:AH}{K Kp:AV→AH→Prop}(hle:Nat.ble args.length 9=true)
 (h:bL (TM B W) Db (az tb Try.f36.results.toList K) Kp (au args) M):aa Try.prog 36 args M K Kp:=
 aa.intro (x:=TM B W) ag mixed Try.func36 (rfl:Try.f36.body=some Db) (by kernel_rfl) K6 rfl rfl rfl hle h
noncomputable def Rc:Nat→Option (List (Nat×Nat)×List Nat):=fun id=>match id with
 |2=>some ([(1,0),(7,0),(8,0),(0,1),(2,1),(3,1),(4,1),(5,1),(6,1),(9,0),(10,2),(11,3)],[11])
 |_=>none
noncomputable def TJ (B:Nat→List Nat)(W:List Nat):Cx:={P:=Try.prog,T:=tb,n:=28,W:=W,B:=B,pl:=Rc}
noncomputable abbrev Da:Code:=match Try.f37.body with|some c=>c|none=>.skip
theorem K5:aj Rc Da=true:=by kernel_rfl
theorem Oo (B:Nat→List Nat)(W:List Nat){args:List AV}{M:AH}{K Kp:AV→AH→Prop}(hle:Nat.ble args.length 28=true)
 (h:ax (TJ B W) Da (az tb Try.f37.results.toList K) Kp (au args) M):aa Try.prog 37 args M K Kp:=
 aM.intro (x:=TJ B W) ag mixed Try.func37 (rfl:Try.f37.body=some Da) (by kernel_rfl) K5 rfl rfl rfl hle h
noncomputable def TH (B:Nat→List Nat)(W:List Nat):Cx:={P:=Try.prog,T:=tb,n:=23,W:=W,B:=B}
noncomputable abbrev C9:Code:=match Try.f38.body with|some c=>c|none=>.skip
theorem K4:aj (fun _=>none) C9=true:=by kernel_rfl
theorem On (B:Nat→List Nat)(W:List Nat){args:List AV}{M:AH}{K Kp:AV→AH→Prop}(hle:Nat.ble args.length 23=true)
 (h:ax (TH B W) C9 (az tb Try.f38.results.toList K) Kp (au args) M):aa Try.prog 38 args M K Kp:=
 aM.intro (x:=TH B W) ag mixed Try.func38 (rfl:Try.f38.body=some C9) (by kernel_rfl) K4 rfl rfl rfl hle h
noncomputable def Rb:Nat→Option (List (Nat×Nat)×List Nat):=fun id=>match id with
 |2=>some ([(0,0),(1,0),(2,0),(3,0),(4,0),(5,0),(6,0),(7,0),(8,0),(9,0),(10,0),(11,0),(12,0),(13,0),(14,0),(15,0),(17,0),(18,0),(19,0),(20,0),(21,0),(16,1),(22,1),(23,0),(24,0)],[])
 |_=>none
noncomputable def TG (B:Nat→List Nat)(W:List Nat):Cx:={P:=Try.prog,T:=tb,n:=36,W:=W,B:=B,pl:=Rb}
noncomputable abbrev C8:Code:=match Try.f39.body with|some c=>c|none=>.skip
theorem K3:aj Rb C8=true:=by kernel_rfl
theorem Om (B:Nat→List Nat)(W:List Nat){args:List AV}{M:AH}{K Kp:AV→AH→Prop}(hle:Nat.ble args.length 36=true)
 (h:ax (TG B W) C8 (az tb Try.f39.results.toList K) Kp (au args) M):aa Try.prog 39 args M K Kp:=
 aM.intro (x:=TG B W) ag mixed Try.func39 (rfl:Try.f39.body=some C8) (by kernel_rfl) K3 rfl rfl rfl hle h
noncomputable def TF (B:Nat→List Nat)(W:List Nat):Cx:={P:=Try.prog,T:=tb,n:=27,W:=W,B:=B}
noncomputable abbrev C7:Code:=match Try.f40.body with|some c=>c|none=>.skip
theorem K2:aj (fun _=>none) C7=true:=by kernel_rfl
theorem NF (B:Nat→List Nat)(W:List Nat){args:List AV}{M:AH}{K Kp:AV→AH→Prop}(hle:Nat.ble args.length 27=true)
 (h:bL (TF B W) C7 (az tb Try.f40.results.toList K) Kp (au args) M):aa Try.prog 40 args M K Kp:=
 aa.intro (x:=TF B W) ag mixed Try.func40 (rfl:Try.f40.body=some C7) (by kernel_rfl) K2 rfl rfl rfl hle h
noncomputable def TD (B:Nat→List Nat)(W:List Nat):Cx:={P:=Try.prog,T:=tb,n:=36,W:=W,B:=B}
noncomputable abbrev C6:Code:=match Try.f41.body with|some c=>c|none=>.skip
theorem K1:aj (fun _=>none) C6=true:=by kernel_rfl
theorem G9 (B:Nat→List Nat)(W:List Nat){args:List AV}{M:AH}{K Kp:AV→AH→Prop}(hle:Nat.ble args.length 36=true)
 (h:ax (TD B W) C6 (az tb Try.f41.results.toList K) Kp (au args) M):aa Try.prog 41 args M K Kp:=
 aM.intro (x:=TD B W) ag mixed Try.func41 (rfl:Try.f41.body=some C6) (by kernel_rfl) K1 rfl rfl rfl hle h
noncomputable def Ra:Nat→Option (List (Nat×Nat)×List Nat):=fun id=>match id with
 |9=>some ([(0,0),(1,0),(2,0),(3,0),(4,0),(5,0),(6,0),(7,3),(8,0),(9,0)],[7])
 |_=>none
noncomputable def TC (B:Nat→List Nat)(W:List Nat):Cx:={P:=Try.prog,T:=tb,n:=48,W:=W,B:=B,pl:=Ra}
noncomputable abbrev C5:Code:=match Try.f42.body with|some c=>c|none=>.skip
theorem KZ:aj Ra C5=true:=by kernel_rfl
theorem Ol (B:Nat→List Nat)(W:List Nat){args:List AV}{M:AH}{K Kp:AV→AH→Prop}(hle:Nat.ble args.length 48=true)
 (h:ax (TC B W) C5 (az tb Try.f42.results.toList K) Kp (au args) M):aa Try.prog 42 args M K Kp:=
 aM.intro (x:=TC B W) ag mixed Try.func42 (rfl:Try.f42.body=some C5) (by kernel_rfl) KZ rfl rfl rfl hle h
noncomputable def Q9:Nat→Option (List (Nat×Nat)×List Nat):=fun id=>match id with
 |6=>some ([(0,0),(1,0),(2,0),(3,0),(4,0),(6,0),(5,1),(7,1),(8,0),(9,0),(10,3)],[10])
 |7=>some ([(0,0),(1,0),(2,0),(3,0),(4,0),(6,0),(5,1),(7,1),(8,2),(9,3)],[9])
 |8=>some ([(0,0),(1,0),(2,0),(3,0),(4,0),(6,0),(5,1),(7,1),(8,0),(9,2),(10,3)],[10])
 |_=>none
noncomputable def TB (B:Nat→List Nat)(W:List Nat):Cx:={P:=Try.prog,T:=tb,n:=77,W:=W,B:=B,pl:=Q9}
noncomputable abbrev C4:Code:=match Try.f43.body with|some c=>c|none=>.skip
theorem KY:aj Q9 C4=true:=by kernel_rfl
theorem Ok (B:Nat→List Nat)(W:List Nat){args:List AV}{M:AH}{K Kp:AV→AH→Prop}(hle:Nat.ble args.length 77=true)
 (h:ax (TB B W) C4 (az tb Try.f43.results.toList K) Kp (au args) M):aa Try.prog 43 args M K Kp:=
 aM.intro (x:=TB B W) ag mixed Try.func43 (rfl:Try.f43.body=some C4) (by kernel_rfl) KY rfl rfl rfl hle h
noncomputable def Q8:Nat→Option (List (Nat×Nat)×List Nat):=fun id=>match id with
 |0=>some ([],[])
 |13=>some ([(0,0),(1,0),(2,0),(3,0),(4,0),(5,0),(8,0),(9,0),(10,0),(11,0),(6,1),(12,1),(7,2),(13,3),(14,0),(15,0),(16,3),(17,0),(18,0),(19,3)],[13,16,19])
 |_=>none
noncomputable def TA (B:Nat→List Nat)(W:List Nat):Cx:={P:=Try.prog,T:=tb,n:=84,W:=W,B:=B,pl:=Q8}
noncomputable abbrev C3:Code:=match Try.f44.body with|some c=>c|none=>.skip
theorem KX:aj Q8 C3=true:=by kernel_rfl
theorem Oj (B:Nat→List Nat)(W:List Nat){args:List AV}{M:AH}{K Kp:AV→AH→Prop}(hle:Nat.ble args.length 84=true)
 (h:ax (TA B W) C3 (az tb Try.f44.results.toList K) Kp (au args) M):aa Try.prog 44 args M K Kp:=
 aM.intro (x:=TA B W) ag mixed Try.func44 (rfl:Try.f44.body=some C3) (by kernel_rfl) KX rfl rfl rfl hle h
noncomputable def Tz (B:Nat→List Nat)(W:List Nat):Cx:={P:=Try.prog,T:=tb,n:=4,W:=W,B:=B}
noncomputable abbrev C2:Code:=match Try.f45.body with|some c=>c|none=>.skip
theorem KW:aj (fun _=>none) C2=true:=by kernel_rfl
theorem G8 (B:Nat→List Nat)(W:List Nat){args:List AV}{M:AH}{K Kp:AV→AH→Prop}(hle:Nat.ble args.length 4=true)
 (h:ax (Tz B W) C2 (az tb Try.f45.results.toList K) Kp (au args) M):aa Try.prog 45 args M K Kp:=
 aM.intro (x:=Tz B W) ag mixed Try.func45 (rfl:Try.f45.body=some C2) (by kernel_rfl) KW rfl rfl rfl hle h
noncomputable def Q7:Nat→Option (List (Nat×Nat)×List Nat):=fun id=>match id with
 |23=>some ([(0,0),(1,0),(2,0),(4,0),(5,0),(3,1),(6,12),(7,0),(8,2),(9,3)],[9])
 |_=>none
noncomputable def Ty (B:Nat→List Nat)(W:List Nat):Cx:={P:=Try.prog,T:=tb,n:=146,W:=W,B:=B,pl:=Q7}
noncomputable abbrev C1:Code:=match Try.f46.body with|some c=>c|none=>.skip
theorem KV:aj Q7 C1=true:=by kernel_rfl
theorem Oi (B:Nat→List Nat)(W:List Nat){args:List AV}{M:AH}{K Kp:AV→AH→Prop}(hle:Nat.ble args.length 146=true)
 (h:ax (Ty B W) C1 (az tb Try.f46.results.toList K) Kp (au args) M):aa Try.prog 46 args M K Kp:=
 aM.intro (x:=Ty B W) ag mixed Try.func46 (rfl:Try.f46.body=some C1) (by kernel_rfl) KV rfl rfl rfl hle h
noncomputable def Tx (B:Nat→List Nat)(W:List Nat):Cx:={P:=Try.prog,T:=tb,n:=17,W:=W,B:=B}
noncomputable abbrev C0:Code:=match Try.f47.body with|some c=>c|none=>.skip
theorem KU:aj (fun _=>none) C0=true:=by kernel_rfl
theorem Oh (B:Nat→List Nat)(W:List Nat){args:List AV}{M:AH}{K Kp:AV→AH→Prop}(hle:Nat.ble args.length 17=true)
 (h:ax (Tx B W) C0 (az tb Try.f47.results.toList K) Kp (au args) M):aa Try.prog 47 args M K Kp:=
 aM.intro (x:=Tx B W) ag mixed Try.func47 (rfl:Try.f47.body=some C0) (by kernel_rfl) KU rfl rfl rfl hle h
noncomputable def Q6:Nat→Option (List (Nat×Nat)×List Nat):=fun id=>match id with
 |1=>some ([(0,0),(1,0),(2,0),(3,0),(4,0),(9,0),(10,0),(5,1),(6,0),(7,1),(8,0),(11,1),(12,0),(13,1),(14,0),(15,3)],[15])
 |2=>some ([(0,0),(1,0),(2,0),(3,0),(6,0),(4,1),(5,0),(7,1),(8,3)],[8])
 |_=>none
noncomputable def Tw (B:Nat→List Nat)(W:List Nat):Cx:={P:=Try.prog,T:=tb,n:=33,W:=W,B:=B,pl:=Q6}
noncomputable abbrev CZ:Code:=match Try.f48.body with|some c=>c|none=>.skip
theorem KT:aj Q6 CZ=true:=by kernel_rfl
theorem Bg (B:Nat→List Nat)(W:List Nat){args:List AV}{M:AH}{K Kp:AV→AH→Prop}(hle:Nat.ble args.length 33=true)
 (h:ax (Tw B W) CZ (az tb Try.f48.results.toList K) Kp (au args) M):aa Try.prog 48 args M K Kp:=
 aM.intro (x:=Tw B W) ag mixed Try.func48 (rfl:Try.f48.body=some CZ) (by kernel_rfl) KT rfl rfl rfl hle h
noncomputable def Tv (B:Nat→List Nat)(W:List Nat):Cx:={P:=Try.prog,T:=tb,n:=8,W:=W,B:=B}
noncomputable abbrev CY:Code:=match Try.f49.body with|some c=>c|none=>.skip
theorem KS:aj (fun _=>none) CY=true:=by kernel_rfl
theorem ND (B:Nat→List Nat)(W:List Nat){args:List AV}{M:AH}{K Kp:AV→AH→Prop}(hle:Nat.ble args.length 8=true)
 (h:bL (Tv B W) CY (az tb Try.f49.results.toList K) Kp (au args) M):aa Try.prog 49 args M K Kp:=
 aa.intro (x:=Tv B W) ag mixed Try.func49 (rfl:Try.f49.body=some CY) (by kernel_rfl) KS rfl rfl rfl hle h
noncomputable def Tu (B:Nat→List Nat)(W:List Nat):Cx:={P:=Try.prog,T:=tb,n:=14,W:=W,B:=B}
noncomputable abbrev CX:Code:=match Try.f59.body with|some c=>c|none=>.skip
theorem KR:aj (fun _=>none) CX=true:=by kernel_rfl
theorem NC (B:Nat→List Nat)(W:List Nat){args:List AV}{M:AH}{K Kp:AV→AH→Prop}(hle:Nat.ble args.length 14=true)
 (h:bL (Tu B W) CX (az tb Try.f59.results.toList K) Kp (au args) M):aa Try.prog 59 args M K Kp:=
 aa.intro (x:=Tu B W) ag mixed Try.func59 (rfl:Try.f59.body=some CX) (by kernel_rfl) KR rfl rfl rfl hle h
noncomputable def Tt (B:Nat→List Nat)(W:List Nat):Cx:={P:=Try.prog,T:=tb,n:=7,W:=W,B:=B}
noncomputable abbrev CW:Code:=match Try.f60.body with|some c=>c|none=>.skip
theorem KQ:aj (fun _=>none) CW=true:=by kernel_rfl
theorem Og (B:Nat→List Nat)(W:List Nat){args:List AV}{M:AH}{K Kp:AV→AH→Prop}(hle:Nat.ble args.length 7=true)
 (h:ax (Tt B W) CW (az tb Try.f60.results.toList K) Kp (au args) M):aa Try.prog 60 args M K Kp:=
 aM.intro (x:=Tt B W) ag mixed Try.func60 (rfl:Try.f60.body=some CW) (by kernel_rfl) KQ rfl rfl rfl hle h
noncomputable def Q5:Nat→Option (List (Nat×Nat)×List Nat):=fun id=>match id with
 |0=>some ([(0,0),(1,0),(2,0),(5,0),(6,0),(7,0),(3,1),(4,0),(8,1),(9,0)],[])
 |_=>none
noncomputable def Ts (B:Nat→List Nat)(W:List Nat):Cx:={P:=Try.prog,T:=tb,n:=25,W:=W,B:=B,pl:=Q5}
noncomputable abbrev CV:Code:=match Try.f61.body with|some c=>c|none=>.skip
theorem KP:aj Q5 CV=true:=by kernel_rfl
theorem Of (B:Nat→List Nat)(W:List Nat){args:List AV}{M:AH}{K Kp:AV→AH→Prop}(hle:Nat.ble args.length 25=true)
 (h:ax (Ts B W) CV (az tb Try.f61.results.toList K) Kp (au args) M):aa Try.prog 61 args M K Kp:=
 aM.intro (x:=Ts B W) ag mixed Try.func61 (rfl:Try.f61.body=some CV) (by kernel_rfl) KP rfl rfl rfl hle h
noncomputable def Q4:Nat→Option (List (Nat×Nat)×List Nat):=fun id=>match id with
 |17=>some ([(0,0),(1,0),(2,0),(3,0),(5,0),(6,0),(7,0),(10,0),(4,1),(8,1),(9,0),(11,0),(12,0),(13,1),(14,3)],[14])
 |_=>none
noncomputable def Tr (B:Nat→List Nat)(W:List Nat):Cx:={P:=Try.prog,T:=tb,n:=70,W:=W,B:=B,pl:=Q4}
noncomputable abbrev CU:Code:=match Try.f62.body with|some c=>c|none=>.skip
theorem KO:aj Q4 CU=true:=by kernel_rfl
theorem Oe (B:Nat→List Nat)(W:List Nat){args:List AV}{M:AH}{K Kp:AV→AH→Prop}(hle:Nat.ble args.length 70=true)
 (h:ax (Tr B W) CU (az tb Try.f62.results.toList K) Kp (au args) M):aa Try.prog 62 args M K Kp:=
 aM.intro (x:=Tr B W) ag mixed Try.func62 (rfl:Try.f62.body=some CU) (by kernel_rfl) KO rfl rfl rfl hle h
noncomputable def Tq (B:Nat→List Nat)(W:List Nat):Cx:={P:=Try.prog,T:=tb,n:=13,W:=W,B:=B}
noncomputable abbrev CT:Code:=match Try.f63.body with|some c=>c|none=>.skip
theorem KN:aj (fun _=>none) CT=true:=by kernel_rfl
theorem Od (B:Nat→List Nat)(W:List Nat){args:List AV}{M:AH}{K Kp:AV→AH→Prop}(hle:Nat.ble args.length 13=true)
 (h:ax (Tq B W) CT (az tb Try.f63.results.toList K) Kp (au args) M):aa Try.prog 63 args M K Kp:=
 aM.intro (x:=Tq B W) ag mixed Try.func63 (rfl:Try.f63.body=some CT) (by kernel_rfl) KN rfl rfl rfl hle h
noncomputable def Q3:Nat→Option (List (Nat×Nat)×List Nat):=fun id=>match id with
 |12=>some ([(0,0),(2,0),(3,0),(1,1),(4,1),(5,2),(6,0),(7,0)],[])
 |_=>none
noncomputable def Tp (B:Nat→List Nat)(W:List Nat):Cx:={P:=Try.prog,T:=tb,n:=66,W:=W,B:=B,pl:=Q3}
noncomputable abbrev CS:Code:=match Try.f64.body with|some c=>c|none=>.skip
theorem KM:aj Q3 CS=true:=by kernel_rfl
theorem Oc (B:Nat→List Nat)(W:List Nat){args:List AV}{M:AH}{K Kp:AV→AH→Prop}(hle:Nat.ble args.length 66=true)
 (h:ax (Tp B W) CS (az tb Try.f64.results.toList K) Kp (au args) M):aa Try.prog 64 args M K Kp:=
 aM.intro (x:=Tp B W) ag mixed Try.func64 (rfl:Try.f64.body=some CS) (by kernel_rfl) KM rfl rfl rfl hle h
noncomputable def Q2:Nat→Option (List (Nat×Nat)×List Nat):=fun id=>match id with
 |11=>some ([(0,0),(1,0),(2,0),(4,0),(5,0),(6,0),(12,0),(13,0),(14,0),(18,0),(19,0),(20,0),(3,1),(7,1),(8,0),(9,0),(10,1),(11,0),(15,1),(16,0),(17,0),(21,0),(22,0)],[])
 |_=>none
noncomputable def To (B:Nat→List Nat)(W:List Nat):Cx:={P:=Try.prog,T:=tb,n:=74,W:=W,B:=B,pl:=Q2}
noncomputable abbrev CR:Code:=match Try.f65.body with|some c=>c|none=>.skip
theorem KL:aj Q2 CR=true:=by kernel_rfl
theorem Ob (B:Nat→List Nat)(W:List Nat){args:List AV}{M:AH}{K Kp:AV→AH→Prop}(hle:Nat.ble args.length 74=true)
 (h:ax (To B W) CR (az tb Try.f65.results.toList K) Kp (au args) M):aa Try.prog 65 args M K Kp:=
 aM.intro (x:=To B W) ag mixed Try.func65 (rfl:Try.f65.body=some CR) (by kernel_rfl) KL rfl rfl rfl hle h
noncomputable def Q1:Nat→Option (List (Nat×Nat)×List Nat):=fun id=>match id with
 |0=>some ([(0,0),(1,0),(2,0),(4,0),(5,0),(6,0),(7,0),(3,1),(8,1),(9,0),(10,0),(11,0),(12,0),(13,3)],[13])
 |4=>some ([(0,0),(1,0),(2,0),(3,0),(5,0),(6,0),(7,0),(4,1),(8,1),(9,0),(10,2),(11,3),(12,0),(13,0),(14,3)],[11,14])
 |_=>none
noncomputable def Tn (B:Nat→List Nat)(W:List Nat):Cx:={P:=Try.prog,T:=tb,n:=60,W:=W,B:=B,pl:=Q1}
noncomputable abbrev CQ:Code:=match Try.f66.body with|some c=>c|none=>.skip
theorem KK:aj Q1 CQ=true:=by kernel_rfl
theorem NB (B:Nat→List Nat)(W:List Nat){args:List AV}{M:AH}{K Kp:AV→AH→Prop}(hle:Nat.ble args.length 60=true)
 (h:bL (Tn B W) CQ (az tb Try.f66.results.toList K) Kp (au args) M):aa Try.prog 66 args M K Kp:=
 aa.intro (x:=Tn B W) ag mixed Try.func66 (rfl:Try.f66.body=some CQ) (by kernel_rfl) KK rfl rfl rfl hle h
noncomputable def Tm (B:Nat→List Nat)(W:List Nat):Cx:={P:=Try.prog,T:=tb,n:=17,W:=W,B:=B}
noncomputable abbrev CP:Code:=match Try.f67.body with|some c=>c|none=>.skip
theorem KJ:aj (fun _=>none) CP=true:=by kernel_rfl
theorem NA (B:Nat→List Nat)(W:List Nat){args:List AV}{M:AH}{K Kp:AV→AH→Prop}(hle:Nat.ble args.length 17=true)
 (h:bL (Tm B W) CP (az tb Try.f67.results.toList K) Kp (au args) M):aa Try.prog 67 args M K Kp:=
 aa.intro (x:=Tm B W) ag mixed Try.func67 (rfl:Try.f67.body=some CP) (by kernel_rfl) KJ rfl rfl rfl hle h
noncomputable def Q0:Nat→Option (List (Nat×Nat)×List Nat):=fun id=>match id with
 |3=>some ([(0,0),(1,0),(2,0),(6,0),(7,0),(8,0),(3,1),(4,0),(5,0),(9,1),(10,0),(11,0)],[])
 |_=>none
noncomputable def Tl (B:Nat→List Nat)(W:List Nat):Cx:={P:=Try.prog,T:=tb,n:=16,W:=W,B:=B,pl:=Q0}
noncomputable abbrev CO:Code:=match Try.f68.body with|some c=>c|none=>.skip
theorem KI:aj Q0 CO=true:=by kernel_rfl
theorem Nz (B:Nat→List Nat)(W:List Nat){args:List AV}{M:AH}{K Kp:AV→AH→Prop}(hle:Nat.ble args.length 16=true)
 (h:bL (Tl B W) CO (az tb Try.f68.results.toList K) Kp (au args) M):aa Try.prog 68 args M K Kp:=
 aa.intro (x:=Tl B W) ag mixed Try.func68 (rfl:Try.f68.body=some CO) (by kernel_rfl) KI rfl rfl rfl hle h
noncomputable def Tj (B:Nat→List Nat)(W:List Nat):Cx:={P:=Try.prog,T:=tb,n:=27,W:=W,B:=B}
noncomputable abbrev CN:Code:=match Try.f69.body with|some c=>c|none=>.skip
theorem KG:aj (fun _=>none) CN=true:=by kernel_rfl
theorem Oa (B:Nat→List Nat)(W:List Nat){args:List AV}{M:AH}{K Kp:AV→AH→Prop}(hle:Nat.ble args.length 27=true)
 (h:ax (Tj B W) CN (az tb Try.f69.results.toList K) Kp (au args) M):aa Try.prog 69 args M K Kp:=
 aM.intro (x:=Tj B W) ag mixed Try.func69 (rfl:Try.f69.body=some CN) (by kernel_rfl) KG rfl rfl rfl hle h
noncomputable def Ti (B:Nat→List Nat)(W:List Nat):Cx:={P:=Try.prog,T:=tb,n:=30,W:=W,B:=B}
noncomputable abbrev CM:Code:=match Try.f70.body with|some c=>c|none=>.skip
theorem KF:aj (fun _=>none) CM=true:=by kernel_rfl
theorem N9 (B:Nat→List Nat)(W:List Nat){args:List AV}{M:AH}{K Kp:AV→AH→Prop}(hle:Nat.ble args.length 30=true)
 (h:ax (Ti B W) CM (az tb Try.f70.results.toList K) Kp (au args) M):aa Try.prog 70 args M K Kp:=
 aM.intro (x:=Ti B W) ag mixed Try.func70 (rfl:Try.f70.body=some CM) (by kernel_rfl) KF rfl rfl rfl hle h
noncomputable def Th (B:Nat→List Nat)(W:List Nat):Cx:={P:=Try.prog,T:=tb,n:=15,W:=W,B:=B}
noncomputable abbrev CL:Code:=match Try.f71.body with|some c=>c|none=>.skip
theorem KE:aj (fun _=>none) CL=true:=by kernel_rfl
theorem N8 (B:Nat→List Nat)(W:List Nat){args:List AV}{M:AH}{K Kp:AV→AH→Prop}(hle:Nat.ble args.length 15=true)
 (h:ax (Th B W) CL (az tb Try.f71.results.toList K) Kp (au args) M):aa Try.prog 71 args M K Kp:=
 aM.intro (x:=Th B W) ag mixed Try.func71 (rfl:Try.f71.body=some CL) (by kernel_rfl) KE rfl rfl rfl hle h
noncomputable def QZ:Nat→Option (List (Nat×Nat)×List Nat):=fun id=>match id with
 |6=>some ([(0,0),(1,0),(2,0),(3,0),(4,0),(5,0),(6,0),(7,0),(8,0),(9,0),(10,0),(11,0),(12,0),(13,0),(14,0),(15,0),(16,0),(17,3)],[17])
 |_=>none
noncomputable def Tg (B:Nat→List Nat)(W:List Nat):Cx:={P:=Try.prog,T:=tb,n:=37,W:=W,B:=B,pl:=QZ}
noncomputable abbrev CK:Code:=match Try.f72.body with|some c=>c|none=>.skip
theorem KD:aj QZ CK=true:=by kernel_rfl
theorem G7 (B:Nat→List Nat)(W:List Nat){args:List AV}{M:AH}{K Kp:AV→AH→Prop}(hle:Nat.ble args.length 37=true)
 (h:ax (Tg B W) CK (az tb Try.f72.results.toList K) Kp (au args) M):aa Try.prog 72 args M K Kp:=
 aM.intro (x:=Tg B W) ag mixed Try.func72 (rfl:Try.f72.body=some CK) (by kernel_rfl) KD rfl rfl rfl hle h
noncomputable def Tf (B:Nat→List Nat)(W:List Nat):Cx:={P:=Try.prog,T:=tb,n:=24,W:=W,B:=B}
noncomputable abbrev CJ:Code:=match Try.f73.body with|some c=>c|none=>.skip
theorem KC:aj (fun _=>none) CJ=true:=by kernel_rfl
theorem N7 (B:Nat→List Nat)(W:List Nat){args:List AV}{M:AH}{K Kp:AV→AH→Prop}(hle:Nat.ble args.length 24=true)
 (h:ax (Tf B W) CJ (az tb Try.f73.results.toList K) Kp (au args) M):aa Try.prog 73 args M K Kp:=
 aM.intro (x:=Tf B W) ag mixed Try.func73 (rfl:Try.f73.body=some CJ) (by kernel_rfl) KC rfl rfl rfl hle h
noncomputable def QY:Nat→Option (List (Nat×Nat)×List Nat):=fun id=>match id with
 |3=>some ([(0,0),(1,0),(2,0),(3,1),(4,0),(5,0),(6,0),(8,0),(9,0),(10,0),(14,0),(7,1),(11,0),(12,1),(13,1),(15,0),(16,1),(17,0),(18,0)],[])
 |12=>some ([(0,0),(1,0),(2,0),(4,0),(5,0),(9,0),(3,1),(6,0),(7,1),(8,1),(10,0),(11,1),(12,0),(13,0),(14,0),(15,0),(16,0),(17,0),(18,0)],[])
 |_=>none
noncomputable def Te (B:Nat→List Nat)(W:List Nat):Cx:={P:=Try.prog,T:=tb,n:=96,W:=W,B:=B,pl:=QY}
noncomputable abbrev CI:Code:=match Try.f74.body with|some c=>c|none=>.skip
theorem KB:aj QY CI=true:=by kernel_rfl
theorem G6 (B:Nat→List Nat)(W:List Nat){args:List AV}{M:AH}{K Kp:AV→AH→Prop}(hle:Nat.ble args.length 96=true)
 (h:ax (Te B W) CI (az tb Try.f74.results.toList K) Kp (au args) M):aa Try.prog 74 args M K Kp:=
 aM.intro (x:=Te B W) ag mixed Try.func74 (rfl:Try.f74.body=some CI) (by kernel_rfl) KB rfl rfl rfl hle h
noncomputable def Td (B:Nat→List Nat)(W:List Nat):Cx:={P:=Try.prog,T:=tb,n:=9,W:=W,B:=B}
noncomputable abbrev CH:Code:=match Try.f75.body with|some c=>c|none=>.skip
theorem KA:aj (fun _=>none) CH=true:=by kernel_rfl
theorem N6 (B:Nat→List Nat)(W:List Nat){args:List AV}{M:AH}{K Kp:AV→AH→Prop}(hle:Nat.ble args.length 9=true)
 (h:ax (Td B W) CH (az tb Try.f75.results.toList K) Kp (au args) M):aa Try.prog 75 args M K Kp:=
 aM.intro (x:=Td B W) ag mixed Try.func75 (rfl:Try.f75.body=some CH) (by kernel_rfl) KA rfl rfl rfl hle h
noncomputable def Tc (B:Nat→List Nat)(W:List Nat):Cx:={P:=Try.prog,T:=tb,n:=9,W:=W,B:=B}
noncomputable abbrev CG:Code:=match Try.f76.body with|some c=>c|none=>.skip
theorem Kz:aj (fun _=>none) CG=true:=by kernel_rfl
theorem N5 (B:Nat→List Nat)(W:List Nat){args:List AV}{M:AH}{K Kp:AV→AH→Prop}(hle:Nat.ble args.length 9=true)
 (h:ax (Tc B W) CG (az tb Try.f76.results.toList K) Kp (au args) M):aa Try.prog 76 args M K Kp:=
 aM.intro (x:=Tc B W) ag mixed Try.func76 (rfl:Try.f76.body=some CG) (by kernel_rfl) Kz rfl rfl rfl hle h
noncomputable def QX:Nat→Option (List (Nat×Nat)×List Nat):=fun id=>match id with
 |11=>some ([(0,0),(2,0),(5,0),(1,1),(3,1),(4,0),(6,1),(7,13),(8,0),(9,2),(10,3)],[10])
 |_=>none
noncomputable def Tb (B:Nat→List Nat)(W:List Nat):Cx:={P:=Try.prog,T:=tb,n:=62,W:=W,B:=B,pl:=QX}
noncomputable abbrev CF:Code:=match Try.f77.body with|some c=>c|none=>.skip
theorem Ky:aj QX CF=true:=by kernel_rfl
theorem N4 (B:Nat→List Nat)(W:List Nat){args:List AV}{M:AH}{K Kp:AV→AH→Prop}(hle:Nat.ble args.length 62=true)
 (h:ax (Tb B W) CF (az tb Try.f77.results.toList K) Kp (au args) M):aa Try.prog 77 args M K Kp:=
 aM.intro (x:=Tb B W) ag mixed Try.func77 (rfl:Try.f77.body=some CF) (by kernel_rfl) Ky rfl rfl rfl hle h
noncomputable def Ta (B:Nat→List Nat)(W:List Nat):Cx:={P:=Try.prog,T:=tb,n:=17,W:=W,B:=B}
noncomputable abbrev CE:Code:=match Try.f78.body with|some c=>c|none=>.skip
theorem Kx:aj (fun _=>none) CE=true:=by kernel_rfl
theorem N3 (B:Nat→List Nat)(W:List Nat){args:List AV}{M:AH}{K Kp:AV→AH→Prop}(hle:Nat.ble args.length 17=true)
 (h:ax (Ta B W) CE (az tb Try.f78.results.toList K) Kp (au args) M):aa Try.prog 78 args M K Kp:=
 aM.intro (x:=Ta B W) ag mixed Try.func78 (rfl:Try.f78.body=some CE) (by kernel_rfl) Kx rfl rfl rfl hle h
noncomputable def S9 (B:Nat→List Nat)(W:List Nat):Cx:={P:=Try.prog,T:=tb,n:=7,W:=W,B:=B}
noncomputable abbrev CD:Code:=match Try.f79.body with|some c=>c|none=>.skip
theorem Kw:aj (fun _=>none) CD=true:=by kernel_rfl
theorem N2 (B:Nat→List Nat)(W:List Nat){args:List AV}{M:AH}{K Kp:AV→AH→Prop}(hle:Nat.ble args.length 7=true)
 (h:ax (S9 B W) CD (az tb Try.f79.results.toList K) Kp (au args) M):aa Try.prog 79 args M K Kp:=
 aM.intro (x:=S9 B W) ag mixed Try.func79 (rfl:Try.f79.body=some CD) (by kernel_rfl) Kw rfl rfl rfl hle h
noncomputable def S8 (B:Nat→List Nat)(W:List Nat):Cx:={P:=Try.prog,T:=tb,n:=75,W:=W,B:=B}
noncomputable abbrev CC:Code:=match Try.f80.body with|some c=>c|none=>.skip
theorem Kv:aj (fun _=>none) CC=true:=by kernel_rfl
theorem G5 (B:Nat→List Nat)(W:List Nat){args:List AV}{M:AH}{K Kp:AV→AH→Prop}(hle:Nat.ble args.length 75=true)
 (h:ax (S8 B W) CC (az tb Try.f80.results.toList K) Kp (au args) M):aa Try.prog 80 args M K Kp:=
 aM.intro (x:=S8 B W) ag mixed Try.func80 (rfl:Try.f80.body=some CC) (by kernel_rfl) Kv rfl rfl rfl hle h
noncomputable def QW:Nat→Option (List (Nat×Nat)×List Nat):=fun id=>match id with
 |0=>some ([(1,0),(2,0),(3,0),(0,1),(4,2),(5,0),(6,3)],[6])
 |_=>none
noncomputable def S7 (B:Nat→List Nat)(W:List Nat):Cx:={P:=Try.prog,T:=tb,n:=13,W:=W,B:=B,pl:=QW}
noncomputable abbrev CB:Code:=match Try.f81.body with|some c=>c|none=>.skip
theorem Ku:aj QW CB=true:=by kernel_rfl
theorem NZ (B:Nat→List Nat)(W:List Nat){args:List AV}{M:AH}{K Kp:AV→AH→Prop}(hle:Nat.ble args.length 13=true)
 (h:ax (S7 B W) CB (az tb Try.f81.results.toList K) Kp (au args) M):aa Try.prog 81 args M K Kp:=
 aM.intro (x:=S7 B W) ag mixed Try.func81 (rfl:Try.f81.body=some CB) (by kernel_rfl) Ku rfl rfl rfl hle h
noncomputable def S6 (B:Nat→List Nat)(W:List Nat):Cx:={P:=Try.prog,T:=tb,n:=19,W:=W,B:=B}
noncomputable abbrev CA:Code:=match Try.f82.body with|some c=>c|none=>.skip
theorem Kt:aj (fun _=>none) CA=true:=by kernel_rfl
theorem NY (B:Nat→List Nat)(W:List Nat){args:List AV}{M:AH}{K Kp:AV→AH→Prop}(hle:Nat.ble args.length 19=true)
 (h:ax (S6 B W) CA (az tb Try.f82.results.toList K) Kp (au args) M):aa Try.prog 82 args M K Kp:=
 aM.intro (x:=S6 B W) ag mixed Try.func82 (rfl:Try.f82.body=some CA) (by kernel_rfl) Kt rfl rfl rfl hle h
noncomputable def S5 (B:Nat→List Nat)(W:List Nat):Cx:={P:=Try.prog,T:=tb,n:=19,W:=W,B:=B}
noncomputable abbrev Cz:Code:=match Try.f86.body with|some c=>c|none=>.skip
theorem Ks:aj (fun _=>none) Cz=true:=by kernel_rfl
theorem NX (B:Nat→List Nat)(W:List Nat){args:List AV}{M:AH}{K Kp:AV→AH→Prop}(hle:Nat.ble args.length 19=true)
 (h:ax (S5 B W) Cz (az tb Try.f86.results.toList K) Kp (au args) M):aa Try.prog 86 args M K Kp:=
 aM.intro (x:=S5 B W) ag mixed Try.func86 (rfl:Try.f86.body=some Cz) (by kernel_rfl) Ks rfl rfl rfl hle h
noncomputable def QV:Nat→Option (List (Nat×Nat)×List Nat):=fun id=>match id with
 |4=>some ([(0,0),(1,0),(2,0),(3,0),(4,0),(5,0),(6,0),(7,0),(8,0),(9,3),(10,0),(11,0)],[9])
 |_=>none
noncomputable def S4 (B:Nat→List Nat)(W:List Nat):Cx:={P:=Try.prog,T:=tb,n:=28,W:=W,B:=B,pl:=QV}
noncomputable abbrev Cy:Code:=match Try.f87.body with|some c=>c|none=>.skip
theorem Kr:aj QV Cy=true:=by kernel_rfl
theorem NW (B:Nat→List Nat)(W:List Nat){args:List AV}{M:AH}{K Kp:AV→AH→Prop}(hle:Nat.ble args.length 28=true)
 (h:ax (S4 B W) Cy (az tb Try.f87.results.toList K) Kp (au args) M):aa Try.prog 87 args M K Kp:=
 aM.intro (x:=S4 B W) ag mixed Try.func87 (rfl:Try.f87.body=some Cy) (by kernel_rfl) Kr rfl rfl rfl hle h
noncomputable def S3 (B:Nat→List Nat)(W:List Nat):Cx:={P:=Try.prog,T:=tb,n:=16,W:=W,B:=B}
noncomputable abbrev Cw:Code:=match Try.f88.body with|some c=>c|none=>.skip
theorem Kq:aj (fun _=>none) Cw=true:=by kernel_rfl
theorem NV (B:Nat→List Nat)(W:List Nat){args:List AV}{M:AH}{K Kp:AV→AH→Prop}(hle:Nat.ble args.length 16=true)
 (h:ax (S3 B W) Cw (az tb Try.f88.results.toList K) Kp (au args) M):aa Try.prog 88 args M K Kp:=
 aM.intro (x:=S3 B W) ag mixed Try.func88 (rfl:Try.f88.body=some Cw) (by kernel_rfl) Kq rfl rfl rfl hle h
noncomputable def QU:Nat→Option (List (Nat×Nat)×List Nat):=fun id=>match id with
 |3=>some ([(0,0),(1,0),(2,0),(6,0),(7,0),(8,0),(3,1),(4,0),(5,0),(9,1),(10,0),(11,0)],[])
 |_=>none
noncomputable def S2 (B:Nat→List Nat)(W:List Nat):Cx:={P:=Try.prog,T:=tb,n:=16,W:=W,B:=B,pl:=QU}
noncomputable abbrev Cv:Code:=match Try.f89.body with|some c=>c|none=>.skip
theorem Ko:aj QU Cv=true:=by kernel_rfl
theorem Ny (B:Nat→List Nat)(W:List Nat){args:List AV}{M:AH}{K Kp:AV→AH→Prop}(hle:Nat.ble args.length 16=true)
 (h:bL (S2 B W) Cv (az tb Try.f89.results.toList K) Kp (au args) M):aa Try.prog 89 args M K Kp:=
 aa.intro (x:=S2 B W) ag mixed Try.func89 (rfl:Try.f89.body=some Cv) (by kernel_rfl) Ko rfl rfl rfl hle h
noncomputable def S1 (B:Nat→List Nat)(W:List Nat):Cx:={P:=Try.prog,T:=tb,n:=51,W:=W,B:=B}
noncomputable abbrev Cu:Code:=match Try.f91.body with|some c=>c|none=>.skip
theorem Kn:aj (fun _=>none) Cu=true:=by kernel_rfl
theorem NU (B:Nat→List Nat)(W:List Nat){args:List AV}{M:AH}{K Kp:AV→AH→Prop}(hle:Nat.ble args.length 51=true)
 (h:ax (S1 B W) Cu (az tb Try.f91.results.toList K) Kp (au args) M):aa Try.prog 91 args M K Kp:=
 aM.intro (x:=S1 B W) ag mixed Try.func91 (rfl:Try.f91.body=some Cu) (by kernel_rfl) Kn rfl rfl rfl hle h
noncomputable def S0 (B:Nat→List Nat)(W:List Nat):Cx:={P:=Try.prog,T:=tb,n:=19,W:=W,B:=B}
noncomputable abbrev Ct:Code:=match Try.f92.body with|some c=>c|none=>.skip
theorem Km:aj (fun _=>none) Ct=true:=by kernel_rfl
theorem NT (B:Nat→List Nat)(W:List Nat){args:List AV}{M:AH}{K Kp:AV→AH→Prop}(hle:Nat.ble args.length 19=true)
 (h:ax (S0 B W) Ct (az tb Try.f92.results.toList K) Kp (au args) M):aa Try.prog 92 args M K Kp:=
 aM.intro (x:=S0 B W) ag mixed Try.func92 (rfl:Try.f92.body=some Ct) (by kernel_rfl) Km rfl rfl rfl hle h
noncomputable def SZ (B:Nat→List Nat)(W:List Nat):Cx:={P:=Try.prog,T:=tb,n:=8,W:=W,B:=B}
noncomputable abbrev Cs:Code:=match Try.f93.body with|some c=>c|none=>.skip
theorem Kl:aj (fun _=>none) Cs=true:=by kernel_rfl
theorem NS (B:Nat→List Nat)(W:List Nat){args:List AV}{M:AH}{K Kp:AV→AH→Prop}(hle:Nat.ble args.length 8=true)
 (h:ax (SZ B W) Cs (az tb Try.f93.results.toList K) Kp (au args) M):aa Try.prog 93 args M K Kp:=
 aM.intro (x:=SZ B W) ag mixed Try.func93 (rfl:Try.f93.body=some Cs) (by kernel_rfl) Kl rfl rfl rfl hle h
noncomputable def SY (B:Nat→List Nat)(W:List Nat):Cx:={P:=Try.prog,T:=tb,n:=5,W:=W,B:=B}
noncomputable abbrev Cr:Code:=match Try.f94.body with|some c=>c|none=>.skip
theorem Kk:aj (fun _=>none) Cr=true:=by kernel_rfl
theorem NR (B:Nat→List Nat)(W:List Nat){args:List AV}{M:AH}{K Kp:AV→AH→Prop}(hle:Nat.ble args.length 5=true)
 (h:ax (SY B W) Cr (az tb Try.f94.results.toList K) Kp (au args) M):aa Try.prog 94 args M K Kp:=
 aM.intro (x:=SY B W) ag mixed Try.func94 (rfl:Try.f94.body=some Cr) (by kernel_rfl) Kk rfl rfl rfl hle h
noncomputable def SX (B:Nat→List Nat)(W:List Nat):Cx:={P:=Try.prog,T:=tb,n:=8,W:=W,B:=B}
noncomputable abbrev Cq:Code:=match Try.f95.body with|some c=>c|none=>.skip
theorem Kj:aj (fun _=>none) Cq=true:=by kernel_rfl
theorem NQ (B:Nat→List Nat)(W:List Nat){args:List AV}{M:AH}{K Kp:AV→AH→Prop}(hle:Nat.ble args.length 8=true)
 (h:ax (SX B W) Cq (az tb Try.f95.results.toList K) Kp (au args) M):aa Try.prog 95 args M K Kp:=
 aM.intro (x:=SX B W) ag mixed Try.func95 (rfl:Try.f95.body=some Cq) (by kernel_rfl) Kj rfl rfl rfl hle h
noncomputable def SW (B:Nat→List Nat)(W:List Nat):Cx:={P:=Try.prog,T:=tb,n:=48,W:=W,B:=B}
noncomputable abbrev Cp:Code:=match Try.f96.body with|some c=>c|none=>.skip
theorem Ki:aj (fun _=>none) Cp=true:=by kernel_rfl
theorem NP (B:Nat→List Nat)(W:List Nat){args:List AV}{M:AH}{K Kp:AV→AH→Prop}(hle:Nat.ble args.length 48=true)
 (h:ax (SW B W) Cp (az tb Try.f96.results.toList K) Kp (au args) M):aa Try.prog 96 args M K Kp:=
 aM.intro (x:=SW B W) ag mixed Try.func96 (rfl:Try.f96.body=some Cp) (by kernel_rfl) Ki rfl rfl rfl hle h
noncomputable def SV (B:Nat→List Nat)(W:List Nat):Cx:={P:=Try.prog,T:=tb,n:=15,W:=W,B:=B}
noncomputable abbrev Co:Code:=match Try.f97.body with|some c=>c|none=>.skip
theorem Kh:aj (fun _=>none) Co=true:=by kernel_rfl
theorem NO (B:Nat→List Nat)(W:List Nat){args:List AV}{M:AH}{K Kp:AV→AH→Prop}(hle:Nat.ble args.length 15=true)
 (h:ax (SV B W) Co (az tb Try.f97.results.toList K) Kp (au args) M):aa Try.prog 97 args M K Kp:=
 aM.intro (x:=SV B W) ag mixed Try.func97 (rfl:Try.f97.body=some Co) (by kernel_rfl) Kh rfl rfl rfl hle h
noncomputable def SU (B:Nat→List Nat)(W:List Nat):Cx:={P:=Try.prog,T:=tb,n:=9,W:=W,B:=B}
noncomputable abbrev Cn:Code:=match Try.f98.body with|some c=>c|none=>.skip
theorem Kg:aj (fun _=>none) Cn=true:=by kernel_rfl
theorem NN (B:Nat→List Nat)(W:List Nat){args:List AV}{M:AH}{K Kp:AV→AH→Prop}(hle:Nat.ble args.length 9=true)
 (h:ax (SU B W) Cn (az tb Try.f98.results.toList K) Kp (au args) M):aa Try.prog 98 args M K Kp:=
 aM.intro (x:=SU B W) ag mixed Try.func98 (rfl:Try.f98.body=some Cn) (by kernel_rfl) Kg rfl rfl rfl hle h
noncomputable def SS (B:Nat→List Nat)(W:List Nat):Cx:={P:=Try.prog,T:=tb,n:=5,W:=W,B:=B}
noncomputable abbrev Cm:Code:=match Try.f99.body with|some c=>c|none=>.skip
theorem Kf:aj (fun _=>none) Cm=true:=by kernel_rfl
theorem NM (B:Nat→List Nat)(W:List Nat){args:List AV}{M:AH}{K Kp:AV→AH→Prop}(hle:Nat.ble args.length 5=true)
 (h:ax (SS B W) Cm (az tb Try.f99.results.toList K) Kp (au args) M):aa Try.prog 99 args M K Kp:=
 aM.intro (x:=SS B W) ag mixed Try.func99 (rfl:Try.f99.body=some Cm) (by kernel_rfl) Kf rfl rfl rfl hle h
noncomputable def MM:Nat→Option (List (Nat×Nat)×List Nat):=fun id=>match id with
 |4=>some ([(0,0),(1,0),(2,0),(3,1),(4,1),(5,1),(6,0),(7,0),(8,0),(9,0),(10,0)],[])
 |_=>none
noncomputable def Nm (B:Nat→List Nat)(W:List Nat):Cx:={P:=Try.prog,T:=tb,n:=52,W:=W,B:=B,pl:=MM}
noncomputable abbrev yI:Code:=match Try.f101.body with|some c=>c|none=>.skip
theorem Hy:aj MM yI=true:=by kernel_rfl
theorem J5 (B:Nat→List Nat)(W:List Nat){args:List AV}{M:AH}{K Kp:AV→AH→Prop}(hle:Nat.ble args.length 52=true)
 (h:ax (Nm B W) yI (az tb Try.f101.results.toList K) Kp (au args) M):aa Try.prog 101 args M K Kp:=
 aM.intro (x:=Nm B W) ag mixed Try.func101 (rfl:Try.f101.body=some yI) (by kernel_rfl) Hy rfl rfl rfl hle h
noncomputable def ML:Nat→Option (List (Nat×Nat)×List Nat):=fun id=>match id with
 |4=>some ([(4,0),(5,0),(6,0),(7,0),(8,0),(9,0),(10,0),(0,1),(1,0),(2,0),(3,1),(11,3)],[11])
 |_=>none
noncomputable def Nl (B:Nat→List Nat)(W:List Nat):Cx:={P:=Try.prog,T:=tb,n:=33,W:=W,B:=B,pl:=ML}
noncomputable abbrev yH:Code:=match Try.f102.body with|some c=>c|none=>.skip
theorem Hx:aj ML yH=true:=by kernel_rfl
theorem J4 (B:Nat→List Nat)(W:List Nat){args:List AV}{M:AH}{K Kp:AV→AH→Prop}(hle:Nat.ble args.length 33=true)
 (h:ax (Nl B W) yH (az tb Try.f102.results.toList K) Kp (au args) M):aa Try.prog 102 args M K Kp:=
 aM.intro (x:=Nl B W) ag mixed Try.func102 (rfl:Try.f102.body=some yH) (by kernel_rfl) Hx rfl rfl rfl hle h
noncomputable def Nk (B:Nat→List Nat)(W:List Nat):Cx:={P:=Try.prog,T:=tb,n:=19,W:=W,B:=B}
noncomputable abbrev yG:Code:=match Try.f103.body with|some c=>c|none=>.skip
theorem Hw:aj (fun _=>none) yG=true:=by kernel_rfl
theorem J3 (B:Nat→List Nat)(W:List Nat){args:List AV}{M:AH}{K Kp:AV→AH→Prop}(hle:Nat.ble args.length 19=true)
 (h:ax (Nk B W) yG (az tb Try.f103.results.toList K) Kp (au args) M):aa Try.prog 103 args M K Kp:=
 aM.intro (x:=Nk B W) ag mixed Try.func103 (rfl:Try.f103.body=some yG) (by kernel_rfl) Hw rfl rfl rfl hle h
noncomputable def MJ:Nat→Option (List (Nat×Nat)×List Nat):=fun id=>match id with
 |1=>some ([(0,0),(1,0),(2,0),(3,0),(5,0),(6,0),(7,0),(8,0),(4,1),(9,1),(10,0),(11,0),(12,0),(13,0),(14,0),(15,0),(17,0),(18,0),(19,0),(20,0),(16,1),(21,1),(22,0),(23,0),(24,0),(25,0),(26,0),(27,0),(29,0),(30,0),(31,0),(32,0),(28,1),(33,1),(34,0),(35,0),(36,0),(37,0)],[])
 |_=>none
noncomputable def Nj (B:Nat→List Nat)(W:List Nat):Cx:={P:=Try.prog,T:=tb,n:=44,W:=W,B:=B,pl:=MJ}
noncomputable abbrev yF:Code:=match Try.f121.body with|some c=>c|none=>.skip
theorem Hv:aj MJ yF=true:=by kernel_rfl
theorem J2 (B:Nat→List Nat)(W:List Nat){args:List AV}{M:AH}{K Kp:AV→AH→Prop}(hle:Nat.ble args.length 44=true)
 (h:ax (Nj B W) yF (az tb Try.f121.results.toList K) Kp (au args) M):aa Try.prog 121 args M K Kp:=
 aM.intro (x:=Nj B W) ag mixed Try.func121 (rfl:Try.f121.body=some yF) (by kernel_rfl) Hv rfl rfl rfl hle h
noncomputable def MI:Nat→Option (List (Nat×Nat)×List Nat):=fun id=>match id with
 |0=>some ([(0,0),(1,0),(2,0),(3,0),(4,0),(5,0),(6,0),(8,0),(9,0),(10,0),(7,1),(11,1),(12,0),(13,3),(14,0),(15,3)],[13,15])
 |_=>none
noncomputable def Ni (B:Nat→List Nat)(W:List Nat):Cx:={P:=Try.prog,T:=tb,n:=20,W:=W,B:=B,pl:=MI}
noncomputable abbrev yE:Code:=match Try.f122.body with|some c=>c|none=>.skip
theorem Hu:aj MI yE=true:=by kernel_rfl
theorem J1 (B:Nat→List Nat)(W:List Nat){args:List AV}{M:AH}{K Kp:AV→AH→Prop}(hle:Nat.ble args.length 20=true)
 (h:ax (Ni B W) yE (az tb Try.f122.results.toList K) Kp (au args) M):aa Try.prog 122 args M K Kp:=
 aM.intro (x:=Ni B W) ag mixed Try.func122 (rfl:Try.f122.body=some yE) (by kernel_rfl) Hu rfl rfl rfl hle h
noncomputable def Nh (B:Nat→List Nat)(W:List Nat):Cx:={P:=Try.prog,T:=tb,n:=23,W:=W,B:=B}
noncomputable abbrev yD:Code:=match Try.f123.body with|some c=>c|none=>.skip
theorem Ht:aj (fun _=>none) yD=true:=by kernel_rfl
theorem J0 (B:Nat→List Nat)(W:List Nat){args:List AV}{M:AH}{K Kp:AV→AH→Prop}(hle:Nat.ble args.length 23=true)
 (h:ax (Nh B W) yD (az tb Try.f123.results.toList K) Kp (au args) M):aa Try.prog 123 args M K Kp:=
 aM.intro (x:=Nh B W) ag mixed Try.func123 (rfl:Try.f123.body=some yD) (by kernel_rfl) Ht rfl rfl rfl hle h
end Go.Proofs.Ytibadaomjlkoaaa
