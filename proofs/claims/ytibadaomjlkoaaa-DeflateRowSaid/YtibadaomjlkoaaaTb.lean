import Derived.Test.YtibadaomjlkoaaaAb23
import Derived.Test.YtibadaomjlkoaaaProg
import Derived.KernelRfl
set_option linter.unusedVariables false
namespace Go.Proofs.Ytibadaomjlkoaaa
noncomputable def tb:List TI:=[
⟨.other,1,0,[.raw (.tuple #[])]⟩,
⟨.func,1,8,[.nf]⟩,
⟨(.int .i64),1,8,[.int .i64 0]⟩,
⟨(.int .i64),1,8,[.int .i64 0]⟩,
⟨.bool,1,1,[.ff]⟩,
⟨(.int .u8),1,1,[.int .u8 0]⟩,
⟨(.int .u8),1,1,[.int .u8 0]⟩,
⟨(.struct [(0,2),(1,3),(2,4),(3,6)]),4,24,[.int .i64 0,.int .i64 0,.ff,.int .u8 0]⟩,
⟨(.struct [(0,2),(1,3),(2,4),(3,6)]),4,24,[.int .i64 0,.int .i64 0,.ff,.int .u8 0]⟩,
⟨.str,1,16,[.str ByteArray.empty]⟩,
⟨.str,1,16,[.str ByteArray.empty]⟩,
⟨.str,1,16,[.str ByteArray.empty]⟩,
⟨(.int .u64),1,8,[.int .u64 0]⟩,
⟨(.struct [(0,9),(1,12)]),2,24,[.str ByteArray.empty,.int .u64 0]⟩,
⟨(.struct [(0,9),(1,12)]),2,24,[.str ByteArray.empty,.int .u64 0]⟩,
⟨(.ptr 174),1,8,[.np]⟩,
⟨(.ptr 177),1,8,[.np]⟩,
⟨(.ptr 185),1,8,[.np]⟩,
⟨(.struct [(0,17)]),1,8,[.np]⟩,
⟨(.struct [(0,17)]),1,8,[.np]⟩,
⟨.iface,1,16,[.ni]⟩,
⟨(.int .i32),1,4,[.int .i32 0]⟩,
⟨(.slice 5),1,24,[.ns]⟩,
⟨(.int .i64),1,8,[.int .i64 0]⟩,
⟨.other,1,0,[.raw (.tuple #[.slice none 0 0,.int .i64 0])]⟩,
⟨.func,1,8,[.nf]⟩,
⟨.other,1,0,[.raw (.tuple #[.slice none 0 0,.int .i64 0,.int .i64 0])]⟩,
⟨.func,1,8,[.nf]⟩,
⟨.func,1,8,[.nf]⟩,
⟨.func,1,8,[.nf]⟩,
⟨.func,1,8,[.nf]⟩,
⟨.func,1,8,[.nf]⟩,
⟨.func,1,8,[.nf]⟩,
⟨(.int .u16),1,2,[.int .u16 0]⟩,
⟨.func,1,8,[.nf]⟩,
⟨(.int .u32),1,4,[.int .u32 0]⟩,
⟨(.int .u64),1,8,[.int .u64 0]⟩,
⟨(.slice 61),1,24,[.ns]⟩,
⟨.func,1,8,[.nf]⟩,
⟨(.ptr 43),1,8,[.np]⟩,
⟨(.struct [(0,22),(1,35),(2,3)]),3,40,[.ns,.int .u32 0,.int .i64 0]⟩,
⟨(.struct [(0,22),(1,35),(2,3)]),3,40,[.ns,.int .u32 0,.int .i64 0]⟩,
⟨(.struct [(0,41),(3,37),(4,22),(5,22)]),6,112,[.ns,.int .u32 0,.int .i64 0,.ns,.ns,.ns]⟩,
⟨(.struct [(0,41),(3,37),(4,22),(5,22)]),6,112,[.ns,.int .u32 0,.int .i64 0,.ns,.ns,.ns]⟩,
⟨.func,1,8,[.nf]⟩,
⟨(.slice 1),1,24,[.ns]⟩,
⟨(.slice 39),1,24,[.ns]⟩,
⟨.func,1,8,[.nf]⟩,
⟨(.ptr 53),1,8,[.np]⟩,
⟨(.slice 4),1,24,[.ns]⟩,
⟨(.slice 4),1,24,[.ns]⟩,
⟨.func,1,8,[.nf]⟩,
⟨(.struct [(0,50),(1,3),(2,22),(3,3),(4,23)]),5,72,[.ns,.int .i64 0,.ns,.int .i64 0,.int .i64 0]⟩,
⟨(.struct [(0,50),(1,3),(2,22),(3,3),(4,23)]),5,72,[.ns,.int .i64 0,.ns,.int .i64 0,.int .i64 0]⟩,
⟨.other,1,0,[.raw (.tuple #[.slice none 0 0,.slice none 0 0])]⟩,
⟨.func,1,8,[.nf]⟩,
⟨.func,1,8,[.nf]⟩,
⟨(.slice 141),1,24,[.ns]⟩,
⟨.func,1,8,[.nf]⟩,
⟨.func,1,8,[.nf]⟩,
⟨(.struct [(0,5),(1,3),(2,3)]),3,24,[.int .u8 0,.int .i64 0,.int .i64 0]⟩,
⟨(.struct [(0,5),(1,3),(2,3)]),3,24,[.int .u8 0,.int .i64 0,.int .i64 0]⟩,
⟨.func,1,8,[.nf]⟩,
⟨(.struct [(0,23)]),1,8,[.int .i64 0]⟩,
⟨(.struct [(0,23)]),1,8,[.int .i64 0]⟩,
⟨.other,1,0,[.raw (.tuple #[.agg #[.int .i64 0],.bool false])]⟩,
⟨(.ptr 70),1,8,[.np]⟩,
⟨(.ptr 104),1,8,[.np]⟩,
⟨.func,1,8,[.nf]⟩,
⟨(.struct [(0,67),(1,22),(2,3)]),3,40,[.np,.ns,.int .i64 0]⟩,
⟨(.struct [(0,67),(1,22),(2,3)]),3,40,[.np,.ns,.int .i64 0]⟩,
⟨.func,1,8,[.nf]⟩,
⟨(.arr 4 71),4,32,[.nf,.nf,.nf,.nf]⟩,
⟨.func,1,8,[.nf]⟩,
⟨(.map 76 3),1,8,[.nm]⟩,
⟨(.slice 3),1,24,[.ns]⟩,
⟨(.arr 3 5),3,3,[.int .u8 0,.int .u8 0,.int .u8 0]⟩,
⟨.func,1,8,[.nf]⟩,
⟨.func,1,8,[.nf]⟩,
⟨.func,1,8,[.nf]⟩,
⟨.func,1,8,[.nf]⟩,
⟨.func,1,8,[.nf]⟩,
⟨.func,1,8,[.nf]⟩,
⟨.func,1,8,[.nf]⟩,
⟨.func,1,8,[.nf]⟩,
⟨(.struct [(0,3),(1,3),(2,3)]),3,24,[.int .i64 0,.int .i64 0,.int .i64 0]⟩,
⟨(.struct [(0,3),(1,3),(2,3)]),3,24,[.int .i64 0,.int .i64 0,.int .i64 0]⟩,
⟨.func,1,8,[.nf]⟩,
⟨(.slice 33),1,24,[.ns]⟩,
⟨.other,1,0,[.raw (.tuple #[.slice none 0 0,.int .i64 0])]⟩,
⟨.func,1,8,[.nf]⟩,
⟨.func,1,8,[.nf]⟩,
⟨(.ptr 41),1,8,[.np]⟩,
⟨.func,1,8,[.nf]⟩,
⟨.other,1,0,[.raw (.tuple #[.int .u32 0,.int .i64 0,.int .i64 0])]⟩,
⟨.func,1,8,[.nf]⟩,
⟨.func,1,8,[.nf]⟩,
⟨.func,1,8,[.nf]⟩,
⟨.other,1,0,[.raw (.tuple #[.int .i64 0,.int .i64 0])]⟩,
⟨.func,1,8,[.nf]⟩,
⟨.other,1,0,[.raw (.tuple #[.slice none 0 0,.int .i64 0])]⟩,
⟨.func,1,8,[.nf]⟩,
⟨.func,1,8,[.nf]⟩,
⟨(.struct [(0,22),(1,3)]),2,32,[.ns,.int .i64 0]⟩,
⟨(.struct [(0,22),(1,3)]),2,32,[.ns,.int .i64 0]⟩,
⟨.func,1,8,[.nf]⟩,
⟨.func,1,8,[.nf]⟩,
⟨(.arr 2 3),2,16,[.int .i64 0,.int .i64 0]⟩,
⟨(.slice 107),1,24,[.ns]⟩,
⟨.func,1,8,[.nf]⟩,
⟨(.ptr 164),1,8,[.np]⟩,
⟨.func,1,8,[.nf]⟩,
⟨.func,1,8,[.nf]⟩,
⟨.other,1,0,[.raw (.tuple #[.int .u32 0,.int .i64 0])]⟩,
⟨.func,1,8,[.nf]⟩,
⟨.func,1,8,[.nf]⟩,
⟨.func,1,8,[.nf]⟩,
⟨(.slice 22),1,24,[.ns]⟩,
⟨.other,1,0,[.raw (.tuple #[.int .u64 0,.int .u64 0])]⟩,
⟨.func,1,8,[.nf]⟩,
⟨.func,1,8,[.nf]⟩,
⟨.func,1,8,[.nf]⟩,
⟨.func,1,8,[.nf]⟩,
⟨.func,1,8,[.nf]⟩,
⟨.func,1,8,[.nf]⟩,
⟨(.slice 127),1,24,[.ns]⟩,
⟨(.struct [(0,3),(1,3),(2,75)]),3,40,[.int .i64 0,.int .i64 0,.ns]⟩,
⟨(.struct [(0,3),(1,3),(2,75)]),3,40,[.int .i64 0,.int .i64 0,.ns]⟩,
⟨.func,1,8,[.nf]⟩,
⟨(.slice 127),1,24,[.ns]⟩,
⟨.func,1,8,[.nf]⟩,
⟨(.ptr 129),1,8,[.np]⟩,
⟨.func,1,8,[.nf]⟩,
⟨.func,1,8,[.nf]⟩,
⟨.func,1,8,[.nf]⟩,
⟨.func,1,8,[.nf]⟩,
⟨.func,1,8,[.nf]⟩,
⟨.other,1,0,[.raw (.tuple #[.int .i64 0,.int .i64 0,.int .i64 0])]⟩,
⟨.func,1,8,[.nf]⟩,
⟨.func,1,8,[.nf]⟩,
⟨(.struct [(0,3),(1,50)]),2,32,[.int .i64 0,.ns]⟩,
⟨(.struct [(0,3),(1,50)]),2,32,[.int .i64 0,.ns]⟩,
⟨.func,1,8,[.nf]⟩,
⟨.other,1,0,[.raw (.tuple #[.pointer none,.int .i64 0])]⟩,
⟨.func,1,8,[.nf]⟩,
⟨(.arr 3 107),6,48,[.int .i64 0,.int .i64 0,.int .i64 0,.int .i64 0,.int .i64 0,.int .i64 0]⟩,
⟨.other,1,0,[.raw (.tuple #[.int .u32 0,.int .u32 0])]⟩,
⟨.func,1,8,[.nf]⟩,
⟨(.int .u64),1,8,[.int .u64 0]⟩,
⟨.other,1,0,[.raw (.tuple #[.int .u64 0,.int .u64 0])]⟩,
⟨.func,1,8,[.nf]⟩,
⟨.func,1,8,[.nf]⟩,
⟨.func,1,8,[.nf]⟩,
⟨.iface,1,16,[.ni]⟩,
⟨.iface,1,16,[.ni]⟩,
⟨.func,1,8,[.nf]⟩,
⟨.func,1,8,[.nf]⟩,
⟨.func,1,8,[.nf]⟩,
⟨.func,1,8,[.nf]⟩,
⟨.func,1,8,[.nf]⟩,
⟨.other,1,0,[.raw (.tuple #[.int .i64 0,.int .i64 0])]⟩,
⟨.func,1,8,[.nf]⟩,
⟨(.map 166 3),1,8,[.nm]⟩,
⟨(.struct [(0,162)]),1,8,[.nm]⟩,
⟨(.struct [(0,162)]),1,8,[.nm]⟩,
⟨(.struct [(0,3),(1,3)]),2,16,[.int .i64 0,.int .i64 0]⟩,
⟨(.struct [(0,3),(1,3)]),2,16,[.int .i64 0,.int .i64 0]⟩,
⟨.func,1,8,[.nf]⟩,
⟨.func,1,8,[.nf]⟩,
⟨.func,1,8,[.nf]⟩,
⟨.func,1,8,[.nf]⟩,
⟨.other,1,0,[.raw (.tuple #[.int .i64 0,.bool false])]⟩,
⟨.func,1,8,[.nf]⟩,
⟨(.struct [(0,17),(1,17),(2,17),(3,9)]),4,40,[.np,.np,.np,.str ByteArray.empty]⟩,
⟨(.struct [(0,17),(1,17),(2,17),(3,9)]),4,40,[.np,.np,.np,.str ByteArray.empty]⟩,
⟨(.arr 0 16),0,0,[]⟩,
⟨(.struct [(0,175)]),0,0,[]⟩,
⟨(.struct [(0,175)]),0,0,[]⟩,
⟨(.int .u8),1,1,[.int .u8 0]⟩,
⟨(.int .u8),1,1,[.int .u8 0]⟩,
⟨.func,1,8,[.nf]⟩,
⟨(.ptr 5),1,8,[.np]⟩,
⟨(.int .i32),1,4,[.int .i32 0]⟩,
⟨(.int .i32),1,4,[.int .i32 0]⟩,
⟨(.struct [(0,12),(1,12),(2,35),(3,178),(4,5),(5,5),(6,179),(7,180),(8,181),(9,182),(10,183)]),11,48,[.int .u64 0,.int .u64 0,.int .u32 0,.int .u8 0,.int .u8 0,.int .u8 0,.int .u8 0,.nf,.np,.int .i32 0,.int .i32 0]⟩,
⟨(.struct [(0,12),(1,12),(2,35),(3,178),(4,5),(5,5),(6,179),(7,180),(8,181),(9,182),(10,183)]),11,48,[.int .u64 0,.int .u64 0,.int .u32 0,.int .u8 0,.int .u8 0,.int .u8 0,.int .u8 0,.nf,.np,.int .i32 0,.int .i32 0]⟩,
⟨.func,1,8,[.nf]⟩,
⟨.other,1,8,[.np]⟩]
theorem ag:ao Try.prog tb:=ao.mk' (by kernel_rfl)
theorem mixed:Try.prog.follows .mixedOrders=true:=by kernel_rfl
noncomputable def Yo (B:Nat→List Nat)(W:List Nat):Cx:={P:=Try.prog,T:=tb,n:=71,W:=W,B:=B}
noncomputable abbrev JD:Code:=match Try.f6.body with|some c=>c|none=>.skip
theorem O9:aj (fun _=>none) JD=true:=by kernel_rfl
theorem Rh (B:Nat→List Nat)(W:List Nat){args:List AV}{M:AH}{K Kp:AV→AH→Prop}(hle:Nat.ble args.length 71=true)
 (h:ax (Yo B W) JD (az tb Try.f6.results.toList K) Kp (au args) M):aa Try.prog 6 args M K Kp:=
 aM.intro (x:=Yo B W) ag mixed Try.func6 (rfl:Try.f6.body=some JD) (by kernel_rfl) O9 rfl rfl rfl hle h
noncomputable def Yn (B:Nat→List Nat)(W:List Nat):Cx:={P:=Try.prog,T:=tb,n:=54,W:=W,B:=B}
noncomputable abbrev JC:Code:=match Try.f8.body with|some c=>c|none=>.skip
theorem O8:aj (fun _=>none) JC=true:=by kernel_rfl
theorem Rg (B:Nat→List Nat)(W:List Nat){args:List AV}{M:AH}{K Kp:AV→AH→Prop}(hle:Nat.ble args.length 54=true)
 (h:ax (Yn B W) JC (az tb Try.f8.results.toList K) Kp (au args) M):aa Try.prog 8 args M K Kp:=
 aM.intro (x:=Yn B W) ag mixed Try.func8 (rfl:Try.f8.body=some JC) (by kernel_rfl) O8 rfl rfl rfl hle h
noncomputable def Uo (B:Nat→List Nat)(W:List Nat):Cx:={P:=Try.prog,T:=tb,n:=40,W:=W,B:=B}
noncomputable abbrev DD:Code:=match Try.f10.body with|some c=>c|none=>.skip
theorem LJ:aj (fun _=>none) DD=true:=by kernel_rfl
theorem O0 (B:Nat→List Nat)(W:List Nat){args:List AV}{M:AH}{K Kp:AV→AH→Prop}(hle:Nat.ble args.length 40=true)
 (h:ax (Uo B W) DD (az tb Try.f10.results.toList K) Kp (au args) M):aa Try.prog 10 args M K Kp:=
 aM.intro (x:=Uo B W) ag mixed Try.func10 (rfl:Try.f10.body=some DD) (by kernel_rfl) LJ rfl rfl rfl hle h
noncomputable def RM:Nat→Option (List (Nat×Nat)×List Nat):=fun id=>match id with
 |10=>some ([(0,0),(1,0),(2,0),(4,0),(5,0),(6,0),(3,1),(7,1),(8,2),(9,0),(10,0),(11,3),(12,3),(13,3)],[11,12,13])
 |_=>none
noncomputable def Xb (B:Nat→List Nat)(W:List Nat):Cx:={P:=Try.prog,T:=tb,n:=44,W:=W,B:=B,pl:=RM}
noncomputable abbrev JE:Code:=match Try.f13.body with|some c=>c|none=>.skip
theorem LI:aj RM JE=true:=by kernel_rfl
noncomputable def RL:Nat→Option (List (Nat×Nat)×List Nat):=fun id=>match id with
 |10=>some ([(0,1),(1,1),(2,1),(3,1),(4,0),(5,0),(6,2),(7,1),(8,1),(9,0)],[])
 |_=>none
noncomputable def Un (B:Nat→List Nat)(W:List Nat):Cx:={P:=Try.prog,T:=tb,n:=80,W:=W,B:=B,pl:=RL}
noncomputable abbrev DC:Code:=match Try.f14.body with|some c=>c|none=>.skip
theorem LH:aj RL DC=true:=by kernel_rfl
theorem OZ (B:Nat→List Nat)(W:List Nat){args:List AV}{M:AH}{K Kp:AV→AH→Prop}(hle:Nat.ble args.length 80=true)
 (h:ax (Un B W) DC (az tb Try.f14.results.toList K) Kp (au args) M):aa Try.prog 14 args M K Kp:=
 aM.intro (x:=Un B W) ag mixed Try.func14 (rfl:Try.f14.body=some DC) (by kernel_rfl) LH rfl rfl rfl hle h
noncomputable def Um (B:Nat→List Nat)(W:List Nat):Cx:={P:=Try.prog,T:=tb,n:=40,W:=W,B:=B}
noncomputable abbrev DB:Code:=match Try.f15.body with|some c=>c|none=>.skip
theorem LG:aj (fun _=>none) DB=true:=by kernel_rfl
theorem OY (B:Nat→List Nat)(W:List Nat){args:List AV}{M:AH}{K Kp:AV→AH→Prop}(hle:Nat.ble args.length 40=true)
 (h:ax (Um B W) DB (az tb Try.f15.results.toList K) Kp (au args) M):aa Try.prog 15 args M K Kp:=
 aM.intro (x:=Um B W) ag mixed Try.func15 (rfl:Try.f15.body=some DB) (by kernel_rfl) LG rfl rfl rfl hle h
noncomputable def Ul (B:Nat→List Nat)(W:List Nat):Cx:={P:=Try.prog,T:=tb,n:=26,W:=W,B:=B}
noncomputable abbrev DA:Code:=match Try.f16.body with|some c=>c|none=>.skip
theorem LF:aj (fun _=>none) DA=true:=by kernel_rfl
theorem OX (B:Nat→List Nat)(W:List Nat){args:List AV}{M:AH}{K Kp:AV→AH→Prop}(hle:Nat.ble args.length 26=true)
 (h:ax (Ul B W) DA (az tb Try.f16.results.toList K) Kp (au args) M):aa Try.prog 16 args M K Kp:=
 aM.intro (x:=Ul B W) ag mixed Try.func16 (rfl:Try.f16.body=some DA) (by kernel_rfl) LF rfl rfl rfl hle h
noncomputable def RK:Nat→Option (List (Nat×Nat)×List Nat):=fun id=>match id with
 |2=>some ([(0,1),(1,0),(2,0),(3,1),(4,1),(5,0),(6,0),(7,1),(8,3),(9,3),(10,0)],[8,9])
 |10=>some ([(0,0),(1,0),(2,0),(3,0),(5,0),(6,0),(7,0),(8,0),(9,0),(4,1),(10,1),(11,0),(12,1),(13,0),(14,0)],[])
 |13=>some ([(0,1),(1,0),(2,0),(3,1),(4,0),(5,0),(6,1),(7,0),(8,0),(9,0),(10,3)],[10])
 |14=>some ([(0,1),(1,0),(2,0),(3,1),(4,0),(5,0),(6,1),(7,0),(8,0),(9,0),(10,3)],[10])
 |19=>some ([(4,0),(0,1),(1,0),(2,0),(3,1),(5,0),(6,1),(7,0),(8,3)],[8])
 |_=>none
noncomputable def GN (B:Nat→List Nat)(W:List Nat):Cx:={P:=Try.prog,T:=tb,n:=127,W:=W,B:=B,pl:=RK}
noncomputable abbrev oX:Code:=match Try.f17.body with|some c=>c|none=>.skip
theorem El:aj RK oX=true:=by kernel_rfl
noncomputable def Uk (B:Nat→List Nat)(W:List Nat):Cx:={P:=Try.prog,T:=tb,n:=25,W:=W,B:=B}
noncomputable abbrev Dz:Code:=match Try.f18.body with|some c=>c|none=>.skip
theorem LD:aj (fun _=>none) Dz=true:=by kernel_rfl
theorem N9 (B:Nat→List Nat)(W:List Nat){args:List AV}{M:AH}{K Kp:AV→AH→Prop}(hle:Nat.ble args.length 25=true)
 (h:bO (Uk B W) Dz (az tb Try.f18.results.toList K) Kp (au args) M):aa Try.prog 18 args M K Kp:=
 aa.intro (x:=Uk B W) ag mixed Try.func18 (rfl:Try.f18.body=some Dz) (by kernel_rfl) LD rfl rfl rfl hle h
noncomputable def Ve:Nat→Option (List (Nat×Nat)×List Nat):=fun id=>match id with
 |2=>some ([(0,0),(1,1),(2,2),(3,2),(4,3)],[4])
 |_=>none
noncomputable def Uj (B:Nat→List Nat)(W:List Nat):Cx:={P:=Try.prog,T:=tb,n:=13,W:=W,B:=B,pl:=Ve}
noncomputable def Ui (B:Nat→List Nat)(W:List Nat):Cx:={P:=Try.prog,T:=tb,n:=7,W:=W,B:=B}
noncomputable abbrev Dy:Code:=match Try.f30.body with|some c=>c|none=>.skip
theorem LC:aj (fun _=>none) Dy=true:=by kernel_rfl
theorem N8 (B:Nat→List Nat)(W:List Nat){args:List AV}{M:AH}{K Kp:AV→AH→Prop}(hle:Nat.ble args.length 7=true)
 (h:bO (Ui B W) Dy (az tb Try.f30.results.toList K) Kp (au args) M):aa Try.prog 30 args M K Kp:=
 aa.intro (x:=Ui B W) ag mixed Try.func30 (rfl:Try.f30.body=some Dy) (by kernel_rfl) LC rfl rfl rfl hle h
noncomputable def RJ:Nat→Option (List (Nat×Nat)×List Nat):=fun id=>match id with
 |4=>some ([(0,0),(1,0),(2,0),(3,0),(5,0),(6,0),(7,0),(4,1),(8,1),(9,0),(10,0),(11,0),(12,0)],[])
 |_=>none
noncomputable def Uh (B:Nat→List Nat)(W:List Nat):Cx:={P:=Try.prog,T:=tb,n:=42,W:=W,B:=B,pl:=RJ}
noncomputable abbrev Dx:Code:=match Try.f31.body with|some c=>c|none=>.skip
theorem LB:aj RJ Dx=true:=by kernel_rfl
theorem OW (B:Nat→List Nat)(W:List Nat){args:List AV}{M:AH}{K Kp:AV→AH→Prop}(hle:Nat.ble args.length 42=true)
 (h:ax (Uh B W) Dx (az tb Try.f31.results.toList K) Kp (au args) M):aa Try.prog 31 args M K Kp:=
 aM.intro (x:=Uh B W) ag mixed Try.func31 (rfl:Try.f31.body=some Dx) (by kernel_rfl) LB rfl rfl rfl hle h
noncomputable def Ug (B:Nat→List Nat)(W:List Nat):Cx:={P:=Try.prog,T:=tb,n:=32,W:=W,B:=B}
noncomputable abbrev Dw:Code:=match Try.f32.body with|some c=>c|none=>.skip
theorem LA:aj (fun _=>none) Dw=true:=by kernel_rfl
theorem OV (B:Nat→List Nat)(W:List Nat){args:List AV}{M:AH}{K Kp:AV→AH→Prop}(hle:Nat.ble args.length 32=true)
 (h:ax (Ug B W) Dw (az tb Try.f32.results.toList K) Kp (au args) M):aa Try.prog 32 args M K Kp:=
 aM.intro (x:=Ug B W) ag mixed Try.func32 (rfl:Try.f32.body=some Dw) (by kernel_rfl) LA rfl rfl rfl hle h
noncomputable def RI:Nat→Option (List (Nat×Nat)×List Nat):=fun id=>match id with
 |7=>some ([(0,0),(1,0),(2,0),(3,0),(4,3),(5,0),(6,0),(7,3)],[4,7])
 |12=>some ([(0,0),(1,0),(2,0),(3,0),(5,0),(6,0),(7,0),(4,3),(8,3),(9,3)],[4,8,9])
 |_=>none
noncomputable def Uf (B:Nat→List Nat)(W:List Nat):Cx:={P:=Try.prog,T:=tb,n:=59,W:=W,B:=B,pl:=RI}
noncomputable abbrev Dv:Code:=match Try.f33.body with|some c=>c|none=>.skip
theorem Lz:aj RI Dv=true:=by kernel_rfl
theorem OU (B:Nat→List Nat)(W:List Nat){args:List AV}{M:AH}{K Kp:AV→AH→Prop}(hle:Nat.ble args.length 59=true)
 (h:ax (Uf B W) Dv (az tb Try.f33.results.toList K) Kp (au args) M):aa Try.prog 33 args M K Kp:=
 aM.intro (x:=Uf B W) ag mixed Try.func33 (rfl:Try.f33.body=some Dv) (by kernel_rfl) Lz rfl rfl rfl hle h
noncomputable def Ue (B:Nat→List Nat)(W:List Nat):Cx:={P:=Try.prog,T:=tb,n:=3,W:=W,B:=B}
noncomputable abbrev Du:Code:=match Try.f34.body with|some c=>c|none=>.skip
theorem Ly:aj (fun _=>none) Du=true:=by kernel_rfl
theorem OT (B:Nat→List Nat)(W:List Nat){args:List AV}{M:AH}{K Kp:AV→AH→Prop}(hle:Nat.ble args.length 3=true)
 (h:ax (Ue B W) Du (az tb Try.f34.results.toList K) Kp (au args) M):aa Try.prog 34 args M K Kp:=
 aM.intro (x:=Ue B W) ag mixed Try.func34 (rfl:Try.f34.body=some Du) (by kernel_rfl) Ly rfl rfl rfl hle h
noncomputable def Ud (B:Nat→List Nat)(W:List Nat):Cx:={P:=Try.prog,T:=tb,n:=20,W:=W,B:=B}
noncomputable abbrev Dt:Code:=match Try.f35.body with|some c=>c|none=>.skip
theorem Lx:aj (fun _=>none) Dt=true:=by kernel_rfl
theorem OS (B:Nat→List Nat)(W:List Nat){args:List AV}{M:AH}{K Kp:AV→AH→Prop}(hle:Nat.ble args.length 20=true)
 (h:ax (Ud B W) Dt (az tb Try.f35.results.toList K) Kp (au args) M):aa Try.prog 35 args M K Kp:=
 aM.intro (x:=Ud B W) ag mixed Try.func35 (rfl:Try.f35.body=some Dt) (by kernel_rfl) Lx rfl rfl rfl hle h
noncomputable def Uc (B:Nat→List Nat)(W:List Nat):Cx:={P:=Try.prog,T:=tb,n:=9,W:=W,B:=B}
noncomputable abbrev Ds:Code:=match Try.f36.body with|some c=>c|none=>.skip
theorem Lw:aj (fun _=>none) Ds=true:=by kernel_rfl
theorem N7 (B:Nat→List Nat)(W:List Nat){args:List AV}{M:AH}{K Kp:AV→AH→Prop}(hle:Nat.ble args.length 9=true)
 (h:bO (Uc B W) Ds (az tb Try.f36.results.toList K) Kp (au args) M):aa Try.prog 36 args M K Kp:=
 aa.intro (x:=Uc B W) ag mixed Try.func36 (rfl:Try.f36.body=some Ds) (by kernel_rfl) Lw rfl rfl rfl hle h
noncomputable def RH:Nat→Option (List (Nat×Nat)×List Nat):=fun id=>match id with
 |2=>some ([(1,0),(7,0),(8,0),(0,1),(2,1),(3,1),(4,1),(5,1),(6,1),(9,0),(10,2),(11,3)],[11])
 |_=>none
noncomputable def Ub (B:Nat→List Nat)(W:List Nat):Cx:={P:=Try.prog,T:=tb,n:=28,W:=W,B:=B,pl:=RH}
noncomputable abbrev Dr:Code:=match Try.f37.body with|some c=>c|none=>.skip
theorem Lv:aj RH Dr=true:=by kernel_rfl
theorem OR (B:Nat→List Nat)(W:List Nat){args:List AV}{M:AH}{K Kp:AV→AH→Prop}(hle:Nat.ble args.length 28=true)
 (h:ax (Ub B W) Dr (az tb Try.f37.results.toList K) Kp (au args) M):aa Try.prog 37 args M K Kp:=
 aM.intro (x:=Ub B W) ag mixed Try.func37 (rfl:Try.f37.body=some Dr) (by kernel_rfl) Lv rfl rfl rfl hle h
noncomputable def Ua (B:Nat→List Nat)(W:List Nat):Cx:={P:=Try.prog,T:=tb,n:=23,W:=W,B:=B}
noncomputable abbrev Dq:Code:=match Try.f38.body with|some c=>c|none=>.skip
theorem Lu:aj (fun _=>none) Dq=true:=by kernel_rfl
theorem OQ (B:Nat→List Nat)(W:List Nat){args:List AV}{M:AH}{K Kp:AV→AH→Prop}(hle:Nat.ble args.length 23=true)
 (h:ax (Ua B W) Dq (az tb Try.f38.results.toList K) Kp (au args) M):aa Try.prog 38 args M K Kp:=
 aM.intro (x:=Ua B W) ag mixed Try.func38 (rfl:Try.f38.body=some Dq) (by kernel_rfl) Lu rfl rfl rfl hle h
noncomputable def RG:Nat→Option (List (Nat×Nat)×List Nat):=fun id=>match id with
 |2=>some ([(0,0),(1,0),(2,0),(3,0),(4,0),(5,0),(6,0),(7,0),(8,0),(9,0),(10,0),(11,0),(12,0),(13,0),(14,0),(15,0),(17,0),(18,0),(19,0),(20,0),(21,0),(16,1),(22,1),(23,0),(24,0)],[])
 |_=>none
noncomputable def T9 (B:Nat→List Nat)(W:List Nat):Cx:={P:=Try.prog,T:=tb,n:=36,W:=W,B:=B,pl:=RG}
noncomputable abbrev Dp:Code:=match Try.f39.body with|some c=>c|none=>.skip
theorem Lt:aj RG Dp=true:=by kernel_rfl
theorem OP (B:Nat→List Nat)(W:List Nat){args:List AV}{M:AH}{K Kp:AV→AH→Prop}(hle:Nat.ble args.length 36=true)
 (h:ax (T9 B W) Dp (az tb Try.f39.results.toList K) Kp (au args) M):aa Try.prog 39 args M K Kp:=
 aM.intro (x:=T9 B W) ag mixed Try.func39 (rfl:Try.f39.body=some Dp) (by kernel_rfl) Lt rfl rfl rfl hle h
noncomputable def T8 (B:Nat→List Nat)(W:List Nat):Cx:={P:=Try.prog,T:=tb,n:=27,W:=W,B:=B}
noncomputable abbrev Dn:Code:=match Try.f40.body with|some c=>c|none=>.skip
theorem Ls:aj (fun _=>none) Dn=true:=by kernel_rfl
theorem N6 (B:Nat→List Nat)(W:List Nat){args:List AV}{M:AH}{K Kp:AV→AH→Prop}(hle:Nat.ble args.length 27=true)
 (h:bO (T8 B W) Dn (az tb Try.f40.results.toList K) Kp (au args) M):aa Try.prog 40 args M K Kp:=
 aa.intro (x:=T8 B W) ag mixed Try.func40 (rfl:Try.f40.body=some Dn) (by kernel_rfl) Ls rfl rfl rfl hle h
noncomputable def T7 (B:Nat→List Nat)(W:List Nat):Cx:={P:=Try.prog,T:=tb,n:=36,W:=W,B:=B}
noncomputable abbrev Dm:Code:=match Try.f41.body with|some c=>c|none=>.skip
theorem Lr:aj (fun _=>none) Dm=true:=by kernel_rfl
theorem Hu (B:Nat→List Nat)(W:List Nat){args:List AV}{M:AH}{K Kp:AV→AH→Prop}(hle:Nat.ble args.length 36=true)
 (h:ax (T7 B W) Dm (az tb Try.f41.results.toList K) Kp (au args) M):aa Try.prog 41 args M K Kp:=
 aM.intro (x:=T7 B W) ag mixed Try.func41 (rfl:Try.f41.body=some Dm) (by kernel_rfl) Lr rfl rfl rfl hle h
noncomputable def RE:Nat→Option (List (Nat×Nat)×List Nat):=fun id=>match id with
 |9=>some ([(0,0),(1,0),(2,0),(3,0),(4,0),(5,0),(6,0),(7,3),(8,0),(9,0)],[7])
 |_=>none
noncomputable def T6 (B:Nat→List Nat)(W:List Nat):Cx:={P:=Try.prog,T:=tb,n:=48,W:=W,B:=B,pl:=RE}
noncomputable abbrev Dl:Code:=match Try.f42.body with|some c=>c|none=>.skip
theorem Lq:aj RE Dl=true:=by kernel_rfl
theorem OO (B:Nat→List Nat)(W:List Nat){args:List AV}{M:AH}{K Kp:AV→AH→Prop}(hle:Nat.ble args.length 48=true)
 (h:ax (T6 B W) Dl (az tb Try.f42.results.toList K) Kp (au args) M):aa Try.prog 42 args M K Kp:=
 aM.intro (x:=T6 B W) ag mixed Try.func42 (rfl:Try.f42.body=some Dl) (by kernel_rfl) Lq rfl rfl rfl hle h
noncomputable def RC:Nat→Option (List (Nat×Nat)×List Nat):=fun id=>match id with
 |6=>some ([(0,0),(1,0),(2,0),(3,0),(4,0),(6,0),(5,1),(7,1),(8,0),(9,0),(10,3)],[10])
 |7=>some ([(0,0),(1,0),(2,0),(3,0),(4,0),(6,0),(5,1),(7,1),(8,2),(9,3)],[9])
 |8=>some ([(0,0),(1,0),(2,0),(3,0),(4,0),(6,0),(5,1),(7,1),(8,0),(9,2),(10,3)],[10])
 |_=>none
noncomputable def T5 (B:Nat→List Nat)(W:List Nat):Cx:={P:=Try.prog,T:=tb,n:=77,W:=W,B:=B,pl:=RC}
noncomputable abbrev Dk:Code:=match Try.f43.body with|some c=>c|none=>.skip
theorem Lp:aj RC Dk=true:=by kernel_rfl
theorem ON (B:Nat→List Nat)(W:List Nat){args:List AV}{M:AH}{K Kp:AV→AH→Prop}(hle:Nat.ble args.length 77=true)
 (h:ax (T5 B W) Dk (az tb Try.f43.results.toList K) Kp (au args) M):aa Try.prog 43 args M K Kp:=
 aM.intro (x:=T5 B W) ag mixed Try.func43 (rfl:Try.f43.body=some Dk) (by kernel_rfl) Lp rfl rfl rfl hle h
noncomputable def RB:Nat→Option (List (Nat×Nat)×List Nat):=fun id=>match id with
 |0=>some ([],[])
 |13=>some ([(0,0),(1,0),(2,0),(3,0),(4,0),(5,0),(8,0),(9,0),(10,0),(11,0),(6,1),(12,1),(7,2),(13,3),(14,0),(15,0),(16,3),(17,0),(18,0),(19,3)],[13,16,19])
 |_=>none
noncomputable def T4 (B:Nat→List Nat)(W:List Nat):Cx:={P:=Try.prog,T:=tb,n:=84,W:=W,B:=B,pl:=RB}
noncomputable abbrev Dj:Code:=match Try.f44.body with|some c=>c|none=>.skip
theorem Lo:aj RB Dj=true:=by kernel_rfl
theorem OM (B:Nat→List Nat)(W:List Nat){args:List AV}{M:AH}{K Kp:AV→AH→Prop}(hle:Nat.ble args.length 84=true)
 (h:ax (T4 B W) Dj (az tb Try.f44.results.toList K) Kp (au args) M):aa Try.prog 44 args M K Kp:=
 aM.intro (x:=T4 B W) ag mixed Try.func44 (rfl:Try.f44.body=some Dj) (by kernel_rfl) Lo rfl rfl rfl hle h
noncomputable def T3 (B:Nat→List Nat)(W:List Nat):Cx:={P:=Try.prog,T:=tb,n:=4,W:=W,B:=B}
noncomputable abbrev Di:Code:=match Try.f45.body with|some c=>c|none=>.skip
theorem Ln:aj (fun _=>none) Di=true:=by kernel_rfl
theorem Ht (B:Nat→List Nat)(W:List Nat){args:List AV}{M:AH}{K Kp:AV→AH→Prop}(hle:Nat.ble args.length 4=true)
 (h:ax (T3 B W) Di (az tb Try.f45.results.toList K) Kp (au args) M):aa Try.prog 45 args M K Kp:=
 aM.intro (x:=T3 B W) ag mixed Try.func45 (rfl:Try.f45.body=some Di) (by kernel_rfl) Ln rfl rfl rfl hle h
noncomputable def RA:Nat→Option (List (Nat×Nat)×List Nat):=fun id=>match id with
 |23=>some ([(0,0),(1,0),(2,0),(4,0),(5,0),(3,1),(6,12),(7,0),(8,2),(9,3)],[9])
 |_=>none
noncomputable def T2 (B:Nat→List Nat)(W:List Nat):Cx:={P:=Try.prog,T:=tb,n:=146,W:=W,B:=B,pl:=RA}
noncomputable abbrev Dh:Code:=match Try.f46.body with|some c=>c|none=>.skip
theorem Lm:aj RA Dh=true:=by kernel_rfl
theorem OL (B:Nat→List Nat)(W:List Nat){args:List AV}{M:AH}{K Kp:AV→AH→Prop}(hle:Nat.ble args.length 146=true)
 (h:ax (T2 B W) Dh (az tb Try.f46.results.toList K) Kp (au args) M):aa Try.prog 46 args M K Kp:=
 aM.intro (x:=T2 B W) ag mixed Try.func46 (rfl:Try.f46.body=some Dh) (by kernel_rfl) Lm rfl rfl rfl hle h
noncomputable def T1 (B:Nat→List Nat)(W:List Nat):Cx:={P:=Try.prog,T:=tb,n:=17,W:=W,B:=B}
noncomputable abbrev Dg:Code:=match Try.f47.body with|some c=>c|none=>.skip
theorem Ll:aj (fun _=>none) Dg=true:=by kernel_rfl
theorem OK (B:Nat→List Nat)(W:List Nat){args:List AV}{M:AH}{K Kp:AV→AH→Prop}(hle:Nat.ble args.length 17=true)
 (h:ax (T1 B W) Dg (az tb Try.f47.results.toList K) Kp (au args) M):aa Try.prog 47 args M K Kp:=
 aM.intro (x:=T1 B W) ag mixed Try.func47 (rfl:Try.f47.body=some Dg) (by kernel_rfl) Ll rfl rfl rfl hle h
noncomputable def Rz:Nat→Option (List (Nat×Nat)×List Nat):=fun id=>match id with
 |1=>some ([(0,0),(1,0),(2,0),(3,0),(4,0),(9,0),(10,0),(5,1),(6,0),(7,1),(8,0),(11,1),(12,0),(13,1),(14,0),(15,3)],[15])
 |2=>some ([(0,0),(1,0),(2,0),(3,0),(6,0),(4,1),(5,0),(7,1),(8,3)],[8])
 |_=>none
noncomputable def T0 (B:Nat→List Nat)(W:List Nat):Cx:={P:=Try.prog,T:=tb,n:=33,W:=W,B:=B,pl:=Rz}
noncomputable abbrev Df:Code:=match Try.f48.body with|some c=>c|none=>.skip
theorem Lk:aj Rz Df=true:=by kernel_rfl
theorem Bv (B:Nat→List Nat)(W:List Nat){args:List AV}{M:AH}{K Kp:AV→AH→Prop}(hle:Nat.ble args.length 33=true)
 (h:ax (T0 B W) Df (az tb Try.f48.results.toList K) Kp (au args) M):aa Try.prog 48 args M K Kp:=
 aM.intro (x:=T0 B W) ag mixed Try.func48 (rfl:Try.f48.body=some Df) (by kernel_rfl) Lk rfl rfl rfl hle h
noncomputable def TZ (B:Nat→List Nat)(W:List Nat):Cx:={P:=Try.prog,T:=tb,n:=8,W:=W,B:=B}
noncomputable abbrev De:Code:=match Try.f49.body with|some c=>c|none=>.skip
theorem Lj:aj (fun _=>none) De=true:=by kernel_rfl
theorem N5 (B:Nat→List Nat)(W:List Nat){args:List AV}{M:AH}{K Kp:AV→AH→Prop}(hle:Nat.ble args.length 8=true)
 (h:bO (TZ B W) De (az tb Try.f49.results.toList K) Kp (au args) M):aa Try.prog 49 args M K Kp:=
 aa.intro (x:=TZ B W) ag mixed Try.func49 (rfl:Try.f49.body=some De) (by kernel_rfl) Lj rfl rfl rfl hle h
noncomputable def TY (B:Nat→List Nat)(W:List Nat):Cx:={P:=Try.prog,T:=tb,n:=14,W:=W,B:=B}
noncomputable abbrev Dd:Code:=match Try.f59.body with|some c=>c|none=>.skip
theorem Li:aj (fun _=>none) Dd=true:=by kernel_rfl
theorem N4 (B:Nat→List Nat)(W:List Nat){args:List AV}{M:AH}{K Kp:AV→AH→Prop}(hle:Nat.ble args.length 14=true)
 (h:bO (TY B W) Dd (az tb Try.f59.results.toList K) Kp (au args) M):aa Try.prog 59 args M K Kp:=
 aa.intro (x:=TY B W) ag mixed Try.func59 (rfl:Try.f59.body=some Dd) (by kernel_rfl) Li rfl rfl rfl hle h
noncomputable def TX (B:Nat→List Nat)(W:List Nat):Cx:={P:=Try.prog,T:=tb,n:=7,W:=W,B:=B}
noncomputable abbrev Dc:Code:=match Try.f60.body with|some c=>c|none=>.skip
theorem Lh:aj (fun _=>none) Dc=true:=by kernel_rfl
theorem OJ (B:Nat→List Nat)(W:List Nat){args:List AV}{M:AH}{K Kp:AV→AH→Prop}(hle:Nat.ble args.length 7=true)
 (h:ax (TX B W) Dc (az tb Try.f60.results.toList K) Kp (au args) M):aa Try.prog 60 args M K Kp:=
 aM.intro (x:=TX B W) ag mixed Try.func60 (rfl:Try.f60.body=some Dc) (by kernel_rfl) Lh rfl rfl rfl hle h
noncomputable def Ry:Nat→Option (List (Nat×Nat)×List Nat):=fun id=>match id with
 |0=>some ([(0,0),(1,0),(2,0),(5,0),(6,0),(7,0),(3,1),(4,0),(8,1),(9,0)],[])
 |_=>none
noncomputable def TW (B:Nat→List Nat)(W:List Nat):Cx:={P:=Try.prog,T:=tb,n:=25,W:=W,B:=B,pl:=Ry}
noncomputable abbrev Db:Code:=match Try.f61.body with|some c=>c|none=>.skip
theorem Lg:aj Ry Db=true:=by kernel_rfl
theorem OI (B:Nat→List Nat)(W:List Nat){args:List AV}{M:AH}{K Kp:AV→AH→Prop}(hle:Nat.ble args.length 25=true)
 (h:ax (TW B W) Db (az tb Try.f61.results.toList K) Kp (au args) M):aa Try.prog 61 args M K Kp:=
 aM.intro (x:=TW B W) ag mixed Try.func61 (rfl:Try.f61.body=some Db) (by kernel_rfl) Lg rfl rfl rfl hle h
noncomputable def Rx:Nat→Option (List (Nat×Nat)×List Nat):=fun id=>match id with
 |17=>some ([(0,0),(1,0),(2,0),(3,0),(5,0),(6,0),(7,0),(10,0),(4,1),(8,1),(9,0),(11,0),(12,0),(13,1),(14,3)],[14])
 |_=>none
noncomputable def TV (B:Nat→List Nat)(W:List Nat):Cx:={P:=Try.prog,T:=tb,n:=70,W:=W,B:=B,pl:=Rx}
noncomputable abbrev Da:Code:=match Try.f62.body with|some c=>c|none=>.skip
theorem Lf:aj Rx Da=true:=by kernel_rfl
theorem OH (B:Nat→List Nat)(W:List Nat){args:List AV}{M:AH}{K Kp:AV→AH→Prop}(hle:Nat.ble args.length 70=true)
 (h:ax (TV B W) Da (az tb Try.f62.results.toList K) Kp (au args) M):aa Try.prog 62 args M K Kp:=
 aM.intro (x:=TV B W) ag mixed Try.func62 (rfl:Try.f62.body=some Da) (by kernel_rfl) Lf rfl rfl rfl hle h
noncomputable def TU (B:Nat→List Nat)(W:List Nat):Cx:={P:=Try.prog,T:=tb,n:=13,W:=W,B:=B}
noncomputable abbrev C9:Code:=match Try.f63.body with|some c=>c|none=>.skip
theorem Le:aj (fun _=>none) C9=true:=by kernel_rfl
theorem OG (B:Nat→List Nat)(W:List Nat){args:List AV}{M:AH}{K Kp:AV→AH→Prop}(hle:Nat.ble args.length 13=true)
 (h:ax (TU B W) C9 (az tb Try.f63.results.toList K) Kp (au args) M):aa Try.prog 63 args M K Kp:=
 aM.intro (x:=TU B W) ag mixed Try.func63 (rfl:Try.f63.body=some C9) (by kernel_rfl) Le rfl rfl rfl hle h
noncomputable def Rw:Nat→Option (List (Nat×Nat)×List Nat):=fun id=>match id with
 |12=>some ([(0,0),(2,0),(3,0),(1,1),(4,1),(5,2),(6,0),(7,0)],[])
 |_=>none
noncomputable def TT (B:Nat→List Nat)(W:List Nat):Cx:={P:=Try.prog,T:=tb,n:=66,W:=W,B:=B,pl:=Rw}
noncomputable abbrev C8:Code:=match Try.f64.body with|some c=>c|none=>.skip
theorem Ld:aj Rw C8=true:=by kernel_rfl
theorem OE (B:Nat→List Nat)(W:List Nat){args:List AV}{M:AH}{K Kp:AV→AH→Prop}(hle:Nat.ble args.length 66=true)
 (h:ax (TT B W) C8 (az tb Try.f64.results.toList K) Kp (au args) M):aa Try.prog 64 args M K Kp:=
 aM.intro (x:=TT B W) ag mixed Try.func64 (rfl:Try.f64.body=some C8) (by kernel_rfl) Ld rfl rfl rfl hle h
noncomputable def Rv:Nat→Option (List (Nat×Nat)×List Nat):=fun id=>match id with
 |11=>some ([(0,0),(1,0),(2,0),(4,0),(5,0),(6,0),(12,0),(13,0),(14,0),(18,0),(19,0),(20,0),(3,1),(7,1),(8,0),(9,0),(10,1),(11,0),(15,1),(16,0),(17,0),(21,0),(22,0)],[])
 |_=>none
noncomputable def TS (B:Nat→List Nat)(W:List Nat):Cx:={P:=Try.prog,T:=tb,n:=74,W:=W,B:=B,pl:=Rv}
noncomputable abbrev C7:Code:=match Try.f65.body with|some c=>c|none=>.skip
theorem Lb:aj Rv C7=true:=by kernel_rfl
theorem OD (B:Nat→List Nat)(W:List Nat){args:List AV}{M:AH}{K Kp:AV→AH→Prop}(hle:Nat.ble args.length 74=true)
 (h:ax (TS B W) C7 (az tb Try.f65.results.toList K) Kp (au args) M):aa Try.prog 65 args M K Kp:=
 aM.intro (x:=TS B W) ag mixed Try.func65 (rfl:Try.f65.body=some C7) (by kernel_rfl) Lb rfl rfl rfl hle h
noncomputable def Ru:Nat→Option (List (Nat×Nat)×List Nat):=fun id=>match id with
 |0=>some ([(0,0),(1,0),(2,0),(4,0),(5,0),(6,0),(7,0),(3,1),(8,1),(9,0),(10,0),(11,0),(12,0),(13,3)],[13])
 |4=>some ([(0,0),(1,0),(2,0),(3,0),(5,0),(6,0),(7,0),(4,1),(8,1),(9,0),(10,2),(11,3),(12,0),(13,0),(14,3)],[11,14])
 |_=>none
noncomputable def TR (B:Nat→List Nat)(W:List Nat):Cx:={P:=Try.prog,T:=tb,n:=60,W:=W,B:=B,pl:=Ru}
noncomputable abbrev C6:Code:=match Try.f66.body with|some c=>c|none=>.skip
theorem La:aj Ru C6=true:=by kernel_rfl
theorem N3 (B:Nat→List Nat)(W:List Nat){args:List AV}{M:AH}{K Kp:AV→AH→Prop}(hle:Nat.ble args.length 60=true)
 (h:bO (TR B W) C6 (az tb Try.f66.results.toList K) Kp (au args) M):aa Try.prog 66 args M K Kp:=
 aa.intro (x:=TR B W) ag mixed Try.func66 (rfl:Try.f66.body=some C6) (by kernel_rfl) La rfl rfl rfl hle h
noncomputable def TQ (B:Nat→List Nat)(W:List Nat):Cx:={P:=Try.prog,T:=tb,n:=17,W:=W,B:=B}
noncomputable abbrev C5:Code:=match Try.f67.body with|some c=>c|none=>.skip
theorem K9:aj (fun _=>none) C5=true:=by kernel_rfl
theorem N2 (B:Nat→List Nat)(W:List Nat){args:List AV}{M:AH}{K Kp:AV→AH→Prop}(hle:Nat.ble args.length 17=true)
 (h:bO (TQ B W) C5 (az tb Try.f67.results.toList K) Kp (au args) M):aa Try.prog 67 args M K Kp:=
 aa.intro (x:=TQ B W) ag mixed Try.func67 (rfl:Try.f67.body=some C5) (by kernel_rfl) K9 rfl rfl rfl hle h
noncomputable def Rt:Nat→Option (List (Nat×Nat)×List Nat):=fun id=>match id with
 |3=>some ([(0,0),(1,0),(2,0),(6,0),(7,0),(8,0),(3,1),(4,0),(5,0),(9,1),(10,0),(11,0)],[])
 |_=>none
noncomputable def TP (B:Nat→List Nat)(W:List Nat):Cx:={P:=Try.prog,T:=tb,n:=16,W:=W,B:=B,pl:=Rt}
noncomputable abbrev C4:Code:=match Try.f68.body with|some c=>c|none=>.skip
theorem K8:aj Rt C4=true:=by kernel_rfl
theorem NZ (B:Nat→List Nat)(W:List Nat){args:List AV}{M:AH}{K Kp:AV→AH→Prop}(hle:Nat.ble args.length 16=true)
 (h:bO (TP B W) C4 (az tb Try.f68.results.toList K) Kp (au args) M):aa Try.prog 68 args M K Kp:=
 aa.intro (x:=TP B W) ag mixed Try.func68 (rfl:Try.f68.body=some C4) (by kernel_rfl) K8 rfl rfl rfl hle h
noncomputable def TO (B:Nat→List Nat)(W:List Nat):Cx:={P:=Try.prog,T:=tb,n:=27,W:=W,B:=B}
noncomputable abbrev C3:Code:=match Try.f69.body with|some c=>c|none=>.skip
theorem K7:aj (fun _=>none) C3=true:=by kernel_rfl
theorem OC (B:Nat→List Nat)(W:List Nat){args:List AV}{M:AH}{K Kp:AV→AH→Prop}(hle:Nat.ble args.length 27=true)
 (h:ax (TO B W) C3 (az tb Try.f69.results.toList K) Kp (au args) M):aa Try.prog 69 args M K Kp:=
 aM.intro (x:=TO B W) ag mixed Try.func69 (rfl:Try.f69.body=some C3) (by kernel_rfl) K7 rfl rfl rfl hle h
noncomputable def TN (B:Nat→List Nat)(W:List Nat):Cx:={P:=Try.prog,T:=tb,n:=30,W:=W,B:=B}
noncomputable abbrev C2:Code:=match Try.f70.body with|some c=>c|none=>.skip
theorem K6:aj (fun _=>none) C2=true:=by kernel_rfl
theorem OB (B:Nat→List Nat)(W:List Nat){args:List AV}{M:AH}{K Kp:AV→AH→Prop}(hle:Nat.ble args.length 30=true)
 (h:ax (TN B W) C2 (az tb Try.f70.results.toList K) Kp (au args) M):aa Try.prog 70 args M K Kp:=
 aM.intro (x:=TN B W) ag mixed Try.func70 (rfl:Try.f70.body=some C2) (by kernel_rfl) K6 rfl rfl rfl hle h
noncomputable def TM (B:Nat→List Nat)(W:List Nat):Cx:={P:=Try.prog,T:=tb,n:=15,W:=W,B:=B}
noncomputable abbrev C1:Code:=match Try.f71.body with|some c=>c|none=>.skip
theorem K5:aj (fun _=>none) C1=true:=by kernel_rfl
theorem OA (B:Nat→List Nat)(W:List Nat){args:List AV}{M:AH}{K Kp:AV→AH→Prop}(hle:Nat.ble args.length 15=true)
 (h:ax (TM B W) C1 (az tb Try.f71.results.toList K) Kp (au args) M):aa Try.prog 71 args M K Kp:=
 aM.intro (x:=TM B W) ag mixed Try.func71 (rfl:Try.f71.body=some C1) (by kernel_rfl) K5 rfl rfl rfl hle h
noncomputable def Rr:Nat→Option (List (Nat×Nat)×List Nat):=fun id=>match id with
 |6=>some ([(0,0),(1,0),(2,0),(3,0),(4,0),(5,0),(6,0),(7,0),(8,0),(9,0),(10,0),(11,0),(12,0),(13,0),(14,0),(15,0),(16,0),(17,3)],[17])
 |_=>none
noncomputable def TJ (B:Nat→List Nat)(W:List Nat):Cx:={P:=Try.prog,T:=tb,n:=37,W:=W,B:=B,pl:=Rr}
noncomputable abbrev C0:Code:=match Try.f72.body with|some c=>c|none=>.skip
theorem K4:aj Rr C0=true:=by kernel_rfl
theorem Hs (B:Nat→List Nat)(W:List Nat){args:List AV}{M:AH}{K Kp:AV→AH→Prop}(hle:Nat.ble args.length 37=true)
 (h:ax (TJ B W) C0 (az tb Try.f72.results.toList K) Kp (au args) M):aa Try.prog 72 args M K Kp:=
 aM.intro (x:=TJ B W) ag mixed Try.func72 (rfl:Try.f72.body=some C0) (by kernel_rfl) K4 rfl rfl rfl hle h
noncomputable def TH (B:Nat→List Nat)(W:List Nat):Cx:={P:=Try.prog,T:=tb,n:=24,W:=W,B:=B}
noncomputable abbrev CZ:Code:=match Try.f73.body with|some c=>c|none=>.skip
theorem K3:aj (fun _=>none) CZ=true:=by kernel_rfl
theorem Oz (B:Nat→List Nat)(W:List Nat){args:List AV}{M:AH}{K Kp:AV→AH→Prop}(hle:Nat.ble args.length 24=true)
 (h:ax (TH B W) CZ (az tb Try.f73.results.toList K) Kp (au args) M):aa Try.prog 73 args M K Kp:=
 aM.intro (x:=TH B W) ag mixed Try.func73 (rfl:Try.f73.body=some CZ) (by kernel_rfl) K3 rfl rfl rfl hle h
noncomputable def Rq:Nat→Option (List (Nat×Nat)×List Nat):=fun id=>match id with
 |3=>some ([(0,0),(1,0),(2,0),(3,1),(4,0),(5,0),(6,0),(8,0),(9,0),(10,0),(14,0),(7,1),(11,0),(12,1),(13,1),(15,0),(16,1),(17,0),(18,0)],[])
 |12=>some ([(0,0),(1,0),(2,0),(4,0),(5,0),(9,0),(3,1),(6,0),(7,1),(8,1),(10,0),(11,1),(12,0),(13,0),(14,0),(15,0),(16,0),(17,0),(18,0)],[])
 |_=>none
noncomputable def TG (B:Nat→List Nat)(W:List Nat):Cx:={P:=Try.prog,T:=tb,n:=96,W:=W,B:=B,pl:=Rq}
noncomputable abbrev CY:Code:=match Try.f74.body with|some c=>c|none=>.skip
theorem K2:aj Rq CY=true:=by kernel_rfl
theorem Hr (B:Nat→List Nat)(W:List Nat){args:List AV}{M:AH}{K Kp:AV→AH→Prop}(hle:Nat.ble args.length 96=true)
 (h:ax (TG B W) CY (az tb Try.f74.results.toList K) Kp (au args) M):aa Try.prog 74 args M K Kp:=
 aM.intro (x:=TG B W) ag mixed Try.func74 (rfl:Try.f74.body=some CY) (by kernel_rfl) K2 rfl rfl rfl hle h
noncomputable def TF (B:Nat→List Nat)(W:List Nat):Cx:={P:=Try.prog,T:=tb,n:=9,W:=W,B:=B}
noncomputable abbrev CX:Code:=match Try.f75.body with|some c=>c|none=>.skip
theorem K1:aj (fun _=>none) CX=true:=by kernel_rfl
theorem Oy (B:Nat→List Nat)(W:List Nat){args:List AV}{M:AH}{K Kp:AV→AH→Prop}(hle:Nat.ble args.length 9=true)
 (h:ax (TF B W) CX (az tb Try.f75.results.toList K) Kp (au args) M):aa Try.prog 75 args M K Kp:=
 aM.intro (x:=TF B W) ag mixed Try.func75 (rfl:Try.f75.body=some CX) (by kernel_rfl) K1 rfl rfl rfl hle h
noncomputable def TD (B:Nat→List Nat)(W:List Nat):Cx:={P:=Try.prog,T:=tb,n:=9,W:=W,B:=B}
noncomputable abbrev CW:Code:=match Try.f76.body with|some c=>c|none=>.skip
theorem KZ:aj (fun _=>none) CW=true:=by kernel_rfl
theorem Ox (B:Nat→List Nat)(W:List Nat){args:List AV}{M:AH}{K Kp:AV→AH→Prop}(hle:Nat.ble args.length 9=true)
 (h:ax (TD B W) CW (az tb Try.f76.results.toList K) Kp (au args) M):aa Try.prog 76 args M K Kp:=
 aM.intro (x:=TD B W) ag mixed Try.func76 (rfl:Try.f76.body=some CW) (by kernel_rfl) KZ rfl rfl rfl hle h
noncomputable def Rp:Nat→Option (List (Nat×Nat)×List Nat):=fun id=>match id with
 |11=>some ([(0,0),(2,0),(5,0),(1,1),(3,1),(4,0),(6,1),(7,13),(8,0),(9,2),(10,3)],[10])
 |_=>none
noncomputable def TC (B:Nat→List Nat)(W:List Nat):Cx:={P:=Try.prog,T:=tb,n:=62,W:=W,B:=B,pl:=Rp}
noncomputable abbrev CV:Code:=match Try.f77.body with|some c=>c|none=>.skip
theorem KY:aj Rp CV=true:=by kernel_rfl
theorem Ow (B:Nat→List Nat)(W:List Nat){args:List AV}{M:AH}{K Kp:AV→AH→Prop}(hle:Nat.ble args.length 62=true)
 (h:ax (TC B W) CV (az tb Try.f77.results.toList K) Kp (au args) M):aa Try.prog 77 args M K Kp:=
 aM.intro (x:=TC B W) ag mixed Try.func77 (rfl:Try.f77.body=some CV) (by kernel_rfl) KY rfl rfl rfl hle h
noncomputable def TB (B:Nat→List Nat)(W:List Nat):Cx:={P:=Try.prog,T:=tb,n:=17,W:=W,B:=B}
noncomputable abbrev CU:Code:=match Try.f78.body with|some c=>c|none=>.skip
theorem KX:aj (fun _=>none) CU=true:=by kernel_rfl
theorem Ov (B:Nat→List Nat)(W:List Nat){args:List AV}{M:AH}{K Kp:AV→AH→Prop}(hle:Nat.ble args.length 17=true)
 (h:ax (TB B W) CU (az tb Try.f78.results.toList K) Kp (au args) M):aa Try.prog 78 args M K Kp:=
 aM.intro (x:=TB B W) ag mixed Try.func78 (rfl:Try.f78.body=some CU) (by kernel_rfl) KX rfl rfl rfl hle h
noncomputable def TA (B:Nat→List Nat)(W:List Nat):Cx:={P:=Try.prog,T:=tb,n:=7,W:=W,B:=B}
noncomputable abbrev CT:Code:=match Try.f79.body with|some c=>c|none=>.skip
theorem KW:aj (fun _=>none) CT=true:=by kernel_rfl
theorem Ou (B:Nat→List Nat)(W:List Nat){args:List AV}{M:AH}{K Kp:AV→AH→Prop}(hle:Nat.ble args.length 7=true)
 (h:ax (TA B W) CT (az tb Try.f79.results.toList K) Kp (au args) M):aa Try.prog 79 args M K Kp:=
 aM.intro (x:=TA B W) ag mixed Try.func79 (rfl:Try.f79.body=some CT) (by kernel_rfl) KW rfl rfl rfl hle h
noncomputable def Tz (B:Nat→List Nat)(W:List Nat):Cx:={P:=Try.prog,T:=tb,n:=75,W:=W,B:=B}
noncomputable abbrev CS:Code:=match Try.f80.body with|some c=>c|none=>.skip
theorem KV:aj (fun _=>none) CS=true:=by kernel_rfl
theorem Hq (B:Nat→List Nat)(W:List Nat){args:List AV}{M:AH}{K Kp:AV→AH→Prop}(hle:Nat.ble args.length 75=true)
 (h:ax (Tz B W) CS (az tb Try.f80.results.toList K) Kp (au args) M):aa Try.prog 80 args M K Kp:=
 aM.intro (x:=Tz B W) ag mixed Try.func80 (rfl:Try.f80.body=some CS) (by kernel_rfl) KV rfl rfl rfl hle h
noncomputable def Ro:Nat→Option (List (Nat×Nat)×List Nat):=fun id=>match id with
 |0=>some ([(1,0),(2,0),(3,0),(0,1),(4,2),(5,0),(6,3)],[6])
 |_=>none
noncomputable def Ty (B:Nat→List Nat)(W:List Nat):Cx:={P:=Try.prog,T:=tb,n:=13,W:=W,B:=B,pl:=Ro}
noncomputable abbrev CR:Code:=match Try.f81.body with|some c=>c|none=>.skip
theorem KU:aj Ro CR=true:=by kernel_rfl
theorem Ot (B:Nat→List Nat)(W:List Nat){args:List AV}{M:AH}{K Kp:AV→AH→Prop}(hle:Nat.ble args.length 13=true)
 (h:ax (Ty B W) CR (az tb Try.f81.results.toList K) Kp (au args) M):aa Try.prog 81 args M K Kp:=
 aM.intro (x:=Ty B W) ag mixed Try.func81 (rfl:Try.f81.body=some CR) (by kernel_rfl) KU rfl rfl rfl hle h
noncomputable def Tx (B:Nat→List Nat)(W:List Nat):Cx:={P:=Try.prog,T:=tb,n:=19,W:=W,B:=B}
noncomputable abbrev CQ:Code:=match Try.f82.body with|some c=>c|none=>.skip
theorem KT:aj (fun _=>none) CQ=true:=by kernel_rfl
theorem Oq (B:Nat→List Nat)(W:List Nat){args:List AV}{M:AH}{K Kp:AV→AH→Prop}(hle:Nat.ble args.length 19=true)
 (h:ax (Tx B W) CQ (az tb Try.f82.results.toList K) Kp (au args) M):aa Try.prog 82 args M K Kp:=
 aM.intro (x:=Tx B W) ag mixed Try.func82 (rfl:Try.f82.body=some CQ) (by kernel_rfl) KT rfl rfl rfl hle h
noncomputable def Tw (B:Nat→List Nat)(W:List Nat):Cx:={P:=Try.prog,T:=tb,n:=19,W:=W,B:=B}
noncomputable abbrev CP:Code:=match Try.f86.body with|some c=>c|none=>.skip
theorem KS:aj (fun _=>none) CP=true:=by kernel_rfl
theorem Oo (B:Nat→List Nat)(W:List Nat){args:List AV}{M:AH}{K Kp:AV→AH→Prop}(hle:Nat.ble args.length 19=true)
 (h:ax (Tw B W) CP (az tb Try.f86.results.toList K) Kp (au args) M):aa Try.prog 86 args M K Kp:=
 aM.intro (x:=Tw B W) ag mixed Try.func86 (rfl:Try.f86.body=some CP) (by kernel_rfl) KS rfl rfl rfl hle h
noncomputable def Rn:Nat→Option (List (Nat×Nat)×List Nat):=fun id=>match id with
 |4=>some ([(0,0),(1,0),(2,0),(3,0),(4,0),(5,0),(6,0),(7,0),(8,0),(9,3),(10,0),(11,0)],[9])
 |_=>none
noncomputable def Tv (B:Nat→List Nat)(W:List Nat):Cx:={P:=Try.prog,T:=tb,n:=28,W:=W,B:=B,pl:=Rn}
noncomputable abbrev CO:Code:=match Try.f87.body with|some c=>c|none=>.skip
theorem KR:aj Rn CO=true:=by kernel_rfl
theorem On (B:Nat→List Nat)(W:List Nat){args:List AV}{M:AH}{K Kp:AV→AH→Prop}(hle:Nat.ble args.length 28=true)
 (h:ax (Tv B W) CO (az tb Try.f87.results.toList K) Kp (au args) M):aa Try.prog 87 args M K Kp:=
 aM.intro (x:=Tv B W) ag mixed Try.func87 (rfl:Try.f87.body=some CO) (by kernel_rfl) KR rfl rfl rfl hle h
noncomputable def Tu (B:Nat→List Nat)(W:List Nat):Cx:={P:=Try.prog,T:=tb,n:=16,W:=W,B:=B}
noncomputable abbrev CN:Code:=match Try.f88.body with|some c=>c|none=>.skip
theorem KQ:aj (fun _=>none) CN=true:=by kernel_rfl
theorem Om (B:Nat→List Nat)(W:List Nat){args:List AV}{M:AH}{K Kp:AV→AH→Prop}(hle:Nat.ble args.length 16=true)
 (h:ax (Tu B W) CN (az tb Try.f88.results.toList K) Kp (au args) M):aa Try.prog 88 args M K Kp:=
 aM.intro (x:=Tu B W) ag mixed Try.func88 (rfl:Try.f88.body=some CN) (by kernel_rfl) KQ rfl rfl rfl hle h
noncomputable def Rm:Nat→Option (List (Nat×Nat)×List Nat):=fun id=>match id with
 |3=>some ([(0,0),(1,0),(2,0),(6,0),(7,0),(8,0),(3,1),(4,0),(5,0),(9,1),(10,0),(11,0)],[])
 |_=>none
noncomputable def Tt (B:Nat→List Nat)(W:List Nat):Cx:={P:=Try.prog,T:=tb,n:=16,W:=W,B:=B,pl:=Rm}
noncomputable abbrev CM:Code:=match Try.f89.body with|some c=>c|none=>.skip
theorem KP:aj Rm CM=true:=by kernel_rfl
theorem NY (B:Nat→List Nat)(W:List Nat){args:List AV}{M:AH}{K Kp:AV→AH→Prop}(hle:Nat.ble args.length 16=true)
 (h:bO (Tt B W) CM (az tb Try.f89.results.toList K) Kp (au args) M):aa Try.prog 89 args M K Kp:=
 aa.intro (x:=Tt B W) ag mixed Try.func89 (rfl:Try.f89.body=some CM) (by kernel_rfl) KP rfl rfl rfl hle h
noncomputable def Ts (B:Nat→List Nat)(W:List Nat):Cx:={P:=Try.prog,T:=tb,n:=51,W:=W,B:=B}
noncomputable abbrev CL:Code:=match Try.f91.body with|some c=>c|none=>.skip
theorem KO:aj (fun _=>none) CL=true:=by kernel_rfl
theorem Ol (B:Nat→List Nat)(W:List Nat){args:List AV}{M:AH}{K Kp:AV→AH→Prop}(hle:Nat.ble args.length 51=true)
 (h:ax (Ts B W) CL (az tb Try.f91.results.toList K) Kp (au args) M):aa Try.prog 91 args M K Kp:=
 aM.intro (x:=Ts B W) ag mixed Try.func91 (rfl:Try.f91.body=some CL) (by kernel_rfl) KO rfl rfl rfl hle h
noncomputable def Tr (B:Nat→List Nat)(W:List Nat):Cx:={P:=Try.prog,T:=tb,n:=19,W:=W,B:=B}
noncomputable abbrev CK:Code:=match Try.f92.body with|some c=>c|none=>.skip
theorem KN:aj (fun _=>none) CK=true:=by kernel_rfl
theorem Ok (B:Nat→List Nat)(W:List Nat){args:List AV}{M:AH}{K Kp:AV→AH→Prop}(hle:Nat.ble args.length 19=true)
 (h:ax (Tr B W) CK (az tb Try.f92.results.toList K) Kp (au args) M):aa Try.prog 92 args M K Kp:=
 aM.intro (x:=Tr B W) ag mixed Try.func92 (rfl:Try.f92.body=some CK) (by kernel_rfl) KN rfl rfl rfl hle h
noncomputable def Tq (B:Nat→List Nat)(W:List Nat):Cx:={P:=Try.prog,T:=tb,n:=8,W:=W,B:=B}
noncomputable abbrev CJ:Code:=match Try.f93.body with|some c=>c|none=>.skip
theorem KM:aj (fun _=>none) CJ=true:=by kernel_rfl
theorem Oj (B:Nat→List Nat)(W:List Nat){args:List AV}{M:AH}{K Kp:AV→AH→Prop}(hle:Nat.ble args.length 8=true)
 (h:ax (Tq B W) CJ (az tb Try.f93.results.toList K) Kp (au args) M):aa Try.prog 93 args M K Kp:=
 aM.intro (x:=Tq B W) ag mixed Try.func93 (rfl:Try.f93.body=some CJ) (by kernel_rfl) KM rfl rfl rfl hle h
noncomputable def Tp (B:Nat→List Nat)(W:List Nat):Cx:={P:=Try.prog,T:=tb,n:=5,W:=W,B:=B}
noncomputable abbrev CI:Code:=match Try.f94.body with|some c=>c|none=>.skip
theorem KL:aj (fun _=>none) CI=true:=by kernel_rfl
theorem Oi (B:Nat→List Nat)(W:List Nat){args:List AV}{M:AH}{K Kp:AV→AH→Prop}(hle:Nat.ble args.length 5=true)
 (h:ax (Tp B W) CI (az tb Try.f94.results.toList K) Kp (au args) M):aa Try.prog 94 args M K Kp:=
 aM.intro (x:=Tp B W) ag mixed Try.func94 (rfl:Try.f94.body=some CI) (by kernel_rfl) KL rfl rfl rfl hle h
noncomputable def To (B:Nat→List Nat)(W:List Nat):Cx:={P:=Try.prog,T:=tb,n:=8,W:=W,B:=B}
noncomputable abbrev CH:Code:=match Try.f95.body with|some c=>c|none=>.skip
theorem KK:aj (fun _=>none) CH=true:=by kernel_rfl
theorem Oh (B:Nat→List Nat)(W:List Nat){args:List AV}{M:AH}{K Kp:AV→AH→Prop}(hle:Nat.ble args.length 8=true)
 (h:ax (To B W) CH (az tb Try.f95.results.toList K) Kp (au args) M):aa Try.prog 95 args M K Kp:=
 aM.intro (x:=To B W) ag mixed Try.func95 (rfl:Try.f95.body=some CH) (by kernel_rfl) KK rfl rfl rfl hle h
noncomputable def Tn (B:Nat→List Nat)(W:List Nat):Cx:={P:=Try.prog,T:=tb,n:=48,W:=W,B:=B}
noncomputable abbrev CG:Code:=match Try.f96.body with|some c=>c|none=>.skip
theorem KJ:aj (fun _=>none) CG=true:=by kernel_rfl
theorem Og (B:Nat→List Nat)(W:List Nat){args:List AV}{M:AH}{K Kp:AV→AH→Prop}(hle:Nat.ble args.length 48=true)
 (h:ax (Tn B W) CG (az tb Try.f96.results.toList K) Kp (au args) M):aa Try.prog 96 args M K Kp:=
 aM.intro (x:=Tn B W) ag mixed Try.func96 (rfl:Try.f96.body=some CG) (by kernel_rfl) KJ rfl rfl rfl hle h
noncomputable def Tm (B:Nat→List Nat)(W:List Nat):Cx:={P:=Try.prog,T:=tb,n:=15,W:=W,B:=B}
noncomputable abbrev CF:Code:=match Try.f97.body with|some c=>c|none=>.skip
theorem KI:aj (fun _=>none) CF=true:=by kernel_rfl
theorem Of (B:Nat→List Nat)(W:List Nat){args:List AV}{M:AH}{K Kp:AV→AH→Prop}(hle:Nat.ble args.length 15=true)
 (h:ax (Tm B W) CF (az tb Try.f97.results.toList K) Kp (au args) M):aa Try.prog 97 args M K Kp:=
 aM.intro (x:=Tm B W) ag mixed Try.func97 (rfl:Try.f97.body=some CF) (by kernel_rfl) KI rfl rfl rfl hle h
noncomputable def Tl (B:Nat→List Nat)(W:List Nat):Cx:={P:=Try.prog,T:=tb,n:=9,W:=W,B:=B}
noncomputable abbrev CE:Code:=match Try.f98.body with|some c=>c|none=>.skip
theorem KG:aj (fun _=>none) CE=true:=by kernel_rfl
theorem Oe (B:Nat→List Nat)(W:List Nat){args:List AV}{M:AH}{K Kp:AV→AH→Prop}(hle:Nat.ble args.length 9=true)
 (h:ax (Tl B W) CE (az tb Try.f98.results.toList K) Kp (au args) M):aa Try.prog 98 args M K Kp:=
 aM.intro (x:=Tl B W) ag mixed Try.func98 (rfl:Try.f98.body=some CE) (by kernel_rfl) KG rfl rfl rfl hle h
noncomputable def Tj (B:Nat→List Nat)(W:List Nat):Cx:={P:=Try.prog,T:=tb,n:=5,W:=W,B:=B}
noncomputable abbrev CD:Code:=match Try.f99.body with|some c=>c|none=>.skip
theorem KF:aj (fun _=>none) CD=true:=by kernel_rfl
theorem Od (B:Nat→List Nat)(W:List Nat){args:List AV}{M:AH}{K Kp:AV→AH→Prop}(hle:Nat.ble args.length 5=true)
 (h:ax (Tj B W) CD (az tb Try.f99.results.toList K) Kp (au args) M):aa Try.prog 99 args M K Kp:=
 aM.intro (x:=Tj B W) ag mixed Try.func99 (rfl:Try.f99.body=some CD) (by kernel_rfl) KF rfl rfl rfl hle h
noncomputable def Nh:Nat→Option (List (Nat×Nat)×List Nat):=fun id=>match id with
 |4=>some ([(0,0),(1,0),(2,0),(3,1),(4,1),(5,1),(6,0),(7,0),(8,0),(9,0),(10,0)],[])
 |_=>none
noncomputable def NN (B:Nat→List Nat)(W:List Nat):Cx:={P:=Try.prog,T:=tb,n:=52,W:=W,B:=B,pl:=Nh}
noncomputable abbrev yR:Code:=match Try.f101.body with|some c=>c|none=>.skip
theorem HT:aj Nh yR=true:=by kernel_rfl
theorem Kv (B:Nat→List Nat)(W:List Nat){args:List AV}{M:AH}{K Kp:AV→AH→Prop}(hle:Nat.ble args.length 52=true)
 (h:ax (NN B W) yR (az tb Try.f101.results.toList K) Kp (au args) M):aa Try.prog 101 args M K Kp:=
 aM.intro (x:=NN B W) ag mixed Try.func101 (rfl:Try.f101.body=some yR) (by kernel_rfl) HT rfl rfl rfl hle h
noncomputable def Ng:Nat→Option (List (Nat×Nat)×List Nat):=fun id=>match id with
 |4=>some ([(4,0),(5,0),(6,0),(7,0),(8,0),(9,0),(10,0),(0,1),(1,0),(2,0),(3,1),(11,3)],[11])
 |_=>none
noncomputable def NM (B:Nat→List Nat)(W:List Nat):Cx:={P:=Try.prog,T:=tb,n:=33,W:=W,B:=B,pl:=Ng}
noncomputable abbrev yQ:Code:=match Try.f102.body with|some c=>c|none=>.skip
theorem HS:aj Ng yQ=true:=by kernel_rfl
theorem Ku (B:Nat→List Nat)(W:List Nat){args:List AV}{M:AH}{K Kp:AV→AH→Prop}(hle:Nat.ble args.length 33=true)
 (h:ax (NM B W) yQ (az tb Try.f102.results.toList K) Kp (au args) M):aa Try.prog 102 args M K Kp:=
 aM.intro (x:=NM B W) ag mixed Try.func102 (rfl:Try.f102.body=some yQ) (by kernel_rfl) HS rfl rfl rfl hle h
noncomputable def NL (B:Nat→List Nat)(W:List Nat):Cx:={P:=Try.prog,T:=tb,n:=19,W:=W,B:=B}
noncomputable abbrev yP:Code:=match Try.f103.body with|some c=>c|none=>.skip
theorem HR:aj (fun _=>none) yP=true:=by kernel_rfl
theorem Kt (B:Nat→List Nat)(W:List Nat){args:List AV}{M:AH}{K Kp:AV→AH→Prop}(hle:Nat.ble args.length 19=true)
 (h:ax (NL B W) yP (az tb Try.f103.results.toList K) Kp (au args) M):aa Try.prog 103 args M K Kp:=
 aM.intro (x:=NL B W) ag mixed Try.func103 (rfl:Try.f103.body=some yP) (by kernel_rfl) HR rfl rfl rfl hle h
noncomputable def Nf:Nat→Option (List (Nat×Nat)×List Nat):=fun id=>match id with
 |1=>some ([(0,0),(1,0),(2,0),(3,0),(5,0),(6,0),(7,0),(8,0),(4,1),(9,1),(10,0),(11,0),(12,0),(13,0),(14,0),(15,0),(17,0),(18,0),(19,0),(20,0),(16,1),(21,1),(22,0),(23,0),(24,0),(25,0),(26,0),(27,0),(29,0),(30,0),(31,0),(32,0),(28,1),(33,1),(34,0),(35,0),(36,0),(37,0)],[])
 |_=>none
noncomputable def NK (B:Nat→List Nat)(W:List Nat):Cx:={P:=Try.prog,T:=tb,n:=44,W:=W,B:=B,pl:=Nf}
noncomputable abbrev yO:Code:=match Try.f121.body with|some c=>c|none=>.skip
theorem HQ:aj Nf yO=true:=by kernel_rfl
theorem Ks (B:Nat→List Nat)(W:List Nat){args:List AV}{M:AH}{K Kp:AV→AH→Prop}(hle:Nat.ble args.length 44=true)
 (h:ax (NK B W) yO (az tb Try.f121.results.toList K) Kp (au args) M):aa Try.prog 121 args M K Kp:=
 aM.intro (x:=NK B W) ag mixed Try.func121 (rfl:Try.f121.body=some yO) (by kernel_rfl) HQ rfl rfl rfl hle h
noncomputable def Nd:Nat→Option (List (Nat×Nat)×List Nat):=fun id=>match id with
 |0=>some ([(0,0),(1,0),(2,0),(3,0),(4,0),(5,0),(6,0),(8,0),(9,0),(10,0),(7,1),(11,1),(12,0),(13,3),(14,0),(15,3)],[13,15])
 |_=>none
noncomputable def NJ (B:Nat→List Nat)(W:List Nat):Cx:={P:=Try.prog,T:=tb,n:=20,W:=W,B:=B,pl:=Nd}
noncomputable abbrev yN:Code:=match Try.f122.body with|some c=>c|none=>.skip
theorem HP:aj Nd yN=true:=by kernel_rfl
theorem Kr (B:Nat→List Nat)(W:List Nat){args:List AV}{M:AH}{K Kp:AV→AH→Prop}(hle:Nat.ble args.length 20=true)
 (h:ax (NJ B W) yN (az tb Try.f122.results.toList K) Kp (au args) M):aa Try.prog 122 args M K Kp:=
 aM.intro (x:=NJ B W) ag mixed Try.func122 (rfl:Try.f122.body=some yN) (by kernel_rfl) HP rfl rfl rfl hle h
noncomputable def NI (B:Nat→List Nat)(W:List Nat):Cx:={P:=Try.prog,T:=tb,n:=23,W:=W,B:=B}
noncomputable abbrev yM:Code:=match Try.f123.body with|some c=>c|none=>.skip
theorem HO:aj (fun _=>none) yM=true:=by kernel_rfl
theorem Kq (B:Nat→List Nat)(W:List Nat){args:List AV}{M:AH}{K Kp:AV→AH→Prop}(hle:Nat.ble args.length 23=true)
 (h:ax (NI B W) yM (az tb Try.f123.results.toList K) Kp (au args) M):aa Try.prog 123 args M K Kp:=
 aM.intro (x:=NI B W) ag mixed Try.func123 (rfl:Try.f123.body=some yM) (by kernel_rfl) HO rfl rfl rfl hle h
end Go.Proofs.Ytibadaomjlkoaaa
