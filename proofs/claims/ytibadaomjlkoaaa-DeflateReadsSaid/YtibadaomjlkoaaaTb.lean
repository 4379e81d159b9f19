import Derived.Test.YtibadaomjlkoaaaAb23
import Derived.Test.YtibadaomjlkoaaaProg
import Derived.KernelRfl
set_option linter.unusedVariables false
namespace Go.Proofs.Ytibadaomjlkoaaa
noncomputable def tb:List TI:=[
⟨.other,1,0,[.raw (.tuple #[])]⟩,
⟨.func,1,8,[.nf]⟩,
⟨(.int .i64),1,8,[.int .i64 0]⟩,
⟨(.int .i64),1,8,[.int .i64 0]⟩,
⟨.bool,1,1,[.ff]⟩,
⟨(.int .u8),1,1,[.int .u8 0]⟩,
⟨(.int .u8),1,1,[.int .u8 0]⟩,
⟨(.struct [(0,2),(1,3),(2,4),(3,6)]),4,24,[.int .i64 0,.int .i64 0,.ff,.int .u8 0]⟩,
⟨(.struct [(0,2),(1,3),(2,4),(3,6)]),4,24,[.int .i64 0,.int .i64 0,.ff,.int .u8 0]⟩,
⟨.str,1,16,[.str ByteArray.empty]⟩,
⟨.str,1,16,[.str ByteArray.empty]⟩,
⟨.str,1,16,[.str ByteArray.empty]⟩,
⟨(.int .u64),1,8,[.int .u64 0]⟩,
⟨(.struct [(0,9),(1,12)]),2,24,[.str ByteArray.empty,.int .u64 0]⟩,
⟨(.struct [(0,9),(1,12)]),2,24,[.str ByteArray.empty,.int .u64 0]⟩,
⟨(.ptr 174),1,8,[.np]⟩,
⟨(.ptr 177),1,8,[.np]⟩,
⟨(.ptr 185),1,8,[.np]⟩,
⟨(.struct [(0,17)]),1,8,[.np]⟩,
⟨(.struct [(0,17)]),1,8,[.np]⟩,
⟨.iface,1,16,[.ni]⟩,
⟨(.int .i32),1,4,[.int .i32 0]⟩,
⟨(.slice 5),1,24,[.ns]⟩,
⟨(.int .i64),1,8,[.int .i64 0]⟩,
⟨.other,1,0,[.raw (.tuple #[.slice none 0 0,.int .i64 0])]⟩,
⟨.func,1,8,[.nf]⟩,
⟨.other,1,0,[.raw (.tuple #[.slice none 0 0,.int .i64 0,.int .i64 0])]⟩,
⟨.func,1,8,[.nf]⟩,
⟨.func,1,8,[.nf]⟩,
⟨.func,1,8,[.nf]⟩,
⟨.func,1,8,[.nf]⟩,
⟨.func,1,8,[.nf]⟩,
⟨.func,1,8,[.nf]⟩,
⟨(.int .u16),1,2,[.int .u16 0]⟩,
⟨.func,1,8,[.nf]⟩,
⟨(.int .u32),1,4,[.int .u32 0]⟩,
⟨(.int .u64),1,8,[.int .u64 0]⟩,
⟨(.slice 61),1,24,[.ns]⟩,
⟨.func,1,8,[.nf]⟩,
⟨(.ptr 43),1,8,[.np]⟩,
⟨(.struct [(0,22),(1,35),(2,3)]),3,40,[.ns,.int .u32 0,.int .i64 0]⟩,
⟨(.struct [(0,22),(1,35),(2,3)]),3,40,[.ns,.int .u32 0,.int .i64 0]⟩,
⟨(.struct [(0,41),(3,37),(4,22),(5,22)]),6,112,[.ns,.int .u32 0,.int .i64 0,.ns,.ns,.ns]⟩,
⟨(.struct [(0,41),(3,37),(4,22),(5,22)]),6,112,[.ns,.int .u32 0,.int .i64 0,.ns,.ns,.ns]⟩,
⟨.func,1,8,[.nf]⟩,
⟨(.slice 1),1,24,[.ns]⟩,
⟨(.slice 39),1,24,[.ns]⟩,
⟨.func,1,8,[.nf]⟩,
⟨(.ptr 53),1,8,[.np]⟩,
⟨(.slice 4),1,24,[.ns]⟩,
⟨(.slice 4),1,24,[.ns]⟩,
⟨.func,1,8,[.nf]⟩,
⟨(.struct [(0,50),(1,3),(2,22),(3,3),(4,23)]),5,72,[.ns,.int .i64 0,.ns,.int .i64 0,.int .i64 0]⟩,
⟨(.struct [(0,50),(1,3),(2,22),(3,3),(4,23)]),5,72,[.ns,.int .i64 0,.ns,.int .i64 0,.int .i64 0]⟩,
⟨.other,1,0,[.raw (.tuple #[.slice none 0 0,.slice none 0 0])]⟩,
⟨.func,1,8,[.nf]⟩,
⟨.func,1,8,[.nf]⟩,
⟨(.slice 141),1,24,[.ns]⟩,
⟨.func,1,8,[.nf]⟩,
⟨.func,1,8,[.nf]⟩,
⟨(.struct [(0,5),(1,3),(2,3)]),3,24,[.int .u8 0,.int .i64 0,.int .i64 0]⟩,
⟨(.struct [(0,5),(1,3),(2,3)]),3,24,[.int .u8 0,.int .i64 0,.int .i64 0]⟩,
⟨.func,1,8,[.nf]⟩,
⟨(.struct [(0,23)]),1,8,[.int .i64 0]⟩,
⟨(.struct [(0,23)]),1,8,[.int .i64 0]⟩,
⟨.other,1,0,[.raw (.tuple #[.agg #[.int .i64 0],.bool false])]⟩,
⟨(.ptr 70),1,8,[.np]⟩,
⟨(.ptr 104),1,8,[.np]⟩,
⟨.func,1,8,[.nf]⟩,
⟨(.struct [(0,67),(1,22),(2,3)]),3,40,[.np,.ns,.int .i64 0]⟩,
⟨(.struct [(0,67),(1,22),(2,3)]),3,40,[.np,.ns,.int .i64 0]⟩,
⟨.func,1,8,[.nf]⟩,
⟨(.arr 4 71),4,32,[.nf,.nf,.nf,.nf]⟩,
⟨.func,1,8,[.nf]⟩,
⟨(.map 76 3),1,8,[.nm]⟩,
⟨(.slice 3),1,24,[.ns]⟩,
⟨(.arr 3 5),3,3,[.int .u8 0,.int .u8 0,.int .u8 0]⟩,
⟨.func,1,8,[.nf]⟩,
⟨.func,1,8,[.nf]⟩,
⟨.func,1,8,[.nf]⟩,
⟨.func,1,8,[.nf]⟩,
⟨.func,1,8,[.nf]⟩,
⟨.func,1,8,[.nf]⟩,
⟨.func,1,8,[.nf]⟩,
⟨.func,1,8,[.nf]⟩,
⟨(.struct [(0,3),(1,3),(2,3)]),3,24,[.int .i64 0,.int .i64 0,.int .i64 0]⟩,
⟨(.struct [(0,3),(1,3),(2,3)]),3,24,[.int .i64 0,.int .i64 0,.int .i64 0]⟩,
⟨.func,1,8,[.nf]⟩,
⟨(.slice 33),1,24,[.ns]⟩,
⟨.other,1,0,[.raw (.tuple #[.slice none 0 0,.int .i64 0])]⟩,
⟨.func,1,8,[.nf]⟩,
⟨.func,1,8,[.nf]⟩,
⟨(.ptr 41),1,8,[.np]⟩,
⟨.func,1,8,[.nf]⟩,
⟨.other,1,0,[.raw (.tuple #[.int .u32 0,.int .i64 0,.int .i64 0])]⟩,
⟨.func,1,8,[.nf]⟩,
⟨.func,1,8,[.nf]⟩,
⟨.func,1,8,[.nf]⟩,
⟨.other,1,0,[.raw (.tuple #[.int .i64 0,.int .i64 0])]⟩,
⟨.func,1,8,[.nf]⟩,
⟨.other,1,0,[.raw (.tuple #[.slice none 0 0,.int .i64 0])]⟩,
⟨.func,1,8,[.nf]⟩,
⟨.func,1,8,[.nf]⟩,
⟨(.struct [(0,22),(1,3)]),2,32,[.ns,.int .i64 0]⟩,
⟨(.struct [(0,22),(1,3)]),2,32,[.ns,.int .i64 0]⟩,
⟨.func,1,8,[.nf]⟩,
⟨.func,1,8,[.nf]⟩,
⟨(.arr 2 3),2,16,[.int .i64 0,.int .i64 0]⟩,
⟨(.slice 107),1,24,[.ns]⟩,
⟨.func,1,8,[.nf]⟩,
⟨(.ptr 164),1,8,[.np]⟩,
⟨.func,1,8,[.nf]⟩,
⟨.func,1,8,[.nf]⟩,
⟨.other,1,0,[.raw (.tuple #[.int .u32 0,.int .i64 0])]⟩,
⟨.func,1,8,[.nf]⟩,
⟨.func,1,8,[.nf]⟩,
⟨.func,1,8,[.nf]⟩,
⟨(.slice 22),1,24,[.ns]⟩,
⟨.other,1,0,[.raw (.tuple #[.int .u64 0,.int .u64 0])]⟩,
⟨.func,1,8,[.nf]⟩,
⟨.func,1,8,[.nf]⟩,
⟨.func,1,8,[.nf]⟩,
⟨.func,1,8,[.nf]⟩,
⟨.func,1,8,[.nf]⟩,
⟨.func,1,8,[.nf]⟩,
⟨(.slice 127),1,24,[.ns]⟩,
⟨(.struct [(0,3),(1,3),(2,75)]),3,40,[.int .i64 0,.int .i64 0,.ns]⟩,
⟨(.struct [(0,3),(1,3),(2,75)]),3,40,[.int .i64 0,.int .i64 0,.ns]⟩,
⟨.func,1,8,[.nf]⟩,
⟨(.slice 127),1,24,[.ns]⟩,
⟨.func,1,8,[.nf]⟩,
⟨(.ptr 129),1,8,[.np]⟩,
⟨.func,1,8,[.nf]⟩,
⟨.func,1,8,[.nf]⟩,
⟨.func,1,8,[.nf]⟩,
⟨.func,1,8,[.nf]⟩,
⟨.func,1,8,[.nf]⟩,
⟨.other,1,0,[.raw (.tuple #[.int .i64 0,.int .i64 0,.int .i64 0])]⟩,
⟨.func,1,8,[.nf]⟩,
⟨.func,1,8,[.nf]⟩,
⟨(.struct [(0,3),(1,50)]),2,32,[.int .i64 0,.ns]⟩,
⟨(.struct [(0,3),(1,50)]),2,32,[.int .i64 0,.ns]⟩,
⟨.func,1,8,[.nf]⟩,
⟨.other,1,0,[.raw (.tuple #[.pointer none,.int .i64 0])]⟩,
⟨.func,1,8,[.nf]⟩,
⟨(.arr 3 107),6,48,[.int .i64 0,.int .i64 0,.int .i64 0,.int .i64 0,.int .i64 0,.int .i64 0]⟩,
⟨.other,1,0,[.raw (.tuple #[.int .u32 0,.int .u32 0])]⟩,
⟨.func,1,8,[.nf]⟩,
⟨(.int .u64),1,8,[.int .u64 0]⟩,
⟨.other,1,0,[.raw (.tuple #[.int .u64 0,.int .u64 0])]⟩,
⟨.func,1,8,[.nf]⟩,
⟨.func,1,8,[.nf]⟩,
⟨.func,1,8,[.nf]⟩,
⟨.iface,1,16,[.ni]⟩,
⟨.iface,1,16,[.ni]⟩,
⟨.func,1,8,[.nf]⟩,
⟨.func,1,8,[.nf]⟩,
⟨.func,1,8,[.nf]⟩,
⟨.func,1,8,[.nf]⟩,
⟨.func,1,8,[.nf]⟩,
⟨.other,1,0,[.raw (.tuple #[.int .i64 0,.int .i64 0])]⟩,
⟨.func,1,8,[.nf]⟩,
⟨(.map 166 3),1,8,[.nm]⟩,
⟨(.struct [(0,162)]),1,8,[.nm]⟩,
⟨(.struct [(0,162)]),1,8,[.nm]⟩,
⟨(.struct [(0,3),(1,3)]),2,16,[.int .i64 0,.int .i64 0]⟩,
⟨(.struct [(0,3),(1,3)]),2,16,[.int .i64 0,.int .i64 0]⟩,
⟨.func,1,8,[.nf]⟩,
⟨.func,1,8,[.nf]⟩,
⟨.func,1,8,[.nf]⟩,
⟨.func,1,8,[.nf]⟩,
⟨.other,1,0,[.raw (.tuple #[.int .i64 0,.bool false])]⟩,
⟨.func,1,8,[.nf]⟩,
⟨(.struct [(0,17),(1,17),(2,17),(3,9)]),4,40,[.np,.np,.np,.str ByteArray.empty]⟩,
⟨(.struct [(0,17),(1,17),(2,17),(3,9)]),4,40,[.np,.np,.np,.str ByteArray.empty]⟩,
⟨(.arr 0 16),0,0,[]⟩,
⟨(.struct [(0,175)]),0,0,[]⟩,
⟨(.struct [(0,175)]),0,0,[]⟩,
⟨(.int .u8),1,1,[.int .u8 0]⟩,
⟨(.int .u8),1,1,[.int .u8 0]⟩,
⟨.func,1,8,[.nf]⟩,
⟨(.ptr 5),1,8,[.np]⟩,
⟨(.int .i32),1,4,[.int .i32 0]⟩,
⟨(.int .i32),1,4,[.int .i32 0]⟩,
⟨(.struct [(0,12),(1,12),(2,35),(3,178),(4,5),(5,5),(6,179),(7,180),(8,181),(9,182),(10,183)]),11,48,[.int .u64 0,.int .u64 0,.int .u32 0,.int .u8 0,.int .u8 0,.int .u8 0,.int .u8 0,.nf,.np,.int .i32 0,.int .i32 0]⟩,
⟨(.struct [(0,12),(1,12),(2,35),(3,178),(4,5),(5,5),(6,179),(7,180),(8,181),(9,182),(10,183)]),11,48,[.int .u64 0,.int .u64 0,.int .u32 0,.int .u8 0,.int .u8 0,.int .u8 0,.int .u8 0,.nf,.np,.int .i32 0,.int .i32 0]⟩,
⟨.func,1,8,[.nf]⟩,
⟨.other,1,8,[.np]⟩]
theorem ae:av Try.prog tb:=av.mk' (by kernel_rfl)
theorem mixed:Try.prog.follows .mixedOrders=true:=by kernel_rfl
noncomputable def cx3 (B:Nat→List Nat)(W:List Nat):Cx:={P:=Try.prog,T:=tb,n:=46,W:=W,B:=B}
noncomputable abbrev MF:Code:=match Try.f3.body with|some c=>c|none=>.skip
theorem S9:ai (fun _=>none) MF=true:=by kernel_rfl
theorem Vm (B:Nat→List Nat)(W:List Nat){args:List AV}{M:AH}{K Kp:AV→AH→Prop}(hle:Nat.ble args.length 46=true)
 (h:au (cx3 B W) MF (ar tb Try.f3.results.toList K) Kp (aq args) M):aa Try.prog 3 args M K Kp:=
 aJ.intro (x:=cx3 B W) ae mixed Try.func3 (rfl:Try.f3.body=some MF) (by kernel_rfl) S9 rfl rfl rfl hle h
noncomputable def cx8 (B:Nat→List Nat)(W:List Nat):Cx:={P:=Try.prog,T:=tb,n:=54,W:=W,B:=B}
noncomputable abbrev ME:Code:=match Try.f8.body with|some c=>c|none=>.skip
theorem S8:ai (fun _=>none) ME=true:=by kernel_rfl
theorem Vl (B:Nat→List Nat)(W:List Nat){args:List AV}{M:AH}{K Kp:AV→AH→Prop}(hle:Nat.ble args.length 54=true)
 (h:au (cx8 B W) ME (ar tb Try.f8.results.toList K) Kp (aq args) M):aa Try.prog 8 args M K Kp:=
 aJ.intro (x:=cx8 B W) ae mixed Try.func8 (rfl:Try.f8.body=some ME) (by kernel_rfl) S8 rfl rfl rfl hle h
noncomputable def pl9:Nat→Option (List (Nat×Nat)×List Nat):=fun id=>match id with
 |19=>some ([(0,0),(1,0),(2,0),(4,0),(5,0),(3,1),(6,0)],[])
 |20=>some ([(0,0),(1,0),(2,0),(4,0),(5,0),(6,0),(3,1),(10,0),(7,1),(8,0),(9,0),(11,0),(12,0)],[])
 |_=>none
noncomputable def cx9 (B:Nat→List Nat)(W:List Nat):Cx:={P:=Try.prog,T:=tb,n:=85,W:=W,B:=B,pl:=pl9}
noncomputable abbrev MD:Code:=match Try.f9.body with|some c=>c|none=>.skip
theorem S7:ai pl9 MD=true:=by kernel_rfl
theorem Vk (B:Nat→List Nat)(W:List Nat){args:List AV}{M:AH}{K Kp:AV→AH→Prop}(hle:Nat.ble args.length 85=true)
 (h:au (cx9 B W) MD (ar tb Try.f9.results.toList K) Kp (aq args) M):aa Try.prog 9 args M K Kp:=
 aJ.intro (x:=cx9 B W) ae mixed Try.func9 (rfl:Try.f9.body=some MD) (by kernel_rfl) S7 rfl rfl rfl hle h
noncomputable def YV (B:Nat→List Nat)(W:List Nat):Cx:={P:=Try.prog,T:=tb,n:=40,W:=W,B:=B}
noncomputable abbrev Gt:Code:=match Try.f10.body with|some c=>c|none=>.skip
theorem Po:ai (fun _=>none) Gt=true:=by kernel_rfl
theorem SY (B:Nat→List Nat)(W:List Nat){args:List AV}{M:AH}{K Kp:AV→AH→Prop}(hle:Nat.ble args.length 40=true)
 (h:au (YV B W) Gt (ar tb Try.f10.results.toList K) Kp (aq args) M):aa Try.prog 10 args M K Kp:=
 aJ.intro (x:=YV B W) ae mixed Try.func10 (rfl:Try.f10.body=some Gt) (by kernel_rfl) Po rfl rfl rfl hle h
noncomputable def VY:Nat→Option (List (Nat×Nat)×List Nat):=fun id=>match id with
 |10=>some ([(0,0),(1,0),(2,0),(4,0),(5,0),(6,0),(3,1),(7,1),(8,2),(9,0),(10,0),(11,3),(12,3),(13,3)],[11,12,13])
 |_=>none
noncomputable def aaO (B:Nat→List Nat)(W:List Nat):Cx:={P:=Try.prog,T:=tb,n:=44,W:=W,B:=B,pl:=VY}
noncomputable abbrev MG:Code:=match Try.f13.body with|some c=>c|none=>.skip
theorem Pn:ai VY MG=true:=by kernel_rfl
noncomputable def VX:Nat→Option (List (Nat×Nat)×List Nat):=fun id=>match id with
 |10=>some ([(0,1),(1,1),(2,1),(3,1),(4,0),(5,0),(6,2),(7,1),(8,1),(9,0)],[])
 |_=>none
noncomputable def YU (B:Nat→List Nat)(W:List Nat):Cx:={P:=Try.prog,T:=tb,n:=80,W:=W,B:=B,pl:=VX}
noncomputable abbrev Gs:Code:=match Try.f14.body with|some c=>c|none=>.skip
theorem Pm:ai VX Gs=true:=by kernel_rfl
theorem SX (B:Nat→List Nat)(W:List Nat){args:List AV}{M:AH}{K Kp:AV→AH→Prop}(hle:Nat.ble args.length 80=true)
 (h:au (YU B W) Gs (ar tb Try.f14.results.toList K) Kp (aq args) M):aa Try.prog 14 args M K Kp:=
 aJ.intro (x:=YU B W) ae mixed Try.func14 (rfl:Try.f14.body=some Gs) (by kernel_rfl) Pm rfl rfl rfl hle h
noncomputable def YT (B:Nat→List Nat)(W:List Nat):Cx:={P:=Try.prog,T:=tb,n:=40,W:=W,B:=B}
noncomputable abbrev Gr:Code:=match Try.f15.body with|some c=>c|none=>.skip
theorem Pk:ai (fun _=>none) Gr=true:=by kernel_rfl
theorem SW (B:Nat→List Nat)(W:List Nat){args:List AV}{M:AH}{K Kp:AV→AH→Prop}(hle:Nat.ble args.length 40=true)
 (h:au (YT B W) Gr (ar tb Try.f15.results.toList K) Kp (aq args) M):aa Try.prog 15 args M K Kp:=
 aJ.intro (x:=YT B W) ae mixed Try.func15 (rfl:Try.f15.body=some Gr) (by kernel_rfl) Pk rfl rfl rfl hle h
noncomputable def YS (B:Nat→List Nat)(W:List Nat):Cx:={P:=Try.prog,T:=tb,n:=26,W:=W,B:=B}
noncomputable abbrev Gq:Code:=match Try.f16.body with|some c=>c|none=>.skip
theorem Pj:ai (fun _=>none) Gq=true:=by kernel_rfl
theorem SV (B:Nat→List Nat)(W:List Nat){args:List AV}{M:AH}{K Kp:AV→AH→Prop}(hle:Nat.ble args.length 26=true)
 (h:au (YS B W) Gq (ar tb Try.f16.results.toList K) Kp (aq args) M):aa Try.prog 16 args M K Kp:=
 aJ.intro (x:=YS B W) ae mixed Try.func16 (rfl:Try.f16.body=some Gq) (by kernel_rfl) Pj rfl rfl rfl hle h
noncomputable def VW:Nat→Option (List (Nat×Nat)×List Nat):=fun id=>match id with
 |2=>some ([(0,1),(1,0),(2,0),(3,1),(4,1),(5,0),(6,0),(7,1),(8,3),(9,3),(10,0)],[8,9])
 |10=>some ([(0,0),(1,0),(2,0),(3,0),(5,0),(6,0),(7,0),(8,0),(9,0),(4,1),(10,1),(11,0),(12,1),(13,0),(14,0)],[])
 |13=>some ([(0,1),(1,0),(2,0),(3,1),(4,0),(5,0),(6,1),(7,0),(8,0),(9,0),(10,3)],[10])
 |14=>some ([(0,1),(1,0),(2,0),(3,1),(4,0),(5,0),(6,1),(7,0),(8,0),(9,0),(10,3)],[10])
 |19=>some ([(4,0),(0,1),(1,0),(2,0),(3,1),(5,0),(6,1),(7,0),(8,3)],[8])
 |_=>none
noncomputable def JF (B:Nat→List Nat)(W:List Nat):Cx:={P:=Try.prog,T:=tb,n:=127,W:=W,B:=B,pl:=VW}
noncomputable abbrev qz:Code:=match Try.f17.body with|some c=>c|none=>.skip
theorem Hd:ai VW qz=true:=by kernel_rfl
noncomputable def YR (B:Nat→List Nat)(W:List Nat):Cx:={P:=Try.prog,T:=tb,n:=25,W:=W,B:=B}
noncomputable abbrev Gp:Code:=match Try.f18.body with|some c=>c|none=>.skip
theorem Ph:ai (fun _=>none) Gp=true:=by kernel_rfl
theorem RX (B:Nat→List Nat)(W:List Nat){args:List AV}{M:AH}{K Kp:AV→AH→Prop}(hle:Nat.ble args.length 25=true)
 (h:bO (YR B W) Gp (ar tb Try.f18.results.toList K) Kp (aq args) M):aa Try.prog 18 args M K Kp:=
 aa.intro (x:=YR B W) ae mixed Try.func18 (rfl:Try.f18.body=some Gp) (by kernel_rfl) Ph rfl rfl rfl hle h
noncomputable def YQ (B:Nat→List Nat)(W:List Nat):Cx:={P:=Try.prog,T:=tb,n:=20,W:=W,B:=B}
noncomputable abbrev Gn:Code:=match Try.f19.body with|some c=>c|none=>.skip
theorem Pg:ai (fun _=>none) Gn=true:=by kernel_rfl
theorem RW (B:Nat→List Nat)(W:List Nat){args:List AV}{M:AH}{K Kp:AV→AH→Prop}(hle:Nat.ble args.length 20=true)
 (h:bO (YQ B W) Gn (ar tb Try.f19.results.toList K) Kp (aq args) M):aa Try.prog 19 args M K Kp:=
 aa.intro (x:=YQ B W) ae mixed Try.func19 (rfl:Try.f19.body=some Gn) (by kernel_rfl) Pg rfl rfl rfl hle h
noncomputable def VV:Nat→Option (List (Nat×Nat)×List Nat):=fun id=>match id with
 |3=>some ([(0,0),(1,0),(2,0),(4,0),(5,0),(6,0),(8,0),(3,1),(7,1),(9,3),(10,0),(11,0),(12,0),(13,0),(14,0),(15,0),(16,0)],[9])
 |_=>none
noncomputable def YP (B:Nat→List Nat)(W:List Nat):Cx:={P:=Try.prog,T:=tb,n:=37,W:=W,B:=B,pl:=VV}
noncomputable abbrev Gm:Code:=match Try.f20.body with|some c=>c|none=>.skip
theorem Pf:ai VV Gm=true:=by kernel_rfl
theorem Ko (B:Nat→List Nat)(W:List Nat){args:List AV}{M:AH}{K Kp:AV→AH→Prop}(hle:Nat.ble args.length 37=true)
 (h:au (YP B W) Gm (ar tb Try.f20.results.toList K) Kp (aq args) M):aa Try.prog 20 args M K Kp:=
 aJ.intro (x:=YP B W) ae mixed Try.func20 (rfl:Try.f20.body=some Gm) (by kernel_rfl) Pf rfl rfl rfl hle h
noncomputable def VU:Nat→Option (List (Nat×Nat)×List Nat):=fun id=>match id with
 |5=>some ([(0,0),(1,0),(2,0),(3,0),(4,0),(6,0),(7,0),(8,0),(5,1),(9,1),(10,0),(11,0),(12,0),(13,3)],[13])
 |_=>none
noncomputable def YO (B:Nat→List Nat)(W:List Nat):Cx:={P:=Try.prog,T:=tb,n:=61,W:=W,B:=B,pl:=VU}
noncomputable abbrev Gl:Code:=match Try.f21.body with|some c=>c|none=>.skip
theorem Pc:ai VU Gl=true:=by kernel_rfl
theorem SU (B:Nat→List Nat)(W:List Nat){args:List AV}{M:AH}{K Kp:AV→AH→Prop}(hle:Nat.ble args.length 61=true)
 (h:au (YO B W) Gl (ar tb Try.f21.results.toList K) Kp (aq args) M):aa Try.prog 21 args M K Kp:=
 aJ.intro (x:=YO B W) ae mixed Try.func21 (rfl:Try.f21.body=some Gl) (by kernel_rfl) Pc rfl rfl rfl hle h
noncomputable def YN (B:Nat→List Nat)(W:List Nat):Cx:={P:=Try.prog,T:=tb,n:=37,W:=W,B:=B}
noncomputable abbrev Gk:Code:=match Try.f22.body with|some c=>c|none=>.skip
theorem Pb:ai (fun _=>none) Gk=true:=by kernel_rfl
theorem SS (B:Nat→List Nat)(W:List Nat){args:List AV}{M:AH}{K Kp:AV→AH→Prop}(hle:Nat.ble args.length 37=true)
 (h:au (YN B W) Gk (ar tb Try.f22.results.toList K) Kp (aq args) M):aa Try.prog 22 args M K Kp:=
 aJ.intro (x:=YN B W) ae mixed Try.func22 (rfl:Try.f22.body=some Gk) (by kernel_rfl) Pb rfl rfl rfl hle h
noncomputable def VT:Nat→Option (List (Nat×Nat)×List Nat):=fun id=>match id with
 |18=>some ([(0,0),(1,0),(2,0),(3,0),(5,0),(6,0),(7,0),(10,0),(4,1),(8,1),(9,0),(11,0),(12,0),(13,1),(14,3)],[14])
 |_=>none
noncomputable def YM (B:Nat→List Nat)(W:List Nat):Cx:={P:=Try.prog,T:=tb,n:=113,W:=W,B:=B,pl:=VT}
noncomputable abbrev Gj:Code:=match Try.f23.body with|some c=>c|none=>.skip
theorem Pa:ai VT Gj=true:=by kernel_rfl
theorem zK (B:Nat→List Nat)(W:List Nat){args:List AV}{M:AH}{K Kp:AV→AH→Prop}(hle:Nat.ble args.length 113=true)
 (h:au (YM B W) Gj (ar tb Try.f23.results.toList K) Kp (aq args) M):aa Try.prog 23 args M K Kp:=
 aJ.intro (x:=YM B W) ae mixed Try.func23 (rfl:Try.f23.body=some Gj) (by kernel_rfl) Pa rfl rfl rfl hle h
noncomputable def YL (B:Nat→List Nat)(W:List Nat):Cx:={P:=Try.prog,T:=tb,n:=22,W:=W,B:=B}
noncomputable abbrev Gi:Code:=match Try.f24.body with|some c=>c|none=>.skip
theorem O9:ai (fun _=>none) Gi=true:=by kernel_rfl
theorem Kn (B:Nat→List Nat)(W:List Nat){args:List AV}{M:AH}{K Kp:AV→AH→Prop}(hle:Nat.ble args.length 22=true)
 (h:au (YL B W) Gi (ar tb Try.f24.results.toList K) Kp (aq args) M):aa Try.prog 24 args M K Kp:=
 aJ.intro (x:=YL B W) ae mixed Try.func24 (rfl:Try.f24.body=some Gi) (by kernel_rfl) O9 rfl rfl rfl hle h
noncomputable def VS:Nat→Option (List (Nat×Nat)×List Nat):=fun id=>match id with
 |9=>some ([(0,0),(1,0),(2,0),(3,0),(5,0),(4,1),(6,2),(7,0),(8,0),(9,3)],[9])
 |_=>none
noncomputable def aaN (B:Nat→List Nat)(W:List Nat):Cx:={P:=Try.prog,T:=tb,n:=161,W:=W,B:=B,pl:=VS}
noncomputable abbrev Gh:Code:=match Try.f25.body with|some c=>c|none=>.skip
theorem Hc:ai VS Gh=true:=by kernel_rfl
noncomputable def YK (B:Nat→List Nat)(W:List Nat):Cx:={P:=Try.prog,T:=tb,n:=18,W:=W,B:=B}
noncomputable abbrev Gg:Code:=match Try.f26.body with|some c=>c|none=>.skip
theorem O8:ai (fun _=>none) Gg=true:=by kernel_rfl
theorem DG (B:Nat→List Nat)(W:List Nat){args:List AV}{M:AH}{K Kp:AV→AH→Prop}(hle:Nat.ble args.length 18=true)
 (h:au (YK B W) Gg (ar tb Try.f26.results.toList K) Kp (aq args) M):aa Try.prog 26 args M K Kp:=
 aJ.intro (x:=YK B W) ae mixed Try.func26 (rfl:Try.f26.body=some Gg) (by kernel_rfl) O8 rfl rfl rfl hle h
noncomputable def ZN:Nat→Option (List (Nat×Nat)×List Nat):=fun id=>match id with
 |2=>some ([(0,0),(1,1),(2,2),(3,2),(4,3)],[4])
 |_=>none
noncomputable def YJ (B:Nat→List Nat)(W:List Nat):Cx:={P:=Try.prog,T:=tb,n:=13,W:=W,B:=B,pl:=ZN}
noncomputable def YH (B:Nat→List Nat)(W:List Nat):Cx:={P:=Try.prog,T:=tb,n:=7,W:=W,B:=B}
noncomputable abbrev Gf:Code:=match Try.f30.body with|some c=>c|none=>.skip
theorem O7:ai (fun _=>none) Gf=true:=by kernel_rfl
theorem RV (B:Nat→List Nat)(W:List Nat){args:List AV}{M:AH}{K Kp:AV→AH→Prop}(hle:Nat.ble args.length 7=true)
 (h:bO (YH B W) Gf (ar tb Try.f30.results.toList K) Kp (aq args) M):aa Try.prog 30 args M K Kp:=
 aa.intro (x:=YH B W) ae mixed Try.func30 (rfl:Try.f30.body=some Gf) (by kernel_rfl) O7 rfl rfl rfl hle h
noncomputable def VR:Nat→Option (List (Nat×Nat)×List Nat):=fun id=>match id with
 |4=>some ([(0,0),(1,0),(2,0),(3,0),(5,0),(6,0),(7,0),(4,1),(8,1),(9,0),(10,0),(11,0),(12,0)],[])
 |_=>none
noncomputable def YG (B:Nat→List Nat)(W:List Nat):Cx:={P:=Try.prog,T:=tb,n:=42,W:=W,B:=B,pl:=VR}
noncomputable abbrev Ge:Code:=match Try.f31.body with|some c=>c|none=>.skip
theorem O6:ai VR Ge=true:=by kernel_rfl
theorem SR (B:Nat→List Nat)(W:List Nat){args:List AV}{M:AH}{K Kp:AV→AH→Prop}(hle:Nat.ble args.length 42=true)
 (h:au (YG B W) Ge (ar tb Try.f31.results.toList K) Kp (aq args) M):aa Try.prog 31 args M K Kp:=
 aJ.intro (x:=YG B W) ae mixed Try.func31 (rfl:Try.f31.body=some Ge) (by kernel_rfl) O6 rfl rfl rfl hle h
noncomputable def YF (B:Nat→List Nat)(W:List Nat):Cx:={P:=Try.prog,T:=tb,n:=32,W:=W,B:=B}
noncomputable abbrev Gd:Code:=match Try.f32.body with|some c=>c|none=>.skip
theorem O5:ai (fun _=>none) Gd=true:=by kernel_rfl
theorem SQ (B:Nat→List Nat)(W:List Nat){args:List AV}{M:AH}{K Kp:AV→AH→Prop}(hle:Nat.ble args.length 32=true)
 (h:au (YF B W) Gd (ar tb Try.f32.results.toList K) Kp (aq args) M):aa Try.prog 32 args M K Kp:=
 aJ.intro (x:=YF B W) ae mixed Try.func32 (rfl:Try.f32.body=some Gd) (by kernel_rfl) O5 rfl rfl rfl hle h
noncomputable def VQ:Nat→Option (List (Nat×Nat)×List Nat):=fun id=>match id with
 |7=>some ([(0,0),(1,0),(2,0),(3,0),(4,3),(5,0),(6,0),(7,3)],[4,7])
 |12=>some ([(0,0),(1,0),(2,0),(3,0),(5,0),(6,0),(7,0),(4,3),(8,3),(9,3)],[4,8,9])
 |_=>none
noncomputable def YE (B:Nat→List Nat)(W:List Nat):Cx:={P:=Try.prog,T:=tb,n:=59,W:=W,B:=B,pl:=VQ}
noncomputable abbrev Gc:Code:=match Try.f33.body with|some c=>c|none=>.skip
theorem O4:ai VQ Gc=true:=by kernel_rfl
theorem SP (B:Nat→List Nat)(W:List Nat){args:List AV}{M:AH}{K Kp:AV→AH→Prop}(hle:Nat.ble args.length 59=true)
 (h:au (YE B W) Gc (ar tb Try.f33.results.toList K) Kp (aq args) M):aa Try.prog 33 args M K Kp:=
 aJ.intro (x:=YE B W) ae mixed Try.func33 (rfl:Try.f33.body=some Gc) (by kernel_rfl) O4 rfl rfl rfl hle h
noncomputable def YD (B:Nat→List Nat)(W:List Nat):Cx:={P:=Try.prog,T:=tb,n:=3,W:=W,B:=B}
noncomputable abbrev Gb:Code:=match Try.f34.body with|some c=>c|none=>.skip
theorem O3:ai (fun _=>none) Gb=true:=by kernel_rfl
theorem SO (B:Nat→List Nat)(W:List Nat){args:List AV}{M:AH}{K Kp:AV→AH→Prop}(hle:Nat.ble args.length 3=true)
 (h:au (YD B W) Gb (ar tb Try.f34.results.toList K) Kp (aq args) M):aa Try.prog 34 args M K Kp:=
 aJ.intro (x:=YD B W) ae mixed Try.func34 (rfl:Try.f34.body=some Gb) (by kernel_rfl) O3 rfl rfl rfl hle h
noncomputable def YC (B:Nat→List Nat)(W:List Nat):Cx:={P:=Try.prog,T:=tb,n:=20,W:=W,B:=B}
noncomputable abbrev Ga:Code:=match Try.f35.body with|some c=>c|none=>.skip
theorem O2:ai (fun _=>none) Ga=true:=by kernel_rfl
theorem SN (B:Nat→List Nat)(W:List Nat){args:List AV}{M:AH}{K Kp:AV→AH→Prop}(hle:Nat.ble args.length 20=true)
 (h:au (YC B W) Ga (ar tb Try.f35.results.toList K) Kp (aq args) M):aa Try.prog 35 args M K Kp:=
 aJ.intro (x:=YC B W) ae mixed Try.func35 (rfl:Try.f35.body=some Ga) (by kernel_rfl) O2 rfl rfl rfl hle h
noncomputable def YB (B:Nat→List Nat)(W:List Nat):Cx:={P:=Try.prog,T:=tb,n:=9,W:=W,B:=B}
noncomputable abbrev F9:Code:=match Try.f36.body with|some c=>c|none=>.skip
theorem O0:ai (fun _=>none) F9=true:=by kernel_rfl
theorem RU (B:Nat→List Nat)(W:List Nat){args:List AV}{M:AH}{K Kp:AV→AH→Prop}(hle:Nat.ble args.length 9=true)
 (h:bO (YB B W) F9 (ar tb Try.f36.results.toList K) Kp (aq args) M):aa Try.prog 36 args M K Kp:=
 aa.intro (x:=YB B W) ae mixed Try.func36 (rfl:Try.f36.body=some F9) (by kernel_rfl) O0 rfl rfl rfl hle h
noncomputable def VP:Nat→Option (List (Nat×Nat)×List Nat):=fun id=>match id with
 |2=>some ([(1,0),(7,0),(8,0),(0,1),(2,1),(3,1),(4,1),(5,1),(6,1),(9,0),(10,2),(11,3)],[11])
 |_=>none
noncomputable def YA (B:Nat→List Nat)(W:List Nat):Cx:={P:=Try.prog,T:=tb,n:=28,W:=W,B:=B,pl:=VP}
noncomputable abbrev F8:Code:=match Try.f37.body with|some c=>c|none=>.skip
theorem OZ:ai VP F8=true:=by kernel_rfl
theorem SM (B:Nat→List Nat)(W:List Nat){args:List AV}{M:AH}{K Kp:AV→AH→Prop}(hle:Nat.ble args.length 28=true)
 (h:au (YA B W) F8 (ar tb Try.f37.results.toList K) Kp (aq args) M):aa Try.prog 37 args M K Kp:=
 aJ.intro (x:=YA B W) ae mixed Try.func37 (rfl:Try.f37.body=some F8) (by kernel_rfl) OZ rfl rfl rfl hle h
noncomputable def Yz (B:Nat→List Nat)(W:List Nat):Cx:={P:=Try.prog,T:=tb,n:=23,W:=W,B:=B}
noncomputable abbrev F7:Code:=match Try.f38.body with|some c=>c|none=>.skip
theorem OY:ai (fun _=>none) F7=true:=by kernel_rfl
theorem SL (B:Nat→List Nat)(W:List Nat){args:List AV}{M:AH}{K Kp:AV→AH→Prop}(hle:Nat.ble args.length 23=true)
 (h:au (Yz B W) F7 (ar tb Try.f38.results.toList K) Kp (aq args) M):aa Try.prog 38 args M K Kp:=
 aJ.intro (x:=Yz B W) ae mixed Try.func38 (rfl:Try.f38.body=some F7) (by kernel_rfl) OY rfl rfl rfl hle h
noncomputable def VO:Nat→Option (List (Nat×Nat)×List Nat):=fun id=>match id with
 |2=>some ([(0,0),(1,0),(2,0),(3,0),(4,0),(5,0),(6,0),(7,0),(8,0),(9,0),(10,0),(11,0),(12,0),(13,0),(14,0),(15,0),(17,0),(18,0),(19,0),(20,0),(21,0),(16,1),(22,1),(23,0),(24,0)],[])
 |_=>none
noncomputable def Yy (B:Nat→List Nat)(W:List Nat):Cx:={P:=Try.prog,T:=tb,n:=36,W:=W,B:=B,pl:=VO}
noncomputable abbrev F6:Code:=match Try.f39.body with|some c=>c|none=>.skip
theorem OX:ai VO F6=true:=by kernel_rfl
theorem SK (B:Nat→List Nat)(W:List Nat){args:List AV}{M:AH}{K Kp:AV→AH→Prop}(hle:Nat.ble args.length 36=true)
 (h:au (Yy B W) F6 (ar tb Try.f39.results.toList K) Kp (aq args) M):aa Try.prog 39 args M K Kp:=
 aJ.intro (x:=Yy B W) ae mixed Try.func39 (rfl:Try.f39.body=some F6) (by kernel_rfl) OX rfl rfl rfl hle h
noncomputable def Yx (B:Nat→List Nat)(W:List Nat):Cx:={P:=Try.prog,T:=tb,n:=27,W:=W,B:=B}
noncomputable abbrev F5:Code:=match Try.f40.body with|some c=>c|none=>.skip
theorem OW:ai (fun _=>none) F5=true:=by kernel_rfl
theorem RT (B:Nat→List Nat)(W:List Nat){args:List AV}{M:AH}{K Kp:AV→AH→Prop}(hle:Nat.ble args.length 27=true)
 (h:bO (Yx B W) F5 (ar tb Try.f40.results.toList K) Kp (aq args) M):aa Try.prog 40 args M K Kp:=
 aa.intro (x:=Yx B W) ae mixed Try.func40 (rfl:Try.f40.body=some F5) (by kernel_rfl) OW rfl rfl rfl hle h
noncomputable def Yw (B:Nat→List Nat)(W:List Nat):Cx:={P:=Try.prog,T:=tb,n:=36,W:=W,B:=B}
noncomputable abbrev F4:Code:=match Try.f41.body with|some c=>c|none=>.skip
theorem OV:ai (fun _=>none) F4=true:=by kernel_rfl
theorem Km (B:Nat→List Nat)(W:List Nat){args:List AV}{M:AH}{K Kp:AV→AH→Prop}(hle:Nat.ble args.length 36=true)
 (h:au (Yw B W) F4 (ar tb Try.f41.results.toList K) Kp (aq args) M):aa Try.prog 41 args M K Kp:=
 aJ.intro (x:=Yw B W) ae mixed Try.func41 (rfl:Try.f41.body=some F4) (by kernel_rfl) OV rfl rfl rfl hle h
noncomputable def VN:Nat→Option (List (Nat×Nat)×List Nat):=fun id=>match id with
 |9=>some ([(0,0),(1,0),(2,0),(3,0),(4,0),(5,0),(6,0),(7,3),(8,0),(9,0)],[7])
 |_=>none
noncomputable def Yv (B:Nat→List Nat)(W:List Nat):Cx:={P:=Try.prog,T:=tb,n:=48,W:=W,B:=B,pl:=VN}
noncomputable abbrev F3:Code:=match Try.f42.body with|some c=>c|none=>.skip
theorem OU:ai VN F3=true:=by kernel_rfl
theorem SJ (B:Nat→List Nat)(W:List Nat){args:List AV}{M:AH}{K Kp:AV→AH→Prop}(hle:Nat.ble args.length 48=true)
 (h:au (Yv B W) F3 (ar tb Try.f42.results.toList K) Kp (aq args) M):aa Try.prog 42 args M K Kp:=
 aJ.intro (x:=Yv B W) ae mixed Try.func42 (rfl:Try.f42.body=some F3) (by kernel_rfl) OU rfl rfl rfl hle h
noncomputable def VM:Nat→Option (List (Nat×Nat)×List Nat):=fun id=>match id with
 |6=>some ([(0,0),(1,0),(2,0),(3,0),(4,0),(6,0),(5,1),(7,1),(8,0),(9,0),(10,3)],[10])
 |7=>some ([(0,0),(1,0),(2,0),(3,0),(4,0),(6,0),(5,1),(7,1),(8,2),(9,3)],[9])
 |8=>some ([(0,0),(1,0),(2,0),(3,0),(4,0),(6,0),(5,1),(7,1),(8,0),(9,2),(10,3)],[10])
 |_=>none
noncomputable def Yu (B:Nat→List Nat)(W:List Nat):Cx:={P:=Try.prog,T:=tb,n:=77,W:=W,B:=B,pl:=VM}
noncomputable abbrev F2:Code:=match Try.f43.body with|some c=>c|none=>.skip
theorem OT:ai VM F2=true:=by kernel_rfl
theorem SH (B:Nat→List Nat)(W:List Nat){args:List AV}{M:AH}{K Kp:AV→AH→Prop}(hle:Nat.ble args.length 77=true)
 (h:au (Yu B W) F2 (ar tb Try.f43.results.toList K) Kp (aq args) M):aa Try.prog 43 args M K Kp:=
 aJ.intro (x:=Yu B W) ae mixed Try.func43 (rfl:Try.f43.body=some F2) (by kernel_rfl) OT rfl rfl rfl hle h
noncomputable def VL:Nat→Option (List (Nat×Nat)×List Nat):=fun id=>match id with
 |0=>some ([],[])
 |13=>some ([(0,0),(1,0),(2,0),(3,0),(4,0),(5,0),(8,0),(9,0),(10,0),(11,0),(6,1),(12,1),(7,2),(13,3),(14,0),(15,0),(16,3),(17,0),(18,0),(19,3)],[13,16,19])
 |_=>none
noncomputable def Yt (B:Nat→List Nat)(W:List Nat):Cx:={P:=Try.prog,T:=tb,n:=84,W:=W,B:=B,pl:=VL}
noncomputable abbrev F1:Code:=match Try.f44.body with|some c=>c|none=>.skip
theorem OS:ai VL F1=true:=by kernel_rfl
theorem SG (B:Nat→List Nat)(W:List Nat){args:List AV}{M:AH}{K Kp:AV→AH→Prop}(hle:Nat.ble args.length 84=true)
 (h:au (Yt B W) F1 (ar tb Try.f44.results.toList K) Kp (aq args) M):aa Try.prog 44 args M K Kp:=
 aJ.intro (x:=Yt B W) ae mixed Try.func44 (rfl:Try.f44.body=some F1) (by kernel_rfl) OS rfl rfl rfl hle h
noncomputable def Ys (B:Nat→List Nat)(W:List Nat):Cx:={P:=Try.prog,T:=tb,n:=4,W:=W,B:=B}
noncomputable abbrev F0:Code:=match Try.f45.body with|some c=>c|none=>.skip
theorem OR:ai (fun _=>none) F0=true:=by kernel_rfl
theorem Kl (B:Nat→List Nat)(W:List Nat){args:List AV}{M:AH}{K Kp:AV→AH→Prop}(hle:Nat.ble args.length 4=true)
 (h:au (Ys B W) F0 (ar tb Try.f45.results.toList K) Kp (aq args) M):aa Try.prog 45 args M K Kp:=
 aJ.intro (x:=Ys B W) ae mixed Try.func45 (rfl:Try.f45.body=some F0) (by kernel_rfl) OR rfl rfl rfl hle h
noncomputable def VK:Nat→Option (List (Nat×Nat)×List Nat):=fun id=>match id with
 |23=>some ([(0,0),(1,0),(2,0),(4,0),(5,0),(3,1),(6,12),(7,0),(8,2),(9,3)],[9])
 |_=>none
noncomputable def Yr (B:Nat→List Nat)(W:List Nat):Cx:={P:=Try.prog,T:=tb,n:=146,W:=W,B:=B,pl:=VK}
noncomputable abbrev FZ:Code:=match Try.f46.body with|some c=>c|none=>.skip
theorem OQ:ai VK FZ=true:=by kernel_rfl
theorem SF (B:Nat→List Nat)(W:List Nat){args:List AV}{M:AH}{K Kp:AV→AH→Prop}(hle:Nat.ble args.length 146=true)
 (h:au (Yr B W) FZ (ar tb Try.f46.results.toList K) Kp (aq args) M):aa Try.prog 46 args M K Kp:=
 aJ.intro (x:=Yr B W) ae mixed Try.func46 (rfl:Try.f46.body=some FZ) (by kernel_rfl) OQ rfl rfl rfl hle h
noncomputable def Yq (B:Nat→List Nat)(W:List Nat):Cx:={P:=Try.prog,T:=tb,n:=17,W:=W,B:=B}
noncomputable abbrev FY:Code:=match Try.f47.body with|some c=>c|none=>.skip
theorem OP:ai (fun _=>none) FY=true:=by kernel_rfl
theorem SE (B:Nat→List Nat)(W:List Nat){args:List AV}{M:AH}{K Kp:AV→AH→Prop}(hle:Nat.ble args.length 17=true)
 (h:au (Yq B W) FY (ar tb Try.f47.results.toList K) Kp (aq args) M):aa Try.prog 47 args M K Kp:=
 aJ.intro (x:=Yq B W) ae mixed Try.func47 (rfl:Try.f47.body=some FY) (by kernel_rfl) OP rfl rfl rfl hle h
noncomputable def VJ:Nat→Option (List (Nat×Nat)×List Nat):=fun id=>match id with
 |1=>some ([(0,0),(1,0),(2,0),(3,0),(4,0),(9,0),(10,0),(5,1),(6,0),(7,1),(8,0),(11,1),(12,0),(13,1),(14,0),(15,3)],[15])
 |2=>some ([(0,0),(1,0),(2,0),(3,0),(6,0),(4,1),(5,0),(7,1),(8,3)],[8])
 |_=>none
noncomputable def Yp (B:Nat→List Nat)(W:List Nat):Cx:={P:=Try.prog,T:=tb,n:=33,W:=W,B:=B,pl:=VJ}
noncomputable abbrev FX:Code:=match Try.f48.body with|some c=>c|none=>.skip
theorem OO:ai VJ FX=true:=by kernel_rfl
theorem DF (B:Nat→List Nat)(W:List Nat){args:List AV}{M:AH}{K Kp:AV→AH→Prop}(hle:Nat.ble args.length 33=true)
 (h:au (Yp B W) FX (ar tb Try.f48.results.toList K) Kp (aq args) M):aa Try.prog 48 args M K Kp:=
 aJ.intro (x:=Yp B W) ae mixed Try.func48 (rfl:Try.f48.body=some FX) (by kernel_rfl) OO rfl rfl rfl hle h
noncomputable def Yo (B:Nat→List Nat)(W:List Nat):Cx:={P:=Try.prog,T:=tb,n:=8,W:=W,B:=B}
noncomputable abbrev FV:Code:=match Try.f49.body with|some c=>c|none=>.skip
theorem ON:ai (fun _=>none) FV=true:=by kernel_rfl
theorem RS (B:Nat→List Nat)(W:List Nat){args:List AV}{M:AH}{K Kp:AV→AH→Prop}(hle:Nat.ble args.length 8=true)
 (h:bO (Yo B W) FV (ar tb Try.f49.results.toList K) Kp (aq args) M):aa Try.prog 49 args M K Kp:=
 aa.intro (x:=Yo B W) ae mixed Try.func49 (rfl:Try.f49.body=some FV) (by kernel_rfl) ON rfl rfl rfl hle h
noncomputable def Yn (B:Nat→List Nat)(W:List Nat):Cx:={P:=Try.prog,T:=tb,n:=21,W:=W,B:=B}
noncomputable abbrev FT:Code:=match Try.f50.body with|some c=>c|none=>.skip
theorem OM:ai (fun _=>none) FT=true:=by kernel_rfl
theorem RR (B:Nat→List Nat)(W:List Nat){args:List AV}{M:AH}{K Kp:AV→AH→Prop}(hle:Nat.ble args.length 21=true)
 (h:bO (Yn B W) FT (ar tb Try.f50.results.toList K) Kp (aq args) M):aa Try.prog 50 args M K Kp:=
 aa.intro (x:=Yn B W) ae mixed Try.func50 (rfl:Try.f50.body=some FT) (by kernel_rfl) OM rfl rfl rfl hle h
noncomputable def Ym (B:Nat→List Nat)(W:List Nat):Cx:={P:=Try.prog,T:=tb,n:=33,W:=W,B:=B}
noncomputable abbrev FR:Code:=match Try.f51.body with|some c=>c|none=>.skip
theorem OL:ai (fun _=>none) FR=true:=by kernel_rfl
theorem RQ (B:Nat→List Nat)(W:List Nat){args:List AV}{M:AH}{K Kp:AV→AH→Prop}(hle:Nat.ble args.length 33=true)
 (h:bO (Ym B W) FR (ar tb Try.f51.results.toList K) Kp (aq args) M):aa Try.prog 51 args M K Kp:=
 aa.intro (x:=Ym B W) ae mixed Try.func51 (rfl:Try.f51.body=some FR) (by kernel_rfl) OL rfl rfl rfl hle h
noncomputable def VI:Nat→Option (List (Nat×Nat)×List Nat):=fun id=>match id with
 |0=>some ([(0,0),(1,0),(2,0),(3,0),(6,0),(7,0),(8,0),(4,1),(5,0),(9,1),(10,0),(11,3)],[11])
 |_=>none
noncomputable def Yl (B:Nat→List Nat)(W:List Nat):Cx:={P:=Try.prog,T:=tb,n:=31,W:=W,B:=B,pl:=VI}
noncomputable abbrev FQ:Code:=match Try.f52.body with|some c=>c|none=>.skip
theorem OK:ai VI FQ=true:=by kernel_rfl
theorem Kk (B:Nat→List Nat)(W:List Nat){args:List AV}{M:AH}{K Kp:AV→AH→Prop}(hle:Nat.ble args.length 31=true)
 (h:au (Yl B W) FQ (ar tb Try.f52.results.toList K) Kp (aq args) M):aa Try.prog 52 args M K Kp:=
 aJ.intro (x:=Yl B W) ae mixed Try.func52 (rfl:Try.f52.body=some FQ) (by kernel_rfl) OK rfl rfl rfl hle h
noncomputable def VH:Nat→Option (List (Nat×Nat)×List Nat):=fun id=>match id with
 |3=>some ([(0,0),(1,0),(2,0),(3,0),(5,0),(6,0),(7,0),(4,1),(8,1),(9,3),(10,0),(11,0),(12,0),(13,0),(14,0),(15,0),(16,0)],[9])
 |_=>none
noncomputable def Yk (B:Nat→List Nat)(W:List Nat):Cx:={P:=Try.prog,T:=tb,n:=36,W:=W,B:=B,pl:=VH}
noncomputable abbrev FP:Code:=match Try.f53.body with|some c=>c|none=>.skip
theorem OJ:ai VH FP=true:=by kernel_rfl
theorem Kj (B:Nat→List Nat)(W:List Nat){args:List AV}{M:AH}{K Kp:AV→AH→Prop}(hle:Nat.ble args.length 36=true)
 (h:au (Yk B W) FP (ar tb Try.f53.results.toList K) Kp (aq args) M):aa Try.prog 53 args M K Kp:=
 aJ.intro (x:=Yk B W) ae mixed Try.func53 (rfl:Try.f53.body=some FP) (by kernel_rfl) OJ rfl rfl rfl hle h
noncomputable def Yj (B:Nat→List Nat)(W:List Nat):Cx:={P:=Try.prog,T:=tb,n:=25,W:=W,B:=B}
noncomputable abbrev FO:Code:=match Try.f54.body with|some c=>c|none=>.skip
theorem OI:ai (fun _=>none) FO=true:=by kernel_rfl
theorem SD (B:Nat→List Nat)(W:List Nat){args:List AV}{M:AH}{K Kp:AV→AH→Prop}(hle:Nat.ble args.length 25=true)
 (h:au (Yj B W) FO (ar tb Try.f54.results.toList K) Kp (aq args) M):aa Try.prog 54 args M K Kp:=
 aJ.intro (x:=Yj B W) ae mixed Try.func54 (rfl:Try.f54.body=some FO) (by kernel_rfl) OI rfl rfl rfl hle h
noncomputable def Yi (B:Nat→List Nat)(W:List Nat):Cx:={P:=Try.prog,T:=tb,n:=23,W:=W,B:=B}
noncomputable abbrev FN:Code:=match Try.f55.body with|some c=>c|none=>.skip
theorem OH:ai (fun _=>none) FN=true:=by kernel_rfl
theorem SC (B:Nat→List Nat)(W:List Nat){args:List AV}{M:AH}{K Kp:AV→AH→Prop}(hle:Nat.ble args.length 23=true)
 (h:au (Yi B W) FN (ar tb Try.f55.results.toList K) Kp (aq args) M):aa Try.prog 55 args M K Kp:=
 aJ.intro (x:=Yi B W) ae mixed Try.func55 (rfl:Try.f55.body=some FN) (by kernel_rfl) OH rfl rfl rfl hle h
noncomputable def Yh (B:Nat→List Nat)(W:List Nat):Cx:={P:=Try.prog,T:=tb,n:=65,W:=W,B:=B}
noncomputable abbrev FM:Code:=match Try.f56.body with|some c=>c|none=>.skip
theorem OG:ai (fun _=>none) FM=true:=by kernel_rfl
theorem SA (B:Nat→List Nat)(W:List Nat){args:List AV}{M:AH}{K Kp:AV→AH→Prop}(hle:Nat.ble args.length 65=true)
 (h:au (Yh B W) FM (ar tb Try.f56.results.toList K) Kp (aq args) M):aa Try.prog 56 args M K Kp:=
 aJ.intro (x:=Yh B W) ae mixed Try.func56 (rfl:Try.f56.body=some FM) (by kernel_rfl) OG rfl rfl rfl hle h
noncomputable def Yg (B:Nat→List Nat)(W:List Nat):Cx:={P:=Try.prog,T:=tb,n:=2,W:=W,B:=B}
noncomputable abbrev FL:Code:=match Try.f57.body with|some c=>c|none=>.skip
theorem OE:ai (fun _=>none) FL=true:=by kernel_rfl
theorem Sz (B:Nat→List Nat)(W:List Nat){args:List AV}{M:AH}{K Kp:AV→AH→Prop}(hle:Nat.ble args.length 2=true)
 (h:au (Yg B W) FL (ar tb Try.f57.results.toList K) Kp (aq args) M):aa Try.prog 57 args M K Kp:=
 aJ.intro (x:=Yg B W) ae mixed Try.func57 (rfl:Try.f57.body=some FL) (by kernel_rfl) OE rfl rfl rfl hle h
noncomputable def Yf (B:Nat→List Nat)(W:List Nat):Cx:={P:=Try.prog,T:=tb,n:=14,W:=W,B:=B}
noncomputable abbrev FK:Code:=match Try.f59.body with|some c=>c|none=>.skip
theorem OD:ai (fun _=>none) FK=true:=by kernel_rfl
theorem RP (B:Nat→List Nat)(W:List Nat){args:List AV}{M:AH}{K Kp:AV→AH→Prop}(hle:Nat.ble args.length 14=true)
 (h:bO (Yf B W) FK (ar tb Try.f59.results.toList K) Kp (aq args) M):aa Try.prog 59 args M K Kp:=
 aa.intro (x:=Yf B W) ae mixed Try.func59 (rfl:Try.f59.body=some FK) (by kernel_rfl) OD rfl rfl rfl hle h
noncomputable def Ye (B:Nat→List Nat)(W:List Nat):Cx:={P:=Try.prog,T:=tb,n:=7,W:=W,B:=B}
noncomputable abbrev FJ:Code:=match Try.f60.body with|some c=>c|none=>.skip
theorem OC:ai (fun _=>none) FJ=true:=by kernel_rfl
theorem Sy (B:Nat→List Nat)(W:List Nat){args:List AV}{M:AH}{K Kp:AV→AH→Prop}(hle:Nat.ble args.length 7=true)
 (h:au (Ye B W) FJ (ar tb Try.f60.results.toList K) Kp (aq args) M):aa Try.prog 60 args M K Kp:=
 aJ.intro (x:=Ye B W) ae mixed Try.func60 (rfl:Try.f60.body=some FJ) (by kernel_rfl) OC rfl rfl rfl hle h
noncomputable def VG:Nat→Option (List (Nat×Nat)×List Nat):=fun id=>match id with
 |0=>some ([(0,0),(1,0),(2,0),(5,0),(6,0),(7,0),(3,1),(4,0),(8,1),(9,0)],[])
 |_=>none
noncomputable def Yd (B:Nat→List Nat)(W:List Nat):Cx:={P:=Try.prog,T:=tb,n:=25,W:=W,B:=B,pl:=VG}
noncomputable abbrev FH:Code:=match Try.f61.body with|some c=>c|none=>.skip
theorem OB:ai VG FH=true:=by kernel_rfl
theorem Sx (B:Nat→List Nat)(W:List Nat){args:List AV}{M:AH}{K Kp:AV→AH→Prop}(hle:Nat.ble args.length 25=true)
 (h:au (Yd B W) FH (ar tb Try.f61.results.toList K) Kp (aq args) M):aa Try.prog 61 args M K Kp:=
 aJ.intro (x:=Yd B W) ae mixed Try.func61 (rfl:Try.f61.body=some FH) (by kernel_rfl) OB rfl rfl rfl hle h
noncomputable def VF:Nat→Option (List (Nat×Nat)×List Nat):=fun id=>match id with
 |17=>some ([(0,0),(1,0),(2,0),(3,0),(5,0),(6,0),(7,0),(10,0),(4,1),(8,1),(9,0),(11,0),(12,0),(13,1),(14,3)],[14])
 |_=>none
noncomputable def Yc (B:Nat→List Nat)(W:List Nat):Cx:={P:=Try.prog,T:=tb,n:=70,W:=W,B:=B,pl:=VF}
noncomputable abbrev FG:Code:=match Try.f62.body with|some c=>c|none=>.skip
theorem OA:ai VF FG=true:=by kernel_rfl
theorem Sw (B:Nat→List Nat)(W:List Nat){args:List AV}{M:AH}{K Kp:AV→AH→Prop}(hle:Nat.ble args.length 70=true)
 (h:au (Yc B W) FG (ar tb Try.f62.results.toList K) Kp (aq args) M):aa Try.prog 62 args M K Kp:=
 aJ.intro (x:=Yc B W) ae mixed Try.func62 (rfl:Try.f62.body=some FG) (by kernel_rfl) OA rfl rfl rfl hle h
noncomputable def Yb (B:Nat→List Nat)(W:List Nat):Cx:={P:=Try.prog,T:=tb,n:=13,W:=W,B:=B}
noncomputable abbrev FF:Code:=match Try.f63.body with|some c=>c|none=>.skip
theorem Oz:ai (fun _=>none) FF=true:=by kernel_rfl
theorem Sv (B:Nat→List Nat)(W:List Nat){args:List AV}{M:AH}{K Kp:AV→AH→Prop}(hle:Nat.ble args.length 13=true)
 (h:au (Yb B W) FF (ar tb Try.f63.results.toList K) Kp (aq args) M):aa Try.prog 63 args M K Kp:=
 aJ.intro (x:=Yb B W) ae mixed Try.func63 (rfl:Try.f63.body=some FF) (by kernel_rfl) Oz rfl rfl rfl hle h
noncomputable def VE:Nat→Option (List (Nat×Nat)×List Nat):=fun id=>match id with
 |12=>some ([(0,0),(2,0),(3,0),(1,1),(4,1),(5,2),(6,0),(7,0)],[])
 |_=>none
noncomputable def Ya (B:Nat→List Nat)(W:List Nat):Cx:={P:=Try.prog,T:=tb,n:=66,W:=W,B:=B,pl:=VE}
noncomputable abbrev FE:Code:=match Try.f64.body with|some c=>c|none=>.skip
theorem Oy:ai VE FE=true:=by kernel_rfl
theorem Su (B:Nat→List Nat)(W:List Nat){args:List AV}{M:AH}{K Kp:AV→AH→Prop}(hle:Nat.ble args.length 66=true)
 (h:au (Ya B W) FE (ar tb Try.f64.results.toList K) Kp (aq args) M):aa Try.prog 64 args M K Kp:=
 aJ.intro (x:=Ya B W) ae mixed Try.func64 (rfl:Try.f64.body=some FE) (by kernel_rfl) Oy rfl rfl rfl hle h
noncomputable def VD:Nat→Option (List (Nat×Nat)×List Nat):=fun id=>match id with
 |11=>some ([(0,0),(1,0),(2,0),(4,0),(5,0),(6,0),(12,0),(13,0),(14,0),(18,0),(19,0),(20,0),(3,1),(7,1),(8,0),(9,0),(10,1),(11,0),(15,1),(16,0),(17,0),(21,0),(22,0)],[])
 |_=>none
noncomputable def X9 (B:Nat→List Nat)(W:List Nat):Cx:={P:=Try.prog,T:=tb,n:=74,W:=W,B:=B,pl:=VD}
noncomputable abbrev FD:Code:=match Try.f65.body with|some c=>c|none=>.skip
theorem Ox:ai VD FD=true:=by kernel_rfl
theorem St (B:Nat→List Nat)(W:List Nat){args:List AV}{M:AH}{K Kp:AV→AH→Prop}(hle:Nat.ble args.length 74=true)
 (h:au (X9 B W) FD (ar tb Try.f65.results.toList K) Kp (aq args) M):aa Try.prog 65 args M K Kp:=
 aJ.intro (x:=X9 B W) ae mixed Try.func65 (rfl:Try.f65.body=some FD) (by kernel_rfl) Ox rfl rfl rfl hle h
noncomputable def VC:Nat→Option (List (Nat×Nat)×List Nat):=fun id=>match id with
 |0=>some ([(0,0),(1,0),(2,0),(4,0),(5,0),(6,0),(7,0),(3,1),(8,1),(9,0),(10,0),(11,0),(12,0),(13,3)],[13])
 |4=>some ([(0,0),(1,0),(2,0),(3,0),(5,0),(6,0),(7,0),(4,1),(8,1),(9,0),(10,2),(11,3),(12,0),(13,0),(14,3)],[11,14])
 |_=>none
noncomputable def X8 (B:Nat→List Nat)(W:List Nat):Cx:={P:=Try.prog,T:=tb,n:=60,W:=W,B:=B,pl:=VC}
noncomputable abbrev FC:Code:=match Try.f66.body with|some c=>c|none=>.skip
theorem Ow:ai VC FC=true:=by kernel_rfl
theorem RN (B:Nat→List Nat)(W:List Nat){args:List AV}{M:AH}{K Kp:AV→AH→Prop}(hle:Nat.ble args.length 60=true)
 (h:bO (X8 B W) FC (ar tb Try.f66.results.toList K) Kp (aq args) M):aa Try.prog 66 args M K Kp:=
 aa.intro (x:=X8 B W) ae mixed Try.func66 (rfl:Try.f66.body=some FC) (by kernel_rfl) Ow rfl rfl rfl hle h
noncomputable def X7 (B:Nat→List Nat)(W:List Nat):Cx:={P:=Try.prog,T:=tb,n:=17,W:=W,B:=B}
noncomputable abbrev FB:Code:=match Try.f67.body with|some c=>c|none=>.skip
theorem Ov:ai (fun _=>none) FB=true:=by kernel_rfl
theorem RM (B:Nat→List Nat)(W:List Nat){args:List AV}{M:AH}{K Kp:AV→AH→Prop}(hle:Nat.ble args.length 17=true)
 (h:bO (X7 B W) FB (ar tb Try.f67.results.toList K) Kp (aq args) M):aa Try.prog 67 args M K Kp:=
 aa.intro (x:=X7 B W) ae mixed Try.func67 (rfl:Try.f67.body=some FB) (by kernel_rfl) Ov rfl rfl rfl hle h
noncomputable def VB:Nat→Option (List (Nat×Nat)×List Nat):=fun id=>match id with
 |3=>some ([(0,0),(1,0),(2,0),(6,0),(7,0),(8,0),(3,1),(4,0),(5,0),(9,1),(10,0),(11,0)],[])
 |_=>none
noncomputable def X6 (B:Nat→List Nat)(W:List Nat):Cx:={P:=Try.prog,T:=tb,n:=16,W:=W,B:=B,pl:=VB}
noncomputable abbrev FA:Code:=match Try.f68.body with|some c=>c|none=>.skip
theorem Ou:ai VB FA=true:=by kernel_rfl
theorem RL (B:Nat→List Nat)(W:List Nat){args:List AV}{M:AH}{K Kp:AV→AH→Prop}(hle:Nat.ble args.length 16=true)
 (h:bO (X6 B W) FA (ar tb Try.f68.results.toList K) Kp (aq args) M):aa Try.prog 68 args M K Kp:=
 aa.intro (x:=X6 B W) ae mixed Try.func68 (rfl:Try.f68.body=some FA) (by kernel_rfl) Ou rfl rfl rfl hle h
noncomputable def X5 (B:Nat→List Nat)(W:List Nat):Cx:={P:=Try.prog,T:=tb,n:=27,W:=W,B:=B}
noncomputable abbrev Fz:Code:=match Try.f69.body with|some c=>c|none=>.skip
theorem Ot:ai (fun _=>none) Fz=true:=by kernel_rfl
theorem Ss (B:Nat→List Nat)(W:List Nat){args:List AV}{M:AH}{K Kp:AV→AH→Prop}(hle:Nat.ble args.length 27=true)
 (h:au (X5 B W) Fz (ar tb Try.f69.results.toList K) Kp (aq args) M):aa Try.prog 69 args M K Kp:=
 aJ.intro (x:=X5 B W) ae mixed Try.func69 (rfl:Try.f69.body=some Fz) (by kernel_rfl) Ot rfl rfl rfl hle h
noncomputable def X4 (B:Nat→List Nat)(W:List Nat):Cx:={P:=Try.prog,T:=tb,n:=30,W:=W,B:=B}
noncomputable abbrev Fy:Code:=match Try.f70.body with|some c=>c|none=>.skip
theorem Oq:ai (fun _=>none) Fy=true:=by kernel_rfl
theorem Sr (B:Nat→List Nat)(W:List Nat){args:List AV}{M:AH}{K Kp:AV→AH→Prop}(hle:Nat.ble args.length 30=true)
 (h:au (X4 B W) Fy (ar tb Try.f70.results.toList K) Kp (aq args) M):aa Try.prog 70 args M K Kp:=
 aJ.intro (x:=X4 B W) ae mixed Try.func70 (rfl:Try.f70.body=some Fy) (by kernel_rfl) Oq rfl rfl rfl hle h
noncomputable def X3 (B:Nat→List Nat)(W:List Nat):Cx:={P:=Try.prog,T:=tb,n:=15,W:=W,B:=B}
noncomputable abbrev Fx:Code:=match Try.f71.body with|some c=>c|none=>.skip
theorem Oo:ai (fun _=>none) Fx=true:=by kernel_rfl
theorem Sq (B:Nat→List Nat)(W:List Nat){args:List AV}{M:AH}{K Kp:AV→AH→Prop}(hle:Nat.ble args.length 15=true)
 (h:au (X3 B W) Fx (ar tb Try.f71.results.toList K) Kp (aq args) M):aa Try.prog 71 args M K Kp:=
 aJ.intro (x:=X3 B W) ae mixed Try.func71 (rfl:Try.f71.body=some Fx) (by kernel_rfl) Oo rfl rfl rfl hle h
noncomputable def VA:Nat→Option (List (Nat×Nat)×List Nat):=fun id=>match id with
 |6=>some ([(0,0),(1,0),(2,0),(3,0),(4,0),(5,0),(6,0),(7,0),(8,0),(9,0),(10,0),(11,0),(12,0),(13,0),(14,0),(15,0),(16,0),(17,3)],[17])
 |_=>none
noncomputable def X2 (B:Nat→List Nat)(W:List Nat):Cx:={P:=Try.prog,T:=tb,n:=37,W:=W,B:=B,pl:=VA}
noncomputable abbrev Fw:Code:=match Try.f72.body with|some c=>c|none=>.skip
theorem On:ai VA Fw=true:=by kernel_rfl
theorem Ki (B:Nat→List Nat)(W:List Nat){args:List AV}{M:AH}{K Kp:AV→AH→Prop}(hle:Nat.ble args.length 37=true)
 (h:au (X2 B W) Fw (ar tb Try.f72.results.toList K) Kp (aq args) M):aa Try.prog 72 args M K Kp:=
 aJ.intro (x:=X2 B W) ae mixed Try.func72 (rfl:Try.f72.body=some Fw) (by kernel_rfl) On rfl rfl rfl hle h
noncomputable def X1 (B:Nat→List Nat)(W:List Nat):Cx:={P:=Try.prog,T:=tb,n:=24,W:=W,B:=B}
noncomputable abbrev Fv:Code:=match Try.f73.body with|some c=>c|none=>.skip
theorem Om:ai (fun _=>none) Fv=true:=by kernel_rfl
theorem Sp (B:Nat→List Nat)(W:List Nat){args:List AV}{M:AH}{K Kp:AV→AH→Prop}(hle:Nat.ble args.length 24=true)
 (h:au (X1 B W) Fv (ar tb Try.f73.results.toList K) Kp (aq args) M):aa Try.prog 73 args M K Kp:=
 aJ.intro (x:=X1 B W) ae mixed Try.func73 (rfl:Try.f73.body=some Fv) (by kernel_rfl) Om rfl rfl rfl hle h
noncomputable def Vz:Nat→Option (List (Nat×Nat)×List Nat):=fun id=>match id with
 |3=>some ([(0,0),(1,0),(2,0),(3,1),(4,0),(5,0),(6,0),(8,0),(9,0),(10,0),(14,0),(7,1),(11,0),(12,1),(13,1),(15,0),(16,1),(17,0),(18,0)],[])
 |12=>some ([(0,0),(1,0),(2,0),(4,0),(5,0),(9,0),(3,1),(6,0),(7,1),(8,1),(10,0),(11,1),(12,0),(13,0),(14,0),(15,0),(16,0),(17,0),(18,0)],[])
 |_=>none
noncomputable def X0 (B:Nat→List Nat)(W:List Nat):Cx:={P:=Try.prog,T:=tb,n:=96,W:=W,B:=B,pl:=Vz}
noncomputable abbrev Fu:Code:=match Try.f74.body with|some c=>c|none=>.skip
theorem Ol:ai Vz Fu=true:=by kernel_rfl
theorem Kh (B:Nat→List Nat)(W:List Nat){args:List AV}{M:AH}{K Kp:AV→AH→Prop}(hle:Nat.ble args.length 96=true)
 (h:au (X0 B W) Fu (ar tb Try.f74.results.toList K) Kp (aq args) M):aa Try.prog 74 args M K Kp:=
 aJ.intro (x:=X0 B W) ae mixed Try.func74 (rfl:Try.f74.body=some Fu) (by kernel_rfl) Ol rfl rfl rfl hle h
noncomputable def XZ (B:Nat→List Nat)(W:List Nat):Cx:={P:=Try.prog,T:=tb,n:=9,W:=W,B:=B}
noncomputable abbrev Ft:Code:=match Try.f75.body with|some c=>c|none=>.skip
theorem Ok:ai (fun _=>none) Ft=true:=by kernel_rfl
theorem So (B:Nat→List Nat)(W:List Nat){args:List AV}{M:AH}{K Kp:AV→AH→Prop}(hle:Nat.ble args.length 9=true)
 (h:au (XZ B W) Ft (ar tb Try.f75.results.toList K) Kp (aq args) M):aa Try.prog 75 args M K Kp:=
 aJ.intro (x:=XZ B W) ae mixed Try.func75 (rfl:Try.f75.body=some Ft) (by kernel_rfl) Ok rfl rfl rfl hle h
noncomputable def XY (B:Nat→List Nat)(W:List Nat):Cx:={P:=Try.prog,T:=tb,n:=9,W:=W,B:=B}
noncomputable abbrev Fs:Code:=match Try.f76.body with|some c=>c|none=>.skip
theorem Oj:ai (fun _=>none) Fs=true:=by kernel_rfl
theorem Sn (B:Nat→List Nat)(W:List Nat){args:List AV}{M:AH}{K Kp:AV→AH→Prop}(hle:Nat.ble args.length 9=true)
 (h:au (XY B W) Fs (ar tb Try.f76.results.toList K) Kp (aq args) M):aa Try.prog 76 args M K Kp:=
 aJ.intro (x:=XY B W) ae mixed Try.func76 (rfl:Try.f76.body=some Fs) (by kernel_rfl) Oj rfl rfl rfl hle h
noncomputable def Vy:Nat→Option (List (Nat×Nat)×List Nat):=fun id=>match id with
 |11=>some ([(0,0),(2,0),(5,0),(1,1),(3,1),(4,0),(6,1),(7,13),(8,0),(9,2),(10,3)],[10])
 |_=>none
noncomputable def XX (B:Nat→List Nat)(W:List Nat):Cx:={P:=Try.prog,T:=tb,n:=62,W:=W,B:=B,pl:=Vy}
noncomputable abbrev Fq:Code:=match Try.f77.body with|some c=>c|none=>.skip
theorem Oi:ai Vy Fq=true:=by kernel_rfl
theorem Sm (B:Nat→List Nat)(W:List Nat){args:List AV}{M:AH}{K Kp:AV→AH→Prop}(hle:Nat.ble args.length 62=true)
 (h:au (XX B W) Fq (ar tb Try.f77.results.toList K) Kp (aq args) M):aa Try.prog 77 args M K Kp:=
 aJ.intro (x:=XX B W) ae mixed Try.func77 (rfl:Try.f77.body=some Fq) (by kernel_rfl) Oi rfl rfl rfl hle h
noncomputable def XW (B:Nat→List Nat)(W:List Nat):Cx:={P:=Try.prog,T:=tb,n:=17,W:=W,B:=B}
noncomputable abbrev Fp:Code:=match Try.f78.body with|some c=>c|none=>.skip
theorem Oh:ai (fun _=>none) Fp=true:=by kernel_rfl
theorem Sl (B:Nat→List Nat)(W:List Nat){args:List AV}{M:AH}{K Kp:AV→AH→Prop}(hle:Nat.ble args.length 17=true)
 (h:au (XW B W) Fp (ar tb Try.f78.results.toList K) Kp (aq args) M):aa Try.prog 78 args M K Kp:=
 aJ.intro (x:=XW B W) ae mixed Try.func78 (rfl:Try.f78.body=some Fp) (by kernel_rfl) Oh rfl rfl rfl hle h
noncomputable def XV (B:Nat→List Nat)(W:List Nat):Cx:={P:=Try.prog,T:=tb,n:=7,W:=W,B:=B}
noncomputable abbrev Fo:Code:=match Try.f79.body with|some c=>c|none=>.skip
theorem Og:ai (fun _=>none) Fo=true:=by kernel_rfl
theorem Sk (B:Nat→List Nat)(W:List Nat){args:List AV}{M:AH}{K Kp:AV→AH→Prop}(hle:Nat.ble args.length 7=true)
 (h:au (XV B W) Fo (ar tb Try.f79.results.toList K) Kp (aq args) M):aa Try.prog 79 args M K Kp:=
 aJ.intro (x:=XV B W) ae mixed Try.func79 (rfl:Try.f79.body=some Fo) (by kernel_rfl) Og rfl rfl rfl hle h
noncomputable def XU (B:Nat→List Nat)(W:List Nat):Cx:={P:=Try.prog,T:=tb,n:=75,W:=W,B:=B}
noncomputable abbrev Fm:Code:=match Try.f80.body with|some c=>c|none=>.skip
theorem Of:ai (fun _=>none) Fm=true:=by kernel_rfl
theorem Kg (B:Nat→List Nat)(W:List Nat){args:List AV}{M:AH}{K Kp:AV→AH→Prop}(hle:Nat.ble args.length 75=true)
 (h:au (XU B W) Fm (ar tb Try.f80.results.toList K) Kp (aq args) M):aa Try.prog 80 args M K Kp:=
 aJ.intro (x:=XU B W) ae mixed Try.func80 (rfl:Try.f80.body=some Fm) (by kernel_rfl) Of rfl rfl rfl hle h
noncomputable def Vx:Nat→Option (List (Nat×Nat)×List Nat):=fun id=>match id with
 |0=>some ([(1,0),(2,0),(3,0),(0,1),(4,2),(5,0),(6,3)],[6])
 |_=>none
noncomputable def XT (B:Nat→List Nat)(W:List Nat):Cx:={P:=Try.prog,T:=tb,n:=13,W:=W,B:=B,pl:=Vx}
noncomputable abbrev Fl:Code:=match Try.f81.body with|some c=>c|none=>.skip
theorem Oe:ai Vx Fl=true:=by kernel_rfl
theorem Sj (B:Nat→List Nat)(W:List Nat){args:List AV}{M:AH}{K Kp:AV→AH→Prop}(hle:Nat.ble args.length 13=true)
 (h:au (XT B W) Fl (ar tb Try.f81.results.toList K) Kp (aq args) M):aa Try.prog 81 args M K Kp:=
 aJ.intro (x:=XT B W) ae mixed Try.func81 (rfl:Try.f81.body=some Fl) (by kernel_rfl) Oe rfl rfl rfl hle h
noncomputable def XS (B:Nat→List Nat)(W:List Nat):Cx:={P:=Try.prog,T:=tb,n:=19,W:=W,B:=B}
noncomputable abbrev Fk:Code:=match Try.f82.body with|some c=>c|none=>.skip
theorem Od:ai (fun _=>none) Fk=true:=by kernel_rfl
theorem Si (B:Nat→List Nat)(W:List Nat){args:List AV}{M:AH}{K Kp:AV→AH→Prop}(hle:Nat.ble args.length 19=true)
 (h:au (XS B W) Fk (ar tb Try.f82.results.toList K) Kp (aq args) M):aa Try.prog 82 args M K Kp:=
 aJ.intro (x:=XS B W) ae mixed Try.func82 (rfl:Try.f82.body=some Fk) (by kernel_rfl) Od rfl rfl rfl hle h
noncomputable def XR (B:Nat→List Nat)(W:List Nat):Cx:={P:=Try.prog,T:=tb,n:=21,W:=W,B:=B}
noncomputable abbrev Fj:Code:=match Try.f83.body with|some c=>c|none=>.skip
theorem Oc:ai (fun _=>none) Fj=true:=by kernel_rfl
theorem RK (B:Nat→List Nat)(W:List Nat){args:List AV}{M:AH}{K Kp:AV→AH→Prop}(hle:Nat.ble args.length 21=true)
 (h:bO (XR B W) Fj (ar tb Try.f83.results.toList K) Kp (aq args) M):aa Try.prog 83 args M K Kp:=
 aa.intro (x:=XR B W) ae mixed Try.func83 (rfl:Try.f83.body=some Fj) (by kernel_rfl) Oc rfl rfl rfl hle h
noncomputable def Vv:Nat→Option (List (Nat×Nat)×List Nat):=fun id=>match id with
 |6=>some ([(0,0),(1,0),(2,0),(3,0),(5,0),(6,0),(7,0),(8,0),(4,1),(9,3)],[9])
 |_=>none
noncomputable def XQ (B:Nat→List Nat)(W:List Nat):Cx:={P:=Try.prog,T:=tb,n:=55,W:=W,B:=B,pl:=Vv}
noncomputable abbrev Fi:Code:=match Try.f84.body with|some c=>c|none=>.skip
theorem Ob:ai Vv Fi=true:=by kernel_rfl
theorem Sh (B:Nat→List Nat)(W:List Nat){args:List AV}{M:AH}{K Kp:AV→AH→Prop}(hle:Nat.ble args.length 55=true)
 (h:au (XQ B W) Fi (ar tb Try.f84.results.toList K) Kp (aq args) M):aa Try.prog 84 args M K Kp:=
 aJ.intro (x:=XQ B W) ae mixed Try.func84 (rfl:Try.f84.body=some Fi) (by kernel_rfl) Ob rfl rfl rfl hle h
noncomputable def XP (B:Nat→List Nat)(W:List Nat):Cx:={P:=Try.prog,T:=tb,n:=48,W:=W,B:=B}
noncomputable abbrev Fh:Code:=match Try.f85.body with|some c=>c|none=>.skip
theorem Oa:ai (fun _=>none) Fh=true:=by kernel_rfl
theorem Sg (B:Nat→List Nat)(W:List Nat){args:List AV}{M:AH}{K Kp:AV→AH→Prop}(hle:Nat.ble args.length 48=true)
 (h:au (XP B W) Fh (ar tb Try.f85.results.toList K) Kp (aq args) M):aa Try.prog 85 args M K Kp:=
 aJ.intro (x:=XP B W) ae mixed Try.func85 (rfl:Try.f85.body=some Fh) (by kernel_rfl) Oa rfl rfl rfl hle h
noncomputable def XO (B:Nat→List Nat)(W:List Nat):Cx:={P:=Try.prog,T:=tb,n:=19,W:=W,B:=B}
noncomputable abbrev Fg:Code:=match Try.f86.body with|some c=>c|none=>.skip
theorem N9:ai (fun _=>none) Fg=true:=by kernel_rfl
theorem Sf (B:Nat→List Nat)(W:List Nat){args:List AV}{M:AH}{K Kp:AV→AH→Prop}(hle:Nat.ble args.length 19=true)
 (h:au (XO B W) Fg (ar tb Try.f86.results.toList K) Kp (aq args) M):aa Try.prog 86 args M K Kp:=
 aJ.intro (x:=XO B W) ae mixed Try.func86 (rfl:Try.f86.body=some Fg) (by kernel_rfl) N9 rfl rfl rfl hle h
noncomputable def Vu:Nat→Option (List (Nat×Nat)×List Nat):=fun id=>match id with
 |4=>some ([(0,0),(1,0),(2,0),(3,0),(4,0),(5,0),(6,0),(7,0),(8,0),(9,3),(10,0),(11,0)],[9])
 |_=>none
noncomputable def XN (B:Nat→List Nat)(W:List Nat):Cx:={P:=Try.prog,T:=tb,n:=28,W:=W,B:=B,pl:=Vu}
noncomputable abbrev Ff:Code:=match Try.f87.body with|some c=>c|none=>.skip
theorem N8:ai Vu Ff=true:=by kernel_rfl
theorem Se (B:Nat→List Nat)(W:List Nat){args:List AV}{M:AH}{K Kp:AV→AH→Prop}(hle:Nat.ble args.length 28=true)
 (h:au (XN B W) Ff (ar tb Try.f87.results.toList K) Kp (aq args) M):aa Try.prog 87 args M K Kp:=
 aJ.intro (x:=XN B W) ae mixed Try.func87 (rfl:Try.f87.body=some Ff) (by kernel_rfl) N8 rfl rfl rfl hle h
noncomputable def XM (B:Nat→List Nat)(W:List Nat):Cx:={P:=Try.prog,T:=tb,n:=16,W:=W,B:=B}
noncomputable abbrev Fe:Code:=match Try.f88.body with|some c=>c|none=>.skip
theorem N7:ai (fun _=>none) Fe=true:=by kernel_rfl
theorem Sd (B:Nat→List Nat)(W:List Nat){args:List AV}{M:AH}{K Kp:AV→AH→Prop}(hle:Nat.ble args.length 16=true)
 (h:au (XM B W) Fe (ar tb Try.f88.results.toList K) Kp (aq args) M):aa Try.prog 88 args M K Kp:=
 aJ.intro (x:=XM B W) ae mixed Try.func88 (rfl:Try.f88.body=some Fe) (by kernel_rfl) N7 rfl rfl rfl hle h
noncomputable def Vt:Nat→Option (List (Nat×Nat)×List Nat):=fun id=>match id with
 |3=>some ([(0,0),(1,0),(2,0),(6,0),(7,0),(8,0),(3,1),(4,0),(5,0),(9,1),(10,0),(11,0)],[])
 |_=>none
noncomputable def XL (B:Nat→List Nat)(W:List Nat):Cx:={P:=Try.prog,T:=tb,n:=16,W:=W,B:=B,pl:=Vt}
noncomputable abbrev Fc:Code:=match Try.f89.body with|some c=>c|none=>.skip
theorem N6:ai Vt Fc=true:=by kernel_rfl
theorem RJ (B:Nat→List Nat)(W:List Nat){args:List AV}{M:AH}{K Kp:AV→AH→Prop}(hle:Nat.ble args.length 16=true)
 (h:bO (XL B W) Fc (ar tb Try.f89.results.toList K) Kp (aq args) M):aa Try.prog 89 args M K Kp:=
 aa.intro (x:=XL B W) ae mixed Try.func89 (rfl:Try.f89.body=some Fc) (by kernel_rfl) N6 rfl rfl rfl hle h
noncomputable def XK (B:Nat→List Nat)(W:List Nat):Cx:={P:=Try.prog,T:=tb,n:=51,W:=W,B:=B}
noncomputable abbrev Fb:Code:=match Try.f91.body with|some c=>c|none=>.skip
theorem N5:ai (fun _=>none) Fb=true:=by kernel_rfl
theorem Sc (B:Nat→List Nat)(W:List Nat){args:List AV}{M:AH}{K Kp:AV→AH→Prop}(hle:Nat.ble args.length 51=true)
 (h:au (XK B W) Fb (ar tb Try.f91.results.toList K) Kp (aq args) M):aa Try.prog 91 args M K Kp:=
 aJ.intro (x:=XK B W) ae mixed Try.func91 (rfl:Try.f91.body=some Fb) (by kernel_rfl) N5 rfl rfl rfl hle h
noncomputable def XJ (B:Nat→List Nat)(W:List Nat):Cx:={P:=Try.prog,T:=tb,n:=19,W:=W,B:=B}
noncomputable abbrev Fa:Code:=match Try.f92.body with|some c=>c|none=>.skip
theorem N4:ai (fun _=>none) Fa=true:=by kernel_rfl
theorem Sb (B:Nat→List Nat)(W:List Nat){args:List AV}{M:AH}{K Kp:AV→AH→Prop}(hle:Nat.ble args.length 19=true)
 (h:au (XJ B W) Fa (ar tb Try.f92.results.toList K) Kp (aq args) M):aa Try.prog 92 args M K Kp:=
 aJ.intro (x:=XJ B W) ae mixed Try.func92 (rfl:Try.f92.body=some Fa) (by kernel_rfl) N4 rfl rfl rfl hle h
noncomputable def XI (B:Nat→List Nat)(W:List Nat):Cx:={P:=Try.prog,T:=tb,n:=8,W:=W,B:=B}
noncomputable abbrev E9:Code:=match Try.f93.body with|some c=>c|none=>.skip
theorem N3:ai (fun _=>none) E9=true:=by kernel_rfl
theorem Sa (B:Nat→List Nat)(W:List Nat){args:List AV}{M:AH}{K Kp:AV→AH→Prop}(hle:Nat.ble args.length 8=true)
 (h:au (XI B W) E9 (ar tb Try.f93.results.toList K) Kp (aq args) M):aa Try.prog 93 args M K Kp:=
 aJ.intro (x:=XI B W) ae mixed Try.func93 (rfl:Try.f93.body=some E9) (by kernel_rfl) N3 rfl rfl rfl hle h
noncomputable def XH (B:Nat→List Nat)(W:List Nat):Cx:={P:=Try.prog,T:=tb,n:=5,W:=W,B:=B}
noncomputable abbrev E8:Code:=match Try.f94.body with|some c=>c|none=>.skip
theorem N2:ai (fun _=>none) E8=true:=by kernel_rfl
theorem R9 (B:Nat→List Nat)(W:List Nat){args:List AV}{M:AH}{K Kp:AV→AH→Prop}(hle:Nat.ble args.length 5=true)
 (h:au (XH B W) E8 (ar tb Try.f94.results.toList K) Kp (aq args) M):aa Try.prog 94 args M K Kp:=
 aJ.intro (x:=XH B W) ae mixed Try.func94 (rfl:Try.f94.body=some E8) (by kernel_rfl) N2 rfl rfl rfl hle h
noncomputable def XG (B:Nat→List Nat)(W:List Nat):Cx:={P:=Try.prog,T:=tb,n:=8,W:=W,B:=B}
noncomputable abbrev E7:Code:=match Try.f95.body with|some c=>c|none=>.skip
theorem NZ:ai (fun _=>none) E7=true:=by kernel_rfl
theorem R8 (B:Nat→List Nat)(W:List Nat){args:List AV}{M:AH}{K Kp:AV→AH→Prop}(hle:Nat.ble args.length 8=true)
 (h:au (XG B W) E7 (ar tb Try.f95.results.toList K) Kp (aq args) M):aa Try.prog 95 args M K Kp:=
 aJ.intro (x:=XG B W) ae mixed Try.func95 (rfl:Try.f95.body=some E7) (by kernel_rfl) NZ rfl rfl rfl hle h
noncomputable def XF (B:Nat→List Nat)(W:List Nat):Cx:={P:=Try.prog,T:=tb,n:=48,W:=W,B:=B}
noncomputable abbrev E6:Code:=match Try.f96.body with|some c=>c|none=>.skip
theorem NY:ai (fun _=>none) E6=true:=by kernel_rfl
theorem R7 (B:Nat→List Nat)(W:List Nat){args:List AV}{M:AH}{K Kp:AV→AH→Prop}(hle:Nat.ble args.length 48=true)
 (h:au (XF B W) E6 (ar tb Try.f96.results.toList K) Kp (aq args) M):aa Try.prog 96 args M K Kp:=
 aJ.intro (x:=XF B W) ae mixed Try.func96 (rfl:Try.f96.body=some E6) (by kernel_rfl) NY rfl rfl rfl hle h
noncomputable def XE (B:Nat→List Nat)(W:List Nat):Cx:={P:=Try.prog,T:=tb,n:=15,W:=W,B:=B}
noncomputable abbrev E5:Code:=match Try.f97.body with|some c=>c|none=>.skip
theorem NX:ai (fun _=>none) E5=true:=by kernel_rfl
theorem R6 (B:Nat→List Nat)(W:List Nat){args:List AV}{M:AH}{K Kp:AV→AH→Prop}(hle:Nat.ble args.length 15=true)
 (h:au (XE B W) E5 (ar tb Try.f97.results.toList K) Kp (aq args) M):aa Try.prog 97 args M K Kp:=
 aJ.intro (x:=XE B W) ae mixed Try.func97 (rfl:Try.f97.body=some E5) (by kernel_rfl) NX rfl rfl rfl hle h
noncomputable def XD (B:Nat→List Nat)(W:List Nat):Cx:={P:=Try.prog,T:=tb,n:=9,W:=W,B:=B}
noncomputable abbrev E4:Code:=match Try.f98.body with|some c=>c|none=>.skip
theorem NW:ai (fun _=>none) E4=true:=by kernel_rfl
theorem R5 (B:Nat→List Nat)(W:List Nat){args:List AV}{M:AH}{K Kp:AV→AH→Prop}(hle:Nat.ble args.length 9=true)
 (h:au (XD B W) E4 (ar tb Try.f98.results.toList K) Kp (aq args) M):aa Try.prog 98 args M K Kp:=
 aJ.intro (x:=XD B W) ae mixed Try.func98 (rfl:Try.f98.body=some E4) (by kernel_rfl) NW rfl rfl rfl hle h
noncomputable def XC (B:Nat→List Nat)(W:List Nat):Cx:={P:=Try.prog,T:=tb,n:=5,W:=W,B:=B}
noncomputable abbrev E3:Code:=match Try.f99.body with|some c=>c|none=>.skip
theorem NV:ai (fun _=>none) E3=true:=by kernel_rfl
theorem R4 (B:Nat→List Nat)(W:List Nat){args:List AV}{M:AH}{K Kp:AV→AH→Prop}(hle:Nat.ble args.length 5=true)
 (h:au (XC B W) E3 (ar tb Try.f99.results.toList K) Kp (aq args) M):aa Try.prog 99 args M K Kp:=
 aJ.intro (x:=XC B W) ae mixed Try.func99 (rfl:Try.f99.body=some E3) (by kernel_rfl) NV rfl rfl rfl hle h
noncomputable def QS:Nat→Option (List (Nat×Nat)×List Nat):=fun id=>match id with
 |6=>some ([(0,0),(1,0),(2,0),(4,0),(5,0),(6,0),(3,1),(7,1),(8,0)],[])
 |_=>none
noncomputable def Rw (B:Nat→List Nat)(W:List Nat):Cx:={P:=Try.prog,T:=tb,n:=26,W:=W,B:=B,pl:=QS}
noncomputable abbrev Ba:Code:=match Try.f100.body with|some c=>c|none=>.skip
theorem KS:ai QS Ba=true:=by kernel_rfl
theorem NJ (B:Nat→List Nat)(W:List Nat){args:List AV}{M:AH}{K Kp:AV→AH→Prop}(hle:Nat.ble args.length 26=true)
 (h:au (Rw B W) Ba (ar tb Try.f100.results.toList K) Kp (aq args) M):aa Try.prog 100 args M K Kp:=
 aJ.intro (x:=Rw B W) ae mixed Try.func100 (rfl:Try.f100.body=some Ba) (by kernel_rfl) KS rfl rfl rfl hle h
noncomputable def QR:Nat→Option (List (Nat×Nat)×List Nat):=fun id=>match id with
 |4=>some ([(0,0),(1,0),(2,0),(3,1),(4,1),(5,1),(6,0),(7,0),(8,0),(9,0),(10,0)],[])
 |_=>none
noncomputable def Rv (B:Nat→List Nat)(W:List Nat):Cx:={P:=Try.prog,T:=tb,n:=52,W:=W,B:=B,pl:=QR}
noncomputable abbrev A9:Code:=match Try.f101.body with|some c=>c|none=>.skip
theorem KR:ai QR A9=true:=by kernel_rfl
theorem NI (B:Nat→List Nat)(W:List Nat){args:List AV}{M:AH}{K Kp:AV→AH→Prop}(hle:Nat.ble args.length 52=true)
 (h:au (Rv B W) A9 (ar tb Try.f101.results.toList K) Kp (aq args) M):aa Try.prog 101 args M K Kp:=
 aJ.intro (x:=Rv B W) ae mixed Try.func101 (rfl:Try.f101.body=some A9) (by kernel_rfl) KR rfl rfl rfl hle h
noncomputable def QQ:Nat→Option (List (Nat×Nat)×List Nat):=fun id=>match id with
 |4=>some ([(4,0),(5,0),(6,0),(7,0),(8,0),(9,0),(10,0),(0,1),(1,0),(2,0),(3,1),(11,3)],[11])
 |_=>none
noncomputable def Ru (B:Nat→List Nat)(W:List Nat):Cx:={P:=Try.prog,T:=tb,n:=33,W:=W,B:=B,pl:=QQ}
noncomputable abbrev A8:Code:=match Try.f102.body with|some c=>c|none=>.skip
theorem KQ:ai QQ A8=true:=by kernel_rfl
theorem NH (B:Nat→List Nat)(W:List Nat){args:List AV}{M:AH}{K Kp:AV→AH→Prop}(hle:Nat.ble args.length 33=true)
 (h:au (Ru B W) A8 (ar tb Try.f102.results.toList K) Kp (aq args) M):aa Try.prog 102 args M K Kp:=
 aJ.intro (x:=Ru B W) ae mixed Try.func102 (rfl:Try.f102.body=some A8) (by kernel_rfl) KQ rfl rfl rfl hle h
noncomputable def Rt (B:Nat→List Nat)(W:List Nat):Cx:={P:=Try.prog,T:=tb,n:=19,W:=W,B:=B}
noncomputable abbrev A7:Code:=match Try.f103.body with|some c=>c|none=>.skip
theorem KP:ai (fun _=>none) A7=true:=by kernel_rfl
theorem NG (B:Nat→List Nat)(W:List Nat){args:List AV}{M:AH}{K Kp:AV→AH→Prop}(hle:Nat.ble args.length 19=true)
 (h:au (Rt B W) A7 (ar tb Try.f103.results.toList K) Kp (aq args) M):aa Try.prog 103 args M K Kp:=
 aJ.intro (x:=Rt B W) ae mixed Try.func103 (rfl:Try.f103.body=some A7) (by kernel_rfl) KP rfl rfl rfl hle h
noncomputable def QP:Nat→Option (List (Nat×Nat)×List Nat):=fun id=>match id with
 |1=>some ([(0,0),(1,0),(2,0),(3,0),(5,0),(6,0),(7,0),(8,0),(4,1),(9,1),(10,0),(11,0),(12,0),(13,0),(14,0),(15,0),(17,0),(18,0),(19,0),(20,0),(16,1),(21,1),(22,0),(23,0),(24,0),(25,0),(26,0),(27,0),(29,0),(30,0),(31,0),(32,0),(28,1),(33,1),(34,0),(35,0),(36,0),(37,0)],[])
 |_=>none
noncomputable def Rr (B:Nat→List Nat)(W:List Nat):Cx:={P:=Try.prog,T:=tb,n:=44,W:=W,B:=B,pl:=QP}
noncomputable abbrev A6:Code:=match Try.f121.body with|some c=>c|none=>.skip
theorem KO:ai QP A6=true:=by kernel_rfl
theorem NF (B:Nat→List Nat)(W:List Nat){args:List AV}{M:AH}{K Kp:AV→AH→Prop}(hle:Nat.ble args.length 44=true)
 (h:au (Rr B W) A6 (ar tb Try.f121.results.toList K) Kp (aq args) M):aa Try.prog 121 args M K Kp:=
 aJ.intro (x:=Rr B W) ae mixed Try.func121 (rfl:Try.f121.body=some A6) (by kernel_rfl) KO rfl rfl rfl hle h
noncomputable def QO:Nat→Option (List (Nat×Nat)×List Nat):=fun id=>match id with
 |0=>some ([(0,0),(1,0),(2,0),(3,0),(4,0),(5,0),(6,0),(8,0),(9,0),(10,0),(7,1),(11,1),(12,0),(13,3),(14,0),(15,3)],[13,15])
 |_=>none
noncomputable def Rq (B:Nat→List Nat)(W:List Nat):Cx:={P:=Try.prog,T:=tb,n:=20,W:=W,B:=B,pl:=QO}
noncomputable abbrev A5:Code:=match Try.f122.body with|some c=>c|none=>.skip
theorem KN:ai QO A5=true:=by kernel_rfl
theorem ND (B:Nat→List Nat)(W:List Nat){args:List AV}{M:AH}{K Kp:AV→AH→Prop}(hle:Nat.ble args.length 20=true)
 (h:au (Rq B W) A5 (ar tb Try.f122.results.toList K) Kp (aq args) M):aa Try.prog 122 args M K Kp:=
 aJ.intro (x:=Rq B W) ae mixed Try.func122 (rfl:Try.f122.body=some A5) (by kernel_rfl) KN rfl rfl rfl hle h
noncomputable def Rp (B:Nat→List Nat)(W:List Nat):Cx:={P:=Try.prog,T:=tb,n:=23,W:=W,B:=B}
noncomputable abbrev A4:Code:=match Try.f123.body with|some c=>c|none=>.skip
theorem KM:ai (fun _=>none) A4=true:=by kernel_rfl
theorem NC (B:Nat→List Nat)(W:List Nat){args:List AV}{M:AH}{K Kp:AV→AH→Prop}(hle:Nat.ble args.length 23=true)
 (h:au (Rp B W) A4 (ar tb Try.f123.results.toList K) Kp (aq args) M):aa Try.prog 123 args M K Kp:=
 aJ.intro (x:=Rp B W) ae mixed Try.func123 (rfl:Try.f123.body=some A4) (by kernel_rfl) KM rfl rfl rfl hle h
end Go.Proofs.Ytibadaomjlkoaaa
