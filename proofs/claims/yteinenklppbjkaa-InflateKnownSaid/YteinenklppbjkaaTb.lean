/- The table of this program's types, the plans of its drawn regions, and where each function's walk begins. -/
import Derived.Test.YteinenklppbjkaaAb23
import Derived.Test.YteinenklppbjkaaProg
import Derived.KernelRfl
set_option linter.unusedVariables false
namespace Go.Proofs.Yteinenklppbjkaa

noncomputable def tb : List TI := [
⟨.other, 1, 0, [.raw (.tuple #[])]⟩,
⟨.func, 1, 8, [.nf]⟩,
⟨(.int .i64), 1, 8, [.int .i64 0]⟩,
⟨(.int .i64), 1, 8, [.int .i64 0]⟩,
⟨.bool, 1, 1, [.ff]⟩,
⟨(.int .u8), 1, 1, [.int .u8 0]⟩,
⟨(.int .u8), 1, 1, [.int .u8 0]⟩,
⟨(.struct [(0, 2), (1, 3), (2, 4), (3, 6)]), 4, 24, [.int .i64 0, .int .i64 0, .ff, .int .u8 0]⟩,
⟨(.struct [(0, 2), (1, 3), (2, 4), (3, 6)]), 4, 24, [.int .i64 0, .int .i64 0, .ff, .int .u8 0]⟩,
⟨.str, 1, 16, [.str ByteArray.empty]⟩,
⟨.str, 1, 16, [.str ByteArray.empty]⟩,
⟨.str, 1, 16, [.str ByteArray.empty]⟩,
⟨(.int .u64), 1, 8, [.int .u64 0]⟩,
⟨(.struct [(0, 9), (1, 12)]), 2, 24, [.str ByteArray.empty, .int .u64 0]⟩,
⟨(.struct [(0, 9), (1, 12)]), 2, 24, [.str ByteArray.empty, .int .u64 0]⟩,
⟨(.ptr 143), 1, 8, [.np]⟩,
⟨(.ptr 146), 1, 8, [.np]⟩,
⟨(.ptr 154), 1, 8, [.np]⟩,
⟨(.struct [(0, 17)]), 1, 8, [.np]⟩,
⟨(.struct [(0, 17)]), 1, 8, [.np]⟩,
⟨.iface, 1, 16, [.ni]⟩,
⟨(.int .i32), 1, 4, [.int .i32 0]⟩,
⟨(.slice 5), 1, 24, [.ns]⟩,
⟨(.int .i64), 1, 8, [.int .i64 0]⟩,
⟨.other, 1, 0, [.raw (.tuple #[.slice none 0 0, .int .i64 0, .int .i64 0])]⟩,
⟨.func, 1, 8, [.nf]⟩,
⟨.func, 1, 8, [.nf]⟩,
⟨.func, 1, 8, [.nf]⟩,
⟨(.int .u64), 1, 8, [.int .u64 0]⟩,
⟨.func, 1, 8, [.nf]⟩,
⟨(.struct [(0, 22), (1, 9), (2, 3), (3, 23)]), 4, 56, [.ns, .str ByteArray.empty, .int .i64 0, .int .i64 0]⟩,
⟨(.struct [(0, 22), (1, 9), (2, 3), (3, 23)]), 4, 56, [.ns, .str ByteArray.empty, .int .i64 0, .int .i64 0]⟩,
⟨(.slice 31), 1, 24, [.ns]⟩,
⟨(.slice 39), 1, 24, [.ns]⟩,
⟨(.int .u32), 1, 4, [.int .u32 0]⟩,
⟨(.struct [(0, 22), (1, 34), (2, 3)]), 3, 40, [.ns, .int .u32 0, .int .i64 0]⟩,
⟨(.struct [(0, 22), (1, 34), (2, 3)]), 3, 40, [.ns, .int .u32 0, .int .i64 0]⟩,
⟨(.slice 64), 1, 24, [.ns]⟩,
⟨(.struct [(0, 5), (1, 37)]), 2, 32, [.int .u8 0, .ns]⟩,
⟨(.struct [(0, 5), (1, 37)]), 2, 32, [.int .u8 0, .ns]⟩,
⟨.other, 1, 0, [.raw (.tuple #[.slice none 0 0, .int .i64 0])]⟩,
⟨.func, 1, 8, [.nf]⟩,
⟨.func, 1, 8, [.nf]⟩,
⟨(.ptr 36), 1, 8, [.np]⟩,
⟨.func, 1, 8, [.nf]⟩,
⟨.func, 1, 8, [.nf]⟩,
⟨(.struct [(0, 23)]), 1, 8, [.int .i64 0]⟩,
⟨(.struct [(0, 23)]), 1, 8, [.int .i64 0]⟩,
⟨.other, 1, 0, [.raw (.tuple #[.agg #[.int .i64 0], .bool false])]⟩,
⟨(.ptr 53), 1, 8, [.np]⟩,
⟨(.ptr 77), 1, 8, [.np]⟩,
⟨.func, 1, 8, [.nf]⟩,
⟨(.struct [(0, 50), (1, 22), (2, 3)]), 3, 40, [.np, .ns, .int .i64 0]⟩,
⟨(.struct [(0, 50), (1, 22), (2, 3)]), 3, 40, [.np, .ns, .int .i64 0]⟩,
⟨.func, 1, 8, [.nf]⟩,
⟨(.arr 4 54), 4, 32, [.nf, .nf, .nf, .nf]⟩,
⟨.func, 1, 8, [.nf]⟩,
⟨.func, 1, 8, [.nf]⟩,
⟨(.slice 3), 1, 24, [.ns]⟩,
⟨(.struct [(0, 58), (1, 58), (2, 23)]), 3, 56, [.ns, .ns, .int .i64 0]⟩,
⟨(.struct [(0, 58), (1, 58), (2, 23)]), 3, 56, [.ns, .ns, .int .i64 0]⟩,
⟨(.slice 60), 1, 24, [.ns]⟩,
⟨.func, 1, 8, [.nf]⟩,
⟨(.struct [(0, 5), (1, 3), (2, 3)]), 3, 24, [.int .u8 0, .int .i64 0, .int .i64 0]⟩,
⟨(.struct [(0, 5), (1, 3), (2, 3)]), 3, 24, [.int .u8 0, .int .i64 0, .int .i64 0]⟩,
⟨.func, 1, 8, [.nf]⟩,
⟨.other, 1, 0, [.raw (.tuple #[.slice none 0 0, .slice none 0 0])]⟩,
⟨.func, 1, 8, [.nf]⟩,
⟨.func, 1, 8, [.nf]⟩,
⟨(.slice 94), 1, 24, [.ns]⟩,
⟨.other, 1, 0, [.raw (.tuple #[.slice none 0 0, .int .i64 0])]⟩,
⟨.func, 1, 8, [.nf]⟩,
⟨.func, 1, 8, [.nf]⟩,
⟨.other, 1, 0, [.raw (.tuple #[.int .i64 0, .int .i64 0, .int .i64 0])]⟩,
⟨.func, 1, 8, [.nf]⟩,
⟨.func, 1, 8, [.nf]⟩,
⟨(.struct [(0, 22), (1, 3)]), 2, 32, [.ns, .int .i64 0]⟩,
⟨(.struct [(0, 22), (1, 3)]), 2, 32, [.ns, .int .i64 0]⟩,
⟨.func, 1, 8, [.nf]⟩,
⟨.func, 1, 8, [.nf]⟩,
⟨(.arr 2 3), 2, 16, [.int .i64 0, .int .i64 0]⟩,
⟨(.slice 80), 1, 24, [.ns]⟩,
⟨.func, 1, 8, [.nf]⟩,
⟨.func, 1, 8, [.nf]⟩,
⟨(.ptr 127), 1, 8, [.np]⟩,
⟨.func, 1, 8, [.nf]⟩,
⟨.func, 1, 8, [.nf]⟩,
⟨.other, 1, 0, [.raw (.tuple #[.int .u32 0, .int .i64 0])]⟩,
⟨.func, 1, 8, [.nf]⟩,
⟨.func, 1, 8, [.nf]⟩,
⟨.func, 1, 8, [.nf]⟩,
⟨.func, 1, 8, [.nf]⟩,
⟨.func, 1, 8, [.nf]⟩,
⟨.func, 1, 8, [.nf]⟩,
⟨(.int .u16), 1, 2, [.int .u16 0]⟩,
⟨.func, 1, 8, [.nf]⟩,
⟨.func, 1, 8, [.nf]⟩,
⟨.other, 1, 0, [.raw (.tuple #[.int .i64 0, .int .i64 0])]⟩,
⟨.func, 1, 8, [.nf]⟩,
⟨.other, 1, 0, [.raw (.tuple #[.int .u64 0, .int .u64 0])]⟩,
⟨.func, 1, 8, [.nf]⟩,
⟨.func, 1, 8, [.nf]⟩,
⟨.func, 1, 8, [.nf]⟩,
⟨.other, 1, 0, [.raw (.tuple #[.pointer none, .int .i64 0])]⟩,
⟨.func, 1, 8, [.nf]⟩,
⟨(.arr 3 80), 6, 48, [.int .i64 0, .int .i64 0, .int .i64 0, .int .i64 0, .int .i64 0, .int .i64 0]⟩,
⟨.func, 1, 8, [.nf]⟩,
⟨.func, 1, 8, [.nf]⟩,
⟨(.slice 110), 1, 24, [.ns]⟩,
⟨(.struct [(0, 3), (1, 3), (2, 58)]), 3, 40, [.int .i64 0, .int .i64 0, .ns]⟩,
⟨(.struct [(0, 3), (1, 3), (2, 58)]), 3, 40, [.int .i64 0, .int .i64 0, .ns]⟩,
⟨.func, 1, 8, [.nf]⟩,
⟨(.slice 110), 1, 24, [.ns]⟩,
⟨.func, 1, 8, [.nf]⟩,
⟨(.ptr 112), 1, 8, [.np]⟩,
⟨.func, 1, 8, [.nf]⟩,
⟨.func, 1, 8, [.nf]⟩,
⟨.func, 1, 8, [.nf]⟩,
⟨.other, 1, 0, [.raw (.tuple #[.int .u32 0, .int .u32 0])]⟩,
⟨.func, 1, 8, [.nf]⟩,
⟨(.int .u64), 1, 8, [.int .u64 0]⟩,
⟨.other, 1, 0, [.raw (.tuple #[.int .u64 0, .int .u64 0])]⟩,
⟨.func, 1, 8, [.nf]⟩,
⟨.other, 1, 0, [.raw (.tuple #[.int .i64 0, .int .i64 0])]⟩,
⟨.func, 1, 8, [.nf]⟩,
⟨(.map 129 3), 1, 8, [.nm]⟩,
⟨(.struct [(0, 125)]), 1, 8, [.nm]⟩,
⟨(.struct [(0, 125)]), 1, 8, [.nm]⟩,
⟨(.struct [(0, 3), (1, 3)]), 2, 16, [.int .i64 0, .int .i64 0]⟩,
⟨(.struct [(0, 3), (1, 3)]), 2, 16, [.int .i64 0, .int .i64 0]⟩,
⟨.func, 1, 8, [.nf]⟩,
⟨.func, 1, 8, [.nf]⟩,
⟨.iface, 1, 16, [.ni]⟩,
⟨.iface, 1, 16, [.ni]⟩,
⟨.func, 1, 8, [.nf]⟩,
⟨.func, 1, 8, [.nf]⟩,
⟨.func, 1, 8, [.nf]⟩,
⟨.other, 1, 0, [.raw (.tuple #[.int .i64 0, .bool false])]⟩,
⟨.func, 1, 8, [.nf]⟩,
⟨.func, 1, 8, [.nf]⟩,
⟨.func, 1, 8, [.nf]⟩,
⟨.func, 1, 8, [.nf]⟩,
⟨(.struct [(0, 17), (1, 17), (2, 17), (3, 9)]), 4, 40, [.np, .np, .np, .str ByteArray.empty]⟩,
⟨(.struct [(0, 17), (1, 17), (2, 17), (3, 9)]), 4, 40, [.np, .np, .np, .str ByteArray.empty]⟩,
⟨(.arr 0 16), 0, 0, []⟩,
⟨(.struct [(0, 144)]), 0, 0, []⟩,
⟨(.struct [(0, 144)]), 0, 0, []⟩,
⟨(.int .u8), 1, 1, [.int .u8 0]⟩,
⟨(.int .u8), 1, 1, [.int .u8 0]⟩,
⟨.func, 1, 8, [.nf]⟩,
⟨(.ptr 5), 1, 8, [.np]⟩,
⟨(.int .i32), 1, 4, [.int .i32 0]⟩,
⟨(.int .i32), 1, 4, [.int .i32 0]⟩,
⟨(.struct [(0, 12), (1, 12), (2, 34), (3, 147), (4, 5), (5, 5), (6, 148), (7, 149), (8, 150), (9, 151), (10, 152)]), 11, 48, [.int .u64 0, .int .u64 0, .int .u32 0, .int .u8 0, .int .u8 0, .int .u8 0, .int .u8 0, .nf, .np, .int .i32 0, .int .i32 0]⟩,
⟨(.struct [(0, 12), (1, 12), (2, 34), (3, 147), (4, 5), (5, 5), (6, 148), (7, 149), (8, 150), (9, 151), (10, 152)]), 11, 48, [.int .u64 0, .int .u64 0, .int .u32 0, .int .u8 0, .int .u8 0, .int .u8 0, .int .u8 0, .nf, .np, .int .i32 0, .int .i32 0]⟩,
⟨.func, 1, 8, [.nf]⟩,
⟨.other, 1, 8, [.np]⟩]
theorem tb_ok : TabOK Try.prog tb := TabOK.mk' (by kernel_rfl)
theorem mixed : Try.prog.follows .mixedOrders = true := by kernel_rfl

noncomputable def cx2 (B : Nat → List Nat) (W : List Nat) : Cx := { P := Try.prog, T := tb, n := 1, W := W, B := B }
noncomputable abbrev body2 : Code := match Try.f2.body with | some c => c | none => .skip
theorem plans2 : plansB (fun _ => none) body2 = true := by kernel_rfl
/-- gosem.cut.init -/
theorem walk2 (B : Nat → List Nat) (W : List Nat)  {args : List AV} {M : AH} {K Kp : AV → AH → Prop} (hle : Nat.ble args.length 1 = true)
    (h : codeA (cx2 B W) body2 (postA tb Try.f2.results.toList K) Kp (initA args) M) : CallA Try.prog 2 args M K Kp :=
  CallA.intro (x := cx2 B W) tb_ok mixed Try.func2 (rfl : Try.f2.body = some body2) (by kernel_rfl) plans2 rfl rfl rfl hle h
theorem step2 (B : Nat → List Nat) (W : List Nat)  {args : List AV} {M : AH} {K Kp : AV → AH → Prop} (hle : Nat.ble args.length 1 = true)
    (h : codeO (cx2 B W) body2 (postA tb Try.f2.results.toList K) Kp (initA args) M) : CallA Try.prog 2 args M K Kp :=
  CallO.intro (x := cx2 B W) tb_ok mixed Try.func2 (rfl : Try.f2.body = some body2) (by kernel_rfl) plans2 rfl rfl rfl hle h

noncomputable def cx3 (B : Nat → List Nat) (W : List Nat) : Cx := { P := Try.prog, T := tb, n := 153, W := W, B := B }
noncomputable abbrev body3 : Code := match Try.f3.body with | some c => c | none => .skip
theorem plans3 : plansB (fun _ => none) body3 = true := by kernel_rfl
/-- vignette/vignettelaw08.InflateEnds -/
theorem walk3 (B : Nat → List Nat) (W : List Nat)  {args : List AV} {M : AH} {K Kp : AV → AH → Prop} (hle : Nat.ble args.length 153 = true)
    (h : codeA (cx3 B W) body3 (postA tb Try.f3.results.toList K) Kp (initA args) M) : CallA Try.prog 3 args M K Kp :=
  CallA.intro (x := cx3 B W) tb_ok mixed Try.func3 (rfl : Try.f3.body = some body3) (by kernel_rfl) plans3 rfl rfl rfl hle h
theorem step3 (B : Nat → List Nat) (W : List Nat)  {args : List AV} {M : AH} {K Kp : AV → AH → Prop} (hle : Nat.ble args.length 153 = true)
    (h : codeO (cx3 B W) body3 (postA tb Try.f3.results.toList K) Kp (initA args) M) : CallA Try.prog 3 args M K Kp :=
  CallO.intro (x := cx3 B W) tb_ok mixed Try.func3 (rfl : Try.f3.body = some body3) (by kernel_rfl) plans3 rfl rfl rfl hle h

noncomputable def cx4 (B : Nat → List Nat) (W : List Nat) : Cx := { P := Try.prog, T := tb, n := 79, W := W, B := B }
noncomputable abbrev body4 : Code := match Try.f4.body with | some c => c | none => .skip
theorem plans4 : plansB (fun _ => none) body4 = true := by kernel_rfl
/-- vignette/vignettelaw08.InflateAhead -/
theorem walk4 (B : Nat → List Nat) (W : List Nat)  {args : List AV} {M : AH} {K Kp : AV → AH → Prop} (hle : Nat.ble args.length 79 = true)
    (h : codeA (cx4 B W) body4 (postA tb Try.f4.results.toList K) Kp (initA args) M) : CallA Try.prog 4 args M K Kp :=
  CallA.intro (x := cx4 B W) tb_ok mixed Try.func4 (rfl : Try.f4.body = some body4) (by kernel_rfl) plans4 rfl rfl rfl hle h
theorem step4 (B : Nat → List Nat) (W : List Nat)  {args : List AV} {M : AH} {K Kp : AV → AH → Prop} (hle : Nat.ble args.length 79 = true)
    (h : codeO (cx4 B W) body4 (postA tb Try.f4.results.toList K) Kp (initA args) M) : CallA Try.prog 4 args M K Kp :=
  CallO.intro (x := cx4 B W) tb_ok mixed Try.func4 (rfl : Try.f4.body = some body4) (by kernel_rfl) plans4 rfl rfl rfl hle h

noncomputable def pl5 : Nat → Option (List (Nat × Nat) × List Nat) := fun id => match id with
  | 6 => some ([(0, 0), (2, 0), (3, 0), (4, 0), (5, 0), (1, 1), (6, 1), (7, 0), (8, 0), (9, 0), (10, 0), (11, 0), (12, 0), (13, 0), (14, 1), (15, 0), (16, 0), (17, 0), (18, 0), (19, 0), (20, 0), (21, 0), (22, 0), (23, 1), (24, 0), (25, 0)], [])
  | _ => none
noncomputable def cx5 (B : Nat → List Nat) (W : List Nat) : Cx := { P := Try.prog, T := tb, n := 137, W := W, B := B, pl := pl5 }
noncomputable abbrev body5 : Code := match Try.f5.body with | some c => c | none => .skip
theorem plans5 : plansB pl5 body5 = true := by kernel_rfl
/-- vignette/vignettelaw08.InflateKnown -/
theorem walk5 (B : Nat → List Nat) (W : List Nat)  {args : List AV} {M : AH} {K Kp : AV → AH → Prop} (hle : Nat.ble args.length 137 = true)
    (h : codeA (cx5 B W) body5 (postA tb Try.f5.results.toList K) Kp (initA args) M) : CallA Try.prog 5 args M K Kp :=
  CallA.intro (x := cx5 B W) tb_ok mixed Try.func5 (rfl : Try.f5.body = some body5) (by kernel_rfl) plans5 rfl rfl rfl hle h
theorem step5 (B : Nat → List Nat) (W : List Nat)  {args : List AV} {M : AH} {K Kp : AV → AH → Prop} (hle : Nat.ble args.length 137 = true)
    (h : codeO (cx5 B W) body5 (postA tb Try.f5.results.toList K) Kp (initA args) M) : CallA Try.prog 5 args M K Kp :=
  CallO.intro (x := cx5 B W) tb_ok mixed Try.func5 (rfl : Try.f5.body = some body5) (by kernel_rfl) plans5 rfl rfl rfl hle h

noncomputable def pl6 : Nat → Option (List (Nat × Nat) × List Nat) := fun id => match id with
  | 17 => some ([(0, 0), (1, 0), (2, 0), (4, 0), (5, 0), (6, 0), (7, 0), (8, 0), (9, 0), (10, 0), (11, 0), (3, 1), (12, 3)], [12])
  | _ => none
noncomputable def cx6 (B : Nat → List Nat) (W : List Nat) : Cx := { P := Try.prog, T := tb, n := 136, W := W, B := B, pl := pl6 }
noncomputable abbrev body6 : Code := match Try.f6.body with | some c => c | none => .skip
theorem plans6 : plansB pl6 body6 = true := by kernel_rfl
/-- vignette/vignettelaw08.InflateLaid -/
theorem walk6 (B : Nat → List Nat) (W : List Nat)  {args : List AV} {M : AH} {K Kp : AV → AH → Prop} (hle : Nat.ble args.length 136 = true)
    (h : codeA (cx6 B W) body6 (postA tb Try.f6.results.toList K) Kp (initA args) M) : CallA Try.prog 6 args M K Kp :=
  CallA.intro (x := cx6 B W) tb_ok mixed Try.func6 (rfl : Try.f6.body = some body6) (by kernel_rfl) plans6 rfl rfl rfl hle h
theorem step6 (B : Nat → List Nat) (W : List Nat)  {args : List AV} {M : AH} {K Kp : AV → AH → Prop} (hle : Nat.ble args.length 136 = true)
    (h : codeO (cx6 B W) body6 (postA tb Try.f6.results.toList K) Kp (initA args) M) : CallA Try.prog 6 args M K Kp :=
  CallO.intro (x := cx6 B W) tb_ok mixed Try.func6 (rfl : Try.f6.body = some body6) (by kernel_rfl) plans6 rfl rfl rfl hle h

noncomputable def pl7 : Nat → Option (List (Nat × Nat) × List Nat) := fun id => match id with
  | 10 => some ([(0, 0), (1, 0), (2, 0), (4, 0), (5, 0), (6, 0), (3, 1), (7, 1), (8, 2), (9, 0), (10, 0), (11, 3), (12, 3), (13, 3)], [11, 12, 13])
  | _ => none
noncomputable def cx7 (B : Nat → List Nat) (W : List Nat) : Cx := { P := Try.prog, T := tb, n := 44, W := W, B := B, pl := pl7 }
noncomputable abbrev body7 : Code := match Try.f7.body with | some c => c | none => .skip
theorem plans7 : plansB pl7 body7 = true := by kernel_rfl
/-- vignette/inflate.Inflate -/
theorem walk7 (B : Nat → List Nat) (W : List Nat)  {args : List AV} {M : AH} {K Kp : AV → AH → Prop} (hle : Nat.ble args.length 44 = true)
    (h : codeA (cx7 B W) body7 (postA tb Try.f7.results.toList K) Kp (initA args) M) : CallA Try.prog 7 args M K Kp :=
  CallA.intro (x := cx7 B W) tb_ok mixed Try.func7 (rfl : Try.f7.body = some body7) (by kernel_rfl) plans7 rfl rfl rfl hle h
theorem step7 (B : Nat → List Nat) (W : List Nat)  {args : List AV} {M : AH} {K Kp : AV → AH → Prop} (hle : Nat.ble args.length 44 = true)
    (h : codeO (cx7 B W) body7 (postA tb Try.f7.results.toList K) Kp (initA args) M) : CallA Try.prog 7 args M K Kp :=
  CallO.intro (x := cx7 B W) tb_ok mixed Try.func7 (rfl : Try.f7.body = some body7) (by kernel_rfl) plans7 rfl rfl rfl hle h

noncomputable def cx8 (B : Nat → List Nat) (W : List Nat) : Cx := { P := Try.prog, T := tb, n := 21, W := W, B := B }
noncomputable abbrev body8 : Code := match Try.f8.body with | some c => c | none => .skip
theorem plans8 : plansB (fun _ => none) body8 = true := by kernel_rfl
/-- vignette/vignettelaw08.reads -/
theorem walk8 (B : Nat → List Nat) (W : List Nat)  {args : List AV} {M : AH} {K Kp : AV → AH → Prop} (hle : Nat.ble args.length 21 = true)
    (h : codeA (cx8 B W) body8 (postA tb Try.f8.results.toList K) Kp (initA args) M) : CallA Try.prog 8 args M K Kp :=
  CallA.intro (x := cx8 B W) tb_ok mixed Try.func8 (rfl : Try.f8.body = some body8) (by kernel_rfl) plans8 rfl rfl rfl hle h
theorem step8 (B : Nat → List Nat) (W : List Nat)  {args : List AV} {M : AH} {K Kp : AV → AH → Prop} (hle : Nat.ble args.length 21 = true)
    (h : codeO (cx8 B W) body8 (postA tb Try.f8.results.toList K) Kp (initA args) M) : CallA Try.prog 8 args M K Kp :=
  CallO.intro (x := cx8 B W) tb_ok mixed Try.func8 (rfl : Try.f8.body = some body8) (by kernel_rfl) plans8 rfl rfl rfl hle h

noncomputable def pl9 : Nat → Option (List (Nat × Nat) × List Nat) := fun id => match id with
  | 9 => some ([(0, 0), (1, 0), (2, 0), (3, 0), (5, 0), (9, 0), (10, 0), (11, 0), (12, 0), (14, 0), (4, 1), (6, 0), (7, 1), (8, 0), (13, 1), (15, 0), (16, 1), (17, 3), (18, 0)], [17])
  | _ => none
noncomputable def cx9 (B : Nat → List Nat) (W : List Nat) : Cx := { P := Try.prog, T := tb, n := 96, W := W, B := B, pl := pl9 }
noncomputable abbrev body9 : Code := match Try.f9.body with | some c => c | none => .skip
theorem plans9 : plansB pl9 body9 = true := by kernel_rfl
/-- vignette/vignettelaw08.wrong -/
theorem walk9 (B : Nat → List Nat) (W : List Nat)  {args : List AV} {M : AH} {K Kp : AV → AH → Prop} (hle : Nat.ble args.length 96 = true)
    (h : codeA (cx9 B W) body9 (postA tb Try.f9.results.toList K) Kp (initA args) M) : CallA Try.prog 9 args M K Kp :=
  CallA.intro (x := cx9 B W) tb_ok mixed Try.func9 (rfl : Try.f9.body = some body9) (by kernel_rfl) plans9 rfl rfl rfl hle h
theorem step9 (B : Nat → List Nat) (W : List Nat)  {args : List AV} {M : AH} {K Kp : AV → AH → Prop} (hle : Nat.ble args.length 96 = true)
    (h : codeO (cx9 B W) body9 (postA tb Try.f9.results.toList K) Kp (initA args) M) : CallA Try.prog 9 args M K Kp :=
  CallO.intro (x := cx9 B W) tb_ok mixed Try.func9 (rfl : Try.f9.body = some body9) (by kernel_rfl) plans9 rfl rfl rfl hle h

noncomputable def cx10 (B : Nat → List Nat) (W : List Nat) : Cx := { P := Try.prog, T := tb, n := 75, W := W, B := B }
noncomputable abbrev body10 : Code := match Try.f10.body with | some c => c | none => .skip
theorem plans10 : plansB (fun _ => none) body10 = true := by kernel_rfl
/-- vignette/lz.Expand -/
theorem walk10 (B : Nat → List Nat) (W : List Nat)  {args : List AV} {M : AH} {K Kp : AV → AH → Prop} (hle : Nat.ble args.length 75 = true)
    (h : codeA (cx10 B W) body10 (postA tb Try.f10.results.toList K) Kp (initA args) M) : CallA Try.prog 10 args M K Kp :=
  CallA.intro (x := cx10 B W) tb_ok mixed Try.func10 (rfl : Try.f10.body = some body10) (by kernel_rfl) plans10 rfl rfl rfl hle h
theorem step10 (B : Nat → List Nat) (W : List Nat)  {args : List AV} {M : AH} {K Kp : AV → AH → Prop} (hle : Nat.ble args.length 75 = true)
    (h : codeO (cx10 B W) body10 (postA tb Try.f10.results.toList K) Kp (initA args) M) : CallA Try.prog 10 args M K Kp :=
  CallO.intro (x := cx10 B W) tb_ok mixed Try.func10 (rfl : Try.f10.body = some body10) (by kernel_rfl) plans10 rfl rfl rfl hle h

noncomputable def pl11 : Nat → Option (List (Nat × Nat) × List Nat) := fun id => match id with
  | 36 => some ([(0, 0), (1, 0), (2, 0), (3, 0), (4, 0), (8, 0), (9, 0), (10, 0), (11, 0), (5, 1), (6, 0), (12, 1), (13, 0), (14, 1), (15, 0), (7, 2), (16, 3)], [16])
  | 44 => some ([(0, 0), (1, 0), (2, 0), (6, 0), (7, 0), (3, 1), (4, 0), (8, 1), (9, 0), (10, 1), (11, 0), (5, 2), (12, 3)], [12])
  | 46 => some ([(0, 0), (1, 0), (2, 0), (4, 0), (5, 0), (6, 0), (7, 1), (8, 0), (3, 2), (9, 3)], [9])
  | 49 => some ([(0, 0), (1, 0), (2, 0), (4, 0), (5, 0), (6, 0), (7, 1), (8, 0), (3, 2), (9, 3)], [9])
  | 51 => some ([(0, 0), (1, 0), (3, 0), (4, 0), (5, 1), (6, 0), (2, 2), (7, 3)], [7])
  | _ => none
noncomputable def cx11 (B : Nat → List Nat) (W : List Nat) : Cx := { P := Try.prog, T := tb, n := 233, W := W, B := B, pl := pl11 }
noncomputable abbrev body11 : Code := match Try.f11.body with | some c => c | none => .skip
theorem plans11 : plansB pl11 body11 = true := by kernel_rfl
/-- vignette/vignettelaw08.lay -/
theorem walk11 (B : Nat → List Nat) (W : List Nat)  {args : List AV} {M : AH} {K Kp : AV → AH → Prop} (hle : Nat.ble args.length 233 = true)
    (h : codeA (cx11 B W) body11 (postA tb Try.f11.results.toList K) Kp (initA args) M) : CallA Try.prog 11 args M K Kp :=
  CallA.intro (x := cx11 B W) tb_ok mixed Try.func11 (rfl : Try.f11.body = some body11) (by kernel_rfl) plans11 rfl rfl rfl hle h
theorem step11 (B : Nat → List Nat) (W : List Nat)  {args : List AV} {M : AH} {K Kp : AV → AH → Prop} (hle : Nat.ble args.length 233 = true)
    (h : codeO (cx11 B W) body11 (postA tb Try.f11.results.toList K) Kp (initA args) M) : CallA Try.prog 11 args M K Kp :=
  CallO.intro (x := cx11 B W) tb_ok mixed Try.func11 (rfl : Try.f11.body = some body11) (by kernel_rfl) plans11 rfl rfl rfl hle h

noncomputable def cx12 (B : Nat → List Nat) (W : List Nat) : Cx := { P := Try.prog, T := tb, n := 25, W := W, B := B }
noncomputable abbrev body12 : Code := match Try.f12.body with | some c => c | none => .skip
theorem plans12 : plansB (fun _ => none) body12 = true := by kernel_rfl
/-- (*vignette/bits.Writer).Bytes -/
theorem walk12 (B : Nat → List Nat) (W : List Nat)  {args : List AV} {M : AH} {K Kp : AV → AH → Prop} (hle : Nat.ble args.length 25 = true)
    (h : codeA (cx12 B W) body12 (postA tb Try.f12.results.toList K) Kp (initA args) M) : CallA Try.prog 12 args M K Kp :=
  CallA.intro (x := cx12 B W) tb_ok mixed Try.func12 (rfl : Try.f12.body = some body12) (by kernel_rfl) plans12 rfl rfl rfl hle h
theorem step12 (B : Nat → List Nat) (W : List Nat)  {args : List AV} {M : AH} {K Kp : AV → AH → Prop} (hle : Nat.ble args.length 25 = true)
    (h : codeO (cx12 B W) body12 (postA tb Try.f12.results.toList K) Kp (initA args) M) : CallA Try.prog 12 args M K Kp :=
  CallO.intro (x := cx12 B W) tb_ok mixed Try.func12 (rfl : Try.f12.body = some body12) (by kernel_rfl) plans12 rfl rfl rfl hle h

noncomputable def pl13 : Nat → Option (List (Nat × Nat) × List Nat) := fun id => match id with
  | 2 => some ([(0, 0), (1, 1), (2, 2), (3, 2), (4, 3)], [4])
  | _ => none
noncomputable def cx13 (B : Nat → List Nat) (W : List Nat) : Cx := { P := Try.prog, T := tb, n := 13, W := W, B := B, pl := pl13 }
noncomputable abbrev body13 : Code := match Try.f13.body with | some c => c | none => .skip
theorem plans13 : plansB pl13 body13 = true := by kernel_rfl
/-- vignette/inflate.Inflate$1 -/
theorem walk13 (B : Nat → List Nat) (W : List Nat)  {args : List AV} {M : AH} {K Kp : AV → AH → Prop} (hle : Nat.ble args.length 13 = true)
    (h : codeA (cx13 B W) body13 (postA tb Try.f13.results.toList K) Kp (initA args) M) : CallA Try.prog 13 args M K Kp :=
  CallA.intro (x := cx13 B W) tb_ok mixed Try.func13 (rfl : Try.f13.body = some body13) (by kernel_rfl) plans13 rfl rfl rfl hle h
theorem step13 (B : Nat → List Nat) (W : List Nat)  {args : List AV} {M : AH} {K Kp : AV → AH → Prop} (hle : Nat.ble args.length 13 = true)
    (h : codeO (cx13 B W) body13 (postA tb Try.f13.results.toList K) Kp (initA args) M) : CallA Try.prog 13 args M K Kp :=
  CallO.intro (x := cx13 B W) tb_ok mixed Try.func13 (rfl : Try.f13.body = some body13) (by kernel_rfl) plans13 rfl rfl rfl hle h

noncomputable def cx14 (B : Nat → List Nat) (W : List Nat) : Cx := { P := Try.prog, T := tb, n := 7, W := W, B := B }
noncomputable abbrev body14 : Code := match Try.f14.body with | some c => c | none => .skip
theorem plans14 : plansB (fun _ => none) body14 = true := by kernel_rfl
/-- vignette/bits.New -/
theorem walk14 (B : Nat → List Nat) (W : List Nat)  {args : List AV} {M : AH} {K Kp : AV → AH → Prop} (hle : Nat.ble args.length 7 = true)
    (h : codeA (cx14 B W) body14 (postA tb Try.f14.results.toList K) Kp (initA args) M) : CallA Try.prog 14 args M K Kp :=
  CallA.intro (x := cx14 B W) tb_ok mixed Try.func14 (rfl : Try.f14.body = some body14) (by kernel_rfl) plans14 rfl rfl rfl hle h
theorem step14 (B : Nat → List Nat) (W : List Nat)  {args : List AV} {M : AH} {K Kp : AV → AH → Prop} (hle : Nat.ble args.length 7 = true)
    (h : codeO (cx14 B W) body14 (postA tb Try.f14.results.toList K) Kp (initA args) M) : CallA Try.prog 14 args M K Kp :=
  CallO.intro (x := cx14 B W) tb_ok mixed Try.func14 (rfl : Try.f14.body = some body14) (by kernel_rfl) plans14 rfl rfl rfl hle h

noncomputable def pl15 : Nat → Option (List (Nat × Nat) × List Nat) := fun id => match id with
  | 4 => some ([(0, 0), (1, 0), (2, 0), (3, 0), (5, 0), (6, 0), (7, 0), (4, 1), (8, 1), (9, 0), (10, 0), (11, 0), (12, 0)], [])
  | _ => none
noncomputable def cx15 (B : Nat → List Nat) (W : List Nat) : Cx := { P := Try.prog, T := tb, n := 42, W := W, B := B, pl := pl15 }
noncomputable abbrev body15 : Code := match Try.f15.body with | some c => c | none => .skip
theorem plans15 : plansB pl15 body15 = true := by kernel_rfl
/-- (*vignette/inflate.reader).stored -/
theorem walk15 (B : Nat → List Nat) (W : List Nat)  {args : List AV} {M : AH} {K Kp : AV → AH → Prop} (hle : Nat.ble args.length 42 = true)
    (h : codeA (cx15 B W) body15 (postA tb Try.f15.results.toList K) Kp (initA args) M) : CallA Try.prog 15 args M K Kp :=
  CallA.intro (x := cx15 B W) tb_ok mixed Try.func15 (rfl : Try.f15.body = some body15) (by kernel_rfl) plans15 rfl rfl rfl hle h
theorem step15 (B : Nat → List Nat) (W : List Nat)  {args : List AV} {M : AH} {K Kp : AV → AH → Prop} (hle : Nat.ble args.length 42 = true)
    (h : codeO (cx15 B W) body15 (postA tb Try.f15.results.toList K) Kp (initA args) M) : CallA Try.prog 15 args M K Kp :=
  CallO.intro (x := cx15 B W) tb_ok mixed Try.func15 (rfl : Try.f15.body = some body15) (by kernel_rfl) plans15 rfl rfl rfl hle h

noncomputable def cx16 (B : Nat → List Nat) (W : List Nat) : Cx := { P := Try.prog, T := tb, n := 32, W := W, B := B }
noncomputable abbrev body16 : Code := match Try.f16.body with | some c => c | none => .skip
theorem plans16 : plansB (fun _ => none) body16 = true := by kernel_rfl
/-- (*vignette/inflate.reader).fixed -/
theorem walk16 (B : Nat → List Nat) (W : List Nat)  {args : List AV} {M : AH} {K Kp : AV → AH → Prop} (hle : Nat.ble args.length 32 = true)
    (h : codeA (cx16 B W) body16 (postA tb Try.f16.results.toList K) Kp (initA args) M) : CallA Try.prog 16 args M K Kp :=
  CallA.intro (x := cx16 B W) tb_ok mixed Try.func16 (rfl : Try.f16.body = some body16) (by kernel_rfl) plans16 rfl rfl rfl hle h
theorem step16 (B : Nat → List Nat) (W : List Nat)  {args : List AV} {M : AH} {K Kp : AV → AH → Prop} (hle : Nat.ble args.length 32 = true)
    (h : codeO (cx16 B W) body16 (postA tb Try.f16.results.toList K) Kp (initA args) M) : CallA Try.prog 16 args M K Kp :=
  CallO.intro (x := cx16 B W) tb_ok mixed Try.func16 (rfl : Try.f16.body = some body16) (by kernel_rfl) plans16 rfl rfl rfl hle h

noncomputable def pl17 : Nat → Option (List (Nat × Nat) × List Nat) := fun id => match id with
  | 7 => some ([(0, 0), (1, 0), (2, 0), (3, 0), (4, 3), (5, 0), (6, 0), (7, 3)], [4, 7])
  | 12 => some ([(0, 0), (1, 0), (2, 0), (3, 0), (5, 0), (6, 0), (7, 0), (4, 3), (8, 3), (9, 3)], [4, 8, 9])
  | _ => none
noncomputable def cx17 (B : Nat → List Nat) (W : List Nat) : Cx := { P := Try.prog, T := tb, n := 59, W := W, B := B, pl := pl17 }
noncomputable abbrev body17 : Code := match Try.f17.body with | some c => c | none => .skip
theorem plans17 : plansB pl17 body17 = true := by kernel_rfl
/-- (*vignette/inflate.reader).dynamic -/
theorem walk17 (B : Nat → List Nat) (W : List Nat)  {args : List AV} {M : AH} {K Kp : AV → AH → Prop} (hle : Nat.ble args.length 59 = true)
    (h : codeA (cx17 B W) body17 (postA tb Try.f17.results.toList K) Kp (initA args) M) : CallA Try.prog 17 args M K Kp :=
  CallA.intro (x := cx17 B W) tb_ok mixed Try.func17 (rfl : Try.f17.body = some body17) (by kernel_rfl) plans17 rfl rfl rfl hle h
theorem step17 (B : Nat → List Nat) (W : List Nat)  {args : List AV} {M : AH} {K Kp : AV → AH → Prop} (hle : Nat.ble args.length 59 = true)
    (h : codeO (cx17 B W) body17 (postA tb Try.f17.results.toList K) Kp (initA args) M) : CallA Try.prog 17 args M K Kp :=
  CallO.intro (x := cx17 B W) tb_ok mixed Try.func17 (rfl : Try.f17.body = some body17) (by kernel_rfl) plans17 rfl rfl rfl hle h

noncomputable def cx18 (B : Nat → List Nat) (W : List Nat) : Cx := { P := Try.prog, T := tb, n := 3, W := W, B := B }
noncomputable abbrev body18 : Code := match Try.f18.body with | some c => c | none => .skip
theorem plans18 : plansB (fun _ => none) body18 = true := by kernel_rfl
/-- (*vignette/inflate.reader).none -/
theorem walk18 (B : Nat → List Nat) (W : List Nat)  {args : List AV} {M : AH} {K Kp : AV → AH → Prop} (hle : Nat.ble args.length 3 = true)
    (h : codeA (cx18 B W) body18 (postA tb Try.f18.results.toList K) Kp (initA args) M) : CallA Try.prog 18 args M K Kp :=
  CallA.intro (x := cx18 B W) tb_ok mixed Try.func18 (rfl : Try.f18.body = some body18) (by kernel_rfl) plans18 rfl rfl rfl hle h
theorem step18 (B : Nat → List Nat) (W : List Nat)  {args : List AV} {M : AH} {K Kp : AV → AH → Prop} (hle : Nat.ble args.length 3 = true)
    (h : codeO (cx18 B W) body18 (postA tb Try.f18.results.toList K) Kp (initA args) M) : CallA Try.prog 18 args M K Kp :=
  CallO.intro (x := cx18 B W) tb_ok mixed Try.func18 (rfl : Try.f18.body = some body18) (by kernel_rfl) plans18 rfl rfl rfl hle h

noncomputable def cx19 (B : Nat → List Nat) (W : List Nat) : Cx := { P := Try.prog, T := tb, n := 20, W := W, B := B }
noncomputable abbrev body19 : Code := match Try.f19.body with | some c => c | none => .skip
theorem plans19 : plansB (fun _ => none) body19 = true := by kernel_rfl
/-- (*vignette/inflate.reader).number -/
theorem walk19 (B : Nat → List Nat) (W : List Nat)  {args : List AV} {M : AH} {K Kp : AV → AH → Prop} (hle : Nat.ble args.length 20 = true)
    (h : codeA (cx19 B W) body19 (postA tb Try.f19.results.toList K) Kp (initA args) M) : CallA Try.prog 19 args M K Kp :=
  CallA.intro (x := cx19 B W) tb_ok mixed Try.func19 (rfl : Try.f19.body = some body19) (by kernel_rfl) plans19 rfl rfl rfl hle h
theorem step19 (B : Nat → List Nat) (W : List Nat)  {args : List AV} {M : AH} {K Kp : AV → AH → Prop} (hle : Nat.ble args.length 20 = true)
    (h : codeO (cx19 B W) body19 (postA tb Try.f19.results.toList K) Kp (initA args) M) : CallA Try.prog 19 args M K Kp :=
  CallO.intro (x := cx19 B W) tb_ok mixed Try.func19 (rfl : Try.f19.body = some body19) (by kernel_rfl) plans19 rfl rfl rfl hle h

noncomputable def cx20 (B : Nat → List Nat) (W : List Nat) : Cx := { P := Try.prog, T := tb, n := 9, W := W, B := B }
noncomputable abbrev body20 : Code := match Try.f20.body with | some c => c | none => .skip
theorem plans20 : plansB (fun _ => none) body20 = true := by kernel_rfl
/-- (*vignette/bits.Reader).At -/
theorem walk20 (B : Nat → List Nat) (W : List Nat)  {args : List AV} {M : AH} {K Kp : AV → AH → Prop} (hle : Nat.ble args.length 9 = true)
    (h : codeA (cx20 B W) body20 (postA tb Try.f20.results.toList K) Kp (initA args) M) : CallA Try.prog 20 args M K Kp :=
  CallA.intro (x := cx20 B W) tb_ok mixed Try.func20 (rfl : Try.f20.body = some body20) (by kernel_rfl) plans20 rfl rfl rfl hle h
theorem step20 (B : Nat → List Nat) (W : List Nat)  {args : List AV} {M : AH} {K Kp : AV → AH → Prop} (hle : Nat.ble args.length 9 = true)
    (h : codeO (cx20 B W) body20 (postA tb Try.f20.results.toList K) Kp (initA args) M) : CallA Try.prog 20 args M K Kp :=
  CallO.intro (x := cx20 B W) tb_ok mixed Try.func20 (rfl : Try.f20.body = some body20) (by kernel_rfl) plans20 rfl rfl rfl hle h

noncomputable def cx21 (B : Nat → List Nat) (W : List Nat) : Cx := { P := Try.prog, T := tb, n := 27, W := W, B := B }
noncomputable abbrev body21 : Code := match Try.f21.body with | some c => c | none => .skip
theorem plans21 : plansB (fun _ => none) body21 = true := by kernel_rfl
/-- (*vignette/bits.Writer).Put -/
theorem walk21 (B : Nat → List Nat) (W : List Nat)  {args : List AV} {M : AH} {K Kp : AV → AH → Prop} (hle : Nat.ble args.length 27 = true)
    (h : codeA (cx21 B W) body21 (postA tb Try.f21.results.toList K) Kp (initA args) M) : CallA Try.prog 21 args M K Kp :=
  CallA.intro (x := cx21 B W) tb_ok mixed Try.func21 (rfl : Try.f21.body = some body21) (by kernel_rfl) plans21 rfl rfl rfl hle h
theorem step21 (B : Nat → List Nat) (W : List Nat)  {args : List AV} {M : AH} {K Kp : AV → AH → Prop} (hle : Nat.ble args.length 27 = true)
    (h : codeO (cx21 B W) body21 (postA tb Try.f21.results.toList K) Kp (initA args) M) : CallA Try.prog 21 args M K Kp :=
  CallO.intro (x := cx21 B W) tb_ok mixed Try.func21 (rfl : Try.f21.body = some body21) (by kernel_rfl) plans21 rfl rfl rfl hle h

noncomputable def cx22 (B : Nat → List Nat) (W : List Nat) : Cx := { P := Try.prog, T := tb, n := 20, W := W, B := B }
noncomputable abbrev body22 : Code := match Try.f22.body with | some c => c | none => .skip
theorem plans22 : plansB (fun _ => none) body22 = true := by kernel_rfl
/-- (*vignette/bits.Writer).Align -/
theorem walk22 (B : Nat → List Nat) (W : List Nat)  {args : List AV} {M : AH} {K Kp : AV → AH → Prop} (hle : Nat.ble args.length 20 = true)
    (h : codeA (cx22 B W) body22 (postA tb Try.f22.results.toList K) Kp (initA args) M) : CallA Try.prog 22 args M K Kp :=
  CallA.intro (x := cx22 B W) tb_ok mixed Try.func22 (rfl : Try.f22.body = some body22) (by kernel_rfl) plans22 rfl rfl rfl hle h
theorem step22 (B : Nat → List Nat) (W : List Nat)  {args : List AV} {M : AH} {K Kp : AV → AH → Prop} (hle : Nat.ble args.length 20 = true)
    (h : codeO (cx22 B W) body22 (postA tb Try.f22.results.toList K) Kp (initA args) M) : CallA Try.prog 22 args M K Kp :=
  CallO.intro (x := cx22 B W) tb_ok mixed Try.func22 (rfl : Try.f22.body = some body22) (by kernel_rfl) plans22 rfl rfl rfl hle h

noncomputable def cx23 (B : Nat → List Nat) (W : List Nat) : Cx := { P := Try.prog, T := tb, n := 88, W := W, B := B }
noncomputable abbrev body23 : Code := match Try.f23.body with | some c => c | none => .skip
theorem plans23 : plansB (fun _ => none) body23 = true := by kernel_rfl
/-- vignette/vignettelaw08.lengths -/
theorem walk23 (B : Nat → List Nat) (W : List Nat)  {args : List AV} {M : AH} {K Kp : AV → AH → Prop} (hle : Nat.ble args.length 88 = true)
    (h : codeA (cx23 B W) body23 (postA tb Try.f23.results.toList K) Kp (initA args) M) : CallA Try.prog 23 args M K Kp :=
  CallA.intro (x := cx23 B W) tb_ok mixed Try.func23 (rfl : Try.f23.body = some body23) (by kernel_rfl) plans23 rfl rfl rfl hle h
theorem step23 (B : Nat → List Nat) (W : List Nat)  {args : List AV} {M : AH} {K Kp : AV → AH → Prop} (hle : Nat.ble args.length 88 = true)
    (h : codeO (cx23 B W) body23 (postA tb Try.f23.results.toList K) Kp (initA args) M) : CallA Try.prog 23 args M K Kp :=
  CallO.intro (x := cx23 B W) tb_ok mixed Try.func23 (rfl : Try.f23.body = some body23) (by kernel_rfl) plans23 rfl rfl rfl hle h

noncomputable def cx24 (B : Nat → List Nat) (W : List Nat) : Cx := { P := Try.prog, T := tb, n := 2, W := W, B := B }
noncomputable abbrev body24 : Code := match Try.f24.body with | some c => c | none => .skip
theorem plans24 : plansB (fun _ => none) body24 = true := by kernel_rfl
/-- vignette/vignetteref08.Order -/
theorem walk24 (B : Nat → List Nat) (W : List Nat)  {args : List AV} {M : AH} {K Kp : AV → AH → Prop} (hle : Nat.ble args.length 2 = true)
    (h : codeA (cx24 B W) body24 (postA tb Try.f24.results.toList K) Kp (initA args) M) : CallA Try.prog 24 args M K Kp :=
  CallA.intro (x := cx24 B W) tb_ok mixed Try.func24 (rfl : Try.f24.body = some body24) (by kernel_rfl) plans24 rfl rfl rfl hle h
theorem step24 (B : Nat → List Nat) (W : List Nat)  {args : List AV} {M : AH} {K Kp : AV → AH → Prop} (hle : Nat.ble args.length 2 = true)
    (h : codeO (cx24 B W) body24 (postA tb Try.f24.results.toList K) Kp (initA args) M) : CallA Try.prog 24 args M K Kp :=
  CallO.intro (x := cx24 B W) tb_ok mixed Try.func24 (rfl : Try.f24.body = some body24) (by kernel_rfl) plans24 rfl rfl rfl hle h

noncomputable def cx25 (B : Nat → List Nat) (W : List Nat) : Cx := { P := Try.prog, T := tb, n := 17, W := W, B := B }
noncomputable abbrev body25 : Code := match Try.f25.body with | some c => c | none => .skip
theorem plans25 : plansB (fun _ => none) body25 = true := by kernel_rfl
/-- vignette/huff.Codes -/
theorem walk25 (B : Nat → List Nat) (W : List Nat)  {args : List AV} {M : AH} {K Kp : AV → AH → Prop} (hle : Nat.ble args.length 17 = true)
    (h : codeA (cx25 B W) body25 (postA tb Try.f25.results.toList K) Kp (initA args) M) : CallA Try.prog 25 args M K Kp :=
  CallA.intro (x := cx25 B W) tb_ok mixed Try.func25 (rfl : Try.f25.body = some body25) (by kernel_rfl) plans25 rfl rfl rfl hle h
theorem step25 (B : Nat → List Nat) (W : List Nat)  {args : List AV} {M : AH} {K Kp : AV → AH → Prop} (hle : Nat.ble args.length 17 = true)
    (h : codeO (cx25 B W) body25 (postA tb Try.f25.results.toList K) Kp (initA args) M) : CallA Try.prog 25 args M K Kp :=
  CallO.intro (x := cx25 B W) tb_ok mixed Try.func25 (rfl : Try.f25.body = some body25) (by kernel_rfl) plans25 rfl rfl rfl hle h

noncomputable def cx26 (B : Nat → List Nat) (W : List Nat) : Cx := { P := Try.prog, T := tb, n := 14, W := W, B := B }
noncomputable abbrev body26 : Code := match Try.f26.body with | some c => c | none => .skip
theorem plans26 : plansB (fun _ => none) body26 = true := by kernel_rfl
/-- vignette/vignettelaw08.word -/
theorem walk26 (B : Nat → List Nat) (W : List Nat)  {args : List AV} {M : AH} {K Kp : AV → AH → Prop} (hle : Nat.ble args.length 14 = true)
    (h : codeA (cx26 B W) body26 (postA tb Try.f26.results.toList K) Kp (initA args) M) : CallA Try.prog 26 args M K Kp :=
  CallA.intro (x := cx26 B W) tb_ok mixed Try.func26 (rfl : Try.f26.body = some body26) (by kernel_rfl) plans26 rfl rfl rfl hle h
theorem step26 (B : Nat → List Nat) (W : List Nat)  {args : List AV} {M : AH} {K Kp : AV → AH → Prop} (hle : Nat.ble args.length 14 = true)
    (h : codeO (cx26 B W) body26 (postA tb Try.f26.results.toList K) Kp (initA args) M) : CallA Try.prog 26 args M K Kp :=
  CallO.intro (x := cx26 B W) tb_ok mixed Try.func26 (rfl : Try.f26.body = some body26) (by kernel_rfl) plans26 rfl rfl rfl hle h

noncomputable def cx27 (B : Nat → List Nat) (W : List Nat) : Cx := { P := Try.prog, T := tb, n := 33, W := W, B := B }
noncomputable abbrev body27 : Code := match Try.f27.body with | some c => c | none => .skip
theorem plans27 : plansB (fun _ => none) body27 = true := by kernel_rfl
/-- vignette/vignettelaw08.symbol -/
theorem walk27 (B : Nat → List Nat) (W : List Nat)  {args : List AV} {M : AH} {K Kp : AV → AH → Prop} (hle : Nat.ble args.length 33 = true)
    (h : codeA (cx27 B W) body27 (postA tb Try.f27.results.toList K) Kp (initA args) M) : CallA Try.prog 27 args M K Kp :=
  CallA.intro (x := cx27 B W) tb_ok mixed Try.func27 (rfl : Try.f27.body = some body27) (by kernel_rfl) plans27 rfl rfl rfl hle h
theorem step27 (B : Nat → List Nat) (W : List Nat)  {args : List AV} {M : AH} {K Kp : AV → AH → Prop} (hle : Nat.ble args.length 33 = true)
    (h : codeO (cx27 B W) body27 (postA tb Try.f27.results.toList K) Kp (initA args) M) : CallA Try.prog 27 args M K Kp :=
  CallO.intro (x := cx27 B W) tb_ok mixed Try.func27 (rfl : Try.f27.body = some body27) (by kernel_rfl) plans27 rfl rfl rfl hle h

noncomputable def cx28 (B : Nat → List Nat) (W : List Nat) : Cx := { P := Try.prog, T := tb, n := 25, W := W, B := B }
noncomputable abbrev body28 : Code := match Try.f28.body with | some c => c | none => .skip
theorem plans28 : plansB (fun _ => none) body28 = true := by kernel_rfl
/-- vignette/vignettelaw08.distance -/
theorem walk28 (B : Nat → List Nat) (W : List Nat)  {args : List AV} {M : AH} {K Kp : AV → AH → Prop} (hle : Nat.ble args.length 25 = true)
    (h : codeA (cx28 B W) body28 (postA tb Try.f28.results.toList K) Kp (initA args) M) : CallA Try.prog 28 args M K Kp :=
  CallA.intro (x := cx28 B W) tb_ok mixed Try.func28 (rfl : Try.f28.body = some body28) (by kernel_rfl) plans28 rfl rfl rfl hle h
theorem step28 (B : Nat → List Nat) (W : List Nat)  {args : List AV} {M : AH} {K Kp : AV → AH → Prop} (hle : Nat.ble args.length 25 = true)
    (h : codeO (cx28 B W) body28 (postA tb Try.f28.results.toList K) Kp (initA args) M) : CallA Try.prog 28 args M K Kp :=
  CallO.intro (x := cx28 B W) tb_ok mixed Try.func28 (rfl : Try.f28.body = some body28) (by kernel_rfl) plans28 rfl rfl rfl hle h

noncomputable def cx29 (B : Nat → List Nat) (W : List Nat) : Cx := { P := Try.prog, T := tb, n := 8, W := W, B := B }
noncomputable abbrev body29 : Code := match Try.f29.body with | some c => c | none => .skip
theorem plans29 : plansB (fun _ => none) body29 = true := by kernel_rfl
/-- slices.Clone[[]byte,byte] -/
theorem walk29 (B : Nat → List Nat) (W : List Nat)  {args : List AV} {M : AH} {K Kp : AV → AH → Prop} (hle : Nat.ble args.length 8 = true)
    (h : codeA (cx29 B W) body29 (postA tb Try.f29.results.toList K) Kp (initA args) M) : CallA Try.prog 29 args M K Kp :=
  CallA.intro (x := cx29 B W) tb_ok mixed Try.func29 (rfl : Try.f29.body = some body29) (by kernel_rfl) plans29 rfl rfl rfl hle h
theorem step29 (B : Nat → List Nat) (W : List Nat)  {args : List AV} {M : AH} {K Kp : AV → AH → Prop} (hle : Nat.ble args.length 8 = true)
    (h : codeO (cx29 B W) body29 (postA tb Try.f29.results.toList K) Kp (initA args) M) : CallA Try.prog 29 args M K Kp :=
  CallO.intro (x := cx29 B W) tb_ok mixed Try.func29 (rfl : Try.f29.body = some body29) (by kernel_rfl) plans29 rfl rfl rfl hle h

noncomputable def cx30 (B : Nat → List Nat) (W : List Nat) : Cx := { P := Try.prog, T := tb, n := 14, W := W, B := B }
noncomputable abbrev body30 : Code := match Try.f30.body with | some c => c | none => .skip
theorem plans30 : plansB (fun _ => none) body30 = true := by kernel_rfl
/-- (*vignette/bits.Reader).Align -/
theorem walk30 (B : Nat → List Nat) (W : List Nat)  {args : List AV} {M : AH} {K Kp : AV → AH → Prop} (hle : Nat.ble args.length 14 = true)
    (h : codeA (cx30 B W) body30 (postA tb Try.f30.results.toList K) Kp (initA args) M) : CallA Try.prog 30 args M K Kp :=
  CallA.intro (x := cx30 B W) tb_ok mixed Try.func30 (rfl : Try.f30.body = some body30) (by kernel_rfl) plans30 rfl rfl rfl hle h
theorem step30 (B : Nat → List Nat) (W : List Nat)  {args : List AV} {M : AH} {K Kp : AV → AH → Prop} (hle : Nat.ble args.length 14 = true)
    (h : codeO (cx30 B W) body30 (postA tb Try.f30.results.toList K) Kp (initA args) M) : CallA Try.prog 30 args M K Kp :=
  CallO.intro (x := cx30 B W) tb_ok mixed Try.func30 (rfl : Try.f30.body = some body30) (by kernel_rfl) plans30 rfl rfl rfl hle h

noncomputable def cx31 (B : Nat → List Nat) (W : List Nat) : Cx := { P := Try.prog, T := tb, n := 7, W := W, B := B }
noncomputable abbrev body31 : Code := match Try.f31.body with | some c => c | none => .skip
theorem plans31 : plansB (fun _ => none) body31 = true := by kernel_rfl
/-- vignette/inflate.must -/
theorem walk31 (B : Nat → List Nat) (W : List Nat)  {args : List AV} {M : AH} {K Kp : AV → AH → Prop} (hle : Nat.ble args.length 7 = true)
    (h : codeA (cx31 B W) body31 (postA tb Try.f31.results.toList K) Kp (initA args) M) : CallA Try.prog 31 args M K Kp :=
  CallA.intro (x := cx31 B W) tb_ok mixed Try.func31 (rfl : Try.f31.body = some body31) (by kernel_rfl) plans31 rfl rfl rfl hle h
theorem step31 (B : Nat → List Nat) (W : List Nat)  {args : List AV} {M : AH} {K Kp : AV → AH → Prop} (hle : Nat.ble args.length 7 = true)
    (h : codeO (cx31 B W) body31 (postA tb Try.f31.results.toList K) Kp (initA args) M) : CallA Try.prog 31 args M K Kp :=
  CallO.intro (x := cx31 B W) tb_ok mixed Try.func31 (rfl : Try.f31.body = some body31) (by kernel_rfl) plans31 rfl rfl rfl hle h

noncomputable def pl32 : Nat → Option (List (Nat × Nat) × List Nat) := fun id => match id with
  | 0 => some ([(0, 0), (1, 0), (2, 0), (5, 0), (6, 0), (7, 0), (3, 1), (4, 0), (8, 1), (9, 0)], [])
  | _ => none
noncomputable def cx32 (B : Nat → List Nat) (W : List Nat) : Cx := { P := Try.prog, T := tb, n := 25, W := W, B := B, pl := pl32 }
noncomputable abbrev body32 : Code := match Try.f32.body with | some c => c | none => .skip
theorem plans32 : plansB pl32 body32 = true := by kernel_rfl
/-- (*vignette/inflate.reader).come -/
theorem walk32 (B : Nat → List Nat) (W : List Nat)  {args : List AV} {M : AH} {K Kp : AV → AH → Prop} (hle : Nat.ble args.length 25 = true)
    (h : codeA (cx32 B W) body32 (postA tb Try.f32.results.toList K) Kp (initA args) M) : CallA Try.prog 32 args M K Kp :=
  CallA.intro (x := cx32 B W) tb_ok mixed Try.func32 (rfl : Try.f32.body = some body32) (by kernel_rfl) plans32 rfl rfl rfl hle h
theorem step32 (B : Nat → List Nat) (W : List Nat)  {args : List AV} {M : AH} {K Kp : AV → AH → Prop} (hle : Nat.ble args.length 25 = true)
    (h : codeO (cx32 B W) body32 (postA tb Try.f32.results.toList K) Kp (initA args) M) : CallA Try.prog 32 args M K Kp :=
  CallO.intro (x := cx32 B W) tb_ok mixed Try.func32 (rfl : Try.f32.body = some body32) (by kernel_rfl) plans32 rfl rfl rfl hle h

noncomputable def pl33 : Nat → Option (List (Nat × Nat) × List Nat) := fun id => match id with
  | 9 => some ([(0, 0), (1, 0), (2, 0), (3, 0), (4, 0), (5, 0), (6, 0), (7, 3), (8, 0), (9, 0)], [7])
  | _ => none
noncomputable def cx33 (B : Nat → List Nat) (W : List Nat) : Cx := { P := Try.prog, T := tb, n := 48, W := W, B := B, pl := pl33 }
noncomputable abbrev body33 : Code := match Try.f33.body with | some c => c | none => .skip
theorem plans33 : plansB pl33 body33 = true := by kernel_rfl
/-- slices.Repeat[[]uint8,uint8] -/
theorem walk33 (B : Nat → List Nat) (W : List Nat)  {args : List AV} {M : AH} {K Kp : AV → AH → Prop} (hle : Nat.ble args.length 48 = true)
    (h : codeA (cx33 B W) body33 (postA tb Try.f33.results.toList K) Kp (initA args) M) : CallA Try.prog 33 args M K Kp :=
  CallA.intro (x := cx33 B W) tb_ok mixed Try.func33 (rfl : Try.f33.body = some body33) (by kernel_rfl) plans33 rfl rfl rfl hle h
theorem step33 (B : Nat → List Nat) (W : List Nat)  {args : List AV} {M : AH} {K Kp : AV → AH → Prop} (hle : Nat.ble args.length 48 = true)
    (h : codeO (cx33 B W) body33 (postA tb Try.f33.results.toList K) Kp (initA args) M) : CallA Try.prog 33 args M K Kp :=
  CallO.intro (x := cx33 B W) tb_ok mixed Try.func33 (rfl : Try.f33.body = some body33) (by kernel_rfl) plans33 rfl rfl rfl hle h

noncomputable def pl34 : Nat → Option (List (Nat × Nat) × List Nat) := fun id => match id with
  | 17 => some ([(0, 0), (1, 0), (2, 0), (3, 0), (5, 0), (6, 0), (7, 0), (10, 0), (4, 1), (8, 1), (9, 0), (11, 0), (12, 0), (13, 1), (14, 3)], [14])
  | _ => none
noncomputable def cx34 (B : Nat → List Nat) (W : List Nat) : Cx := { P := Try.prog, T := tb, n := 70, W := W, B := B, pl := pl34 }
noncomputable abbrev body34 : Code := match Try.f34.body with | some c => c | none => .skip
theorem plans34 : plansB pl34 body34 = true := by kernel_rfl
/-- (*vignette/inflate.reader).symbols -/
theorem walk34 (B : Nat → List Nat) (W : List Nat)  {args : List AV} {M : AH} {K Kp : AV → AH → Prop} (hle : Nat.ble args.length 70 = true)
    (h : codeA (cx34 B W) body34 (postA tb Try.f34.results.toList K) Kp (initA args) M) : CallA Try.prog 34 args M K Kp :=
  CallA.intro (x := cx34 B W) tb_ok mixed Try.func34 (rfl : Try.f34.body = some body34) (by kernel_rfl) plans34 rfl rfl rfl hle h
theorem step34 (B : Nat → List Nat) (W : List Nat)  {args : List AV} {M : AH} {K Kp : AV → AH → Prop} (hle : Nat.ble args.length 70 = true)
    (h : codeO (cx34 B W) body34 (postA tb Try.f34.results.toList K) Kp (initA args) M) : CallA Try.prog 34 args M K Kp :=
  CallO.intro (x := cx34 B W) tb_ok mixed Try.func34 (rfl : Try.f34.body = some body34) (by kernel_rfl) plans34 rfl rfl rfl hle h

noncomputable def cx35 (B : Nat → List Nat) (W : List Nat) : Cx := { P := Try.prog, T := tb, n := 13, W := W, B := B }
noncomputable abbrev body35 : Code := match Try.f35.body with | some c => c | none => .skip
theorem plans35 : plansB (fun _ => none) body35 = true := by kernel_rfl
/-- vignette/inflate.table -/
theorem walk35 (B : Nat → List Nat) (W : List Nat)  {args : List AV} {M : AH} {K Kp : AV → AH → Prop} (hle : Nat.ble args.length 13 = true)
    (h : codeA (cx35 B W) body35 (postA tb Try.f35.results.toList K) Kp (initA args) M) : CallA Try.prog 35 args M K Kp :=
  CallA.intro (x := cx35 B W) tb_ok mixed Try.func35 (rfl : Try.f35.body = some body35) (by kernel_rfl) plans35 rfl rfl rfl hle h
theorem step35 (B : Nat → List Nat) (W : List Nat)  {args : List AV} {M : AH} {K Kp : AV → AH → Prop} (hle : Nat.ble args.length 13 = true)
    (h : codeO (cx35 B W) body35 (postA tb Try.f35.results.toList K) Kp (initA args) M) : CallA Try.prog 35 args M K Kp :=
  CallO.intro (x := cx35 B W) tb_ok mixed Try.func35 (rfl : Try.f35.body = some body35) (by kernel_rfl) plans35 rfl rfl rfl hle h

noncomputable def pl36 : Nat → Option (List (Nat × Nat) × List Nat) := fun id => match id with
  | 12 => some ([(0, 0), (2, 0), (3, 0), (1, 1), (4, 1), (5, 2), (6, 0), (7, 0)], [])
  | _ => none
noncomputable def cx36 (B : Nat → List Nat) (W : List Nat) : Cx := { P := Try.prog, T := tb, n := 66, W := W, B := B, pl := pl36 }
noncomputable abbrev body36 : Code := match Try.f36.body with | some c => c | none => .skip
theorem plans36 : plansB pl36 body36 = true := by kernel_rfl
/-- (*vignette/inflate.reader).lengths -/
theorem walk36 (B : Nat → List Nat) (W : List Nat)  {args : List AV} {M : AH} {K Kp : AV → AH → Prop} (hle : Nat.ble args.length 66 = true)
    (h : codeA (cx36 B W) body36 (postA tb Try.f36.results.toList K) Kp (initA args) M) : CallA Try.prog 36 args M K Kp :=
  CallA.intro (x := cx36 B W) tb_ok mixed Try.func36 (rfl : Try.f36.body = some body36) (by kernel_rfl) plans36 rfl rfl rfl hle h
theorem step36 (B : Nat → List Nat) (W : List Nat)  {args : List AV} {M : AH} {K Kp : AV → AH → Prop} (hle : Nat.ble args.length 66 = true)
    (h : codeO (cx36 B W) body36 (postA tb Try.f36.results.toList K) Kp (initA args) M) : CallA Try.prog 36 args M K Kp :=
  CallO.intro (x := cx36 B W) tb_ok mixed Try.func36 (rfl : Try.f36.body = some body36) (by kernel_rfl) plans36 rfl rfl rfl hle h

noncomputable def pl37 : Nat → Option (List (Nat × Nat) × List Nat) := fun id => match id with
  | 11 => some ([(0, 0), (1, 0), (2, 0), (4, 0), (5, 0), (6, 0), (12, 0), (13, 0), (14, 0), (18, 0), (19, 0), (20, 0), (3, 1), (7, 1), (8, 0), (9, 0), (10, 1), (11, 0), (15, 1), (16, 0), (17, 0), (21, 0), (22, 0)], [])
  | _ => none
noncomputable def cx37 (B : Nat → List Nat) (W : List Nat) : Cx := { P := Try.prog, T := tb, n := 74, W := W, B := B, pl := pl37 }
noncomputable abbrev body37 : Code := match Try.f37.body with | some c => c | none => .skip
theorem plans37 : plansB pl37 body37 = true := by kernel_rfl
/-- (*vignette/bits.Reader).Get -/
theorem walk37 (B : Nat → List Nat) (W : List Nat)  {args : List AV} {M : AH} {K Kp : AV → AH → Prop} (hle : Nat.ble args.length 74 = true)
    (h : codeA (cx37 B W) body37 (postA tb Try.f37.results.toList K) Kp (initA args) M) : CallA Try.prog 37 args M K Kp :=
  CallA.intro (x := cx37 B W) tb_ok mixed Try.func37 (rfl : Try.f37.body = some body37) (by kernel_rfl) plans37 rfl rfl rfl hle h
theorem step37 (B : Nat → List Nat) (W : List Nat)  {args : List AV} {M : AH} {K Kp : AV → AH → Prop} (hle : Nat.ble args.length 74 = true)
    (h : codeO (cx37 B W) body37 (postA tb Try.f37.results.toList K) Kp (initA args) M) : CallA Try.prog 37 args M K Kp :=
  CallO.intro (x := cx37 B W) tb_ok mixed Try.func37 (rfl : Try.f37.body = some body37) (by kernel_rfl) plans37 rfl rfl rfl hle h

noncomputable def pl38 : Nat → Option (List (Nat × Nat) × List Nat) := fun id => match id with
  | 0 => some ([(0, 0), (1, 0), (2, 0), (4, 0), (5, 0), (6, 0), (7, 0), (3, 1), (8, 1), (9, 0), (10, 0), (11, 0), (12, 0), (13, 3)], [13])
  | 4 => some ([(0, 0), (1, 0), (2, 0), (3, 0), (5, 0), (6, 0), (7, 0), (4, 1), (8, 1), (9, 0), (10, 2), (11, 3), (12, 0), (13, 0), (14, 3)], [11, 14])
  | _ => none
noncomputable def cx38 (B : Nat → List Nat) (W : List Nat) : Cx := { P := Try.prog, T := tb, n := 60, W := W, B := B, pl := pl38 }
noncomputable abbrev body38 : Code := match Try.f38.body with | some c => c | none => .skip
theorem plans38 : plansB pl38 body38 = true := by kernel_rfl
/-- (*vignette/bits.Writer).lay -/
theorem walk38 (B : Nat → List Nat) (W : List Nat)  {args : List AV} {M : AH} {K Kp : AV → AH → Prop} (hle : Nat.ble args.length 60 = true)
    (h : codeA (cx38 B W) body38 (postA tb Try.f38.results.toList K) Kp (initA args) M) : CallA Try.prog 38 args M K Kp :=
  CallA.intro (x := cx38 B W) tb_ok mixed Try.func38 (rfl : Try.f38.body = some body38) (by kernel_rfl) plans38 rfl rfl rfl hle h
theorem step38 (B : Nat → List Nat) (W : List Nat)  {args : List AV} {M : AH} {K Kp : AV → AH → Prop} (hle : Nat.ble args.length 60 = true)
    (h : codeO (cx38 B W) body38 (postA tb Try.f38.results.toList K) Kp (initA args) M) : CallA Try.prog 38 args M K Kp :=
  CallO.intro (x := cx38 B W) tb_ok mixed Try.func38 (rfl : Try.f38.body = some body38) (by kernel_rfl) plans38 rfl rfl rfl hle h

noncomputable def cx39 (B : Nat → List Nat) (W : List Nat) : Cx := { P := Try.prog, T := tb, n := 17, W := W, B := B }
noncomputable abbrev body39 : Code := match Try.f39.body with | some c => c | none => .skip
theorem plans39 : plansB (fun _ => none) body39 = true := by kernel_rfl
/-- vignette/bits.may -/
theorem walk39 (B : Nat → List Nat) (W : List Nat)  {args : List AV} {M : AH} {K Kp : AV → AH → Prop} (hle : Nat.ble args.length 17 = true)
    (h : codeA (cx39 B W) body39 (postA tb Try.f39.results.toList K) Kp (initA args) M) : CallA Try.prog 39 args M K Kp :=
  CallA.intro (x := cx39 B W) tb_ok mixed Try.func39 (rfl : Try.f39.body = some body39) (by kernel_rfl) plans39 rfl rfl rfl hle h
theorem step39 (B : Nat → List Nat) (W : List Nat)  {args : List AV} {M : AH} {K Kp : AV → AH → Prop} (hle : Nat.ble args.length 17 = true)
    (h : codeO (cx39 B W) body39 (postA tb Try.f39.results.toList K) Kp (initA args) M) : CallA Try.prog 39 args M K Kp :=
  CallO.intro (x := cx39 B W) tb_ok mixed Try.func39 (rfl : Try.f39.body = some body39) (by kernel_rfl) plans39 rfl rfl rfl hle h

noncomputable def pl40 : Nat → Option (List (Nat × Nat) × List Nat) := fun id => match id with
  | 3 => some ([(0, 0), (1, 0), (2, 0), (6, 0), (7, 0), (8, 0), (3, 1), (4, 0), (5, 0), (9, 1), (10, 0), (11, 0)], [])
  | _ => none
noncomputable def cx40 (B : Nat → List Nat) (W : List Nat) : Cx := { P := Try.prog, T := tb, n := 16, W := W, B := B, pl := pl40 }
noncomputable abbrev body40 : Code := match Try.f40.body with | some c => c | none => .skip
theorem plans40 : plansB pl40 body40 = true := by kernel_rfl
/-- (*vignette/bits.Writer).Len -/
theorem walk40 (B : Nat → List Nat) (W : List Nat)  {args : List AV} {M : AH} {K Kp : AV → AH → Prop} (hle : Nat.ble args.length 16 = true)
    (h : codeA (cx40 B W) body40 (postA tb Try.f40.results.toList K) Kp (initA args) M) : CallA Try.prog 40 args M K Kp :=
  CallA.intro (x := cx40 B W) tb_ok mixed Try.func40 (rfl : Try.f40.body = some body40) (by kernel_rfl) plans40 rfl rfl rfl hle h
theorem step40 (B : Nat → List Nat) (W : List Nat)  {args : List AV} {M : AH} {K Kp : AV → AH → Prop} (hle : Nat.ble args.length 16 = true)
    (h : codeO (cx40 B W) body40 (postA tb Try.f40.results.toList K) Kp (initA args) M) : CallA Try.prog 40 args M K Kp :=
  CallO.intro (x := cx40 B W) tb_ok mixed Try.func40 (rfl : Try.f40.body = some body40) (by kernel_rfl) plans40 rfl rfl rfl hle h

noncomputable def cx41 (B : Nat → List Nat) (W : List Nat) : Cx := { P := Try.prog, T := tb, n := 37, W := W, B := B }
noncomputable abbrev body41 : Code := match Try.f41.body with | some c => c | none => .skip
theorem plans41 : plansB (fun _ => none) body41 = true := by kernel_rfl
/-- vignette/vignetteref08.Fixed -/
theorem walk41 (B : Nat → List Nat) (W : List Nat)  {args : List AV} {M : AH} {K Kp : AV → AH → Prop} (hle : Nat.ble args.length 37 = true)
    (h : codeA (cx41 B W) body41 (postA tb Try.f41.results.toList K) Kp (initA args) M) : CallA Try.prog 41 args M K Kp :=
  CallA.intro (x := cx41 B W) tb_ok mixed Try.func41 (rfl : Try.f41.body = some body41) (by kernel_rfl) plans41 rfl rfl rfl hle h
theorem step41 (B : Nat → List Nat) (W : List Nat)  {args : List AV} {M : AH} {K Kp : AV → AH → Prop} (hle : Nat.ble args.length 37 = true)
    (h : codeO (cx41 B W) body41 (postA tb Try.f41.results.toList K) Kp (initA args) M) : CallA Try.prog 41 args M K Kp :=
  CallO.intro (x := cx41 B W) tb_ok mixed Try.func41 (rfl : Try.f41.body = some body41) (by kernel_rfl) plans41 rfl rfl rfl hle h

noncomputable def pl42 : Nat → Option (List (Nat × Nat) × List Nat) := fun id => match id with
  | 23 => some ([(0, 0), (1, 0), (2, 0), (4, 0), (5, 0), (3, 1), (6, 12), (7, 0), (8, 2), (9, 3)], [9])
  | _ => none
noncomputable def cx42 (B : Nat → List Nat) (W : List Nat) : Cx := { P := Try.prog, T := tb, n := 146, W := W, B := B, pl := pl42 }
noncomputable abbrev body42 : Code := match Try.f42.body with | some c => c | none => .skip
theorem plans42 : plansB pl42 body42 = true := by kernel_rfl
/-- vignette/huff.Lengths -/
theorem walk42 (B : Nat → List Nat) (W : List Nat)  {args : List AV} {M : AH} {K Kp : AV → AH → Prop} (hle : Nat.ble args.length 146 = true)
    (h : codeA (cx42 B W) body42 (postA tb Try.f42.results.toList K) Kp (initA args) M) : CallA Try.prog 42 args M K Kp :=
  CallA.intro (x := cx42 B W) tb_ok mixed Try.func42 (rfl : Try.f42.body = some body42) (by kernel_rfl) plans42 rfl rfl rfl hle h
theorem step42 (B : Nat → List Nat) (W : List Nat)  {args : List AV} {M : AH} {K Kp : AV → AH → Prop} (hle : Nat.ble args.length 146 = true)
    (h : codeO (cx42 B W) body42 (postA tb Try.f42.results.toList K) Kp (initA args) M) : CallA Try.prog 42 args M K Kp :=
  CallO.intro (x := cx42 B W) tb_ok mixed Try.func42 (rfl : Try.f42.body = some body42) (by kernel_rfl) plans42 rfl rfl rfl hle h

noncomputable def cx43 (B : Nat → List Nat) (W : List Nat) : Cx := { P := Try.prog, T := tb, n := 34, W := W, B := B }
noncomputable abbrev body43 : Code := match Try.f43.body with | some c => c | none => .skip
theorem plans43 : plansB (fun _ => none) body43 = true := by kernel_rfl
/-- vignette/vignettelaw08.proper -/
theorem walk43 (B : Nat → List Nat) (W : List Nat)  {args : List AV} {M : AH} {K Kp : AV → AH → Prop} (hle : Nat.ble args.length 34 = true)
    (h : codeA (cx43 B W) body43 (postA tb Try.f43.results.toList K) Kp (initA args) M) : CallA Try.prog 43 args M K Kp :=
  CallA.intro (x := cx43 B W) tb_ok mixed Try.func43 (rfl : Try.f43.body = some body43) (by kernel_rfl) plans43 rfl rfl rfl hle h
theorem step43 (B : Nat → List Nat) (W : List Nat)  {args : List AV} {M : AH} {K Kp : AV → AH → Prop} (hle : Nat.ble args.length 34 = true)
    (h : codeO (cx43 B W) body43 (postA tb Try.f43.results.toList K) Kp (initA args) M) : CallA Try.prog 43 args M K Kp :=
  CallO.intro (x := cx43 B W) tb_ok mixed Try.func43 (rfl : Try.f43.body = some body43) (by kernel_rfl) plans43 rfl rfl rfl hle h

noncomputable def cx44 (B : Nat → List Nat) (W : List Nat) : Cx := { P := Try.prog, T := tb, n := 75, W := W, B := B }
noncomputable abbrev body44 : Code := match Try.f44.body with | some c => c | none => .skip
theorem plans44 : plansB (fun _ => none) body44 = true := by kernel_rfl
/-- vignette/huff.each -/
theorem walk44 (B : Nat → List Nat) (W : List Nat)  {args : List AV} {M : AH} {K Kp : AV → AH → Prop} (hle : Nat.ble args.length 75 = true)
    (h : codeA (cx44 B W) body44 (postA tb Try.f44.results.toList K) Kp (initA args) M) : CallA Try.prog 44 args M K Kp :=
  CallA.intro (x := cx44 B W) tb_ok mixed Try.func44 (rfl : Try.f44.body = some body44) (by kernel_rfl) plans44 rfl rfl rfl hle h
theorem step44 (B : Nat → List Nat) (W : List Nat)  {args : List AV} {M : AH} {K Kp : AV → AH → Prop} (hle : Nat.ble args.length 75 = true)
    (h : codeO (cx44 B W) body44 (postA tb Try.f44.results.toList K) Kp (initA args) M) : CallA Try.prog 44 args M K Kp :=
  CallO.intro (x := cx44 B W) tb_ok mixed Try.func44 (rfl : Try.f44.body = some body44) (by kernel_rfl) plans44 rfl rfl rfl hle h

noncomputable def pl45 : Nat → Option (List (Nat × Nat) × List Nat) := fun id => match id with
  | 0 => some ([(1, 0), (2, 0), (3, 0), (0, 1), (4, 2), (5, 0), (6, 3)], [6])
  | _ => none
noncomputable def cx45 (B : Nat → List Nat) (W : List Nat) : Cx := { P := Try.prog, T := tb, n := 13, W := W, B := B, pl := pl45 }
noncomputable abbrev body45 : Code := match Try.f45.body with | some c => c | none => .skip
theorem plans45 : plansB pl45 body45 = true := by kernel_rfl
/-- vignette/huff.Codes$1 -/
theorem walk45 (B : Nat → List Nat) (W : List Nat)  {args : List AV} {M : AH} {K Kp : AV → AH → Prop} (hle : Nat.ble args.length 13 = true)
    (h : codeA (cx45 B W) body45 (postA tb Try.f45.results.toList K) Kp (initA args) M) : CallA Try.prog 45 args M K Kp :=
  CallA.intro (x := cx45 B W) tb_ok mixed Try.func45 (rfl : Try.f45.body = some body45) (by kernel_rfl) plans45 rfl rfl rfl hle h
theorem step45 (B : Nat → List Nat) (W : List Nat)  {args : List AV} {M : AH} {K Kp : AV → AH → Prop} (hle : Nat.ble args.length 13 = true)
    (h : codeO (cx45 B W) body45 (postA tb Try.f45.results.toList K) Kp (initA args) M) : CallA Try.prog 45 args M K Kp :=
  CallO.intro (x := cx45 B W) tb_ok mixed Try.func45 (rfl : Try.f45.body = some body45) (by kernel_rfl) plans45 rfl rfl rfl hle h

noncomputable def cx46 (B : Nat → List Nat) (W : List Nat) : Cx := { P := Try.prog, T := tb, n := 19, W := W, B := B }
noncomputable abbrev body46 : Code := match Try.f46.body with | some c => c | none => .skip
theorem plans46 : plansB (fun _ => none) body46 = true := by kernel_rfl
/-- vignette/huff.turn -/
theorem walk46 (B : Nat → List Nat) (W : List Nat)  {args : List AV} {M : AH} {K Kp : AV → AH → Prop} (hle : Nat.ble args.length 19 = true)
    (h : codeA (cx46 B W) body46 (postA tb Try.f46.results.toList K) Kp (initA args) M) : CallA Try.prog 46 args M K Kp :=
  CallA.intro (x := cx46 B W) tb_ok mixed Try.func46 (rfl : Try.f46.body = some body46) (by kernel_rfl) plans46 rfl rfl rfl hle h
theorem step46 (B : Nat → List Nat) (W : List Nat)  {args : List AV} {M : AH} {K Kp : AV → AH → Prop} (hle : Nat.ble args.length 19 = true)
    (h : codeO (cx46 B W) body46 (postA tb Try.f46.results.toList K) Kp (initA args) M) : CallA Try.prog 46 args M K Kp :=
  CallO.intro (x := cx46 B W) tb_ok mixed Try.func46 (rfl : Try.f46.body = some body46) (by kernel_rfl) plans46 rfl rfl rfl hle h

noncomputable def cx47 (B : Nat → List Nat) (W : List Nat) : Cx := { P := Try.prog, T := tb, n := 25, W := W, B := B }
noncomputable abbrev body47 : Code := match Try.f47.body with | some c => c | none => .skip
theorem plans47 : plansB (fun _ => none) body47 = true := by kernel_rfl
/-- vignette/vignetteref08.Base -/
theorem walk47 (B : Nat → List Nat) (W : List Nat)  {args : List AV} {M : AH} {K Kp : AV → AH → Prop} (hle : Nat.ble args.length 25 = true)
    (h : codeA (cx47 B W) body47 (postA tb Try.f47.results.toList K) Kp (initA args) M) : CallA Try.prog 47 args M K Kp :=
  CallA.intro (x := cx47 B W) tb_ok mixed Try.func47 (rfl : Try.f47.body = some body47) (by kernel_rfl) plans47 rfl rfl rfl hle h
theorem step47 (B : Nat → List Nat) (W : List Nat)  {args : List AV} {M : AH} {K Kp : AV → AH → Prop} (hle : Nat.ble args.length 25 = true)
    (h : codeO (cx47 B W) body47 (postA tb Try.f47.results.toList K) Kp (initA args) M) : CallA Try.prog 47 args M K Kp :=
  CallO.intro (x := cx47 B W) tb_ok mixed Try.func47 (rfl : Try.f47.body = some body47) (by kernel_rfl) plans47 rfl rfl rfl hle h

noncomputable def cx48 (B : Nat → List Nat) (W : List Nat) : Cx := { P := Try.prog, T := tb, n := 23, W := W, B := B }
noncomputable abbrev body48 : Code := match Try.f48.body with | some c => c | none => .skip
theorem plans48 : plansB (fun _ => none) body48 = true := by kernel_rfl
/-- vignette/vignetteref08.Far -/
theorem walk48 (B : Nat → List Nat) (W : List Nat)  {args : List AV} {M : AH} {K Kp : AV → AH → Prop} (hle : Nat.ble args.length 23 = true)
    (h : codeA (cx48 B W) body48 (postA tb Try.f48.results.toList K) Kp (initA args) M) : CallA Try.prog 48 args M K Kp :=
  CallA.intro (x := cx48 B W) tb_ok mixed Try.func48 (rfl : Try.f48.body = some body48) (by kernel_rfl) plans48 rfl rfl rfl hle h
theorem step48 (B : Nat → List Nat) (W : List Nat)  {args : List AV} {M : AH} {K Kp : AV → AH → Prop} (hle : Nat.ble args.length 23 = true)
    (h : codeO (cx48 B W) body48 (postA tb Try.f48.results.toList K) Kp (initA args) M) : CallA Try.prog 48 args M K Kp :=
  CallO.intro (x := cx48 B W) tb_ok mixed Try.func48 (rfl : Try.f48.body = some body48) (by kernel_rfl) plans48 rfl rfl rfl hle h

noncomputable def cx49 (B : Nat → List Nat) (W : List Nat) : Cx := { P := Try.prog, T := tb, n := 30, W := W, B := B }
noncomputable abbrev body49 : Code := match Try.f49.body with | some c => c | none => .skip
theorem plans49 : plansB (fun _ => none) body49 = true := by kernel_rfl
/-- math/bits.Mul -/
theorem walk49 (B : Nat → List Nat) (W : List Nat)  {args : List AV} {M : AH} {K Kp : AV → AH → Prop} (hle : Nat.ble args.length 30 = true)
    (h : codeA (cx49 B W) body49 (postA tb Try.f49.results.toList K) Kp (initA args) M) : CallA Try.prog 49 args M K Kp :=
  CallA.intro (x := cx49 B W) tb_ok mixed Try.func49 (rfl : Try.f49.body = some body49) (by kernel_rfl) plans49 rfl rfl rfl hle h
theorem step49 (B : Nat → List Nat) (W : List Nat)  {args : List AV} {M : AH} {K Kp : AV → AH → Prop} (hle : Nat.ble args.length 30 = true)
    (h : codeO (cx49 B W) body49 (postA tb Try.f49.results.toList K) Kp (initA args) M) : CallA Try.prog 49 args M K Kp :=
  CallO.intro (x := cx49 B W) tb_ok mixed Try.func49 (rfl : Try.f49.body = some body49) (by kernel_rfl) plans49 rfl rfl rfl hle h

noncomputable def cx50 (B : Nat → List Nat) (W : List Nat) : Cx := { P := Try.prog, T := tb, n := 19, W := W, B := B }
noncomputable abbrev body50 : Code := match Try.f50.body with | some c => c | none => .skip
theorem plans50 : plansB (fun _ => none) body50 = true := by kernel_rfl
/-- (*vignette/inflate.reader).symbol -/
theorem walk50 (B : Nat → List Nat) (W : List Nat)  {args : List AV} {M : AH} {K Kp : AV → AH → Prop} (hle : Nat.ble args.length 19 = true)
    (h : codeA (cx50 B W) body50 (postA tb Try.f50.results.toList K) Kp (initA args) M) : CallA Try.prog 50 args M K Kp :=
  CallA.intro (x := cx50 B W) tb_ok mixed Try.func50 (rfl : Try.f50.body = some body50) (by kernel_rfl) plans50 rfl rfl rfl hle h
theorem step50 (B : Nat → List Nat) (W : List Nat)  {args : List AV} {M : AH} {K Kp : AV → AH → Prop} (hle : Nat.ble args.length 19 = true)
    (h : codeO (cx50 B W) body50 (postA tb Try.f50.results.toList K) Kp (initA args) M) : CallA Try.prog 50 args M K Kp :=
  CallO.intro (x := cx50 B W) tb_ok mixed Try.func50 (rfl : Try.f50.body = some body50) (by kernel_rfl) plans50 rfl rfl rfl hle h

noncomputable def pl51 : Nat → Option (List (Nat × Nat) × List Nat) := fun id => match id with
  | 4 => some ([(0, 0), (1, 0), (2, 0), (3, 0), (4, 0), (5, 0), (6, 0), (7, 0), (8, 0), (9, 3), (10, 0), (11, 0)], [9])
  | _ => none
noncomputable def cx51 (B : Nat → List Nat) (W : List Nat) : Cx := { P := Try.prog, T := tb, n := 28, W := W, B := B, pl := pl51 }
noncomputable abbrev body51 : Code := match Try.f51.body with | some c => c | none => .skip
theorem plans51 : plansB pl51 body51 = true := by kernel_rfl
/-- (*vignette/inflate.reader).far -/
theorem walk51 (B : Nat → List Nat) (W : List Nat)  {args : List AV} {M : AH} {K Kp : AV → AH → Prop} (hle : Nat.ble args.length 28 = true)
    (h : codeA (cx51 B W) body51 (postA tb Try.f51.results.toList K) Kp (initA args) M) : CallA Try.prog 51 args M K Kp :=
  CallA.intro (x := cx51 B W) tb_ok mixed Try.func51 (rfl : Try.f51.body = some body51) (by kernel_rfl) plans51 rfl rfl rfl hle h
theorem step51 (B : Nat → List Nat) (W : List Nat)  {args : List AV} {M : AH} {K Kp : AV → AH → Prop} (hle : Nat.ble args.length 28 = true)
    (h : codeO (cx51 B W) body51 (postA tb Try.f51.results.toList K) Kp (initA args) M) : CallA Try.prog 51 args M K Kp :=
  CallO.intro (x := cx51 B W) tb_ok mixed Try.func51 (rfl : Try.f51.body = some body51) (by kernel_rfl) plans51 rfl rfl rfl hle h

noncomputable def cx52 (B : Nat → List Nat) (W : List Nat) : Cx := { P := Try.prog, T := tb, n := 16, W := W, B := B }
noncomputable abbrev body52 : Code := match Try.f52.body with | some c => c | none => .skip
theorem plans52 : plansB (fun _ => none) body52 = true := by kernel_rfl
/-- vignette/huff.New -/
theorem walk52 (B : Nat → List Nat) (W : List Nat)  {args : List AV} {M : AH} {K Kp : AV → AH → Prop} (hle : Nat.ble args.length 16 = true)
    (h : codeA (cx52 B W) body52 (postA tb Try.f52.results.toList K) Kp (initA args) M) : CallA Try.prog 52 args M K Kp :=
  CallA.intro (x := cx52 B W) tb_ok mixed Try.func52 (rfl : Try.f52.body = some body52) (by kernel_rfl) plans52 rfl rfl rfl hle h
theorem step52 (B : Nat → List Nat) (W : List Nat)  {args : List AV} {M : AH} {K Kp : AV → AH → Prop} (hle : Nat.ble args.length 16 = true)
    (h : codeO (cx52 B W) body52 (postA tb Try.f52.results.toList K) Kp (initA args) M) : CallA Try.prog 52 args M K Kp :=
  CallO.intro (x := cx52 B W) tb_ok mixed Try.func52 (rfl : Try.f52.body = some body52) (by kernel_rfl) plans52 rfl rfl rfl hle h

noncomputable def pl53 : Nat → Option (List (Nat × Nat) × List Nat) := fun id => match id with
  | 3 => some ([(0, 0), (1, 0), (2, 0), (6, 0), (7, 0), (8, 0), (3, 1), (4, 0), (5, 0), (9, 1), (10, 0), (11, 0)], [])
  | _ => none
noncomputable def cx53 (B : Nat → List Nat) (W : List Nat) : Cx := { P := Try.prog, T := tb, n := 16, W := W, B := B, pl := pl53 }
noncomputable abbrev body53 : Code := match Try.f53.body with | some c => c | none => .skip
theorem plans53 : plansB pl53 body53 = true := by kernel_rfl
/-- (*vignette/bits.Reader).Left -/
theorem walk53 (B : Nat → List Nat) (W : List Nat)  {args : List AV} {M : AH} {K Kp : AV → AH → Prop} (hle : Nat.ble args.length 16 = true)
    (h : codeA (cx53 B W) body53 (postA tb Try.f53.results.toList K) Kp (initA args) M) : CallA Try.prog 53 args M K Kp :=
  CallA.intro (x := cx53 B W) tb_ok mixed Try.func53 (rfl : Try.f53.body = some body53) (by kernel_rfl) plans53 rfl rfl rfl hle h
theorem step53 (B : Nat → List Nat) (W : List Nat)  {args : List AV} {M : AH} {K Kp : AV → AH → Prop} (hle : Nat.ble args.length 16 = true)
    (h : codeO (cx53 B W) body53 (postA tb Try.f53.results.toList K) Kp (initA args) M) : CallA Try.prog 53 args M K Kp :=
  CallO.intro (x := cx53 B W) tb_ok mixed Try.func53 (rfl : Try.f53.body = some body53) (by kernel_rfl) plans53 rfl rfl rfl hle h

noncomputable def cx54 (B : Nat → List Nat) (W : List Nat) : Cx := { P := Try.prog, T := tb, n := 9, W := W, B := B }
noncomputable abbrev body54 : Code := match Try.f54.body with | some c => c | none => .skip
theorem plans54 : plansB (fun _ => none) body54 = true := by kernel_rfl
/-- slices.ContainsFunc[[]int,int] -/
theorem walk54 (B : Nat → List Nat) (W : List Nat)  {args : List AV} {M : AH} {K Kp : AV → AH → Prop} (hle : Nat.ble args.length 9 = true)
    (h : codeA (cx54 B W) body54 (postA tb Try.f54.results.toList K) Kp (initA args) M) : CallA Try.prog 54 args M K Kp :=
  CallA.intro (x := cx54 B W) tb_ok mixed Try.func54 (rfl : Try.f54.body = some body54) (by kernel_rfl) plans54 rfl rfl rfl hle h
theorem step54 (B : Nat → List Nat) (W : List Nat)  {args : List AV} {M : AH} {K Kp : AV → AH → Prop} (hle : Nat.ble args.length 9 = true)
    (h : codeO (cx54 B W) body54 (postA tb Try.f54.results.toList K) Kp (initA args) M) : CallA Try.prog 54 args M K Kp :=
  CallO.intro (x := cx54 B W) tb_ok mixed Try.func54 (rfl : Try.f54.body = some body54) (by kernel_rfl) plans54 rfl rfl rfl hle h

noncomputable def cx55 (B : Nat → List Nat) (W : List Nat) : Cx := { P := Try.prog, T := tb, n := 9, W := W, B := B }
noncomputable abbrev body55 : Code := match Try.f55.body with | some c => c | none => .skip
theorem plans55 : plansB (fun _ => none) body55 = true := by kernel_rfl
/-- vignette/huff.Lengths$1 -/
theorem walk55 (B : Nat → List Nat) (W : List Nat)  {args : List AV} {M : AH} {K Kp : AV → AH → Prop} (hle : Nat.ble args.length 9 = true)
    (h : codeA (cx55 B W) body55 (postA tb Try.f55.results.toList K) Kp (initA args) M) : CallA Try.prog 55 args M K Kp :=
  CallA.intro (x := cx55 B W) tb_ok mixed Try.func55 (rfl : Try.f55.body = some body55) (by kernel_rfl) plans55 rfl rfl rfl hle h
theorem step55 (B : Nat → List Nat) (W : List Nat)  {args : List AV} {M : AH} {K Kp : AV → AH → Prop} (hle : Nat.ble args.length 9 = true)
    (h : codeO (cx55 B W) body55 (postA tb Try.f55.results.toList K) Kp (initA args) M) : CallA Try.prog 55 args M K Kp :=
  CallO.intro (x := cx55 B W) tb_ok mixed Try.func55 (rfl : Try.f55.body = some body55) (by kernel_rfl) plans55 rfl rfl rfl hle h

noncomputable def pl56 : Nat → Option (List (Nat × Nat) × List Nat) := fun id => match id with
  | 11 => some ([(0, 0), (2, 0), (5, 0), (1, 1), (3, 1), (4, 0), (6, 1), (7, 13), (8, 0), (9, 2), (10, 3)], [10])
  | _ => none
noncomputable def cx56 (B : Nat → List Nat) (W : List Nat) : Cx := { P := Try.prog, T := tb, n := 62, W := W, B := B, pl := pl56 }
noncomputable abbrev body56 : Code := match Try.f56.body with | some c => c | none => .skip
theorem plans56 : plansB pl56 body56 = true := by kernel_rfl
/-- vignette/huff.pairs -/
theorem walk56 (B : Nat → List Nat) (W : List Nat)  {args : List AV} {M : AH} {K Kp : AV → AH → Prop} (hle : Nat.ble args.length 62 = true)
    (h : codeA (cx56 B W) body56 (postA tb Try.f56.results.toList K) Kp (initA args) M) : CallA Try.prog 56 args M K Kp :=
  CallA.intro (x := cx56 B W) tb_ok mixed Try.func56 (rfl : Try.f56.body = some body56) (by kernel_rfl) plans56 rfl rfl rfl hle h
theorem step56 (B : Nat → List Nat) (W : List Nat)  {args : List AV} {M : AH} {K Kp : AV → AH → Prop} (hle : Nat.ble args.length 62 = true)
    (h : codeO (cx56 B W) body56 (postA tb Try.f56.results.toList K) Kp (initA args) M) : CallA Try.prog 56 args M K Kp :=
  CallO.intro (x := cx56 B W) tb_ok mixed Try.func56 (rfl : Try.f56.body = some body56) (by kernel_rfl) plans56 rfl rfl rfl hle h

noncomputable def cx57 (B : Nat → List Nat) (W : List Nat) : Cx := { P := Try.prog, T := tb, n := 17, W := W, B := B }
noncomputable abbrev body57 : Code := match Try.f57.body with | some c => c | none => .skip
theorem plans57 : plansB (fun _ => none) body57 = true := by kernel_rfl
/-- container/heap.Init -/
theorem walk57 (B : Nat → List Nat) (W : List Nat)  {args : List AV} {M : AH} {K Kp : AV → AH → Prop} (hle : Nat.ble args.length 17 = true)
    (h : codeA (cx57 B W) body57 (postA tb Try.f57.results.toList K) Kp (initA args) M) : CallA Try.prog 57 args M K Kp :=
  CallA.intro (x := cx57 B W) tb_ok mixed Try.func57 (rfl : Try.f57.body = some body57) (by kernel_rfl) plans57 rfl rfl rfl hle h
theorem step57 (B : Nat → List Nat) (W : List Nat)  {args : List AV} {M : AH} {K Kp : AV → AH → Prop} (hle : Nat.ble args.length 17 = true)
    (h : codeO (cx57 B W) body57 (postA tb Try.f57.results.toList K) Kp (initA args) M) : CallA Try.prog 57 args M K Kp :=
  CallO.intro (x := cx57 B W) tb_ok mixed Try.func57 (rfl : Try.f57.body = some body57) (by kernel_rfl) plans57 rfl rfl rfl hle h

noncomputable def cx58 (B : Nat → List Nat) (W : List Nat) : Cx := { P := Try.prog, T := tb, n := 7, W := W, B := B }
noncomputable abbrev body58 : Code := match Try.f58.body with | some c => c | none => .skip
theorem plans58 : plansB (fun _ => none) body58 = true := by kernel_rfl
/-- (*vignette/huff.queue).take -/
theorem walk58 (B : Nat → List Nat) (W : List Nat)  {args : List AV} {M : AH} {K Kp : AV → AH → Prop} (hle : Nat.ble args.length 7 = true)
    (h : codeA (cx58 B W) body58 (postA tb Try.f58.results.toList K) Kp (initA args) M) : CallA Try.prog 58 args M K Kp :=
  CallA.intro (x := cx58 B W) tb_ok mixed Try.func58 (rfl : Try.f58.body = some body58) (by kernel_rfl) plans58 rfl rfl rfl hle h
theorem step58 (B : Nat → List Nat) (W : List Nat)  {args : List AV} {M : AH} {K Kp : AV → AH → Prop} (hle : Nat.ble args.length 7 = true)
    (h : codeO (cx58 B W) body58 (postA tb Try.f58.results.toList K) Kp (initA args) M) : CallA Try.prog 58 args M K Kp :=
  CallO.intro (x := cx58 B W) tb_ok mixed Try.func58 (rfl : Try.f58.body = some body58) (by kernel_rfl) plans58 rfl rfl rfl hle h

noncomputable def cx59 (B : Nat → List Nat) (W : List Nat) : Cx := { P := Try.prog, T := tb, n := 9, W := W, B := B }
noncomputable abbrev body59 : Code := match Try.f59.body with | some c => c | none => .skip
theorem plans59 : plansB (fun _ => none) body59 = true := by kernel_rfl
/-- slices.ContainsFunc[[]uint8,uint8] -/
theorem walk59 (B : Nat → List Nat) (W : List Nat)  {args : List AV} {M : AH} {K Kp : AV → AH → Prop} (hle : Nat.ble args.length 9 = true)
    (h : codeA (cx59 B W) body59 (postA tb Try.f59.results.toList K) Kp (initA args) M) : CallA Try.prog 59 args M K Kp :=
  CallA.intro (x := cx59 B W) tb_ok mixed Try.func59 (rfl : Try.f59.body = some body59) (by kernel_rfl) plans59 rfl rfl rfl hle h
theorem step59 (B : Nat → List Nat) (W : List Nat)  {args : List AV} {M : AH} {K Kp : AV → AH → Prop} (hle : Nat.ble args.length 9 = true)
    (h : codeO (cx59 B W) body59 (postA tb Try.f59.results.toList K) Kp (initA args) M) : CallA Try.prog 59 args M K Kp :=
  CallO.intro (x := cx59 B W) tb_ok mixed Try.func59 (rfl : Try.f59.body = some body59) (by kernel_rfl) plans59 rfl rfl rfl hle h

noncomputable def cx60 (B : Nat → List Nat) (W : List Nat) : Cx := { P := Try.prog, T := tb, n := 5, W := W, B := B }
noncomputable abbrev body60 : Code := match Try.f60.body with | some c => c | none => .skip
theorem plans60 : plansB (fun _ => none) body60 = true := by kernel_rfl
/-- vignette/huff.each$1 -/
theorem walk60 (B : Nat → List Nat) (W : List Nat)  {args : List AV} {M : AH} {K Kp : AV → AH → Prop} (hle : Nat.ble args.length 5 = true)
    (h : codeA (cx60 B W) body60 (postA tb Try.f60.results.toList K) Kp (initA args) M) : CallA Try.prog 60 args M K Kp :=
  CallA.intro (x := cx60 B W) tb_ok mixed Try.func60 (rfl : Try.f60.body = some body60) (by kernel_rfl) plans60 rfl rfl rfl hle h
theorem step60 (B : Nat → List Nat) (W : List Nat)  {args : List AV} {M : AH} {K Kp : AV → AH → Prop} (hle : Nat.ble args.length 5 = true)
    (h : codeO (cx60 B W) body60 (postA tb Try.f60.results.toList K) Kp (initA args) M) : CallA Try.prog 60 args M K Kp :=
  CallO.intro (x := cx60 B W) tb_ok mixed Try.func60 (rfl : Try.f60.body = some body60) (by kernel_rfl) plans60 rfl rfl rfl hle h

noncomputable def cx61 (B : Nat → List Nat) (W : List Nat) : Cx := { P := Try.prog, T := tb, n := 17, W := W, B := B }
noncomputable abbrev body61 : Code := match Try.f61.body with | some c => c | none => .skip
theorem plans61 : plansB (fun _ => none) body61 = true := by kernel_rfl
/-- math/bits.Mul32 -/
theorem walk61 (B : Nat → List Nat) (W : List Nat)  {args : List AV} {M : AH} {K Kp : AV → AH → Prop} (hle : Nat.ble args.length 17 = true)
    (h : codeA (cx61 B W) body61 (postA tb Try.f61.results.toList K) Kp (initA args) M) : CallA Try.prog 61 args M K Kp :=
  CallA.intro (x := cx61 B W) tb_ok mixed Try.func61 (rfl : Try.f61.body = some body61) (by kernel_rfl) plans61 rfl rfl rfl hle h
theorem step61 (B : Nat → List Nat) (W : List Nat)  {args : List AV} {M : AH} {K Kp : AV → AH → Prop} (hle : Nat.ble args.length 17 = true)
    (h : codeO (cx61 B W) body61 (postA tb Try.f61.results.toList K) Kp (initA args) M) : CallA Try.prog 61 args M K Kp :=
  CallO.intro (x := cx61 B W) tb_ok mixed Try.func61 (rfl : Try.f61.body = some body61) (by kernel_rfl) plans61 rfl rfl rfl hle h

noncomputable def cx62 (B : Nat → List Nat) (W : List Nat) : Cx := { P := Try.prog, T := tb, n := 51, W := W, B := B }
noncomputable abbrev body62 : Code := match Try.f62.body with | some c => c | none => .skip
theorem plans62 : plansB (fun _ => none) body62 = true := by kernel_rfl
/-- math/bits.Mul64 -/
theorem walk62 (B : Nat → List Nat) (W : List Nat)  {args : List AV} {M : AH} {K Kp : AV → AH → Prop} (hle : Nat.ble args.length 51 = true)
    (h : codeA (cx62 B W) body62 (postA tb Try.f62.results.toList K) Kp (initA args) M) : CallA Try.prog 62 args M K Kp :=
  CallA.intro (x := cx62 B W) tb_ok mixed Try.func62 (rfl : Try.f62.body = some body62) (by kernel_rfl) plans62 rfl rfl rfl hle h
theorem step62 (B : Nat → List Nat) (W : List Nat)  {args : List AV} {M : AH} {K Kp : AV → AH → Prop} (hle : Nat.ble args.length 51 = true)
    (h : codeO (cx62 B W) body62 (postA tb Try.f62.results.toList K) Kp (initA args) M) : CallA Try.prog 62 args M K Kp :=
  CallO.intro (x := cx62 B W) tb_ok mixed Try.func62 (rfl : Try.f62.body = some body62) (by kernel_rfl) plans62 rfl rfl rfl hle h

noncomputable def pl63 : Nat → Option (List (Nat × Nat) × List Nat) := fun id => match id with
  | 4 => some ([(0, 0), (1, 0), (2, 0), (3, 1), (4, 1), (5, 1), (6, 0), (7, 0), (8, 0), (9, 0), (10, 0)], [])
  | _ => none
noncomputable def cx63 (B : Nat → List Nat) (W : List Nat) : Cx := { P := Try.prog, T := tb, n := 52, W := W, B := B, pl := pl63 }
noncomputable abbrev body63 : Code := match Try.f63.body with | some c => c | none => .skip
theorem plans63 : plansB pl63 body63 = true := by kernel_rfl
/-- (*vignette/huff.Table).Read -/
theorem walk63 (B : Nat → List Nat) (W : List Nat)  {args : List AV} {M : AH} {K Kp : AV → AH → Prop} (hle : Nat.ble args.length 52 = true)
    (h : codeA (cx63 B W) body63 (postA tb Try.f63.results.toList K) Kp (initA args) M) : CallA Try.prog 63 args M K Kp :=
  CallA.intro (x := cx63 B W) tb_ok mixed Try.func63 (rfl : Try.f63.body = some body63) (by kernel_rfl) plans63 rfl rfl rfl hle h
theorem step63 (B : Nat → List Nat) (W : List Nat)  {args : List AV} {M : AH} {K Kp : AV → AH → Prop} (hle : Nat.ble args.length 52 = true)
    (h : codeO (cx63 B W) body63 (postA tb Try.f63.results.toList K) Kp (initA args) M) : CallA Try.prog 63 args M K Kp :=
  CallO.intro (x := cx63 B W) tb_ok mixed Try.func63 (rfl : Try.f63.body = some body63) (by kernel_rfl) plans63 rfl rfl rfl hle h

noncomputable def pl64 : Nat → Option (List (Nat × Nat) × List Nat) := fun id => match id with
  | 4 => some ([(4, 0), (5, 0), (6, 0), (7, 0), (8, 0), (9, 0), (10, 0), (0, 1), (1, 0), (2, 0), (3, 1), (11, 3)], [11])
  | _ => none
noncomputable def cx64 (B : Nat → List Nat) (W : List Nat) : Cx := { P := Try.prog, T := tb, n := 33, W := W, B := B, pl := pl64 }
noncomputable abbrev body64 : Code := match Try.f64.body with | some c => c | none => .skip
theorem plans64 : plansB pl64 body64 = true := by kernel_rfl
/-- vignette/huff.New$1 -/
theorem walk64 (B : Nat → List Nat) (W : List Nat)  {args : List AV} {M : AH} {K Kp : AV → AH → Prop} (hle : Nat.ble args.length 33 = true)
    (h : codeA (cx64 B W) body64 (postA tb Try.f64.results.toList K) Kp (initA args) M) : CallA Try.prog 64 args M K Kp :=
  CallA.intro (x := cx64 B W) tb_ok mixed Try.func64 (rfl : Try.f64.body = some body64) (by kernel_rfl) plans64 rfl rfl rfl hle h
theorem step64 (B : Nat → List Nat) (W : List Nat)  {args : List AV} {M : AH} {K Kp : AV → AH → Prop} (hle : Nat.ble args.length 33 = true)
    (h : codeO (cx64 B W) body64 (postA tb Try.f64.results.toList K) Kp (initA args) M) : CallA Try.prog 64 args M K Kp :=
  CallO.intro (x := cx64 B W) tb_ok mixed Try.func64 (rfl : Try.f64.body = some body64) (by kernel_rfl) plans64 rfl rfl rfl hle h

noncomputable def cx65 (B : Nat → List Nat) (W : List Nat) : Cx := { P := Try.prog, T := tb, n := 19, W := W, B := B }
noncomputable abbrev body65 : Code := match Try.f65.body with | some c => c | none => .skip
theorem plans65 : plansB (fun _ => none) body65 = true := by kernel_rfl
/-- slices.IndexFunc[[]int,int] -/
theorem walk65 (B : Nat → List Nat) (W : List Nat)  {args : List AV} {M : AH} {K Kp : AV → AH → Prop} (hle : Nat.ble args.length 19 = true)
    (h : codeA (cx65 B W) body65 (postA tb Try.f65.results.toList K) Kp (initA args) M) : CallA Try.prog 65 args M K Kp :=
  CallA.intro (x := cx65 B W) tb_ok mixed Try.func65 (rfl : Try.f65.body = some body65) (by kernel_rfl) plans65 rfl rfl rfl hle h
theorem step65 (B : Nat → List Nat) (W : List Nat)  {args : List AV} {M : AH} {K Kp : AV → AH → Prop} (hle : Nat.ble args.length 19 = true)
    (h : codeO (cx65 B W) body65 (postA tb Try.f65.results.toList K) Kp (initA args) M) : CallA Try.prog 65 args M K Kp :=
  CallO.intro (x := cx65 B W) tb_ok mixed Try.func65 (rfl : Try.f65.body = some body65) (by kernel_rfl) plans65 rfl rfl rfl hle h

noncomputable def cx66 (B : Nat → List Nat) (W : List Nat) : Cx := { P := Try.prog, T := tb, n := 8, W := W, B := B }
noncomputable abbrev body66 : Code := match Try.f66.body with | some c => c | none => .skip
theorem plans66 : plansB (fun _ => none) body66 = true := by kernel_rfl
/-- slices.Clone[[]vignette/huff.item,vignette/huff.item] -/
theorem walk66 (B : Nat → List Nat) (W : List Nat)  {args : List AV} {M : AH} {K Kp : AV → AH → Prop} (hle : Nat.ble args.length 8 = true)
    (h : codeA (cx66 B W) body66 (postA tb Try.f66.results.toList K) Kp (initA args) M) : CallA Try.prog 66 args M K Kp :=
  CallA.intro (x := cx66 B W) tb_ok mixed Try.func66 (rfl : Try.f66.body = some body66) (by kernel_rfl) plans66 rfl rfl rfl hle h
theorem step66 (B : Nat → List Nat) (W : List Nat)  {args : List AV} {M : AH} {K Kp : AV → AH → Prop} (hle : Nat.ble args.length 8 = true)
    (h : codeO (cx66 B W) body66 (postA tb Try.f66.results.toList K) Kp (initA args) M) : CallA Try.prog 66 args M K Kp :=
  CallO.intro (x := cx66 B W) tb_ok mixed Try.func66 (rfl : Try.f66.body = some body66) (by kernel_rfl) plans66 rfl rfl rfl hle h

noncomputable def cx67 (B : Nat → List Nat) (W : List Nat) : Cx := { P := Try.prog, T := tb, n := 5, W := W, B := B }
noncomputable abbrev body67 : Code := match Try.f67.body with | some c => c | none => .skip
theorem plans67 : plansB (fun _ => none) body67 = true := by kernel_rfl
/-- (vignette/huff.queue).Len -/
theorem walk67 (B : Nat → List Nat) (W : List Nat)  {args : List AV} {M : AH} {K Kp : AV → AH → Prop} (hle : Nat.ble args.length 5 = true)
    (h : codeA (cx67 B W) body67 (postA tb Try.f67.results.toList K) Kp (initA args) M) : CallA Try.prog 67 args M K Kp :=
  CallA.intro (x := cx67 B W) tb_ok mixed Try.func67 (rfl : Try.f67.body = some body67) (by kernel_rfl) plans67 rfl rfl rfl hle h
theorem step67 (B : Nat → List Nat) (W : List Nat)  {args : List AV} {M : AH} {K Kp : AV → AH → Prop} (hle : Nat.ble args.length 5 = true)
    (h : codeO (cx67 B W) body67 (postA tb Try.f67.results.toList K) Kp (initA args) M) : CallA Try.prog 67 args M K Kp :=
  CallO.intro (x := cx67 B W) tb_ok mixed Try.func67 (rfl : Try.f67.body = some body67) (by kernel_rfl) plans67 rfl rfl rfl hle h

noncomputable def cx68 (B : Nat → List Nat) (W : List Nat) : Cx := { P := Try.prog, T := tb, n := 8, W := W, B := B }
noncomputable abbrev body68 : Code := match Try.f68.body with | some c => c | none => .skip
theorem plans68 : plansB (fun _ => none) body68 = true := by kernel_rfl
/-- slices.Clone[[]int,int] -/
theorem walk68 (B : Nat → List Nat) (W : List Nat)  {args : List AV} {M : AH} {K Kp : AV → AH → Prop} (hle : Nat.ble args.length 8 = true)
    (h : codeA (cx68 B W) body68 (postA tb Try.f68.results.toList K) Kp (initA args) M) : CallA Try.prog 68 args M K Kp :=
  CallA.intro (x := cx68 B W) tb_ok mixed Try.func68 (rfl : Try.f68.body = some body68) (by kernel_rfl) plans68 rfl rfl rfl hle h
theorem step68 (B : Nat → List Nat) (W : List Nat)  {args : List AV} {M : AH} {K Kp : AV → AH → Prop} (hle : Nat.ble args.length 8 = true)
    (h : codeO (cx68 B W) body68 (postA tb Try.f68.results.toList K) Kp (initA args) M) : CallA Try.prog 68 args M K Kp :=
  CallO.intro (x := cx68 B W) tb_ok mixed Try.func68 (rfl : Try.f68.body = some body68) (by kernel_rfl) plans68 rfl rfl rfl hle h

noncomputable def cx69 (B : Nat → List Nat) (W : List Nat) : Cx := { P := Try.prog, T := tb, n := 48, W := W, B := B }
noncomputable abbrev body69 : Code := match Try.f69.body with | some c => c | none => .skip
theorem plans69 : plansB (fun _ => none) body69 = true := by kernel_rfl
/-- container/heap.down -/
theorem walk69 (B : Nat → List Nat) (W : List Nat)  {args : List AV} {M : AH} {K Kp : AV → AH → Prop} (hle : Nat.ble args.length 48 = true)
    (h : codeA (cx69 B W) body69 (postA tb Try.f69.results.toList K) Kp (initA args) M) : CallA Try.prog 69 args M K Kp :=
  CallA.intro (x := cx69 B W) tb_ok mixed Try.func69 (rfl : Try.f69.body = some body69) (by kernel_rfl) plans69 rfl rfl rfl hle h
theorem step69 (B : Nat → List Nat) (W : List Nat)  {args : List AV} {M : AH} {K Kp : AV → AH → Prop} (hle : Nat.ble args.length 48 = true)
    (h : codeO (cx69 B W) body69 (postA tb Try.f69.results.toList K) Kp (initA args) M) : CallA Try.prog 69 args M K Kp :=
  CallO.intro (x := cx69 B W) tb_ok mixed Try.func69 (rfl : Try.f69.body = some body69) (by kernel_rfl) plans69 rfl rfl rfl hle h

noncomputable def cx70 (B : Nat → List Nat) (W : List Nat) : Cx := { P := Try.prog, T := tb, n := 15, W := W, B := B }
noncomputable abbrev body70 : Code := match Try.f70.body with | some c => c | none => .skip
theorem plans70 : plansB (fun _ => none) body70 = true := by kernel_rfl
/-- container/heap.Pop -/
theorem walk70 (B : Nat → List Nat) (W : List Nat)  {args : List AV} {M : AH} {K Kp : AV → AH → Prop} (hle : Nat.ble args.length 15 = true)
    (h : codeA (cx70 B W) body70 (postA tb Try.f70.results.toList K) Kp (initA args) M) : CallA Try.prog 70 args M K Kp :=
  CallA.intro (x := cx70 B W) tb_ok mixed Try.func70 (rfl : Try.f70.body = some body70) (by kernel_rfl) plans70 rfl rfl rfl hle h
theorem step70 (B : Nat → List Nat) (W : List Nat)  {args : List AV} {M : AH} {K Kp : AV → AH → Prop} (hle : Nat.ble args.length 15 = true)
    (h : codeO (cx70 B W) body70 (postA tb Try.f70.results.toList K) Kp (initA args) M) : CallA Try.prog 70 args M K Kp :=
  CallO.intro (x := cx70 B W) tb_ok mixed Try.func70 (rfl : Try.f70.body = some body70) (by kernel_rfl) plans70 rfl rfl rfl hle h

noncomputable def cx71 (B : Nat → List Nat) (W : List Nat) : Cx := { P := Try.prog, T := tb, n := 19, W := W, B := B }
noncomputable abbrev body71 : Code := match Try.f71.body with | some c => c | none => .skip
theorem plans71 : plansB (fun _ => none) body71 = true := by kernel_rfl
/-- slices.IndexFunc[[]uint8,uint8] -/
theorem walk71 (B : Nat → List Nat) (W : List Nat)  {args : List AV} {M : AH} {K Kp : AV → AH → Prop} (hle : Nat.ble args.length 19 = true)
    (h : codeA (cx71 B W) body71 (postA tb Try.f71.results.toList K) Kp (initA args) M) : CallA Try.prog 71 args M K Kp :=
  CallA.intro (x := cx71 B W) tb_ok mixed Try.func71 (rfl : Try.f71.body = some body71) (by kernel_rfl) plans71 rfl rfl rfl hle h
theorem step71 (B : Nat → List Nat) (W : List Nat)  {args : List AV} {M : AH} {K Kp : AV → AH → Prop} (hle : Nat.ble args.length 19 = true)
    (h : codeO (cx71 B W) body71 (postA tb Try.f71.results.toList K) Kp (initA args) M) : CallA Try.prog 71 args M K Kp :=
  CallO.intro (x := cx71 B W) tb_ok mixed Try.func71 (rfl : Try.f71.body = some body71) (by kernel_rfl) plans71 rfl rfl rfl hle h

noncomputable def pl89 : Nat → Option (List (Nat × Nat) × List Nat) := fun id => match id with
  | 1 => some ([(0, 0), (1, 0), (2, 0), (3, 0), (5, 0), (6, 0), (7, 0), (8, 0), (4, 1), (9, 1), (10, 0), (11, 0), (12, 0), (13, 0), (14, 0), (15, 0), (17, 0), (18, 0), (19, 0), (20, 0), (16, 1), (21, 1), (22, 0), (23, 0), (24, 0), (25, 0), (26, 0), (27, 0), (29, 0), (30, 0), (31, 0), (32, 0), (28, 1), (33, 1), (34, 0), (35, 0), (36, 0), (37, 0)], [])
  | _ => none
noncomputable def cx89 (B : Nat → List Nat) (W : List Nat) : Cx := { P := Try.prog, T := tb, n := 44, W := W, B := B, pl := pl89 }
noncomputable abbrev body89 : Code := match Try.f89.body with | some c => c | none => .skip
theorem plans89 : plansB pl89 body89 = true := by kernel_rfl
/-- (vignette/huff.queue).Less -/
theorem walk89 (B : Nat → List Nat) (W : List Nat)  {args : List AV} {M : AH} {K Kp : AV → AH → Prop} (hle : Nat.ble args.length 44 = true)
    (h : codeA (cx89 B W) body89 (postA tb Try.f89.results.toList K) Kp (initA args) M) : CallA Try.prog 89 args M K Kp :=
  CallA.intro (x := cx89 B W) tb_ok mixed Try.func89 (rfl : Try.f89.body = some body89) (by kernel_rfl) plans89 rfl rfl rfl hle h
theorem step89 (B : Nat → List Nat) (W : List Nat)  {args : List AV} {M : AH} {K Kp : AV → AH → Prop} (hle : Nat.ble args.length 44 = true)
    (h : codeO (cx89 B W) body89 (postA tb Try.f89.results.toList K) Kp (initA args) M) : CallA Try.prog 89 args M K Kp :=
  CallO.intro (x := cx89 B W) tb_ok mixed Try.func89 (rfl : Try.f89.body = some body89) (by kernel_rfl) plans89 rfl rfl rfl hle h

noncomputable def pl90 : Nat → Option (List (Nat × Nat) × List Nat) := fun id => match id with
  | 0 => some ([(0, 0), (1, 0), (2, 0), (3, 0), (4, 0), (5, 0), (6, 0), (8, 0), (9, 0), (10, 0), (7, 1), (11, 1), (12, 0), (13, 3), (14, 0), (15, 3)], [13, 15])
  | _ => none
noncomputable def cx90 (B : Nat → List Nat) (W : List Nat) : Cx := { P := Try.prog, T := tb, n := 20, W := W, B := B, pl := pl90 }
noncomputable abbrev body90 : Code := match Try.f90.body with | some c => c | none => .skip
theorem plans90 : plansB pl90 body90 = true := by kernel_rfl
/-- (vignette/huff.queue).Swap -/
theorem walk90 (B : Nat → List Nat) (W : List Nat)  {args : List AV} {M : AH} {K Kp : AV → AH → Prop} (hle : Nat.ble args.length 20 = true)
    (h : codeA (cx90 B W) body90 (postA tb Try.f90.results.toList K) Kp (initA args) M) : CallA Try.prog 90 args M K Kp :=
  CallA.intro (x := cx90 B W) tb_ok mixed Try.func90 (rfl : Try.f90.body = some body90) (by kernel_rfl) plans90 rfl rfl rfl hle h
theorem step90 (B : Nat → List Nat) (W : List Nat)  {args : List AV} {M : AH} {K Kp : AV → AH → Prop} (hle : Nat.ble args.length 20 = true)
    (h : codeO (cx90 B W) body90 (postA tb Try.f90.results.toList K) Kp (initA args) M) : CallA Try.prog 90 args M K Kp :=
  CallO.intro (x := cx90 B W) tb_ok mixed Try.func90 (rfl : Try.f90.body = some body90) (by kernel_rfl) plans90 rfl rfl rfl hle h

noncomputable def cx91 (B : Nat → List Nat) (W : List Nat) : Cx := { P := Try.prog, T := tb, n := 23, W := W, B := B }
noncomputable abbrev body91 : Code := match Try.f91.body with | some c => c | none => .skip
theorem plans91 : plansB (fun _ => none) body91 = true := by kernel_rfl
/-- (*vignette/huff.queue).Pop -/
theorem walk91 (B : Nat → List Nat) (W : List Nat)  {args : List AV} {M : AH} {K Kp : AV → AH → Prop} (hle : Nat.ble args.length 23 = true)
    (h : codeA (cx91 B W) body91 (postA tb Try.f91.results.toList K) Kp (initA args) M) : CallA Try.prog 91 args M K Kp :=
  CallA.intro (x := cx91 B W) tb_ok mixed Try.func91 (rfl : Try.f91.body = some body91) (by kernel_rfl) plans91 rfl rfl rfl hle h
theorem step91 (B : Nat → List Nat) (W : List Nat)  {args : List AV} {M : AH} {K Kp : AV → AH → Prop} (hle : Nat.ble args.length 23 = true)
    (h : codeO (cx91 B W) body91 (postA tb Try.f91.results.toList K) Kp (initA args) M) : CallA Try.prog 91 args M K Kp :=
  CallO.intro (x := cx91 B W) tb_ok mixed Try.func91 (rfl : Try.f91.body = some body91) (by kernel_rfl) plans91 rfl rfl rfl hle h

end Go.Proofs.Yteinenklppbjkaa
