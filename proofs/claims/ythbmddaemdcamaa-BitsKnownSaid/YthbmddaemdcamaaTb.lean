/- The table of this program's types, the plans of its drawn regions, and where each function's walk begins. -/
import Derived.Test.YthbmddaemdcamaaAb21
import Derived.Test.YthbmddaemdcamaaProg
import Derived.KernelRfl
set_option linter.unusedVariables false
namespace Go.Proofs.Ythbmddaemdcamaa

noncomputable def tb : List TI := [
⟨.other, 1, 0, [.raw (.tuple #[])]⟩,
⟨.func, 1, 8, [.nf]⟩,
⟨(.int .i64), 1, 8, [.int .i64 0]⟩,
⟨(.int .i64), 1, 8, [.int .i64 0]⟩,
⟨.bool, 1, 1, [.ff]⟩,
⟨(.int .u8), 1, 1, [.int .u8 0]⟩,
⟨(.int .u8), 1, 1, [.int .u8 0]⟩,
⟨(.struct [(0, 2), (1, 3), (2, 4), (3, 6)]), 4, 24, [.int .i64 0, .int .i64 0, .ff, .int .u8 0]⟩,
⟨(.struct [(0, 2), (1, 3), (2, 4), (3, 6)]), 4, 24, [.int .i64 0, .int .i64 0, .ff, .int .u8 0]⟩,
⟨.str, 1, 16, [.str ByteArray.empty]⟩,
⟨.str, 1, 16, [.str ByteArray.empty]⟩,
⟨.str, 1, 16, [.str ByteArray.empty]⟩,
⟨(.int .u64), 1, 8, [.int .u64 0]⟩,
⟨(.struct [(0, 9), (1, 12)]), 2, 24, [.str ByteArray.empty, .int .u64 0]⟩,
⟨(.struct [(0, 9), (1, 12)]), 2, 24, [.str ByteArray.empty, .int .u64 0]⟩,
⟨(.ptr 64), 1, 8, [.np]⟩,
⟨(.ptr 67), 1, 8, [.np]⟩,
⟨(.ptr 75), 1, 8, [.np]⟩,
⟨(.struct [(0, 17)]), 1, 8, [.np]⟩,
⟨(.struct [(0, 17)]), 1, 8, [.np]⟩,
⟨.iface, 1, 16, [.ni]⟩,
⟨(.int .i32), 1, 4, [.int .i32 0]⟩,
⟨(.int .u32), 1, 4, [.int .u32 0]⟩,
⟨(.slice 5), 1, 24, [.ns]⟩,
⟨(.struct [(0, 23), (1, 22), (2, 3)]), 3, 40, [.ns, .int .u32 0, .int .i64 0]⟩,
⟨(.struct [(0, 23), (1, 22), (2, 3)]), 3, 40, [.ns, .int .u32 0, .int .i64 0]⟩,
⟨(.int .i64), 1, 8, [.int .i64 0]⟩,
⟨.func, 1, 8, [.nf]⟩,
⟨.func, 1, 8, [.nf]⟩,
⟨.func, 1, 8, [.nf]⟩,
⟨.func, 1, 8, [.nf]⟩,
⟨(.ptr 58), 1, 8, [.np]⟩,
⟨.func, 1, 8, [.nf]⟩,
⟨.other, 1, 0, [.raw (.tuple #[.int .u32 0, .int .i64 0])]⟩,
⟨.func, 1, 8, [.nf]⟩,
⟨.func, 1, 8, [.nf]⟩,
⟨.func, 1, 8, [.nf]⟩,
⟨(.slice 41), 1, 24, [.ns]⟩,
⟨(.slice 4), 1, 24, [.ns]⟩,
⟨(.slice 4), 1, 24, [.ns]⟩,
⟨(.struct [(0, 22), (1, 3), (2, 4)]), 3, 24, [.int .u32 0, .int .i64 0, .ff]⟩,
⟨(.struct [(0, 22), (1, 3), (2, 4)]), 3, 24, [.int .u32 0, .int .i64 0, .ff]⟩,
⟨.func, 1, 8, [.nf]⟩,
⟨.func, 1, 8, [.nf]⟩,
⟨.other, 1, 0, [.raw (.tuple #[.slice none 0 0, .int .i64 0])]⟩,
⟨.func, 1, 8, [.nf]⟩,
⟨.func, 1, 8, [.nf]⟩,
⟨.func, 1, 8, [.nf]⟩,
⟨.func, 1, 8, [.nf]⟩,
⟨.other, 1, 0, [.raw (.tuple #[.int .u32 0, .int .i64 0, .int .i64 0])]⟩,
⟨.func, 1, 8, [.nf]⟩,
⟨.func, 1, 8, [.nf]⟩,
⟨(.slice 3), 1, 24, [.ns]⟩,
⟨.func, 1, 8, [.nf]⟩,
⟨(.ptr 25), 1, 8, [.np]⟩,
⟨.func, 1, 8, [.nf]⟩,
⟨.func, 1, 8, [.nf]⟩,
⟨(.struct [(0, 23), (1, 3)]), 2, 32, [.ns, .int .i64 0]⟩,
⟨(.struct [(0, 23), (1, 3)]), 2, 32, [.ns, .int .i64 0]⟩,
⟨(.int .u64), 1, 8, [.int .u64 0]⟩,
⟨.func, 1, 8, [.nf]⟩,
⟨.func, 1, 8, [.nf]⟩,
⟨.func, 1, 8, [.nf]⟩,
⟨(.struct [(0, 17), (1, 17), (2, 17), (3, 9)]), 4, 40, [.np, .np, .np, .str ByteArray.empty]⟩,
⟨(.struct [(0, 17), (1, 17), (2, 17), (3, 9)]), 4, 40, [.np, .np, .np, .str ByteArray.empty]⟩,
⟨(.arr 0 16), 0, 0, []⟩,
⟨(.struct [(0, 65)]), 0, 0, []⟩,
⟨(.struct [(0, 65)]), 0, 0, []⟩,
⟨(.int .u8), 1, 1, [.int .u8 0]⟩,
⟨(.int .u8), 1, 1, [.int .u8 0]⟩,
⟨.func, 1, 8, [.nf]⟩,
⟨(.ptr 5), 1, 8, [.np]⟩,
⟨(.int .i32), 1, 4, [.int .i32 0]⟩,
⟨(.int .i32), 1, 4, [.int .i32 0]⟩,
⟨(.struct [(0, 12), (1, 12), (2, 22), (3, 68), (4, 5), (5, 5), (6, 69), (7, 70), (8, 71), (9, 72), (10, 73)]), 11, 48, [.int .u64 0, .int .u64 0, .int .u32 0, .int .u8 0, .int .u8 0, .int .u8 0, .int .u8 0, .nf, .np, .int .i32 0, .int .i32 0]⟩,
⟨(.struct [(0, 12), (1, 12), (2, 22), (3, 68), (4, 5), (5, 5), (6, 69), (7, 70), (8, 71), (9, 72), (10, 73)]), 11, 48, [.int .u64 0, .int .u64 0, .int .u32 0, .int .u8 0, .int .u8 0, .int .u8 0, .int .u8 0, .nf, .np, .int .i32 0, .int .i32 0]⟩,
⟨.other, 1, 8, [.np]⟩]
theorem tb_ok : TabOK Try.prog tb := TabOK.mk' (by kernel_rfl)
theorem mixed : Try.prog.follows .mixedOrders = true := by kernel_rfl

noncomputable def cx2 (B : Nat → List Nat) (W : List Nat) : Cx := { P := Try.prog, T := tb, n := 1, W := W, B := B }
noncomputable abbrev body2 : Code := match Try.f2.body with | some c => c | none => .skip
theorem plans2 : plansB (fun _ => none) body2 = true := by kernel_rfl
/-- gosem.cut.init -/
theorem walk2 (B : Nat → List Nat) (W : List Nat)  {args : List AV} {M : AH} {K Kp : AV → AH → Prop} (hle : Nat.ble args.length 1 = true)
    (h : codeA (cx2 B W) body2 (postA tb Try.f2.results.toList K) Kp (initA args) M) : CallA Try.prog 2 args M K Kp :=
  CallA.intro (x := cx2 B W) tb_ok mixed Try.func2 (rfl : Try.f2.body = some body2) (by kernel_rfl) plans2 rfl rfl rfl hle h
theorem step2 (B : Nat → List Nat) (W : List Nat)  {args : List AV} {M : AH} {K Kp : AV → AH → Prop} (hle : Nat.ble args.length 1 = true)
    (h : codeO (cx2 B W) body2 (postA tb Try.f2.results.toList K) Kp (initA args) M) : CallA Try.prog 2 args M K Kp :=
  CallO.intro (x := cx2 B W) tb_ok mixed Try.func2 (rfl : Try.f2.body = some body2) (by kernel_rfl) plans2 rfl rfl rfl hle h

noncomputable def cx3 (B : Nat → List Nat) (W : List Nat) : Cx := { P := Try.prog, T := tb, n := 108, W := W, B := B }
noncomputable abbrev body3 : Code := match Try.f3.body with | some c => c | none => .skip
theorem plans3 : plansB (fun _ => none) body3 = true := by kernel_rfl
/-- vignette/vignettelaw05.BitsSplit -/
theorem walk3 (B : Nat → List Nat) (W : List Nat)  {args : List AV} {M : AH} {K Kp : AV → AH → Prop} (hle : Nat.ble args.length 108 = true)
    (h : codeA (cx3 B W) body3 (postA tb Try.f3.results.toList K) Kp (initA args) M) : CallA Try.prog 3 args M K Kp :=
  CallA.intro (x := cx3 B W) tb_ok mixed Try.func3 (rfl : Try.f3.body = some body3) (by kernel_rfl) plans3 rfl rfl rfl hle h
theorem step3 (B : Nat → List Nat) (W : List Nat)  {args : List AV} {M : AH} {K Kp : AV → AH → Prop} (hle : Nat.ble args.length 108 = true)
    (h : codeO (cx3 B W) body3 (postA tb Try.f3.results.toList K) Kp (initA args) M) : CallA Try.prog 3 args M K Kp :=
  CallO.intro (x := cx3 B W) tb_ok mixed Try.func3 (rfl : Try.f3.body = some body3) (by kernel_rfl) plans3 rfl rfl rfl hle h

noncomputable def pl4 : Nat → Option (List (Nat × Nat) × List Nat) := fun id => match id with
  | 12 => some ([(0, 0), (1, 0), (2, 0), (3, 0), (4, 0), (6, 0), (7, 0), (8, 0), (9, 0), (5, 1), (10, 1), (11, 3), (12, 0), (13, 0), (14, 0), (15, 0), (16, 0)], [11])
  | 13 => some ([(0, 0), (1, 0), (2, 0), (3, 0), (5, 0), (6, 0), (7, 0), (8, 0), (11, 0), (4, 1), (9, 1), (10, 3), (12, 0)], [10])
  | _ => none
noncomputable def cx4 (B : Nat → List Nat) (W : List Nat) : Cx := { P := Try.prog, T := tb, n := 67, W := W, B := B, pl := pl4 }
noncomputable abbrev body4 : Code := match Try.f4.body with | some c => c | none => .skip
theorem plans4 : plansB pl4 body4 = true := by kernel_rfl
/-- vignette/vignettelaw05.BitsWrites -/
theorem walk4 (B : Nat → List Nat) (W : List Nat)  {args : List AV} {M : AH} {K Kp : AV → AH → Prop} (hle : Nat.ble args.length 67 = true)
    (h : codeA (cx4 B W) body4 (postA tb Try.f4.results.toList K) Kp (initA args) M) : CallA Try.prog 4 args M K Kp :=
  CallA.intro (x := cx4 B W) tb_ok mixed Try.func4 (rfl : Try.f4.body = some body4) (by kernel_rfl) plans4 rfl rfl rfl hle h
theorem step4 (B : Nat → List Nat) (W : List Nat)  {args : List AV} {M : AH} {K Kp : AV → AH → Prop} (hle : Nat.ble args.length 67 = true)
    (h : codeO (cx4 B W) body4 (postA tb Try.f4.results.toList K) Kp (initA args) M) : CallA Try.prog 4 args M K Kp :=
  CallO.intro (x := cx4 B W) tb_ok mixed Try.func4 (rfl : Try.f4.body = some body4) (by kernel_rfl) plans4 rfl rfl rfl hle h

noncomputable def cx5 (B : Nat → List Nat) (W : List Nat) : Cx := { P := Try.prog, T := tb, n := 80, W := W, B := B }
noncomputable abbrev body5 : Code := match Try.f5.body with | some c => c | none => .skip
theorem plans5 : plansB (fun _ => none) body5 = true := by kernel_rfl
/-- vignette/vignettelaw05.BitsBytes -/
theorem walk5 (B : Nat → List Nat) (W : List Nat)  {args : List AV} {M : AH} {K Kp : AV → AH → Prop} (hle : Nat.ble args.length 80 = true)
    (h : codeA (cx5 B W) body5 (postA tb Try.f5.results.toList K) Kp (initA args) M) : CallA Try.prog 5 args M K Kp :=
  CallA.intro (x := cx5 B W) tb_ok mixed Try.func5 (rfl : Try.f5.body = some body5) (by kernel_rfl) plans5 rfl rfl rfl hle h
theorem step5 (B : Nat → List Nat) (W : List Nat)  {args : List AV} {M : AH} {K Kp : AV → AH → Prop} (hle : Nat.ble args.length 80 = true)
    (h : codeO (cx5 B W) body5 (postA tb Try.f5.results.toList K) Kp (initA args) M) : CallA Try.prog 5 args M K Kp :=
  CallO.intro (x := cx5 B W) tb_ok mixed Try.func5 (rfl : Try.f5.body = some body5) (by kernel_rfl) plans5 rfl rfl rfl hle h

noncomputable def pl6 : Nat → Option (List (Nat × Nat) × List Nat) := fun id => match id with
  | 11 => some ([(0, 0), (1, 0), (2, 0), (4, 0), (5, 0), (6, 0), (3, 1), (7, 1), (8, 0)], [])
  | _ => none
noncomputable def cx6 (B : Nat → List Nat) (W : List Nat) : Cx := { P := Try.prog, T := tb, n := 115, W := W, B := B, pl := pl6 }
noncomputable abbrev body6 : Code := match Try.f6.body with | some c => c | none => .skip
theorem plans6 : plansB pl6 body6 = true := by kernel_rfl
/-- vignette/vignettelaw05.BitsReads -/
theorem walk6 (B : Nat → List Nat) (W : List Nat)  {args : List AV} {M : AH} {K Kp : AV → AH → Prop} (hle : Nat.ble args.length 115 = true)
    (h : codeA (cx6 B W) body6 (postA tb Try.f6.results.toList K) Kp (initA args) M) : CallA Try.prog 6 args M K Kp :=
  CallA.intro (x := cx6 B W) tb_ok mixed Try.func6 (rfl : Try.f6.body = some body6) (by kernel_rfl) plans6 rfl rfl rfl hle h
theorem step6 (B : Nat → List Nat) (W : List Nat)  {args : List AV} {M : AH} {K Kp : AV → AH → Prop} (hle : Nat.ble args.length 115 = true)
    (h : codeO (cx6 B W) body6 (postA tb Try.f6.results.toList K) Kp (initA args) M) : CallA Try.prog 6 args M K Kp :=
  CallO.intro (x := cx6 B W) tb_ok mixed Try.func6 (rfl : Try.f6.body = some body6) (by kernel_rfl) plans6 rfl rfl rfl hle h

noncomputable def pl7 : Nat → Option (List (Nat × Nat) × List Nat) := fun id => match id with
  | 11 => some ([(0, 0), (1, 0), (2, 0), (3, 0), (5, 0), (6, 0), (7, 0), (8, 0), (12, 0), (13, 0), (14, 0), (15, 0), (17, 0), (18, 0), (19, 0), (20, 0), (4, 1), (9, 1), (16, 1), (21, 1), (10, 2), (11, 0), (22, 3), (23, 0)], [22])
  | 22 => some ([(0, 0), (2, 0), (3, 0), (4, 0), (5, 1), (1, 2), (6, 0)], [])
  | 26 => some ([(0, 0), (1, 0), (2, 0), (3, 0), (5, 0), (6, 0), (7, 0), (8, 0), (4, 1), (9, 1), (10, 3), (11, 0)], [10])
  | _ => none
noncomputable def cx7 (B : Nat → List Nat) (W : List Nat) : Cx := { P := Try.prog, T := tb, n := 124, W := W, B := B, pl := pl7 }
noncomputable abbrev body7 : Code := match Try.f7.body with | some c => c | none => .skip
theorem plans7 : plansB pl7 body7 = true := by kernel_rfl
/-- vignette/vignettelaw05.BitsBack -/
theorem walk7 (B : Nat → List Nat) (W : List Nat)  {args : List AV} {M : AH} {K Kp : AV → AH → Prop} (hle : Nat.ble args.length 124 = true)
    (h : codeA (cx7 B W) body7 (postA tb Try.f7.results.toList K) Kp (initA args) M) : CallA Try.prog 7 args M K Kp :=
  CallA.intro (x := cx7 B W) tb_ok mixed Try.func7 (rfl : Try.f7.body = some body7) (by kernel_rfl) plans7 rfl rfl rfl hle h
theorem step7 (B : Nat → List Nat) (W : List Nat)  {args : List AV} {M : AH} {K Kp : AV → AH → Prop} (hle : Nat.ble args.length 124 = true)
    (h : codeO (cx7 B W) body7 (postA tb Try.f7.results.toList K) Kp (initA args) M) : CallA Try.prog 7 args M K Kp :=
  CallO.intro (x := cx7 B W) tb_ok mixed Try.func7 (rfl : Try.f7.body = some body7) (by kernel_rfl) plans7 rfl rfl rfl hle h

noncomputable def cx8 (B : Nat → List Nat) (W : List Nat) : Cx := { P := Try.prog, T := tb, n := 62, W := W, B := B }
noncomputable abbrev body8 : Code := match Try.f8.body with | some c => c | none => .skip
theorem plans8 : plansB (fun _ => none) body8 = true := by kernel_rfl
/-- vignette/vignettelaw05.BitsNil -/
theorem walk8 (B : Nat → List Nat) (W : List Nat)  {args : List AV} {M : AH} {K Kp : AV → AH → Prop} (hle : Nat.ble args.length 62 = true)
    (h : codeA (cx8 B W) body8 (postA tb Try.f8.results.toList K) Kp (initA args) M) : CallA Try.prog 8 args M K Kp :=
  CallA.intro (x := cx8 B W) tb_ok mixed Try.func8 (rfl : Try.f8.body = some body8) (by kernel_rfl) plans8 rfl rfl rfl hle h
theorem step8 (B : Nat → List Nat) (W : List Nat)  {args : List AV} {M : AH} {K Kp : AV → AH → Prop} (hle : Nat.ble args.length 62 = true)
    (h : codeO (cx8 B W) body8 (postA tb Try.f8.results.toList K) Kp (initA args) M) : CallA Try.prog 8 args M K Kp :=
  CallO.intro (x := cx8 B W) tb_ok mixed Try.func8 (rfl : Try.f8.body = some body8) (by kernel_rfl) plans8 rfl rfl rfl hle h

noncomputable def cx9 (B : Nat → List Nat) (W : List Nat) : Cx := { P := Try.prog, T := tb, n := 149, W := W, B := B }
noncomputable abbrev body9 : Code := match Try.f9.body with | some c => c | none => .skip
theorem plans9 : plansB (fun _ => none) body9 = true := by kernel_rfl
/-- vignette/vignettelaw05.BitsKnown -/
theorem walk9 (B : Nat → List Nat) (W : List Nat)  {args : List AV} {M : AH} {K Kp : AV → AH → Prop} (hle : Nat.ble args.length 149 = true)
    (h : codeA (cx9 B W) body9 (postA tb Try.f9.results.toList K) Kp (initA args) M) : CallA Try.prog 9 args M K Kp :=
  CallA.intro (x := cx9 B W) tb_ok mixed Try.func9 (rfl : Try.f9.body = some body9) (by kernel_rfl) plans9 rfl rfl rfl hle h
theorem step9 (B : Nat → List Nat) (W : List Nat)  {args : List AV} {M : AH} {K Kp : AV → AH → Prop} (hle : Nat.ble args.length 149 = true)
    (h : codeO (cx9 B W) body9 (postA tb Try.f9.results.toList K) Kp (initA args) M) : CallA Try.prog 9 args M K Kp :=
  CallO.intro (x := cx9 B W) tb_ok mixed Try.func9 (rfl : Try.f9.body = some body9) (by kernel_rfl) plans9 rfl rfl rfl hle h

noncomputable def cx10 (B : Nat → List Nat) (W : List Nat) : Cx := { P := Try.prog, T := tb, n := 27, W := W, B := B }
noncomputable abbrev body10 : Code := match Try.f10.body with | some c => c | none => .skip
theorem plans10 : plansB (fun _ => none) body10 = true := by kernel_rfl
/-- (*vignette/bits.Writer).Put -/
theorem walk10 (B : Nat → List Nat) (W : List Nat)  {args : List AV} {M : AH} {K Kp : AV → AH → Prop} (hle : Nat.ble args.length 27 = true)
    (h : codeA (cx10 B W) body10 (postA tb Try.f10.results.toList K) Kp (initA args) M) : CallA Try.prog 10 args M K Kp :=
  CallA.intro (x := cx10 B W) tb_ok mixed Try.func10 (rfl : Try.f10.body = some body10) (by kernel_rfl) plans10 rfl rfl rfl hle h
theorem step10 (B : Nat → List Nat) (W : List Nat)  {args : List AV} {M : AH} {K Kp : AV → AH → Prop} (hle : Nat.ble args.length 27 = true)
    (h : codeO (cx10 B W) body10 (postA tb Try.f10.results.toList K) Kp (initA args) M) : CallA Try.prog 10 args M K Kp :=
  CallO.intro (x := cx10 B W) tb_ok mixed Try.func10 (rfl : Try.f10.body = some body10) (by kernel_rfl) plans10 rfl rfl rfl hle h

noncomputable def pl11 : Nat → Option (List (Nat × Nat) × List Nat) := fun id => match id with
  | 6 => some ([(0, 0), (1, 0), (2, 0), (4, 0), (5, 0), (6, 0), (3, 1), (7, 1), (8, 0)], [])
  | _ => none
noncomputable def cx11 (B : Nat → List Nat) (W : List Nat) : Cx := { P := Try.prog, T := tb, n := 26, W := W, B := B, pl := pl11 }
noncomputable abbrev body11 : Code := match Try.f11.body with | some c => c | none => .skip
theorem plans11 : plansB pl11 body11 = true := by kernel_rfl
/-- vignette/vignettelaw05.bytes -/
theorem walk11 (B : Nat → List Nat) (W : List Nat)  {args : List AV} {M : AH} {K Kp : AV → AH → Prop} (hle : Nat.ble args.length 26 = true)
    (h : codeA (cx11 B W) body11 (postA tb Try.f11.results.toList K) Kp (initA args) M) : CallA Try.prog 11 args M K Kp :=
  CallA.intro (x := cx11 B W) tb_ok mixed Try.func11 (rfl : Try.f11.body = some body11) (by kernel_rfl) plans11 rfl rfl rfl hle h
theorem step11 (B : Nat → List Nat) (W : List Nat)  {args : List AV} {M : AH} {K Kp : AV → AH → Prop} (hle : Nat.ble args.length 26 = true)
    (h : codeO (cx11 B W) body11 (postA tb Try.f11.results.toList K) Kp (initA args) M) : CallA Try.prog 11 args M K Kp :=
  CallO.intro (x := cx11 B W) tb_ok mixed Try.func11 (rfl : Try.f11.body = some body11) (by kernel_rfl) plans11 rfl rfl rfl hle h

noncomputable def cx12 (B : Nat → List Nat) (W : List Nat) : Cx := { P := Try.prog, T := tb, n := 25, W := W, B := B }
noncomputable abbrev body12 : Code := match Try.f12.body with | some c => c | none => .skip
theorem plans12 : plansB (fun _ => none) body12 = true := by kernel_rfl
/-- (*vignette/bits.Writer).Bytes -/
theorem walk12 (B : Nat → List Nat) (W : List Nat)  {args : List AV} {M : AH} {K Kp : AV → AH → Prop} (hle : Nat.ble args.length 25 = true)
    (h : codeA (cx12 B W) body12 (postA tb Try.f12.results.toList K) Kp (initA args) M) : CallA Try.prog 12 args M K Kp :=
  CallA.intro (x := cx12 B W) tb_ok mixed Try.func12 (rfl : Try.f12.body = some body12) (by kernel_rfl) plans12 rfl rfl rfl hle h
theorem step12 (B : Nat → List Nat) (W : List Nat)  {args : List AV} {M : AH} {K Kp : AV → AH → Prop} (hle : Nat.ble args.length 25 = true)
    (h : codeO (cx12 B W) body12 (postA tb Try.f12.results.toList K) Kp (initA args) M) : CallA Try.prog 12 args M K Kp :=
  CallO.intro (x := cx12 B W) tb_ok mixed Try.func12 (rfl : Try.f12.body = some body12) (by kernel_rfl) plans12 rfl rfl rfl hle h

noncomputable def pl13 : Nat → Option (List (Nat × Nat) × List Nat) := fun id => match id with
  | 3 => some ([(0, 0), (1, 0), (2, 0), (6, 0), (7, 0), (8, 0), (3, 1), (4, 0), (5, 0), (9, 1), (10, 0), (11, 0)], [])
  | _ => none
noncomputable def cx13 (B : Nat → List Nat) (W : List Nat) : Cx := { P := Try.prog, T := tb, n := 16, W := W, B := B, pl := pl13 }
noncomputable abbrev body13 : Code := match Try.f13.body with | some c => c | none => .skip
theorem plans13 : plansB pl13 body13 = true := by kernel_rfl
/-- (*vignette/bits.Writer).Len -/
theorem walk13 (B : Nat → List Nat) (W : List Nat)  {args : List AV} {M : AH} {K Kp : AV → AH → Prop} (hle : Nat.ble args.length 16 = true)
    (h : codeA (cx13 B W) body13 (postA tb Try.f13.results.toList K) Kp (initA args) M) : CallA Try.prog 13 args M K Kp :=
  CallA.intro (x := cx13 B W) tb_ok mixed Try.func13 (rfl : Try.f13.body = some body13) (by kernel_rfl) plans13 rfl rfl rfl hle h
theorem step13 (B : Nat → List Nat) (W : List Nat)  {args : List AV} {M : AH} {K Kp : AV → AH → Prop} (hle : Nat.ble args.length 16 = true)
    (h : codeO (cx13 B W) body13 (postA tb Try.f13.results.toList K) Kp (initA args) M) : CallA Try.prog 13 args M K Kp :=
  CallO.intro (x := cx13 B W) tb_ok mixed Try.func13 (rfl : Try.f13.body = some body13) (by kernel_rfl) plans13 rfl rfl rfl hle h

noncomputable def cx14 (B : Nat → List Nat) (W : List Nat) : Cx := { P := Try.prog, T := tb, n := 7, W := W, B := B }
noncomputable abbrev body14 : Code := match Try.f14.body with | some c => c | none => .skip
theorem plans14 : plansB (fun _ => none) body14 = true := by kernel_rfl
/-- vignette/bits.New -/
theorem walk14 (B : Nat → List Nat) (W : List Nat)  {args : List AV} {M : AH} {K Kp : AV → AH → Prop} (hle : Nat.ble args.length 7 = true)
    (h : codeA (cx14 B W) body14 (postA tb Try.f14.results.toList K) Kp (initA args) M) : CallA Try.prog 14 args M K Kp :=
  CallA.intro (x := cx14 B W) tb_ok mixed Try.func14 (rfl : Try.f14.body = some body14) (by kernel_rfl) plans14 rfl rfl rfl hle h
theorem step14 (B : Nat → List Nat) (W : List Nat)  {args : List AV} {M : AH} {K Kp : AV → AH → Prop} (hle : Nat.ble args.length 7 = true)
    (h : codeO (cx14 B W) body14 (postA tb Try.f14.results.toList K) Kp (initA args) M) : CallA Try.prog 14 args M K Kp :=
  CallO.intro (x := cx14 B W) tb_ok mixed Try.func14 (rfl : Try.f14.body = some body14) (by kernel_rfl) plans14 rfl rfl rfl hle h

noncomputable def pl15 : Nat → Option (List (Nat × Nat) × List Nat) := fun id => match id with
  | 11 => some ([(0, 0), (1, 0), (2, 0), (4, 0), (5, 0), (6, 0), (12, 0), (13, 0), (14, 0), (18, 0), (19, 0), (20, 0), (3, 1), (7, 1), (8, 0), (9, 0), (10, 1), (11, 0), (15, 1), (16, 0), (17, 0), (21, 0), (22, 0)], [])
  | _ => none
noncomputable def cx15 (B : Nat → List Nat) (W : List Nat) : Cx := { P := Try.prog, T := tb, n := 74, W := W, B := B, pl := pl15 }
noncomputable abbrev body15 : Code := match Try.f15.body with | some c => c | none => .skip
theorem plans15 : plansB pl15 body15 = true := by kernel_rfl
/-- (*vignette/bits.Reader).Get -/
theorem walk15 (B : Nat → List Nat) (W : List Nat)  {args : List AV} {M : AH} {K Kp : AV → AH → Prop} (hle : Nat.ble args.length 74 = true)
    (h : codeA (cx15 B W) body15 (postA tb Try.f15.results.toList K) Kp (initA args) M) : CallA Try.prog 15 args M K Kp :=
  CallA.intro (x := cx15 B W) tb_ok mixed Try.func15 (rfl : Try.f15.body = some body15) (by kernel_rfl) plans15 rfl rfl rfl hle h
theorem step15 (B : Nat → List Nat) (W : List Nat)  {args : List AV} {M : AH} {K Kp : AV → AH → Prop} (hle : Nat.ble args.length 74 = true)
    (h : codeO (cx15 B W) body15 (postA tb Try.f15.results.toList K) Kp (initA args) M) : CallA Try.prog 15 args M K Kp :=
  CallO.intro (x := cx15 B W) tb_ok mixed Try.func15 (rfl : Try.f15.body = some body15) (by kernel_rfl) plans15 rfl rfl rfl hle h

noncomputable def cx16 (B : Nat → List Nat) (W : List Nat) : Cx := { P := Try.prog, T := tb, n := 68, W := W, B := B }
noncomputable abbrev body16 : Code := match Try.f16.body with | some c => c | none => .skip
theorem plans16 : plansB (fun _ => none) body16 = true := by kernel_rfl
/-- vignette/vignettelaw05.lays -/
theorem walk16 (B : Nat → List Nat) (W : List Nat)  {args : List AV} {M : AH} {K Kp : AV → AH → Prop} (hle : Nat.ble args.length 68 = true)
    (h : codeA (cx16 B W) body16 (postA tb Try.f16.results.toList K) Kp (initA args) M) : CallA Try.prog 16 args M K Kp :=
  CallA.intro (x := cx16 B W) tb_ok mixed Try.func16 (rfl : Try.f16.body = some body16) (by kernel_rfl) plans16 rfl rfl rfl hle h
theorem step16 (B : Nat → List Nat) (W : List Nat)  {args : List AV} {M : AH} {K Kp : AV → AH → Prop} (hle : Nat.ble args.length 68 = true)
    (h : codeO (cx16 B W) body16 (postA tb Try.f16.results.toList K) Kp (initA args) M) : CallA Try.prog 16 args M K Kp :=
  CallO.intro (x := cx16 B W) tb_ok mixed Try.func16 (rfl : Try.f16.body = some body16) (by kernel_rfl) plans16 rfl rfl rfl hle h

noncomputable def cx17 (B : Nat → List Nat) (W : List Nat) : Cx := { P := Try.prog, T := tb, n := 15, W := W, B := B }
noncomputable abbrev body17 : Code := match Try.f17.body with | some c => c | none => .skip
theorem plans17 : plansB (fun _ => none) body17 = true := by kernel_rfl
/-- vignette/vignetteref05.Align -/
theorem walk17 (B : Nat → List Nat) (W : List Nat)  {args : List AV} {M : AH} {K Kp : AV → AH → Prop} (hle : Nat.ble args.length 15 = true)
    (h : codeA (cx17 B W) body17 (postA tb Try.f17.results.toList K) Kp (initA args) M) : CallA Try.prog 17 args M K Kp :=
  CallA.intro (x := cx17 B W) tb_ok mixed Try.func17 (rfl : Try.f17.body = some body17) (by kernel_rfl) plans17 rfl rfl rfl hle h
theorem step17 (B : Nat → List Nat) (W : List Nat)  {args : List AV} {M : AH} {K Kp : AV → AH → Prop} (hle : Nat.ble args.length 15 = true)
    (h : codeO (cx17 B W) body17 (postA tb Try.f17.results.toList K) Kp (initA args) M) : CallA Try.prog 17 args M K Kp :=
  CallO.intro (x := cx17 B W) tb_ok mixed Try.func17 (rfl : Try.f17.body = some body17) (by kernel_rfl) plans17 rfl rfl rfl hle h

noncomputable def cx18 (B : Nat → List Nat) (W : List Nat) : Cx := { P := Try.prog, T := tb, n := 20, W := W, B := B }
noncomputable abbrev body18 : Code := match Try.f18.body with | some c => c | none => .skip
theorem plans18 : plansB (fun _ => none) body18 = true := by kernel_rfl
/-- (*vignette/bits.Writer).Align -/
theorem walk18 (B : Nat → List Nat) (W : List Nat)  {args : List AV} {M : AH} {K Kp : AV → AH → Prop} (hle : Nat.ble args.length 20 = true)
    (h : codeA (cx18 B W) body18 (postA tb Try.f18.results.toList K) Kp (initA args) M) : CallA Try.prog 18 args M K Kp :=
  CallA.intro (x := cx18 B W) tb_ok mixed Try.func18 (rfl : Try.f18.body = some body18) (by kernel_rfl) plans18 rfl rfl rfl hle h
theorem step18 (B : Nat → List Nat) (W : List Nat)  {args : List AV} {M : AH} {K Kp : AV → AH → Prop} (hle : Nat.ble args.length 20 = true)
    (h : codeO (cx18 B W) body18 (postA tb Try.f18.results.toList K) Kp (initA args) M) : CallA Try.prog 18 args M K Kp :=
  CallO.intro (x := cx18 B W) tb_ok mixed Try.func18 (rfl : Try.f18.body = some body18) (by kernel_rfl) plans18 rfl rfl rfl hle h

noncomputable def cx19 (B : Nat → List Nat) (W : List Nat) : Cx := { P := Try.prog, T := tb, n := 28, W := W, B := B }
noncomputable abbrev body19 : Code := match Try.f19.body with | some c => c | none => .skip
theorem plans19 : plansB (fun _ => none) body19 = true := by kernel_rfl
/-- vignette/vignetteref05.Put -/
theorem walk19 (B : Nat → List Nat) (W : List Nat)  {args : List AV} {M : AH} {K Kp : AV → AH → Prop} (hle : Nat.ble args.length 28 = true)
    (h : codeA (cx19 B W) body19 (postA tb Try.f19.results.toList K) Kp (initA args) M) : CallA Try.prog 19 args M K Kp :=
  CallA.intro (x := cx19 B W) tb_ok mixed Try.func19 (rfl : Try.f19.body = some body19) (by kernel_rfl) plans19 rfl rfl rfl hle h
theorem step19 (B : Nat → List Nat) (W : List Nat)  {args : List AV} {M : AH} {K Kp : AV → AH → Prop} (hle : Nat.ble args.length 28 = true)
    (h : codeO (cx19 B W) body19 (postA tb Try.f19.results.toList K) Kp (initA args) M) : CallA Try.prog 19 args M K Kp :=
  CallO.intro (x := cx19 B W) tb_ok mixed Try.func19 (rfl : Try.f19.body = some body19) (by kernel_rfl) plans19 rfl rfl rfl hle h

noncomputable def cx20 (B : Nat → List Nat) (W : List Nat) : Cx := { P := Try.prog, T := tb, n := 25, W := W, B := B }
noncomputable abbrev body20 : Code := match Try.f20.body with | some c => c | none => .skip
theorem plans20 : plansB (fun _ => none) body20 = true := by kernel_rfl
/-- vignette/vignetteref05.Bytes -/
theorem walk20 (B : Nat → List Nat) (W : List Nat)  {args : List AV} {M : AH} {K Kp : AV → AH → Prop} (hle : Nat.ble args.length 25 = true)
    (h : codeA (cx20 B W) body20 (postA tb Try.f20.results.toList K) Kp (initA args) M) : CallA Try.prog 20 args M K Kp :=
  CallA.intro (x := cx20 B W) tb_ok mixed Try.func20 (rfl : Try.f20.body = some body20) (by kernel_rfl) plans20 rfl rfl rfl hle h
theorem step20 (B : Nat → List Nat) (W : List Nat)  {args : List AV} {M : AH} {K Kp : AV → AH → Prop} (hle : Nat.ble args.length 25 = true)
    (h : codeO (cx20 B W) body20 (postA tb Try.f20.results.toList K) Kp (initA args) M) : CallA Try.prog 20 args M K Kp :=
  CallO.intro (x := cx20 B W) tb_ok mixed Try.func20 (rfl : Try.f20.body = some body20) (by kernel_rfl) plans20 rfl rfl rfl hle h

noncomputable def pl21 : Nat → Option (List (Nat × Nat) × List Nat) := fun id => match id with
  | 3 => some ([(0, 0), (1, 0), (2, 0), (6, 0), (7, 0), (8, 0), (3, 1), (4, 0), (5, 0), (9, 1), (10, 0), (11, 0)], [])
  | _ => none
noncomputable def cx21 (B : Nat → List Nat) (W : List Nat) : Cx := { P := Try.prog, T := tb, n := 16, W := W, B := B, pl := pl21 }
noncomputable abbrev body21 : Code := match Try.f21.body with | some c => c | none => .skip
theorem plans21 : plansB pl21 body21 = true := by kernel_rfl
/-- (*vignette/bits.Reader).Left -/
theorem walk21 (B : Nat → List Nat) (W : List Nat)  {args : List AV} {M : AH} {K Kp : AV → AH → Prop} (hle : Nat.ble args.length 16 = true)
    (h : codeA (cx21 B W) body21 (postA tb Try.f21.results.toList K) Kp (initA args) M) : CallA Try.prog 21 args M K Kp :=
  CallA.intro (x := cx21 B W) tb_ok mixed Try.func21 (rfl : Try.f21.body = some body21) (by kernel_rfl) plans21 rfl rfl rfl hle h
theorem step21 (B : Nat → List Nat) (W : List Nat)  {args : List AV} {M : AH} {K Kp : AV → AH → Prop} (hle : Nat.ble args.length 16 = true)
    (h : codeO (cx21 B W) body21 (postA tb Try.f21.results.toList K) Kp (initA args) M) : CallA Try.prog 21 args M K Kp :=
  CallO.intro (x := cx21 B W) tb_ok mixed Try.func21 (rfl : Try.f21.body = some body21) (by kernel_rfl) plans21 rfl rfl rfl hle h

noncomputable def cx22 (B : Nat → List Nat) (W : List Nat) : Cx := { P := Try.prog, T := tb, n := 20, W := W, B := B }
noncomputable abbrev body22 : Code := match Try.f22.body with | some c => c | none => .skip
theorem plans22 : plansB (fun _ => none) body22 = true := by kernel_rfl
/-- vignette/vignetteref05.Of -/
theorem walk22 (B : Nat → List Nat) (W : List Nat)  {args : List AV} {M : AH} {K Kp : AV → AH → Prop} (hle : Nat.ble args.length 20 = true)
    (h : codeA (cx22 B W) body22 (postA tb Try.f22.results.toList K) Kp (initA args) M) : CallA Try.prog 22 args M K Kp :=
  CallA.intro (x := cx22 B W) tb_ok mixed Try.func22 (rfl : Try.f22.body = some body22) (by kernel_rfl) plans22 rfl rfl rfl hle h
theorem step22 (B : Nat → List Nat) (W : List Nat)  {args : List AV} {M : AH} {K Kp : AV → AH → Prop} (hle : Nat.ble args.length 20 = true)
    (h : codeO (cx22 B W) body22 (postA tb Try.f22.results.toList K) Kp (initA args) M) : CallA Try.prog 22 args M K Kp :=
  CallO.intro (x := cx22 B W) tb_ok mixed Try.func22 (rfl : Try.f22.body = some body22) (by kernel_rfl) plans22 rfl rfl rfl hle h

noncomputable def cx23 (B : Nat → List Nat) (W : List Nat) : Cx := { P := Try.prog, T := tb, n := 14, W := W, B := B }
noncomputable abbrev body23 : Code := match Try.f23.body with | some c => c | none => .skip
theorem plans23 : plansB (fun _ => none) body23 = true := by kernel_rfl
/-- (*vignette/bits.Reader).Align -/
theorem walk23 (B : Nat → List Nat) (W : List Nat)  {args : List AV} {M : AH} {K Kp : AV → AH → Prop} (hle : Nat.ble args.length 14 = true)
    (h : codeA (cx23 B W) body23 (postA tb Try.f23.results.toList K) Kp (initA args) M) : CallA Try.prog 23 args M K Kp :=
  CallA.intro (x := cx23 B W) tb_ok mixed Try.func23 (rfl : Try.f23.body = some body23) (by kernel_rfl) plans23 rfl rfl rfl hle h
theorem step23 (B : Nat → List Nat) (W : List Nat)  {args : List AV} {M : AH} {K Kp : AV → AH → Prop} (hle : Nat.ble args.length 14 = true)
    (h : codeO (cx23 B W) body23 (postA tb Try.f23.results.toList K) Kp (initA args) M) : CallA Try.prog 23 args M K Kp :=
  CallO.intro (x := cx23 B W) tb_ok mixed Try.func23 (rfl : Try.f23.body = some body23) (by kernel_rfl) plans23 rfl rfl rfl hle h

noncomputable def cx24 (B : Nat → List Nat) (W : List Nat) : Cx := { P := Try.prog, T := tb, n := 33, W := W, B := B }
noncomputable abbrev body24 : Code := match Try.f24.body with | some c => c | none => .skip
theorem plans24 : plansB (fun _ => none) body24 = true := by kernel_rfl
/-- vignette/vignetteref05.Get -/
theorem walk24 (B : Nat → List Nat) (W : List Nat)  {args : List AV} {M : AH} {K Kp : AV → AH → Prop} (hle : Nat.ble args.length 33 = true)
    (h : codeA (cx24 B W) body24 (postA tb Try.f24.results.toList K) Kp (initA args) M) : CallA Try.prog 24 args M K Kp :=
  CallA.intro (x := cx24 B W) tb_ok mixed Try.func24 (rfl : Try.f24.body = some body24) (by kernel_rfl) plans24 rfl rfl rfl hle h
theorem step24 (B : Nat → List Nat) (W : List Nat)  {args : List AV} {M : AH} {K Kp : AV → AH → Prop} (hle : Nat.ble args.length 33 = true)
    (h : codeO (cx24 B W) body24 (postA tb Try.f24.results.toList K) Kp (initA args) M) : CallA Try.prog 24 args M K Kp :=
  CallO.intro (x := cx24 B W) tb_ok mixed Try.func24 (rfl : Try.f24.body = some body24) (by kernel_rfl) plans24 rfl rfl rfl hle h

noncomputable def cx25 (B : Nat → List Nat) (W : List Nat) : Cx := { P := Try.prog, T := tb, n := 9, W := W, B := B }
noncomputable abbrev body25 : Code := match Try.f25.body with | some c => c | none => .skip
theorem plans25 : plansB (fun _ => none) body25 = true := by kernel_rfl
/-- (*vignette/bits.Reader).At -/
theorem walk25 (B : Nat → List Nat) (W : List Nat)  {args : List AV} {M : AH} {K Kp : AV → AH → Prop} (hle : Nat.ble args.length 9 = true)
    (h : codeA (cx25 B W) body25 (postA tb Try.f25.results.toList K) Kp (initA args) M) : CallA Try.prog 25 args M K Kp :=
  CallA.intro (x := cx25 B W) tb_ok mixed Try.func25 (rfl : Try.f25.body = some body25) (by kernel_rfl) plans25 rfl rfl rfl hle h
theorem step25 (B : Nat → List Nat) (W : List Nat)  {args : List AV} {M : AH} {K Kp : AV → AH → Prop} (hle : Nat.ble args.length 9 = true)
    (h : codeO (cx25 B W) body25 (postA tb Try.f25.results.toList K) Kp (initA args) M) : CallA Try.prog 25 args M K Kp :=
  CallO.intro (x := cx25 B W) tb_ok mixed Try.func25 (rfl : Try.f25.body = some body25) (by kernel_rfl) plans25 rfl rfl rfl hle h

noncomputable def cx26 (B : Nat → List Nat) (W : List Nat) : Cx := { P := Try.prog, T := tb, n := 21, W := W, B := B }
noncomputable abbrev body26 : Code := match Try.f26.body with | some c => c | none => .skip
theorem plans26 : plansB (fun _ => none) body26 = true := by kernel_rfl
/-- vignette/vignetteref05.May -/
theorem walk26 (B : Nat → List Nat) (W : List Nat)  {args : List AV} {M : AH} {K Kp : AV → AH → Prop} (hle : Nat.ble args.length 21 = true)
    (h : codeA (cx26 B W) body26 (postA tb Try.f26.results.toList K) Kp (initA args) M) : CallA Try.prog 26 args M K Kp :=
  CallA.intro (x := cx26 B W) tb_ok mixed Try.func26 (rfl : Try.f26.body = some body26) (by kernel_rfl) plans26 rfl rfl rfl hle h
theorem step26 (B : Nat → List Nat) (W : List Nat)  {args : List AV} {M : AH} {K Kp : AV → AH → Prop} (hle : Nat.ble args.length 21 = true)
    (h : codeO (cx26 B W) body26 (postA tb Try.f26.results.toList K) Kp (initA args) M) : CallA Try.prog 26 args M K Kp :=
  CallO.intro (x := cx26 B W) tb_ok mixed Try.func26 (rfl : Try.f26.body = some body26) (by kernel_rfl) plans26 rfl rfl rfl hle h

noncomputable def cx27 (B : Nat → List Nat) (W : List Nat) : Cx := { P := Try.prog, T := tb, n := 38, W := W, B := B }
noncomputable abbrev body27 : Code := match Try.f27.body with | some c => c | none => .skip
theorem plans27 : plansB (fun _ => none) body27 = true := by kernel_rfl
/-- vignette/vignettelaw05.full -/
theorem walk27 (B : Nat → List Nat) (W : List Nat)  {args : List AV} {M : AH} {K Kp : AV → AH → Prop} (hle : Nat.ble args.length 38 = true)
    (h : codeA (cx27 B W) body27 (postA tb Try.f27.results.toList K) Kp (initA args) M) : CallA Try.prog 27 args M K Kp :=
  CallA.intro (x := cx27 B W) tb_ok mixed Try.func27 (rfl : Try.f27.body = some body27) (by kernel_rfl) plans27 rfl rfl rfl hle h
theorem step27 (B : Nat → List Nat) (W : List Nat)  {args : List AV} {M : AH} {K Kp : AV → AH → Prop} (hle : Nat.ble args.length 38 = true)
    (h : codeO (cx27 B W) body27 (postA tb Try.f27.results.toList K) Kp (initA args) M) : CallA Try.prog 27 args M K Kp :=
  CallO.intro (x := cx27 B W) tb_ok mixed Try.func27 (rfl : Try.f27.body = some body27) (by kernel_rfl) plans27 rfl rfl rfl hle h

noncomputable def pl28 : Nat → Option (List (Nat × Nat) × List Nat) := fun id => match id with
  | 0 => some ([(0, 0), (1, 0), (2, 0), (4, 0), (5, 0), (6, 0), (7, 0), (3, 1), (8, 1), (9, 0), (10, 0), (11, 0), (12, 0), (13, 3)], [13])
  | 4 => some ([(0, 0), (1, 0), (2, 0), (3, 0), (5, 0), (6, 0), (7, 0), (4, 1), (8, 1), (9, 0), (10, 2), (11, 3), (12, 0), (13, 0), (14, 3)], [11, 14])
  | _ => none
noncomputable def cx28 (B : Nat → List Nat) (W : List Nat) : Cx := { P := Try.prog, T := tb, n := 60, W := W, B := B, pl := pl28 }
noncomputable abbrev body28 : Code := match Try.f28.body with | some c => c | none => .skip
theorem plans28 : plansB pl28 body28 = true := by kernel_rfl
/-- (*vignette/bits.Writer).lay -/
theorem walk28 (B : Nat → List Nat) (W : List Nat)  {args : List AV} {M : AH} {K Kp : AV → AH → Prop} (hle : Nat.ble args.length 60 = true)
    (h : codeA (cx28 B W) body28 (postA tb Try.f28.results.toList K) Kp (initA args) M) : CallA Try.prog 28 args M K Kp :=
  CallA.intro (x := cx28 B W) tb_ok mixed Try.func28 (rfl : Try.f28.body = some body28) (by kernel_rfl) plans28 rfl rfl rfl hle h
theorem step28 (B : Nat → List Nat) (W : List Nat)  {args : List AV} {M : AH} {K Kp : AV → AH → Prop} (hle : Nat.ble args.length 60 = true)
    (h : codeO (cx28 B W) body28 (postA tb Try.f28.results.toList K) Kp (initA args) M) : CallA Try.prog 28 args M K Kp :=
  CallO.intro (x := cx28 B W) tb_ok mixed Try.func28 (rfl : Try.f28.body = some body28) (by kernel_rfl) plans28 rfl rfl rfl hle h

noncomputable def cx29 (B : Nat → List Nat) (W : List Nat) : Cx := { P := Try.prog, T := tb, n := 17, W := W, B := B }
noncomputable abbrev body29 : Code := match Try.f29.body with | some c => c | none => .skip
theorem plans29 : plansB (fun _ => none) body29 = true := by kernel_rfl
/-- vignette/bits.may -/
theorem walk29 (B : Nat → List Nat) (W : List Nat)  {args : List AV} {M : AH} {K Kp : AV → AH → Prop} (hle : Nat.ble args.length 17 = true)
    (h : codeA (cx29 B W) body29 (postA tb Try.f29.results.toList K) Kp (initA args) M) : CallA Try.prog 29 args M K Kp :=
  CallA.intro (x := cx29 B W) tb_ok mixed Try.func29 (rfl : Try.f29.body = some body29) (by kernel_rfl) plans29 rfl rfl rfl hle h
theorem step29 (B : Nat → List Nat) (W : List Nat)  {args : List AV} {M : AH} {K Kp : AV → AH → Prop} (hle : Nat.ble args.length 17 = true)
    (h : codeO (cx29 B W) body29 (postA tb Try.f29.results.toList K) Kp (initA args) M) : CallA Try.prog 29 args M K Kp :=
  CallO.intro (x := cx29 B W) tb_ok mixed Try.func29 (rfl : Try.f29.body = some body29) (by kernel_rfl) plans29 rfl rfl rfl hle h

noncomputable def cx30 (B : Nat → List Nat) (W : List Nat) : Cx := { P := Try.prog, T := tb, n := 8, W := W, B := B }
noncomputable abbrev body30 : Code := match Try.f30.body with | some c => c | none => .skip
theorem plans30 : plansB (fun _ => none) body30 = true := by kernel_rfl
/-- slices.Clone[[]byte,byte] -/
theorem walk30 (B : Nat → List Nat) (W : List Nat)  {args : List AV} {M : AH} {K Kp : AV → AH → Prop} (hle : Nat.ble args.length 8 = true)
    (h : codeA (cx30 B W) body30 (postA tb Try.f30.results.toList K) Kp (initA args) M) : CallA Try.prog 30 args M K Kp :=
  CallA.intro (x := cx30 B W) tb_ok mixed Try.func30 (rfl : Try.f30.body = some body30) (by kernel_rfl) plans30 rfl rfl rfl hle h
theorem step30 (B : Nat → List Nat) (W : List Nat)  {args : List AV} {M : AH} {K Kp : AV → AH → Prop} (hle : Nat.ble args.length 8 = true)
    (h : codeO (cx30 B W) body30 (postA tb Try.f30.results.toList K) Kp (initA args) M) : CallA Try.prog 30 args M K Kp :=
  CallO.intro (x := cx30 B W) tb_ok mixed Try.func30 (rfl : Try.f30.body = some body30) (by kernel_rfl) plans30 rfl rfl rfl hle h

noncomputable def cx31 (B : Nat → List Nat) (W : List Nat) : Cx := { P := Try.prog, T := tb, n := 21, W := W, B := B }
noncomputable abbrev body31 : Code := match Try.f31.body with | some c => c | none => .skip
theorem plans31 : plansB (fun _ => none) body31 = true := by kernel_rfl
/-- vignette/vignetteref05.Bits -/
theorem walk31 (B : Nat → List Nat) (W : List Nat)  {args : List AV} {M : AH} {K Kp : AV → AH → Prop} (hle : Nat.ble args.length 21 = true)
    (h : codeA (cx31 B W) body31 (postA tb Try.f31.results.toList K) Kp (initA args) M) : CallA Try.prog 31 args M K Kp :=
  CallA.intro (x := cx31 B W) tb_ok mixed Try.func31 (rfl : Try.f31.body = some body31) (by kernel_rfl) plans31 rfl rfl rfl hle h
theorem step31 (B : Nat → List Nat) (W : List Nat)  {args : List AV} {M : AH} {K Kp : AV → AH → Prop} (hle : Nat.ble args.length 21 = true)
    (h : codeO (cx31 B W) body31 (postA tb Try.f31.results.toList K) Kp (initA args) M) : CallA Try.prog 31 args M K Kp :=
  CallO.intro (x := cx31 B W) tb_ok mixed Try.func31 (rfl : Try.f31.body = some body31) (by kernel_rfl) plans31 rfl rfl rfl hle h

noncomputable def cx32 (B : Nat → List Nat) (W : List Nat) : Cx := { P := Try.prog, T := tb, n := 21, W := W, B := B }
noncomputable abbrev body32 : Code := match Try.f32.body with | some c => c | none => .skip
theorem plans32 : plansB (fun _ => none) body32 = true := by kernel_rfl
/-- vignette/vignetteref05.Number -/
theorem walk32 (B : Nat → List Nat) (W : List Nat)  {args : List AV} {M : AH} {K Kp : AV → AH → Prop} (hle : Nat.ble args.length 21 = true)
    (h : codeA (cx32 B W) body32 (postA tb Try.f32.results.toList K) Kp (initA args) M) : CallA Try.prog 32 args M K Kp :=
  CallA.intro (x := cx32 B W) tb_ok mixed Try.func32 (rfl : Try.f32.body = some body32) (by kernel_rfl) plans32 rfl rfl rfl hle h
theorem step32 (B : Nat → List Nat) (W : List Nat)  {args : List AV} {M : AH} {K Kp : AV → AH → Prop} (hle : Nat.ble args.length 21 = true)
    (h : codeO (cx32 B W) body32 (postA tb Try.f32.results.toList K) Kp (initA args) M) : CallA Try.prog 32 args M K Kp :=
  CallO.intro (x := cx32 B W) tb_ok mixed Try.func32 (rfl : Try.f32.body = some body32) (by kernel_rfl) plans32 rfl rfl rfl hle h

end Go.Proofs.Ythbmddaemdcamaa
