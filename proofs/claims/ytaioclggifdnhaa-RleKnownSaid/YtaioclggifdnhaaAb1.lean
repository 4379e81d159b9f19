/- The operations that leave the world alone, on abstract values. -/
import Derived.Test.YtaioclggifdnhaaAb0
import Derived.Great.FillDense
set_option linter.unusedVariables false
set_option linter.unusedSimpArgs false
open Go.RowKit
namespace Go.Proofs.Ytaioclggifdnhaa

/-- Kinds of types. -/
inductive TK where
  | int (k : IntKind) | bool | str | ptr (e : Nat) | slice (e : Nat) | arr (n e : Nat) | struct (fs : List (Nat × Nat)) | map (k e : Nat) | iface | func | other
  deriving Inhabited
def tkOf : TypeDesc → TK
  | .bool => .bool | .int k => .int k | .string => .str | .pointer e => .ptr e | .slice e => .slice e | .array n e => .arr n e
  | .struct fs => .struct (fs.toList.map fun f => (f.offset, f.type)) | .map k e => .map k e | .interface _ => .iface | .func .. => .func | _ => .other
structure TI where
  k : TK
  size : Nat
  bytes : Nat
  zero : List AV
  deriving Inhabited
def TK.isAgg : TK → Bool
  | .struct _ | .arr _ _ => true
  | _ => false

def ofS : Value → AV
  | .bool true => .tt | .bool false => .ff
  | .int k n => .int k n
  | .string s => .str s
  | .pointer none => .np
  | .slice none 0 0 => .ns
  | .map none => .nm
  | .nilFunc => .nf
  | .nilIface => .ni
  | v => .raw v
def ofC : Value → AV
  | .agg cs => .agg (cs.toList.map ofS)
  | .tuple vs => .tup (vs.toList.map ofS)
  | v => ofS v

theorem ofS_c (ρ : Env) (v : Value) : (ofS v).c ρ = v := by
  unfold ofS; split <;> simp [AV.c]
theorem ofS_ok (ρ : Env) (v : Value) : (ofS v).ok ρ := by
  unfold ofS; split <;> simp [AV.ok]
theorem ofC_c (ρ : Env) (v : Value) : (ofC v).c ρ = v := by
  unfold ofC; split
  · simp [AV.c, AV.cl_eq, ofS_c, Function.comp_def]
  · simp [AV.c, AV.cl_eq, ofS_c, Function.comp_def]
  · exact ofS_c ρ _
theorem ofC_ok (ρ : Env) (v : Value) : (ofC v).ok ρ := by
  unfold ofC; split
  · simp only [AV.ok, AV.okl_iff]; intro x hx; obtain ⟨y, _, rfl⟩ := List.mem_map.1 hx; exact ofS_ok ρ y
  · simp only [AV.ok, AV.okl_iff]; intro x hx; obtain ⟨y, _, rfl⟩ := List.mem_map.1 hx; exact ofS_ok ρ y
  · exact ofS_ok ρ _

def entryOf (P : Program) (t : Nat) : Option TI :=
  match P.underlying t, P.info? t with
  | some d, some i => match i.zero with
    | some z => some ⟨tkOf d, i.size, i.bytes, z.cells.toList.map ofS⟩
    | none => none
  | _, _ => none
/-- A table of the program's types. -/
def TabOK (P : Program) (T : List TI) : Prop := ∀ t ti, T[t]? = some ti → entryOf P t = some ti
theorem TabOK.mk' {P : Program} {T : List TI} (h : (List.range T.length).map (entryOf P) = T.map some) : TabOK P T := by
  intro t ti ht
  have hlt : t < T.length := (List.getElem?_eq_some_iff.1 ht).1
  have := congrArg (fun l => l[t]?) h
  simp [hlt] at this
  obtain ⟨_, e⟩ := List.getElem?_eq_some_iff.1 ht
  rw [this, e]

theorem TabOK.get {P : Program} {T : List TI} (h : TabOK P T) {t : Nat} {ti : TI} (ht : T[t]? = some ti) :
    ∃ d i z, P.underlying t = some d ∧ P.info? t = some i ∧ i.zero = some z ∧ ti = ⟨tkOf d, i.size, i.bytes, z.cells.toList.map ofS⟩ := by
  have := h t ti ht
  unfold entryOf at this
  split at this
  · split at this
    · injection this with this; exact ⟨_, _, _, ‹_›, ‹_›, ‹_›, this.symm⟩
    · cases this
  · cases this

/-! Numbers. -/
def arith (k : IntKind) (wr : Bool) (z : Int) (K : Int → Prop) : Prop :=
  match k with
  | .i64 => match wr with
    | true => K (wrap64 z)
    | false => (-9223372036854775808 ≤ z ∧ z ≤ 9223372036854775807) ∧ K z
  | .u8 => K (z % 256)
  | .u16 => K (z % 65536)
  | .u32 => K (z % 4294967296)
  | .u64 => K (z % 18446744073709551616)
  | k => K (k.wrap z)
theorem arith_sound {k : IntKind} {wr : Bool} {z : Int} {K : Int → Prop} (h : arith k wr z K) : K (k.wrap z) := by
  unfold arith at h
  split at h
  · split at h
    · have e : IntKind.i64.wrap z = wrap64 z := by simp [IntKind.wrap, wrap64, IntKind.bits, IntKind.signed]; omega
      rw [e]; exact h
    · have e : IntKind.i64.wrap z = z := by simp [IntKind.wrap, IntKind.bits, IntKind.signed]; omega
      rw [e]; exact h.2
  all_goals first | exact h | (simpa [IntKind.wrap, IntKind.bits, IntKind.signed] using h)
def bitF (op : BinOp) (k : IntKind) (x y : Int) : Int :=
  let a := BitVec.ofInt k.bits x
  let b := BitVec.ofInt k.bits y
  match op with
  | .and => k.wrap (a &&& b).toNat
  | .or => k.wrap (a ||| b).toNat
  | .xor => k.wrap (a ^^^ b).toNat
  | _ => k.wrap (a &&& ~~~b).toNat
def shlF (k : IntKind) (x y : Int) : Int := k.wrap (x * 2 ^ min y.toNat k.bits)
def shrF (k : IntKind) (x y : Int) : Int := x.fdiv (2 ^ min y.toNat k.bits)
def sameK (k k' : IntKind) (p : Prop) : Prop :=
  match k, k' with
  | .i8, .i8 | .i16, .i16 | .i32, .i32 | .i64, .i64 | .u8, .u8 | .u16, .u16 | .u32, .u32 | .u64, .u64 => p
  | _, _ => False
theorem sameK_sound {k k' : IntKind} {p : Prop} (h : sameK k k' p) : k = k' ∧ p := by
  unfold sameK at h; split at h <;> first | exact ⟨rfl, h⟩ | exact h.elim
def AV.asB : AV → Option Bool
  | .tt => some true | .ff => some false | .bo x => some x | _ => none
theorem AV.asB_c {v : AV} {x : Bool} (ρ : Env) (h : v.asB = some x) : v.c ρ = .bool x := by
  unfold AV.asB at h; split at h <;> simp_all [AV.c]

def binA (wr : Bool) (op : BinOp) (x y : AV) (K : AV → Prop) : Prop :=
  match x, y with
  | .int k a, .int k' b => match op with
    | .shl => 0 ≤ b ∧ K (.int k (shlF k a b))
    | .shr => 0 ≤ b ∧ K (.int k (shrF k a b))
    | .add => sameK k k' (arith k wr (a + b) fun z => K (.int k z))
    | .sub => sameK k k' (arith k wr (a - b) fun z => K (.int k z))
    | .mul => sameK k k' (arith k wr (a * b) fun z => K (.int k z))
    | .quo => sameK k k' (b ≠ 0 ∧ arith k wr (a.tdiv b) fun z => K (.int k z))
    | .rem => sameK k k' (b ≠ 0 ∧ K (.int k (a.tmod b)))
    | .and => sameK k k' (K (.int k (bitF .and k a b)))
    | .or => sameK k k' (K (.int k (bitF .or k a b)))
    | .xor => sameK k k' (K (.int k (bitF .xor k a b)))
    | .andNot => sameK k k' (K (.int k (bitF .andNot k a b)))
    | .eql => sameK k k' (K (.bo (decide (a = b))))
    | .neq => sameK k k' (K (.bo (!decide (a = b))))
    | .lss => sameK k k' (K (.bo (decide (a < b))))
    | .leq => sameK k k' (K (.bo (decide (a ≤ b))))
    | .gtr => sameK k k' (K (.bo (decide (b < a))))
    | .geq => sameK k k' (K (.bo (decide (b ≤ a))))
  | .str a, .str b => match op with
    | .eql => K (.bo (a.toList == b.toList))
    | .neq => K (.bo (!(a.toList == b.toList)))
    | .add => (a.size : Int) + b.size ≤ 9223372036854775807 ∧ K (.str (a ++ b))
    | _ => False
  | _, _ => False

theorem run_eqGuard_int {P : Program} {w : World} {op : BinOp} {t : Nat} {x y : Operand} {k k' : IntKind} {a b : Int} : (eqGuard op t x y (.int k a) (.int k' b)).run P w = .ok () w := by
  unfold eqGuard; split <;> rfl
theorem run_eqGuard_str {P : Program} {w : World} {op : BinOp} {t : Nat} {x y : Operand} {a b : ByteArray} : (eqGuard op t x y (.string a) (.string b)).run P w = .ok () w := by
  unfold eqGuard; split <;> rfl

theorem binA_sound {wr : Bool} {op : BinOp} {x y : AV} {K : AV → Prop} (h : binA wr op x y K) (ρ : Env) :
    ∃ v, K v ∧ v.ok ρ ∧ ∀ (P : Program) (w : World) (t : Nat) (ox oy : Operand), (do eqGuard op t ox oy (x.c ρ) (y.c ρ); binOp op t (x.c ρ) (y.c ρ) : Sem Value).run P w = .ok (v.c ρ) w := by
  unfold binA at h
  split at h
  · rename_i k a k' b
    simp only [AV.c]
    cases op <;> simp only at h
    case shl => exact ⟨_, h.2, trivial, fun P w t ox oy => by simp [run_eqGuard_int, binOp, Op.shift, shlF, AV.c, Int.not_lt.2 h.1]⟩
    case shr => exact ⟨_, h.2, trivial, fun P w t ox oy => by simp [run_eqGuard_int, binOp, Op.shift, shrF, AV.c, Int.not_lt.2 h.1]⟩
    all_goals (replace h := sameK_sound h; obtain ⟨rfl, h⟩ := h)
    case add => exact ⟨_, arith_sound h, trivial, fun P w t ox oy => by simp [run_eqGuard_int, binOp, Op.intArith, AV.c]⟩
    case sub => exact ⟨_, arith_sound h, trivial, fun P w t ox oy => by simp [run_eqGuard_int, binOp, Op.intArith, AV.c]⟩
    case mul => exact ⟨_, arith_sound h, trivial, fun P w t ox oy => by simp [run_eqGuard_int, binOp, Op.intArith, AV.c]⟩
    case quo => exact ⟨_, arith_sound h.2, trivial, fun P w t ox oy => by simp [run_eqGuard_int, binOp, Op.intDiv, AV.c, h.1]⟩
    case rem => exact ⟨_, h.2, trivial, fun P w t ox oy => by simp [run_eqGuard_int, binOp, Op.intDiv, AV.c, h.1]⟩
    case and => exact ⟨_, h, trivial, fun P w t ox oy => by simp [run_eqGuard_int, binOp, Op.intBits, AV.c, bitF]⟩
    case or => exact ⟨_, h, trivial, fun P w t ox oy => by simp [run_eqGuard_int, binOp, Op.intBits, AV.c, bitF]⟩
    case xor => exact ⟨_, h, trivial, fun P w t ox oy => by simp [run_eqGuard_int, binOp, Op.intBits, AV.c, bitF]⟩
    case andNot => exact ⟨_, h, trivial, fun P w t ox oy => by simp [run_eqGuard_int, binOp, Op.intBits, AV.c, bitF]⟩
    case eql => exact ⟨_, h, trivial, fun P w t ox oy => by simp [run_eqGuard_int, binOp, Op.intCmp, AV.c]; exact (Bool.beq_eq_decide_eq a b)⟩
    case neq => exact ⟨_, h, trivial, fun P w t ox oy => by simp [run_eqGuard_int, binOp, Op.intCmp, AV.c, bne]; exact (Bool.beq_eq_decide_eq a b)⟩
    case lss => exact ⟨_, h, trivial, fun P w t ox oy => by simp [run_eqGuard_int, binOp, Op.intCmp, AV.c]⟩
    case leq => exact ⟨_, h, trivial, fun P w t ox oy => by simp [run_eqGuard_int, binOp, Op.intCmp, AV.c]⟩
    case gtr => exact ⟨_, h, trivial, fun P w t ox oy => by simp [run_eqGuard_int, binOp, Op.intCmp, AV.c]⟩
    case geq => exact ⟨_, h, trivial, fun P w t ox oy => by simp [run_eqGuard_int, binOp, Op.intCmp, AV.c]⟩
  · rename_i a b
    simp only [AV.c]
    cases op <;> simp only at h
    case eql => exact ⟨_, h, trivial, fun P w t ox oy => by rw [Sem.run_bind, run_eqGuard_str]; simp only [Result.andThen_ok, binOp, Op.stringOp]; rfl⟩
    case neq => exact ⟨_, h, trivial, fun P w t ox oy => by rw [Sem.run_bind, run_eqGuard_str]; simp only [Result.andThen_ok, binOp, Op.stringOp]; rfl⟩
    case add => exact ⟨_, h.2, trivial, fun P w t ox oy => by simp [run_eqGuard_str, binOp, Op.stringOp, AV.c]; exact h.1⟩
  · exact h.elim

/-! Parts of literals. -/
def AV.one : AV → Bool
  | .agg _ | .tup _ | .raw _ => false
  | _ => true
theorem AV.one_c {v : AV} (ρ : Env) (h : v.one = true) : (v.c ρ).oneCell' = true := by
  cases v with
  | ptr i g off => simp only [AV.c]; rcases ρ i g with _ | _ | q <;> rfl
  | pel i g sz j o => simp only [AV.c]; rcases ρ i g with _ | _ | q <;> rfl
  | sl i g off n c => simp only [AV.c]; rcases ρ i g with _ | _ | q <;> rfl
  | mp i g => simp only [AV.c]; rcases ρ i g with _ | _ | q <;> rfl
  | agg l => simp [AV.one] at h
  | tup l => simp [AV.one] at h
  | raw v => simp [AV.one] at h
  | _ => rfl
def AV.parts : AV → List AV
  | .agg l => l
  | v => [v]
theorem AV.parts_c (ρ : Env) (v : AV) (h : ∀ x, v ≠ .raw x) : (v.c ρ).cells.toList = AV.cl ρ v.parts := by
  cases v with
  | ptr i g off => simp only [AV.c, AV.parts, AV.cl]; rcases ρ i g with _ | _ | q <;> rfl
  | pel i g sz j o => simp only [AV.c, AV.parts, AV.cl]; rcases ρ i g with _ | _ | q <;> rfl
  | sl i g off n c => simp only [AV.c, AV.parts, AV.cl]; rcases ρ i g with _ | _ | q <;> rfl
  | mp i g => simp only [AV.c, AV.parts, AV.cl]; rcases ρ i g with _ | _ | q <;> rfl
  | agg l => simp [AV.c, AV.parts, Value.cells]
  | raw v => exact absurd rfl (h v)
  | _ => rfl
theorem AV.parts_ok {ρ : Env} {v : AV} (h : v.ok ρ) : AV.okl ρ v.parts := by
  cases v <;> simp_all [AV.parts, AV.okl, AV.ok]

def splice (cs : List AV) (off : Nat) (vs : List AV) : List AV :=
  match vs with
  | [v] => cs.set off v
  | vs => cs.take off ++ vs ++ cs.drop (off + vs.length)

theorem splice_many {cs vs : List AV} {off : Nat} (h : ¬ ∃ v, vs = [v]) : splice cs off vs = cs.take off ++ vs ++ cs.drop (off + vs.length) := by
  unfold splice
  split
  · exact absurd ⟨_, rfl⟩ h
  · rfl
theorem splice_get {cs vs : List AV} {off k : Nat} (h : off + vs.length ≤ cs.length) :
    (splice cs off vs)[k]? = if off ≤ k ∧ k < off + vs.length then vs[k - off]? else cs[k]? := by
  by_cases hv : ∃ v, vs = [v]
  · obtain ⟨v, rfl⟩ := hv
    simp only [splice, List.length_cons, List.length_nil] at h ⊢
    by_cases hk : k = off
    · subst hk; simp [List.getElem?_set]; omega
    · rw [List.getElem?_set_ne (Ne.symm hk), if_neg (by omega)]
  · rw [splice_many hv]
    have hl : (cs.take off).length = off := by simp; omega
    by_cases h1 : k < off
    · rw [if_neg (by omega), List.append_assoc, List.getElem?_append_left (by omega), List.getElem?_take, if_pos h1]
    · by_cases h2 : k < off + vs.length
      · rw [if_pos ⟨by omega, h2⟩, List.append_assoc, List.getElem?_append_right (by omega), hl, List.getElem?_append_left (by omega)]
      · rw [if_neg (by omega), List.getElem?_append_right (by simp; omega)]
        simp only [List.length_append, hl, List.getElem?_drop]
        congr 1; omega
theorem splice_length {cs vs : List AV} {off : Nat} (h : off + vs.length ≤ cs.length) : (splice cs off vs).length = cs.length := by
  unfold splice
  split
  · simp
  · simp; omega

def fillL (pl : Nat → Option (Nat × Nat)) : List AV → List (Nat × AV) → Option (List AV)
  | cs, [] => some cs
  | cs, (i, v) :: r => match pl i with
    | some (off, sz) => match Nat.beq v.parts.length sz && Nat.ble (off + sz) cs.length && v.parts.all AV.one with
      | true => fillL pl (splice cs off v.parts) r
      | false => none
    | none => none
theorem fillL_sound {ρ : Env} {pl : Nat → Option (Nat × Nat)} : ∀ {l : List (Nat × AV)} {cs cs' : List AV}, fillL pl cs l = some cs' → AV.okl ρ cs → (∀ x ∈ l, x.2.ok ρ) →
    ∀ cells : Array Value, cells.toList = AV.cl ρ cs → AV.okl ρ cs' ∧ Instr.fill pl cells (l.map fun x => (x.1, x.2.c ρ)) = some (AV.cl ρ cs').toArray
  | [], cs, cs', h, hok, _, cells, hc => by
    simp only [fillL, Option.some.injEq] at h; subst h
    exact ⟨hok, by rw [← hc]; rfl⟩
  | (i, v) :: r, cs, cs', h, hok, hv, cells, hc => by
    simp only [fillL] at h
    split at h
    · rename_i off sz hpl
      split at h
      · rename_i hb
        simp only [Bool.and_eq_true] at hb
        obtain ⟨⟨h1, h2⟩, h3⟩ := hb
        have h1' : v.parts.length = sz := Nat.eq_of_beq_eq_true h1
        have h2' : off + sz ≤ cs.length := by simpa using h2
        have hr : ∀ x, v ≠ .raw x := by rintro x rfl; simp [AV.parts, AV.one] at h3
        have hpc := AV.parts_c ρ v hr
        have hsz : (v.c ρ).cells.size = sz := by rw [← Array.length_toList, hpc, AV.cl_eq, List.length_map, h1']
        have hcl : cells.size = cs.length := by rw [← Array.length_toList, hc, AV.cl_eq, List.length_map]
        have hvok := AV.parts_ok (hv _ List.mem_cons_self)
        have hok2 : AV.okl ρ (splice cs off v.parts) := by
          rw [AV.okl_iff] at hok hvok ⊢
          intro u hu
          obtain ⟨k, hk⟩ := List.getElem?_of_mem hu
          rw [splice_get (by omega)] at hk
          split at hk
          · exact hvok u (List.mem_of_getElem? hk)
          · exact hok u (List.mem_of_getElem? hk)
        have hnew : ((v.c ρ).cells.zipIdx.foldl (fun cs (x : Value × Nat) => cs.setIfInBounds (off + x.2) x.1) cells).toList = AV.cl ρ (splice cs off v.parts) := by
          obtain ⟨f1, f2⟩ := Go.Great.foldl_set off (v.c ρ).cells.toList 0 cells
          have e0 : (v.c ρ).cells.zipIdx.foldl (fun cs (x : Value × Nat) => cs.setIfInBounds (off + x.2) x.1) cells = ((v.c ρ).cells.toList.zipIdx 0).foldl (fun cs (x : Value × Nat) => cs.setIfInBounds (off + x.2) x.1) cells := by
            rw [← Array.foldl_toList, Array.toList_zipIdx]
          rw [e0]
          apply List.ext_getElem?
          intro k
          rw [Array.getElem?_toList, f2 k, AV.cl_eq, List.getElem?_map, splice_get (by omega)]
          rw [hpc, AV.cl_eq, List.length_map, hcl]
          by_cases hk : off ≤ k ∧ k < off + v.parts.length
          · rw [if_pos (by omega), if_pos hk, List.getElem?_map]; simp
          · rw [if_neg (by omega), if_neg hk, ← Array.getElem?_toList, hc, AV.cl_eq, List.getElem?_map]
        obtain ⟨g1, g2⟩ := fillL_sound h hok2 (fun x hx => hv x (List.mem_cons_of_mem _ hx)) _ hnew
        refine ⟨g1, ?_⟩
        simp only [List.map_cons, Instr.fill, hpl]
        rw [if_neg (by simp [hsz]; omega)]
        exact g2
      · cases h
    · cases h

def placesL (T : List TI) : List (Nat × Nat) → Option (List (Nat × Nat))
  | [] => some []
  | (off, ft) :: fs => match T[ft]?, placesL T fs with
    | some ti, some r => some ((off, ti.size) :: r)
    | _, _ => none

end Go.Proofs.Ytaioclggifdnhaa
