/- Abstract values, abstract heaps, and what it means that a world holds one. -/
import Derived.CallsIn
import Derived.Below
import Derived.WalkKit
set_option linter.unusedVariables false
set_option linter.unusedSimpArgs false
namespace Go.Proofs.Ythbmddaemdcamaa

/-- Values with names of objects in the place of blocks. -/
inductive AV where
  | bo (x : Bool) | tt | ff
  | int (k : IntKind) (n : Int)
  | str (x : ByteArray)
  | np
  | ptr (i g off : Nat)
  | pel (i g sz j o : Nat)
  | ns
  | sl (i g off n c : Nat)
  | nf
  | fn (fn : Fn) (first cap : List AV)
  | ni
  | ifc (t : TypeId) (v : AV)
  | nm
  | mp (i g : Nat)
  | agg (l : List AV)
  | tup (l : List AV)
  | raw (v : Value)
  deriving Inhabited

/-- Where objects lie: by name and tag; 'some none': an empty slice's array that is nil. -/
abbrev Env := Nat → Nat → Option (Option (Nat × Nat))

mutual
def AV.c (ρ : Env) : AV → Value
  | .bo x => .bool x
  | .tt => .bool true
  | .ff => .bool false
  | .int k n => .int k n
  | .str x => .string x
  | .np => .pointer none
  | .ptr i g off => match ρ i g with | some (some q) => .pointer (some ⟨q.1, q.2 + off, none⟩) | _ => .pointer none
  | .pel i g sz j o => match ρ i g with | some (some q) => .pointer (some ⟨q.1, q.2 + (j * sz + o), none⟩) | _ => .pointer none
  | .ns => .slice none 0 0
  | .sl i g off n c => match ρ i g with | some (some q) => .slice (some ⟨q.1, q.2 + off, none⟩) n c | _ => .slice none n c
  | .nf => .nilFunc
  | .fn q a b => .func q (AV.cl ρ a).toArray (AV.cl ρ b).toArray
  | .ni => .nilIface
  | .ifc t v => .iface t (v.c ρ)
  | .nm => .map none
  | .mp i g => match ρ i g with | some (some q) => .map (some q.1) | _ => .map none
  | .agg l => .agg (AV.cl ρ l).toArray
  | .tup l => .tuple (AV.cl ρ l).toArray
  | .raw v => v
def AV.cl (ρ : Env) : List AV → List Value
  | [] => []
  | v :: l => v.c ρ :: AV.cl ρ l
end

mutual
/-- All its names are known. -/
def AV.ok (ρ : Env) : AV → Prop
  | .ptr i g _ => (ρ i g).isSome = true
  | .pel i g _ _ _ => (ρ i g).isSome = true
  | .sl i g _ _ _ => (ρ i g).isSome = true
  | .mp i g => (ρ i g).isSome = true
  | .fn _ a b => AV.okl ρ a ∧ AV.okl ρ b
  | .ifc _ v => v.ok ρ
  | .agg l => AV.okl ρ l
  | .tup l => AV.okl ρ l
  | _ => True
def AV.okl (ρ : Env) : List AV → Prop
  | [] => True
  | v :: l => v.ok ρ ∧ AV.okl ρ l
end

theorem AV.cl_eq (ρ : Env) (l : List AV) : AV.cl ρ l = l.map (AV.c ρ) := by
  induction l with
  | nil => rfl
  | cons v l ih => simp [AV.cl, ih]
theorem AV.okl_iff (ρ : Env) (l : List AV) : AV.okl ρ l ↔ ∀ v ∈ l, v.ok ρ := by
  induction l with
  | nil => simp [AV.okl]
  | cons v l ih => simp [AV.okl, ih]

/-- What an object holds. -/
inductive Cont where
  | cells (cs : List AV)
  | ints (k : IntKind) (xs : List Int) (c : Nat)
  | bools (xs : List Bool) (c : Nat)
  | tab (sz n : Nat) (get : Nat → List AV) (c : Nat)
  deriving Inhabited

def Cont.at : Cont → Nat → Option AV
  | .cells cs, o => cs[o]?
  | .ints k xs _, o => (xs[o]?).map (AV.int k)
  | .bools xs _, o => (xs[o]?).map AV.bo
  | .tab sz n get _, o => if o < n * sz then (get (o / sz))[o % sz]? else none
def Cont.size : Cont → Nat
  | .cells cs => cs.length
  | .ints _ _ c => c
  | .bools _ c => c
  | .tab sz _ _ c => c * sz
/-- May it be a nil slice's? -/
def Cont.virt : Cont → Prop
  | .cells _ => False
  | .ints _ xs c => xs = [] ∧ c = 0
  | .bools xs c => xs = [] ∧ c = 0
  | .tab _ n _ c => n = 0 ∧ c = 0

/-- An object: of one array (with the tag of its present place), or a family of them. -/
inductive AO where
  | gone
  | one (own : Bool) (g : Nat) (x : Cont)
  | fam (own : Bool) (m : Nat) (x : Nat → Cont)
  deriving Inhabited

abbrev AH := List AO

def slotO : AO → Nat → Option (Bool × Cont)
  | .gone, _ => none
  | .one own g' x, g => if g = g' then some (own, x) else none
  | .fam own m x, g => if g < m then some (own, x g) else none
def slot (M : AH) (i g : Nat) : Option (Bool × Cont) :=
  match M[i]? with
  | some o => slotO o g
  | none => none

structure Holds (ρ : Env) (own : Bool) (x : Cont) (b base : Nat) (w : World) : Prop where
  out : ∃ c e fr, w.heap[b]? = some (.cells c e fr) ∧ base + x.size ≤ c.size ∧ (∀ k v, x.at k = some v → v.ok ρ ∧ c[base + k]? = some (v.c ρ)) ∧ (own = true → fr = (0, 0))

/-- The world holds the abstract heap. -/
structure Sim (ρ : Env) (M : AH) (w : World) : Prop where
  dom : ∀ i g, (ρ i g).isSome = true → i < M.length
  tag : ∀ i g own g' x, M[i]? = some (.one own g' x) → (ρ i g).isSome = true → g ≤ g'
  fam : ∀ i g own m x, M[i]? = some (.fam own m x) → (ρ i g).isSome = true → g < m
  holds : ∀ i g own x, slot M i g = some (own, x) → (∃ q, ρ i g = some (some q) ∧ Holds ρ own x q.1 q.2 w) ∨ (ρ i g = some none ∧ x.virt)
  apart : ∀ i g x i' g' own' x' q q', slot M i g = some (true, x) → slot M i' g' = some (own', x') → ρ i g = some (some q) → ρ i' g' = some (some q') → q.1 = q'.1 → i = i' ∧ g = g'

/-- From one world to the next. -/
structure Ext (ρ : Env) (M : AH) (w : World) (ρ' : Env) (M' : AH) (w' : World) : Prop where
  env : ∀ i g l, ρ i g = some l → ρ' i g = some l
  size : w.heap.size ≤ w'.heap.size
  frame : ∀ b, b < w.heap.size → (∀ i g x q, slot M i g = some (true, x) → ρ i g = some (some q) → q.1 ≠ b) → w'.heap[b]? = w.heap[b]?
  fresh : ∀ i g x q, slot M' i g = some (true, x) → ρ' i g = some (some q) → q.1 < w.heap.size → ∃ i0 g0 x0 q0, slot M i0 g0 = some (true, x0) ∧ ρ i0 g0 = some (some q0) ∧ q0.1 = q.1
  os : w'.os = w.os
  tape : w'.tape = w.tape
  output : w'.output = w.output

theorem Ext.refl (ρ : Env) (M : AH) (w : World) : Ext ρ M w ρ M w :=
  ⟨fun _ _ _ h => h, Nat.le_refl _, fun _ _ _ => rfl, fun i g x q h1 h2 _ => ⟨i, g, x, q, h1, h2, rfl⟩, rfl, rfl, rfl⟩

theorem Ext.trans {ρ ρ' ρ'' : Env} {M M' M'' : AH} {w w' w'' : World} (h : Ext ρ M w ρ' M' w') (h' : Ext ρ' M' w' ρ'' M'' w'') : Ext ρ M w ρ'' M'' w'' where
  env := fun i g l e => h'.env i g l (h.env i g l e)
  size := Nat.le_trans h.size h'.size
  frame := fun b hb hn => by
    rw [h'.frame b (Nat.lt_of_lt_of_le hb h.size) ?_, h.frame b hb hn]
    intro i g x q h1 h2 e
    obtain ⟨i0, g0, x0, q0, a1, a2, a3⟩ := h.fresh i g x q h1 h2 (by omega)
    exact hn i0 g0 x0 q0 a1 a2 (by omega)
  fresh := fun i g x q h1 h2 hb => by
    obtain ⟨i0, g0, x0, q0, a1, a2, a3⟩ := h'.fresh i g x q h1 h2 (Nat.lt_of_lt_of_le hb h.size)
    obtain ⟨i1, g1, x1, q1, b1, b2, b3⟩ := h.fresh i0 g0 x0 q0 a1 a2 (by omega)
    exact ⟨i1, g1, x1, q1, b1, b2, by omega⟩
  os := h'.os.trans h.os
  tape := h'.tape.trans h.tape
  output := h'.output.trans h.output

/-! Names that are known stay known, and mean what they meant. -/
mutual
theorem AV.ok_ext {ρ ρ' : Env} (h : ∀ i g l, ρ i g = some l → ρ' i g = some l) : ∀ v : AV, v.ok ρ → v.ok ρ'
  | .ptr i g _ => fun k => by
    simp only [AV.ok] at k ⊢; obtain ⟨l, e⟩ := Option.isSome_iff_exists.1 k; rw [h _ _ _ e]; rfl
  | .pel i g _ _ _ => fun k => by
    simp only [AV.ok] at k ⊢; obtain ⟨l, e⟩ := Option.isSome_iff_exists.1 k; rw [h _ _ _ e]; rfl
  | .sl i g _ _ _ => fun k => by
    simp only [AV.ok] at k ⊢; obtain ⟨l, e⟩ := Option.isSome_iff_exists.1 k; rw [h _ _ _ e]; rfl
  | .mp i g => fun k => by
    simp only [AV.ok] at k ⊢; obtain ⟨l, e⟩ := Option.isSome_iff_exists.1 k; rw [h _ _ _ e]; rfl
  | .fn _ a b => fun k => by simp only [AV.ok] at k ⊢; exact ⟨AV.okl_ext h a k.1, AV.okl_ext h b k.2⟩
  | .ifc _ v => fun k => by simp only [AV.ok] at k ⊢; exact AV.ok_ext h v k
  | .agg l => fun k => by simp only [AV.ok] at k ⊢; exact AV.okl_ext h l k
  | .tup l => fun k => by simp only [AV.ok] at k ⊢; exact AV.okl_ext h l k
  | .bo _ => fun _ => trivial | .tt => fun _ => trivial | .ff => fun _ => trivial | .int _ _ => fun _ => trivial | .str _ => fun _ => trivial
  | .np => fun _ => trivial | .ns => fun _ => trivial | .nf => fun _ => trivial | .ni => fun _ => trivial | .nm => fun _ => trivial | .raw _ => fun _ => trivial
theorem AV.okl_ext {ρ ρ' : Env} (h : ∀ i g l, ρ i g = some l → ρ' i g = some l) : ∀ l : List AV, AV.okl ρ l → AV.okl ρ' l
  | [] => fun _ => trivial
  | v :: l => fun k => by simp only [AV.okl] at k ⊢; exact ⟨AV.ok_ext h v k.1, AV.okl_ext h l k.2⟩
end
mutual
theorem AV.c_ext {ρ ρ' : Env} (h : ∀ i g l, ρ i g = some l → ρ' i g = some l) : ∀ v : AV, v.ok ρ → v.c ρ' = v.c ρ
  | .ptr i g _ => fun k => by
    simp only [AV.ok] at k; obtain ⟨l, e⟩ := Option.isSome_iff_exists.1 k; simp only [AV.c, e, h _ _ _ e]
  | .pel i g _ _ _ => fun k => by
    simp only [AV.ok] at k; obtain ⟨l, e⟩ := Option.isSome_iff_exists.1 k; simp only [AV.c, e, h _ _ _ e]
  | .sl i g _ _ _ => fun k => by
    simp only [AV.ok] at k; obtain ⟨l, e⟩ := Option.isSome_iff_exists.1 k; simp only [AV.c, e, h _ _ _ e]
  | .mp i g => fun k => by
    simp only [AV.ok] at k; obtain ⟨l, e⟩ := Option.isSome_iff_exists.1 k; simp only [AV.c, e, h _ _ _ e]
  | .fn _ a b => fun k => by simp only [AV.ok] at k; simp only [AV.c, AV.cl_ext h a k.1, AV.cl_ext h b k.2]
  | .ifc _ v => fun k => by simp only [AV.ok] at k; simp only [AV.c, AV.c_ext h v k]
  | .agg l => fun k => by simp only [AV.ok] at k; simp only [AV.c, AV.cl_ext h l k]
  | .tup l => fun k => by simp only [AV.ok] at k; simp only [AV.c, AV.cl_ext h l k]
  | .bo _ => fun _ => rfl | .tt => fun _ => rfl | .ff => fun _ => rfl | .int _ _ => fun _ => rfl | .str _ => fun _ => rfl
  | .np => fun _ => rfl | .ns => fun _ => rfl | .nf => fun _ => rfl | .ni => fun _ => rfl | .nm => fun _ => rfl | .raw _ => fun _ => rfl
theorem AV.cl_ext {ρ ρ' : Env} (h : ∀ i g l, ρ i g = some l → ρ' i g = some l) : ∀ l : List AV, AV.okl ρ l → AV.cl ρ' l = AV.cl ρ l
  | [] => fun _ => rfl
  | v :: l => fun k => by simp only [AV.okl] at k; simp only [AV.cl, AV.c_ext h v k.1, AV.cl_ext h l k.2]
end

theorem Holds.ext {ρ ρ' : Env} (h : ∀ i g l, ρ i g = some l → ρ' i g = some l) {own : Bool} {x : Cont} {b base : Nat} {w w' : World} (hw : w'.heap[b]? = w.heap[b]?) (k : Holds ρ own x b base w) : Holds ρ' own x b base w' := by
  obtain ⟨c, e, fr, h1, h2, h3, h4⟩ := k.out
  exact ⟨c, e, fr, hw.trans h1, h2, fun k v hv => ⟨AV.ok_ext h v (h3 k v hv).1, by rw [AV.c_ext h v (h3 k v hv).1]; exact (h3 k v hv).2⟩, h4⟩

end Go.Proofs.Ythbmddaemdcamaa
