/- Abstract values, abstract heaps, and what it means that a world holds one. The operations that leave the world alone, on abstract values. Every operation that leaves the world alone: its rule, and that the rule is sound. The rules of the operations that leave the world alone are sound. One object of an abstract heap is put anew. Loads and stores. Stores. New memory: variables, literals, make. append, copy. string(bs), bs a slice of bytes. []byte(s), s a string: a new array that may not be written. copy(d, x) of slices of numbers. Maps whose keys are numbers or pairs of numbers. -/
import Derived.CallsIn
import Derived.Below
import Derived.WalkKit
import Derived.Great.FillDense
import Derived.Laws.StructEq
import Derived.Deep.AppendSrc
import Derived.Laws.CopyRow
import Derived.Great.BuildSlice
import Derived.Laws.MakeOwn
import Derived.Laws.BytesString
import Derived.Laws.IdiomStrings
import Derived.RangeFuncRecord
import Derived.MapKept
import Derived.Laws.Sem
set_option linter.unusedVariables false
set_option linter.unusedSimpArgs false
namespace Go.Proofs.Yteinenklppbjkaa

/-- Values with names of objects in the place of blocks. -/
inductive AV where
  | bo (x : Bool) | tt | ff
  | int (k : IntKind) (n : Int)
  | str (x : ByteArray)
  | np
  | ptr (i g off : Nat)
  | pel (i g sz j o : Nat)
  | ns
  | sl (i g off n c : Nat)
  | nf
  | fn (fn : Fn) (first cap : List AV)
  | ni
  | ifc (t : TypeId) (v : AV)
  | nm
  | mp (i g : Nat)
  | agg (l : List AV)
  | tup (l : List AV)
  | raw (v : Value)
  deriving Inhabited

/-- Where objects lie: by name and tag; 'some none': an empty slice's array that is nil. -/
abbrev Env := Nat → Nat → Option (Option (Nat × Nat))

mutual
def AV.c (ρ : Env) : AV → Value
  | .bo x => .bool x
  | .tt => .bool true
  | .ff => .bool false
  | .int k n => .int k n
  | .str x => .string x
  | .np => .pointer none
  | .ptr i g off => match ρ i g with | some (some q) => .pointer (some ⟨q.1, q.2 + off, none⟩) | _ => .pointer none
  | .pel i g sz j o => match ρ i g with | some (some q) => .pointer (some ⟨q.1, q.2 + (j * sz + o), none⟩) | _ => .pointer none
  | .ns => .slice none 0 0
  | .sl i g off n c => match ρ i g with | some (some q) => .slice (some ⟨q.1, q.2 + off, none⟩) n c | _ => .slice none n c
  | .nf => .nilFunc
  | .fn q a b => .func q (AV.cl ρ a).toArray (AV.cl ρ b).toArray
  | .ni => .nilIface
  | .ifc t v => .iface t (v.c ρ)
  | .nm => .map none
  | .mp i g => match ρ i g with | some (some q) => .map (some q.1) | _ => .map none
  | .agg l => .agg (AV.cl ρ l).toArray
  | .tup l => .tuple (AV.cl ρ l).toArray
  | .raw v => v
def AV.cl (ρ : Env) : List AV → List Value
  | [] => []
  | v :: l => v.c ρ :: AV.cl ρ l
end

mutual
/-- All its names are known. -/
def AV.ok (ρ : Env) : AV → Prop
  | .ptr i g _ => (ρ i g).isSome = true
  | .pel i g _ _ _ => (ρ i g).isSome = true
  | .sl i g _ _ _ => (ρ i g).isSome = true
  | .mp i g => (ρ i g).isSome = true
  | .fn _ a b => AV.okl ρ a ∧ AV.okl ρ b
  | .ifc _ v => v.ok ρ
  | .agg l => AV.okl ρ l
  | .tup l => AV.okl ρ l
  | _ => True
def AV.okl (ρ : Env) : List AV → Prop
  | [] => True
  | v :: l => v.ok ρ ∧ AV.okl ρ l
end

theorem AV.cl_eq (ρ : Env) (l : List AV) : AV.cl ρ l = l.map (AV.c ρ) := by
  induction l with
  | nil => rfl
  | cons v l ih => simp [AV.cl, ih]
theorem AV.okl_iff (ρ : Env) (l : List AV) : AV.okl ρ l ↔ ∀ v ∈ l, v.ok ρ := by
  induction l with
  | nil => simp [AV.okl]
  | cons v l ih => simp [AV.okl, ih]

/-- Kinds of maps' keys: numbers, or pairs of numbers (a number x is the key (x, 0)). -/
inductive MK where
  | int (k : IntKind)
  | pair (k1 k2 : IntKind)
  deriving Inhabited
def MK.v (mk : MK) (x : Int × Int) : Value :=
  match mk with
  | .int k => .int k x.1
  | .pair k1 k2 => .agg #[.int k1 x.1, .int k2 x.2]
def MK.wf (mk : MK) (x : Int × Int) : Prop :=
  match mk with
  | .int _ => x.2 = 0
  | .pair _ _ => True
/-- What an object holds. -/
inductive Cont where
  | cells (cs : List AV)
  | ints (k : IntKind) (xs : List Int) (c : Nat)
  | bools (xs : List Bool) (c : Nat)
  | tab (sz n : Nat) (get : Nat → List AV) (c : Nat)
  | map (mk : MK) (es : List ((Int × Int) × AV))
  | loop (l : Nat) (st : LoopState) (pd : Option Code) (fn : FuncId) (n : Nat) (a : Nat → AV) (ps : Array Tmp) (as bd : Code) (df : Nat)
  deriving Inhabited
/-- Is it of an array? -/
def Cont.row : Cont → Bool
  | .map _ _ => false
  | .loop .. => false
  | _ => true

def Cont.at : Cont → Nat → Option AV
  | .cells cs, o => cs[o]?
  | .ints k xs _, o => (xs[o]?).map (AV.int k)
  | .bools xs _, o => (xs[o]?).map AV.bo
  | .tab sz n get _, o => if o < n * sz then (get (o / sz))[o % sz]? else none
  | _, _ => none
def Cont.size : Cont → Nat
  | .cells cs => cs.length
  | .ints _ _ c => c
  | .bools _ c => c
  | .tab sz _ _ c => c * sz
  | _ => 0
/-- May it be a nil slice's? -/
def Cont.virt : Cont → Prop
  | .cells _ => False
  | .ints _ xs c => xs = [] ∧ c = 0
  | .bools xs c => xs = [] ∧ c = 0
  | .tab _ n _ c => n = 0 ∧ c = 0
  | _ => False

/-- An object: of one array (with the tag of its present place), or a family of them. -/
inductive AO where
  | gone
  | one (own : Bool) (g : Nat) (x : Cont)
  | fam (own : Bool) (m : Nat) (x : Nat → Cont)
  deriving Inhabited

abbrev AH := List AO

def slotO : AO → Nat → Option (Bool × Cont)
  | .gone, _ => none
  | .one own g' x, g => if g = g' then some (own, x) else none
  | .fam own m x, g => if g < m then some (own, x g) else none
def slot (M : AH) (i g : Nat) : Option (Bool × Cont) :=
  match M[i]? with
  | some o => slotO o g
  | none => none

/-- What a block that is no array holds. -/
def Cont.spec (ρ : Env) (x : Cont) (b : Nat) (w : World) : Prop :=
  match x with
  | .map kk es => ∃ (ents : Array MapEntry) (clock : Nat), w.heap[b]? = some (.map ents clock) ∧ ents.toList.map (fun e => (e.key, e.val)) = es.map (fun p => (kk.v p.1, p.2.c ρ)) ∧ (∀ p ∈ es, p.2.ok ρ ∧ kk.wf p.1) ∧ (∀ e ∈ ents.toList, e.born < clock) ∧ (ents.toList.map (·.born)).Nodup
  | .loop l st pd fn n a ps as bd df => b = l ∧ ∃ tmps, w.heap[b]? = some (.loop { state := st, pending := pd, fn := fn, tmps := tmps, params := ps, assign := as, body := bd, defers := df }) ∧ tmps.size = n ∧ ∀ t, (a t).ok ρ ∧ tmps.getD t undef = (a t).c ρ
  | _ => False
structure Holds (ρ : Env) (own : Bool) (x : Cont) (b base : Nat) (w : World) : Prop where
  all : (x.row = true ∧ ∃ c e fr, w.heap[b]? = some (.cells c e fr) ∧ base + x.size ≤ c.size ∧ (∀ k v, x.at k = some v → v.ok ρ ∧ c[base + k]? = some (v.c ρ)) ∧ (own = true → fr = (0, 0))) ∨ (x.row = false ∧ base = 0 ∧ x.spec ρ b w)
theorem Holds.mk' {ρ : Env} {own : Bool} {x : Cont} {b base : Nat} {w : World} (hx : x.row = true) (h : ∃ c e fr, w.heap[b]? = some (.cells c e fr) ∧ base + x.size ≤ c.size ∧ (∀ k v, x.at k = some v → v.ok ρ ∧ c[base + k]? = some (v.c ρ)) ∧ (own = true → fr = (0, 0))) : Holds ρ own x b base w := ⟨.inl ⟨hx, h⟩⟩
theorem Holds.out {ρ : Env} {own : Bool} {x : Cont} {b base : Nat} {w : World} (h : Holds ρ own x b base w) (hx : x.row = true) : ∃ c e fr, w.heap[b]? = some (.cells c e fr) ∧ base + x.size ≤ c.size ∧ (∀ k v, x.at k = some v → v.ok ρ ∧ c[base + k]? = some (v.c ρ)) ∧ (own = true → fr = (0, 0)) := by
  rcases h.all with ⟨_, h⟩ | ⟨h0, _⟩
  · exact h
  · rw [hx] at h0; cases h0
theorem Cont.at_row {x : Cont} {k : Nat} {v : AV} (h : x.at k = some v) : x.row = true := by
  cases x <;> first | rfl | (simp [Cont.at] at h)
theorem Cont.row_virt {x : Cont} (h : x.virt) : x.row = true := by
  cases x <;> first | rfl | exact h.elim

/-- The world holds the abstract heap. -/
structure Sim (ρ : Env) (M : AH) (w : World) : Prop where
  dom : ∀ i g, (ρ i g).isSome = true → i < M.length
  tag : ∀ i g own g' x, M[i]? = some (.one own g' x) → (ρ i g).isSome = true → g ≤ g'
  fam : ∀ i g own m x, M[i]? = some (.fam own m x) → (ρ i g).isSome = true → g < m
  holds : ∀ i g own x, slot M i g = some (own, x) → (∃ q, ρ i g = some (some q) ∧ Holds ρ own x q.1 q.2 w) ∨ (ρ i g = some none ∧ x.virt)
  apart : ∀ i g x i' g' own' x' q q', slot M i g = some (true, x) → slot M i' g' = some (own', x') → ρ i g = some (some q) → ρ i' g' = some (some q') → q.1 = q'.1 → i = i' ∧ g = g'

/-- From one world to the next. -/
structure Ext (ρ : Env) (M : AH) (w : World) (ρ' : Env) (M' : AH) (w' : World) : Prop where
  env : ∀ i g l, ρ i g = some l → ρ' i g = some l
  size : w.heap.size ≤ w'.heap.size
  frame : ∀ b, b < w.heap.size → (∀ i g x q, slot M i g = some (true, x) → ρ i g = some (some q) → q.1 ≠ b) → w'.heap[b]? = w.heap[b]?
  fresh : ∀ i g x q, slot M' i g = some (true, x) → ρ' i g = some (some q) → q.1 < w.heap.size → ∃ i0 g0 x0 q0, slot M i0 g0 = some (true, x0) ∧ ρ i0 g0 = some (some q0) ∧ q0.1 = q.1
  os : w'.os = w.os
  tape : w'.tape = w.tape
  output : w'.output = w.output

theorem Ext.refl (ρ : Env) (M : AH) (w : World) : Ext ρ M w ρ M w :=
  ⟨fun _ _ _ h => h, Nat.le_refl _, fun _ _ _ => rfl, fun i g x q h1 h2 _ => ⟨i, g, x, q, h1, h2, rfl⟩, rfl, rfl, rfl⟩

theorem Ext.trans {ρ ρ' ρ'' : Env} {M M' M'' : AH} {w w' w'' : World} (h : Ext ρ M w ρ' M' w') (h' : Ext ρ' M' w' ρ'' M'' w'') : Ext ρ M w ρ'' M'' w'' where
  env := fun i g l e => h'.env i g l (h.env i g l e)
  size := Nat.le_trans h.size h'.size
  frame := fun b hb hn => by
    rw [h'.frame b (Nat.lt_of_lt_of_le hb h.size) ?_, h.frame b hb hn]
    intro i g x q h1 h2 e
    obtain ⟨i0, g0, x0, q0, a1, a2, a3⟩ := h.fresh i g x q h1 h2 (by omega)
    exact hn i0 g0 x0 q0 a1 a2 (by omega)
  fresh := fun i g x q h1 h2 hb => by
    obtain ⟨i0, g0, x0, q0, a1, a2, a3⟩ := h'.fresh i g x q h1 h2 (Nat.lt_of_lt_of_le hb h.size)
    obtain ⟨i1, g1, x1, q1, b1, b2, b3⟩ := h.fresh i0 g0 x0 q0 a1 a2 (by omega)
    exact ⟨i1, g1, x1, q1, b1, b2, by omega⟩
  os := h'.os.trans h.os
  tape := h'.tape.trans h.tape
  output := h'.output.trans h.output

/-! Names that are known stay known, and mean what they meant. -/
mutual
theorem AV.ok_ext {ρ ρ' : Env} (h : ∀ i g l, ρ i g = some l → ρ' i g = some l) : ∀ v : AV, v.ok ρ → v.ok ρ'
  | .ptr i g _ => fun k => by
    simp only [AV.ok] at k ⊢; obtain ⟨l, e⟩ := Option.isSome_iff_exists.1 k; rw [h _ _ _ e]; rfl
  | .pel i g _ _ _ => fun k => by
    simp only [AV.ok] at k ⊢; obtain ⟨l, e⟩ := Option.isSome_iff_exists.1 k; rw [h _ _ _ e]; rfl
  | .sl i g _ _ _ => fun k => by
    simp only [AV.ok] at k ⊢; obtain ⟨l, e⟩ := Option.isSome_iff_exists.1 k; rw [h _ _ _ e]; rfl
  | .mp i g => fun k => by
    simp only [AV.ok] at k ⊢; obtain ⟨l, e⟩ := Option.isSome_iff_exists.1 k; rw [h _ _ _ e]; rfl
  | .fn _ a b => fun k => by simp only [AV.ok] at k ⊢; exact ⟨AV.okl_ext h a k.1, AV.okl_ext h b k.2⟩
  | .ifc _ v => fun k => by simp only [AV.ok] at k ⊢; exact AV.ok_ext h v k
  | .agg l => fun k => by simp only [AV.ok] at k ⊢; exact AV.okl_ext h l k
  | .tup l => fun k => by simp only [AV.ok] at k ⊢; exact AV.okl_ext h l k
  | .bo _ => fun _ => trivial | .tt => fun _ => trivial | .ff => fun _ => trivial | .int _ _ => fun _ => trivial | .str _ => fun _ => trivial
  | .np => fun _ => trivial | .ns => fun _ => trivial | .nf => fun _ => trivial | .ni => fun _ => trivial | .nm => fun _ => trivial | .raw _ => fun _ => trivial
theorem AV.okl_ext {ρ ρ' : Env} (h : ∀ i g l, ρ i g = some l → ρ' i g = some l) : ∀ l : List AV, AV.okl ρ l → AV.okl ρ' l
  | [] => fun _ => trivial
  | v :: l => fun k => by simp only [AV.okl] at k ⊢; exact ⟨AV.ok_ext h v k.1, AV.okl_ext h l k.2⟩
end
mutual
theorem AV.c_ext {ρ ρ' : Env} (h : ∀ i g l, ρ i g = some l → ρ' i g = some l) : ∀ v : AV, v.ok ρ → v.c ρ' = v.c ρ
  | .ptr i g _ => fun k => by
    simp only [AV.ok] at k; obtain ⟨l, e⟩ := Option.isSome_iff_exists.1 k; simp only [AV.c, e, h _ _ _ e]
  | .pel i g _ _ _ => fun k => by
    simp only [AV.ok] at k; obtain ⟨l, e⟩ := Option.isSome_iff_exists.1 k; simp only [AV.c, e, h _ _ _ e]
  | .sl i g _ _ _ => fun k => by
    simp only [AV.ok] at k; obtain ⟨l, e⟩ := Option.isSome_iff_exists.1 k; simp only [AV.c, e, h _ _ _ e]
  | .mp i g => fun k => by
    simp only [AV.ok] at k; obtain ⟨l, e⟩ := Option.isSome_iff_exists.1 k; simp only [AV.c, e, h _ _ _ e]
  | .fn _ a b => fun k => by simp only [AV.ok] at k; simp only [AV.c, AV.cl_ext h a k.1, AV.cl_ext h b k.2]
  | .ifc _ v => fun k => by simp only [AV.ok] at k; simp only [AV.c, AV.c_ext h v k]
  | .agg l => fun k => by simp only [AV.ok] at k; simp only [AV.c, AV.cl_ext h l k]
  | .tup l => fun k => by simp only [AV.ok] at k; simp only [AV.c, AV.cl_ext h l k]
  | .bo _ => fun _ => rfl | .tt => fun _ => rfl | .ff => fun _ => rfl | .int _ _ => fun _ => rfl | .str _ => fun _ => rfl
  | .np => fun _ => rfl | .ns => fun _ => rfl | .nf => fun _ => rfl | .ni => fun _ => rfl | .nm => fun _ => rfl | .raw _ => fun _ => rfl
theorem AV.cl_ext {ρ ρ' : Env} (h : ∀ i g l, ρ i g = some l → ρ' i g = some l) : ∀ l : List AV, AV.okl ρ l → AV.cl ρ' l = AV.cl ρ l
  | [] => fun _ => rfl
  | v :: l => fun k => by simp only [AV.okl] at k; simp only [AV.cl, AV.c_ext h v k.1, AV.cl_ext h l k.2]
end

theorem Cont.spec_ext {ρ ρ' : Env} (h : ∀ i g l, ρ i g = some l → ρ' i g = some l) {x : Cont} {b : Nat} {w w' : World} (hw : w'.heap[b]? = w.heap[b]?) (k : x.spec ρ b w) : x.spec ρ' b w' := by
  cases x with
  | map kk es =>
    obtain ⟨ents, clock, h1, h2, h3, h4, h5⟩ := k
    refine ⟨ents, clock, hw.trans h1, ?_, fun p hp => ⟨AV.ok_ext h _ (h3 p hp).1, (h3 p hp).2⟩, h4, h5⟩
    rw [h2]
    exact List.map_congr_left fun p hp => by rw [AV.c_ext h _ (h3 p hp).1]
  | loop l st pd fn n a ps as bd df =>
    obtain ⟨h1, tmps, h2, h3, h4⟩ := k
    exact ⟨h1, tmps, hw.trans h2, h3, fun t => ⟨AV.ok_ext h _ (h4 t).1, by rw [AV.c_ext h _ (h4 t).1]; exact (h4 t).2⟩⟩
  | cells _ => exact k.elim
  | ints _ _ _ => exact k.elim
  | bools _ _ => exact k.elim
  | tab _ _ _ _ => exact k.elim
theorem Holds.ext {ρ ρ' : Env} (h : ∀ i g l, ρ i g = some l → ρ' i g = some l) {own : Bool} {x : Cont} {b base : Nat} {w w' : World} (hw : w'.heap[b]? = w.heap[b]?) (k : Holds ρ own x b base w) : Holds ρ' own x b base w' := by
  rcases k.all with ⟨hx, c, e, fr, h1, h2, h3, h4⟩ | ⟨hx, hb, hs⟩
  · exact .mk' hx ⟨c, e, fr, hw.trans h1, h2, fun k v hv => ⟨AV.ok_ext h v (h3 k v hv).1, by rw [AV.c_ext h v (h3 k v hv).1]; exact (h3 k v hv).2⟩, h4⟩
  · exact ⟨.inr ⟨hx, hb, Cont.spec_ext h hw hs⟩⟩

theorem Holds.back {ρ ρ' : Env} (h : ∀ i g l, ρ i g = some l → ρ' i g = some l) {own : Bool} {x : Cont} {b base : Nat} {w w' : World} (k : Holds ρ own x b base w) (k' : Holds ρ' own x b base w') : Holds ρ own x b base w' := by
  rcases k'.all with ⟨hx, c, e, fr, h1, h2, h3, h4⟩ | ⟨hx, hb, hs⟩
  · obtain ⟨c0, e0, fr0, k1, k2, k3, k4⟩ := k.out hx
    refine .mk' hx ⟨c, e, fr, h1, h2, fun j v hv => ?_, h4⟩
    have hok := (k3 j v hv).1
    exact ⟨hok, by rw [← AV.c_ext h v hok]; exact (h3 j v hv).2⟩
  · rcases k.all with ⟨hx', _⟩ | ⟨_, _, hs0⟩
    · rw [hx] at hx'; cases hx'
    · refine ⟨.inr ⟨hx, hb, ?_⟩⟩
      cases x with
      | map kk es =>
        obtain ⟨ents, clock, h1, h2, h3, h4, h5⟩ := hs
        obtain ⟨_, _, _, _, k3, _⟩ := hs0
        refine ⟨ents, clock, h1, ?_, k3, h4, h5⟩
        rw [h2]
        exact List.map_congr_left fun p hp => by rw [AV.c_ext h _ (k3 p hp).1]
      | loop l st pd fn n a ps as bd df =>
        obtain ⟨h1, tmps, h2, h3, h4⟩ := hs
        obtain ⟨_, _, _, _, k4⟩ := hs0
        exact ⟨h1, tmps, h2, h3, fun t => ⟨(k4 t).1, by rw [← AV.c_ext h _ (k4 t).1]; exact (h4 t).2⟩⟩
      | cells _ => exact hs.elim
      | ints _ _ _ => exact hs.elim
      | bools _ _ => exact hs.elim
      | tab _ _ _ _ => exact hs.elim

end Go.Proofs.Yteinenklppbjkaa

set_option linter.unusedVariables false
set_option linter.unusedSimpArgs false
open Go.RowKit
namespace Go.Proofs.Yteinenklppbjkaa

/-- Kinds of types. -/
inductive TK where
  | int (k : IntKind) | bool | str | ptr (e : Nat) | slice (e : Nat) | arr (n e : Nat) | struct (fs : List (Nat × Nat)) | map (k e : Nat) | iface | func | other
  deriving Inhabited
def tkOf : TypeDesc → TK
  | .bool => .bool | .int k => .int k | .string => .str | .pointer e => .ptr e | .slice e => .slice e | .array n e => .arr n e
  | .struct fs => .struct (fs.toList.map fun f => (f.offset, f.type)) | .map k e => .map k e | .interface _ => .iface | .func .. => .func | _ => .other
structure TI where
  k : TK
  size : Nat
  bytes : Nat
  zero : List AV
  deriving Inhabited
def TK.isAgg : TK → Bool
  | .struct _ | .arr _ _ => true
  | _ => false

def ofS : Value → AV
  | .bool true => .tt | .bool false => .ff
  | .int k n => .int k n
  | .string s => .str s
  | .pointer none => .np
  | .slice none 0 0 => .ns
  | .map none => .nm
  | .nilFunc => .nf
  | .nilIface => .ni
  | v => .raw v
def ofC : Value → AV
  | .agg cs => .agg (cs.toList.map ofS)
  | .tuple vs => .tup (vs.toList.map ofS)
  | v => ofS v

theorem ofS_c (ρ : Env) (v : Value) : (ofS v).c ρ = v := by
  unfold ofS; split <;> simp [AV.c]
theorem ofS_ok (ρ : Env) (v : Value) : (ofS v).ok ρ := by
  unfold ofS; split <;> simp [AV.ok]
theorem ofC_c (ρ : Env) (v : Value) : (ofC v).c ρ = v := by
  unfold ofC; split
  · simp [AV.c, AV.cl_eq, ofS_c, Function.comp_def]
  · simp [AV.c, AV.cl_eq, ofS_c, Function.comp_def]
  · exact ofS_c ρ _
theorem ofC_ok (ρ : Env) (v : Value) : (ofC v).ok ρ := by
  unfold ofC; split
  · simp only [AV.ok, AV.okl_iff]; intro x hx; obtain ⟨y, _, rfl⟩ := List.mem_map.1 hx; exact ofS_ok ρ y
  · simp only [AV.ok, AV.okl_iff]; intro x hx; obtain ⟨y, _, rfl⟩ := List.mem_map.1 hx; exact ofS_ok ρ y
  · exact ofS_ok ρ _

def simpleT (P : Program) (t : Nat) : Bool :=
  match P.underlying t with
  | some (.int _) => true
  | some .bool => true
  | _ => false
/-- A struct of numbers and bools is compared field by field. -/
def eqOkB (P : Program) (t : Nat) (d : TypeDesc) : Bool :=
  match d with
  | .struct fs => !(fs.toList.all fun f => simpleT P f.type) || (!P.stoodInHeld t && !P.eqGuardType P.depth t && fs.toList.all fun f => f.name != "_")
  | _ => true
def entryOf (P : Program) (t : Nat) : Option TI :=
  match P.underlying t, P.info? t with
  | some d, some i => match eqOkB P t d, i.zero with
    | false, _ => none
    | true, none => none
    | true, some z => match z, (tkOf d).isAgg with
      | .agg _, false => none
      | .agg cs, true => some ⟨tkOf d, i.size, i.bytes, (Value.agg cs).cells.toList.map ofS⟩
      | _, true => none
      | z, false => some ⟨tkOf d, i.size, i.bytes, z.cells.toList.map ofS⟩
  | _, _ => none
/-- A table of the program's types. -/
def TabOK (P : Program) (T : List TI) : Prop := ∀ t ti, T[t]? = some ti → entryOf P t = some ti
theorem TabOK.mk' {P : Program} {T : List TI} (h : (List.range T.length).map (entryOf P) = T.map some) : TabOK P T := by
  intro t ti ht
  have hlt : t < T.length := (List.getElem?_eq_some_iff.1 ht).1
  have := congrArg (fun l => l[t]?) h
  simp [hlt] at this
  obtain ⟨_, e⟩ := List.getElem?_eq_some_iff.1 ht
  rw [this, e]

theorem TabOK.get {P : Program} {T : List TI} (h : TabOK P T) {t : Nat} {ti : TI} (ht : T[t]? = some ti) :
    ∃ d i z, P.underlying t = some d ∧ P.info? t = some i ∧ i.zero = some z ∧ ti = ⟨tkOf d, i.size, i.bytes, z.cells.toList.map ofS⟩ := by
  have := h t ti ht
  unfold entryOf at this
  split at this
  · split at this
    · cases this
    · cases this
    · split at this
      · cases this
      · injection this with this; exact ⟨_, _, _, ‹_›, ‹_›, ‹_›, this.symm⟩
      · cases this
      · injection this with this; exact ⟨_, _, _, ‹_›, ‹_›, ‹_›, this.symm⟩
  · cases this
theorem TabOK.eqOk {P : Program} {T : List TI} (h : TabOK P T) {t : Nat} {ti : TI} (ht : T[t]? = some ti) : ∃ d, P.underlying t = some d ∧ tkOf d = ti.k ∧ eqOkB P t d = true := by
  have := h t ti ht
  unfold entryOf at this
  split at this
  · rename_i d i hd hi
    split at this
    · cases this
    · cases this
    · rename_i he _
      split at this
      · cases this
      · injection this with this; subst this; exact ⟨d, hd, rfl, he⟩
      · cases this
      · injection this with this; subst this; exact ⟨d, hd, rfl, he⟩
  · cases this
theorem TabOK.shape {P : Program} {T : List TI} (h : TabOK P T) {t : Nat} {ti : TI} (ht : T[t]? = some ti) {i : TypeInfo} {z : Value} (hi : P.info? t = some i) (hz : i.zero = some z) : (∃ cs, z = .agg cs) ↔ ti.k.isAgg = true := by
  have := h t ti ht
  unfold entryOf at this
  rw [hi] at this
  split at this
  · rename_i d i' hd hi'
    injection hi' with hi'; subst hi'
    rw [hz] at this
    cases he : eqOkB P t d with
    | false => rw [he] at this; cases this
    | true =>
    rw [he] at this
    simp only at this
    split at this
    · cases this
    · rename_i hk
      injection this with this
      subst this
      exact ⟨fun _ => hk, fun _ => ⟨_, rfl⟩⟩
    · cases this
    · rename_i hno hk
      injection this with this
      subst this
      exact ⟨fun ⟨cs, e⟩ => absurd e (fun e => by subst e; exact hno cs rfl), fun e => by rw [hk] at e; cases e⟩
  · cases this

/-! Numbers. -/
def arith (k : IntKind) (wr : Bool) (z : Int) (K : Int → Prop) : Prop :=
  match k with
  | .i64 => match wr with
    | true => K (wrap64 z)
    | false => (-9223372036854775808 ≤ z ∧ z ≤ 9223372036854775807) ∧ K z
  | .u8 => K (z % 256)
  | .u16 => K (z % 65536)
  | .u32 => K (z % 4294967296)
  | .u64 => K (z % 18446744073709551616)
  | k => K (k.wrap z)
theorem arith_sound {k : IntKind} {wr : Bool} {z : Int} {K : Int → Prop} (h : arith k wr z K) : K (k.wrap z) := by
  unfold arith at h
  split at h
  · split at h
    · have e : IntKind.i64.wrap z = wrap64 z := by simp [IntKind.wrap, wrap64, IntKind.bits, IntKind.signed]; omega
      rw [e]; exact h
    · have e : IntKind.i64.wrap z = z := by simp [IntKind.wrap, IntKind.bits, IntKind.signed]; omega
      rw [e]; exact h.2
  all_goals first | exact h | (simpa [IntKind.wrap, IntKind.bits, IntKind.signed] using h)
def bitF (op : BinOp) (k : IntKind) (x y : Int) : Int :=
  let a := BitVec.ofInt k.bits x
  let b := BitVec.ofInt k.bits y
  match op with
  | .and => k.wrap (a &&& b).toNat
  | .or => k.wrap (a ||| b).toNat
  | .xor => k.wrap (a ^^^ b).toNat
  | _ => k.wrap (a &&& ~~~b).toNat
def shlF (k : IntKind) (x y : Int) : Int := k.wrap (x * 2 ^ min y.toNat k.bits)
def shrF (k : IntKind) (x y : Int) : Int := x.fdiv (2 ^ min y.toNat k.bits)
def sameK (k k' : IntKind) (p : Prop) : Prop :=
  match k, k' with
  | .i8, .i8 | .i16, .i16 | .i32, .i32 | .i64, .i64 | .u8, .u8 | .u16, .u16 | .u32, .u32 | .u64, .u64 => p
  | _, _ => False
theorem sameK_sound {k k' : IntKind} {p : Prop} (h : sameK k k' p) : k = k' ∧ p := by
  unfold sameK at h; split at h <;> first | exact ⟨rfl, h⟩ | exact h.elim
def AV.asB : AV → Option Bool
  | .tt => some true | .ff => some false | .bo x => some x | _ => none
theorem AV.asB_c {v : AV} {x : Bool} (ρ : Env) (h : v.asB = some x) : v.c ρ = .bool x := by
  unfold AV.asB at h; split at h <;> simp_all [AV.c]

def binA (wr : Bool) (op : BinOp) (x y : AV) (K : AV → Prop) : Prop :=
  match x, y with
  | .int k a, .int k' b => match op with
    | .shl => 0 ≤ b ∧ K (.int k (shlF k a b))
    | .shr => 0 ≤ b ∧ K (.int k (shrF k a b))
    | .add => sameK k k' (arith k wr (a + b) fun z => K (.int k z))
    | .sub => sameK k k' (arith k wr (a - b) fun z => K (.int k z))
    | .mul => sameK k k' (arith k wr (a * b) fun z => K (.int k z))
    | .quo => sameK k k' (b ≠ 0 ∧ arith k wr (a.tdiv b) fun z => K (.int k z))
    | .rem => sameK k k' (b ≠ 0 ∧ K (.int k (a.tmod b)))
    | .and => sameK k k' (K (.int k (bitF .and k a b)))
    | .or => sameK k k' (K (.int k (bitF .or k a b)))
    | .xor => sameK k k' (K (.int k (bitF .xor k a b)))
    | .andNot => sameK k k' (K (.int k (bitF .andNot k a b)))
    | .eql => sameK k k' (K (.bo (decide (a = b))))
    | .neq => sameK k k' (K (.bo (!decide (a = b))))
    | .lss => sameK k k' (K (.bo (decide (a < b))))
    | .leq => sameK k k' (K (.bo (decide (a ≤ b))))
    | .gtr => sameK k k' (K (.bo (decide (b < a))))
    | .geq => sameK k k' (K (.bo (decide (b ≤ a))))
  | .str a, .str b => match op with
    | .eql => K (.bo (a.toList == b.toList))
    | .neq => K (.bo (!(a.toList == b.toList)))
    | .add => (a.size : Int) + b.size ≤ 9223372036854775807 ∧ K (.str (a ++ b))
    | _ => False
  | _, _ => False

theorem run_eqGuard_int {P : Program} {w : World} {op : BinOp} {t : Nat} {x y : Operand} {k k' : IntKind} {a b : Int} : (eqGuard op t x y (.int k a) (.int k' b)).run P w = .ok () w := by
  unfold eqGuard; split <;> rfl
theorem run_eqGuard_str {P : Program} {w : World} {op : BinOp} {t : Nat} {x y : Operand} {a b : ByteArray} : (eqGuard op t x y (.string a) (.string b)).run P w = .ok () w := by
  unfold eqGuard; split <;> rfl

theorem binA_sound {wr : Bool} {op : BinOp} {x y : AV} {K : AV → Prop} (h : binA wr op x y K) (ρ : Env) :
    ∃ v, K v ∧ v.ok ρ ∧ ∀ (P : Program) (w : World) (t : Nat) (ox oy : Operand), (do eqGuard op t ox oy (x.c ρ) (y.c ρ); binOp op t (x.c ρ) (y.c ρ) : Sem Value).run P w = .ok (v.c ρ) w := by
  unfold binA at h
  split at h
  · rename_i k a k' b
    simp only [AV.c]
    cases op <;> simp only at h
    case shl => exact ⟨_, h.2, trivial, fun P w t ox oy => by simp [run_eqGuard_int, binOp, Op.shift, shlF, AV.c, Int.not_lt.2 h.1]⟩
    case shr => exact ⟨_, h.2, trivial, fun P w t ox oy => by simp [run_eqGuard_int, binOp, Op.shift, shrF, AV.c, Int.not_lt.2 h.1]⟩
    all_goals (replace h := sameK_sound h; obtain ⟨rfl, h⟩ := h)
    case add => exact ⟨_, arith_sound h, trivial, fun P w t ox oy => by simp [run_eqGuard_int, binOp, Op.intArith, AV.c]⟩
    case sub => exact ⟨_, arith_sound h, trivial, fun P w t ox oy => by simp [run_eqGuard_int, binOp, Op.intArith, AV.c]⟩
    case mul => exact ⟨_, arith_sound h, trivial, fun P w t ox oy => by simp [run_eqGuard_int, binOp, Op.intArith, AV.c]⟩
    case quo => exact ⟨_, arith_sound h.2, trivial, fun P w t ox oy => by simp [run_eqGuard_int, binOp, Op.intDiv, AV.c, h.1]⟩
    case rem => exact ⟨_, h.2, trivial, fun P w t ox oy => by simp [run_eqGuard_int, binOp, Op.intDiv, AV.c, h.1]⟩
    case and => exact ⟨_, h, trivial, fun P w t ox oy => by simp [run_eqGuard_int, binOp, Op.intBits, AV.c, bitF]⟩
    case or => exact ⟨_, h, trivial, fun P w t ox oy => by simp [run_eqGuard_int, binOp, Op.intBits, AV.c, bitF]⟩
    case xor => exact ⟨_, h, trivial, fun P w t ox oy => by simp [run_eqGuard_int, binOp, Op.intBits, AV.c, bitF]⟩
    case andNot => exact ⟨_, h, trivial, fun P w t ox oy => by simp [run_eqGuard_int, binOp, Op.intBits, AV.c, bitF]⟩
    case eql => exact ⟨_, h, trivial, fun P w t ox oy => by simp [run_eqGuard_int, binOp, Op.intCmp, AV.c]; exact (Bool.beq_eq_decide_eq a b)⟩
    case neq => exact ⟨_, h, trivial, fun P w t ox oy => by simp [run_eqGuard_int, binOp, Op.intCmp, AV.c, bne]; exact (Bool.beq_eq_decide_eq a b)⟩
    case lss => exact ⟨_, h, trivial, fun P w t ox oy => by simp [run_eqGuard_int, binOp, Op.intCmp, AV.c]⟩
    case leq => exact ⟨_, h, trivial, fun P w t ox oy => by simp [run_eqGuard_int, binOp, Op.intCmp, AV.c]⟩
    case gtr => exact ⟨_, h, trivial, fun P w t ox oy => by simp [run_eqGuard_int, binOp, Op.intCmp, AV.c]⟩
    case geq => exact ⟨_, h, trivial, fun P w t ox oy => by simp [run_eqGuard_int, binOp, Op.intCmp, AV.c]⟩
  · rename_i a b
    simp only [AV.c]
    cases op <;> simp only at h
    case eql => exact ⟨_, h, trivial, fun P w t ox oy => by rw [Sem.run_bind, run_eqGuard_str]; simp only [Result.andThen_ok, binOp, Op.stringOp]; rfl⟩
    case neq => exact ⟨_, h, trivial, fun P w t ox oy => by rw [Sem.run_bind, run_eqGuard_str]; simp only [Result.andThen_ok, binOp, Op.stringOp]; rfl⟩
    case add => exact ⟨_, h.2, trivial, fun P w t ox oy => by simp [run_eqGuard_str, binOp, Op.stringOp, AV.c]; exact h.1⟩
  · exact h.elim

/-! Parts of literals. -/
def AV.one : AV → Bool
  | .agg _ | .tup _ | .raw _ => false
  | _ => true
theorem AV.one_c {v : AV} (ρ : Env) (h : v.one = true) : (v.c ρ).oneCell' = true := by
  cases v with
  | ptr i g off => simp only [AV.c]; rcases ρ i g with _ | _ | q <;> rfl
  | pel i g sz j o => simp only [AV.c]; rcases ρ i g with _ | _ | q <;> rfl
  | sl i g off n c => simp only [AV.c]; rcases ρ i g with _ | _ | q <;> rfl
  | mp i g => simp only [AV.c]; rcases ρ i g with _ | _ | q <;> rfl
  | agg l => simp [AV.one] at h
  | tup l => simp [AV.one] at h
  | raw v => simp [AV.one] at h
  | _ => rfl
def AV.parts : AV → List AV
  | .agg l => l
  | v => [v]
theorem AV.parts_c (ρ : Env) (v : AV) (h : ∀ x, v ≠ .raw x) : (v.c ρ).cells.toList = AV.cl ρ v.parts := by
  cases v with
  | ptr i g off => simp only [AV.c, AV.parts, AV.cl]; rcases ρ i g with _ | _ | q <;> rfl
  | pel i g sz j o => simp only [AV.c, AV.parts, AV.cl]; rcases ρ i g with _ | _ | q <;> rfl
  | sl i g off n c => simp only [AV.c, AV.parts, AV.cl]; rcases ρ i g with _ | _ | q <;> rfl
  | mp i g => simp only [AV.c, AV.parts, AV.cl]; rcases ρ i g with _ | _ | q <;> rfl
  | agg l => simp [AV.c, AV.parts, Value.cells]
  | raw v => exact absurd rfl (h v)
  | _ => rfl
theorem AV.parts_ok {ρ : Env} {v : AV} (h : v.ok ρ) : AV.okl ρ v.parts := by
  cases v <;> simp_all [AV.parts, AV.okl, AV.ok]

def splice (cs : List AV) (off : Nat) (vs : List AV) : List AV :=
  match vs with
  | [v] => cs.set off v
  | vs => cs.take off ++ vs ++ cs.drop (off + vs.length)

theorem splice_many {cs vs : List AV} {off : Nat} (h : ¬ ∃ v, vs = [v]) : splice cs off vs = cs.take off ++ vs ++ cs.drop (off + vs.length) := by
  unfold splice
  split
  · exact absurd ⟨_, rfl⟩ h
  · rfl
theorem splice_get {cs vs : List AV} {off k : Nat} (h : off + vs.length ≤ cs.length) :
    (splice cs off vs)[k]? = if off ≤ k ∧ k < off + vs.length then vs[k - off]? else cs[k]? := by
  by_cases hv : ∃ v, vs = [v]
  · obtain ⟨v, rfl⟩ := hv
    simp only [splice, List.length_cons, List.length_nil] at h ⊢
    by_cases hk : k = off
    · subst hk; simp [List.getElem?_set]; omega
    · rw [List.getElem?_set_ne (Ne.symm hk), if_neg (by omega)]
  · rw [splice_many hv]
    have hl : (cs.take off).length = off := by simp; omega
    by_cases h1 : k < off
    · rw [if_neg (by omega), List.append_assoc, List.getElem?_append_left (by omega), List.getElem?_take, if_pos h1]
    · by_cases h2 : k < off + vs.length
      · rw [if_pos ⟨by omega, h2⟩, List.append_assoc, List.getElem?_append_right (by omega), hl, List.getElem?_append_left (by omega)]
      · rw [if_neg (by omega), List.getElem?_append_right (by simp; omega)]
        simp only [List.length_append, hl, List.getElem?_drop]
        congr 1; omega
theorem splice_length {cs vs : List AV} {off : Nat} (h : off + vs.length ≤ cs.length) : (splice cs off vs).length = cs.length := by
  unfold splice
  split
  · simp
  · simp; omega

def fillL (pl : Nat → Option (Nat × Nat)) : List AV → List (Nat × AV) → Option (List AV)
  | cs, [] => some cs
  | cs, (i, v) :: r => match pl i with
    | some (off, sz) => match Nat.beq v.parts.length sz && Nat.ble (off + sz) cs.length && v.parts.all AV.one with
      | true => fillL pl (splice cs off v.parts) r
      | false => none
    | none => none
theorem fillL_sound {ρ : Env} {pl : Nat → Option (Nat × Nat)} : ∀ {l : List (Nat × AV)} {cs cs' : List AV}, fillL pl cs l = some cs' → AV.okl ρ cs → (∀ x ∈ l, x.2.ok ρ) →
    ∀ cells : Array Value, cells.toList = AV.cl ρ cs → AV.okl ρ cs' ∧ Instr.fill pl cells (l.map fun x => (x.1, x.2.c ρ)) = some (AV.cl ρ cs').toArray
  | [], cs, cs', h, hok, _, cells, hc => by
    simp only [fillL, Option.some.injEq] at h; subst h
    exact ⟨hok, by rw [← hc]; rfl⟩
  | (i, v) :: r, cs, cs', h, hok, hv, cells, hc => by
    simp only [fillL] at h
    split at h
    · rename_i off sz hpl
      split at h
      · rename_i hb
        simp only [Bool.and_eq_true] at hb
        obtain ⟨⟨h1, h2⟩, h3⟩ := hb
        have h1' : v.parts.length = sz := Nat.eq_of_beq_eq_true h1
        have h2' : off + sz ≤ cs.length := by simpa using h2
        have hr : ∀ x, v ≠ .raw x := by rintro x rfl; simp [AV.parts, AV.one] at h3
        have hpc := AV.parts_c ρ v hr
        have hsz : (v.c ρ).cells.size = sz := by rw [← Array.length_toList, hpc, AV.cl_eq, List.length_map, h1']
        have hcl : cells.size = cs.length := by rw [← Array.length_toList, hc, AV.cl_eq, List.length_map]
        have hvok := AV.parts_ok (hv _ List.mem_cons_self)
        have hok2 : AV.okl ρ (splice cs off v.parts) := by
          rw [AV.okl_iff] at hok hvok ⊢
          intro u hu
          obtain ⟨k, hk⟩ := List.getElem?_of_mem hu
          rw [splice_get (by omega)] at hk
          split at hk
          · exact hvok u (List.mem_of_getElem? hk)
          · exact hok u (List.mem_of_getElem? hk)
        have hnew : ((v.c ρ).cells.zipIdx.foldl (fun cs (x : Value × Nat) => cs.setIfInBounds (off + x.2) x.1) cells).toList = AV.cl ρ (splice cs off v.parts) := by
          obtain ⟨f1, f2⟩ := Go.Great.foldl_set off (v.c ρ).cells.toList 0 cells
          have e0 : (v.c ρ).cells.zipIdx.foldl (fun cs (x : Value × Nat) => cs.setIfInBounds (off + x.2) x.1) cells = ((v.c ρ).cells.toList.zipIdx 0).foldl (fun cs (x : Value × Nat) => cs.setIfInBounds (off + x.2) x.1) cells := by
            rw [← Array.foldl_toList, Array.toList_zipIdx]
          rw [e0]
          apply List.ext_getElem?
          intro k
          rw [Array.getElem?_toList, f2 k, AV.cl_eq, List.getElem?_map, splice_get (by omega)]
          rw [hpc, AV.cl_eq, List.length_map, hcl]
          by_cases hk : off ≤ k ∧ k < off + v.parts.length
          · rw [if_pos (by omega), if_pos hk, List.getElem?_map]; simp
          · rw [if_neg (by omega), if_neg hk, ← Array.getElem?_toList, hc, AV.cl_eq, List.getElem?_map]
        obtain ⟨g1, g2⟩ := fillL_sound h hok2 (fun x hx => hv x (List.mem_cons_of_mem _ hx)) _ hnew
        refine ⟨g1, ?_⟩
        simp only [List.map_cons, Instr.fill, hpl]
        rw [if_neg (by simp [hsz]; omega)]
        exact g2
      · cases h
    · cases h

def placesL (T : List TI) : List (Nat × Nat) → Option (List (Nat × Nat))
  | [] => some []
  | (off, ft) :: fs => match T[ft]?, placesL T fs with
    | some ti, some r => some ((off, ti.size) :: r)
    | _, _ => none

end Go.Proofs.Yteinenklppbjkaa

set_option linter.unusedVariables false
set_option linter.unusedSimpArgs false
open Go.RowKit
namespace Go.Proofs.Yteinenklppbjkaa

/-- An object, by its name and its tag. -/
def slotA (M : AH) (i g : Nat) (K : Bool → Cont → Prop) : Prop :=
  match M[i]? with
  | some (.one own g' x) => g = g' ∧ K own x
  | some (.fam own m x) => g < m ∧ K own (x g)
  | _ => False
theorem slotA_sound {M : AH} {i g : Nat} {K : Bool → Cont → Prop} (h : slotA M i g K) : ∃ own x, slot M i g = some (own, x) ∧ K own x := by
  unfold slotA at h
  split at h
  · rename_i own g' x hm
    obtain ⟨rfl, h⟩ := h
    exact ⟨own, x, by simp [slot, hm, slotO], h⟩
  · rename_i own m x hm
    exact ⟨own, x g, by simp [slot, hm, slotO, h.1], h.2⟩
  · exact h.elim

/-- '==' with nil, and on bools. -/
def eqA (neg : Bool) (M : AH) (k : TK) (x y : AV) (K : AV → Prop) : Prop :=
  match k with
  | .ptr _ => match x, y with
    | .np, .np => K (if neg then .ff else .tt)
    | .ptr i g off, .np => slotA M i g fun own x_ => match x_ with
      | .cells _ => K (if neg then .tt else .ff)
      | _ => False
    | .np, .ptr i g off => slotA M i g fun own x_ => match x_ with
      | .cells _ => K (if neg then .tt else .ff)
      | _ => False
    | _, _ => False
  | .slice _ => match x, y with
    | .ns, .ns => K (if neg then .ff else .tt)
    | .sl i g off n c, .ns => slotA M i g fun own x_ => match x_ with
      | .cells _ => K (if neg then .tt else .ff)
      | .ints _ xs co => ∀ b : Bool, (b = true → xs = [] ∧ co = 0) → K (.bo (if neg then !b else b))
      | .bools xs co => ∀ b : Bool, (b = true → xs = [] ∧ co = 0) → K (.bo (if neg then !b else b))
      | .tab _ m _ co => ∀ b : Bool, (b = true → m = 0 ∧ co = 0) → K (.bo (if neg then !b else b))
      | _ => False
    | _, _ => False
  | .func => match x, y with
    | .nf, .nf => K (if neg then .ff else .tt)
    | .fn _ _ _, .nf => K (if neg then .tt else .ff)
    | _, _ => False
  | .iface => match x, y with
    | .ifc _ _, .ni => K (if neg then .tt else .ff)
    | _, _ => False
  | .bool => match x.asB, y.asB with
    | some p, some q => K (.bo (if neg then !(p == q) else p == q))
    | _, _ => False
  | _ => False

/-- '==' of structs of numbers and bools. -/
def eqF (T : List TI) (la lb : List AV) : List (Nat × Nat) → (Bool → Prop) → Prop
  | [], K => K true
  | (off, ft) :: fs, K => match T[ft]?, la[off]?, lb[off]? with
    | some ⟨.int k, _, _, _⟩, some (.int k1 a), some (.int k2 b) => sameK k k1 (sameK k k2 (eqF T la lb fs fun r => K (decide (a = b) && r)))
    | some ⟨.bool, _, _, _⟩, some x, some y => match x.asB, y.asB with
      | some p, some q => eqF T la lb fs fun r => K ((p == q) && r)
      | _, _ => False
    | _, _, _ => False
def eqSA (T : List TI) (neg : Bool) (t : Nat) (la lb : List AV) (K : AV → Prop) : Prop :=
  match T[t]? with
  | some ⟨.struct fs, _, _, _⟩ => eqF T la lb fs fun r => K (.bo (if neg then !r else r))
  | _ => False
/-- A test that the kernel decides. -/
def condT (b : Bool) (p : Prop) : Prop := match b with | true => p | false => False
theorem condT_sound {b : Bool} {p : Prop} (h : condT b p) : b = true ∧ p := by
  cases b
  · exact h.elim
  · exact ⟨rfl, h⟩

def offS (c l off sz : Nat) : Nat := if c = l then off else off + l * sz

def sliceA (T : List TI) (t : Nat) (x : AV) (lo hi : Option AV) (K : AV → Prop) : Prop :=
  match x with
  | .sl i g off n c => match T[t]? with
    | some ⟨.slice e, _, _, _⟩ => match T[e]? with
      | some te => match lo, hi with
        | none, none => K (.sl i g off n c)
        | none, some (.int _ h) => (0 ≤ h ∧ h ≤ c) ∧ K (.sl i g off h.toNat c)
        | some (.int _ l), none => (0 ≤ l ∧ l ≤ n) ∧ n ≤ c ∧ K (.sl i g (offS c l.toNat off te.size) (n - l.toNat) (c - l.toNat))
        | some (.int _ l), some (.int _ h) => (0 ≤ l ∧ l ≤ h ∧ h ≤ c) ∧ K (.sl i g (offS c l.toNat off te.size) (h.toNat - l.toNat) (c - l.toNat))
        | _, _ => False
      | none => False
    | _ => False
  | .str s => match T[t]? with
    | some ⟨.str, _, _, _⟩ => match lo, hi with
      | none, none => K (.str (s.extract 0 s.size))
      | none, some (.int _ h) => (0 ≤ h ∧ h ≤ s.size) ∧ K (.str (s.extract 0 h.toNat))
      | some (.int _ l), none => (0 ≤ l ∧ l ≤ s.size) ∧ K (.str (s.extract l.toNat s.size))
      | some (.int _ l), some (.int _ h) => (0 ≤ l ∧ l ≤ h ∧ h ≤ s.size) ∧ K (.str (s.extract l.toNat h.toNat))
      | _, _ => False
    | _ => False
  | _ => False

/-- x[lo:hi:mx] -/
def slice3A (T : List TI) (t : Nat) (x : AV) (lo hi : Option AV) (mx : AV) (K : AV → Prop) : Prop :=
  match x with
  | .sl i g off n c => match T[t]? with
    | some ⟨.slice e, _, _, _⟩ => match T[e]? with
      | some te => match lo, hi, mx with
        | none, some (.int _ h), .int _ m => (0 ≤ h ∧ h ≤ m ∧ m ≤ c) ∧ K (.sl i g off h.toNat m.toNat)
        | some (.int _ l), some (.int _ h), .int _ m => (0 ≤ l ∧ l ≤ h ∧ h ≤ m ∧ m ≤ c) ∧ K (.sl i g (offS m.toNat l.toNat off te.size) (h.toNat - l.toNat) (m.toNat - l.toNat))
        | _, _, _ => False
      | none => False
    | _ => False
  | _ => False

def idxA (T : List TI) (M : AH) (t : Nat) (x ix : AV) (K : AV → Prop) : Prop :=
  match ix with
  | .int _ z => match x with
    | .sl i g off n c => match T[t]? with
      | some ⟨.slice e, _, _, _⟩ => match T[e]? with
        | some te => (0 ≤ z ∧ z < n) ∧ slotA M i g fun own x_ => match x_ with
          | .cells _ => K (.ptr i g (off + z.toNat * te.size))
          | .ints _ xs _ => condT (Nat.beq te.size 1) (0 < xs.length ∧ K (.ptr i g (z.toNat + off)))
          | .bools xs _ => condT (Nat.beq te.size 1) (0 < xs.length ∧ K (.ptr i g (z.toNat + off)))
          | .tab sz m _ _ => match off with
            | 0 => condT (Nat.beq te.size sz) (0 < m ∧ K (.pel i g sz z.toNat 0))
            | _ => False
          | _ => False
        | none => False
      | _ => False
    | .ptr i g off => match T[t]? with
      | some ⟨.arr n e, _, _, _⟩ => match T[e]? with
        | some te => (0 ≤ z ∧ z < n) ∧ slotA M i g fun own x_ => match x_ with
          | .cells _ => K (.ptr i g (off + z.toNat * te.size))
          | _ => False
        | none => False
      | _ => False
    | _ => False
  | _ => False

/-- Values that are a part of another one. -/
def partA (ti : TI) (l : List AV) (off : Nat) (K : AV → Prop) : Prop :=
  match ti.k.isAgg with
  | true => K (.agg ((l.drop off).take ti.size))
  | false => match l[off]? with
    | some v => K v
    | none => False

/-- Of what is known of a name: that it is no nil slice's. -/
def liveA (M : AH) (v : AV) (p : Prop) : Prop :=
  match v with
  | .ptr i g off => slotA M i g fun own x_ => match x_ with
    | .cells _ => p
    | .ints _ xs _ => off < xs.length ∧ p
    | .bools xs _ => off < xs.length ∧ p
    | _ => False
  | .pel i g _ j _ => slotA M i g fun own x_ => match x_ with
    | .tab _ n _ _ => j < n ∧ p
    | _ => False
  | _ => False

/-- The value, with its head in sight. -/
def forceA (v : AV) (K : AV → Prop) : Prop :=
  match v with
  | .bo x => K (.bo x) | .tt => K .tt | .ff => K .ff | .int k n => K (.int k n) | .str x => K (.str x) | .np => K .np | .ptr i g off => K (.ptr i g off) | .pel i g sz j o => K (.pel i g sz j o)
  | .ns => K .ns | .sl i g off n c => K (.sl i g off n c) | .nf => K .nf | .fn q a b => K (.fn q a b) | .ni => K .ni | .ifc t v => K (.ifc t v) | .nm => K .nm | .mp i g => K (.mp i g)
  | .agg l => K (.agg l) | .tup l => K (.tup l) | .raw v => K (.raw v)
theorem forceA_eq {v : AV} {K : AV → Prop} (h : forceA v K) : K v := by cases v <;> exact h

/-- What a type assertion answers that fails. -/
def zfailA (ti : TI) (K : AV → Prop) : Prop := match ti.k.isAgg with
  | true => K (.tup [.agg ti.zero, .ff])
  | false => ∀ z, K (.tup [.raw z, .ff])
def pureA (T : List TI) (wr : Bool) (M : AH) (e : Operand → AV) (o : Op) (K : AV → Prop) : Prop :=
  match o with
  | .move x | .assign x => forceA (e x) K
  | .pick c a b => match e c with
    | .tt => forceA (e a) K
    | .ff => forceA (e b) K
    | .bo x => (x = true → forceA (e a) K) ∧ (x = false → forceA (e b) K)
    | _ => False
  | .nilCheck x => match e x with
    | .fn (.func f) a b => K (.fn (.func f) a b)
    | v => liveA M v (K v)
  | .binOp op t x y _ => match op with
    | .eql => match e x, e y with
      | .int k a, .int k' b => binA wr .eql (.int k a) (.int k' b) K
      | .str a, .str b => binA wr .eql (.str a) (.str b) K
      | .agg la, .agg lb => eqSA T false t la lb K
      | a, b => match T[t]? with
        | some ti => eqA false M ti.k a b K
        | none => False
    | .neq => match e x, e y with
      | .int k a, .int k' b => binA wr .neq (.int k a) (.int k' b) K
      | .str a, .str b => binA wr .neq (.str a) (.str b) K
      | .agg la, .agg lb => eqSA T true t la lb K
      | a, b => match T[t]? with
        | some ti => eqA true M ti.k a b K
        | none => False
    | op => binA wr op (e x) (e y) K
  | .unOp op _ x => match op, e x with
    | .not, .tt => K .ff
    | .not, .ff => K .tt
    | .not, .bo b => K (.bo (!b))
    | .neg, .int k n => arith k wr (0 - n) fun z => K (.int k z)
    | .xor, .int k n => K (.int k (bitF .xor k (if k.signed then -1 else k.max) n))
    | _, _ => False
  | .convert src dst x => match e x, T[src]?, T[dst]? with
    | .int _ n, some _, some ⟨.int k, _, _, _⟩ => arith k wr n fun z => K (.int k z)
    | _, _, _ => False
  | .makeInterface t x => match T[t]? with
    | some ⟨.iface, _, _, _⟩ => False
    | some _ => K (.ifc t (e x))
    | none => False
  | .makeFunc fn first cap => K (.fn fn (first.toList.map e) (cap.toList.map e))
  | .extract x ix => match e x with
    | .tup l => match l[ix]? with
      | some v => K v
      | none => False
    | _ => False
  | .field t x f => match e x, T[t]? with
    | .agg l, some ⟨.struct fs, _, _, _⟩ => match fs[f]? with
      | some (off, ft) => match T[ft]? with
        | some ti => partA ti l off K
        | none => False
      | none => False
    | _, _ => False
  | .fieldAddr t x f => match T[t]? with
    | some ⟨.struct fs, _, _, _⟩ => match fs[f]? with
      | some (off, ft) => match T[ft]? with
        | some ti => condT (!Nat.beq ti.size 0) (match e x with
          | .ptr i g o => liveA M (.ptr i g o) (K (.ptr i g (o + off)))
          | .pel i g sz j o => liveA M (.pel i g sz j o) (K (.pel i g sz j (o + off)))
          | _ => False)
        | none => False
      | none => False
    | _ => False
  | .indexAddr t x ix => idxA T M t (e x) (e ix) K
  | .index t x ix => match e x, e ix, T[t]? with
    | .agg l, .int _ z, some ⟨.arr n el, _, _, _⟩ => match T[el]? with
      | some ti => (0 ≤ z ∧ z < n) ∧ partA ti l (z.toNat * ti.size) K
      | none => False
    | .str s, .int _ z, some ⟨.str, _, _, _⟩ => (0 ≤ z ∧ z < s.size) ∧ K (.int .u8 (((s.data.toList.getD z.toNat 0).toNat : Nat) : Int))
    | _, _, _ => False
  | .slice t x lo hi none => sliceA T t (e x) (lo.map e) (hi.map e) K
  | .slice t x lo hi (some mx) => slice3A T t (e x) (lo.map e) (hi.map e) (e mx) K
  | .typeAssert x _ asserted ok => match T[asserted]?, e x with
    | some ⟨.iface, _, _, _⟩, _ => False
    | some ti, .ifc t v => match Nat.beq t asserted with
      | true => K (match ok with | true => .tup [v, .tt] | false => v)
      | false => match ok with
        | true => zfailA ti K
        | false => False
    | some ti, .ni => match ok with
        | true => zfailA ti K
        | false => False
    | _, _ => False
  | .call ⟨.builtin .len, args, tys⟩ => match args.toList, tys.toList with
    | [x], [t] => match e x, T[t]? with
      | .ns, some ⟨.slice _, _, _, _⟩ => K (.int .i64 0)
      | .sl _ _ _ n _, some ⟨.slice _, _, _, _⟩ => K (.int .i64 (n : Int))
      | .str s, some ⟨.str, _, _, _⟩ => K (.int .i64 (s.size : Int))
      | _, some ⟨.arr n _, _, _, _⟩ => K (.int .i64 (n : Int))
      | _, _ => False
    | _, _ => False
  | .call ⟨.builtin .min, args, _⟩ => match args.toList with
    | [x, y] => match e x, e y with
      | .int k a, .int _ b => K (.int k (min a b))
      | _, _ => False
    | _ => False
  | .call ⟨.builtin .max, args, _⟩ => match args.toList with
    | [x, y] => match e x, e y with
      | .int k a, .int _ b => K (.int k (max a b))
      | _, _ => False
    | _ => False
  | .build t parts => match T[t]? with
    | some ⟨.struct fs, _, _, z⟩ => match placesL T fs with
      | some pl => match fillL (fun i => pl[i]?) z (parts.toList.map fun x => (x.1, e x.2)) with
        | some cs => K (.agg cs)
        | none => False
      | none => False
    | some ⟨.arr _ el, _, _, z⟩ => match T[el]? with
      | some te => match fillL (fun i => some (i * te.size, te.size)) z (parts.toList.map fun x => (x.1, e x.2)) with
        | some cs => K (.agg cs)
        | none => False
      | none => False
    | _ => False
  | .call ⟨.builtin .cap, args, tys⟩ => match args.toList, tys.toList with
    | [x], [t] => match e x, T[t]? with
      | .ns, some ⟨.slice _, _, _, _⟩ => K (.int .i64 0)
      | .sl _ _ _ _ c, some ⟨.slice _, _, _, _⟩ => K (.int .i64 (c : Int))
      | _, _ => False
    | _, _ => False
  | _ => False

/-- What is known of the names of a heap, whatever the world. -/
def Known (ρ : Env) (M : AH) : Prop := ∀ i g own x, slot M i g = some (own, x) → (∃ q, ρ i g = some (some q)) ∨ (ρ i g = some none ∧ x.virt)
theorem Sim.known {ρ : Env} {M : AH} {w : World} (h : Sim ρ M w) : Known ρ M := fun i g own x hs => by
  rcases h.holds i g own x hs with ⟨q, hq, _⟩ | h
  · exact .inl ⟨q, hq⟩
  · exact .inr h
theorem Known.ext {ρ ρ' : Env} {M : AH} (h : Known ρ M) (he : ∀ i g l, ρ i g = some l → ρ' i g = some l) : Known ρ' M := fun i g own x hs => by
  rcases h i g own x hs with ⟨q, hq⟩ | ⟨h1, h2⟩
  · exact .inl ⟨q, he _ _ _ hq⟩
  · exact .inr ⟨he _ _ _ h1, h2⟩

/-- In every world the operation answers v. -/
def Ans (P : Program) (s : Sem Value) (v : Value) : Prop := ∀ w, s.run P w = .ok v w

theorem liveA_sound {ρ : Env} {M : AH} {v : AV} {p : Prop} (hk : Known ρ M) (h : liveA M v p) : p ∧ v.ok ρ ∧ ∃ a : Addr, a.spot = none ∧ v.c ρ = .pointer (some a) := by
  unfold liveA at h
  split at h
  · rename_i i g off
    replace h := slotA_sound h
    obtain ⟨own, x_, hs, h⟩ := h
    split at h
    · rename_i cs
      rcases hk _ _ _ _ hs with ⟨q, hq⟩ | ⟨_, h2⟩
      · exact ⟨h, by simp [AV.ok, hq], ⟨q.1, q.2 + off, none⟩, rfl, by simp [AV.c, hq]⟩
      · exact h2.elim
    · rename_i k xs c
      rcases hk _ _ _ _ hs with ⟨q, hq⟩ | ⟨_, h2⟩
      · exact ⟨h.2, by simp [AV.ok, hq], ⟨q.1, q.2 + off, none⟩, rfl, by simp [AV.c, hq]⟩
      · have := h.1; simp [h2.1] at this
    · rename_i xs c
      rcases hk _ _ _ _ hs with ⟨q, hq⟩ | ⟨_, h2⟩
      · exact ⟨h.2, by simp [AV.ok, hq], ⟨q.1, q.2 + off, none⟩, rfl, by simp [AV.c, hq]⟩
      · have := h.1; simp [h2.1] at this
    · exact h.elim
  · rename_i i g sz j o
    replace h := slotA_sound h
    obtain ⟨own, x_, hs, h⟩ := h
    split at h
    · rename_i s n get c
      rcases hk _ _ _ _ hs with ⟨q, hq⟩ | ⟨_, h2⟩
      · exact ⟨h.2, by simp [AV.ok, hq], ⟨q.1, q.2 + (j * sz + o), none⟩, rfl, by simp [AV.c, hq]⟩
      · have := h.1; have := h2.1; omega
    · exact h.elim
  · exact h.elim

theorem TabOK.und {P : Program} {T : List TI} (h : TabOK P T) {t : Nat} {ti : TI} (ht : T[t]? = some ti) : ∃ d, P.underlying t = some d ∧ tkOf d = ti.k := by
  obtain ⟨d, i, z, h1, h2, h3, rfl⟩ := h.get ht
  exact ⟨d, h1, rfl⟩
theorem tkOf_ptr {d : TypeDesc} {e : Nat} (h : tkOf d = .ptr e) : d = .pointer e := by cases d <;> simp_all [tkOf]
theorem tkOf_slice {d : TypeDesc} {e : Nat} (h : tkOf d = .slice e) : d = .slice e := by cases d <;> simp_all [tkOf]
theorem tkOf_arr {d : TypeDesc} {n e : Nat} (h : tkOf d = .arr n e) : d = .array n e := by cases d <;> simp_all [tkOf]
theorem tkOf_bool {d : TypeDesc} (h : tkOf d = .bool) : d = .bool := by cases d <;> simp_all [tkOf]
theorem tkOf_str {d : TypeDesc} (h : tkOf d = .str) : d = .string := by cases d <;> simp_all [tkOf]
theorem tkOf_int {d : TypeDesc} {k : IntKind} (h : tkOf d = .int k) : d = .int k := by cases d <;> simp_all [tkOf]
theorem tkOf_func {d : TypeDesc} (h : tkOf d = .func) : ∃ a b c, d = .func a b c := by cases d <;> simp_all [tkOf]
theorem tkOf_iface {d : TypeDesc} (h : tkOf d = .iface) : ∃ ms, d = .interface ms := by cases d <;> simp_all [tkOf]
theorem tkOf_struct {d : TypeDesc} {fs : List (Nat × Nat)} (h : tkOf d = .struct fs) : ∃ f, d = .struct f ∧ fs = f.toList.map fun f => (f.offset, f.type) := by cases d <;> simp_all [tkOf]

theorem run_eqGuard_other {P : Program} {w : World} {op : BinOp} {t : Nat} {x y : Operand} {a b : Value} (h1 : a ≠ .nilIface ∨ b ≠ .nilIface) (h2 : ∀ c, a ≠ .agg c) : (eqGuard op t x y a b).run P w = .ok () w := by
  cases a <;> cases b <;> first
    | (exfalso; rcases h1 with h | h <;> exact h rfl)
    | (exfalso; exact h2 _ rfl)
    | (cases op <;> rfl)

/-- The answer of '==' and of '!='. -/
theorem eq_run {P : Program} {t : Nat} {x y : Value} {r : Bool} (neg : Bool) (h : ∀ w, (Op.equal t x y).run P w = .ok r w) (h1 : x ≠ .nilIface ∨ y ≠ .nilIface) (h2 : ∀ c, x ≠ .agg c)
    (hb : ∀ op, op = .eql ∨ op = .neq → binOp op t x y = (match op with | .eql => do pure (.bool (← Op.equal t x y)) | _ => do pure (.bool (!(← Op.equal t x y))))) (ox oy : Operand) :
    Ans P (do eqGuard (if neg then .neq else .eql) t ox oy x y; binOp (if neg then .neq else .eql) t x y) (.bool (if neg then !r else r)) := by
  intro w
  cases neg
  · simp only [Bool.false_eq_true, if_false]
    rw [Sem.run_bind, run_eqGuard_other h1 h2, hb _ (.inl rfl)]
    simp [h w]
  · simp only [if_true]
    rw [Sem.run_bind, run_eqGuard_other h1 h2, hb _ (.inr rfl)]
    simp [h w]

theorem run_equal_of {P : Program} {t : Nat} {x y : Value} {r : Bool} (h : ∀ d w, (Op.equalIn (d + 1) t x y).run P w = .ok r w) (w : World) : (Op.equal t x y).run P w = .ok r w := h 9999 w

theorem eqA_sound {P : Program} {T : List TI} (hT : TabOK P T) {neg : Bool} {M : AH} {t : Nat} {ti : TI} (ht : T[t]? = some ti) {x y : AV} {K : AV → Prop} {ρ : Env} (hk : Known ρ M)
    (h : eqA neg M ti.k x y K) : ∃ v, K v ∧ v.ok ρ ∧ ∀ ox oy, Ans P (do eqGuard (if neg then .neq else .eql) t ox oy (x.c ρ) (y.c ρ); binOp (if neg then .neq else .eql) t (x.c ρ) (y.c ρ)) (v.c ρ) := by
  obtain ⟨d, hd, hkd⟩ := hT.und ht
  have tf : ∀ r : Bool, ∃ v : AV, (v = if r then AV.tt else AV.ff) ∧ v.ok ρ ∧ v.c ρ = .bool r := fun r => by cases r <;> exact ⟨_, rfl, by trivial, rfl⟩
  unfold eqA at h
  split at h
  · rename_i e hke
    rw [hke] at hkd; obtain rfl := tkOf_ptr hkd
    have e0 : ∀ (a b : Option Addr), (a = none ∨ b = none) → ∀ w, (Op.equal t (.pointer a) (.pointer b)).run P w = .ok (a.isNone && b.isNone) w := by
      intro a b hab
      refine run_equal_of fun d w => ?_
      rcases a with _ | a <;> rcases b with _ | b <;> first | (simp [Op.equalIn, run_underlying hd]; done) | simp at hab
    have hb : ∀ (a b : Option Addr), (a = none ∨ b = none) → ∀ op, op = .eql ∨ op = .neq → binOp op t (.pointer a) (.pointer b) = (match op with | .eql => do pure (.bool (← Op.equal t (.pointer a) (.pointer b))) | _ => do pure (.bool (!(← Op.equal t (.pointer a) (.pointer b))))) := by
      intro a b hab op hop
      rcases hop with rfl | rfl <;> rcases a with _ | a <;> rcases b with _ | b <;> rfl
    split at h
    · obtain ⟨v, hv, hok, hc⟩ := tf (if neg then false else true)
      refine ⟨v, by rw [hv]; cases neg <;> exact h, hok, fun ox oy => ?_⟩
      have := eq_run neg (e0 none none (.inl rfl)) (.inl (by simp)) (by simp) (hb none none (.inl rfl)) ox oy
      rw [hc]; cases neg <;> simpa [AV.c] using this
    · rename_i i g off
      replace h := slotA_sound h
      obtain ⟨own, x_, hs, h⟩ := h
      split at h
      · rename_i cs
        rcases hk _ _ _ _ hs with ⟨q, hq⟩ | ⟨_, h2⟩
        · obtain ⟨v, hv, hok, hc⟩ := tf neg
          refine ⟨v, by rw [hv]; cases neg <;> exact h, hok, fun ox oy => ?_⟩
          have := eq_run neg (e0 (some ⟨q.1, q.2 + off, none⟩) none (.inr rfl)) (.inl (by simp)) (by simp) (hb (some ⟨q.1, q.2 + off, none⟩) none (.inr rfl)) ox oy
          rw [hc]; cases neg <;> simpa [AV.c, hq] using this
        · exact h2.elim
      · exact h.elim
    · rename_i i g off
      replace h := slotA_sound h
      obtain ⟨own, x_, hs, h⟩ := h
      split at h
      · rename_i cs
        rcases hk _ _ _ _ hs with ⟨q, hq⟩ | ⟨_, h2⟩
        · obtain ⟨v, hv, hok, hc⟩ := tf neg
          refine ⟨v, by rw [hv]; cases neg <;> exact h, hok, fun ox oy => ?_⟩
          have := eq_run neg (e0 none (some ⟨q.1, q.2 + off, none⟩) (.inl rfl)) (.inl (by simp)) (by simp) (hb none (some ⟨q.1, q.2 + off, none⟩) (.inl rfl)) ox oy
          rw [hc]; cases neg <;> simpa [AV.c, hq] using this
        · exact h2.elim
      · exact h.elim
    · exact h.elim
  · rename_i e hke
    rw [hke] at hkd; obtain rfl := tkOf_slice hkd
    have e0 : ∀ (a : Option Addr) (n c n' c' : Nat), ∀ w, (Op.equal t (.slice a n c) (.slice none n' c')).run P w = .ok a.isNone w := by
      intro a n c n' c'
      refine run_equal_of fun d w => ?_
      rcases a with _ | a <;> simp [Op.equalIn, run_underlying hd]
    have hb : ∀ (a : Option Addr) (n c n' c' : Nat), ∀ op, op = .eql ∨ op = .neq → binOp op t (.slice a n c) (.slice none n' c') = (match op with | .eql => do pure (.bool (← Op.equal t (.slice a n c) (.slice none n' c'))) | _ => do pure (.bool (!(← Op.equal t (.slice a n c) (.slice none n' c'))))) := by
      intro a n c n' c' op hop
      rcases hop with rfl | rfl <;> rfl
    have go : ∀ (a : Option Addr) (n c : Nat) (ox oy : Operand), Ans P (do eqGuard (if neg then .neq else .eql) t ox oy (.slice a n c) (.slice none 0 0); binOp (if neg then .neq else .eql) t (.slice a n c) (.slice none 0 0)) (.bool (if neg then !a.isNone else a.isNone)) :=
      fun a n c ox oy => eq_run neg (e0 a n c 0 0) (.inl (by simp)) (by simp) (hb a n c 0 0) ox oy
    split at h
    · obtain ⟨v, hv, hok, hc⟩ := tf (if neg then false else true)
      refine ⟨v, by rw [hv]; cases neg <;> exact h, hok, fun ox oy => ?_⟩
      rw [hc]; have := go none 0 0 ox oy; cases neg <;> simpa [AV.c] using this
    · rename_i i g off n c
      have known : ∀ own x, slot M i g = some (own, x) → ∀ (p : Prop), (x.virt → p) → ∃ b : Bool, (b = true → p) ∧ (¬ x.virt → b = false) ∧ ∀ ox oy, Ans P (do eqGuard (if neg then .neq else .eql) t ox oy ((AV.sl i g off n c).c ρ) (AV.ns.c ρ); binOp (if neg then .neq else .eql) t ((AV.sl i g off n c).c ρ) (AV.ns.c ρ)) (.bool (if neg then !b else b)) := by
        intro own x hs p hp
        rcases hk _ _ _ _ hs with ⟨q, hq⟩ | ⟨hq, hv⟩
        · exact ⟨false, by simp, fun _ => rfl, fun ox oy => by simp only [AV.c, hq]; exact go (some _) n c ox oy⟩
        · exact ⟨true, fun _ => hp hv, fun hn => absurd hv hn, fun ox oy => by simp only [AV.c, hq]; exact go none n c ox oy⟩
      replace h := slotA_sound h
      obtain ⟨own, x_, hs, h⟩ := h
      split at h
      · rename_i cs
        obtain ⟨b, _, h2, h3⟩ := known _ _ hs True (fun _ => trivial)
        obtain rfl := h2 (fun hv => hv.elim)
        obtain ⟨v, hv, hok, hc⟩ := tf neg
        exact ⟨v, by rw [hv]; cases neg <;> exact h, hok, fun ox oy => by rw [hc]; have := h3 ox oy; cases neg <;> simpa using this⟩
      · rename_i k xs co
        obtain ⟨b, h1, _, h3⟩ := known _ _ hs (xs = [] ∧ co = 0) (fun hv => hv)
        exact ⟨_, h b h1, trivial, fun ox oy => h3 ox oy⟩
      · rename_i xs co
        obtain ⟨b, h1, _, h3⟩ := known _ _ hs (xs = [] ∧ co = 0) (fun hv => hv)
        exact ⟨_, h b h1, trivial, fun ox oy => h3 ox oy⟩
      · rename_i sz m get co
        obtain ⟨b, h1, _, h3⟩ := known _ _ hs (m = 0 ∧ co = 0) (fun hv => hv)
        exact ⟨_, h b h1, trivial, fun ox oy => h3 ox oy⟩
      · exact h.elim
    · exact h.elim
  · rename_i hke
    rw [hke] at hkd; obtain ⟨a1, a2, a3, rfl⟩ := tkOf_func hkd
    split at h
    · obtain ⟨v, hv, hok, hc⟩ := tf (if neg then false else true)
      refine ⟨v, by rw [hv]; cases neg <;> exact h, hok, fun ox oy => ?_⟩
      have := eq_run (P := P) (t := t) (x := .nilFunc) (y := .nilFunc) (r := true) neg (run_equal_of fun d w => by simp [Op.equalIn, run_underlying hd]) (.inl (by simp)) (by simp) (by rintro op (rfl | rfl) <;> rfl) ox oy
      rw [hc]; cases neg <;> simpa [AV.c] using this
    · rename_i fn a b
      obtain ⟨v, hv, hok, hc⟩ := tf neg
      refine ⟨v, by rw [hv]; cases neg <;> exact h, hok, fun ox oy => ?_⟩
      have := eq_run (P := P) (t := t) (x := (AV.fn fn a b).c ρ) (y := .nilFunc) (r := false) neg (run_equal_of fun d w => by simp [AV.c, Op.equalIn, run_underlying hd]) (.inl (by simp [AV.c])) (by simp [AV.c]) (by rintro op (rfl | rfl) <;> rfl) ox oy
      rw [hc]; cases neg <;> simpa [AV.c] using this
    · exact h.elim
  · rename_i hke
    rw [hke] at hkd; obtain ⟨ms, rfl⟩ := tkOf_iface hkd
    split at h
    · rename_i ty a
      obtain ⟨v, hv, hok, hc⟩ := tf neg
      refine ⟨v, by rw [hv]; cases neg <;> exact h, hok, fun ox oy => ?_⟩
      have := eq_run (P := P) (t := t) (x := (AV.ifc ty a).c ρ) (y := .nilIface) (r := false) neg (run_equal_of fun d w => by simp [AV.c, Op.equalIn, run_underlying hd]) (.inl (by simp [AV.c])) (by simp [AV.c]) (by rintro op (rfl | rfl) <;> rfl) ox oy
      rw [hc]; cases neg <;> simpa [AV.c] using this
    · exact h.elim
  · rename_i hke
    rw [hke] at hkd; obtain rfl := tkOf_bool hkd
    split at h
    · rename_i p q hx hy
      refine ⟨_, h, trivial, fun ox oy => ?_⟩
      rw [AV.asB_c ρ hx, AV.asB_c ρ hy]
      have := eq_run (P := P) (t := t) (x := .bool p) (y := .bool q) (r := p == q) neg (run_equal_of fun d w => by simp [Op.equalIn, run_underlying hd]) (.inl (by simp)) (by simp) (by rintro op (rfl | rfl) <;> rfl) ox oy
      cases neg <;> simpa [AV.c] using this
    · exact h.elim
  · exact h.elim

end Go.Proofs.Yteinenklppbjkaa

set_option linter.unusedVariables false
set_option linter.unusedSimpArgs false
open Go.RowKit
namespace Go.Proofs.Yteinenklppbjkaa

theorem TabOK.size {P : Program} {T : List TI} (h : TabOK P T) {t : Nat} {ti : TI} (ht : T[t]? = some ti) (w : World) : (sizeOf t).run P w = .ok ti.size w := by
  obtain ⟨d, i, z, h1, h2, h3, rfl⟩ := h.get ht
  simp [sizeOf, typeInfo, h2]
theorem TabOK.isAgg {P : Program} {T : List TI} (h : TabOK P T) {t : Nat} {ti : TI} (ht : T[t]? = some ti) (w : World) : (isAgg t).run P w = .ok ti.k.isAgg w := by
  obtain ⟨d, i, z, h1, h2, h3, rfl⟩ := h.get ht
  cases d <;> simp [Go.isAgg, run_underlying h1, tkOf, TK.isAgg]
theorem TabOK.zero {P : Program} {T : List TI} (h : TabOK P T) {t : Nat} {ti : TI} (ht : T[t]? = some ti) : ∃ z, (∀ w, (zeroValue t).run P w = .ok z w) ∧ ∀ ρ, z.cells.toList = AV.cl ρ ti.zero := by
  obtain ⟨d, i, z, h1, h2, h3, rfl⟩ := h.get ht
  refine ⟨z, fun w => by simp [zeroValue, typeInfo, h2, h3], fun ρ => ?_⟩
  simp [AV.cl_eq, Function.comp_def, ofS_c]
theorem TabOK.zero_ok {P : Program} {T : List TI} (h : TabOK P T) {t : Nat} {ti : TI} (ht : T[t]? = some ti) (ρ : Env) : AV.okl ρ ti.zero := by
  obtain ⟨d, i, z, h1, h2, h3, rfl⟩ := h.get ht
  rw [AV.okl_iff]
  intro v hv
  obtain ⟨x, _, rfl⟩ := List.mem_map.1 hv
  exact ofS_ok ρ x

theorem add_addr (b o k : Nat) : (⟨b, o, none⟩ : Addr).add k = ⟨b, o + k, none⟩ := by
  unfold Addr.add; split
  · subst_vars; rfl
  · rfl

theorem partA_sound {P : Program} {T : List TI} (hT : TabOK P T) {t : Nat} {ti : TI} (ht : T[t]? = some ti) {l : List AV} {off : Nat} {K : AV → Prop} {ρ : Env} (hl : AV.okl ρ l)
    (h : partA ti l off K) : ∃ v, K v ∧ v.ok ρ ∧ Ans P (part t (AV.cl ρ l).toArray off) (v.c ρ) := by
  unfold partA at h
  split at h
  · rename_i hk
    refine ⟨_, h, ?_, fun w => ?_⟩
    · simp only [AV.ok, AV.okl_iff] at hl ⊢
      exact fun v hv => hl v (List.mem_of_mem_drop (List.mem_of_mem_take hv))
    · simp [part, hT.isAgg ht, hk, hT.size ht, AV.c, AV.cl_eq, List.map_take, List.map_drop]
  · rename_i hk
    split at h
    · rename_i v hv
      refine ⟨v, h, (AV.okl_iff ρ l).1 hl v (List.mem_of_getElem? hv), fun w => ?_⟩
      simp [part, hT.isAgg ht, hk, AV.cl_eq, hv]
    · exact h.elim

theorem sl_c {ρ : Env} {i g off n c : Nat} : ∃ a : Option Addr, (AV.sl i g off n c).c ρ = .slice a n c ∧ ∀ k, (AV.sl i g (off + k) n c).c ρ = .slice (a.map (·.add k)) n c := by
  simp only [AV.c]
  split
  · exact ⟨_, rfl, fun k => by simp [add_addr, Nat.add_assoc]⟩
  · exact ⟨none, rfl, fun k => rfl⟩

theorem sl_c2 {ρ : Env} {i g off n c n' c' : Nat} {a : Option Addr} (h : (AV.sl i g off n c).c ρ = .slice a n c) : (AV.sl i g off n' c').c ρ = .slice a n' c' := by
  simp only [AV.c] at h ⊢
  split at h <;> rename_i hq <;> simp_all

theorem sl_off {ρ : Env} {i g off n c n' c' m l sz : Nat} {a : Option Addr} (h : (AV.sl i g off n c).c ρ = .slice a n c) : (AV.sl i g (offS m l off sz) n' c').c ρ = .slice (if m = l then a else a.map (·.add (l * sz))) n' c' := by
  unfold offS
  by_cases hm : m = l
  · rw [if_pos hm, if_pos hm]; exact sl_c2 h
  · rw [if_neg hm, if_neg hm]
    obtain ⟨a', h1, h2⟩ := sl_c (ρ := ρ) (i := i) (g := g) (off := off) (n := n) (c := c)
    rw [h] at h1
    injection h1 with h1 _ _
    subst h1
    exact sl_c2 (h2 (l * sz))

theorem run_sliceAt {P : Program} {t e : Nat} {x : Value} {lo hi mx : Option Value} (hd : P.underlying t = some (.slice e)) (w : World) : (Instr.sliceAt t x lo hi mx).run P w = (Instr.slice t x lo hi mx).run P w := by
  simp [Instr.sliceAt, run_underlying hd]
theorem run_sliceAt_str {P : Program} {t : Nat} {x : Value} {lo hi mx : Option Value} (hd : P.underlying t = some .string) (w : World) : (Instr.sliceAt t x lo hi mx).run P w = (Instr.slice t x lo hi mx).run P w := by
  simp [Instr.sliceAt, run_underlying hd]

theorem sliceA_sound {P : Program} {T : List TI} (hT : TabOK P T) {t : Nat} {x : AV} {lo hi : Option AV} {K : AV → Prop} {ρ : Env} (hx : x.ok ρ)
    (h : sliceA T t x lo hi K) : ∃ v, K v ∧ v.ok ρ ∧ Ans P (Instr.sliceAt t (x.c ρ) (lo.map (AV.c ρ)) (hi.map (AV.c ρ)) none) (v.c ρ) := by
  unfold sliceA at h
  split at h
  · rename_i i g off n c
    split at h
    · rename_i e s1 s2 s3 ht
      obtain ⟨d, hd, hkd⟩ := hT.und ht
      obtain rfl := tkOf_slice hkd
      obtain ⟨a, ha, _⟩ := sl_c (ρ := ρ) (i := i) (g := g) (off := off) (n := n) (c := c)
      split at h
      · rename_i te hte
        have hs := hT.size hte
        split at h
        · refine ⟨_, h, hx, fun w => ?_⟩
          rw [run_sliceAt hd, ha]
          simp [Instr.slice, run_underlying hd, Instr.sliceBounds, hs]
          rcases a with _ | a <;> simp [Addr.add]
        · rename_i k hh
          obtain ⟨⟨h1, h2⟩, h⟩ := h
          refine ⟨_, h, hx, fun w => ?_⟩
          rw [run_sliceAt hd, ha, sl_c2 ha]
          simp [Instr.slice, run_underlying hd, Instr.sliceBounds, Instr.sliceBound, asIntOf, AV.c, hs, h1, h2]
          rcases a with _ | a <;> simp [Addr.add]
        · rename_i k l
          obtain ⟨⟨h1, h2⟩, hnc, h⟩ := h
          refine ⟨_, h, hx, fun w => ?_⟩
          rw [run_sliceAt hd, ha, sl_off ha]
          simp [Instr.slice, run_underlying hd, Instr.sliceBounds, Instr.sliceBound, asIntOf, AV.c, hs, h1, h2]
        · rename_i k l k' hh
          obtain ⟨⟨h1, h2, h3⟩, h⟩ := h
          refine ⟨_, h, hx, fun w => ?_⟩
          have h0 : 0 ≤ hh := Int.le_trans h1 h2
          have h4 : l ≤ (hh.toNat : Int) := by omega
          rw [run_sliceAt hd, ha, sl_off ha]
          simp [Instr.slice, run_underlying hd, Instr.sliceBounds, Instr.sliceBound, asIntOf, AV.c, hs, h0, h1, h3, h4]
          intro hc; exfalso; omega
        · exact h.elim
      · exact h.elim
    · exact h.elim
  · rename_i s
    split at h
    · rename_i s1 s2 s3 ht
      obtain ⟨d, hd, hkd⟩ := hT.und ht
      obtain rfl := tkOf_str hkd
      split at h
      · refine ⟨_, h, trivial, fun w => ?_⟩
        rw [run_sliceAt_str hd]
        simp [Instr.slice, run_underlying hd, Instr.sliceBounds, AV.c]
      · rename_i k hh
        obtain ⟨⟨h1, h2⟩, h⟩ := h
        refine ⟨_, h, trivial, fun w => ?_⟩
        rw [run_sliceAt_str hd]
        simp [Instr.slice, run_underlying hd, Instr.sliceBounds, Instr.sliceBound, asIntOf, AV.c, h1, h2]
      · rename_i k l
        obtain ⟨⟨h1, h2⟩, h⟩ := h
        refine ⟨_, h, trivial, fun w => ?_⟩
        rw [run_sliceAt_str hd]
        simp [Instr.slice, run_underlying hd, Instr.sliceBounds, Instr.sliceBound, asIntOf, AV.c, h1, h2]
      · rename_i k l k' hh
        obtain ⟨⟨h1, h2, h3⟩, h⟩ := h
        refine ⟨_, h, trivial, fun w => ?_⟩
        have h0 : 0 ≤ hh := Int.le_trans h1 h2
        have h4 : l ≤ (hh.toNat : Int) := by omega
        rw [run_sliceAt_str hd]
        simp [Instr.slice, run_underlying hd, Instr.sliceBounds, Instr.sliceBound, asIntOf, AV.c, h0, h1, h3, h4]
        intro hc; exfalso; omega
      · exact h.elim
    · exact h.elim
  · exact h.elim

theorem slice3A_sound {P : Program} {T : List TI} (hT : TabOK P T) {t : Nat} {x mx : AV} {lo hi : Option AV} {K : AV → Prop} {ρ : Env} (hx : x.ok ρ)
    (h : slice3A T t x lo hi mx K) : ∃ v, K v ∧ v.ok ρ ∧ Ans P (Instr.sliceAt t (x.c ρ) (lo.map (AV.c ρ)) (hi.map (AV.c ρ)) (some (mx.c ρ))) (v.c ρ) := by
  unfold slice3A at h
  split at h
  · rename_i i g off n c
    split at h
    · rename_i e s1 s2 s3 ht
      obtain ⟨d, hd, hkd⟩ := hT.und ht
      obtain rfl := tkOf_slice hkd
      obtain ⟨a, ha, _⟩ := sl_c (ρ := ρ) (i := i) (g := g) (off := off) (n := n) (c := c)
      split at h
      · rename_i te hte
        have hs := hT.size hte
        split at h
        · rename_i k hh k' m
          obtain ⟨⟨h1, h2, h3⟩, h⟩ := h
          refine ⟨_, h, hx, fun w => ?_⟩
          have h0 : 0 ≤ m := Int.le_trans h1 h2
          have h4 : hh ≤ max m 0 := by omega
          rw [run_sliceAt hd, ha, sl_c2 ha]
          simp [Instr.slice, run_underlying hd, Instr.sliceBounds, Instr.sliceBound, asIntOf, AV.c, hs, h0, h1, h3, h4]
          rcases a with _ | a <;> simp [Addr.add]
        · rename_i k l k' hh k'' m
          obtain ⟨⟨h1, h2, h3, h4⟩, h⟩ := h
          refine ⟨_, h, hx, fun w => ?_⟩
          have h5 : 0 ≤ hh := Int.le_trans h1 h2
          have h6 : 0 ≤ m := Int.le_trans h5 h3
          have h7 : hh ≤ max m 0 := by omega
          have h8 : l ≤ max hh 0 := by omega
          rw [run_sliceAt hd, ha, sl_off ha]
          simp [Instr.slice, run_underlying hd, Instr.sliceBounds, Instr.sliceBound, asIntOf, AV.c, hs, h1, h4, h5, h6, h7, h8]
        · exact h.elim
      · exact h.elim
    · exact h.elim
  · exact h.elim

theorem sl_live {ρ : Env} {M : AH} {i g off n c : Nat} {own : Bool} {x : Cont} (hk : Known ρ M) (hs : slot M i g = some (own, x)) (hv : ¬ x.virt) : ∃ q, ρ i g = some (some q) := by
  rcases hk _ _ _ _ hs with ⟨q, hq⟩ | ⟨_, h2⟩
  · exact ⟨q, hq⟩
  · exact absurd h2 hv

theorem run_indexAt_sl {P : Program} {t e : Nat} {a : Addr} {n c : Nat} {k : IntKind} {z : Int} {sz : Nat} (hd : P.underlying t = some (.slice e)) (hs : ∀ w, (sizeOf e).run P w = .ok sz w) (h1 : 0 ≤ z) (h2 : z < n) (w : World) :
    (Instr.indexAt t (.slice (some a) n c) (.int k z)).run P w = .ok (.pointer (some (a.add (z.toNat * sz)))) w := by
  simp [Instr.indexAt, run_underlying hd, asIntOf, hs, h1, h2]
theorem run_indexAt_arr {P : Program} {t e : Nat} {a : Addr} {n : Nat} {k : IntKind} {z : Int} {sz : Nat} (hd : P.underlying t = some (.array n e)) (hs : ∀ w, (sizeOf e).run P w = .ok sz w) (h1 : 0 ≤ z) (h2 : z < n) (w : World) :
    (Instr.indexAt t (.pointer (some a)) (.int k z)).run P w = .ok (.pointer (some (a.add (z.toNat * sz)))) w := by
  simp [Instr.indexAt, run_underlying hd, asIntOf, hs, h1, h2, Instr.sureAddr]

theorem idxA_sound {P : Program} {T : List TI} (hT : TabOK P T) {t : Nat} {M : AH} {x ix : AV} {K : AV → Prop} {ρ : Env} (hk : Known ρ M) (hx : x.ok ρ)
    (h : idxA T M t x ix K) : ∃ v, K v ∧ v.ok ρ ∧ Ans P (Instr.indexAt t (x.c ρ) (ix.c ρ)) (v.c ρ) := by
  unfold idxA at h
  split at h
  · rename_i k z
    split at h
    · rename_i i g off n c
      split at h
      · rename_i e s1 s2 s3 ht
        obtain ⟨d, hd, hkd⟩ := hT.und ht
        obtain rfl := tkOf_slice hkd
        split at h
        · rename_i te hte
          have hs := hT.size hte
          obtain ⟨⟨h1, h2⟩, h⟩ := h
          replace h := slotA_sound h
          obtain ⟨own, x_, hsl, h⟩ := h
          split at h
          · rename_i cs
            obtain ⟨q, hq⟩ := sl_live (off := 0) (n := 0) (c := 0) hk hsl (by simp [Cont.virt])
            refine ⟨_, h, by simp [AV.ok, hq], fun w => ?_⟩
            simp only [AV.c, hq]
            rw [run_indexAt_sl hd hs h1 h2, add_addr, Nat.add_assoc]
          · rename_i kk xs co
            obtain ⟨h3, h4, h⟩ := condT_sound h
            obtain ⟨q, hq⟩ := sl_live (off := 0) (n := 0) (c := 0) hk hsl (by simp only [Cont.virt]; rintro ⟨rfl, _⟩; simp at h4)
            refine ⟨_, h, by simp [AV.ok, hq], fun w => ?_⟩
            have h5 : te.size = 1 := Nat.eq_of_beq_eq_true h3
            simp only [AV.c, hq]
            rw [run_indexAt_sl hd hs h1 h2, add_addr, h5]
            congr 4; omega
          · rename_i xs co
            obtain ⟨h3, h4, h⟩ := condT_sound h
            obtain ⟨q, hq⟩ := sl_live (off := 0) (n := 0) (c := 0) hk hsl (by simp only [Cont.virt]; rintro ⟨rfl, _⟩; simp at h4)
            refine ⟨_, h, by simp [AV.ok, hq], fun w => ?_⟩
            have h5 : te.size = 1 := Nat.eq_of_beq_eq_true h3
            simp only [AV.c, hq]
            rw [run_indexAt_sl hd hs h1 h2, add_addr, h5]
            congr 4; omega
          · rename_i sz m get co
            split at h
            · obtain ⟨h3, h4, h⟩ := condT_sound h
              obtain ⟨q, hq⟩ := sl_live (off := 0) (n := 0) (c := 0) hk hsl (by simp only [Cont.virt]; rintro ⟨rfl, _⟩; simp at h4)
              refine ⟨_, h, by simp [AV.ok, hq], fun w => ?_⟩
              have h5 : te.size = sz := Nat.eq_of_beq_eq_true h3
              simp only [AV.c, hq]
              rw [run_indexAt_sl hd hs h1 h2, add_addr, h5]
              rfl
            · exact h.elim
          · exact h.elim
        · exact h.elim
      · exact h.elim
    · rename_i i g off
      split at h
      · rename_i n e s1 s2 s3 ht
        obtain ⟨d, hd, hkd⟩ := hT.und ht
        obtain rfl := tkOf_arr hkd
        split at h
        · rename_i te hte
          have hs := hT.size hte
          obtain ⟨⟨h1, h2⟩, h⟩ := h
          replace h := slotA_sound h
          obtain ⟨own, x_, hsl, h⟩ := h
          split at h
          · rename_i cs
            obtain ⟨q, hq⟩ := sl_live (off := 0) (n := 0) (c := 0) hk hsl (by simp [Cont.virt])
            refine ⟨_, h, by simp [AV.ok, hq], fun w => ?_⟩
            simp only [AV.c, hq]
            rw [run_indexAt_arr hd hs h1 h2, add_addr, Nat.add_assoc]
          · exact h.elim
        · exact h.elim
      · exact h.elim
    · exact h.elim
  · exact h.elim

/-- What the operands are. -/
def EvR (ρ : Env) (e : Operand → AV) (v : Operand → Value) : Prop := ∀ x, v x = (e x).c ρ ∧ (e x).ok ρ

theorem next_value {P : Program} {s : Sem Value} {v : Value} (h : Ans P s v) (w : World) : (do pure (.value (← s)) : Sem Next).run P w = .ok (.value v) w := by
  simp [h w]

theorem cl_get {ρ : Env} {l : List AV} {i : Nat} {v : AV} (h : l[i]? = some v) : (AV.cl ρ l).toArray[i]? = some (v.c ρ) := by
  simp [AV.cl_eq, h]

def plF (f : Field) : Sem (Nat × Nat) := do pure (f.offset, ← sizeOf f.type)
theorem plF_run {P : Program} {T : List TI} (hT : TabOK P T) (w : World) : ∀ (l : List Field) (pl : List (Nat × Nat)), placesL T (l.map fun f => (f.offset, f.type)) = some pl → (l.mapM plF).run P w = .ok pl w
  | [], pl, h => by simp [placesL] at h; subst h; simp
  | x :: l, pl, h => by
    simp only [List.map_cons, placesL] at h
    split at h
    · rename_i ti r h1 h2
      injection h with h; subst h
      rw [List.mapM_cons]
      have h3 : (plF x).run P w = .ok (x.offset, ti.size) w := by simp [plF, hT.size h1]
      simp only [Sem.run_bind, h3, Result.andThen_ok, plF_run hT w l r h2]
      rfl
    · cases h

theorem eqF_simple {P : Program} {T : List TI} (hT : TabOK P T) {la lb : List AV} : ∀ (fs : List Field) (K : Bool → Prop), eqF T la lb (fs.map fun f => (f.offset, f.type)) K → (fs.all fun f => simpleT P f.type) = true
  | [], _, _ => rfl
  | f :: fs, K, h => by
    simp only [List.map_cons, eqF] at h
    split at h
    · rename_i k s1 s2 s3 k1 a k2 b h1 h2 h3
      replace h := sameK_sound h
      obtain ⟨rfl, h⟩ := h
      replace h := sameK_sound h
      obtain ⟨rfl, h⟩ := h
      obtain ⟨d0, hd, hk⟩ := hT.und h1
      obtain rfl := tkOf_int hk
      rw [List.all_cons, eqF_simple hT fs _ h, Bool.and_true]; simp [simpleT, hd]
    · rename_i s1 s2 s3 x y h1 h2 h3
      split at h
      · obtain ⟨d0, hd, hk⟩ := hT.und h1
        obtain rfl := tkOf_bool hk
        rw [List.all_cons, eqF_simple hT fs _ h, Bool.and_true]; simp [simpleT, hd]
      · exact h.elim
    · exact h.elim
theorem eqF_sound {P : Program} {T : List TI} (hT : TabOK P T) {la lb : List AV} {ρ : Env} (hla : AV.okl ρ la) (hlb : AV.okl ρ lb) : ∀ (fs : List Field) (K : Bool → Prop), eqF T la lb (fs.map fun f => (f.offset, f.type)) K →
    (fs.all fun f => f.name != "_") = true → ∃ r, K r ∧ ∀ d w, (Op.eqFields (d + 1) (AV.cl ρ la).toArray (AV.cl ρ lb).toArray fs).run P w = .ok r w
  | [], K, h, _ => ⟨true, h, fun d w => by simp [Op.eqFields]⟩
  | f :: fs, K, h, hn => by
    simp only [List.all_cons, Bool.and_eq_true, bne_iff_ne, ne_eq] at hn
    simp only [List.map_cons, eqF] at h
    split at h
    · rename_i k s1 s2 s3 k1 a k2 b h1 h2 h3
      replace h := sameK_sound h
      obtain ⟨rfl, h⟩ := h
      replace h := sameK_sound h
      obtain ⟨rfl, h⟩ := h
      obtain ⟨r, hr, hrun⟩ := eqF_sound hT hla hlb fs _ h hn.2
      obtain ⟨d0, hd, hk⟩ := hT.und h1
      obtain rfl := tkOf_int hk
      obtain ⟨v1, e1, _, p1⟩ := partA_sound hT h1 (l := la) (off := f.offset) (K := fun v => v = .int k a) hla (by unfold partA; simp only [TK.isAgg]; rw [h2])
      obtain ⟨v2, e2, _, p2⟩ := partA_sound hT h1 (l := lb) (off := f.offset) (K := fun v => v = .int k b) hlb (by unfold partA; simp only [TK.isAgg]; rw [h3])
      subst e1; subst e2
      refine ⟨_, hr, fun d w => ?_⟩
      simp only [Op.eqFields, if_pos hn.1, Sem.run_bind, p1 w, p2 w, Result.andThen_ok, AV.c, run_equalIn_int w d f.type k k a b hd]
      by_cases hab : a = b
      · subst hab; simp [hrun d w]
      · simp [hab]
    · rename_i s1 s2 s3 x y h1 h2 h3
      split at h
      · rename_i p q hp hq
        obtain ⟨r, hr, hrun⟩ := eqF_sound hT hla hlb fs _ h hn.2
        obtain ⟨d0, hd, hk⟩ := hT.und h1
        obtain rfl := tkOf_bool hk
        obtain ⟨v1, e1, _, p1⟩ := partA_sound hT h1 (l := la) (off := f.offset) (K := fun v => v = x) hla (by unfold partA; simp only [TK.isAgg]; rw [h2])
        obtain ⟨v2, e2, _, p2⟩ := partA_sound hT h1 (l := lb) (off := f.offset) (K := fun v => v = y) hlb (by unfold partA; simp only [TK.isAgg]; rw [h3])
        subst e1; subst e2
        refine ⟨_, hr, fun d w => ?_⟩
        simp only [Op.eqFields, if_pos hn.1, Sem.run_bind, p1 w, p2 w, Result.andThen_ok, AV.asB_c ρ hp, AV.asB_c ρ hq, run_equalIn_bool' w d f.type p q hd]
        by_cases hab : p = q
        · subst hab; simp [hrun d w]
        · have : (p == q) = false := by simpa using hab
          simp [this]
      · exact h.elim
    · exact h.elim
theorem eqSA_sound {P : Program} {T : List TI} (hT : TabOK P T) {neg : Bool} {t : Nat} {la lb : List AV} {K : AV → Prop} {ρ : Env} (hla : AV.ok ρ (.agg la)) (hlb : AV.ok ρ (.agg lb)) (h : eqSA T neg t la lb K) :
    ∃ v, K v ∧ v.ok ρ ∧ ∀ ox oy, Ans P (do eqGuard (if neg then .neq else .eql) t ox oy ((AV.agg la).c ρ) ((AV.agg lb).c ρ); binOp (if neg then .neq else .eql) t ((AV.agg la).c ρ) ((AV.agg lb).c ρ)) (v.c ρ) := by
  unfold eqSA at h
  split at h
  · rename_i fs _ _ _ ht
    obtain ⟨d, hd, hk, hok⟩ := hT.eqOk ht
    obtain ⟨f, rfl, hfs⟩ := tkOf_struct hk
    subst hfs
    have hall : (f.toList.all fun f => simpleT P f.type) = true ∧ P.stoodInHeld t = false ∧ P.eqGuardType P.depth t = false ∧ (f.toList.all fun f => f.name != "_") = true := by
      have hsim : (f.toList.all fun f => simpleT P f.type) = true := eqF_simple hT f.toList _ h
      refine ⟨hsim, ?_⟩
      unfold eqOkB at hok
      simp only [hsim, Bool.not_true, Bool.false_or, Bool.and_eq_true, Bool.not_eq_true'] at hok
      exact ⟨hok.1.1, hok.1.2, hok.2⟩
    obtain ⟨_, h1, h2, h3⟩ := hall
    obtain ⟨r, hr, hrun⟩ := eqF_sound hT hla hlb f.toList _ h h3
    refine ⟨_, hr, trivial, fun ox oy w => ?_⟩
    have hfo : P.fieldsOf t = f := by unfold Program.fieldsOf; rw [hd]
    have hst : P.underlying t = some (.struct (P.fieldsOf t)) := by rw [hfo]; exact hd
    have he := run_equalIn_struct (P := P) w 9999 t (AV.cl ρ la).toArray (AV.cl ρ lb).toArray hst h1
    rw [hfo, hrun 9998 w] at he
    cases neg
    · simp only [Bool.false_eq_true, if_false, AV.c]
      rw [Sem.run_bind, run_eqGuard_agg w .eql t ox oy _ _ h2]
      simp only [Result.andThen_ok, run_eql_struct, he]
    · simp only [if_true, AV.c]
      rw [Sem.run_bind, run_eqGuard_agg w .neq t ox oy _ _ h2]
      simp only [Result.andThen_ok, run_neq_struct, he]
  · exact h.elim
set_option maxHeartbeats 1000000 in
theorem zfailA_sound {P : Program} {T : List TI} (hT : TabOK P T) {ρ : Env} {t : Nat} {ti : TI} (h1 : T[t]? = some ti) {i : TypeInfo} {z : Value} (g2 : P.info? t = some i) (g3 : i.zero = some z) {K : AV → Prop} (h : zfailA ti K) :
    ∃ zv, K (.tup [zv, .ff]) ∧ zv.ok ρ ∧ zv.c ρ = z := by
  have hsh := hT.shape h1 g2 g3
  unfold zfailA at h
  split at h
  · rename_i hag
    obtain ⟨cs, rfl⟩ := hsh.2 hag
    obtain ⟨d, i', z', e1, e2, e3, e4⟩ := hT.get h1
    rw [g2] at e2; injection e2 with e2; subst e2
    rw [g3] at e3; injection e3 with e3; subst e3
    refine ⟨_, h, ?_, ?_⟩
    · rw [e4]
      simp only [AV.ok, AV.okl_iff]
      intro x hx; obtain ⟨y, _, rfl⟩ := List.mem_map.1 hx; exact ofS_ok ρ y
    · rw [e4]
      simp [AV.c, AV.cl_eq, ofS_c, Function.comp_def, Value.cells]
  · exact ⟨.raw z, h z, by simp [AV.ok], by simp [AV.c]⟩
theorem pureA_sound {P : Program} {T : List TI} (hT : TabOK P T) {wr : Bool} {M : AH} {e : Operand → AV} {o : Oper} {K : AV → Prop} {ρ : Env} {v : Operand → Value} (hk : Known ρ M) (he : EvR ρ e v)
    (h : pureA T wr M e o.op K) : ∃ r, K r ∧ r.ok ρ ∧ ∀ w, (execOp v o).run P w = .ok (.value (r.c ρ)) w := by
  obtain ⟨dst, op, ty, pos, after, guard⟩ := o
  simp only at h
  unfold pureA at h
  split at h
  · rename_i x
    exact ⟨_, forceA_eq h, (he x).2, fun w => by simp [execOp, (he x).1]⟩
  · rename_i x
    exact ⟨_, forceA_eq h, (he x).2, fun w => by simp [execOp, (he x).1]⟩
  · rename_i c a b
    have hc := (he c).1
    split at h <;> rename_i hh <;> (try rw [hh] at hc)
    · exact ⟨_, forceA_eq h, (he a).2, fun w => by simp [execOp, hc, AV.c, asBool, (he a).1]⟩
    · exact ⟨_, forceA_eq h, (he b).2, fun w => by simp [execOp, hc, AV.c, asBool, (he b).1]⟩
    · rename_i x
      cases x
      · exact ⟨_, forceA_eq (h.2 rfl), (he b).2, fun w => by simp [execOp, hc, AV.c, asBool, (he b).1]⟩
      · exact ⟨_, forceA_eq (h.1 rfl), (he a).2, fun w => by simp [execOp, hc, AV.c, asBool, (he a).1]⟩
    · exact h.elim
  · rename_i x
    have hx := (he x).1
    split at h
    · rename_i f a b hh
      rw [hh] at hx
      exact ⟨_, h, by rw [← hh]; exact (he x).2, fun w => by simp [execOp, hx, AV.c]⟩
    · obtain ⟨h1, h2, a, _, ha⟩ := liveA_sound hk h
      rw [ha] at hx
      exact ⟨_, h1, h2, fun w => by simp [execOp, hx, ha]⟩
  · rename_i op t x y yt
    have hx := (he x).1
    have hy := (he y).1
    split at h
    · split at h
      · rename_i k a k' b h1 h2
        rw [h1] at hx; rw [h2] at hy
        obtain ⟨r, h3, h4, h5⟩ := binA_sound h ρ
        exact ⟨r, h3, h4, fun w => next_value (by rw [hx, hy]; exact fun w => h5 P w t x y) w⟩
      · rename_i a b h1 h2
        rw [h1] at hx; rw [h2] at hy
        obtain ⟨r, h3, h4, h5⟩ := binA_sound h ρ
        exact ⟨r, h3, h4, fun w => next_value (by rw [hx, hy]; exact fun w => h5 P w t x y) w⟩
      · rename_i la lb h1 h2
        have hox := (he x).2
        have hoy := (he y).2
        rw [h1] at hx hox; rw [h2] at hy hoy
        obtain ⟨r, h3, h4, h5⟩ := eqSA_sound hT hox hoy h
        exact ⟨r, h3, h4, fun w => next_value (by rw [hx, hy]; exact h5 x y) w⟩
      · split at h
        · rename_i ti ht
          obtain ⟨r, h3, h4, h5⟩ := eqA_sound hT ht hk h
          exact ⟨r, h3, h4, fun w => next_value (by rw [hx, hy]; exact h5 x y) w⟩
        · exact h.elim
    · split at h
      · rename_i k a k' b h1 h2
        rw [h1] at hx; rw [h2] at hy
        obtain ⟨r, h3, h4, h5⟩ := binA_sound h ρ
        exact ⟨r, h3, h4, fun w => next_value (by rw [hx, hy]; exact fun w => h5 P w t x y) w⟩
      · rename_i a b h1 h2
        rw [h1] at hx; rw [h2] at hy
        obtain ⟨r, h3, h4, h5⟩ := binA_sound h ρ
        exact ⟨r, h3, h4, fun w => next_value (by rw [hx, hy]; exact fun w => h5 P w t x y) w⟩
      · rename_i la lb h1 h2
        have hox := (he x).2
        have hoy := (he y).2
        rw [h1] at hx hox; rw [h2] at hy hoy
        obtain ⟨r, h3, h4, h5⟩ := eqSA_sound hT hox hoy h
        exact ⟨r, h3, h4, fun w => next_value (by rw [hx, hy]; exact h5 x y) w⟩
      · split at h
        · rename_i ti ht
          obtain ⟨r, h3, h4, h5⟩ := eqA_sound hT ht hk h
          exact ⟨r, h3, h4, fun w => next_value (by rw [hx, hy]; exact h5 x y) w⟩
        · exact h.elim
    · obtain ⟨r, h3, h4, h5⟩ := binA_sound h ρ
      exact ⟨r, h3, h4, fun w => next_value (by rw [hx, hy]; exact fun w => h5 P w t x y) w⟩
  · rename_i op t x
    have hx := (he x).1
    split at h <;> rename_i hh <;> (try rw [hh] at hx)
    · exact ⟨_, h, trivial, fun w => by simp [execOp, hx, AV.c, Op.unary]⟩
    · exact ⟨_, h, trivial, fun w => by simp [execOp, hx, AV.c, Op.unary]⟩
    · exact ⟨_, h, trivial, fun w => by simp [execOp, hx, AV.c, Op.unary]⟩
    · exact ⟨_, arith_sound h, trivial, fun w => by simp [execOp, hx, AV.c, Op.unary, Op.intArith]⟩
    · exact ⟨_, h, trivial, fun w => by simp [execOp, hx, AV.c, Op.unary, Op.intBits, bitF]⟩
    · exact h.elim
  · rename_i src dst x
    have hx := (he x).1
    split at h
    · rename_i k0 n ti k s1 s2 s3 h1 h2 h3
      rw [h1] at hx
      obtain ⟨d1, hd1, _⟩ := hT.und h2
      obtain ⟨d2, hd2, hk2⟩ := hT.und h3
      obtain rfl := tkOf_int hk2
      exact ⟨_, arith_sound h, trivial, fun w => by simp [execOp, hx, AV.c, convert, run_underlying hd1, run_underlying hd2, Conv.intToInt]⟩
    · exact h.elim
  · rename_i t x
    split at h
    · exact h.elim
    · rename_i ti hni ht
      obtain ⟨d, hd, hkd⟩ := hT.und ht
      refine ⟨_, h, (he x).2, fun w => ?_⟩
      have : ∀ ms, d ≠ .interface ms := by
        rintro ms rfl
        obtain ⟨k, s1, s2, s3⟩ := ti
        simp only [tkOf] at hkd
        exact hni s1 s2 s3 (by rw [← hkd])
      simp only [execOp, Instr.makeInterface, Sem.run_bind, run_underlying hd, Result.andThen_ok]
      cases d <;> first | (exact absurd rfl (this _)) | (simp [(he x).1, AV.c])
    · exact h.elim
  · rename_i fn first cap
    refine ⟨_, h, ⟨?_, ?_⟩, fun w => ?_⟩
    · rw [AV.okl_iff]; intro z hz; obtain ⟨y, _, rfl⟩ := List.mem_map.1 hz; exact (he y).2
    · rw [AV.okl_iff]; intro z hz; obtain ⟨y, _, rfl⟩ := List.mem_map.1 hz; exact (he y).2
    · have e1 : ∀ a : Array Operand, a.map v = (AV.cl ρ (a.toList.map e)).toArray := fun a => by
        apply Array.toList_inj.1
        simp only [AV.cl_eq, Array.toList_map, List.map_map]
        exact List.map_congr_left fun z _ => (he z).1
      simp [execOp, Instr.makeFunc, AV.c, e1]
  · rename_i x ix
    have hx := (he x).1
    have hox := (he x).2
    split at h
    · rename_i l hh
      rw [hh] at hx hox
      split at h
      · rename_i r hr
        simp only [AV.ok, AV.okl_iff] at hox
        exact ⟨_, h, hox _ (List.mem_of_getElem? hr), fun w => by simp [execOp, hx, AV.c, Instr.extract, AV.cl_eq, hr]⟩
      · exact h.elim
    · exact h.elim
  · rename_i t x f
    have hx := (he x).1
    have hox := (he x).2
    split at h
    · rename_i l fs s1 s2 s3 h1 h2
      rw [h1] at hx hox
      obtain ⟨d, hd, hkd⟩ := hT.und h2
      obtain ⟨fa, rfl, rfl⟩ := tkOf_struct hkd
      split at h
      · rename_i off ft hf
        split at h
        · rename_i ti hft
          simp only [List.getElem?_map, Array.getElem?_toList, Option.map_eq_some_iff] at hf
          obtain ⟨fd, hfd, hfe⟩ := hf
          injection hfe with e1 e2
          subst e1; subst e2
          obtain ⟨r, h3, h4, h5⟩ := partA_sound hT hft (ρ := ρ) hox h
          refine ⟨r, h3, h4, fun w => ?_⟩
          simp [execOp, hx, AV.c, Instr.field, run_underlying hd, hfd, asAgg, h5 w]
        · exact h.elim
      · exact h.elim
    · exact h.elim
  · rename_i t x f
    have hx := (he x).1
    split at h
    · rename_i fs s1 s2 s3 h2
      obtain ⟨d, hd, hkd⟩ := hT.und h2
      obtain ⟨fa, rfl, rfl⟩ := tkOf_struct hkd
      split at h
      · rename_i off ft hf
        split at h
        · rename_i ti hft
          simp only [List.getElem?_map, Array.getElem?_toList, Option.map_eq_some_iff] at hf
          obtain ⟨fd, hfd, hfe⟩ := hf
          injection hfe with e1 e2
          subst e1; subst e2
          obtain ⟨hz, h⟩ := condT_sound h
          have hz' : ti.size ≠ 0 := by intro e; rw [e] at hz; simp at hz
          split at h
          · rename_i i g o1 hh
            obtain ⟨h3, h4, a, ha, hc⟩ := liveA_sound hk h
            have h5 : (AV.ptr i g (o1 + fd.offset)).c ρ = .pointer (some (a.add fd.offset)) := by
              simp only [AV.c] at hc ⊢
              split at hc
              · rename_i q hq
                injection hc with hc; injection hc with hc; subst hc
                simp [add_addr, Nat.add_assoc, hq]
              · cases hc
            refine ⟨_, h3, h4, fun w => ?_⟩
            rw [h5]
            simp [execOp, hx, hh, hc, Instr.fieldAt, run_underlying hd, hfd, Instr.sureAddr, fieldPlace, hT.size hft, hz']
          · rename_i i g sz j o1 hh
            obtain ⟨h3, h4, a, ha, hc⟩ := liveA_sound hk h
            have h5 : (AV.pel i g sz j (o1 + fd.offset)).c ρ = .pointer (some (a.add fd.offset)) := by
              simp only [AV.c] at hc ⊢
              split at hc
              · rename_i q hq
                injection hc with hc; injection hc with hc; subst hc
                simp [add_addr, Nat.add_assoc, hq]
              · cases hc
            refine ⟨_, h3, h4, fun w => ?_⟩
            rw [h5]
            simp [execOp, hx, hh, hc, Instr.fieldAt, run_underlying hd, hfd, Instr.sureAddr, fieldPlace, hT.size hft, hz']
          · exact h.elim
        · exact h.elim
      · exact h.elim
    · exact h.elim
  · rename_i t x ix
    obtain ⟨r, h3, h4, h5⟩ := idxA_sound hT hk (he x).2 h
    exact ⟨r, h3, h4, fun w => next_value (by rw [(he x).1, (he ix).1]; exact h5) w⟩
  · rename_i t x ix
    have hx := (he x).1
    have hix := (he ix).1
    have hox := (he x).2
    split at h
    · rename_i l k z n el s1 s2 s3 h1 h2 h3
      rw [h1] at hx hox; rw [h2] at hix
      obtain ⟨d, hd, hkd⟩ := hT.und h3
      obtain rfl := tkOf_arr hkd
      split at h
      · rename_i ti hti
        obtain ⟨⟨a1, a2⟩, h⟩ := h
        obtain ⟨r, b1, b2, b3⟩ := partA_sound hT hti (ρ := ρ) hox h
        refine ⟨r, b1, b2, fun w => ?_⟩
        simp [execOp, hx, hix, AV.c, Instr.index, run_underlying hd, asIntOf, a1, a2, hT.size hti, b3 w]
      · exact h.elim
    · rename_i s k z s1 s2 s3 h1 h2 h3
      rw [h1] at hx; rw [h2] at hix
      obtain ⟨d, hd, hkd⟩ := hT.und h3
      obtain rfl := tkOf_str hkd
      obtain ⟨⟨a1, a2⟩, h⟩ := h
      refine ⟨_, h, trivial, fun w => ?_⟩
      have hlt : z.toNat < s.size := by omega
      have hs : s[z.toNat]? = some s[z.toNat] := by simp [getElem?_pos, hlt]
      have hg : s.data.toList.getD z.toNat 0 = s[z.toNat] := by
        rw [List.getD_eq_getElem?_getD, List.getElem?_eq_getElem (by simpa using hlt)]; rfl
      have hg' : s.data[z.toNat]?.getD 0 = s[z.toNat] := by simpa using hg
      simp [execOp, hx, hix, AV.c, Instr.index, run_underlying hd, asIntOf, a1, hs, hg']
    · exact h.elim
  · rename_i t x lo hi
    obtain ⟨r, h3, h4, h5⟩ := sliceA_sound hT (he x).2 h
    refine ⟨r, h3, h4, fun w => ?_⟩
    have e1 : ∀ o : Option Operand, o.map v = (o.map e).map (AV.c ρ) := fun o => by cases o <;> simp [(he _).1]
    simp only [execOp, Option.map_none, e1, (he x).1]
    exact next_value h5 w
  · rename_i t x lo hi mx
    obtain ⟨r, h3, h4, h5⟩ := slice3A_sound hT (he x).2 h
    refine ⟨r, h3, h4, fun w => ?_⟩
    have e1 : ∀ o : Option Operand, o.map v = (o.map e).map (AV.c ρ) := fun o => by cases o <;> simp [(he _).1]
    simp only [execOp, Option.map_some, e1, (he x).1, (he mx).1]
    exact next_value h5 w
  · rename_i x xt asserted ok
    have hx := (he x).1
    have hox := (he x).2
    split at h
    · exact h.elim
    · rename_i ti t1 v1 hni h1 h2
      rw [h2] at hx hox
      obtain ⟨d, i, z, g1, g2, g3, hti⟩ := hT.get h1
      have hzv : ∀ w, (zeroValue asserted).run P w = .ok z w := fun w => by simp [zeroValue, typeInfo, g2, g3]
      have hd : ∀ ms, d ≠ .interface ms := by rintro ms rfl; rw [hti] at hni; exact hni _ _ _ rfl
      split at h
      · rename_i hb
        have hb' : t1 = asserted := Nat.eq_of_beq_eq_true hb
        refine ⟨_, h, ?_, fun w => ?_⟩
        · cases ok
          · exact hox
          · simp only [AV.ok, AV.okl, and_true]; exact hox
        · cases ok <;> cases d <;> first | (exact absurd rfl (hd _)) | simp [execOp, hx, AV.c, AV.cl, Instr.typeAssert, run_underlying g1, hb']
      · rename_i hb
        have hb' : t1 ≠ asserted := Nat.ne_of_beq_eq_false hb
        split at h
        · obtain ⟨zv, k1, k2, k3⟩ := zfailA_sound (ρ := ρ) hT h1 g2 g3 h
          refine ⟨_, k1, by simp only [AV.ok, AV.okl, and_true]; exact k2, fun w => ?_⟩
          cases d <;> first | (exact absurd rfl (hd _)) | simp [execOp, hx, AV.c, AV.cl, Instr.typeAssert, run_underlying g1, hb', hzv, k3]
        · exact h.elim
    · rename_i ti hni h1 h2
      rw [h2] at hx
      obtain ⟨d, i, z, g1, g2, g3, hti⟩ := hT.get h1
      have hzv : ∀ w, (zeroValue asserted).run P w = .ok z w := fun w => by simp [zeroValue, typeInfo, g2, g3]
      have hd : ∀ ms, d ≠ .interface ms := by rintro ms rfl; rw [hti] at hni; exact hni _ _ _ rfl
      split at h
      · obtain ⟨zv, k1, k2, k3⟩ := zfailA_sound (ρ := ρ) hT h1 g2 g3 h
        refine ⟨_, k1, by simp only [AV.ok, AV.okl, and_true]; exact k2, fun w => ?_⟩
        cases d <;> first | (exact absurd rfl (hd _)) | simp [execOp, hx, AV.c, AV.cl, Instr.typeAssert, run_underlying g1, hzv, k3]
      · exact h.elim
    · exact h.elim
  · rename_i args tys
    split at h
    · rename_i x t hax htx
      obtain rfl : args = #[x] := by apply Array.toList_inj.1; simpa using hax
      obtain rfl : tys = #[t] := by apply Array.toList_inj.1; simpa using htx
      have hx := (he x).1
      split at h
      · rename_i el s1 s2 s3 h1 h2
        rw [h1] at hx
        obtain ⟨d, hd, hkd⟩ := hT.und h2
        obtain rfl := tkOf_slice hkd
        exact ⟨_, h, trivial, fun w => by simp [execOp, resolve, invoke, builtin, Builtin.len_, run_underlying hd, hx, AV.c, goInt]⟩
      · rename_i i g off n c el s1 s2 s3 h1 h2
        rw [h1] at hx
        obtain ⟨d, hd, hkd⟩ := hT.und h2
        obtain rfl := tkOf_slice hkd
        obtain ⟨a, ha, _⟩ := sl_c (ρ := ρ) (i := i) (g := g) (off := off) (n := n) (c := c)
        rw [ha] at hx
        exact ⟨_, h, trivial, fun w => by simp [execOp, resolve, invoke, builtin, Builtin.len_, run_underlying hd, hx, AV.c, goInt]⟩
      · rename_i s s1 s2 s3 h1 h2
        rw [h1] at hx
        obtain ⟨d, hd, hkd⟩ := hT.und h2
        obtain rfl := tkOf_str hkd
        exact ⟨_, h, trivial, fun w => by simp [execOp, resolve, invoke, builtin, Builtin.len_, run_underlying hd, hx, AV.c, goInt]⟩
      · rename_i h2
        obtain ⟨d, hd, hkd⟩ := hT.und h2
        obtain rfl := tkOf_arr hkd
        exact ⟨_, h, trivial, fun w => by simp [execOp, resolve, invoke, builtin, Builtin.len_, run_underlying hd, AV.c, goInt]⟩
      · exact h.elim
    · exact h.elim
  · rename_i args tys
    split at h
    · rename_i x y hax
      obtain rfl : args = #[x, y] := by apply Array.toList_inj.1; simpa using hax
      have hx := (he x).1
      have hy := (he y).1
      split at h
      · rename_i k a k' b h1 h2
        rw [h1] at hx; rw [h2] at hy
        refine ⟨_, h, trivial, fun w => ?_⟩
        have : (if b < a then b else a) = min a b := by split <;> omega
        simp [execOp, resolve, invoke, builtin, Builtin.min_, Builtin.min2, hx, hy, AV.c, this]
      · exact h.elim
    · exact h.elim
  · rename_i args tys
    split at h
    · rename_i x y hax
      obtain rfl : args = #[x, y] := by apply Array.toList_inj.1; simpa using hax
      have hx := (he x).1
      have hy := (he y).1
      split at h
      · rename_i k a k' b h1 h2
        rw [h1] at hx; rw [h2] at hy
        refine ⟨_, h, trivial, fun w => ?_⟩
        have : (if a < b then b else a) = max a b := by split <;> omega
        simp [execOp, resolve, invoke, builtin, Builtin.max_, Builtin.max2, hx, hy, AV.c, this]
      · exact h.elim
    · exact h.elim
  · rename_i t parts
    have hparts : (parts.map fun (i, x) => (i, v x)).toList = (parts.toList.map fun x => (x.1, e x.2)).map fun x => (x.1, x.2.c ρ) := by
      rw [Array.toList_map, List.map_map]
      exact List.map_congr_left fun z _ => by simp [(he z.2).1]
    have hpo : ∀ x ∈ parts.toList.map (fun x => (x.1, e x.2)), x.2.ok ρ := by
      intro x hx
      obtain ⟨y, _, rfl⟩ := List.mem_map.1 hx
      exact (he y.2).2
    split at h
    · rename_i fs s1 s2 z ht
      split at h
      · rename_i pl hpl
        split at h
        · rename_i cs hcs
          have hzok := hT.zero_ok ht ρ
          obtain ⟨d, hd, hkd⟩ := hT.und ht
          obtain ⟨f, rfl, rfl⟩ := tkOf_struct hkd
          obtain ⟨zv, hz1, hz2⟩ := hT.zero ht
          obtain ⟨k1, k2⟩ := fillL_sound (ρ := ρ) hcs hzok hpo zv.cells (hz2 ρ)
          refine ⟨_, h, k1, fun w => ?_⟩
          have hmap : (f.mapM plF).run P w = .ok pl.toArray w := by
            rw [Array.mapM_eq_mapM_toList]
            simp [plF_run hT w _ _ hpl]
          have hp2 : Instr.fill (pl.toArray[·]?) zv.cells (parts.map fun (i, x) => (i, v x)).toList = some (AV.cl ρ cs).toArray := by
            rw [hparts]; simpa using k2
          have hrun : (Instr.build t (parts.map fun (i, x) => (i, v x))).run P w = .ok ((AV.agg cs).c ρ) w := by
            unfold Instr.build
            simp only [Sem.run_bind, hz1 w, Result.andThen_ok, run_underlying hd]
            rw [show (f.mapM fun f => do pure (f.offset, ← sizeOf f.type) : Sem (Array (Nat × Nat))) = f.mapM plF from rfl, hmap]
            simp only [Result.andThen_ok, hp2]
            rfl
          simp only [execOp, Sem.run_bind, hrun, Result.andThen_ok]
          rfl
        · exact h.elim
      · exact h.elim
    · rename_i n el s1 s2 z ht
      split at h
      · rename_i te hte
        split at h
        · rename_i cs hcs
          have hzok := hT.zero_ok ht ρ
          obtain ⟨d, hd, hkd⟩ := hT.und ht
          obtain rfl := tkOf_arr hkd
          obtain ⟨zv, hz1, hz2⟩ := hT.zero ht
          obtain ⟨k1, k2⟩ := fillL_sound (ρ := ρ) hcs hzok hpo zv.cells (hz2 ρ)
          refine ⟨_, h, k1, fun w => ?_⟩
          have hp2 : Instr.fill (fun i => some (i * te.size, te.size)) zv.cells (parts.map fun (i, x) => (i, v x)).toList = some (AV.cl ρ cs).toArray := by
            rw [hparts]; exact k2
          have hrun : (Instr.build t (parts.map fun (i, x) => (i, v x))).run P w = .ok ((AV.agg cs).c ρ) w := by
            unfold Instr.build
            simp only [Sem.run_bind, hz1 w, Result.andThen_ok, run_underlying hd, hT.size hte w, hp2]
            rfl
          simp only [execOp, Sem.run_bind, hrun, Result.andThen_ok]
          rfl
        · exact h.elim
      · exact h.elim
    · exact h.elim
  · rename_i args tys
    split at h
    · rename_i x t hax htx
      obtain rfl : args = #[x] := by apply Array.toList_inj.1; simpa using hax
      obtain rfl : tys = #[t] := by apply Array.toList_inj.1; simpa using htx
      have hx := (he x).1
      split at h
      · rename_i s1 s2 s3 s4 h1 h2
        rw [h1] at hx
        obtain ⟨d, hd, hkd⟩ := hT.und h2
        obtain rfl := tkOf_slice hkd
        exact ⟨_, h, trivial, fun w => by simp [execOp, resolve, invoke, builtin, Builtin.cap_, run_underlying hd, hx, AV.c, goInt]⟩
      · rename_i i g off n c s1 s2 s3 s4 h1 h2
        rw [h1] at hx
        obtain ⟨d, hd, hkd⟩ := hT.und h2
        obtain rfl := tkOf_slice hkd
        obtain ⟨a, ha, _⟩ := sl_c (ρ := ρ) (i := i) (g := g) (off := off) (n := n) (c := c)
        rw [ha] at hx
        exact ⟨_, h, trivial, fun w => by simp [execOp, resolve, invoke, builtin, Builtin.cap_, run_underlying hd, hx, AV.c, goInt]⟩
      · exact h.elim
    · exact h.elim
  · exact h.elim

end Go.Proofs.Yteinenklppbjkaa

set_option linter.unusedVariables false
set_option linter.unusedSimpArgs false
open Go.RowKit
namespace Go.Proofs.Yteinenklppbjkaa

theorem lt_of_heap {w : World} {b : Nat} {o : Obj} (h : w.heap[b]? = some o) : b < w.heap.size := (Array.getElem?_eq_some_iff.1 h).1
theorem Holds.lt {ρ : Env} {own : Bool} {x : Cont} {b base : Nat} {w : World} (h : Holds ρ own x b base w) : b < w.heap.size := by
  rcases h.all with ⟨_, c, e, fr, h1, _⟩ | ⟨_, _, h1⟩
  · exact lt_of_heap h1
  · cases x with
    | map kk es => obtain ⟨_, _, h1, _⟩ := h1; exact lt_of_heap h1
    | loop l st pd fn n a ps as bd df => obtain ⟨_, _, h1, _⟩ := h1; exact lt_of_heap h1
    | cells _ => exact h1.elim
    | ints _ _ _ => exact h1.elim
    | bools _ _ => exact h1.elim
    | tab _ _ _ _ => exact h1.elim

theorem sim_put {ρ ρ' : Env} {M M' : AH} {w w' : World} {i g : Nat} {x' : Cont} (h : Sim ρ M w)
    (hlen : M.length ≤ M'.length) (hget : ∀ i', i' ≠ i → M'[i']? = M[i']?) (hnew : M'[i]? = some (.one true g x'))
    (hρ : ∀ i' g' l, ρ i' g' = some l → ρ' i' g' = some l) (hρ' : ∀ i' g', (ρ' i' g').isSome = true → (ρ i' g').isSome = true ∨ (i' = i ∧ g' = g))
    (htag : ∀ g', (ρ i g').isSome = true → g' ≤ g)
    (hw : ∀ b, b < w.heap.size → (∀ g0 x0 q0, slot M i g0 = some (true, x0) → ρ i g0 = some (some q0) → q0.1 ≠ b) → w'.heap[b]? = w.heap[b]?)
    (hsz : w.heap.size ≤ w'.heap.size) (hos : w'.os = w.os) (htape : w'.tape = w.tape) (hout : w'.output = w.output)
    (hloc : (∃ q, ρ' i g = some (some q) ∧ Holds ρ' true x' q.1 q.2 w' ∧ (w.heap.size ≤ q.1 ∨ ∃ g0 x0 q0, slot M i g0 = some (true, x0) ∧ ρ i g0 = some (some q0) ∧ q0.1 = q.1)) ∨ (ρ' i g = some none ∧ x'.virt)) :
    Sim ρ' M' w' ∧ Ext ρ M w ρ' M' w' := by
  have hs1 : ∀ g' own x, slot M' i g' = some (own, x) → g' = g ∧ own = true ∧ x = x' := by
    intro g' own x hs
    unfold slot at hs
    rw [hnew] at hs
    simp only [slotO] at hs
    split at hs
    · injection hs with hs; injection hs with a b; exact ⟨‹_›, a.symm, b.symm⟩
    · cases hs
  have hs2 : ∀ i' g', i' ≠ i → slot M' i' g' = slot M i' g' := by
    intro i' g' hne
    unfold slot
    rw [hget i' hne]
  have hlt : i < M'.length := (List.getElem?_eq_some_iff.1 hnew).1
  -- an old object's block is old
  have hold : ∀ i' g' own x q, slot M i' g' = some (own, x) → ρ i' g' = some (some q) → Holds ρ own x q.1 q.2 w := by
    intro i' g' own x q hs hq
    rcases h.holds i' g' own x hs with ⟨q', e1, e2⟩ | ⟨e1, _⟩
    · rw [hq] at e1; injection e1 with e1; injection e1 with e1; subst e1; exact e2
    · rw [hq] at e1; cases e1
  have hkeep : ∀ i' g' own x q, i' ≠ i → slot M i' g' = some (own, x) → ρ i' g' = some (some q) → w'.heap[q.1]? = w.heap[q.1]? := by
    intro i' g' own x q hne hs hq
    refine hw _ (hold i' g' own x q hs hq).lt fun g0 x0 q0 a1 a2 e => hne ?_
    exact (h.apart i g0 x0 i' g' own x q0 q a1 hs a2 hq e).1.symm
  have hback : ∀ i' g', i' ≠ i → ∀ l, ρ' i' g' = some l → (∃ own x, slot M i' g' = some (own, x)) → ρ i' g' = some l := by
    intro i' g' hne l hl ⟨own, x, hs⟩
    rcases h.holds i' g' own x hs with ⟨q', e1, _⟩ | ⟨e1, _⟩
    · rw [hρ _ _ _ e1] at hl; rw [e1]; exact hl
    · rw [hρ _ _ _ e1] at hl; rw [e1]; exact hl
  constructor
  · refine ⟨?_, ?_, ?_, ?_, ?_⟩
    · intro i' g' hi
      rcases hρ' i' g' hi with h1 | ⟨rfl, _⟩
      · exact Nat.lt_of_lt_of_le (h.dom i' g' h1) hlen
      · exact hlt
    · intro i' g' own g1 x hm hi
      by_cases hne : i' = i
      · subst hne
        rw [hnew] at hm; injection hm with hm; injection hm with _ e _
        subst e
        rcases hρ' i' g' hi with h1 | ⟨_, rfl⟩
        · exact htag _ h1
        · exact Nat.le_refl _
      · rw [hget i' hne] at hm
        rcases hρ' i' g' hi with h1 | ⟨rfl, _⟩
        · exact h.tag i' g' own g1 x hm h1
        · exact absurd rfl hne
    · intro i' g' own m x hm hi
      by_cases hne : i' = i
      · subst hne; rw [hnew] at hm; cases hm
      · rw [hget i' hne] at hm
        rcases hρ' i' g' hi with h1 | ⟨rfl, _⟩
        · exact h.fam i' g' own m x hm h1
        · exact absurd rfl hne
    · intro i' g' own x hs
      by_cases hne : i' = i
      · subst hne
        obtain ⟨rfl, rfl, rfl⟩ := hs1 g' own x hs
        rcases hloc with ⟨q, h1, h2, _⟩ | hv
        · exact .inl ⟨q, h1, h2⟩
        · exact .inr hv
      · rw [hs2 i' g' hne] at hs
        rcases h.holds i' g' own x hs with ⟨q, h1, h2⟩ | ⟨h1, h2⟩
        · exact .inl ⟨q, hρ _ _ _ h1, h2.ext hρ (hkeep i' g' own x q hne hs h1)⟩
        · exact .inr ⟨hρ _ _ _ h1, h2⟩
    · intro i1 g1 x1 i2 g2 own2 x2 q1 q2 hs1' hs2' hq1 hq2 he
      by_cases h1 : i1 = i
      · by_cases h2 : i2 = i
        · subst h1; subst h2
          exact ⟨rfl, (hs1 g1 _ _ hs1').1.trans (hs1 g2 _ _ hs2').1.symm⟩
        · exfalso
          subst h1
          obtain ⟨rfl, _, rfl⟩ := hs1 g1 _ _ hs1'
          rw [hs2 i2 g2 h2] at hs2'
          have hq2' := hback i2 g2 h2 _ hq2 ⟨_, _, hs2'⟩
          have hl2 := (hold i2 g2 own2 x2 q2 hs2' hq2').lt
          rcases hloc with ⟨q, e1, _, e3 | ⟨g0, x0, q0, a1, a2, a3⟩⟩ | ⟨e1, _⟩
          · rw [hq1] at e1; injection e1 with e1; injection e1 with e1; subst e1; omega
          · rw [hq1] at e1; injection e1 with e1; injection e1 with e1; subst e1
            exact h2 (h.apart i1 g0 x0 i2 g2 own2 x2 q0 q2 a1 hs2' a2 hq2' (a3.trans he)).1.symm
          · rw [hq1] at e1; cases e1
      · rw [hs2 i1 g1 h1] at hs1'
        have hq1' := hback i1 g1 h1 _ hq1 ⟨_, _, hs1'⟩
        by_cases h2 : i2 = i
        · exfalso
          subst h2
          obtain ⟨rfl, _, rfl⟩ := hs1 g2 _ _ hs2'
          have hl1 := (hold i1 g1 true x1 q1 hs1' hq1').lt
          rcases hloc with ⟨q, e1, _, e3 | ⟨g0, x0, q0, a1, a2, a3⟩⟩ | ⟨e1, _⟩
          · rw [hq2] at e1; injection e1 with e1; injection e1 with e1; subst e1; omega
          · rw [hq2] at e1; injection e1 with e1; injection e1 with e1; subst e1
            exact h1 (h.apart i1 g1 x1 i2 g0 true x0 q1 q0 hs1' a1 hq1' a2 (he.trans a3.symm)).1
          · rw [hq2] at e1; cases e1
        · rw [hs2 i2 g2 h2] at hs2'
          have hq2' := hback i2 g2 h2 _ hq2 ⟨_, _, hs2'⟩
          exact h.apart i1 g1 x1 i2 g2 own2 x2 q1 q2 hs1' hs2' hq1' hq2' he
  · refine ⟨hρ, hsz, fun b hb hn => hw b hb fun g0 x0 q0 a1 a2 => hn i g0 x0 q0 a1 a2, ?_, hos, htape, hout⟩
    intro i' g' x q hs hq hb
    by_cases hne : i' = i
    · subst hne
      obtain ⟨rfl, _, rfl⟩ := hs1 g' _ _ hs
      rcases hloc with ⟨q', e1, _, e3 | ⟨g0, x0, q0, a1, a2, a3⟩⟩ | ⟨e1, _⟩
      · rw [hq] at e1; injection e1 with e1; injection e1 with e1; subst e1; omega
      · rw [hq] at e1; injection e1 with e1; injection e1 with e1; subst e1
        exact ⟨i', g0, x0, q0, a1, a2, a3⟩
      · rw [hq] at e1; cases e1
    · rw [hs2 i' g' hne] at hs
      exact ⟨i', g', x, q, hs, hback i' g' hne _ hq ⟨_, _, hs⟩, rfl⟩

/-- The environment with one name more. -/
def upE (ρ : Env) (i g : Nat) (l : Option (Nat × Nat)) : Env := fun i' g' => if i' = i ∧ g' = g then some l else ρ i' g'
theorem upE_same (ρ : Env) (i g : Nat) (l : Option (Nat × Nat)) : upE ρ i g l i g = some l := by simp [upE]
theorem upE_ext {ρ : Env} {i g : Nat} {l : Option (Nat × Nat)} (h : (ρ i g).isSome = false) : ∀ i' g' l', ρ i' g' = some l' → upE ρ i g l i' g' = some l' := by
  intro i' g' l' e
  unfold upE
  split
  · rename_i hh; obtain ⟨rfl, rfl⟩ := hh; rw [e] at h; simp at h
  · exact e
theorem upE_back {ρ : Env} {i g : Nat} {l : Option (Nat × Nat)} : ∀ i' g', (upE ρ i g l i' g').isSome = true → (ρ i' g').isSome = true ∨ (i' = i ∧ g' = g) := by
  intro i' g' e
  unfold upE at e
  split at e
  · exact .inr ‹_›
  · exact .inl e

/-- A new object behind all others. -/
theorem sim_new {ρ : Env} {M : AH} {w w' : World} {x : Cont} {l : Option (Nat × Nat)} (h : Sim ρ M w)
    (hw : ∀ b, b < w.heap.size → w'.heap[b]? = w.heap[b]?) (hsz : w.heap.size ≤ w'.heap.size) (hos : w'.os = w.os) (htape : w'.tape = w.tape) (hout : w'.output = w.output)
    (hl : (∃ b base, l = some (b, base) ∧ w.heap.size ≤ b ∧ Holds (upE ρ M.length 0 l) true x b base w') ∨ (l = none ∧ x.virt)) :
    Sim (upE ρ M.length 0 l) (M ++ [.one true 0 x]) w' ∧ Ext ρ M w (upE ρ M.length 0 l) (M ++ [.one true 0 x]) w' := by
  have hun : ∀ g, (ρ M.length g).isSome = false := fun g => by
    cases hh : (ρ M.length g).isSome with
    | false => rfl
    | true => exact absurd (h.dom _ _ hh) (Nat.lt_irrefl _)
  refine sim_put (i := M.length) (g := 0) (x' := x) h (by simp) ?_ (by simp) (upE_ext (hun 0)) upE_back (fun g' hg => by rw [hun g'] at hg; cases hg) (fun b hb _ => hw b hb) hsz hos htape hout ?_
  · intro i' hne
    rcases Nat.lt_or_ge i' M.length with hlt | hge
    · exact List.getElem?_append_left hlt
    · rw [List.getElem?_eq_none (by simp; omega), List.getElem?_eq_none hge]
  · rcases hl with ⟨b, base, rfl, h1, h2⟩ | ⟨rfl, hv⟩
    · exact .inl ⟨(b, base), upE_same _ _ _ _, h2, .inl h1⟩
    · exact .inr ⟨upE_same _ _ _ _, hv⟩

theorem slot_one {M : AH} {i g : Nat} {own : Bool} {x : Cont} (h : M[i]? = some (.one own g x)) : slot M i g = some (own, x) := by
  simp [slot, h, slotO]

/-- An object's contents, written in place. -/
theorem sim_set {ρ : Env} {M : AH} {w w' : World} {i g : Nat} {x x' : Cont} {q : Nat × Nat} (h : Sim ρ M w) (hm : M[i]? = some (.one true g x)) (hq : ρ i g = some (some q))
    (hw : ∀ b, b ≠ q.1 → w'.heap[b]? = w.heap[b]?) (hsz : w'.heap.size = w.heap.size) (hos : w'.os = w.os) (htape : w'.tape = w.tape) (hout : w'.output = w.output)
    (hh : Holds ρ true x' q.1 q.2 w') : Sim ρ (M.set i (.one true g x')) w' ∧ Ext ρ M w ρ (M.set i (.one true g x')) w' := by
  have hlt : i < M.length := (List.getElem?_eq_some_iff.1 hm).1
  refine sim_put (i := i) (g := g) (x' := x') h (by simp) (fun i' hne => by rw [List.getElem?_set_ne (Ne.symm hne)]) (by simp [hlt]) (fun _ _ _ e => e) (fun _ _ e => .inl e) (fun g' hg => h.tag i g' true g x hm hg)
    (fun b hb hn => hw b fun e => hn g x q (slot_one hm) hq e.symm) (by omega) hos htape hout (.inl ⟨q, hq, hh, .inr ⟨g, x, q, slot_one hm, hq, rfl⟩⟩)

/-- An object at a new place (behind an append). -/
theorem sim_retag {ρ : Env} {M : AH} {w w' : World} {i g : Nat} {x x' : Cont} {l : Option (Nat × Nat)} (h : Sim ρ M w) (hm : M[i]? = some (.one true g x))
    (hw : ∀ b, b < w.heap.size → (∀ q, ρ i g = some (some q) → q.1 ≠ b) → w'.heap[b]? = w.heap[b]?) (hsz : w.heap.size ≤ w'.heap.size) (hos : w'.os = w.os) (htape : w'.tape = w.tape) (hout : w'.output = w.output)
    (hl : (∃ b base, l = some (b, base) ∧ (w.heap.size ≤ b ∨ ∃ q, ρ i g = some (some q) ∧ q.1 = b) ∧ Holds (upE ρ i (g + 1) l) true x' b base w') ∨ (l = none ∧ x'.virt)) :
    Sim (upE ρ i (g + 1) l) (M.set i (.one true (g + 1) x')) w' ∧ Ext ρ M w (upE ρ i (g + 1) l) (M.set i (.one true (g + 1) x')) w' := by
  have hlt : i < M.length := (List.getElem?_eq_some_iff.1 hm).1
  have hun : (ρ i (g + 1)).isSome = false := by
    cases hh : (ρ i (g + 1)).isSome with
    | false => rfl
    | true => exact absurd (h.tag i _ true g x hm hh) (by omega)
  refine sim_put (i := i) (g := g + 1) (x' := x') h (by simp) (fun i' hne => by rw [List.getElem?_set_ne (Ne.symm hne)]) (by simp [hlt]) (upE_ext hun) upE_back (fun g' hg => by have := h.tag i g' true g x hm hg; omega)
    (fun b hb hn => hw b hb fun q hq => hn g x q (slot_one hm) hq) hsz hos htape hout ?_
  rcases hl with ⟨b, base, rfl, h1, h2⟩ | ⟨rfl, hv⟩
  · refine .inl ⟨(b, base), upE_same _ _ _ _, h2, ?_⟩
    rcases h1 with h1 | ⟨q, hq, h1⟩
    · exact .inl h1
    · exact .inr ⟨g, x, q, slot_one hm, hq, h1⟩
  · exact .inr ⟨upE_same _ _ _ _, hv⟩

end Go.Proofs.Yteinenklppbjkaa

set_option linter.unusedVariables false
set_option linter.unusedSimpArgs false
open Go.RowKit
namespace Go.Proofs.Yteinenklppbjkaa

def AV.id : AV → Nat
  | .ptr i _ _ => i | .pel i _ _ _ _ => i | .sl i _ _ _ _ => i | .mp i _ => i | _ => 0

/-- The world holds the objects of one name. -/
def HoldsId (ρ : Env) (M : AH) (i : Nat) (w : World) : Prop := ∀ g own x q, slot M i g = some (own, x) → ρ i g = some (some q) → Holds ρ own x q.1 q.2 w
theorem Sim.id {ρ : Env} {M : AH} {w : World} (h : Sim ρ M w) (i : Nat) : HoldsId ρ M i w := by
  intro g own x q hs hq
  rcases h.holds i g own x hs with ⟨q', e1, e2⟩ | ⟨e1, _⟩
  · rw [hq] at e1; injection e1 with e1; injection e1 with e1; subst e1; exact e2
  · rw [hq] at e1; cases e1

theorem Holds.cell {ρ : Env} {own : Bool} {x : Cont} {b base : Nat} {w : World} (h : Holds ρ own x b base w) {k : Nat} {v : AV} (hv : x.at k = some v) : v.ok ρ ∧ w.cell? ⟨b, base + k, none⟩ = some (v.c ρ) := by
  obtain ⟨c, e, fr, h1, h2, h3, h4⟩ := h.out (Cont.at_row hv)
  refine ⟨(h3 k v hv).1, ?_⟩
  rw [cell_of_row w b (base + k) c e fr h1]
  exact (h3 k v hv).2

def loadA (T : List TI) (M : AH) (t : Nat) (a : AV) (K : AV → Prop) : Prop :=
  match T[t]? with
  | none => False
  | some ti => match ti.k.isAgg with
    | false => match a with
      | .ptr i g off => slotA M i g fun own x_ => match x_ with
        | .cells cs => match cs[off]? with
          | some v => K v
          | none => False
        | .ints k xs _ => off < xs.length ∧ K (.int k (xs.getD off 0))
        | .bools xs _ => off < xs.length ∧ K (.bo (xs.getD off false))
        | _ => False
      | .pel i g sz j o => slotA M i g fun own x_ => match x_ with
        | .tab sz' n get _ => condT (Nat.beq sz sz' && Nat.blt o sz) (j < n ∧ match (get j)[o]? with
          | some v => K v
          | none => False)
        | _ => False
      | _ => False
    | true => match a with
      | .ptr i g off => slotA M i g fun own x_ => match x_ with
        | .cells cs => condT (Nat.ble (off + ti.size) cs.length) (K (.agg ((cs.drop off).take ti.size)))
        | _ => False
      | .pel i g sz j o => slotA M i g fun own x_ => match x_ with
        | .tab sz' n get _ => condT (Nat.beq sz sz' && Nat.ble (o + ti.size) sz) (j < n ∧ condT (Nat.ble (o + ti.size) (get j).length) (K (.agg (((get j).drop o).take ti.size))))
        | _ => False
      | _ => False

theorem tab_at {sz n : Nat} {get : Nat → List AV} {c j o : Nat} (hj : j < n) (ho : o < sz) : (Cont.tab sz n get c).at (j * sz + o) = (get j)[o]? := by
  have hpos : 0 < sz := by omega
  have h1 : j * sz + o < n * sz := by
    have := Nat.mul_le_mul_right sz (show j + 1 ≤ n from hj)
    rw [Nat.add_mul, Nat.one_mul] at this
    omega
  have h2 : (j * sz + o) / sz = j := by rw [Nat.mul_comm, Nat.mul_add_div hpos, Nat.div_eq_of_lt ho, Nat.add_zero]
  have h3 : (j * sz + o) % sz = o := by rw [Nat.mul_comm, Nat.mul_add_mod, Nat.mod_eq_of_lt ho]
  simp only [Cont.at, if_pos h1, h2, h3]

theorem run_load_cells {P : Program} {w : World} {b o : Nat} {vs : List Value} (h : ∀ k v, vs[k]? = some v → w.cell? ⟨b, o + k, none⟩ = some v) :
    (loadCells ⟨b, o, none⟩ vs.length).run P w = .ok vs.toArray w :=
  run_loadCells_list w ⟨b, o, none⟩ vs fun k v hv => by rw [add_addr]; exact h k v hv

theorem loadA_sound {P : Program} {T : List TI} (hT : TabOK P T) {M : AH} {t : Nat} {a : AV} {K : AV → Prop} {ρ : Env} (hk : Known ρ M) {w0 : World} (h0 : HoldsId ρ M a.id w0)
    (h : loadA T M t a K) : ∃ v, K v ∧ v.ok ρ ∧ ∀ w, HoldsId ρ M a.id w → (Instr.loadAt t (a.c ρ)).run P w = .ok (v.c ρ) w := by
  unfold loadA at h
  split at h
  · exact h.elim
  · rename_i ti ht
    have hs := hT.size ht
    have hag := hT.isAgg ht
    have one : ∀ (i g off : Nat) (own : Bool) (x : Cont) (q : Nat × Nat) (v : AV) (k : Nat) (p : Value), a.id = i → slot M i g = some (own, x) → ρ i g = some (some q) → ti.k.isAgg = false → x.at k = some v →
        p = .pointer (some ⟨q.1, q.2 + k, none⟩) → v.ok ρ ∧ ∀ w, HoldsId ρ M a.id w → (Instr.loadAt t p).run P w = .ok (v.c ρ) w := by
      intro i g off own x q v k p hi hsl hq hagg hat hp
      subst hp
      refine ⟨((h0 g own x q (hi ▸ hsl) (hi ▸ hq)).cell hat).1, fun w hw => ?_⟩
      have hc := ((hw g own x q (hi ▸ hsl) (hi ▸ hq)).cell hat).2
      simp [Instr.loadAt, Instr.sureAddr, loadVar, hag, hagg, hc]
    have many : ∀ (i g : Nat) (own : Bool) (x : Cont) (q : Nat × Nat) (l : List AV) (k : Nat) (p : Value), a.id = i → slot M i g = some (own, x) → ρ i g = some (some q) → ti.k.isAgg = true → l.length = ti.size → (∀ m v, l[m]? = some v → x.at (k + m) = some v) →
        p = .pointer (some ⟨q.1, q.2 + k, none⟩) → (AV.agg l).ok ρ ∧ ∀ w, HoldsId ρ M a.id w → (Instr.loadAt t p).run P w = .ok ((AV.agg l).c ρ) w := by
      intro i g own x q l k p hi hsl hq hagg hlen hat hp
      subst hp
      refine ⟨?_, fun w hw => ?_⟩
      · simp only [AV.ok, AV.okl_iff]
        intro v hv
        obtain ⟨m, hm⟩ := List.getElem?_of_mem hv
        exact ((h0 g own x q (hi ▸ hsl) (hi ▸ hq)).cell (hat m v hm)).1
      · have hl : (loadCells ⟨q.1, q.2 + k, none⟩ (AV.cl ρ l).length).run P w = .ok (AV.cl ρ l).toArray w := run_load_cells fun m v hv => by
          rw [AV.cl_eq, List.getElem?_map, Option.map_eq_some_iff] at hv
          obtain ⟨u, hu, rfl⟩ := hv
          have := ((hw g own x q (hi ▸ hsl) (hi ▸ hq)).cell (hat m u hu)).2
          rwa [← Nat.add_assoc] at this
        have hll : (AV.cl ρ l).length = ti.size := by rw [AV.cl_eq, List.length_map, hlen]
        rw [hll] at hl
        simp [Instr.loadAt, Instr.sureAddr, loadVar, hag, hagg, hs, hl, AV.c]
    split at h
    · rename_i hagg
      split at h
      · rename_i i g off
        replace h := slotA_sound h
        obtain ⟨own, x_, hsl, h⟩ := h
        split at h
        · rename_i cs
          obtain ⟨q, hq⟩ := sl_live (off := 0) (n := 0) (c := 0) hk hsl (by simp [Cont.virt])
          split at h
          · rename_i v hv
            obtain ⟨h1, h2⟩ := one i g off own _ q v off _ rfl hsl hq hagg hv rfl
            exact ⟨v, h, h1, by simpa only [AV.c, hq] using h2⟩
          · exact h.elim
        · rename_i k xs c
          obtain ⟨hlt, h⟩ := h
          obtain ⟨q, hq⟩ := sl_live (off := 0) (n := 0) (c := 0) hk hsl (by simp only [Cont.virt]; rintro ⟨rfl, _⟩; simp at hlt)
          obtain ⟨h1, h2⟩ := one i g off own _ q (.int k (xs.getD off 0)) off _ rfl hsl hq hagg (by simp [Cont.at, hlt]) rfl
          exact ⟨_, h, h1, by simpa only [AV.c, hq] using h2⟩
        · rename_i xs c
          obtain ⟨hlt, h⟩ := h
          obtain ⟨q, hq⟩ := sl_live (off := 0) (n := 0) (c := 0) hk hsl (by simp only [Cont.virt]; rintro ⟨rfl, _⟩; simp at hlt)
          obtain ⟨h1, h2⟩ := one i g off own _ q (.bo (xs.getD off false)) off _ rfl hsl hq hagg (by simp [Cont.at, hlt]) rfl
          exact ⟨_, h, h1, by simpa only [AV.c, hq] using h2⟩
        · exact h.elim
      · rename_i i g sz j o
        replace h := slotA_sound h
        obtain ⟨own, x_, hsl, h⟩ := h
        split at h
        · rename_i sz' n get c
          replace h := condT_sound h; obtain ⟨hb, hlt, h⟩ := h
          simp only [Bool.and_eq_true] at hb
          have e1 : sz = sz' := Nat.eq_of_beq_eq_true hb.1
          have e2 : o < sz := by simpa using hb.2
          subst e1
          obtain ⟨q, hq⟩ := sl_live (off := 0) (n := 0) (c := 0) hk hsl (by simp only [Cont.virt]; rintro ⟨rfl, _⟩; omega)
          split at h
          · rename_i v hv
            obtain ⟨h1, h2⟩ := one i g 0 own _ q v (j * sz + o) _ rfl hsl hq hagg (by rw [tab_at hlt e2]; exact hv) rfl
            exact ⟨v, h, h1, by simpa only [AV.c, hq] using h2⟩
          · exact h.elim
        · exact h.elim
      · exact h.elim
    · rename_i hagg
      split at h
      · rename_i i g off
        replace h := slotA_sound h
        obtain ⟨own, x_, hsl, h⟩ := h
        split at h
        · rename_i cs
          replace h := condT_sound h; obtain ⟨hb, h⟩ := h
          have hb' : off + ti.size ≤ cs.length := by simpa using hb
          obtain ⟨q, hq⟩ := sl_live (off := 0) (n := 0) (c := 0) hk hsl (by simp [Cont.virt])
          obtain ⟨h1, h2⟩ := many i g own _ q ((cs.drop off).take ti.size) off _ rfl hsl hq hagg (by simp; omega) (fun m v hv => by
            simp only [List.getElem?_take, List.getElem?_drop] at hv
            split at hv
            · exact hv
            · cases hv) rfl
          exact ⟨_, h, h1, by simpa only [AV.c, hq] using h2⟩
        · exact h.elim
      · rename_i i g sz j o
        replace h := slotA_sound h
        obtain ⟨own, x_, hsl, h⟩ := h
        split at h
        · rename_i sz' n get c
          replace h := condT_sound h; obtain ⟨hb, hlt, h⟩ := h
          simp only [Bool.and_eq_true] at hb
          have e1 : sz = sz' := Nat.eq_of_beq_eq_true hb.1
          have e2 : o + ti.size ≤ sz := by simpa using hb.2
          subst e1
          replace h := condT_sound h; obtain ⟨hb2, h⟩ := h
          have e3 : o + ti.size ≤ (get j).length := by simpa using hb2
          obtain ⟨q, hq⟩ := sl_live (off := 0) (n := 0) (c := 0) hk hsl (by simp only [Cont.virt]; rintro ⟨rfl, _⟩; omega)
          obtain ⟨h1, h2⟩ := many i g own _ q (((get j).drop o).take ti.size) (j * sz + o) _ rfl hsl hq hagg (by simp; omega) (fun m v hv => by
            simp only [List.getElem?_take, List.getElem?_drop] at hv
            split at hv
            · rename_i hm
              rw [Nat.add_assoc, tab_at hlt (by omega)]; exact hv
            · cases hv) rfl
          exact ⟨_, h, h1, by simpa only [AV.c, hq] using h2⟩
        · exact h.elim
      · exact h.elim

end Go.Proofs.Yteinenklppbjkaa

set_option linter.unusedVariables false
set_option linter.unusedSimpArgs false
open Go.RowKit
namespace Go.Proofs.Yteinenklppbjkaa

theorem row_get (cur : Array Value) (p : Nat) (vs : List Value) (h : p + vs.length ≤ cur.size) (k : Nat) :
    ((cur.toList.take p ++ vs ++ cur.toList.drop (p + vs.length)).toArray)[k]? = if p ≤ k ∧ k < p + vs.length then vs[k - p]? else cur[k]? := by
  have hl : (cur.toList.take p).length = p := by simp; omega
  simp only [List.getElem?_toArray]
  by_cases h1 : k < p
  · rw [if_neg (by omega), List.append_assoc, List.getElem?_append_left (by omega), List.getElem?_take, if_pos h1]; simp
  · by_cases h2 : k < p + vs.length
    · rw [if_pos ⟨by omega, h2⟩, List.append_assoc, List.getElem?_append_right (by omega), hl, List.getElem?_append_left (by omega)]
    · rw [if_neg (by omega), List.getElem?_append_right (by simp; omega)]
      simp only [List.length_append, hl, List.getElem?_drop]
      rw [show p + vs.length + (k - (p + vs.length)) = k from by omega]; simp

theorem setRow_heap' (w : World) (g : Nat) (cur new : Array Value) (t : TypeId) (fr : Nat × Nat) (h : w.heap[g]? = some (.cells cur t fr)) : (w.setRow g new).heap[g]? = some (.cells new t fr) := by
  simp [World.setRow, Array.getElem?_modify, h]
theorem setRow_other' (w : World) (g b : Nat) (new : Array Value) (h : b ≠ g) : (w.setRow g new).heap[b]? = w.heap[b]? := by
  simp only [World.setRow, Array.getElem?_modify]; rw [if_neg (Ne.symm h)]
theorem setRow_size' (w : World) (g : Nat) (new : Array Value) : (w.setRow g new).heap.size = w.heap.size := by simp [World.setRow]

/-- Values written into an object's array. -/
theorem write_sound {P : Program} {ρ : Env} {M : AH} {w : World} {i g k0 : Nat} {x x' : Cont} {q : Nat × Nat} {vs : List AV} (h : Sim ρ M w) (hm : M[i]? = some (.one true g x)) (hq : ρ i g = some (some q)) (hxr : x.row = true) (hxr' : x'.row = true)
    (hok : AV.okl ρ vs) (hone : vs.all AV.one = true) (hfit : k0 + vs.length ≤ x.size) (hsize : x'.size = x.size)
    (hat : ∀ k v, x'.at k = some v → (∃ u, k0 ≤ k ∧ k < k0 + vs.length ∧ vs[k - k0]? = some u ∧ u.c ρ = v.c ρ ∧ v.ok ρ) ∨ ((k < k0 ∨ k0 + vs.length ≤ k) ∧ x.at k = some v)) :
    ∃ w', (storeCells ⟨q.1, q.2 + k0, none⟩ (AV.cl ρ vs)).run P w = .ok () w' ∧ Sim ρ (M.set i (.one true g x')) w' ∧ Ext ρ M w ρ (M.set i (.one true g x')) w' := by
  obtain ⟨c, e, fr, h1, h2, h3, h4⟩ := (h.id i g true x q (slot_one hm) hq).out hxr
  obtain rfl := h4 rfl
  have hlen : (AV.cl ρ vs).length = vs.length := by simp [AV.cl_eq]
  have hrun := run_storeCells_at P q.1 (q.2 + k0) e (AV.cl ρ vs) 0 c w h1 (by rw [hlen]; omega) (fun v hv => by
    rw [AV.cl_eq, List.mem_map] at hv
    obtain ⟨u, hu, rfl⟩ := hv
    exact AV.one_c ρ (List.all_eq_true.1 hone u hu))
  simp only [Nat.add_zero] at hrun
  refine ⟨_, hrun, sim_set h hm hq (fun b hb => setRow_other' _ _ _ _ hb) (setRow_size' _ _ _) rfl rfl rfl (.mk' hxr' ⟨_, e, (0, 0), setRow_heap' _ _ _ _ _ _ h1, ?_, ?_, fun _ => rfl⟩)⟩
  · simp only [List.size_toArray, List.length_append, List.length_take, List.length_drop, Array.length_toList, hlen]; omega
  · intro k v hv
    rw [row_get _ _ _ (by rw [hlen]; omega), hlen]
    rcases hat k v hv with ⟨u, a1, a2, a3, a4, a5⟩ | ⟨a1, a2⟩
    · refine ⟨a5, ?_⟩
      rw [if_pos (by omega), show q.2 + k - (q.2 + k0) = k - k0 from by omega, AV.cl_eq, List.getElem?_map, a3]
      simp [a4]
    · rw [if_neg (by omega)]
      exact h3 k v a2

def storeA (T : List TI) (M : AH) (t : Nat) (a v : AV) (K : AH → Prop) : Prop :=
  match T[t]? with
  | none => False
  | some ti => condT (v.parts.all AV.one && Nat.beq v.parts.length ti.size) (match a with
    | .ptr i g off => match M[i]? with
      | some (.one true g' (.cells cs)) => g = g' ∧ condT (Nat.ble (off + v.parts.length) cs.length) (K (M.set i (.one true g' (.cells (splice cs off v.parts)))))
      | some (.one true g' (.ints k xs c)) => g = g' ∧ match v with
        | .int k' n => sameK k k' (off < xs.length ∧ xs.length ≤ c ∧ K (M.set i (.one true g' (.ints k (xs.set off n) c))))
        | _ => False
      | some (.one true g' (.bools xs c)) => g = g' ∧ match v.asB with
        | some b => off < xs.length ∧ xs.length ≤ c ∧ K (M.set i (.one true g' (.bools (xs.set off b) c)))
        | none => False
      | _ => False
    | .pel i g sz j o => match M[i]? with
      | some (.one true g' (.tab sz' n get c)) => g = g' ∧ condT (Nat.beq sz sz' && Nat.ble (o + v.parts.length) sz) (j < n ∧ n ≤ c ∧ condT (Nat.ble (o + v.parts.length) (get j).length)
          (K (M.set i (.one true g' (.tab sz n (fun r => match Nat.beq r j with | true => splice (get j) o v.parts | false => get r) c)))))
      | _ => False
    | _ => False)

theorem run_storeAt {P : Program} {T : List TI} (hT : TabOK P T) {t : Nat} {ti : TI} (ht : T[t]? = some ti) {ρ : Env} {v : AV} (hone : v.parts.all AV.one = true) (hlen : v.parts.length = ti.size) {a : Addr} {w w' : World}
    (h : (storeCells a (AV.cl ρ v.parts)).run P w = .ok () w') : (Instr.storeAt t (.pointer (some a)) (v.c ρ)).run P w = .ok () w' := by
  have hr : ∀ x, v ≠ .raw x := by rintro x rfl; simp [AV.parts, AV.one] at hone
  have hc := AV.parts_c ρ v hr
  have hsz : (v.c ρ).cells.size = ti.size := by
    rw [← Array.length_toList, hc, AV.cl_eq, List.length_map, hlen]
  simp [Instr.storeAt, Instr.sureAddr, storeVar, hT.size ht, hsz, hc, h]

theorem storeA_sound {P : Program} {T : List TI} (hT : TabOK P T) {M : AH} {t : Nat} {a v : AV} {K : AH → Prop} {ρ : Env} {w : World} (hs : Sim ρ M w) (hv : v.ok ρ)
    (h : storeA T M t a v K) : ∃ M' w', (Instr.storeAt t (a.c ρ) (v.c ρ)).run P w = .ok () w' ∧ K M' ∧ Sim ρ M' w' ∧ Ext ρ M w ρ M' w' := by
  unfold storeA at h
  split at h
  · exact h.elim
  · rename_i ti ht
    replace h := condT_sound h
    obtain ⟨hb, h⟩ := h
    simp only [Bool.and_eq_true] at hb
    obtain ⟨hone, hlen0⟩ := hb
    have hlen : v.parts.length = ti.size := Nat.eq_of_beq_eq_true hlen0
    clear hlen0
    have hokp := AV.parts_ok hv
    have hk := hs.known
    split at h
    · rename_i i g off
      split at h
      · rename_i g' cs hm
        obtain ⟨rfl, h⟩ := h
        replace h := condT_sound h
        obtain ⟨hb, h⟩ := h
        have hle : off + v.parts.length ≤ cs.length := by simpa using hb
        obtain ⟨q, hq⟩ := sl_live (off := 0) (n := 0) (c := 0) hk (slot_one hm) (by simp [Cont.virt])
        obtain ⟨w', hrun, h1, h2⟩ := write_sound (P := P) (k0 := off) (x' := .cells (splice cs off v.parts)) hs hm hq rfl rfl hokp hone hle (by simp [Cont.size, splice_length hle]) (by
          intro k u hu
          simp only [Cont.at, splice_get hle] at hu
          split at hu
          · rename_i hc
            exact .inl ⟨u, hc.1, hc.2, hu, rfl, (AV.okl_iff ρ _).1 hokp u (List.mem_of_getElem? hu)⟩
          · rename_i hc
            exact .inr ⟨by omega, hu⟩)
        exact ⟨_, w', by simp only [AV.c, hq]; exact run_storeAt hT ht hone hlen hrun, h, h1, h2⟩
      · rename_i g' k xs c hm
        obtain ⟨rfl, h⟩ := h
        split at h
        · rename_i k' n
          replace h := sameK_sound h
          obtain ⟨rfl, hlt, hc, h⟩ := h
          obtain ⟨q, hq⟩ := sl_live (off := 0) (n := 0) (c := 0) hk (slot_one hm) (by simp only [Cont.virt]; rintro ⟨rfl, _⟩; simp at hlt)
          obtain ⟨w', hrun, h1, h2⟩ := write_sound (P := P) (k0 := off) (x' := .ints k (xs.set off n) c) hs hm hq rfl rfl hokp hone (by simp [Cont.size, AV.parts]; omega) (by simp [Cont.size]) (by
            intro k' u hu
            simp only [Cont.at, Option.map_eq_some_iff] at hu
            obtain ⟨z, hz, rfl⟩ := hu
            by_cases hkk : k' = off
            · subst hkk
              rw [List.getElem?_set_self hlt] at hz
              injection hz with hz; subst hz
              exact .inl ⟨.int k n, by omega, by simp [AV.parts], by simp [AV.parts], rfl, trivial⟩
            · rw [List.getElem?_set_ne (Ne.symm hkk)] at hz
              exact .inr ⟨by simp [AV.parts]; omega, by simp [Cont.at, hz]⟩)
          exact ⟨_, w', by simp only [AV.c, hq]; exact run_storeAt hT ht hone hlen hrun, h, h1, h2⟩
        · exact h.elim
      · rename_i g' xs c hm
        obtain ⟨rfl, h⟩ := h
        split at h
        · rename_i b hvb
          obtain ⟨hlt, hc, h⟩ := h
          have hp : v.parts = [v] := by cases v <;> simp_all [AV.asB, AV.parts]
          obtain ⟨q, hq⟩ := sl_live (off := 0) (n := 0) (c := 0) hk (slot_one hm) (by simp only [Cont.virt]; rintro ⟨rfl, _⟩; simp at hlt)
          obtain ⟨w', hrun, h1, h2⟩ := write_sound (P := P) (k0 := off) (x' := .bools (xs.set off b) c) hs hm hq rfl rfl hokp hone (by simp [Cont.size, hp]; omega) (by simp [Cont.size]) (by
            intro k' u hu
            simp only [Cont.at, Option.map_eq_some_iff] at hu
            obtain ⟨z, hz, rfl⟩ := hu
            by_cases hkk : k' = off
            · subst hkk
              rw [List.getElem?_set_self hlt] at hz
              injection hz with hz; subst hz
              exact .inl ⟨v, by omega, by simp [hp], by simp [hp], by rw [AV.asB_c ρ hvb]; rfl, trivial⟩
            · rw [List.getElem?_set_ne (Ne.symm hkk)] at hz
              exact .inr ⟨by simp [hp]; omega, by simp [Cont.at, hz]⟩)
          exact ⟨_, w', by simp only [AV.c, hq]; exact run_storeAt hT ht hone hlen hrun, h, h1, h2⟩
        · exact h.elim
      · exact h.elim
    · rename_i i g sz j o
      split at h
      · rename_i g' sz' n get c hm
        obtain ⟨rfl, h⟩ := h
        replace h := condT_sound h
        obtain ⟨hb, hlt, hnc, h⟩ := h
        simp only [Bool.and_eq_true] at hb
        have e1 : sz = sz' := Nat.eq_of_beq_eq_true hb.1
        have e2 : o + v.parts.length ≤ sz := by simpa using hb.2
        subst e1
        replace h := condT_sound h
        obtain ⟨hb2, h⟩ := h
        have e3 : o + v.parts.length ≤ (get j).length := by simpa using hb2
        obtain ⟨q, hq⟩ := sl_live (off := 0) (n := 0) (c := 0) hk (slot_one hm) (by simp only [Cont.virt]; rintro ⟨rfl, _⟩; omega)
        have hjs : j * sz + sz ≤ c * sz := by
          have := Nat.mul_le_mul_right sz (show j + 1 ≤ c by omega)
          rwa [Nat.add_mul, Nat.one_mul] at this
        obtain ⟨w', hrun, h1, h2⟩ := write_sound (P := P) (k0 := j * sz + o) (x' := .tab sz n (fun r => match Nat.beq r j with | true => splice (get j) o v.parts | false => get r) c) hs hm hq rfl rfl hokp hone (by simp only [Cont.size]; omega) rfl (by
          intro k u hu
          simp only [Cont.at] at hu
          split at hu
          · rename_i hkn
            have hpos : 0 < sz := by
              rcases Nat.eq_zero_or_pos sz with h0 | h0
              · subst h0; simp at hkn
              · exact h0
            by_cases hkj : k / sz = j
            · rw [hkj, Nat.beq_refl] at hu
              simp only [splice_get e3] at hu
              have hkk : k = j * sz + k % sz := by rw [← hkj, Nat.mul_comm]; exact (Nat.div_add_mod k sz).symm
              have hmod := Nat.mod_lt k hpos
              split at hu
              · rename_i hc
                refine .inl ⟨u, by omega, by omega, ?_, rfl, (AV.okl_iff ρ _).1 hokp u (List.mem_of_getElem? hu)⟩
                rw [show k - (j * sz + o) = k % sz - o from by omega]; exact hu
              · rename_i hc
                refine .inr ⟨by omega, ?_⟩
                simp only [Cont.at, if_pos hkn, hkj]; exact hu
            · have hne : Nat.beq (k / sz) j = false := by
                cases hb : Nat.beq (k / sz) j with
                | true => exact absurd (Nat.eq_of_beq_eq_true hb) hkj
                | false => rfl
              rw [hne] at hu
              refine .inr ⟨?_, by simp only [Cont.at, if_pos hkn]; exact hu⟩
              rcases Nat.lt_or_gt_of_ne hkj with hlt' | hgt
              · left
                have : k < j * sz := (Nat.div_lt_iff_lt_mul hpos).1 hlt'
                omega
              · right
                have : (j + 1) * sz ≤ k := (Nat.le_div_iff_mul_le hpos).1 hgt
                rw [Nat.add_mul, Nat.one_mul] at this
                omega
          · cases hu)
        exact ⟨_, w', by simp only [AV.c, hq]; exact run_storeAt hT ht hone hlen hrun, h, h1, h2⟩
      · exact h.elim
    · exact h.elim

end Go.Proofs.Yteinenklppbjkaa

set_option linter.unusedVariables false
set_option linter.unusedSimpArgs false
open Go.RowKit
namespace Go.Proofs.Yteinenklppbjkaa

/-- A new array of known cells. -/
theorem alloc_sound {ρ : Env} {M : AH} {w w1 : World} {x : Cont} {c : Array Value} {e : TypeId} (h : Sim ρ M w) (hw1 : w1.heap = w.heap) (hos : w1.os = w.os) (htape : w1.tape = w.tape) (hout : w1.output = w.output)
    (hsize : x.size ≤ c.size) (hat : ∀ k v, x.at k = some v → v.ok ρ ∧ c[k]? = some (v.c ρ)) (hxr : x.row = true := by rfl) :
    Sim (upE ρ M.length 0 (some (w.heap.size, 0))) (M ++ [.one true 0 x]) (w1.alloc (.cells c e)) ∧ Ext ρ M w (upE ρ M.length 0 (some (w.heap.size, 0))) (M ++ [.one true 0 x]) (w1.alloc (.cells c e)) := by
  have hun : (ρ M.length 0).isSome = false := by
    cases hh : (ρ M.length 0).isSome with
    | false => rfl
    | true => exact absurd (h.dom _ _ hh) (Nat.lt_irrefl _)
  have hsz : w1.heap.size = w.heap.size := by rw [hw1]
  refine sim_new h (fun b hb => ?_) (by simp [hw1]) hos htape hout (.inl ⟨w.heap.size, 0, rfl, Nat.le_refl _, .mk' hxr ⟨c, e, (0, 0), ?_, by omega, fun k v hv => ?_, fun _ => rfl⟩⟩)
  · rw [Below.heap_alloc w1 _ b (by omega), hw1]
  · rw [← hsz]; exact heap_alloc_new w1 _
  · have h1 := hat k v hv
    refine ⟨AV.ok_ext (upE_ext hun) v h1.1, ?_⟩
    rw [AV.c_ext (upE_ext hun) v h1.1, Nat.zero_add]
    exact h1.2

theorem ptr_new {ρ : Env} {M : AH} {b : Nat} : (AV.ptr M.length 0 0).c (upE ρ M.length 0 (some (b, 0))) = .pointer (some ⟨b, 0, none⟩) ∧ (AV.ptr M.length 0 0).ok (upE ρ M.length 0 (some (b, 0))) := by
  simp [AV.c, AV.ok, upE_same]
theorem sl_new {ρ : Env} {i g b n c : Nat} : (AV.sl i g 0 n c).c (upE ρ i g (some (b, 0))) = .slice (some ⟨b, 0, none⟩) n c ∧ (AV.sl i g 0 n c).ok (upE ρ i g (some (b, 0))) := by
  simp [AV.c, AV.ok, upE_same]

def allocA (T : List TI) (M : AH) (t : Nat) (K : AV → AH → Prop) : Prop :=
  match T[t]? with
  | some ti => K (.ptr M.length 0 0) (M ++ [.one true 0 (.cells ti.zero)])
  | none => False

theorem allocA_sound {P : Program} {T : List TI} (hT : TabOK P T) {M : AH} {t : Nat} {K : AV → AH → Prop} {ρ : Env} {w : World} (hs : Sim ρ M w)
    (h : allocA T M t K) : ∃ v M' ρ' w', (Instr.alloc t true (.tuple #[])).run P w = .ok (v.c ρ') w' ∧ K v M' ∧ v.ok ρ' ∧ Sim ρ' M' w' ∧ Ext ρ M w ρ' M' w' := by
  unfold allocA at h
  split at h
  · rename_i ti ht
    obtain ⟨z, hz1, hz2⟩ := hT.zero ht
    obtain ⟨h1, h2⟩ := alloc_sound (x := .cells ti.zero) (c := z.cells) (e := t) hs rfl rfl rfl rfl
      (by rw [← Array.length_toList, hz2 ρ, AV.cl_eq]; simp [Cont.size]) (fun k v hv => by
        refine ⟨(AV.okl_iff ρ _).1 (hT.zero_ok ht ρ) v (List.mem_of_getElem? hv), ?_⟩
        rw [← Array.getElem?_toList, hz2 ρ, AV.cl_eq, List.getElem?_map, show ti.zero[k]? = some v from hv]; rfl)
    refine ⟨_, _, _, _, ?_, h, ptr_new.2, h1, h2⟩
    rw [ptr_new.1]
    simp [Instr.alloc, hz1, newVar, newRow]
  · exact h.elim

def boxA (M : AH) (v : AV) (K : AV → AH → Prop) : Prop :=
  condT (v.parts.all AV.one) (K (.ptr M.length 0 0) (M ++ [.one true 0 (.cells v.parts)]))

theorem boxA_sound {P : Program} {M : AH} {t : Nat} {v : AV} {K : AV → AH → Prop} {ρ : Env} {w : World} (hs : Sim ρ M w) (hv : v.ok ρ)
    (h : boxA M v K) : ∃ r M' ρ' w', (Instr.box t (v.c ρ)).run P w = .ok (r.c ρ') w' ∧ K r M' ∧ r.ok ρ' ∧ Sim ρ' M' w' ∧ Ext ρ M w ρ' M' w' := by
  unfold boxA at h
  replace h := condT_sound h
  obtain ⟨hone, h⟩ := h
  have hr : ∀ x, v ≠ .raw x := by rintro x rfl; simp [AV.parts, AV.one] at hone
  have hc := AV.parts_c ρ v hr
  obtain ⟨h1, h2⟩ := alloc_sound (x := .cells v.parts) (c := (v.c ρ).cells) (e := t) hs rfl rfl rfl rfl
      (by rw [← Array.length_toList, hc, AV.cl_eq]; simp [Cont.size]) (fun k u hu => by
        refine ⟨(AV.okl_iff ρ _).1 (AV.parts_ok hv) u (List.mem_of_getElem? hu), ?_⟩
        rw [← Array.getElem?_toList, hc, AV.cl_eq, List.getElem?_map, show v.parts[k]? = some u from hu]; rfl)
  refine ⟨_, _, _, _, ?_, h, ptr_new.2, h1, h2⟩
  rw [ptr_new.1]
  simp [Instr.box, newVar, newRow]

def sameKb (k k' : IntKind) : Bool :=
  match k, k' with
  | .i8, .i8 | .i16, .i16 | .i32, .i32 | .i64, .i64 | .u8, .u8 | .u16, .u16 | .u32, .u32 | .u64, .u64 => true
  | _, _ => false
theorem sameKb_eq {k k' : IntKind} (h : sameKb k k' = true) : k = k' := by
  cases k <;> cases k' <;> first | rfl | cases h
def intsOf (k : IntKind) : List AV → Option (List Int)
  | [] => some []
  | .int k' n :: l => match sameKb k k', intsOf k l with
    | true, some r => some (n :: r)
    | _, _ => none
  | _ => none
def boolsOf : List AV → Option (List Bool)
  | [] => some []
  | v :: l => match v.asB, boolsOf l with
    | some b, some r => some (b :: r)
    | _, _ => none
theorem intsOf_get {k : IntKind} : ∀ {l : List AV} {r : List Int}, intsOf k l = some r → r.length = l.length ∧ ∀ j : Nat, l[j]? = (r[j]?).map (AV.int k)
  | [], r, h => by simp [intsOf] at h; subst h; simp
  | v :: l, r, h => by
    cases v <;> simp [intsOf] at h
    split at h
    · rename_i h1 h2
      injection h with h; subst h
      obtain ⟨h3, h4⟩ := intsOf_get h2
      refine ⟨by simp [h3], fun j => ?_⟩
      cases j with
      | zero => simp [sameKb_eq h1]
      | succ j => simpa using h4 j
    · cases h
theorem boolsOf_get (ρ : Env) : ∀ {l : List AV} {r : List Bool}, boolsOf l = some r → r.length = l.length ∧ ∀ (j : Nat) b, r[j]? = some b → ∃ v, l[j]? = some v ∧ v.c ρ = .bool b ∧ v.parts = [v]
  | [], r, h => by simp [boolsOf] at h; subst h; simp
  | v :: l, r, h => by
    simp only [boolsOf] at h
    split at h
    · rename_i b r' h1 h2
      injection h with h; subst h
      obtain ⟨h3, h4⟩ := boolsOf_get ρ h2
      refine ⟨by simp [h3], fun j b' hb => ?_⟩
      cases j with
      | zero => simp at hb; subst hb; exact ⟨v, rfl, AV.asB_c ρ h1, by cases v <;> simp_all [AV.asB, AV.parts]⟩
      | succ j => simpa using h4 j b' (by simpa using hb)
    · cases h

/-- What a literal's array holds. -/
def litCont (ti : TI) (vs : List AV) : Option Cont :=
  match ti.size with
  | 0 => none
  | 1 => match ti.k with
    | .int k => (intsOf k vs).map fun xs => .ints k xs vs.length
    | .bool => (boolsOf vs).map fun xs => .bools xs vs.length
    | _ => some (.cells (vs.flatMap AV.parts))
  | s => some (.tab s vs.length (fun j => (vs.map AV.parts).getD j []) vs.length)

theorem litCont_row {ti : TI} {vs : List AV} {x : Cont} (h : litCont ti vs = some x) : x.row = true := by
  unfold litCont at h
  split at h
  · cases h
  · split at h
    · obtain ⟨_, _, rfl⟩ := Option.map_eq_some_iff.1 h; rfl
    · obtain ⟨_, _, rfl⟩ := Option.map_eq_some_iff.1 h; rfl
    · injection h with h; subst h; rfl
  · injection h with h; subst h; rfl
theorem litCont_at {ti : TI} {vs : List AV} {x : Cont} (ρ : Env) (h : litCont ti vs = some x) (hone : vs.all (fun v => v.parts.all AV.one && Nat.beq v.parts.length ti.size) = true) (hok : AV.okl ρ vs) :
    0 < ti.size ∧ x.size = vs.length * ti.size ∧ ∀ k v, x.at k = some v → v.ok ρ ∧ ((vs.map (AV.c ρ)).flatMap fun u => u.cells.toList)[k]? = some (v.c ρ) := by
  have hp : ∀ v ∈ vs, v.parts.all AV.one = true ∧ v.parts.length = ti.size := fun v hv => by
    have := List.all_eq_true.1 hone v hv
    simp only [Bool.and_eq_true] at this
    exact ⟨this.1, Nat.eq_of_beq_eq_true this.2⟩
  have hcells : ∀ v ∈ vs, (v.c ρ).cells.toList = AV.cl ρ v.parts := fun v hv => AV.parts_c ρ v (by rintro x rfl; have := (hp _ hv).1; simp [AV.parts, AV.one] at this)
  have hsz : ∀ u ∈ vs.map (AV.c ρ), u.cells.size = ti.size := fun u hu => by
    obtain ⟨v, hv, rfl⟩ := List.mem_map.1 hu
    rw [← Array.length_toList, hcells v hv, AV.cl_eq, List.length_map, (hp v hv).2]
  have hpos : 0 < ti.size := by
    unfold litCont at h
    split at h
    · cases h
    · omega
    · rename_i h0 h1; exact Nat.pos_of_ne_zero (fun e => h0 e)
  have key : ∀ k u p, vs[k / ti.size]? = some u → u.parts[k % ti.size]? = some p → p.ok ρ ∧ ((vs.map (AV.c ρ)).flatMap fun u => u.cells.toList)[k]? = some (p.c ρ) := by
    intro k u p hu hpp
    have hm := List.mem_of_getElem? hu
    refine ⟨(AV.okl_iff ρ _).1 (AV.parts_ok ((AV.okl_iff ρ _).1 hok u hm)) p (List.mem_of_getElem? hpp), ?_⟩
    rw [Go.Great.flat_get hpos _ hsz, List.getElem?_map, hu]
    simp only [Option.map_some, Option.bind_some]
    rw [← Array.getElem?_toList, hcells u hm, AV.cl_eq, List.getElem?_map, hpp]; rfl
  refine ⟨hpos, ?_⟩
  unfold litCont at h
  split at h
  · cases h
  · rename_i h1
    split at h
    · rename_i k _
      simp only [Option.map_eq_some_iff] at h
      obtain ⟨xs, hxs, rfl⟩ := h
      obtain ⟨g1, g2⟩ := intsOf_get hxs
      refine ⟨by simp [Cont.size, h1], fun j v hv => ?_⟩
      simp only [Cont.at] at hv
      rw [← g2 j] at hv
      refine key j v v (by simpa [h1] using hv) ?_
      rw [g2 j, Option.map_eq_some_iff] at hv
      obtain ⟨z, _, rfl⟩ := hv
      simp [AV.parts, h1, Nat.mod_one]
    · simp only [Option.map_eq_some_iff] at h
      obtain ⟨xs, hxs, rfl⟩ := h
      obtain ⟨g1, g2⟩ := boolsOf_get ρ hxs
      refine ⟨by simp [Cont.size, h1], fun j v hv => ?_⟩
      simp only [Cont.at, Option.map_eq_some_iff] at hv
      obtain ⟨b, hb, rfl⟩ := hv
      obtain ⟨u, hu, hc, hpu⟩ := g2 j b hb
      have := key j u u (by simpa [h1] using hu) (by rw [hpu, h1]; simp [Nat.mod_one])
      exact ⟨trivial, by rw [this.2, hc]; rfl⟩
    · injection h with h; subst h
      have e : (vs.map (AV.c ρ)).flatMap (fun u => u.cells.toList) = AV.cl ρ (vs.flatMap AV.parts) := by
        rw [AV.cl_eq, List.flatMap_map, List.map_flatMap]
        have : ∀ l : List AV, (∀ v ∈ l, (v.c ρ).cells.toList = AV.cl ρ v.parts) → l.flatMap (fun v => (v.c ρ).cells.toList) = l.flatMap fun v => v.parts.map (AV.c ρ) := by
          intro l hl
          induction l with
          | nil => rfl
          | cons v l ih => rw [List.flatMap_cons, List.flatMap_cons, hl v List.mem_cons_self, AV.cl_eq, ih fun u hu => hl u (List.mem_cons_of_mem _ hu)]
        exact this vs hcells
      have hlen1 : (vs.flatMap AV.parts).length = vs.length := by
        have : ∀ l : List AV, (∀ v ∈ l, v.parts.length = 1) → (l.flatMap AV.parts).length = l.length := by
          intro l hl
          induction l with
          | nil => rfl
          | cons v l ih => simp [List.flatMap_cons, hl v List.mem_cons_self, ih fun u hu => hl u (List.mem_cons_of_mem _ hu)]; omega
        exact this vs fun v hv => by rw [(hp v hv).2, h1]
      refine ⟨by simp only [Cont.size, hlen1, h1, Nat.mul_one], fun j v hv => ?_⟩
      have hv' : (vs.flatMap AV.parts)[j]? = some v := hv
      refine ⟨?_, by rw [e, AV.cl_eq, List.getElem?_map, hv']; rfl⟩
      obtain ⟨u, hu, hvu⟩ := List.mem_flatMap.1 (List.mem_of_getElem? hv')
      exact (AV.okl_iff ρ _).1 (AV.parts_ok ((AV.okl_iff ρ _).1 hok u hu)) v hvu
  · injection h with h; subst h
    refine ⟨rfl, fun j v hv => ?_⟩
    simp only [Cont.at] at hv
    split at hv
    · rename_i hlt
      have hd : j / ti.size < vs.length := (Nat.div_lt_iff_lt_mul hpos).2 hlt
      have hu : vs[j / ti.size]? = some vs[j / ti.size] := List.getElem?_eq_getElem hd
      rw [List.getD_eq_getElem?_getD, List.getElem?_map, hu] at hv
      exact key j _ v hu (by simpa using hv)
    · cases hv

def buildSliceA (T : List TI) (M : AH) (t len : Nat) (idx : List Nat) (vs : List AV) (K : AV → AH → Prop) : Prop :=
  match T[t]? with
  | some ⟨.slice el, _, _, _⟩ => match T[el]? with
    | some te => condT (idx == List.range len && Nat.beq vs.length len && Nat.ble (len * te.size) 16777216 && Nat.beq te.zero.length te.size && vs.all (fun v => v.parts.all AV.one && Nat.beq v.parts.length te.size)) (match litCont te vs with
      | some x => K (.sl M.length 0 0 len len) (M ++ [.one true 0 x])
      | none => False)
    | none => False
  | _ => False

theorem flat_length {s : Nat} : ∀ (l : List Value), (∀ u ∈ l, u.cells.size = s) → (l.flatMap fun u => u.cells.toList).length = l.length * s
  | [], _ => by simp
  | u :: l, h => by
    rw [List.flatMap_cons, List.length_append, flat_length l fun v hv => h v (List.mem_cons_of_mem _ hv), List.length_cons, Nat.add_mul, Array.length_toList, h u List.mem_cons_self]
    omega

theorem buildSliceA_sound {P : Program} {T : List TI} (hT : TabOK P T) {M : AH} {t len : Nat} {idx : List Nat} {vs : List AV} {K : AV → AH → Prop} {ρ : Env} {w : World} (hs : Sim ρ M w) (hok : AV.okl ρ vs)
    (h : buildSliceA T M t len idx vs K) : ∃ r M' ρ' w', (Instr.buildSlice t len (idx.zip (vs.map (AV.c ρ))).toArray).run P w = .ok (r.c ρ') w' ∧ K r M' ∧ r.ok ρ' ∧ Sim ρ' M' w' ∧ Ext ρ M w ρ' M' w' := by
  unfold buildSliceA at h
  split at h
  · rename_i el s1 s2 s3 ht
    obtain ⟨d, hd, hkd⟩ := hT.und ht
    obtain rfl := tkOf_slice hkd
    split at h
    · rename_i te hte
      replace h := condT_sound h
      obtain ⟨hb, h⟩ := h
      simp only [Bool.and_eq_true, beq_iff_eq] at hb
      obtain ⟨⟨⟨⟨hidx, hlen⟩, h24⟩, hzl⟩, hall⟩ := hb
      have hlen' : vs.length = len := Nat.eq_of_beq_eq_true hlen
      have h24' : len * te.size ≤ 16777216 := by simpa using h24
      have hzl' : te.zero.length = te.size := Nat.eq_of_beq_eq_true hzl
      split at h
      · rename_i x hx
        obtain ⟨hpos, hsz, hat⟩ := litCont_at ρ hx hall hok
        obtain ⟨d2, ie, z, e1, e2, e3, rfl⟩ := hT.get hte
        simp only at hpos hsz h24' hzl' hall
        have hcs : ∀ u ∈ vs.map (AV.c ρ), u.cells.size = ie.size := fun u hu => by
          obtain ⟨v, hv, rfl⟩ := List.mem_map.1 hu
          have := List.all_eq_true.1 hall v hv
          simp only [Bool.and_eq_true] at this
          rw [← Array.length_toList, AV.parts_c ρ v (by rintro y rfl; have := this.1; simp [AV.parts, AV.one] at this), AV.cl_eq, List.length_map]
          exact Nat.eq_of_beq_eq_true this.2
        have hzs : z.cells.size = ie.size := by simpa using hzl'
        subst hlen'
        have hzip : (idx.zip (vs.map (AV.c ρ))) = ((vs.map (AV.c ρ)).zipIdx 0).map fun x => (x.2, x.1) := by
          subst hidx
          apply List.ext_getElem?
          intro j
          simp only [List.getElem?_map, List.getElem?_zipIdx, List.getElem?_zip_eq_some]
          by_cases hj : j < vs.length
          · simp [List.zip, hj]
          · simp [List.zip, hj, List.getElem?_eq_none (Nat.le_of_not_lt hj)]
        have hw0 := fun c0 => Go.Great.fill_whole hpos (vs.map (AV.c ρ)) c0 hcs
        have hfl := flat_length (vs.map (AV.c ρ)) hcs
        rw [List.length_map] at hfl
        obtain ⟨h1, h2⟩ := alloc_sound (x := x) (c := ((vs.map (AV.c ρ)).flatMap fun u => u.cells.toList).toArray) (e := el) hs rfl rfl rfl rfl
          (by rw [hsz, List.size_toArray, hfl]; exact Nat.le_refl _) (fun k v hv => by have := hat k v hv; exact ⟨this.1, by simpa using this.2⟩) (litCont_row (by assumption))
        by_cases hl0 : vs.length = 0
        · have : vs = [] := List.eq_nil_of_length_eq_zero hl0
          subst this
          refine ⟨_, _, _, _, ?_, h, sl_new.2, h1, h2⟩
          rw [sl_new.1]
          simp [Instr.buildSlice, run_underlying hd, sizeOf, typeInfo, e2, newRow, Instr.fill]
          have : (Array.map (fun _ => (default : Value)) (Array.range 0)) = #[] := by apply Array.eq_empty_of_size_eq_zero; simp
          rw [this]
        · have hfill := hw0 ((Array.range (vs.length * ie.size)).map (z.cells[· % z.cells.size]!)) (by simp)
          have hrun := run_buildSlice (P := P) w t el vs.length (idx.zip (vs.map (AV.c ρ))).toArray _ ie z hd e2 e3 (by omega) (by
            intro h0
            rcases Nat.mul_eq_zero.1 h0 with h0 | h0
            · exact hl0 h0
            · omega) (by rw [List.toList_toArray, hzip]; exact hfill)
          exact ⟨_, _, _, _, by rw [sl_new.1]; exact hrun, h, sl_new.2, h1, h2⟩
      · exact h.elim
    · exact h.elim
  · exact h.elim

/-- What a new array of zeros holds. -/
def makeCont (ti : TI) (len cap : Nat) : Option Cont :=
  match ti.size, ti.k, ti.zero with
  | 1, .int k, [.int k' 0] => match sameKb k k' with
    | true => some (.ints k (List.replicate len 0) cap)
    | false => none
  | 1, .bool, [.ff] => some (.bools (List.replicate len false) cap)
  | s, _, z => match Nat.beq z.length s, Nat.blt 0 s with
    | true, true => some (.tab s len (fun _ => z) cap)
    | _, _ => none

theorem makeCont_row {ti : TI} {len cap : Nat} {x : Cont} (h : makeCont ti len cap = some x) : x.row = true := by
  unfold makeCont at h
  split at h
  · split at h
    · injection h with h; subst h; rfl
    · cases h
  · injection h with h; subst h; rfl
  · split at h
    · injection h with h; subst h; rfl
    · cases h
theorem rep_get {α : Type} {n j : Nat} {a z : α} (h : (List.replicate n a)[j]? = some z) : j < n ∧ a = z := by
  rw [List.getElem?_replicate] at h
  split at h
  · exact ⟨‹_›, Option.some.inj h⟩
  · cases h

theorem makeCont_at {ti : TI} {len cap : Nat} {x : Cont} (h : makeCont ti len cap = some x) (hlc : len ≤ cap) :
    0 < ti.size ∧ ti.zero.length = ti.size ∧ x.size = cap * ti.size ∧ ∀ k v, x.at k = some v → k < cap * ti.size ∧ (∃ u, ti.zero[k % ti.size]? = some u ∧ ∀ ρ, u.c ρ = v.c ρ ∧ (u.ok ρ → v.ok ρ)) := by
  unfold makeCont at h
  split at h
  · rename_i k k' h1 h2 h3
    split at h
    · rename_i hk
      injection h with h; subst h
      refine ⟨by omega, by rw [h1, h3]; rfl, by simp [Cont.size, h1], fun j v hv => ?_⟩
      simp only [Cont.at, Option.map_eq_some_iff] at hv
      obtain ⟨z, hz, rfl⟩ := hv
      obtain ⟨hj, rfl⟩ := rep_get hz
      refine ⟨by rw [h1]; omega, .int k' 0, by simp [h1, h3, Nat.mod_one], fun ρ => ⟨by rw [sameKb_eq hk], fun _ => trivial⟩⟩
    · cases h
  · rename_i h1 h2 h3
    injection h with h; subst h
    refine ⟨by omega, by rw [h1, h3]; rfl, by simp [Cont.size, h1], fun j v hv => ?_⟩
    simp only [Cont.at, Option.map_eq_some_iff] at hv
    obtain ⟨z, hz, rfl⟩ := hv
    obtain ⟨hj, rfl⟩ := rep_get hz
    exact ⟨by rw [h1]; omega, .ff, by simp [h1, h3, Nat.mod_one], fun ρ => ⟨rfl, fun _ => trivial⟩⟩
  · split at h
    · rename_i hz hs
      injection h with h; subst h
      have hz' : ti.zero.length = ti.size := Nat.eq_of_beq_eq_true hz
      have hs' : 0 < ti.size := by simpa using hs
      refine ⟨hs', hz', rfl, fun j v hv => ?_⟩
      simp only [Cont.at] at hv
      split at hv
      · exact ⟨Nat.lt_of_lt_of_le ‹_› (Nat.mul_le_mul_right _ hlc), v, hv, fun ρ => ⟨rfl, id⟩⟩
      · cases hv
    · cases h

def makeSliceA (T : List TI) (M : AH) (t : Nat) (l c : AV) (K : AV → AH → Prop) : Prop :=
  match l, c with
  | .int _ l, .int _ c => match T[t]? with
    | some ⟨.slice el, _, _, _⟩ => match T[el]? with
      | some te => (0 ≤ l ∧ l ≤ c ∧ (te.bytes : Int) * c ≤ 140737488355328 ∧ c ≤ 140737488355328) ∧ match makeCont te l.toNat c.toNat with
        | some x => K (.sl M.length 0 0 l.toNat c.toNat) (M ++ [.one true 0 x])
        | none => False
      | none => False
    | _ => False
  | _, _ => False

theorem makeSliceA_sound {P : Program} {T : List TI} (hT : TabOK P T) {M : AH} {t : Nat} {l c : AV} {K : AV → AH → Prop} {ρ : Env} {w : World} (hs : Sim ρ M w)
    (h : makeSliceA T M t l c K) : ∃ r M' ρ' w', (Instr.makeSlice t (l.c ρ) (c.c ρ)).run P w = .ok (r.c ρ') w' ∧ K r M' ∧ r.ok ρ' ∧ Sim ρ' M' w' ∧ Ext ρ M w ρ' M' w' := by
  unfold makeSliceA at h
  split at h
  · rename_i kl l kc c
    split at h
    · rename_i el s1 s2 s3 ht
      obtain ⟨d, hd, hkd⟩ := hT.und ht
      obtain rfl := tkOf_slice hkd
      split at h
      · rename_i te hte
        obtain ⟨⟨h0, hlc, hb, h63⟩, h⟩ := h
        split at h
        · rename_i x hx
          obtain ⟨hpos, hzl, hsz, hat⟩ := makeCont_at hx (by omega)
          have hzok := hT.zero_ok hte ρ
          obtain ⟨d2, ie, z, e1, e2, e3, rfl⟩ := hT.get hte
          simp only at hpos hzl hsz hat hb hzok
          have hzs : z.cells.size = ie.size := by simpa using hzl
          have hrun := run_make (P := P) w t el ie z hd e2 e3 kl kc l c h0 hlc (by omega) (by omega)
          obtain ⟨h1, h2⟩ := alloc_sound (x := x) (c := madeCells z.cells (c.toNat * ie.size)) (e := el) hs rfl rfl rfl rfl (by rw [hsz, size_madeCells]; exact Nat.le_refl _) (fun k v hv => by
            obtain ⟨hk, u, hu, hc⟩ := hat k v hv
            refine ⟨(hc ρ).2 ((AV.okl_iff ρ _).1 hzok u (List.mem_of_getElem? hu)), ?_⟩
            have hm : k % ie.size < z.cells.size := by rw [hzs]; exact Nat.mod_lt _ hpos
            have hu' : ofS z.cells[k % ie.size] = u := by
              rw [List.getElem?_map, Array.getElem?_toList, Array.getElem?_eq_getElem hm] at hu
              simpa using hu
            rw [← (hc ρ).1, ← hu', ofS_c]
            simp only [madeCells, Array.getElem?_map, Array.getElem?_range, hk, if_true, Option.map_some, hzs]
            rw [getElem!_pos z.cells _ hm]) (makeCont_row (by assumption))
          exact ⟨_, _, _, _, by rw [sl_new.1]; exact hrun, h, sl_new.2, h1, h2⟩
        · exact h.elim
      · exact h.elim
    · exact h.elim
  · exact h.elim

end Go.Proofs.Yteinenklppbjkaa

set_option linter.unusedVariables false
set_option linter.unusedSimpArgs false
open Go.RowKit
namespace Go.Proofs.Yteinenklppbjkaa

section
variable {P : Program} {T : List TI} {ρ : Env} {M : AH} {w : World}

theorem run_append_stay {t tx ty e : TypeId} {i : TypeInfo} (ht : P.underlying t = some (.slice e)) (hi : P.info? e = some i) {x : Value} {news : List Value} (hs : Src P i.size tx x 0 news w) :
    (Builtin.append_ #[t, tx] ty #[.slice none 0 0, x]).run P w = .ok (.slice none 0 0) w := by
  rcases hs.kind with ⟨e', hk⟩ | hk <;> simp [Builtin.append_, run_underlying ht, run_underlying hk, sizeOf, typeInfo, hi, hs.len, hs.cells]

theorem run_append_in {t tx ty e : TypeId} {i : TypeInfo} (ht : P.underlying t = some (.slice e)) (hi : P.info? e = some i) {b off n c m : Nat} {x : Value} {news : List Value} (hs : Src P i.size tx x m news w) (hroom : n + m ≤ c)
    {cur : Array Value} {e' : TypeId} (hb : w.heap[b]? = some (.cells cur e' (0, 0))) (hfit : off + n * i.size + news.length ≤ cur.size) :
    (Builtin.append_ #[t, tx] ty #[.slice (some ⟨b, off, none⟩) n c, x]).run P w = .ok (.slice (some ⟨b, off, none⟩) (n + m) c)
      (w.setRow b (cur.toList.take (off + n * i.size) ++ news ++ cur.toList.drop (off + n * i.size + news.length)).toArray) := by
  have hst := run_storeCells_at P b (off + n * i.size) e' news 0 cur w hb (by omega) hs.one
  simp only [Nat.add_zero] at hst
  rcases hs.kind with ⟨e', hk⟩ | hk <;> simp [Builtin.append_, run_underlying ht, run_underlying hk, sizeOf, typeInfo, hi, hs.len, hroom, hs.cells, add_addr, hst]

/-- A new array behind an append: the cells known, then zeros. -/
theorem grown_cells {cs : List Value} {z : Array Value} {k sz c : Nat} (hz : z.size = sz) (hl : cs.length = k * sz) (hk : k ≤ c) : c * sz ≤ (cs.toArray ++ Builtin.zeroCells z (c - k)).size := by
  simp only [Array.size_append, List.size_toArray, size_zeroCells, hz, hl, ← Nat.add_mul]
  exact Nat.mul_le_mul_right _ (by omega)
theorem grown_get {cs : List Value} {z : Array Value} {j : Nat} {v : Value} (h : cs[j]? = some v) : (cs.toArray ++ z)[j]? = some v := by
  have := (List.getElem?_eq_some_iff.1 h).1
  rw [Array.getElem?_append_left (by simpa using this)]
  simpa using h

theorem append_new (hs : Sim ρ M w) {t tx ty e : TypeId} {ie : TypeInfo} {z : Value} (ht : P.underlying t = some (.slice e)) (hi : P.info? e = some ie) (hz : ie.zero = some z) (hzs : z.cells.size = ie.size)
    {x : Value} {m : Nat} {news : List Value} (hsrc : Src P ie.size tx x m news w) (hb : m * ie.bytes ≤ 140737488355328) (h63 : (m : Int) ≤ 9223372036854775807)
    (xc : Nat → Cont) (hsz : ∀ c, (xc c).size = c * ie.size) (hat : ∀ c k v, (xc c).at k = some v → v.ok ρ ∧ news[k]? = some (v.c ρ)) (hv : m = 0 → (xc 0).virt) (hxr : ∀ c, (xc c).row = true := by intros; rfl) :
    ∃ c, m ≤ c ∧ ∃ ρ' w', (Builtin.append_ #[t, tx] ty #[.slice none 0 0, x]).run P w = .ok ((AV.sl M.length 0 0 m c).c ρ') w' ∧ (AV.sl M.length 0 0 m c).ok ρ' ∧
      Sim ρ' (M ++ [.one true 0 (xc c)]) w' ∧ Ext ρ M w ρ' (M ++ [.one true 0 (xc c)]) w' := by
  by_cases hm : m = 0
  · subst hm
    obtain ⟨h1, h2⟩ := sim_new (x := xc 0) (l := none) (w' := w) hs (fun _ _ => rfl) (Nat.le_refl _) rfl rfl rfl (.inr ⟨rfl, hv rfl⟩)
    refine ⟨0, Nat.le_refl _, _, w, ?_, ?_, h1, h2⟩
    · rw [run_append_stay ht hi hsrc]; simp [AV.c, upE_same]
    · simp [AV.ok, upE_same]
  · have hrun := run_append_grow_src (P := P) w t tx ty e ie z ht hi hz none 0 0 [] (by simp [Builtin.firstCells]) x m news hsrc (by omega) (by omega) (growslice_fits (by omega) (by rw [Nat.zero_add]; exact hb))
    simp only [List.nil_append, Nat.zero_add] at hrun
    have hc := grownCap_ge w m 0 e
    obtain ⟨h1, h2⟩ := alloc_sound (x := xc (grownCap w m 0 e)) (w1 := w.drew) (c := news.toArray ++ Builtin.zeroCells z.cells (grownCap w m 0 e - m)) (e := e) hs rfl rfl rfl rfl
      (by rw [hsz]; exact grown_cells hzs hsrc.newsLen hc) (fun k v hv => by obtain ⟨a, b⟩ := hat _ k v hv; exact ⟨a, grown_get b⟩) (hxr _)
    exact ⟨_, hc, _, _, by rw [sl_new.1]; exact hrun, sl_new.2, h1, h2⟩

theorem append_own (hs : Sim ρ M w) {t tx ty e : TypeId} {ie : TypeInfo} {z : Value} (ht : P.underlying t = some (.slice e)) (hi : P.info? e = some ie) (hz : ie.zero = some z) (hzs : z.cells.size = ie.size)
    {x : Value} {m : Nat} {news : List Value} (hsrc : Src P ie.size tx x m news w) {i g n c co : Nat} {xo : Cont} (hm : M[i]? = some (.one true g xo)) (hxo : xo.size = co * ie.size) (hn : n ≤ co) (hco : c ≤ co) (hvo : xo.virt → co = 0)
    (hb : (n + m) * ie.bytes ≤ 140737488355328) (h63 : ((n + m : Nat) : Int) ≤ 9223372036854775807)
    (xc : Nat → Cont) (hsz : ∀ c, (xc c).size = c * ie.size) (hat : ∀ c k v, (xc c).at k = some v → (k < n * ie.size ∧ xo.at k = some v) ∨ (n * ie.size ≤ k ∧ v.ok ρ ∧ news[k - n * ie.size]? = some (v.c ρ)))
    (hv : n = 0 → m = 0 → (xc 0).virt) (hok : (AV.sl i g 0 n c).ok ρ) (hxr : ∀ c, (xc c).row = true := by intros; rfl) (hxor : xo.row = true := by rfl) :
    ∃ c', n + m ≤ c' ∧ ∃ ρ' w', (Builtin.append_ #[t, tx] ty #[(AV.sl i g 0 n c).c ρ, x]).run P w = .ok ((AV.sl i (g + 1) 0 (n + m) c').c ρ') w' ∧ (AV.sl i (g + 1) 0 (n + m) c').ok ρ' ∧
      Sim ρ' (M.set i (.one true (g + 1) (xc c'))) w' ∧ Ext ρ M w ρ' (M.set i (.one true (g + 1) (xc c'))) w' := by
  have hun : (ρ i (g + 1)).isSome = false := by
    cases hh : (ρ i (g + 1)).isSome with
    | false => rfl
    | true => exact absurd (hs.tag i _ true g xo hm hh) (by omega)
  -- a new array
  have grow : ∀ (base : Option Addr) (olds : List Value), (AV.sl i g 0 n c).c ρ = .slice base n c → c < n + m → olds.length = n * ie.size → (Builtin.firstCells ie.size n (.slice base n c)).run P w.drew = .ok olds.toArray w.drew →
      (∀ k v, xo.at k = some v → k < n * ie.size → v.ok ρ ∧ olds[k]? = some (v.c ρ)) →
      ∃ c', n + m ≤ c' ∧ ∃ ρ' w', (Builtin.append_ #[t, tx] ty #[(AV.sl i g 0 n c).c ρ, x]).run P w = .ok ((AV.sl i (g + 1) 0 (n + m) c').c ρ') w' ∧ (AV.sl i (g + 1) 0 (n + m) c').ok ρ' ∧
      Sim ρ' (M.set i (.one true (g + 1) (xc c'))) w' ∧ Ext ρ M w ρ' (M.set i (.one true (g + 1) (xc c'))) w' := by
    intro base olds hbase hlt hlo hold hoat
    have hrun := run_append_grow_src (P := P) w t tx ty e ie z ht hi hz base n c olds hold x m news hsrc hlt h63 (growslice_fits hlt hb)
    have hc := grownCap_ge w (n + m) c e
    have hlen : (olds ++ news).length = (n + m) * ie.size := by rw [List.length_append, hlo, hsrc.newsLen, Nat.add_mul]
    obtain ⟨h1, h2⟩ := sim_retag (x' := xc (grownCap w (n + m) c e)) (l := some (w.heap.size, 0)) (w' := w.drew.alloc (.cells ((olds ++ news).toArray ++ Builtin.zeroCells z.cells (grownCap w (n + m) c e - (n + m))) e)) hs hm
      (fun b hb _ => Below.heap_alloc w.drew _ b hb) (by simp) rfl rfl rfl (.inl ⟨w.heap.size, 0, rfl, .inl (Nat.le_refl _), .mk' (hxr _) ⟨_, e, (0, 0), heap_alloc_new w.drew _, by rw [hsz, Nat.zero_add]; exact grown_cells hzs hlen hc, fun k v hv => by
        have key : v.ok ρ ∧ (olds ++ news)[k]? = some (v.c ρ) := by
          rcases hat _ k v hv with ⟨a, b⟩ | ⟨a, b, c⟩
          · obtain ⟨h1, h2⟩ := hoat k v b a
            exact ⟨h1, by rw [List.getElem?_append_left (by rw [hlo]; exact a)]; exact h2⟩
          · exact ⟨b, by rw [List.getElem?_append_right (by rw [hlo]; exact a), hlo]; exact c⟩
        exact ⟨AV.ok_ext (upE_ext hun) v key.1, by rw [AV.c_ext (upE_ext hun) v key.1, Nat.zero_add]; exact grown_get key.2⟩, fun _ => rfl⟩⟩)
    exact ⟨_, hc, _, _, by rw [hbase, sl_new.1]; exact hrun, sl_new.2, h1, h2⟩
  rcases hs.holds i g true xo (slot_one hm) with ⟨q, hq, hh⟩ | ⟨hq, hvv⟩
  · obtain ⟨cur, e', fr, h1, h2, h3, h4⟩ := hh.out hxor
    obtain rfl := h4 rfl
    have hbase : (AV.sl i g 0 n c).c ρ = .slice (some ⟨q.1, q.2, none⟩) n c := by simp [AV.c, hq]
    rw [hxo] at h2
    have hnc : n * ie.size ≤ co * ie.size := Nat.mul_le_mul_right _ hn
    by_cases hroom : n + m ≤ c
    · have hcc : (n + m) * ie.size ≤ co * ie.size := Nat.mul_le_mul_right _ (by omega)
      have hcc' : c * ie.size ≤ co * ie.size := Nat.mul_le_mul_right _ hco
      rw [Nat.add_mul] at hcc
      have hfit : q.2 + n * ie.size + news.length ≤ cur.size := by rw [hsrc.newsLen]; omega
      have hrun := run_append_in (ty := ty) ht hi hsrc hroom (off := q.2) h1 hfit
      have hl : (cur.toList.take (q.2 + n * ie.size) ++ news ++ cur.toList.drop (q.2 + n * ie.size + news.length)).toArray.size = cur.size := by
        simp only [List.size_toArray, List.length_append, List.length_take, List.length_drop, Array.length_toList]; omega
      obtain ⟨g1, g2⟩ := sim_retag (x' := xc c) (l := some (q.1, q.2)) (w' := w.setRow q.1 (cur.toList.take (q.2 + n * ie.size) ++ news ++ cur.toList.drop (q.2 + n * ie.size + news.length)).toArray) hs hm
        (fun b _ hb => setRow_other' _ _ _ _ (fun e => hb q hq e.symm)) (Nat.le_of_eq (setRow_size' _ _ _).symm) rfl rfl rfl (.inl ⟨q.1, q.2, rfl, .inr ⟨q, hq, rfl⟩, .mk' (hxr _) ⟨_, e', (0, 0), setRow_heap' _ _ _ _ _ _ h1, by rw [hl, hsz]; omega, fun k v hv => by
          have key : v.ok ρ ∧ ((cur.toList.take (q.2 + n * ie.size) ++ news ++ cur.toList.drop (q.2 + n * ie.size + news.length)).toArray)[q.2 + k]? = some (v.c ρ) := by
            rw [row_get _ _ _ hfit]
            rcases hat _ k v hv with ⟨a, b⟩ | ⟨a, b, c⟩
            · rw [if_neg (by omega)]; exact h3 k v b
            · have := (List.getElem?_eq_some_iff.1 c).1
              rw [if_pos (by omega), show q.2 + k - (q.2 + n * ie.size) = k - n * ie.size from by omega]
              exact ⟨b, c⟩
          exact ⟨AV.ok_ext (upE_ext hun) v key.1, by rw [AV.c_ext (upE_ext hun) v key.1]; exact key.2⟩, fun _ => rfl⟩⟩)
      exact ⟨c, hroom, _, _, by rw [hbase, hrun]; simp [AV.c, upE_same], by simp [AV.ok, upE_same], g1, g2⟩
    · refine grow _ ((cur.toList.drop q.2).take (n * ie.size)) hbase (by omega) (by simp; omega) ?_ ?_
      · refine run_firstCells_some w.drew ie.size n ⟨q.1, q.2, none⟩ n c _ (by simp; omega) fun j v hv => ?_
        simp only [List.getElem?_take, List.getElem?_drop] at hv
        split at hv
        · rw [add_addr, World.cell?_drew, cell_of_row w q.1 (q.2 + j) cur e' (0, 0) h1]
          simpa using hv
        · cases hv
      · intro k v hv hk
        obtain ⟨a, b⟩ := h3 k v hv
        exact ⟨a, by simp only [List.getElem?_take, List.getElem?_drop, if_pos hk]; simpa using b⟩
  · have h0 := hvo hvv
    have hn0 : n = 0 := by omega
    have hc0 : c = 0 := by omega
    subst hn0; subst hc0
    have hbase : (AV.sl i g 0 0 0).c ρ = .slice none 0 0 := by simp [AV.c, hq]
    by_cases hm0 : m = 0
    · subst hm0
      obtain ⟨g1, g2⟩ := sim_retag (x' := xc 0) (l := none) (w' := w) hs hm (fun _ _ _ => rfl) (Nat.le_refl _) rfl rfl rfl (.inr ⟨rfl, hv rfl rfl⟩)
      exact ⟨0, Nat.le_refl _, _, w, by rw [hbase, run_append_stay ht hi hsrc]; simp [AV.c, upE_same], by simp [AV.ok, upE_same], g1, g2⟩
    · exact grow none [] hbase (by omega) (by simp) (by simp [Builtin.firstCells]) (fun k v _ hk => by simp at hk)

end

/-! An append that leaves the array's elder slices readable: the array is a family of one. -/
theorem slot_fam1 {M : AH} {i : Nat} {f : Nat → Cont} (hm : M[i]? = some (.fam true 1 f)) (j g : Nat) : slot (M.set i (.one true 0 (f 0))) j g = slot M j g := by
  have hlt : i < M.length := (List.getElem?_eq_some_iff.1 hm).1
  unfold slot
  by_cases h : j = i
  · subst h
    rw [List.getElem?_set_self hlt, hm]
    simp only [slotO]
    by_cases hg : g = 0
    · subst hg; simp
    · rw [if_neg hg, if_neg (by omega)]
  · rw [List.getElem?_set_ne (Ne.symm h)]
theorem slot_one0 {M : AH} {i : Nat} {x : Cont} (hm : M[i]? = some (.one true 0 x)) (j g : Nat) : slot (M.set i (.fam true 1 (fun _ => x))) j g = slot M j g := by
  have hlt : i < M.length := (List.getElem?_eq_some_iff.1 hm).1
  unfold slot
  by_cases h : j = i
  · subst h
    rw [List.getElem?_set_self hlt, hm]
    simp only [slotO]
    by_cases hg : g = 0
    · subst hg; simp
    · rw [if_neg hg, if_neg (by omega)]
  · rw [List.getElem?_set_ne (Ne.symm h)]
theorem sim_fam1 {ρ : Env} {M : AH} {w : World} {i : Nat} {f : Nat → Cont} (h : Sim ρ M w) (hm : M[i]? = some (.fam true 1 f)) : Sim ρ (M.set i (.one true 0 (f 0))) w := by
  have hlt : i < M.length := (List.getElem?_eq_some_iff.1 hm).1
  have e := slot_fam1 hm
  refine ⟨fun j g hj => by rw [List.length_set]; exact h.dom j g hj, ?_, ?_, ?_, ?_⟩
  · intro j g own g' x hj hs
    by_cases hji : j = i
    · subst hji
      rw [List.getElem?_set_self hlt] at hj
      injection hj with hj; injection hj with _ e2 _; subst e2
      have := h.fam j g true 1 f hm hs; omega
    · rw [List.getElem?_set_ne (Ne.symm hji)] at hj; exact h.tag j g own g' x hj hs
  · intro j g own m x hj hs
    by_cases hji : j = i
    · subst hji
      rw [List.getElem?_set_self hlt] at hj; cases hj
    · rw [List.getElem?_set_ne (Ne.symm hji)] at hj; exact h.fam j g own m x hj hs
  · intro j g own x hsl; exact h.holds j g own x (by rw [← e]; exact hsl)
  · intro a b c a' b' c' d' q q' h1 h2; exact h.apart a b c a' b' c' d' q q' (by rw [← e]; exact h1) (by rw [← e]; exact h2)
theorem sim_one0 {ρ : Env} {M : AH} {w : World} {i : Nat} {x : Cont} (h : Sim ρ M w) (hm : M[i]? = some (.one true 0 x)) : Sim ρ (M.set i (.fam true 1 (fun _ => x))) w := by
  have hlt : i < M.length := (List.getElem?_eq_some_iff.1 hm).1
  have e := slot_one0 hm
  refine ⟨fun j g hj => by rw [List.length_set]; exact h.dom j g hj, ?_, ?_, ?_, ?_⟩
  · intro j g own g' y hj hs
    by_cases hji : j = i
    · subst hji
      rw [List.getElem?_set_self hlt] at hj; cases hj
    · rw [List.getElem?_set_ne (Ne.symm hji)] at hj; exact h.tag j g own g' y hj hs
  · intro j g own m y hj hs
    by_cases hji : j = i
    · subst hji
      rw [List.getElem?_set_self hlt] at hj
      injection hj with hj; injection hj with _ e2 _; subst e2
      have := h.tag j g true 0 x hm hs; omega
    · rw [List.getElem?_set_ne (Ne.symm hji)] at hj; exact h.fam j g own m y hj hs
  · intro j g own y hsl; exact h.holds j g own y (by rw [← e]; exact hsl)
  · intro a b c a' b' c' d' q q' h1 h2; exact h.apart a b c a' b' c' d' q q' (by rw [← e]; exact h1) (by rw [← e]; exact h2)
theorem ext_slot {ρ ρ' : Env} {M M1 N N1 : AH} {w w' : World} (h : Ext ρ M1 w ρ' N1 w') (e : ∀ j g, slot M1 j g = slot M j g) (e' : ∀ j g, slot N j g = slot N1 j g) : Ext ρ M w ρ' N w' :=
  ⟨h.env, h.size, fun b hb hn => h.frame b hb fun i g x q h1 h2 => hn i g x q (by rw [← e]; exact h1) h2, fun i g x q h1 h2 hb => by
    obtain ⟨a, b, c, d, k1, k2, k3⟩ := h.fresh i g x q (by rw [← e']; exact h1) h2 hb
    exact ⟨a, b, c, d, by rw [← e]; exact k1, k2, k3⟩, h.os, h.tape, h.output⟩
section
variable {P : Program} {T : List TI} {ρ : Env} {M : AH} {w : World}
theorem append_keep (hs : Sim ρ M w) {t tx ty e : TypeId} {ie : TypeInfo} {z : Value} (ht : P.underlying t = some (.slice e)) (hi : P.info? e = some ie) (hz : ie.zero = some z) (hzs : z.cells.size = ie.size)
    {x : Value} {m : Nat} {news : List Value} (hsrc : Src P ie.size tx x m news w) {i n c co : Nat} {f : Nat → Cont} (hm : M[i]? = some (.fam true 1 f)) (hxo : (f 0).size = co * ie.size) (hn : n ≤ co) (hco : c ≤ co) (hvo : (f 0).virt → co = 0)
    (hb : (n + m) * ie.bytes ≤ 140737488355328) (h63 : ((n + m : Nat) : Int) ≤ 9223372036854775807)
    (xc : Nat → Cont) (hsz : ∀ c, (xc c).size = c * ie.size) (hat : ∀ c k v, (xc c).at k = some v → (k < n * ie.size ∧ (f 0).at k = some v) ∨ (n * ie.size ≤ k ∧ v.ok ρ ∧ news[k - n * ie.size]? = some (v.c ρ)))
    (hv : n = 0 → m = 0 → (xc 0).virt) (hxr : ∀ c, (xc c).row = true) (hxor : (f 0).row = true) :
    (n + m ≤ c ∧ ∃ w', (Builtin.append_ #[t, tx] ty #[(AV.sl i 0 0 n c).c ρ, x]).run P w = .ok ((AV.sl i 0 0 (n + m) c).c ρ) w' ∧ Sim ρ (M.set i (.fam true 1 (fun _ => xc co))) w' ∧ Ext ρ M w ρ (M.set i (.fam true 1 (fun _ => xc co))) w') ∨
    (c < n + m ∧ ∃ c', n + m ≤ c' ∧ ∃ ρ' w', (Builtin.append_ #[t, tx] ty #[(AV.sl i 0 0 n c).c ρ, x]).run P w = .ok ((AV.sl M.length 0 0 (n + m) c').c ρ') w' ∧ (AV.sl M.length 0 0 (n + m) c').ok ρ' ∧
      Sim ρ' (M ++ [.one true 0 (xc c')]) w' ∧ Ext ρ M w ρ' (M ++ [.one true 0 (xc c')]) w') := by
  have hlt : i < M.length := (List.getElem?_eq_some_iff.1 hm).1
  have hsl0 : slot M i 0 = some (true, f 0) := by unfold slot; rw [hm]; rfl
  have grow : ∀ (base : Option Addr) (olds : List Value), (AV.sl i 0 0 n c).c ρ = .slice base n c → c < n + m → olds.length = n * ie.size → (Builtin.firstCells ie.size n (.slice base n c)).run P w.drew = .ok olds.toArray w.drew →
      (∀ k v, (f 0).at k = some v → k < n * ie.size → v.ok ρ ∧ olds[k]? = some (v.c ρ)) →
      ∃ c', n + m ≤ c' ∧ ∃ ρ' w', (Builtin.append_ #[t, tx] ty #[(AV.sl i 0 0 n c).c ρ, x]).run P w = .ok ((AV.sl M.length 0 0 (n + m) c').c ρ') w' ∧ (AV.sl M.length 0 0 (n + m) c').ok ρ' ∧
      Sim ρ' (M ++ [.one true 0 (xc c')]) w' ∧ Ext ρ M w ρ' (M ++ [.one true 0 (xc c')]) w' := by
    intro base olds hbase hlt' hlo hold hoat
    have hrun := run_append_grow_src (P := P) w t tx ty e ie z ht hi hz base n c olds hold x m news hsrc hlt' h63 (growslice_fits hlt' hb)
    have hc := grownCap_ge w (n + m) c e
    have hlen : (olds ++ news).length = (n + m) * ie.size := by rw [List.length_append, hlo, hsrc.newsLen, Nat.add_mul]
    obtain ⟨h1, h2⟩ := alloc_sound (x := xc (grownCap w (n + m) c e)) (w1 := w.drew) (c := (olds ++ news).toArray ++ Builtin.zeroCells z.cells (grownCap w (n + m) c e - (n + m))) (e := e) hs rfl rfl rfl rfl
      (by rw [hsz]; exact grown_cells hzs hlen hc) (fun k v hv => by
        rcases hat _ k v hv with ⟨a, b⟩ | ⟨a, b, c⟩
        · obtain ⟨h1, h2⟩ := hoat k v b a
          exact ⟨h1, grown_get (by rw [List.getElem?_append_left (by rw [hlo]; exact a)]; exact h2)⟩
        · exact ⟨b, grown_get (by rw [List.getElem?_append_right (by rw [hlo]; exact a), hlo]; exact c)⟩) (hxr _)
    exact ⟨_, hc, _, _, by rw [hbase, sl_new.1]; exact hrun, sl_new.2, h1, h2⟩
  have hs1 := sim_fam1 hs hm
  have hm1 : (M.set i (.one true 0 (f 0)))[i]? = some (.one true 0 (f 0)) := List.getElem?_set_self hlt
  have back : ∀ {w'}, Sim ρ ((M.set i (.one true 0 (f 0))).set i (.one true 0 (xc co))) w' → Ext ρ (M.set i (.one true 0 (f 0))) w ρ ((M.set i (.one true 0 (f 0))).set i (.one true 0 (xc co))) w' →
      Sim ρ (M.set i (.fam true 1 (fun _ => xc co))) w' ∧ Ext ρ M w ρ (M.set i (.fam true 1 (fun _ => xc co))) w' := by
    intro w' a b
    rw [List.set_set] at a b
    have hq : (M.set i (AO.one true 0 (xc co)))[i]? = some (.one true 0 (xc co)) := List.getElem?_set_self hlt
    have c := sim_one0 a hq
    have d := slot_one0 hq
    rw [List.set_set] at c d
    exact ⟨c, ext_slot b (slot_fam1 hm) d⟩
  rcases hs.holds i 0 true (f 0) hsl0 with ⟨q, hq, hh⟩ | ⟨hq, hvv⟩
  · obtain ⟨cur, e', fr, h1, h2, h3, h4⟩ := hh.out hxor
    obtain rfl := h4 rfl
    have hbase : (AV.sl i 0 0 n c).c ρ = .slice (some ⟨q.1, q.2, none⟩) n c := by simp [AV.c, hq]
    rw [hxo] at h2
    have hnc : n * ie.size ≤ co * ie.size := Nat.mul_le_mul_right _ hn
    by_cases hroom : n + m ≤ c
    · left
      have hcc : (n + m) * ie.size ≤ co * ie.size := Nat.mul_le_mul_right _ (by omega)
      have hcc' : c * ie.size ≤ co * ie.size := Nat.mul_le_mul_right _ hco
      rw [Nat.add_mul] at hcc
      have hfit : q.2 + n * ie.size + news.length ≤ cur.size := by rw [hsrc.newsLen]; omega
      have hrun := run_append_in (ty := ty) ht hi hsrc hroom (off := q.2) h1 hfit
      have hl : (cur.toList.take (q.2 + n * ie.size) ++ news ++ cur.toList.drop (q.2 + n * ie.size + news.length)).toArray.size = cur.size := by
        simp only [List.size_toArray, List.length_append, List.length_take, List.length_drop, Array.length_toList]; omega
      obtain ⟨g1, g2⟩ := sim_put (i := i) (g := 0) (x' := xc co) (ρ' := ρ) (M' := (M.set i (.one true 0 (f 0))).set i (.one true 0 (xc co))) (w' := w.setRow q.1 (cur.toList.take (q.2 + n * ie.size) ++ news ++ cur.toList.drop (q.2 + n * ie.size + news.length)).toArray) hs1
        (by simp) (fun i' hne => by rw [List.getElem?_set_ne (Ne.symm hne)]) (by simp [hlt]) (fun _ _ _ h => h) (fun _ _ h => .inl h) (fun g' hg => hs1.tag i g' true 0 _ hm1 hg)
        (fun b _ hb => setRow_other' _ _ _ _ (fun e => hb 0 _ q (slot_one hm1) hq e.symm)) (Nat.le_of_eq (setRow_size' _ _ _).symm) rfl rfl rfl (.inl ⟨q, hq, .mk' (hxr _) ⟨_, e', (0, 0), setRow_heap' _ _ _ _ _ _ h1, by rw [hl, hsz]; omega, fun k v hv => by
          have key : v.ok ρ ∧ ((cur.toList.take (q.2 + n * ie.size) ++ news ++ cur.toList.drop (q.2 + n * ie.size + news.length)).toArray)[q.2 + k]? = some (v.c ρ) := by
            rw [row_get _ _ _ hfit]
            rcases hat _ k v hv with ⟨a, b⟩ | ⟨a, b, c⟩
            · rw [if_neg (by omega)]; exact h3 k v b
            · have := (List.getElem?_eq_some_iff.1 c).1
              rw [if_pos (by omega), show q.2 + k - (q.2 + n * ie.size) = k - n * ie.size from by omega]
              exact ⟨b, c⟩
          exact key, fun _ => rfl⟩, .inr ⟨0, _, q, slot_one hm1, hq, rfl⟩⟩)
      obtain ⟨b1, b2⟩ := back g1 g2
      exact ⟨hroom, _, by rw [hbase, hrun]; simp [AV.c, hq], b1, b2⟩
    · right
      refine ⟨by omega, grow _ ((cur.toList.drop q.2).take (n * ie.size)) hbase (by omega) (by simp; omega) ?_ ?_⟩
      · refine run_firstCells_some w.drew ie.size n ⟨q.1, q.2, none⟩ n c _ (by simp; omega) fun j v hv => ?_
        simp only [List.getElem?_take, List.getElem?_drop] at hv
        split at hv
        · rw [add_addr, World.cell?_drew, cell_of_row w q.1 (q.2 + j) cur e' (0, 0) h1]
          simpa using hv
        · cases hv
      · intro k v hv hk
        obtain ⟨a, b⟩ := h3 k v hv
        exact ⟨a, by simp only [List.getElem?_take, List.getElem?_drop, if_pos hk]; simpa using b⟩
  · have h0 := hvo hvv
    have hn0 : n = 0 := by omega
    have hc0 : c = 0 := by omega
    subst hn0; subst hc0
    have hbase : (AV.sl i 0 0 0 0).c ρ = .slice none 0 0 := by simp [AV.c, hq]
    by_cases hm0 : m = 0
    · subst hm0
      subst h0
      left
      obtain ⟨g1, g2⟩ := sim_put (i := i) (g := 0) (x' := xc 0) (ρ' := ρ) (M' := (M.set i (.one true 0 (f 0))).set i (.one true 0 (xc 0))) (w' := w) hs1
        (by simp) (fun i' hne => by rw [List.getElem?_set_ne (Ne.symm hne)]) (by simp [hlt]) (fun _ _ _ h => h) (fun _ _ h => .inl h) (fun g' hg => hs1.tag i g' true 0 _ hm1 hg)
        (fun b _ _ => rfl) (Nat.le_refl _) rfl rfl rfl (.inr ⟨hq, hv rfl rfl⟩)
      obtain ⟨b1, b2⟩ := back g1 g2
      exact ⟨Nat.le_refl _, w, by rw [hbase, run_append_stay ht hi hsrc], b1, b2⟩
    · right
      exact ⟨by omega, grow none [] hbase (by omega) (by simp) (by simp [Builtin.firstCells]) (fun k v _ hk => by simp at hk)⟩
end

/-! What an append appends. -/
def srcKind (x : AV) (k : TK) : Bool :=
  match x, k with
  | .str _, .str => true
  | .str _, _ => false
  | _, .slice _ => true
  | _, _ => false
theorem srcKind_str {s : ByteArray} {k : TK} (h : srcKind (.str s) k = true) : k = .str := by
  cases k <;> simp_all [srcKind]
theorem srcKind_slice {x : AV} {k : TK} (h : srcKind x k = true) (hx : ∀ s, x ≠ .str s) : ∃ e, k = .slice e := by
  cases x <;> cases k <;> simp_all [srcKind]
def srcInts (M : AH) (k : IntKind) (x : AV) (K : List Int → Nat → Prop) : Prop :=
  match x with
  | .ns => K [] 0
  | .sl i g off n c => slotA M i g fun _ x => match x with
    | .ints k' xs _ => sameK k k' (off + n ≤ xs.length ∧ ∀ ys, ys = (xs.drop off).take n → K ys n)
    | _ => False
  | .str s => match k with
    | .u8 => K (s.data.toList.map fun b => (b.toNat : Int)) s.size
    | _ => False
  | _ => False
def srcBools (M : AH) (x : AV) (K : List Bool → Nat → Prop) : Prop :=
  match x with
  | .ns => K [] 0
  | .sl i g off n c => slotA M i g fun _ x => match x with
    | .bools xs _ => off + n ≤ xs.length ∧ ∀ ys, ys = (xs.drop off).take n → K ys n
    | _ => False
  | _ => False
def srcTab (M : AH) (sz : Nat) (x : AV) (K : (Nat → List AV) → Nat → Prop) : Prop :=
  match x with
  | .ns => K (fun _ => []) 0
  | .sl i g off n c => slotA M i g fun _ x => match x with
    | .tab sz' m get _ => condT (Nat.beq sz sz') (off = 0 ∧ n ≤ m ∧ (∀ q, q < n → (get q).length = sz ∧ (get q).all AV.one = true) ∧ K get n)
    | .cells cs => condT (Nat.beq sz 1) (off + n ≤ cs.length ∧ ((cs.drop off).take n).all AV.one = true ∧ K (fun q => (cs[off + q]?).toList) n)
    | _ => False
  | _ => False

section
variable {P : Program} {ρ : Env} {M : AH} {w : World}

theorem int_cells (k : IntKind) (xs : List Int) (ρ : Env) : (AV.cl ρ (xs.map (AV.int k))) = xs.map (Value.int k) := by
  simp [AV.cl_eq, Function.comp_def, AV.c]

/-- The cells of a slice, out of what its object holds. -/
theorem src_slice (hs : Sim ρ M w) {tx e' : Nat} (hk : P.underlying tx = some (.slice e')) {sz : Nat} {i g off n c : Nat} {own : Bool} {x : Cont} (hsl : slot M i g = some (own, x)) (hv : x.virt → n = 0)
    {l : List AV} (hl : l.length = n * sz) (hone : l.all AV.one = true) (hat : ∀ k v, l[k]? = some v → ∃ u, x.at (off + k) = some u ∧ u.c ρ = v.c ρ) : Src P sz tx ((AV.sl i g off n c).c ρ) n (AV.cl ρ l) w := by
  have hone' : ∀ u ∈ AV.cl ρ l, u.oneCell' = true := fun u hu => by
    rw [AV.cl_eq, List.mem_map] at hu
    obtain ⟨v, hv, rfl⟩ := hu
    exact AV.one_c ρ (List.all_eq_true.1 hone v hv)
  rcases hs.holds i g own x hsl with ⟨q, hq, hh⟩ | ⟨hq, hvv⟩
  · have : (AV.sl i g off n c).c ρ = .slice (some ⟨q.1, q.2 + off, none⟩) n c := by simp [AV.c, hq]
    rw [this]
    refine Src.ofSlice w hk _ n c _ (by rw [AV.cl_eq, List.length_map, hl]) (fun j u hu => ?_) hone'
    rw [AV.cl_eq, List.getElem?_map, Option.map_eq_some_iff] at hu
    obtain ⟨v, hv', rfl⟩ := hu
    obtain ⟨u, h1, h2⟩ := hat j v hv'
    rw [add_addr, Nat.add_assoc, ← h2]
    exact (hh.cell h1).2
  · have h0 := hv hvv
    subst h0
    have : (AV.sl i g off 0 c).c ρ = .slice none 0 c := by simp [AV.c, hq]
    rw [this]
    have hl0 : l = [] := List.eq_nil_of_length_eq_zero (by simpa using hl)
    subst hl0
    exact Src.ofNil w hk c

theorem srcInts_sound {T : List TI} (hT : TabOK P T) (hs : Sim ρ M w) {k : IntKind} {x : AV} {tx : Nat} {ti : TI} (ht : T[tx]? = some ti) (hkind : srcKind x ti.k = true) {K : List Int → Nat → Prop}
    (h : srcInts M k x K) : ∃ ys m, ys.length = m ∧ K ys m ∧ Src P 1 tx (x.c ρ) m (ys.map (Value.int k)) w := by
  obtain ⟨d, hd, hkd⟩ := hT.und ht
  unfold srcInts at h
  split at h
  · obtain ⟨e, he⟩ := srcKind_slice hkind (by simp)
    rw [he] at hkd
    obtain rfl := tkOf_slice hkd
    exact ⟨[], 0, rfl, h, Src.ofNil w hd 0⟩
  · rename_i i g off n c
    obtain ⟨e, he⟩ := srcKind_slice hkind (by simp)
    rw [he] at hkd
    obtain rfl := tkOf_slice hkd
    replace h := slotA_sound h
    obtain ⟨own, x_, hsl, h⟩ := h
    split at h
    · rename_i k' xs co
      replace h := sameK_sound h
      obtain ⟨rfl, hle, h⟩ := h
      have hlen : ((xs.drop off).take n).length = n := by simp; omega
      refine ⟨_, n, hlen, h _ rfl, ?_⟩
      rw [← int_cells k _ ρ]
      refine src_slice hs hd hsl (by simp only [Cont.virt]; rintro ⟨rfl, _⟩; simp at hle; omega) (by simp; omega) (by rw [List.all_eq_true]; intro v hv; obtain ⟨z, _, rfl⟩ := List.mem_map.1 hv; rfl) fun j v hv => ?_
      rw [List.getElem?_map, Option.map_eq_some_iff] at hv
      obtain ⟨z, hz, rfl⟩ := hv
      simp only [List.getElem?_take, List.getElem?_drop] at hz
      split at hz
      · exact ⟨_, by simp only [Cont.at, hz]; rfl, rfl⟩
      · cases hz
    · exact h.elim
  · rename_i s
    have := srcKind_str hkind
    rw [this] at hkd
    obtain rfl := tkOf_str hkd
    split at h
    · refine ⟨_, s.size, by simp, h, ?_⟩
      have := Src.ofString (P := P) w hd s
      simpa [byteCells, Function.comp_def, AV.c] using this
    · exact h.elim
  · exact h.elim

theorem srcBools_sound {T : List TI} (hT : TabOK P T) (hs : Sim ρ M w) {x : AV} {tx e' : Nat} (hd : P.underlying tx = some (.slice e')) {K : List Bool → Nat → Prop}
    (h : srcBools M x K) : ∃ ys m, ys.length = m ∧ K ys m ∧ Src P 1 tx (x.c ρ) m (ys.map Value.bool) w := by
  unfold srcBools at h
  split at h
  · exact ⟨[], 0, rfl, h, Src.ofNil w hd 0⟩
  · rename_i i g off n c
    replace h := slotA_sound h
    obtain ⟨own, x_, hsl, h⟩ := h
    split at h
    · rename_i xs co
      obtain ⟨hle, h⟩ := h
      have hlen : ((xs.drop off).take n).length = n := by simp; omega
      refine ⟨_, n, hlen, h _ rfl, ?_⟩
      have e : ((xs.drop off).take n).map Value.bool = AV.cl ρ (((xs.drop off).take n).map AV.bo) := by simp [AV.cl_eq, Function.comp_def, AV.c]
      rw [e]
      refine src_slice hs hd hsl (by simp only [Cont.virt]; rintro ⟨rfl, _⟩; simp at hle; omega) (by simp; omega) (by rw [List.all_eq_true]; intro v hv; obtain ⟨z, _, rfl⟩ := List.mem_map.1 hv; rfl) fun j v hv => ?_
      rw [List.getElem?_map, Option.map_eq_some_iff] at hv
      obtain ⟨z, hz, rfl⟩ := hv
      simp only [List.getElem?_take, List.getElem?_drop] at hz
      split at hz
      · exact ⟨_, by simp only [Cont.at, hz]; rfl, rfl⟩
      · cases hz
    · exact h.elim
  · exact h.elim

/-- The cells of rows, side by side. -/
def flatR (get : Nat → List AV) (n : Nat) : List AV := (List.range n).flatMap get
theorem flatR_length {get : Nat → List AV} {sz : Nat} : ∀ {n : Nat}, (∀ q, q < n → (get q).length = sz) → (flatR get n).length = n * sz
  | 0, _ => by simp [flatR]
  | n + 1, h => by
    have := flatR_length (n := n) fun q hq => h q (by omega)
    unfold flatR at this ⊢
    rw [List.range_succ, List.flatMap_append, List.length_append, this, Nat.add_mul]
    simp [h n (by omega)]
theorem flatR_get {get : Nat → List AV} {sz : Nat} (hpos : 0 < sz) : ∀ {n : Nat}, (∀ q, q < n → (get q).length = sz) → ∀ k, k < n * sz → (flatR get n)[k]? = (get (k / sz))[k % sz]?
  | 0, _, k, hk => by simp at hk
  | n + 1, h, k, hk => by
    have hl := flatR_length (n := n) fun q hq => h q (by omega)
    have ih := flatR_get hpos (n := n) fun q hq => h q (by omega)
    have e : flatR get (n + 1) = flatR get n ++ get n := by simp [flatR, List.range_succ]
    rw [e]
    by_cases hk' : k < n * sz
    · rw [List.getElem?_append_left (by omega), ih k hk']
    · rw [List.getElem?_append_right (by omega), hl]
      have h1 : k / sz = n := by
        rw [Nat.add_mul, Nat.one_mul] at hk
        exact Nat.div_eq_of_lt_le (by omega) (by rw [Nat.add_mul, Nat.one_mul]; exact hk)
      have h2 : k % sz = k - n * sz := by
        have := Nat.div_add_mod k sz
        rw [h1, Nat.mul_comm] at this
        omega
      rw [h1, h2]

theorem srcTab_sound {T : List TI} (hT : TabOK P T) (hs : Sim ρ M w) {sz : Nat} (hpos : 0 < sz) {x : AV} {tx e' : Nat} (hd : P.underlying tx = some (.slice e')) {K : (Nat → List AV) → Nat → Prop}
    (h : srcTab M sz x K) : ∃ get m, K get m ∧ (∀ q, q < m → (get q).length = sz) ∧ Src P sz tx (x.c ρ) m (AV.cl ρ (flatR get m)) w ∧ AV.okl ρ (flatR get m) := by
  unfold srcTab at h
  split at h
  · exact ⟨_, 0, h, fun q hq => by omega, Src.ofNil w hd 0, trivial⟩
  · rename_i i g off n c
    replace h := slotA_sound h
    obtain ⟨own, x_, hsl, h⟩ := h
    have okl : ∀ (l : List AV), (∀ v ∈ l, ∃ k, x_.at k = some v) → (x_.virt → l = []) → AV.okl ρ l := by
      intro l hl hv
      rw [AV.okl_iff]
      intro v hvl
      obtain ⟨k, hk⟩ := hl v hvl
      rcases hs.holds i g own x_ hsl with ⟨q, hq, hh⟩ | ⟨hq, hvv⟩
      · exact (hh.cell hk).1
      · rw [hv hvv] at hvl; cases hvl
    split at h
    · rename_i sz' m get co
      replace h := condT_sound h
      obtain ⟨hb, rfl, hnm, hrow, h⟩ := h
      have e1 : sz = sz' := Nat.eq_of_beq_eq_true hb
      subst e1
      have hlen := flatR_length (n := n) fun q hq => (hrow q hq).1
      have hget := flatR_get hpos (n := n) fun q hq => (hrow q hq).1
      have hat : ∀ k v, (flatR get n)[k]? = some v → (Cont.tab sz m get co).at (0 + k) = some v := by
        intro k v hv
        have hk : k < n * sz := by have := (List.getElem?_eq_some_iff.1 hv).1; omega
        rw [Nat.zero_add]
        simp only [Cont.at]
        rw [if_pos (Nat.lt_of_lt_of_le hk (Nat.mul_le_mul_right _ hnm)), ← hget k hk]; exact hv
      refine ⟨get, n, h, fun q hq => (hrow q hq).1, src_slice hs hd hsl (by simp only [Cont.virt]; rintro ⟨rfl, _⟩; omega) hlen ?_ fun k v hv => ⟨v, hat k v hv, rfl⟩, okl _ ?_ ?_⟩
      · rw [List.all_eq_true]
        intro v hv
        obtain ⟨q, hq, hv⟩ := List.mem_flatMap.1 hv
        exact List.all_eq_true.1 (hrow q (List.mem_range.1 hq)).2 v hv
      · intro v hv
        obtain ⟨k, hk⟩ := List.getElem?_of_mem hv
        exact ⟨0 + k, hat k v hk⟩
      · rintro ⟨h1, _⟩
        apply List.eq_nil_of_length_eq_zero
        rw [hlen, show n = 0 by omega, Nat.zero_mul]
    · rename_i cs
      replace h := condT_sound h
      obtain ⟨hb, hle, hone, h⟩ := h
      have e1 : sz = 1 := Nat.eq_of_beq_eq_true hb
      subst e1
      have hrow : ∀ q, q < n → ((cs[off + q]?).toList).length = 1 := fun q hq => by
        rw [List.getElem?_eq_getElem (by omega)]; rfl
      have hlen := flatR_length (n := n) hrow
      have hget := flatR_get hpos (n := n) hrow
      have hat : ∀ k v, (flatR (fun q => (cs[off + q]?).toList) n)[k]? = some v → cs[off + k]? = some v ∧ k < n := by
        intro k v hv
        have hk : k < n * 1 := by have := (List.getElem?_eq_some_iff.1 hv).1; rw [hlen] at this; exact this
        have hkc : off + k < cs.length := by omega
        rw [hget k hk] at hv
        simp only [Nat.div_one, Nat.mod_one] at hv
        rw [List.getElem?_eq_getElem hkc] at hv ⊢
        exact ⟨by simpa using hv, by omega⟩
      refine ⟨_, n, h, hrow, src_slice hs hd hsl (fun hv => hv.elim) hlen ?_ fun k v hv => ⟨v, (hat k v hv).1, rfl⟩, okl _ ?_ (fun hv => hv.elim)⟩
      · rw [List.all_eq_true]
        intro v hv
        obtain ⟨k, hk⟩ := List.getElem?_of_mem hv
        obtain ⟨h1, h2⟩ := hat k v hk
        refine List.all_eq_true.1 hone v (List.mem_of_getElem? (i := k) ?_)
        simp only [List.getElem?_take, List.getElem?_drop, if_pos h2]; exact h1
      · intro v hv
        obtain ⟨k, hk⟩ := List.getElem?_of_mem hv
        exact ⟨off + k, (hat k v hk).1⟩
    · exact h.elim
  · exact h.elim
end

def roomB : Nat := 140737488355328

/-- append. -/
def appendA (T : List TI) (M : AH) (tS tX : Nat) (d x : AV) (K : AV → AH → Prop) : Prop :=
  match T[tS]?, T[tX]? with
  | some ⟨.slice el, _, _, _⟩, some tx => match T[el]? with
    | some te => condT (srcKind x tx.k && Nat.blt 0 te.size && Nat.beq te.zero.length te.size) (match d with
      | .ns => match te.size, te.k with
        | 1, .int k => srcInts M k x fun ys m => (m ≤ 9223372036854775807 ∧ m * te.bytes ≤ 140737488355328) ∧ ∀ c, m ≤ c → K (.sl M.length 0 0 m c) (M ++ [.one true 0 (.ints k ys c)])
        | 1, .bool => srcBools M x fun ys m => (m ≤ 9223372036854775807 ∧ m * te.bytes ≤ 140737488355328) ∧ ∀ c, m ≤ c → K (.sl M.length 0 0 m c) (M ++ [.one true 0 (.bools ys c)])
        | s, _ => srcTab M s x fun get m => (m ≤ 9223372036854775807 ∧ m * te.bytes ≤ 140737488355328) ∧ ∃ get', (∀ q, q < m → get' q = get q) ∧ ∀ c, m ≤ c → K (.sl M.length 0 0 m c) (M ++ [.one true 0 (.tab s m get' c)])
      | .sl i g off n c => match M[i]? with
        | some (.one true g' (.ints k xs co)) => match te.size, te.k with
          | 1, .int k' => (g = g' ∧ off = 0 ∧ n = xs.length ∧ c ≤ co ∧ n ≤ co) ∧ sameK k k' (srcInts M k x fun ys m => (n + m ≤ 9223372036854775807 ∧ (n + m) * te.bytes ≤ 140737488355328) ∧ ∀ c, n + m ≤ c → K (.sl i (g + 1) 0 (n + m) c) (M.set i (.one true (g + 1) (.ints k (xs ++ ys) c))))
          | _, _ => False
        | some (.one true g' (.bools xs co)) => match te.size, te.k with
          | 1, .bool => (g = g' ∧ off = 0 ∧ n = xs.length ∧ c ≤ co ∧ n ≤ co) ∧ srcBools M x fun ys m => (n + m ≤ 9223372036854775807 ∧ (n + m) * te.bytes ≤ 140737488355328) ∧ ∀ c, n + m ≤ c → K (.sl i (g + 1) 0 (n + m) c) (M.set i (.one true (g + 1) (.bools (xs ++ ys) c)))
          | _, _ => False
        | some (.one true g' (.tab sz m0 get co)) => condT (Nat.beq te.size sz) ((g = g' ∧ off = 0 ∧ n = m0 ∧ c ≤ co ∧ n ≤ co) ∧ srcTab M te.size x fun src m => (n + m ≤ 9223372036854775807 ∧ (n + m) * te.bytes ≤ 140737488355328) ∧
            ∃ get', (∀ q, q < n + m → get' q = if q < n then get q else src (q - n)) ∧ ∀ c, n + m ≤ c → K (.sl i (g + 1) 0 (n + m) c) (M.set i (.one true (g + 1) (.tab te.size (n + m) get' c))))
        | some (.fam true m1 f) => condT (Nat.beq m1 1) (match f 0 with
          | .ints k xs co => match te.size, te.k with
            | 1, .int k' => (g = 0 ∧ off = 0 ∧ n = xs.length ∧ c ≤ co ∧ n ≤ co) ∧ sameK k k' (srcInts M k x fun ys m => (n + m ≤ 9223372036854775807 ∧ (n + m) * te.bytes ≤ 140737488355328) ∧
                (n + m ≤ c → K (.sl i 0 0 (n + m) c) (M.set i (.fam true 1 (fun _ => .ints k (xs ++ ys) co)))) ∧ (c < n + m → ∀ c', n + m ≤ c' → K (.sl M.length 0 0 (n + m) c') (M ++ [.one true 0 (.ints k (xs ++ ys) c')])))
            | _, _ => False
          | _ => False)
        | _ => False
      | _ => False)
    | none => False
  | _, _ => False

theorem ints_at {ρ : Env} {k : IntKind} {xs : List Int} {c j : Nat} {v : AV} (h : (Cont.ints k xs c).at j = some v) : v.ok ρ ∧ (xs.map (Value.int k))[j]? = some (v.c ρ) := by
  simp only [Cont.at, Option.map_eq_some_iff] at h
  obtain ⟨z, hz, rfl⟩ := h
  exact ⟨trivial, by rw [List.getElem?_map, hz]; rfl⟩
theorem bools_at {ρ : Env} {xs : List Bool} {c j : Nat} {v : AV} (h : (Cont.bools xs c).at j = some v) : v.ok ρ ∧ (xs.map Value.bool)[j]? = some (v.c ρ) := by
  simp only [Cont.at, Option.map_eq_some_iff] at h
  obtain ⟨z, hz, rfl⟩ := h
  exact ⟨trivial, by rw [List.getElem?_map, hz]; rfl⟩

theorem app_at {k : Nat} {α : Type} {f : α → AV} {g : α → Value} {ρ : Env} (hf : ∀ a, (f a).c ρ = g a) (hok : ∀ a, (f a).ok ρ) {xs ys : List α} {v : AV} (h : ((xs ++ ys)[k]?).map f = some v) :
    (k < xs.length * 1 ∧ (xs[k]?).map f = some v) ∨ (xs.length * 1 ≤ k ∧ v.ok ρ ∧ (ys.map g)[k - xs.length * 1]? = some (v.c ρ)) := by
  rw [Option.map_eq_some_iff] at h
  obtain ⟨z, hz, rfl⟩ := h
  by_cases hk : k < xs.length
  · rw [List.getElem?_append_left hk] at hz
    exact .inl ⟨by omega, by rw [hz]; rfl⟩
  · rw [List.getElem?_append_right (by omega)] at hz
    exact .inr ⟨by omega, hok z, by rw [List.getElem?_map, show k - xs.length * 1 = k - xs.length from by omega, hz, Option.map_some, hf]⟩

set_option maxHeartbeats 1000000 in
theorem appendA_sound {P : Program} {T : List TI} (hT : TabOK P T) {M : AH} {tS tX ty : Nat} {d x : AV} {K : AV → AH → Prop} {ρ : Env} {w : World} (hs : Sim ρ M w) (hd : d.ok ρ)
    (h : appendA T M tS tX d x K) : ∃ v M' ρ' w', (Builtin.append_ #[tS, tX] ty #[d.c ρ, x.c ρ]).run P w = .ok (v.c ρ') w' ∧ K v M' ∧ v.ok ρ' ∧ Sim ρ' M' w' ∧ Ext ρ M w ρ' M' w' := by
  unfold appendA at h
  split at h
  · rename_i el s1 s2 s3 tx ht htx
    obtain ⟨dS, hdS, hkS⟩ := hT.und ht
    obtain rfl := tkOf_slice hkS
    obtain ⟨dX, hdX, hkX⟩ := hT.und htx
    split at h
    · rename_i te hte
      replace h := condT_sound h
      obtain ⟨hb, h⟩ := h
      simp only [Bool.and_eq_true] at hb
      obtain ⟨⟨hkx, hpos⟩, hzl⟩ := hb
      have hpos : 0 < te.size := by simpa using hpos
      obtain ⟨d2, ie, z, e1, e2, e3, rfl⟩ := hT.get hte
      simp only at hpos hzl h
      have hzs : z.cells.size = ie.size := by simpa using Nat.eq_of_beq_eq_true hzl
      have slx : (∀ s, x ≠ .str s) → ∃ e', P.underlying tX = some (.slice e') := by
        intro hx
        obtain ⟨e', he⟩ := srcKind_slice hkx hx
        rw [he] at hkX
        obtain rfl := tkOf_slice hkX
        exact ⟨e', hdX⟩
      split at h
      · -- nil
        have dns : (AV.ns).c ρ = .slice none 0 0 := rfl
        rw [dns]
        split at h
        · rename_i k h1 h2
          obtain ⟨ys, m, hlen, ⟨⟨b1, b2⟩, hK⟩, hsrc⟩ := srcInts_sound hT hs htx hkx h
          rw [← h1] at hsrc
          obtain ⟨c, hc, ρ', w', r1, r2, r3, r4⟩ := append_new (ty := ty) hs hdS e2 e3 hzs hsrc b2 (by omega) (fun c => .ints k ys c) (fun c => by simp [Cont.size, h1]) (fun c j v hv => ints_at hv) (fun hm => ⟨List.eq_nil_of_length_eq_zero (by omega), rfl⟩)
          exact ⟨_, _, ρ', w', r1, hK c hc, r2, r3, r4⟩
        · rename_i h1 h2
          have hx : ∀ s, x ≠ .str s := by rintro s rfl; exact h.elim
          obtain ⟨e', hdx⟩ := slx hx
          obtain ⟨ys, m, hlen, ⟨⟨b1, b2⟩, hK⟩, hsrc⟩ := srcBools_sound hT hs hdx h
          rw [← h1] at hsrc
          obtain ⟨c, hc, ρ', w', r1, r2, r3, r4⟩ := append_new (ty := ty) hs hdS e2 e3 hzs hsrc b2 (by omega) (fun c => .bools ys c) (fun c => by simp [Cont.size, h1]) (fun c j v hv => bools_at hv) (fun hm => ⟨List.eq_nil_of_length_eq_zero (by omega), rfl⟩)
          exact ⟨_, _, ρ', w', r1, hK c hc, r2, r3, r4⟩
        · have hx : ∀ s, x ≠ .str s := by rintro s rfl; exact h.elim
          obtain ⟨e', hdx⟩ := slx hx
          obtain ⟨get, m, ⟨⟨b1, b2⟩, get', hg, hK⟩, hrow, hsrc, hokr⟩ := srcTab_sound hT hs hpos hdx h
          obtain ⟨c, hc, ρ', w', r1, r2, r3, r4⟩ := append_new (ty := ty) hs hdS e2 e3 hzs hsrc b2 (by omega) (fun c => .tab ie.size m get' c) (fun c => rfl) (fun c j v hv => by
            simp only [Cont.at] at hv
            split at hv
            · rename_i hj
              have hq : j / ie.size < m := (Nat.div_lt_iff_lt_mul hpos).2 hj
              rw [hg _ hq, ← flatR_get hpos hrow j hj] at hv
              exact ⟨(AV.okl_iff ρ _).1 hokr v (List.mem_of_getElem? hv), by rw [AV.cl_eq, List.getElem?_map, hv]; rfl⟩
            · cases hv) (fun hm => ⟨hm, rfl⟩)
          exact ⟨_, _, ρ', w', r1, hK c hc, r2, r3, r4⟩
      · rename_i i g off n c
        split at h
        · rename_i g' k xs co hm
          split at h
          · rename_i k' h1 h2
            obtain ⟨⟨rfl, rfl, rfl, hco, hn⟩, h⟩ := h
            replace h := sameK_sound h
            obtain ⟨rfl, h⟩ := h
            obtain ⟨ys, m, hlen, ⟨⟨b1, b2⟩, hK⟩, hsrc⟩ := srcInts_sound hT hs htx hkx h
            rw [← h1] at hsrc
            obtain ⟨c', hc, ρ', w', r1, r2, r3, r4⟩ := append_own (ty := ty) hs hdS e2 e3 hzs hsrc hm (by simp [Cont.size, h1]) hn hco (fun hv => hv.2) b2 (by omega) (fun c => .ints k (xs ++ ys) c) (fun c => by simp [Cont.size, h1])
              (fun c j v hv => by rw [h1]; exact app_at (f := AV.int k) (g := Value.int k) (fun _ => rfl) (fun _ => trivial) hv) (fun a b => ⟨by rw [List.eq_nil_of_length_eq_zero a, List.eq_nil_of_length_eq_zero (hlen.trans b)]; rfl, rfl⟩) hd
            exact ⟨_, _, ρ', w', r1, hK c' hc, r2, r3, r4⟩
          · exact h.elim
        · rename_i g' xs co hm
          split at h
          · rename_i h1 h2
            obtain ⟨⟨rfl, rfl, rfl, hco, hn⟩, h⟩ := h
            have hx : ∀ s, x ≠ .str s := by rintro s rfl; exact h.elim
            obtain ⟨e', hdx⟩ := slx hx
            obtain ⟨ys, m, hlen, ⟨⟨b1, b2⟩, hK⟩, hsrc⟩ := srcBools_sound hT hs hdx h
            rw [← h1] at hsrc
            obtain ⟨c', hc, ρ', w', r1, r2, r3, r4⟩ := append_own (ty := ty) hs hdS e2 e3 hzs hsrc hm (by simp [Cont.size, h1]) hn hco (fun hv => hv.2) b2 (by omega) (fun c => .bools (xs ++ ys) c) (fun c => by simp [Cont.size, h1])
              (fun c j v hv => by rw [h1]; exact app_at (f := AV.bo) (g := Value.bool) (fun _ => rfl) (fun _ => trivial) hv) (fun a b => ⟨by rw [List.eq_nil_of_length_eq_zero a, List.eq_nil_of_length_eq_zero (hlen.trans b)]; rfl, rfl⟩) hd
            exact ⟨_, _, ρ', w', r1, hK c' hc, r2, r3, r4⟩
          · exact h.elim
        · rename_i g' sz m0 get co hm
          replace h := condT_sound h
          obtain ⟨hb, ⟨rfl, rfl, rfl, hco, hn⟩, h⟩ := h
          have e5 : ie.size = sz := Nat.eq_of_beq_eq_true hb
          subst e5
          have hx : ∀ s, x ≠ .str s := by rintro s rfl; exact h.elim
          obtain ⟨e', hdx⟩ := slx hx
          obtain ⟨src, m, ⟨⟨b1, b2⟩, get', hg, hK⟩, hrow, hsrc, hokr⟩ := srcTab_sound hT hs hpos hdx h
          obtain ⟨c', hc, ρ', w', r1, r2, r3, r4⟩ := append_own (ty := ty) hs hdS e2 e3 hzs hsrc hm rfl hn hco (fun hv => hv.2) b2 (by omega) (fun c => .tab ie.size (n + m) get' c) (fun c => rfl)
              (fun c j v hv => by
                simp only [Cont.at] at hv
                split at hv
                · rename_i hj
                  have hq : j / ie.size < n + m := (Nat.div_lt_iff_lt_mul hpos).2 hj
                  rw [hg _ hq] at hv
                  by_cases hjn : j < n * ie.size
                  · refine .inl ⟨hjn, ?_⟩
                    rw [if_pos ((Nat.div_lt_iff_lt_mul hpos).2 hjn)] at hv
                    simp only [Cont.at, if_pos hjn]; exact hv
                  · have hle : n * ie.size ≤ j := by omega
                    have h1 : n ≤ j / ie.size := (Nat.le_div_iff_mul_le hpos).2 hle
                    rw [if_neg (by omega)] at hv
                    have hd : (j - n * ie.size) / ie.size = j / ie.size - n := by rw [Nat.mul_comm n]; exact Nat.sub_mul_div ..
                    have hmod : (j - n * ie.size) % ie.size = j % ie.size := by rw [Nat.mul_comm n]; exact Nat.sub_mul_mod (by rw [Nat.mul_comm]; exact hle)
                    have hjm : j - n * ie.size < m * ie.size := by rw [Nat.add_mul] at hj; omega
                    rw [← hd, ← hmod, ← flatR_get hpos hrow _ hjm] at hv
                    exact .inr ⟨hle, (AV.okl_iff ρ _).1 hokr v (List.mem_of_getElem? hv), by rw [AV.cl_eq, List.getElem?_map, hv]; rfl⟩
                · cases hv) (fun a b => ⟨by omega, rfl⟩) hd
          exact ⟨_, _, ρ', w', r1, hK c' hc, r2, r3, r4⟩
        · rename_i m1 f hm
          replace h := condT_sound h
          obtain ⟨hb1, h⟩ := h
          obtain rfl : m1 = 1 := Nat.eq_of_beq_eq_true hb1
          split at h
          · rename_i k xs co hf
            split at h
            · rename_i k' h1 h2
              obtain ⟨⟨rfl, rfl, rfl, hco, hn⟩, h⟩ := h
              replace h := sameK_sound h
              obtain ⟨rfl, h⟩ := h
              obtain ⟨ys, m, hlen, ⟨⟨b1, b2⟩, hK1, hK2⟩, hsrc⟩ := srcInts_sound hT hs htx hkx h
              rw [← h1] at hsrc
              rcases append_keep (ty := ty) hs hdS e2 e3 hzs hsrc hm (by rw [hf]; simp [Cont.size, h1]) hn hco (fun hv => by rw [hf] at hv; exact hv.2) b2 (by omega) (fun c => .ints k (xs ++ ys) c) (fun c => by simp [Cont.size, h1])
                (fun c j v hv => by rw [h1, hf]; exact app_at (f := AV.int k) (g := Value.int k) (fun _ => rfl) (fun _ => trivial) hv) (fun a b => ⟨by rw [List.eq_nil_of_length_eq_zero a, List.eq_nil_of_length_eq_zero (hlen.trans b)]; rfl, rfl⟩) (fun _ => rfl) (by rw [hf]; rfl) with ⟨hc, w', r1, r3, r4⟩ | ⟨hc, c', hc', ρ', w', r1, r2, r3, r4⟩
              · exact ⟨_, _, ρ, w', r1, hK1 hc, hd, r3, r4⟩
              · exact ⟨_, _, ρ', w', r1, hK2 hc c' hc', r2, r3, r4⟩
            · exact h.elim
          · exact h.elim
        · exact h.elim
      · exact h.elim
    · exact h.elim
  · exact h.elim

end Go.Proofs.Yteinenklppbjkaa

set_option linter.unusedVariables false
set_option linter.unusedSimpArgs false
open Go.RowKit
namespace Go.Proofs.Yteinenklppbjkaa

/-- The string of bytes that are given as numbers. -/
def bytesStr (ns : List Int) : ByteArray := ns.foldl (fun r n => r.push (UInt8.ofNat n.toNat)) ByteArray.empty

/-- string(bs). -/
def strOfA (T : List TI) (M : AH) (src dst : Nat) (x : AV) (K : AV → Prop) : Prop :=
  match T[src]?, T[dst]? with
  | some ⟨.slice e, _, _, _⟩, some ⟨.str, _, _, _⟩ => match T[e]? with
    | some ⟨.int .u8, _, _, _⟩ => match x with
      | .ns => K (.str ByteArray.empty)
      | .sl i g off n c => slotA M i g fun _ y => match y with
        | .ints k xs _ => sameK .u8 k (off + n ≤ xs.length ∧ ∀ ys, ys = (xs.drop off).take n → K (.str (bytesStr ys)))
        | _ => False
      | _ => False
    | _ => False
  | _, _ => False

theorem strOfA_sound {P : Program} {T : List TI} (hT : TabOK P T) {M : AH} {src dst : Nat} {x : AV} {K : AV → Prop} {ρ : Env} (hk : Known ρ M) (h : strOfA T M src dst x K) :
    ∃ v, K v ∧ v.ok ρ ∧ x.ok ρ ∧ ∀ w, HoldsId ρ M x.id w → (convert src dst (x.c ρ)).run P w = .ok (v.c ρ) w := by
  unfold strOfA at h
  split at h
  · rename_i e _ _ _ _ _ _ h1 h2
    split at h
    · rename_i _ _ _ h3
      obtain ⟨d1, hd1, k1⟩ := hT.und h1
      obtain ⟨d2, hd2, k2⟩ := hT.und h2
      obtain ⟨d3, hd3, k3⟩ := hT.und h3
      obtain rfl := tkOf_slice k1
      obtain rfl := tkOf_str k2
      obtain rfl := tkOf_int k3
      split at h
      · exact ⟨_, h, trivial, trivial, fun w _ => by
          simp only [AV.c]
          rw [run_convert_bytes_string w src dst e none 0 0 hd1 hd3 hd2]
          rfl⟩
      · rename_i i g off n c
        obtain ⟨own, y, hsl, h⟩ := slotA_sound h
        split at h
        · rename_i k xs co
          obtain ⟨rfl, hle, h⟩ := sameK_sound h
          have hlen : ((xs.drop off).take n).length = n := by simp; omega
          refine ⟨_, h _ rfl, trivial, ?_, fun w hw => ?_⟩
          · rcases hk i g own _ hsl with ⟨q, hq⟩ | ⟨hq, _⟩ <;> simp [AV.ok, hq]
          · rcases hk i g own _ hsl with ⟨q, hq⟩ | ⟨hq, hv⟩
            · have hh := hw g own _ q hsl hq
              have : (AV.sl i g off n c).c ρ = .slice (some ⟨q.1, q.2 + off, none⟩) n c := by simp [AV.c, hq]
              rw [this, run_convert_bytes_string w src dst e _ n c hd1 hd3 hd2]
              refine run_bytesToString w _ n c _ ?_
              have hl := run_loadCells_list (P := P) w ⟨q.1, q.2 + off, none⟩ (((xs.drop off).take n).map (Value.int .u8)) fun j v hv => by
                rw [List.getElem?_map, Option.map_eq_some_iff] at hv
                obtain ⟨z, hz, rfl⟩ := hv
                simp only [List.getElem?_take, List.getElem?_drop] at hz
                split at hz
                · have := (hh.cell (k := off + j) (v := .int .u8 z) (by simp only [Cont.at, hz]; rfl)).2
                  rw [add_addr, Nat.add_assoc]
                  exact this
                · cases hz
              rw [List.length_map, hlen] at hl
              exact hl
            · have h0 : n = 0 := by
                simp only [Cont.virt] at hv
                obtain ⟨rfl, _⟩ := hv
                simp at hle
                omega
              subst h0
              have : (AV.sl i g off 0 c).c ρ = .slice none 0 c := by simp [AV.c, hq]
              rw [this, run_convert_bytes_string w src dst e none 0 c hd1 hd3 hd2]
              simp [AV.c, bytesStr, Conv.bytesToString]
        · exact h.elim
      · exact h.elim
    · exact h.elim
  · exact h.elim

end Go.Proofs.Yteinenklppbjkaa

set_option linter.unusedVariables false
set_option linter.unusedSimpArgs false
open Go.RowKit
namespace Go.Proofs.Yteinenklppbjkaa

/-- A new object behind all others that is only read. -/
theorem sim_newR {ρ : Env} {M : AH} {w w' : World} {x : Cont} {b base : Nat} (h : Sim ρ M w)
    (hw : ∀ b, b < w.heap.size → w'.heap[b]? = w.heap[b]?) (hsz : w.heap.size ≤ w'.heap.size) (hos : w'.os = w.os) (htape : w'.tape = w.tape) (hout : w'.output = w.output)
    (hb : w.heap.size ≤ b) (hx : Holds (upE ρ M.length 0 (some (b, base))) false x b base w') :
    Sim (upE ρ M.length 0 (some (b, base))) (M ++ [.one false 0 x]) w' ∧ Ext ρ M w (upE ρ M.length 0 (some (b, base))) (M ++ [.one false 0 x]) w' := by
  have hun : ∀ g, (ρ M.length g).isSome = false := fun g => by
    cases hh : (ρ M.length g).isSome with
    | false => rfl
    | true => exact absurd (h.dom _ _ hh) (Nat.lt_irrefl _)
  have hext := upE_ext (l := some (b, base)) (hun 0)
  have hs1 : ∀ j g, j < M.length → slot (M ++ [AO.one false 0 x]) j g = slot M j g := by
    intro j g hj; unfold slot; rw [List.getElem?_append_left hj]
  have hs2 : ∀ g own y, slot (M ++ [AO.one false 0 x]) M.length g = some (own, y) → g = 0 ∧ own = false ∧ y = x := by
    intro g own y hs
    unfold slot at hs
    rw [List.getElem?_append_right (Nat.le_refl _), Nat.sub_self] at hs
    simp only [List.getElem?_cons_zero, slotO] at hs
    split at hs
    · injection hs with hs; injection hs with a b; exact ⟨‹_›, a.symm, b.symm⟩
    · cases hs
  have hlt : ∀ {j g own y}, slot (M ++ [AO.one false 0 x]) j g = some (own, y) → j < M.length ∨ j = M.length := by
    intro j g own y hs
    unfold slot at hs
    cases ho : (M ++ [AO.one false 0 x])[j]? with
    | none => rw [ho] at hs; cases hs
    | some o =>
      have := (List.getElem?_eq_some_iff.1 ho).1
      simp at this
      omega
  have hget : ∀ {j g : Nat}, j < M.length → upE ρ M.length 0 (some (b, base)) j g = ρ j g := by
    intro j g hj; unfold upE; rw [if_neg (by omega)]
  have hold : ∀ {j g own y q}, slot M j g = some (own, y) → ρ j g = some (some q) → Holds ρ own y q.1 q.2 w := by
    intro j g own y q hs hq
    rcases h.holds j g own y hs with ⟨q', e1, e2⟩ | ⟨e1, _⟩
    · rw [hq] at e1; injection e1 with e1; injection e1 with e1; subst e1; exact e2
    · rw [hq] at e1; cases e1
  refine ⟨⟨?_, ?_, ?_, ?_, ?_⟩, ⟨hext, hsz, fun b hb _ => hw b hb, ?_, hos, htape, hout⟩⟩
  · intro j g hj
    rcases upE_back j g hj with h1 | ⟨rfl, _⟩
    · have := h.dom j g h1; simp; omega
    · simp
  · intro j g own g' y hm hj
    by_cases hjl : j < M.length
    · rw [List.getElem?_append_left hjl] at hm
      rw [hget hjl] at hj
      exact h.tag j g own g' y hm hj
    · rcases upE_back j g hj with h1 | ⟨rfl, rfl⟩
      · exact absurd (h.dom j g h1) hjl
      · exact Nat.zero_le _
  · intro j g own m y hm hj
    by_cases hjl : j < M.length
    · rw [List.getElem?_append_left hjl] at hm
      rw [hget hjl] at hj
      exact h.fam j g own m y hm hj
    · rcases upE_back j g hj with h1 | ⟨rfl, rfl⟩
      · exact absurd (h.dom j g h1) hjl
      · rw [List.getElem?_append_right (Nat.le_refl _), Nat.sub_self] at hm; cases hm
  · intro j g own y hs
    rcases hlt hs with hj | rfl
    · rw [hs1 j g hj] at hs
      rw [hget hj]
      rcases h.holds j g own y hs with ⟨q, h1, h2⟩ | h1
      · exact .inl ⟨q, h1, h2.ext hext (hw _ h2.lt)⟩
      · exact .inr h1
    · obtain ⟨rfl, rfl, rfl⟩ := hs2 _ _ _ hs
      exact .inl ⟨(b, base), upE_same _ _ _ _, hx⟩
  · intro j g y j' g' own' y' q q' h1 h2 e1 e2 he
    rcases hlt h1 with hj | rfl
    · rw [hs1 j g hj] at h1
      rw [hget hj] at e1
      have l1 := (hold h1 e1).lt
      rcases hlt h2 with hj' | rfl
      · rw [hs1 j' g' hj'] at h2
        rw [hget hj'] at e2
        exact h.apart j g y j' g' own' y' q q' h1 h2 e1 e2 he
      · obtain ⟨rfl, rfl, rfl⟩ := hs2 _ _ _ h2
        rw [upE_same] at e2
        injection e2 with e2; injection e2 with e2; subst e2
        simp only at he
        omega
    · obtain ⟨_, e, _⟩ := hs2 _ _ _ h1
      cases e
  · intro j g y q hs hq hbq
    rcases hlt hs with hj | rfl
    · rw [hs1 j g hj] at hs
      rw [hget hj] at hq
      exact ⟨j, g, y, q, hs, hq, rfl⟩
    · obtain ⟨_, e, _⟩ := hs2 _ _ _ hs
      cases e

/-- Are these the types of []byte(s)? -/
def isBytesT (T : List TI) (src dst : Nat) : Bool :=
  match T[src]?, T[dst]? with
  | some ⟨.str, _, _, _⟩, some ⟨.slice _, _, _, _⟩ => true
  | _, _ => false
/-- A string's bytes as numbers. -/
def strInts (s : ByteArray) : List Int := s.data.toList.map fun b => (b.toNat : Int)
/-- []byte(s). -/
def bytesA (T : List TI) (M : AH) (src dst : Nat) (s : ByteArray) (K : AV → AH → Prop) : Prop :=
  match T[src]?, T[dst]? with
  | some ⟨.str, _, _, _⟩, some ⟨.slice e, _, _, _⟩ => match T[e]? with
    | some ⟨.int .u8, _, _, _⟩ => ∀ c, s.size ≤ c → K (.sl M.length 0 0 s.size c) (M ++ [.one false 0 (.ints .u8 (strInts s) c)])
    | _ => False
  | _, _ => False
theorem bytesA_sound {P : Program} {T : List TI} (hT : TabOK P T) {M : AH} {src dst : Nat} {s : ByteArray} {K : AV → AH → Prop} {ρ : Env} {w : World} (hs : Sim ρ M w) (h : bytesA T M src dst s K) :
    ∃ v M' ρ' w', (convert src dst (.string s)).run P w = .ok (v.c ρ') w' ∧ K v M' ∧ v.ok ρ' ∧ Sim ρ' M' w' ∧ Ext ρ M w ρ' M' w' := by
  unfold bytesA at h
  split at h
  · rename_i _ _ _ e _ _ _ h1 h2
    split at h
    · rename_i h3
      obtain ⟨d1, hd1, k1⟩ := hT.und h1
      obtain ⟨d2, hd2, k2⟩ := hT.und h2
      obtain ⟨d3, hd3, k3⟩ := hT.und h3
      obtain rfl := tkOf_str k1
      obtain rfl := tkOf_slice k2
      obtain rfl := tkOf_int k3
      have hrun := run_bytes_of_string (P := P) w src dst _ s hd1 hd2 hd3
      generalize hc : grownCap w s.size 0 e = c at hrun
      have hge : s.size ≤ c := by rw [← hc]; exact grownCap_ge w s.size 0 e
      have hsize : (bytesRow s c).size = s.size + (c - s.size) := by simp [bytesRow]
      obtain ⟨g1, g2⟩ := sim_newR (x := .ints .u8 (strInts s) c) (b := w.heap.size) (base := 0) (w' := w.drew.alloc (.cells (bytesRow s c) e ((bytesRow s c).size, (bytesRow s c).size + 1))) hs
        (fun b hb => Below.heap_alloc w.drew _ b hb) (by simp) rfl rfl rfl (Nat.le_refl _) (.mk' rfl ⟨_, _, _, heap_alloc_new w.drew _, by rw [hsize]; simp [Cont.size]; omega, fun k v hv => by
          simp only [Cont.at, strInts, Option.map_eq_some_iff, List.getElem?_map] at hv
          obtain ⟨z, ⟨y, hy, rfl⟩, rfl⟩ := hv
          have hk := (List.getElem?_eq_some_iff.1 hy).1
          rw [Array.length_toList] at hk
          refine ⟨trivial, ?_⟩
          rw [Nat.zero_add, bytesRow_at s c k hk]
          rw [Array.getElem?_toList, Array.getElem?_eq_getElem hk] at hy
          injection hy with hy
          rw [hy]; rfl, fun h => by cases h⟩)
      exact ⟨_, _, _, _, by rw [hrun]; simp [AV.c, upE_same], h c hge, by simp [AV.ok, upE_same], g1, g2⟩
    · exact h.elim
  · exact h.elim

/-! []byte(s) of a constant: the literal's row, turned to its own type: it may not be written then. -/
theorem sim_frozen {ρ : Env} {M : AH} {w w' : World} {i g : Nat} {x : Cont} {q : Nat × Nat} (h : Sim ρ M w) (hm : M[i]? = some (.one true g x)) (hxr : x.row = true) (hq : ρ i g = some (some q))
    (hother : ∀ b, b ≠ q.1 → w'.heap[b]? = w.heap[b]?) (hself : ∀ c e fr, w.heap[q.1]? = some (.cells c e fr) → ∃ fr', w'.heap[q.1]? = some (.cells c e fr')) (hsz : w.heap.size ≤ w'.heap.size) (hos : w'.os = w.os) (htape : w'.tape = w.tape) (hout : w'.output = w.output) :
    Sim ρ (M.set i (.one false g x)) w' ∧ Ext ρ M w ρ (M.set i (.one false g x)) w' := by
  have hlt : i < M.length := (List.getElem?_eq_some_iff.1 hm).1
  have hs0 : ∀ g' own y, slot (M.set i (.one false g x)) i g' = some (own, y) → g' = g ∧ own = false ∧ y = x := by
    intro g' own y hs
    unfold slot at hs
    rw [List.getElem?_set_self hlt] at hs
    simp only [slotO] at hs
    split at hs
    · injection hs with hs; injection hs with a b; exact ⟨‹_›, a.symm, b.symm⟩
    · cases hs
  have hs1 : ∀ j g', j ≠ i → slot (M.set i (.one false g x)) j g' = slot M j g' := by
    intro j g' hj; unfold slot; rw [List.getElem?_set_ne (Ne.symm hj)]
  have hown : ∀ j g' y, slot (M.set i (.one false g x)) j g' = some (true, y) → j ≠ i ∧ slot M j g' = some (true, y) := by
    intro j g' y hs
    by_cases hj : j = i
    · subst hj; obtain ⟨_, e, _⟩ := hs0 _ _ _ hs; cases e
    · rw [hs1 j g' hj] at hs; exact ⟨hj, hs⟩
  refine ⟨⟨fun j g' hj => by rw [List.length_set]; exact h.dom j g' hj, ?_, ?_, ?_, ?_⟩, ⟨fun _ _ _ e => e, hsz, ?_, ?_, hos, htape, hout⟩⟩
  · intro j g' own g1 y hj hh
    by_cases hji : j = i
    · subst hji
      rw [List.getElem?_set_self hlt] at hj
      injection hj with hj; injection hj with _ e2 _; subst e2
      exact h.tag j g' true g x hm hh
    · rw [List.getElem?_set_ne (Ne.symm hji)] at hj; exact h.tag j g' own g1 y hj hh
  · intro j g' own m y hj hh
    by_cases hji : j = i
    · subst hji; rw [List.getElem?_set_self hlt] at hj; cases hj
    · rw [List.getElem?_set_ne (Ne.symm hji)] at hj; exact h.fam j g' own m y hj hh
  · intro j g' own y hs
    by_cases hji : j = i
    · subst hji
      obtain ⟨rfl, rfl, rfl⟩ := hs0 _ _ _ hs
      left
      rcases h.holds j g' true y (slot_one hm) with ⟨q', e1, e2⟩ | ⟨e1, _⟩
      · rw [hq] at e1; injection e1 with e1; injection e1 with e1; subst e1
        obtain ⟨c, e, fr, k1, k2, k3, k4⟩ := e2.out hxr
        obtain ⟨fr', k5⟩ := hself c e fr k1
        exact ⟨q, hq, .mk' hxr ⟨c, e, fr', k5, k2, k3, fun h => by cases h⟩⟩
      · rw [hq] at e1; cases e1
    · rw [hs1 j g' hji] at hs
      rcases h.holds j g' own y hs with ⟨q', e1, e2⟩ | e1
      · refine .inl ⟨q', e1, e2.ext (fun _ _ _ e => e) (hother _ fun e => hji ?_)⟩
        exact (h.apart i g x j g' own y q q' (slot_one hm) hs hq e1 e.symm).1.symm
      · exact .inr e1
  · intro j g1 y j' g2 own' y' q1 q2 h1 h2 e1 e2 he
    obtain ⟨hj, k1⟩ := hown _ _ _ h1
    by_cases hj' : j' = i
    · subst hj'
      obtain ⟨rfl, rfl, rfl⟩ := hs0 _ _ _ h2
      exact h.apart j g1 y j' g2 true y' q1 q2 k1 (slot_one hm) e1 e2 he
    · rw [hs1 j' g2 hj'] at h2
      exact h.apart j g1 y j' g2 own' y' q1 q2 k1 h2 e1 e2 he
  · intro b hb hn
    exact hother b fun e => hn i g x q (slot_one hm) hq e.symm
  · intro j g1 y q1 hs hq1 hb
    obtain ⟨_, hs⟩ := hown _ _ _ hs
    exact ⟨j, g1, y, q1, hs, hq1, rfl⟩
theorem run_convert_same {P : Program} {w : World} {t e e' : TypeId} {b off n c : Nat} {cur : Array Value} {fr : Nat × Nat} (ht : P.underlying t = some (.slice e)) (he : P.underlying e = some (.int .u8)) (hb : w.heap[b]? = some (.cells cur e' fr)) :
    (convert t t (.slice (some ⟨b, off, none⟩) n c)).run P w = .ok (.slice (some ⟨b, off, none⟩) n c) (w.freeze ⟨b, cur.size, none⟩ 1) := by
  have hsh : w.shape? b = some (e', cur.size) := by unfold World.shape?; rw [hb]
  simp [convert, run_underlying ht, run_underlying he, markStringish, hsh]
theorem freeze_other {w : World} {b k : Nat} {a : Nat} (h : a ≠ b) : (w.freeze ⟨b, k, none⟩ 1).heap[a]? = w.heap[a]? := by
  unfold World.freeze
  rw [if_neg (by decide)]
  simp [Array.getElem?_modify, Ne.symm h]
theorem freeze_self {w : World} {b k : Nat} {c : Array Value} {e : TypeId} {fr : Nat × Nat} (h : w.heap[b]? = some (.cells c e fr)) : ∃ fr', (w.freeze ⟨b, k, none⟩ 1).heap[b]? = some (.cells c e fr') := by
  unfold World.freeze
  rw [if_neg (by decide)]
  simp [Array.getElem?_modify, h]
def sameSlA (T : List TI) (M : AH) (src dst : Nat) (i g off n c : Nat) (K : AV → AH → Prop) : Prop :=
  condT (Nat.beq src dst) (match T[src]? with
    | some ⟨.slice e, _, _, _⟩ => match T[e]? with
      | some ⟨.int .u8, _, _, _⟩ => match M[i]? with
        | some (.one true g' (.ints k xs co)) => (g = g' ∧ 0 < co) ∧ K (.sl i g off n c) (M.set i (.one false g (.ints k xs co)))
        | _ => False
      | _ => False
    | _ => False)
theorem sameSlA_sound {P : Program} {T : List TI} (hT : TabOK P T) {M : AH} {src dst i g off n c : Nat} {K : AV → AH → Prop} {ρ : Env} {w : World} (hs : Sim ρ M w) (h : sameSlA T M src dst i g off n c K) :
    ∃ v M' ρ' w', (convert src dst ((AV.sl i g off n c).c ρ)).run P w = .ok (v.c ρ') w' ∧ K v M' ∧ v.ok ρ' ∧ Sim ρ' M' w' ∧ Ext ρ M w ρ' M' w' := by
  unfold sameSlA at h
  replace h := condT_sound h
  obtain ⟨hb, h⟩ := h
  obtain rfl : src = dst := Nat.eq_of_beq_eq_true hb
  split at h
  · rename_i e _ _ _ h1
    split at h
    · rename_i h3
      obtain ⟨d1, hd1, k1⟩ := hT.und h1
      obtain ⟨d3, hd3, k3⟩ := hT.und h3
      obtain rfl := tkOf_slice k1
      obtain rfl := tkOf_int k3
      split at h
      · rename_i g' k xs co hm
        obtain ⟨⟨rfl, hco⟩, hK⟩ := h
        rcases hs.holds i g true _ (slot_one hm) with ⟨q, hq, hh⟩ | ⟨_, hv⟩
        · obtain ⟨cur, e', fr, c1, c2, c3, c4⟩ := hh.out rfl
          have hc : (AV.sl i g off n c).c ρ = .slice (some ⟨q.1, q.2 + off, none⟩) n c := by simp [AV.c, hq]
          have hrun := run_convert_same (P := P) (off := q.2 + off) (n := n) (c := c) hd1 hd3 c1
          obtain ⟨s1, s2⟩ := sim_frozen (w' := w.freeze ⟨q.1, cur.size, none⟩ 1) hs hm rfl hq (fun b hb => freeze_other hb) (fun c e fr hc => freeze_self hc) (by unfold World.freeze; rw [if_neg (by decide)]; simp) (by unfold World.freeze; rw [if_neg (by decide)]) (by unfold World.freeze; rw [if_neg (by decide)]) (by unfold World.freeze; rw [if_neg (by decide)])
          exact ⟨_, _, ρ, _, by rw [hc]; exact hrun, hK, by simp [AV.ok, hq], s1, s2⟩
        · obtain ⟨_, h0⟩ := hv; omega
      · exact h.elim
    · exact h.elim
  · exact h.elim
end Go.Proofs.Yteinenklppbjkaa

set_option linter.unusedVariables false
set_option linter.unusedSimpArgs false
open Go.RowKit
namespace Go.Proofs.Yteinenklppbjkaa

def copyA (T : List TI) (M : AH) (tD tS : Nat) (d x : AV) (K : AV → AH → Prop) : Prop :=
  match T[tD]?, T[tS]? with
  | some ⟨.slice e, _, _, _⟩, some ⟨.slice _, _, _, _⟩ => match T[e]? with
    | some ⟨.int k, 1, _, _⟩ => match d, x with
      | .sl i g off n c, .sl i2 g2 off2 n2 c2 => match M[i]? with
        | some (.one true g' (.ints k1 xs co)) => (g = g' ∧ off + n ≤ xs.length ∧ xs.length ≤ co) ∧ sameK k k1 (srcInts M k (.sl i2 g2 off2 (min n2 n) c2) fun ys m => ∀ zs, zs = xs.take off ++ ys ++ xs.drop (off + m) → K (.int .i64 (m : Int)) (M.set i (.one true g (.ints k zs co))))
        | _ => False
      | _, _ => False
    | _ => False
  | _, _ => False

theorem copyA_sound {P : Program} {ρ : Env} {M : AH} {w : World} {T : List TI} (hT : TabOK P T) (hs : Sim ρ M w) {tD tS ty : Nat} {d x : AV} {K : AV → AH → Prop} (h : copyA T M tD tS d x K) :
    ∃ v M' w', (Builtin.copy_ #[tD, tS] ty #[d.c ρ, x.c ρ]).run P w = .ok (v.c ρ) w' ∧ K v M' ∧ v.ok ρ ∧ Sim ρ M' w' ∧ Ext ρ M w ρ M' w' := by
  unfold copyA at h
  split at h
  · rename_i e _ _ _ e2 _ _ _ h1 h2
    split at h
    · rename_i k _ _ h3
      obtain ⟨d1, hd1, k1⟩ := hT.und h1
      obtain rfl := tkOf_slice k1
      have hsz := hT.size h3
      split at h
      · rename_i i g off n c i2 g2 off2 n2 c2
        split at h
        · rename_i g' k1 xs co hm
          obtain ⟨⟨rfl, hle, hco⟩, h⟩ := h
          replace h := sameK_sound h
          obtain ⟨rfl, h⟩ := h
          obtain ⟨ys, m, hl, hK, hS⟩ := srcInts_sound hT hs h2 (x := .sl i2 g2 off2 (min n2 n) c2) rfl h
          obtain ⟨a2, ha2, _⟩ := sl_c (ρ := ρ) (i := i2) (g := g2) (off := off2) (n := n2) (c := c2)
          have hc2 := sl_c2 (n' := min n2 n) (c' := c2) ha2
          rw [hc2] at hS
          have hm' : min n2 n = m := by
            have := hS.len w
            simpa [Builtin.lenOf] using this
          have hcells : (Builtin.firstCells 1 m (.slice a2 n2 c2)).run P w = .ok ((ys.map (Value.int k)).toArray) w := by
            have := hS.cells
            cases a2 <;> simpa [Builtin.firstCells] using this
          rcases hs.holds i g true _ (slot_one hm) with ⟨q, hq, hh⟩ | ⟨hq, hv⟩
          · obtain ⟨w', hrun, h4, h5⟩ := write_sound (P := P) (k0 := off) (vs := ys.map (AV.int k)) (x' := .ints k (xs.take off ++ ys ++ xs.drop (off + m)) co) hs hm hq rfl rfl
              (by rw [AV.okl_iff]; intro v hv; obtain ⟨z, _, rfl⟩ := List.mem_map.1 hv; trivial)
              (by rw [List.all_eq_true]; intro v hv; obtain ⟨z, _, rfl⟩ := List.mem_map.1 hv; rfl) (by simp [Cont.size]; omega) rfl (by
                intro j v hv
                simp only [Cont.at, Option.map_eq_some_iff] at hv
                obtain ⟨z, hz, rfl⟩ := hv
                simp only [List.length_map, hl]
                have ht : (xs.take off).length = off := by simp; omega
                by_cases hj : j < off
                · right
                  refine ⟨.inl hj, ?_⟩
                  rw [List.append_assoc, List.getElem?_append_left (by omega), List.getElem?_take, if_pos hj] at hz
                  simp [Cont.at, hz]
                · by_cases hj2 : j < off + m
                  · left
                    refine ⟨_, by omega, hj2, ?_, rfl, trivial⟩
                    rw [List.append_assoc, List.getElem?_append_right (by omega), List.getElem?_append_left (by omega), ht] at hz
                    simp [hz]
                  · right
                    refine ⟨.inr (by omega), ?_⟩
                    rw [List.getElem?_append_right (by simp; omega), List.getElem?_drop] at hz
                    have e : off + m + (j - (xs.take off ++ ys).length) = j := by simp; omega
                    rw [e] at hz
                    simp [Cont.at, hz])
            refine ⟨_, _, w', ?_, hK _ rfl, trivial, h4, h5⟩
            rw [int_cells] at hrun
            have hd : (AV.sl i g off n c).c ρ = .slice (some ⟨q.1, q.2 + off, none⟩) n c := by simp [AV.c, hq]
            rw [hd, ha2]
            have hmn : Nat.min n2 n = m := hm'
            simp [Builtin.copy_, run_underlying hd1, Builtin.lenOf, hsz, hmn, hcells, hrun, goInt, AV.c]
          · simp only [Cont.virt] at hv
            obtain ⟨rfl, rfl⟩ := hv
            have hn : n = 0 := by simp at hle; omega
            have ho : off = 0 := by simp at hle; omega
            subst hn; subst ho
            obtain rfl : m = 0 := by omega
            obtain rfl : ys = [] := List.eq_nil_of_length_eq_zero hl
            have hK' := hK [] rfl
            have hM : M.set i (.one true g (.ints k [] 0)) = M := by
              obtain ⟨hlt, he⟩ := List.getElem?_eq_some_iff.1 hm
              rw [← he]; exact List.set_getElem_self hlt
            rw [hM] at hK'
            refine ⟨_, _, w, ?_, hK', trivial, hs, Ext.refl _ _ _⟩
            have hd : (AV.sl i g 0 0 c).c ρ = .slice none 0 c := by simp [AV.c, hq]
            rw [hd, ha2]
            simp [Builtin.copy_, run_underlying hd1, Builtin.lenOf, hsz, hcells, goInt, AV.c]
        · exact h.elim
      · exact h.elim
    · exact h.elim
  · exact h.elim
end Go.Proofs.Yteinenklppbjkaa

set_option linter.unusedVariables false
set_option linter.unusedSimpArgs false
open Go.RowKit
namespace Go.Proofs.Yteinenklppbjkaa

def mkOf (T : List TI) (k : Nat) : Option MK :=
  match T[k]? with
  | some ⟨.int kk, _, _, _⟩ => some (.int kk)
  | some ⟨.struct [(0, f0), (1, f1)], _, _, _⟩ => match T[f0]?, T[f1]? with
    | some ⟨.int k0, _, _, _⟩, some ⟨.int k1, _, _, _⟩ => some (.pair k0 k1)
    | _, _ => none
  | _ => none
def keyA (mk : MK) (v : AV) : Option (Int × Int) :=
  match mk, v with
  | .int k, .int k' n => match sameKb k k' with
    | true => some (n, 0)
    | false => none
  | .pair k0 k1, .agg [.int a x, .int b y] => match sameKb k0 a && sameKb k1 b with
    | true => some (x, y)
    | false => none
  | _, _ => none
def sameMK (a b : MK) (p : Prop) : Prop :=
  match a, b with
  | .int k, .int k' => sameK k k' p
  | .pair k0 k1, .pair a b => sameK k0 a (sameK k1 b p)
  | _, _ => False
def zeroA (te : TI) : Option AV :=
  match te.k.isAgg with
  | true => some (.agg te.zero)
  | false => match te.zero with
    | [z] => some z
    | _ => none
def findM (k : Int × Int) : List ((Int × Int) × AV) → Option AV
  | [] => none
  | (k', v) :: l => if k = k' then some v else findM k l
def updM (k : Int × Int) (v : AV) : List ((Int × Int) × AV) → List ((Int × Int) × AV)
  | [] => [(k, v)]
  | (k', v') :: l => if k = k' then (k', v) :: l else (k', v') :: updM k v l

def okTup (ok : Bool) (v : AV) (b : AV) (K : AV → Prop) : Prop :=
  match ok with
  | true => K (.tup [v, b])
  | false => K v
def lookA (T : List TI) (M : AH) (t : Nat) (x ix : AV) (ok : Bool) (K : AV → Prop) : Prop :=
  match T[t]? with
  | some ⟨.map kt et, _, _, _⟩ => match mkOf T kt, T[et]? with
    | some mk, some te => match keyA mk ix, zeroA te with
      | some k, some z => match x with
        | .nm => okTup ok z .ff K
        | .mp i g => slotA M i g fun _ y => match y with
          | .map mk' es => sameMK mk mk' ((∀ v, findM k es = some v → okTup ok v .tt K) ∧ (findM k es = none → okTup ok z .ff K))
          | _ => False
        | _ => False
      | _, _ => False
    | _, _ => False
  | _ => False
def lenMapA (T : List TI) (M : AH) (t : Nat) (x : AV) (K : AV → Prop) : Prop :=
  match T[t]? with
  | some ⟨.map _ _, _, _, _⟩ => match x with
    | .nm => K (.int .i64 0)
    | .mp i g => slotA M i g fun _ y => match y with
      | .map _ es => K (.int .i64 (es.length : Int))
      | _ => False
    | _ => False
  | _ => False
def updA (T : List TI) (M : AH) (t : Nat) (x ix v : AV) (K : AH → Prop) : Prop :=
  match T[t]? with
  | some ⟨.map kt et, _, _, _⟩ => match mkOf T kt with
    | some mk => match keyA mk ix with
      | some k => match x with
        | .mp i g => match M[i]? with
          | some (.one true g' (.map mk' es)) => g = g' ∧ sameMK mk mk' (∀ es', es' = updM k v es → K (M.set i (.one true g' (.map mk' es'))))
          | _ => False
        | _ => False
      | none => False
    | none => False
  | _ => False
def makeMapA (T : List TI) (M : AH) (t : Nat) (K : AV → AH → Prop) : Prop :=
  match T[t]? with
  | some ⟨.map kt et, _, _, _⟩ => match mkOf T kt with
    | some mk => K (.mp M.length 0) (M ++ [.one true 0 (.map mk [])])
    | none => False
  | _ => False

theorem sameMK_sound {a b : MK} {p : Prop} (h : sameMK a b p) : a = b ∧ p := by
  unfold sameMK at h
  split at h
  · replace h := sameK_sound h
    obtain ⟨rfl, h⟩ := h
    exact ⟨rfl, h⟩
  · replace h := sameK_sound h
    obtain ⟨rfl, h⟩ := h
    replace h := sameK_sound h
    obtain ⟨rfl, h⟩ := h
    exact ⟨rfl, h⟩
  · exact h.elim
theorem keyA_spec {mk : MK} {v : AV} {k : Int × Int} (h : keyA mk v = some k) (ρ : Env) : mk.wf k ∧ v.c ρ = mk.v k := by
  unfold keyA at h
  split at h
  · split at h
    · rename_i hk
      cases h
      obtain rfl := sameKb_eq hk
      exact ⟨rfl, rfl⟩
    · cases h
  · split at h
    · rename_i hk
      simp only [Bool.and_eq_true] at hk
      cases h
      obtain rfl := sameKb_eq hk.1
      obtain rfl := sameKb_eq hk.2
      exact ⟨trivial, rfl⟩
    · cases h
  · cases h
theorem mkOf_spec {P : Program} {T : List TI} (hT : TabOK P T) {kt : Nat} {kk : IntKind} (h : mkOf T kt = some (.int kk)) : P.underlying kt = some (.int kk) := by
  unfold mkOf at h
  split at h
  · rename_i h1
    obtain ⟨d, hd, hk⟩ := hT.und h1
    obtain rfl := tkOf_int hk
    cases h
    exact hd
  · split at h <;> cases h
  · cases h
theorem zeroA_sound {P : Program} {T : List TI} (hT : TabOK P T) {et : Nat} {te : TI} (he : T[et]? = some te) {z : AV} (h : zeroA te = some z) (ρ : Env) : z.ok ρ ∧ ∀ w, (zeroValue et).run P w = .ok (z.c ρ) w := by
  have hok := hT.zero_ok he ρ
  obtain ⟨d, i, z0, h1, h2, h3, e⟩ := hT.get he
  have hr : ∀ w, (zeroValue et).run P w = .ok z0 w := fun w => by simp [zeroValue, typeInfo, h2, h3]
  have hc : z0.cells.toList = AV.cl ρ te.zero := by rw [e]; simp [AV.cl_eq, Function.comp_def, ofS_c]
  unfold zeroA at h
  split at h
  · rename_i hk
    cases h
    refine ⟨hok, fun w => ?_⟩
    rw [hr]
    have : z0 = .agg (AV.cl ρ te.zero).toArray := by
      have hcells : z0.cells = (AV.cl ρ te.zero).toArray := by apply Array.toList_inj.1; simpa using hc
      obtain ⟨cs, rfl⟩ := (hT.shape he h2 h3).2 hk
      rw [← hcells]; rfl
    rw [this]; rfl
  · rename_i hk
    split at h
    · rename_i z' hz
      cases h
      rw [hz] at hok hc
      refine ⟨hok.1, fun w => ?_⟩
      have : z0 = z.c ρ := by
        cases z0 with
        | agg cs => exact absurd ((hT.shape he h2 h3).1 ⟨cs, rfl⟩) (by rw [hk]; decide)
        | _ => simpa [Value.cells, AV.cl] using hc
      rw [hr, this]
    · cases h

/-! What the model does. -/
def findIM (k : Int × Int) : List ((Int × Int) × AV) → Nat → Option (Nat × AV)
  | [], _ => none
  | (k', v) :: l, j => if k = k' then some (j, v) else findIM k l (j + 1)
theorem findIM_val (k : Int × Int) : ∀ (l : List ((Int × Int) × AV)) (j : Nat), (findIM k l j).map (·.2) = findM k l
  | [], _ => rfl
  | (k', v) :: l, j => by
    simp only [findIM, findM]
    split
    · rfl
    · exact findIM_val k l (j + 1)
theorem findIM_none {k : Int × Int} : ∀ {l : List ((Int × Int) × AV)} {j : Nat}, findIM k l j = none → ∀ v, updM k v l = l ++ [(k, v)]
  | [], _, _, _ => rfl
  | (k', v') :: l, j, h, v => by
    simp only [findIM] at h
    split at h
    · cases h
    · rename_i hk
      simp only [updM, if_neg hk, findIM_none h v, List.cons_append]
theorem findIM_some {k : Int × Int} : ∀ {l : List ((Int × Int) × AV)} {j i : Nat} {u : AV}, findIM k l j = some (i, u) → j ≤ i ∧ l[i - j]? = some (k, u) ∧ ∀ v, updM k v l = l.set (i - j) (k, v)
  | [], _, _, _, h => by cases h
  | (k', v') :: l, j, i, u, h => by
    simp only [findIM] at h
    split at h
    · rename_i hk
      cases h; subst hk
      simp [updM]
    · rename_i hk
      obtain ⟨h1, h2, h3⟩ := findIM_some h
      refine ⟨by omega, ?_, fun v => ?_⟩
      · rw [show i - j = (i - (j + 1)) + 1 by omega, List.getElem?_cons_succ]; exact h2
      · rw [show i - j = (i - (j + 1)) + 1 by omega, List.set_cons_succ]
        simp only [updM, if_neg hk, h3 v]
theorem findNow_int {kk : IntKind} {k : Int × Int} (hk : k.2 = 0) (ρ : Env) : ∀ (l : List MapEntry) (es : List ((Int × Int) × AV)) (j : Nat), l.map (fun e => (e.key, e.val)) = es.map (fun p => ((MK.int kk).v p.1, p.2.c ρ)) → (∀ p ∈ es, p.1.2 = 0) →
    Instr.findNow (.int kk) (.int kk k.1) l j = some ((findIM k es j).map fun x => (x.1, x.2.c ρ))
  | [], [], _, _, _ => rfl
  | [], _ :: _, _, h, _ => by cases h
  | _ :: _, [], _, h, _ => by cases h
  | e :: l, (k', v) :: es, j, h, hz => by
    simp only [List.map_cons, List.cons.injEq, Prod.mk.injEq] at h
    obtain ⟨⟨h1, h2⟩, h3⟩ := h
    have hk' : k'.2 = 0 := hz (k', v) (by simp)
    simp only [Instr.findNow, h1, MK.v, Instr.sameNow, if_true, findIM]
    by_cases hkk : k = k'
    · subst hkk
      simp [h2]
    · have hne : (k.1 == k'.1) = false := by
        rw [beq_eq_false_iff_ne]
        intro e
        exact hkk (Prod.ext e (by rw [hk', hk]))
      rw [if_neg hkk]
      simp only [hne]
      exact findNow_int hk ρ l es (j + 1) h3 (fun p hp => hz p (by simp [hp]))
theorem run_checkKey_int {P : Program} {kt : Nat} {kk : IntKind} (hd : P.underlying kt = some (.int kk)) {b : Bool} {n : Nat} {x : Int} {w : World} : (Instr.checkKey b (n + 1) kt (.int kk x)).run P w = .ok () w := by
  simp [Instr.checkKey, run_underlying hd]
theorem run_findKey_int {P : Program} {kt : Nat} {kk : IntKind} (hd : P.underlying kt = some (.int kk)) {k : Int × Int} (hk : k.2 = 0) {ρ : Env} {l : List MapEntry} {es : List ((Int × Int) × AV)} (h : l.map (fun e => (e.key, e.val)) = es.map (fun p => ((MK.int kk).v p.1, p.2.c ρ))) (hz : ∀ p ∈ es, p.1.2 = 0) {w : World} :
    (Instr.findKey kt (.int kk k.1) l).run P w = .ok ((findIM k es 0).map fun x => (x.1, x.2.c ρ)) w := by
  simp [Instr.findKey, run_underlying hd, findNow_int hk ρ l es 0 h hz]
/-- What a type of pairs is. -/
structure PairT (P : Program) (T : List TI) (kt : Nat) (k0 k1 : IntKind) : Prop where
  ex : ∃ f0 f1 : Field, P.underlying kt = some (.struct #[f0, f1]) ∧ f0.offset = 0 ∧ f1.offset = 1 ∧ P.underlying f0.type = some (.int k0) ∧ P.underlying f1.type = some (.int k1) ∧
    (∃ ti0, T[f0.type]? = some ti0 ∧ ti0.k = .int k0) ∧ (∃ ti1, T[f1.type]? = some ti1 ∧ ti1.k = .int k1) ∧ ∃ ti, T[kt]? = some ti ∧ ti.k = .struct [(0, f0.type), (1, f1.type)]
theorem pairT_of {P : Program} {T : List TI} (hT : TabOK P T) {kt : Nat} {k0 k1 : IntKind} (h : mkOf T kt = some (.pair k0 k1)) : PairT P T kt k0 k1 := by
  unfold mkOf at h
  split at h
  · cases h
  · rename_i f0 f1 _ _ _ h1
    split at h
    · rename_i ka _ _ _ kb _ _ _ h2 h3
      cases h
      obtain ⟨d, hd, hk⟩ := hT.und h1
      obtain ⟨fs, rfl, hfs⟩ := tkOf_struct hk
      obtain ⟨da, hda, hka⟩ := hT.und h2
      obtain rfl := tkOf_int hka
      obtain ⟨db, hdb, hkb⟩ := hT.und h3
      obtain rfl := tkOf_int hkb
      obtain ⟨l⟩ := fs
      match l, hfs with
      | [a, b], hfs =>
        simp only [List.map_cons, List.map_nil, List.cons.injEq, Prod.mk.injEq, and_true] at hfs
        obtain ⟨⟨e1, rfl⟩, e2, rfl⟩ := hfs
        exact ⟨a, b, hd, e1.symm, e2.symm, hda, hdb, ⟨_, h2, rfl⟩, ⟨_, h3, rfl⟩, _, h1, rfl⟩
      | [], hfs => simp at hfs
      | [a], hfs => simp at hfs
      | _ :: _ :: _ :: _, hfs => simp at hfs
    · cases h
  · cases h
theorem run_part_pair {P : Program} {T : List TI} (hT : TabOK P T) {t : Nat} {k k0 k1 : IntKind} {ti : TI} (h : T[t]? = some ti) (hk : ti.k = .int k) {x y : Int} {off : Nat} {n : Int} (hg : [AV.int k0 x, AV.int k1 y][off]? = some (.int k n)) (w : World) :
    (part t #[.int k0 x, .int k1 y] off).run P w = .ok (.int k n) w := by
  obtain ⟨v1, e1, _, p1⟩ := partA_sound hT h (l := [AV.int k0 x, AV.int k1 y]) (off := off) (ρ := fun _ _ => none) (K := fun v => v = .int k n) ⟨trivial, trivial, trivial⟩ (by unfold partA; rw [hk]; simp only [TK.isAgg]; rw [hg])
  subst e1
  exact p1 w
theorem run_checkKey_pair {P : Program} {T : List TI} (hT : TabOK P T) {kt : Nat} {k0 k1 : IntKind} (h : PairT P T kt k0 k1) {b : Bool} {n : Nat} {x y : Int} {w : World} : (Instr.checkKey b (n + 2) kt (.agg #[.int k0 x, .int k1 y])).run P w = .ok () w := by
  obtain ⟨f0, f1, hd, o0, o1, h0, h1, ⟨t0, g0, q0⟩, ⟨t1, g1, q1⟩, _⟩ := h.ex
  have p0 := run_part_pair (P := P) hT g0 q0 (k0 := k0) (k1 := k1) (x := x) (y := y) (off := f0.offset) (n := x) (by rw [o0]; rfl)
  have p1 := run_part_pair (P := P) hT g1 q1 (k0 := k0) (k1 := k1) (x := x) (y := y) (off := f1.offset) (n := y) (by rw [o1]; rfl)
  unfold Instr.checkKey
  simp only [Sem.run_bind, run_underlying hd, Result.andThen_ok]
  by_cases n0 : f0.name = "_" <;> by_cases n1 : f1.name = "_" <;>
    simp [n0, n1, p0 w, p1 w, run_checkKey_int h0, run_checkKey_int h1]
theorem run_equal_pair {P : Program} {T : List TI} (hT : TabOK P T) {kt : Nat} {k0 k1 : IntKind} (h : PairT P T kt k0 k1) {x y x' y' : Int} {w : World} :
    (Op.equal kt (.agg #[.int k0 x, .int k1 y]) (.agg #[.int k0 x', .int k1 y'])).run P w = .ok (decide ((x, y) = (x', y'))) w := by
  obtain ⟨f0, f1, hd, o0, o1, h0, h1, ⟨t0, g0, q0⟩, ⟨t1, g1, q1⟩, ti, ht, hk⟩ := h.ex
  have hsim : ((#[f0, f1] : Array Field).toList.all fun f => simpleT P f.type) = true := by simp [simpleT, h0, h1]
  obtain ⟨d, hd', _, hok⟩ := hT.eqOk ht
  rw [hd] at hd'; cases hd'
  have hok' : (P.stoodInHeld kt = false ∧ P.eqGuardType P.depth kt = false) ∧ ((#[f0, f1] : Array Field).toList.all fun f => f.name != "_") = true := by
    unfold eqOkB at hok
    simp only [hsim, Bool.not_true, Bool.false_or, Bool.and_eq_true, Bool.not_eq_true'] at hok
    exact hok
  have hnm := hok'.2
  have key : eqF T [AV.int k0 x, AV.int k1 y] [AV.int k0 x', AV.int k1 y'] ((#[f0, f1] : Array Field).toList.map fun f => (f.offset, f.type)) (fun r => r = (decide (x = x') && (decide (y = y') && true))) := by
    have sk : ∀ (k : IntKind) (p : Prop), p → sameK k k p := by intro k p hp; cases k <;> exact hp
    obtain ⟨_, _, _, _⟩ := t0
    obtain ⟨_, _, _, _⟩ := t1
    simp only at q0 q1
    subst q0; subst q1
    simp only [List.map_cons, List.map_nil, eqF, o0, o1, g0, g1, List.getElem?_cons_zero, List.getElem?_cons_succ]
    refine sk _ _ (sk _ _ (sk _ _ (sk _ _ ?_)))
    trivial
  obtain ⟨r, hr, hrun⟩ := eqF_sound hT (la := [AV.int k0 x, AV.int k1 y]) (lb := [AV.int k0 x', AV.int k1 y']) (ρ := fun _ _ => none) ⟨trivial, trivial, trivial⟩ ⟨trivial, trivial, trivial⟩ _ _ key hnm
  have hfo : P.fieldsOf kt = #[f0, f1] := by unfold Program.fieldsOf; rw [hd]
  have hst : P.underlying kt = some (.struct (P.fieldsOf kt)) := by rw [hfo]; exact hd
  have he := run_equalIn_struct (P := P) w 9999 kt #[.int k0 x, .int k1 y] #[.int k0 x', .int k1 y'] hst hok'.1.1
  rw [hfo] at he
  have hr2 := hrun 9998 w
  simp only [AV.cl, AV.c] at hr2
  rw [hr2] at he
  have : Op.equal kt (.agg #[.int k0 x, .int k1 y]) (.agg #[.int k0 x', .int k1 y']) = Op.equalIn 10000 kt (.agg #[.int k0 x, .int k1 y]) (.agg #[.int k0 x', .int k1 y']) := rfl
  rw [this, he, hr]
  congr 1
  by_cases a : x = x' <;> by_cases b : y = y' <;> simp [a, b]
theorem run_findAsking_pair {P : Program} {T : List TI} (hT : TabOK P T) {kt : Nat} {k0 k1 : IntKind} (hp : PairT P T kt k0 k1) {k : Int × Int} (ρ : Env) {w : World} : ∀ (l : List MapEntry) (es : List ((Int × Int) × AV)) (j : Nat), l.map (fun e => (e.key, e.val)) = es.map (fun p => ((MK.pair k0 k1).v p.1, p.2.c ρ)) →
    (Instr.findAsking kt ((MK.pair k0 k1).v k) l j).run P w = .ok ((findIM k es j).map fun x => (x.1, x.2.c ρ)) w
  | [], [], _, _ => rfl
  | [], _ :: _, _, h => by cases h
  | _ :: _, [], _, h => by cases h
  | e :: l, (k', v) :: es, j, h => by
    simp only [List.map_cons, List.cons.injEq, Prod.mk.injEq] at h
    obtain ⟨⟨h1, h2⟩, h3⟩ := h
    have he := run_equal_pair (P := P) hT hp (x := k.1) (y := k.2) (x' := k'.1) (y' := k'.2) (w := w)
    simp only [Instr.findAsking, h1, MK.v, Sem.run_bind, he, Result.andThen_ok, findIM]
    by_cases hkk : k = k'
    · subst hkk
      simp [h2]
    · rw [if_neg hkk]
      have : decide ((k.1, k.2) = (k'.1, k'.2)) = false := decide_eq_false hkk
      rw [this]
      simp only [Bool.false_eq_true, if_false]
      exact run_findAsking_pair hT hp ρ l es (j + 1) h3
theorem run_checkKey {P : Program} {T : List TI} (hT : TabOK P T) {kt : Nat} {mk : MK} (h : mkOf T kt = some mk) {b : Bool} {k : Int × Int} {w : World} : (Instr.checkKey b 10000 kt (mk.v k)).run P w = .ok () w := by
  cases mk with
  | int kk => exact run_checkKey_int (mkOf_spec hT h)
  | pair k0 k1 => exact run_checkKey_pair hT (pairT_of hT h)
theorem run_findKey {P : Program} {T : List TI} (hT : TabOK P T) {kt : Nat} {mk : MK} (h : mkOf T kt = some mk) {k : Int × Int} (hk : mk.wf k) {ρ : Env} {l : List MapEntry} {es : List ((Int × Int) × AV)} (hl : l.map (fun e => (e.key, e.val)) = es.map (fun p => (mk.v p.1, p.2.c ρ))) (hz : ∀ p ∈ es, mk.wf p.1) {w : World} :
    (Instr.findKey kt (mk.v k) l).run P w = .ok ((findIM k es 0).map fun x => (x.1, x.2.c ρ)) w := by
  cases mk with
  | int kk => exact run_findKey_int (mkOf_spec hT h) hk hl hz
  | pair k0 k1 =>
    have hp := pairT_of hT h
    obtain ⟨f0, f1, hd, _⟩ := hp.ex
    have ha := run_findAsking_pair (P := P) hT hp (k := k) ρ (w := w) l es 0 hl
    cases l with
    | nil =>
      cases es with
      | nil => simp [Instr.findKey, run_underlying hd, Instr.findNow, findIM]
      | cons p es => cases hl
    | cons e l =>
      have : Instr.findNow (.struct #[f0, f1]) ((MK.pair k0 k1).v k) (e :: l) 0 = none := by simp [Instr.findNow, Instr.sameNow]
      simp only [Instr.findKey, Sem.run_bind, run_underlying hd, Result.andThen_ok, this]
      exact ha
theorem sameBits_key (mk : MK) (k : Int × Int) : Instr.sameBits 10000 (mk.v k) (mk.v k) = true := by
  cases mk <;> simp [MK.v, Instr.sameBits]
theorem run_getM {P : Program} {w : World} {b : Nat} {es : Array MapEntry} {c : Nat} (h : w.heap[b]? = some (.map es c)) : (getObj b).run P w = .ok (.map es c) w := by simp [getObj, Sem.run, h]
theorem run_setM {P : Program} {w : World} {b : Nat} {es : Array MapEntry} {c : Nat} (o : Obj) (h : w.heap[b]? = some (.map es c)) : (setObj b o).run P w = .ok () (w.putObj b o) := by simp [setObj, Sem.run, h, World.putObj]
/-- A map, read off the world. -/
theorem map_of {ρ : Env} {M : AH} {i g : Nat} {own : Bool} {mk : MK} {es : List ((Int × Int) × AV)} (hk : Known ρ M) (hs : slot M i g = some (own, .map mk es)) : ∃ q, ρ i g = some (some q) ∧ ∀ w, HoldsId ρ M i w → ∃ (ents : Array MapEntry) (clock : Nat), w.heap[q.1]? = some (.map ents clock) ∧ ents.toList.map (fun e => (e.key, e.val)) = es.map (fun p => (mk.v p.1, p.2.c ρ)) ∧ (∀ p ∈ es, p.2.ok ρ ∧ mk.wf p.1) ∧ (∀ e ∈ ents.toList, e.born < clock) ∧ (ents.toList.map (·.born)).Nodup := by
  rcases hk i g own _ hs with ⟨q, hq⟩ | ⟨_, hv⟩
  · refine ⟨q, hq, fun w hw => ?_⟩
    rcases (hw g own _ q hs hq).all with ⟨h0, _⟩ | ⟨_, _, h⟩
    · cases h0
    · exact h
  · exact hv.elim
theorem mp_c {ρ : Env} {i g : Nat} {q : Nat × Nat} (h : ρ i g = some (some q)) : (AV.mp i g).c ρ = .map (some q.1) ∧ (AV.mp i g).ok ρ := by
  constructor
  · simp [AV.c, h]
  · simp [AV.ok, h]

theorem lookA_sound {P : Program} {T : List TI} (hT : TabOK P T) {M : AH} {t : Nat} {x ix : AV} {ok : Bool} {K : AV → Prop} {ρ : Env} (hk : Known ρ M) {w0 : World} (h0 : HoldsId ρ M x.id w0) (h : lookA T M t x ix ok K) :
    ∃ v, K v ∧ v.ok ρ ∧ x.ok ρ ∧ ∀ w, HoldsId ρ M x.id w → (Instr.lookup t (x.c ρ) (ix.c ρ) ok).run P w = .ok (v.c ρ) w := by
  unfold lookA at h
  split at h
  · rename_i kt et _ _ _ h1
    obtain ⟨d, hd, hk1⟩ := hT.und h1
    have hd' : d = .map kt et := by cases d <;> simp_all [tkOf]
    subst hd'
    split at h
    · rename_i mk te hmk hte
      split at h
      · rename_i k z hkey hz
        obtain ⟨hwf, hkc⟩ := keyA_spec hkey ρ
        have hck := fun (b : Bool) (w : World) => run_checkKey (P := P) hT hmk (b := b) (k := k) (w := w)
        obtain ⟨zok, hzr⟩ := zeroA_sound hT hte hz ρ
        split at h
        · refine ⟨if ok then .tup [z, .ff] else z, ?_, ?_, trivial, fun w _ => ?_⟩
          · cases ok <;> exact h
          · cases ok
            · exact zok
            · exact ⟨zok, trivial, trivial⟩
          · have hfk := run_findKey (P := P) (ρ := ρ) (w := w) hT hmk hwf (l := []) (es := []) rfl (by simp)
            rw [hkc]
            cases ok <;> simp [Instr.lookup, run_underlying hd, AV.c, AV.cl, hck, hfk, findIM, hzr]
        · rename_i i g
          obtain ⟨own, y, hs, h⟩ := slotA_sound h
          split at h
          · rename_i mk' es
            replace h := sameMK_sound h
            obtain ⟨rfl, hf, hn⟩ := h
            obtain ⟨q, hq, hw⟩ := map_of hk hs
            have hok := (hw w0 h0).choose_spec.choose_spec.2.2.1
            have hrun : ∀ (w : World), HoldsId ρ M i w → ∀ r, (findIM k es 0) = r → (Instr.lookup t ((AV.mp i g).c ρ) (ix.c ρ) ok).run P w = (match r with
              | some x => .ok (if ok then .tuple #[x.2.c ρ, .bool true] else x.2.c ρ) w
              | none => .ok (if ok then .tuple #[z.c ρ, .bool false] else z.c ρ) w) := by
              intro w hh r hr
              obtain ⟨ents, clock, e1, e2, e3, _, _⟩ := hw w hh
              have hfk := run_findKey (P := P) (w := w) hT hmk hwf e2 (fun p hp => (e3 p hp).2)
              rw [hr] at hfk
              rw [(mp_c hq).1, hkc]
              cases r with
              | none => simp [Instr.lookup, run_underlying hd, AV.c, run_getM e1, hck, hfk, hzr]
              | some x => simp [Instr.lookup, run_underlying hd, AV.c, run_getM e1, hck, hfk]
            have hval := findIM_val k es 0
            cases hfi : findIM k es 0 with
            | none =>
              rw [hfi] at hval
              refine ⟨if ok then .tup [z, .ff] else z, ?_, ?_, (mp_c hq).2, fun w hh => ?_⟩
              · have := hn hval.symm
                cases ok <;> exact this
              · cases ok
                · exact zok
                · exact ⟨zok, trivial, trivial⟩
              · rw [hrun w hh _ hfi]; cases ok <;> simp [AV.c, AV.cl]
            | some xx =>
              obtain ⟨ii, u⟩ := xx
              rw [hfi] at hval
              obtain ⟨_, hmem, _⟩ := findIM_some hfi
              have huok := (hok _ (List.mem_of_getElem? hmem)).1
              refine ⟨if ok then .tup [u, .tt] else u, ?_, ?_, (mp_c hq).2, fun w hh => ?_⟩
              · have := hf u hval.symm
                cases ok <;> exact this
              · cases ok
                · exact huok
                · exact ⟨huok, trivial, trivial⟩
              · rw [hrun w hh _ hfi]; cases ok <;> simp [AV.c, AV.cl]
          · exact h.elim
        · exact h.elim
      · exact h.elim
    · exact h.elim
  · exact h.elim

theorem lenMapA_sound {P : Program} {T : List TI} (hT : TabOK P T) {M : AH} {t ty : Nat} {x : AV} {K : AV → Prop} {ρ : Env} (hk : Known ρ M) (h : lenMapA T M t x K) :
    ∃ v, K v ∧ v.ok ρ ∧ x.ok ρ ∧ ∀ w, HoldsId ρ M x.id w → (Builtin.len_ #[t] ty #[x.c ρ]).run P w = .ok (v.c ρ) w := by
  unfold lenMapA at h
  split at h
  · rename_i kt et _ _ _ h1
    obtain ⟨d, hd, hk1⟩ := hT.und h1
    have hd' : d = .map kt et := by cases d <;> simp_all [tkOf]
    subst hd'
    split at h
    · exact ⟨_, h, trivial, trivial, fun w _ => by simp [Builtin.len_, run_underlying hd, AV.c, goInt]⟩
    · rename_i i g
      obtain ⟨own, y, hs, h⟩ := slotA_sound h
      split at h
      · rename_i mk es
        obtain ⟨q, hq, hw⟩ := map_of hk hs
        refine ⟨_, h, trivial, (mp_c hq).2, fun w hh => ?_⟩
        obtain ⟨ents, clock, e1, e2, e3, _, _⟩ := hw w hh
        rw [(mp_c hq).1]
        have hl := congrArg List.length e2
        simp only [List.length_map, Array.length_toList] at hl
        simp [Builtin.len_, run_underlying hd, AV.c, run_getM e1, goInt, hl]
      · exact h.elim
    · exact h.elim
  · exact h.elim

theorem makeMapA_sound {P : Program} {T : List TI} (hT : TabOK P T) {M : AH} {t : Nat} {K : AV → AH → Prop} {ρ : Env} {w : World} (hs : Sim ρ M w) (h : makeMapA T M t K) :
    ∃ v M' ρ' w', (Instr.makeMap t none).run P w = .ok (v.c ρ') w' ∧ K v M' ∧ v.ok ρ' ∧ Sim ρ' M' w' ∧ Ext ρ M w ρ' M' w' := by
  unfold makeMapA at h
  split at h
  · split at h
    · rename_i mk _
      obtain ⟨s1, e1⟩ := sim_new (x := .map mk []) (l := some (w.heap.size, 0)) (w' := w.alloc (.map #[] 0)) hs (fun b hb => Below.heap_alloc _ _ b hb) (by simp) rfl rfl rfl
        (.inl ⟨w.heap.size, 0, rfl, Nat.le_refl _, ⟨.inr ⟨rfl, rfl, #[], 0, World.alloc_heap_new w _, rfl, by simp, by simp, by simp⟩⟩⟩)
      have hq : upE ρ M.length 0 (some (w.heap.size, 0)) M.length 0 = some (some (w.heap.size, 0)) := upE_same _ _ _ _
      refine ⟨_, _, _, _, ?_, h, (mp_c hq).2, s1, e1⟩
      rw [(mp_c hq).1]
      simp [Instr.makeMap, run_newObj]
    · exact h.elim
  · exact h.elim

theorem updA_sound {P : Program} {T : List TI} (hT : TabOK P T) {M : AH} {t : Nat} {x ix v : AV} {K : AH → Prop} {ρ : Env} {w : World} (hs : Sim ρ M w) (hv : v.ok ρ) (h : updA T M t x ix v K) :
    ∃ M' w', (Instr.mapUpdate t (x.c ρ) (ix.c ρ) (v.c ρ)).run P w = .ok () w' ∧ K M' ∧ Sim ρ M' w' ∧ Ext ρ M w ρ M' w' := by
  unfold updA at h
  split at h
  · rename_i kt et _ _ _ h1
    obtain ⟨d, hd, hk1⟩ := hT.und h1
    have hd' : d = .map kt et := by cases d <;> simp_all [tkOf]
    subst hd'
    split at h
    · rename_i mk hmk
      split at h
      · rename_i k hkey
        obtain ⟨hwf, hkc⟩ := keyA_spec hkey ρ
        have hck := fun (b : Bool) (w : World) => run_checkKey (P := P) hT hmk (b := b) (k := k) (w := w)
        split at h
        · rename_i i g
          split at h
          · rename_i g' mk' es hm
            obtain ⟨rfl, h⟩ := h
            replace h := sameMK_sound h
            obtain ⟨rfl, h⟩ := h
            replace h := h _ rfl
            obtain ⟨q, hq, hw⟩ := map_of hs.known (slot_one hm)
            obtain ⟨ents, clock, e1, e2, e3, e4, e5⟩ := hw w (hs.id i)
            have hlt := lt_of_heap e1
            have hb0 : q.2 = 0 := by
              rcases hs.holds i g true _ (slot_one hm) with ⟨q', b1, b2⟩ | ⟨_, b2⟩
              · rw [hq] at b1; cases b1
                rcases b2.all with ⟨c0, _⟩ | ⟨_, c1, _⟩
                · cases c0
                · exact c1
              · exact b2.elim
            have hfk := run_findKey (P := P) (w := w) hT hmk hwf e2 (fun p hp => (e3 p hp).2)
            have hlen := congrArg List.length e2
            simp only [List.length_map, Array.length_toList] at hlen
            have put : ∀ (ents' : Array MapEntry) (clock' : Nat) (es' : List ((Int × Int) × AV)), updM k v es = es' → ents'.toList.map (fun e => (e.key, e.val)) = es'.map (fun p => (mk.v p.1, p.2.c ρ)) → (∀ p ∈ es', p.2.ok ρ ∧ mk.wf p.1) → (∀ e ∈ ents'.toList, e.born < clock') → (ents'.toList.map (·.born)).Nodup →
                (Instr.mapUpdate t ((AV.mp i g).c ρ) (ix.c ρ) (v.c ρ)).run P w = .ok () (w.putObj q.1 (.map ents' clock')) → ∃ M' w', (Instr.mapUpdate t ((AV.mp i g).c ρ) (ix.c ρ) (v.c ρ)).run P w = .ok () w' ∧ K M' ∧ Sim ρ M' w' ∧ Ext ρ M w ρ M' w' := by
              intro ents' clock' es' he' a2 a3 a4 a5 hrun
              subst he'
              obtain ⟨s1, x1⟩ := sim_set (x' := .map mk (updM k v es)) (w' := w.putObj q.1 (.map ents' clock')) hs hm hq (fun b hb => World.putObj_heap_other hb) (by simp) rfl rfl rfl
                ⟨.inr ⟨rfl, hb0, ents', clock', World.putObj_heap_same hlt, a2, a3, a4, a5⟩⟩
              exact ⟨_, _, hrun, h, s1, x1⟩
            cases hfi : findIM k es 0 with
            | none =>
              rw [hfi] at hfk
              refine put (ents.push { key := mk.v k, val := v.c ρ, born := clock }) (clock + 1) _ (findIM_none hfi v) ?_ ?_ ?_ ?_ ?_
              · simp [e2]
              · intro p hp
                rcases List.mem_append.1 hp with hp | hp
                · exact e3 p hp
                · obtain rfl := List.mem_singleton.1 hp
                  exact ⟨hv, hwf⟩
              · intro e he
                simp only [Array.toList_push, List.mem_append, List.mem_singleton] at he
                rcases he with he | rfl
                · have := e4 e he; omega
                · exact Nat.lt_succ_self _
              · simp only [Array.toList_push, List.map_append, List.map_cons, List.map_nil, List.nodup_append]
                refine ⟨e5, by simp, fun a ha b hb => ?_⟩
                obtain ⟨e, he, rfl⟩ := List.mem_map.1 ha
                have := e4 e he
                simp at hb
                omega
              · rw [(mp_c hq).1, hkc]
                simp [Instr.mapUpdate, run_underlying hd, AV.c, run_getM e1, hck, hfk, run_setM _ e1]
            | some xx =>
              obtain ⟨ii, u⟩ := xx
              rw [hfi] at hfk
              obtain ⟨_, hmem, hupd⟩ := findIM_some hfi
              simp only [Nat.sub_zero] at hmem hupd
              have hiles : ii < es.length := (List.getElem?_eq_some_iff.1 hmem).1
              have hil : ii < ents.size := by omega
              have hkeyi : (ents[ii]?).map (·.key) = some (mk.v k) := by
                have := congrArg (fun l => l[ii]?) e2
                simp only [List.getElem?_map, hmem, Option.map_some, Array.getElem?_toList] at this
                cases hx : ents[ii]? with
                | none => rw [hx] at this; cases this
                | some e => rw [hx] at this; simp at this; simp [this.1]
              refine put (ents.modify ii fun e => { e with key := mk.v k, val := v.c ρ }) clock _ (hupd v) ?_ ?_ ?_ ?_ ?_
              · apply List.ext_getElem?
                intro j
                have ej := congrArg (fun l => l[j]?) e2
                simp only [List.getElem?_map, Array.getElem?_toList] at ej
                simp only [List.getElem?_map, Array.getElem?_toList, Array.getElem?_modify, List.getElem?_set]
                by_cases hj : ii = j
                · subst hj
                  simp [hil, hiles]
                · simp only [if_neg hj]
                  exact ej
              · intro p hp
                rcases List.mem_or_eq_of_mem_set hp with hp | rfl
                · exact e3 p hp
                · exact ⟨hv, hwf⟩
              · intro e he
                obtain ⟨j, hj⟩ := List.mem_iff_getElem?.1 he
                simp only [Array.getElem?_toList, Array.getElem?_modify] at hj
                by_cases hji : ii = j
                · subst hji
                  simp only [if_true, Option.map_eq_some_iff] at hj
                  obtain ⟨e0, he0, rfl⟩ := hj
                  exact e4 e0 (Array.mem_toList_iff.2 (Array.mem_of_getElem? he0))
                · simp only [if_neg hji] at hj
                  exact e4 e (Array.mem_toList_iff.2 (Array.mem_of_getElem? hj))
              · have : (ents.modify ii fun e => { e with key := mk.v k, val := v.c ρ }).toList.map (·.born) = ents.toList.map (·.born) := by
                  apply List.ext_getElem?
                  intro j
                  simp only [List.getElem?_map, Array.getElem?_toList, Array.getElem?_modify]
                  by_cases hj : ii = j
                  · subst hj; cases ents[ii]? <;> simp
                  · simp [hj]
                rw [this]; exact e5
              · rw [(mp_c hq).1, hkc]
                simp [Instr.mapUpdate, run_underlying hd, AV.c, run_getM e1, hck, hfk, run_setM _ e1, hkeyi, Instr.keyThatStays, sameBits_key]
          · exact h.elim
        · exact h.elim
      · exact h.elim
    · exact h.elim
  · exact h.elim
end Go.Proofs.Yteinenklppbjkaa
