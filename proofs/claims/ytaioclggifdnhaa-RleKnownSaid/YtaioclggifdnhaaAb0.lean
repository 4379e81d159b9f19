/- Abstract values, abstract heaps, and what it means that a world holds one. -/
import Derived.CallsIn
import Derived.Below
import Derived.WalkKit
set_option linter.unusedVariables false
set_option linter.unusedSimpArgs false
namespace Go.Proofs.Ytaioclggifdnhaa

/-- Values with names of objects in the place of blocks. -/
inductive AV where
  | bo (x : Bool) | tt | ff
  | int (k : IntKind) (n : Int)
  | str (x : ByteArray)
  | np
  | ptr (i g off : Nat)
  | pel (i g sz j o : Nat)
  | ns
  | sl (i g off n c : Nat)
  | nf
  | fn (fn : Fn) (first cap : List AV)
  | ni
  | ifc (t : TypeId) (v : AV)
  | nm
  | mp (i g : Nat)
  | agg (l : List AV)
  | tup (l : List AV)
  | raw (v : Value)
  deriving Inhabited

/-- Where objects lie: by name and tag; 'some none': an empty slice's array that is nil. -/
abbrev Env := Nat → Nat → Option (Option (Nat × Nat))

mutual
def AV.c (ρ : Env) : AV → Value
  | .bo x => .bool x
  | .tt => .bool true
  | .ff => .bool false
  | .int k n => .int k n
  | .str x => .string x
  | .np => .pointer none
  | .ptr i g off => match ρ i g with | some (some q) => .pointer (some ⟨q.1, q.2 + off, none⟩) | _ => .pointer none
  | .pel i g sz j o => match ρ i g with | some (some q) => .pointer (some ⟨q.1, q.2 + (j * sz + o), none⟩) | _ => .pointer none
  | .ns => .slice none 0 0
  | .sl i g off n c => match ρ i g with | some (some q) => .slice (some ⟨q.1, q.2 + off, none⟩) n c | _ => .slice none n c
  | .nf => .nilFunc
  | .fn q a b => .func q (AV.cl ρ a).toArray (AV.cl ρ b).toArray
  | .ni => .nilIface
  | .ifc t v => .iface t (v.c ρ)
  | .nm => .map none
  | .mp i g => match ρ i g with | some (some q) => .map (some q.1) | _ => .map none
  | .agg l => .agg (AV.cl ρ l).toArray
  | .tup l => .tuple (AV.cl ρ l).toArray
  | .raw v => v
def AV.cl (ρ : Env) : List AV → List Value
  | [] => []
  | v :: l => v.c ρ :: AV.cl ρ l
end

mutual
/-- All its names are known. -/
def AV.ok (ρ : Env) : AV → Prop
  | .ptr i g _ => (ρ i g).isSome = true
  | .pel i g _ _ _ => (ρ i g).isSome = true
  | .sl i g _ _ _ => (ρ i g).isSome = true
  | .mp i g => (ρ i g).isSome = true
  | .fn _ a b => AV.okl ρ a ∧ AV.okl ρ b
  | .ifc _ v => v.ok ρ
  | .agg l => AV.okl ρ l
  | .tup l => AV.okl ρ l
  | _ => True
def AV.okl (ρ : Env) : List AV → Prop
  | [] => True
  | v :: l => v.ok ρ ∧ AV.okl ρ l
end

theorem AV.cl_eq (ρ : Env) (l : List AV) : AV.cl ρ l = l.map (AV.c ρ) := by
  induction l with
  | nil => rfl
  | cons v l ih => simp [AV.cl, ih]
theorem AV.okl_iff (ρ : Env) (l : List AV) : AV.okl ρ l ↔ ∀ v ∈ l, v.ok ρ := by
  induction l with
  | nil => simp [AV.okl]
  | cons v l ih => simp [AV.okl, ih]

/-- What an object holds. -/
inductive Cont where
  | cells (cs : List AV)
  | ints (k : IntKind) (xs : List Int) (c : Nat)
  | bools (xs : List Bool) (c : Nat)
  | tab (sz n : Nat) (get : Nat → List AV) (c : Nat)
  | map (kk : IntKind) (es : List (Int × AV))
  | loop (l : Nat) (st : LoopState) (pd : Option Code) (fn : FuncId) (n : Nat) (a : Nat → AV) (ps : Array Tmp) (as bd : Code) (df : Nat)
  deriving Inhabited
/-- Is it of an array? -/
def Cont.row : Cont → Bool
  | .map _ _ => false
  | .loop .. => false
  | _ => true

def Cont.at : Cont → Nat → Option AV
  | .cells cs, o => cs[o]?
  | .ints k xs _, o => (xs[o]?).map (AV.int k)
  | .bools xs _, o => (xs[o]?).map AV.bo
  | .tab sz n get _, o => if o < n * sz then (get (o / sz))[o % sz]? else none
  | _, _ => none
def Cont.size : Cont → Nat
  | .cells cs => cs.length
  | .ints _ _ c => c
  | .bools _ c => c
  | .tab sz _ _ c => c * sz
  | _ => 0
/-- May it be a nil slice's? -/
def Cont.virt : Cont → Prop
  | .cells _ => False
  | .ints _ xs c => xs = [] ∧ c = 0
  | .bools xs c => xs = [] ∧ c = 0
  | .tab _ n _ c => n = 0 ∧ c = 0
  | _ => False

/-- An object: of one array (with the tag of its present place), or a family of them. -/
inductive AO where
  | gone
  | one (own : Bool) (g : Nat) (x : Cont)
  | fam (own : Bool) (m : Nat) (x : Nat → Cont)
  deriving Inhabited

abbrev AH := List AO

def slotO : AO → Nat → Option (Bool × Cont)
  | .gone, _ => none
  | .one own g' x, g => if g = g' then some (own, x) else none
  | .fam own m x, g => if g < m then some (own, x g) else none
def slot (M : AH) (i g : Nat) : Option (Bool × Cont) :=
  match M[i]? with
  | some o => slotO o g
  | none => none

/-- What a block that is no array holds. -/
def Cont.spec (ρ : Env) (x : Cont) (b : Nat) (w : World) : Prop :=
  match x with
  | .map kk es => ∃ (ents : Array MapEntry) (clock : Nat), w.heap[b]? = some (.map ents clock) ∧ ents.toList.map (fun e => (e.key, e.val)) = es.map (fun p => (Value.int kk p.1, p.2.c ρ)) ∧ (∀ p ∈ es, p.2.ok ρ) ∧ (∀ e ∈ ents.toList, e.born < clock) ∧ (ents.toList.map (·.born)).Nodup
  | .loop l st pd fn n a ps as bd df => b = l ∧ ∃ tmps, w.heap[b]? = some (.loop { state := st, pending := pd, fn := fn, tmps := tmps, params := ps, assign := as, body := bd, defers := df }) ∧ tmps.size = n ∧ ∀ t, (a t).ok ρ ∧ tmps.getD t undef = (a t).c ρ
  | _ => False
structure Holds (ρ : Env) (own : Bool) (x : Cont) (b base : Nat) (w : World) : Prop where
  all : (x.row = true ∧ ∃ c e fr, w.heap[b]? = some (.cells c e fr) ∧ base + x.size ≤ c.size ∧ (∀ k v, x.at k = some v → v.ok ρ ∧ c[base + k]? = some (v.c ρ)) ∧ (own = true → fr = (0, 0))) ∨ (x.row = false ∧ base = 0 ∧ x.spec ρ b w)
theorem Holds.mk' {ρ : Env} {own : Bool} {x : Cont} {b base : Nat} {w : World} (hx : x.row = true) (h : ∃ c e fr, w.heap[b]? = some (.cells c e fr) ∧ base + x.size ≤ c.size ∧ (∀ k v, x.at k = some v → v.ok ρ ∧ c[base + k]? = some (v.c ρ)) ∧ (own = true → fr = (0, 0))) : Holds ρ own x b base w := ⟨.inl ⟨hx, h⟩⟩
theorem Holds.out {ρ : Env} {own : Bool} {x : Cont} {b base : Nat} {w : World} (h : Holds ρ own x b base w) (hx : x.row = true) : ∃ c e fr, w.heap[b]? = some (.cells c e fr) ∧ base + x.size ≤ c.size ∧ (∀ k v, x.at k = some v → v.ok ρ ∧ c[base + k]? = some (v.c ρ)) ∧ (own = true → fr = (0, 0)) := by
  rcases h.all with ⟨_, h⟩ | ⟨h0, _⟩
  · exact h
  · rw [hx] at h0; cases h0
theorem Cont.at_row {x : Cont} {k : Nat} {v : AV} (h : x.at k = some v) : x.row = true := by
  cases x <;> first | rfl | (simp [Cont.at] at h)
theorem Cont.row_virt {x : Cont} (h : x.virt) : x.row = true := by
  cases x <;> first | rfl | exact h.elim

/-- The world holds the abstract heap. -/
structure Sim (ρ : Env) (M : AH) (w : World) : Prop where
  dom : ∀ i g, (ρ i g).isSome = true → i < M.length
  tag : ∀ i g own g' x, M[i]? = some (.one own g' x) → (ρ i g).isSome = true → g ≤ g'
  fam : ∀ i g own m x, M[i]? = some (.fam own m x) → (ρ i g).isSome = true → g < m
  holds : ∀ i g own x, slot M i g = some (own, x) → (∃ q, ρ i g = some (some q) ∧ Holds ρ own x q.1 q.2 w) ∨ (ρ i g = some none ∧ x.virt)
  apart : ∀ i g x i' g' own' x' q q', slot M i g = some (true, x) → slot M i' g' = some (own', x') → ρ i g = some (some q) → ρ i' g' = some (some q') → q.1 = q'.1 → i = i' ∧ g = g'

/-- From one world to the next. -/
structure Ext (ρ : Env) (M : AH) (w : World) (ρ' : Env) (M' : AH) (w' : World) : Prop where
  env : ∀ i g l, ρ i g = some l → ρ' i g = some l
  size : w.heap.size ≤ w'.heap.size
  frame : ∀ b, b < w.heap.size → (∀ i g x q, slot M i g = some (true, x) → ρ i g = some (some q) → q.1 ≠ b) → w'.heap[b]? = w.heap[b]?
  fresh : ∀ i g x q, slot M' i g = some (true, x) → ρ' i g = some (some q) → q.1 < w.heap.size → ∃ i0 g0 x0 q0, slot M i0 g0 = some (true, x0) ∧ ρ i0 g0 = some (some q0) ∧ q0.1 = q.1
  os : w'.os = w.os
  tape : w'.tape = w.tape
  output : w'.output = w.output

theorem Ext.refl (ρ : Env) (M : AH) (w : World) : Ext ρ M w ρ M w :=
  ⟨fun _ _ _ h => h, Nat.le_refl _, fun _ _ _ => rfl, fun i g x q h1 h2 _ => ⟨i, g, x, q, h1, h2, rfl⟩, rfl, rfl, rfl⟩

theorem Ext.trans {ρ ρ' ρ'' : Env} {M M' M'' : AH} {w w' w'' : World} (h : Ext ρ M w ρ' M' w') (h' : Ext ρ' M' w' ρ'' M'' w'') : Ext ρ M w ρ'' M'' w'' where
  env := fun i g l e => h'.env i g l (h.env i g l e)
  size := Nat.le_trans h.size h'.size
  frame := fun b hb hn => by
    rw [h'.frame b (Nat.lt_of_lt_of_le hb h.size) ?_, h.frame b hb hn]
    intro i g x q h1 h2 e
    obtain ⟨i0, g0, x0, q0, a1, a2, a3⟩ := h.fresh i g x q h1 h2 (by omega)
    exact hn i0 g0 x0 q0 a1 a2 (by omega)
  fresh := fun i g x q h1 h2 hb => by
    obtain ⟨i0, g0, x0, q0, a1, a2, a3⟩ := h'.fresh i g x q h1 h2 (Nat.lt_of_lt_of_le hb h.size)
    obtain ⟨i1, g1, x1, q1, b1, b2, b3⟩ := h.fresh i0 g0 x0 q0 a1 a2 (by omega)
    exact ⟨i1, g1, x1, q1, b1, b2, by omega⟩
  os := h'.os.trans h.os
  tape := h'.tape.trans h.tape
  output := h'.output.trans h.output

/-! Names that are known stay known, and mean what they meant. -/
mutual
theorem AV.ok_ext {ρ ρ' : Env} (h : ∀ i g l, ρ i g = some l → ρ' i g = some l) : ∀ v : AV, v.ok ρ → v.ok ρ'
  | .ptr i g _ => fun k => by
    simp only [AV.ok] at k ⊢; obtain ⟨l, e⟩ := Option.isSome_iff_exists.1 k; rw [h _ _ _ e]; rfl
  | .pel i g _ _ _ => fun k => by
    simp only [AV.ok] at k ⊢; obtain ⟨l, e⟩ := Option.isSome_iff_exists.1 k; rw [h _ _ _ e]; rfl
  | .sl i g _ _ _ => fun k => by
    simp only [AV.ok] at k ⊢; obtain ⟨l, e⟩ := Option.isSome_iff_exists.1 k; rw [h _ _ _ e]; rfl
  | .mp i g => fun k => by
    simp only [AV.ok] at k ⊢; obtain ⟨l, e⟩ := Option.isSome_iff_exists.1 k; rw [h _ _ _ e]; rfl
  | .fn _ a b => fun k => by simp only [AV.ok] at k ⊢; exact ⟨AV.okl_ext h a k.1, AV.okl_ext h b k.2⟩
  | .ifc _ v => fun k => by simp only [AV.ok] at k ⊢; exact AV.ok_ext h v k
  | .agg l => fun k => by simp only [AV.ok] at k ⊢; exact AV.okl_ext h l k
  | .tup l => fun k => by simp only [AV.ok] at k ⊢; exact AV.okl_ext h l k
  | .bo _ => fun _ => trivial | .tt => fun _ => trivial | .ff => fun _ => trivial | .int _ _ => fun _ => trivial | .str _ => fun _ => trivial
  | .np => fun _ => trivial | .ns => fun _ => trivial | .nf => fun _ => trivial | .ni => fun _ => trivial | .nm => fun _ => trivial | .raw _ => fun _ => trivial
theorem AV.okl_ext {ρ ρ' : Env} (h : ∀ i g l, ρ i g = some l → ρ' i g = some l) : ∀ l : List AV, AV.okl ρ l → AV.okl ρ' l
  | [] => fun _ => trivial
  | v :: l => fun k => by simp only [AV.okl] at k ⊢; exact ⟨AV.ok_ext h v k.1, AV.okl_ext h l k.2⟩
end
mutual
theorem AV.c_ext {ρ ρ' : Env} (h : ∀ i g l, ρ i g = some l → ρ' i g = some l) : ∀ v : AV, v.ok ρ → v.c ρ' = v.c ρ
  | .ptr i g _ => fun k => by
    simp only [AV.ok] at k; obtain ⟨l, e⟩ := Option.isSome_iff_exists.1 k; simp only [AV.c, e, h _ _ _ e]
  | .pel i g _ _ _ => fun k => by
    simp only [AV.ok] at k; obtain ⟨l, e⟩ := Option.isSome_iff_exists.1 k; simp only [AV.c, e, h _ _ _ e]
  | .sl i g _ _ _ => fun k => by
    simp only [AV.ok] at k; obtain ⟨l, e⟩ := Option.isSome_iff_exists.1 k; simp only [AV.c, e, h _ _ _ e]
  | .mp i g => fun k => by
    simp only [AV.ok] at k; obtain ⟨l, e⟩ := Option.isSome_iff_exists.1 k; simp only [AV.c, e, h _ _ _ e]
  | .fn _ a b => fun k => by simp only [AV.ok] at k; simp only [AV.c, AV.cl_ext h a k.1, AV.cl_ext h b k.2]
  | .ifc _ v => fun k => by simp only [AV.ok] at k; simp only [AV.c, AV.c_ext h v k]
  | .agg l => fun k => by simp only [AV.ok] at k; simp only [AV.c, AV.cl_ext h l k]
  | .tup l => fun k => by simp only [AV.ok] at k; simp only [AV.c, AV.cl_ext h l k]
  | .bo _ => fun _ => rfl | .tt => fun _ => rfl | .ff => fun _ => rfl | .int _ _ => fun _ => rfl | .str _ => fun _ => rfl
  | .np => fun _ => rfl | .ns => fun _ => rfl | .nf => fun _ => rfl | .ni => fun _ => rfl | .nm => fun _ => rfl | .raw _ => fun _ => rfl
theorem AV.cl_ext {ρ ρ' : Env} (h : ∀ i g l, ρ i g = some l → ρ' i g = some l) : ∀ l : List AV, AV.okl ρ l → AV.cl ρ' l = AV.cl ρ l
  | [] => fun _ => rfl
  | v :: l => fun k => by simp only [AV.okl] at k; simp only [AV.cl, AV.c_ext h v k.1, AV.cl_ext h l k.2]
end

theorem Cont.spec_ext {ρ ρ' : Env} (h : ∀ i g l, ρ i g = some l → ρ' i g = some l) {x : Cont} {b : Nat} {w w' : World} (hw : w'.heap[b]? = w.heap[b]?) (k : x.spec ρ b w) : x.spec ρ' b w' := by
  cases x with
  | map kk es =>
    obtain ⟨ents, clock, h1, h2, h3, h4, h5⟩ := k
    refine ⟨ents, clock, hw.trans h1, ?_, fun p hp => AV.ok_ext h _ (h3 p hp), h4, h5⟩
    rw [h2]
    exact List.map_congr_left fun p hp => by rw [AV.c_ext h _ (h3 p hp)]
  | loop l st pd fn n a ps as bd df =>
    obtain ⟨h1, tmps, h2, h3, h4⟩ := k
    exact ⟨h1, tmps, hw.trans h2, h3, fun t => ⟨AV.ok_ext h _ (h4 t).1, by rw [AV.c_ext h _ (h4 t).1]; exact (h4 t).2⟩⟩
  | cells _ => exact k.elim
  | ints _ _ _ => exact k.elim
  | bools _ _ => exact k.elim
  | tab _ _ _ _ => exact k.elim
theorem Holds.ext {ρ ρ' : Env} (h : ∀ i g l, ρ i g = some l → ρ' i g = some l) {own : Bool} {x : Cont} {b base : Nat} {w w' : World} (hw : w'.heap[b]? = w.heap[b]?) (k : Holds ρ own x b base w) : Holds ρ' own x b base w' := by
  rcases k.all with ⟨hx, c, e, fr, h1, h2, h3, h4⟩ | ⟨hx, hb, hs⟩
  · exact .mk' hx ⟨c, e, fr, hw.trans h1, h2, fun k v hv => ⟨AV.ok_ext h v (h3 k v hv).1, by rw [AV.c_ext h v (h3 k v hv).1]; exact (h3 k v hv).2⟩, h4⟩
  · exact ⟨.inr ⟨hx, hb, Cont.spec_ext h hw hs⟩⟩

theorem Holds.back {ρ ρ' : Env} (h : ∀ i g l, ρ i g = some l → ρ' i g = some l) {own : Bool} {x : Cont} {b base : Nat} {w w' : World} (k : Holds ρ own x b base w) (k' : Holds ρ' own x b base w') : Holds ρ own x b base w' := by
  rcases k'.all with ⟨hx, c, e, fr, h1, h2, h3, h4⟩ | ⟨hx, hb, hs⟩
  · obtain ⟨c0, e0, fr0, k1, k2, k3, k4⟩ := k.out hx
    refine .mk' hx ⟨c, e, fr, h1, h2, fun j v hv => ?_, h4⟩
    have hok := (k3 j v hv).1
    exact ⟨hok, by rw [← AV.c_ext h v hok]; exact (h3 j v hv).2⟩
  · rcases k.all with ⟨hx', _⟩ | ⟨_, _, hs0⟩
    · rw [hx] at hx'; cases hx'
    · refine ⟨.inr ⟨hx, hb, ?_⟩⟩
      cases x with
      | map kk es =>
        obtain ⟨ents, clock, h1, h2, h3, h4, h5⟩ := hs
        obtain ⟨_, _, _, _, k3, _⟩ := hs0
        refine ⟨ents, clock, h1, ?_, k3, h4, h5⟩
        rw [h2]
        exact List.map_congr_left fun p hp => by rw [AV.c_ext h _ (k3 p hp)]
      | loop l st pd fn n a ps as bd df =>
        obtain ⟨h1, tmps, h2, h3, h4⟩ := hs
        obtain ⟨_, _, _, _, k4⟩ := hs0
        exact ⟨h1, tmps, h2, h3, fun t => ⟨(k4 t).1, by rw [← AV.c_ext h _ (k4 t).1]; exact (h4 t).2⟩⟩
      | cells _ => exact hs.elim
      | ints _ _ _ => exact hs.elim
      | bools _ _ => exact hs.elim
      | tab _ _ _ _ => exact hs.elim

end Go.Proofs.Ytaioclggifdnhaa
