/- Every operation that leaves the world alone: its rule, and that the rule is sound. -/
import Derived.Test.YtaioclggifdnhaaAb1
set_option linter.unusedVariables false
set_option linter.unusedSimpArgs false
open Go.RowKit
namespace Go.Proofs.Ytaioclggifdnhaa

/-- An object, by its name and its tag. -/
def slotA (M : AH) (i g : Nat) (K : Bool → Cont → Prop) : Prop :=
  match M[i]? with
  | some (.one own g' x) => g = g' ∧ K own x
  | some (.fam own m x) => g < m ∧ K own (x g)
  | _ => False
theorem slotA_sound {M : AH} {i g : Nat} {K : Bool → Cont → Prop} (h : slotA M i g K) : ∃ own x, slot M i g = some (own, x) ∧ K own x := by
  unfold slotA at h
  split at h
  · rename_i own g' x hm
    obtain ⟨rfl, h⟩ := h
    exact ⟨own, x, by simp [slot, hm, slotO], h⟩
  · rename_i own m x hm
    exact ⟨own, x g, by simp [slot, hm, slotO, h.1], h.2⟩
  · exact h.elim

/-- '==' with nil, and on bools. -/
def eqA (neg : Bool) (M : AH) (k : TK) (x y : AV) (K : AV → Prop) : Prop :=
  match k with
  | .ptr _ => match x, y with
    | .np, .np => K (if neg then .ff else .tt)
    | .ptr i g off, .np => slotA M i g fun own x_ => match x_ with
      | .cells _ => K (if neg then .tt else .ff)
      | _ => False
    | .np, .ptr i g off => slotA M i g fun own x_ => match x_ with
      | .cells _ => K (if neg then .tt else .ff)
      | _ => False
    | _, _ => False
  | .slice _ => match x, y with
    | .ns, .ns => K (if neg then .ff else .tt)
    | .sl i g off n c, .ns => slotA M i g fun own x_ => match x_ with
      | .cells _ => K (if neg then .tt else .ff)
      | .ints _ xs co => ∀ b : Bool, (b = true → xs = [] ∧ co = 0) → K (.bo (if neg then !b else b))
      | .bools xs co => ∀ b : Bool, (b = true → xs = [] ∧ co = 0) → K (.bo (if neg then !b else b))
      | .tab _ m _ co => ∀ b : Bool, (b = true → m = 0 ∧ co = 0) → K (.bo (if neg then !b else b))
      | _ => False
    | _, _ => False
  | .func => match x, y with
    | .nf, .nf => K (if neg then .ff else .tt)
    | .fn _ _ _, .nf => K (if neg then .tt else .ff)
    | _, _ => False
  | .iface => match x, y with
    | .ifc _ _, .ni => K (if neg then .tt else .ff)
    | _, _ => False
  | .bool => match x.asB, y.asB with
    | some p, some q => K (.bo (if neg then !(p == q) else p == q))
    | _, _ => False
  | _ => False

/-- A test that the kernel decides. -/
def condT (b : Bool) (p : Prop) : Prop := match b with | true => p | false => False
theorem condT_sound {b : Bool} {p : Prop} (h : condT b p) : b = true ∧ p := by
  cases b
  · exact h.elim
  · exact ⟨rfl, h⟩

def offS (c l off sz : Nat) : Nat := if c = l then off else off + l * sz

def sliceA (T : List TI) (t : Nat) (x : AV) (lo hi : Option AV) (K : AV → Prop) : Prop :=
  match x with
  | .sl i g off n c => match T[t]? with
    | some ⟨.slice e, _, _, _⟩ => match T[e]? with
      | some te => match lo, hi with
        | none, none => K (.sl i g off n c)
        | none, some (.int _ h) => (0 ≤ h ∧ h ≤ c) ∧ K (.sl i g off h.toNat c)
        | some (.int _ l), none => (0 ≤ l ∧ l ≤ n) ∧ n ≤ c ∧ K (.sl i g (offS c l.toNat off te.size) (n - l.toNat) (c - l.toNat))
        | some (.int _ l), some (.int _ h) => (0 ≤ l ∧ l ≤ h ∧ h ≤ c) ∧ K (.sl i g (offS c l.toNat off te.size) (h.toNat - l.toNat) (c - l.toNat))
        | _, _ => False
      | none => False
    | _ => False
  | .str s => match T[t]? with
    | some ⟨.str, _, _, _⟩ => match lo, hi with
      | none, none => K (.str (s.extract 0 s.size))
      | none, some (.int _ h) => (0 ≤ h ∧ h ≤ s.size) ∧ K (.str (s.extract 0 h.toNat))
      | some (.int _ l), none => (0 ≤ l ∧ l ≤ s.size) ∧ K (.str (s.extract l.toNat s.size))
      | some (.int _ l), some (.int _ h) => (0 ≤ l ∧ l ≤ h ∧ h ≤ s.size) ∧ K (.str (s.extract l.toNat h.toNat))
      | _, _ => False
    | _ => False
  | _ => False

/-- x[lo:hi:mx] -/
def slice3A (T : List TI) (t : Nat) (x : AV) (lo hi : Option AV) (mx : AV) (K : AV → Prop) : Prop :=
  match x with
  | .sl i g off n c => match T[t]? with
    | some ⟨.slice e, _, _, _⟩ => match T[e]? with
      | some te => match lo, hi, mx with
        | none, some (.int _ h), .int _ m => (0 ≤ h ∧ h ≤ m ∧ m ≤ c) ∧ K (.sl i g off h.toNat m.toNat)
        | some (.int _ l), some (.int _ h), .int _ m => (0 ≤ l ∧ l ≤ h ∧ h ≤ m ∧ m ≤ c) ∧ K (.sl i g (offS m.toNat l.toNat off te.size) (h.toNat - l.toNat) (m.toNat - l.toNat))
        | _, _, _ => False
      | none => False
    | _ => False
  | _ => False

def idxA (T : List TI) (M : AH) (t : Nat) (x ix : AV) (K : AV → Prop) : Prop :=
  match ix with
  | .int _ z => match x with
    | .sl i g off n c => match T[t]? with
      | some ⟨.slice e, _, _, _⟩ => match T[e]? with
        | some te => (0 ≤ z ∧ z < n) ∧ slotA M i g fun own x_ => match x_ with
          | .cells _ => K (.ptr i g (off + z.toNat * te.size))
          | .ints _ xs _ => condT (Nat.beq te.size 1) (0 < xs.length ∧ K (.ptr i g (z.toNat + off)))
          | .bools xs _ => condT (Nat.beq te.size 1) (0 < xs.length ∧ K (.ptr i g (z.toNat + off)))
          | .tab sz m _ _ => match off with
            | 0 => condT (Nat.beq te.size sz) (0 < m ∧ K (.pel i g sz z.toNat 0))
            | _ => False
          | _ => False
        | none => False
      | _ => False
    | .ptr i g off => match T[t]? with
      | some ⟨.arr n e, _, _, _⟩ => match T[e]? with
        | some te => (0 ≤ z ∧ z < n) ∧ slotA M i g fun own x_ => match x_ with
          | .cells _ => K (.ptr i g (off + z.toNat * te.size))
          | _ => False
        | none => False
      | _ => False
    | _ => False
  | _ => False

/-- Values that are a part of another one. -/
def partA (ti : TI) (l : List AV) (off : Nat) (K : AV → Prop) : Prop :=
  match ti.k.isAgg with
  | true => K (.agg ((l.drop off).take ti.size))
  | false => match l[off]? with
    | some v => K v
    | none => False

/-- Of what is known of a name: that it is no nil slice's. -/
def liveA (M : AH) (v : AV) (p : Prop) : Prop :=
  match v with
  | .ptr i g off => slotA M i g fun own x_ => match x_ with
    | .cells _ => p
    | .ints _ xs _ => off < xs.length ∧ p
    | .bools xs _ => off < xs.length ∧ p
    | _ => False
  | .pel i g _ j _ => slotA M i g fun own x_ => match x_ with
    | .tab _ n _ _ => j < n ∧ p
    | _ => False
  | _ => False

/-- The value, with its head in sight. -/
def forceA (v : AV) (K : AV → Prop) : Prop :=
  match v with
  | .bo x => K (.bo x) | .tt => K .tt | .ff => K .ff | .int k n => K (.int k n) | .str x => K (.str x) | .np => K .np | .ptr i g off => K (.ptr i g off) | .pel i g sz j o => K (.pel i g sz j o)
  | .ns => K .ns | .sl i g off n c => K (.sl i g off n c) | .nf => K .nf | .fn q a b => K (.fn q a b) | .ni => K .ni | .ifc t v => K (.ifc t v) | .nm => K .nm | .mp i g => K (.mp i g)
  | .agg l => K (.agg l) | .tup l => K (.tup l) | .raw v => K (.raw v)
theorem forceA_eq {v : AV} {K : AV → Prop} (h : forceA v K) : K v := by cases v <;> exact h

def pureA (T : List TI) (wr : Bool) (M : AH) (e : Operand → AV) (o : Op) (K : AV → Prop) : Prop :=
  match o with
  | .move x | .assign x => forceA (e x) K
  | .pick c a b => match e c with
    | .tt => forceA (e a) K
    | .ff => forceA (e b) K
    | .bo x => (x = true → forceA (e a) K) ∧ (x = false → forceA (e b) K)
    | _ => False
  | .nilCheck x => match e x with
    | .fn (.func f) a b => K (.fn (.func f) a b)
    | v => liveA M v (K v)
  | .binOp op t x y _ => match op with
    | .eql => match e x, e y with
      | .int k a, .int k' b => binA wr .eql (.int k a) (.int k' b) K
      | .str a, .str b => binA wr .eql (.str a) (.str b) K
      | a, b => match T[t]? with
        | some ti => eqA false M ti.k a b K
        | none => False
    | .neq => match e x, e y with
      | .int k a, .int k' b => binA wr .neq (.int k a) (.int k' b) K
      | .str a, .str b => binA wr .neq (.str a) (.str b) K
      | a, b => match T[t]? with
        | some ti => eqA true M ti.k a b K
        | none => False
    | op => binA wr op (e x) (e y) K
  | .unOp op _ x => match op, e x with
    | .not, .tt => K .ff
    | .not, .ff => K .tt
    | .not, .bo b => K (.bo (!b))
    | .neg, .int k n => arith k wr (0 - n) fun z => K (.int k z)
    | .xor, .int k n => K (.int k (bitF .xor k (if k.signed then -1 else k.max) n))
    | _, _ => False
  | .convert src dst x => match e x, T[src]?, T[dst]? with
    | .int _ n, some _, some ⟨.int k, _, _, _⟩ => arith k wr n fun z => K (.int k z)
    | _, _, _ => False
  | .makeInterface t x => match T[t]? with
    | some ⟨.iface, _, _, _⟩ => False
    | some _ => K (.ifc t (e x))
    | none => False
  | .makeFunc fn first cap => K (.fn fn (first.toList.map e) (cap.toList.map e))
  | .extract x ix => match e x with
    | .tup l => match l[ix]? with
      | some v => K v
      | none => False
    | _ => False
  | .field t x f => match e x, T[t]? with
    | .agg l, some ⟨.struct fs, _, _, _⟩ => match fs[f]? with
      | some (off, ft) => match T[ft]? with
        | some ti => partA ti l off K
        | none => False
      | none => False
    | _, _ => False
  | .fieldAddr t x f => match T[t]? with
    | some ⟨.struct fs, _, _, _⟩ => match fs[f]? with
      | some (off, ft) => match T[ft]? with
        | some ti => condT (!Nat.beq ti.size 0) (match e x with
          | .ptr i g o => liveA M (.ptr i g o) (K (.ptr i g (o + off)))
          | .pel i g sz j o => liveA M (.pel i g sz j o) (K (.pel i g sz j (o + off)))
          | _ => False)
        | none => False
      | none => False
    | _ => False
  | .indexAddr t x ix => idxA T M t (e x) (e ix) K
  | .index t x ix => match e x, e ix, T[t]? with
    | .agg l, .int _ z, some ⟨.arr n el, _, _, _⟩ => match T[el]? with
      | some ti => (0 ≤ z ∧ z < n) ∧ partA ti l (z.toNat * ti.size) K
      | none => False
    | .str s, .int _ z, some ⟨.str, _, _, _⟩ => (0 ≤ z ∧ z < s.size) ∧ K (.int .u8 (((s.data.toList.getD z.toNat 0).toNat : Nat) : Int))
    | _, _, _ => False
  | .slice t x lo hi none => sliceA T t (e x) (lo.map e) (hi.map e) K
  | .slice t x lo hi (some mx) => slice3A T t (e x) (lo.map e) (hi.map e) (e mx) K
  | .typeAssert x _ asserted ok => match T[asserted]?, e x with
    | some ⟨.iface, _, _, _⟩, _ => False
    | some ti, .ifc t v => match Nat.beq t asserted with
      | true => K (match ok with | true => .tup [v, .tt] | false => v)
      | false => match ok with
        | true => ∀ z, K (.tup [.raw z, .ff])
        | false => False
    | some ti, .ni => match ok with
        | true => ∀ z, K (.tup [.raw z, .ff])
        | false => False
    | _, _ => False
  | .call ⟨.builtin .len, args, tys⟩ => match args.toList, tys.toList with
    | [x], [t] => match e x, T[t]? with
      | .ns, some ⟨.slice _, _, _, _⟩ => K (.int .i64 0)
      | .sl _ _ _ n _, some ⟨.slice _, _, _, _⟩ => K (.int .i64 (n : Int))
      | .str s, some ⟨.str, _, _, _⟩ => K (.int .i64 (s.size : Int))
      | _, some ⟨.arr n _, _, _, _⟩ => K (.int .i64 (n : Int))
      | _, _ => False
    | _, _ => False
  | .call ⟨.builtin .min, args, _⟩ => match args.toList with
    | [x, y] => match e x, e y with
      | .int k a, .int _ b => K (.int k (min a b))
      | _, _ => False
    | _ => False
  | .call ⟨.builtin .max, args, _⟩ => match args.toList with
    | [x, y] => match e x, e y with
      | .int k a, .int _ b => K (.int k (max a b))
      | _, _ => False
    | _ => False
  | .build t parts => match T[t]? with
    | some ⟨.struct fs, _, _, z⟩ => match placesL T fs with
      | some pl => match fillL (fun i => pl[i]?) z (parts.toList.map fun x => (x.1, e x.2)) with
        | some cs => K (.agg cs)
        | none => False
      | none => False
    | some ⟨.arr _ el, _, _, z⟩ => match T[el]? with
      | some te => match fillL (fun i => some (i * te.size, te.size)) z (parts.toList.map fun x => (x.1, e x.2)) with
        | some cs => K (.agg cs)
        | none => False
      | none => False
    | _ => False
  | .call ⟨.builtin .cap, args, tys⟩ => match args.toList, tys.toList with
    | [x], [t] => match e x, T[t]? with
      | .ns, some ⟨.slice _, _, _, _⟩ => K (.int .i64 0)
      | .sl _ _ _ _ c, some ⟨.slice _, _, _, _⟩ => K (.int .i64 (c : Int))
      | _, _ => False
    | _, _ => False
  | _ => False

/-- What is known of the names of a heap, whatever the world. -/
def Known (ρ : Env) (M : AH) : Prop := ∀ i g own x, slot M i g = some (own, x) → (∃ q, ρ i g = some (some q)) ∨ (ρ i g = some none ∧ x.virt)
theorem Sim.known {ρ : Env} {M : AH} {w : World} (h : Sim ρ M w) : Known ρ M := fun i g own x hs => by
  rcases h.holds i g own x hs with ⟨q, hq, _⟩ | h
  · exact .inl ⟨q, hq⟩
  · exact .inr h
theorem Known.ext {ρ ρ' : Env} {M : AH} (h : Known ρ M) (he : ∀ i g l, ρ i g = some l → ρ' i g = some l) : Known ρ' M := fun i g own x hs => by
  rcases h i g own x hs with ⟨q, hq⟩ | ⟨h1, h2⟩
  · exact .inl ⟨q, he _ _ _ hq⟩
  · exact .inr ⟨he _ _ _ h1, h2⟩

/-- In every world the operation answers v. -/
def Ans (P : Program) (s : Sem Value) (v : Value) : Prop := ∀ w, s.run P w = .ok v w

theorem liveA_sound {ρ : Env} {M : AH} {v : AV} {p : Prop} (hk : Known ρ M) (h : liveA M v p) : p ∧ v.ok ρ ∧ ∃ a : Addr, a.spot = none ∧ v.c ρ = .pointer (some a) := by
  unfold liveA at h
  split at h
  · rename_i i g off
    replace h := slotA_sound h
    obtain ⟨own, x_, hs, h⟩ := h
    split at h
    · rename_i cs
      rcases hk _ _ _ _ hs with ⟨q, hq⟩ | ⟨_, h2⟩
      · exact ⟨h, by simp [AV.ok, hq], ⟨q.1, q.2 + off, none⟩, rfl, by simp [AV.c, hq]⟩
      · exact h2.elim
    · rename_i k xs c
      rcases hk _ _ _ _ hs with ⟨q, hq⟩ | ⟨_, h2⟩
      · exact ⟨h.2, by simp [AV.ok, hq], ⟨q.1, q.2 + off, none⟩, rfl, by simp [AV.c, hq]⟩
      · have := h.1; simp [h2.1] at this
    · rename_i xs c
      rcases hk _ _ _ _ hs with ⟨q, hq⟩ | ⟨_, h2⟩
      · exact ⟨h.2, by simp [AV.ok, hq], ⟨q.1, q.2 + off, none⟩, rfl, by simp [AV.c, hq]⟩
      · have := h.1; simp [h2.1] at this
    · exact h.elim
  · rename_i i g sz j o
    replace h := slotA_sound h
    obtain ⟨own, x_, hs, h⟩ := h
    split at h
    · rename_i s n get c
      rcases hk _ _ _ _ hs with ⟨q, hq⟩ | ⟨_, h2⟩
      · exact ⟨h.2, by simp [AV.ok, hq], ⟨q.1, q.2 + (j * sz + o), none⟩, rfl, by simp [AV.c, hq]⟩
      · have := h.1; have := h2.1; omega
    · exact h.elim
  · exact h.elim

theorem TabOK.und {P : Program} {T : List TI} (h : TabOK P T) {t : Nat} {ti : TI} (ht : T[t]? = some ti) : ∃ d, P.underlying t = some d ∧ tkOf d = ti.k := by
  obtain ⟨d, i, z, h1, h2, h3, rfl⟩ := h.get ht
  exact ⟨d, h1, rfl⟩
theorem tkOf_ptr {d : TypeDesc} {e : Nat} (h : tkOf d = .ptr e) : d = .pointer e := by cases d <;> simp_all [tkOf]
theorem tkOf_slice {d : TypeDesc} {e : Nat} (h : tkOf d = .slice e) : d = .slice e := by cases d <;> simp_all [tkOf]
theorem tkOf_arr {d : TypeDesc} {n e : Nat} (h : tkOf d = .arr n e) : d = .array n e := by cases d <;> simp_all [tkOf]
theorem tkOf_bool {d : TypeDesc} (h : tkOf d = .bool) : d = .bool := by cases d <;> simp_all [tkOf]
theorem tkOf_str {d : TypeDesc} (h : tkOf d = .str) : d = .string := by cases d <;> simp_all [tkOf]
theorem tkOf_int {d : TypeDesc} {k : IntKind} (h : tkOf d = .int k) : d = .int k := by cases d <;> simp_all [tkOf]
theorem tkOf_func {d : TypeDesc} (h : tkOf d = .func) : ∃ a b c, d = .func a b c := by cases d <;> simp_all [tkOf]
theorem tkOf_iface {d : TypeDesc} (h : tkOf d = .iface) : ∃ ms, d = .interface ms := by cases d <;> simp_all [tkOf]
theorem tkOf_struct {d : TypeDesc} {fs : List (Nat × Nat)} (h : tkOf d = .struct fs) : ∃ f, d = .struct f ∧ fs = f.toList.map fun f => (f.offset, f.type) := by cases d <;> simp_all [tkOf]

theorem run_eqGuard_other {P : Program} {w : World} {op : BinOp} {t : Nat} {x y : Operand} {a b : Value} (h1 : a ≠ .nilIface ∨ b ≠ .nilIface) (h2 : ∀ c, a ≠ .agg c) : (eqGuard op t x y a b).run P w = .ok () w := by
  cases a <;> cases b <;> first
    | (exfalso; rcases h1 with h | h <;> exact h rfl)
    | (exfalso; exact h2 _ rfl)
    | (cases op <;> rfl)

/-- The answer of '==' and of '!='. -/
theorem eq_run {P : Program} {t : Nat} {x y : Value} {r : Bool} (neg : Bool) (h : ∀ w, (Op.equal t x y).run P w = .ok r w) (h1 : x ≠ .nilIface ∨ y ≠ .nilIface) (h2 : ∀ c, x ≠ .agg c)
    (hb : ∀ op, op = .eql ∨ op = .neq → binOp op t x y = (match op with | .eql => do pure (.bool (← Op.equal t x y)) | _ => do pure (.bool (!(← Op.equal t x y))))) (ox oy : Operand) :
    Ans P (do eqGuard (if neg then .neq else .eql) t ox oy x y; binOp (if neg then .neq else .eql) t x y) (.bool (if neg then !r else r)) := by
  intro w
  cases neg
  · simp only [Bool.false_eq_true, if_false]
    rw [Sem.run_bind, run_eqGuard_other h1 h2, hb _ (.inl rfl)]
    simp [h w]
  · simp only [if_true]
    rw [Sem.run_bind, run_eqGuard_other h1 h2, hb _ (.inr rfl)]
    simp [h w]

theorem run_equal_of {P : Program} {t : Nat} {x y : Value} {r : Bool} (h : ∀ d w, (Op.equalIn (d + 1) t x y).run P w = .ok r w) (w : World) : (Op.equal t x y).run P w = .ok r w := h 9999 w

theorem eqA_sound {P : Program} {T : List TI} (hT : TabOK P T) {neg : Bool} {M : AH} {t : Nat} {ti : TI} (ht : T[t]? = some ti) {x y : AV} {K : AV → Prop} {ρ : Env} (hk : Known ρ M)
    (h : eqA neg M ti.k x y K) : ∃ v, K v ∧ v.ok ρ ∧ ∀ ox oy, Ans P (do eqGuard (if neg then .neq else .eql) t ox oy (x.c ρ) (y.c ρ); binOp (if neg then .neq else .eql) t (x.c ρ) (y.c ρ)) (v.c ρ) := by
  obtain ⟨d, hd, hkd⟩ := hT.und ht
  have tf : ∀ r : Bool, ∃ v : AV, (v = if r then AV.tt else AV.ff) ∧ v.ok ρ ∧ v.c ρ = .bool r := fun r => by cases r <;> exact ⟨_, rfl, by trivial, rfl⟩
  unfold eqA at h
  split at h
  · rename_i e hke
    rw [hke] at hkd; obtain rfl := tkOf_ptr hkd
    have e0 : ∀ (a b : Option Addr), (a = none ∨ b = none) → ∀ w, (Op.equal t (.pointer a) (.pointer b)).run P w = .ok (a.isNone && b.isNone) w := by
      intro a b hab
      refine run_equal_of fun d w => ?_
      rcases a with _ | a <;> rcases b with _ | b <;> first | (simp [Op.equalIn, run_underlying hd]; done) | simp at hab
    have hb : ∀ (a b : Option Addr), (a = none ∨ b = none) → ∀ op, op = .eql ∨ op = .neq → binOp op t (.pointer a) (.pointer b) = (match op with | .eql => do pure (.bool (← Op.equal t (.pointer a) (.pointer b))) | _ => do pure (.bool (!(← Op.equal t (.pointer a) (.pointer b))))) := by
      intro a b hab op hop
      rcases hop with rfl | rfl <;> rcases a with _ | a <;> rcases b with _ | b <;> rfl
    split at h
    · obtain ⟨v, hv, hok, hc⟩ := tf (if neg then false else true)
      refine ⟨v, by rw [hv]; cases neg <;> exact h, hok, fun ox oy => ?_⟩
      have := eq_run neg (e0 none none (.inl rfl)) (.inl (by simp)) (by simp) (hb none none (.inl rfl)) ox oy
      rw [hc]; cases neg <;> simpa [AV.c] using this
    · rename_i i g off
      replace h := slotA_sound h
      obtain ⟨own, x_, hs, h⟩ := h
      split at h
      · rename_i cs
        rcases hk _ _ _ _ hs with ⟨q, hq⟩ | ⟨_, h2⟩
        · obtain ⟨v, hv, hok, hc⟩ := tf neg
          refine ⟨v, by rw [hv]; cases neg <;> exact h, hok, fun ox oy => ?_⟩
          have := eq_run neg (e0 (some ⟨q.1, q.2 + off, none⟩) none (.inr rfl)) (.inl (by simp)) (by simp) (hb (some ⟨q.1, q.2 + off, none⟩) none (.inr rfl)) ox oy
          rw [hc]; cases neg <;> simpa [AV.c, hq] using this
        · exact h2.elim
      · exact h.elim
    · rename_i i g off
      replace h := slotA_sound h
      obtain ⟨own, x_, hs, h⟩ := h
      split at h
      · rename_i cs
        rcases hk _ _ _ _ hs with ⟨q, hq⟩ | ⟨_, h2⟩
        · obtain ⟨v, hv, hok, hc⟩ := tf neg
          refine ⟨v, by rw [hv]; cases neg <;> exact h, hok, fun ox oy => ?_⟩
          have := eq_run neg (e0 none (some ⟨q.1, q.2 + off, none⟩) (.inl rfl)) (.inl (by simp)) (by simp) (hb none (some ⟨q.1, q.2 + off, none⟩) (.inl rfl)) ox oy
          rw [hc]; cases neg <;> simpa [AV.c, hq] using this
        · exact h2.elim
      · exact h.elim
    · exact h.elim
  · rename_i e hke
    rw [hke] at hkd; obtain rfl := tkOf_slice hkd
    have e0 : ∀ (a : Option Addr) (n c n' c' : Nat), ∀ w, (Op.equal t (.slice a n c) (.slice none n' c')).run P w = .ok a.isNone w := by
      intro a n c n' c'
      refine run_equal_of fun d w => ?_
      rcases a with _ | a <;> simp [Op.equalIn, run_underlying hd]
    have hb : ∀ (a : Option Addr) (n c n' c' : Nat), ∀ op, op = .eql ∨ op = .neq → binOp op t (.slice a n c) (.slice none n' c') = (match op with | .eql => do pure (.bool (← Op.equal t (.slice a n c) (.slice none n' c'))) | _ => do pure (.bool (!(← Op.equal t (.slice a n c) (.slice none n' c'))))) := by
      intro a n c n' c' op hop
      rcases hop with rfl | rfl <;> rfl
    have go : ∀ (a : Option Addr) (n c : Nat) (ox oy : Operand), Ans P (do eqGuard (if neg then .neq else .eql) t ox oy (.slice a n c) (.slice none 0 0); binOp (if neg then .neq else .eql) t (.slice a n c) (.slice none 0 0)) (.bool (if neg then !a.isNone else a.isNone)) :=
      fun a n c ox oy => eq_run neg (e0 a n c 0 0) (.inl (by simp)) (by simp) (hb a n c 0 0) ox oy
    split at h
    · obtain ⟨v, hv, hok, hc⟩ := tf (if neg then false else true)
      refine ⟨v, by rw [hv]; cases neg <;> exact h, hok, fun ox oy => ?_⟩
      rw [hc]; have := go none 0 0 ox oy; cases neg <;> simpa [AV.c] using this
    · rename_i i g off n c
      have known : ∀ own x, slot M i g = some (own, x) → ∀ (p : Prop), (x.virt → p) → ∃ b : Bool, (b = true → p) ∧ (¬ x.virt → b = false) ∧ ∀ ox oy, Ans P (do eqGuard (if neg then .neq else .eql) t ox oy ((AV.sl i g off n c).c ρ) (AV.ns.c ρ); binOp (if neg then .neq else .eql) t ((AV.sl i g off n c).c ρ) (AV.ns.c ρ)) (.bool (if neg then !b else b)) := by
        intro own x hs p hp
        rcases hk _ _ _ _ hs with ⟨q, hq⟩ | ⟨hq, hv⟩
        · exact ⟨false, by simp, fun _ => rfl, fun ox oy => by simp only [AV.c, hq]; exact go (some _) n c ox oy⟩
        · exact ⟨true, fun _ => hp hv, fun hn => absurd hv hn, fun ox oy => by simp only [AV.c, hq]; exact go none n c ox oy⟩
      replace h := slotA_sound h
      obtain ⟨own, x_, hs, h⟩ := h
      split at h
      · rename_i cs
        obtain ⟨b, _, h2, h3⟩ := known _ _ hs True (fun _ => trivial)
        obtain rfl := h2 (fun hv => hv.elim)
        obtain ⟨v, hv, hok, hc⟩ := tf neg
        exact ⟨v, by rw [hv]; cases neg <;> exact h, hok, fun ox oy => by rw [hc]; have := h3 ox oy; cases neg <;> simpa using this⟩
      · rename_i k xs co
        obtain ⟨b, h1, _, h3⟩ := known _ _ hs (xs = [] ∧ co = 0) (fun hv => hv)
        exact ⟨_, h b h1, trivial, fun ox oy => h3 ox oy⟩
      · rename_i xs co
        obtain ⟨b, h1, _, h3⟩ := known _ _ hs (xs = [] ∧ co = 0) (fun hv => hv)
        exact ⟨_, h b h1, trivial, fun ox oy => h3 ox oy⟩
      · rename_i sz m get co
        obtain ⟨b, h1, _, h3⟩ := known _ _ hs (m = 0 ∧ co = 0) (fun hv => hv)
        exact ⟨_, h b h1, trivial, fun ox oy => h3 ox oy⟩
      · exact h.elim
    · exact h.elim
  · rename_i hke
    rw [hke] at hkd; obtain ⟨a1, a2, a3, rfl⟩ := tkOf_func hkd
    split at h
    · obtain ⟨v, hv, hok, hc⟩ := tf (if neg then false else true)
      refine ⟨v, by rw [hv]; cases neg <;> exact h, hok, fun ox oy => ?_⟩
      have := eq_run (P := P) (t := t) (x := .nilFunc) (y := .nilFunc) (r := true) neg (run_equal_of fun d w => by simp [Op.equalIn, run_underlying hd]) (.inl (by simp)) (by simp) (by rintro op (rfl | rfl) <;> rfl) ox oy
      rw [hc]; cases neg <;> simpa [AV.c] using this
    · rename_i fn a b
      obtain ⟨v, hv, hok, hc⟩ := tf neg
      refine ⟨v, by rw [hv]; cases neg <;> exact h, hok, fun ox oy => ?_⟩
      have := eq_run (P := P) (t := t) (x := (AV.fn fn a b).c ρ) (y := .nilFunc) (r := false) neg (run_equal_of fun d w => by simp [AV.c, Op.equalIn, run_underlying hd]) (.inl (by simp [AV.c])) (by simp [AV.c]) (by rintro op (rfl | rfl) <;> rfl) ox oy
      rw [hc]; cases neg <;> simpa [AV.c] using this
    · exact h.elim
  · rename_i hke
    rw [hke] at hkd; obtain ⟨ms, rfl⟩ := tkOf_iface hkd
    split at h
    · rename_i ty a
      obtain ⟨v, hv, hok, hc⟩ := tf neg
      refine ⟨v, by rw [hv]; cases neg <;> exact h, hok, fun ox oy => ?_⟩
      have := eq_run (P := P) (t := t) (x := (AV.ifc ty a).c ρ) (y := .nilIface) (r := false) neg (run_equal_of fun d w => by simp [AV.c, Op.equalIn, run_underlying hd]) (.inl (by simp [AV.c])) (by simp [AV.c]) (by rintro op (rfl | rfl) <;> rfl) ox oy
      rw [hc]; cases neg <;> simpa [AV.c] using this
    · exact h.elim
  · rename_i hke
    rw [hke] at hkd; obtain rfl := tkOf_bool hkd
    split at h
    · rename_i p q hx hy
      refine ⟨_, h, trivial, fun ox oy => ?_⟩
      rw [AV.asB_c ρ hx, AV.asB_c ρ hy]
      have := eq_run (P := P) (t := t) (x := .bool p) (y := .bool q) (r := p == q) neg (run_equal_of fun d w => by simp [Op.equalIn, run_underlying hd]) (.inl (by simp)) (by simp) (by rintro op (rfl | rfl) <;> rfl) ox oy
      cases neg <;> simpa [AV.c] using this
    · exact h.elim
  · exact h.elim

end Go.Proofs.Ytaioclggifdnhaa
