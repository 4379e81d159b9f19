/- What a law's arguments are: slices of structs of numbers and bools; structs of them. -/
import Derived.Test.YteinenklppbjkaaAb19
set_option linter.unusedVariables false
set_option linter.unusedSimpArgs false
open Go.ChangeShapes Go.WideShapes Go.ChangeAt Go.RowKit Go.Deep
namespace Go.Proofs.Yteinenklppbjkaa

/-- A leaf: a number, a bool. -/
inductive LK where
  | int (k : IntKind) | bool
def leafFields (rec : TypeId → Option (List LK)) (P : Program) (total : Nat) : List Field → Nat → Option (List LK)
  | [], o => if o = total then some [] else none
  | f :: l, o => match rec f.type, leafFields rec P total l (o + P.cellsOf f.type) with
    | some a, some b => if f.offset = o ∧ a.length = P.cellsOf f.type then some (a ++ b) else none
    | _, _ => none
def leavesF (P : Program) : Nat → TypeId → Option (List LK)
  | 0, _ => none
  | n + 1, t => match P.underlying t with
    | some (.int k) => some [.int k]
    | some .bool => some [.bool]
    | some (.struct fs) => leafFields (leavesF P n) P (P.cellsOf t) fs.toList 0
    | _ => none
def fitK : LK → AV → Prop
  | .int k, .int k' n => k' = k ∧ k.min ≤ n ∧ n ≤ k.max
  | .bool, .bo _ => True
  | _, _ => False
def fitL : List LK → List AV → Prop
  | [], [] => True
  | k :: l, v :: vs => fitK k v ∧ fitL l vs
  | _, _ => False
theorem fitL_length : ∀ {l : List LK} {vs : List AV}, fitL l vs → vs.length = l.length
  | [], [], _ => rfl
  | k :: l, v :: vs, h => by simp [fitL_length h.2]
  | [], _ :: _, h => h.elim
  | _ :: _, [], h => h.elim
theorem fitL_append : ∀ {l l' : List LK} {vs vs' : List AV}, fitL l vs → fitL l' vs' → fitL (l ++ l') (vs ++ vs')
  | [], l', [], vs', _, h => h
  | k :: l, l', v :: vs, vs', h, h' => ⟨h.1, fitL_append h.2 h'⟩
  | [], _, _ :: _, _, h, _ => h.elim
  | _ :: _, _, [], _, h, _ => h.elim
theorem fitK_const {k : LK} {v : AV} (h : fitK k v) (ρ ρ' : Env) : v.c ρ = v.c ρ' ∧ v.ok ρ := by
  cases k <;> cases v <;> first | exact h.elim | exact ⟨rfl, trivial⟩
theorem fitL_const : ∀ {l : List LK} {vs : List AV}, fitL l vs → ∀ (ρ ρ' : Env), AV.cl ρ vs = AV.cl ρ' vs ∧ AV.okl ρ vs
  | [], [], _, _, _ => ⟨rfl, trivial⟩
  | k :: l, v :: vs, h, ρ, ρ' => by
    obtain ⟨h1, h2⟩ := fitK_const h.1 ρ ρ'
    obtain ⟨h3, h4⟩ := fitL_const h.2 ρ ρ'
    exact ⟨by simp only [AV.cl, h1, h3], h2, h4⟩
  | [], _ :: _, h, _, _ => h.elim
  | _ :: _, [], h, _, _ => h.elim
/-- Zeros of these leaves. -/
def zeroK : LK → AV
  | .int k => .int k 0
  | .bool => .bo false
theorem zeroK_fit : ∀ l : List LK, fitL l (l.map zeroK)
  | [] => trivial
  | .int k :: l => ⟨⟨rfl, by cases k <;> decide, by cases k <;> decide⟩, zeroK_fit l⟩
  | .bool :: l => ⟨trivial, zeroK_fit l⟩

section
variable {H : Type} {enc : TypeId × Value → H} {P : Program} {w : World} {base : Nat} {spare : Nat → Bool} {held : Bool}

theorem leafFields_trod {rec : TypeId → Option (List LK)} {total : Nat} {cs : List Value} (hlen : cs.length = total)
    (hrec : ∀ t L, rec t = some L → ∀ fuel cs (x : DataW H × List MemPlace), DataW.trod enc P w base spare held fuel t cs = some x → ∃ vs, fitL L vs ∧ ∀ ρ, cs = AV.cl ρ vs) :
    ∀ (l : List Field) (o : Nat) (L : List LK), leafFields rec P total l o = some L →
      (∀ f ∈ l, ∃ n x, DataW.trod enc P w base spare held n f.type ((cs.drop f.offset).take (P.cellsOf f.type)) = some x) → ∃ vs, fitL L vs ∧ ∀ ρ, cs.drop o = AV.cl ρ vs
  | [], o, L, h, _ => by
    simp only [leafFields] at h
    split at h
    · injection h with h; subst h
      exact ⟨[], trivial, fun ρ => by rw [List.drop_eq_nil_of_le (by omega)]; rfl⟩
    · cases h
  | f :: l, o, L, h, ht => by
    simp only [leafFields] at h
    split at h
    · rename_i a b ha hb
      split at h
      · rename_i hc
        injection h with h; subst h
        obtain ⟨n, x, hx⟩ := ht f List.mem_cons_self
        obtain ⟨vs, h1, h2⟩ := hrec _ _ ha n _ x hx
        obtain ⟨vs', h3, h4⟩ := leafFields_trod hlen hrec l _ b hb (fun g hg => ht g (List.mem_cons_of_mem _ hg))
        refine ⟨vs ++ vs', fitL_append h1 h3, fun ρ => ?_⟩
        rw [cl_append, ← h2 ρ, ← h4 ρ, hc.1, ← List.drop_drop, List.take_append_drop]
      · cases h
    · cases h

theorem leaves_trod : ∀ (n : Nat) (t : TypeId) (L : List LK), leavesF P n t = some L → ∀ fuel cs (x : DataW H × List MemPlace), DataW.trod enc P w base spare held fuel t cs = some x → ∃ vs, fitL L vs ∧ ∀ ρ, cs = AV.cl ρ vs
  | 0, t, L, h, _, _, _, _ => by simp [leavesF] at h
  | n + 1, t, L, h, fuel, cs, x, hx => by
    simp only [leavesF] at h
    split at h
    · rename_i k ht
      injection h with h; subst h
      obtain ⟨m, rfl, _, hw⟩ := DataW.trod_int ht hx
      exact ⟨[.int k m], ⟨⟨rfl, wf_int hw⟩, trivial⟩, fun ρ => rfl⟩
    · rename_i ht
      injection h with h; subst h
      obtain ⟨b, rfl, _⟩ := DataW.trod_bool ht hx
      exact ⟨[.bo b], ⟨trivial, trivial⟩, fun ρ => rfl⟩
    · rename_i fs ht
      obtain ⟨xs, m, _, _, hl, hsz, hf⟩ := DataW.trod_struct ht hx
      obtain ⟨vs, h1, h2⟩ := leafFields_trod hl (leaves_trod n) fs.toList 0 L h (fun f hf' => by
        obtain ⟨i, hi⟩ := List.getElem?_of_mem hf'
        have hi' : fs[i]? = some f := by simpa using hi
        have hlt : i < xs.length := by
          have := (Array.getElem?_eq_some_iff.1 hi').1
          omega
        refine ⟨m, xs[i], ?_⟩
        rw [hf i f hi', List.getElem?_eq_getElem hlt])
      exact ⟨vs, h1, fun ρ => by have := h2 ρ; rwa [List.drop_zero] at this⟩
    · cases h
end

section
variable {H : Type} {enc : TypeId × Value → H} {P : Program} {w : World}

/-- A struct of numbers and bools. -/
theorem RdA.struct {b0 : Nat} {M : AH} {ρ : Env} {vs : List Value} {as : List AV} (h : RdA w M ρ vs as) {t : TypeId} {fs : Array Field} {v : Value} {d : DataW H} {ps : List MemPlace} {L : List LK} (ht : P.underlying t = some (.struct fs)) (hL : leavesF P 8 t = some L)
    (hval : Value.okWide P w .any b0 t v) (hd : DataW.Trod enc P w 0 (fun _ => true) true t v d ps) :
    ∃ l, fitL L l ∧ RdA w M ρ (vs ++ [v]) (as ++ [.agg l]) := by
  obtain ⟨fuel, hf⟩ := hd
  simp only [Value.okWide, ht] at hval
  obtain ⟨cs, rfl, _, _⟩ := hval
  obtain ⟨l, h1, h2⟩ := leaves_trod 8 t L hL fuel _ _ hf
  refine ⟨l, h1, h.snoc (fitL_const h1 ρ ρ).2 ?_⟩
  have := h2 ρ
  simp only [Value.cells] at this
  simp [AV.c, ← this]

/-- A slice of such structs. -/
theorem RdA.tab {b0 : Nat} {M : AH} {ρ : Env} {vs : List Value} {as : List AV} (h : RdA w M ρ vs as) {t e : TypeId} {v : Value} {d : DataW H} {ps : List MemPlace} {L : List LK} (ht : P.underlying t = some (.slice e)) (hL : leavesF P 8 e = some L) (hc : (Nat.beq L.length (P.cellsOf e) && Nat.blt 0 L.length) = true)
    (hval : Value.okWide P w .any b0 t v) (hd : DataW.Trod enc P w 0 (fun _ => true) true t v d ps) :
    ∃ m c get ρ', (m ≤ c ∧ c ≤ 9223372036854775807) ∧ (∀ j, fitL L (get j)) ∧ RdA w (M ++ [.one false 0 (.tab L.length m get c)]) ρ' (vs ++ [v]) (as ++ [.sl M.length 0 0 m c]) := by
  simp only [Bool.and_eq_true] at hc
  have hsz : L.length = P.cellsOf e := Nat.eq_of_beq_eq_true hc.1
  have hpos : 0 < L.length := by simpa using hc.2
  obtain ⟨a, len, cap, rfl⟩ := okWide_slice ht hval
  obtain ⟨fuel, hf⟩ := hd
  rcases open_slice ht hf with ⟨h0, _⟩ | ⟨a', len', cap', m, n, D, Pl, h0, _, hlc, hcm, hm, _, hel⟩
  · simp [Value.cells] at h0
    obtain ⟨rfl, rfl, rfl⟩ := h0
    obtain ⟨h1, h2, h3⟩ := sim_ro (x := .tab L.length 0 (fun _ => L.map zeroK) 0) (l := none) h.sim h.no (.inr ⟨rfl, rfl, rfl⟩)
    exact ⟨0, 0, _, _, ⟨Nat.le_refl _, by omega⟩, fun j => zeroK_fit L, (h.grow h1 h2 h3).snoc (by simp [AV.ok, upE_same]) (by simp [AV.c, upE_same])⟩
  · simp [Value.cells] at h0
    obtain ⟨rfl, rfl, rfl⟩ := h0
    simp only [if_true] at hm
    subst hm
    have hhas : w.has P .any b0 a' e m := by
      simp only [Value.okWide, ht, Cell.okWide, Cell.ok] at hval
      exact hval.2.2
    obtain ⟨hsp, c, el, fr, hrow, hoff⟩ := has_row hhas
    obtain ⟨b, off, sp⟩ := a'
    simp only at hsp hrow hoff
    subst hsp
    have hall : ∀ i, i < m → ∃ l, fitL L l ∧ ∀ (ρ : Env) (j : Nat) v, l[j]? = some v → c[off + (i * L.length + j)]? = some (v.c ρ) := by
      intro i hi
      obtain ⟨cs', h1, h2⟩ := hel i hi
      obtain ⟨l, h3, h4⟩ := leaves_trod 8 e L hL n cs' _ h2
      refine ⟨l, h3, fun ρ j v hv => ?_⟩
      obtain ⟨_, hl2, hcell⟩ := World.cells?_some h1
      have hj : j < L.length := by rw [← fitL_length h3]; exact (List.getElem?_eq_some_iff.1 hv).1
      have := hcell j (by omega)
      rw [h4 ρ, AV.cl_eq, List.getElem?_map, hv] at this
      rw [add_addr, add_addr] at this
      simp [World.cell?, hrow] at this
      rw [hsz, ← Nat.add_assoc]; exact this
    obtain ⟨get, hget⟩ := choose_lt (α := List AV) hall
    have hbig : off + m * L.length ≤ c.size := by
      rcases Nat.eq_zero_or_pos m with h0 | h0
      · subst h0; omega
      · obtain ⟨g1, g2⟩ := hget (m - 1) (by omega)
        have hl := fitL_length g1
        have := g2 (fun _ _ => none) (L.length - 1) _ (List.getElem?_eq_getElem (by omega))
        have := (Array.getElem?_eq_some_iff.1 this).1
        have e : (m - 1) * L.length + L.length = m * L.length := by
          rw [← Nat.succ_mul]; congr 1; omega
        omega
    let get' : Nat → List AV := fun j => if j < m then get j else L.map zeroK
    have hfit : ∀ j, fitL L (get' j) := fun j => by
      show fitL L (if j < m then get j else L.map zeroK)
      split
      · exact (hget j ‹_›).1
      · exact zeroK_fit L
    have hcells : ∀ (ρ1 : Env) (k : Nat) (v : AV), (Cont.tab L.length len get' m).at k = some v → v.ok ρ1 ∧ c[off + k]? = some (v.c ρ1) := by
      intro ρ1 k v hv
      simp only [Cont.at] at hv
      split at hv
      · rename_i hk
        have hj : k / L.length < len := (Nat.div_lt_iff_lt_mul hpos).2 hk
        have e : get' (k / L.length) = get (k / L.length) := if_pos (by omega)
        rw [e] at hv
        obtain ⟨g1, g2⟩ := hget (k / L.length) (by omega)
        refine ⟨((AV.okl_iff _ _).1 (fitL_const g1 _ (fun _ _ => none)).2) v (List.mem_of_getElem? hv), ?_⟩
        rw [← g2 _ _ v hv, Nat.mul_comm, Nat.div_add_mod]
      · cases hv
    obtain ⟨h1, h2, h3⟩ := sim_ro (x := .tab L.length len get' m) (l := some (b, off)) h.sim h.no (.inl ⟨b, off, rfl, .mk' rfl ⟨c, el, fr, hrow, hbig, hcells _, fun h => (by cases h)⟩⟩)
    exact ⟨len, m, get', _, ⟨by omega, by unfold maxLen at hcm; omega⟩, hfit, (h.grow h1 h2 h3).snoc (by simp [AV.ok, upE_same]) (by simp [AV.c, upE_same])⟩
end
end Go.Proofs.Yteinenklppbjkaa
