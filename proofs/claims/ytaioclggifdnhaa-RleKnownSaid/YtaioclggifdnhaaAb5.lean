/- Loads and stores. -/
import Derived.Test.YtaioclggifdnhaaAb4
import Derived.Deep.AppendSrc
import Derived.Laws.CopyRow
set_option linter.unusedVariables false
set_option linter.unusedSimpArgs false
open Go.RowKit
namespace Go.Proofs.Ytaioclggifdnhaa

def AV.id : AV → Nat
  | .ptr i _ _ => i | .pel i _ _ _ _ => i | .sl i _ _ _ _ => i | .mp i _ => i | _ => 0

/-- The world holds the objects of one name. -/
def HoldsId (ρ : Env) (M : AH) (i : Nat) (w : World) : Prop := ∀ g own x q, slot M i g = some (own, x) → ρ i g = some (some q) → Holds ρ own x q.1 q.2 w
theorem Sim.id {ρ : Env} {M : AH} {w : World} (h : Sim ρ M w) (i : Nat) : HoldsId ρ M i w := by
  intro g own x q hs hq
  rcases h.holds i g own x hs with ⟨q', e1, e2⟩ | ⟨e1, _⟩
  · rw [hq] at e1; injection e1 with e1; injection e1 with e1; subst e1; exact e2
  · rw [hq] at e1; cases e1

theorem Holds.cell {ρ : Env} {own : Bool} {x : Cont} {b base : Nat} {w : World} (h : Holds ρ own x b base w) {k : Nat} {v : AV} (hv : x.at k = some v) : v.ok ρ ∧ w.cell? ⟨b, base + k, none⟩ = some (v.c ρ) := by
  obtain ⟨c, e, fr, h1, h2, h3, h4⟩ := h.out (Cont.at_row hv)
  refine ⟨(h3 k v hv).1, ?_⟩
  rw [cell_of_row w b (base + k) c e fr h1]
  exact (h3 k v hv).2

def loadA (T : List TI) (M : AH) (t : Nat) (a : AV) (K : AV → Prop) : Prop :=
  match T[t]? with
  | none => False
  | some ti => match ti.k.isAgg with
    | false => match a with
      | .ptr i g off => slotA M i g fun own x_ => match x_ with
        | .cells cs => match cs[off]? with
          | some v => K v
          | none => False
        | .ints k xs _ => off < xs.length ∧ K (.int k (xs.getD off 0))
        | .bools xs _ => off < xs.length ∧ K (.bo (xs.getD off false))
        | _ => False
      | .pel i g sz j o => slotA M i g fun own x_ => match x_ with
        | .tab sz' n get _ => condT (Nat.beq sz sz' && Nat.blt o sz) (j < n ∧ match (get j)[o]? with
          | some v => K v
          | none => False)
        | _ => False
      | _ => False
    | true => match a with
      | .ptr i g off => slotA M i g fun own x_ => match x_ with
        | .cells cs => condT (Nat.ble (off + ti.size) cs.length) (K (.agg ((cs.drop off).take ti.size)))
        | _ => False
      | .pel i g sz j o => slotA M i g fun own x_ => match x_ with
        | .tab sz' n get _ => condT (Nat.beq sz sz' && Nat.ble (o + ti.size) sz) (j < n ∧ condT (Nat.ble (o + ti.size) (get j).length) (K (.agg (((get j).drop o).take ti.size))))
        | _ => False
      | _ => False

theorem tab_at {sz n : Nat} {get : Nat → List AV} {c j o : Nat} (hj : j < n) (ho : o < sz) : (Cont.tab sz n get c).at (j * sz + o) = (get j)[o]? := by
  have hpos : 0 < sz := by omega
  have h1 : j * sz + o < n * sz := by
    have := Nat.mul_le_mul_right sz (show j + 1 ≤ n from hj)
    rw [Nat.add_mul, Nat.one_mul] at this
    omega
  have h2 : (j * sz + o) / sz = j := by rw [Nat.mul_comm, Nat.mul_add_div hpos, Nat.div_eq_of_lt ho, Nat.add_zero]
  have h3 : (j * sz + o) % sz = o := by rw [Nat.mul_comm, Nat.mul_add_mod, Nat.mod_eq_of_lt ho]
  simp only [Cont.at, if_pos h1, h2, h3]

theorem run_load_cells {P : Program} {w : World} {b o : Nat} {vs : List Value} (h : ∀ k v, vs[k]? = some v → w.cell? ⟨b, o + k, none⟩ = some v) :
    (loadCells ⟨b, o, none⟩ vs.length).run P w = .ok vs.toArray w :=
  run_loadCells_list w ⟨b, o, none⟩ vs fun k v hv => by rw [add_addr]; exact h k v hv

theorem loadA_sound {P : Program} {T : List TI} (hT : TabOK P T) {M : AH} {t : Nat} {a : AV} {K : AV → Prop} {ρ : Env} (hk : Known ρ M) {w0 : World} (h0 : HoldsId ρ M a.id w0)
    (h : loadA T M t a K) : ∃ v, K v ∧ v.ok ρ ∧ ∀ w, HoldsId ρ M a.id w → (Instr.loadAt t (a.c ρ)).run P w = .ok (v.c ρ) w := by
  unfold loadA at h
  split at h
  · exact h.elim
  · rename_i ti ht
    have hs := hT.size ht
    have hag := hT.isAgg ht
    have one : ∀ (i g off : Nat) (own : Bool) (x : Cont) (q : Nat × Nat) (v : AV) (k : Nat) (p : Value), a.id = i → slot M i g = some (own, x) → ρ i g = some (some q) → ti.k.isAgg = false → x.at k = some v →
        p = .pointer (some ⟨q.1, q.2 + k, none⟩) → v.ok ρ ∧ ∀ w, HoldsId ρ M a.id w → (Instr.loadAt t p).run P w = .ok (v.c ρ) w := by
      intro i g off own x q v k p hi hsl hq hagg hat hp
      subst hp
      refine ⟨((h0 g own x q (hi ▸ hsl) (hi ▸ hq)).cell hat).1, fun w hw => ?_⟩
      have hc := ((hw g own x q (hi ▸ hsl) (hi ▸ hq)).cell hat).2
      simp [Instr.loadAt, Instr.sureAddr, loadVar, hag, hagg, hc]
    have many : ∀ (i g : Nat) (own : Bool) (x : Cont) (q : Nat × Nat) (l : List AV) (k : Nat) (p : Value), a.id = i → slot M i g = some (own, x) → ρ i g = some (some q) → ti.k.isAgg = true → l.length = ti.size → (∀ m v, l[m]? = some v → x.at (k + m) = some v) →
        p = .pointer (some ⟨q.1, q.2 + k, none⟩) → (AV.agg l).ok ρ ∧ ∀ w, HoldsId ρ M a.id w → (Instr.loadAt t p).run P w = .ok ((AV.agg l).c ρ) w := by
      intro i g own x q l k p hi hsl hq hagg hlen hat hp
      subst hp
      refine ⟨?_, fun w hw => ?_⟩
      · simp only [AV.ok, AV.okl_iff]
        intro v hv
        obtain ⟨m, hm⟩ := List.getElem?_of_mem hv
        exact ((h0 g own x q (hi ▸ hsl) (hi ▸ hq)).cell (hat m v hm)).1
      · have hl : (loadCells ⟨q.1, q.2 + k, none⟩ (AV.cl ρ l).length).run P w = .ok (AV.cl ρ l).toArray w := run_load_cells fun m v hv => by
          rw [AV.cl_eq, List.getElem?_map, Option.map_eq_some_iff] at hv
          obtain ⟨u, hu, rfl⟩ := hv
          have := ((hw g own x q (hi ▸ hsl) (hi ▸ hq)).cell (hat m u hu)).2
          rwa [← Nat.add_assoc] at this
        have hll : (AV.cl ρ l).length = ti.size := by rw [AV.cl_eq, List.length_map, hlen]
        rw [hll] at hl
        simp [Instr.loadAt, Instr.sureAddr, loadVar, hag, hagg, hs, hl, AV.c]
    split at h
    · rename_i hagg
      split at h
      · rename_i i g off
        replace h := slotA_sound h
        obtain ⟨own, x_, hsl, h⟩ := h
        split at h
        · rename_i cs
          obtain ⟨q, hq⟩ := sl_live (off := 0) (n := 0) (c := 0) hk hsl (by simp [Cont.virt])
          split at h
          · rename_i v hv
            obtain ⟨h1, h2⟩ := one i g off own _ q v off _ rfl hsl hq hagg hv rfl
            exact ⟨v, h, h1, by simpa only [AV.c, hq] using h2⟩
          · exact h.elim
        · rename_i k xs c
          obtain ⟨hlt, h⟩ := h
          obtain ⟨q, hq⟩ := sl_live (off := 0) (n := 0) (c := 0) hk hsl (by simp only [Cont.virt]; rintro ⟨rfl, _⟩; simp at hlt)
          obtain ⟨h1, h2⟩ := one i g off own _ q (.int k (xs.getD off 0)) off _ rfl hsl hq hagg (by simp [Cont.at, hlt]) rfl
          exact ⟨_, h, h1, by simpa only [AV.c, hq] using h2⟩
        · rename_i xs c
          obtain ⟨hlt, h⟩ := h
          obtain ⟨q, hq⟩ := sl_live (off := 0) (n := 0) (c := 0) hk hsl (by simp only [Cont.virt]; rintro ⟨rfl, _⟩; simp at hlt)
          obtain ⟨h1, h2⟩ := one i g off own _ q (.bo (xs.getD off false)) off _ rfl hsl hq hagg (by simp [Cont.at, hlt]) rfl
          exact ⟨_, h, h1, by simpa only [AV.c, hq] using h2⟩
        · exact h.elim
      · rename_i i g sz j o
        replace h := slotA_sound h
        obtain ⟨own, x_, hsl, h⟩ := h
        split at h
        · rename_i sz' n get c
          replace h := condT_sound h; obtain ⟨hb, hlt, h⟩ := h
          simp only [Bool.and_eq_true] at hb
          have e1 : sz = sz' := Nat.eq_of_beq_eq_true hb.1
          have e2 : o < sz := by simpa using hb.2
          subst e1
          obtain ⟨q, hq⟩ := sl_live (off := 0) (n := 0) (c := 0) hk hsl (by simp only [Cont.virt]; rintro ⟨rfl, _⟩; omega)
          split at h
          · rename_i v hv
            obtain ⟨h1, h2⟩ := one i g 0 own _ q v (j * sz + o) _ rfl hsl hq hagg (by rw [tab_at hlt e2]; exact hv) rfl
            exact ⟨v, h, h1, by simpa only [AV.c, hq] using h2⟩
          · exact h.elim
        · exact h.elim
      · exact h.elim
    · rename_i hagg
      split at h
      · rename_i i g off
        replace h := slotA_sound h
        obtain ⟨own, x_, hsl, h⟩ := h
        split at h
        · rename_i cs
          replace h := condT_sound h; obtain ⟨hb, h⟩ := h
          have hb' : off + ti.size ≤ cs.length := by simpa using hb
          obtain ⟨q, hq⟩ := sl_live (off := 0) (n := 0) (c := 0) hk hsl (by simp [Cont.virt])
          obtain ⟨h1, h2⟩ := many i g own _ q ((cs.drop off).take ti.size) off _ rfl hsl hq hagg (by simp; omega) (fun m v hv => by
            simp only [List.getElem?_take, List.getElem?_drop] at hv
            split at hv
            · exact hv
            · cases hv) rfl
          exact ⟨_, h, h1, by simpa only [AV.c, hq] using h2⟩
        · exact h.elim
      · rename_i i g sz j o
        replace h := slotA_sound h
        obtain ⟨own, x_, hsl, h⟩ := h
        split at h
        · rename_i sz' n get c
          replace h := condT_sound h; obtain ⟨hb, hlt, h⟩ := h
          simp only [Bool.and_eq_true] at hb
          have e1 : sz = sz' := Nat.eq_of_beq_eq_true hb.1
          have e2 : o + ti.size ≤ sz := by simpa using hb.2
          subst e1
          replace h := condT_sound h; obtain ⟨hb2, h⟩ := h
          have e3 : o + ti.size ≤ (get j).length := by simpa using hb2
          obtain ⟨q, hq⟩ := sl_live (off := 0) (n := 0) (c := 0) hk hsl (by simp only [Cont.virt]; rintro ⟨rfl, _⟩; omega)
          obtain ⟨h1, h2⟩ := many i g own _ q (((get j).drop o).take ti.size) (j * sz + o) _ rfl hsl hq hagg (by simp; omega) (fun m v hv => by
            simp only [List.getElem?_take, List.getElem?_drop] at hv
            split at hv
            · rename_i hm
              rw [Nat.add_assoc, tab_at hlt (by omega)]; exact hv
            · cases hv) rfl
          exact ⟨_, h, h1, by simpa only [AV.c, hq] using h2⟩
        · exact h.elim
      · exact h.elim

end Go.Proofs.Ytaioclggifdnhaa
