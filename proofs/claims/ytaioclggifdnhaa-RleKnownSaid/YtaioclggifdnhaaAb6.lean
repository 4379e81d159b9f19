/- Stores. -/
import Derived.Test.YtaioclggifdnhaaAb5
set_option linter.unusedVariables false
set_option linter.unusedSimpArgs false
open Go.RowKit
namespace Go.Proofs.Ytaioclggifdnhaa

theorem row_get (cur : Array Value) (p : Nat) (vs : List Value) (h : p + vs.length ≤ cur.size) (k : Nat) :
    ((cur.toList.take p ++ vs ++ cur.toList.drop (p + vs.length)).toArray)[k]? = if p ≤ k ∧ k < p + vs.length then vs[k - p]? else cur[k]? := by
  have hl : (cur.toList.take p).length = p := by simp; omega
  simp only [List.getElem?_toArray]
  by_cases h1 : k < p
  · rw [if_neg (by omega), List.append_assoc, List.getElem?_append_left (by omega), List.getElem?_take, if_pos h1]; simp
  · by_cases h2 : k < p + vs.length
    · rw [if_pos ⟨by omega, h2⟩, List.append_assoc, List.getElem?_append_right (by omega), hl, List.getElem?_append_left (by omega)]
    · rw [if_neg (by omega), List.getElem?_append_right (by simp; omega)]
      simp only [List.length_append, hl, List.getElem?_drop]
      rw [show p + vs.length + (k - (p + vs.length)) = k from by omega]; simp

theorem setRow_heap' (w : World) (g : Nat) (cur new : Array Value) (t : TypeId) (fr : Nat × Nat) (h : w.heap[g]? = some (.cells cur t fr)) : (w.setRow g new).heap[g]? = some (.cells new t fr) := by
  simp [World.setRow, Array.getElem?_modify, h]
theorem setRow_other' (w : World) (g b : Nat) (new : Array Value) (h : b ≠ g) : (w.setRow g new).heap[b]? = w.heap[b]? := by
  simp only [World.setRow, Array.getElem?_modify]; rw [if_neg (Ne.symm h)]
theorem setRow_size' (w : World) (g : Nat) (new : Array Value) : (w.setRow g new).heap.size = w.heap.size := by simp [World.setRow]

/-- Values written into an object's array. -/
theorem write_sound {P : Program} {ρ : Env} {M : AH} {w : World} {i g k0 : Nat} {x x' : Cont} {q : Nat × Nat} {vs : List AV} (h : Sim ρ M w) (hm : M[i]? = some (.one true g x)) (hq : ρ i g = some (some q)) (hxr : x.row = true) (hxr' : x'.row = true)
    (hok : AV.okl ρ vs) (hone : vs.all AV.one = true) (hfit : k0 + vs.length ≤ x.size) (hsize : x'.size = x.size)
    (hat : ∀ k v, x'.at k = some v → (∃ u, k0 ≤ k ∧ k < k0 + vs.length ∧ vs[k - k0]? = some u ∧ u.c ρ = v.c ρ ∧ v.ok ρ) ∨ ((k < k0 ∨ k0 + vs.length ≤ k) ∧ x.at k = some v)) :
    ∃ w', (storeCells ⟨q.1, q.2 + k0, none⟩ (AV.cl ρ vs)).run P w = .ok () w' ∧ Sim ρ (M.set i (.one true g x')) w' ∧ Ext ρ M w ρ (M.set i (.one true g x')) w' := by
  obtain ⟨c, e, fr, h1, h2, h3, h4⟩ := (h.id i g true x q (slot_one hm) hq).out hxr
  obtain rfl := h4 rfl
  have hlen : (AV.cl ρ vs).length = vs.length := by simp [AV.cl_eq]
  have hrun := run_storeCells_at P q.1 (q.2 + k0) e (AV.cl ρ vs) 0 c w h1 (by rw [hlen]; omega) (fun v hv => by
    rw [AV.cl_eq, List.mem_map] at hv
    obtain ⟨u, hu, rfl⟩ := hv
    exact AV.one_c ρ (List.all_eq_true.1 hone u hu))
  simp only [Nat.add_zero] at hrun
  refine ⟨_, hrun, sim_set h hm hq (fun b hb => setRow_other' _ _ _ _ hb) (setRow_size' _ _ _) rfl rfl rfl (.mk' hxr' ⟨_, e, (0, 0), setRow_heap' _ _ _ _ _ _ h1, ?_, ?_, fun _ => rfl⟩)⟩
  · simp only [List.size_toArray, List.length_append, List.length_take, List.length_drop, Array.length_toList, hlen]; omega
  · intro k v hv
    rw [row_get _ _ _ (by rw [hlen]; omega), hlen]
    rcases hat k v hv with ⟨u, a1, a2, a3, a4, a5⟩ | ⟨a1, a2⟩
    · refine ⟨a5, ?_⟩
      rw [if_pos (by omega), show q.2 + k - (q.2 + k0) = k - k0 from by omega, AV.cl_eq, List.getElem?_map, a3]
      simp [a4]
    · rw [if_neg (by omega)]
      exact h3 k v a2

def storeA (T : List TI) (M : AH) (t : Nat) (a v : AV) (K : AH → Prop) : Prop :=
  match T[t]? with
  | none => False
  | some ti => condT (v.parts.all AV.one && Nat.beq v.parts.length ti.size) (match a with
    | .ptr i g off => match M[i]? with
      | some (.one true g' (.cells cs)) => g = g' ∧ condT (Nat.ble (off + v.parts.length) cs.length) (K (M.set i (.one true g' (.cells (splice cs off v.parts)))))
      | some (.one true g' (.ints k xs c)) => g = g' ∧ match v with
        | .int k' n => sameK k k' (off < xs.length ∧ xs.length ≤ c ∧ K (M.set i (.one true g' (.ints k (xs.set off n) c))))
        | _ => False
      | some (.one true g' (.bools xs c)) => g = g' ∧ match v.asB with
        | some b => off < xs.length ∧ xs.length ≤ c ∧ K (M.set i (.one true g' (.bools (xs.set off b) c)))
        | none => False
      | _ => False
    | .pel i g sz j o => match M[i]? with
      | some (.one true g' (.tab sz' n get c)) => g = g' ∧ condT (Nat.beq sz sz' && Nat.ble (o + v.parts.length) sz) (j < n ∧ n ≤ c ∧ condT (Nat.ble (o + v.parts.length) (get j).length)
          (K (M.set i (.one true g' (.tab sz n (fun r => match Nat.beq r j with | true => splice (get j) o v.parts | false => get r) c)))))
      | _ => False
    | _ => False)

theorem run_storeAt {P : Program} {T : List TI} (hT : TabOK P T) {t : Nat} {ti : TI} (ht : T[t]? = some ti) {ρ : Env} {v : AV} (hone : v.parts.all AV.one = true) (hlen : v.parts.length = ti.size) {a : Addr} {w w' : World}
    (h : (storeCells a (AV.cl ρ v.parts)).run P w = .ok () w') : (Instr.storeAt t (.pointer (some a)) (v.c ρ)).run P w = .ok () w' := by
  have hr : ∀ x, v ≠ .raw x := by rintro x rfl; simp [AV.parts, AV.one] at hone
  have hc := AV.parts_c ρ v hr
  have hsz : (v.c ρ).cells.size = ti.size := by
    rw [← Array.length_toList, hc, AV.cl_eq, List.length_map, hlen]
  simp [Instr.storeAt, Instr.sureAddr, storeVar, hT.size ht, hsz, hc, h]

theorem storeA_sound {P : Program} {T : List TI} (hT : TabOK P T) {M : AH} {t : Nat} {a v : AV} {K : AH → Prop} {ρ : Env} {w : World} (hs : Sim ρ M w) (hv : v.ok ρ)
    (h : storeA T M t a v K) : ∃ M' w', (Instr.storeAt t (a.c ρ) (v.c ρ)).run P w = .ok () w' ∧ K M' ∧ Sim ρ M' w' ∧ Ext ρ M w ρ M' w' := by
  unfold storeA at h
  split at h
  · exact h.elim
  · rename_i ti ht
    replace h := condT_sound h
    obtain ⟨hb, h⟩ := h
    simp only [Bool.and_eq_true] at hb
    obtain ⟨hone, hlen0⟩ := hb
    have hlen : v.parts.length = ti.size := Nat.eq_of_beq_eq_true hlen0
    clear hlen0
    have hokp := AV.parts_ok hv
    have hk := hs.known
    split at h
    · rename_i i g off
      split at h
      · rename_i g' cs hm
        obtain ⟨rfl, h⟩ := h
        replace h := condT_sound h
        obtain ⟨hb, h⟩ := h
        have hle : off + v.parts.length ≤ cs.length := by simpa using hb
        obtain ⟨q, hq⟩ := sl_live (off := 0) (n := 0) (c := 0) hk (slot_one hm) (by simp [Cont.virt])
        obtain ⟨w', hrun, h1, h2⟩ := write_sound (P := P) (k0 := off) (x' := .cells (splice cs off v.parts)) hs hm hq rfl rfl hokp hone hle (by simp [Cont.size, splice_length hle]) (by
          intro k u hu
          simp only [Cont.at, splice_get hle] at hu
          split at hu
          · rename_i hc
            exact .inl ⟨u, hc.1, hc.2, hu, rfl, (AV.okl_iff ρ _).1 hokp u (List.mem_of_getElem? hu)⟩
          · rename_i hc
            exact .inr ⟨by omega, hu⟩)
        exact ⟨_, w', by simp only [AV.c, hq]; exact run_storeAt hT ht hone hlen hrun, h, h1, h2⟩
      · rename_i g' k xs c hm
        obtain ⟨rfl, h⟩ := h
        split at h
        · rename_i k' n
          replace h := sameK_sound h
          obtain ⟨rfl, hlt, hc, h⟩ := h
          obtain ⟨q, hq⟩ := sl_live (off := 0) (n := 0) (c := 0) hk (slot_one hm) (by simp only [Cont.virt]; rintro ⟨rfl, _⟩; simp at hlt)
          obtain ⟨w', hrun, h1, h2⟩ := write_sound (P := P) (k0 := off) (x' := .ints k (xs.set off n) c) hs hm hq rfl rfl hokp hone (by simp [Cont.size, AV.parts]; omega) (by simp [Cont.size]) (by
            intro k' u hu
            simp only [Cont.at, Option.map_eq_some_iff] at hu
            obtain ⟨z, hz, rfl⟩ := hu
            by_cases hkk : k' = off
            · subst hkk
              rw [List.getElem?_set_self hlt] at hz
              injection hz with hz; subst hz
              exact .inl ⟨.int k n, by omega, by simp [AV.parts], by simp [AV.parts], rfl, trivial⟩
            · rw [List.getElem?_set_ne (Ne.symm hkk)] at hz
              exact .inr ⟨by simp [AV.parts]; omega, by simp [Cont.at, hz]⟩)
          exact ⟨_, w', by simp only [AV.c, hq]; exact run_storeAt hT ht hone hlen hrun, h, h1, h2⟩
        · exact h.elim
      · rename_i g' xs c hm
        obtain ⟨rfl, h⟩ := h
        split at h
        · rename_i b hvb
          obtain ⟨hlt, hc, h⟩ := h
          have hp : v.parts = [v] := by cases v <;> simp_all [AV.asB, AV.parts]
          obtain ⟨q, hq⟩ := sl_live (off := 0) (n := 0) (c := 0) hk (slot_one hm) (by simp only [Cont.virt]; rintro ⟨rfl, _⟩; simp at hlt)
          obtain ⟨w', hrun, h1, h2⟩ := write_sound (P := P) (k0 := off) (x' := .bools (xs.set off b) c) hs hm hq rfl rfl hokp hone (by simp [Cont.size, hp]; omega) (by simp [Cont.size]) (by
            intro k' u hu
            simp only [Cont.at, Option.map_eq_some_iff] at hu
            obtain ⟨z, hz, rfl⟩ := hu
            by_cases hkk : k' = off
            · subst hkk
              rw [List.getElem?_set_self hlt] at hz
              injection hz with hz; subst hz
              exact .inl ⟨v, by omega, by simp [hp], by simp [hp], by rw [AV.asB_c ρ hvb]; rfl, trivial⟩
            · rw [List.getElem?_set_ne (Ne.symm hkk)] at hz
              exact .inr ⟨by simp [hp]; omega, by simp [Cont.at, hz]⟩)
          exact ⟨_, w', by simp only [AV.c, hq]; exact run_storeAt hT ht hone hlen hrun, h, h1, h2⟩
        · exact h.elim
      · exact h.elim
    · rename_i i g sz j o
      split at h
      · rename_i g' sz' n get c hm
        obtain ⟨rfl, h⟩ := h
        replace h := condT_sound h
        obtain ⟨hb, hlt, hnc, h⟩ := h
        simp only [Bool.and_eq_true] at hb
        have e1 : sz = sz' := Nat.eq_of_beq_eq_true hb.1
        have e2 : o + v.parts.length ≤ sz := by simpa using hb.2
        subst e1
        replace h := condT_sound h
        obtain ⟨hb2, h⟩ := h
        have e3 : o + v.parts.length ≤ (get j).length := by simpa using hb2
        obtain ⟨q, hq⟩ := sl_live (off := 0) (n := 0) (c := 0) hk (slot_one hm) (by simp only [Cont.virt]; rintro ⟨rfl, _⟩; omega)
        have hjs : j * sz + sz ≤ c * sz := by
          have := Nat.mul_le_mul_right sz (show j + 1 ≤ c by omega)
          rwa [Nat.add_mul, Nat.one_mul] at this
        obtain ⟨w', hrun, h1, h2⟩ := write_sound (P := P) (k0 := j * sz + o) (x' := .tab sz n (fun r => match Nat.beq r j with | true => splice (get j) o v.parts | false => get r) c) hs hm hq rfl rfl hokp hone (by simp only [Cont.size]; omega) rfl (by
          intro k u hu
          simp only [Cont.at] at hu
          split at hu
          · rename_i hkn
            have hpos : 0 < sz := by
              rcases Nat.eq_zero_or_pos sz with h0 | h0
              · subst h0; simp at hkn
              · exact h0
            by_cases hkj : k / sz = j
            · rw [hkj, Nat.beq_refl] at hu
              simp only [splice_get e3] at hu
              have hkk : k = j * sz + k % sz := by rw [← hkj, Nat.mul_comm]; exact (Nat.div_add_mod k sz).symm
              have hmod := Nat.mod_lt k hpos
              split at hu
              · rename_i hc
                refine .inl ⟨u, by omega, by omega, ?_, rfl, (AV.okl_iff ρ _).1 hokp u (List.mem_of_getElem? hu)⟩
                rw [show k - (j * sz + o) = k % sz - o from by omega]; exact hu
              · rename_i hc
                refine .inr ⟨by omega, ?_⟩
                simp only [Cont.at, if_pos hkn, hkj]; exact hu
            · have hne : Nat.beq (k / sz) j = false := by
                cases hb : Nat.beq (k / sz) j with
                | true => exact absurd (Nat.eq_of_beq_eq_true hb) hkj
                | false => rfl
              rw [hne] at hu
              refine .inr ⟨?_, by simp only [Cont.at, if_pos hkn]; exact hu⟩
              rcases Nat.lt_or_gt_of_ne hkj with hlt' | hgt
              · left
                have : k < j * sz := (Nat.div_lt_iff_lt_mul hpos).1 hlt'
                omega
              · right
                have : (j + 1) * sz ≤ k := (Nat.le_div_iff_mul_le hpos).1 hgt
                rw [Nat.add_mul, Nat.one_mul] at this
                omega
          · cases hu)
        exact ⟨_, w', by simp only [AV.c, hq]; exact run_storeAt hT ht hone hlen hrun, h, h1, h2⟩
      · exact h.elim
    · exact h.elim

end Go.Proofs.Ytaioclggifdnhaa
