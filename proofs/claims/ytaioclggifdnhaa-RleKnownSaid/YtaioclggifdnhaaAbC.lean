/- copy(d, x) of slices of numbers. -/
import Derived.Test.YtaioclggifdnhaaAb8
set_option linter.unusedVariables false
set_option linter.unusedSimpArgs false
open Go.RowKit
namespace Go.Proofs.Ytaioclggifdnhaa

def copyA (T : List TI) (M : AH) (tD tS : Nat) (d x : AV) (K : AV → AH → Prop) : Prop :=
  match T[tD]?, T[tS]? with
  | some ⟨.slice e, _, _, _⟩, some ⟨.slice _, _, _, _⟩ => match T[e]? with
    | some ⟨.int k, 1, _, _⟩ => match d, x with
      | .sl i g off n c, .sl i2 g2 off2 n2 c2 => match M[i]? with
        | some (.one true g' (.ints k1 xs co)) => (g = g' ∧ off + n ≤ xs.length ∧ xs.length ≤ co) ∧ sameK k k1 (srcInts M k (.sl i2 g2 off2 (min n2 n) c2) fun ys m => ∀ zs, zs = xs.take off ++ ys ++ xs.drop (off + m) → K (.int .i64 (m : Int)) (M.set i (.one true g (.ints k zs co))))
        | _ => False
      | _, _ => False
    | _ => False
  | _, _ => False

theorem copyA_sound {P : Program} {ρ : Env} {M : AH} {w : World} {T : List TI} (hT : TabOK P T) (hs : Sim ρ M w) {tD tS ty : Nat} {d x : AV} {K : AV → AH → Prop} (h : copyA T M tD tS d x K) :
    ∃ v M' w', (Builtin.copy_ #[tD, tS] ty #[d.c ρ, x.c ρ]).run P w = .ok (v.c ρ) w' ∧ K v M' ∧ v.ok ρ ∧ Sim ρ M' w' ∧ Ext ρ M w ρ M' w' := by
  unfold copyA at h
  split at h
  · rename_i e _ _ _ e2 _ _ _ h1 h2
    split at h
    · rename_i k _ _ h3
      obtain ⟨d1, hd1, k1⟩ := hT.und h1
      obtain rfl := tkOf_slice k1
      have hsz := hT.size h3
      split at h
      · rename_i i g off n c i2 g2 off2 n2 c2
        split at h
        · rename_i g' k1 xs co hm
          obtain ⟨⟨rfl, hle, hco⟩, h⟩ := h
          replace h := sameK_sound h
          obtain ⟨rfl, h⟩ := h
          obtain ⟨ys, m, hl, hK, hS⟩ := srcInts_sound hT hs h2 (x := .sl i2 g2 off2 (min n2 n) c2) rfl h
          obtain ⟨a2, ha2, _⟩ := sl_c (ρ := ρ) (i := i2) (g := g2) (off := off2) (n := n2) (c := c2)
          have hc2 := sl_c2 (n' := min n2 n) (c' := c2) ha2
          rw [hc2] at hS
          have hm' : min n2 n = m := by
            have := hS.len w
            simpa [Builtin.lenOf] using this
          have hcells : (Builtin.firstCells 1 m (.slice a2 n2 c2)).run P w = .ok ((ys.map (Value.int k)).toArray) w := by
            have := hS.cells
            cases a2 <;> simpa [Builtin.firstCells] using this
          rcases hs.holds i g true _ (slot_one hm) with ⟨q, hq, hh⟩ | ⟨hq, hv⟩
          · obtain ⟨w', hrun, h4, h5⟩ := write_sound (P := P) (k0 := off) (vs := ys.map (AV.int k)) (x' := .ints k (xs.take off ++ ys ++ xs.drop (off + m)) co) hs hm hq rfl rfl
              (by rw [AV.okl_iff]; intro v hv; obtain ⟨z, _, rfl⟩ := List.mem_map.1 hv; trivial)
              (by rw [List.all_eq_true]; intro v hv; obtain ⟨z, _, rfl⟩ := List.mem_map.1 hv; rfl) (by simp [Cont.size]; omega) rfl (by
                intro j v hv
                simp only [Cont.at, Option.map_eq_some_iff] at hv
                obtain ⟨z, hz, rfl⟩ := hv
                simp only [List.length_map, hl]
                have ht : (xs.take off).length = off := by simp; omega
                by_cases hj : j < off
                · right
                  refine ⟨.inl hj, ?_⟩
                  rw [List.append_assoc, List.getElem?_append_left (by omega), List.getElem?_take, if_pos hj] at hz
                  simp [Cont.at, hz]
                · by_cases hj2 : j < off + m
                  · left
                    refine ⟨_, by omega, hj2, ?_, rfl, trivial⟩
                    rw [List.append_assoc, List.getElem?_append_right (by omega), List.getElem?_append_left (by omega), ht] at hz
                    simp [hz]
                  · right
                    refine ⟨.inr (by omega), ?_⟩
                    rw [List.getElem?_append_right (by simp; omega), List.getElem?_drop] at hz
                    have e : off + m + (j - (xs.take off ++ ys).length) = j := by simp; omega
                    rw [e] at hz
                    simp [Cont.at, hz])
            refine ⟨_, _, w', ?_, hK _ rfl, trivial, h4, h5⟩
            rw [int_cells] at hrun
            have hd : (AV.sl i g off n c).c ρ = .slice (some ⟨q.1, q.2 + off, none⟩) n c := by simp [AV.c, hq]
            rw [hd, ha2]
            have hmn : Nat.min n2 n = m := hm'
            simp [Builtin.copy_, run_underlying hd1, Builtin.lenOf, hsz, hmn, hcells, hrun, goInt, AV.c]
          · simp only [Cont.virt] at hv
            obtain ⟨rfl, rfl⟩ := hv
            have hn : n = 0 := by simp at hle; omega
            have ho : off = 0 := by simp at hle; omega
            subst hn; subst ho
            obtain rfl : m = 0 := by omega
            obtain rfl : ys = [] := List.eq_nil_of_length_eq_zero hl
            have hK' := hK [] rfl
            have hM : M.set i (.one true g (.ints k [] 0)) = M := by
              obtain ⟨hlt, he⟩ := List.getElem?_eq_some_iff.1 hm
              rw [← he]; exact List.set_getElem_self hlt
            rw [hM] at hK'
            refine ⟨_, _, w, ?_, hK', trivial, hs, Ext.refl _ _ _⟩
            have hd : (AV.sl i g 0 0 c).c ρ = .slice none 0 c := by simp [AV.c, hq]
            rw [hd, ha2]
            simp [Builtin.copy_, run_underlying hd1, Builtin.lenOf, hsz, hcells, goInt, AV.c]
        · exact h.elim
      · exact h.elim
    · exact h.elim
  · exact h.elim
end Go.Proofs.Ytaioclggifdnhaa
