/- Other views of one world: an own array from a place on, under a new name; an own array whose elder slices stay readable. -/
import Derived.Test.YtdnmbmnfglbfoaaPk

set_option linter.unusedVariables false

set_option linter.unusedSimpArgs false

open Go.RowKit

namespace Go.Proofs.Ytdnmbmnfglbfoaa

/-- All names as they are, and one more. -/
def tabW (n i g off : Nat) : List TE := (List.range n).map TE.own ++ [.win i g off]
theorem tabW_lt {n i g off j : Nat} (h : j < n) : (tabW n i g off)[j]? = some (.own j) := by
  unfold tabW
  rw [List.getElem?_append_left (by simpa using h)]
  simp [h]
theorem tabW_eq {n i g off : Nat} : (tabW n i g off)[n]? = some (.win i g off) := by
  unfold tabW
  rw [List.getElem?_append_right (by simp)]
  simp
theorem tabW_gt {n i g off j : Nat} (h : n < j) : (tabW n i g off)[j]? = none := by
  unfold tabW
  rw [List.getElem?_eq_none (by simp; omega)]
theorem envW_lt {ρ : Env} {n i g off j : Nat} (h : j < n) (g' : Nat) : envC (tabW n i g off) ρ j g' = ρ j g' := by unfold envC; rw [tabW_lt h]
theorem envW_eq {ρ : Env} {n i g off : Nat} : envC (tabW n i g off) ρ n 0 = (ρ i g).map (fun l => l.map (fun q => (q.1, q.2 + off))) := by unfold envC; rw [tabW_eq]; rfl
theorem envW_ne {ρ : Env} {n i g off j g' : Nat} (h : ¬ j < n) (h' : ¬ (j = n ∧ g' = 0)) : envC (tabW n i g off) ρ j g' = none := by
  unfold envC
  by_cases e : j = n
  · subst e; rw [tabW_eq]; simp only; rw [if_neg (fun h => h' ⟨rfl, h⟩)]
  · rw [tabW_gt (by omega)]

theorem sim_shift {ρ : Env} {M : AH} {w : World} {i g off : Nat} {x x' : Cont} (h : Sim ρ M w) (hm : M[i]? = some (.one true g x)) (hsz : off + x'.size ≤ x.size)
    (hat : ∀ k v, x'.at k = some v → x.at (off + k) = some v) (hv : x.virt → x'.virt) (hxr : x.row = true) (hxr' : x'.row = true) :
    Sim (envC (tabW M.length i g off) ρ) (M.set i .gone ++ [.one true 0 x']) w ∧ Ext ρ M w (envC (tabW M.length i g off) ρ) (M.set i .gone ++ [.one true 0 x']) w := by
  have hlt : i < M.length := (List.getElem?_eq_some_iff.1 hm).1
  have hext : ∀ j g' l, ρ j g' = some l → envC (tabW M.length i g off) ρ j g' = some l := by
    intro j g' l e
    rw [envW_lt (h.dom j g' (by rw [e]; rfl))]; exact e
  have hs1 : ∀ j g', j < M.length → j ≠ i → slot (M.set i AO.gone ++ [.one true 0 x']) j g' = slot M j g' := by
    intro j g' hj hne; unfold slot
    rw [List.getElem?_append_left (by simpa using hj), List.getElem?_set_ne (Ne.symm hne)]
  have hs0 : ∀ g' own y, slot (M.set i AO.gone ++ [.one true 0 x']) i g' = some (own, y) → False := by
    intro g' own y hs; unfold slot at hs
    rw [List.getElem?_append_left (by simpa using hlt), List.getElem?_set_self hlt] at hs
    cases hs
  have hs2 : ∀ g' own y, slot (M.set i AO.gone ++ [.one true 0 x']) M.length g' = some (own, y) → g' = 0 ∧ own = true ∧ y = x' := by
    intro g' own y hs; unfold slot at hs
    rw [List.getElem?_append_right (by simp)] at hs
    simp only [List.length_set, Nat.sub_self, List.getElem?_cons_zero, slotO] at hs
    split at hs
    · injection hs with hs; injection hs with a b; exact ⟨‹_›, a.symm, b.symm⟩
    · cases hs
  have hcase : ∀ {j g' own y}, slot (M.set i AO.gone ++ [.one true 0 x']) j g' = some (own, y) → (j < M.length ∧ j ≠ i ∧ slot M j g' = some (own, y)) ∨ (j = M.length ∧ g' = 0 ∧ own = true ∧ y = x') := by
    intro j g' own y hs
    have hj : j < M.length + 1 := by
      unfold slot at hs
      cases ho : (M.set i AO.gone ++ [AO.one true 0 x'])[j]? with
      | none => rw [ho] at hs; cases hs
      | some o => have := (List.getElem?_eq_some_iff.1 ho).1; simpa using this
    by_cases e : j = M.length
    · subst e; exact .inr ⟨rfl, hs2 _ _ _ hs⟩
    · have hj' : j < M.length := by omega
      by_cases ei : j = i
      · subst ei; exact (hs0 _ _ _ hs).elim
      · rw [hs1 j g' hj' ei] at hs; exact .inl ⟨hj', ei, hs⟩
  have hh := h.holds i g true x (slot_one hm)
  have hnew : (∃ q, ρ i g = some (some q) ∧ Holds ρ true x q.1 q.2 w ∧ envC (tabW M.length i g off) ρ M.length 0 = some (some (q.1, q.2 + off))) ∨ (ρ i g = some none ∧ x.virt ∧ envC (tabW M.length i g off) ρ M.length 0 = some none) := by
    rcases hh with ⟨q, e1, e2⟩ | ⟨e1, e2⟩
    · exact .inl ⟨q, e1, e2, by rw [envW_eq, e1]; rfl⟩
    · exact .inr ⟨e1, e2, by rw [envW_eq, e1]; rfl⟩
  refine ⟨⟨?_, ?_, ?_, ?_, ?_⟩, ⟨hext, Nat.le_refl _, fun _ _ _ => rfl, ?_, rfl, rfl, rfl⟩⟩
  · intro j g' hj
    by_cases e : j < M.length
    · simp; omega
    · by_cases e' : j = M.length ∧ g' = 0
      · simp [e'.1]
      · rw [envW_ne e e'] at hj; cases hj
  · intro j g' own g1 y hmj hj
    by_cases e : j < M.length
    · rw [envW_lt e] at hj
      rw [List.getElem?_append_left (by simpa using e)] at hmj
      by_cases ei : j = i
      · subst ei; rw [List.getElem?_set_self hlt] at hmj; cases hmj
      · rw [List.getElem?_set_ne (Ne.symm ei)] at hmj; exact h.tag j g' own g1 y hmj hj
    · by_cases e' : j = M.length ∧ g' = 0
      · omega
      · rw [envW_ne e e'] at hj; cases hj
  · intro j g' own n y hmj hj
    by_cases e : j < M.length
    · rw [envW_lt e] at hj
      rw [List.getElem?_append_left (by simpa using e)] at hmj
      by_cases ei : j = i
      · subst ei; rw [List.getElem?_set_self hlt] at hmj; cases hmj
      · rw [List.getElem?_set_ne (Ne.symm ei)] at hmj; exact h.fam j g' own n y hmj hj
    · by_cases e' : j = M.length ∧ g' = 0
      · rw [e'.1, List.getElem?_append_right (by simp)] at hmj
        simp at hmj
      · rw [envW_ne e e'] at hj; cases hj
  · intro j g' own y hs
    rcases hcase hs with ⟨hj, ei, hs⟩ | ⟨rfl, rfl, rfl, rfl⟩
    · rw [envW_lt hj]
      rcases h.holds j g' own y hs with ⟨q, h1, h2⟩ | h1
      · exact .inl ⟨q, h1, h2.ext hext rfl⟩
      · exact .inr h1
    · rcases hnew with ⟨q, e1, e2, e3⟩ | ⟨e1, e2, e3⟩
      · refine .inl ⟨_, e3, ?_⟩
        obtain ⟨c, e, fr, k1, k2, k3, k4⟩ := e2.out hxr
        refine .mk' hxr' ⟨c, e, fr, k1, by simp only; omega, fun k v hv => ?_, k4⟩
        obtain ⟨a, b⟩ := k3 (off + k) v (hat k v hv)
        exact ⟨AV.ok_ext hext v a, by simp only; rw [AV.c_ext hext v a, Nat.add_assoc]; exact b⟩
      · exact .inr ⟨e3, hv e2⟩
  · intro j g1 y j' g2 own' y' q q' h1 h2 e1 e2 he
    rcases hcase h1 with ⟨hj, ei, k1'⟩ | ⟨rfl, rfl, _, rfl⟩
    · rw [envW_lt hj] at e1
      rcases hcase h2 with ⟨hj', ei', k2'⟩ | ⟨rfl, rfl, _, rfl⟩
      · rw [envW_lt hj'] at e2
        exact h.apart j g1 y j' g2 own' y' q q' k1' k2' e1 e2 he
      · rcases hnew with ⟨q0, k1, k2, k3⟩ | ⟨_, _, k3⟩
        · rw [k3] at e2; injection e2 with e2; injection e2 with e2; subst e2
          exact absurd (h.apart j g1 y i g true x q q0 k1' (slot_one hm) e1 k1 he).1 ei
        · rw [k3] at e2; cases e2
    · rcases hnew with ⟨q0, k1, k2, k3⟩ | ⟨_, _, k3⟩
      · rw [k3] at e1; injection e1 with e1; injection e1 with e1; subst e1
        rcases hcase h2 with ⟨hj', ei', k2'⟩ | ⟨rfl, rfl, _, rfl⟩
        · rw [envW_lt hj'] at e2
          exact absurd (h.apart i g x j' g2 own' y' q0 q' (slot_one hm) k2' k1 e2 he).1.symm ei'
        · exact ⟨rfl, rfl⟩
      · rw [k3] at e1; cases e1
  · intro j g1 y q hs hq hb
    rcases hcase hs with ⟨hj, ei, hs⟩ | ⟨rfl, rfl, _, rfl⟩
    · rw [envW_lt hj] at hq; exact ⟨j, g1, y, q, hs, hq, rfl⟩
    · rcases hnew with ⟨q0, k1, k2, k3⟩ | ⟨_, _, k3⟩
      · rw [k3] at hq; injection hq with hq; injection hq with hq; subst hq
        exact ⟨i, g, x, q0, slot_one hm, k1, rfl⟩
      · rw [k3] at hq; cases hq
/-- An own array from a place on, under a new name. -/
theorem Vw.shift {M : AH} {i g off : Nat} {x x' : Cont} {l l' : List AV} (hm : M[i]? = some (.one true g x)) (hsz : off + x'.size ≤ x.size) (hat : ∀ k v, x'.at k = some v → x.at (off + k) = some v) (hv : x.virt → x'.virt) (hxr : x.row = true) (hxr' : x'.row = true)
    (hl : AV.rnl (tabW M.length i g off) 0 l' = l) (hw : AV.w0l (tabW M.length i g off) l' = true) : Vw M (M.set i .gone ++ [.one true 0 x']) l l' := by
  intro ρ w hs hok
  obtain ⟨h1, h2⟩ := sim_shift (off := off) hs hm hsz hat hv hxr hxr'
  have o1 := okl_back l' hw (by rw [hl]; exact hok)
  exact ⟨_, h1, h2, by rw [← (rnl_c (envC_R (m := 0)) l' o1).2, hl], o1⟩
theorem Vw.rebase {M : AH} {i g off c : Nat} {k : IntKind} {xs : List Int} {l l' : List AV} (hm : M[i]? = some (.one true g (.ints k xs c))) (ho : off ≤ xs.length) (hc : xs.length ≤ c)
    (hl : AV.rnl (tabW M.length i g off) 0 l' = l) (hw : AV.w0l (tabW M.length i g off) l' = true) : Vw M (M.set i .gone ++ [.one true 0 (.ints k (xs.drop off) (c - off))]) l l' := by
  refine Vw.shift hm (by simp [Cont.size]; omega) (fun j v hv => ?_) (fun hv => ?_) rfl rfl hl hw
  · simp only [Cont.at, List.getElem?_drop] at hv ⊢; exact hv
  · obtain ⟨rfl, rfl⟩ := hv; exact ⟨by simp, by omega⟩
/-- An own array whose elder slices stay readable. -/
theorem Vw.keep {M : AH} {i g : Nat} {x : Cont} {l l' : List AV} (hm : M[i]? = some (.one true g x)) (hxr : x.row = true)
    (hl : AV.rnl (tabW M.length i g 0) 0 l' = l) (hw : AV.w0l (tabW M.length i g 0) l' = true) : Vw M (M.set i .gone ++ [.fam true 1 (fun _ => x)]) l l' := by
  intro ρ w hs hok
  obtain ⟨h1, h2⟩ := sim_shift (off := 0) (x' := x) hs hm (by omega) (fun k v hv => by rw [Nat.zero_add]; exact hv) (fun h => h) hxr hxr
  have o1 := okl_back l' hw (by rw [hl]; exact hok)
  have hq : (M.set i AO.gone ++ [AO.one true 0 x])[M.length]? = some (.one true 0 x) := by
    rw [List.getElem?_append_right (by simp)]; simp
  have c := sim_one0 h1 hq
  have d := slot_one0 hq
  have e : (M.set i AO.gone ++ [AO.one true 0 x]).set M.length (.fam true 1 (fun _ => x)) = M.set i .gone ++ [.fam true 1 (fun _ => x)] := by
    rw [List.set_append_right _ _ (by simp)]; simp
  rw [e] at c d
  exact ⟨_, c, ext_slot h2 (fun _ _ => rfl) d, by rw [← (rnl_c (envC_R (m := 0)) l' o1).2, hl], o1⟩
end Go.Proofs.Ytdnmbmnfglbfoaa
