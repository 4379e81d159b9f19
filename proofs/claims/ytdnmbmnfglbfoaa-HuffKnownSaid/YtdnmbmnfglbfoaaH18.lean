/- Layer 6, plain: the heap gives its items in order. -/
import Derived.Test.YtdnmbmnfglbfoaaH6

set_option linter.unusedVariables false

set_option linter.unusedSimpArgs false

open Go.RowKit

namespace Go.Proofs.Ytdnmbmnfglbfoaa

def leI (a b : It) : Prop := a.w < b.w ∨ (a.w = b.w ∧ a.k ≤ b.k)
theorem leI_refl (a : It) : leI a a := .inr ⟨rfl, Int.le_refl _⟩
theorem leI_trans {a b c : It} (h1 : leI a b) (h2 : leI b c) : leI a c := by unfold leI at *; omega
theorem leI_of_less {a b : It} (h : lessI a b = true) : leI a b := by
  simp only [lessI, Bool.or_eq_true, Bool.and_eq_true, decide_eq_true_eq] at h; unfold leI; omega
theorem leI_of_not {a b : It} (h : ¬ lessI b a = true) : leI a b := by
  simp only [lessI, Bool.or_eq_true, Bool.and_eq_true, decide_eq_true_eq] at h; unfold leI; omega
theorem swapL_getD {L : List It} {i j : Nat} (hi : i < L.length) (hj : j < L.length) (r : Nat) : (swapL L i j).getD r default = if r = j then L.getD i default else if r = i then L.getD j default else L.getD r default := by
  unfold swapL
  simp only [List.getD_eq_getElem?_getD, List.getElem?_set, List.length_set]
  by_cases h1 : r = j
  · subst h1; simp [hj]
  · rw [if_neg (fun h => h1 h.symm), if_neg h1]
    by_cases h2 : r = i
    · subst h2; simp [hi]
    · rw [if_neg (fun h => h2 h.symm), if_neg h2]
def heapP (n : Nat) (L : List It) (s : Nat) : Prop := ∀ j c, s ≤ j → (c = 2 * j + 1 ∨ c = 2 * j + 2) → c < n → leI (L.getD j default) (L.getD c default)
/-- A heap but for what lies at i. -/
def holeP (n : Nat) (L : List It) (s i : Nat) : Prop := (∀ j c, s ≤ j → j ≠ i → (c = 2 * j + 1 ∨ c = 2 * j + 2) → c < n → leI (L.getD j default) (L.getD c default)) ∧
  ∀ p c, s ≤ p → (i = 2 * p + 1 ∨ i = 2 * p + 2) → (c = 2 * i + 1 ∨ c = 2 * i + 2) → c < n → leI (L.getD p default) (L.getD c default)
theorem downG_heap : ∀ (f n : Nat) (L : List It) (i s : Nat), n - i ≤ f → s ≤ i → n ≤ L.length → holeP n L s i → heapP n (downG f n L i) s
  | 0, n, L, i, s, hf, hs, hn, h => by
    intro j c hj hc hcn
    exact h.1 j c hj (by omega) hc hcn
  | f + 1, n, L, i, s, hf, hs, hn, h => by
    simp only [downG]
    by_cases h1 : 2 * i + 1 < n
    · rw [if_pos h1]
      have hk := kidF_lt (L := L) h1
      have hkid : kidF n L i = 2 * i + 1 ∨ kidF n L i = 2 * i + 2 := by unfold kidF; split <;> omega
      have hmin : ∀ c, (c = 2 * i + 1 ∨ c = 2 * i + 2) → c < n → leI (L.getD (kidF n L i) default) (L.getD c default) := by
        intro c hc hcn
        unfold kidF
        by_cases h3 : 2 * i + 2 < n ∧ lessI (L.getD (2 * i + 2) default) (L.getD (2 * i + 1) default) = true
        · rw [if_pos h3]
          rcases hc with rfl | rfl
          · exact leI_of_less h3.2
          · exact leI_refl _
        · rw [if_neg h3]
          rcases hc with rfl | rfl
          · exact leI_refl _
          · exact leI_of_not (fun h4 => h3 ⟨hcn, h4⟩)
      generalize kidF n L i = k at *
      by_cases h2 : lessI (L.getD k default) (L.getD i default) = true
      · rw [if_pos h2]
        have hil : i < L.length := by omega
        have hkl : k < L.length := by omega
        refine downG_heap f n _ k s (by omega) (by omega) (by rw [swapL_len]; exact hn) ⟨?_, ?_⟩
        · intro j c hj hjk hc hcn
          rw [swapL_getD hil hkl, swapL_getD hil hkl]
          by_cases e1 : j = i
          · rw [if_neg hjk, if_pos e1]
            by_cases e2 : c = k
            · rw [if_pos e2]; exact leI_of_less h2
            · rw [if_neg e2, if_neg (by omega)]; exact hmin c (by omega) hcn
          · rw [if_neg hjk, if_neg e1, if_neg (show ¬ c = k by omega)]
            by_cases e3 : c = i
            · rw [if_pos e3]; exact h.2 j k hj (by omega) hkid hk.2
            · rw [if_neg e3]; exact h.1 j c hj e1 hc hcn
        · intro p c hp hpk hc hcn
          have e : p = i := by omega
          rw [swapL_getD hil hkl, swapL_getD hil hkl, if_neg (show ¬ p = k by omega), if_pos e, if_neg (show ¬ c = k by omega), if_neg (show ¬ c = i by omega)]
          exact h.1 k c (by omega) (by omega) hc hcn
      · rw [if_neg h2]
        intro j c hj hc hcn
        by_cases e : j = i
        · rw [e]; exact leI_trans (leI_of_not h2) (hmin c (by omega) hcn)
        · exact h.1 j c hj e hc hcn
    · rw [if_neg h1]
      intro j c hj hc hcn
      exact h.1 j c hj (by omega) hc hcn
theorem downG_hi : ∀ (f n : Nat) (L : List It) (i j : Nat), n ≤ L.length → n ≤ j → (downG f n L i).getD j default = L.getD j default
  | 0, _, _, _, _, _, _ => rfl
  | f + 1, n, L, i, j, hn, hj => by
    simp only [downG]
    split
    · rename_i h1
      have hk := kidF_lt (L := L) h1
      split
      · rw [downG_hi f n _ _ j (by rw [swapL_len]; exact hn) hj, swapL_getD (by omega) (by omega), if_neg (by omega), if_neg (by omega)]
      · rfl
    · rfl
theorem swapL_perm {L : List It} {i j : Nat} (hi : i < L.length) (hj : j < L.length) : (swapL L i j).Perm L := by
  have gi : L.getD i default = L[i] := by simp [List.getD_eq_getElem?_getD, hi]
  have gj : L.getD j default = L[j] := by simp [List.getD_eq_getElem?_getD, hj]
  rw [List.perm_iff_count]
  intro x
  unfold swapL
  rw [gi, gj, List.count_set (by rw [List.length_set]; exact hj), List.count_set hi, List.getElem_set]
  have c1 : L.count x ≥ if (L[i] == x) = true then 1 else 0 := by
    split
    · rename_i h
      exact List.one_le_count_iff.2 (by have := List.getElem_mem hi; rw [eq_of_beq h] at this; exact this)
    · omega
  have c2 : L.count x ≥ if (L[j] == x) = true then 1 else 0 := by
    split
    · rename_i h
      exact List.one_le_count_iff.2 (by have := List.getElem_mem hj; rw [eq_of_beq h] at this; exact this)
    · omega
  by_cases e : i = j
  · subst e; simp only [if_true]; omega
  · rw [if_neg e]; omega
theorem swapL_take {L : List It} {i j n : Nat} (hi : i < n) (hj : j < n) : (swapL L i j).take n = swapL (L.take n) i j := by
  unfold swapL
  rw [List.take_set, List.take_set]
  simp only [List.getD_eq_getElem?_getD, List.getElem?_take, if_pos hi, if_pos hj]
theorem downG_perm : ∀ (f n : Nat) (L : List It) (i : Nat), n ≤ L.length → ((downG f n L i).take n).Perm (L.take n)
  | 0, _, _, _, _ => List.Perm.refl _
  | f + 1, n, L, i, hn => by
    simp only [downG]
    split
    · rename_i h1
      have hk := kidF_lt (L := L) h1
      split
      · refine (downG_perm f n _ _ (by rw [swapL_len]; exact hn)).trans ?_
        rw [swapL_take (by omega) hk.2]
        exact swapL_perm (by rw [List.length_take]; omega) (by rw [List.length_take]; omega)
      · exact List.Perm.refl _
    · exact List.Perm.refl _
theorem initF_heap (n : Nat) : ∀ (i : Nat) (L : List It), n ≤ L.length → heapP n L i → heapP n (initF n i L) 0
  | 0, _, _, h => h
  | i + 1, L, hn, h => by
    rw [initF]
    refine initF_heap n i _ (by rw [downF_len]; exact hn) ?_
    refine downG_heap _ n L i i (Nat.le_refl _) (Nat.le_refl _) hn ⟨?_, ?_⟩
    · intro j c hj hji hc hcn
      exact h j c (by omega) hc hcn
    · intro p c hp hpi
      omega
theorem initF_perm (n : Nat) : ∀ (i : Nat) (L : List It), n ≤ L.length → ((initF n i L).take n).Perm (L.take n)
  | 0, _, _ => List.Perm.refl _
  | i + 1, L, hn => by
    rw [initF]
    exact (initF_perm n i _ (by rw [downF_len]; exact hn)).trans (downG_perm _ n L i hn)
theorem heap_min {n : Nat} {L : List It} (h : heapP n L 0) : ∀ (c : Nat), c < n → leI (L.getD 0 default) (L.getD c default) := by
  intro c
  induction c using Nat.strongRecOn with
  | _ c ih =>
    intro hc
    rcases Nat.eq_zero_or_pos c with rfl | hp
    · exact leI_refl _
    · exact leI_trans (ih ((c - 1) / 2) (by omega) (by omega)) (h ((c - 1) / 2) c (Nat.zero_le _) (by omega) hc)
theorem take_getD {L : List It} {h : Nat} (hh : h < L.length) : L.take (h + 1) = L.take h ++ [L.getD h default] := by
  rw [List.take_succ_eq_append_getElem hh]; simp [List.getD_eq_getElem?_getD, hh]
theorem popsF_sort : ∀ (h : Nat) (L : List It), h ≤ L.length → heapP h L 0 → (popsF h L).Perm (L.take h) ∧ (popsF h L).Pairwise leI
  | 0, _, _, _ => ⟨by simp [popsF], List.Pairwise.nil⟩
  | h + 1, L, hl, hp => by
    have h0 : 0 < L.length := by omega
    have hh : h < L.length := by omega
    have hx : (popF (h + 1) L).getD h default = L.getD 0 default := by
      unfold popF downF
      rw [downG_hi (h + 1 - 1 - 0) (h + 1 - 1) (swapL L 0 (h + 1 - 1)) 0 h (by rw [swapL_len]; omega) (by omega), Nat.add_sub_cancel, swapL_getD h0 hh, if_pos rfl]
    have hq : heapP h (popF (h + 1) L) 0 := by
      unfold popF downF
      refine downG_heap _ h _ 0 0 (Nat.le_refl _) (Nat.le_refl _) (by rw [swapL_len]; omega) ⟨?_, ?_⟩
      · intro j c hj hj0 hc hch
        rw [Nat.add_sub_cancel, swapL_getD h0 hh, swapL_getD h0 hh, if_neg (by omega), if_neg hj0, if_neg (by omega), if_neg (by omega)]
        exact hp j c hj hc (by omega)
      · intro p c hp' hpi
        omega
    obtain ⟨i1, i2⟩ := popsF_sort h (popF (h + 1) L) (by rw [popF_len]; omega) hq
    have hperm : (popsF (h + 1) L).Perm (L.take (h + 1)) := by
      show ((popF (h + 1) L).getD h default :: popsF h (popF (h + 1) L)).Perm _
      rw [hx]
      refine (List.Perm.cons _ (i1.trans (downG_perm _ h _ 0 (by rw [swapL_len]; show h ≤ _; omega)))).trans ?_
      rw [Nat.add_sub_cancel]
      have e : (swapL L 0 h).take (h + 1) = (swapL L 0 h).take h ++ [L.getD 0 default] := by
        rw [take_getD (by rw [swapL_len]; exact hh), swapL_getD h0 hh, if_pos rfl]
      refine (List.perm_append_singleton (L.getD 0 default) ((swapL L 0 h).take h)).symm.trans ?_
      rw [← e, swapL_take (by omega) (by omega)]
      exact swapL_perm (by rw [List.length_take]; omega) (by rw [List.length_take]; omega)
    refine ⟨hperm, ?_⟩
    show ((popF (h + 1) L).getD h default :: popsF h (popF (h + 1) L)).Pairwise leI
    refine List.Pairwise.cons (fun y hy => ?_) i2
    have hy' : y ∈ L.take (h + 1) := hperm.subset (List.mem_cons_of_mem _ hy)
    obtain ⟨c, hc, rfl⟩ := List.getElem_of_mem hy'
    rw [List.length_take] at hc
    rw [hx, List.getElem_take]
    have := heap_min hp c (by omega)
    rwa [show L.getD c default = L[c] by simp [List.getD_eq_getElem?_getD, show c < L.length by omega]] at this
/-- The items of a row, in order. -/
def sortI (L : List It) : List It := popsF L.length (startF L)
theorem sortI_len (L : List It) : (sortI L).length = L.length := popsF_len _ _
theorem sortI_sort (L : List It) : (sortI L).Perm (numF L.length L) ∧ (sortI L).Pairwise leI := by
  have hl := numF_len L.length L
  obtain ⟨h1, h2⟩ := popsF_sort L.length (startF L) (by rw [startF_len]; exact Nat.le_refl _) (by
    unfold startF
    refine initF_heap _ _ _ (by rw [hl]; exact Nat.le_refl _) ?_
    intro j c hj hc hcn
    omega)
  refine ⟨h1.trans ?_, h2⟩
  have := initF_perm L.length (L.length / 2) (numF L.length L) (by rw [hl]; exact Nat.le_refl _)
  unfold startF
  rwa [List.take_of_length_le (l := numF L.length L) (by rw [hl]; exact Nat.le_refl _)] at this
end Go.Proofs.Ytdnmbmnfglbfoaa
