/- Layer 6, plain: frequencies twice as great. -/
import Derived.Test.YtdnmbmnfglbfoaaH22

set_option linter.unusedVariables false

set_option linter.unusedSimpArgs false

open Go.RowKit

namespace Go.Proofs.Ytdnmbmnfglbfoaa

def dblI (x : It) : It := { x with w := 2 * x.w }
theorem leI_dbl {a b : It} (h : leI a b) : leI (dblI a) (dblI b) := by
  unfold leI dblI at *; simp only; omega
theorem numF_dbl (L : List It) (i : Nat) : numF i (L.map dblI) = (numF i L).map dblI := by
  apply List.ext_getElem
  · simp [numF]
  · intro j h1 h2
    simp only [numF, List.getElem_mapIdx, List.getElem_map]
    split <;> rfl
theorem numF_key {L : List It} {a b : It} (ha : a ∈ numF L.length L) (hb : b ∈ numF L.length L) (h : a.k = b.k) : a = b := by
  obtain ⟨i, hi, rfl⟩ := List.getElem_of_mem ha
  obtain ⟨j, hj, rfl⟩ := List.getElem_of_mem hb
  have hi' : i < L.length := by simpa [numF] using hi
  have hj' : j < L.length := by simpa [numF] using hj
  simp only [numF, List.getElem_mapIdx, if_pos hi', if_pos hj'] at h ⊢
  obtain rfl : i = j := by omega
  rfl
theorem sortI_dbl (L : List It) : sortI (L.map dblI) = (sortI L).map dblI := by
  obtain ⟨p1, p2⟩ := sortI_sort (L.map dblI)
  obtain ⟨q1, q2⟩ := sortI_sort L
  have hq : ((sortI L).map dblI).Perm (numF (L.map dblI).length (L.map dblI)) := by
    rw [List.length_map, numF_dbl]; exact q1.map dblI
  refine List.Perm.eq_of_pairwise (le := leI) ?_ p2 (q2.map dblI fun a b h => leI_dbl h) (p1.trans hq.symm)
  intro a b ha hb h1 h2
  refine numF_key (p1.subset ha) (hq.subset hb) ?_
  unfold leI at h1 h2
  omega
def dblP (p : It × It) : It × It := (dblI p.1, dblI p.2)
theorem pairUp_dbl : ∀ l : List It, pairUp (l.map dblI) = (pairUp l).map dblP
  | [] => rfl
  | [_] => rfl
  | a :: b :: r => by simp only [List.map_cons, pairUp, pairUp_dbl r]; rfl
theorem pairsF_dbl (L : List It) : pairsF (L.map dblI) = (pairsF L).map dblP := by
  show pairUp (sortI (L.map dblI)) = _
  rw [sortI_dbl, pairUp_dbl]; rfl
theorem outI_dbl (ps : List (It × It)) : outI (ps.map dblP) = (outI ps).map dblI := by
  apply List.ext_getElem
  · simp [outI]
  · intro j h1 h2
    simp only [outI, List.getElem_mapIdx, List.getElem_map, dblP, dblI]
    congr 1; omega
theorem vsF_dbl (us : Nat → List Int) (ps : List (It × It)) (j : Nat) : vsF us (ps.map dblP) j = vsF us ps j := by
  unfold vsF
  by_cases h : j < ps.length
  · simp only [List.getD_eq_getElem?_getD, List.getElem?_map, List.getElem?_eq_getElem h, Option.map_some, Option.getD_some]; rfl
  · simp only [List.getD_eq_getElem?_getD, List.getElem?_map, List.getElem?_eq_none (show ps.length ≤ j by omega), Option.map_none, Option.getD_none]
def dblF (fr : List Int) : List Int := fr.map fun x => 2 * x
theorem dblF_getD (fr : List Int) (i : Nat) : (dblF fr).getD i 0 = 2 * fr.getD i 0 := by
  unfold dblF
  simp only [List.getD_eq_getElem?_getD, List.getElem?_map]
  cases fr[i]? <;> simp
theorem dblF_len (fr : List Int) : (dblF fr).length = fr.length := by simp [dblF]
theorem usedF_dbl (fr : List Int) : usedF (dblF fr) = usedF fr := by
  unfold usedF
  rw [dblF_len]
  apply List.filter_congr
  intro i _
  rw [dblF_getD, decide_eq_decide]; omega
theorem lvF_dbl (fr : List Int) : lvF (dblF fr) = (lvF fr).map dblI := by
  unfold lvF
  rw [usedF_dbl]
  apply List.ext_getElem
  · simp
  · intro j h1 h2
    simp only [List.getElem_mapIdx, List.getElem_map, dblI, dblF_getD]
theorem rowsF_dbl (fr : List Int) : ∀ k, rowsF (dblF fr) k = ⟨(rowsF fr k).all.map dblI, (rowsF fr k).us, (rowsF fr k).m⟩
  | 0 => by simp only [rowsF, usedF_dbl, List.map_nil]
  | k + 1 => by
    simp only [rowsF, rowsF_dbl fr k, Row.next, lvF_dbl, pairsF_dbl, outI_dbl, List.length_map, List.map_append, vsF_dbl, List.map_map]
    congr 2
theorem hlenF_dbl (fr : List Int) (K : Nat) : hlenF (dblF fr) K = hlenF fr K := by
  unfold hlenF
  rw [usedF_dbl, dblF_len]
  split
  · rfl
  · rfl
  · unfold outT
    rw [usedF_dbl, dblF_len, rowsF_dbl]
    simp only [List.length_map]
    have : popsF (rowsF fr K).all.length (startF ((rowsF fr K).all.map dblI)) = (popsF (rowsF fr K).all.length (startF (rowsF fr K).all)).map dblI := by
      have := sortI_dbl (rowsF fr K).all
      unfold sortI at this
      rwa [List.length_map] at this
    rw [this, ← List.map_take, List.foldl_map]
    rfl
theorem lengthsF_dbl {fr : List Int} (h : ∀ x ∈ fr, 0 ≤ x ∧ x ≤ 549755813888) (limit : Int) : lengthsF (dblF fr) limit = lengthsF fr limit := by
  have e1 : fr.any badI = false := by
    rw [List.any_eq_false]
    intro x hx
    have := h x hx
    simp only [badI, Bool.or_eq_true, decide_eq_true_eq]; omega
  have e2 : (dblF fr).any badI = false := by
    rw [List.any_eq_false]
    intro x hx
    obtain ⟨y, hy, rfl⟩ := List.mem_map.1 hx
    have := h y hy
    simp only [badI, Bool.or_eq_true, decide_eq_true_eq]; omega
  unfold lengthsF lenB
  rw [e1, e2, dblF_len, usedF_dbl, hlenF_dbl]
end Go.Proofs.Ytdnmbmnfglbfoaa
