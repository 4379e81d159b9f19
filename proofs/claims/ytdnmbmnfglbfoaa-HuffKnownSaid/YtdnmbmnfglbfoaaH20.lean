/- Layer 6, plain: one row from the row ahead. -/
import Derived.Test.YtdnmbmnfglbfoaaH19

set_option linter.unusedVariables false

set_option linter.unusedSimpArgs false

open Go.RowKit

namespace Go.Proofs.Ytdnmbmnfglbfoaa

section

variable {fr : List Int}

def isP (p : Nat) (x : It) : Bool := decide (x.k < (p : Int))
theorem np_len (k : Nat) : (npF fr k).length = (pF fr k).length := by simp [npF]
theorem np_get {k j : Nat} (h : j < (npF fr k).length) : (npF fr k)[j] = ⟨((pF fr k)[j]'(by rwa [np_len] at h)).1.w + ((pF fr k)[j]'(by rwa [np_len] at h)).2.w, (j : Int), (rowsF fr k).m + j⟩ := by
  simp only [npF, List.getElem_mapIdx]
theorem np_mem {k : Nat} {x : It} (h : x ∈ npF fr k) : ∃ j, ∃ hj : j < (pF fr k).length, x = ⟨(pF fr k)[j].1.w + (pF fr k)[j].2.w, (j : Int), (rowsF fr k).m + j⟩ := by
  obtain ⟨j, hj, rfl⟩ := List.getElem_of_mem h
  exact ⟨j, by rwa [np_len] at hj, np_get hj⟩
theorem nl_mem {k : Nat} {x : It} : x ∈ nlF fr k ↔ ∃ i, i < nF fr ∧ x = ⟨fF fr i, (((pF fr k).length + i : Nat) : Int), i⟩ := by
  simp only [nlF, List.mem_map, List.mem_range]
  constructor
  · rintro ⟨i, h, rfl⟩; exact ⟨i, h, rfl⟩
  · rintro ⟨i, h, rfl⟩; exact ⟨i, h, rfl⟩
theorem srt_perm (k : Nat) : (srt fr (k + 1)).Perm (npF fr k ++ nlF fr k) := by
  have := (sortI_sort (rowsF fr (k + 1)).all).1
  rw [numF_row] at this
  exact this
theorem srt_sorted (k : Nat) : (srt fr k).Pairwise leI := (sortI_sort _).2
theorem srt_zero : srt fr 0 = [] := rfl
theorem np_filter (k : Nat) : (npF fr k ++ nlF fr k).filter (isP (pF fr k).length) = npF fr k := by
  rw [List.filter_append, List.filter_eq_self.2 (fun x hx => ?_), List.filter_eq_nil_iff.2 (fun x hx => ?_), List.append_nil]
  · obtain ⟨i, hi, rfl⟩ := nl_mem.1 hx
    unfold isP; rw [decide_eq_true_eq]; show ¬ (((pF fr k).length + i : Nat) : Int) < _; omega
  · obtain ⟨j, hj, rfl⟩ := np_mem hx
    unfold isP; rw [decide_eq_true_eq]; show (j : Int) < _; omega
theorem nl_filter (k : Nat) : (npF fr k ++ nlF fr k).filter (fun x => !isP (pF fr k).length x) = nlF fr k := by
  rw [List.filter_append, List.filter_eq_nil_iff.2 (fun x hx => ?_), List.filter_eq_self.2 (fun x hx => ?_), List.nil_append]
  · obtain ⟨i, hi, rfl⟩ := nl_mem.1 hx
    unfold isP; rw [Bool.not_eq_true', decide_eq_false_iff_not]; show ¬ (((pF fr k).length + i : Nat) : Int) < _; omega
  · obtain ⟨j, hj, rfl⟩ := np_mem hx
    unfold isP; simp only [Bool.not_eq_true', decide_eq_false_iff_not, Decidable.not_not]; show (j : Int) < _; omega
theorem np_sorted (k : Nat) : (npF fr k).Pairwise leI := by
  rw [List.pairwise_iff_getElem]
  intro i j hi hj hij
  rw [np_get hi, np_get hj]
  have h := List.pairwise_iff_getElem.1 (pairUp_sorted (srt_sorted (fr := fr) k)) i j (by rwa [np_len] at hi) (by rwa [np_len] at hj) hij
  have hil : i < (pF fr k).length := by rwa [np_len] at hi
  have hjl : j < (pF fr k).length := by rwa [np_len] at hj
  have h' : (pF fr k)[i].1.w + (pF fr k)[i].2.w ≤ (pF fr k)[j].1.w + (pF fr k)[j].2.w := h
  unfold leI
  show _ < _ ∨ _ = _ ∧ (i : Int) ≤ (j : Int)
  simp only
  omega
theorem srt_pairs (k : Nat) : (srt fr (k + 1)).filter (isP (pF fr k).length) = npF fr k := by
  have hp := (srt_perm (fr := fr) k).filter (isP (pF fr k).length)
  rw [np_filter] at hp
  refine List.Perm.eq_of_pairwise (le := leI) ?_ ((srt_sorted (k + 1)).filter _) (np_sorted k) hp
  intro a b ha hb h1 h2
  obtain ⟨i, hi, rfl⟩ := np_mem (hp.subset ha)
  obtain ⟨j, hj, rfl⟩ := np_mem hb
  unfold leI at h1 h2
  simp only at h1 h2
  obtain rfl : i = j := by omega
  rfl
theorem srt_leaves (k : Nat) : ((srt fr (k + 1)).filter fun x => !isP (pF fr k).length x).Perm (nlF fr k) := by
  have hp := (srt_perm (fr := fr) k).filter (fun x => !isP (pF fr k).length x)
  rwa [nl_filter] at hp
theorem nl_apart (k : Nat) : (nlF fr k).Pairwise fun a b => a.u ≠ b.u := by
  rw [List.pairwise_iff_getElem]
  intro i j hi hj hij
  simp only [nlF, List.getElem_map, List.getElem_range]
  omega
theorem rowsF_m_ge (k : Nat) : nF fr ≤ (rowsF fr k).m := rowsF_m fr k
/-- The symbol i as an item. -/
def leafI (fr : List Int) (k i : Nat) : It := ⟨fF fr i, (((pF fr k).length + i : Nat) : Int), i⟩
theorem leaf_mem {k i : Nat} (h : i < nF fr) : leafI fr k i ∈ srt fr (k + 1) := (srt_perm k).symm.subset (List.mem_append_right _ (nl_mem.2 ⟨i, h, rfl⟩))
theorem leaf_of {k i : Nat} {x : It} (hx : x ∈ srt fr (k + 1)) (hi : i < nF fr) (e : x.u = i) : x = leafI fr k i := by
  rcases List.mem_append.1 ((srt_perm k).subset hx) with h | h
  · obtain ⟨j, hj, rfl⟩ := np_mem h
    have := rowsF_m_ge (fr := fr) k
    simp only at e; omega
  · obtain ⟨j, hj, rfl⟩ := nl_mem.1 h
    simp only at e
    subst e; rfl
theorem leaf_w : ∀ {k i : Nat} {x : It}, x ∈ srt fr k → i < nF fr → x.u = i → x.w = fF fr i
  | 0, _, _, hx, _, _ => by rw [srt_zero] at hx; cases hx
  | k + 1, _, _, hx, hi, e => by rw [leaf_of hx hi e]; rfl
theorem fF_pos {i : Nat} (h : i < nF fr) : 0 < fF fr i := by
  unfold fF
  have := (usedF_mem (getD_memN (d := 0) h)).2
  exact this
theorem srt_pos : ∀ {k : Nat} {x : It}, x ∈ srt fr k → 0 < x.w
  | 0, _, hx => by rw [srt_zero] at hx; cases hx
  | k + 1, x, hx => by
    rcases List.mem_append.1 ((srt_perm k).subset hx) with h | h
    · obtain ⟨j, hj, rfl⟩ := np_mem h
      obtain ⟨a, b⟩ := pairUp_mem (a := (pF fr k)[j].1) (b := (pF fr k)[j].2) (l := srt fr k) (List.getElem_mem hj)
      have := srt_pos a
      have := srt_pos b
      show 0 < _ + _
      omega
    · obtain ⟨i, hi, rfl⟩ := nl_mem.1 h
      exact fF_pos hi
/-- How often a symbol lies in an item. -/
def vF (fr : List Int) (k : Nat) (x : It) (i : Nat) : Int := ((rowsF fr k).us x.u).getD i 0
def uT (fr : List Int) (k t i : Nat) : Int := sumI (fun x => vF fr k x i) ((srt fr k).take t)
def aT (fr : List Int) (k t i : Nat) : Int := cntU i ((srt fr k).take t)
def wT (fr : List Int) (k t : Nat) : Int := sumI (fun x => x.w) ((srt fr k).take t)
theorem us_leaf : ∀ {k i : Nat}, i < nF fr → (rowsF fr k).us i = unitV (nF fr) i
  | 0, i, _ => rfl
  | k + 1, i, h => by
    have := rowsF_m_ge (fr := fr) k
    show (if i < (rowsF fr k).m then (rowsF fr k).us i else _) = _
    rw [if_pos (by omega)]; exact us_leaf h
theorem unitV_get {n k i : Nat} (hi : i < n) : (unitV n k).getD i 0 = if k = i then 1 else 0 := by
  unfold unitV
  simp only [List.getD_eq_getElem?_getD, List.getElem?_set, List.length_replicate]
  by_cases e : k = i
  · subst e; simp [hi]
  · rw [if_neg e, if_neg e]; simp [hi]
theorem np_sum {k : Nat} (g : It → Int) (h : It × It → Int) (hgh : ∀ j (hj : j < (pF fr k).length), g ⟨(pF fr k)[j].1.w + (pF fr k)[j].2.w, (j : Int), (rowsF fr k).m + j⟩ = h (pF fr k)[j]) : ∀ m, m ≤ (pF fr k).length → sumI g ((npF fr k).take m) = (((pF fr k).take m).map h).sum
  | 0, _ => by simp [sumI]
  | m + 1, hm => by
    have ih := np_sum g h hgh m (by omega)
    rw [List.take_succ_eq_append_getElem (by rw [np_len]; omega), List.take_succ_eq_append_getElem (show m < (pF fr k).length by omega), sumI_append, ih, List.map_append, List.sum_append, np_get]
    simp only [sumI, List.map_cons, List.map_nil, List.sum_cons, List.sum_nil]
    rw [hgh m (by omega)]
theorem vF_pair (hb : fr.any badI = false) (hl : fr.length ≤ 320) {k : Nat} (hk : k ≤ 15) {i : Nat} (hi : i < nF fr) (j : Nat) (hj : j < (pF fr k).length) :
    vF fr (k + 1) ⟨(pF fr k)[j].1.w + (pF fr k)[j].2.w, (j : Int), (rowsF fr k).m + j⟩ i = vF fr k (pF fr k)[j].1 i + vF fr k (pF fr k)[j].2 i := by
  have ok := rowsF_ok hb hl k hk
  obtain ⟨⟨y, y1, _, y2⟩, ⟨z, z1, _, z2⟩⟩ := pairsF_memP (L := (rowsF fr k).all) (List.getElem_mem hj)
  have l1 := ok.ul (pF fr k)[j].1.u (by rw [← y2]; exact (ok.items y y1).1)
  have l2 := ok.ul (pF fr k)[j].2.u (by rw [← z2]; exact (ok.items z z1).1)
  have hd : (pF fr k).getD j default = (pF fr k)[j] := by simp [List.getD_eq_getElem?_getD, hj]
  unfold vF
  have e : (rowsF fr (k + 1)).us ((rowsF fr k).m + j) = List.zipWith (· + ·) ((rowsF fr k).us (pF fr k)[j].1.u) ((rowsF fr k).us (pF fr k)[j].2.u) := by
    show (if (rowsF fr k).m + j < (rowsF fr k).m then _ else vsF (rowsF fr k).us (pF fr k) ((rowsF fr k).m + j - (rowsF fr k).m)) = _
    rw [if_neg (by omega), Nat.add_sub_cancel_left]
    unfold vsF
    rw [hd]
  show ((rowsF fr (k + 1)).us ((rowsF fr k).m + j)).getD i 0 = _
  rw [e]
  simp only [List.getD_eq_getElem?_getD, List.getElem?_zipWith, List.getElem?_eq_getElem (show i < ((rowsF fr k).us (pF fr k)[j].1.u).length by rw [l1]; exact hi), List.getElem?_eq_getElem (show i < ((rowsF fr k).us (pF fr k)[j].2.u).length by rw [l2]; exact hi), Option.getD_some]
theorem row_step (hb : fr.any badI = false) (hl : fr.length ≤ 320) {k t : Nat} (hk : k ≤ 15) (ht : t ≤ (srt fr (k + 1)).length) :
    ∃ m, 2 * m ≤ (srt fr k).length ∧ (t : Int) = m + sumN (nF fr) (aT fr (k + 1) t) ∧ (∀ i, i < nF fr → uT fr (k + 1) t i = uT fr k (2 * m) i + aT fr (k + 1) t i) ∧
      wT fr (k + 1) t = wT fr k (2 * m) + sumN (nF fr) (fun i => fF fr i * aT fr (k + 1) t i) ∧ (∀ i, i < nF fr → 0 ≤ aT fr (k + 1) t i ∧ aT fr (k + 1) t i ≤ 1) ∧
      (∀ i j, i < nF fr → j < nF fr → fF fr j < fF fr i → aT fr (k + 1) t i ≤ aT fr (k + 1) t j) ∧ (∀ i, i < nF fr → aT fr k (2 * m) i ≤ aT fr (k + 1) t i) := by
  have hmg := rowsF_m_ge (fr := fr) k
  have hsplit : srt fr (k + 1) = (srt fr (k + 1)).take t ++ (srt fr (k + 1)).drop t := (List.take_append_drop _ _).symm
  have hT : ((srt fr (k + 1)).take t).length = t := by rw [List.length_take]; omega
  generalize hTe : (srt fr (k + 1)).take t = T at hsplit hT
  generalize hDe : (srt fr (k + 1)).drop t = D at hsplit
  generalize hm : (T.filter (isP (pF fr k).length)).length = m
  generalize hTL : T.filter (fun x => !isP (pF fr k).length x) = TL
  have hTP : T.filter (isP (pF fr k).length) = (npF fr k).take m := by
    rw [← srt_pairs, hsplit, List.filter_append, ← hm, List.take_left]
  have hml : m ≤ (pF fr k).length := by
    have := congrArg List.length hTP
    rw [hm, List.length_take, np_len] at this
    omega
  have hpl : (pF fr k).length = (srt fr k).length / 2 := pairUp_len _
  have hsum : ∀ g : It → Int, sumI g T = sumI g ((npF fr k).take m) + sumI g TL := by
    intro g
    rw [← sumI_perm (List.filter_append_perm (isP (pF fr k).length) T), sumI_append, hTP, hTL]
  have hTLm : ∀ x ∈ TL, ∃ i, i < nF fr ∧ x = leafI fr k i := by
    intro x hx
    have h1 : x ∈ (srt fr (k + 1)).filter fun x => !isP (pF fr k).length x := by
      rw [hsplit, List.filter_append, hTL]; exact List.mem_append_left _ hx
    exact nl_mem.1 ((srt_leaves k).subset h1)
  have hTLa : TL.Pairwise fun a b => a.u ≠ b.u := by
    have h1 : ((srt fr (k + 1)).filter fun x => !isP (pF fr k).length x).Pairwise fun a b => a.u ≠ b.u := (nl_apart k).perm (srt_leaves k).symm (fun h => fun e => h e.symm)
    rw [hsplit, List.filter_append, hTL] at h1
    exact (List.pairwise_append.1 h1).1
  have hnp : ∀ i, i < nF fr → cntU i ((npF fr k).take m) = 0 := by
    intro i hi
    apply cntU_not
    intro x hx
    obtain ⟨j, hj, rfl⟩ := np_mem (List.mem_of_mem_take hx)
    show (rowsF fr k).m + j ≠ i
    omega
  have haT : ∀ i, i < nF fr → aT fr (k + 1) t i = cntU i TL := by
    intro i hi
    have := hsum (fun x => if x.u = i then 1 else 0)
    unfold aT
    rw [hTe]
    have h0 := hnp i hi
    unfold cntU at h0 ⊢
    rw [this, h0]; omega
  have hTLu : ∀ x ∈ TL, x.u < nF fr := by
    intro x hx
    obtain ⟨i, hi, rfl⟩ := hTLm x hx
    exact hi
  have hin : ∀ i, i < nF fr → ∀ y ∈ T, fF fr i < y.w → 1 ≤ aT fr (k + 1) t i := by
    intro i hi y hy hw
    have h1 := leaf_mem (fr := fr) (k := k) hi
    rw [hsplit] at h1
    rcases List.mem_append.1 h1 with h1 | h1
    · have : aT fr (k + 1) t i = cntU i T := by unfold aT; rw [hTe]
      rw [this]
      exact cntU_mem ⟨_, h1, rfl⟩
    · exfalso
      have h2 := srt_sorted (fr := fr) (k + 1)
      rw [hsplit] at h2
      have h3 := (List.pairwise_append.1 h2).2.2 y hy _ h1
      unfold leI at h3
      have h4 : (leafI fr k i).w = fF fr i := rfl
      omega
  refine ⟨m, by omega, ?_, ?_, ?_, ?_, ?_, ?_⟩
  · have h1 := hsum (fun _ => 1)
    have hone : ∀ l : List It, sumI (fun _ => 1) l = l.length := by
      intro l
      induction l with
      | nil => rfl
      | cons x l ih => simp only [sumI, ih, List.length_cons]; omega
    rw [hone, hone, hT, List.length_take, np_len, Nat.min_eq_left hml] at h1
    have h2 := sumI_cnt (n := nF fr) (fun _ => 1) hTLu
    rw [h1, h2, sumN_congr (h := aT fr (k + 1) t) fun i hi => by rw [haT i hi]; omega]
  · intro i hi
    have h1 := hsum (fun x => vF fr (k + 1) x i)
    have h2 := np_sum (k := k) (fun x => vF fr (k + 1) x i) (fun q => vF fr k q.1 i + vF fr k q.2 i) (vF_pair hb hl hk hi) m hml
    have h3 := pairUp_sum (fun x => vF fr k x i) (srt fr k) m hml
    have h4 : sumI (fun x => vF fr (k + 1) x i) TL = cntU i TL := by
      refine sumI_congr fun x hx => ?_
      obtain ⟨j, hj, rfl⟩ := hTLm x hx
      show ((rowsF fr (k + 1)).us j).getD i 0 = if j = i then 1 else 0
      rw [us_leaf hj, unitV_get hi]
    rw [haT i hi]
    unfold uT
    rw [hTe, h1, h2, h4]
    rw [← h3]; rfl
  · have h1 := hsum (fun x => x.w)
    have h2 := np_sum (k := k) (fun x => x.w) (fun q => q.1.w + q.2.w) (fun _ _ => rfl) m hml
    have h3 := pairUp_sum (fun x => x.w) (srt fr k) m hml
    have h4 : sumI (fun x => x.w) TL = sumN (nF fr) (fun i => fF fr i * cntU i TL) := by
      rw [← sumI_cnt (fF fr) hTLu]
      refine sumI_congr fun x hx => ?_
      obtain ⟨j, hj, rfl⟩ := hTLm x hx
      rfl
    unfold wT
    rw [hTe, h1, h2, h4, ← h3]
    rw [sumN_congr (g := fun i => fF fr i * aT fr (k + 1) t i) (h := fun i => fF fr i * cntU i TL) fun i hi => by rw [haT i hi]]
    rfl
  · intro i hi
    rw [haT i hi]
    exact ⟨cntU_nn i TL, cntU_le hTLa⟩
  · intro i j hi hj hw
    by_cases h : ∃ x ∈ TL, x.u = i
    · obtain ⟨x, hx, e⟩ := h
      have hxT : x ∈ T := by rw [← hTL] at hx; exact (List.mem_filter.1 hx).1
      have hxs : x ∈ srt fr (k + 1) := by rw [hsplit]; exact List.mem_append_left _ hxT
      have hxw := leaf_w hxs hi e
      have h1 := hin j hj x hxT (by omega)
      rw [haT i hi]
      have := cntU_le (i := i) hTLa
      omega
    · rw [haT i hi, cntU_not (fun x hx e => h ⟨x, hx, e⟩), haT j hj]
      exact cntU_nn j TL
  · intro i hi
    have h0 : 0 ≤ aT fr (k + 1) t i := by rw [haT i hi]; exact cntU_nn i TL
    by_cases h : ∃ x ∈ (srt fr k).take (2 * m), x.u = i
    · obtain ⟨y, hy, e⟩ := h
      have hyw := leaf_w (List.mem_of_mem_take hy) hi e
      obtain ⟨q, hq, hyq⟩ := pairUp_in (srt fr k) m hml hy
      obtain ⟨j, hj, rfl⟩ := List.getElem_of_mem hq
      rw [List.length_take] at hj
      have hjl : j < (pF fr k).length := by have : j < min m (pF fr k).length := hj; omega
      have hjm : j < m := by omega
      have hxe : (npF fr k).take m = (npF fr k).take m := rfl
      have hxm : (npF fr k)[j]'(by rw [np_len]; exact hjl) ∈ T := by
        have : (npF fr k)[j]'(by rw [np_len]; exact hjl) ∈ (npF fr k).take m := by
          rw [List.mem_take_iff_getElem]
          exact ⟨j, by rw [np_len]; omega, rfl⟩
        rw [← hTP] at this
        exact (List.mem_filter.1 this).1
      have hg : ((pairUp (srt fr k)).take m)[j] = (pF fr k)[j] := by rw [List.getElem_take]; rfl
      rw [hg] at hyq
      obtain ⟨a, b⟩ := pairUp_mem (a := (pF fr k)[j].1) (b := (pF fr k)[j].2) (l := srt fr k) (List.getElem_mem hjl)
      have pa := srt_pos a
      have pb := srt_pos b
      have h1 := hin i hi _ hxm (by
        rw [np_get]
        show fF fr i < _ + _
        rcases hyq with rfl | rfl <;> omega)
      have h2 : aT fr k (2 * m) i ≤ 1 := by
        cases k with
        | zero => simp [aT, srt_zero, cntU, sumI]
        | succ k =>
          unfold aT
          apply cntU_le
          have h3 : (srt fr (k + 1)).Pairwise fun a b => a.u ≠ b.u := by
            refine List.Pairwise.perm ?_ (srt_perm k).symm (fun h => fun e => h e.symm)
            rw [List.pairwise_append]
            refine ⟨?_, nl_apart k, ?_⟩
            · rw [List.pairwise_iff_getElem]
              intro i j hi hj hij
              rw [np_get hi, np_get hj]
              show (rowsF fr k).m + i ≠ (rowsF fr k).m + j
              omega
            · intro a ha b hb
              obtain ⟨j, hj, rfl⟩ := np_mem ha
              obtain ⟨i, hi, rfl⟩ := nl_mem.1 hb
              have := rowsF_m_ge (fr := fr) k
              show (rowsF fr k).m + j ≠ i
              omega
          exact h3.sublist (List.take_sublist _ _)
      omega
    · have : aT fr k (2 * m) i = 0 := cntU_not fun x hx e => h ⟨x, hx, e⟩
      omega
end

end Go.Proofs.Ytdnmbmnfglbfoaa
