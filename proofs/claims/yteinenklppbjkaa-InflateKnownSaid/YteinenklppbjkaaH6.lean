/- Layer 6, plain: the rows of items, and the lengths. -/
import Derived.Test.YteinenklppbjkaaH5

set_option linter.unusedVariables false

set_option linter.unusedSimpArgs false

open Go.RowKit

namespace Go.Proofs.Yteinenklppbjkaa

def unitV (n k : Nat) : List Int := (List.replicate n 0).set k 1
def usedF (fr : List Int) : List Nat := (List.range fr.length).filter fun i => decide (0 < fr.getD i 0)
def lvF (fr : List Int) : List It := (usedF fr).mapIdx fun k s => ⟨fr.getD s 0, 0, k⟩
structure Row where
  all : List It
  us : Nat → List Int
  m : Nat
def upI (m : Nat) (x : It) : It := { x with u := m + x.u }
def Row.next (lv : List It) (r : Row) : Row where
  all := (outI (pairsF r.all)).map (upI r.m) ++ lv
  us := fun j => if j < r.m then r.us j else vsF r.us (pairsF r.all) (j - r.m)
  m := r.m + (pairsF r.all).length
def rowsF (fr : List Int) : Nat → Row
  | 0 => ⟨[], unitV (usedF fr).length, (usedF fr).length⟩
  | k + 1 => (rowsF fr k).next (lvF fr)
def addU (used : List Nat) (uv : List Int) (out : List Int) : List Int := (used.zip uv).foldl (fun o p => o.set p.1 ((o.getD p.1 0 + p.2 % 256) % 256)) out
def outT (fr : List Int) (r : Row) (t : List It) : List Int := t.foldl (fun o x => addU (usedF fr) (r.us x.u) o) (List.replicate fr.length 0)
/-- What Lengths answers. -/
def lenB (fr : List Int) (limit : Int) : Bool := decide (limit < 1) || decide (15 < limit) || decide (320 < fr.length) || fr.any badI
def hlenF (fr : List Int) (limit : Nat) : List Int :=
  match (usedF fr).length with
  | 0 => List.replicate fr.length 0
  | 1 => (List.replicate fr.length 0).set ((usedF fr).getD 0 0) 1
  | n => outT fr (rowsF fr limit) ((popsF (rowsF fr limit).all.length (startF (rowsF fr limit).all)).take (2 * n - 2))
def lengthsF (fr : List Int) (limit : Int) : List Int × Int :=
  if lenB fr limit = true then ([], 1) else if 2 ^ limit.toNat < (usedF fr).length then ([], 60) else (hlenF fr limit.toNat, 0)

theorem popsF_mem : ∀ (h : Nat) {L : List It} {x : It}, h ≤ L.length → x ∈ popsF h L → x ∈ L
  | 0, _, _, _, h => by cases h
  | h + 1, L, x, hn, hx => by
    simp only [popsF, List.mem_cons] at hx
    rcases hx with rfl | hx
    · exact mem_popF (Nat.succ_pos h) hn (getD_mem (by rw [popF_len]; omega))
    · exact mem_popF (Nat.succ_pos h) hn (popsF_mem h (by rw [popF_len]; omega) hx)
theorem pairUp_len : ∀ l : List It, (pairUp l).length = l.length / 2
  | [] => rfl
  | [_] => by simp [pairUp]
  | a :: b :: r => by simp [pairUp, pairUp_len r]; omega
theorem pairUp_mem : ∀ {l : List It} {a b : It}, (a, b) ∈ pairUp l → a ∈ l ∧ b ∈ l
  | [], _, _, h => by cases h
  | [_], _, _, h => by cases h
  | a :: b :: r, x, y, h => by
    simp only [pairUp, List.mem_cons] at h
    rcases h with h | h
    · cases h; simp
    · obtain ⟨h1, h2⟩ := pairUp_mem h
      simp [h1, h2]
theorem pairsF_len (L : List It) : (pairsF L).length = L.length / 2 := by unfold pairsF; rw [pairUp_len, popsF_len]
theorem startF_mem {L : List It} {x : It} (h : x ∈ startF L) : ∃ y ∈ L, y.w = x.w ∧ y.u = x.u := by
  unfold startF at h
  exact mem_numF (mem_initF _ (by rw [numF_len]; exact Nat.le_refl _) h)
theorem popsF_start_mem {L : List It} {x : It} (h : x ∈ popsF L.length (startF L)) : ∃ y ∈ L, y.w = x.w ∧ y.u = x.u :=
  startF_mem (popsF_mem _ (by rw [startF_len]; exact Nat.le_refl _) h)
theorem pairsF_mem {L : List It} {a b : It} (h : (a, b) ∈ pairsF L) : (∃ y ∈ L, y.w = a.w ∧ y.u = a.u) ∧ ∃ y ∈ L, y.w = b.w ∧ y.u = b.u := by
  obtain ⟨h1, h2⟩ := pairUp_mem h
  exact ⟨popsF_start_mem h1, popsF_start_mem h2⟩
theorem pairsF_memP {L : List It} {p : It × It} (h : p ∈ pairsF L) : (∃ y ∈ L, y.w = p.1.w ∧ y.u = p.1.u) ∧ ∃ y ∈ L, y.w = p.2.w ∧ y.u = p.2.u := by
  obtain ⟨a, b⟩ := p
  exact pairsF_mem h
theorem usedF_len (fr : List Int) : (usedF fr).length ≤ fr.length := by
  unfold usedF; exact Nat.le_trans (List.length_filter_le _ _) (by simp)
theorem usedF_mem {fr : List Int} {s : Nat} (h : s ∈ usedF fr) : s < fr.length ∧ 0 < fr.getD s 0 := by
  unfold usedF at h
  simp only [List.mem_filter, List.mem_range, decide_eq_true_eq] at h
  exact h
theorem lvF_len (fr : List Int) : (lvF fr).length = (usedF fr).length := by simp [lvF]
theorem rowsF_len (fr : List Int) (k : Nat) : (rowsF fr (k + 1)).all.length = (rowsF fr k).all.length / 2 + (usedF fr).length := by
  simp [rowsF, Row.next, outI_len, pairsF_len, lvF_len]
theorem rowsF_len_le (fr : List Int) : ∀ k, (rowsF fr k).all.length ≤ 2 * (usedF fr).length
  | 0 => Nat.zero_le _
  | k + 1 => by rw [rowsF_len]; have := rowsF_len_le fr k; omega
theorem rowsF_m_le (fr : List Int) : ∀ k, (rowsF fr k).m ≤ (k + 1) * (usedF fr).length
  | 0 => by simp [rowsF]
  | k + 1 => by
    have h1 := rowsF_m_le fr k
    have h2 := rowsF_len_le fr k
    simp only [rowsF, Row.next, pairsF_len]
    rw [Nat.add_mul (k + 1) 1]
    omega
/-- Enough items lie in the last row. -/
theorem rowsF_room (fr : List Int) (K : Nat) (hK : (usedF fr).length ≤ 2 ^ K) : ∀ k, k + 1 ≤ K → 2 * (usedF fr).length ≤ (rowsF fr (k + 1)).all.length + 2 ^ (K - k)
  | 0, _ => by rw [rowsF_len]; simp only [Nat.sub_zero]; omega
  | k + 1, h => by
    have ih := rowsF_room fr K hK k (by omega)
    rw [rowsF_len]
    have e : 2 ^ (K - k) = 2 * 2 ^ (K - (k + 1)) := by rw [show K - k = (K - (k + 1)) + 1 by omega, Nat.pow_succ]; omega
    rw [e] at ih
    omega
theorem rowsF_enough (fr : List Int) {K : Nat} (h1 : 1 ≤ K) (hK : (usedF fr).length ≤ 2 ^ K) : 2 * (usedF fr).length - 2 ≤ (rowsF fr K).all.length := by
  obtain ⟨k, rfl⟩ : ∃ k, K = k + 1 := ⟨K - 1, by omega⟩
  have := rowsF_room fr (k + 1) hK k (Nat.le_refl _)
  rw [show k + 1 - k = 1 by omega] at this
  omega
theorem unitV_len (n k : Nat) : (unitV n k).length = n := by simp [unitV]
theorem unitV_val {n k : Nat} {v : Int} (h : v ∈ unitV n k) : 0 ≤ v ∧ v ≤ 1 := by
  rcases List.mem_or_eq_of_mem_set h with h | rfl
  · obtain ⟨_, rfl⟩ := List.mem_replicate.1 h; omega
  · omega
theorem any_badI {fr : List Int} (h : fr.any badI = false) {x : Int} (hx : x ∈ fr) : 0 ≤ x ∧ x ≤ 1099511627776 := by
  have := List.any_eq_false.1 h x hx
  simp only [badI, Bool.or_eq_true, decide_eq_true_eq, not_or] at this
  omega
theorem zipW_mem : ∀ {a b : List Int} {v : Int}, v ∈ List.zipWith (· + ·) a b → ∃ x ∈ a, ∃ y ∈ b, v = x + y
  | [], _, _, h => by simp at h
  | _ :: _, [], _, h => by simp at h
  | x :: a, y :: b, v, h => by
    simp only [List.zipWith_cons_cons, List.mem_cons] at h
    rcases h with rfl | h
    · exact ⟨x, by simp, y, by simp, rfl⟩
    · obtain ⟨x', h1, y', h2, e⟩ := zipW_mem h
      exact ⟨x', by simp [h1], y', by simp [h2], e⟩
theorem getD_memN {l : List Nat} {j d : Nat} (h : j < l.length) : l.getD j d ∈ l := by
  rw [List.getD_eq_getElem?_getD, List.getElem?_eq_getElem h]; exact List.getElem_mem h
theorem getD_memI {l : List Int} {j : Nat} {d : Int} (h : j < l.length) : l.getD j d ∈ l := by
  rw [List.getD_eq_getElem?_getD, List.getElem?_eq_getElem h]; exact List.getElem_mem h
theorem getD_memP {l : List (It × It)} {j : Nat} (h : j < l.length) : l.getD j default ∈ l := by
  rw [List.getD_eq_getElem?_getD, List.getElem?_eq_getElem h]; exact List.getElem_mem h
theorem lvF_ok {fr : List Int} (h : fr.any badI = false) {x : It} (hx : x ∈ lvF fr) : okI (usedF fr).length 1099511627776 x := by
  obtain ⟨j, hj, rfl⟩ := List.getElem_of_mem hx
  have hj' : j < (usedF fr).length := by simpa [lvF] using hj
  simp only [lvF, List.getElem_mapIdx]
  obtain ⟨h1, h2⟩ := usedF_mem (List.getElem_mem hj')
  have := any_badI h (getD_memI (d := 0) h1)
  exact ⟨hj', this⟩
theorem rowsF_ok {fr : List Int} (h : fr.any badI = false) (hl : fr.length ≤ 320) : ∀ k, k ≤ 15 → PairsOk (usedF fr).length (rowsF fr k).m (rowsF fr k).us (1099511627776 * 2 ^ k) (2 ^ k) (rowsF fr k).all
  | 0, _ => by
    have hn := usedF_len fr
    exact ⟨by simp [rowsF], by simp [rowsF], fun r _ => unitV_len _ _, fun r _ v hv => by simpa using unitV_val hv, by omega, by decide, by decide⟩
  | k + 1, hk => by
    have ih := rowsF_ok h hl k (by omega)
    have hn := usedF_len fr
    have hll := rowsF_len_le fr (k + 1)
    have hpw : (2 : Int) ^ (k + 1) = 2 * 2 ^ k := by rw [Int.pow_succ]; omega
    have hpl : (2 : Int) ^ k ≤ 16384 := by
      have : (2 : Int) ^ k ≤ 2 ^ 14 := by exact_mod_cast Nat.pow_le_pow_right (by omega) (show k ≤ 14 by omega)
      simpa using this
    have hp1 : (1 : Int) ≤ 2 ^ k := by exact_mod_cast Nat.one_le_two_pow
    have hpm : ∀ j, j < (pairsF (rowsF fr k).all).length → okI (rowsF fr k).m (1099511627776 * 2 ^ k) ((pairsF (rowsF fr k).all).getD j default).1 ∧ okI (rowsF fr k).m (1099511627776 * 2 ^ k) ((pairsF (rowsF fr k).all).getD j default).2 := by
      intro j hj
      obtain ⟨⟨y, h1, e1, e2⟩, z, h2, e3, e4⟩ := pairsF_memP (getD_memP hj)
      have a := ih.items y h1
      have b := ih.items z h2
      unfold okI at *
      rw [← e1, ← e2, ← e3, ← e4]
      exact ⟨a, b⟩
    have hnm : (usedF fr).length ≤ (rowsF fr k).m := by
      clear ih hpm hll hpw hpl hp1 hk
      induction k with
      | zero => exact Nat.le_refl _
      | succ k ih => simp only [rowsF, Row.next]; omega
    refine ⟨by omega, ?_, ?_, ?_, by omega, by rw [hpw]; omega, by rw [hpw]; omega⟩
    · intro x hx
      simp only [rowsF, Row.next, List.mem_append, List.mem_map] at hx
      rcases hx with ⟨y, hy, rfl⟩ | hx
      · obtain ⟨j, hj, rfl⟩ := List.getElem_of_mem hy
        have hj' : j < (pairsF (rowsF fr k).all).length := by simpa [outI] using hj
        obtain ⟨⟨_, a1, a2⟩, ⟨_, b1, b2⟩⟩ := hpm j hj'
        simp only [List.getD_eq_getElem?_getD, List.getElem?_eq_getElem hj', Option.getD_some] at a1 a2 b1 b2
        simp only [upI, outI, List.getElem_mapIdx, okI, rowsF, Row.next]
        refine ⟨by omega, by omega, by rw [hpw]; omega⟩
      · obtain ⟨h1, h2, h3⟩ := lvF_ok h hx
        refine ⟨?_, h2, by rw [hpw]; omega⟩
        simp only [rowsF, Row.next]; omega
    · intro r hr
      simp only [rowsF, Row.next] at hr ⊢
      split
      · exact ih.ul r ‹_›
      · obtain ⟨⟨a, _⟩, ⟨b, _⟩⟩ := hpm (r - (rowsF fr k).m) (by omega)
        simp only [vsF, List.length_zipWith, ih.ul _ a, ih.ul _ b, Nat.min_self]
    · intro r hr v hv
      simp only [rowsF, Row.next] at hr hv
      split at hv
      · have := ih.uv r ‹_› v hv
        rw [hpw]; omega
      · obtain ⟨⟨a, _⟩, ⟨b, _⟩⟩ := hpm (r - (rowsF fr k).m) (by omega)
        obtain ⟨x, hx, y, hy, rfl⟩ := zipW_mem hv
        have := ih.uv _ a x hx
        have := ih.uv _ b y hy
        rw [hpw]; omega
theorem addU_len (used : List Nat) (uv : List Int) (out : List Int) : (addU used uv out).length = out.length := by
  unfold addU
  generalize used.zip uv = l
  induction l generalizing out with
  | nil => rfl
  | cons p l ih => rw [List.foldl_cons, ih]; simp
theorem outT_len (fr : List Int) (r : Row) (t : List It) : (outT fr r t).length = fr.length := by
  unfold outT
  suffices h : ∀ o : List Int, (t.foldl (fun o x => addU (usedF fr) (r.us x.u) o) o).length = o.length by rw [h]; simp
  induction t with
  | nil => intro o; rfl
  | cons x t ih => intro o; rw [List.foldl_cons, ih, addU_len]
theorem lenF_len (fr : List Int) (K : Nat) : (hlenF fr K).length = fr.length := by
  unfold hlenF; split <;> simp [outT_len]
theorem lenF_zero {fr : List Int} (K : Nat) (h : (usedF fr).length = 0) : hlenF fr K = List.replicate fr.length 0 := by
  unfold hlenF; rw [h]; rfl
theorem lenF_one {fr : List Int} (K : Nat) (h : (usedF fr).length = 1) : hlenF fr K = (List.replicate fr.length 0).set ((usedF fr).getD 0 0) 1 := by
  unfold hlenF; rw [h]; rfl
theorem lenF_two {fr : List Int} (K : Nat) (h : 2 ≤ (usedF fr).length) : hlenF fr K = outT fr (rowsF fr K) ((popsF (rowsF fr K).all.length (startF (rowsF fr K).all)).take (2 * (usedF fr).length - 2)) := by
  unfold hlenF
  split
  · omega
  · omega
  · rfl
theorem rowsF_m (fr : List Int) (k : Nat) : (usedF fr).length ≤ (rowsF fr k).m := by
  induction k with
  | zero => exact Nat.le_refl _
  | succ k ih => simp only [rowsF, Row.next]; omega
theorem lvF_get {fr : List Int} {k : Nat} (h : k < (usedF fr).length) : (lvF fr).getD k default = ⟨fr.getD ((usedF fr).getD k 0) 0, 0, k⟩ := by
  simp [lvF, List.getD_eq_getElem?_getD, h]
theorem next_lo {lv : List It} {r : Row} {j : Nat} (h : j < (pairsF r.all).length) : (r.next lv).all.getD j default = upI r.m ((outI (pairsF r.all)).getD j default) := by
  have h' : j < (outI (pairsF r.all)).length := by rw [outI_len]; exact h
  simp [Row.next, List.getD_eq_getElem?_getD, List.getElem?_append_left, h']
theorem next_hi {lv : List It} {r : Row} {j : Nat} (h : (pairsF r.all).length ≤ j) : (r.next lv).all.getD j default = lv.getD (j - (pairsF r.all).length) default := by
  simp [Row.next, List.getD_eq_getElem?_getD, List.getElem?_append_right, outI_len, h]
/-- The uses, the first k of them. -/
def addK (used : List Nat) (uv : List Int) (k : Nat) (out : List Int) : List Int := ((used.zip uv).take k).foldl (fun o p => o.set p.1 ((o.getD p.1 0 + p.2 % 256) % 256)) out
theorem addK_zero (used : List Nat) (uv : List Int) (out : List Int) : addK used uv 0 out = out := rfl
theorem addK_len (used : List Nat) (uv : List Int) (k : Nat) (out : List Int) : (addK used uv k out).length = out.length := by
  unfold addK
  generalize (used.zip uv).take k = l
  induction l generalizing out with
  | nil => rfl
  | cons p l ih => rw [List.foldl_cons, ih]; simp
theorem addK_succ {used : List Nat} {uv : List Int} {k : Nat} (out : List Int) (h1 : k < used.length) (h2 : k < uv.length) :
    addK used uv (k + 1) out = (addK used uv k out).set (used.getD k 0) (((addK used uv k out).getD (used.getD k 0) 0 + uv.getD k 0 % 256) % 256) := by
  have hk : k < (used.zip uv).length := by simp; omega
  unfold addK
  rw [List.take_succ_eq_append_getElem hk, List.foldl_append, List.getElem_zip]
  simp [List.getD_eq_getElem?_getD, h1, h2]
theorem addK_all {used : List Nat} {uv : List Int} {k : Nat} (out : List Int) (h1 : used.length ≤ k) : addK used uv k out = addU used uv out := by
  unfold addK addU
  rw [List.take_of_length_le (by simp; omega)]
theorem outT_snoc (fr : List Int) (r : Row) (t : List It) (x : It) : outT fr r (t ++ [x]) = addU (usedF fr) (r.us x.u) (outT fr r t) := by
  unfold outT; rw [List.foldl_append]; rfl
end Go.Proofs.Yteinenklppbjkaa
