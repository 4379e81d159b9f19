/- Layer 23: what the document's answer reads is what the program reads (plainly). -/
import Derived.Test.YtedlpkibdjccdaaMq

import Derived.Test.YtedlpkibdjccdaaN0

set_option linter.unusedVariables false

set_option linter.unusedSimpArgs false

set_option linter.unusedSectionVars false

open Go.RowKit

namespace Go.Proofs.Ytedlpkibdjccdaa

set_option maxRecDepth 10000

/-- Sums from the eleventh byte on. -/
def smF (l : List Int) (n : Nat) : List Int := (List.range n).map fun i => valAt l (11 + 4 * i) 4
theorem smF_len (l : List Int) (n : Nat) : (smF l n).length = n := by simp [smF]
theorem smF_succ (l : List Int) (n : Nat) : smF l (n + 1) = smF l n ++ [valAt l (11 + 4 * n) 4] := by simp [smF, List.range_succ]
section

variable {l : List Int} (hl : ∀ x ∈ l, in8 x)
include hl
theorem chunk {j n : Nat} (h : j + n ≤ l.length) : beW (valAt l j n) n = (l.drop j).take n := by
  have hlen : ((l.drop j).take n).length = n := by rw [List.length_take, List.length_drop]; omega
  have := beW_valB ((l.drop j).take n) (fun x hx => hl x (List.mem_of_mem_drop (List.mem_of_mem_take hx)))
  rw [hlen] at this
  exact this
theorem chunk_split {j n : Nat} (h : j + n ≤ l.length) : l.drop j = beW (valAt l j n) n ++ l.drop (j + n) := by
  rw [chunk hl h, ← List.drop_drop, List.take_append_drop]
theorem byte_split {j : Nat} (h : j + 1 ≤ l.length) : l.drop j = [l.getD j 0] ++ l.drop (j + 1) := by
  rw [List.drop_eq_getElem_cons (by omega), List.getD_eq_getElem?_getD, List.getElem?_eq_getElem (by omega)]; rfl
theorem get_in8 {j : Nat} (h : j < l.length) : in8 (l.getD j 0) := by
  rw [List.getD_eq_getElem?_getD, List.getElem?_eq_getElem h]; exact hl _ (List.getElem_mem _)
theorem v4 {j : Nat} : in32 (valAt l j 4) := by
  have := valAt_bound (j := j) (n := 4) hl
  have hlen : ((l.drop j).take 4).length ≤ 4 := by rw [List.length_take]; omega
  have hp : (256 : Int) ^ ((l.drop j).take 4).length ≤ 256 ^ 4 := by exact_mod_cast Nat.pow_le_pow_right (n := 256) (by decide) hlen
  have h4 : (256 : Int) ^ 4 = 4294967296 := by decide
  omega
theorem v2 {j : Nat} : in16 (valAt l j 2) := by
  have := valAt_bound (j := j) (n := 2) hl
  have hlen : ((l.drop j).take 2).length ≤ 2 := by rw [List.length_take]; omega
  have hp : (256 : Int) ^ ((l.drop j).take 2).length ≤ 256 ^ 2 := by exact_mod_cast Nat.pow_le_pow_right (n := 256) (by decide) hlen
  have h4 : (256 : Int) ^ 2 = 65536 := by decide
  omega
theorem smF_flat : ∀ n, 11 + 4 * n ≤ l.length → l.drop 11 = ((smF l n).flatMap fun x => beW x 4) ++ l.drop (11 + 4 * n)
  | 0, _ => by simp [smF]
  | n + 1, h => by
    rw [smF_succ, List.flatMap_append, List.append_assoc, smF_flat n (by omega), chunk_split hl (j := 11 + 4 * n) (n := 4) (by omega)]
    simp
    rfl
end

def fm1 (l : List Int) : Msg := {zeroM 1 with life := valAt l 0 4, has := decide (l.getD 4 0 = 1), frame := valAt l 5 4, sums := smF l (valAt l 9 2).toNat}
def fm2 (l : List Int) : Msg := {zeroM 2 with life := valAt l 0 4, w := valAt l 4 2, h := valAt l 6 2, seq := valAt l 8 4}
def fm4 (l : List Int) : Msg := {zeroM 4 with base := valAt l 0 4, frame := valAt l 4 4, full := decide (l.getD 8 0 = 1), body := l.drop 9}
def fm5 (l : List Int) : Msg := {zeroM 5 with seq := valAt l 0 4, kind := l.getD 4 0, ex := valAt l 5 2, ey := valAt l 7 2, code := valAt l 9 4}
def fm6 (l : List Int) : Msg := {zeroM 6 with seq := valAt l 0 4}
/-- Is it a body of the type? -/
def fOk (ty : Int) (l : List Int) : Prop :=
  if ty = 1 then 11 ≤ l.length ∧ l.getD 4 0 ≤ 1 ∧ valAt l 9 2 ≤ 256 ∧ (l.length : Int) = 11 + 4 * valAt l 9 2
  else if ty = 2 then l.length = 12 else if ty = 3 then l.length = 0 else if ty = 4 then 9 ≤ l.length ∧ l.getD 8 0 ≤ 1 else if ty = 5 then l.length = 13 else l.length = 4
def fmOf (ty : Int) (l : List Int) : Msg :=
  if ty = 1 then fm1 l else if ty = 2 then fm2 l else if ty = 3 then zeroM 3 else if ty = 4 then fm4 l else if ty = 5 then fm5 l else fm6 l
theorem readF_of {l : List Int} {m : Msg} (o : okM m) (ht : 1 ≤ m.ty ∧ m.ty ≤ 6) (hs : m.sums.length ≤ 256) (hof : ofM m = m) (hb : bodyF m = l) : readF ⟨false, l, zeroM m.ty⟩ = ⟨false, [], m⟩ := by
  have := readF_be o ht hs
  rw [hof] at this
  rw [← hb]; exact this
theorem zeroM_ok {t : Int} (ht : in8 t) : okM (zeroM t) := ⟨ht, (by decide : in32 0), (by decide : in32 0), (by decide : in32 0), (by decide : in16 0), (by decide : in16 0), (fun x hx => by cases hx), (by decide : in32 0), (by decide : in8 0), (by decide : in16 0), (by decide : in16 0), (by decide : in32 0), (fun x hx => by cases hx)⟩
theorem b2i_le {x : Int} (h : in8 x) (h1 : x ≤ 1) : beW (b2i (decide (x = 1))) 1 = [x] := by
  obtain rfl | rfl : x = 0 ∨ x = 1 := by omega
  · rfl
  · rfl
/-- A body of the type is read. -/
theorem form_ok {l : List Int} {ty : Int} (hl : ∀ x ∈ l, in8 x) (ht : 1 ≤ ty ∧ ty ≤ 6) (h : fOk ty l) : readF ⟨false, l, zeroM ty⟩ = ⟨false, [], fmOf ty l⟩ := by
  have d0 : l = l.drop 0 := rfl
  obtain e | e | e | e | e | e : ty = 1 ∨ ty = 2 ∨ ty = 3 ∨ ty = 4 ∨ ty = 5 ∨ ty = 6 := by omega
  all_goals subst e
  · simp only [fOk, if_pos] at h
    obtain ⟨h1, h2, h3, h4⟩ := h
    obtain ⟨n, hn⟩ := Int.eq_ofNat_of_zero_le (v2 hl (j := 9)).1
    have hn' : (valAt l 9 2).toNat = n := by rw [hn]; rfl
    have hlen : l.length = 11 + 4 * n := by omega
    have hsm : ∀ x ∈ (fm1 l).sums, in32 x := by
      intro x hx
      simp only [fm1, smF, List.mem_map] at hx
      obtain ⟨i, _, rfl⟩ := hx
      exact v4 hl
    have o : okM (fm1 l) := {zeroM_ok (by decide : in8 1) with life := v4 hl, frame := v4 hl, sums := hsm}
    refine readF_of (m := fm1 l) o (by show 1 ≤ (1 : Int) ∧ (1 : Int) ≤ 6; decide) (by show (smF l (valAt l 9 2).toNat).length ≤ 256; rw [smF_len]; omega) rfl ?_
    have hb : bodyF (fm1 l) = beW (valAt l 0 4) 4 ++ beW (b2i (decide (l.getD 4 0 = 1))) 1 ++ beW (valAt l 5 4) 4 ++ (beW ((smF l n).length : Int) 2 ++ (smF l n).flatMap fun x => beW x 4) := by
      rw [← hn']; simp [bodyF, fm1, zeroM, sumsB]
    have hs := smF_flat hl n (by omega)
    rw [List.drop_eq_nil_of_le (by omega : l.length ≤ 11 + 4 * n), List.append_nil] at hs
    rw [hb, b2i_le (get_in8 hl (by omega)) h2, smF_len, ← hn, ← hs]
    conv => rhs; rw [d0, chunk_split hl (j := 0) (n := 4) (by omega), byte_split hl (j := 0 + 4) (by omega), chunk_split hl (j := 0 + 4 + 1) (n := 4) (by omega), chunk_split hl (j := 0 + 4 + 1 + 4) (n := 2) (by omega)]
    simp
  · unfold fOk at h
    rw [if_neg (by decide), if_pos (by rfl)] at h
    have o : okM (fm2 l) := {zeroM_ok (by decide : in8 2) with life := v4 hl, w := v2 hl, h := v2 hl, seq := v4 hl}
    refine readF_of (m := fm2 l) o (by show 1 ≤ (2 : Int) ∧ (2 : Int) ≤ 6; decide) (Nat.zero_le _) rfl ?_
    rw [bodyF_2 (by rfl)]
    conv => rhs; rw [d0, chunk_split hl (j := 0) (n := 4) (by omega), chunk_split hl (j := 0 + 4) (n := 2) (by omega), chunk_split hl (j := 0 + 4 + 2) (n := 2) (by omega), chunk_split hl (j := 0 + 4 + 2 + 2) (n := 4) (by omega), List.drop_eq_nil_of_le (by omega : l.length ≤ 0 + 4 + 2 + 2 + 4)]
    simp [fm2]
  · unfold fOk at h
    rw [if_neg (by decide), if_neg (by decide), if_pos (by rfl)] at h
    obtain rfl := List.length_eq_zero_iff.1 h
    rw [readF, if_neg (by simp [zeroM]), if_neg (by simp [zeroM]), if_pos (by rfl)]
    rfl
  · unfold fOk at h
    rw [if_neg (by decide), if_neg (by decide), if_neg (by decide), if_pos (by rfl)] at h
    obtain ⟨h1, h2⟩ := h
    have o : okM (fm4 l) := {zeroM_ok (by decide : in8 4) with base := v4 hl, frame := v4 hl, body := fun x hx => hl x (List.mem_of_mem_drop hx)}
    refine readF_of (m := fm4 l) o (by show 1 ≤ (4 : Int) ∧ (4 : Int) ≤ 6; decide) (Nat.zero_le _) rfl ?_
    rw [bodyF_4 (by rfl)]
    show beW (valAt l 0 4) 4 ++ beW (valAt l 4 4) 4 ++ beW (b2i (decide (l.getD 8 0 = 1))) 1 ++ l.drop 9 = l
    rw [b2i_le (get_in8 hl (by omega)) h2]
    conv => rhs; rw [d0, chunk_split hl (j := 0) (n := 4) (by omega), chunk_split hl (j := 0 + 4) (n := 4) (by omega), byte_split hl (j := 0 + 4 + 4) (by omega)]
    simp
  · unfold fOk at h
    rw [if_neg (by decide), if_neg (by decide), if_neg (by decide), if_neg (by decide), if_pos (by rfl)] at h
    have hk := get_in8 hl (show 4 < l.length by omega)
    have o : okM (fm5 l) := {zeroM_ok (by decide : in8 5) with seq := v4 hl, kind := hk, ex := v2 hl, ey := v2 hl, code := v4 hl}
    refine readF_of (m := fm5 l) o (by show 1 ≤ (5 : Int) ∧ (5 : Int) ≤ 6; decide) (Nat.zero_le _) rfl ?_
    rw [bodyF_5 (by rfl)]
    show beW (valAt l 0 4) 4 ++ (beW (l.getD 4 0) 1 ++ beW (valAt l 5 2) 2 ++ beW (valAt l 7 2) 2 ++ beW (valAt l 9 4) 4) = l
    have hk1 : beW (l.getD 4 0) 1 = [l.getD 4 0] := by simp only [beW, Nat.mul_zero, Int.pow_zero, Int.ediv_one]; congr 1; omega
    rw [hk1]
    conv => rhs; rw [d0, chunk_split hl (j := 0) (n := 4) (by omega), byte_split hl (j := 0 + 4) (by omega), chunk_split hl (j := 0 + 4 + 1) (n := 2) (by omega), chunk_split hl (j := 0 + 4 + 1 + 2) (n := 2) (by omega), chunk_split hl (j := 0 + 4 + 1 + 2 + 2) (n := 4) (by omega), List.drop_eq_nil_of_le (by omega : l.length ≤ 0 + 4 + 1 + 2 + 2 + 4)]
    simp
  · unfold fOk at h
    rw [if_neg (by decide), if_neg (by decide), if_neg (by decide), if_neg (by decide), if_neg (by decide)] at h
    have o : okM (fm6 l) := {zeroM_ok (by decide : in8 6) with seq := v4 hl}
    refine readF_of (m := fm6 l) o (by show 1 ≤ (6 : Int) ∧ (6 : Int) ≤ 6; decide) (Nat.zero_le _) rfl ?_
    rw [bodyF_6 (by rfl)]
    conv => rhs; rw [d0, chunk_split hl (j := 0) (n := 4) (by omega), List.drop_eq_nil_of_le (by omega : l.length ≤ 0 + 4)]
    simp [fm6]
/-- What is read is a body of the type. -/
theorem form_no {l : List Int} {ty : Int} (hl : ∀ x ∈ l, in8 x) (ht : 1 ≤ ty ∧ ty ≤ 6) (hb : (readF ⟨false, l, zeroM ty⟩).bad = false) (he : (readF ⟨false, l, zeroM ty⟩).l = []) : fOk ty l := by
  obtain ⟨r1, r2, r3, r4, r5⟩ := rd_any hl ht hb he
  generalize (readF ⟨false, l, zeroM ty⟩).m = m at r1 r2 r3 r4 r5
  have hlen := bodyF_len m
  rw [r4, r3] at hlen
  obtain e | e | e | e | e | e : ty = 1 ∨ ty = 2 ∨ ty = 3 ∨ ty = 4 ∨ ty = 5 ∨ ty = 6 := by omega
  all_goals subst e
  · rw [if_pos (by rfl)] at hlen
    have hbF : bodyF m = beW m.life 4 ++ (beW (b2i m.has) 1 ++ (beW m.frame 4 ++ (beW (m.sums.length : Int) 2 ++ m.sums.flatMap fun x => beW x 4))) := by simp [bodyF, r3, sumsB]
    have h4 : l.getD 4 0 = b2i m.has := by
      rw [← r4, hbF]
      cases m.has <;> rfl
    have h9 : valAt l 9 2 = m.sums.length := by
      have e9 : (l.drop 9).take 2 = beW (m.sums.length : Int) 2 := by
        rw [← r4, hbF]
        rfl
      rw [valAt, e9]; exact valB_be (by omega)
    unfold fOk
    rw [if_pos (by rfl), h4, h9]
    exact ⟨by omega, by cases m.has <;> decide, by omega, by omega⟩
  · rw [if_neg (by decide), if_pos (by rfl)] at hlen
    unfold fOk; rw [if_neg (by decide), if_pos (by rfl)]; exact hlen
  · rw [if_neg (by decide), if_neg (by decide), if_pos (by rfl)] at hlen
    unfold fOk; rw [if_neg (by decide), if_neg (by decide), if_pos (by rfl)]; exact hlen
  · rw [if_neg (by decide), if_neg (by decide), if_neg (by decide), if_pos (by rfl)] at hlen
    have hbF : bodyF m = beW m.base 4 ++ (beW m.frame 4 ++ (beW (b2i m.full) 1 ++ m.body)) := by simp [bodyF, r3]
    have h8 : l.getD 8 0 = b2i m.full := by
      rw [← r4, hbF]
      cases m.full <;> rfl
    unfold fOk
    rw [if_neg (by decide), if_neg (by decide), if_neg (by decide), if_pos (by rfl), h8]
    exact ⟨by omega, by cases m.full <;> decide⟩
  · rw [if_neg (by decide), if_neg (by decide), if_neg (by decide), if_neg (by decide), if_pos (by rfl)] at hlen
    unfold fOk; rw [if_neg (by decide), if_neg (by decide), if_neg (by decide), if_neg (by decide), if_pos (by rfl)]; exact hlen
  · rw [if_neg (by decide), if_neg (by decide), if_neg (by decide), if_neg (by decide), if_neg (by decide)] at hlen
    unfold fOk; rw [if_neg (by decide), if_neg (by decide), if_neg (by decide), if_neg (by decide), if_neg (by decide)]; exact hlen
end Go.Proofs.Ytedlpkibdjccdaa
