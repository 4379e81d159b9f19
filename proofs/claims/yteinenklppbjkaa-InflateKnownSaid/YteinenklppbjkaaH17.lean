/- Layer 6, plain: the table and the reference read alike. -/
import Derived.Test.YteinenklppbjkaaH16

import Derived.Test.YteinenklppbjkaaH15

import Derived.Test.YteinenklppbjkaaH12

set_option linter.unusedVariables false

set_option linter.unusedSimpArgs false

open Go.RowKit

namespace Go.Proofs.Yteinenklppbjkaa

/-! Bits and numbers. -/
def bitN (b : Bool) : Nat := if b = true then 1 else 0
def valC (l : List Bool) : Nat := l.foldl (fun v b => 2 * v + bitN b) 0
theorem valC_snoc (l : List Bool) (b : Bool) : valC (l ++ [b]) = 2 * valC l + bitN b := by unfold valC; rw [List.foldl_append]; rfl
theorem valC_bits : ∀ (n c : Nat), c < 2 ^ n → valC (bitsC c n) = c
  | 0, c, h => by
    have : c = 0 := by simpa using h
    subst this; rfl
  | n + 1, c, h => by
    rw [bitsC_succ, valC_snoc, valC_bits n (c / 2) (by rw [Nat.pow_succ] at h; omega)]
    unfold bitN
    rcases Nat.mod_two_eq_zero_or_one c with e | e <;> simp [e] <;> omega
theorem bits_valC : ∀ (n : Nat) (l : List Bool), l.length = n → bitsC (valC l) n = l
  | 0, l, h => by
    obtain rfl := List.eq_nil_of_length_eq_zero h
    rfl
  | n + 1, l, h => by
    rcases List.eq_nil_or_concat l with rfl | ⟨l, b, rfl⟩
    · simp at h
    · simp only [List.concat_eq_append] at h ⊢
      rw [List.length_append, List.length_singleton] at h
      rw [bitsC_succ, valC_snoc]
      have h1 : (2 * valC l + bitN b) / 2 = valC l := by unfold bitN; split <;> omega
      have h2 : decide ((2 * valC l + bitN b) % 2 = 1) = b := by
        unfold bitN
        cases b <;> simp
      rw [h1, h2, bits_valC n l (by omega)]
theorem bitsC_take (c N n : Nat) (h : n ≤ N) : (bitsC c N).take n = bitsC (c / 2 ^ (N - n)) n := by
  unfold bitsC
  rw [← List.map_take, List.take_range, Nat.min_eq_left h]
  apply List.map_congr_left
  intro j hj
  have hj' : j < n := by simpa using hj
  rw [Nat.div_div_eq_div_mul, ← Nat.pow_add, show N - n + (n - 1 - j) = N - 1 - j by omega]
/-- Is (c, n) what the code begins with? -/
def preB (c n : Nat) (t : Tell) : Bool := decide (n ≤ t.2.2) && decide (t.2.1 / 2 ^ (t.2.2 - n) = c)
theorem begB_pre {t : Tell} {seg : List Bool} (ht : t.2.1 < 2 ^ t.2.2) : begB (bitsC t.2.1 t.2.2) seg = preB (valC seg) seg.length t := by
  unfold begB preB
  rw [bitsC_len]
  by_cases h : seg.length ≤ t.2.2
  · rw [decide_eq_true h, Bool.true_and, Bool.true_and, decide_eq_decide, bitsC_take _ _ _ h]
    have hlt : t.2.1 / 2 ^ (t.2.2 - seg.length) < 2 ^ seg.length := by
      apply Nat.div_lt_of_lt_mul
      rw [← Nat.pow_add, show t.2.2 - seg.length + seg.length = t.2.2 by omega]
      exact ht
    constructor
    · intro e
      have := congrArg valC e
      rw [valC_bits _ _ hlt] at this
      exact this
    · intro e
      rw [e]
      exact bits_valC _ seg rfl
  · rw [decide_eq_false h]; rfl
theorem hitB_eq {t : Tell} {seg : List Bool} (ht : t.2.1 < 2 ^ t.2.2) : hitB seg t = (decide (t.2.2 = seg.length) && decide (t.2.1 = valC seg)) := by
  unfold hitB
  by_cases h : t.2.2 = seg.length
  · rw [decide_eq_true h, Bool.true_and, decide_eq_decide]
    constructor
    · intro e
      have := congrArg valC e
      rw [valC_bits _ _ ht] at this
      exact this
    · intro e
      rw [e, h]
      exact bits_valC _ seg rfl
  · rw [decide_eq_false h, Bool.false_and, decide_eq_false_iff_not]
    intro e
    have := congrArg List.length e
    rw [bitsC_len] at this
    exact h this

/-! The table's entries. -/
/-- No code begins with one that is told ahead of it. -/
def freeT (ts : List Tell) : Prop := ts.Pairwise fun a b => preB a.2.1 a.2.2 b = false
def lookT (ts : List Tell) (c n : Nat) : Option Int :=
  match ts.find? (fun t => decide (t.2.2 = n) && decide (t.2.1 = c)) with
  | some t => some (t.1 : Int)
  | none => if ts.any (preB c n) = true then some (-1) else none
theorem findZ_down (t : Tell) (c n : Nat) : ∀ (k : Nat) (es : List ((Int × Int) × Int)), findZ ((c : Int), (n : Int)) (downM t k es) = if n < k ∧ c = t.2.1 / 2 ^ (t.2.2 - n) then some (-1) else findZ ((c : Int), (n : Int)) es
  | 0, es => by rw [if_neg (by omega)]; rfl
  | k + 1, es => by
    rw [downM, findZ_down t c n k, findZ_upd]
    by_cases h1 : n < k ∧ c = t.2.1 / 2 ^ (t.2.2 - n)
    · rw [if_pos h1, if_pos ⟨by omega, h1.2⟩]
    · rw [if_neg h1]
      by_cases h2 : n = k ∧ c = t.2.1 / 2 ^ (t.2.2 - n)
      · obtain ⟨rfl, h2⟩ := h2
        rw [if_pos (show ((c : Int), (n : Int)) = (((t.2.1 / 2 ^ (t.2.2 - n) : Nat) : Int), (n : Int)) by rw [← h2]), if_pos ⟨by omega, h2⟩]
      · have a1 : ¬ ((c : Int), (n : Int)) = (((t.2.1 / 2 ^ (t.2.2 - k) : Nat) : Int), (k : Int)) := by
          intro h
          simp only [Prod.mk.injEq] at h
          have e1 : n = k := by omega
          subst e1
          exact h2 ⟨rfl, by have := h.1; omega⟩
        have a2 : ¬ (n < k + 1 ∧ c = t.2.1 / 2 ^ (t.2.2 - n)) := by
          intro h
          rcases Nat.lt_or_eq_of_le (Nat.le_of_lt_succ h.1) with h3 | h3
          · exact h1 ⟨h3, h.2⟩
          · exact h2 ⟨h3, h.2⟩
        rw [if_neg a1, if_neg a2]
theorem findZ_one (t : Tell) (c n : Nat) (es : List ((Int × Int) × Int)) : findZ ((c : Int), (n : Int)) (oneM es t) = if n < t.2.2 ∧ c = t.2.1 / 2 ^ (t.2.2 - n) then some (-1) else if c = t.2.1 ∧ n = t.2.2 then some (t.1 : Int) else findZ ((c : Int), (n : Int)) es := by
  unfold oneM
  rw [findZ_down, findZ_upd]
  split
  · rfl
  · by_cases h : c = t.2.1 ∧ n = t.2.2
    · rw [if_pos h, if_pos (by rw [h.1, h.2])]
    · rw [if_neg h, if_neg (fun e => by simp only [Prod.mk.injEq] at e; exact h ⟨by omega, by omega⟩)]
theorem preB_iff {c n : Nat} {t : Tell} : preB c n t = true ↔ (n < t.2.2 ∧ c = t.2.1 / 2 ^ (t.2.2 - n)) ∨ (c = t.2.1 ∧ n = t.2.2) := by
  unfold preB
  simp only [Bool.and_eq_true, decide_eq_true_eq]
  constructor
  · rintro ⟨h1, h2⟩
    rcases Nat.lt_or_eq_of_le h1 with h | h
    · exact .inl ⟨h, h2.symm⟩
    · subst h; simp at h2; exact .inr ⟨h2.symm, rfl⟩
  · rintro (⟨h1, h2⟩ | ⟨rfl, rfl⟩)
    · exact ⟨by omega, h2.symm⟩
    · simp
theorem find_lay : ∀ (n0 : Nat) (ts : List Tell), ts.length = n0 → freeT ts → ∀ c n : Nat, findZ ((c : Int), (n : Int)) (layM ts []) = lookT ts c n
  | 0, ts, h, _, c, n => by
    obtain rfl := List.eq_nil_of_length_eq_zero h
    rfl
  | n0 + 1, ts, h, hf, c, n => by
    rcases List.eq_nil_or_concat ts with rfl | ⟨ts, t, rfl⟩
    · simp at h
    · simp only [List.concat_eq_append] at h hf ⊢
      rw [List.length_append, List.length_singleton] at h
      have hf' : freeT ts ∧ ∀ a ∈ ts, preB a.2.1 a.2.2 t = false := by
        unfold freeT at hf ⊢
        rw [List.pairwise_append] at hf
        exact ⟨hf.1, fun a ha => hf.2.2 a ha t (by simp)⟩
      have ih := find_lay n0 ts (by omega) hf'.1 c n
      rw [layM_snoc, findZ_one, ih]
      unfold lookT
      rw [List.find?_append, List.any_append]
      -- a code of ts that is (c, n) itself
      have hno : preB c n t = true → ts.find? (fun t => decide (t.2.2 = n) && decide (t.2.1 = c)) = none := by
        intro hp
        rw [List.find?_eq_none]
        intro a ha
        simp only [Bool.and_eq_true, decide_eq_true_eq]
        rintro ⟨e1, e2⟩
        have := hf'.2 a ha
        rw [e1, e2, hp] at this
        cases this
      by_cases h1 : n < t.2.2 ∧ c = t.2.1 / 2 ^ (t.2.2 - n)
      · have hp : preB c n t = true := preB_iff.2 (.inl h1)
        rw [if_pos h1, hno hp]
        have hnt : (decide (t.2.2 = n) && decide (t.2.1 = c)) = false := by rw [decide_eq_false (by omega)]; rfl
        simp only [List.find?_cons, hnt, List.find?_nil, Option.none_or, List.any_cons, hp, List.any_nil, Bool.or_false, Bool.or_true, if_true]
      · rw [if_neg h1]
        by_cases h2 : c = t.2.1 ∧ n = t.2.2
        · have hp : preB c n t = true := preB_iff.2 (.inr h2)
          rw [if_pos h2, hno hp]
          have hnt : (decide (t.2.2 = n) && decide (t.2.1 = c)) = true := by rw [h2.1, h2.2]; simp
          simp only [List.find?_cons, hnt, Option.none_or]
        · rw [if_neg h2]
          have hp : preB c n t = false := by
            cases hp : preB c n t with
            | false => rfl
            | true => rcases preB_iff.1 hp with h | h
                      · exact absurd h h1
                      · exact absurd h h2
          have hnt : (decide (t.2.2 = n) && decide (t.2.1 = c)) = false := by
            rw [Bool.and_eq_false_iff]
            by_cases e : t.2.2 = n
            · right; rw [decide_eq_false_iff_not]; intro e2; exact h2 ⟨e2.symm, e.symm⟩
            · left; exact decide_eq_false e
          simp only [List.find?_cons, hnt, List.find?_nil, Option.or_none, List.any_cons, hp, List.any_nil, Bool.or_false]

/-! The codes lie one behind the other. -/
def sizeT (ts : List Tell) : Nat := (ts.map fun t => 2 ^ (15 - t.2.2)).sum
theorem sizeT_snoc (ts : List Tell) (t : Tell) : sizeT (ts ++ [t]) = sizeT ts + 2 ^ (15 - t.2.2) := by simp [sizeT]
/-- Each code begins where those ahead of it end. -/
def rowT : List Tell → Prop := fun ts => ∀ a b t, ts = a ++ t :: b → t.2.1 * 2 ^ (15 - t.2.2) = sizeT a ∧ t.2.2 ≤ 15
theorem rowT_snoc {ts : List Tell} {t : Tell} (h : rowT ts) (h1 : t.2.1 * 2 ^ (15 - t.2.2) = sizeT ts) (h2 : t.2.2 ≤ 15) : rowT (ts ++ [t]) := by
  intro a b x e
  rcases List.eq_nil_or_concat b with rfl | ⟨b, y, rfl⟩
  · have := List.append_inj' e rfl
    obtain ⟨rfl, e2⟩ := this
    obtain rfl : t = x := by simpa using e2
    exact ⟨h1, h2⟩
  · simp only [List.concat_eq_append] at e
    rw [← List.cons_append, ← List.append_assoc] at e
    have := List.append_inj' e rfl
    exact h a b x this.1
theorem rowS_row {ls : List Int} {n : Nat} {x : Nat × List Tell} (hn : n ≤ 15) (h : rowT x.2) (h2 : x.1 * 2 ^ (15 - n) = sizeT x.2) : ∀ i, rowT (rowS ls n i x).2 ∧ (rowS ls n i x).1 * 2 ^ (15 - n) = sizeT (rowS ls n i x).2
  | 0 => ⟨h, h2⟩
  | i + 1 => by
    obtain ⟨i1, i2⟩ := rowS_row (ls := ls) hn h h2 i
    rw [rowS_succ]; unfold stepS
    split
    · refine ⟨rowT_snoc i1 i2 hn, ?_⟩
      show ((rowS ls n i x).1 + 1) * 2 ^ (15 - n) = _
      rw [sizeT_snoc, Nat.add_mul, i2, Nat.one_mul]
    · exact ⟨i1, i2⟩
theorem tellS_row {ls : List Int} : ∀ n, n ≤ 15 → rowT (tellS ls n).2 ∧ (tellS ls n).1 * 2 ^ (15 - n) = sizeT (tellS ls n).2
  | 0, _ => ⟨fun a b t e => by simp [tellS] at e, by simp [tellS, sizeT]⟩
  | n + 1, hn => by
    obtain ⟨h1, h2⟩ := tellS_row (ls := ls) n (by omega)
    refine rowS_row (x := (2 * (tellS ls n).1, (tellS ls n).2)) hn h1 ?_ ls.length
    show 2 * (tellS ls n).1 * 2 ^ (15 - (n + 1)) = _
    rw [← h2, show 15 - n = (15 - (n + 1)) + 1 by omega, Nat.pow_succ, Nat.mul_comm 2, Nat.mul_assoc, Nat.mul_comm 2]
/-- The room of the lengths up to n. -/
def sumL (ls : List Int) (n : Nat) : Nat → Nat
  | 0 => 0
  | i + 1 => sumL ls n i + if 0 < ls.getD i 0 ∧ ls.getD i 0 ≤ (n : Int) then 2 ^ (15 - (ls.getD i 0).toNat) else 0
theorem sumL_zero (ls : List Int) : ∀ i, sumL ls 0 i = 0
  | 0 => rfl
  | i + 1 => by rw [sumL, sumL_zero ls i, if_neg (by omega)]
theorem rowS_size (ls : List Int) (n : Nat) (x : Nat × List Tell) : ∀ i, sizeT (rowS ls (n + 1) i x).2 + sumL ls n i = sizeT x.2 + sumL ls (n + 1) i
  | 0 => rfl
  | i + 1 => by
    have ih := rowS_size ls n x i
    rw [rowS_succ, sumL, sumL]
    unfold stepS
    by_cases h : ls.getD i 0 = ((n + 1 : Nat) : Int)
    · rw [if_pos h]
      show sizeT ((rowS ls (n + 1) i x).2 ++ [_]) + _ = _
      rw [sizeT_snoc, if_neg (by omega), if_pos (by omega), h, Int.toNat_natCast]
      show sizeT _ + 2 ^ (15 - (n + 1)) + _ = _
      omega
    · rw [if_neg h]
      by_cases h2 : 0 < ls.getD i 0 ∧ ls.getD i 0 ≤ (n : Int)
      · rw [if_pos h2, if_pos (by omega)]; omega
      · rw [if_neg h2, if_neg (by omega)]; omega
theorem tellS_size (ls : List Int) : ∀ n, sizeT (tellS ls n).2 = sumL ls n ls.length
  | 0 => by rw [sumL_zero]; rfl
  | n + 1 => by
    have := rowS_size ls n (2 * (tellS ls n).1, (tellS ls n).2) ls.length
    have ih := tellS_size ls n
    show sizeT (rowS ls (n + 1) ls.length (2 * (tellS ls n).1, (tellS ls n).2)).2 = _
    have e : sizeT (2 * (tellS ls n).1, (tellS ls n).2).2 = sizeT (tellS ls n).2 := rfl
    omega
theorem sumL_all {ls : List Int} (h : ∀ i, i < ls.length → ls.getD i 0 ≤ 15) : ∀ i, i ≤ ls.length → sumL ls 15 i = sumK ls i
  | 0, _ => rfl
  | i + 1, hi => by
    rw [sumL, sumK, sumL_all h i (by omega)]
    have := h i (by omega)
    by_cases h2 : 0 < ls.getD i 0
    · rw [if_pos ⟨h2, by omega⟩, if_pos h2]
    · rw [if_neg (by omega), if_neg h2]
theorem allT_size (ls : List Int) : sizeT (allT ls) ≤ 32768 := by
  unfold allT
  split
  · rename_i h
    have hb : badL ls = false := by
      cases hb : badL ls with
      | false => rfl
      | true => rw [eachE_bad hb] at h; cases h
    have hf : makesK ls = true := by
      cases hf : makesK ls with
      | true => rfl
      | false => rw [eachE_no hb hf] at h; cases h
    have h15 : ∀ i, i < ls.length → ls.getD i 0 ≤ 15 := by
      intro i hi
      unfold badL at hb
      simp only [Bool.or_eq_false_iff] at hb
      have := List.any_eq_false.1 hb.2 _ (getD_memI' (d := 0) hi)
      simp only [badU, decide_eq_true_eq] at this
      omega
    rw [tellS_size, sumL_all h15 _ (Nat.le_refl _)]
    unfold makesK at hf
    simp only [Bool.or_eq_true, Bool.and_eq_true, decide_eq_true_eq] at hf
    have hz : ∀ i, cntK ls i = 0 → sumK ls i = 0 := by
      intro i
      induction i with
      | zero => intro _; rfl
      | succ i ih =>
        intro hc
        simp only [cntK] at hc
        simp only [sumK]
        split at hc
        · omega
        · rename_i h0; rw [if_neg h0, ih (by omega)]
    rcases hf with (hf | hf) | hf
    · omega
    · rw [hz _ hf]; omega
    · omega
  · exact Nat.zero_le _
theorem allT_row (ls : List Int) : rowT (allT ls) := by
  unfold allT; split
  · exact (tellS_row 15 (Nat.le_refl _)).1
  · intro a b t e; simp at e
theorem sizeT_app (a b : List Tell) : sizeT (a ++ b) = sizeT a + sizeT b := by simp [sizeT]
theorem sizeT_cons (t : Tell) (b : List Tell) : sizeT (t :: b) = 2 ^ (15 - t.2.2) + sizeT b := by simp [sizeT]
/-- Codes are numbers of their bits. -/
theorem row_lt {ts : List Tell} (h : rowT ts) (hs : sizeT ts ≤ 32768) {t : Tell} (ht : t ∈ ts) : t.2.1 < 2 ^ t.2.2 ∧ t.2.2 ≤ 15 := by
  obtain ⟨a, b, rfl⟩ := List.append_of_mem ht
  obtain ⟨h1, h2⟩ := h a b t rfl
  refine ⟨?_, h2⟩
  rw [sizeT_app, sizeT_cons, ← h1] at hs
  have e : (32768 : Nat) = 2 ^ t.2.2 * 2 ^ (15 - t.2.2) := by rw [← Nat.pow_add, show t.2.2 + (15 - t.2.2) = 15 by omega]
  have h3 : (t.2.1 + 1) * 2 ^ (15 - t.2.2) ≤ 2 ^ t.2.2 * 2 ^ (15 - t.2.2) := by rw [← e, Nat.add_mul, Nat.one_mul]; omega
  have := Nat.le_of_mul_le_mul_right h3 (Nat.pow_pos (by omega))
  omega
theorem row_free {ts : List Tell} (h : rowT ts) : freeT ts := by
  unfold freeT
  rw [List.pairwise_iff_getElem]
  intro i j hi hj hij
  have e1 : ts = ts.take i ++ ts[i] :: ts.drop (i + 1) := by rw [← List.drop_eq_getElem_cons hi, List.take_append_drop]
  have e2 : ts = ts.take j ++ ts[j] :: ts.drop (j + 1) := by rw [← List.drop_eq_getElem_cons hj, List.take_append_drop]
  obtain ⟨a1, a2⟩ := h _ _ _ e1
  obtain ⟨b1, b2⟩ := h _ _ _ e2
  generalize ts[i] = x at *
  generalize ts[j] = y at *
  have hle : sizeT (ts.take i) + 2 ^ (15 - x.2.2) ≤ sizeT (ts.take j) := by
    have e3 : ts.take j = ts.take i ++ x :: (ts.take j).drop (i + 1) := by
      have : (ts.take j)[i]? = some x := by
        rw [List.getElem?_take, if_pos hij]
        conv => lhs; rw [e1]
        rw [List.getElem?_append_right (by simp; omega)]
        simp [Nat.min_eq_left (Nat.le_of_lt hi)]
      obtain ⟨hi2, e4⟩ := List.getElem?_eq_some_iff.1 this
      have e5 := List.take_append_drop i (ts.take j)
      rw [List.drop_eq_getElem_cons hi2, e4, List.take_take, Nat.min_eq_left (Nat.le_of_lt hij)] at e5
      exact e5.symm
    rw [e3, sizeT_app, sizeT_cons]; omega
  cases hp : preB x.2.1 x.2.2 y with
  | false => rfl
  | true =>
    exfalso
    unfold preB at hp
    simp only [Bool.and_eq_true, decide_eq_true_eq] at hp
    obtain ⟨p1, p2⟩ := hp
    -- y begins within x
    have hy : y.2.1 < (x.2.1 + 1) * 2 ^ (y.2.2 - x.2.2) := by
      rw [← p2]
      have := Nat.lt_div_mul_add (a := y.2.1) (b := 2 ^ (y.2.2 - x.2.2)) (Nat.pow_pos (by omega))
      rw [Nat.add_mul, Nat.one_mul]; exact this
    have hm : y.2.1 * 2 ^ (15 - y.2.2) < (x.2.1 + 1) * 2 ^ (y.2.2 - x.2.2) * 2 ^ (15 - y.2.2) := Nat.mul_lt_mul_of_pos_right hy (Nat.pow_pos (by omega))
    rw [Nat.mul_assoc, ← Nat.pow_add, show y.2.2 - x.2.2 + (15 - y.2.2) = 15 - x.2.2 by omega, Nat.add_mul, Nat.one_mul, b1, a1] at hm
    omega

/-! Both read alike. -/
theorem segF_len {row : List Bool} {a b : Nat} (hb : b ≤ row.length) : (segF row a b).length = b - a := by
  unfold segF; rw [List.length_take, List.length_drop]; omega
theorem segF_succ {row : List Bool} {a b : Nat} (ha : a ≤ b) (hb : b < row.length) : segF row a (b + 1) = segF row a b ++ [row.getD b false] := by
  unfold segF
  rw [show b + 1 - a = (b - a) + 1 by omega, List.take_succ_eq_append_getElem (by rw [List.length_drop]; omega), List.getElem_drop, List.getD_eq_getElem?_getD, List.getElem?_eq_getElem hb]
  congr 2
  simp only [Option.getD_some]
  congr 1; omega
theorem any_congr' {α : Type} {l : List α} {p q : α → Bool} (h : ∀ x ∈ l, p x = q x) : l.any p = l.any q := by
  induction l with
  | nil => rfl
  | cons x l ih => rw [List.any_cons, List.any_cons, h x List.mem_cons_self, ih fun y hy => h y (List.mem_cons_of_mem _ hy)]
theorem find_congr' {α : Type} {l : List α} {p q : α → Bool} (h : ∀ x ∈ l, p x = q x) : l.find? p = l.find? q := by
  induction l with
  | nil => rfl
  | cons x l ih => rw [List.find?_cons, List.find?_cons, h x List.mem_cons_self, ih fun y hy => h y (List.mem_cons_of_mem _ hy)]
theorem read_same {ts : List Tell} (hlt : ∀ t ∈ ts, t.2.1 < 2 ^ t.2.2) (hfree : freeT ts) {row : List Bool} {a : Nat} : ∀ (f b : Nat), a ≤ b → b ≤ row.length →
    readG (layM ts []) row f (valC (segF row a b)) (b - a) b = refG ts row a f b
  | 0, b, _, _ => rfl
  | f + 1, b, hab, hb => by
    have hsl := segF_len (a := a) hb
    have h1 : ts.find? (hitB (segF row a b)) = ts.find? (fun t => decide (t.2.2 = b - a) && decide (t.2.1 = valC (segF row a b))) :=
      find_congr' fun t ht => by rw [hitB_eq (hlt t ht), hsl]
    have h2 : ts.any (fun t => begB (bitsC t.2.1 t.2.2) (segF row a b)) = ts.any (preB (valC (segF row a b)) (b - a)) :=
      any_congr' fun t ht => by rw [begB_pre (hlt t ht), hsl]
    simp only [readG, refG]
    rw [find_lay _ ts rfl hfree, h1, h2]
    unfold lookT
    cases hf : ts.find? (fun t => decide (t.2.2 = b - a) && decide (t.2.1 = valC (segF row a b))) with
    | some t =>
      simp only
      rw [if_pos (Int.natCast_nonneg _)]
    | none =>
      simp only
      cases ha : ts.any (preB (valC (segF row a b)) (b - a)) with
      | false => rfl
      | true =>
        simp only [if_true]
        rw [if_neg (by omega)]
        by_cases e : b = row.length
        · rw [if_pos (by omega), if_pos e]
        · rw [if_neg (by omega), if_neg e]
          have ih := read_same hlt hfree (row := row) (a := a) f (b + 1) (by omega) (by omega)
          rw [segF_succ hab (by omega), valC_snoc, show b + 1 - a = b - a + 1 by omega] at ih
          exact ih
theorem treadF_ref {ls : List Int} {row : List Bool} {a : Nat} (ha : a ≤ row.length) : treadF (layM (allT ls) []) row a = refF (allT ls) row a := by
  unfold treadF refF
  have := read_same (fun t ht => (row_lt (allT_row ls) (allT_size ls) ht).1) (row_free (allT_row ls)) (row := row) (a := a) (row.length - a + 1) a (Nat.le_refl _) ha
  have e : segF row a a = [] := by unfold segF; rw [Nat.sub_self, List.take_zero]
  rw [e, Nat.sub_self] at this
  exact this
/-- The table's keys are of at most 15 bits. -/
def keyOk (es : List ((Int × Int) × Int)) : Prop := ∀ k z, findZ k es = some z → k.2 ≤ 15
theorem keyOk_upd {es : List ((Int × Int) × Int)} (h : keyOk es) {k : Int × Int} (hk : k.2 ≤ 15) (z : Int) : keyOk (updZ k z es) := by
  intro k' z' e
  rw [findZ_upd] at e
  split at e
  · rename_i e2; rw [e2]; exact hk
  · exact h k' z' e
theorem keyOk_down (t : Tell) : ∀ (k : Nat) {es : List ((Int × Int) × Int)}, k ≤ 16 → keyOk es → keyOk (downM t k es)
  | 0, _, _, h => h
  | k + 1, _, hk, h => keyOk_down t k (by omega) (keyOk_upd h (by show ((k : Nat) : Int) ≤ 15; omega) _)
theorem keyOk_lay {ts : List Tell} (h : ∀ t ∈ ts, t.2.2 ≤ 15) : ∀ es, keyOk es → keyOk (layM ts es) := by
  induction ts with
  | nil => intro es h; exact h
  | cons t ts ih =>
    intro es he
    exact ih (fun x hx => h x (List.mem_cons_of_mem _ hx)) _ (keyOk_down t _ (by have := h t List.mem_cons_self; omega) (keyOk_upd he (by have := h t List.mem_cons_self; show ((t.2.2 : Nat) : Int) ≤ 15; omega) _))
theorem keyOk_all (ls : List Int) : keyOk (layM (allT ls) []) := keyOk_lay (fun t ht => (row_lt (allT_row ls) (allT_size ls) ht).2) [] (fun k z e => by cases e)
end Go.Proofs.Yteinenklppbjkaa
