/- Layer 6, plain: what is laid by codes is read. -/
import Derived.Test.YtdnmbmnfglbfoaaH22

import Derived.Test.YtdnmbmnfglbfoaaH17

import Derived.Test.YtdnmbmnfglbfoaaGb

set_option linter.unusedVariables false

set_option linter.unusedSimpArgs false

open Go.RowKit

namespace Go.Proofs.Ytdnmbmnfglbfoaa

/-! The lengths make a code. -/
theorem sumK_sumN (ls : List Int) : ∀ i, (sumK ls i : Int) = sumN i fun j => if 0 < ls.getD j 0 then 2 ^ (15 - (ls.getD j 0).toNat) else 0
  | 0 => rfl
  | i + 1 => by
    simp only [sumK, sumN]
    rw [← sumK_sumN ls i]
    split <;> push_cast <;> rfl
theorem cntK_sumN (ls : List Int) : ∀ i, (cntK ls i : Int) = sumN i fun j => if 0 < ls.getD j 0 then 1 else 0
  | 0 => rfl
  | i + 1 => by
    simp only [cntK, sumN]
    rw [← cntK_sumN ls i]
    split <;> push_cast <;> rfl
theorem LensOk.pos_iff {fr : List Int} {K : Nat} {l : List Int} (ok : LensOk fr K l) {s : Nat} (hs : s < fr.length) : 0 < l.getD s 0 ↔ 0 < fr.getD s 0 := by
  constructor
  · intro h
    rcases Int.lt_or_le 0 (fr.getD s 0) with h2 | h2
    · exact h2
    · have := ok.zero s hs (by omega); omega
  · intro h
    have := ok.pos s hs h; omega
theorem LensOk.rg {fr : List Int} {K : Nat} {l : List Int} (h : LensOk fr K l) {s : Nat} (hs : s < fr.length) : 0 ≤ l.getD s 0 ∧ l.getD s 0 ≤ K := by
  by_cases e : 0 < fr.getD s 0
  · have := h.pos s hs e; omega
  · rw [h.zero s hs e]; omega
theorem LensOk.makes {fr : List Int} {K : Nat} {l : List Int} (ok : LensOk fr K l) (hK : K ≤ 15) (hl : fr.length ≤ 320) : eachE l = 0 := by
  have hlen := ok.len
  have hb : badL l = false := by
    unfold badL
    rw [decide_eq_false (by omega), Bool.false_or, List.any_eq_false]
    intro x hx
    obtain ⟨j, hj, rfl⟩ := List.getElem_of_mem hx
    have := ok.rg (s := j) (by omega)
    rw [List.getD_eq_getElem?_getD, List.getElem?_eq_getElem hj] at this
    simp only [badU, decide_eq_true_eq, Option.getD_some] at this ⊢
    omega
  refine eachE_ok hb ?_
  have hs := sumK_sumN l l.length
  have hc := cntK_sumN l l.length
  rw [hlen] at hs hc
  have e1 : sumN fr.length (fun j => if 0 < l.getD j 0 then (2 : Int) ^ (15 - (l.getD j 0).toNat) else 0) = sumN fr.length (fun j => if 0 < fr.getD j 0 then (2 : Int) ^ (15 - (l.getD j 0).toNat) else 0) :=
    sumN_congr fun j hj => by
      have := ok.pos_iff hj
      by_cases h : 0 < fr.getD j 0
      · rw [if_pos h, if_pos (this.2 h)]
      · rw [if_neg h, if_neg (fun x => h (this.1 x))]
  have e2 : sumN fr.length (fun j => if 0 < l.getD j 0 then (1 : Int) else 0) = sumN fr.length (fun j => if 0 < fr.getD j 0 then (1 : Int) else 0) :=
    sumN_congr fun j hj => by
      have := ok.pos_iff hj
      by_cases h : 0 < fr.getD j 0
      · rw [if_pos h, if_pos (this.2 h)]
      · rw [if_neg h, if_neg (fun x => h (this.1 x))]
  rw [e1] at hs
  rw [e2, sumN_used (fun _ => 1), sumN_one] at hc
  unfold makesK
  rw [hlen]
  rcases (show nF fr = 0 ∨ nF fr = 1 ∨ 2 ≤ nF fr by omega) with hn | hn | hn
  · rw [decide_eq_true (show cntK l fr.length = 0 by omega)]; simp
  · have h1 : cntK l fr.length = 1 := by omega
    rw [sumN_used (fun j => (2 : Int) ^ (15 - (l.getD j 0).toNat)), hn] at hs
    have hm := usedF_mem (getD_memN (l := usedF fr) (j := 0) (d := 0) (by have : (usedF fr).length = 1 := hn; omega))
    have hp := ok.pos _ hm.1 hm.2
    have ho := ok.one hn ((usedF fr).getD 0 0)
    have hl1 : l.getD ((usedF fr).getD 0 0) 0 = 1 := by omega
    simp only [sumN, hl1] at hs
    have h2 : sumK l fr.length = 16384 := by
      have : (0 : Int) + 2 ^ (15 - (1 : Int).toNat) = 16384 := by decide
      omega
    rw [decide_eq_true h1, decide_eq_true h2]; simp
  · have := ok.kraft hn
    rw [decide_eq_true (show sumK l fr.length = 32768 by omega)]; simp

/-! Each symbol has one code. -/
theorem rowS_apart {ls : List Int} {n : Nat} {x : Nat × List Tell} (h1 : ∀ t ∈ x.2, t.2.2 < n ∧ ls.getD t.1 0 = (t.2.2 : Int)) (h2 : x.2.Pairwise fun a b => a.1 ≠ b.1) : ∀ i, (rowS ls n i x).2.Pairwise (fun a b => a.1 ≠ b.1) ∧ ∀ t ∈ (rowS ls n i x).2, t ∈ x.2 ∨ t.1 < i
  | 0 => ⟨h2, fun t ht => .inl ht⟩
  | i + 1 => by
    obtain ⟨a, b⟩ := rowS_apart h1 h2 i
    rw [rowS_succ]; unfold stepS
    split
    · rename_i hk
      refine ⟨?_, fun t ht => ?_⟩
      · rw [List.pairwise_append]
        refine ⟨a, List.pairwise_singleton _ _, fun t ht y hy => ?_⟩
        obtain rfl := List.mem_singleton.1 hy
        show t.1 ≠ i
        rcases b t ht with h | h
        · intro e
          obtain ⟨c1, c2⟩ := h1 t h
          rw [e, hk] at c2
          omega
        · omega
      · rcases List.mem_append.1 ht with ht | ht
        · rcases b t ht with h | h
          · exact .inl h
          · exact .inr (by omega)
        · obtain rfl := List.mem_singleton.1 ht
          exact .inr (Nat.lt_succ_self i)
    · exact ⟨a, fun t ht => by rcases b t ht with h | h; exact .inl h; exact .inr (by omega)⟩
theorem tellS_n {ls : List Int} : ∀ n, ∀ t ∈ (tellS ls n).2, t.2.2 ≤ n ∧ ls.getD t.1 0 = (t.2.2 : Int)
  | 0 => by intro t ht; cases ht
  | n + 1 => by
    have ih := tellS_n (ls := ls) n
    have : ∀ i, ∀ t ∈ (rowS ls (n + 1) i (2 * (tellS ls n).1, (tellS ls n).2)).2, t.2.2 ≤ n + 1 ∧ ls.getD t.1 0 = (t.2.2 : Int) := by
      intro i
      induction i with
      | zero => intro t ht; have := ih t ht; exact ⟨by omega, this.2⟩
      | succ i ih2 =>
        rw [rowS_succ]; unfold stepS
        split
        · rename_i hk
          intro t ht
          rcases List.mem_append.1 ht with ht | ht
          · exact ih2 t ht
          · obtain rfl := List.mem_singleton.1 ht
            exact ⟨Nat.le_refl _, hk⟩
        · exact ih2
    exact this ls.length
theorem tellS_apart {ls : List Int} : ∀ n, (tellS ls n).2.Pairwise fun a b => a.1 ≠ b.1
  | 0 => List.Pairwise.nil
  | n + 1 => (rowS_apart (x := (2 * (tellS ls n).1, (tellS ls n).2)) (fun t ht => by have := tellS_n n t ht; exact ⟨by omega, this.2⟩) (tellS_apart n) ls.length).1
theorem allT_apart (ls : List Int) : (allT ls).Pairwise fun a b => a.1 ≠ b.1 := by
  unfold allT; split
  · exact tellS_apart 15
  · exact List.Pairwise.nil
theorem rowS_mono {ls : List Int} {n : Nat} {x : Nat × List Tell} {t : Tell} : ∀ i, t ∈ x.2 → t ∈ (rowS ls n i x).2
  | 0, h => h
  | i + 1, h => by
    have := rowS_mono (ls := ls) (n := n) i h
    rw [rowS_succ]; unfold stepS; split
    · exact List.mem_append_left _ this
    · exact this
theorem rowS_has {ls : List Int} {n s : Nat} {x : Nat × List Tell} (h : ls.getD s 0 = (n : Int)) : ∀ i, s < i → ∃ t ∈ (rowS ls n i x).2, t.1 = s
  | 0, h0 => by omega
  | i + 1, hi => by
    rw [rowS_succ]
    rcases (show s < i ∨ s = i by omega) with h1 | h1
    · obtain ⟨t, h2, h3⟩ := rowS_has (x := x) h i h1
      unfold stepS; split
      · exact ⟨t, List.mem_append_left _ h2, h3⟩
      · exact ⟨t, h2, h3⟩
    · subst h1
      unfold stepS
      rw [if_pos h]
      exact ⟨_, List.mem_append_right _ (List.mem_singleton.2 rfl), rfl⟩
theorem tellS_has {ls : List Int} {s m : Nat} (hs : s < ls.length) (h : ls.getD s 0 = (m : Int)) (h1 : 1 ≤ m) : ∀ n, m ≤ n → ∃ t ∈ (tellS ls n).2, t.1 = s
  | 0, h0 => by omega
  | n + 1, hn => by
    rcases (show m ≤ n ∨ m = n + 1 by omega) with h2 | h2
    · obtain ⟨t, h3, h4⟩ := tellS_has hs h h1 n h2
      exact ⟨t, rowS_mono ls.length h3, h4⟩
    · subst h2
      exact rowS_has h ls.length hs
/-- The code of a symbol. -/
theorem allT_has {ls : List Int} (he : eachE ls = 0) {s : Nat} (hs : s < ls.length) (h1 : 1 ≤ ls.getD s 0) (h15 : ls.getD s 0 ≤ 15) : ∃ t ∈ allT ls, t.1 = s ∧ ls.getD s 0 = (t.2.2 : Int) := by
  obtain ⟨t, h2, h3⟩ := tellS_has (m := (ls.getD s 0).toNat) hs (by omega) (by omega) 15 (by omega)
  have ht : t ∈ allT ls := by unfold allT; rw [if_pos he]; exact h2
  exact ⟨t, ht, h3, by rw [← h3]; exact (allT_mem ht).2.2.2⟩
theorem layC_get {o : List Int} : ∀ (ts : List Tell), ts.Pairwise (fun a b => a.1 ≠ b.1) → (∀ t ∈ ts, t.1 < o.length ∧ t.2.2 ≤ 15) → ∀ t ∈ ts, (layC ts o).getD t.1 0 = num (bitsC t.2.1 t.2.2) := by
  intro ts
  obtain ⟨n, hn⟩ : ∃ n, ts.length = n := ⟨_, rfl⟩
  induction n generalizing ts with
  | zero => intro _ _ t ht; rw [List.eq_nil_of_length_eq_zero hn] at ht; cases ht
  | succ n ih =>
    rcases List.eq_nil_or_concat ts with rfl | ⟨ts, y, rfl⟩
    · simp at hn
    · simp only [List.concat_eq_append] at hn ⊢
      intro hp hb t ht
      rw [List.pairwise_append] at hp
      have hlen : (layC ts o).length = o.length := layC_len ts o
      rw [layC_snoc, getD_set]
      rcases List.mem_append.1 ht with ht | ht
      · rw [if_neg (fun h => hp.2.2 t ht y (List.mem_singleton.2 rfl) h.1.symm)]
        exact ih ts (by rw [List.length_append] at hn; simpa using hn) hp.1 (fun t ht => hb t (List.mem_append_left _ ht)) t ht
      · obtain rfl := List.mem_singleton.1 ht
        obtain ⟨b1, b2⟩ := hb t (List.mem_append_right _ (List.mem_singleton.2 rfl))
        rw [if_pos ⟨rfl, by rw [hlen]; exact b1⟩]
        have h1 := num_turn t.2.1 t.2.2
        have h2 := num_lt (bitsC t.2.1 t.2.2)
        rw [bitsC_len] at h2
        have h3 := pow2_le b2
        have h4 : (2 : Int) ^ 15 = 32768 := by decide
        rw [h1]
        rw [h1] at h2
        omega
theorem codesF_get {ls : List Int} (he : eachE ls = 0) {t : Tell} (ht : t ∈ allT ls) : (codesF ls).1.getD t.1 0 = num (bitsC t.2.1 t.2.2) := by
  have e : allT ls = (tellS ls 15).2 := by unfold allT; rw [if_pos he]
  unfold codesF
  rw [if_pos he, ← e]
  exact layC_get _ (allT_apart ls) (fun t ht => by have := allT_mem ht; rw [List.length_replicate]; exact ⟨this.1, this.2.2.1⟩) t ht

/-! No code begins with another one. -/
theorem row_order {ts : List Tell} (h : rowT ts) {i j : Nat} (hi : i < ts.length) (hj : j < ts.length) (hij : i < j) : ts[i].2.1 * 2 ^ (15 - ts[i].2.2) + 2 ^ (15 - ts[i].2.2) ≤ ts[j].2.1 * 2 ^ (15 - ts[j].2.2) := by
  have e1 : ts = ts.take i ++ ts[i] :: ts.drop (i + 1) := by rw [← List.drop_eq_getElem_cons hi, List.take_append_drop]
  have e2 : ts = ts.take j ++ ts[j] :: ts.drop (j + 1) := by rw [← List.drop_eq_getElem_cons hj, List.take_append_drop]
  obtain ⟨a1, a2⟩ := h _ _ _ e1
  obtain ⟨b1, b2⟩ := h _ _ _ e2
  rw [a1, b1]
  have hi2 : i < (ts.take j).length := by rw [List.length_take]; omega
  have e5 := List.take_append_drop i (ts.take j)
  rw [List.drop_eq_getElem_cons hi2, List.take_take, Nat.min_eq_left (Nat.le_of_lt hij), List.getElem_take] at e5
  rw [← e5, sizeT_app, sizeT_cons]; omega
theorem row_free2 {ts : List Tell} (h : rowT ts) {x y : Tell} (hx : x ∈ ts) (hy : y ∈ ts) (hxy : x ≠ y) : preB x.2.1 x.2.2 y = false := by
  obtain ⟨i, hi, rfl⟩ := List.getElem_of_mem hx
  obtain ⟨j, hj, rfl⟩ := List.getElem_of_mem hy
  rcases Nat.lt_trichotomy i j with hij | rfl | hij
  · exact List.pairwise_iff_getElem.1 (row_free h) i j hi hj hij
  · exact absurd rfl hxy
  · have ho := row_order h hj hi hij
    have n1 := (h _ _ _ (show ts = ts.take i ++ ts[i] :: ts.drop (i + 1) by rw [← List.drop_eq_getElem_cons hi, List.take_append_drop])).2
    have n2 := (h _ _ _ (show ts = ts.take j ++ ts[j] :: ts.drop (j + 1) by rw [← List.drop_eq_getElem_cons hj, List.take_append_drop])).2
    generalize ts[i] = x at *
    generalize ts[j] = y at *
    cases hp : preB x.2.1 x.2.2 y with
    | false => rfl
    | true =>
      exfalso
      unfold preB at hp
      simp only [Bool.and_eq_true, decide_eq_true_eq] at hp
      obtain ⟨p1, p2⟩ := hp
      have h1 : x.2.1 * 2 ^ (y.2.2 - x.2.2) ≤ y.2.1 := by rw [← p2]; exact Nat.div_mul_le_self _ _
      have h2 := Nat.mul_le_mul_right (2 ^ (15 - y.2.2)) h1
      rw [Nat.mul_assoc, ← Nat.pow_add, show y.2.2 - x.2.2 + (15 - y.2.2) = 15 - x.2.2 by omega] at h2
      have := Nat.two_pow_pos (15 - y.2.2)
      omega
theorem num_inj {l l' : List Bool} (h : l.length = l'.length) (e : num l = num l') : l = l' := by
  have a := bitsOf_num l.length l (Nat.le_refl _)
  have b := bitsOf_num l'.length l' (Nat.le_refl _)
  rw [Nat.sub_self, List.replicate_zero, List.append_nil] at a b
  rw [← a, ← b, e, h]
theorem beg_free {ls : List Int} {x y : Tell} (hx : x ∈ allT ls) (hy : y ∈ allT ls) (hxy : x ≠ y) : begB (bitsC y.2.1 y.2.2) (bitsC x.2.1 x.2.2) = false := by
  have h1 := (row_lt (allT_row ls) (allT_size ls) hx).1
  have h2 := (row_lt (allT_row ls) (allT_size ls) hy).1
  rw [begB_pre h2, valC_bits _ _ h1, bitsC_len]
  exact row_free2 (allT_row ls) hx hy hxy
theorem codes_free {ls : List Int} {x y : Tell} (hx : x ∈ allT ls) (hy : y ∈ allT ls) (hxy : x ≠ y) (hn : x.2.2 ≤ y.2.2) : num (bitsC y.2.1 y.2.2) % 2 ^ x.2.2 ≠ num (bitsC x.2.1 x.2.2) := by
  intro e
  have hf := beg_free hx hy hxy
  have hl : ((bitsC y.2.1 y.2.2).take x.2.2).length = x.2.2 := by rw [List.length_take, bitsC_len]; omega
  have h1 : num ((bitsC y.2.1 y.2.2).take x.2.2) = num (bitsC y.2.1 y.2.2) % 2 ^ x.2.2 := by
    have a := num_app ((bitsC y.2.1 y.2.2).take x.2.2) ((bitsC y.2.1 y.2.2).drop x.2.2)
    rw [List.take_append_drop, hl] at a
    have b := num_lt ((bitsC y.2.1 y.2.2).take x.2.2)
    have c := num_nn ((bitsC y.2.1 y.2.2).take x.2.2)
    rw [hl] at b
    rw [a, Int.add_mul_emod_self_left, Int.emod_eq_of_lt c b]
  have h2 : (bitsC y.2.1 y.2.2).take x.2.2 = bitsC x.2.1 x.2.2 := num_inj (by rw [hl, bitsC_len]) (by rw [h1, e])
  unfold begB at hf
  rw [bitsC_len, bitsC_len, decide_eq_true hn, h2] at hf
  simp at hf

/-! A code is read. -/
theorem refG_code {ls : List Int} {t : Tell} (ht : t ∈ allT ls) {row : List Bool} {a : Nat} (hr : a + t.2.2 ≤ row.length) (hs : segF row a (a + t.2.2) = bitsC t.2.1 t.2.2) :
    ∀ (f b : Nat), a ≤ b → b ≤ a + t.2.2 → a + t.2.2 < b + f → refG (allT ls) row a f b = ((t.1 : Int), a + t.2.2, 0)
  | 0, b, h1, h2, h3 => by omega
  | f + 1, b, h1, h2, h3 => by
    have hseg : segF row a b = (bitsC t.2.1 t.2.2).take (b - a) := by
      rw [← hs]; unfold segF; rw [List.take_take]; congr 1; omega
    have hbeg : begB (bitsC t.2.1 t.2.2) (segF row a b) = true := by
      unfold begB
      rw [hseg, List.length_take, bitsC_len, Nat.min_eq_left (by omega), decide_eq_true (by omega), decide_eq_true rfl]; rfl
    simp only [refG]
    rcases (show b = a + t.2.2 ∨ b < a + t.2.2 by omega) with hb | hb
    · have hh : hitB (segF row a b) t = true := by unfold hitB; rw [hb, hs]; exact decide_eq_true rfl
      cases hf : (allT ls).find? (hitB (segF row a b)) with
      | none => exact absurd hh (List.find?_eq_none.1 hf t ht)
      | some u =>
        have hu := List.find?_some hf
        have hm := List.mem_of_find?_eq_some hf
        have e : u = t := by
          by_cases e : u = t
          · exact e
          · exfalso
            have h := beg_free hm ht e
            unfold hitB at hu
            rw [decide_eq_true_eq] at hu
            rw [hu, hbeg] at h
            cases h
        subst e
        simp only [hb]
    · have hno : (allT ls).find? (hitB (segF row a b)) = none := by
        rw [List.find?_eq_none]
        intro u hu hh
        have e : u ≠ t := by
          intro e
          subst e
          unfold hitB at hh
          rw [decide_eq_true_eq] at hh
          have := congrArg List.length hh
          rw [bitsC_len, hseg, List.length_take, bitsC_len] at this
          omega
        have h := beg_free hu ht e
        unfold hitB at hh
        rw [decide_eq_true_eq] at hh
        rw [hh, hbeg] at h
        cases h
      rw [hno]
      simp only
      rw [if_pos (List.any_eq_true.2 ⟨t, ht, hbeg⟩), if_neg (by omega)]
      exact refG_code ht hr hs f (b + 1) (by omega) (by omega) (by omega)
theorem refF_code {ls : List Int} {t : Tell} (ht : t ∈ allT ls) {row : List Bool} {a : Nat} (hr : a + t.2.2 ≤ row.length) (hs : segF row a (a + t.2.2) = bitsC t.2.1 t.2.2) :
    refF (allT ls) row a = ((t.1 : Int), a + t.2.2, 0) := refG_code ht hr hs _ a (Nat.le_refl _) (by omega) (by omega)
/-- The bits of a symbol. -/
def symB (L : List Int) (s : Int) : List Bool := bitsOf ((codesF L).1.getD s.toNat 0) (L.getD s.toNat 0).toNat
def symsB (L : List Int) (ws : List Int) : List Bool := ws.flatMap (symB L)
/-- It has a code. -/
def hasC (L : List Int) (s : Int) : Prop := 0 ≤ s ∧ s < L.length ∧ 1 ≤ L.getD s.toNat 0 ∧ L.getD s.toNat 0 ≤ 15
theorem symB_len (L : List Int) (s : Int) : (symB L s).length = (L.getD s.toNat 0).toNat := bitsOf_length _ _
theorem symB_tell {L : List Int} (he : eachE L = 0) {s : Int} (h : hasC L s) : ∃ t ∈ allT L, (t.1 : Int) = s ∧ symB L s = bitsC t.2.1 t.2.2 ∧ (codesF L).1.getD s.toNat 0 = num (bitsC t.2.1 t.2.2) ∧ (L.getD s.toNat 0).toNat = t.2.2 := by
  obtain ⟨h1, h2, h3, h4⟩ := h
  obtain ⟨t, t1, t2, t3⟩ := allT_has he (s := s.toNat) (by omega) h3 h4
  have hc := codesF_get he t1
  rw [t2] at hc
  refine ⟨t, t1, by omega, ?_, hc, by omega⟩
  unfold symB
  have hb := bitsOf_num t.2.2 (bitsC t.2.1 t.2.2) (by rw [bitsC_len]; exact Nat.le_refl _)
  rw [bitsC_len, Nat.sub_self, List.replicate_zero, List.append_nil] at hb
  rw [hc, show (L.getD s.toNat 0).toNat = t.2.2 by omega, hb]
theorem symB_bnd {L : List Int} (he : eachE L = 0) {s : Int} (h : hasC L s) : 0 ≤ (codesF L).1.getD s.toNat 0 ∧ (codesF L).1.getD s.toNat 0 < 2 ^ (L.getD s.toNat 0).toNat := by
  obtain ⟨t, t1, t2, t3, t4, t5⟩ := symB_tell he h
  rw [t4, t5]
  have := num_lt (bitsC t.2.1 t.2.2)
  rw [bitsC_len] at this
  exact ⟨num_nn _, this⟩
/-- The symbols are read one behind the other. -/
theorem read_sym {L : List Int} (he : eachE L = 0) {ws : List Int} (hw : ∀ s ∈ ws, hasC L s) {zs : List Bool} {i : Nat} (hi : i < ws.length) :
    refF (allT L) (symsB L ws ++ zs) (symsB L (ws.take i)).length = (ws[i], (symsB L (ws.take (i + 1))).length, 0) := by
  obtain ⟨t, t1, t2, t3, t4, t5⟩ := symB_tell he (hw _ (List.getElem_mem hi))
  have e0 : symsB L (ws.take (i + 1)) = symsB L (ws.take i) ++ symB L ws[i] := by
    rw [List.take_succ_eq_append_getElem hi]; unfold symsB; rw [List.flatMap_append]; simp
  have e1 : symsB L ws ++ zs = symsB L (ws.take i) ++ (symB L ws[i] ++ (symsB L (ws.drop (i + 1)) ++ zs)) := by
    conv => lhs; rw [← List.take_append_drop i ws, List.drop_eq_getElem_cons hi]
    unfold symsB
    rw [List.flatMap_append, List.flatMap_cons]
    simp only [List.append_assoc]
  have hl : (symB L ws[i]).length = t.2.2 := by rw [symB_len, t5]
  rw [e0, List.length_append, hl, ← t2]
  refine refF_code t1 ?_ ?_
  · rw [e1]; simp only [List.length_append, hl]; omega
  · rw [e1]
    unfold segF
    rw [List.drop_left, Nat.add_sub_cancel_left, List.take_append_of_le_length (by rw [hl]; exact Nat.le_refl _), List.take_of_length_le (by rw [hl]; exact Nat.le_refl _), t3]
end Go.Proofs.Ytdnmbmnfglbfoaa
