/- Layer 23: what is written is read, what is read is written (plainly). -/
import Derived.Test.YtedlpkibdjccdaaM17

set_option linter.unusedVariables false

set_option linter.unusedSimpArgs false

open Go.RowKit

namespace Go.Proofs.Ytedlpkibdjccdaa

set_option maxRecDepth 10000

theorem bodyF_len (m : Msg) : (bodyF m).length = if m.ty = 1 then 11 + 4 * m.sums.length else if m.ty = 2 then 12 else if m.ty = 3 then 0 else if m.ty = 4 then 9 + m.body.length else if m.ty = 5 then 13 else 4 := by
  have hf : ∀ S : List Int, (S.flatMap fun x => beW x 4).length = 4 * S.length := by
    intro S; induction S with
    | nil => rfl
    | cons x S ih => rw [List.flatMap_cons, List.length_append, ih, beW_length, List.length_cons]; omega
  unfold bodyF
  repeat' split
  all_goals simp only [List.length_append, beW_length, sumsB, hf, List.length_nil] <;> omega
theorem bodyF_le {m : Msg} (hs : m.sums.length ≤ 256) (hl : m.body.length ≤ 524288) : (bodyF m).length ≤ 524297 := by
  rw [bodyF_len]
  repeat' split
  all_goals omega
theorem readF_be {m : Msg} (o : okM m) (ht : 1 ≤ m.ty ∧ m.ty ≤ 6) (hs : m.sums.length ≤ 256) : readF (rd0 m) = ⟨false, [], ofM m⟩ := by
  obtain e | e | e | e | e | e : m.ty = 1 ∨ m.ty = 2 ∨ m.ty = 3 ∨ m.ty = 4 ∨ m.ty = 5 ∨ m.ty = 6 := by omega
  · have e1 : bodyF m = beW m.life 4 ++ (beW (b2i m.has) 1 ++ (beW m.frame 4 ++ sumsB m.sums)) := by simp [bodyF, e]
    have es : frameF (hasF (lifeF (rd0 m))) = ⟨false, sumsB m.sums, {zeroM m.ty with life := m.life, has := m.has, frame := m.frame}⟩ := by
      rw [life_be o (s := rd0 m) rfl e1, has_be o rfl rfl, frame_be o rfl rfl]; rfl
    obtain ⟨q1, q2, q3, q4⟩ := sums_be o hs
    have e' : (rd0 m).m.ty = 1 := e
    simp only [readF, if_pos e', es, q1]
    rw [if_neg (by simp), q2, Int.toNat_natCast, q3, q4]
    simp [ofM, e]
  · have e1 : bodyF m = beW m.life 4 ++ ((beW m.w 2 ++ beW m.h 2) ++ (beW m.seq 4 ++ [])) := by simp [bodyF, e]
    have es : seqF (sizeF (lifeF (rd0 m))) = ⟨false, [], {zeroM m.ty with life := m.life, w := m.w, h := m.h, seq := m.seq}⟩ := by
      rw [life_be o (s := rd0 m) rfl e1, size_be o rfl rfl, seq_be o rfl rfl]; rfl
    have e' : (rd0 m).m.ty = 2 := e
    rw [readF, if_neg (by rw [e']; decide), if_pos e', es]
    simp [ofM, e]
  · have e1 : bodyF m = [] := by simp [bodyF, e]
    have e' : (rd0 m).m.ty = 3 := e
    rw [readF, if_neg (by rw [e']; decide), if_neg (by rw [e']; decide), if_pos e', rd0, e1]
    simp [ofM, e]
  · have e1 : bodyF m = beW m.base 4 ++ (beW m.frame 4 ++ (beW (b2i m.full) 1 ++ m.body)) := by simp [bodyF, e]
    have es : fullF (frameF (baseF (rd0 m))) = ⟨false, m.body, {zeroM m.ty with base := m.base, frame := m.frame, full := m.full}⟩ := by
      rw [base_be o (s := rd0 m) rfl e1, frame_be o rfl rfl, full_be o rfl rfl]; rfl
    have e' : (rd0 m).m.ty = 4 := e
    rw [readF, if_neg (by rw [e']; decide), if_neg (by rw [e']; decide), if_neg (by rw [e']; decide), if_pos e']
    simp only [es]
    simp [ofM, e]
  · have e1 : bodyF m = beW m.seq 4 ++ ((beW m.kind 1 ++ beW m.ex 2 ++ beW m.ey 2 ++ beW m.code 4) ++ []) := by simp [bodyF, e]
    have es : eventF (seqF (rd0 m)) = ⟨false, [], {zeroM m.ty with seq := m.seq, kind := m.kind, ex := m.ex, ey := m.ey, code := m.code}⟩ := by
      rw [seq_be o (s := rd0 m) rfl e1, event_be o rfl rfl]; rfl
    have e' : (rd0 m).m.ty = 5 := e
    rw [readF, if_neg (by rw [e']; decide), if_neg (by rw [e']; decide), if_neg (by rw [e']; decide), if_neg (by rw [e']; decide), if_pos e', es]
    simp [ofM, e]
  · have e1 : bodyF m = beW m.seq 4 ++ [] := by simp [bodyF, e]
    have es : seqF (rd0 m) = ⟨false, [], {zeroM m.ty with seq := m.seq}⟩ := by
      rw [seq_be o (s := rd0 m) rfl e1]; rfl
    have e' : (rd0 m).m.ty = 6 := e
    rw [readF, if_neg (by rw [e']; decide), if_neg (by rw [e']; decide), if_neg (by rw [e']; decide), if_neg (by rw [e']; decide), if_neg (by rw [e']; decide), es]
    simp [ofM, e]

theorem wireF_len (m : Msg) : (wireF m).length = 5 + (bodyF m).length := by
  rw [wireF, List.length_append, List.length_append, beW_length, beW_length]
theorem wireF_eq (m : Msg) (t : List Int) : wireF m ++ t = (m.ty / 2 ^ (8 * 0) % 256) :: (beW ((bodyF m).length : Int) 4 ++ (bodyF m ++ t)) := by
  simp [wireF, beW]
theorem ty_byte {m : Msg} (o : okM m) : m.ty / 2 ^ (8 * 0) % 256 = m.ty := by
  have := o.ty
  rw [Nat.mul_zero, Int.pow_zero, Int.ediv_one]; omega
/-- What is written is read, whatever stands behind. -/
theorem rd_wire {m : Msg} (o : okM m) (ht : 1 ≤ m.ty ∧ m.ty ≤ 6) (hs : m.sums.length ≤ 256) (hl : m.body.length ≤ 524288) (hof : ofM m = m) (t : List Int) :
    rdOk (wireF m ++ t) ∧ rdM (wireF m ++ t) = m ∧ rdN (wireF m ++ t) = (wireF m).length ∧ rdE (wireF m ++ t) = 0 := by
  have hbl := bodyF_le hs hl
  have hw := wireF_eq m t
  rw [ty_byte o] at hw
  have h0 : (wireF m ++ t).getD 0 0 = m.ty := by rw [hw]; rfl
  have hlen : (wireF m ++ t).length = 5 + (bodyF m).length + t.length := by rw [List.length_append, wireF_len]
  have hd1 : ((wireF m ++ t).drop 1).take 4 = beW ((bodyF m).length : Int) 4 := by
    rw [hw, List.drop_succ_cons, List.drop_zero, List.take_left' (beW_length _ _)]
  have hL : lenF (wireF m ++ t) = (bodyF m).length := by rw [lenF, hd1]; exact valB_be (by omega)
  have hd5 : ((wireF m ++ t).drop 5).take (bodyF m).length = bodyF m := by
    rw [hw, show (5 : Nat) = 4 + 1 by rfl, List.drop_succ_cons, List.drop_left' (beW_length _ _), List.take_left' rfl]
  have hS : rdS (wireF m ++ t) = ⟨false, [], m⟩ := by
    rw [rdS, hL, Int.toNat_natCast, hd5, h0]
    have := readF_be o ht hs
    rw [hof] at this
    exact this
  have hok : rdOk (wireF m ++ t) := ⟨by omega, by rw [h0]; exact ht, by omega, by rw [hL]; omega, by rw [hL]; omega, by rw [hS], by rw [hS]⟩
  obtain ⟨k1, k2, k3⟩ := rd_ok hok
  exact ⟨hok, by rw [k1, hS], by rw [k2, hL, wireF_len]; omega, k3⟩
/-- Of a part nothing is told. -/
theorem rd_part {m : Msg} (o : okM m) (ht : 1 ≤ m.ty ∧ m.ty ≤ 6) (hs : m.sums.length ≤ 256) (hl : m.body.length ≤ 524288) {k : Nat} (hk : k < (wireF m).length) :
    ¬ rdOk ((wireF m).take k) ∧ rdE ((wireF m).take k) = 0 := by
  have hbl := bodyF_le hs hl
  have hw := wireF_eq m []
  rw [ty_byte o, List.append_nil, List.append_nil] at hw
  have hlen := wireF_len m
  have hln : ((wireF m).take k).length = k := by rw [List.length_take]; omega
  by_cases h0 : k = 0
  · subst h0
    refine ⟨fun h => h.1 (by rw [hln]), by rw [rdE, if_pos (by rw [hln])]⟩
  have hg : ((wireF m).take k).getD 0 0 = m.ty := by
    rw [hw]; cases k with
    | zero => exact absurd rfl h0
    | succ k => rfl
  by_cases h5 : k < 5
  · refine ⟨fun h => h.2.2.1 (by rw [hln]; exact h5), ?_⟩
    rw [rdE, if_neg (by rw [hln]; exact h0), if_neg (by rw [hg]; exact not_not_intro ht), if_pos (by rw [hln]; exact h5)]
  have hd1 : (((wireF m).take k).drop 1).take 4 = beW ((bodyF m).length : Int) 4 := by
    rw [hw]
    obtain ⟨j, rfl⟩ : ∃ j, k = j + 1 := ⟨k - 1, by omega⟩
    rw [List.take_succ_cons, List.drop_succ_cons, List.drop_zero, List.take_take, show min 4 j = 4 by omega, List.take_left' (beW_length _ _)]
  have hL : lenF ((wireF m).take k) = (bodyF m).length := by rw [lenF, hd1]; exact valB_be (by omega)
  refine ⟨fun h => h.2.2.2.2.1 (by rw [hln, hL]; omega), ?_⟩
  rw [rdE, if_neg (by rw [hln]; exact h0), if_neg (by rw [hg]; exact not_not_intro ht), if_neg (by rw [hln]; exact h5), if_neg (by rw [hL]; omega), if_pos (by rw [hln, hL]; omega)]
/-- Two messages of the same bytes are one. -/
theorem wire_inj {m q : Msg} (o : okM m) (ht : 1 ≤ m.ty ∧ m.ty ≤ 6) (hs : m.sums.length ≤ 256) (hl : m.body.length ≤ 524288) (hof : ofM m = m)
    (o' : okM q) (ht' : 1 ≤ q.ty ∧ q.ty ≤ 6) (hs' : q.sums.length ≤ 256) (hl' : q.body.length ≤ 524288) (hof' : ofM q = q) : (wireF m = wireF q) ↔ m = q := by
  refine ⟨fun h => ?_, fun h => by rw [h]⟩
  have h1 := (rd_wire o ht hs hl hof []).2.1
  have h2 := (rd_wire o' ht' hs' hl' hof' []).2.1
  rw [← h1, ← h2, h]

/-! What is read is written. -/
theorem valB_add : ∀ (l : List Int) (a : Int), valB l a = a * 256 ^ l.length + valB l 0
  | [], a => by simp [valB]
  | b :: l, a => by
    rw [valB, valB_add l, valB, valB_add l (0 * 256 + b), List.length_cons, Int.pow_succ, Int.add_mul, Int.mul_comm (256 ^ l.length) 256, Int.mul_assoc, Int.zero_mul, Int.zero_add]
    omega
theorem beW_add (k : Nat) : ∀ (j : Nat) (u v : Int), j ≤ k → beW (u * 256 ^ k + v) j = beW v j
  | 0, _, _, _ => rfl
  | j + 1, u, v, h => by
    have hp : (256 : Int) ^ j = 2 ^ (8 * j) := by rw [Int.pow_mul]; rfl
    have hq : (0 : Int) < 256 ^ j := Int.pow_pos (by decide)
    have hs : (256 : Int) ^ k = 256 ^ (k - j - 1) * 256 * 256 ^ j := by
      rw [show (256 : Int) ^ (k - j - 1) * 256 = 256 ^ (k - j - 1 + 1) from (Int.pow_succ ..).symm, ← Int.pow_add]; congr 1; omega
    rw [beW, beW, beW_add k j u v (by omega), ← hp, hs, ← Int.mul_assoc, Int.add_comm, Int.add_mul_ediv_right _ _ (by omega), ← Int.mul_assoc, Int.add_mul_emod_self_right]
theorem beW_valB : ∀ (l : List Int), (∀ x ∈ l, in8 x) → beW (valB l 0) l.length = l
  | [], _ => rfl
  | b :: l, h => by
    have hb := h b (by simp)
    have hv := valB_bound l 0 1 (fun x hx => h x (by simp [hx])) (by decide) (by decide)
    rw [Int.one_mul] at hv
    have e : valB (b :: l) 0 = b * 256 ^ l.length + valB l 0 := by rw [valB, valB_add, Int.zero_mul, Int.zero_add]
    have hp : (256 : Int) ^ l.length = 2 ^ (8 * l.length) := by rw [Int.pow_mul]; rfl
    have hq : (0 : Int) < 256 ^ l.length := Int.pow_pos (by decide)
    rw [List.length_cons, beW, e, beW_add l.length l.length b (valB l 0) (Nat.le_refl _), beW_valB l (fun x hx => h x (by simp [hx])), ← hp, Int.add_comm, Int.add_mul_ediv_right _ _ (by omega), Int.ediv_eq_zero_of_lt hv.1 hv.2, Int.zero_add]
    congr 1
    omega
theorem rd_inv {k : Nat} {bad : Bool} {l : List Int} (h : rdB k bad l = false) (hl : ∀ x ∈ l, in8 x) : bad = false ∧ l = beW (rdV k bad l) k ++ rdL k bad l := by
  have h' : ¬ rdB k bad l = true := by rw [h]; simp
  have hk : k ≤ l.length := by simp [rdB] at h; omega
  have hlen : (l.take k).length = k := by rw [List.length_take]; omega
  have := beW_valB (l.take k) (fun x hx => hl x (List.mem_of_mem_take hx))
  rw [hlen] at this
  refine ⟨by simp [rdB] at h; exact h.1, ?_⟩
  rw [rdV, if_neg h', rdL, if_neg h', this, List.take_append_drop]
theorem rdL_in8 {k : Nat} {bad : Bool} {l : List Int} (hl : ∀ x ∈ l, in8 x) : ∀ x ∈ rdL k bad l, in8 x := by
  intro x hx
  unfold rdL at hx
  split at hx
  · exact hl x hx
  · exact hl x (List.mem_of_mem_drop hx)
theorem rdL_le {k : Nat} {bad : Bool} {l : List Int} : (rdL k bad l).length ≤ l.length := by
  unfold rdL
  split
  · exact Nat.le_refl _
  · simp
theorem tr_inv {bad : Bool} {l : List Int} (h : trB bad l = false) (hl : ∀ x ∈ l, in8 x) : bad = false ∧ l = beW (b2i (decide (rdV 1 bad l = 1))) 1 ++ rdL 1 bad l := by
  simp only [trB, Bool.or_eq_false_iff, Bool.not_eq_false', decide_eq_true_eq] at h
  obtain ⟨h1, h2⟩ := rd_inv h.1 hl
  refine ⟨h1, ?_⟩
  have hv := (rdV_bound (k := 1) (bad := bad) hl).1
  have e : b2i (decide (rdV 1 bad l = 1)) = rdV 1 bad l := by
    obtain e | e : rdV 1 bad l = 0 ∨ rdV 1 bad l = 1 := by omega
    · rw [e]; rfl
    · rw [e]; rfl
  rw [e]; exact h2
theorem st_in8 {s : Bool × List Int} (hl : ∀ x ∈ s.2, in8 x) : ∀ n, ∀ x ∈ (stR s n).2, in8 x
  | 0 => hl
  | n + 1 => rdL_in8 (st_in8 hl n)
theorem st_inv {s : Bool × List Int} (hl : ∀ x ∈ s.2, in8 x) : ∀ n, (stR s n).1 = false → s.1 = false ∧ s.2 = ((sumR s n).flatMap fun x => beW x 4) ++ (stR s n).2
  | 0, h => ⟨h, by simp [sumR, stR]⟩
  | n + 1, h => by
    obtain ⟨h1, h2⟩ := rd_inv (k := 4) h (st_in8 hl n)
    obtain ⟨g1, g2⟩ := st_inv hl n h1
    refine ⟨g1, ?_⟩
    rw [sumR, List.range_succ, List.map_append, List.flatMap_append]
    have e : (stR s n).2 = beW (valR s n) 4 ++ (stR s (n + 1)).2 := h2
    rw [show (List.range n).map (valR s) = sumR s n from rfl]
    simp only [List.map_cons, List.map_nil, List.flatMap_cons, List.flatMap_nil, List.append_nil, List.append_assoc]
    rw [← e]; exact g2
theorem valR_in32 {s : Bool × List Int} (hl : ∀ x ∈ s.2, in8 x) (n : Nat) : in32 (valR s n) := by
  have := rdV_bound (k := 4) (bad := (stR s n).1) (st_in8 hl n)
  unfold valR; omega

theorem bodyF_2 {m : Msg} (e : m.ty = 2) : bodyF m = beW m.life 4 ++ (beW m.w 2 ++ beW m.h 2) ++ beW m.seq 4 := by simp [bodyF, e]
theorem bodyF_4 {m : Msg} (e : m.ty = 4) : bodyF m = beW m.base 4 ++ beW m.frame 4 ++ beW (b2i m.full) 1 ++ m.body := by simp [bodyF, e]
theorem bodyF_5 {m : Msg} (e : m.ty = 5) : bodyF m = beW m.seq 4 ++ (beW m.kind 1 ++ beW m.ex 2 ++ beW m.ey 2 ++ beW m.code 4) := by simp [bodyF, e]
theorem bodyF_6 {m : Msg} (e : m.ty = 6) : bodyF m = beW m.seq 4 := by simp [bodyF, e]
theorem rd_any {l : List Int} {ty : Int} (hl : ∀ x ∈ l, in8 x) (ht : 1 ≤ ty ∧ ty ≤ 6) (hb : (readF ⟨false, l, zeroM ty⟩).bad = false) (he : (readF ⟨false, l, zeroM ty⟩).l = []) :
    okM (readF ⟨false, l, zeroM ty⟩).m ∧ ofM (readF ⟨false, l, zeroM ty⟩).m = (readF ⟨false, l, zeroM ty⟩).m ∧ (readF ⟨false, l, zeroM ty⟩).m.ty = ty ∧ bodyF (readF ⟨false, l, zeroM ty⟩).m = l ∧ (readF ⟨false, l, zeroM ty⟩).m.sums.length ≤ 256 := by
  have h4 : ∀ (bad : Bool) (q : List Int), (∀ x ∈ q, in8 x) → in32 (rdV 4 bad q) := fun bad q h => by have := rdV_bound (k := 4) (bad := bad) h; omega
  have h2 : ∀ (bad : Bool) (q : List Int), (∀ x ∈ q, in8 x) → in16 (rdV 2 bad q) := fun bad q h => by have := rdV_bound (k := 2) (bad := bad) h; omega
  have h1 : ∀ (bad : Bool) (q : List Int), (∀ x ∈ q, in8 x) → in8 (rdV 1 bad q) := fun bad q h => by have := rdV_bound (k := 1) (bad := bad) h; omega
  obtain e | e | e | e | e | e : ty = 1 ∨ ty = 2 ∨ ty = 3 ∨ ty = 4 ∨ ty = 5 ∨ ty = 6 := by omega
  all_goals subst e
  · have i1 := rdL_in8 (k := 4) (bad := false) hl
    have i2 := rdL_in8 (k := 1) (bad := rdB 4 false l) i1
    have i3 := rdL_in8 (k := 4) (bad := trB (rdB 4 false l) (rdL 4 false l)) i2
    have i4 := rdL_in8 (k := 2) (bad := rdB 4 (trB (rdB 4 false l) (rdL 4 false l)) (rdL 1 (rdB 4 false l) (rdL 4 false l))) i3
    have ef : readF ⟨false, l, zeroM 1⟩ = (if (numS (frameF (hasF (lifeF ⟨false, l, zeroM 1⟩))).bad (frameF (hasF (lifeF ⟨false, l, zeroM 1⟩))).l).1 = true then ⟨true, (numS (frameF (hasF (lifeF ⟨false, l, zeroM 1⟩))).bad (frameF (hasF (lifeF ⟨false, l, zeroM 1⟩))).l).2, (frameF (hasF (lifeF ⟨false, l, zeroM 1⟩))).m⟩ else ⟨(stR (numS (frameF (hasF (lifeF ⟨false, l, zeroM 1⟩))).bad (frameF (hasF (lifeF ⟨false, l, zeroM 1⟩))).l) (rdV 2 (frameF (hasF (lifeF ⟨false, l, zeroM 1⟩))).bad (frameF (hasF (lifeF ⟨false, l, zeroM 1⟩))).l).toNat).1, (stR (numS (frameF (hasF (lifeF ⟨false, l, zeroM 1⟩))).bad (frameF (hasF (lifeF ⟨false, l, zeroM 1⟩))).l) (rdV 2 (frameF (hasF (lifeF ⟨false, l, zeroM 1⟩))).bad (frameF (hasF (lifeF ⟨false, l, zeroM 1⟩))).l).toNat).2, {(frameF (hasF (lifeF ⟨false, l, zeroM 1⟩))).m with sums := sumR (numS (frameF (hasF (lifeF ⟨false, l, zeroM 1⟩))).bad (frameF (hasF (lifeF ⟨false, l, zeroM 1⟩))).l) (rdV 2 (frameF (hasF (lifeF ⟨false, l, zeroM 1⟩))).bad (frameF (hasF (lifeF ⟨false, l, zeroM 1⟩))).l).toNat}⟩) := by
      rw [readF, if_pos (by rfl)]
    generalize hT : frameF (hasF (lifeF ⟨false, l, zeroM 1⟩)) = T at ef
    have hTb : T.bad = rdB 4 (trB (rdB 4 false l) (rdL 4 false l)) (rdL 1 (rdB 4 false l) (rdL 4 false l)) := by rw [← hT]; rfl
    have hTl : T.l = rdL 4 (trB (rdB 4 false l) (rdL 4 false l)) (rdL 1 (rdB 4 false l) (rdL 4 false l)) := by rw [← hT]; rfl
    have hTm : T.m = {zeroM 1 with life := rdV 4 false l, has := decide (rdV 1 (rdB 4 false l) (rdL 4 false l) = 1), frame := rdV 4 (trB (rdB 4 false l) (rdL 4 false l)) (rdL 1 (rdB 4 false l) (rdL 4 false l))} := by rw [← hT]; rfl
    have iT : ∀ x ∈ T.l, in8 x := by rw [hTl]; exact i3
    by_cases hq : (numS T.bad T.l).1 = true
    · rw [ef, if_pos hq] at hb; cases hb
    rw [if_neg hq] at ef
    rw [ef] at hb he ⊢
    have iN : ∀ x ∈ (numS T.bad T.l).2, in8 x := rdL_in8 iT
    obtain ⟨g1, g2⟩ := st_inv iN _ hb
    have he' : (stR (numS T.bad T.l) (rdV 2 T.bad T.l).toNat).2 = [] := he
    rw [he', List.append_nil] at g2
    simp only [numS, Bool.or_eq_false_iff, Bool.not_eq_false', decide_eq_true_eq] at g1
    obtain ⟨j1, j2⟩ := rd_inv g1.1 iT
    have hv2 := (h2 T.bad T.l iT).1
    have hlen : (sumR (numS T.bad T.l) (rdV 2 T.bad T.l).toNat).length = (rdV 2 T.bad T.l).toNat := by simp [sumR]
    rw [hTb] at j1
    obtain ⟨a1, a2⟩ := rd_inv j1 i2
    obtain ⟨b1, b2⟩ := tr_inv a1 i1
    obtain ⟨c1, c2⟩ := rd_inv b1 hl
    refine ⟨?_, ?_, ?_, ?_, ?_⟩
    · refine ⟨by show in8 T.m.ty; rw [hTm]; exact (by decide : in8 1), ?_, ?_, by show in32 T.m.base; rw [hTm]; exact (by decide : in32 0), by show in16 T.m.w; rw [hTm]; exact (by decide : in16 0), by show in16 T.m.h; rw [hTm]; exact (by decide : in16 0), ?_, by show in32 T.m.seq; rw [hTm]; exact (by decide : in32 0), by show in8 T.m.kind; rw [hTm]; exact (by decide : in8 0), by show in16 T.m.ex; rw [hTm]; exact (by decide : in16 0), by show in16 T.m.ey; rw [hTm]; exact (by decide : in16 0), by show in32 T.m.code; rw [hTm]; exact (by decide : in32 0), by intro x hx; change x ∈ T.m.body at hx; rw [hTm] at hx; cases hx⟩
      · show in32 T.m.life; rw [hTm]; exact h4 false l hl
      · show in32 T.m.frame; rw [hTm]; exact h4 _ _ i2
      · intro x hx
        simp only [sumR, List.mem_map] at hx
        obtain ⟨i, _, rfl⟩ := hx
        exact valR_in32 iN i
    · rw [hTm]; rfl
    · rw [hTm]; rfl
    · have hF : ∀ S : List Int, bodyF {T.m with sums := S} = beW (rdV 4 false l) 4 ++ beW (b2i (decide (rdV 1 (rdB 4 false l) (rdL 4 false l) = 1))) 1 ++ beW (rdV 4 (trB (rdB 4 false l) (rdL 4 false l)) (rdL 1 (rdB 4 false l) (rdL 4 false l))) 4 ++ sumsB S := by
        intro S; rw [hTm]; simp [bodyF, zeroM]
      have hsB : sumsB (sumR (numS T.bad T.l) (rdV 2 T.bad T.l).toNat) = T.l := by
        rw [sumsB, hlen, ← g2, show ((rdV 2 T.bad T.l).toNat : Int) = rdV 2 T.bad T.l by omega]
        exact j2.symm
      show bodyF {T.m with sums := sumR (numS T.bad T.l) (rdV 2 T.bad T.l).toNat} = l
      rw [hF, hsB, hTl, List.append_assoc, ← a2, List.append_assoc, ← b2, ← c2]
    · show (sumR (numS T.bad T.l) (rdV 2 T.bad T.l).toNat).length ≤ 256
      rw [hlen]; omega
  · have i1 := rdL_in8 (k := 4) (bad := false) hl
    have ef : readF ⟨false, l, zeroM 2⟩ = seqF (sizeF (lifeF ⟨false, l, zeroM 2⟩)) := by rw [readF, if_neg (by simp [zeroM]), if_pos (by rfl)]
    rw [ef] at hb he ⊢
    generalize hB1 : rdB 4 false l = B1 at *
    generalize hL1 : rdL 4 false l = L1 at *
    have es : seqF (sizeF (lifeF ⟨false, l, zeroM 2⟩)) = ⟨rdB 4 (rdB 2 (rdB 2 B1 L1) (rdL 2 B1 L1)) (rdL 2 (rdB 2 B1 L1) (rdL 2 B1 L1)), rdL 4 (rdB 2 (rdB 2 B1 L1) (rdL 2 B1 L1)) (rdL 2 (rdB 2 B1 L1) (rdL 2 B1 L1)),
        {zeroM 2 with life := rdV 4 false l, w := rdV 2 B1 L1, h := rdV 2 (rdB 2 B1 L1) (rdL 2 B1 L1), seq := rdV 4 (rdB 2 (rdB 2 B1 L1) (rdL 2 B1 L1)) (rdL 2 (rdB 2 B1 L1) (rdL 2 B1 L1))}⟩ := by
      rw [← hB1, ← hL1]; rfl
    rw [es] at hb he ⊢
    have i2 := rdL_in8 (k := 2) (bad := B1) i1
    generalize hB2 : rdB 2 B1 L1 = B2 at *
    generalize hL2 : rdL 2 B1 L1 = L2 at *
    have i3 := rdL_in8 (k := 2) (bad := B2) i2
    generalize hB3 : rdB 2 B2 L2 = B3 at *
    generalize hL3 : rdL 2 B2 L2 = L3 at *
    obtain ⟨a1, a2⟩ := rd_inv (k := 4) hb i3
    subst a1
    obtain ⟨b1, b2⟩ := rd_inv hB3 i2
    subst b1
    obtain ⟨c1, c2⟩ := rd_inv hB2 i1
    subst c1
    obtain ⟨f1, f2⟩ := rd_inv hB1 hl
    have he' : rdL 4 false L3 = [] := he
    refine ⟨⟨(by decide : in8 2), ?_, (by decide : in32 0), (by decide : in32 0), ?_, ?_, (fun x hx => by cases hx), ?_, (by decide : in8 0), (by decide : in16 0), (by decide : in16 0), (by decide : in32 0), (fun x hx => by cases hx)⟩, rfl, rfl, ?_, Nat.zero_le _⟩
    · exact h4 false l hl
    · exact h2 false L1 i1
    · exact h2 false L2 i2
    · exact h4 false L3 i3
    · rw [bodyF_2 (by rfl)]
      simp only [zeroM]
      rw [he', List.append_nil] at a2
      rw [hL3, a2] at b2
      rw [hL2, b2] at c2
      rw [hL1, c2] at f2
      simp only [List.append_assoc] at f2 ⊢
      exact f2.symm
  · have ef : readF ⟨false, l, zeroM 3⟩ = ⟨false, l, zeroM 3⟩ := by rw [readF, if_neg (by simp [zeroM]), if_neg (by simp [zeroM]), if_pos (by rfl)]
    rw [ef] at he ⊢
    have he' : l = [] := he
    subst he'
    exact ⟨⟨(by decide : in8 3), (by decide : in32 0), (by decide : in32 0), (by decide : in32 0), (by decide : in16 0), (by decide : in16 0), (fun x hx => by cases hx), (by decide : in32 0), (by decide : in8 0), (by decide : in16 0), (by decide : in16 0), (by decide : in32 0), (fun x hx => by cases hx)⟩, rfl, rfl, rfl, Nat.zero_le _⟩
  · have i1 := rdL_in8 (k := 4) (bad := false) hl
    have ef : readF ⟨false, l, zeroM 4⟩ = ⟨(fullF (frameF (baseF ⟨false, l, zeroM 4⟩))).bad, [], {(fullF (frameF (baseF ⟨false, l, zeroM 4⟩))).m with body := (fullF (frameF (baseF ⟨false, l, zeroM 4⟩))).l}⟩ := by
      rw [readF, if_neg (by simp [zeroM]), if_neg (by simp [zeroM]), if_neg (by simp [zeroM]), if_pos (by rfl)]
    rw [ef] at hb he ⊢
    generalize hB1 : rdB 4 false l = B1 at *
    generalize hL1 : rdL 4 false l = L1 at *
    have es : fullF (frameF (baseF ⟨false, l, zeroM 4⟩)) = ⟨trB (rdB 4 B1 L1) (rdL 4 B1 L1), rdL 1 (rdB 4 B1 L1) (rdL 4 B1 L1), {zeroM 4 with base := rdV 4 false l, frame := rdV 4 B1 L1, full := decide (rdV 1 (rdB 4 B1 L1) (rdL 4 B1 L1) = 1)}⟩ := by
      rw [← hB1, ← hL1]; rfl
    rw [es] at hb ⊢
    have i2 := rdL_in8 (k := 4) (bad := B1) i1
    generalize hB2 : rdB 4 B1 L1 = B2 at *
    generalize hL2 : rdL 4 B1 L1 = L2 at *
    have i3 := rdL_in8 (k := 1) (bad := B2) i2
    obtain ⟨a1, a2⟩ := tr_inv hb i2
    subst a1
    obtain ⟨b1, b2⟩ := rd_inv hB2 i1
    subst b1
    obtain ⟨f1, f2⟩ := rd_inv hB1 hl
    refine ⟨⟨(by decide : in8 4), (by decide : in32 0), ?_, ?_, (by decide : in16 0), (by decide : in16 0), (fun x hx => by cases hx), (by decide : in32 0), (by decide : in8 0), (by decide : in16 0), (by decide : in16 0), (by decide : in32 0), i3⟩, rfl, rfl, ?_, Nat.zero_le _⟩
    · exact h4 false L1 i1
    · exact h4 false l hl
    · rw [bodyF_4 (by rfl)]
      simp only [zeroM]
      rw [hL2, a2] at b2
      rw [hL1, b2] at f2
      simp only [List.append_assoc] at f2 ⊢
      exact f2.symm
  · have i1 := rdL_in8 (k := 4) (bad := false) hl
    have ef : readF ⟨false, l, zeroM 5⟩ = eventF (seqF ⟨false, l, zeroM 5⟩) := by
      rw [readF, if_neg (by simp [zeroM]), if_neg (by simp [zeroM]), if_neg (by simp [zeroM]), if_neg (by simp [zeroM]), if_pos (by rfl)]
    rw [ef] at hb he ⊢
    generalize hB1 : rdB 4 false l = B1 at *
    generalize hL1 : rdL 4 false l = L1 at *
    have es : eventF (seqF ⟨false, l, zeroM 5⟩) = ⟨rdB 4 (rdB 2 (rdB 2 (rdB 1 B1 L1) (rdL 1 B1 L1)) (rdL 2 (rdB 1 B1 L1) (rdL 1 B1 L1))) (rdL 2 (rdB 2 (rdB 1 B1 L1) (rdL 1 B1 L1)) (rdL 2 (rdB 1 B1 L1) (rdL 1 B1 L1))), rdL 4 (rdB 2 (rdB 2 (rdB 1 B1 L1) (rdL 1 B1 L1)) (rdL 2 (rdB 1 B1 L1) (rdL 1 B1 L1))) (rdL 2 (rdB 2 (rdB 1 B1 L1) (rdL 1 B1 L1)) (rdL 2 (rdB 1 B1 L1) (rdL 1 B1 L1))),
        {zeroM 5 with seq := rdV 4 false l, kind := rdV 1 B1 L1, ex := rdV 2 (rdB 1 B1 L1) (rdL 1 B1 L1), ey := rdV 2 (rdB 2 (rdB 1 B1 L1) (rdL 1 B1 L1)) (rdL 2 (rdB 1 B1 L1) (rdL 1 B1 L1)), code := rdV 4 (rdB 2 (rdB 2 (rdB 1 B1 L1) (rdL 1 B1 L1)) (rdL 2 (rdB 1 B1 L1) (rdL 1 B1 L1))) (rdL 2 (rdB 2 (rdB 1 B1 L1) (rdL 1 B1 L1)) (rdL 2 (rdB 1 B1 L1) (rdL 1 B1 L1)))}⟩ := by
      rw [← hB1, ← hL1]; rfl
    rw [es] at hb he ⊢
    have i2 := rdL_in8 (k := 1) (bad := B1) i1
    generalize hB2 : rdB 1 B1 L1 = B2 at *
    generalize hL2 : rdL 1 B1 L1 = L2 at *
    have i3 := rdL_in8 (k := 2) (bad := B2) i2
    generalize hB3 : rdB 2 B2 L2 = B3 at *
    generalize hL3 : rdL 2 B2 L2 = L3 at *
    have i4 := rdL_in8 (k := 2) (bad := B3) i3
    generalize hB4 : rdB 2 B3 L3 = B4 at *
    generalize hL4 : rdL 2 B3 L3 = L4 at *
    obtain ⟨a1, a2⟩ := rd_inv (k := 4) hb i4
    subst a1
    obtain ⟨b1, b2⟩ := rd_inv hB4 i3
    subst b1
    obtain ⟨c1, c2⟩ := rd_inv hB3 i2
    subst c1
    obtain ⟨d1, d2⟩ := rd_inv hB2 i1
    subst d1
    obtain ⟨f1, f2⟩ := rd_inv hB1 hl
    have he' : rdL 4 false L4 = [] := he
    refine ⟨⟨(by decide : in8 5), (by decide : in32 0), (by decide : in32 0), (by decide : in32 0), (by decide : in16 0), (by decide : in16 0), (fun x hx => by cases hx), ?_, ?_, ?_, ?_, ?_, (fun x hx => by cases hx)⟩, rfl, rfl, ?_, Nat.zero_le _⟩
    · exact h4 false l hl
    · exact h1 false L1 i1
    · exact h2 false L2 i2
    · exact h2 false L3 i3
    · exact h4 false L4 i4
    · rw [bodyF_5 (by rfl)]
      simp only [zeroM]
      rw [he', List.append_nil] at a2
      rw [hL4, a2] at b2
      rw [hL3, b2] at c2
      rw [hL2, c2] at d2
      rw [hL1, d2] at f2
      simp only [List.append_assoc] at f2 ⊢
      exact f2.symm
  · have ef : readF ⟨false, l, zeroM 6⟩ = seqF ⟨false, l, zeroM 6⟩ := by
      rw [readF, if_neg (by simp [zeroM]), if_neg (by simp [zeroM]), if_neg (by simp [zeroM]), if_neg (by simp [zeroM]), if_neg (by simp [zeroM])]
    rw [ef] at hb he ⊢
    obtain ⟨a1, a2⟩ := rd_inv (k := 4) (bad := false) (l := l) hb hl
    have he' : rdL 4 false l = [] := he
    refine ⟨⟨(by decide : in8 6), (by decide : in32 0), (by decide : in32 0), (by decide : in32 0), (by decide : in16 0), (by decide : in16 0), (fun x hx => by cases hx), ?_, (by decide : in8 0), (by decide : in16 0), (by decide : in16 0), (by decide : in32 0), (fun x hx => by cases hx)⟩, rfl, rfl, ?_, Nat.zero_le _⟩
    · exact h4 false l hl
    · rw [bodyF_6 (by rfl)]
      rw [he', List.append_nil] at a2
      exact a2.symm
/-- Whatever bytes are read as a message, it is written as the same ones. -/
theorem rd_back {b : List Int} (hb : ∀ x ∈ b, in8 x) (h : rdOk b) : okM (rdM b) ∧ ofM (rdM b) = rdM b ∧ (1 ≤ (rdM b).ty ∧ (rdM b).ty ≤ 6) ∧ (rdM b).sums.length ≤ 256 ∧ (rdM b).body.length ≤ 524288 ∧ 5 ≤ rdN b ∧ rdN b ≤ b.length ∧ wireF (rdM b) = b.take (rdN b).toNat := by
  obtain ⟨k1, k2, _⟩ := rd_ok h
  obtain ⟨h1, h2, h3, h4, h5, h6, h7⟩ := h
  have hv := valB_bound ((b.drop 1).take 4) 0 1 (fun x hx => hb x (List.mem_of_mem_drop (List.mem_of_mem_take hx))) (by decide) (by decide)
  obtain ⟨n, hn⟩ := Int.eq_ofNat_of_zero_le hv.1
  have hn : lenF b = (n : Int) := hn
  have h6' : (readF ⟨false, (b.drop 5).take (lenF b).toNat, zeroM (b.getD 0 0)⟩).bad = false := h6
  obtain ⟨r1, r2, r3, r4, r5⟩ := rd_any (fun x hx => hb x (List.mem_of_mem_drop (List.mem_of_mem_take hx))) h2 h6' h7
  change okM (rdS b).m at r1
  change ofM (rdS b).m = (rdS b).m at r2
  change (rdS b).m.ty = b.getD 0 0 at r3
  change bodyF (rdS b).m = _ at r4
  change (rdS b).m.sums.length ≤ 256 at r5
  rw [k1, k2]
  have hlen : (bodyF (rdS b).m).length = n := by rw [r4, List.length_take, List.length_drop, hn]; omega
  refine ⟨r1, r2, by rw [r3]; exact h2, r5, ?_, by omega, by omega, ?_⟩
  · by_cases e : (rdS b).m.ty = 4
    · have := bodyF_len (rdS b).m
      rw [e] at this
      simp at this
      omega
    · have : (rdS b).m.body = [] := by
        rw [← r2, ofM]
        rw [if_neg e]
        repeat' split
        all_goals rfl
      rw [this]; decide
  · have hb0 : b = b.getD 0 0 :: b.drop 1 := by
      cases b with
      | nil => exact absurd rfl h1
      | cons x b => rfl
    have ht := wireF_eq (rdS b).m []
    rw [List.append_nil, List.append_nil, ty_byte r1, r3, hlen, r4] at ht
    have hl4 : ((b.drop 1).take 4).length = 4 := by rw [List.length_take, List.length_drop]; omega
    have e4 : beW (n : Int) 4 = (b.drop 1).take 4 := by
      have := beW_valB ((b.drop 1).take 4) (fun x hx => hb x (List.mem_of_mem_drop (List.mem_of_mem_take hx)))
      rw [hl4] at this
      rw [← hn]; exact this
    rw [ht, e4, hn, Int.toNat_natCast, show (5 + (n : Int)).toNat = (4 + n) + 1 by omega]
    conv => rhs; rw [hb0]
    rw [List.take_succ_cons, List.take_add, List.drop_drop]
theorem rd_err (b : List Int) : rdE b = 0 ∨ rdE b = 230 ∨ rdE b = 2 ∨ rdE b = 231 := by
  unfold rdE
  repeat' split
  all_goals simp
theorem rdM_ok {b : List Int} (hb : ∀ x ∈ b, in8 x) : okM (rdM b) := by
  by_cases h : rdOk b
  · exact (rd_back hb h).1
  · rw [(rd_no h).1]
    exact ⟨(by decide : in8 0), (by decide : in32 0), (by decide : in32 0), (by decide : in32 0), (by decide : in16 0), (by decide : in16 0), (fun x hx => by cases hx), (by decide : in32 0), (by decide : in8 0), (by decide : in16 0), (by decide : in16 0), (by decide : in32 0), (fun x hx => by cases hx)⟩
end Go.Proofs.Ytedlpkibdjccdaa
