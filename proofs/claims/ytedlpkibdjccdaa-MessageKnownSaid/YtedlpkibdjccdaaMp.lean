/- Layer 23: what is laid is read (plainly). -/
import Derived.Test.YtedlpkibdjccdaaM10

set_option linter.unusedVariables false

set_option linter.unusedSimpArgs false

set_option linter.unusedSectionVars false

open Go.RowKit

namespace Go.Proofs.Ytedlpkibdjccdaa

theorem emod_mulZ (v P q : Int) (hP : 0 ≤ P) : v % (P * q) = v % P + P * (v / P % q) := by
  have h1 : v / P / q = v / (P * q) := by first | exact Int.ediv_ediv_of_nonneg hP | exact Int.ediv_ediv_eq_ediv_mul v hP | exact Int.ediv_ediv hP
  rw [Int.emod_def v (P * q), Int.emod_def v P, Int.emod_def (v / P) q, ← h1, Int.mul_sub, Int.mul_assoc]
  omega
theorem valB_beW (v : Int) : ∀ (k : Nat) (a : Int), valB (beW v k) a = a * 256 ^ k + v % 256 ^ k
  | 0, a => by simp [beW, valB, Int.emod_one]
  | k + 1, a => by
    simp only [beW, valB]
    rw [valB_beW v k, Int.pow_succ]
    have e : (256 : Int) ^ k = 2 ^ (8 * k) := by rw [Int.pow_mul]; rfl
    rw [← e]
    rw [emod_mulZ v (256 ^ k) 256 (Int.le_of_lt (Int.pow_pos (by decide))), Int.add_mul, Int.mul_assoc, Int.mul_comm 256 (256 ^ k), Int.mul_comm (v / 256 ^ k % 256) (256 ^ k)]
    omega
theorem valB_be {v : Int} {k : Nat} (h : 0 ≤ v ∧ v < 256 ^ k) : valB (beW v k) 0 = v := by
  rw [valB_beW, Int.zero_mul, Int.zero_add]; exact Int.emod_eq_of_lt h.1 h.2
theorem rd_be {v : Int} {k : Nat} {t : List Int} (h : 0 ≤ v ∧ v < 256 ^ k) : rdB k false (beW v k ++ t) = false ∧ rdV k false (beW v k ++ t) = v ∧ rdL k false (beW v k ++ t) = t := by
  have hl := beW_length v k
  have h1 : rdB k false (beW v k ++ t) = false := by simp [rdB, hl]
  refine ⟨h1, ?_, ?_⟩
  · rw [rdV, h1, if_neg (by simp), List.take_left' hl, valB_be h]
  · rw [rdL, h1, if_neg (by simp), List.drop_left' hl]
theorem tr_be {b : Bool} {t : List Int} : trB false (beW (b2i b) 1 ++ t) = false ∧ decide (rdV 1 false (beW (b2i b) 1 ++ t) = 1) = b ∧ rdL 1 false (beW (b2i b) 1 ++ t) = t := by
  obtain ⟨h1, h2, h3⟩ := rd_be (v := b2i b) (k := 1) (t := t) (by cases b <;> decide)
  rw [trB, h1, h2, h3]
  cases b <;> exact ⟨rfl, rfl, rfl⟩
/-- A message that has the fields of its type alone. -/
def zeroM (ty : Int) : Msg := ⟨ty, 0, 0, 0, false, false, 0, 0, [], 0, 0, 0, 0, 0, []⟩
def ofM (m : Msg) : Msg :=
  if m.ty = 1 then {zeroM m.ty with life := m.life, has := m.has, frame := m.frame, sums := m.sums}
  else if m.ty = 2 then {zeroM m.ty with life := m.life, w := m.w, h := m.h, seq := m.seq}
  else if m.ty = 4 then {zeroM m.ty with base := m.base, frame := m.frame, full := m.full, body := m.body}
  else if m.ty = 5 then {zeroM m.ty with seq := m.seq, kind := m.kind, ex := m.ex, ey := m.ey, code := m.code}
  else if m.ty = 6 then {zeroM m.ty with seq := m.seq}
  else zeroM m.ty
def rd0 (m : Msg) : RSt := ⟨false, bodyF m, zeroM m.ty⟩
section

variable {m : Msg} (o : okM m)
include o
theorem life_be {s : RSt} {t : List Int} (hb : s.bad = false) (hl : s.l = beW m.life 4 ++ t) : lifeF s = ⟨false, t, {s.m with life := m.life}⟩ := by
  obtain ⟨h1, h2, h3⟩ := rd_be (v := m.life) (k := 4) (t := t) (by have := o.life; omega)
  simp [lifeF, RSt.rd, RSt.v, hb, hl, h1, h2, h3]
theorem frame_be {s : RSt} {t : List Int} (hb : s.bad = false) (hl : s.l = beW m.frame 4 ++ t) : frameF s = ⟨false, t, {s.m with frame := m.frame}⟩ := by
  obtain ⟨h1, h2, h3⟩ := rd_be (v := m.frame) (k := 4) (t := t) (by have := o.frame; omega)
  simp [frameF, RSt.rd, RSt.v, hb, hl, h1, h2, h3]
theorem base_be {s : RSt} {t : List Int} (hb : s.bad = false) (hl : s.l = beW m.base 4 ++ t) : baseF s = ⟨false, t, {s.m with base := m.base}⟩ := by
  obtain ⟨h1, h2, h3⟩ := rd_be (v := m.base) (k := 4) (t := t) (by have := o.base; omega)
  simp [baseF, RSt.rd, RSt.v, hb, hl, h1, h2, h3]
theorem seq_be {s : RSt} {t : List Int} (hb : s.bad = false) (hl : s.l = beW m.seq 4 ++ t) : seqF s = ⟨false, t, {s.m with seq := m.seq}⟩ := by
  obtain ⟨h1, h2, h3⟩ := rd_be (v := m.seq) (k := 4) (t := t) (by have := o.seq; omega)
  simp [seqF, RSt.rd, RSt.v, hb, hl, h1, h2, h3]
theorem has_be {s : RSt} {t : List Int} (hb : s.bad = false) (hl : s.l = beW (b2i m.has) 1 ++ t) : hasF s = ⟨false, t, {s.m with has := m.has}⟩ := by
  obtain ⟨h1, h2, h3⟩ := tr_be (b := m.has) (t := t)
  simp only [hasF, RSt.v, hb, hl, h1, h2, h3]
theorem full_be {s : RSt} {t : List Int} (hb : s.bad = false) (hl : s.l = beW (b2i m.full) 1 ++ t) : fullF s = ⟨false, t, {s.m with full := m.full}⟩ := by
  obtain ⟨h1, h2, h3⟩ := tr_be (b := m.full) (t := t)
  simp only [fullF, RSt.v, hb, hl, h1, h2, h3]
theorem size_be {s : RSt} {t : List Int} (hb : s.bad = false) (hl : s.l = (beW m.w 2 ++ beW m.h 2) ++ t) : sizeF s = ⟨false, t, {s.m with w := m.w, h := m.h}⟩ := by
  obtain ⟨h1, h2, h3⟩ := rd_be (v := m.w) (k := 2) (t := beW m.h 2 ++ t) (by have := o.w; omega)
  obtain ⟨g1, g2, g3⟩ := rd_be (v := m.h) (k := 2) (t := t) (by have := o.h; omega)
  simp [sizeF, RSt.rd, RSt.v, hb, hl, h1, h2, h3, g1, g2, g3]
theorem event_be {s : RSt} {t : List Int} (hb : s.bad = false) (hl : s.l = (beW m.kind 1 ++ beW m.ex 2 ++ beW m.ey 2 ++ beW m.code 4) ++ t) : eventF s = ⟨false, t, {s.m with kind := m.kind, ex := m.ex, ey := m.ey, code := m.code}⟩ := by
  obtain ⟨h1, h2, h3⟩ := rd_be (v := m.kind) (k := 1) (t := beW m.ex 2 ++ (beW m.ey 2 ++ (beW m.code 4 ++ t))) (by have := o.kind; omega)
  obtain ⟨g1, g2, g3⟩ := rd_be (v := m.ex) (k := 2) (t := beW m.ey 2 ++ (beW m.code 4 ++ t)) (by have := o.ex; omega)
  obtain ⟨k1, k2, k3⟩ := rd_be (v := m.ey) (k := 2) (t := beW m.code 4 ++ t) (by have := o.ey; omega)
  obtain ⟨j1, j2, j3⟩ := rd_be (v := m.code) (k := 4) (t := t) (by have := o.code; omega)
  simp [eventF, RSt.rd, RSt.v, hb, hl, h1, h2, h3, g1, g2, g3, k1, k2, k3, j1, j2, j3]
/-- Sums that are laid are read. -/
theorem stR_be : ∀ (S t : List Int) (i : Nat) (S0 : List Int), (∀ x ∈ S, in32 x) → ∀ s : Bool × List Int, stR s i = (false, (S.flatMap fun x => beW x 4) ++ t) → stR s (i + S.length) = (false, t) ∧ sumR s (i + S.length) = sumR s i ++ S
  | [], t, i, S0, _, s, h => by simpa using h
  | x :: S, t, i, S0, hS, s, h => by
    rw [List.flatMap_cons, List.append_assoc] at h
    obtain ⟨h1, h2, h3⟩ := rd_be (v := x) (k := 4) (t := (S.flatMap fun x => beW x 4) ++ t) (by have := hS x (by simp); omega)
    have hn : stR s (i + 1) = (false, (S.flatMap fun x => beW x 4) ++ t) := by simp only [stR, h, h1, h3]
    obtain ⟨g1, g2⟩ := stR_be S t (i + 1) S0 (fun y hy => hS y (by simp [hy])) s hn
    have hv : valR s i = x := by simp only [valR, h, h2]
    rw [List.length_cons, show i + (S.length + 1) = i + 1 + S.length by omega]
    refine ⟨g1, ?_⟩
    rw [g2, sumR, sumR, List.range_succ, List.map_append]
    simp [hv]
theorem sums_be (hl : m.sums.length ≤ 256) : (numS false (sumsB m.sums)).1 = false ∧ rdV 2 false (sumsB m.sums) = m.sums.length ∧ stR (numS false (sumsB m.sums)) m.sums.length = (false, []) ∧ sumR (numS false (sumsB m.sums)) m.sums.length = m.sums := by
  obtain ⟨h1, h2, h3⟩ := rd_be (v := (m.sums.length : Int)) (k := 2) (t := m.sums.flatMap fun x => beW x 4) (by omega)
  have hn : numS false (sumsB m.sums) = (false, m.sums.flatMap fun x => beW x 4) := by
    rw [numS, sumsB, h1, h2, h3, decide_eq_true (by omega)]; rfl
  have := stR_be o m.sums [] 0 [] o.sums (numS false (sumsB m.sums)) (by rw [hn]; simp [stR])
  refine ⟨by rw [hn], h2, ?_, ?_⟩
  · simpa using this.1
  · simpa [sumR] using this.2
end

end Go.Proofs.Ytedlpkibdjccdaa
