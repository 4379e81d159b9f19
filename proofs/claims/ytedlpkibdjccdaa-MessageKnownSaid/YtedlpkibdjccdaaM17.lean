/- Layer 23: message.Read: its answer, plainly; fields, in its heap. -/
import Derived.Test.YtedlpkibdjccdaaM16

set_option linter.unusedVariables false

set_option linter.unusedSimpArgs false

open Go.RowKit

namespace Go.Proofs.Ytedlpkibdjccdaa

set_option maxRecDepth 10000

/-- The number that a head tells. -/
def lenF (b : List Int) : Int := valB ((b.drop 1).take 4) 0
/-- The heap of Read, behind fields. -/
abbrev rdH (R1 : AO) (m : Msg) (b : List Int) (c : Nat) (E : AH) : AH :=
  [.one false 0 (.ints .u8 b c), R1, .one true 0 (.cells (pgL .ff .ff .ns .ff .ff .ns .ns m))] ++ E
section

variable {R1 : AO} {b : List Int} {c : Nat} {m : Msg} {K Kp : AV → AH → Prop}

theorem fieldsR_at1 (e : m.ty = 1) (h : K (.sl 4 0 0 4 4) (rdH R1 m b c [.gone, .one true 0 (.cells [.fn (.func 28) [.ptr 2 0 0] [], .fn (.func 29) [.ptr 2 0 0] [], .fn (.func 30) [.ptr 2 0 0] [], .fn (.func 31) [.ptr 2 0 0] []]), .gone, .gone, .gone, .gone, .gone])) :
    CallA Try.prog 19 [.ptr 2 0 0] (rdH R1 m b c []) K Kp := by
  refine CallA.lift [.own 2, .win 0 0 0] (fieldsR1 (a0 := .ff) (a1 := .ff) (a2 := .ns) (R := [.int .u32 m.life, .int .u32 m.frame, .int .u32 m.base, .ff, .ff, .int .u16 m.w, .int .u16 m.h, .ns, .int .u32 m.seq, .int .u8 m.kind, .int .u16 m.ex, .int .u16 m.ey, .int .u32 m.code, .ns]) (X := b) (cX := c) (K := fun r M' => r = .sl 3 0 0 4 4 ∧ M' = [.one true 0 (.cells (pgL .ff .ff .ns .ff .ff .ns .ns m)), .one false 0 (.ints .u8 b c)] ++ [.gone, .one true 0 (.cells [mth 28, mth 29, mth 30, mth 31]), .gone, .gone, .gone, .gone, .gone]) (Kp := fun _ _ => False) e rfl rfl rfl rfl ⟨rfl, rfl⟩) rfl rfl ⟨⟨rfl, rfl⟩, ⟨_, _, _, rfl, rfl, winI0⟩, trivial⟩ ⟨rfl, trivial, trivial⟩ ?_ (fun _ _ h => h.elim)
  rintro r M' ⟨rfl, rfl⟩
  exact ⟨⟨rfl, rfl, rfl⟩, h⟩
theorem fieldsR_at2 (e : m.ty = 2) (h : K (.sl 5 0 0 3 3) (rdH R1 m b c [.gone, .gone, .one true 0 (.cells [.fn (.func 28) [.ptr 2 0 0] [], .fn (.func 32) [.ptr 2 0 0] [], .fn (.func 33) [.ptr 2 0 0] []]), .gone, .gone, .gone, .gone])) :
    CallA Try.prog 19 [.ptr 2 0 0] (rdH R1 m b c []) K Kp := by
  refine CallA.lift [.own 2, .win 0 0 0] (fieldsR2 (a0 := .ff) (a1 := .ff) (a2 := .ns) (R := [.int .u32 m.life, .int .u32 m.frame, .int .u32 m.base, .ff, .ff, .int .u16 m.w, .int .u16 m.h, .ns, .int .u32 m.seq, .int .u8 m.kind, .int .u16 m.ex, .int .u16 m.ey, .int .u32 m.code, .ns]) (X := b) (cX := c) (K := fun r M' => r = .sl 4 0 0 3 3 ∧ M' = [.one true 0 (.cells (pgL .ff .ff .ns .ff .ff .ns .ns m)), .one false 0 (.ints .u8 b c)] ++ [.gone, .gone, .one true 0 (.cells [mth 28, mth 32, mth 33]), .gone, .gone, .gone, .gone]) (Kp := fun _ _ => False) e rfl rfl rfl rfl ⟨rfl, rfl⟩) rfl rfl ⟨⟨rfl, rfl⟩, ⟨_, _, _, rfl, rfl, winI0⟩, trivial⟩ ⟨rfl, trivial, trivial⟩ ?_ (fun _ _ h => h.elim)
  rintro r M' ⟨rfl, rfl⟩
  exact ⟨⟨rfl, rfl, rfl⟩, h⟩
theorem fieldsR_at3 (e : m.ty = 3) (h : K (.sl 6 0 0 0 0) (rdH R1 m b c [.gone, .gone, .gone, .one true 0 (.cells []), .gone, .gone, .gone])) :
    CallA Try.prog 19 [.ptr 2 0 0] (rdH R1 m b c []) K Kp := by
  refine CallA.lift [.own 2, .win 0 0 0] (fieldsR3 (a0 := .ff) (a1 := .ff) (a2 := .ns) (R := [.int .u32 m.life, .int .u32 m.frame, .int .u32 m.base, .ff, .ff, .int .u16 m.w, .int .u16 m.h, .ns, .int .u32 m.seq, .int .u8 m.kind, .int .u16 m.ex, .int .u16 m.ey, .int .u32 m.code, .ns]) (X := b) (cX := c) (K := fun r M' => r = .sl 5 0 0 0 0 ∧ M' = [.one true 0 (.cells (pgL .ff .ff .ns .ff .ff .ns .ns m)), .one false 0 (.ints .u8 b c)] ++ [.gone, .gone, .gone, .one true 0 (.cells []), .gone, .gone, .gone]) (Kp := fun _ _ => False) e rfl rfl rfl rfl ⟨rfl, rfl⟩) rfl rfl ⟨⟨rfl, rfl⟩, ⟨_, _, _, rfl, rfl, winI0⟩, trivial⟩ ⟨rfl, trivial, trivial⟩ ?_ (fun _ _ h => h.elim)
  rintro r M' ⟨rfl, rfl⟩
  exact ⟨⟨rfl, rfl, rfl⟩, h⟩
theorem fieldsR_at4 (e : m.ty = 4) (h : K (.sl 7 0 0 4 4) (rdH R1 m b c [.gone, .gone, .gone, .gone, .one true 0 (.cells [.fn (.func 34) [.ptr 2 0 0] [], .fn (.func 30) [.ptr 2 0 0] [], .fn (.func 35) [.ptr 2 0 0] [], .fn (.func 36) [.ptr 2 0 0] []]), .gone, .gone])) :
    CallA Try.prog 19 [.ptr 2 0 0] (rdH R1 m b c []) K Kp := by
  refine CallA.lift [.own 2, .win 0 0 0] (fieldsR4 (a0 := .ff) (a1 := .ff) (a2 := .ns) (R := [.int .u32 m.life, .int .u32 m.frame, .int .u32 m.base, .ff, .ff, .int .u16 m.w, .int .u16 m.h, .ns, .int .u32 m.seq, .int .u8 m.kind, .int .u16 m.ex, .int .u16 m.ey, .int .u32 m.code, .ns]) (X := b) (cX := c) (K := fun r M' => r = .sl 6 0 0 4 4 ∧ M' = [.one true 0 (.cells (pgL .ff .ff .ns .ff .ff .ns .ns m)), .one false 0 (.ints .u8 b c)] ++ [.gone, .gone, .gone, .gone, .one true 0 (.cells [mth 34, mth 30, mth 35, mth 36]), .gone, .gone]) (Kp := fun _ _ => False) e rfl rfl rfl rfl ⟨rfl, rfl⟩) rfl rfl ⟨⟨rfl, rfl⟩, ⟨_, _, _, rfl, rfl, winI0⟩, trivial⟩ ⟨rfl, trivial, trivial⟩ ?_ (fun _ _ h => h.elim)
  rintro r M' ⟨rfl, rfl⟩
  exact ⟨⟨rfl, rfl, rfl⟩, h⟩
theorem fieldsR_at5 (e : m.ty = 5) (h : K (.sl 8 0 0 2 2) (rdH R1 m b c [.gone, .gone, .gone, .gone, .gone, .one true 0 (.cells [.fn (.func 33) [.ptr 2 0 0] [], .fn (.func 37) [.ptr 2 0 0] []]), .gone])) :
    CallA Try.prog 19 [.ptr 2 0 0] (rdH R1 m b c []) K Kp := by
  refine CallA.lift [.own 2, .win 0 0 0] (fieldsR5 (a0 := .ff) (a1 := .ff) (a2 := .ns) (R := [.int .u32 m.life, .int .u32 m.frame, .int .u32 m.base, .ff, .ff, .int .u16 m.w, .int .u16 m.h, .ns, .int .u32 m.seq, .int .u8 m.kind, .int .u16 m.ex, .int .u16 m.ey, .int .u32 m.code, .ns]) (X := b) (cX := c) (K := fun r M' => r = .sl 7 0 0 2 2 ∧ M' = [.one true 0 (.cells (pgL .ff .ff .ns .ff .ff .ns .ns m)), .one false 0 (.ints .u8 b c)] ++ [.gone, .gone, .gone, .gone, .gone, .one true 0 (.cells [mth 33, mth 37]), .gone]) (Kp := fun _ _ => False) e rfl rfl rfl rfl ⟨rfl, rfl⟩) rfl rfl ⟨⟨rfl, rfl⟩, ⟨_, _, _, rfl, rfl, winI0⟩, trivial⟩ ⟨rfl, trivial, trivial⟩ ?_ (fun _ _ h => h.elim)
  rintro r M' ⟨rfl, rfl⟩
  exact ⟨⟨rfl, rfl, rfl⟩, h⟩
theorem fieldsR_at6 (e : m.ty = 6) (h : K (.sl 9 0 0 1 1) (rdH R1 m b c [.gone, .gone, .gone, .gone, .gone, .gone, .one true 0 (.cells [.fn (.func 33) [.ptr 2 0 0] []])])) :
    CallA Try.prog 19 [.ptr 2 0 0] (rdH R1 m b c []) K Kp := by
  refine CallA.lift [.own 2, .win 0 0 0] (fieldsR6 (a0 := .ff) (a1 := .ff) (a2 := .ns) (R := [.int .u32 m.life, .int .u32 m.frame, .int .u32 m.base, .ff, .ff, .int .u16 m.w, .int .u16 m.h, .ns, .int .u32 m.seq, .int .u8 m.kind, .int .u16 m.ex, .int .u16 m.ey, .int .u32 m.code, .ns]) (X := b) (cX := c) (K := fun r M' => r = .sl 8 0 0 1 1 ∧ M' = [.one true 0 (.cells (pgL .ff .ff .ns .ff .ff .ns .ns m)), .one false 0 (.ints .u8 b c)] ++ [.gone, .gone, .gone, .gone, .gone, .gone, .one true 0 (.cells [mth 33])]) (Kp := fun _ _ => False) e rfl rfl rfl rfl ⟨rfl, rfl⟩) rfl rfl ⟨⟨rfl, rfl⟩, ⟨_, _, _, rfl, rfl, winI0⟩, trivial⟩ ⟨rfl, trivial, trivial⟩ ?_ (fun _ _ h => h.elim)
  rintro r M' ⟨rfl, rfl⟩
  exact ⟨⟨rfl, rfl, rfl⟩, h⟩
theorem fieldsR_at0 (ht : in8 m.ty) (hn : ¬ (1 ≤ m.ty ∧ m.ty ≤ 6)) (h : K .ns (rdH R1 m b c g7)) :
    CallA Try.prog 19 [.ptr 2 0 0] (rdH R1 m b c []) K Kp := by
  refine CallA.lift [.own 2, .win 0 0 0] (fieldsR_call (a0 := .ff) (a1 := .ff) (a2 := .ns) (R := [.int .u32 m.life, .int .u32 m.frame, .int .u32 m.base, .ff, .ff, .int .u16 m.w, .int .u16 m.h, .ns, .int .u32 m.seq, .int .u8 m.kind, .int .u16 m.ex, .int .u16 m.ey, .int .u32 m.code, .ns]) (X := b) (cX := c) (K := fun r M' => r = .ns ∧ M' = [.one true 0 (.cells (pgL .ff .ff .ns .ff .ff .ns .ns m)), .one false 0 (.ints .u8 b c)] ++ g7) (Kp := fun _ _ => False) ht rfl rfl rfl rfl (fun _ => ⟨rfl, rfl⟩) (fun hx => absurd hx hn)) rfl rfl ⟨⟨rfl, rfl⟩, ⟨_, _, _, rfl, rfl, winI0⟩, trivial⟩ ⟨rfl, trivial, trivial⟩ ?_ (fun _ _ h => h.elim)
  rintro r M' ⟨rfl, rfl⟩
  exact ⟨⟨rfl, rfl, rfl⟩, h⟩


/-- Fields of a type that there is: all but their slice is forgotten. -/
theorem fieldsR_atU (hR : R1.okOwn = true) (hw : ∀ i, R1.w0 [.sha 0, .own 1, .own 2, .own i]) (hr : ∀ i, R1.rn [.sha 0, .own 1, .own 2, .own i] 10 = R1) (ht : 1 ≤ m.ty ∧ m.ty ≤ 6) (h : ∀ n fs, K (.sl 3 0 0 n n) (rdH R1 m b c [.one true 0 (.cells fs)])) :
    CallA Try.prog 19 [.ptr 2 0 0] (rdH R1 m b c []) K Kp := by
  refine CallA.post_pick ?_
  obtain e | e | e | e | e | e : m.ty = 1 ∨ m.ty = 2 ∨ m.ty = 3 ∨ m.ty = 4 ∨ m.ty = 5 ∨ m.ty = 6 := by omega
  · exact fieldsR_at1 e ⟨[.sha 0, .own 1, .own 2, .own 4], .sl 3 0 0 4 4, rdH R1 m b c [.one true 0 (.cells [.fn (.func 28) [.ptr 2 0 0] [], .fn (.func 29) [.ptr 2 0 0] [], .fn (.func 30) [.ptr 2 0 0] [], .fn (.func 31) [.ptr 2 0 0] []])], ⟨⟨⟨rfl, _, rfl, rfl⟩, ⟨congrArg some (hr 4).symm, hR⟩, ⟨rfl, rfl⟩, ⟨rfl, rfl⟩, trivial⟩, rfl, ⟨trivial, hw 4, rfl, rfl, trivial⟩, rfl, fun i hi => by match i, hi with | 0, _ => exact .inr rfl | 1, _ => exact .inl rfl | 2, _ => exact .inl rfl⟩, h 4 [.fn (.func 28) [.ptr 2 0 0] [], .fn (.func 29) [.ptr 2 0 0] [], .fn (.func 30) [.ptr 2 0 0] [], .fn (.func 31) [.ptr 2 0 0] []]⟩
  · exact fieldsR_at2 e ⟨[.sha 0, .own 1, .own 2, .own 5], .sl 3 0 0 3 3, rdH R1 m b c [.one true 0 (.cells [.fn (.func 28) [.ptr 2 0 0] [], .fn (.func 32) [.ptr 2 0 0] [], .fn (.func 33) [.ptr 2 0 0] []])], ⟨⟨⟨rfl, _, rfl, rfl⟩, ⟨congrArg some (hr 5).symm, hR⟩, ⟨rfl, rfl⟩, ⟨rfl, rfl⟩, trivial⟩, rfl, ⟨trivial, hw 5, rfl, rfl, trivial⟩, rfl, fun i hi => by match i, hi with | 0, _ => exact .inr rfl | 1, _ => exact .inl rfl | 2, _ => exact .inl rfl⟩, h 3 [.fn (.func 28) [.ptr 2 0 0] [], .fn (.func 32) [.ptr 2 0 0] [], .fn (.func 33) [.ptr 2 0 0] []]⟩
  · exact fieldsR_at3 e ⟨[.sha 0, .own 1, .own 2, .own 6], .sl 3 0 0 0 0, rdH R1 m b c [.one true 0 (.cells [])], ⟨⟨⟨rfl, _, rfl, rfl⟩, ⟨congrArg some (hr 6).symm, hR⟩, ⟨rfl, rfl⟩, ⟨rfl, rfl⟩, trivial⟩, rfl, ⟨trivial, hw 6, rfl, rfl, trivial⟩, rfl, fun i hi => by match i, hi with | 0, _ => exact .inr rfl | 1, _ => exact .inl rfl | 2, _ => exact .inl rfl⟩, h 0 []⟩
  · exact fieldsR_at4 e ⟨[.sha 0, .own 1, .own 2, .own 7], .sl 3 0 0 4 4, rdH R1 m b c [.one true 0 (.cells [.fn (.func 34) [.ptr 2 0 0] [], .fn (.func 30) [.ptr 2 0 0] [], .fn (.func 35) [.ptr 2 0 0] [], .fn (.func 36) [.ptr 2 0 0] []])], ⟨⟨⟨rfl, _, rfl, rfl⟩, ⟨congrArg some (hr 7).symm, hR⟩, ⟨rfl, rfl⟩, ⟨rfl, rfl⟩, trivial⟩, rfl, ⟨trivial, hw 7, rfl, rfl, trivial⟩, rfl, fun i hi => by match i, hi with | 0, _ => exact .inr rfl | 1, _ => exact .inl rfl | 2, _ => exact .inl rfl⟩, h 4 [.fn (.func 34) [.ptr 2 0 0] [], .fn (.func 30) [.ptr 2 0 0] [], .fn (.func 35) [.ptr 2 0 0] [], .fn (.func 36) [.ptr 2 0 0] []]⟩
  · exact fieldsR_at5 e ⟨[.sha 0, .own 1, .own 2, .own 8], .sl 3 0 0 2 2, rdH R1 m b c [.one true 0 (.cells [.fn (.func 33) [.ptr 2 0 0] [], .fn (.func 37) [.ptr 2 0 0] []])], ⟨⟨⟨rfl, _, rfl, rfl⟩, ⟨congrArg some (hr 8).symm, hR⟩, ⟨rfl, rfl⟩, ⟨rfl, rfl⟩, trivial⟩, rfl, ⟨trivial, hw 8, rfl, rfl, trivial⟩, rfl, fun i hi => by match i, hi with | 0, _ => exact .inr rfl | 1, _ => exact .inl rfl | 2, _ => exact .inl rfl⟩, h 2 [.fn (.func 33) [.ptr 2 0 0] [], .fn (.func 37) [.ptr 2 0 0] []]⟩
  · exact fieldsR_at6 e ⟨[.sha 0, .own 1, .own 2, .own 9], .sl 3 0 0 1 1, rdH R1 m b c [.one true 0 (.cells [.fn (.func 33) [.ptr 2 0 0] []])], ⟨⟨⟨rfl, _, rfl, rfl⟩, ⟨congrArg some (hr 9).symm, hR⟩, ⟨rfl, rfl⟩, ⟨rfl, rfl⟩, trivial⟩, rfl, ⟨trivial, hw 9, rfl, rfl, trivial⟩, rfl, fun i hi => by match i, hi with | 0, _ => exact .inr rfl | 1, _ => exact .inl rfl | 2, _ => exact .inl rfl⟩, h 1 [.fn (.func 33) [.ptr 2 0 0] []]⟩

/-- Where Read's page stands behind all its fields. -/
def rdS (b : List Int) : RSt := readF ⟨false, (b.drop 5).take (lenF b).toNat, zeroM (b.getD 0 0)⟩
/-- The error that Read tells. -/
def rdE (b : List Int) : Int :=
  if b.length = 0 then 0 else if ¬ (1 ≤ b.getD 0 0 ∧ b.getD 0 0 ≤ 6) then 230 else if b.length < 5 then 0 else if 524297 < lenF b then 2 else if (b.length : Int) - 5 < lenF b then 0
  else if (rdS b).bad = true ∨ (rdS b).l ≠ [] then 231 else 0
/-- Is a message read? -/
abbrev rdOk (b : List Int) : Prop := ¬ b.length = 0 ∧ (1 ≤ b.getD 0 0 ∧ b.getD 0 0 ≤ 6) ∧ ¬ b.length < 5 ∧ ¬ 524297 < lenF b ∧ ¬ (b.length : Int) - 5 < lenF b ∧ (rdS b).bad = false ∧ (rdS b).l = []

def rdM (b : List Int) : Msg := if rdOk b then (rdS b).m else zeroM 0
def rdN (b : List Int) : Int := if rdOk b then 5 + lenF b else 0
theorem rd_no {b : List Int} (h : ¬ rdOk b) : rdM b = zeroM 0 ∧ rdN b = 0 := ⟨by rw [rdM, if_neg h], by rw [rdN, if_neg h]⟩
theorem rd_ok {b : List Int} (h : rdOk b) : rdM b = (rdS b).m ∧ rdN b = 5 + lenF b ∧ rdE b = 0 := by
  refine ⟨by rw [rdM, if_pos h], by rw [rdN, if_pos h], ?_⟩
  obtain ⟨h1, h2, h3, h4, h5, h6, h7⟩ := h
  rw [rdE, if_neg h1, if_neg (not_not_intro h2), if_neg h3, if_neg h4, if_neg h5, if_neg (by rw [h6, h7]; simp)]

/-- No message: what Read answers then. -/
abbrev noM (e : Int) : AV := .tup [.agg (msL .ff .ff .ns .ns (zeroM 0)), .int .i64 0, .int .i64 e]

/-- What Read answers. -/
abbrev rdV3 (gS cS gD cD : Nat) (m : Msg) (n e : Int) : AV := .tup [.agg (msL (.bo m.has) (.bo m.full) (.sl 1 gS 0 m.sums.length cS) (.sl 2 gD 0 m.body.length cD) m), .int .i64 n, .int .i64 e]

abbrev rdH3 (b : List Int) (c gS cS gD cD : Nat) (m : Msg) : AH := [.one false 0 (.ints .u8 b c), .one true gS (.ints .u32 m.sums cS), .one true gD (.ints .u8 m.body cD)]

theorem apart3 {i j : Nat} (h0 : i ≠ 0) (h1 : j ≠ 0) (h2 : i ≠ j) : apartT [.sha 0, .own i, .own j] = true := by
  simp [apartT, TE.isOwn, TE.i, beqF h0.symm, beqF h1.symm, beqF h2]
theorem noM_end {e : Int} {E : AH} (h : K (rdV3 0 0 0 0 (zeroM 0) 0 e) (rdH3 b c 0 0 0 0 (zeroM 0))) :
    ∃ r' M'', Vw (.one false 0 (.ints .u8 b c) :: E) M'' [noM e] [r'] ∧ ∃ t r'' N, PickA 1 r' M'' t r'' N ∧ K r'' N := by
  have v1 := Vw.canon (M := .one false 0 (.ints .u8 b c) :: E) (x := .ints .u32 [] 0) (l := [noM e]) (l' := [.tup [.agg (msL (.bo false) (.bo false) (.sl (E.length + 1) 0 0 0 0) .ns (zeroM 0)), .int .i64 0, .int .i64 e]]) ⟨rfl, rfl⟩
    (cnL_cons (cnV_tup (cnL_cons (cnV_agg (msL_cn (cnV_isB (b := false) (.inr (.inl ⟨rfl, rfl⟩))) (cnV_isB (b := false) (.inr (.inl ⟨rfl, rfl⟩))) (cnV_nsl _) (cnV_refl _ _))) (cnL_refl _ _))) (cnL_nil _))
  have v2 := Vw.canon (M := .one false 0 (.ints .u8 b c) :: E ++ [.one true 0 (.ints .u32 [] 0)]) (x := .ints .u8 [] 0) (l := [.tup [.agg (msL (.bo false) (.bo false) (.sl (E.length + 1) 0 0 0 0) .ns (zeroM 0)), .int .i64 0, .int .i64 e]]) (l' := [.tup [.agg (msL (.bo false) (.bo false) (.sl (E.length + 1) 0 0 0 0) (.sl (E.length + 2) 0 0 0 0) (zeroM 0)), .int .i64 0, .int .i64 e]]) ⟨rfl, rfl⟩
    (cnL_cons (cnV_tup (cnL_cons (cnV_agg (msL_cn (cnV_refl _ _) (cnV_refl _ _) (cnV_refl _ _) (by simpa using cnV_nsl (E.length + 2)))) (cnL_refl _ _))) (cnL_nil _))
  refine ⟨_, _, v1.trans v2, [.sha 0, .own (E.length + 1), .own (E.length + 2)], _, _, ⟨?_, ?_, ?_, ?_, fun i hi => ?_⟩, h⟩
  · refine ⟨⟨rfl, .one false 0 (.ints .u8 b c), rfl, rfl⟩, ⟨?_, rfl⟩, ⟨?_, rfl⟩, trivial⟩
    · simp [AO.rn, Cont.rn, zeroM]
    · simp [AO.rn, Cont.rn, zeroM]
  · rw [apart3 (by omega) (by omega) (by omega)]; rfl
  · exact ⟨trivial, trivial, trivial, trivial⟩
  · rfl
  · obtain rfl : i = 0 := by omega
    exact .inr rfl
theorem okM_end {o0 o1 o2 o3 o6 : AO} {gS cS gD cD : Nat} {m : Msg} {n e : Int} (h : K (rdV3 gS cS gD cD m n e) (rdH3 b c gS cS gD cD m)) :
    ∃ t r'' N, PickA 1 (.tup [.agg (msL (.bo m.has) (.bo m.full) (.sl 5 gS 0 m.sums.length cS) (.sl 6 gD 0 m.body.length cD) m), .int .i64 n, .int .i64 e]) (.one false 0 (.ints .u8 b c) :: o0 :: o1 :: o2 :: o3 :: .one true gS (.ints .u32 m.sums cS) :: .one true gD (.ints .u8 m.body cD) :: o6 :: []) t r'' N ∧ K r'' N := by
  refine ⟨[.sha 0, .own 5, .own 6], rdV3 gS cS gD cD m n e, rdH3 b c gS cS gD cD m, ⟨?_, rfl, ⟨trivial, trivial, trivial, trivial⟩, rfl, fun i hi => ?_⟩, h⟩
  · exact ⟨⟨rfl, .one false 0 (.ints .u8 b c), rfl, rfl⟩, ⟨rfl, rfl⟩, ⟨rfl, rfl⟩, trivial⟩
  · obtain rfl : i = 0 := by omega
    exact .inr rfl
end

end Go.Proofs.Ytedlpkibdjccdaa
