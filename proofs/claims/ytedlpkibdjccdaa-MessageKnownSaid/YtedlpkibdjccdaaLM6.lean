/- Layer 23: MessageKnown (written by wip/lm6.py). -/
import Derived.Test.YtedlpkibdjccdaaLM0

set_option linter.unusedVariables false

set_option linter.unusedSimpArgs false

open Go.RowKit

namespace Go.Proofs.Ytedlpkibdjccdaa

set_option maxRecDepth 10000

abbrev kn0 : Msg := ⟨1, 1, 2, 0, true, false, 0, 0, [3, 4], 0, 0, 0, 0, 0, []⟩

abbrev kn1 : Msg := ⟨2, 1, 0, 0, false, false, 2, 3, [], 4, 0, 0, 0, 0, []⟩

abbrev kn2 : Msg := ⟨3, 0, 0, 0, false, false, 0, 0, [], 0, 0, 0, 0, 0, []⟩

abbrev kn3 : Msg := ⟨4, 0, 2, 1, false, true, 0, 0, [], 0, 0, 0, 0, 0, [97, 98]⟩

abbrev kn4 : Msg := ⟨5, 0, 0, 0, false, false, 0, 0, [], 1, 2, 3, 4, 5, []⟩

abbrev kn5 : Msg := ⟨6, 0, 0, 0, false, false, 0, 0, [], 7, 0, 0, 0, 0, []⟩

/-- Write, whatever form bools and nil slices have. -/
theorem mwN_call {m : Msg} {hv fv : AV} {K Kp : AV → AH → Prop} (o : okM m) (k3 : isB hv m.has) (k4 : isB fv m.full) (hs : m.sums = []) (hb : m.body = []) (h : ∀ g c, (wrB m).length ≤ c → K (.tup [.sl 0 g 0 (wrB m).length c, .int .i64 (wrE m)]) [.one true g (.ints .u8 (wrB m) c)]) :
    CallA Try.prog 11 [.agg (msL hv fv .ns .ns m)] [] K Kp := by
  refine CallA.post_pick ?_
  refine CallA.view ((Vw.canon (M := []) (x := .ints .u32 [] 0) (l' := [.agg (msL (.bo m.has) (.bo m.full) (.sl 0 0 0 m.sums.length 0) .ns m)]) ⟨rfl, rfl⟩
      (cnL_cons (cnV_agg (msL_cn (cnV_isB k3) (cnV_isB k4) (by rw [hs]; exact cnV_nsl _) (cnV_refl _ _))) (cnL_nil _))).trans (Vw.canon (x := .ints .u8 [] 0) (l' := [mV m 0 0 0 1 0 0]) ⟨rfl, rfl⟩
      (cnL_cons (cnV_agg (msL_cn (cnV_refl _ _) (cnV_refl _ _) (cnV_refl _ _) (by rw [hb]; exact cnV_nsl _))) (cnL_nil _)))) ?_
  refine mwrite_at (m := m) (by rw [hs]; rfl) (by rw [hb]; rfl) o (by rw [hs]; decide) (by rw [hb]; decide) (by rw [hs]; decide) (by rw [hb]; decide) (fun g c hc => ?_)
  exact ⟨[.own 2], .tup [.sl 0 g 0 (wrB m).length c, .int .i64 (wrE m)], [.one true g (.ints .u8 (wrB m) c)], ⟨⟨⟨rfl, rfl⟩, trivial⟩, rfl, ⟨trivial, trivial⟩, rfl, fun i hi => absurd hi (Nat.not_lt_zero _)⟩, h g c hc⟩
theorem mwN_at {m : Msg} {M : AH} {hv fv : AV} {K Kp : AV → AH → Prop} (o : okM m) (k3 : isB hv m.has) (k4 : isB fv m.full) (hs : m.sums = []) (hb : m.body = []) (h : ∀ g c, (wrB m).length ≤ c → K (.tup [.sl M.length g 0 (wrB m).length c, .int .i64 (wrE m)]) (M ++ [.one true g (.ints .u8 (wrB m) c)])) :
    CallA Try.prog 11 [.agg (msL hv fv .ns .ns m)] M K Kp := by
  refine CallA.lift [] (mwN_call (Kp := fun _ _ => False) (K := fun r M' => ∃ g c, (wrB m).length ≤ c ∧ r = .tup [.sl 0 g 0 (wrB m).length c, .int .i64 (wrE m)] ∧ M' = [.one true g (.ints .u8 (wrB m) c)]) o k3 k4 hs hb (fun g c hc => ⟨g, c, hc, rfl, rfl⟩)) ?_ ?_ trivial trivial ?_ (fun _ _ h => h.elim)
  · simp [AV.rnl, AV.rn, isB_rn k3, isB_rn k4]
  · simp [apartT, AV.w0l, AV.w0, isB_w0 k3, isB_w0 k4]
  · rintro r M' ⟨g, c, hc, rfl, rfl⟩
    exact ⟨rfl, h g c hc⟩
theorem mwS_call {m : Msg} {hv fv : AV} {n : Nat} {K Kp : AV → AH → Prop} (o : okM m) (k3 : isB hv m.has) (k4 : isB fv m.full) (hz : m.body = []) (hl : m.sums.length ≤ 1000000000) (hn : m.sums.length ≤ n) (h : ∀ g c, (wrB m).length ≤ c → K (.tup [.sl 1 g 0 (wrB m).length c, .int .i64 (wrE m)]) [.one false 0 (.ints .u32 m.sums n), .one true g (.ints .u8 (wrB m) c)]) :
    CallA Try.prog 11 [.agg (msL hv fv (.sl 0 0 0 m.sums.length n) (.ns) m)] [.one false 0 (.ints .u32 m.sums n)] K Kp := by
  refine CallA.post_pick ?_
  refine CallA.view (Vw.canon (M := [.one false 0 (.ints .u32 m.sums n)]) (x := .ints .u8 [] 0) (l' := [mV m 0 0 n 1 0 0]) ⟨rfl, rfl⟩
      (cnL_cons (cnV_agg (msL_cn (cnV_isB k3) (cnV_isB k4) (cnV_refl _ _) (by rw [hz]; exact cnV_nsl _))) (cnL_nil _))) ?_
  refine mwrite_at (m := m) (i := 0) (gi := 0) (cS := n) (j := 1) (gj := 0) (cB := 0) rfl (by rw [hz]; rfl) o hl (by rw [hz]; decide) hn (by rw [hz]; decide) (fun g c hc => ?_)
  refine ⟨[.sha 0, .own 2], .tup [.sl 1 g 0 (wrB m).length c, .int .i64 (wrE m)], [.one false 0 (.ints .u32 m.sums n), .one true g (.ints .u8 (wrB m) c)], ⟨⟨⟨rfl, .one false 0 (.ints .u32 m.sums n), rfl, rfl⟩, ⟨rfl, rfl⟩, trivial⟩, rfl, ⟨trivial, trivial, trivial⟩, rfl, fun i hi => ?_⟩, h g c hc⟩
  obtain rfl : i = 0 := by simp at hi; exact hi
  exact .inr rfl
theorem mwS_at {m : Msg} {M : AH} {hv fv : AV} {i gi n : Nat} {o1 : Bool} {K Kp : AV → AH → Prop} (hi : slot M i gi = some (o1, .ints .u32 m.sums n)) (o : okM m) (k3 : isB hv m.has) (k4 : isB fv m.full) (hz : m.body = []) (hl : m.sums.length ≤ 1000000000) (hn : m.sums.length ≤ n) (h : ∀ g c, (wrB m).length ≤ c → K (.tup [.sl M.length g 0 (wrB m).length c, .int .i64 (wrE m)]) (M ++ [.one true g (.ints .u8 (wrB m) c)])) :
    CallA Try.prog 11 [.agg (msL hv fv (.sl i gi 0 m.sums.length n) (.ns) m)] M K Kp := by
  refine CallA.lift [.win i gi 0] (mwS_call (n := n) (Kp := fun _ _ => False) (K := fun r M' => ∃ g c, (wrB m).length ≤ c ∧ r = .tup [.sl 1 g 0 (wrB m).length c, .int .i64 (wrE m)] ∧ M' = [.one false 0 (.ints .u32 m.sums n), .one true g (.ints .u8 (wrB m) c)]) o k3 k4 hz hl hn (fun g c hc => ⟨g, c, hc, rfl, rfl⟩)) ?_ ?_ ⟨⟨_, _, _, rfl, hi, winI0⟩, trivial⟩ ⟨trivial, trivial⟩ ?_ (fun _ _ h => h.elim)
  · simp [AV.rnl, AV.rn, rnI, rnG, rnF, TE.i, isB_rn k3, isB_rn k4]
  · simp [apartT, AV.w0l, AV.w0, w0T, isB_w0 k3, isB_w0 k4]
  · rintro r M' ⟨g, c, hc, rfl, rfl⟩
    exact ⟨⟨rfl, rfl⟩, h g c hc⟩
theorem mwB_call {m : Msg} {hv fv : AV} {n : Nat} {K Kp : AV → AH → Prop} (o : okM m) (k3 : isB hv m.has) (k4 : isB fv m.full) (hz : m.sums = []) (hl : m.body.length ≤ 1000000000) (hn : m.body.length ≤ n) (h : ∀ g c, (wrB m).length ≤ c → K (.tup [.sl 1 g 0 (wrB m).length c, .int .i64 (wrE m)]) [.one false 0 (.ints .u8 m.body n), .one true g (.ints .u8 (wrB m) c)]) :
    CallA Try.prog 11 [.agg (msL hv fv (.ns) (.sl 0 0 0 m.body.length n) m)] [.one false 0 (.ints .u8 m.body n)] K Kp := by
  refine CallA.post_pick ?_
  refine CallA.view (Vw.canon (M := [.one false 0 (.ints .u8 m.body n)]) (x := .ints .u32 [] 0) (l' := [mV m 1 0 0 0 0 n]) ⟨rfl, rfl⟩
      (cnL_cons (cnV_agg (msL_cn (cnV_isB k3) (cnV_isB k4) (by rw [hz]; exact cnV_nsl _) (cnV_refl _ _))) (cnL_nil _))) ?_
  refine mwrite_at (m := m) (i := 1) (gi := 0) (cS := 0) (j := 0) (gj := 0) (cB := n) (by rw [hz]; rfl) rfl o (by rw [hz]; decide) hl (by rw [hz]; decide) hn (fun g c hc => ?_)
  refine ⟨[.sha 0, .own 2], .tup [.sl 1 g 0 (wrB m).length c, .int .i64 (wrE m)], [.one false 0 (.ints .u8 m.body n), .one true g (.ints .u8 (wrB m) c)], ⟨⟨⟨rfl, .one false 0 (.ints .u8 m.body n), rfl, rfl⟩, ⟨rfl, rfl⟩, trivial⟩, rfl, ⟨trivial, trivial, trivial⟩, rfl, fun i hi => ?_⟩, h g c hc⟩
  obtain rfl : i = 0 := by simp at hi; exact hi
  exact .inr rfl
theorem mwB_at {m : Msg} {M : AH} {hv fv : AV} {i gi n : Nat} {o1 : Bool} {K Kp : AV → AH → Prop} (hi : slot M i gi = some (o1, .ints .u8 m.body n)) (o : okM m) (k3 : isB hv m.has) (k4 : isB fv m.full) (hz : m.sums = []) (hl : m.body.length ≤ 1000000000) (hn : m.body.length ≤ n) (h : ∀ g c, (wrB m).length ≤ c → K (.tup [.sl M.length g 0 (wrB m).length c, .int .i64 (wrE m)]) (M ++ [.one true g (.ints .u8 (wrB m) c)])) :
    CallA Try.prog 11 [.agg (msL hv fv (.ns) (.sl i gi 0 m.body.length n) m)] M K Kp := by
  refine CallA.lift [.win i gi 0] (mwB_call (n := n) (Kp := fun _ _ => False) (K := fun r M' => ∃ g c, (wrB m).length ≤ c ∧ r = .tup [.sl 1 g 0 (wrB m).length c, .int .i64 (wrE m)] ∧ M' = [.one false 0 (.ints .u8 m.body n), .one true g (.ints .u8 (wrB m) c)]) o k3 k4 hz hl hn (fun g c hc => ⟨g, c, hc, rfl, rfl⟩)) ?_ ?_ ⟨⟨_, _, _, rfl, hi, winI0⟩, trivial⟩ ⟨trivial, trivial⟩ ?_ (fun _ _ h => h.elim)
  · simp [AV.rnl, AV.rn, rnI, rnG, rnF, TE.i, isB_rn k3, isB_rn k4]
  · simp [apartT, AV.w0l, AV.w0, w0T, isB_w0 k3, isB_w0 k4]
  · rintro r M' ⟨g, c, hc, rfl, rfl⟩
    exact ⟨⟨rfl, rfl⟩, h g c hc⟩
theorem notT {x : Bool} (h : x = true) : (!x) = false := by rw [h]; rfl
theorem tab_nb {k : Nat} {l : List (List AV)} (h : ∀ r ∈ l, AV.nbl k r = true) (j : Nat) : AV.nbl k (l.getD j []) = true := by
  rw [List.getD_eq_getElem?_getD]
  cases e : l[j]? with
  | none => rfl
  | some r => exact h r (List.mem_of_getElem? e)
theorem kn0_ok : okM kn0 := ⟨by decide, by decide, by decide, by decide, by decide, by decide, by decide, by decide, by decide, by decide, by decide, by decide, by decide⟩
theorem kn0_wr : wrB kn0 = [1, 0, 0, 0, 19, 0, 0, 0, 1, 1, 0, 0, 0, 2, 0, 2, 0, 0, 0, 3, 0, 0, 0, 4] ∧ wrE kn0 = 0 := by decide
theorem kn1_ok : okM kn1 := ⟨by decide, by decide, by decide, by decide, by decide, by decide, by decide, by decide, by decide, by decide, by decide, by decide, by decide⟩
theorem kn1_wr : wrB kn1 = [2, 0, 0, 0, 12, 0, 0, 0, 1, 0, 2, 0, 3, 0, 0, 0, 4] ∧ wrE kn1 = 0 := by decide
theorem kn2_ok : okM kn2 := ⟨by decide, by decide, by decide, by decide, by decide, by decide, by decide, by decide, by decide, by decide, by decide, by decide, by decide⟩
theorem kn2_wr : wrB kn2 = [3, 0, 0, 0, 0] ∧ wrE kn2 = 0 := by decide
theorem kn3_ok : okM kn3 := ⟨by decide, by decide, by decide, by decide, by decide, by decide, by decide, by decide, by decide, by decide, by decide, by decide, by decide⟩
theorem kn3_wr : wrB kn3 = [4, 0, 0, 0, 11, 0, 0, 0, 1, 0, 0, 0, 2, 1, 97, 98] ∧ wrE kn3 = 0 := by decide
theorem kn4_ok : okM kn4 := ⟨by decide, by decide, by decide, by decide, by decide, by decide, by decide, by decide, by decide, by decide, by decide, by decide, by decide⟩
theorem kn4_wr : wrB kn4 = [5, 0, 0, 0, 13, 0, 0, 0, 1, 2, 0, 3, 0, 4, 0, 0, 0, 5] ∧ wrE kn4 = 0 := by decide
theorem kn5_ok : okM kn5 := ⟨by decide, by decide, by decide, by decide, by decide, by decide, by decide, by decide, by decide, by decide, by decide, by decide, by decide⟩
theorem kn5_wr : wrB kn5 = [6, 0, 0, 0, 4, 0, 0, 0, 7] ∧ wrE kn5 = 0 := by decide
theorem bad0 : rdN [7] = 0 ∧ rdE [7] = 230 := by decide +kernel
theorem bad1 : rdN [0] = 0 ∧ rdE [0] = 230 := by decide +kernel
theorem bad2 : rdN [3, 0, 0, 0, 1, 0] = 0 ∧ rdE [3, 0, 0, 0, 1, 0] = 231 := by decide +kernel
theorem bad3 : rdN [3, 255] = 0 ∧ rdE [3, 255] = 0 := by decide +kernel
theorem bad4 : rdN [6, 0, 0, 0, 4, 0, 0] = 0 ∧ rdE [6, 0, 0, 0, 4, 0, 0] = 0 := by decide +kernel
theorem bad5 : rdN ([] : List Int) = 0 ∧ rdE ([] : List Int) = 0 := by decide +kernel
theorem bad6 : rdN [4, 0, 8, 0, 10] = 0 ∧ rdE [4, 0, 8, 0, 10] = 2 := by decide +kernel
theorem bad7 : rdN [4, 0, 8, 0, 9] = 0 ∧ rdE [4, 0, 8, 0, 9] = 0 := by decide +kernel
theorem bad8 : rdN [4, 0, 0, 0, 8, 0, 0, 0, 1, 0, 0, 0, 2] = 0 ∧ rdE [4, 0, 0, 0, 8, 0, 0, 0, 1, 0, 0, 0, 2] = 231 := by decide +kernel
theorem bad9 : rdN [4, 0, 0, 0, 9, 0, 0, 0, 1, 0, 0, 0, 2, 2] = 0 ∧ rdE [4, 0, 0, 0, 9, 0, 0, 0, 1, 0, 0, 0, 2, 2] = 231 := by decide +kernel
theorem bad10 : rdN [1, 0, 0, 0, 11, 0, 0, 0, 1, 2, 0, 0, 0, 2, 0, 0] = 0 ∧ rdE [1, 0, 0, 0, 11, 0, 0, 0, 1, 2, 0, 0, 0, 2, 0, 0] = 231 := by decide +kernel
theorem bad11 : rdN [1, 0, 0, 0, 11, 0, 0, 0, 1, 1, 0, 0, 0, 2, 0, 1] = 0 ∧ rdE [1, 0, 0, 0, 11, 0, 0, 0, 1, 1, 0, 0, 0, 2, 0, 1] = 231 := by decide +kernel
theorem bad12 : rdN [6, 0, 0, 0, 5, 0, 0, 0, 7, 0] = 0 ∧ rdE [6, 0, 0, 0, 5, 0, 0, 0, 7, 0] = 231 := by decide +kernel
theorem mwB_len {m : Msg} {M : AH} {hv fv : AV} {i gi n k : Nat} {o1 : Bool} {K Kp : AV → AH → Prop} (hk : m.body.length = k) (hi : slot M i gi = some (o1, .ints .u8 m.body n)) (o : okM m) (k3 : isB hv m.has) (k4 : isB fv m.full) (hz : m.sums = []) (hl : k ≤ 1000000000) (hn : k ≤ n) (h : ∀ g c, (wrB m).length ≤ c → K (.tup [.sl M.length g 0 (wrB m).length c, .int .i64 (wrE m)]) (M ++ [.one true g (.ints .u8 (wrB m) c)])) :
    CallA Try.prog 11 [.agg (msL hv fv .ns (.sl i gi 0 k n) m)] M K Kp := by
  subst hk
  exact mwB_at hi o k3 k4 hz hl hn h
theorem mwS_len {m : Msg} {M : AH} {hv fv : AV} {i gi n k : Nat} {o1 : Bool} {K Kp : AV → AH → Prop} (hk : m.sums.length = k) (hi : slot M i gi = some (o1, .ints .u32 m.sums n)) (o : okM m) (k3 : isB hv m.has) (k4 : isB fv m.full) (hz : m.body = []) (hl : k ≤ 1000000000) (hn : k ≤ n) (h : ∀ g c, (wrB m).length ≤ c → K (.tup [.sl M.length g 0 (wrB m).length c, .int .i64 (wrE m)]) (M ++ [.one true g (.ints .u8 (wrB m) c)])) :
    CallA Try.prog 11 [.agg (msL hv fv (.sl i gi 0 k n) .ns m)] M K Kp := by
  subst hk
  exact mwS_at hi o k3 k4 hz hl hn h
theorem zeroM_okK {t : Int} (ht : in8 t) : okM (zeroM t) := ⟨ht, (by decide : in32 0), (by decide : in32 0), (by decide : in32 0), (by decide : in16 0), (by decide : in16 0), (fun x hx => by cases hx), (by decide : in32 0), (by decide : in8 0), (by decide : in16 0), (by decide : in16 0), (by decide : in32 0), (fun x hx => by cases hx)⟩
theorem ka_ok : okM ⟨6, 0, 1, 0, false, false, 0, 0, [], 0, 0, 0, 0, 0, []⟩ := ⟨by decide, by decide, by decide, by decide, by decide, by decide, by decide, by decide, by decide, by decide, by decide, by decide, by decide⟩
theorem ka_wr : wrB ⟨6, 0, 1, 0, false, false, 0, 0, [], 0, 0, 0, 0, 0, []⟩ = [] ∧ wrE ⟨6, 0, 1, 0, false, false, 0, 0, [], 0, 0, 0, 0, 0, []⟩ = 231 := by decide
theorem kb_wr : wrB (zeroM 0) = [] ∧ wrE (zeroM 0) = 230 := by decide
/-- A message that has zeros alone. -/
abbrev zm (ty : Int) (S B : List Int) : Msg := ⟨ty, 0, 0, 0, false, false, 0, 0, S, 0, 0, 0, 0, 0, B⟩

theorem zm_ok {ty : Int} {S B : List Int} (ht : in8 ty) (hS : ∀ x ∈ S, x = 0) (hB : ∀ x ∈ B, x = 0) : okM (zm ty S B) :=
  {zeroM_okK ht with sums := fun x hx => by rw [hS x hx]; decide, body := fun x hx => by rw [hB x hx]; decide}
theorem zm_long4 {B : List Int} (h : B.length > 524288) : wrB (zm 4 [] B) = [] ∧ wrE (zm 4 [] B) = 2 := by
  have hl : (zm 4 [] B).body.length > 524288 ∨ (zm 4 [] B).sums.length > 256 := .inl h
  exact ⟨wr_no (fun k => k.2.1 hl), by rw [wrE, if_neg (not_not_intro (by show 1 ≤ (4 : Int) ∧ (4 : Int) ≤ 6; decide)), if_pos hl]⟩
theorem zm_long1 {S : List Int} (h : S.length > 256) : wrB (zm 1 S []) = [] ∧ wrE (zm 1 S []) = 2 := by
  have hl : (zm 1 S []).body.length > 524288 ∨ (zm 1 S []).sums.length > 256 := .inr h
  exact ⟨wr_no (fun k => k.2.1 hl), by rw [wrE, if_neg (not_not_intro (by show 1 ≤ (1 : Int) ∧ (1 : Int) ≤ 6; decide)), if_pos hl]⟩
theorem zm_ok4 {B : List Int} (h : B.length ≤ 524288) : wrOk (zm 4 [] B) := ⟨by show 1 ≤ (4 : Int) ∧ (4 : Int) ≤ 6; decide, by show ¬ (B.length > 524288 ∨ 0 > 256); omega, by simp [ofM, zeroM]⟩
theorem zm_ok1 {S : List Int} (h : S.length ≤ 256) : wrOk (zm 1 S []) := ⟨by show 1 ≤ (1 : Int) ∧ (1 : Int) ≤ 6; decide, by show ¬ (0 > 524288 ∨ S.length > 256); omega, by simp [ofM, zeroM]⟩
set_option maxHeartbeats 4000000 in
theorem mKnown_call : CallA Try.prog 8 [] [] (fun r _ => r = .bo true) (fun _ _ => False) := by
  refine step8 (fun _ => [2, 3, 4, 5, 6, 7, 8]) [] rfl ?_
  repeat ((conv => whnf); first | with_reducible refine O_step ?_ | with_reducible refine S_step ?_ | with_reducible refine D_step ?_ | with_reducible refine RO.exit ?_ | with_reducible refine RO.ret ?_ | ((with_reducible refine And.intro ?sc ?_); case sc => exact side) | ((with_reducible refine br_f ?sc ?_); case sc => exact sideB) | ((with_reducible refine br_t ?sc ?_); case sc => exact sideB))
  refine WO.go (σ := Nat) (fun i => i ≤ 6) (fun i => 6 - i) (fun i => [(1, .sl 2 0 0 6 6), (2, .sl 3 0 0 6 6), (3, .int .i64 i)]) (fun _ => [.one true 0 (.ints .u32 [3, 4] 2), .one false 0 (.ints .u8 [97, 98] 2), .one true 0 (.tab 15 6 (fun j => [msL .tt .ff (.sl 0 0 0 2 2) .ns kn0, msL .ff .ff .ns .ns kn1, msL .ff .ff .ns .ns kn2, msL .ff .tt .ns (.sl 1 0 0 2 2) kn3, msL .ff .ff .ns .ns kn4, msL .ff .ff .ns .ns kn5].getD j []) 6), .one true 0 (.cells [.str (ByteArray.mk #[1, 0, 0, 0, 19, 0, 0, 0, 1, 1, 0, 0, 0, 2, 0, 2, 0, 0, 0, 3, 0, 0, 0, 4]), .str (ByteArray.mk #[2, 0, 0, 0, 12, 0, 0, 0, 1, 0, 2, 0, 3, 0, 0, 0, 4]), .str (ByteArray.mk #[3, 0, 0, 0, 0]), .str (ByteArray.mk #[4, 0, 0, 0, 11, 0, 0, 0, 1, 0, 0, 0, 2, 1, 97, 98]), .str (ByteArray.mk #[5, 0, 0, 0, 13, 0, 0, 0, 1, 2, 0, 3, 0, 4, 0, 0, 0, 5]), .str (ByteArray.mk #[6, 0, 0, 0, 4, 0, 0, 0, 7])])]) 0 tb_ok mixed (by kernel_rfl) (Nat.zero_le _) (And.intro rfl (And.intro rfl (And.intro rfl (trivial)))) (And.intro rfl (And.intro rfl (And.intro rfl (And.intro rfl (trivial))))) (fun _ => rfl) (fun _ => rfl) (fun _ => ⟨trivial, trivial, tab_nb (by decide), rfl, trivial⟩) ?_
  intro i hi d
  repeat ((conv => whnf); first | with_reducible refine O_step ?_ | with_reducible refine S_step ?_ | with_reducible refine D_step ?_ | with_reducible refine RO.exit ?_ | with_reducible refine RO.ret ?_ | ((with_reducible refine And.intro ?sc ?_); case sc => exact side) | ((with_reducible refine br_f ?sc ?_); case sc => exact sideB) | ((with_reducible refine br_t ?sc ?_); case sc => exact sideB))
  refine And.intro (fun hc => ?_) (fun hc => ?_)
  · have hc' : (i : Int) < 6 := of_decide_eq_true hc
    obtain rfl | rfl | rfl | rfl | rfl | rfl : i = 0 ∨ i = 1 ∨ i = 2 ∨ i = 3 ∨ i = 4 ∨ i = 5 := by omega
    · repeat ((conv => whnf); first | with_reducible refine O_step ?_ | with_reducible refine S_step ?_ | with_reducible refine D_step ?_ | with_reducible refine RO.exit ?_ | with_reducible refine RO.ret ?_ | ((with_reducible refine And.intro ?sc ?_); case sc => exact side) | ((with_reducible refine br_f ?sc ?_); case sc => exact sideB) | ((with_reducible refine br_t ?sc ?_); case sc => exact sideB))
      refine mwS_at (m := kn0) (i := 0) (gi := 0) (n := 2) (o1 := true) rfl kn0_ok (.inr (.inr ⟨rfl, rfl⟩)) (.inr (.inl ⟨rfl, rfl⟩)) rfl (by decide) (by decide) (fun g c hc => ?_)
      rw [kn0_wr.1, kn0_wr.2]
      rw [kn0_wr.1] at hc
      repeat ((conv => whnf); first | with_reducible refine O_step ?_ | with_reducible refine S_step ?_ | with_reducible refine D_step ?_ | with_reducible refine RO.exit ?_ | with_reducible refine RO.ret ?_ | ((with_reducible refine And.intro ?sc ?_); case sc => exact side) | ((with_reducible refine br_f ?sc ?_); case sc => exact sideB) | ((with_reducible refine br_t ?sc ?_); case sc => exact sideB))
      intro zs hzs
      obtain rfl : zs = [1, 0, 0, 0, 19, 0, 0, 0, 1, 1, 0, 0, 0, 2, 0, 2, 0, 0, 0, 3, 0, 0, 0, 4] := by rw [hzs]; rfl
      repeat ((conv => whnf); first | with_reducible refine O_step ?_ | with_reducible refine S_step ?_ | with_reducible refine D_step ?_ | with_reducible refine RO.exit ?_ | with_reducible refine RO.ret ?_ | ((with_reducible refine And.intro ?sc ?_); case sc => exact side) | ((with_reducible refine br_f ?sc ?_); case sc => exact sideB) | ((with_reducible refine br_t ?sc ?_); case sc => exact sideB))
      refine br_f (notT (str_const _ rfl)) ?_
      repeat ((conv => whnf); first | with_reducible refine O_step ?_ | with_reducible refine S_step ?_ | with_reducible refine D_step ?_ | with_reducible refine RO.exit ?_ | with_reducible refine RO.ret ?_ | ((with_reducible refine And.intro ?sc ?_); case sc => exact side) | ((with_reducible refine br_f ?sc ?_); case sc => exact sideB) | ((with_reducible refine br_t ?sc ?_); case sc => exact sideB))
      exact RO.same 1 (by decide) (by decide) (And.intro rfl (And.intro rfl (And.intro rfl (trivial)))) (And.intro rfl (And.intro rfl (And.intro rfl (And.intro rfl (trivial)))))
    · repeat ((conv => whnf); first | with_reducible refine O_step ?_ | with_reducible refine S_step ?_ | with_reducible refine D_step ?_ | with_reducible refine RO.exit ?_ | with_reducible refine RO.ret ?_ | ((with_reducible refine And.intro ?sc ?_); case sc => exact side) | ((with_reducible refine br_f ?sc ?_); case sc => exact sideB) | ((with_reducible refine br_t ?sc ?_); case sc => exact sideB))
      refine mwN_at (m := kn1) kn1_ok (.inr (.inl ⟨rfl, rfl⟩)) (.inr (.inl ⟨rfl, rfl⟩)) rfl rfl (fun g c hc => ?_)
      rw [kn1_wr.1, kn1_wr.2]
      rw [kn1_wr.1] at hc
      repeat ((conv => whnf); first | with_reducible refine O_step ?_ | with_reducible refine S_step ?_ | with_reducible refine D_step ?_ | with_reducible refine RO.exit ?_ | with_reducible refine RO.ret ?_ | ((with_reducible refine And.intro ?sc ?_); case sc => exact side) | ((with_reducible refine br_f ?sc ?_); case sc => exact sideB) | ((with_reducible refine br_t ?sc ?_); case sc => exact sideB))
      intro zs hzs
      obtain rfl : zs = [2, 0, 0, 0, 12, 0, 0, 0, 1, 0, 2, 0, 3, 0, 0, 0, 4] := by rw [hzs]; rfl
      repeat ((conv => whnf); first | with_reducible refine O_step ?_ | with_reducible refine S_step ?_ | with_reducible refine D_step ?_ | with_reducible refine RO.exit ?_ | with_reducible refine RO.ret ?_ | ((with_reducible refine And.intro ?sc ?_); case sc => exact side) | ((with_reducible refine br_f ?sc ?_); case sc => exact sideB) | ((with_reducible refine br_t ?sc ?_); case sc => exact sideB))
      refine br_f (notT (str_const _ rfl)) ?_
      repeat ((conv => whnf); first | with_reducible refine O_step ?_ | with_reducible refine S_step ?_ | with_reducible refine D_step ?_ | with_reducible refine RO.exit ?_ | with_reducible refine RO.ret ?_ | ((with_reducible refine And.intro ?sc ?_); case sc => exact side) | ((with_reducible refine br_f ?sc ?_); case sc => exact sideB) | ((with_reducible refine br_t ?sc ?_); case sc => exact sideB))
      exact RO.same 2 (by decide) (by decide) (And.intro rfl (And.intro rfl (And.intro rfl (trivial)))) (And.intro rfl (And.intro rfl (And.intro rfl (And.intro rfl (trivial)))))
    · repeat ((conv => whnf); first | with_reducible refine O_step ?_ | with_reducible refine S_step ?_ | with_reducible refine D_step ?_ | with_reducible refine RO.exit ?_ | with_reducible refine RO.ret ?_ | ((with_reducible refine And.intro ?sc ?_); case sc => exact side) | ((with_reducible refine br_f ?sc ?_); case sc => exact sideB) | ((with_reducible refine br_t ?sc ?_); case sc => exact sideB))
      refine mwN_at (m := kn2) kn2_ok (.inr (.inl ⟨rfl, rfl⟩)) (.inr (.inl ⟨rfl, rfl⟩)) rfl rfl (fun g c hc => ?_)
      rw [kn2_wr.1, kn2_wr.2]
      rw [kn2_wr.1] at hc
      repeat ((conv => whnf); first | with_reducible refine O_step ?_ | with_reducible refine S_step ?_ | with_reducible refine D_step ?_ | with_reducible refine RO.exit ?_ | with_reducible refine RO.ret ?_ | ((with_reducible refine And.intro ?sc ?_); case sc => exact side) | ((with_reducible refine br_f ?sc ?_); case sc => exact sideB) | ((with_reducible refine br_t ?sc ?_); case sc => exact sideB))
      intro zs hzs
      obtain rfl : zs = [3, 0, 0, 0, 0] := by rw [hzs]; rfl
      repeat ((conv => whnf); first | with_reducible refine O_step ?_ | with_reducible refine S_step ?_ | with_reducible refine D_step ?_ | with_reducible refine RO.exit ?_ | with_reducible refine RO.ret ?_ | ((with_reducible refine And.intro ?sc ?_); case sc => exact side) | ((with_reducible refine br_f ?sc ?_); case sc => exact sideB) | ((with_reducible refine br_t ?sc ?_); case sc => exact sideB))
      refine br_f (notT (str_const _ rfl)) ?_
      repeat ((conv => whnf); first | with_reducible refine O_step ?_ | with_reducible refine S_step ?_ | with_reducible refine D_step ?_ | with_reducible refine RO.exit ?_ | with_reducible refine RO.ret ?_ | ((with_reducible refine And.intro ?sc ?_); case sc => exact side) | ((with_reducible refine br_f ?sc ?_); case sc => exact sideB) | ((with_reducible refine br_t ?sc ?_); case sc => exact sideB))
      exact RO.same 3 (by decide) (by decide) (And.intro rfl (And.intro rfl (And.intro rfl (trivial)))) (And.intro rfl (And.intro rfl (And.intro rfl (And.intro rfl (trivial)))))
    · repeat ((conv => whnf); first | with_reducible refine O_step ?_ | with_reducible refine S_step ?_ | with_reducible refine D_step ?_ | with_reducible refine RO.exit ?_ | with_reducible refine RO.ret ?_ | ((with_reducible refine And.intro ?sc ?_); case sc => exact side) | ((with_reducible refine br_f ?sc ?_); case sc => exact sideB) | ((with_reducible refine br_t ?sc ?_); case sc => exact sideB))
      refine mwB_at (m := kn3) (i := 1) (gi := 0) (n := 2) (o1 := false) rfl kn3_ok (.inr (.inl ⟨rfl, rfl⟩)) (.inr (.inr ⟨rfl, rfl⟩)) rfl (by decide) (by decide) (fun g c hc => ?_)
      rw [kn3_wr.1, kn3_wr.2]
      rw [kn3_wr.1] at hc
      repeat ((conv => whnf); first | with_reducible refine O_step ?_ | with_reducible refine S_step ?_ | with_reducible refine D_step ?_ | with_reducible refine RO.exit ?_ | with_reducible refine RO.ret ?_ | ((with_reducible refine And.intro ?sc ?_); case sc => exact side) | ((with_reducible refine br_f ?sc ?_); case sc => exact sideB) | ((with_reducible refine br_t ?sc ?_); case sc => exact sideB))
      intro zs hzs
      obtain rfl : zs = [4, 0, 0, 0, 11, 0, 0, 0, 1, 0, 0, 0, 2, 1, 97, 98] := by rw [hzs]; rfl
      repeat ((conv => whnf); first | with_reducible refine O_step ?_ | with_reducible refine S_step ?_ | with_reducible refine D_step ?_ | with_reducible refine RO.exit ?_ | with_reducible refine RO.ret ?_ | ((with_reducible refine And.intro ?sc ?_); case sc => exact side) | ((with_reducible refine br_f ?sc ?_); case sc => exact sideB) | ((with_reducible refine br_t ?sc ?_); case sc => exact sideB))
      refine br_f (notT (str_const _ rfl)) ?_
      repeat ((conv => whnf); first | with_reducible refine O_step ?_ | with_reducible refine S_step ?_ | with_reducible refine D_step ?_ | with_reducible refine RO.exit ?_ | with_reducible refine RO.ret ?_ | ((with_reducible refine And.intro ?sc ?_); case sc => exact side) | ((with_reducible refine br_f ?sc ?_); case sc => exact sideB) | ((with_reducible refine br_t ?sc ?_); case sc => exact sideB))
      exact RO.same 4 (by decide) (by decide) (And.intro rfl (And.intro rfl (And.intro rfl (trivial)))) (And.intro rfl (And.intro rfl (And.intro rfl (And.intro rfl (trivial)))))
    · repeat ((conv => whnf); first | with_reducible refine O_step ?_ | with_reducible refine S_step ?_ | with_reducible refine D_step ?_ | with_reducible refine RO.exit ?_ | with_reducible refine RO.ret ?_ | ((with_reducible refine And.intro ?sc ?_); case sc => exact side) | ((with_reducible refine br_f ?sc ?_); case sc => exact sideB) | ((with_reducible refine br_t ?sc ?_); case sc => exact sideB))
      refine mwN_at (m := kn4) kn4_ok (.inr (.inl ⟨rfl, rfl⟩)) (.inr (.inl ⟨rfl, rfl⟩)) rfl rfl (fun g c hc => ?_)
      rw [kn4_wr.1, kn4_wr.2]
      rw [kn4_wr.1] at hc
      repeat ((conv => whnf); first | with_reducible refine O_step ?_ | with_reducible refine S_step ?_ | with_reducible refine D_step ?_ | with_reducible refine RO.exit ?_ | with_reducible refine RO.ret ?_ | ((with_reducible refine And.intro ?sc ?_); case sc => exact side) | ((with_reducible refine br_f ?sc ?_); case sc => exact sideB) | ((with_reducible refine br_t ?sc ?_); case sc => exact sideB))
      intro zs hzs
      obtain rfl : zs = [5, 0, 0, 0, 13, 0, 0, 0, 1, 2, 0, 3, 0, 4, 0, 0, 0, 5] := by rw [hzs]; rfl
      repeat ((conv => whnf); first | with_reducible refine O_step ?_ | with_reducible refine S_step ?_ | with_reducible refine D_step ?_ | with_reducible refine RO.exit ?_ | with_reducible refine RO.ret ?_ | ((with_reducible refine And.intro ?sc ?_); case sc => exact side) | ((with_reducible refine br_f ?sc ?_); case sc => exact sideB) | ((with_reducible refine br_t ?sc ?_); case sc => exact sideB))
      refine br_f (notT (str_const _ rfl)) ?_
      repeat ((conv => whnf); first | with_reducible refine O_step ?_ | with_reducible refine S_step ?_ | with_reducible refine D_step ?_ | with_reducible refine RO.exit ?_ | with_reducible refine RO.ret ?_ | ((with_reducible refine And.intro ?sc ?_); case sc => exact side) | ((with_reducible refine br_f ?sc ?_); case sc => exact sideB) | ((with_reducible refine br_t ?sc ?_); case sc => exact sideB))
      exact RO.same 5 (by decide) (by decide) (And.intro rfl (And.intro rfl (And.intro rfl (trivial)))) (And.intro rfl (And.intro rfl (And.intro rfl (And.intro rfl (trivial)))))
    · repeat ((conv => whnf); first | with_reducible refine O_step ?_ | with_reducible refine S_step ?_ | with_reducible refine D_step ?_ | with_reducible refine RO.exit ?_ | with_reducible refine RO.ret ?_ | ((with_reducible refine And.intro ?sc ?_); case sc => exact side) | ((with_reducible refine br_f ?sc ?_); case sc => exact sideB) | ((with_reducible refine br_t ?sc ?_); case sc => exact sideB))
      refine mwN_at (m := kn5) kn5_ok (.inr (.inl ⟨rfl, rfl⟩)) (.inr (.inl ⟨rfl, rfl⟩)) rfl rfl (fun g c hc => ?_)
      rw [kn5_wr.1, kn5_wr.2]
      rw [kn5_wr.1] at hc
      repeat ((conv => whnf); first | with_reducible refine O_step ?_ | with_reducible refine S_step ?_ | with_reducible refine D_step ?_ | with_reducible refine RO.exit ?_ | with_reducible refine RO.ret ?_ | ((with_reducible refine And.intro ?sc ?_); case sc => exact side) | ((with_reducible refine br_f ?sc ?_); case sc => exact sideB) | ((with_reducible refine br_t ?sc ?_); case sc => exact sideB))
      intro zs hzs
      obtain rfl : zs = [6, 0, 0, 0, 4, 0, 0, 0, 7] := by rw [hzs]; rfl
      repeat ((conv => whnf); first | with_reducible refine O_step ?_ | with_reducible refine S_step ?_ | with_reducible refine D_step ?_ | with_reducible refine RO.exit ?_ | with_reducible refine RO.ret ?_ | ((with_reducible refine And.intro ?sc ?_); case sc => exact side) | ((with_reducible refine br_f ?sc ?_); case sc => exact sideB) | ((with_reducible refine br_t ?sc ?_); case sc => exact sideB))
      refine br_f (notT (str_const _ rfl)) ?_
      repeat ((conv => whnf); first | with_reducible refine O_step ?_ | with_reducible refine S_step ?_ | with_reducible refine D_step ?_ | with_reducible refine RO.exit ?_ | with_reducible refine RO.ret ?_ | ((with_reducible refine And.intro ?sc ?_); case sc => exact side) | ((with_reducible refine br_f ?sc ?_); case sc => exact sideB) | ((with_reducible refine br_t ?sc ?_); case sc => exact sideB))
      exact RO.same 6 (by decide) (by decide) (And.intro rfl (And.intro rfl (And.intro rfl (trivial)))) (And.intro rfl (And.intro rfl (And.intro rfl (And.intro rfl (trivial)))))
  have hc' : ¬ (i : Int) < 6 := of_decide_eq_false hc
  repeat ((conv => whnf); first | with_reducible refine O_step ?_ | with_reducible refine S_step ?_ | with_reducible refine D_step ?_ | with_reducible refine RO.exit ?_ | with_reducible refine RO.ret ?_ | ((with_reducible refine And.intro ?sc ?_); case sc => exact side) | ((with_reducible refine br_f ?sc ?_); case sc => exact sideB) | ((with_reducible refine br_t ?sc ?_); case sc => exact sideB))
  refine WO.go (σ := Nat) (fun i => i ≤ 13) (fun i => 13 - i) (fun i => [(6, .sl 4 0 0 13 13), (7, .int .i64 i)]) (fun _ => [.gone, .gone, .gone, .gone, .one true 0 (.tab 2 13 (fun j => ([[.str (ByteArray.mk #[7]), .int .i64 230], [.str (ByteArray.mk #[0]), .int .i64 230], [.str (ByteArray.mk #[3, 0, 0, 0, 1, 0]), .int .i64 231], [.str (ByteArray.mk #[3, 255]), .int .i64 0], [.str (ByteArray.mk #[6, 0, 0, 0, 4, 0, 0]), .int .i64 0], [.str (ByteArray.mk #[]), .int .i64 0], [.str (ByteArray.mk #[4, 0, 8, 0, 10]), .int .i64 2], [.str (ByteArray.mk #[4, 0, 8, 0, 9]), .int .i64 0], [.str (ByteArray.mk #[4, 0, 0, 0, 8, 0, 0, 0, 1, 0, 0, 0, 2]), .int .i64 231], [.str (ByteArray.mk #[4, 0, 0, 0, 9, 0, 0, 0, 1, 0, 0, 0, 2, 2]), .int .i64 231], [.str (ByteArray.mk #[1, 0, 0, 0, 11, 0, 0, 0, 1, 2, 0, 0, 0, 2, 0, 0]), .int .i64 231], [.str (ByteArray.mk #[1, 0, 0, 0, 11, 0, 0, 0, 1, 1, 0, 0, 0, 2, 0, 1]), .int .i64 231], [.str (ByteArray.mk #[6, 0, 0, 0, 5, 0, 0, 0, 7, 0]), .int .i64 231]] : List (List AV)).getD j []) 13)]) 0 tb_ok mixed (by kernel_rfl) (Nat.zero_le _) (And.intro rfl (And.intro rfl (trivial))) ⟨trivial, trivial, trivial, trivial, rfl, trivial⟩ (fun _ => rfl) (fun _ => rfl) (fun _ => ⟨trivial, trivial, trivial, trivial, tab_nb (by decide), trivial⟩) ?_
  clear hi hc hc'
  intro i hi d
  repeat ((conv => whnf); first | with_reducible refine O_step ?_ | with_reducible refine S_step ?_ | with_reducible refine D_step ?_ | with_reducible refine RO.exit ?_ | with_reducible refine RO.ret ?_ | ((with_reducible refine And.intro ?sc ?_); case sc => exact side) | ((with_reducible refine br_f ?sc ?_); case sc => exact sideB) | ((with_reducible refine br_t ?sc ?_); case sc => exact sideB))
  refine And.intro (fun hc => ?_) (fun hc => ?_)
  · have hc' : (i : Int) < 13 := of_decide_eq_true hc
    obtain rfl | rfl | rfl | rfl | rfl | rfl | rfl | rfl | rfl | rfl | rfl | rfl | rfl : i = 0 ∨ i = 1 ∨ i = 2 ∨ i = 3 ∨ i = 4 ∨ i = 5 ∨ i = 6 ∨ i = 7 ∨ i = 8 ∨ i = 9 ∨ i = 10 ∨ i = 11 ∨ i = 12 := by omega
    · repeat ((conv => whnf); first | with_reducible refine O_step ?_ | with_reducible refine S_step ?_ | with_reducible refine D_step ?_ | with_reducible refine RO.exit ?_ | with_reducible refine RO.ret ?_ | ((with_reducible refine And.intro ?sc ?_); case sc => exact side) | ((with_reducible refine br_f ?sc ?_); case sc => exact sideB) | ((with_reducible refine br_t ?sc ?_); case sc => exact sideB))
      intro c hc
      repeat ((conv => whnf); first | with_reducible refine O_step ?_ | with_reducible refine S_step ?_ | with_reducible refine D_step ?_ | with_reducible refine RO.exit ?_ | with_reducible refine RO.ret ?_ | ((with_reducible refine And.intro ?sc ?_); case sc => exact side) | ((with_reducible refine br_f ?sc ?_); case sc => exact sideB) | ((with_reducible refine br_t ?sc ?_); case sc => exact sideB))
      refine (show CallA Try.prog 15 [.sl 5 0 0 ([7] : List Int).length c] _ _ _ from ?_)
      refine mread_at (b := [7]) (Y := [7]) (cY := c) (i := 5) (gi := 0) (off := 0) (o1 := false) rfl (by omega) rfl (by decide) (by decide) hc (fun gS cS gD cD l1 l2 => ?_)
      rw [bad0.1, bad0.2]
      repeat ((conv => whnf); first | with_reducible refine O_step ?_ | with_reducible refine S_step ?_ | with_reducible refine D_step ?_ | with_reducible refine RO.exit ?_ | with_reducible refine RO.ret ?_ | ((with_reducible refine And.intro ?sc ?_); case sc => exact side) | ((with_reducible refine br_f ?sc ?_); case sc => exact sideB) | ((with_reducible refine br_t ?sc ?_); case sc => exact sideB))
      exact RO.same 1 (by decide) (by decide) (And.intro rfl (And.intro rfl (trivial))) ⟨trivial, trivial, trivial, trivial, rfl, trivial⟩
    · repeat ((conv => whnf); first | with_reducible refine O_step ?_ | with_reducible refine S_step ?_ | with_reducible refine D_step ?_ | with_reducible refine RO.exit ?_ | with_reducible refine RO.ret ?_ | ((with_reducible refine And.intro ?sc ?_); case sc => exact side) | ((with_reducible refine br_f ?sc ?_); case sc => exact sideB) | ((with_reducible refine br_t ?sc ?_); case sc => exact sideB))
      intro c hc
      repeat ((conv => whnf); first | with_reducible refine O_step ?_ | with_reducible refine S_step ?_ | with_reducible refine D_step ?_ | with_reducible refine RO.exit ?_ | with_reducible refine RO.ret ?_ | ((with_reducible refine And.intro ?sc ?_); case sc => exact side) | ((with_reducible refine br_f ?sc ?_); case sc => exact sideB) | ((with_reducible refine br_t ?sc ?_); case sc => exact sideB))
      refine (show CallA Try.prog 15 [.sl 5 0 0 ([0] : List Int).length c] _ _ _ from ?_)
      refine mread_at (b := [0]) (Y := [0]) (cY := c) (i := 5) (gi := 0) (off := 0) (o1 := false) rfl (by omega) rfl (by decide) (by decide) hc (fun gS cS gD cD l1 l2 => ?_)
      rw [bad1.1, bad1.2]
      repeat ((conv => whnf); first | with_reducible refine O_step ?_ | with_reducible refine S_step ?_ | with_reducible refine D_step ?_ | with_reducible refine RO.exit ?_ | with_reducible refine RO.ret ?_ | ((with_reducible refine And.intro ?sc ?_); case sc => exact side) | ((with_reducible refine br_f ?sc ?_); case sc => exact sideB) | ((with_reducible refine br_t ?sc ?_); case sc => exact sideB))
      exact RO.same 2 (by decide) (by decide) (And.intro rfl (And.intro rfl (trivial))) ⟨trivial, trivial, trivial, trivial, rfl, trivial⟩
    · repeat ((conv => whnf); first | with_reducible refine O_step ?_ | with_reducible refine S_step ?_ | with_reducible refine D_step ?_ | with_reducible refine RO.exit ?_ | with_reducible refine RO.ret ?_ | ((with_reducible refine And.intro ?sc ?_); case sc => exact side) | ((with_reducible refine br_f ?sc ?_); case sc => exact sideB) | ((with_reducible refine br_t ?sc ?_); case sc => exact sideB))
      intro c hc
      repeat ((conv => whnf); first | with_reducible refine O_step ?_ | with_reducible refine S_step ?_ | with_reducible refine D_step ?_ | with_reducible refine RO.exit ?_ | with_reducible refine RO.ret ?_ | ((with_reducible refine And.intro ?sc ?_); case sc => exact side) | ((with_reducible refine br_f ?sc ?_); case sc => exact sideB) | ((with_reducible refine br_t ?sc ?_); case sc => exact sideB))
      refine (show CallA Try.prog 15 [.sl 5 0 0 ([3, 0, 0, 0, 1, 0] : List Int).length c] _ _ _ from ?_)
      refine mread_at (b := [3, 0, 0, 0, 1, 0]) (Y := [3, 0, 0, 0, 1, 0]) (cY := c) (i := 5) (gi := 0) (off := 0) (o1 := false) rfl (by omega) rfl (by decide) (by decide) hc (fun gS cS gD cD l1 l2 => ?_)
      rw [bad2.1, bad2.2]
      repeat ((conv => whnf); first | with_reducible refine O_step ?_ | with_reducible refine S_step ?_ | with_reducible refine D_step ?_ | with_reducible refine RO.exit ?_ | with_reducible refine RO.ret ?_ | ((with_reducible refine And.intro ?sc ?_); case sc => exact side) | ((with_reducible refine br_f ?sc ?_); case sc => exact sideB) | ((with_reducible refine br_t ?sc ?_); case sc => exact sideB))
      exact RO.same 3 (by decide) (by decide) (And.intro rfl (And.intro rfl (trivial))) ⟨trivial, trivial, trivial, trivial, rfl, trivial⟩
    · repeat ((conv => whnf); first | with_reducible refine O_step ?_ | with_reducible refine S_step ?_ | with_reducible refine D_step ?_ | with_reducible refine RO.exit ?_ | with_reducible refine RO.ret ?_ | ((with_reducible refine And.intro ?sc ?_); case sc => exact side) | ((with_reducible refine br_f ?sc ?_); case sc => exact sideB) | ((with_reducible refine br_t ?sc ?_); case sc => exact sideB))
      intro c hc
      repeat ((conv => whnf); first | with_reducible refine O_step ?_ | with_reducible refine S_step ?_ | with_reducible refine D_step ?_ | with_reducible refine RO.exit ?_ | with_reducible refine RO.ret ?_ | ((with_reducible refine And.intro ?sc ?_); case sc => exact side) | ((with_reducible refine br_f ?sc ?_); case sc => exact sideB) | ((with_reducible refine br_t ?sc ?_); case sc => exact sideB))
      refine (show CallA Try.prog 15 [.sl 5 0 0 ([3, 255] : List Int).length c] _ _ _ from ?_)
      refine mread_at (b := [3, 255]) (Y := [3, 255]) (cY := c) (i := 5) (gi := 0) (off := 0) (o1 := false) rfl (by omega) rfl (by decide) (by decide) hc (fun gS cS gD cD l1 l2 => ?_)
      rw [bad3.1, bad3.2]
      repeat ((conv => whnf); first | with_reducible refine O_step ?_ | with_reducible refine S_step ?_ | with_reducible refine D_step ?_ | with_reducible refine RO.exit ?_ | with_reducible refine RO.ret ?_ | ((with_reducible refine And.intro ?sc ?_); case sc => exact side) | ((with_reducible refine br_f ?sc ?_); case sc => exact sideB) | ((with_reducible refine br_t ?sc ?_); case sc => exact sideB))
      exact RO.same 4 (by decide) (by decide) (And.intro rfl (And.intro rfl (trivial))) ⟨trivial, trivial, trivial, trivial, rfl, trivial⟩
    · repeat ((conv => whnf); first | with_reducible refine O_step ?_ | with_reducible refine S_step ?_ | with_reducible refine D_step ?_ | with_reducible refine RO.exit ?_ | with_reducible refine RO.ret ?_ | ((with_reducible refine And.intro ?sc ?_); case sc => exact side) | ((with_reducible refine br_f ?sc ?_); case sc => exact sideB) | ((with_reducible refine br_t ?sc ?_); case sc => exact sideB))
      intro c hc
      repeat ((conv => whnf); first | with_reducible refine O_step ?_ | with_reducible refine S_step ?_ | with_reducible refine D_step ?_ | with_reducible refine RO.exit ?_ | with_reducible refine RO.ret ?_ | ((with_reducible refine And.intro ?sc ?_); case sc => exact side) | ((with_reducible refine br_f ?sc ?_); case sc => exact sideB) | ((with_reducible refine br_t ?sc ?_); case sc => exact sideB))
      refine (show CallA Try.prog 15 [.sl 5 0 0 ([6, 0, 0, 0, 4, 0, 0] : List Int).length c] _ _ _ from ?_)
      refine mread_at (b := [6, 0, 0, 0, 4, 0, 0]) (Y := [6, 0, 0, 0, 4, 0, 0]) (cY := c) (i := 5) (gi := 0) (off := 0) (o1 := false) rfl (by omega) rfl (by decide) (by decide) hc (fun gS cS gD cD l1 l2 => ?_)
      rw [bad4.1, bad4.2]
      repeat ((conv => whnf); first | with_reducible refine O_step ?_ | with_reducible refine S_step ?_ | with_reducible refine D_step ?_ | with_reducible refine RO.exit ?_ | with_reducible refine RO.ret ?_ | ((with_reducible refine And.intro ?sc ?_); case sc => exact side) | ((with_reducible refine br_f ?sc ?_); case sc => exact sideB) | ((with_reducible refine br_t ?sc ?_); case sc => exact sideB))
      exact RO.same 5 (by decide) (by decide) (And.intro rfl (And.intro rfl (trivial))) ⟨trivial, trivial, trivial, trivial, rfl, trivial⟩
    · repeat ((conv => whnf); first | with_reducible refine O_step ?_ | with_reducible refine S_step ?_ | with_reducible refine D_step ?_ | with_reducible refine RO.exit ?_ | with_reducible refine RO.ret ?_ | ((with_reducible refine And.intro ?sc ?_); case sc => exact side) | ((with_reducible refine br_f ?sc ?_); case sc => exact sideB) | ((with_reducible refine br_t ?sc ?_); case sc => exact sideB))
      intro c hc
      repeat ((conv => whnf); first | with_reducible refine O_step ?_ | with_reducible refine S_step ?_ | with_reducible refine D_step ?_ | with_reducible refine RO.exit ?_ | with_reducible refine RO.ret ?_ | ((with_reducible refine And.intro ?sc ?_); case sc => exact side) | ((with_reducible refine br_f ?sc ?_); case sc => exact sideB) | ((with_reducible refine br_t ?sc ?_); case sc => exact sideB))
      refine (show CallA Try.prog 15 [.sl 5 0 0 ([] : List Int).length c] _ _ _ from ?_)
      refine mread_at (b := []) (Y := []) (cY := c) (i := 5) (gi := 0) (off := 0) (o1 := false) rfl (by omega) rfl (by decide) (by decide) hc (fun gS cS gD cD l1 l2 => ?_)
      rw [bad5.1, bad5.2]
      repeat ((conv => whnf); first | with_reducible refine O_step ?_ | with_reducible refine S_step ?_ | with_reducible refine D_step ?_ | with_reducible refine RO.exit ?_ | with_reducible refine RO.ret ?_ | ((with_reducible refine And.intro ?sc ?_); case sc => exact side) | ((with_reducible refine br_f ?sc ?_); case sc => exact sideB) | ((with_reducible refine br_t ?sc ?_); case sc => exact sideB))
      exact RO.same 6 (by decide) (by decide) (And.intro rfl (And.intro rfl (trivial))) ⟨trivial, trivial, trivial, trivial, rfl, trivial⟩
    · repeat ((conv => whnf); first | with_reducible refine O_step ?_ | with_reducible refine S_step ?_ | with_reducible refine D_step ?_ | with_reducible refine RO.exit ?_ | with_reducible refine RO.ret ?_ | ((with_reducible refine And.intro ?sc ?_); case sc => exact side) | ((with_reducible refine br_f ?sc ?_); case sc => exact sideB) | ((with_reducible refine br_t ?sc ?_); case sc => exact sideB))
      intro c hc
      repeat ((conv => whnf); first | with_reducible refine O_step ?_ | with_reducible refine S_step ?_ | with_reducible refine D_step ?_ | with_reducible refine RO.exit ?_ | with_reducible refine RO.ret ?_ | ((with_reducible refine And.intro ?sc ?_); case sc => exact side) | ((with_reducible refine br_f ?sc ?_); case sc => exact sideB) | ((with_reducible refine br_t ?sc ?_); case sc => exact sideB))
      refine (show CallA Try.prog 15 [.sl 5 0 0 ([4, 0, 8, 0, 10] : List Int).length c] _ _ _ from ?_)
      refine mread_at (b := [4, 0, 8, 0, 10]) (Y := [4, 0, 8, 0, 10]) (cY := c) (i := 5) (gi := 0) (off := 0) (o1 := false) rfl (by omega) rfl (by decide) (by decide) hc (fun gS cS gD cD l1 l2 => ?_)
      rw [bad6.1, bad6.2]
      repeat ((conv => whnf); first | with_reducible refine O_step ?_ | with_reducible refine S_step ?_ | with_reducible refine D_step ?_ | with_reducible refine RO.exit ?_ | with_reducible refine RO.ret ?_ | ((with_reducible refine And.intro ?sc ?_); case sc => exact side) | ((with_reducible refine br_f ?sc ?_); case sc => exact sideB) | ((with_reducible refine br_t ?sc ?_); case sc => exact sideB))
      exact RO.same 7 (by decide) (by decide) (And.intro rfl (And.intro rfl (trivial))) ⟨trivial, trivial, trivial, trivial, rfl, trivial⟩
    · repeat ((conv => whnf); first | with_reducible refine O_step ?_ | with_reducible refine S_step ?_ | with_reducible refine D_step ?_ | with_reducible refine RO.exit ?_ | with_reducible refine RO.ret ?_ | ((with_reducible refine And.intro ?sc ?_); case sc => exact side) | ((with_reducible refine br_f ?sc ?_); case sc => exact sideB) | ((with_reducible refine br_t ?sc ?_); case sc => exact sideB))
      intro c hc
      repeat ((conv => whnf); first | with_reducible refine O_step ?_ | with_reducible refine S_step ?_ | with_reducible refine D_step ?_ | with_reducible refine RO.exit ?_ | with_reducible refine RO.ret ?_ | ((with_reducible refine And.intro ?sc ?_); case sc => exact side) | ((with_reducible refine br_f ?sc ?_); case sc => exact sideB) | ((with_reducible refine br_t ?sc ?_); case sc => exact sideB))
      refine (show CallA Try.prog 15 [.sl 5 0 0 ([4, 0, 8, 0, 9] : List Int).length c] _ _ _ from ?_)
      refine mread_at (b := [4, 0, 8, 0, 9]) (Y := [4, 0, 8, 0, 9]) (cY := c) (i := 5) (gi := 0) (off := 0) (o1 := false) rfl (by omega) rfl (by decide) (by decide) hc (fun gS cS gD cD l1 l2 => ?_)
      rw [bad7.1, bad7.2]
      repeat ((conv => whnf); first | with_reducible refine O_step ?_ | with_reducible refine S_step ?_ | with_reducible refine D_step ?_ | with_reducible refine RO.exit ?_ | with_reducible refine RO.ret ?_ | ((with_reducible refine And.intro ?sc ?_); case sc => exact side) | ((with_reducible refine br_f ?sc ?_); case sc => exact sideB) | ((with_reducible refine br_t ?sc ?_); case sc => exact sideB))
      exact RO.same 8 (by decide) (by decide) (And.intro rfl (And.intro rfl (trivial))) ⟨trivial, trivial, trivial, trivial, rfl, trivial⟩
    · repeat ((conv => whnf); first | with_reducible refine O_step ?_ | with_reducible refine S_step ?_ | with_reducible refine D_step ?_ | with_reducible refine RO.exit ?_ | with_reducible refine RO.ret ?_ | ((with_reducible refine And.intro ?sc ?_); case sc => exact side) | ((with_reducible refine br_f ?sc ?_); case sc => exact sideB) | ((with_reducible refine br_t ?sc ?_); case sc => exact sideB))
      intro c hc
      repeat ((conv => whnf); first | with_reducible refine O_step ?_ | with_reducible refine S_step ?_ | with_reducible refine D_step ?_ | with_reducible refine RO.exit ?_ | with_reducible refine RO.ret ?_ | ((with_reducible refine And.intro ?sc ?_); case sc => exact side) | ((with_reducible refine br_f ?sc ?_); case sc => exact sideB) | ((with_reducible refine br_t ?sc ?_); case sc => exact sideB))
      refine (show CallA Try.prog 15 [.sl 5 0 0 ([4, 0, 0, 0, 8, 0, 0, 0, 1, 0, 0, 0, 2] : List Int).length c] _ _ _ from ?_)
      refine mread_at (b := [4, 0, 0, 0, 8, 0, 0, 0, 1, 0, 0, 0, 2]) (Y := [4, 0, 0, 0, 8, 0, 0, 0, 1, 0, 0, 0, 2]) (cY := c) (i := 5) (gi := 0) (off := 0) (o1 := false) rfl (by omega) rfl (by decide) (by decide) hc (fun gS cS gD cD l1 l2 => ?_)
      rw [bad8.1, bad8.2]
      repeat ((conv => whnf); first | with_reducible refine O_step ?_ | with_reducible refine S_step ?_ | with_reducible refine D_step ?_ | with_reducible refine RO.exit ?_ | with_reducible refine RO.ret ?_ | ((with_reducible refine And.intro ?sc ?_); case sc => exact side) | ((with_reducible refine br_f ?sc ?_); case sc => exact sideB) | ((with_reducible refine br_t ?sc ?_); case sc => exact sideB))
      exact RO.same 9 (by decide) (by decide) (And.intro rfl (And.intro rfl (trivial))) ⟨trivial, trivial, trivial, trivial, rfl, trivial⟩
    · repeat ((conv => whnf); first | with_reducible refine O_step ?_ | with_reducible refine S_step ?_ | with_reducible refine D_step ?_ | with_reducible refine RO.exit ?_ | with_reducible refine RO.ret ?_ | ((with_reducible refine And.intro ?sc ?_); case sc => exact side) | ((with_reducible refine br_f ?sc ?_); case sc => exact sideB) | ((with_reducible refine br_t ?sc ?_); case sc => exact sideB))
      intro c hc
      repeat ((conv => whnf); first | with_reducible refine O_step ?_ | with_reducible refine S_step ?_ | with_reducible refine D_step ?_ | with_reducible refine RO.exit ?_ | with_reducible refine RO.ret ?_ | ((with_reducible refine And.intro ?sc ?_); case sc => exact side) | ((with_reducible refine br_f ?sc ?_); case sc => exact sideB) | ((with_reducible refine br_t ?sc ?_); case sc => exact sideB))
      refine (show CallA Try.prog 15 [.sl 5 0 0 ([4, 0, 0, 0, 9, 0, 0, 0, 1, 0, 0, 0, 2, 2] : List Int).length c] _ _ _ from ?_)
      refine mread_at (b := [4, 0, 0, 0, 9, 0, 0, 0, 1, 0, 0, 0, 2, 2]) (Y := [4, 0, 0, 0, 9, 0, 0, 0, 1, 0, 0, 0, 2, 2]) (cY := c) (i := 5) (gi := 0) (off := 0) (o1 := false) rfl (by omega) rfl (by decide) (by decide) hc (fun gS cS gD cD l1 l2 => ?_)
      rw [bad9.1, bad9.2]
      repeat ((conv => whnf); first | with_reducible refine O_step ?_ | with_reducible refine S_step ?_ | with_reducible refine D_step ?_ | with_reducible refine RO.exit ?_ | with_reducible refine RO.ret ?_ | ((with_reducible refine And.intro ?sc ?_); case sc => exact side) | ((with_reducible refine br_f ?sc ?_); case sc => exact sideB) | ((with_reducible refine br_t ?sc ?_); case sc => exact sideB))
      exact RO.same 10 (by decide) (by decide) (And.intro rfl (And.intro rfl (trivial))) ⟨trivial, trivial, trivial, trivial, rfl, trivial⟩
    · repeat ((conv => whnf); first | with_reducible refine O_step ?_ | with_reducible refine S_step ?_ | with_reducible refine D_step ?_ | with_reducible refine RO.exit ?_ | with_reducible refine RO.ret ?_ | ((with_reducible refine And.intro ?sc ?_); case sc => exact side) | ((with_reducible refine br_f ?sc ?_); case sc => exact sideB) | ((with_reducible refine br_t ?sc ?_); case sc => exact sideB))
      intro c hc
      repeat ((conv => whnf); first | with_reducible refine O_step ?_ | with_reducible refine S_step ?_ | with_reducible refine D_step ?_ | with_reducible refine RO.exit ?_ | with_reducible refine RO.ret ?_ | ((with_reducible refine And.intro ?sc ?_); case sc => exact side) | ((with_reducible refine br_f ?sc ?_); case sc => exact sideB) | ((with_reducible refine br_t ?sc ?_); case sc => exact sideB))
      refine (show CallA Try.prog 15 [.sl 5 0 0 ([1, 0, 0, 0, 11, 0, 0, 0, 1, 2, 0, 0, 0, 2, 0, 0] : List Int).length c] _ _ _ from ?_)
      refine mread_at (b := [1, 0, 0, 0, 11, 0, 0, 0, 1, 2, 0, 0, 0, 2, 0, 0]) (Y := [1, 0, 0, 0, 11, 0, 0, 0, 1, 2, 0, 0, 0, 2, 0, 0]) (cY := c) (i := 5) (gi := 0) (off := 0) (o1 := false) rfl (by omega) rfl (by decide) (by decide) hc (fun gS cS gD cD l1 l2 => ?_)
      rw [bad10.1, bad10.2]
      repeat ((conv => whnf); first | with_reducible refine O_step ?_ | with_reducible refine S_step ?_ | with_reducible refine D_step ?_ | with_reducible refine RO.exit ?_ | with_reducible refine RO.ret ?_ | ((with_reducible refine And.intro ?sc ?_); case sc => exact side) | ((with_reducible refine br_f ?sc ?_); case sc => exact sideB) | ((with_reducible refine br_t ?sc ?_); case sc => exact sideB))
      exact RO.same 11 (by decide) (by decide) (And.intro rfl (And.intro rfl (trivial))) ⟨trivial, trivial, trivial, trivial, rfl, trivial⟩
    · repeat ((conv => whnf); first | with_reducible refine O_step ?_ | with_reducible refine S_step ?_ | with_reducible refine D_step ?_ | with_reducible refine RO.exit ?_ | with_reducible refine RO.ret ?_ | ((with_reducible refine And.intro ?sc ?_); case sc => exact side) | ((with_reducible refine br_f ?sc ?_); case sc => exact sideB) | ((with_reducible refine br_t ?sc ?_); case sc => exact sideB))
      intro c hc
      repeat ((conv => whnf); first | with_reducible refine O_step ?_ | with_reducible refine S_step ?_ | with_reducible refine D_step ?_ | with_reducible refine RO.exit ?_ | with_reducible refine RO.ret ?_ | ((with_reducible refine And.intro ?sc ?_); case sc => exact side) | ((with_reducible refine br_f ?sc ?_); case sc => exact sideB) | ((with_reducible refine br_t ?sc ?_); case sc => exact sideB))
      refine (show CallA Try.prog 15 [.sl 5 0 0 ([1, 0, 0, 0, 11, 0, 0, 0, 1, 1, 0, 0, 0, 2, 0, 1] : List Int).length c] _ _ _ from ?_)
      refine mread_at (b := [1, 0, 0, 0, 11, 0, 0, 0, 1, 1, 0, 0, 0, 2, 0, 1]) (Y := [1, 0, 0, 0, 11, 0, 0, 0, 1, 1, 0, 0, 0, 2, 0, 1]) (cY := c) (i := 5) (gi := 0) (off := 0) (o1 := false) rfl (by omega) rfl (by decide) (by decide) hc (fun gS cS gD cD l1 l2 => ?_)
      rw [bad11.1, bad11.2]
      repeat ((conv => whnf); first | with_reducible refine O_step ?_ | with_reducible refine S_step ?_ | with_reducible refine D_step ?_ | with_reducible refine RO.exit ?_ | with_reducible refine RO.ret ?_ | ((with_reducible refine And.intro ?sc ?_); case sc => exact side) | ((with_reducible refine br_f ?sc ?_); case sc => exact sideB) | ((with_reducible refine br_t ?sc ?_); case sc => exact sideB))
      exact RO.same 12 (by decide) (by decide) (And.intro rfl (And.intro rfl (trivial))) ⟨trivial, trivial, trivial, trivial, rfl, trivial⟩
    · repeat ((conv => whnf); first | with_reducible refine O_step ?_ | with_reducible refine S_step ?_ | with_reducible refine D_step ?_ | with_reducible refine RO.exit ?_ | with_reducible refine RO.ret ?_ | ((with_reducible refine And.intro ?sc ?_); case sc => exact side) | ((with_reducible refine br_f ?sc ?_); case sc => exact sideB) | ((with_reducible refine br_t ?sc ?_); case sc => exact sideB))
      intro c hc
      repeat ((conv => whnf); first | with_reducible refine O_step ?_ | with_reducible refine S_step ?_ | with_reducible refine D_step ?_ | with_reducible refine RO.exit ?_ | with_reducible refine RO.ret ?_ | ((with_reducible refine And.intro ?sc ?_); case sc => exact side) | ((with_reducible refine br_f ?sc ?_); case sc => exact sideB) | ((with_reducible refine br_t ?sc ?_); case sc => exact sideB))
      refine (show CallA Try.prog 15 [.sl 5 0 0 ([6, 0, 0, 0, 5, 0, 0, 0, 7, 0] : List Int).length c] _ _ _ from ?_)
      refine mread_at (b := [6, 0, 0, 0, 5, 0, 0, 0, 7, 0]) (Y := [6, 0, 0, 0, 5, 0, 0, 0, 7, 0]) (cY := c) (i := 5) (gi := 0) (off := 0) (o1 := false) rfl (by omega) rfl (by decide) (by decide) hc (fun gS cS gD cD l1 l2 => ?_)
      rw [bad12.1, bad12.2]
      repeat ((conv => whnf); first | with_reducible refine O_step ?_ | with_reducible refine S_step ?_ | with_reducible refine D_step ?_ | with_reducible refine RO.exit ?_ | with_reducible refine RO.ret ?_ | ((with_reducible refine And.intro ?sc ?_); case sc => exact side) | ((with_reducible refine br_f ?sc ?_); case sc => exact sideB) | ((with_reducible refine br_t ?sc ?_); case sc => exact sideB))
      exact RO.same 13 (by decide) (by decide) (And.intro rfl (And.intro rfl (trivial))) ⟨trivial, trivial, trivial, trivial, rfl, trivial⟩
  have hc' : ¬ (i : Int) < 13 := of_decide_eq_false hc
  repeat ((conv => whnf); first | with_reducible refine O_step ?_ | with_reducible refine S_step ?_ | with_reducible refine D_step ?_ | with_reducible refine RO.exit ?_ | with_reducible refine RO.ret ?_ | ((with_reducible refine And.intro ?sc ?_); case sc => exact side) | ((with_reducible refine br_f ?sc ?_); case sc => exact sideB) | ((with_reducible refine br_t ?sc ?_); case sc => exact sideB))
  refine mwN_at (m := ⟨6, 0, 1, 0, false, false, 0, 0, [], 0, 0, 0, 0, 0, []⟩) ka_ok (.inr (.inl ⟨rfl, rfl⟩)) (.inr (.inl ⟨rfl, rfl⟩)) rfl rfl (fun ga ca ha => ?_)
  rw [ka_wr.1, ka_wr.2]
  rw [ka_wr.1] at ha
  repeat ((conv => whnf); first | with_reducible refine O_step ?_ | with_reducible refine S_step ?_ | with_reducible refine D_step ?_ | with_reducible refine RO.exit ?_ | with_reducible refine RO.ret ?_ | ((with_reducible refine And.intro ?sc ?_); case sc => exact side) | ((with_reducible refine br_f ?sc ?_); case sc => exact sideB) | ((with_reducible refine br_t ?sc ?_); case sc => exact sideB))
  refine mwN_at (m := zeroM 0) (zeroM_okK (by decide)) (.inr (.inl ⟨rfl, rfl⟩)) (.inr (.inl ⟨rfl, rfl⟩)) rfl rfl (fun gb cb hb => ?_)
  rw [kb_wr.1, kb_wr.2]
  rw [kb_wr.1] at hb
  repeat ((conv => whnf); first | with_reducible refine O_step ?_ | with_reducible refine S_step ?_ | with_reducible refine D_step ?_ | with_reducible refine RO.exit ?_ | with_reducible refine RO.ret ?_ | ((with_reducible refine And.intro ?sc ?_); case sc => exact side) | ((with_reducible refine br_f ?sc ?_); case sc => exact sideB) | ((with_reducible refine br_t ?sc ?_); case sc => exact sideB))
  generalize hR : List.replicate (Int.toNat 524289) (0 : Int) = R
  have hRl : R.length = 524289 := by rw [← hR]; exact List.length_replicate
  have hR0 : ∀ x ∈ R, x = 0 := by intro x hx; rw [← hR] at hx; exact List.eq_of_mem_replicate hx
  refine mwB_len (m := zm 4 [] R) (i := 7) (gi := 0) (n := 524289) (k := 524289) (o1 := true) hRl (slot_one rfl) (zm_ok (by decide) (fun x hx => by cases hx) hR0) (.inr (.inl ⟨rfl, rfl⟩)) (.inr (.inl ⟨rfl, rfl⟩)) rfl (by decide) (Nat.le_refl _) (fun gc cc hcc => ?_)
  rw [(zm_long4 (by omega)).1, (zm_long4 (by omega)).2]
  rw [(zm_long4 (by omega)).1] at hcc
  repeat ((conv => whnf); first | with_reducible refine O_step ?_ | with_reducible refine S_step ?_ | with_reducible refine D_step ?_ | with_reducible refine RO.exit ?_ | with_reducible refine RO.ret ?_ | ((with_reducible refine And.intro ?sc ?_); case sc => exact side) | ((with_reducible refine br_f ?sc ?_); case sc => exact sideB) | ((with_reducible refine br_t ?sc ?_); case sc => exact sideB))
  generalize hQ : List.replicate (Int.toNat 257) (0 : Int) = Q
  have hQl : Q.length = 257 := by rw [← hQ]; exact List.length_replicate
  have hQ0 : ∀ x ∈ Q, x = 0 := by intro x hx; rw [← hQ] at hx; exact List.eq_of_mem_replicate hx
  refine mwS_len (m := zm 1 Q []) (i := 9) (gi := 0) (n := 257) (k := 257) (o1 := true) hQl (slot_one rfl) (zm_ok (by decide) hQ0 (fun x hx => by cases hx)) (.inr (.inl ⟨rfl, rfl⟩)) (.inr (.inl ⟨rfl, rfl⟩)) rfl (by decide) (Nat.le_refl _) (fun gd cd hcd => ?_)
  rw [(zm_long1 (by omega)).1, (zm_long1 (by omega)).2]
  rw [(zm_long1 (by omega)).1] at hcd
  repeat ((conv => whnf); first | with_reducible refine O_step ?_ | with_reducible refine S_step ?_ | with_reducible refine D_step ?_ | with_reducible refine RO.exit ?_ | with_reducible refine RO.ret ?_ | ((with_reducible refine And.intro ?sc ?_); case sc => exact side) | ((with_reducible refine br_f ?sc ?_); case sc => exact sideB) | ((with_reducible refine br_t ?sc ?_); case sc => exact sideB))
  generalize hT : List.replicate (Int.toNat 524288) (0 : Int) = T
  have hTl : T.length = 524288 := by rw [← hT]; exact List.length_replicate
  have hT0 : ∀ x ∈ T, x = 0 := by intro x hx; rw [← hT] at hx; exact List.eq_of_mem_replicate hx
  have oT := zm_ok (ty := 4) (S := []) (B := T) (by decide) (fun x hx => by cases hx) hT0
  have wT := zm_ok4 (B := T) (by omega)
  refine mwB_len (m := zm 4 [] T) (i := 11) (gi := 0) (n := 524288) (k := 524288) (o1 := true) hTl (slot_one rfl) oT (.inr (.inl ⟨rfl, rfl⟩)) (.inr (.inl ⟨rfl, rfl⟩)) rfl (by decide) (Nat.le_refl _) (fun ge ce hce => ?_)
  rw [(wr_ok wT).1, (wr_ok wT).2]
  rw [(wr_ok wT).1] at hce
  have hwl : (wireF (zm 4 [] T)).length = 524302 := by rw [wireF_len, bodyF_len]; show 5 + (9 + T.length) = 524302; omega
  have hw8 : ∀ x ∈ wireF (zm 4 [] T), in8 x := by have := wrB_in8 oT; rw [(wr_ok wT).1] at this; exact this
  obtain ⟨q1, q2, q3, q4⟩ := rd_wire oT wT.1 (by show (0 : Nat) ≤ 256; decide) (show T.length ≤ 524288 by omega) wT.2.2 []
  rw [List.append_nil] at q1 q2 q3 q4
  generalize wireF (zm 4 [] T) = W at *
  repeat ((conv => whnf); first | with_reducible refine O_step ?_ | with_reducible refine S_step ?_ | with_reducible refine D_step ?_ | with_reducible refine RO.exit ?_ | with_reducible refine RO.ret ?_ | ((with_reducible refine And.intro ?sc ?_); case sc => exact side) | ((with_reducible refine br_f ?sc ?_); case sc => exact sideB) | ((with_reducible refine br_t ?sc ?_); case sc => exact sideB))
  refine mread_at (b := W) (Y := W) (cY := ce) (i := 12) (gi := ge) (off := 0) (o1 := true) (slot_one rfl) (by omega) (by rw [List.drop_zero, List.take_length]) hw8 (by omega) hce (fun gS cS gD cD l1 l2 => ?_)
  rw [q2, q3, q4]
  repeat ((conv => whnf); first | with_reducible refine O_step ?_ | with_reducible refine S_step ?_ | with_reducible refine D_step ?_ | with_reducible refine RO.exit ?_ | with_reducible refine RO.ret ?_ | ((with_reducible refine And.intro ?sc ?_); case sc => exact side) | ((with_reducible refine br_f ?sc ?_); case sc => exact sideB) | ((with_reducible refine br_t ?sc ?_); case sc => exact sideB))
  generalize hU : List.replicate (Int.toNat 256) (0 : Int) = U
  have hUl : U.length = 256 := by rw [← hU]; exact List.length_replicate
  have hU0 : ∀ x ∈ U, x = 0 := by intro x hx; rw [← hU] at hx; exact List.eq_of_mem_replicate hx
  have oU := zm_ok (ty := 1) (S := U) (B := []) (by decide) hU0 (fun x hx => by cases hx)
  have wU := zm_ok1 (S := U) (by omega)
  refine mwS_len (m := zm 1 U []) (i := 16) (gi := 0) (n := 256) (k := 256) (o1 := true) hUl (slot_one rfl) oU (.inr (.inl ⟨rfl, rfl⟩)) (.inr (.inl ⟨rfl, rfl⟩)) rfl (by decide) (Nat.le_refl _) (fun gf cf hcf => ?_)
  rw [(wr_ok wU).1, (wr_ok wU).2]
  rw [(wr_ok wU).1] at hcf
  have hul : (wireF (zm 1 U [])).length = 1040 := by rw [wireF_len, bodyF_len]; show 5 + (11 + 4 * U.length) = 1040; omega
  repeat ((conv => whnf); first | with_reducible refine O_step ?_ | with_reducible refine S_step ?_ | with_reducible refine D_step ?_ | with_reducible refine RO.exit ?_ | with_reducible refine RO.ret ?_ | ((with_reducible refine And.intro ?sc ?_); case sc => exact side) | ((with_reducible refine br_f ?sc ?_); case sc => exact sideB) | ((with_reducible refine br_t ?sc ?_); case sc => exact sideB))
  refine br_t (decide_eq_true (show (T.length : Int) = 524288 by omega)) ?_
  repeat ((conv => whnf); first | with_reducible refine O_step ?_ | with_reducible refine S_step ?_ | with_reducible refine D_step ?_ | with_reducible refine RO.exit ?_ | with_reducible refine RO.ret ?_ | ((with_reducible refine And.intro ?sc ?_); case sc => exact side) | ((with_reducible refine br_f ?sc ?_); case sc => exact sideB) | ((with_reducible refine br_t ?sc ?_); case sc => exact sideB))
  refine br_t (decide_eq_true (show ((wireF (zm 1 U [])).length : Int) = 1040 by omega)) ?_
  repeat ((conv => whnf); first | with_reducible refine O_step ?_ | with_reducible refine S_step ?_ | with_reducible refine D_step ?_ | with_reducible refine RO.exit ?_ | with_reducible refine RO.ret ?_ | ((with_reducible refine And.intro ?sc ?_); case sc => exact side) | ((with_reducible refine br_f ?sc ?_); case sc => exact sideB) | ((with_reducible refine br_t ?sc ?_); case sc => exact sideB))
  refine writes_at ?_
  repeat ((conv => whnf); first | with_reducible refine O_step ?_ | with_reducible refine S_step ?_ | with_reducible refine D_step ?_ | with_reducible refine RO.exit ?_ | with_reducible refine RO.ret ?_ | ((with_reducible refine And.intro ?sc ?_); case sc => exact side) | ((with_reducible refine br_f ?sc ?_); case sc => exact sideB) | ((with_reducible refine br_t ?sc ?_); case sc => exact sideB))
  rfl
theorem messageKnown_law : CallA Try.prog 8 [] [] (fun r _ => r = .bo true) (fun _ _ => False) := mKnown_call
end Go.Proofs.Ytedlpkibdjccdaa
