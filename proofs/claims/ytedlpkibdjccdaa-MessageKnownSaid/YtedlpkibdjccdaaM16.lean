/- Layer 23: a page that reads, in the heap of Read. -/
import Derived.Test.YtedlpkibdjccdaaM15c

set_option linter.unusedVariables false

set_option linter.unusedSimpArgs false

open Go.RowKit

namespace Go.Proofs.Ytedlpkibdjccdaa

set_option maxRecDepth 10000

theorem beqF {j k : Nat} (h : j ≠ k) : Nat.beq j k = false := by
  cases hb : Nat.beq j k with
  | false => rfl
  | true => exact absurd (Nat.eq_of_beq_eq_true hb) h
theorem overRc_at {s : RSt} {M : AH} {j off c cX : Nat} {X : List Int} {K Kp : AV → AH → Prop} (hX : M[0]? = some (.one false 0 (.ints .u8 X cX)))
    (hj : M[j]? = some (.one true 0 (.cells (pgL .ff .ff (.sl 0 0 off s.l.length c) .ff .ff .ns .ns s.m)))) (o : inX X off c s.l) (hcX : X.length ≤ cX) (ht : 1 ≤ s.m.ty ∧ s.m.ty ≤ 6) (hm : s.m = zeroM s.m.ty) (hb : s.bad = false)
    (h : ∀ jb gb ob cb gS cS gD cD, (readF s).m.sums.length ≤ cS → (readF s).m.body.length ≤ cD →
      K (.tup []) (M.set j (.one true 0 (.cells (pgL (.bo (readF s).bad) .ff (.sl jb gb ob (readF s).l.length cb) (.bo (readF s).m.has) (.bo (readF s).m.full) (.sl M.length gS 0 (readF s).m.sums.length cS) (.sl (M.length + 1) gD 0 (readF s).m.body.length cD) (readF s).m))) ++
        [.one true gS (.ints .u32 (readF s).m.sums cS), .one true gD (.ints .u8 (readF s).m.body cD), .one true 0 (.ints .u8 [] 0)])) :
    CallA Try.prog 20 [.ptr j 0 0] M K Kp := by
  have hj0 : j ≠ 0 := by rintro rfl; rw [hX] at hj; simp at hj
  refine CallA.lift [.own j, .win 0 0 0] (overRc_call (s := s) (off := off) (c := c) (cX := cX) (X := X) (Kp := fun _ _ => False) (K := fun r M' => ∃ jb gb ob cb gS cS gD cD, r = .tup [] ∧ (readF s).m.sums.length ≤ cS ∧ (readF s).m.body.length ≤ cD ∧ (jb = 1 ∨ jb = 4) ∧ (jb = 1 → gb = 0) ∧
      M' = pgC (readF s).bad jb gb ob cb gS cS gD cD (readF s).l.length X cX (readF s).m) o hcX ht hm hb
    (fun jb gb ob cb gS cS gD cD k1 k2 k3 k4 => ⟨jb, gb, ob, cb, gS, cS, gD, cD, rfl, k1, k2, k3, k4, rfl⟩)) rfl ?_ ?_ ?_ ?_ (fun _ _ h => h.elim)
  · simp [apartT, TE.isOwn, TE.i, beqF hj0, AV.w0l, AV.w0, w0T]
  · refine ⟨⟨?_, rfl⟩, ⟨_, false, _, rfl, ?_, winI0⟩, trivial⟩
    · rw [hj]; simp [pgR, AO.rn, Cont.rn, AV.rnl, AV.rn, rnI, rnG, rnF, TE.i]
    · unfold slot; rw [hX]; rfl
  · exact ⟨by simp [AO.w0, Cont.w0, AV.w0l, AV.w0, w0T], trivial, trivial⟩
  · rintro r M' ⟨jb, gb, ob, cb, gS, cS, gD, cD, rfl, k1, k2, k3, k4, rfl⟩
    refine ⟨⟨rfl, rfl, rfl⟩, ?_⟩
    have := h (rnI [.own j, .win 0 0 0] M.length jb) (rnG [.own j, .win 0 0 0] jb gb) (rnF [.own j, .win 0 0 0] jb ob) cb gS cS gD cD k1 k2
    simpa [setH, rnH, AO.rn, Cont.rn, AV.rnl, AV.rn, rnI, rnG, rnF, TE.i, pgC] using this

theorem penR_at {M : AH} {j off c cX : Nat} {X l : List Int} {K Kp : AV → AH → Prop} (hX : M[0]? = some (.one false 0 (.ints .u8 X cX))) (hj : M[j]? = some (.one true 0 (.cells [.ff, .ff, .sl 0 0 off l.length c]))) (o : inX X off c l) (hn : 4 ≤ l.length)
    (h : ∀ c0' off' n' c', isB c0' false → K (.int .u64 (valB (l.take 4) 0)) (M.set j (.one true 0 (.cells [c0', .ff, .sl 0 0 off' n' c'])))) :
    CallA Try.prog 22 [.ptr j 0 0, .int .u64 0, .int .i64 4] M K Kp := by
  have hj0 : j ≠ 0 := by rintro rfl; rw [hX] at hj; simp at hj
  have hB : rdB 4 false l = false := by simp [rdB]; omega
  have hV : rdV 4 false l = valB (l.take 4) 0 := by rw [rdV, hB, if_neg (by simp)]
  refine CallA.lift [.own j, .win 0 0 0] (numU_call (k := 4) (v := 0) (bad := false) (c0 := .ff) (R := []) (l := l) (cX := cX) (Kp := fun _ _ => False) (K := fun r M' => ∃ c0' off' c', r = .int .u64 (valB (l.take 4) 0) ∧ isB c0' false ∧ M' = [.one true 0 (.cells [c0', .ff, .sl 1 0 off' (rdL 4 false l).length c']), .one false 0 (.ints .u8 X cX)]) (by decide) (.inr (.inl ⟨rfl, rfl⟩)) o rfl
    (fun c0' off' c' k1 k2 => ⟨c0', off', c', by rw [hV], by rw [hB] at k1; exact k1, rfl⟩)) rfl ?_ ?_ ?_ ?_ (fun _ _ h => h.elim)
  · simp [apartT, TE.isOwn, TE.i, beqF hj0, AV.w0l, AV.w0, w0T]
  · refine ⟨⟨?_, rfl⟩, ⟨_, false, _, rfl, ?_, winI0⟩, trivial⟩
    · rw [hj]; simp [AO.rn, Cont.rn, AV.rnl, AV.rn, rnI, rnG, rnF, TE.i]
    · unfold slot; rw [hX]; rfl
  · exact ⟨by simp [AO.w0, Cont.w0, AV.w0l, AV.w0, w0T], trivial, trivial⟩
  · rintro r M' ⟨c0', off', c', rfl, k1, rfl⟩
    refine ⟨⟨rfl, rfl, rfl⟩, ?_⟩
    have := h c0' off' (rdL 4 false l).length c' k1
    simpa [setH, rnH, AO.rn, Cont.rn, AV.rnl, AV.rn, rnI, rnG, rnF, TE.i, isB_rn k1] using this
end Go.Proofs.Ytedlpkibdjccdaa
