/- Layer 23: Write's and Read's contracts in whatever heap. -/
import Derived.Test.YtedlpkibdjccdaaM18

set_option linter.unusedVariables false

set_option linter.unusedSimpArgs false

open Go.RowKit

namespace Go.Proofs.Ytedlpkibdjccdaa

set_option maxRecDepth 10000

/-- The error that Write tells, the bytes that it answers. -/
def wrE (m : Msg) : Int := if ¬ (1 ≤ m.ty ∧ m.ty ≤ 6) then 230 else if m.body.length > 524288 ∨ m.sums.length > 256 then 2 else if ofM m ≠ m then 231 else 0
abbrev wrOk (m : Msg) : Prop := (1 ≤ m.ty ∧ m.ty ≤ 6) ∧ ¬ (m.body.length > 524288 ∨ m.sums.length > 256) ∧ ofM m = m

def wrB (m : Msg) : List Int := if wrOk m then wireF m else []
theorem wr_ok {m : Msg} (h : wrOk m) : wrB m = wireF m ∧ wrE m = 0 := ⟨by rw [wrB, if_pos h], by rw [wrE, if_neg (not_not_intro h.1), if_neg h.2.1, if_neg (not_not_intro h.2.2)]⟩
theorem wr_no {m : Msg} (h : ¬ wrOk m) : wrB m = [] := by rw [wrB, if_neg h]
theorem wrB_in8 {m : Msg} (o : okM m) : ∀ x ∈ wrB m, in8 x := by
  intro x hx
  unfold wrB at hx
  split at hx
  · rcases List.mem_append.1 hx with hx | hx
    · rcases List.mem_append.1 hx with hx | hx <;> exact beW_bound _ _ x hx
    · exact bodyF_in8 o x hx
  · cases hx
/-- A message as a value: its slices are whole objects. -/
abbrev mV (m : Msg) (i gi cS j gj cB : Nat) : AV := .agg (msL (.bo m.has) (.bo m.full) (.sl i gi 0 m.sums.length cS) (.sl j gj 0 m.body.length cB) m)

section

variable {m : Msg} {cS cB : Nat} {K Kp : AV → AH → Prop}

theorem wr_end {e : Int} {E : AH} (h : K (.tup [.sl 2 0 0 0 0, .int .i64 e]) [.one false 0 (.ints .u32 m.sums cS), .one false 0 (.ints .u8 m.body cB), .one true 0 (.ints .u8 [] 0)]) :
    ∃ r' M'', Vw (.one false 0 (.ints .u32 m.sums cS) :: .one false 0 (.ints .u8 m.body cB) :: E) M'' [.tup [.ns, .int .i64 e]] [r'] ∧ ∃ t r'' N, PickA 2 r' M'' t r'' N ∧ K r'' N := by
  have v1 := Vw.canon (M := .one false 0 (.ints .u32 m.sums cS) :: .one false 0 (.ints .u8 m.body cB) :: E) (x := .ints .u8 [] 0) (l := [.tup [.ns, .int .i64 e]]) (l' := [.tup [.sl (E.length + 2) 0 0 0 0, .int .i64 e]]) ⟨rfl, rfl⟩
    (cnL_cons (cnV_tup (cnL_cons (cnV_nsl _) (cnL_refl _ _))) (cnL_nil _))
  refine ⟨_, _, v1, [.sha 0, .sha 1, .own (E.length + 2)], .tup [.sl 2 0 0 0 0, .int .i64 e], [.one false 0 (.ints .u32 m.sums cS), .one false 0 (.ints .u8 m.body cB), .one true 0 (.ints .u8 [] 0)], ⟨?_, ?_, ?_, ?_, fun i hi => ?_⟩, h⟩
  · refine ⟨⟨rfl, .one false 0 (.ints .u32 m.sums cS), rfl, rfl⟩, ⟨rfl, .one false 0 (.ints .u8 m.body cB), rfl, rfl⟩, ⟨?_, rfl⟩, trivial⟩
    simp [AO.rn, Cont.rn]
  · simp [apartT, TE.isOwn, TE.i, beqF (show (0 : Nat) ≠ E.length + 2 by omega), beqF (show (1 : Nat) ≠ E.length + 2 by omega), AV.w0, AV.w0l, w0T]
  · exact ⟨trivial, trivial, trivial, trivial⟩
  · rfl
  · match i, hi with
    | 0, _ => exact .inr rfl
    | 1, _ => exact .inr rfl
theorem mwriteC_call (o : okM m) (ls : m.sums.length ≤ 1000000000) (lb : m.body.length ≤ 1000000000) (kS : m.sums.length ≤ cS) (kB : m.body.length ≤ cB)
    (h : ∀ g c, (wrB m).length ≤ c → K (.tup [.sl 2 g 0 (wrB m).length c, .int .i64 (wrE m)]) [.one false 0 (.ints .u32 m.sums cS), .one false 0 (.ints .u8 m.body cB), .one true g (.ints .u8 (wrB m) c)]) :
    CallA Try.prog 11 [mV m 0 0 cS 1 0 cB] [.one false 0 (.ints .u32 m.sums cS), .one false 0 (.ints .u8 m.body cB)] K Kp := by
  have hno : ¬ wrOk m → ∀ e, wrE m = e → K (.tup [.sl 2 0 0 0 0, .int .i64 e]) [.one false 0 (.ints .u32 m.sums cS), .one false 0 (.ints .u8 m.body cB), .one true 0 (.ints .u8 [] 0)] := by
    intro hn e he
    have := h 0 0 (by rw [wr_no hn]; exact Nat.le_refl _)
    rw [wr_no hn, he] at this
    exact this
  refine CallA.post_pick ?_
  refine CallA.post_view ?_
  refine mwrite_call o ls lb kS kB (fun ht => ?_) (fun ht hl => ?_) (fun ht hl hf => ?_) (fun ht hl hf g c hc => ?_)
  · exact wr_end (hno (fun k => ht k.1) _ (by rw [wrE, if_pos ht]))
  · exact wr_end (hno (fun k => k.2.1 hl) _ (by rw [wrE, if_neg (not_not_intro ht), if_pos hl]))
  · exact wr_end (hno (fun k => hf k.2.2) _ (by rw [wrE, if_neg (not_not_intro ht), if_neg hl, if_pos hf]))
  · obtain ⟨e1, e2⟩ := wr_ok ⟨ht, hl, hf⟩
    have := h g c (by rw [e1]; exact hc)
    rw [e1, e2] at this
    refine ⟨_, _, Vw.refl _ _, [.sha 0, .sha 1, .own 32], .tup [.sl 2 g 0 (wireF m).length c, .int .i64 0], [.one false 0 (.ints .u32 m.sums cS), .one false 0 (.ints .u8 m.body cB), .one true g (.ints .u8 (wireF m) c)], ⟨?_, rfl, ⟨trivial, trivial, trivial, trivial⟩, rfl, fun i hi => ?_⟩, this⟩
    · exact ⟨⟨rfl, .one false 0 (.ints .u32 m.sums cS), rfl, rfl⟩, ⟨rfl, .one false 0 (.ints .u8 m.body cB), rfl, rfl⟩, ⟨rfl, rfl⟩, trivial⟩
    · match i, hi with
      | 0, _ => exact .inr rfl
      | 1, _ => exact .inr rfl
theorem mwrite_at {M : AH} {i gi j gj : Nat} {o1 o2 : Bool} (hi : slot M i gi = some (o1, .ints .u32 m.sums cS)) (hj : slot M j gj = some (o2, .ints .u8 m.body cB))
    (o : okM m) (ls : m.sums.length ≤ 1000000000) (lb : m.body.length ≤ 1000000000) (kS : m.sums.length ≤ cS) (kB : m.body.length ≤ cB)
    (h : ∀ g c, (wrB m).length ≤ c → K (.tup [.sl M.length g 0 (wrB m).length c, .int .i64 (wrE m)]) (M ++ [.one true g (.ints .u8 (wrB m) c)])) :
    CallA Try.prog 11 [mV m i gi cS j gj cB] M K Kp := by
  refine CallA.lift [.win i gi 0, .win j gj 0] (mwriteC_call (Kp := fun _ _ => False) (K := fun r M' => ∃ g c, (wrB m).length ≤ c ∧ r = .tup [.sl 2 g 0 (wrB m).length c, .int .i64 (wrE m)] ∧ M' = [.one false 0 (.ints .u32 m.sums cS), .one false 0 (.ints .u8 m.body cB), .one true g (.ints .u8 (wrB m) c)]) o ls lb kS kB
    (fun g c hc => ⟨g, c, hc, rfl, rfl⟩)) rfl rfl ⟨⟨_, _, _, rfl, hi, winI0⟩, ⟨_, _, _, rfl, hj, winI0⟩, trivial⟩ ⟨trivial, trivial, trivial⟩ ?_ (fun _ _ h => h.elim)
  rintro r M' ⟨g, c, hc, rfl, rfl⟩
  exact ⟨⟨rfl, rfl, rfl⟩, h g c hc⟩
/-- What Read answers, in whatever heap. -/
abbrev rdVat (k gS cS gD cD : Nat) (m : Msg) (n e : Int) : AV := .tup [mV m k gS cS (k + 1) gD cD, .int .i64 n, .int .i64 e]

theorem mread_at {M : AH} {i gi off c cY : Nat} {o1 : Bool} {b Y : List Int} (hi : slot M i gi = some (o1, .ints .u8 Y cY)) (hc : off + c ≤ cY) (hY : b = (Y.drop off).take b.length)
    (hb : ∀ x ∈ b, in8 x) (lb : b.length ≤ 1000000000) (kb : b.length ≤ c)
    (h : ∀ gS cS gD cD, (rdM b).sums.length ≤ cS → (rdM b).body.length ≤ cD → K (rdVat M.length gS cS gD cD (rdM b) (rdN b) (rdE b)) (M ++ [.one true gS (.ints .u32 (rdM b).sums cS), .one true gD (.ints .u8 (rdM b).body cD)])) :
    CallA Try.prog 15 [.sl i gi off b.length c] M K Kp := by
  refine CallA.lift [.win i gi off] (mread_call (c := c) (Kp := fun _ _ => False) (K := fun r M' => ∃ gS cS gD cD, (rdM b).sums.length ≤ cS ∧ (rdM b).body.length ≤ cD ∧ r = rdV3 gS cS gD cD (rdM b) (rdN b) (rdE b) ∧ M' = rdH3 b c gS cS gD cD (rdM b)) hb lb kb
    (fun gS cS gD cD h1 h2 => ⟨gS, cS, gD, cD, h1, h2, rfl, rfl⟩)) rfl rfl ⟨⟨_, _, _, rfl, hi, WinC.ints hc hY⟩, trivial⟩ ⟨trivial, trivial⟩ ?_ (fun _ _ h => h.elim)
  rintro r M' ⟨gS, cS, gD, cD, h1, h2, rfl, rfl⟩
  exact ⟨⟨rfl, rfl⟩, h gS cS gD cD h1 h2⟩
end

end Go.Proofs.Ytedlpkibdjccdaa
