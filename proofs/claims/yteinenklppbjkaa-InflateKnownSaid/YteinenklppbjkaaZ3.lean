/- Layer 8: what stands behind the reader stays; facts of tables. -/
import Derived.Test.YteinenklppbjkaaZ2

set_option linter.unusedVariables false

set_option linter.unusedSimpArgs false

open Go.RowKit

namespace Go.Proofs.Yteinenklppbjkaa

set_option maxRecDepth 10000

/-- Which symbols a table tells. -/
def symLt (N : Int) (es : List ((Int × Int) × Int)) : Prop := ∀ (c n : Nat) z, findZ ((c : Int), (n : Int)) es = some z → z < N
theorem symLt_lay {N : Int} (hN : 0 ≤ N) : ∀ (ts : List Tell) (es : List ((Int × Int) × Int)), (∀ t ∈ ts, (t.1 : Int) < N) → symLt N es → symLt N (layM ts es)
  | [], es, _, h => h
  | t :: ts, es, ht, h => by
    refine symLt_lay hN ts (oneM es t) (fun x hx => ht x (List.mem_cons_of_mem _ hx)) fun c n z hz => ?_
    rw [findZ_one] at hz
    split at hz
    · injection hz with hz; omega
    · split at hz
      · injection hz with hz; rw [← hz]; exact ht t List.mem_cons_self
      · exact h c n z hz
theorem symLt_all {ls : List Int} {N : Int} (hN : (ls.length : Int) ≤ N) : symLt N (layM (allT ls) []) :=
  symLt_lay (by omega) _ [] (fun t ht => by have := (allT_mem ht).1; omega) fun c n z hz => by cases hz
theorem pSym_lt {es : List ((Int × Int) × Int)} {N : Int} (hes : symLt N es) {row : List Bool} {lim : Nat} : ∀ (f c n : Nat) (s : DS) {v : Int} {s' : DS}, (pSym es f c n).run row lim s = .ok (v, s') → 0 ≤ v ∧ v < N
  | 0, c, n, s, v, s', h => by cases h
  | f + 1, c, n, s, v, s', h => by
    obtain ⟨o, ho⟩ : ∃ o, findZ ((c : Int), (n : Int)) es = o := ⟨_, rfl⟩
    simp only [pSym, ho] at h
    cases o with
    | none => cases h
    | some z =>
      simp only at h
      split at h
      · rename_i hz
        simp only [DP.run, Except.ok.injEq, Prod.mk.injEq] at h
        rw [← h.1]; exact ⟨hz, hes c n z ho⟩
      · simp only [DP.run] at h
        split at h
        · exact pSym_lt hes f _ _ _ h
        · cases h
theorem tSym_lt {es : List ((Int × Int) × Int)} {N : Int} (hes : symLt N es) {row : List Bool} {lim : Nat} {s s' : DS} {v : Int} (h : (tSym es).run row lim s = .ok (v, s')) : 0 ≤ v ∧ v < N := pSym_lt hes 17 0 0 s h
theorem pSym_out {es : List ((Int × Int) × Int)} {row : List Bool} {lim : Nat} : ∀ (f c n : Nat) (s : DS) {v : Int} {s' : DS}, (pSym es f c n).run row lim s = .ok (v, s') → s'.out = s.out
  | 0, c, n, s, v, s', h => by cases h
  | f + 1, c, n, s, v, s', h => by
    obtain ⟨o, ho⟩ : ∃ o, findZ ((c : Int), (n : Int)) es = o := ⟨_, rfl⟩
    simp only [pSym, ho] at h
    cases o with
    | none => cases h
    | some z =>
      simp only at h
      split at h
      · simp only [DP.run, Except.ok.injEq, Prod.mk.injEq] at h
        rw [← h.2]
      · simp only [DP.run] at h
        split at h
        · have h2 := pSym_out f _ _ _ h
          exact h2
        · cases h
theorem tSym_out {es : List ((Int × Int) × Int)} {row : List Bool} {lim : Nat} {s s' : DS} {v : Int} (h : (tSym es).run row lim s = .ok (v, s')) : s'.out = s.out := pSym_out 17 0 0 s h
theorem pFar_out {v each : Nat} {row : List Bool} {lim : Nat} {s s' : DS} {z : Int} (h : (pFar v each).run row lim s = .ok (z, s')) : s'.out = s.out := by
  unfold pFar at h
  split at h
  · simp only [DP.run, Except.ok.injEq, Prod.mk.injEq] at h; rw [← h.2]
  · simp only [DP.run] at h
    split at h
    · simp only [Except.ok.injEq, Prod.mk.injEq] at h; rw [← h.2]
    · cases h

section

variable {K Kp : AV → AH → Prop} {xs : List Int} {lim gb cb g c : Nat} {s : DS}

theorem zH_nb : nbH 4 (zH lim gb cb xs g c s) := ⟨by simp [Cont.nb, AV.nbl, AV.nb, AO.nb], rfl, trivial, trivial, trivial⟩
theorem z_frame (E : AH) {f : Nat} {args : List AV} (h : CallA Try.prog f args (zH lim gb cb xs g c s) (fun r M => ∃ g' c' s', M = zH lim gb cb xs g' c' s' ∧ r.nb 4 = true ∧ K r (M ++ E)) (fun r M => ∃ g' c' s', M = zH lim gb cb xs g' c' s' ∧ r.nb 4 = true ∧ Kp r (M ++ E)))
    (ha : AV.nbl 4 args = true) : CallA Try.prog f args (zH lim gb cb xs g c s ++ E) K Kp := by
  refine CallA.frame E h ha zH_nb (fun o ho => ?_) ?_ ?_
  · simp only [zH, List.mem_cons, List.not_mem_nil, or_false] at ho
    rcases ho with rfl | rfl | rfl | rfl <;> rfl
  · rintro r M' ⟨g', c', s', rfl, h1, h2⟩
    exact ⟨rfl, ⟨rfl, rfl, rfl, rfl, rfl⟩, zH_nb, h1, h2⟩
  · rintro r M' ⟨g', c', s', rfl, h1, h2⟩
    exact ⟨rfl, ⟨rfl, rfl, rfl, rfl, rfl⟩, zH_nb, h1, h2⟩
theorem number_at (E : AH) {n : Nat} (ok : ZOk xs lim c s) (hn : n ≤ 16) (h0 : s.a + n ≤ (unpack xs).length → K (.int .i64 (num (((unpack xs).drop s.a).take n))) (zH lim gb cb xs g c { s with a := s.a + n } ++ E))
    (h1 : ¬ s.a + n ≤ (unpack xs).length → Kp (faultV 50) (zH lim gb cb xs g c s ++ E)) :
    CallA Try.prog 19 [.ptr 0 0 0, .int .i64 (n : Int)] (zH lim gb cb xs g c s ++ E) K Kp :=
  z_frame E (number_call ok hn (fun h => ⟨_, _, _, rfl, rfl, h0 h⟩) (fun h => ⟨_, _, _, rfl, rfl, h1 h⟩)) rfl
theorem come_at (E : AH) {v : Int} (ok : ZOk xs lim c s) (hv : 0 ≤ v ∧ v < 256) (h0 : ∀ g' c', ¬ lim ≤ s.out.length → ZOk xs lim c' { s with out := s.out ++ [v] } → K (.tup []) (zH lim gb cb xs g' c' { s with out := s.out ++ [v] } ++ E))
    (h1 : lim ≤ s.out.length → Kp (faultV 81) (zH lim gb cb xs g c s ++ E)) :
    CallA Try.prog 32 [.ptr 0 0 0, .int .u8 v] (zH lim gb cb xs g c s ++ E) K Kp :=
  z_frame E (come_call ok hv (fun g' c' h k => ⟨_, _, _, rfl, rfl, h0 g' c' h k⟩) (fun h => ⟨_, _, _, rfl, rfl, h1 h⟩)) rfl
theorem far_at (E : AH) {v each : Nat} (ok : ZOk xs lim c s) (he : each = 2 ∨ each = 4) (hv : v < 30) (h0 : ∀ z s', (pFar v each).run (unpack xs) lim s = .ok (z, s') → ZOk xs lim c s' → 0 ≤ z ∧ z < 100000 → K (.int .i64 z) (zH lim gb cb xs g c s' ++ E))
    (h1 : ∀ e s', (pFar v each).run (unpack xs) lim s = .error e → Kp (faultV e) (zH lim gb cb xs g c s' ++ E)) :
    CallA Try.prog 51 [.ptr 0 0 0, .int .i64 (v : Int), .int .i64 (each : Int)] (zH lim gb cb xs g c s ++ E) K Kp :=
  z_frame E (far_call ok he hv (fun z s' h1 h2 h3 => ⟨_, _, _, rfl, rfl, h0 z s' h1 h2 h3⟩) (fun e s' h => ⟨_, _, _, rfl, rfl, h1 e s' h⟩)) rfl
theorem ssame {α : Type} {l : List α} {i : Nat} {x : α} (h : l[i]? = some x) : l.set i x = l := by
  obtain ⟨h1, h2⟩ := List.getElem?_eq_some_iff.1 h
  rw [← h2, List.set_getElem_self]
theorem symbol_at (E : AH) (i : Nat) {es : List ((Int × Int) × Int)} (hi1 : E[i]? = some (mapO es)) (hi2 : E[i + 1]? = some (tabO (i + 4))) (ok : ZOk xs lim c s) (hes : keyOk es)
    (hap : (apartT [.own 0, .own 1, .own 2, .own 3, .own (i + 4), .own (i + 5)] && AV.w0l [.own 0, .own 1, .own 2, .own 3, .own (i + 4), .own (i + 5)] [.ptr 0 0 0, .ptr 5 0 0]) = true)
    (h0 : ∀ v s', (tSym es).run (unpack xs) lim s = .ok (v, s') → ZOk xs lim c s' → K (.int .i64 v) (zH lim gb cb xs g c s' ++ E))
    (h1 : ∀ e s', (tSym es).run (unpack xs) lim s = .error e → Kp (faultV e) (zH lim gb cb xs g c s' ++ E)) :
    CallA Try.prog 50 [.ptr 0 0 0, .ptr (i + 5) 0 0] (zH lim gb cb xs g c s ++ E) K Kp := by
  have key : ∀ s', setH [.own 0, .own 1, .own 2, .own 3, .own (i + 4), .own (i + 5)] (zH lim gb cb xs g c s ++ E).length [.own 0, .own 1, .own 2, .own 3, .own (i + 4), .own (i + 5)] (zH lim gb cb xs g c s' ++ [mapO es, tabO 4]) (zH lim gb cb xs g c s ++ E) = zH lim gb cb xs g c s' ++ E := by
    intro s'
    show ((zH lim gb cb xs g c s' ++ E).set (i + 4) (AO.one true 0 ((Cont.map (.pair .i64 .i64) (mzM es)).rn [.own 0, .own 1, .own 2, .own 3, .own (i + 4), .own (i + 5)] (zH lim gb cb xs g c s ++ E).length))).set (i + 5) (tabO (i + 4)) ++ [] = _
    rw [mz_rn, List.append_nil]
    show zH lim gb cb xs g c s' ++ (E.set i (mapO es)).set (i + 1) (tabO (i + 4)) = _
    rw [ssame hi1, ssame hi2]
  refine CallA.lift [.own 0, .own 1, .own 2, .own 3, .own (i + 4), .own (i + 5)] (symbol_call (es := es) (K := fun r M => ∃ v s', r = .int .i64 v ∧ M = zH lim gb cb xs g c s' ++ [mapO es, tabO 4] ∧ K r (zH lim gb cb xs g c s' ++ E)) (Kp := fun r M => ∃ e s', r = faultV e ∧ M = zH lim gb cb xs g c s' ++ [mapO es, tabO 4] ∧ Kp r (zH lim gb cb xs g c s' ++ E)) ok hes
    (fun v s' h k => ⟨v, s', rfl, rfl, h0 v s' h k⟩) (fun e s' h => ⟨e, s', rfl, rfl, h1 e s' h⟩)) rfl hap
    ⟨⟨rfl, rfl⟩, ⟨rfl, rfl⟩, ⟨rfl, rfl⟩, ⟨rfl, rfl⟩, ⟨?_, rfl⟩, ⟨?_, rfl⟩, trivial⟩ ⟨rfl, rfl, trivial, trivial, mz_w0 _ (.pair .i64 .i64) es, rfl, trivial⟩ ?_ ?_
  · show E[i]? = some (AO.one true 0 ((Cont.map (.pair .i64 .i64) (mzM es)).rn _ _))
    rw [mz_rn]; exact hi1
  · exact hi2
  · rintro r M' ⟨v, s', rfl, rfl, hk⟩
    refine ⟨⟨rfl, rfl, rfl, rfl, rfl, rfl, rfl⟩, ?_⟩
    rw [key]
    exact hk
  · rintro r M' ⟨v, s', rfl, rfl, hk⟩
    refine ⟨⟨rfl, rfl, rfl, rfl, rfl, rfl, rfl⟩, ?_⟩
    rw [key]
    exact hk
end

end Go.Proofs.Yteinenklppbjkaa
