/- Layer 23: a page that writes, in the heap of Write. -/
import Derived.Test.YtedlpkibdjccdaaM13

set_option linter.unusedVariables false

set_option linter.unusedSimpArgs false

open Go.RowKit

namespace Go.Proofs.Ytedlpkibdjccdaa

set_option maxRecDepth 10000

theorem sameY_at {m : Msg} {M : AH} {z cS cB : Nat} {hv fv sv dv : AV} {Z : AO} {K Kp : AV → AH → Prop} (hS : M[0]? = some (.one false 0 (.ints .u32 m.sums cS))) (hB : M[1]? = some (.one false 0 (.ints .u8 m.body cB))) (hZ : M[z]? = some Z)
    (kh : isB hv (ofM m).has) (kf : isB fv (ofM m).full) (kz : SlY m z sv dv Z) (la : (ofM m).sums.length ≤ 1000000000 ∧ (ofM m).body.length ≤ 1000000000) (ls : m.sums.length ≤ 1000000000) (lb : m.body.length ≤ 1000000000)
    (h1 : ofM m = m → K (.bo true) (M ++ [.gone, .gone])) (h0 : ofM m ≠ m → K (.bo false) (M ++ [.gone, .gone])) :
    CallA Try.prog 21 [.agg (msL hv fv sv dv (ofM m)), .agg (msL (.bo m.has) (.bo m.full) (.sl 0 0 0 m.sums.length cS) (.sl 1 0 0 m.body.length cB) m)] M K Kp := by
  cases kz with
  | N e1 e2 =>
    refine CallA.lift [.win 0 0 0, .win 1 0 0] (sameN (a := ofM m) (b := m) (c0 := 0) (c3 := 0) (c1 := cS) (c2 := cS) (d1 := cB) (d2 := cB) (K := fun r M' => M' = [.one false 0 (.ints .u32 m.sums cS), .one false 0 (.ints .u8 m.body cB), .gone, .gone] ∧ ((ofM m = m ∧ r = .bo true) ∨ (ofM m ≠ m ∧ r = .bo false))) (Kp := fun _ _ => False) kh kf e1 e2 la ls lb
      (fun e => ⟨rfl, .inl ⟨e, rfl⟩⟩) (fun e => ⟨rfl, .inr ⟨e, rfl⟩⟩)) ?_ ?_ ⟨⟨_, _, _, rfl, slot_one hS, winI0⟩, ⟨_, _, _, rfl, slot_one hB, winI0⟩, trivial⟩ ⟨trivial, trivial, trivial⟩ ?_ (fun _ _ h => h.elim)
    · simp [AV.rnl, AV.rn, rnI, rnG, rnF, TE.i, isB_rn kh, isB_rn kf]
    · simp [apartT, TE.isOwn, TE.i, AV.w0l, AV.w0, w0T, isB_w0 kh, isB_w0 kf]
    · rintro r M' ⟨rfl, ⟨e, rfl⟩ | ⟨e, rfl⟩⟩
      · exact ⟨⟨rfl, rfl, rfl⟩, h1 e⟩
      · exact ⟨⟨rfl, rfl, rfl⟩, h0 e⟩
  | S e1 =>
    refine CallA.lift [.win z 0 0, .win 0 0 0, .win 1 0 0] (sameS (a := ofM m) (b := m) (c0 := (ofM m).sums.length) (c3 := (ofM m).sums.length) (c1 := cS) (c2 := cS) (d1 := cB) (d2 := cB) (K := fun r M' => M' = [.one false 0 (.ints .u32 (ofM m).sums (ofM m).sums.length), .one false 0 (.ints .u32 m.sums cS), .one false 0 (.ints .u8 m.body cB), .gone, .gone] ∧ ((ofM m = m ∧ r = .bo true) ∨ (ofM m ≠ m ∧ r = .bo false))) (Kp := fun _ _ => False) kh kf e1 la ls lb
      (fun e => ⟨rfl, .inl ⟨e, rfl⟩⟩) (fun e => ⟨rfl, .inr ⟨e, rfl⟩⟩)) ?_ ?_ ⟨⟨_, _, _, rfl, slot_one hZ, winI0⟩, ⟨_, _, _, rfl, slot_one hS, winI0⟩, ⟨_, _, _, rfl, slot_one hB, winI0⟩, trivial⟩ ⟨trivial, trivial, trivial, trivial⟩ ?_ (fun _ _ h => h.elim)
    · simp [AV.rnl, AV.rn, rnI, rnG, rnF, TE.i, isB_rn kh, isB_rn kf]
    · simp [apartT, TE.isOwn, TE.i, AV.w0l, AV.w0, w0T, isB_w0 kh, isB_w0 kf]
    · rintro r M' ⟨rfl, ⟨e, rfl⟩ | ⟨e, rfl⟩⟩
      · exact ⟨⟨rfl, rfl, rfl, rfl⟩, h1 e⟩
      · exact ⟨⟨rfl, rfl, rfl, rfl⟩, h0 e⟩
  | B g d e1 e2 =>
    refine CallA.lift [.win z g 0, .win 0 0 0, .win 1 0 0] (sameB (a := ofM m) (b := m) (c0 := d) (c3 := d) (c1 := cS) (c2 := cS) (d1 := cB) (d2 := cB) (K := fun r M' => M' = [.one false 0 (.ints .u8 (ofM m).body d), .one false 0 (.ints .u32 m.sums cS), .one false 0 (.ints .u8 m.body cB), .gone, .gone] ∧ ((ofM m = m ∧ r = .bo true) ∨ (ofM m ≠ m ∧ r = .bo false))) (Kp := fun _ _ => False) kh kf e1 la ls lb
      (fun e => ⟨rfl, .inl ⟨e, rfl⟩⟩) (fun e => ⟨rfl, .inr ⟨e, rfl⟩⟩)) ?_ ?_ ⟨⟨_, _, _, rfl, slot_one hZ, winI0⟩, ⟨_, _, _, rfl, slot_one hS, winI0⟩, ⟨_, _, _, rfl, slot_one hB, winI0⟩, trivial⟩ ⟨trivial, trivial, trivial, trivial⟩ ?_ (fun _ _ h => h.elim)
    · simp [AV.rnl, AV.rn, rnI, rnG, rnF, TE.i, isB_rn kh, isB_rn kf]
    · simp [apartT, TE.isOwn, TE.i, AV.w0l, AV.w0, w0T, isB_w0 kh, isB_w0 kf]
    · rintro r M' ⟨rfl, ⟨e, rfl⟩ | ⟨e, rfl⟩⟩
      · exact ⟨⟨rfl, rfl, rfl, rfl⟩, h1 e⟩
      · exact ⟨⟨rfl, rfl, rfl, rfl⟩, h0 e⟩
theorem pen_at {M : AH} {v : Int} {n g cb : Nat} {b : List Int} {K Kp : AV → AH → Prop} (hn : n ≤ 8) (hv : 0 ≤ v ∧ v < 18446744073709551616) (hb : b.length ≤ cb) (hb1 : b.length ≤ 1000000000)
    (h : ∀ g' cb', (b ++ beW v n).length ≤ cb' → K (.int .u64 v) (M ++ [.one true 0 (.cells [.ff, .tt, .sl (M.length + 1) g' 0 (b ++ beW v n).length cb']), .one true g' (.ints .u8 (b ++ beW v n) cb')])) :
    CallA Try.prog 22 [.ptr M.length 0 0, .int .u64 v, .int .i64 n] (M ++ [.one true 0 (.cells [.ff, .tt, .sl (M.length + 1) g 0 b.length cb]), .one true g (.ints .u8 b cb)]) K Kp := by
  refine CallA.lift [.own M.length, .own (M.length + 1)] (numH_call (g := g) (cb := cb) (c0 := .ff) (R := []) (Kp := fun _ _ => False) (K := fun r M' => ∃ g' cb', r = .int .u64 v ∧ (b ++ beW v n).length ≤ cb' ∧ M' = [.one true 0 (.cells [.ff, .tt, .sl 1 g' 0 (b ++ beW v n).length cb']), .one true g' (.ints .u8 (b ++ beW v n) cb')]) hn hv hb hb1 rfl rfl (fun g' cb' k => ⟨g', cb', rfl, k, rfl⟩)) rfl ?_ ?_ ⟨rfl, trivial, trivial⟩ ?_ (fun _ _ h => h.elim)
  · have : Nat.beq M.length (M.length + 1) = false := by
      cases hb : Nat.beq M.length (M.length + 1) with
      | false => rfl
      | true => have := Nat.eq_of_beq_eq_true hb; omega
    simp [apartT, TE.isOwn, TE.i, this, AV.w0l, AV.w0, w0T]
  · refine ⟨⟨?_, rfl⟩, ⟨?_, rfl⟩, trivial⟩
    · simp [AO.rn, Cont.rn, AV.rnl, AV.rn, rnI, rnG, rnF, TE.i]
    · simp [AO.rn, Cont.rn]
  · rintro r M' ⟨g', cb', rfl, k, rfl⟩
    refine ⟨⟨rfl, rfl, rfl⟩, ?_⟩
    have := h g' cb' k
    simpa [setH, rnH, AO.rn, Cont.rn, AV.rnl, AV.rn, rnI, rnG, rnF, TE.i] using this
abbrev g7 : AH := [.gone, .gone, .gone, .gone, .gone, .gone, .gone]

section

variable {c0 hv fv : AV} {g cb gs cS cB cc : Nat} {b : List Int} {m : Msg} {K Kp : AV → AH → Prop}

theorem fieldsWg (kt : in8 m.ty) (kc : isB c0 false) (kh : isB hv m.has) (kf : isB fv m.full)
    (hn : ¬ (1 ≤ m.ty ∧ m.ty ≤ 6) → K .ns (pgW c0 hv fv g cb gs cS cB b m ++ g7))
    (h : 1 ≤ m.ty ∧ m.ty ≤ 6 → ∀ i n, 4 ≤ i → i < 11 → K (.sl i 0 0 n n) (pgW c0 hv fv g cb gs cS cB b m ++ g7)) :
    CallA Try.prog 19 [.ptr 0 0 0] (pgW c0 hv fv g cb gs cS cB b m) K Kp := by
  have hNB : nbH 11 (pgW c0 hv fv g cb gs cS cB b m ++ g7) := ⟨by simp [AO.nb, Cont.nb, AV.nbl, AV.nb, isB_nb kc, isB_nb kh, isB_nb kf], trivial, trivial, trivial, trivial, trivial, trivial, trivial, trivial, trivial, trivial, trivial⟩
  refine CallA.post_sub ?_
  refine fieldsW_call (S := m.sums) (B := m.body) kt (isB_nb kc 11) rfl rfl (by simp [AV.nbl, AV.nb, isB_nb kh 11, isB_nb kf 11]) (fun hx => ?_) (fun hx => ?_)
  · exact ⟨pgW c0 hv fv g cb gs cS cB b m ++ g7, (And.intro rfl (And.intro rfl (And.intro rfl (And.intro rfl (And.intro trivial (And.intro trivial (And.intro trivial (And.intro trivial (And.intro trivial (And.intro trivial (And.intro trivial (trivial)))))))))))), hNB, rfl, hn hx⟩
  · have h2 := h hx
    obtain e | e | e | e | e | e : m.ty = 1 ∨ m.ty = 2 ∨ m.ty = 3 ∨ m.ty = 4 ∨ m.ty = 5 ∨ m.ty = 6 := by omega
    all_goals
      rw [e]
      refine ⟨pgW c0 hv fv g cb gs cS cB b m ++ g7, ?_, hNB, rfl, h2 _ _ (by decide) (by decide)⟩
      rw [← e]
      first
      | exact (And.intro rfl (And.intro rfl (And.intro rfl (And.intro rfl (And.intro trivial (And.intro trivial (And.intro trivial (And.intro trivial (And.intro trivial (And.intro trivial (And.intro trivial (trivial))))))))))))
      | (rw [e]; refine And.intro ?_ (And.intro rfl (And.intro rfl (And.intro rfl (And.intro trivial (And.intro trivial (And.intro trivial (And.intro trivial (And.intro trivial (And.intro trivial (And.intro trivial (trivial))))))))))); rw [← e])

/-- The heap of Write when its page is laid. -/
abbrev wrH (E : AH) (c0 hv fv : AV) (g cb gs cS cB cc : Nat) (b : List Int) (m : Msg) : AH :=
  [.one false 0 (.ints .u32 m.sums cc), .one false 0 (.ints .u8 m.body cB), .one true 0 (.cells (msL (.bo m.has) (.bo m.full) (.sl 0 0 0 m.sums.length cc) (.sl 1 0 0 m.body.length cB) m)),
    .one true 0 (.cells (pgL c0 .tt (.sl 5 g 0 b.length cb) hv fv (.sl 4 gs 0 m.sums.length cS) (.sl 1 0 0 m.body.length cB) m)), .one true gs (.ints .u32 m.sums cS), .one true g (.ints .u8 b cb)] ++ E
abbrev tW : List TE := [.own 3, .own 5, .own 4, .win 1 0 0]

theorem wrLift {f : Nat} {K0 : AV → AH → Prop} (E : AH) (kc : isB c0 false) (kh : isB hv m.has) (kf : isB fv m.full) (h : CallA Try.prog f [.ptr 0 0 0] (pgW c0 hv fv g cb gs cS cB b m) K0 (fun _ _ => False))
    (hK : ∀ r M', K0 r M' → keepH tW (pgW c0 hv fv g cb gs cS cB b m) M' ∧ K (r.rn tW (6 + E.length)) (setH tW (6 + E.length) tW M' (wrH E c0 hv fv g cb gs cS cB cc b m))) :
    CallA Try.prog f [.ptr 3 0 0] (wrH E c0 hv fv g cb gs cS cB cc b m) K Kp := by
  have hl : (wrH E c0 hv fv g cb gs cS cB cc b m).length = 6 + E.length := by simp [wrH]; omega
  refine CallA.lift tW h rfl rfl ?_ ?_ (by rw [hl]; exact hK) (fun _ _ h => h.elim)
  · refine ⟨⟨?_, rfl⟩, ⟨rfl, rfl⟩, ⟨rfl, rfl⟩, ⟨_, _, _, rfl, rfl, winI0⟩, trivial⟩
    simp [wrH, AO.rn, Cont.rn, AV.rnl, AV.rn, rnI, rnG, rnF, TE.i, isB_rn kc, isB_rn kh, isB_rn kf]
  · exact ⟨by simp [AO.w0, Cont.w0, AV.w0l, AV.w0, w0T, isB_w0 kc, isB_w0 kh, isB_w0 kf], trivial, trivial, trivial, trivial⟩

theorem setW {M : Nat} {c0' hv' fv' : AV} {g' cb' : Nat} {b' : List Int} {v : Bool} (E : AH) (k1 : isB c0' v) (k2 : isB hv' m.has) (k3 : isB fv' m.full) :
    setH tW M tW (pgW c0' hv' fv' g' cb' gs cS cB b' m ++ g7) (wrH E c0 hv fv g cb gs cS cB cc b m) = wrH (E ++ g7) c0' hv' fv' g' cb' gs cS cB cc b' m := by
  simp [pgW, wrH, setH, rnH, AO.rn, Cont.rn, AV.rnl, AV.rn, rnI, rnG, rnF, TE.i, isB_rn k1, isB_rn k2, isB_rn k3]
theorem fieldsW_at (E : AH) (kt : in8 m.ty) (kc : isB c0 false) (kh : isB hv m.has) (kf : isB fv m.full)
    (hn : ¬ (1 ≤ m.ty ∧ m.ty ≤ 6) → K .ns (wrH (E ++ g7) c0 hv fv g cb gs cS cB cc b m))
    (h : 1 ≤ m.ty ∧ m.ty ≤ 6 → ∀ i n, K (.sl i 0 0 n n) (wrH (E ++ g7) c0 hv fv g cb gs cS cB cc b m)) :
    CallA Try.prog 19 [.ptr 3 0 0] (wrH E c0 hv fv g cb gs cS cB cc b m) K Kp := by
  refine wrLift E kc kh kf (K0 := fun r M' => M' = pgW c0 hv fv g cb gs cS cB b m ++ g7 ∧ ((¬ (1 ≤ m.ty ∧ m.ty ≤ 6) ∧ r = .ns) ∨ ((1 ≤ m.ty ∧ m.ty ≤ 6) ∧ ∃ i n, 4 ≤ i ∧ r = .sl i 0 0 n n)))
    (fieldsWg kt kc kh kf (fun hx => ⟨rfl, .inl ⟨hx, rfl⟩⟩) (fun hx i n h4 _ => ⟨rfl, .inr ⟨hx, i, n, h4, rfl⟩⟩)) ?_
  rintro r M' ⟨rfl, ⟨hx, rfl⟩ | ⟨hx, i, n, h4, rfl⟩⟩
  · refine ⟨⟨rfl, rfl, rfl, rfl, rfl⟩, ?_⟩
    rw [setW E kc kh kf]
    exact hn hx
  · refine ⟨⟨rfl, rfl, rfl, rfl, rfl⟩, ?_⟩
    rw [setW E kc kh kf]
    have hg : ∀ M, (AV.sl i 0 0 n n).rn tW M = .sl (M + (i - 4)) 0 0 n n := by
      intro M
      have : tW[i]? = none := List.getElem?_eq_none (by simp [tW]; omega)
      simp [AV.rn, rnI, rnG, rnF, this]
    rw [hg]
    exact h hx _ n
theorem overW_at (E : AH) (o : okW c0 hv fv cb cS cB b m) (ht : 1 ≤ m.ty ∧ m.ty ≤ 6) (hl : b.length ≤ 1000)
    (h : ∀ c0' hv' fv' g' cb', okW c0' hv' fv' cb' cS cB (b ++ bodyF m) m → K (.tup []) (wrH (E ++ g7) c0' hv' fv' g' cb' gs cS cB cc (b ++ bodyF m) m)) :
    CallA Try.prog 20 [.ptr 3 0 0] (wrH E c0 hv fv g cb gs cS cB cc b m) K Kp := by
  refine wrLift E o.kc o.kh o.kf (K0 := fun r M' => ∃ c0' hv' fv' g' cb', r = .tup [] ∧ M' = pgW c0' hv' fv' g' cb' gs cS cB (b ++ bodyF m) m ++ g7 ∧ okW c0' hv' fv' cb' cS cB (b ++ bodyF m) m)
    (overW o ht hl (fun c0' hv' fv' g' cb' k => ⟨c0', hv', fv', g', cb', rfl, rfl, k⟩)) ?_
  rintro r M' ⟨c0', hv', fv', g', cb', rfl, rfl, k⟩
  refine ⟨⟨rfl, rfl, rfl, rfl, rfl⟩, ?_⟩
  rw [setW E k.kc k.kh k.kf]
  exact h c0' hv' fv' g' cb' k

theorem fieldsW_at1 (kc : isB c0 false) (kh : isB hv m.has) (kf : isB fv m.full) (e : m.ty = 1)
    (h : K (.sl 7 0 0 4 4) (wrH [.gone, .one true 0 (.cells [.fn (.func 28) [.ptr 3 0 0] [], .fn (.func 29) [.ptr 3 0 0] [], .fn (.func 30) [.ptr 3 0 0] [], .fn (.func 31) [.ptr 3 0 0] []]), .gone, .gone, .gone, .gone, .gone] c0 hv fv g cb gs cS cB cc b m)) :
    CallA Try.prog 19 [.ptr 3 0 0] (wrH [] c0 hv fv g cb gs cS cB cc b m) K Kp := by
  refine wrLift [] kc kh kf (K0 := fun r M' => r = .sl 5 0 0 4 4 ∧ M' = pgW c0 hv fv g cb gs cS cB b m ++ [.gone, .one true 0 (.cells [mth 28, mth 29, mth 30, mth 31]), .gone, .gone, .gone, .gone, .gone])
    (fieldsW1 (S := m.sums) (B := m.body) e (isB_nb kc 11) rfl rfl (by simp [AV.nbl, AV.nb, isB_nb kh 11, isB_nb kf 11]) ⟨rfl, rfl⟩) ?_
  rintro r M' ⟨rfl, rfl⟩
  refine ⟨⟨rfl, rfl, rfl, rfl, rfl⟩, ?_⟩
  have := h
  simpa [pgW, wrH, setH, rnH, AO.rn, Cont.rn, AV.rnl, AV.rn, rnI, rnG, rnF, TE.i, isB_rn kc, isB_rn kh, isB_rn kf] using this
theorem fieldsW_at2 (kc : isB c0 false) (kh : isB hv m.has) (kf : isB fv m.full) (e : m.ty = 2)
    (h : K (.sl 8 0 0 3 3) (wrH [.gone, .gone, .one true 0 (.cells [.fn (.func 28) [.ptr 3 0 0] [], .fn (.func 32) [.ptr 3 0 0] [], .fn (.func 33) [.ptr 3 0 0] []]), .gone, .gone, .gone, .gone] c0 hv fv g cb gs cS cB cc b m)) :
    CallA Try.prog 19 [.ptr 3 0 0] (wrH [] c0 hv fv g cb gs cS cB cc b m) K Kp := by
  refine wrLift [] kc kh kf (K0 := fun r M' => r = .sl 6 0 0 3 3 ∧ M' = pgW c0 hv fv g cb gs cS cB b m ++ [.gone, .gone, .one true 0 (.cells [mth 28, mth 32, mth 33]), .gone, .gone, .gone, .gone])
    (fieldsW2 (S := m.sums) (B := m.body) e (isB_nb kc 11) rfl rfl (by simp [AV.nbl, AV.nb, isB_nb kh 11, isB_nb kf 11]) ⟨rfl, rfl⟩) ?_
  rintro r M' ⟨rfl, rfl⟩
  refine ⟨⟨rfl, rfl, rfl, rfl, rfl⟩, ?_⟩
  have := h
  simpa [pgW, wrH, setH, rnH, AO.rn, Cont.rn, AV.rnl, AV.rn, rnI, rnG, rnF, TE.i, isB_rn kc, isB_rn kh, isB_rn kf] using this
theorem fieldsW_at3 (kc : isB c0 false) (kh : isB hv m.has) (kf : isB fv m.full) (e : m.ty = 3)
    (h : K (.sl 9 0 0 0 0) (wrH [.gone, .gone, .gone, .one true 0 (.cells []), .gone, .gone, .gone] c0 hv fv g cb gs cS cB cc b m)) :
    CallA Try.prog 19 [.ptr 3 0 0] (wrH [] c0 hv fv g cb gs cS cB cc b m) K Kp := by
  refine wrLift [] kc kh kf (K0 := fun r M' => r = .sl 7 0 0 0 0 ∧ M' = pgW c0 hv fv g cb gs cS cB b m ++ [.gone, .gone, .gone, .one true 0 (.cells []), .gone, .gone, .gone])
    (fieldsW3 (S := m.sums) (B := m.body) e (isB_nb kc 11) rfl rfl (by simp [AV.nbl, AV.nb, isB_nb kh 11, isB_nb kf 11]) ⟨rfl, rfl⟩) ?_
  rintro r M' ⟨rfl, rfl⟩
  refine ⟨⟨rfl, rfl, rfl, rfl, rfl⟩, ?_⟩
  have := h
  simpa [pgW, wrH, setH, rnH, AO.rn, Cont.rn, AV.rnl, AV.rn, rnI, rnG, rnF, TE.i, isB_rn kc, isB_rn kh, isB_rn kf] using this
theorem fieldsW_at4 (kc : isB c0 false) (kh : isB hv m.has) (kf : isB fv m.full) (e : m.ty = 4)
    (h : K (.sl 10 0 0 4 4) (wrH [.gone, .gone, .gone, .gone, .one true 0 (.cells [.fn (.func 34) [.ptr 3 0 0] [], .fn (.func 30) [.ptr 3 0 0] [], .fn (.func 35) [.ptr 3 0 0] [], .fn (.func 36) [.ptr 3 0 0] []]), .gone, .gone] c0 hv fv g cb gs cS cB cc b m)) :
    CallA Try.prog 19 [.ptr 3 0 0] (wrH [] c0 hv fv g cb gs cS cB cc b m) K Kp := by
  refine wrLift [] kc kh kf (K0 := fun r M' => r = .sl 8 0 0 4 4 ∧ M' = pgW c0 hv fv g cb gs cS cB b m ++ [.gone, .gone, .gone, .gone, .one true 0 (.cells [mth 34, mth 30, mth 35, mth 36]), .gone, .gone])
    (fieldsW4 (S := m.sums) (B := m.body) e (isB_nb kc 11) rfl rfl (by simp [AV.nbl, AV.nb, isB_nb kh 11, isB_nb kf 11]) ⟨rfl, rfl⟩) ?_
  rintro r M' ⟨rfl, rfl⟩
  refine ⟨⟨rfl, rfl, rfl, rfl, rfl⟩, ?_⟩
  have := h
  simpa [pgW, wrH, setH, rnH, AO.rn, Cont.rn, AV.rnl, AV.rn, rnI, rnG, rnF, TE.i, isB_rn kc, isB_rn kh, isB_rn kf] using this
theorem fieldsW_at5 (kc : isB c0 false) (kh : isB hv m.has) (kf : isB fv m.full) (e : m.ty = 5)
    (h : K (.sl 11 0 0 2 2) (wrH [.gone, .gone, .gone, .gone, .gone, .one true 0 (.cells [.fn (.func 33) [.ptr 3 0 0] [], .fn (.func 37) [.ptr 3 0 0] []]), .gone] c0 hv fv g cb gs cS cB cc b m)) :
    CallA Try.prog 19 [.ptr 3 0 0] (wrH [] c0 hv fv g cb gs cS cB cc b m) K Kp := by
  refine wrLift [] kc kh kf (K0 := fun r M' => r = .sl 9 0 0 2 2 ∧ M' = pgW c0 hv fv g cb gs cS cB b m ++ [.gone, .gone, .gone, .gone, .gone, .one true 0 (.cells [mth 33, mth 37]), .gone])
    (fieldsW5 (S := m.sums) (B := m.body) e (isB_nb kc 11) rfl rfl (by simp [AV.nbl, AV.nb, isB_nb kh 11, isB_nb kf 11]) ⟨rfl, rfl⟩) ?_
  rintro r M' ⟨rfl, rfl⟩
  refine ⟨⟨rfl, rfl, rfl, rfl, rfl⟩, ?_⟩
  have := h
  simpa [pgW, wrH, setH, rnH, AO.rn, Cont.rn, AV.rnl, AV.rn, rnI, rnG, rnF, TE.i, isB_rn kc, isB_rn kh, isB_rn kf] using this
theorem fieldsW_at6 (kc : isB c0 false) (kh : isB hv m.has) (kf : isB fv m.full) (e : m.ty = 6)
    (h : K (.sl 12 0 0 1 1) (wrH [.gone, .gone, .gone, .gone, .gone, .gone, .one true 0 (.cells [.fn (.func 33) [.ptr 3 0 0] []])] c0 hv fv g cb gs cS cB cc b m)) :
    CallA Try.prog 19 [.ptr 3 0 0] (wrH [] c0 hv fv g cb gs cS cB cc b m) K Kp := by
  refine wrLift [] kc kh kf (K0 := fun r M' => r = .sl 10 0 0 1 1 ∧ M' = pgW c0 hv fv g cb gs cS cB b m ++ [.gone, .gone, .gone, .gone, .gone, .gone, .one true 0 (.cells [mth 33])])
    (fieldsW6 (S := m.sums) (B := m.body) e (isB_nb kc 11) rfl rfl (by simp [AV.nbl, AV.nb, isB_nb kh 11, isB_nb kf 11]) ⟨rfl, rfl⟩) ?_
  rintro r M' ⟨rfl, rfl⟩
  refine ⟨⟨rfl, rfl, rfl, rfl, rfl⟩, ?_⟩
  have := h
  simpa [pgW, wrH, setH, rnH, AO.rn, Cont.rn, AV.rnl, AV.rn, rnI, rnG, rnF, TE.i, isB_rn kc, isB_rn kh, isB_rn kf] using this
end

/-- What Write answers. -/
def wireF (m : Msg) : List Int := beW m.ty 1 ++ beW ((bodyF m).length : Int) 4 ++ bodyF m
theorem ofM_le (m : Msg) : (ofM m).sums.length ≤ m.sums.length ∧ (ofM m).body.length ≤ m.body.length := by
  unfold ofM
  repeat' split
  all_goals simp [zeroM]
section

variable {cS cB : Nat} {m : Msg} {K Kp : AV → AH → Prop}

theorem mwriteT (o : okM m) (ls : m.sums.length ≤ 1000000000) (lb : m.body.length ≤ 1000000000) (kS : m.sums.length ≤ cS) (kB : m.body.length ≤ cB) (ht : ¬ (1 ≤ m.ty ∧ m.ty ≤ 6)) (h : K (.tup [.ns, .int .i64 230]) [.one false 0 (.ints .u32 m.sums cS), .one false 0 (.ints .u8 m.body cB), .gone, .gone, .gone, .gone, .gone, .gone, .gone, .gone, .gone, .gone, .gone]) :
    CallA Try.prog 11 [.agg (msL (.bo m.has) (.bo m.full) (.sl 0 0 0 m.sums.length cS) (.sl 1 0 0 m.body.length cB) m)] [.one false 0 (.ints .u32 m.sums cS), .one false 0 (.ints .u8 m.body cB)] K Kp := by
  refine CallA.post_sub ?_
  refine step11 (fun _ => [2, 3, 20, 31]) [] rfl ?_
  repeat ((conv => whnf); first | with_reducible refine O_step ?_ | with_reducible refine S_step ?_ | with_reducible refine D_step ?_ | with_reducible refine RO.exit ?_ | with_reducible refine RO.ret ?_ | ((with_reducible refine And.intro ?sc ?_); case sc => exact side) | ((with_reducible refine br_f ?sc ?_); case sc => exact sideB) | ((with_reducible refine br_t ?sc ?_); case sc => exact sideB))
  refine CallA.lift [.win 0 0 0] (clone32_call (xs := m.sums) (c0 := cS) (c := cS) (Kp := fun _ _ => False) (by omega)) rfl rfl ⟨⟨_, _, _, rfl, rfl, winI0⟩, trivial⟩ ⟨trivial, trivial⟩ ?_ (fun _ _ h => h.elim)
  rintro r M' ⟨g1, k1, rfl, rfl, hk1⟩
  refine ⟨⟨rfl, rfl⟩, ?_⟩
  repeat ((conv => whnf); first | with_reducible refine O_step ?_ | with_reducible refine S_step ?_ | with_reducible refine D_step ?_ | with_reducible refine RO.exit ?_ | with_reducible refine RO.ret ?_ | ((with_reducible refine And.intro ?sc ?_); case sc => exact side) | ((with_reducible refine br_f ?sc ?_); case sc => exact sideB) | ((with_reducible refine br_t ?sc ?_); case sc => exact sideB))
  refine CallA.view (Vw.ghost (i := 3) (k := 2) (x := .ints .u8 [] 0) rfl rfl ⟨rfl, rfl⟩) ?_
  refine (show CallA Try.prog 19 [.ptr 3 0 0] (wrH [] .ff (.bo m.has) (.bo m.full) 0 0 g1 k1 cB cS [] m) _ _ from ?_)
  refine fieldsW_at [] o.ty (.inr (.inl ⟨rfl, rfl⟩)) (.inl rfl) (.inl rfl) (fun hx => ?_) (fun hx => absurd hx ht)
  repeat ((conv => whnf); first | with_reducible refine O_step ?_ | with_reducible refine S_step ?_ | with_reducible refine D_step ?_ | with_reducible refine RO.exit ?_ | with_reducible refine RO.ret ?_ | ((with_reducible refine And.intro ?sc ?_); case sc => exact side) | ((with_reducible refine br_f ?sc ?_); case sc => exact sideB) | ((with_reducible refine br_t ?sc ?_); case sc => exact sideB))
  refine Exists.intro _ (And.intro ?_ (And.intro ?_ (And.intro ?_ h)))
  · exact (And.intro rfl (And.intro rfl (And.intro trivial (And.intro trivial (And.intro trivial (And.intro trivial (And.intro trivial (And.intro trivial (And.intro trivial (And.intro trivial (And.intro trivial (And.intro trivial (And.intro trivial (trivial))))))))))))))
  · exact ⟨trivial, trivial, trivial, trivial, trivial, trivial, trivial, trivial, trivial, trivial, trivial, trivial, trivial, trivial⟩
  · rfl
set_option maxHeartbeats 4000000 in
theorem mwrite1 (o : okM m) (ls : m.sums.length ≤ 1000000000) (lb : m.body.length ≤ 1000000000) (kS : m.sums.length ≤ cS) (kB : m.body.length ≤ cB) (e : m.ty = 1)
    (hL : m.body.length > 524288 ∨ m.sums.length > 256 → K (.tup [.ns, .int .i64 2]) [.one false 0 (.ints .u32 m.sums cS), .one false 0 (.ints .u8 m.body cB), .gone, .gone, .gone, .gone, .gone, .gone, .gone, .gone, .gone, .gone, .gone])
    (hF : ¬ (m.body.length > 524288 ∨ m.sums.length > 256) → ofM m ≠ m → K (.tup [.ns, .int .i64 231]) [.one false 0 (.ints .u32 m.sums cS), .one false 0 (.ints .u8 m.body cB), .gone, .gone, .gone, .gone, .gone, .gone, .gone, .gone, .gone, .gone, .gone, .gone, .gone, .gone, .gone, .gone, .gone, .gone, .gone, .gone, .gone, .gone, .gone, .gone, .gone, .gone, .gone, .gone, .gone])
    (hO : ¬ (m.body.length > 524288 ∨ m.sums.length > 256) → ofM m = m → ∀ g c, (wireF m).length ≤ c → K (.tup [.sl 32 g 0 (wireF m).length c, .int .i64 0]) [.one false 0 (.ints .u32 m.sums cS), .one false 0 (.ints .u8 m.body cB), .gone, .gone, .gone, .gone, .gone, .gone, .gone, .gone, .gone, .gone, .gone, .gone, .gone, .gone, .gone, .gone, .gone, .gone, .gone, .gone, .gone, .gone, .gone, .gone, .gone, .gone, .gone, .gone, .gone, .gone, .one true g (.ints .u8 (wireF m) c)]) :
    CallA Try.prog 11 [.agg (msL (.bo m.has) (.bo m.full) (.sl 0 0 0 m.sums.length cS) (.sl 1 0 0 m.body.length cB) m)] [.one false 0 (.ints .u32 m.sums cS), .one false 0 (.ints .u8 m.body cB)] K Kp := by
  refine CallA.post_sub ?_
  refine step11 (fun _ => [2, 3, 20, 31]) [] rfl ?_
  repeat ((conv => whnf); first | with_reducible refine O_step ?_ | with_reducible refine S_step ?_ | with_reducible refine D_step ?_ | with_reducible refine RO.exit ?_ | with_reducible refine RO.ret ?_ | ((with_reducible refine And.intro ?sc ?_); case sc => exact side) | ((with_reducible refine br_f ?sc ?_); case sc => exact sideB) | ((with_reducible refine br_t ?sc ?_); case sc => exact sideB))
  refine CallA.lift [.win 0 0 0] (clone32_call (xs := m.sums) (c0 := cS) (c := cS) (Kp := fun _ _ => False) (by omega)) rfl rfl ⟨⟨_, _, _, rfl, rfl, winI0⟩, trivial⟩ ⟨trivial, trivial⟩ ?_ (fun _ _ h => h.elim)
  rintro r M' ⟨g1, k1, rfl, rfl, hk1⟩
  refine ⟨⟨rfl, rfl⟩, ?_⟩
  repeat ((conv => whnf); first | with_reducible refine O_step ?_ | with_reducible refine S_step ?_ | with_reducible refine D_step ?_ | with_reducible refine RO.exit ?_ | with_reducible refine RO.ret ?_ | ((with_reducible refine And.intro ?sc ?_); case sc => exact side) | ((with_reducible refine br_f ?sc ?_); case sc => exact sideB) | ((with_reducible refine br_t ?sc ?_); case sc => exact sideB))
  refine CallA.view (Vw.ghost (i := 3) (k := 2) (x := .ints .u8 [] 0) rfl rfl ⟨rfl, rfl⟩) ?_
  refine (show CallA Try.prog 19 [.ptr 3 0 0] (wrH [] .ff (.bo m.has) (.bo m.full) 0 0 g1 k1 cB cS [] m) _ _ from ?_)
  have ht : 1 ≤ m.ty ∧ m.ty ≤ 6 := by omega
  refine fieldsW_at1 (.inr (.inl ⟨rfl, rfl⟩)) (.inl rfl) (.inl rfl) e ?_
  repeat ((conv => whnf); first | with_reducible refine O_step ?_ | with_reducible refine S_step ?_ | with_reducible refine D_step ?_ | with_reducible refine RO.exit ?_ | with_reducible refine RO.ret ?_ | ((with_reducible refine And.intro ?sc ?_); case sc => exact side) | ((with_reducible refine br_f ?sc ?_); case sc => exact sideB) | ((with_reducible refine br_t ?sc ?_); case sc => exact sideB))
  refine And.intro (fun hc => ?_) (fun hc => ?_)
  · have hq : (524288 : Int) < m.body.length := of_decide_eq_true hc
    repeat ((conv => whnf); first | with_reducible refine O_step ?_ | with_reducible refine S_step ?_ | with_reducible refine D_step ?_ | with_reducible refine RO.exit ?_ | with_reducible refine RO.ret ?_ | ((with_reducible refine And.intro ?sc ?_); case sc => exact side) | ((with_reducible refine br_f ?sc ?_); case sc => exact sideB) | ((with_reducible refine br_t ?sc ?_); case sc => exact sideB))
    refine Exists.intro _ (And.intro ?_ (And.intro ?_ (And.intro ?_ (hL (.inl (by omega))))))
    · exact (And.intro rfl (And.intro rfl (And.intro trivial (And.intro trivial (And.intro trivial (And.intro trivial (And.intro trivial (And.intro trivial (And.intro trivial (And.intro trivial (And.intro trivial (And.intro trivial (And.intro trivial (trivial))))))))))))))
    · exact ⟨trivial, trivial, trivial, trivial, trivial, trivial, trivial, trivial, trivial, trivial, trivial, trivial, trivial, trivial⟩
    · rfl
  have hqb : ¬ (524288 : Int) < m.body.length := of_decide_eq_false hc
  repeat ((conv => whnf); first | with_reducible refine O_step ?_ | with_reducible refine S_step ?_ | with_reducible refine D_step ?_ | with_reducible refine RO.exit ?_ | with_reducible refine RO.ret ?_ | ((with_reducible refine And.intro ?sc ?_); case sc => exact side) | ((with_reducible refine br_f ?sc ?_); case sc => exact sideB) | ((with_reducible refine br_t ?sc ?_); case sc => exact sideB))
  refine And.intro (fun hc => ?_) (fun hc => ?_)
  · have hq : (256 : Int) < m.sums.length := of_decide_eq_true hc
    repeat ((conv => whnf); first | with_reducible refine O_step ?_ | with_reducible refine S_step ?_ | with_reducible refine D_step ?_ | with_reducible refine RO.exit ?_ | with_reducible refine RO.ret ?_ | ((with_reducible refine And.intro ?sc ?_); case sc => exact side) | ((with_reducible refine br_f ?sc ?_); case sc => exact sideB) | ((with_reducible refine br_t ?sc ?_); case sc => exact sideB))
    refine Exists.intro _ (And.intro ?_ (And.intro ?_ (And.intro ?_ (hL (.inr (by omega))))))
    · exact (And.intro rfl (And.intro rfl (And.intro trivial (And.intro trivial (And.intro trivial (And.intro trivial (And.intro trivial (And.intro trivial (And.intro trivial (And.intro trivial (And.intro trivial (And.intro trivial (And.intro trivial (trivial))))))))))))))
    · exact ⟨trivial, trivial, trivial, trivial, trivial, trivial, trivial, trivial, trivial, trivial, trivial, trivial, trivial, trivial⟩
    · rfl
  have hqs : ¬ (256 : Int) < m.sums.length := of_decide_eq_false hc
  repeat ((conv => whnf); first | with_reducible refine O_step ?_ | with_reducible refine S_step ?_ | with_reducible refine D_step ?_ | with_reducible refine RO.exit ?_ | with_reducible refine RO.ret ?_ | ((with_reducible refine And.intro ?sc ?_); case sc => exact side) | ((with_reducible refine br_f ?sc ?_); case sc => exact sideB) | ((with_reducible refine br_t ?sc ?_); case sc => exact sideB))
  refine (show CallA Try.prog 20 [.ptr 3 0 0] (wrH [.gone, .one true 0 (.cells [.fn (.func 28) [.ptr 3 0 0] [], .fn (.func 29) [.ptr 3 0 0] [], .fn (.func 30) [.ptr 3 0 0] [], .fn (.func 31) [.ptr 3 0 0] []]), .gone, .gone, .gone, .gone, .gone] .ff (.bo m.has) (.bo m.full) 0 0 g1 k1 cB cS [] m) _ _ from ?_)
  refine overW_at [.gone, .one true 0 (.cells [.fn (.func 28) [.ptr 3 0 0] [], .fn (.func 29) [.ptr 3 0 0] [], .fn (.func 30) [.ptr 3 0 0] [], .fn (.func 31) [.ptr 3 0 0] []]), .gone, .gone, .gone, .gone, .gone] ⟨o, .inr (.inl ⟨rfl, rfl⟩), .inl rfl, .inl rfl, Nat.le_refl _, hk1, kB, by simp, by omega, by omega⟩ ht (by simp) (fun c0' hv' fv' g' cb' ok => ?_)
  repeat ((conv => whnf); first | with_reducible refine O_step ?_ | with_reducible refine S_step ?_ | with_reducible refine D_step ?_ | with_reducible refine RO.exit ?_ | with_reducible refine RO.ret ?_ | ((with_reducible refine And.intro ?sc ?_); case sc => exact side) | ((with_reducible refine br_f ?sc ?_); case sc => exact sideB) | ((with_reducible refine br_t ?sc ?_); case sc => exact sideB))
  have hbl : (bodyF m).length ≤ 10000000 := by simpa using ok.lb
  have hbc : (bodyF m).length ≤ cb' := by simpa using ok.kb
  refine (show CallA Try.prog 20 [.ptr 20 0 0] (wrH ([.gone, .one true 0 (.cells [.fn (.func 28) [.ptr 3 0 0] [], .fn (.func 29) [.ptr 3 0 0] [], .fn (.func 30) [.ptr 3 0 0] [], .fn (.func 31) [.ptr 3 0 0] []]), .gone, .gone, .gone, .gone, .gone] ++ g7) c0' hv' fv' g' cb' g1 k1 cB cS (bodyF m) m ++ [.one true 0 (.cells (pgL .ff .ff (.sl 5 g' 0 (bodyF m).length cb') .ff .ff .ns .ns (zeroM m.ty)))]) _ _ from ?_)
  refine overY_at (M := wrH ([.gone, .one true 0 (.cells [.fn (.func 28) [.ptr 3 0 0] [], .fn (.func 29) [.ptr 3 0 0] [], .fn (.func 30) [.ptr 3 0 0] [], .fn (.func 31) [.ptr 3 0 0] []]), .gone, .gone, .gone, .gone, .gone] ++ g7) c0' hv' fv' g' cb' g1 k1 cB cS (bodyF m) m) (i := 5) (g := g') (c := cb') rfl o ht (by omega) hbc (by omega) (fun c0y bvy hvy fvy svy dvy Z kh kf kz => ?_)
  repeat ((conv => whnf); first | with_reducible refine O_step ?_ | with_reducible refine S_step ?_ | with_reducible refine D_step ?_ | with_reducible refine RO.exit ?_ | with_reducible refine RO.ret ?_ | ((with_reducible refine And.intro ?sc ?_); case sc => exact side) | ((with_reducible refine br_f ?sc ?_); case sc => exact sideB) | ((with_reducible refine br_t ?sc ?_); case sc => exact sideB))
  obtain ⟨lo1, lo2⟩ := ofM_le m
  refine (show CallA Try.prog 21 [.agg (msL hvy fvy svy dvy (ofM m)), .agg (msL (.bo m.has) (.bo m.full) (.sl 0 0 0 m.sums.length cS) (.sl 1 0 0 m.body.length cB) m)] ((wrH ([.gone, .one true 0 (.cells [.fn (.func 28) [.ptr 3 0 0] [], .fn (.func 29) [.ptr 3 0 0] [], .fn (.func 30) [.ptr 3 0 0] [], .fn (.func 31) [.ptr 3 0 0] []]), .gone, .gone, .gone, .gone, .gone] ++ g7) c0' hv' fv' g' cb' g1 k1 cB cS (bodyF m) m ++ [.one true 0 (.cells (pgL c0y .ff bvy hvy fvy svy dvy (ofM m))), .gone, .gone, .gone, .gone, .gone, .gone, .gone, Z])) _ _ from ?_)
  refine sameY_at (M := (wrH ([.gone, .one true 0 (.cells [.fn (.func 28) [.ptr 3 0 0] [], .fn (.func 29) [.ptr 3 0 0] [], .fn (.func 30) [.ptr 3 0 0] [], .fn (.func 31) [.ptr 3 0 0] []]), .gone, .gone, .gone, .gone, .gone] ++ g7) c0' hv' fv' g' cb' g1 k1 cB cS (bodyF m) m ++ [.one true 0 (.cells (pgL c0y .ff bvy hvy fvy svy dvy (ofM m))), .gone, .gone, .gone, .gone, .gone, .gone, .gone, Z])) (z := 28) rfl rfl rfl kh kf kz ⟨by omega, by omega⟩ ls lb (fun e1 => ?_) (fun e1 => ?_)
  · repeat ((conv => whnf); first | with_reducible refine O_step ?_ | with_reducible refine S_step ?_ | with_reducible refine D_step ?_ | with_reducible refine RO.exit ?_ | with_reducible refine RO.ret ?_ | ((with_reducible refine And.intro ?sc ?_); case sc => exact side) | ((with_reducible refine br_f ?sc ?_); case sc => exact sideB) | ((with_reducible refine br_t ?sc ?_); case sc => exact sideB))
    refine CallA.view (Vw.ghost (i := 31) (k := 2) (x := .ints .u8 [] 0) rfl rfl ⟨rfl, rfl⟩) ?_
    have hty := o.ty
    rw [show m.ty % 18446744073709551616 = m.ty by omega]
    refine (show CallA Try.prog 22 [.ptr 31 0 0, .int .u64 m.ty, .int .i64 1] (((wrH ([.gone, .one true 0 (.cells [.fn (.func 28) [.ptr 3 0 0] [], .fn (.func 29) [.ptr 3 0 0] [], .fn (.func 30) [.ptr 3 0 0] [], .fn (.func 31) [.ptr 3 0 0] []]), .gone, .gone, .gone, .gone, .gone] ++ g7) c0' hv' fv' g' cb' g1 k1 cB cS (bodyF m) m ++ [.one true 0 (.cells (pgL c0y .ff bvy hvy fvy svy dvy (ofM m))), .gone, .gone, .gone, .gone, .gone, .gone, .gone, Z]) ++ [.gone, .gone]) ++ [.one true 0 (.cells [.ff, .tt, .sl 32 0 0 0 0]), .one true 0 (.ints .u8 [] 0)]) _ _ from ?_)
    refine pen_at (M := (wrH ([.gone, .one true 0 (.cells [.fn (.func 28) [.ptr 3 0 0] [], .fn (.func 29) [.ptr 3 0 0] [], .fn (.func 30) [.ptr 3 0 0] [], .fn (.func 31) [.ptr 3 0 0] []]), .gone, .gone, .gone, .gone, .gone] ++ g7) c0' hv' fv' g' cb' g1 k1 cB cS (bodyF m) m ++ [.one true 0 (.cells (pgL c0y .ff bvy hvy fvy svy dvy (ofM m))), .gone, .gone, .gone, .gone, .gone, .gone, .gone, Z]) ++ [.gone, .gone]) (v := m.ty) (n := 1) (b := []) (g := 0) (cb := 0) (by decide) (by have := o.ty; omega) (Nat.le_refl _) (by simp) (fun ga ca ka => ?_)
    repeat ((conv => whnf); first | with_reducible refine O_step ?_ | with_reducible refine S_step ?_ | with_reducible refine D_step ?_ | with_reducible refine RO.exit ?_ | with_reducible refine RO.ret ?_ | ((with_reducible refine And.intro ?sc ?_); case sc => exact side) | ((with_reducible refine br_f ?sc ?_); case sc => exact sideB) | ((with_reducible refine br_t ?sc ?_); case sc => exact sideB))
    rw [show ((bodyF m).length : Int) % 18446744073709551616 = (bodyF m).length by omega]
    refine (show CallA Try.prog 22 [.ptr 31 0 0, .int .u64 ((bodyF m).length : Int), .int .i64 4] (((wrH ([.gone, .one true 0 (.cells [.fn (.func 28) [.ptr 3 0 0] [], .fn (.func 29) [.ptr 3 0 0] [], .fn (.func 30) [.ptr 3 0 0] [], .fn (.func 31) [.ptr 3 0 0] []]), .gone, .gone, .gone, .gone, .gone] ++ g7) c0' hv' fv' g' cb' g1 k1 cB cS (bodyF m) m ++ [.one true 0 (.cells (pgL c0y .ff bvy hvy fvy svy dvy (ofM m))), .gone, .gone, .gone, .gone, .gone, .gone, .gone, Z]) ++ [.gone, .gone]) ++ [.one true 0 (.cells [.ff, .tt, .sl 32 ga 0 (beW m.ty 1).length ca]), .one true ga (.ints .u8 (beW m.ty 1) ca)]) _ _ from ?_)
    refine pen_at (M := (wrH ([.gone, .one true 0 (.cells [.fn (.func 28) [.ptr 3 0 0] [], .fn (.func 29) [.ptr 3 0 0] [], .fn (.func 30) [.ptr 3 0 0] [], .fn (.func 31) [.ptr 3 0 0] []]), .gone, .gone, .gone, .gone, .gone] ++ g7) c0' hv' fv' g' cb' g1 k1 cB cS (bodyF m) m ++ [.one true 0 (.cells (pgL c0y .ff bvy hvy fvy svy dvy (ofM m))), .gone, .gone, .gone, .gone, .gone, .gone, .gone, Z]) ++ [.gone, .gone]) (v := ((bodyF m).length : Int)) (n := 4) (b := beW m.ty 1) (g := ga) (cb := ca) (by decide) (by omega) ka (by rw [beW_length]; decide) (fun gb cb2 kb => ?_)
    have hbe : (beW m.ty 1 ++ beW ((bodyF m).length : Int) 4).length = 5 := by rw [List.length_append, beW_length, beW_length]
    repeat ((conv => whnf); first | with_reducible refine O_step ?_ | with_reducible refine S_step ?_ | with_reducible refine D_step ?_ | with_reducible refine RO.exit ?_ | with_reducible refine RO.ret ?_ | ((with_reducible refine And.intro ?sc ?_); case sc => exact side) | ((with_reducible refine br_f ?sc ?_); case sc => exact sideB) | ((with_reducible refine br_t ?sc ?_); case sc => exact sideB))
    intro zs hzs
    obtain rfl : zs = bodyF m := by rw [hzs]; exact List.take_length
    repeat ((conv => whnf); first | with_reducible refine O_step ?_ | with_reducible refine S_step ?_ | with_reducible refine D_step ?_ | with_reducible refine RO.exit ?_ | with_reducible refine RO.ret ?_ | ((with_reducible refine And.intro ?sc ?_); case sc => exact side) | ((with_reducible refine br_f ?sc ?_); case sc => exact sideB) | ((with_reducible refine br_t ?sc ?_); case sc => exact sideB))
    intro cz hcz
    repeat ((conv => whnf); first | with_reducible refine O_step ?_ | with_reducible refine S_step ?_ | with_reducible refine D_step ?_ | with_reducible refine RO.exit ?_ | with_reducible refine RO.ret ?_ | ((with_reducible refine And.intro ?sc ?_); case sc => exact side) | ((with_reducible refine br_f ?sc ?_); case sc => exact sideB) | ((with_reducible refine br_t ?sc ?_); case sc => exact sideB))
    have hw : (wireF m).length = (beW m.ty 1 ++ beW ((bodyF m).length : Int) 4).length + (bodyF m).length := List.length_append
    have := hO (by omega) e1 (gb + 1) cz (by rw [hw]; exact hcz)
    rw [hw] at this
    refine Exists.intro _ (And.intro ?_ (And.intro ?_ (And.intro ?_ (this))))
    · exact (And.intro rfl (And.intro rfl (And.intro trivial (And.intro trivial (And.intro trivial (And.intro trivial (And.intro trivial (And.intro trivial (And.intro trivial (And.intro trivial (And.intro trivial (And.intro trivial (And.intro trivial (And.intro trivial (And.intro trivial (And.intro trivial (And.intro trivial (And.intro trivial (And.intro trivial (And.intro trivial (And.intro trivial (And.intro trivial (And.intro trivial (And.intro trivial (And.intro trivial (And.intro trivial (And.intro trivial (And.intro trivial (And.intro trivial (And.intro trivial (And.intro trivial (And.intro trivial (And.intro rfl (trivial))))))))))))))))))))))))))))))))))
    · exact ⟨trivial, trivial, trivial, trivial, trivial, trivial, trivial, trivial, trivial, trivial, trivial, trivial, trivial, trivial, trivial, trivial, trivial, trivial, trivial, trivial, trivial, trivial, trivial, trivial, trivial, trivial, trivial, trivial, trivial, trivial, trivial, trivial, trivial, trivial⟩
    · rfl

  · repeat ((conv => whnf); first | with_reducible refine O_step ?_ | with_reducible refine S_step ?_ | with_reducible refine D_step ?_ | with_reducible refine RO.exit ?_ | with_reducible refine RO.ret ?_ | ((with_reducible refine And.intro ?sc ?_); case sc => exact side) | ((with_reducible refine br_f ?sc ?_); case sc => exact sideB) | ((with_reducible refine br_t ?sc ?_); case sc => exact sideB))
    refine Exists.intro _ (And.intro ?_ (And.intro ?_ (And.intro ?_ (hF (by omega) e1))))
    · exact (And.intro rfl (And.intro rfl (And.intro trivial (And.intro trivial (And.intro trivial (And.intro trivial (And.intro trivial (And.intro trivial (And.intro trivial (And.intro trivial (And.intro trivial (And.intro trivial (And.intro trivial (And.intro trivial (And.intro trivial (And.intro trivial (And.intro trivial (And.intro trivial (And.intro trivial (And.intro trivial (And.intro trivial (And.intro trivial (And.intro trivial (And.intro trivial (And.intro trivial (And.intro trivial (And.intro trivial (And.intro trivial (And.intro trivial (And.intro trivial (And.intro trivial (trivial))))))))))))))))))))))))))))))))
    · exact ⟨trivial, trivial, trivial, trivial, trivial, trivial, trivial, trivial, trivial, trivial, trivial, trivial, trivial, trivial, trivial, trivial, trivial, trivial, trivial, trivial, trivial, trivial, trivial, trivial, trivial, trivial, trivial, trivial, trivial, trivial, trivial, trivial⟩
    · rfl

set_option maxHeartbeats 4000000 in
theorem mwrite2 (o : okM m) (ls : m.sums.length ≤ 1000000000) (lb : m.body.length ≤ 1000000000) (kS : m.sums.length ≤ cS) (kB : m.body.length ≤ cB) (e : m.ty = 2)
    (hL : m.body.length > 524288 ∨ m.sums.length > 256 → K (.tup [.ns, .int .i64 2]) [.one false 0 (.ints .u32 m.sums cS), .one false 0 (.ints .u8 m.body cB), .gone, .gone, .gone, .gone, .gone, .gone, .gone, .gone, .gone, .gone, .gone])
    (hF : ¬ (m.body.length > 524288 ∨ m.sums.length > 256) → ofM m ≠ m → K (.tup [.ns, .int .i64 231]) [.one false 0 (.ints .u32 m.sums cS), .one false 0 (.ints .u8 m.body cB), .gone, .gone, .gone, .gone, .gone, .gone, .gone, .gone, .gone, .gone, .gone, .gone, .gone, .gone, .gone, .gone, .gone, .gone, .gone, .gone, .gone, .gone, .gone, .gone, .gone, .gone, .gone, .gone, .gone])
    (hO : ¬ (m.body.length > 524288 ∨ m.sums.length > 256) → ofM m = m → ∀ g c, (wireF m).length ≤ c → K (.tup [.sl 32 g 0 (wireF m).length c, .int .i64 0]) [.one false 0 (.ints .u32 m.sums cS), .one false 0 (.ints .u8 m.body cB), .gone, .gone, .gone, .gone, .gone, .gone, .gone, .gone, .gone, .gone, .gone, .gone, .gone, .gone, .gone, .gone, .gone, .gone, .gone, .gone, .gone, .gone, .gone, .gone, .gone, .gone, .gone, .gone, .gone, .gone, .one true g (.ints .u8 (wireF m) c)]) :
    CallA Try.prog 11 [.agg (msL (.bo m.has) (.bo m.full) (.sl 0 0 0 m.sums.length cS) (.sl 1 0 0 m.body.length cB) m)] [.one false 0 (.ints .u32 m.sums cS), .one false 0 (.ints .u8 m.body cB)] K Kp := by
  refine CallA.post_sub ?_
  refine step11 (fun _ => [2, 3, 20, 31]) [] rfl ?_
  repeat ((conv => whnf); first | with_reducible refine O_step ?_ | with_reducible refine S_step ?_ | with_reducible refine D_step ?_ | with_reducible refine RO.exit ?_ | with_reducible refine RO.ret ?_ | ((with_reducible refine And.intro ?sc ?_); case sc => exact side) | ((with_reducible refine br_f ?sc ?_); case sc => exact sideB) | ((with_reducible refine br_t ?sc ?_); case sc => exact sideB))
  refine CallA.lift [.win 0 0 0] (clone32_call (xs := m.sums) (c0 := cS) (c := cS) (Kp := fun _ _ => False) (by omega)) rfl rfl ⟨⟨_, _, _, rfl, rfl, winI0⟩, trivial⟩ ⟨trivial, trivial⟩ ?_ (fun _ _ h => h.elim)
  rintro r M' ⟨g1, k1, rfl, rfl, hk1⟩
  refine ⟨⟨rfl, rfl⟩, ?_⟩
  repeat ((conv => whnf); first | with_reducible refine O_step ?_ | with_reducible refine S_step ?_ | with_reducible refine D_step ?_ | with_reducible refine RO.exit ?_ | with_reducible refine RO.ret ?_ | ((with_reducible refine And.intro ?sc ?_); case sc => exact side) | ((with_reducible refine br_f ?sc ?_); case sc => exact sideB) | ((with_reducible refine br_t ?sc ?_); case sc => exact sideB))
  refine CallA.view (Vw.ghost (i := 3) (k := 2) (x := .ints .u8 [] 0) rfl rfl ⟨rfl, rfl⟩) ?_
  refine (show CallA Try.prog 19 [.ptr 3 0 0] (wrH [] .ff (.bo m.has) (.bo m.full) 0 0 g1 k1 cB cS [] m) _ _ from ?_)
  have ht : 1 ≤ m.ty ∧ m.ty ≤ 6 := by omega
  refine fieldsW_at2 (.inr (.inl ⟨rfl, rfl⟩)) (.inl rfl) (.inl rfl) e ?_
  repeat ((conv => whnf); first | with_reducible refine O_step ?_ | with_reducible refine S_step ?_ | with_reducible refine D_step ?_ | with_reducible refine RO.exit ?_ | with_reducible refine RO.ret ?_ | ((with_reducible refine And.intro ?sc ?_); case sc => exact side) | ((with_reducible refine br_f ?sc ?_); case sc => exact sideB) | ((with_reducible refine br_t ?sc ?_); case sc => exact sideB))
  refine And.intro (fun hc => ?_) (fun hc => ?_)
  · have hq : (524288 : Int) < m.body.length := of_decide_eq_true hc
    repeat ((conv => whnf); first | with_reducible refine O_step ?_ | with_reducible refine S_step ?_ | with_reducible refine D_step ?_ | with_reducible refine RO.exit ?_ | with_reducible refine RO.ret ?_ | ((with_reducible refine And.intro ?sc ?_); case sc => exact side) | ((with_reducible refine br_f ?sc ?_); case sc => exact sideB) | ((with_reducible refine br_t ?sc ?_); case sc => exact sideB))
    refine Exists.intro _ (And.intro ?_ (And.intro ?_ (And.intro ?_ (hL (.inl (by omega))))))
    · exact (And.intro rfl (And.intro rfl (And.intro trivial (And.intro trivial (And.intro trivial (And.intro trivial (And.intro trivial (And.intro trivial (And.intro trivial (And.intro trivial (And.intro trivial (And.intro trivial (And.intro trivial (trivial))))))))))))))
    · exact ⟨trivial, trivial, trivial, trivial, trivial, trivial, trivial, trivial, trivial, trivial, trivial, trivial, trivial, trivial⟩
    · rfl
  have hqb : ¬ (524288 : Int) < m.body.length := of_decide_eq_false hc
  repeat ((conv => whnf); first | with_reducible refine O_step ?_ | with_reducible refine S_step ?_ | with_reducible refine D_step ?_ | with_reducible refine RO.exit ?_ | with_reducible refine RO.ret ?_ | ((with_reducible refine And.intro ?sc ?_); case sc => exact side) | ((with_reducible refine br_f ?sc ?_); case sc => exact sideB) | ((with_reducible refine br_t ?sc ?_); case sc => exact sideB))
  refine And.intro (fun hc => ?_) (fun hc => ?_)
  · have hq : (256 : Int) < m.sums.length := of_decide_eq_true hc
    repeat ((conv => whnf); first | with_reducible refine O_step ?_ | with_reducible refine S_step ?_ | with_reducible refine D_step ?_ | with_reducible refine RO.exit ?_ | with_reducible refine RO.ret ?_ | ((with_reducible refine And.intro ?sc ?_); case sc => exact side) | ((with_reducible refine br_f ?sc ?_); case sc => exact sideB) | ((with_reducible refine br_t ?sc ?_); case sc => exact sideB))
    refine Exists.intro _ (And.intro ?_ (And.intro ?_ (And.intro ?_ (hL (.inr (by omega))))))
    · exact (And.intro rfl (And.intro rfl (And.intro trivial (And.intro trivial (And.intro trivial (And.intro trivial (And.intro trivial (And.intro trivial (And.intro trivial (And.intro trivial (And.intro trivial (And.intro trivial (And.intro trivial (trivial))))))))))))))
    · exact ⟨trivial, trivial, trivial, trivial, trivial, trivial, trivial, trivial, trivial, trivial, trivial, trivial, trivial, trivial⟩
    · rfl
  have hqs : ¬ (256 : Int) < m.sums.length := of_decide_eq_false hc
  repeat ((conv => whnf); first | with_reducible refine O_step ?_ | with_reducible refine S_step ?_ | with_reducible refine D_step ?_ | with_reducible refine RO.exit ?_ | with_reducible refine RO.ret ?_ | ((with_reducible refine And.intro ?sc ?_); case sc => exact side) | ((with_reducible refine br_f ?sc ?_); case sc => exact sideB) | ((with_reducible refine br_t ?sc ?_); case sc => exact sideB))
  refine (show CallA Try.prog 20 [.ptr 3 0 0] (wrH [.gone, .gone, .one true 0 (.cells [.fn (.func 28) [.ptr 3 0 0] [], .fn (.func 32) [.ptr 3 0 0] [], .fn (.func 33) [.ptr 3 0 0] []]), .gone, .gone, .gone, .gone] .ff (.bo m.has) (.bo m.full) 0 0 g1 k1 cB cS [] m) _ _ from ?_)
  refine overW_at [.gone, .gone, .one true 0 (.cells [.fn (.func 28) [.ptr 3 0 0] [], .fn (.func 32) [.ptr 3 0 0] [], .fn (.func 33) [.ptr 3 0 0] []]), .gone, .gone, .gone, .gone] ⟨o, .inr (.inl ⟨rfl, rfl⟩), .inl rfl, .inl rfl, Nat.le_refl _, hk1, kB, by simp, by omega, by omega⟩ ht (by simp) (fun c0' hv' fv' g' cb' ok => ?_)
  repeat ((conv => whnf); first | with_reducible refine O_step ?_ | with_reducible refine S_step ?_ | with_reducible refine D_step ?_ | with_reducible refine RO.exit ?_ | with_reducible refine RO.ret ?_ | ((with_reducible refine And.intro ?sc ?_); case sc => exact side) | ((with_reducible refine br_f ?sc ?_); case sc => exact sideB) | ((with_reducible refine br_t ?sc ?_); case sc => exact sideB))
  have hbl : (bodyF m).length ≤ 10000000 := by simpa using ok.lb
  have hbc : (bodyF m).length ≤ cb' := by simpa using ok.kb
  refine (show CallA Try.prog 20 [.ptr 20 0 0] (wrH ([.gone, .gone, .one true 0 (.cells [.fn (.func 28) [.ptr 3 0 0] [], .fn (.func 32) [.ptr 3 0 0] [], .fn (.func 33) [.ptr 3 0 0] []]), .gone, .gone, .gone, .gone] ++ g7) c0' hv' fv' g' cb' g1 k1 cB cS (bodyF m) m ++ [.one true 0 (.cells (pgL .ff .ff (.sl 5 g' 0 (bodyF m).length cb') .ff .ff .ns .ns (zeroM m.ty)))]) _ _ from ?_)
  refine overY_at (M := wrH ([.gone, .gone, .one true 0 (.cells [.fn (.func 28) [.ptr 3 0 0] [], .fn (.func 32) [.ptr 3 0 0] [], .fn (.func 33) [.ptr 3 0 0] []]), .gone, .gone, .gone, .gone] ++ g7) c0' hv' fv' g' cb' g1 k1 cB cS (bodyF m) m) (i := 5) (g := g') (c := cb') rfl o ht (by omega) hbc (by omega) (fun c0y bvy hvy fvy svy dvy Z kh kf kz => ?_)
  repeat ((conv => whnf); first | with_reducible refine O_step ?_ | with_reducible refine S_step ?_ | with_reducible refine D_step ?_ | with_reducible refine RO.exit ?_ | with_reducible refine RO.ret ?_ | ((with_reducible refine And.intro ?sc ?_); case sc => exact side) | ((with_reducible refine br_f ?sc ?_); case sc => exact sideB) | ((with_reducible refine br_t ?sc ?_); case sc => exact sideB))
  obtain ⟨lo1, lo2⟩ := ofM_le m
  refine (show CallA Try.prog 21 [.agg (msL hvy fvy svy dvy (ofM m)), .agg (msL (.bo m.has) (.bo m.full) (.sl 0 0 0 m.sums.length cS) (.sl 1 0 0 m.body.length cB) m)] ((wrH ([.gone, .gone, .one true 0 (.cells [.fn (.func 28) [.ptr 3 0 0] [], .fn (.func 32) [.ptr 3 0 0] [], .fn (.func 33) [.ptr 3 0 0] []]), .gone, .gone, .gone, .gone] ++ g7) c0' hv' fv' g' cb' g1 k1 cB cS (bodyF m) m ++ [.one true 0 (.cells (pgL c0y .ff bvy hvy fvy svy dvy (ofM m))), .gone, .gone, .gone, .gone, .gone, .gone, .gone, Z])) _ _ from ?_)
  refine sameY_at (M := (wrH ([.gone, .gone, .one true 0 (.cells [.fn (.func 28) [.ptr 3 0 0] [], .fn (.func 32) [.ptr 3 0 0] [], .fn (.func 33) [.ptr 3 0 0] []]), .gone, .gone, .gone, .gone] ++ g7) c0' hv' fv' g' cb' g1 k1 cB cS (bodyF m) m ++ [.one true 0 (.cells (pgL c0y .ff bvy hvy fvy svy dvy (ofM m))), .gone, .gone, .gone, .gone, .gone, .gone, .gone, Z])) (z := 28) rfl rfl rfl kh kf kz ⟨by omega, by omega⟩ ls lb (fun e1 => ?_) (fun e1 => ?_)
  · repeat ((conv => whnf); first | with_reducible refine O_step ?_ | with_reducible refine S_step ?_ | with_reducible refine D_step ?_ | with_reducible refine RO.exit ?_ | with_reducible refine RO.ret ?_ | ((with_reducible refine And.intro ?sc ?_); case sc => exact side) | ((with_reducible refine br_f ?sc ?_); case sc => exact sideB) | ((with_reducible refine br_t ?sc ?_); case sc => exact sideB))
    refine CallA.view (Vw.ghost (i := 31) (k := 2) (x := .ints .u8 [] 0) rfl rfl ⟨rfl, rfl⟩) ?_
    have hty := o.ty
    rw [show m.ty % 18446744073709551616 = m.ty by omega]
    refine (show CallA Try.prog 22 [.ptr 31 0 0, .int .u64 m.ty, .int .i64 1] (((wrH ([.gone, .gone, .one true 0 (.cells [.fn (.func 28) [.ptr 3 0 0] [], .fn (.func 32) [.ptr 3 0 0] [], .fn (.func 33) [.ptr 3 0 0] []]), .gone, .gone, .gone, .gone] ++ g7) c0' hv' fv' g' cb' g1 k1 cB cS (bodyF m) m ++ [.one true 0 (.cells (pgL c0y .ff bvy hvy fvy svy dvy (ofM m))), .gone, .gone, .gone, .gone, .gone, .gone, .gone, Z]) ++ [.gone, .gone]) ++ [.one true 0 (.cells [.ff, .tt, .sl 32 0 0 0 0]), .one true 0 (.ints .u8 [] 0)]) _ _ from ?_)
    refine pen_at (M := (wrH ([.gone, .gone, .one true 0 (.cells [.fn (.func 28) [.ptr 3 0 0] [], .fn (.func 32) [.ptr 3 0 0] [], .fn (.func 33) [.ptr 3 0 0] []]), .gone, .gone, .gone, .gone] ++ g7) c0' hv' fv' g' cb' g1 k1 cB cS (bodyF m) m ++ [.one true 0 (.cells (pgL c0y .ff bvy hvy fvy svy dvy (ofM m))), .gone, .gone, .gone, .gone, .gone, .gone, .gone, Z]) ++ [.gone, .gone]) (v := m.ty) (n := 1) (b := []) (g := 0) (cb := 0) (by decide) (by have := o.ty; omega) (Nat.le_refl _) (by simp) (fun ga ca ka => ?_)
    repeat ((conv => whnf); first | with_reducible refine O_step ?_ | with_reducible refine S_step ?_ | with_reducible refine D_step ?_ | with_reducible refine RO.exit ?_ | with_reducible refine RO.ret ?_ | ((with_reducible refine And.intro ?sc ?_); case sc => exact side) | ((with_reducible refine br_f ?sc ?_); case sc => exact sideB) | ((with_reducible refine br_t ?sc ?_); case sc => exact sideB))
    rw [show ((bodyF m).length : Int) % 18446744073709551616 = (bodyF m).length by omega]
    refine (show CallA Try.prog 22 [.ptr 31 0 0, .int .u64 ((bodyF m).length : Int), .int .i64 4] (((wrH ([.gone, .gone, .one true 0 (.cells [.fn (.func 28) [.ptr 3 0 0] [], .fn (.func 32) [.ptr 3 0 0] [], .fn (.func 33) [.ptr 3 0 0] []]), .gone, .gone, .gone, .gone] ++ g7) c0' hv' fv' g' cb' g1 k1 cB cS (bodyF m) m ++ [.one true 0 (.cells (pgL c0y .ff bvy hvy fvy svy dvy (ofM m))), .gone, .gone, .gone, .gone, .gone, .gone, .gone, Z]) ++ [.gone, .gone]) ++ [.one true 0 (.cells [.ff, .tt, .sl 32 ga 0 (beW m.ty 1).length ca]), .one true ga (.ints .u8 (beW m.ty 1) ca)]) _ _ from ?_)
    refine pen_at (M := (wrH ([.gone, .gone, .one true 0 (.cells [.fn (.func 28) [.ptr 3 0 0] [], .fn (.func 32) [.ptr 3 0 0] [], .fn (.func 33) [.ptr 3 0 0] []]), .gone, .gone, .gone, .gone] ++ g7) c0' hv' fv' g' cb' g1 k1 cB cS (bodyF m) m ++ [.one true 0 (.cells (pgL c0y .ff bvy hvy fvy svy dvy (ofM m))), .gone, .gone, .gone, .gone, .gone, .gone, .gone, Z]) ++ [.gone, .gone]) (v := ((bodyF m).length : Int)) (n := 4) (b := beW m.ty 1) (g := ga) (cb := ca) (by decide) (by omega) ka (by rw [beW_length]; decide) (fun gb cb2 kb => ?_)
    have hbe : (beW m.ty 1 ++ beW ((bodyF m).length : Int) 4).length = 5 := by rw [List.length_append, beW_length, beW_length]
    repeat ((conv => whnf); first | with_reducible refine O_step ?_ | with_reducible refine S_step ?_ | with_reducible refine D_step ?_ | with_reducible refine RO.exit ?_ | with_reducible refine RO.ret ?_ | ((with_reducible refine And.intro ?sc ?_); case sc => exact side) | ((with_reducible refine br_f ?sc ?_); case sc => exact sideB) | ((with_reducible refine br_t ?sc ?_); case sc => exact sideB))
    intro zs hzs
    obtain rfl : zs = bodyF m := by rw [hzs]; exact List.take_length
    repeat ((conv => whnf); first | with_reducible refine O_step ?_ | with_reducible refine S_step ?_ | with_reducible refine D_step ?_ | with_reducible refine RO.exit ?_ | with_reducible refine RO.ret ?_ | ((with_reducible refine And.intro ?sc ?_); case sc => exact side) | ((with_reducible refine br_f ?sc ?_); case sc => exact sideB) | ((with_reducible refine br_t ?sc ?_); case sc => exact sideB))
    intro cz hcz
    repeat ((conv => whnf); first | with_reducible refine O_step ?_ | with_reducible refine S_step ?_ | with_reducible refine D_step ?_ | with_reducible refine RO.exit ?_ | with_reducible refine RO.ret ?_ | ((with_reducible refine And.intro ?sc ?_); case sc => exact side) | ((with_reducible refine br_f ?sc ?_); case sc => exact sideB) | ((with_reducible refine br_t ?sc ?_); case sc => exact sideB))
    have hw : (wireF m).length = (beW m.ty 1 ++ beW ((bodyF m).length : Int) 4).length + (bodyF m).length := List.length_append
    have := hO (by omega) e1 (gb + 1) cz (by rw [hw]; exact hcz)
    rw [hw] at this
    refine Exists.intro _ (And.intro ?_ (And.intro ?_ (And.intro ?_ (this))))
    · exact (And.intro rfl (And.intro rfl (And.intro trivial (And.intro trivial (And.intro trivial (And.intro trivial (And.intro trivial (And.intro trivial (And.intro trivial (And.intro trivial (And.intro trivial (And.intro trivial (And.intro trivial (And.intro trivial (And.intro trivial (And.intro trivial (And.intro trivial (And.intro trivial (And.intro trivial (And.intro trivial (And.intro trivial (And.intro trivial (And.intro trivial (And.intro trivial (And.intro trivial (And.intro trivial (And.intro trivial (And.intro trivial (And.intro trivial (And.intro trivial (And.intro trivial (And.intro trivial (And.intro rfl (trivial))))))))))))))))))))))))))))))))))
    · exact ⟨trivial, trivial, trivial, trivial, trivial, trivial, trivial, trivial, trivial, trivial, trivial, trivial, trivial, trivial, trivial, trivial, trivial, trivial, trivial, trivial, trivial, trivial, trivial, trivial, trivial, trivial, trivial, trivial, trivial, trivial, trivial, trivial, trivial, trivial⟩
    · rfl

  · repeat ((conv => whnf); first | with_reducible refine O_step ?_ | with_reducible refine S_step ?_ | with_reducible refine D_step ?_ | with_reducible refine RO.exit ?_ | with_reducible refine RO.ret ?_ | ((with_reducible refine And.intro ?sc ?_); case sc => exact side) | ((with_reducible refine br_f ?sc ?_); case sc => exact sideB) | ((with_reducible refine br_t ?sc ?_); case sc => exact sideB))
    refine Exists.intro _ (And.intro ?_ (And.intro ?_ (And.intro ?_ (hF (by omega) e1))))
    · exact (And.intro rfl (And.intro rfl (And.intro trivial (And.intro trivial (And.intro trivial (And.intro trivial (And.intro trivial (And.intro trivial (And.intro trivial (And.intro trivial (And.intro trivial (And.intro trivial (And.intro trivial (And.intro trivial (And.intro trivial (And.intro trivial (And.intro trivial (And.intro trivial (And.intro trivial (And.intro trivial (And.intro trivial (And.intro trivial (And.intro trivial (And.intro trivial (And.intro trivial (And.intro trivial (And.intro trivial (And.intro trivial (And.intro trivial (And.intro trivial (And.intro trivial (trivial))))))))))))))))))))))))))))))))
    · exact ⟨trivial, trivial, trivial, trivial, trivial, trivial, trivial, trivial, trivial, trivial, trivial, trivial, trivial, trivial, trivial, trivial, trivial, trivial, trivial, trivial, trivial, trivial, trivial, trivial, trivial, trivial, trivial, trivial, trivial, trivial, trivial, trivial⟩
    · rfl

set_option maxHeartbeats 4000000 in
theorem mwrite3 (o : okM m) (ls : m.sums.length ≤ 1000000000) (lb : m.body.length ≤ 1000000000) (kS : m.sums.length ≤ cS) (kB : m.body.length ≤ cB) (e : m.ty = 3)
    (hL : m.body.length > 524288 ∨ m.sums.length > 256 → K (.tup [.ns, .int .i64 2]) [.one false 0 (.ints .u32 m.sums cS), .one false 0 (.ints .u8 m.body cB), .gone, .gone, .gone, .gone, .gone, .gone, .gone, .gone, .gone, .gone, .gone])
    (hF : ¬ (m.body.length > 524288 ∨ m.sums.length > 256) → ofM m ≠ m → K (.tup [.ns, .int .i64 231]) [.one false 0 (.ints .u32 m.sums cS), .one false 0 (.ints .u8 m.body cB), .gone, .gone, .gone, .gone, .gone, .gone, .gone, .gone, .gone, .gone, .gone, .gone, .gone, .gone, .gone, .gone, .gone, .gone, .gone, .gone, .gone, .gone, .gone, .gone, .gone, .gone, .gone, .gone, .gone])
    (hO : ¬ (m.body.length > 524288 ∨ m.sums.length > 256) → ofM m = m → ∀ g c, (wireF m).length ≤ c → K (.tup [.sl 32 g 0 (wireF m).length c, .int .i64 0]) [.one false 0 (.ints .u32 m.sums cS), .one false 0 (.ints .u8 m.body cB), .gone, .gone, .gone, .gone, .gone, .gone, .gone, .gone, .gone, .gone, .gone, .gone, .gone, .gone, .gone, .gone, .gone, .gone, .gone, .gone, .gone, .gone, .gone, .gone, .gone, .gone, .gone, .gone, .gone, .gone, .one true g (.ints .u8 (wireF m) c)]) :
    CallA Try.prog 11 [.agg (msL (.bo m.has) (.bo m.full) (.sl 0 0 0 m.sums.length cS) (.sl 1 0 0 m.body.length cB) m)] [.one false 0 (.ints .u32 m.sums cS), .one false 0 (.ints .u8 m.body cB)] K Kp := by
  refine CallA.post_sub ?_
  refine step11 (fun _ => [2, 3, 20, 31]) [] rfl ?_
  repeat ((conv => whnf); first | with_reducible refine O_step ?_ | with_reducible refine S_step ?_ | with_reducible refine D_step ?_ | with_reducible refine RO.exit ?_ | with_reducible refine RO.ret ?_ | ((with_reducible refine And.intro ?sc ?_); case sc => exact side) | ((with_reducible refine br_f ?sc ?_); case sc => exact sideB) | ((with_reducible refine br_t ?sc ?_); case sc => exact sideB))
  refine CallA.lift [.win 0 0 0] (clone32_call (xs := m.sums) (c0 := cS) (c := cS) (Kp := fun _ _ => False) (by omega)) rfl rfl ⟨⟨_, _, _, rfl, rfl, winI0⟩, trivial⟩ ⟨trivial, trivial⟩ ?_ (fun _ _ h => h.elim)
  rintro r M' ⟨g1, k1, rfl, rfl, hk1⟩
  refine ⟨⟨rfl, rfl⟩, ?_⟩
  repeat ((conv => whnf); first | with_reducible refine O_step ?_ | with_reducible refine S_step ?_ | with_reducible refine D_step ?_ | with_reducible refine RO.exit ?_ | with_reducible refine RO.ret ?_ | ((with_reducible refine And.intro ?sc ?_); case sc => exact side) | ((with_reducible refine br_f ?sc ?_); case sc => exact sideB) | ((with_reducible refine br_t ?sc ?_); case sc => exact sideB))
  refine CallA.view (Vw.ghost (i := 3) (k := 2) (x := .ints .u8 [] 0) rfl rfl ⟨rfl, rfl⟩) ?_
  refine (show CallA Try.prog 19 [.ptr 3 0 0] (wrH [] .ff (.bo m.has) (.bo m.full) 0 0 g1 k1 cB cS [] m) _ _ from ?_)
  have ht : 1 ≤ m.ty ∧ m.ty ≤ 6 := by omega
  refine fieldsW_at3 (.inr (.inl ⟨rfl, rfl⟩)) (.inl rfl) (.inl rfl) e ?_
  repeat ((conv => whnf); first | with_reducible refine O_step ?_ | with_reducible refine S_step ?_ | with_reducible refine D_step ?_ | with_reducible refine RO.exit ?_ | with_reducible refine RO.ret ?_ | ((with_reducible refine And.intro ?sc ?_); case sc => exact side) | ((with_reducible refine br_f ?sc ?_); case sc => exact sideB) | ((with_reducible refine br_t ?sc ?_); case sc => exact sideB))
  refine And.intro (fun hc => ?_) (fun hc => ?_)
  · have hq : (524288 : Int) < m.body.length := of_decide_eq_true hc
    repeat ((conv => whnf); first | with_reducible refine O_step ?_ | with_reducible refine S_step ?_ | with_reducible refine D_step ?_ | with_reducible refine RO.exit ?_ | with_reducible refine RO.ret ?_ | ((with_reducible refine And.intro ?sc ?_); case sc => exact side) | ((with_reducible refine br_f ?sc ?_); case sc => exact sideB) | ((with_reducible refine br_t ?sc ?_); case sc => exact sideB))
    refine Exists.intro _ (And.intro ?_ (And.intro ?_ (And.intro ?_ (hL (.inl (by omega))))))
    · exact (And.intro rfl (And.intro rfl (And.intro trivial (And.intro trivial (And.intro trivial (And.intro trivial (And.intro trivial (And.intro trivial (And.intro trivial (And.intro trivial (And.intro trivial (And.intro trivial (And.intro trivial (trivial))))))))))))))
    · exact ⟨trivial, trivial, trivial, trivial, trivial, trivial, trivial, trivial, trivial, trivial, trivial, trivial, trivial, trivial⟩
    · rfl
  have hqb : ¬ (524288 : Int) < m.body.length := of_decide_eq_false hc
  repeat ((conv => whnf); first | with_reducible refine O_step ?_ | with_reducible refine S_step ?_ | with_reducible refine D_step ?_ | with_reducible refine RO.exit ?_ | with_reducible refine RO.ret ?_ | ((with_reducible refine And.intro ?sc ?_); case sc => exact side) | ((with_reducible refine br_f ?sc ?_); case sc => exact sideB) | ((with_reducible refine br_t ?sc ?_); case sc => exact sideB))
  refine And.intro (fun hc => ?_) (fun hc => ?_)
  · have hq : (256 : Int) < m.sums.length := of_decide_eq_true hc
    repeat ((conv => whnf); first | with_reducible refine O_step ?_ | with_reducible refine S_step ?_ | with_reducible refine D_step ?_ | with_reducible refine RO.exit ?_ | with_reducible refine RO.ret ?_ | ((with_reducible refine And.intro ?sc ?_); case sc => exact side) | ((with_reducible refine br_f ?sc ?_); case sc => exact sideB) | ((with_reducible refine br_t ?sc ?_); case sc => exact sideB))
    refine Exists.intro _ (And.intro ?_ (And.intro ?_ (And.intro ?_ (hL (.inr (by omega))))))
    · exact (And.intro rfl (And.intro rfl (And.intro trivial (And.intro trivial (And.intro trivial (And.intro trivial (And.intro trivial (And.intro trivial (And.intro trivial (And.intro trivial (And.intro trivial (And.intro trivial (And.intro trivial (trivial))))))))))))))
    · exact ⟨trivial, trivial, trivial, trivial, trivial, trivial, trivial, trivial, trivial, trivial, trivial, trivial, trivial, trivial⟩
    · rfl
  have hqs : ¬ (256 : Int) < m.sums.length := of_decide_eq_false hc
  repeat ((conv => whnf); first | with_reducible refine O_step ?_ | with_reducible refine S_step ?_ | with_reducible refine D_step ?_ | with_reducible refine RO.exit ?_ | with_reducible refine RO.ret ?_ | ((with_reducible refine And.intro ?sc ?_); case sc => exact side) | ((with_reducible refine br_f ?sc ?_); case sc => exact sideB) | ((with_reducible refine br_t ?sc ?_); case sc => exact sideB))
  refine (show CallA Try.prog 20 [.ptr 3 0 0] (wrH [.gone, .gone, .gone, .one true 0 (.cells []), .gone, .gone, .gone] .ff (.bo m.has) (.bo m.full) 0 0 g1 k1 cB cS [] m) _ _ from ?_)
  refine overW_at [.gone, .gone, .gone, .one true 0 (.cells []), .gone, .gone, .gone] ⟨o, .inr (.inl ⟨rfl, rfl⟩), .inl rfl, .inl rfl, Nat.le_refl _, hk1, kB, by simp, by omega, by omega⟩ ht (by simp) (fun c0' hv' fv' g' cb' ok => ?_)
  repeat ((conv => whnf); first | with_reducible refine O_step ?_ | with_reducible refine S_step ?_ | with_reducible refine D_step ?_ | with_reducible refine RO.exit ?_ | with_reducible refine RO.ret ?_ | ((with_reducible refine And.intro ?sc ?_); case sc => exact side) | ((with_reducible refine br_f ?sc ?_); case sc => exact sideB) | ((with_reducible refine br_t ?sc ?_); case sc => exact sideB))
  have hbl : (bodyF m).length ≤ 10000000 := by simpa using ok.lb
  have hbc : (bodyF m).length ≤ cb' := by simpa using ok.kb
  refine (show CallA Try.prog 20 [.ptr 20 0 0] (wrH ([.gone, .gone, .gone, .one true 0 (.cells []), .gone, .gone, .gone] ++ g7) c0' hv' fv' g' cb' g1 k1 cB cS (bodyF m) m ++ [.one true 0 (.cells (pgL .ff .ff (.sl 5 g' 0 (bodyF m).length cb') .ff .ff .ns .ns (zeroM m.ty)))]) _ _ from ?_)
  refine overY_at (M := wrH ([.gone, .gone, .gone, .one true 0 (.cells []), .gone, .gone, .gone] ++ g7) c0' hv' fv' g' cb' g1 k1 cB cS (bodyF m) m) (i := 5) (g := g') (c := cb') rfl o ht (by omega) hbc (by omega) (fun c0y bvy hvy fvy svy dvy Z kh kf kz => ?_)
  repeat ((conv => whnf); first | with_reducible refine O_step ?_ | with_reducible refine S_step ?_ | with_reducible refine D_step ?_ | with_reducible refine RO.exit ?_ | with_reducible refine RO.ret ?_ | ((with_reducible refine And.intro ?sc ?_); case sc => exact side) | ((with_reducible refine br_f ?sc ?_); case sc => exact sideB) | ((with_reducible refine br_t ?sc ?_); case sc => exact sideB))
  obtain ⟨lo1, lo2⟩ := ofM_le m
  refine (show CallA Try.prog 21 [.agg (msL hvy fvy svy dvy (ofM m)), .agg (msL (.bo m.has) (.bo m.full) (.sl 0 0 0 m.sums.length cS) (.sl 1 0 0 m.body.length cB) m)] ((wrH ([.gone, .gone, .gone, .one true 0 (.cells []), .gone, .gone, .gone] ++ g7) c0' hv' fv' g' cb' g1 k1 cB cS (bodyF m) m ++ [.one true 0 (.cells (pgL c0y .ff bvy hvy fvy svy dvy (ofM m))), .gone, .gone, .gone, .gone, .gone, .gone, .gone, Z])) _ _ from ?_)
  refine sameY_at (M := (wrH ([.gone, .gone, .gone, .one true 0 (.cells []), .gone, .gone, .gone] ++ g7) c0' hv' fv' g' cb' g1 k1 cB cS (bodyF m) m ++ [.one true 0 (.cells (pgL c0y .ff bvy hvy fvy svy dvy (ofM m))), .gone, .gone, .gone, .gone, .gone, .gone, .gone, Z])) (z := 28) rfl rfl rfl kh kf kz ⟨by omega, by omega⟩ ls lb (fun e1 => ?_) (fun e1 => ?_)
  · repeat ((conv => whnf); first | with_reducible refine O_step ?_ | with_reducible refine S_step ?_ | with_reducible refine D_step ?_ | with_reducible refine RO.exit ?_ | with_reducible refine RO.ret ?_ | ((with_reducible refine And.intro ?sc ?_); case sc => exact side) | ((with_reducible refine br_f ?sc ?_); case sc => exact sideB) | ((with_reducible refine br_t ?sc ?_); case sc => exact sideB))
    refine CallA.view (Vw.ghost (i := 31) (k := 2) (x := .ints .u8 [] 0) rfl rfl ⟨rfl, rfl⟩) ?_
    have hty := o.ty
    rw [show m.ty % 18446744073709551616 = m.ty by omega]
    refine (show CallA Try.prog 22 [.ptr 31 0 0, .int .u64 m.ty, .int .i64 1] (((wrH ([.gone, .gone, .gone, .one true 0 (.cells []), .gone, .gone, .gone] ++ g7) c0' hv' fv' g' cb' g1 k1 cB cS (bodyF m) m ++ [.one true 0 (.cells (pgL c0y .ff bvy hvy fvy svy dvy (ofM m))), .gone, .gone, .gone, .gone, .gone, .gone, .gone, Z]) ++ [.gone, .gone]) ++ [.one true 0 (.cells [.ff, .tt, .sl 32 0 0 0 0]), .one true 0 (.ints .u8 [] 0)]) _ _ from ?_)
    refine pen_at (M := (wrH ([.gone, .gone, .gone, .one true 0 (.cells []), .gone, .gone, .gone] ++ g7) c0' hv' fv' g' cb' g1 k1 cB cS (bodyF m) m ++ [.one true 0 (.cells (pgL c0y .ff bvy hvy fvy svy dvy (ofM m))), .gone, .gone, .gone, .gone, .gone, .gone, .gone, Z]) ++ [.gone, .gone]) (v := m.ty) (n := 1) (b := []) (g := 0) (cb := 0) (by decide) (by have := o.ty; omega) (Nat.le_refl _) (by simp) (fun ga ca ka => ?_)
    repeat ((conv => whnf); first | with_reducible refine O_step ?_ | with_reducible refine S_step ?_ | with_reducible refine D_step ?_ | with_reducible refine RO.exit ?_ | with_reducible refine RO.ret ?_ | ((with_reducible refine And.intro ?sc ?_); case sc => exact side) | ((with_reducible refine br_f ?sc ?_); case sc => exact sideB) | ((with_reducible refine br_t ?sc ?_); case sc => exact sideB))
    rw [show ((bodyF m).length : Int) % 18446744073709551616 = (bodyF m).length by omega]
    refine (show CallA Try.prog 22 [.ptr 31 0 0, .int .u64 ((bodyF m).length : Int), .int .i64 4] (((wrH ([.gone, .gone, .gone, .one true 0 (.cells []), .gone, .gone, .gone] ++ g7) c0' hv' fv' g' cb' g1 k1 cB cS (bodyF m) m ++ [.one true 0 (.cells (pgL c0y .ff bvy hvy fvy svy dvy (ofM m))), .gone, .gone, .gone, .gone, .gone, .gone, .gone, Z]) ++ [.gone, .gone]) ++ [.one true 0 (.cells [.ff, .tt, .sl 32 ga 0 (beW m.ty 1).length ca]), .one true ga (.ints .u8 (beW m.ty 1) ca)]) _ _ from ?_)
    refine pen_at (M := (wrH ([.gone, .gone, .gone, .one true 0 (.cells []), .gone, .gone, .gone] ++ g7) c0' hv' fv' g' cb' g1 k1 cB cS (bodyF m) m ++ [.one true 0 (.cells (pgL c0y .ff bvy hvy fvy svy dvy (ofM m))), .gone, .gone, .gone, .gone, .gone, .gone, .gone, Z]) ++ [.gone, .gone]) (v := ((bodyF m).length : Int)) (n := 4) (b := beW m.ty 1) (g := ga) (cb := ca) (by decide) (by omega) ka (by rw [beW_length]; decide) (fun gb cb2 kb => ?_)
    have hbe : (beW m.ty 1 ++ beW ((bodyF m).length : Int) 4).length = 5 := by rw [List.length_append, beW_length, beW_length]
    repeat ((conv => whnf); first | with_reducible refine O_step ?_ | with_reducible refine S_step ?_ | with_reducible refine D_step ?_ | with_reducible refine RO.exit ?_ | with_reducible refine RO.ret ?_ | ((with_reducible refine And.intro ?sc ?_); case sc => exact side) | ((with_reducible refine br_f ?sc ?_); case sc => exact sideB) | ((with_reducible refine br_t ?sc ?_); case sc => exact sideB))
    intro zs hzs
    obtain rfl : zs = bodyF m := by rw [hzs]; exact List.take_length
    repeat ((conv => whnf); first | with_reducible refine O_step ?_ | with_reducible refine S_step ?_ | with_reducible refine D_step ?_ | with_reducible refine RO.exit ?_ | with_reducible refine RO.ret ?_ | ((with_reducible refine And.intro ?sc ?_); case sc => exact side) | ((with_reducible refine br_f ?sc ?_); case sc => exact sideB) | ((with_reducible refine br_t ?sc ?_); case sc => exact sideB))
    intro cz hcz
    repeat ((conv => whnf); first | with_reducible refine O_step ?_ | with_reducible refine S_step ?_ | with_reducible refine D_step ?_ | with_reducible refine RO.exit ?_ | with_reducible refine RO.ret ?_ | ((with_reducible refine And.intro ?sc ?_); case sc => exact side) | ((with_reducible refine br_f ?sc ?_); case sc => exact sideB) | ((with_reducible refine br_t ?sc ?_); case sc => exact sideB))
    have hw : (wireF m).length = (beW m.ty 1 ++ beW ((bodyF m).length : Int) 4).length + (bodyF m).length := List.length_append
    have := hO (by omega) e1 (gb + 1) cz (by rw [hw]; exact hcz)
    rw [hw] at this
    refine Exists.intro _ (And.intro ?_ (And.intro ?_ (And.intro ?_ (this))))
    · exact (And.intro rfl (And.intro rfl (And.intro trivial (And.intro trivial (And.intro trivial (And.intro trivial (And.intro trivial (And.intro trivial (And.intro trivial (And.intro trivial (And.intro trivial (And.intro trivial (And.intro trivial (And.intro trivial (And.intro trivial (And.intro trivial (And.intro trivial (And.intro trivial (And.intro trivial (And.intro trivial (And.intro trivial (And.intro trivial (And.intro trivial (And.intro trivial (And.intro trivial (And.intro trivial (And.intro trivial (And.intro trivial (And.intro trivial (And.intro trivial (And.intro trivial (And.intro trivial (And.intro rfl (trivial))))))))))))))))))))))))))))))))))
    · exact ⟨trivial, trivial, trivial, trivial, trivial, trivial, trivial, trivial, trivial, trivial, trivial, trivial, trivial, trivial, trivial, trivial, trivial, trivial, trivial, trivial, trivial, trivial, trivial, trivial, trivial, trivial, trivial, trivial, trivial, trivial, trivial, trivial, trivial, trivial⟩
    · rfl

  · repeat ((conv => whnf); first | with_reducible refine O_step ?_ | with_reducible refine S_step ?_ | with_reducible refine D_step ?_ | with_reducible refine RO.exit ?_ | with_reducible refine RO.ret ?_ | ((with_reducible refine And.intro ?sc ?_); case sc => exact side) | ((with_reducible refine br_f ?sc ?_); case sc => exact sideB) | ((with_reducible refine br_t ?sc ?_); case sc => exact sideB))
    refine Exists.intro _ (And.intro ?_ (And.intro ?_ (And.intro ?_ (hF (by omega) e1))))
    · exact (And.intro rfl (And.intro rfl (And.intro trivial (And.intro trivial (And.intro trivial (And.intro trivial (And.intro trivial (And.intro trivial (And.intro trivial (And.intro trivial (And.intro trivial (And.intro trivial (And.intro trivial (And.intro trivial (And.intro trivial (And.intro trivial (And.intro trivial (And.intro trivial (And.intro trivial (And.intro trivial (And.intro trivial (And.intro trivial (And.intro trivial (And.intro trivial (And.intro trivial (And.intro trivial (And.intro trivial (And.intro trivial (And.intro trivial (And.intro trivial (And.intro trivial (trivial))))))))))))))))))))))))))))))))
    · exact ⟨trivial, trivial, trivial, trivial, trivial, trivial, trivial, trivial, trivial, trivial, trivial, trivial, trivial, trivial, trivial, trivial, trivial, trivial, trivial, trivial, trivial, trivial, trivial, trivial, trivial, trivial, trivial, trivial, trivial, trivial, trivial, trivial⟩
    · rfl

set_option maxHeartbeats 4000000 in
theorem mwrite4 (o : okM m) (ls : m.sums.length ≤ 1000000000) (lb : m.body.length ≤ 1000000000) (kS : m.sums.length ≤ cS) (kB : m.body.length ≤ cB) (e : m.ty = 4)
    (hL : m.body.length > 524288 ∨ m.sums.length > 256 → K (.tup [.ns, .int .i64 2]) [.one false 0 (.ints .u32 m.sums cS), .one false 0 (.ints .u8 m.body cB), .gone, .gone, .gone, .gone, .gone, .gone, .gone, .gone, .gone, .gone, .gone])
    (hF : ¬ (m.body.length > 524288 ∨ m.sums.length > 256) → ofM m ≠ m → K (.tup [.ns, .int .i64 231]) [.one false 0 (.ints .u32 m.sums cS), .one false 0 (.ints .u8 m.body cB), .gone, .gone, .gone, .gone, .gone, .gone, .gone, .gone, .gone, .gone, .gone, .gone, .gone, .gone, .gone, .gone, .gone, .gone, .gone, .gone, .gone, .gone, .gone, .gone, .gone, .gone, .gone, .gone, .gone])
    (hO : ¬ (m.body.length > 524288 ∨ m.sums.length > 256) → ofM m = m → ∀ g c, (wireF m).length ≤ c → K (.tup [.sl 32 g 0 (wireF m).length c, .int .i64 0]) [.one false 0 (.ints .u32 m.sums cS), .one false 0 (.ints .u8 m.body cB), .gone, .gone, .gone, .gone, .gone, .gone, .gone, .gone, .gone, .gone, .gone, .gone, .gone, .gone, .gone, .gone, .gone, .gone, .gone, .gone, .gone, .gone, .gone, .gone, .gone, .gone, .gone, .gone, .gone, .gone, .one true g (.ints .u8 (wireF m) c)]) :
    CallA Try.prog 11 [.agg (msL (.bo m.has) (.bo m.full) (.sl 0 0 0 m.sums.length cS) (.sl 1 0 0 m.body.length cB) m)] [.one false 0 (.ints .u32 m.sums cS), .one false 0 (.ints .u8 m.body cB)] K Kp := by
  refine CallA.post_sub ?_
  refine step11 (fun _ => [2, 3, 20, 31]) [] rfl ?_
  repeat ((conv => whnf); first | with_reducible refine O_step ?_ | with_reducible refine S_step ?_ | with_reducible refine D_step ?_ | with_reducible refine RO.exit ?_ | with_reducible refine RO.ret ?_ | ((with_reducible refine And.intro ?sc ?_); case sc => exact side) | ((with_reducible refine br_f ?sc ?_); case sc => exact sideB) | ((with_reducible refine br_t ?sc ?_); case sc => exact sideB))
  refine CallA.lift [.win 0 0 0] (clone32_call (xs := m.sums) (c0 := cS) (c := cS) (Kp := fun _ _ => False) (by omega)) rfl rfl ⟨⟨_, _, _, rfl, rfl, winI0⟩, trivial⟩ ⟨trivial, trivial⟩ ?_ (fun _ _ h => h.elim)
  rintro r M' ⟨g1, k1, rfl, rfl, hk1⟩
  refine ⟨⟨rfl, rfl⟩, ?_⟩
  repeat ((conv => whnf); first | with_reducible refine O_step ?_ | with_reducible refine S_step ?_ | with_reducible refine D_step ?_ | with_reducible refine RO.exit ?_ | with_reducible refine RO.ret ?_ | ((with_reducible refine And.intro ?sc ?_); case sc => exact side) | ((with_reducible refine br_f ?sc ?_); case sc => exact sideB) | ((with_reducible refine br_t ?sc ?_); case sc => exact sideB))
  refine CallA.view (Vw.ghost (i := 3) (k := 2) (x := .ints .u8 [] 0) rfl rfl ⟨rfl, rfl⟩) ?_
  refine (show CallA Try.prog 19 [.ptr 3 0 0] (wrH [] .ff (.bo m.has) (.bo m.full) 0 0 g1 k1 cB cS [] m) _ _ from ?_)
  have ht : 1 ≤ m.ty ∧ m.ty ≤ 6 := by omega
  refine fieldsW_at4 (.inr (.inl ⟨rfl, rfl⟩)) (.inl rfl) (.inl rfl) e ?_
  repeat ((conv => whnf); first | with_reducible refine O_step ?_ | with_reducible refine S_step ?_ | with_reducible refine D_step ?_ | with_reducible refine RO.exit ?_ | with_reducible refine RO.ret ?_ | ((with_reducible refine And.intro ?sc ?_); case sc => exact side) | ((with_reducible refine br_f ?sc ?_); case sc => exact sideB) | ((with_reducible refine br_t ?sc ?_); case sc => exact sideB))
  refine And.intro (fun hc => ?_) (fun hc => ?_)
  · have hq : (524288 : Int) < m.body.length := of_decide_eq_true hc
    repeat ((conv => whnf); first | with_reducible refine O_step ?_ | with_reducible refine S_step ?_ | with_reducible refine D_step ?_ | with_reducible refine RO.exit ?_ | with_reducible refine RO.ret ?_ | ((with_reducible refine And.intro ?sc ?_); case sc => exact side) | ((with_reducible refine br_f ?sc ?_); case sc => exact sideB) | ((with_reducible refine br_t ?sc ?_); case sc => exact sideB))
    refine Exists.intro _ (And.intro ?_ (And.intro ?_ (And.intro ?_ (hL (.inl (by omega))))))
    · exact (And.intro rfl (And.intro rfl (And.intro trivial (And.intro trivial (And.intro trivial (And.intro trivial (And.intro trivial (And.intro trivial (And.intro trivial (And.intro trivial (And.intro trivial (And.intro trivial (And.intro trivial (trivial))))))))))))))
    · exact ⟨trivial, trivial, trivial, trivial, trivial, trivial, trivial, trivial, trivial, trivial, trivial, trivial, trivial, trivial⟩
    · rfl
  have hqb : ¬ (524288 : Int) < m.body.length := of_decide_eq_false hc
  repeat ((conv => whnf); first | with_reducible refine O_step ?_ | with_reducible refine S_step ?_ | with_reducible refine D_step ?_ | with_reducible refine RO.exit ?_ | with_reducible refine RO.ret ?_ | ((with_reducible refine And.intro ?sc ?_); case sc => exact side) | ((with_reducible refine br_f ?sc ?_); case sc => exact sideB) | ((with_reducible refine br_t ?sc ?_); case sc => exact sideB))
  refine And.intro (fun hc => ?_) (fun hc => ?_)
  · have hq : (256 : Int) < m.sums.length := of_decide_eq_true hc
    repeat ((conv => whnf); first | with_reducible refine O_step ?_ | with_reducible refine S_step ?_ | with_reducible refine D_step ?_ | with_reducible refine RO.exit ?_ | with_reducible refine RO.ret ?_ | ((with_reducible refine And.intro ?sc ?_); case sc => exact side) | ((with_reducible refine br_f ?sc ?_); case sc => exact sideB) | ((with_reducible refine br_t ?sc ?_); case sc => exact sideB))
    refine Exists.intro _ (And.intro ?_ (And.intro ?_ (And.intro ?_ (hL (.inr (by omega))))))
    · exact (And.intro rfl (And.intro rfl (And.intro trivial (And.intro trivial (And.intro trivial (And.intro trivial (And.intro trivial (And.intro trivial (And.intro trivial (And.intro trivial (And.intro trivial (And.intro trivial (And.intro trivial (trivial))))))))))))))
    · exact ⟨trivial, trivial, trivial, trivial, trivial, trivial, trivial, trivial, trivial, trivial, trivial, trivial, trivial, trivial⟩
    · rfl
  have hqs : ¬ (256 : Int) < m.sums.length := of_decide_eq_false hc
  repeat ((conv => whnf); first | with_reducible refine O_step ?_ | with_reducible refine S_step ?_ | with_reducible refine D_step ?_ | with_reducible refine RO.exit ?_ | with_reducible refine RO.ret ?_ | ((with_reducible refine And.intro ?sc ?_); case sc => exact side) | ((with_reducible refine br_f ?sc ?_); case sc => exact sideB) | ((with_reducible refine br_t ?sc ?_); case sc => exact sideB))
  refine (show CallA Try.prog 20 [.ptr 3 0 0] (wrH [.gone, .gone, .gone, .gone, .one true 0 (.cells [.fn (.func 34) [.ptr 3 0 0] [], .fn (.func 30) [.ptr 3 0 0] [], .fn (.func 35) [.ptr 3 0 0] [], .fn (.func 36) [.ptr 3 0 0] []]), .gone, .gone] .ff (.bo m.has) (.bo m.full) 0 0 g1 k1 cB cS [] m) _ _ from ?_)
  refine overW_at [.gone, .gone, .gone, .gone, .one true 0 (.cells [.fn (.func 34) [.ptr 3 0 0] [], .fn (.func 30) [.ptr 3 0 0] [], .fn (.func 35) [.ptr 3 0 0] [], .fn (.func 36) [.ptr 3 0 0] []]), .gone, .gone] ⟨o, .inr (.inl ⟨rfl, rfl⟩), .inl rfl, .inl rfl, Nat.le_refl _, hk1, kB, by simp, by omega, by omega⟩ ht (by simp) (fun c0' hv' fv' g' cb' ok => ?_)
  repeat ((conv => whnf); first | with_reducible refine O_step ?_ | with_reducible refine S_step ?_ | with_reducible refine D_step ?_ | with_reducible refine RO.exit ?_ | with_reducible refine RO.ret ?_ | ((with_reducible refine And.intro ?sc ?_); case sc => exact side) | ((with_reducible refine br_f ?sc ?_); case sc => exact sideB) | ((with_reducible refine br_t ?sc ?_); case sc => exact sideB))
  have hbl : (bodyF m).length ≤ 10000000 := by simpa using ok.lb
  have hbc : (bodyF m).length ≤ cb' := by simpa using ok.kb
  refine (show CallA Try.prog 20 [.ptr 20 0 0] (wrH ([.gone, .gone, .gone, .gone, .one true 0 (.cells [.fn (.func 34) [.ptr 3 0 0] [], .fn (.func 30) [.ptr 3 0 0] [], .fn (.func 35) [.ptr 3 0 0] [], .fn (.func 36) [.ptr 3 0 0] []]), .gone, .gone] ++ g7) c0' hv' fv' g' cb' g1 k1 cB cS (bodyF m) m ++ [.one true 0 (.cells (pgL .ff .ff (.sl 5 g' 0 (bodyF m).length cb') .ff .ff .ns .ns (zeroM m.ty)))]) _ _ from ?_)
  refine overY_at (M := wrH ([.gone, .gone, .gone, .gone, .one true 0 (.cells [.fn (.func 34) [.ptr 3 0 0] [], .fn (.func 30) [.ptr 3 0 0] [], .fn (.func 35) [.ptr 3 0 0] [], .fn (.func 36) [.ptr 3 0 0] []]), .gone, .gone] ++ g7) c0' hv' fv' g' cb' g1 k1 cB cS (bodyF m) m) (i := 5) (g := g') (c := cb') rfl o ht (by omega) hbc (by omega) (fun c0y bvy hvy fvy svy dvy Z kh kf kz => ?_)
  repeat ((conv => whnf); first | with_reducible refine O_step ?_ | with_reducible refine S_step ?_ | with_reducible refine D_step ?_ | with_reducible refine RO.exit ?_ | with_reducible refine RO.ret ?_ | ((with_reducible refine And.intro ?sc ?_); case sc => exact side) | ((with_reducible refine br_f ?sc ?_); case sc => exact sideB) | ((with_reducible refine br_t ?sc ?_); case sc => exact sideB))
  obtain ⟨lo1, lo2⟩ := ofM_le m
  refine (show CallA Try.prog 21 [.agg (msL hvy fvy svy dvy (ofM m)), .agg (msL (.bo m.has) (.bo m.full) (.sl 0 0 0 m.sums.length cS) (.sl 1 0 0 m.body.length cB) m)] ((wrH ([.gone, .gone, .gone, .gone, .one true 0 (.cells [.fn (.func 34) [.ptr 3 0 0] [], .fn (.func 30) [.ptr 3 0 0] [], .fn (.func 35) [.ptr 3 0 0] [], .fn (.func 36) [.ptr 3 0 0] []]), .gone, .gone] ++ g7) c0' hv' fv' g' cb' g1 k1 cB cS (bodyF m) m ++ [.one true 0 (.cells (pgL c0y .ff bvy hvy fvy svy dvy (ofM m))), .gone, .gone, .gone, .gone, .gone, .gone, .gone, Z])) _ _ from ?_)
  refine sameY_at (M := (wrH ([.gone, .gone, .gone, .gone, .one true 0 (.cells [.fn (.func 34) [.ptr 3 0 0] [], .fn (.func 30) [.ptr 3 0 0] [], .fn (.func 35) [.ptr 3 0 0] [], .fn (.func 36) [.ptr 3 0 0] []]), .gone, .gone] ++ g7) c0' hv' fv' g' cb' g1 k1 cB cS (bodyF m) m ++ [.one true 0 (.cells (pgL c0y .ff bvy hvy fvy svy dvy (ofM m))), .gone, .gone, .gone, .gone, .gone, .gone, .gone, Z])) (z := 28) rfl rfl rfl kh kf kz ⟨by omega, by omega⟩ ls lb (fun e1 => ?_) (fun e1 => ?_)
  · repeat ((conv => whnf); first | with_reducible refine O_step ?_ | with_reducible refine S_step ?_ | with_reducible refine D_step ?_ | with_reducible refine RO.exit ?_ | with_reducible refine RO.ret ?_ | ((with_reducible refine And.intro ?sc ?_); case sc => exact side) | ((with_reducible refine br_f ?sc ?_); case sc => exact sideB) | ((with_reducible refine br_t ?sc ?_); case sc => exact sideB))
    refine CallA.view (Vw.ghost (i := 31) (k := 2) (x := .ints .u8 [] 0) rfl rfl ⟨rfl, rfl⟩) ?_
    have hty := o.ty
    rw [show m.ty % 18446744073709551616 = m.ty by omega]
    refine (show CallA Try.prog 22 [.ptr 31 0 0, .int .u64 m.ty, .int .i64 1] (((wrH ([.gone, .gone, .gone, .gone, .one true 0 (.cells [.fn (.func 34) [.ptr 3 0 0] [], .fn (.func 30) [.ptr 3 0 0] [], .fn (.func 35) [.ptr 3 0 0] [], .fn (.func 36) [.ptr 3 0 0] []]), .gone, .gone] ++ g7) c0' hv' fv' g' cb' g1 k1 cB cS (bodyF m) m ++ [.one true 0 (.cells (pgL c0y .ff bvy hvy fvy svy dvy (ofM m))), .gone, .gone, .gone, .gone, .gone, .gone, .gone, Z]) ++ [.gone, .gone]) ++ [.one true 0 (.cells [.ff, .tt, .sl 32 0 0 0 0]), .one true 0 (.ints .u8 [] 0)]) _ _ from ?_)
    refine pen_at (M := (wrH ([.gone, .gone, .gone, .gone, .one true 0 (.cells [.fn (.func 34) [.ptr 3 0 0] [], .fn (.func 30) [.ptr 3 0 0] [], .fn (.func 35) [.ptr 3 0 0] [], .fn (.func 36) [.ptr 3 0 0] []]), .gone, .gone] ++ g7) c0' hv' fv' g' cb' g1 k1 cB cS (bodyF m) m ++ [.one true 0 (.cells (pgL c0y .ff bvy hvy fvy svy dvy (ofM m))), .gone, .gone, .gone, .gone, .gone, .gone, .gone, Z]) ++ [.gone, .gone]) (v := m.ty) (n := 1) (b := []) (g := 0) (cb := 0) (by decide) (by have := o.ty; omega) (Nat.le_refl _) (by simp) (fun ga ca ka => ?_)
    repeat ((conv => whnf); first | with_reducible refine O_step ?_ | with_reducible refine S_step ?_ | with_reducible refine D_step ?_ | with_reducible refine RO.exit ?_ | with_reducible refine RO.ret ?_ | ((with_reducible refine And.intro ?sc ?_); case sc => exact side) | ((with_reducible refine br_f ?sc ?_); case sc => exact sideB) | ((with_reducible refine br_t ?sc ?_); case sc => exact sideB))
    rw [show ((bodyF m).length : Int) % 18446744073709551616 = (bodyF m).length by omega]
    refine (show CallA Try.prog 22 [.ptr 31 0 0, .int .u64 ((bodyF m).length : Int), .int .i64 4] (((wrH ([.gone, .gone, .gone, .gone, .one true 0 (.cells [.fn (.func 34) [.ptr 3 0 0] [], .fn (.func 30) [.ptr 3 0 0] [], .fn (.func 35) [.ptr 3 0 0] [], .fn (.func 36) [.ptr 3 0 0] []]), .gone, .gone] ++ g7) c0' hv' fv' g' cb' g1 k1 cB cS (bodyF m) m ++ [.one true 0 (.cells (pgL c0y .ff bvy hvy fvy svy dvy (ofM m))), .gone, .gone, .gone, .gone, .gone, .gone, .gone, Z]) ++ [.gone, .gone]) ++ [.one true 0 (.cells [.ff, .tt, .sl 32 ga 0 (beW m.ty 1).length ca]), .one true ga (.ints .u8 (beW m.ty 1) ca)]) _ _ from ?_)
    refine pen_at (M := (wrH ([.gone, .gone, .gone, .gone, .one true 0 (.cells [.fn (.func 34) [.ptr 3 0 0] [], .fn (.func 30) [.ptr 3 0 0] [], .fn (.func 35) [.ptr 3 0 0] [], .fn (.func 36) [.ptr 3 0 0] []]), .gone, .gone] ++ g7) c0' hv' fv' g' cb' g1 k1 cB cS (bodyF m) m ++ [.one true 0 (.cells (pgL c0y .ff bvy hvy fvy svy dvy (ofM m))), .gone, .gone, .gone, .gone, .gone, .gone, .gone, Z]) ++ [.gone, .gone]) (v := ((bodyF m).length : Int)) (n := 4) (b := beW m.ty 1) (g := ga) (cb := ca) (by decide) (by omega) ka (by rw [beW_length]; decide) (fun gb cb2 kb => ?_)
    have hbe : (beW m.ty 1 ++ beW ((bodyF m).length : Int) 4).length = 5 := by rw [List.length_append, beW_length, beW_length]
    repeat ((conv => whnf); first | with_reducible refine O_step ?_ | with_reducible refine S_step ?_ | with_reducible refine D_step ?_ | with_reducible refine RO.exit ?_ | with_reducible refine RO.ret ?_ | ((with_reducible refine And.intro ?sc ?_); case sc => exact side) | ((with_reducible refine br_f ?sc ?_); case sc => exact sideB) | ((with_reducible refine br_t ?sc ?_); case sc => exact sideB))
    intro zs hzs
    obtain rfl : zs = bodyF m := by rw [hzs]; exact List.take_length
    repeat ((conv => whnf); first | with_reducible refine O_step ?_ | with_reducible refine S_step ?_ | with_reducible refine D_step ?_ | with_reducible refine RO.exit ?_ | with_reducible refine RO.ret ?_ | ((with_reducible refine And.intro ?sc ?_); case sc => exact side) | ((with_reducible refine br_f ?sc ?_); case sc => exact sideB) | ((with_reducible refine br_t ?sc ?_); case sc => exact sideB))
    intro cz hcz
    repeat ((conv => whnf); first | with_reducible refine O_step ?_ | with_reducible refine S_step ?_ | with_reducible refine D_step ?_ | with_reducible refine RO.exit ?_ | with_reducible refine RO.ret ?_ | ((with_reducible refine And.intro ?sc ?_); case sc => exact side) | ((with_reducible refine br_f ?sc ?_); case sc => exact sideB) | ((with_reducible refine br_t ?sc ?_); case sc => exact sideB))
    have hw : (wireF m).length = (beW m.ty 1 ++ beW ((bodyF m).length : Int) 4).length + (bodyF m).length := List.length_append
    have := hO (by omega) e1 (gb + 1) cz (by rw [hw]; exact hcz)
    rw [hw] at this
    refine Exists.intro _ (And.intro ?_ (And.intro ?_ (And.intro ?_ (this))))
    · exact (And.intro rfl (And.intro rfl (And.intro trivial (And.intro trivial (And.intro trivial (And.intro trivial (And.intro trivial (And.intro trivial (And.intro trivial (And.intro trivial (And.intro trivial (And.intro trivial (And.intro trivial (And.intro trivial (And.intro trivial (And.intro trivial (And.intro trivial (And.intro trivial (And.intro trivial (And.intro trivial (And.intro trivial (And.intro trivial (And.intro trivial (And.intro trivial (And.intro trivial (And.intro trivial (And.intro trivial (And.intro trivial (And.intro trivial (And.intro trivial (And.intro trivial (And.intro trivial (And.intro rfl (trivial))))))))))))))))))))))))))))))))))
    · exact ⟨trivial, trivial, trivial, trivial, trivial, trivial, trivial, trivial, trivial, trivial, trivial, trivial, trivial, trivial, trivial, trivial, trivial, trivial, trivial, trivial, trivial, trivial, trivial, trivial, trivial, trivial, trivial, trivial, trivial, trivial, trivial, trivial, trivial, trivial⟩
    · rfl

  · repeat ((conv => whnf); first | with_reducible refine O_step ?_ | with_reducible refine S_step ?_ | with_reducible refine D_step ?_ | with_reducible refine RO.exit ?_ | with_reducible refine RO.ret ?_ | ((with_reducible refine And.intro ?sc ?_); case sc => exact side) | ((with_reducible refine br_f ?sc ?_); case sc => exact sideB) | ((with_reducible refine br_t ?sc ?_); case sc => exact sideB))
    refine Exists.intro _ (And.intro ?_ (And.intro ?_ (And.intro ?_ (hF (by omega) e1))))
    · exact (And.intro rfl (And.intro rfl (And.intro trivial (And.intro trivial (And.intro trivial (And.intro trivial (And.intro trivial (And.intro trivial (And.intro trivial (And.intro trivial (And.intro trivial (And.intro trivial (And.intro trivial (And.intro trivial (And.intro trivial (And.intro trivial (And.intro trivial (And.intro trivial (And.intro trivial (And.intro trivial (And.intro trivial (And.intro trivial (And.intro trivial (And.intro trivial (And.intro trivial (And.intro trivial (And.intro trivial (And.intro trivial (And.intro trivial (And.intro trivial (And.intro trivial (trivial))))))))))))))))))))))))))))))))
    · exact ⟨trivial, trivial, trivial, trivial, trivial, trivial, trivial, trivial, trivial, trivial, trivial, trivial, trivial, trivial, trivial, trivial, trivial, trivial, trivial, trivial, trivial, trivial, trivial, trivial, trivial, trivial, trivial, trivial, trivial, trivial, trivial, trivial⟩
    · rfl

set_option maxHeartbeats 4000000 in
theorem mwrite5 (o : okM m) (ls : m.sums.length ≤ 1000000000) (lb : m.body.length ≤ 1000000000) (kS : m.sums.length ≤ cS) (kB : m.body.length ≤ cB) (e : m.ty = 5)
    (hL : m.body.length > 524288 ∨ m.sums.length > 256 → K (.tup [.ns, .int .i64 2]) [.one false 0 (.ints .u32 m.sums cS), .one false 0 (.ints .u8 m.body cB), .gone, .gone, .gone, .gone, .gone, .gone, .gone, .gone, .gone, .gone, .gone])
    (hF : ¬ (m.body.length > 524288 ∨ m.sums.length > 256) → ofM m ≠ m → K (.tup [.ns, .int .i64 231]) [.one false 0 (.ints .u32 m.sums cS), .one false 0 (.ints .u8 m.body cB), .gone, .gone, .gone, .gone, .gone, .gone, .gone, .gone, .gone, .gone, .gone, .gone, .gone, .gone, .gone, .gone, .gone, .gone, .gone, .gone, .gone, .gone, .gone, .gone, .gone, .gone, .gone, .gone, .gone])
    (hO : ¬ (m.body.length > 524288 ∨ m.sums.length > 256) → ofM m = m → ∀ g c, (wireF m).length ≤ c → K (.tup [.sl 32 g 0 (wireF m).length c, .int .i64 0]) [.one false 0 (.ints .u32 m.sums cS), .one false 0 (.ints .u8 m.body cB), .gone, .gone, .gone, .gone, .gone, .gone, .gone, .gone, .gone, .gone, .gone, .gone, .gone, .gone, .gone, .gone, .gone, .gone, .gone, .gone, .gone, .gone, .gone, .gone, .gone, .gone, .gone, .gone, .gone, .gone, .one true g (.ints .u8 (wireF m) c)]) :
    CallA Try.prog 11 [.agg (msL (.bo m.has) (.bo m.full) (.sl 0 0 0 m.sums.length cS) (.sl 1 0 0 m.body.length cB) m)] [.one false 0 (.ints .u32 m.sums cS), .one false 0 (.ints .u8 m.body cB)] K Kp := by
  refine CallA.post_sub ?_
  refine step11 (fun _ => [2, 3, 20, 31]) [] rfl ?_
  repeat ((conv => whnf); first | with_reducible refine O_step ?_ | with_reducible refine S_step ?_ | with_reducible refine D_step ?_ | with_reducible refine RO.exit ?_ | with_reducible refine RO.ret ?_ | ((with_reducible refine And.intro ?sc ?_); case sc => exact side) | ((with_reducible refine br_f ?sc ?_); case sc => exact sideB) | ((with_reducible refine br_t ?sc ?_); case sc => exact sideB))
  refine CallA.lift [.win 0 0 0] (clone32_call (xs := m.sums) (c0 := cS) (c := cS) (Kp := fun _ _ => False) (by omega)) rfl rfl ⟨⟨_, _, _, rfl, rfl, winI0⟩, trivial⟩ ⟨trivial, trivial⟩ ?_ (fun _ _ h => h.elim)
  rintro r M' ⟨g1, k1, rfl, rfl, hk1⟩
  refine ⟨⟨rfl, rfl⟩, ?_⟩
  repeat ((conv => whnf); first | with_reducible refine O_step ?_ | with_reducible refine S_step ?_ | with_reducible refine D_step ?_ | with_reducible refine RO.exit ?_ | with_reducible refine RO.ret ?_ | ((with_reducible refine And.intro ?sc ?_); case sc => exact side) | ((with_reducible refine br_f ?sc ?_); case sc => exact sideB) | ((with_reducible refine br_t ?sc ?_); case sc => exact sideB))
  refine CallA.view (Vw.ghost (i := 3) (k := 2) (x := .ints .u8 [] 0) rfl rfl ⟨rfl, rfl⟩) ?_
  refine (show CallA Try.prog 19 [.ptr 3 0 0] (wrH [] .ff (.bo m.has) (.bo m.full) 0 0 g1 k1 cB cS [] m) _ _ from ?_)
  have ht : 1 ≤ m.ty ∧ m.ty ≤ 6 := by omega
  refine fieldsW_at5 (.inr (.inl ⟨rfl, rfl⟩)) (.inl rfl) (.inl rfl) e ?_
  repeat ((conv => whnf); first | with_reducible refine O_step ?_ | with_reducible refine S_step ?_ | with_reducible refine D_step ?_ | with_reducible refine RO.exit ?_ | with_reducible refine RO.ret ?_ | ((with_reducible refine And.intro ?sc ?_); case sc => exact side) | ((with_reducible refine br_f ?sc ?_); case sc => exact sideB) | ((with_reducible refine br_t ?sc ?_); case sc => exact sideB))
  refine And.intro (fun hc => ?_) (fun hc => ?_)
  · have hq : (524288 : Int) < m.body.length := of_decide_eq_true hc
    repeat ((conv => whnf); first | with_reducible refine O_step ?_ | with_reducible refine S_step ?_ | with_reducible refine D_step ?_ | with_reducible refine RO.exit ?_ | with_reducible refine RO.ret ?_ | ((with_reducible refine And.intro ?sc ?_); case sc => exact side) | ((with_reducible refine br_f ?sc ?_); case sc => exact sideB) | ((with_reducible refine br_t ?sc ?_); case sc => exact sideB))
    refine Exists.intro _ (And.intro ?_ (And.intro ?_ (And.intro ?_ (hL (.inl (by omega))))))
    · exact (And.intro rfl (And.intro rfl (And.intro trivial (And.intro trivial (And.intro trivial (And.intro trivial (And.intro trivial (And.intro trivial (And.intro trivial (And.intro trivial (And.intro trivial (And.intro trivial (And.intro trivial (trivial))))))))))))))
    · exact ⟨trivial, trivial, trivial, trivial, trivial, trivial, trivial, trivial, trivial, trivial, trivial, trivial, trivial, trivial⟩
    · rfl
  have hqb : ¬ (524288 : Int) < m.body.length := of_decide_eq_false hc
  repeat ((conv => whnf); first | with_reducible refine O_step ?_ | with_reducible refine S_step ?_ | with_reducible refine D_step ?_ | with_reducible refine RO.exit ?_ | with_reducible refine RO.ret ?_ | ((with_reducible refine And.intro ?sc ?_); case sc => exact side) | ((with_reducible refine br_f ?sc ?_); case sc => exact sideB) | ((with_reducible refine br_t ?sc ?_); case sc => exact sideB))
  refine And.intro (fun hc => ?_) (fun hc => ?_)
  · have hq : (256 : Int) < m.sums.length := of_decide_eq_true hc
    repeat ((conv => whnf); first | with_reducible refine O_step ?_ | with_reducible refine S_step ?_ | with_reducible refine D_step ?_ | with_reducible refine RO.exit ?_ | with_reducible refine RO.ret ?_ | ((with_reducible refine And.intro ?sc ?_); case sc => exact side) | ((with_reducible refine br_f ?sc ?_); case sc => exact sideB) | ((with_reducible refine br_t ?sc ?_); case sc => exact sideB))
    refine Exists.intro _ (And.intro ?_ (And.intro ?_ (And.intro ?_ (hL (.inr (by omega))))))
    · exact (And.intro rfl (And.intro rfl (And.intro trivial (And.intro trivial (And.intro trivial (And.intro trivial (And.intro trivial (And.intro trivial (And.intro trivial (And.intro trivial (And.intro trivial (And.intro trivial (And.intro trivial (trivial))))))))))))))
    · exact ⟨trivial, trivial, trivial, trivial, trivial, trivial, trivial, trivial, trivial, trivial, trivial, trivial, trivial, trivial⟩
    · rfl
  have hqs : ¬ (256 : Int) < m.sums.length := of_decide_eq_false hc
  repeat ((conv => whnf); first | with_reducible refine O_step ?_ | with_reducible refine S_step ?_ | with_reducible refine D_step ?_ | with_reducible refine RO.exit ?_ | with_reducible refine RO.ret ?_ | ((with_reducible refine And.intro ?sc ?_); case sc => exact side) | ((with_reducible refine br_f ?sc ?_); case sc => exact sideB) | ((with_reducible refine br_t ?sc ?_); case sc => exact sideB))
  refine (show CallA Try.prog 20 [.ptr 3 0 0] (wrH [.gone, .gone, .gone, .gone, .gone, .one true 0 (.cells [.fn (.func 33) [.ptr 3 0 0] [], .fn (.func 37) [.ptr 3 0 0] []]), .gone] .ff (.bo m.has) (.bo m.full) 0 0 g1 k1 cB cS [] m) _ _ from ?_)
  refine overW_at [.gone, .gone, .gone, .gone, .gone, .one true 0 (.cells [.fn (.func 33) [.ptr 3 0 0] [], .fn (.func 37) [.ptr 3 0 0] []]), .gone] ⟨o, .inr (.inl ⟨rfl, rfl⟩), .inl rfl, .inl rfl, Nat.le_refl _, hk1, kB, by simp, by omega, by omega⟩ ht (by simp) (fun c0' hv' fv' g' cb' ok => ?_)
  repeat ((conv => whnf); first | with_reducible refine O_step ?_ | with_reducible refine S_step ?_ | with_reducible refine D_step ?_ | with_reducible refine RO.exit ?_ | with_reducible refine RO.ret ?_ | ((with_reducible refine And.intro ?sc ?_); case sc => exact side) | ((with_reducible refine br_f ?sc ?_); case sc => exact sideB) | ((with_reducible refine br_t ?sc ?_); case sc => exact sideB))
  have hbl : (bodyF m).length ≤ 10000000 := by simpa using ok.lb
  have hbc : (bodyF m).length ≤ cb' := by simpa using ok.kb
  refine (show CallA Try.prog 20 [.ptr 20 0 0] (wrH ([.gone, .gone, .gone, .gone, .gone, .one true 0 (.cells [.fn (.func 33) [.ptr 3 0 0] [], .fn (.func 37) [.ptr 3 0 0] []]), .gone] ++ g7) c0' hv' fv' g' cb' g1 k1 cB cS (bodyF m) m ++ [.one true 0 (.cells (pgL .ff .ff (.sl 5 g' 0 (bodyF m).length cb') .ff .ff .ns .ns (zeroM m.ty)))]) _ _ from ?_)
  refine overY_at (M := wrH ([.gone, .gone, .gone, .gone, .gone, .one true 0 (.cells [.fn (.func 33) [.ptr 3 0 0] [], .fn (.func 37) [.ptr 3 0 0] []]), .gone] ++ g7) c0' hv' fv' g' cb' g1 k1 cB cS (bodyF m) m) (i := 5) (g := g') (c := cb') rfl o ht (by omega) hbc (by omega) (fun c0y bvy hvy fvy svy dvy Z kh kf kz => ?_)
  repeat ((conv => whnf); first | with_reducible refine O_step ?_ | with_reducible refine S_step ?_ | with_reducible refine D_step ?_ | with_reducible refine RO.exit ?_ | with_reducible refine RO.ret ?_ | ((with_reducible refine And.intro ?sc ?_); case sc => exact side) | ((with_reducible refine br_f ?sc ?_); case sc => exact sideB) | ((with_reducible refine br_t ?sc ?_); case sc => exact sideB))
  obtain ⟨lo1, lo2⟩ := ofM_le m
  refine (show CallA Try.prog 21 [.agg (msL hvy fvy svy dvy (ofM m)), .agg (msL (.bo m.has) (.bo m.full) (.sl 0 0 0 m.sums.length cS) (.sl 1 0 0 m.body.length cB) m)] ((wrH ([.gone, .gone, .gone, .gone, .gone, .one true 0 (.cells [.fn (.func 33) [.ptr 3 0 0] [], .fn (.func 37) [.ptr 3 0 0] []]), .gone] ++ g7) c0' hv' fv' g' cb' g1 k1 cB cS (bodyF m) m ++ [.one true 0 (.cells (pgL c0y .ff bvy hvy fvy svy dvy (ofM m))), .gone, .gone, .gone, .gone, .gone, .gone, .gone, Z])) _ _ from ?_)
  refine sameY_at (M := (wrH ([.gone, .gone, .gone, .gone, .gone, .one true 0 (.cells [.fn (.func 33) [.ptr 3 0 0] [], .fn (.func 37) [.ptr 3 0 0] []]), .gone] ++ g7) c0' hv' fv' g' cb' g1 k1 cB cS (bodyF m) m ++ [.one true 0 (.cells (pgL c0y .ff bvy hvy fvy svy dvy (ofM m))), .gone, .gone, .gone, .gone, .gone, .gone, .gone, Z])) (z := 28) rfl rfl rfl kh kf kz ⟨by omega, by omega⟩ ls lb (fun e1 => ?_) (fun e1 => ?_)
  · repeat ((conv => whnf); first | with_reducible refine O_step ?_ | with_reducible refine S_step ?_ | with_reducible refine D_step ?_ | with_reducible refine RO.exit ?_ | with_reducible refine RO.ret ?_ | ((with_reducible refine And.intro ?sc ?_); case sc => exact side) | ((with_reducible refine br_f ?sc ?_); case sc => exact sideB) | ((with_reducible refine br_t ?sc ?_); case sc => exact sideB))
    refine CallA.view (Vw.ghost (i := 31) (k := 2) (x := .ints .u8 [] 0) rfl rfl ⟨rfl, rfl⟩) ?_
    have hty := o.ty
    rw [show m.ty % 18446744073709551616 = m.ty by omega]
    refine (show CallA Try.prog 22 [.ptr 31 0 0, .int .u64 m.ty, .int .i64 1] (((wrH ([.gone, .gone, .gone, .gone, .gone, .one true 0 (.cells [.fn (.func 33) [.ptr 3 0 0] [], .fn (.func 37) [.ptr 3 0 0] []]), .gone] ++ g7) c0' hv' fv' g' cb' g1 k1 cB cS (bodyF m) m ++ [.one true 0 (.cells (pgL c0y .ff bvy hvy fvy svy dvy (ofM m))), .gone, .gone, .gone, .gone, .gone, .gone, .gone, Z]) ++ [.gone, .gone]) ++ [.one true 0 (.cells [.ff, .tt, .sl 32 0 0 0 0]), .one true 0 (.ints .u8 [] 0)]) _ _ from ?_)
    refine pen_at (M := (wrH ([.gone, .gone, .gone, .gone, .gone, .one true 0 (.cells [.fn (.func 33) [.ptr 3 0 0] [], .fn (.func 37) [.ptr 3 0 0] []]), .gone] ++ g7) c0' hv' fv' g' cb' g1 k1 cB cS (bodyF m) m ++ [.one true 0 (.cells (pgL c0y .ff bvy hvy fvy svy dvy (ofM m))), .gone, .gone, .gone, .gone, .gone, .gone, .gone, Z]) ++ [.gone, .gone]) (v := m.ty) (n := 1) (b := []) (g := 0) (cb := 0) (by decide) (by have := o.ty; omega) (Nat.le_refl _) (by simp) (fun ga ca ka => ?_)
    repeat ((conv => whnf); first | with_reducible refine O_step ?_ | with_reducible refine S_step ?_ | with_reducible refine D_step ?_ | with_reducible refine RO.exit ?_ | with_reducible refine RO.ret ?_ | ((with_reducible refine And.intro ?sc ?_); case sc => exact side) | ((with_reducible refine br_f ?sc ?_); case sc => exact sideB) | ((with_reducible refine br_t ?sc ?_); case sc => exact sideB))
    rw [show ((bodyF m).length : Int) % 18446744073709551616 = (bodyF m).length by omega]
    refine (show CallA Try.prog 22 [.ptr 31 0 0, .int .u64 ((bodyF m).length : Int), .int .i64 4] (((wrH ([.gone, .gone, .gone, .gone, .gone, .one true 0 (.cells [.fn (.func 33) [.ptr 3 0 0] [], .fn (.func 37) [.ptr 3 0 0] []]), .gone] ++ g7) c0' hv' fv' g' cb' g1 k1 cB cS (bodyF m) m ++ [.one true 0 (.cells (pgL c0y .ff bvy hvy fvy svy dvy (ofM m))), .gone, .gone, .gone, .gone, .gone, .gone, .gone, Z]) ++ [.gone, .gone]) ++ [.one true 0 (.cells [.ff, .tt, .sl 32 ga 0 (beW m.ty 1).length ca]), .one true ga (.ints .u8 (beW m.ty 1) ca)]) _ _ from ?_)
    refine pen_at (M := (wrH ([.gone, .gone, .gone, .gone, .gone, .one true 0 (.cells [.fn (.func 33) [.ptr 3 0 0] [], .fn (.func 37) [.ptr 3 0 0] []]), .gone] ++ g7) c0' hv' fv' g' cb' g1 k1 cB cS (bodyF m) m ++ [.one true 0 (.cells (pgL c0y .ff bvy hvy fvy svy dvy (ofM m))), .gone, .gone, .gone, .gone, .gone, .gone, .gone, Z]) ++ [.gone, .gone]) (v := ((bodyF m).length : Int)) (n := 4) (b := beW m.ty 1) (g := ga) (cb := ca) (by decide) (by omega) ka (by rw [beW_length]; decide) (fun gb cb2 kb => ?_)
    have hbe : (beW m.ty 1 ++ beW ((bodyF m).length : Int) 4).length = 5 := by rw [List.length_append, beW_length, beW_length]
    repeat ((conv => whnf); first | with_reducible refine O_step ?_ | with_reducible refine S_step ?_ | with_reducible refine D_step ?_ | with_reducible refine RO.exit ?_ | with_reducible refine RO.ret ?_ | ((with_reducible refine And.intro ?sc ?_); case sc => exact side) | ((with_reducible refine br_f ?sc ?_); case sc => exact sideB) | ((with_reducible refine br_t ?sc ?_); case sc => exact sideB))
    intro zs hzs
    obtain rfl : zs = bodyF m := by rw [hzs]; exact List.take_length
    repeat ((conv => whnf); first | with_reducible refine O_step ?_ | with_reducible refine S_step ?_ | with_reducible refine D_step ?_ | with_reducible refine RO.exit ?_ | with_reducible refine RO.ret ?_ | ((with_reducible refine And.intro ?sc ?_); case sc => exact side) | ((with_reducible refine br_f ?sc ?_); case sc => exact sideB) | ((with_reducible refine br_t ?sc ?_); case sc => exact sideB))
    intro cz hcz
    repeat ((conv => whnf); first | with_reducible refine O_step ?_ | with_reducible refine S_step ?_ | with_reducible refine D_step ?_ | with_reducible refine RO.exit ?_ | with_reducible refine RO.ret ?_ | ((with_reducible refine And.intro ?sc ?_); case sc => exact side) | ((with_reducible refine br_f ?sc ?_); case sc => exact sideB) | ((with_reducible refine br_t ?sc ?_); case sc => exact sideB))
    have hw : (wireF m).length = (beW m.ty 1 ++ beW ((bodyF m).length : Int) 4).length + (bodyF m).length := List.length_append
    have := hO (by omega) e1 (gb + 1) cz (by rw [hw]; exact hcz)
    rw [hw] at this
    refine Exists.intro _ (And.intro ?_ (And.intro ?_ (And.intro ?_ (this))))
    · exact (And.intro rfl (And.intro rfl (And.intro trivial (And.intro trivial (And.intro trivial (And.intro trivial (And.intro trivial (And.intro trivial (And.intro trivial (And.intro trivial (And.intro trivial (And.intro trivial (And.intro trivial (And.intro trivial (And.intro trivial (And.intro trivial (And.intro trivial (And.intro trivial (And.intro trivial (And.intro trivial (And.intro trivial (And.intro trivial (And.intro trivial (And.intro trivial (And.intro trivial (And.intro trivial (And.intro trivial (And.intro trivial (And.intro trivial (And.intro trivial (And.intro trivial (And.intro trivial (And.intro rfl (trivial))))))))))))))))))))))))))))))))))
    · exact ⟨trivial, trivial, trivial, trivial, trivial, trivial, trivial, trivial, trivial, trivial, trivial, trivial, trivial, trivial, trivial, trivial, trivial, trivial, trivial, trivial, trivial, trivial, trivial, trivial, trivial, trivial, trivial, trivial, trivial, trivial, trivial, trivial, trivial, trivial⟩
    · rfl

  · repeat ((conv => whnf); first | with_reducible refine O_step ?_ | with_reducible refine S_step ?_ | with_reducible refine D_step ?_ | with_reducible refine RO.exit ?_ | with_reducible refine RO.ret ?_ | ((with_reducible refine And.intro ?sc ?_); case sc => exact side) | ((with_reducible refine br_f ?sc ?_); case sc => exact sideB) | ((with_reducible refine br_t ?sc ?_); case sc => exact sideB))
    refine Exists.intro _ (And.intro ?_ (And.intro ?_ (And.intro ?_ (hF (by omega) e1))))
    · exact (And.intro rfl (And.intro rfl (And.intro trivial (And.intro trivial (And.intro trivial (And.intro trivial (And.intro trivial (And.intro trivial (And.intro trivial (And.intro trivial (And.intro trivial (And.intro trivial (And.intro trivial (And.intro trivial (And.intro trivial (And.intro trivial (And.intro trivial (And.intro trivial (And.intro trivial (And.intro trivial (And.intro trivial (And.intro trivial (And.intro trivial (And.intro trivial (And.intro trivial (And.intro trivial (And.intro trivial (And.intro trivial (And.intro trivial (And.intro trivial (And.intro trivial (trivial))))))))))))))))))))))))))))))))
    · exact ⟨trivial, trivial, trivial, trivial, trivial, trivial, trivial, trivial, trivial, trivial, trivial, trivial, trivial, trivial, trivial, trivial, trivial, trivial, trivial, trivial, trivial, trivial, trivial, trivial, trivial, trivial, trivial, trivial, trivial, trivial, trivial, trivial⟩
    · rfl

set_option maxHeartbeats 4000000 in
theorem mwrite6 (o : okM m) (ls : m.sums.length ≤ 1000000000) (lb : m.body.length ≤ 1000000000) (kS : m.sums.length ≤ cS) (kB : m.body.length ≤ cB) (e : m.ty = 6)
    (hL : m.body.length > 524288 ∨ m.sums.length > 256 → K (.tup [.ns, .int .i64 2]) [.one false 0 (.ints .u32 m.sums cS), .one false 0 (.ints .u8 m.body cB), .gone, .gone, .gone, .gone, .gone, .gone, .gone, .gone, .gone, .gone, .gone])
    (hF : ¬ (m.body.length > 524288 ∨ m.sums.length > 256) → ofM m ≠ m → K (.tup [.ns, .int .i64 231]) [.one false 0 (.ints .u32 m.sums cS), .one false 0 (.ints .u8 m.body cB), .gone, .gone, .gone, .gone, .gone, .gone, .gone, .gone, .gone, .gone, .gone, .gone, .gone, .gone, .gone, .gone, .gone, .gone, .gone, .gone, .gone, .gone, .gone, .gone, .gone, .gone, .gone, .gone, .gone])
    (hO : ¬ (m.body.length > 524288 ∨ m.sums.length > 256) → ofM m = m → ∀ g c, (wireF m).length ≤ c → K (.tup [.sl 32 g 0 (wireF m).length c, .int .i64 0]) [.one false 0 (.ints .u32 m.sums cS), .one false 0 (.ints .u8 m.body cB), .gone, .gone, .gone, .gone, .gone, .gone, .gone, .gone, .gone, .gone, .gone, .gone, .gone, .gone, .gone, .gone, .gone, .gone, .gone, .gone, .gone, .gone, .gone, .gone, .gone, .gone, .gone, .gone, .gone, .gone, .one true g (.ints .u8 (wireF m) c)]) :
    CallA Try.prog 11 [.agg (msL (.bo m.has) (.bo m.full) (.sl 0 0 0 m.sums.length cS) (.sl 1 0 0 m.body.length cB) m)] [.one false 0 (.ints .u32 m.sums cS), .one false 0 (.ints .u8 m.body cB)] K Kp := by
  refine CallA.post_sub ?_
  refine step11 (fun _ => [2, 3, 20, 31]) [] rfl ?_
  repeat ((conv => whnf); first | with_reducible refine O_step ?_ | with_reducible refine S_step ?_ | with_reducible refine D_step ?_ | with_reducible refine RO.exit ?_ | with_reducible refine RO.ret ?_ | ((with_reducible refine And.intro ?sc ?_); case sc => exact side) | ((with_reducible refine br_f ?sc ?_); case sc => exact sideB) | ((with_reducible refine br_t ?sc ?_); case sc => exact sideB))
  refine CallA.lift [.win 0 0 0] (clone32_call (xs := m.sums) (c0 := cS) (c := cS) (Kp := fun _ _ => False) (by omega)) rfl rfl ⟨⟨_, _, _, rfl, rfl, winI0⟩, trivial⟩ ⟨trivial, trivial⟩ ?_ (fun _ _ h => h.elim)
  rintro r M' ⟨g1, k1, rfl, rfl, hk1⟩
  refine ⟨⟨rfl, rfl⟩, ?_⟩
  repeat ((conv => whnf); first | with_reducible refine O_step ?_ | with_reducible refine S_step ?_ | with_reducible refine D_step ?_ | with_reducible refine RO.exit ?_ | with_reducible refine RO.ret ?_ | ((with_reducible refine And.intro ?sc ?_); case sc => exact side) | ((with_reducible refine br_f ?sc ?_); case sc => exact sideB) | ((with_reducible refine br_t ?sc ?_); case sc => exact sideB))
  refine CallA.view (Vw.ghost (i := 3) (k := 2) (x := .ints .u8 [] 0) rfl rfl ⟨rfl, rfl⟩) ?_
  refine (show CallA Try.prog 19 [.ptr 3 0 0] (wrH [] .ff (.bo m.has) (.bo m.full) 0 0 g1 k1 cB cS [] m) _ _ from ?_)
  have ht : 1 ≤ m.ty ∧ m.ty ≤ 6 := by omega
  refine fieldsW_at6 (.inr (.inl ⟨rfl, rfl⟩)) (.inl rfl) (.inl rfl) e ?_
  repeat ((conv => whnf); first | with_reducible refine O_step ?_ | with_reducible refine S_step ?_ | with_reducible refine D_step ?_ | with_reducible refine RO.exit ?_ | with_reducible refine RO.ret ?_ | ((with_reducible refine And.intro ?sc ?_); case sc => exact side) | ((with_reducible refine br_f ?sc ?_); case sc => exact sideB) | ((with_reducible refine br_t ?sc ?_); case sc => exact sideB))
  refine And.intro (fun hc => ?_) (fun hc => ?_)
  · have hq : (524288 : Int) < m.body.length := of_decide_eq_true hc
    repeat ((conv => whnf); first | with_reducible refine O_step ?_ | with_reducible refine S_step ?_ | with_reducible refine D_step ?_ | with_reducible refine RO.exit ?_ | with_reducible refine RO.ret ?_ | ((with_reducible refine And.intro ?sc ?_); case sc => exact side) | ((with_reducible refine br_f ?sc ?_); case sc => exact sideB) | ((with_reducible refine br_t ?sc ?_); case sc => exact sideB))
    refine Exists.intro _ (And.intro ?_ (And.intro ?_ (And.intro ?_ (hL (.inl (by omega))))))
    · exact (And.intro rfl (And.intro rfl (And.intro trivial (And.intro trivial (And.intro trivial (And.intro trivial (And.intro trivial (And.intro trivial (And.intro trivial (And.intro trivial (And.intro trivial (And.intro trivial (And.intro trivial (trivial))))))))))))))
    · exact ⟨trivial, trivial, trivial, trivial, trivial, trivial, trivial, trivial, trivial, trivial, trivial, trivial, trivial, trivial⟩
    · rfl
  have hqb : ¬ (524288 : Int) < m.body.length := of_decide_eq_false hc
  repeat ((conv => whnf); first | with_reducible refine O_step ?_ | with_reducible refine S_step ?_ | with_reducible refine D_step ?_ | with_reducible refine RO.exit ?_ | with_reducible refine RO.ret ?_ | ((with_reducible refine And.intro ?sc ?_); case sc => exact side) | ((with_reducible refine br_f ?sc ?_); case sc => exact sideB) | ((with_reducible refine br_t ?sc ?_); case sc => exact sideB))
  refine And.intro (fun hc => ?_) (fun hc => ?_)
  · have hq : (256 : Int) < m.sums.length := of_decide_eq_true hc
    repeat ((conv => whnf); first | with_reducible refine O_step ?_ | with_reducible refine S_step ?_ | with_reducible refine D_step ?_ | with_reducible refine RO.exit ?_ | with_reducible refine RO.ret ?_ | ((with_reducible refine And.intro ?sc ?_); case sc => exact side) | ((with_reducible refine br_f ?sc ?_); case sc => exact sideB) | ((with_reducible refine br_t ?sc ?_); case sc => exact sideB))
    refine Exists.intro _ (And.intro ?_ (And.intro ?_ (And.intro ?_ (hL (.inr (by omega))))))
    · exact (And.intro rfl (And.intro rfl (And.intro trivial (And.intro trivial (And.intro trivial (And.intro trivial (And.intro trivial (And.intro trivial (And.intro trivial (And.intro trivial (And.intro trivial (And.intro trivial (And.intro trivial (trivial))))))))))))))
    · exact ⟨trivial, trivial, trivial, trivial, trivial, trivial, trivial, trivial, trivial, trivial, trivial, trivial, trivial, trivial⟩
    · rfl
  have hqs : ¬ (256 : Int) < m.sums.length := of_decide_eq_false hc
  repeat ((conv => whnf); first | with_reducible refine O_step ?_ | with_reducible refine S_step ?_ | with_reducible refine D_step ?_ | with_reducible refine RO.exit ?_ | with_reducible refine RO.ret ?_ | ((with_reducible refine And.intro ?sc ?_); case sc => exact side) | ((with_reducible refine br_f ?sc ?_); case sc => exact sideB) | ((with_reducible refine br_t ?sc ?_); case sc => exact sideB))
  refine (show CallA Try.prog 20 [.ptr 3 0 0] (wrH [.gone, .gone, .gone, .gone, .gone, .gone, .one true 0 (.cells [.fn (.func 33) [.ptr 3 0 0] []])] .ff (.bo m.has) (.bo m.full) 0 0 g1 k1 cB cS [] m) _ _ from ?_)
  refine overW_at [.gone, .gone, .gone, .gone, .gone, .gone, .one true 0 (.cells [.fn (.func 33) [.ptr 3 0 0] []])] ⟨o, .inr (.inl ⟨rfl, rfl⟩), .inl rfl, .inl rfl, Nat.le_refl _, hk1, kB, by simp, by omega, by omega⟩ ht (by simp) (fun c0' hv' fv' g' cb' ok => ?_)
  repeat ((conv => whnf); first | with_reducible refine O_step ?_ | with_reducible refine S_step ?_ | with_reducible refine D_step ?_ | with_reducible refine RO.exit ?_ | with_reducible refine RO.ret ?_ | ((with_reducible refine And.intro ?sc ?_); case sc => exact side) | ((with_reducible refine br_f ?sc ?_); case sc => exact sideB) | ((with_reducible refine br_t ?sc ?_); case sc => exact sideB))
  have hbl : (bodyF m).length ≤ 10000000 := by simpa using ok.lb
  have hbc : (bodyF m).length ≤ cb' := by simpa using ok.kb
  refine (show CallA Try.prog 20 [.ptr 20 0 0] (wrH ([.gone, .gone, .gone, .gone, .gone, .gone, .one true 0 (.cells [.fn (.func 33) [.ptr 3 0 0] []])] ++ g7) c0' hv' fv' g' cb' g1 k1 cB cS (bodyF m) m ++ [.one true 0 (.cells (pgL .ff .ff (.sl 5 g' 0 (bodyF m).length cb') .ff .ff .ns .ns (zeroM m.ty)))]) _ _ from ?_)
  refine overY_at (M := wrH ([.gone, .gone, .gone, .gone, .gone, .gone, .one true 0 (.cells [.fn (.func 33) [.ptr 3 0 0] []])] ++ g7) c0' hv' fv' g' cb' g1 k1 cB cS (bodyF m) m) (i := 5) (g := g') (c := cb') rfl o ht (by omega) hbc (by omega) (fun c0y bvy hvy fvy svy dvy Z kh kf kz => ?_)
  repeat ((conv => whnf); first | with_reducible refine O_step ?_ | with_reducible refine S_step ?_ | with_reducible refine D_step ?_ | with_reducible refine RO.exit ?_ | with_reducible refine RO.ret ?_ | ((with_reducible refine And.intro ?sc ?_); case sc => exact side) | ((with_reducible refine br_f ?sc ?_); case sc => exact sideB) | ((with_reducible refine br_t ?sc ?_); case sc => exact sideB))
  obtain ⟨lo1, lo2⟩ := ofM_le m
  refine (show CallA Try.prog 21 [.agg (msL hvy fvy svy dvy (ofM m)), .agg (msL (.bo m.has) (.bo m.full) (.sl 0 0 0 m.sums.length cS) (.sl 1 0 0 m.body.length cB) m)] ((wrH ([.gone, .gone, .gone, .gone, .gone, .gone, .one true 0 (.cells [.fn (.func 33) [.ptr 3 0 0] []])] ++ g7) c0' hv' fv' g' cb' g1 k1 cB cS (bodyF m) m ++ [.one true 0 (.cells (pgL c0y .ff bvy hvy fvy svy dvy (ofM m))), .gone, .gone, .gone, .gone, .gone, .gone, .gone, Z])) _ _ from ?_)
  refine sameY_at (M := (wrH ([.gone, .gone, .gone, .gone, .gone, .gone, .one true 0 (.cells [.fn (.func 33) [.ptr 3 0 0] []])] ++ g7) c0' hv' fv' g' cb' g1 k1 cB cS (bodyF m) m ++ [.one true 0 (.cells (pgL c0y .ff bvy hvy fvy svy dvy (ofM m))), .gone, .gone, .gone, .gone, .gone, .gone, .gone, Z])) (z := 28) rfl rfl rfl kh kf kz ⟨by omega, by omega⟩ ls lb (fun e1 => ?_) (fun e1 => ?_)
  · repeat ((conv => whnf); first | with_reducible refine O_step ?_ | with_reducible refine S_step ?_ | with_reducible refine D_step ?_ | with_reducible refine RO.exit ?_ | with_reducible refine RO.ret ?_ | ((with_reducible refine And.intro ?sc ?_); case sc => exact side) | ((with_reducible refine br_f ?sc ?_); case sc => exact sideB) | ((with_reducible refine br_t ?sc ?_); case sc => exact sideB))
    refine CallA.view (Vw.ghost (i := 31) (k := 2) (x := .ints .u8 [] 0) rfl rfl ⟨rfl, rfl⟩) ?_
    have hty := o.ty
    rw [show m.ty % 18446744073709551616 = m.ty by omega]
    refine (show CallA Try.prog 22 [.ptr 31 0 0, .int .u64 m.ty, .int .i64 1] (((wrH ([.gone, .gone, .gone, .gone, .gone, .gone, .one true 0 (.cells [.fn (.func 33) [.ptr 3 0 0] []])] ++ g7) c0' hv' fv' g' cb' g1 k1 cB cS (bodyF m) m ++ [.one true 0 (.cells (pgL c0y .ff bvy hvy fvy svy dvy (ofM m))), .gone, .gone, .gone, .gone, .gone, .gone, .gone, Z]) ++ [.gone, .gone]) ++ [.one true 0 (.cells [.ff, .tt, .sl 32 0 0 0 0]), .one true 0 (.ints .u8 [] 0)]) _ _ from ?_)
    refine pen_at (M := (wrH ([.gone, .gone, .gone, .gone, .gone, .gone, .one true 0 (.cells [.fn (.func 33) [.ptr 3 0 0] []])] ++ g7) c0' hv' fv' g' cb' g1 k1 cB cS (bodyF m) m ++ [.one true 0 (.cells (pgL c0y .ff bvy hvy fvy svy dvy (ofM m))), .gone, .gone, .gone, .gone, .gone, .gone, .gone, Z]) ++ [.gone, .gone]) (v := m.ty) (n := 1) (b := []) (g := 0) (cb := 0) (by decide) (by have := o.ty; omega) (Nat.le_refl _) (by simp) (fun ga ca ka => ?_)
    repeat ((conv => whnf); first | with_reducible refine O_step ?_ | with_reducible refine S_step ?_ | with_reducible refine D_step ?_ | with_reducible refine RO.exit ?_ | with_reducible refine RO.ret ?_ | ((with_reducible refine And.intro ?sc ?_); case sc => exact side) | ((with_reducible refine br_f ?sc ?_); case sc => exact sideB) | ((with_reducible refine br_t ?sc ?_); case sc => exact sideB))
    rw [show ((bodyF m).length : Int) % 18446744073709551616 = (bodyF m).length by omega]
    refine (show CallA Try.prog 22 [.ptr 31 0 0, .int .u64 ((bodyF m).length : Int), .int .i64 4] (((wrH ([.gone, .gone, .gone, .gone, .gone, .gone, .one true 0 (.cells [.fn (.func 33) [.ptr 3 0 0] []])] ++ g7) c0' hv' fv' g' cb' g1 k1 cB cS (bodyF m) m ++ [.one true 0 (.cells (pgL c0y .ff bvy hvy fvy svy dvy (ofM m))), .gone, .gone, .gone, .gone, .gone, .gone, .gone, Z]) ++ [.gone, .gone]) ++ [.one true 0 (.cells [.ff, .tt, .sl 32 ga 0 (beW m.ty 1).length ca]), .one true ga (.ints .u8 (beW m.ty 1) ca)]) _ _ from ?_)
    refine pen_at (M := (wrH ([.gone, .gone, .gone, .gone, .gone, .gone, .one true 0 (.cells [.fn (.func 33) [.ptr 3 0 0] []])] ++ g7) c0' hv' fv' g' cb' g1 k1 cB cS (bodyF m) m ++ [.one true 0 (.cells (pgL c0y .ff bvy hvy fvy svy dvy (ofM m))), .gone, .gone, .gone, .gone, .gone, .gone, .gone, Z]) ++ [.gone, .gone]) (v := ((bodyF m).length : Int)) (n := 4) (b := beW m.ty 1) (g := ga) (cb := ca) (by decide) (by omega) ka (by rw [beW_length]; decide) (fun gb cb2 kb => ?_)
    have hbe : (beW m.ty 1 ++ beW ((bodyF m).length : Int) 4).length = 5 := by rw [List.length_append, beW_length, beW_length]
    repeat ((conv => whnf); first | with_reducible refine O_step ?_ | with_reducible refine S_step ?_ | with_reducible refine D_step ?_ | with_reducible refine RO.exit ?_ | with_reducible refine RO.ret ?_ | ((with_reducible refine And.intro ?sc ?_); case sc => exact side) | ((with_reducible refine br_f ?sc ?_); case sc => exact sideB) | ((with_reducible refine br_t ?sc ?_); case sc => exact sideB))
    intro zs hzs
    obtain rfl : zs = bodyF m := by rw [hzs]; exact List.take_length
    repeat ((conv => whnf); first | with_reducible refine O_step ?_ | with_reducible refine S_step ?_ | with_reducible refine D_step ?_ | with_reducible refine RO.exit ?_ | with_reducible refine RO.ret ?_ | ((with_reducible refine And.intro ?sc ?_); case sc => exact side) | ((with_reducible refine br_f ?sc ?_); case sc => exact sideB) | ((with_reducible refine br_t ?sc ?_); case sc => exact sideB))
    intro cz hcz
    repeat ((conv => whnf); first | with_reducible refine O_step ?_ | with_reducible refine S_step ?_ | with_reducible refine D_step ?_ | with_reducible refine RO.exit ?_ | with_reducible refine RO.ret ?_ | ((with_reducible refine And.intro ?sc ?_); case sc => exact side) | ((with_reducible refine br_f ?sc ?_); case sc => exact sideB) | ((with_reducible refine br_t ?sc ?_); case sc => exact sideB))
    have hw : (wireF m).length = (beW m.ty 1 ++ beW ((bodyF m).length : Int) 4).length + (bodyF m).length := List.length_append
    have := hO (by omega) e1 (gb + 1) cz (by rw [hw]; exact hcz)
    rw [hw] at this
    refine Exists.intro _ (And.intro ?_ (And.intro ?_ (And.intro ?_ (this))))
    · exact (And.intro rfl (And.intro rfl (And.intro trivial (And.intro trivial (And.intro trivial (And.intro trivial (And.intro trivial (And.intro trivial (And.intro trivial (And.intro trivial (And.intro trivial (And.intro trivial (And.intro trivial (And.intro trivial (And.intro trivial (And.intro trivial (And.intro trivial (And.intro trivial (And.intro trivial (And.intro trivial (And.intro trivial (And.intro trivial (And.intro trivial (And.intro trivial (And.intro trivial (And.intro trivial (And.intro trivial (And.intro trivial (And.intro trivial (And.intro trivial (And.intro trivial (And.intro trivial (And.intro rfl (trivial))))))))))))))))))))))))))))))))))
    · exact ⟨trivial, trivial, trivial, trivial, trivial, trivial, trivial, trivial, trivial, trivial, trivial, trivial, trivial, trivial, trivial, trivial, trivial, trivial, trivial, trivial, trivial, trivial, trivial, trivial, trivial, trivial, trivial, trivial, trivial, trivial, trivial, trivial, trivial, trivial⟩
    · rfl

  · repeat ((conv => whnf); first | with_reducible refine O_step ?_ | with_reducible refine S_step ?_ | with_reducible refine D_step ?_ | with_reducible refine RO.exit ?_ | with_reducible refine RO.ret ?_ | ((with_reducible refine And.intro ?sc ?_); case sc => exact side) | ((with_reducible refine br_f ?sc ?_); case sc => exact sideB) | ((with_reducible refine br_t ?sc ?_); case sc => exact sideB))
    refine Exists.intro _ (And.intro ?_ (And.intro ?_ (And.intro ?_ (hF (by omega) e1))))
    · exact (And.intro rfl (And.intro rfl (And.intro trivial (And.intro trivial (And.intro trivial (And.intro trivial (And.intro trivial (And.intro trivial (And.intro trivial (And.intro trivial (And.intro trivial (And.intro trivial (And.intro trivial (And.intro trivial (And.intro trivial (And.intro trivial (And.intro trivial (And.intro trivial (And.intro trivial (And.intro trivial (And.intro trivial (And.intro trivial (And.intro trivial (And.intro trivial (And.intro trivial (And.intro trivial (And.intro trivial (And.intro trivial (And.intro trivial (And.intro trivial (And.intro trivial (trivial))))))))))))))))))))))))))))))))
    · exact ⟨trivial, trivial, trivial, trivial, trivial, trivial, trivial, trivial, trivial, trivial, trivial, trivial, trivial, trivial, trivial, trivial, trivial, trivial, trivial, trivial, trivial, trivial, trivial, trivial, trivial, trivial, trivial, trivial, trivial, trivial, trivial, trivial⟩
    · rfl

/-- THE CONTRACT OF message.Write. -/
theorem mwrite_call (o : okM m) (ls : m.sums.length ≤ 1000000000) (lb : m.body.length ≤ 1000000000) (kS : m.sums.length ≤ cS) (kB : m.body.length ≤ cB)
    (hT : ¬ (1 ≤ m.ty ∧ m.ty ≤ 6) → K (.tup [.ns, .int .i64 230]) [.one false 0 (.ints .u32 m.sums cS), .one false 0 (.ints .u8 m.body cB), .gone, .gone, .gone, .gone, .gone, .gone, .gone, .gone, .gone, .gone, .gone])
    (hL : 1 ≤ m.ty ∧ m.ty ≤ 6 → m.body.length > 524288 ∨ m.sums.length > 256 → K (.tup [.ns, .int .i64 2]) [.one false 0 (.ints .u32 m.sums cS), .one false 0 (.ints .u8 m.body cB), .gone, .gone, .gone, .gone, .gone, .gone, .gone, .gone, .gone, .gone, .gone])
    (hF : 1 ≤ m.ty ∧ m.ty ≤ 6 → ¬ (m.body.length > 524288 ∨ m.sums.length > 256) → ofM m ≠ m → K (.tup [.ns, .int .i64 231]) [.one false 0 (.ints .u32 m.sums cS), .one false 0 (.ints .u8 m.body cB), .gone, .gone, .gone, .gone, .gone, .gone, .gone, .gone, .gone, .gone, .gone, .gone, .gone, .gone, .gone, .gone, .gone, .gone, .gone, .gone, .gone, .gone, .gone, .gone, .gone, .gone, .gone, .gone, .gone])
    (hO : 1 ≤ m.ty ∧ m.ty ≤ 6 → ¬ (m.body.length > 524288 ∨ m.sums.length > 256) → ofM m = m → ∀ g c, (wireF m).length ≤ c → K (.tup [.sl 32 g 0 (wireF m).length c, .int .i64 0]) [.one false 0 (.ints .u32 m.sums cS), .one false 0 (.ints .u8 m.body cB), .gone, .gone, .gone, .gone, .gone, .gone, .gone, .gone, .gone, .gone, .gone, .gone, .gone, .gone, .gone, .gone, .gone, .gone, .gone, .gone, .gone, .gone, .gone, .gone, .gone, .gone, .gone, .gone, .gone, .gone, .one true g (.ints .u8 (wireF m) c)]) :
    CallA Try.prog 11 [.agg (msL (.bo m.has) (.bo m.full) (.sl 0 0 0 m.sums.length cS) (.sl 1 0 0 m.body.length cB) m)] [.one false 0 (.ints .u32 m.sums cS), .one false 0 (.ints .u8 m.body cB)] K Kp := by
  by_cases ht : 1 ≤ m.ty ∧ m.ty ≤ 6
  · obtain e | e | e | e | e | e : m.ty = 1 ∨ m.ty = 2 ∨ m.ty = 3 ∨ m.ty = 4 ∨ m.ty = 5 ∨ m.ty = 6 := by omega
    · exact mwrite1 o ls lb kS kB e (hL ht) (hF ht) (hO ht)
    · exact mwrite2 o ls lb kS kB e (hL ht) (hF ht) (hO ht)
    · exact mwrite3 o ls lb kS kB e (hL ht) (hF ht) (hO ht)
    · exact mwrite4 o ls lb kS kB e (hL ht) (hF ht) (hO ht)
    · exact mwrite5 o ls lb kS kB e (hL ht) (hF ht) (hO ht)
    · exact mwrite6 o ls lb kS kB e (hL ht) (hF ht) (hO ht)
  · exact mwriteT o ls lb kS kB ht (hT ht)
end

end Go.Proofs.Ytedlpkibdjccdaa
