/- Ranges over functions: the statement, and its rounds. -/
import Derived.Test.YteinenklppbjkaaAb21
import Derived.RangeFuncIn
set_option linter.unusedVariables false
set_option linter.unusedSimpArgs false
open Go.RowKit
namespace Go.Proofs.Yteinenklppbjkaa

theorem sim_quiet {ρ : Env} {M : AH} {w w' : World} (h : Sim ρ M w) (hw : ∀ b, b < w.heap.size → w'.heap[b]? = w.heap[b]?) : Sim ρ M w' := by
  refine ⟨h.dom, h.tag, h.fam, fun i g own x hs => ?_, h.apart⟩
  rcases h.holds i g own x hs with ⟨q, e1, e2⟩ | e
  · exact .inl ⟨q, e1, e2.ext (fun _ _ _ h => h) (hw _ e2.lt)⟩
  · exact .inr e
theorem ext_quiet {ρ0 ρ : Env} {M0 M : AH} {w0 w w' : World} (h : Ext ρ0 M0 w0 ρ M w) (hsz : w.heap.size ≤ w'.heap.size) (hw : ∀ b, b < w.heap.size → w'.heap[b]? = w.heap[b]?) (hos : w'.os = w.os) (ht : w'.tape = w.tape) (ho : w'.output = w.output) : Ext ρ0 M0 w0 ρ M w' :=
  ⟨h.env, Nat.le_trans h.size hsz, fun b hb hn => (hw b (Nat.lt_of_lt_of_le hb h.size)).trans (h.frame b hb hn), h.fresh, hos.trans h.os, ht.trans h.tape, ho.trans h.output⟩

/-- A loop's record, read off the world. -/
theorem loop_of {ρ : Env} {M : AH} {w : World} (hs : Sim ρ M w) {i g l : Nat} {own : Bool} {st : LoopState} {pd : Option Code} {fn : FuncId} {n : Nat} {a : Nat → AV} {ps : Array Tmp} {as bd : Code} {df : Nat}
    (hi : M[i]? = some (.one own g (.loop l st pd fn n a ps as bd df))) : ρ i g = some (some (l, 0)) ∧ ∃ tmps, w.heap[l]? = some (.loop { state := st, pending := pd, fn := fn, tmps := tmps, params := ps, assign := as, body := bd, defers := df }) ∧ tmps.size = n ∧ ∀ t, (a t).ok ρ ∧ tmps.getD t undef = (a t).c ρ := by
  rcases hs.holds i g own _ (slot_one hi) with ⟨q, e1, e2⟩ | ⟨_, e2⟩
  · rcases e2.all with ⟨h0, _⟩ | ⟨_, hb, h1, tmps, h2⟩
    · cases h0
    · obtain ⟨b, base⟩ := q
      simp only at hb h1 h2
      subst hb; subst h1
      exact ⟨e1, tmps, h2⟩
  · exact e2.elim
/-- A loop's record is put anew. -/
theorem loop_put {ρ : Env} {M : AH} {w : World} (hs : Sim ρ M w) {i g l : Nat} {st : LoopState} {pd : Option Code} {fn : FuncId} {n : Nat} {a : Nat → AV} {ps : Array Tmp} {as bd : Code} {df : Nat}
    (hi : M[i]? = some (.one true g (.loop l st pd fn n a ps as bd df))) {tmps : Array Value} (ht : tmps.size = n ∧ ∀ t, (a t).ok ρ ∧ tmps.getD t undef = (a t).c ρ) (hl : l < w.heap.size) (st' : LoopState) (pd' : Option Code) :
    Sim ρ (M.set i (.one true g (.loop l st' pd' fn n a ps as bd df))) (w.putObj l (.loop { state := st', pending := pd', fn := fn, tmps := tmps, params := ps, assign := as, body := bd, defers := df })) ∧
    Ext ρ M w ρ (M.set i (.one true g (.loop l st' pd' fn n a ps as bd df))) (w.putObj l (.loop { state := st', pending := pd', fn := fn, tmps := tmps, params := ps, assign := as, body := bd, defers := df })) := by
  obtain ⟨h1, _⟩ := loop_of hs hi
  exact sim_set hs hi h1 (fun b hb => World.putObj_heap_other hb) (by simp) rfl rfl rfl ⟨.inr ⟨rfl, rfl, rfl, tmps, World.putObj_heap_same hl, ht⟩⟩

/-- yield's arguments, in the parameters. -/
def putsA (n : Nat) : List Nat → List AV → AA → AA
  | p :: ps, v :: vs, a => putsA n ps vs (putN n p v a)
  | _, _, a => a
theorem putN_eq (n t : Nat) (v : AV) (a : AA) : putN n t v a = a.put n (some t) v := rfl
theorem puts_fold {ρ : Env} {n : Nat} : ∀ (ps : List Nat) (vs : List AV) (a : AA) (tmps : Array Value), AV.okl ρ vs → tmps.size = n → (∀ t, (a t).ok ρ ∧ tmps.getD t undef = (a t).c ρ) →
    let tmps' := (ps.zip (AV.cl ρ vs)).foldl (fun t (x : Nat × Value) => t.setIfInBounds x.1 x.2) tmps
    tmps'.size = n ∧ ∀ t, (putsA n ps vs a t).ok ρ ∧ tmps'.getD t undef = (putsA n ps vs a t).c ρ
  | [], vs, a, tmps, _, h1, h2 => by cases vs <;> exact ⟨h1, h2⟩
  | p :: ps, [], a, tmps, _, h1, h2 => ⟨h1, h2⟩
  | p :: ps, v :: vs, a, tmps, hok, h1, h2 => by
    have ha : ActR ρ [] n a { tmps := tmps, defers := [] } := ⟨rfl, h1, fun t => (h2 t).1, fun t => (h2 t).2⟩
    have hb := ha.put (some p) hok.1
    exact puts_fold ps vs (putN n p v a) (tmps.setIfInBounds p (v.c ρ)) hok.2 hb.size (fun t => ⟨hb.ok t, hb.get t⟩)

/-- How a round may end. -/
def roundEnd (i g l : Nat) (fn : FuncId) (n : Nat) (a0 : Nat → AV) (ps : Array Tmp) (as bd : Code) (df : Nat) (K : AV → AH → Prop) (e : AEx) (a : AA) (M : AH) : Prop :=
  M[i]? = some (.one true g (.loop l .busy none fn n a0 ps as bd df)) ∧ match e with
  | .normal => K .tt (M.set i (.one true g (.loop l .ready none fn n a0 ps as bd df)))
  | .ret => K .ff (M.set i (.one true g (.loop l .done (some .ret) fn n a0 ps as bd df)))
  | .exit id => K .ff (M.set i (.one true g (.loop l .done (some (.exit id)) fn n a0 ps as bd df)))
def roundBody (x : Cx) (i g l : Nat) (fn : FuncId) (n : Nat) (a0 : Nat → AV) (ps : Array Tmp) (as bd : Code) (df : Nat) (K : AV → AH → Prop) (e : AEx) (a : AA) (M : AH) : Prop :=
  match e with
  | .normal => M[i]? = some (.one true g (.loop l .ready none fn n a0 ps as bd df)) ∧ codeO x bd (roundEnd i g l fn n a0 ps as bd df K) (fun _ _ => False) a (M.set i (.one true g (.loop l .busy none fn n a0 ps as bd df)))
  | _ => False

/-- ONE ROUND. -/
theorem YieldA.round {x : Cx} (hT : TabOK x.P x.T) (hm : x.P.follows .mixedOrders = true) {i g l : Nat} (hr : x.r = some l) {fn : FuncId} {a0 : Nat → AV} {ps : Array Tmp} {as bd : Code} {df : Nat} (hpl : (plansB x.pl as && plansB x.pl bd) = true)
    {args : List AV} {M : AH} {K Kp : AV → AH → Prop} (hi : M[i]? = some (.one true g (.loop l .ready none fn x.n a0 ps as bd df))) (hps : ps.toList.length = args.length)
    (h : codeO x as (roundBody x i g l fn x.n a0 ps as bd df K) (fun _ _ => False) (putsA x.n ps.toList args a0) M) : YieldA x.P l args M K Kp := by
  simp only [Bool.and_eq_true] at hpl
  unfold YieldA
  intro ρ w hs hok
  obtain ⟨h1, tmps, h2, h3, h4⟩ := loop_of hs hi
  have hsz : (AV.cl ρ args).toArray.size = ps.size := by simp [AV.cl_eq, ← hps]
  have hy := run_yield (P := x.P) (args := (AV.cl ρ args).toArray) h2 hsz
  refine ⟨_, _, _, _, hy, fun r => ?_⟩
  have hfold : (ps.zip (AV.cl ρ args).toArray).foldl (fun tmps (t, a) => tmps.setIfInBounds t a) tmps = (ps.toList.zip (AV.cl ρ args)).foldl (fun t (x : Nat × Value) => t.setIfInBounds x.1 x.2) tmps := by
    rw [← Array.foldl_toList]; simp
  simp only [hfold]
  obtain ⟨p1, p2⟩ := puts_fold (n := x.n) ps.toList args a0 tmps hok h3 h4
  have hact : ActR ρ [] x.n (putsA x.n ps.toList args a0) { tmps := (ps.toList.zip (AV.cl ρ args)).foldl (fun t (x : Nat × Value) => t.setIfInBounds x.1 x.2) tmps, defers := [] } := ⟨rfl, p1, fun t => (p2 t).1, fun t => (p2 t).2⟩
  have hF : (FW r).inRound l = FW (some l) := rfl
  have h := h
  rw [codeO_eq] at h
  have hwp := codeA_from hT hm as hpl.1 _ _ _ M ρ w _ [] hs (Ext.refl ρ M w) (Marks.refl w.heap.size [] w) hact h
  rw [hr] at hwp
  refine roundIn_of_wpIn trivial ?_
  rw [hF]
  have hwp' : as.wpIn (FW (some l)) 0 x.P (LiftQ ρ M w [] x.n (roundBody x i g l fn x.n a0 ps as bd df K) (fun _ _ => False)) { tmps := (ps.toList.zip (AV.cl ρ args)).foldl (fun t (x : Nat × Value) => t.setIfInBounds x.1 x.2) tmps, defers := [] } w := hwp
  refine wpIn_mono hwp' fun e act1 w1 hq => ?_
  cases e with
  | normal =>
    obtain ⟨ρ1, M1, a1, D1, s1, e1, m1, ac1, hM1, hb⟩ := hq
    obtain ⟨k1, tm1, k2, k3, k4⟩ := loop_of s1 hM1
    have hlt : l < w1.heap.size := lt_of_heap k2
    obtain ⟨s2, e2⟩ := loop_put s1 hM1 ⟨k3, k4⟩ hlt .busy none
    refine ⟨_, run_beginRound k2 rfl, ?_⟩
    rw [codeO_eq] at hb
    have hwb := codeA_from hT hm bd hpl.2 _ _ _ _ ρ1 _ act1 D1 s2 (e1.trans e2) (m1.keep s1 e2) ac1 hb
    rw [hr] at hwb
    have hwb' : bd.wpIn (FW (some l)) 0 x.P (LiftQ ρ M w [] x.n (roundEnd i g l fn x.n a0 ps as bd df K) (fun _ _ => False)) act1 (w1.putObj l (.loop { state := .busy, pending := none, fn := fn, tmps := tm1, params := ps, assign := as, body := bd, defers := df })) := hwb
    refine wpIn_mono hwb' fun e act2 w2 hq2 => ?_
    have fin : ∀ (ρ2 : Env) (M2 : AH), Sim ρ2 M2 w2 → Ext ρ M w ρ2 M2 w2 → M2[i]? = some (.one true g (.loop l .busy none fn x.n a0 ps as bd df)) → ∀ (jump : Option Code) (v : AV), v.c ρ2 = .bool jump.isNone → v.ok ρ2 →
        K v (M2.set i (.one true g (.loop l (if jump.isNone then .ready else .done) jump fn x.n a0 ps as bd df))) → ∃ v w', (Instr.endRound l jump).run x.P w2 = .ok v w' ∧ EndR ρ M w K Kp (.returned v) w' := by
      intro ρ2 M2 s3 e3 hM2 jump v hv hvo hK
      obtain ⟨j1, tm2, j2, j3, j4⟩ := loop_of s3 hM2
      obtain ⟨s4, e4⟩ := loop_put s3 hM2 ⟨j3, j4⟩ (lt_of_heap j2) (if jump.isNone then .ready else .done) jump
      exact ⟨_, _, run_endRound jump j2, ρ2, _, s4, e3.trans e4, v, hv.symm, hvo, hK⟩
    cases e with
    | normal => obtain ⟨ρ2, M2, a2, D2, s3, e3, _, _, hM2, hK⟩ := hq2; exact fin ρ2 M2 s3 e3 hM2 none .tt rfl trivial hK
    | ret => obtain ⟨ρ2, M2, a2, D2, s3, e3, _, _, hM2, hK⟩ := hq2; exact fin ρ2 M2 s3 e3 hM2 (some .ret) .ff rfl trivial hK
    | exit id => obtain ⟨ρ2, M2, a2, D2, s3, e3, _, _, hM2, hK⟩ := hq2; exact fin ρ2 M2 s3 e3 hM2 (some (.exit id)) .ff rfl trivial hK
    | goto t => exact hq2.elim
    | panic ch => obtain ⟨_, _, _, _, _, _, _, _, _, _, h0⟩ := hq2; exact h0.elim
    | outgrown => exact hq2.elim
  | exit id => obtain ⟨_, _, _, _, _, _, _, _, h0⟩ := hq; exact h0.elim
  | ret => obtain ⟨_, _, _, _, _, _, _, _, h0⟩ := hq; exact h0.elim
  | goto t => exact hq.elim
  | panic ch => obtain ⟨_, _, _, _, _, _, _, _, _, _, h0⟩ := hq; exact h0.elim
  | outgrown => exact hq.elim

/-- Behind the function that was ranged over: the record is shut; a pending jump is made. -/
def rangeEnd (i g l : Nat) (fn : FuncId) (n : Nat) (a0 : Nat → AV) (ps : Array Tmp) (as bd : Code) (df : Nat) (Q : AEx → AH → Prop) (r : AV) (M : AH) : Prop :=
  M[i]? = some (.one true g (.loop l .ready none fn n a0 ps as bd df)) ∧ Q .normal (M.set i (.one true g (.loop l .exhausted none fn n a0 ps as bd df))) ∨
  M[i]? = some (.one true g (.loop l .done (some .ret) fn n a0 ps as bd df)) ∧ Q .ret (M.set i (.one true g (.loop l .exhausted (some .ret) fn n a0 ps as bd df))) ∨
  ∃ id, M[i]? = some (.one true g (.loop l .done (some (.exit id)) fn n a0 ps as bd df)) ∧ Q (.exit id) (M.set i (.one true g (.loop l .exhausted (some (.exit id)) fn n a0 ps as bd df)))

/-- THE STATEMENT, at an outermost loop. -/
theorem WO.range {x : Cx} {f : Operand} {ps : Array Tmp} {as bd : Code} {Q : AEx → AA → AH → Prop} {Kp : AV → AH → Prop} {a : AA} {M : AH} (hr : x.r = none) {gf : Nat} {cap : List AV} (hf : evA a f = .fn (.func gf) [] cap) (lv : List (Nat × AV)) (hl : agr lv a)
    (h : ∀ l fn df d, CallA x.P gf (.fn (.yield l) [] [] :: cap) (M ++ [.one true 0 (.loop l .ready none fn x.n (ofL lv d) ps as bd df)])
      (rangeEnd M.length 0 l fn x.n (ofL lv d) ps as bd df fun e M' => Q e (ofL lv d) M') Kp) :
    WA x.P x.r x.D x.n (.rangeFunc f ps as bd) Q Kp a M := by
  unfold WA
  intro pin D ρ w act hof _ hs hA
  obtain rfl : pin = [] := by simpa [offC] using hof
  refine wpIn_mono (Q := LiftQ ρ M w D x.n Q Kp) ?_ fun e a w h => ⟨h, PinOK.nil _⟩
  rw [hr]
  refine wpIn_rangeFunc fun fn _ => ?_
  obtain ⟨W1, hW1⟩ : ∃ W1, W1 = (w.alloc (.deferred (some []))).alloc (.loop { state := .ready, pending := none, fn := fn, tmps := act.tmps, params := ps, assign := as, body := bd, defers := w.heap.size }) := ⟨_, rfl⟩
  have hsz : W1.heap.size = w.heap.size + 2 := by rw [hW1]; simp
  have hold : ∀ b, b < w.heap.size → W1.heap[b]? = w.heap[b]? := fun b hb => by
    rw [hW1, Below.heap_alloc _ _ b (by simp; omega), Below.heap_alloc _ _ b hb]
  have hD1 : W1.heap[w.heap.size]? = some (.deferred (some [])) := by
    rw [hW1, Below.heap_alloc _ _ _ (by simp)]; exact World.alloc_heap_new w _
  have hL1 : W1.heap[w.heap.size + 1]? = some (.loop { state := .ready, pending := none, fn := fn, tmps := act.tmps, params := ps, assign := as, body := bd, defers := w.heap.size }) := by
    rw [hW1]; have := World.alloc_heap_new (w.alloc (.deferred (some []))) (.loop { state := .ready, pending := none, fn := fn, tmps := act.tmps, params := ps, assign := as, body := bd, defers := w.heap.size }); rwa [World.size_alloc] at this
  obtain ⟨d, hd⟩ : ∃ d : Nat → Value, d = fun t => act.tmps.getD t undef := ⟨_, rfl⟩
  have hlive : ∀ t, (ofL lv d t).ok ρ ∧ act.tmps.getD t undef = (ofL lv d t).c ρ := by
    intro t
    simp only [ofL]
    split
    · rename_i v hv
      have he := agr_get hl hv
      rw [← he]; exact ⟨hA.ok t, hA.get t⟩
    · rw [hd]; exact ⟨trivial, rfl⟩
  have hun : (ρ M.length 0).isSome = false := by
    cases hh : (ρ M.length 0).isSome with
    | false => rfl
    | true => exact absurd (hs.dom _ _ hh) (Nat.lt_irrefl _)
  have hup := upE_ext (l := some (w.heap.size + 1, 0)) hun
  obtain ⟨s1, e1⟩ := sim_new (x := .loop (w.heap.size + 1) .ready none fn x.n (ofL lv d) ps as bd w.heap.size) (l := some (w.heap.size + 1, 0)) (w' := W1) hs hold (by omega) (by rw [hW1]; rfl) (by rw [hW1]; rfl) (by rw [hW1]; rfl)
    (.inl ⟨w.heap.size + 1, 0, rfl, by omega, ⟨.inr ⟨rfl, rfl, rfl, act.tmps, hL1, hA.size, fun t => ⟨AV.ok_ext hup _ (hlive t).1, by rw [AV.c_ext hup _ (hlive t).1]; exact (hlive t).2⟩⟩⟩⟩)
  have hfe := (hA.ev f).1
  have hfo := (hA.ev f).2
  rw [hf] at hfe hfo
  simp only [AV.ok] at hfo
  have hcapo := AV.okl_ext hup cap hfo.2
  have hcapc := AV.cl_ext hup cap hfo.2
  have hcall := h (w.heap.size + 1) fn w.heap.size d
  unfold CallA at hcall
  have hcal := hcall.2 _ W1 s1 ⟨⟨trivial, trivial⟩, hcapo⟩
  have hargs : (AV.cl (upE ρ M.length 0 (some (w.heap.size + 1, 0))) (.fn (.yield (w.heap.size + 1)) [] [] :: cap)).toArray = #[Value.func (.yield (w.heap.size + 1)) #[] #[]] ++ (AV.cl ρ cap).toArray := by
    apply Array.toList_inj.1
    simp [AV.cl, AV.c, hcapc]
  rw [hargs] at hcal
  refine ⟨w.heap.size + 1, [{ target := .collected w.heap.size, args := #[] }], W1, { target := .fn (.func gf) (AV.cl ρ cap).toArray, args := #[.func (.yield (w.heap.size + 1)) #[] #[]] }, W1, gf,
    #[.func (.yield (w.heap.size + 1)) #[] #[]] ++ (AV.cl ρ cap).toArray, W1, ?_, ?_, fun _ _ => trivial, ?_, fun h => (by cases h), ?_⟩
  · rw [hW1]; exact run_enterLoop_outer _ _ _ _ _
  · simp only [resolve, hfe, AV.c, AV.cl]
    simp [Deferred.ofValue, Act.eval]
  · simp only [invoke]
    exact goodF_run hcall.1 _ _
  · refine CallsIn.mono (calls_in none 0 hcal) fun en w3 hen => ?_
    obtain ⟨ρ', M', s2, e2, h3⟩ := hen
    have hmk : Marks w.heap.size D ({ target := .collected w.heap.size, args := #[] } :: D) W1 := ⟨[w.heap.size], rfl, by simp, fun r hr => by simp at hr; subst hr; exact ⟨Nat.le_refl _, hD1⟩⟩
    have hm2 := hmk.keep s1 e2
    cases en with
    | returned v =>
      obtain ⟨rv, _, _, hK⟩ := h3
      have fin : ∀ (st : LoopState) (pd : Option Code), st ≠ .busy → M'[M.length]? = some (.one true 0 (.loop (w.heap.size + 1) st pd fn x.n (ofL lv d) ps as bd w.heap.size)) →
          ∃ w4, (Instr.endLoop (w.heap.size + 1)).run x.P w3 = .ok pd w4 ∧ Sim ρ' (M'.set M.length (.one true 0 (.loop (w.heap.size + 1) .exhausted pd fn x.n (ofL lv d) ps as bd w.heap.size))) w4 ∧
            Ext ρ M w ρ' (M'.set M.length (.one true 0 (.loop (w.heap.size + 1) .exhausted pd fn x.n (ofL lv d) ps as bd w.heap.size))) w4 ∧ Marks w.heap.size D ({ target := .collected w.heap.size, args := #[] } :: D) w4 ∧
            ActR ρ' ({ target := .collected w.heap.size, args := #[] } :: D) x.n (ofL lv d) { act with defers := [{ target := .collected w.heap.size, args := #[] }] ++ act.defers } := by
        intro st pd hst hM'
        obtain ⟨k1, tm, k2, k3, k4⟩ := loop_of s2 hM'
        have hrun := run_endLoop (P := x.P) k2 hst
        obtain ⟨s5, e5⟩ := loop_put s2 hM' ⟨k3, k4⟩ (lt_of_heap k2) .exhausted pd
        refine ⟨_, hrun, s5, (e1.trans e2).trans e5, hm2.keep s2 e5, ?_, hA.size, fun t => ?_, fun t => ?_⟩
        · show [_] ++ act.defers = _ :: D
          rw [hA.defers]; rfl
        · exact AV.ok_ext (e1.trans e2).env _ (hlive t).1
        · rw [AV.c_ext (e1.trans e2).env _ (hlive t).1]; exact (hlive t).2
      rcases hK with ⟨hM', hQ⟩ | ⟨hM', hQ⟩ | ⟨id, hM', hQ⟩
      · obtain ⟨w4, r1, r2, r3, r4, r5⟩ := fin .ready none (by simp) hM'
        exact ⟨none, w4, r1, ρ', _, _, _, r2, r3, r4, r5, hQ⟩
      · obtain ⟨w4, r1, r2, r3, r4, r5⟩ := fin .done (some .ret) (by simp) hM'
        exact ⟨some .ret, w4, r1, wpIn_ret ⟨ρ', _, _, _, r2, r3, r4, r5, hQ⟩⟩
      · obtain ⟨w4, r1, r2, r3, r4, r5⟩ := fin .done (some (.exit id)) (by simp) hM'
        exact ⟨some (.exit id), w4, r1, wpIn_exit ⟨ρ', _, _, _, r2, r3, r4, r5, hQ⟩⟩
    | panicked ch =>
      obtain ⟨rv, h5, h6, h7⟩ := h3
      exact ⟨ρ', M', rv, _, s2, e1.trans e2, hm2, by show [_] ++ act.defers = _ :: D; rw [hA.defers]; rfl, h5, h6, h7⟩
    | outgrown => exact h3.elim
end Go.Proofs.Yteinenklppbjkaa
