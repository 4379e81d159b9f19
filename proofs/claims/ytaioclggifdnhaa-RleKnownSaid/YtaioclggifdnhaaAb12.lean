/- Code, loops, calls, on abstract states. -/
import Derived.Test.YtaioclggifdnhaaAb11
import Derived.RangeFuncRecord
set_option linter.unusedVariables false
set_option linter.unusedSimpArgs false
open Go.RowKit
namespace Go.Proofs.Ytaioclggifdnhaa

inductive AEx where
  | normal
  | exit (id : Nat)
  | ret

/-- What is deferred besides: the marks of ranges over functions, whose blocks are empty. -/
def Marks (B : Nat) (D D' : List Deferred) (w : World) : Prop :=
  ∃ rs : List Nat, D' = rs.map (fun r => { target := .collected r, args := #[] }) ++ D ∧ rs.Nodup ∧ ∀ r ∈ rs, B ≤ r ∧ w.heap[r]? = some (.deferred (some []))
theorem Marks.refl (B : Nat) (D : List Deferred) (w : World) : Marks B D D w := ⟨[], rfl, List.nodup_nil, fun _ h => by cases h⟩
theorem Holds.not_deferred {ρ : Env} {own : Bool} {x : Cont} {b base : Nat} {w : World} (h : Holds ρ own x b base w) {c : Option (List Deferred)} : w.heap[b]? ≠ some (.deferred c) := by
  intro e
  rcases h.all with ⟨_, c, el, fr, h1, _⟩ | ⟨_, _, h1⟩
  · rw [e] at h1; cases h1
  · cases x with
    | map kk es => obtain ⟨_, _, h1, _⟩ := h1; rw [e] at h1; cases h1
    | loop l st pd fn n a ps as bd df => obtain ⟨_, _, h1, _⟩ := h1; rw [e] at h1; cases h1
    | cells _ => exact h1.elim
    | ints _ _ _ => exact h1.elim
    | bools _ _ => exact h1.elim
    | tab _ _ _ _ => exact h1.elim
theorem Sim.not_deferred {ρ : Env} {M : AH} {w : World} (h : Sim ρ M w) {i g : Nat} {own : Bool} {x : Cont} {q : Nat × Nat} (hs : slot M i g = some (own, x)) (hq : ρ i g = some (some q)) {c : Option (List Deferred)} : w.heap[q.1]? ≠ some (.deferred c) := by
  rcases h.holds i g own x hs with ⟨q', e1, e2⟩ | ⟨e1, _⟩
  · rw [hq] at e1; injection e1 with e1; injection e1 with e1; subst e1; exact e2.not_deferred
  · rw [hq] at e1; cases e1
theorem Marks.keep {B : Nat} {D D' : List Deferred} {ρ ρ' : Env} {M M' : AH} {w w' : World} (hs : Sim ρ M w) (hE : Ext ρ M w ρ' M' w') (h : Marks B D D' w) : Marks B D D' w' := by
  obtain ⟨rs, h0, hn, h1⟩ := h
  refine ⟨rs, h0, hn, fun r hr => ⟨(h1 r hr).1, ?_⟩⟩
  have h2 := (h1 r hr).2
  rw [hE.frame r (Array.getElem?_eq_some_iff.1 h2).1 (fun i g x q h3 h4 h5 => hs.not_deferred h3 h4 (by rw [h5]; exact h2))]
  exact h2
theorem Marks.trans {B : Nat} {D D' D'' : List Deferred} {ρ ρ' : Env} {M M' : AH} {w w' : World} (hB : B ≤ w.heap.size) (hs : Sim ρ M w) (hE : Ext ρ M w ρ' M' w') (h : Marks B D D' w) (h' : Marks w.heap.size D' D'' w') : Marks B D D'' w' := by
  have hk := h.keep hs hE
  obtain ⟨rs, rfl, hn, h1⟩ := h
  obtain ⟨rs', rfl, hn', h2⟩ := h'
  obtain ⟨rs2, e2, _, h3⟩ := hk
  have hlt : ∀ r ∈ rs, r < w.heap.size := fun r hr => (Array.getElem?_eq_some_iff.1 (h1 r hr).2).1
  have hrs : ∀ r ∈ rs, w'.heap[r]? = some (.deferred (some [])) := fun r hr => by
    have h2 := (h1 r hr).2
    rw [hE.frame r (hlt r hr) (fun i g x q h3 h4 h5 => hs.not_deferred h3 h4 (by rw [h5]; exact h2))]
    exact h2
  refine ⟨rs' ++ rs, by simp, ?_, fun r hr => ?_⟩
  · rw [List.nodup_append]
    refine ⟨hn', hn, fun a ha b hb e => ?_⟩
    subst e
    have := (h2 a ha).1
    have := hlt a hb
    omega
  · rcases List.mem_append.1 hr with hr | hr
    · exact ⟨Nat.le_trans hB (h2 r hr).1, (h2 r hr).2⟩
    · exact ⟨(h1 r hr).1, hrs r hr⟩

theorem sim_shut {ρ : Env} {M : AH} {w : World} (hs : Sim ρ M w) {r : Nat} {c : Option (List Deferred)} (h : w.heap[r]? = some (.deferred c)) (o : Obj) : Sim ρ M (w.putObj r o) := by
  refine ⟨hs.dom, hs.tag, hs.fam, fun i g own x hsl => ?_, hs.apart⟩
  rcases hs.holds i g own x hsl with ⟨q, e1, e2⟩ | e
  · refine .inl ⟨q, e1, e2.ext (fun _ _ _ h => h) (World.putObj_heap_other fun e => ?_)⟩
    exact hs.not_deferred hsl e1 (by rw [e]; exact h)
  · exact .inr e
theorem ext_shut {ρ0 ρ : Env} {M0 M : AH} {w0 w : World} (hE : Ext ρ0 M0 w0 ρ M w) {r : Nat} (hr : w0.heap.size ≤ r) (o : Obj) : Ext ρ0 M0 w0 ρ M (w.putObj r o) :=
  ⟨hE.env, by simpa using hE.size, fun b hb hn => by rw [World.putObj_heap_other (by omega)]; exact hE.frame b hb hn, hE.fresh, hE.os, hE.tape, hE.output⟩
/-- A function's end: its marks are come to. -/
theorem leaves_marks {F : Fence} {n : Nat} {P : Program} {fn : Func} {tmps : Array Value} {R : Ending → World → Prop} {ρ0 ρ : Env} {M0 M : AH} {w0 : World} {u : FrameMode} (hu : u ≠ .run)
    (hend : ∀ w, Sim ρ M w → Ext ρ0 M0 w0 ρ M w → LeavesIn F n P fn tmps R [] u w) : ∀ (rs : List Nat) (w : World), rs.Nodup → (∀ r ∈ rs, w0.heap.size ≤ r ∧ w.heap[r]? = some (.deferred (some []))) → Sim ρ M w → Ext ρ0 M0 w0 ρ M w →
    LeavesInM F n P fn tmps R (rs.map (fun r => { target := .collected r, args := #[] })) u w
  | [], w, _, _, hs, hE => hend w hs hE
  | r :: rs, w, hn, h, hs, hE => by
    obtain ⟨h1, h2⟩ := h r List.mem_cons_self
    refine ⟨hu, .inl ⟨r, _, rfl, run_takeDeferred h2, leaves_marks hu hend rs _ (List.nodup_cons.1 hn).2 (fun r' hr' => ⟨(h r' (List.mem_cons_of_mem _ hr')).1, ?_⟩) (sim_shut hs h2 _) (ext_shut hE h1 _)⟩⟩
    rw [World.putObj_heap_other (fun e => (List.nodup_cons.1 hn).1 (by rw [← e]; exact hr'))]
    exact (h r' (List.mem_cons_of_mem _ hr')).2

def LiftQ (ρ0 : Env) (M0 : AH) (w0 : World) (D : List Deferred) (n : Nat) (Q : AEx → AA → AH → Prop) (Kp : AV → AH → Prop) (e : Exit) (act : Act) (w' : World) : Prop :=
  match e with
  | .normal => ∃ ρ' M' a' D', Sim ρ' M' w' ∧ Ext ρ0 M0 w0 ρ' M' w' ∧ Marks w0.heap.size D D' w' ∧ ActR ρ' D' n a' act ∧ Q .normal a' M'
  | .exit id => ∃ ρ' M' a' D', Sim ρ' M' w' ∧ Ext ρ0 M0 w0 ρ' M' w' ∧ Marks w0.heap.size D D' w' ∧ ActR ρ' D' n a' act ∧ Q (.exit id) a' M'
  | .ret => ∃ ρ' M' a' D', Sim ρ' M' w' ∧ Ext ρ0 M0 w0 ρ' M' w' ∧ Marks w0.heap.size D D' w' ∧ ActR ρ' D' n a' act ∧ Q .ret a' M'
  | .panic ch => ∃ ρ' M' v D', Sim ρ' M' w' ∧ Ext ρ0 M0 w0 ρ' M' w' ∧ Marks w0.heap.size D D' w' ∧ act.defers = D' ∧ ch = [{ v := v.c ρ', recovered := false }] ∧ v.ok ρ' ∧ Kp v M'
  | _ => False

theorem LiftQ.from {ρ0 ρ : Env} {M0 M : AH} {w0 w : World} {D0 D : List Deferred} {n : Nat} {Q : AEx → AA → AH → Prop} {Kp : AV → AH → Prop} {e : Exit} {act : Act} {w' : World} (hE : Ext ρ0 M0 w0 ρ M w) (hs : Sim ρ M w) (hM : Marks w0.heap.size D0 D w)
    (h : LiftQ ρ M w D n Q Kp e act w') : LiftQ ρ0 M0 w0 D0 n Q Kp e act w' := by
  cases e with
  | normal => obtain ⟨ρ', M', a', D', h1, h2, h3, h4⟩ := h; exact ⟨ρ', M', a', D', h1, hE.trans h2, hM.trans hE.size hs h2 h3, h4⟩
  | exit id => obtain ⟨ρ', M', a', D', h1, h2, h3, h4⟩ := h; exact ⟨ρ', M', a', D', h1, hE.trans h2, hM.trans hE.size hs h2 h3, h4⟩
  | ret => obtain ⟨ρ', M', a', D', h1, h2, h3, h4⟩ := h; exact ⟨ρ', M', a', D', h1, hE.trans h2, hM.trans hE.size hs h2 h3, h4⟩
  | panic ch => obtain ⟨ρ', M', v, D', h1, h2, h3, h4⟩ := h; exact ⟨ρ', M', v, D', h1, hE.trans h2, hM.trans hE.size hs h2 h3, h4⟩
  | goto l => exact h.elim
  | outgrown => exact h.elim

/-- A code, from an abstract state. -/
@[irreducible] def WA (P : Program) (r : Option Nat) (D0 : List Deferred) (n : Nat) (c : Code) (Q : AEx → AA → AH → Prop) (Kp : AV → AH → Prop) (a : AA) (M : AH) : Prop :=
  ∀ D ρ w act, Sim ρ M w → ActR ρ D n a act → c.wpIn (FW r) 0 P (LiftQ ρ M w D n Q Kp) act w

/-- Where a code runs: the program, its types, how many temporaries, which of them hold sums that wrap, the plans of the drawn regions (order, last ones, names that are loaded), the round, what is deferred. -/
structure Cx where
  P : Program
  T : List TI
  n : Nat
  W : List Nat := []
  pl : Nat → Option (List (Nat × Nat) × List Nat) := fun _ => none
  B : Nat → List Nat := fun _ => []
  r : Option Nat := none
  D : List Deferred := []

def codeA (x : Cx) : Code → (AEx → AA → AH → Prop) → (AV → AH → Prop) → AA → AH → Prop
  | .skip, Q, _, a, M => Q .normal a M
  | .label _, Q, _, a, M => Q .normal a M
  | .seq c d, Q, Kp, a, M => codeA x c (fun e a M => match e with
      | .normal => codeA x d Q Kp a M
      | e => Q e a M) Kp a M
  | .cond o c d, Q, Kp, a, M => match evA a o with
    | .tt => codeA x c Q Kp a M
    | .ff => codeA x d Q Kp a M
    | .bo b => (b = true → codeA x c Q Kp a M) ∧ (b = false → codeA x d Q Kp a M)
    | _ => False
  | .block id c, Q, Kp, a, M => codeA x c (fun e a M => match e with
      | .exit id' => match Nat.beq id' id with
        | true => Q .normal a M
        | false => Q (.exit id') a M
      | e => Q e a M) Kp a M
  | .exit id, Q, _, a, M => Q (.exit id) a M
  | .ret, Q, _, a, M => Q .ret a M
  | .region id ops draw, Q, Kp, a, M => match draw with
    | false => seqA x.P x.T x.n x.W ops Kp (fun a M => Q .normal a M) ops.toList a M
    | true => match x.pl id with
      | some (plan, _) => drawA x.P x.T x.n x.W ops Kp (fun a M => Q .normal a M) (x.B id) plan a M
      | none => False
  | .loop c, Q, Kp, a, M => WA x.P x.r x.D x.n (.loop c) Q Kp a M
  | .rangeFunc f ps as c, Q, Kp, a, M => WA x.P x.r x.D x.n (.rangeFunc f ps as c) Q Kp a M
  | _, _, _, _, _ => False

/-- The plans fit. -/
def plansB (pl : Nat → Option (List (Nat × Nat) × List Nat)) : Code → Bool
  | .region id ops true => match pl id with
    | some (plan, ds) => planOk ops ds plan (Array.replicate ops.size false) && ops.all (fun o => plainOp o.op) && Nat.ble plan.length ops.size
    | none => true
  | .seq a b => plansB pl a && plansB pl b
  | .cond _ a b => plansB pl a && plansB pl b
  | .block _ a => plansB pl a
  | .loop a => plansB pl a
  | .rangeFunc _ _ a b => plansB pl a && plansB pl b
  | .scope a => plansB pl a
  | _ => true


theorem codeA_from {x : Cx} (hT : TabOK x.P x.T) (hm : x.P.follows .mixedOrders = true) {ρ0 : Env} {M0 : AH} {w0 : World} {D0 : List Deferred} :
    ∀ (c : Code) (hpl : plansB x.pl c = true) (Q : AEx → AA → AH → Prop) (Kp : AV → AH → Prop) (a : AA) (M : AH) (ρ : Env) (w : World) (act : Act) (D : List Deferred), Sim ρ M w → Ext ρ0 M0 w0 ρ M w → Marks w0.heap.size D0 D w → ActR ρ D x.n a act → codeA x c Q Kp a M →
      c.wpIn (FW x.r) 0 x.P (LiftQ ρ0 M0 w0 D0 x.n Q Kp) act w := by
  intro c
  induction c with
  | skip => exact fun _ Q Kp a M ρ w act D hs hE hM ha h => wpIn_skip ⟨ρ, M, a, D, hs, hE, hM, ha, h⟩
  | label l => exact fun _ Q Kp a M ρ w act D hs hE hM ha h => wpIn_label ⟨ρ, M, a, D, hs, hE, hM, ha, h⟩
  | exit id => exact fun _ Q Kp a M ρ w act D hs hE hM ha h => wpIn_exit ⟨ρ, M, a, D, hs, hE, hM, ha, h⟩
  | ret => exact fun _ Q Kp a M ρ w act D hs hE hM ha h => wpIn_ret ⟨ρ, M, a, D, hs, hE, hM, ha, h⟩
  | seq c d ihc ihd =>
    intro hpl Q Kp a M ρ w act D hs hE hM ha h
    simp only [plansB, Bool.and_eq_true] at hpl
    refine wpIn_seq (wpIn_mono (ihc hpl.1 _ Kp a M ρ w act D hs hE hM ha h) fun e act' w' hq => ?_)
    cases e with
    | normal => obtain ⟨ρ', M', a', D', h1, h2, hM', h3, h4⟩ := hq; exact ihd hpl.2 Q Kp a' M' ρ' w' act' D' h1 h2 hM' h3 h4
    | exit id => exact hq
    | ret => exact hq
    | panic ch => exact hq
    | goto l => exact hq.elim
    | outgrown => exact hq.elim
  | cond o c d ihc ihd =>
    intro hpl Q Kp a M ρ w act D hs hE hM ha h
    simp only [plansB, Bool.and_eq_true] at hpl
    have he := (ha.ev o).1
    simp only [codeA] at h
    split at h <;> rename_i hh <;> (try rw [hh] at he)
    · exact wpIn_cond_true he (ihc hpl.1 Q Kp a M ρ w act D hs hE hM ha h)
    · exact wpIn_cond_false he (ihd hpl.2 Q Kp a M ρ w act D hs hE hM ha h)
    · exact wpIn_cond_split he (fun hb => ihc hpl.1 Q Kp a M ρ w act D hs hE hM ha (h.1 hb)) (fun hb => ihd hpl.2 Q Kp a M ρ w act D hs hE hM ha (h.2 hb))
    · exact h.elim
  | block id c ih =>
    intro hpl Q Kp a M ρ w act D hs hE hM ha h
    refine wpIn_block (wpIn_mono (ih hpl _ Kp a M ρ w act D hs hE hM ha h) fun e act' w' hq => ?_)
    cases e with
    | normal => exact hq
    | exit id' =>
      obtain ⟨ρ', M', a', D', h1, h2, hM', h3, h4⟩ := hq
      simp only [Exit.inBlock]
      simp only at h4
      split at h4
      · rename_i hb
        rw [if_pos (Nat.eq_of_beq_eq_true hb)]
        exact ⟨ρ', M', a', D', h1, h2, hM', h3, h4⟩
      · rename_i hb
        rw [if_neg (Nat.ne_of_beq_eq_false hb)]
        exact ⟨ρ', M', a', D', h1, h2, hM', h3, h4⟩
    | ret => exact hq
    | panic ch => exact hq
    | goto l => exact hq.elim
    | outgrown => exact hq.elim
  | loop c ih =>
    intro hpl Q Kp a M ρ w act D hs hE hM ha h
    simp only [codeA] at h
    unfold WA at h
    exact wpIn_mono (h D ρ w act hs ha) fun e act' w' hq => hq.from hE hs hM
  | rangeFunc f ps as c =>
    intro hpl Q Kp a M ρ w act D hs hE hM ha h
    simp only [codeA] at h
    unfold WA at h
    exact wpIn_mono (h D ρ w act hs ha) fun e act' w' hq => hq.from hE hs hM
  | region id ops draw =>
    intro hpl Q Kp a M ρ w act D hs hE hM ha h
    simp only [codeA] at h
    split at h
    · refine wpIn_region ?_
      have := seqA_sound (r := x.r) (Q := LiftQ ρ0 M0 w0 D0 x.n Q Kp) hT ops.toList 0 a M ρ w act (by simp) hs (Ext.refl _ _ _) ha h
        (fun a' act' M' ρ' w' h1 h2 h3 h4 => ⟨ρ', M', a', D, h3, hE.trans h4, hM.keep hs h4, h2, h1⟩) (fun rv M' ρ' w' act' h0 h1 h2 h3 h4 => ⟨ρ', M', rv, D, h3, hE.trans h4, hM.keep hs h4, h0, rfl, h2, h1⟩)
      rw [show List.range ops.size = List.range' 0 ops.toList.length by rw [List.range_eq_range', Array.length_toList]]
      exact this
    · split at h
      · rename_i plan ds hpl'
        simp only [plansB, hpl', Bool.and_eq_true] at hpl
        obtain ⟨⟨hb1, hb2⟩, hb3⟩ := hpl
        obtain ⟨B, hB⟩ : ∃ B, x.B id = B := ⟨_, rfl⟩
        rw [hB] at h
        have hp : ∀ (i : Nat) o, ops[i]? = some o → plainOp o.op = true := fun i o hi => by
          exact Array.all_eq_true_iff_forall_mem.1 hb2 o (Array.mem_of_getElem? hi)
        have hs' : Sim ρ M { w with drawn := w.drawn + 1 } := ⟨hs.dom, hs.tag, hs.fam, fun i g own y hy => by
          rcases hs.holds i g own y hy with ⟨q, h1, h2⟩ | h1
          · exact .inl ⟨q, h1, Holds.ext (w := w) (fun _ _ _ h => h) rfl h2⟩
          · exact .inr h1, hs.apart⟩
        have hE' : Ext ρ0 M0 w0 ρ M { w with drawn := w.drawn + 1 } := ⟨hE.env, hE.size, hE.frame, hE.fresh, hE.os, hE.tape, hE.output⟩
        have hM' : Marks w0.heap.size D0 D { w with drawn := w.drawn + 1 } := hM
        have hEr : Ext ρ M { w with drawn := w.drawn + 1 } ρ M { w with drawn := w.drawn + 1 } := Ext.refl _ _ _
        refine wpIn_region_any hm (wpAnyIn_of_anyS (S := SB ρ M B) (ds := ds) hp _ _ _ _ ?_)
        exact drawA_sound (r := x.r) (Q := LiftQ ρ0 M0 w0 D0 x.n Q Kp) (w0 := { w with drawn := w.drawn + 1 }) hT hp
          (fun c act' d v w' hq => by
            obtain ⟨ρ', M', u, D', h1, h2, hm, h3, h4⟩ := hq
            exact ⟨ρ', M', u, D', h1, h2, hm, by cases d <;> exact h3, h4⟩)
          plan _ ops.size a M ρ _ act (SB ρ M B) (by simpa using hb3) hb1 Closed.none hs' hEr ha (fun _ => SB.of hs' B) (fun _ h => h) (fun _ ρ' M' w' k1 k2 k3 => SB_keep (SB.of hs' B) k1 k2 k3) h
          (fun a' act' M' ρ' w' h1 h2 h3 h4 => ⟨ρ', M', a', D, h3, hE'.trans h4, hM'.keep hs' h4, h2, h1⟩) (fun rv M' ρ' w' act' h0 h1 h2 h3 h4 => ⟨ρ', M', rv, D, h3, hE'.trans h4, hM'.keep hs' h4, h0, rfl, h2, h1⟩)
      · exact h.elim
  | scope c => exact fun _ Q Kp a M ρ w act D hs hE hM ha h => h.elim
  | goto l => exact fun _ Q Kp a M ρ w act D hs hE hM ha h => h.elim
  | refuse why => exact fun _ Q Kp a M ρ w act D hs hE hM ha h => h.elim

theorem codeA_sound {x : Cx} (hT : TabOK x.P x.T) (hm : x.P.follows .mixedOrders = true) {c : Code} (hpl : plansB x.pl c = true) {Q : AEx → AA → AH → Prop} {Kp : AV → AH → Prop} {a : AA} {M : AH} (h : codeA x c Q Kp a M) :
    WA x.P x.r x.D x.n c Q Kp a M := by
  unfold WA
  exact fun D ρ w act hs ha => codeA_from hT hm c hpl Q Kp a M ρ w act D hs (Ext.refl _ _ _) (Marks.refl _ _ _) ha h

/-! Calls. -/
def normB : AV → AV
  | .tt => .bo true | .ff => .bo false | .bo x => .bo x | .int k n => .int k n | .str x => .str x | .np => .np | .ptr i g off => .ptr i g off | .pel i g sz j o => .pel i g sz j o
  | .ns => .ns | .sl i g off n c => .sl i g off n c | .nf => .nf | .fn q a b => .fn q a b | .ni => .ni | .ifc t v => .ifc t v | .nm => .nm | .mp i g => .mp i g
  | .agg l => .agg l | .tup l => .tup l | .raw v => .raw v
theorem normB_c (ρ : Env) (v : AV) : (normB v).c ρ = v.c ρ := by cases v <;> rfl
theorem normB_ok {ρ : Env} {v : AV} (h : v.ok ρ) : (normB v).ok ρ := by cases v <;> exact h
def resL (T : List TI) (M : AH) (a : AA) : List ResultVar → (List AV → Prop) → Prop
  | [], K => K []
  | .tmp t :: l, K => resL T M a l fun vs => forceA (normB (a t)) fun v => K (v :: vs)
  | .cell ad t :: l, K => loadA T M t (a ad) fun v => resL T M a l fun vs => K (v :: vs)
def postA (T : List TI) (rs : List ResultVar) (K : AV → AH → Prop) (e : AEx) (a : AA) (M : AH) : Prop :=
  match e with
  | .normal | .ret => resL T M a rs fun vs => match vs with
    | [v] => K v M
    | vs => K (.tup vs) M
  | _ => False
def initA (args : List AV) : AA := fun k => match args[k]? with
  | some v => v
  | none => .tup []

def resS (tmps : Array Value) : ResultVar → Sem Value
  | .tmp t => pure (tmps.getD t undef)
  | .cell a t => do loadVar t (← asAddr (tmps.getD a undef))
theorem results_eq (fn : Func) (tmps : Array Value) : results fn tmps = (do
    let vs ← fn.results.mapM (resS tmps)
    pure (if h : vs.size = 1 then vs[0] else .tuple vs)) := by
  unfold results
  have : (fun r => match r with
    | ResultVar.tmp t => (pure (tmps.getD t undef) : Sem Value)
    | ResultVar.cell a t => do loadVar t (← asAddr (tmps.getD a undef))) = resS tmps := by
    funext r; cases r <;> rfl
  rw [← this]; rfl

theorem resL_sound {P : Program} {T : List TI} (hT : TabOK P T) {M : AH} {a : AA} {ρ : Env} {w : World} {act : Act} {D : List Deferred} {n : Nat} (hs : Sim ρ M w) (ha : ActR ρ D n a act) :
    ∀ (l : List ResultVar) (K : List AV → Prop), resL T M a l K → ∃ vs, K vs ∧ AV.okl ρ vs ∧ (l.mapM (resS act.tmps)).run P w = Result.ok (AV.cl ρ vs) w
  | [], K, h => ⟨[], h, trivial, by simp [AV.cl]⟩
  | .tmp t :: l, K, h => by
    obtain ⟨vs, h1, h2, h3⟩ := resL_sound hT hs ha l _ h
    refine ⟨normB (a t) :: vs, forceA_eq h1, ⟨normB_ok (ha.ok t), h2⟩, ?_⟩
    rw [List.mapM_cons]
    simp [h3, ha.get t, AV.cl, resS, normB_c]
  | .cell ad t :: l, K, h => by
    obtain ⟨v, h1, h2, h3⟩ := loadA_sound (P := P) hT hs.known (hs.id _) h
    obtain ⟨vs, k1, k2, k3⟩ := resL_sound hT hs ha l _ h1
    refine ⟨v :: vs, k1, ⟨h2, k2⟩, ?_⟩
    have h4 := h3 w (hs.id _)
    have hrun : (resS act.tmps (.cell ad t)).run P w = Result.ok (v.c ρ) w := by
      simp only [resS]
      rw [ha.get ad]
      simp only [Instr.loadAt] at h4
      generalize (a ad).c ρ = u at h4
      cases u with
      | pointer o => cases o with
        | none => simp [Instr.sureAddr] at h4
        | some ad => simpa [Instr.sureAddr, asAddr] using h4
      | _ => simp [Instr.sureAddr] at h4
    rw [List.mapM_cons]
    simp only [Sem.run_bind]
    rw [hrun]
    simp [k3, AV.cl]

theorem CallA.intro {x : Cx} (hT : TabOK x.P x.T) (hm : x.P.follows .mixedOrders = true) {g : Nat} {fn : Func} {c : Code} (hf : x.P.funcs[g]? = some fn) (hb : fn.body = some c) (hg : goodF x.P g = true) (hpl : plansB x.pl c = true) (hr : x.r = none) (hD : x.D = [])
    {args : List AV} {M : AH} {K Kp : AV → AH → Prop} (hn : fn.ntmps = x.n) (hle : Nat.ble args.length x.n = true)
    (h : codeA x c (postA x.T fn.results.toList K) Kp (initA args) M) : CallA x.P g args M K Kp := by
  unfold CallA
  refine ⟨hg, fun ρ w hs hok => ?_⟩
  have hle' : args.length ≤ x.n := by simpa using hle
  have hlen : (AV.cl ρ args).toArray.size = args.length := by simp [AV.cl_eq]
  have ha : ActR ρ x.D x.n (initA args) { tmps := (AV.cl ρ args).toArray ++ Array.replicate (fn.ntmps - (AV.cl ρ args).toArray.size) undef, defers := [] } := by
    refine ⟨hD.symm, ?_, fun t => ?_, fun t => ?_⟩
    · rw [Array.size_append, Array.size_replicate, hlen, hn]; omega
    · simp only [initA]; split
      · exact (AV.okl_iff ρ args).1 hok _ (List.mem_of_getElem? ‹_›)
      · exact trivial
    · simp only [initA, Array.getD_eq_getD_getElem?]
      by_cases ht : t < args.length
      · rw [Array.getElem?_append_left (by rw [hlen]; exact ht)]
        simp [AV.cl_eq, List.getElem?_eq_getElem ht]
      · rw [Array.getElem?_append_right (by rw [hlen]; omega), List.getElem?_eq_none (by omega)]
        simp only [Array.getElem?_replicate]
        split <;> rfl
  have hw := codeA_from hT hm c hpl _ Kp _ M ρ w _ x.D hs (Ext.refl _ _ _) (Marks.refl _ _ _) ha h
  rw [hD] at hw
  refine callsIn_wide.1 (callsIn_of_wp_marks (F := Fence.wide) (n := 0) hf hb trivial (wpIn_mono (Q := LiftQ ρ M w [] x.n (postA x.T fn.results.toList K) Kp) ?_ fun e act w' hq => ?_))
  · rw [hr] at hw; exact hw
  · have fin : ∀ (ρ' : Env) (M' : AH) (a' : AA) (D' : List Deferred), Sim ρ' M' w' → Ext ρ M w ρ' M' w' → Marks w.heap.size [] D' w' → ActR ρ' D' x.n a' act → (resL x.T M' a' fn.results.toList fun vs => match vs with | [v] => K v M' | vs => K (.tup vs) M') →
        LeavesInM Fence.wide 0 x.P fn act.tmps (EndR ρ M w K Kp) act.defers .returning w' := by
      intro ρ' M' a' D' h1 h2 ⟨rs, hrs, hnd, hbl⟩ h3 h4
      rw [h3.defers, hrs, List.append_nil]
      refine leaves_marks (by simp) (fun w2 g1 g2 => ?_) rs w' hnd hbl h1 h2
      obtain ⟨vs, k1, k2, k3⟩ := resL_sound hT g1 h3 _ _ h4
      have hmap : (fn.results.mapM (resS act.tmps)).run x.P w2 = Result.ok (AV.cl ρ' vs).toArray w2 := by
        rw [Array.mapM_eq_mapM_toList]
        simp [k3]
      show ∃ v, (results fn act.tmps).run x.P w2 = .ok v w2 ∧ EndR ρ M w K Kp (.returned v) w2
      rw [results_eq]
      simp only [Sem.run_bind, hmap]
      match vs, k1, k2 with
      | [v], k1, k2 => exact ⟨v.c ρ', by simp [AV.cl], ρ', M', g1, g2, v, rfl, k2.1, k1⟩
      | [], k1, k2 => exact ⟨(AV.tup []).c ρ', by simp [AV.cl, AV.c], ρ', M', g1, g2, .tup [], rfl, k2, k1⟩
      | v :: u :: vs, k1, k2 => exact ⟨(AV.tup (v :: u :: vs)).c ρ', by simp [AV.cl, AV.c], ρ', M', g1, g2, .tup (v :: u :: vs), rfl, k2, k1⟩
    cases e with
    | normal => obtain ⟨ρ', M', a', D', h1, h2, hm, h3, h4⟩ := hq; exact fin ρ' M' a' D' h1 h2 hm h3 h4
    | ret => obtain ⟨ρ', M', a', D', h1, h2, hm, h3, h4⟩ := hq; exact fin ρ' M' a' D' h1 h2 hm h3 h4
    | exit id => obtain ⟨ρ', M', a', D', h1, h2, hm, h3, h4⟩ := hq; exact h4.elim
    | panic ch =>
      obtain ⟨ρ', M', v, D', h1, h2, ⟨rs, hrs, hnd, hbl⟩, h3, h4, h5, h6⟩ := hq
      show LeavesInM Fence.wide 0 x.P fn act.tmps (EndR ρ M w K Kp) act.defers (.panicking ch) w'
      rw [h3, hrs, List.append_nil]
      refine leaves_marks (F := Fence.wide) (n := 0) (P := x.P) (fn := fn) (tmps := act.tmps) (R := EndR ρ M w K Kp) (u := .panicking ch) (by simp) (fun w2 g1 g2 => ?_) rs w' hnd hbl h1 h2
      show EndR ρ M w K Kp (.panicked ch) w2
      exact ⟨ρ', M', g1, g2, v, h4, h5, h6⟩
    | goto l => exact hq.elim
    | outgrown => exact hq.elim

end Go.Proofs.Ytaioclggifdnhaa
