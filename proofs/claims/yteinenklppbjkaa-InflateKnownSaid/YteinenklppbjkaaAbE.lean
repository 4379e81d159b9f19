/- A function that defers one call of a closure, which may recover. -/
import Derived.Test.YteinenklppbjkaaAbW
import Derived.RecoverIn
set_option linter.unusedVariables false
set_option linter.unusedSimpArgs false
open Go.RowKit
namespace Go.Proofs.Yteinenklppbjkaa

/-! The deferred closure. -/
/-- In which mode the frame below stands: it returns, or it panics with this value. -/
def modeOK (ρ : Env) (v : Option AV) (u : FrameMode) : Prop := match v with
  | none => u = .returning
  | some v => u = .panicking [{ v := v.c ρ, recovered := false }] ∧ v.ok ρ
/-- A deferred call, which takes a panic up: behind it the frame below returns. -/
def ClosA (P : Program) (g : Nat) (args : List AV) (M : AH) (v : Option AV) (K : AH → Prop) : Prop :=
  goodF P g = true ∧ ∀ ρ w u, Sim ρ M w → AV.okl ρ args → modeOK ρ v u →
    CallsDIn (FW none) 0 P g (AV.cl ρ args).toArray u w fun e u' w' => (∃ x, e = .returned x) ∧ settle u' = .returning ∧ ∃ ρ' M', Sim ρ' M' w' ∧ Ext ρ M w ρ' M' w' ∧ K M'

/-- What recover answers. -/
def recV (v : Option AV) : AV := match v with
  | none => .ni
  | some v => v
/-- Operations that answer a value, or nothing. -/
def simpB : Op → Bool
  | .move _ | .assign _ | .typeAssert .. | .extract .. | .alloc _ | .store .. | .load .. | .fieldAddr .. | .binOp .. => true
  | _ => false
theorem val_res {P : Program} {s : Sem Value} {w w' : World} {x : Next} (h : (do pure (.value (← s)) : Sem Next).run P w = .ok x w') : ∃ z, x = .value z := by
  simp only [Sem.run_bind] at h
  cases hs : s.run P w with
  | ok a w1 => rw [hs] at h; simp at h; exact ⟨a, h.1.symm⟩
  | halt a w1 => rw [hs] at h; simp at h
theorem skip_res {P : Program} {s : Sem Unit} {w w' : World} {x : Next} (h : (do s; pure .skip : Sem Next).run P w = .ok x w') : x = .skip := by
  simp only [Sem.run_bind] at h
  cases hs : s.run P w with
  | ok a w1 => rw [hs] at h; simp at h; exact h.1.symm
  | halt a w1 => rw [hs] at h; simp at h
theorem simp_res {P : Program} {o : Oper} (hb : simpB o.op = true) {f : Operand → Value} {w w' : World} {x : Next} (h : (execOp f o).run P w = .ok x w') : (∃ z, x = .value z) ∨ x = .skip := by
  obtain ⟨dst, op, ty, pos, after, guard⟩ := o
  cases op <;> simp only [simpB] at hb <;> first
    | (cases hb; done)
    | exact .inl (val_res h)
    | exact .inr (skip_res h)
    | (simp only [execOp] at h; exact .inl (val_res h))
    | (simp only [execOp] at h; exact .inr (skip_res h))
    | (simp [execOp] at h; exact .inl ⟨_, h.1.symm⟩)
/-- A region's operations: recover once, the others simple. -/
def recA (P : Program) (T : List TI) (n : Nat) (W : List Nat) (v : Option AV) (K : AA → AH → Prop) : Bool → List Oper → AA → AH → Prop
  | _, [], a, M => K a M
  | done, o :: l, a, M => match o.guard with
    | some _ => False
    | none => match o.op with
      | .call ⟨.builtin .recover, args, _⟩ => match done, args.toList with
        | false, [] => recA P T n W v K true l (a.put n o.dst (recV v)) M
        | _, _ => False
      | op => condT (simpB op) (effA P T (elemN W o.dst) M (evA a) op (fun z M' => recA P T n W v K done l (a.put n o.dst z) M') (fun _ _ => False))

section
variable {P : Program} {T : List TI}
/-- The frame below, behind a recover. -/
def belowR (v : Option Value) (done : Bool) (c : Frame) : Prop := match v, done with
  | none, _ => c.mode = .returning
  | some v, false => c.mode = .panicking [{ v := v, recovered := false }]
  | some v, true => c.mode = .panicking [{ v := v, recovered := true }]
theorem recA_sound (hT : TabOK P T) {n : Nat} {W : List Nat} {ops : Array Oper} {v : Option AV} {vc : Option Value} {K : AA → AH → Prop} {D : List Deferred} {ρ0 : Env} {M0 : AH} {w0 : World} {c0 : Frame} {cs : List Frame} {Q : Exit → Act → List Frame → World → Prop} :
    ∀ (l : List Oper) (k : Nat) (done : Bool) (a : AA) (M : AH) (ρ : Env) (w : World) (act : Act) (c : Frame), ops.toList.drop k = l → Sim ρ M w → Ext ρ0 M0 w0 ρ M w → (recV v).ok ρ → vc = v.map (AV.c ρ) → ActR ρ D n a act → belowR vc done c → (∃ u, c = { c0 with mode := u }) → recA P T n W v K done l a M →
      (∀ a' M' ρ' w' act' c' done', K a' M' → Sim ρ' M' w' → Ext ρ0 M0 w0 ρ' M' w' → ActR ρ' D n a' act' → belowR vc done' c' → (∃ u, c' = { c0 with mode := u }) → (done' = false → done = false ∧ ∀ o ∈ l, ∀ as tys, o.op ≠ .call ⟨.builtin .recover, as, tys⟩) → Q .normal act' (c' :: cs) w') →
      wpOpsSIn (FW none) 0 P ops Q (List.range' k l.length) act (c :: cs) w
  | [], k, done, a, M, ρ, w, act, c, _, hs, hE, _, _, ha, hb, hc, h, hK => hK a M ρ w act c done h hs hE ha hb hc (fun hd => ⟨hd, fun o ho => by cases ho⟩)
  | o :: l, k, done, a, M, ρ, w, act, c, hl, hs, hE, hv, hvc, ha, hb, hc, h, hK => by
    have hi : ops[k]? = some o := by
      have := congrArg (fun l => l[0]?) hl
      simpa using this
    have hl' : ops.toList.drop (k + 1) = l := by
      have := congrArg List.tail hl
      simpa using this
    simp only [recA] at h
    split at h
    · exact h.elim
    · rename_i hg
      rw [List.length_cons, List.range'_succ]
      simp only [wpOpsSIn, hi]
      refine ⟨fun _ _ => trivial, ?_⟩
      rw [if_pos (by unfold Region.wanted; rw [hg])]
      split at h
      · rename_i args tys hop
        split at h
        · rename_i hargs
          obtain rfl : args = #[] := by apply Array.toList_inj.1; simpa using hargs
          have hrun : (execOp act.eval o).run P w = .ok .recover w := by
            obtain ⟨dst, op, ty, pos, after, guard⟩ := o
            simp only at hop
            subst hop
            simp [execOp, resolve, invoke, builtin]
          rw [hrun]
          simp only
          cases v with
          | none =>
            obtain rfl : vc = none := hvc
            have hm : c.mode = .returning := hb
            have hrec : recoverD (c :: cs) = none := by simp [recoverD, hm]
            rw [hrec]
            simp only
            exact recA_sound hT l (k + 1) true (a.put n o.dst .ni) M ρ w (act.put o.dst .nilIface) c hl' hs hE hv rfl (ha.put o.dst (v := .ni) hv) hm hc h (fun a' M' ρ' w' act' c' done' h1 h2 h3 h4 h5 h6 h7 => hK a' M' ρ' w' act' c' done' h1 h2 h3 h4 h5 h6 (fun hd => by have := (h7 hd).1; cases this))
          | some z =>
            obtain rfl : vc = some (z.c ρ) := hvc
            have hm : c.mode = .panicking [{ v := z.c ρ, recovered := false }] := hb
            have hrec : recoverD (c :: cs) = some (z.c ρ, { c with mode := .panicking [{ v := z.c ρ, recovered := true }] } :: cs) := by simp [recoverD, hm]
            rw [hrec]
            simp only
            obtain ⟨u, rfl⟩ := hc
            exact recA_sound hT l (k + 1) true (a.put n o.dst z) M ρ w (act.put o.dst (z.c ρ)) _ hl' hs hE hv rfl (ha.put o.dst (v := z) hv) rfl ⟨_, rfl⟩ h (fun a' M' ρ' w' act' c' done' h1 h2 h3 h4 h5 h6 h7 => hK a' M' ρ' w' act' c' done' h1 h2 h3 h4 h5 h6 (fun hd => by have := (h7 hd).1; cases this))
        · exact h.elim
      · rename_i hnr
        replace h := condT_sound h
        obtain ⟨hsb, h⟩ := h
        have hup := effA_sound (r := none) (Q := fun _ _ _ => False) (o := o) hT hs ha.ev h (K' := fun act' w' => wpOpsSIn (FW none) 0 P ops Q (List.range' (k + 1) l.length) act' (c :: cs) w')
          (fun rv M' ρ' w' g1 g2 g3 g4 => recA_sound hT l (k + 1) done (a.put n o.dst rv) M' ρ' w' (act.put o.dst (rv.c ρ')) c hl' g3 (hE.trans g4) (AV.ok_ext g4.env _ hv)
            (by rw [hvc]; cases v with
              | none => rfl
              | some z => exact congrArg some (AV.c_ext g4.env z hv).symm) ((ha.ext g4.env).put o.dst g2) hb hc g1 (fun a' M'' ρ'' w'' act' c' done' h1 h2 h3 h4 h5 h6 h7 => hK a' M'' ρ'' w'' act' c' done' h1 h2 h3 h4 h5 h6 (fun hd => by
              obtain ⟨p1, p2⟩ := h7 hd
              refine ⟨p1, fun o' ho' as tys => ?_⟩
              rcases List.mem_cons.1 ho' with rfl | ho'
              · intro e
                exact hnr _ _ e
              · exact p2 o' ho' as tys)))
          (fun rv M' ρ' w' g1 _ _ _ => g1.elim)
        generalize hres : (execOp act.eval o).run P w = res at hup
        cases res with
        | ok x w1 =>
          rcases simp_res hsb hres with ⟨z, rfl⟩ | rfl
          · exact hup
          · exact hup
        | halt x w1 => cases x <;> exact hup.elim
end
/-! Code without loops. -/
def plainC : Code → Bool
  | .skip => true
  | .ret => true
  | .seq a b => plainC a && plainC b
  | .cond _ a b => plainC a && plainC b
  | .region _ _ _ => true
  | _ => false
/-- As LiftQ, and nothing more is deferred. -/
def Lift0 (ρ0 : Env) (M0 : AH) (w0 : World) (D : List Deferred) (n : Nat) (Q : AEx → AA → AH → Prop) (e : Exit) (act : Act) (w' : World) : Prop :=
  match e with
  | .normal => ∃ ρ' M' a', Sim ρ' M' w' ∧ Ext ρ0 M0 w0 ρ' M' w' ∧ ActR ρ' D n a' act ∧ Q .normal a' M'
  | .ret => ∃ ρ' M' a', Sim ρ' M' w' ∧ Ext ρ0 M0 w0 ρ' M' w' ∧ ActR ρ' D n a' act ∧ Q .ret a' M'
  | _ => False
theorem code0 {x : Cx} (hT : TabOK x.P x.T) (hm : x.P.follows .mixedOrders = true) {ρ0 : Env} {M0 : AH} {w0 : World} {D : List Deferred} :
    ∀ (c : Code) (_ : plainC c = true) (_ : plansB x.pl c = true) (Q : AEx → AA → AH → Prop) (a : AA) (M : AH) (ρ : Env) (w : World) (act : Act), (∀ id a M, ¬ Q (.exit id) a M) → Sim ρ M w → Ext ρ0 M0 w0 ρ M w → ActR ρ D x.n a act → codeA x c Q (fun _ _ => False) a M →
      c.wpIn (FW x.r) 0 x.P (Lift0 ρ0 M0 w0 D x.n Q) act w := by
  intro c
  induction c with
  | skip => exact fun _ _ Q a M ρ w act _ hs hE ha h => wpIn_skip ⟨ρ, M, a, hs, hE, ha, h⟩
  | ret => exact fun _ _ Q a M ρ w act _ hs hE ha h => wpIn_ret ⟨ρ, M, a, hs, hE, ha, h⟩
  | seq c d ihc ihd =>
    intro hpl hpb Q a M ρ w act hx hs hE ha h
    simp only [plainC, Bool.and_eq_true] at hpl
    simp only [plansB, Bool.and_eq_true] at hpb
    refine wpIn_seq (wpIn_mono (ihc hpl.1 hpb.1 (fun e a M => match e with | .normal => codeA x d Q (fun _ _ => False) a M | e => Q e a M) a M ρ w act (fun id a M h => hx id a M h) hs hE ha h) fun e act' w' hq => ?_)
    cases e with
    | normal => obtain ⟨ρ', M', a', h1, h2, h3, h4⟩ := hq; exact ihd hpl.2 hpb.2 Q a' M' ρ' w' act' hx h1 h2 h3 h4
    | ret => exact hq
    | exit id => exact hq.elim
    | panic ch => exact hq.elim
    | goto l => exact hq.elim
    | outgrown => exact hq.elim
  | cond o c d ihc ihd =>
    intro hpl hpb Q a M ρ w act hx hs hE ha h
    simp only [plainC, Bool.and_eq_true] at hpl
    simp only [plansB, Bool.and_eq_true] at hpb
    have he := (ha.ev o).1
    simp only [codeA] at h
    split at h <;> rename_i hh <;> (try rw [hh] at he)
    · exact wpIn_cond_true he (ihc hpl.1 hpb.1 Q a M ρ w act hx hs hE ha h)
    · exact wpIn_cond_false he (ihd hpl.2 hpb.2 Q a M ρ w act hx hs hE ha h)
    · exact wpIn_cond_split he (fun hb => ihc hpl.1 hpb.1 Q a M ρ w act hx hs hE ha (h.1 hb)) (fun hb => ihd hpl.2 hpb.2 Q a M ρ w act hx hs hE ha (h.2 hb))
    · exact h.elim
  | region id ops draw =>
    intro hpl hpb Q a M ρ w act hx hs hE ha h
    simp only [codeA] at h
    cases draw with
    | false =>
      refine wpIn_region ?_
      have := seqA_sound (r := x.r) (Q := Lift0 ρ0 M0 w0 D x.n Q) (ρ0 := ρ) (M0 := M) (w0 := w) hT ops.toList 0 a M ρ w act (by simp) hs (Ext.refl _ _ _) ha h
        (fun a' act' M' ρ' w' h1 h2 h3 h4 => ⟨ρ', M', a', h3, hE.trans h4, h2, h1⟩) (fun rv M' ρ' w' act' h0 h1 h2 h3 h4 => h1.elim)
      rw [show List.range ops.size = List.range' 0 ops.toList.length by rw [List.range_eq_range', Array.length_toList]]
      exact this
    | true =>
      simp only at h
      split at h
      · rename_i plan ds hpl'
        simp only [plansB, hpl', Bool.and_eq_true] at hpb
        obtain ⟨⟨hb1, hb2⟩, hb3⟩ := hpb
        obtain ⟨B, hB⟩ : ∃ B, x.B id = B := ⟨_, rfl⟩
        rw [hB] at h
        have hp : ∀ (i : Nat) o, ops[i]? = some o → plainOp o.op = true := fun i o hi => by
          exact Array.all_eq_true_iff_forall_mem.1 hb2 o (Array.mem_of_getElem? hi)
        have hs' : Sim ρ M { w with drawn := w.drawn + 1 } := ⟨hs.dom, hs.tag, hs.fam, fun i g own y hy => by
          rcases hs.holds i g own y hy with ⟨q, h1, h2⟩ | h1
          · exact .inl ⟨q, h1, Holds.ext (w := w) (fun _ _ _ h => h) rfl h2⟩
          · exact .inr h1, hs.apart⟩
        have hE' : Ext ρ0 M0 w0 ρ M { w with drawn := w.drawn + 1 } := ⟨hE.env, hE.size, hE.frame, hE.fresh, hE.os, hE.tape, hE.output⟩
        cases plan with
        | nil =>
          refine wpIn_region_any hm (wpAnyIn_of_anyS (S := fun _ => True) (ds := ds) hp _ _ _ _ ?_)
          exact makeA_sound (r := x.r) (Q := Lift0 ρ0 M0 w0 D x.n Q) (w0 := { w with drawn := w.drawn + 1 }) hT hb1 hs' ha h
            (fun a' act' M' ρ' w' h1 h2 h3 h4 => ⟨ρ', M', a', h3, hE'.trans h4, h2, h1⟩)
        | cons p plan =>
        refine wpIn_region_any hm (wpAnyIn_of_anyS (S := SB ρ M B) (ds := ds) hp _ _ _ _ ?_)
        exact drawA_sound (r := x.r) (Q := Lift0 ρ0 M0 w0 D x.n Q) (ρ0 := ρ) (M0 := M) (w0 := { w with drawn := w.drawn + 1 }) hT hp
          (fun c act' d v w' hq => hq)
          (p :: plan) [] _ ops.size a M ρ _ act (SB ρ M B) (Nat.le_trans (List.length_filter_le _ _) (by simpa using hb3)) hb1 Closed.none hs' (Ext.refl _ _ _) ha (fun _ => SB.of hs' B) (fun _ h => h) (fun _ ρ' M' w' k1 k2 k3 => SB_keep (SB.of hs' B) k1 k2 k3) h
          (fun a' act' M' ρ' w' h1 h2 h3 h4 => ⟨ρ', M', a', h3, hE'.trans h4, h2, h1⟩) (fun rv M' ρ' w' act' h0 h1 h2 h3 h4 => h1.elim)
      · exact h.elim
  | _ => intro hpl; cases hpl

/-- A closure whose first region recovers. -/
theorem ClosA.intro {x : Cx} (hT : TabOK x.P x.T) (hm : x.P.follows .mixedOrders = true) {g : Nat} {fn : Func} {id : Nat} {ops : Array Oper} {rest : Code} (hf : x.P.funcs[g]? = some fn) (hb : fn.body = some (.seq (.region id ops false) rest)) (hg : goodF x.P g = true) (hpc : plainC rest = true) (hpl : plansB x.pl rest = true) (hr : x.r = none)
    (hres : fn.results = #[]) (hrec : ops.toList.any (fun o => match o.op with | .call ⟨.builtin .recover, _, _⟩ => true | _ => false) = true)
    {args : List AV} {M : AH} {v : Option AV} {K : AH → Prop} (hn : fn.ntmps = x.n) (hle : Nat.ble args.length x.n = true)
    (h : recA x.P x.T x.n x.W v (fun a M => codeO x rest (fun e _ M' => match e with | .normal => K M' | .ret => K M' | _ => False) (fun _ _ => False) a M) false ops.toList (initA args) M) : ClosA x.P g args M v K := by
  refine ⟨hg, fun ρ w u hs hok hu => ?_⟩
  have hle' : args.length ≤ x.n := by simpa using hle
  have hlen : (AV.cl ρ args).toArray.size = args.length := by simp [AV.cl_eq]
  have ha : ActR ρ [] x.n (initA args) { tmps := (AV.cl ρ args).toArray ++ Array.replicate (fn.ntmps - (AV.cl ρ args).toArray.size) undef, defers := [] } := by
    refine ⟨rfl, ?_, fun t => ?_, fun t => ?_⟩
    · rw [Array.size_append, Array.size_replicate, hlen, hn]; omega
    · simp only [initA]; split
      · exact (AV.okl_iff ρ args).1 hok _ (List.mem_of_getElem? ‹_›)
      · exact trivial
    · simp only [initA, Array.getD_eq_getD_getElem?]
      by_cases ht : t < args.length
      · rw [Array.getElem?_append_left (by rw [hlen]; exact ht)]
        simp [AV.cl_eq, List.getElem?_eq_getElem ht]
      · rw [Array.getElem?_append_right (by rw [hlen]; omega), List.getElem?_eq_none (by omega)]
        simp only [Array.getElem?_replicate]
        split <;> rfl
  have hvok : (recV v).ok ρ := by
    cases v with
    | none => exact trivial
    | some z => exact hu.2
  refine callsDIn_of_wpSIn hf hb trivial fun c0 cs hc0 => ?_
  have hb0 : belowR (v.map (AV.c ρ)) false c0 := by
    cases v with
    | none => exact hc0.trans hu
    | some z => exact hc0.trans hu.1
  refine wpSIn_seq (wpSIn_region ?_)
  have key := recA_sound (ops := ops) (Q := Exit.thenS (rest.wpSIn (FW none) 0 x.P (bodyPostS x.P fn c0 cs fun e u' w' => (∃ x, e = .returned x) ∧ settle u' = .returning ∧ ∃ ρ' M', Sim ρ' M' w' ∧ Ext ρ M w ρ' M' w' ∧ K M')) (bodyPostS x.P fn c0 cs fun e u' w' => (∃ x, e = .returned x) ∧ settle u' = .returning ∧ ∃ ρ' M', Sim ρ' M' w' ∧ Ext ρ M w ρ' M' w' ∧ K M')) (cs := cs) (ρ0 := ρ) (M0 := M) (w0 := w) hT ops.toList 0 false (initA args) M ρ w _ c0 (by simp) hs (Ext.refl _ _ _) hvok rfl ha hb0 ⟨c0.mode, rfl⟩ h
    (fun a' M1 ρ1 w1 act' c' done' h1 hs1 hE1 h2 h3 h4 h5 => ?_)
  · rw [show List.range ops.size = List.range' 0 ops.toList.length by rw [List.range_eq_range', Array.length_toList]]
    exact key
  · show rest.wpSIn (FW none) 0 x.P _ act' (c' :: cs) w1
    refine wpSIn_of_wpIn rfl ?_
    have hw := code0 (ρ0 := ρ) (M0 := M) (w0 := w) hT hm rest hpc hpl (fun e _ M' => match e with | .normal => K M' | .ret => K M' | _ => False) a' M1 ρ1 w1 act' (fun _ _ _ h => h) hs1 hE1 h2 (by rw [codeO_eq] at h1; exact h1)
    rw [hr] at hw
    have hset : ∃ u', c' = { c0 with mode := u' } ∧ settle u' = .returning := by
      obtain ⟨u', rfl⟩ := h4
      refine ⟨u', rfl, ?_⟩
      cases v with
      | none =>
        have : u' = .returning := h3
        rw [this]; rfl
      | some z =>
        cases done' with
        | true =>
          have : u' = .panicking [{ v := z.c ρ, recovered := true }] := h3
          rw [this]; rfl
        | false =>
          exfalso
          obtain ⟨o, ho, hor⟩ := List.any_eq_true.1 hrec
          have := (h5 rfl).2 o ho
          split at hor
          · rename_i as tys hop; exact this _ _ hop
          · cases hor
    obtain ⟨u', hc', hset⟩ := hset
    refine wpIn_mono hw fun e act2 w2 hq => ?_
    have fin : ∀ {ρ2 : Env} {M2 : AH} {a2 : AA}, Sim ρ2 M2 w2 → Ext ρ M w ρ2 M2 w2 → ActR ρ2 [] x.n a2 act2 → K M2 → act2.defers = [] ∧ ∃ u'', c' :: cs = { c0 with mode := u'' } :: cs ∧ ∃ vv, (results fn act2.tmps).run x.P w2 = .ok vv w2 ∧ ((∃ y, Ending.returned vv = .returned y) ∧ settle u'' = .returning ∧ ∃ ρ' M', Sim ρ' M' w2 ∧ Ext ρ M w ρ' M' w2 ∧ K M') := by
      intro ρ2 M2 a2 g1 g2 g4 g6
      refine ⟨g4.defers, u', by rw [hc'], .tuple #[], ?_, ⟨_, rfl⟩, hset, ρ2, M2, g1, g2, g6⟩
      rw [results_eq, hres]
      simp
    cases e with
    | normal => obtain ⟨ρ2, M2, a2, g1, g2, g3, g4⟩ := hq; exact fin g1 g2 g3 g4
    | ret => obtain ⟨ρ2, M2, a2, g1, g2, g3, g4⟩ := hq; exact fin g1 g2 g3 g4
    | exit id => exact hq.elim
    | panic ch => exact hq.elim
    | goto l => exact hq.elim
    | outgrown => exact hq.elim
/-! The function that defers. -/
theorem leaves_marksD {F : Fence} {n : Nat} {P : Program} {fn : Func} {tmps : Array Value} {R : Ending → World → Prop} {ρ0 ρ : Env} {M0 M : AH} {w0 : World} {u : FrameMode} {ds : List Deferred} (hu : u ≠ .run)
    (hend : ∀ w, Sim ρ M w → Ext ρ0 M0 w0 ρ M w → LeavesInM F n P fn tmps R ds u w) : ∀ (rs : List Nat) (w : World), rs.Nodup → (∀ r ∈ rs, w0.heap.size ≤ r ∧ w.heap[r]? = some (.deferred (some []))) → Sim ρ M w → Ext ρ0 M0 w0 ρ M w →
    LeavesInM F n P fn tmps R (rs.map (fun r => { target := .collected r, args := #[] }) ++ ds) u w
  | [], w, _, _, hs, hE => hend w hs hE
  | r :: rs, w, hn, h, hs, hE => by
    obtain ⟨h1, h2⟩ := h r List.mem_cons_self
    refine ⟨hu, .inl ⟨r, _, rfl, run_takeDeferred h2, leaves_marksD hu hend rs _ (List.nodup_cons.1 hn).2 (fun r' hr' => ⟨(h r' (List.mem_cons_of_mem _ hr')).1, ?_⟩) (sim_shut hs h2 _) (ext_shut hE h1 _)⟩⟩
    rw [World.putObj_heap_other (fun e => (List.nodup_cons.1 hn).1 (by rw [← e]; exact hr'))]
    exact (h r' (List.mem_cons_of_mem _ hr')).2
/-- The results lie in cells. -/
def cellsR : List ResultVar → Bool
  | [] => true
  | .cell _ _ :: l => cellsR l
  | _ => false
def adsR : List ResultVar → List Nat
  | [] => []
  | .cell a _ :: l => a :: adsR l
  | .tmp _ :: l => adsR l
theorem resL_pin {P : Program} {T : List TI} (hT : TabOK P T) {M : AH} {a : AA} {ρ : Env} {w : World} {act : Act} (hs : Sim ρ M w) :
    ∀ (l : List ResultVar) (K : List AV → Prop), cellsR l = true → (∀ t ∈ adsR l, act.tmps.getD t undef = (a t).c ρ) → resL T M a l K → ∃ vs, K vs ∧ AV.okl ρ vs ∧ (l.mapM (resS act.tmps)).run P w = Result.ok (AV.cl ρ vs) w
  | [], K, _, _, h => ⟨[], h, trivial, by simp [AV.cl]⟩
  | .tmp t :: l, K, hc, _, h => by cases hc
  | .cell ad t :: l, K, hc, hp, h => by
    obtain ⟨v, h1, h2, h3⟩ := loadA_sound (P := P) hT hs.known (hs.id _) h
    obtain ⟨vs, k1, k2, k3⟩ := resL_pin hT hs l _ hc (fun t ht => hp t (List.mem_cons_of_mem _ ht)) h1
    refine ⟨v :: vs, k1, ⟨h2, k2⟩, ?_⟩
    have h4 := h3 w (hs.id _)
    have hrun : (resS act.tmps (.cell ad t)).run P w = Result.ok (v.c ρ) w := by
      simp only [resS]
      rw [hp ad List.mem_cons_self]
      simp only [Instr.loadAt] at h4
      generalize (a ad).c ρ = u at h4
      cases u with
      | pointer o => cases o with
        | none => simp [Instr.sureAddr] at h4
        | some ad => simpa [Instr.sureAddr, asAddr] using h4
      | _ => simp [Instr.sureAddr] at h4
    rw [List.mapM_cons]
    simp only [Sem.run_bind]
    rw [hrun]
    simp [k3, AV.cl]
theorem seqP_sound {P : Program} {T : List TI} {r : Option Nat} {Q : Exit → Act → World → Prop} (hT : TabOK P T) {n : Nat} {W : List Nat} {ops : Array Oper} {K : AA → AH → Prop} {D : List Deferred} {ρ0 : Env} {M0 : AH} {w0 : World} :
    ∀ (l tl : List Oper) (k : Nat) (a : AA) (M : AH) (ρ : Env) (w : World) (act : Act), ops.toList.drop k = l ++ tl → Sim ρ M w → Ext ρ0 M0 w0 ρ M w → ActR ρ D n a act → seqA P T n W ops (fun _ _ => False) K l a M →
      (∀ a' act' M' ρ' w', K a' M' → ActR ρ' D n a' act' → Sim ρ' M' w' → Ext ρ0 M0 w0 ρ' M' w' → wpOpsIn (FW r) 0 P ops Q (List.range' (k + l.length) tl.length) act' w') →
      wpOpsIn (FW r) 0 P ops Q (List.range' k (l ++ tl).length) act w
  | [], tl, k, a, M, ρ, w, act, _, hs, hE, ha, h, hK => hK a act M ρ w h ha hs hE
  | o :: l, tl, k, a, M, ρ, w, act, hl, hs, hE, ha, h, hK => by
    have hi : ops[k]? = some o := by
      have := congrArg (fun l => l[0]?) hl
      simpa using this
    have hl' : ops.toList.drop (k + 1) = l ++ tl := by
      have := congrArg List.tail hl
      simpa using this
    simp only [seqA] at h
    have key := stepA_sound (r := r) (Q := Q) (K' := wpOpsIn (FW r) 0 P ops Q (List.range' (k + 1) (l ++ tl).length)) hT hs ha h
      (fun a' act' M' ρ' w' h1 h2 h3 h4 => seqP_sound hT l tl (k + 1) a' M' ρ' w' act' hl' h3 (hE.trans h4) h2 h1 (fun a'' act'' M'' ρ'' w'' g1 g2 g3 g4 => by
        have := hK a'' act'' M'' ρ'' w'' g1 g2 g3 g4
        rw [List.length_cons, show k + (l.length + 1) = k + 1 + l.length by omega] at this
        exact this))
      (fun rv M' ρ' w' h1 h2 h3 h4 => h1.elim)
    rw [List.cons_append, List.length_cons, List.range'_succ]
    exact wpOpsIn_of hi key.1 key.2
/-- How such a function ends: the deferred call, then its results, which it reads from their cells. -/
def endD (P : Program) (T : List TI) (gd : Nat) (dargs : List AV) (rs : List ResultVar) (a : AA) (K : AV → AH → Prop) (v : Option AV) (M : AH) : Prop :=
  ClosA P gd dargs M v fun M' => resL T M' a rs fun vs => match vs with
    | [z] => K z M'
    | vs => K (.tup vs) M'
def leaveQ (P : Program) (T : List TI) (gd : Nat) (dargs : List AV) (rs : List ResultVar) (a : AA) (K : AV → AH → Prop) (e : AEx) (_ : AA) (M : AH) : Prop :=
  match e with
  | .normal => endD P T gd dargs rs a K none M
  | .ret => endD P T gd dargs rs a K none M
  | _ => False
/-- What has to be shown behind the defer. -/
def deferD (x : Cx) (rs : List ResultVar) (rest : Code) (dst : Option Nat) (f : Operand) (as : List Operand) (K : AV → AH → Prop) (a : AA) (M : AH) : Prop :=
  match evA a f with
  | .fn (.func gd) first cap => codeO x rest (leaveQ x.P x.T gd (first ++ as.map (evA a) ++ cap) rs (a.put x.n dst (.tup [])) K) (fun v M' => endD x.P x.T gd (first ++ as.map (evA a) ++ cap) rs (a.put x.n dst (.tup [])) K (some v) M') (a.put x.n dst (.tup [])) M
  | _ => False
def offN (ts : List Nat) (c : Code) : Bool := offC (ts.map fun t => (t, undef)) c
theorem offC_names {pin pin' : Pin} (h : pin.map (·.1) = pin'.map (·.1)) : ∀ c : Code, offC pin c = offC pin' c := by
  have hd : ∀ d, offD pin d = offD pin' d := by
    intro d
    have : ∀ p : Pin, offD p d = (p.map (·.1)).all fun t => !(d == some t) := fun p => by unfold offD; rw [List.all_map]; rfl
    rw [this, this, h]
  intro c
  induction c with
  | region id ops d => simp only [offC, hd]
  | seq a b h1 h2 => simp only [offC, h1, h2]
  | cond o a b h1 h2 => simp only [offC, h1, h2]
  | block id a h => simp only [offC, h]
  | loop a h => simp only [offC, h]
  | scope a h => simp only [offC, h]
  | rangeFunc f ps a b =>
    simp only [offC]
    cases pin <;> cases pin' <;> simp_all
  | _ => rfl
theorem CallA.introD {x : Cx} (hT : TabOK x.P x.T) (hm : x.P.follows .mixedOrders = true) {g : Nat} {fn : Func} {c : Code} (hf : x.P.funcs[g]? = some fn) (hb : fn.body = some c) (hg : goodF x.P g = true) (hpl : plansB x.pl c = true) (hr : x.r = none)
    {args : List AV} {M : AH} {K Kp : AV → AH → Prop} (hn : fn.ntmps = x.n) (hle : Nat.ble args.length x.n = true)
    (k : Nat) {id : Nat} {ops : Array Oper} {rest : Code} {l : List Oper} {o : Oper} {f : Operand} {as tys} (htail : tailC k c = .seq (.region id ops false) rest) (hops : ops.toList = l ++ [o]) (hop : o.op = .defer ⟨.value f, as, tys⟩) (hgd : o.guard = none)
    (hplr : plansB x.pl rest = true) (hcells : cellsR fn.results.toList = true) (hoff : offN (adsR fn.results.toList) rest = true)
    (h : preK x (fun a M => seqO x ops (fun _ _ => False) (deferD x fn.results.toList rest o.dst f as.toList K) l a M) (postA x.T fn.results.toList K) Kp k c (initA args) M) : CallA x.P g args M K Kp := by
  unfold CallA
  refine ⟨hg, fun ρ w hs hok => ?_⟩
  have hle' : args.length ≤ x.n := by simpa using hle
  have hlen : (AV.cl ρ args).toArray.size = args.length := by simp [AV.cl_eq]
  have ha : ActR ρ [] x.n (initA args) { tmps := (AV.cl ρ args).toArray ++ Array.replicate (fn.ntmps - (AV.cl ρ args).toArray.size) undef, defers := [] } := by
    refine ⟨rfl, ?_, fun t => ?_, fun t => ?_⟩
    · rw [Array.size_append, Array.size_replicate, hlen, hn]; omega
    · simp only [initA]; split
      · exact (AV.okl_iff ρ args).1 hok _ (List.mem_of_getElem? ‹_›)
      · exact trivial
    · simp only [initA, Array.getD_eq_getD_getElem?]
      by_cases ht : t < args.length
      · rw [Array.getElem?_append_left (by rw [hlen]; exact ht)]
        simp [AV.cl_eq, List.getElem?_eq_getElem ht]
      · rw [Array.getElem?_append_right (by rw [hlen]; omega), List.getElem?_eq_none (by omega)]
        simp only [Array.getElem?_replicate]
        split <;> rfl
  -- leaving without a deferred call
  have leave0 : ∀ {e : Exit} {act : Act} {w' : World}, LiftQ ρ M w [] x.n (postA x.T fn.results.toList K) Kp e act w' → bodyPostM Fence.wide 0 x.P fn (EndR ρ M w K Kp) e act w' := by
    intro e act w' hq
    have fin : ∀ (ρ' : Env) (M' : AH) (a' : AA) (D' : List Deferred), Sim ρ' M' w' → Ext ρ M w ρ' M' w' → Marks w.heap.size [] D' w' → ActR ρ' D' x.n a' act → (resL x.T M' a' fn.results.toList fun vs => match vs with | [v] => K v M' | vs => K (.tup vs) M') →
        LeavesInM Fence.wide 0 x.P fn act.tmps (EndR ρ M w K Kp) act.defers .returning w' := by
      intro ρ' M' a' D' h1 h2 ⟨rs, hrs, hnd, hbl⟩ h3 h4
      rw [h3.defers, hrs, List.append_nil]
      refine leaves_marks (by simp) (fun w2 g1 g2 => ?_) rs w' hnd hbl h1 h2
      obtain ⟨vs, k1, k2, k3⟩ := resL_sound hT g1 h3 _ _ h4
      have hmap : (fn.results.mapM (resS act.tmps)).run x.P w2 = Result.ok (AV.cl ρ' vs).toArray w2 := by
        rw [Array.mapM_eq_mapM_toList]
        simp [k3]
      show ∃ v, (results fn act.tmps).run x.P w2 = .ok v w2 ∧ EndR ρ M w K Kp (.returned v) w2
      rw [results_eq]
      simp only [Sem.run_bind, hmap]
      match vs, k1, k2 with
      | [v], k1, k2 => exact ⟨v.c ρ', by simp [AV.cl], ρ', M', g1, g2, v, rfl, k2.1, k1⟩
      | [], k1, k2 => exact ⟨(AV.tup []).c ρ', by simp [AV.cl, AV.c], ρ', M', g1, g2, .tup [], rfl, k2, k1⟩
      | v :: u :: vs, k1, k2 => exact ⟨(AV.tup (v :: u :: vs)).c ρ', by simp [AV.cl, AV.c], ρ', M', g1, g2, .tup (v :: u :: vs), rfl, k2, k1⟩
    cases e with
    | normal => obtain ⟨ρ', M', a', D', h1, h2, hm, h3, h4⟩ := hq; exact fin ρ' M' a' D' h1 h2 hm h3 h4
    | ret => obtain ⟨ρ', M', a', D', h1, h2, hm, h3, h4⟩ := hq; exact fin ρ' M' a' D' h1 h2 hm h3 h4
    | exit id => obtain ⟨ρ', M', a', D', h1, h2, hm, h3, h4⟩ := hq; exact h4.elim
    | panic ch =>
      obtain ⟨ρ', M', v, D', h1, h2, ⟨rs, hrs, hnd, hbl⟩, h3, h4, h5, h6⟩ := hq
      show LeavesInM Fence.wide 0 x.P fn act.tmps (EndR ρ M w K Kp) act.defers (.panicking ch) w'
      rw [h3, hrs, List.append_nil]
      refine leaves_marks (F := Fence.wide) (n := 0) (P := x.P) (fn := fn) (tmps := act.tmps) (R := EndR ρ M w K Kp) (u := .panicking ch) (by simp) (fun w2 g1 g2 => ?_) rs w' hnd hbl h1 h2
      show EndR ρ M w K Kp (.panicked ch) w2
      exact ⟨ρ', M', g1, g2, v, h4, h5, h6⟩
    | goto l => exact hq.elim
    | outgrown => exact hq.elim
  refine callsIn_wide.1 (callsIn_of_wp_marks (F := Fence.wide) (n := 0) hf hb trivial ?_)
  have hFW : (FW x.r) = Fence.wide := by rw [hr]; rfl
  have key : ∀ (k : Nat) (c : Code) (a : AA) (M1 : AH) (ρ1 : Env) (w1 : World) (act1 : Act) (D1 : List Deferred), tailC k c = .seq (.region id ops false) rest → plansB x.pl c = true →
      preK x (fun a M => seqO x ops (fun _ _ => False) (deferD x fn.results.toList rest o.dst f as.toList K) l a M) (postA x.T fn.results.toList K) Kp k c a M1 →
      Sim ρ1 M1 w1 → Ext ρ M w ρ1 M1 w1 → Marks w.heap.size [] D1 w1 → ActR ρ1 D1 x.n a act1 → c.wpIn (FW x.r) 0 x.P (bodyPostM Fence.wide 0 x.P fn (EndR ρ M w K Kp)) act1 w1 := by
    intro k
    induction k with
    | succ k ih =>
      intro c a M1 ρ1 w1 act1 D1 ht hp h hs1 hE1 hM1 ha1
      cases c with
      | seq c d =>
        simp only [plansB, Bool.and_eq_true] at hp
        have h' : codeO x c (seqQ (preK x (fun a M => seqO x ops (fun _ _ => False) (deferD x fn.results.toList rest o.dst f as.toList K) l a M) (postA x.T fn.results.toList K) Kp k d) (postA x.T fn.results.toList K)) Kp a M1 := h
        rw [codeO_eq] at h'
        refine wpIn_seq (wpIn_mono (codeA_from hT hm c hp.1 _ Kp a M1 ρ1 w1 act1 D1 hs1 hE1 hM1 ha1 h') fun e act' w' hq => ?_)
        cases e with
        | normal =>
          obtain ⟨ρ', M', a', D', h1, h2, hM', h3, h4⟩ := hq
          exact ih d a' M' ρ' w' act' D' ht hp.2 h4 h1 h2 hM' h3
        | exit id => exact leave0 (e := .exit id) hq
        | ret => exact leave0 (e := .ret) hq
        | panic ch => exact leave0 (e := .panic ch) hq
        | goto l => exact hq.elim
        | outgrown => exact hq.elim
      | _ => exact h.elim
    | zero =>
      intro c a M1 ρ1 w1 act1 D1 ht hp h hs1 hE1 hM1 ha1
      have ht' : c = .seq (.region id ops false) rest := ht
      subst ht'
      have h' : seqO x ops (fun _ _ => False) (deferD x fn.results.toList rest o.dst f as.toList K) l a M1 := h
      rw [seqO_eq] at h'
      refine wpIn_seq (wpIn_region ?_)
      rw [show List.range ops.size = List.range' 0 (l ++ [o]).length by rw [List.range_eq_range', ← hops, Array.length_toList]]
      refine seqP_sound (ρ0 := ρ1) (M0 := M1) (w0 := w1) hT l [o] 0 a M1 ρ1 w1 act1 (by rw [List.drop_zero, hops]) hs1 (Ext.refl _ _ _) ha1 h' fun a2 act2 M2 ρ2 w2 hd ha2 hs2 hE2 => ?_
      have hio : ops[0 + l.length]? = some o := by
        have := congrArg (fun q => q[l.length]?) hops
        simpa using this
      unfold deferD at hd
      split at hd
      · rename_i gd first cap hfn
        have hfe := (ha2.ev f).1
        have hfo := (ha2.ev f).2
        rw [hfn] at hfe hfo
        simp only [AV.ok] at hfo
        obtain ⟨cm1, cm2⟩ := cl_map ha2.ev as.toList
        show wpOpsIn (FW x.r) 0 x.P ops _ [0 + l.length] act2 w2
        simp only [wpOpsIn, hio]
        rw [if_pos (by unfold Region.wanted; rw [hgd])]
        have hrun : (o.semAt (FW x.r).round act2.eval).run x.P w2 = .ok (.defer { target := .fn (.func gd) (AV.cl ρ2 cap).toArray, args := (AV.cl ρ2 first).toArray ++ as.map act2.eval }) w2 := by
          rw [hr]
          show (o.semAt none act2.eval).run x.P w2 = _
          rw [Oper.semAt_none]
          obtain ⟨dst, op, ty, pos, after, guard⟩ := o
          simp only at hop
          subst hop
          simp only [AV.c] at hfe
          simp [execOp, resolve, hfe, Deferred.ofValue]
        refine ⟨fun _ _ => trivial, ?_⟩
        rw [hrun]
        obtain ⟨act3, hact3⟩ : ∃ act3, act3 = ({ act2 with defers := { target := .fn (.func gd) (AV.cl ρ2 cap).toArray, args := (AV.cl ρ2 first).toArray ++ as.map act2.eval } :: act2.defers } : Act).put o.dst undef := ⟨_, rfl⟩
        obtain ⟨dd, hdd⟩ : ∃ dd : Deferred, dd = { target := .fn (.func gd) (AV.cl ρ2 cap).toArray, args := (AV.cl ρ2 first).toArray ++ as.map act2.eval } := ⟨_, rfl⟩
        obtain ⟨a3, ha3e⟩ : ∃ a3, a3 = a2.put x.n o.dst (.tup []) := ⟨_, rfl⟩
        obtain ⟨da, hda⟩ : ∃ da, da = first ++ as.toList.map (evA a2) ++ cap := ⟨_, rfl⟩
        rw [← ha3e, ← hda] at hd
        have ha3 : ActR ρ2 (dd :: D1) x.n a3 act3 := by
          have h0 : ActR ρ2 (dd :: D1) x.n a2 ({ act2 with defers := dd :: act2.defers } : Act) := ⟨by show dd :: act2.defers = _; rw [ha2.defers], ha2.size, ha2.ok, ha2.get⟩
          have := h0.put o.dst (v := .tup []) trivial
          rw [ha3e, hact3, ← hdd]
          exact this
        have hdok : AV.okl ρ2 da := by rw [hda]; exact okl_append (okl_append hfo.1 cm2) hfo.2
        have hdc : (AV.cl ρ2 da).toArray = (AV.cl ρ2 first).toArray ++ as.map act2.eval ++ (AV.cl ρ2 cap).toArray := by
          apply Array.toList_inj.1
          rw [hda, cl_append, cl_append, ← cm1]
          simp
        show rest.wpIn (FW x.r) 0 x.P (bodyPostM Fence.wide 0 x.P fn (EndR ρ M w K Kp)) _ w2
        rw [← hact3]
        rw [codeO_eq] at hd
        have hpin3 : PinOK ((adsR fn.results.toList).map fun t => (t, (a3 t).c ρ2)) act3 := by
          intro p hp
          obtain ⟨t, _, rfl⟩ := List.mem_map.1 hp
          exact ha3.get t
        have hoff3 : offC ((adsR fn.results.toList).map fun t => (t, (a3 t).c ρ2)) rest = true := by
          rw [offC_names (pin' := (adsR fn.results.toList).map fun t => (t, undef)) (by simp [List.map_map, Function.comp_def])]
          exact hoff
        refine wpIn_mono (codeA_pin hT hm rest hplr _ _ a3 M2 ρ2 w2 act3 (dd :: D1) hs2 (Ext.refl _ _ _) (Marks.refl _ _ _) ha3 hoff3 hpin3 hd) fun e act4 w4 hq => ?_
        obtain ⟨hq, hpin4⟩ := hq
        have close : ∀ {v : Option AV} {ρ4 : Env} {M4 : AH} {D4 : List Deferred} {u : FrameMode}, Sim ρ4 M4 w4 → Ext ρ2 M2 w2 ρ4 M4 w4 → Marks w2.heap.size (dd :: D1) D4 w4 → act4.defers = D4 → u ≠ .run → modeOK ρ4 v u → endD x.P x.T gd da fn.results.toList a3 K v M4 →
            LeavesInM Fence.wide 0 x.P fn act4.tmps (EndR ρ M w K Kp) act4.defers u w4 := by
          intro v ρ4 M4 D4 u s4 e4 ⟨rs, hrs, hnd, hbl⟩ hdf hu hmode hend
          rw [hdf, hrs]
          refine leaves_marksD (ρ0 := ρ1) (M0 := M1) (w0 := w1) hu (fun w5 g1 g2 => ?_) rs w4 hnd (fun r hr => ⟨Nat.le_trans hE2.size (hbl r hr).1, (hbl r hr).2⟩) s4 (hE2.trans e4)
          refine ⟨hu, .inr ⟨fun h => (by cases h), .func gd, (AV.cl ρ2 cap).toArray, gd, (AV.cl ρ2 first).toArray ++ as.map act2.eval ++ (AV.cl ρ2 cap).toArray, by rw [hdd], ?_, fun _ _ => trivial, ?_⟩⟩
          · rw [hdd]
            simp only [invoke]
            exact goodF_run hend.1 _ _
          · have hcl := hend.2 ρ4 w5 u g1 (AV.okl_ext e4.env da hdok) hmode
            rw [AV.cl_ext e4.env da hdok, hdc] at hcl
            refine CallsDIn.mono hcl fun e6 u6 w6 h6 => ?_
            obtain ⟨⟨y, rfl⟩, hset, ρ6, M6, s6, e6, hres⟩ := h6
            show LeavesInM Fence.wide 0 x.P fn act4.tmps (EndR ρ M w K Kp) D1 (settle u6) w6
            rw [hset]
            obtain ⟨rs1, hrs1, hnd1, hbl1⟩ := hM1.keep hs1 (g2.trans e6)
            rw [hrs1, List.append_nil]
            refine leaves_marks (ρ0 := ρ) (M0 := M) (w0 := w) (by simp) (fun w7 q1 q2 => ?_) rs1 w6 hnd1 hbl1 s6 (hE1.trans (g2.trans e6))
            obtain ⟨vs, k1, k2, k3⟩ := resL_pin (act := act4) hT q1 fn.results.toList _ hcells (fun t ht => by
              rw [AV.c_ext e6.env (a3 t) (AV.ok_ext e4.env (a3 t) (ha3.ok t)), AV.c_ext e4.env (a3 t) (ha3.ok t)]
              exact hpin4 (t, (a3 t).c ρ2) (List.mem_map.2 ⟨t, ht, rfl⟩)) hres
            have hmap : (fn.results.mapM (resS act4.tmps)).run x.P w7 = Result.ok (AV.cl ρ6 vs).toArray w7 := by
              rw [Array.mapM_eq_mapM_toList]
              simp [k3]
            show ∃ v, (results fn act4.tmps).run x.P w7 = .ok v w7 ∧ EndR ρ M w K Kp (.returned v) w7
            rw [results_eq]
            simp only [Sem.run_bind, hmap]
            match vs, k1, k2 with
            | [v], k1, k2 => exact ⟨v.c ρ6, by simp [AV.cl], ρ6, M6, q1, q2, v, rfl, k2.1, k1⟩
            | [], k1, k2 => exact ⟨(AV.tup []).c ρ6, by simp [AV.cl, AV.c], ρ6, M6, q1, q2, .tup [], rfl, k2, k1⟩
            | v :: u :: vs, k1, k2 => exact ⟨(AV.tup (v :: u :: vs)).c ρ6, by simp [AV.cl, AV.c], ρ6, M6, q1, q2, .tup (v :: u :: vs), rfl, k2, k1⟩
        cases e with
        | normal => obtain ⟨ρ4, M4, a4, D4, s4, e4, m4, ac4, hl⟩ := hq; exact close (v := none) s4 e4 m4 ac4.defers (by simp) rfl hl
        | ret => obtain ⟨ρ4, M4, a4, D4, s4, e4, m4, ac4, hl⟩ := hq; exact close (v := none) s4 e4 m4 ac4.defers (by simp) rfl hl
        | exit id => obtain ⟨ρ4, M4, a4, D4, s4, e4, m4, ac4, hl⟩ := hq; exact hl.elim
        | panic ch =>
          obtain ⟨ρ4, M4, v, D4, s4, e4, m4, hdf, hch, hvok, hl⟩ := hq
          exact close (v := some v) s4 e4 m4 hdf (by simp) ⟨by rw [hch], hvok⟩ hl
        | goto l => exact hq.elim
        | outgrown => exact hq.elim
      · exact hd.elim
  have h0 := key k c (initA args) M ρ w _ [] htail hpl h hs (Ext.refl _ _ _) (Marks.refl _ _ _) ha
  rw [hFW] at h0
  exact h0
/-- The region that defers: its operations, what follows, the operations ahead of the defer, the defer. -/
def lastD : Code → Option (Array Oper × Code × List Oper × Oper × Operand × Array Operand)
  | .seq (.region _ ops false) rest => match ops.toList.reverse with
    | o :: l => match o.op, o.guard with
      | .defer ⟨.value f, as, _⟩, none => some (ops, rest, l.reverse, o, f, as)
      | _, _ => none
    | [] => none
  | _ => none
theorem CallA.deferI {x : Cx} (hT : TabOK x.P x.T) (hm : x.P.follows .mixedOrders = true) {g : Nat} {fn : Func} {c : Code} (hf : x.P.funcs[g]? = some fn) (hb : fn.body = some c) (hg : goodF x.P g = true) (hpl : plansB x.pl c = true) (hr : x.r = none)
    {args : List AV} {M : AH} {K Kp : AV → AH → Prop} (hn : fn.ntmps = x.n) (hle : Nat.ble args.length x.n = true)
    (k : Nat) {ops : Array Oper} {rest : Code} {l : List Oper} {o : Oper} {f : Operand} {as : Array Operand} (hd : lastD (tailC k c) = some (ops, rest, l, o, f, as))
    (hplr : plansB x.pl rest = true) (hcells : cellsR fn.results.toList = true) (hoff : offN (adsR fn.results.toList) rest = true)
    (h : preK x (fun a M => seqO x ops (fun _ _ => False) (deferD x fn.results.toList rest o.dst f as.toList K) l a M) (postA x.T fn.results.toList K) Kp k c (initA args) M) : CallA x.P g args M K Kp := by
  unfold lastD at hd
  split at hd
  · rename_i id ops' rest' htail
    split at hd
    · rename_i o' l' hrev
      split at hd
      · rename_i f' as' tys hop hgd
        simp only [Option.some.injEq, Prod.mk.injEq] at hd
        obtain ⟨rfl, rfl, rfl, rfl, rfl, rfl⟩ := hd
        have hops : ops'.toList = l'.reverse ++ [o'] := by
          have := congrArg List.reverse hrev
          simpa using this
        exact CallA.introD hT hm hf hb hg hpl hr hn hle k htail hops hop hgd hplr hcells hoff h
      · cases hd
    · cases hd
  · cases hd
attribute [irreducible] ClosA
end Go.Proofs.Yteinenklppbjkaa
