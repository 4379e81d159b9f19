/- Operations and regions, on abstract states. -/
import Derived.Test.YtaioclggifdnhaaAb9
import Derived.Test.YtaioclggifdnhaaAbS
import Derived.Test.YtaioclggifdnhaaAbC
set_option linter.unusedVariables false
set_option linter.unusedSimpArgs false
open Go.RowKit
namespace Go.Proofs.Ytaioclggifdnhaa

/-- The temporaries. -/
abbrev AA := Nat → AV
def AA.put (n : Nat) (a : AA) (d : Option Nat) (v : AV) : AA :=
  match d with
  | none => a
  | some t => fun k => match Nat.beq k t && Nat.blt t n with
    | true => v
    | false => a k
def evA (a : AA) : Operand → AV
  | .tmp t => a t
  | .const v => ofC v
  | .global g => .raw (.pointer (some ⟨g, 0, none⟩))
  | .func f => .fn (.func f) [] []

structure ActR (ρ : Env) (D : List Deferred) (n : Nat) (a : AA) (act : Act) : Prop where
  defers : act.defers = D
  size : act.tmps.size = n
  ok : ∀ t, (a t).ok ρ
  get : ∀ t, act.tmps.getD t undef = (a t).c ρ

theorem ActR.ev {ρ : Env} {D : List Deferred} {n : Nat} {a : AA} {act : Act} (h : ActR ρ D n a act) : EvR ρ (evA a) act.eval := by
  intro x
  cases x with
  | tmp t => exact ⟨h.get t, h.ok t⟩
  | const v => exact ⟨(ofC_c ρ v).symm, ofC_ok ρ v⟩
  | global g => exact ⟨rfl, trivial⟩
  | func f => exact ⟨rfl, ⟨trivial, trivial⟩⟩

theorem ActR.ext {ρ ρ' : Env} {D : List Deferred} {n : Nat} {a : AA} {act : Act} (h : ActR ρ D n a act) (he : ∀ i g l, ρ i g = some l → ρ' i g = some l) : ActR ρ' D n a act :=
  ⟨h.defers, h.size, fun t => AV.ok_ext he _ (h.ok t), fun t => by rw [AV.c_ext he _ (h.ok t)]; exact h.get t⟩

theorem ActR.put {ρ : Env} {D : List Deferred} {n : Nat} {a : AA} {act : Act} (h : ActR ρ D n a act) (d : Option Nat) {v : AV} (hv : v.ok ρ) : ActR ρ D n (a.put n d v) (act.put d (v.c ρ)) := by
  cases d with
  | none => exact h
  | some t =>
    refine ⟨h.defers, by simp [Act.put, h.size], fun k => ?_, fun k => ?_⟩
    · simp only [AA.put]; split
      · exact hv
      · exact h.ok k
    · simp only [AA.put, Act.put]
      split
      · rename_i hb
        simp only [Bool.and_eq_true] at hb
        have e1 : k = t := Nat.eq_of_beq_eq_true hb.1
        have e2 : t < n := by simpa using hb.2
        subst e1
        simp [Array.getD_eq_getD_getElem?, h.size, e2]
      · rename_i hb
        have hg := h.get k
        by_cases hk : k = t
        · subst hk
          have : ¬ k < n := by
            intro hlt
            have e1 : Nat.beq k k = true := Nat.beq_refl k
            have e2 : Nat.blt k n = true := by simpa using hlt
            rw [e1, e2] at hb; cases hb
          rw [← hg]
          simp [Array.getD_eq_getD_getElem?, h.size, this]
        · rw [← hg]
          simp [Array.getD_eq_getD_getElem?, Array.getElem?_setIfInBounds_ne (Ne.symm hk)]

def goodF (P : Program) (g : Nat) : Bool :=
  match P.funcs[g]? with
  | some fn => fn.body.isSome && !(fn.name == "runtime.NumGoroutine")
  | none => false
theorem goodF_run {P : Program} {g : Nat} (h : goodF P g = true) (args : Array Value) (w : World) : (callFunc g args).run P w = .ok (.enter g args) w := by
  unfold goodF at h
  split at h
  · rename_i fn hfn
    simp only [Bool.and_eq_true, Bool.not_eq_true'] at h
    have hn : fn.name ≠ "runtime.NumGoroutine" := by have := h.2; simpa using this
    have hb : fn.body ≠ none := by intro e; rw [e] at h; exact absurd h.1 (by simp)
    simp [callFunc, hfn, hn, hb]
  · cases h

/-- How a call ends. -/
def EndR (ρ : Env) (M : AH) (w : World) (K : AV → AH → Prop) (Kp : AV → AH → Prop) (e : Ending) (w' : World) : Prop :=
  ∃ ρ' M', Sim ρ' M' w' ∧ Ext ρ M w ρ' M' w' ∧ match e with
    | .returned v => ∃ r, v = r.c ρ' ∧ r.ok ρ' ∧ K r M'
    | .panicked ch => ∃ r, ch = [{ v := r.c ρ', recovered := false }] ∧ r.ok ρ' ∧ Kp r M'
    | .outgrown => False

/-- A call of a Go function in an abstract heap. -/
@[irreducible] def CallA (P : Program) (g : Nat) (args : List AV) (M : AH) (K : AV → AH → Prop) (Kp : AV → AH → Prop) : Prop :=
  goodF P g = true ∧ ∀ ρ w, Sim ρ M w → AV.okl ρ args → Calls P g (AV.cl ρ args).toArray w (EndR ρ M w K Kp)

/-- A call of a loop's yield: one round. -/
@[irreducible] def YieldA (P : Program) (l : Nat) (args : List AV) (M : AH) (K : AV → AH → Prop) (Kp : AV → AH → Prop) : Prop :=
  ∀ ρ w, Sim ρ M w → AV.okl ρ args → ∃ f tmps as bd, (Instr.yield l (AV.cl ρ args).toArray).run P w = .ok (.round l f tmps as bd) w ∧ ∀ r, RoundIn (FW r) 0 P l f tmps as bd w (EndR ρ M w K Kp)

def effA (P : Program) (T : List TI) (wr : Bool) (M : AH) (e : Operand → AV) (o : Op) (K : AV → AH → Prop) (Kp : AV → AH → Prop) : Prop :=
  match o with
  | .store t a v => storeA T M t (e a) (e v) fun M' => K (.tup []) M'
  | .load t a => loadA T M t (e a) fun v => K v M
  | .alloc t => allocA T M t K
  | .box t x => boxA M (e x) K
  | .buildSlice t len parts => buildSliceA T M t len (parts.toList.map (·.1)) (parts.toList.map fun x => e x.2) K
  | .makeSlice t l c => makeSliceA T M t (e l) (e c) K
  | .call ⟨.builtin .append, args, tys⟩ => match args.toList, tys.toList with
    | [d, x], [tS, tX] => appendA T M tS tX (e d) (e x) K
    | _, _ => False
  | .call ⟨.builtin .copy, args, tys⟩ => match args.toList, tys.toList with
    | [d, x], [tD, tS] => copyA T M tD tS (e d) (e x) K
    | _, _ => False
  | .call ⟨.value f, args, _⟩ => match e f with
    | .fn (.func g) first cap => CallA P g (first ++ args.toList.map e ++ cap) M K Kp
    | .fn (.yield l) [] [] => YieldA P l (args.toList.map e) M K Kp
    | _ => False
  | .panic x => match e x with
    | .ifc t v => Kp (.ifc t v) M
    | _ => False
  | .convert src dst x => match e x with
    | .ns => strOfA T M src dst .ns fun v => K v M
    | .sl i g off n c => strOfA T M src dst (.sl i g off n c) fun v => K v M
    | _ => pureA T wr M e (.convert src dst x) fun v => K v M
  | o => pureA T wr M e o fun v => K v M

theorem calls_in {P : Program} {f : FuncId} {args : Array Value} {w : World} {R : Ending → World → Prop} (r : Option Nat) (n : Nat) (h : Calls P f args w R) : CallsIn (FW r) n P f args w R :=
  ⟨trivial, fun cs _ => let ⟨e, w', fr, hr, s, x⟩ := h cs; ⟨e, w', fr, hr, comesIn_wide.2 s, x⟩⟩

section
variable {P : Program} {T : List TI} {r : Option Nat} {Q : Exit → Act → World → Prop}

theorem cl_map {ρ : Env} {e : Operand → AV} {v : Operand → Value} (he : EvR ρ e v) (l : List Operand) : l.map v = AV.cl ρ (l.map e) ∧ AV.okl ρ (l.map e) := by
  constructor
  · rw [AV.cl_eq, List.map_map]
    exact List.map_congr_left fun z _ => (he z).1
  · rw [AV.okl_iff]
    intro z hz
    obtain ⟨y, _, rfl⟩ := List.mem_map.1 hz
    exact (he y).2

theorem okl_append {ρ : Env} {l l' : List AV} (h : AV.okl ρ l) (h' : AV.okl ρ l') : AV.okl ρ (l ++ l') := by
  rw [AV.okl_iff] at *
  intro v hv
  rcases List.mem_append.1 hv with hv | hv
  · exact h v hv
  · exact h' v hv
theorem cl_append (ρ : Env) (l l' : List AV) : AV.cl ρ (l ++ l') = AV.cl ρ l ++ AV.cl ρ l' := by simp [AV.cl_eq]

set_option maxHeartbeats 1000000 in
theorem effA_sound (hT : TabOK P T) {wr : Bool} {M : AH} {e : Operand → AV} {o : Oper} {K Kp : AV → AH → Prop} {ρ : Env} {w : World} {act : Act} (hs : Sim ρ M w) (he : EvR ρ e act.eval)
    (h : effA P T wr M e o.op K Kp) {K' : Act → World → Prop}
    (hK : ∀ rv M' ρ' w', K rv M' → rv.ok ρ' → Sim ρ' M' w' → Ext ρ M w ρ' M' w' → K' (act.put o.dst (rv.c ρ')) w')
    (hP : ∀ rv M' ρ' w', Kp rv M' → rv.ok ρ' → Sim ρ' M' w' → Ext ρ M w ρ' M' w' → Q (.panic [{ v := rv.c ρ', recovered := false }]) act w') :
    o.uponIn (FW r) 0 P act K' Q ((execOp act.eval o).run P w) := by
  obtain ⟨dst, op, ty, pos, after, guard⟩ := o
  simp only at h hK
  have val : ∀ {s : Sem Value} {v M' ρ' w'}, s.run P w = .ok (v.c ρ') w' → K v M' → v.ok ρ' → Sim ρ' M' w' → Ext ρ M w ρ' M' w' →
      Oper.uponIn (FW r) 0 P { dst, op, type := ty, pos, after, guard } act K' Q ((do pure (.value (← s)) : Sem Next).run P w) := by
    intro s v M' ρ' w' h1 h2 h3 h4 h5
    rw [show (do pure (.value (← s)) : Sem Next).run P w = .ok (.value (v.c ρ')) w' by simp [h1]]
    exact hK v M' ρ' w' h2 h3 h4 h5
  unfold effA at h
  split at h
  · rename_i t a v
    obtain ⟨M', w', h1, h2, h3, h4⟩ := storeA_sound (P := P) hT hs (he v).2 h
    rw [← (he a).1, ← (he v).1] at h1
    have : (execOp act.eval { dst, op := .store t a v, type := ty, pos, after, guard }).run P w = .ok .skip w' := by simp [execOp, h1]
    rw [this]
    exact hK (.tup []) M' ρ w' h2 trivial h3 h4
  · rename_i t a
    obtain ⟨v, h1, h2, h3⟩ := loadA_sound (P := P) hT hs.known (hs.id _) h
    have h4 := h3 w (hs.id _)
    rw [← (he a).1] at h4
    exact val h4 h1 h2 hs (Ext.refl _ _ _)
  · rename_i t
    obtain ⟨v, M', ρ', w', h1, h2, h3, h4, h5⟩ := allocA_sound (P := P) hT hs h
    exact val h1 h2 h3 h4 h5
  · rename_i t x
    obtain ⟨v, M', ρ', w', h1, h2, h3, h4, h5⟩ := boxA_sound (P := P) (t := t) hs (he x).2 h
    rw [← (he x).1] at h1
    exact val h1 h2 h3 h4 h5
  · rename_i t len parts
    obtain ⟨v, M', ρ', w', h1, h2, h3, h4, h5⟩ := buildSliceA_sound (P := P) hT hs (by rw [AV.okl_iff]; intro z hz; obtain ⟨y, _, rfl⟩ := List.mem_map.1 hz; exact (he y.2).2) h
    have e1 : (parts.map fun (i, x) => (i, act.eval x)) = ((parts.toList.map (·.1)).zip ((parts.toList.map fun x => e x.2).map (AV.c ρ))).toArray := by
      apply Array.toList_inj.1
      rw [Array.toList_map, List.toList_toArray, List.map_map]
      have : ∀ l : List (Nat × Operand), l.map (fun (i, x) => (i, act.eval x)) = (l.map (·.1)).zip (l.map ((AV.c ρ) ∘ fun x => e x.2)) := by
        intro l
        induction l with
        | nil => rfl
        | cons p l ih => simp [ih, (he p.2).1]
      exact this _
    rw [← e1] at h1
    exact val h1 h2 h3 h4 h5
  · rename_i t l c
    obtain ⟨v, M', ρ', w', h1, h2, h3, h4, h5⟩ := makeSliceA_sound (P := P) hT hs h
    rw [← (he l).1, ← (he c).1] at h1
    exact val h1 h2 h3 h4 h5
  · rename_i args tys
    split at h
    · rename_i d x tS tX hax htx
      obtain rfl : args = #[d, x] := by apply Array.toList_inj.1; simpa using hax
      obtain rfl : tys = #[tS, tX] := by apply Array.toList_inj.1; simpa using htx
      obtain ⟨v, M', ρ', w', h1, h2, h3, h4, h5⟩ := appendA_sound (P := P) (ty := ty) hT hs (he d).2 h
      rw [← (he d).1, ← (he x).1] at h1
      have := val h1 h2 h3 h4 h5
      simpa [execOp, resolve, invoke, builtin] using this
    · exact h.elim
  · rename_i args tys
    split at h
    · rename_i d x tD tS hax htx
      obtain rfl : args = #[d, x] := by apply Array.toList_inj.1; simpa using hax
      obtain rfl : tys = #[tD, tS] := by apply Array.toList_inj.1; simpa using htx
      obtain ⟨v, M', w', h1, h2, h3, h4, h5⟩ := copyA_sound (P := P) (ty := ty) hT hs h
      rw [← (he d).1, ← (he x).1] at h1
      have := val h1 h2 h3 h4 h5
      simpa [execOp, resolve, invoke, builtin] using this
    · exact h.elim
  · rename_i f args tys
    split at h
    · rename_i g first cap hf
      unfold CallA at h
      obtain ⟨hg, h⟩ := h
      have hfe := (he f).1
      have hfo := (he f).2
      rw [hf] at hfe hfo
      simp only [AV.ok] at hfo
      obtain ⟨e1, o1⟩ := cl_map he args.toList
      have hcall := h ρ w hs (okl_append (okl_append hfo.1 o1) hfo.2)
      rw [cl_append, cl_append, ← e1] at hcall
      have hrun : (execOp act.eval { dst, op := .call ⟨.value f, args, tys⟩, type := ty, pos, after, guard }).run P w = .ok (.enter g (AV.cl ρ first ++ args.toList.map act.eval ++ AV.cl ρ cap).toArray) w := by
        have e2 : ((AV.cl ρ first).toArray ++ args.map act.eval ++ (AV.cl ρ cap).toArray) = (AV.cl ρ first ++ args.toList.map act.eval ++ AV.cl ρ cap).toArray := by
          apply Array.toList_inj.1; simp
        simp only [execOp, resolve, Sem.run_bind, hfe, AV.c, Deferred.ofValue, Sem.run_pure, Result.andThen_ok, invoke]
        rw [e2]
        exact goodF_run hg _ w
      rw [hrun]
      refine ⟨(fun h => by cases h), CallsIn.mono (calls_in r _ hcall) fun en w' hen => ?_⟩
      obtain ⟨ρ', M', h1, h2, h3⟩ := hen
      cases en with
      | returned v => obtain ⟨rv, rfl, h4, h5⟩ := h3; exact hK rv M' ρ' w' h5 h4 h1 h2
      | panicked ch => obtain ⟨rv, rfl, h4, h5⟩ := h3; exact hP rv M' ρ' w' h5 h4 h1 h2
      | outgrown => exact h3.elim
    · rename_i l hf
      unfold YieldA at h
      have hfe := (he f).1
      rw [hf] at hfe
      obtain ⟨e1, o1⟩ := cl_map he args.toList
      obtain ⟨g, tmps, as, bd, hy, hround⟩ := h ρ w hs o1
      rw [← e1] at hy
      have hrun : (execOp act.eval { dst, op := .call ⟨.value f, args, tys⟩, type := ty, pos, after, guard }).run P w = .ok (.round l g tmps as bd) w := by
        have e2 : (#[] ++ args.map act.eval : Array Value) = (args.toList.map act.eval).toArray := by
          apply Array.toList_inj.1; simp
        simp only [execOp, resolve, Sem.run_bind, hfe, AV.c, AV.cl, Deferred.ofValue, Sem.run_pure, Result.andThen_ok, invoke]
        rw [e2]; exact hy
      rw [hrun]
      refine ⟨(fun h => by cases h), RoundIn.mono (hround r) fun en w' hen => ?_⟩
      obtain ⟨ρ', M', h1, h2, h3⟩ := hen
      cases en with
      | returned v => obtain ⟨rv, rfl, h4, h5⟩ := h3; exact hK rv M' ρ' w' h5 h4 h1 h2
      | panicked ch => obtain ⟨rv, rfl, h4, h5⟩ := h3; exact hP rv M' ρ' w' h5 h4 h1 h2
      | outgrown => exact h3.elim
    · exact h.elim
  · rename_i x
    split at h
    · rename_i t v hx
      have hxe := (he x).1
      rw [hx] at hxe
      have : (execOp act.eval { dst, op := .panic x, type := ty, pos, after, guard }).run P w = .halt (.panic ((AV.ifc t v).c ρ)) w := by
        simp [execOp, hxe, AV.c, Instr.panic]
      rw [this]
      exact hP (.ifc t v) M ρ w h (by rw [← hx]; exact (he x).2) hs (Ext.refl _ _ _)
    · exact h.elim
  · rename_i src dst' x
    split at h
    · rename_i hx
      obtain ⟨v, h1, h2, _, h3⟩ := strOfA_sound (P := P) hT hs.known h
      have h4 := h3 w (hs.id _)
      rw [← hx, ← (he x).1] at h4
      exact val h4 h1 h2 hs (Ext.refl _ _ _)
    · rename_i hx
      obtain ⟨v, h1, h2, _, h3⟩ := strOfA_sound (P := P) hT hs.known h
      have h4 := h3 w (hs.id _)
      rw [← hx, ← (he x).1] at h4
      exact val h4 h1 h2 hs (Ext.refl _ _ _)
    · obtain ⟨v, h1, h2, h3⟩ := pureA_sound (P := P) (o := { dst, op := .convert src dst' x, type := ty, pos, after, guard }) hT hs.known he h
      rw [h3 w]
      exact hK v M ρ w h1 h2 hs (Ext.refl _ _ _)
  · obtain ⟨v, h1, h2, h3⟩ := pureA_sound (P := P) (o := { dst, op, type := ty, pos, after, guard }) hT hs.known he h
    rw [h3 w]
    exact hK v M ρ w h1 h2 hs (Ext.refl _ _ _)
end

/-! Regions. -/
def ofB (b : Bool) : AV := match b with | true => .tt | false => .ff

/-- An operation with its guard: 'run' where it is carried out, 'skip' where not; the guard's outcome is written into its temporary. -/
def guardA (n : Nat) (ops : Array Oper) (o : Oper) (a : AA) (run skip : AA → Prop) : Prop :=
  match o.guard with
  | none => run a
  | some (j, want) => match ops[j]? with
    | some oj => match oj.dst with
      | some t => match a t with
        | .tt => match want with
          | true => run a
          | false => skip a
        | .ff => match want with
          | true => skip a
          | false => run a
        | .bo x => match want with
          | true => (x = true → run (a.put n (some t) .tt)) ∧ (x = false → skip (a.put n (some t) .ff))
          | false => (x = true → skip (a.put n (some t) .tt)) ∧ (x = false → run (a.put n (some t) .ff))
        | _ => False
      | none => False
    | none => False

def elemN (l : List Nat) (t : Option Nat) : Bool :=
  match t with
  | none => false
  | some t => match l with
    | [] => false
    | x :: l => Nat.beq x t || elemN l (some t)

def stepA (P : Program) (T : List TI) (n : Nat) (W : List Nat) (ops : Array Oper) (o : Oper) (a : AA) (M : AH) (K : AA → AH → Prop) (Kp : AV → AH → Prop) : Prop :=
  condT (plainOp o.op) (guardA n ops o a (fun a => effA P T (elemN W o.dst) M (evA a) o.op (fun v M' => K (a.put n o.dst v) M') Kp) (fun a => K (a.put n o.dst (.tup [])) M))

section
variable {P : Program} {T : List TI} {r : Option Nat} {Q : Exit → Act → World → Prop}

theorem yielded_of {ρ : Env} {D : List Deferred} {n : Nat} {a : AA} {act : Act} (h : ActR ρ D n a act) {ops : Array Oper} {j t : Nat} {oj : Oper} (hj : ops[j]? = some oj) (hd : oj.dst = some t) {b : Bool} (hb : (a t).c ρ = .bool b) : yielded ops act.tmps j = some b := by
  have hg := h.get t
  rw [hb] at hg
  have : act.tmps[t]? = some (.bool b) := by
    rw [Array.getD_eq_getD_getElem?] at hg
    cases hh : act.tmps[t]? with
    | none => rw [hh] at hg; simp [undef] at hg
    | some v => rw [hh] at hg; simpa using hg
  simp [yielded, hj, hd, this]

theorem guardA_sound {ρ : Env} {D : List Deferred} {n : Nat} {a : AA} {act : Act} (h : ActR ρ D n a act) {ops : Array Oper} {o : Oper} {run skip : AA → Prop} (hg : guardA n ops o a run skip) :
    ∃ a', ActR ρ D n a' act ∧ ((Region.wanted o (yielded ops act.tmps) = true ∧ run a') ∨ (Region.wanted o (yielded ops act.tmps) = false ∧ skip a')) := by
  have same : ∀ (t : Nat) (x b : Bool) (v : AV), a t = .bo x → x = b → v.c ρ = .bool b → v.ok ρ → ActR ρ D n (a.put n (some t) v) act := by
    intro t x b v ha hx hv hok
    have h1 := h.put (some t) hok
    have : act.put (some t) (v.c ρ) = act := by
      have hgt := h.get t
      rw [ha] at hgt
      simp only [AV.c, hx] at hgt
      rw [hv]
      cases act with
      | mk tmps defers =>
        simp only [Act.put, Act.mk.injEq, and_true]
        apply Array.ext (by simp)
        intro i h1 h2
        by_cases hi : t = i
        · subst hi
          simp only at hgt
          rw [Array.getElem_setIfInBounds_self]
          rw [Array.getD_eq_getD_getElem?, Array.getElem?_eq_getElem h2] at hgt
          exact hgt.symm
        · rw [Array.getElem_setIfInBounds_ne _ hi]
    rw [this] at h1
    exact h1
  unfold guardA at hg
  unfold Region.wanted
  split at hg
  · rename_i hgd
    exact ⟨a, h, .inl ⟨by rw [hgd], hg⟩⟩
  · rename_i j want hgd
    rw [hgd]
    simp only
    split at hg
    · rename_i oj hoj
      split at hg
      · rename_i t hdt
        split at hg
        · rename_i hat
          have hy := yielded_of h hoj hdt (b := true) (by rw [hat]; rfl)
          rw [hy]
          split at hg
          · exact ⟨a, h, .inl ⟨rfl, hg⟩⟩
          · exact ⟨a, h, .inr ⟨rfl, hg⟩⟩
        · rename_i hat
          have hy := yielded_of h hoj hdt (b := false) (by rw [hat]; rfl)
          rw [hy]
          split at hg
          · exact ⟨a, h, .inr ⟨rfl, hg⟩⟩
          · exact ⟨a, h, .inl ⟨rfl, hg⟩⟩
        · rename_i x hat
          have hy := yielded_of h hoj hdt (b := x) (by rw [hat]; rfl)
          rw [hy]
          split at hg
          · cases x with
            | true => exact ⟨_, same t _ true .tt hat rfl rfl trivial, .inl ⟨rfl, hg.1 rfl⟩⟩
            | false => exact ⟨_, same t _ false .ff hat rfl rfl trivial, .inr ⟨rfl, hg.2 rfl⟩⟩
          · cases x with
            | true => exact ⟨_, same t _ true .tt hat rfl rfl trivial, .inr ⟨rfl, hg.1 rfl⟩⟩
            | false => exact ⟨_, same t _ false .ff hat rfl rfl trivial, .inl ⟨rfl, hg.2 rfl⟩⟩
        · exact hg.elim
      · exact hg.elim
    · exact hg.elim

theorem stepA_sound (hT : TabOK P T) {n : Nat} {W : List Nat} {ops : Array Oper} {o : Oper} {a : AA} {M : AH} {K : AA → AH → Prop} {Kp : AV → AH → Prop} {ρ : Env} {D : List Deferred} {w : World} {act : Act} (hs : Sim ρ M w) (ha : ActR ρ D n a act)
    (h : stepA P T n W ops o a M K Kp) {K' : Act → World → Prop}
    (hK : ∀ a' act' M' ρ' w', K a' M' → ActR ρ' D n a' act' → Sim ρ' M' w' → Ext ρ M w ρ' M' w' → K' act' w')
    (hP : ∀ rv M' ρ' w', Kp rv M' → rv.ok ρ' → Sim ρ' M' w' → Ext ρ M w ρ' M' w' → Q (.panic [{ v := rv.c ρ', recovered := false }]) act w') :
    plainOp o.op = true ∧ opW r P ops Q o K' act w := by
  unfold stepA at h
  replace h := condT_sound h
  obtain ⟨hp, h⟩ := h
  refine ⟨hp, ?_⟩
  obtain ⟨a', ha', h⟩ := guardA_sound ha h
  unfold opW
  rcases h with ⟨hw, h⟩ | ⟨hw, h⟩
  · rw [if_pos hw]
    exact effA_sound hT hs ha'.ev h (fun rv M' ρ' w' h1 h2 h3 h4 => hK _ _ M' ρ' w' h1 ((ha'.ext h4.env).put o.dst h2) h3 h4) hP
  · rw [if_neg (by rw [hw]; simp)]
    exact hK _ _ M ρ w h (ha'.put o.dst (v := .tup []) trivial) hs (Ext.refl _ _ _)

/-- In the order of the text. -/
def seqA (P : Program) (T : List TI) (n : Nat) (W : List Nat) (ops : Array Oper) (Kp : AV → AH → Prop) (K : AA → AH → Prop) : List Oper → AA → AH → Prop
  | [], a, M => K a M
  | o :: l, a, M => stepA P T n W ops o a M (fun a M => seqA P T n W ops Kp K l a M) Kp

theorem wpOpsIn_of {i : Nat} {l : List Nat} {ops : Array Oper} {o : Oper} {act : Act} {w : World} (hi : ops[i]? = some o) (hp : plainOp o.op = true) (h : opW r P ops Q o (wpOpsIn (FW r) 0 P ops Q l) act w) : wpOpsIn (FW r) 0 P ops Q (i :: l) act w := by
  rw [wpOpsIn_cons]
  exact wpOpIn_of hi hp h

theorem seqA_sound (hT : TabOK P T) {n : Nat} {W : List Nat} {ops : Array Oper} {K : AA → AH → Prop} {Kp : AV → AH → Prop} {D : List Deferred} {ρ0 : Env} {M0 : AH} {w0 : World} :
    ∀ (l : List Oper) (k : Nat) (a : AA) (M : AH) (ρ : Env) (w : World) (act : Act), ops.toList.drop k = l → Sim ρ M w → Ext ρ0 M0 w0 ρ M w → ActR ρ D n a act → seqA P T n W ops Kp K l a M →
      (∀ a' act' M' ρ' w', K a' M' → ActR ρ' D n a' act' → Sim ρ' M' w' → Ext ρ0 M0 w0 ρ' M' w' → Q .normal act' w') →
      (∀ rv M' ρ' w' act', act'.defers = D → Kp rv M' → rv.ok ρ' → Sim ρ' M' w' → Ext ρ0 M0 w0 ρ' M' w' → Q (.panic [{ v := rv.c ρ', recovered := false }]) act' w') →
      wpOpsIn (FW r) 0 P ops Q (List.range' k l.length) act w
  | [], k, a, M, ρ, w, act, _, hs, hE, ha, h, hK, hP => hK a act M ρ w h ha hs hE
  | o :: l, k, a, M, ρ, w, act, hl, hs, hE, ha, h, hK, hP => by
    have hi : ops[k]? = some o := by
      have := congrArg (fun l => l[0]?) hl
      simpa using this
    have hl' : ops.toList.drop (k + 1) = l := by
      have := congrArg List.tail hl
      simpa using this
    simp only [seqA] at h
    have key := stepA_sound (r := r) (Q := Q) (K' := wpOpsIn (FW r) 0 P ops Q (List.range' (k + 1) l.length)) hT hs ha h
      (fun a' act' M' ρ' w' h1 h2 h3 h4 => seqA_sound hT l (k + 1) a' M' ρ' w' act' hl' h3 (hE.trans h4) h2 h1 hK hP)
      (fun rv M' ρ' w' h1 h2 h3 h4 => hP rv M' ρ' w' act ha.defers h1 h2 h3 (hE.trans h4))
    rw [List.length_cons, List.range'_succ]
    exact wpOpsIn_of hi key.1 key.2
end

end Go.Proofs.Ytaioclggifdnhaa
