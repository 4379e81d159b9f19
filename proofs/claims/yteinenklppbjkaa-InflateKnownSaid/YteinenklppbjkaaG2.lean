/- A region whose order is drawn: quiet operations may be taken first. Operations and regions, on abstract states. A drawn region, on abstract states. A drawn region that only makes things: the same comes of it, in whatever order. Code, loops, calls, on abstract states. Loops, and what may be forgotten, on abstract states. A call's contract on a small heap, used in a large one. A call's contract on a small heap, used in a large one: the proof. A call's contract on a small heap, used in a large one: the join. Other views of one world: a nil slice as an empty one; what a call answers, seen otherwise. -/
import Derived.Test.YteinenklppbjkaaG1
import Derived.OrdersIn
import Derived.Test.YteinenklppbjkaaAbI
import Derived.RangeFuncRecord
set_option linter.unusedVariables false
set_option linter.unusedSimpArgs false
open Go.RowKit
namespace Go.Proofs.Yteinenklppbjkaa

/-- The fence that lets everything by. -/
def FW (r : Option Nat) : Fence := { fn := fun _ => True, depth := none, alive := false, round := r }

section
variable {r : Option Nat} {P : Program} {ops : Array Oper} {Q : Exit → Act → World → Prop} {S : World → Prop} {ds : List Nat}

/-- One operation. -/
def opW (r : Option Nat) (P : Program) (ops : Array Oper) (Q : Exit → Act → World → Prop) (o : Oper) (K : Act → World → Prop) (a : Act) (w : World) : Prop :=
  if Region.wanted o (yielded ops a.tmps) = true then o.uponIn (FW r) 0 P a K Q ((execOp a.eval o).run P w) else K (a.put o.dst undef) w

def plainOp : Op → Bool
  | .defer _ | .select .. => false
  | _ => true

theorem wpOpIn_of {i : Nat} {o : Oper} {K : Act → World → Prop} {a : Act} {w : World} (hi : ops[i]? = some o) (hp : plainOp o.op = true) (h : opW r P ops Q o K a w) : wpOpIn (FW r) 0 P ops Q i K a w := by
  unfold wpOpIn opW at *
  simp only [hi]
  have hd : ∀ c, o.op ≠ .defer c := by intro c e; rw [e] at hp; cases hp
  split
  · rename_i hw
    rw [if_pos hw] at h
    exact ⟨fun _ _ => trivial, by rw [Oper.semAt_eq _ _ _ hd]; exact h⟩
  · rename_i hw
    rw [if_neg hw] at h
    exact ⟨fun _ _ => trivial, h⟩

theorem uponIn_mono {o : Oper} {a : Act} {K K' : Act → World → Prop} (h : ∀ a w, K a w → K' a w) {res : Result Next} (hh : o.uponIn (FW r) 0 P a K Q res) : o.uponIn (FW r) 0 P a K' Q res := by
  cases res with
  | ok x w' =>
    cases x <;> simp only [Oper.uponIn] at hh ⊢ <;>
      first
        | exact h _ _ hh
        | exact ⟨hh.1, CallsIn.mono hh.2 (fun e w'' he => by cases e <;> first | exact h _ _ he | exact he)⟩
        | exact ⟨hh.1, RowsIn.mono hh.2 (fun _ _ he => h _ _ he)⟩
        | exact ⟨hh.1, RoundIn.mono hh.2 (fun e w'' he => by cases e <;> first | exact h _ _ he | exact he)⟩
  | halt x w' => cases x <;> simp only [Oper.uponIn] at hh ⊢ <;> exact hh
theorem opW_mono {o : Oper} {a : Act} {w : World} {K K' : Act → World → Prop} (h : ∀ a w, K a w → K' a w) (hh : opW r P ops Q o K a w) : opW r P ops Q o K' a w := by
  unfold opW at *
  split
  · rename_i hw; rw [if_pos hw] at hh; exact uponIn_mono h hh
  · rename_i hw; rw [if_neg hw] at hh; exact h _ _ hh

/-- In every world that meets S the operation answers v. -/
def YI (P : Program) (ops : Array Oper) (S : World → Prop) (o : Oper) (v : Value) (a : Act) : Prop :=
  (Region.wanted o (yielded ops a.tmps) = true ∧ ∀ w, S w → (execOp a.eval o).run P w = .ok (.value v) w) ∨ (Region.wanted o (yielded ops a.tmps) = false ∧ v = undef)

theorem YI.opW {o : Oper} {v : Value} {a : Act} (hy : YI P ops S o v a) {K : Act → World → Prop} {w : World} (hS : S w) (h : K (a.put o.dst v) w) : opW r P ops Q o K a w := by
  unfold Yteinenklppbjkaa.opW
  rcases hy with ⟨hw, hv⟩ | ⟨hw, rfl⟩
  · rw [if_pos hw, hv w hS]; exact h
  · rw [if_neg (by rw [hw]; simp)]; exact h

theorem YI.same {o : Oper} {v : Value} {a a' : Act} (hy : YI P ops S o v a) (he : execOp a'.eval o = execOp a.eval o) (hw : Region.wanted o (yielded ops a'.tmps) = Region.wanted o (yielded ops a.tmps)) : YI P ops S o v a' := by
  unfold YI at *; rw [he, hw]; exact hy

theorem opW_put {oi oj : Oper} {v : Value} (hap : oi.apart ops oj = true) (hpi : plainOp oi.op = true) (hpj : plainOp oj.op = true)
    (hQ : ∀ c a w, Q (.panic c) (a.put oi.dst v) w → Q (.panic c) a w) {K : Act → World → Prop} {a : Act} {w : World}
    (hy : YI P ops S oi v a) (h : opW r P ops Q oj K (a.put oi.dst v) w) :
    opW r P ops Q oj (fun a' w' => YI P ops S oi v a' ∧ K (a'.put oi.dst v) w') a w := by
  obtain ⟨h1, h2, h3⟩ := Oper.apart_spec hap
  have hsi : ∀ cs b, oi.op ≠ .select cs b := by intro cs b e; rw [e] at hpi; cases hpi
  have hsj : ∀ cs b, oj.op ≠ .select cs b := by intro cs b e; rw [e] at hpj; cases hpj
  have keep : ∀ (a : Act), YI P ops S oi v a → ∀ u, YI P ops S oi v (a.put oj.dst u) := fun a hy u =>
    hy.same (execOp_put oi hsi a oj.dst u h3) (wanted_put oi a oj.dst u h3)
  have keepD : ∀ d, YI P ops S oi v { a with defers := d :: a.defers } := fun d => hy.same rfl rfl
  unfold Yteinenklppbjkaa.opW at *
  rw [wanted_put oj a oi.dst v h1] at h
  split
  · rename_i hw
    rw [if_pos hw, execOp_put oj hsj a oi.dst v h1] at h
    generalize (execOp a.eval oj).run P w = res at *
    cases res with
    | ok x w' =>
      cases x <;> simp only [Oper.uponIn] at h ⊢
      case value u => exact ⟨keep a hy u, by rw [← Act.put_comm a v u h2]; exact h⟩
      case skip => exact ⟨keep a hy _, by rw [← Act.put_comm a v undef h2]; exact h⟩
      case defer d =>
        refine ⟨keep _ (keepD d) _, ?_⟩
        rw [← Act.put_comm _ v undef h2, ← Act.put_defers]
        exact h
      case enter f args =>
        refine ⟨h.1, CallsIn.mono h.2 fun e w'' he => ?_⟩
        cases e with
        | returned u => exact ⟨keep a hy u, by rw [← Act.put_comm a v u h2]; exact he⟩
        | panicked c => exact hQ _ _ _ he
        | outgrown => exact he
      case row row args => exact ⟨h.1, RowsIn.mono h.2 fun u w'' he => ⟨keep a hy u, by rw [← Act.put_comm a v u h2]; exact he⟩⟩
      case round l f tmps assign body =>
        refine ⟨h.1, RoundIn.mono h.2 fun e w'' he => ?_⟩
        cases e with
        | returned u => exact ⟨keep a hy u, by rw [← Act.put_comm a v u h2]; exact he⟩
        | panicked c => exact hQ _ _ _ he
        | outgrown => exact he
    | halt x w' =>
      cases x <;> simp only [Oper.uponIn] at h ⊢
      case panic u => exact hQ _ _ _ h
  · rename_i hw
    rw [if_neg hw] at h
    exact ⟨keep a hy _, by rw [← Act.put_comm a v undef h2]; exact h⟩

/-- Whatever order is picked, S holding behind each operation that changes the world, but those of ds. -/
def anyS (r : Option Nat) (P : Program) (ops : Array Oper) (Q : Exit → Act → World → Prop) (S : World → Prop) (ds : List Nat) : Nat → Array Bool → Act → World → Prop
  | 0, l, a, w => Region.ready .any ops l = [] ∧ Q .normal a w
  | f + 1, l, a, w => (Region.ready .any ops l = [] → Q .normal a w) ∧ ∀ i ∈ Region.ready .any ops l, ∀ o, ops[i]? = some o →
      opW r P ops Q o (fun a' w' => (i ∉ ds → w' = w ∨ S w') ∧ anyS r P ops Q S ds f (l.setIfInBounds i true) a' w') a w

theorem wpAnyIn_of_anyS (hp : ∀ (i : Nat) o, ops[i]? = some o → plainOp o.op = true) : ∀ (f : Nat) (l : Array Bool) (a : Act) (w : World), anyS r P ops Q S ds f l a w → wpAnyIn (FW r) 0 P .any ops Q f l a w
  | 0, _, _, _, h => h
  | f + 1, l, a, w, h => ⟨h.1, fun i hi => by
      obtain ⟨_, o, ho, _⟩ := mem_ready.1 hi
      exact wpOpIn_of ho (hp i o ho) (opW_mono (fun a' w' h' => wpAnyIn_of_anyS hp f _ a' w' h'.2) (h.2 i hi o ho))⟩

theorem anyS_weaken {S' : World → Prop} (hw : ∀ w, S w → S' w) : ∀ (f : Nat) (l : Array Bool) (a : Act) (w : World), anyS r P ops Q S ds f l a w → anyS r P ops Q S' ds f l a w
  | 0, _, _, _, h => h
  | f + 1, l, a, w, h => ⟨h.1, fun i hi o ho => opW_mono (fun a' w' h' => ⟨fun hd => (h'.1 hd).imp id (hw w'), anyS_weaken hw f _ a' w' h'.2⟩) (h.2 i hi o ho)⟩

/-- d waits for i. -/
def waits (ops : Array Oper) (i : Nat) : Nat → Nat → Bool
  | 0, _ => false
  | f + 1, d => match ops[d]? with
    | some o => o.after.any fun e => Region.binds .any e && (e.on == i || waits ops i f e.on)
    | none => false

def Closed (ops : Array Oper) (l : Array Bool) : Prop := ∀ j o, ops[j]? = some o → l.getD j false = true → ∀ e ∈ o.after, Region.binds .any e = true → l.getD e.on false = true
theorem Closed.set {ops : Array Oper} {l : Array Bool} {i : Nat} (h : Closed ops l) (hi : i ∈ Region.ready .any ops l) : Closed ops (l.setIfInBounds i true) := by
  obtain ⟨_, oi, hoi, hall⟩ := mem_ready.1 hi
  intro j oj hj hl e he hb
  by_cases hij : i = j
  · subst hij
    rw [hoi] at hj; injection hj with hj; subst hj
    exact getD_set_true (hall e he hb)
  · rw [getD_set_ne false hij] at hl
    exact getD_set_true (h j oj hj hl e he hb)
theorem Closed.none {ops : Array Oper} {n : Nat} : Closed ops (Array.replicate n false) := by
  intro j o _ hl
  simp only [Array.getD_eq_getD_getElem?, Array.getElem?_replicate] at hl
  split at hl <;> cases hl

/-- d waits for i: no list that lets d come up has i unlisted. -/
theorem waits_not_ready {i : Nat} {l : Array Bool} (hclosed : Closed ops l) :
    ∀ (f d : Nat), waits ops i f d = true → l.getD i true = false → l.getD d false = true → False
  | 0, _, h, _, _ => by cases h
  | f + 1, d, h, hi, hl => by
    unfold waits at h
    cases ho : ops[d]? with
    | none => rw [ho] at h; cases h
    | some o =>
      rw [ho] at h
      obtain ⟨e, he, h1⟩ := Array.any_eq_true'.1 h
      simp only [Bool.and_eq_true, Bool.or_eq_true, beq_iff_eq] at h1
      have hle := hclosed d o ho hl e he h1.1
      rcases h1.2 with h2 | h2
      · rw [h2] at hle
        rcases Nat.lt_or_ge i l.size with h' | h'
        · simp [h'] at hi hle; rw [hi] at hle; cases hle
        · simp [Array.getElem?_eq_none h'] at hle
      · exact waits_not_ready hclosed f e.on h2 hi hle

theorem waits_ready {i : Nat} {l : Array Bool} (hc : Closed ops l) : ∀ (f : Nat) {d : Nat}, waits ops i f d = true → l.getD i true = false → d ∈ Region.ready .any ops l → False
  | 0, _, h, _, _ => by cases h
  | f + 1, d, h, hi, hd => by
    obtain ⟨_, o, ho, hall⟩ := mem_ready.1 hd
    unfold waits at h
    rw [ho] at h
    obtain ⟨e, he, h1⟩ := Array.any_eq_true'.1 h
    simp only [Bool.and_eq_true, Bool.or_eq_true, beq_iff_eq] at h1
    have hle := hall e he h1.1
    rcases h1.2 with h2 | h2
    · rw [h2] at hle
      rcases Nat.lt_or_ge i l.size with h' | h'
      · simp [h'] at hi hle; rw [hi] at hle; cases hle
      · simp [Array.getElem?_eq_none h'] at hle
    · exact waits_not_ready hc f e.on h2 hi hle

theorem anyS_take {i : Nat} {oi : Oper} {v : Value} (hi : ops[i]? = some oi) (hp : ∀ (i : Nat) o, ops[i]? = some o → plainOp o.op = true)
    (hQ : ∀ c a w, Q (.panic c) (a.put oi.dst v) w → Q (.panic c) a w) :
    ∀ (f : Nat) (l : Array Bool) (a : Act) (w : World),
      (∀ j oj, ops[j]? = some oj → j ≠ i → l.getD j true = false → (∀ e ∈ oj.after, Region.binds .any e = true → e.on ≠ i) → oi.apart ops oj = true) →
      Closed ops l → (∀ d ∈ ds, l.getD d true = false → waits ops i ops.size d = true) →
      i ∈ Region.ready .any ops l → YI P ops S oi v a → S w →
      anyS r P ops Q S ds f (l.setIfInBounds i true) (a.put oi.dst v) w → anyS r P ops Q S ds (f + 1) l a w := by
  intro f
  induction f with
  | zero =>
    intro l a w _ _ _ hr hy hS H
    refine ⟨fun h => (by rw [h] at hr; cases hr), fun j hj o ho => ?_⟩
    by_cases hji : j = i
    · subst hji
      rw [hi] at ho; injection ho with ho; subst ho
      exact hy.opW hS ⟨fun _ => .inl rfl, H⟩
    · have := ready_mono hj hji
      rw [H.1] at this
      cases this
  | succ f ih =>
    intro l a w hfree hc hd hr hy hS H
    refine ⟨fun h => (by rw [h] at hr; cases hr), fun j hj oj hoj => ?_⟩
    by_cases hji : j = i
    · subst hji
      rw [hi] at hoj; injection hoj with hoj; subst hoj
      exact hy.opW hS ⟨fun _ => .inl rfl, H⟩
    · have h1 := H.2 j (ready_mono hj hji) oj hoj
      obtain ⟨hjun, oj', hoj', hall⟩ := mem_ready.1 hj
      rw [hoj] at hoj'; injection hoj' with hoj'; subst hoj'
      have hiun := (mem_ready.1 hr).1
      have hnot : ∀ e ∈ oj.after, Region.binds .any e = true → e.on ≠ i := fun e he hb heq => by
        have h1 := hall e he hb
        rw [heq] at h1
        rcases Nat.lt_or_ge i l.size with h' | h'
        · simp [h'] at hiun h1; rw [hiun] at h1; cases h1
        · simp [Array.getElem?_eq_none h'] at h1
      have hjd : j ∉ ds := fun hm => waits_ready hc ops.size (hd j hm hjun) hiun hj
      have h2 := opW_put (hfree j oj hoj hji hjun hnot) (hp i oi hi) (hp j oj hoj) hQ hy h1
      refine opW_mono (fun a' w' h3 => ⟨h3.2.1, ih (l.setIfInBounds j true) a' w' ?_ (hc.set hj) ?_ (ready_mono hr (Ne.symm hji)) h3.1 ((h3.2.1 hjd).elim (fun e => e ▸ hS) id) ?_⟩) h2
      · intro k ok hk hki hun hno
        refine hfree k ok hk hki ?_ hno
        by_cases hjk : j = k
        · subst hjk; exact hjun
        · rw [getD_set_ne true hjk] at hun; exact hun
      · intro d hm hun
        refine hd d hm ?_
        by_cases hjk : j = d
        · subst hjk; exact hjun
        · rw [getD_set_ne true hjk] at hun; exact hun
      · rw [Array.setIfInBounds_comm _ _ hji]
        exact h3.2.2
end

end Go.Proofs.Yteinenklppbjkaa

set_option linter.unusedVariables false
set_option linter.unusedSimpArgs false
open Go.RowKit
namespace Go.Proofs.Yteinenklppbjkaa

/-- The temporaries. -/
abbrev AA := Nat → AV
def AA.put (n : Nat) (a : AA) (d : Option Nat) (v : AV) : AA :=
  match d with
  | none => a
  | some t => fun k => match Nat.beq k t && Nat.blt t n with
    | true => v
    | false => a k
def evA (a : AA) : Operand → AV
  | .tmp t => a t
  | .const v => ofC v
  | .global g => .raw (.pointer (some ⟨g, 0, none⟩))
  | .func f => .fn (.func f) [] []

structure ActR (ρ : Env) (D : List Deferred) (n : Nat) (a : AA) (act : Act) : Prop where
  defers : act.defers = D
  size : act.tmps.size = n
  ok : ∀ t, (a t).ok ρ
  get : ∀ t, act.tmps.getD t undef = (a t).c ρ

theorem ActR.ev {ρ : Env} {D : List Deferred} {n : Nat} {a : AA} {act : Act} (h : ActR ρ D n a act) : EvR ρ (evA a) act.eval := by
  intro x
  cases x with
  | tmp t => exact ⟨h.get t, h.ok t⟩
  | const v => exact ⟨(ofC_c ρ v).symm, ofC_ok ρ v⟩
  | global g => exact ⟨rfl, trivial⟩
  | func f => exact ⟨rfl, ⟨trivial, trivial⟩⟩

theorem ActR.ext {ρ ρ' : Env} {D : List Deferred} {n : Nat} {a : AA} {act : Act} (h : ActR ρ D n a act) (he : ∀ i g l, ρ i g = some l → ρ' i g = some l) : ActR ρ' D n a act :=
  ⟨h.defers, h.size, fun t => AV.ok_ext he _ (h.ok t), fun t => by rw [AV.c_ext he _ (h.ok t)]; exact h.get t⟩

theorem ActR.put {ρ : Env} {D : List Deferred} {n : Nat} {a : AA} {act : Act} (h : ActR ρ D n a act) (d : Option Nat) {v : AV} (hv : v.ok ρ) : ActR ρ D n (a.put n d v) (act.put d (v.c ρ)) := by
  cases d with
  | none => exact h
  | some t =>
    refine ⟨h.defers, by simp [Act.put, h.size], fun k => ?_, fun k => ?_⟩
    · simp only [AA.put]; split
      · exact hv
      · exact h.ok k
    · simp only [AA.put, Act.put]
      split
      · rename_i hb
        simp only [Bool.and_eq_true] at hb
        have e1 : k = t := Nat.eq_of_beq_eq_true hb.1
        have e2 : t < n := by simpa using hb.2
        subst e1
        simp [Array.getD_eq_getD_getElem?, h.size, e2]
      · rename_i hb
        have hg := h.get k
        by_cases hk : k = t
        · subst hk
          have : ¬ k < n := by
            intro hlt
            have e1 : Nat.beq k k = true := Nat.beq_refl k
            have e2 : Nat.blt k n = true := by simpa using hlt
            rw [e1, e2] at hb; cases hb
          rw [← hg]
          simp [Array.getD_eq_getD_getElem?, h.size, this]
        · rw [← hg]
          simp [Array.getD_eq_getD_getElem?, Array.getElem?_setIfInBounds_ne (Ne.symm hk)]

def goodF (P : Program) (g : Nat) : Bool :=
  match P.funcs[g]? with
  | some fn => fn.body.isSome && !(fn.name == "runtime.NumGoroutine")
  | none => false
theorem goodF_run {P : Program} {g : Nat} (h : goodF P g = true) (args : Array Value) (w : World) : (callFunc g args).run P w = .ok (.enter g args) w := by
  unfold goodF at h
  split at h
  · rename_i fn hfn
    simp only [Bool.and_eq_true, Bool.not_eq_true'] at h
    have hn : fn.name ≠ "runtime.NumGoroutine" := by have := h.2; simpa using this
    have hb : fn.body ≠ none := by intro e; rw [e] at h; exact absurd h.1 (by simp)
    simp [callFunc, hfn, hn, hb]
  · cases h

/-- How a call ends. -/
def EndR (ρ : Env) (M : AH) (w : World) (K : AV → AH → Prop) (Kp : AV → AH → Prop) (e : Ending) (w' : World) : Prop :=
  ∃ ρ' M', Sim ρ' M' w' ∧ Ext ρ M w ρ' M' w' ∧ match e with
    | .returned v => ∃ r, v = r.c ρ' ∧ r.ok ρ' ∧ K r M'
    | .panicked ch => ∃ r, ch = [{ v := r.c ρ', recovered := false }] ∧ r.ok ρ' ∧ Kp r M'
    | .outgrown => False

/-- A call of a Go function in an abstract heap. -/
@[irreducible] def CallA (P : Program) (g : Nat) (args : List AV) (M : AH) (K : AV → AH → Prop) (Kp : AV → AH → Prop) : Prop :=
  goodF P g = true ∧ ∀ ρ w, Sim ρ M w → AV.okl ρ args → Calls P g (AV.cl ρ args).toArray w (EndR ρ M w K Kp)

/-- A call of a loop's yield: one round. -/
@[irreducible] def YieldA (P : Program) (l : Nat) (args : List AV) (M : AH) (K : AV → AH → Prop) (Kp : AV → AH → Prop) : Prop :=
  ∀ ρ w, Sim ρ M w → AV.okl ρ args → ∃ f tmps as bd, (Instr.yield l (AV.cl ρ args).toArray).run P w = .ok (.round l f tmps as bd) w ∧ ∀ r, RoundIn (FW r) 0 P l f tmps as bd w (EndR ρ M w K Kp)

def effA (P : Program) (T : List TI) (wr : Bool) (M : AH) (e : Operand → AV) (o : Op) (K : AV → AH → Prop) (Kp : AV → AH → Prop) : Prop :=
  match o with
  | .store t a v => storeA T M t (e a) (e v) fun M' => K (.tup []) M'
  | .load t a => loadA T M t (e a) fun v => K v M
  | .alloc t => allocA T M t K
  | .box t x => boxA M (e x) K
  | .buildSlice t len parts => buildSliceA T M t len (parts.toList.map (·.1)) (parts.toList.map fun x => e x.2) K
  | .makeSlice t l c => makeSliceA T M t (e l) (e c) K
  | .call ⟨.builtin .append, args, tys⟩ => match args.toList, tys.toList with
    | [d, x], [tS, tX] => appendA T M tS tX (e d) (e x) K
    | _, _ => False
  | .call ⟨.builtin .copy, args, tys⟩ => match args.toList, tys.toList with
    | [d, x], [tD, tS] => copyA T M tD tS (e d) (e x) K
    | _, _ => False
  | .call ⟨.builtin .len, args, tys⟩ => match args.toList, tys.toList with
    | [x], [t] => match e x with
      | .mp i g => lenMapA T M t (.mp i g) fun v => K v M
      | _ => pureA T wr M e (.call ⟨.builtin .len, args, tys⟩) fun v => K v M
    | _, _ => False
  | .makeMap t none => makeMapA T M t K
  | .lookup t x ix ok => lookA T M t (e x) (e ix) ok fun v => K v M
  | .mapUpdate t m k x => updA T M t (e m) (e k) (e x) fun M' => K (.tup []) M'
  | .insert t m k x => updA T M t (e m) (e k) (e x) fun M' => K (.tup []) M'
  | .call ⟨.value f, args, _⟩ => match e f with
    | .fn (.func g) first cap => CallA P g (first ++ args.toList.map e ++ cap) M K Kp
    | .fn (.yield l) [] [] => YieldA P l (args.toList.map e) M K Kp
    | _ => False
  | .call ⟨.invoke recv name, args, _⟩ => match e recv with
    | .ifc t v => MethA P T M t name v fun g r => CallA P g (r :: args.toList.map e) M K Kp
    | _ => False
  | .panic x => match e x with
    | .ifc t v => Kp (.ifc t v) M
    | _ => False
  | .convert src dst x => match e x with
    | .ns => strOfA T M src dst .ns fun v => K v M
    | .sl i g off n c => match Nat.beq src dst with
      | true => sameSlA T M src dst i g off n c K
      | false => strOfA T M src dst (.sl i g off n c) fun v => K v M
    | .str s => match isBytesT T src dst with
      | true => bytesA T M src dst s K
      | false => pureA T wr M e (.convert src dst x) fun v => K v M
    | _ => pureA T wr M e (.convert src dst x) fun v => K v M
  | o => pureA T wr M e o fun v => K v M

theorem calls_in {P : Program} {f : FuncId} {args : Array Value} {w : World} {R : Ending → World → Prop} (r : Option Nat) (n : Nat) (h : Calls P f args w R) : CallsIn (FW r) n P f args w R :=
  ⟨trivial, fun cs _ => let ⟨e, w', fr, hr, s, x⟩ := h cs; ⟨e, w', fr, hr, comesIn_wide.2 s, x⟩⟩

section
variable {P : Program} {T : List TI} {r : Option Nat} {Q : Exit → Act → World → Prop}

theorem cl_map {ρ : Env} {e : Operand → AV} {v : Operand → Value} (he : EvR ρ e v) (l : List Operand) : l.map v = AV.cl ρ (l.map e) ∧ AV.okl ρ (l.map e) := by
  constructor
  · rw [AV.cl_eq, List.map_map]
    exact List.map_congr_left fun z _ => (he z).1
  · rw [AV.okl_iff]
    intro z hz
    obtain ⟨y, _, rfl⟩ := List.mem_map.1 hz
    exact (he y).2

theorem okl_append {ρ : Env} {l l' : List AV} (h : AV.okl ρ l) (h' : AV.okl ρ l') : AV.okl ρ (l ++ l') := by
  rw [AV.okl_iff] at *
  intro v hv
  rcases List.mem_append.1 hv with hv | hv
  · exact h v hv
  · exact h' v hv
theorem cl_append (ρ : Env) (l l' : List AV) : AV.cl ρ (l ++ l') = AV.cl ρ l ++ AV.cl ρ l' := by simp [AV.cl_eq]

set_option maxHeartbeats 1000000 in
theorem effA_sound (hT : TabOK P T) {wr : Bool} {M : AH} {e : Operand → AV} {o : Oper} {K Kp : AV → AH → Prop} {ρ : Env} {w : World} {act : Act} (hs : Sim ρ M w) (he : EvR ρ e act.eval)
    (h : effA P T wr M e o.op K Kp) {K' : Act → World → Prop}
    (hK : ∀ rv M' ρ' w', K rv M' → rv.ok ρ' → Sim ρ' M' w' → Ext ρ M w ρ' M' w' → K' (act.put o.dst (rv.c ρ')) w')
    (hP : ∀ rv M' ρ' w', Kp rv M' → rv.ok ρ' → Sim ρ' M' w' → Ext ρ M w ρ' M' w' → Q (.panic [{ v := rv.c ρ', recovered := false }]) act w') :
    o.uponIn (FW r) 0 P act K' Q ((execOp act.eval o).run P w) := by
  obtain ⟨dst, op, ty, pos, after, guard⟩ := o
  simp only at h hK
  have val : ∀ {s : Sem Value} {v M' ρ' w'}, s.run P w = .ok (v.c ρ') w' → K v M' → v.ok ρ' → Sim ρ' M' w' → Ext ρ M w ρ' M' w' →
      Oper.uponIn (FW r) 0 P { dst, op, type := ty, pos, after, guard } act K' Q ((do pure (.value (← s)) : Sem Next).run P w) := by
    intro s v M' ρ' w' h1 h2 h3 h4 h5
    rw [show (do pure (.value (← s)) : Sem Next).run P w = .ok (.value (v.c ρ')) w' by simp [h1]]
    exact hK v M' ρ' w' h2 h3 h4 h5
  unfold effA at h
  split at h
  · rename_i t a v
    obtain ⟨M', w', h1, h2, h3, h4⟩ := storeA_sound (P := P) hT hs (he v).2 h
    rw [← (he a).1, ← (he v).1] at h1
    have : (execOp act.eval { dst, op := .store t a v, type := ty, pos, after, guard }).run P w = .ok .skip w' := by simp [execOp, h1]
    rw [this]
    exact hK (.tup []) M' ρ w' h2 trivial h3 h4
  · rename_i t a
    obtain ⟨v, h1, h2, h3⟩ := loadA_sound (P := P) hT hs.known (hs.id _) h
    have h4 := h3 w (hs.id _)
    rw [← (he a).1] at h4
    exact val h4 h1 h2 hs (Ext.refl _ _ _)
  · rename_i t
    obtain ⟨v, M', ρ', w', h1, h2, h3, h4, h5⟩ := allocA_sound (P := P) hT hs h
    exact val h1 h2 h3 h4 h5
  · rename_i t x
    obtain ⟨v, M', ρ', w', h1, h2, h3, h4, h5⟩ := boxA_sound (P := P) (t := t) hs (he x).2 h
    rw [← (he x).1] at h1
    exact val h1 h2 h3 h4 h5
  · rename_i t len parts
    obtain ⟨v, M', ρ', w', h1, h2, h3, h4, h5⟩ := buildSliceA_sound (P := P) hT hs (by rw [AV.okl_iff]; intro z hz; obtain ⟨y, _, rfl⟩ := List.mem_map.1 hz; exact (he y.2).2) h
    have e1 : (parts.map fun (i, x) => (i, act.eval x)) = ((parts.toList.map (·.1)).zip ((parts.toList.map fun x => e x.2).map (AV.c ρ))).toArray := by
      apply Array.toList_inj.1
      rw [Array.toList_map, List.toList_toArray, List.map_map]
      have : ∀ l : List (Nat × Operand), l.map (fun (i, x) => (i, act.eval x)) = (l.map (·.1)).zip (l.map ((AV.c ρ) ∘ fun x => e x.2)) := by
        intro l
        induction l with
        | nil => rfl
        | cons p l ih => simp [ih, (he p.2).1]
      exact this _
    rw [← e1] at h1
    exact val h1 h2 h3 h4 h5
  · rename_i t l c
    obtain ⟨v, M', ρ', w', h1, h2, h3, h4, h5⟩ := makeSliceA_sound (P := P) hT hs h
    rw [← (he l).1, ← (he c).1] at h1
    exact val h1 h2 h3 h4 h5
  · rename_i args tys
    split at h
    · rename_i d x tS tX hax htx
      obtain rfl : args = #[d, x] := by apply Array.toList_inj.1; simpa using hax
      obtain rfl : tys = #[tS, tX] := by apply Array.toList_inj.1; simpa using htx
      obtain ⟨v, M', ρ', w', h1, h2, h3, h4, h5⟩ := appendA_sound (P := P) (ty := ty) hT hs (he d).2 h
      rw [← (he d).1, ← (he x).1] at h1
      have := val h1 h2 h3 h4 h5
      simpa [execOp, resolve, invoke, builtin] using this
    · exact h.elim
  · rename_i args tys
    split at h
    · rename_i d x tD tS hax htx
      obtain rfl : args = #[d, x] := by apply Array.toList_inj.1; simpa using hax
      obtain rfl : tys = #[tD, tS] := by apply Array.toList_inj.1; simpa using htx
      obtain ⟨v, M', w', h1, h2, h3, h4, h5⟩ := copyA_sound (P := P) (ty := ty) hT hs h
      rw [← (he d).1, ← (he x).1] at h1
      have := val h1 h2 h3 h4 h5
      simpa [execOp, resolve, invoke, builtin] using this
    · exact h.elim
  · rename_i args tys
    split at h
    · rename_i x t hax htx
      obtain rfl : args = #[x] := by apply Array.toList_inj.1; simpa using hax
      obtain rfl : tys = #[t] := by apply Array.toList_inj.1; simpa using htx
      split at h
      · rename_i i g hx
        obtain ⟨v, h1, h2, _, h3⟩ := lenMapA_sound (P := P) (ty := ty) hT hs.known h
        have h4 := h3 w (hs.id _)
        rw [← hx, ← (he x).1] at h4
        have := val h4 h1 h2 hs (Ext.refl _ _ _)
        simpa [execOp, resolve, invoke, builtin] using this
      · obtain ⟨v, h1, h2, h3⟩ := pureA_sound (P := P) (o := { dst, op := .call ⟨.builtin .len, #[x], #[t]⟩, type := ty, pos, after, guard }) hT hs.known he h
        rw [h3 w]
        exact hK v M ρ w h1 h2 hs (Ext.refl _ _ _)
    · exact h.elim
  · rename_i t
    obtain ⟨v, M', ρ', w', h1, h2, h3, h4, h5⟩ := makeMapA_sound (P := P) hT hs h
    exact val h1 h2 h3 h4 h5
  · rename_i t x ix ok
    obtain ⟨v, h1, h2, _, h3⟩ := lookA_sound (P := P) hT hs.known (hs.id _) h
    have h4 := h3 w (hs.id _)
    rw [← (he x).1, ← (he ix).1] at h4
    exact val h4 h1 h2 hs (Ext.refl _ _ _)
  · rename_i t m k x
    obtain ⟨M', w', h1, h2, h3, h4⟩ := updA_sound (P := P) hT hs (he x).2 h
    rw [← (he m).1, ← (he k).1, ← (he x).1] at h1
    have : (execOp act.eval { dst, op := .mapUpdate t m k x, type := ty, pos, after, guard }).run P w = .ok .skip w' := by simp [execOp, h1]
    rw [this]
    exact hK (.tup []) M' ρ w' h2 trivial h3 h4
  · rename_i t m k x
    obtain ⟨M', w', h1, h2, h3, h4⟩ := updA_sound (P := P) hT hs (he x).2 h
    rw [← (he m).1, ← (he k).1, ← (he x).1] at h1
    have : (execOp act.eval { dst, op := .insert t m k x, type := ty, pos, after, guard }).run P w = .ok .skip w' := by simp [execOp, h1]
    rw [this]
    exact hK (.tup []) M' ρ w' h2 trivial h3 h4
  · rename_i f args tys
    split at h
    · rename_i g first cap hf
      unfold CallA at h
      obtain ⟨hg, h⟩ := h
      have hfe := (he f).1
      have hfo := (he f).2
      rw [hf] at hfe hfo
      simp only [AV.ok] at hfo
      obtain ⟨e1, o1⟩ := cl_map he args.toList
      have hcall := h ρ w hs (okl_append (okl_append hfo.1 o1) hfo.2)
      rw [cl_append, cl_append, ← e1] at hcall
      have hrun : (execOp act.eval { dst, op := .call ⟨.value f, args, tys⟩, type := ty, pos, after, guard }).run P w = .ok (.enter g (AV.cl ρ first ++ args.toList.map act.eval ++ AV.cl ρ cap).toArray) w := by
        have e2 : ((AV.cl ρ first).toArray ++ args.map act.eval ++ (AV.cl ρ cap).toArray) = (AV.cl ρ first ++ args.toList.map act.eval ++ AV.cl ρ cap).toArray := by
          apply Array.toList_inj.1; simp
        simp only [execOp, resolve, Sem.run_bind, hfe, AV.c, Deferred.ofValue, Sem.run_pure, Result.andThen_ok, invoke]
        rw [e2]
        exact goodF_run hg _ w
      rw [hrun]
      refine ⟨(fun h => by cases h), CallsIn.mono (calls_in r _ hcall) fun en w' hen => ?_⟩
      obtain ⟨ρ', M', h1, h2, h3⟩ := hen
      cases en with
      | returned v => obtain ⟨rv, rfl, h4, h5⟩ := h3; exact hK rv M' ρ' w' h5 h4 h1 h2
      | panicked ch => obtain ⟨rv, rfl, h4, h5⟩ := h3; exact hP rv M' ρ' w' h5 h4 h1 h2
      | outgrown => exact h3.elim
    · rename_i l hf
      unfold YieldA at h
      have hfe := (he f).1
      rw [hf] at hfe
      obtain ⟨e1, o1⟩ := cl_map he args.toList
      obtain ⟨g, tmps, as, bd, hy, hround⟩ := h ρ w hs o1
      rw [← e1] at hy
      have hrun : (execOp act.eval { dst, op := .call ⟨.value f, args, tys⟩, type := ty, pos, after, guard }).run P w = .ok (.round l g tmps as bd) w := by
        have e2 : (#[] ++ args.map act.eval : Array Value) = (args.toList.map act.eval).toArray := by
          apply Array.toList_inj.1; simp
        simp only [execOp, resolve, Sem.run_bind, hfe, AV.c, AV.cl, Deferred.ofValue, Sem.run_pure, Result.andThen_ok, invoke]
        rw [e2]; exact hy
      rw [hrun]
      refine ⟨(fun h => by cases h), RoundIn.mono (hround r) fun en w' hen => ?_⟩
      obtain ⟨ρ', M', h1, h2, h3⟩ := hen
      cases en with
      | returned v => obtain ⟨rv, rfl, h4, h5⟩ := h3; exact hK rv M' ρ' w' h5 h4 h1 h2
      | panicked ch => obtain ⟨rv, rfl, h4, h5⟩ := h3; exact hP rv M' ρ' w' h5 h4 h1 h2
      | outgrown => exact h3.elim
    · exact h.elim
  · rename_i recv name args tys
    split at h
    · rename_i t v hx
      have hxe := (he recv).1
      have hxo : v.ok ρ := by have := (he recv).2; rw [hx] at this; exact this
      rw [hx] at hxe
      simp only [AV.c] at hxe
      obtain ⟨g, rv0, h, hro, hcm⟩ := MethA_sound hT hs hxo h
      unfold CallA at h
      obtain ⟨hg, h⟩ := h
      obtain ⟨e1, o1⟩ := cl_map he args.toList
      have hcall := h ρ w hs ⟨hro, o1⟩
      simp only [AV.cl, ← e1] at hcall
      have hrun : (execOp act.eval { dst, op := .call ⟨.invoke recv name, args, tys⟩, type := ty, pos, after, guard }).run P w = .ok (.enter g (rv0.c ρ :: args.toList.map act.eval).toArray) w := by
        have e2 : ((#[act.eval recv] ++ args.map act.eval).extract 1 (#[act.eval recv] ++ args.map act.eval).size) = args.map act.eval := by
          apply Array.toList_inj.1; simp
          exact List.take_of_length_le (by simp)
        have e3 : (#[rv0.c ρ] ++ args.map act.eval) = (rv0.c ρ :: args.toList.map act.eval).toArray := by
          apply Array.toList_inj.1; simp
        have e4 : (#[act.eval recv] ++ args.map act.eval)[0]? = some (act.eval recv) := by rw [← Array.getElem?_toList]; simp
        have e5 : (execOp act.eval { dst, op := .call ⟨.invoke recv name, args, tys⟩, type := ty, pos, after, guard }).run P w = (invoke (.fn (.method name) #[]) (#[act.eval recv] ++ args.map act.eval)).run P w := rfl
        rw [e5]
        simp only [invoke]
        cases h0 : (#[act.eval recv] ++ args.map act.eval)[0]? with
        | none => rw [e4] at h0; cases h0
        | some recv0 =>
        rw [e4] at h0
        cases h0
        simp only [e2]
        rw [hxe, hcm, e3]
        exact goodF_run hg _ w
      rw [hrun]
      refine ⟨(fun h => by cases h), CallsIn.mono (calls_in r _ hcall) fun en w' hen => ?_⟩
      obtain ⟨ρ', M', h1, h2, h3⟩ := hen
      cases en with
      | returned v => obtain ⟨rv, rfl, h4, h5⟩ := h3; exact hK rv M' ρ' w' h5 h4 h1 h2
      | panicked ch => obtain ⟨rv, rfl, h4, h5⟩ := h3; exact hP rv M' ρ' w' h5 h4 h1 h2
      | outgrown => exact h3.elim
    · exact h.elim
  · rename_i x
    split at h
    · rename_i t v hx
      have hxe := (he x).1
      rw [hx] at hxe
      have : (execOp act.eval { dst, op := .panic x, type := ty, pos, after, guard }).run P w = .halt (.panic ((AV.ifc t v).c ρ)) w := by
        simp [execOp, hxe, AV.c, Instr.panic]
      rw [this]
      exact hP (.ifc t v) M ρ w h (by rw [← hx]; exact (he x).2) hs (Ext.refl _ _ _)
    · exact h.elim
  · rename_i src dst' x
    split at h
    · rename_i hx
      obtain ⟨v, h1, h2, _, h3⟩ := strOfA_sound (P := P) hT hs.known h
      have h4 := h3 w (hs.id _)
      rw [← hx, ← (he x).1] at h4
      exact val h4 h1 h2 hs (Ext.refl _ _ _)
    · rename_i i g off n c hx
      split at h
      · obtain ⟨v, M', ρ', w', h1, h2, h3, h4, h5⟩ := sameSlA_sound (P := P) hT hs h
        rw [← hx, ← (he x).1] at h1
        exact val h1 h2 h3 h4 h5
      · obtain ⟨v, h1, h2, _, h3⟩ := strOfA_sound (P := P) hT hs.known h
        have h4 := h3 w (hs.id _)
        rw [← hx, ← (he x).1] at h4
        exact val h4 h1 h2 hs (Ext.refl _ _ _)
    · rename_i s hx
      split at h
      · obtain ⟨v, M', ρ', w', h1, h2, h3, h4, h5⟩ := bytesA_sound (P := P) hT hs h
        have hxe := (he x).1
        rw [hx] at hxe
        simp only [AV.c] at hxe
        rw [← hxe] at h1
        exact val h1 h2 h3 h4 h5
      · obtain ⟨v, h1, h2, h3⟩ := pureA_sound (P := P) (o := { dst, op := .convert src dst' x, type := ty, pos, after, guard }) hT hs.known he h
        rw [h3 w]
        exact hK v M ρ w h1 h2 hs (Ext.refl _ _ _)
    · obtain ⟨v, h1, h2, h3⟩ := pureA_sound (P := P) (o := { dst, op := .convert src dst' x, type := ty, pos, after, guard }) hT hs.known he h
      rw [h3 w]
      exact hK v M ρ w h1 h2 hs (Ext.refl _ _ _)
  · obtain ⟨v, h1, h2, h3⟩ := pureA_sound (P := P) (o := { dst, op, type := ty, pos, after, guard }) hT hs.known he h
    rw [h3 w]
    exact hK v M ρ w h1 h2 hs (Ext.refl _ _ _)
end

/-! Regions. -/
def ofB (b : Bool) : AV := match b with | true => .tt | false => .ff

/-- An operation with its guard: 'run' where it is carried out, 'skip' where not; the guard's outcome is written into its temporary. -/
def guardA (n : Nat) (ops : Array Oper) (o : Oper) (a : AA) (run skip : AA → Prop) : Prop :=
  match o.guard with
  | none => run a
  | some (j, want) => match ops[j]? with
    | some oj => match oj.dst with
      | some t => match a t with
        | .tt => match want with
          | true => run a
          | false => skip a
        | .ff => match want with
          | true => skip a
          | false => run a
        | .bo x => match want with
          | true => (x = true → run (a.put n (some t) .tt)) ∧ (x = false → skip (a.put n (some t) .ff))
          | false => (x = true → skip (a.put n (some t) .tt)) ∧ (x = false → run (a.put n (some t) .ff))
        | .tup [] => skip a
        | _ => False
      | none => False
    | none => False

def elemN (l : List Nat) (t : Option Nat) : Bool :=
  match t with
  | none => false
  | some t => match l with
    | [] => false
    | x :: l => Nat.beq x t || elemN l (some t)

def stepA (P : Program) (T : List TI) (n : Nat) (W : List Nat) (ops : Array Oper) (o : Oper) (a : AA) (M : AH) (K : AA → AH → Prop) (Kp : AV → AH → Prop) : Prop :=
  condT (plainOp o.op) (guardA n ops o a (fun a => effA P T (elemN W o.dst) M (evA a) o.op (fun v M' => K (a.put n o.dst v) M') Kp) (fun a => K (a.put n o.dst (.tup [])) M))

section
variable {P : Program} {T : List TI} {r : Option Nat} {Q : Exit → Act → World → Prop}

theorem yielded_of {ρ : Env} {D : List Deferred} {n : Nat} {a : AA} {act : Act} (h : ActR ρ D n a act) {ops : Array Oper} {j t : Nat} {oj : Oper} (hj : ops[j]? = some oj) (hd : oj.dst = some t) {b : Bool} (hb : (a t).c ρ = .bool b) : yielded ops act.tmps j = some b := by
  have hg := h.get t
  rw [hb] at hg
  have : act.tmps[t]? = some (.bool b) := by
    rw [Array.getD_eq_getD_getElem?] at hg
    cases hh : act.tmps[t]? with
    | none => rw [hh] at hg; simp [undef] at hg
    | some v => rw [hh] at hg; simpa using hg
  simp [yielded, hj, hd, this]

theorem guardA_sound {ρ : Env} {D : List Deferred} {n : Nat} {a : AA} {act : Act} (h : ActR ρ D n a act) {ops : Array Oper} {o : Oper} {run skip : AA → Prop} (hg : guardA n ops o a run skip) :
    ∃ a', ActR ρ D n a' act ∧ ((Region.wanted o (yielded ops act.tmps) = true ∧ run a') ∨ (Region.wanted o (yielded ops act.tmps) = false ∧ skip a')) := by
  have same : ∀ (t : Nat) (x b : Bool) (v : AV), a t = .bo x → x = b → v.c ρ = .bool b → v.ok ρ → ActR ρ D n (a.put n (some t) v) act := by
    intro t x b v ha hx hv hok
    have h1 := h.put (some t) hok
    have : act.put (some t) (v.c ρ) = act := by
      have hgt := h.get t
      rw [ha] at hgt
      simp only [AV.c, hx] at hgt
      rw [hv]
      cases act with
      | mk tmps defers =>
        simp only [Act.put, Act.mk.injEq, and_true]
        apply Array.ext (by simp)
        intro i h1 h2
        by_cases hi : t = i
        · subst hi
          simp only at hgt
          rw [Array.getElem_setIfInBounds_self]
          rw [Array.getD_eq_getD_getElem?, Array.getElem?_eq_getElem h2] at hgt
          exact hgt.symm
        · rw [Array.getElem_setIfInBounds_ne _ hi]
    rw [this] at h1
    exact h1
  unfold guardA at hg
  unfold Region.wanted
  split at hg
  · rename_i hgd
    exact ⟨a, h, .inl ⟨by rw [hgd], hg⟩⟩
  · rename_i j want hgd
    rw [hgd]
    simp only
    split at hg
    · rename_i oj hoj
      split at hg
      · rename_i t hdt
        split at hg
        · rename_i hat
          have hy := yielded_of h hoj hdt (b := true) (by rw [hat]; rfl)
          rw [hy]
          split at hg
          · exact ⟨a, h, .inl ⟨rfl, hg⟩⟩
          · exact ⟨a, h, .inr ⟨rfl, hg⟩⟩
        · rename_i hat
          have hy := yielded_of h hoj hdt (b := false) (by rw [hat]; rfl)
          rw [hy]
          split at hg
          · exact ⟨a, h, .inr ⟨rfl, hg⟩⟩
          · exact ⟨a, h, .inl ⟨rfl, hg⟩⟩
        · rename_i x hat
          have hy := yielded_of h hoj hdt (b := x) (by rw [hat]; rfl)
          rw [hy]
          split at hg
          · cases x with
            | true => exact ⟨_, same t _ true .tt hat rfl rfl trivial, .inl ⟨rfl, hg.1 rfl⟩⟩
            | false => exact ⟨_, same t _ false .ff hat rfl rfl trivial, .inr ⟨rfl, hg.2 rfl⟩⟩
          · cases x with
            | true => exact ⟨_, same t _ true .tt hat rfl rfl trivial, .inr ⟨rfl, hg.1 rfl⟩⟩
            | false => exact ⟨_, same t _ false .ff hat rfl rfl trivial, .inl ⟨rfl, hg.2 rfl⟩⟩
        · rename_i hat
          refine ⟨a, h, .inr ⟨?_, hg⟩⟩
          have hgt := h.get t
          rw [hat] at hgt
          have hy : yielded ops act.tmps j = none := by
            simp only [yielded, hoj, Option.bind_some, hdt]
            cases hx : act.tmps[t]? with
            | none => rfl
            | some v =>
              rw [Array.getD_eq_getD_getElem?, hx] at hgt
              simp only [Option.getD_some, AV.c, AV.cl] at hgt
              rw [hgt]
          rw [hy]; rfl
        · exact hg.elim
      · exact hg.elim
    · exact hg.elim

theorem stepA_sound (hT : TabOK P T) {n : Nat} {W : List Nat} {ops : Array Oper} {o : Oper} {a : AA} {M : AH} {K : AA → AH → Prop} {Kp : AV → AH → Prop} {ρ : Env} {D : List Deferred} {w : World} {act : Act} (hs : Sim ρ M w) (ha : ActR ρ D n a act)
    (h : stepA P T n W ops o a M K Kp) {K' : Act → World → Prop}
    (hK : ∀ a' act' M' ρ' w', K a' M' → ActR ρ' D n a' act' → Sim ρ' M' w' → Ext ρ M w ρ' M' w' → K' act' w')
    (hP : ∀ rv M' ρ' w', Kp rv M' → rv.ok ρ' → Sim ρ' M' w' → Ext ρ M w ρ' M' w' → Q (.panic [{ v := rv.c ρ', recovered := false }]) act w') :
    plainOp o.op = true ∧ opW r P ops Q o K' act w := by
  unfold stepA at h
  replace h := condT_sound h
  obtain ⟨hp, h⟩ := h
  refine ⟨hp, ?_⟩
  obtain ⟨a', ha', h⟩ := guardA_sound ha h
  unfold opW
  rcases h with ⟨hw, h⟩ | ⟨hw, h⟩
  · rw [if_pos hw]
    exact effA_sound hT hs ha'.ev h (fun rv M' ρ' w' h1 h2 h3 h4 => hK _ _ M' ρ' w' h1 ((ha'.ext h4.env).put o.dst h2) h3 h4) hP
  · rw [if_neg (by rw [hw]; simp)]
    exact hK _ _ M ρ w h (ha'.put o.dst (v := .tup []) trivial) hs (Ext.refl _ _ _)

/-- In the order of the text. -/
def seqA (P : Program) (T : List TI) (n : Nat) (W : List Nat) (ops : Array Oper) (Kp : AV → AH → Prop) (K : AA → AH → Prop) : List Oper → AA → AH → Prop
  | [], a, M => K a M
  | o :: l, a, M => stepA P T n W ops o a M (fun a M => seqA P T n W ops Kp K l a M) Kp

theorem wpOpsIn_of {i : Nat} {l : List Nat} {ops : Array Oper} {o : Oper} {act : Act} {w : World} (hi : ops[i]? = some o) (hp : plainOp o.op = true) (h : opW r P ops Q o (wpOpsIn (FW r) 0 P ops Q l) act w) : wpOpsIn (FW r) 0 P ops Q (i :: l) act w := by
  rw [wpOpsIn_cons]
  exact wpOpIn_of hi hp h

theorem seqA_sound (hT : TabOK P T) {n : Nat} {W : List Nat} {ops : Array Oper} {K : AA → AH → Prop} {Kp : AV → AH → Prop} {D : List Deferred} {ρ0 : Env} {M0 : AH} {w0 : World} :
    ∀ (l : List Oper) (k : Nat) (a : AA) (M : AH) (ρ : Env) (w : World) (act : Act), ops.toList.drop k = l → Sim ρ M w → Ext ρ0 M0 w0 ρ M w → ActR ρ D n a act → seqA P T n W ops Kp K l a M →
      (∀ a' act' M' ρ' w', K a' M' → ActR ρ' D n a' act' → Sim ρ' M' w' → Ext ρ0 M0 w0 ρ' M' w' → Q .normal act' w') →
      (∀ rv M' ρ' w' act', act'.defers = D → Kp rv M' → rv.ok ρ' → Sim ρ' M' w' → Ext ρ0 M0 w0 ρ' M' w' → Q (.panic [{ v := rv.c ρ', recovered := false }]) act' w') →
      wpOpsIn (FW r) 0 P ops Q (List.range' k l.length) act w
  | [], k, a, M, ρ, w, act, _, hs, hE, ha, h, hK, hP => hK a act M ρ w h ha hs hE
  | o :: l, k, a, M, ρ, w, act, hl, hs, hE, ha, h, hK, hP => by
    have hi : ops[k]? = some o := by
      have := congrArg (fun l => l[0]?) hl
      simpa using this
    have hl' : ops.toList.drop (k + 1) = l := by
      have := congrArg List.tail hl
      simpa using this
    simp only [seqA] at h
    have key := stepA_sound (r := r) (Q := Q) (K' := wpOpsIn (FW r) 0 P ops Q (List.range' (k + 1) l.length)) hT hs ha h
      (fun a' act' M' ρ' w' h1 h2 h3 h4 => seqA_sound hT l (k + 1) a' M' ρ' w' act' hl' h3 (hE.trans h4) h2 h1 hK hP)
      (fun rv M' ρ' w' h1 h2 h3 h4 => hP rv M' ρ' w' act ha.defers h1 h2 h3 (hE.trans h4))
    rw [List.length_cons, List.range'_succ]
    exact wpOpsIn_of hi key.1 key.2
end

end Go.Proofs.Yteinenklppbjkaa

set_option linter.unusedVariables false
set_option linter.unusedSimpArgs false
open Go.RowKit
namespace Go.Proofs.Yteinenklppbjkaa

/-- The objects of the names of B, where there are any yet, stay as they are. -/
def eqOn (B : List Nat) (M M' : AH) : Prop := ∀ b ∈ B, ∀ o, M[b]? = some o → M'[b]? = some o
def eqOnK (B : List Nat) (M M' : AH) (p : Prop) : Prop :=
  match B with
  | [] => p
  | b :: B => match M[b]? with
    | some o => M'[b]? = some o ∧ eqOnK B M M' p
    | none => eqOnK B M M' p
theorem eqOnK_spec {B : List Nat} {M M' : AH} {p : Prop} (h : eqOnK B M M' p) : eqOn B M M' ∧ p := by
  induction B with
  | nil => exact ⟨fun b hb => absurd hb List.not_mem_nil, h⟩
  | cons x B ih =>
    simp only [eqOnK] at h
    split at h
    · rename_i o ho
      refine ⟨fun b hb o' ho' => ?_, (ih h.2).2⟩
      rcases List.mem_cons.1 hb with rfl | hb
      · rw [ho] at ho'; injection ho' with ho'; subst ho'; exact h.1
      · exact (ih h.2).1 b hb o' ho'
    · rename_i ho
      refine ⟨fun b hb o' ho' => ?_, (ih h).2⟩
      rcases List.mem_cons.1 hb with rfl | hb
      · rw [ho] at ho'; cases ho'
      · exact (ih h).1 b hb o' ho'
theorem eqOn.trans {B : List Nat} {M M' M'' : AH} (h : eqOn B M M') (h' : eqOn B M' M'') : eqOn B M M'' := fun b hb o ho => h' b hb o (h b hb o ho)

def drawA (P : Program) (T : List TI) (n : Nat) (W : List Nat) (ops : Array Oper) (Kp : AV → AH → Prop) (K : AA → AH → Prop) (B : List Nat) : List Nat → List (Nat × Nat) → AA → AH → Prop
  | _, [], a, M => K a M
  | sk, (i, md) :: l, a, M => match elemN sk (some i) with
   | true => drawA P T n W ops Kp K B sk l a M
   | false => match ops[i]? with
    | none => False
    | some o => match md with
      | 0 => condT (plainOp o.op) (guardA n ops o a (fun a => pureA T (elemN W o.dst) M (evA a) o.op fun v => drawA P T n W ops Kp K B sk l (a.put n o.dst v) M) (fun a => drawA P T n W ops Kp K B sk l (a.put n o.dst (.tup [])) M))
      | 1 => condT (plainOp o.op) (guardA n ops o a (fun a => match o.op with
          | .load t x => condT (elemN B (some (evA a x).id)) (loadA T M t (evA a x) fun v => drawA P T n W ops Kp K B sk l (a.put n o.dst v) M)
          | .convert s d x => condT (elemN B (some (evA a x).id)) (strOfA T M s d (evA a x) fun v => drawA P T n W ops Kp K B sk l (a.put n o.dst v) M)
          | .lookup t x ix ok => condT (elemN B (some (evA a x).id)) (lookA T M t (evA a x) (evA a ix) ok fun v => drawA P T n W ops Kp K B sk l (a.put n o.dst v) M)
          | .call ⟨.builtin .len, args, tys⟩ => match args.toList, tys.toList with
            | [x], [t] => condT (elemN B (some (evA a x).id)) (lenMapA T M t (evA a x) fun v => drawA P T n W ops Kp K B sk l (a.put n o.dst v) M)
            | _, _ => False
          | _ => False) (fun a => drawA P T n W ops Kp K B sk l (a.put n o.dst (.tup [])) M))
      | 2 => stepA P T n W ops o a M (fun a M' => eqOnK B M M' (drawA P T n W ops Kp K B sk l a M')) Kp
      | 3 => stepA P T n W ops o a M (fun a M' => drawA P T n W ops Kp K B sk l a M') Kp
      | j + 4 => match ops[j]? with
        | none => False
        | some oj => stepA P T n W ops o a M (fun a M' => eqOnK B M M' (drawA P T n W ops Kp K B sk l a M')) Kp ∧ stepA P T n W ops oj a M (fun a M' => eqOnK B M M' (stepA P T n W ops o a M' (fun a M'' => eqOnK B M' M'' (drawA P T n W ops Kp K B (j :: sk) l a M'')) Kp)) Kp

/-- How many steps a plan has that are not left out. -/
def stepsOf (sk : List Nat) (l : List (Nat × Nat)) : Nat := (l.filter fun x => !(elemN sk (some x.1))).length
def planOk (ops : Array Oper) (ds : List Nat) : List Nat → List (Nat × Nat) → Array Bool → Bool
  | _, [], l => Region.ready .any ops l == []
  | sk, (i, md) :: r, l => match elemN sk (some i) with
    | true => planOk ops ds sk r l
    | false => (match md with
      | 0 => Region.free .any ops l i && (Region.ready .any ops l).contains i
      | 1 => Region.free .any ops l i && (Region.ready .any ops l).contains i && ds.all fun d => l.getD d true || waits ops i ops.size d
      | 2 => (Region.ready .any ops l == [i]) && !(ds.contains i)
      | 3 => (Region.ready .any ops l == [i]) && ds.contains i && r.all (fun x => !(x.2 == 1) && !(x.2 == 2) && !(Nat.ble 4 x.2))
      | j + 4 => (Region.ready .any ops l == [i, j] || Region.ready .any ops l == [j, i]) && (!(ds.contains i) && !(ds.contains j)) && (Region.ready .any ops (l.setIfInBounds j true) == [i]) && Nat.blt (stepsOf (j :: sk) r) (stepsOf sk r) &&
          planOk ops ds (j :: sk) r ((l.setIfInBounds j true).setIfInBounds i true)) && planOk ops ds sk r (l.setIfInBounds i true)

theorem elemN_mem {l : List Nat} {t : Nat} (h : elemN l (some t) = true) : t ∈ l := by
  induction l with
  | nil => simp [elemN] at h
  | cons x l ih =>
    simp only [elemN, Bool.or_eq_true] at h
    rcases h with h | h
    · rw [Nat.eq_of_beq_eq_true h]; exact List.mem_cons_self
    · exact List.mem_cons_of_mem _ (ih h)

section
variable {r : Option Nat} {P : Program} {ops : Array Oper} {Q : Exit → Act → World → Prop} {S : World → Prop} {ds : List Nat}

theorem anyS_pure {i : Nat} {oi : Oper} {v : Value} (hi : ops[i]? = some oi) (hp : ∀ (i : Nat) o, ops[i]? = some o → plainOp o.op = true)
    (hQ : ∀ c a w, Q (.panic c) (a.put oi.dst v) w → Q (.panic c) a w) :
    ∀ (f : Nat) (l : Array Bool) (a : Act) (w : World),
      (∀ j oj, ops[j]? = some oj → j ≠ i → l.getD j true = false → (∀ e ∈ oj.after, Region.binds .any e = true → e.on ≠ i) → oi.apart ops oj = true) →
      i ∈ Region.ready .any ops l → YI P ops (fun _ => True) oi v a →
      anyS r P ops Q S ds f (l.setIfInBounds i true) (a.put oi.dst v) w → anyS r P ops Q S ds (f + 1) l a w := by
  intro f
  induction f with
  | zero =>
    intro l a w _ hr hy H
    refine ⟨fun h => (by rw [h] at hr; cases hr), fun j hj o ho => ?_⟩
    by_cases hji : j = i
    · subst hji
      rw [hi] at ho; injection ho with ho; subst ho
      exact hy.opW trivial ⟨fun _ => .inl rfl, H⟩
    · have := ready_mono hj hji
      rw [H.1] at this
      cases this
  | succ f ih =>
    intro l a w hfree hr hy H
    refine ⟨fun h => (by rw [h] at hr; cases hr), fun j hj oj hoj => ?_⟩
    by_cases hji : j = i
    · subst hji
      rw [hi] at hoj; injection hoj with hoj; subst hoj
      exact hy.opW trivial ⟨fun _ => .inl rfl, H⟩
    · have h1 := H.2 j (ready_mono hj hji) oj hoj
      obtain ⟨hjun, oj', hoj', hall⟩ := mem_ready.1 hj
      rw [hoj] at hoj'; injection hoj' with hoj'; subst hoj'
      have hiun := (mem_ready.1 hr).1
      have hnot : ∀ e ∈ oj.after, Region.binds .any e = true → e.on ≠ i := fun e he hb heq => by
        have h1 := hall e he hb
        rw [heq] at h1
        rcases Nat.lt_or_ge i l.size with h' | h'
        · simp [h'] at hiun h1; rw [hiun] at h1; cases h1
        · simp [Array.getElem?_eq_none h'] at h1
      have h2 := opW_put (hfree j oj hoj hji hjun hnot) (hp i oi hi) (hp j oj hoj) hQ hy h1
      refine opW_mono (fun a' w' h3 => ⟨h3.2.1, ih (l.setIfInBounds j true) a' w' ?_ (ready_mono hr (Ne.symm hji)) h3.1 ?_⟩) h2
      · intro k ok hk hki hun hno
        refine hfree k ok hk hki ?_ hno
        by_cases hjk : j = k
        · subst hjk; exact hjun
        · rw [getD_set_ne true hjk] at hun; exact hun
      · rw [Array.setIfInBounds_comm _ _ hji]
        exact h3.2.2

theorem anyS_done {l : Array Bool} {a : Act} {w : World} (hr : Region.ready .any ops l = []) (h : Q .normal a w) : ∀ f, anyS r P ops Q S ds f l a w
  | 0 => ⟨hr, h⟩
  | _ + 1 => ⟨fun _ => h, by rw [hr]; simp⟩

theorem anyS_one {i f : Nat} {o : Oper} {l : Array Bool} {a : Act} {w : World} (hr : Region.ready .any ops l = [i]) (hi : ops[i]? = some o)
    (h : opW r P ops Q o (fun a' w' => (i ∉ ds → w' = w ∨ S w') ∧ anyS r P ops Q S ds f (l.setIfInBounds i true) a' w') a w) : anyS r P ops Q S ds (f + 1) l a w := by
  refine ⟨fun h => (by rw [hr] at h; cases h), fun j hj o' ho' => ?_⟩
  rw [hr] at hj
  obtain rfl := List.mem_singleton.1 hj
  rw [hi] at ho'; injection ho' with ho'; subst ho'
  exact h

/-- What a drawn region's loads may count on. -/
def SB (ρ0 : Env) (M0 : AH) (B : List Nat) (w : World) : Prop := ∀ b ∈ B, HoldsId ρ0 M0 b w

theorem SB_keep {ρ0 ρ' : Env} {M0 M' : AH} {B : List Nat} {w0 w' : World} (h0 : SB ρ0 M0 B w0) (hs : Sim ρ' M' w') (he : ∀ i g l, ρ0 i g = some l → ρ' i g = some l) (hB : eqOn B M0 M') : SB ρ0 M0 B w' := by
  intro b hb g own x q hsl hq
  have hsl' : slot M' b g = some (own, x) := by
    unfold slot at hsl ⊢
    cases ho : M0[b]? with
    | none => rw [ho] at hsl; cases hsl
    | some o => rw [ho] at hsl; rw [hB b hb o ho]; exact hsl
  exact (h0 b hb g own x q hsl hq).back he (hs.id b g own x q hsl' (he _ _ _ hq))
theorem SB.of {ρ : Env} {M : AH} {w : World} (h : Sim ρ M w) (B : List Nat) : SB ρ M B w := fun b _ => h.id b

variable {T : List TI}
theorem loadA_ok {M : AH} {t : Nat} {a : AV} {K : AV → Prop} {ρ : Env} (hk : Known ρ M) (h : loadA T M t a K) : a.ok ρ := by
  have key : ∀ {i g : Nat} {K : Bool → Cont → Prop}, slotA M i g K → (ρ i g).isSome = true := by
    intro i g K h
    obtain ⟨own, x, hs, _⟩ := slotA_sound h
    rcases hk i g own x hs with ⟨q, hq⟩ | ⟨hq, _⟩ <;> simp [hq]
  unfold loadA at h
  split at h
  · exact h.elim
  · split at h <;> split at h <;> first
      | (simp only [AV.ok]; exact key h)
      | exact h.elim
set_option maxHeartbeats 1000000 in
theorem drawA_sound (hT : TabOK P T) {n : Nat} {W : List Nat} {K : AA → AH → Prop} {Kp : AV → AH → Prop} {B : List Nat} {D : List Deferred} {ρ0 : Env} {M0 : AH} {w0 : World}
    (hp : ∀ (i : Nat) o, ops[i]? = some o → plainOp o.op = true)
    (hQ : ∀ c (a : Act) d v w, Q (.panic c) (a.put d v) w → Q (.panic c) a w) :
    ∀ (plan : List (Nat × Nat)) (sk : List Nat) (l : Array Bool) (f : Nat) (a : AA) (M : AH) (ρ : Env) (w : World) (act : Act) (S : World → Prop), stepsOf sk plan ≤ f → planOk ops ds sk plan l = true → Closed ops l →
      Sim ρ M w → Ext ρ0 M0 w0 ρ M w → ActR ρ D n a act → (plan.any (fun x => x.2 == 1) = true → S w) → (∀ w', S w' → SB ρ M B w') → (plan.any (fun x => x.2 == 2 || Nat.ble 4 x.2) = true → ∀ ρ' M' w', Sim ρ' M' w' → (∀ i g l, ρ i g = some l → ρ' i g = some l) → eqOn B M M' → S w') → drawA P T n W ops Kp K B sk plan a M →
      (∀ a' act' M' ρ' w', K a' M' → ActR ρ' D n a' act' → Sim ρ' M' w' → Ext ρ0 M0 w0 ρ' M' w' → Q .normal act' w') →
      (∀ rv M' ρ' w' act', act'.defers = D → Kp rv M' → rv.ok ρ' → Sim ρ' M' w' → Ext ρ0 M0 w0 ρ' M' w' → Q (.panic [{ v := rv.c ρ', recovered := false }]) act' w') →
      anyS r P ops Q S ds f l act w
  | [], sk, l, f, a, M, ρ, w, act, S, _, hpl, _, hs, hE, ha, _, _, _, h, hK, hP => by
    simp only [planOk, beq_iff_eq] at hpl
    exact anyS_done hpl (hK a act M ρ w h ha hs hE) f
  | (i, md) :: plan, sk, l, f, a, M, ρ, w, act, S, hf, hpl, hc, hs, hE, ha, hS, hSB, hSk, h, hK, hP => by
    simp only [planOk] at hpl
    simp only [drawA] at h
    cases hsk : elemN sk (some i) with
    | true =>
      rw [hsk] at hpl h
      exact drawA_sound hT hp hQ plan sk l f a M ρ w act S (by simpa [stepsOf, hsk] using hf) hpl hc hs hE ha (fun hh => hS (by simp only [List.any_cons, hh, Bool.or_true])) hSB (fun hh => hSk (by simp only [List.any_cons, hh, Bool.or_true])) h hK hP
    | false =>
    rw [hsk] at hpl h
    have hf0 : stepsOf sk plan + 1 ≤ f := by simpa [stepsOf, hsk] using hf
    obtain ⟨f, rfl⟩ : ∃ f', f = f' + 1 := ⟨f - 1, by omega⟩
    simp only [Bool.and_eq_true] at hpl
    obtain ⟨hm, hpl⟩ := hpl
    simp only at h
    split at h
    · exact h.elim
    · rename_i o hi
      have hf' : stepsOf sk plan ≤ f := by omega
      have hS' : plan.any (fun x => x.2 == 1) = true → S w := fun hh => hS (by simp only [List.any_cons, hh, Bool.or_true])
      have hSk' := fun (hh : plan.any (fun x => x.2 == 2 || Nat.ble 4 x.2) = true) => hSk (by simp only [List.any_cons, hh, Bool.or_true])
      split at h
      · simp only [Bool.and_eq_true, List.contains_iff_mem] at hm
        have hready : i ∈ Region.ready .any ops l := by simpa using hm.2
        replace h := (condT_sound h).2
        obtain ⟨a', ha', h⟩ := guardA_sound ha h
        rcases h with ⟨hw, h⟩ | ⟨hw, h⟩
        · obtain ⟨v, h1, h2, h3⟩ := pureA_sound hT hs.known ha'.ev h
          refine anyS_pure hi hp (fun c a w => hQ c a o.dst _ w) f l act w (Region.free_spec hi hm.1) hready (.inl ⟨hw, fun w' _ => h3 w'⟩) ?_
          exact drawA_sound hT hp hQ plan sk _ f _ M ρ w _ S hf' hpl (hc.set hready) hs hE (ha'.put o.dst h2) hS' hSB hSk' h1 hK hP
        · refine anyS_pure hi hp (fun c a w => hQ c a o.dst _ w) f l act w (Region.free_spec hi hm.1) hready (.inr ⟨hw, rfl⟩) ?_
          exact drawA_sound hT hp hQ plan sk _ f _ M ρ w _ S hf' hpl (hc.set hready) hs hE (ha'.put o.dst (v := .tup []) trivial) hS' hSB hSk' h hK hP
      · simp only [Bool.and_eq_true, List.contains_iff_mem] at hm
        obtain ⟨⟨hfree, hrd⟩, hds⟩ := hm
        have hready : i ∈ Region.ready .any ops l := by simpa using hrd
        have hwait : ∀ d ∈ ds, l.getD d true = false → waits ops i ops.size d = true := fun d hd hun => by
          have := List.all_eq_true.1 hds d hd
          rw [hun] at this
          simpa using this
        have hSw := hS (by simp)
        replace h := (condT_sound h).2
        obtain ⟨a', ha', h⟩ := guardA_sound ha h
        rcases h with ⟨hw, h⟩ | ⟨hw, h⟩
        · split at h
          · rename_i t x hop
            replace h := condT_sound h
            obtain ⟨hel, h⟩ := h
            have hmem := elemN_mem hel
            obtain ⟨v, h1, h2, h3⟩ := loadA_sound (P := P) hT hs.known (hs.id _) h
            have hx := (ha'.ev x)
            have hrun : ∀ w', S w' → (execOp act.eval o).run P w' = .ok (.value (v.c ρ)) w' := by
              intro w' hw'
              have h4 := h3 w' (hSB w' hw' _ hmem)
              rw [← hx.1] at h4
              obtain ⟨dst, op, ty, pos, after, guard⟩ := o
              simp only at hop
              subst hop
              simp [execOp, h4]
            refine anyS_take hi hp (fun c a w => hQ c a o.dst _ w) f l act w (Region.free_spec hi hfree) hc hwait hready (.inl ⟨hw, hrun⟩) hSw ?_
            exact drawA_sound hT hp hQ plan sk _ f _ M ρ w _ S hf' hpl (hc.set hready) hs hE (ha'.put o.dst h2) hS' hSB hSk' h1 hK hP
          · rename_i t t' x hop
            replace h := condT_sound h
            obtain ⟨hel, h⟩ := h
            have hmem := elemN_mem hel
            obtain ⟨v, h1, h2, hidok, h3⟩ := strOfA_sound (P := P) hT hs.known h
            have hx := (ha'.ev x)
            have hrun : ∀ w', S w' → (execOp act.eval o).run P w' = .ok (.value (v.c ρ)) w' := by
              intro w' hw'
              have h4 := h3 w' (hSB w' hw' _ hmem)
              rw [← hx.1] at h4
              obtain ⟨dst, op, ty, pos, after, guard⟩ := o
              simp only at hop
              subst hop
              simp [execOp, h4]
            refine anyS_take hi hp (fun c a w => hQ c a o.dst _ w) f l act w (Region.free_spec hi hfree) hc hwait hready (.inl ⟨hw, hrun⟩) hSw ?_
            exact drawA_sound hT hp hQ plan sk _ f _ M ρ w _ S hf' hpl (hc.set hready) hs hE (ha'.put o.dst h2) hS' hSB hSk' h1 hK hP
          · rename_i t x ix ok hop
            replace h := condT_sound h
            obtain ⟨hel, h⟩ := h
            have hmem := elemN_mem hel
            obtain ⟨v, h1, h2, hidok, h3⟩ := lookA_sound (P := P) hT hs.known (hs.id _) h
            have hx := (ha'.ev x)
            have hix := (ha'.ev ix)
            have hrun : ∀ w', S w' → (execOp act.eval o).run P w' = .ok (.value (v.c ρ)) w' := by
              intro w' hw'
              have h4 := h3 w' (hSB w' hw' _ hmem)
              rw [← hx.1, ← hix.1] at h4
              obtain ⟨dst, op, ty, pos, after, guard⟩ := o
              simp only at hop
              subst hop
              simp [execOp, h4]
            refine anyS_take hi hp (fun c a w => hQ c a o.dst _ w) f l act w (Region.free_spec hi hfree) hc hwait hready (.inl ⟨hw, hrun⟩) hSw ?_
            exact drawA_sound hT hp hQ plan sk _ f _ M ρ w _ S hf' hpl (hc.set hready) hs hE (ha'.put o.dst h2) hS' hSB hSk' h1 hK hP
          · rename_i args tys hop
            split at h
            · rename_i x t hax htx
              obtain rfl : args = #[x] := by apply Array.toList_inj.1; simpa using hax
              obtain rfl : tys = #[t] := by apply Array.toList_inj.1; simpa using htx
              replace h := condT_sound h
              obtain ⟨hel, h⟩ := h
              have hmem := elemN_mem hel
              obtain ⟨v, h1, h2, hidok, h3⟩ := lenMapA_sound (P := P) (ty := o.type) hT hs.known h
              have hx := (ha'.ev x)
              have hrun : ∀ w', S w' → (execOp act.eval o).run P w' = .ok (.value (v.c ρ)) w' := by
                intro w' hw'
                have h4 := h3 w' (hSB w' hw' _ hmem)
                rw [← hx.1] at h4
                obtain ⟨dst, op, ty, pos, after, guard⟩ := o
                simp only at hop h4
                subst hop
                simp [execOp, resolve, invoke, builtin, h4]
              refine anyS_take hi hp (fun c a w => hQ c a o.dst _ w) f l act w (Region.free_spec hi hfree) hc hwait hready (.inl ⟨hw, hrun⟩) hSw ?_
              exact drawA_sound hT hp hQ plan sk _ f _ M ρ w _ S hf' hpl (hc.set hready) hs hE (ha'.put o.dst h2) hS' hSB hSk' h1 hK hP
            · exact h.elim
          · exact h.elim
        · refine anyS_take hi hp (fun c a w => hQ c a o.dst _ w) f l act w (Region.free_spec hi hfree) hc hwait hready (.inr ⟨hw, rfl⟩) hSw ?_
          exact drawA_sound hT hp hQ plan sk _ f _ M ρ w _ S hf' hpl (hc.set hready) hs hE (ha'.put o.dst (v := .tup []) trivial) hS' hSB hSk' h hK hP
      · simp only [Bool.and_eq_true, beq_iff_eq] at hm
        have hready : i ∈ Region.ready .any ops l := by rw [hm.1]; exact List.mem_singleton.2 rfl
        refine anyS_one hm.1 hi ?_
        refine (stepA_sound (r := r) (Q := Q) hT hs ha h ?_ ?_).2
        · intro a' act' M' ρ' w' h1 h2 h3 h4
          replace h1 := eqOnK_spec h1
          have hE' := hE.trans h4
          have hSk := hSk (by simp)
          have hSw' := hSk ρ' M' w' h3 h4.env h1.1
          refine ⟨fun _ => .inr hSw', ?_⟩
          refine anyS_weaken (S := fun u => S u ∧ SB ρ' M' B u) (fun u hu => hu.1) f _ _ _ ?_
          refine drawA_sound hT hp hQ plan sk _ f a' M' ρ' w' act' (fun u => S u ∧ SB ρ' M' B u) hf' hpl (hc.set hready) h3 hE' h2 (fun _ => ⟨hSw', SB.of h3 B⟩) (fun u hu => hu.2) ?_ h1.2 hK hP
          intro _ ρ'' M'' w'' k1 k2 k3
          exact ⟨hSk ρ'' M'' w'' k1 (fun i g l e => k2 i g l (h4.env i g l e)) (h1.1.trans k3), SB_keep (SB.of h3 B) k1 k2 k3⟩
        · intro rv M' ρ' w' h1 h2 h3 h4
          exact hP rv M' ρ' w' act ha.defers h1 h2 h3 (hE.trans h4)
      · simp only [Bool.and_eq_true, beq_iff_eq] at hm
        obtain ⟨⟨hr1, hd1⟩, hno⟩ := hm
        have hready : i ∈ Region.ready .any ops l := by rw [hr1]; exact List.mem_singleton.2 rfl
        refine anyS_one hr1 hi ?_
        refine (stepA_sound (r := r) (Q := Q) hT hs ha h ?_ ?_).2
        · intro a' act' M' ρ' w' h1 h2 h3 h4
          have hE' := hE.trans h4
          refine ⟨fun hn => absurd (by simpa using hd1) hn, ?_⟩
          have hno1 : plan.any (fun x => x.2 == 1) = true → False := by
            intro hany
            obtain ⟨x, hx, hx1⟩ := List.any_eq_true.1 hany
            have := List.all_eq_true.1 hno x hx
            rw [hx1] at this
            simp at this
          have hno2 : plan.any (fun x => x.2 == 2 || Nat.ble 4 x.2) = true → False := by
            intro hany
            obtain ⟨x, hx, hx1⟩ := List.any_eq_true.1 hany
            have := List.all_eq_true.1 hno x hx
            simp only [Bool.and_eq_true, Bool.not_eq_true'] at this
            rw [this.1.2, this.2] at hx1
            cases hx1
          refine anyS_weaken (S := fun _ => False) (fun u hu => hu.elim) f _ _ _ ?_
          exact drawA_sound hT hp hQ plan sk _ f a' M' ρ' w' act' (fun _ => False) hf' hpl (hc.set hready) h3 hE' h2 (fun hany => hno1 hany) (fun u hu => hu.elim) (fun hany => (hno2 hany).elim) h1 hK hP
        · intro rv M' ρ' w' h1 h2 h3 h4
          exact hP rv M' ρ' w' act ha.defers h1 h2 h3 (hE.trans h4)
      · rename_i j
        split at h
        · exact h.elim
        · rename_i oj hj
          simp only [Bool.and_eq_true, Bool.or_eq_true, beq_iff_eq] at hm
          obtain ⟨⟨⟨⟨hr1, hd1, hd2⟩, hrj⟩, hst⟩, hplj⟩ := hm
          have hst' : stepsOf (j :: sk) plan < stepsOf sk plan := by simpa using hst
          have hready : i ∈ Region.ready .any ops l := by rcases hr1 with e | e <;> rw [e] <;> simp
          have hreadyj : j ∈ Region.ready .any ops l := by rcases hr1 with e | e <;> rw [e] <;> simp
          refine ⟨fun h0 => (by rw [h0] at hready; cases hready), fun k hk ok hok => ?_⟩
          have hk' : k = i ∨ k = j := by rcases hr1 with e | e <;> rw [e] at hk <;> simp at hk <;> omega
          rcases hk' with rfl | rfl
          · rw [hi] at hok; injection hok with hok; subst hok
            refine (stepA_sound (r := r) (Q := Q) hT hs ha h.1 ?_ ?_).2
            · intro a' act' M' ρ' w' h1 h2 h3 h4
              replace h1 := eqOnK_spec h1
              have hE' := hE.trans h4
              have hSk := hSk (by simp)
              have hSw' := hSk ρ' M' w' h3 h4.env h1.1
              refine ⟨fun _ => .inr hSw', ?_⟩
              refine anyS_weaken (S := fun u => S u ∧ SB ρ' M' B u) (fun u hu => hu.1) f _ _ _ ?_
              refine drawA_sound hT hp hQ plan sk _ f a' M' ρ' w' act' (fun u => S u ∧ SB ρ' M' B u) hf' hpl (hc.set hready) h3 hE' h2 (fun _ => ⟨hSw', SB.of h3 B⟩) (fun u hu => hu.2) ?_ h1.2 hK hP
              intro _ ρ'' M'' w'' k1 k2 k3
              exact ⟨hSk ρ'' M'' w'' k1 (fun i g l e => k2 i g l (h4.env i g l e)) (h1.1.trans k3), SB_keep (SB.of h3 B) k1 k2 k3⟩
            · intro rv M' ρ' w' h1 h2 h3 h4
              exact hP rv M' ρ' w' act ha.defers h1 h2 h3 (hE.trans h4)
          · rw [hj] at hok; injection hok with hok; subst hok
            refine (stepA_sound (r := r) (Q := Q) hT hs ha h.2 ?_ ?_).2
            · intro a' act' M' ρ' w' h1 h2 h3 h4
              replace h1 := eqOnK_spec h1
              have hE' := hE.trans h4
              have hSk := hSk (by simp)
              have hSw' := hSk ρ' M' w' h3 h4.env h1.1
              refine ⟨fun _ => .inr hSw', ?_⟩
              have hcj := hc.set hreadyj
              have hready2 : i ∈ Region.ready .any ops (l.setIfInBounds k true) := by rw [hrj]; exact List.mem_singleton.2 rfl
              obtain ⟨f, rfl⟩ : ∃ f', f = f' + 1 := ⟨f - 1, by omega⟩
              refine anyS_one hrj hi ?_
              refine (stepA_sound (r := r) (Q := Q) hT h3 h2 h1.2 ?_ ?_).2
              · intro a'' act'' M'' ρ'' w'' g1 g2 g3 g4
                replace g1 := eqOnK_spec g1
                have hSk2 : ∀ ρ1 M1 w1, Sim ρ1 M1 w1 → (∀ i g l, ρ' i g = some l → ρ1 i g = some l) → eqOn B M' M1 → S w1 ∧ SB ρ' M' B w1 := fun ρ1 M1 w1 k1 k2 k3 => ⟨hSk ρ1 M1 w1 k1 (fun i g l e => k2 i g l (h4.env i g l e)) (h1.1.trans k3), SB_keep (SB.of h3 B) k1 k2 k3⟩
                have hSw2 := hSk2 ρ'' M'' w'' g3 g4.env g1.1
                refine ⟨fun _ => .inr hSw2.1, ?_⟩
                refine anyS_weaken (S := fun u => S u ∧ SB ρ'' M'' B u) (fun u hu => hu.1) f _ _ _ ?_
                refine drawA_sound hT hp hQ plan (k :: sk) _ f a'' M'' ρ'' w'' act'' (fun u => S u ∧ SB ρ'' M'' B u) (by omega) hplj (hcj.set hready2) g3 (hE'.trans g4) g2 (fun _ => ⟨hSw2.1, SB.of g3 B⟩) (fun u hu => hu.2) ?_ g1.2 hK hP
                intro _ ρ1 M1 w1 k1 k2 k3
                exact ⟨(hSk2 ρ1 M1 w1 k1 (fun i g l e => k2 i g l (g4.env i g l e)) (g1.1.trans k3)).1, SB_keep (SB.of g3 B) k1 k2 k3⟩
              · intro rv M'' ρ'' w'' g1 g2 g3 g4
                exact hP rv M'' ρ'' w'' act' h2.defers g1 g2 g3 (hE'.trans g4)
            · intro rv M' ρ' w' h1 h2 h3 h4
              exact hP rv M' ρ' w' act ha.defers h1 h2 h3 (hE.trans h4)
end

end Go.Proofs.Yteinenklppbjkaa

set_option linter.unusedVariables false
set_option linter.unusedSimpArgs false
open Go.RowKit
namespace Go.Proofs.Yteinenklppbjkaa

/-- A new object under a name that was kept for it. -/
theorem alloc_at {ρ : Env} {M : AH} {w w1 : World} {x : Cont} {c : Array Value} {e : TypeId} {r : Nat} (h : Sim ρ M w) (hr : M[r]? = some .gone) (hun : ∀ g, ρ r g = none) (hw1 : w1.heap = w.heap) (hos : w1.os = w.os) (htape : w1.tape = w.tape) (hout : w1.output = w.output)
    (hsize : x.size ≤ c.size) (hat : ∀ k v, x.at k = some v → v.ok ρ ∧ c[k]? = some (v.c ρ)) (hxr : x.row = true := by rfl) :
    Sim (upE ρ r 0 (some (w.heap.size, 0))) (M.set r (.one true 0 x)) (w1.alloc (.cells c e)) ∧ Ext ρ M w (upE ρ r 0 (some (w.heap.size, 0))) (M.set r (.one true 0 x)) (w1.alloc (.cells c e)) := by
  have hun0 : (ρ r 0).isSome = false := by rw [hun 0]; rfl
  have hlt : r < M.length := (List.getElem?_eq_some_iff.1 hr).1
  have hsz : w1.heap.size = w.heap.size := by rw [hw1]
  refine sim_put (i := r) (g := 0) (x' := x) h (by simp) (fun i' hne => List.getElem?_set_ne (Ne.symm hne)) (by simp [hlt]) (upE_ext hun0) upE_back (fun g' hg => by rw [hun g'] at hg; cases hg) (fun b hb _ => ?_) (by simp [hw1]) hos htape hout
    (.inl ⟨(w.heap.size, 0), upE_same _ _ _ _, .mk' hxr ⟨c, e, (0, 0), ?_, by show 0 + x.size ≤ c.size; omega, fun k v hv => ?_, fun _ => rfl⟩, .inl (Nat.le_refl _)⟩)
  · rw [Below.heap_alloc w1 _ b (by omega), hw1]
  · show (w1.alloc _).heap[w.heap.size]? = _
    rw [← hsz]; exact heap_alloc_new w1 _
  · have h1 := hat k v hv
    refine ⟨AV.ok_ext (upE_ext hun0) v h1.1, ?_⟩
    rw [AV.c_ext (upE_ext hun0) v h1.1]
    show c[0 + k]? = _
    rw [Nat.zero_add]
    exact h1.2
theorem upE_other {ρ : Env} {r : Nat} {l : Option (Nat × Nat)} : ∀ i g, i ≠ r → upE ρ r 0 l i g = ρ i g := by
  intro i g h
  unfold upE
  rw [if_neg (fun e => h e.1)]

/-- What an operation makes: a value, or a slice of a new array. -/
inductive Ef where
  | val (v : AV)
  | mk (l c : Nat) (x : Cont)
def Ef.isMk : Ef → Bool
  | .mk .. => true
  | _ => false
def Ef.v (r : Nat) : Ef → AV
  | .val v => v
  | .mk l c _ => .sl r 0 0 l c
def Ef.objs : Ef → List AO
  | .val _ => []
  | .mk _ _ x => [.one true 0 x]

theorem buildSliceA_at {P : Program} {T : List TI} (hT : TabOK P T) {M : AH} {t len : Nat} {idx : List Nat} {vs : List AV} {K : AV → AH → Prop}
    (h : buildSliceA T M t len idx vs K) : ∃ x, K (.sl M.length 0 0 len len) (M ++ [.one true 0 x]) ∧ ∀ {ρ : Env} {w : World} {M' : AH} {r : Nat}, Sim ρ M' w → M'[r]? = some .gone → (∀ g, ρ r g = none) → AV.okl ρ vs →
      ∃ ρ' w', (Instr.buildSlice t len (idx.zip (vs.map (AV.c ρ))).toArray).run P w = .ok ((AV.sl r 0 0 len len).c ρ') w' ∧ (AV.sl r 0 0 len len).ok ρ' ∧ Sim ρ' (M'.set r (.one true 0 x)) w' ∧ Ext ρ M' w ρ' (M'.set r (.one true 0 x)) w' ∧ ∀ i g, i ≠ r → ρ' i g = ρ i g := by
  unfold buildSliceA at h
  split at h
  · rename_i el s1 s2 s3 ht
    obtain ⟨d, hd, hkd⟩ := hT.und ht
    obtain rfl := tkOf_slice hkd
    split at h
    · rename_i te hte
      replace h := condT_sound h
      obtain ⟨hb, h⟩ := h
      simp only [Bool.and_eq_true, beq_iff_eq] at hb
      obtain ⟨⟨⟨⟨hidx, hlen⟩, h24⟩, hzl⟩, hall⟩ := hb
      have hlen' : vs.length = len := Nat.eq_of_beq_eq_true hlen
      have h24' : len * te.size ≤ 16777216 := by simpa using h24
      have hzl' : te.zero.length = te.size := Nat.eq_of_beq_eq_true hzl
      split at h
      · rename_i x hx
        refine ⟨x, h, fun {ρ w M' r} hs hr hun hok => ?_⟩
        obtain ⟨hpos, hsz, hat⟩ := litCont_at ρ hx hall hok
        obtain ⟨d2, ie, z, e1, e2, e3, rfl⟩ := hT.get hte
        simp only at hpos hsz h24' hzl' hall
        have hcs : ∀ u ∈ vs.map (AV.c ρ), u.cells.size = ie.size := fun u hu => by
          obtain ⟨v, hv, rfl⟩ := List.mem_map.1 hu
          have := List.all_eq_true.1 hall v hv
          simp only [Bool.and_eq_true] at this
          rw [← Array.length_toList, AV.parts_c ρ v (by rintro y rfl; have := this.1; simp [AV.parts, AV.one] at this), AV.cl_eq, List.length_map]
          exact Nat.eq_of_beq_eq_true this.2
        have hzs : z.cells.size = ie.size := by simpa using hzl'
        subst hlen'
        have hzip : (idx.zip (vs.map (AV.c ρ))) = ((vs.map (AV.c ρ)).zipIdx 0).map fun x => (x.2, x.1) := by
          subst hidx
          apply List.ext_getElem?
          intro j
          simp only [List.getElem?_map, List.getElem?_zipIdx, List.getElem?_zip_eq_some]
          by_cases hj : j < vs.length
          · simp [List.zip, hj]
          · simp [List.zip, hj, List.getElem?_eq_none (Nat.le_of_not_lt hj)]
        have hw0 := fun c0 => Go.Great.fill_whole hpos (vs.map (AV.c ρ)) c0 hcs
        have hfl := flat_length (vs.map (AV.c ρ)) hcs
        rw [List.length_map] at hfl
        have key := fun (w1 : World) hh1 hh2 hh3 hh4 => alloc_at (w1 := w1) (x := x) (c := ((vs.map (AV.c ρ)).flatMap fun u => u.cells.toList).toArray) (e := el) hs hr hun hh1 hh2 hh3 hh4
          (by rw [hsz, List.size_toArray, hfl]; exact Nat.le_refl _) (fun k v hv => by have := hat k v hv; exact ⟨this.1, by simpa using this.2⟩) (litCont_row (by assumption))
        obtain ⟨h1, h2⟩ := key _ rfl rfl rfl rfl
        by_cases hl0 : vs.length = 0
        · have : vs = [] := List.eq_nil_of_length_eq_zero hl0
          subst this
          refine ⟨_, _, ?_, sl_new.2, h1, h2, upE_other⟩
          rw [sl_new.1]
          simp [Instr.buildSlice, run_underlying hd, sizeOf, typeInfo, e2, newRow, Instr.fill]
          have : (Array.map (fun _ => (default : Value)) (Array.range 0)) = #[] := by apply Array.eq_empty_of_size_eq_zero; simp
          rw [this]
        · have hfill := hw0 ((Array.range (vs.length * ie.size)).map (z.cells[· % z.cells.size]!)) (by simp)
          have hrun := run_buildSlice (P := P) w t el vs.length (idx.zip (vs.map (AV.c ρ))).toArray _ ie z hd e2 e3 (by omega) (by
            intro h0
            rcases Nat.mul_eq_zero.1 h0 with h0 | h0
            · exact hl0 h0
            · omega) (by rw [List.toList_toArray, hzip]; exact hfill)
          exact ⟨_, _, by rw [sl_new.1]; exact hrun, sl_new.2, h1, h2, upE_other⟩
      · exact h.elim
    · exact h.elim
  · exact h.elim

theorem makeSliceA_at {P : Program} {T : List TI} (hT : TabOK P T) {M : AH} {t : Nat} {l c : AV} {K : AV → AH → Prop}
    (h : makeSliceA T M t l c K) : ∃ ln cp x, K (.sl M.length 0 0 ln cp) (M ++ [.one true 0 x]) ∧ ∀ {ρ : Env} {w : World} {M' : AH} {r : Nat}, Sim ρ M' w → M'[r]? = some .gone → (∀ g, ρ r g = none) →
      ∃ ρ' w', (Instr.makeSlice t (l.c ρ) (c.c ρ)).run P w = .ok ((AV.sl r 0 0 ln cp).c ρ') w' ∧ (AV.sl r 0 0 ln cp).ok ρ' ∧ Sim ρ' (M'.set r (.one true 0 x)) w' ∧ Ext ρ M' w ρ' (M'.set r (.one true 0 x)) w' ∧ ∀ i g, i ≠ r → ρ' i g = ρ i g := by
  unfold makeSliceA at h
  split at h
  · rename_i kl l kc c
    split at h
    · rename_i el s1 s2 s3 ht
      obtain ⟨d, hd, hkd⟩ := hT.und ht
      obtain rfl := tkOf_slice hkd
      split at h
      · rename_i te hte
        obtain ⟨⟨h0, hlc, hb, h63⟩, h⟩ := h
        split at h
        · rename_i x hx
          refine ⟨_, _, x, h, fun {ρ w M' r} hs hr hun => ?_⟩
          obtain ⟨hpos, hzl, hsz, hat⟩ := makeCont_at hx (by omega)
          have hzok := hT.zero_ok hte ρ
          obtain ⟨d2, ie, z, e1, e2, e3, rfl⟩ := hT.get hte
          simp only at hpos hzl hsz hat hb hzok
          have hzs : z.cells.size = ie.size := by simpa using hzl
          have hrun := run_make (P := P) w t el ie z hd e2 e3 kl kc l c h0 hlc (by omega) (by omega)
          have key := fun (w1 : World) hh1 hh2 hh3 hh4 => alloc_at (w1 := w1) (x := x) (c := madeCells z.cells (c.toNat * ie.size)) (e := el) hs hr hun hh1 hh2 hh3 hh4 (by rw [hsz, size_madeCells]; exact Nat.le_refl _) (fun k v hv => by
            obtain ⟨hk, u, hu, hc⟩ := hat k v hv
            refine ⟨(hc ρ).2 ((AV.okl_iff ρ _).1 hzok u (List.mem_of_getElem? hu)), ?_⟩
            have hm : k % ie.size < z.cells.size := by rw [hzs]; exact Nat.mod_lt _ hpos
            have hu' : ofS z.cells[k % ie.size] = u := by
              rw [List.getElem?_map, Array.getElem?_toList, Array.getElem?_eq_getElem hm] at hu
              simpa using hu
            rw [← (hc ρ).1, ← hu', ofS_c]
            simp only [madeCells, Array.getElem?_map, Array.getElem?_range, hk, if_true, Option.map_some, hzs]
            rw [getElem!_pos z.cells _ hm]) (makeCont_row (by assumption))
          obtain ⟨h1, h2⟩ := key _ rfl rfl rfl rfl
          exact ⟨_, _, by rw [sl_new.1]; exact hrun, sl_new.2, h1, h2, upE_other⟩
        · exact h.elim
      · exact h.elim
    · exact h.elim
  · exact h.elim

/-- The operations that a makers' region may have, and what they take. -/
def takesM : Op → Option (List Operand)
  | .move x => some [x]
  | .assign x => some [x]
  | .build _ ps => some (ps.toList.map (·.2))
  | .buildSlice _ _ ps => some (ps.toList.map (·.2))
  | .makeSlice _ l c => some [l, c]
  | _ => none

/-- What an operation is known to do, of the values that it takes. -/
def EfOK (P : Program) (o : Oper) (ops : List Operand) (e : Operand → AV) : Ef → Prop
  | .val v => ∀ {ρ : Env} {f : Operand → Value}, (∀ x ∈ ops, f x = (e x).c ρ ∧ (e x).ok ρ) → v.ok ρ ∧ ∀ w, (execOp f o).run P w = .ok (.value (v.c ρ)) w
  | .mk l c x => ∀ {ρ : Env} {f : Operand → Value} {w : World} {M' : AH} {r : Nat}, (∀ x ∈ ops, f x = (e x).c ρ ∧ (e x).ok ρ) → Sim ρ M' w → M'[r]? = some .gone → (∀ g, ρ r g = none) →
      ∃ ρ' w', (execOp f o).run P w = .ok (.value ((AV.sl r 0 0 l c).c ρ')) w' ∧ (AV.sl r 0 0 l c).ok ρ' ∧ Sim ρ' (M'.set r (.one true 0 x)) w' ∧ Ext ρ M' w ρ' (M'.set r (.one true 0 x)) w' ∧ ∀ i g, i ≠ r → ρ' i g = ρ i g

theorem takes_map {ρ : Env} {e : Operand → AV} {f : Operand → Value} {l : List (Nat × Operand)} (h : ∀ x ∈ l.map (·.2), f x = (e x).c ρ ∧ (e x).ok ρ) :
    l.map (fun (i, x) => (i, f x)) = (l.map (·.1)).zip ((l.map fun x => e x.2).map (AV.c ρ)) ∧ AV.okl ρ (l.map fun x => e x.2) := by
  constructor
  · induction l with
    | nil => rfl
    | cons p l ih =>
      simp only [List.map_cons, List.zip_cons_cons]
      rw [ih fun x hx => h x (List.mem_cons_of_mem _ hx), (h p.2 (by simp)).1]
  · rw [AV.okl_iff]
    intro z hz
    obtain ⟨y, hy, rfl⟩ := List.mem_map.1 hz
    exact (h y.2 (List.mem_map.2 ⟨y, hy, rfl⟩)).2

theorem effM {P : Program} {T : List TI} (hT : TabOK P T) {wr : Bool} {M : AH} {e : Operand → AV} {o : Oper} {K Kp : AV → AH → Prop} {tk : List Operand} (ht : takesM o.op = some tk) (h : effA P T wr M e o.op K Kp) :
    ∃ ef : Ef, K (ef.v M.length) (M ++ ef.objs) ∧ EfOK P o tk e ef := by
  obtain ⟨dst, op, ty, pos, after, guard⟩ := o
  simp only at ht h
  have pureK : ∀ {v : AV}, K v M → EfOK P ⟨dst, op, ty, pos, after, guard⟩ tk e (.val v) → ∃ ef : Ef, K (ef.v M.length) (M ++ ef.objs) ∧ EfOK P ⟨dst, op, ty, pos, after, guard⟩ tk e ef := by
    intro v h1 h2
    refine ⟨.val v, ?_, h2⟩
    show K v (M ++ [])
    rw [List.append_nil]; exact h1
  unfold takesM at ht
  split at ht
  · rename_i x
    injection ht with ht; subst ht
    have h' : pureA T wr M e (.move x) fun v => K v M := h
    have h2 := forceA_eq (show forceA (e x) (fun v => K v M) from h')
    exact pureK h2 fun {ρ f} hf => ⟨(hf x (by simp)).2, fun w => by simp [execOp, (hf x (by simp)).1]⟩
  · rename_i x
    injection ht with ht; subst ht
    have h' : pureA T wr M e (.assign x) fun v => K v M := h
    have h2 := forceA_eq (show forceA (e x) (fun v => K v M) from h')
    exact pureK h2 fun {ρ f} hf => ⟨(hf x (by simp)).2, fun w => by simp [execOp, (hf x (by simp)).1]⟩
  · rename_i t ps
    injection ht with ht; subst ht
    have h' : pureA T wr [] e (.build t ps) fun v => K v M := h
    have hdet : ∃ v, K v M ∧ pureA T wr [] e (.build t ps) fun v' => v' = v := by
      simp only [pureA] at h' ⊢
      split at h'
      · split at h'
        · split at h'
          · exact ⟨_, h', rfl⟩
          · exact h'.elim
        · exact h'.elim
      · split at h'
        · split at h'
          · exact ⟨_, h', rfl⟩
          · exact h'.elim
        · exact h'.elim
      · exact h'.elim
    obtain ⟨v, h1, h2⟩ := hdet
    refine pureK h1 fun {ρ f} hf => ?_
    haveI dec : ∀ x, Decidable (x ∈ ps.toList.map (fun x : Nat × Operand => x.2)) := fun x => Classical.propDecidable _
    have h3 : pureA T wr [] (fun x => if x ∈ ps.toList.map (fun x : Nat × Operand => x.2) then e x else .raw (f x)) (.build t ps) fun v' => v' = v := by
      have e1 : ps.toList.map (fun x => (x.1, (fun x => if x ∈ ps.toList.map (fun x : Nat × Operand => x.2) then e x else AV.raw (f x)) x.2)) = ps.toList.map fun x => (x.1, e x.2) := by
        apply List.map_congr_left
        intro x hx
        simp only
        rw [if_pos (List.mem_map.2 ⟨x, hx, rfl⟩)]
      simp only [pureA] at h2 ⊢
      rw [e1]
      exact h2
    have hev : EvR ρ (fun x => if x ∈ ps.toList.map (fun x : Nat × Operand => x.2) then e x else .raw (f x)) f := by
      intro x
      simp only
      split
      · exact hf x ‹_›
      · exact ⟨rfl, trivial⟩
    obtain ⟨u, k1, k2, k3⟩ := pureA_sound (P := P) (o := ⟨dst, .build t ps, ty, pos, after, guard⟩) (ρ := ρ) hT (M := []) (fun i g own x hs => by simp [slot] at hs) hev h3
    obtain rfl : u = v := k1
    exact ⟨k2, k3⟩
  · rename_i t len ps
    injection ht with ht; subst ht
    obtain ⟨x, h1, h2⟩ := buildSliceA_at (P := P) hT (show buildSliceA T M t len (ps.toList.map (·.1)) (ps.toList.map fun x => e x.2) K from h)
    refine ⟨.mk len len x, h1, fun {ρ f w M' r} hf hs hr hun => ?_⟩
    obtain ⟨m1, m2⟩ := takes_map hf
    obtain ⟨ρ', w', k1, k2, k3, k4, k5⟩ := h2 hs hr hun m2
    refine ⟨ρ', w', ?_, k2, k3, k4, k5⟩
    have e1 : (ps.map fun (i, x) => (i, f x)) = ((ps.toList.map (·.1)).zip ((ps.toList.map fun x => e x.2).map (AV.c ρ))).toArray := by
      apply Array.toList_inj.1
      rw [Array.toList_map, List.toList_toArray]
      exact m1
    rw [← e1] at k1
    show ((do pure (.value (← Instr.buildSlice t len (ps.map fun (i, x) => (i, f x)))) : Sem Next)).run P w = _
    simp [k1]
  · rename_i t l c
    injection ht with ht; subst ht
    obtain ⟨ln, cp, x, h1, h2⟩ := makeSliceA_at (P := P) hT (show makeSliceA T M t (e l) (e c) K from h)
    refine ⟨.mk ln cp x, h1, fun {ρ f w M' r} hf hs hr hun => ?_⟩
    obtain ⟨ρ', w', k1, k2, k3, k4, k5⟩ := h2 hs hr hun
    refine ⟨ρ', w', ?_, k2, k3, k4, k5⟩
    rw [← (hf l (by simp)).1, ← (hf c (by simp)).1] at k1
    show ((do pure (.value (← Instr.makeSlice t (f l) (f c))) : Sem Next)).run P w = _
    simp [k1]
  · cases ht
/-! The region. -/
def dstO (ops : Array Oper) (j : Nat) : Option Nat := match ops[j]? with
  | some o => o.dst
  | none => none
def makeOk (ops : Array Oper) : Bool := (List.range ops.size).all fun i => match ops[i]? with
  | none => false
  | some o => match o.dst, takesM o.op with
    | some d, some tk => o.guard.isNone && plainOp o.op && (o.after.toList.all fun e => Nat.blt e.on i) && ((List.range ops.size).all fun j => Nat.beq j i || !(dstO ops j == some d)) &&
        tk.all fun x => match x with
          | .tmp t => (List.range ops.size).all fun j => !(dstO ops j == some t) || (Nat.blt j i && o.after.toList.any fun e => Nat.beq e.on j && Region.binds .any e)
          | _ => true
    | _, _ => false
structure MkAt (ops : Array Oper) (i : Nat) (o : Oper) (d : Nat) (tk : List Operand) : Prop where
  get : ops[i]? = some o
  dst : o.dst = some d
  takes : takesM o.op = some tk
  guard : o.guard = none
  before : ∀ e ∈ o.after, e.on < i
  apart : ∀ j, j < ops.size → j ≠ i → dstO ops j ≠ some d
  deps : ∀ t, Operand.tmp t ∈ tk → ∀ j, j < ops.size → dstO ops j = some t → j < i ∧ ∃ e ∈ o.after, e.on = j ∧ Region.binds .any e = true
theorem makeOk_at {ops : Array Oper} (h : makeOk ops = true) {i : Nat} (hi : i < ops.size) : ∃ o d tk, MkAt ops i o d tk := by
  unfold makeOk at h
  have h1 := List.all_eq_true.1 h i (List.mem_range.2 hi)
  split at h1
  · cases h1
  · rename_i o ho
    split at h1
    · rename_i d tk hd ht
      simp only [Bool.and_eq_true] at h1
      obtain ⟨⟨⟨⟨g1, _⟩, g2⟩, g3⟩, g4⟩ := h1
      refine ⟨o, d, tk, ho, hd, ht, by simpa using g1, ?_, ?_, ?_⟩
      · intro e he
        have := List.all_eq_true.1 g2 e (by simpa using he)
        simpa using this
      · intro j hj hji hd2
        have := List.all_eq_true.1 g3 j (List.mem_range.2 hj)
        simp only [Bool.or_eq_true] at this
        rcases this with h | h
        · exact hji (Nat.eq_of_beq_eq_true h)
        · rw [hd2] at h; simp at h
      · intro t htk j hj hd2
        have := List.all_eq_true.1 g4 _ htk
        simp only at this
        have := List.all_eq_true.1 this j (List.mem_range.2 hj)
        rw [hd2] at this
        simp only [beq_self_eq_true, Bool.not_true, Bool.false_or, Bool.and_eq_true] at this
        refine ⟨by simpa using this.1, ?_⟩
        obtain ⟨e, he, h2⟩ := List.any_eq_true.1 this.2
        simp only [Bool.and_eq_true] at h2
        exact ⟨e, by simpa using he, Nat.eq_of_beq_eq_true h2.1, h2.2⟩
    · cases h1
section
variable {P : Program} {T : List TI} {n : Nat} {W : List Nat} {ops : Array Oper} {a0 : AA} {M0 : AH}
/-- How many new objects the first k operations make. -/
def cM (f : Nat → Ef) : Nat → Nat
  | 0 => 0
  | k + 1 => cM f k + (f k).objs.length
def nmM (M0 : AH) (f : Nat → Ef) (k : Nat) : Nat := M0.length + cM f k
/-- What lies in the temporaries when some of the first k operations were done. -/
def aD (n : Nat) (ops : Array Oper) (a0 : AA) (M0 : AH) (f : Nat → Ef) (d : Nat → Bool) : Nat → AA
  | 0 => a0
  | k + 1 => match d k with
    | true => (aD n ops a0 M0 f d k).put n (dstO ops k) ((f k).v (nmM M0 f k))
    | false => aD n ops a0 M0 f d k
def oD (b : Bool) : Ef → List AO
  | .val _ => []
  | .mk _ _ x => match b with
    | true => [.one true 0 x]
    | false => [.gone]
def mD (f : Nat → Ef) (d : Nat → Bool) : Nat → AH
  | 0 => []
  | k + 1 => mD f d k ++ oD (d k) (f k)
theorem oD_len (b : Bool) (e : Ef) : (oD b e).length = e.objs.length := by cases e <;> cases b <;> rfl
theorem oD_true (e : Ef) : oD true e = e.objs := by cases e <;> rfl
theorem mD_len (f : Nat → Ef) (d : Nat → Bool) : ∀ k, (mD f d k).length = cM f k
  | 0 => rfl
  | k + 1 => by simp only [mD, cM, List.length_append, mD_len f d k, oD_len]
theorem cM_congr {f g : Nat → Ef} : ∀ {k : Nat}, (∀ j, j < k → f j = g j) → cM f k = cM g k
  | 0, _ => rfl
  | k + 1, h => by simp only [cM]; rw [cM_congr fun j hj => h j (by omega), h k (by omega)]
theorem aD_congr {f g : Nat → Ef} {d : Nat → Bool} : ∀ {k : Nat}, (∀ j, j < k → f j = g j) → aD n ops a0 M0 f d k = aD n ops a0 M0 g d k
  | 0, _ => rfl
  | k + 1, h => by
    simp only [aD]
    rw [aD_congr fun j hj => h j (by omega), h k (by omega)]
    unfold nmM
    rw [cM_congr fun j hj => h j (by omega)]
theorem mD_congr {f g : Nat → Ef} {d : Nat → Bool} : ∀ {k : Nat}, (∀ j, j < k → f j = g j) → mD f d k = mD g d k
  | 0, _ => rfl
  | k + 1, h => by simp only [mD]; rw [mD_congr fun j hj => h j (by omega), h k (by omega)]
def tt (_ : Nat) : Bool := true
theorem seq_trace (hT : TabOK P T) (hok : makeOk ops = true) {K : AA → AH → Prop} {Kp : AV → AH → Prop} : ∀ (j k : Nat) (f : Nat → Ef), k + j = ops.size → seqA P T n W ops Kp K (ops.toList.drop k) (aD n ops a0 M0 f tt k) (M0 ++ mD f tt k) →
    ∃ g : Nat → Ef, (∀ i, i < k → g i = f i) ∧ (∀ i, k ≤ i → i < ops.size → ∃ o d tk, MkAt ops i o d tk ∧ EfOK P o tk (evA (aD n ops a0 M0 g tt i)) (g i)) ∧ K (aD n ops a0 M0 g tt ops.size) (M0 ++ mD g tt ops.size)
  | 0, k, f, hk, h => by
    obtain rfl : k = ops.size := by omega
    rw [List.drop_of_length_le (by simp)] at h
    exact ⟨f, fun _ _ => rfl, fun i h1 h2 => by omega, h⟩
  | j + 1, k, f, hk, h => by
    have hkN : k < ops.size := by omega
    obtain ⟨o, d, tk, hm⟩ := makeOk_at hok hkN
    have hdr : ops.toList.drop k = o :: ops.toList.drop (k + 1) := by
      rw [List.drop_eq_getElem_cons (by simpa using hkN)]
      congr 1
      have := hm.get
      rw [Array.getElem?_eq_getElem hkN] at this
      simpa using this
    rw [hdr] at h
    simp only [seqA, stepA] at h
    replace h := (condT_sound h).2
    unfold guardA at h
    rw [hm.guard] at h
    simp only at h
    obtain ⟨e, h1, h2⟩ := effM hT hm.takes h
    have hf : ∀ i, i < k → (fun i => if i = k then e else f i) i = f i := fun i hi => by simp only; rw [if_neg (by omega)]
    have ha : aD n ops a0 M0 (fun i => if i = k then e else f i) tt k = aD n ops a0 M0 f tt k := aD_congr hf
    have hmd : mD (fun i => if i = k then e else f i) tt k = mD f tt k := mD_congr hf
    have hc : cM (fun i => if i = k then e else f i) k = cM f k := cM_congr hf
    have hd : dstO ops k = o.dst := by unfold dstO; rw [hm.get]
    have hlen : (M0 ++ mD f tt k).length = nmM M0 (fun i => if i = k then e else f i) k := by rw [List.length_append, mD_len]; unfold nmM; rw [hc]
    have hek : (fun i => if i = k then e else f i) k = e := if_pos rfl
    obtain ⟨g, g1, g2, g3⟩ := seq_trace hT hok j (k + 1) (fun i => if i = k then e else f i) (by omega) (by
      have e1 : aD n ops a0 M0 (fun i => if i = k then e else f i) tt (k + 1) = (aD n ops a0 M0 f tt k).put n o.dst (e.v (M0 ++ mD f tt k).length) := by
        show (aD n ops a0 M0 (fun i => if i = k then e else f i) tt k).put n (dstO ops k) (((fun i => if i = k then e else f i) k).v _) = _
        rw [ha, hd, hek, hlen]
      have e2 : M0 ++ mD (fun i => if i = k then e else f i) tt (k + 1) = M0 ++ mD f tt k ++ e.objs := by
        show M0 ++ (mD (fun i => if i = k then e else f i) tt k ++ oD true ((fun i => if i = k then e else f i) k)) = _
        rw [hmd, hek, oD_true, List.append_assoc]
      rw [e1, e2]
      exact h1)
    refine ⟨g, fun i hi => by rw [g1 i (by omega)]; exact hf i hi, fun i hik hi => ?_, g3⟩
    rcases Nat.lt_or_ge k i with h3 | h3
    · exact g2 i h3 hi
    · obtain rfl : i = k := by omega
      have e3 : aD n ops a0 M0 g tt i = aD n ops a0 M0 f tt i := aD_congr fun j hj => by rw [g1 j (by omega)]; exact hf j hj
      refine ⟨o, d, tk, hm, ?_⟩
      rw [e3, g1 i (by omega), if_pos rfl]
      exact h2

/-! Temporaries and objects of what was done. -/
theorem aD_not {f : Nat → Ef} {d : Nat → Bool} {t : Nat} : ∀ {k : Nat}, (∀ j, j < k → d j = true → dstO ops j ≠ some t) → aD n ops a0 M0 f d k t = a0 t
  | 0, _ => rfl
  | k + 1, h => by
    have ih := aD_not (f := f) (d := d) (k := k) fun j hj => h j (by omega)
    simp only [aD]
    cases hd : d k with
    | false => exact ih
    | true =>
      have hk := h k (by omega) hd
      simp only
      unfold AA.put
      cases he : dstO ops k with
      | none => exact ih
      | some u =>
        simp only
        have : Nat.beq t u = false := by
          cases hb : Nat.beq t u with
          | false => rfl
          | true => exact absurd (by rw [he, Nat.eq_of_beq_eq_true hb]) hk
        rw [this]; exact ih
theorem aD_get {f : Nat → Ef} {d : Nat → Bool} {t i : Nat} (hi : dstO ops i = some t) (hdi : d i = true) : ∀ {k : Nat}, i < k → (∀ j, j < k → j ≠ i → dstO ops j ≠ some t) →
    aD n ops a0 M0 f d k t = if Nat.blt t n = true then (f i).v (nmM M0 f i) else a0 t
  | 0, h, _ => by omega
  | k + 1, h, hu => by
    rcases Nat.lt_or_ge i k with h1 | h1
    · have ih := aD_get (f := f) (d := d) hi hdi (k := k) h1 fun j hj => hu j (by omega)
      have hk := hu k (by omega) (by omega)
      simp only [aD]
      cases hd : d k with
      | false => exact ih
      | true =>
        simp only
        unfold AA.put
        cases he : dstO ops k with
        | none => exact ih
        | some u =>
          simp only
          have : Nat.beq t u = false := by
            cases hb : Nat.beq t u with
            | false => rfl
            | true => exact absurd (by rw [he, Nat.eq_of_beq_eq_true hb]) hk
          rw [this]; exact ih
    · obtain rfl : i = k := by omega
      have hn := aD_not (n := n) (a0 := a0) (M0 := M0) (f := f) (d := d) (ops := ops) (t := t) (k := i) fun j hj _ => hu j (by omega) (by omega)
      simp only [aD, hdi]
      unfold AA.put
      rw [hi]
      simp only [Nat.beq_refl, Bool.true_and]
      cases hb : Nat.blt t n with
      | true => rfl
      | false => exact hn
theorem cM_mono {f : Nat → Ef} {i : Nat} : ∀ {k : Nat}, i ≤ k → cM f i ≤ cM f k
  | 0, h => by obtain rfl : i = 0 := by omega
               exact Nat.le_refl _
  | k + 1, h => by
    rcases Nat.lt_or_ge k i with h1 | h1
    · obtain rfl : i = k + 1 := by omega
      exact Nat.le_refl _
    · exact Nat.le_trans (cM_mono h1) (Nat.le_add_right _ _)
theorem isMk_len {e : Ef} (h : e.isMk = true) : e.objs.length = 1 := by cases e; cases h; rfl
theorem cM_lt {f : Nat → Ef} {i k : Nat} (hi : (f i).isMk = true) (h : i < k) : cM f i < cM f k := by
  have := cM_mono (f := f) (show i + 1 ≤ k from h)
  simp only [cM, isMk_len hi] at this
  omega
theorem mD_at {f : Nat → Ef} {d : Nat → Bool} {i l c : Nat} {x : Cont} (hi : f i = .mk l c x) : ∀ {k : Nat}, i < k → (mD f d k)[cM f i]? = some (match d i with | true => .one true 0 x | false => .gone)
  | 0, h => by omega
  | k + 1, h => by
    simp only [mD]
    rcases Nat.lt_or_ge i k with h1 | h1
    · rw [List.getElem?_append_left (by rw [mD_len]; exact cM_lt (by rw [hi]; rfl) h1)]
      exact mD_at hi h1
    · obtain rfl : i = k := by omega
      rw [List.getElem?_append_right (by rw [mD_len]; exact Nat.le_refl _), mD_len, Nat.sub_self, hi]
      cases d i <;> rfl
theorem mD_set {f : Nat → Ef} {d d' : Nat → Bool} {i l c : Nat} {x : Cont} (hi : f i = .mk l c x) (hd : d' i = true) (ho : ∀ j, j ≠ i → d' j = d j) : ∀ {k : Nat}, i < k → (mD f d k).set (cM f i) (.one true 0 x) = mD f d' k
  | 0, h => by omega
  | k + 1, h => by
    simp only [mD]
    rcases Nat.lt_or_ge i k with h1 | h1
    · rw [List.set_append_left _ _ (by rw [mD_len]; exact cM_lt (by rw [hi]; rfl) h1), mD_set hi hd ho h1, ho k (by omega)]
    · obtain rfl : i = k := by omega
      have e : mD f d' i = mD f d i := by
        clear h h1
        have : ∀ m, m ≤ i → mD f d' m = mD f d m := by
          intro m
          induction m with
          | zero => intro _; rfl
          | succ m ih => intro hm; simp only [mD]; rw [ih (by omega), ho m (by omega)]
        exact this i (Nat.le_refl _)
      rw [List.set_append_right _ _ (by rw [mD_len]; exact Nat.le_refl _), mD_len, Nat.sub_self, e, hi, hd]
      cases d i <;> rfl
theorem mD_val {f : Nat → Ef} {d d' : Nat → Bool} {i : Nat} {v : AV} (hi : f i = .val v) (ho : ∀ j, j ≠ i → d' j = d j) : ∀ k : Nat, mD f d' k = mD f d k
  | 0 => rfl
  | k + 1 => by
    simp only [mD]
    rw [mD_val hi ho k]
    by_cases e : k = i
    · subst e; rw [hi]; rfl
    · rw [ho k e]
theorem mD_none {f : Nat → Ef} : ∀ k, ∀ o ∈ mD f (fun _ => false) k, o = .gone
  | 0, o, h => by cases h
  | k + 1, o, h => by
    simp only [mD] at h
    rcases List.mem_append.1 h with h | h
    · exact mD_none k o h
    · cases hf : f k with
      | val v => rw [hf] at h; cases h
      | mk l c x => rw [hf] at h; exact List.mem_singleton.1 h
theorem slot_gones {M L : AH} (hL : ∀ o ∈ L, o = .gone) (i g : Nat) : slot (M ++ L) i g = slot M i g := by
  unfold slot
  rcases Nat.lt_or_ge i M.length with h | h
  · rw [List.getElem?_append_left h]
  · rw [List.getElem?_append_right h, List.getElem?_eq_none h]
    cases ho : L[i - M.length]? with
    | none => rfl
    | some o => rw [hL o (List.mem_of_getElem? ho)]; rfl
theorem sim_gones {ρ : Env} {M L : AH} {w : World} (hs : Sim ρ M w) (hL : ∀ o ∈ L, o = .gone) : Sim ρ (M ++ L) w ∧ Ext ρ M w ρ (M ++ L) w := by
  have hget : ∀ (i : Nat) (o : AO), (M ++ L)[i]? = some o → o ≠ AO.gone → M[i]? = some o := by
    intro i o h hn
    rcases Nat.lt_or_ge i M.length with h1 | h1
    · rwa [List.getElem?_append_left h1] at h
    · rw [List.getElem?_append_right h1] at h
      exact absurd (hL o (List.mem_of_getElem? h)) hn
  refine ⟨⟨fun i g h => by have := hs.dom i g h; rw [List.length_append]; omega, fun i g own g' x h => hs.tag i g own g' x (hget i _ h (by simp)), fun i g own m x h => hs.fam i g own m x (hget i _ h (by simp)), fun i g own x h => ?_, fun i g x i' g' own' x' q q' h h' => ?_⟩,
    fun _ _ _ h => h, Nat.le_refl _, fun _ _ _ => rfl, fun i g x q h1 h2 _ => ?_, rfl, rfl, rfl⟩
  · rw [slot_gones hL] at h; exact hs.holds i g own x h
  · rw [slot_gones hL] at h h'; exact hs.apart i g x i' g' own' x' q q' h h'
  · rw [slot_gones hL] at h1; exact ⟨i, g, x, q, h1, h2, rfl⟩
/-- How many are left. -/
def restN (d : Nat → Bool) : Nat → Nat
  | 0 => 0
  | k + 1 => restN d k + (match d k with | true => 0 | false => 1)
theorem restN_zero {d : Nat → Bool} : ∀ {k : Nat}, restN d k = 0 → ∀ j, j < k → d j = true
  | 0, _, j, hj => by omega
  | k + 1, h, j, hj => by
    simp only [restN] at h
    cases hd : d k with
    | false => rw [hd] at h; simp at h
    | true =>
      rw [hd] at h
      simp only [Nat.add_zero] at h
      rcases (show j < k ∨ j = k by omega) with h1 | rfl
      · exact restN_zero (by omega) j h1
      · exact hd
theorem restN_set {d d' : Nat → Bool} {i : Nat} (hd : d i = false) (hd' : d' i = true) (ho : ∀ j, j ≠ i → d' j = d j) : ∀ {k : Nat}, i < k → restN d' k + 1 = restN d k
  | 0, h => by omega
  | k + 1, h => by
    simp only [restN]
    rcases Nat.lt_or_ge i k with h1 | h1
    · have := restN_set hd hd' ho h1
      rw [ho k (by omega)]; omega
    · obtain rfl : i = k := by omega
      have : ∀ m, m ≤ i → restN d' m = restN d m := by
        intro m
        induction m with
        | zero => intro _; rfl
        | succ m ih => intro hm; simp only [restN]; rw [ih (by omega), ho m (by omega)]
      rw [this i (Nat.le_refl _), hd, hd']
      rfl
variable {r : Option Nat} {Q : Exit → Act → World → Prop} {ds : List Nat} {D : List Deferred}
theorem make_any (hok : makeOk ops = true) {g : Nat → Ef} {ρ0 : Env} {w0 : World} (hdom : ∀ i gg, (ρ0 i gg).isSome = true → i < M0.length)
    (hg : ∀ i, i < ops.size → ∃ o d tk, MkAt ops i o d tk ∧ EfOK P o tk (evA (aD n ops a0 M0 g tt i)) (g i))
    (hK : ∀ ρ' w' act', ActR ρ' D n (aD n ops a0 M0 g tt ops.size) act' → Sim ρ' (M0 ++ mD g tt ops.size) w' → Ext ρ0 M0 w0 ρ' (M0 ++ mD g tt ops.size) w' → Q .normal act' w') :
    ∀ (f : Nat) (l : Array Bool) (ρ : Env) (w : World) (act : Act), l.size = ops.size → restN (fun k => l.getD k false) ops.size ≤ f →
      Sim ρ (M0 ++ mD g (fun k => l.getD k false) ops.size) w → Ext ρ0 M0 w0 ρ (M0 ++ mD g (fun k => l.getD k false) ops.size) w → ActR ρ D n (aD n ops a0 M0 g (fun k => l.getD k false) ops.size) act →
      (∀ k, k < ops.size → (g k).isMk = true → l.getD k false = false → ∀ gg, ρ (nmM M0 g k) gg = none) → anyS r P ops Q (fun _ => True) ds f l act w := by
  -- when all are done
  have fin : ∀ (l : Array Bool) (ρ : Env) (w : World) (act : Act), (∀ k, k < ops.size → l.getD k false = true) → Sim ρ (M0 ++ mD g (fun k => l.getD k false) ops.size) w → Ext ρ0 M0 w0 ρ (M0 ++ mD g (fun k => l.getD k false) ops.size) w → ActR ρ D n (aD n ops a0 M0 g (fun k => l.getD k false) ops.size) act → Q .normal act w := by
    intro l ρ w act hall hs hE ha
    have e1 : ∀ k, k ≤ ops.size → mD g (fun k => l.getD k false) k = mD g tt k := by
      intro k
      induction k with
      | zero => intro _; rfl
      | succ k ih => intro hk; simp only [mD]; rw [ih (by omega), hall k (by omega)]; rfl
    have e2 : ∀ k, k ≤ ops.size → aD n ops a0 M0 g (fun k => l.getD k false) k = aD n ops a0 M0 g tt k := by
      intro k
      induction k with
      | zero => intro _; rfl
      | succ k ih => intro hk; simp only [aD]; rw [ih (by omega), hall k (by omega)]; rfl
    rw [e1 _ (Nat.le_refl _)] at hs hE
    rw [e2 _ (Nat.le_refl _)] at ha
    exact hK ρ w act ha hs hE
  have undone : ∀ (l : Array Bool), l.size = ops.size → Region.ready .any ops l = [] → ∀ k, k < ops.size → l.getD k false = true := by
    intro l hl hr k
    induction k using Nat.strongRecOn with
    | _ k ih =>
      intro hk
      cases hd : l.getD k false with
      | true => rfl
      | false =>
        exfalso
        obtain ⟨o, d, tk, hm⟩ := makeOk_at hok hk
        have : k ∈ Region.ready .any ops l := by
          rw [mem_ready]
          refine ⟨?_, o, hm.get, fun e he _ => ih e.on (hm.before e he) (Nat.lt_trans (hm.before e he) hk)⟩
          have hkl : k < l.size := by omega
          simp only [Array.getD, hkl, dif_pos] at hd ⊢
          exact hd
        rw [hr] at this; cases this
  intro f
  induction f with
  | zero =>
    intro l ρ w act hl hf hs hE ha hu
    have hall := restN_zero (show restN (fun k => l.getD k false) ops.size = 0 by omega)
    refine ⟨?_, fin l ρ w act hall hs hE ha⟩
    rw [List.eq_nil_iff_forall_not_mem]
    intro k hk
    obtain ⟨h1, o, ho, _⟩ := mem_ready.1 hk
    have hkN := (Array.getElem?_eq_some_iff.1 ho).1
    have h2 := hall k hkN
    have hkl : k < l.size := by omega
    simp only [Array.getD, hkl, dif_pos] at h1 h2
    rw [h1] at h2; cases h2
  | succ f ihf =>
    intro l ρ w act hl hf hs hE ha hu
    refine ⟨fun hr => fin l ρ w act (undone l hl hr) hs hE ha, fun i hi o' ho' => ?_⟩
    obtain ⟨h1, o1, ho1, hdone⟩ := mem_ready.1 hi
    have hiN := (Array.getElem?_eq_some_iff.1 ho1).1
    obtain ⟨o, d, tk, hm, hef⟩ := hg i hiN
    have e0 := hm.get
    rw [ho'] at e0; injection e0 with e0; subst e0
    have e0 := hm.get
    rw [ho1] at e0; injection e0 with e0; subst e0
    have hil : i < l.size := by omega
    have hdi : l.getD i false = false := by simp only [Array.getD, hil, dif_pos] at h1 ⊢; exact h1
    have hdst : dstO ops i = some d := by unfold dstO; rw [hm.get]; exact hm.dst
    -- what it takes
    have hev : ∀ x ∈ tk, evA (aD n ops a0 M0 g (fun k => l.getD k false) ops.size) x = evA (aD n ops a0 M0 g tt i) x := by
      intro x hx
      cases x with
      | tmp t =>
        show aD n ops a0 M0 g (fun k => l.getD k false) ops.size t = aD n ops a0 M0 g tt i t
        by_cases hex : ∃ j, j < ops.size ∧ dstO ops j = some t
        · obtain ⟨j, hj, hjt⟩ := hex
          obtain ⟨hji, e, he, hej, hb⟩ := hm.deps t hx j hj hjt
          have hdj : l.getD j false = true := by rw [← hej]; exact hdone e he hb
          obtain ⟨oj, dj, tj, hmj⟩ := makeOk_at hok hj
          have hdjt : dj = t := by
            have : dstO ops j = some dj := by unfold dstO; rw [hmj.get]; exact hmj.dst
            rw [hjt] at this; injection this with this; exact this.symm
          have huq : ∀ k, k < ops.size → k ≠ j → dstO ops k ≠ some t := fun k hk hkj => by rw [← hdjt]; exact hmj.apart k hk hkj
          rw [aD_get hjt hdj hj huq, aD_get (d := tt) hjt rfl hji fun k hk => huq k (by omega)]
        · rw [aD_not fun j hj _ h => hex ⟨j, hj, h⟩, aD_not fun j hj _ h => hex ⟨j, by omega, h⟩]
      | const v => rfl
      | global g => rfl
      | func f => rfl
    have hact : ∀ x ∈ tk, act.eval x = (evA (aD n ops a0 M0 g tt i) x).c ρ ∧ (evA (aD n ops a0 M0 g tt i) x).ok ρ := by
      intro x hx
      have := ha.ev x
      rw [hev x hx] at this
      exact this
    -- behind it
    have hd' : ∀ k, (l.setIfInBounds i true).getD k false = if k = i then true else l.getD k false := by
      intro k
      simp only [Array.getD_eq_getD_getElem?, Array.getElem?_setIfInBounds]
      by_cases e : i = k
      · subst e; simp [hil]
      · rw [if_neg e, if_neg (fun h => e h.symm)]
    have hdi' : (fun k => (l.setIfInBounds i true).getD k false) i = true := by simp only [hd']; simp
    have hdo : ∀ j, j ≠ i → (fun k => (l.setIfInBounds i true).getD k false) j = (fun k => l.getD k false) j := fun j hj => by simp only [hd']; rw [if_neg hj]
    have haD : aD n ops a0 M0 g (fun k => (l.setIfInBounds i true).getD k false) ops.size = (aD n ops a0 M0 g (fun k => l.getD k false) ops.size).put n (some d) ((g i).v (nmM M0 g i)) := by
      funext t
      by_cases ht : t = d
      · subst ht
        rw [aD_get hdst hdi' hiN hm.apart]
        have hn : aD n ops a0 M0 g (fun k => l.getD k false) ops.size t = a0 t := aD_not fun j hj hdj h => by
          by_cases e : j = i
          · subst e; have hdj' : l.getD j false = true := hdj; rw [hdi] at hdj'; cases hdj'
          · exact hm.apart j hj e h
        unfold AA.put
        simp only [Nat.beq_refl, Bool.true_and, hn]
        cases Nat.blt t n <;> rfl
      · have hp : (aD n ops a0 M0 g (fun k => l.getD k false) ops.size).put n (some d) ((g i).v (nmM M0 g i)) t = aD n ops a0 M0 g (fun k => l.getD k false) ops.size t := by
          unfold AA.put
          simp only
          have : Nat.beq t d = false := by
            cases hb : Nat.beq t d with
            | false => rfl
            | true => exact absurd (Nat.eq_of_beq_eq_true hb) ht
          rw [this]; rfl
        rw [hp]
        by_cases hex : ∃ j, j < ops.size ∧ dstO ops j = some t ∧ l.getD j false = true
        · obtain ⟨j, hj, hjt, hdj⟩ := hex
          obtain ⟨oj, dj, tj, hmj⟩ := makeOk_at hok hj
          have hdjt : dj = t := by
            have : dstO ops j = some dj := by unfold dstO; rw [hmj.get]; exact hmj.dst
            rw [hjt] at this; injection this with this; exact this.symm
          have hji : j ≠ i := fun e => by subst e; rw [hdst] at hjt; injection hjt with hjt; exact ht hjt.symm
          have huq : ∀ k, k < ops.size → k ≠ j → dstO ops k ≠ some t := fun k hk hkj => by rw [← hdjt]; exact hmj.apart k hk hkj
          rw [aD_get hjt (show (l.setIfInBounds i true).getD j false = true by rw [hd' j, if_neg hji]; exact hdj) hj huq, aD_get hjt hdj hj huq]
        · rw [aD_not fun j hj hdj h => ?_, aD_not fun j hj hdj h => hex ⟨j, hj, h, hdj⟩]
          by_cases e : j = i
          · subst e; rw [hdst] at h; injection h with h; exact ht h.symm
          · have hdj' : (l.setIfInBounds i true).getD j false = true := hdj
            rw [hd' j, if_neg e] at hdj'; exact hex ⟨j, hj, h, hdj'⟩
    have hrest := restN_set (d := fun k => l.getD k false) hdi hdi' hdo hiN
    unfold opW
    rw [if_pos (by unfold Region.wanted; rw [hm.guard])]
    cases hgi : g i with
    | val v =>
      rw [hgi] at hef haD
      obtain ⟨v1, v2⟩ := hef hact
      rw [v2 w]
      have hmD : mD g (fun k => (l.setIfInBounds i true).getD k false) ops.size = mD g (fun k => l.getD k false) ops.size := mD_val hgi hdo _
      refine ⟨fun _ => .inl rfl, ihf _ ρ w _ (by simpa using hl) (by omega) (by rw [hmD]; exact hs) (by rw [hmD]; exact hE) ?_ fun k hk hmk hdk => hu k hk hmk ?_⟩
      · rw [haD, hm.dst]; exact ha.put (some d) v1
      · rw [hd' k] at hdk
        split at hdk
        · cases hdk
        · exact hdk
    | mk ln cp x =>
      rw [hgi] at hef haD
      have hgone : (M0 ++ mD g (fun k => l.getD k false) ops.size)[nmM M0 g i]? = some .gone := by
        unfold nmM
        rw [List.getElem?_append_right (by omega), Nat.add_sub_cancel_left, mD_at hgi hiN]
        simp only [hdi]
      have hun := hu i hiN (by rw [hgi]; rfl) hdi
      obtain ⟨ρ', w', k1, k2, k3, k4, k5⟩ := hef hact hs hgone hun
      rw [k1]
      have hset : (M0 ++ mD g (fun k => l.getD k false) ops.size).set (nmM M0 g i) (.one true 0 x) = M0 ++ mD g (fun k => (l.setIfInBounds i true).getD k false) ops.size := by
        unfold nmM
        rw [List.set_append_right _ _ (by omega), Nat.add_sub_cancel_left, mD_set hgi hdi' hdo hiN]
      rw [hset] at k3 k4
      refine ⟨fun _ => .inr trivial, ihf _ ρ' w' _ (by simpa using hl) (by omega) k3 (hE.trans k4) ?_ fun k hk hmk hdk gg => ?_⟩
      · rw [haD, hm.dst]; exact (ha.ext k4.env).put (some d) k2
      · rw [hd' k] at hdk
        split at hdk
        · cases hdk
        · rename_i hki
          rw [k5 _ gg ?_]
          · exact hu k hk hmk hdk gg
          · unfold nmM
            rcases Nat.lt_or_ge k i with h | h
            · have := cM_lt hmk h; omega
            · have := cM_lt (f := g) (i := i) (k := k) (by rw [hgi]; rfl) (by omega); omega
theorem makeA_sound (hT : TabOK P T) (hok : makeOk ops = true) {K : AA → AH → Prop} {Kp : AV → AH → Prop} {ρ0 : Env} {w0 : World} {act : Act} (hs : Sim ρ0 M0 w0) (ha : ActR ρ0 D n a0 act) (h : seqA P T n W ops Kp K ops.toList a0 M0)
    (hK : ∀ a' act' M' ρ' w', K a' M' → ActR ρ' D n a' act' → Sim ρ' M' w' → Ext ρ0 M0 w0 ρ' M' w' → Q .normal act' w') :
    anyS r P ops Q (fun _ => True) ds ops.size (Array.replicate ops.size false) act w0 := by
  obtain ⟨g, _, g2, g3⟩ := seq_trace (a0 := a0) (M0 := M0) (n := n) (W := W) hT hok (K := K) (Kp := Kp) ops.size 0 (fun _ => .val .ns) (by omega) (by
    show seqA P T n W ops Kp K (ops.toList.drop 0) a0 (M0 ++ [])
    rw [List.append_nil]; exact h)
  have hd0 : (fun k => (Array.replicate ops.size false).getD k false) = fun _ => false := by
    funext k
    simp only [Array.getD_eq_getD_getElem?, Array.getElem?_replicate]
    split <;> rfl
  have hm0 := mD_none (f := g) ops.size
  obtain ⟨s1, s2⟩ := sim_gones hs hm0
  have ha0 : aD n ops a0 M0 g (fun _ => false) ops.size = a0 := by
    funext t
    exact aD_not fun j _ h => by cases h
  refine make_any hok hs.dom (fun i hi => g2 i (Nat.zero_le _) hi) (fun ρ' w' act' h1 h2 h3 => hK _ _ _ _ _ g3 h1 h2 h3) ops.size _ ρ0 w0 act (by simp) ?_ (by rw [hd0]; exact s1) (by rw [hd0]; exact s2) (by rw [hd0, ha0]; exact ha) fun k hk hmk _ gg => ?_
  · have : ∀ (d : Nat → Bool) k, restN d k ≤ k := by
      intro d k
      induction k with
      | zero => exact Nat.le_refl _
      | succ k ih => simp only [restN]; split <;> omega
    exact this _ _
  · cases hh : ρ0 (nmM M0 g k) gg with
    | none => rfl
    | some q =>
      have := hs.dom (nmM M0 g k) gg (by rw [hh]; rfl)
      unfold nmM at this; omega
end
end Go.Proofs.Yteinenklppbjkaa

set_option linter.unusedVariables false
set_option linter.unusedSimpArgs false
open Go.RowKit
namespace Go.Proofs.Yteinenklppbjkaa

inductive AEx where
  | normal
  | exit (id : Nat)
  | ret

/-- What is deferred besides: the marks of ranges over functions, whose blocks are empty. -/
def Marks (B : Nat) (D D' : List Deferred) (w : World) : Prop :=
  ∃ rs : List Nat, D' = rs.map (fun r => { target := .collected r, args := #[] }) ++ D ∧ rs.Nodup ∧ ∀ r ∈ rs, B ≤ r ∧ w.heap[r]? = some (.deferred (some []))
theorem Marks.refl (B : Nat) (D : List Deferred) (w : World) : Marks B D D w := ⟨[], rfl, List.nodup_nil, fun _ h => by cases h⟩
theorem Holds.not_deferred {ρ : Env} {own : Bool} {x : Cont} {b base : Nat} {w : World} (h : Holds ρ own x b base w) {c : Option (List Deferred)} : w.heap[b]? ≠ some (.deferred c) := by
  intro e
  rcases h.all with ⟨_, c, el, fr, h1, _⟩ | ⟨_, _, h1⟩
  · rw [e] at h1; cases h1
  · cases x with
    | map kk es => obtain ⟨_, _, h1, _⟩ := h1; rw [e] at h1; cases h1
    | loop l st pd fn n a ps as bd df => obtain ⟨_, _, h1, _⟩ := h1; rw [e] at h1; cases h1
    | cells _ => exact h1.elim
    | ints _ _ _ => exact h1.elim
    | bools _ _ => exact h1.elim
    | tab _ _ _ _ => exact h1.elim
theorem Sim.not_deferred {ρ : Env} {M : AH} {w : World} (h : Sim ρ M w) {i g : Nat} {own : Bool} {x : Cont} {q : Nat × Nat} (hs : slot M i g = some (own, x)) (hq : ρ i g = some (some q)) {c : Option (List Deferred)} : w.heap[q.1]? ≠ some (.deferred c) := by
  rcases h.holds i g own x hs with ⟨q', e1, e2⟩ | ⟨e1, _⟩
  · rw [hq] at e1; injection e1 with e1; injection e1 with e1; subst e1; exact e2.not_deferred
  · rw [hq] at e1; cases e1
theorem Marks.keep {B : Nat} {D D' : List Deferred} {ρ ρ' : Env} {M M' : AH} {w w' : World} (hs : Sim ρ M w) (hE : Ext ρ M w ρ' M' w') (h : Marks B D D' w) : Marks B D D' w' := by
  obtain ⟨rs, h0, hn, h1⟩ := h
  refine ⟨rs, h0, hn, fun r hr => ⟨(h1 r hr).1, ?_⟩⟩
  have h2 := (h1 r hr).2
  rw [hE.frame r (Array.getElem?_eq_some_iff.1 h2).1 (fun i g x q h3 h4 h5 => hs.not_deferred h3 h4 (by rw [h5]; exact h2))]
  exact h2
theorem Marks.trans {B : Nat} {D D' D'' : List Deferred} {ρ ρ' : Env} {M M' : AH} {w w' : World} (hB : B ≤ w.heap.size) (hs : Sim ρ M w) (hE : Ext ρ M w ρ' M' w') (h : Marks B D D' w) (h' : Marks w.heap.size D' D'' w') : Marks B D D'' w' := by
  have hk := h.keep hs hE
  obtain ⟨rs, rfl, hn, h1⟩ := h
  obtain ⟨rs', rfl, hn', h2⟩ := h'
  obtain ⟨rs2, e2, _, h3⟩ := hk
  have hlt : ∀ r ∈ rs, r < w.heap.size := fun r hr => (Array.getElem?_eq_some_iff.1 (h1 r hr).2).1
  have hrs : ∀ r ∈ rs, w'.heap[r]? = some (.deferred (some [])) := fun r hr => by
    have h2 := (h1 r hr).2
    rw [hE.frame r (hlt r hr) (fun i g x q h3 h4 h5 => hs.not_deferred h3 h4 (by rw [h5]; exact h2))]
    exact h2
  refine ⟨rs' ++ rs, by simp, ?_, fun r hr => ?_⟩
  · rw [List.nodup_append]
    refine ⟨hn', hn, fun a ha b hb e => ?_⟩
    subst e
    have := (h2 a ha).1
    have := hlt a hb
    omega
  · rcases List.mem_append.1 hr with hr | hr
    · exact ⟨Nat.le_trans hB (h2 r hr).1, (h2 r hr).2⟩
    · exact ⟨(h1 r hr).1, hrs r hr⟩

theorem sim_shut {ρ : Env} {M : AH} {w : World} (hs : Sim ρ M w) {r : Nat} {c : Option (List Deferred)} (h : w.heap[r]? = some (.deferred c)) (o : Obj) : Sim ρ M (w.putObj r o) := by
  refine ⟨hs.dom, hs.tag, hs.fam, fun i g own x hsl => ?_, hs.apart⟩
  rcases hs.holds i g own x hsl with ⟨q, e1, e2⟩ | e
  · refine .inl ⟨q, e1, e2.ext (fun _ _ _ h => h) (World.putObj_heap_other fun e => ?_)⟩
    exact hs.not_deferred hsl e1 (by rw [e]; exact h)
  · exact .inr e
theorem ext_shut {ρ0 ρ : Env} {M0 M : AH} {w0 w : World} (hE : Ext ρ0 M0 w0 ρ M w) {r : Nat} (hr : w0.heap.size ≤ r) (o : Obj) : Ext ρ0 M0 w0 ρ M (w.putObj r o) :=
  ⟨hE.env, by simpa using hE.size, fun b hb hn => by rw [World.putObj_heap_other (by omega)]; exact hE.frame b hb hn, hE.fresh, hE.os, hE.tape, hE.output⟩
/-- A function's end: its marks are come to. -/
theorem leaves_marks {F : Fence} {n : Nat} {P : Program} {fn : Func} {tmps : Array Value} {R : Ending → World → Prop} {ρ0 ρ : Env} {M0 M : AH} {w0 : World} {u : FrameMode} (hu : u ≠ .run)
    (hend : ∀ w, Sim ρ M w → Ext ρ0 M0 w0 ρ M w → LeavesIn F n P fn tmps R [] u w) : ∀ (rs : List Nat) (w : World), rs.Nodup → (∀ r ∈ rs, w0.heap.size ≤ r ∧ w.heap[r]? = some (.deferred (some []))) → Sim ρ M w → Ext ρ0 M0 w0 ρ M w →
    LeavesInM F n P fn tmps R (rs.map (fun r => { target := .collected r, args := #[] })) u w
  | [], w, _, _, hs, hE => hend w hs hE
  | r :: rs, w, hn, h, hs, hE => by
    obtain ⟨h1, h2⟩ := h r List.mem_cons_self
    refine ⟨hu, .inl ⟨r, _, rfl, run_takeDeferred h2, leaves_marks hu hend rs _ (List.nodup_cons.1 hn).2 (fun r' hr' => ⟨(h r' (List.mem_cons_of_mem _ hr')).1, ?_⟩) (sim_shut hs h2 _) (ext_shut hE h1 _)⟩⟩
    rw [World.putObj_heap_other (fun e => (List.nodup_cons.1 hn).1 (by rw [← e]; exact hr'))]
    exact (h r' (List.mem_cons_of_mem _ hr')).2

def LiftQ (ρ0 : Env) (M0 : AH) (w0 : World) (D : List Deferred) (n : Nat) (Q : AEx → AA → AH → Prop) (Kp : AV → AH → Prop) (e : Exit) (act : Act) (w' : World) : Prop :=
  match e with
  | .normal => ∃ ρ' M' a' D', Sim ρ' M' w' ∧ Ext ρ0 M0 w0 ρ' M' w' ∧ Marks w0.heap.size D D' w' ∧ ActR ρ' D' n a' act ∧ Q .normal a' M'
  | .exit id => ∃ ρ' M' a' D', Sim ρ' M' w' ∧ Ext ρ0 M0 w0 ρ' M' w' ∧ Marks w0.heap.size D D' w' ∧ ActR ρ' D' n a' act ∧ Q (.exit id) a' M'
  | .ret => ∃ ρ' M' a' D', Sim ρ' M' w' ∧ Ext ρ0 M0 w0 ρ' M' w' ∧ Marks w0.heap.size D D' w' ∧ ActR ρ' D' n a' act ∧ Q .ret a' M'
  | .panic ch => ∃ ρ' M' v D', Sim ρ' M' w' ∧ Ext ρ0 M0 w0 ρ' M' w' ∧ Marks w0.heap.size D D' w' ∧ act.defers = D' ∧ ch = [{ v := v.c ρ', recovered := false }] ∧ v.ok ρ' ∧ Kp v M'
  | _ => False

theorem LiftQ.from {ρ0 ρ : Env} {M0 M : AH} {w0 w : World} {D0 D : List Deferred} {n : Nat} {Q : AEx → AA → AH → Prop} {Kp : AV → AH → Prop} {e : Exit} {act : Act} {w' : World} (hE : Ext ρ0 M0 w0 ρ M w) (hs : Sim ρ M w) (hM : Marks w0.heap.size D0 D w)
    (h : LiftQ ρ M w D n Q Kp e act w') : LiftQ ρ0 M0 w0 D0 n Q Kp e act w' := by
  cases e with
  | normal => obtain ⟨ρ', M', a', D', h1, h2, h3, h4⟩ := h; exact ⟨ρ', M', a', D', h1, hE.trans h2, hM.trans hE.size hs h2 h3, h4⟩
  | exit id => obtain ⟨ρ', M', a', D', h1, h2, h3, h4⟩ := h; exact ⟨ρ', M', a', D', h1, hE.trans h2, hM.trans hE.size hs h2 h3, h4⟩
  | ret => obtain ⟨ρ', M', a', D', h1, h2, h3, h4⟩ := h; exact ⟨ρ', M', a', D', h1, hE.trans h2, hM.trans hE.size hs h2 h3, h4⟩
  | panic ch => obtain ⟨ρ', M', v, D', h1, h2, h3, h4⟩ := h; exact ⟨ρ', M', v, D', h1, hE.trans h2, hM.trans hE.size hs h2 h3, h4⟩
  | goto l => exact h.elim
  | outgrown => exact h.elim

/-! Temporaries that stay. -/
abbrev Pin := List (Nat × Value)
def PinOK (pin : Pin) (act : Act) : Prop := ∀ p ∈ pin, act.tmps.getD p.1 undef = p.2
def offD (pin : Pin) (d : Option Nat) : Bool := pin.all fun p => !(d == some p.1)
theorem PinOK.put {pin : Pin} {act : Act} {d : Option Nat} {v : Value} (h : PinOK pin act) (hd : offD pin d = true) : PinOK pin (act.put d v) := by
  intro p hp
  have h1 := h p hp
  have h2 := List.all_eq_true.1 hd p hp
  cases d with
  | none => exact h1
  | some t =>
    have ht : t ≠ p.1 := fun e => by subst e; simp at h2
    show (act.tmps.setIfInBounds t v).getD p.1 undef = _
    rw [Array.getD_eq_getD_getElem?, Array.getElem?_setIfInBounds, if_neg ht, ← Array.getD_eq_getD_getElem?]
    exact h1
def offC (pin : Pin) : Code → Bool
  | .region _ ops _ => ops.toList.all fun o => offD pin o.dst
  | .seq a b => offC pin a && offC pin b
  | .cond _ a b => offC pin a && offC pin b
  | .block _ a => offC pin a
  | .loop a => offC pin a
  | .scope a => offC pin a
  | .rangeFunc .. => pin.isEmpty
  | _ => true
theorem offC_nil (c : Code) : offC [] c = true := by
  induction c with
  | region id ops d => simp [offC, offD]
  | seq a b h1 h2 => simp [offC, h1, h2]
  | cond o a b h1 h2 => simp [offC, h1, h2]
  | block id a h => simp [offC, h]
  | loop a h => simp [offC, h]
  | scope a h => simp [offC, h]
  | rangeFunc f ps a b => rfl
  | _ => rfl
theorem PinOK.nil (act : Act) : PinOK [] act := fun _ h => by cases h
section
variable {P : Program} {r : Option Nat} {pin : Pin} {Q : Exit → Act → World → Prop}
theorem wpOp_pin {ops : Array Oper} {i : Nat} {K : Act → World → Prop} {a : Act} {w : World} (hno : ¬ LetsOut Q) (hoff : ∀ o ∈ ops.toList, offD pin o.dst = true) (hp : PinOK pin a) (h : wpOpIn (FW r) 0 P ops Q i K a w) :
    wpOpIn (FW r) 0 P ops (fun e a w => Q e a w ∧ PinOK pin a) i (fun a w => K a w ∧ PinOK pin a) a w := by
  unfold wpOpIn at *
  cases ho : ops[i]? with
  | none => rw [ho] at h; exact ⟨h, hp⟩
  | some o =>
    rw [ho] at h
    simp only at h ⊢
    have hd : offD pin o.dst = true := hoff o (by have := Array.mem_of_getElem? ho; simpa using this)
    split
    · rename_i hw
      rw [if_pos hw] at h
      unfold Oper.wpIn at *
      refine ⟨h.1, ?_⟩
      have hh := h.2
      generalize (o.semAt (FW r).round a.eval).run P w = res at *
      have hlo : ∀ {R : Exit → Act → World → Prop}, LetsOut Q → LetsOut R := fun h => absurd h hno
      cases res with
      | ok x w' =>
        cases x <;> simp only [Oper.uponIn] at hh ⊢ <;>
          first
            | exact ⟨hh, hp.put hd⟩
            | exact ⟨hh, PinOK.put (act := { a with defers := _ :: a.defers }) hp hd⟩
            | exact ⟨hh.1, CallsIn.mono hh.2 (fun e w'' he => by cases e <;> first | exact ⟨he, hp.put hd⟩ | exact ⟨he, hp⟩ | exact hlo he)⟩
            | exact ⟨hh.1, RowsIn.mono hh.2 (fun _ _ he => ⟨he, hp.put hd⟩)⟩
            | exact ⟨hh.1, RoundIn.mono hh.2 (fun e w'' he => by cases e <;> first | exact ⟨he, hp.put hd⟩ | exact ⟨he, hp⟩ | exact hlo he)⟩
      | halt x w' => cases x <;> simp only [Oper.uponIn] at hh ⊢ <;> first | exact ⟨hh, hp⟩ | exact hh
    · rename_i hw
      rw [if_neg hw] at h
      exact ⟨h.1, h.2, hp.put hd⟩
theorem wpOpIn_mono' {ops : Array Oper} {i : Nat} {K K' : Act → World → Prop} {a : Act} {w : World} (hK : ∀ a w, K a w → K' a w) (h : wpOpIn (FW r) 0 P ops Q i K a w) : wpOpIn (FW r) 0 P ops Q i K' a w := by
  unfold wpOpIn at *
  split
  · rename_i ho; rw [ho] at h; exact hK _ _ h
  · rename_i o ho
    rw [ho] at h
    simp only at h
    split
    · rename_i hw; rw [if_pos hw] at h; exact Oper.wpIn_mono hK h
    · rename_i hw; rw [if_neg hw] at h; exact ⟨h.1, hK _ _ h.2⟩
theorem wpOps_pin {ops : Array Oper} (hno : ¬ LetsOut Q) (hoff : ∀ o ∈ ops.toList, offD pin o.dst = true) : ∀ (l : List Nat) (a : Act) (w : World), PinOK pin a → wpOpsIn (FW r) 0 P ops Q l a w → wpOpsIn (FW r) 0 P ops (fun e a w => Q e a w ∧ PinOK pin a) l a w
  | [], a, w, hp, h => ⟨h, hp⟩
  | i :: l, a, w, hp, h => by
    rw [wpOpsIn_cons] at *
    exact wpOpIn_mono' (fun a w h => wpOps_pin hno hoff l a w h.2 h.1) (wpOp_pin hno hoff hp h)
theorem wpAny_pin {ops : Array Oper} (hno : ¬ LetsOut Q) (hoff : ∀ o ∈ ops.toList, offD pin o.dst = true) : ∀ (f : Nat) (l : Array Bool) (a : Act) (w : World), PinOK pin a → wpAnyIn (FW r) 0 P .any ops Q f l a w → wpAnyIn (FW r) 0 P .any ops (fun e a w => Q e a w ∧ PinOK pin a) f l a w
  | 0, l, a, w, hp, h => ⟨h.1, h.2, hp⟩
  | f + 1, l, a, w, hp, h => ⟨fun hr => ⟨h.1 hr, hp⟩, fun i hi => wpOpIn_mono' (fun a w h => wpAny_pin hno hoff f _ a w h.2 h.1) (wpOp_pin hno hoff hp (h.2 i hi))⟩
end
/-- What a code comes to, and what stays. -/
def LiftP (pin : Pin) (ρ0 : Env) (M0 : AH) (w0 : World) (D : List Deferred) (n : Nat) (Q : AEx → AA → AH → Prop) (Kp : AV → AH → Prop) (e : Exit) (act : Act) (w' : World) : Prop := LiftQ ρ0 M0 w0 D n Q Kp e act w' ∧ PinOK pin act
theorem LiftQ.noOut {ρ0 : Env} {M0 : AH} {w0 : World} {D : List Deferred} {n : Nat} {Q : AEx → AA → AH → Prop} {Kp : AV → AH → Prop} : ¬ LetsOut (LiftQ ρ0 M0 w0 D n Q Kp) := fun ⟨_, _, h⟩ => h

/-- A code, from an abstract state. -/
@[irreducible] def WA (P : Program) (r : Option Nat) (D0 : List Deferred) (n : Nat) (c : Code) (Q : AEx → AA → AH → Prop) (Kp : AV → AH → Prop) (a : AA) (M : AH) : Prop :=
  ∀ pin D ρ w act, offC pin c = true → PinOK pin act → Sim ρ M w → ActR ρ D n a act → c.wpIn (FW r) 0 P (LiftP pin ρ M w D n Q Kp) act w

/-- Where a code runs: the program, its types, how many temporaries, which of them hold sums that wrap, the plans of the drawn regions (order, last ones, names that are loaded), the round, what is deferred. -/
structure Cx where
  P : Program
  T : List TI
  n : Nat
  W : List Nat := []
  pl : Nat → Option (List (Nat × Nat) × List Nat) := fun _ => none
  B : Nat → List Nat := fun _ => []
  r : Option Nat := none
  D : List Deferred := []

def codeA (x : Cx) : Code → (AEx → AA → AH → Prop) → (AV → AH → Prop) → AA → AH → Prop
  | .skip, Q, _, a, M => Q .normal a M
  | .label _, Q, _, a, M => Q .normal a M
  | .seq c d, Q, Kp, a, M => codeA x c (fun e a M => match e with
      | .normal => codeA x d Q Kp a M
      | e => Q e a M) Kp a M
  | .cond o c d, Q, Kp, a, M => match evA a o with
    | .tt => codeA x c Q Kp a M
    | .ff => codeA x d Q Kp a M
    | .bo b => (b = true → codeA x c Q Kp a M) ∧ (b = false → codeA x d Q Kp a M)
    | _ => False
  | .block id c, Q, Kp, a, M => codeA x c (fun e a M => match e with
      | .exit id' => match Nat.beq id' id with
        | true => Q .normal a M
        | false => Q (.exit id') a M
      | e => Q e a M) Kp a M
  | .exit id, Q, _, a, M => Q (.exit id) a M
  | .ret, Q, _, a, M => Q .ret a M
  | .region id ops draw, Q, Kp, a, M => match draw with
    | false => seqA x.P x.T x.n x.W ops Kp (fun a M => Q .normal a M) ops.toList a M
    | true => match x.pl id with
      | some (plan, _) => match plan with
        | [] => seqA x.P x.T x.n x.W ops Kp (fun a M => Q .normal a M) ops.toList a M
        | p :: plan => drawA x.P x.T x.n x.W ops Kp (fun a M => Q .normal a M) (x.B id) [] (p :: plan) a M
      | none => False
  | .loop c, Q, Kp, a, M => WA x.P x.r x.D x.n (.loop c) Q Kp a M
  | .rangeFunc f ps as c, Q, Kp, a, M => WA x.P x.r x.D x.n (.rangeFunc f ps as c) Q Kp a M
  | _, _, _, _, _ => False

/-- The plans fit. -/
def plansB (pl : Nat → Option (List (Nat × Nat) × List Nat)) : Code → Bool
  | .region id ops true => match pl id with
    | some (plan, ds) => (match plan with
      | [] => makeOk ops
      | p :: plan => planOk ops ds [] (p :: plan) (Array.replicate ops.size false)) && ops.all (fun o => plainOp o.op) && Nat.ble plan.length ops.size
    | none => true
  | .seq a b => plansB pl a && plansB pl b
  | .cond _ a b => plansB pl a && plansB pl b
  | .block _ a => plansB pl a
  | .loop a => plansB pl a
  | .rangeFunc _ _ a b => plansB pl a && plansB pl b
  | .scope a => plansB pl a
  | _ => true


theorem codeA_pin {x : Cx} {pin : Pin} (hT : TabOK x.P x.T) (hm : x.P.follows .mixedOrders = true) {ρ0 : Env} {M0 : AH} {w0 : World} {D0 : List Deferred} :
    ∀ (c : Code) (hpl : plansB x.pl c = true) (Q : AEx → AA → AH → Prop) (Kp : AV → AH → Prop) (a : AA) (M : AH) (ρ : Env) (w : World) (act : Act) (D : List Deferred), Sim ρ M w → Ext ρ0 M0 w0 ρ M w → Marks w0.heap.size D0 D w → ActR ρ D x.n a act → offC pin c = true → PinOK pin act → codeA x c Q Kp a M →
      c.wpIn (FW x.r) 0 x.P (LiftP pin ρ0 M0 w0 D0 x.n Q Kp) act w := by
  intro c
  induction c with
  | skip => exact fun _ Q Kp a M ρ w act D hs hE hM ha _ hp h => wpIn_skip ⟨⟨ρ, M, a, D, hs, hE, hM, ha, h⟩, hp⟩
  | label l => exact fun _ Q Kp a M ρ w act D hs hE hM ha _ hp h => wpIn_label ⟨⟨ρ, M, a, D, hs, hE, hM, ha, h⟩, hp⟩
  | exit id => exact fun _ Q Kp a M ρ w act D hs hE hM ha _ hp h => wpIn_exit ⟨⟨ρ, M, a, D, hs, hE, hM, ha, h⟩, hp⟩
  | ret => exact fun _ Q Kp a M ρ w act D hs hE hM ha _ hp h => wpIn_ret ⟨⟨ρ, M, a, D, hs, hE, hM, ha, h⟩, hp⟩
  | seq c d ihc ihd =>
    intro hpl Q Kp a M ρ w act D hs hE hM ha hof hp h
    simp only [plansB, Bool.and_eq_true] at hpl
    simp only [offC, Bool.and_eq_true] at hof
    refine wpIn_seq (wpIn_mono (ihc hpl.1 _ Kp a M ρ w act D hs hE hM ha hof.1 hp h) fun e act' w' hq => ?_)
    obtain ⟨hq, hp'⟩ := hq
    cases e with
    | normal => obtain ⟨ρ', M', a', D', h1, h2, hM', h3, h4⟩ := hq; exact ihd hpl.2 Q Kp a' M' ρ' w' act' D' h1 h2 hM' h3 hof.2 hp' h4
    | exit id => exact ⟨hq, hp'⟩
    | ret => exact ⟨hq, hp'⟩
    | panic ch => exact ⟨hq, hp'⟩
    | goto l => exact hq.elim
    | outgrown => exact hq.elim
  | cond o c d ihc ihd =>
    intro hpl Q Kp a M ρ w act D hs hE hM ha hof hp h
    simp only [plansB, Bool.and_eq_true] at hpl
    simp only [offC, Bool.and_eq_true] at hof
    have he := (ha.ev o).1
    simp only [codeA] at h
    split at h <;> rename_i hh <;> (try rw [hh] at he)
    · exact wpIn_cond_true he (ihc hpl.1 Q Kp a M ρ w act D hs hE hM ha hof.1 hp h)
    · exact wpIn_cond_false he (ihd hpl.2 Q Kp a M ρ w act D hs hE hM ha hof.2 hp h)
    · exact wpIn_cond_split he (fun hb => ihc hpl.1 Q Kp a M ρ w act D hs hE hM ha hof.1 hp (h.1 hb)) (fun hb => ihd hpl.2 Q Kp a M ρ w act D hs hE hM ha hof.2 hp (h.2 hb))
    · exact h.elim
  | block id c ih =>
    intro hpl Q Kp a M ρ w act D hs hE hM ha hof hp h
    refine wpIn_block (wpIn_mono (ih hpl _ Kp a M ρ w act D hs hE hM ha hof hp h) fun e act' w' hq => ?_)
    obtain ⟨hq, hp'⟩ := hq
    cases e with
    | normal => exact ⟨hq, hp'⟩
    | exit id' =>
      obtain ⟨ρ', M', a', D', h1, h2, hM', h3, h4⟩ := hq
      simp only [Exit.inBlock]
      simp only at h4
      split at h4
      · rename_i hb
        rw [if_pos (Nat.eq_of_beq_eq_true hb)]
        exact ⟨⟨ρ', M', a', D', h1, h2, hM', h3, h4⟩, hp'⟩
      · rename_i hb
        rw [if_neg (Nat.ne_of_beq_eq_false hb)]
        exact ⟨⟨ρ', M', a', D', h1, h2, hM', h3, h4⟩, hp'⟩
    | ret => exact ⟨hq, hp'⟩
    | panic ch => exact ⟨hq, hp'⟩
    | goto l => exact hq.elim
    | outgrown => exact hq.elim
  | loop c ih =>
    intro hpl Q Kp a M ρ w act D hs hE hM ha hof hp h
    simp only [codeA] at h
    unfold WA at h
    exact wpIn_mono (h pin D ρ w act hof hp hs ha) fun e act' w' hq => ⟨hq.1.from hE hs hM, hq.2⟩
  | rangeFunc f ps as c =>
    intro hpl Q Kp a M ρ w act D hs hE hM ha hof hp h
    simp only [codeA] at h
    unfold WA at h
    exact wpIn_mono (h pin D ρ w act hof hp hs ha) fun e act' w' hq => ⟨hq.1.from hE hs hM, hq.2⟩
  | region id ops draw =>
    intro hpl Q Kp a M ρ w act D hs hE hM ha hof hp h
    simp only [codeA] at h
    split at h
    · have hof' : ∀ o ∈ ops.toList, offD pin o.dst = true := fun o ho => List.all_eq_true.1 hof o ho
      refine wpIn_region (wpOps_pin LiftQ.noOut hof' _ _ _ hp ?_)
      have := seqA_sound (r := x.r) (Q := LiftQ ρ0 M0 w0 D0 x.n Q Kp) hT ops.toList 0 a M ρ w act (by simp) hs (Ext.refl _ _ _) ha h
        (fun a' act' M' ρ' w' h1 h2 h3 h4 => ⟨ρ', M', a', D, h3, hE.trans h4, hM.keep hs h4, h2, h1⟩) (fun rv M' ρ' w' act' h0 h1 h2 h3 h4 => ⟨ρ', M', rv, D, h3, hE.trans h4, hM.keep hs h4, h0, rfl, h2, h1⟩)
      rw [show List.range ops.size = List.range' 0 ops.toList.length by rw [List.range_eq_range', Array.length_toList]]
      exact this
    · split at h
      · rename_i plan ds hpl'
        simp only [plansB, hpl', Bool.and_eq_true] at hpl
        obtain ⟨⟨hb1, hb2⟩, hb3⟩ := hpl
        have hof' : ∀ o ∈ ops.toList, offD pin o.dst = true := fun o ho => List.all_eq_true.1 hof o ho
        obtain ⟨B, hB⟩ : ∃ B, x.B id = B := ⟨_, rfl⟩
        rw [hB] at h
        have hpn := hp
        have hp : ∀ (i : Nat) o, ops[i]? = some o → plainOp o.op = true := fun i o hi => by
          exact Array.all_eq_true_iff_forall_mem.1 hb2 o (Array.mem_of_getElem? hi)
        have hs' : Sim ρ M { w with drawn := w.drawn + 1 } := ⟨hs.dom, hs.tag, hs.fam, fun i g own y hy => by
          rcases hs.holds i g own y hy with ⟨q, h1, h2⟩ | h1
          · exact .inl ⟨q, h1, Holds.ext (w := w) (fun _ _ _ h => h) rfl h2⟩
          · exact .inr h1, hs.apart⟩
        have hE' : Ext ρ0 M0 w0 ρ M { w with drawn := w.drawn + 1 } := ⟨hE.env, hE.size, hE.frame, hE.fresh, hE.os, hE.tape, hE.output⟩
        have hM' : Marks w0.heap.size D0 D { w with drawn := w.drawn + 1 } := hM
        have hEr : Ext ρ M { w with drawn := w.drawn + 1 } ρ M { w with drawn := w.drawn + 1 } := Ext.refl _ _ _
        cases plan with
        | nil =>
          refine wpIn_region_any hm (wpAny_pin LiftQ.noOut hof' _ _ _ _ hpn (wpAnyIn_of_anyS (S := fun _ => True) (ds := ds) hp _ _ _ _ ?_))
          exact makeA_sound (r := x.r) (Q := LiftQ ρ0 M0 w0 D0 x.n Q Kp) (w0 := { w with drawn := w.drawn + 1 }) hT hb1 hs' ha h
            (fun a' act' M' ρ' w' h1 h2 h3 h4 => ⟨ρ', M', a', D, h3, hE'.trans h4, hM'.keep hs' h4, h2, h1⟩)
        | cons p plan =>
        refine wpIn_region_any hm (wpAny_pin LiftQ.noOut hof' _ _ _ _ hpn (wpAnyIn_of_anyS (S := SB ρ M B) (ds := ds) hp _ _ _ _ ?_))
        exact drawA_sound (r := x.r) (Q := LiftQ ρ0 M0 w0 D0 x.n Q Kp) (w0 := { w with drawn := w.drawn + 1 }) hT hp
          (fun c act' d v w' hq => by
            obtain ⟨ρ', M', u, D', h1, h2, hm, h3, h4⟩ := hq
            exact ⟨ρ', M', u, D', h1, h2, hm, by cases d <;> exact h3, h4⟩)
          (p :: plan) [] _ ops.size a M ρ _ act (SB ρ M B) (Nat.le_trans (List.length_filter_le _ _) (by simpa using hb3)) hb1 Closed.none hs' hEr ha (fun _ => SB.of hs' B) (fun _ h => h) (fun _ ρ' M' w' k1 k2 k3 => SB_keep (SB.of hs' B) k1 k2 k3) h
          (fun a' act' M' ρ' w' h1 h2 h3 h4 => ⟨ρ', M', a', D, h3, hE'.trans h4, hM'.keep hs' h4, h2, h1⟩) (fun rv M' ρ' w' act' h0 h1 h2 h3 h4 => ⟨ρ', M', rv, D, h3, hE'.trans h4, hM'.keep hs' h4, h0, rfl, h2, h1⟩)
      · exact h.elim
  | scope c => exact fun _ Q Kp a M ρ w act D hs hE hM ha _ _ h => h.elim
  | goto l => exact fun _ Q Kp a M ρ w act D hs hE hM ha _ _ h => h.elim
  | refuse why => exact fun _ Q Kp a M ρ w act D hs hE hM ha _ _ h => h.elim

theorem codeA_from {x : Cx} (hT : TabOK x.P x.T) (hm : x.P.follows .mixedOrders = true) {ρ0 : Env} {M0 : AH} {w0 : World} {D0 : List Deferred} :
    ∀ (c : Code) (hpl : plansB x.pl c = true) (Q : AEx → AA → AH → Prop) (Kp : AV → AH → Prop) (a : AA) (M : AH) (ρ : Env) (w : World) (act : Act) (D : List Deferred), Sim ρ M w → Ext ρ0 M0 w0 ρ M w → Marks w0.heap.size D0 D w → ActR ρ D x.n a act → codeA x c Q Kp a M →
      c.wpIn (FW x.r) 0 x.P (LiftQ ρ0 M0 w0 D0 x.n Q Kp) act w :=
  fun c hpl Q Kp a M ρ w act D hs hE hM ha h => wpIn_mono (codeA_pin (pin := []) hT hm c hpl Q Kp a M ρ w act D hs hE hM ha (offC_nil c) (PinOK.nil act) h) fun _ _ _ h => h.1

theorem codeA_sound {x : Cx} (hT : TabOK x.P x.T) (hm : x.P.follows .mixedOrders = true) {c : Code} (hpl : plansB x.pl c = true) {Q : AEx → AA → AH → Prop} {Kp : AV → AH → Prop} {a : AA} {M : AH} (h : codeA x c Q Kp a M) :
    WA x.P x.r x.D x.n c Q Kp a M := by
  unfold WA
  exact fun pin D ρ w act hof hp hs ha => codeA_pin hT hm c hpl Q Kp a M ρ w act D hs (Ext.refl _ _ _) (Marks.refl _ _ _) ha hof hp h

/-! Calls. -/
def normB : AV → AV
  | .tt => .bo true | .ff => .bo false | .bo x => .bo x | .int k n => .int k n | .str x => .str x | .np => .np | .ptr i g off => .ptr i g off | .pel i g sz j o => .pel i g sz j o
  | .ns => .ns | .sl i g off n c => .sl i g off n c | .nf => .nf | .fn q a b => .fn q a b | .ni => .ni | .ifc t v => .ifc t v | .nm => .nm | .mp i g => .mp i g
  | .agg l => .agg l | .tup l => .tup l | .raw v => .raw v
theorem normB_c (ρ : Env) (v : AV) : (normB v).c ρ = v.c ρ := by cases v <;> rfl
theorem normB_ok {ρ : Env} {v : AV} (h : v.ok ρ) : (normB v).ok ρ := by cases v <;> exact h
def resL (T : List TI) (M : AH) (a : AA) : List ResultVar → (List AV → Prop) → Prop
  | [], K => K []
  | .tmp t :: l, K => resL T M a l fun vs => forceA (normB (a t)) fun v => K (v :: vs)
  | .cell ad t :: l, K => loadA T M t (a ad) fun v => resL T M a l fun vs => K (v :: vs)
def postA (T : List TI) (rs : List ResultVar) (K : AV → AH → Prop) (e : AEx) (a : AA) (M : AH) : Prop :=
  match e with
  | .normal | .ret => resL T M a rs fun vs => match vs with
    | [v] => K v M
    | vs => K (.tup vs) M
  | _ => False
def initA (args : List AV) : AA := fun k => match args[k]? with
  | some v => v
  | none => .tup []

def resS (tmps : Array Value) : ResultVar → Sem Value
  | .tmp t => pure (tmps.getD t undef)
  | .cell a t => do loadVar t (← asAddr (tmps.getD a undef))
theorem results_eq (fn : Func) (tmps : Array Value) : results fn tmps = (do
    let vs ← fn.results.mapM (resS tmps)
    pure (if h : vs.size = 1 then vs[0] else .tuple vs)) := by
  unfold results
  have : (fun r => match r with
    | ResultVar.tmp t => (pure (tmps.getD t undef) : Sem Value)
    | ResultVar.cell a t => do loadVar t (← asAddr (tmps.getD a undef))) = resS tmps := by
    funext r; cases r <;> rfl
  rw [← this]; rfl

theorem resL_sound {P : Program} {T : List TI} (hT : TabOK P T) {M : AH} {a : AA} {ρ : Env} {w : World} {act : Act} {D : List Deferred} {n : Nat} (hs : Sim ρ M w) (ha : ActR ρ D n a act) :
    ∀ (l : List ResultVar) (K : List AV → Prop), resL T M a l K → ∃ vs, K vs ∧ AV.okl ρ vs ∧ (l.mapM (resS act.tmps)).run P w = Result.ok (AV.cl ρ vs) w
  | [], K, h => ⟨[], h, trivial, by simp [AV.cl]⟩
  | .tmp t :: l, K, h => by
    obtain ⟨vs, h1, h2, h3⟩ := resL_sound hT hs ha l _ h
    refine ⟨normB (a t) :: vs, forceA_eq h1, ⟨normB_ok (ha.ok t), h2⟩, ?_⟩
    rw [List.mapM_cons]
    simp [h3, ha.get t, AV.cl, resS, normB_c]
  | .cell ad t :: l, K, h => by
    obtain ⟨v, h1, h2, h3⟩ := loadA_sound (P := P) hT hs.known (hs.id _) h
    obtain ⟨vs, k1, k2, k3⟩ := resL_sound hT hs ha l _ h1
    refine ⟨v :: vs, k1, ⟨h2, k2⟩, ?_⟩
    have h4 := h3 w (hs.id _)
    have hrun : (resS act.tmps (.cell ad t)).run P w = Result.ok (v.c ρ) w := by
      simp only [resS]
      rw [ha.get ad]
      simp only [Instr.loadAt] at h4
      generalize (a ad).c ρ = u at h4
      cases u with
      | pointer o => cases o with
        | none => simp [Instr.sureAddr] at h4
        | some ad => simpa [Instr.sureAddr, asAddr] using h4
      | _ => simp [Instr.sureAddr] at h4
    rw [List.mapM_cons]
    simp only [Sem.run_bind]
    rw [hrun]
    simp [k3, AV.cl]

theorem CallA.intro {x : Cx} (hT : TabOK x.P x.T) (hm : x.P.follows .mixedOrders = true) {g : Nat} {fn : Func} {c : Code} (hf : x.P.funcs[g]? = some fn) (hb : fn.body = some c) (hg : goodF x.P g = true) (hpl : plansB x.pl c = true) (hr : x.r = none) (hD : x.D = [])
    {args : List AV} {M : AH} {K Kp : AV → AH → Prop} (hn : fn.ntmps = x.n) (hle : Nat.ble args.length x.n = true)
    (h : codeA x c (postA x.T fn.results.toList K) Kp (initA args) M) : CallA x.P g args M K Kp := by
  unfold CallA
  refine ⟨hg, fun ρ w hs hok => ?_⟩
  have hle' : args.length ≤ x.n := by simpa using hle
  have hlen : (AV.cl ρ args).toArray.size = args.length := by simp [AV.cl_eq]
  have ha : ActR ρ x.D x.n (initA args) { tmps := (AV.cl ρ args).toArray ++ Array.replicate (fn.ntmps - (AV.cl ρ args).toArray.size) undef, defers := [] } := by
    refine ⟨hD.symm, ?_, fun t => ?_, fun t => ?_⟩
    · rw [Array.size_append, Array.size_replicate, hlen, hn]; omega
    · simp only [initA]; split
      · exact (AV.okl_iff ρ args).1 hok _ (List.mem_of_getElem? ‹_›)
      · exact trivial
    · simp only [initA, Array.getD_eq_getD_getElem?]
      by_cases ht : t < args.length
      · rw [Array.getElem?_append_left (by rw [hlen]; exact ht)]
        simp [AV.cl_eq, List.getElem?_eq_getElem ht]
      · rw [Array.getElem?_append_right (by rw [hlen]; omega), List.getElem?_eq_none (by omega)]
        simp only [Array.getElem?_replicate]
        split <;> rfl
  have hw := codeA_from hT hm c hpl _ Kp _ M ρ w _ x.D hs (Ext.refl _ _ _) (Marks.refl _ _ _) ha h
  rw [hD] at hw
  refine callsIn_wide.1 (callsIn_of_wp_marks (F := Fence.wide) (n := 0) hf hb trivial (wpIn_mono (Q := LiftQ ρ M w [] x.n (postA x.T fn.results.toList K) Kp) ?_ fun e act w' hq => ?_))
  · rw [hr] at hw; exact hw
  · have fin : ∀ (ρ' : Env) (M' : AH) (a' : AA) (D' : List Deferred), Sim ρ' M' w' → Ext ρ M w ρ' M' w' → Marks w.heap.size [] D' w' → ActR ρ' D' x.n a' act → (resL x.T M' a' fn.results.toList fun vs => match vs with | [v] => K v M' | vs => K (.tup vs) M') →
        LeavesInM Fence.wide 0 x.P fn act.tmps (EndR ρ M w K Kp) act.defers .returning w' := by
      intro ρ' M' a' D' h1 h2 ⟨rs, hrs, hnd, hbl⟩ h3 h4
      rw [h3.defers, hrs, List.append_nil]
      refine leaves_marks (by simp) (fun w2 g1 g2 => ?_) rs w' hnd hbl h1 h2
      obtain ⟨vs, k1, k2, k3⟩ := resL_sound hT g1 h3 _ _ h4
      have hmap : (fn.results.mapM (resS act.tmps)).run x.P w2 = Result.ok (AV.cl ρ' vs).toArray w2 := by
        rw [Array.mapM_eq_mapM_toList]
        simp [k3]
      show ∃ v, (results fn act.tmps).run x.P w2 = .ok v w2 ∧ EndR ρ M w K Kp (.returned v) w2
      rw [results_eq]
      simp only [Sem.run_bind, hmap]
      match vs, k1, k2 with
      | [v], k1, k2 => exact ⟨v.c ρ', by simp [AV.cl], ρ', M', g1, g2, v, rfl, k2.1, k1⟩
      | [], k1, k2 => exact ⟨(AV.tup []).c ρ', by simp [AV.cl, AV.c], ρ', M', g1, g2, .tup [], rfl, k2, k1⟩
      | v :: u :: vs, k1, k2 => exact ⟨(AV.tup (v :: u :: vs)).c ρ', by simp [AV.cl, AV.c], ρ', M', g1, g2, .tup (v :: u :: vs), rfl, k2, k1⟩
    cases e with
    | normal => obtain ⟨ρ', M', a', D', h1, h2, hm, h3, h4⟩ := hq; exact fin ρ' M' a' D' h1 h2 hm h3 h4
    | ret => obtain ⟨ρ', M', a', D', h1, h2, hm, h3, h4⟩ := hq; exact fin ρ' M' a' D' h1 h2 hm h3 h4
    | exit id => obtain ⟨ρ', M', a', D', h1, h2, hm, h3, h4⟩ := hq; exact h4.elim
    | panic ch =>
      obtain ⟨ρ', M', v, D', h1, h2, ⟨rs, hrs, hnd, hbl⟩, h3, h4, h5, h6⟩ := hq
      show LeavesInM Fence.wide 0 x.P fn act.tmps (EndR ρ M w K Kp) act.defers (.panicking ch) w'
      rw [h3, hrs, List.append_nil]
      refine leaves_marks (F := Fence.wide) (n := 0) (P := x.P) (fn := fn) (tmps := act.tmps) (R := EndR ρ M w K Kp) (u := .panicking ch) (by simp) (fun w2 g1 g2 => ?_) rs w' hnd hbl h1 h2
      show EndR ρ M w K Kp (.panicked ch) w2
      exact ⟨ρ', M', g1, g2, v, h4, h5, h6⟩
    | goto l => exact hq.elim
    | outgrown => exact hq.elim

end Go.Proofs.Yteinenklppbjkaa

set_option linter.unusedVariables false
set_option linter.unusedSimpArgs false
open Go.RowKit
namespace Go.Proofs.Yteinenklppbjkaa

/-! Names below a bound. -/
mutual
def AV.nb (k : Nat) : AV → Bool
  | .ptr i _ _ => Nat.blt i k
  | .pel i _ _ _ _ => Nat.blt i k
  | .sl i _ _ _ _ => Nat.blt i k
  | .mp i _ => Nat.blt i k
  | .fn _ a b => AV.nbl k a && AV.nbl k b
  | .ifc _ v => v.nb k
  | .agg l => AV.nbl k l
  | .tup l => AV.nbl k l
  | .raw _ => true | .bo _ => true | .tt => true | .ff => true | .int _ _ => true | .str _ => true | .np => true | .ns => true | .nf => true | .ni => true | .nm => true
def AV.nbl (k : Nat) : List AV → Bool
  | [] => true
  | v :: l => v.nb k && AV.nbl k l
end
def cutE (ρ : Env) (k : Nat) : Env := fun i g => if i < k then ρ i g else none
theorem cutE_lt {ρ : Env} {k i : Nat} (h : Nat.blt i k = true) (g : Nat) : cutE ρ k i g = ρ i g := by
  have : i < k := by simpa using h
  simp [cutE, this]
mutual
theorem AV.nb_ok {ρ : Env} {k : Nat} : ∀ v : AV, v.nb k = true → v.ok ρ → v.ok (cutE ρ k)
  | .ptr i g _ => fun h => by simp only [AV.nb] at h; simp only [AV.ok, cutE_lt h]; exact fun h => h
  | .pel i g _ _ _ => fun h => by simp only [AV.nb] at h; simp only [AV.ok, cutE_lt h]; exact fun h => h
  | .sl i g _ _ _ => fun h => by simp only [AV.nb] at h; simp only [AV.ok, cutE_lt h]; exact fun h => h
  | .mp i g => fun h => by simp only [AV.nb] at h; simp only [AV.ok, cutE_lt h]; exact fun h => h
  | .fn _ a b => fun h k => by
    simp only [AV.nb, Bool.and_eq_true] at h; simp only [AV.ok] at k ⊢
    exact ⟨AV.nbl_ok a h.1 k.1, AV.nbl_ok b h.2 k.2⟩
  | .ifc _ v => fun h k => by simp only [AV.nb] at h; simp only [AV.ok] at k ⊢; exact AV.nb_ok v h k
  | .agg l => fun h k => by simp only [AV.nb] at h; simp only [AV.ok] at k ⊢; exact AV.nbl_ok l h k
  | .tup l => fun h k => by simp only [AV.nb] at h; simp only [AV.ok] at k ⊢; exact AV.nbl_ok l h k
  | .bo _ => fun _ _ => trivial | .tt => fun _ _ => trivial | .ff => fun _ _ => trivial | .int _ _ => fun _ _ => trivial | .str _ => fun _ _ => trivial
  | .np => fun _ _ => trivial | .ns => fun _ _ => trivial | .nf => fun _ _ => trivial | .ni => fun _ _ => trivial | .nm => fun _ _ => trivial | .raw _ => fun _ _ => trivial
theorem AV.nbl_ok {ρ : Env} {k : Nat} : ∀ l : List AV, AV.nbl k l = true → AV.okl ρ l → AV.okl (cutE ρ k) l
  | [] => fun _ _ => trivial
  | v :: l => fun h k => by
    simp only [AV.nbl, Bool.and_eq_true] at h; simp only [AV.okl] at k ⊢
    exact ⟨AV.nb_ok v h.1 k.1, AV.nbl_ok l h.2 k.2⟩
end
theorem cutE_le {ρ : Env} {k : Nat} : ∀ i g l, cutE ρ k i g = some l → ρ i g = some l := by
  intro i g l h
  unfold cutE at h
  split at h
  · exact h
  · cases h
theorem AV.nb_c {ρ : Env} {k : Nat} {v : AV} (h : v.nb k = true) (hok : v.ok ρ) : v.c (cutE ρ k) = v.c ρ :=
  (AV.c_ext cutE_le v (AV.nb_ok v h hok)).symm

def Cont.nb (k : Nat) : Cont → Prop
  | .cells cs => AV.nbl k cs = true
  | .ints _ _ _ => True
  | .bools _ _ => True
  | .tab _ n get _ => ∀ j, AV.nbl k (get j) = true
  | .map _ es => ∀ p ∈ es, p.2.nb k = true
  | .loop _ _ _ _ _ a _ _ _ _ => ∀ t, (a t).nb k = true
def AO.nb (k : Nat) : AO → Prop
  | .gone => True
  | .one _ _ x => x.nb k
  | .fam _ _ x => ∀ g, (x g).nb k
def nbH (k : Nat) : AH → Prop
  | [] => True
  | o :: M => o.nb k ∧ nbH k M
theorem nbl_get {k : Nat} : ∀ {l : List AV}, AV.nbl k l = true → ∀ v ∈ l, v.nb k = true
  | [], _, v, hv => by cases hv
  | u :: l, h, v, hv => by
    simp only [AV.nbl, Bool.and_eq_true] at h
    rcases List.mem_cons.1 hv with rfl | hv
    · exact h.1
    · exact nbl_get h.2 v hv
theorem Cont.nb_at {k : Nat} {x : Cont} (h : x.nb k) {j : Nat} {v : AV} (hv : x.at j = some v) : v.nb k = true := by
  cases x with
  | cells cs => exact nbl_get h v (List.mem_of_getElem? hv)
  | ints kk xs c => simp only [Cont.at, Option.map_eq_some_iff] at hv; obtain ⟨z, _, rfl⟩ := hv; rfl
  | bools xs c => simp only [Cont.at, Option.map_eq_some_iff] at hv; obtain ⟨z, _, rfl⟩ := hv; rfl
  | tab sz n get c =>
    simp only [Cont.at] at hv
    split at hv
    · exact nbl_get (h _) v (List.mem_of_getElem? hv)
    · cases hv
  | map _ _ => simp [Cont.at] at hv
  | loop _ _ _ _ _ _ _ _ _ _ => simp [Cont.at] at hv
theorem Holds.cut {ρ : Env} {k : Nat} {own : Bool} {x : Cont} {b base : Nat} {w : World} (hn : x.nb k) (h : Holds ρ own x b base w) : Holds (cutE ρ k) own x b base w := by
  rcases h.all with ⟨hx, c, e, fr, k1, k2, k3, k4⟩ | ⟨hx, hb, hs⟩
  · refine .mk' hx ⟨c, e, fr, k1, k2, fun j v hv => ?_, k4⟩
    have hb := Cont.nb_at hn hv
    have := k3 j v hv
    exact ⟨AV.nb_ok v hb this.1, by rw [AV.nb_c hb this.1]; exact this.2⟩
  · refine ⟨.inr ⟨hx, hb, ?_⟩⟩
    cases x with
    | map kk es =>
      obtain ⟨ents, clock, h1, h2, h3, h4, h5⟩ := hs
      refine ⟨ents, clock, h1, ?_, fun p hp => ⟨AV.nb_ok _ (hn p hp) (h3 p hp).1, (h3 p hp).2⟩, h4, h5⟩
      rw [h2]
      exact List.map_congr_left fun p hp => by rw [AV.nb_c (hn p hp) (h3 p hp).1]
    | loop l st pd fn n a ps as bd df =>
      obtain ⟨h1, tmps, h2, h3, h4⟩ := hs
      exact ⟨h1, tmps, h2, h3, fun t => ⟨AV.nb_ok _ (hn t) (h4 t).1, by rw [AV.nb_c (hn t) (h4 t).1]; exact (h4 t).2⟩⟩
    | cells _ => exact hs.elim
    | ints _ _ _ => exact hs.elim
    | bools _ _ => exact hs.elim
    | tab _ _ _ _ => exact hs.elim
theorem nbH_get {k : Nat} : ∀ {M : AH}, nbH k M → ∀ {i : Nat} {o : AO}, M[i]? = some o → o.nb k
  | [], _, i, o, h => by simp at h
  | p :: M, hn, 0, o, h => by simp at h; subst h; exact hn.1
  | p :: M, hn, i + 1, o, h => nbH_get hn.2 (by simpa using h)

/-- The second heap knows less. -/
def subA : AH → AH → Prop
  | _, [] => True
  | o :: M, o' :: N => (match o' with
    | .gone => True
    | o' => o' = o) ∧ subA M N
  | [], _ :: _ => False
theorem subA_refl : ∀ M : AH, subA M M
  | [] => trivial
  | o :: M => ⟨by cases o <;> first | trivial | rfl, subA_refl M⟩
theorem subA_get : ∀ {M N : AH}, subA M N → ∀ {i : Nat} {o : AO}, N[i]? = some o → o = .gone ∨ M[i]? = some o
  | _, [], _, i, o, h => by simp at h
  | [], _ :: _, hs, _, _, _ => hs.elim
  | o1 :: M, o2 :: N, hs, 0, o, h => by
    simp at h; subst h
    cases o2 with
    | gone => exact .inl rfl
    | one own g x => right; simp; exact hs.1.symm
    | fam own m x => right; simp; exact hs.1.symm
  | o1 :: M, o2 :: N, hs, i + 1, o, h => by
    have := subA_get hs.2 (i := i) (by simpa using h)
    simpa using this

theorem slot_of_sub {M N : AH} (h : subA M N) {i g : Nat} {own : Bool} {x : Cont} (hs : slot N i g = some (own, x)) : slot M i g = some (own, x) ∧ i < N.length := by
  unfold slot at hs ⊢
  cases ho : N[i]? with
  | none => rw [ho] at hs; cases hs
  | some o =>
    rw [ho] at hs
    refine ⟨?_, (List.getElem?_eq_some_iff.1 ho).1⟩
    rcases subA_get h ho with rfl | h1
    · cases hs
    · rw [h1]; exact hs

theorem slot_nb {M : AH} {k : Nat} (h : nbH k M) {i g : Nat} {own : Bool} {x : Cont} (hs : slot M i g = some (own, x)) : x.nb k := by
  unfold slot at hs
  cases ho : M[i]? with
  | none => rw [ho] at hs; cases hs
  | some o =>
    rw [ho] at hs
    have := nbH_get h ho
    cases o with
    | gone => cases hs
    | one own' g' x' =>
      simp only [slotO] at hs
      split at hs
      · injection hs with hs; injection hs with h1 h2; subst h2; exact this
      · cases hs
    | fam own' m x' =>
      simp only [slotO] at hs
      split at hs
      · injection hs with hs; injection hs with h1 h2; subst h2; exact this g
      · cases hs

theorem sim_sub {ρ0 ρ : Env} {M0 M N : AH} {w0 w : World} (h0 : ∀ i g, (ρ0 i g).isSome = true → i < M0.length) (hs : Sim ρ M w) (hE : Ext ρ0 M0 w0 ρ M w) (h : subA M N) (hn : nbH N.length N) (hl : M0.length ≤ N.length) :
    Sim (cutE ρ N.length) N w ∧ Ext ρ0 M0 w0 (cutE ρ N.length) N w := by
  have hk : ∀ {i : Nat} (g : Nat), i < N.length → cutE ρ N.length i g = ρ i g := fun g hi => by simp [cutE, hi]
  have hsome : ∀ i g, (cutE ρ N.length i g).isSome = true → i < N.length ∧ (ρ i g).isSome = true := by
    intro i g hi
    unfold cutE at hi
    split at hi
    · exact ⟨‹_›, hi⟩
    · cases hi
  refine ⟨⟨fun i g hi => (hsome i g hi).1, ?_, ?_, ?_, ?_⟩, ⟨?_, hE.size, hE.frame, ?_, hE.os, hE.tape, hE.output⟩⟩
  · intro i g own g' x hm hi
    rcases subA_get h hm with he | h1
    · cases he
    · exact hs.tag i g own g' x h1 (hsome i g hi).2
  · intro i g own m x hm hi
    rcases subA_get h hm with he | h1
    · cases he
    · exact hs.fam i g own m x h1 (hsome i g hi).2
  · intro i g own x hsl
    obtain ⟨h1, h2⟩ := slot_of_sub h hsl
    rw [hk g h2]
    rcases hs.holds i g own x h1 with ⟨q, e1, e2⟩ | e
    · exact .inl ⟨q, e1, e2.cut (slot_nb hn hsl)⟩
    · exact .inr e
  · intro i g x i' g' own' x' q q' h1 h2 e1 e2 he
    obtain ⟨a1, a2⟩ := slot_of_sub h h1
    obtain ⟨b1, b2⟩ := slot_of_sub h h2
    exact hs.apart i g x i' g' own' x' q q' a1 b1 (cutE_le _ _ _ e1) (cutE_le _ _ _ e2) he
  · intro i g l e
    have := h0 i g (by simp [e])
    rw [hk g (by omega)]
    exact hE.env i g l e
  · intro i g x q h1 e1 hb
    exact hE.fresh i g x q (slot_of_sub h h1).1 (cutE_le _ _ _ e1) hb

/-! Loops. -/
/-- The temporaries that live, and what they hold. -/
def getL : List (Nat × AV) → Nat → Option AV
  | [], _ => none
  | (t, v) :: l, k => match Nat.beq k t with
    | true => some v
    | false => getL l k
def ofL (l : List (Nat × AV)) (d : Nat → Value) : AA := fun t => match getL l t with
  | some v => v
  | none => .raw (d t)
def agr : List (Nat × AV) → AA → Prop
  | [], _ => True
  | (t, v) :: l, a => a t = v ∧ agr l a
def nbL (k : Nat) : List (Nat × AV) → Bool
  | [] => true
  | (_, v) :: l => v.nb k && nbL k l
theorem agr_get : ∀ {l : List (Nat × AV)} {a : AA}, agr l a → ∀ {t : Nat} {v : AV}, getL l t = some v → a t = v
  | [], a, _, t, v, h => by cases h
  | (t', v') :: l, a, hh, t, v, h => by
    simp only [getL] at h
    split at h
    · rename_i hb
      injection h with h; subst h
      rw [Nat.eq_of_beq_eq_true hb]; exact hh.1
    · exact agr_get hh.2 h
theorem nbL_get : ∀ {l : List (Nat × AV)} {k : Nat}, nbL k l = true → ∀ {t : Nat} {v : AV}, getL l t = some v → v.nb k = true
  | [], k, _, t, v, h => by cases h
  | (t', v') :: l, k, hh, t, v, h => by
    simp only [nbL, Bool.and_eq_true] at hh
    simp only [getL] at h
    split at h
    · injection h with h; subst h; exact hh.1
    · exact nbL_get hh.2 h

theorem actR_sub {ρ : Env} {D : List Deferred} {n : Nat} {a : AA} {act : Act} (h : ActR ρ D n a act) {l : List (Nat × AV)} {k : Nat} (hl : nbL k l = true) (ha : agr l a) :
    ActR (cutE ρ k) D n (ofL l fun t => act.tmps.getD t undef) act := by
  refine ⟨h.defers, h.size, fun t => ?_, fun t => ?_⟩
  · simp only [ofL]
    split
    · rename_i v hv
      exact AV.nb_ok v (nbL_get hl hv) (by rw [← agr_get ha hv]; exact h.ok t)
    · exact trivial
  · simp only [ofL]
    split
    · rename_i v hv
      have he := agr_get ha hv
      rw [AV.nb_c (nbL_get hl hv) (by rw [← he]; exact h.ok t), ← he]; exact h.get t
    · rfl

theorem exists_least {P : Nat → Prop} (h : ∃ k, P k) : ∃ k, P k ∧ ∀ j, P j → k ≤ j := by
  obtain ⟨k, hk⟩ := h
  induction k using Nat.strongRecOn with
  | _ k ih =>
    by_cases hh : ∃ j, j < k ∧ P j
    · obtain ⟨j, hj, hp⟩ := hh; exact ih j hj hp
    · exact ⟨k, hk, fun j hp => Nat.le_of_not_lt fun hj => hh ⟨j, hj, hp⟩⟩

/-- What a round of a loop has to show. -/
def roundQ {σ : Type} (I : σ → Prop) (μ : σ → Nat) (A : σ → List (Nat × AV)) (H : σ → AH) (Q : AEx → AA → AH → Prop) (k : Nat) (e : AEx) (a : AA) (M : AH) : Prop :=
  match e with
  | .normal => ∃ s, (I s ∧ μ s < k) ∧ agr (A s) a ∧ subA M (H s)
  | e => Q e a M

theorem WA.loop {x : Cx} {σ : Type} (I : σ → Prop) (μ : σ → Nat) (A : σ → List (Nat × AV)) (H : σ → AH) (s0 : σ)
    (hT : TabOK x.P x.T) (hm : x.P.follows .mixedOrders = true) {c : Code} (hpl : plansB x.pl c = true) {Q : AEx → AA → AH → Prop} {Kp : AV → AH → Prop} {a : AA} {M : AH}
    (h0 : I s0 ∧ agr (A s0) a ∧ subA M (H s0)) (hlen : ∀ s, Nat.ble M.length (H s).length = true) (hA : ∀ s, nbL (H s).length (A s) = true) (hH : ∀ s, nbH (H s).length (H s))
    (hbody : ∀ s, I s → ∀ d, codeA x c (roundQ I μ A H Q (μ s)) Kp (ofL (A s) d) (H s)) :
    WA x.P x.r x.D x.n (.loop c) Q Kp a M := by
  unfold WA
  intro pin D0 ρ0 w0 act0 hof hp0 hs0 ha0
  let Inv : Nat → Act → World → Prop := fun k act w => PinOK pin act ∧ ∃ s ρ, I s ∧ μ s = k ∧ Sim ρ (H s) w ∧ Ext ρ0 M w0 ρ (H s) w ∧ ∃ D d, Marks w0.heap.size D0 D w ∧ ActR ρ D x.n (ofL (A s) d) act
  have hle : ∀ s, M.length ≤ (H s).length := fun s => by simpa using hlen s
  have mk : ∀ s ρ M' a' act' w' D, PinOK pin act' → I s → Sim ρ M' w' → Ext ρ0 M w0 ρ M' w' → Marks w0.heap.size D0 D w' → ActR ρ D x.n a' act' → agr (A s) a' → subA M' (H s) → Inv (μ s) act' w' := by
    intro s ρ M' a' act' w' D hpa hI h1 h2 hm h3 h4 h5
    obtain ⟨k1, k2⟩ := sim_sub hs0.dom h1 h2 h5 (hH s) (hle s)
    exact ⟨hpa, s, _, hI, rfl, k1, k2, D, _, hm, actR_sub h3 (hA s) h4⟩
  have hst := mk s0 ρ0 M a act0 w0 D0 hp0 h0.1 hs0 (Ext.refl _ _ _) (Marks.refl _ _ _) ha0 h0.2.1 h0.2.2
  refine wpIn_loop (fun act w => ∃ k, Inv k act w) (fun act w => by classical exact if h : ∃ k, Inv k act w then Classical.choose (exists_least h) else 0) ⟨_, hst⟩ ?_
  intro act w hI
  have hle1 := Classical.choose_spec (exists_least hI)
  rw [dif_pos hI]
  generalize Classical.choose (exists_least hI) = k at *
  obtain ⟨⟨hpa, s, ρ, hIs, rfl, hs, hE, D, d, hm0, ha⟩, hleast⟩ := hle1
  refine wpIn_mono (codeA_pin hT hm c hpl _ Kp _ _ ρ w act D hs hE hm0 ha hof hpa (hbody s hIs d)) fun e act' w' hq => ?_
  obtain ⟨hq, hpb⟩ := hq
  cases e with
  | normal =>
    obtain ⟨ρ', M', a', D', h1, h2, hm', h3, s', ⟨h4, h5⟩, h6, h7⟩ := hq
    have hst' := mk s' ρ' M' a' act' w' D' hpb h4 h1 h2 hm' h3 h6 h7
    have hex : ∃ k, Inv k act' w' := ⟨_, hst'⟩
    refine ⟨hex, ?_⟩
    rw [dif_pos hex]
    have := (Classical.choose_spec (exists_least hex)).2 _ hst'
    omega
  | exit id => exact ⟨hq, hpb⟩
  | ret => exact ⟨hq, hpb⟩
  | panic ch => exact ⟨hq, hpb⟩
  | goto l => exact hq.elim
  | outgrown => exact hq.elim

/-! Calls, once more. -/
theorem CallA.mono {P : Program} {g : Nat} {args : List AV} {M : AH} {K K' Kp Kp' : AV → AH → Prop} (h : CallA P g args M K Kp) (hK : ∀ r M', K r M' → K' r M') (hKp : ∀ r M', Kp r M' → Kp' r M') : CallA P g args M K' Kp' := by
  unfold CallA at *
  refine ⟨h.1, fun ρ w hs hok => Calls.mono (h.2 ρ w hs hok) fun e w' he => ?_⟩
  obtain ⟨ρ', M', h1, h2, h3⟩ := he
  refine ⟨ρ', M', h1, h2, ?_⟩
  cases e with
  | returned v => obtain ⟨r, e1, e2, e3⟩ := h3; exact ⟨r, e1, e2, hK _ _ e3⟩
  | panicked ch => obtain ⟨r, e1, e2, e3⟩ := h3; exact ⟨r, e1, e2, hKp _ _ e3⟩
  | outgrown => exact h3.elim

/-- Another view of the same world. -/
def Vw (M M' : AH) (l l' : List AV) : Prop := ∀ ρ w, Sim ρ M w → AV.okl ρ l → ∃ ρ', Sim ρ' M' w ∧ Ext ρ M w ρ' M' w ∧ AV.cl ρ' l' = AV.cl ρ l ∧ AV.okl ρ' l'
theorem CallA.view {P : Program} {g : Nat} {args args' : List AV} {M M' : AH} {K Kp : AV → AH → Prop} (hv : Vw M M' args args') (h : CallA P g args' M' K Kp) : CallA P g args M K Kp := by
  unfold CallA at *
  refine ⟨h.1, fun ρ w hs hok => ?_⟩
  obtain ⟨ρ', h1, h2, h3, h4⟩ := hv ρ w hs hok
  have := h.2 ρ' w h1 h4
  rw [h3] at this
  refine Calls.mono this fun e w' he => ?_
  obtain ⟨ρ'', M'', k1, k2, k3⟩ := he
  exact ⟨ρ'', M'', k1, h2.trans k2, k3⟩
end Go.Proofs.Yteinenklppbjkaa

set_option linter.unusedVariables false
set_option linter.unusedSimpArgs false
open Go.RowKit
namespace Go.Proofs.Yteinenklppbjkaa

/-- Where the callee's names lie in the caller's heap: an object of the caller's that the callee may write; a whole name that it only reads; a window that it only reads (its tag is 0 for the callee). -/
inductive TE where
  | own (i : Nat)
  | sha (i : Nat)
  | win (i g off : Nat)
  deriving Inhabited

def TE.i : TE → Nat
  | .own i => i | .sha i => i | .win i _ _ => i
/-- name, tag, place -/
def rnI (t : List TE) (m j : Nat) : Nat :=
  match t[j]? with
  | some e => e.i
  | none => m + (j - t.length)
def rnG (t : List TE) (j g : Nat) : Nat :=
  match t[j]? with
  | some (.win _ g' _) => g'
  | _ => g
def rnF (t : List TE) (j off : Nat) : Nat :=
  match t[j]? with
  | some (.win _ _ o) => o + off
  | _ => off
mutual
def AV.rn (t : List TE) (m : Nat) : AV → AV
  | .ptr i g off => .ptr (rnI t m i) (rnG t i g) (rnF t i off)
  | .pel i g sz j o => .pel (rnI t m i) (rnG t i g) sz j (rnF t i o)
  | .sl i g off n c => .sl (rnI t m i) (rnG t i g) (rnF t i off) n c
  | .mp i g => .mp (rnI t m i) (rnG t i g)
  | .fn q a b => .fn q (AV.rnl t m a) (AV.rnl t m b)
  | .ifc ty v => .ifc ty (v.rn t m)
  | .agg l => .agg (AV.rnl t m l)
  | .tup l => .tup (AV.rnl t m l)
  | .bo x => .bo x | .tt => .tt | .ff => .ff | .int k n => .int k n | .str x => .str x | .np => .np | .ns => .ns | .nf => .nf | .ni => .ni | .nm => .nm | .raw v => .raw v
def AV.rnl (t : List TE) (m : Nat) : List AV → List AV
  | [] => []
  | v :: l => v.rn t m :: AV.rnl t m l
end
theorem AV.rnl_eq (t : List TE) (m : Nat) (l : List AV) : AV.rnl t m l = l.map (AV.rn t m) := by
  induction l with
  | nil => rfl
  | cons v l ih => simp [AV.rnl, ih]
def Cont.rn (t : List TE) (m : Nat) : Cont → Cont
  | .cells cs => .cells (AV.rnl t m cs)
  | .ints k xs c => .ints k xs c
  | .bools xs c => .bools xs c
  | .tab sz n get c => .tab sz n (fun j => AV.rnl t m (get j)) c
  | .map kk es => .map kk (es.map fun p => (p.1, p.2.rn t m))
  | .loop l st pd fn n a ps as bd df => .loop l st pd fn n (fun j => (a j).rn t m) ps as bd df
theorem Cont.rn_row (t : List TE) (m : Nat) (x : Cont) : (x.rn t m).row = x.row := by cases x <;> rfl
def AO.rn (t : List TE) (m : Nat) : AO → AO
  | .gone => .gone
  | .one own g x => .one own g (x.rn t m)
  | .fam own n x => .fam own n (fun g => (x g).rn t m)
def rnH (t : List TE) (m : Nat) : AH → AH
  | [] => []
  | o :: M => o.rn t m :: rnH t m M
theorem rnH_eq (t : List TE) (m : Nat) (M : AH) : rnH t m M = M.map (AO.rn t m) := by
  induction M with
  | nil => rfl
  | cons v l ih => simp [rnH, ih]

theorem Cont.rn_at (t : List TE) (m : Nat) (x : Cont) (k : Nat) : (x.rn t m).at k = (x.at k).map (AV.rn t m) := by
  cases x with
  | cells cs => simp [Cont.rn, Cont.at, AV.rnl_eq]
  | ints kk xs c => simp only [Cont.rn, Cont.at, Option.map_map]; rfl
  | bools xs c => simp only [Cont.rn, Cont.at, Option.map_map]; rfl
  | tab sz n get c =>
    simp only [Cont.rn, Cont.at]
    split
    · simp [AV.rnl_eq]
    · rfl
  | map _ _ => rfl
  | loop _ _ _ _ _ _ _ _ _ _ => rfl
theorem Cont.rn_size (t : List TE) (m : Nat) (x : Cont) : (x.rn t m).size = x.size := by
  cases x with
  | cells cs => simp [Cont.rn, Cont.size, AV.rnl_eq]
  | _ => rfl
theorem Cont.rn_virt {t : List TE} {m : Nat} {x : Cont} (h : x.virt) : (x.rn t m).virt := by
  cases x <;> exact h

/-- The window shows what the callee counts on. -/
def WinC (t : List TE) (m : Nat) (off : Nat) (x xc : Cont) : Prop :=
  off + x.size ≤ xc.size ∧ (∀ k v, x.at k = some v → xc.at (off + k) = some (v.rn t m)) ∧ (xc.virt → x.virt) ∧ x.row = true ∧ xc.row = true
theorem WinC.same {t : List TE} {m : Nat} {x xc : Cont} (h : x.rn t m = xc) (hv : xc.virt → x.virt) (hr : x.row = true := by rfl) : WinC t m 0 x xc := by
  subst h
  refine ⟨by rw [Cont.rn_size]; omega, fun k v hv => ?_, hv, hr, by rw [Cont.rn_row]; exact hr⟩
  rw [Nat.zero_add, Cont.rn_at, hv]; rfl
theorem WinC.ints {t : List TE} {m : Nat} {k : IntKind} {xs ys : List Int} {c co off : Nat} (h1 : off + c ≤ co) (h2 : xs = (ys.drop off).take xs.length) : WinC t m off (.ints k xs c) (.ints k ys co) := by
  refine ⟨h1, fun j v hv => ?_, ?_, rfl, rfl⟩
  · simp only [Cont.at, Option.map_eq_some_iff] at hv ⊢
    obtain ⟨z, hz, rfl⟩ := hv
    refine ⟨z, ?_, rfl⟩
    have hj := (List.getElem?_eq_some_iff.1 hz).1
    rw [h2, List.getElem?_take, if_pos hj, List.getElem?_drop] at hz
    exact hz
  · rintro ⟨e1, e2⟩
    subst e1; subst e2
    simp at h2
    exact ⟨h2, by omega⟩
theorem WinC.bools {t : List TE} {m : Nat} {xs ys : List Bool} {c co off : Nat} (h1 : off + c ≤ co) (h2 : xs = (ys.drop off).take xs.length) : WinC t m off (.bools xs c) (.bools ys co) := by
  refine ⟨h1, fun j v hv => ?_, ?_, rfl, rfl⟩
  · simp only [Cont.at, Option.map_eq_some_iff] at hv ⊢
    obtain ⟨z, hz, rfl⟩ := hv
    refine ⟨z, ?_, rfl⟩
    have hj := (List.getElem?_eq_some_iff.1 hz).1
    rw [h2, List.getElem?_take, if_pos hj, List.getElem?_drop] at hz
    exact hz
  · rintro ⟨e1, e2⟩
    subst e1; subst e2
    simp at h2
    exact ⟨h2, by omega⟩

def AO.isOwn : AO → Bool
  | .one true _ _ => true
  | .fam true _ _ => true
  | _ => false
def AO.okOwn : AO → Bool
  | .gone => true
  | .one true _ _ => true
  | .fam true _ _ => true
  | _ => false
def AO.ro : AO → AO
  | .gone => .gone
  | .one _ g x => .one false g x
  | .fam _ n x => .fam false n x

def AO.tag0 : AO → Bool
  | .gone => false
  | .one _ g _ => Nat.beq g 0
  | .fam _ _ _ => true

/-- The caller's heap is as the callee counts on. -/
def fitH (t0 : List TE) (m : Nat) (Mc : AH) : List TE → AH → Prop
  | [], [] => True
  | .own i :: t, o :: M => (Mc[i]? = some (o.rn t0 m) ∧ o.okOwn = true) ∧ fitH t0 m Mc t M
  | .sha i :: t, o :: M => (o.tag0 = true ∧ ∃ o', Mc[i]? = some o' ∧ o.rn t0 m = o'.ro) ∧ fitH t0 m Mc t M
  | .win i g off :: t, o :: M => (∃ x own xc, o = .one false 0 x ∧ slot Mc i g = some (own, xc) ∧ WinC t0 m off x xc) ∧ fitH t0 m Mc t M
  | _, _ => False
def TE.same : TE → TE → Bool
  | e, e' => Nat.beq e.i e'.i
def TE.isOwn : TE → Bool
  | .own _ => true
  | _ => false
/-- What the callee may write has one name. -/
def apartT : List TE → Bool
  | [] => true
  | e :: t => t.all (fun e' => !(e.isOwn || e'.isOwn) || !(Nat.beq e.i e'.i)) && apartT t
/-- The callee's heap at its end. -/
def keepH : List TE → AH → AH → Prop
  | [], _, M' => M'.all AO.okOwn = true
  | .own _ :: t, _ :: M, o' :: M' => o'.okOwn = true ∧ keepH t M M'
  | .sha _ :: t, o :: M, o' :: M' => o' = o ∧ keepH t M M'
  | .win _ _ _ :: t, o :: M, o' :: M' => o' = o ∧ keepH t M M'
  | _, _, _ => False
def setH (t0 : List TE) (m : Nat) : List TE → AH → AH → AH
  | .own i :: t, o :: M', Mc => setH t0 m t M' (Mc.set i (o.rn t0 m))
  | _ :: t, _ :: M', Mc => setH t0 m t M' Mc
  | [], M', Mc => Mc ++ rnH t0 m M'
  | _, [], Mc => Mc

theorem fitH_get {t0 : List TE} {m : Nat} {Mc : AH} : ∀ {t : List TE} {M : AH}, fitH t0 m Mc t M → t.length = M.length ∧ ∀ (j : Nat) e o, t[j]? = some e → M[j]? = some o → match e with
    | .own i => Mc[i]? = some (o.rn t0 m) ∧ o.okOwn = true
    | .sha i => o.tag0 = true ∧ ∃ o', Mc[i]? = some o' ∧ o.rn t0 m = o'.ro
    | .win i g off => ∃ x own xc, o = .one false 0 x ∧ slot Mc i g = some (own, xc) ∧ WinC t0 m off x xc
  | [], [], _ => ⟨rfl, fun j e o h => by simp at h⟩
  | [], _ :: _, h => by cases h
  | .own i :: t, [], h => by cases h
  | .sha i :: t, [], h => by cases h
  | .win i g off :: t, [], h => by cases h
  | .own i :: t, o :: M, h => by
    obtain ⟨h1, h2⟩ := fitH_get h.2
    refine ⟨by simp [h1], fun j e o' he ho => ?_⟩
    cases j with
    | zero => simp at he ho; subst he; subst ho; exact h.1
    | succ j => exact h2 j e o' (by simpa using he) (by simpa using ho)
  | .sha i :: t, o :: M, h => by
    obtain ⟨h1, h2⟩ := fitH_get h.2
    refine ⟨by simp [h1], fun j e o' he ho => ?_⟩
    cases j with
    | zero => simp at he ho; subst he; subst ho; exact h.1
    | succ j => exact h2 j e o' (by simpa using he) (by simpa using ho)
  | .win i g off :: t, o :: M, h => by
    obtain ⟨h1, h2⟩ := fitH_get h.2
    refine ⟨by simp [h1], fun j e o' he ho => ?_⟩
    cases j with
    | zero => simp at he ho; subst he; subst ho; exact h.1
    | succ j => exact h2 j e o' (by simpa using he) (by simpa using ho)

theorem keepH_get : ∀ {t : List TE} {M M' : AH}, keepH t M M' → t.length ≤ M'.length ∧ (∀ (j : Nat) o', M'[j]? = some o' → match t[j]? with
    | some (.own _) => o'.okOwn = true
    | none => o'.okOwn = true
    | _ => M[j]? = some o')
  | [], M, M', h => ⟨Nat.zero_le _, fun j o' ho => by
      simp only [List.getElem?_nil]
      exact List.all_eq_true.1 h o' (List.mem_of_getElem? ho)⟩
  | .own i :: t, o :: M, o1 :: M', h => by
    obtain ⟨h1, h2⟩ := keepH_get h.2
    refine ⟨by simpa using h1, fun j o' ho => ?_⟩
    cases j with
    | zero => simp at ho; subst ho; exact h.1
    | succ j => simpa using h2 j o' (by simpa using ho)
  | .sha i :: t, o :: M, o1 :: M', h => by
    obtain ⟨h1, h2⟩ := keepH_get h.2
    refine ⟨by simpa using h1, fun j o' ho => ?_⟩
    cases j with
    | zero => simp at ho; subst ho; simp [h.1]
    | succ j => simpa using h2 j o' (by simpa using ho)
  | .win i g off :: t, o :: M, o1 :: M', h => by
    obtain ⟨h1, h2⟩ := keepH_get h.2
    refine ⟨by simpa using h1, fun j o' ho => ?_⟩
    cases j with
    | zero => simp at ho; subst ho; simp [h.1]
    | succ j => simpa using h2 j o' (by simpa using ho)
  | .own _ :: _, [], _, h => by cases h
  | .sha _ :: _, [], _, h => by cases h
  | .win _ _ _ :: _, [], _, h => by cases h
  | .own _ :: _, _ :: _, [], h => by cases h
  | .sha _ :: _, _ :: _, [], h => by cases h
  | .win _ _ _ :: _, _ :: _, [], h => by cases h

theorem apartT_get : ∀ {t : List TE}, apartT t = true → ∀ {j j' : Nat} {e e' : TE}, t[j]? = some e → t[j']? = some e' → (e.isOwn = true ∨ e'.isOwn = true) → e.i = e'.i → j = j'
  | [], _, j, j', e, e', h, _, _, _ => by simp at h
  | a :: t, ha, j, j', e, e', h, h', ho, hi => by
    simp only [apartT, Bool.and_eq_true, List.all_eq_true] at ha
    have key : ∀ b ∈ t, (a.isOwn = true ∨ b.isOwn = true) → a.i ≠ b.i := by
      intro b hb hor heq
      have := ha.1 b hb
      rw [heq] at this
      have e1 : Nat.beq b.i b.i = true := Nat.beq_refl _
      rw [e1] at this
      rcases hor with h | h <;> simp [h] at this
    cases j with
    | zero =>
      cases j' with
      | zero => rfl
      | succ j' =>
        simp at h h'
        subst h
        exact absurd hi (key e' (List.mem_of_getElem? h') ho)
    | succ j =>
      cases j' with
      | zero =>
        simp at h h'
        subst h'
        exact absurd hi.symm (key e (List.mem_of_getElem? h) ho.symm)
      | succ j' => exact congrArg Nat.succ (apartT_get ha.2 (by simpa using h) (by simpa using h') ho hi)

/-- The caller's name i is the callee's own name j. -/
def OwnAt (t : List TE) (i j : Nat) : Prop := t[j]? = some (.own i)

theorem setH_length (t0 : List TE) (m : Nat) : ∀ (t : List TE) (M' Mc : AH), t.length ≤ M'.length → (setH t0 m t M' Mc).length = Mc.length + (M'.length - t.length)
  | [], M', Mc, _ => by simp [setH, rnH_eq]
  | .own i :: t, o :: M', Mc, h => by
    simp only [setH]; rw [setH_length t0 m t M' _ (by simpa using h)]; simp
  | .sha i :: t, o :: M', Mc, h => by
    simp only [setH]; rw [setH_length t0 m t M' _ (by simpa using h)]; simp
  | .win i g off :: t, o :: M', Mc, h => by
    simp only [setH]; rw [setH_length t0 m t M' _ (by simpa using h)]; simp
  | _ :: _, [], Mc, h => by simp at h
theorem setH_new (t0 : List TE) (m : Nat) : ∀ (t : List TE) (M' Mc : AH) (k : Nat), t.length ≤ M'.length → (setH t0 m t M' Mc)[Mc.length + k]? = (M'[t.length + k]?).map (AO.rn t0 m)
  | [], M', Mc, k, _ => by simp only [setH, rnH_eq]; rw [List.getElem?_append_right (by omega)]; simp
  | .own i :: t, o :: M', Mc, k, h => by
    simp only [setH]
    have := setH_new t0 m t M' (Mc.set i (o.rn t0 m)) k (by simpa using h)
    rw [List.length_set] at this
    rw [this, List.length_cons, show t.length + 1 + k = t.length + k + 1 from by omega, List.getElem?_cons_succ]
  | .sha i :: t, o :: M', Mc, k, h => by
    simp only [setH]
    rw [setH_new t0 m t M' Mc k (by simpa using h), List.length_cons, show t.length + 1 + k = t.length + k + 1 from by omega, List.getElem?_cons_succ]
  | .win i g off :: t, o :: M', Mc, k, h => by
    simp only [setH]
    rw [setH_new t0 m t M' Mc k (by simpa using h), List.length_cons, show t.length + 1 + k = t.length + k + 1 from by omega, List.getElem?_cons_succ]
  | _ :: _, [], Mc, k, h => by simp at h
/-- A name that is not handed over stays. -/
theorem setH_old (t0 : List TE) (m : Nat) : ∀ (t : List TE) (M' Mc : AH) (i : Nat), i < Mc.length → t.length ≤ M'.length → (∀ j : Nat, t[j]? ≠ some (TE.own i)) → (setH t0 m t M' Mc)[i]? = Mc[i]?
  | [], M', Mc, i, hi, _, _ => by simp only [setH]; rw [List.getElem?_append_left hi]
  | .own i0 :: t, o :: M', Mc, i, hi, h, hn => by
    simp only [setH]
    rw [setH_old t0 m t M' _ i (by simpa using hi) (by simpa using h) (fun j hj => hn (j + 1) (by simpa using hj))]
    rw [List.getElem?_set_ne]
    intro e; subst e; exact hn 0 rfl
  | .sha i0 :: t, o :: M', Mc, i, hi, h, hn => by
    simp only [setH]
    exact setH_old t0 m t M' _ i hi (by simpa using h) (fun j hj => hn (j + 1) (by simpa using hj))
  | .win i0 g off :: t, o :: M', Mc, i, hi, h, hn => by
    simp only [setH]
    exact setH_old t0 m t M' _ i hi (by simpa using h) (fun j hj => hn (j + 1) (by simpa using hj))
  | _ :: _, [], Mc, i, _, h, _ => by simp at h
theorem setH_own (t0 : List TE) (m : Nat) : ∀ (t : List TE) (M' Mc : AH) (i j : Nat), i < Mc.length → t.length ≤ M'.length → apartT t = true → t[j]? = some (.own i) → (setH t0 m t M' Mc)[i]? = (M'[j]?).map (AO.rn t0 m)
  | [], M', Mc, i, j, _, _, _, hj => by simp at hj
  | _ :: _, [], Mc, i, j, _, h, _, _ => by simp at h
  | e :: t, o :: M', Mc, i, 0, hi, h, ha, hj => by
    simp at hj; subst hj
    simp only [setH]
    rw [setH_old t0 m t M' _ i (by simpa using hi) (by simpa using h)]
    · simp [List.getElem?_set, hi]
    · intro j hj
      have := apartT_get ha (j := 0) (j' := j + 1) (e := .own i) (e' := .own i) rfl (by simpa using hj) (.inl rfl) rfl
      omega
  | .own i0 :: t, o :: M', Mc, i, j + 1, hi, h, ha, hj => by
    simp only [setH]
    have ha' : apartT t = true := by simp only [apartT, Bool.and_eq_true] at ha; exact ha.2
    rw [setH_own t0 m t M' _ i j (by simpa using hi) (by simpa using h) ha' (by simpa using hj)]; simp
  | .sha i0 :: t, o :: M', Mc, i, j + 1, hi, h, ha, hj => by
    simp only [setH]
    have ha' : apartT t = true := by simp only [apartT, Bool.and_eq_true] at ha; exact ha.2
    rw [setH_own t0 m t M' _ i j hi (by simpa using h) ha' (by simpa using hj)]; simp
  | .win i0 g off :: t, o :: M', Mc, i, j + 1, hi, h, ha, hj => by
    simp only [setH]
    have ha' : apartT t = true := by simp only [apartT, Bool.and_eq_true] at ha; exact ha.2
    rw [setH_own t0 m t M' _ i j hi (by simpa using h) ha' (by simpa using hj)]; simp

/-- The callee's environment. -/
def envC (t : List TE) (ρ : Env) : Env := fun j g =>
  match t[j]? with
  | some (.own i) => ρ i g
  | some (.sha i) => ρ i g
  | some (.win i g' off) => if g = 0 then (ρ i g').map (fun l => l.map (fun q => (q.1, q.2 + off))) else none
  | none => none
theorem slot_rn {t0 : List TE} {m : Nat} {o : AO} {g : Nat} : slotO (o.rn t0 m) g = (slotO o g).map (fun x => (x.1, x.2.rn t0 m)) := by
  cases o with
  | gone => rfl
  | one own g' x => simp only [AO.rn, slotO]; split <;> rfl
  | fam own n x => simp only [AO.rn, slotO]; split <;> rfl
theorem slot_ro {o : AO} {g : Nat} : slotO o.ro g = (slotO o g).map (fun x => (false, x.2)) := by
  cases o with
  | gone => rfl
  | one own g' x => simp only [AO.ro, slotO]; split <;> rfl
  | fam own n x => simp only [AO.ro, slotO]; split <;> rfl
theorem slot_okOwn {o : AO} (h : o.okOwn = true) {g : Nat} {own : Bool} {x : Cont} (hs : slotO o g = some (own, x)) : own = true := by
  cases o with
  | gone => cases hs
  | one own' g' x' =>
    cases own' with
    | false => cases h
    | true =>
      simp only [slotO] at hs
      split at hs
      · injection hs with hs; injection hs with h1 _; exact h1.symm
      · cases hs
  | fam own' n x' =>
    cases own' with
    | false => cases h
    | true =>
      simp only [slotO] at hs
      split at hs
      · injection hs with hs; injection hs with h1 _; exact h1.symm
      · cases hs
end Go.Proofs.Yteinenklppbjkaa

set_option linter.unusedVariables false
set_option linter.unusedSimpArgs false
open Go.RowKit
namespace Go.Proofs.Yteinenklppbjkaa

structure EnvR (t : List TE) (m : Nat) (ρ' ρc : Env) : Prop where
  out : ∀ j g l, ρ' j g = some l → ∃ l0, ρc (rnI t m j) (rnG t j g) = some l0 ∧ l = l0.map (fun q => (q.1, q.2 + rnF t j 0))
theorem rnF_add (t : List TE) (j off : Nat) : rnF t j off = rnF t j 0 + off := by
  unfold rnF; split <;> omega

mutual
theorem rn_c {t : List TE} {m : Nat} {ρ' ρc : Env} (h : EnvR t m ρ' ρc) : ∀ v : AV, v.ok ρ' → (v.rn t m).ok ρc ∧ (v.rn t m).c ρc = v.c ρ'
  | .ptr i g off => fun hok => by
    simp only [AV.ok] at hok
    obtain ⟨l, hl⟩ := Option.isSome_iff_exists.1 hok
    obtain ⟨l0, h1, rfl⟩ := h.out i g l hl
    refine ⟨by simp [AV.rn, AV.ok, h1], ?_⟩
    simp only [AV.rn, AV.c, h1, hl]
    cases l0 with
    | none => rfl
    | some q => simp only [Option.map_some, rnF_add t i off]; congr 2; congr 1; omega
  | .pel i g sz j off => fun hok => by
    simp only [AV.ok] at hok
    obtain ⟨l, hl⟩ := Option.isSome_iff_exists.1 hok
    obtain ⟨l0, h1, rfl⟩ := h.out i g l hl
    refine ⟨by simp [AV.rn, AV.ok, h1], ?_⟩
    simp only [AV.rn, AV.c, h1, hl]
    cases l0 with
    | none => rfl
    | some q => simp only [Option.map_some, rnF_add t i off]; congr 2; congr 1; omega
  | .sl i g off n c => fun hok => by
    simp only [AV.ok] at hok
    obtain ⟨l, hl⟩ := Option.isSome_iff_exists.1 hok
    obtain ⟨l0, h1, rfl⟩ := h.out i g l hl
    refine ⟨by simp [AV.rn, AV.ok, h1], ?_⟩
    simp only [AV.rn, AV.c, h1, hl]
    cases l0 with
    | none => rfl
    | some q => simp only [Option.map_some, rnF_add t i off]; congr 2; congr 1; omega
  | .mp i g => fun hok => by
    simp only [AV.ok] at hok
    obtain ⟨l, hl⟩ := Option.isSome_iff_exists.1 hok
    obtain ⟨l0, h1, rfl⟩ := h.out i g l hl
    refine ⟨by simp [AV.rn, AV.ok, h1], ?_⟩
    simp only [AV.rn, AV.c, h1, hl]
    cases l0 with
    | none => rfl
    | some q => rfl
  | .fn q a b => fun hok => by
    simp only [AV.ok] at hok
    obtain ⟨a1, a2⟩ := rnl_c h a hok.1
    obtain ⟨b1, b2⟩ := rnl_c h b hok.2
    exact ⟨⟨a1, b1⟩, by simp only [AV.rn, AV.c, a2, b2]⟩
  | .ifc ty v => fun hok => by
    simp only [AV.ok] at hok
    obtain ⟨a1, a2⟩ := rn_c h v hok
    exact ⟨a1, by simp only [AV.rn, AV.c, a2]⟩
  | .agg l => fun hok => by
    simp only [AV.ok] at hok
    obtain ⟨a1, a2⟩ := rnl_c h l hok
    exact ⟨a1, by simp only [AV.rn, AV.c, a2]⟩
  | .tup l => fun hok => by
    simp only [AV.ok] at hok
    obtain ⟨a1, a2⟩ := rnl_c h l hok
    exact ⟨a1, by simp only [AV.rn, AV.c, a2]⟩
  | .bo _ => fun _ => ⟨trivial, rfl⟩ | .tt => fun _ => ⟨trivial, rfl⟩ | .ff => fun _ => ⟨trivial, rfl⟩ | .int _ _ => fun _ => ⟨trivial, rfl⟩ | .str _ => fun _ => ⟨trivial, rfl⟩
  | .np => fun _ => ⟨trivial, rfl⟩ | .ns => fun _ => ⟨trivial, rfl⟩ | .nf => fun _ => ⟨trivial, rfl⟩ | .ni => fun _ => ⟨trivial, rfl⟩ | .nm => fun _ => ⟨trivial, rfl⟩ | .raw _ => fun _ => ⟨trivial, rfl⟩
theorem rnl_c {t : List TE} {m : Nat} {ρ' ρc : Env} (h : EnvR t m ρ' ρc) : ∀ l : List AV, AV.okl ρ' l → AV.okl ρc (AV.rnl t m l) ∧ AV.cl ρc (AV.rnl t m l) = AV.cl ρ' l
  | [] => fun _ => ⟨trivial, rfl⟩
  | v :: l => fun hok => by
    simp only [AV.okl] at hok
    obtain ⟨a1, a2⟩ := rn_c h v hok.1
    obtain ⟨b1, b2⟩ := rnl_c h l hok.2
    exact ⟨⟨a1, b1⟩, by simp only [AV.rnl, AV.cl, a2, b2]⟩
end

/-- The callee's windows have the tag 0. -/
def w0T (t : List TE) (j g : Nat) : Bool :=
  match t[j]? with
  | some (.win _ _ _) => Nat.beq g 0
  | some _ => true
  | none => false
mutual
def AV.w0 (t : List TE) : AV → Bool
  | .ptr i g _ => w0T t i g
  | .pel i g _ _ _ => w0T t i g
  | .sl i g _ _ _ => w0T t i g
  | .mp i g => w0T t i g
  | .fn _ a b => AV.w0l t a && AV.w0l t b
  | .ifc _ v => v.w0 t
  | .agg l => AV.w0l t l
  | .tup l => AV.w0l t l
  | .raw _ => true | .bo _ => true | .tt => true | .ff => true | .int _ _ => true | .str _ => true | .np => true | .ns => true | .nf => true | .ni => true | .nm => true
def AV.w0l (t : List TE) : List AV → Bool
  | [] => true
  | v :: l => v.w0 t && AV.w0l t l
end
theorem envC_some {t : List TE} {m : Nat} {ρ : Env} {j g : Nat} (hw : w0T t j g = true) (h : (ρ (rnI t m j) (rnG t j g)).isSome = true) : (envC t ρ j g).isSome = true := by
  unfold w0T at hw
  unfold rnI rnG at h
  unfold envC
  cases ht : t[j]? with
  | none => rw [ht] at hw; cases hw
  | some e =>
    rw [ht] at hw h
    cases e with
    | own i => exact h
    | sha i => exact h
    | win i g' off =>
      have : g = 0 := Nat.eq_of_beq_eq_true hw
      simp only [this, if_true]
      simpa [TE.i] using h
mutual
theorem ok_back {t : List TE} {m : Nat} {ρ : Env} : ∀ v : AV, v.w0 t = true → (v.rn t m).ok ρ → v.ok (envC t ρ)
  | .ptr i g _ => fun hw h => by simp only [AV.w0] at hw; simp only [AV.rn, AV.ok] at h ⊢; exact envC_some hw h
  | .pel i g _ _ _ => fun hw h => by simp only [AV.w0] at hw; simp only [AV.rn, AV.ok] at h ⊢; exact envC_some hw h
  | .sl i g _ _ _ => fun hw h => by simp only [AV.w0] at hw; simp only [AV.rn, AV.ok] at h ⊢; exact envC_some hw h
  | .mp i g => fun hw h => by simp only [AV.w0] at hw; simp only [AV.rn, AV.ok] at h ⊢; exact envC_some hw h
  | .fn _ a b => fun hw h => by
    simp only [AV.w0, Bool.and_eq_true] at hw; simp only [AV.rn, AV.ok] at h ⊢
    exact ⟨okl_back a hw.1 h.1, okl_back b hw.2 h.2⟩
  | .ifc _ v => fun hw h => by simp only [AV.w0] at hw; simp only [AV.rn, AV.ok] at h ⊢; exact ok_back v hw h
  | .agg l => fun hw h => by simp only [AV.w0] at hw; simp only [AV.rn, AV.ok] at h ⊢; exact okl_back l hw h
  | .tup l => fun hw h => by simp only [AV.w0] at hw; simp only [AV.rn, AV.ok] at h ⊢; exact okl_back l hw h
  | .bo _ => fun _ _ => trivial | .tt => fun _ _ => trivial | .ff => fun _ _ => trivial | .int _ _ => fun _ _ => trivial | .str _ => fun _ _ => trivial
  | .np => fun _ _ => trivial | .ns => fun _ _ => trivial | .nf => fun _ _ => trivial | .ni => fun _ _ => trivial | .nm => fun _ _ => trivial | .raw _ => fun _ _ => trivial
theorem okl_back {t : List TE} {m : Nat} {ρ : Env} : ∀ l : List AV, AV.w0l t l = true → AV.okl ρ (AV.rnl t m l) → AV.okl (envC t ρ) l
  | [] => fun _ _ => trivial
  | v :: l => fun hw h => by
    simp only [AV.w0l, Bool.and_eq_true] at hw; simp only [AV.rnl, AV.okl] at h ⊢
    exact ⟨ok_back v hw.1 h.1, okl_back l hw.2 h.2⟩
end

theorem envC_R {t : List TE} {m : Nat} {ρ : Env} : EnvR t m (envC t ρ) ρ := by
  constructor
  intro j g l hl
  unfold envC at hl
  unfold rnI rnG rnF
  cases ht : t[j]? with
  | none => rw [ht] at hl; cases hl
  | some e =>
    rw [ht] at hl
    cases e with
    | own i => exact ⟨l, hl, by cases l <;> rfl⟩
    | sha i => exact ⟨l, hl, by cases l <;> rfl⟩
    | win i g' off =>
      simp only at hl
      split at hl
      · rw [Option.map_eq_some_iff] at hl
        obtain ⟨l0, h1, h2⟩ := hl
        exact ⟨l0, h1, h2.symm⟩
      · cases hl

section
variable {t : List TE} {Mc M : AH} {ρ : Env} {w : World}

theorem slot_get {M : AH} {i g : Nat} {own : Bool} {x : Cont} (h : slot M i g = some (own, x)) : ∃ o, M[i]? = some o ∧ slotO o g = some (own, x) := by
  unfold slot at h
  cases ho : M[i]? with
  | none => rw [ho] at h; cases h
  | some o => rw [ho] at h; exact ⟨o, rfl, h⟩
theorem slot_mk {M : AH} {i g : Nat} {o : AO} {y : Option (Bool × Cont)} (h1 : M[i]? = some o) (h2 : slotO o g = y) : slot M i g = y := by
  unfold slot; rw [h1]; exact h2

/-- Every slot of the callee's lies in one of the caller's. -/
theorem callee_slot (hfit : fitH t Mc.length Mc t M) {j g : Nat} {own : Bool} {x : Cont} (hs : slot M j g = some (own, x)) :
    (∃ i, t[j]? = some (.own i) ∧ slot Mc i g = some (own, x.rn t Mc.length) ∧ own = true) ∨
    (∃ i own' , t[j]? = some (.sha i) ∧ slot Mc i g = some (own', x.rn t Mc.length) ∧ own = false) ∨
    (∃ i g' off own' xc, t[j]? = some (.win i g' off) ∧ g = 0 ∧ slot Mc i g' = some (own', xc) ∧ WinC t Mc.length off x xc ∧ own = false) := by
  obtain ⟨hl, hget⟩ := fitH_get hfit
  obtain ⟨o, ho, hso⟩ := slot_get hs
  have hj : j < t.length := by rw [hl]; exact (List.getElem?_eq_some_iff.1 ho).1
  obtain ⟨e, he⟩ : ∃ e, t[j]? = some e := ⟨_, List.getElem?_eq_getElem hj⟩
  have := hget j e o he ho
  cases e with
  | own i =>
    refine .inl ⟨i, he, ?_, slot_okOwn this.2 hso⟩
    exact slot_mk this.1 (by rw [slot_rn, hso]; rfl)
  | sha i =>
    obtain ⟨_, o', h1, h2⟩ := this
    have h3 : slotO (o.rn t Mc.length) g = slotO o'.ro g := by rw [h2]
    rw [slot_rn, slot_ro, hso] at h3
    cases hh : slotO o' g with
    | none => rw [hh] at h3; cases h3
    | some y =>
      rw [hh] at h3
      simp only [Option.map_some, Option.some.injEq, Prod.mk.injEq] at h3
      obtain ⟨own', xc⟩ := y
      refine .inr (.inl ⟨i, own', he, slot_mk h1 ?_, h3.1⟩)
      rw [hh, h3.2]
  | win i g' off =>
    obtain ⟨x0, own', xc, rfl, h2, h3⟩ := this
    simp only [slotO] at hso
    split at hso
    · injection hso with hso; injection hso with a b; subst a; subst b
      exact .inr (.inr ⟨i, g', off, own', xc, he, ‹_›, h2, h3, rfl⟩)
    · cases hso

theorem callee_own (hfit : fitH t Mc.length Mc t M) {j g : Nat} {x : Cont} {q : Nat × Nat} (hs : slot M j g = some (true, x)) (hq : envC t ρ j g = some (some q)) :
    ∃ i, t[j]? = some (.own i) ∧ slot Mc i g = some (true, x.rn t Mc.length) ∧ ρ i g = some (some q) := by
  rcases callee_slot hfit hs with ⟨i, h1, h2, _⟩ | ⟨_, _, _, _, h⟩ | ⟨_, _, _, _, _, _, _, _, _, h⟩
  · unfold envC at hq; rw [h1] at hq; exact ⟨i, h1, h2, hq⟩
  · cases h
  · cases h

def Cont.w0 (t : List TE) : Cont → Prop
  | .cells cs => AV.w0l t cs = true
  | .ints _ _ _ => True
  | .bools _ _ => True
  | .tab _ n get _ => ∀ j, AV.w0l t (get j) = true
  | .map _ es => ∀ p ∈ es, p.2.w0 t = true
  | .loop _ _ _ _ _ a _ _ _ _ => ∀ j, (a j).w0 t = true
def AO.w0 (t : List TE) : AO → Prop
  | .gone => True
  | .one _ _ x => x.w0 t
  | .fam _ _ x => ∀ g, (x g).w0 t
def w0H (t : List TE) : AH → Prop
  | [] => True
  | o :: M => o.w0 t ∧ w0H t M
theorem w0l_get {t : List TE} : ∀ {l : List AV}, AV.w0l t l = true → ∀ v ∈ l, v.w0 t = true
  | [], _, v, hv => by cases hv
  | u :: l, h, v, hv => by
    simp only [AV.w0l, Bool.and_eq_true] at h
    rcases List.mem_cons.1 hv with rfl | hv
    · exact h.1
    · exact w0l_get h.2 v hv
theorem Cont.w0_at {t : List TE} {x : Cont} (h : x.w0 t) {j : Nat} {v : AV} (hv : x.at j = some v) : v.w0 t = true := by
  cases x with
  | cells cs => exact w0l_get h v (List.mem_of_getElem? hv)
  | ints kk xs c => simp only [Cont.at, Option.map_eq_some_iff] at hv; obtain ⟨z, _, rfl⟩ := hv; rfl
  | bools xs c => simp only [Cont.at, Option.map_eq_some_iff] at hv; obtain ⟨z, _, rfl⟩ := hv; rfl
  | tab sz n get c =>
    simp only [Cont.at] at hv
    split at hv
    · exact w0l_get (h _) v (List.mem_of_getElem? hv)
    · cases hv
  | map _ _ => simp [Cont.at] at hv
  | loop _ _ _ _ _ _ _ _ _ _ => simp [Cont.at] at hv
theorem w0H_get {t : List TE} : ∀ {M : AH}, w0H t M → ∀ {i : Nat} {o : AO}, M[i]? = some o → o.w0 t
  | [], _, i, o, h => by simp at h
  | p :: M, hn, 0, o, h => by simp at h; subst h; exact hn.1
  | p :: M, hn, i + 1, o, h => w0H_get hn.2 (by simpa using h)
theorem slot_w0 {t : List TE} {M : AH} (h : w0H t M) {i g : Nat} {own : Bool} {x : Cont} (hs : slot M i g = some (own, x)) : x.w0 t := by
  obtain ⟨o, ho, hso⟩ := slot_get hs
  have := w0H_get h ho
  cases o with
  | gone => cases hso
  | one own' g' x' =>
    simp only [slotO] at hso
    split at hso
    · injection hso with hso; injection hso with h1 h2; subst h2; exact this
    · cases hso
  | fam own' m x' =>
    simp only [slotO] at hso
    split at hso
    · injection hso with hso; injection hso with h1 h2; subst h2; exact this g
    · cases hso

theorem callee_sim (hs : Sim ρ Mc w) (hap : apartT t = true) (hfit : fitH t Mc.length Mc t M) (hw0 : w0H t M) : Sim (envC t ρ) M w := by
  obtain ⟨hl, hget⟩ := fitH_get hfit
  have hR : EnvR t Mc.length (envC t ρ) ρ := envC_R
  have hent : ∀ j g, (envC t ρ j g).isSome = true → ∃ e, t[j]? = some e := by
    intro j g h
    unfold envC at h
    cases ht : t[j]? with
    | none => rw [ht] at h; cases h
    | some e => exact ⟨e, rfl⟩
  refine ⟨?_, ?_, ?_, ?_, ?_⟩
  · intro j g h
    obtain ⟨e, he⟩ := hent j g h
    rw [← hl]; exact (List.getElem?_eq_some_iff.1 he).1
  · intro j g own g' x hm h
    obtain ⟨e, he⟩ := hent j g h
    have := hget j e _ he hm
    unfold envC at h
    rw [he] at h
    cases e with
    | own i => exact hs.tag i g own g' _ this.1 h
    | sha i =>
      obtain ⟨_, o', h1, h2⟩ := this
      cases o' with
      | gone => cases h2
      | one own2 g2 x2 => injection h2 with _ e2 _; subst e2; exact hs.tag i g own2 _ x2 h1 h
      | fam _ _ _ => cases h2
    | win i g2 off =>
      obtain ⟨x0, own2, xc, e0, _, _⟩ := this
      injection e0 with _ e1 _
      simp only at h
      split at h
      · omega
      · cases h
  · intro j g own n x hm h
    obtain ⟨e, he⟩ := hent j g h
    have := hget j e _ he hm
    unfold envC at h
    rw [he] at h
    cases e with
    | own i => exact hs.fam i g own n _ this.1 h
    | sha i =>
      obtain ⟨_, o', h1, h2⟩ := this
      cases o' with
      | gone => cases h2
      | one own2 g2 x2 => cases h2
      | fam own2 n2 x2 => injection h2 with _ e2 _; subst e2; exact hs.fam i g own2 _ x2 h1 h
    | win i g2 off =>
      obtain ⟨x0, own2, xc, e0, _, _⟩ := this
      cases e0
  · intro j g own x hsl
    have hxw := slot_w0 hw0 hsl
    have spc : ∀ (own' : Bool) (b base : Nat), Holds ρ own' (x.rn t Mc.length) b base w → x.row = false → Holds (envC t ρ) own x b base w := by
      intro own' b base hh hx
      rcases hh.all with ⟨h0, _⟩ | ⟨_, hb, hs⟩
      · rw [Cont.rn_row, hx] at h0; cases h0
      · refine ⟨.inr ⟨hx, hb, ?_⟩⟩
        cases x with
        | map kk es =>
          obtain ⟨ents, clock, h1, h2, h3, h4, h5⟩ := hs
          have hok : ∀ p ∈ es, p.2.ok (envC t ρ) := fun p hp => ok_back p.2 (hxw p hp) (h3 (p.1, p.2.rn t Mc.length) (List.mem_map_of_mem hp)).1
          refine ⟨ents, clock, h1, ?_, fun p hp => ⟨hok p hp, (h3 (p.1, p.2.rn t Mc.length) (List.mem_map_of_mem hp)).2⟩, h4, h5⟩
          rw [h2, List.map_map]
          exact List.map_congr_left fun p hp => by show (kk.v p.1, (p.2.rn t Mc.length).c ρ) = _; rw [(rn_c hR p.2 (hok p hp)).2]
        | loop l st pd fn n a ps as bd df =>
          obtain ⟨h1, tmps, h2, h3, h4⟩ := hs
          have hok : ∀ j, (a j).ok (envC t ρ) := fun j => ok_back (a j) (hxw j) (h4 j).1
          exact ⟨h1, tmps, h2, h3, fun j => ⟨hok j, by rw [(h4 j).2, (rn_c hR (a j) (hok j)).2]⟩⟩
        | cells _ => exact hs.elim
        | ints _ _ _ => exact hs.elim
        | bools _ _ => exact hs.elim
        | tab _ _ _ _ => exact hs.elim
    have back : ∀ (own' : Bool) (xc : Cont) (b base off : Nat), x.row = true → xc.row = true → Holds ρ own' xc b base w → (∀ k v, x.at k = some v → xc.at (off + k) = some (v.rn t Mc.length)) → off + x.size ≤ xc.size → (own = true → own' = true) → Holds (envC t ρ) own x b (base + off) w := by
      intro own' xc b base off hxr hxc hh hat hsz hown
      obtain ⟨c, e, fr, k1, k2, k3, k4⟩ := hh.out hxc
      refine .mk' hxr ⟨c, e, fr, k1, by omega, fun k v hv => ?_, fun h => k4 (hown h)⟩
      have h1 := k3 _ _ (hat k v hv)
      have h2 := ok_back v (Cont.w0_at hxw hv) h1.1
      rw [Nat.add_assoc]
      exact ⟨h2, by rw [← (rn_c hR v h2).2]; exact h1.2⟩
    rcases callee_slot hfit hsl with ⟨i, h1, h2, h3⟩ | ⟨i, own', h1, h2, h3⟩ | ⟨i, g', off, own', xc, h1, h0, h2, h3, h4⟩
    · have he : envC t ρ j g = ρ i g := by unfold envC; rw [h1]
      rcases hs.holds i g _ _ h2 with ⟨q, e1, e2⟩ | ⟨e1, e2⟩
      · exact .inl ⟨q, by rw [he]; exact e1, if hx : x.row = true then back own _ q.1 q.2 0 hx (by rw [Cont.rn_row]; exact hx) e2 (fun k v hv => by rw [Nat.zero_add, Cont.rn_at, hv]; rfl) (by rw [Cont.rn_size]; omega) (fun h => h) else spc own _ _ e2 (by simpa using hx)⟩
      · exact .inr ⟨by rw [he]; exact e1, by cases x <;> exact e2⟩
    · have he : envC t ρ j g = ρ i g := by unfold envC; rw [h1]
      rcases hs.holds i g _ _ h2 with ⟨q, e1, e2⟩ | ⟨e1, e2⟩
      · exact .inl ⟨q, by rw [he]; exact e1, if hx : x.row = true then back own' _ q.1 q.2 0 hx (by rw [Cont.rn_row]; exact hx) e2 (fun k v hv => by rw [Nat.zero_add, Cont.rn_at, hv]; rfl) (by rw [Cont.rn_size]; omega) (fun h => by rw [h3] at h; cases h) else spc own' _ _ e2 (by simpa using hx)⟩
      · exact .inr ⟨by rw [he]; exact e1, by cases x <;> exact e2⟩
    · have he : envC t ρ j g = (ρ i g').map (fun l => l.map (fun q => (q.1, q.2 + off))) := by unfold envC; rw [h1]; simp [h0]
      rcases hs.holds i g' _ _ h2 with ⟨q, e1, e2⟩ | ⟨e1, e2⟩
      · exact .inl ⟨(q.1, q.2 + off), by rw [he, e1]; rfl, back own' _ q.1 q.2 off h3.2.2.2.1 h3.2.2.2.2 e2 h3.2.1 h3.1 (fun h => by rw [h4] at h; cases h)⟩
      · exact .inr ⟨by rw [he, e1]; rfl, h3.2.2.1 e2⟩
  · intro j g x j' g' own' x' q q' hs1 hs2 hq hq' hqq
    obtain ⟨i, a1, a2, a3⟩ := callee_own hfit hs1 hq
    rcases callee_slot hfit hs2 with ⟨i', h1, h2, h3⟩ | ⟨i', own2, h1, h2, h3⟩ | ⟨i', g2, off, own2, xc, h1, h0, h2, h3, h4⟩
    · have he : ρ i' g' = some (some q') := by unfold envC at hq'; rw [h1] at hq'; exact hq'
      obtain ⟨e1, e2⟩ := hs.apart i g _ i' g' _ _ q q' a2 h2 a3 he hqq
      exact ⟨apartT_get hap a1 h1 (.inl rfl) e1, e2⟩
    · have he : ρ i' g' = some (some q') := by unfold envC at hq'; rw [h1] at hq'; exact hq'
      obtain ⟨e1, e2⟩ := hs.apart i g _ i' g' _ _ q q' a2 h2 a3 he hqq
      exact ⟨apartT_get hap a1 h1 (.inl rfl) e1, e2⟩
    · exfalso
      unfold envC at hq'
      rw [h1] at hq'
      simp only [h0, if_true, Option.map_eq_some_iff] at hq'
      obtain ⟨l, hl1, hl2⟩ := hq'
      obtain ⟨q0, e0, e3⟩ := hl2
      subst e0
      obtain ⟨e1, e2⟩ := hs.apart i g _ i' g2 _ _ q q0 a2 h2 a3 hl1 (by rw [hqq, ← e3])
      have := apartT_get hap a1 h1 (.inl rfl) e1
      subst this
      rw [a1] at h1; cases h1
end
end Go.Proofs.Yteinenklppbjkaa

set_option linter.unusedVariables false
set_option linter.unusedSimpArgs false
open Go.RowKit
namespace Go.Proofs.Yteinenklppbjkaa

def findOwn : List TE → Nat → Option Nat
  | [], _ => none
  | .own i :: t, k => if i = k then some 0 else (findOwn t k).map (· + 1)
  | _ :: t, k => (findOwn t k).map (· + 1)
theorem findOwn_some : ∀ {t : List TE} {k j : Nat}, findOwn t k = some j → t[j]? = some (.own k)
  | [], k, j, h => by cases h
  | .own i :: t, k, j, h => by
    simp only [findOwn] at h
    split at h
    · injection h with h; subst h; subst_vars; rfl
    · obtain ⟨j', h1, rfl⟩ := Option.map_eq_some_iff.1 h
      simpa using findOwn_some h1
  | .sha i :: t, k, j, h => by
    obtain ⟨j', h1, rfl⟩ := Option.map_eq_some_iff.1 h
    simpa using findOwn_some h1
  | .win i g off :: t, k, j, h => by
    obtain ⟨j', h1, rfl⟩ := Option.map_eq_some_iff.1 h
    simpa using findOwn_some h1
theorem findOwn_none : ∀ {t : List TE} {k : Nat}, findOwn t k = none → ∀ j : Nat, t[j]? ≠ some (TE.own k)
  | [], k, h, j => by simp
  | .own i :: t, k, h, j => by
    simp only [findOwn] at h
    split at h
    · cases h
    · have h' := Option.map_eq_none_iff.1 h
      cases j with
      | zero => simp only [List.getElem?_cons_zero]; intro e; injection e with e; injection e with e; exact ‹¬ _› e
      | succ j => simpa using findOwn_none h' j
  | .sha i :: t, k, h, j => by
    have h' := Option.map_eq_none_iff.1 h
    cases j with
    | zero => simp
    | succ j => simpa using findOwn_none h' j
  | .win i g off :: t, k, h, j => by
    have h' := Option.map_eq_none_iff.1 h
    cases j with
    | zero => simp
    | succ j => simpa using findOwn_none h' j

/-- The caller's environment behind the call. -/
def envB (t : List TE) (m : Nat) (ρ ρ2 : Env) : Env := fun i g =>
  match ρ i g with
  | some l => some l
  | none => if m ≤ i then ρ2 (t.length + (i - m)) g else match findOwn t i with
    | some j => ρ2 j g
    | none => none

set_option maxHeartbeats 1000000 in
theorem caller_sim {t : List TE} {Mc M M' : AH} {ρ ρ2 : Env} {w w' : World} (hs : Sim ρ Mc w) (hap : apartT t = true) (hfit : fitH t Mc.length Mc t M) (hkeep : keepH t M M')
    (hs2 : Sim ρ2 M' w') (hE : Ext (envC t ρ) M w ρ2 M' w') (hs1 : Sim (envC t ρ) M w) :
    EnvR t Mc.length ρ2 (envB t Mc.length ρ ρ2) ∧ Sim (envB t Mc.length ρ ρ2) (setH t Mc.length t M' Mc) w' ∧ Ext ρ Mc w (envB t Mc.length ρ ρ2) (setH t Mc.length t M' Mc) w' := by
  obtain ⟨hl, hget⟩ := fitH_get hfit
  obtain ⟨hlen, hkp⟩ := keepH_get hkeep
  have hold : ∀ i g l, ρ i g = some l → envB t Mc.length ρ ρ2 i g = some l := fun i g l h => by simp only [envB, h]
  have hown : ∀ i j : Nat, t[j]? = some (TE.own i) → i < Mc.length ∧ ∀ g, envB t Mc.length ρ ρ2 i g = ρ2 j g := by
    intro i j hj
    have hjl : j < M.length := by rw [← hl]; exact (List.getElem?_eq_some_iff.1 hj).1
    have hi : i < Mc.length := by
      have := hget j _ _ hj (List.getElem?_eq_getElem hjl)
      exact (List.getElem?_eq_some_iff.1 this.1).1
    refine ⟨hi, fun g => ?_⟩
    have hc : envC t ρ j g = ρ i g := by unfold envC; rw [hj]
    unfold envB
    cases hr : ρ i g with
    | some l => exact (hE.env j g l (by rw [hc, hr])).symm
    | none =>
      simp only
      rw [if_neg (by omega)]
      cases hf : findOwn t i with
      | none => exact absurd hj (findOwn_none hf j)
      | some j' => rw [apartT_get hap hj (findOwn_some hf) (.inl rfl) rfl]
  have hnew : ∀ k g, envB t Mc.length ρ ρ2 (Mc.length + k) g = ρ2 (t.length + k) g := by
    intro k g
    unfold envB
    cases hr : ρ (Mc.length + k) g with
    | some l => have := hs.dom (Mc.length + k) g (by rw [hr]; rfl); omega
    | none => simp only; rw [if_pos (by omega), show Mc.length + k - Mc.length = k from by omega]
  have hrest : ∀ i, i < Mc.length → (∀ j : Nat, t[j]? ≠ some (TE.own i)) → ∀ g, envB t Mc.length ρ ρ2 i g = ρ i g := by
    intro i hi hn g
    unfold envB
    cases hr : ρ i g with
    | some l => rfl
    | none =>
      simp only
      rw [if_neg (by omega)]
      cases hf : findOwn t i with
      | none => rfl
      | some j => exact absurd (findOwn_some hf) (hn j)
  have hR : EnvR t Mc.length ρ2 (envB t Mc.length ρ ρ2) := by
    constructor
    intro j g l hlj
    unfold rnI rnG rnF
    have hjM : j < M'.length := hs2.dom j g (by rw [hlj]; rfl)
    have hoM := List.getElem?_eq_getElem hjM
    have hk := hkp j _ hoM
    cases ht : t[j]? with
    | none =>
      have hjt : t.length ≤ j := by simpa using ht
      simp only
      refine ⟨l, ?_, by cases l <;> rfl⟩
      rw [hnew, show t.length + (j - t.length) = j from by omega]; exact hlj
    | some e =>
      rw [ht] at hk
      cases e with
      | own i => exact ⟨l, ((hown i j ht).2 g).trans hlj, by cases l <;> rfl⟩
      | sha i =>
        simp only at hk
        have h0 := (hget j _ _ ht hk).1
        have hsl : ∃ own x, slot M j g = some (own, x) := by
          unfold slot
          rw [hk]
          generalize M'[j] = o at *
          cases o with
          | gone => cases h0
          | one own g1 x =>
            have : g1 = 0 := Nat.eq_of_beq_eq_true h0
            have h2 := hs2.tag j g own g1 x hoM (by rw [hlj]; rfl)
            exact ⟨own, x, by simp only [slotO]; rw [if_pos (by omega)]⟩
          | fam own n x =>
            have h2 := hs2.fam j g own n x hoM (by rw [hlj]; rfl)
            exact ⟨own, x g, by simp only [slotO]; rw [if_pos h2]⟩
        obtain ⟨own, x, hsl⟩ := hsl
        have hc : envC t ρ j g = ρ i g := by unfold envC; rw [ht]
        have : ρ i g = some l := by
          rcases hs1.holds j g own x hsl with ⟨q, e1, _⟩ | ⟨e1, _⟩
          · have := hE.env j g _ e1; rw [hlj] at this; rw [← hc, e1, this]
          · have := hE.env j g _ e1; rw [hlj] at this; rw [← hc, e1, this]
        exact ⟨l, hold i g l this, by cases l <;> rfl⟩
      | win i g' off =>
        simp only at hk
        obtain ⟨x, own, xc, ho, h1, h2⟩ := hget j _ _ ht hk
        have hg : g = 0 := by
          have := hs2.tag j g false 0 x (by rw [hoM, ho]) (by rw [hlj]; rfl)
          omega
        subst hg
        have hsl : slot M j 0 = some (false, x) := slot_mk (o := M'[j]) hk (by rw [ho]; rfl)
        have hc : envC t ρ j 0 = (ρ i g').map (fun l => l.map (fun q => (q.1, q.2 + off))) := by unfold envC; rw [ht]; simp
        have : envC t ρ j 0 = some l := by
          rcases hs1.holds j 0 false x hsl with ⟨q, e1, _⟩ | ⟨e1, _⟩
          · have := hE.env j 0 _ e1; rw [hlj] at this; rw [e1, this]
          · have := hE.env j 0 _ e1; rw [hlj] at this; rw [e1, this]
        rw [hc, Option.map_eq_some_iff] at this
        obtain ⟨l0, e1, e2⟩ := this
        exact ⟨l0, hold i g' l0 e1, e2.symm⟩
  -- each name of the caller's
  have cls : ∀ i, (∃ j, rnI t Mc.length j = i ∧ (setH t Mc.length t M' Mc)[i]? = (M'[j]?).map (AO.rn t Mc.length) ∧ (∀ g, envB t Mc.length ρ ρ2 i g = ρ2 j g) ∧ ∀ o, M'[j]? = some o → o.okOwn = true) ∨
      (i < Mc.length ∧ (setH t Mc.length t M' Mc)[i]? = Mc[i]? ∧ (∀ g, envB t Mc.length ρ ρ2 i g = ρ i g) ∧ ∀ j : Nat, t[j]? ≠ some (TE.own i)) := by
    intro i
    by_cases hi : i < Mc.length
    · cases hf : findOwn t i with
      | some j =>
        have hj := findOwn_some hf
        refine .inl ⟨j, by unfold rnI; rw [hj]; rfl, setH_own t Mc.length t M' Mc i j hi hlen hap hj, (hown i j hj).2, fun o ho => ?_⟩
        have := hkp j o ho
        rw [hj] at this; exact this
      | none =>
        have hn := findOwn_none hf
        exact .inr ⟨hi, setH_old t Mc.length t M' Mc i hi hlen hn, hrest i hi hn, hn⟩
    · obtain ⟨k, rfl⟩ : ∃ k, i = Mc.length + k := ⟨i - Mc.length, by omega⟩
      have ht : t[t.length + k]? = none := by simp
      refine .inl ⟨t.length + k, by unfold rnI; rw [ht]; simp only; omega, setH_new t Mc.length t M' Mc k hlen, hnew k, fun o ho => ?_⟩
      have := hkp (t.length + k) o ho
      rw [ht] at this; exact this
  have likeSlot : ∀ {i j g : Nat} {own : Bool} {x : Cont}, (setH t Mc.length t M' Mc)[i]? = (M'[j]?).map (AO.rn t Mc.length) → (∀ o, M'[j]? = some o → o.okOwn = true) → slot (setH t Mc.length t M' Mc) i g = some (own, x) → ∃ x', slot M' j g = some (true, x') ∧ x = x'.rn t Mc.length ∧ own = true := by
    intro i j g own x h1 h2 hsl
    obtain ⟨o, ho, hso⟩ := slot_get hsl
    rw [h1, Option.map_eq_some_iff] at ho
    obtain ⟨o', ho', rfl⟩ := ho
    rw [slot_rn, Option.map_eq_some_iff] at hso
    obtain ⟨⟨own', x'⟩, e1, e2⟩ := hso
    have := slot_okOwn (h2 o' ho') e1
    subst this
    injection e2 with e2 e3
    exact ⟨x', slot_mk ho' e1, e3.symm, e2.symm⟩
  have restSlot : ∀ {i g : Nat} {own : Bool} {x : Cont}, (setH t Mc.length t M' Mc)[i]? = Mc[i]? → slot (setH t Mc.length t M' Mc) i g = some (own, x) → slot Mc i g = some (own, x) := by
    intro i g own x h1 hsl
    unfold slot at hsl ⊢
    rw [h1] at hsl; exact hsl
  have holdsOf : ∀ i g own x q, slot Mc i g = some (own, x) → ρ i g = some (some q) → Holds ρ own x q.1 q.2 w := by
    intro i g own x q h1 h2
    rcases hs.holds i g own x h1 with ⟨q', e1, e2⟩ | ⟨e1, _⟩
    · rw [h2] at e1; injection e1 with e1; injection e1 with e1; subst e1; exact e2
    · rw [h2] at e1; cases e1
  have likeOwn : ∀ {j g : Nat} {x : Cont} {q : Nat × Nat}, slot M' j g = some (true, x) → ρ2 j g = some (some q) → q.1 < w.heap.size → ∃ (j0 i0 g0 : Nat) (x0 : Cont) (q0 : Nat × Nat), t[j0]? = some (TE.own i0) ∧ slot Mc i0 g0 = some (true, x0) ∧ ρ i0 g0 = some (some q0) ∧ q0.1 = q.1 := by
    intro j g x q h1 h2 h3
    obtain ⟨j0, g0, x0, q0, a1, a2, a3⟩ := hE.fresh j g x q h1 h2 h3
    obtain ⟨i0, b1, b2, b3⟩ := callee_own hfit a1 a2
    exact ⟨j0, i0, g0, _, q0, b1, b2, b3, a3⟩
  have frame : ∀ i g own x q, (∀ j : Nat, t[j]? ≠ some (TE.own i)) → slot Mc i g = some (own, x) → ρ i g = some (some q) → w'.heap[q.1]? = w.heap[q.1]? := by
    intro i g own x q hn h1 h2
    refine hE.frame q.1 (holdsOf i g own x q h1 h2).lt fun j0 g0 x0 q0 a1 a2 he => ?_
    obtain ⟨i0, b1, b2, b3⟩ := callee_own hfit a1 a2
    have := (hs.apart i0 g0 _ i g own x q0 q b2 h1 b3 h2 he).1
    subst this
    exact hn j0 b1
  refine ⟨hR, ⟨?_, ?_, ?_, ?_, ?_⟩, ⟨hold, hE.size, ?_, ?_, hE.os, hE.tape, hE.output⟩⟩
  · intro i g h
    rcases cls i with ⟨j, h0, h1, h2, h3⟩ | ⟨h0, h1, h2, h3⟩
    · rw [h2] at h
      have hj := hs2.dom j g h
      rw [List.getElem?_eq_getElem hj] at h1
      exact (List.getElem?_eq_some_iff.1 h1).1
    · rw [setH_length _ _ _ _ _ hlen]; omega
  · intro i g own g' x hm h
    rcases cls i with ⟨j, h0, h1, h2, h3⟩ | ⟨h0, h1, h2, h3⟩
    · rw [h2] at h
      rw [h1, Option.map_eq_some_iff] at hm
      obtain ⟨o, ho, e⟩ := hm
      cases o with
      | gone => cases e
      | one own1 g1 x1 => injection e with _ e _; subst e; exact hs2.tag j g own1 _ x1 ho h
      | fam _ _ _ => cases e
    · rw [h1] at hm; rw [h2] at h; exact hs.tag i g own g' x hm h
  · intro i g own n x hm h
    rcases cls i with ⟨j, h0, h1, h2, h3⟩ | ⟨h0, h1, h2, h3⟩
    · rw [h2] at h
      rw [h1, Option.map_eq_some_iff] at hm
      obtain ⟨o, ho, e⟩ := hm
      cases o with
      | gone => cases e
      | one own1 g1 x1 => cases e
      | fam own1 n1 x1 => injection e with _ e _; subst e; exact hs2.fam j g own1 _ x1 ho h
    · rw [h1] at hm; rw [h2] at h; exact hs.fam i g own n x hm h
  · intro i g own x hsl
    rcases cls i with ⟨j, h0, h1, h2, h3⟩ | ⟨h0, h1, h2, h3⟩
    · obtain ⟨x', a1, rfl, rfl⟩ := likeSlot h1 h3 hsl
      rw [h2]
      rcases hs2.holds j g true x' a1 with ⟨q, e1, e2⟩ | ⟨e1, e2⟩
      · refine .inl ⟨q, e1, ?_⟩
        rcases e2.all with ⟨hx, c, e, fr, k1, k2, k3, k4⟩ | ⟨hx, hb, hs⟩
        · refine .mk' (by rw [Cont.rn_row]; exact hx) ⟨c, e, fr, k1, by rw [Cont.rn_size]; exact k2, fun k v hv => ?_, k4⟩
          rw [Cont.rn_at, Option.map_eq_some_iff] at hv
          obtain ⟨v', hv', rfl⟩ := hv
          have := k3 k v' hv'
          obtain ⟨c1, c2⟩ := rn_c hR v' this.1
          exact ⟨c1, by rw [c2]; exact this.2⟩
        · refine ⟨.inr ⟨by rw [Cont.rn_row]; exact hx, hb, ?_⟩⟩
          cases x' with
          | map kk es =>
            obtain ⟨ents, clock, h1, h2, h3, h4, h5⟩ := hs
            refine ⟨ents, clock, h1, ?_, fun p hp => ?_, h4, h5⟩
            · rw [h2, List.map_map]
              exact List.map_congr_left fun p hp => by show _ = (kk.v p.1, (p.2.rn t Mc.length).c _); rw [(rn_c hR p.2 (h3 p hp).1).2]
            · obtain ⟨p', hp', rfl⟩ := List.mem_map.1 hp
              exact ⟨(rn_c hR p'.2 (h3 p' hp').1).1, (h3 p' hp').2⟩
          | loop l st pd fn n a ps as bd df =>
            obtain ⟨h1, tmps, h2, h3, h4⟩ := hs
            exact ⟨h1, tmps, h2, h3, fun j => ⟨(rn_c hR (a j) (h4 j).1).1, by rw [(h4 j).2, (rn_c hR (a j) (h4 j).1).2]⟩⟩
          | cells _ => exact hs.elim
          | ints _ _ _ => exact hs.elim
          | bools _ _ => exact hs.elim
          | tab _ _ _ _ => exact hs.elim
      · exact .inr ⟨e1, Cont.rn_virt e2⟩
    · have hsl' := restSlot h1 hsl
      rw [h2]
      rcases hs.holds i g own x hsl' with ⟨q, e1, e2⟩ | e
      · exact .inl ⟨q, e1, e2.ext hold (frame i g own x q h3 hsl' e1)⟩
      · exact .inr e
  · intro i1 g1 x1 i2 g2 own2 x2 q1 q2 hsl1 hsl2 hq1 hq2 he
    rcases cls i1 with ⟨j1, a0, a1, a2, a3⟩ | ⟨a0, a1, a2, a3⟩ <;> rcases cls i2 with ⟨j2, b0, b1, b2, b3⟩ | ⟨b0, b1, b2, b3⟩
    · obtain ⟨y1, c1, c2, _⟩ := likeSlot a1 a3 hsl1
      obtain ⟨y2, d1, d2, _⟩ := likeSlot b1 b3 hsl2
      rw [a2] at hq1; rw [b2] at hq2
      obtain ⟨e1, e2⟩ := hs2.apart j1 g1 y1 j2 g2 _ y2 q1 q2 c1 d1 hq1 hq2 he
      exact ⟨by rw [← a0, ← b0, e1], e2⟩
    · exfalso
      obtain ⟨y1, c1, c2, _⟩ := likeSlot a1 a3 hsl1
      rw [a2] at hq1; rw [b2] at hq2
      have hsl2' := restSlot b1 hsl2
      have hlt := (holdsOf i2 g2 own2 x2 q2 hsl2' hq2).lt
      obtain ⟨j0, i0, g0, x0, q0, d1, d2, d3, d4⟩ := likeOwn c1 hq1 (by omega)
      have := (hs.apart i0 g0 x0 i2 g2 own2 x2 q0 q2 d2 hsl2' d3 hq2 (d4.trans he)).1
      subst this
      exact b3 j0 d1
    · exfalso
      obtain ⟨y2, c1, c2, _⟩ := likeSlot b1 b3 hsl2
      rw [a2] at hq1; rw [b2] at hq2
      have hsl1' := restSlot a1 hsl1
      have hlt := (holdsOf i1 g1 true x1 q1 hsl1' hq1).lt
      obtain ⟨j0, i0, g0, x0, q0, d1, d2, d3, d4⟩ := likeOwn c1 hq2 (by omega)
      have := (hs.apart i0 g0 x0 i1 g1 true x1 q0 q1 d2 hsl1' d3 hq1 (d4.trans he.symm)).1
      subst this
      exact a3 j0 d1
    · rw [a2] at hq1; rw [b2] at hq2
      exact hs.apart i1 g1 x1 i2 g2 own2 x2 q1 q2 (restSlot a1 hsl1) (restSlot b1 hsl2) hq1 hq2 he
  · intro b hb hn
    refine hE.frame b hb fun j g x q h1 h2 => ?_
    obtain ⟨i0, b1, b2, b3⟩ := callee_own hfit h1 h2
    exact hn i0 g _ q b2 b3
  · intro i g x q hsl hq hb
    rcases cls i with ⟨j, h0, h1, h2, h3⟩ | ⟨h0, h1, h2, h3⟩
    · obtain ⟨x', a1, rfl, _⟩ := likeSlot h1 h3 hsl
      rw [h2] at hq
      obtain ⟨j0, i0, g0, x0, q0, d1, d2, d3, d4⟩ := likeOwn a1 hq hb
      exact ⟨i0, g0, x0, q0, d2, d3, d4⟩
    · rw [h2] at hq
      exact ⟨i, g, x, q, restSlot h1 hsl, hq, rfl⟩

/-- THE LAW. -/
theorem CallA.lift (t : List TE) {P : Program} {g : Nat} {args : List AV} {M : AH} {K0 Kp0 : AV → AH → Prop} (h : CallA P g args M K0 Kp0) {argsC : List AV} {Mc : AH} {K Kp : AV → AH → Prop}
    (hargs : AV.rnl t Mc.length args = argsC) (hchk : (apartT t && AV.w0l t args) = true) (hfit : fitH t Mc.length Mc t M) (hw0 : w0H t M)
    (hK : ∀ r M', K0 r M' → keepH t M M' ∧ K (r.rn t Mc.length) (setH t Mc.length t M' Mc))
    (hKp : ∀ r M', Kp0 r M' → keepH t M M' ∧ Kp (r.rn t Mc.length) (setH t Mc.length t M' Mc)) : CallA P g argsC Mc K Kp := by
  subst hargs
  simp only [Bool.and_eq_true] at hchk
  obtain ⟨hap, hwa⟩ := hchk
  unfold CallA at *
  refine ⟨h.1, fun ρ w hs hok => ?_⟩
  have hs1 := callee_sim hs hap hfit hw0
  have hok1 := okl_back args hwa hok
  have hcall := h.2 (envC t ρ) w hs1 hok1
  rw [← (rnl_c (envC_R (m := Mc.length)) args hok1).2] at hcall
  refine Calls.mono hcall fun e w' he => ?_
  obtain ⟨ρ2, M', h1, h2, h3⟩ := he
  cases e with
  | returned v =>
    obtain ⟨r, e1, e2, e3⟩ := h3
    obtain ⟨k1, k2⟩ := hK r M' e3
    obtain ⟨b1, b2, b3⟩ := caller_sim hs hap hfit k1 h1 h2 hs1
    obtain ⟨c1, c2⟩ := rn_c b1 r e2
    exact ⟨_, _, b2, b3, _, by rw [c2]; exact e1, c1, k2⟩
  | panicked ch =>
    obtain ⟨r, e1, e2, e3⟩ := h3
    obtain ⟨k1, k2⟩ := hKp r M' e3
    obtain ⟨b1, b2, b3⟩ := caller_sim hs hap hfit k1 h1 h2 hs1
    obtain ⟨c1, c2⟩ := rn_c b1 r e2
    exact ⟨_, _, b2, b3, _, by rw [c2]; exact e1, c1, k2⟩
  | outgrown => exact h3.elim
end Go.Proofs.Yteinenklppbjkaa

set_option linter.unusedVariables false
set_option linter.unusedSimpArgs false
open Go.RowKit
namespace Go.Proofs.Yteinenklppbjkaa

theorem sim_recast {ρ : Env} {M : AH} {w : World} {i g : Nat} {x x' : Cont} (h : Sim ρ M w) (hm : M[i]? = some (.one true g x)) (hsz : x'.size ≤ x.size)
    (hat : ∀ k v', x'.at k = some v' → ∃ v, x.at k = some v ∧ v'.c ρ = v.c ρ ∧ v'.ok ρ) (hv : x.virt → x'.virt) (hxr : x.row = true := by rfl) (hxr' : x'.row = true := by rfl) :
    Sim ρ (M.set i (.one true g x')) w ∧ Ext ρ M w ρ (M.set i (.one true g x')) w := by
  have hlt : i < M.length := (List.getElem?_eq_some_iff.1 hm).1
  refine sim_put (i := i) (g := g) (x' := x') h (by simp) (fun i' hne => by rw [List.getElem?_set_ne (Ne.symm hne)]) (by simp [hlt]) (fun _ _ _ e => e) (fun _ _ e => .inl e) (fun g' hg => h.tag i g' true g x hm hg)
    (fun b hb hn => rfl) (Nat.le_refl _) rfl rfl rfl ?_
  rcases h.holds i g true x (slot_one hm) with ⟨q, e1, e2⟩ | ⟨e1, e2⟩
  · refine .inl ⟨q, e1, ?_, .inr ⟨g, x, q, slot_one hm, e1, rfl⟩⟩
    obtain ⟨c, e, fr, k1, k2, k3, k4⟩ := e2.out hxr
    refine .mk' hxr' ⟨c, e, fr, k1, by omega, fun k v hv => ?_, k4⟩
    obtain ⟨v0, h1, h2, h3⟩ := hat k v hv
    exact ⟨h3, by rw [h2]; exact (k3 k v0 h1).2⟩
  · exact .inr ⟨e1, hv e2⟩

theorem set_append' {α : Type} (M : List α) (o o' : α) (i : Nat) (h : i < M.length) : (M ++ [o]).set i o' = M.set i o' ++ [o] := by
  rw [List.set_append, if_pos h]

/-- A nil slice within an own object, as an empty slice of an object of its own. -/
theorem Vw.ghost {M : AH} {i g k : Nat} {cs : List AV} {x : Cont} {l : List AV} (hm : M[i]? = some (.one true g (.cells cs))) (hk : cs[k]? = some .ns) (hx : x.virt) :
    Vw M (M.set i (.one true g (.cells (cs.set k (.sl M.length 0 0 0 0)))) ++ [.one true 0 x]) l l := by
  intro ρ w hs hok
  have hlt : i < M.length := (List.getElem?_eq_some_iff.1 hm).1
  obtain ⟨h1, h2⟩ := sim_new (x := x) (l := none) (w' := w) hs (fun _ _ => rfl) (Nat.le_refl _) rfl rfl rfl (.inr ⟨rfl, hx⟩)
  obtain ⟨h3, h4⟩ := sim_recast (x' := .cells (cs.set k (.sl M.length 0 0 0 0))) h1 (show (M ++ [AO.one true 0 x])[i]? = some (.one true g (.cells cs)) by rw [List.getElem?_append_left hlt]; exact hm)
    (by simp [Cont.size]) (fun j v' hv' => by
      simp only [Cont.at] at hv' ⊢
      by_cases hj : k = j
      · subst hj
        have hlk := (List.getElem?_eq_some_iff.1 hk).1
        rw [List.getElem?_set_self hlk] at hv'
        injection hv' with hv'; subst hv'
        exact ⟨.ns, hk, by simp [AV.c, upE_same], by simp [AV.ok, upE_same]⟩
      · rw [List.getElem?_set_ne hj] at hv'
        refine ⟨v', hv', rfl, ?_⟩
        rcases h1.holds i g true (.cells cs) (slot_one (by rw [List.getElem?_append_left hlt]; exact hm)) with ⟨q, e1, e2⟩ | ⟨_, e2⟩
        · obtain ⟨c, e, fr, k1, k2, k3, k4⟩ := e2.out rfl
          exact (k3 j v' hv').1
        · exact e2.elim) (fun h => h.elim)
  rw [set_append' _ _ _ _ hlt] at h3 h4
  refine ⟨_, h3, h2.trans h4, ?_, AV.okl_ext h2.env l hok⟩
  exact AV.cl_ext h2.env l hok
/-- A nil slice that a call answers. -/
theorem Vw.nil {M : AH} {x : Cont} (hx : x.virt) : Vw M (M ++ [.one true 0 x]) [.ns] [.sl M.length 0 0 0 0] := by
  intro ρ w hs hok
  obtain ⟨h1, h2⟩ := sim_new (x := x) (l := none) (w' := w) hs (fun _ _ => rfl) (Nat.le_refl _) rfl rfl rfl (.inr ⟨rfl, hx⟩)
  exact ⟨_, h1, h2, by simp [AV.cl, AV.c, upE_same], by simp [AV.okl, AV.ok, upE_same]⟩
def nilL (k : Nat) : List AV → List AV → Prop
  | [], [] => True
  | v :: l, v' :: l' => (v' = v ∨ (v = .ns ∧ v' = .sl k 0 0 0 0)) ∧ nilL k l l'
  | _, _ => False
/-- Nil slices among the values, as empty ones of one new object. -/
theorem Vw.nils {M : AH} {x : Cont} {l l' : List AV} (hx : x.virt) (hl : nilL M.length l l') : Vw M (M ++ [.one true 0 x]) l l' := by
  intro ρ w hs hok
  obtain ⟨h1, h2⟩ := sim_new (x := x) (l := none) (w' := w) hs (fun _ _ => rfl) (Nat.le_refl _) rfl rfl rfl (.inr ⟨rfl, hx⟩)
  have key : ∀ l l' : List AV, nilL M.length l l' → AV.okl ρ l → AV.cl (upE ρ M.length 0 none) l' = AV.cl ρ l ∧ AV.okl (upE ρ M.length 0 none) l' := by
    intro l
    induction l with
    | nil => intro l' h _; cases l' with
      | nil => exact ⟨rfl, trivial⟩
      | cons _ _ => cases h
    | cons v l ih =>
      intro l' h hok
      cases l' with
      | nil => cases h
      | cons v' l' =>
        obtain ⟨g1, g2⟩ := ih l' h.2 hok.2
        rcases h.1 with rfl | ⟨rfl, rfl⟩
        · exact ⟨by simp only [AV.cl, g1, AV.c_ext h2.env _ hok.1], AV.ok_ext h2.env _ hok.1, g2⟩
        · exact ⟨by simp [AV.cl, AV.c, upE_same, g1], by simp [AV.ok, upE_same], g2⟩
  obtain ⟨k1, k2⟩ := key l l' hl hok
  exact ⟨_, h1, h2, k1, k2⟩
theorem Vw.refl (M : AH) (l : List AV) : Vw M M l l := fun ρ w hs hok => ⟨ρ, hs, Ext.refl _ _ _, rfl, hok⟩

theorem CallA.post_view {P : Program} {g : Nat} {args : List AV} {M : AH} {K Kp : AV → AH → Prop} (h : CallA P g args M (fun r M' => ∃ r' M'', Vw M' M'' [r] [r'] ∧ K r' M'') Kp) : CallA P g args M K Kp := by
  unfold CallA at *
  refine ⟨h.1, fun ρ w hs hok => Calls.mono (h.2 ρ w hs hok) fun e w' he => ?_⟩
  obtain ⟨ρ', M', h1, h2, h3⟩ := he
  cases e with
  | returned v =>
    obtain ⟨r, e1, e2, r', M'', e3, e4⟩ := h3
    obtain ⟨ρ'', k1, k2, k3, k4⟩ := e3 ρ' w' h1 ⟨e2, trivial⟩
    simp only [AV.cl, List.cons.injEq, and_true] at k3
    exact ⟨ρ'', M'', k1, h2.trans k2, r', by rw [k3]; exact e1, k4.1, e4⟩
  | panicked ch =>
    obtain ⟨r, e1, e2, e3⟩ := h3
    exact ⟨ρ', M', h1, h2, r, e1, e2, e3⟩
  | outgrown => exact h3.elim

/-- What a call has made for itself is forgotten. -/
theorem CallA.post_sub {P : Program} {g : Nat} {args : List AV} {M : AH} {K Kp : AV → AH → Prop} (h : CallA P g args M (fun r M' => ∃ N, subA M' N ∧ nbH N.length N ∧ (r.nb N.length && Nat.ble M.length N.length) = true ∧ K r N) Kp) : CallA P g args M K Kp := by
  unfold CallA at *
  refine ⟨h.1, fun ρ w hs hok => Calls.mono (h.2 ρ w hs hok) fun e w' he => ?_⟩
  obtain ⟨ρ', M', h1, h2, h3⟩ := he
  cases e with
  | returned v =>
    obtain ⟨r, e1, e2, N, e3, e4, e5, e6⟩ := h3
    simp only [Bool.and_eq_true] at e5
    obtain ⟨k1, k2⟩ := sim_sub hs.dom h1 h2 e3 e4 (by simpa using e5.2)
    exact ⟨_, N, k1, k2, r, by rw [AV.nb_c e5.1 e2]; exact e1, AV.nb_ok r e5.1 e2, e6⟩
  | panicked ch =>
    obtain ⟨r, e1, e2, e3⟩ := h3
    exact ⟨ρ', M', h1, h2, r, e1, e2, e3⟩
  | outgrown => exact h3.elim

/-- A walk goes on from another view. -/
theorem WA.view {P : Program} {r : Option Nat} {D : List Deferred} {n : Nat} {c : Code} {Q : AEx → AA → AH → Prop} {Kp : AV → AH → Prop} {l l' : List (Nat × AV)} {a : AA} {M M' : AH}
    (ha : agr l a) (hk : l'.map (·.1) = l.map (·.1)) (hv : Vw M M' (l.map (·.2)) (l'.map (·.2))) (h : ∀ d, WA P r D n c Q Kp (ofL l' d) M') : WA P r D n c Q Kp a M := by
  unfold WA at *
  intro pin D1 ρ w act hof hpn hs hA
  have hok : AV.okl ρ (l.map (·.2)) := by
    clear hk hv
    induction l with
    | nil => trivial
    | cons x l ih => exact ⟨(show x.2.ok ρ from ha.1 ▸ hA.ok _), ih ha.2⟩
  obtain ⟨ρ', h1, h2, h3, h4⟩ := hv ρ w hs hok
  refine wpIn_mono (h (fun t => act.tmps.getD t undef) pin D1 ρ' w act hof hpn h1 ⟨hA.defers, hA.size, fun t => ?_, fun t => ?_⟩) fun e act' w' hq => ⟨hq.1.from h2 h1 (Marks.refl _ _ _), hq.2⟩
  · simp only [ofL]
    split
    · rename_i v hgv
      clear ha h3 hk hv h hok
      induction l' with
      | nil => cases hgv
      | cons y l' ih =>
        simp only [getL] at hgv
        split at hgv
        · injection hgv with hgv; subst hgv; exact h4.1
        · exact ih h4.2 hgv
    · exact trivial
  · simp only [ofL]
    split
    · rename_i v hgv
      have hg := hA.get t
      clear hok hv h h4
      induction l' generalizing l with
      | nil => cases hgv
      | cons y l' ih =>
        cases l with
        | nil => cases hk
        | cons x l =>
          simp only [List.map_cons, List.cons.injEq] at hk
          simp only [List.map_cons, AV.cl, List.cons.injEq] at h3
          simp only [getL] at hgv
          split at hgv
          · rename_i hb
            injection hgv with hgv; subst hgv
            have ht : t = y.1 := Nat.eq_of_beq_eq_true hb
            have ha1 := ha.1
            rw [h3.1, ← ha1, ← hk.1, ← ht]; exact hg
          · exact ih ha.2 hk.2 h3.2 hgv
    · rfl
end Go.Proofs.Yteinenklppbjkaa
