/- A region whose order is drawn: quiet operations may be taken first. -/
import Derived.Test.YtaioclggifdnhaaAb8
import Derived.OrdersIn
set_option linter.unusedVariables false
set_option linter.unusedSimpArgs false
open Go.RowKit
namespace Go.Proofs.Ytaioclggifdnhaa

/-- The fence that lets everything by. -/
def FW (r : Option Nat) : Fence := { fn := fun _ => True, depth := none, alive := false, round := r }

section
variable {r : Option Nat} {P : Program} {ops : Array Oper} {Q : Exit → Act → World → Prop} {S : World → Prop} {ds : List Nat}

/-- One operation. -/
def opW (r : Option Nat) (P : Program) (ops : Array Oper) (Q : Exit → Act → World → Prop) (o : Oper) (K : Act → World → Prop) (a : Act) (w : World) : Prop :=
  if Region.wanted o (yielded ops a.tmps) = true then o.uponIn (FW r) 0 P a K Q ((execOp a.eval o).run P w) else K (a.put o.dst undef) w

def plainOp : Op → Bool
  | .defer _ | .select .. => false
  | _ => true

theorem wpOpIn_of {i : Nat} {o : Oper} {K : Act → World → Prop} {a : Act} {w : World} (hi : ops[i]? = some o) (hp : plainOp o.op = true) (h : opW r P ops Q o K a w) : wpOpIn (FW r) 0 P ops Q i K a w := by
  unfold wpOpIn opW at *
  simp only [hi]
  have hd : ∀ c, o.op ≠ .defer c := by intro c e; rw [e] at hp; cases hp
  split
  · rename_i hw
    rw [if_pos hw] at h
    exact ⟨fun _ _ => trivial, by rw [Oper.semAt_eq _ _ _ hd]; exact h⟩
  · rename_i hw
    rw [if_neg hw] at h
    exact ⟨fun _ _ => trivial, h⟩

theorem uponIn_mono {o : Oper} {a : Act} {K K' : Act → World → Prop} (h : ∀ a w, K a w → K' a w) {res : Result Next} (hh : o.uponIn (FW r) 0 P a K Q res) : o.uponIn (FW r) 0 P a K' Q res := by
  cases res with
  | ok x w' =>
    cases x <;> simp only [Oper.uponIn] at hh ⊢ <;>
      first
        | exact h _ _ hh
        | exact ⟨hh.1, CallsIn.mono hh.2 (fun e w'' he => by cases e <;> first | exact h _ _ he | exact he)⟩
        | exact ⟨hh.1, RowsIn.mono hh.2 (fun _ _ he => h _ _ he)⟩
        | exact ⟨hh.1, RoundIn.mono hh.2 (fun e w'' he => by cases e <;> first | exact h _ _ he | exact he)⟩
  | halt x w' => cases x <;> simp only [Oper.uponIn] at hh ⊢ <;> exact hh
theorem opW_mono {o : Oper} {a : Act} {w : World} {K K' : Act → World → Prop} (h : ∀ a w, K a w → K' a w) (hh : opW r P ops Q o K a w) : opW r P ops Q o K' a w := by
  unfold opW at *
  split
  · rename_i hw; rw [if_pos hw] at hh; exact uponIn_mono h hh
  · rename_i hw; rw [if_neg hw] at hh; exact h _ _ hh

/-- In every world that meets S the operation answers v. -/
def YI (P : Program) (ops : Array Oper) (S : World → Prop) (o : Oper) (v : Value) (a : Act) : Prop :=
  (Region.wanted o (yielded ops a.tmps) = true ∧ ∀ w, S w → (execOp a.eval o).run P w = .ok (.value v) w) ∨ (Region.wanted o (yielded ops a.tmps) = false ∧ v = undef)

theorem YI.opW {o : Oper} {v : Value} {a : Act} (hy : YI P ops S o v a) {K : Act → World → Prop} {w : World} (hS : S w) (h : K (a.put o.dst v) w) : opW r P ops Q o K a w := by
  unfold Ytaioclggifdnhaa.opW
  rcases hy with ⟨hw, hv⟩ | ⟨hw, rfl⟩
  · rw [if_pos hw, hv w hS]; exact h
  · rw [if_neg (by rw [hw]; simp)]; exact h

theorem YI.same {o : Oper} {v : Value} {a a' : Act} (hy : YI P ops S o v a) (he : execOp a'.eval o = execOp a.eval o) (hw : Region.wanted o (yielded ops a'.tmps) = Region.wanted o (yielded ops a.tmps)) : YI P ops S o v a' := by
  unfold YI at *; rw [he, hw]; exact hy

theorem opW_put {oi oj : Oper} {v : Value} (hap : oi.apart ops oj = true) (hpi : plainOp oi.op = true) (hpj : plainOp oj.op = true)
    (hQ : ∀ c a w, Q (.panic c) (a.put oi.dst v) w → Q (.panic c) a w) {K : Act → World → Prop} {a : Act} {w : World}
    (hy : YI P ops S oi v a) (h : opW r P ops Q oj K (a.put oi.dst v) w) :
    opW r P ops Q oj (fun a' w' => YI P ops S oi v a' ∧ K (a'.put oi.dst v) w') a w := by
  obtain ⟨h1, h2, h3⟩ := Oper.apart_spec hap
  have hsi : ∀ cs b, oi.op ≠ .select cs b := by intro cs b e; rw [e] at hpi; cases hpi
  have hsj : ∀ cs b, oj.op ≠ .select cs b := by intro cs b e; rw [e] at hpj; cases hpj
  have keep : ∀ (a : Act), YI P ops S oi v a → ∀ u, YI P ops S oi v (a.put oj.dst u) := fun a hy u =>
    hy.same (execOp_put oi hsi a oj.dst u h3) (wanted_put oi a oj.dst u h3)
  have keepD : ∀ d, YI P ops S oi v { a with defers := d :: a.defers } := fun d => hy.same rfl rfl
  unfold Ytaioclggifdnhaa.opW at *
  rw [wanted_put oj a oi.dst v h1] at h
  split
  · rename_i hw
    rw [if_pos hw, execOp_put oj hsj a oi.dst v h1] at h
    generalize (execOp a.eval oj).run P w = res at *
    cases res with
    | ok x w' =>
      cases x <;> simp only [Oper.uponIn] at h ⊢
      case value u => exact ⟨keep a hy u, by rw [← Act.put_comm a v u h2]; exact h⟩
      case skip => exact ⟨keep a hy _, by rw [← Act.put_comm a v undef h2]; exact h⟩
      case defer d =>
        refine ⟨keep _ (keepD d) _, ?_⟩
        rw [← Act.put_comm _ v undef h2, ← Act.put_defers]
        exact h
      case enter f args =>
        refine ⟨h.1, CallsIn.mono h.2 fun e w'' he => ?_⟩
        cases e with
        | returned u => exact ⟨keep a hy u, by rw [← Act.put_comm a v u h2]; exact he⟩
        | panicked c => exact hQ _ _ _ he
        | outgrown => exact he
      case row row args => exact ⟨h.1, RowsIn.mono h.2 fun u w'' he => ⟨keep a hy u, by rw [← Act.put_comm a v u h2]; exact he⟩⟩
      case round l f tmps assign body =>
        refine ⟨h.1, RoundIn.mono h.2 fun e w'' he => ?_⟩
        cases e with
        | returned u => exact ⟨keep a hy u, by rw [← Act.put_comm a v u h2]; exact he⟩
        | panicked c => exact hQ _ _ _ he
        | outgrown => exact he
    | halt x w' =>
      cases x <;> simp only [Oper.uponIn] at h ⊢
      case panic u => exact hQ _ _ _ h
  · rename_i hw
    rw [if_neg hw] at h
    exact ⟨keep a hy _, by rw [← Act.put_comm a v undef h2]; exact h⟩

/-- Whatever order is picked, S holding behind each operation that changes the world, but those of ds. -/
def anyS (r : Option Nat) (P : Program) (ops : Array Oper) (Q : Exit → Act → World → Prop) (S : World → Prop) (ds : List Nat) : Nat → Array Bool → Act → World → Prop
  | 0, l, a, w => Region.ready .any ops l = [] ∧ Q .normal a w
  | f + 1, l, a, w => (Region.ready .any ops l = [] → Q .normal a w) ∧ ∀ i ∈ Region.ready .any ops l, ∀ o, ops[i]? = some o →
      opW r P ops Q o (fun a' w' => (i ∉ ds → w' = w ∨ S w') ∧ anyS r P ops Q S ds f (l.setIfInBounds i true) a' w') a w

theorem wpAnyIn_of_anyS (hp : ∀ (i : Nat) o, ops[i]? = some o → plainOp o.op = true) : ∀ (f : Nat) (l : Array Bool) (a : Act) (w : World), anyS r P ops Q S ds f l a w → wpAnyIn (FW r) 0 P .any ops Q f l a w
  | 0, _, _, _, h => h
  | f + 1, l, a, w, h => ⟨h.1, fun i hi => by
      obtain ⟨_, o, ho, _⟩ := mem_ready.1 hi
      exact wpOpIn_of ho (hp i o ho) (opW_mono (fun a' w' h' => wpAnyIn_of_anyS hp f _ a' w' h'.2) (h.2 i hi o ho))⟩

theorem anyS_weaken {S' : World → Prop} (hw : ∀ w, S w → S' w) : ∀ (f : Nat) (l : Array Bool) (a : Act) (w : World), anyS r P ops Q S ds f l a w → anyS r P ops Q S' ds f l a w
  | 0, _, _, _, h => h
  | f + 1, l, a, w, h => ⟨h.1, fun i hi o ho => opW_mono (fun a' w' h' => ⟨fun hd => (h'.1 hd).imp id (hw w'), anyS_weaken hw f _ a' w' h'.2⟩) (h.2 i hi o ho)⟩

/-- d waits for i. -/
def waits (ops : Array Oper) (i : Nat) : Nat → Nat → Bool
  | 0, _ => false
  | f + 1, d => match ops[d]? with
    | some o => o.after.any fun e => Region.binds .any e && (e.on == i || waits ops i f e.on)
    | none => false

def Closed (ops : Array Oper) (l : Array Bool) : Prop := ∀ j o, ops[j]? = some o → l.getD j false = true → ∀ e ∈ o.after, Region.binds .any e = true → l.getD e.on false = true
theorem Closed.set {ops : Array Oper} {l : Array Bool} {i : Nat} (h : Closed ops l) (hi : i ∈ Region.ready .any ops l) : Closed ops (l.setIfInBounds i true) := by
  obtain ⟨_, oi, hoi, hall⟩ := mem_ready.1 hi
  intro j oj hj hl e he hb
  by_cases hij : i = j
  · subst hij
    rw [hoi] at hj; injection hj with hj; subst hj
    exact getD_set_true (hall e he hb)
  · rw [getD_set_ne false hij] at hl
    exact getD_set_true (h j oj hj hl e he hb)
theorem Closed.none {ops : Array Oper} {n : Nat} : Closed ops (Array.replicate n false) := by
  intro j o _ hl
  simp only [Array.getD_eq_getD_getElem?, Array.getElem?_replicate] at hl
  split at hl <;> cases hl

/-- d waits for i: no list that lets d come up has i unlisted. -/
theorem waits_not_ready {i : Nat} {l : Array Bool} (hclosed : Closed ops l) :
    ∀ (f d : Nat), waits ops i f d = true → l.getD i true = false → l.getD d false = true → False
  | 0, _, h, _, _ => by cases h
  | f + 1, d, h, hi, hl => by
    unfold waits at h
    cases ho : ops[d]? with
    | none => rw [ho] at h; cases h
    | some o =>
      rw [ho] at h
      obtain ⟨e, he, h1⟩ := Array.any_eq_true'.1 h
      simp only [Bool.and_eq_true, Bool.or_eq_true, beq_iff_eq] at h1
      have hle := hclosed d o ho hl e he h1.1
      rcases h1.2 with h2 | h2
      · rw [h2] at hle
        rcases Nat.lt_or_ge i l.size with h' | h'
        · simp [h'] at hi hle; rw [hi] at hle; cases hle
        · simp [Array.getElem?_eq_none h'] at hle
      · exact waits_not_ready hclosed f e.on h2 hi hle

theorem waits_ready {i : Nat} {l : Array Bool} (hc : Closed ops l) : ∀ (f : Nat) {d : Nat}, waits ops i f d = true → l.getD i true = false → d ∈ Region.ready .any ops l → False
  | 0, _, h, _, _ => by cases h
  | f + 1, d, h, hi, hd => by
    obtain ⟨_, o, ho, hall⟩ := mem_ready.1 hd
    unfold waits at h
    rw [ho] at h
    obtain ⟨e, he, h1⟩ := Array.any_eq_true'.1 h
    simp only [Bool.and_eq_true, Bool.or_eq_true, beq_iff_eq] at h1
    have hle := hall e he h1.1
    rcases h1.2 with h2 | h2
    · rw [h2] at hle
      rcases Nat.lt_or_ge i l.size with h' | h'
      · simp [h'] at hi hle; rw [hi] at hle; cases hle
      · simp [Array.getElem?_eq_none h'] at hle
    · exact waits_not_ready hc f e.on h2 hi hle

theorem anyS_take {i : Nat} {oi : Oper} {v : Value} (hi : ops[i]? = some oi) (hp : ∀ (i : Nat) o, ops[i]? = some o → plainOp o.op = true)
    (hQ : ∀ c a w, Q (.panic c) (a.put oi.dst v) w → Q (.panic c) a w) :
    ∀ (f : Nat) (l : Array Bool) (a : Act) (w : World),
      (∀ j oj, ops[j]? = some oj → j ≠ i → l.getD j true = false → (∀ e ∈ oj.after, Region.binds .any e = true → e.on ≠ i) → oi.apart ops oj = true) →
      Closed ops l → (∀ d ∈ ds, l.getD d true = false → waits ops i ops.size d = true) →
      i ∈ Region.ready .any ops l → YI P ops S oi v a → S w →
      anyS r P ops Q S ds f (l.setIfInBounds i true) (a.put oi.dst v) w → anyS r P ops Q S ds (f + 1) l a w := by
  intro f
  induction f with
  | zero =>
    intro l a w _ _ _ hr hy hS H
    refine ⟨fun h => (by rw [h] at hr; cases hr), fun j hj o ho => ?_⟩
    by_cases hji : j = i
    · subst hji
      rw [hi] at ho; injection ho with ho; subst ho
      exact hy.opW hS ⟨fun _ => .inl rfl, H⟩
    · have := ready_mono hj hji
      rw [H.1] at this
      cases this
  | succ f ih =>
    intro l a w hfree hc hd hr hy hS H
    refine ⟨fun h => (by rw [h] at hr; cases hr), fun j hj oj hoj => ?_⟩
    by_cases hji : j = i
    · subst hji
      rw [hi] at hoj; injection hoj with hoj; subst hoj
      exact hy.opW hS ⟨fun _ => .inl rfl, H⟩
    · have h1 := H.2 j (ready_mono hj hji) oj hoj
      obtain ⟨hjun, oj', hoj', hall⟩ := mem_ready.1 hj
      rw [hoj] at hoj'; injection hoj' with hoj'; subst hoj'
      have hiun := (mem_ready.1 hr).1
      have hnot : ∀ e ∈ oj.after, Region.binds .any e = true → e.on ≠ i := fun e he hb heq => by
        have h1 := hall e he hb
        rw [heq] at h1
        rcases Nat.lt_or_ge i l.size with h' | h'
        · simp [h'] at hiun h1; rw [hiun] at h1; cases h1
        · simp [Array.getElem?_eq_none h'] at h1
      have hjd : j ∉ ds := fun hm => waits_ready hc ops.size (hd j hm hjun) hiun hj
      have h2 := opW_put (hfree j oj hoj hji hjun hnot) (hp i oi hi) (hp j oj hoj) hQ hy h1
      refine opW_mono (fun a' w' h3 => ⟨h3.2.1, ih (l.setIfInBounds j true) a' w' ?_ (hc.set hj) ?_ (ready_mono hr (Ne.symm hji)) h3.1 ((h3.2.1 hjd).elim (fun e => e ▸ hS) id) ?_⟩) h2
      · intro k ok hk hki hun hno
        refine hfree k ok hk hki ?_ hno
        by_cases hjk : j = k
        · subst hjk; exact hjun
        · rw [getD_set_ne true hjk] at hun; exact hun
      · intro d hm hun
        refine hd d hm ?_
        by_cases hjk : j = d
        · subst hjk; exact hjun
        · rw [getD_set_ne true hjk] at hun; exact hun
      · rw [Array.setIfInBounds_comm _ _ hji]
        exact h3.2.2
end

end Go.Proofs.Ytaioclggifdnhaa
