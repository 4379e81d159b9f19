/- A drawn region, on abstract states. -/
import Derived.Test.YthbmddaemdcamaaAb10
set_option linter.unusedVariables false
set_option linter.unusedSimpArgs false
open Go.RowKit
namespace Go.Proofs.Ythbmddaemdcamaa

def eqOn (B : List Nat) (M M' : AH) : Prop :=
  match B with
  | [] => True
  | b :: B => M'[b]? = M[b]? ∧ eqOn B M M'
def eqOnK (B : List Nat) (M M' : AH) (p : Prop) : Prop :=
  match B with
  | [] => p
  | b :: B => M'[b]? = M[b]? ∧ eqOnK B M M' p
theorem eqOnK_spec {B : List Nat} {M M' : AH} {p : Prop} (h : eqOnK B M M' p) : eqOn B M M' ∧ p := by
  induction B with
  | nil => exact ⟨trivial, h⟩
  | cons x B ih => exact ⟨⟨h.1, (ih h.2).1⟩, (ih h.2).2⟩
theorem eqOn_get {B : List Nat} {M M' : AH} (h : eqOn B M M') : ∀ b ∈ B, M'[b]? = M[b]? := by
  induction B with
  | nil => intro b hb; cases hb
  | cons x B ih =>
    intro b hb
    rcases List.mem_cons.1 hb with rfl | hb
    · exact h.1
    · exact ih h.2 b hb

def drawA (P : Program) (T : List TI) (n : Nat) (W : List Nat) (ops : Array Oper) (Kp : AV → AH → Prop) (K : AA → AH → Prop) (B : List Nat) (M0 : AH) : List (Nat × Nat) → AA → AH → Prop
  | [], a, M => K a M
  | (i, md) :: l, a, M => match ops[i]? with
    | none => False
    | some o => match md with
      | 0 => condT (plainOp o.op) (guardA n ops o a (fun a => pureA T (elemN W o.dst) M (evA a) o.op fun v => drawA P T n W ops Kp K B M0 l (a.put n o.dst v) M) (fun a => drawA P T n W ops Kp K B M0 l (a.put n o.dst (.tup [])) M))
      | 1 => condT (plainOp o.op) (guardA n ops o a (fun a => match o.op with
          | .load t x => condT (elemN B (some (evA a x).id)) (loadA T M0 t (evA a x) fun v => drawA P T n W ops Kp K B M0 l (a.put n o.dst v) M)
          | _ => False) (fun a => drawA P T n W ops Kp K B M0 l (a.put n o.dst (.tup [])) M))
      | 2 => stepA P T n W ops o a M (fun a M' => eqOnK B M0 M' (drawA P T n W ops Kp K B M0 l a M')) Kp
      | _ => stepA P T n W ops o a M (fun a M' => drawA P T n W ops Kp K B M0 l a M') Kp

def planOk (ops : Array Oper) (ds : List Nat) : List (Nat × Nat) → Array Bool → Bool
  | [], l => Region.ready .any ops l == []
  | (i, md) :: r, l => (match md with
    | 0 => Region.free .any ops l i && (Region.ready .any ops l).contains i
    | 1 => Region.free .any ops l i && (Region.ready .any ops l).contains i && ds.all fun d => l.getD d true || waits ops i ops.size d
    | 2 => (Region.ready .any ops l == [i]) && !(ds.contains i)
    | _ => (Region.ready .any ops l == [i]) && ds.contains i && r.all (fun x => !(x.2 == 1))) && planOk ops ds r (l.setIfInBounds i true)

theorem elemN_mem {l : List Nat} {t : Nat} (h : elemN l (some t) = true) : t ∈ l := by
  induction l with
  | nil => simp [elemN] at h
  | cons x l ih =>
    simp only [elemN, Bool.or_eq_true] at h
    rcases h with h | h
    · rw [Nat.eq_of_beq_eq_true h]; exact List.mem_cons_self
    · exact List.mem_cons_of_mem _ (ih h)

section
variable {r : Option Nat} {P : Program} {ops : Array Oper} {Q : Exit → Act → World → Prop} {S : World → Prop} {ds : List Nat}

theorem anyS_pure {i : Nat} {oi : Oper} {v : Value} (hi : ops[i]? = some oi) (hp : ∀ (i : Nat) o, ops[i]? = some o → plainOp o.op = true)
    (hQ : ∀ c a w, Q (.panic c) (a.put oi.dst v) w → Q (.panic c) a w) :
    ∀ (f : Nat) (l : Array Bool) (a : Act) (w : World),
      (∀ j oj, ops[j]? = some oj → j ≠ i → l.getD j true = false → (∀ e ∈ oj.after, Region.binds .any e = true → e.on ≠ i) → oi.apart ops oj = true) →
      i ∈ Region.ready .any ops l → YI P ops (fun _ => True) oi v a →
      anyS r P ops Q S ds f (l.setIfInBounds i true) (a.put oi.dst v) w → anyS r P ops Q S ds (f + 1) l a w := by
  intro f
  induction f with
  | zero =>
    intro l a w _ hr hy H
    refine ⟨fun h => (by rw [h] at hr; cases hr), fun j hj o ho => ?_⟩
    by_cases hji : j = i
    · subst hji
      rw [hi] at ho; injection ho with ho; subst ho
      exact hy.opW trivial ⟨fun _ h => h, H⟩
    · have := ready_mono hj hji
      rw [H.1] at this
      cases this
  | succ f ih =>
    intro l a w hfree hr hy H
    refine ⟨fun h => (by rw [h] at hr; cases hr), fun j hj oj hoj => ?_⟩
    by_cases hji : j = i
    · subst hji
      rw [hi] at hoj; injection hoj with hoj; subst hoj
      exact hy.opW trivial ⟨fun _ h => h, H⟩
    · have h1 := H.2 j (ready_mono hj hji) oj hoj
      obtain ⟨hjun, oj', hoj', hall⟩ := mem_ready.1 hj
      rw [hoj] at hoj'; injection hoj' with hoj'; subst hoj'
      have hiun := (mem_ready.1 hr).1
      have hnot : ∀ e ∈ oj.after, Region.binds .any e = true → e.on ≠ i := fun e he hb heq => by
        have h1 := hall e he hb
        rw [heq] at h1
        rcases Nat.lt_or_ge i l.size with h' | h'
        · simp [h'] at hiun h1; rw [hiun] at h1; cases h1
        · simp [Array.getElem?_eq_none h'] at h1
      have h2 := opW_put (hfree j oj hoj hji hjun hnot) (hp i oi hi) (hp j oj hoj) hQ hy h1
      refine opW_mono (fun a' w' h3 => ⟨h3.2.1, ih (l.setIfInBounds j true) a' w' ?_ (ready_mono hr (Ne.symm hji)) h3.1 ?_⟩) h2
      · intro k ok hk hki hun hno
        refine hfree k ok hk hki ?_ hno
        by_cases hjk : j = k
        · subst hjk; exact hjun
        · rw [getD_set_ne true hjk] at hun; exact hun
      · rw [Array.setIfInBounds_comm _ _ hji]
        exact h3.2.2

theorem anyS_done {l : Array Bool} {a : Act} {w : World} (hr : Region.ready .any ops l = []) (h : Q .normal a w) : ∀ f, anyS r P ops Q S ds f l a w
  | 0 => ⟨hr, h⟩
  | _ + 1 => ⟨fun _ => h, by rw [hr]; simp⟩

theorem anyS_one {i f : Nat} {o : Oper} {l : Array Bool} {a : Act} {w : World} (hr : Region.ready .any ops l = [i]) (hi : ops[i]? = some o)
    (h : opW r P ops Q o (fun a' w' => (i ∉ ds → S w → S w') ∧ anyS r P ops Q S ds f (l.setIfInBounds i true) a' w') a w) : anyS r P ops Q S ds (f + 1) l a w := by
  refine ⟨fun h => (by rw [hr] at h; cases h), fun j hj o' ho' => ?_⟩
  rw [hr] at hj
  obtain rfl := List.mem_singleton.1 hj
  rw [hi] at ho'; injection ho' with ho'; subst ho'
  exact h

/-- What a drawn region's loads may count on. -/
def SB (ρ0 : Env) (M0 : AH) (B : List Nat) (w : World) : Prop := ∀ b ∈ B, HoldsId ρ0 M0 b w

theorem SB_keep {ρ0 ρ' : Env} {M0 M' : AH} {B : List Nat} {w0 w' : World} (h0 : SB ρ0 M0 B w0) (hs : Sim ρ' M' w') (he : ∀ i g l, ρ0 i g = some l → ρ' i g = some l) (hB : eqOn B M0 M') : SB ρ0 M0 B w' := by
  intro b hb g own x q hsl hq
  have hM := eqOn_get hB b hb
  have hsl' : slot M' b g = some (own, x) := by unfold slot at hsl ⊢; rw [hM]; exact hsl
  obtain ⟨c, e, fr, h1, h2, h3, h4⟩ := (hs.id b g own x q hsl' (he _ _ _ hq)).out
  obtain ⟨c0, e0, fr0, k1, k2, k3, k4⟩ := (h0 b hb g own x q hsl hq).out
  refine ⟨c, e, fr, h1, h2, fun k v hv => ?_, h4⟩
  have hok := (k3 k v hv).1
  exact ⟨hok, by rw [← AV.c_ext he v hok]; exact (h3 k v hv).2⟩

variable {T : List TI}
theorem loadA_ok {M : AH} {t : Nat} {a : AV} {K : AV → Prop} {ρ : Env} (hk : Known ρ M) (h : loadA T M t a K) : a.ok ρ := by
  have key : ∀ {i g : Nat} {K : Bool → Cont → Prop}, slotA M i g K → (ρ i g).isSome = true := by
    intro i g K h
    obtain ⟨own, x, hs, _⟩ := slotA_sound h
    rcases hk i g own x hs with ⟨q, hq⟩ | ⟨hq, _⟩ <;> simp [hq]
  unfold loadA at h
  split at h
  · exact h.elim
  · split at h <;> split at h <;> first
      | (simp only [AV.ok]; exact key h)
      | exact h.elim
set_option maxHeartbeats 1000000 in
theorem drawA_sound (hT : TabOK P T) {n : Nat} {W : List Nat} {K : AA → AH → Prop} {Kp : AV → AH → Prop} {B : List Nat} {D : List Deferred} {ρ0 : Env} {M0 : AH} {w0 : World}
    (hp : ∀ (i : Nat) o, ops[i]? = some o → plainOp o.op = true) (hk0 : Known ρ0 M0) (hS0 : SB ρ0 M0 B w0)
    (hQ : ∀ c (a : Act) d v w, Q (.panic c) (a.put d v) w → Q (.panic c) a w) :
    ∀ (plan : List (Nat × Nat)) (l : Array Bool) (f : Nat) (a : AA) (M : AH) (ρ : Env) (w : World) (act : Act), plan.length ≤ f → planOk ops ds plan l = true → Closed ops l →
      Sim ρ M w → Ext ρ0 M0 w0 ρ M w → ActR ρ D n a act → (plan.any (fun x => x.2 == 1) = true → SB ρ0 M0 B w) → drawA P T n W ops Kp K B M0 plan a M →
      (∀ a' act' M' ρ' w', K a' M' → ActR ρ' D n a' act' → Sim ρ' M' w' → Ext ρ0 M0 w0 ρ' M' w' → Q .normal act' w') →
      (∀ rv M' ρ' w' act', act'.defers = D → Kp rv M' → rv.ok ρ' → Sim ρ' M' w' → Ext ρ0 M0 w0 ρ' M' w' → Q (.panic [{ v := rv.c ρ', recovered := false }]) act' w') →
      anyS r P ops Q (SB ρ0 M0 B) ds f l act w
  | [], l, f, a, M, ρ, w, act, _, hpl, _, hs, hE, ha, _, h, hK, hP => by
    simp only [planOk, beq_iff_eq] at hpl
    exact anyS_done hpl (hK a act M ρ w h ha hs hE) f
  | (i, md) :: plan, l, f, a, M, ρ, w, act, hf, hpl, hc, hs, hE, ha, hS, h, hK, hP => by
    obtain ⟨f, rfl⟩ : ∃ f', f = f' + 1 := ⟨f - 1, by simp at hf; omega⟩
    simp only [planOk, Bool.and_eq_true] at hpl
    obtain ⟨hm, hpl⟩ := hpl
    simp only [drawA] at h
    split at h
    · exact h.elim
    · rename_i o hi
      have hf' : plan.length ≤ f := by simp at hf; omega
      have hS' : plan.any (fun x => x.2 == 1) = true → SB ρ0 M0 B w := fun hh => hS (by simp only [List.any_cons, hh, Bool.or_true])
      split at h
      · simp only [Bool.and_eq_true, List.contains_iff_mem] at hm
        have hready : i ∈ Region.ready .any ops l := by simpa using hm.2
        replace h := (condT_sound h).2
        obtain ⟨a', ha', h⟩ := guardA_sound ha h
        rcases h with ⟨hw, h⟩ | ⟨hw, h⟩
        · obtain ⟨v, h1, h2, h3⟩ := pureA_sound hT hs.known ha'.ev h
          refine anyS_pure hi hp (fun c a w => hQ c a o.dst _ w) f l act w (Region.free_spec hi hm.1) hready (.inl ⟨hw, fun w' _ => h3 w'⟩) ?_
          exact drawA_sound hT hp hk0 hS0 hQ plan _ f _ M ρ w _ hf' hpl (hc.set hready) hs hE (ha'.put o.dst h2) hS' h1 hK hP
        · refine anyS_pure hi hp (fun c a w => hQ c a o.dst _ w) f l act w (Region.free_spec hi hm.1) hready (.inr ⟨hw, rfl⟩) ?_
          exact drawA_sound hT hp hk0 hS0 hQ plan _ f _ M ρ w _ hf' hpl (hc.set hready) hs hE (ha'.put o.dst (v := .tup []) trivial) hS' h hK hP
      · simp only [Bool.and_eq_true, List.contains_iff_mem] at hm
        obtain ⟨⟨hfree, hrd⟩, hds⟩ := hm
        have hready : i ∈ Region.ready .any ops l := by simpa using hrd
        have hwait : ∀ d ∈ ds, l.getD d true = false → waits ops i ops.size d = true := fun d hd hun => by
          have := List.all_eq_true.1 hds d hd
          rw [hun] at this
          simpa using this
        have hSw := hS (by simp)
        replace h := (condT_sound h).2
        obtain ⟨a', ha', h⟩ := guardA_sound ha h
        rcases h with ⟨hw, h⟩ | ⟨hw, h⟩
        · split at h
          · rename_i t x hop
            replace h := condT_sound h
            obtain ⟨hel, h⟩ := h
            have hmem := elemN_mem hel
            obtain ⟨v, h1, h2, h3⟩ := loadA_sound (P := P) hT hk0 (hS0 _ hmem) h
            have hx := (ha'.ev x)
            have hrun : ∀ w', SB ρ0 M0 B w' → (execOp act.eval o).run P w' = .ok (.value (v.c ρ)) w' := by
              intro w' hw'
              have h4 := h3 w' (hw' _ hmem)
              have hidok : (evA a' x).ok ρ0 := loadA_ok hk0 h
              rw [← AV.c_ext hE.env _ hidok, ← hx.1, ← AV.c_ext hE.env _ h2] at h4
              obtain ⟨dst, op, ty, pos, after, guard⟩ := o
              simp only at hop
              subst hop
              simp [execOp, h4]
            refine anyS_take hi hp (fun c a w => hQ c a o.dst _ w) f l act w (Region.free_spec hi hfree) hc hwait hready (.inl ⟨hw, hrun⟩) hSw ?_
            exact drawA_sound hT hp hk0 hS0 hQ plan _ f _ M ρ w _ hf' hpl (hc.set hready) hs hE (ha'.put o.dst (AV.ok_ext hE.env _ h2)) hS' h1 hK hP
          · exact h.elim
        · refine anyS_take hi hp (fun c a w => hQ c a o.dst _ w) f l act w (Region.free_spec hi hfree) hc hwait hready (.inr ⟨hw, rfl⟩) hSw ?_
          exact drawA_sound hT hp hk0 hS0 hQ plan _ f _ M ρ w _ hf' hpl (hc.set hready) hs hE (ha'.put o.dst (v := .tup []) trivial) hS' h hK hP
      · simp only [Bool.and_eq_true, beq_iff_eq] at hm
        have hready : i ∈ Region.ready .any ops l := by rw [hm.1]; exact List.mem_singleton.2 rfl
        refine anyS_one hm.1 hi ?_
        refine (stepA_sound (r := r) (Q := Q) hT hs ha h ?_ ?_).2
        · intro a' act' M' ρ' w' h1 h2 h3 h4
          replace h1 := eqOnK_spec h1
          have hE' := hE.trans h4
          have hSB := SB_keep hS0 h3 hE'.env h1.1
          exact ⟨fun _ _ => hSB, drawA_sound hT hp hk0 hS0 hQ plan _ f a' M' ρ' w' act' hf' hpl (hc.set hready) h3 hE' h2 (fun _ => hSB) h1.2 hK hP⟩
        · intro rv M' ρ' w' h1 h2 h3 h4
          exact hP rv M' ρ' w' act ha.defers h1 h2 h3 (hE.trans h4)
      · simp only [Bool.and_eq_true, beq_iff_eq] at hm
        obtain ⟨⟨hr1, hd1⟩, hno⟩ := hm
        have hready : i ∈ Region.ready .any ops l := by rw [hr1]; exact List.mem_singleton.2 rfl
        refine anyS_one hr1 hi ?_
        refine (stepA_sound (r := r) (Q := Q) hT hs ha h ?_ ?_).2
        · intro a' act' M' ρ' w' h1 h2 h3 h4
          have hE' := hE.trans h4
          refine ⟨fun hn => absurd (by simpa using hd1) hn, drawA_sound hT hp hk0 hS0 hQ plan _ f a' M' ρ' w' act' hf' hpl (hc.set hready) h3 hE' h2 (fun hany => ?_) h1 hK hP⟩
          exfalso
          obtain ⟨x, hx, hx1⟩ := List.any_eq_true.1 hany
          have := List.all_eq_true.1 hno x hx
          rw [hx1] at this
          cases this
        · intro rv M' ρ' w' h1 h2 h3 h4
          exact hP rv M' ρ' w' act ha.defers h1 h2 h3 (hE.trans h4)
end

end Go.Proofs.Ythbmddaemdcamaa
