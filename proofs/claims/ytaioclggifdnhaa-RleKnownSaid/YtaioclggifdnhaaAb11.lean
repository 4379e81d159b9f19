/- A drawn region, on abstract states. -/
import Derived.Test.YtaioclggifdnhaaAb10
set_option linter.unusedVariables false
set_option linter.unusedSimpArgs false
open Go.RowKit
namespace Go.Proofs.Ytaioclggifdnhaa

/-- The objects of the names of B, where there are any yet, stay as they are. -/
def eqOn (B : List Nat) (M M' : AH) : Prop := ∀ b ∈ B, ∀ o, M[b]? = some o → M'[b]? = some o
def eqOnK (B : List Nat) (M M' : AH) (p : Prop) : Prop :=
  match B with
  | [] => p
  | b :: B => match M[b]? with
    | some o => M'[b]? = some o ∧ eqOnK B M M' p
    | none => eqOnK B M M' p
theorem eqOnK_spec {B : List Nat} {M M' : AH} {p : Prop} (h : eqOnK B M M' p) : eqOn B M M' ∧ p := by
  induction B with
  | nil => exact ⟨fun b hb => absurd hb List.not_mem_nil, h⟩
  | cons x B ih =>
    simp only [eqOnK] at h
    split at h
    · rename_i o ho
      refine ⟨fun b hb o' ho' => ?_, (ih h.2).2⟩
      rcases List.mem_cons.1 hb with rfl | hb
      · rw [ho] at ho'; injection ho' with ho'; subst ho'; exact h.1
      · exact (ih h.2).1 b hb o' ho'
    · rename_i ho
      refine ⟨fun b hb o' ho' => ?_, (ih h).2⟩
      rcases List.mem_cons.1 hb with rfl | hb
      · rw [ho] at ho'; cases ho'
      · exact (ih h).1 b hb o' ho'
theorem eqOn.trans {B : List Nat} {M M' M'' : AH} (h : eqOn B M M') (h' : eqOn B M' M'') : eqOn B M M'' := fun b hb o ho => h' b hb o (h b hb o ho)

def drawA (P : Program) (T : List TI) (n : Nat) (W : List Nat) (ops : Array Oper) (Kp : AV → AH → Prop) (K : AA → AH → Prop) (B : List Nat) : List (Nat × Nat) → AA → AH → Prop
  | [], a, M => K a M
  | (i, md) :: l, a, M => match ops[i]? with
    | none => False
    | some o => match md with
      | 0 => condT (plainOp o.op) (guardA n ops o a (fun a => pureA T (elemN W o.dst) M (evA a) o.op fun v => drawA P T n W ops Kp K B l (a.put n o.dst v) M) (fun a => drawA P T n W ops Kp K B l (a.put n o.dst (.tup [])) M))
      | 1 => condT (plainOp o.op) (guardA n ops o a (fun a => match o.op with
          | .load t x => condT (elemN B (some (evA a x).id)) (loadA T M t (evA a x) fun v => drawA P T n W ops Kp K B l (a.put n o.dst v) M)
          | .convert s d x => condT (elemN B (some (evA a x).id)) (strOfA T M s d (evA a x) fun v => drawA P T n W ops Kp K B l (a.put n o.dst v) M)
          | _ => False) (fun a => drawA P T n W ops Kp K B l (a.put n o.dst (.tup [])) M))
      | 2 => stepA P T n W ops o a M (fun a M' => eqOnK B M M' (drawA P T n W ops Kp K B l a M')) Kp
      | _ => stepA P T n W ops o a M (fun a M' => drawA P T n W ops Kp K B l a M') Kp

def planOk (ops : Array Oper) (ds : List Nat) : List (Nat × Nat) → Array Bool → Bool
  | [], l => Region.ready .any ops l == []
  | (i, md) :: r, l => (match md with
    | 0 => Region.free .any ops l i && (Region.ready .any ops l).contains i
    | 1 => Region.free .any ops l i && (Region.ready .any ops l).contains i && ds.all fun d => l.getD d true || waits ops i ops.size d
    | 2 => (Region.ready .any ops l == [i]) && !(ds.contains i)
    | _ => (Region.ready .any ops l == [i]) && ds.contains i && r.all (fun x => !(x.2 == 1) && !(x.2 == 2))) && planOk ops ds r (l.setIfInBounds i true)

theorem elemN_mem {l : List Nat} {t : Nat} (h : elemN l (some t) = true) : t ∈ l := by
  induction l with
  | nil => simp [elemN] at h
  | cons x l ih =>
    simp only [elemN, Bool.or_eq_true] at h
    rcases h with h | h
    · rw [Nat.eq_of_beq_eq_true h]; exact List.mem_cons_self
    · exact List.mem_cons_of_mem _ (ih h)

section
variable {r : Option Nat} {P : Program} {ops : Array Oper} {Q : Exit → Act → World → Prop} {S : World → Prop} {ds : List Nat}

theorem anyS_pure {i : Nat} {oi : Oper} {v : Value} (hi : ops[i]? = some oi) (hp : ∀ (i : Nat) o, ops[i]? = some o → plainOp o.op = true)
    (hQ : ∀ c a w, Q (.panic c) (a.put oi.dst v) w → Q (.panic c) a w) :
    ∀ (f : Nat) (l : Array Bool) (a : Act) (w : World),
      (∀ j oj, ops[j]? = some oj → j ≠ i → l.getD j true = false → (∀ e ∈ oj.after, Region.binds .any e = true → e.on ≠ i) → oi.apart ops oj = true) →
      i ∈ Region.ready .any ops l → YI P ops (fun _ => True) oi v a →
      anyS r P ops Q S ds f (l.setIfInBounds i true) (a.put oi.dst v) w → anyS r P ops Q S ds (f + 1) l a w := by
  intro f
  induction f with
  | zero =>
    intro l a w _ hr hy H
    refine ⟨fun h => (by rw [h] at hr; cases hr), fun j hj o ho => ?_⟩
    by_cases hji : j = i
    · subst hji
      rw [hi] at ho; injection ho with ho; subst ho
      exact hy.opW trivial ⟨fun _ => .inl rfl, H⟩
    · have := ready_mono hj hji
      rw [H.1] at this
      cases this
  | succ f ih =>
    intro l a w hfree hr hy H
    refine ⟨fun h => (by rw [h] at hr; cases hr), fun j hj oj hoj => ?_⟩
    by_cases hji : j = i
    · subst hji
      rw [hi] at hoj; injection hoj with hoj; subst hoj
      exact hy.opW trivial ⟨fun _ => .inl rfl, H⟩
    · have h1 := H.2 j (ready_mono hj hji) oj hoj
      obtain ⟨hjun, oj', hoj', hall⟩ := mem_ready.1 hj
      rw [hoj] at hoj'; injection hoj' with hoj'; subst hoj'
      have hiun := (mem_ready.1 hr).1
      have hnot : ∀ e ∈ oj.after, Region.binds .any e = true → e.on ≠ i := fun e he hb heq => by
        have h1 := hall e he hb
        rw [heq] at h1
        rcases Nat.lt_or_ge i l.size with h' | h'
        · simp [h'] at hiun h1; rw [hiun] at h1; cases h1
        · simp [Array.getElem?_eq_none h'] at h1
      have h2 := opW_put (hfree j oj hoj hji hjun hnot) (hp i oi hi) (hp j oj hoj) hQ hy h1
      refine opW_mono (fun a' w' h3 => ⟨h3.2.1, ih (l.setIfInBounds j true) a' w' ?_ (ready_mono hr (Ne.symm hji)) h3.1 ?_⟩) h2
      · intro k ok hk hki hun hno
        refine hfree k ok hk hki ?_ hno
        by_cases hjk : j = k
        · subst hjk; exact hjun
        · rw [getD_set_ne true hjk] at hun; exact hun
      · rw [Array.setIfInBounds_comm _ _ hji]
        exact h3.2.2

theorem anyS_done {l : Array Bool} {a : Act} {w : World} (hr : Region.ready .any ops l = []) (h : Q .normal a w) : ∀ f, anyS r P ops Q S ds f l a w
  | 0 => ⟨hr, h⟩
  | _ + 1 => ⟨fun _ => h, by rw [hr]; simp⟩

theorem anyS_one {i f : Nat} {o : Oper} {l : Array Bool} {a : Act} {w : World} (hr : Region.ready .any ops l = [i]) (hi : ops[i]? = some o)
    (h : opW r P ops Q o (fun a' w' => (i ∉ ds → w' = w ∨ S w') ∧ anyS r P ops Q S ds f (l.setIfInBounds i true) a' w') a w) : anyS r P ops Q S ds (f + 1) l a w := by
  refine ⟨fun h => (by rw [hr] at h; cases h), fun j hj o' ho' => ?_⟩
  rw [hr] at hj
  obtain rfl := List.mem_singleton.1 hj
  rw [hi] at ho'; injection ho' with ho'; subst ho'
  exact h

/-- What a drawn region's loads may count on. -/
def SB (ρ0 : Env) (M0 : AH) (B : List Nat) (w : World) : Prop := ∀ b ∈ B, HoldsId ρ0 M0 b w

theorem SB_keep {ρ0 ρ' : Env} {M0 M' : AH} {B : List Nat} {w0 w' : World} (h0 : SB ρ0 M0 B w0) (hs : Sim ρ' M' w') (he : ∀ i g l, ρ0 i g = some l → ρ' i g = some l) (hB : eqOn B M0 M') : SB ρ0 M0 B w' := by
  intro b hb g own x q hsl hq
  have hsl' : slot M' b g = some (own, x) := by
    unfold slot at hsl ⊢
    cases ho : M0[b]? with
    | none => rw [ho] at hsl; cases hsl
    | some o => rw [ho] at hsl; rw [hB b hb o ho]; exact hsl
  exact (h0 b hb g own x q hsl hq).back he (hs.id b g own x q hsl' (he _ _ _ hq))
theorem SB.of {ρ : Env} {M : AH} {w : World} (h : Sim ρ M w) (B : List Nat) : SB ρ M B w := fun b _ => h.id b

variable {T : List TI}
theorem loadA_ok {M : AH} {t : Nat} {a : AV} {K : AV → Prop} {ρ : Env} (hk : Known ρ M) (h : loadA T M t a K) : a.ok ρ := by
  have key : ∀ {i g : Nat} {K : Bool → Cont → Prop}, slotA M i g K → (ρ i g).isSome = true := by
    intro i g K h
    obtain ⟨own, x, hs, _⟩ := slotA_sound h
    rcases hk i g own x hs with ⟨q, hq⟩ | ⟨hq, _⟩ <;> simp [hq]
  unfold loadA at h
  split at h
  · exact h.elim
  · split at h <;> split at h <;> first
      | (simp only [AV.ok]; exact key h)
      | exact h.elim
set_option maxHeartbeats 1000000 in
theorem drawA_sound (hT : TabOK P T) {n : Nat} {W : List Nat} {K : AA → AH → Prop} {Kp : AV → AH → Prop} {B : List Nat} {D : List Deferred} {ρ0 : Env} {M0 : AH} {w0 : World}
    (hp : ∀ (i : Nat) o, ops[i]? = some o → plainOp o.op = true)
    (hQ : ∀ c (a : Act) d v w, Q (.panic c) (a.put d v) w → Q (.panic c) a w) :
    ∀ (plan : List (Nat × Nat)) (l : Array Bool) (f : Nat) (a : AA) (M : AH) (ρ : Env) (w : World) (act : Act) (S : World → Prop), plan.length ≤ f → planOk ops ds plan l = true → Closed ops l →
      Sim ρ M w → Ext ρ0 M0 w0 ρ M w → ActR ρ D n a act → (plan.any (fun x => x.2 == 1) = true → S w) → (∀ w', S w' → SB ρ M B w') → (plan.any (fun x => x.2 == 2) = true → ∀ ρ' M' w', Sim ρ' M' w' → (∀ i g l, ρ i g = some l → ρ' i g = some l) → eqOn B M M' → S w') → drawA P T n W ops Kp K B plan a M →
      (∀ a' act' M' ρ' w', K a' M' → ActR ρ' D n a' act' → Sim ρ' M' w' → Ext ρ0 M0 w0 ρ' M' w' → Q .normal act' w') →
      (∀ rv M' ρ' w' act', act'.defers = D → Kp rv M' → rv.ok ρ' → Sim ρ' M' w' → Ext ρ0 M0 w0 ρ' M' w' → Q (.panic [{ v := rv.c ρ', recovered := false }]) act' w') →
      anyS r P ops Q S ds f l act w
  | [], l, f, a, M, ρ, w, act, S, _, hpl, _, hs, hE, ha, _, _, _, h, hK, hP => by
    simp only [planOk, beq_iff_eq] at hpl
    exact anyS_done hpl (hK a act M ρ w h ha hs hE) f
  | (i, md) :: plan, l, f, a, M, ρ, w, act, S, hf, hpl, hc, hs, hE, ha, hS, hSB, hSk, h, hK, hP => by
    obtain ⟨f, rfl⟩ : ∃ f', f = f' + 1 := ⟨f - 1, by simp at hf; omega⟩
    simp only [planOk, Bool.and_eq_true] at hpl
    obtain ⟨hm, hpl⟩ := hpl
    simp only [drawA] at h
    split at h
    · exact h.elim
    · rename_i o hi
      have hf' : plan.length ≤ f := by simp at hf; omega
      have hS' : plan.any (fun x => x.2 == 1) = true → S w := fun hh => hS (by simp only [List.any_cons, hh, Bool.or_true])
      have hSk' := fun (hh : plan.any (fun x => x.2 == 2) = true) => hSk (by simp only [List.any_cons, hh, Bool.or_true])
      split at h
      · simp only [Bool.and_eq_true, List.contains_iff_mem] at hm
        have hready : i ∈ Region.ready .any ops l := by simpa using hm.2
        replace h := (condT_sound h).2
        obtain ⟨a', ha', h⟩ := guardA_sound ha h
        rcases h with ⟨hw, h⟩ | ⟨hw, h⟩
        · obtain ⟨v, h1, h2, h3⟩ := pureA_sound hT hs.known ha'.ev h
          refine anyS_pure hi hp (fun c a w => hQ c a o.dst _ w) f l act w (Region.free_spec hi hm.1) hready (.inl ⟨hw, fun w' _ => h3 w'⟩) ?_
          exact drawA_sound hT hp hQ plan _ f _ M ρ w _ S hf' hpl (hc.set hready) hs hE (ha'.put o.dst h2) hS' hSB hSk' h1 hK hP
        · refine anyS_pure hi hp (fun c a w => hQ c a o.dst _ w) f l act w (Region.free_spec hi hm.1) hready (.inr ⟨hw, rfl⟩) ?_
          exact drawA_sound hT hp hQ plan _ f _ M ρ w _ S hf' hpl (hc.set hready) hs hE (ha'.put o.dst (v := .tup []) trivial) hS' hSB hSk' h hK hP
      · simp only [Bool.and_eq_true, List.contains_iff_mem] at hm
        obtain ⟨⟨hfree, hrd⟩, hds⟩ := hm
        have hready : i ∈ Region.ready .any ops l := by simpa using hrd
        have hwait : ∀ d ∈ ds, l.getD d true = false → waits ops i ops.size d = true := fun d hd hun => by
          have := List.all_eq_true.1 hds d hd
          rw [hun] at this
          simpa using this
        have hSw := hS (by simp)
        replace h := (condT_sound h).2
        obtain ⟨a', ha', h⟩ := guardA_sound ha h
        rcases h with ⟨hw, h⟩ | ⟨hw, h⟩
        · split at h
          · rename_i t x hop
            replace h := condT_sound h
            obtain ⟨hel, h⟩ := h
            have hmem := elemN_mem hel
            obtain ⟨v, h1, h2, h3⟩ := loadA_sound (P := P) hT hs.known (hs.id _) h
            have hx := (ha'.ev x)
            have hrun : ∀ w', S w' → (execOp act.eval o).run P w' = .ok (.value (v.c ρ)) w' := by
              intro w' hw'
              have h4 := h3 w' (hSB w' hw' _ hmem)
              rw [← hx.1] at h4
              obtain ⟨dst, op, ty, pos, after, guard⟩ := o
              simp only at hop
              subst hop
              simp [execOp, h4]
            refine anyS_take hi hp (fun c a w => hQ c a o.dst _ w) f l act w (Region.free_spec hi hfree) hc hwait hready (.inl ⟨hw, hrun⟩) hSw ?_
            exact drawA_sound hT hp hQ plan _ f _ M ρ w _ S hf' hpl (hc.set hready) hs hE (ha'.put o.dst h2) hS' hSB hSk' h1 hK hP
          · rename_i t t' x hop
            replace h := condT_sound h
            obtain ⟨hel, h⟩ := h
            have hmem := elemN_mem hel
            obtain ⟨v, h1, h2, hidok, h3⟩ := strOfA_sound (P := P) hT hs.known h
            have hx := (ha'.ev x)
            have hrun : ∀ w', S w' → (execOp act.eval o).run P w' = .ok (.value (v.c ρ)) w' := by
              intro w' hw'
              have h4 := h3 w' (hSB w' hw' _ hmem)
              rw [← hx.1] at h4
              obtain ⟨dst, op, ty, pos, after, guard⟩ := o
              simp only at hop
              subst hop
              simp [execOp, h4]
            refine anyS_take hi hp (fun c a w => hQ c a o.dst _ w) f l act w (Region.free_spec hi hfree) hc hwait hready (.inl ⟨hw, hrun⟩) hSw ?_
            exact drawA_sound hT hp hQ plan _ f _ M ρ w _ S hf' hpl (hc.set hready) hs hE (ha'.put o.dst h2) hS' hSB hSk' h1 hK hP
          · exact h.elim
        · refine anyS_take hi hp (fun c a w => hQ c a o.dst _ w) f l act w (Region.free_spec hi hfree) hc hwait hready (.inr ⟨hw, rfl⟩) hSw ?_
          exact drawA_sound hT hp hQ plan _ f _ M ρ w _ S hf' hpl (hc.set hready) hs hE (ha'.put o.dst (v := .tup []) trivial) hS' hSB hSk' h hK hP
      · simp only [Bool.and_eq_true, beq_iff_eq] at hm
        have hready : i ∈ Region.ready .any ops l := by rw [hm.1]; exact List.mem_singleton.2 rfl
        refine anyS_one hm.1 hi ?_
        refine (stepA_sound (r := r) (Q := Q) hT hs ha h ?_ ?_).2
        · intro a' act' M' ρ' w' h1 h2 h3 h4
          replace h1 := eqOnK_spec h1
          have hE' := hE.trans h4
          have hSk := hSk (by simp)
          have hSw' := hSk ρ' M' w' h3 h4.env h1.1
          refine ⟨fun _ => .inr hSw', ?_⟩
          refine anyS_weaken (S := fun u => S u ∧ SB ρ' M' B u) (fun u hu => hu.1) f _ _ _ ?_
          refine drawA_sound hT hp hQ plan _ f a' M' ρ' w' act' (fun u => S u ∧ SB ρ' M' B u) hf' hpl (hc.set hready) h3 hE' h2 (fun _ => ⟨hSw', SB.of h3 B⟩) (fun u hu => hu.2) ?_ h1.2 hK hP
          intro _ ρ'' M'' w'' k1 k2 k3
          exact ⟨hSk ρ'' M'' w'' k1 (fun i g l e => k2 i g l (h4.env i g l e)) (h1.1.trans k3), SB_keep (SB.of h3 B) k1 k2 k3⟩
        · intro rv M' ρ' w' h1 h2 h3 h4
          exact hP rv M' ρ' w' act ha.defers h1 h2 h3 (hE.trans h4)
      · simp only [Bool.and_eq_true, beq_iff_eq] at hm
        obtain ⟨⟨hr1, hd1⟩, hno⟩ := hm
        have hready : i ∈ Region.ready .any ops l := by rw [hr1]; exact List.mem_singleton.2 rfl
        refine anyS_one hr1 hi ?_
        refine (stepA_sound (r := r) (Q := Q) hT hs ha h ?_ ?_).2
        · intro a' act' M' ρ' w' h1 h2 h3 h4
          have hE' := hE.trans h4
          refine ⟨fun hn => absurd (by simpa using hd1) hn, ?_⟩
          have hno1 : ∀ k : Nat, (k = 1 ∨ k = 2) → plan.any (fun x => x.2 == k) = true → False := by
            intro k hk hany
            obtain ⟨x, hx, hx1⟩ := List.any_eq_true.1 hany
            have := List.all_eq_true.1 hno x hx
            have e : x.2 = k := by simpa using hx1
            rcases hk with rfl | rfl <;> simp [e] at this
          refine anyS_weaken (S := fun _ => False) (fun u hu => hu.elim) f _ _ _ ?_
          exact drawA_sound hT hp hQ plan _ f a' M' ρ' w' act' (fun _ => False) hf' hpl (hc.set hready) h3 hE' h2 (fun hany => hno1 1 (.inl rfl) hany) (fun u hu => hu.elim) (fun hany => (hno1 2 (.inr rfl) hany).elim) h1 hK hP
        · intro rv M' ρ' w' h1 h2 h3 h4
          exact hP rv M' ρ' w' act ha.defers h1 h2 h3 (hE.trans h4)
end

end Go.Proofs.Ytaioclggifdnhaa
