/- Loops whose rounds end in another view; an object that takes another one's name. -/
import Derived.Test.YteinenklppbjkaaG2
set_option linter.unusedVariables false
set_option linter.unusedSimpArgs false
open Go.RowKit
namespace Go.Proofs.Yteinenklppbjkaa

/-- What a round of a loop has to show: in some view. -/
def roundV {σ : Type} (I : σ → Prop) (μ : σ → Nat) (A : σ → List (Nat × AV)) (H : σ → AH) (Q : AEx → AA → AH → Prop) (k : Nat) (e : AEx) (a : AA) (M : AH) : Prop :=
  match e with
  | .normal => ∃ s l M', (I s ∧ μ s < k) ∧ agr l a ∧ l.map (·.1) = (A s).map (·.1) ∧ Vw M M' (l.map (·.2)) ((A s).map (·.2)) ∧ subA M' (H s)
  | e => Q e a M

theorem agr_vals {ρ : Env} {D : List Deferred} {n : Nat} {a : AA} {act : Act} (hA : ActR ρ D n a act) : ∀ {l : List (Nat × AV)}, agr l a → AV.okl ρ (l.map (·.2))
  | [], _ => trivial
  | x :: l, h => ⟨(show x.2.ok ρ from h.1 ▸ hA.ok _), agr_vals hA h.2⟩

/-- A view on live temporaries. -/
theorem actR_view {ρ ρ' : Env} {D : List Deferred} {n : Nat} {a : AA} {act : Act} (hA : ActR ρ D n a act) {l l' : List (Nat × AV)} (ha : agr l a) (hk : l.map (·.1) = l'.map (·.1))
    (h3 : AV.cl ρ' (l'.map (·.2)) = AV.cl ρ (l.map (·.2))) (h4 : AV.okl ρ' (l'.map (·.2))) : ActR ρ' D n (ofL l' fun t => act.tmps.getD t undef) act := by
  refine ⟨hA.defers, hA.size, fun t => ?_, fun t => ?_⟩
  · simp only [ofL]
    split
    · rename_i v hgv
      clear ha h3 hk
      induction l' with
      | nil => cases hgv
      | cons y l' ih =>
        simp only [getL] at hgv
        split at hgv
        · injection hgv with hgv; subst hgv; exact h4.1
        · exact ih h4.2 hgv
    · exact trivial
  · simp only [ofL]
    split
    · rename_i v hgv
      have hg := hA.get t
      clear h4
      induction l' generalizing l with
      | nil => cases hgv
      | cons y l' ih =>
        cases l with
        | nil => cases hk
        | cons x l =>
          simp only [List.map_cons, List.cons.injEq] at hk
          simp only [List.map_cons, AV.cl, List.cons.injEq] at h3
          simp only [getL] at hgv
          split at hgv
          · rename_i hb
            injection hgv with hgv; subst hgv
            have ht : t = y.1 := Nat.eq_of_beq_eq_true hb
            have ha1 := ha.1
            rw [h3.1, ← ha1, hk.1, ← ht]; exact hg
          · exact ih ha.2 hk.2 h3.2 hgv
    · rfl

theorem WA.loopV {x : Cx} {σ : Type} (I : σ → Prop) (μ : σ → Nat) (A : σ → List (Nat × AV)) (H : σ → AH) (s0 : σ)
    (hT : TabOK x.P x.T) (hm : x.P.follows .mixedOrders = true) {c : Code} (hpl : plansB x.pl c = true) {Q : AEx → AA → AH → Prop} {Kp : AV → AH → Prop} {a : AA} {M : AH}
    (h0 : ∃ l M', I s0 ∧ agr l a ∧ l.map (·.1) = (A s0).map (·.1) ∧ Vw M M' (l.map (·.2)) ((A s0).map (·.2)) ∧ subA M' (H s0)) (hlen : ∀ s, Nat.ble M.length (H s).length = true) (hA : ∀ s, nbL (H s).length (A s) = true) (hH : ∀ s, nbH (H s).length (H s))
    (hbody : ∀ s, I s → ∀ d, codeA x c (roundV I μ A H Q (μ s)) Kp (ofL (A s) d) (H s)) :
    WA x.P x.r x.D x.n (.loop c) Q Kp a M := by
  unfold WA
  intro pin D0 ρ0 w0 act0 hof hp0 hs0 ha0
  let Inv : Nat → Act → World → Prop := fun k act w => PinOK pin act ∧ ∃ s ρ, I s ∧ μ s = k ∧ Sim ρ (H s) w ∧ Ext ρ0 M w0 ρ (H s) w ∧ ∃ D d, Marks w0.heap.size D0 D w ∧ ActR ρ D x.n (ofL (A s) d) act
  have hle : ∀ s, M.length ≤ (H s).length := fun s => by simpa using hlen s
  have getA : ∀ (s : σ) (d : Nat → Value), agr (A s) (ofL (A s) d) ∨ True := fun _ _ => .inr trivial
  have mk : ∀ s ρ M' a' act' w' l N D, PinOK pin act' → I s → Sim ρ M' w' → Ext ρ0 M w0 ρ M' w' → Marks w0.heap.size D0 D w' → ActR ρ D x.n a' act' → agr l a' → l.map (·.1) = (A s).map (·.1) → Vw M' N (l.map (·.2)) ((A s).map (·.2)) → subA N (H s) → Inv (μ s) act' w' := by
    intro s ρ M' a' act' w' l N D hpa hI h1 h2 hmk h3 h4 h5 h6 h7
    obtain ⟨ρ', b1, b2, b3, b4⟩ := h6 ρ w' h1 (agr_vals h3 h4)
    have hact := actR_view h3 h4 h5 b3 b4
    obtain ⟨k1, k2⟩ := sim_sub hs0.dom b1 (h2.trans b2) h7 (hH s) (hle s)
    refine ⟨hpa, s, _, hI, rfl, k1, k2, D, fun t => act'.tmps.getD t undef, hmk, hact.defers, hact.size, fun t => ?_, fun t => ?_⟩
    · have hok := hact.ok t
      simp only [ofL] at hok ⊢
      split
      · rename_i v hv
        rw [hv] at hok
        exact AV.nb_ok v (nbL_get (hA s) hv) hok
      · exact trivial
    · have hg := hact.get t
      have hok := hact.ok t
      simp only [ofL] at hg hok ⊢
      split
      · rename_i v hv
        rw [hv] at hg hok
        simp only at hg hok
        rw [AV.nb_c (nbL_get (hA s) hv) hok]; exact hg
      · rfl
  obtain ⟨l0, N0, i1, i2, i3, i4, i5⟩ := h0
  have hst := mk s0 ρ0 M a act0 w0 l0 N0 D0 hp0 i1 hs0 (Ext.refl _ _ _) (Marks.refl _ _ _) ha0 i2 i3 i4 i5
  refine wpIn_loop (fun act w => ∃ k, Inv k act w) (fun act w => by classical exact if h : ∃ k, Inv k act w then Classical.choose (exists_least h) else 0) ⟨_, hst⟩ ?_
  intro act w hI
  have hle1 := Classical.choose_spec (exists_least hI)
  rw [dif_pos hI]
  generalize Classical.choose (exists_least hI) = k at *
  obtain ⟨⟨hpa, s, ρ, hIs, rfl, hs, hE, D, d, hm0, ha⟩, hleast⟩ := hle1
  refine wpIn_mono (codeA_pin hT hm c hpl _ Kp _ _ ρ w act D hs hE hm0 ha hof hpa (hbody s hIs d)) fun e act' w' hq => ?_
  obtain ⟨hq, hpb⟩ := hq
  cases e with
  | normal =>
    obtain ⟨ρ', M', a', D', h1, h2, hm', h3, s', l', N', ⟨h4, h5⟩, h6, h7, h8, h9⟩ := hq
    have hst' := mk s' ρ' M' a' act' w' l' N' D' hpb h4 h1 h2 hm' h3 h6 h7 h8 h9
    have hex : ∃ k, Inv k act' w' := ⟨_, hst'⟩
    refine ⟨hex, ?_⟩
    rw [dif_pos hex]
    have := (Classical.choose_spec (exists_least hex)).2 _ hst'
    omega
  | exit id => exact ⟨hq, hpb⟩
  | ret => exact ⟨hq, hpb⟩
  | panic ch => exact ⟨hq, hpb⟩
  | goto l => exact hq.elim
  | outgrown => exact hq.elim

theorem Vw.trans {M M' M'' : AH} {l l' l'' : List AV} (h : Vw M M' l l') (h' : Vw M' M'' l' l'') : Vw M M'' l l'' := by
  intro ρ w hs hok
  obtain ⟨ρ1, a1, a2, a3, a4⟩ := h ρ w hs hok
  obtain ⟨ρ2, b1, b2, b3, b4⟩ := h' ρ1 w a1 a4
  exact ⟨ρ2, b1, a2.trans b2, b3.trans a3, b4⟩

/-- Values in which one name is another one. -/
def mvV (k gk i gi : Nat) (v v' : AV) : Prop :=
  v' = v ∨ (∃ o n c, v = .sl k gk o n c ∧ v' = .sl i gi o n c) ∨ (∃ o, v = .ptr k gk o ∧ v' = .ptr i gi o)
def mvL (k gk i gi : Nat) : List AV → List AV → Prop
  | [], [] => True
  | v :: l, v' :: l' => mvV k gk i gi v v' ∧ mvL k gk i gi l l'
  | _, _ => False
theorem mvV.same {k gk i gi : Nat} {v : AV} : mvV k gk i gi v v := .inl rfl
theorem mvV.sl {k gk i gi o n c : Nat} : mvV k gk i gi (.sl k gk o n c) (.sl i gi o n c) := .inr (.inl ⟨o, n, c, rfl, rfl⟩)

/-- An own object takes the name of another own one, which is forgotten. -/
theorem Vw.move {M : AH} {i k gi gk : Nat} {x y : Cont} {l l' : List AV} (hi : M[i]? = some (.one true gi x)) (hk : M[k]? = some (.one true gk y)) (hik : Nat.beq i k = false) (hl : mvL k gk i (gi + 1) l l') :
    Vw M ((M.set i (.one true (gi + 1) y)).set k .gone) l l' := by
  have hne : i ≠ k := Nat.ne_of_beq_eq_false hik
  have hil : i < M.length := (List.getElem?_eq_some_iff.1 hi).1
  have hkl : k < M.length := (List.getElem?_eq_some_iff.1 hk).1
  intro ρ w hs hok
  obtain ⟨loc, hloc⟩ : ∃ loc, ρ k gk = some loc := by
    rcases hs.holds k gk true y (slot_one hk) with ⟨q, e1, _⟩ | ⟨e1, _⟩
    · exact ⟨_, e1⟩
    · exact ⟨_, e1⟩
  have hun : (ρ i (gi + 1)).isSome = false := by
    cases hh : (ρ i (gi + 1)).isSome with
    | false => rfl
    | true => exact absurd (hs.tag i _ true gi x hi hh) (by omega)
  have hext := upE_ext (l := loc) hun
  have hs1 : ∀ {g own z}, slot ((M.set i (AO.one true (gi + 1) y)).set k .gone) i g = some (own, z) → g = gi + 1 ∧ own = true ∧ z = y := by
    intro g own z h
    unfold slot at h
    rw [List.getElem?_set_ne (Ne.symm hne), List.getElem?_set_self (by simpa using hil)] at h
    simp only [slotO] at h
    split at h
    · injection h with h; injection h with a b; exact ⟨‹_›, a.symm, b.symm⟩
    · cases h
  have hs2 : ∀ {g own z}, slot ((M.set i (AO.one true (gi + 1) y)).set k .gone) k g = some (own, z) → False := by
    intro g own z h
    unfold slot at h
    rw [List.getElem?_set_self (by simpa using hkl)] at h
    cases h
  have hs3 : ∀ {j g : Nat}, j ≠ i → j ≠ k → slot ((M.set i (AO.one true (gi + 1) y)).set k .gone) j g = slot M j g := by
    intro j g h1 h2
    unfold slot
    rw [List.getElem?_set_ne (Ne.symm h2), List.getElem?_set_ne (Ne.symm h1)]
  have hget : ∀ {j g : Nat}, j ≠ i → upE ρ i (gi + 1) loc j g = ρ j g := fun h => by simp [upE, h]
  refine ⟨upE ρ i (gi + 1) loc, ⟨?_, ?_, ?_, ?_, ?_⟩, ⟨hext, Nat.le_refl _, fun _ _ _ => rfl, ?_, rfl, rfl, rfl⟩, ?_⟩
  · intro j g h
    rcases upE_back j g h with h1 | ⟨rfl, _⟩
    · simpa using hs.dom j g h1
    · simpa using hil
  · intro j g own g' z hm h
    by_cases h1 : j = i
    · subst h1
      rw [List.getElem?_set_ne (Ne.symm hne), List.getElem?_set_self (by simpa using hil)] at hm
      injection hm with hm; injection hm with _ e _; subst e
      rcases upE_back j g h with h2 | ⟨_, rfl⟩
      · have := hs.tag j g true gi x hi h2; omega
      · exact Nat.le_refl _
    · by_cases h2 : j = k
      · subst h2
        rw [List.getElem?_set_self (by simpa using hkl)] at hm; cases hm
      · rw [List.getElem?_set_ne (Ne.symm h2), List.getElem?_set_ne (Ne.symm h1)] at hm
        rw [hget h1] at h
        exact hs.tag j g own g' z hm h
  · intro j g own m z hm h
    by_cases h1 : j = i
    · subst h1
      rw [List.getElem?_set_ne (Ne.symm hne), List.getElem?_set_self (by simpa using hil)] at hm; cases hm
    · by_cases h2 : j = k
      · subst h2
        rw [List.getElem?_set_self (by simpa using hkl)] at hm; cases hm
      · rw [List.getElem?_set_ne (Ne.symm h2), List.getElem?_set_ne (Ne.symm h1)] at hm
        rw [hget h1] at h
        exact hs.fam j g own m z hm h
  · intro j g own z h
    by_cases h1 : j = i
    · subst h1
      obtain ⟨rfl, rfl, rfl⟩ := hs1 h
      rw [upE_same]
      rcases hs.holds k gk true z (slot_one hk) with ⟨q, e1, e2⟩ | ⟨e1, e2⟩
      · rw [hloc] at e1; injection e1 with e1; subst e1
        exact .inl ⟨q, rfl, e2.ext hext rfl⟩
      · rw [hloc] at e1; injection e1 with e1; subst e1
        exact .inr ⟨rfl, e2⟩
    · by_cases h2 : j = k
      · subst h2; exact (hs2 h).elim
      · rw [hs3 h1 h2] at h
        rw [hget h1]
        rcases hs.holds j g own z h with ⟨q, e1, e2⟩ | e
        · exact .inl ⟨q, e1, e2.ext hext rfl⟩
        · exact .inr e
  · intro j g z j' g' own' z' q q' h h' e e' he
    have old : ∀ {j g own z q}, slot ((M.set i (AO.one true (gi + 1) y)).set k .gone) j g = some (own, z) → upE ρ i (gi + 1) loc j g = some (some q) →
        ∃ j0 g0, slot M j0 g0 = some (own, z) ∧ ρ j0 g0 = some (some q) ∧ ((j = i ∧ g = gi + 1 ∧ j0 = k ∧ g0 = gk) ∨ (j ≠ i ∧ j ≠ k ∧ j0 = j ∧ g0 = g)) := by
      intro j g own z q h e
      by_cases h1 : j = i
      · subst h1
        obtain ⟨rfl, rfl, rfl⟩ := hs1 h
        rw [upE_same] at e; injection e with e; subst e
        exact ⟨k, gk, slot_one hk, hloc, .inl ⟨rfl, rfl, rfl, rfl⟩⟩
      · by_cases h2 : j = k
        · subst h2; exact (hs2 h).elim
        · rw [hs3 h1 h2] at h; rw [hget h1] at e
          exact ⟨j, g, h, e, .inr ⟨h1, h2, rfl, rfl⟩⟩
    obtain ⟨a, b, c1, c2, c3⟩ := old h e
    obtain ⟨a', b', d1, d2, d3⟩ := old h' e'
    obtain ⟨f1, f2⟩ := hs.apart a b z a' b' own' z' q q' c1 d1 c2 d2 he
    rcases c3 with ⟨r1, r2, r3, r4⟩ | ⟨r1, r2, r3, r4⟩ <;> rcases d3 with ⟨t1, t2, t3, t4⟩ | ⟨t1, t2, t3, t4⟩
    · exact ⟨r1.trans t1.symm, r2.trans t2.symm⟩
    · exact absurd (t3.symm.trans (f1.symm.trans r3)) t2
    · exact absurd (r3.symm.trans (f1.trans t3)) r2
    · exact ⟨r3.symm.trans (f1.trans t3), r4.symm.trans (f2.trans t4)⟩
  · intro j g z q h e hb
    by_cases h1 : j = i
    · subst h1
      obtain ⟨rfl, _, rfl⟩ := hs1 h
      rw [upE_same] at e; injection e with e; subst e
      exact ⟨k, gk, z, q, slot_one hk, hloc, rfl⟩
    · by_cases h2 : j = k
      · subst h2; exact (hs2 h).elim
      · rw [hs3 h1 h2] at h; rw [hget h1] at e
        exact ⟨j, g, z, q, h, e, rfl⟩
  · have one : ∀ v v', mvV k gk i (gi + 1) v v' → v.ok ρ → v'.c (upE ρ i (gi + 1) loc) = v.c ρ ∧ v'.ok (upE ρ i (gi + 1) loc) := by
      intro v v' h hv
      rcases h with rfl | ⟨o, n, c, rfl, rfl⟩ | ⟨o, rfl, rfl⟩
      · exact ⟨AV.c_ext hext _ hv, AV.ok_ext hext _ hv⟩
      · simp [AV.c, AV.ok, upE_same, hloc]
      · simp [AV.c, AV.ok, upE_same, hloc]
    have all : ∀ l l' : List AV, mvL k gk i (gi + 1) l l' → AV.okl ρ l → AV.cl (upE ρ i (gi + 1) loc) l' = AV.cl ρ l ∧ AV.okl (upE ρ i (gi + 1) loc) l' := by
      intro l
      induction l with
      | nil => intro l' h _; cases l' with
        | nil => exact ⟨rfl, trivial⟩
        | cons _ _ => cases h
      | cons v l ih =>
        intro l' h hok
        cases l' with
        | nil => cases h
        | cons v' l' =>
          obtain ⟨g1, g2⟩ := ih l' h.2 hok.2
          obtain ⟨g3, g4⟩ := one v v' h.1 hok.1
          exact ⟨by simp only [AV.cl, g1, g3], g4, g2⟩
    exact all l l' hl hok
end Go.Proofs.Yteinenklppbjkaa
