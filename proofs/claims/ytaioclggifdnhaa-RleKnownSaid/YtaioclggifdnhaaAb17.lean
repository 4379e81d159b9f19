/- Other views of one world: a nil slice as an empty one; what a call answers, seen otherwise. -/
import Derived.Test.YtaioclggifdnhaaAb16
set_option linter.unusedVariables false
set_option linter.unusedSimpArgs false
open Go.RowKit
namespace Go.Proofs.Ytaioclggifdnhaa

theorem sim_recast {ρ : Env} {M : AH} {w : World} {i g : Nat} {x x' : Cont} (h : Sim ρ M w) (hm : M[i]? = some (.one true g x)) (hsz : x'.size ≤ x.size)
    (hat : ∀ k v', x'.at k = some v' → ∃ v, x.at k = some v ∧ v'.c ρ = v.c ρ ∧ v'.ok ρ) (hv : x.virt → x'.virt) (hxr : x.row = true := by rfl) (hxr' : x'.row = true := by rfl) :
    Sim ρ (M.set i (.one true g x')) w ∧ Ext ρ M w ρ (M.set i (.one true g x')) w := by
  have hlt : i < M.length := (List.getElem?_eq_some_iff.1 hm).1
  refine sim_put (i := i) (g := g) (x' := x') h (by simp) (fun i' hne => by rw [List.getElem?_set_ne (Ne.symm hne)]) (by simp [hlt]) (fun _ _ _ e => e) (fun _ _ e => .inl e) (fun g' hg => h.tag i g' true g x hm hg)
    (fun b hb hn => rfl) (Nat.le_refl _) rfl rfl rfl ?_
  rcases h.holds i g true x (slot_one hm) with ⟨q, e1, e2⟩ | ⟨e1, e2⟩
  · refine .inl ⟨q, e1, ?_, .inr ⟨g, x, q, slot_one hm, e1, rfl⟩⟩
    obtain ⟨c, e, fr, k1, k2, k3, k4⟩ := e2.out hxr
    refine .mk' hxr' ⟨c, e, fr, k1, by omega, fun k v hv => ?_, k4⟩
    obtain ⟨v0, h1, h2, h3⟩ := hat k v hv
    exact ⟨h3, by rw [h2]; exact (k3 k v0 h1).2⟩
  · exact .inr ⟨e1, hv e2⟩

theorem set_append' {α : Type} (M : List α) (o o' : α) (i : Nat) (h : i < M.length) : (M ++ [o]).set i o' = M.set i o' ++ [o] := by
  rw [List.set_append, if_pos h]

/-- A nil slice within an own object, as an empty slice of an object of its own. -/
theorem Vw.ghost {M : AH} {i g k : Nat} {cs : List AV} {x : Cont} {l : List AV} (hm : M[i]? = some (.one true g (.cells cs))) (hk : cs[k]? = some .ns) (hx : x.virt) :
    Vw M (M.set i (.one true g (.cells (cs.set k (.sl M.length 0 0 0 0)))) ++ [.one true 0 x]) l l := by
  intro ρ w hs hok
  have hlt : i < M.length := (List.getElem?_eq_some_iff.1 hm).1
  obtain ⟨h1, h2⟩ := sim_new (x := x) (l := none) (w' := w) hs (fun _ _ => rfl) (Nat.le_refl _) rfl rfl rfl (.inr ⟨rfl, hx⟩)
  obtain ⟨h3, h4⟩ := sim_recast (x' := .cells (cs.set k (.sl M.length 0 0 0 0))) h1 (show (M ++ [AO.one true 0 x])[i]? = some (.one true g (.cells cs)) by rw [List.getElem?_append_left hlt]; exact hm)
    (by simp [Cont.size]) (fun j v' hv' => by
      simp only [Cont.at] at hv' ⊢
      by_cases hj : k = j
      · subst hj
        have hlk := (List.getElem?_eq_some_iff.1 hk).1
        rw [List.getElem?_set_self hlk] at hv'
        injection hv' with hv'; subst hv'
        exact ⟨.ns, hk, by simp [AV.c, upE_same], by simp [AV.ok, upE_same]⟩
      · rw [List.getElem?_set_ne hj] at hv'
        refine ⟨v', hv', rfl, ?_⟩
        rcases h1.holds i g true (.cells cs) (slot_one (by rw [List.getElem?_append_left hlt]; exact hm)) with ⟨q, e1, e2⟩ | ⟨_, e2⟩
        · obtain ⟨c, e, fr, k1, k2, k3, k4⟩ := e2.out rfl
          exact (k3 j v' hv').1
        · exact e2.elim) (fun h => h.elim)
  rw [set_append' _ _ _ _ hlt] at h3 h4
  refine ⟨_, h3, h2.trans h4, ?_, AV.okl_ext h2.env l hok⟩
  exact AV.cl_ext h2.env l hok
/-- A nil slice that a call answers. -/
theorem Vw.nil {M : AH} {x : Cont} (hx : x.virt) : Vw M (M ++ [.one true 0 x]) [.ns] [.sl M.length 0 0 0 0] := by
  intro ρ w hs hok
  obtain ⟨h1, h2⟩ := sim_new (x := x) (l := none) (w' := w) hs (fun _ _ => rfl) (Nat.le_refl _) rfl rfl rfl (.inr ⟨rfl, hx⟩)
  exact ⟨_, h1, h2, by simp [AV.cl, AV.c, upE_same], by simp [AV.okl, AV.ok, upE_same]⟩
def nilL (k : Nat) : List AV → List AV → Prop
  | [], [] => True
  | v :: l, v' :: l' => (v' = v ∨ (v = .ns ∧ v' = .sl k 0 0 0 0)) ∧ nilL k l l'
  | _, _ => False
/-- Nil slices among the values, as empty ones of one new object. -/
theorem Vw.nils {M : AH} {x : Cont} {l l' : List AV} (hx : x.virt) (hl : nilL M.length l l') : Vw M (M ++ [.one true 0 x]) l l' := by
  intro ρ w hs hok
  obtain ⟨h1, h2⟩ := sim_new (x := x) (l := none) (w' := w) hs (fun _ _ => rfl) (Nat.le_refl _) rfl rfl rfl (.inr ⟨rfl, hx⟩)
  have key : ∀ l l' : List AV, nilL M.length l l' → AV.okl ρ l → AV.cl (upE ρ M.length 0 none) l' = AV.cl ρ l ∧ AV.okl (upE ρ M.length 0 none) l' := by
    intro l
    induction l with
    | nil => intro l' h _; cases l' with
      | nil => exact ⟨rfl, trivial⟩
      | cons _ _ => cases h
    | cons v l ih =>
      intro l' h hok
      cases l' with
      | nil => cases h
      | cons v' l' =>
        obtain ⟨g1, g2⟩ := ih l' h.2 hok.2
        rcases h.1 with rfl | ⟨rfl, rfl⟩
        · exact ⟨by simp only [AV.cl, g1, AV.c_ext h2.env _ hok.1], AV.ok_ext h2.env _ hok.1, g2⟩
        · exact ⟨by simp [AV.cl, AV.c, upE_same, g1], by simp [AV.ok, upE_same], g2⟩
  obtain ⟨k1, k2⟩ := key l l' hl hok
  exact ⟨_, h1, h2, k1, k2⟩
theorem Vw.refl (M : AH) (l : List AV) : Vw M M l l := fun ρ w hs hok => ⟨ρ, hs, Ext.refl _ _ _, rfl, hok⟩

theorem CallA.post_view {P : Program} {g : Nat} {args : List AV} {M : AH} {K Kp : AV → AH → Prop} (h : CallA P g args M (fun r M' => ∃ r' M'', Vw M' M'' [r] [r'] ∧ K r' M'') Kp) : CallA P g args M K Kp := by
  unfold CallA at *
  refine ⟨h.1, fun ρ w hs hok => Calls.mono (h.2 ρ w hs hok) fun e w' he => ?_⟩
  obtain ⟨ρ', M', h1, h2, h3⟩ := he
  cases e with
  | returned v =>
    obtain ⟨r, e1, e2, r', M'', e3, e4⟩ := h3
    obtain ⟨ρ'', k1, k2, k3, k4⟩ := e3 ρ' w' h1 ⟨e2, trivial⟩
    simp only [AV.cl, List.cons.injEq, and_true] at k3
    exact ⟨ρ'', M'', k1, h2.trans k2, r', by rw [k3]; exact e1, k4.1, e4⟩
  | panicked ch =>
    obtain ⟨r, e1, e2, e3⟩ := h3
    exact ⟨ρ', M', h1, h2, r, e1, e2, e3⟩
  | outgrown => exact h3.elim

/-- What a call has made for itself is forgotten. -/
theorem CallA.post_sub {P : Program} {g : Nat} {args : List AV} {M : AH} {K Kp : AV → AH → Prop} (h : CallA P g args M (fun r M' => ∃ N, subA M' N ∧ nbH N.length N ∧ (r.nb N.length && Nat.ble M.length N.length) = true ∧ K r N) Kp) : CallA P g args M K Kp := by
  unfold CallA at *
  refine ⟨h.1, fun ρ w hs hok => Calls.mono (h.2 ρ w hs hok) fun e w' he => ?_⟩
  obtain ⟨ρ', M', h1, h2, h3⟩ := he
  cases e with
  | returned v =>
    obtain ⟨r, e1, e2, N, e3, e4, e5, e6⟩ := h3
    simp only [Bool.and_eq_true] at e5
    obtain ⟨k1, k2⟩ := sim_sub hs.dom h1 h2 e3 e4 (by simpa using e5.2)
    exact ⟨_, N, k1, k2, r, by rw [AV.nb_c e5.1 e2]; exact e1, AV.nb_ok r e5.1 e2, e6⟩
  | panicked ch =>
    obtain ⟨r, e1, e2, e3⟩ := h3
    exact ⟨ρ', M', h1, h2, r, e1, e2, e3⟩
  | outgrown => exact h3.elim

/-- A walk goes on from another view. -/
theorem WA.view {P : Program} {r : Option Nat} {D : List Deferred} {n : Nat} {c : Code} {Q : AEx → AA → AH → Prop} {Kp : AV → AH → Prop} {l l' : List (Nat × AV)} {a : AA} {M M' : AH}
    (ha : agr l a) (hk : l'.map (·.1) = l.map (·.1)) (hv : Vw M M' (l.map (·.2)) (l'.map (·.2))) (h : ∀ d, WA P r D n c Q Kp (ofL l' d) M') : WA P r D n c Q Kp a M := by
  unfold WA at *
  intro D1 ρ w act hs hA
  have hok : AV.okl ρ (l.map (·.2)) := by
    clear hk hv
    induction l with
    | nil => trivial
    | cons x l ih => exact ⟨(show x.2.ok ρ from ha.1 ▸ hA.ok _), ih ha.2⟩
  obtain ⟨ρ', h1, h2, h3, h4⟩ := hv ρ w hs hok
  refine wpIn_mono (h (fun t => act.tmps.getD t undef) D1 ρ' w act h1 ⟨hA.defers, hA.size, fun t => ?_, fun t => ?_⟩) fun e act' w' hq => hq.from h2 h1 (Marks.refl _ _ _)
  · simp only [ofL]
    split
    · rename_i v hgv
      clear ha h3 hk hv h hok
      induction l' with
      | nil => cases hgv
      | cons y l' ih =>
        simp only [getL] at hgv
        split at hgv
        · injection hgv with hgv; subst hgv; exact h4.1
        · exact ih h4.2 hgv
    · exact trivial
  · simp only [ofL]
    split
    · rename_i v hgv
      have hg := hA.get t
      clear hok hv h h4
      induction l' generalizing l with
      | nil => cases hgv
      | cons y l' ih =>
        cases l with
        | nil => cases hk
        | cons x l =>
          simp only [List.map_cons, List.cons.injEq] at hk
          simp only [List.map_cons, AV.cl, List.cons.injEq] at h3
          simp only [getL] at hgv
          split at hgv
          · rename_i hb
            injection hgv with hgv; subst hgv
            have ht : t = y.1 := Nat.eq_of_beq_eq_true hb
            have ha1 := ha.1
            rw [h3.1, ← ha1, ← hk.1, ← ht]; exact hg
          · exact ih ha.2 hk.2 h3.2 hgv
    · rfl
end Go.Proofs.Ytaioclggifdnhaa
