/- The frame rule: a contract on a small heap holds where other objects stand behind it. -/
import Derived.Test.YtdnmbmnfglbfoaaGb

set_option linter.unusedVariables false

set_option linter.unusedSimpArgs false

open Go.RowKit

namespace Go.Proofs.Ytdnmbmnfglbfoaa

def idT : Nat → AH → List TE
  | _, [] => []
  | j, o :: M => (if o.isOwn then TE.own j else TE.sha j) :: idT (j + 1) M
theorem idT_length : ∀ (M : AH) (j : Nat), (idT j M).length = M.length
  | [], _ => rfl
  | _ :: M, j => by simp [idT, idT_length M (j + 1)]
theorem idT_get : ∀ (M : AH) (j k : Nat), k < M.length → (idT j M)[k]? = some (.own (j + k)) ∨ (idT j M)[k]? = some (.sha (j + k))
  | o :: M, j, 0, _ => by
    simp only [idT, List.getElem?_cons_zero, Nat.add_zero]
    split
    · exact .inl rfl
    · exact .inr rfl
  | o :: M, j, k + 1, h => by
    have := idT_get M (j + 1) k (by simpa using h)
    simp only [idT, List.getElem?_cons_succ]
    rw [show j + (k + 1) = j + 1 + k by omega]
    exact this
theorem idT_mem : ∀ (M : AH) (j : Nat), ∀ e ∈ idT j M, j ≤ e.i
  | [], _, e, h => by cases h
  | o :: M, j, e, h => by
    simp only [idT, List.mem_cons] at h
    rcases h with rfl | h
    · split <;> exact Nat.le_refl _
    · have := idT_mem M (j + 1) e h; omega
theorem idT_apart : ∀ (M : AH) (j : Nat), apartT (idT j M) = true
  | [], _ => rfl
  | o :: M, j => by
    simp only [idT, apartT, Bool.and_eq_true, List.all_eq_true]
    refine ⟨fun e' he => ?_, idT_apart M (j + 1)⟩
    have h1 := idT_mem M (j + 1) e' he
    have h2 : Nat.beq (if o.isOwn then TE.own j else TE.sha j).i e'.i = false := by
      have h3 : (if o.isOwn then TE.own j else TE.sha j).i = j := by split <;> rfl
      rw [h3]
      cases hb : Nat.beq j e'.i with
      | false => rfl
      | true => have := Nat.eq_of_beq_eq_true hb; omega
    rw [h2]
    simp
theorem idT_rn {M : AH} {m i : Nat} (h : Nat.blt i M.length = true) : rnI (idT 0 M) m i = i ∧ (∀ g, rnG (idT 0 M) i g = g) ∧ (∀ f, rnF (idT 0 M) i f = f) ∧ ∀ g, w0T (idT 0 M) i g = true := by
  have hl : i < M.length := by simpa using h
  unfold rnI rnG rnF w0T
  rcases idT_get M 0 i hl with e | e <;> rw [e] <;> simp [TE.i]
mutual

theorem idT_v {M : AH} {m : Nat} : ∀ v : AV, v.nb M.length = true → v.rn (idT 0 M) m = v ∧ v.w0 (idT 0 M) = true
  | .ptr i g off => fun h => by simp only [AV.nb] at h; obtain ⟨h1, h2, h3, h4⟩ := idT_rn (m := m) h; simp [AV.rn, AV.w0, h1, h2, h3, h4]
  | .pel i g _ _ off => fun h => by simp only [AV.nb] at h; obtain ⟨h1, h2, h3, h4⟩ := idT_rn (m := m) h; simp [AV.rn, AV.w0, h1, h2, h3, h4]
  | .sl i g off _ _ => fun h => by simp only [AV.nb] at h; obtain ⟨h1, h2, h3, h4⟩ := idT_rn (m := m) h; simp [AV.rn, AV.w0, h1, h2, h3, h4]
  | .mp i g => fun h => by simp only [AV.nb] at h; obtain ⟨h1, h2, h3, h4⟩ := idT_rn (m := m) h; simp [AV.rn, AV.w0, h1, h2, h3, h4]
  | .fn _ a b => fun h => by
    simp only [AV.nb, Bool.and_eq_true] at h
    obtain ⟨h1, h2⟩ := idT_l (m := m) a h.1
    obtain ⟨h3, h4⟩ := idT_l (m := m) b h.2
    simp [AV.rn, AV.w0, h1, h2, h3, h4]
  | .ifc _ v => fun h => by simp only [AV.nb] at h; obtain ⟨h1, h2⟩ := idT_v (m := m) v h; simp [AV.rn, AV.w0, h1, h2]
  | .agg l => fun h => by simp only [AV.nb] at h; obtain ⟨h1, h2⟩ := idT_l (m := m) l h; simp [AV.rn, AV.w0, h1, h2]
  | .tup l => fun h => by simp only [AV.nb] at h; obtain ⟨h1, h2⟩ := idT_l (m := m) l h; simp [AV.rn, AV.w0, h1, h2]
  | .bo _ => fun _ => ⟨rfl, rfl⟩ | .tt => fun _ => ⟨rfl, rfl⟩ | .ff => fun _ => ⟨rfl, rfl⟩ | .int _ _ => fun _ => ⟨rfl, rfl⟩ | .str _ => fun _ => ⟨rfl, rfl⟩
  | .np => fun _ => ⟨rfl, rfl⟩ | .ns => fun _ => ⟨rfl, rfl⟩ | .nf => fun _ => ⟨rfl, rfl⟩ | .ni => fun _ => ⟨rfl, rfl⟩ | .nm => fun _ => ⟨rfl, rfl⟩ | .raw _ => fun _ => ⟨rfl, rfl⟩
theorem idT_l {M : AH} {m : Nat} : ∀ l : List AV, AV.nbl M.length l = true → AV.rnl (idT 0 M) m l = l ∧ AV.w0l (idT 0 M) l = true
  | [] => fun _ => ⟨rfl, rfl⟩
  | v :: l => fun h => by
    simp only [AV.nbl, Bool.and_eq_true] at h
    obtain ⟨h1, h2⟩ := idT_v (m := m) v h.1
    obtain ⟨h3, h4⟩ := idT_l (m := m) l h.2
    simp [AV.rnl, AV.w0l, h1, h2, h3, h4]
end

theorem idT_c {M : AH} {m : Nat} {x : Cont} (h : x.nb M.length) : x.rn (idT 0 M) m = x ∧ x.w0 (idT 0 M) := by
  cases x with
  | cells cs => exact ⟨by simp [Cont.rn, idT_l cs h], (idT_l (m := m) cs h).2⟩
  | ints _ _ _ => exact ⟨rfl, trivial⟩
  | bools _ _ => exact ⟨rfl, trivial⟩
  | tab sz n get c => exact ⟨by simp only [Cont.rn]; congr 1; funext j; exact (idT_l _ (h j)).1, fun j => (idT_l (m := m) _ (h j)).2⟩
  | map kk es =>
    refine ⟨?_, fun p hp => (idT_v (m := m) _ (h p hp)).2⟩
    simp only [Cont.rn]
    congr 1
    conv => rhs; rw [← List.map_id es]
    refine List.map_congr_left fun p hp => ?_
    rw [(idT_v (m := m) _ (h p hp)).1]; rfl
  | loop l st pd fn n a ps asg bd df => exact ⟨by simp only [Cont.rn]; congr 1; funext j; exact (idT_v _ (h j)).1, fun j => (idT_v (m := m) _ (h j)).2⟩
theorem idT_o {M : AH} {m : Nat} {o : AO} (h : o.nb M.length) : o.rn (idT 0 M) m = o ∧ o.w0 (idT 0 M) := by
  cases o with
  | gone => exact ⟨rfl, trivial⟩
  | one own g x => exact ⟨by simp only [AO.rn]; rw [(idT_c (m := m) h).1], (idT_c (m := m) h).2⟩
  | fam own n x => exact ⟨by simp only [AO.rn]; congr 1; funext j; exact (idT_c (m := m) (h j)).1, fun j => (idT_c (m := m) (h j)).2⟩
theorem idT_w {M : AH} : ∀ {M1 : AH}, nbH M.length M1 → w0H (idT 0 M) M1
  | [], _ => trivial
  | o :: M1, h => ⟨(idT_o (m := 0) h.1).2, idT_w h.2⟩
theorem idT_fit {M E : AH} {m : Nat} : ∀ {M1 M0 : AH}, nbH M.length M1 → (∀ o ∈ M1, (o.isOwn || (o.tag0 && !o.isOwn)) = true) → fitH (idT 0 M) m (M0 ++ (M1 ++ E)) (idT M0.length M1) M1
  | [], _, _, _ => trivial
  | o :: M1, M0, h, ht => by
    have hg : (M0 ++ (o :: M1 ++ E))[M0.length]? = some o := by rw [List.getElem?_append_right (Nat.le_refl _)]; simp
    have hr := (idT_o (m := m) h.1).1
    have ih := idT_fit (E := E) (m := m) (M1 := M1) (M0 := M0 ++ [o]) h.2 (fun o' ho => ht o' (List.mem_cons_of_mem _ ho))
    rw [List.append_assoc, List.length_append] at ih
    have hto := ht o (List.mem_cons_self ..)
    simp only [idT]
    cases ho : o.isOwn with
    | true =>
      rw [if_pos rfl]
      refine ⟨⟨by rw [hr]; exact hg, ?_⟩, ih⟩
      cases o with
      | gone => rfl
      | one own g x => cases own <;> first | rfl | cases ho
      | fam own n x => cases own <;> first | rfl | cases ho
    | false =>
      rw [if_neg (by simp)]
      rw [ho] at hto
      refine ⟨⟨by simpa using hto, o, hg, ?_⟩, ih⟩
      rw [hr]
      cases o with
      | gone => rfl
      | one own g x => cases own <;> first | rfl | cases ho
      | fam own n x => cases own <;> first | rfl | cases ho
theorem idT_set {M E : AH} {m : Nat} : ∀ {M1 M' M0 : AH}, nbH M.length M' → M'.length = M1.length → keepH (idT M0.length M1) M1 M' → setH (idT 0 M) m (idT M0.length M1) M' (M0 ++ (M1 ++ E)) = M0 ++ (M' ++ E)
  | [], [], M0, _, _, _ => by simp [idT, setH, rnH]
  | [], _ :: _, _, _, hl, _ => by simp at hl
  | _ :: _, [], _, _, hl, _ => by simp at hl
  | o :: M1, o' :: M', M0, hn, hl, hk => by
    have ih := fun q => idT_set (M := M) (E := E) (m := m) (M1 := M1) (M' := M') (M0 := M0 ++ [o']) hn.2 (by simpa using hl) q
    rw [List.append_assoc, List.length_append, List.append_assoc] at ih
    simp only [idT] at hk ⊢
    cases ho : o.isOwn with
    | true =>
      rw [ho, if_pos rfl] at hk
      rw [if_pos rfl]
      simp only [setH, keepH] at hk ⊢
      rw [(idT_o (m := m) hn.1).1]
      have e : (M0 ++ (o :: M1 ++ E)).set M0.length o' = M0 ++ (o' :: M1 ++ E) := by
        rw [List.set_append_right _ _ (Nat.le_refl _)]; simp
      rw [e]
      exact ih hk.2
    | false =>
      rw [ho, if_neg (by simp)] at hk
      rw [if_neg (by simp)]
      simp only [setH, keepH] at hk ⊢
      obtain ⟨rfl, hk⟩ := hk
      exact ih hk

/-- THE FRAME RULE (nothing new stands behind the call). -/
theorem CallA.frame (E : AH) {P : Program} {g : Nat} {args : List AV} {M : AH} {K0 Kp0 : AV → AH → Prop} (h : CallA P g args M K0 Kp0) {K Kp : AV → AH → Prop}
    (ha : AV.nbl M.length args = true) (hM : nbH M.length M) (ht : ∀ o ∈ M, (o.isOwn || (o.tag0 && !o.isOwn)) = true)
    (hK : ∀ r M', K0 r M' → M'.length = M.length ∧ keepH (idT 0 M) M M' ∧ nbH M.length M' ∧ r.nb M.length = true ∧ K r (M' ++ E))
    (hKp : ∀ r M', Kp0 r M' → M'.length = M.length ∧ keepH (idT 0 M) M M' ∧ nbH M.length M' ∧ r.nb M.length = true ∧ Kp r (M' ++ E)) : CallA P g args (M ++ E) K Kp := by
  refine CallA.lift (idT 0 M) h (idT_l args ha).1 (by rw [idT_apart]; simp [idT_l (m := 0) args ha]) (idT_fit (M0 := []) hM ht) (idT_w hM) (fun r M' hk => ?_) (fun r M' hk => ?_)
  · obtain ⟨h1, h2, h3, h4, h5⟩ := hK r M' hk
    refine ⟨h2, ?_⟩
    rw [(idT_v r h4).1, show setH (idT 0 M) (M ++ E).length (idT 0 M) M' (M ++ E) = M' ++ E from idT_set (M0 := []) h3 h1 h2]
    exact h5
  · obtain ⟨h1, h2, h3, h4, h5⟩ := hKp r M' hk
    refine ⟨h2, ?_⟩
    rw [(idT_v r h4).1, show setH (idT 0 M) (M ++ E).length (idT 0 M) M' (M ++ E) = M' ++ E from idT_set (M0 := []) h3 h1 h2]
    exact h5
end Go.Proofs.Ytdnmbmnfglbfoaa
