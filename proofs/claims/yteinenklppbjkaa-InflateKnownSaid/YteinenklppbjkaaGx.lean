/- The frame rule: a contract on a small heap holds where other objects stand behind it. What a call answers, in a canonical form: bools and nil slices in one form each, objects that nobody asks for left out, the others in a chosen order. Other views of one world: an own array from a place on, under a new name; an own array whose elder slices stay readable. Other views of one world: names changed. math/bits.Mul, small. slices.Repeat of one byte. -/
import Derived.Test.YteinenklppbjkaaGb

set_option linter.unusedVariables false

set_option linter.unusedSimpArgs false

open Go.RowKit

namespace Go.Proofs.Yteinenklppbjkaa

def idT : Nat → AH → List TE
  | _, [] => []
  | j, o :: M => (if o.isOwn then TE.own j else TE.sha j) :: idT (j + 1) M
theorem idT_length : ∀ (M : AH) (j : Nat), (idT j M).length = M.length
  | [], _ => rfl
  | _ :: M, j => by simp [idT, idT_length M (j + 1)]
theorem idT_get : ∀ (M : AH) (j k : Nat), k < M.length → (idT j M)[k]? = some (.own (j + k)) ∨ (idT j M)[k]? = some (.sha (j + k))
  | o :: M, j, 0, _ => by
    simp only [idT, List.getElem?_cons_zero, Nat.add_zero]
    split
    · exact .inl rfl
    · exact .inr rfl
  | o :: M, j, k + 1, h => by
    have := idT_get M (j + 1) k (by simpa using h)
    simp only [idT, List.getElem?_cons_succ]
    rw [show j + (k + 1) = j + 1 + k by omega]
    exact this
theorem idT_mem : ∀ (M : AH) (j : Nat), ∀ e ∈ idT j M, j ≤ e.i
  | [], _, e, h => by cases h
  | o :: M, j, e, h => by
    simp only [idT, List.mem_cons] at h
    rcases h with rfl | h
    · split <;> exact Nat.le_refl _
    · have := idT_mem M (j + 1) e h; omega
theorem idT_apart : ∀ (M : AH) (j : Nat), apartT (idT j M) = true
  | [], _ => rfl
  | o :: M, j => by
    simp only [idT, apartT, Bool.and_eq_true, List.all_eq_true]
    refine ⟨fun e' he => ?_, idT_apart M (j + 1)⟩
    have h1 := idT_mem M (j + 1) e' he
    have h2 : Nat.beq (if o.isOwn then TE.own j else TE.sha j).i e'.i = false := by
      have h3 : (if o.isOwn then TE.own j else TE.sha j).i = j := by split <;> rfl
      rw [h3]
      cases hb : Nat.beq j e'.i with
      | false => rfl
      | true => have := Nat.eq_of_beq_eq_true hb; omega
    rw [h2]
    simp
theorem idT_rn {M : AH} {m i : Nat} (h : Nat.blt i M.length = true) : rnI (idT 0 M) m i = i ∧ (∀ g, rnG (idT 0 M) i g = g) ∧ (∀ f, rnF (idT 0 M) i f = f) ∧ ∀ g, w0T (idT 0 M) i g = true := by
  have hl : i < M.length := by simpa using h
  unfold rnI rnG rnF w0T
  rcases idT_get M 0 i hl with e | e <;> rw [e] <;> simp [TE.i]
mutual

theorem idT_v {M : AH} {m : Nat} : ∀ v : AV, v.nb M.length = true → v.rn (idT 0 M) m = v ∧ v.w0 (idT 0 M) = true
  | .ptr i g off => fun h => by simp only [AV.nb] at h; obtain ⟨h1, h2, h3, h4⟩ := idT_rn (m := m) h; simp [AV.rn, AV.w0, h1, h2, h3, h4]
  | .pel i g _ _ off => fun h => by simp only [AV.nb] at h; obtain ⟨h1, h2, h3, h4⟩ := idT_rn (m := m) h; simp [AV.rn, AV.w0, h1, h2, h3, h4]
  | .sl i g off _ _ => fun h => by simp only [AV.nb] at h; obtain ⟨h1, h2, h3, h4⟩ := idT_rn (m := m) h; simp [AV.rn, AV.w0, h1, h2, h3, h4]
  | .mp i g => fun h => by simp only [AV.nb] at h; obtain ⟨h1, h2, h3, h4⟩ := idT_rn (m := m) h; simp [AV.rn, AV.w0, h1, h2, h3, h4]
  | .fn _ a b => fun h => by
    simp only [AV.nb, Bool.and_eq_true] at h
    obtain ⟨h1, h2⟩ := idT_l (m := m) a h.1
    obtain ⟨h3, h4⟩ := idT_l (m := m) b h.2
    simp [AV.rn, AV.w0, h1, h2, h3, h4]
  | .ifc _ v => fun h => by simp only [AV.nb] at h; obtain ⟨h1, h2⟩ := idT_v (m := m) v h; simp [AV.rn, AV.w0, h1, h2]
  | .agg l => fun h => by simp only [AV.nb] at h; obtain ⟨h1, h2⟩ := idT_l (m := m) l h; simp [AV.rn, AV.w0, h1, h2]
  | .tup l => fun h => by simp only [AV.nb] at h; obtain ⟨h1, h2⟩ := idT_l (m := m) l h; simp [AV.rn, AV.w0, h1, h2]
  | .bo _ => fun _ => ⟨rfl, rfl⟩ | .tt => fun _ => ⟨rfl, rfl⟩ | .ff => fun _ => ⟨rfl, rfl⟩ | .int _ _ => fun _ => ⟨rfl, rfl⟩ | .str _ => fun _ => ⟨rfl, rfl⟩
  | .np => fun _ => ⟨rfl, rfl⟩ | .ns => fun _ => ⟨rfl, rfl⟩ | .nf => fun _ => ⟨rfl, rfl⟩ | .ni => fun _ => ⟨rfl, rfl⟩ | .nm => fun _ => ⟨rfl, rfl⟩ | .raw _ => fun _ => ⟨rfl, rfl⟩
theorem idT_l {M : AH} {m : Nat} : ∀ l : List AV, AV.nbl M.length l = true → AV.rnl (idT 0 M) m l = l ∧ AV.w0l (idT 0 M) l = true
  | [] => fun _ => ⟨rfl, rfl⟩
  | v :: l => fun h => by
    simp only [AV.nbl, Bool.and_eq_true] at h
    obtain ⟨h1, h2⟩ := idT_v (m := m) v h.1
    obtain ⟨h3, h4⟩ := idT_l (m := m) l h.2
    simp [AV.rnl, AV.w0l, h1, h2, h3, h4]
end

theorem idT_c {M : AH} {m : Nat} {x : Cont} (h : x.nb M.length) : x.rn (idT 0 M) m = x ∧ x.w0 (idT 0 M) := by
  cases x with
  | cells cs => exact ⟨by simp [Cont.rn, idT_l cs h], (idT_l (m := m) cs h).2⟩
  | ints _ _ _ => exact ⟨rfl, trivial⟩
  | bools _ _ => exact ⟨rfl, trivial⟩
  | tab sz n get c => exact ⟨by simp only [Cont.rn]; congr 1; funext j; exact (idT_l _ (h j)).1, fun j => (idT_l (m := m) _ (h j)).2⟩
  | map kk es =>
    refine ⟨?_, fun p hp => (idT_v (m := m) _ (h p hp)).2⟩
    simp only [Cont.rn]
    congr 1
    conv => rhs; rw [← List.map_id es]
    refine List.map_congr_left fun p hp => ?_
    rw [(idT_v (m := m) _ (h p hp)).1]; rfl
  | loop l st pd fn n a ps asg bd df => exact ⟨by simp only [Cont.rn]; congr 1; funext j; exact (idT_v _ (h j)).1, fun j => (idT_v (m := m) _ (h j)).2⟩
theorem idT_o {M : AH} {m : Nat} {o : AO} (h : o.nb M.length) : o.rn (idT 0 M) m = o ∧ o.w0 (idT 0 M) := by
  cases o with
  | gone => exact ⟨rfl, trivial⟩
  | one own g x => exact ⟨by simp only [AO.rn]; rw [(idT_c (m := m) h).1], (idT_c (m := m) h).2⟩
  | fam own n x => exact ⟨by simp only [AO.rn]; congr 1; funext j; exact (idT_c (m := m) (h j)).1, fun j => (idT_c (m := m) (h j)).2⟩
theorem idT_w {M : AH} : ∀ {M1 : AH}, nbH M.length M1 → w0H (idT 0 M) M1
  | [], _ => trivial
  | o :: M1, h => ⟨(idT_o (m := 0) h.1).2, idT_w h.2⟩
theorem idT_fit {M E : AH} {m : Nat} : ∀ {M1 M0 : AH}, nbH M.length M1 → (∀ o ∈ M1, (o.isOwn || (o.tag0 && !o.isOwn)) = true) → fitH (idT 0 M) m (M0 ++ (M1 ++ E)) (idT M0.length M1) M1
  | [], _, _, _ => trivial
  | o :: M1, M0, h, ht => by
    have hg : (M0 ++ (o :: M1 ++ E))[M0.length]? = some o := by rw [List.getElem?_append_right (Nat.le_refl _)]; simp
    have hr := (idT_o (m := m) h.1).1
    have ih := idT_fit (E := E) (m := m) (M1 := M1) (M0 := M0 ++ [o]) h.2 (fun o' ho => ht o' (List.mem_cons_of_mem _ ho))
    rw [List.append_assoc, List.length_append] at ih
    have hto := ht o (List.mem_cons_self ..)
    simp only [idT]
    cases ho : o.isOwn with
    | true =>
      rw [if_pos rfl]
      refine ⟨⟨by rw [hr]; exact hg, ?_⟩, ih⟩
      cases o with
      | gone => rfl
      | one own g x => cases own <;> first | rfl | cases ho
      | fam own n x => cases own <;> first | rfl | cases ho
    | false =>
      rw [if_neg (by simp)]
      rw [ho] at hto
      refine ⟨⟨by simpa using hto, o, hg, ?_⟩, ih⟩
      rw [hr]
      cases o with
      | gone => rfl
      | one own g x => cases own <;> first | rfl | cases ho
      | fam own n x => cases own <;> first | rfl | cases ho
theorem idT_set {M E : AH} {m : Nat} : ∀ {M1 M' M0 : AH}, nbH M.length M' → M'.length = M1.length → keepH (idT M0.length M1) M1 M' → setH (idT 0 M) m (idT M0.length M1) M' (M0 ++ (M1 ++ E)) = M0 ++ (M' ++ E)
  | [], [], M0, _, _, _ => by simp [idT, setH, rnH]
  | [], _ :: _, _, _, hl, _ => by simp at hl
  | _ :: _, [], _, _, hl, _ => by simp at hl
  | o :: M1, o' :: M', M0, hn, hl, hk => by
    have ih := fun q => idT_set (M := M) (E := E) (m := m) (M1 := M1) (M' := M') (M0 := M0 ++ [o']) hn.2 (by simpa using hl) q
    rw [List.append_assoc, List.length_append, List.append_assoc] at ih
    simp only [idT] at hk ⊢
    cases ho : o.isOwn with
    | true =>
      rw [ho, if_pos rfl] at hk
      rw [if_pos rfl]
      simp only [setH, keepH] at hk ⊢
      rw [(idT_o (m := m) hn.1).1]
      have e : (M0 ++ (o :: M1 ++ E)).set M0.length o' = M0 ++ (o' :: M1 ++ E) := by
        rw [List.set_append_right _ _ (Nat.le_refl _)]; simp
      rw [e]
      exact ih hk.2
    | false =>
      rw [ho, if_neg (by simp)] at hk
      rw [if_neg (by simp)]
      simp only [setH, keepH] at hk ⊢
      obtain ⟨rfl, hk⟩ := hk
      exact ih hk

/-- THE FRAME RULE (nothing new stands behind the call). -/
theorem CallA.frame (E : AH) {P : Program} {g : Nat} {args : List AV} {M : AH} {K0 Kp0 : AV → AH → Prop} (h : CallA P g args M K0 Kp0) {K Kp : AV → AH → Prop}
    (ha : AV.nbl M.length args = true) (hM : nbH M.length M) (ht : ∀ o ∈ M, (o.isOwn || (o.tag0 && !o.isOwn)) = true)
    (hK : ∀ r M', K0 r M' → M'.length = M.length ∧ keepH (idT 0 M) M M' ∧ nbH M.length M' ∧ r.nb M.length = true ∧ K r (M' ++ E))
    (hKp : ∀ r M', Kp0 r M' → M'.length = M.length ∧ keepH (idT 0 M) M M' ∧ nbH M.length M' ∧ r.nb M.length = true ∧ Kp r (M' ++ E)) : CallA P g args (M ++ E) K Kp := by
  refine CallA.lift (idT 0 M) h (idT_l args ha).1 (by rw [idT_apart]; simp [idT_l (m := 0) args ha]) (idT_fit (M0 := []) hM ht) (idT_w hM) (fun r M' hk => ?_) (fun r M' hk => ?_)
  · obtain ⟨h1, h2, h3, h4, h5⟩ := hK r M' hk
    refine ⟨h2, ?_⟩
    rw [(idT_v r h4).1, show setH (idT 0 M) (M ++ E).length (idT 0 M) M' (M ++ E) = M' ++ E from idT_set (M0 := []) h3 h1 h2]
    exact h5
  · obtain ⟨h1, h2, h3, h4, h5⟩ := hKp r M' hk
    refine ⟨h2, ?_⟩
    rw [(idT_v r h4).1, show setH (idT 0 M) (M ++ E).length (idT 0 M) M' (M ++ E) = M' ++ E from idT_set (M0 := []) h3 h1 h2]
    exact h5
end Go.Proofs.Yteinenklppbjkaa


set_option linter.unusedVariables false

set_option linter.unusedSimpArgs false

open Go.RowKit

namespace Go.Proofs.Yteinenklppbjkaa

mutual

/-- The second value is the first one, with nil slices as empty ones of the object k, bools in one form. -/
def cnV (k : Nat) : AV → AV → Prop
  | .agg l, v' => (∃ l', v' = .agg l' ∧ cnL k l l')
  | .tup l, v' => (∃ l', v' = .tup l' ∧ cnL k l l')
  | .ns, v' => v' = .ns ∨ v' = .sl k 0 0 0 0
  | .ff, v' => v' = .ff ∨ v' = .bo false
  | .tt, v' => v' = .tt ∨ v' = .bo true
  | v, v' => v' = v
def cnL (k : Nat) : List AV → List AV → Prop
  | [], l' => l' = []
  | v :: l, l' => ∃ v1 l1, l' = v1 :: l1 ∧ cnV k v v1 ∧ cnL k l l1
end

mutual

theorem cnV_c {ρ ρ' : Env} {k : Nat} (hE : ∀ i g l, ρ i g = some l → ρ' i g = some l) (hk : ρ' k 0 = some none) : ∀ v v' : AV, cnV k v v' → v.ok ρ → v'.c ρ' = v.c ρ ∧ v'.ok ρ'
  | .agg l, v' => fun h hok => by
    simp only [cnV] at h
    obtain ⟨l', rfl, h⟩ := h
    obtain ⟨h1, h2⟩ := cnL_c hE hk l l' h hok
    exact ⟨by simp only [AV.c, h1], h2⟩
  | .tup l, v' => fun h hok => by
    simp only [cnV] at h
    obtain ⟨l', rfl, h⟩ := h
    obtain ⟨h1, h2⟩ := cnL_c hE hk l l' h hok
    exact ⟨by simp only [AV.c, h1], h2⟩
  | .ns, v' => fun h hok => by
    simp only [cnV] at h
    rcases h with rfl | rfl
    · exact ⟨rfl, trivial⟩
    · exact ⟨by simp [AV.c, hk], by simp [AV.ok, hk]⟩
  | .ff, v' => fun h hok => by
    simp only [cnV] at h
    rcases h with rfl | rfl <;> exact ⟨rfl, trivial⟩
  | .tt, v' => fun h hok => by
    simp only [cnV] at h
    rcases h with rfl | rfl <;> exact ⟨rfl, trivial⟩
  | .ptr .., v' => fun h hok => by simp only [cnV] at h; subst h; exact ⟨AV.c_ext hE _ hok, AV.ok_ext hE _ hok⟩
  | .pel .., v' => fun h hok => by simp only [cnV] at h; subst h; exact ⟨AV.c_ext hE _ hok, AV.ok_ext hE _ hok⟩
  | .sl .., v' => fun h hok => by simp only [cnV] at h; subst h; exact ⟨AV.c_ext hE _ hok, AV.ok_ext hE _ hok⟩
  | .mp .., v' => fun h hok => by simp only [cnV] at h; subst h; exact ⟨AV.c_ext hE _ hok, AV.ok_ext hE _ hok⟩
  | .fn .., v' => fun h hok => by simp only [cnV] at h; subst h; exact ⟨AV.c_ext hE _ hok, AV.ok_ext hE _ hok⟩
  | .ifc .., v' => fun h hok => by simp only [cnV] at h; subst h; exact ⟨AV.c_ext hE _ hok, AV.ok_ext hE _ hok⟩
  | .bo _, v' => fun h hok => by simp only [cnV] at h; subst h; exact ⟨rfl, trivial⟩
  | .int _ _, v' => fun h hok => by simp only [cnV] at h; subst h; exact ⟨rfl, trivial⟩
  | .str _, v' => fun h hok => by simp only [cnV] at h; subst h; exact ⟨rfl, trivial⟩
  | .np, v' => fun h hok => by simp only [cnV] at h; subst h; exact ⟨rfl, trivial⟩
  | .nf, v' => fun h hok => by simp only [cnV] at h; subst h; exact ⟨rfl, trivial⟩
  | .ni, v' => fun h hok => by simp only [cnV] at h; subst h; exact ⟨rfl, trivial⟩
  | .nm, v' => fun h hok => by simp only [cnV] at h; subst h; exact ⟨rfl, trivial⟩
  | .raw _, v' => fun h hok => by simp only [cnV] at h; subst h; exact ⟨rfl, trivial⟩
theorem cnL_c {ρ ρ' : Env} {k : Nat} (hE : ∀ i g l, ρ i g = some l → ρ' i g = some l) (hk : ρ' k 0 = some none) : ∀ l l' : List AV, cnL k l l' → AV.okl ρ l → AV.cl ρ' l' = AV.cl ρ l ∧ AV.okl ρ' l'
  | [], l' => fun h _ => by simp only [cnL] at h; subst h; exact ⟨rfl, trivial⟩
  | v :: l, l' => fun h hok => by
    simp only [cnL] at h
    obtain ⟨v1, l1, rfl, h1, h2⟩ := h
    obtain ⟨a1, a2⟩ := cnV_c hE hk v v1 h1 hok.1
    obtain ⟨b1, b2⟩ := cnL_c hE hk l l1 h2 hok.2
    exact ⟨by simp only [AV.cl, a1, b1], a2, b2⟩
end

/-- The values in the canonical form, with a new object for nil slices. -/
theorem Vw.canon {M : AH} {x : Cont} {l l' : List AV} (hx : x.virt) (hl : cnL M.length l l') : Vw M (M ++ [.one true 0 x]) l l' := by
  intro ρ w hs hok
  obtain ⟨h1, h2⟩ := sim_new (x := x) (l := none) (w' := w) hs (fun _ _ => rfl) (Nat.le_refl _) rfl rfl rfl (.inr ⟨rfl, hx⟩)
  obtain ⟨k1, k2⟩ := cnL_c h2.env (upE_same ..) l l' hl hok
  exact ⟨_, h1, h2, k1, k2⟩
mutual

theorem cnV_refl (k : Nat) : ∀ v : AV, cnV k v v
  | .agg l => by simp only [cnV]; exact ⟨l, rfl, cnL_refl k l⟩
  | .tup l => by simp only [cnV]; exact ⟨l, rfl, cnL_refl k l⟩
  | .ns => by simp [cnV]
  | .ff => by simp [cnV]
  | .tt => by simp [cnV]
  | .ptr .. => by simp [cnV] | .pel .. => by simp [cnV] | .sl .. => by simp [cnV] | .mp .. => by simp [cnV] | .fn .. => by simp [cnV] | .ifc .. => by simp [cnV]
  | .bo _ => by simp [cnV] | .int _ _ => by simp [cnV] | .str _ => by simp [cnV] | .np => by simp [cnV] | .nf => by simp [cnV] | .ni => by simp [cnV] | .nm => by simp [cnV] | .raw _ => by simp [cnV]
theorem cnL_refl (k : Nat) : ∀ l : List AV, cnL k l l
  | [] => by simp [cnL]
  | v :: l => by simp only [cnL]; exact ⟨v, l, rfl, cnV_refl k v, cnL_refl k l⟩
end

theorem cnV_isB {k : Nat} {v : AV} {b : Bool} (h : v = .bo b ∨ (v = .ff ∧ b = false) ∨ (v = .tt ∧ b = true)) : cnV k v (.bo b) := by
  rcases h with rfl | ⟨rfl, rfl⟩ | ⟨rfl, rfl⟩ <;> simp [cnV]

theorem cnL_len (k : Nat) : ∀ l l' : List AV, cnL k l l' → l'.length = l.length
  | [], l', h => by simp only [cnL] at h; subst h; rfl
  | v :: l, l', h => by
    simp only [cnL] at h
    obtain ⟨v1, l1, rfl, _, h2⟩ := h
    simp [cnL_len k l l1 h2]
theorem cnL_get (k : Nat) : ∀ (l l' : List AV), cnL k l l' → ∀ (j : Nat) (v' : AV), l'[j]? = some v' → ∃ v, l[j]? = some v ∧ cnV k v v'
  | [], l', h, j, v', hj => by simp only [cnL] at h; subst h; simp at hj
  | v :: l, l', h, j, v', hj => by
    simp only [cnL] at h
    obtain ⟨v1, l1, rfl, h1, h2⟩ := h
    cases j with
    | zero => simp at hj; subst hj; exact ⟨v, rfl, h1⟩
    | succ j => simpa using cnL_get k l l1 h2 j v' (by simpa using hj)
/-- The cells of an own object in the canonical form. -/
theorem Vw.cells {M : AH} {i g : Nat} {cs cs' : List AV} {x : Cont} {l : List AV} (hm : M[i]? = some (.one true g (.cells cs))) (hc : cnL M.length cs cs') (hx : x.virt) :
    Vw M (M.set i (.one true g (.cells cs')) ++ [.one true 0 x]) l l := by
  intro ρ w hs hok
  have hlt : i < M.length := (List.getElem?_eq_some_iff.1 hm).1
  obtain ⟨h1, h2⟩ := sim_new (x := x) (l := none) (w' := w) hs (fun _ _ => rfl) (Nat.le_refl _) rfl rfl rfl (.inr ⟨rfl, hx⟩)
  have hm1 : (M ++ [AO.one true 0 x])[i]? = some (.one true g (.cells cs)) := by rw [List.getElem?_append_left hlt]; exact hm
  obtain ⟨h3, h4⟩ := sim_recast (x' := .cells cs') h1 hm1
    (by simp [Cont.size, cnL_len _ _ _ hc]) (fun j v' hv' => by
      simp only [Cont.at] at hv' ⊢
      obtain ⟨v, hv, hcv⟩ := cnL_get _ _ _ hc j v' hv'
      refine ⟨v, hv, ?_⟩
      rcases h1.holds i g true (.cells cs) (slot_one hm1) with ⟨q, e1, e2⟩ | ⟨_, e2⟩
      · obtain ⟨c, e, fr, k1, k2, k3, k4⟩ := e2.out rfl
        exact cnV_c (fun _ _ _ h => h) (upE_same ..) v v' hcv (k3 j v hv).1
      · exact e2.elim) (fun h => h.elim)
  rw [set_append' _ _ _ _ hlt] at h3 h4
  refine ⟨_, h3, h2.trans h4, ?_, AV.okl_ext h2.env l hok⟩
  exact AV.cl_ext h2.env l hok

theorem cnL_nil (k : Nat) : cnL k [] [] := by simp only [cnL]
theorem cnL_cons {k : Nat} {v v' : AV} {l l' : List AV} (h : cnV k v v') (h' : cnL k l l') : cnL k (v :: l) (v' :: l') := by simp only [cnL]; exact ⟨_, _, rfl, h, h'⟩
theorem cnV_agg {k : Nat} {l l' : List AV} (h : cnL k l l') : cnV k (.agg l) (.agg l') := by simp only [cnV]; exact ⟨_, rfl, h⟩
theorem cnV_tup {k : Nat} {l l' : List AV} (h : cnL k l l') : cnV k (.tup l) (.tup l') := by simp only [cnV]; exact ⟨_, rfl, h⟩

/-- What a call leaves, picked: t tells of each object of N which one of the heap it is. -/
structure PickA (a : Nat) (r : AV) (M' : AH) (t : List TE) (r' : AV) (N : AH) : Prop where
  fit : fitH t M'.length M' t N
  chk : (apartT t && r'.w0 t) = true
  w0 : w0H t N
  val : r'.rn t M'.length = r
  old : ∀ i, i < a → t[i]? = some (.own i) ∨ t[i]? = some (.sha i)
theorem CallA.post_pick {P : Program} {g : Nat} {args : List AV} {M : AH} {K Kp : AV → AH → Prop} (h : CallA P g args M (fun r M' => ∃ t r' N, PickA M.length r M' t r' N ∧ K r' N) Kp) : CallA P g args M K Kp := by
  unfold CallA at *
  refine ⟨h.1, fun ρ w hs hok => Calls.mono (h.2 ρ w hs hok) fun e w' he => ?_⟩
  obtain ⟨ρ', M', h1, h2, h3⟩ := he
  cases e with
  | returned v =>
    obtain ⟨r, e1, e2, t, r', N, p, k⟩ := h3
    have hc := p.chk
    simp only [Bool.and_eq_true] at hc
    have s1 := callee_sim h1 hc.1 p.fit p.w0
    have o1 : r'.ok (envC t ρ') := ok_back r' hc.2 (by rw [p.val]; exact e2)
    have c1 := (rn_c (envC_R (m := M'.length)) r' o1).2
    rw [p.val] at c1
    refine ⟨envC t ρ', N, s1, ⟨?_, h2.size, h2.frame, ?_, h2.os, h2.tape, h2.output⟩, r', by rw [← c1]; exact e1, o1, k⟩
    · intro i g l hl
      have hi := hs.dom i g (by rw [hl]; rfl)
      have := h2.env i g l hl
      unfold envC
      rcases p.old i hi with e | e <;> rw [e] <;> exact this
    · intro i g x q hsl hq hb
      obtain ⟨i', _, a2, a3⟩ := callee_own p.fit hsl hq
      exact h2.fresh i' g _ q a2 a3 hb
  | panicked ch =>
    obtain ⟨r, e1, e2, e3⟩ := h3
    exact ⟨ρ', M', h1, h2, r, e1, e2, e3⟩
  | outgrown => exact h3.elim
/-- All that is behind is forgotten. -/
theorem pick_id {M E : AH} {r : AV} (hn : nbH M.length M) (ht : ∀ o ∈ M, (o.isOwn || (o.tag0 && !o.isOwn)) = true) (hr : r.nb M.length = true) : PickA M.length r (M ++ E) (idT 0 M) r M := by
  refine ⟨idT_fit (M0 := []) (M1 := M) (E := E) hn ht, ?_, idT_w hn, (idT_v r hr).1, fun i hi => ?_⟩
  · rw [idT_apart, (idT_v (m := 0) r hr).2]; rfl
  · rcases idT_get M 0 i hi with e | e
    · exact .inl (by rw [e, Nat.zero_add])
    · exact .inr (by rw [e, Nat.zero_add])
end Go.Proofs.Yteinenklppbjkaa


set_option linter.unusedVariables false

set_option linter.unusedSimpArgs false

open Go.RowKit

namespace Go.Proofs.Yteinenklppbjkaa

/-- All names as they are, and one more. -/
def tabW (n i g off : Nat) : List TE := (List.range n).map TE.own ++ [.win i g off]
theorem tabW_lt {n i g off j : Nat} (h : j < n) : (tabW n i g off)[j]? = some (.own j) := by
  unfold tabW
  rw [List.getElem?_append_left (by simpa using h)]
  simp [h]
theorem tabW_eq {n i g off : Nat} : (tabW n i g off)[n]? = some (.win i g off) := by
  unfold tabW
  rw [List.getElem?_append_right (by simp)]
  simp
theorem tabW_gt {n i g off j : Nat} (h : n < j) : (tabW n i g off)[j]? = none := by
  unfold tabW
  rw [List.getElem?_eq_none (by simp; omega)]
theorem envW_lt {ρ : Env} {n i g off j : Nat} (h : j < n) (g' : Nat) : envC (tabW n i g off) ρ j g' = ρ j g' := by unfold envC; rw [tabW_lt h]
theorem envW_eq {ρ : Env} {n i g off : Nat} : envC (tabW n i g off) ρ n 0 = (ρ i g).map (fun l => l.map (fun q => (q.1, q.2 + off))) := by unfold envC; rw [tabW_eq]; rfl
theorem envW_ne {ρ : Env} {n i g off j g' : Nat} (h : ¬ j < n) (h' : ¬ (j = n ∧ g' = 0)) : envC (tabW n i g off) ρ j g' = none := by
  unfold envC
  by_cases e : j = n
  · subst e; rw [tabW_eq]; simp only; rw [if_neg (fun h => h' ⟨rfl, h⟩)]
  · rw [tabW_gt (by omega)]

theorem sim_shift {ρ : Env} {M : AH} {w : World} {i g off : Nat} {x x' : Cont} (h : Sim ρ M w) (hm : M[i]? = some (.one true g x)) (hsz : off + x'.size ≤ x.size)
    (hat : ∀ k v, x'.at k = some v → x.at (off + k) = some v) (hv : x.virt → x'.virt) (hxr : x.row = true) (hxr' : x'.row = true) :
    Sim (envC (tabW M.length i g off) ρ) (M.set i .gone ++ [.one true 0 x']) w ∧ Ext ρ M w (envC (tabW M.length i g off) ρ) (M.set i .gone ++ [.one true 0 x']) w := by
  have hlt : i < M.length := (List.getElem?_eq_some_iff.1 hm).1
  have hext : ∀ j g' l, ρ j g' = some l → envC (tabW M.length i g off) ρ j g' = some l := by
    intro j g' l e
    rw [envW_lt (h.dom j g' (by rw [e]; rfl))]; exact e
  have hs1 : ∀ j g', j < M.length → j ≠ i → slot (M.set i AO.gone ++ [.one true 0 x']) j g' = slot M j g' := by
    intro j g' hj hne; unfold slot
    rw [List.getElem?_append_left (by simpa using hj), List.getElem?_set_ne (Ne.symm hne)]
  have hs0 : ∀ g' own y, slot (M.set i AO.gone ++ [.one true 0 x']) i g' = some (own, y) → False := by
    intro g' own y hs; unfold slot at hs
    rw [List.getElem?_append_left (by simpa using hlt), List.getElem?_set_self hlt] at hs
    cases hs
  have hs2 : ∀ g' own y, slot (M.set i AO.gone ++ [.one true 0 x']) M.length g' = some (own, y) → g' = 0 ∧ own = true ∧ y = x' := by
    intro g' own y hs; unfold slot at hs
    rw [List.getElem?_append_right (by simp)] at hs
    simp only [List.length_set, Nat.sub_self, List.getElem?_cons_zero, slotO] at hs
    split at hs
    · injection hs with hs; injection hs with a b; exact ⟨‹_›, a.symm, b.symm⟩
    · cases hs
  have hcase : ∀ {j g' own y}, slot (M.set i AO.gone ++ [.one true 0 x']) j g' = some (own, y) → (j < M.length ∧ j ≠ i ∧ slot M j g' = some (own, y)) ∨ (j = M.length ∧ g' = 0 ∧ own = true ∧ y = x') := by
    intro j g' own y hs
    have hj : j < M.length + 1 := by
      unfold slot at hs
      cases ho : (M.set i AO.gone ++ [AO.one true 0 x'])[j]? with
      | none => rw [ho] at hs; cases hs
      | some o => have := (List.getElem?_eq_some_iff.1 ho).1; simpa using this
    by_cases e : j = M.length
    · subst e; exact .inr ⟨rfl, hs2 _ _ _ hs⟩
    · have hj' : j < M.length := by omega
      by_cases ei : j = i
      · subst ei; exact (hs0 _ _ _ hs).elim
      · rw [hs1 j g' hj' ei] at hs; exact .inl ⟨hj', ei, hs⟩
  have hh := h.holds i g true x (slot_one hm)
  have hnew : (∃ q, ρ i g = some (some q) ∧ Holds ρ true x q.1 q.2 w ∧ envC (tabW M.length i g off) ρ M.length 0 = some (some (q.1, q.2 + off))) ∨ (ρ i g = some none ∧ x.virt ∧ envC (tabW M.length i g off) ρ M.length 0 = some none) := by
    rcases hh with ⟨q, e1, e2⟩ | ⟨e1, e2⟩
    · exact .inl ⟨q, e1, e2, by rw [envW_eq, e1]; rfl⟩
    · exact .inr ⟨e1, e2, by rw [envW_eq, e1]; rfl⟩
  refine ⟨⟨?_, ?_, ?_, ?_, ?_⟩, ⟨hext, Nat.le_refl _, fun _ _ _ => rfl, ?_, rfl, rfl, rfl⟩⟩
  · intro j g' hj
    by_cases e : j < M.length
    · simp; omega
    · by_cases e' : j = M.length ∧ g' = 0
      · simp [e'.1]
      · rw [envW_ne e e'] at hj; cases hj
  · intro j g' own g1 y hmj hj
    by_cases e : j < M.length
    · rw [envW_lt e] at hj
      rw [List.getElem?_append_left (by simpa using e)] at hmj
      by_cases ei : j = i
      · subst ei; rw [List.getElem?_set_self hlt] at hmj; cases hmj
      · rw [List.getElem?_set_ne (Ne.symm ei)] at hmj; exact h.tag j g' own g1 y hmj hj
    · by_cases e' : j = M.length ∧ g' = 0
      · omega
      · rw [envW_ne e e'] at hj; cases hj
  · intro j g' own n y hmj hj
    by_cases e : j < M.length
    · rw [envW_lt e] at hj
      rw [List.getElem?_append_left (by simpa using e)] at hmj
      by_cases ei : j = i
      · subst ei; rw [List.getElem?_set_self hlt] at hmj; cases hmj
      · rw [List.getElem?_set_ne (Ne.symm ei)] at hmj; exact h.fam j g' own n y hmj hj
    · by_cases e' : j = M.length ∧ g' = 0
      · rw [e'.1, List.getElem?_append_right (by simp)] at hmj
        simp at hmj
      · rw [envW_ne e e'] at hj; cases hj
  · intro j g' own y hs
    rcases hcase hs with ⟨hj, ei, hs⟩ | ⟨rfl, rfl, rfl, rfl⟩
    · rw [envW_lt hj]
      rcases h.holds j g' own y hs with ⟨q, h1, h2⟩ | h1
      · exact .inl ⟨q, h1, h2.ext hext rfl⟩
      · exact .inr h1
    · rcases hnew with ⟨q, e1, e2, e3⟩ | ⟨e1, e2, e3⟩
      · refine .inl ⟨_, e3, ?_⟩
        obtain ⟨c, e, fr, k1, k2, k3, k4⟩ := e2.out hxr
        refine .mk' hxr' ⟨c, e, fr, k1, by simp only; omega, fun k v hv => ?_, k4⟩
        obtain ⟨a, b⟩ := k3 (off + k) v (hat k v hv)
        exact ⟨AV.ok_ext hext v a, by simp only; rw [AV.c_ext hext v a, Nat.add_assoc]; exact b⟩
      · exact .inr ⟨e3, hv e2⟩
  · intro j g1 y j' g2 own' y' q q' h1 h2 e1 e2 he
    rcases hcase h1 with ⟨hj, ei, k1'⟩ | ⟨rfl, rfl, _, rfl⟩
    · rw [envW_lt hj] at e1
      rcases hcase h2 with ⟨hj', ei', k2'⟩ | ⟨rfl, rfl, _, rfl⟩
      · rw [envW_lt hj'] at e2
        exact h.apart j g1 y j' g2 own' y' q q' k1' k2' e1 e2 he
      · rcases hnew with ⟨q0, k1, k2, k3⟩ | ⟨_, _, k3⟩
        · rw [k3] at e2; injection e2 with e2; injection e2 with e2; subst e2
          exact absurd (h.apart j g1 y i g true x q q0 k1' (slot_one hm) e1 k1 he).1 ei
        · rw [k3] at e2; cases e2
    · rcases hnew with ⟨q0, k1, k2, k3⟩ | ⟨_, _, k3⟩
      · rw [k3] at e1; injection e1 with e1; injection e1 with e1; subst e1
        rcases hcase h2 with ⟨hj', ei', k2'⟩ | ⟨rfl, rfl, _, rfl⟩
        · rw [envW_lt hj'] at e2
          exact absurd (h.apart i g x j' g2 own' y' q0 q' (slot_one hm) k2' k1 e2 he).1.symm ei'
        · exact ⟨rfl, rfl⟩
      · rw [k3] at e1; cases e1
  · intro j g1 y q hs hq hb
    rcases hcase hs with ⟨hj, ei, hs⟩ | ⟨rfl, rfl, _, rfl⟩
    · rw [envW_lt hj] at hq; exact ⟨j, g1, y, q, hs, hq, rfl⟩
    · rcases hnew with ⟨q0, k1, k2, k3⟩ | ⟨_, _, k3⟩
      · rw [k3] at hq; injection hq with hq; injection hq with hq; subst hq
        exact ⟨i, g, x, q0, slot_one hm, k1, rfl⟩
      · rw [k3] at hq; cases hq
/-- An own array from a place on, under a new name. -/
theorem Vw.shift {M : AH} {i g off : Nat} {x x' : Cont} {l l' : List AV} (hm : M[i]? = some (.one true g x)) (hsz : off + x'.size ≤ x.size) (hat : ∀ k v, x'.at k = some v → x.at (off + k) = some v) (hv : x.virt → x'.virt) (hxr : x.row = true) (hxr' : x'.row = true)
    (hl : AV.rnl (tabW M.length i g off) 0 l' = l) (hw : AV.w0l (tabW M.length i g off) l' = true) : Vw M (M.set i .gone ++ [.one true 0 x']) l l' := by
  intro ρ w hs hok
  obtain ⟨h1, h2⟩ := sim_shift (off := off) hs hm hsz hat hv hxr hxr'
  have o1 := okl_back l' hw (by rw [hl]; exact hok)
  exact ⟨_, h1, h2, by rw [← (rnl_c (envC_R (m := 0)) l' o1).2, hl], o1⟩
theorem Vw.rebase {M : AH} {i g off c : Nat} {k : IntKind} {xs : List Int} {l l' : List AV} (hm : M[i]? = some (.one true g (.ints k xs c))) (ho : off ≤ xs.length) (hc : xs.length ≤ c)
    (hl : AV.rnl (tabW M.length i g off) 0 l' = l) (hw : AV.w0l (tabW M.length i g off) l' = true) : Vw M (M.set i .gone ++ [.one true 0 (.ints k (xs.drop off) (c - off))]) l l' := by
  refine Vw.shift hm (by simp [Cont.size]; omega) (fun j v hv => ?_) (fun hv => ?_) rfl rfl hl hw
  · simp only [Cont.at, List.getElem?_drop] at hv ⊢; exact hv
  · obtain ⟨rfl, rfl⟩ := hv; exact ⟨by simp, by omega⟩
/-- An own array whose elder slices stay readable. -/
theorem Vw.keep {M : AH} {i g : Nat} {x : Cont} {l l' : List AV} (hm : M[i]? = some (.one true g x)) (hxr : x.row = true)
    (hl : AV.rnl (tabW M.length i g 0) 0 l' = l) (hw : AV.w0l (tabW M.length i g 0) l' = true) : Vw M (M.set i .gone ++ [.fam true 1 (fun _ => x)]) l l' := by
  intro ρ w hs hok
  obtain ⟨h1, h2⟩ := sim_shift (off := 0) (x' := x) hs hm (by omega) (fun k v hv => by rw [Nat.zero_add]; exact hv) (fun h => h) hxr hxr
  have o1 := okl_back l' hw (by rw [hl]; exact hok)
  have hq : (M.set i AO.gone ++ [AO.one true 0 x])[M.length]? = some (.one true 0 x) := by
    rw [List.getElem?_append_right (by simp)]; simp
  have c := sim_one0 h1 hq
  have d := slot_one0 hq
  have e : (M.set i AO.gone ++ [AO.one true 0 x]).set M.length (.fam true 1 (fun _ => x)) = M.set i .gone ++ [.fam true 1 (fun _ => x)] := by
    rw [List.set_append_right _ _ (by simp)]; simp
  rw [e] at c d
  exact ⟨_, c, ext_slot h2 (fun _ _ => rfl) d, by rw [← (rnl_c (envC_R (m := 0)) l' o1).2, hl], o1⟩
end Go.Proofs.Yteinenklppbjkaa


set_option linter.unusedVariables false

set_option linter.unusedSimpArgs false

open Go.RowKit

namespace Go.Proofs.Yteinenklppbjkaa

/-! Every name (i, g) is turned to φ i g. -/
mutual

def AV.rm (φ : Nat → Nat → Nat × Nat) : AV → AV
  | .ptr i g off => .ptr (φ i g).1 (φ i g).2 off
  | .pel i g sz j o => .pel (φ i g).1 (φ i g).2 sz j o
  | .sl i g off n c => .sl (φ i g).1 (φ i g).2 off n c
  | .mp i g => .mp (φ i g).1 (φ i g).2
  | .fn f a b => .fn f (AV.rml φ a) (AV.rml φ b)
  | .ifc t v => .ifc t (v.rm φ)
  | .agg l => .agg (AV.rml φ l)
  | .tup l => .tup (AV.rml φ l)
  | .bo x => .bo x | .tt => .tt | .ff => .ff | .int k n => .int k n | .str x => .str x | .np => .np | .ns => .ns | .nf => .nf | .ni => .ni | .nm => .nm | .raw v => .raw v
def AV.rml (φ : Nat → Nat → Nat × Nat) : List AV → List AV
  | [] => []
  | v :: l => v.rm φ :: AV.rml φ l
end

def envN (φ : Nat → Nat → Nat × Nat) (ρ : Env) : Env := fun i g => ρ (φ i g).1 (φ i g).2
mutual

theorem nm_c (φ : Nat → Nat → Nat × Nat) (ρ : Env) : ∀ v : AV, v.c (envN φ ρ) = (v.rm φ).c ρ
  | .ptr i g off => rfl
  | .pel i g sz j o => rfl
  | .sl i g off n c => rfl
  | .mp i g => rfl
  | .fn f a b => by simp only [AV.rm, AV.c, nml_c φ ρ a, nml_c φ ρ b]
  | .ifc t v => by simp only [AV.rm, AV.c, nm_c φ ρ v]
  | .agg l => by simp only [AV.rm, AV.c, nml_c φ ρ l]
  | .tup l => by simp only [AV.rm, AV.c, nml_c φ ρ l]
  | .bo _ => rfl | .tt => rfl | .ff => rfl | .int _ _ => rfl | .str _ => rfl | .np => rfl | .ns => rfl | .nf => rfl | .ni => rfl | .nm => rfl | .raw _ => rfl
theorem nml_c (φ : Nat → Nat → Nat × Nat) (ρ : Env) : ∀ l : List AV, AV.cl (envN φ ρ) l = AV.cl ρ (AV.rml φ l)
  | [] => rfl
  | v :: l => by simp only [AV.rml, AV.cl, nm_c φ ρ v, nml_c φ ρ l]
end

mutual

theorem nm_ok (φ : Nat → Nat → Nat × Nat) (ρ : Env) : ∀ v : AV, v.ok (envN φ ρ) ↔ (v.rm φ).ok ρ
  | .ptr i g off => Iff.rfl
  | .pel i g sz j o => Iff.rfl
  | .sl i g off n c => Iff.rfl
  | .mp i g => Iff.rfl
  | .fn f a b => by simp only [AV.rm, AV.ok, nml_ok φ ρ a, nml_ok φ ρ b]
  | .ifc t v => by simp only [AV.rm, AV.ok, nm_ok φ ρ v]
  | .agg l => by simp only [AV.rm, AV.ok, nml_ok φ ρ l]
  | .tup l => by simp only [AV.rm, AV.ok, nml_ok φ ρ l]
  | .bo _ => Iff.rfl | .tt => Iff.rfl | .ff => Iff.rfl | .int _ _ => Iff.rfl | .str _ => Iff.rfl | .np => Iff.rfl | .ns => Iff.rfl | .nf => Iff.rfl | .ni => Iff.rfl | .nm => Iff.rfl | .raw _ => Iff.rfl
theorem nml_ok (φ : Nat → Nat → Nat × Nat) (ρ : Env) : ∀ l : List AV, AV.okl (envN φ ρ) l ↔ AV.okl ρ (AV.rml φ l)
  | [] => Iff.rfl
  | v :: l => by simp only [AV.rml, AV.okl, nm_ok φ ρ v, nml_ok φ ρ l]
end

/-- A name that no world that holds M knows. -/
def newN (M : AH) (i g : Nat) : Prop := M.length ≤ i ∨ (∃ own g0 x, M[i]? = some (.one own g0 x) ∧ g0 < g) ∨ (∃ own m x, M[i]? = some (.fam own m x) ∧ m ≤ g)
theorem newN_none {ρ : Env} {M : AH} {w : World} (h : Sim ρ M w) {i g : Nat} (hn : newN M i g) : ρ i g = none := by
  cases hr : ρ i g with
  | none => rfl
  | some l =>
    have hs : (ρ i g).isSome = true := by rw [hr]; rfl
    rcases hn with hn | ⟨own, g0, x, h1, h2⟩ | ⟨own, m, x, h1, h2⟩
    · have := h.dom i g hs; omega
    · have := h.tag i g own g0 x h1 hs; omega
    · have := h.fam i g own m x h1 hs; omega
structure NameV (M M' : AH) (φ : Nat → Nat → Nat × Nat) : Prop where
  len : M.length ≤ M'.length
  new : ∀ i g, φ i g = (i, g) ∨ (newN M i g ∧ i < M'.length)
  slot : ∀ i g own x, slot M' i g = some (own, x) → ∃ own0 x0, slot M (φ i g).1 (φ i g).2 = some (own0, x0) ∧ (own = true → own0 = true) ∧
    (x = x0 ∨ (x.row = true ∧ x0.row = true ∧ x.size ≤ x0.size ∧ (∀ k v, x.at k = some v → x0.at k = some (v.rm φ)) ∧ (x0.virt → x.virt)))
  inj : ∀ i g x i' g' own' x', Go.Proofs.Yteinenklppbjkaa.slot M' i g = some (true, x) → Go.Proofs.Yteinenklppbjkaa.slot M' i' g' = some (own', x') → φ i g = φ i' g' → i = i' ∧ g = g'
  tag : ∀ i own g x, M'[i]? = some (.one own g x) → ∀ g', g < g' → φ i g' = (i, g') ∧ newN M i g'
  fam : ∀ i own m x, M'[i]? = some (.fam own m x) → ∀ g', m ≤ g' → φ i g' = (i, g') ∧ newN M i g'
theorem sim_name {ρ : Env} {M M' : AH} {w : World} {φ : Nat → Nat → Nat × Nat} (h : Sim ρ M w) (hn : NameV M M' φ) : Sim (envN φ ρ) M' w ∧ Ext ρ M w (envN φ ρ) M' w := by
  have hext : ∀ i g l, ρ i g = some l → envN φ ρ i g = some l := by
    intro i g l e
    rcases hn.new i g with h1 | ⟨h1, _⟩
    · unfold envN; rw [h1]; exact e
    · rw [newN_none h h1] at e; cases e
  refine ⟨⟨?_, ?_, ?_, ?_, ?_⟩, ⟨hext, Nat.le_refl _, fun _ _ _ => rfl, ?_, rfl, rfl, rfl⟩⟩
  · intro i g hi
    rcases hn.new i g with h1 | ⟨_, h1⟩
    · unfold envN at hi; rw [h1] at hi; exact Nat.lt_of_lt_of_le (h.dom i g hi) hn.len
    · exact h1
  · intro i g own g' x hm hi
    rcases Nat.lt_or_ge g' g with hlt | hge
    · obtain ⟨h1, h2⟩ := hn.tag i own g' x hm g hlt
      unfold envN at hi; rw [h1, newN_none h h2] at hi; cases hi
    · exact hge
  · intro i g own m x hm hi
    rcases Nat.lt_or_ge g m with hlt | hge
    · exact hlt
    · obtain ⟨h1, h2⟩ := hn.fam i own m x hm g hge
      unfold envN at hi; rw [h1, newN_none h h2] at hi; cases hi
  · intro i g own x hs
    obtain ⟨own0, x0, h1, h2, h3⟩ := hn.slot i g own x hs
    rcases h.holds _ _ _ _ h1 with ⟨q, e1, e2⟩ | ⟨e1, e2⟩
    · refine .inl ⟨q, e1, ?_⟩
      rcases h3 with rfl | ⟨r1, r2, r3, r4, r5⟩
      · have := e2.ext hext rfl
        rcases this.all with ⟨hx, c, e, fr, k1, k2, k3, k4⟩ | h0
        · exact .mk' hx ⟨c, e, fr, k1, k2, k3, fun ho => k4 (h2 ho)⟩
        · exact ⟨.inr h0⟩
      · obtain ⟨c, e, fr, k1, k2, k3, k4⟩ := e2.out r2
        refine .mk' r1 ⟨c, e, fr, k1, by omega, fun k v hv => ?_, fun ho => k4 (h2 ho)⟩
        obtain ⟨a, b⟩ := k3 k _ (r4 k v hv)
        exact ⟨(nm_ok φ ρ v).2 a, by rw [nm_c φ ρ v]; exact b⟩
    · refine .inr ⟨e1, ?_⟩
      rcases h3 with rfl | ⟨_, _, _, _, r5⟩
      · exact e2
      · exact r5 e2
  · intro i g x i' g' own' x' q q' hs hs' hq hq' he
    obtain ⟨own0, x0, h1, h2, _⟩ := hn.slot i g true x hs
    obtain ⟨own0', x0', h1', _, _⟩ := hn.slot i' g' own' x' hs'
    rw [h2 rfl] at h1
    have := h.apart _ _ _ _ _ _ _ q q' h1 h1' hq hq' he
    exact hn.inj i g x i' g' own' x' hs hs' (Prod.ext this.1 this.2)
  · intro i g x q hs hq _
    obtain ⟨own0, x0, h1, h2, _⟩ := hn.slot i g true x hs
    rw [h2 rfl] at h1
    exact ⟨_, _, x0, q, h1, hq, rfl⟩
theorem Vw.name {M M' : AH} {φ : Nat → Nat → Nat × Nat} {l l' : List AV} (hn : NameV M M' φ) (hl : AV.rml φ l' = l) : Vw M M' l l' := by
  intro ρ w hs hok
  obtain ⟨h1, h2⟩ := sim_name hs hn
  exact ⟨_, h1, h2, by rw [nml_c, hl], (nml_ok φ ρ l').2 (by rw [hl]; exact hok)⟩

/-! One name is turned. -/
def phi1 (a b i0 g0 : Nat) : Nat → Nat → Nat × Nat := fun i g => if i = a ∧ g = b then (i0, g0) else (i, g)
theorem phi1_eq {a b i0 g0 : Nat} : phi1 a b i0 g0 a b = (i0, g0) := by simp [phi1]
theorem phi1_ne {a b i0 g0 i g : Nat} (h : ¬ (i = a ∧ g = b)) : phi1 a b i0 g0 i g = (i, g) := by simp only [phi1, if_neg h]

/-- One of a family of windows, as an object of its own. -/
theorem pullN {M : AH} {i g : Nat} {x : Cont} (hs : slot M i g = some (false, x)) : NameV M (M ++ [.one false 0 x]) (phi1 M.length 0 i g) := by
  have hget : ∀ j, j < M.length → (M ++ [AO.one false 0 x])[j]? = M[j]? := fun j hj => List.getElem?_append_left hj
  have hslot : ∀ j g', j < M.length → slot (M ++ [AO.one false 0 x]) j g' = slot M j g' := by intro j g' hj; unfold slot; rw [hget j hj]
  have hnew : ∀ g' own y, slot (M ++ [AO.one false 0 x]) M.length g' = some (own, y) → g' = 0 ∧ own = false ∧ y = x := by
    intro g' own y h
    unfold slot at h
    rw [List.getElem?_append_right (Nat.le_refl _)] at h
    simp only [Nat.sub_self, List.getElem?_cons_zero, slotO] at h
    split at h
    · injection h with h; injection h with a b; exact ⟨‹_›, a.symm, b.symm⟩
    · cases h
  have hlt : ∀ {j g' own y}, slot (M ++ [AO.one false 0 x]) j g' = some (own, y) → j < M.length ∨ j = M.length := by
    intro j g' own y h
    unfold slot at h
    rcases Nat.lt_trichotomy j M.length with h' | h' | h'
    · exact .inl h'
    · exact .inr h'
    · rw [List.getElem?_eq_none (by simp; omega)] at h; cases h
  have hi : i < M.length := by
    unfold slot at hs
    rcases Nat.lt_or_ge i M.length with h' | h'
    · exact h'
    · rw [List.getElem?_eq_none h'] at hs; cases hs
  refine ⟨by simp, ?_, ?_, ?_, ?_, ?_⟩
  · intro j g'
    by_cases e : j = M.length ∧ g' = 0
    · exact .inr ⟨.inl (by omega), by simp; omega⟩
    · exact .inl (phi1_ne e)
  · intro j g' own y h
    rcases hlt h with h' | rfl
    · rw [hslot j g' h'] at h
      rw [phi1_ne (by omega)]
      exact ⟨own, y, h, id, .inl rfl⟩
    · obtain ⟨rfl, rfl, rfl⟩ := hnew _ _ _ h
      rw [phi1_eq]
      exact ⟨false, y, hs, fun h => (by cases h), .inl rfl⟩
  · intro j g1 y j' g2 own' y' h1 h2 he
    rcases hlt h1 with h1' | rfl
    · rw [phi1_ne (by omega)] at he
      rcases hlt h2 with h2' | rfl
      · rw [phi1_ne (by omega)] at he
        simpa using he
      · obtain ⟨rfl, _, rfl⟩ := hnew _ _ _ h2
        rw [phi1_eq] at he
        rw [hslot j g1 h1'] at h1
        simp only [Prod.mk.injEq] at he
        obtain ⟨rfl, rfl⟩ := he
        rw [hs] at h1; cases h1
    · obtain ⟨_, h, _⟩ := hnew _ _ _ h1; cases h
  · intro j own g1 y hm g' hg
    rcases Nat.lt_or_ge j M.length with h' | h'
    · rw [hget j h'] at hm
      exact ⟨phi1_ne (by omega), .inr (.inl ⟨own, g1, y, hm, hg⟩)⟩
    · exact ⟨phi1_ne (by omega), .inl h'⟩
  · intro j own m y hm g' hg
    rcases Nat.lt_or_ge j M.length with h' | h'
    · rw [hget j h'] at hm
      exact ⟨phi1_ne (by omega), .inr (.inr ⟨own, m, y, hm, hg⟩)⟩
    · rcases Nat.lt_or_ge M.length j with h'' | h''
      · exact ⟨phi1_ne (by omega), .inl h'⟩
      · have : j = M.length := by omega
        subst this
        rw [List.getElem?_append_right (Nat.le_refl _)] at hm
        simp at hm
theorem Vw.pull {M : AH} {i g : Nat} {x : Cont} {l l' : List AV} (hs : slot M i g = some (false, x)) (hl : AV.rml (phi1 M.length 0 i g) l' = l) : Vw M (M ++ [.one false 0 x]) l l' := Vw.name (pullN hs) hl

/-- A family without members. -/
theorem Vw.fam0 {M : AH} {own : Bool} {f : Nat → Cont} {l : List AV} : Vw M (M ++ [.fam own 0 f]) l l := by
  have hget : ∀ j, j < M.length → (M ++ [AO.fam own 0 f])[j]? = M[j]? := fun j hj => List.getElem?_append_left hj
  have hs : ∀ {j g' own' y}, slot (M ++ [AO.fam own 0 f]) j g' = some (own', y) → slot M j g' = some (own', y) := by
    intro j g' own' y h
    unfold slot at h ⊢
    rcases Nat.lt_trichotomy j M.length with h' | h' | h'
    · rw [hget j h'] at h; exact h
    · subst h'
      rw [List.getElem?_append_right (Nat.le_refl _)] at h
      simp [slotO] at h
    · rw [List.getElem?_eq_none (by simp; omega)] at h; cases h
  refine Vw.name (φ := fun i g => (i, g)) ⟨by simp, fun _ _ => .inl rfl, ?_, ?_, ?_, ?_⟩ ?_
  · intro i g own' x h; exact ⟨own', x, hs h, id, .inl rfl⟩
  · intro i g x i' g' own' x' _ _ he; simpa using he
  · intro j own' g1 y hm g' hg
    rcases Nat.lt_or_ge j M.length with h' | h'
    · rw [hget j h'] at hm; exact ⟨rfl, .inr (.inl ⟨own', g1, y, hm, hg⟩)⟩
    · exact ⟨rfl, .inl h'⟩
  · intro j own' m y hm g' hg
    rcases Nat.lt_or_ge j M.length with h' | h'
    · rw [hget j h'] at hm; exact ⟨rfl, .inr (.inr ⟨own', m, y, hm, hg⟩)⟩
    · exact ⟨rfl, .inl h'⟩
  · have key : ∀ ρ : Env, envN (fun i g => (i, g)) ρ = ρ := fun _ => rfl
    exact nml_id l
where
  nml_id : ∀ l : List AV, AV.rml (fun i g => (i, g)) l = l
    | [] => rfl
    | v :: l => by simp only [AV.rml]; rw [nm_id v, nml_id l]
  nm_id : ∀ v : AV, v.rm (fun i g => (i, g)) = v
    | .ptr .. | .pel .. | .sl .. | .mp .. => rfl
    | .fn f a b => by simp only [AV.rm]; rw [nml_id a, nml_id b]
    | .ifc t v => by simp only [AV.rm]; rw [nm_id v]
    | .agg l => by simp only [AV.rm]; rw [nml_id l]
    | .tup l => by simp only [AV.rm]; rw [nml_id l]
    | .bo _ => rfl | .tt => rfl | .ff => rfl | .int _ _ => rfl | .str _ => rfl | .np => rfl | .ns => rfl | .nf => rfl | .ni => rfl | .nm => rfl | .raw _ => rfl

/-- An own array becomes one more of a family of windows; the cells of a table follow. -/
theorem freezeN {M : AH} {iu k o m g0 go sz n c : Nat} {ow : Bool} {f f' : Nat → Cont} {y : Cont} {get get' : Nat → List AV} (hu : M[iu]? = some (.fam ow m f)) (hk : M[k]? = some (.one true g0 y)) (ho : M[o]? = some (.one true go (.tab sz n get c)))
    (nok : Nat.beq o k = false) (hf : ∀ r, r < m → f' r = f r) (hm : f' m = y) (hg : ∀ r, r < n → AV.rml (phi1 iu m k g0) (get' r) = get r) :
    NameV M (((M.set iu (.fam ow (m + 1) f')).set o (.one true go (.tab sz n get' c))).set k .gone) (phi1 iu m k g0) := by
  have nok : o ≠ k := Nat.ne_of_beq_eq_false nok
  have lu : iu < M.length := (List.getElem?_eq_some_iff.1 hu).1
  have lk : k < M.length := (List.getElem?_eq_some_iff.1 hk).1
  have lo : o < M.length := (List.getElem?_eq_some_iff.1 ho).1
  have nuk : iu ≠ k := by intro e; subst e; rw [hu] at hk; cases hk
  have nuo : iu ≠ o := by intro e; subst e; rw [hu] at ho; cases ho
  generalize hN : (((M.set iu (.fam ow (m + 1) f')).set o (.one true go (.tab sz n get' c))).set k .gone) = N
  have hl : N.length = M.length := by rw [← hN]; simp
  have gu : N[iu]? = some (.fam ow (m + 1) f') := by
    rw [← hN, List.getElem?_set_ne (Ne.symm nuk), List.getElem?_set_ne (Ne.symm nuo), List.getElem?_set_self lu]
  have gk : N[k]? = some .gone := by
    rw [← hN, List.getElem?_set_self (by simpa using lk)]
  have gO : N[o]? = some (.one true go (.tab sz n get' c)) := by
    rw [← hN, List.getElem?_set_ne (Ne.symm nok), List.getElem?_set_self (by simpa using lo)]
  have gr : ∀ j, j ≠ iu → j ≠ k → j ≠ o → N[j]? = M[j]? := by
    intro j h1 h2 h3
    rw [← hN, List.getElem?_set_ne (Ne.symm h2), List.getElem?_set_ne (Ne.symm h3), List.getElem?_set_ne (Ne.symm h1)]
  clear hN
  have sk : slot M k g0 = some (true, y) := slot_one hk
  have sN : ∀ {i g own x}, slot N i g = some (own, x) → i ≠ k := by
    intro i g own x h e; subst e; unfold slot at h; rw [gk] at h; cases h
  refine ⟨by omega, ?_, ?_, ?_, ?_, ?_⟩
  · intro i g
    by_cases e : i = iu ∧ g = m
    · obtain ⟨rfl, rfl⟩ := e
      exact .inr ⟨.inr (.inr ⟨ow, _, f, hu, Nat.le_refl _⟩), by omega⟩
    · exact .inl (phi1_ne e)
  · intro i g own x h
    have hik := sN h
    by_cases eu : i = iu
    · subst eu
      unfold slot at h
      rw [gu] at h
      simp only [slotO] at h
      split at h
      · rename_i hgm
        injection h with h; injection h with e1 e2
        subst e1; subst e2
        by_cases e : g = m
        · subst e
          rw [phi1_eq]
          exact ⟨true, y, sk, fun _ => rfl, .inl hm⟩
        · rw [phi1_ne (by omega)]
          refine ⟨ow, f g, ?_, id, .inl (hf g (by omega))⟩
          unfold slot; rw [hu]; simp only [slotO, if_pos (show g < m by omega)]
      · cases h
    · rw [phi1_ne (by omega)]
      by_cases eo : i = o
      · subst eo
        unfold slot at h
        rw [gO] at h
        simp only [slotO] at h
        split at h
        · rename_i hgg
          subst hgg
          injection h with h; injection h with e1 e2
          subst e1; subst e2
          refine ⟨true, _, slot_one ho, id, .inr ⟨rfl, rfl, Nat.le_refl _, ?_, fun h => h⟩⟩
          intro k' v hv
          simp only [Cont.at] at hv ⊢
          split at hv
          · rename_i hlt
            rw [if_pos hlt]
            have hr : k' / sz < n := Nat.div_lt_of_lt_mul (by rw [Nat.mul_comm]; exact hlt)
            rw [← hg _ hr]
            have : ∀ (l : List AV) (j : Nat) (v : AV), l[j]? = some v → (AV.rml (phi1 iu m k g0) l)[j]? = some (v.rm (phi1 iu m k g0)) := by
              intro l
              induction l with
              | nil => intro j v h; simp at h
              | cons a l ih =>
                intro j v h
                cases j with
                | zero => simp at h; subst h; simp [AV.rml]
                | succ j => simp only [AV.rml, List.getElem?_cons_succ] at h ⊢; exact ih j v h
            exact this _ _ _ hv
          · cases hv
        · cases h
      · unfold slot at h
        rw [gr i eu hik eo] at h
        exact ⟨own, x, h, id, .inl rfl⟩
  · intro i g x i' g' own' x' h h' he
    have e1 := sN h
    have e2 := sN h'
    by_cases d1 : i = iu ∧ g = m
    · by_cases d2 : i' = iu ∧ g' = m
      · exact ⟨d1.1.trans d2.1.symm, d1.2.trans d2.2.symm⟩
      · obtain ⟨rfl, rfl⟩ := d1
        rw [phi1_eq, phi1_ne d2] at he
        simp only [Prod.mk.injEq] at he
        exact absurd he.1.symm e2
    · by_cases d2 : i' = iu ∧ g' = m
      · obtain ⟨rfl, rfl⟩ := d2
        rw [phi1_eq, phi1_ne d1] at he
        simp only [Prod.mk.injEq] at he
        exact absurd he.1 e1
      · rw [phi1_ne d1, phi1_ne d2] at he
        simpa using he
  · intro i own g x h g' hg'
    have hik : i ≠ k := by intro e; subst e; rw [gk] at h; cases h
    have eu : i ≠ iu := by intro e; subst e; rw [gu] at h; cases h
    refine ⟨phi1_ne (by omega), ?_⟩
    by_cases eo : i = o
    · subst eo
      rw [gO] at h; injection h with h; injection h with a b
      subst b
      exact .inr (.inl ⟨true, _, _, ho, hg'⟩)
    · rw [gr i eu hik eo] at h
      exact .inr (.inl ⟨own, g, x, h, hg'⟩)
  · intro i own m' x h g' hg'
    have hik : i ≠ k := by intro e; subst e; rw [gk] at h; cases h
    have eo : i ≠ o := by intro e; subst e; rw [gO] at h; cases h
    by_cases eu : i = iu
    · subst eu
      rw [gu] at h; injection h with h; injection h with a b
      subst b
      exact ⟨phi1_ne (by omega), .inr (.inr ⟨ow, m, f, hu, by omega⟩)⟩
    · refine ⟨phi1_ne (by omega), ?_⟩
      rw [gr i eu hik eo] at h
      exact .inr (.inr ⟨own, m', x, h, hg'⟩)
theorem Vw.freeze {M : AH} {iu k o m g0 go sz n c : Nat} {ow : Bool} {f : Nat → Cont} {y : Cont} {get : Nat → List AV} {l l' : List AV} (f' : Nat → Cont) (get' : Nat → List AV) (hu : M[iu]? = some (.fam ow m f)) (hk : M[k]? = some (.one true g0 y)) (ho : M[o]? = some (.one true go (.tab sz n get c)))
    (nok : Nat.beq o k = false) (hf : ∀ r, r < m → f' r = f r) (hm : f' m = y) (hg : ∀ r, r < n → AV.rml (phi1 iu m k g0) (get' r) = get r) (hl : AV.rml (phi1 iu m k g0) l' = l) :
    Vw M (((M.set iu (.fam ow (m + 1) f')).set o (.one true go (.tab sz n get' c))).set k .gone) l l' := Vw.name (freezeN hu hk ho nok hf hm hg) hl

/-- A family joins another one, behind it. -/
def phiM (iu m p iv : Nat) : Nat → Nat → Nat × Nat := fun i g => if i = iu ∧ m ≤ g ∧ g < m + p then (iv, g - m) else (i, g)
theorem phiM_eq {iu m p iv j : Nat} (h : j < p) : phiM iu m p iv iu (m + j) = (iv, j) := by unfold phiM; rw [if_pos ⟨rfl, by omega, by omega⟩, Nat.add_sub_cancel_left]
theorem phiM_ne {iu m p iv i g : Nat} (h : ¬ (i = iu ∧ m ≤ g ∧ g < m + p)) : phiM iu m p iv i g = (i, g) := by simp only [phiM, if_neg h]
theorem mergeN {M : AH} {iu iv o m p go sz n c : Nat} {ow : Bool} {f f' fv : Nat → Cont} {get get' : Nat → List AV} (hu : M[iu]? = some (.fam false m f)) (hk : M[iv]? = some (.fam ow p fv)) (ho : M[o]? = some (.one true go (.tab sz n get c)))
    (nuk : Nat.beq iu iv = false) (hf : ∀ r, r < m → f' r = f r) (hm : ∀ r, r < p → f' (m + r) = fv r) (hg : ∀ r, r < n → AV.rml (phiM iu m p iv) (get' r) = get r) :
    NameV M (((M.set iu (.fam false (m + p) f')).set o (.one true go (.tab sz n get' c))).set iv .gone) (phiM iu m p iv) := by
  have nuk : iu ≠ iv := Nat.ne_of_beq_eq_false nuk
  have lu : iu < M.length := (List.getElem?_eq_some_iff.1 hu).1
  have lk : iv < M.length := (List.getElem?_eq_some_iff.1 hk).1
  have lo : o < M.length := (List.getElem?_eq_some_iff.1 ho).1
  have nok : o ≠ iv := by intro e; subst e; rw [ho] at hk; cases hk
  have nuo : iu ≠ o := by intro e; subst e; rw [hu] at ho; cases ho
  generalize hN : (((M.set iu (.fam false (m + p) f')).set o (.one true go (.tab sz n get' c))).set iv .gone) = N
  have hl : N.length = M.length := by rw [← hN]; simp
  have gu : N[iu]? = some (.fam false (m + p) f') := by
    rw [← hN, List.getElem?_set_ne (Ne.symm nuk), List.getElem?_set_ne (Ne.symm nuo), List.getElem?_set_self lu]
  have gk : N[iv]? = some .gone := by
    rw [← hN, List.getElem?_set_self (by simpa using lk)]
  have gO : N[o]? = some (.one true go (.tab sz n get' c)) := by
    rw [← hN, List.getElem?_set_ne (Ne.symm nok), List.getElem?_set_self (by simpa using lo)]
  have gr : ∀ j, j ≠ iu → j ≠ iv → j ≠ o → N[j]? = M[j]? := by
    intro j h1 h2 h3
    rw [← hN, List.getElem?_set_ne (Ne.symm h2), List.getElem?_set_ne (Ne.symm h3), List.getElem?_set_ne (Ne.symm h1)]
  clear hN
  have sN : ∀ {i g own x}, slot N i g = some (own, x) → i ≠ iv := by
    intro i g own x h e; subst e; unfold slot at h; rw [gk] at h; cases h
  have oN : ∀ {i g x}, slot N i g = some (true, x) → i ≠ iu := by
    intro i g x h e; subst e; unfold slot at h; rw [gu] at h
    simp only [slotO] at h; split at h <;> cases h
  refine ⟨by omega, ?_, ?_, ?_, ?_, ?_⟩
  · intro i g
    by_cases e : i = iu ∧ m ≤ g ∧ g < m + p
    · obtain ⟨rfl, e1, _⟩ := e
      exact .inr ⟨.inr (.inr ⟨false, _, f, hu, e1⟩), by omega⟩
    · exact .inl (phiM_ne e)
  · intro i g own x h
    have hik := sN h
    by_cases eu : i = iu
    · subst eu
      unfold slot at h
      rw [gu] at h
      simp only [slotO] at h
      split at h
      · rename_i hgm
        injection h with h; injection h with e1 e2
        subst e1; subst e2
        by_cases e : m ≤ g
        · obtain ⟨j, rfl⟩ : ∃ j, g = m + j := ⟨g - m, by omega⟩
          have hj : j < p := by omega
          rw [phiM_eq hj]
          refine ⟨ow, fv j, ?_, fun h => (by cases h), .inl (hm j hj)⟩
          unfold slot; rw [hk]; simp only [slotO, if_pos hj]
        · rw [phiM_ne (by omega)]
          refine ⟨false, f g, ?_, id, .inl (hf g (by omega))⟩
          unfold slot; rw [hu]; simp only [slotO, if_pos (show g < m by omega)]
      · cases h
    · rw [phiM_ne (by omega)]
      by_cases eo : i = o
      · subst eo
        unfold slot at h
        rw [gO] at h
        simp only [slotO] at h
        split at h
        · rename_i hgg
          subst hgg
          injection h with h; injection h with e1 e2
          subst e1; subst e2
          refine ⟨true, _, slot_one ho, id, .inr ⟨rfl, rfl, Nat.le_refl _, ?_, fun h => h⟩⟩
          intro k' v hv
          simp only [Cont.at] at hv ⊢
          split at hv
          · rename_i hlt
            rw [if_pos hlt]
            have hr : k' / sz < n := Nat.div_lt_of_lt_mul (by rw [Nat.mul_comm]; exact hlt)
            rw [← hg _ hr]
            have : ∀ (l : List AV) (j : Nat) (v : AV), l[j]? = some v → (AV.rml (phiM iu m p iv) l)[j]? = some (v.rm (phiM iu m p iv)) := by
              intro l
              induction l with
              | nil => intro j v h; simp at h
              | cons a l ih =>
                intro j v h
                cases j with
                | zero => simp at h; subst h; simp [AV.rml]
                | succ j => simp only [AV.rml, List.getElem?_cons_succ] at h ⊢; exact ih j v h
            exact this _ _ _ hv
          · cases hv
        · cases h
      · unfold slot at h
        rw [gr i eu hik eo] at h
        exact ⟨own, x, h, id, .inl rfl⟩
  · intro i g x i' g' own' x' h h' he
    have e1 := oN h
    have e2 := sN h
    rw [phiM_ne (by omega)] at he
    by_cases e : i' = iu ∧ m ≤ g' ∧ g' < m + p
    · obtain ⟨rfl, e3, e4⟩ := e
      obtain ⟨j, rfl⟩ : ∃ j, g' = m + j := ⟨g' - m, by omega⟩
      rw [phiM_eq (by omega)] at he
      simp only [Prod.mk.injEq] at he
      exact absurd he.1 e2
    · rw [phiM_ne e] at he
      simpa using he
  · intro i own g x h g' hg'
    have hik : i ≠ iv := by intro e; subst e; rw [gk] at h; cases h
    have eu : i ≠ iu := by intro e; subst e; rw [gu] at h; cases h
    refine ⟨phiM_ne (by omega), ?_⟩
    by_cases eo : i = o
    · subst eo
      rw [gO] at h; injection h with h; injection h with a b
      subst b
      exact .inr (.inl ⟨true, _, _, ho, hg'⟩)
    · rw [gr i eu hik eo] at h
      exact .inr (.inl ⟨own, g, x, h, hg'⟩)
  · intro i own m' x h g' hg'
    have hik : i ≠ iv := by intro e; subst e; rw [gk] at h; cases h
    have eo : i ≠ o := by intro e; subst e; rw [gO] at h; cases h
    by_cases eu : i = iu
    · subst eu
      rw [gu] at h; injection h with h; injection h with a b
      subst b
      exact ⟨phiM_ne (by omega), .inr (.inr ⟨false, m, f, hu, by omega⟩)⟩
    · refine ⟨phiM_ne (by omega), ?_⟩
      rw [gr i eu hik eo] at h
      exact .inr (.inr ⟨own, m', x, h, hg'⟩)
theorem Vw.merge {M : AH} {iu iv o m p go sz n c : Nat} {ow : Bool} {f fv : Nat → Cont} {get : Nat → List AV} {l l' : List AV} (f' : Nat → Cont) (get' : Nat → List AV) (hu : M[iu]? = some (.fam false m f)) (hk : M[iv]? = some (.fam ow p fv)) (ho : M[o]? = some (.one true go (.tab sz n get c)))
    (nuk : Nat.beq iu iv = false) (hf : ∀ r, r < m → f' r = f r) (hm : ∀ r, r < p → f' (m + r) = fv r) (hg : ∀ r, r < n → AV.rml (phiM iu m p iv) (get' r) = get r) (hl : AV.rml (phiM iu m p iv) l' = l) :
    Vw M (((M.set iu (.fam false (m + p) f')).set o (.one true go (.tab sz n get' c))).set iv .gone) l l' := Vw.name (mergeN hu hk ho nuk hf hm hg) hl
end Go.Proofs.Yteinenklppbjkaa


set_option linter.unusedVariables false

set_option linter.unusedSimpArgs false

open Go.RowKit

namespace Go.Proofs.Yteinenklppbjkaa

set_option maxRecDepth 10000

theorem and32 {x : Int} (hx : 0 ≤ x ∧ x < 4294967296) : bitF .and .u64 x 4294967295 = x := by
  obtain ⟨n, rfl⟩ := Int.eq_ofNat_of_zero_le hx.1
  show IntKind.wrap .u64 (((BitVec.ofInt 64 (n : Int)) &&& (BitVec.ofInt 64 4294967295)).toNat : Int) = _
  have e1 : n % 18446744073709551616 &&& 4294967295 = n % 18446744073709551616 % 4294967296 := Nat.and_two_pow_sub_one_eq_mod _ 32
  have e2 : (BitVec.ofInt 64 (n : Int)).toNat = n % 18446744073709551616 := by rw [BitVec.toNat_ofInt]; omega
  rw [BitVec.toNat_and, e2, show (BitVec.ofInt 64 4294967295).toNat = 4294967295 from rfl, e1]
  simp [IntKind.wrap, IntKind.bits, IntKind.signed]
  omega
theorem shr32 {x : Int} (hx : 0 ≤ x ∧ x < 4294967296) : shrF .u64 x 32 = 0 := by
  have a1 : shrF .u64 x 32 = x / 4294967296 := Int.fdiv_eq_ediv_of_nonneg _ (by decide)
  omega

theorem mul64_call {b : Int} (hb : 0 ≤ b ∧ b < 4294967296) {Kp} :
    CallA Try.prog 62 [.int .u64 1, .int .u64 b] [] (fun r M => r = .tup [.int .u64 0, .int .u64 b] ∧ M = []) Kp := by
  refine step62 (fun _ => []) [] rfl ?_
  repeat ((conv => whnf); first | with_reducible refine O_step ?_ | with_reducible refine S_step ?_ | with_reducible refine D_step ?_ | with_reducible refine RO.exit ?_ | with_reducible refine RO.ret ?_ | ((with_reducible refine And.intro ?sc ?_); case sc => exact side))
  have e1 : bitF .and .u64 1 4294967295 = 1 := and32 (by omega)
  have e2 : bitF .and .u64 b 4294967295 = b := and32 hb
  have e3 : shrF .u64 1 32 = 0 := rfl
  have e4 : shrF .u64 b 32 = 0 := shr32 hb
  have e5 : bitF .and .u64 0 4294967295 = 0 := rfl
  have e6 : shrF .u64 0 32 = 0 := rfl
  have e7 : (1 * b) % 18446744073709551616 = b := by omega
  simp only [e1, e2, e3, e4, e5, e6, e7, Int.mul_zero, Int.zero_mul, Int.add_zero, Int.zero_add, Int.zero_emod]
  exact ⟨rfl, rfl⟩
theorem mul_call {b : Int} (hb : 0 ≤ b ∧ b < 4294967296) {Kp} :
    CallA Try.prog 49 [.int .u64 1, .int .u64 b] [] (fun r M => r = .tup [.int .u64 0, .int .u64 b] ∧ M = []) Kp := by
  refine step49 (fun _ => []) [] rfl ?_
  repeat ((conv => whnf); first | with_reducible refine O_step ?_ | with_reducible refine S_step ?_ | with_reducible refine D_step ?_ | with_reducible refine RO.exit ?_ | with_reducible refine RO.ret ?_ | ((with_reducible refine And.intro ?sc ?_); case sc => exact side))
  refine (mul64_call hb).mono ?_ (fun _ _ h => h)
  rintro r M ⟨rfl, rfl⟩
  repeat ((conv => whnf); first | with_reducible refine O_step ?_ | with_reducible refine S_step ?_ | with_reducible refine D_step ?_ | with_reducible refine RO.exit ?_ | with_reducible refine RO.ret ?_ | ((with_reducible refine And.intro ?sc ?_); case sc => exact side))
  exact rfl
theorem mul_at {M : AH} {K Kp : AV → AH → Prop} {b : Int} (hb : 0 ≤ b ∧ b < 4294967296) (h : K (.tup [.int .u64 0, .int .u64 b]) M) : CallA Try.prog 49 [.int .u64 1, .int .u64 b] M K Kp := by
  refine CallA.lift [] (mul_call (Kp := fun _ _ => False) hb) rfl rfl trivial trivial ?_ (fun _ _ h => h.elim)
  rintro r M' ⟨rfl, rfl⟩
  rw [← List.append_nil M] at h
  exact ⟨rfl, h⟩
end Go.Proofs.Yteinenklppbjkaa


set_option linter.unusedVariables false

set_option linter.unusedSimpArgs false

open Go.RowKit

namespace Go.Proofs.Yteinenklppbjkaa

set_option maxRecDepth 10000

theorem repeat8_call {v : Int} {k c0 c : Nat} (hk : 1 ≤ k ∧ k ≤ 65536) (hv : 0 ≤ v ∧ v < 256) {Kp} :
    CallA Try.prog 33 [.sl 0 0 0 1 c0, .int .i64 k] [.one false 0 (.ints .u8 [v] c)]
      (fun r M => r = .sl 1 0 0 k k ∧ M = [.one false 0 (.ints .u8 [v] c), .one true 0 (.ints .u8 (List.replicate k v) k)]) Kp := by
  refine CallA.post_sub ?_
  refine step33 (fun _ => []) [] rfl ?_
  repeat ((conv => whnf); first | with_reducible refine O_step ?_ | with_reducible refine S_step ?_ | with_reducible refine D_step ?_ | with_reducible refine RO.exit ?_ | with_reducible refine RO.ret ?_ | ((with_reducible refine And.intro ?sc ?_); case sc => exact side))
  refine And.intro (fun h => absurd (of_decide_eq_true h) (by omega)) (fun _ => ?_)
  repeat ((conv => whnf); first | with_reducible refine O_step ?_ | with_reducible refine S_step ?_ | with_reducible refine D_step ?_ | with_reducible refine RO.exit ?_ | with_reducible refine RO.ret ?_ | ((with_reducible refine And.intro ?sc ?_); case sc => exact side))
  have e1 : (k : Int) % 18446744073709551616 = k := by omega
  rw [e1]
  refine mul_at (b := (k : Int)) (by omega) ?_
  repeat ((conv => whnf); first | with_reducible refine O_step ?_ | with_reducible refine S_step ?_ | with_reducible refine D_step ?_ | with_reducible refine RO.exit ?_ | with_reducible refine RO.ret ?_ | ((with_reducible refine And.intro ?sc ?_); case sc => exact side) | ((with_reducible refine br_f ?sc ?_); case sc => exact sideB) | ((with_reducible refine br_t ?sc ?_); case sc => exact sideB))
  refine And.intro (fun h => absurd (of_decide_eq_true h) (by omega)) (fun _ => ?_)
  repeat ((conv => whnf); first | with_reducible refine O_step ?_ | with_reducible refine S_step ?_ | with_reducible refine D_step ?_ | with_reducible refine RO.exit ?_ | with_reducible refine RO.ret ?_ | ((with_reducible refine And.intro ?sc ?_); case sc => exact side) | ((with_reducible refine br_f ?sc ?_); case sc => exact sideB) | ((with_reducible refine br_t ?sc ?_); case sc => exact sideB))
  intro ys hys zs hzs
  have hz : zs = List.replicate 1 v ++ List.replicate (k - 1) 0 := by
    rw [hzs, hys]
    show [] ++ _ ++ _ = _
    have : min 1 (k : Int).toNat = 1 := by omega
    rw [this]
    show [] ++ [v] ++ List.drop 1 (List.replicate k 0) = _
    rw [List.drop_replicate]; rfl
  subst hz
  have hm : ((min 1 (k : Int).toNat : Nat) : Int) = 1 := by omega
  rw [hm]
  repeat ((conv => whnf); first | with_reducible refine O_step ?_ | with_reducible refine S_step ?_ | with_reducible refine D_step ?_ | with_reducible refine RO.exit ?_ | with_reducible refine RO.ret ?_ | ((with_reducible refine And.intro ?sc ?_); case sc => exact side) | ((with_reducible refine br_f ?sc ?_); case sc => exact sideB) | ((with_reducible refine br_t ?sc ?_); case sc => exact sideB))
  refine WO.go (σ := Nat) (fun n => 1 ≤ n ∧ n ≤ k) (fun n => k - n)
    (fun n => [(7, .sl 1 0 0 k k), (8, .int .i64 n)])
    (fun n => [.one false 0 (.ints .u8 [v] c), .one true 0 (.ints .u8 (List.replicate n v ++ List.replicate (k - n) 0) k)]) 1 tb_ok mixed (by kernel_rfl)
    ⟨Nat.le_refl _, hk.1⟩ (And.intro rfl (And.intro rfl (trivial))) (And.intro rfl (And.intro rfl (trivial))) (fun _ => rfl) (fun _ => rfl) (fun _ => ⟨trivial, trivial, trivial⟩) ?_
  rintro n ⟨h1, h2⟩ d
  repeat ((conv => whnf); first | with_reducible refine O_step ?_ | with_reducible refine S_step ?_ | with_reducible refine D_step ?_ | with_reducible refine RO.exit ?_ | with_reducible refine RO.ret ?_ | ((with_reducible refine And.intro ?sc ?_); case sc => exact side) | ((with_reducible refine br_f ?sc ?_); case sc => exact sideB) | ((with_reducible refine br_t ?sc ?_); case sc => exact sideB))
  refine And.intro (fun hc => ?_) (fun hc => ?_)
  · have hc' : (n : Int) < k := of_decide_eq_true hc
    repeat ((conv => whnf); first | with_reducible refine O_step ?_ | with_reducible refine S_step ?_ | with_reducible refine D_step ?_ | with_reducible refine RO.exit ?_ | with_reducible refine RO.ret ?_ | ((with_reducible refine And.intro ?sc ?_); case sc => exact side) | ((with_reducible refine br_f ?sc ?_); case sc => exact sideB) | ((with_reducible refine br_t ?sc ?_); case sc => exact sideB))
    rw [offS_ne (by omega)]
    repeat ((conv => whnf); first | with_reducible refine O_step ?_ | with_reducible refine S_step ?_ | with_reducible refine D_step ?_ | with_reducible refine RO.exit ?_ | with_reducible refine RO.ret ?_ | ((with_reducible refine And.intro ?sc ?_); case sc => exact side) | ((with_reducible refine br_f ?sc ?_); case sc => exact sideB) | ((with_reducible refine br_t ?sc ?_); case sc => exact sideB))
    intro ys2 hys2 zs2 hzs2
    obtain ⟨m, hm⟩ : ∃ m, m = min (n : Int).toNat (k - (n : Int).toNat) := ⟨_, rfl⟩
    rw [← hm] at hzs2 hys2
    have hz : zs2 = List.replicate (n + m) v ++ List.replicate (k - (n + m)) 0 := by
      rw [hzs2, hys2]
      show List.take (0 + n * 1) _ ++ List.take m (List.drop 0 _) ++ List.drop (0 + n * 1 + m) _ = _
      simp only [Nat.zero_add, Nat.mul_one, List.drop_zero]
      rw [List.take_append_of_le_length (by simp), List.take_append_of_le_length (by simp; omega), List.drop_append]
      simp only [List.length_replicate, List.take_replicate, List.drop_replicate]
      rw [show n - (n + m) = 0 by omega, show n + m - n = m by omega, show min n n = n by omega, show min m n = m by omega, show k - n - m = k - (n + m) by omega]
      simp [List.replicate_append_replicate]
    subst hz
    rw [← hm]
    repeat ((conv => whnf); first | with_reducible refine O_step ?_ | with_reducible refine S_step ?_ | with_reducible refine D_step ?_ | with_reducible refine RO.exit ?_ | with_reducible refine RO.ret ?_ | ((with_reducible refine And.intro ?sc ?_); case sc => exact side) | ((with_reducible refine br_f ?sc ?_); case sc => exact sideB) | ((with_reducible refine br_t ?sc ?_); case sc => exact sideB))
    refine RO.same (n + m) ⟨by omega, by omega⟩ (show k - (n + m) < k - n by omega) (And.intro rfl (And.intro ?_ trivial)) (And.intro rfl (And.intro rfl (trivial)))
    show AV.int .i64 ((n : Int) + m) = AV.int .i64 ((n + m : Nat) : Int)
    push_cast; rfl
  · have hc' : ¬ (n : Int) < k := of_decide_eq_false hc
    obtain rfl : n = k := by omega
    repeat ((conv => whnf); first | with_reducible refine O_step ?_ | with_reducible refine S_step ?_ | with_reducible refine D_step ?_ | with_reducible refine RO.exit ?_ | with_reducible refine RO.ret ?_ | ((with_reducible refine And.intro ?sc ?_); case sc => exact side) | ((with_reducible refine br_f ?sc ?_); case sc => exact sideB) | ((with_reducible refine br_t ?sc ?_); case sc => exact sideB))
    have e : List.replicate n v ++ List.replicate (n - n) 0 = List.replicate n v := by simp
    exact Exists.intro [AO.one false 0 (.ints .u8 [v] c), .one true 0 (.ints .u8 (List.replicate n v) n)] (And.intro (And.intro rfl (And.intro (by rw [e]) trivial)) (And.intro ⟨trivial, trivial, trivial⟩ (And.intro rfl ⟨rfl, rfl⟩)))

theorem repeat8_at {M : AH} {K Kp : AV → AH → Prop} {i g k c co : Nat} {o : Bool} {v : Int} (hi : M[i]? = some (.one o g (.ints .u8 [v] co))) (hk : 1 ≤ k ∧ k ≤ 65536) (hv : 0 ≤ v ∧ v < 256)
    (h : K (.sl M.length 0 0 k k) (M ++ [.one true 0 (.ints .u8 (List.replicate k v) k)])) : CallA Try.prog 33 [.sl i g 0 1 c, .int .i64 k] M K Kp := by
  refine CallA.lift [.win i g 0] (repeat8_call (c0 := c) (c := co) (Kp := fun _ _ => False) hk hv) rfl rfl ⟨⟨_, _, _, rfl, slot_one hi, WinC.same rfl (fun h => h)⟩, trivial⟩ ⟨trivial, trivial⟩ ?_ (fun _ _ h => h.elim)
  rintro r M' ⟨rfl, rfl⟩
  exact ⟨⟨rfl, rfl⟩, h⟩
end Go.Proofs.Yteinenklppbjkaa
