/- What a call answers, in a canonical form: bools and nil slices in one form each, objects that nobody asks for left out, the others in a chosen order. -/
import Derived.Test.YtdnmbmnfglbfoaaFr

set_option linter.unusedVariables false

set_option linter.unusedSimpArgs false

open Go.RowKit

namespace Go.Proofs.Ytdnmbmnfglbfoaa

mutual

/-- The second value is the first one, with nil slices as empty ones of the object k, bools in one form. -/
def cnV (k : Nat) : AV → AV → Prop
  | .agg l, v' => (∃ l', v' = .agg l' ∧ cnL k l l')
  | .tup l, v' => (∃ l', v' = .tup l' ∧ cnL k l l')
  | .ns, v' => v' = .ns ∨ v' = .sl k 0 0 0 0
  | .ff, v' => v' = .ff ∨ v' = .bo false
  | .tt, v' => v' = .tt ∨ v' = .bo true
  | v, v' => v' = v
def cnL (k : Nat) : List AV → List AV → Prop
  | [], l' => l' = []
  | v :: l, l' => ∃ v1 l1, l' = v1 :: l1 ∧ cnV k v v1 ∧ cnL k l l1
end

mutual

theorem cnV_c {ρ ρ' : Env} {k : Nat} (hE : ∀ i g l, ρ i g = some l → ρ' i g = some l) (hk : ρ' k 0 = some none) : ∀ v v' : AV, cnV k v v' → v.ok ρ → v'.c ρ' = v.c ρ ∧ v'.ok ρ'
  | .agg l, v' => fun h hok => by
    simp only [cnV] at h
    obtain ⟨l', rfl, h⟩ := h
    obtain ⟨h1, h2⟩ := cnL_c hE hk l l' h hok
    exact ⟨by simp only [AV.c, h1], h2⟩
  | .tup l, v' => fun h hok => by
    simp only [cnV] at h
    obtain ⟨l', rfl, h⟩ := h
    obtain ⟨h1, h2⟩ := cnL_c hE hk l l' h hok
    exact ⟨by simp only [AV.c, h1], h2⟩
  | .ns, v' => fun h hok => by
    simp only [cnV] at h
    rcases h with rfl | rfl
    · exact ⟨rfl, trivial⟩
    · exact ⟨by simp [AV.c, hk], by simp [AV.ok, hk]⟩
  | .ff, v' => fun h hok => by
    simp only [cnV] at h
    rcases h with rfl | rfl <;> exact ⟨rfl, trivial⟩
  | .tt, v' => fun h hok => by
    simp only [cnV] at h
    rcases h with rfl | rfl <;> exact ⟨rfl, trivial⟩
  | .ptr .., v' => fun h hok => by simp only [cnV] at h; subst h; exact ⟨AV.c_ext hE _ hok, AV.ok_ext hE _ hok⟩
  | .pel .., v' => fun h hok => by simp only [cnV] at h; subst h; exact ⟨AV.c_ext hE _ hok, AV.ok_ext hE _ hok⟩
  | .sl .., v' => fun h hok => by simp only [cnV] at h; subst h; exact ⟨AV.c_ext hE _ hok, AV.ok_ext hE _ hok⟩
  | .mp .., v' => fun h hok => by simp only [cnV] at h; subst h; exact ⟨AV.c_ext hE _ hok, AV.ok_ext hE _ hok⟩
  | .fn .., v' => fun h hok => by simp only [cnV] at h; subst h; exact ⟨AV.c_ext hE _ hok, AV.ok_ext hE _ hok⟩
  | .ifc .., v' => fun h hok => by simp only [cnV] at h; subst h; exact ⟨AV.c_ext hE _ hok, AV.ok_ext hE _ hok⟩
  | .bo _, v' => fun h hok => by simp only [cnV] at h; subst h; exact ⟨rfl, trivial⟩
  | .int _ _, v' => fun h hok => by simp only [cnV] at h; subst h; exact ⟨rfl, trivial⟩
  | .str _, v' => fun h hok => by simp only [cnV] at h; subst h; exact ⟨rfl, trivial⟩
  | .np, v' => fun h hok => by simp only [cnV] at h; subst h; exact ⟨rfl, trivial⟩
  | .nf, v' => fun h hok => by simp only [cnV] at h; subst h; exact ⟨rfl, trivial⟩
  | .ni, v' => fun h hok => by simp only [cnV] at h; subst h; exact ⟨rfl, trivial⟩
  | .nm, v' => fun h hok => by simp only [cnV] at h; subst h; exact ⟨rfl, trivial⟩
  | .raw _, v' => fun h hok => by simp only [cnV] at h; subst h; exact ⟨rfl, trivial⟩
theorem cnL_c {ρ ρ' : Env} {k : Nat} (hE : ∀ i g l, ρ i g = some l → ρ' i g = some l) (hk : ρ' k 0 = some none) : ∀ l l' : List AV, cnL k l l' → AV.okl ρ l → AV.cl ρ' l' = AV.cl ρ l ∧ AV.okl ρ' l'
  | [], l' => fun h _ => by simp only [cnL] at h; subst h; exact ⟨rfl, trivial⟩
  | v :: l, l' => fun h hok => by
    simp only [cnL] at h
    obtain ⟨v1, l1, rfl, h1, h2⟩ := h
    obtain ⟨a1, a2⟩ := cnV_c hE hk v v1 h1 hok.1
    obtain ⟨b1, b2⟩ := cnL_c hE hk l l1 h2 hok.2
    exact ⟨by simp only [AV.cl, a1, b1], a2, b2⟩
end

/-- The values in the canonical form, with a new object for nil slices. -/
theorem Vw.canon {M : AH} {x : Cont} {l l' : List AV} (hx : x.virt) (hl : cnL M.length l l') : Vw M (M ++ [.one true 0 x]) l l' := by
  intro ρ w hs hok
  obtain ⟨h1, h2⟩ := sim_new (x := x) (l := none) (w' := w) hs (fun _ _ => rfl) (Nat.le_refl _) rfl rfl rfl (.inr ⟨rfl, hx⟩)
  obtain ⟨k1, k2⟩ := cnL_c h2.env (upE_same ..) l l' hl hok
  exact ⟨_, h1, h2, k1, k2⟩
mutual

theorem cnV_refl (k : Nat) : ∀ v : AV, cnV k v v
  | .agg l => by simp only [cnV]; exact ⟨l, rfl, cnL_refl k l⟩
  | .tup l => by simp only [cnV]; exact ⟨l, rfl, cnL_refl k l⟩
  | .ns => by simp [cnV]
  | .ff => by simp [cnV]
  | .tt => by simp [cnV]
  | .ptr .. => by simp [cnV] | .pel .. => by simp [cnV] | .sl .. => by simp [cnV] | .mp .. => by simp [cnV] | .fn .. => by simp [cnV] | .ifc .. => by simp [cnV]
  | .bo _ => by simp [cnV] | .int _ _ => by simp [cnV] | .str _ => by simp [cnV] | .np => by simp [cnV] | .nf => by simp [cnV] | .ni => by simp [cnV] | .nm => by simp [cnV] | .raw _ => by simp [cnV]
theorem cnL_refl (k : Nat) : ∀ l : List AV, cnL k l l
  | [] => by simp [cnL]
  | v :: l => by simp only [cnL]; exact ⟨v, l, rfl, cnV_refl k v, cnL_refl k l⟩
end

theorem cnV_isB {k : Nat} {v : AV} {b : Bool} (h : v = .bo b ∨ (v = .ff ∧ b = false) ∨ (v = .tt ∧ b = true)) : cnV k v (.bo b) := by
  rcases h with rfl | ⟨rfl, rfl⟩ | ⟨rfl, rfl⟩ <;> simp [cnV]

theorem cnL_len (k : Nat) : ∀ l l' : List AV, cnL k l l' → l'.length = l.length
  | [], l', h => by simp only [cnL] at h; subst h; rfl
  | v :: l, l', h => by
    simp only [cnL] at h
    obtain ⟨v1, l1, rfl, _, h2⟩ := h
    simp [cnL_len k l l1 h2]
theorem cnL_get (k : Nat) : ∀ (l l' : List AV), cnL k l l' → ∀ (j : Nat) (v' : AV), l'[j]? = some v' → ∃ v, l[j]? = some v ∧ cnV k v v'
  | [], l', h, j, v', hj => by simp only [cnL] at h; subst h; simp at hj
  | v :: l, l', h, j, v', hj => by
    simp only [cnL] at h
    obtain ⟨v1, l1, rfl, h1, h2⟩ := h
    cases j with
    | zero => simp at hj; subst hj; exact ⟨v, rfl, h1⟩
    | succ j => simpa using cnL_get k l l1 h2 j v' (by simpa using hj)
/-- The cells of an own object in the canonical form. -/
theorem Vw.cells {M : AH} {i g : Nat} {cs cs' : List AV} {x : Cont} {l : List AV} (hm : M[i]? = some (.one true g (.cells cs))) (hc : cnL M.length cs cs') (hx : x.virt) :
    Vw M (M.set i (.one true g (.cells cs')) ++ [.one true 0 x]) l l := by
  intro ρ w hs hok
  have hlt : i < M.length := (List.getElem?_eq_some_iff.1 hm).1
  obtain ⟨h1, h2⟩ := sim_new (x := x) (l := none) (w' := w) hs (fun _ _ => rfl) (Nat.le_refl _) rfl rfl rfl (.inr ⟨rfl, hx⟩)
  have hm1 : (M ++ [AO.one true 0 x])[i]? = some (.one true g (.cells cs)) := by rw [List.getElem?_append_left hlt]; exact hm
  obtain ⟨h3, h4⟩ := sim_recast (x' := .cells cs') h1 hm1
    (by simp [Cont.size, cnL_len _ _ _ hc]) (fun j v' hv' => by
      simp only [Cont.at] at hv' ⊢
      obtain ⟨v, hv, hcv⟩ := cnL_get _ _ _ hc j v' hv'
      refine ⟨v, hv, ?_⟩
      rcases h1.holds i g true (.cells cs) (slot_one hm1) with ⟨q, e1, e2⟩ | ⟨_, e2⟩
      · obtain ⟨c, e, fr, k1, k2, k3, k4⟩ := e2.out rfl
        exact cnV_c (fun _ _ _ h => h) (upE_same ..) v v' hcv (k3 j v hv).1
      · exact e2.elim) (fun h => h.elim)
  rw [set_append' _ _ _ _ hlt] at h3 h4
  refine ⟨_, h3, h2.trans h4, ?_, AV.okl_ext h2.env l hok⟩
  exact AV.cl_ext h2.env l hok

theorem cnL_nil (k : Nat) : cnL k [] [] := by simp only [cnL]
theorem cnL_cons {k : Nat} {v v' : AV} {l l' : List AV} (h : cnV k v v') (h' : cnL k l l') : cnL k (v :: l) (v' :: l') := by simp only [cnL]; exact ⟨_, _, rfl, h, h'⟩
theorem cnV_agg {k : Nat} {l l' : List AV} (h : cnL k l l') : cnV k (.agg l) (.agg l') := by simp only [cnV]; exact ⟨_, rfl, h⟩
theorem cnV_tup {k : Nat} {l l' : List AV} (h : cnL k l l') : cnV k (.tup l) (.tup l') := by simp only [cnV]; exact ⟨_, rfl, h⟩

/-- What a call leaves, picked: t tells of each object of N which one of the heap it is. -/
structure PickA (a : Nat) (r : AV) (M' : AH) (t : List TE) (r' : AV) (N : AH) : Prop where
  fit : fitH t M'.length M' t N
  chk : (apartT t && r'.w0 t) = true
  w0 : w0H t N
  val : r'.rn t M'.length = r
  old : ∀ i, i < a → t[i]? = some (.own i) ∨ t[i]? = some (.sha i)
theorem CallA.post_pick {P : Program} {g : Nat} {args : List AV} {M : AH} {K Kp : AV → AH → Prop} (h : CallA P g args M (fun r M' => ∃ t r' N, PickA M.length r M' t r' N ∧ K r' N) Kp) : CallA P g args M K Kp := by
  unfold CallA at *
  refine ⟨h.1, fun ρ w hs hok => Calls.mono (h.2 ρ w hs hok) fun e w' he => ?_⟩
  obtain ⟨ρ', M', h1, h2, h3⟩ := he
  cases e with
  | returned v =>
    obtain ⟨r, e1, e2, t, r', N, p, k⟩ := h3
    have hc := p.chk
    simp only [Bool.and_eq_true] at hc
    have s1 := callee_sim h1 hc.1 p.fit p.w0
    have o1 : r'.ok (envC t ρ') := ok_back r' hc.2 (by rw [p.val]; exact e2)
    have c1 := (rn_c (envC_R (m := M'.length)) r' o1).2
    rw [p.val] at c1
    refine ⟨envC t ρ', N, s1, ⟨?_, h2.size, h2.frame, ?_, h2.os, h2.tape, h2.output⟩, r', by rw [← c1]; exact e1, o1, k⟩
    · intro i g l hl
      have hi := hs.dom i g (by rw [hl]; rfl)
      have := h2.env i g l hl
      unfold envC
      rcases p.old i hi with e | e <;> rw [e] <;> exact this
    · intro i g x q hsl hq hb
      obtain ⟨i', _, a2, a3⟩ := callee_own p.fit hsl hq
      exact h2.fresh i' g _ q a2 a3 hb
  | panicked ch =>
    obtain ⟨r, e1, e2, e3⟩ := h3
    exact ⟨ρ', M', h1, h2, r, e1, e2, e3⟩
  | outgrown => exact h3.elim
/-- All that is behind is forgotten. -/
theorem pick_id {M E : AH} {r : AV} (hn : nbH M.length M) (ht : ∀ o ∈ M, (o.isOwn || (o.tag0 && !o.isOwn)) = true) (hr : r.nb M.length = true) : PickA M.length r (M ++ E) (idT 0 M) r M := by
  refine ⟨idT_fit (M0 := []) (M1 := M) (E := E) hn ht, ?_, idT_w hn, (idT_v r hr).1, fun i hi => ?_⟩
  · rw [idT_apart, (idT_v (m := 0) r hr).2]; rfl
  · rcases idT_get M 0 i hi with e | e
    · exact .inl (by rw [e, Nat.zero_add])
    · exact .inr (by rw [e, Nat.zero_add])
end Go.Proofs.Ytdnmbmnfglbfoaa
