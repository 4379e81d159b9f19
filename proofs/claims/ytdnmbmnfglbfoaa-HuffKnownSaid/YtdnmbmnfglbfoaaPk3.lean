/- Other views of one world: names changed. -/
import Derived.Test.YtdnmbmnfglbfoaaPk2

set_option linter.unusedVariables false

set_option linter.unusedSimpArgs false

open Go.RowKit

namespace Go.Proofs.Ytdnmbmnfglbfoaa

/-! Every name (i, g) is turned to φ i g. -/
mutual

def AV.rm (φ : Nat → Nat → Nat × Nat) : AV → AV
  | .ptr i g off => .ptr (φ i g).1 (φ i g).2 off
  | .pel i g sz j o => .pel (φ i g).1 (φ i g).2 sz j o
  | .sl i g off n c => .sl (φ i g).1 (φ i g).2 off n c
  | .mp i g => .mp (φ i g).1 (φ i g).2
  | .fn f a b => .fn f (AV.rml φ a) (AV.rml φ b)
  | .ifc t v => .ifc t (v.rm φ)
  | .agg l => .agg (AV.rml φ l)
  | .tup l => .tup (AV.rml φ l)
  | .bo x => .bo x | .tt => .tt | .ff => .ff | .int k n => .int k n | .str x => .str x | .np => .np | .ns => .ns | .nf => .nf | .ni => .ni | .nm => .nm | .raw v => .raw v
def AV.rml (φ : Nat → Nat → Nat × Nat) : List AV → List AV
  | [] => []
  | v :: l => v.rm φ :: AV.rml φ l
end

def envN (φ : Nat → Nat → Nat × Nat) (ρ : Env) : Env := fun i g => ρ (φ i g).1 (φ i g).2
mutual

theorem nm_c (φ : Nat → Nat → Nat × Nat) (ρ : Env) : ∀ v : AV, v.c (envN φ ρ) = (v.rm φ).c ρ
  | .ptr i g off => rfl
  | .pel i g sz j o => rfl
  | .sl i g off n c => rfl
  | .mp i g => rfl
  | .fn f a b => by simp only [AV.rm, AV.c, nml_c φ ρ a, nml_c φ ρ b]
  | .ifc t v => by simp only [AV.rm, AV.c, nm_c φ ρ v]
  | .agg l => by simp only [AV.rm, AV.c, nml_c φ ρ l]
  | .tup l => by simp only [AV.rm, AV.c, nml_c φ ρ l]
  | .bo _ => rfl | .tt => rfl | .ff => rfl | .int _ _ => rfl | .str _ => rfl | .np => rfl | .ns => rfl | .nf => rfl | .ni => rfl | .nm => rfl | .raw _ => rfl
theorem nml_c (φ : Nat → Nat → Nat × Nat) (ρ : Env) : ∀ l : List AV, AV.cl (envN φ ρ) l = AV.cl ρ (AV.rml φ l)
  | [] => rfl
  | v :: l => by simp only [AV.rml, AV.cl, nm_c φ ρ v, nml_c φ ρ l]
end

mutual

theorem nm_ok (φ : Nat → Nat → Nat × Nat) (ρ : Env) : ∀ v : AV, v.ok (envN φ ρ) ↔ (v.rm φ).ok ρ
  | .ptr i g off => Iff.rfl
  | .pel i g sz j o => Iff.rfl
  | .sl i g off n c => Iff.rfl
  | .mp i g => Iff.rfl
  | .fn f a b => by simp only [AV.rm, AV.ok, nml_ok φ ρ a, nml_ok φ ρ b]
  | .ifc t v => by simp only [AV.rm, AV.ok, nm_ok φ ρ v]
  | .agg l => by simp only [AV.rm, AV.ok, nml_ok φ ρ l]
  | .tup l => by simp only [AV.rm, AV.ok, nml_ok φ ρ l]
  | .bo _ => Iff.rfl | .tt => Iff.rfl | .ff => Iff.rfl | .int _ _ => Iff.rfl | .str _ => Iff.rfl | .np => Iff.rfl | .ns => Iff.rfl | .nf => Iff.rfl | .ni => Iff.rfl | .nm => Iff.rfl | .raw _ => Iff.rfl
theorem nml_ok (φ : Nat → Nat → Nat × Nat) (ρ : Env) : ∀ l : List AV, AV.okl (envN φ ρ) l ↔ AV.okl ρ (AV.rml φ l)
  | [] => Iff.rfl
  | v :: l => by simp only [AV.rml, AV.okl, nm_ok φ ρ v, nml_ok φ ρ l]
end

/-- A name that no world that holds M knows. -/
def newN (M : AH) (i g : Nat) : Prop := M.length ≤ i ∨ (∃ own g0 x, M[i]? = some (.one own g0 x) ∧ g0 < g) ∨ (∃ own m x, M[i]? = some (.fam own m x) ∧ m ≤ g)
theorem newN_none {ρ : Env} {M : AH} {w : World} (h : Sim ρ M w) {i g : Nat} (hn : newN M i g) : ρ i g = none := by
  cases hr : ρ i g with
  | none => rfl
  | some l =>
    have hs : (ρ i g).isSome = true := by rw [hr]; rfl
    rcases hn with hn | ⟨own, g0, x, h1, h2⟩ | ⟨own, m, x, h1, h2⟩
    · have := h.dom i g hs; omega
    · have := h.tag i g own g0 x h1 hs; omega
    · have := h.fam i g own m x h1 hs; omega
structure NameV (M M' : AH) (φ : Nat → Nat → Nat × Nat) : Prop where
  len : M.length ≤ M'.length
  new : ∀ i g, φ i g = (i, g) ∨ (newN M i g ∧ i < M'.length)
  slot : ∀ i g own x, slot M' i g = some (own, x) → ∃ own0 x0, slot M (φ i g).1 (φ i g).2 = some (own0, x0) ∧ (own = true → own0 = true) ∧
    (x = x0 ∨ (x.row = true ∧ x0.row = true ∧ x.size ≤ x0.size ∧ (∀ k v, x.at k = some v → x0.at k = some (v.rm φ)) ∧ (x0.virt → x.virt)))
  inj : ∀ i g x i' g' own' x', Go.Proofs.Ytdnmbmnfglbfoaa.slot M' i g = some (true, x) → Go.Proofs.Ytdnmbmnfglbfoaa.slot M' i' g' = some (own', x') → φ i g = φ i' g' → i = i' ∧ g = g'
  tag : ∀ i own g x, M'[i]? = some (.one own g x) → ∀ g', g < g' → φ i g' = (i, g') ∧ newN M i g'
  fam : ∀ i own m x, M'[i]? = some (.fam own m x) → ∀ g', m ≤ g' → φ i g' = (i, g') ∧ newN M i g'
theorem sim_name {ρ : Env} {M M' : AH} {w : World} {φ : Nat → Nat → Nat × Nat} (h : Sim ρ M w) (hn : NameV M M' φ) : Sim (envN φ ρ) M' w ∧ Ext ρ M w (envN φ ρ) M' w := by
  have hext : ∀ i g l, ρ i g = some l → envN φ ρ i g = some l := by
    intro i g l e
    rcases hn.new i g with h1 | ⟨h1, _⟩
    · unfold envN; rw [h1]; exact e
    · rw [newN_none h h1] at e; cases e
  refine ⟨⟨?_, ?_, ?_, ?_, ?_⟩, ⟨hext, Nat.le_refl _, fun _ _ _ => rfl, ?_, rfl, rfl, rfl⟩⟩
  · intro i g hi
    rcases hn.new i g with h1 | ⟨_, h1⟩
    · unfold envN at hi; rw [h1] at hi; exact Nat.lt_of_lt_of_le (h.dom i g hi) hn.len
    · exact h1
  · intro i g own g' x hm hi
    rcases Nat.lt_or_ge g' g with hlt | hge
    · obtain ⟨h1, h2⟩ := hn.tag i own g' x hm g hlt
      unfold envN at hi; rw [h1, newN_none h h2] at hi; cases hi
    · exact hge
  · intro i g own m x hm hi
    rcases Nat.lt_or_ge g m with hlt | hge
    · exact hlt
    · obtain ⟨h1, h2⟩ := hn.fam i own m x hm g hge
      unfold envN at hi; rw [h1, newN_none h h2] at hi; cases hi
  · intro i g own x hs
    obtain ⟨own0, x0, h1, h2, h3⟩ := hn.slot i g own x hs
    rcases h.holds _ _ _ _ h1 with ⟨q, e1, e2⟩ | ⟨e1, e2⟩
    · refine .inl ⟨q, e1, ?_⟩
      rcases h3 with rfl | ⟨r1, r2, r3, r4, r5⟩
      · have := e2.ext hext rfl
        rcases this.all with ⟨hx, c, e, fr, k1, k2, k3, k4⟩ | h0
        · exact .mk' hx ⟨c, e, fr, k1, k2, k3, fun ho => k4 (h2 ho)⟩
        · exact ⟨.inr h0⟩
      · obtain ⟨c, e, fr, k1, k2, k3, k4⟩ := e2.out r2
        refine .mk' r1 ⟨c, e, fr, k1, by omega, fun k v hv => ?_, fun ho => k4 (h2 ho)⟩
        obtain ⟨a, b⟩ := k3 k _ (r4 k v hv)
        exact ⟨(nm_ok φ ρ v).2 a, by rw [nm_c φ ρ v]; exact b⟩
    · refine .inr ⟨e1, ?_⟩
      rcases h3 with rfl | ⟨_, _, _, _, r5⟩
      · exact e2
      · exact r5 e2
  · intro i g x i' g' own' x' q q' hs hs' hq hq' he
    obtain ⟨own0, x0, h1, h2, _⟩ := hn.slot i g true x hs
    obtain ⟨own0', x0', h1', _, _⟩ := hn.slot i' g' own' x' hs'
    rw [h2 rfl] at h1
    have := h.apart _ _ _ _ _ _ _ q q' h1 h1' hq hq' he
    exact hn.inj i g x i' g' own' x' hs hs' (Prod.ext this.1 this.2)
  · intro i g x q hs hq _
    obtain ⟨own0, x0, h1, h2, _⟩ := hn.slot i g true x hs
    rw [h2 rfl] at h1
    exact ⟨_, _, x0, q, h1, hq, rfl⟩
theorem Vw.name {M M' : AH} {φ : Nat → Nat → Nat × Nat} {l l' : List AV} (hn : NameV M M' φ) (hl : AV.rml φ l' = l) : Vw M M' l l' := by
  intro ρ w hs hok
  obtain ⟨h1, h2⟩ := sim_name hs hn
  exact ⟨_, h1, h2, by rw [nml_c, hl], (nml_ok φ ρ l').2 (by rw [hl]; exact hok)⟩

/-! One name is turned. -/
def phi1 (a b i0 g0 : Nat) : Nat → Nat → Nat × Nat := fun i g => if i = a ∧ g = b then (i0, g0) else (i, g)
theorem phi1_eq {a b i0 g0 : Nat} : phi1 a b i0 g0 a b = (i0, g0) := by simp [phi1]
theorem phi1_ne {a b i0 g0 i g : Nat} (h : ¬ (i = a ∧ g = b)) : phi1 a b i0 g0 i g = (i, g) := by simp only [phi1, if_neg h]

/-- One of a family of windows, as an object of its own. -/
theorem pullN {M : AH} {i g : Nat} {x : Cont} (hs : slot M i g = some (false, x)) : NameV M (M ++ [.one false 0 x]) (phi1 M.length 0 i g) := by
  have hget : ∀ j, j < M.length → (M ++ [AO.one false 0 x])[j]? = M[j]? := fun j hj => List.getElem?_append_left hj
  have hslot : ∀ j g', j < M.length → slot (M ++ [AO.one false 0 x]) j g' = slot M j g' := by intro j g' hj; unfold slot; rw [hget j hj]
  have hnew : ∀ g' own y, slot (M ++ [AO.one false 0 x]) M.length g' = some (own, y) → g' = 0 ∧ own = false ∧ y = x := by
    intro g' own y h
    unfold slot at h
    rw [List.getElem?_append_right (Nat.le_refl _)] at h
    simp only [Nat.sub_self, List.getElem?_cons_zero, slotO] at h
    split at h
    · injection h with h; injection h with a b; exact ⟨‹_›, a.symm, b.symm⟩
    · cases h
  have hlt : ∀ {j g' own y}, slot (M ++ [AO.one false 0 x]) j g' = some (own, y) → j < M.length ∨ j = M.length := by
    intro j g' own y h
    unfold slot at h
    rcases Nat.lt_trichotomy j M.length with h' | h' | h'
    · exact .inl h'
    · exact .inr h'
    · rw [List.getElem?_eq_none (by simp; omega)] at h; cases h
  have hi : i < M.length := by
    unfold slot at hs
    rcases Nat.lt_or_ge i M.length with h' | h'
    · exact h'
    · rw [List.getElem?_eq_none h'] at hs; cases hs
  refine ⟨by simp, ?_, ?_, ?_, ?_, ?_⟩
  · intro j g'
    by_cases e : j = M.length ∧ g' = 0
    · exact .inr ⟨.inl (by omega), by simp; omega⟩
    · exact .inl (phi1_ne e)
  · intro j g' own y h
    rcases hlt h with h' | rfl
    · rw [hslot j g' h'] at h
      rw [phi1_ne (by omega)]
      exact ⟨own, y, h, id, .inl rfl⟩
    · obtain ⟨rfl, rfl, rfl⟩ := hnew _ _ _ h
      rw [phi1_eq]
      exact ⟨false, y, hs, fun h => (by cases h), .inl rfl⟩
  · intro j g1 y j' g2 own' y' h1 h2 he
    rcases hlt h1 with h1' | rfl
    · rw [phi1_ne (by omega)] at he
      rcases hlt h2 with h2' | rfl
      · rw [phi1_ne (by omega)] at he
        simpa using he
      · obtain ⟨rfl, _, rfl⟩ := hnew _ _ _ h2
        rw [phi1_eq] at he
        rw [hslot j g1 h1'] at h1
        simp only [Prod.mk.injEq] at he
        obtain ⟨rfl, rfl⟩ := he
        rw [hs] at h1; cases h1
    · obtain ⟨_, h, _⟩ := hnew _ _ _ h1; cases h
  · intro j own g1 y hm g' hg
    rcases Nat.lt_or_ge j M.length with h' | h'
    · rw [hget j h'] at hm
      exact ⟨phi1_ne (by omega), .inr (.inl ⟨own, g1, y, hm, hg⟩)⟩
    · exact ⟨phi1_ne (by omega), .inl h'⟩
  · intro j own m y hm g' hg
    rcases Nat.lt_or_ge j M.length with h' | h'
    · rw [hget j h'] at hm
      exact ⟨phi1_ne (by omega), .inr (.inr ⟨own, m, y, hm, hg⟩)⟩
    · rcases Nat.lt_or_ge M.length j with h'' | h''
      · exact ⟨phi1_ne (by omega), .inl h'⟩
      · have : j = M.length := by omega
        subst this
        rw [List.getElem?_append_right (Nat.le_refl _)] at hm
        simp at hm
theorem Vw.pull {M : AH} {i g : Nat} {x : Cont} {l l' : List AV} (hs : slot M i g = some (false, x)) (hl : AV.rml (phi1 M.length 0 i g) l' = l) : Vw M (M ++ [.one false 0 x]) l l' := Vw.name (pullN hs) hl

/-- A family without members. -/
theorem Vw.fam0 {M : AH} {own : Bool} {f : Nat → Cont} {l : List AV} : Vw M (M ++ [.fam own 0 f]) l l := by
  have hget : ∀ j, j < M.length → (M ++ [AO.fam own 0 f])[j]? = M[j]? := fun j hj => List.getElem?_append_left hj
  have hs : ∀ {j g' own' y}, slot (M ++ [AO.fam own 0 f]) j g' = some (own', y) → slot M j g' = some (own', y) := by
    intro j g' own' y h
    unfold slot at h ⊢
    rcases Nat.lt_trichotomy j M.length with h' | h' | h'
    · rw [hget j h'] at h; exact h
    · subst h'
      rw [List.getElem?_append_right (Nat.le_refl _)] at h
      simp [slotO] at h
    · rw [List.getElem?_eq_none (by simp; omega)] at h; cases h
  refine Vw.name (φ := fun i g => (i, g)) ⟨by simp, fun _ _ => .inl rfl, ?_, ?_, ?_, ?_⟩ ?_
  · intro i g own' x h; exact ⟨own', x, hs h, id, .inl rfl⟩
  · intro i g x i' g' own' x' _ _ he; simpa using he
  · intro j own' g1 y hm g' hg
    rcases Nat.lt_or_ge j M.length with h' | h'
    · rw [hget j h'] at hm; exact ⟨rfl, .inr (.inl ⟨own', g1, y, hm, hg⟩)⟩
    · exact ⟨rfl, .inl h'⟩
  · intro j own' m y hm g' hg
    rcases Nat.lt_or_ge j M.length with h' | h'
    · rw [hget j h'] at hm; exact ⟨rfl, .inr (.inr ⟨own', m, y, hm, hg⟩)⟩
    · exact ⟨rfl, .inl h'⟩
  · have key : ∀ ρ : Env, envN (fun i g => (i, g)) ρ = ρ := fun _ => rfl
    exact nml_id l
where
  nml_id : ∀ l : List AV, AV.rml (fun i g => (i, g)) l = l
    | [] => rfl
    | v :: l => by simp only [AV.rml]; rw [nm_id v, nml_id l]
  nm_id : ∀ v : AV, v.rm (fun i g => (i, g)) = v
    | .ptr .. | .pel .. | .sl .. | .mp .. => rfl
    | .fn f a b => by simp only [AV.rm]; rw [nml_id a, nml_id b]
    | .ifc t v => by simp only [AV.rm]; rw [nm_id v]
    | .agg l => by simp only [AV.rm]; rw [nml_id l]
    | .tup l => by simp only [AV.rm]; rw [nml_id l]
    | .bo _ => rfl | .tt => rfl | .ff => rfl | .int _ _ => rfl | .str _ => rfl | .np => rfl | .ns => rfl | .nf => rfl | .ni => rfl | .nm => rfl | .raw _ => rfl

/-- An own array becomes one more of a family of windows; the cells of a table follow. -/
theorem freezeN {M : AH} {iu k o m g0 go sz n c : Nat} {ow : Bool} {f f' : Nat → Cont} {y : Cont} {get get' : Nat → List AV} (hu : M[iu]? = some (.fam ow m f)) (hk : M[k]? = some (.one true g0 y)) (ho : M[o]? = some (.one true go (.tab sz n get c)))
    (nok : Nat.beq o k = false) (hf : ∀ r, r < m → f' r = f r) (hm : f' m = y) (hg : ∀ r, r < n → AV.rml (phi1 iu m k g0) (get' r) = get r) :
    NameV M (((M.set iu (.fam ow (m + 1) f')).set o (.one true go (.tab sz n get' c))).set k .gone) (phi1 iu m k g0) := by
  have nok : o ≠ k := Nat.ne_of_beq_eq_false nok
  have lu : iu < M.length := (List.getElem?_eq_some_iff.1 hu).1
  have lk : k < M.length := (List.getElem?_eq_some_iff.1 hk).1
  have lo : o < M.length := (List.getElem?_eq_some_iff.1 ho).1
  have nuk : iu ≠ k := by intro e; subst e; rw [hu] at hk; cases hk
  have nuo : iu ≠ o := by intro e; subst e; rw [hu] at ho; cases ho
  generalize hN : (((M.set iu (.fam ow (m + 1) f')).set o (.one true go (.tab sz n get' c))).set k .gone) = N
  have hl : N.length = M.length := by rw [← hN]; simp
  have gu : N[iu]? = some (.fam ow (m + 1) f') := by
    rw [← hN, List.getElem?_set_ne (Ne.symm nuk), List.getElem?_set_ne (Ne.symm nuo), List.getElem?_set_self lu]
  have gk : N[k]? = some .gone := by
    rw [← hN, List.getElem?_set_self (by simpa using lk)]
  have gO : N[o]? = some (.one true go (.tab sz n get' c)) := by
    rw [← hN, List.getElem?_set_ne (Ne.symm nok), List.getElem?_set_self (by simpa using lo)]
  have gr : ∀ j, j ≠ iu → j ≠ k → j ≠ o → N[j]? = M[j]? := by
    intro j h1 h2 h3
    rw [← hN, List.getElem?_set_ne (Ne.symm h2), List.getElem?_set_ne (Ne.symm h3), List.getElem?_set_ne (Ne.symm h1)]
  clear hN
  have sk : slot M k g0 = some (true, y) := slot_one hk
  have sN : ∀ {i g own x}, slot N i g = some (own, x) → i ≠ k := by
    intro i g own x h e; subst e; unfold slot at h; rw [gk] at h; cases h
  refine ⟨by omega, ?_, ?_, ?_, ?_, ?_⟩
  · intro i g
    by_cases e : i = iu ∧ g = m
    · obtain ⟨rfl, rfl⟩ := e
      exact .inr ⟨.inr (.inr ⟨ow, _, f, hu, Nat.le_refl _⟩), by omega⟩
    · exact .inl (phi1_ne e)
  · intro i g own x h
    have hik := sN h
    by_cases eu : i = iu
    · subst eu
      unfold slot at h
      rw [gu] at h
      simp only [slotO] at h
      split at h
      · rename_i hgm
        injection h with h; injection h with e1 e2
        subst e1; subst e2
        by_cases e : g = m
        · subst e
          rw [phi1_eq]
          exact ⟨true, y, sk, fun _ => rfl, .inl hm⟩
        · rw [phi1_ne (by omega)]
          refine ⟨ow, f g, ?_, id, .inl (hf g (by omega))⟩
          unfold slot; rw [hu]; simp only [slotO, if_pos (show g < m by omega)]
      · cases h
    · rw [phi1_ne (by omega)]
      by_cases eo : i = o
      · subst eo
        unfold slot at h
        rw [gO] at h
        simp only [slotO] at h
        split at h
        · rename_i hgg
          subst hgg
          injection h with h; injection h with e1 e2
          subst e1; subst e2
          refine ⟨true, _, slot_one ho, id, .inr ⟨rfl, rfl, Nat.le_refl _, ?_, fun h => h⟩⟩
          intro k' v hv
          simp only [Cont.at] at hv ⊢
          split at hv
          · rename_i hlt
            rw [if_pos hlt]
            have hr : k' / sz < n := Nat.div_lt_of_lt_mul (by rw [Nat.mul_comm]; exact hlt)
            rw [← hg _ hr]
            have : ∀ (l : List AV) (j : Nat) (v : AV), l[j]? = some v → (AV.rml (phi1 iu m k g0) l)[j]? = some (v.rm (phi1 iu m k g0)) := by
              intro l
              induction l with
              | nil => intro j v h; simp at h
              | cons a l ih =>
                intro j v h
                cases j with
                | zero => simp at h; subst h; simp [AV.rml]
                | succ j => simp only [AV.rml, List.getElem?_cons_succ] at h ⊢; exact ih j v h
            exact this _ _ _ hv
          · cases hv
        · cases h
      · unfold slot at h
        rw [gr i eu hik eo] at h
        exact ⟨own, x, h, id, .inl rfl⟩
  · intro i g x i' g' own' x' h h' he
    have e1 := sN h
    have e2 := sN h'
    by_cases d1 : i = iu ∧ g = m
    · by_cases d2 : i' = iu ∧ g' = m
      · exact ⟨d1.1.trans d2.1.symm, d1.2.trans d2.2.symm⟩
      · obtain ⟨rfl, rfl⟩ := d1
        rw [phi1_eq, phi1_ne d2] at he
        simp only [Prod.mk.injEq] at he
        exact absurd he.1.symm e2
    · by_cases d2 : i' = iu ∧ g' = m
      · obtain ⟨rfl, rfl⟩ := d2
        rw [phi1_eq, phi1_ne d1] at he
        simp only [Prod.mk.injEq] at he
        exact absurd he.1 e1
      · rw [phi1_ne d1, phi1_ne d2] at he
        simpa using he
  · intro i own g x h g' hg'
    have hik : i ≠ k := by intro e; subst e; rw [gk] at h; cases h
    have eu : i ≠ iu := by intro e; subst e; rw [gu] at h; cases h
    refine ⟨phi1_ne (by omega), ?_⟩
    by_cases eo : i = o
    · subst eo
      rw [gO] at h; injection h with h; injection h with a b
      subst b
      exact .inr (.inl ⟨true, _, _, ho, hg'⟩)
    · rw [gr i eu hik eo] at h
      exact .inr (.inl ⟨own, g, x, h, hg'⟩)
  · intro i own m' x h g' hg'
    have hik : i ≠ k := by intro e; subst e; rw [gk] at h; cases h
    have eo : i ≠ o := by intro e; subst e; rw [gO] at h; cases h
    by_cases eu : i = iu
    · subst eu
      rw [gu] at h; injection h with h; injection h with a b
      subst b
      exact ⟨phi1_ne (by omega), .inr (.inr ⟨ow, m, f, hu, by omega⟩)⟩
    · refine ⟨phi1_ne (by omega), ?_⟩
      rw [gr i eu hik eo] at h
      exact .inr (.inr ⟨own, m', x, h, hg'⟩)
theorem Vw.freeze {M : AH} {iu k o m g0 go sz n c : Nat} {ow : Bool} {f : Nat → Cont} {y : Cont} {get : Nat → List AV} {l l' : List AV} (f' : Nat → Cont) (get' : Nat → List AV) (hu : M[iu]? = some (.fam ow m f)) (hk : M[k]? = some (.one true g0 y)) (ho : M[o]? = some (.one true go (.tab sz n get c)))
    (nok : Nat.beq o k = false) (hf : ∀ r, r < m → f' r = f r) (hm : f' m = y) (hg : ∀ r, r < n → AV.rml (phi1 iu m k g0) (get' r) = get r) (hl : AV.rml (phi1 iu m k g0) l' = l) :
    Vw M (((M.set iu (.fam ow (m + 1) f')).set o (.one true go (.tab sz n get' c))).set k .gone) l l' := Vw.name (freezeN hu hk ho nok hf hm hg) hl

/-- A family joins another one, behind it. -/
def phiM (iu m p iv : Nat) : Nat → Nat → Nat × Nat := fun i g => if i = iu ∧ m ≤ g ∧ g < m + p then (iv, g - m) else (i, g)
theorem phiM_eq {iu m p iv j : Nat} (h : j < p) : phiM iu m p iv iu (m + j) = (iv, j) := by unfold phiM; rw [if_pos ⟨rfl, by omega, by omega⟩, Nat.add_sub_cancel_left]
theorem phiM_ne {iu m p iv i g : Nat} (h : ¬ (i = iu ∧ m ≤ g ∧ g < m + p)) : phiM iu m p iv i g = (i, g) := by simp only [phiM, if_neg h]
theorem mergeN {M : AH} {iu iv o m p go sz n c : Nat} {ow : Bool} {f f' fv : Nat → Cont} {get get' : Nat → List AV} (hu : M[iu]? = some (.fam false m f)) (hk : M[iv]? = some (.fam ow p fv)) (ho : M[o]? = some (.one true go (.tab sz n get c)))
    (nuk : Nat.beq iu iv = false) (hf : ∀ r, r < m → f' r = f r) (hm : ∀ r, r < p → f' (m + r) = fv r) (hg : ∀ r, r < n → AV.rml (phiM iu m p iv) (get' r) = get r) :
    NameV M (((M.set iu (.fam false (m + p) f')).set o (.one true go (.tab sz n get' c))).set iv .gone) (phiM iu m p iv) := by
  have nuk : iu ≠ iv := Nat.ne_of_beq_eq_false nuk
  have lu : iu < M.length := (List.getElem?_eq_some_iff.1 hu).1
  have lk : iv < M.length := (List.getElem?_eq_some_iff.1 hk).1
  have lo : o < M.length := (List.getElem?_eq_some_iff.1 ho).1
  have nok : o ≠ iv := by intro e; subst e; rw [ho] at hk; cases hk
  have nuo : iu ≠ o := by intro e; subst e; rw [hu] at ho; cases ho
  generalize hN : (((M.set iu (.fam false (m + p) f')).set o (.one true go (.tab sz n get' c))).set iv .gone) = N
  have hl : N.length = M.length := by rw [← hN]; simp
  have gu : N[iu]? = some (.fam false (m + p) f') := by
    rw [← hN, List.getElem?_set_ne (Ne.symm nuk), List.getElem?_set_ne (Ne.symm nuo), List.getElem?_set_self lu]
  have gk : N[iv]? = some .gone := by
    rw [← hN, List.getElem?_set_self (by simpa using lk)]
  have gO : N[o]? = some (.one true go (.tab sz n get' c)) := by
    rw [← hN, List.getElem?_set_ne (Ne.symm nok), List.getElem?_set_self (by simpa using lo)]
  have gr : ∀ j, j ≠ iu → j ≠ iv → j ≠ o → N[j]? = M[j]? := by
    intro j h1 h2 h3
    rw [← hN, List.getElem?_set_ne (Ne.symm h2), List.getElem?_set_ne (Ne.symm h3), List.getElem?_set_ne (Ne.symm h1)]
  clear hN
  have sN : ∀ {i g own x}, slot N i g = some (own, x) → i ≠ iv := by
    intro i g own x h e; subst e; unfold slot at h; rw [gk] at h; cases h
  have oN : ∀ {i g x}, slot N i g = some (true, x) → i ≠ iu := by
    intro i g x h e; subst e; unfold slot at h; rw [gu] at h
    simp only [slotO] at h; split at h <;> cases h
  refine ⟨by omega, ?_, ?_, ?_, ?_, ?_⟩
  · intro i g
    by_cases e : i = iu ∧ m ≤ g ∧ g < m + p
    · obtain ⟨rfl, e1, _⟩ := e
      exact .inr ⟨.inr (.inr ⟨false, _, f, hu, e1⟩), by omega⟩
    · exact .inl (phiM_ne e)
  · intro i g own x h
    have hik := sN h
    by_cases eu : i = iu
    · subst eu
      unfold slot at h
      rw [gu] at h
      simp only [slotO] at h
      split at h
      · rename_i hgm
        injection h with h; injection h with e1 e2
        subst e1; subst e2
        by_cases e : m ≤ g
        · obtain ⟨j, rfl⟩ : ∃ j, g = m + j := ⟨g - m, by omega⟩
          have hj : j < p := by omega
          rw [phiM_eq hj]
          refine ⟨ow, fv j, ?_, fun h => (by cases h), .inl (hm j hj)⟩
          unfold slot; rw [hk]; simp only [slotO, if_pos hj]
        · rw [phiM_ne (by omega)]
          refine ⟨false, f g, ?_, id, .inl (hf g (by omega))⟩
          unfold slot; rw [hu]; simp only [slotO, if_pos (show g < m by omega)]
      · cases h
    · rw [phiM_ne (by omega)]
      by_cases eo : i = o
      · subst eo
        unfold slot at h
        rw [gO] at h
        simp only [slotO] at h
        split at h
        · rename_i hgg
          subst hgg
          injection h with h; injection h with e1 e2
          subst e1; subst e2
          refine ⟨true, _, slot_one ho, id, .inr ⟨rfl, rfl, Nat.le_refl _, ?_, fun h => h⟩⟩
          intro k' v hv
          simp only [Cont.at] at hv ⊢
          split at hv
          · rename_i hlt
            rw [if_pos hlt]
            have hr : k' / sz < n := Nat.div_lt_of_lt_mul (by rw [Nat.mul_comm]; exact hlt)
            rw [← hg _ hr]
            have : ∀ (l : List AV) (j : Nat) (v : AV), l[j]? = some v → (AV.rml (phiM iu m p iv) l)[j]? = some (v.rm (phiM iu m p iv)) := by
              intro l
              induction l with
              | nil => intro j v h; simp at h
              | cons a l ih =>
                intro j v h
                cases j with
                | zero => simp at h; subst h; simp [AV.rml]
                | succ j => simp only [AV.rml, List.getElem?_cons_succ] at h ⊢; exact ih j v h
            exact this _ _ _ hv
          · cases hv
        · cases h
      · unfold slot at h
        rw [gr i eu hik eo] at h
        exact ⟨own, x, h, id, .inl rfl⟩
  · intro i g x i' g' own' x' h h' he
    have e1 := oN h
    have e2 := sN h
    rw [phiM_ne (by omega)] at he
    by_cases e : i' = iu ∧ m ≤ g' ∧ g' < m + p
    · obtain ⟨rfl, e3, e4⟩ := e
      obtain ⟨j, rfl⟩ : ∃ j, g' = m + j := ⟨g' - m, by omega⟩
      rw [phiM_eq (by omega)] at he
      simp only [Prod.mk.injEq] at he
      exact absurd he.1 e2
    · rw [phiM_ne e] at he
      simpa using he
  · intro i own g x h g' hg'
    have hik : i ≠ iv := by intro e; subst e; rw [gk] at h; cases h
    have eu : i ≠ iu := by intro e; subst e; rw [gu] at h; cases h
    refine ⟨phiM_ne (by omega), ?_⟩
    by_cases eo : i = o
    · subst eo
      rw [gO] at h; injection h with h; injection h with a b
      subst b
      exact .inr (.inl ⟨true, _, _, ho, hg'⟩)
    · rw [gr i eu hik eo] at h
      exact .inr (.inl ⟨own, g, x, h, hg'⟩)
  · intro i own m' x h g' hg'
    have hik : i ≠ iv := by intro e; subst e; rw [gk] at h; cases h
    have eo : i ≠ o := by intro e; subst e; rw [gO] at h; cases h
    by_cases eu : i = iu
    · subst eu
      rw [gu] at h; injection h with h; injection h with a b
      subst b
      exact ⟨phiM_ne (by omega), .inr (.inr ⟨false, m, f, hu, by omega⟩)⟩
    · refine ⟨phiM_ne (by omega), ?_⟩
      rw [gr i eu hik eo] at h
      exact .inr (.inr ⟨own, m', x, h, hg'⟩)
theorem Vw.merge {M : AH} {iu iv o m p go sz n c : Nat} {ow : Bool} {f fv : Nat → Cont} {get : Nat → List AV} {l l' : List AV} (f' : Nat → Cont) (get' : Nat → List AV) (hu : M[iu]? = some (.fam false m f)) (hk : M[iv]? = some (.fam ow p fv)) (ho : M[o]? = some (.one true go (.tab sz n get c)))
    (nuk : Nat.beq iu iv = false) (hf : ∀ r, r < m → f' r = f r) (hm : ∀ r, r < p → f' (m + r) = fv r) (hg : ∀ r, r < n → AV.rml (phiM iu m p iv) (get' r) = get r) (hl : AV.rml (phiM iu m p iv) l' = l) :
    Vw M (((M.set iu (.fam false (m + p) f')).set o (.one true go (.tab sz n get' c))).set iv .gone) l l' := Vw.name (mergeN hu hk ho nuk hf hm hg) hl
end Go.Proofs.Ytdnmbmnfglbfoaa
