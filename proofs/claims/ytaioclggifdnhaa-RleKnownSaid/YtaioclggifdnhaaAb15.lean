/- A call's contract on a small heap, used in a large one: the proof. -/
import Derived.Test.YtaioclggifdnhaaAb14
set_option linter.unusedVariables false
set_option linter.unusedSimpArgs false
open Go.RowKit
namespace Go.Proofs.Ytaioclggifdnhaa

structure EnvR (t : List TE) (m : Nat) (ρ' ρc : Env) : Prop where
  out : ∀ j g l, ρ' j g = some l → ∃ l0, ρc (rnI t m j) (rnG t j g) = some l0 ∧ l = l0.map (fun q => (q.1, q.2 + rnF t j 0))
theorem rnF_add (t : List TE) (j off : Nat) : rnF t j off = rnF t j 0 + off := by
  unfold rnF; split <;> omega

mutual
theorem rn_c {t : List TE} {m : Nat} {ρ' ρc : Env} (h : EnvR t m ρ' ρc) : ∀ v : AV, v.ok ρ' → (v.rn t m).ok ρc ∧ (v.rn t m).c ρc = v.c ρ'
  | .ptr i g off => fun hok => by
    simp only [AV.ok] at hok
    obtain ⟨l, hl⟩ := Option.isSome_iff_exists.1 hok
    obtain ⟨l0, h1, rfl⟩ := h.out i g l hl
    refine ⟨by simp [AV.rn, AV.ok, h1], ?_⟩
    simp only [AV.rn, AV.c, h1, hl]
    cases l0 with
    | none => rfl
    | some q => simp only [Option.map_some, rnF_add t i off]; congr 2; congr 1; omega
  | .pel i g sz j off => fun hok => by
    simp only [AV.ok] at hok
    obtain ⟨l, hl⟩ := Option.isSome_iff_exists.1 hok
    obtain ⟨l0, h1, rfl⟩ := h.out i g l hl
    refine ⟨by simp [AV.rn, AV.ok, h1], ?_⟩
    simp only [AV.rn, AV.c, h1, hl]
    cases l0 with
    | none => rfl
    | some q => simp only [Option.map_some, rnF_add t i off]; congr 2; congr 1; omega
  | .sl i g off n c => fun hok => by
    simp only [AV.ok] at hok
    obtain ⟨l, hl⟩ := Option.isSome_iff_exists.1 hok
    obtain ⟨l0, h1, rfl⟩ := h.out i g l hl
    refine ⟨by simp [AV.rn, AV.ok, h1], ?_⟩
    simp only [AV.rn, AV.c, h1, hl]
    cases l0 with
    | none => rfl
    | some q => simp only [Option.map_some, rnF_add t i off]; congr 2; congr 1; omega
  | .mp i g => fun hok => by
    simp only [AV.ok] at hok
    obtain ⟨l, hl⟩ := Option.isSome_iff_exists.1 hok
    obtain ⟨l0, h1, rfl⟩ := h.out i g l hl
    refine ⟨by simp [AV.rn, AV.ok, h1], ?_⟩
    simp only [AV.rn, AV.c, h1, hl]
    cases l0 with
    | none => rfl
    | some q => rfl
  | .fn q a b => fun hok => by
    simp only [AV.ok] at hok
    obtain ⟨a1, a2⟩ := rnl_c h a hok.1
    obtain ⟨b1, b2⟩ := rnl_c h b hok.2
    exact ⟨⟨a1, b1⟩, by simp only [AV.rn, AV.c, a2, b2]⟩
  | .ifc ty v => fun hok => by
    simp only [AV.ok] at hok
    obtain ⟨a1, a2⟩ := rn_c h v hok
    exact ⟨a1, by simp only [AV.rn, AV.c, a2]⟩
  | .agg l => fun hok => by
    simp only [AV.ok] at hok
    obtain ⟨a1, a2⟩ := rnl_c h l hok
    exact ⟨a1, by simp only [AV.rn, AV.c, a2]⟩
  | .tup l => fun hok => by
    simp only [AV.ok] at hok
    obtain ⟨a1, a2⟩ := rnl_c h l hok
    exact ⟨a1, by simp only [AV.rn, AV.c, a2]⟩
  | .bo _ => fun _ => ⟨trivial, rfl⟩ | .tt => fun _ => ⟨trivial, rfl⟩ | .ff => fun _ => ⟨trivial, rfl⟩ | .int _ _ => fun _ => ⟨trivial, rfl⟩ | .str _ => fun _ => ⟨trivial, rfl⟩
  | .np => fun _ => ⟨trivial, rfl⟩ | .ns => fun _ => ⟨trivial, rfl⟩ | .nf => fun _ => ⟨trivial, rfl⟩ | .ni => fun _ => ⟨trivial, rfl⟩ | .nm => fun _ => ⟨trivial, rfl⟩ | .raw _ => fun _ => ⟨trivial, rfl⟩
theorem rnl_c {t : List TE} {m : Nat} {ρ' ρc : Env} (h : EnvR t m ρ' ρc) : ∀ l : List AV, AV.okl ρ' l → AV.okl ρc (AV.rnl t m l) ∧ AV.cl ρc (AV.rnl t m l) = AV.cl ρ' l
  | [] => fun _ => ⟨trivial, rfl⟩
  | v :: l => fun hok => by
    simp only [AV.okl] at hok
    obtain ⟨a1, a2⟩ := rn_c h v hok.1
    obtain ⟨b1, b2⟩ := rnl_c h l hok.2
    exact ⟨⟨a1, b1⟩, by simp only [AV.rnl, AV.cl, a2, b2]⟩
end

/-- The callee's windows have the tag 0. -/
def w0T (t : List TE) (j g : Nat) : Bool :=
  match t[j]? with
  | some (.win _ _ _) => Nat.beq g 0
  | some _ => true
  | none => false
mutual
def AV.w0 (t : List TE) : AV → Bool
  | .ptr i g _ => w0T t i g
  | .pel i g _ _ _ => w0T t i g
  | .sl i g _ _ _ => w0T t i g
  | .mp i g => w0T t i g
  | .fn _ a b => AV.w0l t a && AV.w0l t b
  | .ifc _ v => v.w0 t
  | .agg l => AV.w0l t l
  | .tup l => AV.w0l t l
  | .raw _ => true | .bo _ => true | .tt => true | .ff => true | .int _ _ => true | .str _ => true | .np => true | .ns => true | .nf => true | .ni => true | .nm => true
def AV.w0l (t : List TE) : List AV → Bool
  | [] => true
  | v :: l => v.w0 t && AV.w0l t l
end
theorem envC_some {t : List TE} {m : Nat} {ρ : Env} {j g : Nat} (hw : w0T t j g = true) (h : (ρ (rnI t m j) (rnG t j g)).isSome = true) : (envC t ρ j g).isSome = true := by
  unfold w0T at hw
  unfold rnI rnG at h
  unfold envC
  cases ht : t[j]? with
  | none => rw [ht] at hw; cases hw
  | some e =>
    rw [ht] at hw h
    cases e with
    | own i => exact h
    | sha i => exact h
    | win i g' off =>
      have : g = 0 := Nat.eq_of_beq_eq_true hw
      simp only [this, if_true]
      simpa [TE.i] using h
mutual
theorem ok_back {t : List TE} {m : Nat} {ρ : Env} : ∀ v : AV, v.w0 t = true → (v.rn t m).ok ρ → v.ok (envC t ρ)
  | .ptr i g _ => fun hw h => by simp only [AV.w0] at hw; simp only [AV.rn, AV.ok] at h ⊢; exact envC_some hw h
  | .pel i g _ _ _ => fun hw h => by simp only [AV.w0] at hw; simp only [AV.rn, AV.ok] at h ⊢; exact envC_some hw h
  | .sl i g _ _ _ => fun hw h => by simp only [AV.w0] at hw; simp only [AV.rn, AV.ok] at h ⊢; exact envC_some hw h
  | .mp i g => fun hw h => by simp only [AV.w0] at hw; simp only [AV.rn, AV.ok] at h ⊢; exact envC_some hw h
  | .fn _ a b => fun hw h => by
    simp only [AV.w0, Bool.and_eq_true] at hw; simp only [AV.rn, AV.ok] at h ⊢
    exact ⟨okl_back a hw.1 h.1, okl_back b hw.2 h.2⟩
  | .ifc _ v => fun hw h => by simp only [AV.w0] at hw; simp only [AV.rn, AV.ok] at h ⊢; exact ok_back v hw h
  | .agg l => fun hw h => by simp only [AV.w0] at hw; simp only [AV.rn, AV.ok] at h ⊢; exact okl_back l hw h
  | .tup l => fun hw h => by simp only [AV.w0] at hw; simp only [AV.rn, AV.ok] at h ⊢; exact okl_back l hw h
  | .bo _ => fun _ _ => trivial | .tt => fun _ _ => trivial | .ff => fun _ _ => trivial | .int _ _ => fun _ _ => trivial | .str _ => fun _ _ => trivial
  | .np => fun _ _ => trivial | .ns => fun _ _ => trivial | .nf => fun _ _ => trivial | .ni => fun _ _ => trivial | .nm => fun _ _ => trivial | .raw _ => fun _ _ => trivial
theorem okl_back {t : List TE} {m : Nat} {ρ : Env} : ∀ l : List AV, AV.w0l t l = true → AV.okl ρ (AV.rnl t m l) → AV.okl (envC t ρ) l
  | [] => fun _ _ => trivial
  | v :: l => fun hw h => by
    simp only [AV.w0l, Bool.and_eq_true] at hw; simp only [AV.rnl, AV.okl] at h ⊢
    exact ⟨ok_back v hw.1 h.1, okl_back l hw.2 h.2⟩
end

theorem envC_R {t : List TE} {m : Nat} {ρ : Env} : EnvR t m (envC t ρ) ρ := by
  constructor
  intro j g l hl
  unfold envC at hl
  unfold rnI rnG rnF
  cases ht : t[j]? with
  | none => rw [ht] at hl; cases hl
  | some e =>
    rw [ht] at hl
    cases e with
    | own i => exact ⟨l, hl, by cases l <;> rfl⟩
    | sha i => exact ⟨l, hl, by cases l <;> rfl⟩
    | win i g' off =>
      simp only at hl
      split at hl
      · rw [Option.map_eq_some_iff] at hl
        obtain ⟨l0, h1, h2⟩ := hl
        exact ⟨l0, h1, h2.symm⟩
      · cases hl

section
variable {t : List TE} {Mc M : AH} {ρ : Env} {w : World}

theorem slot_get {M : AH} {i g : Nat} {own : Bool} {x : Cont} (h : slot M i g = some (own, x)) : ∃ o, M[i]? = some o ∧ slotO o g = some (own, x) := by
  unfold slot at h
  cases ho : M[i]? with
  | none => rw [ho] at h; cases h
  | some o => rw [ho] at h; exact ⟨o, rfl, h⟩
theorem slot_mk {M : AH} {i g : Nat} {o : AO} {y : Option (Bool × Cont)} (h1 : M[i]? = some o) (h2 : slotO o g = y) : slot M i g = y := by
  unfold slot; rw [h1]; exact h2

/-- Every slot of the callee's lies in one of the caller's. -/
theorem callee_slot (hfit : fitH t Mc.length Mc t M) {j g : Nat} {own : Bool} {x : Cont} (hs : slot M j g = some (own, x)) :
    (∃ i, t[j]? = some (.own i) ∧ slot Mc i g = some (own, x.rn t Mc.length) ∧ own = true) ∨
    (∃ i own' , t[j]? = some (.sha i) ∧ slot Mc i g = some (own', x.rn t Mc.length) ∧ own = false) ∨
    (∃ i g' off own' xc, t[j]? = some (.win i g' off) ∧ g = 0 ∧ slot Mc i g' = some (own', xc) ∧ WinC t Mc.length off x xc ∧ own = false) := by
  obtain ⟨hl, hget⟩ := fitH_get hfit
  obtain ⟨o, ho, hso⟩ := slot_get hs
  have hj : j < t.length := by rw [hl]; exact (List.getElem?_eq_some_iff.1 ho).1
  obtain ⟨e, he⟩ : ∃ e, t[j]? = some e := ⟨_, List.getElem?_eq_getElem hj⟩
  have := hget j e o he ho
  cases e with
  | own i =>
    refine .inl ⟨i, he, ?_, slot_okOwn this.2 hso⟩
    exact slot_mk this.1 (by rw [slot_rn, hso]; rfl)
  | sha i =>
    obtain ⟨_, o', h1, h2⟩ := this
    have h3 : slotO (o.rn t Mc.length) g = slotO o'.ro g := by rw [h2]
    rw [slot_rn, slot_ro, hso] at h3
    cases hh : slotO o' g with
    | none => rw [hh] at h3; cases h3
    | some y =>
      rw [hh] at h3
      simp only [Option.map_some, Option.some.injEq, Prod.mk.injEq] at h3
      obtain ⟨own', xc⟩ := y
      refine .inr (.inl ⟨i, own', he, slot_mk h1 ?_, h3.1⟩)
      rw [hh, h3.2]
  | win i g' off =>
    obtain ⟨x0, own', xc, rfl, h2, h3⟩ := this
    simp only [slotO] at hso
    split at hso
    · injection hso with hso; injection hso with a b; subst a; subst b
      exact .inr (.inr ⟨i, g', off, own', xc, he, ‹_›, h2, h3, rfl⟩)
    · cases hso

theorem callee_own (hfit : fitH t Mc.length Mc t M) {j g : Nat} {x : Cont} {q : Nat × Nat} (hs : slot M j g = some (true, x)) (hq : envC t ρ j g = some (some q)) :
    ∃ i, t[j]? = some (.own i) ∧ slot Mc i g = some (true, x.rn t Mc.length) ∧ ρ i g = some (some q) := by
  rcases callee_slot hfit hs with ⟨i, h1, h2, _⟩ | ⟨_, _, _, _, h⟩ | ⟨_, _, _, _, _, _, _, _, _, h⟩
  · unfold envC at hq; rw [h1] at hq; exact ⟨i, h1, h2, hq⟩
  · cases h
  · cases h

def Cont.w0 (t : List TE) : Cont → Prop
  | .cells cs => AV.w0l t cs = true
  | .ints _ _ _ => True
  | .bools _ _ => True
  | .tab _ n get _ => ∀ j, AV.w0l t (get j) = true
  | .map _ es => ∀ p ∈ es, p.2.w0 t = true
  | .loop _ _ _ _ _ a _ _ _ _ => ∀ j, (a j).w0 t = true
def AO.w0 (t : List TE) : AO → Prop
  | .gone => True
  | .one _ _ x => x.w0 t
  | .fam _ _ x => ∀ g, (x g).w0 t
def w0H (t : List TE) : AH → Prop
  | [] => True
  | o :: M => o.w0 t ∧ w0H t M
theorem w0l_get {t : List TE} : ∀ {l : List AV}, AV.w0l t l = true → ∀ v ∈ l, v.w0 t = true
  | [], _, v, hv => by cases hv
  | u :: l, h, v, hv => by
    simp only [AV.w0l, Bool.and_eq_true] at h
    rcases List.mem_cons.1 hv with rfl | hv
    · exact h.1
    · exact w0l_get h.2 v hv
theorem Cont.w0_at {t : List TE} {x : Cont} (h : x.w0 t) {j : Nat} {v : AV} (hv : x.at j = some v) : v.w0 t = true := by
  cases x with
  | cells cs => exact w0l_get h v (List.mem_of_getElem? hv)
  | ints kk xs c => simp only [Cont.at, Option.map_eq_some_iff] at hv; obtain ⟨z, _, rfl⟩ := hv; rfl
  | bools xs c => simp only [Cont.at, Option.map_eq_some_iff] at hv; obtain ⟨z, _, rfl⟩ := hv; rfl
  | tab sz n get c =>
    simp only [Cont.at] at hv
    split at hv
    · exact w0l_get (h _) v (List.mem_of_getElem? hv)
    · cases hv
  | map _ _ => simp [Cont.at] at hv
  | loop _ _ _ _ _ _ _ _ _ _ => simp [Cont.at] at hv
theorem w0H_get {t : List TE} : ∀ {M : AH}, w0H t M → ∀ {i : Nat} {o : AO}, M[i]? = some o → o.w0 t
  | [], _, i, o, h => by simp at h
  | p :: M, hn, 0, o, h => by simp at h; subst h; exact hn.1
  | p :: M, hn, i + 1, o, h => w0H_get hn.2 (by simpa using h)
theorem slot_w0 {t : List TE} {M : AH} (h : w0H t M) {i g : Nat} {own : Bool} {x : Cont} (hs : slot M i g = some (own, x)) : x.w0 t := by
  obtain ⟨o, ho, hso⟩ := slot_get hs
  have := w0H_get h ho
  cases o with
  | gone => cases hso
  | one own' g' x' =>
    simp only [slotO] at hso
    split at hso
    · injection hso with hso; injection hso with h1 h2; subst h2; exact this
    · cases hso
  | fam own' m x' =>
    simp only [slotO] at hso
    split at hso
    · injection hso with hso; injection hso with h1 h2; subst h2; exact this g
    · cases hso

theorem callee_sim (hs : Sim ρ Mc w) (hap : apartT t = true) (hfit : fitH t Mc.length Mc t M) (hw0 : w0H t M) : Sim (envC t ρ) M w := by
  obtain ⟨hl, hget⟩ := fitH_get hfit
  have hR : EnvR t Mc.length (envC t ρ) ρ := envC_R
  have hent : ∀ j g, (envC t ρ j g).isSome = true → ∃ e, t[j]? = some e := by
    intro j g h
    unfold envC at h
    cases ht : t[j]? with
    | none => rw [ht] at h; cases h
    | some e => exact ⟨e, rfl⟩
  refine ⟨?_, ?_, ?_, ?_, ?_⟩
  · intro j g h
    obtain ⟨e, he⟩ := hent j g h
    rw [← hl]; exact (List.getElem?_eq_some_iff.1 he).1
  · intro j g own g' x hm h
    obtain ⟨e, he⟩ := hent j g h
    have := hget j e _ he hm
    unfold envC at h
    rw [he] at h
    cases e with
    | own i => exact hs.tag i g own g' _ this.1 h
    | sha i =>
      obtain ⟨_, o', h1, h2⟩ := this
      cases o' with
      | gone => cases h2
      | one own2 g2 x2 => injection h2 with _ e2 _; subst e2; exact hs.tag i g own2 _ x2 h1 h
      | fam _ _ _ => cases h2
    | win i g2 off =>
      obtain ⟨x0, own2, xc, e0, _, _⟩ := this
      injection e0 with _ e1 _
      simp only at h
      split at h
      · omega
      · cases h
  · intro j g own n x hm h
    obtain ⟨e, he⟩ := hent j g h
    have := hget j e _ he hm
    unfold envC at h
    rw [he] at h
    cases e with
    | own i => exact hs.fam i g own n _ this.1 h
    | sha i =>
      obtain ⟨_, o', h1, h2⟩ := this
      cases o' with
      | gone => cases h2
      | one own2 g2 x2 => cases h2
      | fam own2 n2 x2 => injection h2 with _ e2 _; subst e2; exact hs.fam i g own2 _ x2 h1 h
    | win i g2 off =>
      obtain ⟨x0, own2, xc, e0, _, _⟩ := this
      cases e0
  · intro j g own x hsl
    have hxw := slot_w0 hw0 hsl
    have spc : ∀ (own' : Bool) (b base : Nat), Holds ρ own' (x.rn t Mc.length) b base w → x.row = false → Holds (envC t ρ) own x b base w := by
      intro own' b base hh hx
      rcases hh.all with ⟨h0, _⟩ | ⟨_, hb, hs⟩
      · rw [Cont.rn_row, hx] at h0; cases h0
      · refine ⟨.inr ⟨hx, hb, ?_⟩⟩
        cases x with
        | map kk es =>
          obtain ⟨ents, clock, h1, h2, h3, h4, h5⟩ := hs
          have hok : ∀ p ∈ es, p.2.ok (envC t ρ) := fun p hp => ok_back p.2 (hxw p hp) (h3 (p.1, p.2.rn t Mc.length) (List.mem_map_of_mem hp))
          refine ⟨ents, clock, h1, ?_, hok, h4, h5⟩
          rw [h2, List.map_map]
          exact List.map_congr_left fun p hp => by show (Value.int kk p.1, (p.2.rn t Mc.length).c ρ) = _; rw [(rn_c hR p.2 (hok p hp)).2]
        | loop l st pd fn n a ps as bd df =>
          obtain ⟨h1, tmps, h2, h3, h4⟩ := hs
          have hok : ∀ j, (a j).ok (envC t ρ) := fun j => ok_back (a j) (hxw j) (h4 j).1
          exact ⟨h1, tmps, h2, h3, fun j => ⟨hok j, by rw [(h4 j).2, (rn_c hR (a j) (hok j)).2]⟩⟩
        | cells _ => exact hs.elim
        | ints _ _ _ => exact hs.elim
        | bools _ _ => exact hs.elim
        | tab _ _ _ _ => exact hs.elim
    have back : ∀ (own' : Bool) (xc : Cont) (b base off : Nat), x.row = true → xc.row = true → Holds ρ own' xc b base w → (∀ k v, x.at k = some v → xc.at (off + k) = some (v.rn t Mc.length)) → off + x.size ≤ xc.size → (own = true → own' = true) → Holds (envC t ρ) own x b (base + off) w := by
      intro own' xc b base off hxr hxc hh hat hsz hown
      obtain ⟨c, e, fr, k1, k2, k3, k4⟩ := hh.out hxc
      refine .mk' hxr ⟨c, e, fr, k1, by omega, fun k v hv => ?_, fun h => k4 (hown h)⟩
      have h1 := k3 _ _ (hat k v hv)
      have h2 := ok_back v (Cont.w0_at hxw hv) h1.1
      rw [Nat.add_assoc]
      exact ⟨h2, by rw [← (rn_c hR v h2).2]; exact h1.2⟩
    rcases callee_slot hfit hsl with ⟨i, h1, h2, h3⟩ | ⟨i, own', h1, h2, h3⟩ | ⟨i, g', off, own', xc, h1, h0, h2, h3, h4⟩
    · have he : envC t ρ j g = ρ i g := by unfold envC; rw [h1]
      rcases hs.holds i g _ _ h2 with ⟨q, e1, e2⟩ | ⟨e1, e2⟩
      · exact .inl ⟨q, by rw [he]; exact e1, if hx : x.row = true then back own _ q.1 q.2 0 hx (by rw [Cont.rn_row]; exact hx) e2 (fun k v hv => by rw [Nat.zero_add, Cont.rn_at, hv]; rfl) (by rw [Cont.rn_size]; omega) (fun h => h) else spc own _ _ e2 (by simpa using hx)⟩
      · exact .inr ⟨by rw [he]; exact e1, by cases x <;> exact e2⟩
    · have he : envC t ρ j g = ρ i g := by unfold envC; rw [h1]
      rcases hs.holds i g _ _ h2 with ⟨q, e1, e2⟩ | ⟨e1, e2⟩
      · exact .inl ⟨q, by rw [he]; exact e1, if hx : x.row = true then back own' _ q.1 q.2 0 hx (by rw [Cont.rn_row]; exact hx) e2 (fun k v hv => by rw [Nat.zero_add, Cont.rn_at, hv]; rfl) (by rw [Cont.rn_size]; omega) (fun h => by rw [h3] at h; cases h) else spc own' _ _ e2 (by simpa using hx)⟩
      · exact .inr ⟨by rw [he]; exact e1, by cases x <;> exact e2⟩
    · have he : envC t ρ j g = (ρ i g').map (fun l => l.map (fun q => (q.1, q.2 + off))) := by unfold envC; rw [h1]; simp [h0]
      rcases hs.holds i g' _ _ h2 with ⟨q, e1, e2⟩ | ⟨e1, e2⟩
      · exact .inl ⟨(q.1, q.2 + off), by rw [he, e1]; rfl, back own' _ q.1 q.2 off h3.2.2.2.1 h3.2.2.2.2 e2 h3.2.1 h3.1 (fun h => by rw [h4] at h; cases h)⟩
      · exact .inr ⟨by rw [he, e1]; rfl, h3.2.2.1 e2⟩
  · intro j g x j' g' own' x' q q' hs1 hs2 hq hq' hqq
    obtain ⟨i, a1, a2, a3⟩ := callee_own hfit hs1 hq
    rcases callee_slot hfit hs2 with ⟨i', h1, h2, h3⟩ | ⟨i', own2, h1, h2, h3⟩ | ⟨i', g2, off, own2, xc, h1, h0, h2, h3, h4⟩
    · have he : ρ i' g' = some (some q') := by unfold envC at hq'; rw [h1] at hq'; exact hq'
      obtain ⟨e1, e2⟩ := hs.apart i g _ i' g' _ _ q q' a2 h2 a3 he hqq
      exact ⟨apartT_get hap a1 h1 (.inl rfl) e1, e2⟩
    · have he : ρ i' g' = some (some q') := by unfold envC at hq'; rw [h1] at hq'; exact hq'
      obtain ⟨e1, e2⟩ := hs.apart i g _ i' g' _ _ q q' a2 h2 a3 he hqq
      exact ⟨apartT_get hap a1 h1 (.inl rfl) e1, e2⟩
    · exfalso
      unfold envC at hq'
      rw [h1] at hq'
      simp only [h0, if_true, Option.map_eq_some_iff] at hq'
      obtain ⟨l, hl1, hl2⟩ := hq'
      obtain ⟨q0, e0, e3⟩ := hl2
      subst e0
      obtain ⟨e1, e2⟩ := hs.apart i g _ i' g2 _ _ q q0 a2 h2 a3 hl1 (by rw [hqq, ← e3])
      have := apartT_get hap a1 h1 (.inl rfl) e1
      subst this
      rw [a1] at h1; cases h1
end
end Go.Proofs.Ytaioclggifdnhaa
