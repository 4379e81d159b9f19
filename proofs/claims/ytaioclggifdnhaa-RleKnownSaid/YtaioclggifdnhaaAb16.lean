/- A call's contract on a small heap, used in a large one: the join. -/
import Derived.Test.YtaioclggifdnhaaAb15
set_option linter.unusedVariables false
set_option linter.unusedSimpArgs false
open Go.RowKit
namespace Go.Proofs.Ytaioclggifdnhaa

def findOwn : List TE → Nat → Option Nat
  | [], _ => none
  | .own i :: t, k => if i = k then some 0 else (findOwn t k).map (· + 1)
  | _ :: t, k => (findOwn t k).map (· + 1)
theorem findOwn_some : ∀ {t : List TE} {k j : Nat}, findOwn t k = some j → t[j]? = some (.own k)
  | [], k, j, h => by cases h
  | .own i :: t, k, j, h => by
    simp only [findOwn] at h
    split at h
    · injection h with h; subst h; subst_vars; rfl
    · obtain ⟨j', h1, rfl⟩ := Option.map_eq_some_iff.1 h
      simpa using findOwn_some h1
  | .sha i :: t, k, j, h => by
    obtain ⟨j', h1, rfl⟩ := Option.map_eq_some_iff.1 h
    simpa using findOwn_some h1
  | .win i g off :: t, k, j, h => by
    obtain ⟨j', h1, rfl⟩ := Option.map_eq_some_iff.1 h
    simpa using findOwn_some h1
theorem findOwn_none : ∀ {t : List TE} {k : Nat}, findOwn t k = none → ∀ j : Nat, t[j]? ≠ some (TE.own k)
  | [], k, h, j => by simp
  | .own i :: t, k, h, j => by
    simp only [findOwn] at h
    split at h
    · cases h
    · have h' := Option.map_eq_none_iff.1 h
      cases j with
      | zero => simp only [List.getElem?_cons_zero]; intro e; injection e with e; injection e with e; exact ‹¬ _› e
      | succ j => simpa using findOwn_none h' j
  | .sha i :: t, k, h, j => by
    have h' := Option.map_eq_none_iff.1 h
    cases j with
    | zero => simp
    | succ j => simpa using findOwn_none h' j
  | .win i g off :: t, k, h, j => by
    have h' := Option.map_eq_none_iff.1 h
    cases j with
    | zero => simp
    | succ j => simpa using findOwn_none h' j

/-- The caller's environment behind the call. -/
def envB (t : List TE) (m : Nat) (ρ ρ2 : Env) : Env := fun i g =>
  match ρ i g with
  | some l => some l
  | none => if m ≤ i then ρ2 (t.length + (i - m)) g else match findOwn t i with
    | some j => ρ2 j g
    | none => none

set_option maxHeartbeats 1000000 in
theorem caller_sim {t : List TE} {Mc M M' : AH} {ρ ρ2 : Env} {w w' : World} (hs : Sim ρ Mc w) (hap : apartT t = true) (hfit : fitH t Mc.length Mc t M) (hkeep : keepH t M M')
    (hs2 : Sim ρ2 M' w') (hE : Ext (envC t ρ) M w ρ2 M' w') (hs1 : Sim (envC t ρ) M w) :
    EnvR t Mc.length ρ2 (envB t Mc.length ρ ρ2) ∧ Sim (envB t Mc.length ρ ρ2) (setH t Mc.length t M' Mc) w' ∧ Ext ρ Mc w (envB t Mc.length ρ ρ2) (setH t Mc.length t M' Mc) w' := by
  obtain ⟨hl, hget⟩ := fitH_get hfit
  obtain ⟨hlen, hkp⟩ := keepH_get hkeep
  have hold : ∀ i g l, ρ i g = some l → envB t Mc.length ρ ρ2 i g = some l := fun i g l h => by simp only [envB, h]
  have hown : ∀ i j : Nat, t[j]? = some (TE.own i) → i < Mc.length ∧ ∀ g, envB t Mc.length ρ ρ2 i g = ρ2 j g := by
    intro i j hj
    have hjl : j < M.length := by rw [← hl]; exact (List.getElem?_eq_some_iff.1 hj).1
    have hi : i < Mc.length := by
      have := hget j _ _ hj (List.getElem?_eq_getElem hjl)
      exact (List.getElem?_eq_some_iff.1 this.1).1
    refine ⟨hi, fun g => ?_⟩
    have hc : envC t ρ j g = ρ i g := by unfold envC; rw [hj]
    unfold envB
    cases hr : ρ i g with
    | some l => exact (hE.env j g l (by rw [hc, hr])).symm
    | none =>
      simp only
      rw [if_neg (by omega)]
      cases hf : findOwn t i with
      | none => exact absurd hj (findOwn_none hf j)
      | some j' => rw [apartT_get hap hj (findOwn_some hf) (.inl rfl) rfl]
  have hnew : ∀ k g, envB t Mc.length ρ ρ2 (Mc.length + k) g = ρ2 (t.length + k) g := by
    intro k g
    unfold envB
    cases hr : ρ (Mc.length + k) g with
    | some l => have := hs.dom (Mc.length + k) g (by rw [hr]; rfl); omega
    | none => simp only; rw [if_pos (by omega), show Mc.length + k - Mc.length = k from by omega]
  have hrest : ∀ i, i < Mc.length → (∀ j : Nat, t[j]? ≠ some (TE.own i)) → ∀ g, envB t Mc.length ρ ρ2 i g = ρ i g := by
    intro i hi hn g
    unfold envB
    cases hr : ρ i g with
    | some l => rfl
    | none =>
      simp only
      rw [if_neg (by omega)]
      cases hf : findOwn t i with
      | none => rfl
      | some j => exact absurd (findOwn_some hf) (hn j)
  have hR : EnvR t Mc.length ρ2 (envB t Mc.length ρ ρ2) := by
    constructor
    intro j g l hlj
    unfold rnI rnG rnF
    have hjM : j < M'.length := hs2.dom j g (by rw [hlj]; rfl)
    have hoM := List.getElem?_eq_getElem hjM
    have hk := hkp j _ hoM
    cases ht : t[j]? with
    | none =>
      have hjt : t.length ≤ j := by simpa using ht
      simp only
      refine ⟨l, ?_, by cases l <;> rfl⟩
      rw [hnew, show t.length + (j - t.length) = j from by omega]; exact hlj
    | some e =>
      rw [ht] at hk
      cases e with
      | own i => exact ⟨l, ((hown i j ht).2 g).trans hlj, by cases l <;> rfl⟩
      | sha i =>
        simp only at hk
        have h0 := (hget j _ _ ht hk).1
        have hsl : ∃ own x, slot M j g = some (own, x) := by
          unfold slot
          rw [hk]
          generalize M'[j] = o at *
          cases o with
          | gone => cases h0
          | one own g1 x =>
            have : g1 = 0 := Nat.eq_of_beq_eq_true h0
            have h2 := hs2.tag j g own g1 x hoM (by rw [hlj]; rfl)
            exact ⟨own, x, by simp only [slotO]; rw [if_pos (by omega)]⟩
          | fam own n x =>
            have h2 := hs2.fam j g own n x hoM (by rw [hlj]; rfl)
            exact ⟨own, x g, by simp only [slotO]; rw [if_pos h2]⟩
        obtain ⟨own, x, hsl⟩ := hsl
        have hc : envC t ρ j g = ρ i g := by unfold envC; rw [ht]
        have : ρ i g = some l := by
          rcases hs1.holds j g own x hsl with ⟨q, e1, _⟩ | ⟨e1, _⟩
          · have := hE.env j g _ e1; rw [hlj] at this; rw [← hc, e1, this]
          · have := hE.env j g _ e1; rw [hlj] at this; rw [← hc, e1, this]
        exact ⟨l, hold i g l this, by cases l <;> rfl⟩
      | win i g' off =>
        simp only at hk
        obtain ⟨x, own, xc, ho, h1, h2⟩ := hget j _ _ ht hk
        have hg : g = 0 := by
          have := hs2.tag j g false 0 x (by rw [hoM, ho]) (by rw [hlj]; rfl)
          omega
        subst hg
        have hsl : slot M j 0 = some (false, x) := slot_mk (o := M'[j]) hk (by rw [ho]; rfl)
        have hc : envC t ρ j 0 = (ρ i g').map (fun l => l.map (fun q => (q.1, q.2 + off))) := by unfold envC; rw [ht]; simp
        have : envC t ρ j 0 = some l := by
          rcases hs1.holds j 0 false x hsl with ⟨q, e1, _⟩ | ⟨e1, _⟩
          · have := hE.env j 0 _ e1; rw [hlj] at this; rw [e1, this]
          · have := hE.env j 0 _ e1; rw [hlj] at this; rw [e1, this]
        rw [hc, Option.map_eq_some_iff] at this
        obtain ⟨l0, e1, e2⟩ := this
        exact ⟨l0, hold i g' l0 e1, e2.symm⟩
  -- each name of the caller's
  have cls : ∀ i, (∃ j, rnI t Mc.length j = i ∧ (setH t Mc.length t M' Mc)[i]? = (M'[j]?).map (AO.rn t Mc.length) ∧ (∀ g, envB t Mc.length ρ ρ2 i g = ρ2 j g) ∧ ∀ o, M'[j]? = some o → o.okOwn = true) ∨
      (i < Mc.length ∧ (setH t Mc.length t M' Mc)[i]? = Mc[i]? ∧ (∀ g, envB t Mc.length ρ ρ2 i g = ρ i g) ∧ ∀ j : Nat, t[j]? ≠ some (TE.own i)) := by
    intro i
    by_cases hi : i < Mc.length
    · cases hf : findOwn t i with
      | some j =>
        have hj := findOwn_some hf
        refine .inl ⟨j, by unfold rnI; rw [hj]; rfl, setH_own t Mc.length t M' Mc i j hi hlen hap hj, (hown i j hj).2, fun o ho => ?_⟩
        have := hkp j o ho
        rw [hj] at this; exact this
      | none =>
        have hn := findOwn_none hf
        exact .inr ⟨hi, setH_old t Mc.length t M' Mc i hi hlen hn, hrest i hi hn, hn⟩
    · obtain ⟨k, rfl⟩ : ∃ k, i = Mc.length + k := ⟨i - Mc.length, by omega⟩
      have ht : t[t.length + k]? = none := by simp
      refine .inl ⟨t.length + k, by unfold rnI; rw [ht]; simp only; omega, setH_new t Mc.length t M' Mc k hlen, hnew k, fun o ho => ?_⟩
      have := hkp (t.length + k) o ho
      rw [ht] at this; exact this
  have likeSlot : ∀ {i j g : Nat} {own : Bool} {x : Cont}, (setH t Mc.length t M' Mc)[i]? = (M'[j]?).map (AO.rn t Mc.length) → (∀ o, M'[j]? = some o → o.okOwn = true) → slot (setH t Mc.length t M' Mc) i g = some (own, x) → ∃ x', slot M' j g = some (true, x') ∧ x = x'.rn t Mc.length ∧ own = true := by
    intro i j g own x h1 h2 hsl
    obtain ⟨o, ho, hso⟩ := slot_get hsl
    rw [h1, Option.map_eq_some_iff] at ho
    obtain ⟨o', ho', rfl⟩ := ho
    rw [slot_rn, Option.map_eq_some_iff] at hso
    obtain ⟨⟨own', x'⟩, e1, e2⟩ := hso
    have := slot_okOwn (h2 o' ho') e1
    subst this
    injection e2 with e2 e3
    exact ⟨x', slot_mk ho' e1, e3.symm, e2.symm⟩
  have restSlot : ∀ {i g : Nat} {own : Bool} {x : Cont}, (setH t Mc.length t M' Mc)[i]? = Mc[i]? → slot (setH t Mc.length t M' Mc) i g = some (own, x) → slot Mc i g = some (own, x) := by
    intro i g own x h1 hsl
    unfold slot at hsl ⊢
    rw [h1] at hsl; exact hsl
  have holdsOf : ∀ i g own x q, slot Mc i g = some (own, x) → ρ i g = some (some q) → Holds ρ own x q.1 q.2 w := by
    intro i g own x q h1 h2
    rcases hs.holds i g own x h1 with ⟨q', e1, e2⟩ | ⟨e1, _⟩
    · rw [h2] at e1; injection e1 with e1; injection e1 with e1; subst e1; exact e2
    · rw [h2] at e1; cases e1
  have likeOwn : ∀ {j g : Nat} {x : Cont} {q : Nat × Nat}, slot M' j g = some (true, x) → ρ2 j g = some (some q) → q.1 < w.heap.size → ∃ (j0 i0 g0 : Nat) (x0 : Cont) (q0 : Nat × Nat), t[j0]? = some (TE.own i0) ∧ slot Mc i0 g0 = some (true, x0) ∧ ρ i0 g0 = some (some q0) ∧ q0.1 = q.1 := by
    intro j g x q h1 h2 h3
    obtain ⟨j0, g0, x0, q0, a1, a2, a3⟩ := hE.fresh j g x q h1 h2 h3
    obtain ⟨i0, b1, b2, b3⟩ := callee_own hfit a1 a2
    exact ⟨j0, i0, g0, _, q0, b1, b2, b3, a3⟩
  have frame : ∀ i g own x q, (∀ j : Nat, t[j]? ≠ some (TE.own i)) → slot Mc i g = some (own, x) → ρ i g = some (some q) → w'.heap[q.1]? = w.heap[q.1]? := by
    intro i g own x q hn h1 h2
    refine hE.frame q.1 (holdsOf i g own x q h1 h2).lt fun j0 g0 x0 q0 a1 a2 he => ?_
    obtain ⟨i0, b1, b2, b3⟩ := callee_own hfit a1 a2
    have := (hs.apart i0 g0 _ i g own x q0 q b2 h1 b3 h2 he).1
    subst this
    exact hn j0 b1
  refine ⟨hR, ⟨?_, ?_, ?_, ?_, ?_⟩, ⟨hold, hE.size, ?_, ?_, hE.os, hE.tape, hE.output⟩⟩
  · intro i g h
    rcases cls i with ⟨j, h0, h1, h2, h3⟩ | ⟨h0, h1, h2, h3⟩
    · rw [h2] at h
      have hj := hs2.dom j g h
      rw [List.getElem?_eq_getElem hj] at h1
      exact (List.getElem?_eq_some_iff.1 h1).1
    · rw [setH_length _ _ _ _ _ hlen]; omega
  · intro i g own g' x hm h
    rcases cls i with ⟨j, h0, h1, h2, h3⟩ | ⟨h0, h1, h2, h3⟩
    · rw [h2] at h
      rw [h1, Option.map_eq_some_iff] at hm
      obtain ⟨o, ho, e⟩ := hm
      cases o with
      | gone => cases e
      | one own1 g1 x1 => injection e with _ e _; subst e; exact hs2.tag j g own1 _ x1 ho h
      | fam _ _ _ => cases e
    · rw [h1] at hm; rw [h2] at h; exact hs.tag i g own g' x hm h
  · intro i g own n x hm h
    rcases cls i with ⟨j, h0, h1, h2, h3⟩ | ⟨h0, h1, h2, h3⟩
    · rw [h2] at h
      rw [h1, Option.map_eq_some_iff] at hm
      obtain ⟨o, ho, e⟩ := hm
      cases o with
      | gone => cases e
      | one own1 g1 x1 => cases e
      | fam own1 n1 x1 => injection e with _ e _; subst e; exact hs2.fam j g own1 _ x1 ho h
    · rw [h1] at hm; rw [h2] at h; exact hs.fam i g own n x hm h
  · intro i g own x hsl
    rcases cls i with ⟨j, h0, h1, h2, h3⟩ | ⟨h0, h1, h2, h3⟩
    · obtain ⟨x', a1, rfl, rfl⟩ := likeSlot h1 h3 hsl
      rw [h2]
      rcases hs2.holds j g true x' a1 with ⟨q, e1, e2⟩ | ⟨e1, e2⟩
      · refine .inl ⟨q, e1, ?_⟩
        rcases e2.all with ⟨hx, c, e, fr, k1, k2, k3, k4⟩ | ⟨hx, hb, hs⟩
        · refine .mk' (by rw [Cont.rn_row]; exact hx) ⟨c, e, fr, k1, by rw [Cont.rn_size]; exact k2, fun k v hv => ?_, k4⟩
          rw [Cont.rn_at, Option.map_eq_some_iff] at hv
          obtain ⟨v', hv', rfl⟩ := hv
          have := k3 k v' hv'
          obtain ⟨c1, c2⟩ := rn_c hR v' this.1
          exact ⟨c1, by rw [c2]; exact this.2⟩
        · refine ⟨.inr ⟨by rw [Cont.rn_row]; exact hx, hb, ?_⟩⟩
          cases x' with
          | map kk es =>
            obtain ⟨ents, clock, h1, h2, h3, h4, h5⟩ := hs
            refine ⟨ents, clock, h1, ?_, fun p hp => ?_, h4, h5⟩
            · rw [h2, List.map_map]
              exact List.map_congr_left fun p hp => by show _ = (Value.int kk p.1, (p.2.rn t Mc.length).c _); rw [(rn_c hR p.2 (h3 p hp)).2]
            · obtain ⟨p', hp', rfl⟩ := List.mem_map.1 hp
              exact (rn_c hR p'.2 (h3 p' hp')).1
          | loop l st pd fn n a ps as bd df =>
            obtain ⟨h1, tmps, h2, h3, h4⟩ := hs
            exact ⟨h1, tmps, h2, h3, fun j => ⟨(rn_c hR (a j) (h4 j).1).1, by rw [(h4 j).2, (rn_c hR (a j) (h4 j).1).2]⟩⟩
          | cells _ => exact hs.elim
          | ints _ _ _ => exact hs.elim
          | bools _ _ => exact hs.elim
          | tab _ _ _ _ => exact hs.elim
      · exact .inr ⟨e1, Cont.rn_virt e2⟩
    · have hsl' := restSlot h1 hsl
      rw [h2]
      rcases hs.holds i g own x hsl' with ⟨q, e1, e2⟩ | e
      · exact .inl ⟨q, e1, e2.ext hold (frame i g own x q h3 hsl' e1)⟩
      · exact .inr e
  · intro i1 g1 x1 i2 g2 own2 x2 q1 q2 hsl1 hsl2 hq1 hq2 he
    rcases cls i1 with ⟨j1, a0, a1, a2, a3⟩ | ⟨a0, a1, a2, a3⟩ <;> rcases cls i2 with ⟨j2, b0, b1, b2, b3⟩ | ⟨b0, b1, b2, b3⟩
    · obtain ⟨y1, c1, c2, _⟩ := likeSlot a1 a3 hsl1
      obtain ⟨y2, d1, d2, _⟩ := likeSlot b1 b3 hsl2
      rw [a2] at hq1; rw [b2] at hq2
      obtain ⟨e1, e2⟩ := hs2.apart j1 g1 y1 j2 g2 _ y2 q1 q2 c1 d1 hq1 hq2 he
      exact ⟨by rw [← a0, ← b0, e1], e2⟩
    · exfalso
      obtain ⟨y1, c1, c2, _⟩ := likeSlot a1 a3 hsl1
      rw [a2] at hq1; rw [b2] at hq2
      have hsl2' := restSlot b1 hsl2
      have hlt := (holdsOf i2 g2 own2 x2 q2 hsl2' hq2).lt
      obtain ⟨j0, i0, g0, x0, q0, d1, d2, d3, d4⟩ := likeOwn c1 hq1 (by omega)
      have := (hs.apart i0 g0 x0 i2 g2 own2 x2 q0 q2 d2 hsl2' d3 hq2 (d4.trans he)).1
      subst this
      exact b3 j0 d1
    · exfalso
      obtain ⟨y2, c1, c2, _⟩ := likeSlot b1 b3 hsl2
      rw [a2] at hq1; rw [b2] at hq2
      have hsl1' := restSlot a1 hsl1
      have hlt := (holdsOf i1 g1 true x1 q1 hsl1' hq1).lt
      obtain ⟨j0, i0, g0, x0, q0, d1, d2, d3, d4⟩ := likeOwn c1 hq2 (by omega)
      have := (hs.apart i0 g0 x0 i1 g1 true x1 q0 q1 d2 hsl1' d3 hq1 (d4.trans he.symm)).1
      subst this
      exact a3 j0 d1
    · rw [a2] at hq1; rw [b2] at hq2
      exact hs.apart i1 g1 x1 i2 g2 own2 x2 q1 q2 (restSlot a1 hsl1) (restSlot b1 hsl2) hq1 hq2 he
  · intro b hb hn
    refine hE.frame b hb fun j g x q h1 h2 => ?_
    obtain ⟨i0, b1, b2, b3⟩ := callee_own hfit h1 h2
    exact hn i0 g _ q b2 b3
  · intro i g x q hsl hq hb
    rcases cls i with ⟨j, h0, h1, h2, h3⟩ | ⟨h0, h1, h2, h3⟩
    · obtain ⟨x', a1, rfl, _⟩ := likeSlot h1 h3 hsl
      rw [h2] at hq
      obtain ⟨j0, i0, g0, x0, q0, d1, d2, d3, d4⟩ := likeOwn a1 hq hb
      exact ⟨i0, g0, x0, q0, d2, d3, d4⟩
    · rw [h2] at hq
      exact ⟨i, g, x, q, restSlot h1 hsl, hq, rfl⟩

/-- THE LAW. -/
theorem CallA.lift (t : List TE) {P : Program} {g : Nat} {args : List AV} {M : AH} {K0 Kp0 : AV → AH → Prop} (h : CallA P g args M K0 Kp0) {argsC : List AV} {Mc : AH} {K Kp : AV → AH → Prop}
    (hargs : AV.rnl t Mc.length args = argsC) (hchk : (apartT t && AV.w0l t args) = true) (hfit : fitH t Mc.length Mc t M) (hw0 : w0H t M)
    (hK : ∀ r M', K0 r M' → keepH t M M' ∧ K (r.rn t Mc.length) (setH t Mc.length t M' Mc))
    (hKp : ∀ r M', Kp0 r M' → keepH t M M' ∧ Kp (r.rn t Mc.length) (setH t Mc.length t M' Mc)) : CallA P g argsC Mc K Kp := by
  subst hargs
  simp only [Bool.and_eq_true] at hchk
  obtain ⟨hap, hwa⟩ := hchk
  unfold CallA at *
  refine ⟨h.1, fun ρ w hs hok => ?_⟩
  have hs1 := callee_sim hs hap hfit hw0
  have hok1 := okl_back args hwa hok
  have hcall := h.2 (envC t ρ) w hs1 hok1
  rw [← (rnl_c (envC_R (m := Mc.length)) args hok1).2] at hcall
  refine Calls.mono hcall fun e w' he => ?_
  obtain ⟨ρ2, M', h1, h2, h3⟩ := he
  cases e with
  | returned v =>
    obtain ⟨r, e1, e2, e3⟩ := h3
    obtain ⟨k1, k2⟩ := hK r M' e3
    obtain ⟨b1, b2, b3⟩ := caller_sim hs hap hfit k1 h1 h2 hs1
    obtain ⟨c1, c2⟩ := rn_c b1 r e2
    exact ⟨_, _, b2, b3, _, by rw [c2]; exact e1, c1, k2⟩
  | panicked ch =>
    obtain ⟨r, e1, e2, e3⟩ := h3
    obtain ⟨k1, k2⟩ := hKp r M' e3
    obtain ⟨b1, b2, b3⟩ := caller_sim hs hap hfit k1 h1 h2 hs1
    obtain ⟨c1, c2⟩ := rn_c b1 r e2
    exact ⟨_, _, b2, b3, _, by rw [c2]; exact e1, c1, k2⟩
  | outgrown => exact h3.elim
end Go.Proofs.Ytaioclggifdnhaa
