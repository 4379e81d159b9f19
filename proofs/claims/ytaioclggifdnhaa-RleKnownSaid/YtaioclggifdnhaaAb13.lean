/- Loops, and what may be forgotten, on abstract states. -/
import Derived.Test.YtaioclggifdnhaaAb12
set_option linter.unusedVariables false
set_option linter.unusedSimpArgs false
open Go.RowKit
namespace Go.Proofs.Ytaioclggifdnhaa

/-! Names below a bound. -/
mutual
def AV.nb (k : Nat) : AV → Bool
  | .ptr i _ _ => Nat.blt i k
  | .pel i _ _ _ _ => Nat.blt i k
  | .sl i _ _ _ _ => Nat.blt i k
  | .mp i _ => Nat.blt i k
  | .fn _ a b => AV.nbl k a && AV.nbl k b
  | .ifc _ v => v.nb k
  | .agg l => AV.nbl k l
  | .tup l => AV.nbl k l
  | .raw _ => true | .bo _ => true | .tt => true | .ff => true | .int _ _ => true | .str _ => true | .np => true | .ns => true | .nf => true | .ni => true | .nm => true
def AV.nbl (k : Nat) : List AV → Bool
  | [] => true
  | v :: l => v.nb k && AV.nbl k l
end
def cutE (ρ : Env) (k : Nat) : Env := fun i g => if i < k then ρ i g else none
theorem cutE_lt {ρ : Env} {k i : Nat} (h : Nat.blt i k = true) (g : Nat) : cutE ρ k i g = ρ i g := by
  have : i < k := by simpa using h
  simp [cutE, this]
mutual
theorem AV.nb_ok {ρ : Env} {k : Nat} : ∀ v : AV, v.nb k = true → v.ok ρ → v.ok (cutE ρ k)
  | .ptr i g _ => fun h => by simp only [AV.nb] at h; simp only [AV.ok, cutE_lt h]; exact fun h => h
  | .pel i g _ _ _ => fun h => by simp only [AV.nb] at h; simp only [AV.ok, cutE_lt h]; exact fun h => h
  | .sl i g _ _ _ => fun h => by simp only [AV.nb] at h; simp only [AV.ok, cutE_lt h]; exact fun h => h
  | .mp i g => fun h => by simp only [AV.nb] at h; simp only [AV.ok, cutE_lt h]; exact fun h => h
  | .fn _ a b => fun h k => by
    simp only [AV.nb, Bool.and_eq_true] at h; simp only [AV.ok] at k ⊢
    exact ⟨AV.nbl_ok a h.1 k.1, AV.nbl_ok b h.2 k.2⟩
  | .ifc _ v => fun h k => by simp only [AV.nb] at h; simp only [AV.ok] at k ⊢; exact AV.nb_ok v h k
  | .agg l => fun h k => by simp only [AV.nb] at h; simp only [AV.ok] at k ⊢; exact AV.nbl_ok l h k
  | .tup l => fun h k => by simp only [AV.nb] at h; simp only [AV.ok] at k ⊢; exact AV.nbl_ok l h k
  | .bo _ => fun _ _ => trivial | .tt => fun _ _ => trivial | .ff => fun _ _ => trivial | .int _ _ => fun _ _ => trivial | .str _ => fun _ _ => trivial
  | .np => fun _ _ => trivial | .ns => fun _ _ => trivial | .nf => fun _ _ => trivial | .ni => fun _ _ => trivial | .nm => fun _ _ => trivial | .raw _ => fun _ _ => trivial
theorem AV.nbl_ok {ρ : Env} {k : Nat} : ∀ l : List AV, AV.nbl k l = true → AV.okl ρ l → AV.okl (cutE ρ k) l
  | [] => fun _ _ => trivial
  | v :: l => fun h k => by
    simp only [AV.nbl, Bool.and_eq_true] at h; simp only [AV.okl] at k ⊢
    exact ⟨AV.nb_ok v h.1 k.1, AV.nbl_ok l h.2 k.2⟩
end
theorem cutE_le {ρ : Env} {k : Nat} : ∀ i g l, cutE ρ k i g = some l → ρ i g = some l := by
  intro i g l h
  unfold cutE at h
  split at h
  · exact h
  · cases h
theorem AV.nb_c {ρ : Env} {k : Nat} {v : AV} (h : v.nb k = true) (hok : v.ok ρ) : v.c (cutE ρ k) = v.c ρ :=
  (AV.c_ext cutE_le v (AV.nb_ok v h hok)).symm

def Cont.nb (k : Nat) : Cont → Prop
  | .cells cs => AV.nbl k cs = true
  | .ints _ _ _ => True
  | .bools _ _ => True
  | .tab _ n get _ => ∀ j, AV.nbl k (get j) = true
  | .map _ es => ∀ p ∈ es, p.2.nb k = true
  | .loop _ _ _ _ _ a _ _ _ _ => ∀ t, (a t).nb k = true
def AO.nb (k : Nat) : AO → Prop
  | .gone => True
  | .one _ _ x => x.nb k
  | .fam _ _ x => ∀ g, (x g).nb k
def nbH (k : Nat) : AH → Prop
  | [] => True
  | o :: M => o.nb k ∧ nbH k M
theorem nbl_get {k : Nat} : ∀ {l : List AV}, AV.nbl k l = true → ∀ v ∈ l, v.nb k = true
  | [], _, v, hv => by cases hv
  | u :: l, h, v, hv => by
    simp only [AV.nbl, Bool.and_eq_true] at h
    rcases List.mem_cons.1 hv with rfl | hv
    · exact h.1
    · exact nbl_get h.2 v hv
theorem Cont.nb_at {k : Nat} {x : Cont} (h : x.nb k) {j : Nat} {v : AV} (hv : x.at j = some v) : v.nb k = true := by
  cases x with
  | cells cs => exact nbl_get h v (List.mem_of_getElem? hv)
  | ints kk xs c => simp only [Cont.at, Option.map_eq_some_iff] at hv; obtain ⟨z, _, rfl⟩ := hv; rfl
  | bools xs c => simp only [Cont.at, Option.map_eq_some_iff] at hv; obtain ⟨z, _, rfl⟩ := hv; rfl
  | tab sz n get c =>
    simp only [Cont.at] at hv
    split at hv
    · exact nbl_get (h _) v (List.mem_of_getElem? hv)
    · cases hv
  | map _ _ => simp [Cont.at] at hv
  | loop _ _ _ _ _ _ _ _ _ _ => simp [Cont.at] at hv
theorem Holds.cut {ρ : Env} {k : Nat} {own : Bool} {x : Cont} {b base : Nat} {w : World} (hn : x.nb k) (h : Holds ρ own x b base w) : Holds (cutE ρ k) own x b base w := by
  rcases h.all with ⟨hx, c, e, fr, k1, k2, k3, k4⟩ | ⟨hx, hb, hs⟩
  · refine .mk' hx ⟨c, e, fr, k1, k2, fun j v hv => ?_, k4⟩
    have hb := Cont.nb_at hn hv
    have := k3 j v hv
    exact ⟨AV.nb_ok v hb this.1, by rw [AV.nb_c hb this.1]; exact this.2⟩
  · refine ⟨.inr ⟨hx, hb, ?_⟩⟩
    cases x with
    | map kk es =>
      obtain ⟨ents, clock, h1, h2, h3, h4, h5⟩ := hs
      refine ⟨ents, clock, h1, ?_, fun p hp => AV.nb_ok _ (hn p hp) (h3 p hp), h4, h5⟩
      rw [h2]
      exact List.map_congr_left fun p hp => by rw [AV.nb_c (hn p hp) (h3 p hp)]
    | loop l st pd fn n a ps as bd df =>
      obtain ⟨h1, tmps, h2, h3, h4⟩ := hs
      exact ⟨h1, tmps, h2, h3, fun t => ⟨AV.nb_ok _ (hn t) (h4 t).1, by rw [AV.nb_c (hn t) (h4 t).1]; exact (h4 t).2⟩⟩
    | cells _ => exact hs.elim
    | ints _ _ _ => exact hs.elim
    | bools _ _ => exact hs.elim
    | tab _ _ _ _ => exact hs.elim
theorem nbH_get {k : Nat} : ∀ {M : AH}, nbH k M → ∀ {i : Nat} {o : AO}, M[i]? = some o → o.nb k
  | [], _, i, o, h => by simp at h
  | p :: M, hn, 0, o, h => by simp at h; subst h; exact hn.1
  | p :: M, hn, i + 1, o, h => nbH_get hn.2 (by simpa using h)

/-- The second heap knows less. -/
def subA : AH → AH → Prop
  | _, [] => True
  | o :: M, o' :: N => (match o' with
    | .gone => True
    | o' => o' = o) ∧ subA M N
  | [], _ :: _ => False
theorem subA_refl : ∀ M : AH, subA M M
  | [] => trivial
  | o :: M => ⟨by cases o <;> first | trivial | rfl, subA_refl M⟩
theorem subA_get : ∀ {M N : AH}, subA M N → ∀ {i : Nat} {o : AO}, N[i]? = some o → o = .gone ∨ M[i]? = some o
  | _, [], _, i, o, h => by simp at h
  | [], _ :: _, hs, _, _, _ => hs.elim
  | o1 :: M, o2 :: N, hs, 0, o, h => by
    simp at h; subst h
    cases o2 with
    | gone => exact .inl rfl
    | one own g x => right; simp; exact hs.1.symm
    | fam own m x => right; simp; exact hs.1.symm
  | o1 :: M, o2 :: N, hs, i + 1, o, h => by
    have := subA_get hs.2 (i := i) (by simpa using h)
    simpa using this

theorem slot_of_sub {M N : AH} (h : subA M N) {i g : Nat} {own : Bool} {x : Cont} (hs : slot N i g = some (own, x)) : slot M i g = some (own, x) ∧ i < N.length := by
  unfold slot at hs ⊢
  cases ho : N[i]? with
  | none => rw [ho] at hs; cases hs
  | some o =>
    rw [ho] at hs
    refine ⟨?_, (List.getElem?_eq_some_iff.1 ho).1⟩
    rcases subA_get h ho with rfl | h1
    · cases hs
    · rw [h1]; exact hs

theorem slot_nb {M : AH} {k : Nat} (h : nbH k M) {i g : Nat} {own : Bool} {x : Cont} (hs : slot M i g = some (own, x)) : x.nb k := by
  unfold slot at hs
  cases ho : M[i]? with
  | none => rw [ho] at hs; cases hs
  | some o =>
    rw [ho] at hs
    have := nbH_get h ho
    cases o with
    | gone => cases hs
    | one own' g' x' =>
      simp only [slotO] at hs
      split at hs
      · injection hs with hs; injection hs with h1 h2; subst h2; exact this
      · cases hs
    | fam own' m x' =>
      simp only [slotO] at hs
      split at hs
      · injection hs with hs; injection hs with h1 h2; subst h2; exact this g
      · cases hs

theorem sim_sub {ρ0 ρ : Env} {M0 M N : AH} {w0 w : World} (h0 : ∀ i g, (ρ0 i g).isSome = true → i < M0.length) (hs : Sim ρ M w) (hE : Ext ρ0 M0 w0 ρ M w) (h : subA M N) (hn : nbH N.length N) (hl : M0.length ≤ N.length) :
    Sim (cutE ρ N.length) N w ∧ Ext ρ0 M0 w0 (cutE ρ N.length) N w := by
  have hk : ∀ {i : Nat} (g : Nat), i < N.length → cutE ρ N.length i g = ρ i g := fun g hi => by simp [cutE, hi]
  have hsome : ∀ i g, (cutE ρ N.length i g).isSome = true → i < N.length ∧ (ρ i g).isSome = true := by
    intro i g hi
    unfold cutE at hi
    split at hi
    · exact ⟨‹_›, hi⟩
    · cases hi
  refine ⟨⟨fun i g hi => (hsome i g hi).1, ?_, ?_, ?_, ?_⟩, ⟨?_, hE.size, hE.frame, ?_, hE.os, hE.tape, hE.output⟩⟩
  · intro i g own g' x hm hi
    rcases subA_get h hm with he | h1
    · cases he
    · exact hs.tag i g own g' x h1 (hsome i g hi).2
  · intro i g own m x hm hi
    rcases subA_get h hm with he | h1
    · cases he
    · exact hs.fam i g own m x h1 (hsome i g hi).2
  · intro i g own x hsl
    obtain ⟨h1, h2⟩ := slot_of_sub h hsl
    rw [hk g h2]
    rcases hs.holds i g own x h1 with ⟨q, e1, e2⟩ | e
    · exact .inl ⟨q, e1, e2.cut (slot_nb hn hsl)⟩
    · exact .inr e
  · intro i g x i' g' own' x' q q' h1 h2 e1 e2 he
    obtain ⟨a1, a2⟩ := slot_of_sub h h1
    obtain ⟨b1, b2⟩ := slot_of_sub h h2
    exact hs.apart i g x i' g' own' x' q q' a1 b1 (cutE_le _ _ _ e1) (cutE_le _ _ _ e2) he
  · intro i g l e
    have := h0 i g (by simp [e])
    rw [hk g (by omega)]
    exact hE.env i g l e
  · intro i g x q h1 e1 hb
    exact hE.fresh i g x q (slot_of_sub h h1).1 (cutE_le _ _ _ e1) hb

/-! Loops. -/
/-- The temporaries that live, and what they hold. -/
def getL : List (Nat × AV) → Nat → Option AV
  | [], _ => none
  | (t, v) :: l, k => match Nat.beq k t with
    | true => some v
    | false => getL l k
def ofL (l : List (Nat × AV)) (d : Nat → Value) : AA := fun t => match getL l t with
  | some v => v
  | none => .raw (d t)
def agr : List (Nat × AV) → AA → Prop
  | [], _ => True
  | (t, v) :: l, a => a t = v ∧ agr l a
def nbL (k : Nat) : List (Nat × AV) → Bool
  | [] => true
  | (_, v) :: l => v.nb k && nbL k l
theorem agr_get : ∀ {l : List (Nat × AV)} {a : AA}, agr l a → ∀ {t : Nat} {v : AV}, getL l t = some v → a t = v
  | [], a, _, t, v, h => by cases h
  | (t', v') :: l, a, hh, t, v, h => by
    simp only [getL] at h
    split at h
    · rename_i hb
      injection h with h; subst h
      rw [Nat.eq_of_beq_eq_true hb]; exact hh.1
    · exact agr_get hh.2 h
theorem nbL_get : ∀ {l : List (Nat × AV)} {k : Nat}, nbL k l = true → ∀ {t : Nat} {v : AV}, getL l t = some v → v.nb k = true
  | [], k, _, t, v, h => by cases h
  | (t', v') :: l, k, hh, t, v, h => by
    simp only [nbL, Bool.and_eq_true] at hh
    simp only [getL] at h
    split at h
    · injection h with h; subst h; exact hh.1
    · exact nbL_get hh.2 h

theorem actR_sub {ρ : Env} {D : List Deferred} {n : Nat} {a : AA} {act : Act} (h : ActR ρ D n a act) {l : List (Nat × AV)} {k : Nat} (hl : nbL k l = true) (ha : agr l a) :
    ActR (cutE ρ k) D n (ofL l fun t => act.tmps.getD t undef) act := by
  refine ⟨h.defers, h.size, fun t => ?_, fun t => ?_⟩
  · simp only [ofL]
    split
    · rename_i v hv
      exact AV.nb_ok v (nbL_get hl hv) (by rw [← agr_get ha hv]; exact h.ok t)
    · exact trivial
  · simp only [ofL]
    split
    · rename_i v hv
      have he := agr_get ha hv
      rw [AV.nb_c (nbL_get hl hv) (by rw [← he]; exact h.ok t), ← he]; exact h.get t
    · rfl

theorem exists_least {P : Nat → Prop} (h : ∃ k, P k) : ∃ k, P k ∧ ∀ j, P j → k ≤ j := by
  obtain ⟨k, hk⟩ := h
  induction k using Nat.strongRecOn with
  | _ k ih =>
    by_cases hh : ∃ j, j < k ∧ P j
    · obtain ⟨j, hj, hp⟩ := hh; exact ih j hj hp
    · exact ⟨k, hk, fun j hp => Nat.le_of_not_lt fun hj => hh ⟨j, hj, hp⟩⟩

/-- What a round of a loop has to show. -/
def roundQ {σ : Type} (I : σ → Prop) (μ : σ → Nat) (A : σ → List (Nat × AV)) (H : σ → AH) (Q : AEx → AA → AH → Prop) (k : Nat) (e : AEx) (a : AA) (M : AH) : Prop :=
  match e with
  | .normal => ∃ s, (I s ∧ μ s < k) ∧ agr (A s) a ∧ subA M (H s)
  | e => Q e a M

theorem WA.loop {x : Cx} {σ : Type} (I : σ → Prop) (μ : σ → Nat) (A : σ → List (Nat × AV)) (H : σ → AH) (s0 : σ)
    (hT : TabOK x.P x.T) (hm : x.P.follows .mixedOrders = true) {c : Code} (hpl : plansB x.pl c = true) {Q : AEx → AA → AH → Prop} {Kp : AV → AH → Prop} {a : AA} {M : AH}
    (h0 : I s0 ∧ agr (A s0) a ∧ subA M (H s0)) (hlen : ∀ s, Nat.ble M.length (H s).length = true) (hA : ∀ s, nbL (H s).length (A s) = true) (hH : ∀ s, nbH (H s).length (H s))
    (hbody : ∀ s, I s → ∀ d, codeA x c (roundQ I μ A H Q (μ s)) Kp (ofL (A s) d) (H s)) :
    WA x.P x.r x.D x.n (.loop c) Q Kp a M := by
  unfold WA
  intro D0 ρ0 w0 act0 hs0 ha0
  let Inv : Nat → Act → World → Prop := fun k act w => ∃ s ρ, I s ∧ μ s = k ∧ Sim ρ (H s) w ∧ Ext ρ0 M w0 ρ (H s) w ∧ ∃ D d, Marks w0.heap.size D0 D w ∧ ActR ρ D x.n (ofL (A s) d) act
  have hle : ∀ s, M.length ≤ (H s).length := fun s => by simpa using hlen s
  have mk : ∀ s ρ M' a' act' w' D, I s → Sim ρ M' w' → Ext ρ0 M w0 ρ M' w' → Marks w0.heap.size D0 D w' → ActR ρ D x.n a' act' → agr (A s) a' → subA M' (H s) → Inv (μ s) act' w' := by
    intro s ρ M' a' act' w' D hI h1 h2 hm h3 h4 h5
    obtain ⟨k1, k2⟩ := sim_sub hs0.dom h1 h2 h5 (hH s) (hle s)
    exact ⟨s, _, hI, rfl, k1, k2, D, _, hm, actR_sub h3 (hA s) h4⟩
  have hst := mk s0 ρ0 M a act0 w0 D0 h0.1 hs0 (Ext.refl _ _ _) (Marks.refl _ _ _) ha0 h0.2.1 h0.2.2
  refine wpIn_loop (fun act w => ∃ k, Inv k act w) (fun act w => by classical exact if h : ∃ k, Inv k act w then Classical.choose (exists_least h) else 0) ⟨_, hst⟩ ?_
  intro act w hI
  have hle1 := Classical.choose_spec (exists_least hI)
  rw [dif_pos hI]
  generalize Classical.choose (exists_least hI) = k at *
  obtain ⟨⟨s, ρ, hIs, rfl, hs, hE, D, d, hm0, ha⟩, hleast⟩ := hle1
  refine wpIn_mono (codeA_from hT hm c hpl _ Kp _ _ ρ w act D hs hE hm0 ha (hbody s hIs d)) fun e act' w' hq => ?_
  cases e with
  | normal =>
    obtain ⟨ρ', M', a', D', h1, h2, hm', h3, s', ⟨h4, h5⟩, h6, h7⟩ := hq
    have hst' := mk s' ρ' M' a' act' w' D' h4 h1 h2 hm' h3 h6 h7
    have hex : ∃ k, Inv k act' w' := ⟨_, hst'⟩
    refine ⟨hex, ?_⟩
    rw [dif_pos hex]
    have := (Classical.choose_spec (exists_least hex)).2 _ hst'
    omega
  | exit id => exact hq
  | ret => exact hq
  | panic ch => exact hq
  | goto l => exact hq.elim
  | outgrown => exact hq.elim

/-! Calls, once more. -/
theorem CallA.mono {P : Program} {g : Nat} {args : List AV} {M : AH} {K K' Kp Kp' : AV → AH → Prop} (h : CallA P g args M K Kp) (hK : ∀ r M', K r M' → K' r M') (hKp : ∀ r M', Kp r M' → Kp' r M') : CallA P g args M K' Kp' := by
  unfold CallA at *
  refine ⟨h.1, fun ρ w hs hok => Calls.mono (h.2 ρ w hs hok) fun e w' he => ?_⟩
  obtain ⟨ρ', M', h1, h2, h3⟩ := he
  refine ⟨ρ', M', h1, h2, ?_⟩
  cases e with
  | returned v => obtain ⟨r, e1, e2, e3⟩ := h3; exact ⟨r, e1, e2, hK _ _ e3⟩
  | panicked ch => obtain ⟨r, e1, e2, e3⟩ := h3; exact ⟨r, e1, e2, hKp _ _ e3⟩
  | outgrown => exact h3.elim

/-- Another view of the same world. -/
def Vw (M M' : AH) (l l' : List AV) : Prop := ∀ ρ w, Sim ρ M w → AV.okl ρ l → ∃ ρ', Sim ρ' M' w ∧ Ext ρ M w ρ' M' w ∧ AV.cl ρ' l' = AV.cl ρ l ∧ AV.okl ρ' l'
theorem CallA.view {P : Program} {g : Nat} {args args' : List AV} {M M' : AH} {K Kp : AV → AH → Prop} (hv : Vw M M' args args') (h : CallA P g args' M' K Kp) : CallA P g args M K Kp := by
  unfold CallA at *
  refine ⟨h.1, fun ρ w hs hok => ?_⟩
  obtain ⟨ρ', h1, h2, h3, h4⟩ := hv ρ w hs hok
  have := h.2 ρ' w h1 h4
  rw [h3] at this
  refine Calls.mono this fun e w' he => ?_
  obtain ⟨ρ'', M'', k1, k2, k3⟩ := he
  exact ⟨ρ'', M'', k1, h2.trans k2, k3⟩
end Go.Proofs.Ytaioclggifdnhaa
