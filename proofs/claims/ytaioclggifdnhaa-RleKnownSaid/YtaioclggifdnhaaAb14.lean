/- A call's contract on a small heap, used in a large one. -/
import Derived.Test.YtaioclggifdnhaaAb13
set_option linter.unusedVariables false
set_option linter.unusedSimpArgs false
open Go.RowKit
namespace Go.Proofs.Ytaioclggifdnhaa

/-- Where the callee's names lie in the caller's heap: an object of the caller's that the callee may write; a whole name that it only reads; a window that it only reads (its tag is 0 for the callee). -/
inductive TE where
  | own (i : Nat)
  | sha (i : Nat)
  | win (i g off : Nat)
  deriving Inhabited

def TE.i : TE → Nat
  | .own i => i | .sha i => i | .win i _ _ => i
/-- name, tag, place -/
def rnI (t : List TE) (m j : Nat) : Nat :=
  match t[j]? with
  | some e => e.i
  | none => m + (j - t.length)
def rnG (t : List TE) (j g : Nat) : Nat :=
  match t[j]? with
  | some (.win _ g' _) => g'
  | _ => g
def rnF (t : List TE) (j off : Nat) : Nat :=
  match t[j]? with
  | some (.win _ _ o) => o + off
  | _ => off
mutual
def AV.rn (t : List TE) (m : Nat) : AV → AV
  | .ptr i g off => .ptr (rnI t m i) (rnG t i g) (rnF t i off)
  | .pel i g sz j o => .pel (rnI t m i) (rnG t i g) sz j (rnF t i o)
  | .sl i g off n c => .sl (rnI t m i) (rnG t i g) (rnF t i off) n c
  | .mp i g => .mp (rnI t m i) (rnG t i g)
  | .fn q a b => .fn q (AV.rnl t m a) (AV.rnl t m b)
  | .ifc ty v => .ifc ty (v.rn t m)
  | .agg l => .agg (AV.rnl t m l)
  | .tup l => .tup (AV.rnl t m l)
  | .bo x => .bo x | .tt => .tt | .ff => .ff | .int k n => .int k n | .str x => .str x | .np => .np | .ns => .ns | .nf => .nf | .ni => .ni | .nm => .nm | .raw v => .raw v
def AV.rnl (t : List TE) (m : Nat) : List AV → List AV
  | [] => []
  | v :: l => v.rn t m :: AV.rnl t m l
end
theorem AV.rnl_eq (t : List TE) (m : Nat) (l : List AV) : AV.rnl t m l = l.map (AV.rn t m) := by
  induction l with
  | nil => rfl
  | cons v l ih => simp [AV.rnl, ih]
def Cont.rn (t : List TE) (m : Nat) : Cont → Cont
  | .cells cs => .cells (AV.rnl t m cs)
  | .ints k xs c => .ints k xs c
  | .bools xs c => .bools xs c
  | .tab sz n get c => .tab sz n (fun j => AV.rnl t m (get j)) c
  | .map kk es => .map kk (es.map fun p => (p.1, p.2.rn t m))
  | .loop l st pd fn n a ps as bd df => .loop l st pd fn n (fun j => (a j).rn t m) ps as bd df
theorem Cont.rn_row (t : List TE) (m : Nat) (x : Cont) : (x.rn t m).row = x.row := by cases x <;> rfl
def AO.rn (t : List TE) (m : Nat) : AO → AO
  | .gone => .gone
  | .one own g x => .one own g (x.rn t m)
  | .fam own n x => .fam own n (fun g => (x g).rn t m)
def rnH (t : List TE) (m : Nat) : AH → AH
  | [] => []
  | o :: M => o.rn t m :: rnH t m M
theorem rnH_eq (t : List TE) (m : Nat) (M : AH) : rnH t m M = M.map (AO.rn t m) := by
  induction M with
  | nil => rfl
  | cons v l ih => simp [rnH, ih]

theorem Cont.rn_at (t : List TE) (m : Nat) (x : Cont) (k : Nat) : (x.rn t m).at k = (x.at k).map (AV.rn t m) := by
  cases x with
  | cells cs => simp [Cont.rn, Cont.at, AV.rnl_eq]
  | ints kk xs c => simp only [Cont.rn, Cont.at, Option.map_map]; rfl
  | bools xs c => simp only [Cont.rn, Cont.at, Option.map_map]; rfl
  | tab sz n get c =>
    simp only [Cont.rn, Cont.at]
    split
    · simp [AV.rnl_eq]
    · rfl
  | map _ _ => rfl
  | loop _ _ _ _ _ _ _ _ _ _ => rfl
theorem Cont.rn_size (t : List TE) (m : Nat) (x : Cont) : (x.rn t m).size = x.size := by
  cases x with
  | cells cs => simp [Cont.rn, Cont.size, AV.rnl_eq]
  | _ => rfl
theorem Cont.rn_virt {t : List TE} {m : Nat} {x : Cont} (h : x.virt) : (x.rn t m).virt := by
  cases x <;> exact h

/-- The window shows what the callee counts on. -/
def WinC (t : List TE) (m : Nat) (off : Nat) (x xc : Cont) : Prop :=
  off + x.size ≤ xc.size ∧ (∀ k v, x.at k = some v → xc.at (off + k) = some (v.rn t m)) ∧ (xc.virt → x.virt) ∧ x.row = true ∧ xc.row = true
theorem WinC.same {t : List TE} {m : Nat} {x xc : Cont} (h : x.rn t m = xc) (hv : xc.virt → x.virt) (hr : x.row = true := by rfl) : WinC t m 0 x xc := by
  subst h
  refine ⟨by rw [Cont.rn_size]; omega, fun k v hv => ?_, hv, hr, by rw [Cont.rn_row]; exact hr⟩
  rw [Nat.zero_add, Cont.rn_at, hv]; rfl
theorem WinC.ints {t : List TE} {m : Nat} {k : IntKind} {xs ys : List Int} {c co off : Nat} (h1 : off + c ≤ co) (h2 : xs = (ys.drop off).take xs.length) : WinC t m off (.ints k xs c) (.ints k ys co) := by
  refine ⟨h1, fun j v hv => ?_, ?_, rfl, rfl⟩
  · simp only [Cont.at, Option.map_eq_some_iff] at hv ⊢
    obtain ⟨z, hz, rfl⟩ := hv
    refine ⟨z, ?_, rfl⟩
    have hj := (List.getElem?_eq_some_iff.1 hz).1
    rw [h2, List.getElem?_take, if_pos hj, List.getElem?_drop] at hz
    exact hz
  · rintro ⟨e1, e2⟩
    subst e1; subst e2
    simp at h2
    exact ⟨h2, by omega⟩
theorem WinC.bools {t : List TE} {m : Nat} {xs ys : List Bool} {c co off : Nat} (h1 : off + c ≤ co) (h2 : xs = (ys.drop off).take xs.length) : WinC t m off (.bools xs c) (.bools ys co) := by
  refine ⟨h1, fun j v hv => ?_, ?_, rfl, rfl⟩
  · simp only [Cont.at, Option.map_eq_some_iff] at hv ⊢
    obtain ⟨z, hz, rfl⟩ := hv
    refine ⟨z, ?_, rfl⟩
    have hj := (List.getElem?_eq_some_iff.1 hz).1
    rw [h2, List.getElem?_take, if_pos hj, List.getElem?_drop] at hz
    exact hz
  · rintro ⟨e1, e2⟩
    subst e1; subst e2
    simp at h2
    exact ⟨h2, by omega⟩

def AO.isOwn : AO → Bool
  | .one true _ _ => true
  | .fam true _ _ => true
  | _ => false
def AO.okOwn : AO → Bool
  | .gone => true
  | .one true _ _ => true
  | .fam true _ _ => true
  | _ => false
def AO.ro : AO → AO
  | .gone => .gone
  | .one _ g x => .one false g x
  | .fam _ n x => .fam false n x

def AO.tag0 : AO → Bool
  | .gone => false
  | .one _ g _ => Nat.beq g 0
  | .fam _ _ _ => true

/-- The caller's heap is as the callee counts on. -/
def fitH (t0 : List TE) (m : Nat) (Mc : AH) : List TE → AH → Prop
  | [], [] => True
  | .own i :: t, o :: M => (Mc[i]? = some (o.rn t0 m) ∧ o.okOwn = true) ∧ fitH t0 m Mc t M
  | .sha i :: t, o :: M => (o.tag0 = true ∧ ∃ o', Mc[i]? = some o' ∧ o.rn t0 m = o'.ro) ∧ fitH t0 m Mc t M
  | .win i g off :: t, o :: M => (∃ x own xc, o = .one false 0 x ∧ slot Mc i g = some (own, xc) ∧ WinC t0 m off x xc) ∧ fitH t0 m Mc t M
  | _, _ => False
def TE.same : TE → TE → Bool
  | e, e' => Nat.beq e.i e'.i
def TE.isOwn : TE → Bool
  | .own _ => true
  | _ => false
/-- What the callee may write has one name. -/
def apartT : List TE → Bool
  | [] => true
  | e :: t => t.all (fun e' => !(e.isOwn || e'.isOwn) || !(Nat.beq e.i e'.i)) && apartT t
/-- The callee's heap at its end. -/
def keepH : List TE → AH → AH → Prop
  | [], _, M' => M'.all AO.okOwn = true
  | .own _ :: t, _ :: M, o' :: M' => o'.okOwn = true ∧ keepH t M M'
  | .sha _ :: t, o :: M, o' :: M' => o' = o ∧ keepH t M M'
  | .win _ _ _ :: t, o :: M, o' :: M' => o' = o ∧ keepH t M M'
  | _, _, _ => False
def setH (t0 : List TE) (m : Nat) : List TE → AH → AH → AH
  | .own i :: t, o :: M', Mc => setH t0 m t M' (Mc.set i (o.rn t0 m))
  | _ :: t, _ :: M', Mc => setH t0 m t M' Mc
  | [], M', Mc => Mc ++ rnH t0 m M'
  | _, [], Mc => Mc

theorem fitH_get {t0 : List TE} {m : Nat} {Mc : AH} : ∀ {t : List TE} {M : AH}, fitH t0 m Mc t M → t.length = M.length ∧ ∀ (j : Nat) e o, t[j]? = some e → M[j]? = some o → match e with
    | .own i => Mc[i]? = some (o.rn t0 m) ∧ o.okOwn = true
    | .sha i => o.tag0 = true ∧ ∃ o', Mc[i]? = some o' ∧ o.rn t0 m = o'.ro
    | .win i g off => ∃ x own xc, o = .one false 0 x ∧ slot Mc i g = some (own, xc) ∧ WinC t0 m off x xc
  | [], [], _ => ⟨rfl, fun j e o h => by simp at h⟩
  | [], _ :: _, h => by cases h
  | .own i :: t, [], h => by cases h
  | .sha i :: t, [], h => by cases h
  | .win i g off :: t, [], h => by cases h
  | .own i :: t, o :: M, h => by
    obtain ⟨h1, h2⟩ := fitH_get h.2
    refine ⟨by simp [h1], fun j e o' he ho => ?_⟩
    cases j with
    | zero => simp at he ho; subst he; subst ho; exact h.1
    | succ j => exact h2 j e o' (by simpa using he) (by simpa using ho)
  | .sha i :: t, o :: M, h => by
    obtain ⟨h1, h2⟩ := fitH_get h.2
    refine ⟨by simp [h1], fun j e o' he ho => ?_⟩
    cases j with
    | zero => simp at he ho; subst he; subst ho; exact h.1
    | succ j => exact h2 j e o' (by simpa using he) (by simpa using ho)
  | .win i g off :: t, o :: M, h => by
    obtain ⟨h1, h2⟩ := fitH_get h.2
    refine ⟨by simp [h1], fun j e o' he ho => ?_⟩
    cases j with
    | zero => simp at he ho; subst he; subst ho; exact h.1
    | succ j => exact h2 j e o' (by simpa using he) (by simpa using ho)

theorem keepH_get : ∀ {t : List TE} {M M' : AH}, keepH t M M' → t.length ≤ M'.length ∧ (∀ (j : Nat) o', M'[j]? = some o' → match t[j]? with
    | some (.own _) => o'.okOwn = true
    | none => o'.okOwn = true
    | _ => M[j]? = some o')
  | [], M, M', h => ⟨Nat.zero_le _, fun j o' ho => by
      simp only [List.getElem?_nil]
      exact List.all_eq_true.1 h o' (List.mem_of_getElem? ho)⟩
  | .own i :: t, o :: M, o1 :: M', h => by
    obtain ⟨h1, h2⟩ := keepH_get h.2
    refine ⟨by simpa using h1, fun j o' ho => ?_⟩
    cases j with
    | zero => simp at ho; subst ho; exact h.1
    | succ j => simpa using h2 j o' (by simpa using ho)
  | .sha i :: t, o :: M, o1 :: M', h => by
    obtain ⟨h1, h2⟩ := keepH_get h.2
    refine ⟨by simpa using h1, fun j o' ho => ?_⟩
    cases j with
    | zero => simp at ho; subst ho; simp [h.1]
    | succ j => simpa using h2 j o' (by simpa using ho)
  | .win i g off :: t, o :: M, o1 :: M', h => by
    obtain ⟨h1, h2⟩ := keepH_get h.2
    refine ⟨by simpa using h1, fun j o' ho => ?_⟩
    cases j with
    | zero => simp at ho; subst ho; simp [h.1]
    | succ j => simpa using h2 j o' (by simpa using ho)
  | .own _ :: _, [], _, h => by cases h
  | .sha _ :: _, [], _, h => by cases h
  | .win _ _ _ :: _, [], _, h => by cases h
  | .own _ :: _, _ :: _, [], h => by cases h
  | .sha _ :: _, _ :: _, [], h => by cases h
  | .win _ _ _ :: _, _ :: _, [], h => by cases h

theorem apartT_get : ∀ {t : List TE}, apartT t = true → ∀ {j j' : Nat} {e e' : TE}, t[j]? = some e → t[j']? = some e' → (e.isOwn = true ∨ e'.isOwn = true) → e.i = e'.i → j = j'
  | [], _, j, j', e, e', h, _, _, _ => by simp at h
  | a :: t, ha, j, j', e, e', h, h', ho, hi => by
    simp only [apartT, Bool.and_eq_true, List.all_eq_true] at ha
    have key : ∀ b ∈ t, (a.isOwn = true ∨ b.isOwn = true) → a.i ≠ b.i := by
      intro b hb hor heq
      have := ha.1 b hb
      rw [heq] at this
      have e1 : Nat.beq b.i b.i = true := Nat.beq_refl _
      rw [e1] at this
      rcases hor with h | h <;> simp [h] at this
    cases j with
    | zero =>
      cases j' with
      | zero => rfl
      | succ j' =>
        simp at h h'
        subst h
        exact absurd hi (key e' (List.mem_of_getElem? h') ho)
    | succ j =>
      cases j' with
      | zero =>
        simp at h h'
        subst h'
        exact absurd hi.symm (key e (List.mem_of_getElem? h) ho.symm)
      | succ j' => exact congrArg Nat.succ (apartT_get ha.2 (by simpa using h) (by simpa using h') ho hi)

/-- The caller's name i is the callee's own name j. -/
def OwnAt (t : List TE) (i j : Nat) : Prop := t[j]? = some (.own i)

theorem setH_length (t0 : List TE) (m : Nat) : ∀ (t : List TE) (M' Mc : AH), t.length ≤ M'.length → (setH t0 m t M' Mc).length = Mc.length + (M'.length - t.length)
  | [], M', Mc, _ => by simp [setH, rnH_eq]
  | .own i :: t, o :: M', Mc, h => by
    simp only [setH]; rw [setH_length t0 m t M' _ (by simpa using h)]; simp
  | .sha i :: t, o :: M', Mc, h => by
    simp only [setH]; rw [setH_length t0 m t M' _ (by simpa using h)]; simp
  | .win i g off :: t, o :: M', Mc, h => by
    simp only [setH]; rw [setH_length t0 m t M' _ (by simpa using h)]; simp
  | _ :: _, [], Mc, h => by simp at h
theorem setH_new (t0 : List TE) (m : Nat) : ∀ (t : List TE) (M' Mc : AH) (k : Nat), t.length ≤ M'.length → (setH t0 m t M' Mc)[Mc.length + k]? = (M'[t.length + k]?).map (AO.rn t0 m)
  | [], M', Mc, k, _ => by simp only [setH, rnH_eq]; rw [List.getElem?_append_right (by omega)]; simp
  | .own i :: t, o :: M', Mc, k, h => by
    simp only [setH]
    have := setH_new t0 m t M' (Mc.set i (o.rn t0 m)) k (by simpa using h)
    rw [List.length_set] at this
    rw [this, List.length_cons, show t.length + 1 + k = t.length + k + 1 from by omega, List.getElem?_cons_succ]
  | .sha i :: t, o :: M', Mc, k, h => by
    simp only [setH]
    rw [setH_new t0 m t M' Mc k (by simpa using h), List.length_cons, show t.length + 1 + k = t.length + k + 1 from by omega, List.getElem?_cons_succ]
  | .win i g off :: t, o :: M', Mc, k, h => by
    simp only [setH]
    rw [setH_new t0 m t M' Mc k (by simpa using h), List.length_cons, show t.length + 1 + k = t.length + k + 1 from by omega, List.getElem?_cons_succ]
  | _ :: _, [], Mc, k, h => by simp at h
/-- A name that is not handed over stays. -/
theorem setH_old (t0 : List TE) (m : Nat) : ∀ (t : List TE) (M' Mc : AH) (i : Nat), i < Mc.length → t.length ≤ M'.length → (∀ j : Nat, t[j]? ≠ some (TE.own i)) → (setH t0 m t M' Mc)[i]? = Mc[i]?
  | [], M', Mc, i, hi, _, _ => by simp only [setH]; rw [List.getElem?_append_left hi]
  | .own i0 :: t, o :: M', Mc, i, hi, h, hn => by
    simp only [setH]
    rw [setH_old t0 m t M' _ i (by simpa using hi) (by simpa using h) (fun j hj => hn (j + 1) (by simpa using hj))]
    rw [List.getElem?_set_ne]
    intro e; subst e; exact hn 0 rfl
  | .sha i0 :: t, o :: M', Mc, i, hi, h, hn => by
    simp only [setH]
    exact setH_old t0 m t M' _ i hi (by simpa using h) (fun j hj => hn (j + 1) (by simpa using hj))
  | .win i0 g off :: t, o :: M', Mc, i, hi, h, hn => by
    simp only [setH]
    exact setH_old t0 m t M' _ i hi (by simpa using h) (fun j hj => hn (j + 1) (by simpa using hj))
  | _ :: _, [], Mc, i, _, h, _ => by simp at h
theorem setH_own (t0 : List TE) (m : Nat) : ∀ (t : List TE) (M' Mc : AH) (i j : Nat), i < Mc.length → t.length ≤ M'.length → apartT t = true → t[j]? = some (.own i) → (setH t0 m t M' Mc)[i]? = (M'[j]?).map (AO.rn t0 m)
  | [], M', Mc, i, j, _, _, _, hj => by simp at hj
  | _ :: _, [], Mc, i, j, _, h, _, _ => by simp at h
  | e :: t, o :: M', Mc, i, 0, hi, h, ha, hj => by
    simp at hj; subst hj
    simp only [setH]
    rw [setH_old t0 m t M' _ i (by simpa using hi) (by simpa using h)]
    · simp [List.getElem?_set, hi]
    · intro j hj
      have := apartT_get ha (j := 0) (j' := j + 1) (e := .own i) (e' := .own i) rfl (by simpa using hj) (.inl rfl) rfl
      omega
  | .own i0 :: t, o :: M', Mc, i, j + 1, hi, h, ha, hj => by
    simp only [setH]
    have ha' : apartT t = true := by simp only [apartT, Bool.and_eq_true] at ha; exact ha.2
    rw [setH_own t0 m t M' _ i j (by simpa using hi) (by simpa using h) ha' (by simpa using hj)]; simp
  | .sha i0 :: t, o :: M', Mc, i, j + 1, hi, h, ha, hj => by
    simp only [setH]
    have ha' : apartT t = true := by simp only [apartT, Bool.and_eq_true] at ha; exact ha.2
    rw [setH_own t0 m t M' _ i j hi (by simpa using h) ha' (by simpa using hj)]; simp
  | .win i0 g off :: t, o :: M', Mc, i, j + 1, hi, h, ha, hj => by
    simp only [setH]
    have ha' : apartT t = true := by simp only [apartT, Bool.and_eq_true] at ha; exact ha.2
    rw [setH_own t0 m t M' _ i j hi (by simpa using h) ha' (by simpa using hj)]; simp

/-- The callee's environment. -/
def envC (t : List TE) (ρ : Env) : Env := fun j g =>
  match t[j]? with
  | some (.own i) => ρ i g
  | some (.sha i) => ρ i g
  | some (.win i g' off) => if g = 0 then (ρ i g').map (fun l => l.map (fun q => (q.1, q.2 + off))) else none
  | none => none
theorem slot_rn {t0 : List TE} {m : Nat} {o : AO} {g : Nat} : slotO (o.rn t0 m) g = (slotO o g).map (fun x => (x.1, x.2.rn t0 m)) := by
  cases o with
  | gone => rfl
  | one own g' x => simp only [AO.rn, slotO]; split <;> rfl
  | fam own n x => simp only [AO.rn, slotO]; split <;> rfl
theorem slot_ro {o : AO} {g : Nat} : slotO o.ro g = (slotO o g).map (fun x => (false, x.2)) := by
  cases o with
  | gone => rfl
  | one own g' x => simp only [AO.ro, slotO]; split <;> rfl
  | fam own n x => simp only [AO.ro, slotO]; split <;> rfl
theorem slot_okOwn {o : AO} (h : o.okOwn = true) {g : Nat} {own : Bool} {x : Cont} (hs : slotO o g = some (own, x)) : own = true := by
  cases o with
  | gone => cases hs
  | one own' g' x' =>
    cases own' with
    | false => cases h
    | true =>
      simp only [slotO] at hs
      split at hs
      · injection hs with hs; injection hs with h1 _; exact h1.symm
      · cases hs
  | fam own' n x' =>
    cases own' with
    | false => cases h
    | true =>
      simp only [slotO] at hs
      split at hs
      · injection hs with hs; injection hs with h1 _; exact h1.symm
      · cases hs
end Go.Proofs.Ytaioclggifdnhaa
