/- Words of use everywhere. -/
import Derived.Test.YtaioclggifdnhaaTb
import Derived.Laws.Strings
set_option linter.unusedVariables false
set_option linter.unusedSimpArgs false
open Go.RowKit
namespace Go.Proofs.Ytaioclggifdnhaa

theorem subA_nil (M : AH) : subA M [] := by cases M <;> trivial
theorem offS_ne {c l off sz : Nat} (h : c ≠ l) : offS c l off sz = off + l * sz := by unfold offS; rw [if_neg h]
theorem offS_1 {c l off : Nat} (h : c ≠ l) : offS c l off 1 = off + l := by unfold offS; rw [if_neg h, Nat.mul_one]
theorem nd_t {p : Prop} [Decidable p] (h : (!decide p) = true) : ¬ p := by simpa using h
theorem nd_f {p : Prop} [Decidable p] (h : (!decide p) = false) : p := by simpa using h
theorem nbH_app {k : Nat} : ∀ {M N : AH}, nbH k M → nbH k N → nbH k (M ++ N)
  | [], N, _, h => h
  | o :: M, N, ⟨h1, h2⟩, h => ⟨h1, nbH_app h2 h⟩
theorem bget {b : List Int} {m : Int} (h0 : ∀ x ∈ b, 0 ≤ x ∧ x < m) (k : Nat) (hk : k < b.length) : 0 ≤ b.getD k 0 ∧ b.getD k 0 < m := by
  have e : b.getD k 0 = b[k] := by simp [List.getD_eq_getElem?_getD, hk]
  rw [e]; exact h0 _ (List.getElem_mem hk)
theorem getD_get {b : List Int} {k : Nat} (hk : k < b.length) : b.getD k 0 = b[k] := by simp [List.getD_eq_getElem?_getD, hk]

/-! Strings of bytes. -/
theorem bytesStr_list (xs : List Int) : (bytesStr xs).toList = xs.map (fun n => UInt8.ofNat n.toNat) := by
  have key : ∀ (l : List Int) (r : ByteArray), (l.foldl (fun r n => r.push (UInt8.ofNat n.toNat)) r).data.toList = r.data.toList ++ l.map (fun n => UInt8.ofNat n.toNat) := by
    intro l
    induction l with
    | nil => intro r; simp
    | cons x l ih => intro r; rw [List.foldl_cons, ih]; simp
  rw [ByteArray.toList_eq]
  have := key xs ByteArray.empty
  simpa [bytesStr] using this
theorem ofNat_inj {x y : Int} (hx : 0 ≤ x ∧ x < 256) (hy : 0 ≤ y ∧ y < 256) (h : UInt8.ofNat x.toNat = UInt8.ofNat y.toNat) : x = y := by
  have e := congrArg UInt8.toNat h
  simp only [UInt8.toNat_ofNat'] at e
  omega
theorem map_inj : ∀ {xs ys : List Int}, (∀ x ∈ xs, 0 ≤ x ∧ x < 256) → (∀ x ∈ ys, 0 ≤ x ∧ x < 256) → xs.map (fun n => UInt8.ofNat n.toNat) = ys.map (fun n => UInt8.ofNat n.toNat) → xs = ys
  | [], [], _, _, _ => rfl
  | [], _ :: _, _, _, h => by cases h
  | _ :: _, [], _, _, h => by cases h
  | x :: xs, y :: ys, hx, hy, h => by
    simp only [List.map_cons, List.cons.injEq] at h
    rw [ofNat_inj (hx x (by simp)) (hy y (by simp)) h.1, map_inj (fun z hz => hx z (by simp [hz])) (fun z hz => hy z (by simp [hz])) h.2]
theorem str_eq {xs ys : List Int} (hx : ∀ x ∈ xs, 0 ≤ x ∧ x < 256) (hy : ∀ x ∈ ys, 0 ≤ x ∧ x < 256) : ((bytesStr xs).toList == (bytesStr ys).toList) = decide (xs = ys) := by
  rw [bytesStr_list, bytesStr_list]
  by_cases h : xs = ys
  · subst h; simp
  · have : ¬ xs.map (fun n => UInt8.ofNat n.toNat) = ys.map (fun n => UInt8.ofNat n.toNat) := fun e => h (map_inj hx hy e)
    simp [h]
    exact this
theorem empty_bytes : ByteArray.empty = bytesStr [] := rfl
/-- A string constant's bytes. -/
theorem str_const {xs : List Int} (l : List UInt8) (h : xs.map (fun n => UInt8.ofNat n.toNat) = l) : ((bytesStr xs).toList == (ByteArray.mk l.toArray).toList) = true := by
  rw [bytesStr_list, ByteArray.toList_mk, h]; simp
end Go.Proofs.Ytaioclggifdnhaa
