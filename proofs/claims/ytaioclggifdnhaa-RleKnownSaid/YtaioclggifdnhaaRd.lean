/- Layer 11: what Decode answers, plainly; the reference's Decode. -/
import Derived.Test.YtaioclggifdnhaaRc
set_option linter.unusedVariables false
set_option linter.unusedSimpArgs false
open Go.RowKit
namespace Go.Proofs.Ytaioclggifdnhaa
set_option maxRecDepth 10000

/-- Runs, told one behind the other; n pixels are wanted. -/
def decG (n : Nat) : List Int → List Int → Option (List Int)
  | k :: x :: y :: z :: l, out => if out.length + (k.toNat + 1) ≤ n then decG n l (out ++ List.replicate (k.toNat + 1) (x * 65536 + y * 256 + z)) else none
  | [], out => if out.length = n then some out else none
  | _, _ => none
/-- Decode: the pixels and the error's number. -/
def decF (b : List Int) (n : Int) : List Int × Int :=
  if n < 0 ∨ n > 65536 then ([], 1) else match decG n.toNat b [] with
  | some l => (l, 0)
  | none => ([], 131)

theorem decG_short {n : Nat} {b out : List Int} (h : 0 < b.length) (h4 : b.length < 4) : decG n b out = none := by
  match b, h, h4 with
  | [_], _, _ => rfl
  | [_, _], _, _ => rfl
  | [_, _, _], _, _ => rfl
  | _ :: _ :: _ :: _ :: _, _, h4 => simp at h4; omega
theorem decG_step {n : Nat} {b out : List Int} {i : Nat} (h : i + 4 ≤ b.length) : decG n (b.drop i) out = if out.length + ((b.getD i 0).toNat + 1) ≤ n then decG n (b.drop (i + 4)) (out ++ List.replicate ((b.getD i 0).toNat + 1) (b.getD (i + 1) 0 * 65536 + b.getD (i + 2) 0 * 256 + b.getD (i + 3) 0)) else none := by
  rw [List.drop_eq_getElem_cons (by omega), List.drop_eq_getElem_cons (by omega), List.drop_eq_getElem_cons (i := i + 1 + 1) (by omega), List.drop_eq_getElem_cons (i := i + 1 + 1 + 1) (by omega)]
  simp only [decG]
  have g : ∀ k, (hk : k < b.length) → b.getD k 0 = b[k] := fun k hk => by simp [List.getD_eq_getElem?_getD, hk]
  rw [g i (by omega), g (i + 1) (by omega), g (i + 2) (by omega), g (i + 3) (by omega)]
/-- Bytes that are no whole runs. -/
theorem decG_mod {n : Nat} : ∀ (b out : List Int), b.length % 4 ≠ 0 → decG n b out = none
  | [], _, h => by simp at h
  | [_], _, _ => rfl
  | [_, _], _, _ => rfl
  | [_, _, _], _, _ => rfl
  | _ :: _ :: _ :: _ :: l, out, h => by
    simp only [decG]
    split
    · exact decG_mod l _ (by simp only [List.length_cons] at h; omega)
    · rfl
theorem decG_length {n : Nat} : ∀ (b out l : List Int), decG n b out = some l → l.length = n
  | [], out, l, h => by
    simp only [decG] at h
    split at h
    · cases h; assumption
    · cases h
  | [_], _, _, h => by cases h
  | [_, _], _, _, h => by cases h
  | [_, _, _], _, _, h => by cases h
  | _ :: _ :: _ :: _ :: b, out, l, h => by
    simp only [decG] at h
    split at h
    · exact decG_length b _ l h
    · cases h
end Go.Proofs.Ytaioclggifdnhaa
