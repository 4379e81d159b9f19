/- From a contract in which nothing is owned to a call as the rows want it. -/
import Derived.Test.YteinenklppbjkaaG2
set_option linter.unusedVariables false
set_option linter.unusedSimpArgs false
open Go.RowKit
namespace Go.Proofs.Yteinenklppbjkaa

def noOwn : AH → Bool
  | [] => true
  | .one true _ _ :: _ => false
  | .fam true _ _ :: _ => false
  | _ :: M => noOwn M
theorem noOwn_slot : ∀ {M : AH}, noOwn M = true → ∀ {i g : Nat} {x : Cont}, slot M i g ≠ some (true, x)
  | [], _, i, g, x, hs => by simp [slot] at hs
  | o :: M, h, 0, g, x, hs => by
    simp only [slot, List.getElem?_cons_zero] at hs
    cases o with
    | gone => cases hs
    | one own g' y =>
      cases own with
      | true => cases h
      | false => simp only [slotO] at hs; split at hs <;> simp at hs
    | fam own n y =>
      cases own with
      | true => cases h
      | false => simp only [slotO] at hs; split at hs <;> simp at hs
  | o :: M, h, i + 1, g, x, hs => by
    have h' : noOwn M = true := by
      cases o with
      | gone => exact h
      | one own g' y => cases own <;> first | exact h | cases h
      | fam own n y => cases own <;> first | exact h | cases h
    exact noOwn_slot h' (i := i) (g := g) (x := x) (by simpa [slot] using hs)

/-- A law that is true, on arguments that it only reads. -/
theorem CallA.law {P : Program} {g : Nat} {args : List AV} {M : AH} (h : CallA P g args M (fun r _ => r = .bo true) (fun _ _ => False)) (hn : noOwn M = true) {ρ : Env} {w : World} (hs : Sim ρ M w) (hok : AV.okl ρ args) :
    Calls P g (AV.cl ρ args).toArray w fun e w' => e = .returned (.bool true) ∧ Below w.heap.size w w' := by
  unfold CallA at h
  refine Calls.mono (h.2 ρ w hs hok) fun e w' he => ?_
  obtain ⟨ρ', M', h1, h2, h3⟩ := he
  cases e with
  | returned v =>
    obtain ⟨r, e1, e2, e3⟩ := h3
    subst e3
    exact ⟨by rw [e1]; rfl, ⟨h2.os, h2.tape, h2.output, h2.size, fun k hk => h2.frame k hk fun i g x q hs _ => absurd hs (noOwn_slot hn)⟩⟩
  | panicked ch => obtain ⟨r, e1, e2, e3⟩ := h3; exact e3.elim
  | outgrown => exact h3.elim
end Go.Proofs.Yteinenklppbjkaa
