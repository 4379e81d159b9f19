/- Layer 6, the reference: wrong. -/
import Derived.Test.YteinenklppbjkaaH10

set_option linter.unusedVariables false

set_option linter.unusedSimpArgs false

open Go.RowKit

namespace Go.Proofs.Yteinenklppbjkaa

set_option maxRecDepth 10000

theorem shr_room (a : Nat) (h : a ≤ 15) : shrF .i64 32768 (a : Int) = ((2 ^ (15 - a) : Nat) : Int) := by
  have : ∀ a, a < 16 → shrF .i64 32768 ((a : Nat) : Int) = ((2 ^ (15 - a) : Nat) : Int) := by decide
  exact this a (by omega)
section

variable {ls : List Int} {c c0 : Nat} {K Kp : AV → AH → Prop}

end

end Go.Proofs.Yteinenklppbjkaa
