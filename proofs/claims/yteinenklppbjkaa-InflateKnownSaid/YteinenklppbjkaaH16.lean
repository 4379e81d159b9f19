/- Layer 6, the reference: begins, Read. -/
import Derived.Test.YteinenklppbjkaaH14

import Derived.Test.YteinenklppbjkaaGb

set_option linter.unusedVariables false

set_option linter.unusedSimpArgs false

open Go.RowKit

namespace Go.Proofs.Yteinenklppbjkaa

set_option maxRecDepth 10000

/-- Does the first row begin with the second one? -/
def begB (xs ys : List Bool) : Bool := decide (ys.length ≤ xs.length) && decide (xs.take ys.length = ys)
section

variable {xs ys : List Bool} {c0 c1 c d : Nat} {M : AH} {K Kp : AV → AH → Prop}

/-- What Read answers, by definition. -/
def segF (row : List Bool) (a b : Nat) : List Bool := (row.drop a).take (b - a)
def hitB (seg : List Bool) (t : Tell) : Bool := decide (bitsC t.2.1 t.2.2 = seg)
def refG (ts : List Tell) (row : List Bool) (a : Nat) : Nat → Nat → Int × Nat × Int
  | 0, b => (0, b, 50)
  | f + 1, b => match ts.find? (hitB (segF row a b)) with
    | some t => ((t.1 : Int), b, 0)
    | none => if ts.any (fun t => begB (bitsC t.2.1 t.2.2) (segF row a b)) = true then if b = row.length then (0, b, 50) else refG ts row a f (b + 1) else (0, b, 60)
def refF (ts : List Tell) (row : List Bool) (a : Nat) : Int × Nat × Int := refG ts row a (row.length - a + 1) a
def rrH (cv : Nat → Nat) (d cr : Nat) (ts : List Tell) (row : List Bool) : AH := [.fam false ts.length (bF ts cv), .one false 0 (.tab 2 ts.length (gT 0 cv ts) d), .one false 0 (.bools row cr)]
end

end Go.Proofs.Yteinenklppbjkaa
