/- Layer 6, the reference: All. -/
import Derived.Test.YteinenklppbjkaaH13

set_option linter.unusedVariables false

set_option linter.unusedSimpArgs false

open Go.RowKit

namespace Go.Proofs.Yteinenklppbjkaa

set_option maxRecDepth 10000

abbrev Tell := Nat × Nat × Nat

def lastC (ts : List Tell) : Nat := match ts.getLast? with | some t => t.2.1 | none => 0
def lastN (ts : List Tell) : Nat := match ts.getLast? with | some t => t.2.2 | none => 0
theorem lastC_snoc (ts : List Tell) (t : Tell) : lastC (ts ++ [t]) = t.2.1 := by simp [lastC]
theorem lastN_snoc (ts : List Tell) (t : Tell) : lastN (ts ++ [t]) = t.2.2 := by simp [lastN]
/-- A code's bits, the first one first. -/
def bitsC (code n : Nat) : List Bool := (List.range n).map fun j => decide (code / 2 ^ (n - 1 - j) % 2 = 1)
theorem bitsC_len (code n : Nat) : (bitsC code n).length = n := by simp [bitsC]
def bF (ts : List Tell) (cv : Nat → Nat) : Nat → Cont := fun j => .bools (bitsC (ts.getD j default).2.1 (ts.getD j default).2.2) (cv j)
abbrev gT (f : Nat) (cv : Nat → Nat) (ts : List Tell) : Nat → List AV := fun j => [.int .i64 ((ts.getD j default).1 : Int), .sl f j 0 (ts.getD j default).2.2 (cv j)]

def tO (f : Nat) (cv : Nat → Nat) (g c : Nat) (ts : List Tell) : AO := .one true g (.tab 2 ts.length (gT f cv ts) c)
theorem getD_app {ts : List Tell} {t : Tell} {r : Nat} (h : r < ts.length) : (ts ++ [t]).getD r default = ts.getD r default := by
  simp [List.getD_eq_getElem?_getD, List.getElem?_append_left h]
theorem getD_last {ts : List Tell} {t : Tell} : (ts ++ [t]).getD ts.length default = t := by simp [List.getD_eq_getElem?_getD]
theorem rowS_cnt (ls : List Int) (n : Nat) (x : Nat × List Tell) : ∀ i, (rowS ls n i x).2.length ≤ x.2.length + i
  | 0 => Nat.le_refl _
  | i + 1 => by
    have := rowS_cnt ls n x i
    rw [rowS_succ]; unfold stepS; split
    · show ((rowS ls n i x).2 ++ [_]).length ≤ _; rw [List.length_append]; simp only [List.length_singleton]; omega
    · omega
theorem tellS_cnt (ls : List Int) : ∀ n, (tellS ls n).2.length ≤ n * ls.length
  | 0 => by simp [tellS]
  | n + 1 => by
    have ih := tellS_cnt ls n
    have := rowS_cnt ls (n + 1) (2 * (tellS ls n).1, (tellS ls n).2) ls.length
    simp only [tellS]
    rw [show (n + 1) * ls.length = n * ls.length + ls.length from Nat.succ_mul n _]
    exact Nat.le_trans this (by show (tellS ls n).2.length + ls.length ≤ n * ls.length + ls.length; omega)
/-- How the next code hangs together with the last one. -/
def nextJ (n np : Nat) (ts : List Tell) : Prop := (ts = [] → np = 0) ∧ (ts ≠ [] → np = (lastC ts + 1) * 2 ^ (n - lastN ts) ∧ lastN ts ≤ n)
theorem nextJ_up {n np : Nat} {ts : List Tell} (h : nextJ n np ts) : nextJ (n + 1) (2 * np) ts := by
  refine ⟨fun e => by have := h.1 e; omega, fun e => ?_⟩
  obtain ⟨h1, h2⟩ := h.2 e
  refine ⟨?_, by omega⟩
  rw [show n + 1 - lastN ts = (n - lastN ts) + 1 by omega, Nat.pow_succ, h1, Nat.mul_comm 2, Nat.mul_assoc]
theorem nextJ_snoc {n np s : Nat} {ts : List Tell} : nextJ n (np + 1) (ts ++ [(s, np, n)]) := by
  refine ⟨fun e => by simp at e, fun _ => ?_⟩
  rw [lastC_snoc, lastN_snoc]
  exact ⟨by simp, Nat.le_refl _⟩
def allT (ls : List Int) : List Tell := if eachE ls = 0 then (tellS ls 15).2 else []
def allH (ls : List Int) (c : Nat) (cv : Nat → Nat) (g d : Nat) (ts : List Tell) : AH := [.one false 0 (.ints .u8 ls c), .fam true ts.length (bF ts cv), tO 1 cv g d ts]
theorem allH_nb {ls : List Int} {c g d : Nat} {cv : Nat → Nat} {ts : List Tell} : nbH (allH ls c cv g d ts).length (allH ls c cv g d ts) := ⟨trivial, fun _ => trivial, fun _ => rfl, trivial⟩
section

variable {ls : List Int} {c c0 : Nat} {Kp : AV → AH → Prop}

end

end Go.Proofs.Yteinenklppbjkaa
