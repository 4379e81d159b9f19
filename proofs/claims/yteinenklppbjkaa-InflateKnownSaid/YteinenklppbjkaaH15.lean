/- Layer 6, the reference: Codes. -/
import Derived.Test.YteinenklppbjkaaH14

import Derived.Test.YteinenklppbjkaaH11

import Derived.Test.YteinenklppbjkaaGb

set_option linter.unusedVariables false

set_option linter.unusedSimpArgs false

open Go.RowKit

namespace Go.Proofs.Yteinenklppbjkaa

set_option maxRecDepth 10000

theorem rowS_mem {ls : List Int} {n : Nat} {x : Nat × List Tell} (hx : ∀ t ∈ x.2, t.1 < ls.length ∧ 1 ≤ t.2.2 ∧ t.2.2 ≤ 15 ∧ ls.getD t.1 0 = (t.2.2 : Int)) (hn : 1 ≤ n ∧ n ≤ 15) : ∀ i, i ≤ ls.length → ∀ t ∈ (rowS ls n i x).2, t.1 < ls.length ∧ 1 ≤ t.2.2 ∧ t.2.2 ≤ 15 ∧ ls.getD t.1 0 = (t.2.2 : Int)
  | 0, _ => hx
  | i + 1, hi => by
    have ih := rowS_mem hx hn i (by omega)
    rw [rowS_succ]; unfold stepS
    split
    · rename_i hk
      intro t ht
      rcases List.mem_append.1 ht with ht | ht
      · exact ih t ht
      · obtain rfl := List.mem_singleton.1 ht
        exact ⟨by show i < _; omega, hn.1, hn.2, hk⟩
    · exact ih
theorem tellS_mem {ls : List Int} : ∀ n, n ≤ 15 → ∀ t ∈ (tellS ls n).2, t.1 < ls.length ∧ 1 ≤ t.2.2 ∧ t.2.2 ≤ 15 ∧ ls.getD t.1 0 = (t.2.2 : Int)
  | 0, _ => by intro t ht; cases ht
  | n + 1, hn => rowS_mem (x := (2 * (tellS ls n).1, (tellS ls n).2)) (tellS_mem n (by omega)) ⟨by omega, hn⟩ ls.length (Nat.le_refl _)
theorem allT_mem {ls : List Int} {t : Tell} (h : t ∈ allT ls) : t.1 < ls.length ∧ 1 ≤ t.2.2 ∧ t.2.2 ≤ 15 ∧ ls.getD t.1 0 = (t.2.2 : Int) := by
  unfold allT at h
  split at h
  · exact tellS_mem 15 (Nat.le_refl _) t h
  · cases h
theorem num_nn : ∀ l : List Bool, 0 ≤ num l
  | [] => Int.le_refl 0
  | b :: l => by have := num_nn l; simp only [num]; split <;> omega
theorem num_app : ∀ l l' : List Bool, num (l ++ l') = num l + 2 ^ l.length * num l'
  | [], l' => by simp [num]
  | b :: l, l' => by
    simp only [List.cons_append, num, num_app l l', List.length_cons, Int.pow_succ]
    rw [Int.mul_add, ← Int.mul_assoc, Int.mul_comm 2 (2 ^ l.length), Int.add_assoc]
theorem bitsC_succ (c n : Nat) : bitsC c (n + 1) = bitsC (c / 2) n ++ [decide (c % 2 = 1)] := by
  unfold bitsC
  rw [List.range_succ, List.map_append]
  congr 1
  · apply List.map_congr_left
    intro j hj
    have hj' : j < n := by simpa using hj
    rw [show n + 1 - 1 - j = (n - 1 - j) + 1 by omega, Nat.pow_succ, Nat.mul_comm, Nat.div_div_eq_div_mul]
  · simp
theorem turnG_num : ∀ (n c o : Nat), ((turnG n c o : Nat) : Int) = o * 2 ^ n + num (bitsC c n)
  | 0, c, o => by simp [turnG, bitsC, num]
  | n + 1, c, o => by
    simp only [turnG]
    rw [turnG_num n (c / 2) (2 * o + c % 2), bitsC_succ, num_app, bitsC_len]
    have e : num [decide (c % 2 = 1)] = ((c % 2 : Nat) : Int) := by
      simp only [num]
      rcases Nat.mod_two_eq_zero_or_one c with h | h <;> rw [h] <;> simp
    rw [e, Int.pow_succ]
    push_cast
    rw [Int.add_mul, Int.mul_comm 2 (o : Int), Int.mul_assoc, Int.mul_comm 2 (2 ^ n), Int.mul_comm ((c : Int) % 2) (2 ^ n)]
    omega
theorem num_turn (c n : Nat) : num (bitsC c n) = ((turnG n c 0 : Nat) : Int) := by rw [turnG_num]; simp
section

variable {M : AH} {K Kp : AV → AH → Prop}

end

theorem tsD_mem {ts : List Tell} {r : Nat} (h : r < ts.length) : ts.getD r default ∈ ts := by
  rw [List.getD_eq_getElem?_getD, List.getElem?_eq_getElem h]; exact List.getElem_mem h
theorem layC_take {ts : List Tell} {o : List Int} {i : Nat} (h : i < ts.length) : layC (ts.take (i + 1)) o = (layC (ts.take i) o).set (ts.getD i default).1 ((turnG (ts.getD i default).2.2 (ts.getD i default).2.1 0 % 65536 : Nat) : Int) := by
  rw [List.take_succ_eq_append_getElem h, layC_snoc, List.getD_eq_getElem?_getD, List.getElem?_eq_getElem h]; rfl
section

variable {ls : List Int} {c c0 : Nat} {Kp : AV → AH → Prop}

end

end Go.Proofs.Yteinenklppbjkaa
