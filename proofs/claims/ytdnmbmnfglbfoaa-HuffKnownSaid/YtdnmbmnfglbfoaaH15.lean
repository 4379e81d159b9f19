/- Layer 6, the reference: Codes. -/
import Derived.Test.YtdnmbmnfglbfoaaH14

import Derived.Test.YtdnmbmnfglbfoaaH11

import Derived.Test.YtdnmbmnfglbfoaaGb

set_option linter.unusedVariables false

set_option linter.unusedSimpArgs false

open Go.RowKit

namespace Go.Proofs.Ytdnmbmnfglbfoaa

set_option maxRecDepth 10000

theorem rowS_mem {ls : List Int} {n : Nat} {x : Nat × List Tell} (hx : ∀ t ∈ x.2, t.1 < ls.length ∧ 1 ≤ t.2.2 ∧ t.2.2 ≤ 15 ∧ ls.getD t.1 0 = (t.2.2 : Int)) (hn : 1 ≤ n ∧ n ≤ 15) : ∀ i, i ≤ ls.length → ∀ t ∈ (rowS ls n i x).2, t.1 < ls.length ∧ 1 ≤ t.2.2 ∧ t.2.2 ≤ 15 ∧ ls.getD t.1 0 = (t.2.2 : Int)
  | 0, _ => hx
  | i + 1, hi => by
    have ih := rowS_mem hx hn i (by omega)
    rw [rowS_succ]; unfold stepS
    split
    · rename_i hk
      intro t ht
      rcases List.mem_append.1 ht with ht | ht
      · exact ih t ht
      · obtain rfl := List.mem_singleton.1 ht
        exact ⟨by show i < _; omega, hn.1, hn.2, hk⟩
    · exact ih
theorem tellS_mem {ls : List Int} : ∀ n, n ≤ 15 → ∀ t ∈ (tellS ls n).2, t.1 < ls.length ∧ 1 ≤ t.2.2 ∧ t.2.2 ≤ 15 ∧ ls.getD t.1 0 = (t.2.2 : Int)
  | 0, _ => by intro t ht; cases ht
  | n + 1, hn => rowS_mem (x := (2 * (tellS ls n).1, (tellS ls n).2)) (tellS_mem n (by omega)) ⟨by omega, hn⟩ ls.length (Nat.le_refl _)
theorem allT_mem {ls : List Int} {t : Tell} (h : t ∈ allT ls) : t.1 < ls.length ∧ 1 ≤ t.2.2 ∧ t.2.2 ≤ 15 ∧ ls.getD t.1 0 = (t.2.2 : Int) := by
  unfold allT at h
  split at h
  · exact tellS_mem 15 (Nat.le_refl _) t h
  · cases h
theorem num_nn : ∀ l : List Bool, 0 ≤ num l
  | [] => Int.le_refl 0
  | b :: l => by have := num_nn l; simp only [num]; split <;> omega
theorem num_app : ∀ l l' : List Bool, num (l ++ l') = num l + 2 ^ l.length * num l'
  | [], l' => by simp [num]
  | b :: l, l' => by
    simp only [List.cons_append, num, num_app l l', List.length_cons, Int.pow_succ]
    rw [Int.mul_add, ← Int.mul_assoc, Int.mul_comm 2 (2 ^ l.length), Int.add_assoc]
theorem bitsC_succ (c n : Nat) : bitsC c (n + 1) = bitsC (c / 2) n ++ [decide (c % 2 = 1)] := by
  unfold bitsC
  rw [List.range_succ, List.map_append]
  congr 1
  · apply List.map_congr_left
    intro j hj
    have hj' : j < n := by simpa using hj
    rw [show n + 1 - 1 - j = (n - 1 - j) + 1 by omega, Nat.pow_succ, Nat.mul_comm, Nat.div_div_eq_div_mul]
  · simp
theorem turnG_num : ∀ (n c o : Nat), ((turnG n c o : Nat) : Int) = o * 2 ^ n + num (bitsC c n)
  | 0, c, o => by simp [turnG, bitsC, num]
  | n + 1, c, o => by
    simp only [turnG]
    rw [turnG_num n (c / 2) (2 * o + c % 2), bitsC_succ, num_app, bitsC_len]
    have e : num [decide (c % 2 = 1)] = ((c % 2 : Nat) : Int) := by
      simp only [num]
      rcases Nat.mod_two_eq_zero_or_one c with h | h <;> rw [h] <;> simp
    rw [e, Int.pow_succ]
    push_cast
    rw [Int.add_mul, Int.mul_comm 2 (o : Int), Int.mul_assoc, Int.mul_comm 2 (2 ^ n), Int.mul_comm ((c : Int) % 2) (2 ^ n)]
    omega
theorem num_turn (c n : Nat) : num (bitsC c n) = ((turnG n c 0 : Nat) : Int) := by rw [turnG_num]; simp
section

variable {M : AH} {K Kp : AV → AH → Prop}

theorem rnumber_slot {i g n c co : Nat} {own : Bool} {xs : List Bool} (hi : slot M i g = some (own, .bools xs co)) (hn : n = xs.length) (hb : xs.length ≤ 31)
    (h : K (.int .u32 (num xs)) M) : CallA Try.prog 37 [.sl i g 0 n c] M K Kp := by
  subst hn
  refine CallA.lift [.win i g 0] (rnumber_call (xs := xs) (c0 := c) (c := co) (K := fun r M => r = .int .u32 (num xs) ∧ M = [.one false 0 (.bools xs co)]) (Kp := fun _ _ => False) hb ⟨rfl, rfl⟩) rfl rfl ⟨⟨_, _, _, rfl, hi, WinC.same rfl (fun h => h)⟩, trivial⟩ ⟨trivial, trivial⟩ ?_ (fun _ _ h => h.elim)
  rintro r M' ⟨rfl, rfl⟩
  rw [← List.append_nil M] at h
  exact ⟨⟨rfl, rfl⟩, h⟩
end

theorem tsD_mem {ts : List Tell} {r : Nat} (h : r < ts.length) : ts.getD r default ∈ ts := by
  rw [List.getD_eq_getElem?_getD, List.getElem?_eq_getElem h]; exact List.getElem_mem h
theorem layC_take {ts : List Tell} {o : List Int} {i : Nat} (h : i < ts.length) : layC (ts.take (i + 1)) o = (layC (ts.take i) o).set (ts.getD i default).1 ((turnG (ts.getD i default).2.2 (ts.getD i default).2.1 0 % 65536 : Nat) : Int) := by
  rw [List.take_succ_eq_append_getElem h, layC_snoc, List.getD_eq_getElem?_getD, List.getElem?_eq_getElem h]; rfl
section

variable {ls : List Int} {c c0 : Nat} {Kp : AV → AH → Prop}

theorem rcodes_call (hl : ls.length ≤ 2000) (hu : ∀ x ∈ ls, 0 ≤ x ∧ x < 256) :
    CallA Try.prog 16 [.sl 0 0 0 ls.length c0] [.one false 0 (.ints .u8 ls c)]
      (fun r M => ∃ g' c', r = .tup [.sl 1 g' 0 (codesF ls).1.length c', .int .i64 (codesF ls).2] ∧ M = [.one false 0 (.ints .u8 ls c), .one true g' (.ints .u16 (codesF ls).1 c')] ∧ (codesF ls).1.length ≤ c') Kp := by
  refine CallA.post_pick ?_
  refine CallA.post_view ?_
  refine step16 (fun _ => [2]) [] rfl ?_
  repeat ((conv => whnf); first | with_reducible refine O_step ?_ | with_reducible refine S_step ?_ | with_reducible refine D_step ?_ | with_reducible refine RO.exit ?_ | with_reducible refine RO.ret ?_ | ((with_reducible refine And.intro ?sc ?_); case sc => exact side) | ((with_reducible refine br_f ?sc ?_); case sc => exact sideB) | ((with_reducible refine br_t ?sc ?_); case sc => exact sideB))
  refine CallA.mono (all_call (Kp := fun _ _ => False) hl hu) ?_ (fun _ _ h => h.elim)
  rintro r M ⟨g, d, cv, rfl, rfl, hd⟩
  repeat ((conv => whnf); first | with_reducible refine O_step ?_ | with_reducible refine S_step ?_ | with_reducible refine D_step ?_ | with_reducible refine RO.exit ?_ | with_reducible refine RO.ret ?_ | ((with_reducible refine And.intro ?sc ?_); case sc => exact side) | ((with_reducible refine br_f ?sc ?_); case sc => exact sideB) | ((with_reducible refine br_t ?sc ?_); case sc => exact sideB))
  refine And.intro (fun h1 => ?_) (fun h1 => ?_)
  · have h1' : ¬ eachE ls = 0 := by simpa using h1
    repeat ((conv => whnf); first | with_reducible refine O_step ?_ | with_reducible refine S_step ?_ | with_reducible refine D_step ?_ | with_reducible refine RO.exit ?_ | with_reducible refine RO.ret ?_ | ((with_reducible refine And.intro ?sc ?_); case sc => exact side) | ((with_reducible refine br_f ?sc ?_); case sc => exact sideB) | ((with_reducible refine br_t ?sc ?_); case sc => exact sideB))
    refine ⟨_, _, Vw.canon (x := .ints .u16 [] 0) ⟨rfl, rfl⟩ (cnL_cons (cnV_tup (cnL_cons (by simp only [cnV]; exact .inr rfl) (cnL_cons (cnV_refl _ _) (cnL_nil _)))) (cnL_nil _)), [.sha 0, .own 3], .tup [.sl 1 0 0 0 0, .int .i64 (eachE ls)], [.one false 0 (.ints .u8 ls c), .one true 0 (.ints .u16 [] 0)], ⟨⟨⟨rfl, _, rfl, rfl⟩, ⟨rfl, rfl⟩, trivial⟩, rfl, ⟨trivial, trivial, trivial⟩, rfl, ?_⟩, ?_⟩
    · intro i hi
      match i, hi with
      | 0, _ => exact .inr rfl
    · unfold codesF
      rw [if_neg h1']
      exact ⟨0, 0, rfl, rfl, Nat.le_refl _⟩
  have h1' : eachE ls = 0 := by simpa using h1
  have ht : allT ls = (tellS ls 15).2 := by unfold allT; rw [if_pos h1']
  have htl : (allT ls).length ≤ 15 * ls.length := by rw [ht]; exact tellS_cnt ls 15
  repeat ((conv => whnf); first | with_reducible refine O_step ?_ | with_reducible refine S_step ?_ | with_reducible refine D_step ?_ | with_reducible refine RO.exit ?_ | with_reducible refine RO.ret ?_ | ((with_reducible refine And.intro ?sc ?_); case sc => exact side))
  refine WO.go (σ := Nat × List Int) (fun s => s.1 ≤ (allT ls).length ∧ s.2 = layC ((allT ls).take s.1) (List.replicate ls.length 0)) (fun s => (allT ls).length - s.1)
    (fun s => [(4, .sl 2 g 0 (allT ls).length d), (6, .sl 3 0 0 ls.length ls.length), (7, .int .i64 (s.1 : Int))])
    (fun s => [.one false 0 (.ints .u8 ls c), .fam true (allT ls).length (bF (allT ls) cv), tO 1 cv g d (allT ls), .one true 0 (.ints .u16 s.2 ls.length)]) (0, List.replicate ls.length 0) tb_ok mixed (by kernel_rfl) ⟨Nat.zero_le _, rfl⟩ (And.intro rfl (And.intro rfl (And.intro rfl (trivial)))) (And.intro rfl (And.intro rfl (And.intro rfl (And.intro rfl (trivial))))) (fun _ => rfl) (fun _ => rfl) (fun _ => ⟨trivial, fun _ => trivial, fun _ => rfl, trivial, trivial⟩) ?_
  rintro ⟨i, o⟩ ⟨i1, i2⟩ d1
  simp only at i1 i2
  have hol : o.length = ls.length := by rw [i2, layC_len, List.length_replicate]
  repeat ((conv => whnf); first | with_reducible refine O_step ?_ | with_reducible refine S_step ?_ | with_reducible refine D_step ?_ | with_reducible refine RO.exit ?_ | with_reducible refine RO.ret ?_ | ((with_reducible refine And.intro ?sc ?_); case sc => exact side))
  refine And.intro (fun hi => ?_) (fun hi => ?_)
  · have hil : i < (allT ls).length := by simp only [decide_eq_true_eq] at hi; omega
    obtain ⟨m1, m2, m3, m4⟩ := allT_mem (tsD_mem hil)
    have m1' : ((allT ls).getD (i : Int).toNat default).1 < ls.length := m1
    repeat ((conv => whnf); first | with_reducible refine O_step ?_ | with_reducible refine S_step ?_ | with_reducible refine D_step ?_ | with_reducible refine RO.exit ?_ | with_reducible refine RO.ret ?_ | ((with_reducible refine And.intro ?sc ?_); case sc => exact side))
    refine rnumber_slot (i := 1) (g := i) (own := true) (xs := bitsC ((allT ls).getD i default).2.1 ((allT ls).getD i default).2.2) (co := cv i) (by show (if i < (allT ls).length then some (true, bF (allT ls) cv i) else none) = _; rw [if_pos hil]; rfl) (by rw [bitsC_len]; rfl) (by rw [bitsC_len]; omega) ?_
    have hnum := num_turn ((allT ls).getD i default).2.1 ((allT ls).getD i default).2.2
    have hnn := num_nn (bitsC ((allT ls).getD i default).2.1 ((allT ls).getD i default).2.2)
    repeat ((conv => whnf); first | with_reducible refine O_step ?_ | with_reducible refine S_step ?_ | with_reducible refine D_step ?_ | with_reducible refine RO.exit ?_ | with_reducible refine RO.ret ?_ | ((with_reducible refine And.intro ?sc ?_); case sc => exact side))
    refine RO.same (i + 1, o.set ((((allT ls).getD i default).1 : Int).toNat + 0) (num (bitsC ((allT ls).getD i default).2.1 ((allT ls).getD i default).2.2) % 65536)) ⟨by show i + 1 ≤ _; omega, ?_⟩ (show (allT ls).length - (i + 1) < (allT ls).length - i by omega) (And.intro rfl (And.intro rfl (And.intro rfl (trivial)))) (And.intro rfl (And.intro rfl (And.intro rfl (And.intro rfl (trivial)))))
    show o.set _ _ = layC ((allT ls).take (i + 1)) _
    rw [layC_take hil, ← i2, hnum, Int.toNat_natCast, Nat.add_zero]
    rfl
  · have hil : i = (allT ls).length := by simp only [decide_eq_false_iff_not] at hi; omega
    repeat ((conv => whnf); first | with_reducible refine O_step ?_ | with_reducible refine S_step ?_ | with_reducible refine D_step ?_ | with_reducible refine RO.exit ?_ | with_reducible refine RO.ret ?_ | ((with_reducible refine And.intro ?sc ?_); case sc => exact side))
    refine ⟨_, _, Vw.refl _ _, [.sha 0, .own 3], .tup [.sl 1 0 0 ls.length ls.length, .int .i64 0], [.one false 0 (.ints .u8 ls c), .one true 0 (.ints .u16 o ls.length)], ⟨⟨⟨rfl, _, rfl, rfl⟩, ⟨rfl, rfl⟩, trivial⟩, rfl, ⟨trivial, trivial, trivial⟩, rfl, ?_⟩, ?_⟩
    · intro i hi
      match i, hi with
      | 0, _ => exact .inr rfl
    · unfold codesF
      rw [if_pos h1', i2, hil, List.take_length, ht]
      exact ⟨0, ls.length, by simp only [layC_len, List.length_replicate], rfl, by simp only [layC_len, List.length_replicate]; exact Nat.le_refl _⟩
end

end Go.Proofs.Ytdnmbmnfglbfoaa
