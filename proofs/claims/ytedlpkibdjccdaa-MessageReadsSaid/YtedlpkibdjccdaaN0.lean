/- vignetteref21: Number, Value; vignetteref23: value, truth. -/
import Derived.Test.YtedlpkibdjccdaaPk

import Derived.Test.YtedlpkibdjccdaaM0

set_option linter.unusedVariables false

set_option linter.unusedSimpArgs false

open Go.RowKit

namespace Go.Proofs.Ytedlpkibdjccdaa

set_option maxRecDepth 10000

section

variable {K Kp : AV → AH → Prop}

theorem numberR_call {v : Int} {n : Nat} (hv : 0 ≤ v ∧ v < 18446744073709551616) (hn : n ≤ 1000) (h : K (.sl 0 0 0 n n) [.one true 0 (.ints .u8 (beW v n) n)]) :
    CallA Try.prog 24 [.int .u64 v, .int .i64 n] [] K Kp := by
  refine step24 (fun _ => [0]) [] rfl ?_
  repeat ((conv => whnf); first | with_reducible refine O_step ?_ | with_reducible refine S_step ?_ | with_reducible refine D_step ?_ | with_reducible refine RO.exit ?_ | with_reducible refine RO.ret ?_ | ((with_reducible refine And.intro ?sc ?_); case sc => exact side) | ((with_reducible refine br_f ?sc ?_); case sc => exact sideB) | ((with_reducible refine br_t ?sc ?_); case sc => exact sideB))
  refine WO.go (σ := Nat) (fun j => j ≤ n) (fun j => j) (fun j => [(0, .int .u64 (v / 256 ^ (n - j))), (5, .sl 0 0 0 n n), (6, .int .i64 ((j : Int) - 1))]) (fun j => [.one true 0 (.ints .u8 (List.replicate j 0 ++ beW v (n - j)) n)])
    n tb_ok mixed (by kernel_rfl) (Nat.le_refl _) (And.intro ?_ (And.intro rfl (And.intro rfl (trivial)))) (And.intro ?_ trivial) (fun _ => rfl) (fun _ => rfl) (fun _ => ⟨trivial, trivial⟩) ?_
  · show AV.int .u64 v = _
    rw [Nat.sub_self, Int.pow_zero, Int.ediv_one]
  · show AO.one true 0 (.ints .u8 (List.replicate n 0 ++ beW v (n - n)) n) = AO.one true 0 (.ints .u8 (List.replicate n 0) n)
    rw [Nat.sub_self, beW, List.append_nil]
  · intro j hj d
    have hp : (0 : Int) < 256 ^ (n - j) := Int.pow_pos (by decide)
    have hu : 0 ≤ v / 256 ^ (n - j) ∧ v / 256 ^ (n - j) < 18446744073709551616 := ⟨Int.ediv_nonneg hv.1 (by omega), Int.lt_of_le_of_lt (Int.ediv_le_self _ hv.1) hv.2⟩
    repeat ((conv => whnf); first | with_reducible refine O_step ?_ | with_reducible refine S_step ?_ | with_reducible refine D_step ?_ | with_reducible refine RO.exit ?_ | with_reducible refine RO.ret ?_ | ((with_reducible refine And.intro ?sc ?_); case sc => exact side) | ((with_reducible refine br_f ?sc ?_); case sc => exact sideB) | ((with_reducible refine br_t ?sc ?_); case sc => exact sideB))
    refine And.intro (fun hc => ?_) (fun hc => ?_)
    · have hc' : 0 ≤ (j : Int) - 1 := of_decide_eq_true hc
      obtain ⟨i, rfl⟩ : ∃ i, j = i + 1 := ⟨j - 1, by omega⟩
      have hlen : (List.replicate (i + 1) (0 : Int) ++ beW v (n - (i + 1))).length = n := by rw [List.length_append, List.length_replicate, beW_length]; omega
      repeat ((conv => whnf); first | with_reducible refine O_step ?_ | with_reducible refine S_step ?_ | with_reducible refine D_step ?_ | with_reducible refine RO.exit ?_ | with_reducible refine RO.ret ?_ | ((with_reducible refine And.intro ?sc ?_); case sc => exact side) | ((with_reducible refine br_f ?sc ?_); case sc => exact sideB) | ((with_reducible refine br_t ?sc ?_); case sc => exact sideB))
      refine RO.same i (show i ≤ n by omega) (show i < i + 1 by omega) (And.intro ?_ (And.intro rfl (And.intro ?_ trivial))) (And.intro ?_ trivial)
      · show AV.int .u64 ((v / 256 ^ (n - (i + 1))).tdiv 256 % 18446744073709551616) = AV.int .u64 (v / 256 ^ (n - i))
        rw [Int.tdiv_eq_ediv_of_nonneg hu.1, show v / 256 ^ (n - (i + 1)) / 256 % 18446744073709551616 = v / 256 ^ (n - (i + 1)) / 256 by omega, show n - i = n - (i + 1) + 1 by omega, Int.pow_succ, Int.ediv_ediv_of_nonneg (Int.le_of_lt hp)]
      · show AV.int .i64 (((i + 1 : Nat) : Int) - 1 - 1) = AV.int .i64 ((i : Int) - 1)
        rw [show ((i + 1 : Nat) : Int) - 1 - 1 = (i : Int) - 1 by omega]
      · show AO.one true 0 (.ints .u8 (List.replicate i 0 ++ beW v (n - i)) n) = AO.one true 0 (.ints .u8 ((List.replicate (i + 1) 0 ++ beW v (n - (i + 1))).set (((i + 1 : Nat) : Int) - 1).toNat ((v / 256 ^ (n - (i + 1))).tmod 256 % 256)) n)
        have hq : (256 : Int) ^ (n - (i + 1)) = 2 ^ (8 * (n - (i + 1))) := by rw [Int.pow_mul]; rfl
        rw [show (((i + 1 : Nat) : Int) - 1).toNat = i by omega, show n - i = n - (i + 1) + 1 by omega, beW, ← hq, List.replicate_succ', List.append_assoc, List.set_append_right _ _ (by simp), List.length_replicate, Nat.sub_self, Int.tmod_eq_emod_of_nonneg hu.1, show v / 256 ^ (n - (i + 1)) % 256 % 256 = v / 256 ^ (n - (i + 1)) % 256 by omega]
        rfl
    · skip
      have hc' : ¬ 0 ≤ (j : Int) - 1 := of_decide_eq_false hc
      obtain rfl : j = 0 := by omega
      repeat ((conv => whnf); first | with_reducible refine O_step ?_ | with_reducible refine S_step ?_ | with_reducible refine D_step ?_ | with_reducible refine RO.exit ?_ | with_reducible refine RO.ret ?_ | ((with_reducible refine And.intro ?sc ?_); case sc => exact side) | ((with_reducible refine br_f ?sc ?_); case sc => exact sideB) | ((with_reducible refine br_t ?sc ?_); case sc => exact sideB))
      exact h
theorem numberR_at {v : Int} {n : Nat} {M : AH} (hv : 0 ≤ v ∧ v < 18446744073709551616) (hn : n ≤ 1000) (h : K (.sl M.length 0 0 n n) (M ++ [.one true 0 (.ints .u8 (beW v n) n)])) :
    CallA Try.prog 24 [.int .u64 v, .int .i64 n] M K Kp := by
  refine CallA.lift [] (numberR_call (Kp := fun _ _ => False) (K := fun r M' => r = .sl 0 0 0 n n ∧ M' = [.one true 0 (.ints .u8 (beW v n) n)]) hv hn ⟨rfl, rfl⟩) rfl rfl trivial trivial ?_ (fun _ _ h => h.elim)
  rintro r M' ⟨rfl, rfl⟩
  exact ⟨rfl, h⟩
theorem valueR_call {b : List Int} {c : Nat} (hb : ∀ x ∈ b, 0 ≤ x ∧ x < 256) (hl : b.length ≤ 7) (h : K (.int .u64 (valB b 0)) [.one false 0 (.ints .u8 b c)]) :
    CallA Try.prog 26 [.sl 0 0 0 b.length c] [.one false 0 (.ints .u8 b c)] K Kp := by
  refine step26 (fun _ => [0]) [] rfl ?_
  repeat ((conv => whnf); first | with_reducible refine O_step ?_ | with_reducible refine S_step ?_ | with_reducible refine D_step ?_ | with_reducible refine RO.exit ?_ | with_reducible refine RO.ret ?_ | ((with_reducible refine And.intro ?sc ?_); case sc => exact side) | ((with_reducible refine br_f ?sc ?_); case sc => exact sideB) | ((with_reducible refine br_t ?sc ?_); case sc => exact sideB))
  refine WO.go (σ := Nat) (fun j => j ≤ b.length) (fun j => b.length - j) (fun j => [(0, .sl 0 0 0 b.length c), (3, .int .u64 (valB (b.take j) 0)), (4, .int .i64 j)]) (fun j => [.one false 0 (.ints .u8 b c)])
    0 tb_ok mixed (by kernel_rfl) (Nat.zero_le _) (And.intro rfl (And.intro rfl (And.intro rfl (trivial)))) (And.intro rfl (trivial)) (fun _ => rfl) (fun _ => rfl) (fun _ => ⟨trivial, trivial⟩) ?_
  intro j hj d
  repeat ((conv => whnf); first | with_reducible refine O_step ?_ | with_reducible refine S_step ?_ | with_reducible refine D_step ?_ | with_reducible refine RO.exit ?_ | with_reducible refine RO.ret ?_ | ((with_reducible refine And.intro ?sc ?_); case sc => exact side) | ((with_reducible refine br_f ?sc ?_); case sc => exact sideB) | ((with_reducible refine br_t ?sc ?_); case sc => exact sideB))
  refine And.intro (fun hc => ?_) (fun hc => ?_)
  · have hc' : (j : Int) < b.length := of_decide_eq_true hc
    have hbj : 0 ≤ b.getD j 0 ∧ b.getD j 0 < 256 := by
      rw [List.getD_eq_getElem?_getD, List.getElem?_eq_getElem (by omega)]; exact hb _ (List.getElem_mem _)
    repeat ((conv => whnf); first | with_reducible refine O_step ?_ | with_reducible refine S_step ?_ | with_reducible refine D_step ?_ | with_reducible refine RO.exit ?_ | with_reducible refine RO.ret ?_ | ((with_reducible refine And.intro ?sc ?_); case sc => exact side) | ((with_reducible refine br_f ?sc ?_); case sc => exact sideB) | ((with_reducible refine br_t ?sc ?_); case sc => exact sideB))
    refine RO.same (j + 1) (show j + 1 ≤ b.length by omega) (show b.length - (j + 1) < b.length - j by omega) (And.intro rfl (And.intro ?_ (And.intro rfl trivial))) (And.intro rfl trivial)
    show AV.int .u64 _ = AV.int .u64 (valB (b.take (j + 1)) 0)
    have hv := valB_bound (b.take j) 0 1 (fun x hx => hb x (List.mem_of_mem_take hx)) (by decide) (by decide)
    have ht : (b.take j).length = j := by rw [List.length_take]; omega
    rw [ht] at hv
    have hp : (256 : Int) ^ j ≤ 256 ^ 6 := by exact_mod_cast Nat.pow_le_pow_right (n := 256) (by decide) (show j ≤ 6 by omega)
    have hp6 : (256 : Int) ^ 6 = 281474976710656 := by decide
    have e : b.take (j + 1) = b.take j ++ [b.getD j 0] := by
      rw [List.take_add_one, List.getD_eq_getElem?_getD, List.getElem?_eq_getElem (by omega)]; rfl
    rw [e, valB_snoc]
    congr 1
    simp only [List.getD_eq_getElem?_getD] at hbj ⊢
    simp
    omega
  · have hc' : ¬ (j : Int) < b.length := of_decide_eq_false hc
    obtain rfl : j = b.length := by omega
    repeat ((conv => whnf); first | with_reducible refine O_step ?_ | with_reducible refine S_step ?_ | with_reducible refine D_step ?_ | with_reducible refine RO.exit ?_ | with_reducible refine RO.ret ?_ | ((with_reducible refine And.intro ?sc ?_); case sc => exact side) | ((with_reducible refine br_f ?sc ?_); case sc => exact sideB) | ((with_reducible refine br_t ?sc ?_); case sc => exact sideB))
    rw [List.take_length]
    exact h
theorem valueR_at {M : AH} {b Y : List Int} {i gi off c cY : Nat} {o1 : Bool} (hi : slot M i gi = some (o1, .ints .u8 Y cY)) (hc : off + c ≤ cY) (hY : b = (Y.drop off).take b.length) (hb : ∀ x ∈ b, 0 ≤ x ∧ x < 256) (hl : b.length ≤ 7) (h : K (.int .u64 (valB b 0)) M) :
    CallA Try.prog 26 [.sl i gi off b.length c] M K Kp := by
  refine CallA.lift [.win i gi off] (valueR_call (c := c) (Kp := fun _ _ => False) (K := fun r M' => r = .int .u64 (valB b 0) ∧ M' = [.one false 0 (.ints .u8 b c)]) hb hl ⟨rfl, rfl⟩) rfl rfl ⟨⟨_, _, _, rfl, hi, WinC.ints hc hY⟩, trivial⟩ ⟨trivial, trivial⟩ ?_ (fun _ _ h => h.elim)
  rintro r M' ⟨rfl, rfl⟩
  refine ⟨⟨rfl, rfl⟩, ?_⟩
  show K _ (M ++ [])
  rw [List.append_nil]; exact h
theorem truthR_at {v : Bool} {M : AH} (h : K (.int .u8 (if v then 1 else 0)) M) : CallA Try.prog 40 [.bo v] M K Kp := by
  refine CallA.at0 (v := .int .u8 (if v then 1 else 0)) ?_ (fun _ => rfl) rfl (fun _ => rfl) h
  cases v
  · refine step40 (fun _ => []) [] rfl ?_
    repeat ((conv => whnf); first | with_reducible refine O_step ?_ | with_reducible refine S_step ?_ | with_reducible refine D_step ?_ | with_reducible refine RO.exit ?_ | with_reducible refine RO.ret ?_ | ((with_reducible refine And.intro ?sc ?_); case sc => exact side) | ((with_reducible refine br_f ?sc ?_); case sc => exact sideB) | ((with_reducible refine br_t ?sc ?_); case sc => exact sideB))
    exact rfl
  · refine step40 (fun _ => []) [] rfl ?_
    repeat ((conv => whnf); first | with_reducible refine O_step ?_ | with_reducible refine S_step ?_ | with_reducible refine D_step ?_ | with_reducible refine RO.exit ?_ | with_reducible refine RO.ret ?_ | ((with_reducible refine And.intro ?sc ?_); case sc => exact side) | ((with_reducible refine br_f ?sc ?_); case sc => exact sideB) | ((with_reducible refine br_t ?sc ?_); case sc => exact sideB))
    exact rfl
/-- Bytes from a place on, as a number. -/
def valAt (b : List Int) (at' n : Nat) : Int := valB ((b.drop at').take n) 0
theorem valAt_bound {b : List Int} {j n : Nat} (hb : ∀ x ∈ b, 0 ≤ x ∧ x < 256) : 0 ≤ valAt b j n ∧ valAt b j n < 256 ^ ((b.drop j).take n).length := by
  have := valB_bound ((b.drop j).take n) 0 1 (fun x hx => hb x (List.mem_of_mem_drop (List.mem_of_mem_take hx))) (by decide) (by decide)
  rw [Int.one_mul] at this
  exact this
theorem vR_call {b : List Int} {c j n : Nat} (hb : ∀ x ∈ b, 0 ≤ x ∧ x < 256) (lb : b.length ≤ 1000000000) (kb : b.length ≤ c) (hn : n ≤ 4) (hn0 : 0 < n) (hj : j + n ≤ b.length) (h : K (.int .u32 (valAt b j n)) [.one false 0 (.ints .u8 b c)]) :
    CallA Try.prog 41 [.sl 0 0 0 b.length c, .int .i64 j, .int .i64 n] [.one false 0 (.ints .u8 b c)] K Kp := by
  refine step41 (fun _ => [0]) [] rfl ?_
  repeat ((conv => whnf); first | with_reducible refine O_step ?_ | with_reducible refine S_step ?_ | with_reducible refine D_step ?_ | with_reducible refine RO.exit ?_ | with_reducible refine RO.ret ?_ | ((with_reducible refine And.intro ?sc ?_); case sc => exact side) | ((with_reducible refine br_f ?sc ?_); case sc => exact sideB) | ((with_reducible refine br_t ?sc ?_); case sc => exact sideB))
  have hlen : ((b.drop j).take n).length = n := by rw [List.length_take, List.length_drop]; omega
  have e1 : offS c (Int.toNat (j : Int)) 0 1 = j := by rw [offS_1 (by show c ≠ (j : Int).toNat; omega)]; omega
  have e2 : ((j : Int) + n).toNat - (j : Int).toNat = ((b.drop j).take n).length := by rw [hlen]; omega
  refine (show CallA Try.prog 26 [.sl 0 0 (offS c (Int.toNat (j : Int)) 0 1) (((j : Int) + n).toNat - (j : Int).toNat) (c - (j : Int).toNat)] [.one false 0 (.ints .u8 b c)] _ _ from ?_)
  rw [e1, e2]
  refine valueR_at (Y := b) (cY := c) rfl (by omega) (by rw [hlen]) (fun x hx => hb x (List.mem_of_mem_drop (List.mem_of_mem_take hx))) (by omega) ?_
  have hv := valAt_bound (j := j) (n := n) hb
  rw [hlen] at hv
  have hp : (256 : Int) ^ n ≤ 256 ^ 4 := by exact_mod_cast Nat.pow_le_pow_right (n := 256) (by decide) hn
  have hp4 : (256 : Int) ^ 4 = 4294967296 := by decide
  repeat ((conv => whnf); first | with_reducible refine O_step ?_ | with_reducible refine S_step ?_ | with_reducible refine D_step ?_ | with_reducible refine RO.exit ?_ | with_reducible refine RO.ret ?_ | ((with_reducible refine And.intro ?sc ?_); case sc => exact side) | ((with_reducible refine br_f ?sc ?_); case sc => exact sideB) | ((with_reducible refine br_t ?sc ?_); case sc => exact sideB))
  rw [show valB ((b.drop j).take n) 0 % 4294967296 = valAt b j n by unfold valAt at *; omega]
  exact h
theorem vR_at {M : AH} {b Y : List Int} {i gi off c j n cY : Nat} {o1 : Bool} (hi : slot M i gi = some (o1, .ints .u8 Y cY)) (hc : off + c ≤ cY) (hY : b = (Y.drop off).take b.length) (hb : ∀ x ∈ b, 0 ≤ x ∧ x < 256) (lb : b.length ≤ 1000000000) (kb : b.length ≤ c) (hn : n ≤ 4) (hn0 : 0 < n) (hj : j + n ≤ b.length) (h : K (.int .u32 (valAt b j n)) M) :
    CallA Try.prog 41 [.sl i gi off b.length c, .int .i64 j, .int .i64 n] M K Kp := by
  refine CallA.lift [.win i gi off] (vR_call (c := c) (Kp := fun _ _ => False) (K := fun r M' => r = .int .u32 (valAt b j n) ∧ M' = [.one false 0 (.ints .u8 b c)]) hb lb kb hn hn0 hj ⟨rfl, rfl⟩) rfl rfl ⟨⟨_, _, _, rfl, hi, WinC.ints hc hY⟩, trivial⟩ ⟨trivial, trivial⟩ ?_ (fun _ _ h => h.elim)
  rintro r M' ⟨rfl, rfl⟩
  refine ⟨⟨rfl, rfl⟩, ?_⟩
  show K _ (M ++ [])
  rw [List.append_nil]; exact h
end

end Go.Proofs.Ytedlpkibdjccdaa
