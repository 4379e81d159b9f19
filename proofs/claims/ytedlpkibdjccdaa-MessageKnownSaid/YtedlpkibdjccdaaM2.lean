/- Layer 23: a pen's number, when it reads. -/
import Derived.Test.YtedlpkibdjccdaaM1

set_option linter.unusedVariables false

set_option linter.unusedSimpArgs false

open Go.RowKit

namespace Go.Proofs.Ytedlpkibdjccdaa

set_option maxRecDepth 10000



theorem numR_call {v : Int} {k off n c cX : Nat} {c0 : AV} {bad : Bool} {R : List AV} {X : List Int} {K Kp : AV → AH → Prop} (hk8 : k ≤ 8) (h0 : isB c0 bad) (hn : off + n ≤ X.length ∧ n ≤ c) (hX : ∀ x ∈ X, 0 ≤ x ∧ x < 256) (hl : X.length ≤ 1000000000) (hR : AV.nbl 2 R = true)
    (hb : (bad = true ∨ n < k) → ∀ c1, isB c1 true → K (.int .u64 0) [.one true 0 (.cells (c1 :: .ff :: .sl 1 0 off n c :: R)), .one false 0 (.ints .u8 X cX)])
    (hk : bad = false → k ≤ n → ∀ off' c', off' + (n - k) ≤ X.length → n - k ≤ c' → (X.drop off').take (n - k) = ((X.drop off).take n).drop k → K (.int .u64 (valB (((X.drop off).take n).take k) 0)) [.one true 0 (.cells (.bo false :: .ff :: .sl 1 0 off' (n - k) c' :: R)), .one false 0 (.ints .u8 X cX)]) :
    CallA Try.prog 22 [.ptr 0 0 0, .int .u64 v, .int .i64 k] [.one true 0 (.cells (c0 :: .ff :: .sl 1 0 off n c :: R)), .one false 0 (.ints .u8 X cX)] K Kp := by
  refine step22 (fun _ => [0]) [] rfl ?_
  rcases h0 with rfl | ⟨rfl, rfl⟩ | ⟨rfl, rfl⟩
  rotate_left
  · repeat ((conv => whnf); first | with_reducible refine O_step ?_ | with_reducible refine S_step ?_ | with_reducible refine D_step ?_ | with_reducible refine RO.exit ?_ | with_reducible refine RO.ret ?_ | ((with_reducible refine And.intro ?sc ?_); case sc => exact side) | ((with_reducible refine br_f ?sc ?_); case sc => exact sideB) | ((with_reducible refine br_t ?sc ?_); case sc => exact sideB))
    refine step25 (fun _ => []) [] rfl ?_
    repeat ((conv => whnf); first | with_reducible refine O_step ?_ | with_reducible refine S_step ?_ | with_reducible refine D_step ?_ | with_reducible refine RO.exit ?_ | with_reducible refine RO.ret ?_ | ((with_reducible refine And.intro ?sc ?_); case sc => exact side) | ((with_reducible refine br_f ?sc ?_); case sc => exact sideB) | ((with_reducible refine br_t ?sc ?_); case sc => exact sideB))
    refine And.intro (fun hc => ?_) (fun hc => ?_)
    · rw [hc]
      repeat ((conv => whnf); first | with_reducible refine O_step ?_ | with_reducible refine S_step ?_ | with_reducible refine D_step ?_ | with_reducible refine RO.exit ?_ | with_reducible refine RO.ret ?_ | ((with_reducible refine And.intro ?sc ?_); case sc => exact side) | ((with_reducible refine br_f ?sc ?_); case sc => exact sideB) | ((with_reducible refine br_t ?sc ?_); case sc => exact sideB))
      exact hb (.inr (by have := nd_t hc; omega)) _ (.inl rfl)
    · rw [hc]
      have hc' : k ≤ n := by have := nd_f hc; omega
      repeat ((conv => whnf); first | with_reducible refine O_step ?_ | with_reducible refine S_step ?_ | with_reducible refine D_step ?_ | with_reducible refine RO.exit ?_ | with_reducible refine RO.ret ?_ | ((with_reducible refine And.intro ?sc ?_); case sc => exact side) | ((with_reducible refine br_f ?sc ?_); case sc => exact sideB) | ((with_reducible refine br_t ?sc ?_); case sc => exact sideB))
      refine WO.go (σ := Nat) (fun j => j ≤ k) (fun j => k - j)
        (fun j => [(0, .ptr 0 0 0), (1, .int .u64 (valB (((X.drop off).take n).take j) 0)), (2, .int .i64 k), (56, .sl 1 0 off k c), (57, .int .i64 k), (58, .int .i64 j)])
        (fun j => [.one true 0 (.cells (.bo false :: .ff :: .sl 1 0 off n c :: R)), .one false 0 (.ints .u8 X cX)]) 0 tb_ok mixed (by kernel_rfl)
        (Nat.zero_le _) (And.intro rfl (And.intro rfl (And.intro rfl (And.intro rfl (And.intro rfl (And.intro rfl (trivial))))))) (subA_refl _) (fun _ => rfl) (fun _ => rfl) (fun _ => ⟨by simp [AO.nb, Cont.nb, AV.nbl, AV.nb, hR], trivial, trivial⟩) ?_
      rintro j hj d
      repeat ((conv => whnf); first | with_reducible refine O_step ?_ | with_reducible refine S_step ?_ | with_reducible refine D_step ?_ | with_reducible refine RO.exit ?_ | with_reducible refine RO.ret ?_ | ((with_reducible refine And.intro ?sc ?_); case sc => exact side) | ((with_reducible refine br_f ?sc ?_); case sc => exact sideB) | ((with_reducible refine br_t ?sc ?_); case sc => exact sideB))
      refine And.intro (fun hc => ?_) (fun hc => ?_)
      · have hc' : (j : Int) < k := of_decide_eq_true hc
        have hb := valB_bound (((X.drop off).take n).take j) 0 1 (fun x hx => hX x (List.mem_of_mem_drop (List.mem_of_mem_take (List.mem_of_mem_take hx)))) (by decide) (by decide)
        have hl : (((X.drop off).take n).take j).length = j := by simp only [List.length_take, List.length_drop]; omega
        have hp : (256 : Int) ^ j ≤ 256 ^ 7 := by
          have h1 : 256 ^ j ≤ 256 ^ 7 := Nat.pow_le_pow_right (by decide) (by omega)
          exact_mod_cast h1
        rw [hl] at hb
        have hx := bget hX (j + off) (by omega)
        have e : (X.getD (j + off) 0) = ((X.drop off).take n).getD j 0 := by
          rw [getD_get (by omega), getD_get (by simp only [List.length_take, List.length_drop]; omega)]
          simp [Nat.add_comm]
        repeat ((conv => whnf); first | with_reducible refine O_step ?_ | with_reducible refine S_step ?_ | with_reducible refine D_step ?_ | with_reducible refine RO.exit ?_ | with_reducible refine RO.ret ?_ | ((with_reducible refine And.intro ?sc ?_); case sc => exact side) | ((with_reducible refine br_f ?sc ?_); case sc => exact sideB) | ((with_reducible refine br_t ?sc ?_); case sc => exact sideB))
        refine RO.same (j + 1) (by omega) (show k - (j + 1) < k - j by omega) (And.intro rfl (And.intro ?_ (And.intro rfl (And.intro rfl (And.intro rfl (And.intro rfl trivial)))))) (subA_refl _)
        show AV.int .u64 (bitF .or .u64 (shlF .u64 (valB (((X.drop off).take n).take j) 0) 8) (X.getD (j + off) 0 % 18446744073709551616)) = _
        rw [next8 ⟨hb.1, by omega⟩ hx, e, List.take_succ_eq_append_getElem (by simp only [List.length_take, List.length_drop]; omega), valB_snoc, getD_get (by simp only [List.length_take, List.length_drop]; omega)]
      · have hc' : ¬ (j : Int) < k := of_decide_eq_false hc
        obtain rfl : k = j := by omega
        repeat ((conv => whnf); first | with_reducible refine O_step ?_ | with_reducible refine S_step ?_ | with_reducible refine D_step ?_ | with_reducible refine RO.exit ?_ | with_reducible refine RO.ret ?_ | ((with_reducible refine And.intro ?sc ?_); case sc => exact side) | ((with_reducible refine br_f ?sc ?_); case sc => exact sideB) | ((with_reducible refine br_t ?sc ?_); case sc => exact sideB))
        have ho : offS c k off 1 + (n - k) ≤ X.length ∧ (X.drop (offS c k off 1)).take (n - k) = ((X.drop off).take n).drop k := by
          unfold offS
          by_cases hck : c = k
          · rw [if_pos hck]
            obtain rfl : n = k := by omega
            refine ⟨by omega, ?_⟩
            rw [Nat.sub_self, List.take_zero, List.drop_of_length_le (List.length_take_le _ _)]
          · rw [if_neg hck, Nat.mul_one]
            refine ⟨by omega, ?_⟩
            rw [List.drop_take, List.drop_drop]
        exact hk rfl (by omega) (offS c k off 1) (c - k) ho.1 (by omega) ho.2
  · repeat ((conv => whnf); first | with_reducible refine O_step ?_ | with_reducible refine S_step ?_ | with_reducible refine D_step ?_ | with_reducible refine RO.exit ?_ | with_reducible refine RO.ret ?_ | ((with_reducible refine And.intro ?sc ?_); case sc => exact side) | ((with_reducible refine br_f ?sc ?_); case sc => exact sideB) | ((with_reducible refine br_t ?sc ?_); case sc => exact sideB))
    refine step25 (fun _ => []) [] rfl ?_
    repeat ((conv => whnf); first | with_reducible refine O_step ?_ | with_reducible refine S_step ?_ | with_reducible refine D_step ?_ | with_reducible refine RO.exit ?_ | with_reducible refine RO.ret ?_ | ((with_reducible refine And.intro ?sc ?_); case sc => exact side) | ((with_reducible refine br_f ?sc ?_); case sc => exact sideB) | ((with_reducible refine br_t ?sc ?_); case sc => exact sideB))
    exact hb (.inl rfl) _ (.inr (.inr ⟨rfl, rfl⟩))
  · cases bad
    · repeat ((conv => whnf); first | with_reducible refine O_step ?_ | with_reducible refine S_step ?_ | with_reducible refine D_step ?_ | with_reducible refine RO.exit ?_ | with_reducible refine RO.ret ?_ | ((with_reducible refine And.intro ?sc ?_); case sc => exact side) | ((with_reducible refine br_f ?sc ?_); case sc => exact sideB) | ((with_reducible refine br_t ?sc ?_); case sc => exact sideB))
      refine step25 (fun _ => []) [] rfl ?_
      repeat ((conv => whnf); first | with_reducible refine O_step ?_ | with_reducible refine S_step ?_ | with_reducible refine D_step ?_ | with_reducible refine RO.exit ?_ | with_reducible refine RO.ret ?_ | ((with_reducible refine And.intro ?sc ?_); case sc => exact side) | ((with_reducible refine br_f ?sc ?_); case sc => exact sideB) | ((with_reducible refine br_t ?sc ?_); case sc => exact sideB))
      refine And.intro (fun hc => ?_) (fun hc => ?_)
      · rw [hc]
        repeat ((conv => whnf); first | with_reducible refine O_step ?_ | with_reducible refine S_step ?_ | with_reducible refine D_step ?_ | with_reducible refine RO.exit ?_ | with_reducible refine RO.ret ?_ | ((with_reducible refine And.intro ?sc ?_); case sc => exact side) | ((with_reducible refine br_f ?sc ?_); case sc => exact sideB) | ((with_reducible refine br_t ?sc ?_); case sc => exact sideB))
        exact hb (.inr (by have := nd_t hc; omega)) _ (.inl rfl)
      · rw [hc]
        have hc' : k ≤ n := by have := nd_f hc; omega
        repeat ((conv => whnf); first | with_reducible refine O_step ?_ | with_reducible refine S_step ?_ | with_reducible refine D_step ?_ | with_reducible refine RO.exit ?_ | with_reducible refine RO.ret ?_ | ((with_reducible refine And.intro ?sc ?_); case sc => exact side) | ((with_reducible refine br_f ?sc ?_); case sc => exact sideB) | ((with_reducible refine br_t ?sc ?_); case sc => exact sideB))
        refine WO.go (σ := Nat) (fun j => j ≤ k) (fun j => k - j)
          (fun j => [(0, .ptr 0 0 0), (1, .int .u64 (valB (((X.drop off).take n).take j) 0)), (2, .int .i64 k), (56, .sl 1 0 off k c), (57, .int .i64 k), (58, .int .i64 j)])
          (fun j => [.one true 0 (.cells (.bo false :: .ff :: .sl 1 0 off n c :: R)), .one false 0 (.ints .u8 X cX)]) 0 tb_ok mixed (by kernel_rfl)
          (Nat.zero_le _) (And.intro rfl (And.intro rfl (And.intro rfl (And.intro rfl (And.intro rfl (And.intro rfl (trivial))))))) (subA_refl _) (fun _ => rfl) (fun _ => rfl) (fun _ => ⟨by simp [AO.nb, Cont.nb, AV.nbl, AV.nb, hR], trivial, trivial⟩) ?_
        rintro j hj d
        repeat ((conv => whnf); first | with_reducible refine O_step ?_ | with_reducible refine S_step ?_ | with_reducible refine D_step ?_ | with_reducible refine RO.exit ?_ | with_reducible refine RO.ret ?_ | ((with_reducible refine And.intro ?sc ?_); case sc => exact side) | ((with_reducible refine br_f ?sc ?_); case sc => exact sideB) | ((with_reducible refine br_t ?sc ?_); case sc => exact sideB))
        refine And.intro (fun hc => ?_) (fun hc => ?_)
        · have hc' : (j : Int) < k := of_decide_eq_true hc
          have hb := valB_bound (((X.drop off).take n).take j) 0 1 (fun x hx => hX x (List.mem_of_mem_drop (List.mem_of_mem_take (List.mem_of_mem_take hx)))) (by decide) (by decide)
          have hl : (((X.drop off).take n).take j).length = j := by simp only [List.length_take, List.length_drop]; omega
          have hp : (256 : Int) ^ j ≤ 256 ^ 7 := by
            have h1 : 256 ^ j ≤ 256 ^ 7 := Nat.pow_le_pow_right (by decide) (by omega)
            exact_mod_cast h1
          rw [hl] at hb
          have hx := bget hX (j + off) (by omega)
          have e : (X.getD (j + off) 0) = ((X.drop off).take n).getD j 0 := by
            rw [getD_get (by omega), getD_get (by simp only [List.length_take, List.length_drop]; omega)]
            simp [Nat.add_comm]
          repeat ((conv => whnf); first | with_reducible refine O_step ?_ | with_reducible refine S_step ?_ | with_reducible refine D_step ?_ | with_reducible refine RO.exit ?_ | with_reducible refine RO.ret ?_ | ((with_reducible refine And.intro ?sc ?_); case sc => exact side) | ((with_reducible refine br_f ?sc ?_); case sc => exact sideB) | ((with_reducible refine br_t ?sc ?_); case sc => exact sideB))
          refine RO.same (j + 1) (by omega) (show k - (j + 1) < k - j by omega) (And.intro rfl (And.intro ?_ (And.intro rfl (And.intro rfl (And.intro rfl (And.intro rfl trivial)))))) (subA_refl _)
          show AV.int .u64 (bitF .or .u64 (shlF .u64 (valB (((X.drop off).take n).take j) 0) 8) (X.getD (j + off) 0 % 18446744073709551616)) = _
          rw [next8 ⟨hb.1, by omega⟩ hx, e, List.take_succ_eq_append_getElem (by simp only [List.length_take, List.length_drop]; omega), valB_snoc, getD_get (by simp only [List.length_take, List.length_drop]; omega)]
        · have hc' : ¬ (j : Int) < k := of_decide_eq_false hc
          obtain rfl : k = j := by omega
          repeat ((conv => whnf); first | with_reducible refine O_step ?_ | with_reducible refine S_step ?_ | with_reducible refine D_step ?_ | with_reducible refine RO.exit ?_ | with_reducible refine RO.ret ?_ | ((with_reducible refine And.intro ?sc ?_); case sc => exact side) | ((with_reducible refine br_f ?sc ?_); case sc => exact sideB) | ((with_reducible refine br_t ?sc ?_); case sc => exact sideB))
          have ho : offS c k off 1 + (n - k) ≤ X.length ∧ (X.drop (offS c k off 1)).take (n - k) = ((X.drop off).take n).drop k := by
            unfold offS
            by_cases hck : c = k
            · rw [if_pos hck]
              obtain rfl : n = k := by omega
              refine ⟨by omega, ?_⟩
              rw [Nat.sub_self, List.take_zero, List.drop_of_length_le (List.length_take_le _ _)]
            · rw [if_neg hck, Nat.mul_one]
              refine ⟨by omega, ?_⟩
              rw [List.drop_take, List.drop_drop]
          exact hk rfl (by omega) (offS c k off 1) (c - k) ho.1 (by omega) ho.2
    · repeat ((conv => whnf); first | with_reducible refine O_step ?_ | with_reducible refine S_step ?_ | with_reducible refine D_step ?_ | with_reducible refine RO.exit ?_ | with_reducible refine RO.ret ?_ | ((with_reducible refine And.intro ?sc ?_); case sc => exact side) | ((with_reducible refine br_f ?sc ?_); case sc => exact sideB) | ((with_reducible refine br_t ?sc ?_); case sc => exact sideB))
      refine step25 (fun _ => []) [] rfl ?_
      repeat ((conv => whnf); first | with_reducible refine O_step ?_ | with_reducible refine S_step ?_ | with_reducible refine D_step ?_ | with_reducible refine RO.exit ?_ | with_reducible refine RO.ret ?_ | ((with_reducible refine And.intro ?sc ?_); case sc => exact side) | ((with_reducible refine br_f ?sc ?_); case sc => exact sideB) | ((with_reducible refine br_t ?sc ?_); case sc => exact sideB))
      exact hb (.inl rfl) _ (.inr (.inr ⟨rfl, rfl⟩))
theorem numR3_call {v : Int} {k off n c cX gs cS : Nat} {c0 : AV} {bad : Bool} {R : List AV} {X S : List Int} {K Kp : AV → AH → Prop} (hk8 : k ≤ 8) (h0 : isB c0 bad) (hn : off + n ≤ X.length ∧ n ≤ c) (hX : ∀ x ∈ X, 0 ≤ x ∧ x < 256) (hl : X.length ≤ 1000000000) (hR : AV.nbl 3 R = true)
    (hb : (bad = true ∨ n < k) → ∀ c1, isB c1 true → K (.int .u64 0) [.one true 0 (.cells (c1 :: .ff :: .sl 1 0 off n c :: R)), .one false 0 (.ints .u8 X cX), .one true gs (.ints .u32 S cS)])
    (hk : bad = false → k ≤ n → ∀ off' c', off' + (n - k) ≤ X.length → n - k ≤ c' → (X.drop off').take (n - k) = ((X.drop off).take n).drop k → K (.int .u64 (valB (((X.drop off).take n).take k) 0)) [.one true 0 (.cells (.bo false :: .ff :: .sl 1 0 off' (n - k) c' :: R)), .one false 0 (.ints .u8 X cX), .one true gs (.ints .u32 S cS)]) :
    CallA Try.prog 22 [.ptr 0 0 0, .int .u64 v, .int .i64 k] [.one true 0 (.cells (c0 :: .ff :: .sl 1 0 off n c :: R)), .one false 0 (.ints .u8 X cX), .one true gs (.ints .u32 S cS)] K Kp := by
  refine step22 (fun _ => [0]) [] rfl ?_
  rcases h0 with rfl | ⟨rfl, rfl⟩ | ⟨rfl, rfl⟩
  rotate_left
  · repeat ((conv => whnf); first | with_reducible refine O_step ?_ | with_reducible refine S_step ?_ | with_reducible refine D_step ?_ | with_reducible refine RO.exit ?_ | with_reducible refine RO.ret ?_ | ((with_reducible refine And.intro ?sc ?_); case sc => exact side) | ((with_reducible refine br_f ?sc ?_); case sc => exact sideB) | ((with_reducible refine br_t ?sc ?_); case sc => exact sideB))
    refine step25 (fun _ => []) [] rfl ?_
    repeat ((conv => whnf); first | with_reducible refine O_step ?_ | with_reducible refine S_step ?_ | with_reducible refine D_step ?_ | with_reducible refine RO.exit ?_ | with_reducible refine RO.ret ?_ | ((with_reducible refine And.intro ?sc ?_); case sc => exact side) | ((with_reducible refine br_f ?sc ?_); case sc => exact sideB) | ((with_reducible refine br_t ?sc ?_); case sc => exact sideB))
    refine And.intro (fun hc => ?_) (fun hc => ?_)
    · rw [hc]
      repeat ((conv => whnf); first | with_reducible refine O_step ?_ | with_reducible refine S_step ?_ | with_reducible refine D_step ?_ | with_reducible refine RO.exit ?_ | with_reducible refine RO.ret ?_ | ((with_reducible refine And.intro ?sc ?_); case sc => exact side) | ((with_reducible refine br_f ?sc ?_); case sc => exact sideB) | ((with_reducible refine br_t ?sc ?_); case sc => exact sideB))
      exact hb (.inr (by have := nd_t hc; omega)) _ (.inl rfl)
    · rw [hc]
      have hc' : k ≤ n := by have := nd_f hc; omega
      repeat ((conv => whnf); first | with_reducible refine O_step ?_ | with_reducible refine S_step ?_ | with_reducible refine D_step ?_ | with_reducible refine RO.exit ?_ | with_reducible refine RO.ret ?_ | ((with_reducible refine And.intro ?sc ?_); case sc => exact side) | ((with_reducible refine br_f ?sc ?_); case sc => exact sideB) | ((with_reducible refine br_t ?sc ?_); case sc => exact sideB))
      refine WO.go (σ := Nat) (fun j => j ≤ k) (fun j => k - j)
        (fun j => [(0, .ptr 0 0 0), (1, .int .u64 (valB (((X.drop off).take n).take j) 0)), (2, .int .i64 k), (56, .sl 1 0 off k c), (57, .int .i64 k), (58, .int .i64 j)])
        (fun j => [.one true 0 (.cells (.bo false :: .ff :: .sl 1 0 off n c :: R)), .one false 0 (.ints .u8 X cX), .one true gs (.ints .u32 S cS)]) 0 tb_ok mixed (by kernel_rfl)
        (Nat.zero_le _) (And.intro rfl (And.intro rfl (And.intro rfl (And.intro rfl (And.intro rfl (And.intro rfl (trivial))))))) (subA_refl _) (fun _ => rfl) (fun _ => rfl) (fun _ => ⟨by simp [AO.nb, Cont.nb, AV.nbl, AV.nb, hR], trivial, trivial, trivial⟩) ?_
      rintro j hj d
      repeat ((conv => whnf); first | with_reducible refine O_step ?_ | with_reducible refine S_step ?_ | with_reducible refine D_step ?_ | with_reducible refine RO.exit ?_ | with_reducible refine RO.ret ?_ | ((with_reducible refine And.intro ?sc ?_); case sc => exact side) | ((with_reducible refine br_f ?sc ?_); case sc => exact sideB) | ((with_reducible refine br_t ?sc ?_); case sc => exact sideB))
      refine And.intro (fun hc => ?_) (fun hc => ?_)
      · have hc' : (j : Int) < k := of_decide_eq_true hc
        have hb := valB_bound (((X.drop off).take n).take j) 0 1 (fun x hx => hX x (List.mem_of_mem_drop (List.mem_of_mem_take (List.mem_of_mem_take hx)))) (by decide) (by decide)
        have hl : (((X.drop off).take n).take j).length = j := by simp only [List.length_take, List.length_drop]; omega
        have hp : (256 : Int) ^ j ≤ 256 ^ 7 := by
          have h1 : 256 ^ j ≤ 256 ^ 7 := Nat.pow_le_pow_right (by decide) (by omega)
          exact_mod_cast h1
        rw [hl] at hb
        have hx := bget hX (j + off) (by omega)
        have e : (X.getD (j + off) 0) = ((X.drop off).take n).getD j 0 := by
          rw [getD_get (by omega), getD_get (by simp only [List.length_take, List.length_drop]; omega)]
          simp [Nat.add_comm]
        repeat ((conv => whnf); first | with_reducible refine O_step ?_ | with_reducible refine S_step ?_ | with_reducible refine D_step ?_ | with_reducible refine RO.exit ?_ | with_reducible refine RO.ret ?_ | ((with_reducible refine And.intro ?sc ?_); case sc => exact side) | ((with_reducible refine br_f ?sc ?_); case sc => exact sideB) | ((with_reducible refine br_t ?sc ?_); case sc => exact sideB))
        refine RO.same (j + 1) (by omega) (show k - (j + 1) < k - j by omega) (And.intro rfl (And.intro ?_ (And.intro rfl (And.intro rfl (And.intro rfl (And.intro rfl trivial)))))) (subA_refl _)
        show AV.int .u64 (bitF .or .u64 (shlF .u64 (valB (((X.drop off).take n).take j) 0) 8) (X.getD (j + off) 0 % 18446744073709551616)) = _
        rw [next8 ⟨hb.1, by omega⟩ hx, e, List.take_succ_eq_append_getElem (by simp only [List.length_take, List.length_drop]; omega), valB_snoc, getD_get (by simp only [List.length_take, List.length_drop]; omega)]
      · have hc' : ¬ (j : Int) < k := of_decide_eq_false hc
        obtain rfl : k = j := by omega
        repeat ((conv => whnf); first | with_reducible refine O_step ?_ | with_reducible refine S_step ?_ | with_reducible refine D_step ?_ | with_reducible refine RO.exit ?_ | with_reducible refine RO.ret ?_ | ((with_reducible refine And.intro ?sc ?_); case sc => exact side) | ((with_reducible refine br_f ?sc ?_); case sc => exact sideB) | ((with_reducible refine br_t ?sc ?_); case sc => exact sideB))
        have ho : offS c k off 1 + (n - k) ≤ X.length ∧ (X.drop (offS c k off 1)).take (n - k) = ((X.drop off).take n).drop k := by
          unfold offS
          by_cases hck : c = k
          · rw [if_pos hck]
            obtain rfl : n = k := by omega
            refine ⟨by omega, ?_⟩
            rw [Nat.sub_self, List.take_zero, List.drop_of_length_le (List.length_take_le _ _)]
          · rw [if_neg hck, Nat.mul_one]
            refine ⟨by omega, ?_⟩
            rw [List.drop_take, List.drop_drop]
        exact hk rfl (by omega) (offS c k off 1) (c - k) ho.1 (by omega) ho.2
  · repeat ((conv => whnf); first | with_reducible refine O_step ?_ | with_reducible refine S_step ?_ | with_reducible refine D_step ?_ | with_reducible refine RO.exit ?_ | with_reducible refine RO.ret ?_ | ((with_reducible refine And.intro ?sc ?_); case sc => exact side) | ((with_reducible refine br_f ?sc ?_); case sc => exact sideB) | ((with_reducible refine br_t ?sc ?_); case sc => exact sideB))
    refine step25 (fun _ => []) [] rfl ?_
    repeat ((conv => whnf); first | with_reducible refine O_step ?_ | with_reducible refine S_step ?_ | with_reducible refine D_step ?_ | with_reducible refine RO.exit ?_ | with_reducible refine RO.ret ?_ | ((with_reducible refine And.intro ?sc ?_); case sc => exact side) | ((with_reducible refine br_f ?sc ?_); case sc => exact sideB) | ((with_reducible refine br_t ?sc ?_); case sc => exact sideB))
    exact hb (.inl rfl) _ (.inr (.inr ⟨rfl, rfl⟩))
  · cases bad
    · repeat ((conv => whnf); first | with_reducible refine O_step ?_ | with_reducible refine S_step ?_ | with_reducible refine D_step ?_ | with_reducible refine RO.exit ?_ | with_reducible refine RO.ret ?_ | ((with_reducible refine And.intro ?sc ?_); case sc => exact side) | ((with_reducible refine br_f ?sc ?_); case sc => exact sideB) | ((with_reducible refine br_t ?sc ?_); case sc => exact sideB))
      refine step25 (fun _ => []) [] rfl ?_
      repeat ((conv => whnf); first | with_reducible refine O_step ?_ | with_reducible refine S_step ?_ | with_reducible refine D_step ?_ | with_reducible refine RO.exit ?_ | with_reducible refine RO.ret ?_ | ((with_reducible refine And.intro ?sc ?_); case sc => exact side) | ((with_reducible refine br_f ?sc ?_); case sc => exact sideB) | ((with_reducible refine br_t ?sc ?_); case sc => exact sideB))
      refine And.intro (fun hc => ?_) (fun hc => ?_)
      · rw [hc]
        repeat ((conv => whnf); first | with_reducible refine O_step ?_ | with_reducible refine S_step ?_ | with_reducible refine D_step ?_ | with_reducible refine RO.exit ?_ | with_reducible refine RO.ret ?_ | ((with_reducible refine And.intro ?sc ?_); case sc => exact side) | ((with_reducible refine br_f ?sc ?_); case sc => exact sideB) | ((with_reducible refine br_t ?sc ?_); case sc => exact sideB))
        exact hb (.inr (by have := nd_t hc; omega)) _ (.inl rfl)
      · rw [hc]
        have hc' : k ≤ n := by have := nd_f hc; omega
        repeat ((conv => whnf); first | with_reducible refine O_step ?_ | with_reducible refine S_step ?_ | with_reducible refine D_step ?_ | with_reducible refine RO.exit ?_ | with_reducible refine RO.ret ?_ | ((with_reducible refine And.intro ?sc ?_); case sc => exact side) | ((with_reducible refine br_f ?sc ?_); case sc => exact sideB) | ((with_reducible refine br_t ?sc ?_); case sc => exact sideB))
        refine WO.go (σ := Nat) (fun j => j ≤ k) (fun j => k - j)
          (fun j => [(0, .ptr 0 0 0), (1, .int .u64 (valB (((X.drop off).take n).take j) 0)), (2, .int .i64 k), (56, .sl 1 0 off k c), (57, .int .i64 k), (58, .int .i64 j)])
          (fun j => [.one true 0 (.cells (.bo false :: .ff :: .sl 1 0 off n c :: R)), .one false 0 (.ints .u8 X cX), .one true gs (.ints .u32 S cS)]) 0 tb_ok mixed (by kernel_rfl)
          (Nat.zero_le _) (And.intro rfl (And.intro rfl (And.intro rfl (And.intro rfl (And.intro rfl (And.intro rfl (trivial))))))) (subA_refl _) (fun _ => rfl) (fun _ => rfl) (fun _ => ⟨by simp [AO.nb, Cont.nb, AV.nbl, AV.nb, hR], trivial, trivial, trivial⟩) ?_
        rintro j hj d
        repeat ((conv => whnf); first | with_reducible refine O_step ?_ | with_reducible refine S_step ?_ | with_reducible refine D_step ?_ | with_reducible refine RO.exit ?_ | with_reducible refine RO.ret ?_ | ((with_reducible refine And.intro ?sc ?_); case sc => exact side) | ((with_reducible refine br_f ?sc ?_); case sc => exact sideB) | ((with_reducible refine br_t ?sc ?_); case sc => exact sideB))
        refine And.intro (fun hc => ?_) (fun hc => ?_)
        · have hc' : (j : Int) < k := of_decide_eq_true hc
          have hb := valB_bound (((X.drop off).take n).take j) 0 1 (fun x hx => hX x (List.mem_of_mem_drop (List.mem_of_mem_take (List.mem_of_mem_take hx)))) (by decide) (by decide)
          have hl : (((X.drop off).take n).take j).length = j := by simp only [List.length_take, List.length_drop]; omega
          have hp : (256 : Int) ^ j ≤ 256 ^ 7 := by
            have h1 : 256 ^ j ≤ 256 ^ 7 := Nat.pow_le_pow_right (by decide) (by omega)
            exact_mod_cast h1
          rw [hl] at hb
          have hx := bget hX (j + off) (by omega)
          have e : (X.getD (j + off) 0) = ((X.drop off).take n).getD j 0 := by
            rw [getD_get (by omega), getD_get (by simp only [List.length_take, List.length_drop]; omega)]
            simp [Nat.add_comm]
          repeat ((conv => whnf); first | with_reducible refine O_step ?_ | with_reducible refine S_step ?_ | with_reducible refine D_step ?_ | with_reducible refine RO.exit ?_ | with_reducible refine RO.ret ?_ | ((with_reducible refine And.intro ?sc ?_); case sc => exact side) | ((with_reducible refine br_f ?sc ?_); case sc => exact sideB) | ((with_reducible refine br_t ?sc ?_); case sc => exact sideB))
          refine RO.same (j + 1) (by omega) (show k - (j + 1) < k - j by omega) (And.intro rfl (And.intro ?_ (And.intro rfl (And.intro rfl (And.intro rfl (And.intro rfl trivial)))))) (subA_refl _)
          show AV.int .u64 (bitF .or .u64 (shlF .u64 (valB (((X.drop off).take n).take j) 0) 8) (X.getD (j + off) 0 % 18446744073709551616)) = _
          rw [next8 ⟨hb.1, by omega⟩ hx, e, List.take_succ_eq_append_getElem (by simp only [List.length_take, List.length_drop]; omega), valB_snoc, getD_get (by simp only [List.length_take, List.length_drop]; omega)]
        · have hc' : ¬ (j : Int) < k := of_decide_eq_false hc
          obtain rfl : k = j := by omega
          repeat ((conv => whnf); first | with_reducible refine O_step ?_ | with_reducible refine S_step ?_ | with_reducible refine D_step ?_ | with_reducible refine RO.exit ?_ | with_reducible refine RO.ret ?_ | ((with_reducible refine And.intro ?sc ?_); case sc => exact side) | ((with_reducible refine br_f ?sc ?_); case sc => exact sideB) | ((with_reducible refine br_t ?sc ?_); case sc => exact sideB))
          have ho : offS c k off 1 + (n - k) ≤ X.length ∧ (X.drop (offS c k off 1)).take (n - k) = ((X.drop off).take n).drop k := by
            unfold offS
            by_cases hck : c = k
            · rw [if_pos hck]
              obtain rfl : n = k := by omega
              refine ⟨by omega, ?_⟩
              rw [Nat.sub_self, List.take_zero, List.drop_of_length_le (List.length_take_le _ _)]
            · rw [if_neg hck, Nat.mul_one]
              refine ⟨by omega, ?_⟩
              rw [List.drop_take, List.drop_drop]
          exact hk rfl (by omega) (offS c k off 1) (c - k) ho.1 (by omega) ho.2
    · repeat ((conv => whnf); first | with_reducible refine O_step ?_ | with_reducible refine S_step ?_ | with_reducible refine D_step ?_ | with_reducible refine RO.exit ?_ | with_reducible refine RO.ret ?_ | ((with_reducible refine And.intro ?sc ?_); case sc => exact side) | ((with_reducible refine br_f ?sc ?_); case sc => exact sideB) | ((with_reducible refine br_t ?sc ?_); case sc => exact sideB))
      refine step25 (fun _ => []) [] rfl ?_
      repeat ((conv => whnf); first | with_reducible refine O_step ?_ | with_reducible refine S_step ?_ | with_reducible refine D_step ?_ | with_reducible refine RO.exit ?_ | with_reducible refine RO.ret ?_ | ((with_reducible refine And.intro ?sc ?_); case sc => exact side) | ((with_reducible refine br_f ?sc ?_); case sc => exact sideB) | ((with_reducible refine br_t ?sc ?_); case sc => exact sideB))
      exact hb (.inl rfl) _ (.inr (.inr ⟨rfl, rfl⟩))
end Go.Proofs.Ytedlpkibdjccdaa
