/- Layer 11: slices.Repeat of one pixel. -/
import Derived.Test.YtaioclggifdnhaaRe5
set_option linter.unusedVariables false
set_option linter.unusedSimpArgs false
open Go.RowKit
namespace Go.Proofs.Ytaioclggifdnhaa
set_option maxRecDepth 10000

theorem and32 {x : Int} (hx : 0 ≤ x ∧ x < 4294967296) : bitF .and .u64 x 4294967295 = x := by
  obtain ⟨n, rfl⟩ := Int.eq_ofNat_of_zero_le hx.1
  show IntKind.wrap .u64 (((BitVec.ofInt 64 (n : Int)) &&& (BitVec.ofInt 64 4294967295)).toNat : Int) = _
  have e1 : n % 18446744073709551616 &&& 4294967295 = n % 18446744073709551616 % 4294967296 := Nat.and_two_pow_sub_one_eq_mod _ 32
  have e2 : (BitVec.ofInt 64 (n : Int)).toNat = n % 18446744073709551616 := by rw [BitVec.toNat_ofInt]; omega
  rw [BitVec.toNat_and, e2, show (BitVec.ofInt 64 4294967295).toNat = 4294967295 from rfl, e1]
  simp [IntKind.wrap, IntKind.bits, IntKind.signed]
  omega
theorem shr32 {x : Int} (hx : 0 ≤ x ∧ x < 4294967296) : shrF .u64 x 32 = 0 := by
  have a1 : shrF .u64 x 32 = x / 4294967296 := Int.fdiv_eq_ediv_of_nonneg _ (by decide)
  omega

theorem mul64_call {b : Int} (hb : 0 ≤ b ∧ b < 4294967296) {Kp} :
    CallA Try.prog 50 [.int .u64 1, .int .u64 b] [] (fun r M => r = .tup [.int .u64 0, .int .u64 b] ∧ M = []) Kp := by
  refine step50 (fun _ => []) [] rfl ?_
  repeat ((conv => whnf); first | with_reducible refine O_step ?_ | with_reducible refine S_step ?_ | with_reducible refine D_step ?_ | with_reducible refine RO.exit ?_ | with_reducible refine RO.ret ?_ | ((with_reducible refine And.intro ?sc ?_); case sc => first | exact rfl | omega | exact Nat.le_of_ble_eq_true rfl | (dsimp only; omega) | (simp only [List.length_cons, List.length_nil, List.length_append, List.length_replicate, List.length_set, List.length_take, List.length_drop, List.length_map]; omega) | decide | (refine ⟨?_, ?_, ?_, ?_, ?_⟩ <;> first | exact rfl | omega | exact Nat.zero_le _ | exact Nat.le_refl _ | (dsimp only; omega) | simp | (simp; omega)) | (refine ⟨?_, ?_, ?_⟩ <;> first | exact rfl | omega | exact Nat.le_refl _ | (dsimp only; omega) | (simp; done) | (simp; omega))))
  have e1 : bitF .and .u64 1 4294967295 = 1 := and32 (by omega)
  have e2 : bitF .and .u64 b 4294967295 = b := and32 hb
  have e3 : shrF .u64 1 32 = 0 := rfl
  have e4 : shrF .u64 b 32 = 0 := shr32 hb
  have e5 : bitF .and .u64 0 4294967295 = 0 := rfl
  have e6 : shrF .u64 0 32 = 0 := rfl
  have e7 : (1 * b) % 18446744073709551616 = b := by omega
  simp only [e1, e2, e3, e4, e5, e6, e7, Int.mul_zero, Int.zero_mul, Int.add_zero, Int.zero_add, Int.zero_emod]
  exact ⟨rfl, rfl⟩
theorem mul_call {b : Int} (hb : 0 ≤ b ∧ b < 4294967296) {Kp} :
    CallA Try.prog 44 [.int .u64 1, .int .u64 b] [] (fun r M => r = .tup [.int .u64 0, .int .u64 b] ∧ M = []) Kp := by
  refine step44 (fun _ => []) [] rfl ?_
  repeat ((conv => whnf); first | with_reducible refine O_step ?_ | with_reducible refine S_step ?_ | with_reducible refine D_step ?_ | with_reducible refine RO.exit ?_ | with_reducible refine RO.ret ?_ | ((with_reducible refine And.intro ?sc ?_); case sc => first | exact rfl | omega | exact Nat.le_of_ble_eq_true rfl | (dsimp only; omega) | (simp only [List.length_cons, List.length_nil, List.length_append, List.length_replicate, List.length_set, List.length_take, List.length_drop, List.length_map]; omega) | decide | (refine ⟨?_, ?_, ?_, ?_, ?_⟩ <;> first | exact rfl | omega | exact Nat.zero_le _ | exact Nat.le_refl _ | (dsimp only; omega) | simp | (simp; omega)) | (refine ⟨?_, ?_, ?_⟩ <;> first | exact rfl | omega | exact Nat.le_refl _ | (dsimp only; omega) | (simp; done) | (simp; omega))))
  refine (mul64_call hb).mono ?_ (fun _ _ h => h)
  rintro r M ⟨rfl, rfl⟩
  repeat ((conv => whnf); first | with_reducible refine O_step ?_ | with_reducible refine S_step ?_ | with_reducible refine D_step ?_ | with_reducible refine RO.exit ?_ | with_reducible refine RO.ret ?_ | ((with_reducible refine And.intro ?sc ?_); case sc => first | exact rfl | omega | exact Nat.le_of_ble_eq_true rfl | (dsimp only; omega) | (simp only [List.length_cons, List.length_nil, List.length_append, List.length_replicate, List.length_set, List.length_take, List.length_drop, List.length_map]; omega) | decide | (refine ⟨?_, ?_, ?_, ?_, ?_⟩ <;> first | exact rfl | omega | exact Nat.zero_le _ | exact Nat.le_refl _ | (dsimp only; omega) | simp | (simp; omega)) | (refine ⟨?_, ?_, ?_⟩ <;> first | exact rfl | omega | exact Nat.le_refl _ | (dsimp only; omega) | (simp; done) | (simp; omega))))
  exact rfl
theorem mul_at {M : AH} {K Kp : AV → AH → Prop} {b : Int} (hb : 0 ≤ b ∧ b < 4294967296) (h : K (.tup [.int .u64 0, .int .u64 b]) M) : CallA Try.prog 44 [.int .u64 1, .int .u64 b] M K Kp := by
  refine CallA.lift [] (mul_call (Kp := fun _ _ => False) hb) rfl rfl trivial trivial ?_ (fun _ _ h => h.elim)
  rintro r M' ⟨rfl, rfl⟩
  rw [← List.append_nil M] at h
  exact ⟨rfl, h⟩

theorem repeat_call {v : Int} {k c0 c : Nat} (hk : 1 ≤ k ∧ k ≤ 65536) (hv : 0 ≤ v ∧ v < 4294967296) {Kp} :
    CallA Try.prog 30 [.sl 0 0 0 1 c0, .int .i64 k] [.one false 0 (.ints .u32 [v] c)]
      (fun r M => r = .sl 1 0 0 k k ∧ M = [.one false 0 (.ints .u32 [v] c), .one true 0 (.ints .u32 (List.replicate k v) k)]) Kp := by
  refine CallA.post_sub ?_
  refine step30 (fun _ => []) [] rfl ?_
  repeat ((conv => whnf); first | with_reducible refine O_step ?_ | with_reducible refine S_step ?_ | with_reducible refine D_step ?_ | with_reducible refine RO.exit ?_ | with_reducible refine RO.ret ?_ | ((with_reducible refine And.intro ?sc ?_); case sc => first | exact rfl | omega | exact Nat.le_of_ble_eq_true rfl | (dsimp only; omega) | (simp only [List.length_cons, List.length_nil, List.length_append, List.length_replicate, List.length_set, List.length_take, List.length_drop, List.length_map]; omega) | decide | (refine ⟨?_, ?_, ?_, ?_, ?_⟩ <;> first | exact rfl | omega | exact Nat.zero_le _ | exact Nat.le_refl _ | (dsimp only; omega) | simp | (simp; omega)) | (refine ⟨?_, ?_, ?_⟩ <;> first | exact rfl | omega | exact Nat.le_refl _ | (dsimp only; omega) | (simp; done) | (simp; omega))))
  refine And.intro (fun h => absurd (of_decide_eq_true h) (by omega)) (fun _ => ?_)
  repeat ((conv => whnf); first | with_reducible refine O_step ?_ | with_reducible refine S_step ?_ | with_reducible refine D_step ?_ | with_reducible refine RO.exit ?_ | with_reducible refine RO.ret ?_ | ((with_reducible refine And.intro ?sc ?_); case sc => first | exact rfl | omega | exact Nat.le_of_ble_eq_true rfl | (dsimp only; omega) | (simp only [List.length_cons, List.length_nil, List.length_append, List.length_replicate, List.length_set, List.length_take, List.length_drop, List.length_map]; omega) | decide | (refine ⟨?_, ?_, ?_, ?_, ?_⟩ <;> first | exact rfl | omega | exact Nat.zero_le _ | exact Nat.le_refl _ | (dsimp only; omega) | simp | (simp; omega)) | (refine ⟨?_, ?_, ?_⟩ <;> first | exact rfl | omega | exact Nat.le_refl _ | (dsimp only; omega) | (simp; done) | (simp; omega))))
  have e1 : (k : Int) % 18446744073709551616 = k := by omega
  rw [e1]
  refine mul_at (b := (k : Int)) (by omega) ?_
  repeat ((conv => whnf); first | with_reducible refine O_step ?_ | with_reducible refine S_step ?_ | with_reducible refine D_step ?_ | with_reducible refine RO.exit ?_ | with_reducible refine RO.ret ?_ | ((with_reducible refine And.intro ?sc ?_); case sc => first | exact rfl | omega | exact Nat.le_of_ble_eq_true rfl | (dsimp only; omega) | (simp only [List.length_cons, List.length_nil, List.length_append, List.length_replicate, List.length_set, List.length_take, List.length_drop, List.length_map]; omega) | decide | (refine ⟨?_, ?_, ?_, ?_, ?_⟩ <;> first | exact rfl | omega | exact Nat.zero_le _ | exact Nat.le_refl _ | (dsimp only; omega) | simp | (simp; omega)) | (refine ⟨?_, ?_, ?_⟩ <;> first | exact rfl | omega | exact Nat.le_refl _ | (dsimp only; omega) | (simp; done) | (simp; omega))) | ((with_reducible refine br_f ?sc ?_); case sc => first | exact rfl | decide | simp) | ((with_reducible refine br_t ?sc ?_); case sc => first | exact rfl | decide | simp))
  refine And.intro (fun h => absurd (of_decide_eq_true h) (by omega)) (fun _ => ?_)
  repeat ((conv => whnf); first | with_reducible refine O_step ?_ | with_reducible refine S_step ?_ | with_reducible refine D_step ?_ | with_reducible refine RO.exit ?_ | with_reducible refine RO.ret ?_ | ((with_reducible refine And.intro ?sc ?_); case sc => first | exact rfl | omega | exact Nat.le_of_ble_eq_true rfl | (dsimp only; omega) | (simp only [List.length_cons, List.length_nil, List.length_append, List.length_replicate, List.length_set, List.length_take, List.length_drop, List.length_map]; omega) | decide | (refine ⟨?_, ?_, ?_, ?_, ?_⟩ <;> first | exact rfl | omega | exact Nat.zero_le _ | exact Nat.le_refl _ | (dsimp only; omega) | simp | (simp; omega)) | (refine ⟨?_, ?_, ?_⟩ <;> first | exact rfl | omega | exact Nat.le_refl _ | (dsimp only; omega) | (simp; done) | (simp; omega))) | ((with_reducible refine br_f ?sc ?_); case sc => first | exact rfl | decide | simp) | ((with_reducible refine br_t ?sc ?_); case sc => first | exact rfl | decide | simp))
  intro ys hys zs hzs
  have hz : zs = List.replicate 1 v ++ List.replicate (k - 1) 0 := by
    rw [hzs, hys]
    show [] ++ _ ++ _ = _
    have : min 1 (k : Int).toNat = 1 := by omega
    rw [this]
    show [] ++ [v] ++ List.drop 1 (List.replicate k 0) = _
    rw [List.drop_replicate]; rfl
  subst hz
  have hm : ((min 1 (k : Int).toNat : Nat) : Int) = 1 := by omega
  rw [hm]
  repeat ((conv => whnf); first | with_reducible refine O_step ?_ | with_reducible refine S_step ?_ | with_reducible refine D_step ?_ | with_reducible refine RO.exit ?_ | with_reducible refine RO.ret ?_ | ((with_reducible refine And.intro ?sc ?_); case sc => first | exact rfl | omega | exact Nat.le_of_ble_eq_true rfl | (dsimp only; omega) | (simp only [List.length_cons, List.length_nil, List.length_append, List.length_replicate, List.length_set, List.length_take, List.length_drop, List.length_map]; omega) | decide | (refine ⟨?_, ?_, ?_, ?_, ?_⟩ <;> first | exact rfl | omega | exact Nat.zero_le _ | exact Nat.le_refl _ | (dsimp only; omega) | simp | (simp; omega)) | (refine ⟨?_, ?_, ?_⟩ <;> first | exact rfl | omega | exact Nat.le_refl _ | (dsimp only; omega) | (simp; done) | (simp; omega))) | ((with_reducible refine br_f ?sc ?_); case sc => first | exact rfl | decide | simp) | ((with_reducible refine br_t ?sc ?_); case sc => first | exact rfl | decide | simp))
  refine WO.go (σ := Nat) (fun n => 1 ≤ n ∧ n ≤ k) (fun n => k - n)
    (fun n => [(7, .sl 1 0 0 k k), (8, .int .i64 n)])
    (fun n => [.one false 0 (.ints .u32 [v] c), .one true 0 (.ints .u32 (List.replicate n v ++ List.replicate (k - n) 0) k)]) 1 tb_ok mixed (by kernel_rfl)
    ⟨Nat.le_refl _, hk.1⟩ (And.intro rfl (And.intro rfl (trivial))) (And.intro rfl (And.intro rfl (trivial))) (fun _ => rfl) (fun _ => rfl) (fun _ => ⟨trivial, trivial, trivial⟩) ?_
  rintro n ⟨h1, h2⟩ d
  repeat ((conv => whnf); first | with_reducible refine O_step ?_ | with_reducible refine S_step ?_ | with_reducible refine D_step ?_ | with_reducible refine RO.exit ?_ | with_reducible refine RO.ret ?_ | ((with_reducible refine And.intro ?sc ?_); case sc => first | exact rfl | omega | exact Nat.le_of_ble_eq_true rfl | (dsimp only; omega) | (simp only [List.length_cons, List.length_nil, List.length_append, List.length_replicate, List.length_set, List.length_take, List.length_drop, List.length_map]; omega) | decide | (refine ⟨?_, ?_, ?_, ?_, ?_⟩ <;> first | exact rfl | omega | exact Nat.zero_le _ | exact Nat.le_refl _ | (dsimp only; omega) | simp | (simp; omega)) | (refine ⟨?_, ?_, ?_⟩ <;> first | exact rfl | omega | exact Nat.le_refl _ | (dsimp only; omega) | (simp; done) | (simp; omega))) | ((with_reducible refine br_f ?sc ?_); case sc => first | exact rfl | decide | simp) | ((with_reducible refine br_t ?sc ?_); case sc => first | exact rfl | decide | simp))
  refine And.intro (fun hc => ?_) (fun hc => ?_)
  · have hc' : (n : Int) < k := of_decide_eq_true hc
    repeat ((conv => whnf); first | with_reducible refine O_step ?_ | with_reducible refine S_step ?_ | with_reducible refine D_step ?_ | with_reducible refine RO.exit ?_ | with_reducible refine RO.ret ?_ | ((with_reducible refine And.intro ?sc ?_); case sc => first | exact rfl | omega | exact Nat.le_of_ble_eq_true rfl | (dsimp only; omega) | (simp only [List.length_cons, List.length_nil, List.length_append, List.length_replicate, List.length_set, List.length_take, List.length_drop, List.length_map]; omega) | decide | (refine ⟨?_, ?_, ?_, ?_, ?_⟩ <;> first | exact rfl | omega | exact Nat.zero_le _ | exact Nat.le_refl _ | (dsimp only; omega) | simp | (simp; omega)) | (refine ⟨?_, ?_, ?_⟩ <;> first | exact rfl | omega | exact Nat.le_refl _ | (dsimp only; omega) | (simp; done) | (simp; omega))) | ((with_reducible refine br_f ?sc ?_); case sc => first | exact rfl | decide | simp) | ((with_reducible refine br_t ?sc ?_); case sc => first | exact rfl | decide | simp))
    rw [offS_ne (by omega)]
    repeat ((conv => whnf); first | with_reducible refine O_step ?_ | with_reducible refine S_step ?_ | with_reducible refine D_step ?_ | with_reducible refine RO.exit ?_ | with_reducible refine RO.ret ?_ | ((with_reducible refine And.intro ?sc ?_); case sc => first | exact rfl | omega | exact Nat.le_of_ble_eq_true rfl | (dsimp only; omega) | (simp only [List.length_cons, List.length_nil, List.length_append, List.length_replicate, List.length_set, List.length_take, List.length_drop, List.length_map]; omega) | decide | (refine ⟨?_, ?_, ?_, ?_, ?_⟩ <;> first | exact rfl | omega | exact Nat.zero_le _ | exact Nat.le_refl _ | (dsimp only; omega) | simp | (simp; omega)) | (refine ⟨?_, ?_, ?_⟩ <;> first | exact rfl | omega | exact Nat.le_refl _ | (dsimp only; omega) | (simp; done) | (simp; omega))) | ((with_reducible refine br_f ?sc ?_); case sc => first | exact rfl | decide | simp) | ((with_reducible refine br_t ?sc ?_); case sc => first | exact rfl | decide | simp))
    intro ys2 hys2 zs2 hzs2
    obtain ⟨m, hm⟩ : ∃ m, m = min (n : Int).toNat (k - (n : Int).toNat) := ⟨_, rfl⟩
    rw [← hm] at hzs2 hys2
    have hz : zs2 = List.replicate (n + m) v ++ List.replicate (k - (n + m)) 0 := by
      rw [hzs2, hys2]
      show List.take (0 + n * 1) _ ++ List.take m (List.drop 0 _) ++ List.drop (0 + n * 1 + m) _ = _
      simp only [Nat.zero_add, Nat.mul_one, List.drop_zero]
      rw [List.take_append_of_le_length (by simp), List.take_append_of_le_length (by simp; omega), List.drop_append]
      simp only [List.length_replicate, List.take_replicate, List.drop_replicate]
      rw [show n - (n + m) = 0 by omega, show n + m - n = m by omega, show min n n = n by omega, show min m n = m by omega, show k - n - m = k - (n + m) by omega]
      simp [List.replicate_append_replicate]
    subst hz
    rw [← hm]
    repeat ((conv => whnf); first | with_reducible refine O_step ?_ | with_reducible refine S_step ?_ | with_reducible refine D_step ?_ | with_reducible refine RO.exit ?_ | with_reducible refine RO.ret ?_ | ((with_reducible refine And.intro ?sc ?_); case sc => first | exact rfl | omega | exact Nat.le_of_ble_eq_true rfl | (dsimp only; omega) | (simp only [List.length_cons, List.length_nil, List.length_append, List.length_replicate, List.length_set, List.length_take, List.length_drop, List.length_map]; omega) | decide | (refine ⟨?_, ?_, ?_, ?_, ?_⟩ <;> first | exact rfl | omega | exact Nat.zero_le _ | exact Nat.le_refl _ | (dsimp only; omega) | simp | (simp; omega)) | (refine ⟨?_, ?_, ?_⟩ <;> first | exact rfl | omega | exact Nat.le_refl _ | (dsimp only; omega) | (simp; done) | (simp; omega))) | ((with_reducible refine br_f ?sc ?_); case sc => first | exact rfl | decide | simp) | ((with_reducible refine br_t ?sc ?_); case sc => first | exact rfl | decide | simp))
    refine RO.same (n + m) ⟨by omega, by omega⟩ (show k - (n + m) < k - n by omega) (And.intro rfl (And.intro ?_ trivial)) (And.intro rfl (And.intro rfl (trivial)))
    show AV.int .i64 ((n : Int) + m) = AV.int .i64 ((n + m : Nat) : Int)
    push_cast; rfl
  · have hc' : ¬ (n : Int) < k := of_decide_eq_false hc
    obtain rfl : n = k := by omega
    repeat ((conv => whnf); first | with_reducible refine O_step ?_ | with_reducible refine S_step ?_ | with_reducible refine D_step ?_ | with_reducible refine RO.exit ?_ | with_reducible refine RO.ret ?_ | ((with_reducible refine And.intro ?sc ?_); case sc => first | exact rfl | omega | exact Nat.le_of_ble_eq_true rfl | (dsimp only; omega) | (simp only [List.length_cons, List.length_nil, List.length_append, List.length_replicate, List.length_set, List.length_take, List.length_drop, List.length_map]; omega) | decide | (refine ⟨?_, ?_, ?_, ?_, ?_⟩ <;> first | exact rfl | omega | exact Nat.zero_le _ | exact Nat.le_refl _ | (dsimp only; omega) | simp | (simp; omega)) | (refine ⟨?_, ?_, ?_⟩ <;> first | exact rfl | omega | exact Nat.le_refl _ | (dsimp only; omega) | (simp; done) | (simp; omega))) | ((with_reducible refine br_f ?sc ?_); case sc => first | exact rfl | decide | simp) | ((with_reducible refine br_t ?sc ?_); case sc => first | exact rfl | decide | simp))
    have e : List.replicate n v ++ List.replicate (n - n) 0 = List.replicate n v := by simp
    exact Exists.intro [AO.one false 0 (.ints .u32 [v] c), .one true 0 (.ints .u32 (List.replicate n v) n)] (And.intro (And.intro rfl (And.intro (by rw [e]) trivial)) (And.intro ⟨trivial, trivial, trivial⟩ (And.intro rfl ⟨rfl, rfl⟩)))

theorem repeat_at {M : AH} {K Kp : AV → AH → Prop} {i g k c co : Nat} {o : Bool} {v : Int} (hi : M[i]? = some (.one o g (.ints .u32 [v] co))) (hk : 1 ≤ k ∧ k ≤ 65536) (hv : 0 ≤ v ∧ v < 4294967296)
    (h : K (.sl M.length 0 0 k k) (M ++ [.one true 0 (.ints .u32 (List.replicate k v) k)])) : CallA Try.prog 30 [.sl i g 0 1 c, .int .i64 k] M K Kp := by
  refine CallA.lift [.win i g 0] (repeat_call (c0 := c) (c := co) (Kp := fun _ _ => False) hk hv) rfl rfl ⟨⟨_, _, _, rfl, slot_one hi, WinC.same rfl (fun h => h)⟩, trivial⟩ ⟨trivial, trivial⟩ ?_ (fun _ _ h => h.elim)
  rintro r M' ⟨rfl, rfl⟩
  exact ⟨⟨rfl, rfl⟩, h⟩
end Go.Proofs.Ytaioclggifdnhaa
