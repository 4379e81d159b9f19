/- Layer 11: rle.Encode (a range over a function). -/
import Derived.Test.YtaioclggifdnhaaRb
set_option linter.unusedVariables false
set_option linter.unusedSimpArgs false
open Go.RowKit
namespace Go.Proofs.Ytaioclggifdnhaa
set_option maxRecDepth 10000

theorem and24 {x : Int} (hx : 0 ≤ x ∧ x < 4294967296) : bitF .and .u32 x 16777215 = x % 16777216 := by
  obtain ⟨n, rfl⟩ := Int.eq_ofNat_of_zero_le hx.1
  show IntKind.wrap .u32 (((BitVec.ofInt 32 (n : Int)) &&& (BitVec.ofInt 32 16777215)).toNat : Int) = _
  have e1 : n % 4294967296 &&& 16777215 = n % 4294967296 % 16777216 := Nat.and_two_pow_sub_one_eq_mod _ 24
  have e2 : (BitVec.ofInt 32 (n : Int)).toNat = n % 4294967296 := by rw [BitVec.toNat_ofInt]; omega
  rw [BitVec.toNat_and, e2, show (BitVec.ofInt 32 16777215).toNat = 16777215 from rfl, e1]
  simp [IntKind.wrap, IntKind.bits, IntKind.signed]
  omega
theorem and24_get {xs : List Int} {j : Nat} (h0 : ∀ x ∈ xs, 0 ≤ x ∧ x < 4294967296) (hj : j < xs.length) : bitF .and .u32 (xs.getD j 0) 16777215 = (cutL xs).getD j 0 := by
  have e : xs.getD j 0 = xs[j] := by simp [List.getD_eq_getElem?_getD, hj]
  rw [e, and24 (h0 _ (List.getElem_mem hj))]
  simp [cutL, List.getD_eq_getElem?_getD, hj]
theorem e4_sh {n : Nat} {x : Int} (h1 : 1 ≤ n) (hn : n ≤ 256) (hx : 0 ≤ x ∧ x < 16777216) : List.take 4 (List.drop 0 [((n : Int) - 1) % 256, shrF .u32 x 16 % 256, shrF .u32 x 8 % 256, x % 256]) = e4 (n - 1) x := by
  have a1 : shrF .u32 x 16 = x / 65536 := Int.fdiv_eq_ediv_of_nonneg _ (by decide)
  have a2 : shrF .u32 x 8 = x / 256 := Int.fdiv_eq_ediv_of_nonneg _ (by decide)
  rw [a1, a2]
  show [_, _, _, _] = [_, _, _, _]
  rw [show ((n : Int) - 1) % 256 = ((n - 1 : Nat) : Int) by omega, show x / 65536 % 256 = x / 65536 by omega]
theorem nb_ofL {k : Nat} {lv : List (Nat × AV)} {d : Nat → Value} (h : nbL k lv = true) : ∀ t, (ofL lv d t).nb k = true := by
  intro t
  simp only [ofL]
  split
  · rename_i v hv
    exact nbL_get h hv
  · rfl

theorem encode_call {xs : List Int} {c0 c : Nat} (hx : xs.length ≤ 100000000) (h0 : ∀ x ∈ xs, 0 ≤ x ∧ x < 4294967296) {Kp} :
    CallA Try.prog 14 [.sl 0 0 0 xs.length c0] [.one false 0 (.ints .u32 xs c)]
      (fun r M => ∃ g' c', r = .sl 4 g' 0 (encF xs).length c' ∧ M = [.one false 0 (.ints .u32 xs c), .gone, .gone, .gone, .one true g' (.ints .u8 (encF xs) c')] ∧ (encF xs).length ≤ c') Kp := by
  refine CallA.post_sub ?_
  refine step14 (fun _ => [1]) [] rfl ?_
  repeat ((conv => whnf); first | with_reducible refine O_step ?_ | with_reducible refine S_step ?_ | with_reducible refine D_step ?_ | with_reducible refine RO.exit ?_ | with_reducible refine RO.ret ?_ | ((with_reducible refine And.intro ?sc ?_); case sc => first | exact rfl | omega | exact Nat.le_of_ble_eq_true rfl | (dsimp only; omega) | (simp only [List.length_cons, List.length_nil, List.length_append, List.length_replicate, List.length_set, List.length_take, List.length_drop, List.length_map]; omega) | decide | (refine ⟨?_, ?_, ?_, ?_, ?_⟩ <;> first | exact rfl | omega | exact Nat.zero_le _ | exact Nat.le_refl _ | (dsimp only; omega) | simp | (simp; omega)) | (refine ⟨?_, ?_, ?_⟩ <;> first | exact rfl | omega | exact Nat.le_refl _ | (dsimp only; omega) | (simp; done) | (simp; omega))))
  refine step28 (fun _ => []) [] rfl ?_
  repeat ((conv => whnf); first | with_reducible refine O_step ?_ | with_reducible refine S_step ?_ | with_reducible refine D_step ?_ | with_reducible refine RO.exit ?_ | with_reducible refine RO.ret ?_ | ((with_reducible refine And.intro ?sc ?_); case sc => first | exact rfl | omega | exact Nat.le_of_ble_eq_true rfl | (dsimp only; omega) | (simp only [List.length_cons, List.length_nil, List.length_append, List.length_replicate, List.length_set, List.length_take, List.length_drop, List.length_map]; omega) | decide | (refine ⟨?_, ?_, ?_, ?_, ?_⟩ <;> first | exact rfl | omega | exact Nat.zero_le _ | exact Nat.le_refl _ | (dsimp only; omega) | simp | (simp; omega)) | (refine ⟨?_, ?_, ?_⟩ <;> first | exact rfl | omega | exact Nat.le_refl _ | (dsimp only; omega) | (simp; done) | (simp; omega))))
  refine WO.range rfl rfl [(3, .ptr 1 0 0)] (And.intro rfl (trivial)) fun l fn df d => ?_
  refine step42 (fun _ => [0, 2]) [] rfl ?_
  repeat ((conv => whnf); first | with_reducible refine O_step ?_ | with_reducible refine S_step ?_ | with_reducible refine D_step ?_ | with_reducible refine RO.exit ?_ | with_reducible refine RO.ret ?_ | ((with_reducible refine And.intro ?sc ?_); case sc => first | exact rfl | omega | exact Nat.le_of_ble_eq_true rfl | (dsimp only; omega) | (simp only [List.length_cons, List.length_nil, List.length_append, List.length_replicate, List.length_set, List.length_take, List.length_drop, List.length_map]; omega) | decide | (refine ⟨?_, ?_, ?_, ?_, ?_⟩ <;> first | exact rfl | omega | exact Nat.zero_le _ | exact Nat.le_refl _ | (dsimp only; omega) | simp | (simp; omega)) | (refine ⟨?_, ?_, ?_⟩ <;> first | exact rfl | omega | exact Nat.le_refl _ | (dsimp only; omega) | (simp; done) | (simp; omega))))
  have hL := cutL_length xs
  have hF : encF xs = encG 0 ((cutL xs).drop 0) := rfl
  refine WO.gov (σ := Nat × Nat × Nat × List Int) (fun (j, g, cc, ys) => j ≤ xs.length ∧ ys.length ≤ cc ∧ ys.length ≤ 4 * j ∧ encF xs = ys ++ encG 0 ((cutL xs).drop j)) (fun (j, _) => xs.length - j)
    (fun (j, g, cc, ys) => [(0, .fn (.yield l) [] []), (1, .ptr 2 0 0), (3, .int .i64 j)])
    (fun (j, g, cc, ys) => [.one false 0 (.ints .u32 xs c), .one true 0 (.cells [.sl 4 g 0 ys.length cc]), .one true 0 (.cells [.sl 0 0 0 xs.length c0]), .one true 0 (.loop l .ready none fn _ _ _ _ _ df), .one true g (.ints .u8 ys cc)]) (0, 0, 0, []) tb_ok mixed (by kernel_rfl)
    [(0, .fn (.yield l) [] []), (1, .ptr 2 0 0), (3, .int .i64 0)] _ ⟨Nat.zero_le _, Nat.zero_le _, Nat.zero_le _, hF⟩ (And.intro rfl (And.intro rfl (And.intro rfl (trivial)))) rfl (Vw.ghost (i := 1) (k := 0) (x := .ints .u8 [] 0) rfl rfl ⟨rfl, rfl⟩) (And.intro rfl (And.intro rfl (And.intro rfl (And.intro rfl (And.intro rfl (trivial)))))) (fun _ => rfl) (fun _ => rfl) (fun _ => ⟨trivial, rfl, rfl, ?_, trivial, trivial⟩) ?_
  · exact nb_ofL rfl
  rintro ⟨j, g, cc, ys⟩ ⟨h1, h2, h3, h4⟩ d2
  repeat ((conv => whnf); first | with_reducible refine O_step ?_ | with_reducible refine S_step ?_ | with_reducible refine D_step ?_ | with_reducible refine RO.exit ?_ | with_reducible refine RO.ret ?_ | ((with_reducible refine And.intro ?sc ?_); case sc => first | exact rfl | omega | exact Nat.le_of_ble_eq_true rfl | (dsimp only; omega) | (simp only [List.length_cons, List.length_nil, List.length_append, List.length_replicate, List.length_set, List.length_take, List.length_drop, List.length_map]; omega) | decide | (refine ⟨?_, ?_, ?_, ?_, ?_⟩ <;> first | exact rfl | omega | exact Nat.zero_le _ | exact Nat.le_refl _ | (dsimp only; omega) | simp | (simp; omega)) | (refine ⟨?_, ?_, ?_⟩ <;> first | exact rfl | omega | exact Nat.le_refl _ | (dsimp only; omega) | (simp; done) | (simp; omega))))
  refine And.intro (fun hc => ?_) (fun hc => ?_)
  · simp only [decide_eq_true_eq] at hc
    have hj : j < xs.length := by omega
    have hjL : j < (cutL xs).length := by omega
    have hxj := h0 _ (List.getElem_mem hj)
    repeat ((conv => whnf); first | with_reducible refine O_step ?_ | with_reducible refine S_step ?_ | with_reducible refine D_step ?_ | with_reducible refine RO.exit ?_ | with_reducible refine RO.ret ?_ | ((with_reducible refine And.intro ?sc ?_); case sc => first | exact rfl | omega | exact Nat.le_of_ble_eq_true rfl | (dsimp only; omega) | (simp only [List.length_cons, List.length_nil, List.length_append, List.length_replicate, List.length_set, List.length_take, List.length_drop, List.length_map]; omega) | decide | (refine ⟨?_, ?_, ?_, ?_, ?_⟩ <;> first | exact rfl | omega | exact Nat.zero_le _ | exact Nat.le_refl _ | (dsimp only; omega) | simp | (simp; omega)) | (refine ⟨?_, ?_, ?_⟩ <;> first | exact rfl | omega | exact Nat.le_refl _ | (dsimp only; omega) | (simp; done) | (simp; omega))))
    refine WO.go (σ := Nat) (fun n => 1 ≤ n ∧ n ≤ 256 ∧ j + n ≤ xs.length ∧ encG 0 ((cutL xs).drop j) = encG (n - 1) ((cutL xs).drop (j + n - 1)) ∧ (cutL xs).getD (j + n - 1) 0 = (cutL xs)[j]) (fun n => 256 - n)
      (fun n => [(0, .fn (.yield l) [] []), (1, .ptr 2 0 0), (3, .int .i64 j), (4, .int .i64 n), (5, .int .u32 (cutL xs)[j])]) (fun _ => _) 1 tb_ok mixed (by kernel_rfl)
      ⟨Nat.le_refl _, by decide, by omega, rfl, by simp [List.getD_eq_getElem?_getD, hjL]⟩ (And.intro rfl (And.intro rfl (And.intro rfl (And.intro rfl (And.intro ?_ trivial))))) (subA_refl _) (fun _ => rfl) (fun _ => rfl) (fun _ => ⟨trivial, rfl, rfl, nb_ofL rfl, trivial, trivial⟩) ?_
    · show AV.int .u32 (bitF .and .u32 (xs.getD j 0) 16777215) = _
      rw [and24_get h0 hj]; simp [List.getD_eq_getElem?_getD, hjL]
    rintro n ⟨b1, b2, b3, b4, b5⟩ d3
    repeat ((conv => whnf); first | with_reducible refine O_step ?_ | with_reducible refine S_step ?_ | with_reducible refine D_step ?_ | with_reducible refine RO.exit ?_ | with_reducible refine RO.ret ?_ | ((with_reducible refine And.intro ?sc ?_); case sc => first | exact rfl | omega | exact Nat.le_of_ble_eq_true rfl | (dsimp only; omega) | (simp only [List.length_cons, List.length_nil, List.length_append, List.length_replicate, List.length_set, List.length_take, List.length_drop, List.length_map]; omega) | decide | (refine ⟨?_, ?_, ?_, ?_, ?_⟩ <;> first | exact rfl | omega | exact Nat.zero_le _ | exact Nat.le_refl _ | (dsimp only; omega) | simp | (simp; omega)) | (refine ⟨?_, ?_, ?_⟩ <;> first | exact rfl | omega | exact Nat.le_refl _ | (dsimp only; omega) | (simp; done) | (simp; omega))))
    have st := encG_drop (l := cutL xs) (i := j + n - 1) (n - 1) (by omega)
    rw [show j + n - 1 + 1 = j + n by omega, show n - 1 + 1 = n by omega, b5] at st
    refine And.intro (fun hA => ?_) (fun hA => ?_)
    · simp only [decide_eq_true_eq] at hA
      repeat ((conv => whnf); first | with_reducible refine O_step ?_ | with_reducible refine S_step ?_ | with_reducible refine D_step ?_ | with_reducible refine RO.exit ?_ | with_reducible refine RO.ret ?_ | ((with_reducible refine And.intro ?sc ?_); case sc => first | exact rfl | omega | exact Nat.le_of_ble_eq_true rfl | (dsimp only; omega) | (simp only [List.length_cons, List.length_nil, List.length_append, List.length_replicate, List.length_set, List.length_take, List.length_drop, List.length_map]; omega) | decide | (refine ⟨?_, ?_, ?_, ?_, ?_⟩ <;> first | exact rfl | omega | exact Nat.zero_le _ | exact Nat.le_refl _ | (dsimp only; omega) | simp | (simp; omega)) | (refine ⟨?_, ?_, ?_⟩ <;> first | exact rfl | omega | exact Nat.le_refl _ | (dsimp only; omega) | (simp; done) | (simp; omega))))
      refine And.intro (fun hB => ?_) (fun hB => ?_)
      · have hB' : (j : Int) + n < xs.length := of_decide_eq_true hB
        have hq := and24_get h0 (j := j + n) (by omega)
        repeat ((conv => whnf); first | with_reducible refine O_step ?_ | with_reducible refine S_step ?_ | with_reducible refine D_step ?_ | with_reducible refine RO.exit ?_ | with_reducible refine RO.ret ?_ | ((with_reducible refine And.intro ?sc ?_); case sc => first | exact rfl | omega | exact Nat.le_of_ble_eq_true rfl | (dsimp only; omega) | (simp only [List.length_cons, List.length_nil, List.length_append, List.length_replicate, List.length_set, List.length_take, List.length_drop, List.length_map]; omega) | decide | (refine ⟨?_, ?_, ?_, ?_, ?_⟩ <;> first | exact rfl | omega | exact Nat.zero_le _ | exact Nat.le_refl _ | (dsimp only; omega) | simp | (simp; omega)) | (refine ⟨?_, ?_, ?_⟩ <;> first | exact rfl | omega | exact Nat.le_refl _ | (dsimp only; omega) | (simp; done) | (simp; omega))))
        refine And.intro (fun hC => ?_) (fun hC => ?_)
        · have hC' : (cutL xs).getD (j + n) 0 = (cutL xs)[j] := by rw [← hq]; exact of_decide_eq_true hC
          rw [if_pos ⟨⟨by omega, hC'⟩, by omega⟩] at st
          repeat ((conv => whnf); first | with_reducible refine O_step ?_ | with_reducible refine S_step ?_ | with_reducible refine D_step ?_ | with_reducible refine RO.exit ?_ | with_reducible refine RO.ret ?_ | ((with_reducible refine And.intro ?sc ?_); case sc => first | exact rfl | omega | exact Nat.le_of_ble_eq_true rfl | (dsimp only; omega) | (simp only [List.length_cons, List.length_nil, List.length_append, List.length_replicate, List.length_set, List.length_take, List.length_drop, List.length_map]; omega) | decide | (refine ⟨?_, ?_, ?_, ?_, ?_⟩ <;> first | exact rfl | omega | exact Nat.zero_le _ | exact Nat.le_refl _ | (dsimp only; omega) | simp | (simp; omega)) | (refine ⟨?_, ?_, ?_⟩ <;> first | exact rfl | omega | exact Nat.le_refl _ | (dsimp only; omega) | (simp; done) | (simp; omega))))
          refine RO.same (n + 1) ⟨by omega, by omega, by omega, ?_, ?_⟩ (show 256 - (n + 1) < 256 - n by omega) (And.intro rfl (And.intro rfl (And.intro rfl (And.intro ?_ (And.intro rfl trivial))))) (subA_refl _)
          · rw [b4, st]; rfl
          · exact hC'
          · show AV.int .i64 ((n : Int) + 1) = AV.int .i64 ((n + 1 : Nat) : Int)
            push_cast; rfl
        · have hC' : ¬ (cutL xs).getD (j + n) 0 = (cutL xs)[j] := by rw [← hq]; exact of_decide_eq_false hC
          repeat ((conv => whnf); first | with_reducible refine O_step ?_ | with_reducible refine S_step ?_ | with_reducible refine D_step ?_ | with_reducible refine RO.exit ?_ | with_reducible refine RO.ret ?_ | ((with_reducible refine And.intro ?sc ?_); case sc => first | exact rfl | omega | exact Nat.le_of_ble_eq_true rfl | (dsimp only; omega) | (simp only [List.length_cons, List.length_nil, List.length_append, List.length_replicate, List.length_set, List.length_take, List.length_drop, List.length_map]; omega) | decide | (refine ⟨?_, ?_, ?_, ?_, ?_⟩ <;> first | exact rfl | omega | exact Nat.zero_le _ | exact Nat.le_refl _ | (dsimp only; omega) | simp | (simp; omega)) | (refine ⟨?_, ?_, ?_⟩ <;> first | exact rfl | omega | exact Nat.le_refl _ | (dsimp only; omega) | (simp; done) | (simp; omega))))
          refine YieldA.round (x := { cx14 (fun _ => [1]) [] with r := some l }) tb_ok mixed (i := 3) rfl (by kernel_rfl) rfl rfl ?_
          repeat ((conv => whnf); first | with_reducible refine O_step ?_ | with_reducible refine S_step ?_ | with_reducible refine D_step ?_ | with_reducible refine RO.exit ?_ | with_reducible refine RO.ret ?_ | ((with_reducible refine And.intro ?sc ?_); case sc => first | exact rfl | omega | exact Nat.le_of_ble_eq_true rfl | (dsimp only; omega) | (simp only [List.length_cons, List.length_nil, List.length_append, List.length_replicate, List.length_set, List.length_take, List.length_drop, List.length_map]; omega) | decide | (refine ⟨?_, ?_, ?_, ?_, ?_⟩ <;> first | exact rfl | omega | exact Nat.zero_le _ | exact Nat.le_refl _ | (dsimp only; omega) | simp | (simp; omega)) | (refine ⟨?_, ?_, ?_⟩ <;> first | exact rfl | omega | exact Nat.le_refl _ | (dsimp only; omega) | (simp; done) | (simp; omega))))
          intro zs hzs
          have hz : zs = e4 (n - 1) (cutL xs)[j] := by rw [hzs]; exact e4_sh b1 b2 (cutL_bound _ (List.getElem_mem hjL))
          subst hz
          have he4 : (e4 (n - 1) (cutL xs)[j]).length = 4 := rfl
          have fin : encG 0 ((cutL xs).drop j) = e4 (n - 1) (cutL xs)[j] ++ encG 0 ((cutL xs).drop (j + n)) := by rw [b4, st, if_neg (by exact fun h => hC' h.1.2)]
          repeat ((conv => whnf); first | with_reducible refine O_step ?_ | with_reducible refine S_step ?_ | with_reducible refine D_step ?_ | with_reducible refine RO.exit ?_ | with_reducible refine RO.ret ?_ | ((with_reducible refine And.intro ?sc ?_); case sc => first | exact rfl | omega | exact Nat.le_of_ble_eq_true rfl | (dsimp only; omega) | (simp only [List.length_cons, List.length_nil, List.length_append, List.length_replicate, List.length_set, List.length_take, List.length_drop, List.length_map]; omega) | decide | (refine ⟨?_, ?_, ?_, ?_, ?_⟩ <;> first | exact rfl | omega | exact Nat.zero_le _ | exact Nat.le_refl _ | (dsimp only; omega) | simp | (simp; omega)) | (refine ⟨?_, ?_, ?_⟩ <;> first | exact rfl | omega | exact Nat.le_refl _ | (dsimp only; omega) | (simp; done) | (simp; omega))))
          intro c2 hc2
          repeat ((conv => whnf); first | with_reducible refine O_step ?_ | with_reducible refine S_step ?_ | with_reducible refine D_step ?_ | with_reducible refine RO.exit ?_ | with_reducible refine RO.ret ?_ | ((with_reducible refine And.intro ?sc ?_); case sc => first | exact rfl | omega | exact Nat.le_of_ble_eq_true rfl | (dsimp only; omega) | (simp only [List.length_cons, List.length_nil, List.length_append, List.length_replicate, List.length_set, List.length_take, List.length_drop, List.length_map]; omega) | decide | (refine ⟨?_, ?_, ?_, ?_, ?_⟩ <;> first | exact rfl | omega | exact Nat.zero_le _ | exact Nat.le_refl _ | (dsimp only; omega) | simp | (simp; omega)) | (refine ⟨?_, ?_, ?_⟩ <;> first | exact rfl | omega | exact Nat.le_refl _ | (dsimp only; omega) | (simp; done) | (simp; omega))))
          refine RO.same (j + n, g + 1, c2, ys ++ e4 (n - 1) (cutL xs)[j]) ⟨by omega, by simp only [List.length_append]; omega, by simp only [List.length_append]; omega, by rw [h4, fin, List.append_assoc]⟩ (show xs.length - (j + n) < xs.length - j by omega) (And.intro rfl (And.intro rfl (And.intro ?_ trivial))) (And.intro rfl (And.intro ?_ (And.intro rfl (And.intro rfl (And.intro rfl trivial)))))
          · show AV.int .i64 ((j : Int) + n) = AV.int .i64 ((j + n : Nat) : Int)
            push_cast; rfl
          · show AO.one true 0 (.cells [.sl 4 (g + 1) 0 (ys ++ e4 (n - 1) (cutL xs)[j]).length c2]) = AO.one true 0 (.cells [.sl 4 (g + 1) 0 (ys.length + 4) c2])
            rw [List.length_append]; rfl
      · have hB' : ¬ (j : Int) + n < xs.length := of_decide_eq_false hB
        repeat ((conv => whnf); first | with_reducible refine O_step ?_ | with_reducible refine S_step ?_ | with_reducible refine D_step ?_ | with_reducible refine RO.exit ?_ | with_reducible refine RO.ret ?_ | ((with_reducible refine And.intro ?sc ?_); case sc => first | exact rfl | omega | exact Nat.le_of_ble_eq_true rfl | (dsimp only; omega) | (simp only [List.length_cons, List.length_nil, List.length_append, List.length_replicate, List.length_set, List.length_take, List.length_drop, List.length_map]; omega) | decide | (refine ⟨?_, ?_, ?_, ?_, ?_⟩ <;> first | exact rfl | omega | exact Nat.zero_le _ | exact Nat.le_refl _ | (dsimp only; omega) | simp | (simp; omega)) | (refine ⟨?_, ?_, ?_⟩ <;> first | exact rfl | omega | exact Nat.le_refl _ | (dsimp only; omega) | (simp; done) | (simp; omega))))
        refine YieldA.round (x := { cx14 (fun _ => [1]) [] with r := some l }) tb_ok mixed (i := 3) rfl (by kernel_rfl) rfl rfl ?_
        repeat ((conv => whnf); first | with_reducible refine O_step ?_ | with_reducible refine S_step ?_ | with_reducible refine D_step ?_ | with_reducible refine RO.exit ?_ | with_reducible refine RO.ret ?_ | ((with_reducible refine And.intro ?sc ?_); case sc => first | exact rfl | omega | exact Nat.le_of_ble_eq_true rfl | (dsimp only; omega) | (simp only [List.length_cons, List.length_nil, List.length_append, List.length_replicate, List.length_set, List.length_take, List.length_drop, List.length_map]; omega) | decide | (refine ⟨?_, ?_, ?_, ?_, ?_⟩ <;> first | exact rfl | omega | exact Nat.zero_le _ | exact Nat.le_refl _ | (dsimp only; omega) | simp | (simp; omega)) | (refine ⟨?_, ?_, ?_⟩ <;> first | exact rfl | omega | exact Nat.le_refl _ | (dsimp only; omega) | (simp; done) | (simp; omega))))
        intro zs hzs
        have hz : zs = e4 (n - 1) (cutL xs)[j] := by rw [hzs]; exact e4_sh b1 b2 (cutL_bound _ (List.getElem_mem hjL))
        subst hz
        have he4 : (e4 (n - 1) (cutL xs)[j]).length = 4 := rfl
        have fin : encG 0 ((cutL xs).drop j) = e4 (n - 1) (cutL xs)[j] ++ encG 0 ((cutL xs).drop (j + n)) := by rw [b4, st, if_neg (by omega)]
        repeat ((conv => whnf); first | with_reducible refine O_step ?_ | with_reducible refine S_step ?_ | with_reducible refine D_step ?_ | with_reducible refine RO.exit ?_ | with_reducible refine RO.ret ?_ | ((with_reducible refine And.intro ?sc ?_); case sc => first | exact rfl | omega | exact Nat.le_of_ble_eq_true rfl | (dsimp only; omega) | (simp only [List.length_cons, List.length_nil, List.length_append, List.length_replicate, List.length_set, List.length_take, List.length_drop, List.length_map]; omega) | decide | (refine ⟨?_, ?_, ?_, ?_, ?_⟩ <;> first | exact rfl | omega | exact Nat.zero_le _ | exact Nat.le_refl _ | (dsimp only; omega) | simp | (simp; omega)) | (refine ⟨?_, ?_, ?_⟩ <;> first | exact rfl | omega | exact Nat.le_refl _ | (dsimp only; omega) | (simp; done) | (simp; omega))))
        intro c2 hc2
        repeat ((conv => whnf); first | with_reducible refine O_step ?_ | with_reducible refine S_step ?_ | with_reducible refine D_step ?_ | with_reducible refine RO.exit ?_ | with_reducible refine RO.ret ?_ | ((with_reducible refine And.intro ?sc ?_); case sc => first | exact rfl | omega | exact Nat.le_of_ble_eq_true rfl | (dsimp only; omega) | (simp only [List.length_cons, List.length_nil, List.length_append, List.length_replicate, List.length_set, List.length_take, List.length_drop, List.length_map]; omega) | decide | (refine ⟨?_, ?_, ?_, ?_, ?_⟩ <;> first | exact rfl | omega | exact Nat.zero_le _ | exact Nat.le_refl _ | (dsimp only; omega) | simp | (simp; omega)) | (refine ⟨?_, ?_, ?_⟩ <;> first | exact rfl | omega | exact Nat.le_refl _ | (dsimp only; omega) | (simp; done) | (simp; omega))))
        refine RO.same (j + n, g + 1, c2, ys ++ e4 (n - 1) (cutL xs)[j]) ⟨by omega, by simp only [List.length_append]; omega, by simp only [List.length_append]; omega, by rw [h4, fin, List.append_assoc]⟩ (show xs.length - (j + n) < xs.length - j by omega) (And.intro rfl (And.intro rfl (And.intro ?_ trivial))) (And.intro rfl (And.intro ?_ (And.intro rfl (And.intro rfl (And.intro rfl trivial)))))
        · show AV.int .i64 ((j : Int) + n) = AV.int .i64 ((j + n : Nat) : Int)
          push_cast; rfl
        · show AO.one true 0 (.cells [.sl 4 (g + 1) 0 (ys ++ e4 (n - 1) (cutL xs)[j]).length c2]) = AO.one true 0 (.cells [.sl 4 (g + 1) 0 (ys.length + 4) c2])
          rw [List.length_append]; rfl
    · have hA' : ¬ (n : Int) < 256 := of_decide_eq_false hA
      repeat ((conv => whnf); first | with_reducible refine O_step ?_ | with_reducible refine S_step ?_ | with_reducible refine D_step ?_ | with_reducible refine RO.exit ?_ | with_reducible refine RO.ret ?_ | ((with_reducible refine And.intro ?sc ?_); case sc => first | exact rfl | omega | exact Nat.le_of_ble_eq_true rfl | (dsimp only; omega) | (simp only [List.length_cons, List.length_nil, List.length_append, List.length_replicate, List.length_set, List.length_take, List.length_drop, List.length_map]; omega) | decide | (refine ⟨?_, ?_, ?_, ?_, ?_⟩ <;> first | exact rfl | omega | exact Nat.zero_le _ | exact Nat.le_refl _ | (dsimp only; omega) | simp | (simp; omega)) | (refine ⟨?_, ?_, ?_⟩ <;> first | exact rfl | omega | exact Nat.le_refl _ | (dsimp only; omega) | (simp; done) | (simp; omega))))
      refine YieldA.round (x := { cx14 (fun _ => [1]) [] with r := some l }) tb_ok mixed (i := 3) rfl (by kernel_rfl) rfl rfl ?_
      repeat ((conv => whnf); first | with_reducible refine O_step ?_ | with_reducible refine S_step ?_ | with_reducible refine D_step ?_ | with_reducible refine RO.exit ?_ | with_reducible refine RO.ret ?_ | ((with_reducible refine And.intro ?sc ?_); case sc => first | exact rfl | omega | exact Nat.le_of_ble_eq_true rfl | (dsimp only; omega) | (simp only [List.length_cons, List.length_nil, List.length_append, List.length_replicate, List.length_set, List.length_take, List.length_drop, List.length_map]; omega) | decide | (refine ⟨?_, ?_, ?_, ?_, ?_⟩ <;> first | exact rfl | omega | exact Nat.zero_le _ | exact Nat.le_refl _ | (dsimp only; omega) | simp | (simp; omega)) | (refine ⟨?_, ?_, ?_⟩ <;> first | exact rfl | omega | exact Nat.le_refl _ | (dsimp only; omega) | (simp; done) | (simp; omega))))
      intro zs hzs
      have hz : zs = e4 (n - 1) (cutL xs)[j] := by rw [hzs]; exact e4_sh b1 b2 (cutL_bound _ (List.getElem_mem hjL))
      subst hz
      have he4 : (e4 (n - 1) (cutL xs)[j]).length = 4 := rfl
      have fin : encG 0 ((cutL xs).drop j) = e4 (n - 1) (cutL xs)[j] ++ encG 0 ((cutL xs).drop (j + n)) := by rw [b4, st, if_neg (by omega)]
      repeat ((conv => whnf); first | with_reducible refine O_step ?_ | with_reducible refine S_step ?_ | with_reducible refine D_step ?_ | with_reducible refine RO.exit ?_ | with_reducible refine RO.ret ?_ | ((with_reducible refine And.intro ?sc ?_); case sc => first | exact rfl | omega | exact Nat.le_of_ble_eq_true rfl | (dsimp only; omega) | (simp only [List.length_cons, List.length_nil, List.length_append, List.length_replicate, List.length_set, List.length_take, List.length_drop, List.length_map]; omega) | decide | (refine ⟨?_, ?_, ?_, ?_, ?_⟩ <;> first | exact rfl | omega | exact Nat.zero_le _ | exact Nat.le_refl _ | (dsimp only; omega) | simp | (simp; omega)) | (refine ⟨?_, ?_, ?_⟩ <;> first | exact rfl | omega | exact Nat.le_refl _ | (dsimp only; omega) | (simp; done) | (simp; omega))))
      intro c2 hc2
      repeat ((conv => whnf); first | with_reducible refine O_step ?_ | with_reducible refine S_step ?_ | with_reducible refine D_step ?_ | with_reducible refine RO.exit ?_ | with_reducible refine RO.ret ?_ | ((with_reducible refine And.intro ?sc ?_); case sc => first | exact rfl | omega | exact Nat.le_of_ble_eq_true rfl | (dsimp only; omega) | (simp only [List.length_cons, List.length_nil, List.length_append, List.length_replicate, List.length_set, List.length_take, List.length_drop, List.length_map]; omega) | decide | (refine ⟨?_, ?_, ?_, ?_, ?_⟩ <;> first | exact rfl | omega | exact Nat.zero_le _ | exact Nat.le_refl _ | (dsimp only; omega) | simp | (simp; omega)) | (refine ⟨?_, ?_, ?_⟩ <;> first | exact rfl | omega | exact Nat.le_refl _ | (dsimp only; omega) | (simp; done) | (simp; omega))))
      refine RO.same (j + n, g + 1, c2, ys ++ e4 (n - 1) (cutL xs)[j]) ⟨by omega, by simp only [List.length_append]; omega, by simp only [List.length_append]; omega, by rw [h4, fin, List.append_assoc]⟩ (show xs.length - (j + n) < xs.length - j by omega) (And.intro rfl (And.intro rfl (And.intro ?_ trivial))) (And.intro rfl (And.intro ?_ (And.intro rfl (And.intro rfl (And.intro rfl trivial)))))
      · show AV.int .i64 ((j : Int) + n) = AV.int .i64 ((j + n : Nat) : Int)
        push_cast; rfl
      · show AO.one true 0 (.cells [.sl 4 (g + 1) 0 (ys ++ e4 (n - 1) (cutL xs)[j]).length c2]) = AO.one true 0 (.cells [.sl 4 (g + 1) 0 (ys.length + 4) c2])
        rw [List.length_append]; rfl
  · simp only [decide_eq_false_iff_not] at hc
    have hi : j = (cutL xs).length := by omega
    have e : ys = encF xs := by rw [h4, hi, List.drop_length]; simp [encG]
    subst e
    repeat ((conv => whnf); first | with_reducible refine O_step ?_ | with_reducible refine S_step ?_ | with_reducible refine D_step ?_ | with_reducible refine RO.exit ?_ | with_reducible refine RO.ret ?_ | ((with_reducible refine And.intro ?sc ?_); case sc => first | exact rfl | omega | exact Nat.le_of_ble_eq_true rfl | (dsimp only; omega) | (simp only [List.length_cons, List.length_nil, List.length_append, List.length_replicate, List.length_set, List.length_take, List.length_drop, List.length_map]; omega) | decide | (refine ⟨?_, ?_, ?_, ?_, ?_⟩ <;> first | exact rfl | omega | exact Nat.zero_le _ | exact Nat.le_refl _ | (dsimp only; omega) | simp | (simp; omega)) | (refine ⟨?_, ?_, ?_⟩ <;> first | exact rfl | omega | exact Nat.le_refl _ | (dsimp only; omega) | (simp; done) | (simp; omega))))
    refine Or.inl (And.intro rfl ?_)
    repeat ((conv => whnf); first | with_reducible refine O_step ?_ | with_reducible refine S_step ?_ | with_reducible refine D_step ?_ | with_reducible refine RO.exit ?_ | with_reducible refine RO.ret ?_ | ((with_reducible refine And.intro ?sc ?_); case sc => first | exact rfl | omega | exact Nat.le_of_ble_eq_true rfl | (dsimp only; omega) | (simp only [List.length_cons, List.length_nil, List.length_append, List.length_replicate, List.length_set, List.length_take, List.length_drop, List.length_map]; omega) | decide | (refine ⟨?_, ?_, ?_, ?_, ?_⟩ <;> first | exact rfl | omega | exact Nat.zero_le _ | exact Nat.le_refl _ | (dsimp only; omega) | simp | (simp; omega)) | (refine ⟨?_, ?_, ?_⟩ <;> first | exact rfl | omega | exact Nat.le_refl _ | (dsimp only; omega) | (simp; done) | (simp; omega))))
    exact Exists.intro [.one false 0 (.ints .u32 xs c), .gone, .gone, .gone, .one true g (.ints .u8 (encF xs) cc)] (And.intro (And.intro rfl (And.intro trivial (And.intro trivial (And.intro trivial (And.intro rfl trivial))))) (And.intro ⟨trivial, trivial, trivial, trivial, trivial, trivial⟩ (And.intro rfl ⟨g, cc, rfl, rfl, h2⟩)))

theorem rencode_at {M : AH} {K Kp : AV → AH → Prop} {i g n c co : Nat} {o : Bool} {xs : List Int} (hi : M[i]? = some (.one o g (.ints .u32 xs co))) (hn : n = xs.length) (hx : xs.length ≤ 100000000) (h0 : ∀ x ∈ xs, 0 ≤ x ∧ x < 4294967296)
    (h : ∀ g1 c1 g' c', (encF xs).length ≤ c' → K (.sl (M.length + 1) g' 0 (encF xs).length c') (M ++ [.one true g1 (.ints .u32 (cutL xs) c1), .one true g' (.ints .u8 (encF xs) c')])) : CallA Try.prog 15 [.sl i g 0 n c] M K Kp := by
  subst hn
  refine CallA.lift [.win i g 0] (rencode_call (xs := xs) (c0 := c) (c := co) (Kp := fun _ _ => False) hx h0) rfl rfl ⟨⟨_, _, _, rfl, slot_one hi, WinC.same rfl (fun h => h)⟩, trivial⟩ ⟨trivial, trivial⟩ ?_ (fun _ _ h => h.elim)
  rintro r M' ⟨g1, c1, g', c', rfl, rfl, hc'⟩
  exact ⟨⟨rfl, rfl⟩, h g1 c1 g' c' hc'⟩
theorem encode_at {M : AH} {K Kp : AV → AH → Prop} {i g n c co : Nat} {o : Bool} {xs : List Int} (hi : M[i]? = some (.one o g (.ints .u32 xs co))) (hn : n = xs.length) (hx : xs.length ≤ 100000000) (h0 : ∀ x ∈ xs, 0 ≤ x ∧ x < 4294967296)
    (h : ∀ g' c', (encF xs).length ≤ c' → K (.sl (M.length + 3) g' 0 (encF xs).length c') (M ++ [.gone, .gone, .gone, .one true g' (.ints .u8 (encF xs) c')])) : CallA Try.prog 14 [.sl i g 0 n c] M K Kp := by
  subst hn
  refine CallA.lift [.win i g 0] (encode_call (xs := xs) (c0 := c) (c := co) (Kp := fun _ _ => False) hx h0) rfl rfl ⟨⟨_, _, _, rfl, slot_one hi, WinC.same rfl (fun h => h)⟩, trivial⟩ ⟨trivial, trivial⟩ ?_ (fun _ _ h => h.elim)
  rintro r M' ⟨g', c', rfl, rfl, hc'⟩
  exact ⟨⟨rfl, rfl⟩, h g' c' hc'⟩
end Go.Proofs.Ytaioclggifdnhaa
