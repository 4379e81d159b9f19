/- The law BitsReads, walked. -/
import Derived.Test.YthbmddaemdcamaaBv
set_option linter.unusedVariables false
set_option linter.unusedSimpArgs false
open Go.RowKit
namespace Go.Proofs.Ythbmddaemdcamaa
set_option maxRecDepth 10000

def sevens (xs : List Int) (j : Nat) : List Int := List.replicate j 7 ++ xs.drop j
theorem sevens_length {xs : List Int} {j : Nat} (h : j ≤ xs.length) : (sevens xs j).length = xs.length := by simp [sevens]; omega
theorem sevens_get {xs : List Int} {j : Nat} (h : j < xs.length) : (sevens xs j).getD j 0 = xs.getD j 0 := by
  simp [sevens, List.getD_eq_getElem?_getD, List.getElem?_append_right]
theorem sevens_set {xs : List Int} {j : Nat} (h : j < xs.length) : (sevens xs j).set j 7 = sevens xs (j + 1) := by
  unfold sevens
  rw [List.set_append]
  simp [List.replicate_succ']
  rw [List.drop_eq_getElem_cons h]; rfl

set_option maxHeartbeats 4000000 in
theorem bitsReads_law (xs : List Int) (c : Nat) (hc : xs.length ≤ c ∧ c ≤ 9223372036854775807) (hx : ∀ x ∈ xs, IntKind.u8.min ≤ x ∧ x ≤ IntKind.u8.max) (m c1 : Nat) (get : Nat → List AV) (hm : m ≤ c1 ∧ c1 ≤ 9223372036854775807) (hg : ∀ j, fitL [.int .u32, .int .i64, .bool] (get j)) :
    CallA Try.prog 6 [.sl 0 0 0 xs.length c, .sl 1 0 0 m c1] [.one false 0 (.ints .u8 xs c), .one false 0 (.tab 3 m get c1)] (fun r _ => r = .bo true) (fun _ _ => False) := by
  obtain ⟨f, rfl, hf⟩ := actG_ex hg m
  have hx' : ∀ x ∈ xs, 0 ≤ x ∧ x < 256 := fun x hh => ⟨(hx x hh).1, by have : x ≤ 255 := (hx x hh).2; omega⟩
  refine step6 (fun _ => [0, 1, 2]) [] rfl ?_
  repeat ((conv => whnf); first | with_reducible refine O_step ?_ | with_reducible refine S_step ?_ | with_reducible refine D_step ?_ | with_reducible refine RO.exit ?_ | with_reducible refine RO.ret ?_ | (with_reducible refine And.intro ?sc ?_; case sc => first | exact rfl | omega | exact Nat.le_of_ble_eq_true rfl | (dsimp only; omega) | (refine ⟨?_, ?_, ?_, ?_, ?_⟩ <;> first | exact rfl | omega | exact Nat.zero_le _ | exact Nat.le_refl _ | (dsimp only; omega) | simp | (simp; omega))))
  refine And.intro (fun h => ?_) (fun h => ?_)
  · repeat ((conv => whnf); first | with_reducible refine O_step ?_ | with_reducible refine S_step ?_ | with_reducible refine D_step ?_ | with_reducible refine RO.exit ?_ | with_reducible refine RO.ret ?_ | (with_reducible refine And.intro ?sc ?_; case sc => first | exact rfl | omega | exact Nat.le_of_ble_eq_true rfl | (dsimp only; omega) | (refine ⟨?_, ?_, ?_, ?_, ?_⟩ <;> first | exact rfl | omega | exact Nat.zero_le _ | exact Nat.le_refl _ | (dsimp only; omega) | simp | (simp; omega))))
    exact rfl
  simp only [decide_eq_false_iff_not] at h
  repeat ((conv => whnf); first | with_reducible refine O_step ?_ | with_reducible refine S_step ?_ | with_reducible refine D_step ?_ | with_reducible refine RO.exit ?_ | with_reducible refine RO.ret ?_ | (with_reducible refine And.intro ?sc ?_; case sc => first | exact rfl | omega | exact Nat.le_of_ble_eq_true rfl | (dsimp only; omega) | (refine ⟨?_, ?_, ?_, ?_, ?_⟩ <;> first | exact rfl | omega | exact Nat.zero_le _ | exact Nat.le_refl _ | (dsimp only; omega) | simp | (simp; omega))))
  refine And.intro (fun h2 => ?_) (fun h2 => ?_)
  · repeat ((conv => whnf); first | with_reducible refine O_step ?_ | with_reducible refine S_step ?_ | with_reducible refine D_step ?_ | with_reducible refine RO.exit ?_ | with_reducible refine RO.ret ?_ | (with_reducible refine And.intro ?sc ?_; case sc => first | exact rfl | omega | exact Nat.le_of_ble_eq_true rfl | (dsimp only; omega) | (refine ⟨?_, ?_, ?_, ?_, ?_⟩ <;> first | exact rfl | omega | exact Nat.zero_le _ | exact Nat.le_refl _ | (dsimp only; omega) | simp | (simp; omega))))
    exact rfl
  simp only [decide_eq_false_iff_not] at h2
  repeat ((conv => whnf); first | with_reducible refine O_step ?_ | with_reducible refine S_step ?_ | with_reducible refine D_step ?_ | with_reducible refine RO.exit ?_ | with_reducible refine RO.ret ?_ | (with_reducible refine And.intro ?sc ?_; case sc => first | exact rfl | omega | exact Nat.le_of_ble_eq_true rfl | (dsimp only; omega) | (refine ⟨?_, ?_, ?_, ?_, ?_⟩ <;> first | exact rfl | omega | exact Nat.zero_le _ | exact Nat.le_refl _ | (dsimp only; omega) | simp | (simp; omega))))
  intro ys hys
  have hys' : ys = xs := by rw [hys]; simp
  subst hys'
  repeat ((conv => whnf); first | with_reducible refine O_step ?_ | with_reducible refine S_step ?_ | with_reducible refine D_step ?_ | with_reducible refine RO.exit ?_ | with_reducible refine RO.ret ?_ | (with_reducible refine And.intro ?sc ?_; case sc => first | exact rfl | omega | exact Nat.le_of_ble_eq_true rfl | (dsimp only; omega) | (refine ⟨?_, ?_, ?_, ?_, ?_⟩ <;> first | exact rfl | omega | exact Nat.zero_le _ | exact Nat.le_refl _ | (dsimp only; omega) | simp | (simp; omega))))
  intro c2 hc2
  repeat ((conv => whnf); first | with_reducible refine O_step ?_ | with_reducible refine S_step ?_ | with_reducible refine D_step ?_ | with_reducible refine RO.exit ?_ | with_reducible refine RO.ret ?_ | (with_reducible refine And.intro ?sc ?_; case sc => first | exact rfl | omega | exact Nat.le_of_ble_eq_true rfl | (dsimp only; omega) | (refine ⟨?_, ?_, ?_, ?_, ?_⟩ <;> first | exact rfl | omega | exact Nat.zero_le _ | exact Nat.le_refl _ | (dsimp only; omega) | simp | (simp; omega))))
  refine new_at (i := 2) (xs := ys) rfl rfl (by omega) fun g3 c3 hc3 => ?_
  repeat ((conv => whnf); first | with_reducible refine O_step ?_ | with_reducible refine S_step ?_ | with_reducible refine D_step ?_ | with_reducible refine RO.exit ?_ | with_reducible refine RO.ret ?_ | (with_reducible refine And.intro ?sc ?_; case sc => first | exact rfl | omega | exact Nat.le_of_ble_eq_true rfl | (dsimp only; omega) | (refine ⟨?_, ?_, ?_, ?_, ?_⟩ <;> first | exact rfl | omega | exact Nat.zero_le _ | exact Nat.le_refl _ | (dsimp only; omega) | simp | (simp; omega))))
  refine WO.go (σ := Nat) (fun j => j ≤ ys.length) (fun j => ys.length - j)
    (fun j => [(0, .sl 0 0 0 ys.length c), (1, .sl 1 0 0 m c1), (5, .sl 2 0 0 ys.length c2), (6, .ptr 4 0 0), (7, .int .i64 j)])
    (fun j => [.one false 0 (.ints .u8 ys c), .one false 0 (.tab 3 m (actG f) c1), .one true 0 (.ints .u8 (sevens ys j) c2), rb g3 c3 ys, ro 3 g3 c3 ys 0]) 0 tb_ok mixed (by kernel_rfl)
    (Nat.zero_le _) (And.intro rfl (And.intro rfl (And.intro rfl (And.intro rfl (And.intro rfl (trivial)))))) (And.intro rfl (And.intro rfl (And.intro rfl (And.intro rfl (And.intro rfl (trivial)))))) (fun _ => rfl) (fun _ => rfl) (fun _ => ⟨trivial, fun j => rfl, trivial, trivial, rfl, trivial⟩) ?_
  intro j hj d
  have hsl := sevens_length hj
  repeat ((conv => whnf); first | with_reducible refine O_step ?_ | with_reducible refine S_step ?_ | with_reducible refine D_step ?_ | with_reducible refine RO.exit ?_ | with_reducible refine RO.ret ?_ | (with_reducible refine And.intro ?sc ?_; case sc => first | exact rfl | omega | exact Nat.le_of_ble_eq_true rfl | (dsimp only; omega) | (refine ⟨?_, ?_, ?_, ?_, ?_⟩ <;> first | exact rfl | omega | exact Nat.zero_le _ | exact Nat.le_refl _ | (dsimp only; omega) | simp | (simp; omega))))
  refine And.intro (fun hc => ?_) (fun hc => ?_)
  · simp only [decide_eq_true_eq] at hc
    have hjl : j < ys.length := by omega
    have hgs := sevens_get hjl
    rw [List.getD_eq_getElem?_getD, List.getD_eq_getElem?_getD] at hgs
    have hss := sevens_set hjl
    repeat ((conv => whnf); first | with_reducible refine O_step ?_ | with_reducible refine S_step ?_ | with_reducible refine D_step ?_ | with_reducible refine RO.exit ?_ | with_reducible refine RO.ret ?_ | (with_reducible refine And.intro ?sc ?_; case sc => first | exact rfl | omega | exact Nat.le_of_ble_eq_true rfl | (dsimp only; omega) | (refine ⟨?_, ?_, ?_, ?_, ?_⟩ <;> first | exact rfl | omega | exact Nat.zero_le _ | exact Nat.le_refl _ | (dsimp only; omega) | simp | (simp; omega))))
    refine And.intro (fun hh => absurd hh (by simp [hgs])) (fun _ => ?_)
    repeat ((conv => whnf); first | with_reducible refine O_step ?_ | with_reducible refine S_step ?_ | with_reducible refine D_step ?_ | with_reducible refine RO.exit ?_ | with_reducible refine RO.ret ?_ | (with_reducible refine And.intro ?sc ?_; case sc => first | exact rfl | omega | exact Nat.le_of_ble_eq_true rfl | (dsimp only; omega) | (refine ⟨?_, ?_, ?_, ?_, ?_⟩ <;> first | exact rfl | omega | exact Nat.zero_le _ | exact Nat.le_refl _ | (dsimp only; omega) | simp | (simp; omega))))
    refine RO.same (j + 1) (by omega) (show ys.length - (j + 1) < ys.length - j by omega) (And.intro rfl (And.intro rfl (And.intro rfl (And.intro rfl (And.intro rfl (trivial)))))) (And.intro rfl (And.intro rfl (And.intro ?_ (And.intro rfl (And.intro rfl (trivial))))))
    show AO.one true 0 (.ints .u8 (sevens ys (j + 1)) c2) = AO.one true 0 (.ints .u8 ((sevens ys j).set j 7) c2)
    rw [hss]
  simp only [decide_eq_false_iff_not] at hc
  obtain rfl : j = ys.length := by omega
  repeat ((conv => whnf); first | with_reducible refine O_step ?_ | with_reducible refine S_step ?_ | with_reducible refine D_step ?_ | with_reducible refine RO.exit ?_ | with_reducible refine RO.ret ?_ | (with_reducible refine And.intro ?sc ?_; case sc => first | exact rfl | omega | exact Nat.le_of_ble_eq_true rfl | (dsimp only; omega) | (refine ⟨?_, ?_, ?_, ?_, ?_⟩ <;> first | exact rfl | omega | exact Nat.zero_le _ | exact Nat.le_refl _ | (dsimp only; omega) | simp | (simp; omega))))
  refine rof_at (i := 0) (xs := ys) rfl rfl (by omega) hx' fun g5 c5 hc5 => ?_
  repeat ((conv => whnf); first | with_reducible refine O_step ?_ | with_reducible refine S_step ?_ | with_reducible refine D_step ?_ | with_reducible refine RO.exit ?_ | with_reducible refine RO.ret ?_ | (with_reducible refine And.intro ?sc ?_; case sc => first | exact rfl | omega | exact Nat.le_of_ble_eq_true rfl | (dsimp only; omega) | (refine ⟨?_, ?_, ?_, ?_, ?_⟩ <;> first | exact rfl | omega | exact Nat.zero_le _ | exact Nat.le_refl _ | (dsimp only; omega) | simp | (simp; omega))))
  have hul := unpack_length ys
  refine WO.go (σ := Nat × Nat) (fun (i, at_) => i ≤ m ∧ at_ ≤ 8 * ys.length) (fun (i, _) => m - i)
    (fun (i, at_) => [(0, .sl 0 0 0 ys.length c), (1, .sl 1 0 0 m c1), (5, .sl 2 0 0 ys.length c2), (6, .ptr 4 0 0), (8, .sl 5 g5 0 (unpack ys).length c5), (9, .int .i64 at_), (10, .int .i64 i)])
    (fun (i, at_) => [.one false 0 (.ints .u8 ys c), .one false 0 (.tab 3 m (actG f) c1), .one true 0 (.ints .u8 (sevens ys ys.length) c2), rb g3 c3 ys, ro 3 g3 c3 ys at_, .one true g5 (.bools (unpack ys) c5)]) (0, 0) tb_ok mixed (by kernel_rfl)
    ⟨Nat.zero_le _, Nat.zero_le _⟩ (And.intro rfl (And.intro rfl (And.intro rfl (And.intro rfl (And.intro rfl (And.intro rfl (And.intro rfl (trivial)))))))) (And.intro rfl (And.intro rfl (And.intro rfl (And.intro rfl (And.intro rfl (And.intro rfl (trivial))))))) (fun _ => rfl) (fun _ => rfl) (fun _ => ⟨trivial, fun j => rfl, trivial, trivial, rfl, trivial, trivial⟩) ?_
  rintro ⟨i, at_⟩ ⟨hi, hat⟩ d
  repeat ((conv => whnf); first | with_reducible refine O_step ?_ | with_reducible refine S_step ?_ | with_reducible refine D_step ?_ | with_reducible refine RO.exit ?_ | with_reducible refine RO.ret ?_ | (with_reducible refine And.intro ?sc ?_; case sc => first | exact rfl | omega | exact Nat.le_of_ble_eq_true rfl | (dsimp only; omega) | (refine ⟨?_, ?_, ?_, ?_, ?_⟩ <;> first | exact rfl | omega | exact Nat.zero_le _ | exact Nat.le_refl _ | (dsimp only; omega) | simp | (simp; omega))))
  refine And.intro (fun hc => ?_) (fun hc => ?_)
  · simp only [decide_eq_true_eq] at hc
    have hin : i < m := by omega
    have hfi := hf i hin
    have end_ : ∀ at2 : Nat, at2 ≤ 8 * ys.length → True := fun _ _ => trivial
    repeat ((conv => whnf); first | with_reducible refine O_step ?_ | with_reducible refine S_step ?_ | with_reducible refine D_step ?_ | with_reducible refine RO.exit ?_ | with_reducible refine RO.ret ?_ | (with_reducible refine And.intro ?sc ?_; case sc => first | exact rfl | omega | exact Nat.le_of_ble_eq_true rfl | (dsimp only; omega) | (refine ⟨?_, ?_, ?_, ?_, ?_⟩ <;> first | exact rfl | omega | exact Nat.zero_le _ | exact Nat.le_refl _ | (dsimp only; omega) | simp | (simp; omega))))
    refine And.intro (fun hb => ?_) (fun hb => ?_)
    · repeat ((conv => whnf); first | with_reducible refine O_step ?_ | with_reducible refine S_step ?_ | with_reducible refine D_step ?_ | with_reducible refine RO.exit ?_ | with_reducible refine RO.ret ?_ | (with_reducible refine And.intro ?sc ?_; case sc => first | exact rfl | omega | exact Nat.le_of_ble_eq_true rfl | (dsimp only; omega) | (refine ⟨?_, ?_, ?_, ?_, ?_⟩ <;> first | exact rfl | omega | exact Nat.zero_le _ | exact Nat.le_refl _ | (dsimp only; omega) | simp | (simp; omega))))
      refine WO.go (σ := Nat) (fun at2 => at_ ≤ at2 ∧ at2 ≤ (at_ + 7) / 8 * 8) (fun at2 => (at_ + 7) / 8 * 8 - at2)
        (fun at2 => [(0, .sl 0 0 0 ys.length c), (1, .sl 1 0 0 m c1), (5, .sl 2 0 0 ys.length c2), (6, .ptr 4 0 0), (8, .sl 5 g5 0 (unpack ys).length c5), (9, .int .i64 at2), (10, .int .i64 i)])
        (fun at2 => [.one false 0 (.ints .u8 ys c), .one false 0 (.tab 3 m (actG f) c1), .one true 0 (.ints .u8 (sevens ys ys.length) c2), rb g3 c3 ys, ro 3 g3 c3 ys at_, .one true g5 (.bools (unpack ys) c5)]) at_ tb_ok mixed (by kernel_rfl)
        ⟨Nat.le_refl _, by omega⟩ (And.intro rfl (And.intro rfl (And.intro rfl (And.intro rfl (And.intro rfl (And.intro rfl (And.intro rfl (trivial)))))))) (And.intro rfl (And.intro rfl (And.intro rfl (And.intro rfl (And.intro rfl (And.intro rfl (trivial))))))) (fun _ => rfl) (fun _ => rfl) (fun _ => ⟨trivial, fun j => rfl, trivial, trivial, rfl, trivial, trivial⟩) ?_
      rintro at2 ⟨ha1, ha2⟩ d2
      have emod : ((at2 : Int)).tmod 8 = ((at2 % 8 : Nat) : Int) := rfl
      repeat ((conv => whnf); first | with_reducible refine O_step ?_ | with_reducible refine S_step ?_ | with_reducible refine D_step ?_ | with_reducible refine RO.exit ?_ | with_reducible refine RO.ret ?_ | (with_reducible refine And.intro ?sc ?_; case sc => first | exact rfl | omega | exact Nat.le_of_ble_eq_true rfl | (dsimp only; omega) | (refine ⟨?_, ?_, ?_, ?_, ?_⟩ <;> first | exact rfl | omega | exact Nat.zero_le _ | exact Nat.le_refl _ | (dsimp only; omega) | simp | (simp; omega))))
      refine And.intro (fun hc2 => ?_) (fun hc2 => ?_)
      · rw [emod] at hc2
        simp only [Bool.not_eq_true', decide_eq_false_iff_not] at hc2
        repeat ((conv => whnf); first | with_reducible refine O_step ?_ | with_reducible refine S_step ?_ | with_reducible refine D_step ?_ | with_reducible refine RO.exit ?_ | with_reducible refine RO.ret ?_ | (with_reducible refine And.intro ?sc ?_; case sc => first | exact rfl | omega | exact Nat.le_of_ble_eq_true rfl | (dsimp only; omega) | (refine ⟨?_, ?_, ?_, ?_, ?_⟩ <;> first | exact rfl | omega | exact Nat.zero_le _ | exact Nat.le_refl _ | (dsimp only; omega) | simp | (simp; omega))))
        exact RO.same (at2 + 1) ⟨by omega, by omega⟩ (show (at_ + 7) / 8 * 8 - (at2 + 1) < (at_ + 7) / 8 * 8 - at2 by omega) (And.intro rfl (And.intro rfl (And.intro rfl (And.intro rfl (And.intro rfl (And.intro rfl (And.intro rfl (trivial)))))))) (And.intro rfl (And.intro rfl (And.intro rfl (And.intro rfl (And.intro rfl (And.intro rfl (trivial)))))))
      · rw [emod] at hc2
        simp only [Bool.not_eq_false', decide_eq_true_eq] at hc2
        obtain rfl : at2 = (at_ + 7) / 8 * 8 := by omega
        repeat ((conv => whnf); first | with_reducible refine O_step ?_ | with_reducible refine S_step ?_ | with_reducible refine D_step ?_ | with_reducible refine RO.exit ?_ | with_reducible refine RO.ret ?_ | (with_reducible refine And.intro ?sc ?_; case sc => first | exact rfl | omega | exact Nat.le_of_ble_eq_true rfl | (dsimp only; omega) | (refine ⟨?_, ?_, ?_, ?_, ?_⟩ <;> first | exact rfl | omega | exact Nat.zero_le _ | exact Nat.le_refl _ | (dsimp only; omega) | simp | (simp; omega))))
        refine ralign_at (i := 4) (j := 3) (xs := ys) (a := at_) rfl rfl rfl (by omega) hat ?_
        repeat ((conv => whnf); first | with_reducible refine O_step ?_ | with_reducible refine S_step ?_ | with_reducible refine D_step ?_ | with_reducible refine RO.exit ?_ | with_reducible refine RO.ret ?_ | (with_reducible refine And.intro ?sc ?_; case sc => first | exact rfl | omega | exact Nat.le_of_ble_eq_true rfl | (dsimp only; omega) | (refine ⟨?_, ?_, ?_, ?_, ?_⟩ <;> first | exact rfl | omega | exact Nat.zero_le _ | exact Nat.le_refl _ | (dsimp only; omega) | simp | (simp; omega))))
        refine And.intro (fun hh => absurd hh (by decide)) (fun _ => ?_)
        repeat ((conv => whnf); first | with_reducible refine O_step ?_ | with_reducible refine S_step ?_ | with_reducible refine D_step ?_ | with_reducible refine RO.exit ?_ | with_reducible refine RO.ret ?_ | (with_reducible refine And.intro ?sc ?_; case sc => first | exact rfl | omega | exact Nat.le_of_ble_eq_true rfl | (dsimp only; omega) | (refine ⟨?_, ?_, ?_, ?_, ?_⟩ <;> first | exact rfl | omega | exact Nat.zero_le _ | exact Nat.le_refl _ | (dsimp only; omega) | simp | (simp; omega))))
        refine at_at (i := 4) (j := 3) (xs := ys) (a := (at_ + 7) / 8 * 8) rfl rfl rfl ?_
        repeat ((conv => whnf); first | with_reducible refine O_step ?_ | with_reducible refine S_step ?_ | with_reducible refine D_step ?_ | with_reducible refine RO.exit ?_ | with_reducible refine RO.ret ?_ | (with_reducible refine And.intro ?sc ?_; case sc => first | exact rfl | omega | exact Nat.le_of_ble_eq_true rfl | (dsimp only; omega) | (refine ⟨?_, ?_, ?_, ?_, ?_⟩ <;> first | exact rfl | omega | exact Nat.zero_le _ | exact Nat.le_refl _ | (dsimp only; omega) | simp | (simp; omega))))
        refine And.intro (fun hh => absurd hh (by simp)) (fun _ => ?_)
        repeat ((conv => whnf); first | with_reducible refine O_step ?_ | with_reducible refine S_step ?_ | with_reducible refine D_step ?_ | with_reducible refine RO.exit ?_ | with_reducible refine RO.ret ?_ | (with_reducible refine And.intro ?sc ?_; case sc => first | exact rfl | omega | exact Nat.le_of_ble_eq_true rfl | (dsimp only; omega) | (refine ⟨?_, ?_, ?_, ?_, ?_⟩ <;> first | exact rfl | omega | exact Nat.zero_le _ | exact Nat.le_refl _ | (dsimp only; omega) | simp | (simp; omega))))
        refine left_at (i := 4) (j := 3) (xs := ys) (a := (at_ + 7) / 8 * 8) rfl rfl rfl (by omega) (by omega) ?_
        repeat ((conv => whnf); first | with_reducible refine O_step ?_ | with_reducible refine S_step ?_ | with_reducible refine D_step ?_ | with_reducible refine RO.exit ?_ | with_reducible refine RO.ret ?_ | (with_reducible refine And.intro ?sc ?_; case sc => first | exact rfl | omega | exact Nat.le_of_ble_eq_true rfl | (dsimp only; omega) | (refine ⟨?_, ?_, ?_, ?_, ?_⟩ <;> first | exact rfl | omega | exact Nat.zero_le _ | exact Nat.le_refl _ | (dsimp only; omega) | simp | (simp; omega))))
        refine And.intro (fun hh => absurd hh (by simp [hul])) (fun _ => ?_)
        repeat ((conv => whnf); first | with_reducible refine O_step ?_ | with_reducible refine S_step ?_ | with_reducible refine D_step ?_ | with_reducible refine RO.exit ?_ | with_reducible refine RO.ret ?_ | (with_reducible refine And.intro ?sc ?_; case sc => first | exact rfl | omega | exact Nat.le_of_ble_eq_true rfl | (dsimp only; omega) | (refine ⟨?_, ?_, ?_, ?_, ?_⟩ <;> first | exact rfl | omega | exact Nat.zero_le _ | exact Nat.le_refl _ | (dsimp only; omega) | simp | (simp; omega))))
        exact RO.same (i + 1, (at_ + 7) / 8 * 8) ⟨by omega, by omega⟩ (show m - (i + 1) < m - i by omega) (And.intro rfl (And.intro rfl (And.intro rfl (And.intro rfl (And.intro rfl (And.intro rfl (And.intro rfl (trivial)))))))) (And.intro rfl (And.intro rfl (And.intro rfl (And.intro rfl (And.intro rfl (And.intro rfl (trivial)))))))
    · repeat ((conv => whnf); first | with_reducible refine O_step ?_ | with_reducible refine S_step ?_ | with_reducible refine D_step ?_ | with_reducible refine RO.exit ?_ | with_reducible refine RO.ret ?_ | (with_reducible refine And.intro ?sc ?_; case sc => first | exact rfl | omega | exact Nat.le_of_ble_eq_true rfl | (dsimp only; omega) | (refine ⟨?_, ?_, ?_, ?_, ?_⟩ <;> first | exact rfl | omega | exact Nat.zero_le _ | exact Nat.le_refl _ | (dsimp only; omega) | simp | (simp; omega))))
      have hgl := getF_le ys at_ (f i).2.1 hat
      have hrg := rgetF_getF ys at_ (f i).2.1
      obtain ⟨v, a', e, hge⟩ : ∃ v a' e, getF ys at_ (f i).2.1 = (v, a', e) := ⟨_, _, _, rfl⟩
      rw [hge] at hgl hrg
      replace hgl : a' ≤ 8 * ys.length := hgl
      refine rget_at (i := 5) (row := unpack ys) (a := at_) (v := v) (a' := a') (e := e) rfl rfl (by omega) (by omega) ⟨hc5, Nat.le_refl _⟩ hrg ?_
      repeat ((conv => whnf); first | with_reducible refine O_step ?_ | with_reducible refine S_step ?_ | with_reducible refine D_step ?_ | with_reducible refine RO.exit ?_ | with_reducible refine RO.ret ?_ | (with_reducible refine And.intro ?sc ?_; case sc => first | exact rfl | omega | exact Nat.le_of_ble_eq_true rfl | (dsimp only; omega) | (refine ⟨?_, ?_, ?_, ?_, ?_⟩ <;> first | exact rfl | omega | exact Nat.zero_le _ | exact Nat.le_refl _ | (dsimp only; omega) | simp | (simp; omega))))
      refine get_at (i := 4) (j := 3) (xs := ys) (a := at_) (v := v) (a' := a') (e := e) rfl rfl rfl (by omega) hat hx' hge ?_
      repeat ((conv => whnf); first | with_reducible refine O_step ?_ | with_reducible refine S_step ?_ | with_reducible refine D_step ?_ | with_reducible refine RO.exit ?_ | with_reducible refine RO.ret ?_ | (with_reducible refine And.intro ?sc ?_; case sc => first | exact rfl | omega | exact Nat.le_of_ble_eq_true rfl | (dsimp only; omega) | (refine ⟨?_, ?_, ?_, ?_, ?_⟩ <;> first | exact rfl | omega | exact Nat.zero_le _ | exact Nat.le_refl _ | (dsimp only; omega) | simp | (simp; omega))))
      refine And.intro (fun hh => absurd hh (by simp)) (fun _ => ?_)
      repeat ((conv => whnf); first | with_reducible refine O_step ?_ | with_reducible refine S_step ?_ | with_reducible refine D_step ?_ | with_reducible refine RO.exit ?_ | with_reducible refine RO.ret ?_ | (with_reducible refine And.intro ?sc ?_; case sc => first | exact rfl | omega | exact Nat.le_of_ble_eq_true rfl | (dsimp only; omega) | (refine ⟨?_, ?_, ?_, ?_, ?_⟩ <;> first | exact rfl | omega | exact Nat.zero_le _ | exact Nat.le_refl _ | (dsimp only; omega) | simp | (simp; omega))))
      refine And.intro (fun hh => absurd hh (by simp)) (fun _ => ?_)
      repeat ((conv => whnf); first | with_reducible refine O_step ?_ | with_reducible refine S_step ?_ | with_reducible refine D_step ?_ | with_reducible refine RO.exit ?_ | with_reducible refine RO.ret ?_ | (with_reducible refine And.intro ?sc ?_; case sc => first | exact rfl | omega | exact Nat.le_of_ble_eq_true rfl | (dsimp only; omega) | (refine ⟨?_, ?_, ?_, ?_, ?_⟩ <;> first | exact rfl | omega | exact Nat.zero_le _ | exact Nat.le_refl _ | (dsimp only; omega) | simp | (simp; omega))))
      refine at_at (i := 4) (j := 3) (xs := ys) (a := a') rfl rfl rfl ?_
      repeat ((conv => whnf); first | with_reducible refine O_step ?_ | with_reducible refine S_step ?_ | with_reducible refine D_step ?_ | with_reducible refine RO.exit ?_ | with_reducible refine RO.ret ?_ | (with_reducible refine And.intro ?sc ?_; case sc => first | exact rfl | omega | exact Nat.le_of_ble_eq_true rfl | (dsimp only; omega) | (refine ⟨?_, ?_, ?_, ?_, ?_⟩ <;> first | exact rfl | omega | exact Nat.zero_le _ | exact Nat.le_refl _ | (dsimp only; omega) | simp | (simp; omega))))
      refine And.intro (fun hh => absurd hh (by simp)) (fun _ => ?_)
      repeat ((conv => whnf); first | with_reducible refine O_step ?_ | with_reducible refine S_step ?_ | with_reducible refine D_step ?_ | with_reducible refine RO.exit ?_ | with_reducible refine RO.ret ?_ | (with_reducible refine And.intro ?sc ?_; case sc => first | exact rfl | omega | exact Nat.le_of_ble_eq_true rfl | (dsimp only; omega) | (refine ⟨?_, ?_, ?_, ?_, ?_⟩ <;> first | exact rfl | omega | exact Nat.zero_le _ | exact Nat.le_refl _ | (dsimp only; omega) | simp | (simp; omega))))
      refine left_at (i := 4) (j := 3) (xs := ys) (a := a') rfl rfl rfl (by omega) hgl ?_
      repeat ((conv => whnf); first | with_reducible refine O_step ?_ | with_reducible refine S_step ?_ | with_reducible refine D_step ?_ | with_reducible refine RO.exit ?_ | with_reducible refine RO.ret ?_ | (with_reducible refine And.intro ?sc ?_; case sc => first | exact rfl | omega | exact Nat.le_of_ble_eq_true rfl | (dsimp only; omega) | (refine ⟨?_, ?_, ?_, ?_, ?_⟩ <;> first | exact rfl | omega | exact Nat.zero_le _ | exact Nat.le_refl _ | (dsimp only; omega) | simp | (simp; omega))))
      refine And.intro (fun hh => absurd hh (by simp [hul])) (fun _ => ?_)
      repeat ((conv => whnf); first | with_reducible refine O_step ?_ | with_reducible refine S_step ?_ | with_reducible refine D_step ?_ | with_reducible refine RO.exit ?_ | with_reducible refine RO.ret ?_ | (with_reducible refine And.intro ?sc ?_; case sc => first | exact rfl | omega | exact Nat.le_of_ble_eq_true rfl | (dsimp only; omega) | (refine ⟨?_, ?_, ?_, ?_, ?_⟩ <;> first | exact rfl | omega | exact Nat.zero_le _ | exact Nat.le_refl _ | (dsimp only; omega) | simp | (simp; omega))))
      exact RO.same (i + 1, a') ⟨by omega, hgl⟩ (show m - (i + 1) < m - i by omega) (And.intro rfl (And.intro rfl (And.intro rfl (And.intro rfl (And.intro rfl (And.intro rfl (And.intro rfl (trivial)))))))) (And.intro rfl (And.intro rfl (And.intro rfl (And.intro rfl (And.intro rfl (And.intro rfl (trivial)))))))
  · repeat ((conv => whnf); first | with_reducible refine O_step ?_ | with_reducible refine S_step ?_ | with_reducible refine D_step ?_ | with_reducible refine RO.exit ?_ | with_reducible refine RO.ret ?_ | (with_reducible refine And.intro ?sc ?_; case sc => first | exact rfl | omega | exact Nat.le_of_ble_eq_true rfl | (dsimp only; omega) | (refine ⟨?_, ?_, ?_, ?_, ?_⟩ <;> first | exact rfl | omega | exact Nat.zero_le _ | exact Nat.le_refl _ | (dsimp only; omega) | simp | (simp; omega))))
    refine lays_at ?_
    repeat ((conv => whnf); first | with_reducible refine O_step ?_ | with_reducible refine S_step ?_ | with_reducible refine D_step ?_ | with_reducible refine RO.exit ?_ | with_reducible refine RO.ret ?_ | (with_reducible refine And.intro ?sc ?_; case sc => first | exact rfl | omega | exact Nat.le_of_ble_eq_true rfl | (dsimp only; omega) | (refine ⟨?_, ?_, ?_, ?_, ?_⟩ <;> first | exact rfl | omega | exact Nat.zero_le _ | exact Nat.le_refl _ | (dsimp only; omega) | simp | (simp; omega))))
    rfl
end Go.Proofs.Ythbmddaemdcamaa
