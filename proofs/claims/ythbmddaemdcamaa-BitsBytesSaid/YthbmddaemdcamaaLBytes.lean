/- The law BitsBytes, walked. -/
import Derived.Test.YthbmddaemdcamaaBv
set_option linter.unusedVariables false
set_option linter.unusedSimpArgs false
open Go.RowKit
namespace Go.Proofs.Ythbmddaemdcamaa
set_option maxRecDepth 10000

theorem unpack_take {xs : List Int} {j : Nat} (h : j < xs.length) : unpack (xs.take (j + 1)) = unpack (xs.take j) ++ bitsOf xs[j] 8 := by
  unfold unpack
  rw [List.take_succ_eq_append_getElem h, List.flatMap_append]
  simp only [List.flatMap_cons, List.flatMap_nil, List.append_nil]
theorem unpack_get {xs : List Int} {j : Nat} (h : j < xs.length) (hx : 0 ≤ xs[j] ∧ xs[j] < 256) : getF xs (8 * j) 8 = (xs[j], 8 * (j + 1), 0) := by
  have h8 : (unpack xs).drop (8 * j) = bitsOf xs[j] 8 ++ unpack (xs.drop (j + 1)) := by
    rw [unpack_drop, List.drop_eq_getElem_cons h, unpack_cons]
  unfold getF
  rw [if_neg (by omega), if_neg (by omega), h8, show (8 : Int).toNat = 8 from rfl, List.take_append_of_le_length (by rw [bitsOf_length]; exact Nat.le_refl _), List.take_of_length_le (by rw [bitsOf_length]; exact Nat.le_refl _), num_bitsOf 8 _ hx.1 (by have := hx.2; omega)]
  rw [show 8 * j + 8 = 8 * (j + 1) from by omega]
theorem bytesF_unpack : ∀ {xs : List Int}, (∀ x ∈ xs, 0 ≤ x ∧ x < 256) → bytesF (unpack xs) = xs := by
  intro xs hx
  have hl := unpack_length xs
  unfold bytesF
  rw [if_pos (by omega)]
  unfold packF
  rw [hl, show 8 * xs.length / 8 = xs.length from by omega]
  induction xs with
  | nil => rfl
  | cons x xs ih =>
    have h0 := hx x List.mem_cons_self
    rw [List.length_cons, packB, unpack_cons, List.take_append_of_le_length (by rw [bitsOf_length]; exact Nat.le_refl _), List.take_of_length_le (by rw [bitsOf_length]; exact Nat.le_refl _), num_bitsOf 8 _ h0.1 (by have := h0.2; omega), List.drop_append, bitsOf_length]
    rw [List.drop_eq_nil_of_le (by rw [bitsOf_length]; exact Nat.le_refl _), Nat.sub_self, List.drop_zero, List.nil_append, ih (fun x h => hx x (List.mem_cons_of_mem _ h)) (unpack_length xs)]
theorem alignF_bytes (xs : List Int) : alignF (unpack xs) = unpack xs := by
  have hl := unpack_length xs
  unfold alignF
  rw [hl, show (8 - 8 * xs.length % 8) % 8 = 0 from by omega]; simp [bitsOf]

set_option maxHeartbeats 4000000 in
theorem bitsBytes_law (xs : List Int) (c : Nat) (hc : xs.length ≤ c ∧ c ≤ 9223372036854775807) (hx : ∀ x ∈ xs, IntKind.u8.min ≤ x ∧ x ≤ IntKind.u8.max) (ys : List Int) (c1 : Nat) (hc1 : ys.length ≤ c1 ∧ c1 ≤ 9223372036854775807) (hy : ∀ x ∈ ys, IntKind.u8.min ≤ x ∧ x ≤ IntKind.u8.max) :
    CallA Try.prog 5 [.sl 0 0 0 xs.length c, .sl 1 0 0 ys.length c1] [.one false 0 (.ints .u8 xs c), .one false 0 (.ints .u8 ys c1)] (fun r _ => r = .bo true) (fun _ _ => False) := by
  have hz : ∀ z ∈ xs ++ ys, 0 ≤ z ∧ z < 256 := fun z h => by
    rcases List.mem_append.1 h with h | h
    · exact ⟨(hx z h).1, by have : z ≤ 255 := (hx z h).2; omega⟩
    · exact ⟨(hy z h).1, by have : z ≤ 255 := (hy z h).2; omega⟩
  refine step5 (fun _ => [0, 1, 3]) [] rfl ?_
  repeat ((conv => whnf); first | with_reducible refine O_step ?_ | with_reducible refine S_step ?_ | with_reducible refine D_step ?_ | with_reducible refine RO.exit ?_ | with_reducible refine RO.ret ?_ | (with_reducible refine And.intro ?sc ?_; case sc => first | exact rfl | omega | exact Nat.le_of_ble_eq_true rfl | (dsimp only; omega) | (refine ⟨?_, ?_, ?_, ?_, ?_⟩ <;> first | exact rfl | omega | exact Nat.zero_le _ | exact Nat.le_refl _ | (dsimp only; omega) | simp | (simp; omega))))
  refine And.intro (fun h => ?_) (fun h => ?_)
  · repeat ((conv => whnf); first | with_reducible refine O_step ?_ | with_reducible refine S_step ?_ | with_reducible refine D_step ?_ | with_reducible refine RO.exit ?_ | with_reducible refine RO.ret ?_ | (with_reducible refine And.intro ?sc ?_; case sc => first | exact rfl | omega | exact Nat.le_of_ble_eq_true rfl | (dsimp only; omega) | (refine ⟨?_, ?_, ?_, ?_, ?_⟩ <;> first | exact rfl | omega | exact Nat.zero_le _ | exact Nat.le_refl _ | (dsimp only; omega) | simp | (simp; omega))))
    exact rfl
  simp only [decide_eq_false_iff_not] at h
  repeat ((conv => whnf); first | with_reducible refine O_step ?_ | with_reducible refine S_step ?_ | with_reducible refine D_step ?_ | with_reducible refine RO.exit ?_ | with_reducible refine RO.ret ?_ | (with_reducible refine And.intro ?sc ?_; case sc => first | exact rfl | omega | exact Nat.le_of_ble_eq_true rfl | (dsimp only; omega) | (refine ⟨?_, ?_, ?_, ?_, ?_⟩ <;> first | exact rfl | omega | exact Nat.zero_le _ | exact Nat.le_refl _ | (dsimp only; omega) | simp | (simp; omega))))
  refine And.intro (fun h2 => ?_) (fun h2 => ?_)
  · repeat ((conv => whnf); first | with_reducible refine O_step ?_ | with_reducible refine S_step ?_ | with_reducible refine D_step ?_ | with_reducible refine RO.exit ?_ | with_reducible refine RO.ret ?_ | (with_reducible refine And.intro ?sc ?_; case sc => first | exact rfl | omega | exact Nat.le_of_ble_eq_true rfl | (dsimp only; omega) | (refine ⟨?_, ?_, ?_, ?_, ?_⟩ <;> first | exact rfl | omega | exact Nat.zero_le _ | exact Nat.le_refl _ | (dsimp only; omega) | simp | (simp; omega))))
    exact rfl
  simp only [decide_eq_false_iff_not] at h2
  repeat ((conv => whnf); first | with_reducible refine O_step ?_ | with_reducible refine S_step ?_ | with_reducible refine D_step ?_ | with_reducible refine RO.exit ?_ | with_reducible refine RO.ret ?_ | (with_reducible refine And.intro ?sc ?_; case sc => first | exact rfl | omega | exact Nat.le_of_ble_eq_true rfl | (dsimp only; omega) | (refine ⟨?_, ?_, ?_, ?_, ?_⟩ <;> first | exact rfl | omega | exact Nat.zero_le _ | exact Nat.le_refl _ | (dsimp only; omega) | simp | (simp; omega))))
  intro zs hzs
  have hzs' : zs = xs := by rw [hzs]; simp
  subst hzs'
  repeat ((conv => whnf); first | with_reducible refine O_step ?_ | with_reducible refine S_step ?_ | with_reducible refine D_step ?_ | with_reducible refine RO.exit ?_ | with_reducible refine RO.ret ?_ | (with_reducible refine And.intro ?sc ?_; case sc => first | exact rfl | omega | exact Nat.le_of_ble_eq_true rfl | (dsimp only; omega) | (refine ⟨?_, ?_, ?_, ?_, ?_⟩ <;> first | exact rfl | omega | exact Nat.zero_le _ | exact Nat.le_refl _ | (dsimp only; omega) | simp | (simp; omega))))
  intro c2 hc2
  repeat ((conv => whnf); first | with_reducible refine O_step ?_ | with_reducible refine S_step ?_ | with_reducible refine D_step ?_ | with_reducible refine RO.exit ?_ | with_reducible refine RO.ret ?_ | (with_reducible refine And.intro ?sc ?_; case sc => first | exact rfl | omega | exact Nat.le_of_ble_eq_true rfl | (dsimp only; omega) | (refine ⟨?_, ?_, ?_, ?_, ?_⟩ <;> first | exact rfl | omega | exact Nat.zero_le _ | exact Nat.le_refl _ | (dsimp only; omega) | simp | (simp; omega))))
  intro zs2 hzs2
  have hzs2' : zs2 = ys := by rw [hzs2]; simp
  subst hzs2'
  repeat ((conv => whnf); first | with_reducible refine O_step ?_ | with_reducible refine S_step ?_ | with_reducible refine D_step ?_ | with_reducible refine RO.exit ?_ | with_reducible refine RO.ret ?_ | (with_reducible refine And.intro ?sc ?_; case sc => first | exact rfl | omega | exact Nat.le_of_ble_eq_true rfl | (dsimp only; omega) | (refine ⟨?_, ?_, ?_, ?_, ?_⟩ <;> first | exact rfl | omega | exact Nat.zero_le _ | exact Nat.le_refl _ | (dsimp only; omega) | simp | (simp; omega))))
  intro c3 hc3
  repeat ((conv => whnf); first | with_reducible refine O_step ?_ | with_reducible refine S_step ?_ | with_reducible refine D_step ?_ | with_reducible refine RO.exit ?_ | with_reducible refine RO.ret ?_ | (with_reducible refine And.intro ?sc ?_; case sc => first | exact rfl | omega | exact Nat.le_of_ble_eq_true rfl | (dsimp only; omega) | (refine ⟨?_, ?_, ?_, ?_, ?_⟩ <;> first | exact rfl | omega | exact Nat.zero_le _ | exact Nat.le_refl _ | (dsimp only; omega) | simp | (simp; omega))))
  obtain ⟨l, hl⟩ : ∃ l, l = zs ++ zs2 := ⟨_, rfl⟩
  rw [← hl] at hz
  have hlen : l.length = zs.length + zs2.length := by rw [hl]; simp
  refine WO.gov (σ := Nat × Nat × Nat) (fun (j, g, cw) => j ≤ l.length ∧ (packF (unpack (l.take j))).length ≤ cw) (fun (j, _, _) => l.length - j)
    (fun (j, g, cw) => [(5, .ptr 2 0 0), (6, .sl 3 2 0 l.length c3), (7, .int .i64 j)])
    (fun (j, g, cw) => [.one false 0 (.ints .u8 zs c), .one false 0 (.ints .u8 zs2 c1), wo 4 g cw (unpack (l.take j)), .one true 2 (.ints .u8 l c3), wb g cw (unpack (l.take j))]) (0, 0, 0) tb_ok mixed (by kernel_rfl)
    [(5, .ptr 2 0 0), (6, .sl 3 2 0 l.length c3), (7, .int .i64 0)] _ ⟨Nat.zero_le _, by simp [unpack, packF, packB]⟩ (And.intro rfl (And.intro (by rw [hlen]; exact congrArg (fun n => AV.sl 3 2 0 n c3) (by omega)) (And.intro rfl (trivial)))) rfl (Vw.writer (i := 2) rfl)
    (And.intro rfl (And.intro rfl (And.intro rfl (And.intro (by rw [hl]; rfl) (And.intro rfl (trivial)))))) (fun _ => rfl) (fun _ => rfl) (fun _ => ⟨trivial, trivial, rfl, trivial, trivial, trivial⟩) ?_
  rintro ⟨j, g, cw⟩ ⟨h3, h4⟩ d
  repeat ((conv => whnf); first | with_reducible refine O_step ?_ | with_reducible refine S_step ?_ | with_reducible refine D_step ?_ | with_reducible refine RO.exit ?_ | with_reducible refine RO.ret ?_ | (with_reducible refine And.intro ?sc ?_; case sc => first | exact rfl | omega | exact Nat.le_of_ble_eq_true rfl | (dsimp only; omega) | (refine ⟨?_, ?_, ?_, ?_, ?_⟩ <;> first | exact rfl | omega | exact Nat.zero_le _ | exact Nat.le_refl _ | (dsimp only; omega) | simp | (simp; omega))))
  refine And.intro (fun hc => ?_) (fun hc => ?_)
  · simp only [decide_eq_true_eq] at hc
    have hjl : j < l.length := by omega
    have hzj := hz _ (List.getElem_mem hjl)
    have hgd : l.getD j 0 = l[j] := by simp [List.getD_eq_getElem?_getD, hjl]
    have hut := unpack_take hjl
    have hul := unpack_length (l.take j)
    have htl : (l.take j).length = j := by simp; omega
    have hp : putF (unpack (l.take j)) (l.getD j 0 % 4294967296) 8 = (unpack (l.take (j + 1)), 0) := by
      rw [hut, hgd, show l[j] % 4294967296 = l[j] from by omega]
      exact putF_ok (n := 8) (by omega) (by have := hzj.2; omega) (by omega)
    repeat ((conv => whnf); first | with_reducible refine O_step ?_ | with_reducible refine S_step ?_ | with_reducible refine D_step ?_ | with_reducible refine RO.exit ?_ | with_reducible refine RO.ret ?_ | (with_reducible refine And.intro ?sc ?_; case sc => first | exact rfl | omega | exact Nat.le_of_ble_eq_true rfl | (dsimp only; omega) | (refine ⟨?_, ?_, ?_, ?_, ?_⟩ <;> first | exact rfl | omega | exact Nat.zero_le _ | exact Nat.le_refl _ | (dsimp only; omega) | simp | (simp; omega))))
    refine put_at (i := 2) (j := 4) (row := unpack (l.take j)) (row' := unpack (l.take (j + 1))) (e := 0) rfl rfl rfl (by show 0 ≤ l.getD (Int.toNat (j : Int) + 0) 0 % 4294967296; omega) (by omega) h4 hp fun g1 cw1 h5 h6 => ?_
    repeat ((conv => whnf); first | with_reducible refine O_step ?_ | with_reducible refine S_step ?_ | with_reducible refine D_step ?_ | with_reducible refine RO.exit ?_ | with_reducible refine RO.ret ?_ | (with_reducible refine And.intro ?sc ?_; case sc => first | exact rfl | omega | exact Nat.le_of_ble_eq_true rfl | (dsimp only; omega) | (refine ⟨?_, ?_, ?_, ?_, ?_⟩ <;> first | exact rfl | omega | exact Nat.zero_le _ | exact Nat.le_refl _ | (dsimp only; omega) | simp | (simp; omega))))
    refine And.intro (fun hh => absurd hh (by decide)) (fun _ => ?_)
    repeat ((conv => whnf); first | with_reducible refine O_step ?_ | with_reducible refine S_step ?_ | with_reducible refine D_step ?_ | with_reducible refine RO.exit ?_ | with_reducible refine RO.ret ?_ | (with_reducible refine And.intro ?sc ?_; case sc => first | exact rfl | omega | exact Nat.le_of_ble_eq_true rfl | (dsimp only; omega) | (refine ⟨?_, ?_, ?_, ?_, ?_⟩ <;> first | exact rfl | omega | exact Nat.zero_le _ | exact Nat.le_refl _ | (dsimp only; omega) | simp | (simp; omega))))
    refine align_at (i := 2) (j := 4) (row := unpack (l.take (j + 1))) rfl rfl rfl h6 h5 fun g2 cw2 h7 h8 => ?_
    rw [alignF_bytes] at h7 ⊢
    repeat ((conv => whnf); first | with_reducible refine O_step ?_ | with_reducible refine S_step ?_ | with_reducible refine D_step ?_ | with_reducible refine RO.exit ?_ | with_reducible refine RO.ret ?_ | (with_reducible refine And.intro ?sc ?_; case sc => first | exact rfl | omega | exact Nat.le_of_ble_eq_true rfl | (dsimp only; omega) | (refine ⟨?_, ?_, ?_, ?_, ?_⟩ <;> first | exact rfl | omega | exact Nat.zero_le _ | exact Nat.le_refl _ | (dsimp only; omega) | simp | (simp; omega))))
    refine And.intro (fun hh => absurd hh (by decide)) (fun _ => ?_)
    repeat ((conv => whnf); first | with_reducible refine O_step ?_ | with_reducible refine S_step ?_ | with_reducible refine D_step ?_ | with_reducible refine RO.exit ?_ | with_reducible refine RO.ret ?_ | (with_reducible refine And.intro ?sc ?_; case sc => first | exact rfl | omega | exact Nat.le_of_ble_eq_true rfl | (dsimp only; omega) | (refine ⟨?_, ?_, ?_, ?_, ?_⟩ <;> first | exact rfl | omega | exact Nat.zero_le _ | exact Nat.le_refl _ | (dsimp only; omega) | simp | (simp; omega))))
    exact RO.same (j + 1, g2, cw2) ⟨by omega, h7⟩ (show l.length - (j + 1) < l.length - j by omega) (And.intro rfl (And.intro rfl (And.intro rfl (trivial)))) (And.intro rfl (And.intro rfl (And.intro rfl (And.intro rfl (And.intro rfl (trivial))))))
  simp only [decide_eq_false_iff_not] at hc
  obtain rfl : j = l.length := by omega
  have hul := unpack_length l
  repeat ((conv => whnf); first | with_reducible refine O_step ?_ | with_reducible refine S_step ?_ | with_reducible refine D_step ?_ | with_reducible refine RO.exit ?_ | with_reducible refine RO.ret ?_ | (with_reducible refine And.intro ?sc ?_; case sc => first | exact rfl | omega | exact Nat.le_of_ble_eq_true rfl | (dsimp only; omega) | (refine ⟨?_, ?_, ?_, ?_, ?_⟩ <;> first | exact rfl | omega | exact Nat.zero_le _ | exact Nat.le_refl _ | (dsimp only; omega) | simp | (simp; omega))))
  refine new_at (i := 3) (xs := l) rfl rfl (by omega) fun g5 c5 h5 => ?_
  repeat ((conv => whnf); first | with_reducible refine O_step ?_ | with_reducible refine S_step ?_ | with_reducible refine D_step ?_ | with_reducible refine RO.exit ?_ | with_reducible refine RO.ret ?_ | (with_reducible refine And.intro ?sc ?_; case sc => first | exact rfl | omega | exact Nat.le_of_ble_eq_true rfl | (dsimp only; omega) | (refine ⟨?_, ?_, ?_, ?_, ?_⟩ <;> first | exact rfl | omega | exact Nat.zero_le _ | exact Nat.le_refl _ | (dsimp only; omega) | simp | (simp; omega))))
  refine bytes_at (i := 2) (j := 4) (row := unpack (l.take l.length)) rfl rfl rfl (by rw [List.take_length]; omega) h4 fun g6 c6 h6 => ?_
  rw [List.take_length, bytesF_unpack hz] at h6
  have hbt : bytesF (unpack (l.take l.length)) = l := by rw [List.take_length, bytesF_unpack hz]
  rw [hbt]
  repeat ((conv => whnf); first | with_reducible refine O_step ?_ | with_reducible refine S_step ?_ | with_reducible refine D_step ?_ | with_reducible refine RO.exit ?_ | with_reducible refine RO.ret ?_ | (with_reducible refine And.intro ?sc ?_; case sc => first | exact rfl | omega | exact Nat.le_of_ble_eq_true rfl | (dsimp only; omega) | (refine ⟨?_, ?_, ?_, ?_, ?_⟩ <;> first | exact rfl | omega | exact Nat.zero_le _ | exact Nat.le_refl _ | (dsimp only; omega) | simp | (simp; omega))))
  refine same_at (i := 7) (j := 3) (xs := l) (ys := l) rfl rfl rfl rfl (by omega) (by omega) ?_
  repeat ((conv => whnf); first | with_reducible refine O_step ?_ | with_reducible refine S_step ?_ | with_reducible refine D_step ?_ | with_reducible refine RO.exit ?_ | with_reducible refine RO.ret ?_ | (with_reducible refine And.intro ?sc ?_; case sc => first | exact rfl | omega | exact Nat.le_of_ble_eq_true rfl | (dsimp only; omega) | (refine ⟨?_, ?_, ?_, ?_, ?_⟩ <;> first | exact rfl | omega | exact Nat.zero_le _ | exact Nat.le_refl _ | (dsimp only; omega) | simp | (simp; omega))))
  refine And.intro (fun hh => absurd hh (by simp)) (fun _ => ?_)
  repeat ((conv => whnf); first | with_reducible refine O_step ?_ | with_reducible refine S_step ?_ | with_reducible refine D_step ?_ | with_reducible refine RO.exit ?_ | with_reducible refine RO.ret ?_ | (with_reducible refine And.intro ?sc ?_; case sc => first | exact rfl | omega | exact Nat.le_of_ble_eq_true rfl | (dsimp only; omega) | (refine ⟨?_, ?_, ?_, ?_, ?_⟩ <;> first | exact rfl | omega | exact Nat.zero_le _ | exact Nat.le_refl _ | (dsimp only; omega) | simp | (simp; omega))))
  refine WO.go (σ := Nat) (fun j => j ≤ l.length) (fun j => l.length - j) (fun j => [(6, .sl 3 2 0 l.length c3), (8, .ptr 6 0 0), (9, .int .i64 j)])
    (fun j => [.one false 0 (.ints .u8 zs c), .one false 0 (.ints .u8 zs2 c1), .gone, .one true 2 (.ints .u8 l c3), .gone, rb g5 c5 l, ro 5 g5 c5 l (8 * j), .gone]) 0 tb_ok mixed (by kernel_rfl)
    (Nat.zero_le _) (And.intro rfl (And.intro rfl (And.intro rfl (trivial)))) (And.intro rfl (And.intro rfl (And.intro trivial (And.intro rfl (And.intro trivial (And.intro rfl (And.intro rfl (And.intro trivial trivial)))))))) (fun _ => rfl) (fun _ => rfl) (fun _ => ⟨trivial, trivial, trivial, trivial, trivial, trivial, rfl, trivial, trivial⟩) ?_
  intro j hj d2
  repeat ((conv => whnf); first | with_reducible refine O_step ?_ | with_reducible refine S_step ?_ | with_reducible refine D_step ?_ | with_reducible refine RO.exit ?_ | with_reducible refine RO.ret ?_ | (with_reducible refine And.intro ?sc ?_; case sc => first | exact rfl | omega | exact Nat.le_of_ble_eq_true rfl | (dsimp only; omega) | (refine ⟨?_, ?_, ?_, ?_, ?_⟩ <;> first | exact rfl | omega | exact Nat.zero_le _ | exact Nat.le_refl _ | (dsimp only; omega) | simp | (simp; omega))))
  refine And.intro (fun hc2 => ?_) (fun hc2 => ?_)
  · simp only [decide_eq_true_eq] at hc2
    have hjl : j < l.length := by omega
    have hzj := hz _ (List.getElem_mem hjl)
    have hgd : l.getD j 0 = l[j] := by simp [List.getD_eq_getElem?_getD, hjl]
    repeat ((conv => whnf); first | with_reducible refine O_step ?_ | with_reducible refine S_step ?_ | with_reducible refine D_step ?_ | with_reducible refine RO.exit ?_ | with_reducible refine RO.ret ?_ | (with_reducible refine And.intro ?sc ?_; case sc => first | exact rfl | omega | exact Nat.le_of_ble_eq_true rfl | (dsimp only; omega) | (refine ⟨?_, ?_, ?_, ?_, ?_⟩ <;> first | exact rfl | omega | exact Nat.zero_le _ | exact Nat.le_refl _ | (dsimp only; omega) | simp | (simp; omega))))
    refine get_at (i := 6) (j := 5) (xs := l) (a := 8 * j) (v := l[j]) (a' := 8 * (j + 1)) (e := 0) rfl rfl rfl (by omega) (by omega) hz (unpack_get hjl hzj) ?_
    repeat ((conv => whnf); first | with_reducible refine O_step ?_ | with_reducible refine S_step ?_ | with_reducible refine D_step ?_ | with_reducible refine RO.exit ?_ | with_reducible refine RO.ret ?_ | (with_reducible refine And.intro ?sc ?_; case sc => first | exact rfl | omega | exact Nat.le_of_ble_eq_true rfl | (dsimp only; omega) | (refine ⟨?_, ?_, ?_, ?_, ?_⟩ <;> first | exact rfl | omega | exact Nat.zero_le _ | exact Nat.le_refl _ | (dsimp only; omega) | simp | (simp; omega))))
    refine And.intro (fun hh => absurd hh ?_) (fun _ => ?_)
    · have e : l.getD (Int.toNat (j : Int) + 0) 0 % 4294967296 = l[j] := by
        show l.getD j 0 % 4294967296 = l[j]
        rw [hgd]; omega
      rw [e]; simp
    repeat ((conv => whnf); first | with_reducible refine O_step ?_ | with_reducible refine S_step ?_ | with_reducible refine D_step ?_ | with_reducible refine RO.exit ?_ | with_reducible refine RO.ret ?_ | (with_reducible refine And.intro ?sc ?_; case sc => first | exact rfl | omega | exact Nat.le_of_ble_eq_true rfl | (dsimp only; omega) | (refine ⟨?_, ?_, ?_, ?_, ?_⟩ <;> first | exact rfl | omega | exact Nat.zero_le _ | exact Nat.le_refl _ | (dsimp only; omega) | simp | (simp; omega))))
    refine And.intro (fun hh => absurd hh (by decide)) (fun _ => ?_)
    repeat ((conv => whnf); first | with_reducible refine O_step ?_ | with_reducible refine S_step ?_ | with_reducible refine D_step ?_ | with_reducible refine RO.exit ?_ | with_reducible refine RO.ret ?_ | (with_reducible refine And.intro ?sc ?_; case sc => first | exact rfl | omega | exact Nat.le_of_ble_eq_true rfl | (dsimp only; omega) | (refine ⟨?_, ?_, ?_, ?_, ?_⟩ <;> first | exact rfl | omega | exact Nat.zero_le _ | exact Nat.le_refl _ | (dsimp only; omega) | simp | (simp; omega))))
    exact RO.same (j + 1) (by omega) (show l.length - (j + 1) < l.length - j by omega) (And.intro rfl (And.intro rfl (And.intro rfl (trivial)))) (And.intro rfl (And.intro rfl (And.intro trivial (And.intro rfl (And.intro trivial (And.intro rfl (And.intro rfl (And.intro trivial trivial))))))))
  simp only [decide_eq_false_iff_not] at hc2
  obtain rfl : j = l.length := by omega
  repeat ((conv => whnf); first | with_reducible refine O_step ?_ | with_reducible refine S_step ?_ | with_reducible refine D_step ?_ | with_reducible refine RO.exit ?_ | with_reducible refine RO.ret ?_ | (with_reducible refine And.intro ?sc ?_; case sc => first | exact rfl | omega | exact Nat.le_of_ble_eq_true rfl | (dsimp only; omega) | (refine ⟨?_, ?_, ?_, ?_, ?_⟩ <;> first | exact rfl | omega | exact Nat.zero_le _ | exact Nat.le_refl _ | (dsimp only; omega) | simp | (simp; omega))))
  refine left_at (i := 6) (j := 5) (xs := l) (a := 8 * l.length) rfl rfl rfl (by omega) (by omega) ?_
  repeat ((conv => whnf); first | with_reducible refine O_step ?_ | with_reducible refine S_step ?_ | with_reducible refine D_step ?_ | with_reducible refine RO.exit ?_ | with_reducible refine RO.ret ?_ | (with_reducible refine And.intro ?sc ?_; case sc => first | exact rfl | omega | exact Nat.le_of_ble_eq_true rfl | (dsimp only; omega) | (refine ⟨?_, ?_, ?_, ?_, ?_⟩ <;> first | exact rfl | omega | exact Nat.zero_le _ | exact Nat.le_refl _ | (dsimp only; omega) | simp | (simp; omega))))
  refine And.intro (fun _ => ?_) (fun hh => absurd hh (by simp))
  repeat ((conv => whnf); first | with_reducible refine O_step ?_ | with_reducible refine S_step ?_ | with_reducible refine D_step ?_ | with_reducible refine RO.exit ?_ | with_reducible refine RO.ret ?_ | (with_reducible refine And.intro ?sc ?_; case sc => first | exact rfl | omega | exact Nat.le_of_ble_eq_true rfl | (dsimp only; omega) | (refine ⟨?_, ?_, ?_, ?_, ?_⟩ <;> first | exact rfl | omega | exact Nat.zero_le _ | exact Nat.le_refl _ | (dsimp only; omega) | simp | (simp; omega))))
  refine lays_at ?_
  repeat ((conv => whnf); first | with_reducible refine O_step ?_ | with_reducible refine S_step ?_ | with_reducible refine D_step ?_ | with_reducible refine RO.exit ?_ | with_reducible refine RO.ret ?_ | (with_reducible refine And.intro ?sc ?_; case sc => first | exact rfl | omega | exact Nat.le_of_ble_eq_true rfl | (dsimp only; omega) | (refine ⟨?_, ?_, ?_, ?_, ?_⟩ <;> first | exact rfl | omega | exact Nat.zero_le _ | exact Nat.le_refl _ | (dsimp only; omega) | simp | (simp; omega))))
  rfl
end Go.Proofs.Ythbmddaemdcamaa
