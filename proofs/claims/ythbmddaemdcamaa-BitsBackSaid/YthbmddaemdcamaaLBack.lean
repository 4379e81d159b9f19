/- The law BitsBack, walked. -/
import Derived.Test.YthbmddaemdcamaaBv
set_option linter.unusedVariables false
set_option linter.unusedSimpArgs false
open Go.RowKit
namespace Go.Proofs.Ythbmddaemdcamaa
set_option maxRecDepth 10000

/-- The row behind so many acts. -/
def rowN (f : Nat → Int × Int × Bool) : Nat → List Bool
  | 0 => []
  | j + 1 => if (f j).2.2 then alignF (rowN f j) else (putF (rowN f j) (f j).1 (f j).2.1).1
def atsN (f : Nat → Int × Int × Bool) (j : Nat) : List Int := (List.range j).map fun i => ((rowN f i).length : Int)
theorem atsN_length (f : Nat → Int × Int × Bool) (j : Nat) : (atsN f j).length = j := by simp [atsN]
theorem atsN_succ (f : Nat → Int × Int × Bool) (j : Nat) : atsN f (j + 1) = atsN f j ++ [((rowN f j).length : Int)] := by simp [atsN, List.range_succ]
theorem atsN_get (f : Nat → Int × Int × Bool) {j n : Nat} (h : j < n) : (atsN f n).getD j 0 = ((rowN f j).length : Int) := by
  simp [atsN, List.getD_eq_getElem?_getD, h]
theorem putF_cases (row : List Bool) (v n : Int) (hr : row.length ≤ 8000000) : (mayB v n = false ∧ putF row v n = (row, 1)) ∨ (mayB v n = true ∧ 0 ≤ n ∧ n ≤ 24 ∧ v < 2 ^ n.toNat ∧ putF row v n = (row ++ bitsOf v n.toNat, 0)) := by
  cases hm : mayB v n with
  | false => exact .inl ⟨rfl, by simp [putF, hm]⟩
  | true =>
    have hm' := hm
    simp only [mayB, decide_eq_true_eq] at hm'
    refine .inr ⟨rfl, hm'.1, hm'.2.1, hm'.2.2, ?_⟩
    simp only [putF, hm]
    rw [if_neg (by simp), if_neg (by omega)]
theorem alignF_length (row : List Bool) : (alignF row).length = (row.length + 7) / 8 * 8 := by
  simp [alignF, bitsOf_length]; omega
theorem rowN_step (f : Nat → Int × Int × Bool) (j : Nat) (h : (rowN f j).length ≤ 8000000) : ∃ t, rowN f (j + 1) = rowN f j ++ t ∧ t.length ≤ 32 := by
  simp only [rowN]
  split
  · exact ⟨_, rfl, by rw [bitsOf_length]; omega⟩
  · rcases putF_cases (rowN f j) (f j).1 (f j).2.1 h with ⟨_, e⟩ | ⟨_, h1, h2, _, e⟩
    · rw [e]; exact ⟨[], by simp, by simp⟩
    · rw [e]; exact ⟨_, rfl, by rw [bitsOf_length]; omega⟩
theorem rowN_length (f : Nat → Int × Int × Bool) : ∀ j, j ≤ 200 → (rowN f j).length ≤ 32 * j
  | 0, _ => by simp [rowN]
  | j + 1, h => by
    have ih := rowN_length f j (by omega)
    obtain ⟨t, e, ht⟩ := rowN_step f j (by omega)
    rw [e, List.length_append]; omega
theorem rowN_pre (f : Nat → Int × Int × Bool) (j : Nat) : ∀ k, j + k ≤ 200 → ∃ t, rowN f (j + k) = rowN f j ++ t
  | 0, _ => ⟨[], by simp⟩
  | k + 1, h => by
    obtain ⟨t, e⟩ := rowN_pre f j k (by omega)
    have hl := rowN_length f (j + k) (by omega)
    obtain ⟨u, e2, _⟩ := rowN_step f (j + k) (by omega)
    exact ⟨t ++ u, by rw [← Nat.add_assoc, e2, e, List.append_assoc]⟩
/-- What was put at a place is got there. -/
theorem rowN_get (f : Nat → Int × Int × Bool) {i n : Nat} (hin : i < n) (hn : n ≤ 200) (hb : (f i).2.2 = false) (hv : 0 ≤ (f i).1) (hm : mayB (f i).1 (f i).2.1 = true) :
    getF (bytesF (rowN f n)) (rowN f i).length (f i).2.1 = ((f i).1, (rowN f (i + 1)).length, 0) := by
  have hl := rowN_length f i (by omega)
  rcases putF_cases (rowN f i) (f i).1 (f i).2.1 (by omega) with ⟨h0, _⟩ | ⟨_, h1, h2, h3, e⟩
  · rw [hm] at h0; cases h0
  · have e1 : rowN f (i + 1) = rowN f i ++ bitsOf (f i).1 (f i).2.1.toNat := by
      simp only [rowN, hb]; rw [if_neg (by simp), e]
    obtain ⟨t, et⟩ := rowN_pre f (i + 1) (n - (i + 1)) (by omega)
    rw [show i + 1 + (n - (i + 1)) = n from by omega, e1, List.append_assoc] at et
    obtain ⟨k, hk⟩ := Int.eq_ofNat_of_zero_le h1
    rw [hk] at h2 h3 e1 et ⊢
    simp only [Int.toNat_natCast] at h3 e1 et
    have hle : (rowN f i).length + k ≤ (rowN f n).length := by rw [et]; simp [bitsOf_length]
    have hnr := num_row (rowN f i) t (f i).1 k hv h3
    rw [← et] at hnr
    rw [getF_row (rowN f n) (rowN f i).length k (by omega) hle, hnr, e1, List.length_append, bitsOf_length]

theorem align_at2 {M : AH} {K Kp : AV → AH → Prop} {i j g c : Nat} {row row' : List Bool} (hi : M[i]? = some (wo j g c row)) (hj : M[j]? = some (wb g c row)) (hij : Nat.beq i j = false) (hr : row.length ≤ 8388608) (hc : (packF row).length ≤ c) (hp : alignF row = row')
    (h : ∀ g' c', (packF row').length ≤ c' → K (.int .i64 0) ((M.set i (wo j g' c' row')).set j (wb g' c' row'))) :
    CallA Try.prog 18 [.ptr i 0 0] M K Kp := by
  subst hp
  exact align_at hi hj hij hr hc fun g' c' h1 _ => h g' c' h1
theorem ralign_at2 {M : AH} {K Kp : AV → AH → Prop} {i j g c : Nat} {xs : List Int} {a a' : Nat} (hi : M[i]? = some (ro j g c xs a)) (hj : M[j]? = some (rb g c xs)) (hij : Nat.beq i j = false) (hb : xs.length ≤ 70368744177664) (ha : a ≤ 8 * xs.length) (hp : (a + 7) / 8 * 8 = a')
    (h : K (.int .i64 0) (M.set i (ro j g c xs a'))) : CallA Try.prog 23 [.ptr i 0 0] M K Kp := by
  subst hp
  exact ralign_at hi hj hij hb ha h

set_option maxHeartbeats 4000000 in
theorem bitsBack_law (n c : Nat) (get : Nat → List AV) (hc : n ≤ c ∧ c ≤ 9223372036854775807) (hg : ∀ j, fitL [.int .u32, .int .i64, .bool] (get j)) :
    CallA Try.prog 7 [.sl 0 0 0 n c] [.one false 0 (.tab 3 n get c)] (fun r _ => r = .bo true) (fun _ _ => False) := by
  obtain ⟨f, rfl, hf⟩ := actG_ex hg n
  refine step7 (fun _ => [0, 3]) [] rfl ?_
  repeat ((conv => whnf); first | with_reducible refine O_step ?_ | with_reducible refine S_step ?_ | with_reducible refine D_step ?_ | with_reducible refine RO.exit ?_ | with_reducible refine RO.ret ?_ | ((with_reducible refine And.intro ?sc ?_); case sc => first | exact rfl | omega | exact Nat.le_of_ble_eq_true rfl | (dsimp only; omega) | (refine ⟨?_, ?_, ?_, ?_, ?_⟩ <;> first | exact rfl | omega | exact Nat.zero_le _ | exact Nat.le_refl _ | (dsimp only; omega) | simp | (simp; omega))))
  refine And.intro (fun h => ?_) (fun h => ?_)
  · repeat ((conv => whnf); first | with_reducible refine O_step ?_ | with_reducible refine S_step ?_ | with_reducible refine D_step ?_ | with_reducible refine RO.exit ?_ | with_reducible refine RO.ret ?_ | ((with_reducible refine And.intro ?sc ?_); case sc => first | exact rfl | omega | exact Nat.le_of_ble_eq_true rfl | (dsimp only; omega) | (refine ⟨?_, ?_, ?_, ?_, ?_⟩ <;> first | exact rfl | omega | exact Nat.zero_le _ | exact Nat.le_refl _ | (dsimp only; omega) | simp | (simp; omega))))
    exact rfl
  simp only [decide_eq_false_iff_not] at h
  have hn : n ≤ 200 := by omega
  repeat ((conv => whnf); first | with_reducible refine O_step ?_ | with_reducible refine S_step ?_ | with_reducible refine D_step ?_ | with_reducible refine RO.exit ?_ | with_reducible refine RO.ret ?_ | ((with_reducible refine And.intro ?sc ?_); case sc => first | exact rfl | omega | exact Nat.le_of_ble_eq_true rfl | (dsimp only; omega) | (refine ⟨?_, ?_, ?_, ?_, ?_⟩ <;> first | exact rfl | omega | exact Nat.zero_le _ | exact Nat.le_refl _ | (dsimp only; omega) | simp | (simp; omega))))
  refine WO.gov (σ := Nat × Nat × Nat × Nat × Nat) (fun (j, gw, cw, ga, ca) => j ≤ n ∧ (packF (rowN f j)).length ≤ cw ∧ j ≤ ca) (fun (j, _) => n - j)
    (fun (j, gw, cw, ga, ca) => [(0, .sl 0 0 0 n c), (3, .ptr 1 0 0), (4, .sl 3 ga 0 j ca), (5, .int .i64 j)])
    (fun (j, gw, cw, ga, ca) => [.one false 0 (.tab 3 n (actG f) c), wo 2 gw cw (rowN f j), wb gw cw (rowN f j), .one true ga (.ints .i64 (atsN f j) ca)]) (0, 0, 0, 0, 0) tb_ok mixed (by kernel_rfl)
    [(0, .sl 0 0 0 n c), (3, .ptr 1 0 0), (4, .ns), (5, .int .i64 0)] _ ⟨Nat.zero_le _, by simp [rowN, packF, packB], Nat.le_refl _⟩ (And.intro rfl (And.intro rfl (And.intro rfl (And.intro rfl (trivial))))) rfl (Vw.trans (Vw.writer (i := 1) rfl) (Vw.nils (x := .ints .i64 [] 0) ⟨rfl, rfl⟩ (And.intro (.inl rfl) (And.intro (.inl rfl) (And.intro (.inr ⟨rfl, rfl⟩) (And.intro (.inl rfl) trivial))))))
    (And.intro rfl (And.intro rfl (And.intro rfl (And.intro rfl (trivial))))) (fun _ => rfl) (fun _ => rfl) (fun _ => ⟨fun j => rfl, rfl, trivial, trivial, trivial⟩) ?_
  rintro ⟨j, gw, cw, ga, ca⟩ ⟨h1, h2, h3⟩ d
  have hrl := rowN_length f j (by omega)
  have hal := atsN_length f j
  repeat ((conv => whnf); first | with_reducible refine O_step ?_ | with_reducible refine S_step ?_ | with_reducible refine D_step ?_ | with_reducible refine RO.exit ?_ | with_reducible refine RO.ret ?_ | ((with_reducible refine And.intro ?sc ?_); case sc => first | exact rfl | omega | exact Nat.le_of_ble_eq_true rfl | (dsimp only; omega) | (refine ⟨?_, ?_, ?_, ?_, ?_⟩ <;> first | exact rfl | omega | exact Nat.zero_le _ | exact Nat.le_refl _ | (dsimp only; omega) | simp | (simp; omega))))
  refine And.intro (fun hc => ?_) (fun hc => ?_)
  · simp only [decide_eq_true_eq] at hc
    have hin : j < n := by omega
    have hfi := hf j hin
    repeat ((conv => whnf); first | with_reducible refine O_step ?_ | with_reducible refine S_step ?_ | with_reducible refine D_step ?_ | with_reducible refine RO.exit ?_ | with_reducible refine RO.ret ?_ | ((with_reducible refine And.intro ?sc ?_); case sc => first | exact rfl | omega | exact Nat.le_of_ble_eq_true rfl | (dsimp only; omega) | (refine ⟨?_, ?_, ?_, ?_, ?_⟩ <;> first | exact rfl | omega | exact Nat.zero_le _ | exact Nat.le_refl _ | (dsimp only; omega) | simp | (simp; omega))))
    refine len_at (i := 1) (j := 2) (row := rowN f j) rfl rfl rfl (by omega) ?_
    repeat ((conv => whnf); first | with_reducible refine O_step ?_ | with_reducible refine S_step ?_ | with_reducible refine D_step ?_ | with_reducible refine RO.exit ?_ | with_reducible refine RO.ret ?_ | ((with_reducible refine And.intro ?sc ?_); case sc => first | exact rfl | omega | exact Nat.le_of_ble_eq_true rfl | (dsimp only; omega) | (refine ⟨?_, ?_, ?_, ?_, ?_⟩ <;> first | exact rfl | omega | exact Nat.zero_le _ | exact Nat.le_refl _ | (dsimp only; omega) | simp | (simp; omega))))
    intro ys hys
    obtain rfl : ys = [((rowN f j).length : Int)] := hys
    repeat ((conv => whnf); first | with_reducible refine O_step ?_ | with_reducible refine S_step ?_ | with_reducible refine D_step ?_ | with_reducible refine RO.exit ?_ | with_reducible refine RO.ret ?_ | ((with_reducible refine And.intro ?sc ?_); case sc => first | exact rfl | omega | exact Nat.le_of_ble_eq_true rfl | (dsimp only; omega) | (refine ⟨?_, ?_, ?_, ?_, ?_⟩ <;> first | exact rfl | omega | exact Nat.zero_le _ | exact Nat.le_refl _ | (dsimp only; omega) | simp | (simp; omega))))
    intro ca1 hca1
    repeat ((conv => whnf); first | with_reducible refine O_step ?_ | with_reducible refine S_step ?_ | with_reducible refine D_step ?_ | with_reducible refine RO.exit ?_ | with_reducible refine RO.ret ?_ | ((with_reducible refine And.intro ?sc ?_); case sc => first | exact rfl | omega | exact Nat.le_of_ble_eq_true rfl | (dsimp only; omega) | (refine ⟨?_, ?_, ?_, ?_, ?_⟩ <;> first | exact rfl | omega | exact Nat.zero_le _ | exact Nat.le_refl _ | (dsimp only; omega) | simp | (simp; omega))))
    have hats := (atsN_succ f j).symm
    refine And.intro (fun hb => ?_) (fun hb => ?_)
    · have hrn : alignF (rowN f j) = rowN f (j + 1) := by simp only [rowN]; rw [if_pos (show (f j).2.2 = true from hb)]
      repeat ((conv => whnf); first | with_reducible refine O_step ?_ | with_reducible refine S_step ?_ | with_reducible refine D_step ?_ | with_reducible refine RO.exit ?_ | with_reducible refine RO.ret ?_ | ((with_reducible refine And.intro ?sc ?_); case sc => first | exact rfl | omega | exact Nat.le_of_ble_eq_true rfl | (dsimp only; omega) | (refine ⟨?_, ?_, ?_, ?_, ?_⟩ <;> first | exact rfl | omega | exact Nat.zero_le _ | exact Nat.le_refl _ | (dsimp only; omega) | simp | (simp; omega))))
      refine align_at2 (i := 1) (j := 2) (row := rowN f j) (row' := rowN f (j + 1)) rfl rfl rfl (by omega) h2 hrn fun g2 c2 hc2 => ?_
      repeat ((conv => whnf); first | with_reducible refine O_step ?_ | with_reducible refine S_step ?_ | with_reducible refine D_step ?_ | with_reducible refine RO.exit ?_ | with_reducible refine RO.ret ?_ | ((with_reducible refine And.intro ?sc ?_); case sc => first | exact rfl | omega | exact Nat.le_of_ble_eq_true rfl | (dsimp only; omega) | (refine ⟨?_, ?_, ?_, ?_, ?_⟩ <;> first | exact rfl | omega | exact Nat.zero_le _ | exact Nat.le_refl _ | (dsimp only; omega) | simp | (simp; omega))))
      refine RO.same (j + 1, g2, c2, ga + 1, ca1) ⟨by omega, hc2, hca1⟩ (show n - (j + 1) < n - j by omega) (And.intro rfl (And.intro rfl (And.intro rfl (And.intro rfl (trivial))))) (And.intro rfl (And.intro rfl (And.intro rfl (And.intro ?_ trivial))))
      show AO.one true (ga + 1) (.ints .i64 (atsN f (j + 1)) ca1) = AO.one true (ga + 1) (.ints .i64 (atsN f j ++ [((rowN f j).length : Int)]) ca1)
      rw [hats]
    · have hrn : (putF (rowN f j) (f j).1 (f j).2.1).1 = rowN f (j + 1) := by simp only [rowN]; rw [if_neg (by rw [show (f j).2.2 = false from hb]; simp)]
      obtain ⟨e, he, hme⟩ : ∃ e, putF (rowN f j) (f j).1 (f j).2.1 = (rowN f (j + 1), e) ∧ (decide (e = 0) = mayB (f j).1 (f j).2.1) := by
        rcases putF_cases (rowN f j) (f j).1 (f j).2.1 (by omega) with ⟨h0, h5⟩ | ⟨h0, _, _, _, h5⟩
        · refine ⟨1, ?_, by rw [h0]; rfl⟩
          rw [h5] at hrn ⊢; rw [← hrn]
        · refine ⟨0, ?_, by rw [h0]; rfl⟩
          rw [h5] at hrn ⊢; rw [← hrn]
      repeat ((conv => whnf); first | with_reducible refine O_step ?_ | with_reducible refine S_step ?_ | with_reducible refine D_step ?_ | with_reducible refine RO.exit ?_ | with_reducible refine RO.ret ?_ | ((with_reducible refine And.intro ?sc ?_); case sc => first | exact rfl | omega | exact Nat.le_of_ble_eq_true rfl | (dsimp only; omega) | (refine ⟨?_, ?_, ?_, ?_, ?_⟩ <;> first | exact rfl | omega | exact Nat.zero_le _ | exact Nat.le_refl _ | (dsimp only; omega) | simp | (simp; omega))))
      refine put_at (i := 1) (j := 2) (row := rowN f j) (row' := rowN f (j + 1)) (e := e) rfl rfl rfl hfi.1 (by omega) h2 he fun g2 c2 hc2 _ => ?_
      repeat ((conv => whnf); first | with_reducible refine O_step ?_ | with_reducible refine S_step ?_ | with_reducible refine D_step ?_ | with_reducible refine RO.exit ?_ | with_reducible refine RO.ret ?_ | ((with_reducible refine And.intro ?sc ?_); case sc => first | exact rfl | omega | exact Nat.le_of_ble_eq_true rfl | (dsimp only; omega) | (refine ⟨?_, ?_, ?_, ?_, ?_⟩ <;> first | exact rfl | omega | exact Nat.zero_le _ | exact Nat.le_refl _ | (dsimp only; omega) | simp | (simp; omega))))
      refine rmay_call ⟨hfi.1, hfi.2.1⟩ ?_ ?n
      case n => exact And.intro (fun j => rfl) (And.intro rfl (And.intro trivial (And.intro trivial (And.intro trivial trivial))))
      repeat ((conv => whnf); first | with_reducible refine O_step ?_ | with_reducible refine S_step ?_ | with_reducible refine D_step ?_ | with_reducible refine RO.exit ?_ | with_reducible refine RO.ret ?_ | ((with_reducible refine And.intro ?sc ?_); case sc => first | exact rfl | omega | exact Nat.le_of_ble_eq_true rfl | (dsimp only; omega) | (refine ⟨?_, ?_, ?_, ?_, ?_⟩ <;> first | exact rfl | omega | exact Nat.zero_le _ | exact Nat.le_refl _ | (dsimp only; omega) | simp | (simp; omega))))
      refine And.intro (fun hh => absurd hh ?_) (fun _ => ?_)
      · show ¬ (!(decide (e = 0) == mayB (f j).1 (f j).2.1)) = true
        rw [hme]; simp
      repeat ((conv => whnf); first | with_reducible refine O_step ?_ | with_reducible refine S_step ?_ | with_reducible refine D_step ?_ | with_reducible refine RO.exit ?_ | with_reducible refine RO.ret ?_ | ((with_reducible refine And.intro ?sc ?_); case sc => first | exact rfl | omega | exact Nat.le_of_ble_eq_true rfl | (dsimp only; omega) | (refine ⟨?_, ?_, ?_, ?_, ?_⟩ <;> first | exact rfl | omega | exact Nat.zero_le _ | exact Nat.le_refl _ | (dsimp only; omega) | simp | (simp; omega))))
      refine RO.same (j + 1, g2, c2, ga + 1, ca1) ⟨by omega, hc2, hca1⟩ (show n - (j + 1) < n - j by omega) (And.intro rfl (And.intro rfl (And.intro rfl (And.intro rfl (trivial))))) (And.intro rfl (And.intro rfl (And.intro rfl (And.intro ?_ trivial))))
      show AO.one true (ga + 1) (.ints .i64 (atsN f (j + 1)) ca1) = AO.one true (ga + 1) (.ints .i64 (atsN f j ++ [((rowN f j).length : Int)]) ca1)
      rw [hats]
  · simp only [decide_eq_false_iff_not] at hc
    obtain rfl : j = n := by omega
    obtain ⟨kk, hkk, hu, hul⟩ := unpack_bytesF (rowN f j)
    have hby := bytesF_byte (rowN f j)
    have hbl := bytesF_length (rowN f j)
    repeat ((conv => whnf); first | with_reducible refine O_step ?_ | with_reducible refine S_step ?_ | with_reducible refine D_step ?_ | with_reducible refine RO.exit ?_ | with_reducible refine RO.ret ?_ | ((with_reducible refine And.intro ?sc ?_); case sc => first | exact rfl | omega | exact Nat.le_of_ble_eq_true rfl | (dsimp only; omega) | (refine ⟨?_, ?_, ?_, ?_, ?_⟩ <;> first | exact rfl | omega | exact Nat.zero_le _ | exact Nat.le_refl _ | (dsimp only; omega) | simp | (simp; omega))))
    refine bytes_at (i := 1) (j := 2) (row := rowN f j) rfl rfl rfl (by omega) h2 fun g4 c4 h4 => ?_
    repeat ((conv => whnf); first | with_reducible refine O_step ?_ | with_reducible refine S_step ?_ | with_reducible refine D_step ?_ | with_reducible refine RO.exit ?_ | with_reducible refine RO.ret ?_ | ((with_reducible refine And.intro ?sc ?_); case sc => first | exact rfl | omega | exact Nat.le_of_ble_eq_true rfl | (dsimp only; omega) | (refine ⟨?_, ?_, ?_, ?_, ?_⟩ <;> first | exact rfl | omega | exact Nat.zero_le _ | exact Nat.le_refl _ | (dsimp only; omega) | simp | (simp; omega))))
    refine len_at (i := 1) (j := 2) (row := rowN f j) rfl rfl rfl (by omega) ?_
    have eq8 : (((rowN f j).length : Int) + 7).tdiv 8 = ((bytesF (rowN f j)).length : Int) := by
      rw [Int.tdiv_eq_ediv_of_nonneg (by omega), hbl]; omega
    repeat ((conv => whnf); first | with_reducible refine O_step ?_ | with_reducible refine S_step ?_ | with_reducible refine D_step ?_ | with_reducible refine RO.exit ?_ | with_reducible refine RO.ret ?_ | ((with_reducible refine And.intro ?sc ?_); case sc => first | exact rfl | omega | exact Nat.le_of_ble_eq_true rfl | (dsimp only; omega) | (refine ⟨?_, ?_, ?_, ?_, ?_⟩ <;> first | exact rfl | omega | exact Nat.zero_le _ | exact Nat.le_refl _ | (dsimp only; omega) | simp | (simp; omega))))
    refine And.intro (fun hh => absurd hh (by rw [eq8]; simp)) (fun _ => ?_)
    repeat ((conv => whnf); first | with_reducible refine O_step ?_ | with_reducible refine S_step ?_ | with_reducible refine D_step ?_ | with_reducible refine RO.exit ?_ | with_reducible refine RO.ret ?_ | ((with_reducible refine And.intro ?sc ?_); case sc => first | exact rfl | omega | exact Nat.le_of_ble_eq_true rfl | (dsimp only; omega) | (refine ⟨?_, ?_, ?_, ?_, ?_⟩ <;> first | exact rfl | omega | exact Nat.zero_le _ | exact Nat.le_refl _ | (dsimp only; omega) | simp | (simp; omega))))
    refine new_at (i := 4) (xs := bytesF (rowN f j)) rfl rfl (by omega) fun g5 c5 h5 => ?_
    repeat ((conv => whnf); first | with_reducible refine O_step ?_ | with_reducible refine S_step ?_ | with_reducible refine D_step ?_ | with_reducible refine RO.exit ?_ | with_reducible refine RO.ret ?_ | ((with_reducible refine And.intro ?sc ?_); case sc => first | exact rfl | omega | exact Nat.le_of_ble_eq_true rfl | (dsimp only; omega) | (refine ⟨?_, ?_, ?_, ?_, ?_⟩ <;> first | exact rfl | omega | exact Nat.zero_le _ | exact Nat.le_refl _ | (dsimp only; omega) | simp | (simp; omega))))
    refine WO.go (σ := Nat) (fun i => i ≤ j) (fun i => j - i) (fun i => [(0, .sl 0 0 0 j c), (4, .sl 3 ga 0 j ca), (7, .ptr 6 0 0), (8, .int .i64 i)])
      (fun i => [.one false 0 (.tab 3 j (actG f) c), .gone, .gone, .one true ga (.ints .i64 (atsN f j) ca), .gone, rb g5 c5 (bytesF (rowN f j)), ro 5 g5 c5 (bytesF (rowN f j)) (rowN f i).length]) 0 tb_ok mixed (by kernel_rfl)
      (Nat.zero_le _) (And.intro rfl (And.intro rfl (And.intro rfl (And.intro rfl (trivial))))) (And.intro rfl (And.intro trivial (And.intro trivial (And.intro rfl (And.intro trivial (And.intro rfl (And.intro rfl trivial))))))) (fun _ => rfl) (fun _ => rfl) (fun _ => ⟨fun j => rfl, trivial, trivial, trivial, trivial, trivial, rfl, trivial⟩) ?_
    intro i hi d2
    have hli := rowN_length f i (by omega)
    have hai : (rowN f i).length ≤ 8 * (bytesF (rowN f j)).length := by
      obtain ⟨t, et⟩ := rowN_pre f i (j - i) (by omega)
      rw [show i + (j - i) = j from by omega] at et
      have : (rowN f i).length ≤ (rowN f j).length := by rw [et]; simp
      omega
    repeat ((conv => whnf); first | with_reducible refine O_step ?_ | with_reducible refine S_step ?_ | with_reducible refine D_step ?_ | with_reducible refine RO.exit ?_ | with_reducible refine RO.ret ?_ | ((with_reducible refine And.intro ?sc ?_); case sc => first | exact rfl | omega | exact Nat.le_of_ble_eq_true rfl | (dsimp only; omega) | (refine ⟨?_, ?_, ?_, ?_, ?_⟩ <;> first | exact rfl | omega | exact Nat.zero_le _ | exact Nat.le_refl _ | (dsimp only; omega) | simp | (simp; omega))))
    refine And.intro (fun hc2 => ?_) (fun hc2 => ?_)
    · simp only [decide_eq_true_eq] at hc2
      have hij : i < j := by omega
      have hfi := hf i hij
      have hag := atsN_get f hij
      repeat ((conv => whnf); first | with_reducible refine O_step ?_ | with_reducible refine S_step ?_ | with_reducible refine D_step ?_ | with_reducible refine RO.exit ?_ | with_reducible refine RO.ret ?_ | ((with_reducible refine And.intro ?sc ?_); case sc => first | exact rfl | omega | exact Nat.le_of_ble_eq_true rfl | (dsimp only; omega) | (refine ⟨?_, ?_, ?_, ?_, ?_⟩ <;> first | exact rfl | omega | exact Nat.zero_le _ | exact Nat.le_refl _ | (dsimp only; omega) | simp | (simp; omega))))
      refine at_at (i := 6) (j := 5) (xs := bytesF (rowN f j)) (a := (rowN f i).length) rfl rfl rfl ?_
      repeat ((conv => whnf); first | with_reducible refine O_step ?_ | with_reducible refine S_step ?_ | with_reducible refine D_step ?_ | with_reducible refine RO.exit ?_ | with_reducible refine RO.ret ?_ | ((with_reducible refine And.intro ?sc ?_); case sc => first | exact rfl | omega | exact Nat.le_of_ble_eq_true rfl | (dsimp only; omega) | (refine ⟨?_, ?_, ?_, ?_, ?_⟩ <;> first | exact rfl | omega | exact Nat.zero_le _ | exact Nat.le_refl _ | (dsimp only; omega) | simp | (simp; omega))))
      refine And.intro (fun hh => absurd hh ?_) (fun _ => ?_)
      · have e : (atsN f j).getD (Int.toNat (i : Int) + 0) 0 = ((rowN f i).length : Int) := hag
        rw [e]; simp
      repeat ((conv => whnf); first | with_reducible refine O_step ?_ | with_reducible refine S_step ?_ | with_reducible refine D_step ?_ | with_reducible refine RO.exit ?_ | with_reducible refine RO.ret ?_ | ((with_reducible refine And.intro ?sc ?_); case sc => first | exact rfl | omega | exact Nat.le_of_ble_eq_true rfl | (dsimp only; omega) | (refine ⟨?_, ?_, ?_, ?_, ?_⟩ <;> first | exact rfl | omega | exact Nat.zero_le _ | exact Nat.le_refl _ | (dsimp only; omega) | simp | (simp; omega))))
      refine And.intro (fun hb => ?_) (fun hb => ?_)
      · have hrn : alignF (rowN f i) = rowN f (i + 1) := by simp only [rowN]; rw [if_pos (show (f i).2.2 = true from hb)]
        have hall := alignF_length (rowN f i)
        rw [hrn] at hall
        repeat ((conv => whnf); first | with_reducible refine O_step ?_ | with_reducible refine S_step ?_ | with_reducible refine D_step ?_ | with_reducible refine RO.exit ?_ | with_reducible refine RO.ret ?_ | ((with_reducible refine And.intro ?sc ?_); case sc => first | exact rfl | omega | exact Nat.le_of_ble_eq_true rfl | (dsimp only; omega) | (refine ⟨?_, ?_, ?_, ?_, ?_⟩ <;> first | exact rfl | omega | exact Nat.zero_le _ | exact Nat.le_refl _ | (dsimp only; omega) | simp | (simp; omega))))
        refine ralign_at2 (i := 6) (j := 5) (xs := bytesF (rowN f j)) (a := (rowN f i).length) (a' := (rowN f (i + 1)).length) rfl rfl rfl (by omega) hai hall.symm ?_
        repeat ((conv => whnf); first | with_reducible refine O_step ?_ | with_reducible refine S_step ?_ | with_reducible refine D_step ?_ | with_reducible refine RO.exit ?_ | with_reducible refine RO.ret ?_ | ((with_reducible refine And.intro ?sc ?_); case sc => first | exact rfl | omega | exact Nat.le_of_ble_eq_true rfl | (dsimp only; omega) | (refine ⟨?_, ?_, ?_, ?_, ?_⟩ <;> first | exact rfl | omega | exact Nat.zero_le _ | exact Nat.le_refl _ | (dsimp only; omega) | simp | (simp; omega))))
        exact RO.same (i + 1) (by omega) (show j - (i + 1) < j - i by omega) (And.intro rfl (And.intro rfl (And.intro rfl (And.intro rfl (trivial))))) (And.intro rfl (And.intro trivial (And.intro trivial (And.intro rfl (And.intro trivial (And.intro rfl (And.intro rfl trivial)))))))
      · have hbf : (f i).2.2 = false := hb
        have hrn : (putF (rowN f i) (f i).1 (f i).2.1).1 = rowN f (i + 1) := by simp only [rowN]; rw [if_neg (by rw [hbf]; simp)]
        repeat ((conv => whnf); first | with_reducible refine O_step ?_ | with_reducible refine S_step ?_ | with_reducible refine D_step ?_ | with_reducible refine RO.exit ?_ | with_reducible refine RO.ret ?_ | ((with_reducible refine And.intro ?sc ?_); case sc => first | exact rfl | omega | exact Nat.le_of_ble_eq_true rfl | (dsimp only; omega) | (refine ⟨?_, ?_, ?_, ?_, ?_⟩ <;> first | exact rfl | omega | exact Nat.zero_le _ | exact Nat.le_refl _ | (dsimp only; omega) | simp | (simp; omega))))
        refine rmay_call ⟨hfi.1, hfi.2.1⟩ ?_ ?n
        case n => exact And.intro (fun j => rfl) (And.intro trivial (And.intro trivial (And.intro trivial (And.intro trivial (And.intro trivial (And.intro rfl trivial))))))
        repeat ((conv => whnf); first | with_reducible refine O_step ?_ | with_reducible refine S_step ?_ | with_reducible refine D_step ?_ | with_reducible refine RO.exit ?_ | with_reducible refine RO.ret ?_ | ((with_reducible refine And.intro ?sc ?_); case sc => first | exact rfl | omega | exact Nat.le_of_ble_eq_true rfl | (dsimp only; omega) | (refine ⟨?_, ?_, ?_, ?_, ?_⟩ <;> first | exact rfl | omega | exact Nat.zero_le _ | exact Nat.le_refl _ | (dsimp only; omega) | simp | (simp; omega))))
        refine And.intro (fun hm => ?_) (fun hm => ?_)
        · have hm' : mayB (f i).1 (f i).2.1 = false := by simpa using hm
          have hsame : rowN f (i + 1) = rowN f i := by rw [← hrn]; simp [putF, hm']
          repeat ((conv => whnf); first | with_reducible refine O_step ?_ | with_reducible refine S_step ?_ | with_reducible refine D_step ?_ | with_reducible refine RO.exit ?_ | with_reducible refine RO.ret ?_ | ((with_reducible refine And.intro ?sc ?_); case sc => first | exact rfl | omega | exact Nat.le_of_ble_eq_true rfl | (dsimp only; omega) | (refine ⟨?_, ?_, ?_, ?_, ?_⟩ <;> first | exact rfl | omega | exact Nat.zero_le _ | exact Nat.le_refl _ | (dsimp only; omega) | simp | (simp; omega))))
          refine RO.same (i + 1) (by omega) (show j - (i + 1) < j - i by omega) (And.intro rfl (And.intro rfl (And.intro rfl (And.intro rfl (trivial))))) (And.intro rfl (And.intro trivial (And.intro trivial (And.intro rfl (And.intro trivial (And.intro rfl (And.intro ?_ trivial)))))))
          show ro 5 g5 c5 (bytesF (rowN f j)) (rowN f (i + 1)).length = ro 5 g5 c5 (bytesF (rowN f j)) (rowN f i).length
          rw [hsame]
        · have hm' : mayB (f i).1 (f i).2.1 = true := by simpa using hm
          have hge := rowN_get f hij hn hbf hfi.1 hm'
          repeat ((conv => whnf); first | with_reducible refine O_step ?_ | with_reducible refine S_step ?_ | with_reducible refine D_step ?_ | with_reducible refine RO.exit ?_ | with_reducible refine RO.ret ?_ | ((with_reducible refine And.intro ?sc ?_); case sc => first | exact rfl | omega | exact Nat.le_of_ble_eq_true rfl | (dsimp only; omega) | (refine ⟨?_, ?_, ?_, ?_, ?_⟩ <;> first | exact rfl | omega | exact Nat.zero_le _ | exact Nat.le_refl _ | (dsimp only; omega) | simp | (simp; omega))))
          refine get_at (i := 6) (j := 5) (xs := bytesF (rowN f j)) (a := (rowN f i).length) (v := (f i).1) (a' := (rowN f (i + 1)).length) (e := 0) rfl rfl rfl (by omega) hai hby hge ?_
          repeat ((conv => whnf); first | with_reducible refine O_step ?_ | with_reducible refine S_step ?_ | with_reducible refine D_step ?_ | with_reducible refine RO.exit ?_ | with_reducible refine RO.ret ?_ | ((with_reducible refine And.intro ?sc ?_); case sc => first | exact rfl | omega | exact Nat.le_of_ble_eq_true rfl | (dsimp only; omega) | (refine ⟨?_, ?_, ?_, ?_, ?_⟩ <;> first | exact rfl | omega | exact Nat.zero_le _ | exact Nat.le_refl _ | (dsimp only; omega) | simp | (simp; omega))))
          refine And.intro (fun hh => absurd hh (by simp)) (fun _ => ?_)
          repeat ((conv => whnf); first | with_reducible refine O_step ?_ | with_reducible refine S_step ?_ | with_reducible refine D_step ?_ | with_reducible refine RO.exit ?_ | with_reducible refine RO.ret ?_ | ((with_reducible refine And.intro ?sc ?_); case sc => first | exact rfl | omega | exact Nat.le_of_ble_eq_true rfl | (dsimp only; omega) | (refine ⟨?_, ?_, ?_, ?_, ?_⟩ <;> first | exact rfl | omega | exact Nat.zero_le _ | exact Nat.le_refl _ | (dsimp only; omega) | simp | (simp; omega))))
          refine And.intro (fun hh => absurd hh (by decide)) (fun _ => ?_)
          repeat ((conv => whnf); first | with_reducible refine O_step ?_ | with_reducible refine S_step ?_ | with_reducible refine D_step ?_ | with_reducible refine RO.exit ?_ | with_reducible refine RO.ret ?_ | ((with_reducible refine And.intro ?sc ?_); case sc => first | exact rfl | omega | exact Nat.le_of_ble_eq_true rfl | (dsimp only; omega) | (refine ⟨?_, ?_, ?_, ?_, ?_⟩ <;> first | exact rfl | omega | exact Nat.zero_le _ | exact Nat.le_refl _ | (dsimp only; omega) | simp | (simp; omega))))
          exact RO.same (i + 1) (by omega) (show j - (i + 1) < j - i by omega) (And.intro rfl (And.intro rfl (And.intro rfl (And.intro rfl (trivial))))) (And.intro rfl (And.intro trivial (And.intro trivial (And.intro rfl (And.intro trivial (And.intro rfl (And.intro rfl trivial)))))))
    · simp only [decide_eq_false_iff_not] at hc2
      obtain rfl : i = j := by omega
      repeat ((conv => whnf); first | with_reducible refine O_step ?_ | with_reducible refine S_step ?_ | with_reducible refine D_step ?_ | with_reducible refine RO.exit ?_ | with_reducible refine RO.ret ?_ | ((with_reducible refine And.intro ?sc ?_); case sc => first | exact rfl | omega | exact Nat.le_of_ble_eq_true rfl | (dsimp only; omega) | (refine ⟨?_, ?_, ?_, ?_, ?_⟩ <;> first | exact rfl | omega | exact Nat.zero_le _ | exact Nat.le_refl _ | (dsimp only; omega) | simp | (simp; omega))))
      refine left_at (i := 6) (j := 5) (xs := bytesF (rowN f i)) (a := (rowN f i).length) rfl rfl rfl (by omega) hai ?_
      repeat ((conv => whnf); first | with_reducible refine O_step ?_ | with_reducible refine S_step ?_ | with_reducible refine D_step ?_ | with_reducible refine RO.exit ?_ | with_reducible refine RO.ret ?_ | ((with_reducible refine And.intro ?sc ?_); case sc => first | exact rfl | omega | exact Nat.le_of_ble_eq_true rfl | (dsimp only; omega) | (refine ⟨?_, ?_, ?_, ?_, ?_⟩ <;> first | exact rfl | omega | exact Nat.zero_le _ | exact Nat.le_refl _ | (dsimp only; omega) | simp | (simp; omega))))
      refine And.intro (fun _ => ?_) (fun hh => absurd hh (by simp; omega))
      repeat ((conv => whnf); first | with_reducible refine O_step ?_ | with_reducible refine S_step ?_ | with_reducible refine D_step ?_ | with_reducible refine RO.exit ?_ | with_reducible refine RO.ret ?_ | ((with_reducible refine And.intro ?sc ?_); case sc => first | exact rfl | omega | exact Nat.le_of_ble_eq_true rfl | (dsimp only; omega) | (refine ⟨?_, ?_, ?_, ?_, ?_⟩ <;> first | exact rfl | omega | exact Nat.zero_le _ | exact Nat.le_refl _ | (dsimp only; omega) | simp | (simp; omega))))
      refine lays_at ?_
      repeat ((conv => whnf); first | with_reducible refine O_step ?_ | with_reducible refine S_step ?_ | with_reducible refine D_step ?_ | with_reducible refine RO.exit ?_ | with_reducible refine RO.ret ?_ | ((with_reducible refine And.intro ?sc ?_); case sc => first | exact rfl | omega | exact Nat.le_of_ble_eq_true rfl | (dsimp only; omega) | (refine ⟨?_, ?_, ?_, ?_, ?_⟩ <;> first | exact rfl | omega | exact Nat.zero_le _ | exact Nat.le_refl _ | (dsimp only; omega) | simp | (simp; omega))))
      rfl
end Go.Proofs.Ythbmddaemdcamaa
