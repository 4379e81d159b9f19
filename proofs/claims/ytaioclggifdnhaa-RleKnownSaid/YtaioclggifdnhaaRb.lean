/- Layer 11: the reference's Encode. -/
import Derived.Test.YtaioclggifdnhaaRa
set_option linter.unusedVariables false
set_option linter.unusedSimpArgs false
open Go.RowKit
namespace Go.Proofs.Ytaioclggifdnhaa
set_option maxRecDepth 10000

/-- A run's bytes: of n + 1 pixels. -/
def e4 (n : Nat) (x : Int) : List Int := [(n : Int), x / 65536, x / 256 % 256, x % 256]
/-- What is left to encode; n pixels of the run that goes on are passed. -/
def encG : Nat → List Int → List Int
  | _, [] => []
  | n, x :: l => if l.head? = some x ∧ n + 1 < 256 then encG (n + 1) l else e4 n x ++ encG 0 l
def encF (xs : List Int) : List Int := encG 0 (cutL xs)
theorem cutL_length (xs : List Int) : (cutL xs).length = xs.length := by simp [cutL]
theorem cutL_bound {xs : List Int} : ∀ x ∈ cutL xs, 0 ≤ x ∧ x < 16777216 := by
  intro x hx
  obtain ⟨y, _, rfl⟩ := List.mem_map.1 hx
  omega
theorem encG_length : ∀ (n : Nat) (l : List Int), (encG n l).length ≤ 4 * l.length
  | _, [] => by simp [encG]
  | n, x :: l => by
    simp only [encG]
    split
    · have := encG_length (n + 1) l; simp; omega
    · have := encG_length 0 l; simp [e4]; omega
theorem encG_drop {l : List Int} {i : Nat} (n : Nat) (h : i < l.length) : encG n (l.drop i) = if (i + 1 < l.length ∧ l.getD (i + 1) 0 = l.getD i 0) ∧ n + 1 < 256 then encG (n + 1) (l.drop (i + 1)) else e4 n (l.getD i 0) ++ encG 0 (l.drop (i + 1)) := by
  rw [List.drop_eq_getElem_cons h]
  simp only [encG, List.head?_drop]
  have e : l.getD i 0 = l[i] := by simp [List.getD_eq_getElem?_getD, h]
  rw [e]
  have : (l[i + 1]? = some l[i]) ↔ (i + 1 < l.length ∧ l.getD (i + 1) 0 = l[i]) := by
    rw [List.getD_eq_getElem?_getD, List.getElem?_eq_some_iff]
    constructor
    · rintro ⟨h1, h2⟩; exact ⟨h1, by simp [h1, h2]⟩
    · rintro ⟨h1, h2⟩; exact ⟨h1, by simpa [h1] using h2⟩
  simp only [this]

theorem e4_of {n : Nat} {x : Int} (hn : n < 256) (hx : 0 ≤ x ∧ x < 16777216) : List.take 4 (List.drop 0 [((n : Int) + 1 - 1) % 256, x.tdiv 65536 % 4294967296 % 256, (x.tdiv 256 % 4294967296).tmod 256 % 256, x.tmod 256 % 256]) = e4 n x := by
  have h1 : x.tdiv 65536 = x / 65536 := Int.tdiv_eq_ediv_of_nonneg hx.1
  have h2 : x.tdiv 256 = x / 256 := Int.tdiv_eq_ediv_of_nonneg hx.1
  have h3 : x.tmod 256 = x % 256 := Int.tmod_eq_emod_of_nonneg hx.1
  have h4 : (x / 256 % 4294967296).tmod 256 = x / 256 % 4294967296 % 256 := Int.tmod_eq_emod_of_nonneg (by omega)
  rw [h1, h2, h3, h4]
  show [_, _, _, _] = [_, _, _, _]
  rw [show ((n : Int) + 1 - 1) % 256 = n by omega, show x / 65536 % 4294967296 % 256 = x / 65536 by omega, show x / 256 % 4294967296 % 256 % 256 = x / 256 % 256 by omega, show x % 256 % 256 = x % 256 by omega]

theorem rencode_call {xs : List Int} {c0 c : Nat} (hx : xs.length ≤ 100000000) (h0 : ∀ x ∈ xs, 0 ≤ x ∧ x < 4294967296) {Kp} :
    CallA Try.prog 15 [.sl 0 0 0 xs.length c0] [.one false 0 (.ints .u32 xs c)]
      (fun r M => ∃ g1 c1 g' c', r = .sl 2 g' 0 (encF xs).length c' ∧ M = [.one false 0 (.ints .u32 xs c), .one true g1 (.ints .u32 (cutL xs) c1), .one true g' (.ints .u8 (encF xs) c')] ∧ (encF xs).length ≤ c') Kp := by
  refine CallA.post_sub ?_
  refine step15 (fun _ => [1]) [] rfl ?_
  repeat ((conv => whnf); first | with_reducible refine O_step ?_ | with_reducible refine S_step ?_ | with_reducible refine D_step ?_ | with_reducible refine RO.exit ?_ | with_reducible refine RO.ret ?_ | ((with_reducible refine And.intro ?sc ?_); case sc => first | exact rfl | omega | exact Nat.le_of_ble_eq_true rfl | (dsimp only; omega) | (simp only [List.length_cons, List.length_nil, List.length_append, List.length_replicate, List.length_set, List.length_take, List.length_drop, List.length_map]; omega) | decide | (refine ⟨?_, ?_, ?_, ?_, ?_⟩ <;> first | exact rfl | omega | exact Nat.zero_le _ | exact Nat.le_refl _ | (dsimp only; omega) | simp | (simp; omega)) | (refine ⟨?_, ?_, ?_⟩ <;> first | exact rfl | omega | exact Nat.le_refl _ | (dsimp only; omega) | (simp; done) | (simp; omega))))
  refine rcut_at (i := 0) (xs := xs) rfl rfl (by omega) h0 fun g1 c1 hc1 => ?_
  repeat ((conv => whnf); first | with_reducible refine O_step ?_ | with_reducible refine S_step ?_ | with_reducible refine D_step ?_ | with_reducible refine RO.exit ?_ | with_reducible refine RO.ret ?_ | ((with_reducible refine And.intro ?sc ?_); case sc => first | exact rfl | omega | exact Nat.le_of_ble_eq_true rfl | (dsimp only; omega) | (simp only [List.length_cons, List.length_nil, List.length_append, List.length_replicate, List.length_set, List.length_take, List.length_drop, List.length_map]; omega) | decide | (refine ⟨?_, ?_, ?_, ?_, ?_⟩ <;> first | exact rfl | omega | exact Nat.zero_le _ | exact Nat.le_refl _ | (dsimp only; omega) | simp | (simp; omega)) | (refine ⟨?_, ?_, ?_⟩ <;> first | exact rfl | omega | exact Nat.le_refl _ | (dsimp only; omega) | (simp; done) | (simp; omega))))
  have hb := cutL_bound (xs := xs)
  have hl := cutL_length xs
  have hF : encF xs = encG 0 (cutL xs) := rfl
  obtain ⟨L, hL⟩ : ∃ L, L = cutL xs := ⟨_, rfl⟩
  rw [← hL] at hb hl hF hc1 ⊢
  refine WO.gov (σ := Nat × Nat × Nat × Nat × List Int) (fun (i, n, g, cc, ys) => i ≤ L.length ∧ n < 256 ∧ ys.length ≤ cc ∧ ys.length ≤ 4 * i ∧ encF xs = ys ++ encG n (L.drop i)) (fun (i, _) => L.length - i)
    (fun (i, n, g, cc, ys) => [(3, .sl 1 g1 0 L.length c1), (4, .sl 2 g 0 ys.length cc), (5, .int .i64 n), (6, .int .i64 i)])
    (fun (i, n, g, cc, ys) => [.one false 0 (.ints .u32 xs c), .one true g1 (.ints .u32 L c1), .one true g (.ints .u8 ys cc)]) (0, 0, 0, 0, []) tb_ok mixed (by kernel_rfl)
    [(3, .sl 1 g1 0 L.length c1), (4, .ns), (5, .int .i64 0), (6, .int .i64 0)] _ ⟨Nat.zero_le _, by decide, Nat.zero_le _, Nat.zero_le _, hF⟩ (And.intro rfl (And.intro rfl (And.intro rfl (And.intro rfl (trivial))))) rfl (Vw.nils (x := .ints .u8 [] 0) ⟨rfl, rfl⟩ ?_) (And.intro rfl (And.intro rfl (And.intro rfl (trivial)))) (fun _ => rfl) (fun _ => rfl) (fun _ => ⟨trivial, trivial, trivial, trivial⟩) ?_
  · exact And.intro (.inl rfl) (And.intro (.inr ⟨rfl, rfl⟩) (And.intro (.inl rfl) (And.intro (.inl rfl) trivial)))
  rintro ⟨i, n, g, cc, ys⟩ ⟨h1, h2, h3, h4, h5⟩ d
  repeat ((conv => whnf); first | with_reducible refine O_step ?_ | with_reducible refine S_step ?_ | with_reducible refine D_step ?_ | with_reducible refine RO.exit ?_ | with_reducible refine RO.ret ?_ | ((with_reducible refine And.intro ?sc ?_); case sc => first | exact rfl | omega | exact Nat.le_of_ble_eq_true rfl | (dsimp only; omega) | (simp only [List.length_cons, List.length_nil, List.length_append, List.length_replicate, List.length_set, List.length_take, List.length_drop, List.length_map]; omega) | decide | (refine ⟨?_, ?_, ?_, ?_, ?_⟩ <;> first | exact rfl | omega | exact Nat.zero_le _ | exact Nat.le_refl _ | (dsimp only; omega) | simp | (simp; omega)) | (refine ⟨?_, ?_, ?_⟩ <;> first | exact rfl | omega | exact Nat.le_refl _ | (dsimp only; omega) | (simp; done) | (simp; omega))))
  refine And.intro (fun hc => ?_) (fun hc => ?_)
  · simp only [decide_eq_true_eq] at hc
    have hi : i < L.length := by omega
    have hxi := hb _ (List.getElem_mem hi)
    have hgd : L.getD i 0 = L[i] := by simp [List.getD_eq_getElem?_getD, hi]
    rw [encG_drop n hi] at h5
    repeat ((conv => whnf); first | with_reducible refine O_step ?_ | with_reducible refine S_step ?_ | with_reducible refine D_step ?_ | with_reducible refine RO.exit ?_ | with_reducible refine RO.ret ?_ | ((with_reducible refine And.intro ?sc ?_); case sc => first | exact rfl | omega | exact Nat.le_of_ble_eq_true rfl | (dsimp only; omega) | (simp only [List.length_cons, List.length_nil, List.length_append, List.length_replicate, List.length_set, List.length_take, List.length_drop, List.length_map]; omega) | decide | (refine ⟨?_, ?_, ?_, ?_, ?_⟩ <;> first | exact rfl | omega | exact Nat.zero_le _ | exact Nat.le_refl _ | (dsimp only; omega) | simp | (simp; omega)) | (refine ⟨?_, ?_, ?_⟩ <;> first | exact rfl | omega | exact Nat.le_refl _ | (dsimp only; omega) | (simp; done) | (simp; omega))))
    refine And.intro (fun hA => ?_) (fun hA => ?_)
    · simp only [decide_eq_true_eq] at hA
      repeat ((conv => whnf); first | with_reducible refine O_step ?_ | with_reducible refine S_step ?_ | with_reducible refine D_step ?_ | with_reducible refine RO.exit ?_ | with_reducible refine RO.ret ?_ | ((with_reducible refine And.intro ?sc ?_); case sc => first | exact rfl | omega | exact Nat.le_of_ble_eq_true rfl | (dsimp only; omega) | (simp only [List.length_cons, List.length_nil, List.length_append, List.length_replicate, List.length_set, List.length_take, List.length_drop, List.length_map]; omega) | decide | (refine ⟨?_, ?_, ?_, ?_, ?_⟩ <;> first | exact rfl | omega | exact Nat.zero_le _ | exact Nat.le_refl _ | (dsimp only; omega) | simp | (simp; omega)) | (refine ⟨?_, ?_, ?_⟩ <;> first | exact rfl | omega | exact Nat.le_refl _ | (dsimp only; omega) | (simp; done) | (simp; omega))))
      refine And.intro (fun hB => ?_) (fun hB => ?_)
      · skip
        repeat ((conv => whnf); first | with_reducible refine O_step ?_ | with_reducible refine S_step ?_ | with_reducible refine D_step ?_ | with_reducible refine RO.exit ?_ | with_reducible refine RO.ret ?_ | ((with_reducible refine And.intro ?sc ?_); case sc => first | exact rfl | omega | exact Nat.le_of_ble_eq_true rfl | (dsimp only; omega) | (simp only [List.length_cons, List.length_nil, List.length_append, List.length_replicate, List.length_set, List.length_take, List.length_drop, List.length_map]; omega) | decide | (refine ⟨?_, ?_, ?_, ?_, ?_⟩ <;> first | exact rfl | omega | exact Nat.zero_le _ | exact Nat.le_refl _ | (dsimp only; omega) | simp | (simp; omega)) | (refine ⟨?_, ?_, ?_⟩ <;> first | exact rfl | omega | exact Nat.le_refl _ | (dsimp only; omega) | (simp; done) | (simp; omega))))
        refine And.intro (fun hC => ?_) (fun hC => ?_)
        · skip
          simp only [decide_eq_true_eq] at hC
          have hBx : L.getD (i + 1) 0 = L.getD i 0 := of_decide_eq_true hB
          rw [if_pos (by refine ⟨⟨by omega, hBx⟩, by omega⟩)] at h5
          repeat ((conv => whnf); first | with_reducible refine O_step ?_ | with_reducible refine S_step ?_ | with_reducible refine D_step ?_ | with_reducible refine RO.exit ?_ | with_reducible refine RO.ret ?_ | ((with_reducible refine And.intro ?sc ?_); case sc => first | exact rfl | omega | exact Nat.le_of_ble_eq_true rfl | (dsimp only; omega) | (simp only [List.length_cons, List.length_nil, List.length_append, List.length_replicate, List.length_set, List.length_take, List.length_drop, List.length_map]; omega) | decide | (refine ⟨?_, ?_, ?_, ?_, ?_⟩ <;> first | exact rfl | omega | exact Nat.zero_le _ | exact Nat.le_refl _ | (dsimp only; omega) | simp | (simp; omega)) | (refine ⟨?_, ?_, ?_⟩ <;> first | exact rfl | omega | exact Nat.le_refl _ | (dsimp only; omega) | (simp; done) | (simp; omega))))
          refine RO.same (i + 1, n + 1, g, cc, ys) ⟨by omega, by omega, h3, by omega, h5⟩ (show L.length - (i + 1) < L.length - i by omega) (And.intro rfl (And.intro rfl (And.intro ?_ (And.intro ?_ trivial)))) (And.intro rfl (And.intro rfl (And.intro rfl (trivial))))
          · show AV.int .i64 ((n : Int) + 1) = AV.int .i64 ((n + 1 : Nat) : Int)
            push_cast; rfl
          · show AV.int .i64 ((i : Int) + 1) = AV.int .i64 ((i + 1 : Nat) : Int)
            push_cast; rfl
        · skip
          simp only [decide_eq_false_iff_not] at hC
          repeat ((conv => whnf); first | with_reducible refine O_step ?_ | with_reducible refine S_step ?_ | with_reducible refine D_step ?_ | with_reducible refine RO.exit ?_ | with_reducible refine RO.ret ?_ | ((with_reducible refine And.intro ?sc ?_); case sc => first | exact rfl | omega | exact Nat.le_of_ble_eq_true rfl | (dsimp only; omega) | (simp only [List.length_cons, List.length_nil, List.length_append, List.length_replicate, List.length_set, List.length_take, List.length_drop, List.length_map]; omega) | decide | (refine ⟨?_, ?_, ?_, ?_, ?_⟩ <;> first | exact rfl | omega | exact Nat.zero_le _ | exact Nat.le_refl _ | (dsimp only; omega) | simp | (simp; omega)) | (refine ⟨?_, ?_, ?_⟩ <;> first | exact rfl | omega | exact Nat.le_refl _ | (dsimp only; omega) | (simp; done) | (simp; omega))))
          intro zs hzs
          have hz : zs = e4 n L[i] := by
            rw [hzs]
            have e := e4_of h2 hxi
            rw [← hgd] at e ⊢
            exact e
          subst hz
          have he4 : (e4 n L[i]).length = 4 := rfl
          rw [if_neg (by omega), hgd] at h5
          repeat ((conv => whnf); first | with_reducible refine O_step ?_ | with_reducible refine S_step ?_ | with_reducible refine D_step ?_ | with_reducible refine RO.exit ?_ | with_reducible refine RO.ret ?_ | ((with_reducible refine And.intro ?sc ?_); case sc => first | exact rfl | omega | exact Nat.le_of_ble_eq_true rfl | (dsimp only; omega) | (simp only [List.length_cons, List.length_nil, List.length_append, List.length_replicate, List.length_set, List.length_take, List.length_drop, List.length_map]; omega) | decide | (refine ⟨?_, ?_, ?_, ?_, ?_⟩ <;> first | exact rfl | omega | exact Nat.zero_le _ | exact Nat.le_refl _ | (dsimp only; omega) | simp | (simp; omega)) | (refine ⟨?_, ?_, ?_⟩ <;> first | exact rfl | omega | exact Nat.le_refl _ | (dsimp only; omega) | (simp; done) | (simp; omega))))
          intro c2 hc2
          repeat ((conv => whnf); first | with_reducible refine O_step ?_ | with_reducible refine S_step ?_ | with_reducible refine D_step ?_ | with_reducible refine RO.exit ?_ | with_reducible refine RO.ret ?_ | ((with_reducible refine And.intro ?sc ?_); case sc => first | exact rfl | omega | exact Nat.le_of_ble_eq_true rfl | (dsimp only; omega) | (simp only [List.length_cons, List.length_nil, List.length_append, List.length_replicate, List.length_set, List.length_take, List.length_drop, List.length_map]; omega) | decide | (refine ⟨?_, ?_, ?_, ?_, ?_⟩ <;> first | exact rfl | omega | exact Nat.zero_le _ | exact Nat.le_refl _ | (dsimp only; omega) | simp | (simp; omega)) | (refine ⟨?_, ?_, ?_⟩ <;> first | exact rfl | omega | exact Nat.le_refl _ | (dsimp only; omega) | (simp; done) | (simp; omega))))
          refine RO.same (i + 1, 0, g + 1, c2, ys ++ e4 n L[i]) ⟨by omega, by decide, by simp only [List.length_append]; omega, by simp only [List.length_append]; omega, by rw [h5, List.append_assoc]⟩ (show L.length - (i + 1) < L.length - i by omega) (And.intro rfl (And.intro ?_ (And.intro rfl (And.intro ?_ trivial)))) (And.intro rfl (And.intro rfl (And.intro rfl (trivial))))
          · show AV.sl 2 (g + 1) 0 (ys.length + 4) c2 = AV.sl 2 (g + 1) 0 (ys ++ e4 n L[i]).length c2
            rw [List.length_append]; rfl
          · show AV.int .i64 ((i : Int) + 1) = AV.int .i64 ((i + 1 : Nat) : Int)
            push_cast; rfl
      · skip
        repeat ((conv => whnf); first | with_reducible refine O_step ?_ | with_reducible refine S_step ?_ | with_reducible refine D_step ?_ | with_reducible refine RO.exit ?_ | with_reducible refine RO.ret ?_ | ((with_reducible refine And.intro ?sc ?_); case sc => first | exact rfl | omega | exact Nat.le_of_ble_eq_true rfl | (dsimp only; omega) | (simp only [List.length_cons, List.length_nil, List.length_append, List.length_replicate, List.length_set, List.length_take, List.length_drop, List.length_map]; omega) | decide | (refine ⟨?_, ?_, ?_, ?_, ?_⟩ <;> first | exact rfl | omega | exact Nat.zero_le _ | exact Nat.le_refl _ | (dsimp only; omega) | simp | (simp; omega)) | (refine ⟨?_, ?_, ?_⟩ <;> first | exact rfl | omega | exact Nat.le_refl _ | (dsimp only; omega) | (simp; done) | (simp; omega))))
        intro zs hzs
        have hz : zs = e4 n L[i] := by
          rw [hzs]
          have e := e4_of h2 hxi
          rw [← hgd] at e ⊢
          exact e
        subst hz
        have he4 : (e4 n L[i]).length = 4 := rfl
        rw [if_neg (by simp only [decide_eq_false_iff_not] at hB; exact fun h => hB h.1.2), hgd] at h5
        repeat ((conv => whnf); first | with_reducible refine O_step ?_ | with_reducible refine S_step ?_ | with_reducible refine D_step ?_ | with_reducible refine RO.exit ?_ | with_reducible refine RO.ret ?_ | ((with_reducible refine And.intro ?sc ?_); case sc => first | exact rfl | omega | exact Nat.le_of_ble_eq_true rfl | (dsimp only; omega) | (simp only [List.length_cons, List.length_nil, List.length_append, List.length_replicate, List.length_set, List.length_take, List.length_drop, List.length_map]; omega) | decide | (refine ⟨?_, ?_, ?_, ?_, ?_⟩ <;> first | exact rfl | omega | exact Nat.zero_le _ | exact Nat.le_refl _ | (dsimp only; omega) | simp | (simp; omega)) | (refine ⟨?_, ?_, ?_⟩ <;> first | exact rfl | omega | exact Nat.le_refl _ | (dsimp only; omega) | (simp; done) | (simp; omega))))
        intro c2 hc2
        repeat ((conv => whnf); first | with_reducible refine O_step ?_ | with_reducible refine S_step ?_ | with_reducible refine D_step ?_ | with_reducible refine RO.exit ?_ | with_reducible refine RO.ret ?_ | ((with_reducible refine And.intro ?sc ?_); case sc => first | exact rfl | omega | exact Nat.le_of_ble_eq_true rfl | (dsimp only; omega) | (simp only [List.length_cons, List.length_nil, List.length_append, List.length_replicate, List.length_set, List.length_take, List.length_drop, List.length_map]; omega) | decide | (refine ⟨?_, ?_, ?_, ?_, ?_⟩ <;> first | exact rfl | omega | exact Nat.zero_le _ | exact Nat.le_refl _ | (dsimp only; omega) | simp | (simp; omega)) | (refine ⟨?_, ?_, ?_⟩ <;> first | exact rfl | omega | exact Nat.le_refl _ | (dsimp only; omega) | (simp; done) | (simp; omega))))
        refine RO.same (i + 1, 0, g + 1, c2, ys ++ e4 n L[i]) ⟨by omega, by decide, by simp only [List.length_append]; omega, by simp only [List.length_append]; omega, by rw [h5, List.append_assoc]⟩ (show L.length - (i + 1) < L.length - i by omega) (And.intro rfl (And.intro ?_ (And.intro rfl (And.intro ?_ trivial)))) (And.intro rfl (And.intro rfl (And.intro rfl (trivial))))
        · show AV.sl 2 (g + 1) 0 (ys.length + 4) c2 = AV.sl 2 (g + 1) 0 (ys ++ e4 n L[i]).length c2
          rw [List.length_append]; rfl
        · show AV.int .i64 ((i : Int) + 1) = AV.int .i64 ((i + 1 : Nat) : Int)
          push_cast; rfl
    · simp only [decide_eq_false_iff_not] at hA
      repeat ((conv => whnf); first | with_reducible refine O_step ?_ | with_reducible refine S_step ?_ | with_reducible refine D_step ?_ | with_reducible refine RO.exit ?_ | with_reducible refine RO.ret ?_ | ((with_reducible refine And.intro ?sc ?_); case sc => first | exact rfl | omega | exact Nat.le_of_ble_eq_true rfl | (dsimp only; omega) | (simp only [List.length_cons, List.length_nil, List.length_append, List.length_replicate, List.length_set, List.length_take, List.length_drop, List.length_map]; omega) | decide | (refine ⟨?_, ?_, ?_, ?_, ?_⟩ <;> first | exact rfl | omega | exact Nat.zero_le _ | exact Nat.le_refl _ | (dsimp only; omega) | simp | (simp; omega)) | (refine ⟨?_, ?_, ?_⟩ <;> first | exact rfl | omega | exact Nat.le_refl _ | (dsimp only; omega) | (simp; done) | (simp; omega))))
      intro zs hzs
      have hz : zs = e4 n L[i] := by
        rw [hzs]
        have e := e4_of h2 hxi
        rw [← hgd] at e ⊢
        exact e
      subst hz
      have he4 : (e4 n L[i]).length = 4 := rfl
      rw [if_neg (by omega), hgd] at h5
      repeat ((conv => whnf); first | with_reducible refine O_step ?_ | with_reducible refine S_step ?_ | with_reducible refine D_step ?_ | with_reducible refine RO.exit ?_ | with_reducible refine RO.ret ?_ | ((with_reducible refine And.intro ?sc ?_); case sc => first | exact rfl | omega | exact Nat.le_of_ble_eq_true rfl | (dsimp only; omega) | (simp only [List.length_cons, List.length_nil, List.length_append, List.length_replicate, List.length_set, List.length_take, List.length_drop, List.length_map]; omega) | decide | (refine ⟨?_, ?_, ?_, ?_, ?_⟩ <;> first | exact rfl | omega | exact Nat.zero_le _ | exact Nat.le_refl _ | (dsimp only; omega) | simp | (simp; omega)) | (refine ⟨?_, ?_, ?_⟩ <;> first | exact rfl | omega | exact Nat.le_refl _ | (dsimp only; omega) | (simp; done) | (simp; omega))))
      intro c2 hc2
      repeat ((conv => whnf); first | with_reducible refine O_step ?_ | with_reducible refine S_step ?_ | with_reducible refine D_step ?_ | with_reducible refine RO.exit ?_ | with_reducible refine RO.ret ?_ | ((with_reducible refine And.intro ?sc ?_); case sc => first | exact rfl | omega | exact Nat.le_of_ble_eq_true rfl | (dsimp only; omega) | (simp only [List.length_cons, List.length_nil, List.length_append, List.length_replicate, List.length_set, List.length_take, List.length_drop, List.length_map]; omega) | decide | (refine ⟨?_, ?_, ?_, ?_, ?_⟩ <;> first | exact rfl | omega | exact Nat.zero_le _ | exact Nat.le_refl _ | (dsimp only; omega) | simp | (simp; omega)) | (refine ⟨?_, ?_, ?_⟩ <;> first | exact rfl | omega | exact Nat.le_refl _ | (dsimp only; omega) | (simp; done) | (simp; omega))))
      refine RO.same (i + 1, 0, g + 1, c2, ys ++ e4 n L[i]) ⟨by omega, by decide, by simp only [List.length_append]; omega, by simp only [List.length_append]; omega, by rw [h5, List.append_assoc]⟩ (show L.length - (i + 1) < L.length - i by omega) (And.intro rfl (And.intro ?_ (And.intro rfl (And.intro ?_ trivial)))) (And.intro rfl (And.intro rfl (And.intro rfl (trivial))))
      · show AV.sl 2 (g + 1) 0 (ys.length + 4) c2 = AV.sl 2 (g + 1) 0 (ys ++ e4 n L[i]).length c2
        rw [List.length_append]; rfl
      · show AV.int .i64 ((i : Int) + 1) = AV.int .i64 ((i + 1 : Nat) : Int)
        push_cast; rfl
  · simp only [decide_eq_false_iff_not] at hc
    have hi : i = L.length := by omega
    have e : ys = encF xs := by rw [h5, hi, List.drop_length]; simp [encG]
    subst e
    repeat ((conv => whnf); first | with_reducible refine O_step ?_ | with_reducible refine S_step ?_ | with_reducible refine D_step ?_ | with_reducible refine RO.exit ?_ | with_reducible refine RO.ret ?_ | ((with_reducible refine And.intro ?sc ?_); case sc => first | exact rfl | omega | exact Nat.le_of_ble_eq_true rfl | (dsimp only; omega) | (simp only [List.length_cons, List.length_nil, List.length_append, List.length_replicate, List.length_set, List.length_take, List.length_drop, List.length_map]; omega) | decide | (refine ⟨?_, ?_, ?_, ?_, ?_⟩ <;> first | exact rfl | omega | exact Nat.zero_le _ | exact Nat.le_refl _ | (dsimp only; omega) | simp | (simp; omega)) | (refine ⟨?_, ?_, ?_⟩ <;> first | exact rfl | omega | exact Nat.le_refl _ | (dsimp only; omega) | (simp; done) | (simp; omega))))
    exact Exists.intro [AO.one false 0 (.ints .u32 xs c), AO.one true g1 (.ints .u32 L c1), AO.one true g (.ints .u8 (encF xs) cc)] (And.intro (And.intro rfl (And.intro rfl (And.intro rfl (trivial)))) (And.intro ⟨trivial, trivial, trivial, trivial⟩ (And.intro rfl ⟨g1, c1, g, cc, rfl, rfl, h3⟩)))
end Go.Proofs.Ytaioclggifdnhaa
