/- Layer 11: the laws' example. -/
import Derived.Test.YtaioclggifdnhaaRg
set_option linter.unusedVariables false
set_option linter.unusedSimpArgs false
open Go.RowKit
namespace Go.Proofs.Ytaioclggifdnhaa
set_option maxRecDepth 10000

theorem e4_bound {n : Nat} {x : Int} (hn : n < 256) (hx : 0 ≤ x ∧ x < 16777216) : ∀ y ∈ e4 n x, 0 ≤ y ∧ y < 256 := by
  intro y hy
  simp only [e4, List.mem_cons, List.not_mem_nil, or_false] at hy
  rcases hy with rfl | rfl | rfl | rfl <;> omega
theorem encG_bound : ∀ (l : List Int) (n : Nat), n < 256 → (∀ x ∈ l, 0 ≤ x ∧ x < 16777216) → ∀ y ∈ encG n l, 0 ≤ y ∧ y < 256
  | [], _, _, _ => by intro y hy; simp [encG] at hy
  | x :: l, n, hn, h => by
    intro y hy
    simp only [encG] at hy
    split at hy
    · rename_i hc
      exact encG_bound l (n + 1) (by omega) (fun z hz => h z (by simp [hz])) y hy
    · rcases List.mem_append.1 hy with hy | hy
      · exact e4_bound hn (h x (by simp)) y hy
      · exact encG_bound l 0 (by decide) (fun z hz => h z (by simp [hz])) y hy
theorem encF_bound (xs : List Int) : ∀ y ∈ encF xs, 0 ≤ y ∧ y < 256 := encG_bound _ 0 (by decide) cutL_bound

theorem tells_call {Kp} : CallA Try.prog 17 [] [] (fun r M => r = .bo true ∧ M = []) Kp := by
  refine CallA.post_sub ?_
  refine step17 (fun _ => []) [] rfl ?_
  repeat ((conv => whnf); first | with_reducible refine O_step ?_ | with_reducible refine S_step ?_ | with_reducible refine D_step ?_ | with_reducible refine RO.exit ?_ | with_reducible refine RO.ret ?_ | ((with_reducible refine And.intro ?sc ?_); case sc => first | exact rfl | omega | exact Nat.le_of_ble_eq_true rfl | (dsimp only; omega) | (simp only [List.length_cons, List.length_nil, List.length_append, List.length_replicate, List.length_set, List.length_take, List.length_drop, List.length_map]; omega) | decide | (refine ⟨?_, ?_, ?_, ?_, ?_⟩ <;> first | exact rfl | omega | exact Nat.zero_le _ | exact Nat.le_refl _ | (dsimp only; omega) | simp | (simp; omega)) | (refine ⟨?_, ?_, ?_⟩ <;> first | exact rfl | omega | exact Nat.le_refl _ | (dsimp only; omega) | (simp; done) | (simp; omega))) | ((with_reducible refine br_f ?sc ?_); case sc => first | exact rfl | decide | simp) | ((with_reducible refine br_t ?sc ?_); case sc => first | exact rfl | decide | simp))
  refine decode_at (i := 0) (b := [1, 1, 2, 3]) (n := 2) rfl rfl (by decide) (by decide) (by decide) (fun l g c hl hc => ?_) (fun e he hl => ?_)
  · obtain rfl : l = [66051, 66051] := by
      have : decF [1, 1, 2, 3] 2 = ([66051, 66051], 0) := by decide
      rw [this] at hl
      exact (congrArg Prod.fst hl).symm
    repeat ((conv => whnf); first | with_reducible refine O_step ?_ | with_reducible refine S_step ?_ | with_reducible refine D_step ?_ | with_reducible refine RO.exit ?_ | with_reducible refine RO.ret ?_ | ((with_reducible refine And.intro ?sc ?_); case sc => first | exact rfl | omega | exact Nat.le_of_ble_eq_true rfl | (dsimp only; omega) | (simp only [List.length_cons, List.length_nil, List.length_append, List.length_replicate, List.length_set, List.length_take, List.length_drop, List.length_map]; omega) | decide | (refine ⟨?_, ?_, ?_, ?_, ?_⟩ <;> first | exact rfl | omega | exact Nat.zero_le _ | exact Nat.le_refl _ | (dsimp only; omega) | simp | (simp; omega)) | (refine ⟨?_, ?_, ?_⟩ <;> first | exact rfl | omega | exact Nat.le_refl _ | (dsimp only; omega) | (simp; done) | (simp; omega))) | ((with_reducible refine br_f ?sc ?_); case sc => first | exact rfl | decide | simp) | ((with_reducible refine br_t ?sc ?_); case sc => first | exact rfl | decide | simp))
    refine encode_at (i := 9) (xs := [66051, 66051, 263430]) rfl rfl (by decide) (by decide) (fun g' c' hc' => ?_)
    rw [show encF [66051, 66051, 263430] = [1, 1, 2, 3, 0, 4, 5, 6] by decide] at hc' ⊢
    repeat ((conv => whnf); first | with_reducible refine O_step ?_ | with_reducible refine S_step ?_ | with_reducible refine D_step ?_ | with_reducible refine RO.exit ?_ | with_reducible refine RO.ret ?_ | ((with_reducible refine And.intro ?sc ?_); case sc => first | exact rfl | omega | exact Nat.le_of_ble_eq_true rfl | (dsimp only; omega) | (simp only [List.length_cons, List.length_nil, List.length_append, List.length_replicate, List.length_set, List.length_take, List.length_drop, List.length_map]; omega) | decide | (refine ⟨?_, ?_, ?_, ?_, ?_⟩ <;> first | exact rfl | omega | exact Nat.zero_le _ | exact Nat.le_refl _ | (dsimp only; omega) | simp | (simp; omega)) | (refine ⟨?_, ?_, ?_⟩ <;> first | exact rfl | omega | exact Nat.le_refl _ | (dsimp only; omega) | (simp; done) | (simp; omega))) | ((with_reducible refine br_f ?sc ?_); case sc => first | exact rfl | decide | simp) | ((with_reducible refine br_t ?sc ?_); case sc => first | exact rfl | decide | simp))
    intro ys hys
    obtain rfl : ys = [1, 1, 2, 3, 0, 4, 5, 6] := by rw [hys]; rfl
    repeat ((conv => whnf); first | with_reducible refine O_step ?_ | with_reducible refine S_step ?_ | with_reducible refine D_step ?_ | with_reducible refine RO.exit ?_ | with_reducible refine RO.ret ?_ | ((with_reducible refine And.intro ?sc ?_); case sc => first | exact rfl | omega | exact Nat.le_of_ble_eq_true rfl | (dsimp only; omega) | (simp only [List.length_cons, List.length_nil, List.length_append, List.length_replicate, List.length_set, List.length_take, List.length_drop, List.length_map]; omega) | decide | (refine ⟨?_, ?_, ?_, ?_, ?_⟩ <;> first | exact rfl | omega | exact Nat.zero_le _ | exact Nat.le_refl _ | (dsimp only; omega) | simp | (simp; omega)) | (refine ⟨?_, ?_, ?_⟩ <;> first | exact rfl | omega | exact Nat.le_refl _ | (dsimp only; omega) | (simp; done) | (simp; omega))) | ((with_reducible refine br_f ?sc ?_); case sc => first | exact rfl | decide | simp) | ((with_reducible refine br_t ?sc ?_); case sc => first | exact rfl | decide | simp))
    refine br_t (str_const _ rfl) ?_
    repeat ((conv => whnf); first | with_reducible refine O_step ?_ | with_reducible refine S_step ?_ | with_reducible refine D_step ?_ | with_reducible refine RO.exit ?_ | with_reducible refine RO.ret ?_ | ((with_reducible refine And.intro ?sc ?_); case sc => first | exact rfl | omega | exact Nat.le_of_ble_eq_true rfl | (dsimp only; omega) | (simp only [List.length_cons, List.length_nil, List.length_append, List.length_replicate, List.length_set, List.length_take, List.length_drop, List.length_map]; omega) | decide | (refine ⟨?_, ?_, ?_, ?_, ?_⟩ <;> first | exact rfl | omega | exact Nat.zero_le _ | exact Nat.le_refl _ | (dsimp only; omega) | simp | (simp; omega)) | (refine ⟨?_, ?_, ?_⟩ <;> first | exact rfl | omega | exact Nat.le_refl _ | (dsimp only; omega) | (simp; done) | (simp; omega))) | ((with_reducible refine br_f ?sc ?_); case sc => first | exact rfl | decide | simp) | ((with_reducible refine br_t ?sc ?_); case sc => first | exact rfl | decide | simp))
    exact ⟨[], subA_nil _, trivial, rfl, rfl, rfl⟩
  · exfalso
    have : decF [1, 1, 2, 3] 2 = ([66051, 66051], 0) := by decide
    rw [this] at hl
    exact he (congrArg Prod.snd hl).symm
theorem rsame_nil {M : AH} {K Kp : AV → AH → Prop} (h : K (.bo true) (M ++ [.one true 0 (.ints .u32 [] 0)])) : CallA Try.prog 16 [.ns, .ns] M K Kp := by
  refine CallA.view (Vw.nils (x := .ints .u32 [] 0) ⟨rfl, rfl⟩ (l' := [.sl M.length 0 0 0 0, .sl M.length 0 0 0 0]) (And.intro (.inr ⟨rfl, rfl⟩) (And.intro (.inr ⟨rfl, rfl⟩) trivial))) ?_
  exact rsame_at (i := M.length) (j := M.length) (o1 := true) (o2 := true) (co := 0) (co2 := 0) (xs := []) (ys := []) (by simp) (by simp) rfl rfl (by decide) (by decide) h
theorem tells_at {M : AH} {K Kp : AV → AH → Prop} (h : K (.bo true) M) : CallA Try.prog 17 [] M K Kp := by
  refine CallA.lift [] (tells_call (Kp := fun _ _ => False)) rfl rfl trivial trivial ?_ (fun _ _ h => h.elim)
  rintro r M' ⟨rfl, rfl⟩
  rw [← List.append_nil M] at h
  exact ⟨rfl, h⟩
end Go.Proofs.Ytaioclggifdnhaa
