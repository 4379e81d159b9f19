/- Layer 11: the reference's Cut and Same. -/
import Derived.Test.YtaioclggifdnhaaU0
set_option linter.unusedVariables false
set_option linter.unusedSimpArgs false
open Go.RowKit
namespace Go.Proofs.Ytaioclggifdnhaa
set_option maxRecDepth 10000

/-- The pixels' low bits. -/
def cutL (xs : List Int) : List Int := xs.map (· % 16777216)

theorem rcut_call {xs : List Int} {c0 c : Nat} (hx : xs.length ≤ 1000000000) (h0 : ∀ x ∈ xs, 0 ≤ x ∧ x < 4294967296) {Kp} :
    CallA Try.prog 20 [.sl 0 0 0 xs.length c0] [.one false 0 (.ints .u32 xs c)]
      (fun r M => ∃ g' c', r = .sl 1 g' 0 (cutL xs).length c' ∧ M = [.one false 0 (.ints .u32 xs c), .one true g' (.ints .u32 (cutL xs) c')] ∧ (cutL xs).length ≤ c') Kp := by
  refine CallA.post_sub ?_
  refine step20 (fun _ => [0]) [] rfl ?_
  repeat ((conv => whnf); first | with_reducible refine O_step ?_ | with_reducible refine S_step ?_ | with_reducible refine D_step ?_ | with_reducible refine RO.exit ?_ | with_reducible refine RO.ret ?_ | ((with_reducible refine And.intro ?sc ?_); case sc => first | exact rfl | omega | exact Nat.le_of_ble_eq_true rfl | (dsimp only; omega) | (simp only [List.length_cons, List.length_nil, List.length_append, List.length_replicate, List.length_set, List.length_take, List.length_drop, List.length_map]; omega) | decide | (refine ⟨?_, ?_, ?_, ?_, ?_⟩ <;> first | exact rfl | omega | exact Nat.zero_le _ | exact Nat.le_refl _ | (dsimp only; omega) | simp | (simp; omega)) | (refine ⟨?_, ?_, ?_⟩ <;> first | exact rfl | omega | exact Nat.le_refl _ | (dsimp only; omega) | (simp; done) | (simp; omega))))
  refine WO.gov (σ := Nat × Nat × Nat × List Int) (fun (j, g, cc, ys) => j ≤ xs.length ∧ ys.length ≤ cc ∧ ys = (cutL xs).take j) (fun (j, _, _, _) => xs.length - j)
    (fun (j, g, cc, ys) => [(0, .sl 0 0 0 xs.length c0), (3, .sl 1 g 0 ys.length cc), (4, .int .i64 j)])
    (fun (j, g, cc, ys) => [.one false 0 (.ints .u32 xs c), .one true g (.ints .u32 ys cc)]) (0, 0, 0, []) tb_ok mixed (by kernel_rfl)
    [(0, .sl 0 0 0 xs.length c0), (3, .ns), (4, .int .i64 0)] _ ⟨Nat.zero_le _, Nat.zero_le _, rfl⟩ (And.intro rfl (And.intro rfl (And.intro rfl (trivial)))) rfl (Vw.nils (x := .ints .u32 [] 0) ⟨rfl, rfl⟩ ?_) (And.intro rfl (And.intro rfl (trivial))) (fun _ => rfl) (fun _ => rfl) (fun _ => ⟨trivial, trivial, trivial⟩) ?_
  · exact And.intro (.inl rfl) (And.intro (.inr ⟨rfl, rfl⟩) (And.intro (.inl rfl) trivial))
  rintro ⟨j, g, cc, ys⟩ ⟨h1, h2, h3⟩ d
  repeat ((conv => whnf); first | with_reducible refine O_step ?_ | with_reducible refine S_step ?_ | with_reducible refine D_step ?_ | with_reducible refine RO.exit ?_ | with_reducible refine RO.ret ?_ | ((with_reducible refine And.intro ?sc ?_); case sc => first | exact rfl | omega | exact Nat.le_of_ble_eq_true rfl | (dsimp only; omega) | (simp only [List.length_cons, List.length_nil, List.length_append, List.length_replicate, List.length_set, List.length_take, List.length_drop, List.length_map]; omega) | decide | (refine ⟨?_, ?_, ?_, ?_, ?_⟩ <;> first | exact rfl | omega | exact Nat.zero_le _ | exact Nat.le_refl _ | (dsimp only; omega) | simp | (simp; omega)) | (refine ⟨?_, ?_, ?_⟩ <;> first | exact rfl | omega | exact Nat.le_refl _ | (dsimp only; omega) | (simp; done) | (simp; omega))))
  refine And.intro (fun hc => ?_) (fun hc => ?_)
  · simp only [decide_eq_true_eq] at hc
    have hj : j < xs.length := by omega
    have hxj := h0 _ (List.getElem_mem hj)
    have hgd : xs.getD ((j : Int).toNat + 0) 0 = xs[j] := by simp [List.getD_eq_getElem?_getD, hj]
    have hyl : ys.length ≤ 1000000000 := by rw [h3]; simp [cutL]; omega
    repeat ((conv => whnf); first | with_reducible refine O_step ?_ | with_reducible refine S_step ?_ | with_reducible refine D_step ?_ | with_reducible refine RO.exit ?_ | with_reducible refine RO.ret ?_ | ((with_reducible refine And.intro ?sc ?_); case sc => first | exact rfl | omega | exact Nat.le_of_ble_eq_true rfl | (dsimp only; omega) | (simp only [List.length_cons, List.length_nil, List.length_append, List.length_replicate, List.length_set, List.length_take, List.length_drop, List.length_map]; omega) | decide | (refine ⟨?_, ?_, ?_, ?_, ?_⟩ <;> first | exact rfl | omega | exact Nat.zero_le _ | exact Nat.le_refl _ | (dsimp only; omega) | simp | (simp; omega)) | (refine ⟨?_, ?_, ?_⟩ <;> first | exact rfl | omega | exact Nat.le_refl _ | (dsimp only; omega) | (simp; done) | (simp; omega))))
    intro zs hzs
    have hz : zs = [xs[j] % 16777216] := by rw [hzs, hgd, Int.tmod_eq_emod_of_nonneg hxj.1]; rfl
    subst hz
    repeat ((conv => whnf); first | with_reducible refine O_step ?_ | with_reducible refine S_step ?_ | with_reducible refine D_step ?_ | with_reducible refine RO.exit ?_ | with_reducible refine RO.ret ?_ | ((with_reducible refine And.intro ?sc ?_); case sc => first | exact rfl | omega | exact Nat.le_of_ble_eq_true rfl | (dsimp only; omega) | (simp only [List.length_cons, List.length_nil, List.length_append, List.length_replicate, List.length_set, List.length_take, List.length_drop, List.length_map]; omega) | decide | (refine ⟨?_, ?_, ?_, ?_, ?_⟩ <;> first | exact rfl | omega | exact Nat.zero_le _ | exact Nat.le_refl _ | (dsimp only; omega) | simp | (simp; omega)) | (refine ⟨?_, ?_, ?_⟩ <;> first | exact rfl | omega | exact Nat.le_refl _ | (dsimp only; omega) | (simp; done) | (simp; omega))))
    intro c1 hc1
    repeat ((conv => whnf); first | with_reducible refine O_step ?_ | with_reducible refine S_step ?_ | with_reducible refine D_step ?_ | with_reducible refine RO.exit ?_ | with_reducible refine RO.ret ?_ | ((with_reducible refine And.intro ?sc ?_); case sc => first | exact rfl | omega | exact Nat.le_of_ble_eq_true rfl | (dsimp only; omega) | (simp only [List.length_cons, List.length_nil, List.length_append, List.length_replicate, List.length_set, List.length_take, List.length_drop, List.length_map]; omega) | decide | (refine ⟨?_, ?_, ?_, ?_, ?_⟩ <;> first | exact rfl | omega | exact Nat.zero_le _ | exact Nat.le_refl _ | (dsimp only; omega) | simp | (simp; omega)) | (refine ⟨?_, ?_, ?_⟩ <;> first | exact rfl | omega | exact Nat.le_refl _ | (dsimp only; omega) | (simp; done) | (simp; omega))))
    refine RO.same (j + 1, g + 1, c1, ys ++ [xs[j] % 16777216]) ⟨by omega, by simp; omega, ?_⟩ (show xs.length - (j + 1) < xs.length - j by omega) (And.intro rfl (And.intro ?_ (And.intro ?_ trivial))) (And.intro rfl (And.intro rfl (trivial)))
    · have hjc : j < (cutL xs).length := by simpa [cutL] using hj
      rw [List.take_succ_eq_append_getElem hjc, ← h3]; simp [cutL]
    · show AV.sl 1 (g + 1) 0 (ys.length + 1) c1 = AV.sl 1 (g + 1) 0 (ys ++ [xs[j] % 16777216]).length c1
      rw [List.length_append]; rfl
    · show AV.int .i64 ((j : Int) + 1) = AV.int .i64 ((j + 1 : Nat) : Int)
      push_cast; rfl
  · simp only [decide_eq_false_iff_not] at hc
    obtain rfl : j = xs.length := by omega
    have e : ys = cutL xs := by rw [h3]; exact List.take_of_length_le (by simp [cutL])
    subst e
    repeat ((conv => whnf); first | with_reducible refine O_step ?_ | with_reducible refine S_step ?_ | with_reducible refine D_step ?_ | with_reducible refine RO.exit ?_ | with_reducible refine RO.ret ?_ | ((with_reducible refine And.intro ?sc ?_); case sc => first | exact rfl | omega | exact Nat.le_of_ble_eq_true rfl | (dsimp only; omega) | (simp only [List.length_cons, List.length_nil, List.length_append, List.length_replicate, List.length_set, List.length_take, List.length_drop, List.length_map]; omega) | decide | (refine ⟨?_, ?_, ?_, ?_, ?_⟩ <;> first | exact rfl | omega | exact Nat.zero_le _ | exact Nat.le_refl _ | (dsimp only; omega) | simp | (simp; omega)) | (refine ⟨?_, ?_, ?_⟩ <;> first | exact rfl | omega | exact Nat.le_refl _ | (dsimp only; omega) | (simp; done) | (simp; omega))))
    exact Exists.intro [AO.one false 0 (.ints .u32 xs c), AO.one true g (.ints .u32 (cutL xs) cc)] (And.intro (And.intro rfl (And.intro rfl (trivial))) (And.intro ⟨trivial, trivial, trivial⟩ (And.intro rfl ⟨g, cc, rfl, rfl, h2⟩)))
theorem rsame_call {xs ys : List Int} {c0 c1 c d : Nat} (hx : xs.length ≤ 1000000000) (hy : ys.length ≤ 1000000000) {K Kp : AV → AH → Prop} (h : K (.bo (decide (xs = ys))) [.one false 0 (.ints .u32 xs c), .one false 0 (.ints .u32 ys d)]) :
    CallA Try.prog 16 [.sl 0 0 0 xs.length c0, .sl 1 0 0 ys.length c1] [.one false 0 (.ints .u32 xs c), .one false 0 (.ints .u32 ys d)] K Kp := by
  refine walk16 (fun _ => [0, 1]) [] rfl ?_
  refine And.intro (fun h1 => ?_) (fun h1 => ?_)
  · have e : decide (xs = ys) = false := by
      simp only [Bool.not_eq_true', decide_eq_false_iff_not] at h1
      rw [decide_eq_false_iff_not]; rintro rfl; exact h1 rfl
    rw [e] at h; exact h
  · have hlen : xs.length = ys.length := by
      have : ((xs.length : Nat) : Int) = ys.length := by simpa using h1
      omega
    refine WA.loop (σ := Nat) (fun j => j ≤ xs.length ∧ xs.take j = ys.take j) (fun j => xs.length - j)
      (fun j => [(0, .sl 0 0 0 xs.length c0), (1, .sl 1 0 0 ys.length c1), (5, .int .i64 (j : Int))]) (fun _ => [.one false 0 (.ints .u32 xs c), .one false 0 (.ints .u32 ys d)]) 0 tb_ok mixed (by kernel_rfl)
      ⟨⟨Nat.zero_le _, by simp⟩, And.intro rfl (And.intro rfl (And.intro rfl trivial)), And.intro rfl (And.intro rfl trivial)⟩ (fun _ => rfl) (fun _ => rfl) (fun _ => ⟨trivial, trivial, trivial⟩) ?_
    rintro j ⟨hj, ht⟩ dd
    refine And.intro (fun hc => ?_) (fun hc => ?_)
    · simp only [decide_eq_true_eq] at hc
      repeat (refine And.intro (by first | exact rfl | omega) ?_)
      have hjx : j < xs.length := by omega
      have hjy : j < ys.length := by omega
      have hgx : xs.getD (((j : Int)).toNat + 0) 0 = xs[j] := by simp [List.getD_eq_getElem?_getD, hjx]
      have hgy : ys.getD (((j : Int)).toNat + 0) 0 = ys[j] := by simp [List.getD_eq_getElem?_getD, hjy]
      refine And.intro (fun hb => ?_) (fun hb => ?_)
      · rw [hgx, hgy] at hb
        have e : decide (xs = ys) = false := by
          rw [decide_eq_false_iff_not]; rintro rfl; simp at hb
        rw [e] at h; exact h
      · rw [hgx, hgy] at hb
        repeat (refine And.intro (by first | exact rfl | omega) ?_)
        refine Exists.intro (j + 1) (And.intro ⟨⟨by omega, ?_⟩, show xs.length - (j + 1) < xs.length - j by omega⟩ (And.intro (And.intro rfl (And.intro rfl (And.intro ?_ trivial))) (And.intro rfl (And.intro rfl trivial))))
        · rw [List.take_succ_eq_append_getElem hjx, List.take_succ_eq_append_getElem hjy, ht]
          simp at hb; rw [hb]
        · show AV.int .i64 ((j : Int) + 1) = AV.int .i64 ((j + 1 : Nat) : Int)
          push_cast; rfl
    · simp only [decide_eq_false_iff_not] at hc
      have hjn : j = xs.length := by omega
      have e : decide (xs = ys) = true := by
        rw [decide_eq_true_eq]
        rw [hjn, List.take_length, hlen, List.take_length] at ht
        exact ht
      rw [e] at h; exact h

theorem rsame_at {M : AH} {K Kp : AV → AH → Prop} {i g n c co j g2 n2 c2 co2 : Nat} {o1 o2 : Bool} {xs ys : List Int} (hi : M[i]? = some (.one o1 g (.ints .u32 xs co))) (hj : M[j]? = some (.one o2 g2 (.ints .u32 ys co2))) (hn : n = xs.length) (hn2 : n2 = ys.length) (hx : xs.length ≤ 1000000000) (hy : ys.length ≤ 1000000000)
    (h : K (.bo (decide (xs = ys))) M) : CallA Try.prog 16 [.sl i g 0 n c, .sl j g2 0 n2 c2] M K Kp := by
  subst hn; subst hn2
  refine CallA.lift [.win i g 0, .win j g2 0] (rsame_call (xs := xs) (ys := ys) (c0 := c) (c1 := c2) (c := co) (d := co2) (K := fun r M => r = .bo (decide (xs = ys)) ∧ M = [.one false 0 (.ints .u32 xs co), .one false 0 (.ints .u32 ys co2)]) (Kp := fun _ _ => False) hx hy ⟨rfl, rfl⟩) rfl rfl
    ⟨⟨_, _, _, rfl, slot_one hi, WinC.same rfl (fun h => h)⟩, ⟨_, _, _, rfl, slot_one hj, WinC.same rfl (fun h => h)⟩, trivial⟩ ⟨trivial, trivial, trivial⟩ ?_ (fun _ _ h => h.elim)
  rintro r M' ⟨rfl, rfl⟩
  refine ⟨⟨rfl, rfl, rfl⟩, ?_⟩
  rw [← List.append_nil M] at h
  exact h

theorem rcut_at {M : AH} {K Kp : AV → AH → Prop} {i g n c co : Nat} {o : Bool} {xs : List Int} (hi : M[i]? = some (.one o g (.ints .u32 xs co))) (hn : n = xs.length) (hx : xs.length ≤ 1000000000) (h0 : ∀ x ∈ xs, 0 ≤ x ∧ x < 4294967296)
    (h : ∀ g' c', (cutL xs).length ≤ c' → K (.sl M.length g' 0 (cutL xs).length c') (M ++ [.one true g' (.ints .u32 (cutL xs) c')])) : CallA Try.prog 20 [.sl i g 0 n c] M K Kp := by
  subst hn
  refine CallA.lift [.win i g 0] (rcut_call (xs := xs) (c0 := c) (c := co) (Kp := fun _ _ => False) hx h0) rfl rfl ⟨⟨_, _, _, rfl, slot_one hi, WinC.same rfl (fun h => h)⟩, trivial⟩ ⟨trivial, trivial⟩ ?_ (fun _ _ h => h.elim)
  rintro r M' ⟨g', c', rfl, rfl, hc'⟩
  exact ⟨⟨rfl, rfl⟩, h g' c' hc'⟩
end Go.Proofs.Ytaioclggifdnhaa
