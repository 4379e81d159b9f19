/- Layer 11: the reference's Decode. -/
import Derived.Test.YtaioclggifdnhaaRd
set_option linter.unusedVariables false
set_option linter.unusedSimpArgs false
open Go.RowKit
namespace Go.Proofs.Ytaioclggifdnhaa
set_option maxRecDepth 10000

theorem rdecode_call {b : List Int} {c0 c : Nat} {n : Int} (hb : b.length ≤ 1000000) (h0 : ∀ x ∈ b, 0 ≤ x ∧ x < 256) {Kp} :
    CallA Try.prog 19 [.sl 0 0 0 b.length c0, .int .i64 n] [.one false 0 (.ints .u8 b c)]
      (fun r M => (∃ l g' c', decF b n = (l, 0) ∧ r = .tup [.sl 1 g' 0 l.length c', .int .i64 0] ∧ M = [.one false 0 (.ints .u8 b c), .one true g' (.ints .u32 l c')] ∧ l.length ≤ c') ∨
        (∃ e, e ≠ 0 ∧ decF b n = ([], e) ∧ r = .tup [.ns, .int .i64 e] ∧ (M = [.one false 0 (.ints .u8 b c)] ∨ M = [.one false 0 (.ints .u8 b c), .gone]))) Kp := by
  refine CallA.post_sub ?_
  refine step19 (fun _ => [0]) [] rfl ?_
  repeat ((conv => whnf); first | with_reducible refine O_step ?_ | with_reducible refine S_step ?_ | with_reducible refine D_step ?_ | with_reducible refine RO.exit ?_ | with_reducible refine RO.ret ?_ | ((with_reducible refine And.intro ?sc ?_); case sc => first | exact rfl | omega | exact Nat.le_of_ble_eq_true rfl | (dsimp only; omega) | (simp only [List.length_cons, List.length_nil, List.length_append, List.length_replicate, List.length_set, List.length_take, List.length_drop, List.length_map]; omega) | decide | (refine ⟨?_, ?_, ?_, ?_, ?_⟩ <;> first | exact rfl | omega | exact Nat.zero_le _ | exact Nat.le_refl _ | (dsimp only; omega) | simp | (simp; omega)) | (refine ⟨?_, ?_, ?_⟩ <;> first | exact rfl | omega | exact Nat.le_refl _ | (dsimp only; omega) | (simp; done) | (simp; omega))))
  refine And.intro (fun hA => ?_) (fun hA => ?_)
  · have hA' : n < 0 := of_decide_eq_true hA
    repeat ((conv => whnf); first | with_reducible refine O_step ?_ | with_reducible refine S_step ?_ | with_reducible refine D_step ?_ | with_reducible refine RO.exit ?_ | with_reducible refine RO.ret ?_ | ((with_reducible refine And.intro ?sc ?_); case sc => first | exact rfl | omega | exact Nat.le_of_ble_eq_true rfl | (dsimp only; omega) | (simp only [List.length_cons, List.length_nil, List.length_append, List.length_replicate, List.length_set, List.length_take, List.length_drop, List.length_map]; omega) | decide | (refine ⟨?_, ?_, ?_, ?_, ?_⟩ <;> first | exact rfl | omega | exact Nat.zero_le _ | exact Nat.le_refl _ | (dsimp only; omega) | simp | (simp; omega)) | (refine ⟨?_, ?_, ?_⟩ <;> first | exact rfl | omega | exact Nat.le_refl _ | (dsimp only; omega) | (simp; done) | (simp; omega))))
    exact Exists.intro [AO.one false 0 (.ints .u8 b c)] (And.intro (And.intro rfl (trivial)) (And.intro ⟨trivial, trivial⟩ (And.intro rfl (Or.inr ⟨1, by decide, by rw [decF, if_pos (by omega)], rfl, Or.inl rfl⟩))))
  · have hA' : ¬ n < 0 := of_decide_eq_false hA
    repeat ((conv => whnf); first | with_reducible refine O_step ?_ | with_reducible refine S_step ?_ | with_reducible refine D_step ?_ | with_reducible refine RO.exit ?_ | with_reducible refine RO.ret ?_ | ((with_reducible refine And.intro ?sc ?_); case sc => first | exact rfl | omega | exact Nat.le_of_ble_eq_true rfl | (dsimp only; omega) | (simp only [List.length_cons, List.length_nil, List.length_append, List.length_replicate, List.length_set, List.length_take, List.length_drop, List.length_map]; omega) | decide | (refine ⟨?_, ?_, ?_, ?_, ?_⟩ <;> first | exact rfl | omega | exact Nat.zero_le _ | exact Nat.le_refl _ | (dsimp only; omega) | simp | (simp; omega)) | (refine ⟨?_, ?_, ?_⟩ <;> first | exact rfl | omega | exact Nat.le_refl _ | (dsimp only; omega) | (simp; done) | (simp; omega))))
    refine And.intro (fun hB => ?_) (fun hB => ?_)
    · have hB' : n > 65536 := of_decide_eq_true hB
      repeat ((conv => whnf); first | with_reducible refine O_step ?_ | with_reducible refine S_step ?_ | with_reducible refine D_step ?_ | with_reducible refine RO.exit ?_ | with_reducible refine RO.ret ?_ | ((with_reducible refine And.intro ?sc ?_); case sc => first | exact rfl | omega | exact Nat.le_of_ble_eq_true rfl | (dsimp only; omega) | (simp only [List.length_cons, List.length_nil, List.length_append, List.length_replicate, List.length_set, List.length_take, List.length_drop, List.length_map]; omega) | decide | (refine ⟨?_, ?_, ?_, ?_, ?_⟩ <;> first | exact rfl | omega | exact Nat.zero_le _ | exact Nat.le_refl _ | (dsimp only; omega) | simp | (simp; omega)) | (refine ⟨?_, ?_, ?_⟩ <;> first | exact rfl | omega | exact Nat.le_refl _ | (dsimp only; omega) | (simp; done) | (simp; omega))))
      exact Exists.intro [AO.one false 0 (.ints .u8 b c)] (And.intro (And.intro rfl (trivial)) (And.intro ⟨trivial, trivial⟩ (And.intro rfl (Or.inr ⟨1, by decide, by rw [decF, if_pos (by omega)], rfl, Or.inl rfl⟩))))
    · have hB' : ¬ n > 65536 := of_decide_eq_false hB
      obtain ⟨N, rfl⟩ : ∃ N : Nat, n = N := ⟨n.toNat, by omega⟩
      have hF : decF b N = match decG N b [] with | some l => (l, 0) | none => ([], 131) := by
        rw [decF, if_neg (by omega)]; rfl
      have bad : decG N b [] = none → decF b N = ([], 131) := fun h => by rw [hF, h]
      repeat ((conv => whnf); first | with_reducible refine O_step ?_ | with_reducible refine S_step ?_ | with_reducible refine D_step ?_ | with_reducible refine RO.exit ?_ | with_reducible refine RO.ret ?_ | ((with_reducible refine And.intro ?sc ?_); case sc => first | exact rfl | omega | exact Nat.le_of_ble_eq_true rfl | (dsimp only; omega) | (simp only [List.length_cons, List.length_nil, List.length_append, List.length_replicate, List.length_set, List.length_take, List.length_drop, List.length_map]; omega) | decide | (refine ⟨?_, ?_, ?_, ?_, ?_⟩ <;> first | exact rfl | omega | exact Nat.zero_le _ | exact Nat.le_refl _ | (dsimp only; omega) | simp | (simp; omega)) | (refine ⟨?_, ?_, ?_⟩ <;> first | exact rfl | omega | exact Nat.le_refl _ | (dsimp only; omega) | (simp; done) | (simp; omega))))
      refine WO.gov (σ := Nat × Nat × Nat × List Int) (fun (i, g, cc, ys) => i ≤ b.length ∧ ys.length ≤ cc ∧ ys.length ≤ N ∧ decG N b [] = decG N (b.drop i) ys) (fun (i, _) => b.length - i)
        (fun (i, g, cc, ys) => [(0, .sl 0 0 0 b.length c0), (1, .int .i64 N), (6, .sl 1 g 0 ys.length cc), (7, .int .i64 i)])
        (fun (i, g, cc, ys) => [.one false 0 (.ints .u8 b c), .one true g (.ints .u32 ys cc)]) (0, 0, 0, []) tb_ok mixed (by kernel_rfl)
        [(0, .sl 0 0 0 b.length c0), (1, .int .i64 N), (6, .ns), (7, .int .i64 0)] _ ⟨Nat.zero_le _, Nat.zero_le _, Nat.zero_le _, rfl⟩ (And.intro rfl (And.intro rfl (And.intro rfl (And.intro rfl (trivial))))) rfl (Vw.nils (x := .ints .u32 [] 0) ⟨rfl, rfl⟩ ?_) (And.intro rfl (And.intro rfl (trivial))) (fun _ => rfl) (fun _ => rfl) (fun _ => ⟨trivial, trivial, trivial⟩) ?_
      · exact And.intro (.inl rfl) (And.intro (.inl rfl) (And.intro (.inr ⟨rfl, rfl⟩) (And.intro (.inl rfl) trivial)))
      rintro ⟨i, g, cc, ys⟩ ⟨h1, h2, h3, h4⟩ d
      repeat ((conv => whnf); first | with_reducible refine O_step ?_ | with_reducible refine S_step ?_ | with_reducible refine D_step ?_ | with_reducible refine RO.exit ?_ | with_reducible refine RO.ret ?_ | ((with_reducible refine And.intro ?sc ?_); case sc => first | exact rfl | omega | exact Nat.le_of_ble_eq_true rfl | (dsimp only; omega) | (simp only [List.length_cons, List.length_nil, List.length_append, List.length_replicate, List.length_set, List.length_take, List.length_drop, List.length_map]; omega) | decide | (refine ⟨?_, ?_, ?_, ?_, ?_⟩ <;> first | exact rfl | omega | exact Nat.zero_le _ | exact Nat.le_refl _ | (dsimp only; omega) | simp | (simp; omega)) | (refine ⟨?_, ?_, ?_⟩ <;> first | exact rfl | omega | exact Nat.le_refl _ | (dsimp only; omega) | (simp; done) | (simp; omega))))
      refine And.intro (fun hc => ?_) (fun hc => ?_)
      · have hc' : (i : Int) < b.length := of_decide_eq_true hc
        repeat ((conv => whnf); first | with_reducible refine O_step ?_ | with_reducible refine S_step ?_ | with_reducible refine D_step ?_ | with_reducible refine RO.exit ?_ | with_reducible refine RO.ret ?_ | ((with_reducible refine And.intro ?sc ?_); case sc => first | exact rfl | omega | exact Nat.le_of_ble_eq_true rfl | (dsimp only; omega) | (simp only [List.length_cons, List.length_nil, List.length_append, List.length_replicate, List.length_set, List.length_take, List.length_drop, List.length_map]; omega) | decide | (refine ⟨?_, ?_, ?_, ?_, ?_⟩ <;> first | exact rfl | omega | exact Nat.zero_le _ | exact Nat.le_refl _ | (dsimp only; omega) | simp | (simp; omega)) | (refine ⟨?_, ?_, ?_⟩ <;> first | exact rfl | omega | exact Nat.le_refl _ | (dsimp only; omega) | (simp; done) | (simp; omega))))
        refine And.intro (fun hD => ?_) (fun hD => ?_)
        · have hD' : (b.length : Int) - i < 4 := of_decide_eq_true hD
          repeat ((conv => whnf); first | with_reducible refine O_step ?_ | with_reducible refine S_step ?_ | with_reducible refine D_step ?_ | with_reducible refine RO.exit ?_ | with_reducible refine RO.ret ?_ | ((with_reducible refine And.intro ?sc ?_); case sc => first | exact rfl | omega | exact Nat.le_of_ble_eq_true rfl | (dsimp only; omega) | (simp only [List.length_cons, List.length_nil, List.length_append, List.length_replicate, List.length_set, List.length_take, List.length_drop, List.length_map]; omega) | decide | (refine ⟨?_, ?_, ?_, ?_, ?_⟩ <;> first | exact rfl | omega | exact Nat.zero_le _ | exact Nat.le_refl _ | (dsimp only; omega) | simp | (simp; omega)) | (refine ⟨?_, ?_, ?_⟩ <;> first | exact rfl | omega | exact Nat.le_refl _ | (dsimp only; omega) | (simp; done) | (simp; omega))))
          exact Exists.intro [AO.one false 0 (.ints .u8 b c), .gone] (And.intro (And.intro rfl (And.intro trivial trivial)) (And.intro ⟨trivial, trivial, trivial⟩ (And.intro rfl (Or.inr ⟨131, by decide, bad (by rw [h4, decG_short (by simp; omega) (by simp; omega)]), rfl, Or.inr rfl⟩))))
        · have hD' : ¬ (b.length : Int) - i < 4 := of_decide_eq_false hD
          have hs := decG_step (n := N) (b := b) (out := ys) (i := i) (by omega)
          obtain ⟨X, hX⟩ : ∃ X, X = b.getD (i + 1) 0 * 65536 + b.getD (i + 2) 0 * 256 + b.getD (i + 3) 0 := ⟨_, rfl⟩
          rw [← hX] at hs
          have gb : ∀ k, k < b.length → 0 ≤ b.getD k 0 ∧ b.getD k 0 < 256 := fun k hk => by
            have e : b.getD k 0 = b[k] := by simp [List.getD_eq_getElem?_getD, hk]
            rw [e]; exact h0 _ (List.getElem_mem hk)
          have v0 := gb i (by omega)
          have v1 := gb (i + 1) (by omega)
          have v2 := gb (i + 2) (by omega)
          have v3 := gb (i + 3) (by omega)
          have w0 : 0 ≤ b.getD ((i : Int).toNat + 0) 0 ∧ b.getD ((i : Int).toNat + 0) 0 < 256 := v0
          have w1 : 0 ≤ b.getD (((i : Int) + 1).toNat + 0) 0 ∧ b.getD (((i : Int) + 1).toNat + 0) 0 < 256 := v1
          have w2 : 0 ≤ b.getD (((i : Int) + 2).toNat + 0) 0 ∧ b.getD (((i : Int) + 2).toNat + 0) 0 < 256 := v2
          have w3 : 0 ≤ b.getD (((i : Int) + 3).toNat + 0) 0 ∧ b.getD (((i : Int) + 3).toNat + 0) 0 < 256 := v3
          repeat ((conv => whnf); first | with_reducible refine O_step ?_ | with_reducible refine S_step ?_ | with_reducible refine D_step ?_ | with_reducible refine RO.exit ?_ | with_reducible refine RO.ret ?_ | ((with_reducible refine And.intro ?sc ?_); case sc => first | exact rfl | omega | exact Nat.le_of_ble_eq_true rfl | (dsimp only; omega) | (simp only [List.length_cons, List.length_nil, List.length_append, List.length_replicate, List.length_set, List.length_take, List.length_drop, List.length_map]; omega) | decide | (refine ⟨?_, ?_, ?_, ?_, ?_⟩ <;> first | exact rfl | omega | exact Nat.zero_le _ | exact Nat.le_refl _ | (dsimp only; omega) | simp | (simp; omega)) | (refine ⟨?_, ?_, ?_⟩ <;> first | exact rfl | omega | exact Nat.le_refl _ | (dsimp only; omega) | (simp; done) | (simp; omega))))
          refine WO.go (σ := Nat × Nat × Nat × List Int) (fun (k, g2, cc2, zs) => (k : Int) ≤ b.getD i 0 + 1 ∧ zs.length ≤ cc2 ∧ zs.length ≤ N ∧ zs = ys ++ List.replicate k X) (fun (k, _) => (b.getD i 0).toNat + 1 - k)
            (fun (k, g2, cc2, zs) => [(0, .sl 0 0 0 b.length c0), (1, .int .i64 N), (6, .sl 1 g2 0 zs.length cc2), (7, .int .i64 i), (8, .int .i64 k)])
            (fun (k, g2, cc2, zs) => [.one false 0 (.ints .u8 b c), .one true g2 (.ints .u32 zs cc2)]) (0, g, cc, ys) tb_ok mixed (by kernel_rfl)
            ⟨by omega, h2, h3, by simp⟩ (And.intro rfl (And.intro rfl (And.intro rfl (And.intro rfl (And.intro rfl (trivial)))))) (And.intro rfl (And.intro rfl (trivial))) (fun _ => rfl) (fun _ => rfl) (fun _ => ⟨trivial, trivial, trivial⟩) ?_
          rintro ⟨k, g2, cc2, zs⟩ ⟨k1, k2, k3, k4⟩ d2
          have kl : zs.length = ys.length + k := by rw [k4]; simp
          repeat ((conv => whnf); first | with_reducible refine O_step ?_ | with_reducible refine S_step ?_ | with_reducible refine D_step ?_ | with_reducible refine RO.exit ?_ | with_reducible refine RO.ret ?_ | ((with_reducible refine And.intro ?sc ?_); case sc => first | exact rfl | omega | exact Nat.le_of_ble_eq_true rfl | (dsimp only; omega) | (simp only [List.length_cons, List.length_nil, List.length_append, List.length_replicate, List.length_set, List.length_take, List.length_drop, List.length_map]; omega) | decide | (refine ⟨?_, ?_, ?_, ?_, ?_⟩ <;> first | exact rfl | omega | exact Nat.zero_le _ | exact Nat.le_refl _ | (dsimp only; omega) | simp | (simp; omega)) | (refine ⟨?_, ?_, ?_⟩ <;> first | exact rfl | omega | exact Nat.le_refl _ | (dsimp only; omega) | (simp; done) | (simp; omega))))
          refine And.intro (fun hE => ?_) (fun hE => ?_)
          · have hE' : (k : Int) ≤ b.getD i 0 := of_decide_eq_true hE
            repeat ((conv => whnf); first | with_reducible refine O_step ?_ | with_reducible refine S_step ?_ | with_reducible refine D_step ?_ | with_reducible refine RO.exit ?_ | with_reducible refine RO.ret ?_ | ((with_reducible refine And.intro ?sc ?_); case sc => first | exact rfl | omega | exact Nat.le_of_ble_eq_true rfl | (dsimp only; omega) | (simp only [List.length_cons, List.length_nil, List.length_append, List.length_replicate, List.length_set, List.length_take, List.length_drop, List.length_map]; omega) | decide | (refine ⟨?_, ?_, ?_, ?_, ?_⟩ <;> first | exact rfl | omega | exact Nat.zero_le _ | exact Nat.le_refl _ | (dsimp only; omega) | simp | (simp; omega)) | (refine ⟨?_, ?_, ?_⟩ <;> first | exact rfl | omega | exact Nat.le_refl _ | (dsimp only; omega) | (simp; done) | (simp; omega))))
            refine And.intro (fun hG => ?_) (fun hG => ?_)
            · have hG' : (zs.length : Int) = N := of_decide_eq_true hG
              repeat ((conv => whnf); first | with_reducible refine O_step ?_ | with_reducible refine S_step ?_ | with_reducible refine D_step ?_ | with_reducible refine RO.exit ?_ | with_reducible refine RO.ret ?_ | ((with_reducible refine And.intro ?sc ?_); case sc => first | exact rfl | omega | exact Nat.le_of_ble_eq_true rfl | (dsimp only; omega) | (simp only [List.length_cons, List.length_nil, List.length_append, List.length_replicate, List.length_set, List.length_take, List.length_drop, List.length_map]; omega) | decide | (refine ⟨?_, ?_, ?_, ?_, ?_⟩ <;> first | exact rfl | omega | exact Nat.zero_le _ | exact Nat.le_refl _ | (dsimp only; omega) | simp | (simp; omega)) | (refine ⟨?_, ?_, ?_⟩ <;> first | exact rfl | omega | exact Nat.le_refl _ | (dsimp only; omega) | (simp; done) | (simp; omega))))
              exact Exists.intro [AO.one false 0 (.ints .u8 b c), .gone] (And.intro (And.intro rfl (And.intro trivial trivial)) (And.intro ⟨trivial, trivial, trivial⟩ (And.intro rfl (Or.inr ⟨131, by decide, bad (by rw [h4, hs, if_neg (by omega)]), rfl, Or.inr rfl⟩))))
            · have hG' : ¬ (zs.length : Int) = N := of_decide_eq_false hG
              repeat ((conv => whnf); first | with_reducible refine O_step ?_ | with_reducible refine S_step ?_ | with_reducible refine D_step ?_ | with_reducible refine RO.exit ?_ | with_reducible refine RO.ret ?_ | ((with_reducible refine And.intro ?sc ?_); case sc => first | exact rfl | omega | exact Nat.le_of_ble_eq_true rfl | (dsimp only; omega) | (simp only [List.length_cons, List.length_nil, List.length_append, List.length_replicate, List.length_set, List.length_take, List.length_drop, List.length_map]; omega) | decide | (refine ⟨?_, ?_, ?_, ?_, ?_⟩ <;> first | exact rfl | omega | exact Nat.zero_le _ | exact Nat.le_refl _ | (dsimp only; omega) | simp | (simp; omega)) | (refine ⟨?_, ?_, ?_⟩ <;> first | exact rfl | omega | exact Nat.le_refl _ | (dsimp only; omega) | (simp; done) | (simp; omega))))
              intro ws hws
              have hw : ws = [X] := by
                rw [hws, hX]
                have e : ((b.getD (i + 1) 0 % 4294967296 * 65536 % 4294967296 + b.getD (i + 2) 0 % 4294967296 * 256 % 4294967296) % 4294967296 + b.getD (i + 3) 0 % 4294967296) % 4294967296 = b.getD (i + 1) 0 * 65536 + b.getD (i + 2) 0 * 256 + b.getD (i + 3) 0 := by omega
                exact congrArg (fun z => [z]) e
              subst hw
              repeat ((conv => whnf); first | with_reducible refine O_step ?_ | with_reducible refine S_step ?_ | with_reducible refine D_step ?_ | with_reducible refine RO.exit ?_ | with_reducible refine RO.ret ?_ | ((with_reducible refine And.intro ?sc ?_); case sc => first | exact rfl | omega | exact Nat.le_of_ble_eq_true rfl | (dsimp only; omega) | (simp only [List.length_cons, List.length_nil, List.length_append, List.length_replicate, List.length_set, List.length_take, List.length_drop, List.length_map]; omega) | decide | (refine ⟨?_, ?_, ?_, ?_, ?_⟩ <;> first | exact rfl | omega | exact Nat.zero_le _ | exact Nat.le_refl _ | (dsimp only; omega) | simp | (simp; omega)) | (refine ⟨?_, ?_, ?_⟩ <;> first | exact rfl | omega | exact Nat.le_refl _ | (dsimp only; omega) | (simp; done) | (simp; omega))))
              intro c2 hc2
              repeat ((conv => whnf); first | with_reducible refine O_step ?_ | with_reducible refine S_step ?_ | with_reducible refine D_step ?_ | with_reducible refine RO.exit ?_ | with_reducible refine RO.ret ?_ | ((with_reducible refine And.intro ?sc ?_); case sc => first | exact rfl | omega | exact Nat.le_of_ble_eq_true rfl | (dsimp only; omega) | (simp only [List.length_cons, List.length_nil, List.length_append, List.length_replicate, List.length_set, List.length_take, List.length_drop, List.length_map]; omega) | decide | (refine ⟨?_, ?_, ?_, ?_, ?_⟩ <;> first | exact rfl | omega | exact Nat.zero_le _ | exact Nat.le_refl _ | (dsimp only; omega) | simp | (simp; omega)) | (refine ⟨?_, ?_, ?_⟩ <;> first | exact rfl | omega | exact Nat.le_refl _ | (dsimp only; omega) | (simp; done) | (simp; omega))))
              refine RO.same (k + 1, g2 + 1, c2, zs ++ [X]) ⟨by omega, by simp only [List.length_append]; exact hc2, by simp only [List.length_append, List.length_singleton]; omega, by rw [k4, List.replicate_succ', List.append_assoc]⟩ (show (b.getD i 0).toNat + 1 - (k + 1) < (b.getD i 0).toNat + 1 - k by omega) (And.intro rfl (And.intro rfl (And.intro ?_ (And.intro rfl (And.intro ?_ trivial))))) (And.intro rfl (And.intro rfl (trivial)))
              · show AV.sl 1 (g2 + 1) 0 (zs.length + 1) c2 = AV.sl 1 (g2 + 1) 0 (zs ++ [X]).length c2
                rw [List.length_append]; rfl
              · show AV.int .i64 ((k : Int) + 1) = AV.int .i64 ((k + 1 : Nat) : Int)
                push_cast; rfl
          · have hE' : ¬ (k : Int) ≤ b.getD i 0 := of_decide_eq_false hE
            have hk : k = (b.getD i 0).toNat + 1 := by omega
            rw [if_pos (by omega), ← hk, ← k4] at hs
            repeat ((conv => whnf); first | with_reducible refine O_step ?_ | with_reducible refine S_step ?_ | with_reducible refine D_step ?_ | with_reducible refine RO.exit ?_ | with_reducible refine RO.ret ?_ | ((with_reducible refine And.intro ?sc ?_); case sc => first | exact rfl | omega | exact Nat.le_of_ble_eq_true rfl | (dsimp only; omega) | (simp only [List.length_cons, List.length_nil, List.length_append, List.length_replicate, List.length_set, List.length_take, List.length_drop, List.length_map]; omega) | decide | (refine ⟨?_, ?_, ?_, ?_, ?_⟩ <;> first | exact rfl | omega | exact Nat.zero_le _ | exact Nat.le_refl _ | (dsimp only; omega) | simp | (simp; omega)) | (refine ⟨?_, ?_, ?_⟩ <;> first | exact rfl | omega | exact Nat.le_refl _ | (dsimp only; omega) | (simp; done) | (simp; omega))))
            refine RO.same (i + 4, g2, cc2, zs) ⟨by omega, k2, k3, by rw [h4, hs]⟩ (show b.length - (i + 4) < b.length - i by omega) (And.intro rfl (And.intro rfl (And.intro rfl (And.intro ?_ trivial)))) (And.intro rfl (And.intro rfl (trivial)))
            show AV.int .i64 ((i : Int) + 4) = AV.int .i64 ((i + 4 : Nat) : Int)
            push_cast; rfl
      · have hc' : ¬ (i : Int) < b.length := of_decide_eq_false hc
        obtain rfl : i = b.length := by omega
        rw [List.drop_length] at h4
        simp only [decG] at h4
        repeat ((conv => whnf); first | with_reducible refine O_step ?_ | with_reducible refine S_step ?_ | with_reducible refine D_step ?_ | with_reducible refine RO.exit ?_ | with_reducible refine RO.ret ?_ | ((with_reducible refine And.intro ?sc ?_); case sc => first | exact rfl | omega | exact Nat.le_of_ble_eq_true rfl | (dsimp only; omega) | (simp only [List.length_cons, List.length_nil, List.length_append, List.length_replicate, List.length_set, List.length_take, List.length_drop, List.length_map]; omega) | decide | (refine ⟨?_, ?_, ?_, ?_, ?_⟩ <;> first | exact rfl | omega | exact Nat.zero_le _ | exact Nat.le_refl _ | (dsimp only; omega) | simp | (simp; omega)) | (refine ⟨?_, ?_, ?_⟩ <;> first | exact rfl | omega | exact Nat.le_refl _ | (dsimp only; omega) | (simp; done) | (simp; omega))))
        refine And.intro (fun hD => ?_) (fun hD => ?_)
        · have hD' : ¬ ys.length = N := by have := hD; simp only [Bool.not_eq_true', Bool.not_eq_false', decide_eq_true_eq, decide_eq_false_iff_not] at this; omega
          rw [if_neg hD'] at h4
          repeat ((conv => whnf); first | with_reducible refine O_step ?_ | with_reducible refine S_step ?_ | with_reducible refine D_step ?_ | with_reducible refine RO.exit ?_ | with_reducible refine RO.ret ?_ | ((with_reducible refine And.intro ?sc ?_); case sc => first | exact rfl | omega | exact Nat.le_of_ble_eq_true rfl | (dsimp only; omega) | (simp only [List.length_cons, List.length_nil, List.length_append, List.length_replicate, List.length_set, List.length_take, List.length_drop, List.length_map]; omega) | decide | (refine ⟨?_, ?_, ?_, ?_, ?_⟩ <;> first | exact rfl | omega | exact Nat.zero_le _ | exact Nat.le_refl _ | (dsimp only; omega) | simp | (simp; omega)) | (refine ⟨?_, ?_, ?_⟩ <;> first | exact rfl | omega | exact Nat.le_refl _ | (dsimp only; omega) | (simp; done) | (simp; omega))))
          exact Exists.intro [AO.one false 0 (.ints .u8 b c), .gone] (And.intro (And.intro rfl (And.intro trivial trivial)) (And.intro ⟨trivial, trivial, trivial⟩ (And.intro rfl (Or.inr ⟨131, by decide, bad h4, rfl, Or.inr rfl⟩))))
        · have hD' : ys.length = N := by have := hD; simp only [Bool.not_eq_true', Bool.not_eq_false', decide_eq_true_eq, decide_eq_false_iff_not] at this; omega
          rw [if_pos hD'] at h4
          repeat ((conv => whnf); first | with_reducible refine O_step ?_ | with_reducible refine S_step ?_ | with_reducible refine D_step ?_ | with_reducible refine RO.exit ?_ | with_reducible refine RO.ret ?_ | ((with_reducible refine And.intro ?sc ?_); case sc => first | exact rfl | omega | exact Nat.le_of_ble_eq_true rfl | (dsimp only; omega) | (simp only [List.length_cons, List.length_nil, List.length_append, List.length_replicate, List.length_set, List.length_take, List.length_drop, List.length_map]; omega) | decide | (refine ⟨?_, ?_, ?_, ?_, ?_⟩ <;> first | exact rfl | omega | exact Nat.zero_le _ | exact Nat.le_refl _ | (dsimp only; omega) | simp | (simp; omega)) | (refine ⟨?_, ?_, ?_⟩ <;> first | exact rfl | omega | exact Nat.le_refl _ | (dsimp only; omega) | (simp; done) | (simp; omega))))
          exact Exists.intro [AO.one false 0 (.ints .u8 b c), .one true g (.ints .u32 ys cc)] (And.intro (And.intro rfl (And.intro rfl (trivial))) (And.intro ⟨trivial, trivial, trivial⟩ (And.intro rfl (Or.inl ⟨ys, g, cc, by rw [hF, h4], rfl, rfl, h2⟩))))

theorem rdecode_at {M : AH} {K Kp : AV → AH → Prop} {i g m c co : Nat} {o : Bool} {b : List Int} {n : Int} (hi : M[i]? = some (.one o g (.ints .u8 b co))) (hm : m = b.length) (hb : b.length ≤ 1000000) (h0 : ∀ x ∈ b, 0 ≤ x ∧ x < 256)
    (h : ∀ l g' c', decF b n = (l, 0) → l.length ≤ c' → K (.tup [.sl M.length g' 0 l.length c', .int .i64 0]) (M ++ [.one true g' (.ints .u32 l c')]))
    (h1 : ∀ e, e ≠ 0 → decF b n = ([], e) → K (.tup [.ns, .int .i64 e]) M) : CallA Try.prog 19 [.sl i g 0 m c, .int .i64 n] M K Kp := by
  subst hm
  have hc : CallA Try.prog 19 [.sl 0 0 0 b.length c, .int .i64 n] [.one false 0 (.ints .u8 b co)]
      (fun r M => (∃ l g' c', decF b n = (l, 0) ∧ r = .tup [.sl 1 g' 0 l.length c', .int .i64 0] ∧ M = [.one false 0 (.ints .u8 b co), .one true g' (.ints .u32 l c')] ∧ l.length ≤ c') ∨
        (∃ e, e ≠ 0 ∧ decF b n = ([], e) ∧ r = .tup [.ns, .int .i64 e] ∧ M = [.one false 0 (.ints .u8 b co)])) (fun _ _ => False) := by
    refine CallA.post_sub ((rdecode_call hb h0).mono ?_ (fun _ _ h => h))
    rintro r M' (⟨l, g', c', h2, rfl, rfl, h3⟩ | ⟨e, he, h2, rfl, rfl | rfl⟩)
    · exact ⟨_, subA_refl _, ⟨trivial, trivial, trivial⟩, rfl, Or.inl ⟨l, g', c', h2, rfl, rfl, h3⟩⟩
    · exact ⟨_, subA_refl _, ⟨trivial, trivial⟩, rfl, Or.inr ⟨e, he, h2, rfl, rfl⟩⟩
    · exact ⟨[.one false 0 (.ints .u8 b co)], ⟨rfl, subA_nil _⟩, ⟨trivial, trivial⟩, rfl, Or.inr ⟨e, he, h2, rfl, rfl⟩⟩
  refine CallA.lift [.win i g 0] hc rfl rfl ⟨⟨_, _, _, rfl, slot_one hi, WinC.same rfl (fun h => h)⟩, trivial⟩ ⟨trivial, trivial⟩ ?_ (fun _ _ h => h.elim)
  rintro r M' (⟨l, g', c', h2, rfl, rfl, h3⟩ | ⟨e, he, h2, rfl, rfl⟩)
  · exact ⟨⟨rfl, rfl⟩, h l g' c' h2 h3⟩
  · refine ⟨⟨rfl, rfl⟩, ?_⟩
    have := h1 e he h2
    rw [← List.append_nil M] at this
    exact this
end Go.Proofs.Ytaioclggifdnhaa
