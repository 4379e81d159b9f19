/- The law BitsWrites, walked. -/
import Derived.Test.YthbmddaemdcamaaBv
set_option linter.unusedVariables false
set_option linter.unusedSimpArgs false
open Go.RowKit
namespace Go.Proofs.Ythbmddaemdcamaa
set_option maxRecDepth 10000

set_option maxHeartbeats 4000000 in
theorem bitsWrites_f (n : Nat) (f : Nat → Int × Int × Bool) (c : Nat) (hc : n ≤ c ∧ c ≤ 9223372036854775807) (hf : ActsOK f n) :
    CallA Try.prog 4 [.sl 0 0 0 n c] [.one false 0 (.tab 3 n (actG f) c)] (fun r _ => r = .bo true) (fun _ _ => False) := by
  refine step4 (fun _ => [0]) [] rfl ?_
  repeat ((conv => whnf); first | with_reducible refine O_step ?_ | with_reducible refine S_step ?_ | with_reducible refine D_step ?_ | with_reducible refine RO.exit ?_ | with_reducible refine RO.ret ?_ | (with_reducible refine And.intro ?sc ?_; case sc => first | exact rfl | omega | exact Nat.le_of_ble_eq_true rfl | (dsimp only; omega)))
  refine And.intro (fun h => ?_) (fun h => ?_)
  · repeat ((conv => whnf); first | with_reducible refine O_step ?_ | with_reducible refine S_step ?_ | with_reducible refine D_step ?_ | with_reducible refine RO.exit ?_ | with_reducible refine RO.ret ?_ | (with_reducible refine And.intro ?sc ?_; case sc => first | exact rfl | omega | exact Nat.le_of_ble_eq_true rfl | (dsimp only; omega)))
    exact rfl
  repeat ((conv => whnf); first | with_reducible refine O_step ?_ | with_reducible refine S_step ?_ | with_reducible refine D_step ?_ | with_reducible refine RO.exit ?_ | with_reducible refine RO.ret ?_ | (with_reducible refine And.intro ?sc ?_; case sc => first | exact rfl | omega | exact Nat.le_of_ble_eq_true rfl | (dsimp only; omega)))
  simp only [decide_eq_false_iff_not] at h
  refine WO.loop (σ := Nat × Nat × Nat × Nat × Nat × List Bool) (fun (i, gw, cw, gr, cr, row) => i ≤ n ∧ (packF row).length ≤ cw ∧ row.length ≤ cr ∧ row.length ≤ 8388608) (fun (i, _) => n - i)
    (fun (i, gw, cw, gr, cr, row) => [(0, .sl 0 0 0 n c), (3, .ptr 1 0 0), (4, .sl 3 gr 0 row.length cr), (5, .int .i64 i)])
    (fun (i, gw, cw, gr, cr, row) => [.one false 0 (.tab 3 n (actG f) c), wo 2 gw cw row, wb gw cw row, .one true gr (.bools row cr)]) (0, 0, 0, 0, 0, []) tb_ok mixed (by kernel_rfl)
    ?_ (fun _ => rfl) (fun _ => rfl) (fun _ => ⟨fun j => rfl, rfl, trivial, trivial, trivial⟩) ?_
  · refine ⟨[(0, .sl 0 0 0 n c), (3, .ptr 1 0 0), (4, .ns), (5, .int .i64 0)], _, ⟨Nat.zero_le _, Nat.le_refl _, Nat.le_refl _, Nat.zero_le _⟩, And.intro rfl (And.intro rfl (And.intro rfl (And.intro rfl trivial))), rfl,
      Vw.trans (Vw.writer (i := 1) rfl) (Vw.nils (x := .bools [] 0) ⟨rfl, rfl⟩ (And.intro (.inl rfl) (And.intro (.inl rfl) (And.intro (.inr ⟨rfl, rfl⟩) (And.intro (.inl rfl) trivial))))), And.intro rfl (And.intro rfl (And.intro rfl (And.intro rfl trivial)))⟩
  rintro ⟨i, gw, cw, gr, cr, row⟩ ⟨h1, h2, h3, h4⟩ d
  repeat ((conv => whnf); first | with_reducible refine O_step ?_ | with_reducible refine S_step ?_ | with_reducible refine D_step ?_ | with_reducible refine RO.exit ?_ | with_reducible refine RO.ret ?_ | (with_reducible refine And.intro ?sc ?_; case sc => first | exact rfl | omega | exact Nat.le_of_ble_eq_true rfl | (dsimp only; omega)))
  refine And.intro (fun hc => ?_) (fun hc => ?_)
  · simp only [decide_eq_true_eq] at hc
    have hin : i < n := by omega
    have hfi := hf i hin
    repeat ((conv => whnf); first | with_reducible refine O_step ?_ | with_reducible refine S_step ?_ | with_reducible refine D_step ?_ | with_reducible refine RO.exit ?_ | with_reducible refine RO.ret ?_ | (with_reducible refine And.intro ?sc ?_; case sc => first | exact rfl | omega | exact Nat.le_of_ble_eq_true rfl | (dsimp only; omega)))
    refine And.intro (fun hb => ?_) (fun hb => ?_)
    · repeat ((conv => whnf); first | with_reducible refine O_step ?_ | with_reducible refine S_step ?_ | with_reducible refine D_step ?_ | with_reducible refine RO.exit ?_ | with_reducible refine RO.ret ?_ | (with_reducible refine And.intro ?sc ?_; case sc => first | exact rfl | omega | exact Nat.le_of_ble_eq_true rfl | (dsimp only; omega)))
      refine ralignrow_at (i := 3) (row := row) rfl rfl (by omega) fun g1 c1 hc1 => ?_
      repeat ((conv => whnf); first | with_reducible refine O_step ?_ | with_reducible refine S_step ?_ | with_reducible refine D_step ?_ | with_reducible refine RO.exit ?_ | with_reducible refine RO.ret ?_ | (with_reducible refine And.intro ?sc ?_; case sc => first | exact rfl | omega | exact Nat.le_of_ble_eq_true rfl | (dsimp only; omega)))
      refine align_at (i := 1) (j := 2) (row := row) rfl rfl rfl h4 h2 fun g2 c2 hc2 hl2 => ?_
      repeat ((conv => whnf); first | with_reducible refine O_step ?_ | with_reducible refine S_step ?_ | with_reducible refine D_step ?_ | with_reducible refine RO.exit ?_ | with_reducible refine RO.ret ?_ | (with_reducible refine And.intro ?sc ?_; case sc => first | exact rfl | omega | exact Nat.le_of_ble_eq_true rfl | (dsimp only; omega)))
      refine And.intro (fun hh => absurd hh (by decide)) (fun _ => ?_)
      repeat ((conv => whnf); first | with_reducible refine O_step ?_ | with_reducible refine S_step ?_ | with_reducible refine D_step ?_ | with_reducible refine RO.exit ?_ | with_reducible refine RO.ret ?_ | (with_reducible refine And.intro ?sc ?_; case sc => first | exact rfl | omega | exact Nat.le_of_ble_eq_true rfl | (dsimp only; omega)))
      refine len_at (i := 1) (j := 2) (row := (alignF row)) rfl rfl rfl hl2 ?_
      repeat ((conv => whnf); first | with_reducible refine O_step ?_ | with_reducible refine S_step ?_ | with_reducible refine D_step ?_ | with_reducible refine RO.exit ?_ | with_reducible refine RO.ret ?_ | (with_reducible refine And.intro ?sc ?_; case sc => first | exact rfl | omega | exact Nat.le_of_ble_eq_true rfl | (dsimp only; omega)))
      refine And.intro (fun hh => absurd hh (by simp)) (fun _ => ?_)
      repeat ((conv => whnf); first | with_reducible refine O_step ?_ | with_reducible refine S_step ?_ | with_reducible refine D_step ?_ | with_reducible refine RO.exit ?_ | with_reducible refine RO.ret ?_ | (with_reducible refine And.intro ?sc ?_; case sc => first | exact rfl | omega | exact Nat.le_of_ble_eq_true rfl | (dsimp only; omega)))
      refine bytes_at (i := 1) (j := 2) (row := (alignF row)) rfl rfl rfl hl2 hc2 fun g8 c8 hc8 => ?_
      repeat ((conv => whnf); first | with_reducible refine O_step ?_ | with_reducible refine S_step ?_ | with_reducible refine D_step ?_ | with_reducible refine RO.exit ?_ | with_reducible refine RO.ret ?_ | (with_reducible refine And.intro ?sc ?_; case sc => first | exact rfl | omega | exact Nat.le_of_ble_eq_true rfl | (dsimp only; omega)))
      refine rbytes_at (i := 4) (row := (alignF row)) rfl rfl (by omega) ⟨hc1, Nat.le_refl _⟩ fun g9 c9 hc9 => ?_
      repeat ((conv => whnf); first | with_reducible refine O_step ?_ | with_reducible refine S_step ?_ | with_reducible refine D_step ?_ | with_reducible refine RO.exit ?_ | with_reducible refine RO.ret ?_ | (with_reducible refine And.intro ?sc ?_; case sc => first | exact rfl | omega | exact Nat.le_of_ble_eq_true rfl | (dsimp only; omega)))
      refine same_at (i := 5) (j := 6) (xs := bytesF (alignF row)) (ys := bytesF (alignF row)) rfl rfl rfl rfl (by rw [bytesF_length]; omega) (by rw [bytesF_length]; omega) ?_
      repeat ((conv => whnf); first | with_reducible refine O_step ?_ | with_reducible refine S_step ?_ | with_reducible refine D_step ?_ | with_reducible refine RO.exit ?_ | with_reducible refine RO.ret ?_ | (with_reducible refine And.intro ?sc ?_; case sc => first | exact rfl | omega | exact Nat.le_of_ble_eq_true rfl | (dsimp only; omega)))
      refine And.intro (fun hh => absurd hh (by simp)) (fun _ => ?_)
      repeat ((conv => whnf); first | with_reducible refine O_step ?_ | with_reducible refine S_step ?_ | with_reducible refine D_step ?_ | with_reducible refine RO.exit ?_ | with_reducible refine RO.ret ?_ | (with_reducible refine And.intro ?sc ?_; case sc => first | exact rfl | omega | exact Nat.le_of_ble_eq_true rfl | (dsimp only; omega)))
      refine RO.mk (i + 1, g2, c2, gr + 1, c1, (alignF row)) [(0, .sl 0 0 0 n c), (3, .ptr 1 0 0), (4, .sl 4 g1 0 (alignF row).length c1), (5, .int .i64 ((i : Int) + 1))] _ ⟨by omega, hc2, hc1, hl2⟩ (show n - (i + 1) < n - i by omega) ?_ rfl (Vw.move (i := 3) (k := 4) rfl rfl rfl ?_) ?_
      · exact And.intro rfl (And.intro rfl (And.intro rfl (And.intro rfl trivial)))
      · exact And.intro mvV.same (And.intro mvV.same (And.intro mvV.sl (And.intro (.inl rfl) trivial)))
      · exact And.intro rfl (And.intro rfl (And.intro rfl (And.intro rfl trivial)))
    · repeat ((conv => whnf); first | with_reducible refine O_step ?_ | with_reducible refine S_step ?_ | with_reducible refine D_step ?_ | with_reducible refine RO.exit ?_ | with_reducible refine RO.ret ?_ | (with_reducible refine And.intro ?sc ?_; case sc => first | exact rfl | omega | exact Nat.le_of_ble_eq_true rfl | (dsimp only; omega)))
      refine rput_at (i := 3) (row := row) rfl rfl ⟨hfi.1, hfi.2.1⟩ h4 (fun e he hne => ?_) (fun row' g1 c1 he hc1 hl1 => ?_)
      · repeat ((conv => whnf); first | with_reducible refine O_step ?_ | with_reducible refine S_step ?_ | with_reducible refine D_step ?_ | with_reducible refine RO.exit ?_ | with_reducible refine RO.ret ?_ | (with_reducible refine And.intro ?sc ?_; case sc => first | exact rfl | omega | exact Nat.le_of_ble_eq_true rfl | (dsimp only; omega)))
        refine put_at (i := 1) (j := 2) (row := row) rfl rfl rfl hfi.1 h4 h2 he fun g2 c2 hc2 hl2 => ?_
        repeat ((conv => whnf); first | with_reducible refine O_step ?_ | with_reducible refine S_step ?_ | with_reducible refine D_step ?_ | with_reducible refine RO.exit ?_ | with_reducible refine RO.ret ?_ | (with_reducible refine And.intro ?sc ?_; case sc => first | exact rfl | omega | exact Nat.le_of_ble_eq_true rfl | (dsimp only; omega)))
        refine And.intro (fun hh => absurd hh (by simp)) (fun _ => ?_)
        repeat ((conv => whnf); first | with_reducible refine O_step ?_ | with_reducible refine S_step ?_ | with_reducible refine D_step ?_ | with_reducible refine RO.exit ?_ | with_reducible refine RO.ret ?_ | (with_reducible refine And.intro ?sc ?_; case sc => first | exact rfl | omega | exact Nat.le_of_ble_eq_true rfl | (dsimp only; omega)))
        refine len_at (i := 1) (j := 2) (row := row) rfl rfl rfl h4 ?_
        repeat ((conv => whnf); first | with_reducible refine O_step ?_ | with_reducible refine S_step ?_ | with_reducible refine D_step ?_ | with_reducible refine RO.exit ?_ | with_reducible refine RO.ret ?_ | (with_reducible refine And.intro ?sc ?_; case sc => first | exact rfl | omega | exact Nat.le_of_ble_eq_true rfl | (dsimp only; omega)))
        refine And.intro (fun hh => absurd hh (by simp)) (fun _ => ?_)
        repeat ((conv => whnf); first | with_reducible refine O_step ?_ | with_reducible refine S_step ?_ | with_reducible refine D_step ?_ | with_reducible refine RO.exit ?_ | with_reducible refine RO.ret ?_ | (with_reducible refine And.intro ?sc ?_; case sc => first | exact rfl | omega | exact Nat.le_of_ble_eq_true rfl | (dsimp only; omega)))
        refine bytes_at (i := 1) (j := 2) (row := row) rfl rfl rfl h4 hc2 fun g8 c8 hc8 => ?_
        repeat ((conv => whnf); first | with_reducible refine O_step ?_ | with_reducible refine S_step ?_ | with_reducible refine D_step ?_ | with_reducible refine RO.exit ?_ | with_reducible refine RO.ret ?_ | (with_reducible refine And.intro ?sc ?_; case sc => first | exact rfl | omega | exact Nat.le_of_ble_eq_true rfl | (dsimp only; omega)))
        refine rbytes_at (i := 3) (row := row) rfl rfl (by omega) ⟨h3, Nat.le_refl _⟩ fun g9 c9 hc9 => ?_
        repeat ((conv => whnf); first | with_reducible refine O_step ?_ | with_reducible refine S_step ?_ | with_reducible refine D_step ?_ | with_reducible refine RO.exit ?_ | with_reducible refine RO.ret ?_ | (with_reducible refine And.intro ?sc ?_; case sc => first | exact rfl | omega | exact Nat.le_of_ble_eq_true rfl | (dsimp only; omega)))
        refine same_at (i := 4) (j := 5) (xs := bytesF row) (ys := bytesF row) rfl rfl rfl rfl (by rw [bytesF_length]; omega) (by rw [bytesF_length]; omega) ?_
        repeat ((conv => whnf); first | with_reducible refine O_step ?_ | with_reducible refine S_step ?_ | with_reducible refine D_step ?_ | with_reducible refine RO.exit ?_ | with_reducible refine RO.ret ?_ | (with_reducible refine And.intro ?sc ?_; case sc => first | exact rfl | omega | exact Nat.le_of_ble_eq_true rfl | (dsimp only; omega)))
        refine And.intro (fun hh => absurd hh (by simp)) (fun _ => ?_)
        repeat ((conv => whnf); first | with_reducible refine O_step ?_ | with_reducible refine S_step ?_ | with_reducible refine D_step ?_ | with_reducible refine RO.exit ?_ | with_reducible refine RO.ret ?_ | (with_reducible refine And.intro ?sc ?_; case sc => first | exact rfl | omega | exact Nat.le_of_ble_eq_true rfl | (dsimp only; omega)))
        refine RO.same (i + 1, g2, c2, gr, cr, row) ⟨by omega, hc2, h3, h4⟩ (show n - (i + 1) < n - i by omega) ?_ ?_
        · exact And.intro rfl (And.intro rfl (And.intro rfl (And.intro rfl trivial)))
        · exact And.intro rfl (And.intro rfl (And.intro rfl (And.intro rfl trivial)))
      · repeat ((conv => whnf); first | with_reducible refine O_step ?_ | with_reducible refine S_step ?_ | with_reducible refine D_step ?_ | with_reducible refine RO.exit ?_ | with_reducible refine RO.ret ?_ | (with_reducible refine And.intro ?sc ?_; case sc => first | exact rfl | omega | exact Nat.le_of_ble_eq_true rfl | (dsimp only; omega)))
        refine put_at (i := 1) (j := 2) (row := row) rfl rfl rfl hfi.1 h4 h2 he fun g2 c2 hc2 hl2 => ?_
        repeat ((conv => whnf); first | with_reducible refine O_step ?_ | with_reducible refine S_step ?_ | with_reducible refine D_step ?_ | with_reducible refine RO.exit ?_ | with_reducible refine RO.ret ?_ | (with_reducible refine And.intro ?sc ?_; case sc => first | exact rfl | omega | exact Nat.le_of_ble_eq_true rfl | (dsimp only; omega)))
        refine And.intro (fun hh => absurd hh (by simp)) (fun _ => ?_)
        repeat ((conv => whnf); first | with_reducible refine O_step ?_ | with_reducible refine S_step ?_ | with_reducible refine D_step ?_ | with_reducible refine RO.exit ?_ | with_reducible refine RO.ret ?_ | (with_reducible refine And.intro ?sc ?_; case sc => first | exact rfl | omega | exact Nat.le_of_ble_eq_true rfl | (dsimp only; omega)))
        refine len_at (i := 1) (j := 2) (row := row') rfl rfl rfl hl1 ?_
        repeat ((conv => whnf); first | with_reducible refine O_step ?_ | with_reducible refine S_step ?_ | with_reducible refine D_step ?_ | with_reducible refine RO.exit ?_ | with_reducible refine RO.ret ?_ | (with_reducible refine And.intro ?sc ?_; case sc => first | exact rfl | omega | exact Nat.le_of_ble_eq_true rfl | (dsimp only; omega)))
        refine And.intro (fun hh => absurd hh (by simp)) (fun _ => ?_)
        repeat ((conv => whnf); first | with_reducible refine O_step ?_ | with_reducible refine S_step ?_ | with_reducible refine D_step ?_ | with_reducible refine RO.exit ?_ | with_reducible refine RO.ret ?_ | (with_reducible refine And.intro ?sc ?_; case sc => first | exact rfl | omega | exact Nat.le_of_ble_eq_true rfl | (dsimp only; omega)))
        refine bytes_at (i := 1) (j := 2) (row := row') rfl rfl rfl hl1 hc2 fun g8 c8 hc8 => ?_
        repeat ((conv => whnf); first | with_reducible refine O_step ?_ | with_reducible refine S_step ?_ | with_reducible refine D_step ?_ | with_reducible refine RO.exit ?_ | with_reducible refine RO.ret ?_ | (with_reducible refine And.intro ?sc ?_; case sc => first | exact rfl | omega | exact Nat.le_of_ble_eq_true rfl | (dsimp only; omega)))
        refine rbytes_at (i := 4) (row := row') rfl rfl (by omega) ⟨hc1, Nat.le_refl _⟩ fun g9 c9 hc9 => ?_
        repeat ((conv => whnf); first | with_reducible refine O_step ?_ | with_reducible refine S_step ?_ | with_reducible refine D_step ?_ | with_reducible refine RO.exit ?_ | with_reducible refine RO.ret ?_ | (with_reducible refine And.intro ?sc ?_; case sc => first | exact rfl | omega | exact Nat.le_of_ble_eq_true rfl | (dsimp only; omega)))
        refine same_at (i := 5) (j := 6) (xs := bytesF row') (ys := bytesF row') rfl rfl rfl rfl (by rw [bytesF_length]; omega) (by rw [bytesF_length]; omega) ?_
        repeat ((conv => whnf); first | with_reducible refine O_step ?_ | with_reducible refine S_step ?_ | with_reducible refine D_step ?_ | with_reducible refine RO.exit ?_ | with_reducible refine RO.ret ?_ | (with_reducible refine And.intro ?sc ?_; case sc => first | exact rfl | omega | exact Nat.le_of_ble_eq_true rfl | (dsimp only; omega)))
        refine And.intro (fun hh => absurd hh (by simp)) (fun _ => ?_)
        repeat ((conv => whnf); first | with_reducible refine O_step ?_ | with_reducible refine S_step ?_ | with_reducible refine D_step ?_ | with_reducible refine RO.exit ?_ | with_reducible refine RO.ret ?_ | (with_reducible refine And.intro ?sc ?_; case sc => first | exact rfl | omega | exact Nat.le_of_ble_eq_true rfl | (dsimp only; omega)))
        refine RO.mk (i + 1, g2, c2, gr + 1, c1, row') [(0, .sl 0 0 0 n c), (3, .ptr 1 0 0), (4, .sl 4 g1 0 row'.length c1), (5, .int .i64 ((i : Int) + 1))] _ ⟨by omega, hc2, hc1, hl1⟩ (show n - (i + 1) < n - i by omega) ?_ rfl (Vw.move (i := 3) (k := 4) rfl rfl rfl ?_) ?_
        · exact And.intro rfl (And.intro rfl (And.intro rfl (And.intro rfl trivial)))
        · exact And.intro mvV.same (And.intro mvV.same (And.intro mvV.sl (And.intro (.inl rfl) trivial)))
        · exact And.intro rfl (And.intro rfl (And.intro rfl (And.intro rfl trivial)))
  · repeat ((conv => whnf); first | with_reducible refine O_step ?_ | with_reducible refine S_step ?_ | with_reducible refine D_step ?_ | with_reducible refine RO.exit ?_ | with_reducible refine RO.ret ?_ | (with_reducible refine And.intro ?sc ?_; case sc => first | exact rfl | omega | exact Nat.le_of_ble_eq_true rfl | (dsimp only; omega)))
    refine lays_at ?_
    repeat ((conv => whnf); first | with_reducible refine O_step ?_ | with_reducible refine S_step ?_ | with_reducible refine D_step ?_ | with_reducible refine RO.exit ?_ | with_reducible refine RO.ret ?_ | (with_reducible refine And.intro ?sc ?_; case sc => first | exact rfl | omega | exact Nat.le_of_ble_eq_true rfl | (dsimp only; omega)))
    rfl
theorem bitsWrites_law (n c : Nat) (get : Nat → List AV) (hc : n ≤ c ∧ c ≤ 9223372036854775807) (hg : ∀ j, fitL [.int .u32, .int .i64, .bool] (get j)) :
    CallA Try.prog 4 [.sl 0 0 0 n c] [.one false 0 (.tab 3 n get c)] (fun r _ => r = .bo true) (fun _ _ => False) := by
  obtain ⟨f, rfl, hf⟩ := actG_ex hg n
  exact bitsWrites_f n f c hc hf
end Go.Proofs.Ythbmddaemdcamaa
