/- The document's own bits (vignetteref05), walked: May, Bits, Number. -/
import Derived.Test.YthbmddaemdcamaaBi3
set_option linter.unusedVariables false
set_option linter.unusedSimpArgs false
open Go.RowKit
namespace Go.Proofs.Ythbmddaemdcamaa
set_option maxRecDepth 10000

theorem rmay_call {M : AH} {K Kp : AV → AH → Prop} {v n : Int} (hv : 0 ≤ v ∧ v < 4294967296) (h : K (.bo (mayB v n)) M) (hn : nbH M.length M) : CallA Try.prog 26 [.int .u32 v, .int .i64 n] M K Kp := by
  have key : ∀ (i : Nat) (v' : Int), (i : Int) ≤ n → n ≤ 24 → (0 ≤ v' ∧ v' = v / 2 ^ i) → ¬ (i : Int) < n → K (.bo (decide (v' = 0))) M := by
    intro i v' h1 h2 h3 h4
    have hi : n = i := by omega
    have e : decide (v' = 0) = mayB v n := by
      have hp : (0 : Int) < 2 ^ i := Int.pow_pos (by decide)
      simp only [mayB, hi, Int.toNat_natCast]
      rw [decide_eq_decide, h3.2]
      constructor
      · intro h0
        refine ⟨by omega, by omega, ?_⟩
        exact Int.lt_of_not_ge fun hge => by
          have := Int.ediv_le_ediv hp hge
          rw [Int.ediv_self (by omega)] at this
          omega
      · intro h0
        exact Int.ediv_eq_zero_of_lt hv.1 h0.2.2
    rw [e]; exact h
  have no : ¬ (0 ≤ n ∧ n ≤ 24) → K (.bo false) M := fun h0 => by
    have : mayB v n = false := by simp only [mayB, decide_eq_false_iff_not]; exact fun h => h0 ⟨h.1, h.2.1⟩
    rw [← this]; exact h
  refine walk26 (fun _ => []) [] rfl ?_
  refine And.intro (fun h1 => ?_) (fun h1 => And.intro (fun h2 => ?_) (fun h2 => ?_))
  · simp only [decide_eq_true_eq] at h1
    exact no (by omega)
  · simp only [decide_eq_true_eq] at h2
    exact no (by omega)
  · simp only [decide_eq_false_iff_not] at h1 h2
    refine WA.loop (σ := Nat × Int) (fun (i, v') => (i : Int) ≤ n ∧ 0 ≤ v' ∧ v' < 4294967296 ∧ v' = v / 2 ^ i) (fun (i, _) => n.toNat - i)
      (fun (i, v') => [(0, .int .u32 v'), (1, .int .i64 n), (5, .int .i64 i)]) (fun _ => M) (0, v) tb_ok mixed (by kernel_rfl)
      ⟨⟨by omega, hv.1, hv.2, by simp⟩, And.intro rfl (And.intro rfl (And.intro rfl trivial)), subA_refl M⟩ (fun _ => by simp) (fun _ => rfl) (fun _ => hn) ?_
    rintro ⟨i, v'⟩ ⟨h3, h4, h5, h6⟩ d
    refine And.intro (fun hc => ?_) (fun hc => ?_)
    · simp only [decide_eq_true_eq] at hc
      repeat (refine And.intro (by first | exact rfl | omega) ?_)
      have e1 : (v'.tdiv 2) % 4294967296 = v' / 2 := by rw [Int.tdiv_eq_ediv_of_nonneg h4]; omega
      refine Exists.intro (i + 1, (v'.tdiv 2) % 4294967296) (And.intro ⟨⟨by omega, by omega, by omega, ?_⟩, ?_⟩ (And.intro (And.intro rfl (And.intro rfl (And.intro ?_ trivial))) (subA_refl M)))
      · rw [e1, h6, Int.pow_succ, Int.ediv_ediv_of_nonneg (Int.le_of_lt (Int.pow_pos (by decide)))]
      · show n.toNat - (i + 1) < n.toNat - i
        omega
      · show AV.int .i64 ((i : Int) + 1) = AV.int .i64 ((i + 1 : Nat) : Int)
        push_cast; rfl
    · simp only [decide_eq_false_iff_not] at hc
      exact key i v' h3 (by omega) ⟨h4, h6⟩ hc

theorem rbits_call {v n : Int} (hv : 0 ≤ v ∧ v < 4294967296) (hn : n ≤ 1000000) {Kp} :
    CallA Try.prog 31 [.int .u32 v, .int .i64 n] []
      (fun r M => ∃ g c, r = .sl 0 g 0 (bitsOf v n.toNat).length c ∧ M = [.one true g (.bools (bitsOf v n.toNat) c)] ∧ (bitsOf v n.toNat).length ≤ c) Kp := by
  refine CallA.post_sub ?_
  refine walk31 (fun _ => []) [] rfl ?_
  refine WA.view (l := [(0, .int .u32 v), (1, .int .i64 n), (5, .ns), (6, .int .i64 0)]) (l' := [(0, .int .u32 v), (1, .int .i64 n), (5, .sl 0 0 0 0 0), (6, .int .i64 0)]) ?_ rfl (Vw.nils (x := .bools [] 0) ⟨rfl, rfl⟩ ?_) fun d => ?_
  · exact And.intro rfl (And.intro rfl (And.intro rfl (And.intro rfl trivial)))
  · exact And.intro (.inl rfl) (And.intro (.inl rfl) (And.intro (.inr ⟨rfl, rfl⟩) (And.intro (.inl rfl) trivial)))
  refine WA.loop (σ := Nat × Nat × Nat × Int × List Bool) (fun (i, g, c, v', xs) => xs.length = i ∧ xs.length ≤ c ∧ (i : Int) ≤ max n 0 ∧ 0 ≤ v' ∧ v' < 4294967296 ∧ bitsOf v n.toNat = xs ++ bitsOf v' (n.toNat - i)) (fun (i, _, _, _, _) => n.toNat - i)
    (fun (i, g, c, v', xs) => [(0, .int .u32 v'), (1, .int .i64 n), (5, .sl 0 g 0 xs.length c), (6, .int .i64 i)]) (fun (i, g, c, v', xs) => [.one true g (.bools xs c)]) (0, 0, 0, v, []) tb_ok mixed (by kernel_rfl)
    ⟨⟨rfl, Nat.le_refl _, by omega, hv.1, hv.2, by simp⟩, And.intro rfl (And.intro rfl (And.intro rfl (And.intro rfl trivial))), And.intro rfl trivial⟩ (fun _ => rfl) (fun _ => rfl) (fun _ => ⟨trivial, trivial⟩) ?_
  rintro ⟨i, g, c, v', xs⟩ ⟨h1, h2, h3, h4, h5, h6⟩ d
  refine And.intro (fun hc => ?_) (fun hc => ?_)
  · simp only [decide_eq_true_eq] at hc
    repeat (refine And.intro (by first | exact rfl | exact Nat.le_of_ble_eq_true rfl | omega | exact ⟨rfl, rfl, rfl, Nat.le_refl _, h2⟩) ?_)
    intro ys hys
    obtain rfl : ys = [decide (v'.tmod 2 = 1)] := hys
    repeat (refine And.intro (by first | exact rfl | omega | (dsimp only; omega)) ?_)
    intro c1 hc1
    repeat (refine And.intro (by first | exact rfl | omega) ?_)
    have e1 : (v'.tdiv 2) % 4294967296 = v' / 2 := by rw [Int.tdiv_eq_ediv_of_nonneg h4]; omega
    have e2 : v'.tmod 2 = v' % 2 := Int.tmod_eq_emod_of_nonneg h4
    refine Exists.intro (i + 1, g + 1, c1, (v'.tdiv 2) % 4294967296, xs ++ [decide (v'.tmod 2 = 1)]) (And.intro ⟨⟨?_, ?_, ?_, ?_, ?_, ?_⟩, ?_⟩ (And.intro (And.intro rfl (And.intro rfl (And.intro ?_ (And.intro ?_ trivial)))) (And.intro rfl trivial)))
    · simp [h1]
    · simp; omega
    · omega
    · omega
    · omega
    · rw [h6, show n.toNat - i = (n.toNat - (i + 1)) + 1 from by omega, e1, e2]
      simp [bitsOf]
    · show n.toNat - (i + 1) < n.toNat - i
      omega
    · show AV.sl 0 (g + 1) 0 (xs.length + 1) c1 = AV.sl 0 (g + 1) 0 (xs ++ [decide (v'.tmod 2 = 1)]).length c1
      rw [List.length_append]; rfl
    · show AV.int .i64 ((i : Int) + 1) = AV.int .i64 ((i + 1 : Nat) : Int)
      push_cast; rfl
  · simp only [decide_eq_false_iff_not] at hc
    have e : bitsOf v n.toNat = xs := by rw [h6, show n.toNat - i = 0 from by omega]; simp [bitsOf]
    rw [e]
    exact Exists.intro [AO.one true g (.bools xs c)] (And.intro (And.intro rfl trivial) (And.intro ⟨trivial, trivial⟩ (And.intro rfl ⟨g, c, rfl, rfl, h2⟩)))
end Go.Proofs.Ythbmddaemdcamaa
