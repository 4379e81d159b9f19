/- The document's own bits, walked: Get. -/
import Derived.Test.YthbmddaemdcamaaRe1
set_option linter.unusedVariables false
set_option linter.unusedSimpArgs false
open Go.RowKit
namespace Go.Proofs.Ythbmddaemdcamaa
set_option maxRecDepth 10000

/-- Get, by definition. -/
def rgetF (row : List Bool) (a : Nat) (n : Int) : Int × Nat × Int :=
  if ¬ (0 ≤ n ∧ n ≤ 24) then (0, a, 1) else if (row.length : Int) - a < n then (0, a, 50) else (num ((row.drop a).take n.toNat), a + n.toNat, 0)
theorem rgetF_getF (xs : List Int) (a : Nat) (n : Int) : rgetF (unpack xs) a n = getF xs a n := by
  simp only [rgetF, getF, unpack_length]
  split
  · rfl
  · push_cast; rfl

theorem rget_call {row : List Bool} {a : Nat} {n : Int} {c0 c : Nat} (hl : row.length ≤ 1000000000) (ha : a ≤ row.length) (hc0 : row.length ≤ c0 ∧ c0 ≤ c) {K Kp : AV → AH → Prop}
    (h : K (.tup [.int .u32 (rgetF row a n).1, .int .i64 (rgetF row a n).2.1, .int .i64 (rgetF row a n).2.2]) [.one false 0 (.bools row c)]) :
    CallA Try.prog 24 [.sl 0 0 0 row.length c0, .int .i64 a, .int .i64 n] [.one false 0 (.bools row c)] K Kp := by
  have bad : ¬ (0 ≤ n ∧ n ≤ 24) → rgetF row a n = (0, a, 1) := fun h0 => by simp only [rgetF]; rw [if_pos h0]
  refine walk24 (fun _ => [0]) [] rfl ?_
  refine And.intro (fun h1 => ?_) (fun h1 => And.intro (fun h2 => ?_) (fun h2 => ?_))
  · simp only [decide_eq_true_eq] at h1
    rw [bad (by omega)] at h; exact h
  · simp only [decide_eq_true_eq] at h2
    rw [bad (by omega)] at h; exact h
  · simp only [decide_eq_false_iff_not] at h1 h2
    repeat (refine And.intro (by first | exact rfl | omega) ?_)
    refine And.intro (fun h3 => ?_) (fun h3 => ?_)
    · simp only [decide_eq_true_eq] at h3
      have e : rgetF row a n = (0, a, 50) := by simp only [rgetF]; rw [if_neg (fun hh => hh (by omega)), if_pos h3]
      rw [e] at h; exact h
    · simp only [decide_eq_false_iff_not] at h3
      obtain ⟨n, rfl⟩ := Int.eq_ofNat_of_zero_le (show 0 ≤ n by omega)
      have e : rgetF row a n = (num ((row.drop a).take n), a + n, 0) := by simp only [rgetF]; rw [if_neg (fun hh => hh (by omega)), if_neg h3]; rfl
      rw [e] at h
      repeat (refine And.intro (by first | exact rfl | omega) ?_)
      have hoff : (offS c0 a 0 1 = a) ∨ (n = 0 ∧ offS c0 a 0 1 = 0) := by
        unfold offS; split
        · right; exact ⟨by omega, rfl⟩
        · left; omega
      have hxl : ((row.drop a).take n).length = n := by simp; omega
      refine CallA.lift [.win 0 0 (offS c0 a 0 1)] (rnumber_call (xs := (row.drop a).take n) (c0 := c0 - a) (c := n) (Kp := fun _ _ => False) (K := fun r M => r = .int .u32 (num ((row.drop a).take n)) ∧ M = [.one false 0 (.bools ((row.drop a).take n) n)]) (by omega) ⟨rfl, rfl⟩)
        ?_ rfl ⟨⟨_, _, _, rfl, slot_one rfl, WinC.bools ?_ ?_⟩, trivial⟩ ⟨trivial, trivial⟩ ?_ (fun _ _ h => h.elim)
      · show [AV.sl 0 0 (offS c0 a 0 1) ((row.drop a).take n).length (c0 - a)] = [AV.sl 0 0 (offS c0 (a : Int).toNat 0 1) (((a : Int) + (n : Int)).toNat - (a : Int).toNat) (c0 - (a : Int).toNat)]
        rw [hxl, Int.toNat_natCast, show ((a : Int) + (n : Int)).toNat - a = n from by omega]
      · rcases hoff with e | ⟨e1, e2⟩ <;> omega
      · rw [hxl]
        rcases hoff with e | ⟨e1, e2⟩
        · rw [e]
        · simp [e1]
      · rintro r M ⟨rfl, rfl⟩
        refine ⟨⟨rfl, rfl⟩, ?_⟩
        repeat (refine And.intro (by first | exact rfl | omega) ?_)
        exact h

theorem rput_call {row : List Bool} {v n : Int} {c0 c : Nat} (hv : 0 ≤ v ∧ v < 4294967296) (hl : row.length ≤ 8388608) {Kp} :
    CallA Try.prog 19 [.sl 0 0 0 row.length c0, .int .u32 v, .int .i64 n] [.one false 0 (.bools row c)]
      (fun r M => (∃ e, putF row v n = (row, e) ∧ e ≠ 0 ∧ r = .tup [.sl 0 0 0 row.length c0, .int .i64 e] ∧ M = [.one false 0 (.bools row c)]) ∨
        (∃ g c', putF row v n = (row ++ bitsOf v n.toNat, 0) ∧ r = .tup [.sl 1 g 0 (row ++ bitsOf v n.toNat).length c', .int .i64 0] ∧ M = [.one false 0 (.bools row c), .one true g (.bools (row ++ bitsOf v n.toNat) c')] ∧ (row ++ bitsOf v n.toNat).length ≤ c')) Kp := by
  refine CallA.post_sub ?_
  refine walk19 (fun _ => [0]) [] rfl ?_
  refine rmay_call hv ?_ ⟨trivial, trivial⟩
  refine And.intro (fun h1 => ?_) (fun h1 => ?_)
  · have hm : mayB v n = false := by simpa using h1
    exact Exists.intro [AO.one false 0 (.bools row c)] (And.intro (And.intro rfl trivial) (And.intro ⟨trivial, trivial⟩ (And.intro rfl (.inl ⟨1, by simp [putF, hm], by decide, rfl, rfl⟩))))
  · have hm : mayB v n = true := by simpa using h1
    have hm' := hm
    simp only [mayB, decide_eq_true_eq] at hm'
    repeat (refine And.intro (by first | exact rfl | omega) ?_)
    refine And.intro (fun h2 => ?_) (fun h2 => ?_)
    · simp only [decide_eq_true_eq] at h2
      exact Exists.intro [AO.one false 0 (.bools row c)] (And.intro (And.intro rfl trivial) (And.intro ⟨trivial, trivial⟩ (And.intro rfl (.inl ⟨2, by simp [putF, hm, h2], by decide, rfl, rfl⟩))))
    · simp only [decide_eq_false_iff_not] at h2
      repeat (refine And.intro (by first | exact rfl | omega) ?_)
      intro ys hys
      have hys' : ys = row := by rw [hys]; simp
      subst hys'
      repeat (refine And.intro (by first | exact rfl | omega | (dsimp only; omega)) ?_)
      intro c1 hc1
      refine CallA.lift [] (rbits_call hv (by omega) (Kp := fun _ _ => False)) rfl rfl trivial trivial ?_ (fun _ _ h => h.elim)
      rintro r M ⟨g, c2, rfl, rfl, hc2⟩
      refine ⟨rfl, ?_⟩
      have hbl := bitsOf_length n.toNat v
      repeat (refine And.intro (by first | exact rfl | omega | exact ⟨rfl, rfl, rfl, Nat.le_refl _, hc1⟩ | exact Nat.le_of_eq (Nat.zero_add _)) ?_)
      intro zs hzs
      have hzs' : zs = bitsOf v n.toNat := by
        rw [hzs]
        show ((bitsOf v n.toNat).drop 0).take (bitsOf v n.toNat).length = _
        simp
      subst hzs'
      repeat (refine And.intro (by first | exact rfl | omega | (dsimp only; omega)) ?_)
      intro c3 hc3
      refine Exists.intro [AO.one false 0 (.bools ys c), AO.one true 1 (.bools (ys ++ bitsOf v n.toNat) c3)] (And.intro (And.intro rfl (And.intro rfl trivial)) (And.intro ⟨trivial, trivial, trivial⟩ (And.intro rfl (.inr ⟨1, c3, ?_, ?_, rfl, ?_⟩))))
      · simp only [putF, hm]; rw [if_neg (by simp), if_neg (by omega)]
      · show AV.tup [.sl 1 1 0 (ys.length + (bitsOf v n.toNat).length) c3, .int .i64 0] = _
        rw [List.length_append]
      · rw [List.length_append]; exact hc3

theorem bitsOf_zero : ∀ k : Nat, bitsOf 0 k = List.replicate k false
  | 0 => rfl
  | k + 1 => by simp [bitsOf, bitsOf_zero k, List.replicate_succ]

theorem ralign_row_call {row : List Bool} {c0 c : Nat} (hl : row.length ≤ 1000000000) {Kp} :
    CallA Try.prog 17 [.sl 0 0 0 row.length c0] [.one false 0 (.bools row c)]
      (fun r M => ∃ g c', r = .sl 1 g 0 (alignF row).length c' ∧ M = [.one false 0 (.bools row c), .one true g (.bools (alignF row) c')] ∧ (alignF row).length ≤ c') Kp := by
  refine CallA.post_sub ?_
  refine walk17 (fun _ => [0]) [] rfl ?_
  repeat (refine And.intro (by first | exact rfl | omega) ?_)
  intro ys hys
  have hys' : ys = row := by rw [hys]; simp
  subst hys'
  repeat (refine And.intro (by first | exact rfl | omega | (dsimp only; omega)) ?_)
  intro c1 hc1
  refine WA.loop (σ := Nat × Nat × Nat) (fun (j, g, c') => j ≤ (8 - ys.length % 8) % 8 ∧ ys.length + j ≤ c') (fun (j, _, _) => 8 - j)
    (fun (j, g, c') => [(3, .sl 1 g 0 (ys ++ bitsOf 0 j).length c')]) (fun (j, g, c') => [.one false 0 (.bools ys c), .one true g (.bools (ys ++ bitsOf 0 j) c')]) (0, 0, c1) tb_ok mixed (by kernel_rfl)
    ⟨⟨Nat.zero_le _, hc1⟩, And.intro ?_ trivial, And.intro rfl (And.intro ?_ trivial)⟩ (fun _ => rfl) (fun _ => rfl) (fun _ => ⟨trivial, trivial, trivial⟩) ?_
  · show AV.sl 1 0 0 ys.length c1 = AV.sl 1 0 0 (ys ++ bitsOf 0 0).length c1
    simp [bitsOf]
  · show AO.one true 0 (.bools (ys ++ bitsOf 0 0) c1) = AO.one true 0 (.bools ys c1)
    simp [bitsOf]
  rintro ⟨j, g, c'⟩ ⟨h1, h2⟩ d
  have hlen : (ys ++ bitsOf 0 j).length = ys.length + j := by simp [bitsOf_length]
  have hmod : (((ys ++ bitsOf 0 j).length : Nat) : Int).tmod 8 = (((ys.length + j) % 8 : Nat) : Int) := by
    rw [hlen, Int.tmod_eq_emod_of_nonneg (by omega)]; rfl
  repeat (refine And.intro (by first | exact rfl | omega) ?_)
  refine And.intro (fun hc => ?_) (fun hc => ?_)
  · rw [hmod] at hc
    simp only [Bool.not_eq_true', decide_eq_false_iff_not] at hc
    repeat (refine And.intro (by first | exact rfl | exact Nat.le_of_ble_eq_true rfl | omega | exact ⟨rfl, rfl, rfl, Nat.le_refl _, by omega⟩) ?_)
    intro zs hzs
    obtain rfl : zs = [false] := hzs
    repeat (refine And.intro (by first | exact rfl | omega | (dsimp only; omega)) ?_)
    intro c3 hc3
    have hb : ys ++ bitsOf 0 (j + 1) = (ys ++ bitsOf 0 j) ++ [false] := by
      rw [bitsOf_zero, bitsOf_zero, List.replicate_succ', List.append_assoc]
    refine Exists.intro (j + 1, g + 1, c3) (And.intro ⟨⟨by omega, by omega⟩, show 8 - (j + 1) < 8 - j by omega⟩ (And.intro (And.intro ?_ trivial) (And.intro rfl (And.intro ?_ trivial))))
    · show AV.sl 1 (g + 1) 0 ((ys ++ bitsOf 0 j).length + 1) c3 = AV.sl 1 (g + 1) 0 (ys ++ bitsOf 0 (j + 1)).length c3
      rw [hb, List.length_append (bs := [false])]; rfl
    · show AO.one true (g + 1) (.bools (ys ++ bitsOf 0 (j + 1)) c3) = AO.one true (g + 1) (.bools ((ys ++ bitsOf 0 j) ++ [false]) c3)
      rw [hb]
  · rw [hmod] at hc
    simp only [Bool.not_eq_false', decide_eq_true_eq] at hc
    have e : alignF ys = ys ++ bitsOf 0 j := by
      unfold alignF; congr 2; omega
    rw [e]
    exact Exists.intro [AO.one false 0 (.bools ys c), AO.one true g (.bools (ys ++ bitsOf 0 j) c')] (And.intro (And.intro rfl (And.intro rfl trivial)) (And.intro ⟨trivial, trivial, trivial⟩ (And.intro rfl ⟨g, c', rfl, rfl, by omega⟩)))
end Go.Proofs.Ythbmddaemdcamaa
