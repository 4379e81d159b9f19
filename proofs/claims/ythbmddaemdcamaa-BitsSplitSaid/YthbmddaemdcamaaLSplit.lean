/- The law BitsSplit, walked. -/
import Derived.Test.YthbmddaemdcamaaBw
set_option linter.unusedVariables false
set_option linter.unusedSimpArgs false
open Go.RowKit
namespace Go.Proofs.Ythbmddaemdcamaa
set_option maxRecDepth 10000

def ones (i : Nat) : List Bool := List.replicate i true
theorem ones_succ (i : Nat) : ones i ++ [true] = ones (i + 1) := by simp [ones, List.replicate_succ']
theorem ones_length (i : Nat) : (ones i).length = i := by simp [ones]
theorem putF_one (i : Nat) (h : i < 100) : putF (ones i) 1 1 = (ones (i + 1), 0) := by
  have := putF_ok (row := ones i) (v := 1) (n := 1) (by omega) (by decide) (by rw [ones_length]; omega)
  rw [← ones_succ]; exact this

set_option maxHeartbeats 4000000 in
theorem bitsSplit_law (ah : Int) (hah : IntKind.u8.min ≤ ah ∧ ah ≤ IntKind.u8.max) (v : Int) (hv : IntKind.u32.min ≤ v ∧ v ≤ IntKind.u32.max) (n : Int) (hn : IntKind.u8.min ≤ n ∧ n ≤ IntKind.u8.max) (k : Int) (hk : IntKind.u8.min ≤ k ∧ k ≤ IntKind.u8.max) :
    CallA Try.prog 3 [.int .u8 ah, .int .u32 v, .int .u8 n, .int .u8 k] [] (fun r _ => r = .bo true) (fun _ _ => False) := by
  refine walk3 (fun _ => []) [] rfl ?_
  obtain ⟨ah, rfl⟩ := Int.eq_ofNat_of_zero_le (show 0 ≤ ah from hah.1)
  obtain ⟨v, rfl⟩ := Int.eq_ofNat_of_zero_le (show 0 ≤ v from hv.1)
  obtain ⟨n, rfl⟩ := Int.eq_ofNat_of_zero_le (show 0 ≤ n from hn.1)
  obtain ⟨k, rfl⟩ := Int.eq_ofNat_of_zero_le (show 0 ≤ k from hk.1)
  have hn' : (n : Int) ≤ 255 := hn.2
  have hah' : (ah : Int) ≤ 255 := hah.2
  have hk' : (k : Int) ≤ 255 := hk.2
  have hv' : (v : Int) ≤ 4294967295 := hv.2
  obtain ⟨z, hz⟩ : ∃ z, z = n % 25 := ⟨_, rfl⟩
  have e1 : ((n : Int)).tmod 25 = ((z : Nat) : Int) := by rw [hz]; rfl
  have hz24 : z ≤ 24 := by omega
  have e2 := shl1_u32 (k := z) (by omega)
  have hpz : 0 < 2 ^ z := Nat.pow_pos (by omega)
  repeat (refine And.intro (by first | exact rfl | omega | exact Nat.le_of_ble_eq_true rfl) ?_)
  obtain ⟨y, hy⟩ : ∃ y, y = ah % 20 := ⟨_, rfl⟩
  have e3 : ((ah : Int)).tmod 20 = ((y : Nat) : Int) := by rw [hy]; rfl
  obtain ⟨x, hx⟩ : ∃ x, x = v % 2 ^ z := ⟨_, rfl⟩
  have hxz : x < 2 ^ z := by rw [hx]; exact Nat.mod_lt _ hpz
  have ex : ((v : Int)).tmod (shlF .u32 1 ((n : Int).tmod 25)) = ((x : Nat) : Int) := by rw [e1, e2, hx]; rfl
  refine And.intro (fun h => ?_) (fun h => ?_)
  case' refine_1 =>
    obtain ⟨p, hp⟩ : ∃ p, p = k % (z + 1) := ⟨_, rfl⟩
    have hpz' : p ≤ z := by have := Nat.mod_lt k (show 0 < z + 1 by omega); omega
    have ep : ((k : Int)).tmod ((n : Int).tmod 25 + 1) = ((p : Nat) : Int) := by rw [e1, hp]; rfl
  case' refine_2 =>
    obtain ⟨p, hp⟩ : ∃ p, p = 0 := ⟨_, rfl⟩
    have hpz' : p ≤ z := by omega
    have ep : (0 : Int) = ((p : Nat) : Int) := by rw [hp]; rfl
  all_goals (
    repeat (refine And.intro (by first | exact rfl | omega | exact Nat.le_of_ble_eq_true rfl) ?_)
    refine And.intro (by rw [e1, e2]; omega) ?_
    refine WA.view (l := [(0, .int .u8 ah), (1, .int .u32 x), (9, .int .i64 z), (10, .int .i64 p), (11, .ptr 0 0 0), (12, .ptr 1 0 0), (13, .int .i64 0)]) (l' := [(0, .int .u8 ah), (1, .int .u32 x), (9, .int .i64 z), (10, .int .i64 p), (11, .ptr 0 0 0), (12, .ptr 1 0 0), (13, .int .i64 0)])
      ?_ rfl (Vw.trans (Vw.writer (i := 0) rfl) (Vw.writer (i := 1) rfl)) fun d => ?_
    · exact And.intro rfl (And.intro (congrArg (AV.int .u32) ex) (And.intro (congrArg (AV.int .i64) e1) (And.intro (congrArg (AV.int .i64) ep) (And.intro rfl (And.intro rfl (And.intro rfl trivial))))))
    refine WA.loop (σ := Nat × Nat × Nat × Nat × Nat) (fun (i, g, c, g', c') => i ≤ y ∧ (packF (ones i)).length ≤ c ∧ (packF (ones i)).length ≤ c') (fun (i, _) => y - i)
      (fun (i, _) => [(0, .int .u8 ah), (1, .int .u32 x), (9, .int .i64 z), (10, .int .i64 p), (11, .ptr 0 0 0), (12, .ptr 1 0 0), (13, .int .i64 i)]) (fun (i, g, c, g', c') => [wo 2 g c (ones i), wo 3 g' c' (ones i), wb g c (ones i), wb g' c' (ones i)]) (0, 0, 0, 0, 0) tb_ok mixed (by kernel_rfl)
      ⟨⟨Nat.zero_le _, Nat.le_refl _, Nat.le_refl _⟩, ?_, And.intro rfl (And.intro rfl (And.intro rfl (And.intro rfl trivial)))⟩ (fun _ => rfl) (fun _ => rfl) (fun _ => ⟨rfl, rfl, trivial, trivial, trivial⟩) ?_
    · exact And.intro rfl (And.intro rfl (And.intro rfl (And.intro rfl (And.intro rfl (And.intro rfl (And.intro rfl trivial))))))
    rintro ⟨i, g, c, g', c'⟩ ⟨h0, h1, h2⟩ d
    repeat (refine And.intro (by first | exact rfl | omega | exact Nat.le_of_ble_eq_true rfl) ?_)
    refine And.intro (fun hc => ?_) (fun hc => ?_)
    · simp only [decide_eq_true_eq] at hc
      refine put_at (i := 0) (j := 2) (row := ones i) rfl rfl rfl (by omega) (by rw [ones_length]; omega) h1 (putF_one i (by omega)) fun g1 c1 hc1 _ => ?_
      refine put_at (i := 1) (j := 3) (row := ones i) rfl rfl rfl (by omega) (by rw [ones_length]; omega) h2 (putF_one i (by omega)) fun g2 c2 hc2 _ => ?_
      repeat (refine And.intro (by first | exact rfl | omega | exact Nat.le_of_ble_eq_true rfl) ?_)
      refine Exists.intro (i + 1, g1, c1, g2, c2) (And.intro ⟨⟨by omega, hc1, hc2⟩, show y - (i + 1) < y - i by omega⟩ (And.intro ?_ (And.intro rfl (And.intro rfl (And.intro rfl (And.intro rfl trivial))))))
      exact And.intro rfl (And.intro rfl (And.intro rfl (And.intro rfl (And.intro rfl (And.intro rfl (And.intro rfl trivial))))))
    · simp only [decide_eq_false_iff_not] at hc
      obtain rfl : i = y := by omega
      have hi : i < 20 := by omega
      have hol := ones_length i
      have hq : z = p + (z - p) := by omega
      obtain ⟨q, hq'⟩ : ∃ q, q = z - p := ⟨_, rfl⟩
      have hpp : 0 < 2 ^ p := Nat.pow_pos (by omega)
      have e2p := shl1_u32 (k := p) (by omega)
      have exp : ((x : Int)).tmod (shlF .u32 1 (p : Int)) = (x : Int) % 2 ^ p := by rw [e2p, Int.tmod_eq_emod_of_nonneg (by omega)]; push_cast; rfl
      have exq := shr_u32 (x := (x : Int)) (r := p) (by omega)
      have hxz' : (x : Int) < 2 ^ z := by exact_mod_cast hxz
      have hppi : (0 : Int) < 2 ^ p := Int.pow_pos (by decide)
      have hlow : 0 ≤ (x : Int) % 2 ^ p ∧ (x : Int) % 2 ^ p < 2 ^ p := ⟨Int.emod_nonneg _ (by omega), Int.emod_lt_of_pos _ hppi⟩
      have hhigh : 0 ≤ (x : Int) / 2 ^ p ∧ (x : Int) / 2 ^ p < 2 ^ q := by
        refine ⟨Int.ediv_nonneg (by omega) (by omega), Int.ediv_lt_of_lt_mul hppi ?_⟩
        rw [Int.mul_comm, ← Int.pow_add, show p + q = z from by omega]; exact hxz'
      obtain ⟨R, hR⟩ : ∃ R, R = ones i ++ bitsOf (x : Int) z := ⟨_, rfl⟩
      have hR2 : R = (ones i ++ bitsOf ((x : Int) % 2 ^ p) p) ++ bitsOf ((x : Int) / 2 ^ p) q := by
        rw [hR, List.append_assoc, ← bitsOf_split, show p + q = z from by omega]
      have hRl : R.length = i + z := by rw [hR]; simp [hol, bitsOf_length]
      refine put_at (i := 0) (j := 2) (row := ones i) (row' := R) rfl rfl rfl (by omega) (by omega) h1 (by rw [hR]; exact putF_ok (by omega) hxz' (by omega)) fun g1 c1 hc1 hl1 => ?_
      repeat (refine And.intro (by first | exact rfl | omega | exact Nat.le_of_ble_eq_true rfl) ?_)
      refine put_at (i := 1) (j := 3) (row := ones i) (row' := ones i ++ bitsOf ((x : Int) % 2 ^ p) p) rfl rfl rfl (by rw [exp]; exact hlow.1) (by omega) h2 (by rw [exp]; exact putF_ok (by omega) hlow.2 (by omega)) fun g2 c2 hc2 hl2 => ?_
      repeat (refine And.intro (by first | exact rfl | omega | exact Nat.le_of_ble_eq_true rfl) ?_)
      refine put_at (i := 1) (j := 3) (row := ones i ++ bitsOf ((x : Int) % 2 ^ p) p) (row' := R) rfl rfl rfl (by rw [exq]; exact hhigh.1) hl2 hc2 (by
        rw [exq, hR2, show ((z : Int) - (p : Int)) = (q : Int) from by omega]
        exact putF_ok (by omega) hhigh.2 (by simp [bitsOf_length, hol]; omega)) fun g3 c3 hc3 hl3 => ?_
      refine bytes_at (i := 0) (j := 2) (row := R) rfl rfl rfl hl1 hc1 fun g4 c4 hc4 => ?_
      refine bytes_at (i := 1) (j := 3) (row := R) rfl rfl rfl hl1 hc3 fun g5 c5 hc5 => ?_
      have hbl := bytesF_length R
      refine same_at (i := 4) (j := 5) (xs := bytesF R) (ys := bytesF R) rfl rfl rfl rfl (by omega) (by omega) ?_
      refine And.intro (fun h => absurd h (by simp)) (fun _ => ?_)
      refine len_at (i := 0) (j := 2) (row := R) rfl rfl rfl hl1 ?_
      refine len_at (i := 1) (j := 3) (row := R) rfl rfl rfl hl1 ?_
      refine And.intro (fun h => absurd h (by simp)) (fun _ => ?_)
      refine bytes_at (i := 0) (j := 2) (row := R) rfl rfl rfl hl1 hc1 fun g6 c6 hc6 => ?_
      refine new_at (i := 6) (xs := bytesF R) rfl rfl (by omega) fun g7 c7 hc7 => ?_
      have hby := bytesF_byte R
      obtain ⟨k', hk', hu, hul⟩ := unpack_bytesF R
      repeat (refine And.intro (by first | exact rfl | omega | exact Nat.le_of_ble_eq_true rfl) ?_)
      refine get_at (i := 8) (j := 7) (xs := bytesF R) (a := 0) (v := num (R.take i)) (a' := i) (e := 0) rfl rfl rfl (by omega) (by omega) hby (by
        rw [e3]; have := getF_row R 0 i (by omega) (by omega); simpa using this) ?_
      refine get_at (i := 8) (j := 7) (xs := bytesF R) (a := i) (v := (x : Int) % 2 ^ p) (a' := i + p) (e := 0) rfl rfl rfl (by omega) (by omega) hby (by
        have := num_row (ones i) (bitsOf ((x : Int) / 2 ^ p) q) ((x : Int) % 2 ^ p) p hlow.1 hlow.2
        rw [hol, ← List.append_assoc, ← hR2] at this
        rw [getF_row R i p (by omega) (by omega), this]) ?_
      repeat (refine And.intro (by first | exact rfl | omega | exact Nat.le_of_ble_eq_true rfl) ?_)
      refine get_at (i := 8) (j := 7) (xs := bytesF R) (a := i + p) (v := (x : Int) / 2 ^ p) (a' := i + p + q) (e := 0) rfl rfl rfl (by omega) (by omega) hby (by
        have := num_row (ones i ++ bitsOf ((x : Int) % 2 ^ p) p) [] ((x : Int) / 2 ^ p) q hhigh.1 hhigh.2
        rw [List.append_nil, ← hR2, List.length_append, bitsOf_length, hol] at this
        rw [show ((z : Int) - (p : Int)) = (q : Int) from by omega, getF_row R (i + p) q (by omega) (by omega), this]) ?_
      refine And.intro (fun _ => ?_) (fun h => absurd h (by decide))
      refine And.intro (fun _ => ?_) (fun h => absurd h (by decide))
      repeat (refine And.intro (by first | exact rfl | omega | exact Nat.le_of_ble_eq_true rfl) ?_)
      have hor := or_shl (n := p) (k := q) hlow.1 hlow.2 hhigh.1 hhigh.2 (by omega)
      rw [Int.emod_add_mul_ediv] at hor
      refine And.intro (fun _ => ?_) (fun h => absurd h (by rw [hor]; simp))
      refine lays_at ?_
      rfl
    )
end Go.Proofs.Ythbmddaemdcamaa
