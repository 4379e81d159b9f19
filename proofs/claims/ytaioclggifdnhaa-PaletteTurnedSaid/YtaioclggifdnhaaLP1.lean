/- The laws PaletteBack, PaletteTurned. -/
import Derived.Test.YtaioclggifdnhaaGp

set_option linter.unusedVariables false

set_option linter.unusedSimpArgs false

open Go.RowKit

namespace Go.Proofs.Ytaioclggifdnhaa

set_option maxRecDepth 10000

theorem paletteBack_law (xs : List Int) (c : Nat) (hc : xs.length ≤ c ∧ c ≤ 9223372036854775807) (hx : ∀ x ∈ xs, IntKind.u32.min ≤ x ∧ x ≤ IntKind.u32.max) :
    CallA Try.prog 11 [.sl 0 0 0 xs.length c] [.one false 0 (.ints .u32 xs c)] (fun r _ => r = .bo true) (fun _ _ => False) := by
  have h0 : ∀ x ∈ xs, 0 ≤ x ∧ x < 4294967296 := fun x h => ⟨(hx x h).1, by have : x ≤ 4294967295 := (hx x h).2; omega⟩
  refine step11 (fun _ => []) [] rfl ?_
  repeat ((conv => whnf); first | with_reducible refine O_step ?_ | with_reducible refine S_step ?_ | with_reducible refine D_step ?_ | with_reducible refine RO.exit ?_ | with_reducible refine RO.ret ?_ | ((with_reducible refine And.intro ?sc ?_); case sc => exact side) | ((with_reducible refine br_f ?sc ?_); case sc => exact sideB) | ((with_reducible refine br_t ?sc ?_); case sc => exact sideB))
  refine And.intro (fun h => ?_) (fun h => ?_)
  · repeat ((conv => whnf); first | with_reducible refine O_step ?_ | with_reducible refine S_step ?_ | with_reducible refine D_step ?_ | with_reducible refine RO.exit ?_ | with_reducible refine RO.ret ?_ | ((with_reducible refine And.intro ?sc ?_); case sc => exact side) | ((with_reducible refine br_f ?sc ?_); case sc => exact sideB) | ((with_reducible refine br_t ?sc ?_); case sc => exact sideB))
    rfl
  · have hl : xs.length ≤ 5000 := by have := of_decide_eq_false h; omega
    have hcl := cols_length xs
    repeat ((conv => whnf); first | with_reducible refine O_step ?_ | with_reducible refine S_step ?_ | with_reducible refine D_step ?_ | with_reducible refine RO.exit ?_ | with_reducible refine RO.ret ?_ | ((with_reducible refine And.intro ?sc ?_); case sc => exact side) | ((with_reducible refine br_f ?sc ?_); case sc => exact sideB) | ((with_reducible refine br_t ?sc ?_); case sc => exact sideB))
    by_cases hp : palN xs
    · have hp' := hp
      unfold palN at hp'
      refine penc_no (i := 0) hp rfl rfl (by omega) h0 ?_
      repeat ((conv => whnf); first | with_reducible refine O_step ?_ | with_reducible refine S_step ?_ | with_reducible refine D_step ?_ | with_reducible refine RO.exit ?_ | with_reducible refine RO.ret ?_ | ((with_reducible refine And.intro ?sc ?_); case sc => exact side) | ((with_reducible refine br_f ?sc ?_); case sc => exact sideB) | ((with_reducible refine br_t ?sc ?_); case sc => exact sideB))
      refine rcolors_at (i := 0) rfl rfl (by omega) h0 (fun g1 c1 hc1 => ?_)
      repeat ((conv => whnf); first | with_reducible refine O_step ?_ | with_reducible refine S_step ?_ | with_reducible refine D_step ?_ | with_reducible refine RO.exit ?_ | with_reducible refine RO.ret ?_ | ((with_reducible refine And.intro ?sc ?_); case sc => exact side) | ((with_reducible refine br_f ?sc ?_); case sc => exact sideB) | ((with_reducible refine br_t ?sc ?_); case sc => exact sideB))
      refine And.intro (fun h => ?_) (fun h => ?_)
      · repeat ((conv => whnf); first | with_reducible refine O_step ?_ | with_reducible refine S_step ?_ | with_reducible refine D_step ?_ | with_reducible refine RO.exit ?_ | with_reducible refine RO.ret ?_ | ((with_reducible refine And.intro ?sc ?_); case sc => exact side) | ((with_reducible refine br_f ?sc ?_); case sc => exact sideB) | ((with_reducible refine br_t ?sc ?_); case sc => exact sideB))
        refine tells12_at ?_
        repeat ((conv => whnf); first | with_reducible refine O_step ?_ | with_reducible refine S_step ?_ | with_reducible refine D_step ?_ | with_reducible refine RO.exit ?_ | with_reducible refine RO.ret ?_ | ((with_reducible refine And.intro ?sc ?_); case sc => exact side) | ((with_reducible refine br_f ?sc ?_); case sc => exact sideB) | ((with_reducible refine br_t ?sc ?_); case sc => exact sideB))
        rfl
      · have h' := of_decide_eq_false h
        repeat ((conv => whnf); first | with_reducible refine O_step ?_ | with_reducible refine S_step ?_ | with_reducible refine D_step ?_ | with_reducible refine RO.exit ?_ | with_reducible refine RO.ret ?_ | ((with_reducible refine And.intro ?sc ?_); case sc => exact side) | ((with_reducible refine br_f ?sc ?_); case sc => exact sideB) | ((with_reducible refine br_t ?sc ?_); case sc => exact sideB))
        refine br_t (decide_eq_true (by omega)) ?_
        repeat ((conv => whnf); first | with_reducible refine O_step ?_ | with_reducible refine S_step ?_ | with_reducible refine D_step ?_ | with_reducible refine RO.exit ?_ | with_reducible refine RO.ret ?_ | ((with_reducible refine And.intro ?sc ?_); case sc => exact side) | ((with_reducible refine br_f ?sc ?_); case sc => exact sideB) | ((with_reducible refine br_t ?sc ?_); case sc => exact sideB))
        refine tells12_at ?_
        repeat ((conv => whnf); first | with_reducible refine O_step ?_ | with_reducible refine S_step ?_ | with_reducible refine D_step ?_ | with_reducible refine RO.exit ?_ | with_reducible refine RO.ret ?_ | ((with_reducible refine And.intro ?sc ?_); case sc => exact side) | ((with_reducible refine br_f ?sc ?_); case sc => exact sideB) | ((with_reducible refine br_t ?sc ?_); case sc => exact sideB))
        rfl
    · have hp' := hp
      unfold palN at hp'
      refine penc_ok (i := 0) hp rfl rfl (by omega) h0 (fun g1 c1 hc1 => ?_)
      have hpl := palB_length xs
      have hs4 := sizeF_le (cols xs).length
      have hns : xs.length * sizeF (cols xs).length ≤ xs.length * 4 := Nat.mul_le_mul_left _ hs4
      have hL := cutL_length xs
      repeat ((conv => whnf); first | with_reducible refine O_step ?_ | with_reducible refine S_step ?_ | with_reducible refine D_step ?_ | with_reducible refine RO.exit ?_ | with_reducible refine RO.ret ?_ | ((with_reducible refine And.intro ?sc ?_); case sc => exact side) | ((with_reducible refine br_f ?sc ?_); case sc => exact sideB) | ((with_reducible refine br_t ?sc ?_); case sc => exact sideB))
      refine rcolors_at (i := 0) rfl rfl (by omega) h0 (fun g2 c2 hc2 => ?_)
      repeat ((conv => whnf); first | with_reducible refine O_step ?_ | with_reducible refine S_step ?_ | with_reducible refine D_step ?_ | with_reducible refine RO.exit ?_ | with_reducible refine RO.ret ?_ | ((with_reducible refine And.intro ?sc ?_); case sc => exact side) | ((with_reducible refine br_f ?sc ?_); case sc => exact sideB) | ((with_reducible refine br_t ?sc ?_); case sc => exact sideB))
      refine br_f (decide_eq_false (by omega)) ?_
      repeat ((conv => whnf); first | with_reducible refine O_step ?_ | with_reducible refine S_step ?_ | with_reducible refine D_step ?_ | with_reducible refine RO.exit ?_ | with_reducible refine RO.ret ?_ | ((with_reducible refine And.intro ?sc ?_); case sc => exact side) | ((with_reducible refine br_f ?sc ?_); case sc => exact sideB) | ((with_reducible refine br_t ?sc ?_); case sc => exact sideB))
      refine br_f (decide_eq_false (by omega)) ?_
      repeat ((conv => whnf); first | with_reducible refine O_step ?_ | with_reducible refine S_step ?_ | with_reducible refine D_step ?_ | with_reducible refine RO.exit ?_ | with_reducible refine RO.ret ?_ | ((with_reducible refine And.intro ?sc ?_); case sc => exact side) | ((with_reducible refine br_f ?sc ?_); case sc => exact sideB) | ((with_reducible refine br_t ?sc ?_); case sc => exact sideB))
      refine pdec_at (i := 5) (b := palB xs) rfl rfl (by omega) ⟨hc1, Nat.le_refl _⟩ (palB_bound xs hp) (fun l hd => ?_) (fun e he hd => ?_)
      · obtain rfl : cutL xs = l := by rw [palD_palB hp (by omega)] at hd; exact congrArg Prod.fst hd
        repeat ((conv => whnf); first | with_reducible refine O_step ?_ | with_reducible refine S_step ?_ | with_reducible refine D_step ?_ | with_reducible refine RO.exit ?_ | with_reducible refine RO.ret ?_ | ((with_reducible refine And.intro ?sc ?_); case sc => exact side) | ((with_reducible refine br_f ?sc ?_); case sc => exact sideB) | ((with_reducible refine br_t ?sc ?_); case sc => exact sideB))
        refine rcut_at (i := 0) rfl rfl (by omega) h0 (fun g3 c3 hc3 => ?_)
        repeat ((conv => whnf); first | with_reducible refine O_step ?_ | with_reducible refine S_step ?_ | with_reducible refine D_step ?_ | with_reducible refine RO.exit ?_ | with_reducible refine RO.ret ?_ | ((with_reducible refine And.intro ?sc ?_); case sc => exact side) | ((with_reducible refine br_f ?sc ?_); case sc => exact sideB) | ((with_reducible refine br_t ?sc ?_); case sc => exact sideB))
        refine rsame_at (i := 11) (j := 12) rfl rfl rfl rfl (by omega) (by omega) ?_
        repeat ((conv => whnf); first | with_reducible refine O_step ?_ | with_reducible refine S_step ?_ | with_reducible refine D_step ?_ | with_reducible refine RO.exit ?_ | with_reducible refine RO.ret ?_ | ((with_reducible refine And.intro ?sc ?_); case sc => exact side) | ((with_reducible refine br_f ?sc ?_); case sc => exact sideB) | ((with_reducible refine br_t ?sc ?_); case sc => exact sideB))
        refine rsize_at (k := ((cols xs).length : Int)) (by omega) ?_
        rw [show (((cols xs).length : Int)).toNat = (cols xs).length from rfl]
        repeat ((conv => whnf); first | with_reducible refine O_step ?_ | with_reducible refine S_step ?_ | with_reducible refine D_step ?_ | with_reducible refine RO.exit ?_ | with_reducible refine RO.ret ?_ | ((with_reducible refine And.intro ?sc ?_); case sc => exact side) | ((with_reducible refine br_f ?sc ?_); case sc => exact sideB) | ((with_reducible refine br_t ?sc ?_); case sc => exact sideB))
        rw [show (xs.length : Int) * (sizeF (cols xs).length : Int) = ((xs.length * sizeF (cols xs).length : Nat) : Int) by push_cast; rfl]
        repeat ((conv => whnf); first | with_reducible refine O_step ?_ | with_reducible refine S_step ?_ | with_reducible refine D_step ?_ | with_reducible refine RO.exit ?_ | with_reducible refine RO.ret ?_ | ((with_reducible refine And.intro ?sc ?_); case sc => exact side) | ((with_reducible refine br_f ?sc ?_); case sc => exact sideB) | ((with_reducible refine br_t ?sc ?_); case sc => exact sideB))
        rw [show (((xs.length * sizeF (cols xs).length : Nat) : Int) + 7).tdiv 8 = (((xs.length * sizeF (cols xs).length + 7) / 8 : Nat) : Int) by rw [Int.tdiv_eq_ediv_of_nonneg (by omega)]; push_cast; rfl]
        repeat ((conv => whnf); first | with_reducible refine O_step ?_ | with_reducible refine S_step ?_ | with_reducible refine D_step ?_ | with_reducible refine RO.exit ?_ | with_reducible refine RO.ret ?_ | ((with_reducible refine And.intro ?sc ?_); case sc => exact side) | ((with_reducible refine br_f ?sc ?_); case sc => exact sideB) | ((with_reducible refine br_t ?sc ?_); case sc => exact sideB))
        refine br_t (decide_eq_true (by omega)) ?_
        repeat ((conv => whnf); first | with_reducible refine O_step ?_ | with_reducible refine S_step ?_ | with_reducible refine D_step ?_ | with_reducible refine RO.exit ?_ | with_reducible refine RO.ret ?_ | ((with_reducible refine And.intro ?sc ?_); case sc => exact side) | ((with_reducible refine br_f ?sc ?_); case sc => exact sideB) | ((with_reducible refine br_t ?sc ?_); case sc => exact sideB))
        refine tells12_at ?_
        repeat ((conv => whnf); first | with_reducible refine O_step ?_ | with_reducible refine S_step ?_ | with_reducible refine D_step ?_ | with_reducible refine RO.exit ?_ | with_reducible refine RO.ret ?_ | ((with_reducible refine And.intro ?sc ?_); case sc => exact side) | ((with_reducible refine br_f ?sc ?_); case sc => exact sideB) | ((with_reducible refine br_t ?sc ?_); case sc => exact sideB))
        rfl
      · rw [palD_palB hp (by omega)] at hd
        exact absurd (congrArg Prod.snd hd).symm he

theorem palB_zero (xs : List Int) (h : ¬ palN xs) : ∃ r, palB xs = (((cols xs).length : Int) - 1) :: r := ⟨_, rfl⟩


theorem paletteTurned_law (xs : List Int) (c : Nat) (hc : xs.length ≤ c ∧ c ≤ 9223372036854775807) (hx : ∀ x ∈ xs, IntKind.u32.min ≤ x ∧ x ≤ IntKind.u32.max) (n : Int) (hn : IntKind.u8.min ≤ n ∧ n ≤ IntKind.u8.max) :
    CallA Try.prog 12 [.sl 0 0 0 xs.length c, .int .u8 n] [.one false 0 (.ints .u32 xs c)] (fun r _ => r = .bo true) (fun _ _ => False) := by
  have h0 : ∀ x ∈ xs, 0 ≤ x ∧ x < 4294967296 := fun x h => ⟨(hx x h).1, by have : x ≤ 4294967295 := (hx x h).2; omega⟩
  have hn' : 0 ≤ n ∧ n ≤ 255 := hn
  have hm : n.tmod 20 = n % 20 := Int.tmod_eq_emod_of_nonneg (by omega)
  obtain ⟨k, hk⟩ : ∃ k : Nat, 1 + n % 20 = k := ⟨(1 + n % 20).toNat, by omega⟩
  have hk20 : k ≤ 20 := by omega
  have hk1 : 1 ≤ k := by omega
  refine step12 (fun _ => [0, 6, 11]) [] rfl ?_
  repeat ((conv => whnf); first | with_reducible refine O_step ?_ | with_reducible refine S_step ?_ | with_reducible refine D_step ?_ | with_reducible refine RO.exit ?_ | with_reducible refine RO.ret ?_ | ((with_reducible refine And.intro ?sc ?_); case sc => exact side) | ((with_reducible refine br_f ?sc ?_); case sc => exact sideB) | ((with_reducible refine br_t ?sc ?_); case sc => exact sideB))
  refine And.intro (fun h => ?_) (fun h => ?_)
  · repeat ((conv => whnf); first | with_reducible refine O_step ?_ | with_reducible refine S_step ?_ | with_reducible refine D_step ?_ | with_reducible refine RO.exit ?_ | with_reducible refine RO.ret ?_ | ((with_reducible refine And.intro ?sc ?_); case sc => exact side) | ((with_reducible refine br_f ?sc ?_); case sc => exact sideB) | ((with_reducible refine br_t ?sc ?_); case sc => exact sideB))
    rfl
  · have hl : xs.length ≤ 1000 := by have := of_decide_eq_false h; omega
    repeat ((conv => whnf); first | with_reducible refine O_step ?_ | with_reducible refine S_step ?_ | with_reducible refine D_step ?_ | with_reducible refine RO.exit ?_ | with_reducible refine RO.ret ?_ | ((with_reducible refine And.intro ?sc ?_); case sc => exact side) | ((with_reducible refine br_f ?sc ?_); case sc => exact sideB) | ((with_reducible refine br_t ?sc ?_); case sc => exact sideB))
    refine WO.gov (σ := Nat × Nat × Nat × List Int) (fun (m, g, cc, ys) => m ≤ xs.length ∧ ys.length ≤ cc ∧ ys = xs.reverse.take m) (fun (m, _) => xs.length - m)
      (fun (m, g, cc, ys) => [(0, .sl 0 0 0 xs.length c), (1, .int .u8 n), (5, .sl 1 g 0 ys.length cc), (6, .int .i64 ((xs.length : Int) - 1 - m))])
      (fun (m, g, cc, ys) => [.one false 0 (.ints .u32 xs c), .one true g (.ints .u32 ys cc)]) (0, 0, 0, []) tb_ok mixed (by kernel_rfl)
      [(0, .sl 0 0 0 xs.length c), (1, .int .u8 n), (5, .ns), (6, .int .i64 ((xs.length : Int) - 1))] _ ⟨Nat.zero_le _, Nat.zero_le _, rfl⟩ (And.intro rfl (And.intro rfl (And.intro rfl (And.intro rfl (trivial))))) rfl (Vw.nils (x := .ints .u32 [] 0) ⟨rfl, rfl⟩ ?_) (And.intro rfl (And.intro rfl (trivial))) (fun _ => rfl) (fun _ => rfl) (fun _ => ⟨trivial, trivial, trivial⟩) ?_
    · exact And.intro (.inl rfl) (And.intro (.inl rfl) (And.intro (.inr ⟨rfl, rfl⟩) (And.intro (.inl (by simp)) trivial)))
    rintro ⟨m, g, cc, ys⟩ ⟨h1, h2, h3⟩ d
    have hyl : ys.length = m := by rw [h3, List.length_take, List.length_reverse]; omega
    repeat ((conv => whnf); first | with_reducible refine O_step ?_ | with_reducible refine S_step ?_ | with_reducible refine D_step ?_ | with_reducible refine RO.exit ?_ | with_reducible refine RO.ret ?_ | ((with_reducible refine And.intro ?sc ?_); case sc => exact side) | ((with_reducible refine br_f ?sc ?_); case sc => exact sideB) | ((with_reducible refine br_t ?sc ?_); case sc => exact sideB))
    refine And.intro (fun hB => ?_) (fun hB => ?_)
    · have hB' : 0 ≤ (xs.length : Int) - 1 - m := of_decide_eq_true hB
      repeat ((conv => whnf); first | with_reducible refine O_step ?_ | with_reducible refine S_step ?_ | with_reducible refine D_step ?_ | with_reducible refine RO.exit ?_ | with_reducible refine RO.ret ?_ | ((with_reducible refine And.intro ?sc ?_); case sc => exact side) | ((with_reducible refine br_f ?sc ?_); case sc => exact sideB) | ((with_reducible refine br_t ?sc ?_); case sc => exact sideB))
      intro zs hzs
      have hz : zs = [xs.reverse.getD m 0] := by
        rw [hzs]
        show [xs.getD (((xs.length : Int) - 1 - m).toNat + 0) 0] = _
        rw [getD_get (by omega), getD_get (by rw [List.length_reverse]; omega), List.getElem_reverse]
        congr 2; omega
      subst hz
      repeat ((conv => whnf); first | with_reducible refine O_step ?_ | with_reducible refine S_step ?_ | with_reducible refine D_step ?_ | with_reducible refine RO.exit ?_ | with_reducible refine RO.ret ?_ | ((with_reducible refine And.intro ?sc ?_); case sc => exact side) | ((with_reducible refine br_f ?sc ?_); case sc => exact sideB) | ((with_reducible refine br_t ?sc ?_); case sc => exact sideB))
      intro c2 hc2
      repeat ((conv => whnf); first | with_reducible refine O_step ?_ | with_reducible refine S_step ?_ | with_reducible refine D_step ?_ | with_reducible refine RO.exit ?_ | with_reducible refine RO.ret ?_ | ((with_reducible refine And.intro ?sc ?_); case sc => exact side) | ((with_reducible refine br_f ?sc ?_); case sc => exact sideB) | ((with_reducible refine br_t ?sc ?_); case sc => exact sideB))
      refine RO.same (m + 1, g + 1, c2, ys ++ [xs.reverse.getD m 0]) ⟨by omega, by rw [List.length_append]; exact hc2, ?_⟩ (show xs.length - (m + 1) < xs.length - m by omega) (And.intro rfl (And.intro rfl (And.intro (by rw [List.length_append]; rfl) (And.intro ?_ trivial)))) (And.intro rfl (And.intro rfl (subA_nil _)))
      · rw [h3, List.take_succ_eq_append_getElem (by rw [List.length_reverse]; omega), getD_get (by rw [List.length_reverse]; omega)]
      · show AV.int .i64 ((xs.length : Int) - 1 - m - 1) = AV.int .i64 ((xs.length : Int) - 1 - (m + 1 : Nat))
        congr 1; push_cast; omega
    · have hB' : ¬ 0 ≤ (xs.length : Int) - 1 - m := of_decide_eq_false hB
      obtain rfl : m = xs.length := by omega
      rw [List.take_of_length_le (by rw [List.length_reverse]; omega)] at h3
      subst h3
      have hcr := cols_reverse xs
      have h0r : ∀ x ∈ xs.reverse, 0 ≤ x ∧ x < 4294967296 := fun x hx => h0 x (List.mem_reverse.1 hx)
      have hrl : xs.reverse.length = xs.length := List.length_reverse
      repeat ((conv => whnf); first | with_reducible refine O_step ?_ | with_reducible refine S_step ?_ | with_reducible refine D_step ?_ | with_reducible refine RO.exit ?_ | with_reducible refine RO.ret ?_ | ((with_reducible refine And.intro ?sc ?_); case sc => exact side) | ((with_reducible refine br_f ?sc ?_); case sc => exact sideB) | ((with_reducible refine br_t ?sc ?_); case sc => exact sideB))
      by_cases hp : palN xs
      · have hpr : palN xs.reverse := by unfold palN at hp ⊢; rw [hcr]; exact hp
        refine penc_no (i := 0) hp rfl rfl (by omega) h0 ?_
        repeat ((conv => whnf); first | with_reducible refine O_step ?_ | with_reducible refine S_step ?_ | with_reducible refine D_step ?_ | with_reducible refine RO.exit ?_ | with_reducible refine RO.ret ?_ | ((with_reducible refine And.intro ?sc ?_); case sc => exact side) | ((with_reducible refine br_f ?sc ?_); case sc => exact sideB) | ((with_reducible refine br_t ?sc ?_); case sc => exact sideB))
        refine penc_no (i := 1) hpr rfl rfl (by omega) h0r ?_
        repeat ((conv => whnf); first | with_reducible refine O_step ?_ | with_reducible refine S_step ?_ | with_reducible refine D_step ?_ | with_reducible refine RO.exit ?_ | with_reducible refine RO.ret ?_ | ((with_reducible refine And.intro ?sc ?_); case sc => exact side) | ((with_reducible refine br_f ?sc ?_); case sc => exact sideB) | ((with_reducible refine br_t ?sc ?_); case sc => exact sideB))
        rw [hm]
        repeat ((conv => whnf); first | with_reducible refine O_step ?_ | with_reducible refine S_step ?_ | with_reducible refine D_step ?_ | with_reducible refine RO.exit ?_ | with_reducible refine RO.ret ?_ | ((with_reducible refine And.intro ?sc ?_); case sc => exact side) | ((with_reducible refine br_f ?sc ?_); case sc => exact sideB) | ((with_reducible refine br_t ?sc ?_); case sc => exact sideB))
        rw [hk]
        repeat ((conv => whnf); first | with_reducible refine O_step ?_ | with_reducible refine S_step ?_ | with_reducible refine D_step ?_ | with_reducible refine RO.exit ?_ | with_reducible refine RO.ret ?_ | ((with_reducible refine And.intro ?sc ?_); case sc => exact side) | ((with_reducible refine br_f ?sc ?_); case sc => exact sideB) | ((with_reducible refine br_t ?sc ?_); case sc => exact sideB))
        refine WO.gov (σ := Nat × Nat × Nat × List Int) (fun (i, g, cc, ys) => i ≤ k ∧ ys.length ≤ cc ∧ ys = greys i) (fun (i, _) => k - i)
          (fun (i, g, cc, ys) => [(11, .int .i64 k), (12, .sl 2 g 0 ys.length cc), (13, .int .i64 i)])
          (fun (i, g, cc, ys) => [.one false 0 (.ints .u32 xs c), .gone, .one true g (.ints .u32 ys cc)]) (0, 0, 0, []) tb_ok mixed (by kernel_rfl)
          [(11, .int .i64 k), (12, .ns), (13, .int .i64 0)] _ ⟨Nat.zero_le _, Nat.zero_le _, rfl⟩ (And.intro rfl (And.intro rfl (And.intro rfl (trivial)))) rfl (Vw.nils (x := .ints .u32 [] 0) ⟨rfl, rfl⟩ ?_) (And.intro rfl (And.intro trivial (And.intro rfl (trivial)))) (fun _ => rfl) (fun _ => rfl) (fun _ => ⟨trivial, trivial, trivial, trivial⟩) ?_
        · exact And.intro (.inl rfl) (And.intro (.inr ⟨rfl, rfl⟩) (And.intro (.inl rfl) trivial))
        rintro ⟨i, g, cc, ys⟩ ⟨i1, i2, i3⟩ d2
        have hgl : ys.length = i := by rw [i3]; simp [greys]
        repeat ((conv => whnf); first | with_reducible refine O_step ?_ | with_reducible refine S_step ?_ | with_reducible refine D_step ?_ | with_reducible refine RO.exit ?_ | with_reducible refine RO.ret ?_ | ((with_reducible refine And.intro ?sc ?_); case sc => exact side) | ((with_reducible refine br_f ?sc ?_); case sc => exact sideB) | ((with_reducible refine br_t ?sc ?_); case sc => exact sideB))
        refine And.intro (fun hC => ?_) (fun hC => ?_)
        · have hC' : (i : Int) < k := of_decide_eq_true hC
          repeat ((conv => whnf); first | with_reducible refine O_step ?_ | with_reducible refine S_step ?_ | with_reducible refine D_step ?_ | with_reducible refine RO.exit ?_ | with_reducible refine RO.ret ?_ | ((with_reducible refine And.intro ?sc ?_); case sc => exact side) | ((with_reducible refine br_f ?sc ?_); case sc => exact sideB) | ((with_reducible refine br_t ?sc ?_); case sc => exact sideB))
          intro zs hzs
          have hz : zs = [(i : Int) * 65793] := by
            rw [hzs]
            show [(i : Int) % 4294967296 * 65793 % 4294967296] = _
            congr 1; omega
          subst hz
          repeat ((conv => whnf); first | with_reducible refine O_step ?_ | with_reducible refine S_step ?_ | with_reducible refine D_step ?_ | with_reducible refine RO.exit ?_ | with_reducible refine RO.ret ?_ | ((with_reducible refine And.intro ?sc ?_); case sc => exact side) | ((with_reducible refine br_f ?sc ?_); case sc => exact sideB) | ((with_reducible refine br_t ?sc ?_); case sc => exact sideB))
          intro c5 hc5
          repeat ((conv => whnf); first | with_reducible refine O_step ?_ | with_reducible refine S_step ?_ | with_reducible refine D_step ?_ | with_reducible refine RO.exit ?_ | with_reducible refine RO.ret ?_ | ((with_reducible refine And.intro ?sc ?_); case sc => exact side) | ((with_reducible refine br_f ?sc ?_); case sc => exact sideB) | ((with_reducible refine br_t ?sc ?_); case sc => exact sideB))
          exact RO.same (i + 1, g + 1, c5, ys ++ [(i : Int) * 65793]) ⟨by omega, by rw [List.length_append]; exact hc5, by rw [i3, greys_succ]⟩ (show k - (i + 1) < k - i by omega) (And.intro rfl (And.intro (by rw [List.length_append]; rfl) (And.intro rfl trivial))) (And.intro rfl (And.intro trivial (And.intro rfl (subA_nil _))))
        · have hC' : ¬ (i : Int) < k := of_decide_eq_false hC
          obtain rfl : k = i := by omega
          obtain ⟨gc1, gc2⟩ := greys_cols hk20
          have hgb := greys_bound hk20
          rw [← i3] at gc1 gc2 hgb
          have hgb' : ∀ x ∈ ys, 0 ≤ x ∧ x < 4294967296 := fun x hx => by have := hgb x hx; omega
          have hpl2 := palB_length ys
          rw [gc2] at hpl2
          have hs4 := sizeF_le ys.length
          have hns : ys.length * sizeF ys.length ≤ ys.length * 4 := Nat.mul_le_mul_left _ hs4
          repeat ((conv => whnf); first | with_reducible refine O_step ?_ | with_reducible refine S_step ?_ | with_reducible refine D_step ?_ | with_reducible refine RO.exit ?_ | with_reducible refine RO.ret ?_ | ((with_reducible refine And.intro ?sc ?_); case sc => exact side) | ((with_reducible refine br_f ?sc ?_); case sc => exact sideB) | ((with_reducible refine br_t ?sc ?_); case sc => exact sideB))
          by_cases hq : palN ys
          · have hq' := hq
            unfold palN at hq'
            rw [gc2] at hq'
            refine penc_no (i := 2) hq rfl rfl (by omega) hgb' ?_
            repeat ((conv => whnf); first | with_reducible refine O_step ?_ | with_reducible refine S_step ?_ | with_reducible refine D_step ?_ | with_reducible refine RO.exit ?_ | with_reducible refine RO.ret ?_ | ((with_reducible refine And.intro ?sc ?_); case sc => exact side) | ((with_reducible refine br_f ?sc ?_); case sc => exact sideB) | ((with_reducible refine br_t ?sc ?_); case sc => exact sideB))
            refine br_f ?_ ?_
            · rw [decide_eq_false (by omega)]; rfl
            repeat ((conv => whnf); first | with_reducible refine O_step ?_ | with_reducible refine S_step ?_ | with_reducible refine D_step ?_ | with_reducible refine RO.exit ?_ | with_reducible refine RO.ret ?_ | ((with_reducible refine And.intro ?sc ?_); case sc => exact side) | ((with_reducible refine br_f ?sc ?_); case sc => exact sideB) | ((with_reducible refine br_t ?sc ?_); case sc => exact sideB))
            refine tells12_at ?_
            repeat ((conv => whnf); first | with_reducible refine O_step ?_ | with_reducible refine S_step ?_ | with_reducible refine D_step ?_ | with_reducible refine RO.exit ?_ | with_reducible refine RO.ret ?_ | ((with_reducible refine And.intro ?sc ?_); case sc => exact side) | ((with_reducible refine br_f ?sc ?_); case sc => exact sideB) | ((with_reducible refine br_t ?sc ?_); case sc => exact sideB))
            rfl
          · have hq' := hq
            unfold palN at hq'
            rw [gc2] at hq'
            have hpd := palD_palB hq (by omega)
            rw [gc1, hgl] at hpd
            refine penc_ok (i := 2) hq rfl rfl (by omega) hgb' (fun g6 c6 hc6 => ?_)
            repeat ((conv => whnf); first | with_reducible refine O_step ?_ | with_reducible refine S_step ?_ | with_reducible refine D_step ?_ | with_reducible refine RO.exit ?_ | with_reducible refine RO.ret ?_ | ((with_reducible refine And.intro ?sc ?_); case sc => exact side) | ((with_reducible refine br_f ?sc ?_); case sc => exact sideB) | ((with_reducible refine br_t ?sc ?_); case sc => exact sideB))
            refine br_f ?_ ?_
            · rw [decide_eq_true (by omega)]; rfl
            repeat ((conv => whnf); first | with_reducible refine O_step ?_ | with_reducible refine S_step ?_ | with_reducible refine D_step ?_ | with_reducible refine RO.exit ?_ | with_reducible refine RO.ret ?_ | ((with_reducible refine And.intro ?sc ?_); case sc => exact side) | ((with_reducible refine br_f ?sc ?_); case sc => exact sideB) | ((with_reducible refine br_t ?sc ?_); case sc => exact sideB))
            refine pdec_ok (i := 7) hpd rfl rfl (by omega) ⟨hc6, Nat.le_refl _⟩ (palB_bound ys hq) ?_
            repeat ((conv => whnf); first | with_reducible refine O_step ?_ | with_reducible refine S_step ?_ | with_reducible refine D_step ?_ | with_reducible refine RO.exit ?_ | with_reducible refine RO.ret ?_ | ((with_reducible refine And.intro ?sc ?_); case sc => exact side) | ((with_reducible refine br_f ?sc ?_); case sc => exact sideB) | ((with_reducible refine br_t ?sc ?_); case sc => exact sideB))
            refine rsame_at (i := 11) (j := 2) rfl rfl rfl rfl (by omega) (by omega) ?_
            repeat ((conv => whnf); first | with_reducible refine O_step ?_ | with_reducible refine S_step ?_ | with_reducible refine D_step ?_ | with_reducible refine RO.exit ?_ | with_reducible refine RO.ret ?_ | ((with_reducible refine And.intro ?sc ?_); case sc => exact side) | ((with_reducible refine br_f ?sc ?_); case sc => exact sideB) | ((with_reducible refine br_t ?sc ?_); case sc => exact sideB))
            have he0 : (palB ys).getD (Int.toNat 0 + 0) 0 = (k : Int) - 1 := by
              show ((cols ys).length : Int) - 1 = _
              rw [gc2, hgl]
            rw [he0]
            repeat ((conv => whnf); first | with_reducible refine O_step ?_ | with_reducible refine S_step ?_ | with_reducible refine D_step ?_ | with_reducible refine RO.exit ?_ | with_reducible refine RO.ret ?_ | ((with_reducible refine And.intro ?sc ?_); case sc => exact side) | ((with_reducible refine br_f ?sc ?_); case sc => exact sideB) | ((with_reducible refine br_t ?sc ?_); case sc => exact sideB))
            refine tells12_at ?_
            repeat ((conv => whnf); first | with_reducible refine O_step ?_ | with_reducible refine S_step ?_ | with_reducible refine D_step ?_ | with_reducible refine RO.exit ?_ | with_reducible refine RO.ret ?_ | ((with_reducible refine And.intro ?sc ?_); case sc => exact side) | ((with_reducible refine br_f ?sc ?_); case sc => exact sideB) | ((with_reducible refine br_t ?sc ?_); case sc => exact sideB))
            rfl
      · have hpr : ¬ palN xs.reverse := by unfold palN at hp ⊢; rw [hcr]; exact hp
        have hpl : (palB xs.reverse).length = (palB xs).length := by rw [palB_length, palB_length, hcr, hrl]
        have hp0 : 0 < (palB xs).length := by rw [palB_length]; omega
        refine penc_ok (i := 0) hp rfl rfl (by omega) h0 (fun g1 c1 hc1 => ?_)
        repeat ((conv => whnf); first | with_reducible refine O_step ?_ | with_reducible refine S_step ?_ | with_reducible refine D_step ?_ | with_reducible refine RO.exit ?_ | with_reducible refine RO.ret ?_ | ((with_reducible refine And.intro ?sc ?_); case sc => exact side) | ((with_reducible refine br_f ?sc ?_); case sc => exact sideB) | ((with_reducible refine br_t ?sc ?_); case sc => exact sideB))
        refine penc_ok (i := 1) hpr rfl rfl (by omega) h0r (fun g2 c2 hc2 => ?_)
        rw [hpl] at hc2 ⊢
        repeat ((conv => whnf); first | with_reducible refine O_step ?_ | with_reducible refine S_step ?_ | with_reducible refine D_step ?_ | with_reducible refine RO.exit ?_ | with_reducible refine RO.ret ?_ | ((with_reducible refine And.intro ?sc ?_); case sc => exact side) | ((with_reducible refine br_f ?sc ?_); case sc => exact sideB) | ((with_reducible refine br_t ?sc ?_); case sc => exact sideB))
        refine br_f ?_ ?_
        · show (!decide (((cols xs).length : Int) - 1 = ((cols xs.reverse).length : Int) - 1)) = false
          rw [hcr]; simp
        repeat ((conv => whnf); first | with_reducible refine O_step ?_ | with_reducible refine S_step ?_ | with_reducible refine D_step ?_ | with_reducible refine RO.exit ?_ | with_reducible refine RO.ret ?_ | ((with_reducible refine And.intro ?sc ?_); case sc => exact side) | ((with_reducible refine br_f ?sc ?_); case sc => exact sideB) | ((with_reducible refine br_t ?sc ?_); case sc => exact sideB))
        rw [hm]
        repeat ((conv => whnf); first | with_reducible refine O_step ?_ | with_reducible refine S_step ?_ | with_reducible refine D_step ?_ | with_reducible refine RO.exit ?_ | with_reducible refine RO.ret ?_ | ((with_reducible refine And.intro ?sc ?_); case sc => exact side) | ((with_reducible refine br_f ?sc ?_); case sc => exact sideB) | ((with_reducible refine br_t ?sc ?_); case sc => exact sideB))
        rw [hk]
        repeat ((conv => whnf); first | with_reducible refine O_step ?_ | with_reducible refine S_step ?_ | with_reducible refine D_step ?_ | with_reducible refine RO.exit ?_ | with_reducible refine RO.ret ?_ | ((with_reducible refine And.intro ?sc ?_); case sc => exact side) | ((with_reducible refine br_f ?sc ?_); case sc => exact sideB) | ((with_reducible refine br_t ?sc ?_); case sc => exact sideB))
        refine WO.gov (σ := Nat × Nat × Nat × List Int) (fun (i, g, cc, ys) => i ≤ k ∧ ys.length ≤ cc ∧ ys = greys i) (fun (i, _) => k - i)
          (fun (i, g, cc, ys) => [(11, .int .i64 k), (12, .sl 12 g 0 ys.length cc), (13, .int .i64 i)])
          (fun (i, g, cc, ys) => [.one false 0 (.ints .u32 xs c), .gone, .gone, .gone, .gone, .gone, .gone, .gone, .gone, .gone, .gone, .gone, .one true g (.ints .u32 ys cc)]) (0, 0, 0, []) tb_ok mixed (by kernel_rfl)
          [(11, .int .i64 k), (12, .ns), (13, .int .i64 0)] _ ⟨Nat.zero_le _, Nat.zero_le _, rfl⟩ (And.intro rfl (And.intro rfl (And.intro rfl (trivial)))) rfl (Vw.nils (x := .ints .u32 [] 0) ⟨rfl, rfl⟩ ?_) (And.intro rfl (And.intro trivial (And.intro trivial (And.intro trivial (And.intro trivial (And.intro trivial (And.intro trivial (And.intro trivial (And.intro trivial (And.intro trivial (And.intro trivial (And.intro trivial (And.intro rfl (trivial)))))))))))))) (fun _ => rfl) (fun _ => rfl) (fun _ => ⟨trivial, trivial, trivial, trivial, trivial, trivial, trivial, trivial, trivial, trivial, trivial, trivial, trivial, trivial⟩) ?_
        · exact And.intro (.inl rfl) (And.intro (.inr ⟨rfl, rfl⟩) (And.intro (.inl rfl) trivial))
        rintro ⟨i, g, cc, ys⟩ ⟨i1, i2, i3⟩ d2
        have hgl : ys.length = i := by rw [i3]; simp [greys]
        repeat ((conv => whnf); first | with_reducible refine O_step ?_ | with_reducible refine S_step ?_ | with_reducible refine D_step ?_ | with_reducible refine RO.exit ?_ | with_reducible refine RO.ret ?_ | ((with_reducible refine And.intro ?sc ?_); case sc => exact side) | ((with_reducible refine br_f ?sc ?_); case sc => exact sideB) | ((with_reducible refine br_t ?sc ?_); case sc => exact sideB))
        refine And.intro (fun hC => ?_) (fun hC => ?_)
        · have hC' : (i : Int) < k := of_decide_eq_true hC
          repeat ((conv => whnf); first | with_reducible refine O_step ?_ | with_reducible refine S_step ?_ | with_reducible refine D_step ?_ | with_reducible refine RO.exit ?_ | with_reducible refine RO.ret ?_ | ((with_reducible refine And.intro ?sc ?_); case sc => exact side) | ((with_reducible refine br_f ?sc ?_); case sc => exact sideB) | ((with_reducible refine br_t ?sc ?_); case sc => exact sideB))
          intro zs hzs
          have hz : zs = [(i : Int) * 65793] := by
            rw [hzs]
            show [(i : Int) % 4294967296 * 65793 % 4294967296] = _
            congr 1; omega
          subst hz
          repeat ((conv => whnf); first | with_reducible refine O_step ?_ | with_reducible refine S_step ?_ | with_reducible refine D_step ?_ | with_reducible refine RO.exit ?_ | with_reducible refine RO.ret ?_ | ((with_reducible refine And.intro ?sc ?_); case sc => exact side) | ((with_reducible refine br_f ?sc ?_); case sc => exact sideB) | ((with_reducible refine br_t ?sc ?_); case sc => exact sideB))
          intro c5 hc5
          repeat ((conv => whnf); first | with_reducible refine O_step ?_ | with_reducible refine S_step ?_ | with_reducible refine D_step ?_ | with_reducible refine RO.exit ?_ | with_reducible refine RO.ret ?_ | ((with_reducible refine And.intro ?sc ?_); case sc => exact side) | ((with_reducible refine br_f ?sc ?_); case sc => exact sideB) | ((with_reducible refine br_t ?sc ?_); case sc => exact sideB))
          exact RO.same (i + 1, g + 1, c5, ys ++ [(i : Int) * 65793]) ⟨by omega, by rw [List.length_append]; exact hc5, by rw [i3, greys_succ]⟩ (show k - (i + 1) < k - i by omega) (And.intro rfl (And.intro (by rw [List.length_append]; rfl) (And.intro rfl trivial))) (And.intro rfl (And.intro trivial (And.intro trivial (And.intro trivial (And.intro trivial (And.intro trivial (And.intro trivial (And.intro trivial (And.intro trivial (And.intro trivial (And.intro trivial (And.intro trivial (And.intro rfl (subA_nil _))))))))))))))
        · have hC' : ¬ (i : Int) < k := of_decide_eq_false hC
          obtain rfl : k = i := by omega
          obtain ⟨gc1, gc2⟩ := greys_cols hk20
          have hgb := greys_bound hk20
          rw [← i3] at gc1 gc2 hgb
          have hgb' : ∀ x ∈ ys, 0 ≤ x ∧ x < 4294967296 := fun x hx => by have := hgb x hx; omega
          have hpl2 := palB_length ys
          rw [gc2] at hpl2
          have hs4 := sizeF_le ys.length
          have hns : ys.length * sizeF ys.length ≤ ys.length * 4 := Nat.mul_le_mul_left _ hs4
          repeat ((conv => whnf); first | with_reducible refine O_step ?_ | with_reducible refine S_step ?_ | with_reducible refine D_step ?_ | with_reducible refine RO.exit ?_ | with_reducible refine RO.ret ?_ | ((with_reducible refine And.intro ?sc ?_); case sc => exact side) | ((with_reducible refine br_f ?sc ?_); case sc => exact sideB) | ((with_reducible refine br_t ?sc ?_); case sc => exact sideB))
          by_cases hq : palN ys
          · have hq' := hq
            unfold palN at hq'
            rw [gc2] at hq'
            refine penc_no (i := 12) hq rfl rfl (by omega) hgb' ?_
            repeat ((conv => whnf); first | with_reducible refine O_step ?_ | with_reducible refine S_step ?_ | with_reducible refine D_step ?_ | with_reducible refine RO.exit ?_ | with_reducible refine RO.ret ?_ | ((with_reducible refine And.intro ?sc ?_); case sc => exact side) | ((with_reducible refine br_f ?sc ?_); case sc => exact sideB) | ((with_reducible refine br_t ?sc ?_); case sc => exact sideB))
            refine br_f ?_ ?_
            · rw [decide_eq_false (by omega)]; rfl
            repeat ((conv => whnf); first | with_reducible refine O_step ?_ | with_reducible refine S_step ?_ | with_reducible refine D_step ?_ | with_reducible refine RO.exit ?_ | with_reducible refine RO.ret ?_ | ((with_reducible refine And.intro ?sc ?_); case sc => exact side) | ((with_reducible refine br_f ?sc ?_); case sc => exact sideB) | ((with_reducible refine br_t ?sc ?_); case sc => exact sideB))
            refine tells12_at ?_
            repeat ((conv => whnf); first | with_reducible refine O_step ?_ | with_reducible refine S_step ?_ | with_reducible refine D_step ?_ | with_reducible refine RO.exit ?_ | with_reducible refine RO.ret ?_ | ((with_reducible refine And.intro ?sc ?_); case sc => exact side) | ((with_reducible refine br_f ?sc ?_); case sc => exact sideB) | ((with_reducible refine br_t ?sc ?_); case sc => exact sideB))
            rfl
          · have hq' := hq
            unfold palN at hq'
            rw [gc2] at hq'
            have hpd := palD_palB hq (by omega)
            rw [gc1, hgl] at hpd
            refine penc_ok (i := 12) hq rfl rfl (by omega) hgb' (fun g6 c6 hc6 => ?_)
            repeat ((conv => whnf); first | with_reducible refine O_step ?_ | with_reducible refine S_step ?_ | with_reducible refine D_step ?_ | with_reducible refine RO.exit ?_ | with_reducible refine RO.ret ?_ | ((with_reducible refine And.intro ?sc ?_); case sc => exact side) | ((with_reducible refine br_f ?sc ?_); case sc => exact sideB) | ((with_reducible refine br_t ?sc ?_); case sc => exact sideB))
            refine br_f ?_ ?_
            · rw [decide_eq_true (by omega)]; rfl
            repeat ((conv => whnf); first | with_reducible refine O_step ?_ | with_reducible refine S_step ?_ | with_reducible refine D_step ?_ | with_reducible refine RO.exit ?_ | with_reducible refine RO.ret ?_ | ((with_reducible refine And.intro ?sc ?_); case sc => exact side) | ((with_reducible refine br_f ?sc ?_); case sc => exact sideB) | ((with_reducible refine br_t ?sc ?_); case sc => exact sideB))
            refine pdec_ok (i := 17) hpd rfl rfl (by omega) ⟨hc6, Nat.le_refl _⟩ (palB_bound ys hq) ?_
            repeat ((conv => whnf); first | with_reducible refine O_step ?_ | with_reducible refine S_step ?_ | with_reducible refine D_step ?_ | with_reducible refine RO.exit ?_ | with_reducible refine RO.ret ?_ | ((with_reducible refine And.intro ?sc ?_); case sc => exact side) | ((with_reducible refine br_f ?sc ?_); case sc => exact sideB) | ((with_reducible refine br_t ?sc ?_); case sc => exact sideB))
            refine rsame_at (i := 21) (j := 12) rfl rfl rfl rfl (by omega) (by omega) ?_
            repeat ((conv => whnf); first | with_reducible refine O_step ?_ | with_reducible refine S_step ?_ | with_reducible refine D_step ?_ | with_reducible refine RO.exit ?_ | with_reducible refine RO.ret ?_ | ((with_reducible refine And.intro ?sc ?_); case sc => exact side) | ((with_reducible refine br_f ?sc ?_); case sc => exact sideB) | ((with_reducible refine br_t ?sc ?_); case sc => exact sideB))
            have he0 : (palB ys).getD (Int.toNat 0 + 0) 0 = (k : Int) - 1 := by
              show ((cols ys).length : Int) - 1 = _
              rw [gc2, hgl]
            rw [he0]
            repeat ((conv => whnf); first | with_reducible refine O_step ?_ | with_reducible refine S_step ?_ | with_reducible refine D_step ?_ | with_reducible refine RO.exit ?_ | with_reducible refine RO.ret ?_ | ((with_reducible refine And.intro ?sc ?_); case sc => exact side) | ((with_reducible refine br_f ?sc ?_); case sc => exact sideB) | ((with_reducible refine br_t ?sc ?_); case sc => exact sideB))
            refine tells12_at ?_
            repeat ((conv => whnf); first | with_reducible refine O_step ?_ | with_reducible refine S_step ?_ | with_reducible refine D_step ?_ | with_reducible refine RO.exit ?_ | with_reducible refine RO.ret ?_ | ((with_reducible refine And.intro ?sc ?_); case sc => exact side) | ((with_reducible refine br_f ?sc ?_); case sc => exact sideB) | ((with_reducible refine br_t ?sc ?_); case sc => exact sideB))
            rfl
end Go.Proofs.Ytaioclggifdnhaa
