/- Layer 6: HuffBest. -/
import Derived.Test.YtdnmbmnfglbfoaaLH4

set_option linter.unusedVariables false

set_option linter.unusedSimpArgs false

open Go.RowKit

namespace Go.Proofs.Ytdnmbmnfglbfoaa

set_option maxRecDepth 10000

theorem usedF_all {fr : List Int} (h : ∀ x ∈ fr, 1 ≤ x) : usedF fr = List.range fr.length := by
  unfold usedF
  rw [List.filter_eq_self]
  intro i hi
  have hi' : i < fr.length := by simpa using hi
  have := h _ (getD_memI (d := 0) hi')
  simp only [decide_eq_true_eq]; omega
theorem best_ok {fr : List Int} (h : ∀ x ∈ fr, 1 ≤ x) {K : Nat} (h1 : 1 ≤ K) (h4 : K ≤ 4) (h2 : 2 ≤ fr.length) {l : List Int} (hk : LensOk fr K l) (c : Nat → Nat) (hc : ∀ i, i < fr.length → 1 ≤ c i ∧ c i ≤ K) (hs : sumN fr.length (fun i => 2 ^ (4 - c i)) = 16) :
    sumN fr.length (fun i => fr.getD i 0 * l.getD i 0) ≤ sumN fr.length (fun i => fr.getD i 0 * c i) := by
  have hn : nF fr = fr.length := by show (usedF fr).length = _; rw [usedF_all h]; simp
  have hf : ∀ i, i < fr.length → fF fr i = fr.getD i 0 := by
    intro i hi
    unfold fF
    rw [usedF_all h]
    congr 1
    simp [List.getD_eq_getElem?_getD, List.getElem?_range hi]
  have hpos : ∀ i, i < fr.length → 0 < fr.getD i 0 := fun i hi => by have := h _ (getD_memI (d := 0) hi); omega
  have hcost := hk.cost (by omega)
  rw [sumN_congr (h := fun i => fr.getD i 0 * l.getD i 0) (fun i hi => if_pos (hpos i hi))] at hcost
  have e2 : sumN fr.length (fun i => 2 ^ (4 - K) * 2 ^ (K + 1 - c i)) = sumN fr.length (fun i => 2 * 2 ^ (4 - c i)) := by
    refine sumN_congr fun i hi => ?_
    have := hc i hi
    rw [← Int.pow_add, show 4 - K + (K + 1 - c i) = (4 - c i) + 1 by omega, Int.pow_succ, Int.mul_comm]
  rw [sumN_mul, sumN_mul, hs] at e2
  have e3 : sumN fr.length (fun i => (2 : Int) ^ (K + 1 - c i)) = 2 ^ (K + 1) := by
    rcases (show K = 1 ∨ K = 2 ∨ K = 3 ∨ K = 4 by omega) with rfl | rfl | rfl | rfl <;> simp only [Nat.reduceSub, Nat.reduceAdd, Int.reducePow] at e2 ⊢ <;> omega
  have e4 : sumN (nF fr) (fun i => wid K (c i)) = ((2 * nF fr - 2 : Nat) : Int) * 2 ^ K := by
    rw [hn]
    have a : sumN fr.length (fun i => wid K (c i) + 2 ^ (K + 1 - c i)) = fr.length * 2 ^ (K + 1) := by
      rw [sumN_congr (h := fun _ => 2 ^ (K + 1) * 1) fun i _ => by unfold wid; omega, sumN_mul, sumN_one, Int.mul_comm]
    rw [sumN_add, e3, Int.pow_succ] at a
    rw [show ((2 * fr.length - 2 : Nat) : Int) = 2 * (fr.length : Int) - 2 by omega, Int.sub_mul, Int.mul_comm 2 (fr.length : Int), Int.mul_assoc, Int.mul_comm 2 (2 ^ K)]
    omega
  obtain ⟨_, o2⟩ := opt (fr := fr) K c (2 * nF fr - 2) (fun i hi => (hc i (by omega)).2) e4
  rw [← hcost] at o2
  rw [hn] at o2
  rw [sumN_congr (g := fun i => fF fr i * (c i : Int)) (h := fun i => fr.getD i 0 * (c i : Int)) (fun i hi => by rw [hf i hi])] at o2
  exact o2
theorem shr16 {n : Nat} (h1 : 1 ≤ n) (h4 : n ≤ 4) : shrF .i64 16 (n : Int) = 2 ^ (4 - n) := by
  rcases (show n = 1 ∨ n = 2 ∨ n = 3 ∨ n = 4 by omega) with rfl | rfl | rfl | rfl <;> decide
def cJ (m r j : Nat) : Nat := 1 + r / m ^ j % m
theorem pow4 {m k : Nat} (hm : m ≤ 4) (hk : k ≤ 5) : m ^ k ≤ 1024 := by
  have h1 : m ^ k ≤ 4 ^ k := Nat.pow_le_pow_left hm k
  have h2 : 4 ^ k ≤ 4 ^ 5 := Nat.pow_le_pow_right (by decide) hk
  omega
theorem best_len {fr : List Int} (h : ∀ x ∈ fr, 1 ≤ x ∧ x ≤ 1000) {K : Nat} (h1 : 1 ≤ K) (h4 : K ≤ 4) (h5 : fr.length ≤ 5) (hK : fr.length ≤ 2 ^ K) : ∃ L, lengthsF fr (K : Int) = (L, 0) ∧ LensOk fr K L := by
  have hb : fr.any badI = false := by
    rw [List.any_eq_false]
    intro x hx
    have := h x hx
    simp only [badI, Bool.or_eq_true, decide_eq_true_eq]; omega
  have hn : (usedF fr).length ≤ 2 ^ K := Nat.le_trans (usedF_len fr) hK
  refine ⟨hlenF fr K, ?_, lens_ok hb (by omega) h1 (by omega) hn⟩
  unfold lengthsF lenB
  rw [hb, decide_eq_false (show ¬ (K : Int) < 1 by omega), decide_eq_false (show ¬ (15 : Int) < K by omega), decide_eq_false (show ¬ 320 < fr.length by omega), Int.toNat_natCast, if_neg (by simp), if_neg (by omega)]
theorem huffBest_law (xs : List Int) (c : Nat) (hc : xs.length ≤ c ∧ c ≤ 9223372036854775807) (hx : ∀ x ∈ xs, IntKind.u16.min ≤ x ∧ x ≤ IntKind.u16.max) (limit : Int) (hlim : IntKind.u8.min ≤ limit ∧ limit ≤ IntKind.u8.max) :
    CallA Try.prog 4 [.sl 0 0 0 xs.length c, .int .u8 limit] [.one false 0 (.ints .u16 xs c)] (fun r _ => r = .bo true) (fun _ _ => False) := by
  have hlm : 0 ≤ limit ∧ limit ≤ 255 := hlim
  have htm : limit.tmod 4 = limit % 4 := Int.tmod_eq_emod_of_nonneg hlm.1
  refine CallA.post_asB ?_
  refine step4 (fun _ => [0, 1, 2]) [] rfl ?_
  repeat ((conv => whnf); first | with_reducible refine O_step ?_ | with_reducible refine S_step ?_ | with_reducible refine D_step ?_ | with_reducible refine RO.exit ?_ | with_reducible refine RO.ret ?_ | ((with_reducible refine And.intro ?sc ?_); case sc => exact side) | ((with_reducible refine br_f ?sc ?_); case sc => exact sideB) | ((with_reducible refine br_t ?sc ?_); case sc => exact sideB))
  obtain ⟨m, hm⟩ : ∃ m : Nat, (m : Int) = 1 + limit.tmod 4 := ⟨(1 + limit.tmod 4).toNat, by omega⟩
  have hm4 : 1 ≤ m ∧ m ≤ 4 := by omega
  refine WO.gov (σ := Nat × List Int × Nat × Nat) (fun s => s.1 ≤ 5 ∧ s.1 ≤ xs.length ∧ s.2.1.length = s.1 ∧ s.2.1.length ≤ s.2.2.2 ∧ ∀ x ∈ s.2.1, 1 ≤ x ∧ x ≤ 1000) (fun s => xs.length - s.1)
    (fun s => [(0, .sl 0 0 0 xs.length c), (5, .int .i64 (m : Int)), (6, .sl 1 s.2.2.1 0 s.2.1.length s.2.2.2), (7, .int .i64 (s.1 : Int))])
    (fun s => [.one false 0 (.ints .u16 xs c), .one true s.2.2.1 (.ints .i64 s.2.1 s.2.2.2)]) (0, [], 0, 0) tb_ok mixed (by kernel_rfl)
    [(0, .sl 0 0 0 xs.length c), (5, .int .i64 (1 + limit.tmod 4)), (6, .ns), (7, .int .i64 0)] _ ⟨by decide, Nat.zero_le _, rfl, Nat.zero_le _, by intro x hx; cases hx⟩ (And.intro rfl (And.intro rfl (And.intro rfl (And.intro rfl (trivial))))) rfl
    (Vw.nils (x := .ints .i64 [] 0) ⟨rfl, rfl⟩ ?_) (And.intro rfl (And.intro rfl (trivial))) (fun _ => rfl) (fun _ => rfl) (fun _ => ⟨trivial, trivial, trivial⟩) ?_
  · exact And.intro (.inl rfl) (And.intro (.inl (by rw [hm])) (And.intro (.inr ⟨rfl, rfl⟩) (And.intro (.inl rfl) trivial)))
  rintro ⟨i, fr, g, c1⟩ ⟨i1, i2, i3, i4, i5⟩ d0
  simp only at i1 i2 i3 i4 i5
  repeat ((conv => whnf); first | with_reducible refine O_step ?_ | with_reducible refine S_step ?_ | with_reducible refine D_step ?_ | with_reducible refine RO.exit ?_ | with_reducible refine RO.ret ?_ | ((with_reducible refine And.intro ?sc ?_); case sc => exact side) | ((with_reducible refine br_f ?sc ?_); case sc => exact sideB) | ((with_reducible refine br_t ?sc ?_); case sc => exact sideB))
  refine And.intro (fun x1 => ?_) (fun x1 => ?_)
  · repeat ((conv => whnf); first | with_reducible refine O_step ?_ | with_reducible refine S_step ?_ | with_reducible refine D_step ?_ | with_reducible refine RO.exit ?_ | with_reducible refine RO.ret ?_ | ((with_reducible refine And.intro ?sc ?_); case sc => exact side) | ((with_reducible refine br_f ?sc ?_); case sc => exact sideB) | ((with_reducible refine br_t ?sc ?_); case sc => exact sideB))
    refine And.intro (fun x2 => ?_) (fun x2 => ?_)
    · have hil : i < xs.length := by simp only [decide_eq_true_eq] at x1; omega
      have hi5 : i < 5 := by simp only [decide_eq_true_eq] at x2; omega
      have hxi := hx _ (getD_memI (d := 0) hil)
      have b1 : 0 ≤ xs.getD ((i : Int).toNat + 0) 0 ∧ xs.getD ((i : Int).toNat + 0) 0 ≤ 65535 := hxi
      have b2 : (xs.getD ((i : Int).toNat + 0) 0).tmod 1000 = xs.getD ((i : Int).toNat + 0) 0 % 1000 := Int.tmod_eq_emod_of_nonneg b1.1
      repeat ((conv => whnf); first | with_reducible refine O_step ?_ | with_reducible refine S_step ?_ | with_reducible refine D_step ?_ | with_reducible refine RO.exit ?_ | with_reducible refine RO.ret ?_ | ((with_reducible refine And.intro ?sc ?_); case sc => exact side) | ((with_reducible refine br_f ?sc ?_); case sc => exact sideB) | ((with_reducible refine br_t ?sc ?_); case sc => exact sideB))
      intro zs hzs
      obtain rfl : zs = [1 + (xs.getD ((i : Int).toNat + 0) 0).tmod 1000] := by rw [hzs]; rfl
      repeat ((conv => whnf); first | with_reducible refine O_step ?_ | with_reducible refine S_step ?_ | with_reducible refine D_step ?_ | with_reducible refine RO.exit ?_ | with_reducible refine RO.ret ?_ | ((with_reducible refine And.intro ?sc ?_); case sc => exact side) | ((with_reducible refine br_f ?sc ?_); case sc => exact sideB) | ((with_reducible refine br_t ?sc ?_); case sc => exact sideB))
      intro c2 hc2
      repeat ((conv => whnf); first | with_reducible refine O_step ?_ | with_reducible refine S_step ?_ | with_reducible refine D_step ?_ | with_reducible refine RO.exit ?_ | with_reducible refine RO.ret ?_ | ((with_reducible refine And.intro ?sc ?_); case sc => exact side) | ((with_reducible refine br_f ?sc ?_); case sc => exact sideB) | ((with_reducible refine br_t ?sc ?_); case sc => exact sideB))
      refine RO.same (i + 1, fr ++ [1 + (xs.getD ((i : Int).toNat + 0) 0).tmod 1000], g + 1, c2) ⟨by show i + 1 ≤ 5; omega, by show i + 1 ≤ _; omega, by show (fr ++ [_]).length = i + 1; rw [List.length_append, i3]; rfl, by show (fr ++ [_]).length ≤ c2; rw [List.length_append]; exact hc2, ?_⟩ (show xs.length - (i + 1) < xs.length - i by omega)
        (And.intro rfl (And.intro rfl (And.intro ?_ (And.intro rfl trivial)))) (And.intro rfl (And.intro rfl (trivial)))
      · intro x hx
        rcases List.mem_append.1 hx with h | h
        · exact i5 x h
        · obtain rfl := List.mem_singleton.1 h; omega
      · show AV.sl 1 (g + 1) 0 (fr.length + 1) c2 = AV.sl 1 (g + 1) 0 (fr ++ [_]).length c2
        rw [List.length_append]; rfl
    · repeat ((conv => whnf); first | with_reducible refine O_step ?_ | with_reducible refine S_step ?_ | with_reducible refine D_step ?_ | with_reducible refine RO.exit ?_ | with_reducible refine RO.ret ?_ | ((with_reducible refine And.intro ?sc ?_); case sc => exact side) | ((with_reducible refine br_f ?sc ?_); case sc => exact sideB) | ((with_reducible refine br_t ?sc ?_); case sc => exact sideB))
      have hfl : fr.length ≤ 5 := by omega
      have hshl : shlF .i64 1 (m : Int) = ((2 ^ m : Nat) : Int) := shl_small m (by omega)
      refine And.intro (fun y1 => ?_) (fun y1 => ?_)
      · repeat ((conv => whnf); first | with_reducible refine O_step ?_ | with_reducible refine S_step ?_ | with_reducible refine D_step ?_ | with_reducible refine RO.exit ?_ | with_reducible refine RO.ret ?_ | ((with_reducible refine And.intro ?sc ?_); case sc => exact side) | ((with_reducible refine br_f ?sc ?_); case sc => exact sideB) | ((with_reducible refine br_t ?sc ?_); case sc => exact sideB))
        refine hcodes_at ?_
        repeat ((conv => whnf); first | with_reducible refine O_step ?_ | with_reducible refine S_step ?_ | with_reducible refine D_step ?_ | with_reducible refine RO.exit ?_ | with_reducible refine RO.ret ?_ | ((with_reducible refine And.intro ?sc ?_); case sc => exact side) | ((with_reducible refine br_f ?sc ?_); case sc => exact sideB) | ((with_reducible refine br_t ?sc ?_); case sc => exact sideB))
        exact ⟨true, rfl, rfl⟩
      have hf2 : 2 ≤ fr.length := by simp only [decide_eq_false_iff_not] at y1; omega
      repeat ((conv => whnf); first | with_reducible refine O_step ?_ | with_reducible refine S_step ?_ | with_reducible refine D_step ?_ | with_reducible refine RO.exit ?_ | with_reducible refine RO.ret ?_ | ((with_reducible refine And.intro ?sc ?_); case sc => exact side) | ((with_reducible refine br_f ?sc ?_); case sc => exact sideB) | ((with_reducible refine br_t ?sc ?_); case sc => exact sideB))
      refine And.intro (fun y2 => ?_) (fun y2 => ?_)
      · repeat ((conv => whnf); first | with_reducible refine O_step ?_ | with_reducible refine S_step ?_ | with_reducible refine D_step ?_ | with_reducible refine RO.exit ?_ | with_reducible refine RO.ret ?_ | ((with_reducible refine And.intro ?sc ?_); case sc => exact side) | ((with_reducible refine br_f ?sc ?_); case sc => exact sideB) | ((with_reducible refine br_t ?sc ?_); case sc => exact sideB))
        refine hcodes_at ?_
        repeat ((conv => whnf); first | with_reducible refine O_step ?_ | with_reducible refine S_step ?_ | with_reducible refine D_step ?_ | with_reducible refine RO.exit ?_ | with_reducible refine RO.ret ?_ | ((with_reducible refine And.intro ?sc ?_); case sc => exact side) | ((with_reducible refine br_f ?sc ?_); case sc => exact sideB) | ((with_reducible refine br_t ?sc ?_); case sc => exact sideB))
        exact ⟨true, rfl, rfl⟩
      have hfm : fr.length ≤ 2 ^ m := by rw [hshl] at y2; simp only [decide_eq_false_iff_not] at y2; omega
      obtain ⟨L, hL1, hL2⟩ := best_len (fun x hx => i5 x hx) hm4.1 hm4.2 hfl hfm
      have hLl := hL2.len
      repeat ((conv => whnf); first | with_reducible refine O_step ?_ | with_reducible refine S_step ?_ | with_reducible refine D_step ?_ | with_reducible refine RO.exit ?_ | with_reducible refine RO.ret ?_ | ((with_reducible refine And.intro ?sc ?_); case sc => exact side) | ((with_reducible refine br_f ?sc ?_); case sc => exact sideB) | ((with_reducible refine br_t ?sc ?_); case sc => exact sideB))
      refine lengths_at (i := 1) (fr := fr) rfl rfl (by omega) fun g2 c2 hc2 => ?_
      rw [hL1]
      repeat ((conv => whnf); first | with_reducible refine O_step ?_ | with_reducible refine S_step ?_ | with_reducible refine D_step ?_ | with_reducible refine RO.exit ?_ | with_reducible refine RO.ret ?_ | ((with_reducible refine And.intro ?sc ?_); case sc => exact side) | ((with_reducible refine br_f ?sc ?_); case sc => exact sideB) | ((with_reducible refine br_t ?sc ?_); case sc => exact sideB))
      refine And.intro (fun y3 => ?_) (fun y3 => ?_)
      · exfalso; simp [hLl] at y3
      repeat ((conv => whnf); first | with_reducible refine O_step ?_ | with_reducible refine S_step ?_ | with_reducible refine D_step ?_ | with_reducible refine RO.exit ?_ | with_reducible refine RO.ret ?_ | ((with_reducible refine And.intro ?sc ?_); case sc => exact side) | ((with_reducible refine br_f ?sc ?_); case sc => exact sideB) | ((with_reducible refine br_t ?sc ?_); case sc => exact sideB))
      have hg : ∀ j, j < fr.length → 1 ≤ fr.getD j 0 ∧ fr.getD j 0 ≤ 1000 := fun j hj => i5 _ (getD_memI hj)
      have hLg : ∀ j, j < fr.length → 0 ≤ L.getD j 0 ∧ L.getD j 0 ≤ 15 := fun j hj => by have := hL2.rng hj; omega
      refine WO.go (σ := Nat × Int) (fun s => s.1 ≤ fr.length ∧ s.2 = sumN s.1 (fun j => fr.getD j 0 * L.getD j 0) ∧ 0 ≤ s.2 ∧ s.2 ≤ s.1 * 15000) (fun s => fr.length - s.1)
        (fun s => [(5, .int .i64 (m : Int)), (6, .sl 1 g 0 fr.length c1), (8, .sl 2 g2 0 L.length c2), (10, .int .i64 s.2), (11, .int .i64 (s.1 : Int))])
        (fun _ => [.gone, .one true g (.ints .i64 fr c1), .one true g2 (.ints .u8 L c2)]) (0, 0) tb_ok mixed (by kernel_rfl) ⟨Nat.zero_le _, rfl, by decide, by decide⟩ (And.intro rfl (And.intro rfl (And.intro rfl (And.intro rfl (And.intro rfl (trivial)))))) (And.intro trivial (And.intro rfl (And.intro rfl (trivial)))) (fun _ => rfl) (fun _ => rfl) (fun _ => ⟨trivial, trivial, trivial, trivial⟩) ?_
      rintro ⟨j, a⟩ ⟨j1, j0, j2, j3⟩ d1
      simp only at j1 j0 j2 j3
      repeat ((conv => whnf); first | with_reducible refine O_step ?_ | with_reducible refine S_step ?_ | with_reducible refine D_step ?_ | with_reducible refine RO.exit ?_ | with_reducible refine RO.ret ?_ | ((with_reducible refine And.intro ?sc ?_); case sc => exact side) | ((with_reducible refine br_f ?sc ?_); case sc => exact sideB) | ((with_reducible refine br_t ?sc ?_); case sc => exact sideB))
      refine And.intro (fun hj => ?_) (fun hj => ?_)
      · have hjl : j < fr.length := by simp only [decide_eq_true_eq] at hj; omega
        have hjL : j < L.length := by omega
        have b1 : 1 ≤ fr.getD ((j : Int).toNat + 0) 0 ∧ fr.getD ((j : Int).toNat + 0) 0 ≤ 1000 := hg j hjl
        have b2 : 0 ≤ L.getD ((j : Int).toNat + 0) 0 ∧ L.getD ((j : Int).toNat + 0) 0 ≤ 15 := hLg j hjl
        have b3 : 0 ≤ fr.getD ((j : Int).toNat + 0) 0 * L.getD ((j : Int).toNat + 0) 0 := Int.mul_nonneg (by omega) b2.1
        have b4 : fr.getD ((j : Int).toNat + 0) 0 * L.getD ((j : Int).toNat + 0) 0 ≤ 1000 * 15 := Int.mul_le_mul b1.2 b2.2 b2.1 (by decide)
        repeat ((conv => whnf); first | with_reducible refine O_step ?_ | with_reducible refine S_step ?_ | with_reducible refine D_step ?_ | with_reducible refine RO.exit ?_ | with_reducible refine RO.ret ?_ | ((with_reducible refine And.intro ?sc ?_); case sc => exact side) | ((with_reducible refine br_f ?sc ?_); case sc => exact sideB) | ((with_reducible refine br_t ?sc ?_); case sc => exact sideB))
        refine RO.same (j + 1, a + fr.getD ((j : Int).toNat + 0) 0 * L.getD ((j : Int).toNat + 0) 0) ⟨by show j + 1 ≤ _; omega, by show a + _ = sumN (j + 1) _; rw [j0]; rfl, by show 0 ≤ a + _; omega, by show a + _ ≤ ((j + 1 : Nat) : Int) * _; omega⟩ (show fr.length - (j + 1) < fr.length - j by omega) (And.intro rfl (And.intro rfl (And.intro rfl (And.intro rfl (And.intro rfl (trivial)))))) (And.intro trivial (And.intro rfl (And.intro rfl (trivial))))
      have hje : j = fr.length := by simp only [decide_eq_false_iff_not] at hj; omega
      subst hje
      repeat ((conv => whnf); first | with_reducible refine O_step ?_ | with_reducible refine S_step ?_ | with_reducible refine D_step ?_ | with_reducible refine RO.exit ?_ | with_reducible refine RO.ret ?_ | ((with_reducible refine And.intro ?sc ?_); case sc => exact side) | ((with_reducible refine br_f ?sc ?_); case sc => exact sideB) | ((with_reducible refine br_t ?sc ?_); case sc => exact sideB))
      refine WO.go (σ := Nat) (fun k => k ≤ fr.length) (fun k => fr.length - k)
        (fun k => [(5, .int .i64 (m : Int)), (6, .sl 1 g 0 fr.length c1), (10, .int .i64 a), (12, .int .i64 ((m ^ k : Nat) : Int)), (13, .int .i64 (k : Int))])
        (fun _ => [.gone, .one true g (.ints .i64 fr c1), .gone]) 0 tb_ok mixed (by kernel_rfl) (Nat.zero_le _) (And.intro rfl (And.intro rfl (And.intro rfl (And.intro rfl (And.intro rfl (trivial)))))) (And.intro trivial (And.intro rfl (And.intro trivial (trivial)))) (fun _ => rfl) (fun _ => rfl) (fun _ => ⟨trivial, trivial, trivial, trivial⟩) ?_
      intro k k1 d2
      have k1 : k ≤ fr.length := k1
      repeat ((conv => whnf); first | with_reducible refine O_step ?_ | with_reducible refine S_step ?_ | with_reducible refine D_step ?_ | with_reducible refine RO.exit ?_ | with_reducible refine RO.ret ?_ | ((with_reducible refine And.intro ?sc ?_); case sc => exact side) | ((with_reducible refine br_f ?sc ?_); case sc => exact sideB) | ((with_reducible refine br_t ?sc ?_); case sc => exact sideB))
      refine And.intro (fun hk => ?_) (fun hk => ?_)
      · have hkl : k < fr.length := by simp only [decide_eq_true_eq] at hk; omega
        have p1 : ((m ^ k : Nat) : Int) * (m : Int) = ((m ^ (k + 1) : Nat) : Int) := by rw [Nat.pow_succ]; push_cast; rfl
        have p2 : m ^ (k + 1) ≤ 1024 := pow4 hm4.2 (by omega)
        have p3 : 0 ≤ ((m ^ k : Nat) : Int) * (m : Int) ∧ ((m ^ k : Nat) : Int) * (m : Int) ≤ 1024 := by rw [p1]; omega
        repeat ((conv => whnf); first | with_reducible refine O_step ?_ | with_reducible refine S_step ?_ | with_reducible refine D_step ?_ | with_reducible refine RO.exit ?_ | with_reducible refine RO.ret ?_ | ((with_reducible refine And.intro ?sc ?_); case sc => exact side) | ((with_reducible refine br_f ?sc ?_); case sc => exact sideB) | ((with_reducible refine br_t ?sc ?_); case sc => exact sideB))
        refine RO.same (k + 1) (by show k + 1 ≤ _; omega) (show fr.length - (k + 1) < fr.length - k by omega) (And.intro rfl (And.intro rfl (And.intro rfl (And.intro ?_ (And.intro rfl trivial))))) (And.intro trivial (And.intro rfl (And.intro trivial (trivial))))
        show AV.int .i64 (((m ^ k : Nat) : Int) * (m : Int)) = AV.int .i64 ((m ^ (k + 1) : Nat) : Int)
        rw [p1]
      have hke : k = fr.length := by simp only [decide_eq_false_iff_not] at hk; omega
      subst hke
      have hrw : m ^ fr.length ≤ 1024 := pow4 hm4.2 (by omega)
      repeat ((conv => whnf); first | with_reducible refine O_step ?_ | with_reducible refine S_step ?_ | with_reducible refine D_step ?_ | with_reducible refine RO.exit ?_ | with_reducible refine RO.ret ?_ | ((with_reducible refine And.intro ?sc ?_); case sc => exact side) | ((with_reducible refine br_f ?sc ?_); case sc => exact sideB) | ((with_reducible refine br_t ?sc ?_); case sc => exact sideB))
      refine WO.go (σ := Nat) (fun r => r ≤ m ^ fr.length) (fun r => m ^ fr.length - r)
        (fun r => [(5, .int .i64 (m : Int)), (6, .sl 1 g 0 fr.length c1), (10, .int .i64 a), (12, .int .i64 ((m ^ fr.length : Nat) : Int)), (14, .int .i64 (r : Int))])
        (fun _ => [.gone, .one true g (.ints .i64 fr c1), .gone]) 0 tb_ok mixed (by kernel_rfl) (Nat.zero_le _) (And.intro rfl (And.intro rfl (And.intro rfl (And.intro rfl (And.intro rfl (trivial)))))) (And.intro trivial (And.intro rfl (And.intro trivial (trivial)))) (fun _ => rfl) (fun _ => rfl) (fun _ => ⟨trivial, trivial, trivial, trivial⟩) ?_
      intro r r1 d3
      have r1 : r ≤ m ^ fr.length := r1
      repeat ((conv => whnf); first | with_reducible refine O_step ?_ | with_reducible refine S_step ?_ | with_reducible refine D_step ?_ | with_reducible refine RO.exit ?_ | with_reducible refine RO.ret ?_ | ((with_reducible refine And.intro ?sc ?_); case sc => exact side) | ((with_reducible refine br_f ?sc ?_); case sc => exact sideB) | ((with_reducible refine br_t ?sc ?_); case sc => exact sideB))
      refine And.intro (fun hr => ?_) (fun hr => ?_)
      · have hrl : r < m ^ fr.length := by simp only [decide_eq_true_eq] at hr; omega
        repeat ((conv => whnf); first | with_reducible refine O_step ?_ | with_reducible refine S_step ?_ | with_reducible refine D_step ?_ | with_reducible refine RO.exit ?_ | with_reducible refine RO.ret ?_ | ((with_reducible refine And.intro ?sc ?_); case sc => exact side) | ((with_reducible refine br_f ?sc ?_); case sc => exact sideB) | ((with_reducible refine br_t ?sc ?_); case sc => exact sideB))
        refine WO.go (σ := Nat × Int × Int) (fun s => s.1 ≤ fr.length ∧ s.2.1 = sumN s.1 (fun j => 2 ^ (4 - cJ m r j)) ∧ s.2.2 = sumN s.1 (fun j => fr.getD j 0 * (cJ m r j : Int)) ∧ 0 ≤ s.2.1 ∧ s.2.1 ≤ 8 * s.1 ∧ 0 ≤ s.2.2 ∧ s.2.2 ≤ 4000 * s.1) (fun s => fr.length - s.1)
          (fun s => [(5, .int .i64 (m : Int)), (6, .sl 1 g 0 fr.length c1), (10, .int .i64 a), (12, .int .i64 ((m ^ fr.length : Nat) : Int)), (14, .int .i64 (r : Int)), (15, .int .i64 s.2.1), (16, .int .i64 s.2.2), (17, .int .i64 ((r / m ^ s.1 : Nat) : Int)), (18, .int .i64 (s.1 : Int))])
          (fun _ => [.gone, .one true g (.ints .i64 fr c1), .gone]) (0, 0, 0) tb_ok mixed (by kernel_rfl) ⟨Nat.zero_le _, rfl, rfl, by decide, by decide, by decide, by decide⟩ (And.intro rfl (And.intro rfl (And.intro rfl (And.intro rfl (And.intro rfl (And.intro rfl (And.intro rfl (And.intro ?_ (And.intro rfl trivial))))))))) (And.intro trivial (And.intro rfl (And.intro trivial (trivial)))) (fun _ => rfl) (fun _ => rfl) (fun _ => ⟨trivial, trivial, trivial, trivial⟩) ?_
        · show AV.int .i64 (r : Int) = AV.int .i64 ((r / m ^ 0 : Nat) : Int)
          rw [Nat.pow_zero, Nat.div_one]
        rintro ⟨q, su, co⟩ ⟨q1, q2, q3, q4, q5, q6, q7⟩ d4
        simp only at q1 q2 q3 q4 q5 q6 q7
        repeat ((conv => whnf); first | with_reducible refine O_step ?_ | with_reducible refine S_step ?_ | with_reducible refine D_step ?_ | with_reducible refine RO.exit ?_ | with_reducible refine RO.ret ?_ | ((with_reducible refine And.intro ?sc ?_); case sc => exact side) | ((with_reducible refine br_f ?sc ?_); case sc => exact sideB) | ((with_reducible refine br_t ?sc ?_); case sc => exact sideB))
        refine And.intro (fun hq => ?_) (fun hq => ?_)
        · have hql : q < fr.length := by simp only [decide_eq_true_eq] at hq; omega
          have m0 : (m : Int) ≠ 0 := by omega
          have t1 : ((r / m ^ q : Nat) : Int).tmod (m : Int) = ((r / m ^ q % m : Nat) : Int) := by rw [Int.tmod_eq_emod_of_nonneg (Int.natCast_nonneg _)]; rfl
          have t2 : ((r / m ^ q : Nat) : Int).tdiv (m : Int) = ((r / m ^ (q + 1) : Nat) : Int) := by rw [Int.tdiv_eq_ediv_of_nonneg (Int.natCast_nonneg _), Nat.pow_succ, ← Nat.div_div_eq_div_mul]; rfl
          have t9 : 0 ≤ ((r / m ^ q : Nat) : Int).tdiv (m : Int) ∧ ((r / m ^ q : Nat) : Int).tdiv (m : Int) ≤ 1024 := by rw [t2]; exact ⟨Int.natCast_nonneg _, by exact_mod_cast Nat.le_trans (Nat.div_le_self r (m ^ (q + 1))) (show r ≤ 1024 by omega)⟩
          have t3 : r / m ^ q % m < m := Nat.mod_lt _ (by omega)
          have t4 : 1 + ((r / m ^ q : Nat) : Int).tmod (m : Int) = (cJ m r q : Int) := by rw [t1]; unfold cJ; omega
          have t5 : 1 ≤ cJ m r q ∧ cJ m r q ≤ 4 := by unfold cJ; omega
          have t6 : shrF .i64 16 (1 + ((r / m ^ q : Nat) : Int).tmod (m : Int)) = 2 ^ (4 - cJ m r q) := by rw [t4]; exact shr16 t5.1 t5.2
          have t7 : (0 : Int) ≤ 2 ^ (4 - cJ m r q) ∧ (2 : Int) ^ (4 - cJ m r q) ≤ 8 := ⟨Int.le_of_lt (pow2_pos _), by have := pow2_le (show 4 - cJ m r q ≤ 3 by omega); simpa using this⟩
          have t8 : 0 ≤ shrF .i64 16 (1 + ((r / m ^ q : Nat) : Int).tmod (m : Int)) ∧ shrF .i64 16 (1 + ((r / m ^ q : Nat) : Int).tmod (m : Int)) ≤ 8 := by rw [t6]; exact t7
          have b1 : 1 ≤ fr.getD ((q : Int).toNat + 0) 0 ∧ fr.getD ((q : Int).toNat + 0) 0 ≤ 1000 := hg q hql
          have b3 : 0 ≤ fr.getD ((q : Int).toNat + 0) 0 * (1 + ((r / m ^ q : Nat) : Int).tmod (m : Int)) := Int.mul_nonneg (by omega) (by omega)
          have b4 : fr.getD ((q : Int).toNat + 0) 0 * (1 + ((r / m ^ q : Nat) : Int).tmod (m : Int)) ≤ 1000 * 4 := Int.mul_le_mul b1.2 (by omega) (by omega) (by decide)
          repeat ((conv => whnf); first | with_reducible refine O_step ?_ | with_reducible refine S_step ?_ | with_reducible refine D_step ?_ | with_reducible refine RO.exit ?_ | with_reducible refine RO.ret ?_ | ((with_reducible refine And.intro ?sc ?_); case sc => exact side) | ((with_reducible refine br_f ?sc ?_); case sc => exact sideB) | ((with_reducible refine br_t ?sc ?_); case sc => exact sideB))
          refine RO.same (q + 1, su + shrF .i64 16 (1 + ((r / m ^ q : Nat) : Int).tmod (m : Int)), co + fr.getD ((q : Int).toNat + 0) 0 * (1 + ((r / m ^ q : Nat) : Int).tmod (m : Int))) ⟨by show q + 1 ≤ _; omega, by show su + _ = sumN (q + 1) _; rw [q2, t6]; rfl, by show co + _ = sumN (q + 1) _; rw [q3, t4]; rfl, by show 0 ≤ su + _; omega, by show su + _ ≤ 8 * ((q + 1 : Nat) : Int); omega, by show 0 ≤ co + _; omega, by show co + _ ≤ 4000 * ((q + 1 : Nat) : Int); omega⟩ (show fr.length - (q + 1) < fr.length - q by omega)
            (And.intro rfl (And.intro rfl (And.intro rfl (And.intro rfl (And.intro rfl (And.intro rfl (And.intro rfl (And.intro ?_ (And.intro rfl trivial))))))))) (And.intro trivial (And.intro rfl (And.intro trivial (trivial))))
          show AV.int .i64 (((r / m ^ q : Nat) : Int).tdiv (m : Int)) = AV.int .i64 ((r / m ^ (q + 1) : Nat) : Int)
          rw [t2]
        have hqe : q = fr.length := by simp only [decide_eq_false_iff_not] at hq; omega
        subst hqe
        repeat ((conv => whnf); first | with_reducible refine O_step ?_ | with_reducible refine S_step ?_ | with_reducible refine D_step ?_ | with_reducible refine RO.exit ?_ | with_reducible refine RO.ret ?_ | ((with_reducible refine And.intro ?sc ?_); case sc => exact side) | ((with_reducible refine br_f ?sc ?_); case sc => exact sideB) | ((with_reducible refine br_t ?sc ?_); case sc => exact sideB))
        refine And.intro (fun z1 => ?_) (fun z1 => ?_)
        · repeat ((conv => whnf); first | with_reducible refine O_step ?_ | with_reducible refine S_step ?_ | with_reducible refine D_step ?_ | with_reducible refine RO.exit ?_ | with_reducible refine RO.ret ?_ | ((with_reducible refine And.intro ?sc ?_); case sc => exact side) | ((with_reducible refine br_f ?sc ?_); case sc => exact sideB) | ((with_reducible refine br_t ?sc ?_); case sc => exact sideB))
          refine And.intro (fun z2 => ?_) (fun z2 => ?_)
          · exfalso
            simp only [decide_eq_true_eq] at z1 z2
            have := best_ok (fun x hx => (i5 x hx).1) hm4.1 hm4.2 hf2 hL2 (cJ m r) (fun j hj => by have : r / m ^ j % m < m := Nat.mod_lt _ (by omega); unfold cJ; omega) (by rw [← q2]; exact z1)
            rw [← j0, ← q3] at this
            omega
          · repeat ((conv => whnf); first | with_reducible refine O_step ?_ | with_reducible refine S_step ?_ | with_reducible refine D_step ?_ | with_reducible refine RO.exit ?_ | with_reducible refine RO.ret ?_ | ((with_reducible refine And.intro ?sc ?_); case sc => exact side) | ((with_reducible refine br_f ?sc ?_); case sc => exact sideB) | ((with_reducible refine br_t ?sc ?_); case sc => exact sideB))
            refine RO.same (r + 1) (by show r + 1 ≤ _; omega) (show m ^ fr.length - (r + 1) < m ^ fr.length - r by omega) (And.intro rfl (And.intro rfl (And.intro rfl (And.intro rfl (And.intro rfl (trivial)))))) (And.intro trivial (And.intro rfl (And.intro trivial (trivial))))
        · repeat ((conv => whnf); first | with_reducible refine O_step ?_ | with_reducible refine S_step ?_ | with_reducible refine D_step ?_ | with_reducible refine RO.exit ?_ | with_reducible refine RO.ret ?_ | ((with_reducible refine And.intro ?sc ?_); case sc => exact side) | ((with_reducible refine br_f ?sc ?_); case sc => exact sideB) | ((with_reducible refine br_t ?sc ?_); case sc => exact sideB))
          refine RO.same (r + 1) (by show r + 1 ≤ _; omega) (show m ^ fr.length - (r + 1) < m ^ fr.length - r by omega) (And.intro rfl (And.intro rfl (And.intro rfl (And.intro rfl (And.intro rfl (trivial)))))) (And.intro trivial (And.intro rfl (And.intro trivial (trivial))))
      repeat ((conv => whnf); first | with_reducible refine O_step ?_ | with_reducible refine S_step ?_ | with_reducible refine D_step ?_ | with_reducible refine RO.exit ?_ | with_reducible refine RO.ret ?_ | ((with_reducible refine And.intro ?sc ?_); case sc => exact side) | ((with_reducible refine br_f ?sc ?_); case sc => exact sideB) | ((with_reducible refine br_t ?sc ?_); case sc => exact sideB))
      refine hcodes_at ?_
      repeat ((conv => whnf); first | with_reducible refine O_step ?_ | with_reducible refine S_step ?_ | with_reducible refine D_step ?_ | with_reducible refine RO.exit ?_ | with_reducible refine RO.ret ?_ | ((with_reducible refine And.intro ?sc ?_); case sc => exact side) | ((with_reducible refine br_f ?sc ?_); case sc => exact sideB) | ((with_reducible refine br_t ?sc ?_); case sc => exact sideB))
      exact ⟨true, rfl, rfl⟩
  · repeat ((conv => whnf); first | with_reducible refine O_step ?_ | with_reducible refine S_step ?_ | with_reducible refine D_step ?_ | with_reducible refine RO.exit ?_ | with_reducible refine RO.ret ?_ | ((with_reducible refine And.intro ?sc ?_); case sc => exact side) | ((with_reducible refine br_f ?sc ?_); case sc => exact sideB) | ((with_reducible refine br_t ?sc ?_); case sc => exact sideB))
    have hfl : fr.length ≤ 5 := by omega
    have hshl : shlF .i64 1 (m : Int) = ((2 ^ m : Nat) : Int) := shl_small m (by omega)
    refine And.intro (fun y1 => ?_) (fun y1 => ?_)
    · repeat ((conv => whnf); first | with_reducible refine O_step ?_ | with_reducible refine S_step ?_ | with_reducible refine D_step ?_ | with_reducible refine RO.exit ?_ | with_reducible refine RO.ret ?_ | ((with_reducible refine And.intro ?sc ?_); case sc => exact side) | ((with_reducible refine br_f ?sc ?_); case sc => exact sideB) | ((with_reducible refine br_t ?sc ?_); case sc => exact sideB))
      refine hcodes_at ?_
      repeat ((conv => whnf); first | with_reducible refine O_step ?_ | with_reducible refine S_step ?_ | with_reducible refine D_step ?_ | with_reducible refine RO.exit ?_ | with_reducible refine RO.ret ?_ | ((with_reducible refine And.intro ?sc ?_); case sc => exact side) | ((with_reducible refine br_f ?sc ?_); case sc => exact sideB) | ((with_reducible refine br_t ?sc ?_); case sc => exact sideB))
      exact ⟨true, rfl, rfl⟩
    have hf2 : 2 ≤ fr.length := by simp only [decide_eq_false_iff_not] at y1; omega
    repeat ((conv => whnf); first | with_reducible refine O_step ?_ | with_reducible refine S_step ?_ | with_reducible refine D_step ?_ | with_reducible refine RO.exit ?_ | with_reducible refine RO.ret ?_ | ((with_reducible refine And.intro ?sc ?_); case sc => exact side) | ((with_reducible refine br_f ?sc ?_); case sc => exact sideB) | ((with_reducible refine br_t ?sc ?_); case sc => exact sideB))
    refine And.intro (fun y2 => ?_) (fun y2 => ?_)
    · repeat ((conv => whnf); first | with_reducible refine O_step ?_ | with_reducible refine S_step ?_ | with_reducible refine D_step ?_ | with_reducible refine RO.exit ?_ | with_reducible refine RO.ret ?_ | ((with_reducible refine And.intro ?sc ?_); case sc => exact side) | ((with_reducible refine br_f ?sc ?_); case sc => exact sideB) | ((with_reducible refine br_t ?sc ?_); case sc => exact sideB))
      refine hcodes_at ?_
      repeat ((conv => whnf); first | with_reducible refine O_step ?_ | with_reducible refine S_step ?_ | with_reducible refine D_step ?_ | with_reducible refine RO.exit ?_ | with_reducible refine RO.ret ?_ | ((with_reducible refine And.intro ?sc ?_); case sc => exact side) | ((with_reducible refine br_f ?sc ?_); case sc => exact sideB) | ((with_reducible refine br_t ?sc ?_); case sc => exact sideB))
      exact ⟨true, rfl, rfl⟩
    have hfm : fr.length ≤ 2 ^ m := by rw [hshl] at y2; simp only [decide_eq_false_iff_not] at y2; omega
    obtain ⟨L, hL1, hL2⟩ := best_len (fun x hx => i5 x hx) hm4.1 hm4.2 hfl hfm
    have hLl := hL2.len
    repeat ((conv => whnf); first | with_reducible refine O_step ?_ | with_reducible refine S_step ?_ | with_reducible refine D_step ?_ | with_reducible refine RO.exit ?_ | with_reducible refine RO.ret ?_ | ((with_reducible refine And.intro ?sc ?_); case sc => exact side) | ((with_reducible refine br_f ?sc ?_); case sc => exact sideB) | ((with_reducible refine br_t ?sc ?_); case sc => exact sideB))
    refine lengths_at (i := 1) (fr := fr) rfl rfl (by omega) fun g2 c2 hc2 => ?_
    rw [hL1]
    repeat ((conv => whnf); first | with_reducible refine O_step ?_ | with_reducible refine S_step ?_ | with_reducible refine D_step ?_ | with_reducible refine RO.exit ?_ | with_reducible refine RO.ret ?_ | ((with_reducible refine And.intro ?sc ?_); case sc => exact side) | ((with_reducible refine br_f ?sc ?_); case sc => exact sideB) | ((with_reducible refine br_t ?sc ?_); case sc => exact sideB))
    refine And.intro (fun y3 => ?_) (fun y3 => ?_)
    · exfalso; simp [hLl] at y3
    repeat ((conv => whnf); first | with_reducible refine O_step ?_ | with_reducible refine S_step ?_ | with_reducible refine D_step ?_ | with_reducible refine RO.exit ?_ | with_reducible refine RO.ret ?_ | ((with_reducible refine And.intro ?sc ?_); case sc => exact side) | ((with_reducible refine br_f ?sc ?_); case sc => exact sideB) | ((with_reducible refine br_t ?sc ?_); case sc => exact sideB))
    have hg : ∀ j, j < fr.length → 1 ≤ fr.getD j 0 ∧ fr.getD j 0 ≤ 1000 := fun j hj => i5 _ (getD_memI hj)
    have hLg : ∀ j, j < fr.length → 0 ≤ L.getD j 0 ∧ L.getD j 0 ≤ 15 := fun j hj => by have := hL2.rng hj; omega
    refine WO.go (σ := Nat × Int) (fun s => s.1 ≤ fr.length ∧ s.2 = sumN s.1 (fun j => fr.getD j 0 * L.getD j 0) ∧ 0 ≤ s.2 ∧ s.2 ≤ s.1 * 15000) (fun s => fr.length - s.1)
      (fun s => [(5, .int .i64 (m : Int)), (6, .sl 1 g 0 fr.length c1), (8, .sl 2 g2 0 L.length c2), (10, .int .i64 s.2), (11, .int .i64 (s.1 : Int))])
      (fun _ => [.gone, .one true g (.ints .i64 fr c1), .one true g2 (.ints .u8 L c2)]) (0, 0) tb_ok mixed (by kernel_rfl) ⟨Nat.zero_le _, rfl, by decide, by decide⟩ (And.intro rfl (And.intro rfl (And.intro rfl (And.intro rfl (And.intro rfl (trivial)))))) (And.intro trivial (And.intro rfl (And.intro rfl (trivial)))) (fun _ => rfl) (fun _ => rfl) (fun _ => ⟨trivial, trivial, trivial, trivial⟩) ?_
    rintro ⟨j, a⟩ ⟨j1, j0, j2, j3⟩ d1
    simp only at j1 j0 j2 j3
    repeat ((conv => whnf); first | with_reducible refine O_step ?_ | with_reducible refine S_step ?_ | with_reducible refine D_step ?_ | with_reducible refine RO.exit ?_ | with_reducible refine RO.ret ?_ | ((with_reducible refine And.intro ?sc ?_); case sc => exact side) | ((with_reducible refine br_f ?sc ?_); case sc => exact sideB) | ((with_reducible refine br_t ?sc ?_); case sc => exact sideB))
    refine And.intro (fun hj => ?_) (fun hj => ?_)
    · have hjl : j < fr.length := by simp only [decide_eq_true_eq] at hj; omega
      have hjL : j < L.length := by omega
      have b1 : 1 ≤ fr.getD ((j : Int).toNat + 0) 0 ∧ fr.getD ((j : Int).toNat + 0) 0 ≤ 1000 := hg j hjl
      have b2 : 0 ≤ L.getD ((j : Int).toNat + 0) 0 ∧ L.getD ((j : Int).toNat + 0) 0 ≤ 15 := hLg j hjl
      have b3 : 0 ≤ fr.getD ((j : Int).toNat + 0) 0 * L.getD ((j : Int).toNat + 0) 0 := Int.mul_nonneg (by omega) b2.1
      have b4 : fr.getD ((j : Int).toNat + 0) 0 * L.getD ((j : Int).toNat + 0) 0 ≤ 1000 * 15 := Int.mul_le_mul b1.2 b2.2 b2.1 (by decide)
      repeat ((conv => whnf); first | with_reducible refine O_step ?_ | with_reducible refine S_step ?_ | with_reducible refine D_step ?_ | with_reducible refine RO.exit ?_ | with_reducible refine RO.ret ?_ | ((with_reducible refine And.intro ?sc ?_); case sc => exact side) | ((with_reducible refine br_f ?sc ?_); case sc => exact sideB) | ((with_reducible refine br_t ?sc ?_); case sc => exact sideB))
      refine RO.same (j + 1, a + fr.getD ((j : Int).toNat + 0) 0 * L.getD ((j : Int).toNat + 0) 0) ⟨by show j + 1 ≤ _; omega, by show a + _ = sumN (j + 1) _; rw [j0]; rfl, by show 0 ≤ a + _; omega, by show a + _ ≤ ((j + 1 : Nat) : Int) * _; omega⟩ (show fr.length - (j + 1) < fr.length - j by omega) (And.intro rfl (And.intro rfl (And.intro rfl (And.intro rfl (And.intro rfl (trivial)))))) (And.intro trivial (And.intro rfl (And.intro rfl (trivial))))
    have hje : j = fr.length := by simp only [decide_eq_false_iff_not] at hj; omega
    subst hje
    repeat ((conv => whnf); first | with_reducible refine O_step ?_ | with_reducible refine S_step ?_ | with_reducible refine D_step ?_ | with_reducible refine RO.exit ?_ | with_reducible refine RO.ret ?_ | ((with_reducible refine And.intro ?sc ?_); case sc => exact side) | ((with_reducible refine br_f ?sc ?_); case sc => exact sideB) | ((with_reducible refine br_t ?sc ?_); case sc => exact sideB))
    refine WO.go (σ := Nat) (fun k => k ≤ fr.length) (fun k => fr.length - k)
      (fun k => [(5, .int .i64 (m : Int)), (6, .sl 1 g 0 fr.length c1), (10, .int .i64 a), (12, .int .i64 ((m ^ k : Nat) : Int)), (13, .int .i64 (k : Int))])
      (fun _ => [.gone, .one true g (.ints .i64 fr c1), .gone]) 0 tb_ok mixed (by kernel_rfl) (Nat.zero_le _) (And.intro rfl (And.intro rfl (And.intro rfl (And.intro rfl (And.intro rfl (trivial)))))) (And.intro trivial (And.intro rfl (And.intro trivial (trivial)))) (fun _ => rfl) (fun _ => rfl) (fun _ => ⟨trivial, trivial, trivial, trivial⟩) ?_
    intro k k1 d2
    have k1 : k ≤ fr.length := k1
    repeat ((conv => whnf); first | with_reducible refine O_step ?_ | with_reducible refine S_step ?_ | with_reducible refine D_step ?_ | with_reducible refine RO.exit ?_ | with_reducible refine RO.ret ?_ | ((with_reducible refine And.intro ?sc ?_); case sc => exact side) | ((with_reducible refine br_f ?sc ?_); case sc => exact sideB) | ((with_reducible refine br_t ?sc ?_); case sc => exact sideB))
    refine And.intro (fun hk => ?_) (fun hk => ?_)
    · have hkl : k < fr.length := by simp only [decide_eq_true_eq] at hk; omega
      have p1 : ((m ^ k : Nat) : Int) * (m : Int) = ((m ^ (k + 1) : Nat) : Int) := by rw [Nat.pow_succ]; push_cast; rfl
      have p2 : m ^ (k + 1) ≤ 1024 := pow4 hm4.2 (by omega)
      have p3 : 0 ≤ ((m ^ k : Nat) : Int) * (m : Int) ∧ ((m ^ k : Nat) : Int) * (m : Int) ≤ 1024 := by rw [p1]; omega
      repeat ((conv => whnf); first | with_reducible refine O_step ?_ | with_reducible refine S_step ?_ | with_reducible refine D_step ?_ | with_reducible refine RO.exit ?_ | with_reducible refine RO.ret ?_ | ((with_reducible refine And.intro ?sc ?_); case sc => exact side) | ((with_reducible refine br_f ?sc ?_); case sc => exact sideB) | ((with_reducible refine br_t ?sc ?_); case sc => exact sideB))
      refine RO.same (k + 1) (by show k + 1 ≤ _; omega) (show fr.length - (k + 1) < fr.length - k by omega) (And.intro rfl (And.intro rfl (And.intro rfl (And.intro ?_ (And.intro rfl trivial))))) (And.intro trivial (And.intro rfl (And.intro trivial (trivial))))
      show AV.int .i64 (((m ^ k : Nat) : Int) * (m : Int)) = AV.int .i64 ((m ^ (k + 1) : Nat) : Int)
      rw [p1]
    have hke : k = fr.length := by simp only [decide_eq_false_iff_not] at hk; omega
    subst hke
    have hrw : m ^ fr.length ≤ 1024 := pow4 hm4.2 (by omega)
    repeat ((conv => whnf); first | with_reducible refine O_step ?_ | with_reducible refine S_step ?_ | with_reducible refine D_step ?_ | with_reducible refine RO.exit ?_ | with_reducible refine RO.ret ?_ | ((with_reducible refine And.intro ?sc ?_); case sc => exact side) | ((with_reducible refine br_f ?sc ?_); case sc => exact sideB) | ((with_reducible refine br_t ?sc ?_); case sc => exact sideB))
    refine WO.go (σ := Nat) (fun r => r ≤ m ^ fr.length) (fun r => m ^ fr.length - r)
      (fun r => [(5, .int .i64 (m : Int)), (6, .sl 1 g 0 fr.length c1), (10, .int .i64 a), (12, .int .i64 ((m ^ fr.length : Nat) : Int)), (14, .int .i64 (r : Int))])
      (fun _ => [.gone, .one true g (.ints .i64 fr c1), .gone]) 0 tb_ok mixed (by kernel_rfl) (Nat.zero_le _) (And.intro rfl (And.intro rfl (And.intro rfl (And.intro rfl (And.intro rfl (trivial)))))) (And.intro trivial (And.intro rfl (And.intro trivial (trivial)))) (fun _ => rfl) (fun _ => rfl) (fun _ => ⟨trivial, trivial, trivial, trivial⟩) ?_
    intro r r1 d3
    have r1 : r ≤ m ^ fr.length := r1
    repeat ((conv => whnf); first | with_reducible refine O_step ?_ | with_reducible refine S_step ?_ | with_reducible refine D_step ?_ | with_reducible refine RO.exit ?_ | with_reducible refine RO.ret ?_ | ((with_reducible refine And.intro ?sc ?_); case sc => exact side) | ((with_reducible refine br_f ?sc ?_); case sc => exact sideB) | ((with_reducible refine br_t ?sc ?_); case sc => exact sideB))
    refine And.intro (fun hr => ?_) (fun hr => ?_)
    · have hrl : r < m ^ fr.length := by simp only [decide_eq_true_eq] at hr; omega
      repeat ((conv => whnf); first | with_reducible refine O_step ?_ | with_reducible refine S_step ?_ | with_reducible refine D_step ?_ | with_reducible refine RO.exit ?_ | with_reducible refine RO.ret ?_ | ((with_reducible refine And.intro ?sc ?_); case sc => exact side) | ((with_reducible refine br_f ?sc ?_); case sc => exact sideB) | ((with_reducible refine br_t ?sc ?_); case sc => exact sideB))
      refine WO.go (σ := Nat × Int × Int) (fun s => s.1 ≤ fr.length ∧ s.2.1 = sumN s.1 (fun j => 2 ^ (4 - cJ m r j)) ∧ s.2.2 = sumN s.1 (fun j => fr.getD j 0 * (cJ m r j : Int)) ∧ 0 ≤ s.2.1 ∧ s.2.1 ≤ 8 * s.1 ∧ 0 ≤ s.2.2 ∧ s.2.2 ≤ 4000 * s.1) (fun s => fr.length - s.1)
        (fun s => [(5, .int .i64 (m : Int)), (6, .sl 1 g 0 fr.length c1), (10, .int .i64 a), (12, .int .i64 ((m ^ fr.length : Nat) : Int)), (14, .int .i64 (r : Int)), (15, .int .i64 s.2.1), (16, .int .i64 s.2.2), (17, .int .i64 ((r / m ^ s.1 : Nat) : Int)), (18, .int .i64 (s.1 : Int))])
        (fun _ => [.gone, .one true g (.ints .i64 fr c1), .gone]) (0, 0, 0) tb_ok mixed (by kernel_rfl) ⟨Nat.zero_le _, rfl, rfl, by decide, by decide, by decide, by decide⟩ (And.intro rfl (And.intro rfl (And.intro rfl (And.intro rfl (And.intro rfl (And.intro rfl (And.intro rfl (And.intro ?_ (And.intro rfl trivial))))))))) (And.intro trivial (And.intro rfl (And.intro trivial (trivial)))) (fun _ => rfl) (fun _ => rfl) (fun _ => ⟨trivial, trivial, trivial, trivial⟩) ?_
      · show AV.int .i64 (r : Int) = AV.int .i64 ((r / m ^ 0 : Nat) : Int)
        rw [Nat.pow_zero, Nat.div_one]
      rintro ⟨q, su, co⟩ ⟨q1, q2, q3, q4, q5, q6, q7⟩ d4
      simp only at q1 q2 q3 q4 q5 q6 q7
      repeat ((conv => whnf); first | with_reducible refine O_step ?_ | with_reducible refine S_step ?_ | with_reducible refine D_step ?_ | with_reducible refine RO.exit ?_ | with_reducible refine RO.ret ?_ | ((with_reducible refine And.intro ?sc ?_); case sc => exact side) | ((with_reducible refine br_f ?sc ?_); case sc => exact sideB) | ((with_reducible refine br_t ?sc ?_); case sc => exact sideB))
      refine And.intro (fun hq => ?_) (fun hq => ?_)
      · have hql : q < fr.length := by simp only [decide_eq_true_eq] at hq; omega
        have m0 : (m : Int) ≠ 0 := by omega
        have t1 : ((r / m ^ q : Nat) : Int).tmod (m : Int) = ((r / m ^ q % m : Nat) : Int) := by rw [Int.tmod_eq_emod_of_nonneg (Int.natCast_nonneg _)]; rfl
        have t2 : ((r / m ^ q : Nat) : Int).tdiv (m : Int) = ((r / m ^ (q + 1) : Nat) : Int) := by rw [Int.tdiv_eq_ediv_of_nonneg (Int.natCast_nonneg _), Nat.pow_succ, ← Nat.div_div_eq_div_mul]; rfl
        have t9 : 0 ≤ ((r / m ^ q : Nat) : Int).tdiv (m : Int) ∧ ((r / m ^ q : Nat) : Int).tdiv (m : Int) ≤ 1024 := by rw [t2]; exact ⟨Int.natCast_nonneg _, by exact_mod_cast Nat.le_trans (Nat.div_le_self r (m ^ (q + 1))) (show r ≤ 1024 by omega)⟩
        have t3 : r / m ^ q % m < m := Nat.mod_lt _ (by omega)
        have t4 : 1 + ((r / m ^ q : Nat) : Int).tmod (m : Int) = (cJ m r q : Int) := by rw [t1]; unfold cJ; omega
        have t5 : 1 ≤ cJ m r q ∧ cJ m r q ≤ 4 := by unfold cJ; omega
        have t6 : shrF .i64 16 (1 + ((r / m ^ q : Nat) : Int).tmod (m : Int)) = 2 ^ (4 - cJ m r q) := by rw [t4]; exact shr16 t5.1 t5.2
        have t7 : (0 : Int) ≤ 2 ^ (4 - cJ m r q) ∧ (2 : Int) ^ (4 - cJ m r q) ≤ 8 := ⟨Int.le_of_lt (pow2_pos _), by have := pow2_le (show 4 - cJ m r q ≤ 3 by omega); simpa using this⟩
        have t8 : 0 ≤ shrF .i64 16 (1 + ((r / m ^ q : Nat) : Int).tmod (m : Int)) ∧ shrF .i64 16 (1 + ((r / m ^ q : Nat) : Int).tmod (m : Int)) ≤ 8 := by rw [t6]; exact t7
        have b1 : 1 ≤ fr.getD ((q : Int).toNat + 0) 0 ∧ fr.getD ((q : Int).toNat + 0) 0 ≤ 1000 := hg q hql
        have b3 : 0 ≤ fr.getD ((q : Int).toNat + 0) 0 * (1 + ((r / m ^ q : Nat) : Int).tmod (m : Int)) := Int.mul_nonneg (by omega) (by omega)
        have b4 : fr.getD ((q : Int).toNat + 0) 0 * (1 + ((r / m ^ q : Nat) : Int).tmod (m : Int)) ≤ 1000 * 4 := Int.mul_le_mul b1.2 (by omega) (by omega) (by decide)
        repeat ((conv => whnf); first | with_reducible refine O_step ?_ | with_reducible refine S_step ?_ | with_reducible refine D_step ?_ | with_reducible refine RO.exit ?_ | with_reducible refine RO.ret ?_ | ((with_reducible refine And.intro ?sc ?_); case sc => exact side) | ((with_reducible refine br_f ?sc ?_); case sc => exact sideB) | ((with_reducible refine br_t ?sc ?_); case sc => exact sideB))
        refine RO.same (q + 1, su + shrF .i64 16 (1 + ((r / m ^ q : Nat) : Int).tmod (m : Int)), co + fr.getD ((q : Int).toNat + 0) 0 * (1 + ((r / m ^ q : Nat) : Int).tmod (m : Int))) ⟨by show q + 1 ≤ _; omega, by show su + _ = sumN (q + 1) _; rw [q2, t6]; rfl, by show co + _ = sumN (q + 1) _; rw [q3, t4]; rfl, by show 0 ≤ su + _; omega, by show su + _ ≤ 8 * ((q + 1 : Nat) : Int); omega, by show 0 ≤ co + _; omega, by show co + _ ≤ 4000 * ((q + 1 : Nat) : Int); omega⟩ (show fr.length - (q + 1) < fr.length - q by omega)
          (And.intro rfl (And.intro rfl (And.intro rfl (And.intro rfl (And.intro rfl (And.intro rfl (And.intro rfl (And.intro ?_ (And.intro rfl trivial))))))))) (And.intro trivial (And.intro rfl (And.intro trivial (trivial))))
        show AV.int .i64 (((r / m ^ q : Nat) : Int).tdiv (m : Int)) = AV.int .i64 ((r / m ^ (q + 1) : Nat) : Int)
        rw [t2]
      have hqe : q = fr.length := by simp only [decide_eq_false_iff_not] at hq; omega
      subst hqe
      repeat ((conv => whnf); first | with_reducible refine O_step ?_ | with_reducible refine S_step ?_ | with_reducible refine D_step ?_ | with_reducible refine RO.exit ?_ | with_reducible refine RO.ret ?_ | ((with_reducible refine And.intro ?sc ?_); case sc => exact side) | ((with_reducible refine br_f ?sc ?_); case sc => exact sideB) | ((with_reducible refine br_t ?sc ?_); case sc => exact sideB))
      refine And.intro (fun z1 => ?_) (fun z1 => ?_)
      · repeat ((conv => whnf); first | with_reducible refine O_step ?_ | with_reducible refine S_step ?_ | with_reducible refine D_step ?_ | with_reducible refine RO.exit ?_ | with_reducible refine RO.ret ?_ | ((with_reducible refine And.intro ?sc ?_); case sc => exact side) | ((with_reducible refine br_f ?sc ?_); case sc => exact sideB) | ((with_reducible refine br_t ?sc ?_); case sc => exact sideB))
        refine And.intro (fun z2 => ?_) (fun z2 => ?_)
        · exfalso
          simp only [decide_eq_true_eq] at z1 z2
          have := best_ok (fun x hx => (i5 x hx).1) hm4.1 hm4.2 hf2 hL2 (cJ m r) (fun j hj => by have : r / m ^ j % m < m := Nat.mod_lt _ (by omega); unfold cJ; omega) (by rw [← q2]; exact z1)
          rw [← j0, ← q3] at this
          omega
        · repeat ((conv => whnf); first | with_reducible refine O_step ?_ | with_reducible refine S_step ?_ | with_reducible refine D_step ?_ | with_reducible refine RO.exit ?_ | with_reducible refine RO.ret ?_ | ((with_reducible refine And.intro ?sc ?_); case sc => exact side) | ((with_reducible refine br_f ?sc ?_); case sc => exact sideB) | ((with_reducible refine br_t ?sc ?_); case sc => exact sideB))
          refine RO.same (r + 1) (by show r + 1 ≤ _; omega) (show m ^ fr.length - (r + 1) < m ^ fr.length - r by omega) (And.intro rfl (And.intro rfl (And.intro rfl (And.intro rfl (And.intro rfl (trivial)))))) (And.intro trivial (And.intro rfl (And.intro trivial (trivial))))
      · repeat ((conv => whnf); first | with_reducible refine O_step ?_ | with_reducible refine S_step ?_ | with_reducible refine D_step ?_ | with_reducible refine RO.exit ?_ | with_reducible refine RO.ret ?_ | ((with_reducible refine And.intro ?sc ?_); case sc => exact side) | ((with_reducible refine br_f ?sc ?_); case sc => exact sideB) | ((with_reducible refine br_t ?sc ?_); case sc => exact sideB))
        refine RO.same (r + 1) (by show r + 1 ≤ _; omega) (show m ^ fr.length - (r + 1) < m ^ fr.length - r by omega) (And.intro rfl (And.intro rfl (And.intro rfl (And.intro rfl (And.intro rfl (trivial)))))) (And.intro trivial (And.intro rfl (And.intro trivial (trivial))))
    repeat ((conv => whnf); first | with_reducible refine O_step ?_ | with_reducible refine S_step ?_ | with_reducible refine D_step ?_ | with_reducible refine RO.exit ?_ | with_reducible refine RO.ret ?_ | ((with_reducible refine And.intro ?sc ?_); case sc => exact side) | ((with_reducible refine br_f ?sc ?_); case sc => exact sideB) | ((with_reducible refine br_t ?sc ?_); case sc => exact sideB))
    refine hcodes_at ?_
    repeat ((conv => whnf); first | with_reducible refine O_step ?_ | with_reducible refine S_step ?_ | with_reducible refine D_step ?_ | with_reducible refine RO.exit ?_ | with_reducible refine RO.ret ?_ | ((with_reducible refine And.intro ?sc ?_); case sc => exact side) | ((with_reducible refine br_f ?sc ?_); case sc => exact sideB) | ((with_reducible refine br_t ?sc ?_); case sc => exact sideB))
    exact ⟨true, rfl, rfl⟩
end Go.Proofs.Ytdnmbmnfglbfoaa
