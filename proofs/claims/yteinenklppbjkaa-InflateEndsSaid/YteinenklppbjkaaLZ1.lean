/- Layer 8: InflateEnds. -/
import Derived.Test.YteinenklppbjkaaZ12

import Derived.Test.YteinenklppbjkaaZp

set_option linter.unusedVariables false

set_option linter.unusedSimpArgs false

open Go.RowKit

namespace Go.Proofs.Yteinenklppbjkaa

set_option maxRecDepth 10000

theorem inflateEnds_law (b : List Int) (c : Nat) (hc : b.length ≤ c ∧ c ≤ 9223372036854775807) (hx : ∀ x ∈ b, IntKind.u8.min ≤ x ∧ x ≤ IntKind.u8.max) (limit : Int) (hlim : IntKind.i64.min ≤ limit ∧ limit ≤ IntKind.i64.max)
    (z : List Int) (cz : Nat) (hcz : z.length ≤ cz ∧ cz ≤ 9223372036854775807) (hxz : ∀ x ∈ z, IntKind.u8.min ≤ x ∧ x ≤ IntKind.u8.max) :
    CallA Try.prog 3 [.sl 0 0 0 b.length c, .int .i64 limit, .sl 1 0 0 z.length cz] [.one false 0 (.ints .u8 b c), .one false 0 (.ints .u8 z cz)] (fun r _ => r = .bo true) (fun _ _ => False) := by
  have hu : ∀ x ∈ b, 0 ≤ x ∧ x < 256 := by
    intro x hxl
    have h1 : 0 ≤ x := (hx x hxl).1
    have h2 : x ≤ 255 := (hx x hxl).2
    omega
  have huz : ∀ x ∈ z, 0 ≤ x ∧ x < 256 := by
    intro x hxl
    have h1 : 0 ≤ x := (hxz x hxl).1
    have h2 : x ≤ 255 := (hxz x hxl).2
    omega
  refine CallA.post_asB ?_
  refine step3 (fun _ => []) [] rfl ?_
  repeat ((conv => whnf); first | with_reducible refine O_step ?_ | with_reducible refine S_step ?_ | with_reducible refine D_step ?_ | with_reducible refine RO.exit ?_ | with_reducible refine RO.ret ?_ | ((with_reducible refine And.intro ?sc ?_); case sc => exact side) | ((with_reducible refine br_f ?sc ?_); case sc => exact sideB) | ((with_reducible refine br_t ?sc ?_); case sc => exact sideB))
  refine And.intro (fun h1 => ?_) (fun h1 => ?_)
  · repeat ((conv => whnf); first | with_reducible refine O_step ?_ | with_reducible refine S_step ?_ | with_reducible refine D_step ?_ | with_reducible refine RO.exit ?_ | with_reducible refine RO.ret ?_ | ((with_reducible refine And.intro ?sc ?_); case sc => exact side) | ((with_reducible refine br_f ?sc ?_); case sc => exact sideB) | ((with_reducible refine br_t ?sc ?_); case sc => exact sideB))
    exact ⟨true, rfl, rfl⟩
  have h1' : b.length ≤ 2000 := by have := of_decide_eq_false h1; omega
  repeat ((conv => whnf); first | with_reducible refine O_step ?_ | with_reducible refine S_step ?_ | with_reducible refine D_step ?_ | with_reducible refine RO.exit ?_ | with_reducible refine RO.ret ?_ | ((with_reducible refine And.intro ?sc ?_); case sc => exact side) | ((with_reducible refine br_f ?sc ?_); case sc => exact sideB) | ((with_reducible refine br_t ?sc ?_); case sc => exact sideB))
  refine And.intro (fun h2 => ?_) (fun h2 => ?_)
  · repeat ((conv => whnf); first | with_reducible refine O_step ?_ | with_reducible refine S_step ?_ | with_reducible refine D_step ?_ | with_reducible refine RO.exit ?_ | with_reducible refine RO.ret ?_ | ((with_reducible refine And.intro ?sc ?_); case sc => exact side) | ((with_reducible refine br_f ?sc ?_); case sc => exact sideB) | ((with_reducible refine br_t ?sc ?_); case sc => exact sideB))
    exact ⟨true, rfl, rfl⟩
  have h2' : z.length ≤ 200 := by have := of_decide_eq_false h2; omega
  repeat ((conv => whnf); first | with_reducible refine O_step ?_ | with_reducible refine S_step ?_ | with_reducible refine D_step ?_ | with_reducible refine RO.exit ?_ | with_reducible refine RO.ret ?_ | ((with_reducible refine And.intro ?sc ?_); case sc => exact side) | ((with_reducible refine br_f ?sc ?_); case sc => exact sideB) | ((with_reducible refine br_t ?sc ?_); case sc => exact sideB))
  refine And.intro (fun h3 => ?_) (fun h3 => ?_)
  · repeat ((conv => whnf); first | with_reducible refine O_step ?_ | with_reducible refine S_step ?_ | with_reducible refine D_step ?_ | with_reducible refine RO.exit ?_ | with_reducible refine RO.ret ?_ | ((with_reducible refine And.intro ?sc ?_); case sc => exact side) | ((with_reducible refine br_f ?sc ?_); case sc => exact sideB) | ((with_reducible refine br_t ?sc ?_); case sc => exact sideB))
    exact ⟨true, rfl, rfl⟩
  have h3' : 0 ≤ limit := by have := of_decide_eq_false h3; omega
  repeat ((conv => whnf); first | with_reducible refine O_step ?_ | with_reducible refine S_step ?_ | with_reducible refine D_step ?_ | with_reducible refine RO.exit ?_ | with_reducible refine RO.ret ?_ | ((with_reducible refine And.intro ?sc ?_); case sc => exact side) | ((with_reducible refine br_f ?sc ?_); case sc => exact sideB) | ((with_reducible refine br_t ?sc ?_); case sc => exact sideB))
  refine And.intro (fun h4 => ?_) (fun h4 => ?_)
  · repeat ((conv => whnf); first | with_reducible refine O_step ?_ | with_reducible refine S_step ?_ | with_reducible refine D_step ?_ | with_reducible refine RO.exit ?_ | with_reducible refine RO.ret ?_ | ((with_reducible refine And.intro ?sc ?_); case sc => exact side) | ((with_reducible refine br_f ?sc ?_); case sc => exact sideB) | ((with_reducible refine br_t ?sc ?_); case sc => exact sideB))
    exact ⟨true, rfl, rfl⟩
  have h4' : limit ≤ 5000 := by have := of_decide_eq_false h4; omega
  obtain ⟨lim, rfl⟩ := Int.eq_ofNat_of_zero_le h3'
  have el : ((lim : Int) + 1000).toNat = lim + 1000 := by omega
  obtain ⟨L1, L2⟩ := infR_lim (xs := b) (lim := lim) (lim' := lim + 1000) (by omega)
  repeat ((conv => whnf); first | with_reducible refine O_step ?_ | with_reducible refine S_step ?_ | with_reducible refine D_step ?_ | with_reducible refine RO.exit ?_ | with_reducible refine RO.ret ?_ | ((with_reducible refine And.intro ?sc ?_); case sc => exact side) | ((with_reducible refine br_f ?sc ?_); case sc => exact sideB) | ((with_reducible refine br_t ?sc ?_); case sc => exact sideB))
  refine inflate_at (i := 0) (xs := b) (limit := (lim : Int)) rfl rfl hc.1 (by omega) hu (by omega) (fun h => absurd h (by omega)) (fun g1 c1 s _ _ e1 ok1 hb1 => ?_) (fun e _ _ e1 => ?_)
  · rw [Int.toNat_natCast] at e1
    have e2 := L1 _ e1
    obtain ⟨hp1, hp2⟩ := infR_ok e1
    have hal := ok1.al
    have e3 := infR_behind (zs := z) e1 hal
    have e4 := infR_part e1 hal
    repeat ((conv => whnf); first | with_reducible refine O_step ?_ | with_reducible refine S_step ?_ | with_reducible refine D_step ?_ | with_reducible refine RO.exit ?_ | with_reducible refine RO.ret ?_ | ((with_reducible refine And.intro ?sc ?_); case sc => exact side) | ((with_reducible refine br_f ?sc ?_); case sc => exact sideB) | ((with_reducible refine br_t ?sc ?_); case sc => exact sideB))
    refine inflate_at (i := 0) (xs := b) (limit := (lim : Int) + 1000) rfl rfl hc.1 (by omega) hu (by omega) (fun h => absurd h (by omega)) (fun g2 c2 s2 _ _ e5 ok2 hb2 => ?_) (fun e _ _ e5 => ?_)
    · rw [el, e2] at e5
      obtain rfl : s = s2 := by injection e5 with e5; injection e5
      obtain ⟨n, hn⟩ : ∃ n, (s.a + 7) / 8 = n := ⟨_, rfl⟩
      have hn1 : 1 ≤ n := by omega
      have hn2 : n ≤ b.length := by omega
      rw [hn] at e3 e4
      rw [hn]
      repeat ((conv => whnf); first | with_reducible refine O_step ?_ | with_reducible refine S_step ?_ | with_reducible refine D_step ?_ | with_reducible refine RO.exit ?_ | with_reducible refine RO.ret ?_ | ((with_reducible refine And.intro ?sc ?_); case sc => exact side) | ((with_reducible refine br_f ?sc ?_); case sc => exact sideB) | ((with_reducible refine br_t ?sc ?_); case sc => exact sideB))
      refine br_f (decide_eq_false (by omega)) ?_
      repeat ((conv => whnf); first | with_reducible refine O_step ?_ | with_reducible refine S_step ?_ | with_reducible refine D_step ?_ | with_reducible refine RO.exit ?_ | with_reducible refine RO.ret ?_ | ((with_reducible refine And.intro ?sc ?_); case sc => exact side) | ((with_reducible refine br_f ?sc ?_); case sc => exact sideB) | ((with_reducible refine br_t ?sc ?_); case sc => exact sideB))
      refine br_f (decide_eq_false (by omega)) ?_
      repeat ((conv => whnf); first | with_reducible refine O_step ?_ | with_reducible refine S_step ?_ | with_reducible refine D_step ?_ | with_reducible refine RO.exit ?_ | with_reducible refine RO.ret ?_ | ((with_reducible refine And.intro ?sc ?_); case sc => exact side) | ((with_reducible refine br_f ?sc ?_); case sc => exact sideB) | ((with_reducible refine br_t ?sc ?_); case sc => exact sideB))
      intro ys hys
      obtain rfl : b.take n = ys := by rw [hys]; simp
      have hbl : (b.take n).length = n := by rw [List.length_take]; omega
      repeat ((conv => whnf); first | with_reducible refine O_step ?_ | with_reducible refine S_step ?_ | with_reducible refine D_step ?_ | with_reducible refine RO.exit ?_ | with_reducible refine RO.ret ?_ | ((with_reducible refine And.intro ?sc ?_); case sc => exact side) | ((with_reducible refine br_f ?sc ?_); case sc => exact sideB) | ((with_reducible refine br_t ?sc ?_); case sc => exact sideB))
      intro c3 hc3
      repeat ((conv => whnf); first | with_reducible refine O_step ?_ | with_reducible refine S_step ?_ | with_reducible refine D_step ?_ | with_reducible refine RO.exit ?_ | with_reducible refine RO.ret ?_ | ((with_reducible refine And.intro ?sc ?_); case sc => exact side) | ((with_reducible refine br_f ?sc ?_); case sc => exact sideB) | ((with_reducible refine br_t ?sc ?_); case sc => exact sideB))
      intro zs hzs
      obtain rfl : z = zs := by rw [hzs]; simp
      repeat ((conv => whnf); first | with_reducible refine O_step ?_ | with_reducible refine S_step ?_ | with_reducible refine D_step ?_ | with_reducible refine RO.exit ?_ | with_reducible refine RO.ret ?_ | ((with_reducible refine And.intro ?sc ?_); case sc => exact side) | ((with_reducible refine br_f ?sc ?_); case sc => exact sideB) | ((with_reducible refine br_t ?sc ?_); case sc => exact sideB))
      intro c4 hc4
      have hlz : (b.take n ++ z).length = n + z.length := by rw [List.length_append, hbl]
      have huz2 : ∀ x ∈ b.take n ++ z, 0 ≤ x ∧ x < 256 := by
        intro x hx
        rcases List.mem_append.1 hx with hx | hx
        · exact hu x (List.mem_of_mem_take hx)
        · exact huz x hx
      have hc4' : (b.take n ++ z).length ≤ c4 := by rw [hlz]; have := hc4; omega
      repeat ((conv => whnf); first | with_reducible refine O_step ?_ | with_reducible refine S_step ?_ | with_reducible refine D_step ?_ | with_reducible refine RO.exit ?_ | with_reducible refine RO.ret ?_ | ((with_reducible refine And.intro ?sc ?_); case sc => exact side) | ((with_reducible refine br_f ?sc ?_); case sc => exact sideB) | ((with_reducible refine br_t ?sc ?_); case sc => exact sideB))
      refine inflate_at (i := 4) (xs := b.take n ++ z) (limit := (lim : Int)) rfl ?_ hc4' (by omega) huz2 (by omega) (fun h => absurd h (by omega)) (fun g3 c5 s3 _ _ e6 ok3 hb3 => ?_) (fun e' _ _ e6 => ?_)
      · rw [hlz]; omega
      · rw [Int.toNat_natCast, e3] at e6
        obtain rfl : s = s3 := by injection e6 with e6; injection e6
        rw [hn]
        have hul1 : (b.take (n - 1)).length = n - 1 := by rw [List.length_take]; omega
        have hu1 : ∀ x ∈ b.take (n - 1), 0 ≤ x ∧ x < 256 := fun x hx => hu x (List.mem_of_mem_take hx)
        have hss : ((bytesStr s.out).toList == (bytesStr s.out).toList) = true := by simp
        repeat ((conv => whnf); first | with_reducible refine O_step ?_ | with_reducible refine S_step ?_ | with_reducible refine D_step ?_ | with_reducible refine RO.exit ?_ | with_reducible refine RO.ret ?_ | ((with_reducible refine And.intro ?sc ?_); case sc => exact side) | ((with_reducible refine br_f ?sc ?_); case sc => exact sideB) | ((with_reducible refine br_t ?sc ?_); case sc => exact sideB))
        refine inflate_win (i := 0) (off := 0) (xs := b.take (n - 1)) (ys := b) (limit := (lim : Int)) rfl ?_ ?_ (by omega) (by omega) hu1 (by omega) (fun h => absurd h (by omega)) (fun g4 c6 s4 _ _ e7 ok4 hb4 => ?_) (fun e' _ _ e7 => ?_)
        · rw [hul1]; omega
        · rw [hul1, List.drop_zero]
        · rw [Int.toNat_natCast, e4] at e7
          cases e7
        rw [Int.toNat_natCast, e4] at e7
        obtain rfl : (50 : Int) = e' := by injection e7
        repeat ((conv => whnf); first | with_reducible refine O_step ?_ | with_reducible refine S_step ?_ | with_reducible refine D_step ?_ | with_reducible refine RO.exit ?_ | with_reducible refine RO.ret ?_ | ((with_reducible refine And.intro ?sc ?_); case sc => exact side) | ((with_reducible refine br_f ?sc ?_); case sc => exact sideB) | ((with_reducible refine br_t ?sc ?_); case sc => exact sideB))
        refine br_t (decide_eq_true (by omega)) ?_
        repeat ((conv => whnf); first | with_reducible refine O_step ?_ | with_reducible refine S_step ?_ | with_reducible refine D_step ?_ | with_reducible refine RO.exit ?_ | with_reducible refine RO.ret ?_ | ((with_reducible refine And.intro ?sc ?_); case sc => exact side) | ((with_reducible refine br_f ?sc ?_); case sc => exact sideB) | ((with_reducible refine br_t ?sc ?_); case sc => exact sideB))
        refine br_t (decide_eq_true (by omega)) ?_
        repeat ((conv => whnf); first | with_reducible refine O_step ?_ | with_reducible refine S_step ?_ | with_reducible refine D_step ?_ | with_reducible refine RO.exit ?_ | with_reducible refine RO.ret ?_ | ((with_reducible refine And.intro ?sc ?_); case sc => exact side) | ((with_reducible refine br_f ?sc ?_); case sc => exact sideB) | ((with_reducible refine br_t ?sc ?_); case sc => exact sideB))
        refine br_t (decide_eq_true (by omega)) ?_
        repeat ((conv => whnf); first | with_reducible refine O_step ?_ | with_reducible refine S_step ?_ | with_reducible refine D_step ?_ | with_reducible refine RO.exit ?_ | with_reducible refine RO.ret ?_ | ((with_reducible refine And.intro ?sc ?_); case sc => exact side) | ((with_reducible refine br_f ?sc ?_); case sc => exact sideB) | ((with_reducible refine br_t ?sc ?_); case sc => exact sideB))
        intro ys hys
        obtain rfl : s.out = ys := by rw [hys]; simp
        repeat ((conv => whnf); first | with_reducible refine O_step ?_ | with_reducible refine S_step ?_ | with_reducible refine D_step ?_ | with_reducible refine RO.exit ?_ | with_reducible refine RO.ret ?_ | ((with_reducible refine And.intro ?sc ?_); case sc => exact side) | ((with_reducible refine br_f ?sc ?_); case sc => exact sideB) | ((with_reducible refine br_t ?sc ?_); case sc => exact sideB))
        intro zs hzs
        obtain rfl : s.out = zs := by rw [hzs]; simp
        repeat ((conv => whnf); first | with_reducible refine O_step ?_ | with_reducible refine S_step ?_ | with_reducible refine D_step ?_ | with_reducible refine RO.exit ?_ | with_reducible refine RO.ret ?_ | ((with_reducible refine And.intro ?sc ?_); case sc => exact side) | ((with_reducible refine br_f ?sc ?_); case sc => exact sideB) | ((with_reducible refine br_t ?sc ?_); case sc => exact sideB))
        intro ys hys
        obtain rfl : s.out = ys := by rw [hys]; simp
        repeat ((conv => whnf); first | with_reducible refine O_step ?_ | with_reducible refine S_step ?_ | with_reducible refine D_step ?_ | with_reducible refine RO.exit ?_ | with_reducible refine RO.ret ?_ | ((with_reducible refine And.intro ?sc ?_); case sc => exact side) | ((with_reducible refine br_f ?sc ?_); case sc => exact sideB) | ((with_reducible refine br_t ?sc ?_); case sc => exact sideB))
        intro zs hzs
        obtain rfl : s.out = zs := by rw [hzs]; simp
        repeat ((conv => whnf); first | with_reducible refine O_step ?_ | with_reducible refine S_step ?_ | with_reducible refine D_step ?_ | with_reducible refine RO.exit ?_ | with_reducible refine RO.ret ?_ | ((with_reducible refine And.intro ?sc ?_); case sc => exact side) | ((with_reducible refine br_f ?sc ?_); case sc => exact sideB) | ((with_reducible refine br_t ?sc ?_); case sc => exact sideB))
        refine reads_at ?_
        repeat ((conv => whnf); first | with_reducible refine O_step ?_ | with_reducible refine S_step ?_ | with_reducible refine D_step ?_ | with_reducible refine RO.exit ?_ | with_reducible refine RO.ret ?_ | ((with_reducible refine And.intro ?sc ?_); case sc => exact side) | ((with_reducible refine br_f ?sc ?_); case sc => exact sideB) | ((with_reducible refine br_t ?sc ?_); case sc => exact sideB))
        exact ⟨true, rfl, rfl⟩
      · rw [Int.toNat_natCast, e3] at e6
        cases e6
    · rw [el, e2] at e5
      cases e5
  · rw [Int.toNat_natCast] at e1
    have hz := infR_nz e1
    have e2 := L2 _ e1
    repeat ((conv => whnf); first | with_reducible refine O_step ?_ | with_reducible refine S_step ?_ | with_reducible refine D_step ?_ | with_reducible refine RO.exit ?_ | with_reducible refine RO.ret ?_ | ((with_reducible refine And.intro ?sc ?_); case sc => exact side) | ((with_reducible refine br_f ?sc ?_); case sc => exact sideB) | ((with_reducible refine br_t ?sc ?_); case sc => exact sideB))
    refine inflate_at (i := 0) (xs := b) (limit := (lim : Int) + 1000) rfl rfl hc.1 (by omega) hu (by omega) (fun h => absurd h (by omega)) (fun g2 c2 s2 _ _ e5 ok2 hb2 => ?_) (fun e' _ _ e5 => ?_)
    · rw [el] at e5
      have h81 : e = 81 := by
        rcases e2 with h | h
        · exact h
        · rw [e5] at h; cases h
      subst h81
      repeat ((conv => whnf); first | with_reducible refine O_step ?_ | with_reducible refine S_step ?_ | with_reducible refine D_step ?_ | with_reducible refine RO.exit ?_ | with_reducible refine RO.ret ?_ | ((with_reducible refine And.intro ?sc ?_); case sc => exact side) | ((with_reducible refine br_f ?sc ?_); case sc => exact sideB) | ((with_reducible refine br_t ?sc ?_); case sc => exact sideB))
      refine reads_at ?_
      repeat ((conv => whnf); first | with_reducible refine O_step ?_ | with_reducible refine S_step ?_ | with_reducible refine D_step ?_ | with_reducible refine RO.exit ?_ | with_reducible refine RO.ret ?_ | ((with_reducible refine And.intro ?sc ?_); case sc => exact side) | ((with_reducible refine br_f ?sc ?_); case sc => exact sideB) | ((with_reducible refine br_t ?sc ?_); case sc => exact sideB))
      exact ⟨true, rfl, rfl⟩
    · rw [el] at e5
      repeat ((conv => whnf); first | with_reducible refine O_step ?_ | with_reducible refine S_step ?_ | with_reducible refine D_step ?_ | with_reducible refine RO.exit ?_ | with_reducible refine RO.ret ?_ | ((with_reducible refine And.intro ?sc ?_); case sc => exact side) | ((with_reducible refine br_f ?sc ?_); case sc => exact sideB) | ((with_reducible refine br_t ?sc ?_); case sc => exact sideB))
      refine br_t (by simpa using hz) ?_
      repeat ((conv => whnf); first | with_reducible refine O_step ?_ | with_reducible refine S_step ?_ | with_reducible refine D_step ?_ | with_reducible refine RO.exit ?_ | with_reducible refine RO.ret ?_ | ((with_reducible refine And.intro ?sc ?_); case sc => exact side) | ((with_reducible refine br_f ?sc ?_); case sc => exact sideB) | ((with_reducible refine br_t ?sc ?_); case sc => exact sideB))
      refine And.intro (fun he => ?_) (fun he => ?_)
      · repeat ((conv => whnf); first | with_reducible refine O_step ?_ | with_reducible refine S_step ?_ | with_reducible refine D_step ?_ | with_reducible refine RO.exit ?_ | with_reducible refine RO.ret ?_ | ((with_reducible refine And.intro ?sc ?_); case sc => exact side) | ((with_reducible refine br_f ?sc ?_); case sc => exact sideB) | ((with_reducible refine br_t ?sc ?_); case sc => exact sideB))
        refine reads_at ?_
        repeat ((conv => whnf); first | with_reducible refine O_step ?_ | with_reducible refine S_step ?_ | with_reducible refine D_step ?_ | with_reducible refine RO.exit ?_ | with_reducible refine RO.ret ?_ | ((with_reducible refine And.intro ?sc ?_); case sc => exact side) | ((with_reducible refine br_f ?sc ?_); case sc => exact sideB) | ((with_reducible refine br_t ?sc ?_); case sc => exact sideB))
        exact ⟨true, rfl, rfl⟩
      · have he' : ¬ e = e' := by simpa using he
        have h81 : e = 81 := by
          rcases e2 with h | h
          · exact h
          · rw [e5] at h; injection h with h; exact absurd h.symm he'
        repeat ((conv => whnf); first | with_reducible refine O_step ?_ | with_reducible refine S_step ?_ | with_reducible refine D_step ?_ | with_reducible refine RO.exit ?_ | with_reducible refine RO.ret ?_ | ((with_reducible refine And.intro ?sc ?_); case sc => exact side) | ((with_reducible refine br_f ?sc ?_); case sc => exact sideB) | ((with_reducible refine br_t ?sc ?_); case sc => exact sideB))
        refine br_t (decide_eq_true h81) ?_
        repeat ((conv => whnf); first | with_reducible refine O_step ?_ | with_reducible refine S_step ?_ | with_reducible refine D_step ?_ | with_reducible refine RO.exit ?_ | with_reducible refine RO.ret ?_ | ((with_reducible refine And.intro ?sc ?_); case sc => exact side) | ((with_reducible refine br_f ?sc ?_); case sc => exact sideB) | ((with_reducible refine br_t ?sc ?_); case sc => exact sideB))
        refine reads_at ?_
        repeat ((conv => whnf); first | with_reducible refine O_step ?_ | with_reducible refine S_step ?_ | with_reducible refine D_step ?_ | with_reducible refine RO.exit ?_ | with_reducible refine RO.ret ?_ | ((with_reducible refine And.intro ?sc ?_); case sc => exact side) | ((with_reducible refine br_f ?sc ?_); case sc => exact sideB) | ((with_reducible refine br_t ?sc ?_); case sc => exact sideB))
        exact ⟨true, rfl, rfl⟩
end Go.Proofs.Yteinenklppbjkaa
