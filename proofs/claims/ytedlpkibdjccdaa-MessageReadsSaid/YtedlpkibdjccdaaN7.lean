/- vignetteref23.Read. -/
import Derived.Test.YtedlpkibdjccdaaN6

import Derived.Test.YtedlpkibdjccdaaM20

set_option linter.unusedVariables false

set_option linter.unusedSimpArgs false

open Go.RowKit

namespace Go.Proofs.Ytedlpkibdjccdaa

set_option maxRecDepth 10000

section

variable {b : List Int} {c : Nat} {K Kp : AV → AH → Prop}

theorem ok_endG {M' : AH} {m : Msg} {i j gS cS gD cD : Nat} {n e : Int} (h0 : M'[0]? = some (.one false 0 (.ints .u8 b c))) (hi : M'[i]? = some (.one true gS (.ints .u32 m.sums cS))) (hj : M'[j]? = some (.one true gD (.ints .u8 m.body cD))) (hi0 : i ≠ 0) (hj0 : j ≠ 0) (hij : i ≠ j)
    (h : K (rdV3 gS cS gD cD m n e) (rdH3 b c gS cS gD cD m)) : ∃ t r'' N, PickA 1 (.tup [mV m i gS cS j gD cD, .int .i64 n, .int .i64 e]) M' t r'' N ∧ K r'' N := by
  refine ⟨[.sha 0, .own i, .own j], rdV3 gS cS gD cD m n e, rdH3 b c gS cS gD cD m, ⟨?_, ?_, ⟨trivial, trivial, trivial, trivial⟩, rfl, fun k hk => ?_⟩, h⟩
  · exact ⟨⟨rfl, .one false 0 (.ints .u8 b c), h0, rfl⟩, ⟨hi, rfl⟩, ⟨hj, rfl⟩, trivial⟩
  · rw [apart3 hi0 hj0 hij]; rfl
  · obtain rfl : k = 0 := by omega
    exact .inr rfl
set_option maxHeartbeats 4000000 in
theorem rread_call (hb : ∀ x ∈ b, in8 x) (lb : b.length ≤ 1000000000) (kb : b.length ≤ c)
    (h : ∀ gS cS gD cD, (rdM b).sums.length ≤ cS → (rdM b).body.length ≤ cD → K (rdV3 gS cS gD cD (rdM b) (rdN b) (rdE b)) (rdH3 b c gS cS gD cD (rdM b))) :
    CallA Try.prog 16 [.sl 0 0 0 b.length c] [.one false 0 (.ints .u8 b c)] K Kp := by
  have hno : ¬ rdOk b → ∀ e, rdE b = e → K (rdV3 0 0 0 0 (zeroM 0) 0 e) (rdH3 b c 0 0 0 0 (zeroM 0)) := by
    intro hn e he
    obtain ⟨h1, h2⟩ := rd_no hn
    have := h 0 0 0 0 (by rw [h1]; exact Nat.le_refl _) (by rw [h1]; exact Nat.le_refl _)
    rw [h1, h2, he] at this
    exact this
  have hyes : rdOk b → ∀ gS cS gD cD, (rdS b).m.sums.length ≤ cS → (rdS b).m.body.length ≤ cD → K (rdV3 gS cS gD cD (rdS b).m (5 + lenF b) 0) (rdH3 b c gS cS gD cD (rdS b).m) := by
    intro hy gS cS gD cD l1 l2
    obtain ⟨h1, h2, h3⟩ := rd_ok hy
    have := h gS cS gD cD (by rw [h1]; exact l1) (by rw [h1]; exact l2)
    rw [h1, h2, h3] at this
    exact this
  clear h
  refine CallA.post_pick ?_
  refine CallA.post_view ?_
  refine step16 (fun _ => [0, 1]) [] rfl ?_
  repeat ((conv => whnf); first | with_reducible refine O_step ?_ | with_reducible refine S_step ?_ | with_reducible refine D_step ?_ | with_reducible refine RO.exit ?_ | with_reducible refine RO.ret ?_ | ((with_reducible refine And.intro ?sc ?_); case sc => exact side) | ((with_reducible refine br_f ?sc ?_); case sc => exact sideB) | ((with_reducible refine br_t ?sc ?_); case sc => exact sideB))
  refine And.intro (fun hc => ?_) (fun hc => ?_)
  · have h0 : b.length = 0 := by simpa using hc
    repeat ((conv => whnf); first | with_reducible refine O_step ?_ | with_reducible refine S_step ?_ | with_reducible refine D_step ?_ | with_reducible refine RO.exit ?_ | with_reducible refine RO.ret ?_ | ((with_reducible refine And.intro ?sc ?_); case sc => exact side) | ((with_reducible refine br_f ?sc ?_); case sc => exact sideB) | ((with_reducible refine br_t ?sc ?_); case sc => exact sideB))
    exact noM_end (hno (fun k => k.1 h0) 0 (by rw [rdE, if_pos h0]))
  have h0 : ¬ b.length = 0 := by simpa using hc
  have hx0 := bget hb 0 (by omega)
  repeat ((conv => whnf); first | with_reducible refine O_step ?_ | with_reducible refine S_step ?_ | with_reducible refine D_step ?_ | with_reducible refine RO.exit ?_ | with_reducible refine RO.ret ?_ | ((with_reducible refine And.intro ?sc ?_); case sc => exact side) | ((with_reducible refine br_f ?sc ?_); case sc => exact sideB) | ((with_reducible refine br_t ?sc ?_); case sc => exact sideB))
  refine And.intro (fun hc => ?_) (fun hc => ?_)
  · have hc' : b.getD 0 0 < 1 := of_decide_eq_true hc
    have ht : ¬ (1 ≤ b.getD 0 0 ∧ b.getD 0 0 ≤ 6) := by omega
    repeat ((conv => whnf); first | with_reducible refine O_step ?_ | with_reducible refine S_step ?_ | with_reducible refine D_step ?_ | with_reducible refine RO.exit ?_ | with_reducible refine RO.ret ?_ | ((with_reducible refine And.intro ?sc ?_); case sc => exact side) | ((with_reducible refine br_f ?sc ?_); case sc => exact sideB) | ((with_reducible refine br_t ?sc ?_); case sc => exact sideB))
    exact noM_end (hno (fun k => ht k.2.1) 230 (by rw [rdE, if_neg h0, if_pos ht]))
  have hc1 : ¬ b.getD 0 0 < 1 := of_decide_eq_false hc
  repeat ((conv => whnf); first | with_reducible refine O_step ?_ | with_reducible refine S_step ?_ | with_reducible refine D_step ?_ | with_reducible refine RO.exit ?_ | with_reducible refine RO.ret ?_ | ((with_reducible refine And.intro ?sc ?_); case sc => exact side) | ((with_reducible refine br_f ?sc ?_); case sc => exact sideB) | ((with_reducible refine br_t ?sc ?_); case sc => exact sideB))
  refine And.intro (fun hc => ?_) (fun hc => ?_)
  · have hc' : 6 < b.getD 0 0 := of_decide_eq_true hc
    have ht : ¬ (1 ≤ b.getD 0 0 ∧ b.getD 0 0 ≤ 6) := by omega
    repeat ((conv => whnf); first | with_reducible refine O_step ?_ | with_reducible refine S_step ?_ | with_reducible refine D_step ?_ | with_reducible refine RO.exit ?_ | with_reducible refine RO.ret ?_ | ((with_reducible refine And.intro ?sc ?_); case sc => exact side) | ((with_reducible refine br_f ?sc ?_); case sc => exact sideB) | ((with_reducible refine br_t ?sc ?_); case sc => exact sideB))
    exact noM_end (hno (fun k => ht k.2.1) 230 (by rw [rdE, if_neg h0, if_pos ht]))
  have hc6 : ¬ 6 < b.getD 0 0 := of_decide_eq_false hc
  have ht : 1 ≤ b.getD 0 0 ∧ b.getD 0 0 ≤ 6 := by omega
  repeat ((conv => whnf); first | with_reducible refine O_step ?_ | with_reducible refine S_step ?_ | with_reducible refine D_step ?_ | with_reducible refine RO.exit ?_ | with_reducible refine RO.ret ?_ | ((with_reducible refine And.intro ?sc ?_); case sc => exact side) | ((with_reducible refine br_f ?sc ?_); case sc => exact sideB) | ((with_reducible refine br_t ?sc ?_); case sc => exact sideB))
  refine And.intro (fun hc => ?_) (fun hc => ?_)
  · have h5 : (b.length : Int) < 5 := of_decide_eq_true hc
    repeat ((conv => whnf); first | with_reducible refine O_step ?_ | with_reducible refine S_step ?_ | with_reducible refine D_step ?_ | with_reducible refine RO.exit ?_ | with_reducible refine RO.ret ?_ | ((with_reducible refine And.intro ?sc ?_); case sc => exact side) | ((with_reducible refine br_f ?sc ?_); case sc => exact sideB) | ((with_reducible refine br_t ?sc ?_); case sc => exact sideB))
    exact noM_end (hno (fun k => k.2.2.1 (by omega)) 0 (by rw [rdE, if_neg h0, if_neg (not_not_intro ht), if_pos (by omega)]))
  have h5 : ¬ (b.length : Int) < 5 := of_decide_eq_false hc
  have h5' : ¬ b.length < 5 := by omega
  have ho : offS c (Int.toNat 1) 0 1 = 1 := by rw [offS_1 (by show c ≠ 1; omega)]; rfl
  have hl4 : ((b.drop 1).take 4).length = 4 := by rw [List.length_take, List.length_drop]; omega
  have hvb := valB_bound ((b.drop 1).take 4) 0 1 (fun x hx => hb x (List.mem_of_mem_drop (List.mem_of_mem_take hx))) (by decide) (by decide)
  rw [hl4] at hvb
  have hlf : valB ((b.drop 1).take 4) 0 = lenF b := rfl
  rw [hlf] at hvb
  obtain ⟨n, hn⟩ := Int.eq_ofNat_of_zero_le hvb.1
  have hn0 : lenF b = (n : Int) := hn
  rw [hn0] at hvb
  repeat ((conv => whnf); first | with_reducible refine O_step ?_ | with_reducible refine S_step ?_ | with_reducible refine D_step ?_ | with_reducible refine RO.exit ?_ | with_reducible refine RO.ret ?_ | ((with_reducible refine And.intro ?sc ?_); case sc => exact side) | ((with_reducible refine br_f ?sc ?_); case sc => exact sideB) | ((with_reducible refine br_t ?sc ?_); case sc => exact sideB))
  have e4 : AV.sl 0 0 (offS c (Int.toNat 1) 0 1) 4 (c - 1) = .sl 0 0 1 ((b.drop 1).take 4).length (c - 1) := by rw [hl4, ho]
  refine (show CallA Try.prog 26 [.sl 0 0 (offS c (Int.toNat 1) 0 1) 4 (c - 1)] _ _ _ from ?_)
  rw [e4]
  refine valueR_at (Y := b) (cY := c) (i := 0) (gi := 0) (off := 1) (o1 := false) rfl (by omega) (by rw [hl4]) (fun x hx => hb x (List.mem_of_mem_drop (List.mem_of_mem_take hx))) (by omega) ?_
  rw [hlf, hn0]
  repeat ((conv => whnf); first | with_reducible refine O_step ?_ | with_reducible refine S_step ?_ | with_reducible refine D_step ?_ | with_reducible refine RO.exit ?_ | with_reducible refine RO.ret ?_ | ((with_reducible refine And.intro ?sc ?_); case sc => exact side) | ((with_reducible refine br_f ?sc ?_); case sc => exact sideB) | ((with_reducible refine br_t ?sc ?_); case sc => exact sideB))
  refine And.intro (fun hc => ?_) (fun hc => ?_)
  · have h6 : (524297 : Int) < n := of_decide_eq_true hc
    repeat ((conv => whnf); first | with_reducible refine O_step ?_ | with_reducible refine S_step ?_ | with_reducible refine D_step ?_ | with_reducible refine RO.exit ?_ | with_reducible refine RO.ret ?_ | ((with_reducible refine And.intro ?sc ?_); case sc => exact side) | ((with_reducible refine br_f ?sc ?_); case sc => exact sideB) | ((with_reducible refine br_t ?sc ?_); case sc => exact sideB))
    exact noM_end (hno (fun k => k.2.2.2.1 (by rw [hn0]; exact h6)) 2 (by rw [rdE, if_neg h0, if_neg (not_not_intro ht), if_neg h5', if_pos (by rw [hn0]; exact h6)]))
  have h6 : ¬ (524297 : Int) < n := of_decide_eq_false hc
  repeat ((conv => whnf); first | with_reducible refine O_step ?_ | with_reducible refine S_step ?_ | with_reducible refine D_step ?_ | with_reducible refine RO.exit ?_ | with_reducible refine RO.ret ?_ | ((with_reducible refine And.intro ?sc ?_); case sc => exact side) | ((with_reducible refine br_f ?sc ?_); case sc => exact sideB) | ((with_reducible refine br_t ?sc ?_); case sc => exact sideB))
  refine And.intro (fun hc => ?_) (fun hc => ?_)
  · have h7 : (b.length : Int) < 5 + n := of_decide_eq_true hc
    repeat ((conv => whnf); first | with_reducible refine O_step ?_ | with_reducible refine S_step ?_ | with_reducible refine D_step ?_ | with_reducible refine RO.exit ?_ | with_reducible refine RO.ret ?_ | ((with_reducible refine And.intro ?sc ?_); case sc => exact side) | ((with_reducible refine br_f ?sc ?_); case sc => exact sideB) | ((with_reducible refine br_t ?sc ?_); case sc => exact sideB))
    exact noM_end (hno (fun k => k.2.2.2.2.1 (by rw [hn0]; omega)) 0 (by rw [rdE, if_neg h0, if_neg (not_not_intro ht), if_neg h5', if_neg (by rw [hn0]; exact h6), if_pos (by rw [hn0]; omega)]))
  have h7 : ¬ (b.length : Int) < 5 + n := of_decide_eq_false hc
  have h7' : ¬ (b.length : Int) - 5 < n := by omega
  repeat ((conv => whnf); first | with_reducible refine O_step ?_ | with_reducible refine S_step ?_ | with_reducible refine D_step ?_ | with_reducible refine RO.exit ?_ | with_reducible refine RO.ret ?_ | ((with_reducible refine And.intro ?sc ?_); case sc => exact side) | ((with_reducible refine br_f ?sc ?_); case sc => exact sideB) | ((with_reducible refine br_t ?sc ?_); case sc => exact sideB))
  have hln : ((b.drop 5).take n).length = n := by rw [List.length_take, List.length_drop]; omega
  have hS0 : readF ⟨false, (b.drop 5).take n, zeroM (b.getD 0 0)⟩ = rdS b := by rw [rdS, hn0, Int.toNat_natCast]
  have ho5 : offS c 5 0 1 + n ≤ b.length ∧ (b.drop (offS c 5 0 1)).take n = (b.drop 5).take n := by
    by_cases h8 : c = 5
    · obtain rfl : n = 0 := by omega
      refine ⟨?_, by simp⟩
      unfold offS; rw [if_pos h8]; omega
    · rw [offS_1 h8]; exact ⟨by omega, rfl⟩
  have ho6 : offS c 5 0 1 + (c - 5) ≤ c := by
    by_cases h8 : c = 5
    · unfold offS; rw [if_pos h8]; omega
    · rw [offS_1 h8]; omega
  have e5 : AV.sl 0 0 (offS c (Int.toNat 5) 0 1) ((5 + (n : Int)).toNat - Int.toNat 5) (c - Int.toNat 5) = .sl 0 0 (offS c 5 0 1) ((b.drop 5).take n).length (c - 5) := by
    rw [hln]; show AV.sl 0 0 (offS c 5 0 1) ((5 + (n : Int)).toNat - 5) (c - 5) = _
    rw [show (5 + (n : Int)).toNat - 5 = n by omega]
  refine And.intro ?_ ?_
  · skip
    repeat ((conv => whnf); first | with_reducible refine O_step ?_ | with_reducible refine S_step ?_ | with_reducible refine D_step ?_ | with_reducible refine RO.exit ?_ | with_reducible refine RO.ret ?_ | ((with_reducible refine And.intro ?sc ?_); case sc => exact side) | ((with_reducible refine br_f ?sc ?_); case sc => exact sideB) | ((with_reducible refine br_t ?sc ?_); case sc => exact sideB))
    refine (show CallA Try.prog 27 [.int .u8 (b.getD 0 0), .sl 0 0 (offS c (Int.toNat 5) 0 1) ((5 + (n : Int)).toNat - Int.toNat 5) (c - Int.toNat 5)] _ _ _ from ?_)
    rw [e5]
    refine formR_at (b := []) (l := (b.drop 5).take n) (Y := b) (cY := c) (i := 0) (gi := 0) (off := offS c 5 0 1) (c := c - 5) (o1 := false) rfl ho6 (by rw [hln]; exact ho5.2.symm) (fun x hx => hb x (List.mem_of_mem_drop (List.mem_of_mem_take hx))) (by omega) (by omega) ht (fun gS cS gD cD q1 q2 l1 l2 => ?_) (fun gS cS gD cD q => ?_)
    · rw [hS0] at q1 q2 l1 l2 ⊢
      repeat ((conv => whnf); first | with_reducible refine O_step ?_ | with_reducible refine S_step ?_ | with_reducible refine D_step ?_ | with_reducible refine RO.exit ?_ | with_reducible refine RO.ret ?_ | ((with_reducible refine And.intro ?sc ?_); case sc => exact side) | ((with_reducible refine br_f ?sc ?_); case sc => exact sideB) | ((with_reducible refine br_t ?sc ?_); case sc => exact sideB))
      have hfin := hyes ⟨h0, ht, h5', by rw [hn0]; exact h6, by rw [hn0]; exact h7', q1, q2⟩ gS cS gD cD l1 l2
      rw [hn0] at hfin
      exact ⟨_, _, Vw.refl _ _, ok_endG (i := 2) (j := 3) rfl rfl rfl (by decide) (by decide) (by decide) hfin⟩
    · rw [hS0] at q
      repeat ((conv => whnf); first | with_reducible refine O_step ?_ | with_reducible refine S_step ?_ | with_reducible refine D_step ?_ | with_reducible refine RO.exit ?_ | with_reducible refine RO.ret ?_ | ((with_reducible refine And.intro ?sc ?_); case sc => exact side) | ((with_reducible refine br_f ?sc ?_); case sc => exact sideB) | ((with_reducible refine br_t ?sc ?_); case sc => exact sideB))
      exact noM_end (hno (fun k => q k.2.2.2.2.2) 231 (by rw [rdE, if_neg h0, if_neg (not_not_intro ht), if_neg h5', if_neg (by rw [hn0]; exact h6), if_neg (by rw [hn0]; exact h7'), if_pos (by
        cases hq : (rdS b).bad
        · exact .inr (fun e => q ⟨hq, e⟩)
        · exact .inl rfl)]))
  · skip
    repeat ((conv => whnf); first | with_reducible refine O_step ?_ | with_reducible refine S_step ?_ | with_reducible refine D_step ?_ | with_reducible refine RO.exit ?_ | with_reducible refine RO.ret ?_ | ((with_reducible refine And.intro ?sc ?_); case sc => exact side) | ((with_reducible refine br_f ?sc ?_); case sc => exact sideB) | ((with_reducible refine br_t ?sc ?_); case sc => exact sideB))
    refine (show CallA Try.prog 27 [.int .u8 (b.getD 0 0), .sl 0 0 (offS c (Int.toNat 5) 0 1) ((5 + (n : Int)).toNat - Int.toNat 5) (c - Int.toNat 5)] _ _ _ from ?_)
    rw [e5]
    refine formR_at (b := []) (l := (b.drop 5).take n) (Y := b) (cY := c) (i := 0) (gi := 0) (off := offS c 5 0 1) (c := c - 5) (o1 := false) rfl ho6 (by rw [hln]; exact ho5.2.symm) (fun x hx => hb x (List.mem_of_mem_drop (List.mem_of_mem_take hx))) (by omega) (by omega) ht (fun gS cS gD cD q1 q2 l1 l2 => ?_) (fun gS cS gD cD q => ?_)
    · rw [hS0] at q1 q2 l1 l2 ⊢
      repeat ((conv => whnf); first | with_reducible refine O_step ?_ | with_reducible refine S_step ?_ | with_reducible refine D_step ?_ | with_reducible refine RO.exit ?_ | with_reducible refine RO.ret ?_ | ((with_reducible refine And.intro ?sc ?_); case sc => exact side) | ((with_reducible refine br_f ?sc ?_); case sc => exact sideB) | ((with_reducible refine br_t ?sc ?_); case sc => exact sideB))
      have hfin := hyes ⟨h0, ht, h5', by rw [hn0]; exact h6, by rw [hn0]; exact h7', q1, q2⟩ gS cS gD cD l1 l2
      rw [hn0] at hfin
      exact ⟨_, _, Vw.refl _ _, ok_endG (i := 3) (j := 4) rfl rfl rfl (by decide) (by decide) (by decide) hfin⟩
    · rw [hS0] at q
      repeat ((conv => whnf); first | with_reducible refine O_step ?_ | with_reducible refine S_step ?_ | with_reducible refine D_step ?_ | with_reducible refine RO.exit ?_ | with_reducible refine RO.ret ?_ | ((with_reducible refine And.intro ?sc ?_); case sc => exact side) | ((with_reducible refine br_f ?sc ?_); case sc => exact sideB) | ((with_reducible refine br_t ?sc ?_); case sc => exact sideB))
      exact noM_end (hno (fun k => q k.2.2.2.2.2) 231 (by rw [rdE, if_neg h0, if_neg (not_not_intro ht), if_neg h5', if_neg (by rw [hn0]; exact h6), if_neg (by rw [hn0]; exact h7'), if_pos (by
        cases hq : (rdS b).bad
        · exact .inr (fun e => q ⟨hq, e⟩)
        · exact .inl rfl)]))
theorem rread_at {M : AH} {i gi off c cY : Nat} {o1 : Bool} {b Y : List Int} (hi : slot M i gi = some (o1, .ints .u8 Y cY)) (hc : off + c ≤ cY) (hY : b = (Y.drop off).take b.length)
    (hb : ∀ x ∈ b, in8 x) (lb : b.length ≤ 1000000000) (kb : b.length ≤ c)
    (h : ∀ gS cS gD cD, (rdM b).sums.length ≤ cS → (rdM b).body.length ≤ cD → K (rdVat M.length gS cS gD cD (rdM b) (rdN b) (rdE b)) (M ++ [.one true gS (.ints .u32 (rdM b).sums cS), .one true gD (.ints .u8 (rdM b).body cD)])) :
    CallA Try.prog 16 [.sl i gi off b.length c] M K Kp := by
  refine CallA.lift [.win i gi off] (rread_call (c := c) (Kp := fun _ _ => False) (K := fun r M' => ∃ gS cS gD cD, (rdM b).sums.length ≤ cS ∧ (rdM b).body.length ≤ cD ∧ r = rdV3 gS cS gD cD (rdM b) (rdN b) (rdE b) ∧ M' = rdH3 b c gS cS gD cD (rdM b)) hb lb kb
    (fun gS cS gD cD h1 h2 => ⟨gS, cS, gD, cD, h1, h2, rfl, rfl⟩)) rfl rfl ⟨⟨_, _, _, rfl, hi, WinC.ints hc hY⟩, trivial⟩ ⟨trivial, trivial⟩ ?_ (fun _ _ h => h.elim)
  rintro r M' ⟨gS, cS, gD, cD, h1, h2, rfl, rfl⟩
  exact ⟨⟨rfl, rfl⟩, h gS cS gD cD h1 h2⟩
end

end Go.Proofs.Ytedlpkibdjccdaa
