/- Layer 23: THE CONTRACT OF message.Read. -/
import Derived.Test.YtedlpkibdjccdaaM17

set_option linter.unusedVariables false

set_option linter.unusedSimpArgs false

open Go.RowKit

namespace Go.Proofs.Ytedlpkibdjccdaa

set_option maxRecDepth 10000

section

variable {b : List Int} {c : Nat} {K Kp : AV → AH → Prop}

set_option maxHeartbeats 4000000 in
theorem mread_call (hb : ∀ x ∈ b, in8 x) (lb : b.length ≤ 1000000000) (kb : b.length ≤ c)
    (h : ∀ gS cS gD cD, (rdM b).sums.length ≤ cS → (rdM b).body.length ≤ cD → K (rdV3 gS cS gD cD (rdM b) (rdN b) (rdE b)) (rdH3 b c gS cS gD cD (rdM b))) :
    CallA Try.prog 15 [.sl 0 0 0 b.length c] [.one false 0 (.ints .u8 b c)] K Kp := by
  have hno : ¬ rdOk b → ∀ e, rdE b = e → K (rdV3 0 0 0 0 (zeroM 0) 0 e) (rdH3 b c 0 0 0 0 (zeroM 0)) := by
    intro hn e he
    obtain ⟨h1, h2⟩ := rd_no hn
    have := h 0 0 0 0 (by rw [h1]; exact Nat.le_refl _) (by rw [h1]; exact Nat.le_refl _)
    rw [h1, h2, he] at this
    exact this
  have hyes : rdOk b → ∀ gS cS gD cD, (rdS b).m.sums.length ≤ cS → (rdS b).m.body.length ≤ cD → K (rdV3 gS cS gD cD (rdS b).m (5 + lenF b) 0) (rdH3 b c gS cS gD cD (rdS b).m) := by
    intro hy gS cS gD cD l1 l2
    obtain ⟨h1, h2, h3⟩ := rd_ok hy
    have := h gS cS gD cD (by rw [h1]; exact l1) (by rw [h1]; exact l2)
    rw [h1, h2, h3] at this
    exact this
  clear h
  by_cases h0 : b.length = 0
  · refine CallA.post_pick ?_
    refine CallA.post_view ?_
    refine step15 (fun _ => [0, 1, 2, 4]) [] rfl ?_
    repeat ((conv => whnf); first | with_reducible refine O_step ?_ | with_reducible refine S_step ?_ | with_reducible refine D_step ?_ | with_reducible refine RO.exit ?_ | with_reducible refine RO.ret ?_ | ((with_reducible refine And.intro ?sc ?_); case sc => exact side) | ((with_reducible refine br_f ?sc ?_); case sc => exact sideB) | ((with_reducible refine br_t ?sc ?_); case sc => exact sideB))
    refine And.intro (fun hc => ?_) (fun hc => ?_)
    · repeat ((conv => whnf); first | with_reducible refine O_step ?_ | with_reducible refine S_step ?_ | with_reducible refine D_step ?_ | with_reducible refine RO.exit ?_ | with_reducible refine RO.ret ?_ | ((with_reducible refine And.intro ?sc ?_); case sc => exact side) | ((with_reducible refine br_f ?sc ?_); case sc => exact sideB) | ((with_reducible refine br_t ?sc ?_); case sc => exact sideB))
      exact noM_end (hno (fun k => k.1 h0) 0 (by rw [rdE, if_pos h0]))
    · exact absurd h0 (by simpa using hc)
  have hx0 := bget hb 0 (by omega)
  by_cases ht : 1 ≤ b.getD 0 0 ∧ b.getD 0 0 ≤ 6
  · refine CallA.post_pick ?_
    refine CallA.post_view ?_
    refine step15 (fun _ => [0, 1, 2, 4]) [] rfl ?_
    repeat ((conv => whnf); first | with_reducible refine O_step ?_ | with_reducible refine S_step ?_ | with_reducible refine D_step ?_ | with_reducible refine RO.exit ?_ | with_reducible refine RO.ret ?_ | ((with_reducible refine And.intro ?sc ?_); case sc => exact side) | ((with_reducible refine br_f ?sc ?_); case sc => exact sideB) | ((with_reducible refine br_t ?sc ?_); case sc => exact sideB))
    refine And.intro (fun hc => ?_) (fun hc => ?_)
    · exact absurd (by simpa using hc) h0
    repeat ((conv => whnf); first | with_reducible refine O_step ?_ | with_reducible refine S_step ?_ | with_reducible refine D_step ?_ | with_reducible refine RO.exit ?_ | with_reducible refine RO.ret ?_ | ((with_reducible refine And.intro ?sc ?_); case sc => exact side) | ((with_reducible refine br_f ?sc ?_); case sc => exact sideB) | ((with_reducible refine br_t ?sc ?_); case sc => exact sideB))
    refine (show CallA Try.prog 19 [.ptr 2 0 0] (rdH _ (zeroM (b.getD 0 0)) b c []) _ _ from ?_)
    refine fieldsR_atU rfl (fun _ => rfl) (fun _ => rfl) ht (fun nf fs => ?_)
    repeat ((conv => whnf); first | with_reducible refine O_step ?_ | with_reducible refine S_step ?_ | with_reducible refine D_step ?_ | with_reducible refine RO.exit ?_ | with_reducible refine RO.ret ?_ | ((with_reducible refine And.intro ?sc ?_); case sc => exact side) | ((with_reducible refine br_f ?sc ?_); case sc => exact sideB) | ((with_reducible refine br_t ?sc ?_); case sc => exact sideB))
    refine And.intro (fun hc => ?_) (fun hc => ?_)
    · have h5 : (b.length : Int) < 5 := of_decide_eq_true hc
      repeat ((conv => whnf); first | with_reducible refine O_step ?_ | with_reducible refine S_step ?_ | with_reducible refine D_step ?_ | with_reducible refine RO.exit ?_ | with_reducible refine RO.ret ?_ | ((with_reducible refine And.intro ?sc ?_); case sc => exact side) | ((with_reducible refine br_f ?sc ?_); case sc => exact sideB) | ((with_reducible refine br_t ?sc ?_); case sc => exact sideB))
      exact noM_end (hno (fun k => k.2.2.1 (by omega)) 0 (by rw [rdE, if_neg h0, if_neg (not_not_intro ht), if_pos (by omega)]))
    have h5 : ¬ (b.length : Int) < 5 := of_decide_eq_false hc
    have h5' : ¬ b.length < 5 := by omega
    repeat ((conv => whnf); first | with_reducible refine O_step ?_ | with_reducible refine S_step ?_ | with_reducible refine D_step ?_ | with_reducible refine RO.exit ?_ | with_reducible refine RO.ret ?_ | ((with_reducible refine And.intro ?sc ?_); case sc => exact side) | ((with_reducible refine br_f ?sc ?_); case sc => exact sideB) | ((with_reducible refine br_t ?sc ?_); case sc => exact sideB))
    have ho : offS c (Int.toNat 1) 0 1 = 1 := by rw [offS_1 (by show c ≠ 1; omega)]; rfl
    have hl4 : ((b.drop 1).take 4).length = 4 := by rw [List.length_take, List.length_drop]; omega
    refine penR_at (j := 4) (X := b) (l := (b.drop 1).take 4) rfl (by rw [hl4]; rfl) ⟨hb, lb, by rw [hl4, ho]; omega, by rw [hl4]; omega, by rw [hl4, ho]⟩ (by omega) (fun c0p offp np cp kp => ?_)
    have ht4 : ((b.drop 1).take 4).take 4 = (b.drop 1).take 4 := by rw [List.take_take]; rfl
    rw [ht4]
    have hvb := valB_bound ((b.drop 1).take 4) 0 1 (fun x hx => hb x (List.mem_of_mem_drop (List.mem_of_mem_take hx))) (by decide) (by decide)
    rw [hl4] at hvb
    have hlf : valB ((b.drop 1).take 4) 0 = lenF b := rfl
    rw [hlf] at hvb ⊢
    obtain ⟨n, hn⟩ := Int.eq_ofNat_of_zero_le hvb.1
    have hn0 : lenF b = (n : Int) := hn
    rw [hn0] at hvb ⊢
    repeat ((conv => whnf); first | with_reducible refine O_step ?_ | with_reducible refine S_step ?_ | with_reducible refine D_step ?_ | with_reducible refine RO.exit ?_ | with_reducible refine RO.ret ?_ | ((with_reducible refine And.intro ?sc ?_); case sc => exact side) | ((with_reducible refine br_f ?sc ?_); case sc => exact sideB) | ((with_reducible refine br_t ?sc ?_); case sc => exact sideB))
    refine And.intro (fun hc => ?_) (fun hc => ?_)
    · have h6 : (524297 : Int) < n := of_decide_eq_true hc
      repeat ((conv => whnf); first | with_reducible refine O_step ?_ | with_reducible refine S_step ?_ | with_reducible refine D_step ?_ | with_reducible refine RO.exit ?_ | with_reducible refine RO.ret ?_ | ((with_reducible refine And.intro ?sc ?_); case sc => exact side) | ((with_reducible refine br_f ?sc ?_); case sc => exact sideB) | ((with_reducible refine br_t ?sc ?_); case sc => exact sideB))
      exact noM_end (hno (fun k => k.2.2.2.1 (by rw [hn0]; exact h6)) 2 (by rw [rdE, if_neg h0, if_neg (not_not_intro ht), if_neg h5', if_pos (by rw [hn0]; exact h6)]))
    have h6 : ¬ (524297 : Int) < n := of_decide_eq_false hc
    repeat ((conv => whnf); first | with_reducible refine O_step ?_ | with_reducible refine S_step ?_ | with_reducible refine D_step ?_ | with_reducible refine RO.exit ?_ | with_reducible refine RO.ret ?_ | ((with_reducible refine And.intro ?sc ?_); case sc => exact side) | ((with_reducible refine br_f ?sc ?_); case sc => exact sideB) | ((with_reducible refine br_t ?sc ?_); case sc => exact sideB))
    refine And.intro (fun hc => ?_) (fun hc => ?_)
    · have h7 : (b.length : Int) - 5 < n := of_decide_eq_true hc
      repeat ((conv => whnf); first | with_reducible refine O_step ?_ | with_reducible refine S_step ?_ | with_reducible refine D_step ?_ | with_reducible refine RO.exit ?_ | with_reducible refine RO.ret ?_ | ((with_reducible refine And.intro ?sc ?_); case sc => exact side) | ((with_reducible refine br_f ?sc ?_); case sc => exact sideB) | ((with_reducible refine br_t ?sc ?_); case sc => exact sideB))
      exact noM_end (hno (fun k => k.2.2.2.2.1 (by rw [hn0]; exact h7)) 0 (by rw [rdE, if_neg h0, if_neg (not_not_intro ht), if_neg h5', if_neg (by rw [hn0]; exact h6), if_pos (by rw [hn0]; exact h7)]))
    have h7 : ¬ (b.length : Int) - 5 < n := of_decide_eq_false hc
    repeat ((conv => whnf); first | with_reducible refine O_step ?_ | with_reducible refine S_step ?_ | with_reducible refine D_step ?_ | with_reducible refine RO.exit ?_ | with_reducible refine RO.ret ?_ | ((with_reducible refine And.intro ?sc ?_); case sc => exact side) | ((with_reducible refine br_f ?sc ?_); case sc => exact sideB) | ((with_reducible refine br_t ?sc ?_); case sc => exact sideB))
    have hln : ((b.drop 5).take n).length = n := by rw [List.length_take, List.length_drop]; omega
    have hS0 : readF ⟨false, (b.drop 5).take n, zeroM (b.getD 0 0)⟩ = rdS b := by rw [rdS, hn0, Int.toNat_natCast]
    have ho5 : offS c 5 0 1 + n ≤ b.length ∧ (b.drop (offS c 5 0 1)).take n = (b.drop 5).take n := by
      by_cases h8 : c = 5
      · obtain rfl : n = 0 := by omega
        refine ⟨?_, by simp⟩
        unfold offS; rw [if_pos h8]; omega
      · rw [offS_1 h8]; exact ⟨by omega, rfl⟩
    refine overRc_at (s := ⟨false, (b.drop 5).take n, zeroM (b.getD 0 0)⟩) (j := 2) (X := b) (cX := c) (off := offS c 5 0 1) (c := c - 5) rfl ?_ ⟨hb, lb, by show offS c 5 0 1 + ((b.drop 5).take n).length ≤ _; rw [hln]; exact ho5.1, by show ((b.drop 5).take n).length ≤ _; rw [hln]; omega, by show (b.drop (offS c 5 0 1)).take ((b.drop 5).take n).length = _; rw [hln]; exact ho5.2⟩ kb ht rfl rfl (fun jb gb ob cb gS cS gD cD l1 l2 => ?_)
    · show some (AO.one true 0 (.cells (pgL .ff .ff (.sl 0 0 (offS c 5 0 1) ((5 + (n : Int)).toNat - 5) (c - 5)) .ff .ff .ns .ns (zeroM (b.getD 0 0))))) = some (AO.one true 0 (.cells (pgL .ff .ff (.sl 0 0 (offS c 5 0 1) ((b.drop 5).take n).length (c - 5)) .ff .ff .ns .ns (zeroM (b.getD 0 0)))))
      rw [hln, show (5 + (n : Int)).toNat - 5 = n by omega]
    · rw [hS0] at l1 l2 ⊢
      have hhead : ¬ b.length = 0 ∧ (1 ≤ b.getD 0 0 ∧ b.getD 0 0 ≤ 6) ∧ ¬ b.length < 5 ∧ ¬ 524297 < lenF b ∧ ¬ (b.length : Int) - 5 < lenF b := ⟨h0, ht, h5', by rw [hn0]; exact h6, by rw [hn0]; exact h7⟩
      have hbadE : (rdS b).bad = true ∨ (rdS b).l ≠ [] → rdE b = 231 := fun k => by rw [rdE, if_neg h0, if_neg (not_not_intro ht), if_neg h5', if_neg hhead.2.2.2.1, if_neg hhead.2.2.2.2, if_pos k]
      cases hqb : (rdS b).bad
      · repeat ((conv => whnf); first | with_reducible refine O_step ?_ | with_reducible refine S_step ?_ | with_reducible refine D_step ?_ | with_reducible refine RO.exit ?_ | with_reducible refine RO.ret ?_ | ((with_reducible refine And.intro ?sc ?_); case sc => exact side) | ((with_reducible refine br_f ?sc ?_); case sc => exact sideB) | ((with_reducible refine br_t ?sc ?_); case sc => exact sideB))
        refine step25 (fun _ => []) [] rfl ?_
        repeat ((conv => whnf); first | with_reducible refine O_step ?_ | with_reducible refine S_step ?_ | with_reducible refine D_step ?_ | with_reducible refine RO.exit ?_ | with_reducible refine RO.ret ?_ | ((with_reducible refine And.intro ?sc ?_); case sc => exact side) | ((with_reducible refine br_f ?sc ?_); case sc => exact sideB) | ((with_reducible refine br_t ?sc ?_); case sc => exact sideB))
        refine And.intro (fun hc => ?_) (fun hc => ?_)
        · have hl1 : (rdS b).l ≠ [] := by intro hx; rw [hx] at hc; simp at hc
          repeat ((conv => whnf); first | with_reducible refine O_step ?_ | with_reducible refine S_step ?_ | with_reducible refine D_step ?_ | with_reducible refine RO.exit ?_ | with_reducible refine RO.ret ?_ | ((with_reducible refine And.intro ?sc ?_); case sc => exact side) | ((with_reducible refine br_f ?sc ?_); case sc => exact sideB) | ((with_reducible refine br_t ?sc ?_); case sc => exact sideB))
          exact noM_end (hno (fun k => hl1 k.2.2.2.2.2.2) 231 (hbadE (.inr hl1)))
        · have hl0 : (rdS b).l = [] := by
            have : ((rdS b).l.length : Int) = 0 := by simpa using hc
            exact List.length_eq_zero_iff.1 (by omega)
          repeat ((conv => whnf); first | with_reducible refine O_step ?_ | with_reducible refine S_step ?_ | with_reducible refine D_step ?_ | with_reducible refine RO.exit ?_ | with_reducible refine RO.ret ?_ | ((with_reducible refine And.intro ?sc ?_); case sc => exact side) | ((with_reducible refine br_f ?sc ?_); case sc => exact sideB) | ((with_reducible refine br_t ?sc ?_); case sc => exact sideB))
          repeat ((conv => whnf); first | with_reducible refine O_step ?_ | with_reducible refine S_step ?_ | with_reducible refine D_step ?_ | with_reducible refine RO.exit ?_ | with_reducible refine RO.ret ?_ | ((with_reducible refine And.intro ?sc ?_); case sc => exact side) | ((with_reducible refine br_f ?sc ?_); case sc => exact sideB) | ((with_reducible refine br_t ?sc ?_); case sc => exact sideB))
          have hfin := hyes ⟨hhead.1, hhead.2.1, hhead.2.2.1, hhead.2.2.2.1, hhead.2.2.2.2, hqb, hl0⟩ gS cS gD cD l1 l2
          rw [hn0] at hfin
          exact ⟨_, _, Vw.refl _ _, okM_end hfin⟩
      · repeat ((conv => whnf); first | with_reducible refine O_step ?_ | with_reducible refine S_step ?_ | with_reducible refine D_step ?_ | with_reducible refine RO.exit ?_ | with_reducible refine RO.ret ?_ | ((with_reducible refine And.intro ?sc ?_); case sc => exact side) | ((with_reducible refine br_f ?sc ?_); case sc => exact sideB) | ((with_reducible refine br_t ?sc ?_); case sc => exact sideB))
        refine step25 (fun _ => []) [] rfl ?_
        repeat ((conv => whnf); first | with_reducible refine O_step ?_ | with_reducible refine S_step ?_ | with_reducible refine D_step ?_ | with_reducible refine RO.exit ?_ | with_reducible refine RO.ret ?_ | ((with_reducible refine And.intro ?sc ?_); case sc => exact side) | ((with_reducible refine br_f ?sc ?_); case sc => exact sideB) | ((with_reducible refine br_t ?sc ?_); case sc => exact sideB))
        exact noM_end (hno (fun k => by have := k.2.2.2.2.2.1; rw [hqb] at this; cases this) 231 (hbadE (.inl hqb)))
  · refine CallA.post_pick ?_
    refine CallA.post_view ?_
    refine step15 (fun _ => [0, 1, 2, 4]) [] rfl ?_
    repeat ((conv => whnf); first | with_reducible refine O_step ?_ | with_reducible refine S_step ?_ | with_reducible refine D_step ?_ | with_reducible refine RO.exit ?_ | with_reducible refine RO.ret ?_ | ((with_reducible refine And.intro ?sc ?_); case sc => exact side) | ((with_reducible refine br_f ?sc ?_); case sc => exact sideB) | ((with_reducible refine br_t ?sc ?_); case sc => exact sideB))
    refine And.intro (fun hc => ?_) (fun hc => ?_)
    · exact absurd (by simpa using hc) h0
    repeat ((conv => whnf); first | with_reducible refine O_step ?_ | with_reducible refine S_step ?_ | with_reducible refine D_step ?_ | with_reducible refine RO.exit ?_ | with_reducible refine RO.ret ?_ | ((with_reducible refine And.intro ?sc ?_); case sc => exact side) | ((with_reducible refine br_f ?sc ?_); case sc => exact sideB) | ((with_reducible refine br_t ?sc ?_); case sc => exact sideB))
    refine (show CallA Try.prog 19 [.ptr 2 0 0] (rdH _ (zeroM (b.getD 0 0)) b c []) _ _ from ?_)
    refine fieldsR_at0 hx0 ht ?_
    repeat ((conv => whnf); first | with_reducible refine O_step ?_ | with_reducible refine S_step ?_ | with_reducible refine D_step ?_ | with_reducible refine RO.exit ?_ | with_reducible refine RO.ret ?_ | ((with_reducible refine And.intro ?sc ?_); case sc => exact side) | ((with_reducible refine br_f ?sc ?_); case sc => exact sideB) | ((with_reducible refine br_t ?sc ?_); case sc => exact sideB))
    exact noM_end (hno (fun k => ht k.2.1) 230 (by rw [rdE, if_neg h0, if_pos ht]))
end

end Go.Proofs.Ytedlpkibdjccdaa
