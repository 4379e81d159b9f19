/- vignetteref23.Write. -/
import Derived.Test.YtedlpkibdjccdaaN3

import Derived.Test.YtedlpkibdjccdaaM20

set_option linter.unusedVariables false

set_option linter.unusedSimpArgs false

open Go.RowKit

namespace Go.Proofs.Ytedlpkibdjccdaa

set_option maxRecDepth 10000

section

variable {K Kp : AV → AH → Prop} {m : Msg} {cS cB : Nat}

theorem wrR_call (o : okM m) (ls : m.sums.length ≤ 1000000) (lb : m.body.length ≤ 1000000)
    (h : ∀ g c, (wrB m).length ≤ c → K (.tup [.sl 2 g 0 (wrB m).length c, .int .i64 (wrE m)]) [.one false 0 (.ints .u32 m.sums cS), .one false 0 (.ints .u8 m.body cB), .one true g (.ints .u8 (wrB m) c)]) :
    CallA Try.prog 12 [mV m 0 0 cS 1 0 cB] [.one false 0 (.ints .u32 m.sums cS), .one false 0 (.ints .u8 m.body cB)] K Kp := by
  have hty := o.ty
  have hno : ¬ wrOk m → ∀ e, wrE m = e → K (.tup [.sl 2 0 0 0 0, .int .i64 e]) [.one false 0 (.ints .u32 m.sums cS), .one false 0 (.ints .u8 m.body cB), .one true 0 (.ints .u8 [] 0)] := by
    intro hn e he
    have := h 0 0 (by rw [wr_no hn]; exact Nat.le_refl _)
    rw [wr_no hn, he] at this
    exact this
  have hyes : wrOk m → ∀ g c, (wireF m).length ≤ c → K (.tup [.sl 2 g 0 (wireF m).length c, .int .i64 0]) [.one false 0 (.ints .u32 m.sums cS), .one false 0 (.ints .u8 m.body cB), .one true g (.ints .u8 (wireF m) c)] := by
    intro hy g c hc
    obtain ⟨e1, e2⟩ := wr_ok hy
    have := h g c (by rw [e1]; exact hc)
    rw [e1, e2] at this
    exact this
  clear h
  by_cases ht : 1 ≤ m.ty ∧ m.ty ≤ 6
  · refine CallA.post_pick ?_
    refine CallA.post_view ?_
    refine step12 (fun _ => [2]) [] rfl ?_
    repeat ((conv => whnf); first | with_reducible refine O_step ?_ | with_reducible refine S_step ?_ | with_reducible refine D_step ?_ | with_reducible refine RO.exit ?_ | with_reducible refine RO.ret ?_ | ((with_reducible refine And.intro ?sc ?_); case sc => exact side) | ((with_reducible refine br_f ?sc ?_); case sc => exact sideB) | ((with_reducible refine br_t ?sc ?_); case sc => exact sideB))
    refine And.intro (fun hc => absurd (of_decide_eq_true hc) (by omega)) (fun hc => ?_)
    repeat ((conv => whnf); first | with_reducible refine O_step ?_ | with_reducible refine S_step ?_ | with_reducible refine D_step ?_ | with_reducible refine RO.exit ?_ | with_reducible refine RO.ret ?_ | ((with_reducible refine And.intro ?sc ?_); case sc => exact side) | ((with_reducible refine br_f ?sc ?_); case sc => exact sideB) | ((with_reducible refine br_t ?sc ?_); case sc => exact sideB))
    refine And.intro (fun hc => absurd (of_decide_eq_true hc) (by omega)) (fun hc => ?_)
    repeat ((conv => whnf); first | with_reducible refine O_step ?_ | with_reducible refine S_step ?_ | with_reducible refine D_step ?_ | with_reducible refine RO.exit ?_ | with_reducible refine RO.ret ?_ | ((with_reducible refine And.intro ?sc ?_); case sc => exact side) | ((with_reducible refine br_f ?sc ?_); case sc => exact sideB) | ((with_reducible refine br_t ?sc ?_); case sc => exact sideB))
    refine And.intro (fun hc => ?_) (fun hc => ?_)
    · have hl : m.body.length > 524288 := by have := of_decide_eq_true hc; omega
      repeat ((conv => whnf); first | with_reducible refine O_step ?_ | with_reducible refine S_step ?_ | with_reducible refine D_step ?_ | with_reducible refine RO.exit ?_ | with_reducible refine RO.ret ?_ | ((with_reducible refine And.intro ?sc ?_); case sc => exact side) | ((with_reducible refine br_f ?sc ?_); case sc => exact sideB) | ((with_reducible refine br_t ?sc ?_); case sc => exact sideB))
      exact wr_end (hno (fun k => k.2.1 (.inl hl)) 2 (by rw [wrE, if_neg (not_not_intro ht), if_pos (.inl hl)]))
    have hl1 : ¬ m.body.length > 524288 := by have := of_decide_eq_false hc; omega
    repeat ((conv => whnf); first | with_reducible refine O_step ?_ | with_reducible refine S_step ?_ | with_reducible refine D_step ?_ | with_reducible refine RO.exit ?_ | with_reducible refine RO.ret ?_ | ((with_reducible refine And.intro ?sc ?_); case sc => exact side) | ((with_reducible refine br_f ?sc ?_); case sc => exact sideB) | ((with_reducible refine br_t ?sc ?_); case sc => exact sideB))
    refine And.intro (fun hc => ?_) (fun hc => ?_)
    · have hl : m.sums.length > 256 := by have := of_decide_eq_true hc; omega
      repeat ((conv => whnf); first | with_reducible refine O_step ?_ | with_reducible refine S_step ?_ | with_reducible refine D_step ?_ | with_reducible refine RO.exit ?_ | with_reducible refine RO.ret ?_ | ((with_reducible refine And.intro ?sc ?_); case sc => exact side) | ((with_reducible refine br_f ?sc ?_); case sc => exact sideB) | ((with_reducible refine br_t ?sc ?_); case sc => exact sideB))
      exact wr_end (hno (fun k => k.2.1 (.inr hl)) 2 (by rw [wrE, if_neg (not_not_intro ht), if_pos (.inr hl)]))
    have hl2 : ¬ m.sums.length > 256 := by have := of_decide_eq_false hc; omega
    have hl : ¬ (m.body.length > 524288 ∨ m.sums.length > 256) := by omega
    repeat ((conv => whnf); first | with_reducible refine O_step ?_ | with_reducible refine S_step ?_ | with_reducible refine D_step ?_ | with_reducible refine RO.exit ?_ | with_reducible refine RO.ret ?_ | ((with_reducible refine And.intro ?sc ?_); case sc => exact side) | ((with_reducible refine br_f ?sc ?_); case sc => exact sideB) | ((with_reducible refine br_t ?sc ?_); case sc => exact sideB))
    refine ofR_at (i := 0) (j := 1) (gi := 0) (gj := 0) rfl rfl o (fun sv dv kv => ?_)
    repeat ((conv => whnf); first | with_reducible refine O_step ?_ | with_reducible refine S_step ?_ | with_reducible refine D_step ?_ | with_reducible refine RO.exit ?_ | with_reducible refine RO.ret ?_ | ((with_reducible refine And.intro ?sc ?_); case sc => exact side) | ((with_reducible refine br_f ?sc ?_); case sc => exact sideB) | ((with_reducible refine br_t ?sc ?_); case sc => exact sideB))
    refine sameOf_at (i := 0) (j := 1) (gi := 0) (gj := 0) rfl rfl o (by omega) (by omega) kv ?_
    by_cases hof : m = ofM m
    · rw [decide_eq_true hof]
      have hbl : (bodyF m).length ≤ 524297 := bodyF_le (by omega) (by omega)
      repeat ((conv => whnf); first | with_reducible refine O_step ?_ | with_reducible refine S_step ?_ | with_reducible refine D_step ?_ | with_reducible refine RO.exit ?_ | with_reducible refine RO.ret ?_ | ((with_reducible refine And.intro ?sc ?_); case sc => exact side) | ((with_reducible refine br_f ?sc ?_); case sc => exact sideB) | ((with_reducible refine br_t ?sc ?_); case sc => exact sideB))
      refine bodyR_at (i := 0) (j := 1) (gi := 0) (gj := 0) rfl rfl o ls lb ht (fun g1 c1 k1 => ?_)
      repeat ((conv => whnf); first | with_reducible refine O_step ?_ | with_reducible refine S_step ?_ | with_reducible refine D_step ?_ | with_reducible refine RO.exit ?_ | with_reducible refine RO.ret ?_ | ((with_reducible refine And.intro ?sc ?_); case sc => exact side) | ((with_reducible refine br_f ?sc ?_); case sc => exact sideB) | ((with_reducible refine br_t ?sc ?_); case sc => exact sideB))
      rw [show ((bodyF m).length : Int) % 18446744073709551616 = (bodyF m).length by omega]
      refine numberR_at (n := 4) (by omega) (by decide) ?_
      repeat ((conv => whnf); first | with_reducible refine O_step ?_ | with_reducible refine S_step ?_ | with_reducible refine D_step ?_ | with_reducible refine RO.exit ?_ | with_reducible refine RO.ret ?_ | ((with_reducible refine And.intro ?sc ?_); case sc => exact side) | ((with_reducible refine br_f ?sc ?_); case sc => exact sideB) | ((with_reducible refine br_t ?sc ?_); case sc => exact sideB))
      intro zs hzs
      obtain rfl : zs = beW ((bodyF m).length : Int) 4 := by rw [hzs, List.drop_zero]; exact List.take_of_length_le (by rw [beW_length]; exact Nat.le_refl _)
      repeat ((conv => whnf); first | with_reducible refine O_step ?_ | with_reducible refine S_step ?_ | with_reducible refine D_step ?_ | with_reducible refine RO.exit ?_ | with_reducible refine RO.ret ?_ | ((with_reducible refine And.intro ?sc ?_); case sc => exact side) | ((with_reducible refine br_f ?sc ?_); case sc => exact sideB) | ((with_reducible refine br_t ?sc ?_); case sc => exact sideB))
      intro c2 k2
      repeat ((conv => whnf); first | with_reducible refine O_step ?_ | with_reducible refine S_step ?_ | with_reducible refine D_step ?_ | with_reducible refine RO.exit ?_ | with_reducible refine RO.ret ?_ | ((with_reducible refine And.intro ?sc ?_); case sc => exact side) | ((with_reducible refine br_f ?sc ?_); case sc => exact sideB) | ((with_reducible refine br_t ?sc ?_); case sc => exact sideB))
      intro zs hzs
      obtain rfl : zs = bodyF m := by rw [hzs]; exact List.take_length
      repeat ((conv => whnf); first | with_reducible refine O_step ?_ | with_reducible refine S_step ?_ | with_reducible refine D_step ?_ | with_reducible refine RO.exit ?_ | with_reducible refine RO.ret ?_ | ((with_reducible refine And.intro ?sc ?_); case sc => exact side) | ((with_reducible refine br_f ?sc ?_); case sc => exact sideB) | ((with_reducible refine br_t ?sc ?_); case sc => exact sideB))
      intro c3 k3
      repeat ((conv => whnf); first | with_reducible refine O_step ?_ | with_reducible refine S_step ?_ | with_reducible refine D_step ?_ | with_reducible refine RO.exit ?_ | with_reducible refine RO.ret ?_ | ((with_reducible refine And.intro ?sc ?_); case sc => exact side) | ((with_reducible refine br_f ?sc ?_); case sc => exact sideB) | ((with_reducible refine br_t ?sc ?_); case sc => exact sideB))
      have hw : wireF m = m.ty :: (beW ((bodyF m).length : Int) 4 ++ bodyF m) := by
        have := wireF_eq m []
        rw [List.append_nil, List.append_nil, ty_byte o] at this
        exact this
      have hwl : (wireF m).length = 1 + 4 + (bodyF m).length := by rw [wireF_len]
      have := hyes ⟨ht, hl, hof.symm⟩ (0 + 1 + 1) c3 (by rw [hwl]; exact k3)
      rw [hwl, hw] at this
      refine ⟨_, _, Vw.refl _ _, [.sha 0, .sha 1, .own 4], .tup [.sl 2 (0 + 1 + 1) 0 (1 + 4 + (bodyF m).length) c3, .int .i64 0], [.one false 0 (.ints .u32 m.sums cS), .one false 0 (.ints .u8 m.body cB), .one true (0 + 1 + 1) (.ints .u8 (m.ty :: (beW ((bodyF m).length : Int) 4 ++ bodyF m)) c3)], ⟨?_, rfl, ⟨trivial, trivial, trivial, trivial⟩, rfl, fun i hi => ?_⟩, this⟩
      · exact ⟨⟨rfl, .one false 0 (.ints .u32 m.sums cS), rfl, rfl⟩, ⟨rfl, .one false 0 (.ints .u8 m.body cB), rfl, rfl⟩, ⟨rfl, rfl⟩, trivial⟩
      · match i, hi with
        | 0, _ => exact .inr rfl
        | 1, _ => exact .inr rfl
    · rw [decide_eq_false hof]
      repeat ((conv => whnf); first | with_reducible refine O_step ?_ | with_reducible refine S_step ?_ | with_reducible refine D_step ?_ | with_reducible refine RO.exit ?_ | with_reducible refine RO.ret ?_ | ((with_reducible refine And.intro ?sc ?_); case sc => exact side) | ((with_reducible refine br_f ?sc ?_); case sc => exact sideB) | ((with_reducible refine br_t ?sc ?_); case sc => exact sideB))
      exact wr_end (hno (fun k => hof k.2.2.symm) 231 (by rw [wrE, if_neg (not_not_intro ht), if_neg hl, if_pos (fun h => hof h.symm)]))
  · refine CallA.post_pick ?_
    refine CallA.post_view ?_
    refine step12 (fun _ => [2]) [] rfl ?_
    repeat ((conv => whnf); first | with_reducible refine O_step ?_ | with_reducible refine S_step ?_ | with_reducible refine D_step ?_ | with_reducible refine RO.exit ?_ | with_reducible refine RO.ret ?_ | ((with_reducible refine And.intro ?sc ?_); case sc => exact side) | ((with_reducible refine br_f ?sc ?_); case sc => exact sideB) | ((with_reducible refine br_t ?sc ?_); case sc => exact sideB))
    refine And.intro (fun hc => ?_) (fun hc => ?_)
    · skip
      repeat ((conv => whnf); first | with_reducible refine O_step ?_ | with_reducible refine S_step ?_ | with_reducible refine D_step ?_ | with_reducible refine RO.exit ?_ | with_reducible refine RO.ret ?_ | ((with_reducible refine And.intro ?sc ?_); case sc => exact side) | ((with_reducible refine br_f ?sc ?_); case sc => exact sideB) | ((with_reducible refine br_t ?sc ?_); case sc => exact sideB))
      exact wr_end (hno (fun k => ht k.1) 230 (by rw [wrE, if_pos ht]))
    · have h1 : ¬ m.ty < 1 := of_decide_eq_false hc
      repeat ((conv => whnf); first | with_reducible refine O_step ?_ | with_reducible refine S_step ?_ | with_reducible refine D_step ?_ | with_reducible refine RO.exit ?_ | with_reducible refine RO.ret ?_ | ((with_reducible refine And.intro ?sc ?_); case sc => exact side) | ((with_reducible refine br_f ?sc ?_); case sc => exact sideB) | ((with_reducible refine br_t ?sc ?_); case sc => exact sideB))
      refine And.intro (fun hc => ?_) (fun hc => absurd (of_decide_eq_false hc) (by omega))
      repeat ((conv => whnf); first | with_reducible refine O_step ?_ | with_reducible refine S_step ?_ | with_reducible refine D_step ?_ | with_reducible refine RO.exit ?_ | with_reducible refine RO.ret ?_ | ((with_reducible refine And.intro ?sc ?_); case sc => exact side) | ((with_reducible refine br_f ?sc ?_); case sc => exact sideB) | ((with_reducible refine br_t ?sc ?_); case sc => exact sideB))
      exact wr_end (hno (fun k => ht k.1) 230 (by rw [wrE, if_pos ht]))
theorem wrR_at {M : AH} {i gi j gj : Nat} {o1 o2 : Bool} (hi : slot M i gi = some (o1, .ints .u32 m.sums cS)) (hj : slot M j gj = some (o2, .ints .u8 m.body cB)) (o : okM m) (ls : m.sums.length ≤ 1000000) (lb : m.body.length ≤ 1000000)
    (h : ∀ g c, (wrB m).length ≤ c → K (.tup [.sl M.length g 0 (wrB m).length c, .int .i64 (wrE m)]) (M ++ [.one true g (.ints .u8 (wrB m) c)])) :
    CallA Try.prog 12 [mV m i gi cS j gj cB] M K Kp := by
  refine CallA.lift [.win i gi 0, .win j gj 0] (wrR_call (Kp := fun _ _ => False) (K := fun r M' => ∃ g c, (wrB m).length ≤ c ∧ r = .tup [.sl 2 g 0 (wrB m).length c, .int .i64 (wrE m)] ∧ M' = [.one false 0 (.ints .u32 m.sums cS), .one false 0 (.ints .u8 m.body cB), .one true g (.ints .u8 (wrB m) c)]) o ls lb
    (fun g c hc => ⟨g, c, hc, rfl, rfl⟩)) rfl rfl ⟨⟨_, _, _, rfl, hi, winI0⟩, ⟨_, _, _, rfl, hj, winI0⟩, trivial⟩ ⟨trivial, trivial, trivial⟩ ?_ (fun _ _ h => h.elim)
  rintro r M' ⟨g, c, hc, rfl, rfl⟩
  exact ⟨⟨rfl, rfl, rfl⟩, h g c hc⟩
end

end Go.Proofs.Ytedlpkibdjccdaa
