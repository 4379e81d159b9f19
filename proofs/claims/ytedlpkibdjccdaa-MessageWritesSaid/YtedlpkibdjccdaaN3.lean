/- vignetteref23.Body. -/
import Derived.Test.YtedlpkibdjccdaaN0

import Derived.Test.YtedlpkibdjccdaaN2

import Derived.Test.YtedlpkibdjccdaaMq

set_option linter.unusedVariables false

set_option linter.unusedSimpArgs false

open Go.RowKit

namespace Go.Proofs.Ytedlpkibdjccdaa

set_option maxRecDepth 10000

section

variable {K Kp : AV → AH → Prop} {m : Msg} {cS cB : Nat}

theorem body_end {g c n : Nat} {xs : List Int} {o : AO} {E : AH} (hx : bodyF m = xs) (hn : xs.length = n) (hc : n ≤ c) (h : ∀ g c, (bodyF m).length ≤ c → K (.sl 2 g 0 (bodyF m).length c) [.one false 0 (.ints .u32 m.sums cS), .one false 0 (.ints .u8 m.body cB), .one true g (.ints .u8 (bodyF m) c)]) :
    ∃ t r' N, PickA 2 (.sl 3 g 0 n c) (.one false 0 (.ints .u32 m.sums cS) :: .one false 0 (.ints .u8 m.body cB) :: o :: .one true g (.ints .u8 xs c) :: E) t r' N ∧ K r' N := by
  subst hx
  subst hn
  refine ⟨[.sha 0, .sha 1, .own 3], .sl 2 g 0 (bodyF m).length c, [.one false 0 (.ints .u32 m.sums cS), .one false 0 (.ints .u8 m.body cB), .one true g (.ints .u8 (bodyF m) c)], ⟨⟨⟨rfl, .one false 0 (.ints .u32 m.sums cS), rfl, rfl⟩, ⟨rfl, .one false 0 (.ints .u8 m.body cB), rfl, rfl⟩, ⟨rfl, rfl⟩, trivial⟩, rfl, ⟨trivial, trivial, trivial, trivial⟩, rfl, fun i hi => ?_⟩, h g c hc⟩
  match i, hi with
  | 0, _ => exact .inr rfl
  | 1, _ => exact .inr rfl
theorem bodyR2 (o : okM m) (ls : m.sums.length ≤ 1000000) (lb : m.body.length ≤ 1000000) (e : m.ty = 2) (h : ∀ g c, (bodyF m).length ≤ c → K (.sl 2 g 0 (bodyF m).length c) [.one false 0 (.ints .u32 m.sums cS), .one false 0 (.ints .u8 m.body cB), .one true g (.ints .u8 (bodyF m) c)]) :
    CallA Try.prog 23 [mV m 0 0 cS 1 0 cB] [.one false 0 (.ints .u32 m.sums cS), .one false 0 (.ints .u8 m.body cB)] K Kp := by
  have h_life := o.life
  have h_w := o.w
  have h_h := o.h
  have h_seq := o.seq
  refine CallA.post_pick ?_
  refine step23 (fun _ => [0, 1, 2]) [] rfl ?_
  repeat ((conv => whnf); first | with_reducible refine O_step ?_ | with_reducible refine S_step ?_ | with_reducible refine D_step ?_ | with_reducible refine RO.exit ?_ | with_reducible refine RO.ret ?_ | ((with_reducible refine And.intro ?sc ?_); case sc => exact side) | ((with_reducible refine br_f ?sc ?_); case sc => exact sideB) | ((with_reducible refine br_t ?sc ?_); case sc => exact sideB))
  refine And.intro (fun hc => absurd (of_decide_eq_true hc) (by omega)) (fun hc => ?_)
  repeat ((conv => whnf); first | with_reducible refine O_step ?_ | with_reducible refine S_step ?_ | with_reducible refine D_step ?_ | with_reducible refine RO.exit ?_ | with_reducible refine RO.ret ?_ | ((with_reducible refine And.intro ?sc ?_); case sc => exact side) | ((with_reducible refine br_f ?sc ?_); case sc => exact sideB) | ((with_reducible refine br_t ?sc ?_); case sc => exact sideB))
  refine And.intro (fun hc => ?_) (fun hc => absurd (of_decide_eq_false hc) (by simpa using e))
  repeat ((conv => whnf); first | with_reducible refine O_step ?_ | with_reducible refine S_step ?_ | with_reducible refine D_step ?_ | with_reducible refine RO.exit ?_ | with_reducible refine RO.ret ?_ | ((with_reducible refine And.intro ?sc ?_); case sc => exact side) | ((with_reducible refine br_f ?sc ?_); case sc => exact sideB) | ((with_reducible refine br_t ?sc ?_); case sc => exact sideB))
  rw [show m.life % 18446744073709551616 = m.life by omega]
  refine numberR_at (n := 4) (by omega) (by decide) ?_
  repeat ((conv => whnf); first | with_reducible refine O_step ?_ | with_reducible refine S_step ?_ | with_reducible refine D_step ?_ | with_reducible refine RO.exit ?_ | with_reducible refine RO.ret ?_ | ((with_reducible refine And.intro ?sc ?_); case sc => exact side) | ((with_reducible refine br_f ?sc ?_); case sc => exact sideB) | ((with_reducible refine br_t ?sc ?_); case sc => exact sideB))
  rw [show m.w % 18446744073709551616 = m.w by omega]
  refine numberR_at (n := 2) (by omega) (by decide) ?_
  repeat ((conv => whnf); first | with_reducible refine O_step ?_ | with_reducible refine S_step ?_ | with_reducible refine D_step ?_ | with_reducible refine RO.exit ?_ | with_reducible refine RO.ret ?_ | ((with_reducible refine And.intro ?sc ?_); case sc => exact side) | ((with_reducible refine br_f ?sc ?_); case sc => exact sideB) | ((with_reducible refine br_t ?sc ?_); case sc => exact sideB))
  intro zs hzs
  obtain rfl : zs = beW m.w 2 := by rw [hzs, List.drop_zero]; exact List.take_of_length_le (by rw [beW_length]; exact Nat.le_refl _)
  repeat ((conv => whnf); first | with_reducible refine O_step ?_ | with_reducible refine S_step ?_ | with_reducible refine D_step ?_ | with_reducible refine RO.exit ?_ | with_reducible refine RO.ret ?_ | ((with_reducible refine And.intro ?sc ?_); case sc => exact side) | ((with_reducible refine br_f ?sc ?_); case sc => exact sideB) | ((with_reducible refine br_t ?sc ?_); case sc => exact sideB))
  intro c1 hc1
  repeat ((conv => whnf); first | with_reducible refine O_step ?_ | with_reducible refine S_step ?_ | with_reducible refine D_step ?_ | with_reducible refine RO.exit ?_ | with_reducible refine RO.ret ?_ | ((with_reducible refine And.intro ?sc ?_); case sc => exact side) | ((with_reducible refine br_f ?sc ?_); case sc => exact sideB) | ((with_reducible refine br_t ?sc ?_); case sc => exact sideB))
  rw [show m.h % 18446744073709551616 = m.h by omega]
  refine numberR_at (n := 2) (by omega) (by decide) ?_
  repeat ((conv => whnf); first | with_reducible refine O_step ?_ | with_reducible refine S_step ?_ | with_reducible refine D_step ?_ | with_reducible refine RO.exit ?_ | with_reducible refine RO.ret ?_ | ((with_reducible refine And.intro ?sc ?_); case sc => exact side) | ((with_reducible refine br_f ?sc ?_); case sc => exact sideB) | ((with_reducible refine br_t ?sc ?_); case sc => exact sideB))
  intro zs hzs
  obtain rfl : zs = beW m.h 2 := by rw [hzs, List.drop_zero]; exact List.take_of_length_le (by rw [beW_length]; exact Nat.le_refl _)
  repeat ((conv => whnf); first | with_reducible refine O_step ?_ | with_reducible refine S_step ?_ | with_reducible refine D_step ?_ | with_reducible refine RO.exit ?_ | with_reducible refine RO.ret ?_ | ((with_reducible refine And.intro ?sc ?_); case sc => exact side) | ((with_reducible refine br_f ?sc ?_); case sc => exact sideB) | ((with_reducible refine br_t ?sc ?_); case sc => exact sideB))
  intro c2 hc2
  repeat ((conv => whnf); first | with_reducible refine O_step ?_ | with_reducible refine S_step ?_ | with_reducible refine D_step ?_ | with_reducible refine RO.exit ?_ | with_reducible refine RO.ret ?_ | ((with_reducible refine And.intro ?sc ?_); case sc => exact side) | ((with_reducible refine br_f ?sc ?_); case sc => exact sideB) | ((with_reducible refine br_t ?sc ?_); case sc => exact sideB))
  rw [show m.seq % 18446744073709551616 = m.seq by omega]
  refine numberR_at (n := 4) (by omega) (by decide) ?_
  repeat ((conv => whnf); first | with_reducible refine O_step ?_ | with_reducible refine S_step ?_ | with_reducible refine D_step ?_ | with_reducible refine RO.exit ?_ | with_reducible refine RO.ret ?_ | ((with_reducible refine And.intro ?sc ?_); case sc => exact side) | ((with_reducible refine br_f ?sc ?_); case sc => exact sideB) | ((with_reducible refine br_t ?sc ?_); case sc => exact sideB))
  intro zs hzs
  obtain rfl : zs = beW m.seq 4 := by rw [hzs, List.drop_zero]; exact List.take_of_length_le (by rw [beW_length]; exact Nat.le_refl _)
  repeat ((conv => whnf); first | with_reducible refine O_step ?_ | with_reducible refine S_step ?_ | with_reducible refine D_step ?_ | with_reducible refine RO.exit ?_ | with_reducible refine RO.ret ?_ | ((with_reducible refine And.intro ?sc ?_); case sc => exact side) | ((with_reducible refine br_f ?sc ?_); case sc => exact sideB) | ((with_reducible refine br_t ?sc ?_); case sc => exact sideB))
  intro c3 hc3
  repeat ((conv => whnf); first | with_reducible refine O_step ?_ | with_reducible refine S_step ?_ | with_reducible refine D_step ?_ | with_reducible refine RO.exit ?_ | with_reducible refine RO.ret ?_ | ((with_reducible refine And.intro ?sc ?_); case sc => exact side) | ((with_reducible refine br_f ?sc ?_); case sc => exact sideB) | ((with_reducible refine br_t ?sc ?_); case sc => exact sideB))
  refine body_end (xs := beW m.life 4 ++ beW m.w 2 ++ beW m.h 2 ++ beW m.seq 4) (by simp [bodyF, e]) (by simp [beW_length]) hc3 h
theorem bodyR4 (o : okM m) (ls : m.sums.length ≤ 1000000) (lb : m.body.length ≤ 1000000) (e : m.ty = 4) (h : ∀ g c, (bodyF m).length ≤ c → K (.sl 2 g 0 (bodyF m).length c) [.one false 0 (.ints .u32 m.sums cS), .one false 0 (.ints .u8 m.body cB), .one true g (.ints .u8 (bodyF m) c)]) :
    CallA Try.prog 23 [mV m 0 0 cS 1 0 cB] [.one false 0 (.ints .u32 m.sums cS), .one false 0 (.ints .u8 m.body cB)] K Kp := by
  have h_base := o.base
  have h_frame := o.frame
  refine CallA.post_pick ?_
  refine step23 (fun _ => [0, 1, 2]) [] rfl ?_
  repeat ((conv => whnf); first | with_reducible refine O_step ?_ | with_reducible refine S_step ?_ | with_reducible refine D_step ?_ | with_reducible refine RO.exit ?_ | with_reducible refine RO.ret ?_ | ((with_reducible refine And.intro ?sc ?_); case sc => exact side) | ((with_reducible refine br_f ?sc ?_); case sc => exact sideB) | ((with_reducible refine br_t ?sc ?_); case sc => exact sideB))
  refine And.intro (fun hc => absurd (of_decide_eq_true hc) (by omega)) (fun hc => ?_)
  repeat ((conv => whnf); first | with_reducible refine O_step ?_ | with_reducible refine S_step ?_ | with_reducible refine D_step ?_ | with_reducible refine RO.exit ?_ | with_reducible refine RO.ret ?_ | ((with_reducible refine And.intro ?sc ?_); case sc => exact side) | ((with_reducible refine br_f ?sc ?_); case sc => exact sideB) | ((with_reducible refine br_t ?sc ?_); case sc => exact sideB))
  refine And.intro (fun hc => absurd (of_decide_eq_true hc) (by omega)) (fun hc => ?_)
  repeat ((conv => whnf); first | with_reducible refine O_step ?_ | with_reducible refine S_step ?_ | with_reducible refine D_step ?_ | with_reducible refine RO.exit ?_ | with_reducible refine RO.ret ?_ | ((with_reducible refine And.intro ?sc ?_); case sc => exact side) | ((with_reducible refine br_f ?sc ?_); case sc => exact sideB) | ((with_reducible refine br_t ?sc ?_); case sc => exact sideB))
  refine And.intro (fun hc => ?_) (fun hc => absurd (of_decide_eq_false hc) (by simpa using e))
  repeat ((conv => whnf); first | with_reducible refine O_step ?_ | with_reducible refine S_step ?_ | with_reducible refine D_step ?_ | with_reducible refine RO.exit ?_ | with_reducible refine RO.ret ?_ | ((with_reducible refine And.intro ?sc ?_); case sc => exact side) | ((with_reducible refine br_f ?sc ?_); case sc => exact sideB) | ((with_reducible refine br_t ?sc ?_); case sc => exact sideB))
  rw [show m.base % 18446744073709551616 = m.base by omega]
  refine numberR_at (n := 4) (by omega) (by decide) ?_
  repeat ((conv => whnf); first | with_reducible refine O_step ?_ | with_reducible refine S_step ?_ | with_reducible refine D_step ?_ | with_reducible refine RO.exit ?_ | with_reducible refine RO.ret ?_ | ((with_reducible refine And.intro ?sc ?_); case sc => exact side) | ((with_reducible refine br_f ?sc ?_); case sc => exact sideB) | ((with_reducible refine br_t ?sc ?_); case sc => exact sideB))
  rw [show m.frame % 18446744073709551616 = m.frame by omega]
  refine numberR_at (n := 4) (by omega) (by decide) ?_
  repeat ((conv => whnf); first | with_reducible refine O_step ?_ | with_reducible refine S_step ?_ | with_reducible refine D_step ?_ | with_reducible refine RO.exit ?_ | with_reducible refine RO.ret ?_ | ((with_reducible refine And.intro ?sc ?_); case sc => exact side) | ((with_reducible refine br_f ?sc ?_); case sc => exact sideB) | ((with_reducible refine br_t ?sc ?_); case sc => exact sideB))
  intro zs hzs
  obtain rfl : zs = beW m.frame 4 := by rw [hzs, List.drop_zero]; exact List.take_of_length_le (by rw [beW_length]; exact Nat.le_refl _)
  repeat ((conv => whnf); first | with_reducible refine O_step ?_ | with_reducible refine S_step ?_ | with_reducible refine D_step ?_ | with_reducible refine RO.exit ?_ | with_reducible refine RO.ret ?_ | ((with_reducible refine And.intro ?sc ?_); case sc => exact side) | ((with_reducible refine br_f ?sc ?_); case sc => exact sideB) | ((with_reducible refine br_t ?sc ?_); case sc => exact sideB))
  intro c1 hc1
  repeat ((conv => whnf); first | with_reducible refine O_step ?_ | with_reducible refine S_step ?_ | with_reducible refine D_step ?_ | with_reducible refine RO.exit ?_ | with_reducible refine RO.ret ?_ | ((with_reducible refine And.intro ?sc ?_); case sc => exact side) | ((with_reducible refine br_f ?sc ?_); case sc => exact sideB) | ((with_reducible refine br_t ?sc ?_); case sc => exact sideB))
  refine truthR_at ?_
  repeat ((conv => whnf); first | with_reducible refine O_step ?_ | with_reducible refine S_step ?_ | with_reducible refine D_step ?_ | with_reducible refine RO.exit ?_ | with_reducible refine RO.ret ?_ | ((with_reducible refine And.intro ?sc ?_); case sc => exact side) | ((with_reducible refine br_f ?sc ?_); case sc => exact sideB) | ((with_reducible refine br_t ?sc ?_); case sc => exact sideB))
  intro zs hzs
  obtain rfl : zs = [if m.full = true then 1 else 0] := hzs
  repeat ((conv => whnf); first | with_reducible refine O_step ?_ | with_reducible refine S_step ?_ | with_reducible refine D_step ?_ | with_reducible refine RO.exit ?_ | with_reducible refine RO.ret ?_ | ((with_reducible refine And.intro ?sc ?_); case sc => exact side) | ((with_reducible refine br_f ?sc ?_); case sc => exact sideB) | ((with_reducible refine br_t ?sc ?_); case sc => exact sideB))
  intro c2 hc2
  repeat ((conv => whnf); first | with_reducible refine O_step ?_ | with_reducible refine S_step ?_ | with_reducible refine D_step ?_ | with_reducible refine RO.exit ?_ | with_reducible refine RO.ret ?_ | ((with_reducible refine And.intro ?sc ?_); case sc => exact side) | ((with_reducible refine br_f ?sc ?_); case sc => exact sideB) | ((with_reducible refine br_t ?sc ?_); case sc => exact sideB))
  intro zs hzs
  obtain rfl : zs = m.body := by rw [hzs]; exact List.take_length
  repeat ((conv => whnf); first | with_reducible refine O_step ?_ | with_reducible refine S_step ?_ | with_reducible refine D_step ?_ | with_reducible refine RO.exit ?_ | with_reducible refine RO.ret ?_ | ((with_reducible refine And.intro ?sc ?_); case sc => exact side) | ((with_reducible refine br_f ?sc ?_); case sc => exact sideB) | ((with_reducible refine br_t ?sc ?_); case sc => exact sideB))
  intro c3 hc3
  repeat ((conv => whnf); first | with_reducible refine O_step ?_ | with_reducible refine S_step ?_ | with_reducible refine D_step ?_ | with_reducible refine RO.exit ?_ | with_reducible refine RO.ret ?_ | ((with_reducible refine And.intro ?sc ?_); case sc => exact side) | ((with_reducible refine br_f ?sc ?_); case sc => exact sideB) | ((with_reducible refine br_t ?sc ?_); case sc => exact sideB))
  refine body_end (xs := beW m.base 4 ++ beW m.frame 4 ++ [if m.full = true then 1 else 0] ++ m.body) (by rw [bodyF_4 e]; cases m.full <;> rfl) (by simp [beW_length]; omega) hc3 h
theorem bodyR5 (o : okM m) (ls : m.sums.length ≤ 1000000) (lb : m.body.length ≤ 1000000) (e : m.ty = 5) (h : ∀ g c, (bodyF m).length ≤ c → K (.sl 2 g 0 (bodyF m).length c) [.one false 0 (.ints .u32 m.sums cS), .one false 0 (.ints .u8 m.body cB), .one true g (.ints .u8 (bodyF m) c)]) :
    CallA Try.prog 23 [mV m 0 0 cS 1 0 cB] [.one false 0 (.ints .u32 m.sums cS), .one false 0 (.ints .u8 m.body cB)] K Kp := by
  have h_seq := o.seq
  have h_kind := o.kind
  have h_ex := o.ex
  have h_ey := o.ey
  have h_code := o.code
  refine CallA.post_pick ?_
  refine step23 (fun _ => [0, 1, 2]) [] rfl ?_
  repeat ((conv => whnf); first | with_reducible refine O_step ?_ | with_reducible refine S_step ?_ | with_reducible refine D_step ?_ | with_reducible refine RO.exit ?_ | with_reducible refine RO.ret ?_ | ((with_reducible refine And.intro ?sc ?_); case sc => exact side) | ((with_reducible refine br_f ?sc ?_); case sc => exact sideB) | ((with_reducible refine br_t ?sc ?_); case sc => exact sideB))
  refine And.intro (fun hc => absurd (of_decide_eq_true hc) (by omega)) (fun hc => ?_)
  repeat ((conv => whnf); first | with_reducible refine O_step ?_ | with_reducible refine S_step ?_ | with_reducible refine D_step ?_ | with_reducible refine RO.exit ?_ | with_reducible refine RO.ret ?_ | ((with_reducible refine And.intro ?sc ?_); case sc => exact side) | ((with_reducible refine br_f ?sc ?_); case sc => exact sideB) | ((with_reducible refine br_t ?sc ?_); case sc => exact sideB))
  refine And.intro (fun hc => absurd (of_decide_eq_true hc) (by omega)) (fun hc => ?_)
  repeat ((conv => whnf); first | with_reducible refine O_step ?_ | with_reducible refine S_step ?_ | with_reducible refine D_step ?_ | with_reducible refine RO.exit ?_ | with_reducible refine RO.ret ?_ | ((with_reducible refine And.intro ?sc ?_); case sc => exact side) | ((with_reducible refine br_f ?sc ?_); case sc => exact sideB) | ((with_reducible refine br_t ?sc ?_); case sc => exact sideB))
  refine And.intro (fun hc => absurd (of_decide_eq_true hc) (by omega)) (fun hc => ?_)
  repeat ((conv => whnf); first | with_reducible refine O_step ?_ | with_reducible refine S_step ?_ | with_reducible refine D_step ?_ | with_reducible refine RO.exit ?_ | with_reducible refine RO.ret ?_ | ((with_reducible refine And.intro ?sc ?_); case sc => exact side) | ((with_reducible refine br_f ?sc ?_); case sc => exact sideB) | ((with_reducible refine br_t ?sc ?_); case sc => exact sideB))
  refine And.intro (fun hc => ?_) (fun hc => absurd (of_decide_eq_false hc) (by simpa using e))
  repeat ((conv => whnf); first | with_reducible refine O_step ?_ | with_reducible refine S_step ?_ | with_reducible refine D_step ?_ | with_reducible refine RO.exit ?_ | with_reducible refine RO.ret ?_ | ((with_reducible refine And.intro ?sc ?_); case sc => exact side) | ((with_reducible refine br_f ?sc ?_); case sc => exact sideB) | ((with_reducible refine br_t ?sc ?_); case sc => exact sideB))
  rw [show m.seq % 18446744073709551616 = m.seq by omega]
  refine numberR_at (n := 4) (by omega) (by decide) ?_
  repeat ((conv => whnf); first | with_reducible refine O_step ?_ | with_reducible refine S_step ?_ | with_reducible refine D_step ?_ | with_reducible refine RO.exit ?_ | with_reducible refine RO.ret ?_ | ((with_reducible refine And.intro ?sc ?_); case sc => exact side) | ((with_reducible refine br_f ?sc ?_); case sc => exact sideB) | ((with_reducible refine br_t ?sc ?_); case sc => exact sideB))
  intro zs hzs
  obtain rfl : zs = [m.kind] := hzs
  repeat ((conv => whnf); first | with_reducible refine O_step ?_ | with_reducible refine S_step ?_ | with_reducible refine D_step ?_ | with_reducible refine RO.exit ?_ | with_reducible refine RO.ret ?_ | ((with_reducible refine And.intro ?sc ?_); case sc => exact side) | ((with_reducible refine br_f ?sc ?_); case sc => exact sideB) | ((with_reducible refine br_t ?sc ?_); case sc => exact sideB))
  intro c1 hc1
  repeat ((conv => whnf); first | with_reducible refine O_step ?_ | with_reducible refine S_step ?_ | with_reducible refine D_step ?_ | with_reducible refine RO.exit ?_ | with_reducible refine RO.ret ?_ | ((with_reducible refine And.intro ?sc ?_); case sc => exact side) | ((with_reducible refine br_f ?sc ?_); case sc => exact sideB) | ((with_reducible refine br_t ?sc ?_); case sc => exact sideB))
  rw [show m.ex % 18446744073709551616 = m.ex by omega]
  refine numberR_at (n := 2) (by omega) (by decide) ?_
  repeat ((conv => whnf); first | with_reducible refine O_step ?_ | with_reducible refine S_step ?_ | with_reducible refine D_step ?_ | with_reducible refine RO.exit ?_ | with_reducible refine RO.ret ?_ | ((with_reducible refine And.intro ?sc ?_); case sc => exact side) | ((with_reducible refine br_f ?sc ?_); case sc => exact sideB) | ((with_reducible refine br_t ?sc ?_); case sc => exact sideB))
  intro zs hzs
  obtain rfl : zs = beW m.ex 2 := by rw [hzs, List.drop_zero]; exact List.take_of_length_le (by rw [beW_length]; exact Nat.le_refl _)
  repeat ((conv => whnf); first | with_reducible refine O_step ?_ | with_reducible refine S_step ?_ | with_reducible refine D_step ?_ | with_reducible refine RO.exit ?_ | with_reducible refine RO.ret ?_ | ((with_reducible refine And.intro ?sc ?_); case sc => exact side) | ((with_reducible refine br_f ?sc ?_); case sc => exact sideB) | ((with_reducible refine br_t ?sc ?_); case sc => exact sideB))
  intro c2 hc2
  repeat ((conv => whnf); first | with_reducible refine O_step ?_ | with_reducible refine S_step ?_ | with_reducible refine D_step ?_ | with_reducible refine RO.exit ?_ | with_reducible refine RO.ret ?_ | ((with_reducible refine And.intro ?sc ?_); case sc => exact side) | ((with_reducible refine br_f ?sc ?_); case sc => exact sideB) | ((with_reducible refine br_t ?sc ?_); case sc => exact sideB))
  rw [show m.ey % 18446744073709551616 = m.ey by omega]
  refine numberR_at (n := 2) (by omega) (by decide) ?_
  repeat ((conv => whnf); first | with_reducible refine O_step ?_ | with_reducible refine S_step ?_ | with_reducible refine D_step ?_ | with_reducible refine RO.exit ?_ | with_reducible refine RO.ret ?_ | ((with_reducible refine And.intro ?sc ?_); case sc => exact side) | ((with_reducible refine br_f ?sc ?_); case sc => exact sideB) | ((with_reducible refine br_t ?sc ?_); case sc => exact sideB))
  intro zs hzs
  obtain rfl : zs = beW m.ey 2 := by rw [hzs, List.drop_zero]; exact List.take_of_length_le (by rw [beW_length]; exact Nat.le_refl _)
  repeat ((conv => whnf); first | with_reducible refine O_step ?_ | with_reducible refine S_step ?_ | with_reducible refine D_step ?_ | with_reducible refine RO.exit ?_ | with_reducible refine RO.ret ?_ | ((with_reducible refine And.intro ?sc ?_); case sc => exact side) | ((with_reducible refine br_f ?sc ?_); case sc => exact sideB) | ((with_reducible refine br_t ?sc ?_); case sc => exact sideB))
  intro c3 hc3
  repeat ((conv => whnf); first | with_reducible refine O_step ?_ | with_reducible refine S_step ?_ | with_reducible refine D_step ?_ | with_reducible refine RO.exit ?_ | with_reducible refine RO.ret ?_ | ((with_reducible refine And.intro ?sc ?_); case sc => exact side) | ((with_reducible refine br_f ?sc ?_); case sc => exact sideB) | ((with_reducible refine br_t ?sc ?_); case sc => exact sideB))
  rw [show m.code % 18446744073709551616 = m.code by omega]
  refine numberR_at (n := 4) (by omega) (by decide) ?_
  repeat ((conv => whnf); first | with_reducible refine O_step ?_ | with_reducible refine S_step ?_ | with_reducible refine D_step ?_ | with_reducible refine RO.exit ?_ | with_reducible refine RO.ret ?_ | ((with_reducible refine And.intro ?sc ?_); case sc => exact side) | ((with_reducible refine br_f ?sc ?_); case sc => exact sideB) | ((with_reducible refine br_t ?sc ?_); case sc => exact sideB))
  intro zs hzs
  obtain rfl : zs = beW m.code 4 := by rw [hzs, List.drop_zero]; exact List.take_of_length_le (by rw [beW_length]; exact Nat.le_refl _)
  repeat ((conv => whnf); first | with_reducible refine O_step ?_ | with_reducible refine S_step ?_ | with_reducible refine D_step ?_ | with_reducible refine RO.exit ?_ | with_reducible refine RO.ret ?_ | ((with_reducible refine And.intro ?sc ?_); case sc => exact side) | ((with_reducible refine br_f ?sc ?_); case sc => exact sideB) | ((with_reducible refine br_t ?sc ?_); case sc => exact sideB))
  intro c4 hc4
  repeat ((conv => whnf); first | with_reducible refine O_step ?_ | with_reducible refine S_step ?_ | with_reducible refine D_step ?_ | with_reducible refine RO.exit ?_ | with_reducible refine RO.ret ?_ | ((with_reducible refine And.intro ?sc ?_); case sc => exact side) | ((with_reducible refine br_f ?sc ?_); case sc => exact sideB) | ((with_reducible refine br_t ?sc ?_); case sc => exact sideB))
  refine body_end (xs := beW m.seq 4 ++ [m.kind] ++ beW m.ex 2 ++ beW m.ey 2 ++ beW m.code 4) (by rw [bodyF_5 e, show beW m.kind 1 = [m.kind] by simp [beW]; omega]; simp) (by simp [beW_length]) hc4 h
theorem bodyR6 (o : okM m) (ls : m.sums.length ≤ 1000000) (lb : m.body.length ≤ 1000000) (e : m.ty = 6) (h : ∀ g c, (bodyF m).length ≤ c → K (.sl 2 g 0 (bodyF m).length c) [.one false 0 (.ints .u32 m.sums cS), .one false 0 (.ints .u8 m.body cB), .one true g (.ints .u8 (bodyF m) c)]) :
    CallA Try.prog 23 [mV m 0 0 cS 1 0 cB] [.one false 0 (.ints .u32 m.sums cS), .one false 0 (.ints .u8 m.body cB)] K Kp := by
  have h_seq := o.seq
  refine CallA.post_pick ?_
  refine step23 (fun _ => [0, 1, 2]) [] rfl ?_
  repeat ((conv => whnf); first | with_reducible refine O_step ?_ | with_reducible refine S_step ?_ | with_reducible refine D_step ?_ | with_reducible refine RO.exit ?_ | with_reducible refine RO.ret ?_ | ((with_reducible refine And.intro ?sc ?_); case sc => exact side) | ((with_reducible refine br_f ?sc ?_); case sc => exact sideB) | ((with_reducible refine br_t ?sc ?_); case sc => exact sideB))
  refine And.intro (fun hc => absurd (of_decide_eq_true hc) (by omega)) (fun hc => ?_)
  repeat ((conv => whnf); first | with_reducible refine O_step ?_ | with_reducible refine S_step ?_ | with_reducible refine D_step ?_ | with_reducible refine RO.exit ?_ | with_reducible refine RO.ret ?_ | ((with_reducible refine And.intro ?sc ?_); case sc => exact side) | ((with_reducible refine br_f ?sc ?_); case sc => exact sideB) | ((with_reducible refine br_t ?sc ?_); case sc => exact sideB))
  refine And.intro (fun hc => absurd (of_decide_eq_true hc) (by omega)) (fun hc => ?_)
  repeat ((conv => whnf); first | with_reducible refine O_step ?_ | with_reducible refine S_step ?_ | with_reducible refine D_step ?_ | with_reducible refine RO.exit ?_ | with_reducible refine RO.ret ?_ | ((with_reducible refine And.intro ?sc ?_); case sc => exact side) | ((with_reducible refine br_f ?sc ?_); case sc => exact sideB) | ((with_reducible refine br_t ?sc ?_); case sc => exact sideB))
  refine And.intro (fun hc => absurd (of_decide_eq_true hc) (by omega)) (fun hc => ?_)
  repeat ((conv => whnf); first | with_reducible refine O_step ?_ | with_reducible refine S_step ?_ | with_reducible refine D_step ?_ | with_reducible refine RO.exit ?_ | with_reducible refine RO.ret ?_ | ((with_reducible refine And.intro ?sc ?_); case sc => exact side) | ((with_reducible refine br_f ?sc ?_); case sc => exact sideB) | ((with_reducible refine br_t ?sc ?_); case sc => exact sideB))
  refine And.intro (fun hc => absurd (of_decide_eq_true hc) (by omega)) (fun hc => ?_)
  repeat ((conv => whnf); first | with_reducible refine O_step ?_ | with_reducible refine S_step ?_ | with_reducible refine D_step ?_ | with_reducible refine RO.exit ?_ | with_reducible refine RO.ret ?_ | ((with_reducible refine And.intro ?sc ?_); case sc => exact side) | ((with_reducible refine br_f ?sc ?_); case sc => exact sideB) | ((with_reducible refine br_t ?sc ?_); case sc => exact sideB))
  refine And.intro (fun hc => ?_) (fun hc => absurd (of_decide_eq_false hc) (by simpa using e))
  repeat ((conv => whnf); first | with_reducible refine O_step ?_ | with_reducible refine S_step ?_ | with_reducible refine D_step ?_ | with_reducible refine RO.exit ?_ | with_reducible refine RO.ret ?_ | ((with_reducible refine And.intro ?sc ?_); case sc => exact side) | ((with_reducible refine br_f ?sc ?_); case sc => exact sideB) | ((with_reducible refine br_t ?sc ?_); case sc => exact sideB))
  rw [show m.seq % 18446744073709551616 = m.seq by omega]
  refine numberR_at (n := 4) (by omega) (by decide) ?_
  repeat ((conv => whnf); first | with_reducible refine O_step ?_ | with_reducible refine S_step ?_ | with_reducible refine D_step ?_ | with_reducible refine RO.exit ?_ | with_reducible refine RO.ret ?_ | ((with_reducible refine And.intro ?sc ?_); case sc => exact side) | ((with_reducible refine br_f ?sc ?_); case sc => exact sideB) | ((with_reducible refine br_t ?sc ?_); case sc => exact sideB))
  refine body_end (xs := beW m.seq 4) (bodyF_6 e) (beW_length _ _) (Nat.le_refl _) h
theorem bodyR1 (o : okM m) (ls : m.sums.length ≤ 1000000) (lb : m.body.length ≤ 1000000) (e : m.ty = 1) (h : ∀ g c, (bodyF m).length ≤ c → K (.sl 2 g 0 (bodyF m).length c) [.one false 0 (.ints .u32 m.sums cS), .one false 0 (.ints .u8 m.body cB), .one true g (.ints .u8 (bodyF m) c)]) :
    CallA Try.prog 23 [mV m 0 0 cS 1 0 cB] [.one false 0 (.ints .u32 m.sums cS), .one false 0 (.ints .u8 m.body cB)] K Kp := by
  have h_life := o.life
  have h_frame := o.frame
  refine CallA.post_pick ?_
  refine step23 (fun _ => [0, 1, 2]) [] rfl ?_
  repeat ((conv => whnf); first | with_reducible refine O_step ?_ | with_reducible refine S_step ?_ | with_reducible refine D_step ?_ | with_reducible refine RO.exit ?_ | with_reducible refine RO.ret ?_ | ((with_reducible refine And.intro ?sc ?_); case sc => exact side) | ((with_reducible refine br_f ?sc ?_); case sc => exact sideB) | ((with_reducible refine br_t ?sc ?_); case sc => exact sideB))
  refine And.intro (fun hc => ?_) (fun hc => absurd (of_decide_eq_false hc) (by simpa using e))
  repeat ((conv => whnf); first | with_reducible refine O_step ?_ | with_reducible refine S_step ?_ | with_reducible refine D_step ?_ | with_reducible refine RO.exit ?_ | with_reducible refine RO.ret ?_ | ((with_reducible refine And.intro ?sc ?_); case sc => exact side) | ((with_reducible refine br_f ?sc ?_); case sc => exact sideB) | ((with_reducible refine br_t ?sc ?_); case sc => exact sideB))
  rw [show m.life % 18446744073709551616 = m.life by omega]
  refine numberR_at (n := 4) (by omega) (by decide) ?_
  repeat ((conv => whnf); first | with_reducible refine O_step ?_ | with_reducible refine S_step ?_ | with_reducible refine D_step ?_ | with_reducible refine RO.exit ?_ | with_reducible refine RO.ret ?_ | ((with_reducible refine And.intro ?sc ?_); case sc => exact side) | ((with_reducible refine br_f ?sc ?_); case sc => exact sideB) | ((with_reducible refine br_t ?sc ?_); case sc => exact sideB))
  refine truthR_at ?_
  repeat ((conv => whnf); first | with_reducible refine O_step ?_ | with_reducible refine S_step ?_ | with_reducible refine D_step ?_ | with_reducible refine RO.exit ?_ | with_reducible refine RO.ret ?_ | ((with_reducible refine And.intro ?sc ?_); case sc => exact side) | ((with_reducible refine br_f ?sc ?_); case sc => exact sideB) | ((with_reducible refine br_t ?sc ?_); case sc => exact sideB))
  intro zs hzs
  obtain rfl : zs = [if m.has = true then 1 else 0] := hzs
  repeat ((conv => whnf); first | with_reducible refine O_step ?_ | with_reducible refine S_step ?_ | with_reducible refine D_step ?_ | with_reducible refine RO.exit ?_ | with_reducible refine RO.ret ?_ | ((with_reducible refine And.intro ?sc ?_); case sc => exact side) | ((with_reducible refine br_f ?sc ?_); case sc => exact sideB) | ((with_reducible refine br_t ?sc ?_); case sc => exact sideB))
  intro c1 hc1
  repeat ((conv => whnf); first | with_reducible refine O_step ?_ | with_reducible refine S_step ?_ | with_reducible refine D_step ?_ | with_reducible refine RO.exit ?_ | with_reducible refine RO.ret ?_ | ((with_reducible refine And.intro ?sc ?_); case sc => exact side) | ((with_reducible refine br_f ?sc ?_); case sc => exact sideB) | ((with_reducible refine br_t ?sc ?_); case sc => exact sideB))
  rw [show m.frame % 18446744073709551616 = m.frame by omega]
  refine numberR_at (n := 4) (by omega) (by decide) ?_
  repeat ((conv => whnf); first | with_reducible refine O_step ?_ | with_reducible refine S_step ?_ | with_reducible refine D_step ?_ | with_reducible refine RO.exit ?_ | with_reducible refine RO.ret ?_ | ((with_reducible refine And.intro ?sc ?_); case sc => exact side) | ((with_reducible refine br_f ?sc ?_); case sc => exact sideB) | ((with_reducible refine br_t ?sc ?_); case sc => exact sideB))
  intro zs hzs
  obtain rfl : zs = beW m.frame 4 := by rw [hzs, List.drop_zero]; exact List.take_of_length_le (by rw [beW_length]; exact Nat.le_refl _)
  repeat ((conv => whnf); first | with_reducible refine O_step ?_ | with_reducible refine S_step ?_ | with_reducible refine D_step ?_ | with_reducible refine RO.exit ?_ | with_reducible refine RO.ret ?_ | ((with_reducible refine And.intro ?sc ?_); case sc => exact side) | ((with_reducible refine br_f ?sc ?_); case sc => exact sideB) | ((with_reducible refine br_t ?sc ?_); case sc => exact sideB))
  intro c2 hc2
  repeat ((conv => whnf); first | with_reducible refine O_step ?_ | with_reducible refine S_step ?_ | with_reducible refine D_step ?_ | with_reducible refine RO.exit ?_ | with_reducible refine RO.ret ?_ | ((with_reducible refine And.intro ?sc ?_); case sc => exact side) | ((with_reducible refine br_f ?sc ?_); case sc => exact sideB) | ((with_reducible refine br_t ?sc ?_); case sc => exact sideB))
  rw [show (m.sums.length : Int) % 18446744073709551616 = (m.sums.length : Int) by omega]
  refine numberR_at (n := 2) (by omega) (by decide) ?_
  repeat ((conv => whnf); first | with_reducible refine O_step ?_ | with_reducible refine S_step ?_ | with_reducible refine D_step ?_ | with_reducible refine RO.exit ?_ | with_reducible refine RO.ret ?_ | ((with_reducible refine And.intro ?sc ?_); case sc => exact side) | ((with_reducible refine br_f ?sc ?_); case sc => exact sideB) | ((with_reducible refine br_t ?sc ?_); case sc => exact sideB))
  intro zs hzs
  obtain rfl : zs = beW (m.sums.length : Int) 2 := by rw [hzs, List.drop_zero]; exact List.take_of_length_le (by rw [beW_length]; exact Nat.le_refl _)
  repeat ((conv => whnf); first | with_reducible refine O_step ?_ | with_reducible refine S_step ?_ | with_reducible refine D_step ?_ | with_reducible refine RO.exit ?_ | with_reducible refine RO.ret ?_ | ((with_reducible refine And.intro ?sc ?_); case sc => exact side) | ((with_reducible refine br_f ?sc ?_); case sc => exact sideB) | ((with_reducible refine br_t ?sc ?_); case sc => exact sideB))
  intro c3 hc3
  repeat ((conv => whnf); first | with_reducible refine O_step ?_ | with_reducible refine S_step ?_ | with_reducible refine D_step ?_ | with_reducible refine RO.exit ?_ | with_reducible refine RO.ret ?_ | ((with_reducible refine And.intro ?sc ?_); case sc => exact side) | ((with_reducible refine br_f ?sc ?_); case sc => exact sideB) | ((with_reducible refine br_t ?sc ?_); case sc => exact sideB))
  have hPl : (beW m.life 4 ++ [if m.has = true then 1 else 0] ++ beW m.frame 4 ++ beW (m.sums.length : Int) 2).length = 11 := by simp [beW_length]
  have hfl : ∀ S : List Int, (S.flatMap fun x => beW x 4).length = 4 * S.length := by
    intro S; induction S with
    | nil => rfl
    | cons x S ih => rw [List.flatMap_cons, List.length_append, ih, beW_length, List.length_cons]; omega
  generalize hP : beW m.life 4 ++ [if m.has = true then 1 else 0] ++ beW m.frame 4 ++ beW (m.sums.length : Int) 2 = P at hPl
  refine WO.go (σ := Nat × Nat × Nat) (fun (j, g, c) => j ≤ m.sums.length ∧ 11 + 4 * j ≤ c) (fun (j, g, c) => m.sums.length - j) (fun (j, g, c) => [(1, .ptr 2 0 0), (3, .sl 3 g 0 (11 + 4 * j) c), (4, .int .i64 j)])
    (fun (j, g, c) => [.one false 0 (.ints .u32 m.sums cS), .one false 0 (.ints .u8 m.body cB), .one true 0 (.cells (msL (.bo m.has) (.bo m.full) (.sl 0 0 0 m.sums.length cS) (.sl 1 0 0 m.body.length cB) m)), .one true g (.ints .u8 (P ++ (m.sums.take j).flatMap fun x => beW x 4) c), .gone, .gone, .gone])
    (0, 3, c3) tb_ok mixed (by kernel_rfl) ⟨Nat.zero_le _, hc3⟩ (And.intro rfl (And.intro rfl (And.intro rfl (trivial)))) (And.intro rfl (And.intro rfl (And.intro rfl (And.intro ?_ ⟨trivial, trivial, trivial, trivial⟩)))) (fun _ => rfl) (fun _ => rfl) (fun _ => ⟨trivial, trivial, rfl, trivial, trivial, trivial, trivial, trivial⟩) ?_
  · rw [List.take_zero, List.flatMap_nil, List.append_nil, ← hP]
  · rintro ⟨j, g, c⟩ ⟨hj, hc⟩ d
    repeat ((conv => whnf); first | with_reducible refine O_step ?_ | with_reducible refine S_step ?_ | with_reducible refine D_step ?_ | with_reducible refine RO.exit ?_ | with_reducible refine RO.ret ?_ | ((with_reducible refine And.intro ?sc ?_); case sc => exact side) | ((with_reducible refine br_f ?sc ?_); case sc => exact sideB) | ((with_reducible refine br_t ?sc ?_); case sc => exact sideB))
    refine And.intro (fun hb => ?_) (fun hb => ?_)
    · have hb' : (j : Int) < m.sums.length := of_decide_eq_true hb
      have hx := o.sums (m.sums.getD j 0) (by rw [List.getD_eq_getElem?_getD, List.getElem?_eq_getElem (by omega)]; exact List.getElem_mem _)
      repeat ((conv => whnf); first | with_reducible refine O_step ?_ | with_reducible refine S_step ?_ | with_reducible refine D_step ?_ | with_reducible refine RO.exit ?_ | with_reducible refine RO.ret ?_ | ((with_reducible refine And.intro ?sc ?_); case sc => exact side) | ((with_reducible refine br_f ?sc ?_); case sc => exact sideB) | ((with_reducible refine br_t ?sc ?_); case sc => exact sideB))
      have e1 : m.sums.getD ((j : Int).toNat + 0) 0 % 18446744073709551616 = m.sums.getD j 0 := by
        show m.sums.getD j 0 % 18446744073709551616 = m.sums.getD j 0
        omega
      rw [e1]
      refine numberR_at (n := 4) (by omega) (by decide) ?_
      have hWl : (P ++ (m.sums.take j).flatMap fun x => beW x 4).length = 11 + 4 * j := by rw [List.length_append, hPl, hfl, List.length_take, Nat.min_eq_left hj]
      repeat ((conv => whnf); first | with_reducible refine O_step ?_ | with_reducible refine S_step ?_ | with_reducible refine D_step ?_ | with_reducible refine RO.exit ?_ | with_reducible refine RO.ret ?_ | ((with_reducible refine And.intro ?sc ?_); case sc => exact side) | ((with_reducible refine br_f ?sc ?_); case sc => exact sideB) | ((with_reducible refine br_t ?sc ?_); case sc => exact sideB))
      intro zs hzs
      obtain rfl : zs = beW (m.sums.getD j 0) 4 := by rw [hzs, List.drop_zero]; exact List.take_of_length_le (by rw [beW_length]; exact Nat.le_refl _)
      repeat ((conv => whnf); first | with_reducible refine O_step ?_ | with_reducible refine S_step ?_ | with_reducible refine D_step ?_ | with_reducible refine RO.exit ?_ | with_reducible refine RO.ret ?_ | ((with_reducible refine And.intro ?sc ?_); case sc => exact side) | ((with_reducible refine br_f ?sc ?_); case sc => exact sideB) | ((with_reducible refine br_t ?sc ?_); case sc => exact sideB))
      intro c' hc'
      repeat ((conv => whnf); first | with_reducible refine O_step ?_ | with_reducible refine S_step ?_ | with_reducible refine D_step ?_ | with_reducible refine RO.exit ?_ | with_reducible refine RO.ret ?_ | ((with_reducible refine And.intro ?sc ?_); case sc => exact side) | ((with_reducible refine br_f ?sc ?_); case sc => exact sideB) | ((with_reducible refine br_t ?sc ?_); case sc => exact sideB))
      refine RO.same (j + 1, g + 1, c') ⟨by omega, by omega⟩ (show m.sums.length - (j + 1) < m.sums.length - j by omega) (And.intro rfl (And.intro rfl (And.intro rfl (trivial)))) (And.intro rfl (And.intro rfl (And.intro rfl (And.intro ?_ ⟨trivial, trivial, trivial, trivial⟩))))
      have e2 : m.sums.take (j + 1) = m.sums.take j ++ [m.sums.getD j 0] := by
        rw [List.take_add_one, List.getD_eq_getElem?_getD, List.getElem?_eq_getElem (by omega)]; rfl
      rw [e2, List.flatMap_append, ← List.append_assoc]
      simp
    · skip
      have hb' : ¬ (j : Int) < m.sums.length := of_decide_eq_false hb
      obtain rfl : j = m.sums.length := by omega
      repeat ((conv => whnf); first | with_reducible refine O_step ?_ | with_reducible refine S_step ?_ | with_reducible refine D_step ?_ | with_reducible refine RO.exit ?_ | with_reducible refine RO.ret ?_ | ((with_reducible refine And.intro ?sc ?_); case sc => exact side) | ((with_reducible refine br_f ?sc ?_); case sc => exact sideB) | ((with_reducible refine br_t ?sc ?_); case sc => exact sideB))
      rw [List.take_length]
      refine body_end (xs := P ++ m.sums.flatMap fun x => beW x 4) ?_ (by rw [List.length_append, hPl, hfl]) hc ?_
      · rw [← hP]; simp [bodyF, e, sumsB]
        cases m.has <;> rfl
      · exact h
theorem bodyR3 (o : okM m) (e : m.ty = 3) (h : ∀ g c, (bodyF m).length ≤ c → K (.sl 2 g 0 (bodyF m).length c) [.one false 0 (.ints .u32 m.sums cS), .one false 0 (.ints .u8 m.body cB), .one true g (.ints .u8 (bodyF m) c)]) :
    CallA Try.prog 23 [mV m 0 0 cS 1 0 cB] [.one false 0 (.ints .u32 m.sums cS), .one false 0 (.ints .u8 m.body cB)] K Kp := by
  refine CallA.post_pick ?_
  refine CallA.post_view ?_
  refine step23 (fun _ => [0, 1, 2]) [] rfl ?_
  repeat ((conv => whnf); first | with_reducible refine O_step ?_ | with_reducible refine S_step ?_ | with_reducible refine D_step ?_ | with_reducible refine RO.exit ?_ | with_reducible refine RO.ret ?_ | ((with_reducible refine And.intro ?sc ?_); case sc => exact side) | ((with_reducible refine br_f ?sc ?_); case sc => exact sideB) | ((with_reducible refine br_t ?sc ?_); case sc => exact sideB))
  refine And.intro (fun hc => absurd (of_decide_eq_true hc) (by omega)) (fun hc => ?_)
  repeat ((conv => whnf); first | with_reducible refine O_step ?_ | with_reducible refine S_step ?_ | with_reducible refine D_step ?_ | with_reducible refine RO.exit ?_ | with_reducible refine RO.ret ?_ | ((with_reducible refine And.intro ?sc ?_); case sc => exact side) | ((with_reducible refine br_f ?sc ?_); case sc => exact sideB) | ((with_reducible refine br_t ?sc ?_); case sc => exact sideB))
  refine And.intro (fun hc => absurd (of_decide_eq_true hc) (by omega)) (fun hc => ?_)
  repeat ((conv => whnf); first | with_reducible refine O_step ?_ | with_reducible refine S_step ?_ | with_reducible refine D_step ?_ | with_reducible refine RO.exit ?_ | with_reducible refine RO.ret ?_ | ((with_reducible refine And.intro ?sc ?_); case sc => exact side) | ((with_reducible refine br_f ?sc ?_); case sc => exact sideB) | ((with_reducible refine br_t ?sc ?_); case sc => exact sideB))
  refine And.intro (fun hc => absurd (of_decide_eq_true hc) (by omega)) (fun hc => ?_)
  repeat ((conv => whnf); first | with_reducible refine O_step ?_ | with_reducible refine S_step ?_ | with_reducible refine D_step ?_ | with_reducible refine RO.exit ?_ | with_reducible refine RO.ret ?_ | ((with_reducible refine And.intro ?sc ?_); case sc => exact side) | ((with_reducible refine br_f ?sc ?_); case sc => exact sideB) | ((with_reducible refine br_t ?sc ?_); case sc => exact sideB))
  refine And.intro (fun hc => absurd (of_decide_eq_true hc) (by omega)) (fun hc => ?_)
  repeat ((conv => whnf); first | with_reducible refine O_step ?_ | with_reducible refine S_step ?_ | with_reducible refine D_step ?_ | with_reducible refine RO.exit ?_ | with_reducible refine RO.ret ?_ | ((with_reducible refine And.intro ?sc ?_); case sc => exact side) | ((with_reducible refine br_f ?sc ?_); case sc => exact sideB) | ((with_reducible refine br_t ?sc ?_); case sc => exact sideB))
  refine And.intro (fun hc => absurd (of_decide_eq_true hc) (by omega)) (fun hc => ?_)
  repeat ((conv => whnf); first | with_reducible refine O_step ?_ | with_reducible refine S_step ?_ | with_reducible refine D_step ?_ | with_reducible refine RO.exit ?_ | with_reducible refine RO.ret ?_ | ((with_reducible refine And.intro ?sc ?_); case sc => exact side) | ((with_reducible refine br_f ?sc ?_); case sc => exact sideB) | ((with_reducible refine br_t ?sc ?_); case sc => exact sideB))
  have hb : bodyF m = [] := by simp [bodyF, e]
  have := h 0 0 (by rw [hb]; exact Nat.le_refl _)
  rw [hb] at this
  refine ⟨_, _, Vw.nil (x := .ints .u8 [] 0) ⟨rfl, rfl⟩, [.sha 0, .sha 1, .own 3], .sl 2 0 0 0 0, [.one false 0 (.ints .u32 m.sums cS), .one false 0 (.ints .u8 m.body cB), .one true 0 (.ints .u8 [] 0)], ⟨⟨⟨rfl, .one false 0 (.ints .u32 m.sums cS), rfl, rfl⟩, ⟨rfl, .one false 0 (.ints .u8 m.body cB), rfl, rfl⟩, ⟨rfl, rfl⟩, trivial⟩, rfl, ⟨trivial, trivial, trivial, trivial⟩, rfl, fun i hi => ?_⟩, this⟩
  match i, hi with
  | 0, _ => exact .inr rfl
  | 1, _ => exact .inr rfl
theorem bodyR_call (o : okM m) (ls : m.sums.length ≤ 1000000) (lb : m.body.length ≤ 1000000) (ht : 1 ≤ m.ty ∧ m.ty ≤ 6) (h : ∀ g c, (bodyF m).length ≤ c → K (.sl 2 g 0 (bodyF m).length c) [.one false 0 (.ints .u32 m.sums cS), .one false 0 (.ints .u8 m.body cB), .one true g (.ints .u8 (bodyF m) c)]) :
    CallA Try.prog 23 [mV m 0 0 cS 1 0 cB] [.one false 0 (.ints .u32 m.sums cS), .one false 0 (.ints .u8 m.body cB)] K Kp := by
  obtain e | e | e | e | e | e : m.ty = 1 ∨ m.ty = 2 ∨ m.ty = 3 ∨ m.ty = 4 ∨ m.ty = 5 ∨ m.ty = 6 := by omega
  · exact bodyR1 o ls lb e h
  · exact bodyR2 o ls lb e h
  · exact bodyR3 o e h
  · exact bodyR4 o ls lb e h
  · exact bodyR5 o ls lb e h
  · exact bodyR6 o ls lb e h
theorem bodyR_at {M : AH} {i gi j gj : Nat} {o1 o2 : Bool} (hi : slot M i gi = some (o1, .ints .u32 m.sums cS)) (hj : slot M j gj = some (o2, .ints .u8 m.body cB)) (o : okM m) (ls : m.sums.length ≤ 1000000) (lb : m.body.length ≤ 1000000) (ht : 1 ≤ m.ty ∧ m.ty ≤ 6)
    (h : ∀ g c, (bodyF m).length ≤ c → K (.sl M.length g 0 (bodyF m).length c) (M ++ [.one true g (.ints .u8 (bodyF m) c)])) :
    CallA Try.prog 23 [mV m i gi cS j gj cB] M K Kp := by
  refine CallA.lift [.win i gi 0, .win j gj 0] (bodyR_call (Kp := fun _ _ => False) (K := fun r M' => ∃ g c, (bodyF m).length ≤ c ∧ r = .sl 2 g 0 (bodyF m).length c ∧ M' = [.one false 0 (.ints .u32 m.sums cS), .one false 0 (.ints .u8 m.body cB), .one true g (.ints .u8 (bodyF m) c)]) o ls lb ht
    (fun g c hc => ⟨g, c, hc, rfl, rfl⟩)) rfl rfl ⟨⟨_, _, _, rfl, hi, winI0⟩, ⟨_, _, _, rfl, hj, winI0⟩, trivial⟩ ⟨trivial, trivial, trivial⟩ ?_ (fun _ _ h => h.elim)
  rintro r M' ⟨g, c, hc, rfl, rfl⟩
  exact ⟨⟨rfl, rfl, rfl⟩, h g c hc⟩
end

end Go.Proofs.Ytedlpkibdjccdaa
