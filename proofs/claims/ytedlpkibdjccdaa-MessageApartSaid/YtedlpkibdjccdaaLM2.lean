/- Layer 23: MessageApart. -/
import Derived.Test.YtedlpkibdjccdaaLM0

set_option linter.unusedVariables false

set_option linter.unusedSimpArgs false

open Go.RowKit

namespace Go.Proofs.Ytedlpkibdjccdaa

set_option maxRecDepth 10000

section

variable {K Kp : AV → AH → Prop} {m q : Msg} {cS cB dS dB : Nat}

theorem mApart_call (o : okM m) (oq : okM q) (kS : m.sums.length ≤ cS) (kB : m.body.length ≤ cB) (qS : q.sums.length ≤ dS) (qB : q.body.length ≤ dB) :
    CallA Try.prog 9 [mV m 0 0 cS 1 0 cB, mV q 2 0 dS 3 0 dB] [.one false 0 (.ints .u32 m.sums cS), .one false 0 (.ints .u8 m.body cB), .one false 0 (.ints .u32 q.sums dS), .one false 0 (.ints .u8 q.body dB)] (fun r _ => r = .bo true) (fun _ _ => False) := by
  refine step9 (fun _ => [0, 1, 2, 3, 4, 5, 6, 7]) [] rfl ?_
  repeat ((conv => whnf); first | with_reducible refine O_step ?_ | with_reducible refine S_step ?_ | with_reducible refine D_step ?_ | with_reducible refine RO.exit ?_ | with_reducible refine RO.ret ?_ | ((with_reducible refine And.intro ?sc ?_); case sc => exact side) | ((with_reducible refine br_f ?sc ?_); case sc => exact sideB) | ((with_reducible refine br_t ?sc ?_); case sc => exact sideB))
  refine And.intro (fun hc => ?_) (fun hc => ?_)
  · repeat ((conv => whnf); first | with_reducible refine O_step ?_ | with_reducible refine S_step ?_ | with_reducible refine D_step ?_ | with_reducible refine RO.exit ?_ | with_reducible refine RO.ret ?_ | ((with_reducible refine And.intro ?sc ?_); case sc => exact side) | ((with_reducible refine br_f ?sc ?_); case sc => exact sideB) | ((with_reducible refine br_t ?sc ?_); case sc => exact sideB))
    rfl
  have hl1 : m.body.length ≤ 2000 := by have := of_decide_eq_false hc; omega
  repeat ((conv => whnf); first | with_reducible refine O_step ?_ | with_reducible refine S_step ?_ | with_reducible refine D_step ?_ | with_reducible refine RO.exit ?_ | with_reducible refine RO.ret ?_ | ((with_reducible refine And.intro ?sc ?_); case sc => exact side) | ((with_reducible refine br_f ?sc ?_); case sc => exact sideB) | ((with_reducible refine br_t ?sc ?_); case sc => exact sideB))
  refine And.intro (fun hc => ?_) (fun hc => ?_)
  · repeat ((conv => whnf); first | with_reducible refine O_step ?_ | with_reducible refine S_step ?_ | with_reducible refine D_step ?_ | with_reducible refine RO.exit ?_ | with_reducible refine RO.ret ?_ | ((with_reducible refine And.intro ?sc ?_); case sc => exact side) | ((with_reducible refine br_f ?sc ?_); case sc => exact sideB) | ((with_reducible refine br_t ?sc ?_); case sc => exact sideB))
    rfl
  have hl2 : m.sums.length ≤ 256 := by have := of_decide_eq_false hc; omega
  repeat ((conv => whnf); first | with_reducible refine O_step ?_ | with_reducible refine S_step ?_ | with_reducible refine D_step ?_ | with_reducible refine RO.exit ?_ | with_reducible refine RO.ret ?_ | ((with_reducible refine And.intro ?sc ?_); case sc => exact side) | ((with_reducible refine br_f ?sc ?_); case sc => exact sideB) | ((with_reducible refine br_t ?sc ?_); case sc => exact sideB))
  refine And.intro (fun hc => ?_) (fun hc => ?_)
  · repeat ((conv => whnf); first | with_reducible refine O_step ?_ | with_reducible refine S_step ?_ | with_reducible refine D_step ?_ | with_reducible refine RO.exit ?_ | with_reducible refine RO.ret ?_ | ((with_reducible refine And.intro ?sc ?_); case sc => exact side) | ((with_reducible refine br_f ?sc ?_); case sc => exact sideB) | ((with_reducible refine br_t ?sc ?_); case sc => exact sideB))
    rfl
  have hl3 : q.body.length ≤ 2000 := by have := of_decide_eq_false hc; omega
  repeat ((conv => whnf); first | with_reducible refine O_step ?_ | with_reducible refine S_step ?_ | with_reducible refine D_step ?_ | with_reducible refine RO.exit ?_ | with_reducible refine RO.ret ?_ | ((with_reducible refine And.intro ?sc ?_); case sc => exact side) | ((with_reducible refine br_f ?sc ?_); case sc => exact sideB) | ((with_reducible refine br_t ?sc ?_); case sc => exact sideB))
  refine And.intro (fun hc => ?_) (fun hc => ?_)
  · repeat ((conv => whnf); first | with_reducible refine O_step ?_ | with_reducible refine S_step ?_ | with_reducible refine D_step ?_ | with_reducible refine RO.exit ?_ | with_reducible refine RO.ret ?_ | ((with_reducible refine And.intro ?sc ?_); case sc => exact side) | ((with_reducible refine br_f ?sc ?_); case sc => exact sideB) | ((with_reducible refine br_t ?sc ?_); case sc => exact sideB))
    rfl
  have hl4 : q.sums.length ≤ 256 := by have := of_decide_eq_false hc; omega
  repeat ((conv => whnf); first | with_reducible refine O_step ?_ | with_reducible refine S_step ?_ | with_reducible refine D_step ?_ | with_reducible refine RO.exit ?_ | with_reducible refine RO.ret ?_ | ((with_reducible refine And.intro ?sc ?_); case sc => exact side) | ((with_reducible refine br_f ?sc ?_); case sc => exact sideB) | ((with_reducible refine br_t ?sc ?_); case sc => exact sideB))
  refine mwrite_at (i := 0) (gi := 0) (cS := cS) (j := 1) (gj := 0) (cB := cB) rfl rfl o (by omega) (by omega) kS kB (fun ga ca ka => ?_)
  repeat ((conv => whnf); first | with_reducible refine O_step ?_ | with_reducible refine S_step ?_ | with_reducible refine D_step ?_ | with_reducible refine RO.exit ?_ | with_reducible refine RO.ret ?_ | ((with_reducible refine And.intro ?sc ?_); case sc => exact side) | ((with_reducible refine br_f ?sc ?_); case sc => exact sideB) | ((with_reducible refine br_t ?sc ?_); case sc => exact sideB))
  refine mwrite_at (i := 2) (gi := 0) (cS := dS) (j := 3) (gj := 0) (cB := dB) rfl rfl oq (by omega) (by omega) qS qB (fun gb cb kb => ?_)
  rcases wr_cases (m := m) with ⟨hm, he, hb⟩ | ⟨hm, he, hb⟩
  · rcases wr_cases (m := q) with ⟨hm', he', hb'⟩ | ⟨hm', he', hb'⟩
    · have hin : ∀ x ∈ wireF m, 0 ≤ x ∧ x < 256 := by rw [← hb]; exact wrB_in8 o
      have hin' : ∀ x ∈ wireF q, 0 ≤ x ∧ x < 256 := by rw [← hb']; exact wrB_in8 oq
      have heq : decide (wireF m = wireF q) = decide (m = q) := decide_eq_decide.2 (wire_inj o hm.1 (by omega) (by omega) hm.2.2 oq hm'.1 (by omega) (by omega) hm'.2.2)
      rw [he, he', hb, hb']
      repeat ((conv => whnf); first | with_reducible refine O_step ?_ | with_reducible refine S_step ?_ | with_reducible refine D_step ?_ | with_reducible refine RO.exit ?_ | with_reducible refine RO.ret ?_ | ((with_reducible refine And.intro ?sc ?_); case sc => exact side) | ((with_reducible refine br_f ?sc ?_); case sc => exact sideB) | ((with_reducible refine br_t ?sc ?_); case sc => exact sideB))
      obtain e | e | e | e | e | e : m.ty = 1 ∨ m.ty = 2 ∨ m.ty = 4 ∨ m.ty = 5 ∨ m.ty = 6 ∨ m.ty = 3 := by have := hm.1; omega
      · skip
        refine And.intro (fun hc => ?_) (fun hc => absurd (of_decide_eq_false hc) (by simpa using e))
        repeat ((conv => whnf); first | with_reducible refine O_step ?_ | with_reducible refine S_step ?_ | with_reducible refine D_step ?_ | with_reducible refine RO.exit ?_ | with_reducible refine RO.ret ?_ | ((with_reducible refine And.intro ?sc ?_); case sc => exact side) | ((with_reducible refine br_f ?sc ?_); case sc => exact sideB) | ((with_reducible refine br_t ?sc ?_); case sc => exact sideB))
        have hsz := bodyF_len m
        rw [e] at hsz
        simp at hsz
        refine br_t (decide_eq_true (by rw [wireF_len]; first | omega | simp [hsz])) ?_
        repeat ((conv => whnf); first | with_reducible refine O_step ?_ | with_reducible refine S_step ?_ | with_reducible refine D_step ?_ | with_reducible refine RO.exit ?_ | with_reducible refine RO.ret ?_ | ((with_reducible refine And.intro ?sc ?_); case sc => exact side) | ((with_reducible refine br_f ?sc ?_); case sc => exact sideB) | ((with_reducible refine br_t ?sc ?_); case sc => exact sideB))
        intro zs hzs
        obtain rfl : zs = wireF m := by rw [hzs]; exact List.take_length
        repeat ((conv => whnf); first | with_reducible refine O_step ?_ | with_reducible refine S_step ?_ | with_reducible refine D_step ?_ | with_reducible refine RO.exit ?_ | with_reducible refine RO.ret ?_ | ((with_reducible refine And.intro ?sc ?_); case sc => exact side) | ((with_reducible refine br_f ?sc ?_); case sc => exact sideB) | ((with_reducible refine br_t ?sc ?_); case sc => exact sideB))
        intro zs hzs
        obtain rfl : zs = wireF q := by rw [hzs]; exact List.take_length
        repeat ((conv => whnf); first | with_reducible refine O_step ?_ | with_reducible refine S_step ?_ | with_reducible refine D_step ?_ | with_reducible refine RO.exit ?_ | with_reducible refine RO.ret ?_ | ((with_reducible refine And.intro ?sc ?_); case sc => exact side) | ((with_reducible refine br_f ?sc ?_); case sc => exact sideB) | ((with_reducible refine br_t ?sc ?_); case sc => exact sideB))
        refine sameR_at (a := m) (b := q) (i0 := 0) (g0 := 0) (c0 := cS) (i1 := 1) (g1 := 0) (c1 := cB) (i2 := 2) (g2 := 0) (c2 := dS) (i3 := 3) (g3 := 0) (c3 := dB) rfl rfl rfl rfl o oq ⟨by omega, by omega⟩ ⟨by omega, by omega⟩ ?_
        rw [str_eq hin hin', heq]
        repeat ((conv => whnf); first | with_reducible refine O_step ?_ | with_reducible refine S_step ?_ | with_reducible refine D_step ?_ | with_reducible refine RO.exit ?_ | with_reducible refine RO.ret ?_ | ((with_reducible refine And.intro ?sc ?_); case sc => exact side) | ((with_reducible refine br_f ?sc ?_); case sc => exact sideB) | ((with_reducible refine br_t ?sc ?_); case sc => exact sideB))
        refine writes_at ?_
        repeat ((conv => whnf); first | with_reducible refine O_step ?_ | with_reducible refine S_step ?_ | with_reducible refine D_step ?_ | with_reducible refine RO.exit ?_ | with_reducible refine RO.ret ?_ | ((with_reducible refine And.intro ?sc ?_); case sc => exact side) | ((with_reducible refine br_f ?sc ?_); case sc => exact sideB) | ((with_reducible refine br_t ?sc ?_); case sc => exact sideB))
        rfl
      · skip
        refine And.intro (fun hc => absurd (of_decide_eq_true hc) (by omega)) (fun hc => ?_)
        repeat ((conv => whnf); first | with_reducible refine O_step ?_ | with_reducible refine S_step ?_ | with_reducible refine D_step ?_ | with_reducible refine RO.exit ?_ | with_reducible refine RO.ret ?_ | ((with_reducible refine And.intro ?sc ?_); case sc => exact side) | ((with_reducible refine br_f ?sc ?_); case sc => exact sideB) | ((with_reducible refine br_t ?sc ?_); case sc => exact sideB))
        refine And.intro (fun hc => ?_) (fun hc => absurd (of_decide_eq_false hc) (by simpa using e))
        repeat ((conv => whnf); first | with_reducible refine O_step ?_ | with_reducible refine S_step ?_ | with_reducible refine D_step ?_ | with_reducible refine RO.exit ?_ | with_reducible refine RO.ret ?_ | ((with_reducible refine And.intro ?sc ?_); case sc => exact side) | ((with_reducible refine br_f ?sc ?_); case sc => exact sideB) | ((with_reducible refine br_t ?sc ?_); case sc => exact sideB))
        have hsz := bodyF_len m
        rw [e] at hsz
        simp at hsz
        refine br_t (decide_eq_true (by rw [wireF_len]; first | omega | simp [hsz])) ?_
        repeat ((conv => whnf); first | with_reducible refine O_step ?_ | with_reducible refine S_step ?_ | with_reducible refine D_step ?_ | with_reducible refine RO.exit ?_ | with_reducible refine RO.ret ?_ | ((with_reducible refine And.intro ?sc ?_); case sc => exact side) | ((with_reducible refine br_f ?sc ?_); case sc => exact sideB) | ((with_reducible refine br_t ?sc ?_); case sc => exact sideB))
        intro zs hzs
        obtain rfl : zs = wireF m := by rw [hzs]; exact List.take_length
        repeat ((conv => whnf); first | with_reducible refine O_step ?_ | with_reducible refine S_step ?_ | with_reducible refine D_step ?_ | with_reducible refine RO.exit ?_ | with_reducible refine RO.ret ?_ | ((with_reducible refine And.intro ?sc ?_); case sc => exact side) | ((with_reducible refine br_f ?sc ?_); case sc => exact sideB) | ((with_reducible refine br_t ?sc ?_); case sc => exact sideB))
        intro zs hzs
        obtain rfl : zs = wireF q := by rw [hzs]; exact List.take_length
        repeat ((conv => whnf); first | with_reducible refine O_step ?_ | with_reducible refine S_step ?_ | with_reducible refine D_step ?_ | with_reducible refine RO.exit ?_ | with_reducible refine RO.ret ?_ | ((with_reducible refine And.intro ?sc ?_); case sc => exact side) | ((with_reducible refine br_f ?sc ?_); case sc => exact sideB) | ((with_reducible refine br_t ?sc ?_); case sc => exact sideB))
        refine sameR_at (a := m) (b := q) (i0 := 0) (g0 := 0) (c0 := cS) (i1 := 1) (g1 := 0) (c1 := cB) (i2 := 2) (g2 := 0) (c2 := dS) (i3 := 3) (g3 := 0) (c3 := dB) rfl rfl rfl rfl o oq ⟨by omega, by omega⟩ ⟨by omega, by omega⟩ ?_
        rw [str_eq hin hin', heq]
        repeat ((conv => whnf); first | with_reducible refine O_step ?_ | with_reducible refine S_step ?_ | with_reducible refine D_step ?_ | with_reducible refine RO.exit ?_ | with_reducible refine RO.ret ?_ | ((with_reducible refine And.intro ?sc ?_); case sc => exact side) | ((with_reducible refine br_f ?sc ?_); case sc => exact sideB) | ((with_reducible refine br_t ?sc ?_); case sc => exact sideB))
        refine writes_at ?_
        repeat ((conv => whnf); first | with_reducible refine O_step ?_ | with_reducible refine S_step ?_ | with_reducible refine D_step ?_ | with_reducible refine RO.exit ?_ | with_reducible refine RO.ret ?_ | ((with_reducible refine And.intro ?sc ?_); case sc => exact side) | ((with_reducible refine br_f ?sc ?_); case sc => exact sideB) | ((with_reducible refine br_t ?sc ?_); case sc => exact sideB))
        rfl
      · skip
        refine And.intro (fun hc => absurd (of_decide_eq_true hc) (by omega)) (fun hc => ?_)
        repeat ((conv => whnf); first | with_reducible refine O_step ?_ | with_reducible refine S_step ?_ | with_reducible refine D_step ?_ | with_reducible refine RO.exit ?_ | with_reducible refine RO.ret ?_ | ((with_reducible refine And.intro ?sc ?_); case sc => exact side) | ((with_reducible refine br_f ?sc ?_); case sc => exact sideB) | ((with_reducible refine br_t ?sc ?_); case sc => exact sideB))
        refine And.intro (fun hc => absurd (of_decide_eq_true hc) (by omega)) (fun hc => ?_)
        repeat ((conv => whnf); first | with_reducible refine O_step ?_ | with_reducible refine S_step ?_ | with_reducible refine D_step ?_ | with_reducible refine RO.exit ?_ | with_reducible refine RO.ret ?_ | ((with_reducible refine And.intro ?sc ?_); case sc => exact side) | ((with_reducible refine br_f ?sc ?_); case sc => exact sideB) | ((with_reducible refine br_t ?sc ?_); case sc => exact sideB))
        refine And.intro (fun hc => ?_) (fun hc => absurd (of_decide_eq_false hc) (by simpa using e))
        repeat ((conv => whnf); first | with_reducible refine O_step ?_ | with_reducible refine S_step ?_ | with_reducible refine D_step ?_ | with_reducible refine RO.exit ?_ | with_reducible refine RO.ret ?_ | ((with_reducible refine And.intro ?sc ?_); case sc => exact side) | ((with_reducible refine br_f ?sc ?_); case sc => exact sideB) | ((with_reducible refine br_t ?sc ?_); case sc => exact sideB))
        have hsz := bodyF_len m
        rw [e] at hsz
        simp at hsz
        refine br_t (decide_eq_true (by rw [wireF_len]; first | omega | simp [hsz])) ?_
        repeat ((conv => whnf); first | with_reducible refine O_step ?_ | with_reducible refine S_step ?_ | with_reducible refine D_step ?_ | with_reducible refine RO.exit ?_ | with_reducible refine RO.ret ?_ | ((with_reducible refine And.intro ?sc ?_); case sc => exact side) | ((with_reducible refine br_f ?sc ?_); case sc => exact sideB) | ((with_reducible refine br_t ?sc ?_); case sc => exact sideB))
        intro zs hzs
        obtain rfl : zs = wireF m := by rw [hzs]; exact List.take_length
        repeat ((conv => whnf); first | with_reducible refine O_step ?_ | with_reducible refine S_step ?_ | with_reducible refine D_step ?_ | with_reducible refine RO.exit ?_ | with_reducible refine RO.ret ?_ | ((with_reducible refine And.intro ?sc ?_); case sc => exact side) | ((with_reducible refine br_f ?sc ?_); case sc => exact sideB) | ((with_reducible refine br_t ?sc ?_); case sc => exact sideB))
        intro zs hzs
        obtain rfl : zs = wireF q := by rw [hzs]; exact List.take_length
        repeat ((conv => whnf); first | with_reducible refine O_step ?_ | with_reducible refine S_step ?_ | with_reducible refine D_step ?_ | with_reducible refine RO.exit ?_ | with_reducible refine RO.ret ?_ | ((with_reducible refine And.intro ?sc ?_); case sc => exact side) | ((with_reducible refine br_f ?sc ?_); case sc => exact sideB) | ((with_reducible refine br_t ?sc ?_); case sc => exact sideB))
        refine sameR_at (a := m) (b := q) (i0 := 0) (g0 := 0) (c0 := cS) (i1 := 1) (g1 := 0) (c1 := cB) (i2 := 2) (g2 := 0) (c2 := dS) (i3 := 3) (g3 := 0) (c3 := dB) rfl rfl rfl rfl o oq ⟨by omega, by omega⟩ ⟨by omega, by omega⟩ ?_
        rw [str_eq hin hin', heq]
        repeat ((conv => whnf); first | with_reducible refine O_step ?_ | with_reducible refine S_step ?_ | with_reducible refine D_step ?_ | with_reducible refine RO.exit ?_ | with_reducible refine RO.ret ?_ | ((with_reducible refine And.intro ?sc ?_); case sc => exact side) | ((with_reducible refine br_f ?sc ?_); case sc => exact sideB) | ((with_reducible refine br_t ?sc ?_); case sc => exact sideB))
        refine writes_at ?_
        repeat ((conv => whnf); first | with_reducible refine O_step ?_ | with_reducible refine S_step ?_ | with_reducible refine D_step ?_ | with_reducible refine RO.exit ?_ | with_reducible refine RO.ret ?_ | ((with_reducible refine And.intro ?sc ?_); case sc => exact side) | ((with_reducible refine br_f ?sc ?_); case sc => exact sideB) | ((with_reducible refine br_t ?sc ?_); case sc => exact sideB))
        rfl
      · skip
        refine And.intro (fun hc => absurd (of_decide_eq_true hc) (by omega)) (fun hc => ?_)
        repeat ((conv => whnf); first | with_reducible refine O_step ?_ | with_reducible refine S_step ?_ | with_reducible refine D_step ?_ | with_reducible refine RO.exit ?_ | with_reducible refine RO.ret ?_ | ((with_reducible refine And.intro ?sc ?_); case sc => exact side) | ((with_reducible refine br_f ?sc ?_); case sc => exact sideB) | ((with_reducible refine br_t ?sc ?_); case sc => exact sideB))
        refine And.intro (fun hc => absurd (of_decide_eq_true hc) (by omega)) (fun hc => ?_)
        repeat ((conv => whnf); first | with_reducible refine O_step ?_ | with_reducible refine S_step ?_ | with_reducible refine D_step ?_ | with_reducible refine RO.exit ?_ | with_reducible refine RO.ret ?_ | ((with_reducible refine And.intro ?sc ?_); case sc => exact side) | ((with_reducible refine br_f ?sc ?_); case sc => exact sideB) | ((with_reducible refine br_t ?sc ?_); case sc => exact sideB))
        refine And.intro (fun hc => absurd (of_decide_eq_true hc) (by omega)) (fun hc => ?_)
        repeat ((conv => whnf); first | with_reducible refine O_step ?_ | with_reducible refine S_step ?_ | with_reducible refine D_step ?_ | with_reducible refine RO.exit ?_ | with_reducible refine RO.ret ?_ | ((with_reducible refine And.intro ?sc ?_); case sc => exact side) | ((with_reducible refine br_f ?sc ?_); case sc => exact sideB) | ((with_reducible refine br_t ?sc ?_); case sc => exact sideB))
        refine And.intro (fun hc => ?_) (fun hc => absurd (of_decide_eq_false hc) (by simpa using e))
        repeat ((conv => whnf); first | with_reducible refine O_step ?_ | with_reducible refine S_step ?_ | with_reducible refine D_step ?_ | with_reducible refine RO.exit ?_ | with_reducible refine RO.ret ?_ | ((with_reducible refine And.intro ?sc ?_); case sc => exact side) | ((with_reducible refine br_f ?sc ?_); case sc => exact sideB) | ((with_reducible refine br_t ?sc ?_); case sc => exact sideB))
        have hsz := bodyF_len m
        rw [e] at hsz
        simp at hsz
        refine br_t (decide_eq_true (by rw [wireF_len]; first | omega | simp [hsz])) ?_
        repeat ((conv => whnf); first | with_reducible refine O_step ?_ | with_reducible refine S_step ?_ | with_reducible refine D_step ?_ | with_reducible refine RO.exit ?_ | with_reducible refine RO.ret ?_ | ((with_reducible refine And.intro ?sc ?_); case sc => exact side) | ((with_reducible refine br_f ?sc ?_); case sc => exact sideB) | ((with_reducible refine br_t ?sc ?_); case sc => exact sideB))
        intro zs hzs
        obtain rfl : zs = wireF m := by rw [hzs]; exact List.take_length
        repeat ((conv => whnf); first | with_reducible refine O_step ?_ | with_reducible refine S_step ?_ | with_reducible refine D_step ?_ | with_reducible refine RO.exit ?_ | with_reducible refine RO.ret ?_ | ((with_reducible refine And.intro ?sc ?_); case sc => exact side) | ((with_reducible refine br_f ?sc ?_); case sc => exact sideB) | ((with_reducible refine br_t ?sc ?_); case sc => exact sideB))
        intro zs hzs
        obtain rfl : zs = wireF q := by rw [hzs]; exact List.take_length
        repeat ((conv => whnf); first | with_reducible refine O_step ?_ | with_reducible refine S_step ?_ | with_reducible refine D_step ?_ | with_reducible refine RO.exit ?_ | with_reducible refine RO.ret ?_ | ((with_reducible refine And.intro ?sc ?_); case sc => exact side) | ((with_reducible refine br_f ?sc ?_); case sc => exact sideB) | ((with_reducible refine br_t ?sc ?_); case sc => exact sideB))
        refine sameR_at (a := m) (b := q) (i0 := 0) (g0 := 0) (c0 := cS) (i1 := 1) (g1 := 0) (c1 := cB) (i2 := 2) (g2 := 0) (c2 := dS) (i3 := 3) (g3 := 0) (c3 := dB) rfl rfl rfl rfl o oq ⟨by omega, by omega⟩ ⟨by omega, by omega⟩ ?_
        rw [str_eq hin hin', heq]
        repeat ((conv => whnf); first | with_reducible refine O_step ?_ | with_reducible refine S_step ?_ | with_reducible refine D_step ?_ | with_reducible refine RO.exit ?_ | with_reducible refine RO.ret ?_ | ((with_reducible refine And.intro ?sc ?_); case sc => exact side) | ((with_reducible refine br_f ?sc ?_); case sc => exact sideB) | ((with_reducible refine br_t ?sc ?_); case sc => exact sideB))
        refine writes_at ?_
        repeat ((conv => whnf); first | with_reducible refine O_step ?_ | with_reducible refine S_step ?_ | with_reducible refine D_step ?_ | with_reducible refine RO.exit ?_ | with_reducible refine RO.ret ?_ | ((with_reducible refine And.intro ?sc ?_); case sc => exact side) | ((with_reducible refine br_f ?sc ?_); case sc => exact sideB) | ((with_reducible refine br_t ?sc ?_); case sc => exact sideB))
        rfl
      · skip
        refine And.intro (fun hc => absurd (of_decide_eq_true hc) (by omega)) (fun hc => ?_)
        repeat ((conv => whnf); first | with_reducible refine O_step ?_ | with_reducible refine S_step ?_ | with_reducible refine D_step ?_ | with_reducible refine RO.exit ?_ | with_reducible refine RO.ret ?_ | ((with_reducible refine And.intro ?sc ?_); case sc => exact side) | ((with_reducible refine br_f ?sc ?_); case sc => exact sideB) | ((with_reducible refine br_t ?sc ?_); case sc => exact sideB))
        refine And.intro (fun hc => absurd (of_decide_eq_true hc) (by omega)) (fun hc => ?_)
        repeat ((conv => whnf); first | with_reducible refine O_step ?_ | with_reducible refine S_step ?_ | with_reducible refine D_step ?_ | with_reducible refine RO.exit ?_ | with_reducible refine RO.ret ?_ | ((with_reducible refine And.intro ?sc ?_); case sc => exact side) | ((with_reducible refine br_f ?sc ?_); case sc => exact sideB) | ((with_reducible refine br_t ?sc ?_); case sc => exact sideB))
        refine And.intro (fun hc => absurd (of_decide_eq_true hc) (by omega)) (fun hc => ?_)
        repeat ((conv => whnf); first | with_reducible refine O_step ?_ | with_reducible refine S_step ?_ | with_reducible refine D_step ?_ | with_reducible refine RO.exit ?_ | with_reducible refine RO.ret ?_ | ((with_reducible refine And.intro ?sc ?_); case sc => exact side) | ((with_reducible refine br_f ?sc ?_); case sc => exact sideB) | ((with_reducible refine br_t ?sc ?_); case sc => exact sideB))
        refine And.intro (fun hc => absurd (of_decide_eq_true hc) (by omega)) (fun hc => ?_)
        repeat ((conv => whnf); first | with_reducible refine O_step ?_ | with_reducible refine S_step ?_ | with_reducible refine D_step ?_ | with_reducible refine RO.exit ?_ | with_reducible refine RO.ret ?_ | ((with_reducible refine And.intro ?sc ?_); case sc => exact side) | ((with_reducible refine br_f ?sc ?_); case sc => exact sideB) | ((with_reducible refine br_t ?sc ?_); case sc => exact sideB))
        refine And.intro (fun hc => ?_) (fun hc => absurd (of_decide_eq_false hc) (by simpa using e))
        repeat ((conv => whnf); first | with_reducible refine O_step ?_ | with_reducible refine S_step ?_ | with_reducible refine D_step ?_ | with_reducible refine RO.exit ?_ | with_reducible refine RO.ret ?_ | ((with_reducible refine And.intro ?sc ?_); case sc => exact side) | ((with_reducible refine br_f ?sc ?_); case sc => exact sideB) | ((with_reducible refine br_t ?sc ?_); case sc => exact sideB))
        have hsz := bodyF_len m
        rw [e] at hsz
        simp at hsz
        refine br_t (decide_eq_true (by rw [wireF_len]; first | omega | simp [hsz])) ?_
        repeat ((conv => whnf); first | with_reducible refine O_step ?_ | with_reducible refine S_step ?_ | with_reducible refine D_step ?_ | with_reducible refine RO.exit ?_ | with_reducible refine RO.ret ?_ | ((with_reducible refine And.intro ?sc ?_); case sc => exact side) | ((with_reducible refine br_f ?sc ?_); case sc => exact sideB) | ((with_reducible refine br_t ?sc ?_); case sc => exact sideB))
        intro zs hzs
        obtain rfl : zs = wireF m := by rw [hzs]; exact List.take_length
        repeat ((conv => whnf); first | with_reducible refine O_step ?_ | with_reducible refine S_step ?_ | with_reducible refine D_step ?_ | with_reducible refine RO.exit ?_ | with_reducible refine RO.ret ?_ | ((with_reducible refine And.intro ?sc ?_); case sc => exact side) | ((with_reducible refine br_f ?sc ?_); case sc => exact sideB) | ((with_reducible refine br_t ?sc ?_); case sc => exact sideB))
        intro zs hzs
        obtain rfl : zs = wireF q := by rw [hzs]; exact List.take_length
        repeat ((conv => whnf); first | with_reducible refine O_step ?_ | with_reducible refine S_step ?_ | with_reducible refine D_step ?_ | with_reducible refine RO.exit ?_ | with_reducible refine RO.ret ?_ | ((with_reducible refine And.intro ?sc ?_); case sc => exact side) | ((with_reducible refine br_f ?sc ?_); case sc => exact sideB) | ((with_reducible refine br_t ?sc ?_); case sc => exact sideB))
        refine sameR_at (a := m) (b := q) (i0 := 0) (g0 := 0) (c0 := cS) (i1 := 1) (g1 := 0) (c1 := cB) (i2 := 2) (g2 := 0) (c2 := dS) (i3 := 3) (g3 := 0) (c3 := dB) rfl rfl rfl rfl o oq ⟨by omega, by omega⟩ ⟨by omega, by omega⟩ ?_
        rw [str_eq hin hin', heq]
        repeat ((conv => whnf); first | with_reducible refine O_step ?_ | with_reducible refine S_step ?_ | with_reducible refine D_step ?_ | with_reducible refine RO.exit ?_ | with_reducible refine RO.ret ?_ | ((with_reducible refine And.intro ?sc ?_); case sc => exact side) | ((with_reducible refine br_f ?sc ?_); case sc => exact sideB) | ((with_reducible refine br_t ?sc ?_); case sc => exact sideB))
        refine writes_at ?_
        repeat ((conv => whnf); first | with_reducible refine O_step ?_ | with_reducible refine S_step ?_ | with_reducible refine D_step ?_ | with_reducible refine RO.exit ?_ | with_reducible refine RO.ret ?_ | ((with_reducible refine And.intro ?sc ?_); case sc => exact side) | ((with_reducible refine br_f ?sc ?_); case sc => exact sideB) | ((with_reducible refine br_t ?sc ?_); case sc => exact sideB))
        rfl
      · skip
        refine And.intro (fun hc => absurd (of_decide_eq_true hc) (by omega)) (fun hc => ?_)
        repeat ((conv => whnf); first | with_reducible refine O_step ?_ | with_reducible refine S_step ?_ | with_reducible refine D_step ?_ | with_reducible refine RO.exit ?_ | with_reducible refine RO.ret ?_ | ((with_reducible refine And.intro ?sc ?_); case sc => exact side) | ((with_reducible refine br_f ?sc ?_); case sc => exact sideB) | ((with_reducible refine br_t ?sc ?_); case sc => exact sideB))
        refine And.intro (fun hc => absurd (of_decide_eq_true hc) (by omega)) (fun hc => ?_)
        repeat ((conv => whnf); first | with_reducible refine O_step ?_ | with_reducible refine S_step ?_ | with_reducible refine D_step ?_ | with_reducible refine RO.exit ?_ | with_reducible refine RO.ret ?_ | ((with_reducible refine And.intro ?sc ?_); case sc => exact side) | ((with_reducible refine br_f ?sc ?_); case sc => exact sideB) | ((with_reducible refine br_t ?sc ?_); case sc => exact sideB))
        refine And.intro (fun hc => absurd (of_decide_eq_true hc) (by omega)) (fun hc => ?_)
        repeat ((conv => whnf); first | with_reducible refine O_step ?_ | with_reducible refine S_step ?_ | with_reducible refine D_step ?_ | with_reducible refine RO.exit ?_ | with_reducible refine RO.ret ?_ | ((with_reducible refine And.intro ?sc ?_); case sc => exact side) | ((with_reducible refine br_f ?sc ?_); case sc => exact sideB) | ((with_reducible refine br_t ?sc ?_); case sc => exact sideB))
        refine And.intro (fun hc => absurd (of_decide_eq_true hc) (by omega)) (fun hc => ?_)
        repeat ((conv => whnf); first | with_reducible refine O_step ?_ | with_reducible refine S_step ?_ | with_reducible refine D_step ?_ | with_reducible refine RO.exit ?_ | with_reducible refine RO.ret ?_ | ((with_reducible refine And.intro ?sc ?_); case sc => exact side) | ((with_reducible refine br_f ?sc ?_); case sc => exact sideB) | ((with_reducible refine br_t ?sc ?_); case sc => exact sideB))
        refine And.intro (fun hc => absurd (of_decide_eq_true hc) (by omega)) (fun hc => ?_)
        repeat ((conv => whnf); first | with_reducible refine O_step ?_ | with_reducible refine S_step ?_ | with_reducible refine D_step ?_ | with_reducible refine RO.exit ?_ | with_reducible refine RO.ret ?_ | ((with_reducible refine And.intro ?sc ?_); case sc => exact side) | ((with_reducible refine br_f ?sc ?_); case sc => exact sideB) | ((with_reducible refine br_t ?sc ?_); case sc => exact sideB))
        have hsz := bodyF_len m
        rw [e] at hsz
        simp at hsz
        refine br_t (decide_eq_true (by rw [wireF_len]; first | omega | simp [hsz])) ?_
        repeat ((conv => whnf); first | with_reducible refine O_step ?_ | with_reducible refine S_step ?_ | with_reducible refine D_step ?_ | with_reducible refine RO.exit ?_ | with_reducible refine RO.ret ?_ | ((with_reducible refine And.intro ?sc ?_); case sc => exact side) | ((with_reducible refine br_f ?sc ?_); case sc => exact sideB) | ((with_reducible refine br_t ?sc ?_); case sc => exact sideB))
        intro zs hzs
        obtain rfl : zs = wireF m := by rw [hzs]; exact List.take_length
        repeat ((conv => whnf); first | with_reducible refine O_step ?_ | with_reducible refine S_step ?_ | with_reducible refine D_step ?_ | with_reducible refine RO.exit ?_ | with_reducible refine RO.ret ?_ | ((with_reducible refine And.intro ?sc ?_); case sc => exact side) | ((with_reducible refine br_f ?sc ?_); case sc => exact sideB) | ((with_reducible refine br_t ?sc ?_); case sc => exact sideB))
        intro zs hzs
        obtain rfl : zs = wireF q := by rw [hzs]; exact List.take_length
        repeat ((conv => whnf); first | with_reducible refine O_step ?_ | with_reducible refine S_step ?_ | with_reducible refine D_step ?_ | with_reducible refine RO.exit ?_ | with_reducible refine RO.ret ?_ | ((with_reducible refine And.intro ?sc ?_); case sc => exact side) | ((with_reducible refine br_f ?sc ?_); case sc => exact sideB) | ((with_reducible refine br_t ?sc ?_); case sc => exact sideB))
        refine sameR_at (a := m) (b := q) (i0 := 0) (g0 := 0) (c0 := cS) (i1 := 1) (g1 := 0) (c1 := cB) (i2 := 2) (g2 := 0) (c2 := dS) (i3 := 3) (g3 := 0) (c3 := dB) rfl rfl rfl rfl o oq ⟨by omega, by omega⟩ ⟨by omega, by omega⟩ ?_
        rw [str_eq hin hin', heq]
        repeat ((conv => whnf); first | with_reducible refine O_step ?_ | with_reducible refine S_step ?_ | with_reducible refine D_step ?_ | with_reducible refine RO.exit ?_ | with_reducible refine RO.ret ?_ | ((with_reducible refine And.intro ?sc ?_); case sc => exact side) | ((with_reducible refine br_f ?sc ?_); case sc => exact sideB) | ((with_reducible refine br_t ?sc ?_); case sc => exact sideB))
        refine writes_at ?_
        repeat ((conv => whnf); first | with_reducible refine O_step ?_ | with_reducible refine S_step ?_ | with_reducible refine D_step ?_ | with_reducible refine RO.exit ?_ | with_reducible refine RO.ret ?_ | ((with_reducible refine And.intro ?sc ?_); case sc => exact side) | ((with_reducible refine br_f ?sc ?_); case sc => exact sideB) | ((with_reducible refine br_t ?sc ?_); case sc => exact sideB))
        rfl
    · rw [he]
      repeat ((conv => whnf); first | with_reducible refine O_step ?_ | with_reducible refine S_step ?_ | with_reducible refine D_step ?_ | with_reducible refine RO.exit ?_ | with_reducible refine RO.ret ?_ | ((with_reducible refine And.intro ?sc ?_); case sc => exact side) | ((with_reducible refine br_f ?sc ?_); case sc => exact sideB) | ((with_reducible refine br_t ?sc ?_); case sc => exact sideB))
      refine And.intro (fun hc => ?_) (fun hc => absurd (by simpa using hc) he')
      repeat ((conv => whnf); first | with_reducible refine O_step ?_ | with_reducible refine S_step ?_ | with_reducible refine D_step ?_ | with_reducible refine RO.exit ?_ | with_reducible refine RO.ret ?_ | ((with_reducible refine And.intro ?sc ?_); case sc => exact side) | ((with_reducible refine br_f ?sc ?_); case sc => exact sideB) | ((with_reducible refine br_t ?sc ?_); case sc => exact sideB))
      refine writes_at ?_
      repeat ((conv => whnf); first | with_reducible refine O_step ?_ | with_reducible refine S_step ?_ | with_reducible refine D_step ?_ | with_reducible refine RO.exit ?_ | with_reducible refine RO.ret ?_ | ((with_reducible refine And.intro ?sc ?_); case sc => exact side) | ((with_reducible refine br_f ?sc ?_); case sc => exact sideB) | ((with_reducible refine br_t ?sc ?_); case sc => exact sideB))
      rfl
  · repeat ((conv => whnf); first | with_reducible refine O_step ?_ | with_reducible refine S_step ?_ | with_reducible refine D_step ?_ | with_reducible refine RO.exit ?_ | with_reducible refine RO.ret ?_ | ((with_reducible refine And.intro ?sc ?_); case sc => exact side) | ((with_reducible refine br_f ?sc ?_); case sc => exact sideB) | ((with_reducible refine br_t ?sc ?_); case sc => exact sideB))
    refine And.intro (fun hc => ?_) (fun hc => absurd (by simpa using hc) he)
    repeat ((conv => whnf); first | with_reducible refine O_step ?_ | with_reducible refine S_step ?_ | with_reducible refine D_step ?_ | with_reducible refine RO.exit ?_ | with_reducible refine RO.ret ?_ | ((with_reducible refine And.intro ?sc ?_); case sc => exact side) | ((with_reducible refine br_f ?sc ?_); case sc => exact sideB) | ((with_reducible refine br_t ?sc ?_); case sc => exact sideB))
    refine writes_at ?_
    repeat ((conv => whnf); first | with_reducible refine O_step ?_ | with_reducible refine S_step ?_ | with_reducible refine D_step ?_ | with_reducible refine RO.exit ?_ | with_reducible refine RO.ret ?_ | ((with_reducible refine And.intro ?sc ?_); case sc => exact side) | ((with_reducible refine br_f ?sc ?_); case sc => exact sideB) | ((with_reducible refine br_t ?sc ?_); case sc => exact sideB))
    rfl
end

theorem messageApart_law (ty : Int) (k_ty : IntKind.u8.min ≤ ty ∧ ty ≤ IntKind.u8.max) (life : Int) (k_life : IntKind.u32.min ≤ life ∧ life ≤ IntKind.u32.max) (frame : Int) (k_frame : IntKind.u32.min ≤ frame ∧ frame ≤ IntKind.u32.max) (base : Int) (k_base : IntKind.u32.min ≤ base ∧ base ≤ IntKind.u32.max) (has : Bool) (full : Bool) (w : Int) (k_w : IntKind.u16.min ≤ w ∧ w ≤ IntKind.u16.max) (h : Int) (k_h : IntKind.u16.min ≤ h ∧ h ≤ IntKind.u16.max) (sums : List Int) (c_sums : Nat) (k_sums : sums.length ≤ c_sums ∧ c_sums ≤ 9223372036854775807) (l_sums : ∀ x ∈ sums, IntKind.u32.min ≤ x ∧ x ≤ IntKind.u32.max) (seq : Int) (k_seq : IntKind.u32.min ≤ seq ∧ seq ≤ IntKind.u32.max) (kind : Int) (k_kind : IntKind.u8.min ≤ kind ∧ kind ≤ IntKind.u8.max) (ex : Int) (k_ex : IntKind.u16.min ≤ ex ∧ ex ≤ IntKind.u16.max) (ey : Int) (k_ey : IntKind.u16.min ≤ ey ∧ ey ≤ IntKind.u16.max) (code : Int) (k_code : IntKind.u32.min ≤ code ∧ code ≤ IntKind.u32.max) (body : List Int) (c_body : Nat) (k_body : body.length ≤ c_body ∧ c_body ≤ 9223372036854775807) (l_body : ∀ x ∈ body, IntKind.u8.min ≤ x ∧ x ≤ IntKind.u8.max) (ty' : Int) (k_ty' : IntKind.u8.min ≤ ty' ∧ ty' ≤ IntKind.u8.max) (life' : Int) (k_life' : IntKind.u32.min ≤ life' ∧ life' ≤ IntKind.u32.max) (frame' : Int) (k_frame' : IntKind.u32.min ≤ frame' ∧ frame' ≤ IntKind.u32.max) (base' : Int) (k_base' : IntKind.u32.min ≤ base' ∧ base' ≤ IntKind.u32.max) (has' : Bool) (full' : Bool) (w' : Int) (k_w' : IntKind.u16.min ≤ w' ∧ w' ≤ IntKind.u16.max) (h' : Int) (k_h' : IntKind.u16.min ≤ h' ∧ h' ≤ IntKind.u16.max) (sums' : List Int) (c_sums' : Nat) (k_sums' : sums'.length ≤ c_sums' ∧ c_sums' ≤ 9223372036854775807) (l_sums' : ∀ x ∈ sums', IntKind.u32.min ≤ x ∧ x ≤ IntKind.u32.max) (seq' : Int) (k_seq' : IntKind.u32.min ≤ seq' ∧ seq' ≤ IntKind.u32.max) (kind' : Int) (k_kind' : IntKind.u8.min ≤ kind' ∧ kind' ≤ IntKind.u8.max) (ex' : Int) (k_ex' : IntKind.u16.min ≤ ex' ∧ ex' ≤ IntKind.u16.max) (ey' : Int) (k_ey' : IntKind.u16.min ≤ ey' ∧ ey' ≤ IntKind.u16.max) (code' : Int) (k_code' : IntKind.u32.min ≤ code' ∧ code' ≤ IntKind.u32.max) (body' : List Int) (c_body' : Nat) (k_body' : body'.length ≤ c_body' ∧ c_body' ≤ 9223372036854775807) (l_body' : ∀ x ∈ body', IntKind.u8.min ≤ x ∧ x ≤ IntKind.u8.max) :
    CallA Try.prog 9 [.agg [.int .u8 ty, .int .u32 life, .int .u32 frame, .int .u32 base, .bo has, .bo full, .int .u16 w, .int .u16 h, .sl 0 0 0 sums.length c_sums, .int .u32 seq, .int .u8 kind, .int .u16 ex, .int .u16 ey, .int .u32 code, .sl 1 0 0 body.length c_body], .agg [.int .u8 ty', .int .u32 life', .int .u32 frame', .int .u32 base', .bo has', .bo full', .int .u16 w', .int .u16 h', .sl 2 0 0 sums'.length c_sums', .int .u32 seq', .int .u8 kind', .int .u16 ex', .int .u16 ey', .int .u32 code', .sl 3 0 0 body'.length c_body']] [.one false 0 (.ints .u32 sums c_sums), .one false 0 (.ints .u8 body c_body), .one false 0 (.ints .u32 sums' c_sums'), .one false 0 (.ints .u8 body' c_body')] (fun r _ => r = .bo true) (fun _ _ => False) :=
  mApart_call (m := ⟨ty, life, frame, base, has, full, w, h, sums, seq, kind, ex, ey, code, body⟩) (q := ⟨ty', life', frame', base', has', full', w', h', sums', seq', kind', ex', ey', code', body'⟩) ⟨⟨k_ty.1, Int.lt_of_le_of_lt (show ty ≤ 255 from k_ty.2) (by decide)⟩, ⟨k_life.1, Int.lt_of_le_of_lt (show life ≤ 4294967295 from k_life.2) (by decide)⟩, ⟨k_frame.1, Int.lt_of_le_of_lt (show frame ≤ 4294967295 from k_frame.2) (by decide)⟩, ⟨k_base.1, Int.lt_of_le_of_lt (show base ≤ 4294967295 from k_base.2) (by decide)⟩, ⟨k_w.1, Int.lt_of_le_of_lt (show w ≤ 65535 from k_w.2) (by decide)⟩, ⟨k_h.1, Int.lt_of_le_of_lt (show h ≤ 65535 from k_h.2) (by decide)⟩, (fun x hx => ⟨(l_sums x hx).1, Int.lt_of_le_of_lt (show x ≤ 4294967295 from (l_sums x hx).2) (by decide)⟩), ⟨k_seq.1, Int.lt_of_le_of_lt (show seq ≤ 4294967295 from k_seq.2) (by decide)⟩, ⟨k_kind.1, Int.lt_of_le_of_lt (show kind ≤ 255 from k_kind.2) (by decide)⟩, ⟨k_ex.1, Int.lt_of_le_of_lt (show ex ≤ 65535 from k_ex.2) (by decide)⟩, ⟨k_ey.1, Int.lt_of_le_of_lt (show ey ≤ 65535 from k_ey.2) (by decide)⟩, ⟨k_code.1, Int.lt_of_le_of_lt (show code ≤ 4294967295 from k_code.2) (by decide)⟩, (fun x hx => ⟨(l_body x hx).1, Int.lt_of_le_of_lt (show x ≤ 255 from (l_body x hx).2) (by decide)⟩)⟩ ⟨⟨k_ty'.1, Int.lt_of_le_of_lt (show ty' ≤ 255 from k_ty'.2) (by decide)⟩, ⟨k_life'.1, Int.lt_of_le_of_lt (show life' ≤ 4294967295 from k_life'.2) (by decide)⟩, ⟨k_frame'.1, Int.lt_of_le_of_lt (show frame' ≤ 4294967295 from k_frame'.2) (by decide)⟩, ⟨k_base'.1, Int.lt_of_le_of_lt (show base' ≤ 4294967295 from k_base'.2) (by decide)⟩, ⟨k_w'.1, Int.lt_of_le_of_lt (show w' ≤ 65535 from k_w'.2) (by decide)⟩, ⟨k_h'.1, Int.lt_of_le_of_lt (show h' ≤ 65535 from k_h'.2) (by decide)⟩, (fun x hx => ⟨(l_sums' x hx).1, Int.lt_of_le_of_lt (show x ≤ 4294967295 from (l_sums' x hx).2) (by decide)⟩), ⟨k_seq'.1, Int.lt_of_le_of_lt (show seq' ≤ 4294967295 from k_seq'.2) (by decide)⟩, ⟨k_kind'.1, Int.lt_of_le_of_lt (show kind' ≤ 255 from k_kind'.2) (by decide)⟩, ⟨k_ex'.1, Int.lt_of_le_of_lt (show ex' ≤ 65535 from k_ex'.2) (by decide)⟩, ⟨k_ey'.1, Int.lt_of_le_of_lt (show ey' ≤ 65535 from k_ey'.2) (by decide)⟩, ⟨k_code'.1, Int.lt_of_le_of_lt (show code' ≤ 4294967295 from k_code'.2) (by decide)⟩, (fun x hx => ⟨(l_body' x hx).1, Int.lt_of_le_of_lt (show x ≤ 255 from (l_body' x hx).2) (by decide)⟩)⟩ k_sums.1 k_body.1 k_sums'.1 k_body'.1
end Go.Proofs.Ytedlpkibdjccdaa
