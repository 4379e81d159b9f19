/- Layer 8: must, number, come. -/
import Derived.Test.YteinenklppbjkaaZ0

import Derived.Test.YteinenklppbjkaaGb

set_option linter.unusedVariables false

set_option linter.unusedSimpArgs false

open Go.RowKit

namespace Go.Proofs.Yteinenklppbjkaa

set_option maxRecDepth 10000

/-- What is panicked. -/
def faultV (e : Int) : AV := .ifc 47 (.agg [.int .i64 e])
section

variable {K Kp : AV → AH → Prop}

theorem must_call {e : Int} (h0 : e = 0 → K (.tup []) []) (h1 : e ≠ 0 → Kp (faultV e) []) : CallA Try.prog 31 [.int .i64 e] [] K Kp := by
  refine step31 (fun _ => []) [] rfl ?_
  repeat ((conv => whnf); first | with_reducible refine O_step ?_ | with_reducible refine S_step ?_ | with_reducible refine D_step ?_ | with_reducible refine RO.exit ?_ | with_reducible refine RO.ret ?_ | ((with_reducible refine And.intro ?sc ?_); case sc => exact side) | ((with_reducible refine br_f ?sc ?_); case sc => exact sideB) | ((with_reducible refine br_t ?sc ?_); case sc => exact sideB))
  refine And.intro (fun h => ?_) (fun h => ?_)
  · have h' : e ≠ 0 := by simpa using h
    repeat ((conv => whnf); first | with_reducible refine O_step ?_ | with_reducible refine S_step ?_ | with_reducible refine D_step ?_ | with_reducible refine RO.exit ?_ | with_reducible refine RO.ret ?_ | ((with_reducible refine And.intro ?sc ?_); case sc => exact side) | ((with_reducible refine br_f ?sc ?_); case sc => exact sideB) | ((with_reducible refine br_t ?sc ?_); case sc => exact sideB))
    exact h1 h'
  · have h' : e = 0 := by simpa using h
    repeat ((conv => whnf); first | with_reducible refine O_step ?_ | with_reducible refine S_step ?_ | with_reducible refine D_step ?_ | with_reducible refine RO.exit ?_ | with_reducible refine RO.ret ?_ | ((with_reducible refine And.intro ?sc ?_); case sc => exact side) | ((with_reducible refine br_f ?sc ?_); case sc => exact sideB) | ((with_reducible refine br_t ?sc ?_); case sc => exact sideB))
    exact h0 h'
theorem must_at {M : AH} {e : Int} (h0 : e = 0 → K (.tup []) M) (h1 : e ≠ 0 → Kp (faultV e) M) : CallA Try.prog 31 [.int .i64 e] M K Kp := by
  refine CallA.lift [] (must_call (e := e) (K := fun r M => r = .tup [] ∧ M = [] ∧ e = 0) (Kp := fun r M => r = faultV e ∧ M = [] ∧ e ≠ 0) (fun h => ⟨rfl, rfl, h⟩) (fun h => ⟨rfl, rfl, h⟩)) rfl rfl trivial trivial ?_ ?_
  · rintro r M' ⟨rfl, rfl, h⟩
    have := h0 h
    rw [← List.append_nil M] at this
    exact ⟨rfl, this⟩
  · rintro r M' ⟨rfl, rfl, h⟩
    have := h1 h
    rw [← List.append_nil M] at this
    exact ⟨rfl, this⟩
/-- The reader of streams, its bits, its bytes. -/
def zH (lim : Nat) (gb cb : Nat) (xs : List Int) (g c : Nat) (s : DS) : AH := [.one true 0 (.cells [.ptr 1 0 0, .sl 3 g 0 s.out.length c, .int .i64 (lim : Int)]), ro 2 gb cb xs s.a, rb gb cb xs, .one true g (.ints .u8 s.out c)]
variable {xs : List Int} {lim gb cb g c : Nat} {s : DS}

/-- What holds of a state. -/
structure ZOk (xs : List Int) (lim c : Nat) (s : DS) : Prop where
  xl : xs.length ≤ 1000000
  xb : ∀ x ∈ xs, 0 ≤ x ∧ x < 256
  al : s.a ≤ 8 * xs.length
  ll : lim ≤ 1000000
  ol : s.out.length ≤ lim
  oc : s.out.length ≤ c
theorem number_call {n : Nat} (ok : ZOk xs lim c s) (hn : n ≤ 16) (h0 : s.a + n ≤ (unpack xs).length → K (.int .i64 (num (((unpack xs).drop s.a).take n))) (zH lim gb cb xs g c { s with a := s.a + n }))
    (h1 : ¬ s.a + n ≤ (unpack xs).length → Kp (faultV 50) (zH lim gb cb xs g c s)) :
    CallA Try.prog 19 [.ptr 0 0 0, .int .i64 (n : Int)] (zH lim gb cb xs g c s) K Kp := by
  have hul := unpack_length xs
  have h1' := ok.xl
  have h2' := ok.al
  refine step19 (fun _ => []) [] rfl ?_
  repeat ((conv => whnf); first | with_reducible refine O_step ?_ | with_reducible refine S_step ?_ | with_reducible refine D_step ?_ | with_reducible refine RO.exit ?_ | with_reducible refine RO.ret ?_ | ((with_reducible refine And.intro ?sc ?_); case sc => exact side) | ((with_reducible refine br_f ?sc ?_); case sc => exact sideB) | ((with_reducible refine br_t ?sc ?_); case sc => exact sideB))
  by_cases hle : s.a + n ≤ (unpack xs).length
  · have hp : getF xs s.a n = (num (((unpack xs).drop s.a).take n), s.a + n, 0) := by
      unfold getF; rw [if_neg (by omega), if_neg (by omega)]; rfl
    have hb0 := num_nonneg (((unpack xs).drop s.a).take n)
    have hb1 := num_lt (((unpack xs).drop s.a).take n)
    have hb2 : num (((unpack xs).drop s.a).take n) < 65536 := by
      have h1 : (2 : Int) ^ (((unpack xs).drop s.a).take n).length ≤ 2 ^ 16 := by exact_mod_cast Nat.pow_le_pow_right (by omega) (show (((unpack xs).drop s.a).take n).length ≤ 16 by rw [List.length_take]; omega)
      have h2 : (2 : Int) ^ 16 = 65536 := by decide
      omega
    have hK := h0 hle
    refine get_at (i := 1) (j := 2) (xs := xs) (a := s.a) rfl rfl rfl (by omega) ok.al ok.xb hp ?_
    repeat ((conv => whnf); first | with_reducible refine O_step ?_ | with_reducible refine S_step ?_ | with_reducible refine D_step ?_ | with_reducible refine RO.exit ?_ | with_reducible refine RO.ret ?_ | ((with_reducible refine And.intro ?sc ?_); case sc => exact side) | ((with_reducible refine br_f ?sc ?_); case sc => exact sideB) | ((with_reducible refine br_t ?sc ?_); case sc => exact sideB))
    refine must_at (fun _ => ?_) (fun h => absurd rfl h)
    repeat ((conv => whnf); first | with_reducible refine O_step ?_ | with_reducible refine S_step ?_ | with_reducible refine D_step ?_ | with_reducible refine RO.exit ?_ | with_reducible refine RO.ret ?_ | ((with_reducible refine And.intro ?sc ?_); case sc => exact side) | ((with_reducible refine br_f ?sc ?_); case sc => exact sideB) | ((with_reducible refine br_t ?sc ?_); case sc => exact sideB))
    exact hK
  · have hp : getF xs s.a n = (0, s.a, 50) := by
      unfold getF; rw [if_neg (by omega), if_pos (by omega)]
    refine get_at (i := 1) (j := 2) (xs := xs) (a := s.a) rfl rfl rfl (by omega) ok.al ok.xb hp ?_
    repeat ((conv => whnf); first | with_reducible refine O_step ?_ | with_reducible refine S_step ?_ | with_reducible refine D_step ?_ | with_reducible refine RO.exit ?_ | with_reducible refine RO.ret ?_ | ((with_reducible refine And.intro ?sc ?_); case sc => exact side) | ((with_reducible refine br_f ?sc ?_); case sc => exact sideB) | ((with_reducible refine br_t ?sc ?_); case sc => exact sideB))
    refine must_at (fun h => absurd h (by decide)) (fun _ => ?_)
    exact h1 hle
theorem come_call {v : Int} (ok : ZOk xs lim c s) (hv : 0 ≤ v ∧ v < 256) (h0 : ∀ g' c', ¬ lim ≤ s.out.length → ZOk xs lim c' { s with out := s.out ++ [v] } → K (.tup []) (zH lim gb cb xs g' c' { s with out := s.out ++ [v] }))
    (h1 : lim ≤ s.out.length → Kp (faultV 81) (zH lim gb cb xs g c s)) :
    CallA Try.prog 32 [.ptr 0 0 0, .int .u8 v] (zH lim gb cb xs g c s) K Kp := by
  have h1' := ok.ll
  have h2' := ok.ol
  have h3' := ok.oc
  refine CallA.post_sub ?_
  refine step32 (fun _ => [0]) [] rfl ?_
  repeat ((conv => whnf); first | with_reducible refine O_step ?_ | with_reducible refine S_step ?_ | with_reducible refine D_step ?_ | with_reducible refine RO.exit ?_ | with_reducible refine RO.ret ?_ | ((with_reducible refine And.intro ?sc ?_); case sc => exact side) | ((with_reducible refine br_f ?sc ?_); case sc => exact sideB) | ((with_reducible refine br_t ?sc ?_); case sc => exact sideB))
  refine And.intro (fun h => ?_) (fun h => ?_)
  · have hl : lim ≤ s.out.length := by simp only [decide_eq_true_eq] at h; omega
    repeat ((conv => whnf); first | with_reducible refine O_step ?_ | with_reducible refine S_step ?_ | with_reducible refine D_step ?_ | with_reducible refine RO.exit ?_ | with_reducible refine RO.ret ?_ | ((with_reducible refine And.intro ?sc ?_); case sc => exact side) | ((with_reducible refine br_f ?sc ?_); case sc => exact sideB) | ((with_reducible refine br_t ?sc ?_); case sc => exact sideB))
    refine must_at (fun h => absurd h (by decide)) (fun _ => ?_)
    exact h1 hl
  · have hl : ¬ lim ≤ s.out.length := by simp only [decide_eq_false_iff_not] at h; omega
    repeat ((conv => whnf); first | with_reducible refine O_step ?_ | with_reducible refine S_step ?_ | with_reducible refine D_step ?_ | with_reducible refine RO.exit ?_ | with_reducible refine RO.ret ?_ | ((with_reducible refine And.intro ?sc ?_); case sc => exact side) | ((with_reducible refine br_f ?sc ?_); case sc => exact sideB) | ((with_reducible refine br_t ?sc ?_); case sc => exact sideB))
    intro zs hzs
    obtain rfl : zs = [v] := by rw [hzs]; rfl
    repeat ((conv => whnf); first | with_reducible refine O_step ?_ | with_reducible refine S_step ?_ | with_reducible refine D_step ?_ | with_reducible refine RO.exit ?_ | with_reducible refine RO.ret ?_ | ((with_reducible refine And.intro ?sc ?_); case sc => exact side) | ((with_reducible refine br_f ?sc ?_); case sc => exact sideB) | ((with_reducible refine br_t ?sc ?_); case sc => exact sideB))
    intro c4 hc4
    have hc4' : s.out.length + 1 ≤ c4 := hc4
    repeat ((conv => whnf); first | with_reducible refine O_step ?_ | with_reducible refine S_step ?_ | with_reducible refine D_step ?_ | with_reducible refine RO.exit ?_ | with_reducible refine RO.ret ?_ | ((with_reducible refine And.intro ?sc ?_); case sc => exact side) | ((with_reducible refine br_f ?sc ?_); case sc => exact sideB) | ((with_reducible refine br_t ?sc ?_); case sc => exact sideB))
    refine Exists.intro (zH lim gb cb xs (g + 1) c4 { s with out := s.out ++ [v] }) (And.intro (And.intro ?_ (And.intro rfl (And.intro rfl (And.intro rfl trivial)))) (And.intro ⟨rfl, rfl, trivial, trivial, trivial⟩ (And.intro rfl ?_)))
    · show AO.one true 0 (.cells [.ptr 1 0 0, .sl 3 (g + 1) 0 (s.out ++ [v]).length c4, .int .i64 (lim : Int)]) = AO.one true 0 (.cells [.ptr 1 0 0, .sl 3 (g + 1) 0 (s.out.length + 1) c4, .int .i64 (lim : Int)])
      rw [List.length_append]; rfl
    · exact h0 (g + 1) c4 hl ⟨ok.xl, ok.xb, ok.al, ok.ll, by show (s.out ++ [v]).length ≤ lim; rw [List.length_append, List.length_singleton]; omega, by show (s.out ++ [v]).length ≤ c4; rw [List.length_append]; exact hc4'⟩
end

end Go.Proofs.Yteinenklppbjkaa
