/- vignetteref23.Of. -/
import Derived.Test.YtedlpkibdjccdaaN1

set_option linter.unusedVariables false

set_option linter.unusedSimpArgs false

open Go.RowKit

namespace Go.Proofs.Ytedlpkibdjccdaa

set_option maxRecDepth 10000

section

variable {K Kp : AV → AH → Prop}

theorem of_end {m x : Msg} {cS cB : Nat} {E : AH} {hv fv sv dv : AV} (h : ∀ sv dv, OfV m (.sl 0 0 0 m.sums.length cS) (.sl 1 0 0 m.body.length cB) sv dv → K (ofV m sv dv) [.one false 0 (.ints .u32 m.sums cS), .one false 0 (.ints .u8 m.body cB)]) (eo : ofM m = x)
    (k3 : isB hv x.has) (k4 : isB fv x.full) (kv : OfV m (.sl 0 0 0 m.sums.length cS) (.sl 1 0 0 m.body.length cB) sv dv) :
    ∃ r' M'', Vw (.one false 0 (.ints .u32 m.sums cS) :: .one false 0 (.ints .u8 m.body cB) :: E) M'' [.agg (msL hv fv sv dv x)] [r'] ∧ ∃ t r'' N, PickA 2 r' M'' t r'' N ∧ K r'' N := by
  subst eo
  refine ⟨_, _, Vw.canon (x := .ints .u8 [] 0) (l' := [ofV m sv dv]) ⟨rfl, rfl⟩ (cnL_cons (cnV_agg (msL_cn (cnV_isB k3) (cnV_isB k4) (cnV_refl _ _) (cnV_refl _ _))) (cnL_nil _)), ?_⟩
  refine pick2 (E := E ++ [.one true 0 (.ints .u8 [] 0)]) ?_ (h _ _ kv)
  cases kv <;> rfl
theorem ofR_call {m : Msg} {cS cB : Nat} (o : okM m) (h : ∀ sv dv, OfV m (.sl 0 0 0 m.sums.length cS) (.sl 1 0 0 m.body.length cB) sv dv → K (ofV m sv dv) [.one false 0 (.ints .u32 m.sums cS), .one false 0 (.ints .u8 m.body cB)]) :
    CallA Try.prog 17 [mV m 0 0 cS 1 0 cB] [.one false 0 (.ints .u32 m.sums cS), .one false 0 (.ints .u8 m.body cB)] K Kp := by
  have ht := o.ty
  refine CallA.post_pick ?_
  refine CallA.post_view ?_
  obtain e | e | e | e | e | e : m.ty = 1 ∨ m.ty = 2 ∨ m.ty = 4 ∨ m.ty = 5 ∨ m.ty = 6 ∨ (m.ty ≠ 1 ∧ m.ty ≠ 2 ∧ m.ty ≠ 4 ∧ m.ty ≠ 5 ∧ m.ty ≠ 6) := by omega
  · refine step17 (fun _ => [2, 3, 4]) [] rfl ?_
    repeat ((conv => whnf); first | with_reducible refine O_step ?_ | with_reducible refine S_step ?_ | with_reducible refine D_step ?_ | with_reducible refine RO.exit ?_ | with_reducible refine RO.ret ?_ | ((with_reducible refine And.intro ?sc ?_); case sc => exact side) | ((with_reducible refine br_f ?sc ?_); case sc => exact sideB) | ((with_reducible refine br_t ?sc ?_); case sc => exact sideB))
    refine And.intro (fun hc => ?_) (fun hc => absurd (of_decide_eq_false hc) (by simpa using e))
    repeat ((conv => whnf); first | with_reducible refine O_step ?_ | with_reducible refine S_step ?_ | with_reducible refine D_step ?_ | with_reducible refine RO.exit ?_ | with_reducible refine RO.ret ?_ | ((with_reducible refine And.intro ?sc ?_); case sc => exact side) | ((with_reducible refine br_f ?sc ?_); case sc => exact sideB) | ((with_reducible refine br_t ?sc ?_); case sc => exact sideB))
    have eo : ofM m = {zeroM m.ty with life := m.life, has := m.has, frame := m.frame, sums := m.sums} := by simp [ofM, e]
    exact of_end h eo (.inl rfl) (.inr (.inl ⟨rfl, rfl⟩)) (.S (by rw [eo]) (by rw [eo]; rfl))
  · refine step17 (fun _ => [2, 3, 4]) [] rfl ?_
    repeat ((conv => whnf); first | with_reducible refine O_step ?_ | with_reducible refine S_step ?_ | with_reducible refine D_step ?_ | with_reducible refine RO.exit ?_ | with_reducible refine RO.ret ?_ | ((with_reducible refine And.intro ?sc ?_); case sc => exact side) | ((with_reducible refine br_f ?sc ?_); case sc => exact sideB) | ((with_reducible refine br_t ?sc ?_); case sc => exact sideB))
    refine And.intro (fun hc => absurd (of_decide_eq_true hc) (by omega)) (fun hc => ?_)
    repeat ((conv => whnf); first | with_reducible refine O_step ?_ | with_reducible refine S_step ?_ | with_reducible refine D_step ?_ | with_reducible refine RO.exit ?_ | with_reducible refine RO.ret ?_ | ((with_reducible refine And.intro ?sc ?_); case sc => exact side) | ((with_reducible refine br_f ?sc ?_); case sc => exact sideB) | ((with_reducible refine br_t ?sc ?_); case sc => exact sideB))
    refine And.intro (fun hc => ?_) (fun hc => absurd (of_decide_eq_false hc) (by simpa using e))
    repeat ((conv => whnf); first | with_reducible refine O_step ?_ | with_reducible refine S_step ?_ | with_reducible refine D_step ?_ | with_reducible refine RO.exit ?_ | with_reducible refine RO.ret ?_ | ((with_reducible refine And.intro ?sc ?_); case sc => exact side) | ((with_reducible refine br_f ?sc ?_); case sc => exact sideB) | ((with_reducible refine br_t ?sc ?_); case sc => exact sideB))
    have eo : ofM m = {zeroM m.ty with life := m.life, w := m.w, h := m.h, seq := m.seq} := by simp [ofM, e]
    exact of_end h eo (.inr (.inl ⟨rfl, rfl⟩)) (.inr (.inl ⟨rfl, rfl⟩)) (.N (by rw [eo]; rfl) (by rw [eo]; rfl))
  · refine step17 (fun _ => [2, 3, 4]) [] rfl ?_
    repeat ((conv => whnf); first | with_reducible refine O_step ?_ | with_reducible refine S_step ?_ | with_reducible refine D_step ?_ | with_reducible refine RO.exit ?_ | with_reducible refine RO.ret ?_ | ((with_reducible refine And.intro ?sc ?_); case sc => exact side) | ((with_reducible refine br_f ?sc ?_); case sc => exact sideB) | ((with_reducible refine br_t ?sc ?_); case sc => exact sideB))
    refine And.intro (fun hc => absurd (of_decide_eq_true hc) (by omega)) (fun hc => ?_)
    repeat ((conv => whnf); first | with_reducible refine O_step ?_ | with_reducible refine S_step ?_ | with_reducible refine D_step ?_ | with_reducible refine RO.exit ?_ | with_reducible refine RO.ret ?_ | ((with_reducible refine And.intro ?sc ?_); case sc => exact side) | ((with_reducible refine br_f ?sc ?_); case sc => exact sideB) | ((with_reducible refine br_t ?sc ?_); case sc => exact sideB))
    refine And.intro (fun hc => absurd (of_decide_eq_true hc) (by omega)) (fun hc => ?_)
    repeat ((conv => whnf); first | with_reducible refine O_step ?_ | with_reducible refine S_step ?_ | with_reducible refine D_step ?_ | with_reducible refine RO.exit ?_ | with_reducible refine RO.ret ?_ | ((with_reducible refine And.intro ?sc ?_); case sc => exact side) | ((with_reducible refine br_f ?sc ?_); case sc => exact sideB) | ((with_reducible refine br_t ?sc ?_); case sc => exact sideB))
    refine And.intro (fun hc => ?_) (fun hc => absurd (of_decide_eq_false hc) (by simpa using e))
    repeat ((conv => whnf); first | with_reducible refine O_step ?_ | with_reducible refine S_step ?_ | with_reducible refine D_step ?_ | with_reducible refine RO.exit ?_ | with_reducible refine RO.ret ?_ | ((with_reducible refine And.intro ?sc ?_); case sc => exact side) | ((with_reducible refine br_f ?sc ?_); case sc => exact sideB) | ((with_reducible refine br_t ?sc ?_); case sc => exact sideB))
    have eo : ofM m = {zeroM m.ty with base := m.base, frame := m.frame, full := m.full, body := m.body} := by simp [ofM, e]
    exact of_end h eo (.inr (.inl ⟨rfl, rfl⟩)) (.inl rfl) (.B (by rw [eo]; rfl) (by rw [eo]))
  · refine step17 (fun _ => [2, 3, 4]) [] rfl ?_
    repeat ((conv => whnf); first | with_reducible refine O_step ?_ | with_reducible refine S_step ?_ | with_reducible refine D_step ?_ | with_reducible refine RO.exit ?_ | with_reducible refine RO.ret ?_ | ((with_reducible refine And.intro ?sc ?_); case sc => exact side) | ((with_reducible refine br_f ?sc ?_); case sc => exact sideB) | ((with_reducible refine br_t ?sc ?_); case sc => exact sideB))
    refine And.intro (fun hc => absurd (of_decide_eq_true hc) (by omega)) (fun hc => ?_)
    repeat ((conv => whnf); first | with_reducible refine O_step ?_ | with_reducible refine S_step ?_ | with_reducible refine D_step ?_ | with_reducible refine RO.exit ?_ | with_reducible refine RO.ret ?_ | ((with_reducible refine And.intro ?sc ?_); case sc => exact side) | ((with_reducible refine br_f ?sc ?_); case sc => exact sideB) | ((with_reducible refine br_t ?sc ?_); case sc => exact sideB))
    refine And.intro (fun hc => absurd (of_decide_eq_true hc) (by omega)) (fun hc => ?_)
    repeat ((conv => whnf); first | with_reducible refine O_step ?_ | with_reducible refine S_step ?_ | with_reducible refine D_step ?_ | with_reducible refine RO.exit ?_ | with_reducible refine RO.ret ?_ | ((with_reducible refine And.intro ?sc ?_); case sc => exact side) | ((with_reducible refine br_f ?sc ?_); case sc => exact sideB) | ((with_reducible refine br_t ?sc ?_); case sc => exact sideB))
    refine And.intro (fun hc => absurd (of_decide_eq_true hc) (by omega)) (fun hc => ?_)
    repeat ((conv => whnf); first | with_reducible refine O_step ?_ | with_reducible refine S_step ?_ | with_reducible refine D_step ?_ | with_reducible refine RO.exit ?_ | with_reducible refine RO.ret ?_ | ((with_reducible refine And.intro ?sc ?_); case sc => exact side) | ((with_reducible refine br_f ?sc ?_); case sc => exact sideB) | ((with_reducible refine br_t ?sc ?_); case sc => exact sideB))
    refine And.intro (fun hc => ?_) (fun hc => absurd (of_decide_eq_false hc) (by simpa using e))
    repeat ((conv => whnf); first | with_reducible refine O_step ?_ | with_reducible refine S_step ?_ | with_reducible refine D_step ?_ | with_reducible refine RO.exit ?_ | with_reducible refine RO.ret ?_ | ((with_reducible refine And.intro ?sc ?_); case sc => exact side) | ((with_reducible refine br_f ?sc ?_); case sc => exact sideB) | ((with_reducible refine br_t ?sc ?_); case sc => exact sideB))
    have eo : ofM m = {zeroM m.ty with seq := m.seq, kind := m.kind, ex := m.ex, ey := m.ey, code := m.code} := by simp [ofM, e]
    exact of_end h eo (.inr (.inl ⟨rfl, rfl⟩)) (.inr (.inl ⟨rfl, rfl⟩)) (.N (by rw [eo]; rfl) (by rw [eo]; rfl))
  · refine step17 (fun _ => [2, 3, 4]) [] rfl ?_
    repeat ((conv => whnf); first | with_reducible refine O_step ?_ | with_reducible refine S_step ?_ | with_reducible refine D_step ?_ | with_reducible refine RO.exit ?_ | with_reducible refine RO.ret ?_ | ((with_reducible refine And.intro ?sc ?_); case sc => exact side) | ((with_reducible refine br_f ?sc ?_); case sc => exact sideB) | ((with_reducible refine br_t ?sc ?_); case sc => exact sideB))
    refine And.intro (fun hc => absurd (of_decide_eq_true hc) (by omega)) (fun hc => ?_)
    repeat ((conv => whnf); first | with_reducible refine O_step ?_ | with_reducible refine S_step ?_ | with_reducible refine D_step ?_ | with_reducible refine RO.exit ?_ | with_reducible refine RO.ret ?_ | ((with_reducible refine And.intro ?sc ?_); case sc => exact side) | ((with_reducible refine br_f ?sc ?_); case sc => exact sideB) | ((with_reducible refine br_t ?sc ?_); case sc => exact sideB))
    refine And.intro (fun hc => absurd (of_decide_eq_true hc) (by omega)) (fun hc => ?_)
    repeat ((conv => whnf); first | with_reducible refine O_step ?_ | with_reducible refine S_step ?_ | with_reducible refine D_step ?_ | with_reducible refine RO.exit ?_ | with_reducible refine RO.ret ?_ | ((with_reducible refine And.intro ?sc ?_); case sc => exact side) | ((with_reducible refine br_f ?sc ?_); case sc => exact sideB) | ((with_reducible refine br_t ?sc ?_); case sc => exact sideB))
    refine And.intro (fun hc => absurd (of_decide_eq_true hc) (by omega)) (fun hc => ?_)
    repeat ((conv => whnf); first | with_reducible refine O_step ?_ | with_reducible refine S_step ?_ | with_reducible refine D_step ?_ | with_reducible refine RO.exit ?_ | with_reducible refine RO.ret ?_ | ((with_reducible refine And.intro ?sc ?_); case sc => exact side) | ((with_reducible refine br_f ?sc ?_); case sc => exact sideB) | ((with_reducible refine br_t ?sc ?_); case sc => exact sideB))
    refine And.intro (fun hc => absurd (of_decide_eq_true hc) (by omega)) (fun hc => ?_)
    repeat ((conv => whnf); first | with_reducible refine O_step ?_ | with_reducible refine S_step ?_ | with_reducible refine D_step ?_ | with_reducible refine RO.exit ?_ | with_reducible refine RO.ret ?_ | ((with_reducible refine And.intro ?sc ?_); case sc => exact side) | ((with_reducible refine br_f ?sc ?_); case sc => exact sideB) | ((with_reducible refine br_t ?sc ?_); case sc => exact sideB))
    refine And.intro (fun hc => ?_) (fun hc => absurd (of_decide_eq_false hc) (by simpa using e))
    repeat ((conv => whnf); first | with_reducible refine O_step ?_ | with_reducible refine S_step ?_ | with_reducible refine D_step ?_ | with_reducible refine RO.exit ?_ | with_reducible refine RO.ret ?_ | ((with_reducible refine And.intro ?sc ?_); case sc => exact side) | ((with_reducible refine br_f ?sc ?_); case sc => exact sideB) | ((with_reducible refine br_t ?sc ?_); case sc => exact sideB))
    have eo : ofM m = {zeroM m.ty with seq := m.seq} := by simp [ofM, e]
    exact of_end h eo (.inr (.inl ⟨rfl, rfl⟩)) (.inr (.inl ⟨rfl, rfl⟩)) (.N (by rw [eo]; rfl) (by rw [eo]; rfl))
  · refine step17 (fun _ => [2, 3, 4]) [] rfl ?_
    repeat ((conv => whnf); first | with_reducible refine O_step ?_ | with_reducible refine S_step ?_ | with_reducible refine D_step ?_ | with_reducible refine RO.exit ?_ | with_reducible refine RO.ret ?_ | ((with_reducible refine And.intro ?sc ?_); case sc => exact side) | ((with_reducible refine br_f ?sc ?_); case sc => exact sideB) | ((with_reducible refine br_t ?sc ?_); case sc => exact sideB))
    refine And.intro (fun hc => absurd (of_decide_eq_true hc) (by omega)) (fun hc => ?_)
    repeat ((conv => whnf); first | with_reducible refine O_step ?_ | with_reducible refine S_step ?_ | with_reducible refine D_step ?_ | with_reducible refine RO.exit ?_ | with_reducible refine RO.ret ?_ | ((with_reducible refine And.intro ?sc ?_); case sc => exact side) | ((with_reducible refine br_f ?sc ?_); case sc => exact sideB) | ((with_reducible refine br_t ?sc ?_); case sc => exact sideB))
    refine And.intro (fun hc => absurd (of_decide_eq_true hc) (by omega)) (fun hc => ?_)
    repeat ((conv => whnf); first | with_reducible refine O_step ?_ | with_reducible refine S_step ?_ | with_reducible refine D_step ?_ | with_reducible refine RO.exit ?_ | with_reducible refine RO.ret ?_ | ((with_reducible refine And.intro ?sc ?_); case sc => exact side) | ((with_reducible refine br_f ?sc ?_); case sc => exact sideB) | ((with_reducible refine br_t ?sc ?_); case sc => exact sideB))
    refine And.intro (fun hc => absurd (of_decide_eq_true hc) (by omega)) (fun hc => ?_)
    repeat ((conv => whnf); first | with_reducible refine O_step ?_ | with_reducible refine S_step ?_ | with_reducible refine D_step ?_ | with_reducible refine RO.exit ?_ | with_reducible refine RO.ret ?_ | ((with_reducible refine And.intro ?sc ?_); case sc => exact side) | ((with_reducible refine br_f ?sc ?_); case sc => exact sideB) | ((with_reducible refine br_t ?sc ?_); case sc => exact sideB))
    refine And.intro (fun hc => absurd (of_decide_eq_true hc) (by omega)) (fun hc => ?_)
    repeat ((conv => whnf); first | with_reducible refine O_step ?_ | with_reducible refine S_step ?_ | with_reducible refine D_step ?_ | with_reducible refine RO.exit ?_ | with_reducible refine RO.ret ?_ | ((with_reducible refine And.intro ?sc ?_); case sc => exact side) | ((with_reducible refine br_f ?sc ?_); case sc => exact sideB) | ((with_reducible refine br_t ?sc ?_); case sc => exact sideB))
    refine And.intro (fun hc => absurd (of_decide_eq_true hc) (by omega)) (fun hc => ?_)
    repeat ((conv => whnf); first | with_reducible refine O_step ?_ | with_reducible refine S_step ?_ | with_reducible refine D_step ?_ | with_reducible refine RO.exit ?_ | with_reducible refine RO.ret ?_ | ((with_reducible refine And.intro ?sc ?_); case sc => exact side) | ((with_reducible refine br_f ?sc ?_); case sc => exact sideB) | ((with_reducible refine br_t ?sc ?_); case sc => exact sideB))
    have eo : ofM m = zeroM m.ty := by simp [ofM, e]
    exact of_end h eo (.inr (.inl ⟨rfl, rfl⟩)) (.inr (.inl ⟨rfl, rfl⟩)) (.N (by rw [eo]; rfl) (by rw [eo]; rfl))
theorem ofR_at {M : AH} {m : Msg} {i gi cS j gj cB : Nat} {o1 o2 : Bool} (hi : slot M i gi = some (o1, .ints .u32 m.sums cS)) (hj : slot M j gj = some (o2, .ints .u8 m.body cB)) (o : okM m)
    (h : ∀ sv dv, OfV m (.sl i gi 0 m.sums.length cS) (.sl j gj 0 m.body.length cB) sv dv → K (ofV m sv dv) M) :
    CallA Try.prog 17 [mV m i gi cS j gj cB] M K Kp := by
  refine CallA.lift [.win i gi 0, .win j gj 0] (ofR_call (Kp := fun _ _ => False) (K := fun r M' => ∃ sv dv, OfV m (.sl 0 0 0 m.sums.length cS) (.sl 1 0 0 m.body.length cB) sv dv ∧ r = ofV m sv dv ∧ M' = [.one false 0 (.ints .u32 m.sums cS), .one false 0 (.ints .u8 m.body cB)]) o (fun sv dv k => ⟨sv, dv, k, rfl, rfl⟩)) rfl rfl ⟨⟨_, _, _, rfl, hi, winI0⟩, ⟨_, _, _, rfl, hj, winI0⟩, trivial⟩ ⟨trivial, trivial, trivial⟩ ?_ (fun _ _ h => h.elim)
  rintro r M' ⟨sv, dv, k, rfl, rfl⟩
  refine ⟨⟨rfl, rfl, rfl⟩, ?_⟩
  show K _ (M ++ [])
  rw [List.append_nil]
  cases k with
  | N e1 e2 => exact h _ _ (.N e1 e2)
  | S e1 e2 => exact h _ _ (.S e1 e2)
  | B e1 e2 => exact h _ _ (.B e1 e2)
end

end Go.Proofs.Ytedlpkibdjccdaa
