/- vignetteref23.form (written by wip/n6.py). -/
import Derived.Test.YtedlpkibdjccdaaMs

import Derived.Test.YtedlpkibdjccdaaN1

set_option linter.unusedVariables false

set_option linter.unusedSimpArgs false

open Go.RowKit

namespace Go.Proofs.Ytedlpkibdjccdaa

set_option maxRecDepth 10000

section

variable {K Kp : AV → AH → Prop} {ty : Int} {l : List Int} {c : Nat}

/-- What form answers. -/
abbrev foV (m : Msg) (gS cS gD cD : Nat) (b : Bool) : AV := .tup [mV m 1 gS cS 2 gD cD, .bo b]

abbrev foH (l : List Int) (c : Nat) (m : Msg) (gS cS gD cD : Nat) : AH := [.one false 0 (.ints .u8 l c), .one true gS (.ints .u32 m.sums cS), .one true gD (.ints .u8 m.body cD)]

theorem fo_endN {m : Msg} {b : Bool} {hv fv bv : AV} {E : AH} (k3 : isB hv m.has) (k4 : isB fv m.full) (kb : isB bv b) (e1 : m.sums = []) (e2 : m.body = []) (h : ∀ gS cS gD cD, m.sums.length ≤ cS → m.body.length ≤ cD → K (foV m gS cS gD cD b) (foH l c m gS cS gD cD)) :
    ∃ r' M'', Vw (.one false 0 (.ints .u8 l c) :: E) M'' [.tup [.agg (msL hv fv .ns .ns m), bv]] [r'] ∧ ∃ t r'' N, PickA 1 r' M'' t r'' N ∧ K r'' N := by
  have v1 := Vw.canon (M := .one false 0 (.ints .u8 l c) :: E) (x := .ints .u32 [] 0) (l := [.tup [.agg (msL hv fv .ns .ns m), bv]]) (l' := [.tup [.agg (msL (.bo m.has) (.bo m.full) (.sl (E.length + 1) 0 0 m.sums.length 0) .ns m), .bo b]]) ⟨rfl, rfl⟩
    (cnL_cons (cnV_tup (cnL_cons (cnV_agg (msL_cn (cnV_isB k3) (cnV_isB k4) (by rw [e1]; exact cnV_nsl _) (cnV_refl _ _))) (cnL_cons (cnV_isB kb) (cnL_nil _)))) (cnL_nil _))
  have v2 := Vw.canon (M := .one false 0 (.ints .u8 l c) :: E ++ [.one true 0 (.ints .u32 [] 0)]) (x := .ints .u8 [] 0) (l := [.tup [.agg (msL (.bo m.has) (.bo m.full) (.sl (E.length + 1) 0 0 m.sums.length 0) .ns m), .bo b]]) (l' := [.tup [.agg (msL (.bo m.has) (.bo m.full) (.sl (E.length + 1) 0 0 m.sums.length 0) (.sl (E.length + 2) 0 0 m.body.length 0) m), .bo b]]) ⟨rfl, rfl⟩
    (cnL_cons (cnV_tup (cnL_cons (cnV_agg (msL_cn (cnV_refl _ _) (cnV_refl _ _) (cnV_refl _ _) (by rw [e2]; simpa using cnV_nsl (E.length + 2)))) (cnL_refl _ _))) (cnL_nil _))
  refine ⟨_, _, v1.trans v2, [.sha 0, .own (E.length + 1), .own (E.length + 2)], foV m 0 0 0 0 b, foH l c m 0 0 0 0, ⟨?_, ?_, ?_, ?_, fun i hi => ?_⟩, h 0 0 0 0 (by rw [e1]; exact Nat.le_refl _) (by rw [e2]; exact Nat.le_refl _)⟩
  · refine ⟨⟨rfl, .one false 0 (.ints .u8 l c), rfl, rfl⟩, ⟨?_, rfl⟩, ⟨?_, rfl⟩, trivial⟩
    · simp [AO.rn, Cont.rn, e1]
    · simp [AO.rn, Cont.rn, e2]
  · rw [apart3 (by omega) (by omega) (by omega)]; rfl
  · exact ⟨trivial, trivial, trivial, trivial⟩
  · rfl
  · obtain rfl : i = 0 := by omega
    exact .inr rfl
theorem fo_endS {m : Msg} {hv fv bv : AV} {b : Bool} {o1 o2 : AO} {E : AH} {g cs n : Nat} {xs : List Int} (hn : m.sums.length = n) (hx : m.sums = xs) (k3 : isB hv m.has) (k4 : isB fv m.full) (kb : isB bv b) (e2 : m.body = []) (hcs : m.sums.length ≤ cs) (h : ∀ gS cS gD cD, m.sums.length ≤ cS → m.body.length ≤ cD → K (foV m gS cS gD cD b) (foH l c m gS cS gD cD)) :
    ∃ r' M'', Vw (.one false 0 (.ints .u8 l c) :: o1 :: o2 :: .one true g (.ints .u32 xs cs) :: E) M'' [.tup [.agg (msL hv fv (.sl 3 g 0 n cs) .ns m), bv]] [r'] ∧ ∃ t r'' N, PickA 1 r' M'' t r'' N ∧ K r'' N := by
  subst hn
  subst hx
  have v1 := Vw.canon (M := .one false 0 (.ints .u8 l c) :: o1 :: o2 :: .one true g (.ints .u32 m.sums cs) :: E) (x := .ints .u8 [] 0) (l := [.tup [.agg (msL hv fv (.sl 3 g 0 m.sums.length cs) .ns m), bv]]) (l' := [.tup [.agg (msL (.bo m.has) (.bo m.full) (.sl 3 g 0 m.sums.length cs) (.sl (E.length + 4) 0 0 m.body.length 0) m), .bo b]]) ⟨rfl, rfl⟩
    (cnL_cons (cnV_tup (cnL_cons (cnV_agg (msL_cn (cnV_isB k3) (cnV_isB k4) (cnV_refl _ _) (by rw [e2]; exact cnV_nsl _))) (cnL_cons (cnV_isB kb) (cnL_nil _)))) (cnL_nil _))
  refine ⟨_, _, v1, [.sha 0, .own 3, .own (E.length + 4)], foV m g cs 0 0 b, foH l c m g cs 0 0, ⟨?_, ?_, ?_, ?_, fun i hi => ?_⟩, h g cs 0 0 hcs (by rw [e2]; exact Nat.le_refl _)⟩
  · refine ⟨⟨rfl, .one false 0 (.ints .u8 l c), rfl, rfl⟩, ⟨rfl, rfl⟩, ⟨?_, rfl⟩, trivial⟩
    simp [AO.rn, Cont.rn, e2]
  · rw [apart3 (by omega) (by omega) (by omega)]; rfl
  · exact ⟨trivial, trivial, trivial, trivial⟩
  · rfl
  · obtain rfl : i = 0 := by omega
    exact .inr rfl
theorem fo_endB {m : Msg} {hv fv bv : AV} {b : Bool} {o1 o2 : AO} {E : AH} {g cs n : Nat} {xs : List Int} (hn : m.body.length = n) (hx : m.body = xs) (k3 : isB hv m.has) (k4 : isB fv m.full) (kb : isB bv b) (e1 : m.sums = []) (hcs : m.body.length ≤ cs) (h : ∀ gS cS gD cD, m.sums.length ≤ cS → m.body.length ≤ cD → K (foV m gS cS gD cD b) (foH l c m gS cS gD cD)) :
    ∃ r' M'', Vw (.one false 0 (.ints .u8 l c) :: o1 :: o2 :: .one true g (.ints .u8 xs cs) :: E) M'' [.tup [.agg (msL hv fv .ns (.sl 3 g 0 n cs) m), bv]] [r'] ∧ ∃ t r'' N, PickA 1 r' M'' t r'' N ∧ K r'' N := by
  subst hn
  subst hx
  have v1 := Vw.canon (M := .one false 0 (.ints .u8 l c) :: o1 :: o2 :: .one true g (.ints .u8 m.body cs) :: E) (x := .ints .u32 [] 0) (l := [.tup [.agg (msL hv fv .ns (.sl 3 g 0 m.body.length cs) m), bv]]) (l' := [.tup [.agg (msL (.bo m.has) (.bo m.full) (.sl (E.length + 4) 0 0 m.sums.length 0) (.sl 3 g 0 m.body.length cs) m), .bo b]]) ⟨rfl, rfl⟩
    (cnL_cons (cnV_tup (cnL_cons (cnV_agg (msL_cn (cnV_isB k3) (cnV_isB k4) (by rw [e1]; exact cnV_nsl _) (cnV_refl _ _))) (cnL_cons (cnV_isB kb) (cnL_nil _)))) (cnL_nil _))
  refine ⟨_, _, v1, [.sha 0, .own (E.length + 4), .own 3], foV m 0 0 g cs b, foH l c m 0 0 g cs, ⟨?_, ?_, ?_, ?_, fun i hi => ?_⟩, h 0 0 g cs (by rw [e1]; exact Nat.le_refl _) hcs⟩
  · refine ⟨⟨rfl, .one false 0 (.ints .u8 l c), rfl, rfl⟩, ⟨?_, rfl⟩, ⟨rfl, rfl⟩, trivial⟩
    simp [AO.rn, Cont.rn, e1]
  · rw [apart3 (by omega) (by omega) (by omega)]; rfl
  · exact ⟨trivial, trivial, trivial, trivial⟩
  · rfl
  · obtain rfl : i = 0 := by omega
    exact .inr rfl
theorem formR2 (hl : ∀ x ∈ l, in8 x) (ll : l.length ≤ 1000000000) (kl : l.length ≤ c) (e : ty = 2)
    (h1 : fOk ty l → ∀ gS cS gD cD, (fmOf ty l).sums.length ≤ cS → (fmOf ty l).body.length ≤ cD → K (foV (fmOf ty l) gS cS gD cD true) (foH l c (fmOf ty l) gS cS gD cD))
    (h0 : ¬ fOk ty l → ∀ gS cS gD cD, (zeroM 0).sums.length ≤ cS → (zeroM 0).body.length ≤ cD → K (foV (zeroM 0) gS cS gD cD false) (foH l c (zeroM 0) gS cS gD cD)) :
    CallA Try.prog 27 [.int .u8 ty, .sl 0 0 0 l.length c] [.one false 0 (.ints .u8 l c)] K Kp := by
  have efm : fmOf ty l = fm2 l := by simp [fmOf, e]
  have efo : fOk ty l ↔ l.length = 12 := by simp [fOk, e]
  rw [efm] at h1
  subst e
  have e : (2 : Int) = 2 := rfl
  refine CallA.post_pick ?_
  refine CallA.post_view ?_
  refine step27 (fun _ => [0, 1, 2]) [] rfl ?_
  repeat ((conv => whnf); first | with_reducible refine O_step ?_ | with_reducible refine S_step ?_ | with_reducible refine D_step ?_ | with_reducible refine RO.exit ?_ | with_reducible refine RO.ret ?_ | ((with_reducible refine And.intro ?sc ?_); case sc => exact side) | ((with_reducible refine br_f ?sc ?_); case sc => exact sideB) | ((with_reducible refine br_t ?sc ?_); case sc => exact sideB))
  refine And.intro (fun hc => ?_) (fun hc => ?_)
  · have hnf : ¬ fOk 2 l := by rw [efo]; intro hx; rw [hx] at hc; simp at hc
    repeat ((conv => whnf); first | with_reducible refine O_step ?_ | with_reducible refine S_step ?_ | with_reducible refine D_step ?_ | with_reducible refine RO.exit ?_ | with_reducible refine RO.ret ?_ | ((with_reducible refine And.intro ?sc ?_); case sc => exact side) | ((with_reducible refine br_f ?sc ?_); case sc => exact sideB) | ((with_reducible refine br_t ?sc ?_); case sc => exact sideB))
    exact fo_endN (.inr (.inl ⟨rfl, rfl⟩)) (.inr (.inl ⟨rfl, rfl⟩)) (by first | exact .inl rfl | exact .inr (.inl ⟨rfl, rfl⟩)) rfl rfl (h0 hnf)
  have hlen0 : (l.length : Int) = 12 := by simpa using hc
  have hlen : l.length = 12 := by omega
  have hf : fOk 2 l := by rw [efo]; exact hlen
  repeat ((conv => whnf); first | with_reducible refine O_step ?_ | with_reducible refine S_step ?_ | with_reducible refine D_step ?_ | with_reducible refine RO.exit ?_ | with_reducible refine RO.ret ?_ | ((with_reducible refine And.intro ?sc ?_); case sc => exact side) | ((with_reducible refine br_f ?sc ?_); case sc => exact sideB) | ((with_reducible refine br_t ?sc ?_); case sc => exact sideB))
  refine vR_at (b := l) (Y := l) (cY := c) (i := 0) (gi := 0) (off := 0) (j := 0) (n := 4) (o1 := false) rfl (by omega) (by rw [List.drop_zero, List.take_length]) hl (by omega) kl (by decide) (by decide) (by omega) ?_
  repeat ((conv => whnf); first | with_reducible refine O_step ?_ | with_reducible refine S_step ?_ | with_reducible refine D_step ?_ | with_reducible refine RO.exit ?_ | with_reducible refine RO.ret ?_ | ((with_reducible refine And.intro ?sc ?_); case sc => exact side) | ((with_reducible refine br_f ?sc ?_); case sc => exact sideB) | ((with_reducible refine br_t ?sc ?_); case sc => exact sideB))
  refine vR_at (b := l) (Y := l) (cY := c) (i := 0) (gi := 0) (off := 0) (j := 4) (n := 2) (o1 := false) rfl (by omega) (by rw [List.drop_zero, List.take_length]) hl (by omega) kl (by decide) (by decide) (by omega) ?_
  repeat ((conv => whnf); first | with_reducible refine O_step ?_ | with_reducible refine S_step ?_ | with_reducible refine D_step ?_ | with_reducible refine RO.exit ?_ | with_reducible refine RO.ret ?_ | ((with_reducible refine And.intro ?sc ?_); case sc => exact side) | ((with_reducible refine br_f ?sc ?_); case sc => exact sideB) | ((with_reducible refine br_t ?sc ?_); case sc => exact sideB))
  refine vR_at (b := l) (Y := l) (cY := c) (i := 0) (gi := 0) (off := 0) (j := 6) (n := 2) (o1 := false) rfl (by omega) (by rw [List.drop_zero, List.take_length]) hl (by omega) kl (by decide) (by decide) (by omega) ?_
  repeat ((conv => whnf); first | with_reducible refine O_step ?_ | with_reducible refine S_step ?_ | with_reducible refine D_step ?_ | with_reducible refine RO.exit ?_ | with_reducible refine RO.ret ?_ | ((with_reducible refine And.intro ?sc ?_); case sc => exact side) | ((with_reducible refine br_f ?sc ?_); case sc => exact sideB) | ((with_reducible refine br_t ?sc ?_); case sc => exact sideB))
  refine vR_at (b := l) (Y := l) (cY := c) (i := 0) (gi := 0) (off := 0) (j := 8) (n := 4) (o1 := false) rfl (by omega) (by rw [List.drop_zero, List.take_length]) hl (by omega) kl (by decide) (by decide) (by omega) ?_
  repeat ((conv => whnf); first | with_reducible refine O_step ?_ | with_reducible refine S_step ?_ | with_reducible refine D_step ?_ | with_reducible refine RO.exit ?_ | with_reducible refine RO.ret ?_ | ((with_reducible refine And.intro ?sc ?_); case sc => exact side) | ((with_reducible refine br_f ?sc ?_); case sc => exact sideB) | ((with_reducible refine br_t ?sc ?_); case sc => exact sideB))
  rw [show valAt l 4 2 % 65536 = valAt l 4 2 by have := v2 hl (j := 4); omega]
  rw [show valAt l 6 2 % 65536 = valAt l 6 2 by have := v2 hl (j := 6); omega]
  exact fo_endN (.inr (.inl ⟨rfl, rfl⟩)) (.inr (.inl ⟨rfl, rfl⟩)) (by first | exact .inl rfl | exact .inr (.inr ⟨rfl, rfl⟩)) rfl rfl (h1 hf)
theorem formR3 (hl : ∀ x ∈ l, in8 x) (ll : l.length ≤ 1000000000) (kl : l.length ≤ c) (e : ty = 3)
    (h1 : fOk ty l → ∀ gS cS gD cD, (fmOf ty l).sums.length ≤ cS → (fmOf ty l).body.length ≤ cD → K (foV (fmOf ty l) gS cS gD cD true) (foH l c (fmOf ty l) gS cS gD cD))
    (h0 : ¬ fOk ty l → ∀ gS cS gD cD, (zeroM 0).sums.length ≤ cS → (zeroM 0).body.length ≤ cD → K (foV (zeroM 0) gS cS gD cD false) (foH l c (zeroM 0) gS cS gD cD)) :
    CallA Try.prog 27 [.int .u8 ty, .sl 0 0 0 l.length c] [.one false 0 (.ints .u8 l c)] K Kp := by
  have efm : fmOf ty l = zeroM 3 := by simp [fmOf, e]
  have efo : fOk ty l ↔ l.length = 0 := by simp [fOk, e]
  rw [efm] at h1
  subst e
  have e : (3 : Int) = 3 := rfl
  refine CallA.post_pick ?_
  refine CallA.post_view ?_
  refine step27 (fun _ => [0, 1, 2]) [] rfl ?_
  repeat ((conv => whnf); first | with_reducible refine O_step ?_ | with_reducible refine S_step ?_ | with_reducible refine D_step ?_ | with_reducible refine RO.exit ?_ | with_reducible refine RO.ret ?_ | ((with_reducible refine And.intro ?sc ?_); case sc => exact side) | ((with_reducible refine br_f ?sc ?_); case sc => exact sideB) | ((with_reducible refine br_t ?sc ?_); case sc => exact sideB))
  refine And.intro (fun hc => ?_) (fun hc => ?_)
  · have hnf : ¬ fOk 3 l := by rw [efo]; intro hx; rw [hx] at hc; simp at hc
    repeat ((conv => whnf); first | with_reducible refine O_step ?_ | with_reducible refine S_step ?_ | with_reducible refine D_step ?_ | with_reducible refine RO.exit ?_ | with_reducible refine RO.ret ?_ | ((with_reducible refine And.intro ?sc ?_); case sc => exact side) | ((with_reducible refine br_f ?sc ?_); case sc => exact sideB) | ((with_reducible refine br_t ?sc ?_); case sc => exact sideB))
    exact fo_endN (.inr (.inl ⟨rfl, rfl⟩)) (.inr (.inl ⟨rfl, rfl⟩)) (by first | exact .inl rfl | exact .inr (.inl ⟨rfl, rfl⟩)) rfl rfl (h0 hnf)
  have hlen0 : (l.length : Int) = 0 := by simpa using hc
  have hlen : l.length = 0 := by omega
  have hf : fOk 3 l := by rw [efo]; exact hlen
  repeat ((conv => whnf); first | with_reducible refine O_step ?_ | with_reducible refine S_step ?_ | with_reducible refine D_step ?_ | with_reducible refine RO.exit ?_ | with_reducible refine RO.ret ?_ | ((with_reducible refine And.intro ?sc ?_); case sc => exact side) | ((with_reducible refine br_f ?sc ?_); case sc => exact sideB) | ((with_reducible refine br_t ?sc ?_); case sc => exact sideB))
  exact fo_endN (.inr (.inl ⟨rfl, rfl⟩)) (.inr (.inl ⟨rfl, rfl⟩)) (by first | exact .inl rfl | exact .inr (.inr ⟨rfl, rfl⟩)) rfl rfl (h1 hf)
theorem formR5 (hl : ∀ x ∈ l, in8 x) (ll : l.length ≤ 1000000000) (kl : l.length ≤ c) (e : ty = 5)
    (h1 : fOk ty l → ∀ gS cS gD cD, (fmOf ty l).sums.length ≤ cS → (fmOf ty l).body.length ≤ cD → K (foV (fmOf ty l) gS cS gD cD true) (foH l c (fmOf ty l) gS cS gD cD))
    (h0 : ¬ fOk ty l → ∀ gS cS gD cD, (zeroM 0).sums.length ≤ cS → (zeroM 0).body.length ≤ cD → K (foV (zeroM 0) gS cS gD cD false) (foH l c (zeroM 0) gS cS gD cD)) :
    CallA Try.prog 27 [.int .u8 ty, .sl 0 0 0 l.length c] [.one false 0 (.ints .u8 l c)] K Kp := by
  have efm : fmOf ty l = fm5 l := by simp [fmOf, e]
  have efo : fOk ty l ↔ l.length = 13 := by simp [fOk, e]
  rw [efm] at h1
  subst e
  have e : (5 : Int) = 5 := rfl
  refine CallA.post_pick ?_
  refine CallA.post_view ?_
  refine step27 (fun _ => [0, 1, 2]) [] rfl ?_
  repeat ((conv => whnf); first | with_reducible refine O_step ?_ | with_reducible refine S_step ?_ | with_reducible refine D_step ?_ | with_reducible refine RO.exit ?_ | with_reducible refine RO.ret ?_ | ((with_reducible refine And.intro ?sc ?_); case sc => exact side) | ((with_reducible refine br_f ?sc ?_); case sc => exact sideB) | ((with_reducible refine br_t ?sc ?_); case sc => exact sideB))
  refine And.intro (fun hc => ?_) (fun hc => ?_)
  · have hnf : ¬ fOk 5 l := by rw [efo]; intro hx; rw [hx] at hc; simp at hc
    repeat ((conv => whnf); first | with_reducible refine O_step ?_ | with_reducible refine S_step ?_ | with_reducible refine D_step ?_ | with_reducible refine RO.exit ?_ | with_reducible refine RO.ret ?_ | ((with_reducible refine And.intro ?sc ?_); case sc => exact side) | ((with_reducible refine br_f ?sc ?_); case sc => exact sideB) | ((with_reducible refine br_t ?sc ?_); case sc => exact sideB))
    exact fo_endN (.inr (.inl ⟨rfl, rfl⟩)) (.inr (.inl ⟨rfl, rfl⟩)) (by first | exact .inl rfl | exact .inr (.inl ⟨rfl, rfl⟩)) rfl rfl (h0 hnf)
  have hlen0 : (l.length : Int) = 13 := by simpa using hc
  have hlen : l.length = 13 := by omega
  have hf : fOk 5 l := by rw [efo]; exact hlen
  repeat ((conv => whnf); first | with_reducible refine O_step ?_ | with_reducible refine S_step ?_ | with_reducible refine D_step ?_ | with_reducible refine RO.exit ?_ | with_reducible refine RO.ret ?_ | ((with_reducible refine And.intro ?sc ?_); case sc => exact side) | ((with_reducible refine br_f ?sc ?_); case sc => exact sideB) | ((with_reducible refine br_t ?sc ?_); case sc => exact sideB))
  refine vR_at (b := l) (Y := l) (cY := c) (i := 0) (gi := 0) (off := 0) (j := 0) (n := 4) (o1 := false) rfl (by omega) (by rw [List.drop_zero, List.take_length]) hl (by omega) kl (by decide) (by decide) (by omega) ?_
  repeat ((conv => whnf); first | with_reducible refine O_step ?_ | with_reducible refine S_step ?_ | with_reducible refine D_step ?_ | with_reducible refine RO.exit ?_ | with_reducible refine RO.ret ?_ | ((with_reducible refine And.intro ?sc ?_); case sc => exact side) | ((with_reducible refine br_f ?sc ?_); case sc => exact sideB) | ((with_reducible refine br_t ?sc ?_); case sc => exact sideB))
  refine vR_at (b := l) (Y := l) (cY := c) (i := 0) (gi := 0) (off := 0) (j := 5) (n := 2) (o1 := false) rfl (by omega) (by rw [List.drop_zero, List.take_length]) hl (by omega) kl (by decide) (by decide) (by omega) ?_
  repeat ((conv => whnf); first | with_reducible refine O_step ?_ | with_reducible refine S_step ?_ | with_reducible refine D_step ?_ | with_reducible refine RO.exit ?_ | with_reducible refine RO.ret ?_ | ((with_reducible refine And.intro ?sc ?_); case sc => exact side) | ((with_reducible refine br_f ?sc ?_); case sc => exact sideB) | ((with_reducible refine br_t ?sc ?_); case sc => exact sideB))
  refine vR_at (b := l) (Y := l) (cY := c) (i := 0) (gi := 0) (off := 0) (j := 7) (n := 2) (o1 := false) rfl (by omega) (by rw [List.drop_zero, List.take_length]) hl (by omega) kl (by decide) (by decide) (by omega) ?_
  repeat ((conv => whnf); first | with_reducible refine O_step ?_ | with_reducible refine S_step ?_ | with_reducible refine D_step ?_ | with_reducible refine RO.exit ?_ | with_reducible refine RO.ret ?_ | ((with_reducible refine And.intro ?sc ?_); case sc => exact side) | ((with_reducible refine br_f ?sc ?_); case sc => exact sideB) | ((with_reducible refine br_t ?sc ?_); case sc => exact sideB))
  refine vR_at (b := l) (Y := l) (cY := c) (i := 0) (gi := 0) (off := 0) (j := 9) (n := 4) (o1 := false) rfl (by omega) (by rw [List.drop_zero, List.take_length]) hl (by omega) kl (by decide) (by decide) (by omega) ?_
  repeat ((conv => whnf); first | with_reducible refine O_step ?_ | with_reducible refine S_step ?_ | with_reducible refine D_step ?_ | with_reducible refine RO.exit ?_ | with_reducible refine RO.ret ?_ | ((with_reducible refine And.intro ?sc ?_); case sc => exact side) | ((with_reducible refine br_f ?sc ?_); case sc => exact sideB) | ((with_reducible refine br_t ?sc ?_); case sc => exact sideB))
  rw [show valAt l 5 2 % 65536 = valAt l 5 2 by have := v2 hl (j := 5); omega]
  rw [show valAt l 7 2 % 65536 = valAt l 7 2 by have := v2 hl (j := 7); omega]
  exact fo_endN (.inr (.inl ⟨rfl, rfl⟩)) (.inr (.inl ⟨rfl, rfl⟩)) (by first | exact .inl rfl | exact .inr (.inr ⟨rfl, rfl⟩)) rfl rfl (h1 hf)
theorem formR6 (hl : ∀ x ∈ l, in8 x) (ll : l.length ≤ 1000000000) (kl : l.length ≤ c) (e : ty = 6)
    (h1 : fOk ty l → ∀ gS cS gD cD, (fmOf ty l).sums.length ≤ cS → (fmOf ty l).body.length ≤ cD → K (foV (fmOf ty l) gS cS gD cD true) (foH l c (fmOf ty l) gS cS gD cD))
    (h0 : ¬ fOk ty l → ∀ gS cS gD cD, (zeroM 0).sums.length ≤ cS → (zeroM 0).body.length ≤ cD → K (foV (zeroM 0) gS cS gD cD false) (foH l c (zeroM 0) gS cS gD cD)) :
    CallA Try.prog 27 [.int .u8 ty, .sl 0 0 0 l.length c] [.one false 0 (.ints .u8 l c)] K Kp := by
  have efm : fmOf ty l = fm6 l := by simp [fmOf, e]
  have efo : fOk ty l ↔ l.length = 4 := by simp [fOk, e]
  rw [efm] at h1
  subst e
  have e : (6 : Int) = 6 := rfl
  refine CallA.post_pick ?_
  refine CallA.post_view ?_
  refine step27 (fun _ => [0, 1, 2]) [] rfl ?_
  repeat ((conv => whnf); first | with_reducible refine O_step ?_ | with_reducible refine S_step ?_ | with_reducible refine D_step ?_ | with_reducible refine RO.exit ?_ | with_reducible refine RO.ret ?_ | ((with_reducible refine And.intro ?sc ?_); case sc => exact side) | ((with_reducible refine br_f ?sc ?_); case sc => exact sideB) | ((with_reducible refine br_t ?sc ?_); case sc => exact sideB))
  refine And.intro (fun hc => ?_) (fun hc => ?_)
  · have hnf : ¬ fOk 6 l := by rw [efo]; intro hx; rw [hx] at hc; simp at hc
    repeat ((conv => whnf); first | with_reducible refine O_step ?_ | with_reducible refine S_step ?_ | with_reducible refine D_step ?_ | with_reducible refine RO.exit ?_ | with_reducible refine RO.ret ?_ | ((with_reducible refine And.intro ?sc ?_); case sc => exact side) | ((with_reducible refine br_f ?sc ?_); case sc => exact sideB) | ((with_reducible refine br_t ?sc ?_); case sc => exact sideB))
    exact fo_endN (.inr (.inl ⟨rfl, rfl⟩)) (.inr (.inl ⟨rfl, rfl⟩)) (by first | exact .inl rfl | exact .inr (.inl ⟨rfl, rfl⟩)) rfl rfl (h0 hnf)
  have hlen0 : (l.length : Int) = 4 := by simpa using hc
  have hlen : l.length = 4 := by omega
  have hf : fOk 6 l := by rw [efo]; exact hlen
  repeat ((conv => whnf); first | with_reducible refine O_step ?_ | with_reducible refine S_step ?_ | with_reducible refine D_step ?_ | with_reducible refine RO.exit ?_ | with_reducible refine RO.ret ?_ | ((with_reducible refine And.intro ?sc ?_); case sc => exact side) | ((with_reducible refine br_f ?sc ?_); case sc => exact sideB) | ((with_reducible refine br_t ?sc ?_); case sc => exact sideB))
  refine vR_at (b := l) (Y := l) (cY := c) (i := 0) (gi := 0) (off := 0) (j := 0) (n := 4) (o1 := false) rfl (by omega) (by rw [List.drop_zero, List.take_length]) hl (by omega) kl (by decide) (by decide) (by omega) ?_
  repeat ((conv => whnf); first | with_reducible refine O_step ?_ | with_reducible refine S_step ?_ | with_reducible refine D_step ?_ | with_reducible refine RO.exit ?_ | with_reducible refine RO.ret ?_ | ((with_reducible refine And.intro ?sc ?_); case sc => exact side) | ((with_reducible refine br_f ?sc ?_); case sc => exact sideB) | ((with_reducible refine br_t ?sc ?_); case sc => exact sideB))
  exact fo_endN (.inr (.inl ⟨rfl, rfl⟩)) (.inr (.inl ⟨rfl, rfl⟩)) (by first | exact .inl rfl | exact .inr (.inr ⟨rfl, rfl⟩)) rfl rfl (h1 hf)
theorem formR4 (hl : ∀ x ∈ l, in8 x) (ll : l.length ≤ 1000000000) (kl : l.length ≤ c) (e : ty = 4)
    (h1 : fOk ty l → ∀ gS cS gD cD, (fmOf ty l).sums.length ≤ cS → (fmOf ty l).body.length ≤ cD → K (foV (fmOf ty l) gS cS gD cD true) (foH l c (fmOf ty l) gS cS gD cD))
    (h0 : ¬ fOk ty l → ∀ gS cS gD cD, (zeroM 0).sums.length ≤ cS → (zeroM 0).body.length ≤ cD → K (foV (zeroM 0) gS cS gD cD false) (foH l c (zeroM 0) gS cS gD cD)) :
    CallA Try.prog 27 [.int .u8 ty, .sl 0 0 0 l.length c] [.one false 0 (.ints .u8 l c)] K Kp := by
  have efm : fmOf ty l = fm4 l := by simp [fmOf, e]
  have efo : fOk ty l ↔ (9 ≤ l.length ∧ l.getD 8 0 ≤ 1) := by simp [fOk, e]
  rw [efm] at h1
  subst e
  have e : (4 : Int) = 4 := rfl
  refine CallA.post_pick ?_
  refine CallA.post_view ?_
  refine step27 (fun _ => [0, 1, 2]) [] rfl ?_
  repeat ((conv => whnf); first | with_reducible refine O_step ?_ | with_reducible refine S_step ?_ | with_reducible refine D_step ?_ | with_reducible refine RO.exit ?_ | with_reducible refine RO.ret ?_ | ((with_reducible refine And.intro ?sc ?_); case sc => exact side) | ((with_reducible refine br_f ?sc ?_); case sc => exact sideB) | ((with_reducible refine br_t ?sc ?_); case sc => exact sideB))
  refine And.intro (fun hc => ?_) (fun hc => ?_)
  · have hnf : ¬ fOk 4 l := by rw [efo]; intro hx; have := of_decide_eq_true hc; omega
    repeat ((conv => whnf); first | with_reducible refine O_step ?_ | with_reducible refine S_step ?_ | with_reducible refine D_step ?_ | with_reducible refine RO.exit ?_ | with_reducible refine RO.ret ?_ | ((with_reducible refine And.intro ?sc ?_); case sc => exact side) | ((with_reducible refine br_f ?sc ?_); case sc => exact sideB) | ((with_reducible refine br_t ?sc ?_); case sc => exact sideB))
    exact fo_endN (.inr (.inl ⟨rfl, rfl⟩)) (.inr (.inl ⟨rfl, rfl⟩)) (by first | exact .inl rfl | exact .inr (.inl ⟨rfl, rfl⟩)) rfl rfl (h0 hnf)
  have hlen : 9 ≤ l.length := by have := of_decide_eq_false hc; omega
  have hb8 := get_in8 hl (show 8 < l.length by omega)
  repeat ((conv => whnf); first | with_reducible refine O_step ?_ | with_reducible refine S_step ?_ | with_reducible refine D_step ?_ | with_reducible refine RO.exit ?_ | with_reducible refine RO.ret ?_ | ((with_reducible refine And.intro ?sc ?_); case sc => exact side) | ((with_reducible refine br_f ?sc ?_); case sc => exact sideB) | ((with_reducible refine br_t ?sc ?_); case sc => exact sideB))
  refine And.intro (fun hc => ?_) (fun hc => ?_)
  · have hc' : 1 < l.getD 8 0 := of_decide_eq_true hc
    have hnf : ¬ fOk 4 l := by rw [efo]; intro hx; omega
    repeat ((conv => whnf); first | with_reducible refine O_step ?_ | with_reducible refine S_step ?_ | with_reducible refine D_step ?_ | with_reducible refine RO.exit ?_ | with_reducible refine RO.ret ?_ | ((with_reducible refine And.intro ?sc ?_); case sc => exact side) | ((with_reducible refine br_f ?sc ?_); case sc => exact sideB) | ((with_reducible refine br_t ?sc ?_); case sc => exact sideB))
    exact fo_endN (.inr (.inl ⟨rfl, rfl⟩)) (.inr (.inl ⟨rfl, rfl⟩)) (by first | exact .inl rfl | exact .inr (.inl ⟨rfl, rfl⟩)) rfl rfl (h0 hnf)
  have hc' : ¬ 1 < l.getD 8 0 := of_decide_eq_false hc
  have h8 : l.getD 8 0 ≤ 1 := by omega
  have hf : fOk 4 l := by rw [efo]; exact ⟨hlen, h8⟩
  repeat ((conv => whnf); first | with_reducible refine O_step ?_ | with_reducible refine S_step ?_ | with_reducible refine D_step ?_ | with_reducible refine RO.exit ?_ | with_reducible refine RO.ret ?_ | ((with_reducible refine And.intro ?sc ?_); case sc => exact side) | ((with_reducible refine br_f ?sc ?_); case sc => exact sideB) | ((with_reducible refine br_t ?sc ?_); case sc => exact sideB))
  refine vR_at (b := l) (Y := l) (cY := c) (i := 0) (gi := 0) (off := 0) (j := 0) (n := 4) (o1 := false) rfl (by omega) (by rw [List.drop_zero, List.take_length]) hl (by omega) kl (by decide) (by decide) (by omega) ?_
  repeat ((conv => whnf); first | with_reducible refine O_step ?_ | with_reducible refine S_step ?_ | with_reducible refine D_step ?_ | with_reducible refine RO.exit ?_ | with_reducible refine RO.ret ?_ | ((with_reducible refine And.intro ?sc ?_); case sc => exact side) | ((with_reducible refine br_f ?sc ?_); case sc => exact sideB) | ((with_reducible refine br_t ?sc ?_); case sc => exact sideB))
  have ho : offS c (Int.toNat 9) 0 1 + (l.length - Int.toNat 9) ≤ l.length := by
    by_cases hc9 : c = 9
    · unfold offS; rw [if_pos (by show c = 9; exact hc9)]; omega
    · rw [offS_1 (by show c ≠ 9; exact hc9)]; show 0 + 9 + (l.length - 9) ≤ l.length; omega
  refine vR_at (b := l) (Y := l) (cY := c) (i := 0) (gi := 0) (off := 0) (j := 4) (n := 4) (o1 := false) rfl (by omega) (by rw [List.drop_zero, List.take_length]) hl (by omega) kl (by decide) (by decide) (by omega) ?_
  repeat ((conv => whnf); first | with_reducible refine O_step ?_ | with_reducible refine S_step ?_ | with_reducible refine D_step ?_ | with_reducible refine RO.exit ?_ | with_reducible refine RO.ret ?_ | ((with_reducible refine And.intro ?sc ?_); case sc => exact side) | ((with_reducible refine br_f ?sc ?_); case sc => exact sideB) | ((with_reducible refine br_t ?sc ?_); case sc => exact sideB))
  intro zs hzs
  have hzl : zs = l.drop 9 := by
    rw [hzs]
    by_cases hc9 : c = 9
    · have : l.length = 9 := by omega
      rw [List.drop_eq_nil_of_le (by omega : l.length ≤ 9)]
      simp [this]
    · rw [offS_1 (by show c ≠ 9; exact hc9)]
      exact List.take_of_length_le (by rw [List.length_drop]; show l.length - (0 + 9) ≤ l.length - 9; omega)
  subst hzl
  repeat ((conv => whnf); first | with_reducible refine O_step ?_ | with_reducible refine S_step ?_ | with_reducible refine D_step ?_ | with_reducible refine RO.exit ?_ | with_reducible refine RO.ret ?_ | ((with_reducible refine And.intro ?sc ?_); case sc => exact side) | ((with_reducible refine br_f ?sc ?_); case sc => exact sideB) | ((with_reducible refine br_t ?sc ?_); case sc => exact sideB))
  intro c2 k2
  repeat ((conv => whnf); first | with_reducible refine O_step ?_ | with_reducible refine S_step ?_ | with_reducible refine D_step ?_ | with_reducible refine RO.exit ?_ | with_reducible refine RO.ret ?_ | ((with_reducible refine And.intro ?sc ?_); case sc => exact side) | ((with_reducible refine br_f ?sc ?_); case sc => exact sideB) | ((with_reducible refine br_t ?sc ?_); case sc => exact sideB))
  have e3 : (fm4 l).body.length = 0 + (l.length - Int.toNat 9) := by
    show (l.drop 9).length = 0 + (l.length - 9)
    rw [List.length_drop]; omega
  exact fo_endB (m := fm4 l) e3 rfl (.inr (.inl ⟨rfl, rfl⟩)) (.inl rfl) (by first | exact .inl rfl | exact .inr (.inr ⟨rfl, rfl⟩)) rfl (by rw [e3]; exact k2) (h1 hf)
theorem formR1 (hl : ∀ x ∈ l, in8 x) (ll : l.length ≤ 1000000000) (kl : l.length ≤ c) (e : ty = 1)
    (h1 : fOk ty l → ∀ gS cS gD cD, (fmOf ty l).sums.length ≤ cS → (fmOf ty l).body.length ≤ cD → K (foV (fmOf ty l) gS cS gD cD true) (foH l c (fmOf ty l) gS cS gD cD))
    (h0 : ¬ fOk ty l → ∀ gS cS gD cD, (zeroM 0).sums.length ≤ cS → (zeroM 0).body.length ≤ cD → K (foV (zeroM 0) gS cS gD cD false) (foH l c (zeroM 0) gS cS gD cD)) :
    CallA Try.prog 27 [.int .u8 ty, .sl 0 0 0 l.length c] [.one false 0 (.ints .u8 l c)] K Kp := by
  have efm : fmOf ty l = fm1 l := by simp [fmOf, e]
  have efo : fOk ty l ↔ (11 ≤ l.length ∧ l.getD 4 0 ≤ 1 ∧ valAt l 9 2 ≤ 256 ∧ (l.length : Int) = 11 + 4 * valAt l 9 2) := by simp [fOk, e]
  rw [efm] at h1
  subst e
  have e : (1 : Int) = 1 := rfl
  refine CallA.post_pick ?_
  refine CallA.post_view ?_
  refine step27 (fun _ => [0, 1, 2]) [] rfl ?_
  repeat ((conv => whnf); first | with_reducible refine O_step ?_ | with_reducible refine S_step ?_ | with_reducible refine D_step ?_ | with_reducible refine RO.exit ?_ | with_reducible refine RO.ret ?_ | ((with_reducible refine And.intro ?sc ?_); case sc => exact side) | ((with_reducible refine br_f ?sc ?_); case sc => exact sideB) | ((with_reducible refine br_t ?sc ?_); case sc => exact sideB))
  refine And.intro (fun hc => ?_) (fun hc => ?_)
  · have hnf : ¬ fOk 1 l := by rw [efo]; intro hx; have := of_decide_eq_true hc; omega
    repeat ((conv => whnf); first | with_reducible refine O_step ?_ | with_reducible refine S_step ?_ | with_reducible refine D_step ?_ | with_reducible refine RO.exit ?_ | with_reducible refine RO.ret ?_ | ((with_reducible refine And.intro ?sc ?_); case sc => exact side) | ((with_reducible refine br_f ?sc ?_); case sc => exact sideB) | ((with_reducible refine br_t ?sc ?_); case sc => exact sideB))
    exact fo_endN (.inr (.inl ⟨rfl, rfl⟩)) (.inr (.inl ⟨rfl, rfl⟩)) (by first | exact .inl rfl | exact .inr (.inl ⟨rfl, rfl⟩)) rfl rfl (h0 hnf)
  have hlen : 11 ≤ l.length := by have := of_decide_eq_false hc; omega
  have hb4 := get_in8 hl (show 4 < l.length by omega)
  have hv9 := v2 hl (j := 9)
  repeat ((conv => whnf); first | with_reducible refine O_step ?_ | with_reducible refine S_step ?_ | with_reducible refine D_step ?_ | with_reducible refine RO.exit ?_ | with_reducible refine RO.ret ?_ | ((with_reducible refine And.intro ?sc ?_); case sc => exact side) | ((with_reducible refine br_f ?sc ?_); case sc => exact sideB) | ((with_reducible refine br_t ?sc ?_); case sc => exact sideB))
  refine And.intro (fun hc => ?_) (fun hc => ?_)
  · have hc' : 1 < l.getD 4 0 := of_decide_eq_true hc
    have hnf : ¬ fOk 1 l := by rw [efo]; intro hx; omega
    repeat ((conv => whnf); first | with_reducible refine O_step ?_ | with_reducible refine S_step ?_ | with_reducible refine D_step ?_ | with_reducible refine RO.exit ?_ | with_reducible refine RO.ret ?_ | ((with_reducible refine And.intro ?sc ?_); case sc => exact side) | ((with_reducible refine br_f ?sc ?_); case sc => exact sideB) | ((with_reducible refine br_t ?sc ?_); case sc => exact sideB))
    exact fo_endN (.inr (.inl ⟨rfl, rfl⟩)) (.inr (.inl ⟨rfl, rfl⟩)) (by first | exact .inl rfl | exact .inr (.inl ⟨rfl, rfl⟩)) rfl rfl (h0 hnf)
  have hc4 : ¬ 1 < l.getD 4 0 := of_decide_eq_false hc
  repeat ((conv => whnf); first | with_reducible refine O_step ?_ | with_reducible refine S_step ?_ | with_reducible refine D_step ?_ | with_reducible refine RO.exit ?_ | with_reducible refine RO.ret ?_ | ((with_reducible refine And.intro ?sc ?_); case sc => exact side) | ((with_reducible refine br_f ?sc ?_); case sc => exact sideB) | ((with_reducible refine br_t ?sc ?_); case sc => exact sideB))
  refine vR_at (b := l) (Y := l) (cY := c) (i := 0) (gi := 0) (off := 0) (j := 9) (n := 2) (o1 := false) rfl (by omega) (by rw [List.drop_zero, List.take_length]) hl (by omega) kl (by decide) (by decide) (by omega) ?_
  repeat ((conv => whnf); first | with_reducible refine O_step ?_ | with_reducible refine S_step ?_ | with_reducible refine D_step ?_ | with_reducible refine RO.exit ?_ | with_reducible refine RO.ret ?_ | ((with_reducible refine And.intro ?sc ?_); case sc => exact side) | ((with_reducible refine br_f ?sc ?_); case sc => exact sideB) | ((with_reducible refine br_t ?sc ?_); case sc => exact sideB))
  refine And.intro (fun hc => ?_) (fun hc => ?_)
  · have hc' : 256 < valAt l 9 2 := of_decide_eq_true hc
    have hnf : ¬ fOk 1 l := by rw [efo]; intro hx; omega
    repeat ((conv => whnf); first | with_reducible refine O_step ?_ | with_reducible refine S_step ?_ | with_reducible refine D_step ?_ | with_reducible refine RO.exit ?_ | with_reducible refine RO.ret ?_ | ((with_reducible refine And.intro ?sc ?_); case sc => exact side) | ((with_reducible refine br_f ?sc ?_); case sc => exact sideB) | ((with_reducible refine br_t ?sc ?_); case sc => exact sideB))
    exact fo_endN (.inr (.inl ⟨rfl, rfl⟩)) (.inr (.inl ⟨rfl, rfl⟩)) (by first | exact .inl rfl | exact .inr (.inl ⟨rfl, rfl⟩)) rfl rfl (h0 hnf)
  have hc9 : ¬ 256 < valAt l 9 2 := of_decide_eq_false hc
  repeat ((conv => whnf); first | with_reducible refine O_step ?_ | with_reducible refine S_step ?_ | with_reducible refine D_step ?_ | with_reducible refine RO.exit ?_ | with_reducible refine RO.ret ?_ | ((with_reducible refine And.intro ?sc ?_); case sc => exact side) | ((with_reducible refine br_f ?sc ?_); case sc => exact sideB) | ((with_reducible refine br_t ?sc ?_); case sc => exact sideB))
  refine vR_at (b := l) (Y := l) (cY := c) (i := 0) (gi := 0) (off := 0) (j := 9) (n := 2) (o1 := false) rfl (by omega) (by rw [List.drop_zero, List.take_length]) hl (by omega) kl (by decide) (by decide) (by omega) ?_
  repeat ((conv => whnf); first | with_reducible refine O_step ?_ | with_reducible refine S_step ?_ | with_reducible refine D_step ?_ | with_reducible refine RO.exit ?_ | with_reducible refine RO.ret ?_ | ((with_reducible refine And.intro ?sc ?_); case sc => exact side) | ((with_reducible refine br_f ?sc ?_); case sc => exact sideB) | ((with_reducible refine br_t ?sc ?_); case sc => exact sideB))
  refine And.intro (fun hc => ?_) (fun hc => ?_)
  · have hnf : ¬ fOk 1 l := by rw [efo]; intro hx; have := hx.2.2.2; rw [this] at hc; simp at hc
    repeat ((conv => whnf); first | with_reducible refine O_step ?_ | with_reducible refine S_step ?_ | with_reducible refine D_step ?_ | with_reducible refine RO.exit ?_ | with_reducible refine RO.ret ?_ | ((with_reducible refine And.intro ?sc ?_); case sc => exact side) | ((with_reducible refine br_f ?sc ?_); case sc => exact sideB) | ((with_reducible refine br_t ?sc ?_); case sc => exact sideB))
    exact fo_endN (.inr (.inl ⟨rfl, rfl⟩)) (.inr (.inl ⟨rfl, rfl⟩)) (by first | exact .inl rfl | exact .inr (.inl ⟨rfl, rfl⟩)) rfl rfl (h0 hnf)
  have hlen9 : (l.length : Int) = 11 + 4 * valAt l 9 2 := by simpa using hc
  have hf : fOk 1 l := by rw [efo]; exact ⟨hlen, by omega, by omega, hlen9⟩
  obtain ⟨n, hn⟩ := Int.eq_ofNat_of_zero_le hv9.1
  have hln : l.length = 11 + 4 * n := by omega
  have hnt : (valAt l 9 2).toNat = n := by rw [hn]; rfl
  have hfs : (fm1 l).sums = smF l n := by rw [← hnt]; rfl
  repeat ((conv => whnf); first | with_reducible refine O_step ?_ | with_reducible refine S_step ?_ | with_reducible refine D_step ?_ | with_reducible refine RO.exit ?_ | with_reducible refine RO.ret ?_ | ((with_reducible refine And.intro ?sc ?_); case sc => exact side) | ((with_reducible refine br_f ?sc ?_); case sc => exact sideB) | ((with_reducible refine br_t ?sc ?_); case sc => exact sideB))
  refine vR_at (b := l) (Y := l) (cY := c) (i := 0) (gi := 0) (off := 0) (j := 0) (n := 4) (o1 := false) rfl (by omega) (by rw [List.drop_zero, List.take_length]) hl (by omega) kl (by decide) (by decide) (by omega) ?_
  repeat ((conv => whnf); first | with_reducible refine O_step ?_ | with_reducible refine S_step ?_ | with_reducible refine D_step ?_ | with_reducible refine RO.exit ?_ | with_reducible refine RO.ret ?_ | ((with_reducible refine And.intro ?sc ?_); case sc => exact side) | ((with_reducible refine br_f ?sc ?_); case sc => exact sideB) | ((with_reducible refine br_t ?sc ?_); case sc => exact sideB))
  refine vR_at (b := l) (Y := l) (cY := c) (i := 0) (gi := 0) (off := 0) (j := 5) (n := 4) (o1 := false) rfl (by omega) (by rw [List.drop_zero, List.take_length]) hl (by omega) kl (by decide) (by decide) (by omega) ?_
  repeat ((conv => whnf); first | with_reducible refine O_step ?_ | with_reducible refine S_step ?_ | with_reducible refine D_step ?_ | with_reducible refine RO.exit ?_ | with_reducible refine RO.ret ?_ | ((with_reducible refine And.intro ?sc ?_); case sc => exact side) | ((with_reducible refine br_f ?sc ?_); case sc => exact sideB) | ((with_reducible refine br_t ?sc ?_); case sc => exact sideB))
  refine WO.gov (σ := Nat × Nat × Nat) (fun (j, g, cc) => j ≤ n ∧ j ≤ cc) (fun (j, _) => n - j) (fun (j, g, cc) => [(1, .sl 0 0 0 l.length c), (4, .ptr 1 0 0), (6, .ptr 2 0 0), (7, .int .i64 ((11 + 4 * j : Nat) : Int))])
    (fun (j, g, cc) => [.one false 0 (.ints .u8 l c), .one true 0 (.cells (msL .ff .ff .ns .ns (zeroM 0))), .one true 0 (.cells (msL (.bo (decide (l.getD 4 0 = 1))) .ff (.sl 3 g 0 j cc) .ns (fm1 l))), .one true g (.ints .u32 (smF l j) cc)])
    (0, 0, 0) tb_ok mixed (by kernel_rfl) [(1, .sl 0 0 0 l.length c), (4, .ptr 1 0 0), (6, .ptr 2 0 0), (7, .int .i64 11)] _ ⟨Nat.zero_le _, Nat.zero_le _⟩ (And.intro rfl (And.intro rfl (And.intro rfl (And.intro rfl (trivial))))) rfl
    (Vw.cells (i := 2) (g := 0) (cs' := msL (.bo (decide (l.getD 4 0 = 1))) .ff (.sl 3 0 0 0 0) .ns (fm1 l)) (x := .ints .u32 [] 0) rfl (msL_cn (cnV_refl _ _) (cnV_refl _ _) (cnV_nsl _) (cnV_refl _ _)) ⟨rfl, rfl⟩) (And.intro rfl (And.intro rfl (And.intro rfl (And.intro rfl (trivial))))) (fun _ => rfl) (fun _ => rfl) (fun _ => ⟨trivial, rfl, rfl, trivial, trivial⟩) ?_
  rintro ⟨j, g, cc⟩ ⟨hj, hcc⟩ d
  have hsl := smF_len l j
  repeat ((conv => whnf); first | with_reducible refine O_step ?_ | with_reducible refine S_step ?_ | with_reducible refine D_step ?_ | with_reducible refine RO.exit ?_ | with_reducible refine RO.ret ?_ | ((with_reducible refine And.intro ?sc ?_); case sc => exact side) | ((with_reducible refine br_f ?sc ?_); case sc => exact sideB) | ((with_reducible refine br_t ?sc ?_); case sc => exact sideB))
  refine And.intro (fun hb => ?_) (fun hb => ?_)
  · have hb' : ((11 + 4 * j : Nat) : Int) < l.length := of_decide_eq_true hb
    repeat ((conv => whnf); first | with_reducible refine O_step ?_ | with_reducible refine S_step ?_ | with_reducible refine D_step ?_ | with_reducible refine RO.exit ?_ | with_reducible refine RO.ret ?_ | ((with_reducible refine And.intro ?sc ?_); case sc => exact side) | ((with_reducible refine br_f ?sc ?_); case sc => exact sideB) | ((with_reducible refine br_t ?sc ?_); case sc => exact sideB))
    refine vR_at (b := l) (Y := l) (cY := c) (i := 0) (gi := 0) (off := 0) (j := 11 + 4 * j) (n := 4) (o1 := false) rfl (by omega) (by rw [List.drop_zero, List.take_length]) hl (by omega) kl (by decide) (by decide) (by omega) ?_
    repeat ((conv => whnf); first | with_reducible refine O_step ?_ | with_reducible refine S_step ?_ | with_reducible refine D_step ?_ | with_reducible refine RO.exit ?_ | with_reducible refine RO.ret ?_ | ((with_reducible refine And.intro ?sc ?_); case sc => exact side) | ((with_reducible refine br_f ?sc ?_); case sc => exact sideB) | ((with_reducible refine br_t ?sc ?_); case sc => exact sideB))
    intro zs hzs
    obtain rfl : zs = [valAt l (11 + 4 * j) 4] := hzs
    repeat ((conv => whnf); first | with_reducible refine O_step ?_ | with_reducible refine S_step ?_ | with_reducible refine D_step ?_ | with_reducible refine RO.exit ?_ | with_reducible refine RO.ret ?_ | ((with_reducible refine And.intro ?sc ?_); case sc => exact side) | ((with_reducible refine br_f ?sc ?_); case sc => exact sideB) | ((with_reducible refine br_t ?sc ?_); case sc => exact sideB))
    intro c3 k3
    repeat ((conv => whnf); first | with_reducible refine O_step ?_ | with_reducible refine S_step ?_ | with_reducible refine D_step ?_ | with_reducible refine RO.exit ?_ | with_reducible refine RO.ret ?_ | ((with_reducible refine And.intro ?sc ?_); case sc => exact side) | ((with_reducible refine br_f ?sc ?_); case sc => exact sideB) | ((with_reducible refine br_t ?sc ?_); case sc => exact sideB))
    refine RO.same (j + 1, g + 1, c3) ⟨by omega, k3⟩ (show n - (j + 1) < n - j by omega) (And.intro rfl (And.intro rfl (And.intro rfl (And.intro ?_ trivial)))) (And.intro rfl (And.intro rfl (And.intro rfl (And.intro ?_ trivial))))
    · show AV.int .i64 (((11 + 4 * (j + 1) : Nat) : Int)) = AV.int .i64 (((11 + 4 * j : Nat) : Int) + 4)
      rw [show ((11 + 4 * (j + 1) : Nat) : Int) = ((11 + 4 * j : Nat) : Int) + 4 by omega]
    · show AO.one true (g + 1) (.ints .u32 (smF l (j + 1)) c3) = AO.one true (g + 1) (.ints .u32 (smF l j ++ [valAt l (11 + 4 * j) 4]) c3)
      rw [smF_succ]
  · have hb' : ¬ ((11 + 4 * j : Nat) : Int) < l.length := of_decide_eq_false hb
    obtain rfl : j = n := by omega
    repeat ((conv => whnf); first | with_reducible refine O_step ?_ | with_reducible refine S_step ?_ | with_reducible refine D_step ?_ | with_reducible refine RO.exit ?_ | with_reducible refine RO.ret ?_ | ((with_reducible refine And.intro ?sc ?_); case sc => exact side) | ((with_reducible refine br_f ?sc ?_); case sc => exact sideB) | ((with_reducible refine br_t ?sc ?_); case sc => exact sideB))
    exact fo_endS (m := fm1 l) (by rw [hfs, smF_len]) hfs (.inl rfl) (.inr (.inl ⟨rfl, rfl⟩)) (by first | exact .inl rfl | exact .inr (.inr ⟨rfl, rfl⟩)) rfl (by rw [hfs, smF_len]; exact hcc) (h1 hf)
theorem formR_call (hl : ∀ x ∈ l, in8 x) (ll : l.length ≤ 1000000000) (kl : l.length ≤ c) (ht : 1 ≤ ty ∧ ty ≤ 6)
    (h1 : fOk ty l → ∀ gS cS gD cD, (fmOf ty l).sums.length ≤ cS → (fmOf ty l).body.length ≤ cD → K (foV (fmOf ty l) gS cS gD cD true) (foH l c (fmOf ty l) gS cS gD cD))
    (h0 : ¬ fOk ty l → ∀ gS cS gD cD, (zeroM 0).sums.length ≤ cS → (zeroM 0).body.length ≤ cD → K (foV (zeroM 0) gS cS gD cD false) (foH l c (zeroM 0) gS cS gD cD)) :
    CallA Try.prog 27 [.int .u8 ty, .sl 0 0 0 l.length c] [.one false 0 (.ints .u8 l c)] K Kp := by
  obtain e | e | e | e | e | e : ty = 1 ∨ ty = 2 ∨ ty = 3 ∨ ty = 4 ∨ ty = 5 ∨ ty = 6 := by omega
  · exact formR1 hl ll kl e h1 h0
  · exact formR2 hl ll kl e h1 h0
  · exact formR3 hl ll kl e h1 h0
  · exact formR4 hl ll kl e h1 h0
  · exact formR5 hl ll kl e h1 h0
  · exact formR6 hl ll kl e h1 h0
/-- The same, told as Read asks for it. -/
theorem formR_at {M : AH} {b Y : List Int} {i gi off cY : Nat} {o1 : Bool} (hi : slot M i gi = some (o1, .ints .u8 Y cY)) (hc : off + c ≤ cY) (hY : l = (Y.drop off).take l.length) (hl : ∀ x ∈ l, in8 x) (ll : l.length ≤ 1000000000) (kl : l.length ≤ c) (ht : 1 ≤ ty ∧ ty ≤ 6)
    (h1 : ∀ gS cS gD cD, (readF ⟨false, l, zeroM ty⟩).bad = false → (readF ⟨false, l, zeroM ty⟩).l = [] → (readF ⟨false, l, zeroM ty⟩).m.sums.length ≤ cS → (readF ⟨false, l, zeroM ty⟩).m.body.length ≤ cD → K (.tup [mV (readF ⟨false, l, zeroM ty⟩).m M.length gS cS (M.length + 1) gD cD, .bo true]) (M ++ [.one true gS (.ints .u32 (readF ⟨false, l, zeroM ty⟩).m.sums cS), .one true gD (.ints .u8 (readF ⟨false, l, zeroM ty⟩).m.body cD)]))
    (h0 : ∀ gS cS gD cD, ¬ ((readF ⟨false, l, zeroM ty⟩).bad = false ∧ (readF ⟨false, l, zeroM ty⟩).l = []) → K (.tup [mV (zeroM 0) M.length gS cS (M.length + 1) gD cD, .bo false]) (M ++ [.one true gS (.ints .u32 [] cS), .one true gD (.ints .u8 [] cD)])) :
    CallA Try.prog 27 [.int .u8 ty, .sl i gi off l.length c] M K Kp := by
  refine CallA.lift [.win i gi off] (formR_call (c := c) (Kp := fun _ _ => False) (K := fun r M' => (fOk ty l ∧ ∃ gS cS gD cD, (fmOf ty l).sums.length ≤ cS ∧ (fmOf ty l).body.length ≤ cD ∧ r = foV (fmOf ty l) gS cS gD cD true ∧ M' = foH l c (fmOf ty l) gS cS gD cD) ∨ (¬ fOk ty l ∧ ∃ gS cS gD cD, r = foV (zeroM 0) gS cS gD cD false ∧ M' = foH l c (zeroM 0) gS cS gD cD)) hl ll kl ht
    (fun hf gS cS gD cD a b => .inl ⟨hf, gS, cS, gD, cD, a, b, rfl, rfl⟩) (fun hf gS cS gD cD a b => .inr ⟨hf, gS, cS, gD, cD, rfl, rfl⟩)) rfl rfl ⟨⟨_, _, _, rfl, hi, WinC.ints hc hY⟩, trivial⟩ ⟨trivial, trivial⟩ ?_ (fun _ _ h => h.elim)
  rintro r M' (⟨hf, gS, cS, gD, cD, a, b, rfl, rfl⟩ | ⟨hf, gS, cS, gD, cD, rfl, rfl⟩)
  · refine ⟨⟨rfl, rfl⟩, ?_⟩
    have e := form_ok hl ht hf
    have := h1 gS cS gD cD (by rw [e]) (by rw [e]) (by rw [e]; exact a) (by rw [e]; exact b)
    rw [e] at this
    exact this
  · refine ⟨⟨rfl, rfl⟩, ?_⟩
    exact h0 gS cS gD cD (fun k => hf (form_no hl ht k.1 k.2))
end

end Go.Proofs.Ytedlpkibdjccdaa
