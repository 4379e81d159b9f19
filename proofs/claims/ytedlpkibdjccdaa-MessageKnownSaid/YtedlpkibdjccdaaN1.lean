/- vignetteref23.Same. -/
import Derived.Test.YtedlpkibdjccdaaMp

import Derived.Test.YtedlpkibdjccdaaM17

import Derived.Test.YtedlpkibdjccdaaM20

set_option linter.unusedVariables false

set_option linter.unusedSimpArgs false

open Go.RowKit

namespace Go.Proofs.Ytedlpkibdjccdaa

set_option maxRecDepth 10000

section

variable {K Kp : AV → AH → Prop}

/-- Two messages' slices. -/
abbrev sm4 (a b : Msg) (c0 c1 c2 c3 : Nat) : AH := [.one false 0 (.ints .u32 a.sums c0), .one false 0 (.ints .u8 a.body c1), .one false 0 (.ints .u32 b.sums c2), .one false 0 (.ints .u8 b.body c3)]

abbrev sm6 (a b : Msg) (c0 c1 c2 c3 : Nat) : AH := [.one false 0 (.ints .u32 a.sums c0), .one false 0 (.ints .u8 a.body c1), .one false 0 (.ints .u32 b.sums c2), .one false 0 (.ints .u8 b.body c3),
  .one true 0 (.cells (msL (.bo a.has) (.bo a.full) (.sl 0 0 0 a.sums.length c0) (.sl 1 0 0 a.body.length c1) a)), .one true 0 (.cells (msL (.bo b.has) (.bo b.full) (.sl 2 0 0 b.sums.length c2) (.sl 3 0 0 b.body.length c3) b))]
theorem pick4 {a b : Msg} {c0 c1 c2 c3 : Nat} {r : Bool} {E : AH} (h : K (.bo r) (sm4 a b c0 c1 c2 c3)) : ∃ t r' N, PickA 4 (.bo r) (sm4 a b c0 c1 c2 c3 ++ E) t r' N ∧ K r' N :=
  ⟨_, _, _, pick_id (M := sm4 a b c0 c1 c2 c3) ⟨trivial, trivial, trivial, trivial, trivial⟩ (by simp [AO.isOwn, AO.tag0]) rfl, h⟩
theorem sameR_call {a b : Msg} {c0 c1 c2 c3 : Nat} (oa : okM a) (ob : okM b) (la : a.sums.length ≤ 1000000000 ∧ a.body.length ≤ 1000000000) (lb : b.sums.length ≤ 1000000000 ∧ b.body.length ≤ 1000000000) (h : K (.bo (decide (a = b))) (sm4 a b c0 c1 c2 c3)) :
    CallA Try.prog 13 [mV a 0 0 c0 1 0 c1, mV b 2 0 c2 3 0 c3] (sm4 a b c0 c1 c2 c3) K Kp := by
  have la1 := la.1
  have la2 := la.2
  have lb1 := lb.1
  have lb2 := lb.2
  refine CallA.post_pick ?_
  refine step13 (fun _ => [0, 2, 4, 5]) [] rfl ?_
  repeat ((conv => whnf); first | with_reducible refine O_step ?_ | with_reducible refine S_step ?_ | with_reducible refine D_step ?_ | with_reducible refine RO.exit ?_ | with_reducible refine RO.ret ?_ | ((with_reducible refine And.intro ?sc ?_); case sc => exact side) | ((with_reducible refine br_f ?sc ?_); case sc => exact sideB) | ((with_reducible refine br_t ?sc ?_); case sc => exact sideB))
  refine And.intro (fun hc => ?_) (fun hc_len => ?_)
  · have hne : a ≠ b := by rintro rfl; simp_all
    repeat ((conv => whnf); first | with_reducible refine O_step ?_ | with_reducible refine S_step ?_ | with_reducible refine D_step ?_ | with_reducible refine RO.exit ?_ | with_reducible refine RO.ret ?_ | ((with_reducible refine And.intro ?sc ?_); case sc => exact side) | ((with_reducible refine br_f ?sc ?_); case sc => exact sideB) | ((with_reducible refine br_t ?sc ?_); case sc => exact sideB))
    rw [decide_eq_false hne] at h
    exact pick4 (E := [_, _]) h
  have hlen0 : (a.sums.length : Int) = b.sums.length := by simpa using hc_len
  have hlen : a.sums.length = b.sums.length := by omega
  repeat ((conv => whnf); first | with_reducible refine O_step ?_ | with_reducible refine S_step ?_ | with_reducible refine D_step ?_ | with_reducible refine RO.exit ?_ | with_reducible refine RO.ret ?_ | ((with_reducible refine And.intro ?sc ?_); case sc => exact side) | ((with_reducible refine br_f ?sc ?_); case sc => exact sideB) | ((with_reducible refine br_t ?sc ?_); case sc => exact sideB))
  refine WO.go (σ := Nat) (fun j => j ≤ a.sums.length ∧ a.sums.take j = b.sums.take j) (fun j => a.sums.length - j) (fun j => [(2, .ptr 4 0 0), (3, .ptr 5 0 0), (5, .int .i64 j)]) (fun j => sm6 a b c0 c1 c2 c3)
    0 tb_ok mixed (by kernel_rfl) ⟨Nat.zero_le _, rfl⟩ (And.intro rfl (And.intro rfl (And.intro rfl (trivial)))) (And.intro rfl (And.intro rfl (And.intro rfl (And.intro rfl (And.intro rfl (And.intro rfl (trivial))))))) (fun _ => rfl) (fun _ => rfl) (fun _ => ⟨trivial, trivial, trivial, trivial, rfl, rfl, trivial⟩) ?_
  intro j hj d
  repeat ((conv => whnf); first | with_reducible refine O_step ?_ | with_reducible refine S_step ?_ | with_reducible refine D_step ?_ | with_reducible refine RO.exit ?_ | with_reducible refine RO.ret ?_ | ((with_reducible refine And.intro ?sc ?_); case sc => exact side) | ((with_reducible refine br_f ?sc ?_); case sc => exact sideB) | ((with_reducible refine br_t ?sc ?_); case sc => exact sideB))
  refine And.intro (fun hc => ?_) (fun hc => ?_)
  · have hc' : (j : Int) < a.sums.length := of_decide_eq_true hc
    have g1 : a.sums[j]? = some (a.sums.getD j 0) := by rw [List.getD_eq_getElem?_getD, List.getElem?_eq_getElem (by omega)]; rfl
    have g2 : b.sums[j]? = some (b.sums.getD j 0) := by rw [List.getD_eq_getElem?_getD, List.getElem?_eq_getElem (by omega)]; rfl
    repeat ((conv => whnf); first | with_reducible refine O_step ?_ | with_reducible refine S_step ?_ | with_reducible refine D_step ?_ | with_reducible refine RO.exit ?_ | with_reducible refine RO.ret ?_ | ((with_reducible refine And.intro ?sc ?_); case sc => exact side) | ((with_reducible refine br_f ?sc ?_); case sc => exact sideB) | ((with_reducible refine br_t ?sc ?_); case sc => exact sideB))
    refine And.intro (fun hx => ?_) (fun hx => ?_)
    · have hne : a ≠ b := by rintro rfl; simp at hx
      repeat ((conv => whnf); first | with_reducible refine O_step ?_ | with_reducible refine S_step ?_ | with_reducible refine D_step ?_ | with_reducible refine RO.exit ?_ | with_reducible refine RO.ret ?_ | ((with_reducible refine And.intro ?sc ?_); case sc => exact side) | ((with_reducible refine br_f ?sc ?_); case sc => exact sideB) | ((with_reducible refine br_t ?sc ?_); case sc => exact sideB))
      rw [decide_eq_false hne] at h
      exact pick4 (E := [_, _]) h
    · have hx' : a.sums.getD j 0 = b.sums.getD j 0 := by simpa using hx
      repeat ((conv => whnf); first | with_reducible refine O_step ?_ | with_reducible refine S_step ?_ | with_reducible refine D_step ?_ | with_reducible refine RO.exit ?_ | with_reducible refine RO.ret ?_ | ((with_reducible refine And.intro ?sc ?_); case sc => exact side) | ((with_reducible refine br_f ?sc ?_); case sc => exact sideB) | ((with_reducible refine br_t ?sc ?_); case sc => exact sideB))
      refine RO.same (j + 1) (And.intro (show j + 1 ≤ a.sums.length by omega) ?_) (show a.sums.length - (j + 1) < a.sums.length - j by omega) (And.intro rfl (And.intro rfl (And.intro rfl (trivial)))) (And.intro rfl (And.intro rfl (And.intro rfl (And.intro rfl (And.intro rfl (And.intro rfl (trivial)))))))
      rw [List.take_add_one, List.take_add_one, g1, g2, hj.2, hx']
  · have hc' : ¬ (j : Int) < a.sums.length := of_decide_eq_false hc
    have hj1 := hj.1
    obtain rfl : j = a.sums.length := by omega
    have hsums : a.sums = b.sums := by
      have := hj.2
      rw [List.take_length, hlen, List.take_length] at this
      exact this
    repeat ((conv => whnf); first | with_reducible refine O_step ?_ | with_reducible refine S_step ?_ | with_reducible refine D_step ?_ | with_reducible refine RO.exit ?_ | with_reducible refine RO.ret ?_ | ((with_reducible refine And.intro ?sc ?_); case sc => exact side) | ((with_reducible refine br_f ?sc ?_); case sc => exact sideB) | ((with_reducible refine br_t ?sc ?_); case sc => exact sideB))
    refine Iff.mpr and_comm (And.intro (fun hc => ?_) (fun hc_ty => ?_))
    · have hne : a ≠ b := by rintro rfl; simp_all
      repeat ((conv => whnf); first | with_reducible refine O_step ?_ | with_reducible refine S_step ?_ | with_reducible refine D_step ?_ | with_reducible refine RO.exit ?_ | with_reducible refine RO.ret ?_ | ((with_reducible refine And.intro ?sc ?_); case sc => exact side) | ((with_reducible refine br_f ?sc ?_); case sc => exact sideB) | ((with_reducible refine br_t ?sc ?_); case sc => exact sideB))
      rw [decide_eq_false hne] at h
      exact pick4 (E := [_, _]) h
    repeat ((conv => whnf); first | with_reducible refine O_step ?_ | with_reducible refine S_step ?_ | with_reducible refine D_step ?_ | with_reducible refine RO.exit ?_ | with_reducible refine RO.ret ?_ | ((with_reducible refine And.intro ?sc ?_); case sc => exact side) | ((with_reducible refine br_f ?sc ?_); case sc => exact sideB) | ((with_reducible refine br_t ?sc ?_); case sc => exact sideB))
    refine Iff.mpr and_comm (And.intro (fun hc => ?_) (fun hc_life => ?_))
    · have hne : a ≠ b := by rintro rfl; simp_all
      repeat ((conv => whnf); first | with_reducible refine O_step ?_ | with_reducible refine S_step ?_ | with_reducible refine D_step ?_ | with_reducible refine RO.exit ?_ | with_reducible refine RO.ret ?_ | ((with_reducible refine And.intro ?sc ?_); case sc => exact side) | ((with_reducible refine br_f ?sc ?_); case sc => exact sideB) | ((with_reducible refine br_t ?sc ?_); case sc => exact sideB))
      rw [decide_eq_false hne] at h
      exact pick4 (E := [_, _]) h
    repeat ((conv => whnf); first | with_reducible refine O_step ?_ | with_reducible refine S_step ?_ | with_reducible refine D_step ?_ | with_reducible refine RO.exit ?_ | with_reducible refine RO.ret ?_ | ((with_reducible refine And.intro ?sc ?_); case sc => exact side) | ((with_reducible refine br_f ?sc ?_); case sc => exact sideB) | ((with_reducible refine br_t ?sc ?_); case sc => exact sideB))
    refine Iff.mpr and_comm (And.intro (fun hc => ?_) (fun hc_frame => ?_))
    · have hne : a ≠ b := by rintro rfl; simp_all
      repeat ((conv => whnf); first | with_reducible refine O_step ?_ | with_reducible refine S_step ?_ | with_reducible refine D_step ?_ | with_reducible refine RO.exit ?_ | with_reducible refine RO.ret ?_ | ((with_reducible refine And.intro ?sc ?_); case sc => exact side) | ((with_reducible refine br_f ?sc ?_); case sc => exact sideB) | ((with_reducible refine br_t ?sc ?_); case sc => exact sideB))
      rw [decide_eq_false hne] at h
      exact pick4 (E := [_, _]) h
    repeat ((conv => whnf); first | with_reducible refine O_step ?_ | with_reducible refine S_step ?_ | with_reducible refine D_step ?_ | with_reducible refine RO.exit ?_ | with_reducible refine RO.ret ?_ | ((with_reducible refine And.intro ?sc ?_); case sc => exact side) | ((with_reducible refine br_f ?sc ?_); case sc => exact sideB) | ((with_reducible refine br_t ?sc ?_); case sc => exact sideB))
    refine Iff.mpr and_comm (And.intro (fun hc => ?_) (fun hc_base => ?_))
    · have hne : a ≠ b := by rintro rfl; simp_all
      repeat ((conv => whnf); first | with_reducible refine O_step ?_ | with_reducible refine S_step ?_ | with_reducible refine D_step ?_ | with_reducible refine RO.exit ?_ | with_reducible refine RO.ret ?_ | ((with_reducible refine And.intro ?sc ?_); case sc => exact side) | ((with_reducible refine br_f ?sc ?_); case sc => exact sideB) | ((with_reducible refine br_t ?sc ?_); case sc => exact sideB))
      rw [decide_eq_false hne] at h
      exact pick4 (E := [_, _]) h
    repeat ((conv => whnf); first | with_reducible refine O_step ?_ | with_reducible refine S_step ?_ | with_reducible refine D_step ?_ | with_reducible refine RO.exit ?_ | with_reducible refine RO.ret ?_ | ((with_reducible refine And.intro ?sc ?_); case sc => exact side) | ((with_reducible refine br_f ?sc ?_); case sc => exact sideB) | ((with_reducible refine br_t ?sc ?_); case sc => exact sideB))
    refine Iff.mpr and_comm (And.intro (fun hc => ?_) (fun hc_has => ?_))
    · have hne : a ≠ b := by rintro rfl; simp_all
      repeat ((conv => whnf); first | with_reducible refine O_step ?_ | with_reducible refine S_step ?_ | with_reducible refine D_step ?_ | with_reducible refine RO.exit ?_ | with_reducible refine RO.ret ?_ | ((with_reducible refine And.intro ?sc ?_); case sc => exact side) | ((with_reducible refine br_f ?sc ?_); case sc => exact sideB) | ((with_reducible refine br_t ?sc ?_); case sc => exact sideB))
      rw [decide_eq_false hne] at h
      exact pick4 (E := [_, _]) h
    repeat ((conv => whnf); first | with_reducible refine O_step ?_ | with_reducible refine S_step ?_ | with_reducible refine D_step ?_ | with_reducible refine RO.exit ?_ | with_reducible refine RO.ret ?_ | ((with_reducible refine And.intro ?sc ?_); case sc => exact side) | ((with_reducible refine br_f ?sc ?_); case sc => exact sideB) | ((with_reducible refine br_t ?sc ?_); case sc => exact sideB))
    refine Iff.mpr and_comm (And.intro (fun hc => ?_) (fun hc_full => ?_))
    · have hne : a ≠ b := by rintro rfl; simp_all
      repeat ((conv => whnf); first | with_reducible refine O_step ?_ | with_reducible refine S_step ?_ | with_reducible refine D_step ?_ | with_reducible refine RO.exit ?_ | with_reducible refine RO.ret ?_ | ((with_reducible refine And.intro ?sc ?_); case sc => exact side) | ((with_reducible refine br_f ?sc ?_); case sc => exact sideB) | ((with_reducible refine br_t ?sc ?_); case sc => exact sideB))
      rw [decide_eq_false hne] at h
      exact pick4 (E := [_, _]) h
    repeat ((conv => whnf); first | with_reducible refine O_step ?_ | with_reducible refine S_step ?_ | with_reducible refine D_step ?_ | with_reducible refine RO.exit ?_ | with_reducible refine RO.ret ?_ | ((with_reducible refine And.intro ?sc ?_); case sc => exact side) | ((with_reducible refine br_f ?sc ?_); case sc => exact sideB) | ((with_reducible refine br_t ?sc ?_); case sc => exact sideB))
    refine Iff.mpr and_comm (And.intro (fun hc => ?_) (fun hc_w => ?_))
    · have hne : a ≠ b := by rintro rfl; simp_all
      repeat ((conv => whnf); first | with_reducible refine O_step ?_ | with_reducible refine S_step ?_ | with_reducible refine D_step ?_ | with_reducible refine RO.exit ?_ | with_reducible refine RO.ret ?_ | ((with_reducible refine And.intro ?sc ?_); case sc => exact side) | ((with_reducible refine br_f ?sc ?_); case sc => exact sideB) | ((with_reducible refine br_t ?sc ?_); case sc => exact sideB))
      rw [decide_eq_false hne] at h
      exact pick4 (E := [_, _]) h
    repeat ((conv => whnf); first | with_reducible refine O_step ?_ | with_reducible refine S_step ?_ | with_reducible refine D_step ?_ | with_reducible refine RO.exit ?_ | with_reducible refine RO.ret ?_ | ((with_reducible refine And.intro ?sc ?_); case sc => exact side) | ((with_reducible refine br_f ?sc ?_); case sc => exact sideB) | ((with_reducible refine br_t ?sc ?_); case sc => exact sideB))
    refine Iff.mpr and_comm (And.intro (fun hc => ?_) (fun hc_h => ?_))
    · have hne : a ≠ b := by rintro rfl; simp_all
      repeat ((conv => whnf); first | with_reducible refine O_step ?_ | with_reducible refine S_step ?_ | with_reducible refine D_step ?_ | with_reducible refine RO.exit ?_ | with_reducible refine RO.ret ?_ | ((with_reducible refine And.intro ?sc ?_); case sc => exact side) | ((with_reducible refine br_f ?sc ?_); case sc => exact sideB) | ((with_reducible refine br_t ?sc ?_); case sc => exact sideB))
      rw [decide_eq_false hne] at h
      exact pick4 (E := [_, _]) h
    repeat ((conv => whnf); first | with_reducible refine O_step ?_ | with_reducible refine S_step ?_ | with_reducible refine D_step ?_ | with_reducible refine RO.exit ?_ | with_reducible refine RO.ret ?_ | ((with_reducible refine And.intro ?sc ?_); case sc => exact side) | ((with_reducible refine br_f ?sc ?_); case sc => exact sideB) | ((with_reducible refine br_t ?sc ?_); case sc => exact sideB))
    refine Iff.mpr and_comm (And.intro (fun hc => ?_) (fun hc_seq => ?_))
    · have hne : a ≠ b := by rintro rfl; simp_all
      repeat ((conv => whnf); first | with_reducible refine O_step ?_ | with_reducible refine S_step ?_ | with_reducible refine D_step ?_ | with_reducible refine RO.exit ?_ | with_reducible refine RO.ret ?_ | ((with_reducible refine And.intro ?sc ?_); case sc => exact side) | ((with_reducible refine br_f ?sc ?_); case sc => exact sideB) | ((with_reducible refine br_t ?sc ?_); case sc => exact sideB))
      rw [decide_eq_false hne] at h
      exact pick4 (E := [_, _]) h
    repeat ((conv => whnf); first | with_reducible refine O_step ?_ | with_reducible refine S_step ?_ | with_reducible refine D_step ?_ | with_reducible refine RO.exit ?_ | with_reducible refine RO.ret ?_ | ((with_reducible refine And.intro ?sc ?_); case sc => exact side) | ((with_reducible refine br_f ?sc ?_); case sc => exact sideB) | ((with_reducible refine br_t ?sc ?_); case sc => exact sideB))
    refine Iff.mpr and_comm (And.intro (fun hc => ?_) (fun hc_event => ?_))
    · have hne : a ≠ b := by rintro rfl; simp_all
      repeat ((conv => whnf); first | with_reducible refine O_step ?_ | with_reducible refine S_step ?_ | with_reducible refine D_step ?_ | with_reducible refine RO.exit ?_ | with_reducible refine RO.ret ?_ | ((with_reducible refine And.intro ?sc ?_); case sc => exact side) | ((with_reducible refine br_f ?sc ?_); case sc => exact sideB) | ((with_reducible refine br_t ?sc ?_); case sc => exact sideB))
      rw [decide_eq_false hne] at h
      exact pick4 (E := [_, _]) h
    repeat ((conv => whnf); first | with_reducible refine O_step ?_ | with_reducible refine S_step ?_ | with_reducible refine D_step ?_ | with_reducible refine RO.exit ?_ | with_reducible refine RO.ret ?_ | ((with_reducible refine And.intro ?sc ?_); case sc => exact side) | ((with_reducible refine br_f ?sc ?_); case sc => exact sideB) | ((with_reducible refine br_t ?sc ?_); case sc => exact sideB))
    intro zs hzs
    obtain rfl : zs = a.body := by rw [hzs]; exact List.take_length
    repeat ((conv => whnf); first | with_reducible refine O_step ?_ | with_reducible refine S_step ?_ | with_reducible refine D_step ?_ | with_reducible refine RO.exit ?_ | with_reducible refine RO.ret ?_ | ((with_reducible refine And.intro ?sc ?_); case sc => exact side) | ((with_reducible refine br_f ?sc ?_); case sc => exact sideB) | ((with_reducible refine br_t ?sc ?_); case sc => exact sideB))
    intro zs hzs
    obtain rfl : zs = b.body := by rw [hzs]; exact List.take_length
    repeat ((conv => whnf); first | with_reducible refine O_step ?_ | with_reducible refine S_step ?_ | with_reducible refine D_step ?_ | with_reducible refine RO.exit ?_ | with_reducible refine RO.ret ?_ | ((with_reducible refine And.intro ?sc ?_); case sc => exact side) | ((with_reducible refine br_f ?sc ?_); case sc => exact sideB) | ((with_reducible refine br_t ?sc ?_); case sc => exact sideB))
    have he : (a.body = b.body) ↔ (a = b) := ⟨fun hb => by cases a; cases b; simp_all, fun e => by rw [e]⟩
    rw [str_eq oa.body ob.body, decide_eq_decide.2 he]
    exact pick4 (E := [_, _]) h
theorem sameR_at {M : AH} {a b : Msg} {i0 g0 c0 i1 g1 c1 i2 g2 c2 i3 g3 c3 : Nat} {o0 o1 o2 o3 : Bool} (h0 : slot M i0 g0 = some (o0, .ints .u32 a.sums c0)) (h1 : slot M i1 g1 = some (o1, .ints .u8 a.body c1)) (h2 : slot M i2 g2 = some (o2, .ints .u32 b.sums c2)) (h3 : slot M i3 g3 = some (o3, .ints .u8 b.body c3))
    (oa : okM a) (ob : okM b) (la : a.sums.length ≤ 1000000000 ∧ a.body.length ≤ 1000000000) (lb : b.sums.length ≤ 1000000000 ∧ b.body.length ≤ 1000000000) (h : K (.bo (decide (a = b))) M) :
    CallA Try.prog 13 [mV a i0 g0 c0 i1 g1 c1, mV b i2 g2 c2 i3 g3 c3] M K Kp := by
  refine CallA.lift [.win i0 g0 0, .win i1 g1 0, .win i2 g2 0, .win i3 g3 0] (sameR_call (Kp := fun _ _ => False) (K := fun r M' => r = .bo (decide (a = b)) ∧ M' = sm4 a b c0 c1 c2 c3) oa ob la lb ⟨rfl, rfl⟩) rfl rfl
    ⟨⟨_, _, _, rfl, h0, winI0⟩, ⟨_, _, _, rfl, h1, winI0⟩, ⟨_, _, _, rfl, h2, winI0⟩, ⟨_, _, _, rfl, h3, winI0⟩, trivial⟩ ⟨trivial, trivial, trivial, trivial, trivial⟩ ?_ (fun _ _ h => h.elim)
  rintro r M' ⟨rfl, rfl⟩
  refine ⟨⟨rfl, rfl, rfl, rfl, rfl⟩, ?_⟩
  show K _ (M ++ [])
  rw [List.append_nil]; exact h
/-- The slices of a message that has the fields of its type alone. -/
inductive OfV (m : Msg) (s d : AV) : AV → AV → Prop
  | N : (ofM m).sums = [] → (ofM m).body = [] → OfV m s d .ns .ns
  | S : (ofM m).sums = m.sums → (ofM m).body = [] → OfV m s d s .ns
  | B : (ofM m).sums = [] → (ofM m).body = m.body → OfV m s d .ns d
/-- It as a value. -/
abbrev ofV (m : Msg) (sv dv : AV) : AV := .agg (msL (.bo (ofM m).has) (.bo (ofM m).full) sv dv (ofM m))

theorem ofM_ok {m : Msg} (o : okM m) : okM (ofM m) := by
  have z : ∀ t, in8 t → okM (zeroM t) := fun t ht => ⟨ht, (by decide : in32 0), (by decide : in32 0), (by decide : in32 0), (by decide : in16 0), (by decide : in16 0), (fun x hx => by cases hx), (by decide : in32 0), (by decide : in8 0), (by decide : in16 0), (by decide : in16 0), (by decide : in32 0), (fun x hx => by cases hx)⟩
  have zm := z m.ty o.ty
  unfold ofM
  repeat' split
  · exact {zm with life := o.life, frame := o.frame, sums := o.sums}
  · exact {zm with life := o.life, w := o.w, h := o.h, seq := o.seq}
  · exact {zm with base := o.base, frame := o.frame, body := o.body}
  · exact {zm with seq := o.seq, kind := o.kind, ex := o.ex, ey := o.ey, code := o.code}
  · exact {zm with seq := o.seq}
  · exact zm
theorem pick2 {m : Msg} {cS cB : Nat} {r : AV} {E : AH} (hr : r.nb 2 = true) (h : K r [.one false 0 (.ints .u32 m.sums cS), .one false 0 (.ints .u8 m.body cB)]) : ∃ t r' N, PickA 2 r (.one false 0 (.ints .u32 m.sums cS) :: .one false 0 (.ints .u8 m.body cB) :: E) t r' N ∧ K r' N :=
  ⟨_, _, _, pick_id (M := [.one false 0 (.ints .u32 m.sums cS), .one false 0 (.ints .u8 m.body cB)]) ⟨trivial, trivial, trivial⟩ (by simp [AO.isOwn, AO.tag0]) hr, h⟩
theorem sameOf_call {m : Msg} {cS cB : Nat} {sv dv : AV} (o : okM m) (ls : m.sums.length ≤ 1000000000) (lb : m.body.length ≤ 1000000000) (hv : OfV m (.sl 0 0 0 m.sums.length cS) (.sl 1 0 0 m.body.length cB) sv dv)
    (h : K (.bo (decide (m = ofM m))) [.one false 0 (.ints .u32 m.sums cS), .one false 0 (.ints .u8 m.body cB)]) :
    CallA Try.prog 13 [mV m 0 0 cS 1 0 cB, ofV m sv dv] [.one false 0 (.ints .u32 m.sums cS), .one false 0 (.ints .u8 m.body cB)] K Kp := by
  have hle := ofM_le m
  refine CallA.post_pick ?_
  cases hv with
  | N e1 e2 =>
    refine CallA.view ((Vw.canon (M := [.one false 0 (.ints .u32 m.sums cS), .one false 0 (.ints .u8 m.body cB)]) (x := .ints .u32 [] 0) (l' := [mV m 0 0 cS 1 0 cB, ofV m (.sl 2 0 0 (ofM m).sums.length 0) .ns]) ⟨rfl, rfl⟩
      (cnL_cons (cnV_refl _ _) (cnL_cons (cnV_agg (msL_cn (cnV_refl _ _) (cnV_refl _ _) (by rw [e1]; exact cnV_nsl _) (cnV_refl _ _))) (cnL_nil _)))).trans (Vw.canon (x := .ints .u8 [] 0) (l' := [mV m 0 0 cS 1 0 cB, ofV m (.sl 2 0 0 (ofM m).sums.length 0) (.sl 3 0 0 (ofM m).body.length 0)]) ⟨rfl, rfl⟩
      (cnL_cons (cnV_refl _ _) (cnL_cons (cnV_agg (msL_cn (cnV_refl _ _) (cnV_refl _ _) (cnV_refl _ _) (by rw [e2]; exact cnV_nsl _))) (cnL_nil _))))) ?_
    exact sameR_at (a := m) (b := ofM m) rfl rfl (by rw [e1]; rfl) (by rw [e2]; rfl) o (ofM_ok o) ⟨ls, lb⟩ ⟨by omega, by omega⟩ (pick2 rfl h)
  | S e1 e2 =>
    refine CallA.view (Vw.canon (M := [.one false 0 (.ints .u32 m.sums cS), .one false 0 (.ints .u8 m.body cB)]) (x := .ints .u8 [] 0) (l' := [mV m 0 0 cS 1 0 cB, ofV m (.sl 0 0 0 (ofM m).sums.length cS) (.sl 2 0 0 (ofM m).body.length 0)]) ⟨rfl, rfl⟩
      (cnL_cons (cnV_refl _ _) (cnL_cons (cnV_agg (msL_cn (cnV_refl _ _) (cnV_refl _ _) (by rw [e1]; exact cnV_refl _ _) (by rw [e2]; exact cnV_nsl _))) (cnL_nil _)))) ?_
    exact sameR_at (a := m) (b := ofM m) rfl rfl (by rw [e1]; rfl) (by rw [e2]; rfl) o (ofM_ok o) ⟨ls, lb⟩ ⟨by omega, by omega⟩ (pick2 rfl h)
  | B e1 e2 =>
    refine CallA.view (Vw.canon (M := [.one false 0 (.ints .u32 m.sums cS), .one false 0 (.ints .u8 m.body cB)]) (x := .ints .u32 [] 0) (l' := [mV m 0 0 cS 1 0 cB, ofV m (.sl 2 0 0 (ofM m).sums.length 0) (.sl 1 0 0 (ofM m).body.length cB)]) ⟨rfl, rfl⟩
      (cnL_cons (cnV_refl _ _) (cnL_cons (cnV_agg (msL_cn (cnV_refl _ _) (cnV_refl _ _) (by rw [e1]; exact cnV_nsl _) (by rw [e2]; exact cnV_refl _ _))) (cnL_nil _)))) ?_
    exact sameR_at (a := m) (b := ofM m) rfl rfl (by rw [e1]; rfl) (by rw [e2]; rfl) o (ofM_ok o) ⟨ls, lb⟩ ⟨by omega, by omega⟩ (pick2 rfl h)
theorem sameOf_at {M : AH} {m : Msg} {i gi cS j gj cB : Nat} {o1 o2 : Bool} {sv dv : AV} (hi : slot M i gi = some (o1, .ints .u32 m.sums cS)) (hj : slot M j gj = some (o2, .ints .u8 m.body cB))
    (o : okM m) (ls : m.sums.length ≤ 1000000000) (lb : m.body.length ≤ 1000000000) (hv : OfV m (.sl i gi 0 m.sums.length cS) (.sl j gj 0 m.body.length cB) sv dv) (h : K (.bo (decide (m = ofM m))) M) :
    CallA Try.prog 13 [mV m i gi cS j gj cB, ofV m sv dv] M K Kp := by
  have fin : ∀ r M', (r = AV.bo (decide (m = ofM m)) ∧ M' = [AO.one false 0 (.ints .u32 m.sums cS), .one false 0 (.ints .u8 m.body cB)]) → keepH [.win i gi 0, .win j gj 0] [AO.one false 0 (.ints .u32 m.sums cS), .one false 0 (.ints .u8 m.body cB)] M' ∧ K (r.rn [.win i gi 0, .win j gj 0] M.length) (setH [.win i gi 0, .win j gj 0] M.length [.win i gi 0, .win j gj 0] M' M) := by
    rintro r M' ⟨rfl, rfl⟩
    refine ⟨⟨rfl, rfl, rfl⟩, ?_⟩
    show K _ (M ++ [])
    rw [List.append_nil]; exact h
  cases hv with
  | N e1 e2 => exact CallA.lift [.win i gi 0, .win j gj 0] (sameOf_call (Kp := fun _ _ => False) (K := fun r M' => r = .bo (decide (m = ofM m)) ∧ M' = [.one false 0 (.ints .u32 m.sums cS), .one false 0 (.ints .u8 m.body cB)]) o ls lb (.N e1 e2) ⟨rfl, rfl⟩) rfl rfl ⟨⟨_, _, _, rfl, hi, winI0⟩, ⟨_, _, _, rfl, hj, winI0⟩, trivial⟩ ⟨trivial, trivial, trivial⟩ fin (fun _ _ h => h.elim)
  | S e1 e2 => exact CallA.lift [.win i gi 0, .win j gj 0] (sameOf_call (Kp := fun _ _ => False) (K := fun r M' => r = .bo (decide (m = ofM m)) ∧ M' = [.one false 0 (.ints .u32 m.sums cS), .one false 0 (.ints .u8 m.body cB)]) o ls lb (.S e1 e2) ⟨rfl, rfl⟩) rfl rfl ⟨⟨_, _, _, rfl, hi, winI0⟩, ⟨_, _, _, rfl, hj, winI0⟩, trivial⟩ ⟨trivial, trivial, trivial⟩ fin (fun _ _ h => h.elim)
  | B e1 e2 => exact CallA.lift [.win i gi 0, .win j gj 0] (sameOf_call (Kp := fun _ _ => False) (K := fun r M' => r = .bo (decide (m = ofM m)) ∧ M' = [.one false 0 (.ints .u32 m.sums cS), .one false 0 (.ints .u8 m.body cB)]) o ls lb (.B e1 e2) ⟨rfl, rfl⟩) rfl rfl ⟨⟨_, _, _, rfl, hi, winI0⟩, ⟨_, _, _, rfl, hj, winI0⟩, trivial⟩ ⟨trivial, trivial, trivial⟩ fin (fun _ _ h => h.elim)
/-- Is it no message at all? -/
theorem sameZ_call {m : Msg} {cS cB : Nat} (o : okM m) (ls : m.sums.length ≤ 1000000000) (lb : m.body.length ≤ 1000000000)
    (h : K (.bo (decide (m = zeroM 0))) [.one false 0 (.ints .u32 m.sums cS), .one false 0 (.ints .u8 m.body cB)]) :
    CallA Try.prog 13 [mV m 0 0 cS 1 0 cB, .agg (msL .ff .ff .ns .ns (zeroM 0))] [.one false 0 (.ints .u32 m.sums cS), .one false 0 (.ints .u8 m.body cB)] K Kp := by
  have oz : okM (zeroM 0) := ⟨(by decide : in8 0), (by decide : in32 0), (by decide : in32 0), (by decide : in32 0), (by decide : in16 0), (by decide : in16 0), (fun x hx => by cases hx), (by decide : in32 0), (by decide : in8 0), (by decide : in16 0), (by decide : in16 0), (by decide : in32 0), (fun x hx => by cases hx)⟩
  refine CallA.post_pick ?_
  refine CallA.view ((Vw.canon (M := [.one false 0 (.ints .u32 m.sums cS), .one false 0 (.ints .u8 m.body cB)]) (x := .ints .u32 [] 0) (l' := [mV m 0 0 cS 1 0 cB, .agg (msL (.bo false) (.bo false) (.sl 2 0 0 0 0) .ns (zeroM 0))]) ⟨rfl, rfl⟩
      (cnL_cons (cnV_refl _ _) (cnL_cons (cnV_agg (msL_cn (cnV_isB (b := false) (.inr (.inl ⟨rfl, rfl⟩))) (cnV_isB (b := false) (.inr (.inl ⟨rfl, rfl⟩))) (cnV_nsl _) (cnV_refl _ _))) (cnL_nil _)))).trans (Vw.canon (x := .ints .u8 [] 0) (l' := [mV m 0 0 cS 1 0 cB, .agg (msL (.bo false) (.bo false) (.sl 2 0 0 0 0) (.sl 3 0 0 0 0) (zeroM 0))]) ⟨rfl, rfl⟩
      (cnL_cons (cnV_refl _ _) (cnL_cons (cnV_agg (msL_cn (cnV_refl _ _) (cnV_refl _ _) (cnV_refl _ _) (cnV_nsl _))) (cnL_nil _))))) ?_
  exact sameR_at (a := m) (b := zeroM 0) rfl rfl rfl rfl o oz ⟨ls, lb⟩ ⟨by decide, by decide⟩ (pick2 rfl h)
theorem sameZ_at {M : AH} {m : Msg} {i gi cS j gj cB : Nat} {o1 o2 : Bool} (hi : slot M i gi = some (o1, .ints .u32 m.sums cS)) (hj : slot M j gj = some (o2, .ints .u8 m.body cB))
    (o : okM m) (ls : m.sums.length ≤ 1000000000) (lb : m.body.length ≤ 1000000000) (h : K (.bo (decide (m = zeroM 0))) M) :
    CallA Try.prog 13 [mV m i gi cS j gj cB, .agg (msL .ff .ff .ns .ns (zeroM 0))] M K Kp := by
  refine CallA.lift [.win i gi 0, .win j gj 0] (sameZ_call (Kp := fun _ _ => False) (K := fun r M' => r = .bo (decide (m = zeroM 0)) ∧ M' = [.one false 0 (.ints .u32 m.sums cS), .one false 0 (.ints .u8 m.body cB)]) o ls lb ⟨rfl, rfl⟩) rfl rfl ⟨⟨_, _, _, rfl, hi, winI0⟩, ⟨_, _, _, rfl, hj, winI0⟩, trivial⟩ ⟨trivial, trivial, trivial⟩ ?_ (fun _ _ h => h.elim)
  rintro r M' ⟨rfl, rfl⟩
  refine ⟨⟨rfl, rfl, rfl⟩, ?_⟩
  show K _ (M ++ [])
  rw [List.append_nil]; exact h
end

end Go.Proofs.Ytedlpkibdjccdaa
