/- Layer 23: over all fields when it reads, whatever the type (written by wip/m15.py). -/
import Derived.Test.YtedlpkibdjccdaaM14

set_option linter.unusedVariables false

set_option linter.unusedSimpArgs false

open Go.RowKit

namespace Go.Proofs.Ytedlpkibdjccdaa

set_option maxRecDepth 10000

/-- What reading answers, of a type that there is. -/
def readF (s : RSt) : RSt :=
  if s.m.ty = 1 then
    let t := frameF (hasF (lifeF s))
    let q := numS t.bad t.l
    let n := (rdV 2 t.bad t.l).toNat
    if q.1 = true then ⟨true, q.2, t.m⟩ else ⟨(stR q n).1, (stR q n).2, {t.m with sums := sumR q n}⟩
  else if s.m.ty = 2 then seqF (sizeF (lifeF s))
  else if s.m.ty = 3 then s
  else if s.m.ty = 4 then
    let t := fullF (frameF (baseF s))
    ⟨t.bad, [], {t.m with body := t.l}⟩
  else if s.m.ty = 5 then eventF (seqF s)
  else seqF s
/-- The slices of a page that has read. -/
inductive SlR (a : Msg) (p : Nat) : AV → AV → AO → Prop
  | N : a.sums = [] → a.body = [] → SlR a p .ns .ns (.one true 0 (.ints .u32 [] 0))
  | S : a.body = [] → SlR a p (.sl p 0 0 a.sums.length a.sums.length) .ns (.one true 0 (.ints .u32 a.sums a.sums.length))
  | B (g d : Nat) : a.sums = [] → a.body.length ≤ d → SlR a p .ns (.sl p g 0 a.body.length d) (.one true g (.ints .u8 a.body d))
/-- What is left of the bytes. -/
def isL (bv : AV) (l : List Int) : Prop := (∃ off c, bv = .sl 1 0 off l.length c) ∨ (bv = .ns ∧ l = [])

theorem eventF_s (s : RSt) : (eventF s).m.sums = s.m.sums ∧ (eventF s).m.body = s.m.body := ⟨rfl, rfl⟩
theorem sizeF_s (s : RSt) : (sizeF s).m.sums = s.m.sums ∧ (sizeF s).m.body = s.m.body := ⟨rfl, rfl⟩
theorem seqF_s (s : RSt) : (seqF s).m.sums = s.m.sums ∧ (seqF s).m.body = s.m.body := ⟨rfl, rfl⟩
theorem lifeF_s (s : RSt) : (lifeF s).m.sums = s.m.sums ∧ (lifeF s).m.body = s.m.body := ⟨rfl, rfl⟩
set_option maxHeartbeats 2000000 in
theorem overR_call {s : RSt} {off c cX : Nat} {X : List Int} {K Kp : AV → AH → Prop} (o : inX X off c s.l) (hcX : X.length ≤ cX) (ht : 1 ≤ s.m.ty ∧ s.m.ty ≤ 6) (hm : s.m = zeroM s.m.ty) (hb : s.bad = false)
    (h : ∀ c0' bv hv' fv' sv dv Z, isB c0' (readF s).bad → isL bv (readF s).l → isB hv' (readF s).m.has → isB fv' (readF s).m.full → SlR (readF s).m 9 sv dv Z →
      K (.tup []) [.one true 0 (.cells (pgL c0' .ff bv hv' fv' sv dv (readF s).m)), .one false 0 (.ints .u8 X cX), .gone, .gone, .gone, .gone, .gone, .gone, .gone, Z]) :
    CallA Try.prog 20 [.ptr 0 0 0] (pgR .ff .ff .ff .ns .ns off c s.l X cX s.m) K Kp := by
  have hs0 : s.m.sums = [] ∧ s.m.body = [] ∧ s.m.has = false ∧ s.m.full = false := by rw [hm]; exact ⟨rfl, rfl, rfl, rfl⟩
  have ok0 : okR .ff .ff .ff .ns .ns s.bad off c s.l X s.m := ⟨o, .inr (.inl ⟨rfl, hb⟩), .inr (.inl ⟨rfl, hs0.2.2.1⟩), .inr (.inl ⟨rfl, hs0.2.2.2⟩), rfl, rfl⟩
  obtain e | e | e | e | e | e : s.m.ty = 1 ∨ s.m.ty = 2 ∨ s.m.ty = 3 ∨ s.m.ty = 4 ∨ s.m.ty = 5 ∨ s.m.ty = 6 := by omega
  · have ef : readF s = (if (numS (frameF (hasF (lifeF s))).bad (frameF (hasF (lifeF s))).l).1 = true then ⟨true, (numS (frameF (hasF (lifeF s))).bad (frameF (hasF (lifeF s))).l).2, (frameF (hasF (lifeF s))).m⟩ else ⟨(stR (numS (frameF (hasF (lifeF s))).bad (frameF (hasF (lifeF s))).l) (rdV 2 (frameF (hasF (lifeF s))).bad (frameF (hasF (lifeF s))).l).toNat).1, (stR (numS (frameF (hasF (lifeF s))).bad (frameF (hasF (lifeF s))).l) (rdV 2 (frameF (hasF (lifeF s))).bad (frameF (hasF (lifeF s))).l).toNat).2, {(frameF (hasF (lifeF s))).m with sums := sumR (numS (frameF (hasF (lifeF s))).bad (frameF (hasF (lifeF s))).l) (rdV 2 (frameF (hasF (lifeF s))).bad (frameF (hasF (lifeF s))).l).toNat}⟩) := by
      rw [readF, if_pos e]
    have hz : (frameF (hasF (lifeF s))).m.sums = [] ∧ (frameF (hasF (lifeF s))).m.body = [] := ⟨hs0.1, hs0.2.1⟩
    refine CallA.post_view ?_
    refine overR1 (s := s) ok0 e (fun a c0' hv' fv' off' c' k1 k2 k3 k4 => ?_) (fun n a1 a2 a3 c0' hv' fv' off' c' k1 k2 k3 k4 => ?_)
    · rw [if_pos a] at ef
      rw [ef] at h
      refine ⟨_, _, Vw.nils (x := .ints .u32 [] 0) ⟨rfl, rfl⟩ (And.intro (.inl rfl) trivial), ?_⟩
      exact h c0' _ hv' fv' .ns .ns _ k1 (.inl ⟨off', c', rfl⟩) k2 k3 (.N hz.1 hz.2)
    · rw [if_neg (by rw [a1]; simp)] at ef
      have hn : (rdV 2 (frameF (hasF (lifeF s))).bad (frameF (hasF (lifeF s))).l).toNat = n := by omega
      rw [hn] at ef
      rw [ef] at h
      have hl : (sumR (numS (frameF (hasF (lifeF s))).bad (frameF (hasF (lifeF s))).l) n).length = n := by simp [sumR]
      have key := h c0' _ hv' fv' _ .ns _ k1 (.inl ⟨off', c', rfl⟩) k2 k3 (.S hz.2)
      refine ⟨_, _, Vw.refl _ _, ?_⟩
      simp only [hl] at key
      exact key
  · have ef : readF s = seqF (sizeF (lifeF s)) := by simp [readF, e]
    have hz : (seqF (sizeF (lifeF s))).m.sums = [] ∧ (seqF (sizeF (lifeF s))).m.body = [] := by (try simp only [eventF_s, sizeF_s, seqF_s, lifeF_s]); exact ⟨hs0.1, hs0.2.1⟩
    rw [ef] at h
    refine CallA.post_view ?_
    refine overR2 (s := s) ok0 e (fun c0' hv' fv' off' c' k => ?_)
    refine ⟨_, _, Vw.nils (x := .ints .u32 [] 0) ⟨rfl, rfl⟩ (And.intro (.inl rfl) trivial), ?_⟩
    exact h c0' _ hv' fv' .ns .ns _ k.kc (.inl ⟨off', c', rfl⟩) k.kh k.kf (.N hz.1 hz.2)
  · have ef : readF s = s := by simp [readF, e]
    have hz : (s).m.sums = [] ∧ (s).m.body = [] := by (try simp only [eventF_s, sizeF_s, seqF_s, lifeF_s]); exact ⟨hs0.1, hs0.2.1⟩
    rw [ef] at h
    refine CallA.post_view ?_
    refine overR3 (s := s) ok0 e (fun c0' hv' fv' off' c' k => ?_)
    refine ⟨_, _, Vw.nils (x := .ints .u32 [] 0) ⟨rfl, rfl⟩ (And.intro (.inl rfl) trivial), ?_⟩
    exact h c0' _ hv' fv' .ns .ns _ k.kc (.inl ⟨off', c', rfl⟩) k.kh k.kf (.N hz.1 hz.2)
  · have ef : readF s = ⟨(fullF (frameF (baseF s))).bad, [], {(fullF (frameF (baseF s))).m with body := (fullF (frameF (baseF s))).l}⟩ := by simp [readF, e]
    rw [ef] at h
    refine overR4 (s := s) ok0 e hcX (fun c0' hv' fv' off' c' g' d' k kd => ?_)
    exact h c0' .ns hv' fv' .ns _ _ k.kc (.inr ⟨rfl, rfl⟩) k.kh k.kf (.B g' d' hs0.1 kd)
  · have ef : readF s = eventF (seqF s) := by simp [readF, e]
    have hz : (eventF (seqF s)).m.sums = [] ∧ (eventF (seqF s)).m.body = [] := by (try simp only [eventF_s, sizeF_s, seqF_s, lifeF_s]); exact ⟨hs0.1, hs0.2.1⟩
    rw [ef] at h
    refine CallA.post_view ?_
    refine overR5 (s := s) ok0 e (fun c0' hv' fv' off' c' k => ?_)
    refine ⟨_, _, Vw.nils (x := .ints .u32 [] 0) ⟨rfl, rfl⟩ (And.intro (.inl rfl) trivial), ?_⟩
    exact h c0' _ hv' fv' .ns .ns _ k.kc (.inl ⟨off', c', rfl⟩) k.kh k.kf (.N hz.1 hz.2)
  · have ef : readF s = seqF s := by simp [readF, e]
    have hz : (seqF s).m.sums = [] ∧ (seqF s).m.body = [] := by (try simp only [eventF_s, sizeF_s, seqF_s, lifeF_s]); exact ⟨hs0.1, hs0.2.1⟩
    rw [ef] at h
    refine CallA.post_view ?_
    refine overR6 (s := s) ok0 e (fun c0' hv' fv' off' c' k => ?_)
    refine ⟨_, _, Vw.nils (x := .ints .u32 [] 0) ⟨rfl, rfl⟩ (And.intro (.inl rfl) trivial), ?_⟩
    exact h c0' _ hv' fv' .ns .ns _ k.kc (.inl ⟨off', c', rfl⟩) k.kh k.kf (.N hz.1 hz.2)
end Go.Proofs.Ytedlpkibdjccdaa
