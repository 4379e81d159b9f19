/- Layer 23: over, whatever the type. -/
import Derived.Test.YtedlpkibdjccdaaM12

import Derived.Test.YtedlpkibdjccdaaMp

set_option linter.unusedVariables false

set_option linter.unusedSimpArgs false

open Go.RowKit

namespace Go.Proofs.Ytedlpkibdjccdaa

set_option maxRecDepth 10000

theorem overW {c0 hv fv : AV} {g cb gs cS cB : Nat} {b : List Int} {m : Msg} {K Kp : AV → AH → Prop} (o : okW c0 hv fv cb cS cB b m) (ht : 1 ≤ m.ty ∧ m.ty ≤ 6) (hl : b.length ≤ 1000)
    (h : ∀ c0' hv' fv' g' cb', okW c0' hv' fv' cb' cS cB (b ++ bodyF m) m → K (.tup []) (pgW c0' hv' fv' g' cb' gs cS cB (b ++ bodyF m) m ++ [.gone, .gone, .gone, .gone, .gone, .gone, .gone])) :
    CallA Try.prog 20 [.ptr 0 0 0] (pgW c0 hv fv g cb gs cS cB b m) K Kp := by
  obtain e | e | e | e | e | e : m.ty = 1 ∨ m.ty = 2 ∨ m.ty = 3 ∨ m.ty = 4 ∨ m.ty = 5 ∨ m.ty = 6 := by omega
  · exact overW1 o e hl h
  · exact overW2 o e hl h
  · exact overW3 o e hl h
  · exact overW4 o e hl h
  · exact overW5 o e hl h
  · exact overW6 o e hl h

/-- The slices of a page that has read what was laid. -/
inductive SlY (m : Msg) (p : Nat) : AV → AV → AO → Prop
  | N : (ofM m).sums = [] → (ofM m).body = [] → SlY m p .ns .ns (.one true 0 (.ints .u32 [] 0))
  | S : (ofM m).body = [] → SlY m p (.sl p 0 0 (ofM m).sums.length (ofM m).sums.length) .ns (.one true 0 (.ints .u32 (ofM m).sums (ofM m).sums.length))
  | B (g d : Nat) : (ofM m).sums = [] → (ofM m).body.length ≤ d → SlY m p .ns (.sl p g 0 (ofM m).body.length d) (.one true g (.ints .u8 (ofM m).body d))
theorem bodyF_in8 {m : Msg} (o : okM m) : ∀ x ∈ bodyF m, in8 x := by
  intro x hx
  have hb := fun v k => beW_bound v k x
  have hs : x ∈ sumsB m.sums → in8 x := fun h => by
    rcases List.mem_append.1 h with h | h
    · exact hb _ _ h
    · obtain ⟨y, _, h⟩ := List.mem_flatMap.1 h; exact hb _ _ h
  simp only [bodyF] at hx
  split at hx
  · simp only [List.mem_append] at hx; rcases hx with ((h | h) | h) | h <;> first | exact hb _ _ h | exact hs h
  split at hx
  · simp only [List.mem_append] at hx; rcases hx with (h | h | h) | h <;> exact hb _ _ h
  split at hx
  · cases hx
  split at hx
  · simp only [List.mem_append] at hx; rcases hx with ((h | h) | h) | h <;> first | exact hb _ _ h | exact o.body x h
  split at hx
  · simp only [List.mem_append] at hx; rcases hx with h | ((h | h) | h) | h <;> exact hb _ _ h
  · exact hb _ _ hx

theorem overY {m : Msg} {c : Nat} {K Kp : AV → AH → Prop} (o : okM m) (ht : 1 ≤ m.ty ∧ m.ty ≤ 6) (hl : (bodyF m).length ≤ 1000000000) (hc : (bodyF m).length ≤ c) (hs : m.sums.length ≤ 256)
    (h : ∀ c0' bv hv' fv' sv dv Z, c0'.nb 11 = true → bv.nb 11 = true → isB hv' (ofM m).has → isB fv' (ofM m).full → SlY m 9 sv dv Z →
      K (.tup []) [.one true 0 (.cells (pgL c0' .ff bv hv' fv' sv dv (ofM m))), .one false 0 (.ints .u8 (bodyF m) c), .gone, .gone, .gone, .gone, .gone, .gone, .gone, Z]) :
    CallA Try.prog 20 [.ptr 0 0 0] (pgR .ff .ff .ff .ns .ns 0 c (bodyF m) (bodyF m) c (zeroM m.ty)) K Kp := by
  have okx : inX (bodyF m) 0 c (bodyF m) := ⟨bodyF_in8 o, hl, by omega, hc, by simp⟩
  have ok0 : okR .ff .ff .ff .ns .ns (rd0 m).bad 0 c (rd0 m).l (bodyF m) (rd0 m).m := ⟨okx, .inr (.inl ⟨rfl, rfl⟩), .inr (.inl ⟨rfl, rfl⟩), .inr (.inl ⟨rfl, rfl⟩), rfl, rfl⟩
  obtain e | e | e | e | e | e : m.ty = 1 ∨ m.ty = 2 ∨ m.ty = 3 ∨ m.ty = 4 ∨ m.ty = 5 ∨ m.ty = 6 := by omega
  · have e1 : bodyF m = beW m.life 4 ++ (beW (b2i m.has) 1 ++ (beW m.frame 4 ++ sumsB m.sums)) := by simp [bodyF, e]
    have es : frameF (hasF (lifeF (rd0 m))) = ⟨false, sumsB m.sums, {zeroM m.ty with life := m.life, has := m.has, frame := m.frame}⟩ := by
      rw [life_be o (s := rd0 m) rfl e1, has_be o rfl rfl, frame_be o rfl rfl]; rfl
    obtain ⟨q1, q2, q3, q4⟩ := sums_be o hs
    have eo : ofM m = {zeroM m.ty with life := m.life, has := m.has, frame := m.frame, sums := m.sums} := by simp [ofM, e]
    refine overR1 (s := rd0 m) ok0 e (fun a => ?_) (fun n a1 a2 a3 c0' hv' fv' off' c' k1 k2 k3 k4 => ?_)
    · rw [es] at a; rw [q1] at a; cases a
    · rw [es] at a2 k1 k2 k3 k4 ⊢
      have hn : n = m.sums.length := by have := a2.trans q2; omega
      subst hn
      rw [q3] at k1 k4 ⊢
      have k := h c0' (.sl 1 0 off' 0 c') hv' fv' (.sl 9 0 0 m.sums.length m.sums.length) .ns (.one true 0 (.ints .u32 m.sums m.sums.length)) (isB_nb k1 11) rfl (by rw [eo]; exact k2) (by rw [eo]; exact k3)
        (by have := SlY.S (m := m) (p := 9) (by rw [eo]; rfl); rw [eo] at this; exact this)
      rw [q4]
      rw [eo] at k
      exact k
  · have e1 : bodyF m = beW m.life 4 ++ ((beW m.w 2 ++ beW m.h 2) ++ (beW m.seq 4 ++ [])) := by simp [bodyF, e]
    have es : seqF (sizeF (lifeF (rd0 m))) = ⟨false, [], {zeroM m.ty with life := m.life, w := m.w, h := m.h, seq := m.seq}⟩ := by
      rw [life_be o (s := rd0 m) rfl e1, size_be o rfl rfl, seq_be o rfl rfl]; rfl
    have eo : ofM m = {zeroM m.ty with life := m.life, w := m.w, h := m.h, seq := m.seq} := by simp [ofM, e]
    refine CallA.post_view ?_
    refine overR2 (s := rd0 m) ok0 e (fun c0' hv' fv' off' c' k => ?_)
    rw [es] at k ⊢
    refine ⟨_, _, Vw.nils (x := .ints .u32 [] 0) ⟨rfl, rfl⟩ (And.intro (.inl rfl) trivial), ?_⟩
    have k1 := h c0' (.sl 1 0 off' 0 c') hv' fv' .ns .ns (.one true 0 (.ints .u32 [] 0)) (isB_nb k.kc 11) rfl (by rw [eo]; exact k.kh) (by rw [eo]; exact k.kf) (.N (by rw [eo]; rfl) (by rw [eo]; rfl))
    rw [eo] at k1
    exact k1
  · have e1 : bodyF m = [] := by simp [bodyF, e]
    have es : rd0 m = ⟨false, [], zeroM m.ty⟩ := by
      rw [rd0, e1]
    have eo : ofM m = zeroM m.ty := by simp [ofM, e]
    refine CallA.post_view ?_
    refine overR3 (s := rd0 m) ok0 e (fun c0' hv' fv' off' c' k => ?_)
    rw [es] at k ⊢
    refine ⟨_, _, Vw.nils (x := .ints .u32 [] 0) ⟨rfl, rfl⟩ (And.intro (.inl rfl) trivial), ?_⟩
    have k1 := h c0' (.sl 1 0 off' 0 c') hv' fv' .ns .ns (.one true 0 (.ints .u32 [] 0)) (isB_nb k.kc 11) rfl (by rw [eo]; exact k.kh) (by rw [eo]; exact k.kf) (.N (by rw [eo]; rfl) (by rw [eo]; rfl))
    rw [eo] at k1
    exact k1
  · have e1 : bodyF m = beW m.base 4 ++ (beW m.frame 4 ++ (beW (b2i m.full) 1 ++ m.body)) := by simp [bodyF, e]
    have es : fullF (frameF (baseF (rd0 m))) = ⟨false, m.body, {zeroM m.ty with base := m.base, frame := m.frame, full := m.full}⟩ := by
      rw [base_be o (s := rd0 m) rfl e1, frame_be o rfl rfl, full_be o rfl rfl]; rfl
    have eo : ofM m = {zeroM m.ty with base := m.base, frame := m.frame, full := m.full, body := m.body} := by simp [ofM, e]
    refine overR4 (s := rd0 m) ok0 e hc (fun c0' hv' fv' off' c' g' d' k kd => ?_)
    rw [es] at k kd ⊢
    have k1 := h c0' .ns hv' fv' .ns (.sl 9 g' 0 m.body.length d') (.one true g' (.ints .u8 m.body d')) (isB_nb k.kc 11) rfl (by rw [eo]; exact k.kh) (by rw [eo]; exact k.kf)
      (by have := SlY.B (m := m) (p := 9) g' d' (by rw [eo]; rfl) (by rw [eo]; exact kd); rw [eo] at this; exact this)
    rw [eo] at k1
    exact k1
  · have e1 : bodyF m = beW m.seq 4 ++ ((beW m.kind 1 ++ beW m.ex 2 ++ beW m.ey 2 ++ beW m.code 4) ++ []) := by simp [bodyF, e]
    have es : eventF (seqF (rd0 m)) = ⟨false, [], {zeroM m.ty with seq := m.seq, kind := m.kind, ex := m.ex, ey := m.ey, code := m.code}⟩ := by
      rw [seq_be o (s := rd0 m) rfl e1, event_be o rfl rfl]; rfl
    have eo : ofM m = {zeroM m.ty with seq := m.seq, kind := m.kind, ex := m.ex, ey := m.ey, code := m.code} := by simp [ofM, e]
    refine CallA.post_view ?_
    refine overR5 (s := rd0 m) ok0 e (fun c0' hv' fv' off' c' k => ?_)
    rw [es] at k ⊢
    refine ⟨_, _, Vw.nils (x := .ints .u32 [] 0) ⟨rfl, rfl⟩ (And.intro (.inl rfl) trivial), ?_⟩
    have k1 := h c0' (.sl 1 0 off' 0 c') hv' fv' .ns .ns (.one true 0 (.ints .u32 [] 0)) (isB_nb k.kc 11) rfl (by rw [eo]; exact k.kh) (by rw [eo]; exact k.kf) (.N (by rw [eo]; rfl) (by rw [eo]; rfl))
    rw [eo] at k1
    exact k1
  · have e1 : bodyF m = beW m.seq 4 ++ [] := by simp [bodyF, e]
    have es : seqF (rd0 m) = ⟨false, [], {zeroM m.ty with seq := m.seq}⟩ := by
      rw [seq_be o (s := rd0 m) rfl e1]; rfl
    have eo : ofM m = {zeroM m.ty with seq := m.seq} := by simp [ofM, e]
    refine CallA.post_view ?_
    refine overR6 (s := rd0 m) ok0 e (fun c0' hv' fv' off' c' k => ?_)
    rw [es] at k ⊢
    refine ⟨_, _, Vw.nils (x := .ints .u32 [] 0) ⟨rfl, rfl⟩ (And.intro (.inl rfl) trivial), ?_⟩
    have k1 := h c0' (.sl 1 0 off' 0 c') hv' fv' .ns .ns (.one true 0 (.ints .u32 [] 0)) (isB_nb k.kc 11) rfl (by rw [eo]; exact k.kh) (by rw [eo]; exact k.kf) (.N (by rw [eo]; rfl) (by rw [eo]; rfl))
    rw [eo] at k1
    exact k1
theorem overY_at {m : Msg} {M : AH} {i g c : Nat} {K Kp : AV → AH → Prop} (hi : M[i]? = some (.one true g (.ints .u8 (bodyF m) c))) (o : okM m) (ht : 1 ≤ m.ty ∧ m.ty ≤ 6) (hl : (bodyF m).length ≤ 1000000000) (hc : (bodyF m).length ≤ c) (hs : m.sums.length ≤ 256)
    (h : ∀ c0' bv hv' fv' sv dv Z, isB hv' (ofM m).has → isB fv' (ofM m).full → SlY m (M.length + 8) sv dv Z →
      K (.tup []) (M ++ ([.one true 0 (.cells (pgL c0' .ff bv hv' fv' sv dv (ofM m))), .gone, .gone, .gone, .gone, .gone, .gone, .gone, Z]))) :
    CallA Try.prog 20 [.ptr M.length 0 0] (M ++ [.one true 0 (.cells (pgL .ff .ff (.sl i g 0 (bodyF m).length c) .ff .ff .ns .ns (zeroM m.ty)))]) K Kp := by
  have hlt : i < M.length := (List.getElem?_eq_some_iff.1 hi).1
  refine CallA.lift [.own M.length, .win i g 0] (overY (c := c) (Kp := fun _ _ => False) (K := fun r M' => ∃ c0' bv hv' fv' sv dv Z, r = .tup [] ∧ isB hv' (ofM m).has ∧ isB fv' (ofM m).full ∧ SlY m 9 sv dv Z ∧
      M' = [.one true 0 (.cells (pgL c0' .ff bv hv' fv' sv dv (ofM m))), .one false 0 (.ints .u8 (bodyF m) c), .gone, .gone, .gone, .gone, .gone, .gone, .gone, Z]) o ht hl hc hs
    (fun c0' bv hv' fv' sv dv Z _ _ k1 k2 k3 => ⟨c0', bv, hv', fv', sv, dv, Z, rfl, k1, k2, k3, rfl⟩)) rfl ?_ ?_ ?_ ?_ (fun _ _ h => h.elim)
  · have : Nat.beq M.length i = false := by
      cases hb : Nat.beq M.length i with
      | false => rfl
      | true => have := Nat.eq_of_beq_eq_true hb; omega
    simp [apartT, TE.isOwn, TE.i, this, AV.w0l, AV.w0, w0T]
  · refine ⟨⟨?_, rfl⟩, ⟨_, true, _, rfl, ?_, winI0⟩, trivial⟩
    · simp [pgR, AO.rn, Cont.rn, AV.rnl, AV.rn, rnI, rnG, rnF, TE.i]
    · unfold slot
      rw [List.getElem?_append_left hlt, hi]
      simp [slotO]
  · exact ⟨by simp [AO.w0, Cont.w0, AV.w0l, AV.w0, w0T], trivial, trivial⟩
  · rintro r M' ⟨c0', bv, hv', fv', sv, dv, Z, rfl, k1, k2, k3, rfl⟩
    refine ⟨?_, ?_⟩
    · refine ⟨rfl, rfl, ?_⟩
      cases k3 <;> rfl
    · cases k3 with
      | N e1 e2 =>
        have := h (c0'.rn [.own M.length, .win i g 0] (M.length + 1)) (bv.rn [.own M.length, .win i g 0] (M.length + 1)) hv' fv' .ns .ns _ k1 k2 (.N e1 e2)
        simpa [setH, rnH, AO.rn, Cont.rn, AV.rnl, AV.rn, rnI, rnG, rnF, TE.i, isB_rn k1, isB_rn k2] using this
      | S e1 =>
        have := h (c0'.rn [.own M.length, .win i g 0] (M.length + 1)) (bv.rn [.own M.length, .win i g 0] (M.length + 1)) hv' fv' _ .ns _ k1 k2 (.S e1)
        simpa [setH, rnH, AO.rn, Cont.rn, AV.rnl, AV.rn, rnI, rnG, rnF, TE.i, isB_rn k1, isB_rn k2, Nat.add_assoc] using this
      | B g' d' e1 e2 =>
        have := h (c0'.rn [.own M.length, .win i g 0] (M.length + 1)) (bv.rn [.own M.length, .win i g 0] (M.length + 1)) hv' fv' .ns _ _ k1 k2 (.B g' d' e1 e2)
        simpa [setH, rnH, AO.rn, Cont.rn, AV.rnl, AV.rn, rnI, rnG, rnF, TE.i, isB_rn k1, isB_rn k2, Nat.add_assoc] using this
end Go.Proofs.Ytedlpkibdjccdaa
