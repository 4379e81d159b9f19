/- Layer 23: over all fields, when it reads (written by wip/m10.py). -/
import Derived.Test.YtedlpkibdjccdaaM9

set_option linter.unusedVariables false

set_option linter.unusedSimpArgs false

open Go.RowKit

namespace Go.Proofs.Ytedlpkibdjccdaa

set_option maxRecDepth 10000

/-- Where a reader stands: bad, bytes that are left, fields. -/
structure RSt where
  bad : Bool
  l : List Int
  m : Msg
def RSt.rd (s : RSt) (k : Nat) (m : Msg) : RSt := ⟨rdB k s.bad s.l, rdL k s.bad s.l, m⟩
def RSt.v (s : RSt) (k : Nat) : Int := rdV k s.bad s.l
def lifeF (s : RSt) : RSt := s.rd 4 {s.m with life := s.v 4}
def frameF (s : RSt) : RSt := s.rd 4 {s.m with frame := s.v 4}
def baseF (s : RSt) : RSt := s.rd 4 {s.m with base := s.v 4}
def seqF (s : RSt) : RSt := s.rd 4 {s.m with seq := s.v 4}
def hasF (s : RSt) : RSt := ⟨trB s.bad s.l, rdL 1 s.bad s.l, {s.m with has := decide (s.v 1 = 1)}⟩
def fullF (s : RSt) : RSt := ⟨trB s.bad s.l, rdL 1 s.bad s.l, {s.m with full := decide (s.v 1 = 1)}⟩
def sizeF (s : RSt) : RSt := let t := s.rd 2 {s.m with w := s.v 2}; t.rd 2 {t.m with h := t.v 2}
def eventF (s : RSt) : RSt :=
  let t := s.rd 1 {s.m with kind := s.v 1}
  let u := t.rd 2 {t.m with ex := t.v 2}
  let w := u.rd 2 {u.m with ey := u.v 2}
  w.rd 4 {w.m with code := w.v 4}

theorem pgR_nb {c0 hv fv : AV} {off c cX : Nat} {l X : List Int} {m : Msg} {sv dv : AV} {v1 v2 v3 : Bool} (h1 : isB c0 v1) (h2 : isB hv v2) (h3 : isB fv v3) (h4 : sv.nb 2 = true) (h5 : dv.nb 2 = true) : nbH 2 (pgR c0 hv fv sv dv off c l X cX m) :=
  ⟨by simp [AO.nb, Cont.nb, AV.nbl, AV.nb, isB_nb h1 2, isB_nb h2 2, isB_nb h3 2, h4, h5], trivial, trivial⟩
theorem isB_rn {v : AV} {b : Bool} (h : isB v b) (t : List TE) (m : Nat) : v.rn t m = v := by rcases h with rfl | ⟨rfl, _⟩ | ⟨rfl, _⟩ <;> rfl
theorem isB_w0 {v : AV} {b : Bool} (h : isB v b) (t : List TE) : v.w0 t = true := by rcases h with rfl | ⟨rfl, _⟩ | ⟨rfl, _⟩ <;> rfl
/-- A field that is read, with other objects behind. -/
theorem upR {f : Nat} {s s' : RSt} {c0 hv fv sv dv : AV} {off c cX : Nat} {X : List Int} {K Kp : AV → AH → Prop} (E : AH) (o : okR c0 hv fv sv dv s.bad off c s.l X s.m)
    (h0 : ∀ K : AV → AH → Prop, (∀ c0' hv' fv' off' c', okR c0' hv' fv' sv dv s'.bad off' c' s'.l X s'.m → K (.tup []) (pgR c0' hv' fv' sv dv off' c' s'.l X cX s'.m)) → CallA Try.prog f [.ptr 0 0 0] (pgR c0 hv fv sv dv off c s.l X cX s.m) K (fun _ _ => False))
    (h : ∀ c0' hv' fv' off' c', okR c0' hv' fv' sv dv s'.bad off' c' s'.l X s'.m → K (.tup []) (pgR c0' hv' fv' sv dv off' c' s'.l X cX s'.m ++ E)) :
    CallA Try.prog f [.ptr 0 0 0] (pgR c0 hv fv sv dv off c s.l X cX s.m ++ E) K Kp := by
  refine CallA.frame E (h0 (fun r M' => ∃ c0' hv' fv' off' c', r = .tup [] ∧ M' = pgR c0' hv' fv' sv dv off' c' s'.l X cX s'.m ∧ okR c0' hv' fv' sv dv s'.bad off' c' s'.l X s'.m)
    fun c0' hv' fv' off' c' k => ⟨c0', hv', fv', off', c', rfl, rfl, k⟩) rfl (pgR_nb o.kc o.kh o.kf o.ks o.kd) (by simp [pgR, AO.isOwn, AO.tag0]) ?_ (fun _ _ h => h.elim)
  rintro r M' ⟨c0', hv', fv', off', c', rfl, rfl, k⟩
  exact ⟨rfl, ⟨rfl, rfl, rfl⟩, pgR_nb k.kc k.kh k.kf k.ks k.kd, rfl, h c0' hv' fv' off' c' k⟩

section

variable {c0 hv fv : AV} {off c cX : Nat} {X : List Int} {s : RSt} {K Kp : AV → AH → Prop}

theorem upSums (E : AH) (o : okR c0 hv fv .ns .ns s.bad off c s.l X s.m)
    (h1 : (numS s.bad s.l).1 = true → ∀ c0' off' c', isB c0' true → inX X off' c' (numS s.bad s.l).2 → K (.tup []) (pgR c0' hv fv .ns .ns off' c' (numS s.bad s.l).2 X cX s.m ++ E))
    (h2 : ∀ n : Nat, (numS s.bad s.l).1 = false → (n : Int) = rdV 2 s.bad s.l → n ≤ 256 → ∀ c0' off' c', isB c0' (stR (numS s.bad s.l) n).1 → inX X off' c' (stR (numS s.bad s.l) n).2 →
      K (.tup []) (pgR c0' hv fv (.sl (2 + E.length) 0 0 n n) .ns off' c' (stR (numS s.bad s.l) n).2 X cX s.m ++ E ++ [.one true 0 (.ints .u32 (sumR (numS s.bad s.l) n) n)])) :
    CallA Try.prog 31 [.ptr 0 0 0] (pgR c0 hv fv .ns .ns off c s.l X cX s.m ++ E) K Kp := by
  refine CallA.lift [.own 0, .sha 1] (sumsR (cX := cX) (Kp := fun _ _ => False) (K := fun r M' => (∃ c0' off' c', r = .tup [] ∧ M' = pgR c0' hv fv .ns .ns off' c' (numS s.bad s.l).2 X cX s.m ∧ (numS s.bad s.l).1 = true ∧ isB c0' true ∧ inX X off' c' (numS s.bad s.l).2) ∨
      (∃ n : Nat, ∃ c0' off' c', r = .tup [] ∧ M' = pgR c0' hv fv (.sl 2 0 0 n n) .ns off' c' (stR (numS s.bad s.l) n).2 X cX s.m ++ [.one true 0 (.ints .u32 (sumR (numS s.bad s.l) n) n)] ∧ (numS s.bad s.l).1 = false ∧ (n : Int) = rdV 2 s.bad s.l ∧ n ≤ 256 ∧ isB c0' (stR (numS s.bad s.l) n).1 ∧ inX X off' c' (stR (numS s.bad s.l) n).2)) o
    (fun a c0' off' c' k1 k2 => .inl ⟨c0', off', c', rfl, rfl, a, k1, k2⟩) (fun n a1 a2 a3 c0' off' c' k1 k2 => .inr ⟨n, c0', off', c', rfl, rfl, a1, a2, a3, k1, k2⟩)) rfl rfl ?_ ?_ ?_ (fun _ _ h => h.elim)
  · refine ⟨⟨?_, rfl⟩, ⟨rfl, _, rfl, rfl⟩, trivial⟩
    simp [pgR, AO.rn, Cont.rn, AV.rnl, AV.rn, rnI, rnG, rnF, TE.i, isB_rn o.kc, isB_rn o.kh, isB_rn o.kf]
  · exact ⟨by simp [AO.w0, Cont.w0, AV.w0l, AV.w0, w0T, isB_w0 o.kc, isB_w0 o.kh, isB_w0 o.kf], trivial, trivial⟩
  · rintro r M' (⟨c0', off', c', rfl, rfl, a, k1, k2⟩ | ⟨n, c0', off', c', rfl, rfl, a1, a2, a3, k1, k2⟩)
    · refine ⟨⟨rfl, rfl, rfl⟩, ?_⟩
      have := h1 a c0' off' c' k1 k2
      simpa [pgR, setH, rnH, AO.rn, Cont.rn, AV.rnl, AV.rn, rnI, rnG, rnF, TE.i, isB_rn k1, isB_rn o.kh, isB_rn o.kf] using this
    · refine ⟨⟨rfl, rfl, rfl⟩, ?_⟩
      have := h2 n a1 a2 a3 c0' off' c' k1 k2
      rw [Nat.add_comm 2 E.length] at this
      simpa [pgR, setH, rnH, AO.rn, Cont.rn, AV.rnl, AV.rn, rnI, rnG, rnF, TE.i, isB_rn k1, isB_rn o.kh, isB_rn o.kf] using this
theorem upBody (E : AH) (hcX : X.length ≤ cX) (o : okR c0 hv fv .ns .ns s.bad off c s.l X s.m)
    (h : ∀ g' c', s.l.length ≤ c' → K (.tup []) (.one true 0 (.cells (pgL c0 .ff .ns hv fv .ns (.sl (2 + E.length) g' 0 s.l.length c') s.m)) :: .one false 0 (.ints .u8 X cX) :: (E ++ [.one true g' (.ints .u8 s.l c')]))) :
    CallA Try.prog 36 [.ptr 0 0 0] (pgR c0 hv fv .ns .ns off c s.l X cX s.m ++ E) K Kp := by
  refine CallA.lift [.own 0, .sha 1] (bodyR (cX := cX) (Kp := fun _ _ => False) (K := fun r M' => ∃ g' c', r = .tup [] ∧ s.l.length ≤ c' ∧ M' = [.one true 0 (.cells (pgL c0 .ff .ns hv fv .ns (.sl 2 g' 0 s.l.length c') s.m)), .one false 0 (.ints .u8 X cX), .one true g' (.ints .u8 s.l c')]) hcX o
    (fun g' c' k => ⟨g', c', rfl, k, rfl⟩)) rfl rfl ?_ ?_ ?_ (fun _ _ h => h.elim)
  · refine ⟨⟨?_, rfl⟩, ⟨rfl, _, rfl, rfl⟩, trivial⟩
    simp [pgR, AO.rn, Cont.rn, AV.rnl, AV.rn, rnI, rnG, rnF, TE.i, isB_rn o.kc, isB_rn o.kh, isB_rn o.kf]
  · exact ⟨by simp [AO.w0, Cont.w0, AV.w0l, AV.w0, w0T, isB_w0 o.kc, isB_w0 o.kh, isB_w0 o.kf], trivial, trivial⟩
  · rintro r M' ⟨g', c', rfl, k, rfl⟩
    refine ⟨⟨rfl, rfl, rfl⟩, ?_⟩
    have := h g' c' k
    rw [Nat.add_comm 2 E.length] at this
    simpa [pgR, setH, rnH, AO.rn, Cont.rn, AV.rnl, AV.rn, rnI, rnG, rnF, TE.i, isB_rn o.kc, isB_rn o.kh, isB_rn o.kf] using this
theorem overR1 (o : okR c0 hv fv .ns .ns s.bad off c s.l X s.m) (e : s.m.ty = 1)
    (q1 : (numS (frameF (hasF (lifeF s))).bad (frameF (hasF (lifeF s))).l).1 = true → ∀ c0' hv' fv' off' c', isB c0' true → isB hv' (frameF (hasF (lifeF s))).m.has → isB fv' (frameF (hasF (lifeF s))).m.full → inX X off' c' (numS (frameF (hasF (lifeF s))).bad (frameF (hasF (lifeF s))).l).2 → K (.tup []) (pgR c0' hv' fv' .ns .ns off' c' (numS (frameF (hasF (lifeF s))).bad (frameF (hasF (lifeF s))).l).2 X cX (frameF (hasF (lifeF s))).m ++ [.gone, .gone, .gone, .gone, .gone, .gone, .gone]))
    (q2 : ∀ n : Nat, (numS (frameF (hasF (lifeF s))).bad (frameF (hasF (lifeF s))).l).1 = false → (n : Int) = rdV 2 (frameF (hasF (lifeF s))).bad (frameF (hasF (lifeF s))).l → n ≤ 256 → ∀ c0' hv' fv' off' c', isB c0' (stR (numS (frameF (hasF (lifeF s))).bad (frameF (hasF (lifeF s))).l) n).1 → isB hv' (frameF (hasF (lifeF s))).m.has → isB fv' (frameF (hasF (lifeF s))).m.full → inX X off' c' (stR (numS (frameF (hasF (lifeF s))).bad (frameF (hasF (lifeF s))).l) n).2 →
      K (.tup []) (pgR c0' hv' fv' (.sl 9 0 0 n n) .ns off' c' (stR (numS (frameF (hasF (lifeF s))).bad (frameF (hasF (lifeF s))).l) n).2 X cX (frameF (hasF (lifeF s))).m ++ [.gone, .gone, .gone, .gone, .gone, .gone, .gone] ++ [.one true 0 (.ints .u32 (sumR (numS (frameF (hasF (lifeF s))).bad (frameF (hasF (lifeF s))).l) n) n)])) :
    CallA Try.prog 20 [.ptr 0 0 0] (pgR c0 hv fv .ns .ns off c s.l X cX s.m) K Kp := by
  refine CallA.post_sub ?_
  refine step20 (fun _ => [3]) [] rfl ?_
  repeat ((conv => whnf); first | with_reducible refine O_step ?_ | with_reducible refine S_step ?_ | with_reducible refine D_step ?_ | with_reducible refine RO.exit ?_ | with_reducible refine RO.ret ?_ | ((with_reducible refine And.intro ?sc ?_); case sc => exact side) | ((with_reducible refine br_f ?sc ?_); case sc => exact sideB) | ((with_reducible refine br_t ?sc ?_); case sc => exact sideB))
  refine fieldsR1 e (isB_nb o.kc 9) rfl rfl (by simp [AV.nbl, AV.nb, isB_nb o.kh 9, isB_nb o.kf 9]) ?_
  repeat ((conv => whnf); first | with_reducible refine O_step ?_ | with_reducible refine S_step ?_ | with_reducible refine D_step ?_ | with_reducible refine RO.exit ?_ | with_reducible refine RO.ret ?_ | ((with_reducible refine And.intro ?sc ?_); case sc => exact side) | ((with_reducible refine br_f ?sc ?_); case sc => exact sideB) | ((with_reducible refine br_t ?sc ?_); case sc => exact sideB))
  refine WO.rounds 5 tb_ok mixed (by kernel_rfl) ?_
  repeat ((conv => whnf); first | with_reducible refine O_step ?_ | with_reducible refine S_step ?_ | with_reducible refine D_step ?_ | with_reducible refine RO.exit ?_ | with_reducible refine RO.ret ?_ | ((with_reducible refine And.intro ?sc ?_); case sc => exact side) | ((with_reducible refine br_f ?sc ?_); case sc => exact sideB) | ((with_reducible refine br_t ?sc ?_); case sc => exact sideB))
  refine (show CallA Try.prog 28 [.ptr 0 0 0] (pgR c0 hv fv .ns .ns off c s.l X cX s.m ++ [.gone, .one true 0 (.cells [mth 28, mth 29, mth 30, mth 31]), .gone, .gone, .gone, .gone, .gone]) _ _ from ?_)
  refine upR (s := s) (s' := lifeF s) [.gone, .one true 0 (.cells [mth 28, mth 29, mth 30, mth 31]), .gone, .gone, .gone, .gone, .gone] o (fun K k => lifeR o (fun c off d k1 => k c _ _ off d k1)) (fun c1 h1 f1 p1 d1 o1 => ?_)
  repeat ((conv => whnf); first | with_reducible refine O_step ?_ | with_reducible refine S_step ?_ | with_reducible refine D_step ?_ | with_reducible refine RO.exit ?_ | with_reducible refine RO.ret ?_ | ((with_reducible refine And.intro ?sc ?_); case sc => exact side) | ((with_reducible refine br_f ?sc ?_); case sc => exact sideB) | ((with_reducible refine br_t ?sc ?_); case sc => exact sideB))
  refine (show CallA Try.prog 29 [.ptr 0 0 0] (pgR c1 h1 f1 .ns .ns p1 d1 (lifeF s).l X cX (lifeF s).m ++ [.gone, .one true 0 (.cells [mth 28, mth 29, mth 30, mth 31]), .gone, .gone, .gone, .gone, .gone]) _ _ from ?_)
  refine upR (s := lifeF s) (s' := hasF (lifeF s)) [.gone, .one true 0 (.cells [mth 28, mth 29, mth 30, mth 31]), .gone, .gone, .gone, .gone, .gone] o1 (fun K k => hasR o1 (fun c h off d i1 i2 i3 => k c h _ off d ⟨i3, i1, i2, o1.kf, o1.ks, o1.kd⟩)) (fun c2 h2 f2 p2 d2 o2 => ?_)
  repeat ((conv => whnf); first | with_reducible refine O_step ?_ | with_reducible refine S_step ?_ | with_reducible refine D_step ?_ | with_reducible refine RO.exit ?_ | with_reducible refine RO.ret ?_ | ((with_reducible refine And.intro ?sc ?_); case sc => exact side) | ((with_reducible refine br_f ?sc ?_); case sc => exact sideB) | ((with_reducible refine br_t ?sc ?_); case sc => exact sideB))
  refine (show CallA Try.prog 30 [.ptr 0 0 0] (pgR c2 h2 f2 .ns .ns p2 d2 (hasF (lifeF s)).l X cX (hasF (lifeF s)).m ++ [.gone, .one true 0 (.cells [mth 28, mth 29, mth 30, mth 31]), .gone, .gone, .gone, .gone, .gone]) _ _ from ?_)
  refine upR (s := hasF (lifeF s)) (s' := frameF (hasF (lifeF s))) [.gone, .one true 0 (.cells [mth 28, mth 29, mth 30, mth 31]), .gone, .gone, .gone, .gone, .gone] o2 (fun K k => frameR o2 (fun c off d k1 => k c _ _ off d k1)) (fun c3 h3 f3 p3 d3 o3 => ?_)
  repeat ((conv => whnf); first | with_reducible refine O_step ?_ | with_reducible refine S_step ?_ | with_reducible refine D_step ?_ | with_reducible refine RO.exit ?_ | with_reducible refine RO.ret ?_ | ((with_reducible refine And.intro ?sc ?_); case sc => exact side) | ((with_reducible refine br_f ?sc ?_); case sc => exact sideB) | ((with_reducible refine br_t ?sc ?_); case sc => exact sideB))
  refine (show CallA Try.prog 31 [.ptr 0 0 0] (pgR c3 h3 f3 .ns .ns p3 d3 (frameF (hasF (lifeF s))).l X cX (frameF (hasF (lifeF s))).m ++ [.gone, .one true 0 (.cells [mth 28, mth 29, mth 30, mth 31]), .gone, .gone, .gone, .gone, .gone]) _ _ from ?_)
  refine upSums (s := frameF (hasF (lifeF s))) [.gone, .one true 0 (.cells [mth 28, mth 29, mth 30, mth 31]), .gone, .gone, .gone, .gone, .gone] o3 (fun a c9 p9 d9 j1 j2 => ?_) (fun n a1 a2 a3 c9 p9 d9 j1 j2 => ?_)
  · repeat ((conv => whnf); first | with_reducible refine O_step ?_ | with_reducible refine S_step ?_ | with_reducible refine D_step ?_ | with_reducible refine RO.exit ?_ | with_reducible refine RO.ret ?_ | ((with_reducible refine And.intro ?sc ?_); case sc => exact side) | ((with_reducible refine br_f ?sc ?_); case sc => exact sideB) | ((with_reducible refine br_t ?sc ?_); case sc => exact sideB))
    refine Exists.intro _ (And.intro ?_ (And.intro ?_ (And.intro ?_ (q1 a c9 h3 f3 p9 d9 j1 o3.kh o3.kf j2))))
    · exact (And.intro rfl (And.intro rfl (And.intro trivial (And.intro trivial (And.intro trivial (And.intro trivial (And.intro trivial (And.intro trivial (And.intro trivial (trivial))))))))))
    · exact And.intro (by simp [AO.nb, Cont.nb, AV.nbl, AV.nb, isB_nb j1, isB_nb o3.kh, isB_nb o3.kf]) ⟨trivial, trivial, trivial, trivial, trivial, trivial, trivial, trivial, trivial⟩
    · rfl
  · repeat ((conv => whnf); first | with_reducible refine O_step ?_ | with_reducible refine S_step ?_ | with_reducible refine D_step ?_ | with_reducible refine RO.exit ?_ | with_reducible refine RO.ret ?_ | ((with_reducible refine And.intro ?sc ?_); case sc => exact side) | ((with_reducible refine br_f ?sc ?_); case sc => exact sideB) | ((with_reducible refine br_t ?sc ?_); case sc => exact sideB))
    refine Exists.intro _ (And.intro ?_ (And.intro ?_ (And.intro ?_ (q2 n a1 a2 a3 c9 h3 f3 p9 d9 j1 o3.kh o3.kf j2))))
    · exact (And.intro rfl (And.intro rfl (And.intro trivial (And.intro trivial (And.intro trivial (And.intro trivial (And.intro trivial (And.intro trivial (And.intro trivial (And.intro rfl (trivial)))))))))))
    · exact And.intro (by simp [AO.nb, Cont.nb, AV.nbl, AV.nb, isB_nb j1, isB_nb o3.kh, isB_nb o3.kf]) ⟨trivial, trivial, trivial, trivial, trivial, trivial, trivial, trivial, trivial, trivial⟩
    · rfl
theorem overR2 (o : okR c0 hv fv .ns .ns s.bad off c s.l X s.m) (e : s.m.ty = 2)
    (h : ∀ c0' hv' fv' off' c', okR c0' hv' fv' .ns .ns (seqF (sizeF (lifeF s))).bad off' c' (seqF (sizeF (lifeF s))).l X (seqF (sizeF (lifeF s))).m → K (.tup []) (pgR c0' hv' fv' .ns .ns off' c' (seqF (sizeF (lifeF s))).l X cX (seqF (sizeF (lifeF s))).m ++ [.gone, .gone, .gone, .gone, .gone, .gone, .gone])) :
    CallA Try.prog 20 [.ptr 0 0 0] (pgR c0 hv fv .ns .ns off c s.l X cX s.m) K Kp := by
  refine CallA.post_sub ?_
  refine step20 (fun _ => [4]) [] rfl ?_
  repeat ((conv => whnf); first | with_reducible refine O_step ?_ | with_reducible refine S_step ?_ | with_reducible refine D_step ?_ | with_reducible refine RO.exit ?_ | with_reducible refine RO.ret ?_ | ((with_reducible refine And.intro ?sc ?_); case sc => exact side) | ((with_reducible refine br_f ?sc ?_); case sc => exact sideB) | ((with_reducible refine br_t ?sc ?_); case sc => exact sideB))
  refine fieldsR2 e (isB_nb o.kc 9) rfl rfl (by simp [AV.nbl, AV.nb, isB_nb o.kh 9, isB_nb o.kf 9]) ?_
  repeat ((conv => whnf); first | with_reducible refine O_step ?_ | with_reducible refine S_step ?_ | with_reducible refine D_step ?_ | with_reducible refine RO.exit ?_ | with_reducible refine RO.ret ?_ | ((with_reducible refine And.intro ?sc ?_); case sc => exact side) | ((with_reducible refine br_f ?sc ?_); case sc => exact sideB) | ((with_reducible refine br_t ?sc ?_); case sc => exact sideB))
  refine WO.rounds 5 tb_ok mixed (by kernel_rfl) ?_
  repeat ((conv => whnf); first | with_reducible refine O_step ?_ | with_reducible refine S_step ?_ | with_reducible refine D_step ?_ | with_reducible refine RO.exit ?_ | with_reducible refine RO.ret ?_ | ((with_reducible refine And.intro ?sc ?_); case sc => exact side) | ((with_reducible refine br_f ?sc ?_); case sc => exact sideB) | ((with_reducible refine br_t ?sc ?_); case sc => exact sideB))
  refine (show CallA Try.prog 28 [.ptr 0 0 0] (pgR c0 hv fv .ns .ns off c s.l X cX s.m ++ [.gone, .gone, .one true 0 (.cells [mth 28, mth 32, mth 33]), .gone, .gone, .gone, .gone]) _ _ from ?_)
  refine upR (s := s) (s' := lifeF s) [.gone, .gone, .one true 0 (.cells [mth 28, mth 32, mth 33]), .gone, .gone, .gone, .gone] o (fun K k => lifeR o (fun c off d k1 => k c _ _ off d k1)) (fun c1 h1 f1 p1 d1 o1 => ?_)
  repeat ((conv => whnf); first | with_reducible refine O_step ?_ | with_reducible refine S_step ?_ | with_reducible refine D_step ?_ | with_reducible refine RO.exit ?_ | with_reducible refine RO.ret ?_ | ((with_reducible refine And.intro ?sc ?_); case sc => exact side) | ((with_reducible refine br_f ?sc ?_); case sc => exact sideB) | ((with_reducible refine br_t ?sc ?_); case sc => exact sideB))
  refine (show CallA Try.prog 32 [.ptr 0 0 0] (pgR c1 h1 f1 .ns .ns p1 d1 (lifeF s).l X cX (lifeF s).m ++ [.gone, .gone, .one true 0 (.cells [mth 28, mth 32, mth 33]), .gone, .gone, .gone, .gone]) _ _ from ?_)
  refine upR (s := lifeF s) (s' := sizeF (lifeF s)) [.gone, .gone, .one true 0 (.cells [mth 28, mth 32, mth 33]), .gone, .gone, .gone, .gone] o1 (fun K k => sizeR o1 (fun c off d k1 => k c _ _ off d k1)) (fun c2 h2 f2 p2 d2 o2 => ?_)
  repeat ((conv => whnf); first | with_reducible refine O_step ?_ | with_reducible refine S_step ?_ | with_reducible refine D_step ?_ | with_reducible refine RO.exit ?_ | with_reducible refine RO.ret ?_ | ((with_reducible refine And.intro ?sc ?_); case sc => exact side) | ((with_reducible refine br_f ?sc ?_); case sc => exact sideB) | ((with_reducible refine br_t ?sc ?_); case sc => exact sideB))
  refine (show CallA Try.prog 33 [.ptr 0 0 0] (pgR c2 h2 f2 .ns .ns p2 d2 (sizeF (lifeF s)).l X cX (sizeF (lifeF s)).m ++ [.gone, .gone, .one true 0 (.cells [mth 28, mth 32, mth 33]), .gone, .gone, .gone, .gone]) _ _ from ?_)
  refine upR (s := sizeF (lifeF s)) (s' := seqF (sizeF (lifeF s))) [.gone, .gone, .one true 0 (.cells [mth 28, mth 32, mth 33]), .gone, .gone, .gone, .gone] o2 (fun K k => seqR o2 (fun c off d k1 => k c _ _ off d k1)) (fun c3 h3 f3 p3 d3 o3 => ?_)
  repeat ((conv => whnf); first | with_reducible refine O_step ?_ | with_reducible refine S_step ?_ | with_reducible refine D_step ?_ | with_reducible refine RO.exit ?_ | with_reducible refine RO.ret ?_ | ((with_reducible refine And.intro ?sc ?_); case sc => exact side) | ((with_reducible refine br_f ?sc ?_); case sc => exact sideB) | ((with_reducible refine br_t ?sc ?_); case sc => exact sideB))
  refine Exists.intro _ (And.intro ?_ (And.intro ?_ (And.intro ?_ (h c3 h3 f3 p3 d3 o3))))
  · exact (And.intro rfl (And.intro rfl (And.intro trivial (And.intro trivial (And.intro trivial (And.intro trivial (And.intro trivial (And.intro trivial (And.intro trivial (trivial))))))))))
  · exact And.intro (by simp [AO.nb, Cont.nb, AV.nbl, AV.nb, isB_nb o3.kc, isB_nb o3.kh, isB_nb o3.kf]) ⟨trivial, trivial, trivial, trivial, trivial, trivial, trivial, trivial, trivial⟩
  · rfl
theorem overR3 (o : okR c0 hv fv .ns .ns s.bad off c s.l X s.m) (e : s.m.ty = 3)
    (h : ∀ c0' hv' fv' off' c', okR c0' hv' fv' .ns .ns s.bad off' c' s.l X s.m → K (.tup []) (pgR c0' hv' fv' .ns .ns off' c' s.l X cX s.m ++ [.gone, .gone, .gone, .gone, .gone, .gone, .gone])) :
    CallA Try.prog 20 [.ptr 0 0 0] (pgR c0 hv fv .ns .ns off c s.l X cX s.m) K Kp := by
  refine CallA.post_sub ?_
  refine step20 (fun _ => [5]) [] rfl ?_
  repeat ((conv => whnf); first | with_reducible refine O_step ?_ | with_reducible refine S_step ?_ | with_reducible refine D_step ?_ | with_reducible refine RO.exit ?_ | with_reducible refine RO.ret ?_ | ((with_reducible refine And.intro ?sc ?_); case sc => exact side) | ((with_reducible refine br_f ?sc ?_); case sc => exact sideB) | ((with_reducible refine br_t ?sc ?_); case sc => exact sideB))
  refine fieldsR3 e (isB_nb o.kc 9) rfl rfl (by simp [AV.nbl, AV.nb, isB_nb o.kh 9, isB_nb o.kf 9]) ?_
  repeat ((conv => whnf); first | with_reducible refine O_step ?_ | with_reducible refine S_step ?_ | with_reducible refine D_step ?_ | with_reducible refine RO.exit ?_ | with_reducible refine RO.ret ?_ | ((with_reducible refine And.intro ?sc ?_); case sc => exact side) | ((with_reducible refine br_f ?sc ?_); case sc => exact sideB) | ((with_reducible refine br_t ?sc ?_); case sc => exact sideB))
  refine WO.rounds 5 tb_ok mixed (by kernel_rfl) ?_
  repeat ((conv => whnf); first | with_reducible refine O_step ?_ | with_reducible refine S_step ?_ | with_reducible refine D_step ?_ | with_reducible refine RO.exit ?_ | with_reducible refine RO.ret ?_ | ((with_reducible refine And.intro ?sc ?_); case sc => exact side) | ((with_reducible refine br_f ?sc ?_); case sc => exact sideB) | ((with_reducible refine br_t ?sc ?_); case sc => exact sideB))
  refine Exists.intro _ (And.intro ?_ (And.intro ?_ (And.intro ?_ (h c0 hv fv off c o))))
  · exact (And.intro rfl (And.intro rfl (And.intro trivial (And.intro trivial (And.intro trivial (And.intro trivial (And.intro trivial (And.intro trivial (And.intro trivial (trivial))))))))))
  · exact And.intro (by simp [AO.nb, Cont.nb, AV.nbl, AV.nb, isB_nb o.kc, isB_nb o.kh, isB_nb o.kf]) ⟨trivial, trivial, trivial, trivial, trivial, trivial, trivial, trivial, trivial⟩
  · rfl
theorem overR4 (o : okR c0 hv fv .ns .ns s.bad off c s.l X s.m) (e : s.m.ty = 4)
    (hcX : X.length ≤ cX) (h : ∀ c0' hv' fv' off' c' g' d', okR c0' hv' fv' .ns .ns (fullF (frameF (baseF s))).bad off' c' (fullF (frameF (baseF s))).l X (fullF (frameF (baseF s))).m → (fullF (frameF (baseF s))).l.length ≤ d' → K (.tup []) (.one true 0 (.cells (pgL c0' .ff .ns hv' fv' .ns (.sl 9 g' 0 (fullF (frameF (baseF s))).l.length d') (fullF (frameF (baseF s))).m)) :: .one false 0 (.ints .u8 X cX) :: ([.gone, .gone, .gone, .gone, .gone, .gone, .gone] ++ [.one true g' (.ints .u8 (fullF (frameF (baseF s))).l d')]))) :
    CallA Try.prog 20 [.ptr 0 0 0] (pgR c0 hv fv .ns .ns off c s.l X cX s.m) K Kp := by
  refine CallA.post_sub ?_
  refine step20 (fun _ => [6]) [] rfl ?_
  repeat ((conv => whnf); first | with_reducible refine O_step ?_ | with_reducible refine S_step ?_ | with_reducible refine D_step ?_ | with_reducible refine RO.exit ?_ | with_reducible refine RO.ret ?_ | ((with_reducible refine And.intro ?sc ?_); case sc => exact side) | ((with_reducible refine br_f ?sc ?_); case sc => exact sideB) | ((with_reducible refine br_t ?sc ?_); case sc => exact sideB))
  refine fieldsR4 e (isB_nb o.kc 9) rfl rfl (by simp [AV.nbl, AV.nb, isB_nb o.kh 9, isB_nb o.kf 9]) ?_
  repeat ((conv => whnf); first | with_reducible refine O_step ?_ | with_reducible refine S_step ?_ | with_reducible refine D_step ?_ | with_reducible refine RO.exit ?_ | with_reducible refine RO.ret ?_ | ((with_reducible refine And.intro ?sc ?_); case sc => exact side) | ((with_reducible refine br_f ?sc ?_); case sc => exact sideB) | ((with_reducible refine br_t ?sc ?_); case sc => exact sideB))
  refine WO.rounds 5 tb_ok mixed (by kernel_rfl) ?_
  repeat ((conv => whnf); first | with_reducible refine O_step ?_ | with_reducible refine S_step ?_ | with_reducible refine D_step ?_ | with_reducible refine RO.exit ?_ | with_reducible refine RO.ret ?_ | ((with_reducible refine And.intro ?sc ?_); case sc => exact side) | ((with_reducible refine br_f ?sc ?_); case sc => exact sideB) | ((with_reducible refine br_t ?sc ?_); case sc => exact sideB))
  refine (show CallA Try.prog 34 [.ptr 0 0 0] (pgR c0 hv fv .ns .ns off c s.l X cX s.m ++ [.gone, .gone, .gone, .gone, .one true 0 (.cells [mth 34, mth 30, mth 35, mth 36]), .gone, .gone]) _ _ from ?_)
  refine upR (s := s) (s' := baseF s) [.gone, .gone, .gone, .gone, .one true 0 (.cells [mth 34, mth 30, mth 35, mth 36]), .gone, .gone] o (fun K k => baseR o (fun c off d k1 => k c _ _ off d k1)) (fun c1 h1 f1 p1 d1 o1 => ?_)
  repeat ((conv => whnf); first | with_reducible refine O_step ?_ | with_reducible refine S_step ?_ | with_reducible refine D_step ?_ | with_reducible refine RO.exit ?_ | with_reducible refine RO.ret ?_ | ((with_reducible refine And.intro ?sc ?_); case sc => exact side) | ((with_reducible refine br_f ?sc ?_); case sc => exact sideB) | ((with_reducible refine br_t ?sc ?_); case sc => exact sideB))
  refine (show CallA Try.prog 30 [.ptr 0 0 0] (pgR c1 h1 f1 .ns .ns p1 d1 (baseF s).l X cX (baseF s).m ++ [.gone, .gone, .gone, .gone, .one true 0 (.cells [mth 34, mth 30, mth 35, mth 36]), .gone, .gone]) _ _ from ?_)
  refine upR (s := baseF s) (s' := frameF (baseF s)) [.gone, .gone, .gone, .gone, .one true 0 (.cells [mth 34, mth 30, mth 35, mth 36]), .gone, .gone] o1 (fun K k => frameR o1 (fun c off d k1 => k c _ _ off d k1)) (fun c2 h2 f2 p2 d2 o2 => ?_)
  repeat ((conv => whnf); first | with_reducible refine O_step ?_ | with_reducible refine S_step ?_ | with_reducible refine D_step ?_ | with_reducible refine RO.exit ?_ | with_reducible refine RO.ret ?_ | ((with_reducible refine And.intro ?sc ?_); case sc => exact side) | ((with_reducible refine br_f ?sc ?_); case sc => exact sideB) | ((with_reducible refine br_t ?sc ?_); case sc => exact sideB))
  refine (show CallA Try.prog 35 [.ptr 0 0 0] (pgR c2 h2 f2 .ns .ns p2 d2 (frameF (baseF s)).l X cX (frameF (baseF s)).m ++ [.gone, .gone, .gone, .gone, .one true 0 (.cells [mth 34, mth 30, mth 35, mth 36]), .gone, .gone]) _ _ from ?_)
  refine upR (s := frameF (baseF s)) (s' := fullF (frameF (baseF s))) [.gone, .gone, .gone, .gone, .one true 0 (.cells [mth 34, mth 30, mth 35, mth 36]), .gone, .gone] o2 (fun K k => fullR o2 (fun c h off d i1 i2 i3 => k c _ h off d ⟨i3, i1, o2.kh, i2, o2.ks, o2.kd⟩)) (fun c3 h3 f3 p3 d3 o3 => ?_)
  repeat ((conv => whnf); first | with_reducible refine O_step ?_ | with_reducible refine S_step ?_ | with_reducible refine D_step ?_ | with_reducible refine RO.exit ?_ | with_reducible refine RO.ret ?_ | ((with_reducible refine And.intro ?sc ?_); case sc => exact side) | ((with_reducible refine br_f ?sc ?_); case sc => exact sideB) | ((with_reducible refine br_t ?sc ?_); case sc => exact sideB))
  refine (show CallA Try.prog 36 [.ptr 0 0 0] (pgR c3 h3 f3 .ns .ns p3 d3 (fullF (frameF (baseF s))).l X cX (fullF (frameF (baseF s))).m ++ [.gone, .gone, .gone, .gone, .one true 0 (.cells [mth 34, mth 30, mth 35, mth 36]), .gone, .gone]) _ _ from ?_)
  refine upBody (s := fullF (frameF (baseF s))) [.gone, .gone, .gone, .gone, .one true 0 (.cells [mth 34, mth 30, mth 35, mth 36]), .gone, .gone] hcX o3 (fun g9 d9 j1 => ?_)
  repeat ((conv => whnf); first | with_reducible refine O_step ?_ | with_reducible refine S_step ?_ | with_reducible refine D_step ?_ | with_reducible refine RO.exit ?_ | with_reducible refine RO.ret ?_ | ((with_reducible refine And.intro ?sc ?_); case sc => exact side) | ((with_reducible refine br_f ?sc ?_); case sc => exact sideB) | ((with_reducible refine br_t ?sc ?_); case sc => exact sideB))
  refine Exists.intro _ (And.intro ?_ (And.intro ?_ (And.intro ?_ (h c3 h3 f3 p3 d3 g9 d9 o3 j1))))
  · exact (And.intro rfl (And.intro rfl (And.intro trivial (And.intro trivial (And.intro trivial (And.intro trivial (And.intro trivial (And.intro trivial (And.intro trivial (And.intro rfl (trivial)))))))))))
  · exact And.intro (by simp [AO.nb, Cont.nb, AV.nbl, AV.nb, isB_nb o3.kc, isB_nb o3.kh, isB_nb o3.kf]) ⟨trivial, trivial, trivial, trivial, trivial, trivial, trivial, trivial, trivial, trivial⟩
  · rfl
theorem overR5 (o : okR c0 hv fv .ns .ns s.bad off c s.l X s.m) (e : s.m.ty = 5)
    (h : ∀ c0' hv' fv' off' c', okR c0' hv' fv' .ns .ns (eventF (seqF s)).bad off' c' (eventF (seqF s)).l X (eventF (seqF s)).m → K (.tup []) (pgR c0' hv' fv' .ns .ns off' c' (eventF (seqF s)).l X cX (eventF (seqF s)).m ++ [.gone, .gone, .gone, .gone, .gone, .gone, .gone])) :
    CallA Try.prog 20 [.ptr 0 0 0] (pgR c0 hv fv .ns .ns off c s.l X cX s.m) K Kp := by
  refine CallA.post_sub ?_
  refine step20 (fun _ => [7]) [] rfl ?_
  repeat ((conv => whnf); first | with_reducible refine O_step ?_ | with_reducible refine S_step ?_ | with_reducible refine D_step ?_ | with_reducible refine RO.exit ?_ | with_reducible refine RO.ret ?_ | ((with_reducible refine And.intro ?sc ?_); case sc => exact side) | ((with_reducible refine br_f ?sc ?_); case sc => exact sideB) | ((with_reducible refine br_t ?sc ?_); case sc => exact sideB))
  refine fieldsR5 e (isB_nb o.kc 9) rfl rfl (by simp [AV.nbl, AV.nb, isB_nb o.kh 9, isB_nb o.kf 9]) ?_
  repeat ((conv => whnf); first | with_reducible refine O_step ?_ | with_reducible refine S_step ?_ | with_reducible refine D_step ?_ | with_reducible refine RO.exit ?_ | with_reducible refine RO.ret ?_ | ((with_reducible refine And.intro ?sc ?_); case sc => exact side) | ((with_reducible refine br_f ?sc ?_); case sc => exact sideB) | ((with_reducible refine br_t ?sc ?_); case sc => exact sideB))
  refine WO.rounds 5 tb_ok mixed (by kernel_rfl) ?_
  repeat ((conv => whnf); first | with_reducible refine O_step ?_ | with_reducible refine S_step ?_ | with_reducible refine D_step ?_ | with_reducible refine RO.exit ?_ | with_reducible refine RO.ret ?_ | ((with_reducible refine And.intro ?sc ?_); case sc => exact side) | ((with_reducible refine br_f ?sc ?_); case sc => exact sideB) | ((with_reducible refine br_t ?sc ?_); case sc => exact sideB))
  refine (show CallA Try.prog 33 [.ptr 0 0 0] (pgR c0 hv fv .ns .ns off c s.l X cX s.m ++ [.gone, .gone, .gone, .gone, .gone, .one true 0 (.cells [mth 33, mth 37]), .gone]) _ _ from ?_)
  refine upR (s := s) (s' := seqF s) [.gone, .gone, .gone, .gone, .gone, .one true 0 (.cells [mth 33, mth 37]), .gone] o (fun K k => seqR o (fun c off d k1 => k c _ _ off d k1)) (fun c1 h1 f1 p1 d1 o1 => ?_)
  repeat ((conv => whnf); first | with_reducible refine O_step ?_ | with_reducible refine S_step ?_ | with_reducible refine D_step ?_ | with_reducible refine RO.exit ?_ | with_reducible refine RO.ret ?_ | ((with_reducible refine And.intro ?sc ?_); case sc => exact side) | ((with_reducible refine br_f ?sc ?_); case sc => exact sideB) | ((with_reducible refine br_t ?sc ?_); case sc => exact sideB))
  refine (show CallA Try.prog 37 [.ptr 0 0 0] (pgR c1 h1 f1 .ns .ns p1 d1 (seqF s).l X cX (seqF s).m ++ [.gone, .gone, .gone, .gone, .gone, .one true 0 (.cells [mth 33, mth 37]), .gone]) _ _ from ?_)
  refine upR (s := seqF s) (s' := eventF (seqF s)) [.gone, .gone, .gone, .gone, .gone, .one true 0 (.cells [mth 33, mth 37]), .gone] o1 (fun K k => eventR o1 (fun c off d k1 => k c _ _ off d k1)) (fun c2 h2 f2 p2 d2 o2 => ?_)
  repeat ((conv => whnf); first | with_reducible refine O_step ?_ | with_reducible refine S_step ?_ | with_reducible refine D_step ?_ | with_reducible refine RO.exit ?_ | with_reducible refine RO.ret ?_ | ((with_reducible refine And.intro ?sc ?_); case sc => exact side) | ((with_reducible refine br_f ?sc ?_); case sc => exact sideB) | ((with_reducible refine br_t ?sc ?_); case sc => exact sideB))
  refine Exists.intro _ (And.intro ?_ (And.intro ?_ (And.intro ?_ (h c2 h2 f2 p2 d2 o2))))
  · exact (And.intro rfl (And.intro rfl (And.intro trivial (And.intro trivial (And.intro trivial (And.intro trivial (And.intro trivial (And.intro trivial (And.intro trivial (trivial))))))))))
  · exact And.intro (by simp [AO.nb, Cont.nb, AV.nbl, AV.nb, isB_nb o2.kc, isB_nb o2.kh, isB_nb o2.kf]) ⟨trivial, trivial, trivial, trivial, trivial, trivial, trivial, trivial, trivial⟩
  · rfl
theorem overR6 (o : okR c0 hv fv .ns .ns s.bad off c s.l X s.m) (e : s.m.ty = 6)
    (h : ∀ c0' hv' fv' off' c', okR c0' hv' fv' .ns .ns (seqF s).bad off' c' (seqF s).l X (seqF s).m → K (.tup []) (pgR c0' hv' fv' .ns .ns off' c' (seqF s).l X cX (seqF s).m ++ [.gone, .gone, .gone, .gone, .gone, .gone, .gone])) :
    CallA Try.prog 20 [.ptr 0 0 0] (pgR c0 hv fv .ns .ns off c s.l X cX s.m) K Kp := by
  refine CallA.post_sub ?_
  refine step20 (fun _ => [8]) [] rfl ?_
  repeat ((conv => whnf); first | with_reducible refine O_step ?_ | with_reducible refine S_step ?_ | with_reducible refine D_step ?_ | with_reducible refine RO.exit ?_ | with_reducible refine RO.ret ?_ | ((with_reducible refine And.intro ?sc ?_); case sc => exact side) | ((with_reducible refine br_f ?sc ?_); case sc => exact sideB) | ((with_reducible refine br_t ?sc ?_); case sc => exact sideB))
  refine fieldsR6 e (isB_nb o.kc 9) rfl rfl (by simp [AV.nbl, AV.nb, isB_nb o.kh 9, isB_nb o.kf 9]) ?_
  repeat ((conv => whnf); first | with_reducible refine O_step ?_ | with_reducible refine S_step ?_ | with_reducible refine D_step ?_ | with_reducible refine RO.exit ?_ | with_reducible refine RO.ret ?_ | ((with_reducible refine And.intro ?sc ?_); case sc => exact side) | ((with_reducible refine br_f ?sc ?_); case sc => exact sideB) | ((with_reducible refine br_t ?sc ?_); case sc => exact sideB))
  refine WO.rounds 5 tb_ok mixed (by kernel_rfl) ?_
  repeat ((conv => whnf); first | with_reducible refine O_step ?_ | with_reducible refine S_step ?_ | with_reducible refine D_step ?_ | with_reducible refine RO.exit ?_ | with_reducible refine RO.ret ?_ | ((with_reducible refine And.intro ?sc ?_); case sc => exact side) | ((with_reducible refine br_f ?sc ?_); case sc => exact sideB) | ((with_reducible refine br_t ?sc ?_); case sc => exact sideB))
  refine (show CallA Try.prog 33 [.ptr 0 0 0] (pgR c0 hv fv .ns .ns off c s.l X cX s.m ++ [.gone, .gone, .gone, .gone, .gone, .gone, .one true 0 (.cells [mth 33])]) _ _ from ?_)
  refine upR (s := s) (s' := seqF s) [.gone, .gone, .gone, .gone, .gone, .gone, .one true 0 (.cells [mth 33])] o (fun K k => seqR o (fun c off d k1 => k c _ _ off d k1)) (fun c1 h1 f1 p1 d1 o1 => ?_)
  repeat ((conv => whnf); first | with_reducible refine O_step ?_ | with_reducible refine S_step ?_ | with_reducible refine D_step ?_ | with_reducible refine RO.exit ?_ | with_reducible refine RO.ret ?_ | ((with_reducible refine And.intro ?sc ?_); case sc => exact side) | ((with_reducible refine br_f ?sc ?_); case sc => exact sideB) | ((with_reducible refine br_t ?sc ?_); case sc => exact sideB))
  refine Exists.intro _ (And.intro ?_ (And.intro ?_ (And.intro ?_ (h c1 h1 f1 p1 d1 o1))))
  · exact (And.intro rfl (And.intro rfl (And.intro trivial (And.intro trivial (And.intro trivial (And.intro trivial (And.intro trivial (And.intro trivial (And.intro trivial (trivial))))))))))
  · exact And.intro (by simp [AO.nb, Cont.nb, AV.nbl, AV.nb, isB_nb o1.kc, isB_nb o1.kh, isB_nb o1.kf]) ⟨trivial, trivial, trivial, trivial, trivial, trivial, trivial, trivial, trivial⟩
  · rfl
end

end Go.Proofs.Ytedlpkibdjccdaa
