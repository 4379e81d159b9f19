/- Layer 23: over all fields, when it writes. -/
import Derived.Test.YtedlpkibdjccdaaM5

set_option linter.unusedVariables false

set_option linter.unusedSimpArgs false

open Go.RowKit

namespace Go.Proofs.Ytedlpkibdjccdaa

set_option maxRecDepth 10000

theorem pgW_nb {c0 hv fv : AV} {g cb gs cS cB : Nat} {b : List Int} {m : Msg} {v1 v2 v3 : Bool} (h1 : isB c0 v1) (h2 : isB hv v2) (h3 : isB fv v3) : nbH 4 (pgW c0 hv fv g cb gs cS cB b m) :=
  ⟨by simp [AO.nb, Cont.nb, AV.nbl, AV.nb, isB_nb h1 4, isB_nb h2 4, isB_nb h3 4], trivial, trivial, trivial, trivial⟩
/-- A field that is written, with other objects behind. -/
theorem upW {f : Nat} {x : List Int} {c0 hv fv : AV} {g cb gs cS cB : Nat} {b : List Int} {m : Msg} {K Kp : AV → AH → Prop} (E : AH) (o : okW c0 hv fv cb cS cB b m)
    (h0 : ∀ K : AV → AH → Prop, (∀ c0' hv' fv' g' cb', isB c0' false → isB hv' m.has → isB fv' m.full → (b ++ x).length ≤ cb' → K (.tup []) (pgW c0' hv' fv' g' cb' gs cS cB (b ++ x) m)) → CallA Try.prog f [.ptr 0 0 0] (pgW c0 hv fv g cb gs cS cB b m) K (fun _ _ => False))
    (hx : (b ++ x).length ≤ 10000000)
    (h : ∀ c0' hv' fv' g' cb', okW c0' hv' fv' cb' cS cB (b ++ x) m → K (.tup []) (pgW c0' hv' fv' g' cb' gs cS cB (b ++ x) m ++ E)) :
    CallA Try.prog f [.ptr 0 0 0] (pgW c0 hv fv g cb gs cS cB b m ++ E) K Kp := by
  refine CallA.frame E (h0 (fun r M' => ∃ c0' hv' fv' g' cb', r = .tup [] ∧ M' = pgW c0' hv' fv' g' cb' gs cS cB (b ++ x) m ∧ isB c0' false ∧ isB hv' m.has ∧ isB fv' m.full ∧ (b ++ x).length ≤ cb')
    fun c0' hv' fv' g' cb' k1 k2 k3 k4 => ⟨c0', hv', fv', g', cb', rfl, rfl, k1, k2, k3, k4⟩) rfl (pgW_nb o.kc o.kh o.kf) (by simp [pgW, AO.isOwn, AO.tag0]) ?_ (fun _ _ h => h.elim)
  rintro r M' ⟨c0', hv', fv', g', cb', rfl, rfl, k1, k2, k3, k4⟩
  exact ⟨rfl, ⟨rfl, rfl, rfl, rfl, rfl⟩, pgW_nb k1 k2 k3, rfl, h c0' hv' fv' g' cb' ⟨o.km, k1, k2, k3, k4, o.ks, o.kd, hx, o.ls, o.ld⟩⟩

theorem sumsB_length (S : List Int) : (sumsB S).length = 2 + 4 * S.length := by rw [sumsB, List.length_append, beW_length, flatBe_length]
/-- The bytes of a message's fields. -/
def bodyF (m : Msg) : List Int :=
  if m.ty = 1 then beW m.life 4 ++ beW (b2i m.has) 1 ++ beW m.frame 4 ++ sumsB m.sums
  else if m.ty = 2 then beW m.life 4 ++ (beW m.w 2 ++ beW m.h 2) ++ beW m.seq 4
  else if m.ty = 3 then []
  else if m.ty = 4 then beW m.base 4 ++ beW m.frame 4 ++ beW (b2i m.full) 1 ++ m.body
  else if m.ty = 5 then beW m.seq 4 ++ (beW m.kind 1 ++ beW m.ex 2 ++ beW m.ey 2 ++ beW m.code 4)
  else beW m.seq 4

section

variable {c0 hv fv : AV} {g cb gs cS cB : Nat} {b : List Int} {m : Msg} {K Kp : AV → AH → Prop}

theorem overW1 (o : okW c0 hv fv cb cS cB b m) (e : m.ty = 1) (hl : b.length ≤ 1000)
    (h : ∀ c0' hv' fv' g' cb', okW c0' hv' fv' cb' cS cB (b ++ bodyF m) m → K (.tup []) (pgW c0' hv' fv' g' cb' gs cS cB (b ++ bodyF m) m ++ [.gone, .gone, .gone, .gone, .gone, .gone, .gone])) :
    CallA Try.prog 20 [.ptr 0 0 0] (pgW c0 hv fv g cb gs cS cB b m) K Kp := by
  have hb : b ++ bodyF m = b ++ beW m.life 4 ++ beW (b2i m.has) 1 ++ beW m.frame 4 ++ sumsB m.sums := by simp [bodyF, e]
  rw [hb] at h
  have hls := o.ls
  have hld := o.ld
  refine CallA.post_sub ?_
  refine step20 (fun _ => [5]) [] rfl ?_
  repeat ((conv => whnf); first | with_reducible refine O_step ?_ | with_reducible refine S_step ?_ | with_reducible refine D_step ?_ | with_reducible refine RO.exit ?_ | with_reducible refine RO.ret ?_ | ((with_reducible refine And.intro ?sc ?_); case sc => exact side) | ((with_reducible refine br_f ?sc ?_); case sc => exact sideB) | ((with_reducible refine br_t ?sc ?_); case sc => exact sideB))
  refine fieldsW1 (S := m.sums) (B := m.body) e (isB_nb o.kc 11) rfl rfl (by simp [AV.nbl, AV.nb, isB_nb o.kh 11, isB_nb o.kf 11]) ?_
  repeat ((conv => whnf); first | with_reducible refine O_step ?_ | with_reducible refine S_step ?_ | with_reducible refine D_step ?_ | with_reducible refine RO.exit ?_ | with_reducible refine RO.ret ?_ | ((with_reducible refine And.intro ?sc ?_); case sc => exact side) | ((with_reducible refine br_f ?sc ?_); case sc => exact sideB) | ((with_reducible refine br_t ?sc ?_); case sc => exact sideB))
  refine WO.rounds 5 tb_ok mixed (by kernel_rfl) ?_
  repeat ((conv => whnf); first | with_reducible refine O_step ?_ | with_reducible refine S_step ?_ | with_reducible refine D_step ?_ | with_reducible refine RO.exit ?_ | with_reducible refine RO.ret ?_ | ((with_reducible refine And.intro ?sc ?_); case sc => exact side) | ((with_reducible refine br_f ?sc ?_); case sc => exact sideB) | ((with_reducible refine br_t ?sc ?_); case sc => exact sideB))
  refine (show CallA Try.prog 28 [.ptr 0 0 0] (pgW c0 hv fv g cb gs cS cB (b) m ++ [.gone, .one true 0 (.cells [mth 28, mth 29, mth 30, mth 31]), .gone, .gone, .gone, .gone, .gone]) _ _ from ?_)
  refine upW (x := beW m.life 4) [.gone, .one true 0 (.cells [mth 28, mth 29, mth 30, mth 31]), .gone, .gone, .gone, .gone, .gone] o (fun K k => lifeW o (fun g cb hc => k _ _ _ g cb o.kc o.kh o.kf hc)) (by simp only [List.length_append, beW_length, sumsB_length]; omega) (fun c1 h1 f1 g1 b1 o1 => ?_)
  repeat ((conv => whnf); first | with_reducible refine O_step ?_ | with_reducible refine S_step ?_ | with_reducible refine D_step ?_ | with_reducible refine RO.exit ?_ | with_reducible refine RO.ret ?_ | ((with_reducible refine And.intro ?sc ?_); case sc => exact side) | ((with_reducible refine br_f ?sc ?_); case sc => exact sideB) | ((with_reducible refine br_t ?sc ?_); case sc => exact sideB))
  refine (show CallA Try.prog 29 [.ptr 0 0 0] (pgW c1 h1 f1 g1 b1 gs cS cB (b ++ beW m.life 4) m ++ [.gone, .one true 0 (.cells [mth 28, mth 29, mth 30, mth 31]), .gone, .gone, .gone, .gone, .gone]) _ _ from ?_)
  refine upW (x := beW (b2i m.has) 1) [.gone, .one true 0 (.cells [mth 28, mth 29, mth 30, mth 31]), .gone, .gone, .gone, .gone, .gone] o1 (fun K k => hasW o1 (fun c h g cb i1 i2 hc => k c h _ g cb i1 i2 o1.kf hc)) (by simp only [List.length_append, beW_length, sumsB_length]; omega) (fun c2 h2 f2 g2 b2 o2 => ?_)
  repeat ((conv => whnf); first | with_reducible refine O_step ?_ | with_reducible refine S_step ?_ | with_reducible refine D_step ?_ | with_reducible refine RO.exit ?_ | with_reducible refine RO.ret ?_ | ((with_reducible refine And.intro ?sc ?_); case sc => exact side) | ((with_reducible refine br_f ?sc ?_); case sc => exact sideB) | ((with_reducible refine br_t ?sc ?_); case sc => exact sideB))
  refine (show CallA Try.prog 30 [.ptr 0 0 0] (pgW c2 h2 f2 g2 b2 gs cS cB (b ++ beW m.life 4 ++ beW (b2i m.has) 1) m ++ [.gone, .one true 0 (.cells [mth 28, mth 29, mth 30, mth 31]), .gone, .gone, .gone, .gone, .gone]) _ _ from ?_)
  refine upW (x := beW m.frame 4) [.gone, .one true 0 (.cells [mth 28, mth 29, mth 30, mth 31]), .gone, .gone, .gone, .gone, .gone] o2 (fun K k => frameW o2 (fun g cb hc => k _ _ _ g cb o2.kc o2.kh o2.kf hc)) (by simp only [List.length_append, beW_length, sumsB_length]; omega) (fun c3 h3 f3 g3 b3 o3 => ?_)
  repeat ((conv => whnf); first | with_reducible refine O_step ?_ | with_reducible refine S_step ?_ | with_reducible refine D_step ?_ | with_reducible refine RO.exit ?_ | with_reducible refine RO.ret ?_ | ((with_reducible refine And.intro ?sc ?_); case sc => exact side) | ((with_reducible refine br_f ?sc ?_); case sc => exact sideB) | ((with_reducible refine br_t ?sc ?_); case sc => exact sideB))
  refine (show CallA Try.prog 31 [.ptr 0 0 0] (pgW c3 h3 f3 g3 b3 gs cS cB (b ++ beW m.life 4 ++ beW (b2i m.has) 1 ++ beW m.frame 4) m ++ [.gone, .one true 0 (.cells [mth 28, mth 29, mth 30, mth 31]), .gone, .gone, .gone, .gone, .gone]) _ _ from ?_)
  refine upW (x := sumsB m.sums) [.gone, .one true 0 (.cells [mth 28, mth 29, mth 30, mth 31]), .gone, .gone, .gone, .gone, .gone] o3 (fun K k => sumsW o3 (fun c g cb i1 hc => k c _ _ g cb i1 o3.kh o3.kf hc)) (by simp only [List.length_append, beW_length, sumsB_length]; omega) (fun c4 h4 f4 g4 b4 o4 => ?_)
  repeat ((conv => whnf); first | with_reducible refine O_step ?_ | with_reducible refine S_step ?_ | with_reducible refine D_step ?_ | with_reducible refine RO.exit ?_ | with_reducible refine RO.ret ?_ | ((with_reducible refine And.intro ?sc ?_); case sc => exact side) | ((with_reducible refine br_f ?sc ?_); case sc => exact sideB) | ((with_reducible refine br_t ?sc ?_); case sc => exact sideB))
  refine Exists.intro _ (And.intro ?_ (And.intro ?_ (And.intro ?_ (h c4 h4 f4 g4 b4 o4))))
  · exact (And.intro rfl (And.intro rfl (And.intro rfl (And.intro rfl (And.intro trivial (And.intro trivial (And.intro trivial (And.intro trivial (And.intro trivial (And.intro trivial (And.intro trivial (trivial))))))))))))
  · exact And.intro (by simp [AO.nb, Cont.nb, AV.nbl, AV.nb, isB_nb o4.kc, isB_nb o4.kh, isB_nb o4.kf]) ⟨trivial, trivial, trivial, trivial, trivial, trivial, trivial, trivial, trivial, trivial, trivial⟩
  · rfl
theorem overW2 (o : okW c0 hv fv cb cS cB b m) (e : m.ty = 2) (hl : b.length ≤ 1000)
    (h : ∀ c0' hv' fv' g' cb', okW c0' hv' fv' cb' cS cB (b ++ bodyF m) m → K (.tup []) (pgW c0' hv' fv' g' cb' gs cS cB (b ++ bodyF m) m ++ [.gone, .gone, .gone, .gone, .gone, .gone, .gone])) :
    CallA Try.prog 20 [.ptr 0 0 0] (pgW c0 hv fv g cb gs cS cB b m) K Kp := by
  have hb : b ++ bodyF m = b ++ beW m.life 4 ++ (beW m.w 2 ++ beW m.h 2) ++ beW m.seq 4 := by simp [bodyF, e]
  rw [hb] at h
  have hls := o.ls
  have hld := o.ld
  refine CallA.post_sub ?_
  refine step20 (fun _ => [6]) [] rfl ?_
  repeat ((conv => whnf); first | with_reducible refine O_step ?_ | with_reducible refine S_step ?_ | with_reducible refine D_step ?_ | with_reducible refine RO.exit ?_ | with_reducible refine RO.ret ?_ | ((with_reducible refine And.intro ?sc ?_); case sc => exact side) | ((with_reducible refine br_f ?sc ?_); case sc => exact sideB) | ((with_reducible refine br_t ?sc ?_); case sc => exact sideB))
  refine fieldsW2 (S := m.sums) (B := m.body) e (isB_nb o.kc 11) rfl rfl (by simp [AV.nbl, AV.nb, isB_nb o.kh 11, isB_nb o.kf 11]) ?_
  repeat ((conv => whnf); first | with_reducible refine O_step ?_ | with_reducible refine S_step ?_ | with_reducible refine D_step ?_ | with_reducible refine RO.exit ?_ | with_reducible refine RO.ret ?_ | ((with_reducible refine And.intro ?sc ?_); case sc => exact side) | ((with_reducible refine br_f ?sc ?_); case sc => exact sideB) | ((with_reducible refine br_t ?sc ?_); case sc => exact sideB))
  refine WO.rounds 5 tb_ok mixed (by kernel_rfl) ?_
  repeat ((conv => whnf); first | with_reducible refine O_step ?_ | with_reducible refine S_step ?_ | with_reducible refine D_step ?_ | with_reducible refine RO.exit ?_ | with_reducible refine RO.ret ?_ | ((with_reducible refine And.intro ?sc ?_); case sc => exact side) | ((with_reducible refine br_f ?sc ?_); case sc => exact sideB) | ((with_reducible refine br_t ?sc ?_); case sc => exact sideB))
  refine (show CallA Try.prog 28 [.ptr 0 0 0] (pgW c0 hv fv g cb gs cS cB (b) m ++ [.gone, .gone, .one true 0 (.cells [mth 28, mth 32, mth 33]), .gone, .gone, .gone, .gone]) _ _ from ?_)
  refine upW (x := beW m.life 4) [.gone, .gone, .one true 0 (.cells [mth 28, mth 32, mth 33]), .gone, .gone, .gone, .gone] o (fun K k => lifeW o (fun g cb hc => k _ _ _ g cb o.kc o.kh o.kf hc)) (by simp only [List.length_append, beW_length, sumsB_length]; omega) (fun c1 h1 f1 g1 b1 o1 => ?_)
  repeat ((conv => whnf); first | with_reducible refine O_step ?_ | with_reducible refine S_step ?_ | with_reducible refine D_step ?_ | with_reducible refine RO.exit ?_ | with_reducible refine RO.ret ?_ | ((with_reducible refine And.intro ?sc ?_); case sc => exact side) | ((with_reducible refine br_f ?sc ?_); case sc => exact sideB) | ((with_reducible refine br_t ?sc ?_); case sc => exact sideB))
  refine (show CallA Try.prog 32 [.ptr 0 0 0] (pgW c1 h1 f1 g1 b1 gs cS cB (b ++ beW m.life 4) m ++ [.gone, .gone, .one true 0 (.cells [mth 28, mth 32, mth 33]), .gone, .gone, .gone, .gone]) _ _ from ?_)
  refine upW (x := (beW m.w 2 ++ beW m.h 2)) [.gone, .gone, .one true 0 (.cells [mth 28, mth 32, mth 33]), .gone, .gone, .gone, .gone] o1 (fun K k => sizeW o1 (fun g cb hc => by have q := k _ _ _ g cb o1.kc o1.kh o1.kf (by rw [← List.append_assoc]; exact hc); rw [← List.append_assoc] at q; exact q)) (by simp only [List.length_append, beW_length, sumsB_length]; omega) (fun c2 h2 f2 g2 b2 o2 => ?_)
  repeat ((conv => whnf); first | with_reducible refine O_step ?_ | with_reducible refine S_step ?_ | with_reducible refine D_step ?_ | with_reducible refine RO.exit ?_ | with_reducible refine RO.ret ?_ | ((with_reducible refine And.intro ?sc ?_); case sc => exact side) | ((with_reducible refine br_f ?sc ?_); case sc => exact sideB) | ((with_reducible refine br_t ?sc ?_); case sc => exact sideB))
  refine (show CallA Try.prog 33 [.ptr 0 0 0] (pgW c2 h2 f2 g2 b2 gs cS cB (b ++ beW m.life 4 ++ (beW m.w 2 ++ beW m.h 2)) m ++ [.gone, .gone, .one true 0 (.cells [mth 28, mth 32, mth 33]), .gone, .gone, .gone, .gone]) _ _ from ?_)
  refine upW (x := beW m.seq 4) [.gone, .gone, .one true 0 (.cells [mth 28, mth 32, mth 33]), .gone, .gone, .gone, .gone] o2 (fun K k => seqW o2 (fun g cb hc => k _ _ _ g cb o2.kc o2.kh o2.kf hc)) (by simp only [List.length_append, beW_length, sumsB_length]; omega) (fun c3 h3 f3 g3 b3 o3 => ?_)
  repeat ((conv => whnf); first | with_reducible refine O_step ?_ | with_reducible refine S_step ?_ | with_reducible refine D_step ?_ | with_reducible refine RO.exit ?_ | with_reducible refine RO.ret ?_ | ((with_reducible refine And.intro ?sc ?_); case sc => exact side) | ((with_reducible refine br_f ?sc ?_); case sc => exact sideB) | ((with_reducible refine br_t ?sc ?_); case sc => exact sideB))
  refine Exists.intro _ (And.intro ?_ (And.intro ?_ (And.intro ?_ (h c3 h3 f3 g3 b3 o3))))
  · exact (And.intro rfl (And.intro rfl (And.intro rfl (And.intro rfl (And.intro trivial (And.intro trivial (And.intro trivial (And.intro trivial (And.intro trivial (And.intro trivial (And.intro trivial (trivial))))))))))))
  · exact And.intro (by simp [AO.nb, Cont.nb, AV.nbl, AV.nb, isB_nb o3.kc, isB_nb o3.kh, isB_nb o3.kf]) ⟨trivial, trivial, trivial, trivial, trivial, trivial, trivial, trivial, trivial, trivial, trivial⟩
  · rfl
theorem overW3 (o : okW c0 hv fv cb cS cB b m) (e : m.ty = 3) (hl : b.length ≤ 1000)
    (h : ∀ c0' hv' fv' g' cb', okW c0' hv' fv' cb' cS cB (b ++ bodyF m) m → K (.tup []) (pgW c0' hv' fv' g' cb' gs cS cB (b ++ bodyF m) m ++ [.gone, .gone, .gone, .gone, .gone, .gone, .gone])) :
    CallA Try.prog 20 [.ptr 0 0 0] (pgW c0 hv fv g cb gs cS cB b m) K Kp := by
  have hb : b ++ bodyF m = b := by simp [bodyF, e]
  rw [hb] at h
  have hls := o.ls
  have hld := o.ld
  refine CallA.post_sub ?_
  refine step20 (fun _ => [7]) [] rfl ?_
  repeat ((conv => whnf); first | with_reducible refine O_step ?_ | with_reducible refine S_step ?_ | with_reducible refine D_step ?_ | with_reducible refine RO.exit ?_ | with_reducible refine RO.ret ?_ | ((with_reducible refine And.intro ?sc ?_); case sc => exact side) | ((with_reducible refine br_f ?sc ?_); case sc => exact sideB) | ((with_reducible refine br_t ?sc ?_); case sc => exact sideB))
  refine fieldsW3 (S := m.sums) (B := m.body) e (isB_nb o.kc 11) rfl rfl (by simp [AV.nbl, AV.nb, isB_nb o.kh 11, isB_nb o.kf 11]) ?_
  repeat ((conv => whnf); first | with_reducible refine O_step ?_ | with_reducible refine S_step ?_ | with_reducible refine D_step ?_ | with_reducible refine RO.exit ?_ | with_reducible refine RO.ret ?_ | ((with_reducible refine And.intro ?sc ?_); case sc => exact side) | ((with_reducible refine br_f ?sc ?_); case sc => exact sideB) | ((with_reducible refine br_t ?sc ?_); case sc => exact sideB))
  refine WO.rounds 5 tb_ok mixed (by kernel_rfl) ?_
  repeat ((conv => whnf); first | with_reducible refine O_step ?_ | with_reducible refine S_step ?_ | with_reducible refine D_step ?_ | with_reducible refine RO.exit ?_ | with_reducible refine RO.ret ?_ | ((with_reducible refine And.intro ?sc ?_); case sc => exact side) | ((with_reducible refine br_f ?sc ?_); case sc => exact sideB) | ((with_reducible refine br_t ?sc ?_); case sc => exact sideB))
  refine Exists.intro _ (And.intro ?_ (And.intro ?_ (And.intro ?_ (h c0 hv fv g cb o))))
  · exact (And.intro rfl (And.intro rfl (And.intro rfl (And.intro rfl (And.intro trivial (And.intro trivial (And.intro trivial (And.intro trivial (And.intro trivial (And.intro trivial (And.intro trivial (trivial))))))))))))
  · exact And.intro (by simp [AO.nb, Cont.nb, AV.nbl, AV.nb, isB_nb o.kc, isB_nb o.kh, isB_nb o.kf]) ⟨trivial, trivial, trivial, trivial, trivial, trivial, trivial, trivial, trivial, trivial, trivial⟩
  · rfl
theorem overW4 (o : okW c0 hv fv cb cS cB b m) (e : m.ty = 4) (hl : b.length ≤ 1000)
    (h : ∀ c0' hv' fv' g' cb', okW c0' hv' fv' cb' cS cB (b ++ bodyF m) m → K (.tup []) (pgW c0' hv' fv' g' cb' gs cS cB (b ++ bodyF m) m ++ [.gone, .gone, .gone, .gone, .gone, .gone, .gone])) :
    CallA Try.prog 20 [.ptr 0 0 0] (pgW c0 hv fv g cb gs cS cB b m) K Kp := by
  have hb : b ++ bodyF m = b ++ beW m.base 4 ++ beW m.frame 4 ++ beW (b2i m.full) 1 ++ m.body := by simp [bodyF, e]
  rw [hb] at h
  have hls := o.ls
  have hld := o.ld
  refine CallA.post_sub ?_
  refine step20 (fun _ => [8]) [] rfl ?_
  repeat ((conv => whnf); first | with_reducible refine O_step ?_ | with_reducible refine S_step ?_ | with_reducible refine D_step ?_ | with_reducible refine RO.exit ?_ | with_reducible refine RO.ret ?_ | ((with_reducible refine And.intro ?sc ?_); case sc => exact side) | ((with_reducible refine br_f ?sc ?_); case sc => exact sideB) | ((with_reducible refine br_t ?sc ?_); case sc => exact sideB))
  refine fieldsW4 (S := m.sums) (B := m.body) e (isB_nb o.kc 11) rfl rfl (by simp [AV.nbl, AV.nb, isB_nb o.kh 11, isB_nb o.kf 11]) ?_
  repeat ((conv => whnf); first | with_reducible refine O_step ?_ | with_reducible refine S_step ?_ | with_reducible refine D_step ?_ | with_reducible refine RO.exit ?_ | with_reducible refine RO.ret ?_ | ((with_reducible refine And.intro ?sc ?_); case sc => exact side) | ((with_reducible refine br_f ?sc ?_); case sc => exact sideB) | ((with_reducible refine br_t ?sc ?_); case sc => exact sideB))
  refine WO.rounds 5 tb_ok mixed (by kernel_rfl) ?_
  repeat ((conv => whnf); first | with_reducible refine O_step ?_ | with_reducible refine S_step ?_ | with_reducible refine D_step ?_ | with_reducible refine RO.exit ?_ | with_reducible refine RO.ret ?_ | ((with_reducible refine And.intro ?sc ?_); case sc => exact side) | ((with_reducible refine br_f ?sc ?_); case sc => exact sideB) | ((with_reducible refine br_t ?sc ?_); case sc => exact sideB))
  refine (show CallA Try.prog 34 [.ptr 0 0 0] (pgW c0 hv fv g cb gs cS cB (b) m ++ [.gone, .gone, .gone, .gone, .one true 0 (.cells [mth 34, mth 30, mth 35, mth 36]), .gone, .gone]) _ _ from ?_)
  refine upW (x := beW m.base 4) [.gone, .gone, .gone, .gone, .one true 0 (.cells [mth 34, mth 30, mth 35, mth 36]), .gone, .gone] o (fun K k => baseW o (fun g cb hc => k _ _ _ g cb o.kc o.kh o.kf hc)) (by simp only [List.length_append, beW_length, sumsB_length]; omega) (fun c1 h1 f1 g1 b1 o1 => ?_)
  repeat ((conv => whnf); first | with_reducible refine O_step ?_ | with_reducible refine S_step ?_ | with_reducible refine D_step ?_ | with_reducible refine RO.exit ?_ | with_reducible refine RO.ret ?_ | ((with_reducible refine And.intro ?sc ?_); case sc => exact side) | ((with_reducible refine br_f ?sc ?_); case sc => exact sideB) | ((with_reducible refine br_t ?sc ?_); case sc => exact sideB))
  refine (show CallA Try.prog 30 [.ptr 0 0 0] (pgW c1 h1 f1 g1 b1 gs cS cB (b ++ beW m.base 4) m ++ [.gone, .gone, .gone, .gone, .one true 0 (.cells [mth 34, mth 30, mth 35, mth 36]), .gone, .gone]) _ _ from ?_)
  refine upW (x := beW m.frame 4) [.gone, .gone, .gone, .gone, .one true 0 (.cells [mth 34, mth 30, mth 35, mth 36]), .gone, .gone] o1 (fun K k => frameW o1 (fun g cb hc => k _ _ _ g cb o1.kc o1.kh o1.kf hc)) (by simp only [List.length_append, beW_length, sumsB_length]; omega) (fun c2 h2 f2 g2 b2 o2 => ?_)
  repeat ((conv => whnf); first | with_reducible refine O_step ?_ | with_reducible refine S_step ?_ | with_reducible refine D_step ?_ | with_reducible refine RO.exit ?_ | with_reducible refine RO.ret ?_ | ((with_reducible refine And.intro ?sc ?_); case sc => exact side) | ((with_reducible refine br_f ?sc ?_); case sc => exact sideB) | ((with_reducible refine br_t ?sc ?_); case sc => exact sideB))
  refine (show CallA Try.prog 35 [.ptr 0 0 0] (pgW c2 h2 f2 g2 b2 gs cS cB (b ++ beW m.base 4 ++ beW m.frame 4) m ++ [.gone, .gone, .gone, .gone, .one true 0 (.cells [mth 34, mth 30, mth 35, mth 36]), .gone, .gone]) _ _ from ?_)
  refine upW (x := beW (b2i m.full) 1) [.gone, .gone, .gone, .gone, .one true 0 (.cells [mth 34, mth 30, mth 35, mth 36]), .gone, .gone] o2 (fun K k => fullW o2 (fun c h g cb i1 i2 hc => k c _ h g cb i1 o2.kh i2 hc)) (by simp only [List.length_append, beW_length, sumsB_length]; omega) (fun c3 h3 f3 g3 b3 o3 => ?_)
  repeat ((conv => whnf); first | with_reducible refine O_step ?_ | with_reducible refine S_step ?_ | with_reducible refine D_step ?_ | with_reducible refine RO.exit ?_ | with_reducible refine RO.ret ?_ | ((with_reducible refine And.intro ?sc ?_); case sc => exact side) | ((with_reducible refine br_f ?sc ?_); case sc => exact sideB) | ((with_reducible refine br_t ?sc ?_); case sc => exact sideB))
  refine (show CallA Try.prog 36 [.ptr 0 0 0] (pgW c3 h3 f3 g3 b3 gs cS cB (b ++ beW m.base 4 ++ beW m.frame 4 ++ beW (b2i m.full) 1) m ++ [.gone, .gone, .gone, .gone, .one true 0 (.cells [mth 34, mth 30, mth 35, mth 36]), .gone, .gone]) _ _ from ?_)
  refine upW (x := m.body) [.gone, .gone, .gone, .gone, .one true 0 (.cells [mth 34, mth 30, mth 35, mth 36]), .gone, .gone] o3 (fun K k => bodyW o3 (fun g cb hc => k _ _ _ g cb o3.kc o3.kh o3.kf hc)) (by simp only [List.length_append, beW_length, sumsB_length]; omega) (fun c4 h4 f4 g4 b4 o4 => ?_)
  repeat ((conv => whnf); first | with_reducible refine O_step ?_ | with_reducible refine S_step ?_ | with_reducible refine D_step ?_ | with_reducible refine RO.exit ?_ | with_reducible refine RO.ret ?_ | ((with_reducible refine And.intro ?sc ?_); case sc => exact side) | ((with_reducible refine br_f ?sc ?_); case sc => exact sideB) | ((with_reducible refine br_t ?sc ?_); case sc => exact sideB))
  refine Exists.intro _ (And.intro ?_ (And.intro ?_ (And.intro ?_ (h c4 h4 f4 g4 b4 o4))))
  · exact (And.intro rfl (And.intro rfl (And.intro rfl (And.intro rfl (And.intro trivial (And.intro trivial (And.intro trivial (And.intro trivial (And.intro trivial (And.intro trivial (And.intro trivial (trivial))))))))))))
  · exact And.intro (by simp [AO.nb, Cont.nb, AV.nbl, AV.nb, isB_nb o4.kc, isB_nb o4.kh, isB_nb o4.kf]) ⟨trivial, trivial, trivial, trivial, trivial, trivial, trivial, trivial, trivial, trivial, trivial⟩
  · rfl
theorem overW5 (o : okW c0 hv fv cb cS cB b m) (e : m.ty = 5) (hl : b.length ≤ 1000)
    (h : ∀ c0' hv' fv' g' cb', okW c0' hv' fv' cb' cS cB (b ++ bodyF m) m → K (.tup []) (pgW c0' hv' fv' g' cb' gs cS cB (b ++ bodyF m) m ++ [.gone, .gone, .gone, .gone, .gone, .gone, .gone])) :
    CallA Try.prog 20 [.ptr 0 0 0] (pgW c0 hv fv g cb gs cS cB b m) K Kp := by
  have hb : b ++ bodyF m = b ++ beW m.seq 4 ++ (beW m.kind 1 ++ beW m.ex 2 ++ beW m.ey 2 ++ beW m.code 4) := by simp [bodyF, e]
  rw [hb] at h
  have hls := o.ls
  have hld := o.ld
  refine CallA.post_sub ?_
  refine step20 (fun _ => [9]) [] rfl ?_
  repeat ((conv => whnf); first | with_reducible refine O_step ?_ | with_reducible refine S_step ?_ | with_reducible refine D_step ?_ | with_reducible refine RO.exit ?_ | with_reducible refine RO.ret ?_ | ((with_reducible refine And.intro ?sc ?_); case sc => exact side) | ((with_reducible refine br_f ?sc ?_); case sc => exact sideB) | ((with_reducible refine br_t ?sc ?_); case sc => exact sideB))
  refine fieldsW5 (S := m.sums) (B := m.body) e (isB_nb o.kc 11) rfl rfl (by simp [AV.nbl, AV.nb, isB_nb o.kh 11, isB_nb o.kf 11]) ?_
  repeat ((conv => whnf); first | with_reducible refine O_step ?_ | with_reducible refine S_step ?_ | with_reducible refine D_step ?_ | with_reducible refine RO.exit ?_ | with_reducible refine RO.ret ?_ | ((with_reducible refine And.intro ?sc ?_); case sc => exact side) | ((with_reducible refine br_f ?sc ?_); case sc => exact sideB) | ((with_reducible refine br_t ?sc ?_); case sc => exact sideB))
  refine WO.rounds 5 tb_ok mixed (by kernel_rfl) ?_
  repeat ((conv => whnf); first | with_reducible refine O_step ?_ | with_reducible refine S_step ?_ | with_reducible refine D_step ?_ | with_reducible refine RO.exit ?_ | with_reducible refine RO.ret ?_ | ((with_reducible refine And.intro ?sc ?_); case sc => exact side) | ((with_reducible refine br_f ?sc ?_); case sc => exact sideB) | ((with_reducible refine br_t ?sc ?_); case sc => exact sideB))
  refine (show CallA Try.prog 33 [.ptr 0 0 0] (pgW c0 hv fv g cb gs cS cB (b) m ++ [.gone, .gone, .gone, .gone, .gone, .one true 0 (.cells [mth 33, mth 37]), .gone]) _ _ from ?_)
  refine upW (x := beW m.seq 4) [.gone, .gone, .gone, .gone, .gone, .one true 0 (.cells [mth 33, mth 37]), .gone] o (fun K k => seqW o (fun g cb hc => k _ _ _ g cb o.kc o.kh o.kf hc)) (by simp only [List.length_append, beW_length, sumsB_length]; omega) (fun c1 h1 f1 g1 b1 o1 => ?_)
  repeat ((conv => whnf); first | with_reducible refine O_step ?_ | with_reducible refine S_step ?_ | with_reducible refine D_step ?_ | with_reducible refine RO.exit ?_ | with_reducible refine RO.ret ?_ | ((with_reducible refine And.intro ?sc ?_); case sc => exact side) | ((with_reducible refine br_f ?sc ?_); case sc => exact sideB) | ((with_reducible refine br_t ?sc ?_); case sc => exact sideB))
  refine (show CallA Try.prog 37 [.ptr 0 0 0] (pgW c1 h1 f1 g1 b1 gs cS cB (b ++ beW m.seq 4) m ++ [.gone, .gone, .gone, .gone, .gone, .one true 0 (.cells [mth 33, mth 37]), .gone]) _ _ from ?_)
  refine upW (x := (beW m.kind 1 ++ beW m.ex 2 ++ beW m.ey 2 ++ beW m.code 4)) [.gone, .gone, .gone, .gone, .gone, .one true 0 (.cells [mth 33, mth 37]), .gone] o1 (fun K k => eventW o1 (fun g cb hc => by have q := k _ _ _ g cb o1.kc o1.kh o1.kf (by simp only [← List.append_assoc]; exact hc); simp only [← List.append_assoc] at q; exact q)) (by simp only [List.length_append, beW_length, sumsB_length]; omega) (fun c2 h2 f2 g2 b2 o2 => ?_)
  repeat ((conv => whnf); first | with_reducible refine O_step ?_ | with_reducible refine S_step ?_ | with_reducible refine D_step ?_ | with_reducible refine RO.exit ?_ | with_reducible refine RO.ret ?_ | ((with_reducible refine And.intro ?sc ?_); case sc => exact side) | ((with_reducible refine br_f ?sc ?_); case sc => exact sideB) | ((with_reducible refine br_t ?sc ?_); case sc => exact sideB))
  refine Exists.intro _ (And.intro ?_ (And.intro ?_ (And.intro ?_ (h c2 h2 f2 g2 b2 o2))))
  · exact (And.intro rfl (And.intro rfl (And.intro rfl (And.intro rfl (And.intro trivial (And.intro trivial (And.intro trivial (And.intro trivial (And.intro trivial (And.intro trivial (And.intro trivial (trivial))))))))))))
  · exact And.intro (by simp [AO.nb, Cont.nb, AV.nbl, AV.nb, isB_nb o2.kc, isB_nb o2.kh, isB_nb o2.kf]) ⟨trivial, trivial, trivial, trivial, trivial, trivial, trivial, trivial, trivial, trivial, trivial⟩
  · rfl
theorem overW6 (o : okW c0 hv fv cb cS cB b m) (e : m.ty = 6) (hl : b.length ≤ 1000)
    (h : ∀ c0' hv' fv' g' cb', okW c0' hv' fv' cb' cS cB (b ++ bodyF m) m → K (.tup []) (pgW c0' hv' fv' g' cb' gs cS cB (b ++ bodyF m) m ++ [.gone, .gone, .gone, .gone, .gone, .gone, .gone])) :
    CallA Try.prog 20 [.ptr 0 0 0] (pgW c0 hv fv g cb gs cS cB b m) K Kp := by
  have hb : b ++ bodyF m = b ++ beW m.seq 4 := by simp [bodyF, e]
  rw [hb] at h
  have hls := o.ls
  have hld := o.ld
  refine CallA.post_sub ?_
  refine step20 (fun _ => [10]) [] rfl ?_
  repeat ((conv => whnf); first | with_reducible refine O_step ?_ | with_reducible refine S_step ?_ | with_reducible refine D_step ?_ | with_reducible refine RO.exit ?_ | with_reducible refine RO.ret ?_ | ((with_reducible refine And.intro ?sc ?_); case sc => exact side) | ((with_reducible refine br_f ?sc ?_); case sc => exact sideB) | ((with_reducible refine br_t ?sc ?_); case sc => exact sideB))
  refine fieldsW6 (S := m.sums) (B := m.body) e (isB_nb o.kc 11) rfl rfl (by simp [AV.nbl, AV.nb, isB_nb o.kh 11, isB_nb o.kf 11]) ?_
  repeat ((conv => whnf); first | with_reducible refine O_step ?_ | with_reducible refine S_step ?_ | with_reducible refine D_step ?_ | with_reducible refine RO.exit ?_ | with_reducible refine RO.ret ?_ | ((with_reducible refine And.intro ?sc ?_); case sc => exact side) | ((with_reducible refine br_f ?sc ?_); case sc => exact sideB) | ((with_reducible refine br_t ?sc ?_); case sc => exact sideB))
  refine WO.rounds 5 tb_ok mixed (by kernel_rfl) ?_
  repeat ((conv => whnf); first | with_reducible refine O_step ?_ | with_reducible refine S_step ?_ | with_reducible refine D_step ?_ | with_reducible refine RO.exit ?_ | with_reducible refine RO.ret ?_ | ((with_reducible refine And.intro ?sc ?_); case sc => exact side) | ((with_reducible refine br_f ?sc ?_); case sc => exact sideB) | ((with_reducible refine br_t ?sc ?_); case sc => exact sideB))
  refine (show CallA Try.prog 33 [.ptr 0 0 0] (pgW c0 hv fv g cb gs cS cB (b) m ++ [.gone, .gone, .gone, .gone, .gone, .gone, .one true 0 (.cells [mth 33])]) _ _ from ?_)
  refine upW (x := beW m.seq 4) [.gone, .gone, .gone, .gone, .gone, .gone, .one true 0 (.cells [mth 33])] o (fun K k => seqW o (fun g cb hc => k _ _ _ g cb o.kc o.kh o.kf hc)) (by simp only [List.length_append, beW_length, sumsB_length]; omega) (fun c1 h1 f1 g1 b1 o1 => ?_)
  repeat ((conv => whnf); first | with_reducible refine O_step ?_ | with_reducible refine S_step ?_ | with_reducible refine D_step ?_ | with_reducible refine RO.exit ?_ | with_reducible refine RO.ret ?_ | ((with_reducible refine And.intro ?sc ?_); case sc => exact side) | ((with_reducible refine br_f ?sc ?_); case sc => exact sideB) | ((with_reducible refine br_t ?sc ?_); case sc => exact sideB))
  refine Exists.intro _ (And.intro ?_ (And.intro ?_ (And.intro ?_ (h c1 h1 f1 g1 b1 o1))))
  · exact (And.intro rfl (And.intro rfl (And.intro rfl (And.intro rfl (And.intro trivial (And.intro trivial (And.intro trivial (And.intro trivial (And.intro trivial (And.intro trivial (And.intro trivial (trivial))))))))))))
  · exact And.intro (by simp [AO.nb, Cont.nb, AV.nbl, AV.nb, isB_nb o1.kc, isB_nb o1.kh, isB_nb o1.kf]) ⟨trivial, trivial, trivial, trivial, trivial, trivial, trivial, trivial, trivial, trivial, trivial⟩
  · rfl
end

end Go.Proofs.Ytedlpkibdjccdaa
