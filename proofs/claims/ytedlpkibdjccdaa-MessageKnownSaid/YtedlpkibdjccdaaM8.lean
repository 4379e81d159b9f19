/- Layer 23: the fields of a page, when it reads (2; written by wip/m8.py). -/
import Derived.Test.YtedlpkibdjccdaaM7

set_option linter.unusedVariables false

set_option linter.unusedSimpArgs false

open Go.RowKit

namespace Go.Proofs.Ytedlpkibdjccdaa

set_option maxRecDepth 10000

/-- Bad behind a truth. -/
def trB (bad : Bool) (l : List Int) : Bool := rdB 1 bad l || !decide (rdV 1 bad l < 2)
section

variable {c0 hv fv sv dv : AV} {bad : Bool} {off c cX : Nat} {l X : List Int} {m : Msg} {K Kp : AV → AH → Prop}

theorem sizeR (o : okR c0 hv fv sv dv bad off c l X m) (h : ∀ c0' off' c', okR c0' hv fv sv dv (rdB 2 (rdB 2 bad l) (rdL 2 bad l)) off' c' (rdL 2 (rdB 2 bad l) (rdL 2 bad l)) X {m with w := rdV 2 bad l, h := rdV 2 (rdB 2 bad l) (rdL 2 bad l)} → K (.tup []) (pgR c0' hv fv sv dv off' c' (rdL 2 (rdB 2 bad l) (rdL 2 bad l)) X cX {m with w := rdV 2 bad l, h := rdV 2 (rdB 2 bad l) (rdL 2 bad l)})) :
    CallA Try.prog 32 [.ptr 0 0 0] (pgR c0 hv fv sv dv off c l X cX m) K Kp := by
  refine step32 (fun _ => [0]) [] rfl ?_
  repeat ((conv => whnf); first | with_reducible refine O_step ?_ | with_reducible refine S_step ?_ | with_reducible refine D_step ?_ | with_reducible refine RO.exit ?_ | with_reducible refine RO.ret ?_ | ((with_reducible refine And.intro ?sc ?_); case sc => exact side) | ((with_reducible refine br_f ?sc ?_); case sc => exact sideB) | ((with_reducible refine br_t ?sc ?_); case sc => exact sideB))
  refine (show CallA Try.prog 44 [.ptr 0 0 0, .ptr 0 0 9, .int .i64 2] (pgR c0 hv fv sv dv off c (l) X cX m) _ _ from ?_)
  refine step44 (fun _ => [0]) [] rfl ?_
  repeat ((conv => whnf); first | with_reducible refine O_step ?_ | with_reducible refine S_step ?_ | with_reducible refine D_step ?_ | with_reducible refine RO.exit ?_ | with_reducible refine RO.ret ?_ | ((with_reducible refine And.intro ?sc ?_); case sc => exact side) | ((with_reducible refine br_f ?sc ?_); case sc => exact sideB) | ((with_reducible refine br_t ?sc ?_); case sc => exact sideB))
  refine numU_call (k := 2) (bad := bad) (l := l) (by decide) o.kc o.x (by simp [AV.nbl, AV.nb, isB_nb o.kh 2, isB_nb o.kf 2, o.ks, o.kd]) (fun c1 f1 d1 b1 x1 => ?_)
  repeat ((conv => whnf); first | with_reducible refine O_step ?_ | with_reducible refine S_step ?_ | with_reducible refine D_step ?_ | with_reducible refine RO.exit ?_ | with_reducible refine RO.ret ?_ | ((with_reducible refine And.intro ?sc ?_); case sc => exact side) | ((with_reducible refine br_f ?sc ?_); case sc => exact sideB) | ((with_reducible refine br_t ?sc ?_); case sc => exact sideB))
  rw [show rdV 2 (bad) (l) % 65536 = rdV 2 (bad) (l) by have := rdV_bound (k := 2) (bad := bad) (o.x).mem; omega]
  repeat ((conv => whnf); first | with_reducible refine O_step ?_ | with_reducible refine S_step ?_ | with_reducible refine D_step ?_ | with_reducible refine RO.exit ?_ | with_reducible refine RO.ret ?_ | ((with_reducible refine And.intro ?sc ?_); case sc => exact side) | ((with_reducible refine br_f ?sc ?_); case sc => exact sideB) | ((with_reducible refine br_t ?sc ?_); case sc => exact sideB))
  refine (show CallA Try.prog 44 [.ptr 0 0 0, .ptr 0 0 10, .int .i64 2] (pgR c1 hv fv sv dv f1 d1 (rdL 2 bad l) X cX {m with w := rdV 2 bad l}) _ _ from ?_)
  refine step44 (fun _ => [0]) [] rfl ?_
  repeat ((conv => whnf); first | with_reducible refine O_step ?_ | with_reducible refine S_step ?_ | with_reducible refine D_step ?_ | with_reducible refine RO.exit ?_ | with_reducible refine RO.ret ?_ | ((with_reducible refine And.intro ?sc ?_); case sc => exact side) | ((with_reducible refine br_f ?sc ?_); case sc => exact sideB) | ((with_reducible refine br_t ?sc ?_); case sc => exact sideB))
  refine numU_call (k := 2) (bad := rdB 2 bad l) (l := rdL 2 bad l) (by decide) b1 x1 (by simp [AV.nbl, AV.nb, isB_nb o.kh 2, isB_nb o.kf 2, o.ks, o.kd]) (fun c2 f2 d2 b2 x2 => ?_)
  repeat ((conv => whnf); first | with_reducible refine O_step ?_ | with_reducible refine S_step ?_ | with_reducible refine D_step ?_ | with_reducible refine RO.exit ?_ | with_reducible refine RO.ret ?_ | ((with_reducible refine And.intro ?sc ?_); case sc => exact side) | ((with_reducible refine br_f ?sc ?_); case sc => exact sideB) | ((with_reducible refine br_t ?sc ?_); case sc => exact sideB))
  rw [show rdV 2 (rdB 2 bad l) (rdL 2 bad l) % 65536 = rdV 2 (rdB 2 bad l) (rdL 2 bad l) by have := rdV_bound (k := 2) (bad := rdB 2 bad l) (x1).mem; omega]
  exact h c2 f2 d2 ⟨x2, b2, o.kh, o.kf, o.ks, o.kd⟩
theorem eventR (o : okR c0 hv fv sv dv bad off c l X m) (h : ∀ c0' off' c', okR c0' hv fv sv dv (rdB 4 (rdB 2 (rdB 2 (rdB 1 bad l) (rdL 1 bad l)) (rdL 2 (rdB 1 bad l) (rdL 1 bad l))) (rdL 2 (rdB 2 (rdB 1 bad l) (rdL 1 bad l)) (rdL 2 (rdB 1 bad l) (rdL 1 bad l)))) off' c' (rdL 4 (rdB 2 (rdB 2 (rdB 1 bad l) (rdL 1 bad l)) (rdL 2 (rdB 1 bad l) (rdL 1 bad l))) (rdL 2 (rdB 2 (rdB 1 bad l) (rdL 1 bad l)) (rdL 2 (rdB 1 bad l) (rdL 1 bad l)))) X {m with kind := rdV 1 bad l, ex := rdV 2 (rdB 1 bad l) (rdL 1 bad l), ey := rdV 2 (rdB 2 (rdB 1 bad l) (rdL 1 bad l)) (rdL 2 (rdB 1 bad l) (rdL 1 bad l)), code := rdV 4 (rdB 2 (rdB 2 (rdB 1 bad l) (rdL 1 bad l)) (rdL 2 (rdB 1 bad l) (rdL 1 bad l))) (rdL 2 (rdB 2 (rdB 1 bad l) (rdL 1 bad l)) (rdL 2 (rdB 1 bad l) (rdL 1 bad l)))} → K (.tup []) (pgR c0' hv fv sv dv off' c' (rdL 4 (rdB 2 (rdB 2 (rdB 1 bad l) (rdL 1 bad l)) (rdL 2 (rdB 1 bad l) (rdL 1 bad l))) (rdL 2 (rdB 2 (rdB 1 bad l) (rdL 1 bad l)) (rdL 2 (rdB 1 bad l) (rdL 1 bad l)))) X cX {m with kind := rdV 1 bad l, ex := rdV 2 (rdB 1 bad l) (rdL 1 bad l), ey := rdV 2 (rdB 2 (rdB 1 bad l) (rdL 1 bad l)) (rdL 2 (rdB 1 bad l) (rdL 1 bad l)), code := rdV 4 (rdB 2 (rdB 2 (rdB 1 bad l) (rdL 1 bad l)) (rdL 2 (rdB 1 bad l) (rdL 1 bad l))) (rdL 2 (rdB 2 (rdB 1 bad l) (rdL 1 bad l)) (rdL 2 (rdB 1 bad l) (rdL 1 bad l)))})) :
    CallA Try.prog 37 [.ptr 0 0 0] (pgR c0 hv fv sv dv off c l X cX m) K Kp := by
  refine step37 (fun _ => [0]) [] rfl ?_
  repeat ((conv => whnf); first | with_reducible refine O_step ?_ | with_reducible refine S_step ?_ | with_reducible refine D_step ?_ | with_reducible refine RO.exit ?_ | with_reducible refine RO.ret ?_ | ((with_reducible refine And.intro ?sc ?_); case sc => exact side) | ((with_reducible refine br_f ?sc ?_); case sc => exact sideB) | ((with_reducible refine br_t ?sc ?_); case sc => exact sideB))
  refine (show CallA Try.prog 46 [.ptr 0 0 0, .ptr 0 0 13, .int .i64 1] (pgR c0 hv fv sv dv off c (l) X cX m) _ _ from ?_)
  refine step46 (fun _ => [0]) [] rfl ?_
  repeat ((conv => whnf); first | with_reducible refine O_step ?_ | with_reducible refine S_step ?_ | with_reducible refine D_step ?_ | with_reducible refine RO.exit ?_ | with_reducible refine RO.ret ?_ | ((with_reducible refine And.intro ?sc ?_); case sc => exact side) | ((with_reducible refine br_f ?sc ?_); case sc => exact sideB) | ((with_reducible refine br_t ?sc ?_); case sc => exact sideB))
  refine numU_call (k := 1) (bad := bad) (l := l) (by decide) o.kc o.x (by simp [AV.nbl, AV.nb, isB_nb o.kh 2, isB_nb o.kf 2, o.ks, o.kd]) (fun c1 f1 d1 b1 x1 => ?_)
  repeat ((conv => whnf); first | with_reducible refine O_step ?_ | with_reducible refine S_step ?_ | with_reducible refine D_step ?_ | with_reducible refine RO.exit ?_ | with_reducible refine RO.ret ?_ | ((with_reducible refine And.intro ?sc ?_); case sc => exact side) | ((with_reducible refine br_f ?sc ?_); case sc => exact sideB) | ((with_reducible refine br_t ?sc ?_); case sc => exact sideB))
  rw [show rdV 1 (bad) (l) % 256 = rdV 1 (bad) (l) by have := rdV_bound (k := 1) (bad := bad) (o.x).mem; omega]
  repeat ((conv => whnf); first | with_reducible refine O_step ?_ | with_reducible refine S_step ?_ | with_reducible refine D_step ?_ | with_reducible refine RO.exit ?_ | with_reducible refine RO.ret ?_ | ((with_reducible refine And.intro ?sc ?_); case sc => exact side) | ((with_reducible refine br_f ?sc ?_); case sc => exact sideB) | ((with_reducible refine br_t ?sc ?_); case sc => exact sideB))
  refine (show CallA Try.prog 44 [.ptr 0 0 0, .ptr 0 0 14, .int .i64 2] (pgR c1 hv fv sv dv f1 d1 (rdL 1 bad l) X cX {m with kind := rdV 1 bad l}) _ _ from ?_)
  refine step44 (fun _ => [0]) [] rfl ?_
  repeat ((conv => whnf); first | with_reducible refine O_step ?_ | with_reducible refine S_step ?_ | with_reducible refine D_step ?_ | with_reducible refine RO.exit ?_ | with_reducible refine RO.ret ?_ | ((with_reducible refine And.intro ?sc ?_); case sc => exact side) | ((with_reducible refine br_f ?sc ?_); case sc => exact sideB) | ((with_reducible refine br_t ?sc ?_); case sc => exact sideB))
  refine numU_call (k := 2) (bad := rdB 1 bad l) (l := rdL 1 bad l) (by decide) b1 x1 (by simp [AV.nbl, AV.nb, isB_nb o.kh 2, isB_nb o.kf 2, o.ks, o.kd]) (fun c2 f2 d2 b2 x2 => ?_)
  repeat ((conv => whnf); first | with_reducible refine O_step ?_ | with_reducible refine S_step ?_ | with_reducible refine D_step ?_ | with_reducible refine RO.exit ?_ | with_reducible refine RO.ret ?_ | ((with_reducible refine And.intro ?sc ?_); case sc => exact side) | ((with_reducible refine br_f ?sc ?_); case sc => exact sideB) | ((with_reducible refine br_t ?sc ?_); case sc => exact sideB))
  rw [show rdV 2 (rdB 1 bad l) (rdL 1 bad l) % 65536 = rdV 2 (rdB 1 bad l) (rdL 1 bad l) by have := rdV_bound (k := 2) (bad := rdB 1 bad l) (x1).mem; omega]
  repeat ((conv => whnf); first | with_reducible refine O_step ?_ | with_reducible refine S_step ?_ | with_reducible refine D_step ?_ | with_reducible refine RO.exit ?_ | with_reducible refine RO.ret ?_ | ((with_reducible refine And.intro ?sc ?_); case sc => exact side) | ((with_reducible refine br_f ?sc ?_); case sc => exact sideB) | ((with_reducible refine br_t ?sc ?_); case sc => exact sideB))
  refine (show CallA Try.prog 44 [.ptr 0 0 0, .ptr 0 0 15, .int .i64 2] (pgR c2 hv fv sv dv f2 d2 (rdL 2 (rdB 1 bad l) (rdL 1 bad l)) X cX {m with kind := rdV 1 bad l, ex := rdV 2 (rdB 1 bad l) (rdL 1 bad l)}) _ _ from ?_)
  refine step44 (fun _ => [0]) [] rfl ?_
  repeat ((conv => whnf); first | with_reducible refine O_step ?_ | with_reducible refine S_step ?_ | with_reducible refine D_step ?_ | with_reducible refine RO.exit ?_ | with_reducible refine RO.ret ?_ | ((with_reducible refine And.intro ?sc ?_); case sc => exact side) | ((with_reducible refine br_f ?sc ?_); case sc => exact sideB) | ((with_reducible refine br_t ?sc ?_); case sc => exact sideB))
  refine numU_call (k := 2) (bad := rdB 2 (rdB 1 bad l) (rdL 1 bad l)) (l := rdL 2 (rdB 1 bad l) (rdL 1 bad l)) (by decide) b2 x2 (by simp [AV.nbl, AV.nb, isB_nb o.kh 2, isB_nb o.kf 2, o.ks, o.kd]) (fun c3 f3 d3 b3 x3 => ?_)
  repeat ((conv => whnf); first | with_reducible refine O_step ?_ | with_reducible refine S_step ?_ | with_reducible refine D_step ?_ | with_reducible refine RO.exit ?_ | with_reducible refine RO.ret ?_ | ((with_reducible refine And.intro ?sc ?_); case sc => exact side) | ((with_reducible refine br_f ?sc ?_); case sc => exact sideB) | ((with_reducible refine br_t ?sc ?_); case sc => exact sideB))
  rw [show rdV 2 (rdB 2 (rdB 1 bad l) (rdL 1 bad l)) (rdL 2 (rdB 1 bad l) (rdL 1 bad l)) % 65536 = rdV 2 (rdB 2 (rdB 1 bad l) (rdL 1 bad l)) (rdL 2 (rdB 1 bad l) (rdL 1 bad l)) by have := rdV_bound (k := 2) (bad := rdB 2 (rdB 1 bad l) (rdL 1 bad l)) (x2).mem; omega]
  repeat ((conv => whnf); first | with_reducible refine O_step ?_ | with_reducible refine S_step ?_ | with_reducible refine D_step ?_ | with_reducible refine RO.exit ?_ | with_reducible refine RO.ret ?_ | ((with_reducible refine And.intro ?sc ?_); case sc => exact side) | ((with_reducible refine br_f ?sc ?_); case sc => exact sideB) | ((with_reducible refine br_t ?sc ?_); case sc => exact sideB))
  refine (show CallA Try.prog 42 [.ptr 0 0 0, .ptr 0 0 16, .int .i64 4] (pgR c3 hv fv sv dv f3 d3 (rdL 2 (rdB 2 (rdB 1 bad l) (rdL 1 bad l)) (rdL 2 (rdB 1 bad l) (rdL 1 bad l))) X cX {m with kind := rdV 1 bad l, ex := rdV 2 (rdB 1 bad l) (rdL 1 bad l), ey := rdV 2 (rdB 2 (rdB 1 bad l) (rdL 1 bad l)) (rdL 2 (rdB 1 bad l) (rdL 1 bad l))}) _ _ from ?_)
  refine step42 (fun _ => [0]) [] rfl ?_
  repeat ((conv => whnf); first | with_reducible refine O_step ?_ | with_reducible refine S_step ?_ | with_reducible refine D_step ?_ | with_reducible refine RO.exit ?_ | with_reducible refine RO.ret ?_ | ((with_reducible refine And.intro ?sc ?_); case sc => exact side) | ((with_reducible refine br_f ?sc ?_); case sc => exact sideB) | ((with_reducible refine br_t ?sc ?_); case sc => exact sideB))
  refine numU_call (k := 4) (bad := rdB 2 (rdB 2 (rdB 1 bad l) (rdL 1 bad l)) (rdL 2 (rdB 1 bad l) (rdL 1 bad l))) (l := rdL 2 (rdB 2 (rdB 1 bad l) (rdL 1 bad l)) (rdL 2 (rdB 1 bad l) (rdL 1 bad l))) (by decide) b3 x3 (by simp [AV.nbl, AV.nb, isB_nb o.kh 2, isB_nb o.kf 2, o.ks, o.kd]) (fun c4 f4 d4 b4 x4 => ?_)
  repeat ((conv => whnf); first | with_reducible refine O_step ?_ | with_reducible refine S_step ?_ | with_reducible refine D_step ?_ | with_reducible refine RO.exit ?_ | with_reducible refine RO.ret ?_ | ((with_reducible refine And.intro ?sc ?_); case sc => exact side) | ((with_reducible refine br_f ?sc ?_); case sc => exact sideB) | ((with_reducible refine br_t ?sc ?_); case sc => exact sideB))
  rw [show rdV 4 (rdB 2 (rdB 2 (rdB 1 bad l) (rdL 1 bad l)) (rdL 2 (rdB 1 bad l) (rdL 1 bad l))) (rdL 2 (rdB 2 (rdB 1 bad l) (rdL 1 bad l)) (rdL 2 (rdB 1 bad l) (rdL 1 bad l))) % 4294967296 = rdV 4 (rdB 2 (rdB 2 (rdB 1 bad l) (rdL 1 bad l)) (rdL 2 (rdB 1 bad l) (rdL 1 bad l))) (rdL 2 (rdB 2 (rdB 1 bad l) (rdL 1 bad l)) (rdL 2 (rdB 1 bad l) (rdL 1 bad l))) by have := rdV_bound (k := 4) (bad := rdB 2 (rdB 2 (rdB 1 bad l) (rdL 1 bad l)) (rdL 2 (rdB 1 bad l) (rdL 1 bad l))) (x3).mem; omega]
  exact h c4 f4 d4 ⟨x4, b4, o.kh, o.kf, o.ks, o.kd⟩

theorem hasR (o : okR c0 hv fv sv dv bad off c l X m) (h : ∀ c0' hv' off' c', isB c0' (trB bad l) → isB hv' (decide (rdV 1 bad l = 1)) → inX X off' c' (rdL 1 bad l) → K (.tup []) (pgR c0' hv' fv sv dv off' c' (rdL 1 bad l) X cX m)) :
    CallA Try.prog 29 [.ptr 0 0 0] (pgR c0 hv fv sv dv off c l X cX m) K Kp := by
  cases hh : m.has
  · rcases o.kh with e | ⟨e, _⟩ | ⟨_, hx⟩
    · rw [hh] at e; subst e
      refine step29 (fun _ => [0]) [] rfl ?_
      repeat ((conv => whnf); first | with_reducible refine O_step ?_ | with_reducible refine S_step ?_ | with_reducible refine D_step ?_ | with_reducible refine RO.exit ?_ | with_reducible refine RO.ret ?_ | ((with_reducible refine And.intro ?sc ?_); case sc => exact side) | ((with_reducible refine br_f ?sc ?_); case sc => exact sideB) | ((with_reducible refine br_t ?sc ?_); case sc => exact sideB))
      refine step43 (fun _ => [0]) [] rfl ?_
      repeat ((conv => whnf); first | with_reducible refine O_step ?_ | with_reducible refine S_step ?_ | with_reducible refine D_step ?_ | with_reducible refine RO.exit ?_ | with_reducible refine RO.ret ?_ | ((with_reducible refine And.intro ?sc ?_); case sc => exact side) | ((with_reducible refine br_f ?sc ?_); case sc => exact sideB) | ((with_reducible refine br_t ?sc ?_); case sc => exact sideB))
      refine numU_call (k := 1) (bad := bad) (l := l) (by decide) o.kc o.x (by simp [AV.nbl, AV.nb, isB_nb o.kh 2, isB_nb o.kf 2, o.ks, o.kd]) (fun c' off' d' k1 k2 => ?_)
      repeat ((conv => whnf); first | with_reducible refine O_step ?_ | with_reducible refine S_step ?_ | with_reducible refine D_step ?_ | with_reducible refine RO.exit ?_ | with_reducible refine RO.ret ?_ | ((with_reducible refine And.intro ?sc ?_); case sc => exact side) | ((with_reducible refine br_f ?sc ?_); case sc => exact sideB) | ((with_reducible refine br_t ?sc ?_); case sc => exact sideB))
      cases hbd : rdB 1 bad l
      · rw [hbd] at k1
        rcases k1 with rfl | ⟨rfl, _⟩ | ⟨_, hx⟩
        · skip
          refine step25 (fun _ => []) [] rfl ?_
          repeat ((conv => whnf); first | with_reducible refine O_step ?_ | with_reducible refine S_step ?_ | with_reducible refine D_step ?_ | with_reducible refine RO.exit ?_ | with_reducible refine RO.ret ?_ | ((with_reducible refine And.intro ?sc ?_); case sc => exact side) | ((with_reducible refine br_f ?sc ?_); case sc => exact sideB) | ((with_reducible refine br_t ?sc ?_); case sc => exact sideB))
          exact h _ _ off' d' (.inl (show AV.bo (!decide (rdV 1 bad l < 2)) = AV.bo (trB bad l) by rw [trB, hbd]; rfl)) (.inl rfl) k2
        · skip
          refine step25 (fun _ => []) [] rfl ?_
          repeat ((conv => whnf); first | with_reducible refine O_step ?_ | with_reducible refine S_step ?_ | with_reducible refine D_step ?_ | with_reducible refine RO.exit ?_ | with_reducible refine RO.ret ?_ | ((with_reducible refine And.intro ?sc ?_); case sc => exact side) | ((with_reducible refine br_f ?sc ?_); case sc => exact sideB) | ((with_reducible refine br_t ?sc ?_); case sc => exact sideB))
          exact h _ _ off' d' (.inl (show AV.bo (!decide (rdV 1 bad l < 2)) = AV.bo (trB bad l) by rw [trB, hbd]; rfl)) (.inl rfl) k2
        · cases hx
      · rw [hbd] at k1
        rcases k1 with rfl | ⟨_, hx⟩ | ⟨rfl, _⟩
        · skip
          refine step25 (fun _ => []) [] rfl ?_
          repeat ((conv => whnf); first | with_reducible refine O_step ?_ | with_reducible refine S_step ?_ | with_reducible refine D_step ?_ | with_reducible refine RO.exit ?_ | with_reducible refine RO.ret ?_ | ((with_reducible refine And.intro ?sc ?_); case sc => exact side) | ((with_reducible refine br_f ?sc ?_); case sc => exact sideB) | ((with_reducible refine br_t ?sc ?_); case sc => exact sideB))
          exact h _ _ off' d' (.inr (.inr ⟨rfl, by rw [trB, hbd]; rfl⟩)) (.inl rfl) k2
        · cases hx
        · skip
          refine step25 (fun _ => []) [] rfl ?_
          repeat ((conv => whnf); first | with_reducible refine O_step ?_ | with_reducible refine S_step ?_ | with_reducible refine D_step ?_ | with_reducible refine RO.exit ?_ | with_reducible refine RO.ret ?_ | ((with_reducible refine And.intro ?sc ?_); case sc => exact side) | ((with_reducible refine br_f ?sc ?_); case sc => exact sideB) | ((with_reducible refine br_t ?sc ?_); case sc => exact sideB))
          exact h _ _ off' d' (.inr (.inr ⟨rfl, by rw [trB, hbd]; rfl⟩)) (.inl rfl) k2
    · subst e
      refine step29 (fun _ => [0]) [] rfl ?_
      repeat ((conv => whnf); first | with_reducible refine O_step ?_ | with_reducible refine S_step ?_ | with_reducible refine D_step ?_ | with_reducible refine RO.exit ?_ | with_reducible refine RO.ret ?_ | ((with_reducible refine And.intro ?sc ?_); case sc => exact side) | ((with_reducible refine br_f ?sc ?_); case sc => exact sideB) | ((with_reducible refine br_t ?sc ?_); case sc => exact sideB))
      refine step43 (fun _ => [0]) [] rfl ?_
      repeat ((conv => whnf); first | with_reducible refine O_step ?_ | with_reducible refine S_step ?_ | with_reducible refine D_step ?_ | with_reducible refine RO.exit ?_ | with_reducible refine RO.ret ?_ | ((with_reducible refine And.intro ?sc ?_); case sc => exact side) | ((with_reducible refine br_f ?sc ?_); case sc => exact sideB) | ((with_reducible refine br_t ?sc ?_); case sc => exact sideB))
      refine numU_call (k := 1) (bad := bad) (l := l) (by decide) o.kc o.x (by simp [AV.nbl, AV.nb, isB_nb o.kh 2, isB_nb o.kf 2, o.ks, o.kd]) (fun c' off' d' k1 k2 => ?_)
      repeat ((conv => whnf); first | with_reducible refine O_step ?_ | with_reducible refine S_step ?_ | with_reducible refine D_step ?_ | with_reducible refine RO.exit ?_ | with_reducible refine RO.ret ?_ | ((with_reducible refine And.intro ?sc ?_); case sc => exact side) | ((with_reducible refine br_f ?sc ?_); case sc => exact sideB) | ((with_reducible refine br_t ?sc ?_); case sc => exact sideB))
      cases hbd : rdB 1 bad l
      · rw [hbd] at k1
        rcases k1 with rfl | ⟨rfl, _⟩ | ⟨_, hx⟩
        · skip
          refine step25 (fun _ => []) [] rfl ?_
          repeat ((conv => whnf); first | with_reducible refine O_step ?_ | with_reducible refine S_step ?_ | with_reducible refine D_step ?_ | with_reducible refine RO.exit ?_ | with_reducible refine RO.ret ?_ | ((with_reducible refine And.intro ?sc ?_); case sc => exact side) | ((with_reducible refine br_f ?sc ?_); case sc => exact sideB) | ((with_reducible refine br_t ?sc ?_); case sc => exact sideB))
          exact h _ _ off' d' (.inl (show AV.bo (!decide (rdV 1 bad l < 2)) = AV.bo (trB bad l) by rw [trB, hbd]; rfl)) (.inl rfl) k2
        · skip
          refine step25 (fun _ => []) [] rfl ?_
          repeat ((conv => whnf); first | with_reducible refine O_step ?_ | with_reducible refine S_step ?_ | with_reducible refine D_step ?_ | with_reducible refine RO.exit ?_ | with_reducible refine RO.ret ?_ | ((with_reducible refine And.intro ?sc ?_); case sc => exact side) | ((with_reducible refine br_f ?sc ?_); case sc => exact sideB) | ((with_reducible refine br_t ?sc ?_); case sc => exact sideB))
          exact h _ _ off' d' (.inl (show AV.bo (!decide (rdV 1 bad l < 2)) = AV.bo (trB bad l) by rw [trB, hbd]; rfl)) (.inl rfl) k2
        · cases hx
      · rw [hbd] at k1
        rcases k1 with rfl | ⟨_, hx⟩ | ⟨rfl, _⟩
        · skip
          refine step25 (fun _ => []) [] rfl ?_
          repeat ((conv => whnf); first | with_reducible refine O_step ?_ | with_reducible refine S_step ?_ | with_reducible refine D_step ?_ | with_reducible refine RO.exit ?_ | with_reducible refine RO.ret ?_ | ((with_reducible refine And.intro ?sc ?_); case sc => exact side) | ((with_reducible refine br_f ?sc ?_); case sc => exact sideB) | ((with_reducible refine br_t ?sc ?_); case sc => exact sideB))
          exact h _ _ off' d' (.inr (.inr ⟨rfl, by rw [trB, hbd]; rfl⟩)) (.inl rfl) k2
        · cases hx
        · skip
          refine step25 (fun _ => []) [] rfl ?_
          repeat ((conv => whnf); first | with_reducible refine O_step ?_ | with_reducible refine S_step ?_ | with_reducible refine D_step ?_ | with_reducible refine RO.exit ?_ | with_reducible refine RO.ret ?_ | ((with_reducible refine And.intro ?sc ?_); case sc => exact side) | ((with_reducible refine br_f ?sc ?_); case sc => exact sideB) | ((with_reducible refine br_t ?sc ?_); case sc => exact sideB))
          exact h _ _ off' d' (.inr (.inr ⟨rfl, by rw [trB, hbd]; rfl⟩)) (.inl rfl) k2
    · rw [hh] at hx; cases hx
  · rcases o.kh with e | ⟨_, hx⟩ | ⟨e, _⟩
    · rw [hh] at e; subst e
      refine step29 (fun _ => [0]) [] rfl ?_
      repeat ((conv => whnf); first | with_reducible refine O_step ?_ | with_reducible refine S_step ?_ | with_reducible refine D_step ?_ | with_reducible refine RO.exit ?_ | with_reducible refine RO.ret ?_ | ((with_reducible refine And.intro ?sc ?_); case sc => exact side) | ((with_reducible refine br_f ?sc ?_); case sc => exact sideB) | ((with_reducible refine br_t ?sc ?_); case sc => exact sideB))
      refine step43 (fun _ => [0]) [] rfl ?_
      repeat ((conv => whnf); first | with_reducible refine O_step ?_ | with_reducible refine S_step ?_ | with_reducible refine D_step ?_ | with_reducible refine RO.exit ?_ | with_reducible refine RO.ret ?_ | ((with_reducible refine And.intro ?sc ?_); case sc => exact side) | ((with_reducible refine br_f ?sc ?_); case sc => exact sideB) | ((with_reducible refine br_t ?sc ?_); case sc => exact sideB))
      refine numU_call (k := 1) (bad := bad) (l := l) (by decide) o.kc o.x (by simp [AV.nbl, AV.nb, isB_nb o.kh 2, isB_nb o.kf 2, o.ks, o.kd]) (fun c' off' d' k1 k2 => ?_)
      repeat ((conv => whnf); first | with_reducible refine O_step ?_ | with_reducible refine S_step ?_ | with_reducible refine D_step ?_ | with_reducible refine RO.exit ?_ | with_reducible refine RO.ret ?_ | ((with_reducible refine And.intro ?sc ?_); case sc => exact side) | ((with_reducible refine br_f ?sc ?_); case sc => exact sideB) | ((with_reducible refine br_t ?sc ?_); case sc => exact sideB))
      cases hbd : rdB 1 bad l
      · rw [hbd] at k1
        rcases k1 with rfl | ⟨rfl, _⟩ | ⟨_, hx⟩
        · skip
          refine step25 (fun _ => []) [] rfl ?_
          repeat ((conv => whnf); first | with_reducible refine O_step ?_ | with_reducible refine S_step ?_ | with_reducible refine D_step ?_ | with_reducible refine RO.exit ?_ | with_reducible refine RO.ret ?_ | ((with_reducible refine And.intro ?sc ?_); case sc => exact side) | ((with_reducible refine br_f ?sc ?_); case sc => exact sideB) | ((with_reducible refine br_t ?sc ?_); case sc => exact sideB))
          exact h _ _ off' d' (.inl (show AV.bo (!decide (rdV 1 bad l < 2)) = AV.bo (trB bad l) by rw [trB, hbd]; rfl)) (.inl rfl) k2
        · skip
          refine step25 (fun _ => []) [] rfl ?_
          repeat ((conv => whnf); first | with_reducible refine O_step ?_ | with_reducible refine S_step ?_ | with_reducible refine D_step ?_ | with_reducible refine RO.exit ?_ | with_reducible refine RO.ret ?_ | ((with_reducible refine And.intro ?sc ?_); case sc => exact side) | ((with_reducible refine br_f ?sc ?_); case sc => exact sideB) | ((with_reducible refine br_t ?sc ?_); case sc => exact sideB))
          exact h _ _ off' d' (.inl (show AV.bo (!decide (rdV 1 bad l < 2)) = AV.bo (trB bad l) by rw [trB, hbd]; rfl)) (.inl rfl) k2
        · cases hx
      · rw [hbd] at k1
        rcases k1 with rfl | ⟨_, hx⟩ | ⟨rfl, _⟩
        · skip
          refine step25 (fun _ => []) [] rfl ?_
          repeat ((conv => whnf); first | with_reducible refine O_step ?_ | with_reducible refine S_step ?_ | with_reducible refine D_step ?_ | with_reducible refine RO.exit ?_ | with_reducible refine RO.ret ?_ | ((with_reducible refine And.intro ?sc ?_); case sc => exact side) | ((with_reducible refine br_f ?sc ?_); case sc => exact sideB) | ((with_reducible refine br_t ?sc ?_); case sc => exact sideB))
          exact h _ _ off' d' (.inr (.inr ⟨rfl, by rw [trB, hbd]; rfl⟩)) (.inl rfl) k2
        · cases hx
        · skip
          refine step25 (fun _ => []) [] rfl ?_
          repeat ((conv => whnf); first | with_reducible refine O_step ?_ | with_reducible refine S_step ?_ | with_reducible refine D_step ?_ | with_reducible refine RO.exit ?_ | with_reducible refine RO.ret ?_ | ((with_reducible refine And.intro ?sc ?_); case sc => exact side) | ((with_reducible refine br_f ?sc ?_); case sc => exact sideB) | ((with_reducible refine br_t ?sc ?_); case sc => exact sideB))
          exact h _ _ off' d' (.inr (.inr ⟨rfl, by rw [trB, hbd]; rfl⟩)) (.inl rfl) k2
    · rw [hh] at hx; cases hx
    · subst e
      refine step29 (fun _ => [0]) [] rfl ?_
      repeat ((conv => whnf); first | with_reducible refine O_step ?_ | with_reducible refine S_step ?_ | with_reducible refine D_step ?_ | with_reducible refine RO.exit ?_ | with_reducible refine RO.ret ?_ | ((with_reducible refine And.intro ?sc ?_); case sc => exact side) | ((with_reducible refine br_f ?sc ?_); case sc => exact sideB) | ((with_reducible refine br_t ?sc ?_); case sc => exact sideB))
      refine step43 (fun _ => [0]) [] rfl ?_
      repeat ((conv => whnf); first | with_reducible refine O_step ?_ | with_reducible refine S_step ?_ | with_reducible refine D_step ?_ | with_reducible refine RO.exit ?_ | with_reducible refine RO.ret ?_ | ((with_reducible refine And.intro ?sc ?_); case sc => exact side) | ((with_reducible refine br_f ?sc ?_); case sc => exact sideB) | ((with_reducible refine br_t ?sc ?_); case sc => exact sideB))
      refine numU_call (k := 1) (bad := bad) (l := l) (by decide) o.kc o.x (by simp [AV.nbl, AV.nb, isB_nb o.kh 2, isB_nb o.kf 2, o.ks, o.kd]) (fun c' off' d' k1 k2 => ?_)
      repeat ((conv => whnf); first | with_reducible refine O_step ?_ | with_reducible refine S_step ?_ | with_reducible refine D_step ?_ | with_reducible refine RO.exit ?_ | with_reducible refine RO.ret ?_ | ((with_reducible refine And.intro ?sc ?_); case sc => exact side) | ((with_reducible refine br_f ?sc ?_); case sc => exact sideB) | ((with_reducible refine br_t ?sc ?_); case sc => exact sideB))
      cases hbd : rdB 1 bad l
      · rw [hbd] at k1
        rcases k1 with rfl | ⟨rfl, _⟩ | ⟨_, hx⟩
        · skip
          refine step25 (fun _ => []) [] rfl ?_
          repeat ((conv => whnf); first | with_reducible refine O_step ?_ | with_reducible refine S_step ?_ | with_reducible refine D_step ?_ | with_reducible refine RO.exit ?_ | with_reducible refine RO.ret ?_ | ((with_reducible refine And.intro ?sc ?_); case sc => exact side) | ((with_reducible refine br_f ?sc ?_); case sc => exact sideB) | ((with_reducible refine br_t ?sc ?_); case sc => exact sideB))
          exact h _ _ off' d' (.inl (show AV.bo (!decide (rdV 1 bad l < 2)) = AV.bo (trB bad l) by rw [trB, hbd]; rfl)) (.inl rfl) k2
        · skip
          refine step25 (fun _ => []) [] rfl ?_
          repeat ((conv => whnf); first | with_reducible refine O_step ?_ | with_reducible refine S_step ?_ | with_reducible refine D_step ?_ | with_reducible refine RO.exit ?_ | with_reducible refine RO.ret ?_ | ((with_reducible refine And.intro ?sc ?_); case sc => exact side) | ((with_reducible refine br_f ?sc ?_); case sc => exact sideB) | ((with_reducible refine br_t ?sc ?_); case sc => exact sideB))
          exact h _ _ off' d' (.inl (show AV.bo (!decide (rdV 1 bad l < 2)) = AV.bo (trB bad l) by rw [trB, hbd]; rfl)) (.inl rfl) k2
        · cases hx
      · rw [hbd] at k1
        rcases k1 with rfl | ⟨_, hx⟩ | ⟨rfl, _⟩
        · skip
          refine step25 (fun _ => []) [] rfl ?_
          repeat ((conv => whnf); first | with_reducible refine O_step ?_ | with_reducible refine S_step ?_ | with_reducible refine D_step ?_ | with_reducible refine RO.exit ?_ | with_reducible refine RO.ret ?_ | ((with_reducible refine And.intro ?sc ?_); case sc => exact side) | ((with_reducible refine br_f ?sc ?_); case sc => exact sideB) | ((with_reducible refine br_t ?sc ?_); case sc => exact sideB))
          exact h _ _ off' d' (.inr (.inr ⟨rfl, by rw [trB, hbd]; rfl⟩)) (.inl rfl) k2
        · cases hx
        · skip
          refine step25 (fun _ => []) [] rfl ?_
          repeat ((conv => whnf); first | with_reducible refine O_step ?_ | with_reducible refine S_step ?_ | with_reducible refine D_step ?_ | with_reducible refine RO.exit ?_ | with_reducible refine RO.ret ?_ | ((with_reducible refine And.intro ?sc ?_); case sc => exact side) | ((with_reducible refine br_f ?sc ?_); case sc => exact sideB) | ((with_reducible refine br_t ?sc ?_); case sc => exact sideB))
          exact h _ _ off' d' (.inr (.inr ⟨rfl, by rw [trB, hbd]; rfl⟩)) (.inl rfl) k2
theorem fullR (o : okR c0 hv fv sv dv bad off c l X m) (h : ∀ c0' fv' off' c', isB c0' (trB bad l) → isB fv' (decide (rdV 1 bad l = 1)) → inX X off' c' (rdL 1 bad l) → K (.tup []) (pgR c0' hv fv' sv dv off' c' (rdL 1 bad l) X cX m)) :
    CallA Try.prog 35 [.ptr 0 0 0] (pgR c0 hv fv sv dv off c l X cX m) K Kp := by
  cases hh : m.full
  · rcases o.kf with e | ⟨e, _⟩ | ⟨_, hx⟩
    · rw [hh] at e; subst e
      refine step35 (fun _ => [0]) [] rfl ?_
      repeat ((conv => whnf); first | with_reducible refine O_step ?_ | with_reducible refine S_step ?_ | with_reducible refine D_step ?_ | with_reducible refine RO.exit ?_ | with_reducible refine RO.ret ?_ | ((with_reducible refine And.intro ?sc ?_); case sc => exact side) | ((with_reducible refine br_f ?sc ?_); case sc => exact sideB) | ((with_reducible refine br_t ?sc ?_); case sc => exact sideB))
      refine step43 (fun _ => [0]) [] rfl ?_
      repeat ((conv => whnf); first | with_reducible refine O_step ?_ | with_reducible refine S_step ?_ | with_reducible refine D_step ?_ | with_reducible refine RO.exit ?_ | with_reducible refine RO.ret ?_ | ((with_reducible refine And.intro ?sc ?_); case sc => exact side) | ((with_reducible refine br_f ?sc ?_); case sc => exact sideB) | ((with_reducible refine br_t ?sc ?_); case sc => exact sideB))
      refine numU_call (k := 1) (bad := bad) (l := l) (by decide) o.kc o.x (by simp [AV.nbl, AV.nb, isB_nb o.kh 2, isB_nb o.kf 2, o.ks, o.kd]) (fun c' off' d' k1 k2 => ?_)
      repeat ((conv => whnf); first | with_reducible refine O_step ?_ | with_reducible refine S_step ?_ | with_reducible refine D_step ?_ | with_reducible refine RO.exit ?_ | with_reducible refine RO.ret ?_ | ((with_reducible refine And.intro ?sc ?_); case sc => exact side) | ((with_reducible refine br_f ?sc ?_); case sc => exact sideB) | ((with_reducible refine br_t ?sc ?_); case sc => exact sideB))
      cases hbd : rdB 1 bad l
      · rw [hbd] at k1
        rcases k1 with rfl | ⟨rfl, _⟩ | ⟨_, hx⟩
        · skip
          refine step25 (fun _ => []) [] rfl ?_
          repeat ((conv => whnf); first | with_reducible refine O_step ?_ | with_reducible refine S_step ?_ | with_reducible refine D_step ?_ | with_reducible refine RO.exit ?_ | with_reducible refine RO.ret ?_ | ((with_reducible refine And.intro ?sc ?_); case sc => exact side) | ((with_reducible refine br_f ?sc ?_); case sc => exact sideB) | ((with_reducible refine br_t ?sc ?_); case sc => exact sideB))
          exact h _ _ off' d' (.inl (show AV.bo (!decide (rdV 1 bad l < 2)) = AV.bo (trB bad l) by rw [trB, hbd]; rfl)) (.inl rfl) k2
        · skip
          refine step25 (fun _ => []) [] rfl ?_
          repeat ((conv => whnf); first | with_reducible refine O_step ?_ | with_reducible refine S_step ?_ | with_reducible refine D_step ?_ | with_reducible refine RO.exit ?_ | with_reducible refine RO.ret ?_ | ((with_reducible refine And.intro ?sc ?_); case sc => exact side) | ((with_reducible refine br_f ?sc ?_); case sc => exact sideB) | ((with_reducible refine br_t ?sc ?_); case sc => exact sideB))
          exact h _ _ off' d' (.inl (show AV.bo (!decide (rdV 1 bad l < 2)) = AV.bo (trB bad l) by rw [trB, hbd]; rfl)) (.inl rfl) k2
        · cases hx
      · rw [hbd] at k1
        rcases k1 with rfl | ⟨_, hx⟩ | ⟨rfl, _⟩
        · skip
          refine step25 (fun _ => []) [] rfl ?_
          repeat ((conv => whnf); first | with_reducible refine O_step ?_ | with_reducible refine S_step ?_ | with_reducible refine D_step ?_ | with_reducible refine RO.exit ?_ | with_reducible refine RO.ret ?_ | ((with_reducible refine And.intro ?sc ?_); case sc => exact side) | ((with_reducible refine br_f ?sc ?_); case sc => exact sideB) | ((with_reducible refine br_t ?sc ?_); case sc => exact sideB))
          exact h _ _ off' d' (.inr (.inr ⟨rfl, by rw [trB, hbd]; rfl⟩)) (.inl rfl) k2
        · cases hx
        · skip
          refine step25 (fun _ => []) [] rfl ?_
          repeat ((conv => whnf); first | with_reducible refine O_step ?_ | with_reducible refine S_step ?_ | with_reducible refine D_step ?_ | with_reducible refine RO.exit ?_ | with_reducible refine RO.ret ?_ | ((with_reducible refine And.intro ?sc ?_); case sc => exact side) | ((with_reducible refine br_f ?sc ?_); case sc => exact sideB) | ((with_reducible refine br_t ?sc ?_); case sc => exact sideB))
          exact h _ _ off' d' (.inr (.inr ⟨rfl, by rw [trB, hbd]; rfl⟩)) (.inl rfl) k2
    · subst e
      refine step35 (fun _ => [0]) [] rfl ?_
      repeat ((conv => whnf); first | with_reducible refine O_step ?_ | with_reducible refine S_step ?_ | with_reducible refine D_step ?_ | with_reducible refine RO.exit ?_ | with_reducible refine RO.ret ?_ | ((with_reducible refine And.intro ?sc ?_); case sc => exact side) | ((with_reducible refine br_f ?sc ?_); case sc => exact sideB) | ((with_reducible refine br_t ?sc ?_); case sc => exact sideB))
      refine step43 (fun _ => [0]) [] rfl ?_
      repeat ((conv => whnf); first | with_reducible refine O_step ?_ | with_reducible refine S_step ?_ | with_reducible refine D_step ?_ | with_reducible refine RO.exit ?_ | with_reducible refine RO.ret ?_ | ((with_reducible refine And.intro ?sc ?_); case sc => exact side) | ((with_reducible refine br_f ?sc ?_); case sc => exact sideB) | ((with_reducible refine br_t ?sc ?_); case sc => exact sideB))
      refine numU_call (k := 1) (bad := bad) (l := l) (by decide) o.kc o.x (by simp [AV.nbl, AV.nb, isB_nb o.kh 2, isB_nb o.kf 2, o.ks, o.kd]) (fun c' off' d' k1 k2 => ?_)
      repeat ((conv => whnf); first | with_reducible refine O_step ?_ | with_reducible refine S_step ?_ | with_reducible refine D_step ?_ | with_reducible refine RO.exit ?_ | with_reducible refine RO.ret ?_ | ((with_reducible refine And.intro ?sc ?_); case sc => exact side) | ((with_reducible refine br_f ?sc ?_); case sc => exact sideB) | ((with_reducible refine br_t ?sc ?_); case sc => exact sideB))
      cases hbd : rdB 1 bad l
      · rw [hbd] at k1
        rcases k1 with rfl | ⟨rfl, _⟩ | ⟨_, hx⟩
        · skip
          refine step25 (fun _ => []) [] rfl ?_
          repeat ((conv => whnf); first | with_reducible refine O_step ?_ | with_reducible refine S_step ?_ | with_reducible refine D_step ?_ | with_reducible refine RO.exit ?_ | with_reducible refine RO.ret ?_ | ((with_reducible refine And.intro ?sc ?_); case sc => exact side) | ((with_reducible refine br_f ?sc ?_); case sc => exact sideB) | ((with_reducible refine br_t ?sc ?_); case sc => exact sideB))
          exact h _ _ off' d' (.inl (show AV.bo (!decide (rdV 1 bad l < 2)) = AV.bo (trB bad l) by rw [trB, hbd]; rfl)) (.inl rfl) k2
        · skip
          refine step25 (fun _ => []) [] rfl ?_
          repeat ((conv => whnf); first | with_reducible refine O_step ?_ | with_reducible refine S_step ?_ | with_reducible refine D_step ?_ | with_reducible refine RO.exit ?_ | with_reducible refine RO.ret ?_ | ((with_reducible refine And.intro ?sc ?_); case sc => exact side) | ((with_reducible refine br_f ?sc ?_); case sc => exact sideB) | ((with_reducible refine br_t ?sc ?_); case sc => exact sideB))
          exact h _ _ off' d' (.inl (show AV.bo (!decide (rdV 1 bad l < 2)) = AV.bo (trB bad l) by rw [trB, hbd]; rfl)) (.inl rfl) k2
        · cases hx
      · rw [hbd] at k1
        rcases k1 with rfl | ⟨_, hx⟩ | ⟨rfl, _⟩
        · skip
          refine step25 (fun _ => []) [] rfl ?_
          repeat ((conv => whnf); first | with_reducible refine O_step ?_ | with_reducible refine S_step ?_ | with_reducible refine D_step ?_ | with_reducible refine RO.exit ?_ | with_reducible refine RO.ret ?_ | ((with_reducible refine And.intro ?sc ?_); case sc => exact side) | ((with_reducible refine br_f ?sc ?_); case sc => exact sideB) | ((with_reducible refine br_t ?sc ?_); case sc => exact sideB))
          exact h _ _ off' d' (.inr (.inr ⟨rfl, by rw [trB, hbd]; rfl⟩)) (.inl rfl) k2
        · cases hx
        · skip
          refine step25 (fun _ => []) [] rfl ?_
          repeat ((conv => whnf); first | with_reducible refine O_step ?_ | with_reducible refine S_step ?_ | with_reducible refine D_step ?_ | with_reducible refine RO.exit ?_ | with_reducible refine RO.ret ?_ | ((with_reducible refine And.intro ?sc ?_); case sc => exact side) | ((with_reducible refine br_f ?sc ?_); case sc => exact sideB) | ((with_reducible refine br_t ?sc ?_); case sc => exact sideB))
          exact h _ _ off' d' (.inr (.inr ⟨rfl, by rw [trB, hbd]; rfl⟩)) (.inl rfl) k2
    · rw [hh] at hx; cases hx
  · rcases o.kf with e | ⟨_, hx⟩ | ⟨e, _⟩
    · rw [hh] at e; subst e
      refine step35 (fun _ => [0]) [] rfl ?_
      repeat ((conv => whnf); first | with_reducible refine O_step ?_ | with_reducible refine S_step ?_ | with_reducible refine D_step ?_ | with_reducible refine RO.exit ?_ | with_reducible refine RO.ret ?_ | ((with_reducible refine And.intro ?sc ?_); case sc => exact side) | ((with_reducible refine br_f ?sc ?_); case sc => exact sideB) | ((with_reducible refine br_t ?sc ?_); case sc => exact sideB))
      refine step43 (fun _ => [0]) [] rfl ?_
      repeat ((conv => whnf); first | with_reducible refine O_step ?_ | with_reducible refine S_step ?_ | with_reducible refine D_step ?_ | with_reducible refine RO.exit ?_ | with_reducible refine RO.ret ?_ | ((with_reducible refine And.intro ?sc ?_); case sc => exact side) | ((with_reducible refine br_f ?sc ?_); case sc => exact sideB) | ((with_reducible refine br_t ?sc ?_); case sc => exact sideB))
      refine numU_call (k := 1) (bad := bad) (l := l) (by decide) o.kc o.x (by simp [AV.nbl, AV.nb, isB_nb o.kh 2, isB_nb o.kf 2, o.ks, o.kd]) (fun c' off' d' k1 k2 => ?_)
      repeat ((conv => whnf); first | with_reducible refine O_step ?_ | with_reducible refine S_step ?_ | with_reducible refine D_step ?_ | with_reducible refine RO.exit ?_ | with_reducible refine RO.ret ?_ | ((with_reducible refine And.intro ?sc ?_); case sc => exact side) | ((with_reducible refine br_f ?sc ?_); case sc => exact sideB) | ((with_reducible refine br_t ?sc ?_); case sc => exact sideB))
      cases hbd : rdB 1 bad l
      · rw [hbd] at k1
        rcases k1 with rfl | ⟨rfl, _⟩ | ⟨_, hx⟩
        · skip
          refine step25 (fun _ => []) [] rfl ?_
          repeat ((conv => whnf); first | with_reducible refine O_step ?_ | with_reducible refine S_step ?_ | with_reducible refine D_step ?_ | with_reducible refine RO.exit ?_ | with_reducible refine RO.ret ?_ | ((with_reducible refine And.intro ?sc ?_); case sc => exact side) | ((with_reducible refine br_f ?sc ?_); case sc => exact sideB) | ((with_reducible refine br_t ?sc ?_); case sc => exact sideB))
          exact h _ _ off' d' (.inl (show AV.bo (!decide (rdV 1 bad l < 2)) = AV.bo (trB bad l) by rw [trB, hbd]; rfl)) (.inl rfl) k2
        · skip
          refine step25 (fun _ => []) [] rfl ?_
          repeat ((conv => whnf); first | with_reducible refine O_step ?_ | with_reducible refine S_step ?_ | with_reducible refine D_step ?_ | with_reducible refine RO.exit ?_ | with_reducible refine RO.ret ?_ | ((with_reducible refine And.intro ?sc ?_); case sc => exact side) | ((with_reducible refine br_f ?sc ?_); case sc => exact sideB) | ((with_reducible refine br_t ?sc ?_); case sc => exact sideB))
          exact h _ _ off' d' (.inl (show AV.bo (!decide (rdV 1 bad l < 2)) = AV.bo (trB bad l) by rw [trB, hbd]; rfl)) (.inl rfl) k2
        · cases hx
      · rw [hbd] at k1
        rcases k1 with rfl | ⟨_, hx⟩ | ⟨rfl, _⟩
        · skip
          refine step25 (fun _ => []) [] rfl ?_
          repeat ((conv => whnf); first | with_reducible refine O_step ?_ | with_reducible refine S_step ?_ | with_reducible refine D_step ?_ | with_reducible refine RO.exit ?_ | with_reducible refine RO.ret ?_ | ((with_reducible refine And.intro ?sc ?_); case sc => exact side) | ((with_reducible refine br_f ?sc ?_); case sc => exact sideB) | ((with_reducible refine br_t ?sc ?_); case sc => exact sideB))
          exact h _ _ off' d' (.inr (.inr ⟨rfl, by rw [trB, hbd]; rfl⟩)) (.inl rfl) k2
        · cases hx
        · skip
          refine step25 (fun _ => []) [] rfl ?_
          repeat ((conv => whnf); first | with_reducible refine O_step ?_ | with_reducible refine S_step ?_ | with_reducible refine D_step ?_ | with_reducible refine RO.exit ?_ | with_reducible refine RO.ret ?_ | ((with_reducible refine And.intro ?sc ?_); case sc => exact side) | ((with_reducible refine br_f ?sc ?_); case sc => exact sideB) | ((with_reducible refine br_t ?sc ?_); case sc => exact sideB))
          exact h _ _ off' d' (.inr (.inr ⟨rfl, by rw [trB, hbd]; rfl⟩)) (.inl rfl) k2
    · rw [hh] at hx; cases hx
    · subst e
      refine step35 (fun _ => [0]) [] rfl ?_
      repeat ((conv => whnf); first | with_reducible refine O_step ?_ | with_reducible refine S_step ?_ | with_reducible refine D_step ?_ | with_reducible refine RO.exit ?_ | with_reducible refine RO.ret ?_ | ((with_reducible refine And.intro ?sc ?_); case sc => exact side) | ((with_reducible refine br_f ?sc ?_); case sc => exact sideB) | ((with_reducible refine br_t ?sc ?_); case sc => exact sideB))
      refine step43 (fun _ => [0]) [] rfl ?_
      repeat ((conv => whnf); first | with_reducible refine O_step ?_ | with_reducible refine S_step ?_ | with_reducible refine D_step ?_ | with_reducible refine RO.exit ?_ | with_reducible refine RO.ret ?_ | ((with_reducible refine And.intro ?sc ?_); case sc => exact side) | ((with_reducible refine br_f ?sc ?_); case sc => exact sideB) | ((with_reducible refine br_t ?sc ?_); case sc => exact sideB))
      refine numU_call (k := 1) (bad := bad) (l := l) (by decide) o.kc o.x (by simp [AV.nbl, AV.nb, isB_nb o.kh 2, isB_nb o.kf 2, o.ks, o.kd]) (fun c' off' d' k1 k2 => ?_)
      repeat ((conv => whnf); first | with_reducible refine O_step ?_ | with_reducible refine S_step ?_ | with_reducible refine D_step ?_ | with_reducible refine RO.exit ?_ | with_reducible refine RO.ret ?_ | ((with_reducible refine And.intro ?sc ?_); case sc => exact side) | ((with_reducible refine br_f ?sc ?_); case sc => exact sideB) | ((with_reducible refine br_t ?sc ?_); case sc => exact sideB))
      cases hbd : rdB 1 bad l
      · rw [hbd] at k1
        rcases k1 with rfl | ⟨rfl, _⟩ | ⟨_, hx⟩
        · skip
          refine step25 (fun _ => []) [] rfl ?_
          repeat ((conv => whnf); first | with_reducible refine O_step ?_ | with_reducible refine S_step ?_ | with_reducible refine D_step ?_ | with_reducible refine RO.exit ?_ | with_reducible refine RO.ret ?_ | ((with_reducible refine And.intro ?sc ?_); case sc => exact side) | ((with_reducible refine br_f ?sc ?_); case sc => exact sideB) | ((with_reducible refine br_t ?sc ?_); case sc => exact sideB))
          exact h _ _ off' d' (.inl (show AV.bo (!decide (rdV 1 bad l < 2)) = AV.bo (trB bad l) by rw [trB, hbd]; rfl)) (.inl rfl) k2
        · skip
          refine step25 (fun _ => []) [] rfl ?_
          repeat ((conv => whnf); first | with_reducible refine O_step ?_ | with_reducible refine S_step ?_ | with_reducible refine D_step ?_ | with_reducible refine RO.exit ?_ | with_reducible refine RO.ret ?_ | ((with_reducible refine And.intro ?sc ?_); case sc => exact side) | ((with_reducible refine br_f ?sc ?_); case sc => exact sideB) | ((with_reducible refine br_t ?sc ?_); case sc => exact sideB))
          exact h _ _ off' d' (.inl (show AV.bo (!decide (rdV 1 bad l < 2)) = AV.bo (trB bad l) by rw [trB, hbd]; rfl)) (.inl rfl) k2
        · cases hx
      · rw [hbd] at k1
        rcases k1 with rfl | ⟨_, hx⟩ | ⟨rfl, _⟩
        · skip
          refine step25 (fun _ => []) [] rfl ?_
          repeat ((conv => whnf); first | with_reducible refine O_step ?_ | with_reducible refine S_step ?_ | with_reducible refine D_step ?_ | with_reducible refine RO.exit ?_ | with_reducible refine RO.ret ?_ | ((with_reducible refine And.intro ?sc ?_); case sc => exact side) | ((with_reducible refine br_f ?sc ?_); case sc => exact sideB) | ((with_reducible refine br_t ?sc ?_); case sc => exact sideB))
          exact h _ _ off' d' (.inr (.inr ⟨rfl, by rw [trB, hbd]; rfl⟩)) (.inl rfl) k2
        · cases hx
        · skip
          refine step25 (fun _ => []) [] rfl ?_
          repeat ((conv => whnf); first | with_reducible refine O_step ?_ | with_reducible refine S_step ?_ | with_reducible refine D_step ?_ | with_reducible refine RO.exit ?_ | with_reducible refine RO.ret ?_ | ((with_reducible refine And.intro ?sc ?_); case sc => exact side) | ((with_reducible refine br_f ?sc ?_); case sc => exact sideB) | ((with_reducible refine br_t ?sc ?_); case sc => exact sideB))
          exact h _ _ off' d' (.inr (.inr ⟨rfl, by rw [trB, hbd]; rfl⟩)) (.inl rfl) k2
end

end Go.Proofs.Ytedlpkibdjccdaa
