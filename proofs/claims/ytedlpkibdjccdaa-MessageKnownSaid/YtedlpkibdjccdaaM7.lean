/- Layer 23: the fields of a page, when it reads. -/
import Derived.Test.YtedlpkibdjccdaaM6

set_option linter.unusedVariables false

set_option linter.unusedSimpArgs false

open Go.RowKit

namespace Go.Proofs.Ytedlpkibdjccdaa

set_option maxRecDepth 10000

/-- What number answers, of a pen that is bad or not and has the bytes l: the value, whether it is bad then, what is left. -/
def rdB (k : Nat) (bad : Bool) (l : List Int) : Bool := bad || decide (l.length < k)
def rdV (k : Nat) (bad : Bool) (l : List Int) : Int := if rdB k bad l = true then 0 else valB (l.take k) 0
def rdL (k : Nat) (bad : Bool) (l : List Int) : List Int := if rdB k bad l = true then l else l.drop k
structure inX (X : List Int) (off c : Nat) (l : List Int) : Prop where
  hX : ∀ x ∈ X, in8 x
  lX : X.length ≤ 1000000000
  len : off + l.length ≤ X.length
  cap : l.length ≤ c
  eq : (X.drop off).take l.length = l
theorem inX.mem {X : List Int} {off c : Nat} {l : List Int} (o : inX X off c l) : ∀ x ∈ l, in8 x := fun x hx => by
  rw [← o.eq] at hx; exact o.hX x (List.mem_of_mem_drop (List.mem_of_mem_take hx))
theorem rdV_bound {k : Nat} {bad : Bool} {l : List Int} (h : ∀ x ∈ l, in8 x) : 0 ≤ rdV k bad l ∧ rdV k bad l < 256 ^ k := by
  unfold rdV
  split
  · exact ⟨Int.le_refl _, Int.pow_pos (by decide)⟩
  · rename_i hb
    have hk : (l.take k).length = k := by simp [rdB] at hb; rw [List.length_take]; omega
    have := valB_bound (l.take k) 0 1 (fun x hx => h x (List.mem_of_mem_take hx)) (by decide) (by decide)
    rw [hk] at this
    omega

theorem numU_call {v : Int} {k off c cX : Nat} {c0 : AV} {bad : Bool} {R : List AV} {X l : List Int} {K Kp : AV → AH → Prop} (hk8 : k ≤ 8) (h0 : isB c0 bad) (o : inX X off c l) (hR : AV.nbl 2 R = true)
    (h : ∀ c0' off' c', isB c0' (rdB k bad l) → inX X off' c' (rdL k bad l) → K (.int .u64 (rdV k bad l)) [.one true 0 (.cells (c0' :: .ff :: .sl 1 0 off' (rdL k bad l).length c' :: R)), .one false 0 (.ints .u8 X cX)]) :
    CallA Try.prog 22 [.ptr 0 0 0, .int .u64 v, .int .i64 k] [.one true 0 (.cells (c0 :: .ff :: .sl 1 0 off l.length c :: R)), .one false 0 (.ints .u8 X cX)] K Kp := by
  refine numR_call (n := l.length) hk8 h0 ⟨o.len, o.cap⟩ o.hX o.lX hR (fun hb c1 h1 => ?_) (fun hb hk off' c' e1 e2 e3 => ?_)
  · have hB : rdB k bad l = true := by rcases hb with rfl | hb <;> simp [rdB, *]
    have := h c1 off c (by rw [hB]; exact h1) (by rw [rdL, if_pos hB]; exact o)
    rw [rdV, if_pos hB, rdL, if_pos hB] at this
    exact this
  · have hB : ¬ rdB k bad l = true := by subst hb; simp [rdB]; omega
    have he : (l.drop k).length = l.length - k := List.length_drop
    have := h (.bo false) off' c' (.inl (by rw [Bool.not_eq_true] at hB; rw [hB])) (by rw [rdL, if_neg hB]; exact ⟨o.hX, o.lX, by rw [he]; exact e1, by rw [he]; exact e2, by rw [he, e3, o.eq]⟩)
    rw [rdV, if_neg hB, rdL, if_neg hB, he] at this
    rw [o.eq]
    exact this
theorem numU3_call {v : Int} {k off c cX gs cS : Nat} {c0 : AV} {bad : Bool} {R : List AV} {X S l : List Int} {K Kp : AV → AH → Prop} (hk8 : k ≤ 8) (h0 : isB c0 bad) (o : inX X off c l) (hR : AV.nbl 3 R = true)
    (h : ∀ c0' off' c', isB c0' (rdB k bad l) → inX X off' c' (rdL k bad l) → K (.int .u64 (rdV k bad l)) [.one true 0 (.cells (c0' :: .ff :: .sl 1 0 off' (rdL k bad l).length c' :: R)), .one false 0 (.ints .u8 X cX), .one true gs (.ints .u32 S cS)]) :
    CallA Try.prog 22 [.ptr 0 0 0, .int .u64 v, .int .i64 k] [.one true 0 (.cells (c0 :: .ff :: .sl 1 0 off l.length c :: R)), .one false 0 (.ints .u8 X cX), .one true gs (.ints .u32 S cS)] K Kp := by
  refine numR3_call (n := l.length) hk8 h0 ⟨o.len, o.cap⟩ o.hX o.lX hR (fun hb c1 h1 => ?_) (fun hb hk off' c' e1 e2 e3 => ?_)
  · have hB : rdB k bad l = true := by rcases hb with rfl | hb <;> simp [rdB, *]
    have := h c1 off c (by rw [hB]; exact h1) (by rw [rdL, if_pos hB]; exact o)
    rw [rdV, if_pos hB, rdL, if_pos hB] at this
    exact this
  · have hB : ¬ rdB k bad l = true := by subst hb; simp [rdB]; omega
    have he : (l.drop k).length = l.length - k := List.length_drop
    have := h (.bo false) off' c' (.inl (by rw [Bool.not_eq_true] at hB; rw [hB])) (by rw [rdL, if_neg hB]; exact ⟨o.hX, o.lX, by rw [he]; exact e1, by rw [he]; exact e2, by rw [he, e3, o.eq]⟩)
    rw [rdV, if_neg hB, rdL, if_neg hB, he] at this
    rw [o.eq]
    exact this

/-- A page that reads. -/
abbrev pgR (c0 hv fv sv dv : AV) (off c : Nat) (l X : List Int) (cX : Nat) (m : Msg) : AH :=
  [.one true 0 (.cells (pgL c0 .ff (.sl 1 0 off l.length c) hv fv sv dv m)), .one false 0 (.ints .u8 X cX)]
structure okR (c0 hv fv sv dv : AV) (bad : Bool) (off c : Nat) (l X : List Int) (m : Msg) : Prop where
  x : inX X off c l
  kc : isB c0 bad
  kh : isB hv m.has
  kf : isB fv m.full
  ks : sv.nb 2 = true
  kd : dv.nb 2 = true

section

variable {c0 hv fv sv dv : AV} {bad : Bool} {off c cX : Nat} {l X : List Int} {m : Msg} {K Kp : AV → AH → Prop}

theorem lifeR (o : okR c0 hv fv sv dv bad off c l X m) (h : ∀ c0' off' c', okR c0' hv fv sv dv (rdB 4 bad l) off' c' (rdL 4 bad l) X {m with life := rdV 4 bad l} → K (.tup []) (pgR c0' hv fv sv dv off' c' (rdL 4 bad l) X cX {m with life := rdV 4 bad l})) :
    CallA Try.prog 28 [.ptr 0 0 0] (pgR c0 hv fv sv dv off c l X cX m) K Kp := by
  refine step28 (fun _ => [0]) [] rfl ?_
  repeat ((conv => whnf); first | with_reducible refine O_step ?_ | with_reducible refine S_step ?_ | with_reducible refine D_step ?_ | with_reducible refine RO.exit ?_ | with_reducible refine RO.ret ?_ | ((with_reducible refine And.intro ?sc ?_); case sc => exact side) | ((with_reducible refine br_f ?sc ?_); case sc => exact sideB) | ((with_reducible refine br_t ?sc ?_); case sc => exact sideB))
  refine step42 (fun _ => [0]) [] rfl ?_
  repeat ((conv => whnf); first | with_reducible refine O_step ?_ | with_reducible refine S_step ?_ | with_reducible refine D_step ?_ | with_reducible refine RO.exit ?_ | with_reducible refine RO.ret ?_ | ((with_reducible refine And.intro ?sc ?_); case sc => exact side) | ((with_reducible refine br_f ?sc ?_); case sc => exact sideB) | ((with_reducible refine br_t ?sc ?_); case sc => exact sideB))
  refine numU_call (k := 4) (bad := bad) (l := l) (by decide) o.kc o.x (by simp [AV.nbl, AV.nb, isB_nb o.kh 2, isB_nb o.kf 2, o.ks, o.kd]) (fun c0' off' c' k1 k2 => ?_)
  repeat ((conv => whnf); first | with_reducible refine O_step ?_ | with_reducible refine S_step ?_ | with_reducible refine D_step ?_ | with_reducible refine RO.exit ?_ | with_reducible refine RO.ret ?_ | ((with_reducible refine And.intro ?sc ?_); case sc => exact side) | ((with_reducible refine br_f ?sc ?_); case sc => exact sideB) | ((with_reducible refine br_t ?sc ?_); case sc => exact sideB))
  rw [show rdV 4 bad l % 4294967296 = rdV 4 bad l by have := rdV_bound (k := 4) (bad := bad) o.x.mem; omega]
  exact h c0' off' c' ⟨k2, k1, o.kh, o.kf, o.ks, o.kd⟩
theorem frameR (o : okR c0 hv fv sv dv bad off c l X m) (h : ∀ c0' off' c', okR c0' hv fv sv dv (rdB 4 bad l) off' c' (rdL 4 bad l) X {m with frame := rdV 4 bad l} → K (.tup []) (pgR c0' hv fv sv dv off' c' (rdL 4 bad l) X cX {m with frame := rdV 4 bad l})) :
    CallA Try.prog 30 [.ptr 0 0 0] (pgR c0 hv fv sv dv off c l X cX m) K Kp := by
  refine step30 (fun _ => [0]) [] rfl ?_
  repeat ((conv => whnf); first | with_reducible refine O_step ?_ | with_reducible refine S_step ?_ | with_reducible refine D_step ?_ | with_reducible refine RO.exit ?_ | with_reducible refine RO.ret ?_ | ((with_reducible refine And.intro ?sc ?_); case sc => exact side) | ((with_reducible refine br_f ?sc ?_); case sc => exact sideB) | ((with_reducible refine br_t ?sc ?_); case sc => exact sideB))
  refine step42 (fun _ => [0]) [] rfl ?_
  repeat ((conv => whnf); first | with_reducible refine O_step ?_ | with_reducible refine S_step ?_ | with_reducible refine D_step ?_ | with_reducible refine RO.exit ?_ | with_reducible refine RO.ret ?_ | ((with_reducible refine And.intro ?sc ?_); case sc => exact side) | ((with_reducible refine br_f ?sc ?_); case sc => exact sideB) | ((with_reducible refine br_t ?sc ?_); case sc => exact sideB))
  refine numU_call (k := 4) (bad := bad) (l := l) (by decide) o.kc o.x (by simp [AV.nbl, AV.nb, isB_nb o.kh 2, isB_nb o.kf 2, o.ks, o.kd]) (fun c0' off' c' k1 k2 => ?_)
  repeat ((conv => whnf); first | with_reducible refine O_step ?_ | with_reducible refine S_step ?_ | with_reducible refine D_step ?_ | with_reducible refine RO.exit ?_ | with_reducible refine RO.ret ?_ | ((with_reducible refine And.intro ?sc ?_); case sc => exact side) | ((with_reducible refine br_f ?sc ?_); case sc => exact sideB) | ((with_reducible refine br_t ?sc ?_); case sc => exact sideB))
  rw [show rdV 4 bad l % 4294967296 = rdV 4 bad l by have := rdV_bound (k := 4) (bad := bad) o.x.mem; omega]
  exact h c0' off' c' ⟨k2, k1, o.kh, o.kf, o.ks, o.kd⟩
theorem baseR (o : okR c0 hv fv sv dv bad off c l X m) (h : ∀ c0' off' c', okR c0' hv fv sv dv (rdB 4 bad l) off' c' (rdL 4 bad l) X {m with base := rdV 4 bad l} → K (.tup []) (pgR c0' hv fv sv dv off' c' (rdL 4 bad l) X cX {m with base := rdV 4 bad l})) :
    CallA Try.prog 34 [.ptr 0 0 0] (pgR c0 hv fv sv dv off c l X cX m) K Kp := by
  refine step34 (fun _ => [0]) [] rfl ?_
  repeat ((conv => whnf); first | with_reducible refine O_step ?_ | with_reducible refine S_step ?_ | with_reducible refine D_step ?_ | with_reducible refine RO.exit ?_ | with_reducible refine RO.ret ?_ | ((with_reducible refine And.intro ?sc ?_); case sc => exact side) | ((with_reducible refine br_f ?sc ?_); case sc => exact sideB) | ((with_reducible refine br_t ?sc ?_); case sc => exact sideB))
  refine step42 (fun _ => [0]) [] rfl ?_
  repeat ((conv => whnf); first | with_reducible refine O_step ?_ | with_reducible refine S_step ?_ | with_reducible refine D_step ?_ | with_reducible refine RO.exit ?_ | with_reducible refine RO.ret ?_ | ((with_reducible refine And.intro ?sc ?_); case sc => exact side) | ((with_reducible refine br_f ?sc ?_); case sc => exact sideB) | ((with_reducible refine br_t ?sc ?_); case sc => exact sideB))
  refine numU_call (k := 4) (bad := bad) (l := l) (by decide) o.kc o.x (by simp [AV.nbl, AV.nb, isB_nb o.kh 2, isB_nb o.kf 2, o.ks, o.kd]) (fun c0' off' c' k1 k2 => ?_)
  repeat ((conv => whnf); first | with_reducible refine O_step ?_ | with_reducible refine S_step ?_ | with_reducible refine D_step ?_ | with_reducible refine RO.exit ?_ | with_reducible refine RO.ret ?_ | ((with_reducible refine And.intro ?sc ?_); case sc => exact side) | ((with_reducible refine br_f ?sc ?_); case sc => exact sideB) | ((with_reducible refine br_t ?sc ?_); case sc => exact sideB))
  rw [show rdV 4 bad l % 4294967296 = rdV 4 bad l by have := rdV_bound (k := 4) (bad := bad) o.x.mem; omega]
  exact h c0' off' c' ⟨k2, k1, o.kh, o.kf, o.ks, o.kd⟩
theorem seqR (o : okR c0 hv fv sv dv bad off c l X m) (h : ∀ c0' off' c', okR c0' hv fv sv dv (rdB 4 bad l) off' c' (rdL 4 bad l) X {m with seq := rdV 4 bad l} → K (.tup []) (pgR c0' hv fv sv dv off' c' (rdL 4 bad l) X cX {m with seq := rdV 4 bad l})) :
    CallA Try.prog 33 [.ptr 0 0 0] (pgR c0 hv fv sv dv off c l X cX m) K Kp := by
  refine step33 (fun _ => [0]) [] rfl ?_
  repeat ((conv => whnf); first | with_reducible refine O_step ?_ | with_reducible refine S_step ?_ | with_reducible refine D_step ?_ | with_reducible refine RO.exit ?_ | with_reducible refine RO.ret ?_ | ((with_reducible refine And.intro ?sc ?_); case sc => exact side) | ((with_reducible refine br_f ?sc ?_); case sc => exact sideB) | ((with_reducible refine br_t ?sc ?_); case sc => exact sideB))
  refine step42 (fun _ => [0]) [] rfl ?_
  repeat ((conv => whnf); first | with_reducible refine O_step ?_ | with_reducible refine S_step ?_ | with_reducible refine D_step ?_ | with_reducible refine RO.exit ?_ | with_reducible refine RO.ret ?_ | ((with_reducible refine And.intro ?sc ?_); case sc => exact side) | ((with_reducible refine br_f ?sc ?_); case sc => exact sideB) | ((with_reducible refine br_t ?sc ?_); case sc => exact sideB))
  refine numU_call (k := 4) (bad := bad) (l := l) (by decide) o.kc o.x (by simp [AV.nbl, AV.nb, isB_nb o.kh 2, isB_nb o.kf 2, o.ks, o.kd]) (fun c0' off' c' k1 k2 => ?_)
  repeat ((conv => whnf); first | with_reducible refine O_step ?_ | with_reducible refine S_step ?_ | with_reducible refine D_step ?_ | with_reducible refine RO.exit ?_ | with_reducible refine RO.ret ?_ | ((with_reducible refine And.intro ?sc ?_); case sc => exact side) | ((with_reducible refine br_f ?sc ?_); case sc => exact sideB) | ((with_reducible refine br_t ?sc ?_); case sc => exact sideB))
  rw [show rdV 4 bad l % 4294967296 = rdV 4 bad l by have := rdV_bound (k := 4) (bad := bad) o.x.mem; omega]
  exact h c0' off' c' ⟨k2, k1, o.kh, o.kf, o.ks, o.kd⟩
end

end Go.Proofs.Ytedlpkibdjccdaa
