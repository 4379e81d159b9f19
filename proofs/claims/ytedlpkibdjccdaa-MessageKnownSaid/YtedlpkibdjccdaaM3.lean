/- Layer 23: the fields of a page, when it writes. -/
import Derived.Test.YtedlpkibdjccdaaM2

set_option linter.unusedVariables false

set_option linter.unusedSimpArgs false

open Go.RowKit

namespace Go.Proofs.Ytedlpkibdjccdaa

set_option maxRecDepth 10000

structure Msg where
  ty : Int
  life : Int
  frame : Int
  base : Int
  has : Bool
  full : Bool
  w : Int
  h : Int
  sums : List Int
  seq : Int
  kind : Int
  ex : Int
  ey : Int
  code : Int
  body : List Int
  deriving DecidableEq
abbrev in8 (x : Int) : Prop := 0 ≤ x ∧ x < 256

abbrev in16 (x : Int) : Prop := 0 ≤ x ∧ x < 65536

abbrev in32 (x : Int) : Prop := 0 ≤ x ∧ x < 4294967296

structure okM (m : Msg) : Prop where
  ty : in8 m.ty
  life : in32 m.life
  frame : in32 m.frame
  base : in32 m.base
  w : in16 m.w
  h : in16 m.h
  sums : ∀ x ∈ m.sums, in32 x
  seq : in32 m.seq
  kind : in8 m.kind
  ex : in16 m.ex
  ey : in16 m.ey
  code : in32 m.code
  body : ∀ x ∈ m.body, in8 x
/-- A page's cells. -/
abbrev pgL (c0 c1 bv hv fv sv dv : AV) (m : Msg) : List AV := [c0, c1, bv, .int .u8 m.ty, .int .u32 m.life, .int .u32 m.frame, .int .u32 m.base, hv, fv, .int .u16 m.w, .int .u16 m.h, sv, .int .u32 m.seq, .int .u8 m.kind, .int .u16 m.ex, .int .u16 m.ey, .int .u32 m.code, dv]

/-- A page that writes. -/
abbrev pgW (c0 hv fv : AV) (g cb gs cS cB : Nat) (b : List Int) (m : Msg) : AH :=
  [.one true 0 (.cells (pgL c0 .tt (.sl 1 g 0 b.length cb) hv fv (.sl 2 gs 0 m.sums.length cS) (.sl 3 0 0 m.body.length cB) m)), .one true g (.ints .u8 b cb), .one true gs (.ints .u32 m.sums cS), .one false 0 (.ints .u8 m.body cB)]
structure okW (c0 hv fv : AV) (cb cS cB : Nat) (b : List Int) (m : Msg) : Prop where
  km : okM m
  kc : isB c0 false
  kh : isB hv m.has
  kf : isB fv m.full
  kb : b.length ≤ cb
  ks : m.sums.length ≤ cS
  kd : m.body.length ≤ cB
  lb : b.length ≤ 10000000
  ls : m.sums.length ≤ 256
  ld : m.body.length ≤ 1000000

section

variable {c0 hv fv : AV} {g cb gs cS cB : Nat} {b : List Int} {m : Msg} {K Kp : AV → AH → Prop}


theorem lifeW (o : okW c0 hv fv cb cS cB b m) (h : ∀ g' cb', (b ++ beW m.life 4).length ≤ cb' → K (.tup []) (pgW c0 hv fv g' cb' gs cS cB (b ++ beW m.life 4) m)) :
    CallA Try.prog 28 [.ptr 0 0 0] (pgW c0 hv fv g cb gs cS cB b m) K Kp := by
  have hm := o.km.life
  refine step28 (fun _ => [0]) [] rfl ?_
  repeat ((conv => whnf); first | with_reducible refine O_step ?_ | with_reducible refine S_step ?_ | with_reducible refine D_step ?_ | with_reducible refine RO.exit ?_ | with_reducible refine RO.ret ?_ | ((with_reducible refine And.intro ?sc ?_); case sc => exact side) | ((with_reducible refine br_f ?sc ?_); case sc => exact sideB) | ((with_reducible refine br_t ?sc ?_); case sc => exact sideB))
  refine step42 (fun _ => [0]) [] rfl ?_
  repeat ((conv => whnf); first | with_reducible refine O_step ?_ | with_reducible refine S_step ?_ | with_reducible refine D_step ?_ | with_reducible refine RO.exit ?_ | with_reducible refine RO.ret ?_ | ((with_reducible refine And.intro ?sc ?_); case sc => exact side) | ((with_reducible refine br_f ?sc ?_); case sc => exact sideB) | ((with_reducible refine br_t ?sc ?_); case sc => exact sideB))
  rw [show m.life % 18446744073709551616 = m.life by omega]
  refine numW_call (n := 4) (b := b) (S := m.sums) (B := m.body) (by decide) (by omega) o.kb (by have := o.lb; omega) (isB_nb o.kc 4) (by simp [AV.nbl, AV.nb, isB_nb o.kh 4, isB_nb o.kf 4]) (fun g' cb' hc' => ?_)
  repeat ((conv => whnf); first | with_reducible refine O_step ?_ | with_reducible refine S_step ?_ | with_reducible refine D_step ?_ | with_reducible refine RO.exit ?_ | with_reducible refine RO.ret ?_ | ((with_reducible refine And.intro ?sc ?_); case sc => exact side) | ((with_reducible refine br_f ?sc ?_); case sc => exact sideB) | ((with_reducible refine br_t ?sc ?_); case sc => exact sideB))
  rw [show m.life % 4294967296 = m.life by omega]
  exact h g' cb' hc'
theorem frameW (o : okW c0 hv fv cb cS cB b m) (h : ∀ g' cb', (b ++ beW m.frame 4).length ≤ cb' → K (.tup []) (pgW c0 hv fv g' cb' gs cS cB (b ++ beW m.frame 4) m)) :
    CallA Try.prog 30 [.ptr 0 0 0] (pgW c0 hv fv g cb gs cS cB b m) K Kp := by
  have hm := o.km.frame
  refine step30 (fun _ => [0]) [] rfl ?_
  repeat ((conv => whnf); first | with_reducible refine O_step ?_ | with_reducible refine S_step ?_ | with_reducible refine D_step ?_ | with_reducible refine RO.exit ?_ | with_reducible refine RO.ret ?_ | ((with_reducible refine And.intro ?sc ?_); case sc => exact side) | ((with_reducible refine br_f ?sc ?_); case sc => exact sideB) | ((with_reducible refine br_t ?sc ?_); case sc => exact sideB))
  refine step42 (fun _ => [0]) [] rfl ?_
  repeat ((conv => whnf); first | with_reducible refine O_step ?_ | with_reducible refine S_step ?_ | with_reducible refine D_step ?_ | with_reducible refine RO.exit ?_ | with_reducible refine RO.ret ?_ | ((with_reducible refine And.intro ?sc ?_); case sc => exact side) | ((with_reducible refine br_f ?sc ?_); case sc => exact sideB) | ((with_reducible refine br_t ?sc ?_); case sc => exact sideB))
  rw [show m.frame % 18446744073709551616 = m.frame by omega]
  refine numW_call (n := 4) (b := b) (S := m.sums) (B := m.body) (by decide) (by omega) o.kb (by have := o.lb; omega) (isB_nb o.kc 4) (by simp [AV.nbl, AV.nb, isB_nb o.kh 4, isB_nb o.kf 4]) (fun g' cb' hc' => ?_)
  repeat ((conv => whnf); first | with_reducible refine O_step ?_ | with_reducible refine S_step ?_ | with_reducible refine D_step ?_ | with_reducible refine RO.exit ?_ | with_reducible refine RO.ret ?_ | ((with_reducible refine And.intro ?sc ?_); case sc => exact side) | ((with_reducible refine br_f ?sc ?_); case sc => exact sideB) | ((with_reducible refine br_t ?sc ?_); case sc => exact sideB))
  rw [show m.frame % 4294967296 = m.frame by omega]
  exact h g' cb' hc'
theorem baseW (o : okW c0 hv fv cb cS cB b m) (h : ∀ g' cb', (b ++ beW m.base 4).length ≤ cb' → K (.tup []) (pgW c0 hv fv g' cb' gs cS cB (b ++ beW m.base 4) m)) :
    CallA Try.prog 34 [.ptr 0 0 0] (pgW c0 hv fv g cb gs cS cB b m) K Kp := by
  have hm := o.km.base
  refine step34 (fun _ => [0]) [] rfl ?_
  repeat ((conv => whnf); first | with_reducible refine O_step ?_ | with_reducible refine S_step ?_ | with_reducible refine D_step ?_ | with_reducible refine RO.exit ?_ | with_reducible refine RO.ret ?_ | ((with_reducible refine And.intro ?sc ?_); case sc => exact side) | ((with_reducible refine br_f ?sc ?_); case sc => exact sideB) | ((with_reducible refine br_t ?sc ?_); case sc => exact sideB))
  refine step42 (fun _ => [0]) [] rfl ?_
  repeat ((conv => whnf); first | with_reducible refine O_step ?_ | with_reducible refine S_step ?_ | with_reducible refine D_step ?_ | with_reducible refine RO.exit ?_ | with_reducible refine RO.ret ?_ | ((with_reducible refine And.intro ?sc ?_); case sc => exact side) | ((with_reducible refine br_f ?sc ?_); case sc => exact sideB) | ((with_reducible refine br_t ?sc ?_); case sc => exact sideB))
  rw [show m.base % 18446744073709551616 = m.base by omega]
  refine numW_call (n := 4) (b := b) (S := m.sums) (B := m.body) (by decide) (by omega) o.kb (by have := o.lb; omega) (isB_nb o.kc 4) (by simp [AV.nbl, AV.nb, isB_nb o.kh 4, isB_nb o.kf 4]) (fun g' cb' hc' => ?_)
  repeat ((conv => whnf); first | with_reducible refine O_step ?_ | with_reducible refine S_step ?_ | with_reducible refine D_step ?_ | with_reducible refine RO.exit ?_ | with_reducible refine RO.ret ?_ | ((with_reducible refine And.intro ?sc ?_); case sc => exact side) | ((with_reducible refine br_f ?sc ?_); case sc => exact sideB) | ((with_reducible refine br_t ?sc ?_); case sc => exact sideB))
  rw [show m.base % 4294967296 = m.base by omega]
  exact h g' cb' hc'
theorem seqW (o : okW c0 hv fv cb cS cB b m) (h : ∀ g' cb', (b ++ beW m.seq 4).length ≤ cb' → K (.tup []) (pgW c0 hv fv g' cb' gs cS cB (b ++ beW m.seq 4) m)) :
    CallA Try.prog 33 [.ptr 0 0 0] (pgW c0 hv fv g cb gs cS cB b m) K Kp := by
  have hm := o.km.seq
  refine step33 (fun _ => [0]) [] rfl ?_
  repeat ((conv => whnf); first | with_reducible refine O_step ?_ | with_reducible refine S_step ?_ | with_reducible refine D_step ?_ | with_reducible refine RO.exit ?_ | with_reducible refine RO.ret ?_ | ((with_reducible refine And.intro ?sc ?_); case sc => exact side) | ((with_reducible refine br_f ?sc ?_); case sc => exact sideB) | ((with_reducible refine br_t ?sc ?_); case sc => exact sideB))
  refine step42 (fun _ => [0]) [] rfl ?_
  repeat ((conv => whnf); first | with_reducible refine O_step ?_ | with_reducible refine S_step ?_ | with_reducible refine D_step ?_ | with_reducible refine RO.exit ?_ | with_reducible refine RO.ret ?_ | ((with_reducible refine And.intro ?sc ?_); case sc => exact side) | ((with_reducible refine br_f ?sc ?_); case sc => exact sideB) | ((with_reducible refine br_t ?sc ?_); case sc => exact sideB))
  rw [show m.seq % 18446744073709551616 = m.seq by omega]
  refine numW_call (n := 4) (b := b) (S := m.sums) (B := m.body) (by decide) (by omega) o.kb (by have := o.lb; omega) (isB_nb o.kc 4) (by simp [AV.nbl, AV.nb, isB_nb o.kh 4, isB_nb o.kf 4]) (fun g' cb' hc' => ?_)
  repeat ((conv => whnf); first | with_reducible refine O_step ?_ | with_reducible refine S_step ?_ | with_reducible refine D_step ?_ | with_reducible refine RO.exit ?_ | with_reducible refine RO.ret ?_ | ((with_reducible refine And.intro ?sc ?_); case sc => exact side) | ((with_reducible refine br_f ?sc ?_); case sc => exact sideB) | ((with_reducible refine br_t ?sc ?_); case sc => exact sideB))
  rw [show m.seq % 4294967296 = m.seq by omega]
  exact h g' cb' hc'

theorem sizeW (o : okW c0 hv fv cb cS cB b m) (h : ∀ g' cb', (b ++ beW m.w 2 ++ beW m.h 2).length ≤ cb' → K (.tup []) (pgW c0 hv fv g' cb' gs cS cB (b ++ beW m.w 2 ++ beW m.h 2) m)) :
    CallA Try.prog 32 [.ptr 0 0 0] (pgW c0 hv fv g cb gs cS cB b m) K Kp := by
  refine step32 (fun _ => [0]) [] rfl ?_
  repeat ((conv => whnf); first | with_reducible refine O_step ?_ | with_reducible refine S_step ?_ | with_reducible refine D_step ?_ | with_reducible refine RO.exit ?_ | with_reducible refine RO.ret ?_ | ((with_reducible refine And.intro ?sc ?_); case sc => exact side) | ((with_reducible refine br_f ?sc ?_); case sc => exact sideB) | ((with_reducible refine br_t ?sc ?_); case sc => exact sideB))
  refine (show CallA Try.prog 44 [.ptr 0 0 0, .ptr 0 0 9, .int .i64 2] (pgW c0 hv fv g cb gs cS cB (b) m) _ _ from ?_)
  refine step44 (fun _ => [0]) [] rfl ?_
  repeat ((conv => whnf); first | with_reducible refine O_step ?_ | with_reducible refine S_step ?_ | with_reducible refine D_step ?_ | with_reducible refine RO.exit ?_ | with_reducible refine RO.ret ?_ | ((with_reducible refine And.intro ?sc ?_); case sc => exact side) | ((with_reducible refine br_f ?sc ?_); case sc => exact sideB) | ((with_reducible refine br_t ?sc ?_); case sc => exact sideB))
  rw [show m.w % 18446744073709551616 = m.w by have := o.km.w; omega]
  refine numW_call (n := 2) (b := b) (S := m.sums) (B := m.body) (by decide) (by have := o.km.w; omega) o.kb (by have := o.lb; first | omega | (simp only [List.length_append, beW_length]; omega)) (isB_nb o.kc 4) (by simp [AV.nbl, AV.nb, isB_nb o.kh 4, isB_nb o.kf 4]) (fun g1 c1 hc1 => ?_)
  repeat ((conv => whnf); first | with_reducible refine O_step ?_ | with_reducible refine S_step ?_ | with_reducible refine D_step ?_ | with_reducible refine RO.exit ?_ | with_reducible refine RO.ret ?_ | ((with_reducible refine And.intro ?sc ?_); case sc => exact side) | ((with_reducible refine br_f ?sc ?_); case sc => exact sideB) | ((with_reducible refine br_t ?sc ?_); case sc => exact sideB))
  rw [show m.w % 65536 = m.w by have := o.km.w; omega]
  repeat ((conv => whnf); first | with_reducible refine O_step ?_ | with_reducible refine S_step ?_ | with_reducible refine D_step ?_ | with_reducible refine RO.exit ?_ | with_reducible refine RO.ret ?_ | ((with_reducible refine And.intro ?sc ?_); case sc => exact side) | ((with_reducible refine br_f ?sc ?_); case sc => exact sideB) | ((with_reducible refine br_t ?sc ?_); case sc => exact sideB))
  refine (show CallA Try.prog 44 [.ptr 0 0 0, .ptr 0 0 10, .int .i64 2] (pgW c0 hv fv g1 c1 gs cS cB (b ++ beW m.w 2) m) _ _ from ?_)
  refine step44 (fun _ => [0]) [] rfl ?_
  repeat ((conv => whnf); first | with_reducible refine O_step ?_ | with_reducible refine S_step ?_ | with_reducible refine D_step ?_ | with_reducible refine RO.exit ?_ | with_reducible refine RO.ret ?_ | ((with_reducible refine And.intro ?sc ?_); case sc => exact side) | ((with_reducible refine br_f ?sc ?_); case sc => exact sideB) | ((with_reducible refine br_t ?sc ?_); case sc => exact sideB))
  rw [show m.h % 18446744073709551616 = m.h by have := o.km.h; omega]
  refine numW_call (n := 2) (b := b ++ beW m.w 2) (S := m.sums) (B := m.body) (by decide) (by have := o.km.h; omega) hc1 (by have := o.lb; first | omega | (simp only [List.length_append, beW_length]; omega)) (isB_nb o.kc 4) (by simp [AV.nbl, AV.nb, isB_nb o.kh 4, isB_nb o.kf 4]) (fun g2 c2 hc2 => ?_)
  repeat ((conv => whnf); first | with_reducible refine O_step ?_ | with_reducible refine S_step ?_ | with_reducible refine D_step ?_ | with_reducible refine RO.exit ?_ | with_reducible refine RO.ret ?_ | ((with_reducible refine And.intro ?sc ?_); case sc => exact side) | ((with_reducible refine br_f ?sc ?_); case sc => exact sideB) | ((with_reducible refine br_t ?sc ?_); case sc => exact sideB))
  rw [show m.h % 65536 = m.h by have := o.km.h; omega]
  exact h g2 c2 hc2
theorem eventW (o : okW c0 hv fv cb cS cB b m) (h : ∀ g' cb', (b ++ beW m.kind 1 ++ beW m.ex 2 ++ beW m.ey 2 ++ beW m.code 4).length ≤ cb' → K (.tup []) (pgW c0 hv fv g' cb' gs cS cB (b ++ beW m.kind 1 ++ beW m.ex 2 ++ beW m.ey 2 ++ beW m.code 4) m)) :
    CallA Try.prog 37 [.ptr 0 0 0] (pgW c0 hv fv g cb gs cS cB b m) K Kp := by
  refine step37 (fun _ => [0]) [] rfl ?_
  repeat ((conv => whnf); first | with_reducible refine O_step ?_ | with_reducible refine S_step ?_ | with_reducible refine D_step ?_ | with_reducible refine RO.exit ?_ | with_reducible refine RO.ret ?_ | ((with_reducible refine And.intro ?sc ?_); case sc => exact side) | ((with_reducible refine br_f ?sc ?_); case sc => exact sideB) | ((with_reducible refine br_t ?sc ?_); case sc => exact sideB))
  refine (show CallA Try.prog 46 [.ptr 0 0 0, .ptr 0 0 13, .int .i64 1] (pgW c0 hv fv g cb gs cS cB (b) m) _ _ from ?_)
  refine step46 (fun _ => [0]) [] rfl ?_
  repeat ((conv => whnf); first | with_reducible refine O_step ?_ | with_reducible refine S_step ?_ | with_reducible refine D_step ?_ | with_reducible refine RO.exit ?_ | with_reducible refine RO.ret ?_ | ((with_reducible refine And.intro ?sc ?_); case sc => exact side) | ((with_reducible refine br_f ?sc ?_); case sc => exact sideB) | ((with_reducible refine br_t ?sc ?_); case sc => exact sideB))
  rw [show m.kind % 18446744073709551616 = m.kind by have := o.km.kind; omega]
  refine numW_call (n := 1) (b := b) (S := m.sums) (B := m.body) (by decide) (by have := o.km.kind; omega) o.kb (by have := o.lb; first | omega | (simp only [List.length_append, beW_length]; omega)) (isB_nb o.kc 4) (by simp [AV.nbl, AV.nb, isB_nb o.kh 4, isB_nb o.kf 4]) (fun g1 c1 hc1 => ?_)
  repeat ((conv => whnf); first | with_reducible refine O_step ?_ | with_reducible refine S_step ?_ | with_reducible refine D_step ?_ | with_reducible refine RO.exit ?_ | with_reducible refine RO.ret ?_ | ((with_reducible refine And.intro ?sc ?_); case sc => exact side) | ((with_reducible refine br_f ?sc ?_); case sc => exact sideB) | ((with_reducible refine br_t ?sc ?_); case sc => exact sideB))
  rw [show m.kind % 256 = m.kind by have := o.km.kind; omega]
  repeat ((conv => whnf); first | with_reducible refine O_step ?_ | with_reducible refine S_step ?_ | with_reducible refine D_step ?_ | with_reducible refine RO.exit ?_ | with_reducible refine RO.ret ?_ | ((with_reducible refine And.intro ?sc ?_); case sc => exact side) | ((with_reducible refine br_f ?sc ?_); case sc => exact sideB) | ((with_reducible refine br_t ?sc ?_); case sc => exact sideB))
  refine (show CallA Try.prog 44 [.ptr 0 0 0, .ptr 0 0 14, .int .i64 2] (pgW c0 hv fv g1 c1 gs cS cB (b ++ beW m.kind 1) m) _ _ from ?_)
  refine step44 (fun _ => [0]) [] rfl ?_
  repeat ((conv => whnf); first | with_reducible refine O_step ?_ | with_reducible refine S_step ?_ | with_reducible refine D_step ?_ | with_reducible refine RO.exit ?_ | with_reducible refine RO.ret ?_ | ((with_reducible refine And.intro ?sc ?_); case sc => exact side) | ((with_reducible refine br_f ?sc ?_); case sc => exact sideB) | ((with_reducible refine br_t ?sc ?_); case sc => exact sideB))
  rw [show m.ex % 18446744073709551616 = m.ex by have := o.km.ex; omega]
  refine numW_call (n := 2) (b := b ++ beW m.kind 1) (S := m.sums) (B := m.body) (by decide) (by have := o.km.ex; omega) hc1 (by have := o.lb; first | omega | (simp only [List.length_append, beW_length]; omega)) (isB_nb o.kc 4) (by simp [AV.nbl, AV.nb, isB_nb o.kh 4, isB_nb o.kf 4]) (fun g2 c2 hc2 => ?_)
  repeat ((conv => whnf); first | with_reducible refine O_step ?_ | with_reducible refine S_step ?_ | with_reducible refine D_step ?_ | with_reducible refine RO.exit ?_ | with_reducible refine RO.ret ?_ | ((with_reducible refine And.intro ?sc ?_); case sc => exact side) | ((with_reducible refine br_f ?sc ?_); case sc => exact sideB) | ((with_reducible refine br_t ?sc ?_); case sc => exact sideB))
  rw [show m.ex % 65536 = m.ex by have := o.km.ex; omega]
  repeat ((conv => whnf); first | with_reducible refine O_step ?_ | with_reducible refine S_step ?_ | with_reducible refine D_step ?_ | with_reducible refine RO.exit ?_ | with_reducible refine RO.ret ?_ | ((with_reducible refine And.intro ?sc ?_); case sc => exact side) | ((with_reducible refine br_f ?sc ?_); case sc => exact sideB) | ((with_reducible refine br_t ?sc ?_); case sc => exact sideB))
  refine (show CallA Try.prog 44 [.ptr 0 0 0, .ptr 0 0 15, .int .i64 2] (pgW c0 hv fv g2 c2 gs cS cB (b ++ beW m.kind 1 ++ beW m.ex 2) m) _ _ from ?_)
  refine step44 (fun _ => [0]) [] rfl ?_
  repeat ((conv => whnf); first | with_reducible refine O_step ?_ | with_reducible refine S_step ?_ | with_reducible refine D_step ?_ | with_reducible refine RO.exit ?_ | with_reducible refine RO.ret ?_ | ((with_reducible refine And.intro ?sc ?_); case sc => exact side) | ((with_reducible refine br_f ?sc ?_); case sc => exact sideB) | ((with_reducible refine br_t ?sc ?_); case sc => exact sideB))
  rw [show m.ey % 18446744073709551616 = m.ey by have := o.km.ey; omega]
  refine numW_call (n := 2) (b := b ++ beW m.kind 1 ++ beW m.ex 2) (S := m.sums) (B := m.body) (by decide) (by have := o.km.ey; omega) hc2 (by have := o.lb; first | omega | (simp only [List.length_append, beW_length]; omega)) (isB_nb o.kc 4) (by simp [AV.nbl, AV.nb, isB_nb o.kh 4, isB_nb o.kf 4]) (fun g3 c3 hc3 => ?_)
  repeat ((conv => whnf); first | with_reducible refine O_step ?_ | with_reducible refine S_step ?_ | with_reducible refine D_step ?_ | with_reducible refine RO.exit ?_ | with_reducible refine RO.ret ?_ | ((with_reducible refine And.intro ?sc ?_); case sc => exact side) | ((with_reducible refine br_f ?sc ?_); case sc => exact sideB) | ((with_reducible refine br_t ?sc ?_); case sc => exact sideB))
  rw [show m.ey % 65536 = m.ey by have := o.km.ey; omega]
  repeat ((conv => whnf); first | with_reducible refine O_step ?_ | with_reducible refine S_step ?_ | with_reducible refine D_step ?_ | with_reducible refine RO.exit ?_ | with_reducible refine RO.ret ?_ | ((with_reducible refine And.intro ?sc ?_); case sc => exact side) | ((with_reducible refine br_f ?sc ?_); case sc => exact sideB) | ((with_reducible refine br_t ?sc ?_); case sc => exact sideB))
  refine (show CallA Try.prog 42 [.ptr 0 0 0, .ptr 0 0 16, .int .i64 4] (pgW c0 hv fv g3 c3 gs cS cB (b ++ beW m.kind 1 ++ beW m.ex 2 ++ beW m.ey 2) m) _ _ from ?_)
  refine step42 (fun _ => [0]) [] rfl ?_
  repeat ((conv => whnf); first | with_reducible refine O_step ?_ | with_reducible refine S_step ?_ | with_reducible refine D_step ?_ | with_reducible refine RO.exit ?_ | with_reducible refine RO.ret ?_ | ((with_reducible refine And.intro ?sc ?_); case sc => exact side) | ((with_reducible refine br_f ?sc ?_); case sc => exact sideB) | ((with_reducible refine br_t ?sc ?_); case sc => exact sideB))
  rw [show m.code % 18446744073709551616 = m.code by have := o.km.code; omega]
  refine numW_call (n := 4) (b := b ++ beW m.kind 1 ++ beW m.ex 2 ++ beW m.ey 2) (S := m.sums) (B := m.body) (by decide) (by have := o.km.code; omega) hc3 (by have := o.lb; first | omega | (simp only [List.length_append, beW_length]; omega)) (isB_nb o.kc 4) (by simp [AV.nbl, AV.nb, isB_nb o.kh 4, isB_nb o.kf 4]) (fun g4 c4 hc4 => ?_)
  repeat ((conv => whnf); first | with_reducible refine O_step ?_ | with_reducible refine S_step ?_ | with_reducible refine D_step ?_ | with_reducible refine RO.exit ?_ | with_reducible refine RO.ret ?_ | ((with_reducible refine And.intro ?sc ?_); case sc => exact side) | ((with_reducible refine br_f ?sc ?_); case sc => exact sideB) | ((with_reducible refine br_t ?sc ?_); case sc => exact sideB))
  rw [show m.code % 4294967296 = m.code by have := o.km.code; omega]
  exact h g4 c4 hc4
theorem bodyW (o : okW c0 hv fv cb cS cB b m) (h : ∀ g' cb', (b ++ m.body).length ≤ cb' → K (.tup []) (pgW c0 hv fv g' cb' gs cS cB (b ++ m.body) m)) :
    CallA Try.prog 36 [.ptr 0 0 0] (pgW c0 hv fv g cb gs cS cB b m) K Kp := by
  have hl := o.lb
  have hd := o.ld
  have hkb := o.kb
  refine step36 (fun _ => [0]) [] rfl ?_
  repeat ((conv => whnf); first | with_reducible refine O_step ?_ | with_reducible refine S_step ?_ | with_reducible refine D_step ?_ | with_reducible refine RO.exit ?_ | with_reducible refine RO.ret ?_ | ((with_reducible refine And.intro ?sc ?_); case sc => exact side) | ((with_reducible refine br_f ?sc ?_); case sc => exact sideB) | ((with_reducible refine br_t ?sc ?_); case sc => exact sideB))
  intro zs hzs
  obtain rfl : zs = m.body := by rw [hzs]; exact List.take_length
  repeat ((conv => whnf); first | with_reducible refine O_step ?_ | with_reducible refine S_step ?_ | with_reducible refine D_step ?_ | with_reducible refine RO.exit ?_ | with_reducible refine RO.ret ?_ | ((with_reducible refine And.intro ?sc ?_); case sc => exact side) | ((with_reducible refine br_f ?sc ?_); case sc => exact sideB) | ((with_reducible refine br_t ?sc ?_); case sc => exact sideB))
  intro c2 hc2
  repeat ((conv => whnf); first | with_reducible refine O_step ?_ | with_reducible refine S_step ?_ | with_reducible refine D_step ?_ | with_reducible refine RO.exit ?_ | with_reducible refine RO.ret ?_ | ((with_reducible refine And.intro ?sc ?_); case sc => exact side) | ((with_reducible refine br_f ?sc ?_); case sc => exact sideB) | ((with_reducible refine br_t ?sc ?_); case sc => exact sideB))
  have := h (g + 1) c2 (by rw [List.length_append]; exact hc2)
  rw [pgW, List.length_append] at this
  exact this
/-- A bool's byte. -/
def b2i (b : Bool) : Int := if b then 1 else 0

theorem hasW (o : okW c0 hv fv cb cS cB b m) (h : ∀ c0' hv' g' cb', isB c0' false → isB hv' m.has → (b ++ beW (b2i m.has) 1).length ≤ cb' → K (.tup []) (pgW c0' hv' fv g' cb' gs cS cB (b ++ beW (b2i m.has) 1) m)) :
    CallA Try.prog 29 [.ptr 0 0 0] (pgW c0 hv fv g cb gs cS cB b m) K Kp := by
  have o' := o
  cases hh : m.has
  · rw [hh] at h
    rcases o.kh with e | ⟨e, _⟩ | ⟨_, hx⟩
    · rw [hh] at e; subst e
      refine step29 (fun _ => [0]) [] rfl ?_
      repeat ((conv => whnf); first | with_reducible refine O_step ?_ | with_reducible refine S_step ?_ | with_reducible refine D_step ?_ | with_reducible refine RO.exit ?_ | with_reducible refine RO.ret ?_ | ((with_reducible refine And.intro ?sc ?_); case sc => exact side) | ((with_reducible refine br_f ?sc ?_); case sc => exact sideB) | ((with_reducible refine br_t ?sc ?_); case sc => exact sideB))
      refine step43 (fun _ => [0]) [] rfl ?_
      repeat ((conv => whnf); first | with_reducible refine O_step ?_ | with_reducible refine S_step ?_ | with_reducible refine D_step ?_ | with_reducible refine RO.exit ?_ | with_reducible refine RO.ret ?_ | ((with_reducible refine And.intro ?sc ?_); case sc => exact side) | ((with_reducible refine br_f ?sc ?_); case sc => exact sideB) | ((with_reducible refine br_t ?sc ?_); case sc => exact sideB))
      refine numW_call (v := 0) (n := 1) (b := b) (S := m.sums) (B := m.body) (by decide) (by decide) o.kb (by have := o.lb; omega) (isB_nb o.kc 4) (by simp [AV.nbl, AV.nb, isB_nb o.kh 4, isB_nb o.kf 4]) (fun g' cb' hc' => ?_)
      repeat ((conv => whnf); first | with_reducible refine O_step ?_ | with_reducible refine S_step ?_ | with_reducible refine D_step ?_ | with_reducible refine RO.exit ?_ | with_reducible refine RO.ret ?_ | ((with_reducible refine And.intro ?sc ?_); case sc => exact side) | ((with_reducible refine br_f ?sc ?_); case sc => exact sideB) | ((with_reducible refine br_t ?sc ?_); case sc => exact sideB))
      rcases o.kc with rfl | ⟨rfl, _⟩ | ⟨_, hx⟩
      · refine step25 (fun _ => []) [] rfl ?_
        repeat ((conv => whnf); first | with_reducible refine O_step ?_ | with_reducible refine S_step ?_ | with_reducible refine D_step ?_ | with_reducible refine RO.exit ?_ | with_reducible refine RO.ret ?_ | ((with_reducible refine And.intro ?sc ?_); case sc => exact side) | ((with_reducible refine br_f ?sc ?_); case sc => exact sideB) | ((with_reducible refine br_t ?sc ?_); case sc => exact sideB))
        exact h _ _ g' cb' (.inl rfl) (.inl rfl) hc'
      · refine step25 (fun _ => []) [] rfl ?_
        repeat ((conv => whnf); first | with_reducible refine O_step ?_ | with_reducible refine S_step ?_ | with_reducible refine D_step ?_ | with_reducible refine RO.exit ?_ | with_reducible refine RO.ret ?_ | ((with_reducible refine And.intro ?sc ?_); case sc => exact side) | ((with_reducible refine br_f ?sc ?_); case sc => exact sideB) | ((with_reducible refine br_t ?sc ?_); case sc => exact sideB))
        exact h _ _ g' cb' (.inl rfl) (.inl rfl) hc'
      · cases hx
    · subst e
      refine step29 (fun _ => [0]) [] rfl ?_
      repeat ((conv => whnf); first | with_reducible refine O_step ?_ | with_reducible refine S_step ?_ | with_reducible refine D_step ?_ | with_reducible refine RO.exit ?_ | with_reducible refine RO.ret ?_ | ((with_reducible refine And.intro ?sc ?_); case sc => exact side) | ((with_reducible refine br_f ?sc ?_); case sc => exact sideB) | ((with_reducible refine br_t ?sc ?_); case sc => exact sideB))
      refine step43 (fun _ => [0]) [] rfl ?_
      repeat ((conv => whnf); first | with_reducible refine O_step ?_ | with_reducible refine S_step ?_ | with_reducible refine D_step ?_ | with_reducible refine RO.exit ?_ | with_reducible refine RO.ret ?_ | ((with_reducible refine And.intro ?sc ?_); case sc => exact side) | ((with_reducible refine br_f ?sc ?_); case sc => exact sideB) | ((with_reducible refine br_t ?sc ?_); case sc => exact sideB))
      refine numW_call (v := 0) (n := 1) (b := b) (S := m.sums) (B := m.body) (by decide) (by decide) o.kb (by have := o.lb; omega) (isB_nb o.kc 4) (by simp [AV.nbl, AV.nb, isB_nb o.kh 4, isB_nb o.kf 4]) (fun g' cb' hc' => ?_)
      repeat ((conv => whnf); first | with_reducible refine O_step ?_ | with_reducible refine S_step ?_ | with_reducible refine D_step ?_ | with_reducible refine RO.exit ?_ | with_reducible refine RO.ret ?_ | ((with_reducible refine And.intro ?sc ?_); case sc => exact side) | ((with_reducible refine br_f ?sc ?_); case sc => exact sideB) | ((with_reducible refine br_t ?sc ?_); case sc => exact sideB))
      rcases o.kc with rfl | ⟨rfl, _⟩ | ⟨_, hx⟩
      · refine step25 (fun _ => []) [] rfl ?_
        repeat ((conv => whnf); first | with_reducible refine O_step ?_ | with_reducible refine S_step ?_ | with_reducible refine D_step ?_ | with_reducible refine RO.exit ?_ | with_reducible refine RO.ret ?_ | ((with_reducible refine And.intro ?sc ?_); case sc => exact side) | ((with_reducible refine br_f ?sc ?_); case sc => exact sideB) | ((with_reducible refine br_t ?sc ?_); case sc => exact sideB))
        exact h _ _ g' cb' (.inl rfl) (.inl rfl) hc'
      · refine step25 (fun _ => []) [] rfl ?_
        repeat ((conv => whnf); first | with_reducible refine O_step ?_ | with_reducible refine S_step ?_ | with_reducible refine D_step ?_ | with_reducible refine RO.exit ?_ | with_reducible refine RO.ret ?_ | ((with_reducible refine And.intro ?sc ?_); case sc => exact side) | ((with_reducible refine br_f ?sc ?_); case sc => exact sideB) | ((with_reducible refine br_t ?sc ?_); case sc => exact sideB))
        exact h _ _ g' cb' (.inl rfl) (.inl rfl) hc'
      · cases hx
    · rw [hh] at hx; cases hx
  · rw [hh] at h
    rcases o.kh with e | ⟨_, hx⟩ | ⟨e, _⟩
    · rw [hh] at e; subst e
      refine step29 (fun _ => [0]) [] rfl ?_
      repeat ((conv => whnf); first | with_reducible refine O_step ?_ | with_reducible refine S_step ?_ | with_reducible refine D_step ?_ | with_reducible refine RO.exit ?_ | with_reducible refine RO.ret ?_ | ((with_reducible refine And.intro ?sc ?_); case sc => exact side) | ((with_reducible refine br_f ?sc ?_); case sc => exact sideB) | ((with_reducible refine br_t ?sc ?_); case sc => exact sideB))
      refine step43 (fun _ => [0]) [] rfl ?_
      repeat ((conv => whnf); first | with_reducible refine O_step ?_ | with_reducible refine S_step ?_ | with_reducible refine D_step ?_ | with_reducible refine RO.exit ?_ | with_reducible refine RO.ret ?_ | ((with_reducible refine And.intro ?sc ?_); case sc => exact side) | ((with_reducible refine br_f ?sc ?_); case sc => exact sideB) | ((with_reducible refine br_t ?sc ?_); case sc => exact sideB))
      refine numW_call (v := 1) (n := 1) (b := b) (S := m.sums) (B := m.body) (by decide) (by decide) o.kb (by have := o.lb; omega) (isB_nb o.kc 4) (by simp [AV.nbl, AV.nb, isB_nb o.kh 4, isB_nb o.kf 4]) (fun g' cb' hc' => ?_)
      repeat ((conv => whnf); first | with_reducible refine O_step ?_ | with_reducible refine S_step ?_ | with_reducible refine D_step ?_ | with_reducible refine RO.exit ?_ | with_reducible refine RO.ret ?_ | ((with_reducible refine And.intro ?sc ?_); case sc => exact side) | ((with_reducible refine br_f ?sc ?_); case sc => exact sideB) | ((with_reducible refine br_t ?sc ?_); case sc => exact sideB))
      rcases o.kc with rfl | ⟨rfl, _⟩ | ⟨_, hx⟩
      · refine step25 (fun _ => []) [] rfl ?_
        repeat ((conv => whnf); first | with_reducible refine O_step ?_ | with_reducible refine S_step ?_ | with_reducible refine D_step ?_ | with_reducible refine RO.exit ?_ | with_reducible refine RO.ret ?_ | ((with_reducible refine And.intro ?sc ?_); case sc => exact side) | ((with_reducible refine br_f ?sc ?_); case sc => exact sideB) | ((with_reducible refine br_t ?sc ?_); case sc => exact sideB))
        exact h _ _ g' cb' (.inl rfl) (.inl rfl) hc'
      · refine step25 (fun _ => []) [] rfl ?_
        repeat ((conv => whnf); first | with_reducible refine O_step ?_ | with_reducible refine S_step ?_ | with_reducible refine D_step ?_ | with_reducible refine RO.exit ?_ | with_reducible refine RO.ret ?_ | ((with_reducible refine And.intro ?sc ?_); case sc => exact side) | ((with_reducible refine br_f ?sc ?_); case sc => exact sideB) | ((with_reducible refine br_t ?sc ?_); case sc => exact sideB))
        exact h _ _ g' cb' (.inl rfl) (.inl rfl) hc'
      · cases hx
    · rw [hh] at hx; cases hx
    · subst e
      refine step29 (fun _ => [0]) [] rfl ?_
      repeat ((conv => whnf); first | with_reducible refine O_step ?_ | with_reducible refine S_step ?_ | with_reducible refine D_step ?_ | with_reducible refine RO.exit ?_ | with_reducible refine RO.ret ?_ | ((with_reducible refine And.intro ?sc ?_); case sc => exact side) | ((with_reducible refine br_f ?sc ?_); case sc => exact sideB) | ((with_reducible refine br_t ?sc ?_); case sc => exact sideB))
      refine step43 (fun _ => [0]) [] rfl ?_
      repeat ((conv => whnf); first | with_reducible refine O_step ?_ | with_reducible refine S_step ?_ | with_reducible refine D_step ?_ | with_reducible refine RO.exit ?_ | with_reducible refine RO.ret ?_ | ((with_reducible refine And.intro ?sc ?_); case sc => exact side) | ((with_reducible refine br_f ?sc ?_); case sc => exact sideB) | ((with_reducible refine br_t ?sc ?_); case sc => exact sideB))
      refine numW_call (v := 1) (n := 1) (b := b) (S := m.sums) (B := m.body) (by decide) (by decide) o.kb (by have := o.lb; omega) (isB_nb o.kc 4) (by simp [AV.nbl, AV.nb, isB_nb o.kh 4, isB_nb o.kf 4]) (fun g' cb' hc' => ?_)
      repeat ((conv => whnf); first | with_reducible refine O_step ?_ | with_reducible refine S_step ?_ | with_reducible refine D_step ?_ | with_reducible refine RO.exit ?_ | with_reducible refine RO.ret ?_ | ((with_reducible refine And.intro ?sc ?_); case sc => exact side) | ((with_reducible refine br_f ?sc ?_); case sc => exact sideB) | ((with_reducible refine br_t ?sc ?_); case sc => exact sideB))
      rcases o.kc with rfl | ⟨rfl, _⟩ | ⟨_, hx⟩
      · refine step25 (fun _ => []) [] rfl ?_
        repeat ((conv => whnf); first | with_reducible refine O_step ?_ | with_reducible refine S_step ?_ | with_reducible refine D_step ?_ | with_reducible refine RO.exit ?_ | with_reducible refine RO.ret ?_ | ((with_reducible refine And.intro ?sc ?_); case sc => exact side) | ((with_reducible refine br_f ?sc ?_); case sc => exact sideB) | ((with_reducible refine br_t ?sc ?_); case sc => exact sideB))
        exact h _ _ g' cb' (.inl rfl) (.inl rfl) hc'
      · refine step25 (fun _ => []) [] rfl ?_
        repeat ((conv => whnf); first | with_reducible refine O_step ?_ | with_reducible refine S_step ?_ | with_reducible refine D_step ?_ | with_reducible refine RO.exit ?_ | with_reducible refine RO.ret ?_ | ((with_reducible refine And.intro ?sc ?_); case sc => exact side) | ((with_reducible refine br_f ?sc ?_); case sc => exact sideB) | ((with_reducible refine br_t ?sc ?_); case sc => exact sideB))
        exact h _ _ g' cb' (.inl rfl) (.inl rfl) hc'
      · cases hx
theorem fullW (o : okW c0 hv fv cb cS cB b m) (h : ∀ c0' fv' g' cb', isB c0' false → isB fv' m.full → (b ++ beW (b2i m.full) 1).length ≤ cb' → K (.tup []) (pgW c0' hv fv' g' cb' gs cS cB (b ++ beW (b2i m.full) 1) m)) :
    CallA Try.prog 35 [.ptr 0 0 0] (pgW c0 hv fv g cb gs cS cB b m) K Kp := by
  have o' := o
  cases hh : m.full
  · rw [hh] at h
    rcases o.kf with e | ⟨e, _⟩ | ⟨_, hx⟩
    · rw [hh] at e; subst e
      refine step35 (fun _ => [0]) [] rfl ?_
      repeat ((conv => whnf); first | with_reducible refine O_step ?_ | with_reducible refine S_step ?_ | with_reducible refine D_step ?_ | with_reducible refine RO.exit ?_ | with_reducible refine RO.ret ?_ | ((with_reducible refine And.intro ?sc ?_); case sc => exact side) | ((with_reducible refine br_f ?sc ?_); case sc => exact sideB) | ((with_reducible refine br_t ?sc ?_); case sc => exact sideB))
      refine step43 (fun _ => [0]) [] rfl ?_
      repeat ((conv => whnf); first | with_reducible refine O_step ?_ | with_reducible refine S_step ?_ | with_reducible refine D_step ?_ | with_reducible refine RO.exit ?_ | with_reducible refine RO.ret ?_ | ((with_reducible refine And.intro ?sc ?_); case sc => exact side) | ((with_reducible refine br_f ?sc ?_); case sc => exact sideB) | ((with_reducible refine br_t ?sc ?_); case sc => exact sideB))
      refine numW_call (v := 0) (n := 1) (b := b) (S := m.sums) (B := m.body) (by decide) (by decide) o.kb (by have := o.lb; omega) (isB_nb o.kc 4) (by simp [AV.nbl, AV.nb, isB_nb o.kh 4, isB_nb o.kf 4]) (fun g' cb' hc' => ?_)
      repeat ((conv => whnf); first | with_reducible refine O_step ?_ | with_reducible refine S_step ?_ | with_reducible refine D_step ?_ | with_reducible refine RO.exit ?_ | with_reducible refine RO.ret ?_ | ((with_reducible refine And.intro ?sc ?_); case sc => exact side) | ((with_reducible refine br_f ?sc ?_); case sc => exact sideB) | ((with_reducible refine br_t ?sc ?_); case sc => exact sideB))
      rcases o.kc with rfl | ⟨rfl, _⟩ | ⟨_, hx⟩
      · refine step25 (fun _ => []) [] rfl ?_
        repeat ((conv => whnf); first | with_reducible refine O_step ?_ | with_reducible refine S_step ?_ | with_reducible refine D_step ?_ | with_reducible refine RO.exit ?_ | with_reducible refine RO.ret ?_ | ((with_reducible refine And.intro ?sc ?_); case sc => exact side) | ((with_reducible refine br_f ?sc ?_); case sc => exact sideB) | ((with_reducible refine br_t ?sc ?_); case sc => exact sideB))
        exact h _ _ g' cb' (.inl rfl) (.inl rfl) hc'
      · refine step25 (fun _ => []) [] rfl ?_
        repeat ((conv => whnf); first | with_reducible refine O_step ?_ | with_reducible refine S_step ?_ | with_reducible refine D_step ?_ | with_reducible refine RO.exit ?_ | with_reducible refine RO.ret ?_ | ((with_reducible refine And.intro ?sc ?_); case sc => exact side) | ((with_reducible refine br_f ?sc ?_); case sc => exact sideB) | ((with_reducible refine br_t ?sc ?_); case sc => exact sideB))
        exact h _ _ g' cb' (.inl rfl) (.inl rfl) hc'
      · cases hx
    · subst e
      refine step35 (fun _ => [0]) [] rfl ?_
      repeat ((conv => whnf); first | with_reducible refine O_step ?_ | with_reducible refine S_step ?_ | with_reducible refine D_step ?_ | with_reducible refine RO.exit ?_ | with_reducible refine RO.ret ?_ | ((with_reducible refine And.intro ?sc ?_); case sc => exact side) | ((with_reducible refine br_f ?sc ?_); case sc => exact sideB) | ((with_reducible refine br_t ?sc ?_); case sc => exact sideB))
      refine step43 (fun _ => [0]) [] rfl ?_
      repeat ((conv => whnf); first | with_reducible refine O_step ?_ | with_reducible refine S_step ?_ | with_reducible refine D_step ?_ | with_reducible refine RO.exit ?_ | with_reducible refine RO.ret ?_ | ((with_reducible refine And.intro ?sc ?_); case sc => exact side) | ((with_reducible refine br_f ?sc ?_); case sc => exact sideB) | ((with_reducible refine br_t ?sc ?_); case sc => exact sideB))
      refine numW_call (v := 0) (n := 1) (b := b) (S := m.sums) (B := m.body) (by decide) (by decide) o.kb (by have := o.lb; omega) (isB_nb o.kc 4) (by simp [AV.nbl, AV.nb, isB_nb o.kh 4, isB_nb o.kf 4]) (fun g' cb' hc' => ?_)
      repeat ((conv => whnf); first | with_reducible refine O_step ?_ | with_reducible refine S_step ?_ | with_reducible refine D_step ?_ | with_reducible refine RO.exit ?_ | with_reducible refine RO.ret ?_ | ((with_reducible refine And.intro ?sc ?_); case sc => exact side) | ((with_reducible refine br_f ?sc ?_); case sc => exact sideB) | ((with_reducible refine br_t ?sc ?_); case sc => exact sideB))
      rcases o.kc with rfl | ⟨rfl, _⟩ | ⟨_, hx⟩
      · refine step25 (fun _ => []) [] rfl ?_
        repeat ((conv => whnf); first | with_reducible refine O_step ?_ | with_reducible refine S_step ?_ | with_reducible refine D_step ?_ | with_reducible refine RO.exit ?_ | with_reducible refine RO.ret ?_ | ((with_reducible refine And.intro ?sc ?_); case sc => exact side) | ((with_reducible refine br_f ?sc ?_); case sc => exact sideB) | ((with_reducible refine br_t ?sc ?_); case sc => exact sideB))
        exact h _ _ g' cb' (.inl rfl) (.inl rfl) hc'
      · refine step25 (fun _ => []) [] rfl ?_
        repeat ((conv => whnf); first | with_reducible refine O_step ?_ | with_reducible refine S_step ?_ | with_reducible refine D_step ?_ | with_reducible refine RO.exit ?_ | with_reducible refine RO.ret ?_ | ((with_reducible refine And.intro ?sc ?_); case sc => exact side) | ((with_reducible refine br_f ?sc ?_); case sc => exact sideB) | ((with_reducible refine br_t ?sc ?_); case sc => exact sideB))
        exact h _ _ g' cb' (.inl rfl) (.inl rfl) hc'
      · cases hx
    · rw [hh] at hx; cases hx
  · rw [hh] at h
    rcases o.kf with e | ⟨_, hx⟩ | ⟨e, _⟩
    · rw [hh] at e; subst e
      refine step35 (fun _ => [0]) [] rfl ?_
      repeat ((conv => whnf); first | with_reducible refine O_step ?_ | with_reducible refine S_step ?_ | with_reducible refine D_step ?_ | with_reducible refine RO.exit ?_ | with_reducible refine RO.ret ?_ | ((with_reducible refine And.intro ?sc ?_); case sc => exact side) | ((with_reducible refine br_f ?sc ?_); case sc => exact sideB) | ((with_reducible refine br_t ?sc ?_); case sc => exact sideB))
      refine step43 (fun _ => [0]) [] rfl ?_
      repeat ((conv => whnf); first | with_reducible refine O_step ?_ | with_reducible refine S_step ?_ | with_reducible refine D_step ?_ | with_reducible refine RO.exit ?_ | with_reducible refine RO.ret ?_ | ((with_reducible refine And.intro ?sc ?_); case sc => exact side) | ((with_reducible refine br_f ?sc ?_); case sc => exact sideB) | ((with_reducible refine br_t ?sc ?_); case sc => exact sideB))
      refine numW_call (v := 1) (n := 1) (b := b) (S := m.sums) (B := m.body) (by decide) (by decide) o.kb (by have := o.lb; omega) (isB_nb o.kc 4) (by simp [AV.nbl, AV.nb, isB_nb o.kh 4, isB_nb o.kf 4]) (fun g' cb' hc' => ?_)
      repeat ((conv => whnf); first | with_reducible refine O_step ?_ | with_reducible refine S_step ?_ | with_reducible refine D_step ?_ | with_reducible refine RO.exit ?_ | with_reducible refine RO.ret ?_ | ((with_reducible refine And.intro ?sc ?_); case sc => exact side) | ((with_reducible refine br_f ?sc ?_); case sc => exact sideB) | ((with_reducible refine br_t ?sc ?_); case sc => exact sideB))
      rcases o.kc with rfl | ⟨rfl, _⟩ | ⟨_, hx⟩
      · refine step25 (fun _ => []) [] rfl ?_
        repeat ((conv => whnf); first | with_reducible refine O_step ?_ | with_reducible refine S_step ?_ | with_reducible refine D_step ?_ | with_reducible refine RO.exit ?_ | with_reducible refine RO.ret ?_ | ((with_reducible refine And.intro ?sc ?_); case sc => exact side) | ((with_reducible refine br_f ?sc ?_); case sc => exact sideB) | ((with_reducible refine br_t ?sc ?_); case sc => exact sideB))
        exact h _ _ g' cb' (.inl rfl) (.inl rfl) hc'
      · refine step25 (fun _ => []) [] rfl ?_
        repeat ((conv => whnf); first | with_reducible refine O_step ?_ | with_reducible refine S_step ?_ | with_reducible refine D_step ?_ | with_reducible refine RO.exit ?_ | with_reducible refine RO.ret ?_ | ((with_reducible refine And.intro ?sc ?_); case sc => exact side) | ((with_reducible refine br_f ?sc ?_); case sc => exact sideB) | ((with_reducible refine br_t ?sc ?_); case sc => exact sideB))
        exact h _ _ g' cb' (.inl rfl) (.inl rfl) hc'
      · cases hx
    · rw [hh] at hx; cases hx
    · subst e
      refine step35 (fun _ => [0]) [] rfl ?_
      repeat ((conv => whnf); first | with_reducible refine O_step ?_ | with_reducible refine S_step ?_ | with_reducible refine D_step ?_ | with_reducible refine RO.exit ?_ | with_reducible refine RO.ret ?_ | ((with_reducible refine And.intro ?sc ?_); case sc => exact side) | ((with_reducible refine br_f ?sc ?_); case sc => exact sideB) | ((with_reducible refine br_t ?sc ?_); case sc => exact sideB))
      refine step43 (fun _ => [0]) [] rfl ?_
      repeat ((conv => whnf); first | with_reducible refine O_step ?_ | with_reducible refine S_step ?_ | with_reducible refine D_step ?_ | with_reducible refine RO.exit ?_ | with_reducible refine RO.ret ?_ | ((with_reducible refine And.intro ?sc ?_); case sc => exact side) | ((with_reducible refine br_f ?sc ?_); case sc => exact sideB) | ((with_reducible refine br_t ?sc ?_); case sc => exact sideB))
      refine numW_call (v := 1) (n := 1) (b := b) (S := m.sums) (B := m.body) (by decide) (by decide) o.kb (by have := o.lb; omega) (isB_nb o.kc 4) (by simp [AV.nbl, AV.nb, isB_nb o.kh 4, isB_nb o.kf 4]) (fun g' cb' hc' => ?_)
      repeat ((conv => whnf); first | with_reducible refine O_step ?_ | with_reducible refine S_step ?_ | with_reducible refine D_step ?_ | with_reducible refine RO.exit ?_ | with_reducible refine RO.ret ?_ | ((with_reducible refine And.intro ?sc ?_); case sc => exact side) | ((with_reducible refine br_f ?sc ?_); case sc => exact sideB) | ((with_reducible refine br_t ?sc ?_); case sc => exact sideB))
      rcases o.kc with rfl | ⟨rfl, _⟩ | ⟨_, hx⟩
      · refine step25 (fun _ => []) [] rfl ?_
        repeat ((conv => whnf); first | with_reducible refine O_step ?_ | with_reducible refine S_step ?_ | with_reducible refine D_step ?_ | with_reducible refine RO.exit ?_ | with_reducible refine RO.ret ?_ | ((with_reducible refine And.intro ?sc ?_); case sc => exact side) | ((with_reducible refine br_f ?sc ?_); case sc => exact sideB) | ((with_reducible refine br_t ?sc ?_); case sc => exact sideB))
        exact h _ _ g' cb' (.inl rfl) (.inl rfl) hc'
      · refine step25 (fun _ => []) [] rfl ?_
        repeat ((conv => whnf); first | with_reducible refine O_step ?_ | with_reducible refine S_step ?_ | with_reducible refine D_step ?_ | with_reducible refine RO.exit ?_ | with_reducible refine RO.ret ?_ | ((with_reducible refine And.intro ?sc ?_); case sc => exact side) | ((with_reducible refine br_f ?sc ?_); case sc => exact sideB) | ((with_reducible refine br_t ?sc ?_); case sc => exact sideB))
        exact h _ _ g' cb' (.inl rfl) (.inl rfl) hc'
      · cases hx

theorem flatBe_length (n : Nat) (l : List Int) : (l.flatMap fun x => beW x n).length = n * l.length := by
  induction l with
  | nil => simp
  | cons x l ih => rw [List.flatMap_cons, List.length_append, ih, beW_length, List.length_cons, Nat.mul_add]; omega
/-- The bytes of sums. -/
def sumsB (S : List Int) : List Int := beW (S.length : Int) 2 ++ S.flatMap fun x => beW x 4

theorem sumsW (o : okW c0 hv fv cb cS cB b m) (h : ∀ c0' g' cb', isB c0' false → (b ++ sumsB m.sums).length ≤ cb' → K (.tup []) (pgW c0' hv fv g' cb' gs cS cB (b ++ sumsB m.sums) m)) :
    CallA Try.prog 31 [.ptr 0 0 0] (pgW c0 hv fv g cb gs cS cB b m) K Kp := by
  have hsl := o.ls
  have hks := o.ks
  have hbl := o.lb
  refine step31 (fun _ => [0, 2]) [] rfl ?_
  repeat ((conv => whnf); first | with_reducible refine O_step ?_ | with_reducible refine S_step ?_ | with_reducible refine D_step ?_ | with_reducible refine RO.exit ?_ | with_reducible refine RO.ret ?_ | ((with_reducible refine And.intro ?sc ?_); case sc => exact side) | ((with_reducible refine br_f ?sc ?_); case sc => exact sideB) | ((with_reducible refine br_t ?sc ?_); case sc => exact sideB))
  rw [show (m.sums.length : Int) % 18446744073709551616 = m.sums.length by omega]
  refine numW_call (n := 2) (b := b) (S := m.sums) (B := m.body) (by decide) (by omega) o.kb (by omega) (isB_nb o.kc 4) (by simp [AV.nbl, AV.nb, isB_nb o.kh 4, isB_nb o.kf 4]) (fun g1 c1 hc1 => ?_)
  rcases o.kc with rfl | ⟨rfl, _⟩ | ⟨_, hx⟩
  · repeat ((conv => whnf); first | with_reducible refine O_step ?_ | with_reducible refine S_step ?_ | with_reducible refine D_step ?_ | with_reducible refine RO.exit ?_ | with_reducible refine RO.ret ?_ | ((with_reducible refine And.intro ?sc ?_); case sc => exact side) | ((with_reducible refine br_f ?sc ?_); case sc => exact sideB) | ((with_reducible refine br_t ?sc ?_); case sc => exact sideB))
    refine step25 (fun _ => []) [] rfl ?_
    repeat ((conv => whnf); first | with_reducible refine O_step ?_ | with_reducible refine S_step ?_ | with_reducible refine D_step ?_ | with_reducible refine RO.exit ?_ | with_reducible refine RO.ret ?_ | ((with_reducible refine And.intro ?sc ?_); case sc => exact side) | ((with_reducible refine br_f ?sc ?_); case sc => exact sideB) | ((with_reducible refine br_t ?sc ?_); case sc => exact sideB))
    rw [show (!decide ((m.sums.length : Int) ≤ 256)) = false by rw [decide_eq_true (by omega)]; rfl]
    repeat ((conv => whnf); first | with_reducible refine O_step ?_ | with_reducible refine S_step ?_ | with_reducible refine D_step ?_ | with_reducible refine RO.exit ?_ | with_reducible refine RO.ret ?_ | ((with_reducible refine And.intro ?sc ?_); case sc => exact side) | ((with_reducible refine br_f ?sc ?_); case sc => exact sideB) | ((with_reducible refine br_t ?sc ?_); case sc => exact sideB))
    refine WO.go (σ := Nat × Nat × Nat × List Int) (fun (i, g, cb, ys) => i ≤ m.sums.length ∧ ys.length ≤ cb ∧ ys = b ++ beW (m.sums.length : Int) 2 ++ (m.sums.take i).flatMap fun x => beW x 4) (fun (i, _) => m.sums.length - i)
      (fun (i, g, cb, ys) => [(0, .ptr 0 0 0), (49, .int .i64 m.sums.length), (50, .int .i64 i)])
      (fun (i, g, cb, ys) => pgW (.bo false) hv fv g cb gs cS cB ys m) (0, g1, c1, b ++ beW (m.sums.length : Int) 2) tb_ok mixed (by kernel_rfl)
      ⟨Nat.zero_le _, hc1, by simp⟩ (And.intro rfl (And.intro rfl (And.intro rfl (trivial)))) (And.intro rfl (And.intro rfl (And.intro rfl (And.intro rfl (trivial))))) (fun _ => rfl) (fun _ => rfl) (fun _ => ⟨by simp [AO.nb, Cont.nb, AV.nbl, AV.nb, isB_nb o.kh 4, isB_nb o.kf 4], trivial, trivial, trivial, trivial⟩) ?_
    rintro ⟨i, g, cb, ys⟩ ⟨i1, i2, i3⟩ d
    have hyl : ys.length = b.length + 2 + 4 * i := by rw [i3]; simp only [List.length_append, beW_length, flatBe_length, List.length_take]; omega
    repeat ((conv => whnf); first | with_reducible refine O_step ?_ | with_reducible refine S_step ?_ | with_reducible refine D_step ?_ | with_reducible refine RO.exit ?_ | with_reducible refine RO.ret ?_ | ((with_reducible refine And.intro ?sc ?_); case sc => exact side) | ((with_reducible refine br_f ?sc ?_); case sc => exact sideB) | ((with_reducible refine br_t ?sc ?_); case sc => exact sideB))
    refine And.intro (fun hc => ?_) (fun hc => ?_)
    · have hc' : (i : Int) < m.sums.length := of_decide_eq_true hc
      have hx := bget o.km.sums i (by omega)
      repeat ((conv => whnf); first | with_reducible refine O_step ?_ | with_reducible refine S_step ?_ | with_reducible refine D_step ?_ | with_reducible refine RO.exit ?_ | with_reducible refine RO.ret ?_ | ((with_reducible refine And.intro ?sc ?_); case sc => exact side) | ((with_reducible refine br_f ?sc ?_); case sc => exact sideB) | ((with_reducible refine br_t ?sc ?_); case sc => exact sideB))
      refine step42 (fun _ => [0]) [] rfl ?_
      repeat ((conv => whnf); first | with_reducible refine O_step ?_ | with_reducible refine S_step ?_ | with_reducible refine D_step ?_ | with_reducible refine RO.exit ?_ | with_reducible refine RO.ret ?_ | ((with_reducible refine And.intro ?sc ?_); case sc => exact side) | ((with_reducible refine br_f ?sc ?_); case sc => exact sideB) | ((with_reducible refine br_t ?sc ?_); case sc => exact sideB))
      rw [show m.sums.getD ((i : Int).toNat + 0) 0 % 18446744073709551616 = m.sums.getD i 0 by rw [show (i : Int).toNat + 0 = i from rfl]; omega]
      refine numW_call (n := 4) (b := ys) (S := m.sums) (B := m.body) (by decide) (by omega) i2 (by omega) rfl (by simp [AV.nbl, AV.nb, isB_nb o.kh 4, isB_nb o.kf 4]) (fun g' cb' hc' => ?_)
      repeat ((conv => whnf); first | with_reducible refine O_step ?_ | with_reducible refine S_step ?_ | with_reducible refine D_step ?_ | with_reducible refine RO.exit ?_ | with_reducible refine RO.ret ?_ | ((with_reducible refine And.intro ?sc ?_); case sc => exact side) | ((with_reducible refine br_f ?sc ?_); case sc => exact sideB) | ((with_reducible refine br_t ?sc ?_); case sc => exact sideB))
      refine RO.same (i + 1, g', cb', ys ++ beW (m.sums.getD i 0) 4) ⟨by omega, hc', ?_⟩ (show m.sums.length - (i + 1) < m.sums.length - i by omega) (And.intro rfl (And.intro rfl (And.intro rfl (trivial)))) (And.intro rfl (And.intro rfl (And.intro ?_ (And.intro rfl trivial))))
      · rw [i3, List.take_succ_eq_append_getElem (by omega), List.flatMap_append, getD_get (by omega)]; simp
      · have hs : m.sums.set ((i : Int).toNat + 0) (m.sums.getD i 0 % 4294967296) = m.sums := by
          rw [show (i : Int).toNat + 0 = i from rfl, show m.sums.getD i 0 % 4294967296 = m.sums.getD i 0 by omega, getD_get (by omega)]
          exact List.set_getElem_self _
        show AO.one true gs (.ints .u32 m.sums cS) = AO.one true gs (.ints .u32 (m.sums.set ((i : Int).toNat + 0) (m.sums.getD i 0 % 4294967296)) cS)
        rw [hs]
    · have hc' : ¬ (i : Int) < m.sums.length := of_decide_eq_false hc
      obtain rfl : i = m.sums.length := by omega
      have e : ys = b ++ sumsB m.sums := by rw [i3, List.take_length, List.append_assoc]; rfl
      subst e
      repeat ((conv => whnf); first | with_reducible refine O_step ?_ | with_reducible refine S_step ?_ | with_reducible refine D_step ?_ | with_reducible refine RO.exit ?_ | with_reducible refine RO.ret ?_ | ((with_reducible refine And.intro ?sc ?_); case sc => exact side) | ((with_reducible refine br_f ?sc ?_); case sc => exact sideB) | ((with_reducible refine br_t ?sc ?_); case sc => exact sideB))
      exact h _ g cb (.inl rfl) i2
  · repeat ((conv => whnf); first | with_reducible refine O_step ?_ | with_reducible refine S_step ?_ | with_reducible refine D_step ?_ | with_reducible refine RO.exit ?_ | with_reducible refine RO.ret ?_ | ((with_reducible refine And.intro ?sc ?_); case sc => exact side) | ((with_reducible refine br_f ?sc ?_); case sc => exact sideB) | ((with_reducible refine br_t ?sc ?_); case sc => exact sideB))
    refine step25 (fun _ => []) [] rfl ?_
    repeat ((conv => whnf); first | with_reducible refine O_step ?_ | with_reducible refine S_step ?_ | with_reducible refine D_step ?_ | with_reducible refine RO.exit ?_ | with_reducible refine RO.ret ?_ | ((with_reducible refine And.intro ?sc ?_); case sc => exact side) | ((with_reducible refine br_f ?sc ?_); case sc => exact sideB) | ((with_reducible refine br_t ?sc ?_); case sc => exact sideB))
    rw [show (!decide ((m.sums.length : Int) ≤ 256)) = false by rw [decide_eq_true (by omega)]; rfl]
    repeat ((conv => whnf); first | with_reducible refine O_step ?_ | with_reducible refine S_step ?_ | with_reducible refine D_step ?_ | with_reducible refine RO.exit ?_ | with_reducible refine RO.ret ?_ | ((with_reducible refine And.intro ?sc ?_); case sc => exact side) | ((with_reducible refine br_f ?sc ?_); case sc => exact sideB) | ((with_reducible refine br_t ?sc ?_); case sc => exact sideB))
    refine WO.go (σ := Nat × Nat × Nat × List Int) (fun (i, g, cb, ys) => i ≤ m.sums.length ∧ ys.length ≤ cb ∧ ys = b ++ beW (m.sums.length : Int) 2 ++ (m.sums.take i).flatMap fun x => beW x 4) (fun (i, _) => m.sums.length - i)
      (fun (i, g, cb, ys) => [(0, .ptr 0 0 0), (49, .int .i64 m.sums.length), (50, .int .i64 i)])
      (fun (i, g, cb, ys) => pgW (.bo false) hv fv g cb gs cS cB ys m) (0, g1, c1, b ++ beW (m.sums.length : Int) 2) tb_ok mixed (by kernel_rfl)
      ⟨Nat.zero_le _, hc1, by simp⟩ (And.intro rfl (And.intro rfl (And.intro rfl (trivial)))) (And.intro rfl (And.intro rfl (And.intro rfl (And.intro rfl (trivial))))) (fun _ => rfl) (fun _ => rfl) (fun _ => ⟨by simp [AO.nb, Cont.nb, AV.nbl, AV.nb, isB_nb o.kh 4, isB_nb o.kf 4], trivial, trivial, trivial, trivial⟩) ?_
    rintro ⟨i, g, cb, ys⟩ ⟨i1, i2, i3⟩ d
    have hyl : ys.length = b.length + 2 + 4 * i := by rw [i3]; simp only [List.length_append, beW_length, flatBe_length, List.length_take]; omega
    repeat ((conv => whnf); first | with_reducible refine O_step ?_ | with_reducible refine S_step ?_ | with_reducible refine D_step ?_ | with_reducible refine RO.exit ?_ | with_reducible refine RO.ret ?_ | ((with_reducible refine And.intro ?sc ?_); case sc => exact side) | ((with_reducible refine br_f ?sc ?_); case sc => exact sideB) | ((with_reducible refine br_t ?sc ?_); case sc => exact sideB))
    refine And.intro (fun hc => ?_) (fun hc => ?_)
    · have hc' : (i : Int) < m.sums.length := of_decide_eq_true hc
      have hx := bget o.km.sums i (by omega)
      repeat ((conv => whnf); first | with_reducible refine O_step ?_ | with_reducible refine S_step ?_ | with_reducible refine D_step ?_ | with_reducible refine RO.exit ?_ | with_reducible refine RO.ret ?_ | ((with_reducible refine And.intro ?sc ?_); case sc => exact side) | ((with_reducible refine br_f ?sc ?_); case sc => exact sideB) | ((with_reducible refine br_t ?sc ?_); case sc => exact sideB))
      refine step42 (fun _ => [0]) [] rfl ?_
      repeat ((conv => whnf); first | with_reducible refine O_step ?_ | with_reducible refine S_step ?_ | with_reducible refine D_step ?_ | with_reducible refine RO.exit ?_ | with_reducible refine RO.ret ?_ | ((with_reducible refine And.intro ?sc ?_); case sc => exact side) | ((with_reducible refine br_f ?sc ?_); case sc => exact sideB) | ((with_reducible refine br_t ?sc ?_); case sc => exact sideB))
      rw [show m.sums.getD ((i : Int).toNat + 0) 0 % 18446744073709551616 = m.sums.getD i 0 by rw [show (i : Int).toNat + 0 = i from rfl]; omega]
      refine numW_call (n := 4) (b := ys) (S := m.sums) (B := m.body) (by decide) (by omega) i2 (by omega) rfl (by simp [AV.nbl, AV.nb, isB_nb o.kh 4, isB_nb o.kf 4]) (fun g' cb' hc' => ?_)
      repeat ((conv => whnf); first | with_reducible refine O_step ?_ | with_reducible refine S_step ?_ | with_reducible refine D_step ?_ | with_reducible refine RO.exit ?_ | with_reducible refine RO.ret ?_ | ((with_reducible refine And.intro ?sc ?_); case sc => exact side) | ((with_reducible refine br_f ?sc ?_); case sc => exact sideB) | ((with_reducible refine br_t ?sc ?_); case sc => exact sideB))
      refine RO.same (i + 1, g', cb', ys ++ beW (m.sums.getD i 0) 4) ⟨by omega, hc', ?_⟩ (show m.sums.length - (i + 1) < m.sums.length - i by omega) (And.intro rfl (And.intro rfl (And.intro rfl (trivial)))) (And.intro rfl (And.intro rfl (And.intro ?_ (And.intro rfl trivial))))
      · rw [i3, List.take_succ_eq_append_getElem (by omega), List.flatMap_append, getD_get (by omega)]; simp
      · have hs : m.sums.set ((i : Int).toNat + 0) (m.sums.getD i 0 % 4294967296) = m.sums := by
          rw [show (i : Int).toNat + 0 = i from rfl, show m.sums.getD i 0 % 4294967296 = m.sums.getD i 0 by omega, getD_get (by omega)]
          exact List.set_getElem_self _
        show AO.one true gs (.ints .u32 m.sums cS) = AO.one true gs (.ints .u32 (m.sums.set ((i : Int).toNat + 0) (m.sums.getD i 0 % 4294967296)) cS)
        rw [hs]
    · have hc' : ¬ (i : Int) < m.sums.length := of_decide_eq_false hc
      obtain rfl : i = m.sums.length := by omega
      have e : ys = b ++ sumsB m.sums := by rw [i3, List.take_length, List.append_assoc]; rfl
      subst e
      repeat ((conv => whnf); first | with_reducible refine O_step ?_ | with_reducible refine S_step ?_ | with_reducible refine D_step ?_ | with_reducible refine RO.exit ?_ | with_reducible refine RO.ret ?_ | ((with_reducible refine And.intro ?sc ?_); case sc => exact side) | ((with_reducible refine br_f ?sc ?_); case sc => exact sideB) | ((with_reducible refine br_t ?sc ?_); case sc => exact sideB))
      exact h _ g cb (.inl rfl) i2
  · cases hx
end

end Go.Proofs.Ytedlpkibdjccdaa
