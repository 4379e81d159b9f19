/- Layer 23: the fields of a type (written by wip/m5.py). -/
import Derived.Test.YtedlpkibdjccdaaM3

import Derived.Test.YtedlpkibdjccdaaFr

set_option linter.unusedVariables false

set_option linter.unusedSimpArgs false

open Go.RowKit

namespace Go.Proofs.Ytedlpkibdjccdaa

set_option maxRecDepth 10000

/-- A method of the page. -/
abbrev mth (f : Nat) : AV := .fn (.func f) [.ptr 0 0 0] []

def fnsF (ty : Int) : List AV :=
  if ty = 1 then [mth 28, mth 29, mth 30, mth 31]
  else if ty = 2 then [mth 28, mth 32, mth 33]
  else if ty = 3 then []
  else if ty = 4 then [mth 34, mth 30, mth 35, mth 36]
  else if ty = 5 then [mth 33, mth 37]
  else [mth 33]
theorem fieldsW_call {a0 a1 a2 : AV} {ty : Int} {R : List AV} {g cb gs cS cB : Nat} {b S B : List Int} {K Kp : AV → AH → Prop} (ht : in8 ty) (h0 : a0.nb 11 = true) (h1 : a1.nb 11 = true) (h2 : a2.nb 11 = true) (hR : AV.nbl 11 R = true)
    (hn : ¬ (1 ≤ ty ∧ ty ≤ 6) → K .ns [.one true 0 (.cells (a0 :: a1 :: a2 :: .int .u8 ty :: R)), .one true g (.ints .u8 b cb), .one true gs (.ints .u32 S cS), .one false 0 (.ints .u8 B cB), .gone, .gone, .gone, .gone, .gone, .gone, .gone])
    (h : 1 ≤ ty ∧ ty ≤ 6 → K (.sl (4 + ty.toNat) 0 0 (fnsF ty).length (fnsF ty).length) ([.one true 0 (.cells (a0 :: a1 :: a2 :: .int .u8 ty :: R)), .one true g (.ints .u8 b cb), .one true gs (.ints .u32 S cS), .one false 0 (.ints .u8 B cB), .gone, .gone, .gone, .gone, .gone, .gone, .gone].set (4 + ty.toNat) (.one true 0 (.cells (fnsF ty))))) :
    CallA Try.prog 19 [.ptr 0 0 0] [.one true 0 (.cells (a0 :: a1 :: a2 :: .int .u8 ty :: R)), .one true g (.ints .u8 b cb), .one true gs (.ints .u32 S cS), .one false 0 (.ints .u8 B cB)] K Kp := by
  by_cases hy : 1 ≤ ty ∧ ty ≤ 6
  · have h := h hy
    obtain rfl | rfl | rfl | rfl | rfl | rfl : ty = 1 ∨ ty = 2 ∨ ty = 3 ∨ ty = 4 ∨ ty = 5 ∨ ty = 6 := by omega
    · skip
      refine CallA.post_sub ?_
      refine step19 (fun _ => [0]) [] rfl ?_
      repeat ((conv => whnf); first | with_reducible refine O_step ?_ | with_reducible refine S_step ?_ | with_reducible refine D_step ?_ | with_reducible refine RO.exit ?_ | with_reducible refine RO.ret ?_ | ((with_reducible refine And.intro ?sc ?_); case sc => exact side) | ((with_reducible refine br_f ?sc ?_); case sc => exact sideB) | ((with_reducible refine br_t ?sc ?_); case sc => exact sideB))
      intro es he
      obtain rfl : es = [((1, 0), .sl 5 0 0 4 4)] := he
      repeat ((conv => whnf); first | with_reducible refine O_step ?_ | with_reducible refine S_step ?_ | with_reducible refine D_step ?_ | with_reducible refine RO.exit ?_ | with_reducible refine RO.ret ?_ | ((with_reducible refine And.intro ?sc ?_); case sc => exact side) | ((with_reducible refine br_f ?sc ?_); case sc => exact sideB) | ((with_reducible refine br_t ?sc ?_); case sc => exact sideB))
      intro es he
      obtain rfl : es = [((1, 0), .sl 5 0 0 4 4), ((2, 0), .sl 6 0 0 3 3)] := he
      repeat ((conv => whnf); first | with_reducible refine O_step ?_ | with_reducible refine S_step ?_ | with_reducible refine D_step ?_ | with_reducible refine RO.exit ?_ | with_reducible refine RO.ret ?_ | ((with_reducible refine And.intro ?sc ?_); case sc => exact side) | ((with_reducible refine br_f ?sc ?_); case sc => exact sideB) | ((with_reducible refine br_t ?sc ?_); case sc => exact sideB))
      intro es he
      obtain rfl : es = [((1, 0), .sl 5 0 0 4 4), ((2, 0), .sl 6 0 0 3 3), ((3, 0), .sl 7 0 0 0 0)] := he
      repeat ((conv => whnf); first | with_reducible refine O_step ?_ | with_reducible refine S_step ?_ | with_reducible refine D_step ?_ | with_reducible refine RO.exit ?_ | with_reducible refine RO.ret ?_ | ((with_reducible refine And.intro ?sc ?_); case sc => exact side) | ((with_reducible refine br_f ?sc ?_); case sc => exact sideB) | ((with_reducible refine br_t ?sc ?_); case sc => exact sideB))
      intro es he
      obtain rfl : es = [((1, 0), .sl 5 0 0 4 4), ((2, 0), .sl 6 0 0 3 3), ((3, 0), .sl 7 0 0 0 0), ((4, 0), .sl 8 0 0 4 4)] := he
      repeat ((conv => whnf); first | with_reducible refine O_step ?_ | with_reducible refine S_step ?_ | with_reducible refine D_step ?_ | with_reducible refine RO.exit ?_ | with_reducible refine RO.ret ?_ | ((with_reducible refine And.intro ?sc ?_); case sc => exact side) | ((with_reducible refine br_f ?sc ?_); case sc => exact sideB) | ((with_reducible refine br_t ?sc ?_); case sc => exact sideB))
      intro es he
      obtain rfl : es = [((1, 0), .sl 5 0 0 4 4), ((2, 0), .sl 6 0 0 3 3), ((3, 0), .sl 7 0 0 0 0), ((4, 0), .sl 8 0 0 4 4), ((5, 0), .sl 9 0 0 2 2)] := he
      repeat ((conv => whnf); first | with_reducible refine O_step ?_ | with_reducible refine S_step ?_ | with_reducible refine D_step ?_ | with_reducible refine RO.exit ?_ | with_reducible refine RO.ret ?_ | ((with_reducible refine And.intro ?sc ?_); case sc => exact side) | ((with_reducible refine br_f ?sc ?_); case sc => exact sideB) | ((with_reducible refine br_t ?sc ?_); case sc => exact sideB))
      intro es he
      obtain rfl : es = [((1, 0), .sl 5 0 0 4 4), ((2, 0), .sl 6 0 0 3 3), ((3, 0), .sl 7 0 0 0 0), ((4, 0), .sl 8 0 0 4 4), ((5, 0), .sl 9 0 0 2 2), ((6, 0), .sl 10 0 0 1 1)] := he
      repeat ((conv => whnf); first | with_reducible refine O_step ?_ | with_reducible refine S_step ?_ | with_reducible refine D_step ?_ | with_reducible refine RO.exit ?_ | with_reducible refine RO.ret ?_ | ((with_reducible refine And.intro ?sc ?_); case sc => exact side) | ((with_reducible refine br_f ?sc ?_); case sc => exact sideB) | ((with_reducible refine br_t ?sc ?_); case sc => exact sideB))
      refine And.intro (fun v hv => ?_) (fun hn => ?_)
      · have hz : AV.sl 5 0 0 4 4 = v := Option.some.inj hv
        clear hv
        subst hz
        repeat ((conv => whnf); first | with_reducible refine O_step ?_ | with_reducible refine S_step ?_ | with_reducible refine D_step ?_ | with_reducible refine RO.exit ?_ | with_reducible refine RO.ret ?_ | ((with_reducible refine And.intro ?sc ?_); case sc => exact side))
        refine Exists.intro _ (And.intro ?_ (And.intro ?_ (And.intro ?_ h)))
        · exact And.intro rfl (And.intro rfl (And.intro rfl (And.intro rfl (And.intro trivial (And.intro rfl (And.intro trivial (And.intro trivial (And.intro trivial (And.intro trivial (And.intro trivial (trivial)))))))))))
        · exact (And.intro (by simp [AO.nb, Cont.nb, AV.nbl, AV.nb, h0, h1, h2, hR]) ⟨trivial, trivial, trivial, trivial, rfl, trivial, trivial, trivial, trivial, trivial, trivial⟩)
        · rfl
      · have hz : some (AV.sl 5 0 0 4 4) = none := hn
        cases hz
    · skip
      refine CallA.post_sub ?_
      refine step19 (fun _ => [0]) [] rfl ?_
      repeat ((conv => whnf); first | with_reducible refine O_step ?_ | with_reducible refine S_step ?_ | with_reducible refine D_step ?_ | with_reducible refine RO.exit ?_ | with_reducible refine RO.ret ?_ | ((with_reducible refine And.intro ?sc ?_); case sc => exact side) | ((with_reducible refine br_f ?sc ?_); case sc => exact sideB) | ((with_reducible refine br_t ?sc ?_); case sc => exact sideB))
      intro es he
      obtain rfl : es = [((1, 0), .sl 5 0 0 4 4)] := he
      repeat ((conv => whnf); first | with_reducible refine O_step ?_ | with_reducible refine S_step ?_ | with_reducible refine D_step ?_ | with_reducible refine RO.exit ?_ | with_reducible refine RO.ret ?_ | ((with_reducible refine And.intro ?sc ?_); case sc => exact side) | ((with_reducible refine br_f ?sc ?_); case sc => exact sideB) | ((with_reducible refine br_t ?sc ?_); case sc => exact sideB))
      intro es he
      obtain rfl : es = [((1, 0), .sl 5 0 0 4 4), ((2, 0), .sl 6 0 0 3 3)] := he
      repeat ((conv => whnf); first | with_reducible refine O_step ?_ | with_reducible refine S_step ?_ | with_reducible refine D_step ?_ | with_reducible refine RO.exit ?_ | with_reducible refine RO.ret ?_ | ((with_reducible refine And.intro ?sc ?_); case sc => exact side) | ((with_reducible refine br_f ?sc ?_); case sc => exact sideB) | ((with_reducible refine br_t ?sc ?_); case sc => exact sideB))
      intro es he
      obtain rfl : es = [((1, 0), .sl 5 0 0 4 4), ((2, 0), .sl 6 0 0 3 3), ((3, 0), .sl 7 0 0 0 0)] := he
      repeat ((conv => whnf); first | with_reducible refine O_step ?_ | with_reducible refine S_step ?_ | with_reducible refine D_step ?_ | with_reducible refine RO.exit ?_ | with_reducible refine RO.ret ?_ | ((with_reducible refine And.intro ?sc ?_); case sc => exact side) | ((with_reducible refine br_f ?sc ?_); case sc => exact sideB) | ((with_reducible refine br_t ?sc ?_); case sc => exact sideB))
      intro es he
      obtain rfl : es = [((1, 0), .sl 5 0 0 4 4), ((2, 0), .sl 6 0 0 3 3), ((3, 0), .sl 7 0 0 0 0), ((4, 0), .sl 8 0 0 4 4)] := he
      repeat ((conv => whnf); first | with_reducible refine O_step ?_ | with_reducible refine S_step ?_ | with_reducible refine D_step ?_ | with_reducible refine RO.exit ?_ | with_reducible refine RO.ret ?_ | ((with_reducible refine And.intro ?sc ?_); case sc => exact side) | ((with_reducible refine br_f ?sc ?_); case sc => exact sideB) | ((with_reducible refine br_t ?sc ?_); case sc => exact sideB))
      intro es he
      obtain rfl : es = [((1, 0), .sl 5 0 0 4 4), ((2, 0), .sl 6 0 0 3 3), ((3, 0), .sl 7 0 0 0 0), ((4, 0), .sl 8 0 0 4 4), ((5, 0), .sl 9 0 0 2 2)] := he
      repeat ((conv => whnf); first | with_reducible refine O_step ?_ | with_reducible refine S_step ?_ | with_reducible refine D_step ?_ | with_reducible refine RO.exit ?_ | with_reducible refine RO.ret ?_ | ((with_reducible refine And.intro ?sc ?_); case sc => exact side) | ((with_reducible refine br_f ?sc ?_); case sc => exact sideB) | ((with_reducible refine br_t ?sc ?_); case sc => exact sideB))
      intro es he
      obtain rfl : es = [((1, 0), .sl 5 0 0 4 4), ((2, 0), .sl 6 0 0 3 3), ((3, 0), .sl 7 0 0 0 0), ((4, 0), .sl 8 0 0 4 4), ((5, 0), .sl 9 0 0 2 2), ((6, 0), .sl 10 0 0 1 1)] := he
      repeat ((conv => whnf); first | with_reducible refine O_step ?_ | with_reducible refine S_step ?_ | with_reducible refine D_step ?_ | with_reducible refine RO.exit ?_ | with_reducible refine RO.ret ?_ | ((with_reducible refine And.intro ?sc ?_); case sc => exact side) | ((with_reducible refine br_f ?sc ?_); case sc => exact sideB) | ((with_reducible refine br_t ?sc ?_); case sc => exact sideB))
      refine And.intro (fun v hv => ?_) (fun hn => ?_)
      · have hz : AV.sl 6 0 0 3 3 = v := Option.some.inj hv
        clear hv
        subst hz
        repeat ((conv => whnf); first | with_reducible refine O_step ?_ | with_reducible refine S_step ?_ | with_reducible refine D_step ?_ | with_reducible refine RO.exit ?_ | with_reducible refine RO.ret ?_ | ((with_reducible refine And.intro ?sc ?_); case sc => exact side))
        refine Exists.intro _ (And.intro ?_ (And.intro ?_ (And.intro ?_ h)))
        · exact And.intro rfl (And.intro rfl (And.intro rfl (And.intro rfl (And.intro trivial (And.intro trivial (And.intro rfl (And.intro trivial (And.intro trivial (And.intro trivial (And.intro trivial (trivial)))))))))))
        · exact (And.intro (by simp [AO.nb, Cont.nb, AV.nbl, AV.nb, h0, h1, h2, hR]) ⟨trivial, trivial, trivial, trivial, trivial, rfl, trivial, trivial, trivial, trivial, trivial⟩)
        · rfl
      · have hz : some (AV.sl 6 0 0 3 3) = none := hn
        cases hz
    · skip
      refine CallA.post_sub ?_
      refine step19 (fun _ => [0]) [] rfl ?_
      repeat ((conv => whnf); first | with_reducible refine O_step ?_ | with_reducible refine S_step ?_ | with_reducible refine D_step ?_ | with_reducible refine RO.exit ?_ | with_reducible refine RO.ret ?_ | ((with_reducible refine And.intro ?sc ?_); case sc => exact side) | ((with_reducible refine br_f ?sc ?_); case sc => exact sideB) | ((with_reducible refine br_t ?sc ?_); case sc => exact sideB))
      intro es he
      obtain rfl : es = [((1, 0), .sl 5 0 0 4 4)] := he
      repeat ((conv => whnf); first | with_reducible refine O_step ?_ | with_reducible refine S_step ?_ | with_reducible refine D_step ?_ | with_reducible refine RO.exit ?_ | with_reducible refine RO.ret ?_ | ((with_reducible refine And.intro ?sc ?_); case sc => exact side) | ((with_reducible refine br_f ?sc ?_); case sc => exact sideB) | ((with_reducible refine br_t ?sc ?_); case sc => exact sideB))
      intro es he
      obtain rfl : es = [((1, 0), .sl 5 0 0 4 4), ((2, 0), .sl 6 0 0 3 3)] := he
      repeat ((conv => whnf); first | with_reducible refine O_step ?_ | with_reducible refine S_step ?_ | with_reducible refine D_step ?_ | with_reducible refine RO.exit ?_ | with_reducible refine RO.ret ?_ | ((with_reducible refine And.intro ?sc ?_); case sc => exact side) | ((with_reducible refine br_f ?sc ?_); case sc => exact sideB) | ((with_reducible refine br_t ?sc ?_); case sc => exact sideB))
      intro es he
      obtain rfl : es = [((1, 0), .sl 5 0 0 4 4), ((2, 0), .sl 6 0 0 3 3), ((3, 0), .sl 7 0 0 0 0)] := he
      repeat ((conv => whnf); first | with_reducible refine O_step ?_ | with_reducible refine S_step ?_ | with_reducible refine D_step ?_ | with_reducible refine RO.exit ?_ | with_reducible refine RO.ret ?_ | ((with_reducible refine And.intro ?sc ?_); case sc => exact side) | ((with_reducible refine br_f ?sc ?_); case sc => exact sideB) | ((with_reducible refine br_t ?sc ?_); case sc => exact sideB))
      intro es he
      obtain rfl : es = [((1, 0), .sl 5 0 0 4 4), ((2, 0), .sl 6 0 0 3 3), ((3, 0), .sl 7 0 0 0 0), ((4, 0), .sl 8 0 0 4 4)] := he
      repeat ((conv => whnf); first | with_reducible refine O_step ?_ | with_reducible refine S_step ?_ | with_reducible refine D_step ?_ | with_reducible refine RO.exit ?_ | with_reducible refine RO.ret ?_ | ((with_reducible refine And.intro ?sc ?_); case sc => exact side) | ((with_reducible refine br_f ?sc ?_); case sc => exact sideB) | ((with_reducible refine br_t ?sc ?_); case sc => exact sideB))
      intro es he
      obtain rfl : es = [((1, 0), .sl 5 0 0 4 4), ((2, 0), .sl 6 0 0 3 3), ((3, 0), .sl 7 0 0 0 0), ((4, 0), .sl 8 0 0 4 4), ((5, 0), .sl 9 0 0 2 2)] := he
      repeat ((conv => whnf); first | with_reducible refine O_step ?_ | with_reducible refine S_step ?_ | with_reducible refine D_step ?_ | with_reducible refine RO.exit ?_ | with_reducible refine RO.ret ?_ | ((with_reducible refine And.intro ?sc ?_); case sc => exact side) | ((with_reducible refine br_f ?sc ?_); case sc => exact sideB) | ((with_reducible refine br_t ?sc ?_); case sc => exact sideB))
      intro es he
      obtain rfl : es = [((1, 0), .sl 5 0 0 4 4), ((2, 0), .sl 6 0 0 3 3), ((3, 0), .sl 7 0 0 0 0), ((4, 0), .sl 8 0 0 4 4), ((5, 0), .sl 9 0 0 2 2), ((6, 0), .sl 10 0 0 1 1)] := he
      repeat ((conv => whnf); first | with_reducible refine O_step ?_ | with_reducible refine S_step ?_ | with_reducible refine D_step ?_ | with_reducible refine RO.exit ?_ | with_reducible refine RO.ret ?_ | ((with_reducible refine And.intro ?sc ?_); case sc => exact side) | ((with_reducible refine br_f ?sc ?_); case sc => exact sideB) | ((with_reducible refine br_t ?sc ?_); case sc => exact sideB))
      refine And.intro (fun v hv => ?_) (fun hn => ?_)
      · have hz : AV.sl 7 0 0 0 0 = v := Option.some.inj hv
        clear hv
        subst hz
        repeat ((conv => whnf); first | with_reducible refine O_step ?_ | with_reducible refine S_step ?_ | with_reducible refine D_step ?_ | with_reducible refine RO.exit ?_ | with_reducible refine RO.ret ?_ | ((with_reducible refine And.intro ?sc ?_); case sc => exact side))
        refine Exists.intro _ (And.intro ?_ (And.intro ?_ (And.intro ?_ h)))
        · exact And.intro rfl (And.intro rfl (And.intro rfl (And.intro rfl (And.intro trivial (And.intro trivial (And.intro trivial (And.intro rfl (And.intro trivial (And.intro trivial (And.intro trivial (trivial)))))))))))
        · exact (And.intro (by simp [AO.nb, Cont.nb, AV.nbl, AV.nb, h0, h1, h2, hR]) ⟨trivial, trivial, trivial, trivial, trivial, trivial, rfl, trivial, trivial, trivial, trivial⟩)
        · rfl
      · have hz : some (AV.sl 7 0 0 0 0) = none := hn
        cases hz
    · skip
      refine CallA.post_sub ?_
      refine step19 (fun _ => [0]) [] rfl ?_
      repeat ((conv => whnf); first | with_reducible refine O_step ?_ | with_reducible refine S_step ?_ | with_reducible refine D_step ?_ | with_reducible refine RO.exit ?_ | with_reducible refine RO.ret ?_ | ((with_reducible refine And.intro ?sc ?_); case sc => exact side) | ((with_reducible refine br_f ?sc ?_); case sc => exact sideB) | ((with_reducible refine br_t ?sc ?_); case sc => exact sideB))
      intro es he
      obtain rfl : es = [((1, 0), .sl 5 0 0 4 4)] := he
      repeat ((conv => whnf); first | with_reducible refine O_step ?_ | with_reducible refine S_step ?_ | with_reducible refine D_step ?_ | with_reducible refine RO.exit ?_ | with_reducible refine RO.ret ?_ | ((with_reducible refine And.intro ?sc ?_); case sc => exact side) | ((with_reducible refine br_f ?sc ?_); case sc => exact sideB) | ((with_reducible refine br_t ?sc ?_); case sc => exact sideB))
      intro es he
      obtain rfl : es = [((1, 0), .sl 5 0 0 4 4), ((2, 0), .sl 6 0 0 3 3)] := he
      repeat ((conv => whnf); first | with_reducible refine O_step ?_ | with_reducible refine S_step ?_ | with_reducible refine D_step ?_ | with_reducible refine RO.exit ?_ | with_reducible refine RO.ret ?_ | ((with_reducible refine And.intro ?sc ?_); case sc => exact side) | ((with_reducible refine br_f ?sc ?_); case sc => exact sideB) | ((with_reducible refine br_t ?sc ?_); case sc => exact sideB))
      intro es he
      obtain rfl : es = [((1, 0), .sl 5 0 0 4 4), ((2, 0), .sl 6 0 0 3 3), ((3, 0), .sl 7 0 0 0 0)] := he
      repeat ((conv => whnf); first | with_reducible refine O_step ?_ | with_reducible refine S_step ?_ | with_reducible refine D_step ?_ | with_reducible refine RO.exit ?_ | with_reducible refine RO.ret ?_ | ((with_reducible refine And.intro ?sc ?_); case sc => exact side) | ((with_reducible refine br_f ?sc ?_); case sc => exact sideB) | ((with_reducible refine br_t ?sc ?_); case sc => exact sideB))
      intro es he
      obtain rfl : es = [((1, 0), .sl 5 0 0 4 4), ((2, 0), .sl 6 0 0 3 3), ((3, 0), .sl 7 0 0 0 0), ((4, 0), .sl 8 0 0 4 4)] := he
      repeat ((conv => whnf); first | with_reducible refine O_step ?_ | with_reducible refine S_step ?_ | with_reducible refine D_step ?_ | with_reducible refine RO.exit ?_ | with_reducible refine RO.ret ?_ | ((with_reducible refine And.intro ?sc ?_); case sc => exact side) | ((with_reducible refine br_f ?sc ?_); case sc => exact sideB) | ((with_reducible refine br_t ?sc ?_); case sc => exact sideB))
      intro es he
      obtain rfl : es = [((1, 0), .sl 5 0 0 4 4), ((2, 0), .sl 6 0 0 3 3), ((3, 0), .sl 7 0 0 0 0), ((4, 0), .sl 8 0 0 4 4), ((5, 0), .sl 9 0 0 2 2)] := he
      repeat ((conv => whnf); first | with_reducible refine O_step ?_ | with_reducible refine S_step ?_ | with_reducible refine D_step ?_ | with_reducible refine RO.exit ?_ | with_reducible refine RO.ret ?_ | ((with_reducible refine And.intro ?sc ?_); case sc => exact side) | ((with_reducible refine br_f ?sc ?_); case sc => exact sideB) | ((with_reducible refine br_t ?sc ?_); case sc => exact sideB))
      intro es he
      obtain rfl : es = [((1, 0), .sl 5 0 0 4 4), ((2, 0), .sl 6 0 0 3 3), ((3, 0), .sl 7 0 0 0 0), ((4, 0), .sl 8 0 0 4 4), ((5, 0), .sl 9 0 0 2 2), ((6, 0), .sl 10 0 0 1 1)] := he
      repeat ((conv => whnf); first | with_reducible refine O_step ?_ | with_reducible refine S_step ?_ | with_reducible refine D_step ?_ | with_reducible refine RO.exit ?_ | with_reducible refine RO.ret ?_ | ((with_reducible refine And.intro ?sc ?_); case sc => exact side) | ((with_reducible refine br_f ?sc ?_); case sc => exact sideB) | ((with_reducible refine br_t ?sc ?_); case sc => exact sideB))
      refine And.intro (fun v hv => ?_) (fun hn => ?_)
      · have hz : AV.sl 8 0 0 4 4 = v := Option.some.inj hv
        clear hv
        subst hz
        repeat ((conv => whnf); first | with_reducible refine O_step ?_ | with_reducible refine S_step ?_ | with_reducible refine D_step ?_ | with_reducible refine RO.exit ?_ | with_reducible refine RO.ret ?_ | ((with_reducible refine And.intro ?sc ?_); case sc => exact side))
        refine Exists.intro _ (And.intro ?_ (And.intro ?_ (And.intro ?_ h)))
        · exact And.intro rfl (And.intro rfl (And.intro rfl (And.intro rfl (And.intro trivial (And.intro trivial (And.intro trivial (And.intro trivial (And.intro rfl (And.intro trivial (And.intro trivial (trivial)))))))))))
        · exact (And.intro (by simp [AO.nb, Cont.nb, AV.nbl, AV.nb, h0, h1, h2, hR]) ⟨trivial, trivial, trivial, trivial, trivial, trivial, trivial, rfl, trivial, trivial, trivial⟩)
        · rfl
      · have hz : some (AV.sl 8 0 0 4 4) = none := hn
        cases hz
    · skip
      refine CallA.post_sub ?_
      refine step19 (fun _ => [0]) [] rfl ?_
      repeat ((conv => whnf); first | with_reducible refine O_step ?_ | with_reducible refine S_step ?_ | with_reducible refine D_step ?_ | with_reducible refine RO.exit ?_ | with_reducible refine RO.ret ?_ | ((with_reducible refine And.intro ?sc ?_); case sc => exact side) | ((with_reducible refine br_f ?sc ?_); case sc => exact sideB) | ((with_reducible refine br_t ?sc ?_); case sc => exact sideB))
      intro es he
      obtain rfl : es = [((1, 0), .sl 5 0 0 4 4)] := he
      repeat ((conv => whnf); first | with_reducible refine O_step ?_ | with_reducible refine S_step ?_ | with_reducible refine D_step ?_ | with_reducible refine RO.exit ?_ | with_reducible refine RO.ret ?_ | ((with_reducible refine And.intro ?sc ?_); case sc => exact side) | ((with_reducible refine br_f ?sc ?_); case sc => exact sideB) | ((with_reducible refine br_t ?sc ?_); case sc => exact sideB))
      intro es he
      obtain rfl : es = [((1, 0), .sl 5 0 0 4 4), ((2, 0), .sl 6 0 0 3 3)] := he
      repeat ((conv => whnf); first | with_reducible refine O_step ?_ | with_reducible refine S_step ?_ | with_reducible refine D_step ?_ | with_reducible refine RO.exit ?_ | with_reducible refine RO.ret ?_ | ((with_reducible refine And.intro ?sc ?_); case sc => exact side) | ((with_reducible refine br_f ?sc ?_); case sc => exact sideB) | ((with_reducible refine br_t ?sc ?_); case sc => exact sideB))
      intro es he
      obtain rfl : es = [((1, 0), .sl 5 0 0 4 4), ((2, 0), .sl 6 0 0 3 3), ((3, 0), .sl 7 0 0 0 0)] := he
      repeat ((conv => whnf); first | with_reducible refine O_step ?_ | with_reducible refine S_step ?_ | with_reducible refine D_step ?_ | with_reducible refine RO.exit ?_ | with_reducible refine RO.ret ?_ | ((with_reducible refine And.intro ?sc ?_); case sc => exact side) | ((with_reducible refine br_f ?sc ?_); case sc => exact sideB) | ((with_reducible refine br_t ?sc ?_); case sc => exact sideB))
      intro es he
      obtain rfl : es = [((1, 0), .sl 5 0 0 4 4), ((2, 0), .sl 6 0 0 3 3), ((3, 0), .sl 7 0 0 0 0), ((4, 0), .sl 8 0 0 4 4)] := he
      repeat ((conv => whnf); first | with_reducible refine O_step ?_ | with_reducible refine S_step ?_ | with_reducible refine D_step ?_ | with_reducible refine RO.exit ?_ | with_reducible refine RO.ret ?_ | ((with_reducible refine And.intro ?sc ?_); case sc => exact side) | ((with_reducible refine br_f ?sc ?_); case sc => exact sideB) | ((with_reducible refine br_t ?sc ?_); case sc => exact sideB))
      intro es he
      obtain rfl : es = [((1, 0), .sl 5 0 0 4 4), ((2, 0), .sl 6 0 0 3 3), ((3, 0), .sl 7 0 0 0 0), ((4, 0), .sl 8 0 0 4 4), ((5, 0), .sl 9 0 0 2 2)] := he
      repeat ((conv => whnf); first | with_reducible refine O_step ?_ | with_reducible refine S_step ?_ | with_reducible refine D_step ?_ | with_reducible refine RO.exit ?_ | with_reducible refine RO.ret ?_ | ((with_reducible refine And.intro ?sc ?_); case sc => exact side) | ((with_reducible refine br_f ?sc ?_); case sc => exact sideB) | ((with_reducible refine br_t ?sc ?_); case sc => exact sideB))
      intro es he
      obtain rfl : es = [((1, 0), .sl 5 0 0 4 4), ((2, 0), .sl 6 0 0 3 3), ((3, 0), .sl 7 0 0 0 0), ((4, 0), .sl 8 0 0 4 4), ((5, 0), .sl 9 0 0 2 2), ((6, 0), .sl 10 0 0 1 1)] := he
      repeat ((conv => whnf); first | with_reducible refine O_step ?_ | with_reducible refine S_step ?_ | with_reducible refine D_step ?_ | with_reducible refine RO.exit ?_ | with_reducible refine RO.ret ?_ | ((with_reducible refine And.intro ?sc ?_); case sc => exact side) | ((with_reducible refine br_f ?sc ?_); case sc => exact sideB) | ((with_reducible refine br_t ?sc ?_); case sc => exact sideB))
      refine And.intro (fun v hv => ?_) (fun hn => ?_)
      · have hz : AV.sl 9 0 0 2 2 = v := Option.some.inj hv
        clear hv
        subst hz
        repeat ((conv => whnf); first | with_reducible refine O_step ?_ | with_reducible refine S_step ?_ | with_reducible refine D_step ?_ | with_reducible refine RO.exit ?_ | with_reducible refine RO.ret ?_ | ((with_reducible refine And.intro ?sc ?_); case sc => exact side))
        refine Exists.intro _ (And.intro ?_ (And.intro ?_ (And.intro ?_ h)))
        · exact And.intro rfl (And.intro rfl (And.intro rfl (And.intro rfl (And.intro trivial (And.intro trivial (And.intro trivial (And.intro trivial (And.intro trivial (And.intro rfl (And.intro trivial (trivial)))))))))))
        · exact (And.intro (by simp [AO.nb, Cont.nb, AV.nbl, AV.nb, h0, h1, h2, hR]) ⟨trivial, trivial, trivial, trivial, trivial, trivial, trivial, trivial, rfl, trivial, trivial⟩)
        · rfl
      · have hz : some (AV.sl 9 0 0 2 2) = none := hn
        cases hz
    · skip
      refine CallA.post_sub ?_
      refine step19 (fun _ => [0]) [] rfl ?_
      repeat ((conv => whnf); first | with_reducible refine O_step ?_ | with_reducible refine S_step ?_ | with_reducible refine D_step ?_ | with_reducible refine RO.exit ?_ | with_reducible refine RO.ret ?_ | ((with_reducible refine And.intro ?sc ?_); case sc => exact side) | ((with_reducible refine br_f ?sc ?_); case sc => exact sideB) | ((with_reducible refine br_t ?sc ?_); case sc => exact sideB))
      intro es he
      obtain rfl : es = [((1, 0), .sl 5 0 0 4 4)] := he
      repeat ((conv => whnf); first | with_reducible refine O_step ?_ | with_reducible refine S_step ?_ | with_reducible refine D_step ?_ | with_reducible refine RO.exit ?_ | with_reducible refine RO.ret ?_ | ((with_reducible refine And.intro ?sc ?_); case sc => exact side) | ((with_reducible refine br_f ?sc ?_); case sc => exact sideB) | ((with_reducible refine br_t ?sc ?_); case sc => exact sideB))
      intro es he
      obtain rfl : es = [((1, 0), .sl 5 0 0 4 4), ((2, 0), .sl 6 0 0 3 3)] := he
      repeat ((conv => whnf); first | with_reducible refine O_step ?_ | with_reducible refine S_step ?_ | with_reducible refine D_step ?_ | with_reducible refine RO.exit ?_ | with_reducible refine RO.ret ?_ | ((with_reducible refine And.intro ?sc ?_); case sc => exact side) | ((with_reducible refine br_f ?sc ?_); case sc => exact sideB) | ((with_reducible refine br_t ?sc ?_); case sc => exact sideB))
      intro es he
      obtain rfl : es = [((1, 0), .sl 5 0 0 4 4), ((2, 0), .sl 6 0 0 3 3), ((3, 0), .sl 7 0 0 0 0)] := he
      repeat ((conv => whnf); first | with_reducible refine O_step ?_ | with_reducible refine S_step ?_ | with_reducible refine D_step ?_ | with_reducible refine RO.exit ?_ | with_reducible refine RO.ret ?_ | ((with_reducible refine And.intro ?sc ?_); case sc => exact side) | ((with_reducible refine br_f ?sc ?_); case sc => exact sideB) | ((with_reducible refine br_t ?sc ?_); case sc => exact sideB))
      intro es he
      obtain rfl : es = [((1, 0), .sl 5 0 0 4 4), ((2, 0), .sl 6 0 0 3 3), ((3, 0), .sl 7 0 0 0 0), ((4, 0), .sl 8 0 0 4 4)] := he
      repeat ((conv => whnf); first | with_reducible refine O_step ?_ | with_reducible refine S_step ?_ | with_reducible refine D_step ?_ | with_reducible refine RO.exit ?_ | with_reducible refine RO.ret ?_ | ((with_reducible refine And.intro ?sc ?_); case sc => exact side) | ((with_reducible refine br_f ?sc ?_); case sc => exact sideB) | ((with_reducible refine br_t ?sc ?_); case sc => exact sideB))
      intro es he
      obtain rfl : es = [((1, 0), .sl 5 0 0 4 4), ((2, 0), .sl 6 0 0 3 3), ((3, 0), .sl 7 0 0 0 0), ((4, 0), .sl 8 0 0 4 4), ((5, 0), .sl 9 0 0 2 2)] := he
      repeat ((conv => whnf); first | with_reducible refine O_step ?_ | with_reducible refine S_step ?_ | with_reducible refine D_step ?_ | with_reducible refine RO.exit ?_ | with_reducible refine RO.ret ?_ | ((with_reducible refine And.intro ?sc ?_); case sc => exact side) | ((with_reducible refine br_f ?sc ?_); case sc => exact sideB) | ((with_reducible refine br_t ?sc ?_); case sc => exact sideB))
      intro es he
      obtain rfl : es = [((1, 0), .sl 5 0 0 4 4), ((2, 0), .sl 6 0 0 3 3), ((3, 0), .sl 7 0 0 0 0), ((4, 0), .sl 8 0 0 4 4), ((5, 0), .sl 9 0 0 2 2), ((6, 0), .sl 10 0 0 1 1)] := he
      repeat ((conv => whnf); first | with_reducible refine O_step ?_ | with_reducible refine S_step ?_ | with_reducible refine D_step ?_ | with_reducible refine RO.exit ?_ | with_reducible refine RO.ret ?_ | ((with_reducible refine And.intro ?sc ?_); case sc => exact side) | ((with_reducible refine br_f ?sc ?_); case sc => exact sideB) | ((with_reducible refine br_t ?sc ?_); case sc => exact sideB))
      refine And.intro (fun v hv => ?_) (fun hn => ?_)
      · have hz : AV.sl 10 0 0 1 1 = v := Option.some.inj hv
        clear hv
        subst hz
        repeat ((conv => whnf); first | with_reducible refine O_step ?_ | with_reducible refine S_step ?_ | with_reducible refine D_step ?_ | with_reducible refine RO.exit ?_ | with_reducible refine RO.ret ?_ | ((with_reducible refine And.intro ?sc ?_); case sc => exact side))
        refine Exists.intro _ (And.intro ?_ (And.intro ?_ (And.intro ?_ h)))
        · exact And.intro rfl (And.intro rfl (And.intro rfl (And.intro rfl (And.intro trivial (And.intro trivial (And.intro trivial (And.intro trivial (And.intro trivial (And.intro trivial (And.intro rfl (trivial)))))))))))
        · exact (And.intro (by simp [AO.nb, Cont.nb, AV.nbl, AV.nb, h0, h1, h2, hR]) ⟨trivial, trivial, trivial, trivial, trivial, trivial, trivial, trivial, trivial, rfl, trivial⟩)
        · rfl
      · have hz : some (AV.sl 10 0 0 1 1) = none := hn
        cases hz
  · skip
    refine CallA.post_sub ?_
    refine step19 (fun _ => [0]) [] rfl ?_
    repeat ((conv => whnf); first | with_reducible refine O_step ?_ | with_reducible refine S_step ?_ | with_reducible refine D_step ?_ | with_reducible refine RO.exit ?_ | with_reducible refine RO.ret ?_ | ((with_reducible refine And.intro ?sc ?_); case sc => exact side) | ((with_reducible refine br_f ?sc ?_); case sc => exact sideB) | ((with_reducible refine br_t ?sc ?_); case sc => exact sideB))
    intro es he
    obtain rfl : es = [((1, 0), .sl 5 0 0 4 4)] := he
    repeat ((conv => whnf); first | with_reducible refine O_step ?_ | with_reducible refine S_step ?_ | with_reducible refine D_step ?_ | with_reducible refine RO.exit ?_ | with_reducible refine RO.ret ?_ | ((with_reducible refine And.intro ?sc ?_); case sc => exact side) | ((with_reducible refine br_f ?sc ?_); case sc => exact sideB) | ((with_reducible refine br_t ?sc ?_); case sc => exact sideB))
    intro es he
    obtain rfl : es = [((1, 0), .sl 5 0 0 4 4), ((2, 0), .sl 6 0 0 3 3)] := he
    repeat ((conv => whnf); first | with_reducible refine O_step ?_ | with_reducible refine S_step ?_ | with_reducible refine D_step ?_ | with_reducible refine RO.exit ?_ | with_reducible refine RO.ret ?_ | ((with_reducible refine And.intro ?sc ?_); case sc => exact side) | ((with_reducible refine br_f ?sc ?_); case sc => exact sideB) | ((with_reducible refine br_t ?sc ?_); case sc => exact sideB))
    intro es he
    obtain rfl : es = [((1, 0), .sl 5 0 0 4 4), ((2, 0), .sl 6 0 0 3 3), ((3, 0), .sl 7 0 0 0 0)] := he
    repeat ((conv => whnf); first | with_reducible refine O_step ?_ | with_reducible refine S_step ?_ | with_reducible refine D_step ?_ | with_reducible refine RO.exit ?_ | with_reducible refine RO.ret ?_ | ((with_reducible refine And.intro ?sc ?_); case sc => exact side) | ((with_reducible refine br_f ?sc ?_); case sc => exact sideB) | ((with_reducible refine br_t ?sc ?_); case sc => exact sideB))
    intro es he
    obtain rfl : es = [((1, 0), .sl 5 0 0 4 4), ((2, 0), .sl 6 0 0 3 3), ((3, 0), .sl 7 0 0 0 0), ((4, 0), .sl 8 0 0 4 4)] := he
    repeat ((conv => whnf); first | with_reducible refine O_step ?_ | with_reducible refine S_step ?_ | with_reducible refine D_step ?_ | with_reducible refine RO.exit ?_ | with_reducible refine RO.ret ?_ | ((with_reducible refine And.intro ?sc ?_); case sc => exact side) | ((with_reducible refine br_f ?sc ?_); case sc => exact sideB) | ((with_reducible refine br_t ?sc ?_); case sc => exact sideB))
    intro es he
    obtain rfl : es = [((1, 0), .sl 5 0 0 4 4), ((2, 0), .sl 6 0 0 3 3), ((3, 0), .sl 7 0 0 0 0), ((4, 0), .sl 8 0 0 4 4), ((5, 0), .sl 9 0 0 2 2)] := he
    repeat ((conv => whnf); first | with_reducible refine O_step ?_ | with_reducible refine S_step ?_ | with_reducible refine D_step ?_ | with_reducible refine RO.exit ?_ | with_reducible refine RO.ret ?_ | ((with_reducible refine And.intro ?sc ?_); case sc => exact side) | ((with_reducible refine br_f ?sc ?_); case sc => exact sideB) | ((with_reducible refine br_t ?sc ?_); case sc => exact sideB))
    intro es he
    obtain rfl : es = [((1, 0), .sl 5 0 0 4 4), ((2, 0), .sl 6 0 0 3 3), ((3, 0), .sl 7 0 0 0 0), ((4, 0), .sl 8 0 0 4 4), ((5, 0), .sl 9 0 0 2 2), ((6, 0), .sl 10 0 0 1 1)] := he
    repeat ((conv => whnf); first | with_reducible refine O_step ?_ | with_reducible refine S_step ?_ | with_reducible refine D_step ?_ | with_reducible refine RO.exit ?_ | with_reducible refine RO.ret ?_ | ((with_reducible refine And.intro ?sc ?_); case sc => exact side) | ((with_reducible refine br_f ?sc ?_); case sc => exact sideB) | ((with_reducible refine br_t ?sc ?_); case sc => exact sideB))
    have hf : findM (ty, 0) [((1, 0), AV.sl 5 0 0 4 4), ((2, 0), AV.sl 6 0 0 3 3), ((3, 0), AV.sl 7 0 0 0 0), ((4, 0), AV.sl 8 0 0 4 4), ((5, 0), AV.sl 9 0 0 2 2), ((6, 0), AV.sl 10 0 0 1 1)] = none := by
      simp only [findM, Prod.mk.injEq, and_true]
      rw [if_neg (by omega), if_neg (by omega), if_neg (by omega), if_neg (by omega), if_neg (by omega), if_neg (by omega)]
    refine And.intro (fun v hv => ?_) (fun _ => ?_)
    · have hz : findM (ty, 0) [((1, 0), AV.sl 5 0 0 4 4), ((2, 0), AV.sl 6 0 0 3 3), ((3, 0), AV.sl 7 0 0 0 0), ((4, 0), AV.sl 8 0 0 4 4), ((5, 0), AV.sl 9 0 0 2 2), ((6, 0), AV.sl 10 0 0 1 1)] = some v := hv
      rw [hf] at hz
      cases hz
    · repeat ((conv => whnf); first | with_reducible refine O_step ?_ | with_reducible refine S_step ?_ | with_reducible refine D_step ?_ | with_reducible refine RO.exit ?_ | with_reducible refine RO.ret ?_ | ((with_reducible refine And.intro ?sc ?_); case sc => exact side))
      refine Exists.intro _ (And.intro ?_ (And.intro ?_ (And.intro ?_ (hn hy))))
      · exact And.intro rfl (And.intro rfl (And.intro rfl (And.intro rfl (And.intro trivial (And.intro trivial (And.intro trivial (And.intro trivial (And.intro trivial (And.intro trivial (And.intro trivial (trivial)))))))))))
      · exact (And.intro (by simp [AO.nb, Cont.nb, AV.nbl, AV.nb, h0, h1, h2, hR]) ⟨trivial, trivial, trivial, trivial, trivial, trivial, trivial, trivial, trivial, trivial, trivial⟩)
      · rfl
theorem fieldsR_call {a0 a1 a2 : AV} {ty : Int} {R : List AV} {X : List Int} {cX : Nat} {K Kp : AV → AH → Prop} (ht : in8 ty) (h0 : a0.nb 9 = true) (h1 : a1.nb 9 = true) (h2 : a2.nb 9 = true) (hR : AV.nbl 9 R = true)
    (hn : ¬ (1 ≤ ty ∧ ty ≤ 6) → K .ns [.one true 0 (.cells (a0 :: a1 :: a2 :: .int .u8 ty :: R)), .one false 0 (.ints .u8 X cX), .gone, .gone, .gone, .gone, .gone, .gone, .gone])
    (h : 1 ≤ ty ∧ ty ≤ 6 → K (.sl (2 + ty.toNat) 0 0 (fnsF ty).length (fnsF ty).length) ([.one true 0 (.cells (a0 :: a1 :: a2 :: .int .u8 ty :: R)), .one false 0 (.ints .u8 X cX), .gone, .gone, .gone, .gone, .gone, .gone, .gone].set (2 + ty.toNat) (.one true 0 (.cells (fnsF ty))))) :
    CallA Try.prog 19 [.ptr 0 0 0] [.one true 0 (.cells (a0 :: a1 :: a2 :: .int .u8 ty :: R)), .one false 0 (.ints .u8 X cX)] K Kp := by
  by_cases hy : 1 ≤ ty ∧ ty ≤ 6
  · have h := h hy
    obtain rfl | rfl | rfl | rfl | rfl | rfl : ty = 1 ∨ ty = 2 ∨ ty = 3 ∨ ty = 4 ∨ ty = 5 ∨ ty = 6 := by omega
    · skip
      refine CallA.post_sub ?_
      refine step19 (fun _ => [0]) [] rfl ?_
      repeat ((conv => whnf); first | with_reducible refine O_step ?_ | with_reducible refine S_step ?_ | with_reducible refine D_step ?_ | with_reducible refine RO.exit ?_ | with_reducible refine RO.ret ?_ | ((with_reducible refine And.intro ?sc ?_); case sc => exact side) | ((with_reducible refine br_f ?sc ?_); case sc => exact sideB) | ((with_reducible refine br_t ?sc ?_); case sc => exact sideB))
      intro es he
      obtain rfl : es = [((1, 0), .sl 3 0 0 4 4)] := he
      repeat ((conv => whnf); first | with_reducible refine O_step ?_ | with_reducible refine S_step ?_ | with_reducible refine D_step ?_ | with_reducible refine RO.exit ?_ | with_reducible refine RO.ret ?_ | ((with_reducible refine And.intro ?sc ?_); case sc => exact side) | ((with_reducible refine br_f ?sc ?_); case sc => exact sideB) | ((with_reducible refine br_t ?sc ?_); case sc => exact sideB))
      intro es he
      obtain rfl : es = [((1, 0), .sl 3 0 0 4 4), ((2, 0), .sl 4 0 0 3 3)] := he
      repeat ((conv => whnf); first | with_reducible refine O_step ?_ | with_reducible refine S_step ?_ | with_reducible refine D_step ?_ | with_reducible refine RO.exit ?_ | with_reducible refine RO.ret ?_ | ((with_reducible refine And.intro ?sc ?_); case sc => exact side) | ((with_reducible refine br_f ?sc ?_); case sc => exact sideB) | ((with_reducible refine br_t ?sc ?_); case sc => exact sideB))
      intro es he
      obtain rfl : es = [((1, 0), .sl 3 0 0 4 4), ((2, 0), .sl 4 0 0 3 3), ((3, 0), .sl 5 0 0 0 0)] := he
      repeat ((conv => whnf); first | with_reducible refine O_step ?_ | with_reducible refine S_step ?_ | with_reducible refine D_step ?_ | with_reducible refine RO.exit ?_ | with_reducible refine RO.ret ?_ | ((with_reducible refine And.intro ?sc ?_); case sc => exact side) | ((with_reducible refine br_f ?sc ?_); case sc => exact sideB) | ((with_reducible refine br_t ?sc ?_); case sc => exact sideB))
      intro es he
      obtain rfl : es = [((1, 0), .sl 3 0 0 4 4), ((2, 0), .sl 4 0 0 3 3), ((3, 0), .sl 5 0 0 0 0), ((4, 0), .sl 6 0 0 4 4)] := he
      repeat ((conv => whnf); first | with_reducible refine O_step ?_ | with_reducible refine S_step ?_ | with_reducible refine D_step ?_ | with_reducible refine RO.exit ?_ | with_reducible refine RO.ret ?_ | ((with_reducible refine And.intro ?sc ?_); case sc => exact side) | ((with_reducible refine br_f ?sc ?_); case sc => exact sideB) | ((with_reducible refine br_t ?sc ?_); case sc => exact sideB))
      intro es he
      obtain rfl : es = [((1, 0), .sl 3 0 0 4 4), ((2, 0), .sl 4 0 0 3 3), ((3, 0), .sl 5 0 0 0 0), ((4, 0), .sl 6 0 0 4 4), ((5, 0), .sl 7 0 0 2 2)] := he
      repeat ((conv => whnf); first | with_reducible refine O_step ?_ | with_reducible refine S_step ?_ | with_reducible refine D_step ?_ | with_reducible refine RO.exit ?_ | with_reducible refine RO.ret ?_ | ((with_reducible refine And.intro ?sc ?_); case sc => exact side) | ((with_reducible refine br_f ?sc ?_); case sc => exact sideB) | ((with_reducible refine br_t ?sc ?_); case sc => exact sideB))
      intro es he
      obtain rfl : es = [((1, 0), .sl 3 0 0 4 4), ((2, 0), .sl 4 0 0 3 3), ((3, 0), .sl 5 0 0 0 0), ((4, 0), .sl 6 0 0 4 4), ((5, 0), .sl 7 0 0 2 2), ((6, 0), .sl 8 0 0 1 1)] := he
      repeat ((conv => whnf); first | with_reducible refine O_step ?_ | with_reducible refine S_step ?_ | with_reducible refine D_step ?_ | with_reducible refine RO.exit ?_ | with_reducible refine RO.ret ?_ | ((with_reducible refine And.intro ?sc ?_); case sc => exact side) | ((with_reducible refine br_f ?sc ?_); case sc => exact sideB) | ((with_reducible refine br_t ?sc ?_); case sc => exact sideB))
      refine And.intro (fun v hv => ?_) (fun hn => ?_)
      · have hz : AV.sl 3 0 0 4 4 = v := Option.some.inj hv
        clear hv
        subst hz
        repeat ((conv => whnf); first | with_reducible refine O_step ?_ | with_reducible refine S_step ?_ | with_reducible refine D_step ?_ | with_reducible refine RO.exit ?_ | with_reducible refine RO.ret ?_ | ((with_reducible refine And.intro ?sc ?_); case sc => exact side))
        refine Exists.intro _ (And.intro ?_ (And.intro ?_ (And.intro ?_ h)))
        · exact And.intro rfl (And.intro rfl (And.intro trivial (And.intro rfl (And.intro trivial (And.intro trivial (And.intro trivial (And.intro trivial (And.intro trivial (trivial)))))))))
        · exact (And.intro (by simp [AO.nb, Cont.nb, AV.nbl, AV.nb, h0, h1, h2, hR]) ⟨trivial, trivial, rfl, trivial, trivial, trivial, trivial, trivial, trivial⟩)
        · rfl
      · have hz : some (AV.sl 3 0 0 4 4) = none := hn
        cases hz
    · skip
      refine CallA.post_sub ?_
      refine step19 (fun _ => [0]) [] rfl ?_
      repeat ((conv => whnf); first | with_reducible refine O_step ?_ | with_reducible refine S_step ?_ | with_reducible refine D_step ?_ | with_reducible refine RO.exit ?_ | with_reducible refine RO.ret ?_ | ((with_reducible refine And.intro ?sc ?_); case sc => exact side) | ((with_reducible refine br_f ?sc ?_); case sc => exact sideB) | ((with_reducible refine br_t ?sc ?_); case sc => exact sideB))
      intro es he
      obtain rfl : es = [((1, 0), .sl 3 0 0 4 4)] := he
      repeat ((conv => whnf); first | with_reducible refine O_step ?_ | with_reducible refine S_step ?_ | with_reducible refine D_step ?_ | with_reducible refine RO.exit ?_ | with_reducible refine RO.ret ?_ | ((with_reducible refine And.intro ?sc ?_); case sc => exact side) | ((with_reducible refine br_f ?sc ?_); case sc => exact sideB) | ((with_reducible refine br_t ?sc ?_); case sc => exact sideB))
      intro es he
      obtain rfl : es = [((1, 0), .sl 3 0 0 4 4), ((2, 0), .sl 4 0 0 3 3)] := he
      repeat ((conv => whnf); first | with_reducible refine O_step ?_ | with_reducible refine S_step ?_ | with_reducible refine D_step ?_ | with_reducible refine RO.exit ?_ | with_reducible refine RO.ret ?_ | ((with_reducible refine And.intro ?sc ?_); case sc => exact side) | ((with_reducible refine br_f ?sc ?_); case sc => exact sideB) | ((with_reducible refine br_t ?sc ?_); case sc => exact sideB))
      intro es he
      obtain rfl : es = [((1, 0), .sl 3 0 0 4 4), ((2, 0), .sl 4 0 0 3 3), ((3, 0), .sl 5 0 0 0 0)] := he
      repeat ((conv => whnf); first | with_reducible refine O_step ?_ | with_reducible refine S_step ?_ | with_reducible refine D_step ?_ | with_reducible refine RO.exit ?_ | with_reducible refine RO.ret ?_ | ((with_reducible refine And.intro ?sc ?_); case sc => exact side) | ((with_reducible refine br_f ?sc ?_); case sc => exact sideB) | ((with_reducible refine br_t ?sc ?_); case sc => exact sideB))
      intro es he
      obtain rfl : es = [((1, 0), .sl 3 0 0 4 4), ((2, 0), .sl 4 0 0 3 3), ((3, 0), .sl 5 0 0 0 0), ((4, 0), .sl 6 0 0 4 4)] := he
      repeat ((conv => whnf); first | with_reducible refine O_step ?_ | with_reducible refine S_step ?_ | with_reducible refine D_step ?_ | with_reducible refine RO.exit ?_ | with_reducible refine RO.ret ?_ | ((with_reducible refine And.intro ?sc ?_); case sc => exact side) | ((with_reducible refine br_f ?sc ?_); case sc => exact sideB) | ((with_reducible refine br_t ?sc ?_); case sc => exact sideB))
      intro es he
      obtain rfl : es = [((1, 0), .sl 3 0 0 4 4), ((2, 0), .sl 4 0 0 3 3), ((3, 0), .sl 5 0 0 0 0), ((4, 0), .sl 6 0 0 4 4), ((5, 0), .sl 7 0 0 2 2)] := he
      repeat ((conv => whnf); first | with_reducible refine O_step ?_ | with_reducible refine S_step ?_ | with_reducible refine D_step ?_ | with_reducible refine RO.exit ?_ | with_reducible refine RO.ret ?_ | ((with_reducible refine And.intro ?sc ?_); case sc => exact side) | ((with_reducible refine br_f ?sc ?_); case sc => exact sideB) | ((with_reducible refine br_t ?sc ?_); case sc => exact sideB))
      intro es he
      obtain rfl : es = [((1, 0), .sl 3 0 0 4 4), ((2, 0), .sl 4 0 0 3 3), ((3, 0), .sl 5 0 0 0 0), ((4, 0), .sl 6 0 0 4 4), ((5, 0), .sl 7 0 0 2 2), ((6, 0), .sl 8 0 0 1 1)] := he
      repeat ((conv => whnf); first | with_reducible refine O_step ?_ | with_reducible refine S_step ?_ | with_reducible refine D_step ?_ | with_reducible refine RO.exit ?_ | with_reducible refine RO.ret ?_ | ((with_reducible refine And.intro ?sc ?_); case sc => exact side) | ((with_reducible refine br_f ?sc ?_); case sc => exact sideB) | ((with_reducible refine br_t ?sc ?_); case sc => exact sideB))
      refine And.intro (fun v hv => ?_) (fun hn => ?_)
      · have hz : AV.sl 4 0 0 3 3 = v := Option.some.inj hv
        clear hv
        subst hz
        repeat ((conv => whnf); first | with_reducible refine O_step ?_ | with_reducible refine S_step ?_ | with_reducible refine D_step ?_ | with_reducible refine RO.exit ?_ | with_reducible refine RO.ret ?_ | ((with_reducible refine And.intro ?sc ?_); case sc => exact side))
        refine Exists.intro _ (And.intro ?_ (And.intro ?_ (And.intro ?_ h)))
        · exact And.intro rfl (And.intro rfl (And.intro trivial (And.intro trivial (And.intro rfl (And.intro trivial (And.intro trivial (And.intro trivial (And.intro trivial (trivial)))))))))
        · exact (And.intro (by simp [AO.nb, Cont.nb, AV.nbl, AV.nb, h0, h1, h2, hR]) ⟨trivial, trivial, trivial, rfl, trivial, trivial, trivial, trivial, trivial⟩)
        · rfl
      · have hz : some (AV.sl 4 0 0 3 3) = none := hn
        cases hz
    · skip
      refine CallA.post_sub ?_
      refine step19 (fun _ => [0]) [] rfl ?_
      repeat ((conv => whnf); first | with_reducible refine O_step ?_ | with_reducible refine S_step ?_ | with_reducible refine D_step ?_ | with_reducible refine RO.exit ?_ | with_reducible refine RO.ret ?_ | ((with_reducible refine And.intro ?sc ?_); case sc => exact side) | ((with_reducible refine br_f ?sc ?_); case sc => exact sideB) | ((with_reducible refine br_t ?sc ?_); case sc => exact sideB))
      intro es he
      obtain rfl : es = [((1, 0), .sl 3 0 0 4 4)] := he
      repeat ((conv => whnf); first | with_reducible refine O_step ?_ | with_reducible refine S_step ?_ | with_reducible refine D_step ?_ | with_reducible refine RO.exit ?_ | with_reducible refine RO.ret ?_ | ((with_reducible refine And.intro ?sc ?_); case sc => exact side) | ((with_reducible refine br_f ?sc ?_); case sc => exact sideB) | ((with_reducible refine br_t ?sc ?_); case sc => exact sideB))
      intro es he
      obtain rfl : es = [((1, 0), .sl 3 0 0 4 4), ((2, 0), .sl 4 0 0 3 3)] := he
      repeat ((conv => whnf); first | with_reducible refine O_step ?_ | with_reducible refine S_step ?_ | with_reducible refine D_step ?_ | with_reducible refine RO.exit ?_ | with_reducible refine RO.ret ?_ | ((with_reducible refine And.intro ?sc ?_); case sc => exact side) | ((with_reducible refine br_f ?sc ?_); case sc => exact sideB) | ((with_reducible refine br_t ?sc ?_); case sc => exact sideB))
      intro es he
      obtain rfl : es = [((1, 0), .sl 3 0 0 4 4), ((2, 0), .sl 4 0 0 3 3), ((3, 0), .sl 5 0 0 0 0)] := he
      repeat ((conv => whnf); first | with_reducible refine O_step ?_ | with_reducible refine S_step ?_ | with_reducible refine D_step ?_ | with_reducible refine RO.exit ?_ | with_reducible refine RO.ret ?_ | ((with_reducible refine And.intro ?sc ?_); case sc => exact side) | ((with_reducible refine br_f ?sc ?_); case sc => exact sideB) | ((with_reducible refine br_t ?sc ?_); case sc => exact sideB))
      intro es he
      obtain rfl : es = [((1, 0), .sl 3 0 0 4 4), ((2, 0), .sl 4 0 0 3 3), ((3, 0), .sl 5 0 0 0 0), ((4, 0), .sl 6 0 0 4 4)] := he
      repeat ((conv => whnf); first | with_reducible refine O_step ?_ | with_reducible refine S_step ?_ | with_reducible refine D_step ?_ | with_reducible refine RO.exit ?_ | with_reducible refine RO.ret ?_ | ((with_reducible refine And.intro ?sc ?_); case sc => exact side) | ((with_reducible refine br_f ?sc ?_); case sc => exact sideB) | ((with_reducible refine br_t ?sc ?_); case sc => exact sideB))
      intro es he
      obtain rfl : es = [((1, 0), .sl 3 0 0 4 4), ((2, 0), .sl 4 0 0 3 3), ((3, 0), .sl 5 0 0 0 0), ((4, 0), .sl 6 0 0 4 4), ((5, 0), .sl 7 0 0 2 2)] := he
      repeat ((conv => whnf); first | with_reducible refine O_step ?_ | with_reducible refine S_step ?_ | with_reducible refine D_step ?_ | with_reducible refine RO.exit ?_ | with_reducible refine RO.ret ?_ | ((with_reducible refine And.intro ?sc ?_); case sc => exact side) | ((with_reducible refine br_f ?sc ?_); case sc => exact sideB) | ((with_reducible refine br_t ?sc ?_); case sc => exact sideB))
      intro es he
      obtain rfl : es = [((1, 0), .sl 3 0 0 4 4), ((2, 0), .sl 4 0 0 3 3), ((3, 0), .sl 5 0 0 0 0), ((4, 0), .sl 6 0 0 4 4), ((5, 0), .sl 7 0 0 2 2), ((6, 0), .sl 8 0 0 1 1)] := he
      repeat ((conv => whnf); first | with_reducible refine O_step ?_ | with_reducible refine S_step ?_ | with_reducible refine D_step ?_ | with_reducible refine RO.exit ?_ | with_reducible refine RO.ret ?_ | ((with_reducible refine And.intro ?sc ?_); case sc => exact side) | ((with_reducible refine br_f ?sc ?_); case sc => exact sideB) | ((with_reducible refine br_t ?sc ?_); case sc => exact sideB))
      refine And.intro (fun v hv => ?_) (fun hn => ?_)
      · have hz : AV.sl 5 0 0 0 0 = v := Option.some.inj hv
        clear hv
        subst hz
        repeat ((conv => whnf); first | with_reducible refine O_step ?_ | with_reducible refine S_step ?_ | with_reducible refine D_step ?_ | with_reducible refine RO.exit ?_ | with_reducible refine RO.ret ?_ | ((with_reducible refine And.intro ?sc ?_); case sc => exact side))
        refine Exists.intro _ (And.intro ?_ (And.intro ?_ (And.intro ?_ h)))
        · exact And.intro rfl (And.intro rfl (And.intro trivial (And.intro trivial (And.intro trivial (And.intro rfl (And.intro trivial (And.intro trivial (And.intro trivial (trivial)))))))))
        · exact (And.intro (by simp [AO.nb, Cont.nb, AV.nbl, AV.nb, h0, h1, h2, hR]) ⟨trivial, trivial, trivial, trivial, rfl, trivial, trivial, trivial, trivial⟩)
        · rfl
      · have hz : some (AV.sl 5 0 0 0 0) = none := hn
        cases hz
    · skip
      refine CallA.post_sub ?_
      refine step19 (fun _ => [0]) [] rfl ?_
      repeat ((conv => whnf); first | with_reducible refine O_step ?_ | with_reducible refine S_step ?_ | with_reducible refine D_step ?_ | with_reducible refine RO.exit ?_ | with_reducible refine RO.ret ?_ | ((with_reducible refine And.intro ?sc ?_); case sc => exact side) | ((with_reducible refine br_f ?sc ?_); case sc => exact sideB) | ((with_reducible refine br_t ?sc ?_); case sc => exact sideB))
      intro es he
      obtain rfl : es = [((1, 0), .sl 3 0 0 4 4)] := he
      repeat ((conv => whnf); first | with_reducible refine O_step ?_ | with_reducible refine S_step ?_ | with_reducible refine D_step ?_ | with_reducible refine RO.exit ?_ | with_reducible refine RO.ret ?_ | ((with_reducible refine And.intro ?sc ?_); case sc => exact side) | ((with_reducible refine br_f ?sc ?_); case sc => exact sideB) | ((with_reducible refine br_t ?sc ?_); case sc => exact sideB))
      intro es he
      obtain rfl : es = [((1, 0), .sl 3 0 0 4 4), ((2, 0), .sl 4 0 0 3 3)] := he
      repeat ((conv => whnf); first | with_reducible refine O_step ?_ | with_reducible refine S_step ?_ | with_reducible refine D_step ?_ | with_reducible refine RO.exit ?_ | with_reducible refine RO.ret ?_ | ((with_reducible refine And.intro ?sc ?_); case sc => exact side) | ((with_reducible refine br_f ?sc ?_); case sc => exact sideB) | ((with_reducible refine br_t ?sc ?_); case sc => exact sideB))
      intro es he
      obtain rfl : es = [((1, 0), .sl 3 0 0 4 4), ((2, 0), .sl 4 0 0 3 3), ((3, 0), .sl 5 0 0 0 0)] := he
      repeat ((conv => whnf); first | with_reducible refine O_step ?_ | with_reducible refine S_step ?_ | with_reducible refine D_step ?_ | with_reducible refine RO.exit ?_ | with_reducible refine RO.ret ?_ | ((with_reducible refine And.intro ?sc ?_); case sc => exact side) | ((with_reducible refine br_f ?sc ?_); case sc => exact sideB) | ((with_reducible refine br_t ?sc ?_); case sc => exact sideB))
      intro es he
      obtain rfl : es = [((1, 0), .sl 3 0 0 4 4), ((2, 0), .sl 4 0 0 3 3), ((3, 0), .sl 5 0 0 0 0), ((4, 0), .sl 6 0 0 4 4)] := he
      repeat ((conv => whnf); first | with_reducible refine O_step ?_ | with_reducible refine S_step ?_ | with_reducible refine D_step ?_ | with_reducible refine RO.exit ?_ | with_reducible refine RO.ret ?_ | ((with_reducible refine And.intro ?sc ?_); case sc => exact side) | ((with_reducible refine br_f ?sc ?_); case sc => exact sideB) | ((with_reducible refine br_t ?sc ?_); case sc => exact sideB))
      intro es he
      obtain rfl : es = [((1, 0), .sl 3 0 0 4 4), ((2, 0), .sl 4 0 0 3 3), ((3, 0), .sl 5 0 0 0 0), ((4, 0), .sl 6 0 0 4 4), ((5, 0), .sl 7 0 0 2 2)] := he
      repeat ((conv => whnf); first | with_reducible refine O_step ?_ | with_reducible refine S_step ?_ | with_reducible refine D_step ?_ | with_reducible refine RO.exit ?_ | with_reducible refine RO.ret ?_ | ((with_reducible refine And.intro ?sc ?_); case sc => exact side) | ((with_reducible refine br_f ?sc ?_); case sc => exact sideB) | ((with_reducible refine br_t ?sc ?_); case sc => exact sideB))
      intro es he
      obtain rfl : es = [((1, 0), .sl 3 0 0 4 4), ((2, 0), .sl 4 0 0 3 3), ((3, 0), .sl 5 0 0 0 0), ((4, 0), .sl 6 0 0 4 4), ((5, 0), .sl 7 0 0 2 2), ((6, 0), .sl 8 0 0 1 1)] := he
      repeat ((conv => whnf); first | with_reducible refine O_step ?_ | with_reducible refine S_step ?_ | with_reducible refine D_step ?_ | with_reducible refine RO.exit ?_ | with_reducible refine RO.ret ?_ | ((with_reducible refine And.intro ?sc ?_); case sc => exact side) | ((with_reducible refine br_f ?sc ?_); case sc => exact sideB) | ((with_reducible refine br_t ?sc ?_); case sc => exact sideB))
      refine And.intro (fun v hv => ?_) (fun hn => ?_)
      · have hz : AV.sl 6 0 0 4 4 = v := Option.some.inj hv
        clear hv
        subst hz
        repeat ((conv => whnf); first | with_reducible refine O_step ?_ | with_reducible refine S_step ?_ | with_reducible refine D_step ?_ | with_reducible refine RO.exit ?_ | with_reducible refine RO.ret ?_ | ((with_reducible refine And.intro ?sc ?_); case sc => exact side))
        refine Exists.intro _ (And.intro ?_ (And.intro ?_ (And.intro ?_ h)))
        · exact And.intro rfl (And.intro rfl (And.intro trivial (And.intro trivial (And.intro trivial (And.intro trivial (And.intro rfl (And.intro trivial (And.intro trivial (trivial)))))))))
        · exact (And.intro (by simp [AO.nb, Cont.nb, AV.nbl, AV.nb, h0, h1, h2, hR]) ⟨trivial, trivial, trivial, trivial, trivial, rfl, trivial, trivial, trivial⟩)
        · rfl
      · have hz : some (AV.sl 6 0 0 4 4) = none := hn
        cases hz
    · skip
      refine CallA.post_sub ?_
      refine step19 (fun _ => [0]) [] rfl ?_
      repeat ((conv => whnf); first | with_reducible refine O_step ?_ | with_reducible refine S_step ?_ | with_reducible refine D_step ?_ | with_reducible refine RO.exit ?_ | with_reducible refine RO.ret ?_ | ((with_reducible refine And.intro ?sc ?_); case sc => exact side) | ((with_reducible refine br_f ?sc ?_); case sc => exact sideB) | ((with_reducible refine br_t ?sc ?_); case sc => exact sideB))
      intro es he
      obtain rfl : es = [((1, 0), .sl 3 0 0 4 4)] := he
      repeat ((conv => whnf); first | with_reducible refine O_step ?_ | with_reducible refine S_step ?_ | with_reducible refine D_step ?_ | with_reducible refine RO.exit ?_ | with_reducible refine RO.ret ?_ | ((with_reducible refine And.intro ?sc ?_); case sc => exact side) | ((with_reducible refine br_f ?sc ?_); case sc => exact sideB) | ((with_reducible refine br_t ?sc ?_); case sc => exact sideB))
      intro es he
      obtain rfl : es = [((1, 0), .sl 3 0 0 4 4), ((2, 0), .sl 4 0 0 3 3)] := he
      repeat ((conv => whnf); first | with_reducible refine O_step ?_ | with_reducible refine S_step ?_ | with_reducible refine D_step ?_ | with_reducible refine RO.exit ?_ | with_reducible refine RO.ret ?_ | ((with_reducible refine And.intro ?sc ?_); case sc => exact side) | ((with_reducible refine br_f ?sc ?_); case sc => exact sideB) | ((with_reducible refine br_t ?sc ?_); case sc => exact sideB))
      intro es he
      obtain rfl : es = [((1, 0), .sl 3 0 0 4 4), ((2, 0), .sl 4 0 0 3 3), ((3, 0), .sl 5 0 0 0 0)] := he
      repeat ((conv => whnf); first | with_reducible refine O_step ?_ | with_reducible refine S_step ?_ | with_reducible refine D_step ?_ | with_reducible refine RO.exit ?_ | with_reducible refine RO.ret ?_ | ((with_reducible refine And.intro ?sc ?_); case sc => exact side) | ((with_reducible refine br_f ?sc ?_); case sc => exact sideB) | ((with_reducible refine br_t ?sc ?_); case sc => exact sideB))
      intro es he
      obtain rfl : es = [((1, 0), .sl 3 0 0 4 4), ((2, 0), .sl 4 0 0 3 3), ((3, 0), .sl 5 0 0 0 0), ((4, 0), .sl 6 0 0 4 4)] := he
      repeat ((conv => whnf); first | with_reducible refine O_step ?_ | with_reducible refine S_step ?_ | with_reducible refine D_step ?_ | with_reducible refine RO.exit ?_ | with_reducible refine RO.ret ?_ | ((with_reducible refine And.intro ?sc ?_); case sc => exact side) | ((with_reducible refine br_f ?sc ?_); case sc => exact sideB) | ((with_reducible refine br_t ?sc ?_); case sc => exact sideB))
      intro es he
      obtain rfl : es = [((1, 0), .sl 3 0 0 4 4), ((2, 0), .sl 4 0 0 3 3), ((3, 0), .sl 5 0 0 0 0), ((4, 0), .sl 6 0 0 4 4), ((5, 0), .sl 7 0 0 2 2)] := he
      repeat ((conv => whnf); first | with_reducible refine O_step ?_ | with_reducible refine S_step ?_ | with_reducible refine D_step ?_ | with_reducible refine RO.exit ?_ | with_reducible refine RO.ret ?_ | ((with_reducible refine And.intro ?sc ?_); case sc => exact side) | ((with_reducible refine br_f ?sc ?_); case sc => exact sideB) | ((with_reducible refine br_t ?sc ?_); case sc => exact sideB))
      intro es he
      obtain rfl : es = [((1, 0), .sl 3 0 0 4 4), ((2, 0), .sl 4 0 0 3 3), ((3, 0), .sl 5 0 0 0 0), ((4, 0), .sl 6 0 0 4 4), ((5, 0), .sl 7 0 0 2 2), ((6, 0), .sl 8 0 0 1 1)] := he
      repeat ((conv => whnf); first | with_reducible refine O_step ?_ | with_reducible refine S_step ?_ | with_reducible refine D_step ?_ | with_reducible refine RO.exit ?_ | with_reducible refine RO.ret ?_ | ((with_reducible refine And.intro ?sc ?_); case sc => exact side) | ((with_reducible refine br_f ?sc ?_); case sc => exact sideB) | ((with_reducible refine br_t ?sc ?_); case sc => exact sideB))
      refine And.intro (fun v hv => ?_) (fun hn => ?_)
      · have hz : AV.sl 7 0 0 2 2 = v := Option.some.inj hv
        clear hv
        subst hz
        repeat ((conv => whnf); first | with_reducible refine O_step ?_ | with_reducible refine S_step ?_ | with_reducible refine D_step ?_ | with_reducible refine RO.exit ?_ | with_reducible refine RO.ret ?_ | ((with_reducible refine And.intro ?sc ?_); case sc => exact side))
        refine Exists.intro _ (And.intro ?_ (And.intro ?_ (And.intro ?_ h)))
        · exact And.intro rfl (And.intro rfl (And.intro trivial (And.intro trivial (And.intro trivial (And.intro trivial (And.intro trivial (And.intro rfl (And.intro trivial (trivial)))))))))
        · exact (And.intro (by simp [AO.nb, Cont.nb, AV.nbl, AV.nb, h0, h1, h2, hR]) ⟨trivial, trivial, trivial, trivial, trivial, trivial, rfl, trivial, trivial⟩)
        · rfl
      · have hz : some (AV.sl 7 0 0 2 2) = none := hn
        cases hz
    · skip
      refine CallA.post_sub ?_
      refine step19 (fun _ => [0]) [] rfl ?_
      repeat ((conv => whnf); first | with_reducible refine O_step ?_ | with_reducible refine S_step ?_ | with_reducible refine D_step ?_ | with_reducible refine RO.exit ?_ | with_reducible refine RO.ret ?_ | ((with_reducible refine And.intro ?sc ?_); case sc => exact side) | ((with_reducible refine br_f ?sc ?_); case sc => exact sideB) | ((with_reducible refine br_t ?sc ?_); case sc => exact sideB))
      intro es he
      obtain rfl : es = [((1, 0), .sl 3 0 0 4 4)] := he
      repeat ((conv => whnf); first | with_reducible refine O_step ?_ | with_reducible refine S_step ?_ | with_reducible refine D_step ?_ | with_reducible refine RO.exit ?_ | with_reducible refine RO.ret ?_ | ((with_reducible refine And.intro ?sc ?_); case sc => exact side) | ((with_reducible refine br_f ?sc ?_); case sc => exact sideB) | ((with_reducible refine br_t ?sc ?_); case sc => exact sideB))
      intro es he
      obtain rfl : es = [((1, 0), .sl 3 0 0 4 4), ((2, 0), .sl 4 0 0 3 3)] := he
      repeat ((conv => whnf); first | with_reducible refine O_step ?_ | with_reducible refine S_step ?_ | with_reducible refine D_step ?_ | with_reducible refine RO.exit ?_ | with_reducible refine RO.ret ?_ | ((with_reducible refine And.intro ?sc ?_); case sc => exact side) | ((with_reducible refine br_f ?sc ?_); case sc => exact sideB) | ((with_reducible refine br_t ?sc ?_); case sc => exact sideB))
      intro es he
      obtain rfl : es = [((1, 0), .sl 3 0 0 4 4), ((2, 0), .sl 4 0 0 3 3), ((3, 0), .sl 5 0 0 0 0)] := he
      repeat ((conv => whnf); first | with_reducible refine O_step ?_ | with_reducible refine S_step ?_ | with_reducible refine D_step ?_ | with_reducible refine RO.exit ?_ | with_reducible refine RO.ret ?_ | ((with_reducible refine And.intro ?sc ?_); case sc => exact side) | ((with_reducible refine br_f ?sc ?_); case sc => exact sideB) | ((with_reducible refine br_t ?sc ?_); case sc => exact sideB))
      intro es he
      obtain rfl : es = [((1, 0), .sl 3 0 0 4 4), ((2, 0), .sl 4 0 0 3 3), ((3, 0), .sl 5 0 0 0 0), ((4, 0), .sl 6 0 0 4 4)] := he
      repeat ((conv => whnf); first | with_reducible refine O_step ?_ | with_reducible refine S_step ?_ | with_reducible refine D_step ?_ | with_reducible refine RO.exit ?_ | with_reducible refine RO.ret ?_ | ((with_reducible refine And.intro ?sc ?_); case sc => exact side) | ((with_reducible refine br_f ?sc ?_); case sc => exact sideB) | ((with_reducible refine br_t ?sc ?_); case sc => exact sideB))
      intro es he
      obtain rfl : es = [((1, 0), .sl 3 0 0 4 4), ((2, 0), .sl 4 0 0 3 3), ((3, 0), .sl 5 0 0 0 0), ((4, 0), .sl 6 0 0 4 4), ((5, 0), .sl 7 0 0 2 2)] := he
      repeat ((conv => whnf); first | with_reducible refine O_step ?_ | with_reducible refine S_step ?_ | with_reducible refine D_step ?_ | with_reducible refine RO.exit ?_ | with_reducible refine RO.ret ?_ | ((with_reducible refine And.intro ?sc ?_); case sc => exact side) | ((with_reducible refine br_f ?sc ?_); case sc => exact sideB) | ((with_reducible refine br_t ?sc ?_); case sc => exact sideB))
      intro es he
      obtain rfl : es = [((1, 0), .sl 3 0 0 4 4), ((2, 0), .sl 4 0 0 3 3), ((3, 0), .sl 5 0 0 0 0), ((4, 0), .sl 6 0 0 4 4), ((5, 0), .sl 7 0 0 2 2), ((6, 0), .sl 8 0 0 1 1)] := he
      repeat ((conv => whnf); first | with_reducible refine O_step ?_ | with_reducible refine S_step ?_ | with_reducible refine D_step ?_ | with_reducible refine RO.exit ?_ | with_reducible refine RO.ret ?_ | ((with_reducible refine And.intro ?sc ?_); case sc => exact side) | ((with_reducible refine br_f ?sc ?_); case sc => exact sideB) | ((with_reducible refine br_t ?sc ?_); case sc => exact sideB))
      refine And.intro (fun v hv => ?_) (fun hn => ?_)
      · have hz : AV.sl 8 0 0 1 1 = v := Option.some.inj hv
        clear hv
        subst hz
        repeat ((conv => whnf); first | with_reducible refine O_step ?_ | with_reducible refine S_step ?_ | with_reducible refine D_step ?_ | with_reducible refine RO.exit ?_ | with_reducible refine RO.ret ?_ | ((with_reducible refine And.intro ?sc ?_); case sc => exact side))
        refine Exists.intro _ (And.intro ?_ (And.intro ?_ (And.intro ?_ h)))
        · exact And.intro rfl (And.intro rfl (And.intro trivial (And.intro trivial (And.intro trivial (And.intro trivial (And.intro trivial (And.intro trivial (And.intro rfl (trivial)))))))))
        · exact (And.intro (by simp [AO.nb, Cont.nb, AV.nbl, AV.nb, h0, h1, h2, hR]) ⟨trivial, trivial, trivial, trivial, trivial, trivial, trivial, rfl, trivial⟩)
        · rfl
      · have hz : some (AV.sl 8 0 0 1 1) = none := hn
        cases hz
  · skip
    refine CallA.post_sub ?_
    refine step19 (fun _ => [0]) [] rfl ?_
    repeat ((conv => whnf); first | with_reducible refine O_step ?_ | with_reducible refine S_step ?_ | with_reducible refine D_step ?_ | with_reducible refine RO.exit ?_ | with_reducible refine RO.ret ?_ | ((with_reducible refine And.intro ?sc ?_); case sc => exact side) | ((with_reducible refine br_f ?sc ?_); case sc => exact sideB) | ((with_reducible refine br_t ?sc ?_); case sc => exact sideB))
    intro es he
    obtain rfl : es = [((1, 0), .sl 3 0 0 4 4)] := he
    repeat ((conv => whnf); first | with_reducible refine O_step ?_ | with_reducible refine S_step ?_ | with_reducible refine D_step ?_ | with_reducible refine RO.exit ?_ | with_reducible refine RO.ret ?_ | ((with_reducible refine And.intro ?sc ?_); case sc => exact side) | ((with_reducible refine br_f ?sc ?_); case sc => exact sideB) | ((with_reducible refine br_t ?sc ?_); case sc => exact sideB))
    intro es he
    obtain rfl : es = [((1, 0), .sl 3 0 0 4 4), ((2, 0), .sl 4 0 0 3 3)] := he
    repeat ((conv => whnf); first | with_reducible refine O_step ?_ | with_reducible refine S_step ?_ | with_reducible refine D_step ?_ | with_reducible refine RO.exit ?_ | with_reducible refine RO.ret ?_ | ((with_reducible refine And.intro ?sc ?_); case sc => exact side) | ((with_reducible refine br_f ?sc ?_); case sc => exact sideB) | ((with_reducible refine br_t ?sc ?_); case sc => exact sideB))
    intro es he
    obtain rfl : es = [((1, 0), .sl 3 0 0 4 4), ((2, 0), .sl 4 0 0 3 3), ((3, 0), .sl 5 0 0 0 0)] := he
    repeat ((conv => whnf); first | with_reducible refine O_step ?_ | with_reducible refine S_step ?_ | with_reducible refine D_step ?_ | with_reducible refine RO.exit ?_ | with_reducible refine RO.ret ?_ | ((with_reducible refine And.intro ?sc ?_); case sc => exact side) | ((with_reducible refine br_f ?sc ?_); case sc => exact sideB) | ((with_reducible refine br_t ?sc ?_); case sc => exact sideB))
    intro es he
    obtain rfl : es = [((1, 0), .sl 3 0 0 4 4), ((2, 0), .sl 4 0 0 3 3), ((3, 0), .sl 5 0 0 0 0), ((4, 0), .sl 6 0 0 4 4)] := he
    repeat ((conv => whnf); first | with_reducible refine O_step ?_ | with_reducible refine S_step ?_ | with_reducible refine D_step ?_ | with_reducible refine RO.exit ?_ | with_reducible refine RO.ret ?_ | ((with_reducible refine And.intro ?sc ?_); case sc => exact side) | ((with_reducible refine br_f ?sc ?_); case sc => exact sideB) | ((with_reducible refine br_t ?sc ?_); case sc => exact sideB))
    intro es he
    obtain rfl : es = [((1, 0), .sl 3 0 0 4 4), ((2, 0), .sl 4 0 0 3 3), ((3, 0), .sl 5 0 0 0 0), ((4, 0), .sl 6 0 0 4 4), ((5, 0), .sl 7 0 0 2 2)] := he
    repeat ((conv => whnf); first | with_reducible refine O_step ?_ | with_reducible refine S_step ?_ | with_reducible refine D_step ?_ | with_reducible refine RO.exit ?_ | with_reducible refine RO.ret ?_ | ((with_reducible refine And.intro ?sc ?_); case sc => exact side) | ((with_reducible refine br_f ?sc ?_); case sc => exact sideB) | ((with_reducible refine br_t ?sc ?_); case sc => exact sideB))
    intro es he
    obtain rfl : es = [((1, 0), .sl 3 0 0 4 4), ((2, 0), .sl 4 0 0 3 3), ((3, 0), .sl 5 0 0 0 0), ((4, 0), .sl 6 0 0 4 4), ((5, 0), .sl 7 0 0 2 2), ((6, 0), .sl 8 0 0 1 1)] := he
    repeat ((conv => whnf); first | with_reducible refine O_step ?_ | with_reducible refine S_step ?_ | with_reducible refine D_step ?_ | with_reducible refine RO.exit ?_ | with_reducible refine RO.ret ?_ | ((with_reducible refine And.intro ?sc ?_); case sc => exact side) | ((with_reducible refine br_f ?sc ?_); case sc => exact sideB) | ((with_reducible refine br_t ?sc ?_); case sc => exact sideB))
    have hf : findM (ty, 0) [((1, 0), AV.sl 3 0 0 4 4), ((2, 0), AV.sl 4 0 0 3 3), ((3, 0), AV.sl 5 0 0 0 0), ((4, 0), AV.sl 6 0 0 4 4), ((5, 0), AV.sl 7 0 0 2 2), ((6, 0), AV.sl 8 0 0 1 1)] = none := by
      simp only [findM, Prod.mk.injEq, and_true]
      rw [if_neg (by omega), if_neg (by omega), if_neg (by omega), if_neg (by omega), if_neg (by omega), if_neg (by omega)]
    refine And.intro (fun v hv => ?_) (fun _ => ?_)
    · have hz : findM (ty, 0) [((1, 0), AV.sl 3 0 0 4 4), ((2, 0), AV.sl 4 0 0 3 3), ((3, 0), AV.sl 5 0 0 0 0), ((4, 0), AV.sl 6 0 0 4 4), ((5, 0), AV.sl 7 0 0 2 2), ((6, 0), AV.sl 8 0 0 1 1)] = some v := hv
      rw [hf] at hz
      cases hz
    · repeat ((conv => whnf); first | with_reducible refine O_step ?_ | with_reducible refine S_step ?_ | with_reducible refine D_step ?_ | with_reducible refine RO.exit ?_ | with_reducible refine RO.ret ?_ | ((with_reducible refine And.intro ?sc ?_); case sc => exact side))
      refine Exists.intro _ (And.intro ?_ (And.intro ?_ (And.intro ?_ (hn hy))))
      · exact And.intro rfl (And.intro rfl (And.intro trivial (And.intro trivial (And.intro trivial (And.intro trivial (And.intro trivial (And.intro trivial (And.intro trivial (trivial)))))))))
      · exact (And.intro (by simp [AO.nb, Cont.nb, AV.nbl, AV.nb, h0, h1, h2, hR]) ⟨trivial, trivial, trivial, trivial, trivial, trivial, trivial, trivial, trivial⟩)
      · rfl
theorem fieldsW1 {a0 a1 a2 : AV} {ty : Int} {R : List AV} {g cb gs cS cB : Nat} {b S B : List Int} {K Kp : AV → AH → Prop} (e : ty = 1) (h0 : a0.nb 11 = true) (h1 : a1.nb 11 = true) (h2 : a2.nb 11 = true) (hR : AV.nbl 11 R = true)
    (h : K (.sl 5 0 0 4 4) [.one true 0 (.cells (a0 :: a1 :: a2 :: .int .u8 ty :: R)), .one true g (.ints .u8 b cb), .one true gs (.ints .u32 S cS), .one false 0 (.ints .u8 B cB), .gone, .one true 0 (.cells [mth 28, mth 29, mth 30, mth 31]), .gone, .gone, .gone, .gone, .gone]) : CallA Try.prog 19 [.ptr 0 0 0] [.one true 0 (.cells (a0 :: a1 :: a2 :: .int .u8 ty :: R)), .one true g (.ints .u8 b cb), .one true gs (.ints .u32 S cS), .one false 0 (.ints .u8 B cB)] K Kp := by
  subst e
  exact fieldsW_call (by decide) h0 h1 h2 hR (fun hx => absurd (by decide) hx) (fun _ => h)
theorem fieldsW2 {a0 a1 a2 : AV} {ty : Int} {R : List AV} {g cb gs cS cB : Nat} {b S B : List Int} {K Kp : AV → AH → Prop} (e : ty = 2) (h0 : a0.nb 11 = true) (h1 : a1.nb 11 = true) (h2 : a2.nb 11 = true) (hR : AV.nbl 11 R = true)
    (h : K (.sl 6 0 0 3 3) [.one true 0 (.cells (a0 :: a1 :: a2 :: .int .u8 ty :: R)), .one true g (.ints .u8 b cb), .one true gs (.ints .u32 S cS), .one false 0 (.ints .u8 B cB), .gone, .gone, .one true 0 (.cells [mth 28, mth 32, mth 33]), .gone, .gone, .gone, .gone]) : CallA Try.prog 19 [.ptr 0 0 0] [.one true 0 (.cells (a0 :: a1 :: a2 :: .int .u8 ty :: R)), .one true g (.ints .u8 b cb), .one true gs (.ints .u32 S cS), .one false 0 (.ints .u8 B cB)] K Kp := by
  subst e
  exact fieldsW_call (by decide) h0 h1 h2 hR (fun hx => absurd (by decide) hx) (fun _ => h)
theorem fieldsW3 {a0 a1 a2 : AV} {ty : Int} {R : List AV} {g cb gs cS cB : Nat} {b S B : List Int} {K Kp : AV → AH → Prop} (e : ty = 3) (h0 : a0.nb 11 = true) (h1 : a1.nb 11 = true) (h2 : a2.nb 11 = true) (hR : AV.nbl 11 R = true)
    (h : K (.sl 7 0 0 0 0) [.one true 0 (.cells (a0 :: a1 :: a2 :: .int .u8 ty :: R)), .one true g (.ints .u8 b cb), .one true gs (.ints .u32 S cS), .one false 0 (.ints .u8 B cB), .gone, .gone, .gone, .one true 0 (.cells []), .gone, .gone, .gone]) : CallA Try.prog 19 [.ptr 0 0 0] [.one true 0 (.cells (a0 :: a1 :: a2 :: .int .u8 ty :: R)), .one true g (.ints .u8 b cb), .one true gs (.ints .u32 S cS), .one false 0 (.ints .u8 B cB)] K Kp := by
  subst e
  exact fieldsW_call (by decide) h0 h1 h2 hR (fun hx => absurd (by decide) hx) (fun _ => h)
theorem fieldsW4 {a0 a1 a2 : AV} {ty : Int} {R : List AV} {g cb gs cS cB : Nat} {b S B : List Int} {K Kp : AV → AH → Prop} (e : ty = 4) (h0 : a0.nb 11 = true) (h1 : a1.nb 11 = true) (h2 : a2.nb 11 = true) (hR : AV.nbl 11 R = true)
    (h : K (.sl 8 0 0 4 4) [.one true 0 (.cells (a0 :: a1 :: a2 :: .int .u8 ty :: R)), .one true g (.ints .u8 b cb), .one true gs (.ints .u32 S cS), .one false 0 (.ints .u8 B cB), .gone, .gone, .gone, .gone, .one true 0 (.cells [mth 34, mth 30, mth 35, mth 36]), .gone, .gone]) : CallA Try.prog 19 [.ptr 0 0 0] [.one true 0 (.cells (a0 :: a1 :: a2 :: .int .u8 ty :: R)), .one true g (.ints .u8 b cb), .one true gs (.ints .u32 S cS), .one false 0 (.ints .u8 B cB)] K Kp := by
  subst e
  exact fieldsW_call (by decide) h0 h1 h2 hR (fun hx => absurd (by decide) hx) (fun _ => h)
theorem fieldsW5 {a0 a1 a2 : AV} {ty : Int} {R : List AV} {g cb gs cS cB : Nat} {b S B : List Int} {K Kp : AV → AH → Prop} (e : ty = 5) (h0 : a0.nb 11 = true) (h1 : a1.nb 11 = true) (h2 : a2.nb 11 = true) (hR : AV.nbl 11 R = true)
    (h : K (.sl 9 0 0 2 2) [.one true 0 (.cells (a0 :: a1 :: a2 :: .int .u8 ty :: R)), .one true g (.ints .u8 b cb), .one true gs (.ints .u32 S cS), .one false 0 (.ints .u8 B cB), .gone, .gone, .gone, .gone, .gone, .one true 0 (.cells [mth 33, mth 37]), .gone]) : CallA Try.prog 19 [.ptr 0 0 0] [.one true 0 (.cells (a0 :: a1 :: a2 :: .int .u8 ty :: R)), .one true g (.ints .u8 b cb), .one true gs (.ints .u32 S cS), .one false 0 (.ints .u8 B cB)] K Kp := by
  subst e
  exact fieldsW_call (by decide) h0 h1 h2 hR (fun hx => absurd (by decide) hx) (fun _ => h)
theorem fieldsW6 {a0 a1 a2 : AV} {ty : Int} {R : List AV} {g cb gs cS cB : Nat} {b S B : List Int} {K Kp : AV → AH → Prop} (e : ty = 6) (h0 : a0.nb 11 = true) (h1 : a1.nb 11 = true) (h2 : a2.nb 11 = true) (hR : AV.nbl 11 R = true)
    (h : K (.sl 10 0 0 1 1) [.one true 0 (.cells (a0 :: a1 :: a2 :: .int .u8 ty :: R)), .one true g (.ints .u8 b cb), .one true gs (.ints .u32 S cS), .one false 0 (.ints .u8 B cB), .gone, .gone, .gone, .gone, .gone, .gone, .one true 0 (.cells [mth 33])]) : CallA Try.prog 19 [.ptr 0 0 0] [.one true 0 (.cells (a0 :: a1 :: a2 :: .int .u8 ty :: R)), .one true g (.ints .u8 b cb), .one true gs (.ints .u32 S cS), .one false 0 (.ints .u8 B cB)] K Kp := by
  subst e
  exact fieldsW_call (by decide) h0 h1 h2 hR (fun hx => absurd (by decide) hx) (fun _ => h)
theorem fieldsR1 {a0 a1 a2 : AV} {ty : Int} {R : List AV} {X : List Int} {cX : Nat} {K Kp : AV → AH → Prop} (e : ty = 1) (h0 : a0.nb 9 = true) (h1 : a1.nb 9 = true) (h2 : a2.nb 9 = true) (hR : AV.nbl 9 R = true)
    (h : K (.sl 3 0 0 4 4) [.one true 0 (.cells (a0 :: a1 :: a2 :: .int .u8 ty :: R)), .one false 0 (.ints .u8 X cX), .gone, .one true 0 (.cells [mth 28, mth 29, mth 30, mth 31]), .gone, .gone, .gone, .gone, .gone]) : CallA Try.prog 19 [.ptr 0 0 0] [.one true 0 (.cells (a0 :: a1 :: a2 :: .int .u8 ty :: R)), .one false 0 (.ints .u8 X cX)] K Kp := by
  subst e
  exact fieldsR_call (by decide) h0 h1 h2 hR (fun hx => absurd (by decide) hx) (fun _ => h)
theorem fieldsR2 {a0 a1 a2 : AV} {ty : Int} {R : List AV} {X : List Int} {cX : Nat} {K Kp : AV → AH → Prop} (e : ty = 2) (h0 : a0.nb 9 = true) (h1 : a1.nb 9 = true) (h2 : a2.nb 9 = true) (hR : AV.nbl 9 R = true)
    (h : K (.sl 4 0 0 3 3) [.one true 0 (.cells (a0 :: a1 :: a2 :: .int .u8 ty :: R)), .one false 0 (.ints .u8 X cX), .gone, .gone, .one true 0 (.cells [mth 28, mth 32, mth 33]), .gone, .gone, .gone, .gone]) : CallA Try.prog 19 [.ptr 0 0 0] [.one true 0 (.cells (a0 :: a1 :: a2 :: .int .u8 ty :: R)), .one false 0 (.ints .u8 X cX)] K Kp := by
  subst e
  exact fieldsR_call (by decide) h0 h1 h2 hR (fun hx => absurd (by decide) hx) (fun _ => h)
theorem fieldsR3 {a0 a1 a2 : AV} {ty : Int} {R : List AV} {X : List Int} {cX : Nat} {K Kp : AV → AH → Prop} (e : ty = 3) (h0 : a0.nb 9 = true) (h1 : a1.nb 9 = true) (h2 : a2.nb 9 = true) (hR : AV.nbl 9 R = true)
    (h : K (.sl 5 0 0 0 0) [.one true 0 (.cells (a0 :: a1 :: a2 :: .int .u8 ty :: R)), .one false 0 (.ints .u8 X cX), .gone, .gone, .gone, .one true 0 (.cells []), .gone, .gone, .gone]) : CallA Try.prog 19 [.ptr 0 0 0] [.one true 0 (.cells (a0 :: a1 :: a2 :: .int .u8 ty :: R)), .one false 0 (.ints .u8 X cX)] K Kp := by
  subst e
  exact fieldsR_call (by decide) h0 h1 h2 hR (fun hx => absurd (by decide) hx) (fun _ => h)
theorem fieldsR4 {a0 a1 a2 : AV} {ty : Int} {R : List AV} {X : List Int} {cX : Nat} {K Kp : AV → AH → Prop} (e : ty = 4) (h0 : a0.nb 9 = true) (h1 : a1.nb 9 = true) (h2 : a2.nb 9 = true) (hR : AV.nbl 9 R = true)
    (h : K (.sl 6 0 0 4 4) [.one true 0 (.cells (a0 :: a1 :: a2 :: .int .u8 ty :: R)), .one false 0 (.ints .u8 X cX), .gone, .gone, .gone, .gone, .one true 0 (.cells [mth 34, mth 30, mth 35, mth 36]), .gone, .gone]) : CallA Try.prog 19 [.ptr 0 0 0] [.one true 0 (.cells (a0 :: a1 :: a2 :: .int .u8 ty :: R)), .one false 0 (.ints .u8 X cX)] K Kp := by
  subst e
  exact fieldsR_call (by decide) h0 h1 h2 hR (fun hx => absurd (by decide) hx) (fun _ => h)
theorem fieldsR5 {a0 a1 a2 : AV} {ty : Int} {R : List AV} {X : List Int} {cX : Nat} {K Kp : AV → AH → Prop} (e : ty = 5) (h0 : a0.nb 9 = true) (h1 : a1.nb 9 = true) (h2 : a2.nb 9 = true) (hR : AV.nbl 9 R = true)
    (h : K (.sl 7 0 0 2 2) [.one true 0 (.cells (a0 :: a1 :: a2 :: .int .u8 ty :: R)), .one false 0 (.ints .u8 X cX), .gone, .gone, .gone, .gone, .gone, .one true 0 (.cells [mth 33, mth 37]), .gone]) : CallA Try.prog 19 [.ptr 0 0 0] [.one true 0 (.cells (a0 :: a1 :: a2 :: .int .u8 ty :: R)), .one false 0 (.ints .u8 X cX)] K Kp := by
  subst e
  exact fieldsR_call (by decide) h0 h1 h2 hR (fun hx => absurd (by decide) hx) (fun _ => h)
theorem fieldsR6 {a0 a1 a2 : AV} {ty : Int} {R : List AV} {X : List Int} {cX : Nat} {K Kp : AV → AH → Prop} (e : ty = 6) (h0 : a0.nb 9 = true) (h1 : a1.nb 9 = true) (h2 : a2.nb 9 = true) (hR : AV.nbl 9 R = true)
    (h : K (.sl 8 0 0 1 1) [.one true 0 (.cells (a0 :: a1 :: a2 :: .int .u8 ty :: R)), .one false 0 (.ints .u8 X cX), .gone, .gone, .gone, .gone, .gone, .gone, .one true 0 (.cells [mth 33])]) : CallA Try.prog 19 [.ptr 0 0 0] [.one true 0 (.cells (a0 :: a1 :: a2 :: .int .u8 ty :: R)), .one false 0 (.ints .u8 X cX)] K Kp := by
  subst e
  exact fieldsR_call (by decide) h0 h1 h2 hR (fun hx => absurd (by decide) hx) (fun _ => h)
end Go.Proofs.Ytedlpkibdjccdaa
