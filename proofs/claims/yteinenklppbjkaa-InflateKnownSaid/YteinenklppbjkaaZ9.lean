/- Layer 8: Inflate. -/
import Derived.Test.YteinenklppbjkaaZ8

import Derived.Test.YteinenklppbjkaaAbE

set_option linter.unusedVariables false

set_option linter.unusedSimpArgs false

open Go.RowKit

namespace Go.Proofs.Yteinenklppbjkaa

set_option maxRecDepth 10000

def pFixed : DP Unit := pSyms (layM (allT fixA) []) (layM (allT fixB) []) FU
def pBlock (k : Int) : DP Unit := if k = 0 then pStored else if k = 1 then pFixed else if k = 2 then pDyn else .fail 80
/-- A stream. -/
def pInf : Nat → DP Unit
  | 0 => .fail 50
  | f + 1 => .get 1 fun last => .get 2 fun k => (pBlock k).bind fun _ => if last = 0 then pInf f else .ret ()
/-- More than a stream's blocks. -/
def FI : Nat := 8000001
section

variable {K Kp : AV → AH → Prop} {xs : List Int} {lim gb cb g c : Nat} {s : DS}

/-- Inflate's heap: the bytes, the three results, the bits' bytes, their reader, the reader, the kinds, what came. -/
def zI (co lim gb cb : Nat) (xs : List Int) (r1 r2 r3 : AV) (g c : Nat) (s : DS) : AH := [.one false 0 (.ints .u8 xs co), .one true 0 (.cells [r1]), .one true 0 (.cells [r2]), .one true 0 (.cells [r3]), rb gb cb xs, ro 4 gb cb xs s.a,
  .one true 0 (.cells [.ptr 5 0 0, .sl 8 g 0 s.out.length c, .int .i64 (lim : Int)]), .one true 0 (.cells [.fn (.func 15) [] [], .fn (.func 16) [] [], .fn (.func 17) [] [], .fn (.func 18) [] []]), .one true g (.ints .u8 s.out c)]
theorem clos_none {co : Nat} {r1 r2 r3 : AV} {KH : AH → Prop} (h : KH (zI co lim gb cb xs r1 r2 r3 g c s ++ [.one true 0 (.cells [.int .i64 0])])) : ClosA Try.prog 13 [.ptr 1 0 0, .ptr 2 0 0, .ptr 3 0 0] (zI co lim gb cb xs r1 r2 r3 g c s) none KH := by
  refine ClosA.intro (x := cx13 (fun _ => [9]) []) tb_ok mixed Try.func13 (rfl : Try.f13.body = _) (by kernel_rfl) rfl (by kernel_rfl) rfl rfl rfl rfl rfl ?_
  conv => whnf
  refine And.intro rfl ?_
  conv => whnf
  repeat ((conv => whnf); first | with_reducible refine O_step ?_ | with_reducible refine S_step ?_ | with_reducible refine D_step ?_ | with_reducible refine RO.exit ?_ | with_reducible refine RO.ret ?_ | ((with_reducible refine And.intro ?sc ?_); case sc => exact side) | ((with_reducible refine br_f ?sc ?_); case sc => exact sideB) | ((with_reducible refine br_t ?sc ?_); case sc => exact sideB))
  exact h
theorem clos_some {co : Nat} {r1 r2 r3 : AV} {e : Int} {KH : AH → Prop} (h : KH (zI co lim gb cb xs .ns (.int .i64 0) (.int .i64 e) g c s ++ [.one true 0 (.cells [.int .i64 e])])) : ClosA Try.prog 13 [.ptr 1 0 0, .ptr 2 0 0, .ptr 3 0 0] (zI co lim gb cb xs r1 r2 r3 g c s) (some (faultV e)) KH := by
  refine ClosA.intro (x := cx13 (fun _ => [9]) []) tb_ok mixed Try.func13 (rfl : Try.f13.body = _) (by kernel_rfl) rfl (by kernel_rfl) rfl rfl rfl rfl rfl ?_
  conv => whnf
  refine And.intro rfl ?_
  conv => whnf
  repeat ((conv => whnf); first | with_reducible refine O_step ?_ | with_reducible refine S_step ?_ | with_reducible refine D_step ?_ | with_reducible refine RO.exit ?_ | with_reducible refine RO.ret ?_ | ((with_reducible refine And.intro ?sc ?_); case sc => exact side) | ((with_reducible refine br_f ?sc ?_); case sc => exact sideB) | ((with_reducible refine br_t ?sc ?_); case sc => exact sideB))
  exact h
theorem zI_at {f : Nat} {args argsC : List AV} {co : Nat} {r1 r2 r3 : AV} (h : CallA Try.prog f args (zH lim gb cb xs g c s) (fun r M => ∃ g' c' s', M = zH lim gb cb xs g' c' s' ∧ (∀ m, r.rn [.own 6, .own 5, .own 4, .own 8] m = r) ∧ K r (zI co lim gb cb xs r1 r2 r3 g' c' s')) (fun r M => ∃ g' c' s', M = zH lim gb cb xs g' c' s' ∧ (∀ m, r.rn [.own 6, .own 5, .own 4, .own 8] m = r) ∧ Kp r (zI co lim gb cb xs r1 r2 r3 g' c' s')))
    (hargs : AV.rnl [.own 6, .own 5, .own 4, .own 8] 9 args = argsC) (hw : AV.w0l [.own 6, .own 5, .own 4, .own 8] args = true) : CallA Try.prog f argsC (zI co lim gb cb xs r1 r2 r3 g c s) K Kp := by
  refine CallA.lift [.own 6, .own 5, .own 4, .own 8] h hargs (by rw [hw]; rfl) ⟨⟨rfl, rfl⟩, ⟨rfl, rfl⟩, ⟨rfl, rfl⟩, ⟨rfl, rfl⟩, trivial⟩ ⟨rfl, rfl, trivial, trivial, trivial⟩ ?_ ?_
  · rintro r M' ⟨g', c', s', rfl, hr, hk⟩
    refine ⟨⟨rfl, rfl, rfl, rfl, rfl⟩, ?_⟩
    rw [hr]
    exact hk
  · rintro r M' ⟨g', c', s', rfl, hr, hk⟩
    refine ⟨⟨rfl, rfl, rfl, rfl, rfl⟩, ?_⟩
    rw [hr]
    exact hk
theorem numberI {co : Nat} {r1 r2 r3 : AV} {n : Nat} {α : Type} {k : Int → DP α} {R : Except Int (α × DS)} (hR : (DP.get n k).run (unpack xs) lim s = R) (ok : ZOk xs lim c s) (hn : n ≤ 16)
    (h0 : ∀ (v : Nat) s', v < 2 ^ n → s'.out = s.out → s'.a = s.a + n → ZOk xs lim c s' → (k v).run (unpack xs) lim s' = R → K (.int .i64 (v : Int)) (zI co lim gb cb xs r1 r2 r3 g c s'))
    (h1 : R = .error 50 → Kp (faultV 50) (zI co lim gb cb xs r1 r2 r3 g c s)) :
    CallA Try.prog 19 [.ptr 6 0 0, .int .i64 (n : Int)] (zI co lim gb cb xs r1 r2 r3 g c s) K Kp := by
  refine zI_at (args := [.ptr 0 0 0, .int .i64 (n : Int)]) ?_ rfl rfl
  exact number_d [] hR ok hn (fun v s' a1 a2 a3 a4 a5 => ⟨g, c, s', rfl, fun _ => rfl, h0 v s' a1 a2 a3 a4 a5⟩) (fun h => ⟨g, c, s, rfl, fun _ => rfl, h1 h⟩)
/-- A block of whatever kind. -/
theorem blockI {co : Nat} {r1 r2 r3 : AV} {f : Nat} {k : Nat} {R : Except Int (Unit × DS)} (hf : (k = 0 ∧ f = 15) ∨ (k = 1 ∧ f = 16) ∨ (k = 2 ∧ f = 17) ∨ (k = 3 ∧ f = 18))
    (hR : (pBlock k).run (unpack xs) lim s = R) (ok : ZOk xs lim c s) (hb : ∀ x ∈ s.out, 0 ≤ x ∧ x < 256)
    (h0 : ∀ g' c' s', R = .ok ((), s') → ZOk xs lim c' s' → (∀ x ∈ s'.out, 0 ≤ x ∧ x < 256) → K (.tup []) (zI co lim gb cb xs r1 r2 r3 g' c' s'))
    (h1 : ∀ e g' c' s', R = .error e → Kp (faultV e) (zI co lim gb cb xs r1 r2 r3 g' c' s')) :
    CallA Try.prog f [.ptr 6 0 0] (zI co lim gb cb xs r1 r2 r3 g c s) K Kp := by
  refine zI_at (args := [.ptr 0 0 0]) ?_ rfl rfl
  rcases hf with ⟨rfl, rfl⟩ | ⟨rfl, rfl⟩ | ⟨rfl, rfl⟩ | ⟨rfl, rfl⟩
  · exact stored_call ok hb hR (fun g' c' s' a1 a2 a3 => ⟨g', c', s', rfl, fun _ => rfl, h0 g' c' s' a1 a2 a3⟩) (fun e g' c' s' h => ⟨g', c', s', rfl, fun _ => rfl, h1 e g' c' s' h⟩)
  · exact fixed_call ok hb hR (fun g' c' s' a1 a2 a3 => ⟨g', c', s', rfl, fun _ => rfl, h0 g' c' s' a1 a2 a3⟩) (fun e g' c' s' h => ⟨g', c', s', rfl, fun _ => rfl, h1 e g' c' s' h⟩)
  · exact dynamic_call ok hb hR (fun g' c' s' a1 a2 a3 => ⟨g', c', s', rfl, fun _ => rfl, h0 g' c' s' a1 a2 a3⟩) (fun e g' c' s' h => ⟨g', c', s', rfl, fun _ => rfl, h1 e g' c' s' h⟩)
  · exact none_call ⟨g, c, s, rfl, fun _ => rfl, h1 80 g c s hR.symm⟩
end

end Go.Proofs.Yteinenklppbjkaa
