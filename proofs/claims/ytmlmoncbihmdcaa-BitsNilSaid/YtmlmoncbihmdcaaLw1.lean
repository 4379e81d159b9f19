/- Of nil: what the methods of package bits answer. -/
import Derived.Test.YtmlmoncbihmdcaaLw0
set_option linter.unusedVariables false
set_option linter.unusedSimpArgs false
open Go.RowKit
namespace Go.Proofs.Ytmlmoncbihmdcaa
set_option maxRecDepth 10000

theorem put_nil {M : AH} {K Kp : AV → AH → Prop} {v n : Int} (h : K (.int .i64 8) M) : CallA Try.prog 15 [.np, .int .u32 v, .int .i64 n] M K Kp := by
  refine walk15 (fun _ => []) [] rfl ?_
  exact h
theorem align_nil {M : AH} {K Kp : AV → AH → Prop} (h : K (.int .i64 8) M) : CallA Try.prog 23 [.np] M K Kp := by
  refine walk23 (fun _ => []) [] rfl ?_
  exact h
theorem bytes_nil {M : AH} {K Kp : AV → AH → Prop} (h : K .ns M) : CallA Try.prog 17 [.np] M K Kp := by
  refine walk17 (fun _ => []) [] rfl ?_
  exact h
theorem len_nil {M : AH} {K Kp : AV → AH → Prop} (h : K (.int .i64 0) M) : CallA Try.prog 18 [.np] M K Kp := by
  refine walk18 (fun _ => []) [] rfl ?_
  exact h
theorem get_nil {M : AH} {K Kp : AV → AH → Prop} {n : Int} (h : K (.tup [.int .u32 0, .int .i64 8]) M) : CallA Try.prog 20 [.np, .int .i64 n] M K Kp := by
  refine walk20 (fun _ => []) [] rfl ?_
  exact h
theorem ralign_nil {M : AH} {K Kp : AV → AH → Prop} (h : K (.int .i64 8) M) : CallA Try.prog 28 [.np] M K Kp := by
  refine walk28 (fun _ => []) [] rfl ?_
  exact h
theorem at_nil {M : AH} {K Kp : AV → AH → Prop} (h : K (.int .i64 0) M) : CallA Try.prog 30 [.np] M K Kp := by
  refine walk30 (fun _ => []) [] rfl ?_
  exact h
theorem left_nil {M : AH} {K Kp : AV → AH → Prop} (h : K (.int .i64 0) M) : CallA Try.prog 26 [.np] M K Kp := by
  refine walk26 (fun _ => []) [] rfl ?_
  exact h

theorem bitsNil_law (v : Int) (hv : IntKind.u32.min ≤ v ∧ v ≤ IntKind.u32.max) (n : Int) (hn : IntKind.i64.min ≤ n ∧ n ≤ IntKind.i64.max) : CallA Try.prog 8 [.int .u32 v, .int .i64 n] [] (fun r _ => r = .bo true) (fun _ _ => False) := by
  refine walk8 (fun _ => []) [] rfl ?_
  refine get_nil ?_
  refine put_nil ?_
  refine And.intro (fun _ => ?_) (fun h => absurd h (by decide))
  refine align_nil ?_
  refine And.intro (fun _ => ?_) (fun h => absurd h (by decide))
  refine bytes_nil ?_
  refine And.intro (fun _ => ?_) (fun h => absurd h (by decide))
  refine len_nil ?_
  refine And.intro (fun _ => ?_) (fun h => absurd h (by decide))
  refine And.intro (fun _ => ?_) (fun h => absurd h (by decide))
  refine And.intro (fun _ => ?_) (fun h => absurd h (by decide))
  refine ralign_nil ?_
  refine And.intro (fun _ => ?_) (fun h => absurd h (by decide))
  refine at_nil ?_
  refine And.intro (fun _ => ?_) (fun h => absurd h (by decide))
  refine left_nil ?_
  refine And.intro (fun _ => ?_) (fun h => absurd h (by decide))
  refine CallA.mono (lays_call (Kp := fun _ _ => False)) ?_ (fun _ _ h => h)
  rintro r M ⟨rfl, rfl⟩
  rfl
end Go.Proofs.Ytmlmoncbihmdcaa
