/- Layer 6: HuffNil. -/
import Derived.Test.YteinenklppbjkaaH12

import Derived.Test.YteinenklppbjkaaLH0

set_option linter.unusedVariables false

set_option linter.unusedSimpArgs false

open Go.RowKit

namespace Go.Proofs.Yteinenklppbjkaa

set_option maxRecDepth 10000

section

variable {M : AH} {K Kp : AV → AH → Prop}

theorem hnew_at {i g n c0 co : Nat} {o : Bool} {ls : List Int} (hi : M[i]? = some (.one o g (.ints .u8 ls co))) (hn : n = ls.length) (hl : ls.length ≤ 2000) (hu : ∀ x ∈ ls, 0 ≤ x ∧ x < 256)
    (h0 : eachE ls ≠ 0 → K (.tup [.np, .int .i64 (eachE ls)]) M)
    (h1 : eachE ls = 0 → K (.tup [.ptr (M.length + 1) 0 0, .int .i64 0]) (M ++ [.one true 0 (.map (.pair .i64 .i64) (mzM (layM (tellS ls 15).2 []))), .one true 0 (.cells [.mp M.length 0])])) : CallA Try.prog 52 [.sl i g 0 n c0] M K Kp := by
  subst hn
  refine CallA.lift [.win i g 0] (hnew_call (ls := ls) (c0 := c0) (c := co) (Kp := fun _ _ => False) hl hu) rfl rfl ⟨⟨_, _, _, rfl, slot_one hi, WinC.same rfl (fun h => h)⟩, trivial⟩ ⟨trivial, trivial⟩ ?_ (fun _ _ h => h.elim)
  rintro r M' (⟨e, rfl, rfl⟩ | ⟨e, rfl, rfl⟩)
  · refine ⟨⟨rfl, rfl⟩, ?_⟩
    have := h0 e
    rw [← List.append_nil M] at this
    exact this
  · refine ⟨⟨rfl, rfl⟩, ?_⟩
    have := h1 e
    rw [← mz_rn [.win i g 0] M.length (.pair .i64 .i64) (layM (tellS ls 15).2 [])] at this
    exact this
end

end Go.Proofs.Yteinenklppbjkaa
