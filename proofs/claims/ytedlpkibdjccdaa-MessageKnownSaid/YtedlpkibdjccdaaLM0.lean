/- Layer 23: of Write's answer. -/
import Derived.Test.YtedlpkibdjccdaaN5

set_option linter.unusedVariables false

set_option linter.unusedSimpArgs false

open Go.RowKit

namespace Go.Proofs.Ytedlpkibdjccdaa

theorem wr_cases {m : Msg} : (wrOk m ∧ wrE m = 0 ∧ wrB m = wireF m) ∨ (¬ wrOk m ∧ wrE m ≠ 0 ∧ wrB m = []) := by
  by_cases h : wrOk m
  · exact .inl ⟨h, (wr_ok h).2, (wr_ok h).1⟩
  · refine .inr ⟨h, fun he => h ?_, wr_no h⟩
    unfold wrE at he
    split at he
    · cases he
    split at he
    · cases he
    split at he
    · cases he
    · exact ⟨by omega, by assumption, by rename_i h3; exact Classical.not_not.1 h3⟩
end Go.Proofs.Ytedlpkibdjccdaa
