/- Layer 8: the examples of InflateKnown, computed. -/
import Derived.Test.YteinenklppbjkaaZ11

set_option linter.unusedVariables false

open Go.RowKit

namespace Go.Proofs.Yteinenklppbjkaa

set_option maxRecDepth 10000

theorem zk0 : infR [1, 3, 0, 252, 255, 97, 98, 99] 100 = .ok ((), ⟨64, [97, 98, 99]⟩) := by rw [infR_X]; kernel_rfl
theorem zk1 : infR [75, 76, 74, 6, 0] 100 = .ok ((), ⟨34, [97, 98, 99]⟩) := by rw [infR_X]; kernel_rfl
theorem zk2 : infR [75, 4] 100 = .error 50 := by rw [infR_X]; kernel_rfl
theorem zk3 : infR [1, 3, 0, 253, 255, 97, 98, 99] 100 = .error 80 := by rw [infR_X]; kernel_rfl
theorem zk4 : infR [7] 100 = .error 80 := by rw [infR_X]; kernel_rfl
theorem zk5 : infR [] 100 = .error 50 := by rw [infR_X]; kernel_rfl
theorem zk6 : infR [1, 3, 0, 252, 255, 97, 98] 100 = .error 50 := by rw [infR_X]; kernel_rfl
theorem zk7 : infR [0, 1, 0, 254, 255, 120, 1, 1, 0, 254, 255, 121, 9] 100 = .ok ((), ⟨96, [120, 121]⟩) := by rw [infR_X]; kernel_rfl
theorem zk8 : infR [3, 0] 100 = .ok ((), ⟨10, []⟩) := by rw [infR_X]; kernel_rfl
theorem zk9 : infR [1] 100 = .error 50 := by rw [infR_X]; kernel_rfl
theorem zk10 : infR [75, 76, 74, 6, 0] 2 = .error 81 := by rw [infR_X]; kernel_rfl
theorem zk11 : infR [1, 3, 0, 252, 255] 2 = .error 81 := by rw [infR_X]; kernel_rfl
theorem zk12 : infR [3, 0] 524288 = .ok ((), ⟨10, []⟩) := by rw [infR_X]; kernel_rfl
theorem zw0 : infR [3] 100 = .error 50 := by rw [infR_X]; kernel_rfl
theorem zw1 : infR [3, 2] 100 = .error 70 := by rw [infR_X]; kernel_rfl
theorem zw2 : infR [27, 3] 100 = .error 80 := by rw [infR_X]; kernel_rfl
theorem zw3 : infR [245, 0, 0] 100 = .error 80 := by rw [infR_X]; kernel_rfl
theorem zw4 : infR [5, 30, 0] 100 = .error 80 := by rw [infR_X]; kernel_rfl
theorem zw5 : infR [5, 0, 146, 0] 100 = .error 60 := by rw [infR_X]; kernel_rfl
theorem zw6 : infR [5, 0, 2, 0] 100 = .error 80 := by rw [infR_X]; kernel_rfl
theorem zw7 : infR [5, 0, 128, 192, 223, 31] 100 = .error 80 := by rw [infR_X]; kernel_rfl
theorem zw8 : infR [5, 0, 128, 192, 95, 27] 100 = .error 80 := by rw [infR_X]; kernel_rfl
theorem zw9 : infR [5, 0, 128, 32] 100 = .error 60 := by rw [infR_X]; kernel_rfl
end Go.Proofs.Yteinenklppbjkaa
