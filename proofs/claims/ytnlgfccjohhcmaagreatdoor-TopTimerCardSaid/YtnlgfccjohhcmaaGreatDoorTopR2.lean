/-
  TopTimer's runs: calls without memory. No condition.
-/
import Derived.Test.YtnlgfccjohhcmaaGreatDoorTopRun
import Derived.KernelRfl
namespace Go.Top
open Go.Sx
theorem pureM0 : pure1 0 = (true && true) := by kernel_rfl
theorem pureM1 : pure1 1 = (true && true) := by kernel_rfl
theorem pureM2 : pure1 2 = (true && true) := by kernel_rfl
theorem pureM3 : pure1 3 = (true && true) := by kernel_rfl
theorem pureM4 : pure1 4 = (true && true) := by kernel_rfl
theorem pureM5 : pure1 5 = (true && true) := by kernel_rfl
end Go.Top
