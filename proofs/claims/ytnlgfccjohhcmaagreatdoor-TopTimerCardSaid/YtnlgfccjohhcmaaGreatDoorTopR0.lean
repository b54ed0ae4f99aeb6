/-
  TopTimer's runs: the start. No condition.
-/
import Derived.Test.YtnlgfccjohhcmaaGreatDoorTopRun
import Derived.KernelRfl
namespace Go.Top
open Go.Sx
theorem start0 : start 0 = (true && true) := by kernel_rfl
theorem start1 : start 1 = (true && true) := by kernel_rfl
end Go.Top
