/-
  TopTimer's runs: the start. No condition.
-/
import Derived.Test.YtnlgfccjohhcmaaGreatDoorTopRun
import Derived.KernelRfl
namespace Go.Top
open Go.Sx
theorem start2 : start 2 = (true && true) := by kernel_rfl
theorem start3 : start 3 = (true && true) := by kernel_rfl
end Go.Top
