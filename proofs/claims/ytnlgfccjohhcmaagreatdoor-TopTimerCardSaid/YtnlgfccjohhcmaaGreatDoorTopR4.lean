/-
  TopTimer's runs: steps of the Hart. No condition.
-/
import Derived.Test.YtnlgfccjohhcmaaGreatDoorTopRun
import Derived.KernelRfl
namespace Go.Top
open Go.Sx
theorem step30 : step9 3 0 = (true && true) := by kernel_rfl
theorem step31 : step9 3 1 = (true && true) := by kernel_rfl
theorem step32 : step9 3 2 = (true && true) := by kernel_rfl
theorem step40 : step9 4 0 = (true && true) := by kernel_rfl
theorem step41 : step9 4 1 = (true && true) := by kernel_rfl
theorem step42 : step9 4 2 = (true && true) := by kernel_rfl
theorem step50 : step9 5 0 = (true && true) := by kernel_rfl
theorem step51 : step9 5 1 = (true && true) := by kernel_rfl
theorem step52 : step9 5 2 = (true && true) := by kernel_rfl
end Go.Top
