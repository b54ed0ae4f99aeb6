/-
  TopTimer's runs: steps of the Hart. No condition.
-/
import Derived.Test.YtnlgfccjohhcmaaGreatDoorTopRun
import Derived.KernelRfl
namespace Go.Top
open Go.Sx
theorem step00 : step9 0 0 = (true && true) := by kernel_rfl
theorem step01 : step9 0 1 = (true && true) := by kernel_rfl
theorem step02 : step9 0 2 = (true && true) := by kernel_rfl
theorem step10 : step9 1 0 = (true && true) := by kernel_rfl
theorem step11 : step9 1 1 = (true && true) := by kernel_rfl
theorem step12 : step9 1 2 = (true && true) := by kernel_rfl
theorem step20 : step9 2 0 = (true && true) := by kernel_rfl
theorem step21 : step9 2 1 = (true && true) := by kernel_rfl
theorem step22 : step9 2 2 = (true && true) := by kernel_rfl
end Go.Top
