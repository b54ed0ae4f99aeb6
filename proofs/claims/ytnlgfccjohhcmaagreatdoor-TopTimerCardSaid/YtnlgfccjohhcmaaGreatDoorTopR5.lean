/-
  TopTimer's runs: rounds, and ways out. No condition.
-/
import Derived.Test.YtnlgfccjohhcmaaGreatDoorTopRun
import Derived.KernelRfl
namespace Go.Top
open Go.Sx
theorem round00 : round 0 0 = (true && true) := by kernel_rfl
theorem round01 : round 0 1 = (true && true) := by kernel_rfl
theorem round02 : round 0 2 = (true && true) := by kernel_rfl
theorem round10 : round 1 0 = (true && true) := by kernel_rfl
theorem round11 : round 1 1 = (true && true) := by kernel_rfl
theorem round12 : round 1 2 = (true && true) := by kernel_rfl
theorem round20 : round 2 0 = (true && true) := by kernel_rfl
theorem round21 : round 2 1 = (true && true) := by kernel_rfl
theorem round22 : round 2 2 = (true && true) := by kernel_rfl
theorem round30 : round 3 0 = (true && true) := by kernel_rfl
theorem round31 : round 3 1 = (true && true) := by kernel_rfl
theorem round32 : round 3 2 = (true && true) := by kernel_rfl
theorem round40 : round 4 0 = (true && true) := by kernel_rfl
theorem round41 : round 4 1 = (true && true) := by kernel_rfl
theorem round42 : round 4 2 = (true && true) := by kernel_rfl
theorem round50 : round 5 0 = (true && true) := by kernel_rfl
theorem round51 : round 5 1 = (true && true) := by kernel_rfl
theorem round52 : round 5 2 = (true && true) := by kernel_rfl
theorem exit0f : exit 0 false = (true && true) := by kernel_rfl
theorem exit0t : exit 0 true = (true && true) := by kernel_rfl
theorem exit1f : exit 1 false = (true && true) := by kernel_rfl
theorem exit1t : exit 1 true = (true && true) := by kernel_rfl
theorem exit2f : exit 2 false = (true && true) := by kernel_rfl
theorem exit2t : exit 2 true = (true && true) := by kernel_rfl
theorem exit3f : exit 3 false = (true && true) := by kernel_rfl
theorem exit3t : exit 3 true = (true && true) := by kernel_rfl
theorem exit4f : exit 4 false = (true && true) := by kernel_rfl
theorem exit4t : exit 4 true = (true && true) := by kernel_rfl
theorem exit5f : exit 5 false = (true && true) := by kernel_rfl
theorem exit5t : exit 5 true = (true && true) := by kernel_rfl
end Go.Top
