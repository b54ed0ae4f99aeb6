/-
  The lowest entry that holds a byte decides alone: runs. No condition.
-/
import Derived.Test.YtibfaifjnifgjaaPmpFirstP
namespace Go.Proofs.Ytibfaifjnifgjaa
open Go.Sx Go.RowKit
theorem firstN : PmpFirstP.runQ PmpFirstP.eqsN = true := by kernel_rfl
theorem firstR0 : PmpFirstP.runQ (PmpFirstP.eqsJ 0) = true := by kernel_rfl
theorem firstR1 : PmpFirstP.runQ (PmpFirstP.eqsJ 1) = true := by kernel_rfl
theorem firstR2 : PmpFirstP.runQ (PmpFirstP.eqsJ 2) = true := by kernel_rfl
theorem firstR3 : PmpFirstP.runQ (PmpFirstP.eqsJ 3) = true := by kernel_rfl
theorem firstR4 : PmpFirstP.runQ (PmpFirstP.eqsJ 4) = true := by kernel_rfl
theorem firstR5 : PmpFirstP.runQ (PmpFirstP.eqsJ 5) = true := by kernel_rfl
theorem firstR6 : PmpFirstP.runQ (PmpFirstP.eqsJ 6) = true := by kernel_rfl
end Go.Proofs.Ytibfaifjnifgjaa
