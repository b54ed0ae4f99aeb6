/-
  The lowest entry that holds a byte decides alone: runs. No condition.
-/
import Derived.Test.YtibfaifjnifgjaaPmpFirstP
namespace Go.Proofs.Ytibfaifjnifgjaa
open Go.Sx Go.RowKit
theorem firstR7 : PmpFirstP.runQ (PmpFirstP.eqsJ 7) = true := by kernel_rfl
theorem firstR8 : PmpFirstP.runQ (PmpFirstP.eqsJ 8) = true := by kernel_rfl
theorem firstR9 : PmpFirstP.runQ (PmpFirstP.eqsJ 9) = true := by kernel_rfl
end Go.Proofs.Ytibfaifjnifgjaa
