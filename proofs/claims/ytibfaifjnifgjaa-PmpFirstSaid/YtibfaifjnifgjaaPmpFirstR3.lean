/-
  The lowest entry that holds a byte decides alone: runs. No condition.
-/
import Derived.Test.YtibfaifjnifgjaaPmpFirstP
namespace Go.Proofs.Ytibfaifjnifgjaa
open Go.Sx Go.RowKit
theorem firstR12 : PmpFirstP.runQ (PmpFirstP.eqsJ 12) = true := by kernel_rfl
theorem firstR13 : PmpFirstP.runQ (PmpFirstP.eqsJ 13) = true := by kernel_rfl
end Go.Proofs.Ytibfaifjnifgjaa
