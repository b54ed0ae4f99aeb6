/-
  The lowest entry that holds a byte decides alone: runs. No condition.
-/
import Derived.Test.YtibfaifjnifgjaaPmpFirstP
namespace Go.Proofs.Ytibfaifjnifgjaa
open Go.Sx Go.RowKit
theorem firstR10 : PmpFirstP.runQ (PmpFirstP.eqsJ 10) = true := by kernel_rfl
theorem firstR11 : PmpFirstP.runQ (PmpFirstP.eqsJ 11) = true := by kernel_rfl
end Go.Proofs.Ytibfaifjnifgjaa
