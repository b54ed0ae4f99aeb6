/-
  The lowest entry that holds a byte decides alone: runs. No condition.
-/
import Derived.Test.YtibfaifjnifgjaaPmpFirstP
namespace Go.Proofs.Ytibfaifjnifgjaa
open Go.Sx Go.RowKit
theorem firstR15 : PmpFirstP.runQ (PmpFirstP.eqsJ 15) = true := by kernel_rfl
end Go.Proofs.Ytibfaifjnifgjaa
