/-
  Every bit that is kept is told: runs. No condition.
-/
import Derived.Test.YtibfaifjnifgjaaCsrTellP
namespace Go.Proofs.Ytibfaifjnifgjaa
open Go.Sx Go.RowKit
theorem tellR9 : CsrTellP.round 9 = true := by kernel_rfl
theorem tellR10 : CsrTellP.round 10 = true := by kernel_rfl
end Go.Proofs.Ytibfaifjnifgjaa
