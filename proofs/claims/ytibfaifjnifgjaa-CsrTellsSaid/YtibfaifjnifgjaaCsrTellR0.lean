/-
  Every bit that is kept is told: runs. No condition.
-/
import Derived.Test.YtibfaifjnifgjaaCsrTellP
namespace Go.Proofs.Ytibfaifjnifgjaa
open Go.Sx Go.RowKit
theorem tellR0 : CsrTellP.round 0 = true := by kernel_rfl
theorem tellR1 : CsrTellP.round 1 = true := by kernel_rfl
theorem tellR2 : CsrTellP.round 2 = true := by kernel_rfl
end Go.Proofs.Ytibfaifjnifgjaa
