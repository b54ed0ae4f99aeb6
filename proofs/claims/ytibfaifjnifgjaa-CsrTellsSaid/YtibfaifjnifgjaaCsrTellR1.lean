/-
  Every bit that is kept is told: runs. No condition.
-/
import Derived.Test.YtibfaifjnifgjaaCsrTellP
namespace Go.Proofs.Ytibfaifjnifgjaa
open Go.Sx Go.RowKit
theorem tellR3 : CsrTellP.round 3 = true := by kernel_rfl
theorem tellR4 : CsrTellP.round 4 = true := by kernel_rfl
theorem tellR5 : CsrTellP.round 5 = true := by kernel_rfl
end Go.Proofs.Ytibfaifjnifgjaa
