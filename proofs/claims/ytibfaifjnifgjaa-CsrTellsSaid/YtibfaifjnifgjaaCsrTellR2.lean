/-
  Every bit that is kept is told: runs. No condition.
-/
import Derived.Test.YtibfaifjnifgjaaCsrTellP
namespace Go.Proofs.Ytibfaifjnifgjaa
open Go.Sx Go.RowKit
theorem tellR6 : CsrTellP.round 6 = true := by kernel_rfl
theorem tellR7 : CsrTellP.round 7 = true := by kernel_rfl
theorem tellR8 : CsrTellP.round 8 = true := by kernel_rfl
end Go.Proofs.Ytibfaifjnifgjaa
