/-
  Every bit that is kept is told: runs. No condition.
-/
import Derived.Test.YtibfaifjnifgjaaCsrTellP
namespace Go.Proofs.Ytibfaifjnifgjaa
open Go.Sx Go.RowKit
theorem tellR11 : CsrTellP.round 11 = true := by kernel_rfl
theorem tellR12 : CsrTellP.round 12 = true := by kernel_rfl
end Go.Proofs.Ytibfaifjnifgjaa
