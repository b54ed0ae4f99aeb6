/-
  Laws on CSRs with a loop. No condition.
-/
import Derived.Test.YtibfaifjnifgjaaCsrSum
import Derived.Test.YtibfaifjnifgjaaSx18
namespace Go.Proofs.Ytibfaifjnifgjaa
open Go.Sx Go.RowKit

theorem lawX_ok {osz : Nat → Option (List (Option IntKind))} {env : Env} (hF : EnvF Phi env) {eqs : List (E × E)} (sp : FuncId → Bool) (he : ∀ p ∈ eqs, p.1.den env = p.2.den env) : CtxOk Try.prog osz env (lawX osz eqs sp) :=
  ⟨rfl, rfl, nrmC_den hF he, sgX_ok hF (nrmC_den hF he)⟩

end Go.Proofs.Ytibfaifjnifgjaa
