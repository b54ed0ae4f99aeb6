/-
  Laws on CSRs with a loop. No condition.
-/
import Derived.Test.YtibfaifjnifgjaaCsrSum
import Derived.Test.YtibfaifjnifgjaaSx18
namespace Go.Proofs.Ytibfaifjnifgjaa
open Go.Sx Go.RowKit

theorem lawX_ok {osz : Nat → Option (List (Option IntKind))} {env : Env} (hF : EnvF Phi env) {eqs : List (E × E)} (sp : FuncId → Bool) (he : ∀ p ∈ eqs, p.1.den env = p.2.den env) : CtxOk Try.prog osz env (lawX osz eqs sp) :=
  ⟨rfl, rfl, nrmC_den hF he, sgX_ok hF (nrmC_den hF he)⟩

/-- The same, where temporaries that nobody asks for any more go. -/
noncomputable def lawXL (osz : Nat → Option (List (Option IntKind))) (eqs : List (E × E)) (sp : FuncId → Bool) (lv : FuncId → List Bool) : Ctx :=
  { P := Try.prog, sg := sgX (nrmC eqs), sp := sp, osz := osz, nrm := nrmC eqs, nf := fun _ => false, fr := fun _ => true, lv := lv }

theorem lawXL_ok {osz : Nat → Option (List (Option IntKind))} {env : Env} (hF : EnvF Phi env) {eqs : List (E × E)} (sp : FuncId → Bool) (lv : FuncId → List Bool) (he : ∀ p ∈ eqs, p.1.den env = p.2.den env) : CtxOk Try.prog osz env (lawXL osz eqs sp lv) :=
  ⟨rfl, rfl, nrmC_den hF he, sgX_ok hF (nrmC_den hF he)⟩

end Go.Proofs.Ytibfaifjnifgjaa
