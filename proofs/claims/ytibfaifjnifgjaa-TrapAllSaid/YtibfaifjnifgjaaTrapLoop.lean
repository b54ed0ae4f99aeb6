/-
  A run with the summaries of traps. No condition.
-/
import Derived.Test.YtibfaifjnifgjaaTrapSub
import Derived.Test.YtibfaifjnifgjaaSx18
namespace Go.Proofs.Ytibfaifjnifgjaa
open Go.Sx Go.RowKit

noncomputable def nrmT1 (e : E) : E := nrmTabR (nrmG e)
theorem nrmT1_den {env : Env} (hF : EnvF Phi env) (e : E) : (nrmT1 e).den env = e.den env := by
  unfold nrmT1; rw [nrmTabR_den hF, nrmG_den]

noncomputable def lawT (osz : Nat → Option (List (Option IntKind))) (sp : FuncId → Bool) : Ctx :=
  { P := Try.prog, sg := sgTrap nrmT1, sp := sp, osz := osz, nrm := nrmT1, nf := fun _ => false, fr := fun _ => true }

theorem lawT_ok {osz : Nat → Option (List (Option IntKind))} {env : Env} (hF : EnvF Phi env) (sp : FuncId → Bool) : CtxOk Try.prog osz env (lawT osz sp) :=
  ⟨rfl, rfl, nrmT1_den hF, sgTrap_ok hF (nrmT1_den hF)⟩

end Go.Proofs.Ytibfaifjnifgjaa
