/-
  Laws on entries with a loop: runs with all summaries of entries. No condition.
-/
import Derived.Test.YtibfaifjnifgjaaPmpSet
import Derived.Test.YtibfaifjnifgjaaPmpLaw
import Derived.Test.YtibfaifjnifgjaaSx18
namespace Go.Proofs.Ytibfaifjnifgjaa
open Go.Sx Go.RowKit

noncomputable def sgS (nrm : E → E) : FuncId → List C → Option C := sgOr (sgAddr nrm) (sgOr (sgCfg nrm) (sgOr (sgGet nrm) (sgQ nrm)))
theorem sgS_ok {env : Env} (hF : EnvF Phi env) {nrm : E → E} (hn : ∀ e, (nrm e).den env = e.den env) : SgF env Try.prog (sgS nrm) := (sgAddr_ok hF hn).or ((sgCfg_ok hF hn).or ((sgGet_ok hF hn).or (sgQ_ok hF hn)))

noncomputable def lawS (osz : Nat → Option (List (Option IntKind))) (eqs : List (E × E)) (sp : FuncId → Bool) : Ctx :=
  { P := Try.prog, sg := sgS (nrmS eqs), sp := sp, osz := osz, nrm := nrmS eqs, nf := fun _ => false, fr := fun _ => true }

theorem lawS_ok {osz : Nat → Option (List (Option IntKind))} {env : Env} (hF : EnvF Phi env) {eqs : List (E × E)} (sp : FuncId → Bool) (he : ∀ p ∈ eqs, p.1.den env = p.2.den env) : CtxOk Try.prog osz env (lawS osz eqs sp) :=
  ⟨rfl, rfl, nrmS_den hF he, sgS_ok hF (nrmS_den hF he)⟩

theorem case_lawS {f : FuncId} {kds : List Kd} {cs : List C} {env : Env} (hF : EnvF Phi env) (n : Nat) (eqs : List (E × E)) (sp : FuncId → Bool) (he : ∀ p ∈ eqs, p.1.den env = p.2.den env)
    (h : isTrue (evFn (lawS (oszOf kds) eqs sp) n f cs []) = true) : Case Try.prog f kds cs env := by
  have hs : SgF env (lawS (oszOf kds) eqs sp).P (lawS (oszOf kds) eqs sp).sg := sgS_ok hF (nrmS_den hF he)
  exact case_of (lawS (oszOf kds) eqs sp) n rfl rfl (nrmS_den hF he) hs h

end Go.Proofs.Ytibfaifjnifgjaa
