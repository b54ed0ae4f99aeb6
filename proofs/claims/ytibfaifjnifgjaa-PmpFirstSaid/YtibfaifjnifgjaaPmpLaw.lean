/-
  Laws on entries: runs with the summaries of Span, Match, Check, Granted. No condition.
-/
import Derived.Test.YtibfaifjnifgjaaPmpCheck
namespace Go.Proofs.Ytibfaifjnifgjaa
open Go.Sx Go.RowKit

noncomputable def sgQ (nrm : E → E) : FuncId → List C → Option C := sgOr (sgGrant nrm) (sgOr (sgCheck nrm) (sgK nrm))
theorem sgQ_ok {env : Env} (hF : EnvF Phi env) {nrm : E → E} (hn : ∀ e, (nrm e).den env = e.den env) : SgF env Try.prog (sgQ nrm) := (sgGrant_ok hF hn).or ((sgCheck_ok hF hn).or (sgK_ok hF hn))

noncomputable def lawQ (osz : Nat → Option (List (Option IntKind))) (eqs : List (E × E)) (sp : FuncId → Bool) : Ctx :=
  { P := Try.prog, sg := sgQ (nrmS eqs), sp := sp, osz := osz, nrm := nrmS eqs, nf := fun _ => false, fr := fun _ => true }

theorem case_lawQ {f : FuncId} {kds : List Kd} {cs : List C} {env : Env} (hF : EnvF Phi env) (n : Nat) (eqs : List (E × E)) (sp : FuncId → Bool) (he : ∀ p ∈ eqs, p.1.den env = p.2.den env)
    (h : isTrue (evFn (lawQ (oszOf kds) eqs sp) n f cs []) = true) : Case Try.prog f kds cs env := by
  have hs : SgF env (lawQ (oszOf kds) eqs sp).P (lawQ (oszOf kds) eqs sp).sg := sgQ_ok hF (nrmS_den hF he)
  exact case_of (lawQ (oszOf kds) eqs sp) n rfl rfl (nrmS_den hF he) hs h

/-- A law of one entry's number: 0 to 15, or outside. -/
theorem case_entryQ {f : FuncId} {kds : List Kd} {cs : List C} {env : Env} (hF : EnvF Phi env) (h : ∀ i, i < 16 → isTrue (evFn (lawQ (oszOf kds) [] (fun _ => false)) 1000 f (cs.map (C.fix iV (Int.ofNat i))) []) = true)
    (hlo : isTrue (evFn (lawQ (oszOf kds) outLo (fun _ => false)) 1000 f cs []) = true) (hhi : isTrue (evFn (lawQ (oszOf kds) outHi (fun _ => false)) 1000 f cs []) = true) : Case Try.prog f kds cs env := by
  rcases entry_cases env with ⟨i, hi, he⟩ | hl | hh
  · exact Case.fixed iV (Int.ofNat i) he (case_lawQ hF 1000 [] (fun _ => false) (by simp) (h i hi))
  · exact case_lawQ hF 1000 outLo (fun _ => false) hl hlo
  · exact case_lawQ hF 1000 outHi (fun _ => false) hh hhi

end Go.Proofs.Ytibfaifjnifgjaa
