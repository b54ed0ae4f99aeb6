/-
  A law by cases: what mstatus may be; a test that holds or does not. No condition.
-/
import Derived.Test.YtibfaifjnifgjaaSum2
import Derived.Test.YtibfaifjnifgjaaBits2
namespace Go.Proofs.Ytibfaifjnifgjaa
open Go.Sx Go.RowKit

/-- Mstatus, as Proper makes it, is 'm'. -/
def st (m : Int) : E × E := (.app 20 (.cons (.var 35) .nil), .lit m)

theorem cases32 {f : FuncId} {kds : List Kd} {cs : List C} {env : Env} (hF : EnvF Phi env) (n : Nat) (eqs : List (E × E)) (sp : FuncId → Bool) (he : ∀ p ∈ eqs, p.1.den env = p.2.den env)
    (h : statVals.all (fun m => isTrue (evFn (lawK (oszOf kds) (st m :: eqs) sp) n f cs [])) = true) : Case Try.prog f kds cs env := by
  have hm := List.all_eq_true.1 h _ (stat_vals (env.v 35))
  refine case_law hF n (st _ :: eqs) sp (fun p hp => ?_) hm
  rcases List.mem_cons.1 hp with rfl | hp
  · exact f20 hF _
  · exact he p hp

/-- Two terms, a test that is known: 'on', 'off'. -/
def isE (c : E) (b : Bool) : E × E := (c, .lit (b2i b))

theorem isE_ok {env : Env} {c : E} {b : Bool} (ht : isTest c = true) (h : c.tt env = b) : (isE c b).1.den env = (isE c b).2.den env := by
  show c.den env = b2i b
  rw [isTest_den ht, h]

/-- The Cpu is in M. -/
def modeT : E := .bin .eql .i64 (.var 33) (.lit 3)

theorem In64.var {env : Env} {kds : List Kd} (hW : WfEnv env kds) {i : Nat} (h : kds[i]? = some (.num (some .u64))) : In64 env (.var i) := in64_of (hW i _ h).1

end Go.Proofs.Ytibfaifjnifgjaa
