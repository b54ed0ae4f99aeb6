/-
  A law by cases: what mstatus may be; a test that holds or does not. No condition.
-/
import Derived.Test.YtibfaifjnifgjaaSum2
import Derived.Test.YtibfaifjnifgjaaBits2
namespace Go.Proofs.Ytibfaifjnifgjaa
open Go.Sx Go.RowKit

/-- Mstatus, as Proper makes it, is 'm'. -/
def st (m : Int) : E × E := (.app 20 (.cons (.var 35) .nil), .lit m)

theorem cases32 {f : FuncId} {kds : List Kd} {cs : List C} {env : Env} (hF : EnvF Phi env) (n : Nat) (eqs : List (E × E)) (sp : FuncId → Bool) (he : ∀ p ∈ eqs, p.1.den env = p.2.den env)
    (h : statVals.all (fun m => isTrue (evFn (lawK (oszOf kds) (st m :: eqs) sp) n f cs [])) = true) : Case Try.prog f kds cs env := by
  have hm := List.all_eq_true.1 h _ (stat_vals (env.v 35))
  refine case_law hF n (st _ :: eqs) sp (fun p hp => ?_) hm
  rcases List.mem_cons.1 hp with rfl | hp
  · exact f20 hF _
  · exact he p hp

theorem chunks {p : Int → Bool} (h : ∀ i, i < 8 → ((statVals.drop (4 * i)).take 4).all p = true) : statVals.all p = true := by
  have e : statVals = (List.range 8).flatMap fun i => (statVals.drop (4 * i)).take 4 := by decide
  rw [e, List.all_flatMap]
  exact List.all_eq_true.2 fun i hi => h i (by simpa using hi)

theorem chunks8 {p : Int → Bool} (h0 : ((statVals.drop 0).take 4).all p = true) (h1 : ((statVals.drop 4).take 4).all p = true) (h2 : ((statVals.drop 8).take 4).all p = true) (h3 : ((statVals.drop 12).take 4).all p = true)
    (h4 : ((statVals.drop 16).take 4).all p = true) (h5 : ((statVals.drop 20).take 4).all p = true) (h6 : ((statVals.drop 24).take 4).all p = true) (h7 : ((statVals.drop 28).take 4).all p = true) : statVals.all p = true := by
  refine chunks fun i hi => ?_
  match i, hi with
  | 0, _ => exact h0
  | 1, _ => exact h1
  | 2, _ => exact h2
  | 3, _ => exact h3
  | 4, _ => exact h4
  | 5, _ => exact h5
  | 6, _ => exact h6
  | 7, _ => exact h7

theorem chunk4 {p : Int → Bool} {a : Nat} (h0 : ((statVals.drop a).take 2).all p = true) (h1 : ((statVals.drop (a + 2)).take 2).all p = true) : ((statVals.drop a).take 4).all p = true := by
  have e : (statVals.drop a).take 4 = (statVals.drop a).take 2 ++ (statVals.drop (a + 2)).take 2 := by
    rw [← List.drop_drop, show 4 = 2 + 2 from rfl, List.take_add]
  rw [e, List.all_append, h0, h1]; rfl

/-- Two terms, a test that is known: 'on', 'off'. -/
def isE (c : E) (b : Bool) : E × E := (c, .lit (b2i b))

theorem isE_ok {env : Env} {c : E} {b : Bool} (ht : isTest c = true) (h : c.tt env = b) : (isE c b).1.den env = (isE c b).2.den env := by
  show c.den env = b2i b
  rw [isTest_den ht, h]

/-- The Cpu is in M. -/
def modeT : E := .bin .eql .i64 (.var 33) (.lit 3)

theorem In64.var {env : Env} {kds : List Kd} (hW : WfEnv env kds) {i : Nat} (h : kds[i]? = some (.num (some .u64))) : In64 env (.var i) := in64_of (hW i _ h).1

end Go.Proofs.Ytibfaifjnifgjaa
