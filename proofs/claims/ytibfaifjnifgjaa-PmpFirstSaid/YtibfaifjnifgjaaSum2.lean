/-
  The summaries of Proper, of entries and of a Cpu, and of a Cfg byte. No condition.
-/
import Derived.Test.YtibfaifjnifgjaaSum1
namespace Go.Proofs.Ytibfaifjnifgjaa
open Go.Sx Go.RowKit

/-! ### A Cfg byte -/

noncomputable def sgB (f : FuncId) (vs : List C) : Option C :=
  if Nat.beq f 81 || Nat.beq f 82 then match parseA [.one (some .u8)] vs with
    | some [e] => some (.int .u8 (pushB e))
    | _ => none
  else none

/-- A run with rules alone, and equations. -/
noncomputable def ruleK (sg : FuncId → List C → Option C) (eqs : List (E × E)) (nf : FuncId → Bool) : Ctx :=
  { P := Try.prog, sg := sg, sp := fun _ => false, osz := fun _ => none, nrm := fun e => rw1 eqs (nrmG e), nf := nf, fr := fun _ => true }

theorem rule_den {env : Env} {eqs : List (E × E)} (h : ∀ p ∈ eqs, p.1.den env = p.2.den env) (e : E) : (rw1 eqs (nrmG e)).den env = e.den env := by
  rw [rw1_den h, nrmG_den]

theorem run81 : leafIs (.int .u8 (byteE (.var 0))) (evFn (ruleK sg0 [] (fun _ => false)) 100 81 (varsA [.one (some .u8)] 0) []) = true := by kernel_rfl
theorem run82 : leafIs (.int .u8 (byteE (.var 0))) (evFn (ruleK sg0 [] (fun _ => false)) 100 82 (varsA [.one (some .u8)] 0) []) = true := by kernel_rfl

theorem sgB_ok {env : Env} (hF : EnvF Phi env) : SgF env Try.prog sgB := by
  intro f vs v hv ρ xs w hr
  unfold sgB at hv
  split at hv
  · rename_i hf
    simp only [Bool.or_eq_true] at hf
    split at hv
    · rename_i e he
      simp only [Option.some.injEq] at hv; subst hv
      have hrun : leafIs (.int .u8 (byteE (.var 0))) (evFn (ruleK sg0 [] (fun _ => false)) 100 f (varsA [.one (some .u8)] 0) []) = true := by
        rcases hf with hf | hf
        · rw [Nat.eq_of_beq_eq_true hf]; exact run81
        · rw [Nat.eq_of_beq_eq_true hf]; exact run82
      obtain ⟨h1, h2⟩ := sum_calls (Φ := Phi) rfl hrun hF (fun env _ _ e => rule_den (by simp) e) (fun env _ _ => sg0_ok env _) he hr w
      refine ⟨h1, h2.mono ?_⟩
      rintro e' w' ⟨z, ρ', rfl, hz, hb⟩
      have hs : C.same (withV env ([e].map (E.den env))) env (.int .u8 (byteE (.var 0))) (.int .u8 (pushB e)) := ⟨rfl, by rw [byteE_den, pushB_den hF]; rfl⟩
      exact ⟨z, rfl, same_r hs hz, hb⟩
    · cases hv
  · cases hv

/-! ### Entries -/

noncomputable def sgP (nrm : E → E) : FuncId → List C → Option C := sgOps (fun f => Nat.beq f 37 || Nat.beq f 38) pmpKs pmpOs nrm

theorem run37 : leafIs (.agg (.toC (flatE pmpKs (opsE nrmG pmpOs (vars 32 0))))) (evFn (ruleK sgB [] (fun _ => false)) 1000 37 (varsA [.agg pmpKs] 0) []) = true := by kernel_rfl
theorem run38 : leafIs (.agg (.toC (flatE pmpKs (opsE nrmG pmpOs (vars 32 0))))) (evFn (ruleK sgB [] (fun _ => false)) 1000 38 (varsA [.agg pmpKs] 0) []) = true := by kernel_rfl

theorem sgP_ok {env : Env} (hF : EnvF Phi env) {nrm : E → E} (hn : ∀ e, (nrm e).den env = e.den env) : SgF env Try.prog (sgP nrm) := by
  refine sgOps_ok hF hn (fun f hf => ?_)
  simp only [Bool.or_eq_true] at hf
  refine ⟨ruleK sgB [] (fun _ => false), 1000, opsE nrmG pmpOs (vars 32 0), rfl, rfl, ?_, fun env _ _ e => rule_den (by simp) e, fun env hF _ => sgB_ok hF, fun env hF => opsE_den hF nrmG_den _ _⟩
  rcases hf with hf | hf
  · rw [Nat.eq_of_beq_eq_true hf]; exact run37
  · rw [Nat.eq_of_beq_eq_true hf]; exact run38

/-! ### A Cpu -/

noncomputable def sgC (nrm : E → E) : FuncId → List C → Option C := sgOps (fun f => Nat.beq f 39 || Nat.beq f 40) cpuKs cpuOs nrm

def resApp : E := .app 22 (.cons (.var 79) (.cons (.var 80) (.cons (.var 81) .nil)))

/-- What the two runs call mstatus and the reservation. -/
def eqsC (st : E → E) (rc : E → E → E → E) : List (E × E) :=
  let r := rc (.var 79) (.var 80) (.var 81)
  [(st (.var 35), .app 20 (.cons (.var 35) .nil)), (.ite r (.lit 0) (.var 79), resApp), (.ite r (.lit 0) (.var 80), .ite resApp (.var 80) (.lit 0)), (.ite r (.lit 0) (.var 81), .ite resApp (.var 81) (.lit 0))]

theorem run39 : leafIs (.agg (.toC (flatE cpuKs (opsE nrmG cpuOs (vars 82 0))))) (evFn (ruleK (sgP nrmG) (eqsC stImpl rcImpl) (fun f => Nat.beq f 39)) 1000 39 (varsA [.agg cpuKs] 0) []) = true := by kernel_rfl
theorem run40 : leafIs (.agg (.toC (flatE cpuKs (opsE nrmG cpuOs (vars 82 0))))) (evFn (ruleK (sgP nrmG) (eqsC stRef rcRef) (fun f => Nat.beq f 40)) 1000 40 (varsA [.agg cpuKs] 0) []) = true := by kernel_rfl

theorem res_den {env : Env} (hF : EnvF Phi env) (a b c : E) : (E.app 22 (.cons a (.cons b (.cons c .nil)))).den env = resV [a.den env, b.den env, c.den env] := f22 hF _

theorem eqsC_impl {env : Env} (hF : EnvF Phi env) : ∀ p ∈ eqsC stImpl rcImpl, p.1.den env = p.2.den env := by
  have hr := res_den hF (.var 79) (.var 80) (.var 81)
  intro p hp
  simp only [eqsC, List.mem_cons, List.not_mem_nil, or_false] at hp
  rcases hp with rfl | rfl | rfl | rfl
  · rw [stImpl_den, app1_den, f20 hF]; rfl
  · rw [resV_den]; exact hr.symm
  · rw [res_rest, den_ite2]; unfold resApp; rw [hr]; rfl
  · rw [res_rest, den_ite2]; unfold resApp; rw [hr]; rfl

theorem ite_tt {env : Env} {c d : E} (h : c.tt env = d.tt env) (a b : E) : (E.ite c a b).den env = (E.ite d a b).den env := by rw [den_ite, den_ite, h]

theorem eqsC_ref {env : Env} (hF : EnvF Phi env) (hv : InK .u64 (env.v 80)) : ∀ p ∈ eqsC stRef rcRef, p.1.den env = p.2.den env := by
  have hr := res_den hF (.var 79) (.var 80) (.var 81)
  have hc := rc_eq env (.var 79) (.var 80) (.var 81) hv
  intro p hp
  simp only [eqsC, List.mem_cons, List.not_mem_nil, or_false] at hp
  rcases hp with rfl | rfl | rfl | rfl
  · rw [stRef_den, app1_den, f20 hF, stat_ref]; rfl
  · rw [ite_tt hc, resV_den]; exact hr.symm
  · rw [ite_tt hc, res_rest, den_ite2]; unfold resApp; rw [hr]; rfl
  · rw [ite_tt hc, res_rest, den_ite2]; unfold resApp; rw [hr]; rfl

theorem k80 : (shKs [.agg cpuKs])[80]? = some (some .u64) := by kernel_rfl
theorem h80 {env : Env} (h : VarsIn (shKs [.agg cpuKs]) 0 env) : InK .u64 (env.v 80) := by have := h 80 .u64 k80; rwa [Nat.zero_add] at this

set_option maxRecDepth 100000 in
theorem sgC_ok {env : Env} (hF : EnvF Phi env) {nrm : E → E} (hn : ∀ e, (nrm e).den env = e.den env) : SgF env Try.prog (sgC nrm) := by
  refine sgOps_ok hF hn (fun f hf => ?_)
  simp only [Bool.or_eq_true] at hf
  rcases hf with hf | hf
  · rw [Nat.eq_of_beq_eq_true hf]
    exact ⟨ruleK (sgP nrmG) (eqsC stImpl rcImpl) (fun f => Nat.beq f 39), 1000, opsE nrmG cpuOs (vars 82 0), rfl, rfl, run39, fun env hF _ e => rule_den (eqsC_impl hF) e, fun env hF _ => sgP_ok hF nrmG_den, fun env hF => opsE_den hF nrmG_den _ _⟩
  · rw [Nat.eq_of_beq_eq_true hf]
    exact ⟨ruleK (sgP nrmG) (eqsC stRef rcRef) (fun f => Nat.beq f 40), 1000, opsE nrmG cpuOs (vars 82 0), rfl, rfl, run40, fun env hF hV e => rule_den (eqsC_ref hF (h80 hV)) e, fun env hF _ => sgP_ok hF nrmG_den, fun env hF => opsE_den hF nrmG_den _ _⟩

/-- All of them. -/
noncomputable def sgAll (nrm : E → E) : FuncId → List C → Option C := sgOr (sgC nrm) (sgOr (sgP nrm) sgB)
theorem sgAll_ok {env : Env} (hF : EnvF Phi env) {nrm : E → E} (hn : ∀ e, (nrm e).den env = e.den env) : SgF env Try.prog (sgAll nrm) :=
  (sgC_ok hF hn).or ((sgP_ok hF hn).or (sgB_ok hF))

/-- A law's run: rules, equations, and all summaries. -/
noncomputable def lawK (osz : Nat → Option (List (Option IntKind))) (eqs : List (E × E)) (sp : FuncId → Bool) : Ctx :=
  { P := Try.prog, sg := sgAll (fun e => rw1 eqs (nrmG e)), sp := sp, osz := osz, nrm := fun e => rw1 eqs (nrmG e), nf := fun _ => false, fr := fun _ => true }

theorem case_of {P : Program} {f : FuncId} {kds : List Kd} {cs : List C} {env : Env} (K : Ctx) (n : Nat) (hP : K.P = P) (ho : K.osz = oszOf kds) (hn : ∀ e, (K.nrm e).den env = e.den env) (hs : SgF env K.P K.sg)
    (h : isTrue (evFn K n f cs []) = true) : Case P f kds cs env :=
  ⟨K, cs, n, hP, ho, hn, hs, fun _ h => h, isTrue_sat env h⟩

theorem case_law {f : FuncId} {kds : List Kd} {cs : List C} {env : Env} (hF : EnvF Phi env) (n : Nat) (eqs : List (E × E)) (sp : FuncId → Bool) (he : ∀ p ∈ eqs, p.1.den env = p.2.den env)
    (h : isTrue (evFn (lawK (oszOf kds) eqs sp) n f cs []) = true) : Case Try.prog f kds cs env := by
  have hs : SgF env (lawK (oszOf kds) eqs sp).P (lawK (oszOf kds) eqs sp).sg := sgAll_ok hF (rule_den he)
  exact case_of (lawK (oszOf kds) eqs sp) n rfl rfl (rule_den he) hs h

end Go.Proofs.Ytibfaifjnifgjaa
