/- The law CsrExists returns true for every input and leaves its argument as it was. No condition. -/
import Derived.Test.YtibfaifjnifgjaaRows
import Derived.Test.YtibfaifjnifgjaaSx15
import Derived.Test.YtibfaifjnifgjaaSeat
import Derived.Test.YtibfaifjnifgjaaCsrKeys
namespace Go.Proofs.Ytibfaifjnifgjaa
open Go.ChangeShapes Go.WideShapes Go.ChangeAt Go.RowKit Go.Sx
namespace CsrExists
def kds : List Kd := [Kd.num (some .i64)]
noncomputable def cs : List C := match argsC Try.prog [3] 0 with | some r => r.1 | none => []
theorem hargs : argsC Try.prog [3] 0 = some (cs, kds) := by kernel_rfl
abbrev Φ := Phi
noncomputable def K : Ctx := { P := Try.prog, sg := sgE, sp := fun _ => false, osz := oszOf kds, nrm := fun e => e, nf := fun _ => false, fr := fun _ => true }
theorem run : isTrue (evFn K 1000 23 cs []) = true := by kernel_rfl
theorem cases (env : Env) (hF : EnvF Φ env) (_hW : WfEnv env kds) : Case Try.prog 23 kds cs env := case_of K 1000 rfl rfl (fun _ => rfl) (sgE_ok hF) run
set_option maxRecDepth 100000 in
theorem lifted (os : Os) (started : os.Started) (H : Type) (enc : TypeId × Value → H) :
    ReturnsInHanded {} Try.checked os 23 .any (Rows.csrExistsSpec.pre6 enc Try.prog Try.f23 Rows.csrExistsRow.domain false) (Rows.csrExistsSpec.post enc Try.prog Try.f23 false true false false) := by
  refine returnsInHanded_of_change (C := Try.checked) own started (by kernel_rfl) Try.func23
    (ChangeSpec.witness6 (enc := enc) (C := Try.checked) false ⟨#[], #[.int .i64 0], []⟩ 8 (by kernel_rfl) (by kernel_rfl) (by kernel_rfl) (by kernel_rfl)) ?_
  intro W base args ds gs before hval0 hW hcnd _
  have hval : ∀ (j : Nat) t v, Try.f23.params[j]? = some t → args[j]? = some v → Value.okWide Try.prog W .any base t v := hval0
  have hW' := hW
  obtain ⟨p, q, hA0, hV, rfl, hfz, hnd⟩ := hW
  have hA : DataW.TrodAll enc Try.prog W 0 (fun _ => true) true [3] args.toList ds p := hA0
  obtain ⟨rfl, rfl⟩ := trodVars_none hV
  have hA1 := hA
  obtain ⟨v0, vs0, d0, ds0, p0, q0, hargs0, rfl, hp0, _, r0⟩ := trodAll_cons hA1
  obtain ⟨_, rfl, _⟩ := trodAll_nil r0
  simp only [List.append_nil] at hW'
  refine (law_calls Φ hA (fun j t v ht hv => hval j t v (by simpa using ht) hv) hargs (by decide) cases).mono fun e W' ⟨he, bel⟩ => ?_
  subst he
  exact ⟨_, rfl, _, _, _, [], _, [], hW', trodAll_mk1 (shut_bool Try.underlying4 _), trodAll_stays laidOut bel _ _ _ _ (by kernel_rfl) hA, rfl, bel.frame _, fun h => by cases h⟩

theorem c1 : Try.pinned.checked.prog.funcNamed Rows.csrExistsRow.func = some 23 := by kernel_rfl
theorem c2 : joinedFacts Try.pinned.checked.prog 23 Try.f23 Rows.csrExistsSpec Rows.csrExistsRow = true := joined_mk rfl rfl (by kernel_rfl)
theorem c3 : Try.f23.isInstance Try.pinned.checked.prog Rows.csrExistsRow.origin Rows.csrExistsRow.targs := of_decide_eq_true (by kernel_rfl)
theorem c4 : Try.f23.isWrapper Try.pinned.checked.prog Rows.csrExistsRow.wrapper Rows.csrExistsRow.mainSum := by unfold Func.isWrapper; first | (rw [if_pos (by decide +kernel)]; kernel_rfl) | (rw [if_neg (by decide +kernel)]; exact ⟨rfl, rfl⟩)
theorem holds : Rows.CsrExistsSaid :=
  OpenClaim.holds_of_wide 23 Try.f23 rfl rfl rfl rfl rfl rfl rfl ⟨rfl, rfl, rfl, rfl, rfl⟩ rfl rfl rfl rfl rfl c1 Try.func23 c2 c3 c4
    (fun os started H enc _ => lifted os started H enc)
end CsrExists
#print axioms CsrExists.holds
end Go.Proofs.Ytibfaifjnifgjaa
