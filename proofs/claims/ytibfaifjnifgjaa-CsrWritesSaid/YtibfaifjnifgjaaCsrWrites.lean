/- The law CsrWrites returns true for every input and leaves its argument as it was. No condition. -/
import Derived.Test.YtibfaifjnifgjaaRows
import Derived.Test.YtibfaifjnifgjaaSx15
import Derived.Test.YtibfaifjnifgjaaSeat
import Derived.Test.YtibfaifjnifgjaaCsrSum
namespace Go.Proofs.Ytibfaifjnifgjaa
open Go.ChangeShapes Go.WideShapes Go.ChangeAt Go.RowKit Go.Sx
namespace CsrWrites
def kds : List Kd := List.replicate 33 (Kd.num (some .u64)) ++ [Kd.num (some .i64)] ++ [Kd.num none] ++ List.replicate 12 (Kd.num (some .u64)) ++ List.replicate 16 (Kd.num (some .u8)) ++ List.replicate 16 (Kd.num (some .u64)) ++ [Kd.num none] ++ [Kd.num (some .u64)] ++ List.replicate 2 (Kd.num (some .i64)) ++ List.replicate 3 (Kd.num (some .u64))
noncomputable def cs : List C := match argsC Try.prog [77] 0 with | some r => r.1 | none => []
theorem hargs : argsC Try.prog [77] 0 = some (cs, kds) := by kernel_rfl
abbrev Φ := Phi
theorem run : isTrue (evFn (lawX (oszOf kds) [] (fun _ => false)) 1000 30 cs []) = true := by kernel_rfl
theorem cases (env : Env) (hF : EnvF Φ env) (_hW : WfEnv env kds) : Case Try.prog 30 kds cs env := case_lawX hF 1000 [] _ (by simp) run
set_option maxRecDepth 100000 in
theorem lifted (os : Os) (started : os.Started) (H : Type) (enc : TypeId × Value → H) :
    ReturnsInHanded {} Try.checked os 30 .any (Rows.csrWritesSpec.pre6 enc Try.prog Try.f30 Rows.csrWritesRow.domain false) (Rows.csrWritesSpec.post enc Try.prog Try.f30 false true false false) := by
  refine returnsInHanded_of_change (C := Try.checked) own started (by kernel_rfl) Try.func30
    (ChangeSpec.witness6 (enc := enc) (C := Try.checked) false ⟨#[], #[.agg (List.replicate 33 (Value.int .u64 0) ++ [Value.int .i64 0] ++ [Value.bool false] ++ List.replicate 12 (Value.int .u64 0) ++ List.replicate 16 (Value.int .u8 0) ++ List.replicate 16 (Value.int .u64 0) ++ [Value.bool false] ++ [Value.int .u64 0] ++ List.replicate 2 (Value.int .i64 0) ++ List.replicate 3 (Value.int .u64 0)).toArray], []⟩ 8 (by kernel_rfl) (by kernel_rfl) (by kernel_rfl) (by kernel_rfl)) ?_
  intro W base args ds gs before hval0 hW hcnd _
  have hval : ∀ (j : Nat) t v, Try.f30.params[j]? = some t → args[j]? = some v → Value.okWide Try.prog W .any base t v := hval0
  have hW' := hW
  obtain ⟨p, q, hA0, hV, rfl, hfz, hnd⟩ := hW
  have hA : DataW.TrodAll enc Try.prog W 0 (fun _ => true) true [77] args.toList ds p := hA0
  obtain ⟨rfl, rfl⟩ := trodVars_none hV
  have hA1 := hA
  obtain ⟨v0, vs0, d0, ds0, p0, q0, hargs0, rfl, hp0, _, r0⟩ := trodAll_cons hA1
  obtain ⟨_, rfl, _⟩ := trodAll_nil r0
  simp only [List.append_nil] at hW'
  refine (law_calls Φ hA (fun j t v ht hv => hval j t v (by simpa using ht) hv) hargs (by decide) cases).mono fun e W' ⟨he, bel⟩ => ?_
  subst he
  exact ⟨_, rfl, _, _, _, [], _, [], hW', trodAll_mk1 (shut_bool Try.underlying4 _), trodAll_stays laidOut bel _ _ _ _ (by kernel_rfl) hA, rfl, bel.frame _, fun h => by cases h⟩

theorem c1 : Try.pinned.checked.prog.funcNamed Rows.csrWritesRow.func = some 30 := by kernel_rfl
theorem c2 : joinedFacts Try.pinned.checked.prog 30 Try.f30 Rows.csrWritesSpec Rows.csrWritesRow = true := joined_mk rfl rfl (by kernel_rfl)
theorem c3 : Try.f30.isInstance Try.pinned.checked.prog Rows.csrWritesRow.origin Rows.csrWritesRow.targs := of_decide_eq_true (by kernel_rfl)
theorem c4 : Try.f30.isWrapper Try.pinned.checked.prog Rows.csrWritesRow.wrapper Rows.csrWritesRow.mainSum := by unfold Func.isWrapper; first | (rw [if_pos (by decide +kernel)]; kernel_rfl) | (rw [if_neg (by decide +kernel)]; exact ⟨rfl, rfl⟩)
theorem holds : Rows.CsrWritesSaid :=
  OpenClaim.holds_of_wide 30 Try.f30 rfl rfl rfl rfl rfl rfl rfl ⟨rfl, rfl, rfl, rfl, rfl⟩ rfl rfl rfl rfl rfl c1 Try.func30 c2 c3 c4
    (fun os started H enc _ => lifted os started H enc)
end CsrWrites
#print axioms CsrWrites.holds
end Go.Proofs.Ytibfaifjnifgjaa
