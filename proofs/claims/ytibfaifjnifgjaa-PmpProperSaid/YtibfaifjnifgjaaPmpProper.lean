/- The law PmpProper returns true for every input and leaves its argument as it was. No condition. -/
import Derived.Test.YtibfaifjnifgjaaRows
import Derived.Test.YtibfaifjnifgjaaSx15
import Derived.Test.YtibfaifjnifgjaaSeat
namespace Go.Proofs.Ytibfaifjnifgjaa
open Go.ChangeShapes Go.WideShapes Go.ChangeAt Go.RowKit Go.Sx


namespace PmpProper
def kds : List Kd := List.replicate 16 (.num (some .u8)) ++ List.replicate 16 (.num (some .u64))
def cs : List C := [.agg (.toC (kdC kds 0))]
noncomputable def K : Ctx := { P := Try.prog, sg := fun _ _ => none, sp := fun _ => false, osz := oszOf kds }
theorem hargs : argsC Try.prog [26] 0 = some (cs, kds) := by kernel_rfl
theorem run : isTrue (evFn K 1000 3 cs []) = true := by kernel_rfl

set_option maxRecDepth 100000 in
theorem lifted (os : Os) (started : os.Started) (H : Type) (enc : TypeId × Value → H) :
    ReturnsInHanded {} Try.checked os 3 .any (Rows.pmpProperSpec.pre6 enc Try.prog Try.f3 Rows.pmpProperRow.domain false) (Rows.pmpProperSpec.post enc Try.prog Try.f3 false true false false) := by
  refine returnsInHanded_of_change (C := Try.checked) own started (by kernel_rfl) Try.func3
    (ChangeSpec.witness6 (enc := enc) (C := Try.checked) false ⟨#[], #[.agg (List.replicate 16 (Value.int .u8 0) ++ List.replicate 16 (Value.int .u64 0)).toArray], []⟩ 8 (by kernel_rfl) (by kernel_rfl) (by kernel_rfl) (by kernel_rfl)) ?_
  intro W base args ds gs before hval0 hW hcnd _
  have hval : ∀ (j : Nat) t v, Try.f3.params[j]? = some t → args[j]? = some v → Value.okWide Try.prog W .any base t v := hval0
  have hW' := hW
  obtain ⟨p, q, hA0, hV, rfl, hfz, hnd⟩ := hW
  have hA : DataW.TrodAll enc Try.prog W 0 (fun _ => true) true [26] args.toList ds p := hA0
  obtain ⟨rfl, rfl⟩ := trodVars_none hV
  have hA1 := hA
  obtain ⟨v0, vs0, d0, ds0, p0, q0, hargs0, rfl, hp0, _, r0⟩ := trodAll_cons hA1
  obtain ⟨_, rfl, _⟩ := trodAll_nil r0
  simp only [List.append_nil] at hW'
  refine (law_calls (K := K) (Φ := fun _ _ => 0) hA (fun j t v ht hv => hval j t v (by simpa using ht) hv) hargs (by decide) rfl (fun env _ => sg_none env (fun _ _ => rfl)) (fun env _ _ => isTrue_sat env run)).mono fun e W' ⟨he, bel⟩ => ?_
  subst he
  exact ⟨_, rfl, _, _, _, [], _, [], hW', trodAll_mk1 (shut_bool Try.underlying4 _), trodAll_stays laidOut bel _ _ _ _ (by kernel_rfl) hA, rfl, bel.frame _, fun h => by cases h⟩

theorem c1 : Try.pinned.checked.prog.funcNamed Rows.pmpProperRow.func = some 3 := by kernel_rfl
theorem c2 : joinedFacts Try.pinned.checked.prog 3 Try.f3 Rows.pmpProperSpec Rows.pmpProperRow = true := joined_mk rfl rfl (by kernel_rfl)
theorem c3 : Try.f3.isInstance Try.pinned.checked.prog Rows.pmpProperRow.origin Rows.pmpProperRow.targs := of_decide_eq_true (by kernel_rfl)
theorem c4 : Try.f3.isWrapper Try.pinned.checked.prog Rows.pmpProperRow.wrapper Rows.pmpProperRow.mainSum := by unfold Func.isWrapper; first | (rw [if_pos (by decide +kernel)]; kernel_rfl) | (rw [if_neg (by decide +kernel)]; exact ⟨rfl, rfl⟩)
theorem holds : Rows.PmpProperSaid :=
  OpenClaim.holds_of_wide 3 Try.f3 rfl rfl rfl rfl rfl rfl rfl ⟨rfl, rfl, rfl, rfl, rfl⟩ rfl rfl rfl rfl rfl c1 Try.func3 c2 c3 c4
    (fun os started H enc _ => lifted os started H enc)
end PmpProper
#print axioms PmpProper.holds
end Go.Proofs.Ytibfaifjnifgjaa
