/- The law CsrCounts returns true for every input and leaves its argument as it was. No condition. -/
import Derived.Test.YtibfaifjnifgjaaRows
import Derived.Test.YtibfaifjnifgjaaSx15
import Derived.Test.YtibfaifjnifgjaaSeat
import Derived.Test.YtibfaifjnifgjaaSum2
import Derived.Test.YtibfaifjnifgjaaBits2
namespace Go.Proofs.Ytibfaifjnifgjaa
open Go.ChangeShapes Go.WideShapes Go.ChangeAt Go.RowKit Go.Sx
namespace CsrCounts
def kds : List Kd := List.replicate 33 (Kd.num (some .u64)) ++ [Kd.num (some .i64)] ++ [Kd.num none] ++ List.replicate 12 (Kd.num (some .u64)) ++ List.replicate 16 (Kd.num (some .u8)) ++ List.replicate 16 (Kd.num (some .u64)) ++ [Kd.num none] ++ [Kd.num (some .u64)] ++ [Kd.num (some .i64)] ++ List.replicate 33 (Kd.num (some .u64)) ++ [Kd.num (some .i64)] ++ [Kd.num none] ++ List.replicate 12 (Kd.num (some .u64)) ++ List.replicate 16 (Kd.num (some .u8)) ++ List.replicate 16 (Kd.num (some .u64)) ++ [Kd.num none] ++ [Kd.num (some .u64)] ++ [Kd.num (some .i64)] ++ List.replicate 3 (Kd.num none)
noncomputable def cs : List C := match argsC Try.prog [45] 0 with | some r => r.1 | none => []
theorem hargs : argsC Try.prog [45] 0 = some (cs, kds) := by kernel_rfl
abbrev Φ := Phi
def lhs : E := .bin .eql .u64 (.bin .and .u64 (.bin .shr .u64 (.bin .and .u64 (.var 121) (.lit 5)) (.lit 2)) (.lit 1)) (.lit 0)
def rhs : E := .bin .eql .u64 (.bin .and .u64 (.var 121) (.lit 4)) (.lit 0)
theorem all_eq : (subsN 3 5).all (fun n => decide (lhs.den ⟨fun _ => n, fun _ _ => 0, fun _ => (none, 0, 0)⟩ = rhs.den ⟨fun _ => n, fun _ _ => 0, fun _ => (none, 0, 0)⟩)) = true := by decide +kernel
theorem eq (env : Env) : lhs.den env = rhs.den env := by
  have h := of_decide_eq_true (List.all_eq_true.1 all_eq _ (mask_mem (env.v 121) 5 3 (by decide) (by decide)))
  have e1 := and_of_mask (env.v 121) 5 5 (by decide)
  have e2 := and_of_mask (env.v 121) 4 5 (by decide)
  show b2i (binDen .and .u64 (binDen .shr .u64 (binDen .and .u64 (env.v 121) (5 : Nat)) 2) 1 == 0) = b2i (binDen .and .u64 (env.v 121) (4 : Nat) == 0)
  rw [e1, e2]; exact h
theorem run : isTrue (evFn (lawK (oszOf kds) [(lhs, rhs)] (fun _ => false)) 1000 7 cs []) = true := by kernel_rfl
theorem cases (env : Env) (hF : EnvF Φ env) (_ : WfEnv env kds) : Case Try.prog 7 kds cs env := case_law hF 1000 [(lhs, rhs)] _ (by simp [eq]) run
set_option maxRecDepth 100000 in
theorem lifted (os : Os) (started : os.Started) (H : Type) (enc : TypeId × Value → H) :
    ReturnsInHanded {} Try.checked os 7 .any (Rows.csrCountsSpec.pre6 enc Try.prog Try.f7 Rows.csrCountsRow.domain false) (Rows.csrCountsSpec.post enc Try.prog Try.f7 false true false false) := by
  refine returnsInHanded_of_change (C := Try.checked) own started (by kernel_rfl) Try.func7
    (ChangeSpec.witness6 (enc := enc) (C := Try.checked) false ⟨#[], #[.agg (List.replicate 33 (Value.int .u64 0) ++ [Value.int .i64 0] ++ [Value.bool false] ++ List.replicate 12 (Value.int .u64 0) ++ List.replicate 16 (Value.int .u8 0) ++ List.replicate 16 (Value.int .u64 0) ++ [Value.bool false] ++ [Value.int .u64 0] ++ [Value.int .i64 0] ++ List.replicate 33 (Value.int .u64 0) ++ [Value.int .i64 0] ++ [Value.bool false] ++ List.replicate 12 (Value.int .u64 0) ++ List.replicate 16 (Value.int .u8 0) ++ List.replicate 16 (Value.int .u64 0) ++ [Value.bool false] ++ [Value.int .u64 0] ++ [Value.int .i64 0] ++ List.replicate 3 (Value.bool false)).toArray], []⟩ 8 (by kernel_rfl) (by kernel_rfl) (by kernel_rfl) (by kernel_rfl)) ?_
  intro W base args ds gs before hval0 hW hcnd _
  have hval : ∀ (j : Nat) t v, Try.f7.params[j]? = some t → args[j]? = some v → Value.okWide Try.prog W .any base t v := hval0
  have hW' := hW
  obtain ⟨p, q, hA0, hV, rfl, hfz, hnd⟩ := hW
  have hA : DataW.TrodAll enc Try.prog W 0 (fun _ => true) true [45] args.toList ds p := hA0
  obtain ⟨rfl, rfl⟩ := trodVars_none hV
  have hA1 := hA
  obtain ⟨v0, vs0, d0, ds0, p0, q0, hargs0, rfl, hp0, _, r0⟩ := trodAll_cons hA1
  obtain ⟨_, rfl, _⟩ := trodAll_nil r0
  simp only [List.append_nil] at hW'
  refine (law_calls Φ hA (fun j t v ht hv => hval j t v (by simpa using ht) hv) hargs (by decide) cases).mono fun e W' ⟨he, bel⟩ => ?_
  subst he
  exact ⟨_, rfl, _, _, _, [], _, [], hW', trodAll_mk1 (shut_bool Try.underlying4 _), trodAll_stays laidOut bel _ _ _ _ (by kernel_rfl) hA, rfl, bel.frame _, fun h => by cases h⟩

theorem c1 : Try.pinned.checked.prog.funcNamed Rows.csrCountsRow.func = some 7 := by kernel_rfl
theorem c2 : joinedFacts Try.pinned.checked.prog 7 Try.f7 Rows.csrCountsSpec Rows.csrCountsRow = true := joined_mk rfl rfl (by kernel_rfl)
theorem c3 : Try.f7.isInstance Try.pinned.checked.prog Rows.csrCountsRow.origin Rows.csrCountsRow.targs := of_decide_eq_true (by kernel_rfl)
theorem c4 : Try.f7.isWrapper Try.pinned.checked.prog Rows.csrCountsRow.wrapper Rows.csrCountsRow.mainSum := by unfold Func.isWrapper; first | (rw [if_pos (by decide +kernel)]; kernel_rfl) | (rw [if_neg (by decide +kernel)]; exact ⟨rfl, rfl⟩)
theorem holds : Rows.CsrCountsSaid :=
  OpenClaim.holds_of_wide 7 Try.f7 rfl rfl rfl rfl rfl rfl rfl ⟨rfl, rfl, rfl, rfl, rfl⟩ rfl rfl rfl rfl rfl c1 Try.func7 c2 c3 c4
    (fun os started H enc _ => lifted os started H enc)
end CsrCounts
#print axioms CsrCounts.holds
end Go.Proofs.Ytibfaifjnifgjaa
