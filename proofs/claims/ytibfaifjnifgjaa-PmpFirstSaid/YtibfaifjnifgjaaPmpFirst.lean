/- The law PmpFirst returns true for every input and leaves its argument as it was. No condition. -/
import Derived.Test.YtibfaifjnifgjaaRows
import Derived.Test.YtibfaifjnifgjaaSx15
import Derived.Test.YtibfaifjnifgjaaSeat
import Derived.Test.YtibfaifjnifgjaaPmpFirstR0
import Derived.Test.YtibfaifjnifgjaaPmpFirstR1
import Derived.Test.YtibfaifjnifgjaaPmpFirstR2
import Derived.Test.YtibfaifjnifgjaaPmpFirstR3
import Derived.Test.YtibfaifjnifgjaaPmpFirstR4
import Derived.Test.YtibfaifjnifgjaaPmpFirstR5
namespace Go.Proofs.Ytibfaifjnifgjaa
open Go.ChangeShapes Go.WideShapes Go.ChangeAt Go.RowKit Go.Sx
namespace PmpFirst
def kds : List Kd := List.replicate 16 (Kd.num (some .u8)) ++ List.replicate 16 (Kd.num (some .u64)) ++ [Kd.num (some .i64)] ++ [Kd.num (some .u64)] ++ [Kd.num (some .i64)] ++ [Kd.num (some .u64)] ++ List.replicate 2 (Kd.num (some .i64))
noncomputable def cs : List C := match argsC Try.prog [37] 0 with | some r => r.1 | none => []
theorem hargs : argsC Try.prog [37] 0 = some (cs, kds) := by kernel_rfl
abbrev Φ := Phi
theorem runs : ∀ j, j < 16 → PmpFirstP.runQ (PmpFirstP.eqsJ j) = true
  | 0, _ => firstR0
  | 1, _ => firstR1
  | 2, _ => firstR2
  | 3, _ => firstR3
  | 4, _ => firstR4
  | 5, _ => firstR5
  | 6, _ => firstR6
  | 7, _ => firstR7
  | 8, _ => firstR8
  | 9, _ => firstR9
  | 10, _ => firstR10
  | 11, _ => firstR11
  | 12, _ => firstR12
  | 13, _ => firstR13
  | 14, _ => firstR14
  | 15, _ => firstR15
  | n + 16, h => absurd h (by omega)
set_option maxRecDepth 100000 in
theorem cases (env : Env) (hF : EnvF Φ env) (_hW : WfEnv env kds) : Case Try.prog 27 kds cs env := by
  rcases matchI_range (canonV.map (E.den env)) (env.v 35) (env.v 36) with hm | ⟨j, hj, hm⟩
  · exact PmpFirstP.case_q hF (PmpFirstP.eqsN_ok hF hm) firstN
  · exact PmpFirstP.case_q hF (PmpFirstP.eqsJ_ok hF hm) (runs j hj)
set_option maxRecDepth 100000 in
theorem lifted (os : Os) (started : os.Started) (H : Type) (enc : TypeId × Value → H) :
    ReturnsInHanded {} Try.checked os 27 .any (Rows.pmpFirstSpec.pre6 enc Try.prog Try.f27 Rows.pmpFirstRow.domain false) (Rows.pmpFirstSpec.post enc Try.prog Try.f27 false true false false) := by
  refine returnsInHanded_of_change (C := Try.checked) own started (by kernel_rfl) Try.func27
    (ChangeSpec.witness6 (enc := enc) (C := Try.checked) false ⟨#[], #[.agg (List.replicate 16 (Value.int .u8 0) ++ List.replicate 16 (Value.int .u64 0) ++ [Value.int .i64 0] ++ [Value.int .u64 0] ++ [Value.int .i64 0] ++ [Value.int .u64 0] ++ List.replicate 2 (Value.int .i64 0)).toArray], []⟩ 8 (by kernel_rfl) (by kernel_rfl) (by kernel_rfl) (by kernel_rfl)) ?_
  intro W base args ds gs before hval0 hW hcnd _
  have hval : ∀ (j : Nat) t v, Try.f27.params[j]? = some t → args[j]? = some v → Value.okWide Try.prog W .any base t v := hval0
  have hW' := hW
  obtain ⟨p, q, hA0, hV, rfl, hfz, hnd⟩ := hW
  have hA : DataW.TrodAll enc Try.prog W 0 (fun _ => true) true [37] args.toList ds p := hA0
  obtain ⟨rfl, rfl⟩ := trodVars_none hV
  have hA1 := hA
  obtain ⟨v0, vs0, d0, ds0, p0, q0, hargs0, rfl, hp0, _, r0⟩ := trodAll_cons hA1
  obtain ⟨_, rfl, _⟩ := trodAll_nil r0
  simp only [List.append_nil] at hW'
  refine (law_calls Φ hA (fun j t v ht hv => hval j t v (by simpa using ht) hv) hargs (by decide) cases).mono fun e W' ⟨he, bel⟩ => ?_
  subst he
  exact ⟨_, rfl, _, _, _, [], _, [], hW', trodAll_mk1 (shut_bool Try.underlying4 _), trodAll_stays laidOut bel _ _ _ _ (by kernel_rfl) hA, rfl, bel.frame _, fun h => by cases h⟩

theorem c1 : Try.pinned.checked.prog.funcNamed Rows.pmpFirstRow.func = some 27 := by kernel_rfl
theorem c2 : joinedFacts Try.pinned.checked.prog 27 Try.f27 Rows.pmpFirstSpec Rows.pmpFirstRow = true := joined_mk rfl rfl (by kernel_rfl)
theorem c3 : Try.f27.isInstance Try.pinned.checked.prog Rows.pmpFirstRow.origin Rows.pmpFirstRow.targs := of_decide_eq_true (by kernel_rfl)
theorem c4 : Try.f27.isWrapper Try.pinned.checked.prog Rows.pmpFirstRow.wrapper Rows.pmpFirstRow.mainSum := by unfold Func.isWrapper; first | (rw [if_pos (by decide +kernel)]; kernel_rfl) | (rw [if_neg (by decide +kernel)]; exact ⟨rfl, rfl⟩)
theorem holds : Rows.PmpFirstSaid :=
  OpenClaim.holds_of_wide 27 Try.f27 rfl rfl rfl rfl rfl rfl rfl ⟨rfl, rfl, rfl, rfl, rfl⟩ rfl rfl rfl rfl rfl c1 Try.func27 c2 c3 c4
    (fun os started H enc _ => lifted os started H enc)
end PmpFirst
#print axioms PmpFirst.holds
end Go.Proofs.Ytibfaifjnifgjaa
