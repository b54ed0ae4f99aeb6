/- The law CsrTells returns true for every input and leaves its argument as it was. No condition. -/
import Derived.Test.YtibfaifjnifgjaaRows
import Derived.Test.YtibfaifjnifgjaaSx15
import Derived.Test.YtibfaifjnifgjaaSeat
import Derived.Test.YtibfaifjnifgjaaCsrTellR0
import Derived.Test.YtibfaifjnifgjaaCsrTellR1
import Derived.Test.YtibfaifjnifgjaaCsrTellR2
import Derived.Test.YtibfaifjnifgjaaCsrTellR3
import Derived.Test.YtibfaifjnifgjaaCsrTellR4
namespace Go.Proofs.Ytibfaifjnifgjaa
open Go.ChangeShapes Go.WideShapes Go.ChangeAt Go.RowKit Go.Sx
namespace CsrTells
def kds : List Kd := List.replicate 33 (Kd.num (some .u64)) ++ [Kd.num (some .i64)] ++ [Kd.num none] ++ List.replicate 12 (Kd.num (some .u64)) ++ List.replicate 16 (Kd.num (some .u8)) ++ List.replicate 16 (Kd.num (some .u64)) ++ [Kd.num none] ++ [Kd.num (some .u64)] ++ [Kd.num (some .i64)] ++ List.replicate 2 (Kd.num (some .u64)) ++ [Kd.sl [some .i64, some .u64, none]] ++ List.replicate 33 (Kd.num (some .u64)) ++ [Kd.num (some .i64)] ++ [Kd.num none] ++ List.replicate 12 (Kd.num (some .u64)) ++ List.replicate 16 (Kd.num (some .u8)) ++ List.replicate 16 (Kd.num (some .u64)) ++ [Kd.num none] ++ [Kd.num (some .u64)] ++ List.replicate 2 (Kd.num (some .i64)) ++ List.replicate 3 (Kd.num (some .u64))
noncomputable def cs : List C := match argsC Try.prog [84, 77] 0 with | some r => r.1 | none => []
theorem hargs : argsC Try.prog [84, 77] 0 = some (cs, kds) := by kernel_rfl
abbrev Φ := Phi
noncomputable abbrev code : Code := CsrTellP.code
noncomputable abbrev foc : List Fr × Code := CsrTellP.foc
theorem hb : Try.f34.body = some code := by kernel_rfl
theorem hfoc : focus code [] = some (foc.1, foc.2) := by kernel_rfl
theorem hbase : kds.length ≤ 199 := Nat.le_of_ble_eq_true (by kernel_rfl)
abbrev pat : St := CsrTellP.pat
theorem hcl : patClean pat = true := by kernel_rfl
def Inv : Nat → Env → Prop := fun m env => Counts 199 84 m env
theorem to_run : toOkB Try.prog Try.f34 199 pat 199 (evTo (lawX (oszOf kds) [] (fun _ => false)) 1000 34 code [] ⟨cs ++ List.replicate (Try.f34.ntmps - cs.length) C.undef, []⟩) = true := by kernel_rfl
theorem rounds : ∀ i, i < 13 → CsrTellP.round i = true
  | 0, _ => tellR0
  | 1, _ => tellR1
  | 2, _ => tellR2
  | 3, _ => tellR3
  | 4, _ => tellR4
  | 5, _ => tellR5
  | 6, _ => tellR6
  | 7, _ => tellR7
  | 8, _ => tellR8
  | 9, _ => tellR9
  | 10, _ => tellR10
  | 11, _ => tellR11
  | 12, _ => tellR12
  | n + 13, h => absurd h (by omega)
set_option maxRecDepth 100000 in
theorem h1 (env : Env) (hF : EnvF Φ env) (_hW : WfEnv env kds) : ∃ K n, CtxOk Try.prog (oszOf kds) env K ∧ (evTo K n 34 code [] ⟨cs ++ List.replicate (Try.f34.ntmps - cs.length) C.undef, []⟩).sat env (ToEnd Try.prog Try.f34 env (fun s => ∃ σ m, matchSt 199 pat s = some σ ∧ Inv m (updV env σ))) :=
  ⟨(lawX (oszOf kds) [] (fun _ => false)), 1000, lawX_ok hF _ (by simp), toOkB_sat to_run⟩
set_option maxRecDepth 100000 in
theorem h2 (m : Nat) (env : Env) (hF : EnvF Φ env) (_hW : WfEnv env kds) (_hP : PatIn env pat) (hI : Inv m env) : ∃ K n, CtxOk Try.prog (oszOf kds) env K ∧ (evCode K n 34 foc.2 pat).sat env (RoundEnd Try.prog K n 34 Try.f34 foc.1 env (fun s => ∃ σ m', m' < m ∧ matchSt 199 pat s = some σ ∧ Inv m' (updV env σ))) := by
  obtain ⟨i, hi, hq⟩ := tell_cases hF
  have hr := rounds i hi
  unfold CsrTellP.round at hr
  exact ⟨CsrTellP.K i, 1000, lawXL_ok hF _ _ hq, roundOk_sat hI (hF.2.2 _) (by simp) hr⟩
set_option maxRecDepth 100000 in
theorem lifted (os : Os) (started : os.Started) (H : Type) (enc : TypeId × Value → H) :
    ReturnsInHanded {} Try.checked os 34 .any (Rows.csrTellsSpec.pre6 enc Try.prog Try.f34 Rows.csrTellsRow.domain false) (Rows.csrTellsSpec.post enc Try.prog Try.f34 false true false false) := by
  refine returnsInHanded_of_change (C := Try.checked) own started (by kernel_rfl) Try.func34
    (ChangeSpec.witness6 (enc := enc) (C := Try.checked) false ⟨#[], #[.agg (List.replicate 33 (Value.int .u64 0) ++ [Value.int .i64 0] ++ [Value.bool false] ++ List.replicate 12 (Value.int .u64 0) ++ List.replicate 16 (Value.int .u8 0) ++ List.replicate 16 (Value.int .u64 0) ++ [Value.bool false] ++ [Value.int .u64 0] ++ [Value.int .i64 0] ++ List.replicate 2 (Value.int .u64 0) ++ [Value.slice none 0 0]).toArray, .agg (List.replicate 33 (Value.int .u64 0) ++ [Value.int .i64 0] ++ [Value.bool false] ++ List.replicate 12 (Value.int .u64 0) ++ List.replicate 16 (Value.int .u8 0) ++ List.replicate 16 (Value.int .u64 0) ++ [Value.bool false] ++ [Value.int .u64 0] ++ List.replicate 2 (Value.int .i64 0) ++ List.replicate 3 (Value.int .u64 0)).toArray], []⟩ 8 (by kernel_rfl) (by kernel_rfl) (by kernel_rfl) (by kernel_rfl)) ?_
  intro W base args ds gs before hval0 hW hcnd _
  have hval : ∀ (j : Nat) t v, Try.f34.params[j]? = some t → args[j]? = some v → Value.okWide Try.prog W .any base t v := hval0
  have hW' := hW
  obtain ⟨p, q, hA0, hV, rfl, hfz, hnd⟩ := hW
  have hA : DataW.TrodAll enc Try.prog W 0 (fun _ => true) true [84, 77] args.toList ds p := hA0
  obtain ⟨rfl, rfl⟩ := trodVars_none hV
  have hA1 := hA
  obtain ⟨v0, vs0, d0, ds0, p0, q0, hargs0, rfl, hp0, _, r0⟩ := trodAll_cons hA1
  obtain ⟨v1, vs1, d1, ds1, p1, q1, hargs1, rfl, hp1, _, r1⟩ := trodAll_cons r0
  obtain ⟨_, rfl, _⟩ := trodAll_nil r1
  simp only [List.append_nil] at hW'
  refine (law_loop Φ hA (fun j t v ht hv => hval j t v (by simpa using ht) hv) hargs (by decide) Try.func34 hb hfoc hbase hcl Inv h1 h2).mono fun e W' ⟨he, bel⟩ => ?_
  subst he
  exact ⟨_, rfl, _, _, _, [], _, [], hW', trodAll_mk1 (shut_bool Try.underlying4 _), trodAll_stays laidOut bel _ _ _ _ (by kernel_rfl) hA, rfl, bel.frame _, fun h => by cases h⟩

theorem c1 : Try.pinned.checked.prog.funcNamed Rows.csrTellsRow.func = some 34 := by kernel_rfl
theorem c2 : joinedFacts Try.pinned.checked.prog 34 Try.f34 Rows.csrTellsSpec Rows.csrTellsRow = true := joined_mk rfl rfl (by kernel_rfl)
theorem c3 : Try.f34.isInstance Try.pinned.checked.prog Rows.csrTellsRow.origin Rows.csrTellsRow.targs := of_decide_eq_true (by kernel_rfl)
theorem c4 : Try.f34.isWrapper Try.pinned.checked.prog Rows.csrTellsRow.wrapper Rows.csrTellsRow.mainSum := by unfold Func.isWrapper; first | (rw [if_pos (by decide +kernel)]; kernel_rfl) | (rw [if_neg (by decide +kernel)]; exact ⟨rfl, rfl⟩)
theorem holds : Rows.CsrTellsSaid :=
  OpenClaim.holds_of_wide 34 Try.f34 rfl rfl rfl rfl rfl rfl rfl ⟨rfl, rfl, rfl, rfl, rfl⟩ rfl rfl rfl rfl rfl c1 Try.func34 c2 c3 c4
    (fun os started H enc _ => lifted os started H enc)
end CsrTells
#print axioms CsrTells.holds
end Go.Proofs.Ytibfaifjnifgjaa
