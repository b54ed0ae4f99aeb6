/- The law CsrUser returns true for every input and leaves its argument as it was. No condition. -/
import Derived.Test.YtibfaifjnifgjaaRows
import Derived.Test.YtibfaifjnifgjaaSx15
import Derived.Test.YtibfaifjnifgjaaSeat
import Derived.Test.YtibfaifjnifgjaaCsrUserQ
namespace Go.Proofs.Ytibfaifjnifgjaa
open Go.ChangeShapes Go.WideShapes Go.ChangeAt Go.RowKit Go.Sx
namespace CsrUser
def kds : List Kd := List.replicate 33 (Kd.num (some .u64)) ++ [Kd.num (some .i64)] ++ [Kd.num none] ++ List.replicate 12 (Kd.num (some .u64)) ++ List.replicate 16 (Kd.num (some .u8)) ++ List.replicate 16 (Kd.num (some .u64)) ++ [Kd.num none] ++ [Kd.num (some .u64)] ++ List.replicate 2 (Kd.num (some .i64)) ++ List.replicate 3 (Kd.num (some .u64))
noncomputable def cs : List C := match argsC Try.prog [77] 0 with | some r => r.1 | none => []
theorem hargs : argsC Try.prog [77] 0 = some (cs, kds) := by kernel_rfl
abbrev Φ := Phi
noncomputable def runB (ex lo : Bool) : Bool := isTrue (evFn (lawX (oszOf kds) (userB ex lo) (fun _ => false)) 1000 36 cs [])
noncomputable def runA (k : Int) (b : Bool) : Bool := isTrue (evFn (lawX (oszOf kds) (userA k b) (fun _ => false)) 1000 36 (cs.map (C.fix (.var 82) k)) [])
theorem runB0 : runB true true = true := by kernel_rfl
theorem runB1 : runB true false = true := by kernel_rfl
theorem runB2 : runB false true = true := by kernel_rfl
theorem runB3 : runB false false = true := by kernel_rfl
theorem runA0 : runA 0xc00 true = true := by kernel_rfl
theorem runA1 : runA 0xc00 false = true := by kernel_rfl
theorem runA2 : runA 0xc01 true = true := by kernel_rfl
theorem runA3 : runA 0xc01 false = true := by kernel_rfl
theorem runA4 : runA 0xc02 true = true := by kernel_rfl
theorem runA5 : runA 0xc02 false = true := by kernel_rfl
theorem runAs {k : Int} (hk : k = 0xc00 ∨ k = 0xc01 ∨ k = 0xc02) (b : Bool) : runA k b = true := by
  rcases hk with rfl | rfl | rfl
  · cases b with
    | true => exact runA0
    | false => exact runA1
  · cases b with
    | true => exact runA2
    | false => exact runA3
  · cases b with
    | true => exact runA4
    | false => exact runA5
theorem runBs (ex lo : Bool) : runB ex lo = true := by
  cases ex with
  | true => cases lo with
    | true => exact runB0
    | false => exact runB1
  | false => cases lo with
    | true => exact runB2
    | false => exact runB3
theorem case_a {env : Env} (hF : EnvF Φ env) {k : Int} {b : Bool} (he : ∀ p ∈ userA k b, p.1.den env = p.2.den env) (h : runA k b = true) : Case Try.prog 36 kds (cs.map (C.fix (.var 82) k)) env := by
  unfold runA at h
  exact case_lawX hF 1000 (userA k b) (fun _ => false) he h
theorem case_b {env : Env} (hF : EnvF Φ env) {ex lo : Bool} (he : ∀ p ∈ userB ex lo, p.1.den env = p.2.den env) (h : runB ex lo = true) : Case Try.prog 36 kds cs env := by
  unfold runB at h
  exact case_lawX hF 1000 (userB ex lo) (fun _ => false) he h
theorem cases (env : Env) (hF : EnvF Φ env) (_hW : WfEnv env kds) : Case Try.prog 36 kds cs env := by
  by_cases h : 0xc00 ≤ env.v 82 ∧ env.v 82 ≤ 0xc02
  · have hk : env.v 82 = 0xc00 ∨ env.v 82 = 0xc01 ∨ env.v 82 = 0xc02 := by omega
    exact Case.fixed (.var 82) (env.v 82) rfl (case_a hF (user_a hF hk) (runAs hk _))
  · exact case_b hF (user_b hF h) (runBs _ _)
set_option maxRecDepth 100000 in
theorem lifted (os : Os) (started : os.Started) (H : Type) (enc : TypeId × Value → H) :
    ReturnsInHanded {} Try.checked os 36 .any (Rows.csrUserSpec.pre6 enc Try.prog Try.f36 Rows.csrUserRow.domain false) (Rows.csrUserSpec.post enc Try.prog Try.f36 false true false false) := by
  refine returnsInHanded_of_change (C := Try.checked) own started (by kernel_rfl) Try.func36
    (ChangeSpec.witness6 (enc := enc) (C := Try.checked) false ⟨#[], #[.agg (List.replicate 33 (Value.int .u64 0) ++ [Value.int .i64 0] ++ [Value.bool false] ++ List.replicate 12 (Value.int .u64 0) ++ List.replicate 16 (Value.int .u8 0) ++ List.replicate 16 (Value.int .u64 0) ++ [Value.bool false] ++ [Value.int .u64 0] ++ List.replicate 2 (Value.int .i64 0) ++ List.replicate 3 (Value.int .u64 0)).toArray], []⟩ 8 (by kernel_rfl) (by kernel_rfl) (by kernel_rfl) (by kernel_rfl)) ?_
  intro W base args ds gs before hval0 hW hcnd _
  have hval : ∀ (j : Nat) t v, Try.f36.params[j]? = some t → args[j]? = some v → Value.okWide Try.prog W .any base t v := hval0
  have hW' := hW
  obtain ⟨p, q, hA0, hV, rfl, hfz, hnd⟩ := hW
  have hA : DataW.TrodAll enc Try.prog W 0 (fun _ => true) true [77] args.toList ds p := hA0
  obtain ⟨rfl, rfl⟩ := trodVars_none hV
  have hA1 := hA
  obtain ⟨v0, vs0, d0, ds0, p0, q0, hargs0, rfl, hp0, _, r0⟩ := trodAll_cons hA1
  obtain ⟨_, rfl, _⟩ := trodAll_nil r0
  simp only [List.append_nil] at hW'
  refine (law_calls Φ hA (fun j t v ht hv => hval j t v (by simpa using ht) hv) hargs (by decide) cases).mono fun e W' ⟨he, bel⟩ => ?_
  subst he
  exact ⟨_, rfl, _, _, _, [], _, [], hW', trodAll_mk1 (shut_bool Try.underlying4 _), trodAll_stays laidOut bel _ _ _ _ (by kernel_rfl) hA, rfl, bel.frame _, fun h => by cases h⟩

theorem c1 : Try.pinned.checked.prog.funcNamed Rows.csrUserRow.func = some 36 := by kernel_rfl
theorem c2 : joinedFacts Try.pinned.checked.prog 36 Try.f36 Rows.csrUserSpec Rows.csrUserRow = true := joined_mk rfl rfl (by kernel_rfl)
theorem c3 : Try.f36.isInstance Try.pinned.checked.prog Rows.csrUserRow.origin Rows.csrUserRow.targs := of_decide_eq_true (by kernel_rfl)
theorem c4 : Try.f36.isWrapper Try.pinned.checked.prog Rows.csrUserRow.wrapper Rows.csrUserRow.mainSum := by unfold Func.isWrapper; first | (rw [if_pos (by decide +kernel)]; kernel_rfl) | (rw [if_neg (by decide +kernel)]; exact ⟨rfl, rfl⟩)
theorem holds : Rows.CsrUserSaid :=
  OpenClaim.holds_of_wide 36 Try.f36 rfl rfl rfl rfl rfl rfl rfl ⟨rfl, rfl, rfl, rfl, rfl⟩ rfl rfl rfl rfl rfl c1 Try.func36 c2 c3 c4
    (fun os started H enc _ => lifted os started H enc)
end CsrUser
#print axioms CsrUser.holds
end Go.Proofs.Ytibfaifjnifgjaa
