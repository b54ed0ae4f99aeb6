/- The law CsrKeeps returns true for every input and leaves its argument as it was. No condition. -/
import Derived.Test.YtibfaifjnifgjaaRows
import Derived.Test.YtibfaifjnifgjaaSx15
import Derived.Test.YtibfaifjnifgjaaSeat
import Derived.Test.YtibfaifjnifgjaaCsrKeepE
namespace Go.Proofs.Ytibfaifjnifgjaa
open Go.ChangeShapes Go.WideShapes Go.ChangeAt Go.RowKit Go.Sx
namespace CsrKeeps
def kds : List Kd := List.replicate 33 (Kd.num (some .u64)) ++ [Kd.num (some .i64)] ++ [Kd.num none] ++ List.replicate 12 (Kd.num (some .u64)) ++ List.replicate 16 (Kd.num (some .u8)) ++ List.replicate 16 (Kd.num (some .u64)) ++ [Kd.num none] ++ [Kd.num (some .u64)] ++ List.replicate 2 (Kd.num (some .i64)) ++ List.replicate 3 (Kd.num (some .u64)) ++ [Kd.num (some .i64)]
noncomputable def cs : List C := match argsC Try.prog [77, 3] 0 with | some r => r.1 | none => []
theorem hargs : argsC Try.prog [77, 3] 0 = some (cs, kds) := by kernel_rfl
abbrev Φ := Phi
noncomputable def runQ (eqs : List (E × E)) : Bool := isTrue (evFn (lawX (oszOf kds) eqs (fun _ => false)) 1000 35 cs [])
theorem runN : runQ noQ = true := by kernel_rfl
theorem run0 : runQ (keepQ 0) = true := by kernel_rfl
theorem run1 : runQ (keepQ 1) = true := by kernel_rfl
theorem run2 : runQ (keepQ 2) = true := by kernel_rfl
theorem run3 : runQ (keepQ 3) = true := by kernel_rfl
theorem run4 : runQ (keepQ 4) = true := by kernel_rfl
theorem run5 : runQ (keepQ 5) = true := by kernel_rfl
theorem runs : ∀ c, c < 6 → runQ (keepQ c) = true
  | 0, _ => run0
  | 1, _ => run1
  | 2, _ => run2
  | 3, _ => run3
  | 4, _ => run4
  | 5, _ => run5
  | n + 6, h => absurd h (by omega)
theorem case_q {env : Env} (hF : EnvF Φ env) {eqs : List (E × E)} (he : ∀ p ∈ eqs, p.1.den env = p.2.den env) (h : runQ eqs = true) : Case Try.prog 35 kds cs env := by
  unfold runQ at h
  exact case_lawX hF 1000 eqs (fun _ => false) he h
theorem cases (env : Env) (hF : EnvF Φ env) (_hW : WfEnv env kds) : Case Try.prog 35 kds cs env := by
  rcases keep_cases hF with h | ⟨c, hc, h⟩
  · exact case_q hF h runN
  · exact case_q hF h (runs c hc)
set_option maxRecDepth 100000 in
theorem lifted (os : Os) (started : os.Started) (H : Type) (enc : TypeId × Value → H) :
    ReturnsInHanded {} Try.checked os 35 .any (Rows.csrKeepsSpec.pre6 enc Try.prog Try.f35 Rows.csrKeepsRow.domain false) (Rows.csrKeepsSpec.post enc Try.prog Try.f35 false true false false) := by
  refine returnsInHanded_of_change (C := Try.checked) own started (by kernel_rfl) Try.func35
    (ChangeSpec.witness6 (enc := enc) (C := Try.checked) false ⟨#[], #[.agg (List.replicate 33 (Value.int .u64 0) ++ [Value.int .i64 0] ++ [Value.bool false] ++ List.replicate 12 (Value.int .u64 0) ++ List.replicate 16 (Value.int .u8 0) ++ List.replicate 16 (Value.int .u64 0) ++ [Value.bool false] ++ [Value.int .u64 0] ++ List.replicate 2 (Value.int .i64 0) ++ List.replicate 3 (Value.int .u64 0)).toArray, .int .i64 0], []⟩ 8 (by kernel_rfl) (by kernel_rfl) (by kernel_rfl) (by kernel_rfl)) ?_
  intro W base args ds gs before hval0 hW hcnd _
  have hval : ∀ (j : Nat) t v, Try.f35.params[j]? = some t → args[j]? = some v → Value.okWide Try.prog W .any base t v := hval0
  have hW' := hW
  obtain ⟨p, q, hA0, hV, rfl, hfz, hnd⟩ := hW
  have hA : DataW.TrodAll enc Try.prog W 0 (fun _ => true) true [77, 3] args.toList ds p := hA0
  obtain ⟨rfl, rfl⟩ := trodVars_none hV
  have hA1 := hA
  obtain ⟨v0, vs0, d0, ds0, p0, q0, hargs0, rfl, hp0, _, r0⟩ := trodAll_cons hA1
  obtain ⟨v1, vs1, d1, ds1, p1, q1, hargs1, rfl, hp1, _, r1⟩ := trodAll_cons r0
  obtain ⟨_, rfl, _⟩ := trodAll_nil r1
  simp only [List.append_nil] at hW'
  refine (law_calls Φ hA (fun j t v ht hv => hval j t v (by simpa using ht) hv) hargs (by decide) cases).mono fun e W' ⟨he, bel⟩ => ?_
  subst he
  exact ⟨_, rfl, _, _, _, [], _, [], hW', trodAll_mk1 (shut_bool Try.underlying4 _), trodAll_stays laidOut bel _ _ _ _ (by kernel_rfl) hA, rfl, bel.frame _, fun h => by cases h⟩

theorem c1 : Try.pinned.checked.prog.funcNamed Rows.csrKeepsRow.func = some 35 := by kernel_rfl
theorem c2 : joinedFacts Try.pinned.checked.prog 35 Try.f35 Rows.csrKeepsSpec Rows.csrKeepsRow = true := joined_mk rfl rfl (by kernel_rfl)
theorem c3 : Try.f35.isInstance Try.pinned.checked.prog Rows.csrKeepsRow.origin Rows.csrKeepsRow.targs := of_decide_eq_true (by kernel_rfl)
theorem c4 : Try.f35.isWrapper Try.pinned.checked.prog Rows.csrKeepsRow.wrapper Rows.csrKeepsRow.mainSum := by unfold Func.isWrapper; first | (rw [if_pos (by decide +kernel)]; kernel_rfl) | (rw [if_neg (by decide +kernel)]; exact ⟨rfl, rfl⟩)
theorem holds : Rows.CsrKeepsSaid :=
  OpenClaim.holds_of_wide 35 Try.f35 rfl rfl rfl rfl rfl rfl rfl ⟨rfl, rfl, rfl, rfl, rfl⟩ rfl rfl rfl rfl rfl c1 Try.func35 c2 c3 c4
    (fun os started H enc _ => lifted os started H enc)
end CsrKeeps
#print axioms CsrKeeps.holds
end Go.Proofs.Ytibfaifjnifgjaa
