/- The law TrapPends returns true for every input and leaves its argument as it was. No condition. -/
import Derived.Test.YtibfaifjnifgjaaRows
import Derived.Test.YtibfaifjnifgjaaSx15
import Derived.Test.YtibfaifjnifgjaaSeat
import Derived.Test.YtibfaifjnifgjaaSum2
import Derived.Test.YtibfaifjnifgjaaBits2
namespace Go.Proofs.Ytibfaifjnifgjaa
open Go.ChangeShapes Go.WideShapes Go.ChangeAt Go.RowKit Go.Sx
namespace TrapPends
def kds : List Kd := List.replicate 33 (Kd.num (some .u64)) ++ [Kd.num (some .i64)] ++ [Kd.num none] ++ List.replicate 12 (Kd.num (some .u64)) ++ List.replicate 16 (Kd.num (some .u8)) ++ List.replicate 16 (Kd.num (some .u64)) ++ [Kd.num none] ++ [Kd.num (some .u64)] ++ [Kd.num (some .i64)] ++ [Kd.num (some .u64)]
noncomputable def cs : List C := match argsC Try.prog [33, 23] 0 with | some r => r.1 | none => []
theorem hargs : argsC Try.prog [33, 23] 0 = some (cs, kds) := by kernel_rfl
abbrev Φ := Phi
def mie : E := .bin .and .u64 (.var 37) (.lit 2184)
def eqs : List (E × E) := [11, 3, 7].map fun n => (bitI n (.bin .and .u64 (.var 82) mie), .ite (bitR n (.var 82)) (bitR n mie) (.lit 0))
theorem eqs_ok {env : Env} (h : In64 env (.var 82)) : ∀ p ∈ eqs, p.1.den env = p.2.den env := by
  intro p hp
  simp only [eqs, List.map_cons, List.map_nil, List.mem_cons, List.not_mem_nil, or_false] at hp
  rcases hp with rfl | rfl | rfl <;> exact bitI_and h (and_in64 _ _) (by decide)
def st (m : Int) : E × E := (.app 20 (.cons (.var 35) .nil), .lit m)
theorem run : statVals.all (fun m => isTrue (evFn (lawK (oszOf kds) (st m :: eqs) (fun _ => false)) 1000 10 cs [])) = true := by kernel_rfl
theorem k82 : kds[82]? = some (.num (some .u64)) := by kernel_rfl
theorem cases (env : Env) (hF : EnvF Φ env) (hW : WfEnv env kds) : Case Try.prog 10 kds cs env := by
  have hm := List.all_eq_true.1 run _ (stat_vals (env.v 35))
  refine case_law hF 1000 (st _ :: eqs) _ (fun p hp => ?_) hm
  rcases List.mem_cons.1 hp with rfl | hp
  · exact f20 hF _
  · exact eqs_ok (in64_of (hW 82 _ k82).1) p hp
set_option maxRecDepth 100000 in
theorem lifted (os : Os) (started : os.Started) (H : Type) (enc : TypeId × Value → H) :
    ReturnsInHanded {} Try.checked os 10 .any (Rows.trapPendsSpec.pre6 enc Try.prog Try.f10 Rows.trapPendsRow.domain false) (Rows.trapPendsSpec.post enc Try.prog Try.f10 false true false false) := by
  refine returnsInHanded_of_change (C := Try.checked) own started (by kernel_rfl) Try.func10
    (ChangeSpec.witness6 (enc := enc) (C := Try.checked) false ⟨#[], #[.agg (List.replicate 33 (Value.int .u64 0) ++ [Value.int .i64 0] ++ [Value.bool false] ++ List.replicate 12 (Value.int .u64 0) ++ List.replicate 16 (Value.int .u8 0) ++ List.replicate 16 (Value.int .u64 0) ++ [Value.bool false] ++ [Value.int .u64 0] ++ [Value.int .i64 0]).toArray, .int .u64 0], []⟩ 8 (by kernel_rfl) (by kernel_rfl) (by kernel_rfl) (by kernel_rfl)) ?_
  intro W base args ds gs before hval0 hW hcnd _
  have hval : ∀ (j : Nat) t v, Try.f10.params[j]? = some t → args[j]? = some v → Value.okWide Try.prog W .any base t v := hval0
  have hW' := hW
  obtain ⟨p, q, hA0, hV, rfl, hfz, hnd⟩ := hW
  have hA : DataW.TrodAll enc Try.prog W 0 (fun _ => true) true [33, 23] args.toList ds p := hA0
  obtain ⟨rfl, rfl⟩ := trodVars_none hV
  have hA1 := hA
  obtain ⟨v0, vs0, d0, ds0, p0, q0, hargs0, rfl, hp0, _, r0⟩ := trodAll_cons hA1
  obtain ⟨v1, vs1, d1, ds1, p1, q1, hargs1, rfl, hp1, _, r1⟩ := trodAll_cons r0
  obtain ⟨_, rfl, _⟩ := trodAll_nil r1
  simp only [List.append_nil] at hW'
  refine (law_calls Φ hA (fun j t v ht hv => hval j t v (by simpa using ht) hv) hargs (by decide) cases).mono fun e W' ⟨he, bel⟩ => ?_
  subst he
  exact ⟨_, rfl, _, _, _, [], _, [], hW', trodAll_mk1 (shut_bool Try.underlying4 _), trodAll_stays laidOut bel _ _ _ _ (by kernel_rfl) hA, rfl, bel.frame _, fun h => by cases h⟩

theorem c1 : Try.pinned.checked.prog.funcNamed Rows.trapPendsRow.func = some 10 := by kernel_rfl
theorem c2 : joinedFacts Try.pinned.checked.prog 10 Try.f10 Rows.trapPendsSpec Rows.trapPendsRow = true := joined_mk rfl rfl (by kernel_rfl)
theorem c3 : Try.f10.isInstance Try.pinned.checked.prog Rows.trapPendsRow.origin Rows.trapPendsRow.targs := of_decide_eq_true (by kernel_rfl)
theorem c4 : Try.f10.isWrapper Try.pinned.checked.prog Rows.trapPendsRow.wrapper Rows.trapPendsRow.mainSum := by unfold Func.isWrapper; first | (rw [if_pos (by decide +kernel)]; kernel_rfl) | (rw [if_neg (by decide +kernel)]; exact ⟨rfl, rfl⟩)
theorem holds : Rows.TrapPendsSaid :=
  OpenClaim.holds_of_wide 10 Try.f10 rfl rfl rfl rfl rfl rfl rfl ⟨rfl, rfl, rfl, rfl, rfl⟩ rfl rfl rfl rfl rfl c1 Try.func10 c2 c3 c4
    (fun os started H enc _ => lifted os started H enc)
end TrapPends
#print axioms TrapPends.holds
end Go.Proofs.Ytibfaifjnifgjaa
