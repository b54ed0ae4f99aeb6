/- The law PmpRuns returns true for every input and leaves its argument as it was. No condition. -/
import Derived.Test.YtibfaifjnifgjaaRows
import Derived.Test.YtibfaifjnifgjaaSx15
import Derived.Test.YtibfaifjnifgjaaSeat
import Derived.Test.YtibfaifjnifgjaaPmpLoop
namespace Go.Proofs.Ytibfaifjnifgjaa
open Go.ChangeShapes Go.WideShapes Go.ChangeAt Go.RowKit Go.Sx
namespace PmpRuns
def kds : List Kd := List.replicate 16 (Kd.num (some .u8)) ++ List.replicate 16 (Kd.num (some .u64)) ++ [Kd.num (some .i64)] ++ [Kd.num (some .u64)] ++ [Kd.num (some .i64)] ++ [Kd.num (some .u64)] ++ List.replicate 2 (Kd.num (some .i64)) ++ [Kd.sl [none, some .i64, some .u64]]
noncomputable def cs : List C := match argsC Try.prog [71] 0 with | some r => r.1 | none => []
theorem hargs : argsC Try.prog [71] 0 = some (cs, kds) := by kernel_rfl
abbrev Φ := Phi
noncomputable def code : Code := match Try.f24.body with | some c => c | none => .skip
noncomputable def foc : List Fr × Code := match focus code [] with | some r => r | none => ([], .skip)
theorem hb : Try.f24.body = some code := by kernel_rfl
theorem hfoc : focus code [] = some (foc.1, foc.2) := by kernel_rfl
theorem hbase : kds.length ≤ 99 := by decide
def pat : St := ⟨[.bad, .ptr 0 0, .bool (.lit (0)), .ptr 1 0, .ptr 2 0, .int .i64 (.var 99)] ++ List.replicate 2 (.bad) ++ List.replicate 2 (.ptr 0 0) ++ [.bad] ++ List.replicate 2 (.ptr 0 0) ++ List.replicate 79 (.bad),
  [.cells ([.int .u8 (.var 0), .int .u8 (.var 1), .int .u8 (.var 2), .int .u8 (.var 3), .int .u8 (.var 4), .int .u8 (.var 5), .int .u8 (.var 6), .int .u8 (.var 7), .int .u8 (.var 8), .int .u8 (.var 9), .int .u8 (.var 10), .int .u8 (.var 11), .int .u8 (.var 12), .int .u8 (.var 13), .int .u8 (.var 14), .int .u8 (.var 15), .int .u64 (.var 16), .int .u64 (.var 17), .int .u64 (.var 18), .int .u64 (.var 19), .int .u64 (.var 20), .int .u64 (.var 21), .int .u64 (.var 22), .int .u64 (.var 23), .int .u64 (.var 24), .int .u64 (.var 25), .int .u64 (.var 26), .int .u64 (.var 27), .int .u64 (.var 28), .int .u64 (.var 29), .int .u64 (.var 30), .int .u64 (.var 31), .int .i64 (.var 32), .int .u64 (.var 33), .int .i64 (.var 34), .int .u64 (.var 35), .int .i64 (.var 36), .int .i64 (.var 37), .osl 38]) 71,
   .cells ([.int .u8 (.var 100), .int .u8 (.var 101), .int .u8 (.var 102), .int .u8 (.var 103), .int .u8 (.var 104), .int .u8 (.var 105), .int .u8 (.var 106), .int .u8 (.var 107), .int .u8 (.var 108), .int .u8 (.var 109), .int .u8 (.var 110), .int .u8 (.var 111), .int .u8 (.var 112), .int .u8 (.var 113), .int .u8 (.var 114), .int .u8 (.var 115), .int .u64 (.var 116), .int .u64 (.var 117), .int .u64 (.var 118), .int .u64 (.var 119), .int .u64 (.var 120), .int .u64 (.var 121), .int .u64 (.var 122), .int .u64 (.var 123), .int .u64 (.var 124), .int .u64 (.var 125), .int .u64 (.var 126), .int .u64 (.var 127), .int .u64 (.var 128), .int .u64 (.var 129), .int .u64 (.var 130), .int .u64 (.var 131)]) 26,
   .cells ([.int .u8 (.var 100), .int .u8 (.var 101), .int .u8 (.var 102), .int .u8 (.var 103), .int .u8 (.var 104), .int .u8 (.var 105), .int .u8 (.var 106), .int .u8 (.var 107), .int .u8 (.var 108), .int .u8 (.var 109), .int .u8 (.var 110), .int .u8 (.var 111), .int .u8 (.var 112), .int .u8 (.var 113), .int .u8 (.var 114), .int .u8 (.var 115), .int .u64 (.var 116), .int .u64 (.var 117), .int .u64 (.var 118), .int .u64 (.var 119), .int .u64 (.var 120), .int .u64 (.var 121), .int .u64 (.var 122), .int .u64 (.var 123), .int .u64 (.var 124), .int .u64 (.var 125), .int .u64 (.var 126), .int .u64 (.var 127), .int .u64 (.var 128), .int .u64 (.var 129), .int .u64 (.var 130), .int .u64 (.var 131)]) 26]⟩
theorem hcl : patClean pat = true := by kernel_rfl
def Inv : Nat → Env → Prop := fun m env => Counts 99 38 m env
theorem to_run : toOkB Try.prog Try.f24 99 pat 99 (evTo (lawS (oszOf kds) [] (fun _ => false)) 1000 24 code [] ⟨cs ++ List.replicate (Try.f24.ntmps - cs.length) C.undef, []⟩) = true := by kernel_rfl
theorem round_run : roundOk Try.prog (lawS (oszOf kds) [] (fun _ => false)) 1000 24 Try.f24 foc.1 99 pat 99 38 false (evCode (lawS (oszOf kds) [] (fun _ => false)) 1000 24 foc.2 pat) = true := by kernel_rfl
set_option maxRecDepth 100000 in
theorem h1 (env : Env) (hF : EnvF Φ env) (_hW : WfEnv env kds) : ∃ K n, CtxOk Try.prog (oszOf kds) env K ∧ (evTo K n 24 code [] ⟨cs ++ List.replicate (Try.f24.ntmps - cs.length) C.undef, []⟩).sat env (ToEnd Try.prog Try.f24 env (fun s => ∃ σ m, matchSt 99 pat s = some σ ∧ Inv m (updV env σ))) :=
  ⟨(lawS (oszOf kds) [] (fun _ => false)), 1000, lawS_ok hF _ (by simp), toOkB_sat to_run⟩
set_option maxRecDepth 100000 in
theorem h2 (m : Nat) (env : Env) (hF : EnvF Φ env) (_hW : WfEnv env kds) (_hP : PatIn env pat) (hI : Inv m env) : ∃ K n, CtxOk Try.prog (oszOf kds) env K ∧ (evCode K n 24 foc.2 pat).sat env (RoundEnd Try.prog K n 24 Try.f24 foc.1 env (fun s => ∃ σ m', m' < m ∧ matchSt 99 pat s = some σ ∧ Inv m' (updV env σ))) :=
  ⟨(lawS (oszOf kds) [] (fun _ => false)), 1000, lawS_ok hF _ (by simp), roundOk_sat hI (hF.2.2 _) (by simp) round_run⟩
set_option maxRecDepth 100000 in
theorem lifted (os : Os) (started : os.Started) (H : Type) (enc : TypeId × Value → H) :
    ReturnsInHanded {} Try.checked os 24 .any (Rows.pmpRunsSpec.pre6 enc Try.prog Try.f24 Rows.pmpRunsRow.domain false) (Rows.pmpRunsSpec.post enc Try.prog Try.f24 false true false false) := by
  refine returnsInHanded_of_change (C := Try.checked) own started (by kernel_rfl) Try.func24
    (ChangeSpec.witness6 (enc := enc) (C := Try.checked) false ⟨#[], #[.agg (List.replicate 16 (Value.int .u8 0) ++ List.replicate 16 (Value.int .u64 0) ++ [Value.int .i64 0] ++ [Value.int .u64 0] ++ [Value.int .i64 0] ++ [Value.int .u64 0] ++ List.replicate 2 (Value.int .i64 0) ++ [Value.slice none 0 0]).toArray], []⟩ 8 (by kernel_rfl) (by kernel_rfl) (by kernel_rfl) (by kernel_rfl)) ?_
  intro W base args ds gs before hval0 hW hcnd _
  have hval : ∀ (j : Nat) t v, Try.f24.params[j]? = some t → args[j]? = some v → Value.okWide Try.prog W .any base t v := hval0
  have hW' := hW
  obtain ⟨p, q, hA0, hV, rfl, hfz, hnd⟩ := hW
  have hA : DataW.TrodAll enc Try.prog W 0 (fun _ => true) true [71] args.toList ds p := hA0
  obtain ⟨rfl, rfl⟩ := trodVars_none hV
  have hA1 := hA
  obtain ⟨v0, vs0, d0, ds0, p0, q0, hargs0, rfl, hp0, _, r0⟩ := trodAll_cons hA1
  obtain ⟨_, rfl, _⟩ := trodAll_nil r0
  simp only [List.append_nil] at hW'
  refine (law_loop Φ hA (fun j t v ht hv => hval j t v (by simpa using ht) hv) hargs (by decide) Try.func24 hb hfoc hbase hcl Inv h1 h2).mono fun e W' ⟨he, bel⟩ => ?_
  subst he
  exact ⟨_, rfl, _, _, _, [], _, [], hW', trodAll_mk1 (shut_bool Try.underlying4 _), trodAll_stays laidOut bel _ _ _ _ (by kernel_rfl) hA, rfl, bel.frame _, fun h => by cases h⟩

theorem c1 : Try.pinned.checked.prog.funcNamed Rows.pmpRunsRow.func = some 24 := by kernel_rfl
theorem c2 : joinedFacts Try.pinned.checked.prog 24 Try.f24 Rows.pmpRunsSpec Rows.pmpRunsRow = true := joined_mk rfl rfl (by kernel_rfl)
theorem c3 : Try.f24.isInstance Try.pinned.checked.prog Rows.pmpRunsRow.origin Rows.pmpRunsRow.targs := of_decide_eq_true (by kernel_rfl)
theorem c4 : Try.f24.isWrapper Try.pinned.checked.prog Rows.pmpRunsRow.wrapper Rows.pmpRunsRow.mainSum := by unfold Func.isWrapper; first | (rw [if_pos (by decide +kernel)]; kernel_rfl) | (rw [if_neg (by decide +kernel)]; exact ⟨rfl, rfl⟩)
theorem holds : Rows.PmpRunsSaid :=
  OpenClaim.holds_of_wide 24 Try.f24 rfl rfl rfl rfl rfl rfl rfl ⟨rfl, rfl, rfl, rfl, rfl⟩ rfl rfl rfl rfl rfl c1 Try.func24 c2 c3 c4
    (fun os started H enc _ => lifted os started H enc)
end PmpRuns
#print axioms PmpRuns.holds
end Go.Proofs.Ytibfaifjnifgjaa
