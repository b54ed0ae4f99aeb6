/- The law CsrRuns returns true for every input and leaves its argument as it was. No condition. -/
import Derived.Test.YtibfaifjnifgjaaRows
import Derived.Test.YtibfaifjnifgjaaSx15
import Derived.Test.YtibfaifjnifgjaaSeat
import Derived.Test.YtibfaifjnifgjaaCsrLoop
namespace Go.Proofs.Ytibfaifjnifgjaa
open Go.ChangeShapes Go.WideShapes Go.ChangeAt Go.RowKit Go.Sx
namespace CsrRuns
def kds : List Kd := List.replicate 33 (Kd.num (some .u64)) ++ [Kd.num (some .i64)] ++ [Kd.num none] ++ List.replicate 12 (Kd.num (some .u64)) ++ List.replicate 16 (Kd.num (some .u8)) ++ List.replicate 16 (Kd.num (some .u64)) ++ [Kd.num none] ++ [Kd.num (some .u64)] ++ [Kd.num (some .i64)] ++ List.replicate 2 (Kd.num (some .u64)) ++ [Kd.sl [some .i64, some .u64, none]]
noncomputable def cs : List C := match argsC Try.prog [84] 0 with | some r => r.1 | none => []
theorem hargs : argsC Try.prog [84] 0 = some (cs, kds) := by kernel_rfl
abbrev Φ := Phi
noncomputable def code : Code := match Try.f32.body with | some c => c | none => .skip
noncomputable def foc : List Fr × Code := match focus code [] with | some r => r | none => ([], .skip)
theorem hb : Try.f32.body = some code := by kernel_rfl
theorem hfoc : focus code [] = some (foc.1, foc.2) := by kernel_rfl
theorem hbase : kds.length ≤ 99 := by decide
def pat : St := ⟨[.bad, .ptr 0 0, .bool (.lit (0)), .ptr 1 0, .ptr 2 0, .int .i64 (.var 99)] ++ List.replicate 9 (.bad) ++ [.ptr 0 0, .bad, .ptr 0 0] ++ List.replicate 78 (.bad),
  [.cells ([.int .u64 (.var 0), .int .u64 (.var 1), .int .u64 (.var 2), .int .u64 (.var 3), .int .u64 (.var 4), .int .u64 (.var 5), .int .u64 (.var 6), .int .u64 (.var 7), .int .u64 (.var 8), .int .u64 (.var 9), .int .u64 (.var 10), .int .u64 (.var 11), .int .u64 (.var 12), .int .u64 (.var 13), .int .u64 (.var 14), .int .u64 (.var 15), .int .u64 (.var 16), .int .u64 (.var 17), .int .u64 (.var 18), .int .u64 (.var 19), .int .u64 (.var 20), .int .u64 (.var 21), .int .u64 (.var 22), .int .u64 (.var 23), .int .u64 (.var 24), .int .u64 (.var 25), .int .u64 (.var 26), .int .u64 (.var 27), .int .u64 (.var 28), .int .u64 (.var 29), .int .u64 (.var 30), .int .u64 (.var 31), .int .u64 (.var 32), .int .i64 (.var 33), .bool (.var 34), .int .u64 (.var 35), .int .u64 (.var 36), .int .u64 (.var 37), .int .u64 (.var 38), .int .u64 (.var 39), .int .u64 (.var 40), .int .u64 (.var 41), .int .u64 (.var 42), .int .u64 (.var 43), .int .u64 (.var 44), .int .u64 (.var 45), .int .u64 (.var 46), .int .u8 (.var 47), .int .u8 (.var 48), .int .u8 (.var 49), .int .u8 (.var 50), .int .u8 (.var 51), .int .u8 (.var 52), .int .u8 (.var 53), .int .u8 (.var 54), .int .u8 (.var 55), .int .u8 (.var 56), .int .u8 (.var 57), .int .u8 (.var 58), .int .u8 (.var 59), .int .u8 (.var 60), .int .u8 (.var 61), .int .u8 (.var 62), .int .u64 (.var 63), .int .u64 (.var 64), .int .u64 (.var 65), .int .u64 (.var 66), .int .u64 (.var 67), .int .u64 (.var 68), .int .u64 (.var 69), .int .u64 (.var 70), .int .u64 (.var 71), .int .u64 (.var 72), .int .u64 (.var 73), .int .u64 (.var 74), .int .u64 (.var 75), .int .u64 (.var 76), .int .u64 (.var 77), .int .u64 (.var 78), .bool (.var 79), .int .u64 (.var 80), .int .i64 (.var 81), .int .u64 (.var 82), .int .u64 (.var 83), .osl 84]) 84,
   .cells ([.int .u64 (.var 100), .int .u64 (.var 101), .int .u64 (.var 102), .int .u64 (.var 103), .int .u64 (.var 104), .int .u64 (.var 105), .int .u64 (.var 106), .int .u64 (.var 107), .int .u64 (.var 108), .int .u64 (.var 109), .int .u64 (.var 110), .int .u64 (.var 111), .int .u64 (.var 112), .int .u64 (.var 113), .int .u64 (.var 114), .int .u64 (.var 115), .int .u64 (.var 116), .int .u64 (.var 117), .int .u64 (.var 118), .int .u64 (.var 119), .int .u64 (.var 120), .int .u64 (.var 121), .int .u64 (.var 122), .int .u64 (.var 123), .int .u64 (.var 124), .int .u64 (.var 125), .int .u64 (.var 126), .int .u64 (.var 127), .int .u64 (.var 128), .int .u64 (.var 129), .int .u64 (.var 130), .int .u64 (.var 131), .int .u64 (.var 132), .int .i64 (.var 133), .bool (.var 134), .int .u64 (.var 135), .int .u64 (.var 136), .int .u64 (.var 137), .int .u64 (.var 138), .int .u64 (.var 139), .int .u64 (.var 140), .int .u64 (.var 141), .int .u64 (.var 142), .int .u64 (.var 143), .int .u64 (.var 144), .int .u64 (.var 145), .int .u64 (.var 146), .int .u8 (.var 147), .int .u8 (.var 148), .int .u8 (.var 149), .int .u8 (.var 150), .int .u8 (.var 151), .int .u8 (.var 152), .int .u8 (.var 153), .int .u8 (.var 154), .int .u8 (.var 155), .int .u8 (.var 156), .int .u8 (.var 157), .int .u8 (.var 158), .int .u8 (.var 159), .int .u8 (.var 160), .int .u8 (.var 161), .int .u8 (.var 162), .int .u64 (.var 163), .int .u64 (.var 164), .int .u64 (.var 165), .int .u64 (.var 166), .int .u64 (.var 167), .int .u64 (.var 168), .int .u64 (.var 169), .int .u64 (.var 170), .int .u64 (.var 171), .int .u64 (.var 172), .int .u64 (.var 173), .int .u64 (.var 174), .int .u64 (.var 175), .int .u64 (.var 176), .int .u64 (.var 177), .int .u64 (.var 178), .bool (.var 179), .int .u64 (.var 180), .int .i64 (.var 181)]) 33,
   .cells ([.int .u64 (.var 100), .int .u64 (.var 101), .int .u64 (.var 102), .int .u64 (.var 103), .int .u64 (.var 104), .int .u64 (.var 105), .int .u64 (.var 106), .int .u64 (.var 107), .int .u64 (.var 108), .int .u64 (.var 109), .int .u64 (.var 110), .int .u64 (.var 111), .int .u64 (.var 112), .int .u64 (.var 113), .int .u64 (.var 114), .int .u64 (.var 115), .int .u64 (.var 116), .int .u64 (.var 117), .int .u64 (.var 118), .int .u64 (.var 119), .int .u64 (.var 120), .int .u64 (.var 121), .int .u64 (.var 122), .int .u64 (.var 123), .int .u64 (.var 124), .int .u64 (.var 125), .int .u64 (.var 126), .int .u64 (.var 127), .int .u64 (.var 128), .int .u64 (.var 129), .int .u64 (.var 130), .int .u64 (.var 131), .int .u64 (.var 132), .int .i64 (.var 133), .bool (.var 134), .int .u64 (.var 135), .int .u64 (.var 136), .int .u64 (.var 137), .int .u64 (.var 138), .int .u64 (.var 139), .int .u64 (.var 140), .int .u64 (.var 141), .int .u64 (.var 142), .int .u64 (.var 143), .int .u64 (.var 144), .int .u64 (.var 145), .int .u64 (.var 146), .int .u8 (.var 147), .int .u8 (.var 148), .int .u8 (.var 149), .int .u8 (.var 150), .int .u8 (.var 151), .int .u8 (.var 152), .int .u8 (.var 153), .int .u8 (.var 154), .int .u8 (.var 155), .int .u8 (.var 156), .int .u8 (.var 157), .int .u8 (.var 158), .int .u8 (.var 159), .int .u8 (.var 160), .int .u8 (.var 161), .int .u8 (.var 162), .int .u64 (.var 163), .int .u64 (.var 164), .int .u64 (.var 165), .int .u64 (.var 166), .int .u64 (.var 167), .int .u64 (.var 168), .int .u64 (.var 169), .int .u64 (.var 170), .int .u64 (.var 171), .int .u64 (.var 172), .int .u64 (.var 173), .int .u64 (.var 174), .int .u64 (.var 175), .int .u64 (.var 176), .int .u64 (.var 177), .int .u64 (.var 178), .bool (.var 179), .int .u64 (.var 180), .int .i64 (.var 181)]) 33]⟩
theorem hcl : patClean pat = true := by kernel_rfl
def Inv : Nat → Env → Prop := fun m env => Counts 99 84 m env
theorem to_run : toOkB Try.prog Try.f32 99 pat 99 (evTo (lawX (oszOf kds) [] (fun _ => false)) 1000 32 code [] ⟨cs ++ List.replicate (Try.f32.ntmps - cs.length) C.undef, []⟩) = true := by kernel_rfl
theorem round_run : roundOk Try.prog (lawX (oszOf kds) [] (fun _ => false)) 1000 32 Try.f32 foc.1 99 pat 99 84 false (evCode (lawX (oszOf kds) [] (fun _ => false)) 1000 32 foc.2 pat) = true := by kernel_rfl
set_option maxRecDepth 100000 in
theorem h1 (env : Env) (hF : EnvF Φ env) (_hW : WfEnv env kds) : ∃ K n, CtxOk Try.prog (oszOf kds) env K ∧ (evTo K n 32 code [] ⟨cs ++ List.replicate (Try.f32.ntmps - cs.length) C.undef, []⟩).sat env (ToEnd Try.prog Try.f32 env (fun s => ∃ σ m, matchSt 99 pat s = some σ ∧ Inv m (updV env σ))) :=
  ⟨(lawX (oszOf kds) [] (fun _ => false)), 1000, lawX_ok hF _ (by simp), toOkB_sat to_run⟩
set_option maxRecDepth 100000 in
theorem h2 (m : Nat) (env : Env) (hF : EnvF Φ env) (_hW : WfEnv env kds) (_hP : PatIn env pat) (hI : Inv m env) : ∃ K n, CtxOk Try.prog (oszOf kds) env K ∧ (evCode K n 32 foc.2 pat).sat env (RoundEnd Try.prog K n 32 Try.f32 foc.1 env (fun s => ∃ σ m', m' < m ∧ matchSt 99 pat s = some σ ∧ Inv m' (updV env σ))) :=
  ⟨(lawX (oszOf kds) [] (fun _ => false)), 1000, lawX_ok hF _ (by simp), roundOk_sat hI (hF.2.2 _) (by simp) round_run⟩
set_option maxRecDepth 100000 in
theorem lifted (os : Os) (started : os.Started) (H : Type) (enc : TypeId × Value → H) :
    ReturnsInHanded {} Try.checked os 32 .any (Rows.csrRunsSpec.pre6 enc Try.prog Try.f32 Rows.csrRunsRow.domain false) (Rows.csrRunsSpec.post enc Try.prog Try.f32 false true false false) := by
  refine returnsInHanded_of_change (C := Try.checked) own started (by kernel_rfl) Try.func32
    (ChangeSpec.witness6 (enc := enc) (C := Try.checked) false ⟨#[], #[.agg (List.replicate 33 (Value.int .u64 0) ++ [Value.int .i64 0] ++ [Value.bool false] ++ List.replicate 12 (Value.int .u64 0) ++ List.replicate 16 (Value.int .u8 0) ++ List.replicate 16 (Value.int .u64 0) ++ [Value.bool false] ++ [Value.int .u64 0] ++ [Value.int .i64 0] ++ List.replicate 2 (Value.int .u64 0) ++ [Value.slice none 0 0]).toArray], []⟩ 8 (by kernel_rfl) (by kernel_rfl) (by kernel_rfl) (by kernel_rfl)) ?_
  intro W base args ds gs before hval0 hW hcnd _
  have hval : ∀ (j : Nat) t v, Try.f32.params[j]? = some t → args[j]? = some v → Value.okWide Try.prog W .any base t v := hval0
  have hW' := hW
  obtain ⟨p, q, hA0, hV, rfl, hfz, hnd⟩ := hW
  have hA : DataW.TrodAll enc Try.prog W 0 (fun _ => true) true [84] args.toList ds p := hA0
  obtain ⟨rfl, rfl⟩ := trodVars_none hV
  have hA1 := hA
  obtain ⟨v0, vs0, d0, ds0, p0, q0, hargs0, rfl, hp0, _, r0⟩ := trodAll_cons hA1
  obtain ⟨_, rfl, _⟩ := trodAll_nil r0
  simp only [List.append_nil] at hW'
  refine (law_loop Φ hA (fun j t v ht hv => hval j t v (by simpa using ht) hv) hargs (by decide) Try.func32 hb hfoc hbase hcl Inv h1 h2).mono fun e W' ⟨he, bel⟩ => ?_
  subst he
  exact ⟨_, rfl, _, _, _, [], _, [], hW', trodAll_mk1 (shut_bool Try.underlying4 _), trodAll_stays laidOut bel _ _ _ _ (by kernel_rfl) hA, rfl, bel.frame _, fun h => by cases h⟩

theorem c1 : Try.pinned.checked.prog.funcNamed Rows.csrRunsRow.func = some 32 := by kernel_rfl
theorem c2 : joinedFacts Try.pinned.checked.prog 32 Try.f32 Rows.csrRunsSpec Rows.csrRunsRow = true := joined_mk rfl rfl (by kernel_rfl)
theorem c3 : Try.f32.isInstance Try.pinned.checked.prog Rows.csrRunsRow.origin Rows.csrRunsRow.targs := of_decide_eq_true (by kernel_rfl)
theorem c4 : Try.f32.isWrapper Try.pinned.checked.prog Rows.csrRunsRow.wrapper Rows.csrRunsRow.mainSum := by unfold Func.isWrapper; first | (rw [if_pos (by decide +kernel)]; kernel_rfl) | (rw [if_neg (by decide +kernel)]; exact ⟨rfl, rfl⟩)
theorem holds : Rows.CsrRunsSaid :=
  OpenClaim.holds_of_wide 32 Try.f32 rfl rfl rfl rfl rfl rfl rfl ⟨rfl, rfl, rfl, rfl, rfl⟩ rfl rfl rfl rfl rfl c1 Try.func32 c2 c3 c4
    (fun os started H enc _ => lifted os started H enc)
end CsrRuns
#print axioms CsrRuns.holds
end Go.Proofs.Ytibfaifjnifgjaa
