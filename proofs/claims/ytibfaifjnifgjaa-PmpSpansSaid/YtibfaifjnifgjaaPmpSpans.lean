/- The law PmpSpans returns true for every input and leaves its argument as it was. No condition. -/
import Derived.Test.YtibfaifjnifgjaaRows
import Derived.Test.YtibfaifjnifgjaaSx15
import Derived.Test.YtibfaifjnifgjaaSeat
import Derived.Test.YtibfaifjnifgjaaPmpLaw
namespace Go.Proofs.Ytibfaifjnifgjaa
open Go.ChangeShapes Go.WideShapes Go.ChangeAt Go.RowKit Go.Sx
namespace PmpSpans
def kds : List Kd := List.replicate 16 (Kd.num (some .u8)) ++ List.replicate 16 (Kd.num (some .u64)) ++ [Kd.num (some .i64)] ++ [Kd.num (some .u64)] ++ [Kd.num (some .i64)] ++ [Kd.num (some .u64)] ++ List.replicate 2 (Kd.num (some .i64))
noncomputable def cs : List C := match argsC Try.prog [37] 0 with | some r => r.1 | none => []
theorem hargs : argsC Try.prog [37] 0 = some (cs, kds) := by kernel_rfl
abbrev Φ := Phi
theorem run0 : isTrue (evFn (lawQ (oszOf kds) [] (fun _ => false)) 1000 5 (cs.map (C.fix iV (Int.ofNat 0))) []) = true := by kernel_rfl
theorem run1 : isTrue (evFn (lawQ (oszOf kds) [] (fun _ => false)) 1000 5 (cs.map (C.fix iV (Int.ofNat 1))) []) = true := by kernel_rfl
theorem run2 : isTrue (evFn (lawQ (oszOf kds) [] (fun _ => false)) 1000 5 (cs.map (C.fix iV (Int.ofNat 2))) []) = true := by kernel_rfl
theorem run3 : isTrue (evFn (lawQ (oszOf kds) [] (fun _ => false)) 1000 5 (cs.map (C.fix iV (Int.ofNat 3))) []) = true := by kernel_rfl
theorem run4 : isTrue (evFn (lawQ (oszOf kds) [] (fun _ => false)) 1000 5 (cs.map (C.fix iV (Int.ofNat 4))) []) = true := by kernel_rfl
theorem run5 : isTrue (evFn (lawQ (oszOf kds) [] (fun _ => false)) 1000 5 (cs.map (C.fix iV (Int.ofNat 5))) []) = true := by kernel_rfl
theorem run6 : isTrue (evFn (lawQ (oszOf kds) [] (fun _ => false)) 1000 5 (cs.map (C.fix iV (Int.ofNat 6))) []) = true := by kernel_rfl
theorem run7 : isTrue (evFn (lawQ (oszOf kds) [] (fun _ => false)) 1000 5 (cs.map (C.fix iV (Int.ofNat 7))) []) = true := by kernel_rfl
theorem run8 : isTrue (evFn (lawQ (oszOf kds) [] (fun _ => false)) 1000 5 (cs.map (C.fix iV (Int.ofNat 8))) []) = true := by kernel_rfl
theorem run9 : isTrue (evFn (lawQ (oszOf kds) [] (fun _ => false)) 1000 5 (cs.map (C.fix iV (Int.ofNat 9))) []) = true := by kernel_rfl
theorem run10 : isTrue (evFn (lawQ (oszOf kds) [] (fun _ => false)) 1000 5 (cs.map (C.fix iV (Int.ofNat 10))) []) = true := by kernel_rfl
theorem run11 : isTrue (evFn (lawQ (oszOf kds) [] (fun _ => false)) 1000 5 (cs.map (C.fix iV (Int.ofNat 11))) []) = true := by kernel_rfl
theorem run12 : isTrue (evFn (lawQ (oszOf kds) [] (fun _ => false)) 1000 5 (cs.map (C.fix iV (Int.ofNat 12))) []) = true := by kernel_rfl
theorem run13 : isTrue (evFn (lawQ (oszOf kds) [] (fun _ => false)) 1000 5 (cs.map (C.fix iV (Int.ofNat 13))) []) = true := by kernel_rfl
theorem run14 : isTrue (evFn (lawQ (oszOf kds) [] (fun _ => false)) 1000 5 (cs.map (C.fix iV (Int.ofNat 14))) []) = true := by kernel_rfl
theorem run15 : isTrue (evFn (lawQ (oszOf kds) [] (fun _ => false)) 1000 5 (cs.map (C.fix iV (Int.ofNat 15))) []) = true := by kernel_rfl
theorem outLo_run : isTrue (evFn (lawQ (oszOf kds) outLo (fun _ => false)) 1000 5 cs []) = true := by kernel_rfl
theorem outHi_run : isTrue (evFn (lawQ (oszOf kds) outHi (fun _ => false)) 1000 5 cs []) = true := by kernel_rfl
theorem cases (env : Env) (hF : EnvF Φ env) (_hW : WfEnv env kds) : Case Try.prog 5 kds cs env := case_entryQ hF (below16P (p := fun i => isTrue (evFn (lawQ (oszOf kds) [] (fun _ => false)) 1000 5 (cs.map (C.fix iV (Int.ofNat i))) []) = true) run0 run1 run2 run3 run4 run5 run6 run7 run8 run9 run10 run11 run12 run13 run14 run15) outLo_run outHi_run
set_option maxRecDepth 100000 in
theorem lifted (os : Os) (started : os.Started) (H : Type) (enc : TypeId × Value → H) :
    ReturnsInHanded {} Try.checked os 5 .any (Rows.pmpSpansSpec.pre6 enc Try.prog Try.f5 Rows.pmpSpansRow.domain false) (Rows.pmpSpansSpec.post enc Try.prog Try.f5 false true false false) := by
  refine returnsInHanded_of_change (C := Try.checked) own started (by kernel_rfl) Try.func5
    (ChangeSpec.witness6 (enc := enc) (C := Try.checked) false ⟨#[], #[.agg (List.replicate 16 (Value.int .u8 0) ++ List.replicate 16 (Value.int .u64 0) ++ [Value.int .i64 0] ++ [Value.int .u64 0] ++ [Value.int .i64 0] ++ [Value.int .u64 0] ++ List.replicate 2 (Value.int .i64 0)).toArray], []⟩ 8 (by kernel_rfl) (by kernel_rfl) (by kernel_rfl) (by kernel_rfl)) ?_
  intro W base args ds gs before hval0 hW hcnd _
  have hval : ∀ (j : Nat) t v, Try.f5.params[j]? = some t → args[j]? = some v → Value.okWide Try.prog W .any base t v := hval0
  have hW' := hW
  obtain ⟨p, q, hA0, hV, rfl, hfz, hnd⟩ := hW
  have hA : DataW.TrodAll enc Try.prog W 0 (fun _ => true) true [37] args.toList ds p := hA0
  obtain ⟨rfl, rfl⟩ := trodVars_none hV
  have hA1 := hA
  obtain ⟨v0, vs0, d0, ds0, p0, q0, hargs0, rfl, hp0, _, r0⟩ := trodAll_cons hA1
  obtain ⟨_, rfl, _⟩ := trodAll_nil r0
  simp only [List.append_nil] at hW'
  refine (law_calls Φ hA (fun j t v ht hv => hval j t v (by simpa using ht) hv) hargs (by decide) cases).mono fun e W' ⟨he, bel⟩ => ?_
  subst he
  exact ⟨_, rfl, _, _, _, [], _, [], hW', trodAll_mk1 (shut_bool Try.underlying4 _), trodAll_stays laidOut bel _ _ _ _ (by kernel_rfl) hA, rfl, bel.frame _, fun h => by cases h⟩

theorem c1 : Try.pinned.checked.prog.funcNamed Rows.pmpSpansRow.func = some 5 := by kernel_rfl
theorem c2 : joinedFacts Try.pinned.checked.prog 5 Try.f5 Rows.pmpSpansSpec Rows.pmpSpansRow = true := joined_mk rfl rfl (by kernel_rfl)
theorem c3 : Try.f5.isInstance Try.pinned.checked.prog Rows.pmpSpansRow.origin Rows.pmpSpansRow.targs := of_decide_eq_true (by kernel_rfl)
theorem c4 : Try.f5.isWrapper Try.pinned.checked.prog Rows.pmpSpansRow.wrapper Rows.pmpSpansRow.mainSum := by unfold Func.isWrapper; first | (rw [if_pos (by decide +kernel)]; kernel_rfl) | (rw [if_neg (by decide +kernel)]; exact ⟨rfl, rfl⟩)
theorem holds : Rows.PmpSpansSaid :=
  OpenClaim.holds_of_wide 5 Try.f5 rfl rfl rfl rfl rfl rfl rfl ⟨rfl, rfl, rfl, rfl, rfl⟩ rfl rfl rfl rfl rfl c1 Try.func5 c2 c3 c4
    (fun os started H enc _ => lifted os started H enc)
end PmpSpans
#print axioms PmpSpans.holds
end Go.Proofs.Ytibfaifjnifgjaa
