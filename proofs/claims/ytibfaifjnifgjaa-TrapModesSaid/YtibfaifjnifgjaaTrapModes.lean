/- The law TrapModes returns true for every input and leaves its argument as it was. No condition. -/
import Derived.Test.YtibfaifjnifgjaaRows
import Derived.Test.YtibfaifjnifgjaaSx15
import Derived.Test.YtibfaifjnifgjaaSeat
import Derived.Test.YtibfaifjnifgjaaCases
namespace Go.Proofs.Ytibfaifjnifgjaa
open Go.ChangeShapes Go.WideShapes Go.ChangeAt Go.RowKit Go.Sx
namespace TrapModes
def kds : List Kd := List.replicate 33 (Kd.num (some .u64)) ++ [Kd.num (some .i64)] ++ [Kd.num none] ++ List.replicate 12 (Kd.num (some .u64)) ++ List.replicate 16 (Kd.num (some .u8)) ++ List.replicate 16 (Kd.num (some .u64)) ++ [Kd.num none] ++ [Kd.num (some .u64)] ++ [Kd.num (some .i64)]
noncomputable def cs : List C := match argsC Try.prog [33] 0 with | some r => r.1 | none => []
theorem hargs : argsC Try.prog [33] 0 = some (cs, kds) := by kernel_rfl
abbrev Φ := Phi
theorem runt0 : ((statVals.drop 0).take 4).all (fun m => isTrue (evFn (lawK (oszOf kds) (st m :: [isE modeT true]) (fun _ => false)) 1000 22 cs [])) = true := by kernel_rfl
theorem runt1 : ((statVals.drop 4).take 4).all (fun m => isTrue (evFn (lawK (oszOf kds) (st m :: [isE modeT true]) (fun _ => false)) 1000 22 cs [])) = true := by kernel_rfl
theorem runt2 : ((statVals.drop 8).take 4).all (fun m => isTrue (evFn (lawK (oszOf kds) (st m :: [isE modeT true]) (fun _ => false)) 1000 22 cs [])) = true := by kernel_rfl
theorem runt3 : ((statVals.drop 12).take 4).all (fun m => isTrue (evFn (lawK (oszOf kds) (st m :: [isE modeT true]) (fun _ => false)) 1000 22 cs [])) = true := by kernel_rfl
theorem runt4 : ((statVals.drop 16).take 4).all (fun m => isTrue (evFn (lawK (oszOf kds) (st m :: [isE modeT true]) (fun _ => false)) 1000 22 cs [])) = true := by kernel_rfl
theorem runt5 : ((statVals.drop 20).take 4).all (fun m => isTrue (evFn (lawK (oszOf kds) (st m :: [isE modeT true]) (fun _ => false)) 1000 22 cs [])) = true := by kernel_rfl
theorem runt6 : ((statVals.drop 24).take 4).all (fun m => isTrue (evFn (lawK (oszOf kds) (st m :: [isE modeT true]) (fun _ => false)) 1000 22 cs [])) = true := by kernel_rfl
theorem runt7 : ((statVals.drop 28).take 4).all (fun m => isTrue (evFn (lawK (oszOf kds) (st m :: [isE modeT true]) (fun _ => false)) 1000 22 cs [])) = true := by kernel_rfl
theorem runt : statVals.all (fun m => isTrue (evFn (lawK (oszOf kds) (st m :: [isE modeT true]) (fun _ => false)) 1000 22 cs [])) = true := chunks8 runt0 runt1 runt2 runt3 runt4 runt5 runt6 runt7
theorem runf0 : ((statVals.drop 0).take 4).all (fun m => isTrue (evFn (lawK (oszOf kds) (st m :: [isE modeT false]) (fun _ => false)) 1000 22 cs [])) = true := by kernel_rfl
theorem runf1 : ((statVals.drop 4).take 4).all (fun m => isTrue (evFn (lawK (oszOf kds) (st m :: [isE modeT false]) (fun _ => false)) 1000 22 cs [])) = true := by kernel_rfl
theorem runf2 : ((statVals.drop 8).take 4).all (fun m => isTrue (evFn (lawK (oszOf kds) (st m :: [isE modeT false]) (fun _ => false)) 1000 22 cs [])) = true := by kernel_rfl
theorem runf3 : ((statVals.drop 12).take 4).all (fun m => isTrue (evFn (lawK (oszOf kds) (st m :: [isE modeT false]) (fun _ => false)) 1000 22 cs [])) = true := by kernel_rfl
theorem runf4 : ((statVals.drop 16).take 4).all (fun m => isTrue (evFn (lawK (oszOf kds) (st m :: [isE modeT false]) (fun _ => false)) 1000 22 cs [])) = true := by kernel_rfl
theorem runf5 : ((statVals.drop 20).take 4).all (fun m => isTrue (evFn (lawK (oszOf kds) (st m :: [isE modeT false]) (fun _ => false)) 1000 22 cs [])) = true := by kernel_rfl
theorem runf6 : ((statVals.drop 24).take 4).all (fun m => isTrue (evFn (lawK (oszOf kds) (st m :: [isE modeT false]) (fun _ => false)) 1000 22 cs [])) = true := by kernel_rfl
theorem runf7 : ((statVals.drop 28).take 4).all (fun m => isTrue (evFn (lawK (oszOf kds) (st m :: [isE modeT false]) (fun _ => false)) 1000 22 cs [])) = true := by kernel_rfl
theorem runf : statVals.all (fun m => isTrue (evFn (lawK (oszOf kds) (st m :: [isE modeT false]) (fun _ => false)) 1000 22 cs [])) = true := chunks8 runf0 runf1 runf2 runf3 runf4 runf5 runf6 runf7
theorem cases (env : Env) (hF : EnvF Φ env) (hW : WfEnv env kds) : Case Try.prog 22 kds cs env := by
  cases h : modeT.tt env with
  | true => exact cases32 hF 1000 [isE modeT true] (fun _ => false) (fun p hp => by rw [List.mem_singleton.1 hp]; exact isE_ok rfl h) runt
  | false => exact cases32 hF 1000 [isE modeT false] (fun _ => false) (fun p hp => by rw [List.mem_singleton.1 hp]; exact isE_ok rfl h) runf
set_option maxRecDepth 100000 in
theorem lifted (os : Os) (started : os.Started) (H : Type) (enc : TypeId × Value → H) :
    ReturnsInHanded {} Try.checked os 22 .any (Rows.trapModesSpec.pre6 enc Try.prog Try.f22 Rows.trapModesRow.domain false) (Rows.trapModesSpec.post enc Try.prog Try.f22 false true false false) := by
  refine returnsInHanded_of_change (C := Try.checked) own started (by kernel_rfl) Try.func22
    (ChangeSpec.witness6 (enc := enc) (C := Try.checked) false ⟨#[], #[.agg (List.replicate 33 (Value.int .u64 0) ++ [Value.int .i64 0] ++ [Value.bool false] ++ List.replicate 12 (Value.int .u64 0) ++ List.replicate 16 (Value.int .u8 0) ++ List.replicate 16 (Value.int .u64 0) ++ [Value.bool false] ++ [Value.int .u64 0] ++ [Value.int .i64 0]).toArray], []⟩ 8 (by kernel_rfl) (by kernel_rfl) (by kernel_rfl) (by kernel_rfl)) ?_
  intro W base args ds gs before hval0 hW hcnd _
  have hval : ∀ (j : Nat) t v, Try.f22.params[j]? = some t → args[j]? = some v → Value.okWide Try.prog W .any base t v := hval0
  have hW' := hW
  obtain ⟨p, q, hA0, hV, rfl, hfz, hnd⟩ := hW
  have hA : DataW.TrodAll enc Try.prog W 0 (fun _ => true) true [33] args.toList ds p := hA0
  obtain ⟨rfl, rfl⟩ := trodVars_none hV
  have hA1 := hA
  obtain ⟨v0, vs0, d0, ds0, p0, q0, hargs0, rfl, hp0, _, r0⟩ := trodAll_cons hA1
  obtain ⟨_, rfl, _⟩ := trodAll_nil r0
  simp only [List.append_nil] at hW'
  refine (law_calls Φ hA (fun j t v ht hv => hval j t v (by simpa using ht) hv) hargs (by decide) cases).mono fun e W' ⟨he, bel⟩ => ?_
  subst he
  exact ⟨_, rfl, _, _, _, [], _, [], hW', trodAll_mk1 (shut_bool Try.underlying4 _), trodAll_stays laidOut bel _ _ _ _ (by kernel_rfl) hA, rfl, bel.frame _, fun h => by cases h⟩

theorem c1 : Try.pinned.checked.prog.funcNamed Rows.trapModesRow.func = some 22 := by kernel_rfl
theorem c2 : joinedFacts Try.pinned.checked.prog 22 Try.f22 Rows.trapModesSpec Rows.trapModesRow = true := joined_mk rfl rfl (by kernel_rfl)
theorem c3 : Try.f22.isInstance Try.pinned.checked.prog Rows.trapModesRow.origin Rows.trapModesRow.targs := of_decide_eq_true (by kernel_rfl)
theorem c4 : Try.f22.isWrapper Try.pinned.checked.prog Rows.trapModesRow.wrapper Rows.trapModesRow.mainSum := by unfold Func.isWrapper; first | (rw [if_pos (by decide +kernel)]; kernel_rfl) | (rw [if_neg (by decide +kernel)]; exact ⟨rfl, rfl⟩)
theorem holds : Rows.TrapModesSaid :=
  OpenClaim.holds_of_wide 22 Try.f22 rfl rfl rfl rfl rfl rfl rfl ⟨rfl, rfl, rfl, rfl, rfl⟩ rfl rfl rfl rfl rfl c1 Try.func22 c2 c3 c4
    (fun os started H enc _ => lifted os started H enc)
end TrapModes
#print axioms TrapModes.holds
end Go.Proofs.Ytibfaifjnifgjaa
