/- The law TrapProper returns true for every input and leaves its argument as it was. No condition. -/
import Derived.Test.YtibfaifjnifgjaaRows
import Derived.Test.YtibfaifjnifgjaaSx15
import Derived.Test.YtibfaifjnifgjaaSeat
import Derived.Test.YtibfaifjnifgjaaTrapBits
namespace Go.Proofs.Ytibfaifjnifgjaa
open Go.ChangeShapes Go.WideShapes Go.ChangeAt Go.RowKit Go.Sx
namespace TrapProper
def kds : List Kd := List.replicate 33 (Kd.num (some .u64)) ++ [Kd.num (some .i64)] ++ [Kd.num none] ++ List.replicate 12 (Kd.num (some .u64)) ++ List.replicate 16 (Kd.num (some .u8)) ++ List.replicate 16 (Kd.num (some .u64)) ++ [Kd.num none] ++ [Kd.num (some .u64)] ++ [Kd.num (some .i64)] ++ List.replicate 3 (Kd.num (some .u64))
noncomputable def cs : List C := match argsC Try.prog [33, 23, 23, 23] 0 with | some r => r.1 | none => []
theorem hargs : argsC Try.prog [33, 23, 23, 23] 0 = some (cs, kds) := by kernel_rfl
abbrev Φ := Phi
def proEqs : List (E × E) := [(.bin .and .u64 pcE (.lit 18446744073709551614), pcE)]
theorem pro_ok {env : Env} (h36 : In64 env (.var 36)) : ∀ p ∈ proEqs, p.1.den env = p.2.den env := by
  intro p hp
  have hp : p ∈ [((.bin .and .u64 pcE (.lit 18446744073709551614), pcE) : E × E)] := hp
  rw [List.mem_singleton.1 hp]; exact pc_fix h36
theorem runt0 : ((statVals.drop 0).take 2).all (fun m => isTrue (evFn (lawK (oszOf kds) (st m :: ([isE modeT true] ++ proEqs)) (fun f => Nat.beq f 95)) 1000 18 cs [])) = true := by kernel_rfl
theorem runt1 : ((statVals.drop 2).take 2).all (fun m => isTrue (evFn (lawK (oszOf kds) (st m :: ([isE modeT true] ++ proEqs)) (fun f => Nat.beq f 95)) 1000 18 cs [])) = true := by kernel_rfl
theorem runt2 : ((statVals.drop 4).take 2).all (fun m => isTrue (evFn (lawK (oszOf kds) (st m :: ([isE modeT true] ++ proEqs)) (fun f => Nat.beq f 95)) 1000 18 cs [])) = true := by kernel_rfl
theorem runt3 : ((statVals.drop 6).take 2).all (fun m => isTrue (evFn (lawK (oszOf kds) (st m :: ([isE modeT true] ++ proEqs)) (fun f => Nat.beq f 95)) 1000 18 cs [])) = true := by kernel_rfl
theorem runt4 : ((statVals.drop 8).take 2).all (fun m => isTrue (evFn (lawK (oszOf kds) (st m :: ([isE modeT true] ++ proEqs)) (fun f => Nat.beq f 95)) 1000 18 cs [])) = true := by kernel_rfl
theorem runt5 : ((statVals.drop 10).take 2).all (fun m => isTrue (evFn (lawK (oszOf kds) (st m :: ([isE modeT true] ++ proEqs)) (fun f => Nat.beq f 95)) 1000 18 cs [])) = true := by kernel_rfl
theorem runt6 : ((statVals.drop 12).take 2).all (fun m => isTrue (evFn (lawK (oszOf kds) (st m :: ([isE modeT true] ++ proEqs)) (fun f => Nat.beq f 95)) 1000 18 cs [])) = true := by kernel_rfl
theorem runt7 : ((statVals.drop 14).take 2).all (fun m => isTrue (evFn (lawK (oszOf kds) (st m :: ([isE modeT true] ++ proEqs)) (fun f => Nat.beq f 95)) 1000 18 cs [])) = true := by kernel_rfl
theorem runt8 : ((statVals.drop 16).take 2).all (fun m => isTrue (evFn (lawK (oszOf kds) (st m :: ([isE modeT true] ++ proEqs)) (fun f => Nat.beq f 95)) 1000 18 cs [])) = true := by kernel_rfl
theorem runt9 : ((statVals.drop 18).take 2).all (fun m => isTrue (evFn (lawK (oszOf kds) (st m :: ([isE modeT true] ++ proEqs)) (fun f => Nat.beq f 95)) 1000 18 cs [])) = true := by kernel_rfl
theorem runt10 : ((statVals.drop 20).take 2).all (fun m => isTrue (evFn (lawK (oszOf kds) (st m :: ([isE modeT true] ++ proEqs)) (fun f => Nat.beq f 95)) 1000 18 cs [])) = true := by kernel_rfl
theorem runt11 : ((statVals.drop 22).take 2).all (fun m => isTrue (evFn (lawK (oszOf kds) (st m :: ([isE modeT true] ++ proEqs)) (fun f => Nat.beq f 95)) 1000 18 cs [])) = true := by kernel_rfl
theorem runt12 : ((statVals.drop 24).take 2).all (fun m => isTrue (evFn (lawK (oszOf kds) (st m :: ([isE modeT true] ++ proEqs)) (fun f => Nat.beq f 95)) 1000 18 cs [])) = true := by kernel_rfl
theorem runt13 : ((statVals.drop 26).take 2).all (fun m => isTrue (evFn (lawK (oszOf kds) (st m :: ([isE modeT true] ++ proEqs)) (fun f => Nat.beq f 95)) 1000 18 cs [])) = true := by kernel_rfl
theorem runt14 : ((statVals.drop 28).take 2).all (fun m => isTrue (evFn (lawK (oszOf kds) (st m :: ([isE modeT true] ++ proEqs)) (fun f => Nat.beq f 95)) 1000 18 cs [])) = true := by kernel_rfl
theorem runt15 : ((statVals.drop 30).take 2).all (fun m => isTrue (evFn (lawK (oszOf kds) (st m :: ([isE modeT true] ++ proEqs)) (fun f => Nat.beq f 95)) 1000 18 cs [])) = true := by kernel_rfl
theorem runt : statVals.all (fun m => isTrue (evFn (lawK (oszOf kds) (st m :: ([isE modeT true] ++ proEqs)) (fun f => Nat.beq f 95)) 1000 18 cs [])) = true := chunks8 (chunk4 runt0 runt1) (chunk4 runt2 runt3) (chunk4 runt4 runt5) (chunk4 runt6 runt7) (chunk4 runt8 runt9) (chunk4 runt10 runt11) (chunk4 runt12 runt13) (chunk4 runt14 runt15)
theorem runf0 : ((statVals.drop 0).take 2).all (fun m => isTrue (evFn (lawK (oszOf kds) (st m :: ([isE modeT false] ++ proEqs)) (fun f => Nat.beq f 95)) 1000 18 cs [])) = true := by kernel_rfl
theorem runf1 : ((statVals.drop 2).take 2).all (fun m => isTrue (evFn (lawK (oszOf kds) (st m :: ([isE modeT false] ++ proEqs)) (fun f => Nat.beq f 95)) 1000 18 cs [])) = true := by kernel_rfl
theorem runf2 : ((statVals.drop 4).take 2).all (fun m => isTrue (evFn (lawK (oszOf kds) (st m :: ([isE modeT false] ++ proEqs)) (fun f => Nat.beq f 95)) 1000 18 cs [])) = true := by kernel_rfl
theorem runf3 : ((statVals.drop 6).take 2).all (fun m => isTrue (evFn (lawK (oszOf kds) (st m :: ([isE modeT false] ++ proEqs)) (fun f => Nat.beq f 95)) 1000 18 cs [])) = true := by kernel_rfl
theorem runf4 : ((statVals.drop 8).take 2).all (fun m => isTrue (evFn (lawK (oszOf kds) (st m :: ([isE modeT false] ++ proEqs)) (fun f => Nat.beq f 95)) 1000 18 cs [])) = true := by kernel_rfl
theorem runf5 : ((statVals.drop 10).take 2).all (fun m => isTrue (evFn (lawK (oszOf kds) (st m :: ([isE modeT false] ++ proEqs)) (fun f => Nat.beq f 95)) 1000 18 cs [])) = true := by kernel_rfl
theorem runf6 : ((statVals.drop 12).take 2).all (fun m => isTrue (evFn (lawK (oszOf kds) (st m :: ([isE modeT false] ++ proEqs)) (fun f => Nat.beq f 95)) 1000 18 cs [])) = true := by kernel_rfl
theorem runf7 : ((statVals.drop 14).take 2).all (fun m => isTrue (evFn (lawK (oszOf kds) (st m :: ([isE modeT false] ++ proEqs)) (fun f => Nat.beq f 95)) 1000 18 cs [])) = true := by kernel_rfl
theorem runf8 : ((statVals.drop 16).take 2).all (fun m => isTrue (evFn (lawK (oszOf kds) (st m :: ([isE modeT false] ++ proEqs)) (fun f => Nat.beq f 95)) 1000 18 cs [])) = true := by kernel_rfl
theorem runf9 : ((statVals.drop 18).take 2).all (fun m => isTrue (evFn (lawK (oszOf kds) (st m :: ([isE modeT false] ++ proEqs)) (fun f => Nat.beq f 95)) 1000 18 cs [])) = true := by kernel_rfl
theorem runf10 : ((statVals.drop 20).take 2).all (fun m => isTrue (evFn (lawK (oszOf kds) (st m :: ([isE modeT false] ++ proEqs)) (fun f => Nat.beq f 95)) 1000 18 cs [])) = true := by kernel_rfl
theorem runf11 : ((statVals.drop 22).take 2).all (fun m => isTrue (evFn (lawK (oszOf kds) (st m :: ([isE modeT false] ++ proEqs)) (fun f => Nat.beq f 95)) 1000 18 cs [])) = true := by kernel_rfl
theorem runf12 : ((statVals.drop 24).take 2).all (fun m => isTrue (evFn (lawK (oszOf kds) (st m :: ([isE modeT false] ++ proEqs)) (fun f => Nat.beq f 95)) 1000 18 cs [])) = true := by kernel_rfl
theorem runf13 : ((statVals.drop 26).take 2).all (fun m => isTrue (evFn (lawK (oszOf kds) (st m :: ([isE modeT false] ++ proEqs)) (fun f => Nat.beq f 95)) 1000 18 cs [])) = true := by kernel_rfl
theorem runf14 : ((statVals.drop 28).take 2).all (fun m => isTrue (evFn (lawK (oszOf kds) (st m :: ([isE modeT false] ++ proEqs)) (fun f => Nat.beq f 95)) 1000 18 cs [])) = true := by kernel_rfl
theorem runf15 : ((statVals.drop 30).take 2).all (fun m => isTrue (evFn (lawK (oszOf kds) (st m :: ([isE modeT false] ++ proEqs)) (fun f => Nat.beq f 95)) 1000 18 cs [])) = true := by kernel_rfl
theorem runf : statVals.all (fun m => isTrue (evFn (lawK (oszOf kds) (st m :: ([isE modeT false] ++ proEqs)) (fun f => Nat.beq f 95)) 1000 18 cs [])) = true := chunks8 (chunk4 runf0 runf1) (chunk4 runf2 runf3) (chunk4 runf4 runf5) (chunk4 runf6 runf7) (chunk4 runf8 runf9) (chunk4 runf10 runf11) (chunk4 runf12 runf13) (chunk4 runf14 runf15)
theorem cases (env : Env) (hF : EnvF Φ env) (hW : WfEnv env kds) : Case Try.prog 18 kds cs env := by
  have h36 : In64 env (.var 36) := In64.var hW (show kds[36]? = some (.num (some .u64)) by kernel_rfl)
  have he : ∀ p ∈ proEqs, p.1.den env = p.2.den env := pro_ok h36
  cases h : E.tt env modeT with
  | true => exact cases32 hF 1000 ([isE modeT true] ++ proEqs) (fun f => Nat.beq f 95) (fun p hp => by
      rcases List.mem_append.1 hp with hp | hp
      · exact by rw [List.mem_singleton.1 hp]; exact isE_ok rfl h
      · exact he p hp) runt
  | false => exact cases32 hF 1000 ([isE modeT false] ++ proEqs) (fun f => Nat.beq f 95) (fun p hp => by
      rcases List.mem_append.1 hp with hp | hp
      · exact by rw [List.mem_singleton.1 hp]; exact isE_ok rfl h
      · exact he p hp) runf
set_option maxRecDepth 100000 in
theorem lifted (os : Os) (started : os.Started) (H : Type) (enc : TypeId × Value → H) :
    ReturnsInHanded {} Try.checked os 18 .any (Rows.trapProperSpec.pre6 enc Try.prog Try.f18 Rows.trapProperRow.domain false) (Rows.trapProperSpec.post enc Try.prog Try.f18 false true false false) := by
  refine returnsInHanded_of_change (C := Try.checked) own started (by kernel_rfl) Try.func18
    (ChangeSpec.witness6 (enc := enc) (C := Try.checked) false ⟨#[], #[.agg (List.replicate 33 (Value.int .u64 0) ++ [Value.int .i64 0] ++ [Value.bool false] ++ List.replicate 12 (Value.int .u64 0) ++ List.replicate 16 (Value.int .u8 0) ++ List.replicate 16 (Value.int .u64 0) ++ [Value.bool false] ++ [Value.int .u64 0] ++ [Value.int .i64 0]).toArray, .int .u64 0, .int .u64 0, .int .u64 0], []⟩ 8 (by kernel_rfl) (by kernel_rfl) (by kernel_rfl) (by kernel_rfl)) ?_
  intro W base args ds gs before hval0 hW hcnd _
  have hval : ∀ (j : Nat) t v, Try.f18.params[j]? = some t → args[j]? = some v → Value.okWide Try.prog W .any base t v := hval0
  have hW' := hW
  obtain ⟨p, q, hA0, hV, rfl, hfz, hnd⟩ := hW
  have hA : DataW.TrodAll enc Try.prog W 0 (fun _ => true) true [33, 23, 23, 23] args.toList ds p := hA0
  obtain ⟨rfl, rfl⟩ := trodVars_none hV
  have hA1 := hA
  obtain ⟨v0, vs0, d0, ds0, p0, q0, hargs0, rfl, hp0, _, r0⟩ := trodAll_cons hA1
  obtain ⟨v1, vs1, d1, ds1, p1, q1, hargs1, rfl, hp1, _, r1⟩ := trodAll_cons r0
  obtain ⟨v2, vs2, d2, ds2, p2, q2, hargs2, rfl, hp2, _, r2⟩ := trodAll_cons r1
  obtain ⟨v3, vs3, d3, ds3, p3, q3, hargs3, rfl, hp3, _, r3⟩ := trodAll_cons r2
  obtain ⟨_, rfl, _⟩ := trodAll_nil r3
  simp only [List.append_nil] at hW'
  refine (law_calls Φ hA (fun j t v ht hv => hval j t v (by simpa using ht) hv) hargs (by decide) cases).mono fun e W' ⟨he, bel⟩ => ?_
  subst he
  exact ⟨_, rfl, _, _, _, [], _, [], hW', trodAll_mk1 (shut_bool Try.underlying4 _), trodAll_stays laidOut bel _ _ _ _ (by kernel_rfl) hA, rfl, bel.frame _, fun h => by cases h⟩

theorem c1 : Try.pinned.checked.prog.funcNamed Rows.trapProperRow.func = some 18 := by kernel_rfl
theorem c2 : joinedFacts Try.pinned.checked.prog 18 Try.f18 Rows.trapProperSpec Rows.trapProperRow = true := joined_mk rfl rfl (by kernel_rfl)
theorem c3 : Try.f18.isInstance Try.pinned.checked.prog Rows.trapProperRow.origin Rows.trapProperRow.targs := of_decide_eq_true (by kernel_rfl)
theorem c4 : Try.f18.isWrapper Try.pinned.checked.prog Rows.trapProperRow.wrapper Rows.trapProperRow.mainSum := by unfold Func.isWrapper; first | (rw [if_pos (by decide +kernel)]; kernel_rfl) | (rw [if_neg (by decide +kernel)]; exact ⟨rfl, rfl⟩)
theorem holds : Rows.TrapProperSaid :=
  OpenClaim.holds_of_wide 18 Try.f18 rfl rfl rfl rfl rfl rfl rfl ⟨rfl, rfl, rfl, rfl, rfl⟩ rfl rfl rfl rfl rfl c1 Try.func18 c2 c3 c4
    (fun os started H enc _ => lifted os started H enc)
end TrapProper
#print axioms TrapProper.holds
end Go.Proofs.Ytibfaifjnifgjaa
