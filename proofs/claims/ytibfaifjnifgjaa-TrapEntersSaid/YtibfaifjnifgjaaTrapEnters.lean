/- The law TrapEnters returns true for every input and leaves its argument as it was. No condition. -/
import Derived.Test.YtibfaifjnifgjaaRows
import Derived.Test.YtibfaifjnifgjaaSx15
import Derived.Test.YtibfaifjnifgjaaSeat
import Derived.Test.YtibfaifjnifgjaaTrapBits
namespace Go.Proofs.Ytibfaifjnifgjaa
open Go.ChangeShapes Go.WideShapes Go.ChangeAt Go.RowKit Go.Sx
namespace TrapEnters
def kds : List Kd := List.replicate 33 (Kd.num (some .u64)) ++ [Kd.num (some .i64)] ++ [Kd.num none] ++ List.replicate 12 (Kd.num (some .u64)) ++ List.replicate 16 (Kd.num (some .u8)) ++ List.replicate 16 (Kd.num (some .u64)) ++ [Kd.num none] ++ [Kd.num (some .u64)] ++ [Kd.num (some .i64)] ++ List.replicate 2 (Kd.num (some .u64))
noncomputable def cs : List C := match argsC Try.prog [33, 23, 23] 0 with | some r => r.1 | none => []
theorem hargs : argsC Try.prog [33, 23, 23] 0 = some (cs, kds) := by kernel_rfl
abbrev Φ := Phi
theorem runt0 : ((statVals.drop 0).take 4).all (fun m => isTrue (evFn (lawK (oszOf kds) (st m :: ([isE isIrq true, isE (bitR 63 (.var 82)) true] ++ [(bitR 0 m2, isVec), (.bin .sub .u64 m2 (.bin .rem .u64 m2 (.lit 4)), m4), (.bin .shl .u64 (.bin .sub .u64 (.var 82) (.lit 9223372036854775808)) (.lit 2), .bin .shl .u64 (.bin .shr .u64 (.bin .shl .u64 (.var 82) (.lit 1)) (.lit 1)) (.lit 2))])) (fun f => Nat.beq f 95)) 1000 15 cs [])) = true := by kernel_rfl
theorem runt1 : ((statVals.drop 4).take 4).all (fun m => isTrue (evFn (lawK (oszOf kds) (st m :: ([isE isIrq true, isE (bitR 63 (.var 82)) true] ++ [(bitR 0 m2, isVec), (.bin .sub .u64 m2 (.bin .rem .u64 m2 (.lit 4)), m4), (.bin .shl .u64 (.bin .sub .u64 (.var 82) (.lit 9223372036854775808)) (.lit 2), .bin .shl .u64 (.bin .shr .u64 (.bin .shl .u64 (.var 82) (.lit 1)) (.lit 1)) (.lit 2))])) (fun f => Nat.beq f 95)) 1000 15 cs [])) = true := by kernel_rfl
theorem runt2 : ((statVals.drop 8).take 4).all (fun m => isTrue (evFn (lawK (oszOf kds) (st m :: ([isE isIrq true, isE (bitR 63 (.var 82)) true] ++ [(bitR 0 m2, isVec), (.bin .sub .u64 m2 (.bin .rem .u64 m2 (.lit 4)), m4), (.bin .shl .u64 (.bin .sub .u64 (.var 82) (.lit 9223372036854775808)) (.lit 2), .bin .shl .u64 (.bin .shr .u64 (.bin .shl .u64 (.var 82) (.lit 1)) (.lit 1)) (.lit 2))])) (fun f => Nat.beq f 95)) 1000 15 cs [])) = true := by kernel_rfl
theorem runt3 : ((statVals.drop 12).take 4).all (fun m => isTrue (evFn (lawK (oszOf kds) (st m :: ([isE isIrq true, isE (bitR 63 (.var 82)) true] ++ [(bitR 0 m2, isVec), (.bin .sub .u64 m2 (.bin .rem .u64 m2 (.lit 4)), m4), (.bin .shl .u64 (.bin .sub .u64 (.var 82) (.lit 9223372036854775808)) (.lit 2), .bin .shl .u64 (.bin .shr .u64 (.bin .shl .u64 (.var 82) (.lit 1)) (.lit 1)) (.lit 2))])) (fun f => Nat.beq f 95)) 1000 15 cs [])) = true := by kernel_rfl
theorem runt4 : ((statVals.drop 16).take 4).all (fun m => isTrue (evFn (lawK (oszOf kds) (st m :: ([isE isIrq true, isE (bitR 63 (.var 82)) true] ++ [(bitR 0 m2, isVec), (.bin .sub .u64 m2 (.bin .rem .u64 m2 (.lit 4)), m4), (.bin .shl .u64 (.bin .sub .u64 (.var 82) (.lit 9223372036854775808)) (.lit 2), .bin .shl .u64 (.bin .shr .u64 (.bin .shl .u64 (.var 82) (.lit 1)) (.lit 1)) (.lit 2))])) (fun f => Nat.beq f 95)) 1000 15 cs [])) = true := by kernel_rfl
theorem runt5 : ((statVals.drop 20).take 4).all (fun m => isTrue (evFn (lawK (oszOf kds) (st m :: ([isE isIrq true, isE (bitR 63 (.var 82)) true] ++ [(bitR 0 m2, isVec), (.bin .sub .u64 m2 (.bin .rem .u64 m2 (.lit 4)), m4), (.bin .shl .u64 (.bin .sub .u64 (.var 82) (.lit 9223372036854775808)) (.lit 2), .bin .shl .u64 (.bin .shr .u64 (.bin .shl .u64 (.var 82) (.lit 1)) (.lit 1)) (.lit 2))])) (fun f => Nat.beq f 95)) 1000 15 cs [])) = true := by kernel_rfl
theorem runt6 : ((statVals.drop 24).take 4).all (fun m => isTrue (evFn (lawK (oszOf kds) (st m :: ([isE isIrq true, isE (bitR 63 (.var 82)) true] ++ [(bitR 0 m2, isVec), (.bin .sub .u64 m2 (.bin .rem .u64 m2 (.lit 4)), m4), (.bin .shl .u64 (.bin .sub .u64 (.var 82) (.lit 9223372036854775808)) (.lit 2), .bin .shl .u64 (.bin .shr .u64 (.bin .shl .u64 (.var 82) (.lit 1)) (.lit 1)) (.lit 2))])) (fun f => Nat.beq f 95)) 1000 15 cs [])) = true := by kernel_rfl
theorem runt7 : ((statVals.drop 28).take 4).all (fun m => isTrue (evFn (lawK (oszOf kds) (st m :: ([isE isIrq true, isE (bitR 63 (.var 82)) true] ++ [(bitR 0 m2, isVec), (.bin .sub .u64 m2 (.bin .rem .u64 m2 (.lit 4)), m4), (.bin .shl .u64 (.bin .sub .u64 (.var 82) (.lit 9223372036854775808)) (.lit 2), .bin .shl .u64 (.bin .shr .u64 (.bin .shl .u64 (.var 82) (.lit 1)) (.lit 1)) (.lit 2))])) (fun f => Nat.beq f 95)) 1000 15 cs [])) = true := by kernel_rfl
theorem runt : statVals.all (fun m => isTrue (evFn (lawK (oszOf kds) (st m :: ([isE isIrq true, isE (bitR 63 (.var 82)) true] ++ [(bitR 0 m2, isVec), (.bin .sub .u64 m2 (.bin .rem .u64 m2 (.lit 4)), m4), (.bin .shl .u64 (.bin .sub .u64 (.var 82) (.lit 9223372036854775808)) (.lit 2), .bin .shl .u64 (.bin .shr .u64 (.bin .shl .u64 (.var 82) (.lit 1)) (.lit 1)) (.lit 2))])) (fun f => Nat.beq f 95)) 1000 15 cs [])) = true := by
  have e : statVals = (List.range 8).flatMap fun i => (statVals.drop (4 * i)).take 4 := by decide
  rw [e, List.all_flatMap]
  refine List.all_eq_true.2 fun i hi => ?_
  have hi : i < 8 := by simpa using hi
  match i, hi with
  | 0, _ => exact runt0
  | 1, _ => exact runt1
  | 2, _ => exact runt2
  | 3, _ => exact runt3
  | 4, _ => exact runt4
  | 5, _ => exact runt5
  | 6, _ => exact runt6
  | 7, _ => exact runt7
theorem runf0 : ((statVals.drop 0).take 4).all (fun m => isTrue (evFn (lawK (oszOf kds) (st m :: ([isE isIrq false, isE (bitR 63 (.var 82)) false] ++ [(bitR 0 m2, isVec), (.bin .sub .u64 m2 (.bin .rem .u64 m2 (.lit 4)), m4), (.bin .shl .u64 (.bin .sub .u64 (.var 82) (.lit 9223372036854775808)) (.lit 2), .bin .shl .u64 (.bin .shr .u64 (.bin .shl .u64 (.var 82) (.lit 1)) (.lit 1)) (.lit 2))])) (fun f => Nat.beq f 95)) 1000 15 cs [])) = true := by kernel_rfl
theorem runf1 : ((statVals.drop 4).take 4).all (fun m => isTrue (evFn (lawK (oszOf kds) (st m :: ([isE isIrq false, isE (bitR 63 (.var 82)) false] ++ [(bitR 0 m2, isVec), (.bin .sub .u64 m2 (.bin .rem .u64 m2 (.lit 4)), m4), (.bin .shl .u64 (.bin .sub .u64 (.var 82) (.lit 9223372036854775808)) (.lit 2), .bin .shl .u64 (.bin .shr .u64 (.bin .shl .u64 (.var 82) (.lit 1)) (.lit 1)) (.lit 2))])) (fun f => Nat.beq f 95)) 1000 15 cs [])) = true := by kernel_rfl
theorem runf2 : ((statVals.drop 8).take 4).all (fun m => isTrue (evFn (lawK (oszOf kds) (st m :: ([isE isIrq false, isE (bitR 63 (.var 82)) false] ++ [(bitR 0 m2, isVec), (.bin .sub .u64 m2 (.bin .rem .u64 m2 (.lit 4)), m4), (.bin .shl .u64 (.bin .sub .u64 (.var 82) (.lit 9223372036854775808)) (.lit 2), .bin .shl .u64 (.bin .shr .u64 (.bin .shl .u64 (.var 82) (.lit 1)) (.lit 1)) (.lit 2))])) (fun f => Nat.beq f 95)) 1000 15 cs [])) = true := by kernel_rfl
theorem runf3 : ((statVals.drop 12).take 4).all (fun m => isTrue (evFn (lawK (oszOf kds) (st m :: ([isE isIrq false, isE (bitR 63 (.var 82)) false] ++ [(bitR 0 m2, isVec), (.bin .sub .u64 m2 (.bin .rem .u64 m2 (.lit 4)), m4), (.bin .shl .u64 (.bin .sub .u64 (.var 82) (.lit 9223372036854775808)) (.lit 2), .bin .shl .u64 (.bin .shr .u64 (.bin .shl .u64 (.var 82) (.lit 1)) (.lit 1)) (.lit 2))])) (fun f => Nat.beq f 95)) 1000 15 cs [])) = true := by kernel_rfl
theorem runf4 : ((statVals.drop 16).take 4).all (fun m => isTrue (evFn (lawK (oszOf kds) (st m :: ([isE isIrq false, isE (bitR 63 (.var 82)) false] ++ [(bitR 0 m2, isVec), (.bin .sub .u64 m2 (.bin .rem .u64 m2 (.lit 4)), m4), (.bin .shl .u64 (.bin .sub .u64 (.var 82) (.lit 9223372036854775808)) (.lit 2), .bin .shl .u64 (.bin .shr .u64 (.bin .shl .u64 (.var 82) (.lit 1)) (.lit 1)) (.lit 2))])) (fun f => Nat.beq f 95)) 1000 15 cs [])) = true := by kernel_rfl
theorem runf5 : ((statVals.drop 20).take 4).all (fun m => isTrue (evFn (lawK (oszOf kds) (st m :: ([isE isIrq false, isE (bitR 63 (.var 82)) false] ++ [(bitR 0 m2, isVec), (.bin .sub .u64 m2 (.bin .rem .u64 m2 (.lit 4)), m4), (.bin .shl .u64 (.bin .sub .u64 (.var 82) (.lit 9223372036854775808)) (.lit 2), .bin .shl .u64 (.bin .shr .u64 (.bin .shl .u64 (.var 82) (.lit 1)) (.lit 1)) (.lit 2))])) (fun f => Nat.beq f 95)) 1000 15 cs [])) = true := by kernel_rfl
theorem runf6 : ((statVals.drop 24).take 4).all (fun m => isTrue (evFn (lawK (oszOf kds) (st m :: ([isE isIrq false, isE (bitR 63 (.var 82)) false] ++ [(bitR 0 m2, isVec), (.bin .sub .u64 m2 (.bin .rem .u64 m2 (.lit 4)), m4), (.bin .shl .u64 (.bin .sub .u64 (.var 82) (.lit 9223372036854775808)) (.lit 2), .bin .shl .u64 (.bin .shr .u64 (.bin .shl .u64 (.var 82) (.lit 1)) (.lit 1)) (.lit 2))])) (fun f => Nat.beq f 95)) 1000 15 cs [])) = true := by kernel_rfl
theorem runf7 : ((statVals.drop 28).take 4).all (fun m => isTrue (evFn (lawK (oszOf kds) (st m :: ([isE isIrq false, isE (bitR 63 (.var 82)) false] ++ [(bitR 0 m2, isVec), (.bin .sub .u64 m2 (.bin .rem .u64 m2 (.lit 4)), m4), (.bin .shl .u64 (.bin .sub .u64 (.var 82) (.lit 9223372036854775808)) (.lit 2), .bin .shl .u64 (.bin .shr .u64 (.bin .shl .u64 (.var 82) (.lit 1)) (.lit 1)) (.lit 2))])) (fun f => Nat.beq f 95)) 1000 15 cs [])) = true := by kernel_rfl
theorem runf : statVals.all (fun m => isTrue (evFn (lawK (oszOf kds) (st m :: ([isE isIrq false, isE (bitR 63 (.var 82)) false] ++ [(bitR 0 m2, isVec), (.bin .sub .u64 m2 (.bin .rem .u64 m2 (.lit 4)), m4), (.bin .shl .u64 (.bin .sub .u64 (.var 82) (.lit 9223372036854775808)) (.lit 2), .bin .shl .u64 (.bin .shr .u64 (.bin .shl .u64 (.var 82) (.lit 1)) (.lit 1)) (.lit 2))])) (fun f => Nat.beq f 95)) 1000 15 cs [])) = true := by
  have e : statVals = (List.range 8).flatMap fun i => (statVals.drop (4 * i)).take 4 := by decide
  rw [e, List.all_flatMap]
  refine List.all_eq_true.2 fun i hi => ?_
  have hi : i < 8 := by simpa using hi
  match i, hi with
  | 0, _ => exact runf0
  | 1, _ => exact runf1
  | 2, _ => exact runf2
  | 3, _ => exact runf3
  | 4, _ => exact runf4
  | 5, _ => exact runf5
  | 6, _ => exact runf6
  | 7, _ => exact runf7
theorem cases (env : Env) (hF : EnvF Φ env) (hW : WfEnv env kds) : Case Try.prog 15 kds cs env := by
  have h36 : In64 env (.var 36) := In64.var hW (show kds[36]? = some (.num (some .u64)) by kernel_rfl)
  have h82 : In64 env (.var 82) := In64.var hW (show kds[82]? = some (.num (some .u64)) by kernel_rfl)
  have he : ∀ p ∈ [(bitR 0 m2, isVec), (.bin .sub .u64 m2 (.bin .rem .u64 m2 (.lit 4)), m4), (.bin .shl .u64 (.bin .sub .u64 (.var 82) (.lit 9223372036854775808)) (.lit 2), .bin .shl .u64 (.bin .shr .u64 (.bin .shl .u64 (.var 82) (.lit 1)) (.lit 1)) (.lit 2))], p.1.den env = p.2.den env := (by
    intro p hp
    simp only [List.mem_cons, List.not_mem_nil, or_false] at hp
    rcases hp with rfl | rfl | rfl
    · exact vec_bit h36
    · exact base_eq h36
    · exact far_eq h82)
  cases h : E.tt env isIrq with
  | true => exact cases32 hF 1000 ([isE isIrq true, isE (bitR 63 (.var 82)) true] ++ [(bitR 0 m2, isVec), (.bin .sub .u64 m2 (.bin .rem .u64 m2 (.lit 4)), m4), (.bin .shl .u64 (.bin .sub .u64 (.var 82) (.lit 9223372036854775808)) (.lit 2), .bin .shl .u64 (.bin .shr .u64 (.bin .shl .u64 (.var 82) (.lit 1)) (.lit 1)) (.lit 2))]) (fun f => Nat.beq f 95) (fun p hp => by
      rcases List.mem_append.1 hp with hp | hp
      · exact (by
        simp only [List.mem_cons, List.not_mem_nil, or_false] at hp
        rcases hp with rfl | rfl
        · exact isE_ok rfl h
        · exact isE_ok rfl (by rw [E.tt, irq_bit h82]; exact h))
      · exact he p hp) runt
  | false => exact cases32 hF 1000 ([isE isIrq false, isE (bitR 63 (.var 82)) false] ++ [(bitR 0 m2, isVec), (.bin .sub .u64 m2 (.bin .rem .u64 m2 (.lit 4)), m4), (.bin .shl .u64 (.bin .sub .u64 (.var 82) (.lit 9223372036854775808)) (.lit 2), .bin .shl .u64 (.bin .shr .u64 (.bin .shl .u64 (.var 82) (.lit 1)) (.lit 1)) (.lit 2))]) (fun f => Nat.beq f 95) (fun p hp => by
      rcases List.mem_append.1 hp with hp | hp
      · exact (by
        simp only [List.mem_cons, List.not_mem_nil, or_false] at hp
        rcases hp with rfl | rfl
        · exact isE_ok rfl h
        · exact isE_ok rfl (by rw [E.tt, irq_bit h82]; exact h))
      · exact he p hp) runf
set_option maxRecDepth 100000 in
theorem lifted (os : Os) (started : os.Started) (H : Type) (enc : TypeId × Value → H) :
    ReturnsInHanded {} Try.checked os 15 .any (Rows.trapEntersSpec.pre6 enc Try.prog Try.f15 Rows.trapEntersRow.domain false) (Rows.trapEntersSpec.post enc Try.prog Try.f15 false true false false) := by
  refine returnsInHanded_of_change (C := Try.checked) own started (by kernel_rfl) Try.func15
    (ChangeSpec.witness6 (enc := enc) (C := Try.checked) false ⟨#[], #[.agg (List.replicate 33 (Value.int .u64 0) ++ [Value.int .i64 0] ++ [Value.bool false] ++ List.replicate 12 (Value.int .u64 0) ++ List.replicate 16 (Value.int .u8 0) ++ List.replicate 16 (Value.int .u64 0) ++ [Value.bool false] ++ [Value.int .u64 0] ++ [Value.int .i64 0]).toArray, .int .u64 0, .int .u64 0], []⟩ 8 (by kernel_rfl) (by kernel_rfl) (by kernel_rfl) (by kernel_rfl)) ?_
  intro W base args ds gs before hval0 hW hcnd _
  have hval : ∀ (j : Nat) t v, Try.f15.params[j]? = some t → args[j]? = some v → Value.okWide Try.prog W .any base t v := hval0
  have hW' := hW
  obtain ⟨p, q, hA0, hV, rfl, hfz, hnd⟩ := hW
  have hA : DataW.TrodAll enc Try.prog W 0 (fun _ => true) true [33, 23, 23] args.toList ds p := hA0
  obtain ⟨rfl, rfl⟩ := trodVars_none hV
  have hA1 := hA
  obtain ⟨v0, vs0, d0, ds0, p0, q0, hargs0, rfl, hp0, _, r0⟩ := trodAll_cons hA1
  obtain ⟨v1, vs1, d1, ds1, p1, q1, hargs1, rfl, hp1, _, r1⟩ := trodAll_cons r0
  obtain ⟨v2, vs2, d2, ds2, p2, q2, hargs2, rfl, hp2, _, r2⟩ := trodAll_cons r1
  obtain ⟨_, rfl, _⟩ := trodAll_nil r2
  simp only [List.append_nil] at hW'
  refine (law_calls Φ hA (fun j t v ht hv => hval j t v (by simpa using ht) hv) hargs (by decide) cases).mono fun e W' ⟨he, bel⟩ => ?_
  subst he
  exact ⟨_, rfl, _, _, _, [], _, [], hW', trodAll_mk1 (shut_bool Try.underlying4 _), trodAll_stays laidOut bel _ _ _ _ (by kernel_rfl) hA, rfl, bel.frame _, fun h => by cases h⟩

theorem c1 : Try.pinned.checked.prog.funcNamed Rows.trapEntersRow.func = some 15 := by kernel_rfl
theorem c2 : joinedFacts Try.pinned.checked.prog 15 Try.f15 Rows.trapEntersSpec Rows.trapEntersRow = true := joined_mk rfl rfl (by kernel_rfl)
theorem c3 : Try.f15.isInstance Try.pinned.checked.prog Rows.trapEntersRow.origin Rows.trapEntersRow.targs := of_decide_eq_true (by kernel_rfl)
theorem c4 : Try.f15.isWrapper Try.pinned.checked.prog Rows.trapEntersRow.wrapper Rows.trapEntersRow.mainSum := by unfold Func.isWrapper; first | (rw [if_pos (by decide +kernel)]; kernel_rfl) | (rw [if_neg (by decide +kernel)]; exact ⟨rfl, rfl⟩)
theorem holds : Rows.TrapEntersSaid :=
  OpenClaim.holds_of_wide 15 Try.f15 rfl rfl rfl rfl rfl rfl rfl ⟨rfl, rfl, rfl, rfl, rfl⟩ rfl rfl rfl rfl rfl c1 Try.func15 c2 c3 c4
    (fun os started H enc _ => lifted os started H enc)
end TrapEnters
#print axioms TrapEnters.holds
end Go.Proofs.Ytibfaifjnifgjaa
