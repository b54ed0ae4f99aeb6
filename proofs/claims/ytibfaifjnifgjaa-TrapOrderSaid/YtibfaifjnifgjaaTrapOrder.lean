/- The law TrapOrder returns true for every input and leaves its argument as it was. No condition. -/
import Derived.Test.YtibfaifjnifgjaaRows
import Derived.Test.YtibfaifjnifgjaaSx15
import Derived.Test.YtibfaifjnifgjaaSeat
import Derived.Test.YtibfaifjnifgjaaOrderBits
namespace Go.Proofs.Ytibfaifjnifgjaa
open Go.ChangeShapes Go.WideShapes Go.ChangeAt Go.RowKit Go.Sx
namespace TrapOrder
def kds : List Kd := List.replicate 33 (Kd.num (some .u64)) ++ [Kd.num (some .i64)] ++ [Kd.num none] ++ List.replicate 12 (Kd.num (some .u64)) ++ List.replicate 16 (Kd.num (some .u8)) ++ List.replicate 16 (Kd.num (some .u64)) ++ [Kd.num none] ++ [Kd.num (some .u64)] ++ [Kd.num (some .i64)] ++ List.replicate 3 (Kd.num (some .u64))
noncomputable def cs : List C := match argsC Try.prog [33, 23, 23, 23] 0 with | some r => r.1 | none => []
theorem hargs : argsC Try.prog [33, 23, 23, 23] 0 = some (cs, kds) := by kernel_rfl
abbrev Φ := Phi
theorem runOff : isTrue (evFn (lawK (oszOf kds) [idemE, isE modeT true, isE offE true] (fun f => Nat.beq f 95)) 1000 21 cs []) = true := by kernel_rfl
theorem runM11 : isTrue (evFn (lawK (oszOf kds) (idemE :: isE modeT true :: isE offE false :: ord11) (fun f => Nat.beq f 95)) 1000 21 cs []) = true := by kernel_rfl
theorem runM3 : isTrue (evFn (lawK (oszOf kds) (idemE :: isE modeT true :: isE offE false :: ord3) (fun f => Nat.beq f 95)) 1000 21 cs []) = true := by kernel_rfl
theorem runM7 : isTrue (evFn (lawK (oszOf kds) (idemE :: isE modeT true :: isE offE false :: ord7) (fun f => Nat.beq f 95)) 1000 21 cs []) = true := by kernel_rfl
theorem runM0 : isTrue (evFn (lawK (oszOf kds) (idemE :: isE modeT true :: isE offE false :: ord0) (fun f => Nat.beq f 95)) 1000 21 cs []) = true := by kernel_rfl
theorem runU11 : isTrue (evFn (lawK (oszOf kds) (idemE :: isE modeT false :: ord11) (fun f => Nat.beq f 95)) 1000 21 cs []) = true := by kernel_rfl
theorem runU3 : isTrue (evFn (lawK (oszOf kds) (idemE :: isE modeT false :: ord3) (fun f => Nat.beq f 95)) 1000 21 cs []) = true := by kernel_rfl
theorem runU7 : isTrue (evFn (lawK (oszOf kds) (idemE :: isE modeT false :: ord7) (fun f => Nat.beq f 95)) 1000 21 cs []) = true := by kernel_rfl
theorem runU0 : isTrue (evFn (lawK (oszOf kds) (idemE :: isE modeT false :: ord0) (fun f => Nat.beq f 95)) 1000 21 cs []) = true := by kernel_rfl
theorem runM (l : List (E × E)) (h : l = ord11 ∨ l = ord3 ∨ l = ord7 ∨ l = ord0) : isTrue (evFn (lawK (oszOf kds) (idemE :: isE modeT true :: isE offE false :: l) (fun f => Nat.beq f 95)) 1000 21 cs []) = true := by
  rcases h with h | h | h | h
  · rw [h]; exact runM11
  · rw [h]; exact runM3
  · rw [h]; exact runM7
  · rw [h]; exact runM0
theorem runU (l : List (E × E)) (h : l = ord11 ∨ l = ord3 ∨ l = ord7 ∨ l = ord0) : isTrue (evFn (lawK (oszOf kds) (idemE :: isE modeT false :: l) (fun f => Nat.beq f 95)) 1000 21 cs []) = true := by
  rcases h with h | h | h | h
  · rw [h]; exact runU11
  · rw [h]; exact runU3
  · rw [h]; exact runU7
  · rw [h]; exact runU0
theorem cases (env : Env) (hF : EnvF Φ env) (hW : WfEnv env kds) : Case Try.prog 21 kds cs env := by
  have h82 : In64 env (.var 82) := In64.var hW (show kds[82]? = some (.num (some .u64)) by kernel_rfl)
  have h37 : In64 env (.var 37) := In64.var hW (show kds[37]? = some (.num (some .u64)) by kernel_rfl)
  have h83 : In64 env (.var 83) := In64.var hW (show kds[83]? = some (.num (some .u64)) by kernel_rfl)
  have h84 : In64 env (.var 84) := In64.var hW (show kds[84]? = some (.num (some .u64)) by kernel_rfl)
  obtain ⟨l, hl, hp⟩ := ords h82 h37 h83 h84
  cases hm : E.tt env modeT with
  | true =>
    cases ho : E.tt env offE with
    | true =>
      refine case_law hF 1000 [idemE, isE modeT true, isE offE true] (fun f => Nat.beq f 95) (fun p hp => ?_) runOff
      simp only [List.mem_cons, List.not_mem_nil, or_false] at hp
      rcases hp with rfl | rfl | rfl
      · exact idem_ok hF
      · exact isE_ok rfl hm
      · exact isE_ok rfl ho
    | false =>
      refine case_law hF 1000 (idemE :: isE modeT true :: isE offE false :: l) (fun f => Nat.beq f 95) (fun p hp' => ?_) (runM l hl)
      rcases List.mem_cons.1 hp' with rfl | hp'
      · exact idem_ok hF
      · rcases List.mem_cons.1 hp' with rfl | hp'
        · exact isE_ok rfl hm
        · rcases List.mem_cons.1 hp' with rfl | hp'
          · exact isE_ok rfl ho
          · exact hp p hp'
  | false =>
    refine case_law hF 1000 (idemE :: isE modeT false :: l) (fun f => Nat.beq f 95) (fun p hp' => ?_) (runU l hl)
    rcases List.mem_cons.1 hp' with rfl | hp'
    · exact idem_ok hF
    · rcases List.mem_cons.1 hp' with rfl | hp'
      · exact isE_ok rfl hm
      · exact hp p hp'
set_option maxRecDepth 100000 in
theorem lifted (os : Os) (started : os.Started) (H : Type) (enc : TypeId × Value → H) :
    ReturnsInHanded {} Try.checked os 21 .any (Rows.trapOrderSpec.pre6 enc Try.prog Try.f21 Rows.trapOrderRow.domain false) (Rows.trapOrderSpec.post enc Try.prog Try.f21 false true false false) := by
  refine returnsInHanded_of_change (C := Try.checked) own started (by kernel_rfl) Try.func21
    (ChangeSpec.witness6 (enc := enc) (C := Try.checked) false ⟨#[], #[.agg (List.replicate 33 (Value.int .u64 0) ++ [Value.int .i64 0] ++ [Value.bool false] ++ List.replicate 12 (Value.int .u64 0) ++ List.replicate 16 (Value.int .u8 0) ++ List.replicate 16 (Value.int .u64 0) ++ [Value.bool false] ++ [Value.int .u64 0] ++ [Value.int .i64 0]).toArray, .int .u64 0, .int .u64 0, .int .u64 0], []⟩ 8 (by kernel_rfl) (by kernel_rfl) (by kernel_rfl) (by kernel_rfl)) ?_
  intro W base args ds gs before hval0 hW hcnd _
  have hval : ∀ (j : Nat) t v, Try.f21.params[j]? = some t → args[j]? = some v → Value.okWide Try.prog W .any base t v := hval0
  have hW' := hW
  obtain ⟨p, q, hA0, hV, rfl, hfz, hnd⟩ := hW
  have hA : DataW.TrodAll enc Try.prog W 0 (fun _ => true) true [33, 23, 23, 23] args.toList ds p := hA0
  obtain ⟨rfl, rfl⟩ := trodVars_none hV
  have hA1 := hA
  obtain ⟨v0, vs0, d0, ds0, p0, q0, hargs0, rfl, hp0, _, r0⟩ := trodAll_cons hA1
  obtain ⟨v1, vs1, d1, ds1, p1, q1, hargs1, rfl, hp1, _, r1⟩ := trodAll_cons r0
  obtain ⟨v2, vs2, d2, ds2, p2, q2, hargs2, rfl, hp2, _, r2⟩ := trodAll_cons r1
  obtain ⟨v3, vs3, d3, ds3, p3, q3, hargs3, rfl, hp3, _, r3⟩ := trodAll_cons r2
  obtain ⟨_, rfl, _⟩ := trodAll_nil r3
  simp only [List.append_nil] at hW'
  refine (law_calls Φ hA (fun j t v ht hv => hval j t v (by simpa using ht) hv) hargs (by decide) cases).mono fun e W' ⟨he, bel⟩ => ?_
  subst he
  exact ⟨_, rfl, _, _, _, [], _, [], hW', trodAll_mk1 (shut_bool Try.underlying4 _), trodAll_stays laidOut bel _ _ _ _ (by kernel_rfl) hA, rfl, bel.frame _, fun h => by cases h⟩

theorem c1 : Try.pinned.checked.prog.funcNamed Rows.trapOrderRow.func = some 21 := by kernel_rfl
theorem c2 : joinedFacts Try.pinned.checked.prog 21 Try.f21 Rows.trapOrderSpec Rows.trapOrderRow = true := joined_mk rfl rfl (by kernel_rfl)
theorem c3 : Try.f21.isInstance Try.pinned.checked.prog Rows.trapOrderRow.origin Rows.trapOrderRow.targs := of_decide_eq_true (by kernel_rfl)
theorem c4 : Try.f21.isWrapper Try.pinned.checked.prog Rows.trapOrderRow.wrapper Rows.trapOrderRow.mainSum := by unfold Func.isWrapper; first | (rw [if_pos (by decide +kernel)]; kernel_rfl) | (rw [if_neg (by decide +kernel)]; exact ⟨rfl, rfl⟩)
theorem holds : Rows.TrapOrderSaid :=
  OpenClaim.holds_of_wide 21 Try.f21 rfl rfl rfl rfl rfl rfl rfl ⟨rfl, rfl, rfl, rfl, rfl⟩ rfl rfl rfl rfl rfl c1 Try.func21 c2 c3 c4
    (fun os started H enc _ => lifted os started H enc)
end TrapOrder
#print axioms TrapOrder.holds
end Go.Proofs.Ytibfaifjnifgjaa
