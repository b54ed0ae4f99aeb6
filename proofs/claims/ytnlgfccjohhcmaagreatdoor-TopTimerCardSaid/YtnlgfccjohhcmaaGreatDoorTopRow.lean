/-
  TopTimer: the row and its card. No condition but the row's own.
-/
import Derived.Test.YtnlgfccjohhcmaaGreatDoorTopAll
import Derived.Test.YtnlgfccjohhcmaaGreatDoorCards
import Derived.Test.YtnlgfccjohhcmaaGreatDoorTie
import Derived.ProofKit
import Derived.LaidMore
import Derived.OpenShut
import Derived.Stop.Joined
import Derived.JoinedOf
import Derived.SevenTiedAt
namespace Go.Proofs.YtnlgfccjohhcmaaGreatDoor
open Go.ChangeShapes Go.WideShapes Go.ChangeAt Go.RowKit Go.Sx

def laidT {H : Type} : List (String × DataW H) := [("anvil/arith.plain", Rows.laid_anvil_arith_plain)]

theorem own : ownKnob Tryz.prog.godebug = none := by kernel_rfl
theorem laidOut : laidOutB Tryz.prog = true := by kernel_rfl
theorem readable : ([24].all fun t => Tryz.prog.readableRec t && decide (t < Tryz.prog.types.size)) = true := by kernel_rfl

def arg0 : Value := .agg #[.int .i64 0, .bool false, .bool false, .slice none 0 0]

/-- The door's own heap meets the condition. -/
theorem door_met (os : Os) (args : Array Value) : laidMetH Tryz.prog laidT ((World.doorLaid Tryz.prog 400 os).forCall (fun _ _ => 0) ⟨#[], args, []⟩).memory :=
  laidMetH_of_parts3 (fuel := 8) (laidMet_of_run' 8 (by kernel_rfl) (by kernel_rfl)) (by kernel_rfl) (by kernel_rfl)

set_option maxRecDepth 100000 in
theorem lifted (os : Os) (started : os.Started) (H : Type) (enc : TypeId × Value → H) :
    ReturnsInHanded {} Tryz.checked os 3 .any (fun w args => (Rows.topTimerSpec.pre enc Tryz.prog Tryz.f3 [] false w args ∧ laidMetH Tryz.prog laidT w) ∧ sizedMet enc Tryz.prog Tryz.f3 (OpenSpec.ofChange Rows.topTimerSpec) false w args)
      (Rows.topTimerSpec.post enc Tryz.prog Tryz.f3 false true false false) := by
  refine returnsInHanded_of_change_and (C := Tryz.checked) (X := fun w _ => laidMetH Tryz.prog laidT w) (fun _ _ _ hh h => h.of_heap hh) own started (by kernel_rfl) Tryz.func3
    (ChangeSpec.witness_shaped (enc := enc) (C := Tryz.checked) (os := os) (X := fun w _ => laidMetH Tryz.prog laidT w) false (World.doorLaid Tryz.prog 400 os) #[arg0] 8 rfl (World.shaped_of_RefB (by kernel_rfl) (by kernel_rfl)) (by kernel_rfl) (by kernel_rfl) (by kernel_rfl) (door_met os _)) ?_
  intro W base args ds gs before hval0 hW _ _ _ _
  have hval : ∀ (j : Nat) t v, Tryz.f3.params[j]? = some t → args[j]? = some v → Value.okWide Tryz.prog W .any base t v := hval0
  have hW' := hW
  obtain ⟨p, q, hA0, hV, rfl, hfz, hnd⟩ := hW
  have hA : DataW.TrodAll enc Tryz.prog W 0 (fun _ => true) true [24] args.toList ds p := hA0
  obtain ⟨rfl, rfl⟩ := trodVars_none hV
  have hA1 := hA
  obtain ⟨v0, vs0, d0, ds0, p0, q0, hargs0, rfl, hp0, _, r0⟩ := trodAll_cons hA1
  obtain ⟨_, rfl, _⟩ := trodAll_nil r0
  simp only [List.append_nil] at hW'
  refine (Go.Top.top_calls hA (fun j t v ht hv => hval j t v (by simpa using ht) hv)).mono fun e W' ⟨he, bel⟩ => ?_
  subst he
  exact ⟨_, rfl, _, _, _, [], _, [], hW', trodAll_mk1 (shut_bool Tryz.underlying4 _), trodAll_stays laidOut bel _ _ _ _ readable hA, rfl, bel.frame _, fun h => by cases h⟩

theorem c1 : Tryz.pinned.checked.prog.funcNamed Rows.topTimerRow.func = some 3 := by kernel_rfl
theorem c2 : joinedFacts Tryz.pinned.checked.prog 3 Tryz.f3 Rows.topTimerSpec Rows.topTimerRow = true := by kernel_rfl
theorem c3 : Tryz.f3.isInstance Tryz.pinned.checked.prog Rows.topTimerRow.origin Rows.topTimerRow.targs := of_decide_eq_true (by kernel_rfl)
theorem c4 : Tryz.f3.isWrapper Tryz.pinned.checked.prog Rows.topTimerRow.wrapper Rows.topTimerRow.mainSum := by unfold Func.isWrapper; first | (rw [if_pos (by decide +kernel)]; kernel_rfl) | (rw [if_neg (by decide +kernel)]; exact ⟨rfl, rfl⟩)

theorem row_holds : Rows.TopTimerSaid :=
  OpenClaim.holds_of_wide 3 Tryz.f3 rfl rfl rfl rfl rfl rfl rfl ⟨rfl, rfl, rfl, rfl, rfl⟩ rfl rfl rfl rfl rfl c1 Tryz.func3 c2 c3 c4
    (fun os started H enc _ => lifted os started H enc)

theorem card_holds : Rows.TopTimerCardSaid :=
  Claim7.holds_tied_plain_at .later [] [.data] true (true, "e6cf9443502baafe1f8ce7ade7156ad3557eba4f6b4a2ce57155f79c7a31a227") true
    row_holds (fun _ h => by cases h) (by kernel_rfl) (fun _ h => by cases h) topTimer_row_tie rfl ⟨rfl, rfl⟩ (by kernel_rfl) rfl
    (fun f fn hf hfn => by
      obtain rfl : f = 3 := (Option.some.inj (c1.symm.trans hf)).symm
      obtain rfl : fn = Tryz.f3 := (Option.some.inj (Tryz.func3.symm.trans hfn)).symm
      exact ⟨by kernel_rfl, fun j t ht => by
        have hm : t ∈ [24] := by
          have h := Array.mem_of_getElem? ht
          simpa [Tryz.params3] using h
        have hall : ([24].all fun u => !Tryz.prog.wantsStandIn u) = true := by kernel_rfl
        exact (show Tryz.prog.wantsStandIn t = false by simpa using List.all_eq_true.1 hall t hm)⟩)
    (by kernel_rfl)
#print axioms card_holds
end Go.Proofs.YtnlgfccjohhcmaaGreatDoor
