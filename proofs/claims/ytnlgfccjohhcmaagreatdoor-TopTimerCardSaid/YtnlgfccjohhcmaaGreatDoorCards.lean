/-
  DERIVED. GIVEN WITH THE SEED: THE CARDS: each row of YtnlgfccjohhcmaaGreatDoorRows.lean that lists a variable, with what it lists TIED to the program's text (the seventh form; the later family's looks); each row that meets fmt, with fmt's text TOLD by the authors' own Lean function (tested against real Go, not proved from fmt's source: count such statements apart). THE CARD IS WHAT COUNTS. Prove the row's statement (the work); the ties are given (YtnlgfccjohhcmaaGreatDoorTie.lean); close each card by the builder's one call (the guide's Derived/Test/ToyasCard.lean, 'card_holds'). Laid BY PROGRAM, IN A SANDBOX (cutbox-door.mjs). By AI agents, Wed Nov 11 2026. No macro, syntax, notation, axiom, sorry.
-/
import Derived.Test.YtnlgfccjohhcmaaGreatDoorRows
import GoSem.ClaimSeven
namespace Go.Proofs.YtnlgfccjohhcmaaGreatDoor
namespace Rows

/-- THE TIED CARD OF 'anviltop.TopTimer'. -/
def topTimerCard : Claim7 := { stood := { row := topTimerRow, standIns := [], harness := (true, "e6cf9443502baafe1f8ce7ade7156ad3557eba4f6b4a2ce57155f79c7a31a227"), looks := true }, kinds := [], alts := [], laidByText := true, laidKinds := [.data], laidTests := true, laidLooks := .later }
def TopTimerCardSaid : Prop := Claim7.holds Tryz.pinned (.plain (OpenSpec.ofChange topTimerSpec)) topTimerCard

/-- THE SECOND FORM's CARD OF 'anviltop.TopTimer'. -/
def topTimerUptoCard : Claim7 := { stood := { row := topTimerUptoRow, standIns := [], harness := (true, "e6cf9443502baafe1f8ce7ade7156ad3557eba4f6b4a2ce57155f79c7a31a227"), looks := true }, kinds := [], alts := [], laidByText := true, laidKinds := [.data], laidTests := true, laidLooks := .later }
def TopTimerUptoCardSaid : Prop := Claim7.holds Tryz.pinned (.plain (OpenSpec.upto topTimerSpec)) topTimerUptoCard
end Rows
end Go.Proofs.YtnlgfccjohhcmaaGreatDoor
