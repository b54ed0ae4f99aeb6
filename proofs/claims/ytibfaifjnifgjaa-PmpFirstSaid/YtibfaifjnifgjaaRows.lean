/-
  No cell of these rows narrows 'for every input' (looked for: loops, veiled, ifaces, maps, wideKeys, modest, calm, conditions, laid).
  DERIVED. THE GIVEN ROWS OF THIS SEAT. 34 by the template 'for every input the law returns true; each argument reads behind the call as it read before'; 0 by the template 'total and deterministic' (their statements: YtibfaifjnifgjaaTotals.lean).
  GIVEN WITH THE SEED: the statements are not yours to turn. If you find one false, say at which input.
  Laid BY PROGRAM, IN A SANDBOX (cutbox-rows.mjs): the forced cells as the released guide's own fill.sh prints them over the translation ff68c30a5fca283f… (all of the seat's roots in one cut). By AI agents, Wed Nov 11 2026. No macro, syntax, notation, axiom, sorry.
-/
import Derived.Test.YtibfaifjnifgjaaChecked
import GoSem.Claim
import GoSem.ClaimJoined
import GoSem.ClaimMapViews
import Derived.JoinedTies
import Derived.KernelRfl
namespace Go.Proofs.Ytibfaifjnifgjaa
/- THE CELL 'sum', in the pinned program and in every row, IS THE sha256 OF THE DUMP (.gsa) THAT YtibfaifjnifgjaaProg.lean LOADS. Nothing in Lean hashes anything: it is a label: what it is worth is what the hold of that sum in a sandbox is worth. -/
noncomputable def Try.pinned : Pinned := { name := "ytibfaifjnifgjaa", sum := "ff68c30a5fca283faa0cfac8ab1b15907a19f2274f1c1578996d313087249b0e", checked := Try.checked }
namespace Rows
def none {H : Type} : Left H := { results := [], args := [] }

/-- 'anvillaw04.PmpProper': WHATEVER THE INPUT: true; the input reads as it did. -/
def pmpProperSpec : ChangeSpec := { name := "pmpProper", fn := fun _ => fun
  | [d] => { results := [.lit (.bool true)], args := [d] }
  | _ => none }
def pmpProperRow : OpenClaim := { program := "ytibfaifjnifgjaa", sum := "ff68c30a5fca283faa0cfac8ab1b15907a19f2274f1c1578996d313087249b0e", func := "anvil/anvillaw04.PmpProper", spec := "pmpProper", apart := false }
def PmpProperSaid : Prop := pmpProperRow.holds Try.pinned (OpenSpec.ofChange pmpProperSpec)

/-- ITS FALSE NEIGHBOUR: 'it returns false'. Refute it at one input. -/
def pmpProperWrong : ChangeSpec := { name := "pmpProper", fn := fun _ => fun
  | [d] => { results := [.lit (.bool false)], args := [d] }
  | _ => none }
def PmpProperWrongFalsely : Prop := pmpProperRow.holds Try.pinned (OpenSpec.ofChange pmpProperWrong)

/-- 'anvillaw09.CsrProper': WHATEVER THE INPUT: true; the input reads as it did. -/
def csrProperSpec : ChangeSpec := { name := "csrProper", fn := fun _ => fun
  | [d] => { results := [.lit (.bool true)], args := [d] }
  | _ => none }
def csrProperRow : OpenClaim := { program := "ytibfaifjnifgjaa", sum := "ff68c30a5fca283faa0cfac8ab1b15907a19f2274f1c1578996d313087249b0e", func := "anvil/anvillaw09.CsrProper", spec := "csrProper", apart := false }
def CsrProperSaid : Prop := csrProperRow.holds Try.pinned (OpenSpec.ofChange csrProperSpec)

/-- ITS FALSE NEIGHBOUR: 'it returns false'. Refute it at one input. -/
def csrProperWrong : ChangeSpec := { name := "csrProper", fn := fun _ => fun
  | [d] => { results := [.lit (.bool false)], args := [d] }
  | _ => none }
def CsrProperWrongFalsely : Prop := csrProperRow.holds Try.pinned (OpenSpec.ofChange csrProperWrong)

/-- 'anvillaw04.PmpSpans': WHATEVER THE INPUT: true; the input reads as it did. -/
def pmpSpansSpec : ChangeSpec := { name := "pmpSpans", fn := fun _ => fun
  | [d] => { results := [.lit (.bool true)], args := [d] }
  | _ => none }
def pmpSpansRow : OpenClaim := { program := "ytibfaifjnifgjaa", sum := "ff68c30a5fca283faa0cfac8ab1b15907a19f2274f1c1578996d313087249b0e", func := "anvil/anvillaw04.PmpSpans", spec := "pmpSpans", apart := false }
def PmpSpansSaid : Prop := pmpSpansRow.holds Try.pinned (OpenSpec.ofChange pmpSpansSpec)

/-- ITS FALSE NEIGHBOUR: 'it returns false'. Refute it at one input. -/
def pmpSpansWrong : ChangeSpec := { name := "pmpSpans", fn := fun _ => fun
  | [d] => { results := [.lit (.bool false)], args := [d] }
  | _ => none }
def PmpSpansWrongFalsely : Prop := pmpSpansRow.holds Try.pinned (OpenSpec.ofChange pmpSpansWrong)

/-- 'anvillaw04.PmpReads': WHATEVER THE INPUT: true; the input reads as it did. -/
def pmpReadsSpec : ChangeSpec := { name := "pmpReads", fn := fun _ => fun
  | [d] => { results := [.lit (.bool true)], args := [d] }
  | _ => none }
def pmpReadsRow : OpenClaim := { program := "ytibfaifjnifgjaa", sum := "ff68c30a5fca283faa0cfac8ab1b15907a19f2274f1c1578996d313087249b0e", func := "anvil/anvillaw04.PmpReads", spec := "pmpReads", apart := false }
def PmpReadsSaid : Prop := pmpReadsRow.holds Try.pinned (OpenSpec.ofChange pmpReadsSpec)

/-- ITS FALSE NEIGHBOUR: 'it returns false'. Refute it at one input. -/
def pmpReadsWrong : ChangeSpec := { name := "pmpReads", fn := fun _ => fun
  | [d] => { results := [.lit (.bool false)], args := [d] }
  | _ => none }
def PmpReadsWrongFalsely : Prop := pmpReadsRow.holds Try.pinned (OpenSpec.ofChange pmpReadsWrong)

/-- 'anvillaw09.CsrCounts': WHATEVER THE INPUT: true; the input reads as it did. -/
def csrCountsSpec : ChangeSpec := { name := "csrCounts", fn := fun _ => fun
  | [d] => { results := [.lit (.bool true)], args := [d] }
  | _ => none }
def csrCountsRow : OpenClaim := { program := "ytibfaifjnifgjaa", sum := "ff68c30a5fca283faa0cfac8ab1b15907a19f2274f1c1578996d313087249b0e", func := "anvil/anvillaw09.CsrCounts", spec := "csrCounts", apart := false }
def CsrCountsSaid : Prop := csrCountsRow.holds Try.pinned (OpenSpec.ofChange csrCountsSpec)

/-- ITS FALSE NEIGHBOUR: 'it returns false'. Refute it at one input. -/
def csrCountsWrong : ChangeSpec := { name := "csrCounts", fn := fun _ => fun
  | [d] => { results := [.lit (.bool false)], args := [d] }
  | _ => none }
def CsrCountsWrongFalsely : Prop := csrCountsRow.holds Try.pinned (OpenSpec.ofChange csrCountsWrong)

/-- 'anvillaw09.CsrWraps': WHATEVER THE INPUT: true; the input reads as it did. -/
def csrWrapsSpec : ChangeSpec := { name := "csrWraps", fn := fun _ => fun
  | [d] => { results := [.lit (.bool true)], args := [d] }
  | _ => none }
def csrWrapsRow : OpenClaim := { program := "ytibfaifjnifgjaa", sum := "ff68c30a5fca283faa0cfac8ab1b15907a19f2274f1c1578996d313087249b0e", func := "anvil/anvillaw09.CsrWraps", spec := "csrWraps", apart := false }
def CsrWrapsSaid : Prop := csrWrapsRow.holds Try.pinned (OpenSpec.ofChange csrWrapsSpec)

/-- ITS FALSE NEIGHBOUR: 'it returns false'. Refute it at one input. -/
def csrWrapsWrong : ChangeSpec := { name := "csrWraps", fn := fun _ => fun
  | [d] => { results := [.lit (.bool false)], args := [d] }
  | _ => none }
def CsrWrapsWrongFalsely : Prop := csrWrapsRow.holds Try.pinned (OpenSpec.ofChange csrWrapsWrong)

/-- 'anvillaw04.PmpWrites': WHATEVER THE INPUT: true; the input reads as it did. -/
def pmpWritesSpec : ChangeSpec := { name := "pmpWrites", fn := fun _ => fun
  | [d] => { results := [.lit (.bool true)], args := [d] }
  | _ => none }
def pmpWritesRow : OpenClaim := { program := "ytibfaifjnifgjaa", sum := "ff68c30a5fca283faa0cfac8ab1b15907a19f2274f1c1578996d313087249b0e", func := "anvil/anvillaw04.PmpWrites", spec := "pmpWrites", apart := false }
def PmpWritesSaid : Prop := pmpWritesRow.holds Try.pinned (OpenSpec.ofChange pmpWritesSpec)

/-- ITS FALSE NEIGHBOUR: 'it returns false'. Refute it at one input. -/
def pmpWritesWrong : ChangeSpec := { name := "pmpWrites", fn := fun _ => fun
  | [d] => { results := [.lit (.bool false)], args := [d] }
  | _ => none }
def PmpWritesWrongFalsely : Prop := pmpWritesRow.holds Try.pinned (OpenSpec.ofChange pmpWritesWrong)

/-- 'anvillaw10.TrapPends': WHATEVER THE INPUT: true; the input reads as it did. -/
def trapPendsSpec : ChangeSpec := { name := "trapPends", fn := fun _ => fun
  | [d1, d2] => { results := [.lit (.bool true)], args := [d1, d2] }
  | _ => none }
def trapPendsRow : OpenClaim := { program := "ytibfaifjnifgjaa", sum := "ff68c30a5fca283faa0cfac8ab1b15907a19f2274f1c1578996d313087249b0e", func := "anvil/anvillaw10.TrapPends", spec := "trapPends", apart := false }
def TrapPendsSaid : Prop := trapPendsRow.holds Try.pinned (OpenSpec.ofChange trapPendsSpec)

/-- ITS FALSE NEIGHBOUR: 'it returns false'. Refute it at one input. -/
def trapPendsWrong : ChangeSpec := { name := "trapPends", fn := fun _ => fun
  | [d1, d2] => { results := [.lit (.bool false)], args := [d1, d2] }
  | _ => none }
def TrapPendsWrongFalsely : Prop := trapPendsRow.holds Try.pinned (OpenSpec.ofChange trapPendsWrong)

/-- 'anvillaw10.TrapWaits': WHATEVER THE INPUT: true; the input reads as it did. -/
def trapWaitsSpec : ChangeSpec := { name := "trapWaits", fn := fun _ => fun
  | [d] => { results := [.lit (.bool true)], args := [d] }
  | _ => none }
def trapWaitsRow : OpenClaim := { program := "ytibfaifjnifgjaa", sum := "ff68c30a5fca283faa0cfac8ab1b15907a19f2274f1c1578996d313087249b0e", func := "anvil/anvillaw10.TrapWaits", spec := "trapWaits", apart := false }
def TrapWaitsSaid : Prop := trapWaitsRow.holds Try.pinned (OpenSpec.ofChange trapWaitsSpec)

/-- ITS FALSE NEIGHBOUR: 'it returns false'. Refute it at one input. -/
def trapWaitsWrong : ChangeSpec := { name := "trapWaits", fn := fun _ => fun
  | [d] => { results := [.lit (.bool false)], args := [d] }
  | _ => none }
def TrapWaitsWrongFalsely : Prop := trapWaitsRow.holds Try.pinned (OpenSpec.ofChange trapWaitsWrong)

/-- 'anvillaw10.TrapReturns': WHATEVER THE INPUT: true; the input reads as it did. -/
def trapReturnsSpec : ChangeSpec := { name := "trapReturns", fn := fun _ => fun
  | [d] => { results := [.lit (.bool true)], args := [d] }
  | _ => none }
def trapReturnsRow : OpenClaim := { program := "ytibfaifjnifgjaa", sum := "ff68c30a5fca283faa0cfac8ab1b15907a19f2274f1c1578996d313087249b0e", func := "anvil/anvillaw10.TrapReturns", spec := "trapReturns", apart := false }
def TrapReturnsSaid : Prop := trapReturnsRow.holds Try.pinned (OpenSpec.ofChange trapReturnsSpec)

/-- ITS FALSE NEIGHBOUR: 'it returns false'. Refute it at one input. -/
def trapReturnsWrong : ChangeSpec := { name := "trapReturns", fn := fun _ => fun
  | [d] => { results := [.lit (.bool false)], args := [d] }
  | _ => none }
def TrapReturnsWrongFalsely : Prop := trapReturnsRow.holds Try.pinned (OpenSpec.ofChange trapReturnsWrong)

/-- 'anvillaw04.PmpMatches': WHATEVER THE INPUT: true; the input reads as it did. -/
def pmpMatchesSpec : ChangeSpec := { name := "pmpMatches", fn := fun _ => fun
  | [d] => { results := [.lit (.bool true)], args := [d] }
  | _ => none }
def pmpMatchesRow : OpenClaim := { program := "ytibfaifjnifgjaa", sum := "ff68c30a5fca283faa0cfac8ab1b15907a19f2274f1c1578996d313087249b0e", func := "anvil/anvillaw04.PmpMatches", spec := "pmpMatches", apart := false }
def PmpMatchesSaid : Prop := pmpMatchesRow.holds Try.pinned (OpenSpec.ofChange pmpMatchesSpec)

/-- ITS FALSE NEIGHBOUR: 'it returns false'. Refute it at one input. -/
def pmpMatchesWrong : ChangeSpec := { name := "pmpMatches", fn := fun _ => fun
  | [d] => { results := [.lit (.bool false)], args := [d] }
  | _ => none }
def PmpMatchesWrongFalsely : Prop := pmpMatchesRow.holds Try.pinned (OpenSpec.ofChange pmpMatchesWrong)

/-- 'anvillaw04.PmpGrants': WHATEVER THE INPUT: true; the input reads as it did. -/
def pmpGrantsSpec : ChangeSpec := { name := "pmpGrants", fn := fun _ => fun
  | [d] => { results := [.lit (.bool true)], args := [d] }
  | _ => none }
def pmpGrantsRow : OpenClaim := { program := "ytibfaifjnifgjaa", sum := "ff68c30a5fca283faa0cfac8ab1b15907a19f2274f1c1578996d313087249b0e", func := "anvil/anvillaw04.PmpGrants", spec := "pmpGrants", apart := false }
def PmpGrantsSaid : Prop := pmpGrantsRow.holds Try.pinned (OpenSpec.ofChange pmpGrantsSpec)

/-- ITS FALSE NEIGHBOUR: 'it returns false'. Refute it at one input. -/
def pmpGrantsWrong : ChangeSpec := { name := "pmpGrants", fn := fun _ => fun
  | [d] => { results := [.lit (.bool false)], args := [d] }
  | _ => none }
def PmpGrantsWrongFalsely : Prop := pmpGrantsRow.holds Try.pinned (OpenSpec.ofChange pmpGrantsWrong)

/-- 'anvillaw10.TrapEnters': WHATEVER THE INPUT: true; the input reads as it did. -/
def trapEntersSpec : ChangeSpec := { name := "trapEnters", fn := fun _ => fun
  | [d1, d2, d3] => { results := [.lit (.bool true)], args := [d1, d2, d3] }
  | _ => none }
def trapEntersRow : OpenClaim := { program := "ytibfaifjnifgjaa", sum := "ff68c30a5fca283faa0cfac8ab1b15907a19f2274f1c1578996d313087249b0e", func := "anvil/anvillaw10.TrapEnters", spec := "trapEnters", apart := false }
def TrapEntersSaid : Prop := trapEntersRow.holds Try.pinned (OpenSpec.ofChange trapEntersSpec)

/-- ITS FALSE NEIGHBOUR: 'it returns false'. Refute it at one input. -/
def trapEntersWrong : ChangeSpec := { name := "trapEnters", fn := fun _ => fun
  | [d1, d2, d3] => { results := [.lit (.bool false)], args := [d1, d2, d3] }
  | _ => none }
def TrapEntersWrongFalsely : Prop := trapEntersRow.holds Try.pinned (OpenSpec.ofChange trapEntersWrong)

/-- 'anvillaw04.PmpChecks': WHATEVER THE INPUT: true; the input reads as it did. -/
def pmpChecksSpec : ChangeSpec := { name := "pmpChecks", fn := fun _ => fun
  | [d] => { results := [.lit (.bool true)], args := [d] }
  | _ => none }
def pmpChecksRow : OpenClaim := { program := "ytibfaifjnifgjaa", sum := "ff68c30a5fca283faa0cfac8ab1b15907a19f2274f1c1578996d313087249b0e", func := "anvil/anvillaw04.PmpChecks", spec := "pmpChecks", apart := false }
def PmpChecksSaid : Prop := pmpChecksRow.holds Try.pinned (OpenSpec.ofChange pmpChecksSpec)

/-- ITS FALSE NEIGHBOUR: 'it returns false'. Refute it at one input. -/
def pmpChecksWrong : ChangeSpec := { name := "pmpChecks", fn := fun _ => fun
  | [d] => { results := [.lit (.bool false)], args := [d] }
  | _ => none }
def PmpChecksWrongFalsely : Prop := pmpChecksRow.holds Try.pinned (OpenSpec.ofChange pmpChecksWrong)

/-- 'anvillaw10.TrapAll': WHATEVER THE INPUT: true; the input reads as it did. -/
def trapAllSpec : ChangeSpec := { name := "trapAll", fn := fun _ => fun
  | [d1, d2, d3] => { results := [.lit (.bool true)], args := [d1, d2, d3] }
  | _ => none }
def trapAllRow : OpenClaim := { program := "ytibfaifjnifgjaa", sum := "ff68c30a5fca283faa0cfac8ab1b15907a19f2274f1c1578996d313087249b0e", func := "anvil/anvillaw10.TrapAll", spec := "trapAll", apart := false }
def TrapAllSaid : Prop := trapAllRow.holds Try.pinned (OpenSpec.ofChange trapAllSpec)

/-- ITS FALSE NEIGHBOUR: 'it returns false'. Refute it at one input. -/
def trapAllWrong : ChangeSpec := { name := "trapAll", fn := fun _ => fun
  | [d1, d2, d3] => { results := [.lit (.bool false)], args := [d1, d2, d3] }
  | _ => none }
def TrapAllWrongFalsely : Prop := trapAllRow.holds Try.pinned (OpenSpec.ofChange trapAllWrong)

/-- 'anvillaw10.TrapProper': WHATEVER THE INPUT: true; the input reads as it did. -/
def trapProperSpec : ChangeSpec := { name := "trapProper", fn := fun _ => fun
  | [d1, d2, d3, d4] => { results := [.lit (.bool true)], args := [d1, d2, d3, d4] }
  | _ => none }
def trapProperRow : OpenClaim := { program := "ytibfaifjnifgjaa", sum := "ff68c30a5fca283faa0cfac8ab1b15907a19f2274f1c1578996d313087249b0e", func := "anvil/anvillaw10.TrapProper", spec := "trapProper", apart := false }
def TrapProperSaid : Prop := trapProperRow.holds Try.pinned (OpenSpec.ofChange trapProperSpec)

/-- ITS FALSE NEIGHBOUR: 'it returns false'. Refute it at one input. -/
def trapProperWrong : ChangeSpec := { name := "trapProper", fn := fun _ => fun
  | [d1, d2, d3, d4] => { results := [.lit (.bool false)], args := [d1, d2, d3, d4] }
  | _ => none }
def TrapProperWrongFalsely : Prop := trapProperRow.holds Try.pinned (OpenSpec.ofChange trapProperWrong)

/-- 'anvillaw10.TrapBack': WHATEVER THE INPUT: true; the input reads as it did. -/
def trapBackSpec : ChangeSpec := { name := "trapBack", fn := fun _ => fun
  | [d1, d2, d3] => { results := [.lit (.bool true)], args := [d1, d2, d3] }
  | _ => none }
def trapBackRow : OpenClaim := { program := "ytibfaifjnifgjaa", sum := "ff68c30a5fca283faa0cfac8ab1b15907a19f2274f1c1578996d313087249b0e", func := "anvil/anvillaw10.TrapBack", spec := "trapBack", apart := false }
def TrapBackSaid : Prop := trapBackRow.holds Try.pinned (OpenSpec.ofChange trapBackSpec)

/-- ITS FALSE NEIGHBOUR: 'it returns false'. Refute it at one input. -/
def trapBackWrong : ChangeSpec := { name := "trapBack", fn := fun _ => fun
  | [d1, d2, d3] => { results := [.lit (.bool false)], args := [d1, d2, d3] }
  | _ => none }
def TrapBackWrongFalsely : Prop := trapBackRow.holds Try.pinned (OpenSpec.ofChange trapBackWrong)

/-- 'anvillaw10.TrapSilent': WHATEVER THE INPUT: true; the input reads as it did. -/
def trapSilentSpec : ChangeSpec := { name := "trapSilent", fn := fun _ => fun
  | [d1, d2, d3, d4] => { results := [.lit (.bool true)], args := [d1, d2, d3, d4] }
  | _ => none }
def trapSilentRow : OpenClaim := { program := "ytibfaifjnifgjaa", sum := "ff68c30a5fca283faa0cfac8ab1b15907a19f2274f1c1578996d313087249b0e", func := "anvil/anvillaw10.TrapSilent", spec := "trapSilent", apart := false }
def TrapSilentSaid : Prop := trapSilentRow.holds Try.pinned (OpenSpec.ofChange trapSilentSpec)

/-- ITS FALSE NEIGHBOUR: 'it returns false'. Refute it at one input. -/
def trapSilentWrong : ChangeSpec := { name := "trapSilent", fn := fun _ => fun
  | [d1, d2, d3, d4] => { results := [.lit (.bool false)], args := [d1, d2, d3, d4] }
  | _ => none }
def TrapSilentWrongFalsely : Prop := trapSilentRow.holds Try.pinned (OpenSpec.ofChange trapSilentWrong)

/-- 'anvillaw10.TrapOrder': WHATEVER THE INPUT: true; the input reads as it did. -/
def trapOrderSpec : ChangeSpec := { name := "trapOrder", fn := fun _ => fun
  | [d1, d2, d3, d4] => { results := [.lit (.bool true)], args := [d1, d2, d3, d4] }
  | _ => none }
def trapOrderRow : OpenClaim := { program := "ytibfaifjnifgjaa", sum := "ff68c30a5fca283faa0cfac8ab1b15907a19f2274f1c1578996d313087249b0e", func := "anvil/anvillaw10.TrapOrder", spec := "trapOrder", apart := false }
def TrapOrderSaid : Prop := trapOrderRow.holds Try.pinned (OpenSpec.ofChange trapOrderSpec)

/-- ITS FALSE NEIGHBOUR: 'it returns false'. Refute it at one input. -/
def trapOrderWrong : ChangeSpec := { name := "trapOrder", fn := fun _ => fun
  | [d1, d2, d3, d4] => { results := [.lit (.bool false)], args := [d1, d2, d3, d4] }
  | _ => none }
def TrapOrderWrongFalsely : Prop := trapOrderRow.holds Try.pinned (OpenSpec.ofChange trapOrderWrong)

/-- 'anvillaw10.TrapModes': WHATEVER THE INPUT: true; the input reads as it did. -/
def trapModesSpec : ChangeSpec := { name := "trapModes", fn := fun _ => fun
  | [d] => { results := [.lit (.bool true)], args := [d] }
  | _ => none }
def trapModesRow : OpenClaim := { program := "ytibfaifjnifgjaa", sum := "ff68c30a5fca283faa0cfac8ab1b15907a19f2274f1c1578996d313087249b0e", func := "anvil/anvillaw10.TrapModes", spec := "trapModes", apart := false }
def TrapModesSaid : Prop := trapModesRow.holds Try.pinned (OpenSpec.ofChange trapModesSpec)

/-- ITS FALSE NEIGHBOUR: 'it returns false'. Refute it at one input. -/
def trapModesWrong : ChangeSpec := { name := "trapModes", fn := fun _ => fun
  | [d] => { results := [.lit (.bool false)], args := [d] }
  | _ => none }
def TrapModesWrongFalsely : Prop := trapModesRow.holds Try.pinned (OpenSpec.ofChange trapModesWrong)

/-- 'anvillaw09.CsrExists': WHATEVER THE INPUT: true; the input reads as it did. -/
def csrExistsSpec : ChangeSpec := { name := "csrExists", fn := fun _ => fun
  | [d] => { results := [.lit (.bool true)], args := [d] }
  | _ => none }
def csrExistsRow : OpenClaim := { program := "ytibfaifjnifgjaa", sum := "ff68c30a5fca283faa0cfac8ab1b15907a19f2274f1c1578996d313087249b0e", func := "anvil/anvillaw09.CsrExists", spec := "csrExists", apart := false }
def CsrExistsSaid : Prop := csrExistsRow.holds Try.pinned (OpenSpec.ofChange csrExistsSpec)

/-- ITS FALSE NEIGHBOUR: 'it returns false'. Refute it at one input. -/
def csrExistsWrong : ChangeSpec := { name := "csrExists", fn := fun _ => fun
  | [d] => { results := [.lit (.bool false)], args := [d] }
  | _ => none }
def CsrExistsWrongFalsely : Prop := csrExistsRow.holds Try.pinned (OpenSpec.ofChange csrExistsWrong)

/-- 'anvillaw04.PmpRuns': WHATEVER THE INPUT: true; the input reads as it did. -/
def pmpRunsSpec : ChangeSpec := { name := "pmpRuns", fn := fun _ => fun
  | [d] => { results := [.lit (.bool true)], args := [d] }
  | _ => none }
def pmpRunsRow : OpenClaim := { program := "ytibfaifjnifgjaa", sum := "ff68c30a5fca283faa0cfac8ab1b15907a19f2274f1c1578996d313087249b0e", func := "anvil/anvillaw04.PmpRuns", spec := "pmpRuns", apart := false }
def PmpRunsSaid : Prop := pmpRunsRow.holds Try.pinned (OpenSpec.ofChange pmpRunsSpec)

/-- ITS FALSE NEIGHBOUR: 'it returns false'. Refute it at one input. -/
def pmpRunsWrong : ChangeSpec := { name := "pmpRuns", fn := fun _ => fun
  | [d] => { results := [.lit (.bool false)], args := [d] }
  | _ => none }
def PmpRunsWrongFalsely : Prop := pmpRunsRow.holds Try.pinned (OpenSpec.ofChange pmpRunsWrong)

/-- 'anvillaw04.PmpLocks': WHATEVER THE INPUT: true; the input reads as it did. -/
def pmpLocksSpec : ChangeSpec := { name := "pmpLocks", fn := fun _ => fun
  | [d] => { results := [.lit (.bool true)], args := [d] }
  | _ => none }
def pmpLocksRow : OpenClaim := { program := "ytibfaifjnifgjaa", sum := "ff68c30a5fca283faa0cfac8ab1b15907a19f2274f1c1578996d313087249b0e", func := "anvil/anvillaw04.PmpLocks", spec := "pmpLocks", apart := false }
def PmpLocksSaid : Prop := pmpLocksRow.holds Try.pinned (OpenSpec.ofChange pmpLocksSpec)

/-- ITS FALSE NEIGHBOUR: 'it returns false'. Refute it at one input. -/
def pmpLocksWrong : ChangeSpec := { name := "pmpLocks", fn := fun _ => fun
  | [d] => { results := [.lit (.bool false)], args := [d] }
  | _ => none }
def PmpLocksWrongFalsely : Prop := pmpLocksRow.holds Try.pinned (OpenSpec.ofChange pmpLocksWrong)

/-- 'anvillaw04.PmpTakes': WHATEVER THE INPUT: true; the input reads as it did. -/
def pmpTakesSpec : ChangeSpec := { name := "pmpTakes", fn := fun _ => fun
  | [d] => { results := [.lit (.bool true)], args := [d] }
  | _ => none }
def pmpTakesRow : OpenClaim := { program := "ytibfaifjnifgjaa", sum := "ff68c30a5fca283faa0cfac8ab1b15907a19f2274f1c1578996d313087249b0e", func := "anvil/anvillaw04.PmpTakes", spec := "pmpTakes", apart := false }
def PmpTakesSaid : Prop := pmpTakesRow.holds Try.pinned (OpenSpec.ofChange pmpTakesSpec)

/-- ITS FALSE NEIGHBOUR: 'it returns false'. Refute it at one input. -/
def pmpTakesWrong : ChangeSpec := { name := "pmpTakes", fn := fun _ => fun
  | [d] => { results := [.lit (.bool false)], args := [d] }
  | _ => none }
def PmpTakesWrongFalsely : Prop := pmpTakesRow.holds Try.pinned (OpenSpec.ofChange pmpTakesWrong)

/-- 'anvillaw04.PmpFirst': WHATEVER THE INPUT: true; the input reads as it did. -/
def pmpFirstSpec : ChangeSpec := { name := "pmpFirst", fn := fun _ => fun
  | [d] => { results := [.lit (.bool true)], args := [d] }
  | _ => none }
def pmpFirstRow : OpenClaim := { program := "ytibfaifjnifgjaa", sum := "ff68c30a5fca283faa0cfac8ab1b15907a19f2274f1c1578996d313087249b0e", func := "anvil/anvillaw04.PmpFirst", spec := "pmpFirst", apart := false }
def PmpFirstSaid : Prop := pmpFirstRow.holds Try.pinned (OpenSpec.ofChange pmpFirstSpec)

/-- ITS FALSE NEIGHBOUR: 'it returns false'. Refute it at one input. -/
def pmpFirstWrong : ChangeSpec := { name := "pmpFirst", fn := fun _ => fun
  | [d] => { results := [.lit (.bool false)], args := [d] }
  | _ => none }
def PmpFirstWrongFalsely : Prop := pmpFirstRow.holds Try.pinned (OpenSpec.ofChange pmpFirstWrong)

/-- 'anvillaw04.PmpBytes': WHATEVER THE INPUT: true; the input reads as it did. -/
def pmpBytesSpec : ChangeSpec := { name := "pmpBytes", fn := fun _ => fun
  | [d] => { results := [.lit (.bool true)], args := [d] }
  | _ => none }
def pmpBytesRow : OpenClaim := { program := "ytibfaifjnifgjaa", sum := "ff68c30a5fca283faa0cfac8ab1b15907a19f2274f1c1578996d313087249b0e", func := "anvil/anvillaw04.PmpBytes", spec := "pmpBytes", apart := false }
def PmpBytesSaid : Prop := pmpBytesRow.holds Try.pinned (OpenSpec.ofChange pmpBytesSpec)

/-- ITS FALSE NEIGHBOUR: 'it returns false'. Refute it at one input. -/
def pmpBytesWrong : ChangeSpec := { name := "pmpBytes", fn := fun _ => fun
  | [d] => { results := [.lit (.bool false)], args := [d] }
  | _ => none }
def PmpBytesWrongFalsely : Prop := pmpBytesRow.holds Try.pinned (OpenSpec.ofChange pmpBytesWrong)

/-- 'anvillaw04.PmpShapes': WHATEVER THE INPUT: true; the input reads as it did. -/
def pmpShapesSpec : ChangeSpec := { name := "pmpShapes", fn := fun _ => fun
  | [d1, d2, d3, d4] => { results := [.lit (.bool true)], args := [d1, d2, d3, d4] }
  | _ => none }
def pmpShapesRow : OpenClaim := { program := "ytibfaifjnifgjaa", sum := "ff68c30a5fca283faa0cfac8ab1b15907a19f2274f1c1578996d313087249b0e", func := "anvil/anvillaw04.PmpShapes", spec := "pmpShapes", apart := false }
def PmpShapesSaid : Prop := pmpShapesRow.holds Try.pinned (OpenSpec.ofChange pmpShapesSpec)

/-- ITS FALSE NEIGHBOUR: 'it returns false'. Refute it at one input. -/
def pmpShapesWrong : ChangeSpec := { name := "pmpShapes", fn := fun _ => fun
  | [d1, d2, d3, d4] => { results := [.lit (.bool false)], args := [d1, d2, d3, d4] }
  | _ => none }
def PmpShapesWrongFalsely : Prop := pmpShapesRow.holds Try.pinned (OpenSpec.ofChange pmpShapesWrong)

/-- 'anvillaw09.CsrWrites': WHATEVER THE INPUT: true; the input reads as it did. -/
def csrWritesSpec : ChangeSpec := { name := "csrWrites", fn := fun _ => fun
  | [d] => { results := [.lit (.bool true)], args := [d] }
  | _ => none }
def csrWritesRow : OpenClaim := { program := "ytibfaifjnifgjaa", sum := "ff68c30a5fca283faa0cfac8ab1b15907a19f2274f1c1578996d313087249b0e", func := "anvil/anvillaw09.CsrWrites", spec := "csrWrites", unfollowed := true, recurses := true, apart := false }
def CsrWritesSaid : Prop := csrWritesRow.holds Try.pinned (OpenSpec.ofChange csrWritesSpec)

/-- ITS FALSE NEIGHBOUR: 'it returns false'. Refute it at one input. -/
def csrWritesWrong : ChangeSpec := { name := "csrWrites", fn := fun _ => fun
  | [d] => { results := [.lit (.bool false)], args := [d] }
  | _ => none }
def CsrWritesWrongFalsely : Prop := csrWritesRow.holds Try.pinned (OpenSpec.ofChange csrWritesWrong)

/-- 'anvillaw09.CsrReads': WHATEVER THE INPUT: true; the input reads as it did. -/
def csrReadsSpec : ChangeSpec := { name := "csrReads", fn := fun _ => fun
  | [d] => { results := [.lit (.bool true)], args := [d] }
  | _ => none }
def csrReadsRow : OpenClaim := { program := "ytibfaifjnifgjaa", sum := "ff68c30a5fca283faa0cfac8ab1b15907a19f2274f1c1578996d313087249b0e", func := "anvil/anvillaw09.CsrReads", spec := "csrReads", unfollowed := true, recurses := true, apart := false }
def CsrReadsSaid : Prop := csrReadsRow.holds Try.pinned (OpenSpec.ofChange csrReadsSpec)

/-- ITS FALSE NEIGHBOUR: 'it returns false'. Refute it at one input. -/
def csrReadsWrong : ChangeSpec := { name := "csrReads", fn := fun _ => fun
  | [d] => { results := [.lit (.bool false)], args := [d] }
  | _ => none }
def CsrReadsWrongFalsely : Prop := csrReadsRow.holds Try.pinned (OpenSpec.ofChange csrReadsWrong)

/-- 'anvillaw09.CsrRuns': WHATEVER THE INPUT: true; the input reads as it did. -/
def csrRunsSpec : ChangeSpec := { name := "csrRuns", fn := fun _ => fun
  | [d] => { results := [.lit (.bool true)], args := [d] }
  | _ => none }
def csrRunsRow : OpenClaim := { program := "ytibfaifjnifgjaa", sum := "ff68c30a5fca283faa0cfac8ab1b15907a19f2274f1c1578996d313087249b0e", func := "anvil/anvillaw09.CsrRuns", spec := "csrRuns", unfollowed := true, recurses := true, apart := false }
def CsrRunsSaid : Prop := csrRunsRow.holds Try.pinned (OpenSpec.ofChange csrRunsSpec)

/-- ITS FALSE NEIGHBOUR: 'it returns false'. Refute it at one input. -/
def csrRunsWrong : ChangeSpec := { name := "csrRuns", fn := fun _ => fun
  | [d] => { results := [.lit (.bool false)], args := [d] }
  | _ => none }
def CsrRunsWrongFalsely : Prop := csrRunsRow.holds Try.pinned (OpenSpec.ofChange csrRunsWrong)

/-- 'anvillaw09.CsrStays': WHATEVER THE INPUT: true; the input reads as it did. -/
def csrStaysSpec : ChangeSpec := { name := "csrStays", fn := fun _ => fun
  | [d] => { results := [.lit (.bool true)], args := [d] }
  | _ => none }
def csrStaysRow : OpenClaim := { program := "ytibfaifjnifgjaa", sum := "ff68c30a5fca283faa0cfac8ab1b15907a19f2274f1c1578996d313087249b0e", func := "anvil/anvillaw09.CsrStays", spec := "csrStays", unfollowed := true, recurses := true, apart := false }
def CsrStaysSaid : Prop := csrStaysRow.holds Try.pinned (OpenSpec.ofChange csrStaysSpec)

/-- ITS FALSE NEIGHBOUR: 'it returns false'. Refute it at one input. -/
def csrStaysWrong : ChangeSpec := { name := "csrStays", fn := fun _ => fun
  | [d] => { results := [.lit (.bool false)], args := [d] }
  | _ => none }
def CsrStaysWrongFalsely : Prop := csrStaysRow.holds Try.pinned (OpenSpec.ofChange csrStaysWrong)

/-- 'anvillaw09.CsrTells': WHATEVER THE INPUT: true; the input reads as it did. -/
def csrTellsSpec : ChangeSpec := { name := "csrTells", fn := fun _ => fun
  | [d1, d2] => { results := [.lit (.bool true)], args := [d1, d2] }
  | _ => none }
def csrTellsRow : OpenClaim := { program := "ytibfaifjnifgjaa", sum := "ff68c30a5fca283faa0cfac8ab1b15907a19f2274f1c1578996d313087249b0e", func := "anvil/anvillaw09.CsrTells", spec := "csrTells", unfollowed := true, recurses := true, apart := false }
def CsrTellsSaid : Prop := csrTellsRow.holds Try.pinned (OpenSpec.ofChange csrTellsSpec)

/-- ITS FALSE NEIGHBOUR: 'it returns false'. Refute it at one input. -/
def csrTellsWrong : ChangeSpec := { name := "csrTells", fn := fun _ => fun
  | [d1, d2] => { results := [.lit (.bool false)], args := [d1, d2] }
  | _ => none }
def CsrTellsWrongFalsely : Prop := csrTellsRow.holds Try.pinned (OpenSpec.ofChange csrTellsWrong)

/-- 'anvillaw09.CsrKeeps': WHATEVER THE INPUT: true; the input reads as it did. -/
def csrKeepsSpec : ChangeSpec := { name := "csrKeeps", fn := fun _ => fun
  | [d1, d2] => { results := [.lit (.bool true)], args := [d1, d2] }
  | _ => none }
def csrKeepsRow : OpenClaim := { program := "ytibfaifjnifgjaa", sum := "ff68c30a5fca283faa0cfac8ab1b15907a19f2274f1c1578996d313087249b0e", func := "anvil/anvillaw09.CsrKeeps", spec := "csrKeeps", unfollowed := true, recurses := true, apart := false }
def CsrKeepsSaid : Prop := csrKeepsRow.holds Try.pinned (OpenSpec.ofChange csrKeepsSpec)

/-- ITS FALSE NEIGHBOUR: 'it returns false'. Refute it at one input. -/
def csrKeepsWrong : ChangeSpec := { name := "csrKeeps", fn := fun _ => fun
  | [d1, d2] => { results := [.lit (.bool false)], args := [d1, d2] }
  | _ => none }
def CsrKeepsWrongFalsely : Prop := csrKeepsRow.holds Try.pinned (OpenSpec.ofChange csrKeepsWrong)

/-- 'anvillaw09.CsrUser': WHATEVER THE INPUT: true; the input reads as it did. -/
def csrUserSpec : ChangeSpec := { name := "csrUser", fn := fun _ => fun
  | [d] => { results := [.lit (.bool true)], args := [d] }
  | _ => none }
def csrUserRow : OpenClaim := { program := "ytibfaifjnifgjaa", sum := "ff68c30a5fca283faa0cfac8ab1b15907a19f2274f1c1578996d313087249b0e", func := "anvil/anvillaw09.CsrUser", spec := "csrUser", unfollowed := true, recurses := true, apart := false }
def CsrUserSaid : Prop := csrUserRow.holds Try.pinned (OpenSpec.ofChange csrUserSpec)

/-- ITS FALSE NEIGHBOUR: 'it returns false'. Refute it at one input. -/
def csrUserWrong : ChangeSpec := { name := "csrUser", fn := fun _ => fun
  | [d] => { results := [.lit (.bool false)], args := [d] }
  | _ => none }
def CsrUserWrongFalsely : Prop := csrUserRow.holds Try.pinned (OpenSpec.ofChange csrUserWrong)

/- THE SECOND FORM. 'bulk': how many values and letters a reading holds, each counted each time it is reached (what is shared counts as often as it is met; a slice's spare places count too). A statement '..UptoSaid' is the law's where the arguments, and the package variables that the reading takes, are together of bulk at most 1048576: NARROWER than '..Said'. Prove '..Said' where nothing that the law and all that it calls make is longer than what came in: it says more and counts as full. Else prove '..UptoSaid'. A law counts once. -/
mutual
def uptoBulk {H : Type} : DataW H → Nat
  | .lit (.string bytes) => bytes.length + 1
  | .lit _ => 1
  | .nil => 1
  | .ptr d => uptoBulk d + 1
  | .slice elems spare => uptoBulkAll elems + uptoBulkAll spare + 1
  | .agg parts => uptoBulkAll parts + 1
  | .iface _ d => uptoBulk d + 1
  | .map entries => uptoBulkEntries entries + 1
  | .held _ => 1
def uptoBulkAll {H : Type} : List (DataW H) → Nat
  | [] => 0
  | d :: r => uptoBulk d + uptoBulkAll r
def uptoBulkEntries {H : Type} : List (Lit × DataW H) → Nat
  | [] => 0
  | x :: r => uptoBulkEntry x + uptoBulkEntries r
def uptoBulkEntry {H : Type} : Lit × DataW H → Nat
  | (.string bytes, d) => bytes.length + uptoBulk d + 1
  | (_, d) => uptoBulk d + 1
 end
def uptoSmall : (H : Type) → List (DataW H) → Bool := fun _ ds => decide (uptoBulkAll ds ≤ 1048576)
def OpenSpec.upto (s : _root_.Go.ChangeSpec) : _root_.Go.OpenSpec := { _root_.Go.OpenSpec.ofChange s with cond := some uptoSmall }

/-- 'anvillaw04.PmpProper', WHERE WHAT IT READS IS OF BULK AT MOST 1048576: true; the input reads as it did. -/
def pmpProperUptoRow : OpenClaim := { program := "ytibfaifjnifgjaa", sum := "ff68c30a5fca283faa0cfac8ab1b15907a19f2274f1c1578996d313087249b0e", func := "anvil/anvillaw04.PmpProper", spec := "pmpProper", apart := false, narrowed := true }
def PmpProperUptoSaid : Prop := pmpProperUptoRow.holds Try.pinned (OpenSpec.upto pmpProperSpec)

/-- 'anvillaw09.CsrProper', WHERE WHAT IT READS IS OF BULK AT MOST 1048576: true; the input reads as it did. -/
def csrProperUptoRow : OpenClaim := { program := "ytibfaifjnifgjaa", sum := "ff68c30a5fca283faa0cfac8ab1b15907a19f2274f1c1578996d313087249b0e", func := "anvil/anvillaw09.CsrProper", spec := "csrProper", apart := false, narrowed := true }
def CsrProperUptoSaid : Prop := csrProperUptoRow.holds Try.pinned (OpenSpec.upto csrProperSpec)

/-- 'anvillaw04.PmpSpans', WHERE WHAT IT READS IS OF BULK AT MOST 1048576: true; the input reads as it did. -/
def pmpSpansUptoRow : OpenClaim := { program := "ytibfaifjnifgjaa", sum := "ff68c30a5fca283faa0cfac8ab1b15907a19f2274f1c1578996d313087249b0e", func := "anvil/anvillaw04.PmpSpans", spec := "pmpSpans", apart := false, narrowed := true }
def PmpSpansUptoSaid : Prop := pmpSpansUptoRow.holds Try.pinned (OpenSpec.upto pmpSpansSpec)

/-- 'anvillaw04.PmpReads', WHERE WHAT IT READS IS OF BULK AT MOST 1048576: true; the input reads as it did. -/
def pmpReadsUptoRow : OpenClaim := { program := "ytibfaifjnifgjaa", sum := "ff68c30a5fca283faa0cfac8ab1b15907a19f2274f1c1578996d313087249b0e", func := "anvil/anvillaw04.PmpReads", spec := "pmpReads", apart := false, narrowed := true }
def PmpReadsUptoSaid : Prop := pmpReadsUptoRow.holds Try.pinned (OpenSpec.upto pmpReadsSpec)

/-- 'anvillaw09.CsrCounts', WHERE WHAT IT READS IS OF BULK AT MOST 1048576: true; the input reads as it did. -/
def csrCountsUptoRow : OpenClaim := { program := "ytibfaifjnifgjaa", sum := "ff68c30a5fca283faa0cfac8ab1b15907a19f2274f1c1578996d313087249b0e", func := "anvil/anvillaw09.CsrCounts", spec := "csrCounts", apart := false, narrowed := true }
def CsrCountsUptoSaid : Prop := csrCountsUptoRow.holds Try.pinned (OpenSpec.upto csrCountsSpec)

/-- 'anvillaw09.CsrWraps', WHERE WHAT IT READS IS OF BULK AT MOST 1048576: true; the input reads as it did. -/
def csrWrapsUptoRow : OpenClaim := { program := "ytibfaifjnifgjaa", sum := "ff68c30a5fca283faa0cfac8ab1b15907a19f2274f1c1578996d313087249b0e", func := "anvil/anvillaw09.CsrWraps", spec := "csrWraps", apart := false, narrowed := true }
def CsrWrapsUptoSaid : Prop := csrWrapsUptoRow.holds Try.pinned (OpenSpec.upto csrWrapsSpec)

/-- 'anvillaw04.PmpWrites', WHERE WHAT IT READS IS OF BULK AT MOST 1048576: true; the input reads as it did. -/
def pmpWritesUptoRow : OpenClaim := { program := "ytibfaifjnifgjaa", sum := "ff68c30a5fca283faa0cfac8ab1b15907a19f2274f1c1578996d313087249b0e", func := "anvil/anvillaw04.PmpWrites", spec := "pmpWrites", apart := false, narrowed := true }
def PmpWritesUptoSaid : Prop := pmpWritesUptoRow.holds Try.pinned (OpenSpec.upto pmpWritesSpec)

/-- 'anvillaw10.TrapPends', WHERE WHAT IT READS IS OF BULK AT MOST 1048576: true; the input reads as it did. -/
def trapPendsUptoRow : OpenClaim := { program := "ytibfaifjnifgjaa", sum := "ff68c30a5fca283faa0cfac8ab1b15907a19f2274f1c1578996d313087249b0e", func := "anvil/anvillaw10.TrapPends", spec := "trapPends", apart := false, narrowed := true }
def TrapPendsUptoSaid : Prop := trapPendsUptoRow.holds Try.pinned (OpenSpec.upto trapPendsSpec)

/-- 'anvillaw10.TrapWaits', WHERE WHAT IT READS IS OF BULK AT MOST 1048576: true; the input reads as it did. -/
def trapWaitsUptoRow : OpenClaim := { program := "ytibfaifjnifgjaa", sum := "ff68c30a5fca283faa0cfac8ab1b15907a19f2274f1c1578996d313087249b0e", func := "anvil/anvillaw10.TrapWaits", spec := "trapWaits", apart := false, narrowed := true }
def TrapWaitsUptoSaid : Prop := trapWaitsUptoRow.holds Try.pinned (OpenSpec.upto trapWaitsSpec)

/-- 'anvillaw10.TrapReturns', WHERE WHAT IT READS IS OF BULK AT MOST 1048576: true; the input reads as it did. -/
def trapReturnsUptoRow : OpenClaim := { program := "ytibfaifjnifgjaa", sum := "ff68c30a5fca283faa0cfac8ab1b15907a19f2274f1c1578996d313087249b0e", func := "anvil/anvillaw10.TrapReturns", spec := "trapReturns", apart := false, narrowed := true }
def TrapReturnsUptoSaid : Prop := trapReturnsUptoRow.holds Try.pinned (OpenSpec.upto trapReturnsSpec)

/-- 'anvillaw04.PmpMatches', WHERE WHAT IT READS IS OF BULK AT MOST 1048576: true; the input reads as it did. -/
def pmpMatchesUptoRow : OpenClaim := { program := "ytibfaifjnifgjaa", sum := "ff68c30a5fca283faa0cfac8ab1b15907a19f2274f1c1578996d313087249b0e", func := "anvil/anvillaw04.PmpMatches", spec := "pmpMatches", apart := false, narrowed := true }
def PmpMatchesUptoSaid : Prop := pmpMatchesUptoRow.holds Try.pinned (OpenSpec.upto pmpMatchesSpec)

/-- 'anvillaw04.PmpGrants', WHERE WHAT IT READS IS OF BULK AT MOST 1048576: true; the input reads as it did. -/
def pmpGrantsUptoRow : OpenClaim := { program := "ytibfaifjnifgjaa", sum := "ff68c30a5fca283faa0cfac8ab1b15907a19f2274f1c1578996d313087249b0e", func := "anvil/anvillaw04.PmpGrants", spec := "pmpGrants", apart := false, narrowed := true }
def PmpGrantsUptoSaid : Prop := pmpGrantsUptoRow.holds Try.pinned (OpenSpec.upto pmpGrantsSpec)

/-- 'anvillaw10.TrapEnters', WHERE WHAT IT READS IS OF BULK AT MOST 1048576: true; the input reads as it did. -/
def trapEntersUptoRow : OpenClaim := { program := "ytibfaifjnifgjaa", sum := "ff68c30a5fca283faa0cfac8ab1b15907a19f2274f1c1578996d313087249b0e", func := "anvil/anvillaw10.TrapEnters", spec := "trapEnters", apart := false, narrowed := true }
def TrapEntersUptoSaid : Prop := trapEntersUptoRow.holds Try.pinned (OpenSpec.upto trapEntersSpec)

/-- 'anvillaw04.PmpChecks', WHERE WHAT IT READS IS OF BULK AT MOST 1048576: true; the input reads as it did. -/
def pmpChecksUptoRow : OpenClaim := { program := "ytibfaifjnifgjaa", sum := "ff68c30a5fca283faa0cfac8ab1b15907a19f2274f1c1578996d313087249b0e", func := "anvil/anvillaw04.PmpChecks", spec := "pmpChecks", apart := false, narrowed := true }
def PmpChecksUptoSaid : Prop := pmpChecksUptoRow.holds Try.pinned (OpenSpec.upto pmpChecksSpec)

/-- 'anvillaw10.TrapAll', WHERE WHAT IT READS IS OF BULK AT MOST 1048576: true; the input reads as it did. -/
def trapAllUptoRow : OpenClaim := { program := "ytibfaifjnifgjaa", sum := "ff68c30a5fca283faa0cfac8ab1b15907a19f2274f1c1578996d313087249b0e", func := "anvil/anvillaw10.TrapAll", spec := "trapAll", apart := false, narrowed := true }
def TrapAllUptoSaid : Prop := trapAllUptoRow.holds Try.pinned (OpenSpec.upto trapAllSpec)

/-- 'anvillaw10.TrapProper', WHERE WHAT IT READS IS OF BULK AT MOST 1048576: true; the input reads as it did. -/
def trapProperUptoRow : OpenClaim := { program := "ytibfaifjnifgjaa", sum := "ff68c30a5fca283faa0cfac8ab1b15907a19f2274f1c1578996d313087249b0e", func := "anvil/anvillaw10.TrapProper", spec := "trapProper", apart := false, narrowed := true }
def TrapProperUptoSaid : Prop := trapProperUptoRow.holds Try.pinned (OpenSpec.upto trapProperSpec)

/-- 'anvillaw10.TrapBack', WHERE WHAT IT READS IS OF BULK AT MOST 1048576: true; the input reads as it did. -/
def trapBackUptoRow : OpenClaim := { program := "ytibfaifjnifgjaa", sum := "ff68c30a5fca283faa0cfac8ab1b15907a19f2274f1c1578996d313087249b0e", func := "anvil/anvillaw10.TrapBack", spec := "trapBack", apart := false, narrowed := true }
def TrapBackUptoSaid : Prop := trapBackUptoRow.holds Try.pinned (OpenSpec.upto trapBackSpec)

/-- 'anvillaw10.TrapSilent', WHERE WHAT IT READS IS OF BULK AT MOST 1048576: true; the input reads as it did. -/
def trapSilentUptoRow : OpenClaim := { program := "ytibfaifjnifgjaa", sum := "ff68c30a5fca283faa0cfac8ab1b15907a19f2274f1c1578996d313087249b0e", func := "anvil/anvillaw10.TrapSilent", spec := "trapSilent", apart := false, narrowed := true }
def TrapSilentUptoSaid : Prop := trapSilentUptoRow.holds Try.pinned (OpenSpec.upto trapSilentSpec)

/-- 'anvillaw10.TrapOrder', WHERE WHAT IT READS IS OF BULK AT MOST 1048576: true; the input reads as it did. -/
def trapOrderUptoRow : OpenClaim := { program := "ytibfaifjnifgjaa", sum := "ff68c30a5fca283faa0cfac8ab1b15907a19f2274f1c1578996d313087249b0e", func := "anvil/anvillaw10.TrapOrder", spec := "trapOrder", apart := false, narrowed := true }
def TrapOrderUptoSaid : Prop := trapOrderUptoRow.holds Try.pinned (OpenSpec.upto trapOrderSpec)

/-- 'anvillaw10.TrapModes', WHERE WHAT IT READS IS OF BULK AT MOST 1048576: true; the input reads as it did. -/
def trapModesUptoRow : OpenClaim := { program := "ytibfaifjnifgjaa", sum := "ff68c30a5fca283faa0cfac8ab1b15907a19f2274f1c1578996d313087249b0e", func := "anvil/anvillaw10.TrapModes", spec := "trapModes", apart := false, narrowed := true }
def TrapModesUptoSaid : Prop := trapModesUptoRow.holds Try.pinned (OpenSpec.upto trapModesSpec)

/-- 'anvillaw09.CsrExists', WHERE WHAT IT READS IS OF BULK AT MOST 1048576: true; the input reads as it did. -/
def csrExistsUptoRow : OpenClaim := { program := "ytibfaifjnifgjaa", sum := "ff68c30a5fca283faa0cfac8ab1b15907a19f2274f1c1578996d313087249b0e", func := "anvil/anvillaw09.CsrExists", spec := "csrExists", apart := false, narrowed := true }
def CsrExistsUptoSaid : Prop := csrExistsUptoRow.holds Try.pinned (OpenSpec.upto csrExistsSpec)

/-- 'anvillaw04.PmpRuns', WHERE WHAT IT READS IS OF BULK AT MOST 1048576: true; the input reads as it did. -/
def pmpRunsUptoRow : OpenClaim := { program := "ytibfaifjnifgjaa", sum := "ff68c30a5fca283faa0cfac8ab1b15907a19f2274f1c1578996d313087249b0e", func := "anvil/anvillaw04.PmpRuns", spec := "pmpRuns", apart := false, narrowed := true }
def PmpRunsUptoSaid : Prop := pmpRunsUptoRow.holds Try.pinned (OpenSpec.upto pmpRunsSpec)

/-- 'anvillaw04.PmpLocks', WHERE WHAT IT READS IS OF BULK AT MOST 1048576: true; the input reads as it did. -/
def pmpLocksUptoRow : OpenClaim := { program := "ytibfaifjnifgjaa", sum := "ff68c30a5fca283faa0cfac8ab1b15907a19f2274f1c1578996d313087249b0e", func := "anvil/anvillaw04.PmpLocks", spec := "pmpLocks", apart := false, narrowed := true }
def PmpLocksUptoSaid : Prop := pmpLocksUptoRow.holds Try.pinned (OpenSpec.upto pmpLocksSpec)

/-- 'anvillaw04.PmpTakes', WHERE WHAT IT READS IS OF BULK AT MOST 1048576: true; the input reads as it did. -/
def pmpTakesUptoRow : OpenClaim := { program := "ytibfaifjnifgjaa", sum := "ff68c30a5fca283faa0cfac8ab1b15907a19f2274f1c1578996d313087249b0e", func := "anvil/anvillaw04.PmpTakes", spec := "pmpTakes", apart := false, narrowed := true }
def PmpTakesUptoSaid : Prop := pmpTakesUptoRow.holds Try.pinned (OpenSpec.upto pmpTakesSpec)

/-- 'anvillaw04.PmpFirst', WHERE WHAT IT READS IS OF BULK AT MOST 1048576: true; the input reads as it did. -/
def pmpFirstUptoRow : OpenClaim := { program := "ytibfaifjnifgjaa", sum := "ff68c30a5fca283faa0cfac8ab1b15907a19f2274f1c1578996d313087249b0e", func := "anvil/anvillaw04.PmpFirst", spec := "pmpFirst", apart := false, narrowed := true }
def PmpFirstUptoSaid : Prop := pmpFirstUptoRow.holds Try.pinned (OpenSpec.upto pmpFirstSpec)

/-- 'anvillaw04.PmpBytes', WHERE WHAT IT READS IS OF BULK AT MOST 1048576: true; the input reads as it did. -/
def pmpBytesUptoRow : OpenClaim := { program := "ytibfaifjnifgjaa", sum := "ff68c30a5fca283faa0cfac8ab1b15907a19f2274f1c1578996d313087249b0e", func := "anvil/anvillaw04.PmpBytes", spec := "pmpBytes", apart := false, narrowed := true }
def PmpBytesUptoSaid : Prop := pmpBytesUptoRow.holds Try.pinned (OpenSpec.upto pmpBytesSpec)

/-- 'anvillaw04.PmpShapes', WHERE WHAT IT READS IS OF BULK AT MOST 1048576: true; the input reads as it did. -/
def pmpShapesUptoRow : OpenClaim := { program := "ytibfaifjnifgjaa", sum := "ff68c30a5fca283faa0cfac8ab1b15907a19f2274f1c1578996d313087249b0e", func := "anvil/anvillaw04.PmpShapes", spec := "pmpShapes", apart := false, narrowed := true }
def PmpShapesUptoSaid : Prop := pmpShapesUptoRow.holds Try.pinned (OpenSpec.upto pmpShapesSpec)

/-- 'anvillaw09.CsrWrites', WHERE WHAT IT READS IS OF BULK AT MOST 1048576: true; the input reads as it did. -/
def csrWritesUptoRow : OpenClaim := { program := "ytibfaifjnifgjaa", sum := "ff68c30a5fca283faa0cfac8ab1b15907a19f2274f1c1578996d313087249b0e", func := "anvil/anvillaw09.CsrWrites", spec := "csrWrites", unfollowed := true, recurses := true, apart := false, narrowed := true }
def CsrWritesUptoSaid : Prop := csrWritesUptoRow.holds Try.pinned (OpenSpec.upto csrWritesSpec)

/-- 'anvillaw09.CsrReads', WHERE WHAT IT READS IS OF BULK AT MOST 1048576: true; the input reads as it did. -/
def csrReadsUptoRow : OpenClaim := { program := "ytibfaifjnifgjaa", sum := "ff68c30a5fca283faa0cfac8ab1b15907a19f2274f1c1578996d313087249b0e", func := "anvil/anvillaw09.CsrReads", spec := "csrReads", unfollowed := true, recurses := true, apart := false, narrowed := true }
def CsrReadsUptoSaid : Prop := csrReadsUptoRow.holds Try.pinned (OpenSpec.upto csrReadsSpec)

/-- 'anvillaw09.CsrRuns', WHERE WHAT IT READS IS OF BULK AT MOST 1048576: true; the input reads as it did. -/
def csrRunsUptoRow : OpenClaim := { program := "ytibfaifjnifgjaa", sum := "ff68c30a5fca283faa0cfac8ab1b15907a19f2274f1c1578996d313087249b0e", func := "anvil/anvillaw09.CsrRuns", spec := "csrRuns", unfollowed := true, recurses := true, apart := false, narrowed := true }
def CsrRunsUptoSaid : Prop := csrRunsUptoRow.holds Try.pinned (OpenSpec.upto csrRunsSpec)

/-- 'anvillaw09.CsrStays', WHERE WHAT IT READS IS OF BULK AT MOST 1048576: true; the input reads as it did. -/
def csrStaysUptoRow : OpenClaim := { program := "ytibfaifjnifgjaa", sum := "ff68c30a5fca283faa0cfac8ab1b15907a19f2274f1c1578996d313087249b0e", func := "anvil/anvillaw09.CsrStays", spec := "csrStays", unfollowed := true, recurses := true, apart := false, narrowed := true }
def CsrStaysUptoSaid : Prop := csrStaysUptoRow.holds Try.pinned (OpenSpec.upto csrStaysSpec)

/-- 'anvillaw09.CsrTells', WHERE WHAT IT READS IS OF BULK AT MOST 1048576: true; the input reads as it did. -/
def csrTellsUptoRow : OpenClaim := { program := "ytibfaifjnifgjaa", sum := "ff68c30a5fca283faa0cfac8ab1b15907a19f2274f1c1578996d313087249b0e", func := "anvil/anvillaw09.CsrTells", spec := "csrTells", unfollowed := true, recurses := true, apart := false, narrowed := true }
def CsrTellsUptoSaid : Prop := csrTellsUptoRow.holds Try.pinned (OpenSpec.upto csrTellsSpec)

/-- 'anvillaw09.CsrKeeps', WHERE WHAT IT READS IS OF BULK AT MOST 1048576: true; the input reads as it did. -/
def csrKeepsUptoRow : OpenClaim := { program := "ytibfaifjnifgjaa", sum := "ff68c30a5fca283faa0cfac8ab1b15907a19f2274f1c1578996d313087249b0e", func := "anvil/anvillaw09.CsrKeeps", spec := "csrKeeps", unfollowed := true, recurses := true, apart := false, narrowed := true }
def CsrKeepsUptoSaid : Prop := csrKeepsUptoRow.holds Try.pinned (OpenSpec.upto csrKeepsSpec)

/-- 'anvillaw09.CsrUser', WHERE WHAT IT READS IS OF BULK AT MOST 1048576: true; the input reads as it did. -/
def csrUserUptoRow : OpenClaim := { program := "ytibfaifjnifgjaa", sum := "ff68c30a5fca283faa0cfac8ab1b15907a19f2274f1c1578996d313087249b0e", func := "anvil/anvillaw09.CsrUser", spec := "csrUser", unfollowed := true, recurses := true, apart := false, narrowed := true }
def CsrUserUptoSaid : Prop := csrUserUptoRow.holds Try.pinned (OpenSpec.upto csrUserSpec)

end Rows
end Go.Proofs.Ytibfaifjnifgjaa
