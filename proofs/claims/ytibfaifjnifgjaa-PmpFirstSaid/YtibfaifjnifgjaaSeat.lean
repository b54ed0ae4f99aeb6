/-
  What every statement of this seat asks of the program alone, and the joint of the closed facts. No condition.
-/
import Derived.Test.YtibfaifjnifgjaaRows
import Derived.JoinedOf
import Derived.KernelRfl
namespace Go.Proofs.Ytibfaifjnifgjaa
open Go

theorem own : ownKnob Try.prog.godebug = none := by kernel_rfl
theorem laidOut : laidOutB Try.prog = true := by kernel_rfl

/-- The signs of the program's head line. -/
def headCodes : List Nat := [104, 97, 114, 110, 101, 115, 115, 32, 98, 52, 54, 57, 97, 99, 57, 99, 48, 54, 48, 51, 50, 56, 55, 99, 48, 102, 102, 101, 98, 54, 51, 102, 101, 52, 48, 52, 53, 99, 102, 102, 53, 97, 99, 99, 56, 51, 48, 56, 99, 56, 97, 100, 56, 48, 53, 97, 56, 102, 56, 48, 52, 51, 100, 52, 57, 55, 101, 98, 48, 54, 56, 98, 32, 99, 117, 116, 32, 97, 116, 32, 97, 110, 118, 105, 108, 47, 97, 110, 118, 105, 108, 108, 97, 119, 48, 52, 46, 80, 109, 112, 80, 114, 111, 112, 101, 114, 32, 97, 110, 118, 105, 108, 47, 97, 110, 118, 105, 108, 108, 97, 119, 48, 57, 46, 67, 115, 114, 80, 114, 111, 112, 101, 114, 32, 97, 110, 118, 105, 108, 47, 97, 110, 118, 105, 108, 108, 97, 119, 48, 52, 46, 80, 109, 112, 83, 112, 97, 110, 115, 32, 97, 110, 118, 105, 108, 47, 97, 110, 118, 105, 108, 108, 97, 119, 48, 52, 46, 80, 109, 112, 82, 101, 97, 100, 115, 32, 97, 110, 118, 105, 108, 47, 97, 110, 118, 105, 108, 108, 97, 119, 48, 57, 46, 67, 115, 114, 67, 111, 117, 110, 116, 115, 32, 97, 110, 118, 105, 108, 47, 97, 110, 118, 105, 108, 108, 97, 119, 48, 57, 46, 67, 115, 114, 87, 114, 97, 112, 115, 32, 97, 110, 118, 105, 108, 47, 97, 110, 118, 105, 108, 108, 97, 119, 48, 52, 46, 80, 109, 112, 87, 114, 105, 116, 101, 115, 32, 97, 110, 118, 105, 108, 47, 97, 110, 118, 105, 108, 108, 97, 119, 49, 48, 46, 84, 114, 97, 112, 80, 101, 110, 100, 115, 32, 97, 110, 118, 105, 108, 47, 97, 110, 118, 105, 108, 108, 97, 119, 49, 48, 46, 84, 114, 97, 112, 87, 97, 105, 116, 115, 32, 97, 110, 118, 105, 108, 47, 97, 110, 118, 105, 108, 108, 97, 119, 49, 48, 46, 84, 114, 97, 112, 82, 101, 116, 117, 114, 110, 115, 32, 97, 110, 118, 105, 108, 47, 97, 110, 118, 105, 108, 108, 97, 119, 48, 52, 46, 80, 109, 112, 77, 97, 116, 99, 104, 101, 115, 32, 97, 110, 118, 105, 108, 47, 97, 110, 118, 105, 108, 108, 97, 119, 48, 52, 46, 80, 109, 112, 71, 114, 97, 110, 116, 115, 32, 97, 110, 118, 105, 108, 47, 97, 110, 118, 105, 108, 108, 97, 119, 49, 48, 46, 84, 114, 97, 112, 69, 110, 116, 101, 114, 115, 32, 97, 110, 118, 105, 108, 47, 97, 110, 118, 105, 108, 108, 97, 119, 48, 52, 46, 80, 109, 112, 67, 104, 101, 99, 107, 115, 32, 97, 110, 118, 105, 108, 47, 97, 110, 118, 105, 108, 108, 97, 119, 49, 48, 46, 84, 114, 97, 112, 65, 108, 108, 32, 97, 110, 118, 105, 108, 47, 97, 110, 118, 105, 108, 108, 97, 119, 49, 48, 46, 84, 114, 97, 112, 80, 114, 111, 112, 101, 114, 32, 97, 110, 118, 105, 108, 47, 97, 110, 118, 105, 108, 108, 97, 119, 49, 48, 46, 84, 114, 97, 112, 66, 97, 99, 107, 32, 97, 110, 118, 105, 108, 47, 97, 110, 118, 105, 108, 108, 97, 119, 49, 48, 46, 84, 114, 97, 112, 83, 105, 108, 101, 110, 116, 32, 97, 110, 118, 105, 108, 47, 97, 110, 118, 105, 108, 108, 97, 119, 49, 48, 46, 84, 114, 97, 112, 79, 114, 100, 101, 114, 32, 97, 110, 118, 105, 108, 47, 97, 110, 118, 105, 108, 108, 97, 119, 49, 48, 46, 84, 114, 97, 112, 77, 111, 100, 101, 115, 32, 97, 110, 118, 105, 108, 47, 97, 110, 118, 105, 108, 108, 97, 119, 48, 57, 46, 67, 115, 114, 69, 120, 105, 115, 116, 115, 32, 97, 110, 118, 105, 108, 47, 97, 110, 118, 105, 108, 108, 97, 119, 48, 52, 46, 80, 109, 112, 82, 117, 110, 115, 32, 97, 110, 118, 105, 108, 47, 97, 110, 118, 105, 108, 108, 97, 119, 48, 52, 46, 80, 109, 112, 76, 111, 99, 107, 115, 32, 97, 110, 118, 105, 108, 47, 97, 110, 118, 105, 108, 108, 97, 119, 48, 52, 46, 80, 109, 112, 84, 97, 107, 101, 115, 32, 97, 110, 118, 105, 108, 47, 97, 110, 118, 105, 108, 108, 97, 119, 48, 52, 46, 80, 109, 112, 70, 105, 114, 115, 116, 32, 97, 110, 118, 105, 108, 47, 97, 110, 118, 105, 108, 108, 97, 119, 48, 52, 46, 80, 109, 112, 66, 121, 116, 101, 115, 32, 97, 110, 118, 105, 108, 47, 97, 110, 118, 105, 108, 108, 97, 119, 48, 52, 46, 80, 109, 112, 83, 104, 97, 112, 101, 115, 32, 97, 110, 118, 105, 108, 47, 97, 110, 118, 105, 108, 108, 97, 119, 48, 57, 46, 67, 115, 114, 87, 114, 105, 116, 101, 115, 32, 97, 110, 118, 105, 108, 47, 97, 110, 118, 105, 108, 108, 97, 119, 48, 57, 46, 67, 115, 114, 82, 101, 97, 100, 115, 32, 97, 110, 118, 105, 108, 47, 97, 110, 118, 105, 108, 108, 97, 119, 48, 57, 46, 67, 115, 114, 82, 117, 110, 115, 32, 97, 110, 118, 105, 108, 47, 97, 110, 118, 105, 108, 108, 97, 119, 48, 57, 46, 67, 115, 114, 83, 116, 97, 121, 115, 32, 97, 110, 118, 105, 108, 47, 97, 110, 118, 105, 108, 108, 97, 119, 48, 57, 46, 67, 115, 114, 84, 101, 108, 108, 115, 32, 97, 110, 118, 105, 108, 47, 97, 110, 118, 105, 108, 108, 97, 119, 48, 57, 46, 67, 115, 114, 75, 101, 101, 112, 115, 32, 97, 110, 118, 105, 108, 47, 97, 110, 118, 105, 108, 108, 97, 119, 48, 57, 46, 67, 115, 114, 85, 115, 101, 114]
theorem headIs : Try.prog.initOrder = String.ofList (headCodes.map Char.ofNat) := by kernel_rfl
theorem headList : Try.prog.initOrder.toList = headCodes.map Char.ofNat := by rw [headIs, String.toList_ofList]

/-- The head line opens with the main word, a sum, and the word cut. -/
def opensCut (ws : List (List Char)) : Bool :=
  match ws with
  | h :: s :: c :: _ => (h == "harness".toList || h == "ownmain".toList) && isSumSigns s && c == "cut".toList
  | _ => false
theorem opens : opensCut (wordsSigns (headCodes.map Char.ofNat)) = true := by kernel_rfl
theorem behind_of (ws : List (List Char)) (h : opensCut ws = true) : ∃ rest, behindMainWord ws = "cut".toList :: rest := by
  match ws, h with
  | h :: s :: c :: r, hh =>
    simp only [opensCut, Bool.and_eq_true] at hh
    obtain ⟨⟨h1, h2⟩, h3⟩ := hh
    refine ⟨r, ?_⟩
    rw [behindMainWord, if_pos (by rw [h1, h2]; rfl)]
    have := eq_of_beq h3
    rw [this]
theorem behind : ∃ rest, behindMainWord (wordsSigns Try.prog.initOrder.toList) = "cut".toList :: rest := by
  rw [headList]; exact behind_of _ opens
theorem strip_cut (rest : List (List Char)) : stripLifts liftWords ("cut".toList :: rest) = ([], "cut".toList :: rest) := by rfl
theorem later_no : Try.prog.laysLater = false := by kernel_rfl
theorem reflect_no : Try.prog.bearsReflect = false := by kernel_rfl
theorem door_fits : Try.prog.doorFits [] = true := by kernel_rfl

theorem mayEnter_of {P : Program} {rest : List (List Char)} (h : behindMainWord (wordsSigns P.initOrder.toList) = "cut".toList :: rest) (h1 : P.laysLater = false) (h2 : P.bearsReflect = false) (h3 : P.doorFits [] = true) : P.mayEnter = true := by
  unfold Program.mayEnter
  rw [h]
  simp only [strip_cut, h1, h2, h3]
  simp
theorem liftsFinal_of {P : Program} {rest : List (List Char)} (h : behindMainWord (wordsSigns P.initOrder.toList) = "cut".toList :: rest) : P.liftsFinal = false := by
  unfold Program.liftsFinal Program.headLifts
  rw [h, strip_cut]
  simp
theorem make_of {P : Program} {rest : List (List Char)} (h : behindMainWord (wordsSigns P.initOrder.toList) = "cut".toList :: rest) : P.make = some .cut := by
  unfold Program.make
  rw [h]
  simp
theorem mayEnter : Try.prog.mayEnter = true := behind.elim fun _ h => mayEnter_of h later_no reflect_no door_fits
theorem liftsFinal : Try.prog.liftsFinal = false := behind.elim fun _ h => liftsFinal_of h
theorem make : Try.prog.make = some .cut := behind.elim fun _ h => make_of h

/-- The closed facts of a row but for the three on the program's head line. -/
def restFacts (P : Program) (f : FuncId) (fn : Func) (s : ChangeSpec) (c : OpenClaim) : Bool :=
  c.wf (OpenSpec.ofChange s) && laidOutB P && mapsRowed P && fn.params.all (P.readableRec ·) && namedTie P c.named s.vars && (c.stops == []) && (P.stops == []) && (c.knobs == []) && (P.stopKnobs == []) && (c.inPlace == P.inPlace f) && (c.unfollowed == P.unfollowed f) && (c.recurses == P.recurses f) && (c.named == P.varsNamed f) && (c.maps == (fn.params.toList ++ s.plain.varTypes P).any (P.mapsRec ·)) && (c.ifaces == (fn.params.toList ++ s.plain.varTypes P).any (P.ifacesRec ·)) && (c.mapsOut == P.mapsAmong fn.resultTypes.toList) && (c.loops == (fn.params.toList ++ s.plain.varTypes P).any (P.loopsFrom ·)) && (c.wideKeys == (fn.params.toList ++ s.plain.varTypes P ++ fn.resultTypes.toList).any (P.wideKeysFrom ·)) && s.vars.all (P.varReadable ·) && fn.resultTypes.all (fun t => P.readableRec t && decide (t < P.types.size)) && (c.ifacesOut == fn.resultTypes.toList.any (P.ifacesRec ·)) && (c.loopsOut == fn.resultTypes.toList.any (P.loopsFrom ·)) && (c.plainKeys == P.plainKeys) && c.shortTexts.isNone && P.stopsHeard && (c.kinds == (if c.domain.isEmpty then [] else fn.params.toList.map fun t => match P.underlying t with | some (.int k) => some k | _ => none)) && (c.pinned == c.pinnedBy) && (c.veiled == (fn.params.toList ++ s.plain.varTypes P ++ fn.resultTypes.toList).any (P.veiledRec ·)) && c.veiledFits P fn.params.toList (fn.params.toList ++ s.plain.varTypes P ++ fn.resultTypes.toList)

theorem joined_of {P : Program} {f : FuncId} {fn : Func} {s : ChangeSpec} {c : OpenClaim} (h1 : P.mayEnter = true) (h2 : (c.lifted == P.liftsFinal) = true) (h3 : (P.make == some c.make) = true) (h : restFacts P f fn s c = true) : joinedFacts P f fn s c = true := by
  unfold restFacts at h
  simp only [Bool.and_eq_true] at h
  unfold joinedFacts
  simp only [Bool.and_eq_true]
  exact ⟨⟨⟨⟨⟨⟨⟨⟨⟨⟨⟨⟨⟨⟨⟨⟨⟨⟨⟨⟨⟨⟨⟨⟨⟨⟨⟨⟨⟨⟨⟨h.1.1.1.1.1.1.1.1.1.1.1.1.1.1.1.1.1.1.1.1.1.1.1.1.1.1.1.1, h.1.1.1.1.1.1.1.1.1.1.1.1.1.1.1.1.1.1.1.1.1.1.1.1.1.1.1.2⟩, h.1.1.1.1.1.1.1.1.1.1.1.1.1.1.1.1.1.1.1.1.1.1.1.1.1.1.2⟩, h.1.1.1.1.1.1.1.1.1.1.1.1.1.1.1.1.1.1.1.1.1.1.1.1.1.2⟩, h.1.1.1.1.1.1.1.1.1.1.1.1.1.1.1.1.1.1.1.1.1.1.1.1.2⟩, h.1.1.1.1.1.1.1.1.1.1.1.1.1.1.1.1.1.1.1.1.1.1.1.2⟩, h.1.1.1.1.1.1.1.1.1.1.1.1.1.1.1.1.1.1.1.1.1.1.2⟩, h.1.1.1.1.1.1.1.1.1.1.1.1.1.1.1.1.1.1.1.1.1.2⟩, h.1.1.1.1.1.1.1.1.1.1.1.1.1.1.1.1.1.1.1.1.2⟩, h.1.1.1.1.1.1.1.1.1.1.1.1.1.1.1.1.1.1.1.2⟩, h.1.1.1.1.1.1.1.1.1.1.1.1.1.1.1.1.1.1.2⟩, h.1.1.1.1.1.1.1.1.1.1.1.1.1.1.1.1.1.2⟩, h.1.1.1.1.1.1.1.1.1.1.1.1.1.1.1.1.2⟩, h.1.1.1.1.1.1.1.1.1.1.1.1.1.1.1.2⟩, h.1.1.1.1.1.1.1.1.1.1.1.1.1.1.2⟩, h.1.1.1.1.1.1.1.1.1.1.1.1.1.2⟩, h.1.1.1.1.1.1.1.1.1.1.1.1.2⟩, h.1.1.1.1.1.1.1.1.1.1.1.2⟩, h.1.1.1.1.1.1.1.1.1.1.2⟩, h.1.1.1.1.1.1.1.1.1.2⟩, h.1.1.1.1.1.1.1.1.2⟩, h.1.1.1.1.1.1.1.2⟩, h.1.1.1.1.1.1.2⟩, h.1.1.1.1.1.2⟩, h.1.1.1.1.2⟩, h1⟩, h2⟩, h3⟩, h.1.1.1.2⟩, h.1.1.2⟩, h.1.2⟩, h.2⟩

theorem joined_mk {f : FuncId} {fn : Func} {s : ChangeSpec} {c : OpenClaim} (hl : c.lifted = false) (hm : c.make = .cut) (h : restFacts Try.prog f fn s c = true) : joinedFacts Try.prog f fn s c = true :=
  joined_of mayEnter (by rw [liftsFinal, hl]; rfl) (by rw [make, hm]; rfl) h

end Go.Proofs.Ytibfaifjnifgjaa
