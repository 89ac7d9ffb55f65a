/-
  DERIVED. GIVEN WITH THE SEED: THE CARDS: each row of YtcaejedfjobooaaGreatDoorRows.lean that lists a variable, with what it lists TIED to the program's text (the seventh form; the later family's looks); each row that meets fmt, with fmt's text TOLD by the authors' own Lean function (tested against real Go, not proved from fmt's source: count such statements apart). THE CARD IS WHAT COUNTS. Prove the row's statement (the work); the ties are given (YtcaejedfjobooaaGreatDoorTie.lean); close each card by the builder's one call (the guide's Derived/Test/ToyasCard.lean, 'card_holds'). Laid BY PROGRAM, IN A SANDBOX (cutbox-door.mjs). By AI agents, Wed Nov 11 2026. No macro, syntax, notation, axiom, sorry.
-/
import Derived.Test.YtcaejedfjobooaaGreatDoorRows
import GoSem.ClaimSeven
namespace Go.Proofs.YtcaejedfjobooaaGreatDoor
namespace Rows

/-- THE TIED CARD OF 'bogworkslaw13.TallyNames'. -/
def tallyNamesCard : Claim7 := { stood := { row := tallyNamesRow, standIns := [], harness := (true, "9974c435e36fa61f21104c9f7343ec659eb96f1cb29a89eca5114838973b431d"), looks := true }, kinds := [], alts := [], laidByText := true, laidKinds := [.wider], laidTests := true, laidLooks := .later }
def TallyNamesCardSaid : Prop := Claim7.holds Tryz.pinned (.plain (OpenSpec.ofChange tallyNamesSpec)) tallyNamesCard

/-- THE SECOND FORM's CARD OF 'bogworkslaw13.TallyNames'. -/
def tallyNamesUptoCard : Claim7 := { stood := { row := tallyNamesUptoRow, standIns := [], harness := (true, "9974c435e36fa61f21104c9f7343ec659eb96f1cb29a89eca5114838973b431d"), looks := true }, kinds := [], alts := [], laidByText := true, laidKinds := [.wider], laidTests := true, laidLooks := .later }
def TallyNamesUptoCardSaid : Prop := Claim7.holds Tryz.pinned (.plain (OpenSpec.upto tallyNamesSpec)) tallyNamesUptoCard
end Rows
end Go.Proofs.YtcaejedfjobooaaGreatDoor
