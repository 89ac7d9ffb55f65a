/-
  DERIVED. GIVEN WITH THE SEED: THE CARDS: each row of YtlkhjnpflohfeaaDoorRows.lean that lists a variable, with what it lists TIED to the program's text (the seventh form; the later family's looks); each row that meets fmt, with fmt's text TOLD by the authors' own Lean function (tested against real Go, not proved from fmt's source: count such statements apart). THE CARD IS WHAT COUNTS. Prove the row's statement (the work); the ties are given (YtlkhjnpflohfeaaDoorTie.lean); close each card by the builder's one call (the guide's Derived/Test/ToyasCard.lean, 'card_holds'). Laid BY PROGRAM, IN A SANDBOX (cutbox-door.mjs). By AI agents, Wed Nov 11 2026. No macro, syntax, notation, axiom, sorry.
-/
import Derived.Test.YtlkhjnpflohfeaaDoorRows
import GoSem.ClaimSeven
namespace Go.Proofs.YtlkhjnpflohfeaaDoor
namespace Rows

/-- THE TIED CARD OF 'bogworkslaw06.CutReads'. -/
def cutReadsCard : Claim7 := { stood := { row := cutReadsRow, standIns := [], harness := (true, "9723bbfeb16b6261ef9604731379b2640b68d1d36b45d3ac66265463b7b658c0"), looks := true }, kinds := [], alts := [], laidByText := true, laidKinds := [.data], laidTests := true, laidLooks := .later }
def CutReadsCardSaid : Prop := Claim7.holds Tryd.pinned (.plain (OpenSpec.ofChange cutReadsSpec)) cutReadsCard

/-- THE TIED CARD OF 'bogworkslaw06.CutLooks'. -/
def cutLooksCard : Claim7 := { stood := { row := cutLooksRow, standIns := [], harness := (true, "9723bbfeb16b6261ef9604731379b2640b68d1d36b45d3ac66265463b7b658c0"), looks := true }, kinds := [], alts := [], laidByText := true, laidKinds := [.data], laidTests := true, laidLooks := .later }
def CutLooksCardSaid : Prop := Claim7.holds Tryd.pinned (.plain (OpenSpec.ofChange cutLooksSpec)) cutLooksCard

/-- THE TIED CARD OF 'bogworkslaw06.CutTrue'. -/
def cutTrueCard : Claim7 := { stood := { row := cutTrueRow, standIns := [], harness := (true, "9723bbfeb16b6261ef9604731379b2640b68d1d36b45d3ac66265463b7b658c0"), looks := true }, kinds := [], alts := [], laidByText := true, laidKinds := [.data], laidTests := true, laidLooks := .later }
def CutTrueCardSaid : Prop := Claim7.holds Tryd.pinned (.plain (OpenSpec.ofChange cutTrueSpec)) cutTrueCard

/-- THE TIED CARD OF 'bogworkslaw06.CutEnds'. -/
def cutEndsCard : Claim7 := { stood := { row := cutEndsRow, standIns := [], harness := (true, "9723bbfeb16b6261ef9604731379b2640b68d1d36b45d3ac66265463b7b658c0"), looks := true }, kinds := [], alts := [], laidByText := true, laidKinds := [.data], laidTests := true, laidLooks := .later }
def CutEndsCardSaid : Prop := Claim7.holds Tryd.pinned (.plain (OpenSpec.ofChange cutEndsSpec)) cutEndsCard

/-- THE TIED CARD OF 'bogworkslaw06.CutFloats'. -/
def cutFloatsCard : Claim7 := { stood := { row := cutFloatsRow, standIns := [], harness := (true, "9723bbfeb16b6261ef9604731379b2640b68d1d36b45d3ac66265463b7b658c0"), looks := true }, kinds := [], alts := [], laidByText := true, laidKinds := [.data], laidTests := true, laidLooks := .later }
def CutFloatsCardSaid : Prop := Claim7.holds Tryd.pinned (.plain (OpenSpec.ofChange cutFloatsSpec)) cutFloatsCard

/-- THE TIED CARD OF 'bogworkslaw06.CutWaits'. -/
def cutWaitsCard : Claim7 := { stood := { row := cutWaitsRow, standIns := [], harness := (true, "9723bbfeb16b6261ef9604731379b2640b68d1d36b45d3ac66265463b7b658c0"), looks := true }, kinds := [], alts := [], laidByText := true, laidKinds := [.data], laidTests := true, laidLooks := .later }
def CutWaitsCardSaid : Prop := Claim7.holds Tryd.pinned (.plain (OpenSpec.ofChange cutWaitsSpec)) cutWaitsCard

/-- THE TIED CARD OF 'bogworkslaw06.CutClash'. -/
def cutClashCard : Claim7 := { stood := { row := cutClashRow, standIns := [], harness := (true, "9723bbfeb16b6261ef9604731379b2640b68d1d36b45d3ac66265463b7b658c0"), looks := true }, kinds := [], alts := [], laidByText := true, laidKinds := [.data], laidTests := true, laidLooks := .later }
def CutClashCardSaid : Prop := Claim7.holds Tryd.pinned (.plain (OpenSpec.ofChange cutClashSpec)) cutClashCard

/-- THE TIED CARD OF 'bogworkslaw06.CutRain'. -/
def cutRainCard : Claim7 := { stood := { row := cutRainRow, standIns := [], harness := (true, "9723bbfeb16b6261ef9604731379b2640b68d1d36b45d3ac66265463b7b658c0"), looks := true }, kinds := [], alts := [], laidByText := true, laidKinds := [.data], laidTests := true, laidLooks := .later }
def CutRainCardSaid : Prop := Claim7.holds Tryd.pinned (.plain (OpenSpec.ofChange cutRainSpec)) cutRainCard

/-- THE TIED CARD OF 'bogworkslaw06.CutMore'. -/
def cutMoreCard : Claim7 := { stood := { row := cutMoreRow, standIns := [], harness := (true, "9723bbfeb16b6261ef9604731379b2640b68d1d36b45d3ac66265463b7b658c0"), looks := true }, kinds := [], alts := [], laidByText := true, laidKinds := [.data], laidTests := true, laidLooks := .later }
def CutMoreCardSaid : Prop := Claim7.holds Tryd.pinned (.plain (OpenSpec.ofChange cutMoreSpec)) cutMoreCard

/-- THE SECOND FORM's CARD OF 'bogworkslaw06.CutReads'. -/
def cutReadsUptoCard : Claim7 := { stood := { row := cutReadsUptoRow, standIns := [], harness := (true, "9723bbfeb16b6261ef9604731379b2640b68d1d36b45d3ac66265463b7b658c0"), looks := true }, kinds := [], alts := [], laidByText := true, laidKinds := [.data], laidTests := true, laidLooks := .later }
def CutReadsUptoCardSaid : Prop := Claim7.holds Tryd.pinned (.plain (OpenSpec.upto cutReadsSpec)) cutReadsUptoCard

/-- THE SECOND FORM's CARD OF 'bogworkslaw06.CutLooks'. -/
def cutLooksUptoCard : Claim7 := { stood := { row := cutLooksUptoRow, standIns := [], harness := (true, "9723bbfeb16b6261ef9604731379b2640b68d1d36b45d3ac66265463b7b658c0"), looks := true }, kinds := [], alts := [], laidByText := true, laidKinds := [.data], laidTests := true, laidLooks := .later }
def CutLooksUptoCardSaid : Prop := Claim7.holds Tryd.pinned (.plain (OpenSpec.upto cutLooksSpec)) cutLooksUptoCard

/-- THE SECOND FORM's CARD OF 'bogworkslaw06.CutTrue'. -/
def cutTrueUptoCard : Claim7 := { stood := { row := cutTrueUptoRow, standIns := [], harness := (true, "9723bbfeb16b6261ef9604731379b2640b68d1d36b45d3ac66265463b7b658c0"), looks := true }, kinds := [], alts := [], laidByText := true, laidKinds := [.data], laidTests := true, laidLooks := .later }
def CutTrueUptoCardSaid : Prop := Claim7.holds Tryd.pinned (.plain (OpenSpec.upto cutTrueSpec)) cutTrueUptoCard

/-- THE SECOND FORM's CARD OF 'bogworkslaw06.CutEnds'. -/
def cutEndsUptoCard : Claim7 := { stood := { row := cutEndsUptoRow, standIns := [], harness := (true, "9723bbfeb16b6261ef9604731379b2640b68d1d36b45d3ac66265463b7b658c0"), looks := true }, kinds := [], alts := [], laidByText := true, laidKinds := [.data], laidTests := true, laidLooks := .later }
def CutEndsUptoCardSaid : Prop := Claim7.holds Tryd.pinned (.plain (OpenSpec.upto cutEndsSpec)) cutEndsUptoCard

/-- THE SECOND FORM's CARD OF 'bogworkslaw06.CutFloats'. -/
def cutFloatsUptoCard : Claim7 := { stood := { row := cutFloatsUptoRow, standIns := [], harness := (true, "9723bbfeb16b6261ef9604731379b2640b68d1d36b45d3ac66265463b7b658c0"), looks := true }, kinds := [], alts := [], laidByText := true, laidKinds := [.data], laidTests := true, laidLooks := .later }
def CutFloatsUptoCardSaid : Prop := Claim7.holds Tryd.pinned (.plain (OpenSpec.upto cutFloatsSpec)) cutFloatsUptoCard

/-- THE SECOND FORM's CARD OF 'bogworkslaw06.CutWaits'. -/
def cutWaitsUptoCard : Claim7 := { stood := { row := cutWaitsUptoRow, standIns := [], harness := (true, "9723bbfeb16b6261ef9604731379b2640b68d1d36b45d3ac66265463b7b658c0"), looks := true }, kinds := [], alts := [], laidByText := true, laidKinds := [.data], laidTests := true, laidLooks := .later }
def CutWaitsUptoCardSaid : Prop := Claim7.holds Tryd.pinned (.plain (OpenSpec.upto cutWaitsSpec)) cutWaitsUptoCard

/-- THE SECOND FORM's CARD OF 'bogworkslaw06.CutClash'. -/
def cutClashUptoCard : Claim7 := { stood := { row := cutClashUptoRow, standIns := [], harness := (true, "9723bbfeb16b6261ef9604731379b2640b68d1d36b45d3ac66265463b7b658c0"), looks := true }, kinds := [], alts := [], laidByText := true, laidKinds := [.data], laidTests := true, laidLooks := .later }
def CutClashUptoCardSaid : Prop := Claim7.holds Tryd.pinned (.plain (OpenSpec.upto cutClashSpec)) cutClashUptoCard

/-- THE SECOND FORM's CARD OF 'bogworkslaw06.CutRain'. -/
def cutRainUptoCard : Claim7 := { stood := { row := cutRainUptoRow, standIns := [], harness := (true, "9723bbfeb16b6261ef9604731379b2640b68d1d36b45d3ac66265463b7b658c0"), looks := true }, kinds := [], alts := [], laidByText := true, laidKinds := [.data], laidTests := true, laidLooks := .later }
def CutRainUptoCardSaid : Prop := Claim7.holds Tryd.pinned (.plain (OpenSpec.upto cutRainSpec)) cutRainUptoCard

/-- THE SECOND FORM's CARD OF 'bogworkslaw06.CutMore'. -/
def cutMoreUptoCard : Claim7 := { stood := { row := cutMoreUptoRow, standIns := [], harness := (true, "9723bbfeb16b6261ef9604731379b2640b68d1d36b45d3ac66265463b7b658c0"), looks := true }, kinds := [], alts := [], laidByText := true, laidKinds := [.data], laidTests := true, laidLooks := .later }
def CutMoreUptoCardSaid : Prop := Claim7.holds Tryd.pinned (.plain (OpenSpec.upto cutMoreSpec)) cutMoreUptoCard
end Rows
end Go.Proofs.YtlkhjnpflohfeaaDoor
