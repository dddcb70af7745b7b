/-
  DERIVED. GIVEN WITH THE SEED: THE CARDS: each row of YtgohffhoapkeaaaGreatDoorRows.lean that lists a variable, with what it lists TIED to the program's text (the seventh form; the later family's looks); each row that meets fmt, with fmt's text TOLD by the authors' own Lean function (tested against real Go, not proved from fmt's source: count such statements apart). THE CARD IS WHAT COUNTS. Prove the row's statement (the work); the ties are given (YtgohffhoapkeaaaGreatDoorTie.lean); close each card by the builder's one call (the guide's Derived/Test/ToyasCard.lean, 'card_holds'). Laid BY PROGRAM, IN A SANDBOX (cutbox-door.mjs). By AI agents, Wed Nov 11 2026. No macro, syntax, notation, axiom, sorry.
-/
import Derived.Test.YtgohffhoapkeaaaGreatDoorRows
import GoSem.ClaimSeven
namespace Go.Proofs.YtgohffhoapkeaaaGreatDoor
namespace Rows

/-- THE TIED CARD OF 'scowlaw12.ScanRanges'. -/
def scanRangesCard : Claim7 := { stood := { row := scanRangesRow, standIns := [], harness := (true, "8e6a6dc0b3116d75cda0bb3dab295408648f6912bc9c2280a9dbf7ce8228688e"), looks := true }, kinds := [], alts := [], laidByText := true, laidKinds := [.data, .data, .data, .handle], laidTests := true, laidLooks := .later }
def ScanRangesCardSaid : Prop := Claim7.holds Tryz.pinned (.plain (OpenSpec.ofChange scanRangesSpec)) scanRangesCard

/-- THE TIED CARD OF 'scowlaw12.ScanCursor'. -/
def scanCursorCard : Claim7 := { stood := { row := scanCursorRow, standIns := [], harness := (true, "8e6a6dc0b3116d75cda0bb3dab295408648f6912bc9c2280a9dbf7ce8228688e"), looks := true }, kinds := [], alts := [], laidByText := true, laidKinds := [.data, .data, .data, .handle], laidTests := true, laidLooks := .later }
def ScanCursorCardSaid : Prop := Claim7.holds Tryz.pinned (.plain (OpenSpec.ofChange scanCursorSpec)) scanCursorCard

/-- THE TIED CARD OF 'scowlaw12.ScanParts'. -/
def scanPartsCard : Claim7 := { stood := { row := scanPartsRow, standIns := [], harness := (true, "8e6a6dc0b3116d75cda0bb3dab295408648f6912bc9c2280a9dbf7ce8228688e"), looks := true }, kinds := [], alts := [], laidByText := true, laidKinds := [.data, .data, .data, .handle], laidTests := true, laidLooks := .later }
def ScanPartsCardSaid : Prop := Claim7.holds Tryz.pinned (.plain (OpenSpec.ofChange scanPartsSpec)) scanPartsCard

/-- THE TIED CARD OF 'scowlaw12.ScanRound'. -/
def scanRoundCard : Claim7 := { stood := { row := scanRoundRow, standIns := [], harness := (true, "8e6a6dc0b3116d75cda0bb3dab295408648f6912bc9c2280a9dbf7ce8228688e"), looks := true }, kinds := [], alts := [], laidByText := true, laidKinds := [.data, .data, .data, .handle], laidTests := true, laidLooks := .later }
def ScanRoundCardSaid : Prop := Claim7.holds Tryz.pinned (.plain (OpenSpec.ofChange scanRoundSpec)) scanRoundCard

/-- THE TIED CARD OF 'scowlaw12.ScanBackward'. -/
def scanBackwardCard : Claim7 := { stood := { row := scanBackwardRow, standIns := [], harness := (true, "8e6a6dc0b3116d75cda0bb3dab295408648f6912bc9c2280a9dbf7ce8228688e"), looks := true }, kinds := [], alts := [], laidByText := true, laidKinds := [.data, .data, .data, .handle], laidTests := true, laidLooks := .later }
def ScanBackwardCardSaid : Prop := Claim7.holds Tryz.pinned (.plain (OpenSpec.ofChange scanBackwardSpec)) scanBackwardCard

/-- THE TIED CARD OF 'scowlaw12.ScanWild'. -/
def scanWildCard : Claim7 := { stood := { row := scanWildRow, standIns := [], harness := (true, "8e6a6dc0b3116d75cda0bb3dab295408648f6912bc9c2280a9dbf7ce8228688e"), looks := true }, kinds := [], alts := [], laidByText := true, laidKinds := [.data, .data, .data, .handle], laidTests := true, laidLooks := .later }
def ScanWildCardSaid : Prop := Claim7.holds Tryz.pinned (.plain (OpenSpec.ofChange scanWildSpec)) scanWildCard

/-- THE SECOND FORM's CARD OF 'scowlaw12.ScanRanges'. -/
def scanRangesUptoCard : Claim7 := { stood := { row := scanRangesUptoRow, standIns := [], harness := (true, "8e6a6dc0b3116d75cda0bb3dab295408648f6912bc9c2280a9dbf7ce8228688e"), looks := true }, kinds := [], alts := [], laidByText := true, laidKinds := [.data, .data, .data, .handle], laidTests := true, laidLooks := .later }
def ScanRangesUptoCardSaid : Prop := Claim7.holds Tryz.pinned (.plain (OpenSpec.upto scanRangesSpec)) scanRangesUptoCard

/-- THE SECOND FORM's CARD OF 'scowlaw12.ScanCursor'. -/
def scanCursorUptoCard : Claim7 := { stood := { row := scanCursorUptoRow, standIns := [], harness := (true, "8e6a6dc0b3116d75cda0bb3dab295408648f6912bc9c2280a9dbf7ce8228688e"), looks := true }, kinds := [], alts := [], laidByText := true, laidKinds := [.data, .data, .data, .handle], laidTests := true, laidLooks := .later }
def ScanCursorUptoCardSaid : Prop := Claim7.holds Tryz.pinned (.plain (OpenSpec.upto scanCursorSpec)) scanCursorUptoCard

/-- THE SECOND FORM's CARD OF 'scowlaw12.ScanParts'. -/
def scanPartsUptoCard : Claim7 := { stood := { row := scanPartsUptoRow, standIns := [], harness := (true, "8e6a6dc0b3116d75cda0bb3dab295408648f6912bc9c2280a9dbf7ce8228688e"), looks := true }, kinds := [], alts := [], laidByText := true, laidKinds := [.data, .data, .data, .handle], laidTests := true, laidLooks := .later }
def ScanPartsUptoCardSaid : Prop := Claim7.holds Tryz.pinned (.plain (OpenSpec.upto scanPartsSpec)) scanPartsUptoCard

/-- THE SECOND FORM's CARD OF 'scowlaw12.ScanRound'. -/
def scanRoundUptoCard : Claim7 := { stood := { row := scanRoundUptoRow, standIns := [], harness := (true, "8e6a6dc0b3116d75cda0bb3dab295408648f6912bc9c2280a9dbf7ce8228688e"), looks := true }, kinds := [], alts := [], laidByText := true, laidKinds := [.data, .data, .data, .handle], laidTests := true, laidLooks := .later }
def ScanRoundUptoCardSaid : Prop := Claim7.holds Tryz.pinned (.plain (OpenSpec.upto scanRoundSpec)) scanRoundUptoCard

/-- THE SECOND FORM's CARD OF 'scowlaw12.ScanBackward'. -/
def scanBackwardUptoCard : Claim7 := { stood := { row := scanBackwardUptoRow, standIns := [], harness := (true, "8e6a6dc0b3116d75cda0bb3dab295408648f6912bc9c2280a9dbf7ce8228688e"), looks := true }, kinds := [], alts := [], laidByText := true, laidKinds := [.data, .data, .data, .handle], laidTests := true, laidLooks := .later }
def ScanBackwardUptoCardSaid : Prop := Claim7.holds Tryz.pinned (.plain (OpenSpec.upto scanBackwardSpec)) scanBackwardUptoCard

/-- THE SECOND FORM's CARD OF 'scowlaw12.ScanWild'. -/
def scanWildUptoCard : Claim7 := { stood := { row := scanWildUptoRow, standIns := [], harness := (true, "8e6a6dc0b3116d75cda0bb3dab295408648f6912bc9c2280a9dbf7ce8228688e"), looks := true }, kinds := [], alts := [], laidByText := true, laidKinds := [.data, .data, .data, .handle], laidTests := true, laidLooks := .later }
def ScanWildUptoCardSaid : Prop := Claim7.holds Tryz.pinned (.plain (OpenSpec.upto scanWildSpec)) scanWildUptoCard
end Rows
end Go.Proofs.YtgohffhoapkeaaaGreatDoor
