/-
  DERIVED. GIVEN WITH THE SEED: THE CARDS: each row of YtagieomloclohaaGreatDoorRows.lean that lists a variable, with what it lists TIED to the program's text (the seventh form; the later family's looks); each row that meets fmt, with fmt's text TOLD by the authors' own Lean function (tested against real Go, not proved from fmt's source: count such statements apart). THE CARD IS WHAT COUNTS. Prove the row's statement (the work); the ties are given (YtagieomloclohaaGreatDoorTie.lean); close each card by the builder's one call (the guide's Derived/Test/ToyasCard.lean, 'card_holds'). Laid BY PROGRAM, IN A SANDBOX (cutbox-door.mjs). By AI agents, Wed Nov 11 2026. No macro, syntax, notation, axiom, sorry.
-/
import Derived.Test.YtagieomloclohaaGreatDoorRows
import GoSem.ClaimSeven
namespace Go.Proofs.YtagieomloclohaaGreatDoor
namespace Rows

/-- THE TIED CARD OF 'scowlaw27.StageNil'. -/
def stageNilCard : Claim7 := { stood := { row := stageNilRow, standIns := [], harness := (true, "29b662a57f343e739ea74aee758eff5ab5d6dc4d40eaf24cb6af5fa613593851"), looks := true }, kinds := [], alts := [], laidByText := true, laidKinds := [.handle], laidTests := true, laidLooks := .later }
def StageNilCardSaid : Prop := Claim7.holds Tryz.pinned (.plain (OpenSpec.ofChange stageNilSpec)) stageNilCard

/-- THE SECOND FORM's CARD OF 'scowlaw27.StageNil'. -/
def stageNilUptoCard : Claim7 := { stood := { row := stageNilUptoRow, standIns := [], harness := (true, "29b662a57f343e739ea74aee758eff5ab5d6dc4d40eaf24cb6af5fa613593851"), looks := true }, kinds := [], alts := [], laidByText := true, laidKinds := [.handle], laidTests := true, laidLooks := .later }
def StageNilUptoCardSaid : Prop := Claim7.holds Tryz.pinned (.plain (OpenSpec.upto stageNilSpec)) stageNilUptoCard
end Rows
end Go.Proofs.YtagieomloclohaaGreatDoor
