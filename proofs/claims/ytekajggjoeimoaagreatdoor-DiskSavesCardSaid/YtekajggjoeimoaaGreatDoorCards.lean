/-
  DERIVED. GIVEN WITH THE SEED: THE CARDS: each row of YtekajggjoeimoaaGreatDoorRows.lean that lists a variable, with what it lists TIED to the program's text (the seventh form; the later family's looks); each row that meets fmt, with fmt's text TOLD by the authors' own Lean function (tested against real Go, not proved from fmt's source: count such statements apart). THE CARD IS WHAT COUNTS. Prove the row's statement (the work); the ties are given (YtekajggjoeimoaaGreatDoorTie.lean); close each card by the builder's one call (the guide's Derived/Test/ToyasCard.lean, 'card_holds'). Laid BY PROGRAM, IN A SANDBOX (cutbox-door.mjs). By AI agents, Wed Nov 11 2026. No macro, syntax, notation, axiom, sorry.
-/
import Derived.Test.YtekajggjoeimoaaGreatDoorRows
import GoSem.ClaimSeven
namespace Go.Proofs.YtekajggjoeimoaaGreatDoor
namespace Rows

/-- THE TIED CARD OF 'scowlaw04.DiskDoes'. -/
def diskDoesCard : Claim7 := { stood := { row := diskDoesRow, standIns := [], harness := (true, "d38c850ae325e3641ad6d2166e53388c4a7bdaf9c9d7b3623e68fc6692834699"), looks := true }, kinds := [], alts := [], laidByText := true, laidKinds := [.handle], laidTests := true, laidLooks := .later }
def DiskDoesCardSaid : Prop := Claim7.holds Tryz.pinned (.plain (OpenSpec.ofChange diskDoesSpec)) diskDoesCard

/-- THE TIED CARD OF 'scowlaw04.DiskCopies'. -/
def diskCopiesCard : Claim7 := { stood := { row := diskCopiesRow, standIns := [], harness := (true, "d38c850ae325e3641ad6d2166e53388c4a7bdaf9c9d7b3623e68fc6692834699"), looks := true }, kinds := [], alts := [], laidByText := true, laidKinds := [.handle], laidTests := true, laidLooks := .later }
def DiskCopiesCardSaid : Prop := Claim7.holds Tryz.pinned (.plain (OpenSpec.ofChange diskCopiesSpec)) diskCopiesCard

/-- THE TIED CARD OF 'scowlaw04.DiskLoads'. -/
def diskLoadsCard : Claim7 := { stood := { row := diskLoadsRow, standIns := [], harness := (true, "d38c850ae325e3641ad6d2166e53388c4a7bdaf9c9d7b3623e68fc6692834699"), looks := true }, kinds := [], alts := [], laidByText := true, laidKinds := [.handle], laidTests := true, laidLooks := .later }
def DiskLoadsCardSaid : Prop := Claim7.holds Tryz.pinned (.plain (OpenSpec.ofChange diskLoadsSpec)) diskLoadsCard

/-- THE TIED CARD OF 'scowlaw04.DiskSaves'. -/
def diskSavesCard : Claim7 := { stood := { row := diskSavesRow, standIns := [], harness := (true, "d38c850ae325e3641ad6d2166e53388c4a7bdaf9c9d7b3623e68fc6692834699"), looks := true }, kinds := [], alts := [], laidByText := true, laidKinds := [.handle], laidTests := true, laidLooks := .later }
def DiskSavesCardSaid : Prop := Claim7.holds Tryz.pinned (.plain (OpenSpec.ofChange diskSavesSpec)) diskSavesCard

/-- THE SECOND FORM's CARD OF 'scowlaw04.DiskDoes'. -/
def diskDoesUptoCard : Claim7 := { stood := { row := diskDoesUptoRow, standIns := [], harness := (true, "d38c850ae325e3641ad6d2166e53388c4a7bdaf9c9d7b3623e68fc6692834699"), looks := true }, kinds := [], alts := [], laidByText := true, laidKinds := [.handle], laidTests := true, laidLooks := .later }
def DiskDoesUptoCardSaid : Prop := Claim7.holds Tryz.pinned (.plain (OpenSpec.upto diskDoesSpec)) diskDoesUptoCard

/-- THE SECOND FORM's CARD OF 'scowlaw04.DiskCopies'. -/
def diskCopiesUptoCard : Claim7 := { stood := { row := diskCopiesUptoRow, standIns := [], harness := (true, "d38c850ae325e3641ad6d2166e53388c4a7bdaf9c9d7b3623e68fc6692834699"), looks := true }, kinds := [], alts := [], laidByText := true, laidKinds := [.handle], laidTests := true, laidLooks := .later }
def DiskCopiesUptoCardSaid : Prop := Claim7.holds Tryz.pinned (.plain (OpenSpec.upto diskCopiesSpec)) diskCopiesUptoCard

/-- THE SECOND FORM's CARD OF 'scowlaw04.DiskLoads'. -/
def diskLoadsUptoCard : Claim7 := { stood := { row := diskLoadsUptoRow, standIns := [], harness := (true, "d38c850ae325e3641ad6d2166e53388c4a7bdaf9c9d7b3623e68fc6692834699"), looks := true }, kinds := [], alts := [], laidByText := true, laidKinds := [.handle], laidTests := true, laidLooks := .later }
def DiskLoadsUptoCardSaid : Prop := Claim7.holds Tryz.pinned (.plain (OpenSpec.upto diskLoadsSpec)) diskLoadsUptoCard

/-- THE SECOND FORM's CARD OF 'scowlaw04.DiskSaves'. -/
def diskSavesUptoCard : Claim7 := { stood := { row := diskSavesUptoRow, standIns := [], harness := (true, "d38c850ae325e3641ad6d2166e53388c4a7bdaf9c9d7b3623e68fc6692834699"), looks := true }, kinds := [], alts := [], laidByText := true, laidKinds := [.handle], laidTests := true, laidLooks := .later }
def DiskSavesUptoCardSaid : Prop := Claim7.holds Tryz.pinned (.plain (OpenSpec.upto diskSavesSpec)) diskSavesUptoCard
end Rows
end Go.Proofs.YtekajggjoeimoaaGreatDoor
