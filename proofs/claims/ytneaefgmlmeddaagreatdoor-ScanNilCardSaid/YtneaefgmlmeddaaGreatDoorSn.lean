/- A run of the interpreter: ScanNil at what came in. -/
import Derived.Test.YtneaefgmlmeddaaGreatDoorAll
namespace Go.Proofs.YtneaefgmlmeddaaGreatDoor
open Ev
def tk (k : Nat) : Value := .chan (some k)
namespace Sn
set_option maxRecDepth 1000000
theorem run : isTr ((ev (CX allL [] [] noCnv noRd) 10000).f 5 [tk 1, tk 2, tk 3] ⟨0, .leaf⟩) = true := by kernel_rfl
end Sn
end Go.Proofs.YtneaefgmlmeddaaGreatDoor
