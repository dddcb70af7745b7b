/- All that is known besides. -/
import Derived.Test.YtneaefgmlmeddaaGreatDoorSp
import Derived.Test.YtneaefgmlmeddaaGreatDoorCrr
namespace Go.Proofs.YtneaefgmlmeddaaGreatDoor.Ev
open Go.RowKit
variable {ω : Nat → Value}
noncomputable def allL : List (FuncId × SpF) := crcL ++ (refL ++ extL)
theorem allL_ok (hh : Hands ω) : ∀ p ∈ allL, ∀ C : Ctx, C.P = Tryz.prog → C.glob = globT → SpOK ω C p.1 p.2 := by
  intro p hp
  rcases List.mem_append.1 hp with h | h
  · exact crcL_ok hh p h
  · rcases List.mem_append.1 h with h | h
    · exact refL_ok hh p h
    · exact extL_ok hh p h
end Go.Proofs.YtneaefgmlmeddaaGreatDoor.Ev
