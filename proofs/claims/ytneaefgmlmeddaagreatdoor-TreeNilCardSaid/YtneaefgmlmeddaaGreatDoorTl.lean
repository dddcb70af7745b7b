/- Calls within a run, each known by a run of its own; the run. -/
import Derived.Test.YtneaefgmlmeddaaGreatDoorTla
import Derived.Test.YtneaefgmlmeddaaGreatDoorTlb
namespace Go.Proofs.YtneaefgmlmeddaaGreatDoor
open Ev
namespace Tl
set_option maxRecDepth 1000000
noncomputable def ext : List (FuncId × SpF) := (25, spOr (spLit L0) (spOr (spLit L1) (spOr (spLit L2) (spOr (spLit L3) (spOr (spLit L4) (spBody allL 100000 25)))))) :: allL
theorem ext_ok {ω : Nat → Value} (hh : Hands ω) : ∀ p ∈ ext, ∀ C : Ctx, C.P = Tryz.prog → GlobOK C → SpOK ω C p.1 p.2 := by
  intro p hp C hP hG
  rcases List.mem_cons.1 hp with rfl | hp
  · exact spOr_sp (spLit_sp hh (allL_ok hh) L0 ok0 (by kernel_rfl) (by rw [← evR_eq]; exact run0) C hP hG) (spOr_sp (spLit_sp hh (allL_ok hh) L1 ok1 (by kernel_rfl) (by rw [← evR_eq]; exact run1) C hP hG) (spOr_sp (spLit_sp hh (allL_ok hh) L2 ok2 (by kernel_rfl) (by rw [← evR_eq]; exact run2) C hP hG) (spOr_sp (spLit_sp hh (allL_ok hh) L3 ok3 (by kernel_rfl) (by rw [← evR_eq]; exact run3) C hP hG) (spOr_sp (spLit_sp hh (allL_ok hh) L4 ok4 (by kernel_rfl) (by rw [← evR_eq]; exact run4) C hP hG) (spBody_sp hh (allL_ok hh) (by kernel_rfl) C hP hG)))))
  exact allL_ok hh p hp C hP hG
theorem live : isV (.bool true) ((evR (CX ext [] [] noCnv noRd) 100000).f 23 [] ⟨0, .leaf⟩) = true := by kernel_rfl
end Tl
end Go.Proofs.YtneaefgmlmeddaaGreatDoor
