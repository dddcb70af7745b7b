/- Runs of the interpreter: TreeNil at what came in. -/
import Derived.Test.YtneaefgmlmeddaaGreatDoorTl
namespace Go.Proofs.YtneaefgmlmeddaaGreatDoor
open Ev
namespace Tn
set_option maxRecDepth 1000000
noncomputable def ext : List (FuncId × SpF) := (23, spKnown (.bool true)) :: allL
theorem ext_ok {ω : Nat → Value} (hh : Hands ω) : ∀ p ∈ ext, ∀ C : Ctx, C.P = Tryz.prog → GlobOK C → SpOK ω C p.1 p.2 := by
  intro p hp
  rcases List.mem_cons.1 hp with rfl | h
  · exact knownX_of_run hh (Tl.ext_ok hh) rfl (by kernel_rfl) (by rw [← evR_eq]; exact Tl.live)
  · exact allL_ok hh p h
def deed : List Value := [.agg #[tk 0, tk 1, tk 2]]
def lns : List (TypeId × Nat × Nat) := [(23, 1, 3), (23, 2, 4)]
noncomputable def Cn (fs : List Fact) : Ctx := CX ext fs lns noCnv noRd
def fA : List Fact := [⟨.gtr, tk 3, i64 100, .bool true⟩]
def fB : List Fact := [⟨.gtr, tk 3, i64 100, .bool false⟩, ⟨.gtr, tk 4, i64 2000, .bool true⟩]
def fC (a b c d e : Bool) : List Fact := [⟨.gtr, tk 3, i64 100, .bool false⟩, ⟨.gtr, tk 4, i64 2000, .bool false⟩, ⟨.add, i64 0, tk 4, tk 4⟩, ⟨.leq, tk 4, i64 20000, .bool true⟩, ⟨.lss, tk 3, i64 1, .bool a⟩, ⟨.gtr, tk 3, i64 24, .bool b⟩, ⟨.geq, tk 3, i64 1, .bool c⟩, ⟨.leq, tk 3, i64 24, .bool d⟩, ⟨.gtr, tk 4, i64 1000, .bool e⟩]
theorem rA : isTr ((ev (Cn fA) 10000).f 6 deed ⟨0, .leaf⟩) = true := by kernel_rfl
theorem rB : isTr ((ev (Cn fB) 10000).f 6 deed ⟨0, .leaf⟩) = true := by kernel_rfl
theorem r1 (e : Bool) : isTr ((ev (Cn (fC true false false true e)) 10000).f 6 deed ⟨0, .leaf⟩) = true := by cases e <;> kernel_rfl
theorem r2 (e : Bool) : isTr ((ev (Cn (fC false true true false e)) 10000).f 6 deed ⟨0, .leaf⟩) = true := by cases e <;> kernel_rfl
theorem r3 (e : Bool) : isTr ((ev (Cn (fC false false true true e)) 10000).f 6 deed ⟨0, .leaf⟩) = true := by cases e <;> kernel_rfl
end Tn
end Go.Proofs.YtneaefgmlmeddaaGreatDoor
