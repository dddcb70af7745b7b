/- Runs of the interpreter: NetNil at what came in. -/
import Derived.Test.YtlhmhalamfjhjaaTab
namespace Go.Proofs.Ytlhmhalamfjhjaa
open Ev
def tk (k : Nat) : Value := .chan (some k)
def i64 (n : Int) : Value := .int .i64 n
def fBig : List Fact := [⟨.gtr, tk 5, i64 9000, .bool true⟩]
def fSmall : List Fact := [⟨.gtr, tk 5, i64 9000, .bool false⟩, ⟨.add, i64 0, tk 5, tk 5⟩, ⟨.leq, tk 5, i64 36000, .bool true⟩]
def fKind : List Fact := fSmall ++ [⟨.eql, tk 0, i64 0, .bool false⟩, ⟨.eql, tk 0, i64 1, .bool false⟩, ⟨.eql, tk 0, i64 2, .bool false⟩, ⟨.eql, tk 0, i64 3, .bool false⟩]
def ls : List (TypeId × Nat × Nat) := [(30, 4, 5)]
def rd (k : Nat) : Bool := Nat.beq k 4
def rdNo (_ : Nat) : Bool := false
noncomputable def Cn (fs : List Fact) (rd : Nat → Bool) : Ctx := CT (fun _ => none) (fun _ => none) fs ls noCnv rd
def deed (kd : Value) : List Value := [.agg #[kd, tk 1, tk 2, tk 3, tk 4]]
def isTrue (r : Option (Value × AS)) : Bool := match r with
  | some (.bool b, _) => b
  | _ => false
set_option maxRecDepth 1000000
theorem rBig : isTrue ((ev (Cn fBig rdNo) 10000).f 5 (deed (tk 0)) ⟨0, .leaf⟩) = true := by kernel_rfl
theorem r0 : isTrue ((ev (Cn fSmall rd) 10000).f 5 (deed (i64 0)) ⟨0, .leaf⟩) = true := by kernel_rfl
theorem r1 : isTrue ((ev (Cn fSmall rd) 10000).f 5 (deed (i64 1)) ⟨0, .leaf⟩) = true := by kernel_rfl
theorem r2 : isTrue ((ev (Cn fSmall rd) 10000).f 5 (deed (i64 2)) ⟨0, .leaf⟩) = true := by kernel_rfl
theorem r3 : isTrue ((ev (Cn fSmall rd) 10000).f 5 (deed (i64 3)) ⟨0, .leaf⟩) = true := by kernel_rfl
theorem rK : isTrue ((ev (Cn fKind rd) 10000).f 5 (deed (tk 0)) ⟨0, .leaf⟩) = true := by kernel_rfl
end Go.Proofs.Ytlhmhalamfjhjaa
