/- Runs of the interpreter: DiskNil at what came in. -/
import Derived.Test.YtekajggjoeimoaaDoorHd
namespace Go.Proofs.YtekajggjoeimoaaDoor
open Ev
def tk (k : Nat) : Value := .chan (some k)
def i64 (n : Int) : Value := .int .i64 n
namespace Dn
def deed (kd : Value) : List Value := [.agg #[kd, tk 1, tk 2, tk 3, tk 4, tk 5]]
def lns : List (TypeId × Nat × Nat) := [(9, 1, 6), (9, 2, 7), (38, 4, 8), (34, 5, 9)]
def cv (src dst : TypeId) (v : Value) : Option Value := cond (Nat.beq src 3 && (Nat.beq dst 29 && veq 2 v (tk 8))) (some (tk 8)) none
def rd (k : Nat) : Bool := Nat.beq k 4 || Nat.beq k 5
def no (_ : Nat) : Bool := false
noncomputable def Cn (fs : List Fact) (q : Nat → Bool) : Ctx := CE fs lns cv q
def fA : List Fact := [⟨.add, tk 6, tk 7, tk 10⟩, ⟨.gtr, tk 10, i64 4000, .bool true⟩]
def fB : List Fact := [⟨.add, tk 6, tk 7, tk 10⟩, ⟨.gtr, tk 10, i64 4000, .bool false⟩, ⟨.gtr, tk 8, i64 4000, .bool true⟩]
def fC : List Fact := [⟨.add, tk 6, tk 7, tk 10⟩, ⟨.gtr, tk 10, i64 4000, .bool false⟩, ⟨.gtr, tk 8, i64 4000, .bool false⟩, ⟨.gtr, tk 9, i64 80, .bool true⟩]
def fS (b : Bool) : List Fact := [⟨.add, tk 6, tk 7, tk 10⟩, ⟨.gtr, tk 10, i64 4000, .bool false⟩, ⟨.gtr, tk 8, i64 4000, .bool false⟩, ⟨.gtr, tk 9, i64 80, .bool false⟩, ⟨.add, i64 0, tk 6, tk 6⟩, ⟨.add, tk 10, tk 8, tk 11⟩, ⟨.leq, tk 11, i64 4000, .bool b⟩, ⟨.neq, tk 1, tk 1, .bool false⟩]
def f3 (a : Bool) : List Fact := [⟨.gtr, tk 3, i64 100, .bool a⟩]
def f3b (b : Bool) : List Fact := [⟨.gtr, tk 3, i64 100, .bool true⟩, ⟨.leq, tk 3, i64 4096, .bool b⟩]
def ne (k : Int) : Fact := ⟨.eql, tk 0, i64 k, .bool false⟩
def fN : List Fact := [ne 0, ne 1, ne 2, ne 3, ne 4, ne 5, ne 6, ne 7, ne 8, ne 9]
def fLo : List Fact := [⟨.geq, tk 0, i64 0, .bool false⟩]
def fHi : List Fact := [⟨.geq, tk 0, i64 0, .bool true⟩, ⟨.leq, tk 0, i64 7, .bool false⟩]
set_option maxRecDepth 1000000
theorem rA : isTr ((ev (Cn fA no) 10000).f 5 (deed (tk 0)) ⟨0, .leaf⟩) = true := by kernel_rfl
theorem rB : isTr ((ev (Cn fB no) 10000).f 5 (deed (tk 0)) ⟨0, .leaf⟩) = true := by kernel_rfl
theorem rC : isTr ((ev (Cn fC no) 10000).f 5 (deed (tk 0)) ⟨0, .leaf⟩) = true := by kernel_rfl
theorem rD : isTr ((ev (Cn (fS true ++ f3b true) rd) 10000).f 5 (deed (i64 3)) ⟨0, .leaf⟩) = true := by kernel_rfl
theorem rD' : isTr ((ev (Cn (fS false ++ f3b true) no) 10000).f 5 (deed (i64 3)) ⟨0, .leaf⟩) = true := by kernel_rfl
theorem rE : isTr ((ev (Cn (fS false ++ [ne 3]) no) 10000).f 5 (deed (tk 0)) ⟨0, .leaf⟩) = true := by kernel_rfl
theorem rE3 : isTr ((ev (Cn (fS false ++ f3 false) no) 10000).f 5 (deed (i64 3)) ⟨0, .leaf⟩) = true := by kernel_rfl
theorem rE3b : isTr ((ev (Cn (fS false ++ f3b false) no) 10000).f 5 (deed (i64 3)) ⟨0, .leaf⟩) = true := by kernel_rfl
theorem r0 : isTr ((ev (Cn (fS true ++ []) rd) 10000).f 5 (deed (i64 0)) ⟨0, .leaf⟩) = true := by kernel_rfl
theorem r1 : isTr ((ev (Cn (fS true ++ []) rd) 10000).f 5 (deed (i64 1)) ⟨0, .leaf⟩) = true := by kernel_rfl
theorem r2 : isTr ((ev (Cn (fS true ++ []) rd) 10000).f 5 (deed (i64 2)) ⟨0, .leaf⟩) = true := by kernel_rfl
theorem r3 : isTr ((ev (Cn (fS true ++ f3 false) rd) 10000).f 5 (deed (i64 3)) ⟨0, .leaf⟩) = true := by kernel_rfl
theorem r3b : isTr ((ev (Cn (fS true ++ f3b false) rd) 10000).f 5 (deed (i64 3)) ⟨0, .leaf⟩) = true := by kernel_rfl
theorem r4 : isTr ((ev (Cn (fS true ++ []) rd) 10000).f 5 (deed (i64 4)) ⟨0, .leaf⟩) = true := by kernel_rfl
theorem r5 : isTr ((ev (Cn (fS true ++ []) rd) 10000).f 5 (deed (i64 5)) ⟨0, .leaf⟩) = true := by kernel_rfl
theorem r6 : isTr ((ev (Cn (fS true ++ []) rd) 10000).f 5 (deed (i64 6)) ⟨0, .leaf⟩) = true := by kernel_rfl
theorem r7 : isTr ((ev (Cn (fS true ++ []) rd) 10000).f 5 (deed (i64 7)) ⟨0, .leaf⟩) = true := by kernel_rfl
theorem r8 : isTr ((ev (Cn (fS true ++ []) rd) 10000).f 5 (deed (i64 8)) ⟨0, .leaf⟩) = true := by kernel_rfl
theorem r9 : isTr ((ev (Cn (fS true ++ []) rd) 10000).f 5 (deed (i64 9)) ⟨0, .leaf⟩) = true := by kernel_rfl
theorem rLo : isTr ((ev (Cn (fS true ++ (fN ++ fLo)) rd) 10000).f 5 (deed (tk 0)) ⟨0, .leaf⟩) = true := by kernel_rfl
theorem rHi : isTr ((ev (Cn (fS true ++ (fN ++ fHi)) rd) 10000).f 5 (deed (tk 0)) ⟨0, .leaf⟩) = true := by kernel_rfl
end Dn
end Go.Proofs.YtekajggjoeimoaaDoor
