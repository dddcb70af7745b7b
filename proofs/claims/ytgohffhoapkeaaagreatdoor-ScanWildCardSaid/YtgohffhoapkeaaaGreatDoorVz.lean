/- Short words for laws of Lean's own that the claim's other texts use often. -/
import Derived.Lib.Hide
import Derived.Below
namespace Go.Proofs.YtgohffhoapkeaaaGreatDoor
theorem nR (n : Nat) : n ≤ n := Nat.le_refl n
theorem nT {n m k : Nat} (h : n ≤ m) (h' : m ≤ k) : n ≤ k := Nat.le_trans h h'
theorem lT {n m k : Nat} (h : n < m) (h' : m ≤ k) : n < k := Nat.lt_of_lt_of_le h h'
theorem dF {p : Prop} [inst : Decidable p] (h : ¬p) : decide p = false := decide_eq_false h
theorem dT {p : Prop} [inst : Decidable p] (h : p) : decide p = true := decide_eq_true h
theorem lH {p : Prop} (h : p) : RowKit.Hid p := Lib.hid h
theorem gE {α : Type _} {l : List α} {i : Nat} (h : i < l.length) : l[i]? = some l[i] := List.getElem?_eq_getElem h
theorem bE {n m : Nat} (h : Nat.beq n m = true) : n = m := Nat.eq_of_beq_eq_true h
theorem mG {α : Type _} {l : List α} {i : Nat} {a : α} (h : l[i]? = some a) : a ∈ l := List.mem_of_getElem? h
theorem aS {α : Type _} {xs : Array α} {i : Nat} {b : α} : xs[i]? = some b ↔ ∃ h : i < xs.size, xs[i] = b := Array.getElem?_eq_some_iff
theorem lS {α : Type _} {xs : List α} {i : Nat} {b : α} : xs[i]? = some b ↔ ∃ h : i < xs.length, xs[i] = b := List.getElem?_eq_some_iff
theorem aI {a b : Prop} (h : a) (h' : b) : a ∧ b := ⟨h, h'⟩
theorem zL (n : Nat) : 0 ≤ n := Nat.zero_le n
theorem lQ {α : Type _} {as bs : List α} : (as ++ bs).length = as.length + bs.length := List.length_append
theorem lK {α : Type _} {i : Nat} {l : List α} : (l.take i).length = min i l.length := List.length_take
theorem lD {α : Type _} {i : Nat} {l : List α} : (l.drop i).length = l.length - i := List.length_drop
theorem bR (B : Nat) (w : World) : RowKit.Below B w w := RowKit.Below.refl B w
end Go.Proofs.YtgohffhoapkeaaaGreatDoor
