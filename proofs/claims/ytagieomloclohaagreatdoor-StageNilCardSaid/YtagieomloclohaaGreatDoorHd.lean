/- The listed variable errors.errorType: what the condition gives, a world that meets it; facts on strings and conversions; slices that came in. -/
import Derived.Test.YtagieomloclohaaGreatDoorRows
import Derived.Test.YtagieomloclohaaGreatDoorEvw
import Derived.WalkKit
import Derived.ProofKit
import Derived.OpenShut
import Derived.ShutString
import Derived.ChangeOld
import Derived.ChangeSame
import Derived.ChangeVars
import Derived.JoinedOf
import Derived.RowKit
import Derived.RowKitTokens
import Derived.LaidLaws
import Derived.LaidHandle
import Derived.Stop.Joined
import Derived.Below
import Derived.Lib.SmallJoins
import Derived.SizedLaws
namespace Go.Proofs.YtagieomloclohaaGreatDoor
open Go.ChangeShapes Go.WideShapes Go.ChangeAt Go.RowKit Go.Joins Go.Deep

theorem own : ownKnob Tryz.prog.godebug = none := by kernel_rfl
theorem laidOut : laidOutB Tryz.prog = true := by kernel_rfl
theorem errVar : Tryz.prog.globalNamed "errors.errorType" = some 0 := by kernel_rfl
theorem rtypeOf : (Tryz.prog.cutTypes.find? (·.1 == "internal/reflectlite.rtype")).map (·.2) = some 125 := by kernel_rfl
theorem oneRow : ((List.range Tryz.prog.types.size).filter fun t => Tryz.prog.rowNamed t [101, 114, 114, 111, 114]) = [34] := by kernel_rfl
def laidL : List (String × DataW Unit) := [("errors.errorType", Rows.laid_errors_errorType)]

/-- What the condition gives: the variable's one cell. -/
theorem handle_of_laid {W : World} (h : laidMetH Tryz.prog laidL W) : W.cell? ⟨0, 0, none⟩ = some (.iface 125 (.agg #[.pointer (some ⟨2, 34, none⟩)])) := by
  have h' : laidMet Tryz.prog [] W ∧ handlesMet Tryz.prog laidL W := h
  obtain ⟨name, u, ty, e1, e2, e3, e4, e5⟩ := h'.2 _ (List.mem_singleton.2 rfl)
  have en : name = [101, 114, 114, 111, 114] := (Option.some.inj e1).symm
  subst en
  obtain rfl := Option.some.inj (rtypeOf.symm.trans e2)
  have hm : ty ∈ (List.range Tryz.prog.types.size).filter fun t => Tryz.prog.rowNamed t [101, 114, 114, 111, 114] := List.mem_filter.2 ⟨List.mem_range.2 e3, e4⟩
  rw [oneRow] at hm
  obtain rfl := List.mem_singleton.1 hm
  have hh : typeHandle Tryz.prog 34 = .pointer (some ⟨2, 34, none⟩) := by kernel_rfl
  rw [hh] at e5
  simpa using World.var?_cell errVar e5 0

/-- A world that meets the condition: the settled one, the variable's cell laid. -/
noncomputable def laidWorld (os : Os) : World :=
  let w0 := World.holding Tryz.prog os ⟨#[], #[], []⟩
  { w0 with heap := w0.heap.modify 0 fun
      | .cells _ t frozen => .cells #[.iface 125 (.agg #[.pointer (some ⟨2, 34, none⟩)])] t frozen
      | o => o }
theorem laidWorld_met (os : Os) (args : Array Value) : laidMetH Tryz.prog laidL ((laidWorld os).forCall (fun _ _ => 0) ⟨#[], args, []⟩).memory :=
  laidMetH_of_parts (laidMet_nil _ _) (by kernel_rfl)

open Ev
variable {ω : Nat → Value}
/-- The variable, as the runs ask for it. -/
theorem glob_of (hh : Hands ω) {w : World} (h : w.cell? ⟨0, 0, none⟩ = some (.iface 125 (.agg #[.pointer (some ⟨2, 34, none⟩)]))) :
    ∀ g v, globT g = some v → g < w.heap.size ∧ ∃ v', w.cell? ⟨g, 0, none⟩ = some v' ∧ ∀ m : M ω, VRel m v v' := by
  intro g v hg
  unfold globT at hg
  cases hb : Nat.beq g 0 with
  | false => rw [hb] at hg; cases hg
  | true =>
    rw [hb] at hg
    obtain rfl := Nat.eq_of_beq_eq_true hb
    cases hg
    exact ⟨World.block_lt_of_cell? w _ h, _, h, fun m => rt_rel hh _⟩

/-- The run answers true. -/
def isTr (r : Option (Value × AS)) : Bool := match r with
  | some (.bool b, _) => b
  | _ => false
theorem isTr_some {r : Option (Value × AS)} (h : isTr r = true) : ∃ s', r = some (.bool true, s') := by
  unfold isTr at h
  split at h
  · rename_i b s'; subst h; exact ⟨s', rfl⟩
  · cases h

/-- Two strings that are one. -/
theorem Fact.strNeq {P : Program} {x y : Value} {s u : ByteArray} (hx : den ω x = .string s) (hy : den ω y = .string u) (tx : tokB x = true) (ty : tokB y = true) {b : Bool} (h : (!(s.toList == u.toList)) = b) : (⟨.neq, x, y, .bool b⟩ : Fact).ok ω P :=
  ⟨tx, ty, rfl, fun k e => (by cases e), fun t ox oy w => by
    show (do eqGuard .neq t ox oy (den ω x) (den ω y); binOp .neq t (den ω x) (den ω y) : Sem Value).run P w = .ok (.bool b) w
    rw [hx, hy, ← h]
    simp [binOp, eqGuard, Op.stringOp]⟩

/-- WHAT IS KNOWN OF A SLICE OF INTEGERS THAT CAME IN. -/
def IsRow (k : IntKind) (w : World) (a : Option Addr) (len cap : Nat) (zs : List Int) : Prop :=
  (a = none ∧ len = 0 ∧ cap = 0 ∧ zs = []) ∨
  ∃ x, a = some x ∧ len ≤ cap ∧ cap ≤ maxLen ∧ zs.length = cap ∧ (∀ i, i < zs.length → w.cell? (x.add i) = some (.int k (zs.getD i 0))) ∧ ∀ n ∈ zs, (Lit.int k n).wf = true
theorem IsRow.le {k : IntKind} {w : World} {a : Option Addr} {l c : Nat} {zs : List Int} (h : IsRow k w a l c zs) : l ≤ maxLen := by
  rcases h with ⟨rfl, rfl, rfl, rfl⟩ | ⟨x, rfl, h1, h2, h3, h4, h5⟩ <;> omega
theorem row_read {k : IntKind} {w : World} {a : Option Addr} {l c : Nat} {zs : List Int} (h : IsRow k w a l c zs) (hl : l ≤ 1000000) : RdV w w.heap.size (.slice a l c) := by
  rcases h with ⟨rfl, rfl, rfl, rfl⟩ | ⟨x, rfl, h1, h2, h3, h4, h5⟩
  · exact .inl rfl
  · refine .inr ⟨x, l, c, (zs.take l).map (Value.int k), rfl, hl, fun h0 => ?_, by simp; omega, fun j u hu => ?_, fun u hu => ?_⟩
    · have := World.block_lt_of_cell? w _ (h4 0 (by omega))
      simpa [Addr.add] using this
    · have hj := (List.getElem?_eq_some_iff.1 hu).1
      simp at hj
      rw [h4 j (by omega)]
      rw [List.getElem?_map, List.getElem?_take, if_pos (by omega)] at hu
      simp only [List.getD_eq_getElem?_getD]
      cases hz : zs[j]? with
      | none => rw [hz] at hu; cases hu
      | some z => rw [hz] at hu; simpa using hu
    · obtain ⟨_, _, rfl⟩ := List.mem_map.1 hu; rfl
theorem row_of {H : Type} {enc : TypeId × Value → H} {w : World} {base : Nat} {held : Bool} {t e : TypeId} {k : IntKind} {fuel : Nat} {v : Value} {x : DataW H × List MemPlace} (ht : Tryz.prog.underlying t = some (.slice e)) (he : Tryz.prog.underlying e = some (.int k)) (hc : Tryz.prog.cellsOf e = 1)
    (h : DataW.trod enc Tryz.prog w base (fun _ => true) held fuel t [v] = some x) : ∃ a l c zs, v = .slice a l c ∧ IsRow k w a l c zs := by
  rcases open_ints ht he hc h with ⟨hcs, _⟩ | ⟨x, l, c, zs, hcs, _, hl, hm, hz, _, hcell, hwz⟩
  · simp at hcs
    exact ⟨none, 0, 0, [], hcs, .inl ⟨rfl, rfl, rfl, rfl⟩⟩
  · simp at hcs
    exact ⟨some x, l, c, zs, hcs, .inr ⟨_, rfl, hl, hm, by simpa using hz, hcell, hwz⟩⟩


/-- A struct's parts are of the form's reach. -/
theorem sized_fields {H : Type} {P : Program} {t : TypeId} {ts : List TypeId} {parts : List (DataW H)} {ds : List (DataW H)} {fs : Array Field} (hu : P.underlying t = some (.struct fs)) (h : (DataW.weightsEach P (t :: ts) (.agg parts :: ds)).all (· ≤ reachBytes) = true) :
    (DataW.weightsEach P (fs.toList.map (·.type)) parts).all (· ≤ reachBytes) = true := by
  simp only [DataW.weightsEach, DataW.weights, hu, List.all_append, Bool.and_eq_true] at h
  exact h.1
end Go.Proofs.YtagieomloclohaaGreatDoor
