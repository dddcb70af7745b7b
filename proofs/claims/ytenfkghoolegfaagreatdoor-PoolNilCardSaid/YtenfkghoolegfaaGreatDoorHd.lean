/- The listed variable errors.errorType: what the condition gives, a world that meets it; facts on strings and conversions; slices that came in. -/
import Derived.Test.YtenfkghoolegfaaGreatDoorRows
import Derived.Test.YtenfkghoolegfaaGreatDoorEvw
import Derived.WalkKit
import Derived.ProofKit
import Derived.OpenShut
import Derived.ShutString
import Derived.ChangeOld
import Derived.ChangeSame
import Derived.ChangeVars
import Derived.JoinedOf
import Derived.RowKit
import Derived.RowKitTokens
import Derived.LaidLaws
import Derived.LaidHandle
import Derived.Stop.Joined
import Derived.Below
import Derived.Lib.SmallJoins
import Derived.SizedLaws
namespace Go.Proofs.YtenfkghoolegfaaGreatDoor
open Go.ChangeShapes Go.WideShapes Go.ChangeAt Go.RowKit Go.Joins Go.Deep

theorem own : ownKnob Tryz.prog.godebug = none := by kernel_rfl
theorem laidOut : laidOutB Tryz.prog = true := by kernel_rfl
theorem errVar : Tryz.prog.globalNamed "errors.errorType" = some 0 := by kernel_rfl
theorem rtypeOf : (Tryz.prog.cutTypes.find? (·.1 == "internal/reflectlite.rtype")).map (·.2) = some 187 := by kernel_rfl
theorem oneRow : ((List.range Tryz.prog.types.size).filter fun t => Tryz.prog.rowNamed t [101, 114, 114, 111, 114]) = [37] := by kernel_rfl
def laidD : List (String × DataW Unit) := [("math/bits.deBruijn32tab", Rows.laid_math_bits_deBruijn32tab), ("math/bits.deBruijn64tab", Rows.laid_math_bits_deBruijn64tab), ("internal/strconv.uint64pow10", Rows.laid_internal_strconv_uint64pow10)]
def laidL : List (String × DataW Unit) := [("math/bits.deBruijn32tab", Rows.laid_math_bits_deBruijn32tab), ("math/bits.deBruijn64tab", Rows.laid_math_bits_deBruijn64tab), ("internal/strconv.uint64pow10", Rows.laid_internal_strconv_uint64pow10), ("errors.errorType", Rows.laid_errors_errorType)]

/-- What the condition gives: the variable's one cell. -/
theorem handle_of_laid {W : World} (h : laidMetH Tryz.prog laidL W) : W.cell? ⟨0, 0, none⟩ = some (.iface 187 (.agg #[.pointer (some ⟨5, 37, none⟩)])) := by
  have h' : laidMet Tryz.prog laidD W ∧ handlesMet Tryz.prog [("errors.errorType", Rows.laid_errors_errorType)] W := h
  obtain ⟨name, u, ty, e1, e2, e3, e4, e5⟩ := h'.2 _ (List.mem_singleton.2 rfl)
  have en : name = [101, 114, 114, 111, 114] := (Option.some.inj e1).symm
  subst en
  obtain rfl := Option.some.inj (rtypeOf.symm.trans e2)
  have hm : ty ∈ (List.range Tryz.prog.types.size).filter fun t => Tryz.prog.rowNamed t [101, 114, 114, 111, 114] := List.mem_filter.2 ⟨List.mem_range.2 e3, e4⟩
  rw [oneRow] at hm
  obtain rfl := List.mem_singleton.1 hm
  have hh : typeHandle Tryz.prog 37 = .pointer (some ⟨5, 37, none⟩) := by kernel_rfl
  rw [hh] at e5
  simpa using World.var?_cell errVar e5 0

/-- The table of powers, as the runs ask for it. -/
theorem iv_of {W : World} (h : laidMetH Tryz.prog laidL W) : ∀ g cs, Ev.ivT g = some cs → g < W.heap.size ∧ ∃ t fz, W.heap[g]? = some (.cells cs t fz) := by
  intro g0 cs0 hg0
  unfold Ev.ivT at hg0
  cases hb : Nat.beq g0 1 with
  | false => rw [hb] at hg0; cases hg0
  | true =>
    rw [hb] at hg0
    obtain rfl := Nat.eq_of_beq_eq_true hb
    cases hg0
    have h' : laidMet Tryz.prog laidD W ∧ handlesMet Tryz.prog [("errors.errorType", Rows.laid_errors_errorType)] W := h
    obtain ⟨ps, ⟨_, _, _, _, _, _, _, _, _, _, ⟨_, _, _, _, _, _, _, _, _, _, ⟨g, t, cs, fuel, p, q, hg, ht, hv, hd, _, _⟩, _⟩, _⟩, _, _⟩ := h'.1
    obtain rfl := Option.some.inj ((show Tryz.prog.globalNamed "internal/strconv.uint64pow10" = some 1 by kernel_rfl).symm.trans hg)
    obtain rfl := Option.some.inj ((show (Tryz.prog.globals[1]?).map (·.type) = some 277 by kernel_rfl).symm.trans ht)
    obtain ⟨xs, m, _, ex, hcl, hl, hel⟩ := DataW.trod_array Tryz.underlying277 hd
    have c5 : Tryz.prog.cellsOf 34 = 1 := by kernel_rfl
    have c6 : Tryz.prog.cellsOf 277 = 20 := by kernel_rfl
    have ecs : cs = (Lib.pow10Tab.map fun z => Value.int .u64 z).toArray := by
      refine Array.ext (by rw [← Array.length_toList, hcl, c6]; rfl) fun r hr1 hr2 => ?_
      have hr : r < 20 := by simpa [Lib.pow10Tab] using hr2
      have hE := hel r hr
      rw [c5, Nat.mul_one, List.getElem?_eq_getElem (by omega)] at hE
      obtain ⟨z, e1, e2, _⟩ := DataW.trod_int Tryz.underlying34 hE
      have e3 : (xs.map (·.1)) = Lib.pow10Tab.map fun n => (DataW.lit (.int .u64 n) : DataW Unit) := ((DataW.agg.inj (Prod.mk.inj ex).1).symm).trans (by rfl)
      have e4 : (xs.map (·.1))[r]? = (Lib.pow10Tab.map fun n => (DataW.lit (.int .u64 n) : DataW Unit))[r]? := by rw [e3]
      have hlp : Lib.pow10Tab.length = 20 := by simp [Lib.pow10Tab]
      rw [List.getElem?_map, List.getElem?_map, List.getElem?_eq_getElem (by omega : r < xs.length), List.getElem?_eq_getElem (by omega : r < Lib.pow10Tab.length), e2] at e4
      simp only [Option.map_some, Option.some.injEq, DataW.lit.injEq, Lit.int.injEq, true_and] at e4
      have h0 : ((cs.toList.drop r).take 1)[0]? = some (.int .u64 z) := by rw [e1]; rfl
      have h1 : cs[r]? = some (.int .u64 z) := by simpa using h0
      rw [Array.getElem?_eq_getElem hr1] at h1
      rw [Option.some.inj h1, e4]
      simp
    subst ecs
    simp only [World.var?, hg, Option.bind_some] at hv
    split at hv
    · rename_i cs' t' fz' hcs
      cases hv
      exact ⟨(Array.getElem?_eq_some_iff.1 hcs).1, t', fz', hcs⟩
    · cases hv

/-- A datum's cells, of a table of whole numbers. -/
def litCells (d : DataW Unit) : Array Value := match d with
  | .agg l => (l.map fun
    | .lit (.int k n) => Value.int k n
    | _ => .nilIface).toArray
  | _ => #[]
def layAt (h : Array Obj) (g : Nat) (cs : Array Value) : Array Obj := h.modify g fun
      | .cells _ t frozen => .cells cs t frozen
      | o => o
/-- A world that meets the condition: the settled one, the variables' cells laid. -/
noncomputable def laidWorld (os : Os) : World :=
  let w0 := World.holding Tryz.prog os ⟨#[], #[], []⟩
  { w0 with heap := layAt (layAt (layAt (layAt w0.heap 0 #[.iface 187 (.agg #[.pointer (some ⟨5, 37, none⟩)])]) 1 (litCells Rows.laid_internal_strconv_uint64pow10)) 3 (litCells Rows.laid_math_bits_deBruijn32tab)) 4 (litCells Rows.laid_math_bits_deBruijn64tab) }
set_option maxRecDepth 100000 in
theorem laidWorld_data (os : Os) (args : Array Value) : laidMet Tryz.prog laidD ((laidWorld os).forCall (fun _ _ => 0) ⟨#[], args, []⟩).memory :=
  laidMet_of_run' 100 (by kernel_rfl) (by kernel_rfl)
set_option maxRecDepth 100000 in
theorem laidWorld_met (os : Os) (args : Array Value) : laidMetH Tryz.prog laidL ((laidWorld os).forCall (fun _ _ => 0) ⟨#[], args, []⟩).memory :=
  laidMetH_of_parts (laidWorld_data os args) (by kernel_rfl)

open Ev
variable {ω : Nat → Value}
/-- The variable, as the runs ask for it. -/
theorem glob_of (hh : Hands ω) {w : World} (h : w.cell? ⟨0, 0, none⟩ = some (.iface 187 (.agg #[.pointer (some ⟨5, 37, none⟩)]))) :
    ∀ g v, globT g = some v → g < w.heap.size ∧ ∃ v', w.cell? ⟨g, 0, none⟩ = some v' ∧ ∀ m : M ω, VRel m v v' := by
  intro g v hg
  unfold globT at hg
  cases hb : Nat.beq g 0 with
  | false => rw [hb] at hg; cases hg
  | true =>
    rw [hb] at hg
    obtain rfl := Nat.eq_of_beq_eq_true hb
    cases hg
    exact ⟨World.block_lt_of_cell? w _ h, _, h, fun m => rt_rel hh _⟩

/-- The run answers true. -/
def isTr (r : Option (Value × AS)) : Bool := match r with
  | some (.bool b, _) => b
  | _ => false
theorem isTr_some {r : Option (Value × AS)} (h : isTr r = true) : ∃ s', r = some (.bool true, s') := by
  unfold isTr at h
  split at h
  · rename_i b s'; subst h; exact ⟨s', rfl⟩
  · cases h

/-- Two strings that are one. -/
theorem Fact.strNeq {P : Program} {x y : Value} {s u : ByteArray} (hx : den ω x = .string s) (hy : den ω y = .string u) (tx : tokB x = true) (ty : tokB y = true) {b : Bool} (h : (!(s.toList == u.toList)) = b) : (⟨.neq, x, y, .bool b⟩ : Fact).ok ω P :=
  ⟨tx, ty, rfl, fun k e => (by cases e), fun t ox oy w => by
    show (do eqGuard .neq t ox oy (den ω x) (den ω y); binOp .neq t (den ω x) (den ω y) : Sem Value).run P w = .ok (.bool b) w
    rw [hx, hy, ← h]
    simp [binOp, eqGuard, Op.stringOp]⟩

/-- WHAT IS KNOWN OF A SLICE OF INTEGERS THAT CAME IN. -/
def IsRow (k : IntKind) (w : World) (a : Option Addr) (len cap : Nat) (zs : List Int) : Prop :=
  (a = none ∧ len = 0 ∧ cap = 0 ∧ zs = []) ∨
  ∃ x, a = some x ∧ len ≤ cap ∧ cap ≤ maxLen ∧ zs.length = cap ∧ (∀ i, i < zs.length → w.cell? (x.add i) = some (.int k (zs.getD i 0))) ∧ ∀ n ∈ zs, (Lit.int k n).wf = true
theorem IsRow.le {k : IntKind} {w : World} {a : Option Addr} {l c : Nat} {zs : List Int} (h : IsRow k w a l c zs) : l ≤ maxLen := by
  rcases h with ⟨rfl, rfl, rfl, rfl⟩ | ⟨x, rfl, h1, h2, h3, h4, h5⟩ <;> omega
theorem row_read {k : IntKind} {w : World} {a : Option Addr} {l c : Nat} {zs : List Int} (h : IsRow k w a l c zs) (hl : l ≤ 1000000) : RdV w w.heap.size (.slice a l c) := by
  rcases h with ⟨rfl, rfl, rfl, rfl⟩ | ⟨x, rfl, h1, h2, h3, h4, h5⟩
  · exact .inl rfl
  · refine .inr ⟨x, l, c, (zs.take l).map (Value.int k), rfl, hl, fun h0 => ?_, by simp; omega, fun j u hu => ?_, fun u hu => ?_⟩
    · have := World.block_lt_of_cell? w _ (h4 0 (by omega))
      simpa [Addr.add] using this
    · have hj := (List.getElem?_eq_some_iff.1 hu).1
      simp at hj
      rw [h4 j (by omega)]
      rw [List.getElem?_map, List.getElem?_take, if_pos (by omega)] at hu
      simp only [List.getD_eq_getElem?_getD]
      cases hz : zs[j]? with
      | none => rw [hz] at hu; cases hu
      | some z => rw [hz] at hu; simpa using hu
    · obtain ⟨_, _, rfl⟩ := List.mem_map.1 hu; rfl
theorem row_of {H : Type} {enc : TypeId × Value → H} {w : World} {base : Nat} {held : Bool} {t e : TypeId} {k : IntKind} {fuel : Nat} {v : Value} {x : DataW H × List MemPlace} (ht : Tryz.prog.underlying t = some (.slice e)) (he : Tryz.prog.underlying e = some (.int k)) (hc : Tryz.prog.cellsOf e = 1)
    (h : DataW.trod enc Tryz.prog w base (fun _ => true) held fuel t [v] = some x) : ∃ a l c zs, v = .slice a l c ∧ IsRow k w a l c zs := by
  rcases open_ints ht he hc h with ⟨hcs, _⟩ | ⟨x, l, c, zs, hcs, _, hl, hm, hz, _, hcell, hwz⟩
  · simp at hcs
    exact ⟨none, 0, 0, [], hcs, .inl ⟨rfl, rfl, rfl, rfl⟩⟩
  · simp at hcs
    exact ⟨some x, l, c, zs, hcs, .inr ⟨_, rfl, hl, hm, by simpa using hz, hcell, hwz⟩⟩


/-- A struct's parts are of the form's reach. -/
theorem sized_fields {H : Type} {P : Program} {t : TypeId} {ts : List TypeId} {parts : List (DataW H)} {ds : List (DataW H)} {fs : Array Field} (hu : P.underlying t = some (.struct fs)) (h : (DataW.weightsEach P (t :: ts) (.agg parts :: ds)).all (· ≤ reachBytes) = true) :
    (DataW.weightsEach P (fs.toList.map (·.type)) parts).all (· ≤ reachBytes) = true := by
  simp only [DataW.weightsEach, DataW.weights, hu, List.all_append, Bool.and_eq_true] at h
  exact h.1
end Go.Proofs.YtenfkghoolegfaaGreatDoor
