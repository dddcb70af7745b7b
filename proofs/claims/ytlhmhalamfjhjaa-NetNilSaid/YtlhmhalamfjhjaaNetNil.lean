/- The law NetNil returns true at every input, and what came in reads as it did. No condition. -/
import Derived.Test.YtlhmhalamfjhjaaRows
import Derived.Test.YtlhmhalamfjhjaaNr
import Derived.WalkKit
import Derived.ProofKit
import Derived.OpenShut
import Derived.ShutString
import Derived.ChangeOld
import Derived.Below
import Derived.Lib.SmallJoins
namespace Go.Proofs.Ytlhmhalamfjhjaa.netNil
open Go.ChangeShapes Go.WideShapes Go.ChangeAt Go.RowKit Go.Joins Go.Deep
open Go.ChangeMaps (open_string shut_string)
set_option linter.unusedVariables false

theorem own : ownKnob Try.prog.godebug = none := by kernel_rfl
theorem laidOut : laidOutB Try.prog = true := by kernel_rfl

section
variable {H : Type} {enc : TypeId × Value → H} {P : Program} {w : World} {base : Nat} {spare : Nat → Bool} {held : Bool}
/-- A struct of five one-cell fields, by value. -/
theorem open_agg5 {r : Reach} {b0 : Nat} {t : TypeId} {f0 f1 f2 f3 f4 : Field} {v : Value} {d : DataW H} {p : List MemPlace} (hs : P.underlying t = some (.struct #[f0, f1, f2, f3, f4])) (hone : oneCellFields P #[f0, f1, f2, f3, f4] = true) (hC : P.cellsOf t = 5)
    (hv : Value.okWide P w r b0 t v) (h : DataW.Trod enc P w base spare held t v d p) :
    ∃ (v0 v1 v2 v3 v4 : Value) (y0 y1 y2 y3 y4 : DataW H × List MemPlace) (n : Nat), v = .agg #[v0, v1, v2, v3, v4] ∧
      DataW.trod enc P w base spare held n f0.type [v0] = some y0 ∧ DataW.trod enc P w base spare held n f1.type [v1] = some y1 ∧ DataW.trod enc P w base spare held n f2.type [v2] = some y2 ∧ DataW.trod enc P w base spare held n f3.type [v3] = some y3 ∧ DataW.trod enc P w base spare held n f4.type [v4] = some y4 := by
  obtain ⟨cs, rfl, hsz⟩ := okWide_struct hs hv
  obtain ⟨l⟩ := cs
  match l, hsz.trans hC with
  | [c0, c1, c2, c3, c4], _ =>
    obtain ⟨fuel, hf⟩ := h
    obtain ⟨xs, n, _, hx, _, hlen, hg⟩ := DataW.trod_struct hs hf
    obtain ⟨o0, k0⟩ := hone_of hone 0 f0 rfl
    obtain ⟨o1, k1⟩ := hone_of hone 1 f1 rfl
    obtain ⟨o2, k2⟩ := hone_of hone 2 f2 rfl
    obtain ⟨o3, k3⟩ := hone_of hone 3 f3 rfl
    obtain ⟨o4, k4⟩ := hone_of hone 4 f4 rfl
    match xs, hlen with
    | [y0, y1, y2, y3, y4], _ =>
      exact ⟨c0, c1, c2, c3, c4, y0, y1, y2, y3, y4, n, rfl, by simpa [Value.cells, o0, k0] using hg 0 f0 rfl, by simpa [Value.cells, o1, k1] using hg 1 f1 rfl, by simpa [Value.cells, o2, k2] using hg 2 f2 rfl, by simpa [Value.cells, o3, k3] using hg 3 f3 rfl, by simpa [Value.cells, o4, k4] using hg 4 f4 rfl⟩
end

/-- WHAT THE WALK IS TOLD OF A SLICE OF INTEGERS THAT CAME IN: it is nil; or it leads to a row of 'cap' cells, the numbers 'zs' (the first 'len' are its elements, the rest its spare room), each fitting its kind. -/
def IsRow (k : IntKind) (w : World) (a : Option Addr) (len cap : Nat) (zs : List Int) : Prop :=
  (a = none ∧ len = 0 ∧ cap = 0 ∧ zs = []) ∨
  ∃ x, a = some x ∧ len ≤ cap ∧ cap ≤ maxLen ∧ zs.length = cap ∧ (∀ i, i < zs.length → w.cell? (x.add i) = some (.int k (zs.getD i 0))) ∧ ∀ n ∈ zs, (Lit.int k n).wf = true

open Ev
/-- What came in, one behind the other. -/
def om (kd n1 n2 by_ : Int) (a : Option Addr) (l c : Nat) : Nat → Value
  | 0 => .int .i64 kd
  | 1 => .int .i64 n1
  | 2 => .int .i64 n2
  | 3 => .int .u8 by_
  | 4 => .slice a l c
  | 5 => .int .i64 l
  | _ => .bool false

theorem row_read {w : World} {a : Option Addr} {l c : Nat} {zs : List Int} (h : IsRow .u8 w a l c zs) (hl : l ≤ 1000000) : RdV w w.heap.size (.slice a l c) := by
  rcases h with ⟨rfl, rfl, rfl, rfl⟩ | ⟨x, rfl, h1, h2, h3, h4, h5⟩
  · exact .inl rfl
  · refine .inr ⟨x, l, c, (zs.take l).map (Value.int .u8), rfl, hl, fun h0 => ?_, by simp; omega, fun j u hu => ?_, fun u hu => ?_⟩
    · have := World.block_lt_of_cell? w _ (h4 0 (by omega))
      simpa [Addr.add] using this
    · have hj := (List.getElem?_eq_some_iff.1 hu).1
      simp at hj
      rw [h4 j (by omega)]
      rw [List.getElem?_map, List.getElem?_take, if_pos (by omega)] at hu
      simp only [List.getD_eq_getElem?_getD]
      cases hz : zs[j]? with
      | none => rw [hz] at hu; cases hu
      | some z => rw [hz] at hu; simpa using hu
    · obtain ⟨_, _, rfl⟩ := List.mem_map.1 hu; rfl

theorem isTrue_some {r : Option (Value × AS)} (h : isTrue r = true) : ∃ s', r = some (.bool true, s') := by
  unfold isTrue at h
  split at h
  · rename_i b s'; subst h; exact ⟨s', rfl⟩
  · cases h

section
variable {kd n1 n2 by_ : Int} {a : Option Addr} {l c : Nat}

theorem ls_ok : ∀ f ∈ ls, LenOK (om kd n1 n2 by_ a l c) Try.prog f := by
  intro f hf
  rw [List.mem_singleton.1 hf]
  exact len_slice Try.underlying30 rfl rfl

theorem run_of {fs : List Fact} {q : Nat → Bool} (hf : ∀ f ∈ fs, f.ok (om kd n1 n2 by_ a l c) Try.prog) {v0 : Value} (h0 : VRel (ω := om kd n1 n2 by_ a l c) (fun _ => none) v0 (.int .i64 kd))
    (hr : isTrue ((ev (Cn fs q) 10000).f 5 (deed v0) ⟨0, .leaf⟩) = true) (w : World) (hrd : ∀ k, q k = true → RdV w w.heap.size (om kd n1 n2 by_ a l c k)) :
    Calls Try.prog 5 #[.agg #[.int .i64 kd, .int .i64 n1, .int .i64 n2, .int .u8 by_, .slice a l c]] w fun e w' => e = .returned (.bool true) ∧ Below w.heap.size w w' := by
  obtain ⟨s', hs'⟩ := isTrue_some hr
  refine run_args (C := Cn fs q) (ω := om kd n1 n2 by_ a l c) (cok_of (ctOK _ _ hf ls_ok noCnv_ok q) mixed (fun _ => rfl)) hs' ?_ rfl rfl w (fun p v h => by cases h) hrd
  refine LRel.cons ?_ (LRel.nil _)
  exact LRel.agg (l := [v0, tk 1, tk 2, tk 3, tk 4]) (l' := [_, _, _, _, _]) (LRel.cons h0 (LRel.cons (.tok 1 rfl) (LRel.cons (.tok 2 rfl) (LRel.cons (.tok 3 rfl) (LRel.cons (.tok 4 rfl) (LRel.nil _))))))

theorem fSmall_ok (hb : l ≤ 9000) : ∀ f ∈ fSmall, f.ok (om kd n1 n2 by_ a l c) Try.prog := by
  intro f hf
  simp only [fSmall, List.mem_cons, List.not_mem_nil, or_false] at hf
  rcases hf with rfl | rfl | rfl
  · exact Fact.gtr (ω := om kd n1 n2 by_ a l c) (p := l) (q := 9000) rfl rfl rfl rfl (decide_eq_false (by omega))
  · exact Fact.add (ω := om kd n1 n2 by_ a l c) (p := 0) (q := l) rfl rfl rfl rfl rfl (by rw [wrap_i64 (by omega) (by omega)]; simp [den, tk, om])
  · exact Fact.leq (ω := om kd n1 n2 by_ a l c) (p := l) (q := 36000) rfl rfl rfl rfl (decide_eq_true (by omega))
end

/-! ### STEP 1: THE WALK: by runs of the interpreter. -/
theorem walk (kd n1 n2 by_ : Int) (a : Option Addr) (l c : Nat) (zs : List Int) (w : World) (hr : IsRow .u8 w a l c zs) :
    Calls Try.prog 5 #[.agg #[.int .i64 kd, .int .i64 n1, .int .i64 n2, .int .u8 by_, .slice a l c]] w fun e w' => e = .returned (.bool true) ∧ Below w.heap.size w w' := by
  by_cases hb : 9000 < l
  · refine run_of (fs := fBig) (q := rdNo) ?_ (.tok 0 rfl) rBig w (fun k hk => by cases hk)
    intro f hf
    rw [List.mem_singleton.1 hf]
    exact Fact.gtr (ω := om kd n1 n2 by_ a l c) (p := l) (q := 9000) rfl rfl rfl rfl (decide_eq_true (by omega))
  · have hrd : ∀ k, rd k = true → RdV w w.heap.size (om kd n1 n2 by_ a l c k) := fun k hk => by
      obtain rfl := Nat.eq_of_beq_eq_true hk
      exact row_read hr (by omega)
    have hs := fSmall_ok (kd := kd) (n1 := n1) (n2 := n2) (by_ := by_) (a := a) (l := l) (c := c) (by omega)
    by_cases h0 : kd = 0
    · subst h0; exact run_of hs (.plain _ rfl) r0 w hrd
    by_cases h1 : kd = 1
    · subst h1; exact run_of hs (.plain _ rfl) r1 w hrd
    by_cases h2 : kd = 2
    · subst h2; exact run_of hs (.plain _ rfl) r2 w hrd
    by_cases h3 : kd = 3
    · subst h3; exact run_of hs (.plain _ rfl) r3 w hrd
    refine run_of (fs := fKind) ?_ (.tok 0 rfl) rK w hrd
    intro f hf
    rcases List.mem_append.1 hf with hf | hf
    · exact hs f hf
    · simp only [List.mem_cons, List.not_mem_nil, or_false] at hf
      rcases hf with rfl | rfl | rfl | rfl
      · exact Fact.eql (ω := om kd n1 n2 by_ a l c) (p := kd) (q := 0) rfl rfl rfl rfl (decide_eq_false h0)
      · exact Fact.eql (ω := om kd n1 n2 by_ a l c) (p := kd) (q := 1) rfl rfl rfl rfl (decide_eq_false h1)
      · exact Fact.eql (ω := om kd n1 n2 by_ a l c) (p := kd) (q := 2) rfl rfl rfl rfl (decide_eq_false h2)
      · exact Fact.eql (ω := om kd n1 n2 by_ a l c) (p := kd) (q := 3) rfl rfl rfl rfl (decide_eq_false h3)

/-! ### THE ROW's STEP -/
set_option maxRecDepth 100000 in
theorem lifted (os : Os) (started : os.Started) (H : Type) (enc : TypeId × Value → H) :
    ReturnsInHanded {} Try.checked os 5 .any (Rows.netNilSpec.pre6 enc Try.prog Try.f5 Rows.netNilRow.domain false) (Rows.netNilSpec.post enc Try.prog Try.f5 false true false false) := by
  refine returnsInHanded_of_change (C := Try.checked) own started (by kernel_rfl) Try.func5
    (ChangeSpec.witness6 (enc := enc) (C := Try.checked) false ⟨#[], #[.agg #[.int .i64 0, .int .i64 0, .int .i64 0, .int .u8 0, .slice none 0 0]], []⟩ 8 (by kernel_rfl) (by kernel_rfl) (by kernel_rfl) (by kernel_rfl)) ?_
  intro W base args ds gs before hval0 hW hcnd _
  have hval : ∀ (j : Nat) t v, Try.f5.params[j]? = some t → args[j]? = some v → Value.okWide Try.prog W .any base t v := hval0
  have hW' := hW
  obtain ⟨p, q, hA0, hV, rfl, hfz, hnd⟩ := hW
  have hA : DataW.TrodAll enc Try.prog W 0 (fun _ => true) true Try.f5.params.toList args.toList ds p := hA0
  rw [Try.params5] at hA hval
  obtain ⟨v0, vs0, d0, ds0, p0, q0, hargs, rfl, rfl, h0, r0⟩ := trodAll_cons hA
  obtain ⟨rfl, rfl, rfl⟩ := trodAll_nil r0
  obtain rfl : args = #[v0] := by cases args; simp_all
  obtain ⟨rfl, rfl⟩ := trodVars_none hV
  have k0 := h0
  have lt0 : ∀ x ∈ p0, x.block < W.heap.size := by obtain ⟨m, hm⟩ := k0; exact DataW.trod_lt m _ _ _ hm
  obtain ⟨c0, c1, c2, c3, c4, y0, y1, y2, y3, y4, n, rfl, t0, t1, t2, t3, t4⟩ := open_agg5 (P := Try.prog) (t := 32) Try.underlying32 (by kernel_rfl) (by kernel_rfl) (hval 0 32 v0 rfl rfl) h0
  obtain ⟨kd, hc0, _⟩ := DataW.trod_int Try.underlying3 t0
  obtain ⟨n1, hc1, _⟩ := DataW.trod_int Try.underlying3 t1
  obtain ⟨n2, hc2, _⟩ := DataW.trod_int Try.underlying3 t2
  obtain ⟨by_, hc3, _⟩ := DataW.trod_int Try.underlying5 t3
  simp only [List.cons.injEq, and_true] at hc0 hc1 hc2 hc3
  subst hc0; subst hc1; subst hc2; subst hc3
  obtain ⟨a, l, c, zs, hc4, hrow⟩ : ∃ a l c zs, c4 = .slice a l c ∧ IsRow .u8 W a l c zs := by
    rcases open_ints Try.underlying30 Try.underlying5 (by kernel_rfl) t4 with ⟨hcs, _⟩ | ⟨x, l, c, zs, hcs, _, hl, hm, hz, _, hcell, hwz⟩
    · simp at hcs
      exact ⟨none, 0, 0, [], hcs, .inl ⟨rfl, rfl, rfl, rfl⟩⟩
    · simp at hcs
      exact ⟨some x, l, c, zs, hcs, .inr ⟨_, rfl, hl, hm, by simpa using hz, hcell, hwz⟩⟩
  subst hc4
  clear hA0 hval0
  refine (walk kd n1 n2 by_ a l c zs W hrow).mono fun e W' ⟨he, bel⟩ => ?_
  subst he
  exact ⟨_, rfl, _, _, _, [], _, [], hW', trodAll_mk1 (shut_bool Try.underlying4 _), (trodAll_cons_mk (Below.trod laidOut (by kernel_rfl) (of_decide_eq_true (by kernel_rfl)) k0 bel lt0) trodAll_mk0), rfl, bel.frame _, fun h => by cases h⟩

theorem over : Rows.netNilRow.holds Try.pinned (OpenSpec.ofChange Rows.netNilSpec) :=
  OpenClaim.holds_of_wide 5 Try.f5 rfl rfl rfl rfl rfl rfl rfl ⟨rfl, rfl, rfl, rfl, rfl⟩ rfl rfl rfl rfl rfl (by kernel_rfl) Try.func5 (by kernel_rfl)
    (of_decide_eq_true (by kernel_rfl)) (by unfold Func.isWrapper; first | (rw [if_pos (by decide +kernel)]; kernel_rfl) | (rw [if_neg (by decide +kernel)]; exact ⟨rfl, rfl⟩))
    (fun os started H enc _ => lifted os started H enc)

/-- ████ THE STATEMENT ████ -/
theorem proved : Rows.NetNilSaid := over
#print axioms proved
end Go.Proofs.Ytlhmhalamfjhjaa.netNil
