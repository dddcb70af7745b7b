/- The law TreeNil returns true at every input, and what came in reads as it did; its card, tied to the program's text. No condition. -/
import Derived.Test.YtneaefgmlmeddaaGreatDoorCards
import Derived.Test.YtneaefgmlmeddaaGreatDoorTie
import Derived.Test.YtneaefgmlmeddaaGreatDoorTn
import Derived.SevenTiedAt
namespace Go.Proofs.YtneaefgmlmeddaaGreatDoor.treeNil
open Go.ChangeShapes Go.WideShapes Go.ChangeAt Go.RowKit Go.Joins Go.Deep
set_option linter.unusedVariables false

section
variable {H : Type} {enc : TypeId × Value → H} {P : Program} {w : World} {base : Nat} {spare : Nat → Bool} {held : Bool}
/-- A struct of three one-cell fields, by value. -/
theorem open_agg3 {r : Reach} {b0 : Nat} {t : TypeId} {f0 f1 f2 : Field} {v : Value} {d : DataW H} {p : List MemPlace} (hs : P.underlying t = some (.struct #[f0, f1, f2])) (hone : oneCellFields P #[f0, f1, f2] = true) (hC : P.cellsOf t = 3)
    (hv : Value.okWide P w r b0 t v) (h : DataW.Trod enc P w base spare held t v d p) :
    ∃ (v0 v1 v2 : Value) (y0 y1 y2 : DataW H × List MemPlace) (n : Nat), v = .agg #[v0, v1, v2] ∧ d = .agg [y0.1, y1.1, y2.1] ∧
      DataW.trod enc P w base spare held n f0.type [v0] = some y0 ∧ DataW.trod enc P w base spare held n f1.type [v1] = some y1 ∧ DataW.trod enc P w base spare held n f2.type [v2] = some y2 := by
  obtain ⟨cs, rfl, hsz⟩ := okWide_struct hs hv
  obtain ⟨l⟩ := cs
  match l, hsz.trans hC with
  | [c0, c1, c2], _ =>
    obtain ⟨fuel, hf⟩ := h
    obtain ⟨xs, n, _, hx, _, hlen, hg⟩ := DataW.trod_struct hs hf
    obtain ⟨o0, k0⟩ := hone_of hone 0 f0 rfl
    obtain ⟨o1, k1⟩ := hone_of hone 1 f1 rfl
    obtain ⟨o2, k2⟩ := hone_of hone 2 f2 rfl
    match xs, hlen with
    | [y0, y1, y2], _ =>
      exact ⟨c0, c1, c2, y0, y1, y2, n, rfl, (Prod.mk.inj hx).1, by simpa [Value.cells, o0, k0] using hg 0 f0 rfl, by simpa [Value.cells, o1, k1] using hg 1 f1 rfl, by simpa [Value.cells, o2, k2] using hg 2 f2 rfl⟩
end

open Ev Tn
/-- What came in, one behind the other; then the types' handles. -/
def om (kd : Int) (ak : Option Addr) (lk ck : Nat) (av : Option Addr) (lv cv : Nat) : Nat → Value
  | 0 => .int .i64 kd
  | 1 => .slice ak lk ck
  | 2 => .slice av lv cv
  | 3 => .int .i64 lk
  | 4 => .int .i64 lv
  | k => .pointer (some ⟨5, k - hBase, none⟩)

section
variable {kd : Int} {ak : Option Addr} {lk ck : Nat} {av : Option Addr} {lv cv : Nat}
theorem hands : Hands (om kd ak lk ck av lv cv) := fun t => by
  have : hBase + t = (hBase + t - 5) + 5 := by unfold hBase; omega
  rw [this]
  show Value.pointer (some ⟨5, hBase + t - 5 + 5 - hBase, none⟩) = _
  rw [show hBase + t - 5 + 5 - hBase = t by unfold hBase; omega]
theorem lns_ok : ∀ f ∈ lns, LenOK (om kd ak lk ck av lv cv) Tryz.prog f := by
  intro f hf
  simp only [lns, List.mem_cons, List.not_mem_nil, or_false] at hf
  rcases hf with rfl | rfl
  · exact len_slice Tryz.underlying23 rfl rfl
  · exact len_slice Tryz.underlying23 rfl rfl
theorem run_of {fs : List Fact} (hf : ∀ f ∈ fs, f.ok (om kd ak lk ck av lv cv) Tryz.prog) (hr : isTr ((ev (Cn fs) 10000).f 6 deed ⟨0, .leaf⟩) = true) (w : World) (hg : w.cell? ⟨0, 0, none⟩ = some (.iface 249 (.agg #[.pointer (some ⟨5, 43, none⟩)]))) (hiv : ∀ g cs, ivT g = some cs → g < w.heap.size ∧ ∃ t fz, w.heap[g]? = some (.cells cs t fz)) :
    Calls Tryz.prog 6 #[.agg #[.int .i64 kd, .slice ak lk ck, .slice av lv cv]] w fun e w' => e = .returned (.bool true) ∧ Below w.heap.size w w' := by
  obtain ⟨s', hs'⟩ := isTr_some hr
  refine run_args (C := Cn fs) (ω := om kd ak lk ck av lv cv) (cxOK hands (ext_ok hands) hf lns_ok noCnv_ok noRd) hs' ?_ rfl rfl w (glob_of hands hg) (fun k h => by cases h) hiv
  refine LRel.cons ?_ (LRel.nil _)
  exact LRel.agg (l := [tk 0, tk 1, tk 2]) (l' := [_, _, _]) (LRel.cons (.tok 0 rfl) (LRel.cons (.tok 1 rfl) (LRel.cons (.tok 2 rfl) (LRel.nil _))))
abbrev Ok (kd : Int) (ak : Option Addr) (lk ck : Nat) (av : Option Addr) (lv cv : Nat) (f : Fact) : Prop := f.ok (om kd ak lk ck av lv cv) Tryz.prog
theorem kGt3 {q : Int} {b : Bool} (h : decide (q < (lk : Int)) = b) : Ok kd ak lk ck av lv cv ⟨.gtr, tk 3, i64 q, .bool b⟩ :=
  Fact.gtr (ω := om kd ak lk ck av lv cv) (p := lk) (q := q) rfl rfl rfl rfl h
theorem kGt4 {q : Int} {b : Bool} (h : decide (q < (lv : Int)) = b) : Ok kd ak lk ck av lv cv ⟨.gtr, tk 4, i64 q, .bool b⟩ :=
  Fact.gtr (ω := om kd ak lk ck av lv cv) (p := lv) (q := q) rfl rfl rfl rfl h
theorem kLe3 {q : Int} {b : Bool} (h : decide ((lk : Int) ≤ q) = b) : Ok kd ak lk ck av lv cv ⟨.leq, tk 3, i64 q, .bool b⟩ :=
  Fact.leq (ω := om kd ak lk ck av lv cv) (p := lk) (q := q) rfl rfl rfl rfl h
theorem kLe4 {q : Int} {b : Bool} (h : decide ((lv : Int) ≤ q) = b) : Ok kd ak lk ck av lv cv ⟨.leq, tk 4, i64 q, .bool b⟩ :=
  Fact.leq (ω := om kd ak lk ck av lv cv) (p := lv) (q := q) rfl rfl rfl rfl h
theorem kGe3 {q : Int} {b : Bool} (h : decide (q ≤ (lk : Int)) = b) : Ok kd ak lk ck av lv cv ⟨.geq, tk 3, i64 q, .bool b⟩ :=
  Fact.geq (ω := om kd ak lk ck av lv cv) (p := lk) (q := q) rfl rfl rfl rfl h
theorem kLt3 {q : Int} {b : Bool} (h : decide ((lk : Int) < q) = b) : Ok kd ak lk ck av lv cv ⟨.lss, tk 3, i64 q, .bool b⟩ :=
  Fact.lss (ω := om kd ak lk ck av lv cv) (p := lk) (q := q) rfl rfl rfl rfl h
theorem kAdd4 (h : lv ≤ 2000) : Ok kd ak lk ck av lv cv ⟨.add, i64 0, tk 4, tk 4⟩ :=
  Fact.add (ω := om kd ak lk ck av lv cv) (p := 0) (q := lv) rfl rfl rfl rfl rfl (by rw [wrap_i64 (by omega) (by omega)]; simp [den, tk, om])
theorem fC_ok {a b c d e : Bool} (h1 : lk ≤ 100) (h2 : lv ≤ 2000) (ha : decide ((lk : Int) < 1) = a) (hb : decide ((24 : Int) < lk) = b) (hc : decide ((1 : Int) ≤ lk) = c) (hd : decide ((lk : Int) ≤ 24) = d) (he : decide ((1000 : Int) < lv) = e) : ∀ f ∈ fC a b c d e, Ok kd ak lk ck av lv cv f := by
  intro f hf
  simp only [fC, List.mem_cons, List.not_mem_nil, or_false] at hf
  rcases hf with rfl | rfl | rfl | rfl | rfl | rfl | rfl | rfl | rfl
  · exact kGt3 (decide_eq_false (by omega))
  · exact kGt4 (decide_eq_false (by omega))
  · exact kAdd4 h2
  · exact kLe4 (decide_eq_true (by omega))
  · exact kLt3 ha
  · exact kGt3 hb
  · exact kGe3 hc
  · exact kLe3 hd
  · exact kGt4 he
end

/-! ### THE WALK: by runs of the interpreter. -/
theorem walk (kd : Int) (ak : Option Addr) (lk ck : Nat) (av : Option Addr) (lv cv : Nat) (w : World) (hg : w.cell? ⟨0, 0, none⟩ = some (.iface 249 (.agg #[.pointer (some ⟨5, 43, none⟩)]))) (hiv : ∀ g cs, ivT g = some cs → g < w.heap.size ∧ ∃ t fz, w.heap[g]? = some (.cells cs t fz)) :
    Calls Tryz.prog 6 #[.agg #[.int .i64 kd, .slice ak lk ck, .slice av lv cv]] w fun e w' => e = .returned (.bool true) ∧ Below w.heap.size w w' := by
  by_cases c1 : 100 < lk
  · refine run_of (fs := fA) (fun f hf => ?_) rA w hg hiv
    rw [List.mem_singleton.1 hf]
    exact kGt3 (decide_eq_true (by omega))
  by_cases c2 : 2000 < lv
  · refine run_of (fs := fB) (fun f hf => ?_) rB w hg hiv
    simp only [fB, List.mem_cons, List.not_mem_nil, or_false] at hf
    rcases hf with rfl | rfl
    · exact kGt3 (decide_eq_false (by omega))
    · exact kGt4 (decide_eq_true (by omega))
  by_cases c3 : lk < 1
  · exact run_of (fC_ok (by omega) (by omega) (decide_eq_true (by omega)) (decide_eq_false (by omega)) (decide_eq_false (by omega)) (decide_eq_true (by omega)) rfl) (r1 _) w hg hiv
  by_cases c4 : 24 < lk
  · exact run_of (fC_ok (by omega) (by omega) (decide_eq_false (by omega)) (decide_eq_true (by omega)) (decide_eq_true (by omega)) (decide_eq_false (by omega)) rfl) (r2 _) w hg hiv
  · exact run_of (fC_ok (by omega) (by omega) (decide_eq_false (by omega)) (decide_eq_false (by omega)) (decide_eq_true (by omega)) (decide_eq_true (by omega)) rfl) (r3 _) w hg hiv

/-! ### THE ROW's STEP -/
set_option maxRecDepth 100000 in
theorem lifted (os : Os) (started : os.Started) (H : Type) (enc : TypeId × Value → H) :
    ReturnsInHanded {} Tryz.checked os 6 .any (fun w args => (Rows.treeNilSpec.pre enc Tryz.prog Tryz.f6 [] false w args ∧ laidMetH Tryz.prog laidL w) ∧ sizedMet enc Tryz.prog Tryz.f6 (OpenSpec.ofChange Rows.treeNilSpec) false w args)
      (Rows.treeNilSpec.post enc Tryz.prog Tryz.f6 false true false false) := by
  refine returnsInHanded_of_change_and (C := Tryz.checked) (X := fun w _ => laidMetH Tryz.prog laidL w) (fun _ _ _ hh h => h.of_heap hh) own started (by kernel_rfl) Tryz.func6
    (ChangeSpec.witness_at (enc := enc) (C := Tryz.checked) (os := os) (X := fun w _ => laidMetH Tryz.prog laidL w) false (laidWorld os) #[.agg #[.int .i64 0, .slice none 0 0, .slice none 0 0]] 8 rfl (by kernel_rfl) (by kernel_rfl) (by kernel_rfl) (by kernel_rfl) (by kernel_rfl) (laidWorld_met os _)) ?_
  intro W base args ds gs before hval0 hW _ hsz hL _
  have hval : ∀ (j : Nat) t v, Tryz.f6.params[j]? = some t → args[j]? = some v → Value.okWide Tryz.prog W .any base t v := hval0
  have hW' := hW
  obtain ⟨p, q, hA0, hV0, rfl, hfz, hnd⟩ := hW
  have hA : DataW.TrodAll enc Tryz.prog W 0 (fun _ => true) true Tryz.f6.params.toList args.toList ds p := hA0
  have hV : DataW.TrodVars enc Tryz.prog W (fun _ => true) [] gs q := hV0
  rw [Tryz.params6] at hA hval
  obtain ⟨v0, vs0, d0, ds0, p0, q0, hargs, rfl, rfl, h0, r0⟩ := trodAll_cons hA
  obtain ⟨rfl, rfl, rfl⟩ := trodAll_nil r0
  obtain rfl : args = #[v0] := by cases args; simp_all
  have hg := handle_of_laid hL
  obtain ⟨rfl, rfl⟩ : gs = [] ∧ q = [] := by
    cases gs with
    | nil => exact ⟨rfl, hV⟩
    | cons g r => exact absurd hV (by intro h; cases h)
  have k0 := h0
  have lt0 : ∀ x ∈ p0, x.block < W.heap.size := by obtain ⟨m, hm⟩ := k0; exact DataW.trod_lt m _ _ _ hm
  obtain ⟨c0, c1, c2, y0, y1, y2, n, rfl, rfl, t0, t1, t2⟩ := open_agg3 (P := Tryz.prog) (t := 65) Tryz.underlying65 (by kernel_rfl) (by kernel_rfl) (hval 0 65 v0 rfl rfl) h0
  obtain ⟨kd, hc0, _⟩ := DataW.trod_int Tryz.underlying3 t0
  obtain ⟨ak, lk, ck, zk, rfl, _⟩ := row_of Tryz.underlying23 Tryz.underlying5 (by kernel_rfl) t1
  obtain ⟨av, lv, cv, zv, rfl, _⟩ := row_of Tryz.underlying23 Tryz.underlying5 (by kernel_rfl) t2
  simp only [List.cons.injEq, and_true] at hc0
  subst hc0
  clear hA0 hval0
  refine (walk kd ak lk ck av lv cv W hg (iv_of hL)).mono fun e W' ⟨he, bel⟩ => ?_
  subst he
  exact ⟨_, rfl, _, _, _, [], _, [], hW', trodAll_mk1 (shut_bool Tryz.underlying4 _), (trodAll_cons_mk (Below.trod laidOut (by kernel_rfl) (of_decide_eq_true (by kernel_rfl)) k0 bel lt0) trodAll_mk0), rfl, bel.frame _, fun h => by cases h⟩

theorem over : Rows.TreeNilSaid :=
  OpenClaim.holds_of_wide 6 Tryz.f6 rfl rfl rfl rfl rfl rfl rfl ⟨rfl, rfl, rfl, rfl, rfl⟩ rfl rfl rfl rfl rfl (by kernel_rfl) Tryz.func6 (by kernel_rfl)
    (of_decide_eq_true (by kernel_rfl)) (by unfold Func.isWrapper; rw [if_neg (of_decide_eq_false (by kernel_rfl))]; exact ⟨rfl, rfl⟩)
    (fun os started H enc _ => lifted os started H enc)

/-- ████ THE STATEMENT ████ -/
theorem proved : Rows.TreeNilCardSaid :=
  Claim7.holds_tied_plain_at .later [] [.data, .data, .data, .handle] true _ true
    over (fun _ h => by cases h) (by kernel_rfl) (fun _ h => by cases h) treeNil_row_tie rfl ⟨rfl, rfl⟩ (by kernel_rfl) rfl
    (fun f fn hf hfn => by
      obtain rfl : f = 6 := Option.some.inj ((show Tryz.prog.funcNamed "scow/scowlaw11.TreeNil" = some 6 by kernel_rfl).symm.trans hf) |>.symm
      obtain rfl : fn = Tryz.f6 := (Option.some.inj (Tryz.func6.symm.trans hfn)).symm
      exact ⟨by kernel_rfl, fun j t ht => by
        rw [Tryz.params6] at ht
        have h3 : t = 65 := by
          rcases j with _ | j
          · simpa using ht.symm
          · simp at ht
        subst h3
        exact (show Tryz.prog.wantsStandIn 65 = false by kernel_rfl)⟩)
    (by kernel_rfl)
#print axioms proved
end Go.Proofs.YtneaefgmlmeddaaGreatDoor.treeNil
