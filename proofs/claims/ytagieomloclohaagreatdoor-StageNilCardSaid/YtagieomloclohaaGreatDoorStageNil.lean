/- The law StageNil returns true at every input, and what came in reads as it did; its card, tied to the program's text. No condition. -/
import Derived.Test.YtagieomloclohaaGreatDoorCards
import Derived.Test.YtagieomloclohaaGreatDoorTie
import Derived.Test.YtagieomloclohaaGreatDoorSn
import Derived.SevenTiedAt
import Derived.Deep.Slices
import Derived.Deep.Fields
namespace Go.Proofs.YtagieomloclohaaGreatDoor.stageNil
open Go.ChangeShapes Go.WideShapes Go.ChangeAt Go.RowKit Go.Joins Go.Deep
set_option linter.unusedVariables false
section
variable {H : Type} {enc : TypeId × Value → H} {P : Program} {w : World} {base : Nat} {spare : Nat → Bool} {held : Bool}
theorem open_slice_fields {t e : TypeId} {fs : Array Field} {fuel : Nat} {cs : List Value} {x : DataW H × List MemPlace} (ht : P.underlying t = some (.slice e)) (he : P.underlying e = some (.struct fs))
    (hone : oneCellFields P fs = true) (hC : P.cellsOf e = fs.size) (h : DataW.trod enc P w base spare held fuel t cs = some x) :
    (cs = [.slice none 0 0] ∧ x = (.nil, [])) ∨
    ∃ (a : Addr) (len cap m : Nat) (D : Nat → DataW H) (Pl : Nat → List MemPlace), cs = [.slice (some a) len cap] ∧ base ≤ a.block ∧ len ≤ cap ∧ cap ≤ maxLen ∧ m = (if spare a.block then cap else len) ∧
      x = (.slice ((List.range len).map D) ((List.range (m - len)).map fun j => D (len + j)), MemPlace.row a (m * fs.size) ++ (List.range m).flatMap Pl) ∧
      ∀ i, i < m → ∃ (ys : List (DataW H × List MemPlace)) (n : Nat), D i = .agg (ys.map (·.1)) ∧ Pl i = ys.flatMap (·.2) ∧ ys.length = fs.size ∧
        ∀ (j : Nat) (f : Field), fs[j]? = some f → ∃ (v : Value) (y : DataW H × List MemPlace), w.cell? (a.add (i * fs.size + j)) = some v ∧ ys[j]? = some y ∧ DataW.trod enc P w base spare held n f.type [v] = some y := by
  rcases open_slice ht h with h0 | ⟨a, len, cap, m, n, D, Pl, hcs, hb, hl, hm, hmm, hx, hi⟩
  · exact .inl h0
  · refine .inr ⟨a, len, cap, m, D, Pl, hcs, hb, hl, hm, hmm, by rw [hC] at hx; exact hx, fun i him => ?_⟩
    obtain ⟨cs', hc, ht'⟩ := hi i him
    rw [hC] at hc
    obtain ⟨ys, n', hn', hy, hlen, hyl, hf⟩ := DataW.trod_struct he ht'
    obtain ⟨_, hcl, hat⟩ := World.cells?_some hc
    simp only [Prod.mk.injEq] at hy
    refine ⟨ys, n', hy.1, hy.2, hyl, fun j f hj => ?_⟩
    obtain ⟨ho, hk⟩ := hone_of hone j f hj
    have hjl : j < fs.size := (Array.getElem?_eq_some_iff.1 hj).1
    have hcell := hat j hjl
    have hv : cs'[j]? = some (cs'[j]'(by omega)) := List.getElem?_eq_getElem (by omega)
    have h1 := hf j f hj
    rw [ho, hk] at h1
    have hone' : (cs'.drop j).take 1 = [cs'[j]'(by omega)] := by
      rw [List.drop_eq_getElem_cons (by omega)]
      rfl
    rw [hone'] at h1
    have hys : ys[j]? = some (ys[j]'(by omega)) := List.getElem?_eq_getElem (by omega)
    refine ⟨_, _, ?_, hys, h1.trans hys⟩
    rw [← Go.Deep.add_add, hcell, hv]
/-- A struct of three one-cell fields, by value. -/
theorem open_agg3 {r : Reach} {b0 : Nat} {t : TypeId} {f0 f1 f2 : Field} {v : Value} {d : DataW H} {p : List MemPlace} (hs : P.underlying t = some (.struct #[f0, f1, f2])) (hone : oneCellFields P #[f0, f1, f2] = true) (hC : P.cellsOf t = 3)
    (hv : Value.okWide P w r b0 t v) (h : DataW.Trod enc P w base spare held t v d p) :
    ∃ (v0 v1 v2 : Value) (y0 y1 y2 : DataW H × List MemPlace) (n : Nat), v = .agg #[v0, v1, v2] ∧
      DataW.trod enc P w base spare held n f0.type [v0] = some y0 ∧ DataW.trod enc P w base spare held n f1.type [v1] = some y1 ∧ DataW.trod enc P w base spare held n f2.type [v2] = some y2 := by
  obtain ⟨cs, rfl, hsz⟩ := okWide_struct hs hv
  obtain ⟨l⟩ := cs
  match l, hsz.trans hC with
  | [c0, c1, c2], _ =>
    obtain ⟨fuel, hf⟩ := h
    obtain ⟨xs, n, _, hx, _, hlen, hg⟩ := DataW.trod_struct hs hf
    obtain ⟨o0, k0⟩ := hone_of hone 0 f0 rfl
    obtain ⟨o1, k1⟩ := hone_of hone 1 f1 rfl
    obtain ⟨o2, k2⟩ := hone_of hone 2 f2 rfl
    match xs, hlen with
    | [y0, y1, y2], _ =>
      exact ⟨c0, c1, c2, y0, y1, y2, n, rfl, by simpa [Value.cells, o0, k0] using hg 0 f0 rfl, by simpa [Value.cells, o1, k1] using hg 1 f1 rfl, by simpa [Value.cells, o2, k2] using hg 2 f2 rfl⟩
theorem add_off (a : Addr) (i j : Nat) (hj : 0 < j) : a.add (i + j) = ⟨(a.add i).block, (a.add i).off + j, none⟩ := by
  unfold Addr.add
  by_cases hi : i = 0
  · subst hi; rw [if_neg (by omega), if_pos rfl, Nat.zero_add]
  · rw [if_neg (by omega), if_neg hi]; simp [Nat.add_assoc]
theorem add_block (a : Addr) (n : Nat) : (a.add n).block = a.block := by unfold Addr.add; split <;> rfl
/-- A slice that came in. -/
theorem slice_in {t e : TypeId} {fuel : Nat} {v : Value} {x : DataW H × List MemPlace} (ht : P.underlying t = some (.slice e)) (h : DataW.trod enc P w base spare held fuel t [v] = some x) : ∃ A n c, v = .slice A n c ∧ n ≤ maxLen := by
  rcases open_slice ht h with ⟨h0, _⟩ | ⟨a, len, cap, m, n, D, Pl, hcs, hb, hl, hm, _⟩
  · simp at h0; exact ⟨none, 0, 0, h0, by simp [maxLen]⟩
  · simp at hcs; exact ⟨some a, len, cap, hcs, by omega⟩
end
open Ev
def lenV : Option Value → Nat
  | some (.slice _ n _) => n
  | _ => 0
theorem cell_same {w w' : World} {b : Nat} {cs : Array Value} {t t' : TypeId} {fz fz' : Nat × Nat} (h : w.heap[b]? = some (.cells cs t fz)) (h' : w'.heap[b]? = some (.cells cs t' fz')) (p : Addr) (hp : p.block = b) : w'.cell? p = w.cell? p := by
  unfold World.cell?
  rw [hp, h, h']
theorem heap_of_cell {w : World} {p : Addr} {v : Value} (h : w.cell? p = some v) : ∃ cs t fz, w.heap[p.block]? = some (.cells cs t fz) := by
  unfold World.cell? at h
  split at h
  · rename_i c t fz hh; exact ⟨c, t, fz, hh⟩
  · cases h
/-- The entries that came in: their block, and what it holds. -/
theorem ents_of {H : Type} {enc : TypeId × Value → H} {w : World} {base : Nat} {held : Bool} {fuel : Nat} {v : Value} {y : DataW H × List MemPlace} (h : DataW.trod enc Tryz.prog w base (fun _ => true) held fuel 23 [v] = some y)
    (hiv : ∀ g c, ivT g = some c → ∃ t fz, w.heap[g]? = some (.cells c t fz)) :
    ∃ (A : Option Addr) (n c : Nat) (f : Nat → Option (Array Value)) (kl vl : Nat → Nat), v = .slice A n c ∧ n ≤ maxLen ∧ (∀ g c c', ivT g = some c → f g = some c' → c = c') ∧ EntsF f A n kl vl ∧ ∀ g cs, f g = some cs → g < w.heap.size ∧ ∃ t fz, w.heap[g]? = some (.cells cs t fz) := by
  rcases open_slice_fields Tryz.underlying23 Tryz.underlying47 (by kernel_rfl) (by kernel_rfl) h with ⟨hcs, _⟩ | ⟨a, len, cap, m, D, Pl, hcs, _, hl, hm, hmm, _, hf⟩
  · simp at hcs
    exact ⟨none, 0, 0, fun _ => none, fun _ => 0, fun _ => 0, hcs, by simp [maxLen], fun g c c' _ h => (by cases h), fun w _ k hk => absurd hk (by omega), fun g cs h => (by cases h)⟩
  · simp at hcs hmm
    subst hmm
    have key : ∀ i, i < len → ∃ A1 n1 c1 A2 n2 c2, w.cell? (a.add (i * 2)) = some (.slice A1 n1 c1) ∧ w.cell? ⟨(a.add (i * 2)).block, (a.add (i * 2)).off + 1, none⟩ = some (.slice A2 n2 c2) ∧ n1 ≤ maxLen ∧ n2 ≤ maxLen := fun i hi => by
      obtain ⟨ys, n, _, _, _, hy⟩ := hf i (by omega)
      obtain ⟨v0, y0, e0, _, t0⟩ := hy 0 _ rfl
      obtain ⟨v1, y1, e1, _, t1⟩ := hy 1 _ rfl
      obtain ⟨A1, n1, c1, rfl, h1⟩ := slice_in Tryz.underlying22 t0
      obtain ⟨A2, n2, c2, rfl, h2⟩ := slice_in Tryz.underlying22 t1
      exact ⟨A1, n1, c1, A2, n2, c2, e0, (add_off a (i * 2) 1 (by omega)) ▸ e1, h1, h2⟩
    by_cases h0 : 0 < len
    · obtain ⟨_, _, _, _, _, _, k1, _, _, _⟩ := key 0 h0
      obtain ⟨cs, t, fz, hb⟩ := heap_of_cell k1
      rw [add_block] at hb
      refine ⟨some a, len, _, fun g => if g = a.block then some cs else none, fun k => lenV (w.cell? (a.add (k * 2))), fun k => lenV (w.cell? ⟨(a.add (k * 2)).block, (a.add (k * 2)).off + 1, none⟩), hcs, by omega, fun g c c' h1 h2 => ?_, fun w' hw' k hk => ?_, fun g cs' h2 => ?_⟩
      · dsimp only at h2
        split at h2
        · rename_i e; subst e; cases h2
          obtain ⟨t', fz', h3⟩ := hiv _ _ h1
          rw [hb] at h3; cases h3; rfl
        · cases h2
      · obtain ⟨A1, n1, c1, A2, n2, c2, e1, e2, b1, b2⟩ := key k hk
        obtain ⟨t', fz', h3⟩ := hw' a.block cs (by simp)
        refine ⟨a, A1, c1, A2, c2, rfl, ?_, ?_, ?_, ?_⟩
        · rw [cell_same hb h3 _ (add_block _ _)]; dsimp only; rw [e1]; rfl
        · rw [cell_same hb h3 ⟨(a.add (k * 2)).block, (a.add (k * 2)).off + 1, none⟩ (add_block a (k * 2))]; dsimp only; rw [e2]; rfl
        · dsimp only; rw [e1]; simp only [lenV, maxLen] at b1 ⊢; omega
        · dsimp only; rw [e2]; simp only [lenV, maxLen] at b2 ⊢; omega
      · dsimp only at h2
        split at h2
        · rename_i e; subst e; cases h2
          exact ⟨(Array.getElem?_eq_some_iff.1 hb).1, _, _, hb⟩
        · cases h2
    · exact ⟨some a, len, _, fun _ => none, fun _ => 0, fun _ => 0, hcs, by omega, fun g c c' _ h => (by cases h), fun w _ k hk => absurd hk (by omega), fun g cs h => (by cases h)⟩

/-- What came in, one behind the other; then the types' handles. -/
def om (v0 v1 v2 : Value) : Nat → Value
  | 0 => v0
  | 1 => v1
  | 2 => v2
  | k => .pointer (some ⟨2, k - hBase, none⟩)
theorem hands {v0 v1 v2 : Value} : Hands (om v0 v1 v2) := fun t => by
  have : hBase + t = (hBase + t - 3) + 3 := by unfold hBase; omega
  rw [this]
  show Value.pointer (some ⟨2, hBase + t - 3 + 3 - hBase, none⟩) = _
  rw [show hBase + t - 3 + 3 - hBase = t by unfold hBase; omega]
/-! ### THE WALK: by runs of the interpreter. -/
theorem walk {al ah ek : Option Addr} {ll cl lh ch le ce : Nat} {kl vl : Nat → Nat} (f : Nat → Option (Array Value)) (hfv : ∀ g c c', ivT g = some c → f g = some c' → c = c') (hll : ll ≤ maxLen) (hlh : lh ≤ maxLen) (hle : le ≤ maxLen) (hE : EntsF f ek le kl vl) (w : World)
    (hg : w.cell? ⟨0, 0, none⟩ = some (.iface 125 (.agg #[.pointer (some ⟨2, 34, none⟩)]))) (hiv : ∀ g cs, ivT g = some cs → g < w.heap.size ∧ ∃ t fz, w.heap[g]? = some (.cells cs t fz)) (hf : ∀ g cs, f g = some cs → g < w.heap.size ∧ ∃ t fz, w.heap[g]? = some (.cells cs t fz)) :
    Calls Tryz.prog 3 #[.agg #[.slice al ll cl, .slice ah lh ch, .slice ek le ce]] w fun e w' => e = .returned (.bool true) ∧ Below w.heap.size w w' := by
  obtain ⟨s', hs'⟩ := isTr_some (Sn.run f (smallE ll lh le kl vl))
  refine run_args (C := CXf f (Sn.extL (smallE ll lh le kl vl)) [] [] noCnv noRd) (ω := om (.slice al ll cl) (.slice ah lh ch) (.slice ek le ce)) (cxfOK hands f (Sn.ext_ok hands f hfv rfl rfl rfl (by simp only [maxLen] at hle; omega) rfl hE) (fun f hf => by cases hf) (fun f hf => by cases hf) noCnv_ok noRd) hs' ?_ rfl rfl w (glob_of hands hg) (fun k h => by cases h) (fun g cs h => ?_)
  · exact LRel.cons (LRel.agg (l := [.chan (some 0), .chan (some 1), .chan (some 2)]) (l' := [_, _, _]) (LRel.cons (.tok 0 rfl) (LRel.cons (.tok 1 rfl) (LRel.cons (.tok 2 rfl) (LRel.nil _))))) (LRel.nil _)
  · have h' : ivF f g = some cs := h
    unfold ivF at h'
    cases e : ivT g with
    | none => rw [e] at h'; exact hf g cs h'
    | some z => rw [e] at h'; cases h'; exact hiv g _ e

/-! ### THE ROW's STEP -/
set_option maxRecDepth 100000 in
theorem lifted (os : Os) (started : os.Started) (H : Type) (enc : TypeId × Value → H) :
    ReturnsInHanded {} Tryz.checked os 3 .any (fun w args => (Rows.stageNilSpec.pre enc Tryz.prog Tryz.f3 [] false w args ∧ laidMetH Tryz.prog laidL w) ∧ sizedMet enc Tryz.prog Tryz.f3 (OpenSpec.ofChange Rows.stageNilSpec) false w args)
      (Rows.stageNilSpec.post enc Tryz.prog Tryz.f3 false true false false) := by
  refine returnsInHanded_of_change_and (C := Tryz.checked) (X := fun w _ => laidMetH Tryz.prog laidL w) (fun _ _ _ hh h => h.of_heap hh) own started (by kernel_rfl) Tryz.func3
    (ChangeSpec.witness_at (enc := enc) (C := Tryz.checked) (os := os) (X := fun w _ => laidMetH Tryz.prog laidL w) false (laidWorld os) #[.agg #[.slice none 0 0, .slice none 0 0, .slice none 0 0]] 8 rfl (by kernel_rfl) (by kernel_rfl) (by kernel_rfl) (by kernel_rfl) (by kernel_rfl) (laidWorld_met os _)) ?_
  intro W base args ds gs before hval0 hW _ hsz hL _
  have hval : ∀ (j : Nat) t v, Tryz.f3.params[j]? = some t → args[j]? = some v → Value.okWide Tryz.prog W .any base t v := hval0
  have hW' := hW
  obtain ⟨p, q, hA0, hV0, rfl, hfz, hnd⟩ := hW
  have hA : DataW.TrodAll enc Tryz.prog W 0 (fun _ => true) true Tryz.f3.params.toList args.toList ds p := hA0
  have hV : DataW.TrodVars enc Tryz.prog W (fun _ => true) [] gs q := hV0
  rw [Tryz.params3] at hA hval
  obtain ⟨v0, vs0, d0, ds0, p0, q0, hargs, rfl, rfl, h0, r0⟩ := trodAll_cons hA
  obtain ⟨rfl, rfl, rfl⟩ := trodAll_nil r0
  obtain rfl : args = #[v0] := by cases args; simp_all
  have hg := handle_of_laid hL
  obtain ⟨rfl, rfl⟩ : gs = [] ∧ q = [] := by
    cases gs with
    | nil => exact ⟨rfl, hV⟩
    | cons g r => exact absurd hV (by intro h; cases h)
  have lt0 : ∀ x ∈ p0, x.block < W.heap.size := by obtain ⟨m, hm⟩ := h0; exact DataW.trod_lt m _ _ _ hm
  have k0 := h0
  obtain ⟨a0, a1, a2, y0, y1, y2, n, rfl, t0, t1, t2⟩ := open_agg3 Tryz.underlying25 (by kernel_rfl) (by kernel_rfl) (hval 0 25 v0 rfl rfl) h0
  obtain ⟨al, ll, cl, rfl, hll⟩ := slice_in Tryz.underlying22 t0
  obtain ⟨ah, lh, ch, rfl, hlh⟩ := slice_in Tryz.underlying22 t1
  obtain ⟨ek, le, ce, f, kl, vl, rfl, hle, hfv, hE, hf⟩ := ents_of t2 (fun g c h => by cases h)
  clear hA0 hval0
  refine (walk f hfv hll hlh hle hE W hg (fun g cs h => by cases h) hf).mono fun e W' ⟨he, bel⟩ => ?_
  subst he
  exact ⟨_, rfl, _, _, _, [], _, [], hW', trodAll_mk1 (shut_bool Tryz.underlying4 _), (trodAll_cons_mk (Below.trod laidOut (by kernel_rfl) (of_decide_eq_true (by kernel_rfl)) k0 bel lt0) trodAll_mk0), rfl, bel.frame _, fun h => by cases h⟩

theorem over : Rows.StageNilSaid :=
  OpenClaim.holds_of_wide 3 Tryz.f3 rfl rfl rfl rfl rfl rfl rfl ⟨rfl, rfl, rfl, rfl, rfl⟩ rfl rfl rfl rfl rfl (by kernel_rfl) Tryz.func3 (by kernel_rfl)
    (of_decide_eq_true (by kernel_rfl)) (by unfold Func.isWrapper; rw [if_neg (of_decide_eq_false (by kernel_rfl))]; exact ⟨rfl, rfl⟩)
    (fun os started H enc _ => lifted os started H enc)

/-- ████ THE STATEMENT ████ -/
theorem proved : Rows.StageNilCardSaid :=
  Claim7.holds_tied_plain_at .later [] [.handle] true _ true
    over (fun _ h => by cases h) (by kernel_rfl) (fun _ h => by cases h) stageNil_row_tie rfl ⟨rfl, rfl⟩ (by kernel_rfl) rfl
    (fun f fn hf hfn => by
      obtain rfl : f = 3 := Option.some.inj ((show Tryz.prog.funcNamed "scow/scowlaw27.StageNil" = some 3 by kernel_rfl).symm.trans hf) |>.symm
      obtain rfl : fn = Tryz.f3 := (Option.some.inj (Tryz.func3.symm.trans hfn)).symm
      exact ⟨by kernel_rfl, fun j t ht => by
        rw [Tryz.params3] at ht
        have h3 : t = 25 := by
          rcases j with _ | j
          · simpa using ht.symm
          · simp at ht
        subst h3
        exact (show Tryz.prog.wantsStandIn 25 = false by kernel_rfl)⟩)
    (by kernel_rfl)
#print axioms proved
end Go.Proofs.YtagieomloclohaaGreatDoor.stageNil
