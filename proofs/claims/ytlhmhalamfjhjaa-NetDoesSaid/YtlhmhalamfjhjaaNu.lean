/- The document's net, walked: Spoil. -/
import Derived.Test.YtlhmhalamfjhjaaNt
set_option linter.unusedVariables false
namespace Go.Proofs.Ytlhmhalamfjhjaa
open Go.RowKit
theorem cellsL_cons (x : PkA) (l : List PkA) : cellsL (x :: l) = x.cells ++ cellsL l := by simp [cellsL]
theorem cellsL_set : ∀ {l : List PkA} {j : Nat} {y y' : PkA}, l[j]? = some y → y'.p.id = y.p.id → y'.p.to = y.p.to →
    cellsL (l.set j y') = ((cellsL l).set (j * 4 + 2) (.slice y'.A y'.p.b.length y'.c)).set (j * 4 + 3) (.bool y'.p.sp)
  | [], j, y, y', h, _, _ => by simp at h
  | x :: l, 0, y, y', h, h1, h2 => by
    simp at h
    subst h
    rw [List.set_cons_zero, cellsL_cons, cellsL_cons]
    simp [PkA.cells, h1, h2]
  | x :: l, j + 1, y, y', h, h1, h2 => by
    have h4 : x.cells.length = 4 := rfl
    rw [List.set_cons_succ, cellsL_cons, cellsL_cons, cellsL_set (l := l) (j := j) (y := y) (by simpa using h) h1 h2, List.set_append_right _ _ (by rw [h4]; omega), List.set_append_right _ _ (by rw [h4]; omega), h4,
      show (j + 1) * 4 + 2 - 4 = j * 4 + 2 by omega, show (j + 1) * 4 + 3 - 4 = j * 4 + 3 by omega]
theorem ref_spoil {B : Nat} {w w1 : World} {mb g g2 c cc k j : Nat} {nx u by_ : Int} {l : List PkA} {y : PkA} {cur cur2 : Array Value} (h : RefAt B w mb nx l) (hb : Blk w mb 54 #[.slice (some ⟨g, 0, none⟩) l.length c, .int .i64 nx]) (hown : w.ownsRow B 75 4 (.slice (some ⟨g, 0, none⟩) l.length c) l.length (cellsL l)) (hg : Blk w g 75 cur) (hgB : B ≤ g)
    (hB1 : Below w.heap.size w w1) (q2 : Blk w1 g2 5 cur2) (hg2 : w.heap.size ≤ g2) (hcur2 : ∀ (j : Nat) (u : Int), y.p.b[j]? = some u → cur2[j]? = some (.int .u8 u)) (hcl : y.p.b.length ≤ cc) (hcm : cc ≤ 9223372036854775807) (hj : l[j]? = some y) (hk : k < y.p.b.length) :
    RefAt B (((w1.setCell ⟨g2, k, none⟩ (.int .u8 (bits BinOp.xor IntKind.u8 u by_))).setCell ⟨g, j * 4 + 2, none⟩ (.slice (some ⟨g2, 0, none⟩) y.p.b.length cc)).setCell ⟨g, j * 4 + 3, none⟩ (.bool true)) mb nx (l.set j (y.spoil k u by_ (some ⟨g2, 0, none⟩) cc)) ∧
      Fr (RefX B mb w) w (((w1.setCell ⟨g2, k, none⟩ (.int .u8 (bits BinOp.xor IntKind.u8 u by_))).setCell ⟨g, j * 4 + 2, none⟩ (.slice (some ⟨g2, 0, none⟩) y.p.b.length cc)).setCell ⟨g, j * 4 + 3, none⟩ (.bool true)) := by
  have hglt := hg.lt
  have hmb := hb.lt
  have hne1 : g2 ≠ g := by omega
  have hne2 : g2 ≠ mb := by omega
  have hne3 : g ≠ mb := fun e => by subst e; unfold Blk at hg hb; rw [hg] at hb; cases hb
  have p1 : Blk w1 g 75 cur := (hB1.block g hglt).trans hg
  have bm1 : Blk w1 mb 54 _ := (hB1.block mb hmb).trans hb
  have bm3 := ((bm1.far (p := ⟨g2, k, none⟩) (Ne.symm hne2) (.int .u8 (bits BinOp.xor IntKind.u8 u by_))).far (p := ⟨g, j * 4 + 2, none⟩) (Ne.symm hne3) (.slice (some ⟨g2, 0, none⟩) y.p.b.length cc)).far (p := ⟨g, j * 4 + 3, none⟩) (Ne.symm hne3) (.bool true)
  have q3 := ((q2.set_ k (.int .u8 (bits BinOp.xor IntKind.u8 u by_))).far (p := ⟨g, j * 4 + 2, none⟩) hne1 (.slice (some ⟨g2, 0, none⟩) y.p.b.length cc)).far (p := ⟨g, j * 4 + 3, none⟩) hne1 (.bool true)
  have p3 := ((p1.far (p := ⟨g2, k, none⟩) (Ne.symm hne1) (.int .u8 (bits BinOp.xor IntKind.u8 u by_))).set_ (j * 4 + 2) (.slice (some ⟨g2, 0, none⟩) y.p.b.length cc)).set_ (j * 4 + 3) (.bool true)
  have hf : Fr (RefX B mb w) w (((w1.setCell ⟨g2, k, none⟩ (.int .u8 (bits BinOp.xor IntKind.u8 u by_))).setCell ⟨g, j * 4 + 2, none⟩ (.slice (some ⟨g2, 0, none⟩) y.p.b.length cc)).setCell ⟨g, j * 4 + 3, none⟩ (.bool true)) :=
    (((Fr.of_below hB1).setCell (p := ⟨g2, k, none⟩) (.inl hg2) _).setCell (p := ⟨g, j * 4 + 2, none⟩) (.inr (.inr ⟨hgB, cur, _, hg⟩)) _).setCell (p := ⟨g, j * 4 + 3, none⟩) (.inr (.inr ⟨hgB, cur, _, hg⟩)) _
  have hlk8 : Keep8 w (((w1.setCell ⟨g2, k, none⟩ (.int .u8 (bits BinOp.xor IntKind.u8 u by_))).setCell ⟨g, j * 4 + 2, none⟩ (.slice (some ⟨g2, 0, none⟩) y.p.b.length cc)).setCell ⟨g, j * 4 + 3, none⟩ (.bool true)) :=
    Keep8.of_fr hf (fun k' cs fz hx e => by
      rcases hx with rfl | ⟨_, cs', fz', e'⟩
      · unfold Blk at hb; rw [hb] at e; cases e
      · rw [e] at e'; cases e')
  refine ⟨⟨⟨some ⟨g, 0, none⟩, c, by rw [List.length_set]; exact bm3, ?_⟩, h.base, fun x hx => ?_⟩, hf⟩
  · rw [List.length_set, cellsL_set (y' := y.spoil k u by_ (some ⟨g2, 0, none⟩) cc) hj rfl rfl]
    rcases hown.2 with ⟨e, _⟩ | ⟨g', cap, cur', e, h1, h2, h3, h4, h5, h6⟩
    · cases e
    · simp only [Value.slice.injEq, Option.some.injEq, Addr.mk.injEq] at e
      obtain ⟨⟨rfl, _, _⟩, _, rfl⟩ := e
      unfold Blk at hg
      rw [hg] at h2
      cases h2
      refine ⟨by simp [cellsL_len], .inr ⟨g, c, _, rfl, hgB, p3, h3, h4, by simpa using h5, ?_⟩⟩
      simp only [Array.toList_setIfInBounds, List.take_set, h6]
      simp [PkA.spoil]
  · rcases List.mem_or_eq_of_mem_set hx with h1 | h1
    · exact (h.rows x h1).keep hlk8
    · subst h1
      refine ⟨by simpa [PkA.spoil] using hcl, hcm, fun x hx => ?_, fun _ => ⟨g2, 0, _, _, rfl, q3, fun i v hv => ?_⟩⟩
      · rcases List.mem_or_eq_of_mem_set hx with h1 | h1
        · exact (h.rows y (List.mem_of_getElem? hj)).2.2.1 x h1
        · subst h1; exact xr_lt _ _
      · rw [Nat.zero_add]
        simp only [PkA.spoil, List.getElem?_set] at hv
        by_cases hki : k = i
        · subst hki
          rw [if_pos rfl, if_pos hk] at hv
          cases hv
          have := (Array.getElem?_eq_some_iff.1 (hcur2 k _ (List.getElem?_eq_getElem hk))).1
          simp [this, xr]
        · rw [if_neg hki] at hv
          rw [Array.getElem?_setIfInBounds_ne hki]
          exact hcur2 i v hv
section
variable {B : Nat} {w : World} {mb : Nat} {nx : Int} {l : List PkA}
set_option maxHeartbeats 1000000 in
set_option maxRecDepth 100000 in
theorem RSpoil_none (h : RefAt B w mb nx l) (hl : l.length ≤ 1000000) {id : Int} (hlk : look id l 0 = none) (at_ by_ : Int) :
    Calls Try.prog 24 #[.pointer (some ⟨mb, 0, none⟩), .int .i64 id, .int .i64 at_, .int .u8 by_] w fun e w' => e = .returned (.int .i64 7) ∧ w = w' := by
  go_enter Try.func24, Try.ntmps24
  go_wp2_with (go_at_call 31; refine (at_none h hl hlk).mono ?_; rintro e w1 ⟨rfl, rfl⟩)
  go_ret
  exact ⟨rfl, rfl⟩
set_option maxHeartbeats 2000000 in
set_option maxRecDepth 100000 in
theorem RSpoil_twice (h : RefAt B w mb nx l) (hl : l.length ≤ 1000000) {id : Int} {j : Nat} {y : PkA} (hlk : look id l 0 = some (j, y)) (hs : y.p.sp = true) (at_ by_ : Int) :
    Calls Try.prog 24 #[.pointer (some ⟨mb, 0, none⟩), .int .i64 id, .int .i64 at_, .int .u8 by_] w fun e w' => e = .returned (.int .i64 290) ∧ w = w' := by
  obtain ⟨A, c, hb, hown⟩ := h.blk
  have c0 : w.cell? ⟨mb, 0, none⟩ = some (.slice A l.length c) := hb.cell 0
  have hat := at_some h hl hlk
  obtain ⟨_, hj, hid⟩ := look_spec _ _ _ _ _ hlk
  simp only [Nat.sub_zero] at hj
  have hjl := (List.getElem?_eq_some_iff.1 hj).1
  obtain ⟨g, cur, rfl, hgB, hg, hcur⟩ := own4_form hown (by omega)
  obtain ⟨e0, e1, e2, e3⟩ := pk_cells (B := B) (c := c) hg hcur hj
  rw [hs] at e3
  have d0 : decide ((j : Int) < 0) = false := by simp
  have i0 : (0 : Int) ≤ (j : Int) := by omega
  have i1 : (j : Int) < (l.length : Int) := by omega
  clear hid hj hs hlk
  go_enter Try.func24, Try.ntmps24
  go_wp2_with (go_at_call 31; refine hat.mono ?_; rintro e w1 ⟨rfl, rfl⟩)
  go_ret
  exact ⟨rfl, rfl⟩
set_option maxHeartbeats 4000000 in
set_option maxRecDepth 100000 in
theorem RSpoil_arg (h : RefAt B w mb nx l) (hl : l.length ≤ 1000000) {id : Int} {j : Nat} {y : PkA} (hlk : look id l 0 = some (j, y)) (hs : y.p.sp = false) (at_ by_ : Int) (hy : y.p.b.length ≤ 1000000) (ha : at_ < 0 ∨ (y.p.b.length : Int) ≤ at_ ∨ by_ = 0) :
    Calls Try.prog 24 #[.pointer (some ⟨mb, 0, none⟩), .int .i64 id, .int .i64 at_, .int .u8 by_] w fun e w' => e = .returned (.int .i64 2) ∧ w = w' := by
  obtain ⟨A, c, hb, hown⟩ := h.blk
  have c0 : w.cell? ⟨mb, 0, none⟩ = some (.slice A l.length c) := hb.cell 0
  have hat := at_some h hl hlk
  obtain ⟨_, hj, hid⟩ := look_spec _ _ _ _ _ hlk
  simp only [Nat.sub_zero] at hj
  have hjl := (List.getElem?_eq_some_iff.1 hj).1
  obtain ⟨g, cur, rfl, hgB, hg, hcur⟩ := own4_form hown (by omega)
  obtain ⟨e0, e1, e2, e3⟩ := pk_cells (B := B) (c := c) hg hcur hj
  rw [hs] at e3
  have d0 : decide ((j : Int) < 0) = false := by simp
  have i0 : (0 : Int) ≤ (j : Int) := by omega
  have i1 : (j : Int) < (l.length : Int) := by omega
  clear hid hj hs hlk
  by_cases h1 : at_ < 0
  · have d1 : decide (at_ < 0) = true := by simpa using h1
    go_enter Try.func24, Try.ntmps24
    go_wp2_with (go_at_call 31; refine hat.mono ?_; rintro e w1 ⟨rfl, rfl⟩)
    go_ret
    exact ⟨rfl, rfl⟩
  · have d1 : decide (at_ < 0) = false := by simpa using h1
    by_cases h2 : (y.p.b.length : Int) ≤ at_
    · have d2 : decide ((y.p.b.length : Int) ≤ at_) = true := by simpa using h2
      go_enter Try.func24, Try.ntmps24
      go_wp2_with (go_at_call 31; refine hat.mono ?_; rintro e w1 ⟨rfl, rfl⟩)
      go_ret
      exact ⟨rfl, rfl⟩
    · have d2 : decide ((y.p.b.length : Int) ≤ at_) = false := by simpa using h2
      have d3 : (by_ == 0) = true := by simp; omega
      go_enter Try.func24, Try.ntmps24
      go_wp2_with (go_at_call 31; refine hat.mono ?_; rintro e w1 ⟨rfl, rfl⟩)
      go_ret
      exact ⟨rfl, rfl⟩
set_option maxHeartbeats 4000000 in
set_option maxRecDepth 100000 in
theorem RSpoil_ok (h : RefAt B w mb nx l) (hBw : B ≤ w.heap.size) (hl : l.length ≤ 1000000) {id : Int} {j : Nat} {y : PkA} (hlk : look id l 0 = some (j, y)) (hs : y.p.sp = false) (k : Nat) (by_ : Int) (hk : k < y.p.b.length) (hy : y.p.b.length ≤ 1000000) (hb1 : 0 < by_) (hb2 : by_ < 256) {u : Int} (hu : y.p.b[k]? = some u) (hu0 : 0 ≤ u) (hu1 : u < 256) :
    Calls Try.prog 24 #[.pointer (some ⟨mb, 0, none⟩), .int .i64 id, .int .i64 (k : Int), .int .u8 by_] w fun e w' => e = .returned (.int .i64 0) ∧ (∃ A' c', RefAt B w' mb nx (l.set j (y.spoil k u by_ A' c'))) ∧ Fr (RefX B mb w) w w' := by
  obtain ⟨A, c, hb, hown⟩ := h.blk
  obtain ⟨i5, hi5, hz5, hz5', hz5''⟩ := info_parts Try.info5
  have c0 : w.cell? ⟨mb, 0, none⟩ = some (.slice A l.length c) := hb.cell 0
  have hat := at_some h hl hlk
  obtain ⟨_, hj, hid⟩ := look_spec _ _ _ _ _ hlk
  simp only [Nat.sub_zero] at hj
  have hjl := (List.getElem?_eq_some_iff.1 hj).1
  have hyl : y ∈ l := List.mem_of_getElem? hj
  obtain ⟨g, cur, rfl, hgB, hg, hcur⟩ := own4_form hown (by omega)
  obtain ⟨e0, e1, e2, e3⟩ := pk_cells (B := B) (c := c) hg hcur hj
  rw [hs] at e3
  have hyr := (h.rows y hyl).rowI
  have hmb := hb.lt
  have hglt := hg.lt
  have d0 : decide ((j : Int) < 0) = false := by simp
  have i0 : (0 : Int) ≤ (j : Int) := by omega
  have i1 : (j : Int) < (l.length : Int) := by omega
  have d2 : decide (y.p.b.length ≤ k) = false := by simp; omega
  have d5 : decide (k < y.p.b.length) = true := by simp; omega
  have d3 : (by_ == 0) = false := by simp; omega
  have ho0 := own_empty w _ (Nat.le_refl _)
  have hrd : Reads (w.alloc (.cells #[] 5)) w.heap.size 1 y.A y.p.b.length (y.p.b.map (.int .u8)) := hyr.reads.alloc (Nat.le_refl _) _
  have hne3 : g ≠ mb := fun e => by subst e; unfold Blk at hg hb; rw [hg] at hb; cases hb
  have HJ := Lib.hid hj
  clear hid hj hs hlk
  go_enter Try.func24, Try.ntmps24
  go_wp2_with (first
    | (go_at_call 31; refine hat.mono ?_; rintro e w1 ⟨rfl, rfl⟩)
    | (at_builtin; refine wpList_append_any _ rfl (.tmp 46) (.tmp 54) _ rfl w.heap.size 5 i5 _ 1 1 Try.underlying30 hi5 hz5 hz5' hz5'' rfl (by omega) (.slice (some ⟨w.heap.size, 0, none⟩) 0 0) 0 [] rfl ho0 w.heap.size y.A y.p.b.length y.c (y.p.b.map (.int .u8)) rfl hrd (bytes_one _) (by simp only [maxLen]; omega) (by omega) (by simp) ?_; intro v1 w1 ho1 hg1 hl1; simp only [Nat.zero_add, List.nil_append] at ho1; obtain ⟨A1, cc, rfl⟩ := own_form_any ho1; obtain ⟨g2, cur2, rfl, hg2B, hg2, hcur2, hcl, hcm⟩ := own_form ho1 (by omega); have hB1 : Below w.heap.size w w1 := (((Below.refl _ w).alloc (Nat.le_refl _) _).grown hg1 (by simp) (fun k e => by cases e; exact Nat.le_refl _)); have q2 : Blk w1 g2 5 cur2 := hg2; have hgk := (q2.cell k).trans (hcur2 k u hu); have fgk := q2.frozen k; have p1 : Blk w1 g 75 cur := (hB1.block g hglt).trans hg; have bm1 : Blk w1 mb 54 _ := (hB1.block mb hmb).trans hb; have n0 := bm1.cell 0; have r2 := (hB1.cell (p := ⟨g, j * 4 + 2, none⟩) hglt).trans e2; have r3 := (hB1.cell (p := ⟨g, j * 4 + 3, none⟩) hglt).trans e3; have s2 := p1.frozen (j * 4 + 2); have s3 := p1.frozen (j * 4 + 3); have hne1 : g2 ≠ g := (by omega); have hne2 : g2 ≠ mb := (by omega)))
  go_ret
  obtain ⟨r1, r2⟩ := ref_spoil (u := u) (by_ := by_) h hb hown hg hgB hB1 q2 hg2B hcur2 hcl hcm HJ.out hk
  exact ⟨rfl, ⟨_, _, r1⟩, r2⟩
end
end Go.Proofs.Ytlhmhalamfjhjaa
