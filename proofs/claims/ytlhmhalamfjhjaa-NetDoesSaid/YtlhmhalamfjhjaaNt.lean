/- The document's net, walked: Double. -/
import Derived.Test.YtlhmhalamfjhjaaNs
set_option linter.unusedVariables false
namespace Go.Proofs.Ytlhmhalamfjhjaa
open Go.RowKit
/-- A packet's four cells, in a world. -/
theorem pk_cells {w : World} {B : Nat} {g c : Nat} {l : List PkA} {j : Nat} {y : PkA} {cur : Array Value} (hg : Blk w g 75 cur) (hcur : ∀ (j : Nat) (u : Value), (cellsL l)[j]? = some u → cur[j]? = some u) (hj : l[j]? = some y) :
    w.cell? ⟨g, j * 4, none⟩ = some (.int .i64 y.p.id) ∧ w.cell? ⟨g, j * 4 + 1, none⟩ = some (.int .i64 y.p.to) ∧ w.cell? ⟨g, j * 4 + 2, none⟩ = some (.slice y.A y.p.b.length y.c) ∧ w.cell? ⟨g, j * 4 + 3, none⟩ = some (.bool y.p.sp) := by
  have hcell : ∀ i, i < 4 → w.cell? ⟨g, j * 4 + i, none⟩ = y.cells[i]? := fun i hi => by
    rw [hg.cell]
    have h1 : y.cells[i]? = some (y.cells[i]'(by simpa [PkA.cells] using hi)) := List.getElem?_eq_getElem _
    rw [h1]
    exact hcur _ _ ((cellsL_at hj i hi).trans h1)
  exact ⟨hcell 0 (by omega), hcell 1 (by omega), hcell 2 (by omega), hcell 3 (by omega)⟩
section
variable {B : Nat} {w : World} {mb : Nat} {nx : Int} {l : List PkA}
set_option maxHeartbeats 1000000 in
set_option maxRecDepth 100000 in
theorem RDouble_none (h : RefAt B w mb nx l) (hl : l.length ≤ 1000000) {id : Int} (hlk : look id l 0 = none) :
    Calls Try.prog 23 #[.pointer (some ⟨mb, 0, none⟩), .int .i64 id] w fun e w' => e = .returned (.tuple #[.int .i64 0, .int .i64 7]) ∧ w = w' := by
  go_enter Try.func23, Try.ntmps23
  go_wp2_with (go_at_call 31; refine (at_none h hl hlk).mono ?_; rintro e w1 ⟨rfl, rfl⟩)
  go_ret2
  exact ⟨rfl, rfl⟩
set_option maxHeartbeats 1000000 in
set_option maxRecDepth 100000 in
theorem RDouble_full (h : RefAt B w mb nx l) (hl : l.length ≤ 1000000) {id : Int} {j : Nat} {y : PkA} (hlk : look id l 0 = some (j, y)) (hf : 64 ≤ l.length) :
    Calls Try.prog 23 #[.pointer (some ⟨mb, 0, none⟩), .int .i64 id] w fun e w' => e = .returned (.tuple #[.int .i64 0, .int .i64 42]) ∧ w = w' := by
  obtain ⟨A, c, hb, hown⟩ := h.blk
  have c0 : w.cell? ⟨mb, 0, none⟩ = some (.slice A l.length c) := hb.cell 0
  have d0 : decide ((j : Int) < 0) = false := by simp
  have d5 : decide ((64 : Int) ≤ l.length) = true := by simp; omega
  go_enter Try.func23, Try.ntmps23
  go_wp2_with (go_at_call 31; refine (at_some h hl hlk).mono ?_; rintro e w1 ⟨rfl, rfl⟩)
  go_ret2
  exact ⟨rfl, rfl⟩
set_option maxHeartbeats 4000000 in
set_option maxRecDepth 100000 in
theorem RDouble_ok (h : RefAt B w mb nx l) (hBw : B ≤ w.heap.size) {id : Int} {j : Nat} {y : PkA} (hlk : look id l 0 = some (j, y)) (hf : l.length < 64) (hn0 : 0 ≤ nx) (hn : nx < 1000000) :
    Calls Try.prog 23 #[.pointer (some ⟨mb, 0, none⟩), .int .i64 id] w fun e w' => e = .returned (.tuple #[.int .i64 nx, .int .i64 0]) ∧ RefAt B w' mb (nx + 1) (l ++ [⟨⟨nx, y.p.to, y.p.b, y.p.sp⟩, y.A, y.c, 0⟩]) ∧ Fr (RefX B mb w) w w' := by
  obtain ⟨A, c, hb, hown⟩ := h.blk
  obtain ⟨i7, hi7, hz7, hz7', hz7''⟩ := info_parts Try.info75
  have c0 : w.cell? ⟨mb, 0, none⟩ = some (.slice A l.length c) := hb.cell 0
  have c1 : w.cell? ⟨mb, 1, none⟩ = some (.int .i64 nx) := hb.cell 1
  have f0 := hb.frozen 0
  have f1 := hb.frozen 1
  obtain ⟨_, hj, hid⟩ := look_spec _ _ _ _ _ hlk
  simp only [Nat.sub_zero] at hj
  have hjl := (List.getElem?_eq_some_iff.1 hj).1
  have hyl : y ∈ l := List.mem_of_getElem? hj
  obtain ⟨g, cur, rfl, hgB, hg, hcur⟩ := own4_form hown (by omega)
  obtain ⟨e0, e1, e2, e3⟩ := pk_cells (B := B) (c := c) hg hcur hj
  have hmb := hb.lt
  have d0 : decide ((j : Int) < 0) = false := by simp
  have d5 : decide ((64 : Int) ≤ l.length) = false := by simp; omega
  have hq : nx ≤ 1000000 := by omega
  have hB1 : Below w.heap.size w (w.alloc (.cells #[.int .i64 nx, .int .i64 y.p.to, .slice y.A y.p.b.length y.c, .bool y.p.sp] 75)).drew := ((Below.refl _ w).alloc (Nat.le_refl _) _).drew
  have hown1 : ((w.alloc (.cells #[.int .i64 nx, .int .i64 y.p.to, .slice y.A y.p.b.length y.c, .bool y.p.sp] 75)).drew).ownsRow B 75 4 (.slice (some ⟨g, 0, none⟩) l.length c) l.length (cellsL l) := hown.alloc _
  clear hid hj
  go_enter Try.func23, Try.ntmps23
  go_wp2_with (go_at_call 31; refine (at_some h (by omega) hlk).mono ?_; rintro e w1 ⟨rfl, rfl⟩)
  go_region_law (first
    | (refine step_append_any _ (by rfl) (.tmp 35) (.tmp 37) 52 (by rfl) B 75 i7 _ 4 48 Try.underlying52 hi7 hz7 hz7' hz7'' rfl (by omega) (.slice (some ⟨g, 0, none⟩) l.length c) l.length (cellsL l) (by rfl) (hown1.alloc _) _ _ 1 1 [.int .i64 nx, .int .i64 y.p.to, .slice y.A y.p.b.length y.c, .bool y.p.sp] (by rfl) (reads_four (by simpa using (Blk.new (w.alloc (.cells #[.int .i64 nx, .int .i64 y.p.to, .slice y.A y.p.b.length y.c, .bool y.p.sp] 75)) 75 _).drew)) four_one (by simp only [maxLen]; omega) (by omega) (by simp; omega) ?_; intro v2 w2 hoC hgC hlC; obtain ⟨A2, c2, rfl⟩ := own_form_any hoC; have hglt := hg.lt; have bm2 : Blk w2 mb 54 _ := blk_otherN (((hb.alloc _).alloc _).drew) hgC (hown1.alloc _) (by decide); have k0 := bm2.cell 0; have k1 := bm2.cell 1; have l0 := bm2.frozen 0; have l1 := bm2.frozen 1; have bx2 : Blk w2 w.heap.size 75 #[.int .i64 nx, .int .i64 y.p.to, .slice y.A y.p.b.length y.c, .bool y.p.sp] := (hgC.block _ (by simp; omega) (by simp [Value.ownBlock]; omega)).trans (((Blk.new w 75 _).alloc _).drew); have x0 := bx2.cell 0; have hbm : mb ≠ w.heap.size := (by omega)))
  all_goals
    go_wp2
    go_ret2
    obtain ⟨r1, r2⟩ := ref_push (y := ⟨⟨nx, y.p.to, y.p.b, y.p.sp⟩, y.A, y.c, 0⟩) (nx' := nx + 1) h hBw hB1 hown1 hgC hoC ((h.rows y hyl).keep (Keep8.of_below hB1))
    exact ⟨rfl, r1, r2⟩
end
end Go.Proofs.Ytlhmhalamfjhjaa
