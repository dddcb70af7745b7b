/- do, walked: both nets turn alike. -/
import Derived.Test.YtlhmhalamfjhjaaNv
import Derived.Test.YtlhmhalamfjhjaaNk
import Derived.Deep.RegionHeld3
import Derived.Lib.BufferRead
set_option linter.unusedVariables false
namespace Go.Proofs.Ytlhmhalamfjhjaa
open Go.RowKit
structure Both (B : Nat) (w : World) (a M mb : Nat) (nx : Int) (L : List Pk) : Prop where
  net : NetP w a M nx L
  ref : RefP B w mb nx L
  ha : B ≤ a
  hM : B ≤ M
  len : L.length ≤ 64
  short : ∀ p ∈ L, p.b.length ≤ 8000
section
variable {w w' : World} {a M mb B : Nat} {nx : Int} {L : List Pk}
theorem RefX.ge (h : RefP B w mb nx L) : ∀ k, RefX B mb w k → B ≤ k := by
  rintro k (rfl | ⟨h1, _⟩)
  · exact h.base
  · exact h1
theorem Both.below (h : Both B w a M mb nx L) (hb : Below w.heap.size w w') : Both B w' a M mb nx L := ⟨h.net.below hb, h.ref.below hb, h.ha, h.hM, h.len, h.short⟩
/-- Behind both turns. -/
theorem Both.turn (h : Both B w a M mb nx L) {w1 w2 : World} {nx' : Int} {L' : List Pk} (h1 : NetP w1 a M nx' L') (f1 : Fr (fun k => k = a ∨ k = M) w w1) (h2 : RefP B w2 mb nx' L') (f2 : Fr (RefX B mb w1) w1 w2) (hl : L'.length ≤ 64) (hs : ∀ p ∈ L', p.b.length ≤ 8000) (hB : B ≤ w.heap.size) :
    Both B w2 a M mb nx' L' ∧ Below B w w2 := by
  have hr1 := h.ref.keepN h.net f1
  exact ⟨⟨h1.keepR hr1 f2, h2, h.ha, h.hM, hl, hs⟩, (f1.below hB (by rintro k (rfl | rfl); exact h.ha; exact h.hM)).trans (f2.below (Nat.le_trans hB f1.size) (RefX.ge hr1))⟩
theorem sendP_len (hL : L.length ≤ 64) (to : Int) (b : List Int) : (sendP nx L to b).2.2.2.length ≤ 64 := by
  unfold sendP; split <;> (try split) <;> (try split) <;> simp <;> omega
theorem sendP_short (hL : ∀ p ∈ L, p.b.length ≤ 8000) (to : Int) (b : List Int) : ∀ p ∈ (sendP nx L to b).2.2.2, p.b.length ≤ 8000 := by
  unfold sendP
  split
  · split
    · split
      · intro p hp
        rcases List.mem_append.1 hp with hp | hp
        · exact hL p hp
        · obtain rfl := List.mem_singleton.1 hp
          assumption
      · exact hL
    · exact hL
  · exact hL
theorem sendP_nx (to : Int) (b : List Int) : (sendP nx L to b).2.2.1 ≤ nx + 1 := by
  unfold sendP; split <;> (try split) <;> (try split) <;> simp <;> omega
theorem delP_len (hL : L.length ≤ 64) (id : Int) : (delP L id).2.2.2.length ≤ 64 := by
  unfold delP; split
  · exact hL
  · exact Nat.le_trans (List.length_eraseIdx_le _ _) hL
theorem delP_short (hL : ∀ p ∈ L, p.b.length ≤ 8000) (id : Int) : ∀ p ∈ (delP L id).2.2.2, p.b.length ≤ 8000 := by
  unfold delP; split
  · exact hL
  · exact fun p hp => hL p (mem_erase hp)
theorem delP_b (hL : ∀ p ∈ L, p.b.length ≤ 8000) (id : Int) : (delP L id).2.1.length ≤ 8000 := by
  unfold delP; split
  · simp
  · rename_i j p h; exact hL p (ix_mem _ _ _ _ _ h)
theorem dropP_len (hL : L.length ≤ 64) (id : Int) : (dropP L id).2.length ≤ 64 := by
  unfold dropP; split
  · exact hL
  · exact Nat.le_trans (List.length_eraseIdx_le _ _) hL
theorem dropP_short (hL : ∀ p ∈ L, p.b.length ≤ 8000) (id : Int) : ∀ p ∈ (dropP L id).2, p.b.length ≤ 8000 := by
  unfold dropP; split
  · exact hL
  · exact fun p hp => hL p (mem_erase hp)
theorem dblP_len (hL : L.length ≤ 64) (id : Int) : (dblP nx L id).2.2.2.length ≤ 64 := by
  unfold dblP; split
  · exact hL
  · split
    · simp; omega
    · exact hL
theorem dblP_short (hL : ∀ p ∈ L, p.b.length ≤ 8000) (id : Int) : ∀ p ∈ (dblP nx L id).2.2.2, p.b.length ≤ 8000 := by
  unfold dblP; split
  · exact hL
  · rename_i j q h
    split
    · intro p hp
      rcases List.mem_append.1 hp with hp | hp
      · exact hL p hp
      · obtain rfl := List.mem_singleton.1 hp
        exact hL q (ix_mem _ _ _ _ _ h)
    · exact hL
theorem dblP_nx (id : Int) : (dblP nx L id).2.2.1 ≤ nx + 1 := by
  unfold dblP; split
  · simp; omega
  · split <;> simp <;> omega
theorem spoilP_len (hL : L.length ≤ 64) (id at_ by_ : Int) : (spoilP L id at_ by_).2.length ≤ 64 := by
  unfold spoilP; split
  · exact hL
  · split
    · exact hL
    · split
      · exact hL
      · simpa using hL
theorem spoilP_short (hL : ∀ p ∈ L, p.b.length ≤ 8000) (id at_ by_ : Int) : ∀ p ∈ (spoilP L id at_ by_).2, p.b.length ≤ 8000 := by
  unfold spoilP; split
  · exact hL
  · rename_i j q h
    split
    · exact hL
    · split
      · exact hL
      · intro p hp
        rcases List.mem_or_eq_of_mem_set hp with h1 | h1
        · exact hL p h1
        · subst h1
          simpa using hL q (ix_mem _ _ _ _ _ h)
def DoesPost (B : Nat) (w : World) (a M mb : Nat) (nx : Int) (e : Ending) (w' : World) : Prop := e = .returned (.bool true) ∧ ∃ nx' L', nx' ≤ nx + 1 ∧ Both B w' a M mb nx' L' ∧ Below B w w'
def Dd.box (d : Dd) : Array Value := #[.int .i64 d.kind, .int .i64 d.n, .int .i64 d.at_, .int .u8 d.by_, .slice d.A d.b.length d.c]
theorem NetP.drew_ (h : NetP w a M nx L) : NetP w.drew a M nx L := by obtain ⟨l, c, h, e⟩ := h; exact ⟨l, c, h.drew_, e⟩
theorem RefP.drew_ (h : RefP B w mb nx L) : RefP B w.drew mb nx L := by obtain ⟨l, h, e⟩ := h; exact ⟨l, ⟨h.blk, h.base, h.rows⟩, e⟩
theorem Fr.undrew {X : Nat → Prop} (h : Fr X w.drew w') : Fr X w w' := ⟨h.os, h.tape, h.output, h.size, h.block⟩
theorem hX2 {g : Nat} {cs : Array Value} (hb : Blk w g 32 cs) (hr : RefP B w mb nx L) (hm : mb ≠ g) : ¬ RefX B mb w g := by
  rintro (e | ⟨_, cs', fz, e⟩)
  · omega
  · unfold Blk at hb; rw [hb] at e; cases e
theorem conv_nil (W : World) (A : Option Addr) (c : Nat) : (convert 30 9 (.slice A 0 c)).run Try.prog W = .ok (.string (toStr [])) W := by
  cases A with
  | some ad => exact run_convert_bytes_back (P := Try.prog) W 30 9 5 ad c [] Try.underlying30 Try.underlying5 Try.underlying9 (fun j hj => by simp at hj)
  | none => exact Go.Lib.run_convert_nil_bytes W 30 9 5 c Try.underlying30 Try.underlying5 Try.underlying9
theorem conv_any {W : World} {A : Option Addr} {c : Nat} {b : List Int} (hr : Row W A c b) : (convert 30 9 (.slice A b.length c)).run Try.prog W = .ok (.string (toStr b)) W := by
  cases b with
  | nil => exact conv_nil W A c
  | cons x b => exact conv_row (Row.rowI hr) (by simp)
set_option maxHeartbeats 4000000 in
set_option maxRecDepth 100000 in
theorem do_send (h : Both B w a M mb nx L) (hB : B ≤ w.heap.size) (d : Dd) (hr : RowI B w d.A d.c d.b) (hb : d.b.length ≤ 1000000) (hn : nx < 1000000) (hk : d.kind = 0) :
    Calls Try.prog 10 #[.pointer (some ⟨a, 0, none⟩), .pointer (some ⟨mb, 0, none⟩), .agg d.box] w (DoesPost B w a M mb nx) := by
  obtain ⟨i5, hi5, hz5, hz5', hz5''⟩ := info_parts Try.info5
  have k0 : (d.kind == 0) = true := by simpa using hk
  clear hk
  unfold Dd.box
  go_enter Try.func10, Try.ntmps10
  go_wp2_with fail
  have bx0 : Blk (w.alloc (.cells #[.int .i64 d.kind, .int .i64 d.n, .int .i64 d.at_, .int .u8 d.by_, .slice d.A d.b.length d.c] 32)) w.heap.size 32 #[.int .i64 d.kind, .int .i64 d.n, .int .i64 d.at_, .int .u8 d.by_, .slice d.A d.b.length d.c] := Blk.new w 32 _
  obtain ⟨W, hW⟩ : ∃ W, w.alloc (.cells #[.int .i64 d.kind, .int .i64 d.n, .int .i64 d.at_, .int .u8 d.by_, .slice d.A d.b.length d.c] 32) = W := ⟨_, rfl⟩
  obtain ⟨g, hg⟩ : ∃ g, w.heap.size = g := ⟨_, rfl⟩
  have bW : Below w.heap.size w W := hW ▸ (Below.refl _ _).alloc (Nat.le_refl _) _
  have hBW : B ≤ W.heap.size := Nat.le_trans hB bW.size
  have hgW : g < W.heap.size := by rw [← hW, ← hg]; simp
  have hrW : RowI B W d.A d.c d.b := hr.below (bW.mono hB)
  have hWB : Both B W a M mb nx L := h.below bW
  have hagM : a ≠ g ∧ M ≠ g ∧ mb ≠ g := by have := h.net.lt; have := h.ref.lt; omega
  rw [hW, hg] at bx0
  rw [hW, hg]
  have hBw : Below B w W := bW.mono hB
  clear hW hg
  have y1 := bx0.cell 1
  have y4 := bx0.cell 4
  clear h hr
  go_region_held3 (fun w' => w'.cell? ⟨g, 1, none⟩ = some (.int .i64 d.n) ∧ w'.cell? ⟨g, 4, none⟩ = some (.slice d.A d.b.length d.c) ∧ Blk w' g 32 #[.int .i64 d.kind, .int .i64 d.n, .int .i64 d.at_, .int .u8 d.by_, .slice d.A d.b.length d.c])
    (first
      | exact ⟨y1, y4, bx0⟩
      | exact ⟨(bx0.alloc _).cell 1, (bx0.alloc _).cell 4, bx0.alloc _⟩
      | exact ⟨bx1.cell 1, bx1.cell 4, bx1⟩
      | exact ⟨bx2.cell 1, bx2.cell 4, bx2⟩)
    ((first
      | (refine step_append_any _ (by rfl) (.tmp 29) (.tmp 31) 30 (by rfl) W.heap.size 5 i5 _ 1 1 Try.underlying30 hi5 hz5 hz5' hz5'' rfl (by omega) (.slice (some ⟨W.heap.size, 0, none⟩) 0 0) 0 [] (by rfl) (own_empty W _ (Nat.le_refl _)) B d.A d.b.length d.c (d.b.map (.int .u8)) (by rfl) (hrW.reads.alloc hBW _) (bytes_one _) (by simp only [maxLen]; omega) (by omega) (by simp) ?_; intro v1 w1 ho1 hg1 hl1; simp only [Nat.zero_add, List.nil_append] at ho1; obtain ⟨A1, c1, rfl⟩ := own_form_any ho1; have b1 : Below W.heap.size W w1 := ((((Below.refl _ W).alloc (Nat.le_refl _) _).drew).grown hg1 (by simp) (fun k e => by cases e; exact Nat.le_refl _)); have bx1 := (show Blk w1 g 32 _ from (b1.block g hgW).trans bx0))
      | (go_at_call 12; go_loud (refine (PSend (B := w1.heap.size) (Nat.le_refl _) (hWB.net.below b1) d.n A1 c1 d.b hb (Row.rowI (Row.of_own ho1 hrW.byte)) hn).mono ?_; rintro e w2 ⟨rfl, hn2, f2⟩; have bx2 : Blk w2 g 32 _ := bx1.fr f2 (by rintro (e | e) <;> omega)))))
  have f2' : Fr (fun k => k = a ∨ k = M) W w2 := (Fr.of_below b1).trans f2
  have hr2 : RefP B w2 mb nx L := hWB.ref.keepN hWB.net f2'
  have hB2 : B ≤ w2.heap.size := Nat.le_trans hBW f2'.size
  have hrow2 : RowI B w2 d.A d.c d.b := hrW.below (f2'.below hBW (by rintro k (rfl | rfl); exact hWB.ha; exact hWB.hM))
  have hlen : L.length ≤ 100 := Nat.le_trans hWB.len (by omega)
  have hpos := hWB.net.pos
  have z1 := bx2.cell 1
  have z4 := bx2.cell 4
  go_wp2_with (first
    | (go_at_call 20; refine (QSend hr2 hB2 d.n hB2 d.A d.c d.b hb hrow2 hlen hpos hn).mono ?_; rintro e w3 ⟨rfl, hr3, f3⟩)
    | (go_at_call 13; refine (num_any _ _).mono ?_; rintro e w4 ⟨rfl, rfl⟩))
  go_ret
  obtain ⟨hb3, hbl⟩ := hWB.turn hn2 f2' hr3 f3 (sendP_len hWB.len _ _) (sendP_short hWB.short _ _) hBW
  exact ⟨rfl, _, _, sendP_nx _ _, hb3, hBw.trans hbl⟩
set_option maxHeartbeats 4000000 in
set_option maxRecDepth 100000 in
theorem do_deliver (h : Both B w a M mb nx L) (hB : B ≤ w.heap.size) (d : Dd) (hn : nx < 1000000) (hk : d.kind = 1) :
    Calls Try.prog 10 #[.pointer (some ⟨a, 0, none⟩), .pointer (some ⟨mb, 0, none⟩), .agg d.box] w (DoesPost B w a M mb nx) := by
  have k0 : (d.kind == 0) = false := by simp; omega
  have k1 : (d.kind == 1) = true := by simpa using hk
  clear hk
  unfold Dd.box
  go_enter Try.func10, Try.ntmps10
  go_wp2_with fail
  have bx0 : Blk (w.alloc (.cells #[.int .i64 d.kind, .int .i64 d.n, .int .i64 d.at_, .int .u8 d.by_, .slice d.A d.b.length d.c] 32)) w.heap.size 32 #[.int .i64 d.kind, .int .i64 d.n, .int .i64 d.at_, .int .u8 d.by_, .slice d.A d.b.length d.c] := Blk.new w 32 _
  obtain ⟨W, hW⟩ : ∃ W, w.alloc (.cells #[.int .i64 d.kind, .int .i64 d.n, .int .i64 d.at_, .int .u8 d.by_, .slice d.A d.b.length d.c] 32) = W := ⟨_, rfl⟩
  obtain ⟨g, hg⟩ : ∃ g, w.heap.size = g := ⟨_, rfl⟩
  have bW : Below w.heap.size w W := hW ▸ (Below.refl _ _).alloc (Nat.le_refl _) _
  have hBW : B ≤ W.heap.size := Nat.le_trans hB bW.size
  have hgW : g < W.heap.size := by rw [← hW, ← hg]; simp
  have hWB : Both B W a M mb nx L := h.below bW
  have hagM : a ≠ g ∧ M ≠ g ∧ mb ≠ g := by have := h.net.lt; have := h.ref.lt; omega
  rw [hW, hg] at bx0
  rw [hW, hg]
  have hBw : Below B w W := bW.mono hB
  clear hW hg
  have y1 := bx0.cell 1
  have y2 := bx0.cell 2
  have y3 := bx0.cell 3
  have hlen : L.length ≤ 100 := Nat.le_trans hWB.len (by omega)
  have hpos := hWB.net.pos
  clear h
  go_at_call 14
  refine (PDeliver hWB.net d.n).mono ?_
  rintro e w2 ⟨A1, c1, rfl, row1, hn2, f2⟩
  have bx2 : Blk w2 g 32 _ := bx0.fr f2 (by rintro (e | e) <;> omega)
  have z1 := bx2.cell 1
  have hr2 : RefP B w2 mb nx L := hWB.ref.keepN hWB.net f2
  have hB2 : B ≤ w2.heap.size := Nat.le_trans hBW f2.size
  go_wp2_with (fail)
  go_at_call 21
  refine (QDeliver hr2 hB2 hlen d.n).mono ?_
  rintro e w3 ⟨A2, c2, rfl, row2, hr3, f3⟩
  have cv1 := conv_any (row1.keep (Keep8.of_fr f3 (RefX.not8 hr2)))
  have cv2 := conv_any row2
  go_wp2_with (first | (go_at_call 13; refine (num_any _ _).mono ?_; rintro e w4 ⟨rfl, rfl⟩))
  go_ret
  obtain ⟨hb3, hbl⟩ := hWB.turn hn2 f2 hr3 f3 (delP_len hWB.len _) (delP_short hWB.short _) hBW
  exact ⟨rfl, _, _, by omega, hb3, hBw.trans hbl⟩
set_option maxHeartbeats 4000000 in
set_option maxRecDepth 100000 in
theorem do_drop (h : Both B w a M mb nx L) (hB : B ≤ w.heap.size) (d : Dd) (hn : nx < 1000000) (hk : d.kind = 2) :
    Calls Try.prog 10 #[.pointer (some ⟨a, 0, none⟩), .pointer (some ⟨mb, 0, none⟩), .agg d.box] w (DoesPost B w a M mb nx) := by
  have k0 : (d.kind == 0) = false := by simp; omega
  have k1 : (d.kind == 1) = false := by simp; omega
  have k2 : (d.kind == 2) = true := by simpa using hk
  clear hk
  unfold Dd.box
  go_enter Try.func10, Try.ntmps10
  go_wp2_with fail
  have bx0 : Blk (w.alloc (.cells #[.int .i64 d.kind, .int .i64 d.n, .int .i64 d.at_, .int .u8 d.by_, .slice d.A d.b.length d.c] 32)) w.heap.size 32 #[.int .i64 d.kind, .int .i64 d.n, .int .i64 d.at_, .int .u8 d.by_, .slice d.A d.b.length d.c] := Blk.new w 32 _
  obtain ⟨W, hW⟩ : ∃ W, w.alloc (.cells #[.int .i64 d.kind, .int .i64 d.n, .int .i64 d.at_, .int .u8 d.by_, .slice d.A d.b.length d.c] 32) = W := ⟨_, rfl⟩
  obtain ⟨g, hg⟩ : ∃ g, w.heap.size = g := ⟨_, rfl⟩
  have bW : Below w.heap.size w W := hW ▸ (Below.refl _ _).alloc (Nat.le_refl _) _
  have hBW : B ≤ W.heap.size := Nat.le_trans hB bW.size
  have hgW : g < W.heap.size := by rw [← hW, ← hg]; simp
  have hWB : Both B W a M mb nx L := h.below bW
  have hagM : a ≠ g ∧ M ≠ g ∧ mb ≠ g := by have := h.net.lt; have := h.ref.lt; omega
  rw [hW, hg] at bx0
  rw [hW, hg]
  have hBw : Below B w W := bW.mono hB
  clear hW hg
  have y1 := bx0.cell 1
  have y2 := bx0.cell 2
  have y3 := bx0.cell 3
  have hlen : L.length ≤ 100 := Nat.le_trans hWB.len (by omega)
  have hpos := hWB.net.pos
  clear h
  go_region_held3 (fun w' => w'.cell? ⟨g, 1, none⟩ = some (.int .i64 d.n))
    (first
      | exact y1
      | exact bx2.cell 1
      | exact bx3.cell 1)
    ((first
      | (go_at_call 16; refine (PDrop (NetP.drew_ hWB.net) d.n).mono ?_; rintro e w2 ⟨rfl, hn2, f2⟩; have bx2 : Blk w2 g 32 _ := Blk.fr (show Blk W.drew g 32 _ from bx0) f2 (by rintro (e | e) <;> omega); have hr2 : RefP B w2 mb nx L := RefP.keepN (RefP.drew_ hWB.ref) (NetP.drew_ hWB.net) f2; have hB2 : B ≤ w2.heap.size := Nat.le_trans hBW f2.size)
      | (go_at_call 13; refine (num_any _ _).mono ?_; rintro e w4 ⟨rfl, rfl⟩)
      | (go_at_call 22; refine (QDrop hr2 hB2 hlen d.n).mono ?_; rintro e w3 ⟨rfl, hr3, f3⟩; have bx3 : Blk w3 g 32 _ := Blk.fr bx2 f3 (hX2 bx2 hr2 (by omega)))))
  go_wp2
  go_ret
  obtain ⟨hb3, hbl⟩ := hWB.turn hn2 (Fr.undrew f2) hr3 f3 (dropP_len hWB.len _) (dropP_short hWB.short _) hBW
  exact ⟨rfl, _, _, by omega, hb3, hBw.trans hbl⟩
set_option maxHeartbeats 4000000 in
set_option maxRecDepth 100000 in
theorem do_double (h : Both B w a M mb nx L) (hB : B ≤ w.heap.size) (d : Dd) (hn : nx < 1000000) (hk : d.kind = 3) :
    Calls Try.prog 10 #[.pointer (some ⟨a, 0, none⟩), .pointer (some ⟨mb, 0, none⟩), .agg d.box] w (DoesPost B w a M mb nx) := by
  have k0 : (d.kind == 0) = false := by simp; omega
  have k1 : (d.kind == 1) = false := by simp; omega
  have k2 : (d.kind == 2) = false := by simp; omega
  have k3 : (d.kind == 3) = true := by simpa using hk
  clear hk
  unfold Dd.box
  go_enter Try.func10, Try.ntmps10
  go_wp2_with fail
  have bx0 : Blk (w.alloc (.cells #[.int .i64 d.kind, .int .i64 d.n, .int .i64 d.at_, .int .u8 d.by_, .slice d.A d.b.length d.c] 32)) w.heap.size 32 #[.int .i64 d.kind, .int .i64 d.n, .int .i64 d.at_, .int .u8 d.by_, .slice d.A d.b.length d.c] := Blk.new w 32 _
  obtain ⟨W, hW⟩ : ∃ W, w.alloc (.cells #[.int .i64 d.kind, .int .i64 d.n, .int .i64 d.at_, .int .u8 d.by_, .slice d.A d.b.length d.c] 32) = W := ⟨_, rfl⟩
  obtain ⟨g, hg⟩ : ∃ g, w.heap.size = g := ⟨_, rfl⟩
  have bW : Below w.heap.size w W := hW ▸ (Below.refl _ _).alloc (Nat.le_refl _) _
  have hBW : B ≤ W.heap.size := Nat.le_trans hB bW.size
  have hgW : g < W.heap.size := by rw [← hW, ← hg]; simp
  have hWB : Both B W a M mb nx L := h.below bW
  have hagM : a ≠ g ∧ M ≠ g ∧ mb ≠ g := by have := h.net.lt; have := h.ref.lt; omega
  rw [hW, hg] at bx0
  rw [hW, hg]
  have hBw : Below B w W := bW.mono hB
  clear hW hg
  have y1 := bx0.cell 1
  have y2 := bx0.cell 2
  have y3 := bx0.cell 3
  have hlen : L.length ≤ 100 := Nat.le_trans hWB.len (by omega)
  have hpos := hWB.net.pos
  clear h
  go_at_call 17
  refine (PDouble hWB.net d.n hn).mono ?_
  rintro e w2 ⟨rfl, hn2, f2⟩
  have bx2 : Blk w2 g 32 _ := bx0.fr f2 (by rintro (e | e) <;> omega)
  have z1 := bx2.cell 1
  have hr2 : RefP B w2 mb nx L := hWB.ref.keepN hWB.net f2
  have hB2 : B ≤ w2.heap.size := Nat.le_trans hBW f2.size
  go_wp2_with (fail)
  go_at_call 23
  refine (QDouble hr2 hB2 hlen d.n hpos hn).mono ?_
  rintro e w3 ⟨rfl, hr3, f3⟩
  go_wp2_with (first | (go_at_call 13; refine (num_any _ _).mono ?_; rintro e w4 ⟨rfl, rfl⟩))
  go_ret
  obtain ⟨hb3, hbl⟩ := hWB.turn hn2 f2 hr3 f3 (dblP_len hWB.len _) (dblP_short hWB.short _) hBW
  exact ⟨rfl, _, _, dblP_nx _, hb3, hBw.trans hbl⟩
set_option maxHeartbeats 4000000 in
set_option maxRecDepth 100000 in
theorem do_spoil (h : Both B w a M mb nx L) (hB : B ≤ w.heap.size) (d : Dd) (hn : nx < 1000000) (hby : 0 ≤ d.by_ ∧ d.by_ < 256) (hk : d.kind ≠ 0 ∧ d.kind ≠ 1 ∧ d.kind ≠ 2 ∧ d.kind ≠ 3) :
    Calls Try.prog 10 #[.pointer (some ⟨a, 0, none⟩), .pointer (some ⟨mb, 0, none⟩), .agg d.box] w (DoesPost B w a M mb nx) := by
  have k0 : (d.kind == 0) = false := by simp; omega
  have k1 : (d.kind == 1) = false := by simp; omega
  have k2 : (d.kind == 2) = false := by simp; omega
  have k3 : (d.kind == 3) = false := by simp; omega
  clear hk
  unfold Dd.box
  go_enter Try.func10, Try.ntmps10
  go_wp2_with fail
  have bx0 : Blk (w.alloc (.cells #[.int .i64 d.kind, .int .i64 d.n, .int .i64 d.at_, .int .u8 d.by_, .slice d.A d.b.length d.c] 32)) w.heap.size 32 #[.int .i64 d.kind, .int .i64 d.n, .int .i64 d.at_, .int .u8 d.by_, .slice d.A d.b.length d.c] := Blk.new w 32 _
  obtain ⟨W, hW⟩ : ∃ W, w.alloc (.cells #[.int .i64 d.kind, .int .i64 d.n, .int .i64 d.at_, .int .u8 d.by_, .slice d.A d.b.length d.c] 32) = W := ⟨_, rfl⟩
  obtain ⟨g, hg⟩ : ∃ g, w.heap.size = g := ⟨_, rfl⟩
  have bW : Below w.heap.size w W := hW ▸ (Below.refl _ _).alloc (Nat.le_refl _) _
  have hBW : B ≤ W.heap.size := Nat.le_trans hB bW.size
  have hgW : g < W.heap.size := by rw [← hW, ← hg]; simp
  have hWB : Both B W a M mb nx L := h.below bW
  have hagM : a ≠ g ∧ M ≠ g ∧ mb ≠ g := by have := h.net.lt; have := h.ref.lt; omega
  rw [hW, hg] at bx0
  rw [hW, hg]
  have hBw : Below B w W := bW.mono hB
  clear hW hg
  have y1 := bx0.cell 1
  have y2 := bx0.cell 2
  have y3 := bx0.cell 3
  have hlen : L.length ≤ 100 := Nat.le_trans hWB.len (by omega)
  have hpos := hWB.net.pos
  clear h
  have hsh := hWB.short
  go_region_held3 (fun w' => w'.cell? ⟨g, 1, none⟩ = some (.int .i64 d.n) ∧ w'.cell? ⟨g, 2, none⟩ = some (.int .i64 d.at_) ∧ w'.cell? ⟨g, 3, none⟩ = some (.int .u8 d.by_))
    (first
      | exact ⟨y1, y2, y3⟩
      | exact ⟨bx2.cell 1, bx2.cell 2, bx2.cell 3⟩
      | exact ⟨bx3.cell 1, bx3.cell 2, bx3.cell 3⟩)
    ((first
      | (go_at_call 18; refine (PSpoil (NetP.drew_ hWB.net) d.n d.at_ d.by_ hby hsh).mono ?_; rintro e w2 ⟨rfl, hn2, f2⟩; have bx2 : Blk w2 g 32 _ := Blk.fr (show Blk W.drew g 32 _ from bx0) f2 (by rintro (e | e) <;> omega); have hr2 : RefP B w2 mb nx L := RefP.keepN (RefP.drew_ hWB.ref) (NetP.drew_ hWB.net) f2; have hB2 : B ≤ w2.heap.size := Nat.le_trans hBW f2.size)
      | (go_at_call 13; refine (num_any _ _).mono ?_; rintro e w4 ⟨rfl, rfl⟩)
      | (go_at_call 24; refine (QSpoil hr2 hB2 hlen d.n d.at_ d.by_ hby hsh).mono ?_; rintro e w3 ⟨rfl, hr3, f3⟩; have bx3 : Blk w3 g 32 _ := Blk.fr bx2 f3 (hX2 bx2 hr2 (by omega)))))
  go_wp2
  go_ret
  obtain ⟨hb3, hbl⟩ := hWB.turn hn2 (Fr.undrew f2) hr3 f3 (spoilP_len hWB.len _ _ _) (spoilP_short hWB.short _ _ _) hBW
  exact ⟨rfl, _, _, by omega, hb3, hBw.trans hbl⟩
end
end Go.Proofs.Ytlhmhalamfjhjaa
