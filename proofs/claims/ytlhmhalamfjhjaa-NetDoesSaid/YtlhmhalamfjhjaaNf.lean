/- The net's functions, walked: Spoil. -/
import Derived.Test.YtlhmhalamfjhjaaNe
import Derived.BigGuardPart
set_option linter.unusedVariables false
namespace Go.Proofs.Ytlhmhalamfjhjaa
open Go.RowKit
theorem pairwise_set : ∀ {l : List PkA} {j : Nat} {y : PkA}, l.Pairwise (·.p.id < ·.p.id) → (hj : j < l.length) → (l[j]'hj).p.id = y.p.id → (l.set j y).Pairwise (·.p.id < ·.p.id)
  | [], _, _, h, hj, _ => by simp at hj
  | x :: l, 0, y, h, hj, e => by
    obtain ⟨h1, h2⟩ := List.pairwise_cons.1 h
    simp at e
    exact List.pairwise_cons.2 ⟨fun z hz => by rw [← e]; exact h1 z hz, h2⟩
  | x :: l, j + 1, y, h, hj, e => by
    obtain ⟨h1, h2⟩ := List.pairwise_cons.1 h
    simp only [List.length_cons] at hj
    simp at e
    refine List.pairwise_cons.2 ⟨fun z hz => ?_, pairwise_set h2 (by omega) e⟩
    rcases List.mem_or_eq_of_mem_set hz with h3 | h3
    · exact h1 z h3
    · subst h3; rw [← e]; exact h1 _ (List.getElem_mem _)
theorem pairwise_set_born : ∀ {l : List PkA} {j : Nat} {y : PkA}, l.Pairwise (·.born < ·.born) → (hj : j < l.length) → (l[j]'hj).born = y.born → (l.set j y).Pairwise (·.born < ·.born)
  | [], _, _, h, hj, _ => by simp at hj
  | x :: l, 0, y, h, hj, e => by
    obtain ⟨h1, h2⟩ := List.pairwise_cons.1 h
    simp at e
    exact List.pairwise_cons.2 ⟨fun z hz => by rw [← e]; exact h1 z hz, h2⟩
  | x :: l, j + 1, y, h, hj, e => by
    obtain ⟨h1, h2⟩ := List.pairwise_cons.1 h
    simp only [List.length_cons] at hj
    simp at e
    refine List.pairwise_cons.2 ⟨fun z hz => ?_, pairwise_set_born h2 (by omega) e⟩
    rcases List.mem_or_eq_of_mem_set hz with h3 | h3
    · exact h1 z h3
    · subst h3; rw [← e]; exact h1 _ (List.getElem_mem _)
/-- A byte turned. -/
def xr (u by_ : Int) : Int := bits BinOp.xor IntKind.u8 u by_
theorem xr_lt (u by_ : Int) : 0 ≤ xr u by_ ∧ xr u by_ < 256 := by
  unfold xr bits
  rw [IntKind.wrap_u8]
  omega
def PkA.spoil (y : PkA) (k : Nat) (u by_ : Int) (A : Option Addr) (c : Nat) : PkA := ⟨⟨y.p.id, y.p.to, y.p.b.set k (xr u by_), true⟩, A, c, y.born⟩
theorem own_form {w : World} {B : Nat} {A : Option Addr} {c : Nat} {b : List Int} (h : w.ownsRow B 5 1 (Value.slice A b.length c) b.length (b.map (Value.int .u8))) (hb : 0 < b.length) :
    ∃ g cur, A = some ⟨g, 0, none⟩ ∧ B ≤ g ∧ w.heap[g]? = some (Obj.cells cur 5 (0, 0)) ∧ (∀ (j : Nat) (u : Int), b[j]? = some u → cur[j]? = some (Value.int .u8 u)) ∧ b.length ≤ c ∧ c ≤ 9223372036854775807 := by
  rcases h.2 with ⟨e, h0⟩ | ⟨g, cap, cur, e, h1, h0, h2, h3, h4, h5⟩
  · omega
  · simp only [Value.slice.injEq] at e
    obtain ⟨rfl, _, rfl⟩ := e
    refine ⟨g, cur, rfl, h1, h0, fun j u hu => ?_, h2, by simpa [maxLen] using h3⟩
    have hj := (List.getElem?_eq_some_iff.1 hu).1
    have : (cur.toList.take (b.length * 1))[j]? = some (.int .u8 u) := by rw [h5, List.getElem?_map, hu]; rfl
    rw [List.getElem?_take, if_pos (by omega)] at this
    simpa using this
section
variable {w w' : World} {a M : Nat} {next : Int} {l : List PkA} {clock : Nat}
set_option maxHeartbeats 1000000 in
set_option maxRecDepth 100000 in
theorem Spoil_none (h : NetAt w a M next l clock) {id : Int} (hl : look id l 0 = none) (at_ by_ : Int) :
    Calls Try.prog 18 #[.pointer (some ⟨a, 0, none⟩), .int .i64 id, .int .i64 at_, .int .u8 by_] w fun e w' => e = .returned (.int .i64 7) ∧ Below w.heap.size w w' := by
  go_enter Try.func18, Try.ntmps18
  go_wp2_with (go_at_call 28; refine (find_none h hl).mono ?_; rintro e w1 ⟨rfl, hb⟩)
  go_ret
  exact ⟨rfl, hb.alloc hb.size _⟩
set_option maxHeartbeats 1000000 in
set_option maxRecDepth 100000 in
theorem Spoil_twice (h : NetAt w a M next l clock) {id : Int} {j : Nat} {y : PkA} (hl : look id l 0 = some (j, y)) (hs : y.p.sp = true) (at_ by_ : Int) :
    Calls Try.prog 18 #[.pointer (some ⟨a, 0, none⟩), .int .i64 id, .int .i64 at_, .int .u8 by_] w fun e w' => e = .returned (.int .i64 290) ∧ Below w.heap.size w w' := by
  have hfs := find_some h hl
  rw [hs] at hfs
  clear hs
  go_enter Try.func18, Try.ntmps18
  go_wp2_with (go_at_call 28; refine hfs.mono ?_; rintro e w1 ⟨rfl, hb⟩)
  go_ret
  exact ⟨rfl, hb.alloc hb.size _⟩
set_option maxHeartbeats 1000000 in
set_option maxRecDepth 100000 in
theorem Spoil_arg (h : NetAt w a M next l clock) {id : Int} {j : Nat} {y : PkA} (hl : look id l 0 = some (j, y)) (hs : y.p.sp = false) (at_ by_ : Int) (hy : y.p.b.length ≤ 1000000) (ha : at_ < 0 ∨ (y.p.b.length : Int) ≤ at_ ∨ by_ = 0) :
    Calls Try.prog 18 #[.pointer (some ⟨a, 0, none⟩), .int .i64 id, .int .i64 at_, .int .u8 by_] w fun e w' => e = .returned (.int .i64 2) ∧ Below w.heap.size w w' := by
  have hfs := find_some h hl
  rw [hs] at hfs
  clear hs
  by_cases h1 : at_ < 0
  · have d1 : decide (at_ < 0) = true := by simpa using h1
    go_enter Try.func18, Try.ntmps18
    go_wp2_with (go_at_call 28; refine hfs.mono ?_; rintro e w1 ⟨rfl, hb⟩)
    go_ret
    exact ⟨rfl, hb.alloc hb.size _⟩
  · have d1 : decide (at_ < 0) = false := by simpa using h1
    by_cases h2 : (y.p.b.length : Int) ≤ at_
    · have d2 : decide ((y.p.b.length : Int) ≤ at_) = true := by simpa using h2
      go_enter Try.func18, Try.ntmps18
      go_wp2_with (go_at_call 28; refine hfs.mono ?_; rintro e w1 ⟨rfl, hb⟩)
      go_ret
      exact ⟨rfl, hb.alloc hb.size _⟩
    · have d2 : decide ((y.p.b.length : Int) ≤ at_) = false := by simpa using h2
      have d3 : (by_ == 0) = true := by simp; omega
      go_enter Try.func18, Try.ntmps18
      go_wp2_with (go_at_call 28; refine hfs.mono ?_; rintro e w1 ⟨rfl, hb⟩)
      go_ret
      exact ⟨rfl, hb.alloc hb.size _⟩
set_option maxHeartbeats 1000000 in
set_option maxRecDepth 100000 in
theorem Spoil_ok (h : NetAt w a M next l clock) {id : Int} {j : Nat} {y : PkA} (hl : look id l 0 = some (j, y)) (hs : y.p.sp = false) (k : Nat) (by_ : Int) (hk : k < y.p.b.length) (hy : y.p.b.length ≤ 1000000) (hb1 : 0 < by_) (hb2 : by_ < 256) {u : Int} (hu : y.p.b[k]? = some u) (hu0 : 0 ≤ u) (hu1 : u < 256) :
    Calls Try.prog 18 #[.pointer (some ⟨a, 0, none⟩), .int .i64 id, .int .i64 (k : Int), .int .u8 by_] w fun e w' => e = .returned (.int .i64 0) ∧ (∃ A c, NetAt w' a M next (l.set j (y.spoil k u by_ A c)) clock) ∧ Fr (fun k => k = M) w w' := by
  have hfs := find_some h hl
  rw [hs] at hfs
  clear hs
  have hyr := h.rows y (List.mem_of_getElem? (look_spec _ _ _ _ _ hl).2.1)
  have d2 : decide (y.p.b.length ≤ k) = false := by simp; omega
  have d5 : decide (k < y.p.b.length) = true := by simp; omega
  have d3 : (by_ == 0) = false := by simp; omega
  go_enter Try.func18, Try.ntmps18
  go_wp2_with (go_at_call 28; refine hfs.mono ?_; rintro e w1 ⟨rfl, hb⟩; have b1 := Blk.new w1 67 #[.int .i64 y.p.to, .slice y.A y.p.b.length y.c, .bool false])
  go_at_call 27
  refine (Clone_any y.A y.c y.p.b _ (((hyr.keep (Keep8.of_below hb)).keep (Keep8.of_below ((Below.refl _ _).alloc (Nat.le_refl _) _))).rowI) (Nat.le_refl _) (by omega) (by omega)).mono ?_
  rintro e w2 ⟨A', c', rfl, hown, hbc⟩
  obtain ⟨g, cur, rfl, hgB, hgc, hcur, hcl, hcm⟩ := own_form hown (by omega)
  have q2 : Blk w2 g 5 cur := hgc
  have hgk := (q2.cell k).trans (hcur k u hu)
  have fgk := q2.frozen k
  have hgs : w1.heap.size + 1 ≤ g := by (simpa using hgB)
  have hne1 : g ≠ w1.heap.size := (by omega)
  have b2 : Blk w2 _ 67 _ := (hbc.block _ (by simp)).trans b1
  have k0 := b2.cell 0
  have k1 := b2.cell 1
  have k2 := b2.cell 2
  have f1 := b2.frozen 1
  have f2 := b2.frozen 2
  go_wp2
  have hlk := look_spec _ _ _ _ _ hl
  have hlt := h.lt
  have hsz := hb.size
  have hsz2 := hbc.size
  simp only [World.size_alloc] at hsz2
  have B1 : Below w.heap.size w w2 := (hb.alloc hb.size _).trans (hbc.mono (by simp; omega))
  have B2 := ((B1.setCell (p := ⟨w1.heap.size, 1, none⟩) (by simpa using hsz) (.slice (some ⟨g, 0, none⟩) y.p.b.length c')).setCell (p := ⟨g, k, none⟩) (by show w.heap.size ≤ g; omega) (.int .u8 (bits BinOp.xor IntKind.u8 u by_))).setCell (p := ⟨w1.heap.size, 2, none⟩) (by simpa using hsz) (.bool true)
  have b3 := ((b2.set_ 1 (.slice (some ⟨g, 0, none⟩) y.p.b.length c')).far (p := ⟨g, k, none⟩) (Ne.symm hne1) (.int .u8 (bits BinOp.xor IntKind.u8 u by_))).set_ 2 (.bool true)
  have q3 := ((q2.far (p := ⟨w1.heap.size, 1, none⟩) hne1 (.slice (some ⟨g, 0, none⟩) y.p.b.length c')).set_ k (.int .u8 (bits BinOp.xor IntKind.u8 u by_))).far (p := ⟨w1.heap.size, 2, none⟩) hne1 (.bool true)
  generalize ((w2.setCell ⟨w1.heap.size, 1, none⟩ (.slice (some ⟨g, 0, none⟩) y.p.b.length c')).setCell ⟨g, k, none⟩ (.int .u8 (bits BinOp.xor IntKind.u8 u by_))).setCell ⟨w1.heap.size, 2, none⟩ (.bool true) = W at B2 b3 q3 ⊢
  have B2 := B2.drew
  have b3 := b3.drew
  have q3 := q3.drew
  refine wp_region_tail 6 (by kernel_rfl) (by kernel_rfl) ?_
  generalize W.drew = W2 at B2 b3 q3 ⊢
  have hW := h.below B2
  have e1 := hW.c1
  have g0 : W2.cell? ⟨w1.heap.size, 0, none⟩ = some (.int .i64 y.p.to) := b3.cell 0
  have g1 : W2.cell? ⟨w1.heap.size, 1, none⟩ = some (.slice (some ⟨g, 0, none⟩) y.p.b.length c') := b3.cell 1
  have g2 : W2.cell? ⟨w1.heap.size, 2, none⟩ = some (.bool true) := b3.cell 2
  have hMW := hW.map
  have hval : (y.spoil k u by_ (some ⟨g, 0, none⟩) c').val = .agg #[.int .i64 y.p.to, .slice (some ⟨g, 0, none⟩) y.p.b.length c', .bool true] := by simp [PkA.val, PkA.spoil]
  have hlen : (y.spoil k u by_ (some ⟨g, 0, none⟩) c').p.b.length = y.p.b.length := by simp [PkA.spoil]
  have hrow : Row W2 (some ⟨g, 0, none⟩) c' (y.p.b.set k (xr u by_)) := by
    refine ⟨by simpa using hcl, hcm, fun x hx => ?_, fun _ => ⟨g, 0, _, _, rfl, q3, fun i v hv => ?_⟩⟩
    · rcases List.mem_or_eq_of_mem_set hx with h1 | h1
      · exact hyr.2.2.1 x h1
      · subst h1; exact xr_lt _ _
    · rw [Nat.zero_add]
      rw [List.getElem?_set] at hv
      by_cases hki : k = i
      · subst hki
        rw [if_pos rfl, if_pos hk] at hv
        cases hv
        have := (Array.getElem?_eq_some_iff.1 (hcur k u hu)).1
        simp [this, xr]
      · rw [if_neg hki] at hv
        rw [Array.getElem?_setIfInBounds_ne hki]
        exact hcur i v hv
  have hid : y.p.id = id := hlk.2.2
  have hl' : look (y.spoil k u by_ (some ⟨g, 0, none⟩) c').p.id l 0 = some (j, y) := by show look y.p.id l 0 = _; rw [hid]; exact hl
  have HID := Lib.hid hid
  clear hid hlk hyr hW hfs d2 d5 d3 hb hbc hcur hown B1 b2 q2 k0 k1 k2 f1 f2 hgk fgk hgc
  simp only [List.take_succ_cons, List.take_zero, List.drop_succ_cons, List.drop_zero]
  repeat still_step
  refine wpStill_nil ?_
  go_wp2_with (at_mapUpdate; refine wpList_set (y := y.spoil k u by_ (some ⟨g, 0, none⟩) c') rfl _ _ _ rfl rfl (congrArg (Value.int IntKind.i64) HID.out.symm) hval.symm hMW hl' rfl ?_; intro w5 hm5)
  go_ret
  have hjl : j < l.length := (List.getElem?_eq_some_iff.1 (look_spec _ _ _ _ _ hl).2.1).1
  have hjy : l[j]'hjl = y := (List.getElem?_eq_some_iff.1 (look_spec _ _ _ _ _ hl).2.1).2
  have hset : ∀ x ∈ l.set j (y.spoil k u by_ (some ⟨g, 0, none⟩) c'), x ∈ l ∨ x = y.spoil k u by_ (some ⟨g, 0, none⟩) c' := fun x hx => List.mem_or_eq_of_mem_set hx
  have hyl : y ∈ l := List.mem_of_getElem? (look_spec _ _ _ _ _ hl).2.1
  obtain ⟨g1, g2⟩ := h.turned (X := fun _ => False) (Fr.of_below B2) hlt.2 hm5 (fun x hx => by
      rcases hset x hx with h1 | h1
      · exact .inl h1
      · subst h1
        exact .inr (hrow.keep (Keep8.of_fr hm5.fr (fun k cs fz e => by subst e; rw [hMW]; intro e'; cases e'))))
    (fun x hx => by
      rcases hset x hx with h1 | h1
      · exact h.ids x h1
      · subst h1; exact h.ids y hyl)
    (pairwise_set h.sorted hjl (by rw [hjy]; rfl))
    ⟨fun x hx => by
      rcases hset x hx with h1 | h1
      · exact h.born.1 x h1
      · subst h1; exact h.born.1 y hyl, pairwise_set_born h.born.2 hjl (by rw [hjy]; rfl)⟩
  exact ⟨rfl, ⟨_, _, g1⟩, g2⟩
end
end Go.Proofs.Ytlhmhalamfjhjaa
