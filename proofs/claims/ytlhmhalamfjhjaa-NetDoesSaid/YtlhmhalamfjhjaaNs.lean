/- The document's net, walked: Deliver, Drop. -/
import Derived.Test.YtlhmhalamfjhjaaNq
set_option linter.unusedVariables false
namespace Go.Proofs.Ytlhmhalamfjhjaa
open Go.RowKit
theorem cellsL_one (l : List PkA) : ∀ u ∈ cellsL l, u.oneCell' = true := by
  intro u hu
  obtain ⟨x, _, hx⟩ := List.mem_flatMap.1 hu
  simp only [PkA.cells, List.mem_cons, List.not_mem_nil, or_false] at hx
  rcases hx with rfl | rfl | rfl | rfl <;> rfl
theorem cellsL_take (l : List PkA) (i : Nat) : cellsL (l.take i) = (cellsL l).take (i * 4) := by
  induction l generalizing i with
  | nil => simp [cellsL]
  | cons x l ih =>
    cases i with
    | zero => simp [cellsL]
    | succ i =>
      have e : ∀ m : List PkA, cellsL (x :: m) = x.cells ++ cellsL m := fun m => by simp [cellsL]
      rw [List.take_succ_cons, e, e, ih, List.take_append]
      have h4 : x.cells.length = 4 := rfl
      rw [h4, List.take_of_length_le (l := x.cells) (by rw [h4]; omega), show (i + 1) * 4 - 4 = i * 4 by omega]
theorem cellsL_drop (l : List PkA) (i : Nat) : cellsL (l.drop i) = (cellsL l).drop (i * 4) := by
  induction l generalizing i with
  | nil => simp [cellsL]
  | cons x l ih =>
    cases i with
    | zero => simp [cellsL]
    | succ i =>
      have e : cellsL (x :: l) = x.cells ++ cellsL l := by simp [cellsL]
      have h4 : x.cells.length = 4 := rfl
      rw [List.drop_succ_cons, e, ih, List.drop_append, h4, List.drop_of_length_le (l := x.cells) (by rw [h4]; omega), show (i + 1) * 4 - 4 = i * 4 by omega, List.nil_append]
theorem cellsL_erase (l : List PkA) (i : Nat) : cellsL (l.eraseIdx i) = (cellsL l).take (i * 4) ++ (cellsL l).drop ((i + 1) * 4) := by
  rw [List.eraseIdx_eq_take_drop_succ, ← cellsL_take, ← cellsL_drop]
  simp [cellsL]
theorem own_reads {w : World} {B : Nat} {A : Option Addr} {n c : Nat} {xs : List Value} (h : w.ownsRow B 75 4 (.slice A n c) n xs) : Reads w w.heap.size 4 A n xs := by
  refine ⟨h.1, fun h0 => ?_⟩
  obtain ⟨g, cur, rfl, _, hg, hcur⟩ := own4_form h h0
  refine ⟨_, rfl, hg.lt, fun j u hu => ?_⟩
  have e : (⟨g, 0, none⟩ : Addr).add j = ⟨g, j, none⟩ := by unfold Addr.add; split <;> simp_all
  rw [e, hg.cell]
  exact hcur j u hu
theorem Reads.take {w : World} {B size n : Nat} {A : Option Addr} {xs : List Value} (h : Reads w B size A n xs) {k : Nat} (hk : k ≤ n) : Reads w B size A k (xs.take (k * size)) := by
  refine ⟨by rw [List.length_take, h.1]; exact Nat.min_eq_left (Nat.mul_le_mul_right _ hk), fun h0 => ?_⟩
  obtain ⟨ad, e, hb, hc⟩ := h.2 (by omega)
  refine ⟨ad, e, hb, fun j u hu => ?_⟩
  rw [List.getElem?_take] at hu
  by_cases hj : j < k * size
  · rw [if_pos hj] at hu; exact hc j u hu
  · rw [if_neg hj] at hu; cases hu
theorem ref_set0 {B : Nat} {w w2 : World} {mb : Nat} {nx : Int} {l l' : List PkA} {A2 : Option Addr} {c2 n2 : Nat} {xs2 : List Value} (h : RefAt B w mb nx l) (hB2 : Below w.heap.size w w2) (ho2 : w2.ownsRow B 75 4 (.slice A2 n2 c2) n2 xs2) (hn : n2 = l'.length) (hx : xs2 = cellsL l') (hr : ∀ x ∈ l', x ∈ l) (q : Nat) :
    RefAt B ((w2.setCell ⟨mb, 0, none⟩ (.slice A2 n2 c2)).drewN q) mb nx l' ∧ Fr (RefX B mb w) w ((w2.setCell ⟨mb, 0, none⟩ (.slice A2 n2 c2)).drewN q) := by
  subst hn hx
  obtain ⟨A, c, hb, _⟩ := h.blk
  have b2 : Blk w2 mb 54 _ := (hB2.block mb hb.lt).trans hb
  have hf : Fr (RefX B mb w) w (w2.setCell ⟨mb, 0, none⟩ (.slice A2 l'.length c2)) := (Fr.of_below hB2).setCell (.inr (.inl rfl)) _
  have k8 : Keep8 w2 (w2.setCell ⟨mb, 0, none⟩ (.slice A2 l'.length c2)) := fun g cs fz hg => by
    have hne : g ≠ mb := fun e => by subst e; rw [show w2.heap[g]? = _ from b2] at hg; cases hg
    exact (Below.heap_setCell _ _ _ _ hne).trans hg
  have b3 : Blk (w2.setCell ⟨mb, 0, none⟩ (.slice A2 l'.length c2)) mb 54 #[.slice A2 l'.length c2, .int .i64 nx] := by simpa using b2.set_ 0 (.slice A2 l'.length c2)
  refine ⟨⟨⟨A2, c2, b3, ?_⟩, h.base, fun x hx => ((h.rows x (hr x hx)).keep (Keep8.of_below hB2)).keep k8⟩, ⟨hf.os, hf.tape, hf.output, hf.size, hf.block⟩⟩
  refine ⟨ho2.1, ho2.2.imp id ?_⟩
  rintro ⟨g, cap, cur, e1, e2, e3, e4⟩
  have hne : g ≠ mb := fun e => by subst e; rw [show w2.heap[g]? = _ from b2] at e3; cases e3
  exact ⟨g, cap, cur, e1, e2, (Below.heap_setCell _ _ _ _ hne).trans e3, e4⟩
section
variable {B : Nat} {w : World} {mb : Nat} {nx : Int} {l : List PkA}
set_option maxHeartbeats 1000000 in
set_option maxRecDepth 100000 in
theorem RDeliver_none (h : RefAt B w mb nx l) (hl : l.length ≤ 1000000) {id : Int} (hlk : look id l 0 = none) :
    Calls Try.prog 21 #[.pointer (some ⟨mb, 0, none⟩), .int .i64 id] w fun e w' => e = .returned (.tuple #[.int .i64 0, .slice none 0 0, .int .i64 7]) ∧ w = w' := by
  go_enter Try.func21, Try.ntmps21
  go_wp2_with (go_at_call 31; refine (at_none h hl hlk).mono ?_; rintro e w1 ⟨rfl, rfl⟩)
  go_ret3
  exact ⟨rfl, rfl⟩
set_option maxHeartbeats 4000000 in
set_option maxRecDepth 100000 in
theorem RDeliver_some (h : RefAt B w mb nx l) (hBw : B ≤ w.heap.size) (hl : l.length ≤ 100) {id : Int} {j : Nat} {y : PkA} (hlk : look id l 0 = some (j, y)) :
    Calls Try.prog 21 #[.pointer (some ⟨mb, 0, none⟩), .int .i64 id] w fun e w' => e = .returned (.tuple #[.int .i64 y.p.to, .slice y.A y.p.b.length y.c, .int .i64 0]) ∧ RefAt B w' mb nx (l.eraseIdx j) ∧ Fr (RefX B mb w) w w' := by
  obtain ⟨A, c, hb, hown⟩ := h.blk
  obtain ⟨i7, hi7, hz7, hz7', hz7''⟩ := info_parts Try.info75
  have c0 : w.cell? ⟨mb, 0, none⟩ = some (.slice A l.length c) := hb.cell 0
  obtain ⟨_, hj, hid⟩ := look_spec _ _ _ _ _ hlk
  simp only [Nat.sub_zero] at hj
  have hjl := (List.getElem?_eq_some_iff.1 hj).1
  obtain ⟨g, cur, rfl, hgB, hg, hcur⟩ := own4_form hown (by omega)
  have hcell : ∀ i, i < 4 → w.cell? ⟨g, j * 4 + i, none⟩ = y.cells[i]? := fun i hi => by
    rw [hg.cell]
    have h1 : y.cells[i]? = some (y.cells[i]'(by simpa [PkA.cells] using hi)) := List.getElem?_eq_getElem _
    rw [h1]
    exact hcur _ _ ((cellsL_at hj i hi).trans h1)
  have e0 : w.cell? ⟨g, j * 4, none⟩ = some (.int .i64 y.p.id) := hcell 0 (by omega)
  have e1 : w.cell? ⟨g, j * 4 + 1, none⟩ = some (.int .i64 y.p.to) := hcell 1 (by omega)
  have e2 : w.cell? ⟨g, j * 4 + 2, none⟩ = some (.slice y.A y.p.b.length y.c) := hcell 2 (by omega)
  have e3 : w.cell? ⟨g, j * 4 + 3, none⟩ = some (.bool y.p.sp) := hcell 3 (by omega)
  have hmb := hb.lt
  have hlc : l.length ≤ c := by
    rcases hown.2 with ⟨e, _⟩ | ⟨_, _, _, e, _, _, h1, _⟩
    · cases e
    · simp at e; omega
  have hcm : c ≤ 9223372036854775807 := by
    rcases hown.2 with ⟨e, _⟩ | ⟨_, _, _, e, _, _, _, h1, _⟩
    · cases e
    · simp [maxLen] at e h1; omega
  have hjc : (j : Int) ≤ c := by omega
  have hj0 : (0 : Int) ≤ j := by omega
  have d0 : decide ((j : Int) < 0) = false := by simp
  clear hid hcell hj
  have hread := own_reads hown
  by_cases hcj : c = j + 1
  · have hcut : Reads w w.heap.size 4 (some ⟨g, 0, none⟩) (l.length - (j + 1)) ((cellsL l).drop ((j + 1) * 4)) := by
      have := hread.cut (k := j + 1) (cap := c) (by omega) hlc
      rwa [if_pos hcj] at this
    subst hcj
    go_enter Try.func21, Try.ntmps21
    go_wp2_with (first
      | (go_at_call 31; refine (at_some h (by omega) hlk).mono ?_; rintro e w1 ⟨rfl, rfl⟩)
      | (at_builtin; refine wpList_append_any _ rfl (.tmp 22) (.tmp 28) _ rfl B 75 i7 _ 4 48 Try.underlying52 hi7 hz7 hz7' hz7'' rfl (by omega) (.slice none 0 0) 0 [] rfl (World.ownsRow_nil _ _ _ _) w.heap.size (some ⟨g, 0, none⟩) j _ ((cellsL l).take (j * 4)) rfl ((hread.take (by omega)).alloc (Nat.le_refl _) _) (fun u hu => cellsL_one l u (List.mem_of_mem_take hu)) (by simp only [maxLen]; omega) (by omega) (by simp; omega) ?_; intro v1 w1 ho1 hg1 hl1; simp only [Nat.zero_add, List.nil_append] at ho1; have bx1 : Blk w1 w.heap.size 75 #[.int .i64 y.p.id, .int .i64 y.p.to, .slice y.A y.p.b.length y.c, .bool y.p.sp] := (hg1.block w.heap.size (by simp) (by simp [Value.ownBlock])).trans (Blk.new w 75 _); obtain ⟨A1, c1, rfl⟩ := own_form_any ho1; have bm1 : Blk w1 mb 54 _ := (((Below.refl _ w).alloc (Nat.le_refl _) _).grown hg1 (by simp) (fun k e => by simp [Value.ownBlock] at e)).block mb hmb |>.trans hb; have f1 := bm1.frozen 0; have hB1 : Below w.heap.size w w1 := (((Below.refl _ w).alloc (Nat.le_refl _) _).grown hg1 (by simp) (fun k e => by simp [Value.ownBlock] at e)); have k0 := (hB1.cell (p := ⟨mb, 0, none⟩) hmb).trans c0)
      | (at_builtin; refine wpList_append_any _ rfl (.tmp 31) (.tmp 38) _ rfl B 75 i7 _ 4 48 Try.underlying52 hi7 hz7 hz7' hz7'' rfl (by omega) (.slice A1 j c1) j ((cellsL l).take (j * 4)) rfl ho1 w.heap.size _ 0 _ [] rfl ⟨rfl, fun h => absurd h (by omega)⟩ (fun u hu => by cases hu) (by simp only [maxLen]; omega) (by omega) (by have := hB1.size; omega) ?_; intro v2 w2 ho2 hg2 hl2; obtain ⟨A2, c2, rfl⟩ := own_form_any ho2; have bm2 : Blk w2 mb 54 _ := blk_otherN bm1 hg2 ho1 (by decide); have m0 := bm2.cell 0; have n0 := bm2.frozen 0; have hne1 : ∀ k, k ≤ w.heap.size → some k ≠ (Value.slice A1 j c1).ownBlock := (fun k hk e => by rcases hl1 with h1 | h1 <;> rw [h1] at e <;> simp [Value.ownBlock] at e <;> omega); have hB2 : Below w.heap.size w w2 := hB1.grown hg2 hB1.size (fun k e => by rcases Nat.lt_or_ge k w.heap.size with h1 | h1; exact absurd e.symm (hne1 k (by omega)); exact h1); have bx2 : Blk w2 w.heap.size 75 #[.int .i64 y.p.id, .int .i64 y.p.to, .slice y.A y.p.b.length y.c, .bool y.p.sp] := (hg2.block _ (by have := hg1.size; simp at this; omega) (hne1 _ (Nat.le_refl _))).trans bx1; have x1 := bx2.cell 1; have x2 := bx2.cell 2))
    go_quiet (fail)
    go_wp2
    go_ret3
    obtain ⟨r1, r2⟩ := ref_set0 (l' := l.eraseIdx j) h hB2 ho2 (by rw [List.length_eraseIdx, if_pos hjl]; omega) (by rw [cellsL_erase]; rw [List.drop_of_length_le (by rw [cellsL_len]; omega)]) (fun x hx => mem_erase hx) nq
    exact ⟨rfl, by simpa using r1, by simpa using r2⟩
  · have hcut : Reads w w.heap.size 4 (some ⟨g, (j + 1) * 4, none⟩) (l.length - (j + 1)) ((cellsL l).drop ((j + 1) * 4)) := by
      have := hread.cut (k := j + 1) (cap := c) (by omega) hlc
      rw [if_neg hcj] at this
      have e : (⟨g, 0, none⟩ : Addr).add ((j + 1) * 4) = ⟨g, (j + 1) * 4, none⟩ := by unfold Addr.add; rw [if_neg (by omega)]; simp
      simpa [e] using this
    go_enter Try.func21, Try.ntmps21
    go_wp2_with (first
      | (go_at_call 31; refine (at_some h (by omega) hlk).mono ?_; rintro e w1 ⟨rfl, rfl⟩)
      | (at_builtin; refine wpList_append_any _ rfl (.tmp 22) (.tmp 28) _ rfl B 75 i7 _ 4 48 Try.underlying52 hi7 hz7 hz7' hz7'' rfl (by omega) (.slice none 0 0) 0 [] rfl (World.ownsRow_nil _ _ _ _) w.heap.size (some ⟨g, 0, none⟩) j _ ((cellsL l).take (j * 4)) rfl ((hread.take (by omega)).alloc (Nat.le_refl _) _) (fun u hu => cellsL_one l u (List.mem_of_mem_take hu)) (by simp only [maxLen]; omega) (by omega) (by simp; omega) ?_; intro v1 w1 ho1 hg1 hl1; simp only [Nat.zero_add, List.nil_append] at ho1; have bx1 : Blk w1 w.heap.size 75 #[.int .i64 y.p.id, .int .i64 y.p.to, .slice y.A y.p.b.length y.c, .bool y.p.sp] := (hg1.block w.heap.size (by simp) (by simp [Value.ownBlock])).trans (Blk.new w 75 _); obtain ⟨A1, c1, rfl⟩ := own_form_any ho1; have bm1 : Blk w1 mb 54 _ := (((Below.refl _ w).alloc (Nat.le_refl _) _).grown hg1 (by simp) (fun k e => by simp [Value.ownBlock] at e)).block mb hmb |>.trans hb; have f1 := bm1.frozen 0; have hB1 : Below w.heap.size w w1 := (((Below.refl _ w).alloc (Nat.le_refl _) _).grown hg1 (by simp) (fun k e => by simp [Value.ownBlock] at e)); have k0 := (hB1.cell (p := ⟨mb, 0, none⟩) hmb).trans c0)
      | (at_builtin; refine wpList_append_any _ rfl (.tmp 31) (.tmp 38) _ rfl B 75 i7 _ 4 48 Try.underlying52 hi7 hz7 hz7' hz7'' rfl (by omega) (.slice A1 j c1) j ((cellsL l).take (j * 4)) rfl ho1 w.heap.size _ (l.length - (j + 1)) _ ((cellsL l).drop ((j + 1) * 4)) rfl (hcut.below hB1) (fun u hu => cellsL_one l u (List.mem_of_mem_drop hu)) (by simp only [maxLen]; omega) (by omega) (by have := hB1.size; omega) ?_; intro v2 w2 ho2 hg2 hl2; obtain ⟨A2, c2, rfl⟩ := own_form_any ho2; have bm2 : Blk w2 mb 54 _ := blk_otherN bm1 hg2 ho1 (by decide); have m0 := bm2.cell 0; have n0 := bm2.frozen 0; have hne1 : ∀ k, k ≤ w.heap.size → some k ≠ (Value.slice A1 j c1).ownBlock := (fun k hk e => by rcases hl1 with h1 | h1 <;> rw [h1] at e <;> simp [Value.ownBlock] at e <;> omega); have hB2 : Below w.heap.size w w2 := hB1.grown hg2 hB1.size (fun k e => by rcases Nat.lt_or_ge k w.heap.size with h1 | h1; exact absurd e.symm (hne1 k (by omega)); exact h1); have bx2 : Blk w2 w.heap.size 75 #[.int .i64 y.p.id, .int .i64 y.p.to, .slice y.A y.p.b.length y.c, .bool y.p.sp] := (hg2.block _ (by have := hg1.size; simp at this; omega) (hne1 _ (Nat.le_refl _))).trans bx1; have x1 := bx2.cell 1; have x2 := bx2.cell 2))
    go_quiet (fail)
    go_wp2
    go_ret3
    obtain ⟨r1, r2⟩ := ref_set0 (l' := l.eraseIdx j) h hB2 ho2 (by rw [List.length_eraseIdx, if_pos hjl]; omega) (by rw [cellsL_erase]) (fun x hx => mem_erase hx) nq
    exact ⟨rfl, r1, r2⟩
set_option maxHeartbeats 1000000 in
set_option maxRecDepth 100000 in
theorem RDrop_none (h : RefAt B w mb nx l) (hl : l.length ≤ 1000000) {id : Int} (hlk : look id l 0 = none) :
    Calls Try.prog 22 #[.pointer (some ⟨mb, 0, none⟩), .int .i64 id] w fun e w' => e = .returned (.int .i64 7) ∧ w = w' := by
  go_enter Try.func22, Try.ntmps22
  go_wp2_with (go_at_call 21; refine (RDeliver_none h hl hlk).mono ?_; rintro e w1 ⟨rfl, rfl⟩)
  go_ret
  exact ⟨rfl, rfl⟩
set_option maxHeartbeats 1000000 in
set_option maxRecDepth 100000 in
theorem RDrop_some (h : RefAt B w mb nx l) (hBw : B ≤ w.heap.size) (hl : l.length ≤ 100) {id : Int} {j : Nat} {y : PkA} (hlk : look id l 0 = some (j, y)) :
    Calls Try.prog 22 #[.pointer (some ⟨mb, 0, none⟩), .int .i64 id] w fun e w' => e = .returned (.int .i64 0) ∧ RefAt B w' mb nx (l.eraseIdx j) ∧ Fr (RefX B mb w) w w' := by
  go_enter Try.func22, Try.ntmps22
  go_wp2_with (go_at_call 21; refine (RDeliver_some h hBw hl hlk).mono ?_; rintro e w1 ⟨rfl, hh⟩)
  go_ret
  exact ⟨rfl, hh⟩
end
end Go.Proofs.Ytlhmhalamfjhjaa
