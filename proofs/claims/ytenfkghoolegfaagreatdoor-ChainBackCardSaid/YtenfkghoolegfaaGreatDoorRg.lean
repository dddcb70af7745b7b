/- The chain's live: walked. ChainBack: its calls. What comes in: rows of bytes. -/
import Derived.Test.YtenfkghoolegfaaGreatDoorRf
set_option linter.unusedVariables false
namespace Go.Proofs.YtenfkghoolegfaaGreatDoor
open Go.RowKit
def vL : List UInt8 := (zB 300).set 299 7
theorem vL_len : vL.length = 300 := by unfold vL; rw [List.length_set]; exact zB_len 300
theorem reads_blkB {w : World} {g : Nat} {l : List UInt8} (h : Blk w g 5 (bl l).toArray) : Reads w w.heap.size 1 (some ⟨g, 0, none⟩) l.length (bl l) :=
  ⟨by rw [bl_len, Nat.mul_one], fun _ => ⟨_, rfl, h.lt, fun j u hu => by
    rw [show (⟨g, 0, none⟩ : Addr).add j = ⟨g, j, none⟩ by unfold Addr.add; split <;> simp_all]
    rw [h.cell j]
    simpa using hu⟩⟩
theorem reads_two {w : World} {g x y : Nat} (h : Blk w g 22 #[.int .u32 (x : Nat), .int .u32 (y : Nat)]) : Reads w w.heap.size 1 (some ⟨g, 0, none⟩) 2 (ul [x, y]) := by
  refine ⟨rfl, fun _ => ⟨_, rfl, h.lt, fun j u hu => ?_⟩⟩
  rw [show (⟨g, 0, none⟩ : Addr).add j = ⟨g, j, none⟩ by unfold Addr.add; split <;> simp_all]
  rw [h.cell j]
  unfold ul at hu
  match j, hu with
  | 0, hu => exact hu
  | 1, hu => exact hu
  | j + 2, hu => cases hu
theorem lv_write : ∃ t', writeT (freshT 1) vL = (0, 2, t') ∧ t'.OK ∧ ChainAt t' [2, 3] vL ∧ walkT t' 5 2 300 = .ok ([2, 3], vL) ∧ walkT t' 5 2 299 = .error 100 := by
  obtain ⟨t', h1, h2, h3, h4⟩ := back_write (t := freshT 1) back_fresh (v := vL) (by rw [vL_len]; omega) (by rw [vL_len]; omega) (by decide)
  have hn : nCh vL = 2 := by unfold nCh; rw [vL_len]
  have hr : List.range' (freshT 1).pages (nCh vL) = [2, 3] := by rw [hn]; rfl
  rw [hr] at h2
  have hm : ([2, 3], vL) ∈ ([] ++ [([2, 3], vL)] : List (List Nat × List UInt8)) := by simp
  have hl := (h2.laid _ hm).1
  have hb : ∀ p ∈ [2, 3], p < t'.pages := fun p hp => (h2.bound p (by rw [List.mem_append, List.mem_flatMap]; exact .inl ⟨_, hm, hp⟩)).2
  have hrd := back_read h2 hm
  unfold readT at hrd
  rw [vL_len, if_neg (by omega)] at hrd
  refine ⟨t', h1, h2.ok, ⟨hl, by simp, hb, by decide⟩, hrd, ?_⟩
  have hl2 : LaidC t'.lsn t'.over [3] (vL.drop 238) := hl.2.2.2.2
  rw [walkT_step h2.ok hl (hb 2 (by simp)) 4 299 (by omega)]
  have e1 : (vL.take 238).length = 238 := by rw [List.length_take, vL_len]; rfl
  rw [if_neg (by rw [e1]; rintro (h9 | h9); exact h9 rfl; exact h9 (by decide))]
  rw [show ([3] : List Nat).headD 0 = 3 from rfl, show 299 - min 238 299 = 61 by decide, walkT_step h2.ok hl2 (hb 3 (by simp)) 3 61 (by omega)]
  have e2 : ((vL.drop 238).take 238).length = 62 := by rw [List.length_take, List.length_drop, vL_len]; rfl
  rw [if_pos (.inl (by rw [e2]; decide))]
set_option maxHeartbeats 4000000 in
set_option maxRecDepth 1000000 in
theorem clive_any (w : World) (hg : GlobAt w) (ht : PowAt w) : Calls Tryz.prog 10 #[] w fun e w' => e = .returned (.bool true) ∧ Below w.heap.size w w' := by
  obtain ⟨t', g1, g2, g3, g4, g5⟩ := lv_write
  have h2w : 2 ≤ w.heap.size := by
    have := ht
    unfold PowAt at this
    rcases Nat.lt_or_ge 1 w.heap.size with h | h
    · exact h
    · rw [Array.getElem?_eq_none h] at this; cases this
  have hF := Fresh_any 1 (by decide) w
  have hm : ∀ W : World, (Instr.makeSlice 23 (.int .i64 300) (.int .i64 300)).run Tryz.prog W = .ok (.slice (some ⟨W.heap.size, 0, none⟩) 300 300) (W.alloc (.cells (bl (zB 300)).toArray 5)) := fun W => make_zB 300 (by omega) W
  have hz : ∀ W : World, (W.alloc (.cells (bl (zB 300)).toArray 5)).frozen? ⟨W.heap.size, 299, none⟩ = false := fun W => (Blk.new W _ _).frozen 299
  have hz2 : ∀ W : World, (W.alloc (.cells (bl (zB 300)).toArray 5)).cell? ⟨W.heap.size, 299, none⟩ = some (.int .u8 0) := fun W => ((Blk.new W 5 (bl (zB 300)).toArray).cell 299).trans (by rw [List.getElem?_toArray]; unfold bl; rw [List.getElem?_map]; unfold zB; rw [List.getElem?_replicate]; rfl)
  have hset : (bl (zB 300)).set 299 (.int .u8 7) = bl vL := by unfold vL bl; rw [List.map_set]; rfl
  obtain ⟨l0, HL0⟩ : ∃ l0, Hid (([2, 3] : List Nat) = l0) := ⟨_, Lib.hid rfl⟩
  obtain ⟨v0, HV0⟩ : ∃ v0, Hid (vL = v0) := ⟨_, Lib.hid rfl⟩
  rw [HL0.out] at g3 g4
  rw [HV0.out] at g1 g3 g4 hset
  have hv0 : v0.length = 300 := by rw [← HV0.out]; exact vL_len
  have hp0 : l0.headD 0 = 2 := by rw [← HL0.out]; rfl
  have HG := Lib.hid (And.intro g1 (And.intro g2 (And.intro g3 (And.intro g4 (And.intro g5 (And.intro hset (And.intro hv0 hp0)))))))
  clear g1 g2 g3 g4 g5 hset hp0
  go_enter Tryz.func10, Tryz.ntmps10
  go_wp2_with (first
    | (go_at_call 12; refine hF.mono ?_; rintro e w1 ⟨T, M, rfl, h1, hb1⟩; have h1 := h1.cut; have hb1s := hb1.size)
    | (go_at_call 13; rw [HG.out.2.2.2.2.2.1]; obtain ⟨w3, hw3⟩ : ∃ w3, w1.alloc (.cells (bl v0).toArray 5) = w3 := ⟨_, rfl⟩; have hb3 : Below w1.heap.size w1 w3 := (by rw [← hw3]; exact (Below.refl _ w1).alloc (Nat.le_refl _) _); have hB3 : Blk w3 w1.heap.size 5 (bl v0).toArray := (by rw [← hw3]; exact Blk.new _ _ _); rw [hw3]; have hr3 := reads_blkB hB3; have h3s := hB3.lt; have h13 := hb1.trans (hb3.mono hb1s);
       have hW := Write_ok (h1.keep (KeepX.of_below hb3)) (fun k hk => Nat.lt_of_lt_of_le hk.2 hb3.size) (fun h9 => by have := h9.1; omega) (powBelow ht h13) back_fresh v0 ⟨w1.heap.size, 0, none⟩ 300 hr3 (fun h9 => by have := h9.2; exact absurd this (Nat.lt_irrefl _)) (by omega) (by omega) (by omega) (by decide);
       rw [HG.out.1, hv0, show (((freshT 1).pages : Nat) : Int) = 2 from rfl] at hW; clear hw3; refine hW.mono ?_; rintro e w4 ⟨rfl, h4, hF4⟩; have h4 := h4.cut; have hF4s := hF4.size; have h14 : Below w.heap.size w w4 := h13.trans (hF4.below (B := w.heap.size) h13.size (fun k hk => hk.1)); have hP := Pages_laid h4 (fun k hk => hk.2) HG.out.2.1 (powBelow ht h14) (by omega) HG.out.2.2.1 2 HG.out.2.2.2.2.2.2.2 300 (by omega) HG.out.2.2.2.1; have hBv : Blk w4 w1.heap.size 5 (bl v0).toArray := hB3.fr hF4 (fun h9 => by have := h9.2; omega))
    | (go_at_call 33; refine hP.mono ?_; rintro e w5 ⟨A5, c5, rfl, ho5, hb5⟩; have h5 := h4.keep (KeepX.of_below hb5); have h5s := hb5.size; have h15 := h14.trans (hb5.mono h14.size); have hR := Read_laid h5 (fun k hk => Nat.lt_of_lt_of_le hk.2 hb5.size) HG.out.2.1 (powBelow ht h15) (by omega) HG.out.2.2.1 2 HG.out.2.2.2.2.2.2.2 300 (by omega) HG.out.2.2.2.1; have hE := fun W (hW : Below w5.heap.size w5 W) => Read_err (h5.keep (KeepX.of_below hW)) (fun k hk => Nat.lt_of_lt_of_le (Nat.lt_of_lt_of_le hk.2 hb5.size) hW.size) HG.out.2.1 (globBelow hg (h15.trans (hW.mono h15.size))) (powBelow ht (h15.trans (hW.mono h15.size))) (by have := hW.size; omega) HG.out.2.2.1 2 HG.out.2.2.2.2.2.2.2 299 (by omega) HG.out.2.2.2.2.1)
    | (go_at_call 14; refine hR.mono ?_; rintro e w6 ⟨A6, c6, rfl, ho6, hb6⟩; have h6s := hb6.size; have hE6 := hE w6 hb6; clear hR)
    | (go_at_call 14; refine hE6.mono ?_; rintro e w7 ⟨u7, rfl, hu7, hb7⟩; have h7s := hb7.size))
  go_at_call 34
  obtain ⟨w8, hw8⟩ : ∃ w8, w7.alloc (.cells #[.int .u32 2, .int .u32 3] 22) = w8 := ⟨_, rfl⟩
  have hb8 : Below w7.heap.size w7 w8 := (by rw [← hw8]; exact (Below.refl _ w7).alloc (Nat.le_refl _) _)
  have hB8 : Blk w8 w7.heap.size 22 #[.int .u32 2, .int .u32 3] := (by rw [← hw8]; exact Blk.new _ _ _)
  rw [hw8]
  clear hw8
  have h8s := hb8.size
  have h58 : Below w5.heap.size w5 w8 := hb6.trans ((hb7.trans (hb8.mono h7s)).mono h6s)
  have h68 : Below w6.heap.size w6 w8 := hb7.trans (hb8.mono h7s)
  have hr8 := reads_two (x := 2) (y := 3) hB8
  have hS := same_any c5 2 l0 [2, 3] w8 (Reads.of_own (own_belowN ho5 h58)) hr8 (by rw [← HL0.out]; decide)
  have hdl : decide (l0 = [2, 3]) = true := decide_eq_true HL0.out.symm
  rw [hdl] at hS
  refine hS.mono ?_
  rintro e w9 ⟨rfl, q9, hq9⟩
  have hb9 : Below w8.heap.size w8 w9 := (by rw [hq9]; exact ⟨rfl, rfl, rfl, Nat.le_refl _, fun _ _ => rfl⟩)
  have h9s := hb9.size
  have k1 := conv_reads c6 (Reads.of_own (own_belowN ho6 (h68.trans (hb9.mono (by omega)))))
  have k2 := conv_reads (w := w9) (B := w9.heap.size) (b := v0) 300 (reads_blkB ((hBv.below (hb5.trans ((h58.trans (hb9.mono (by omega))).mono h5s)) hBv.lt)))
  rw [hv0] at k1 k2
  clear hq9
  have h19 : Below w.heap.size w w9 := h15.trans ((h58.trans (hb9.mono (by omega))).mono h15.size)
  have hu9 := hu7.below (B' := w6.heap.size) (hb8.trans (hb9.mono h8s))
  have hI := is_chain (globBelow hg h19) (powBelow ht h19) hu9 (by omega)
  go_wp2_with (go_at_call 35; refine hI.mono ?_; rintro e w10 ⟨rfl, hf10⟩)
  go_ret
  exact ⟨rfl, h19.trans (hf10.below (B := w.heap.size) h19.size (fun k hk => by have hk : w6.heap.size ≤ k := hk; omega))⟩
end Go.Proofs.YtenfkghoolegfaaGreatDoor
set_option linter.unusedVariables false
namespace Go.Proofs.YtenfkghoolegfaaGreatDoor
open Go.RowKit
def headV (t : PT) : Value := .agg #[.int .u32 (t.root : Nat), .int .u32 (t.pages : Nat), .int .u32 (t.free : Nat), .int .u64 (t.entries : Nat)]
set_option maxHeartbeats 2000000 in
set_option maxRecDepth 100000 in
theorem Head_any {X : Nat → Prop} {w : World} {T M : Nat} {t : PT} (h : TX X w T M t) : Calls Tryz.prog 15 #[.pointer (some ⟨T, 0, none⟩)] w fun e w' => e = .returned (headV t) ∧ Below w.heap.size w w' := by
  obtain ⟨O, ck, src, h⟩ := h
  have f2 : w.cell? ⟨T, 2, none⟩ = some (.int .u32 (t.root : Nat)) := h.blk.cell 2
  have f3 : w.cell? ⟨T, 3, none⟩ = some (.int .u32 (t.pages : Nat)) := h.blk.cell 3
  have f4 : w.cell? ⟨T, 4, none⟩ = some (.int .u32 (t.free : Nat)) := h.blk.cell 4
  have f5 : w.cell? ⟨T, 5, none⟩ = some (.int .u64 (t.entries : Nat)) := h.blk.cell 5
  have hT := h.lt.1
  clear h
  unfold headV
  go_enter Tryz.func15, Tryz.ntmps15
  go_wp2
  refine bodyPost_ret (results_cell_row rfl _ _ w.heap.size 43 _ (0, 0) _ rfl (heap_alloc_new w _) Tryz.underlying43 rfl (by kernel_rfl)) rfl ?_
  exact ⟨rfl, (Below.refl _ w).alloc (Nat.le_refl _) _⟩
set_option maxRecDepth 1000000 in
theorem head_pages (a b c d : Value) (W : World) : (Instr.field 43 (.agg #[a, b, c, d]) 1).run Tryz.prog W = .ok b W := by rfl
set_option maxRecDepth 1000000 in
theorem head_free (a b c d : Value) (W : World) : (Instr.field 43 (.agg #[a, b, c, d]) 2).run Tryz.prog W = .ok c W := by rfl
structure BackM (w wr : World) (T M : Nat) (Af : Option Addr) (cf : Nat) (f : List Nat) (Y : Nat → Prop) (t : PT) : Prop where
  tx : TX Y wr T M t
  yb : ∀ k, Y k → w.heap.size ≤ k ∧ k < wr.heap.size
  row : RowN wr w.heap.size Y Af cf f
  below : Below w.heap.size w wr
/-- Behind a call on the transaction. -/
theorem BackM.call {w wr w' : World} {T M : Nat} {Af : Option Addr} {cf : Nat} {f : List Nat} {Y : Nat → Prop} {t : PT} (h : BackM w wr T M Af cf f Y t) {t' : PT} (hT : TX (moreX Y wr) w' T M t') (hf : Fr Y wr w') : ∃ Y', BackM w w' T M Af cf f Y' t' :=
  ⟨fun k => moreX Y wr k ∧ k < w'.heap.size, hT.cut, fun k hk => ⟨hk.1.elim (fun h1 => (h.yb k h1).1) (fun h1 => Nat.le_trans h.below.size h1), hk.2⟩,
    h.row.fr hf (fun _ h => h) (fun k hk => hk.1), h.below.trans (hf.below h.below.size fun k hk => (h.yb k hk).1)⟩
/-- Behind a call that leaves all that was there. -/
theorem BackM.quiet {w wr w' : World} {T M : Nat} {Af : Option Addr} {cf : Nat} {f : List Nat} {Y : Nat → Prop} {t : PT} (h : BackM w wr T M Af cf f Y t) (hb : Below wr.heap.size wr w') : BackM w w' T M Af cf f Y t :=
  ⟨h.tx.keep (KeepX.of_below hb), fun k hk => ⟨(h.yb k hk).1, Nat.lt_of_lt_of_le (h.yb k hk).2 hb.size⟩, h.row.fr (X := fun _ => False) (Fr.of_below hb) (fun _ h => h.elim) (fun k hk => .inl hk), h.below.trans (hb.mono h.below.size)⟩
theorem alloc_chain {Y : Nat → Prop} {w : World} {T M : Nat} {t : PT} (h : TX Y w T M t) (ok : t.OK) {p : Nat} {fr : List Nat} (hc : Chain t.lsn t.pages t.over t.free (p :: fr)) :
    ∃ t', t'.OK ∧ t'.pages = t.pages ∧ Chain t'.lsn t'.pages t'.over t'.free fr ∧
      Calls Tryz.prog 17 #[.pointer (some ⟨T, 0, none⟩)] w fun e w' => e = .returned (.tuple #[.int .u32 (p : Nat), .nilIface]) ∧ TX (moreX Y w) w' T M t' ∧ Fr Y w w' := by
  obtain ⟨t', h1, h2, h3, h4⟩ := back_alloc ok hc
  refine ⟨t', h2, h3, h4, ?_⟩
  obtain ⟨q1, q2, q3, nx, q4, q5, q6⟩ := hc
  have h0 := ok.head
  have hg := (get_putND (freePg_put t.lsn nx) (freePg_fit ok.lsn (by omega))).1
  rw [← q1] at q4 q3 q2
  have hnt : nodeT t t.free = .ok (freePg t.lsn nx) := by
    unfold nodeT pageT
    rw [if_neg (by omega), q4]
    exact hg
  have e : allocT t = (0, t.free, { t with free := nx, changed := true }) := by
    unfold allocT
    rw [if_pos (by omega), hnt]
    simp only
    rw [if_neg (by rw [show (freePg t.lsn nx).kind = 5 from rfl, show (freePg t.lsn nx).next = nx from rfl]; omega)]
    rfl
  rw [e] at h1
  cases h1
  exact Alloc_reuse h (by omega) _ q3 q4 (ReadC_free ok.lsn) hg rfl q5
/-- What came in: rows of bytes. -/
structure ValsAt (w : World) (A : Option Addr) (ps : List Pt) : Prop where
  row : Reads w w.heap.size 1 A ps.length (ps.map Pt.val)
  each : ∀ p ∈ ps, Reads w w.heap.size 1 p.A p.b.length (bl p.b) ∧ p.b.length ≤ p.c
/-- The pages' first numbers. -/
def firsts (vs : List (List Nat × List UInt8)) : List Nat := vs.map fun x => x.1.headD 0
theorem back_chain {t : PT} {vs : List (List Nat × List UInt8)} {fr : List Nat} (h : Back t vs fr) {x : List Nat × List UInt8} (hx : x ∈ vs) : ChainAt t x.1 x.2 ∧ walkT t 5 (x.1.headD 0) x.2.length = .ok (x.1, x.2) ∧ (∀ p ∈ x.1, 2 ≤ p) ∧ 1 ≤ x.2.length ∧ x.2.length ≤ 1000 := by
  obtain ⟨h1, h2, h3⟩ := h.laid x hx
  have hb := fun p hp => h.bound p (by rw [List.mem_append, List.mem_flatMap]; exact .inl ⟨x, hx, hp⟩)
  have hl := h1.len
  have hrd := back_read h hx
  unfold readT at hrd
  rw [if_neg (by omega), Int.toNat_natCast] at hrd
  refine ⟨⟨h1, fun e => ?_, fun p hp => (hb p hp).2, by rw [hl]; exact nCh_le h3⟩, hrd, fun p hp => (hb p hp).1, h2, h3⟩
  rw [e] at hl
  unfold nCh at hl
  simp at hl
  omega
set_option maxHeartbeats 8000000 in
set_option maxRecDepth 1000000 in
theorem cback_any (A : Option Addr) (c : Nat) (ps : List Pt) (w : World) (hv : ValsAt w A ps) (hg : GlobAt w) (ht : PowAt w) :
    Calls Tryz.prog 4 #[.slice A ps.length c] w fun e w' => e = .returned (.bool true) ∧ Below w.heap.size w w' := by
  have HL : Hid (∀ W, Below w.heap.size w W → Calls Tryz.prog 10 #[] W fun e w' => e = .returned (.bool true) ∧ Below W.heap.size W w') := Lib.hid fun W hW => clive_any W (globBelow hg hW) (powBelow ht hW)
  have h2w : 1 < w.heap.size := pow_lt ht
  by_cases hlen : 8 < ps.length
  · have d1 : decide ((8 : Int) < (ps.length : Int)) = true := decide_eq_true (by omega)
    have d2 : decide (8 < ps.length) = true := decide_eq_true hlen
    go_enter Tryz.func4, Tryz.ntmps4
    go_wp2_with (go_at_call 10; refine (HL.out _ (Below.refl _ _)).mono ?_; rintro e w2 ⟨rfl, hbl⟩)
    go_ret
    exact ⟨rfl, hbl⟩
  have d1 : decide ((8 : Int) < (ps.length : Int)) = false := decide_eq_false (by omega)
  have d2 : decide (8 < ps.length) = false := decide_eq_false (by omega)
  have hF := Fresh_any 1 (by decide) w
  have HV := Lib.hid (And.intro hv (And.intro hg ht))
  clear hv hg ht
  go_enter Tryz.func4, Tryz.ntmps4
  go_wp2_with (go_at_call 12; refine hF.mono ?_; rintro e w2 ⟨T, M, rfl, hT2, hb2⟩)
  have hM2 : BackM w w2 T M none 0 (firsts []) (fun k => w.heap.size ≤ k ∧ k < w2.heap.size) (freshT 1) := ⟨hT2.cut, fun k h => h, ⟨⟨rfl, .inl ⟨rfl, rfl⟩⟩, fun ad h => (by cases h)⟩, hb2⟩
  clear hF hT2 hb2
  go_loopw [4, 5] (fun fv i wr => ∃ (k : Nat) (vs : List (List Nat × List UInt8)) (Af : Option Addr) (cf : Nat) (Y : Nat → Prop) (t : PT), k ≤ ps.length ∧ i = .int .i64 k ∧ fv = .slice Af (firsts vs).length cf ∧ vs.map (·.2) = (ps.take k).map (·.b) ∧ Back t vs [] ∧ t.pages ≤ 2 + 5 * k ∧ BackM w wr T M Af cf (firsts vs) Y t) (fun _ i _ => ps.length - (intOf i).toNat)
  case atStart => exact ⟨0, [], none, 0, _, _, Nat.zero_le _, rfl, rfl, rfl, back_fresh, by decide, hM2⟩
  case round =>
    clear hM2
    obtain ⟨k, vs, Af, cf, Y, t, hk, rfl, rfl, hvs, hBk, hpp, hM⟩ := hrel
    obtain ⟨wo, rfl⟩ : ∃ wo, wo = wr := ⟨wr, rfl⟩
    have HM := Lib.hid (And.intro hM (And.intro hBk (And.intro hvs hpp)))
    clear hM hBk hvs
    by_cases hlt : k < ps.length
    · have d3 : decide (k < ps.length) = true := decide_eq_true hlt
      obtain ⟨p, hp⟩ : ∃ p, ps[k]? = some p := ⟨_, List.getElem?_eq_getElem hlt⟩
      obtain ⟨a, rfl, hab, hac⟩ := HV.out.1.row.2 (by omega)
      have hpe := HV.out.1.each p (List.mem_of_getElem? hp)
      have hcv : wo.cell? (a.add k) = some p.val := (HM.out.1.below.cell (p := a.add k) (by rw [block_of_add]; exact hab)).trans (hac k _ (by rw [List.getElem?_map, hp]; rfl))
      unfold Pt.val at hcv
      obtain ⟨L, HLn⟩ : ∃ L, Hid (p.b.length = L) := ⟨_, Lib.hid rfl⟩
      rw [HLn.out] at hcv
      have i0 : (0 : Int) ≤ (k : Int) := by omega
      have i1 : (k : Int) < (ps.length : Int) := by omega
      have HP := Lib.hid (And.intro hp hpe)
      clear hac hp hpe
      by_cases hbad : L < 1 ∨ 1000 < L
      · have hLv := HL.out _ HM.out.1.below
        have e0 : (decide ((L : Int) < 1) = true) ∨ (decide ((L : Int) < 1) = false ∧ decide ((1000 : Int) < (L : Int)) = true) := by
          by_cases h9 : L < 1
          · exact .inl (decide_eq_true (by omega))
          · exact .inr ⟨decide_eq_false (by omega), decide_eq_true (by omega)⟩
        have hBb := HM.out.1.below
        rcases e0 with e1 | ⟨e1, e2⟩
        · have e3 : decide (L < 1) = true := decide_eq_true (by have := of_decide_eq_true e1; omega)
          go_wp2_with (go_at_call 10; refine hLv.mono ?_; rintro e w2 ⟨rfl, hbl⟩)
          go_ret
          exact ⟨rfl, hBb.trans (hbl.mono hBb.size)⟩
        · have e3 : decide (L < 1) = false := decide_eq_false (by have := of_decide_eq_false e1; omega)
          have e4 : decide (1000 < L) = true := decide_eq_true (by have := of_decide_eq_true e2; omega)
          go_wp2_with (go_at_call 10; refine hLv.mono ?_; rintro e w2 ⟨rfl, hbl⟩)
          go_ret
          exact ⟨rfl, hBb.trans (hbl.mono hBb.size)⟩
      · have e1 : decide ((L : Int) < 1) = false := decide_eq_false (by omega)
        have e2 : decide ((1000 : Int) < (L : Int)) = false := decide_eq_false (by omega)
        have e3 : decide (L < 1) = false := decide_eq_false (by omega)
        have e4 : decide (1000 < L) = false := decide_eq_false (by omega)
        obtain ⟨ap, hap, hapb, _⟩ := HP.out.2.1.2 (by have := HLn.out; omega)
        rw [hap] at hcv
        have hb3 := HM.out.1.below
        have hs3 := hb3.size
        obtain ⟨t', g1, g2, g3, g4⟩ := back_write HM.out.2.1 (v := p.b) (by have := HLn.out; omega) (by have := HLn.out; omega) (by omega)
        have hW := Write_ok HM.out.1.tx (fun j hj => (HM.out.1.yb j hj).2) (fun h9 => by have := (HM.out.1.yb 1 h9).1; omega) (powBelow HV.out.2.2 hb3) HM.out.2.1 p.b ap p.c (by rw [← hap]; exact reads_mono (HP.out.2.1.below hb3) hs3) (fun h9 => by have := (HM.out.1.yb _ h9).1; omega) HP.out.2.2 (by have := HLn.out; omega) (by have := HLn.out; omega) (by omega)
        rw [g1, HLn.out] at hW
        obtain ⟨n0, HN0⟩ : ∃ n0, Hid (t.pages = n0) := ⟨_, Lib.hid rfl⟩
        rw [HN0.out] at hW
        go_wp2_with (first
          | (go_at_call 13; refine hW.mono ?_; rintro e w3 ⟨rfl, hT3, hf3⟩; obtain ⟨Y3, hM3⟩ := HM.out.1.call hT3 hf3; obtain ⟨w4, hw4⟩ : ∃ w4, w4 = w3.alloc (.cells #[.int .u32 (n0 : Nat)] 22) := ⟨_, rfl⟩; have hba : Below w3.heap.size w3 w4 := (by rw [hw4]; exact (Below.refl _ w3).alloc (Nat.le_refl _) _); have hrn : Reads w4 w4.heap.size 1 (some ⟨w3.heap.size, 0, none⟩) 1 (ul [n0]) := (by rw [hw4]; exact reads_blk (Blk.new _ _ _) rfl); have hM4 := hM3.quiet hba; have HW4 := Lib.hid hw4; clear hw4)
          | (rw [← HW4.out]; refine list_push TU4 rfl rfl w.heap.size rfl hM4.row.own rfl hrn (ul_one _) (by have : (firsts vs).length = vs.length := (by simp [firsts]); have : vs.length ≤ ps.length := (by have := congrArg List.length HM.out.2.2.1; simp at this; omega); omega) hM4.below.size (k := (firsts vs ++ [n0]).length) (by simp) (ul_app _ _) ?_; intro A7 c7 w7 ho7 hg7 hob7))
        have hf1 : firsts (vs ++ [(List.range' t.pages (nCh p.b), p.b)]) = firsts vs ++ [n0] := by
          unfold firsts
          rw [List.map_append]
          show _ ++ [(List.range' t.pages (nCh p.b)).headD 0] = _
          rw [g4, HN0.out]
        have hY4 : ∀ j, Y3 j → j < w4.heap.size := fun j hj => (hM4.yb j hj).2
        have hro7 := hM4.row.grown hY4 ho7 hob7
        have hK7 : KeepX Y3 w4 w7 := ⟨hg7.size, fun j hj hl => grown_at hg7 hl (fun ad e hh => hM4.row.far ad e (by rw [hh]; exact hj))⟩
        have hM7 : BackM w w7 T M A7 c7 (firsts vs ++ [n0]) Y3 t' := ⟨hM4.tx.keep hK7, fun j hj => ⟨(hM4.yb j hj).1, Nat.lt_of_lt_of_le (hM4.yb j hj).2 hg7.size⟩, hro7, hM4.below.trans (grown_below hg7 hM4.below.size (fun ad e => (hM4.row.lt ad e).2))⟩
        go_roundw
        case rel => exact ⟨k + 1, vs ++ [(List.range' t.pages (nCh p.b), p.b)], A7, c7, Y3, t', by omega, by go_num, by rw [hf1, List.length_append]; rfl, by rw [List.map_append, HM.out.2.2.1, List.take_add_one, HP.out.1, List.map_append]; rfl, g2, by omega, by rw [hf1]; exact hM7⟩
        case measure => simp [intOf]; omega
    · obtain rfl : k = ps.length := by omega
      have d3 : decide (ps.length < ps.length) = false := decide_eq_false (by omega)
      obtain ⟨hM, hBk, hvs, _⟩ := HM.out
      rw [List.take_length] at hvs
      have hvl : vs.length = ps.length := by have := congrArg List.length hvs; simpa using this
      clear HM
      go_wp2
      go_loopw [8] (fun i wr => ∃ (j : Nat) (Y' : Nat → Prop), j ≤ ps.length ∧ i = .int .i64 j ∧ BackM w wr T M Af cf (firsts vs) Y' t) (fun i _ => ps.length - (intOf i).toNat)
      case atStart => exact ⟨0, Y, Nat.zero_le _, rfl, hM⟩
      case round =>
        clear hM
        obtain ⟨j, Y', hj, rfl, hM⟩ := hrel
        have hBd := hM.below
        have HMj := Lib.hid hM
        clear hM
        by_cases hjl : j < ps.length
        · have d4 : decide (j < ps.length) = true := decide_eq_true hjl
          obtain ⟨p, hp⟩ : ∃ p, ps[j]? = some p := ⟨_, List.getElem?_eq_getElem hjl⟩
          obtain ⟨x, hx⟩ : ∃ x, vs[j]? = some x := ⟨_, List.getElem?_eq_getElem (by omega)⟩
          have hxp : x.2 = p.b := by
            have h8 := congrArg (fun l => l[j]?) hvs
            simp only [List.getElem?_map, hx, hp, Option.map_some, Option.some.injEq] at h8
            exact h8
          obtain ⟨a, rfl, hab, hac⟩ := HV.out.1.row.2 (by omega)
          have hpe := HV.out.1.each p (List.mem_of_getElem? hp)
          have hcv : wr.cell? (a.add j) = some p.val := (hBd.cell (p := a.add j) (by rw [block_of_add]; exact hab)).trans (hac j _ (by rw [List.getElem?_map, hp]; rfl))
          unfold Pt.val at hcv
          obtain ⟨q, HQ⟩ : ∃ q, Hid (x.1.headD 0 = q) := ⟨_, Lib.hid rfl⟩
          obtain ⟨gf, rfl, hfc, hcf⟩ := HMj.out.row.cell (k := j) (n := q) (by unfold firsts; rw [List.getElem?_map, hx, ← HQ.out]; rfl)
          obtain ⟨c1, c2, c3, c4, c5⟩ := back_chain hBk (List.mem_of_getElem? hx)
          have hs3 := hBd.size
          have hRd := Read_laid (w := wr.drew) (HMj.out.tx.keep ⟨Nat.le_refl _, fun _ _ _ => rfl⟩) (fun k hk => (HMj.out.yb k hk).2) hBk.ok (powBelow HV.out.2.2 (hBd.trans ⟨rfl, rfl, rfl, Nat.le_refl _, fun _ _ => rfl⟩)) (by show 1 < wr.heap.size; omega) c1 q HQ.out x.2.length ⟨c4, c5⟩ (by rw [← HQ.out]; exact c2)
          obtain ⟨L, HLn⟩ : ∃ L, Hid (p.b.length = L) := ⟨_, Lib.hid rfl⟩
          rw [hxp] at hRd
          have hrp : Reads wr w.heap.size 1 p.A p.b.length (bl p.b) := hpe.1.below hBd
          have kk := conv_reads p.c hrp
          rw [HLn.out] at hRd hcv
          have i0 : (0 : Int) ≤ (j : Int) := by omega
          have i1 : (j : Int) < (ps.length : Int) := by omega
          have i2 : (j : Int) < ((firsts vs).length : Int) := by unfold firsts; rw [List.length_map, hvl]; omega
          have i3 : j < (firsts vs).length := by unfold firsts; rw [List.length_map, hvl]; omega
          have HPP := Lib.hid (And.intro hpe hxp)
          clear hac hp hpe hx hxp c1 c2 c3 c4 c5 hrp kk
          go_wp2_with fail
          refine regionE 15 (fun W => W.cell? ⟨gf, j, none⟩ = some (.int .u32 (q : Nat)) ∧ W.cell? (a.add j) = some (.slice p.A L p.c)) (by kernel_rfl) (by kernel_rfl) (by kernel_rfl) (by kernel_rfl) (by kernel_rfl) (⟨hcf, hcv⟩) (fun hHeld hTl => ?_)
          refine takeE 0 (v := ?_) hTl rfl (by decide) (by kernel_rfl) (by kernel_rfl) (fun _ _ _ h => h) hHeld (Or.inl ⟨by rfl, ?_⟩) (fun hTl => ?_)
          rotate_left
          · intro w hSw; (try dsimp only at hSw); go_simp
            all_goals with_reducible rfl
          try simp only [Act.put, List.setIfInBounds_toArray, List.set_cons_zero, List.set_cons_succ]
          refine takeE 1 (v := ?_) hTl rfl (by decide) (by kernel_rfl) (by kernel_rfl) (fun _ _ _ h => h) hHeld (Or.inl ⟨by rfl, ?_⟩) (fun hTl => ?_)
          rotate_left
          · intro w hSw; (try dsimp only at hSw); go_simp
            all_goals with_reducible rfl
          try simp only [Act.put, List.setIfInBounds_toArray, List.set_cons_zero, List.set_cons_succ]
          refine takeE 2 (v := ?_) hTl rfl (by decide) (by kernel_rfl) (by kernel_rfl) (fun _ _ _ h => h) hHeld (Or.inl ⟨by rfl, ?_⟩) (fun hTl => ?_)
          rotate_left
          · intro w hSw; (try dsimp only at hSw); go_simp
            all_goals with_reducible rfl
          try simp only [Act.put, List.setIfInBounds_toArray, List.set_cons_zero, List.set_cons_succ]
          refine takeE 3 (v := ?_) hTl rfl (by decide) (by kernel_rfl) (by kernel_rfl) (fun _ _ _ h => h) hHeld (Or.inl ⟨by rfl, ?_⟩) (fun hTl => ?_)
          rotate_left
          · intro w hSw; (try dsimp only at hSw); go_simp
            all_goals with_reducible rfl
          try simp only [Act.put, List.setIfInBounds_toArray, List.set_cons_zero, List.set_cons_succ]
          refine takeE 4 (v := ?_) hTl rfl (by decide) (by kernel_rfl) (by kernel_rfl) (fun _ _ _ h => h) hHeld (Or.inl ⟨by rfl, ?_⟩) (fun hTl => ?_)
          rotate_left
          · intro w hSw; (try dsimp only at hSw); go_simp
            all_goals with_reducible rfl
          try simp only [Act.put, List.setIfInBounds_toArray, List.set_cons_zero, List.set_cons_succ]
          refine takeE 5 (v := ?_) hTl rfl (by decide) (by kernel_rfl) (by kernel_rfl) (fun _ _ _ h => h) hHeld (Or.inl ⟨by rfl, ?_⟩) (fun hTl => ?_)
          rotate_left
          · intro w hSw; (try dsimp only at hSw); go_simp
            all_goals with_reducible rfl
          try simp only [Act.put, List.setIfInBounds_toArray, List.set_cons_zero, List.set_cons_succ]
          refine takeE 6 (v := ?_) hTl rfl (by decide) (by kernel_rfl) (by kernel_rfl) (fun _ _ _ h => h) hHeld (Or.inl ⟨by rfl, ?_⟩) (fun hTl => ?_)
          rotate_left
          · intro w hSw; (try dsimp only at hSw); go_simp
            all_goals with_reducible rfl
          try simp only [Act.put, List.setIfInBounds_toArray, List.set_cons_zero, List.set_cons_succ]
          refine takeE 7 (v := ?_) hTl rfl (by decide) (by kernel_rfl) (by kernel_rfl) (fun _ _ _ h => h) hHeld (Or.inl ⟨by rfl, ?_⟩) (fun hTl => ?_)
          rotate_left
          · intro w hSw; (try dsimp only at hSw); go_simp
            all_goals with_reducible rfl
          try simp only [Act.put, List.setIfInBounds_toArray, List.set_cons_zero, List.set_cons_succ]
          refine takeE 8 (v := ?_) hTl rfl (by decide) (by kernel_rfl) (by kernel_rfl) (fun _ _ _ h => h) hHeld (Or.inl ⟨by rfl, ?_⟩) (fun hTl => ?_)
          rotate_left
          · intro w hSw; (try dsimp only at hSw); go_simp
            all_goals with_reducible rfl
          try simp only [Act.put, List.setIfInBounds_toArray, List.set_cons_zero, List.set_cons_succ]
          refine takeE 9 (v := ?_) hTl rfl (by decide) (by kernel_rfl) (by kernel_rfl) (fun _ _ _ h => h) hHeld (Or.inl ⟨by rfl, ?_⟩) (fun hTl => ?_)
          rotate_left
          · intro w hSw; (try dsimp only at hSw); go_simp
            all_goals with_reducible rfl
          try simp only [Act.put, List.setIfInBounds_toArray, List.set_cons_zero, List.set_cons_succ]
          have hTl2 := hTl.step 10 (by kernel_rfl) (by decide)
          clear hTl
          refine oneE 10 rfl (by kernel_rfl) (fun K hK => ?_)
          refine step_callC rfl 14 _ (by go_simp) hRd ?_
          rintro e w5 ⟨A5, c5, rfl, ho5, hb5⟩; refine ⟨_, rfl, ?_⟩; have h5r : Below wr.heap.size wr w5 := ⟨hb5.os, hb5.tape, hb5.output, hb5.size, hb5.block⟩; have h15 := hBd.trans (h5r.mono hs3); have k1 := conv_reads c5 (by have h9 := Reads.of_own ho5; rw [← HLn.out] at h9; exact h9); have k2 := conv_reads p.c (HPP.out.1.1.below h15); rw [HLn.out] at k1 k2; have hcf5 : w5.cell? ⟨gf, j, none⟩ = some (.int .u32 (q : Nat)) := (h5r.cell (p := ⟨gf, j, none⟩) (HMj.out.row.lt _ rfl).1).trans hcf; have hcv5 : w5.cell? (a.add j) = some (.slice p.A L p.c) := (h5r.cell (p := a.add j) (by rw [block_of_add]; omega)).trans hcv; have hHeld := And.intro hcf5 hcv5
          refine hK.out _ _ (fun _ => hHeld) ?_
          clear hK K
          try simp only [Act.put, List.setIfInBounds_toArray, List.set_cons_zero, List.set_cons_succ]
          have hTl := hTl2
          clear hTl2
          refine takeE 11 (v := ?_) hTl rfl (by decide) (by kernel_rfl) (by kernel_rfl) (fun _ _ _ h => h) hHeld (Or.inl ⟨by rfl, ?_⟩) (fun hTl => ?_)
          rotate_left
          · intro w hSw; (try dsimp only at hSw); go_simp
            all_goals with_reducible rfl
          try simp only [Act.put, List.setIfInBounds_toArray, List.set_cons_zero, List.set_cons_succ]
          refine takeE 12 (v := ?_) hTl rfl (by decide) (by kernel_rfl) (by kernel_rfl) (fun _ _ _ h => h) hHeld (Or.inl ⟨by rfl, ?_⟩) (fun hTl => ?_)
          rotate_left
          · intro w hSw; (try dsimp only at hSw); go_simp
            all_goals with_reducible rfl
          try simp only [Act.put, List.setIfInBounds_toArray, List.set_cons_zero, List.set_cons_succ]
          refine takeE 13 (v := ?_) hTl rfl (by decide) (by kernel_rfl) (by kernel_rfl) (fun _ _ _ h => h) hHeld (Or.inl ⟨by rfl, ?_⟩) (fun hTl => ?_)
          rotate_left
          · intro w hSw; (try dsimp only at hSw); go_simp
            all_goals with_reducible rfl
          try simp only [Act.put, List.setIfInBounds_toArray, List.set_cons_zero, List.set_cons_succ]
          refine oneE 14 rfl (by kernel_rfl) (fun K hK => ?_)
          go_simp
          refine hK.out _ _ (fun _ => hHeld) ?_
          clear hK K
          try simp only [Act.put, List.setIfInBounds_toArray, List.set_cons_zero, List.set_cons_succ]
          refine oneE 15 rfl (by kernel_rfl) (fun K hK => ?_)
          go_simp
          refine hK.out _ _ (fun h => absurd h (by decide)) ?_
          clear hK K
          try simp only [Act.put, List.setIfInBounds_toArray, List.set_cons_zero, List.set_cons_succ]
          refine doneE (by kernel_rfl) ?_ _
          have kk1 : ∀ m, (convert 23 9 (.slice A5 L c5)).run Tryz.prog (w5.drewN m) = .ok (.string ⟨p.b.toArray⟩) (w5.drewN m) := fun m => by
            have h9 := conv_reads (w := w5.drewN m) (B := w5.heap.size) (A := A5) (b := p.b) c5 (by have h8 := Reads.of_own ho5; rw [← HLn.out] at h8; exact h8)
            rw [HLn.out] at h9
            exact h9
          have kk2 : ∀ m, (convert 23 9 (.slice p.A L p.c)).run Tryz.prog (w5.drewN m) = .ok (.string ⟨p.b.toArray⟩) (w5.drewN m) := fun m => by
            have h9 := conv_reads (w := w5.drewN m) (B := w.heap.size) (A := p.A) (b := p.b) p.c (by have h7 := HPP.out.1.1.below h15; exact h7)
            rw [HLn.out] at h9
            exact h9
          have hM5 := HMj.out.quiet h5r
          have HM5 := Lib.hid hM5
          clear hM5 k1 k2
          go_wp2_with fail
          go_quiet (fail)
          have hM6 := HM5.out.quiet (w' := w5.drewN nq) ⟨rfl, rfl, rfl, Nat.le_refl _, fun _ _ => rfl⟩
          go_wp2
          go_roundw
          case rel => exact ⟨j + 1, Y', by omega, by go_num, hM6⟩
          case measure => simp [intOf]; omega
        · obtain rfl : j = ps.length := by omega
          have d4 : decide (ps.length < ps.length) = false := decide_eq_false (by omega)
          have hHd := Head_any HMj.out.tx
          obtain ⟨n9, HN9⟩ : ∃ n9, Hid (t.pages = n9) := ⟨_, Lib.hid rfl⟩
          unfold headV at hHd
          rw [HN9.out] at hHd
          have hfp := head_pages
          go_wp2_with (go_at_call 15; refine hHd.mono ?_; rintro e w5 ⟨rfl, hb5⟩; have hM5 := HMj.out.quiet hb5)
          have hp42 : n9 ≤ 42 := by have := HN9.out; omega
          have hBt := hBk
          go_loopw [12] (fun i wr => ∃ (j : Nat) (Y' : Nat → Prop) (t' : PT) (fr : List Nat), j ≤ ps.length ∧ i = .int .i64 j ∧ Back t' (vs.drop j) fr ∧ t'.pages = n9 ∧ BackM w wr T M Af cf (firsts vs) Y' t') (fun i _ => ps.length - (intOf i).toNat)
          case atStart => exact ⟨0, _, t, [], Nat.zero_le _, rfl, hBk, HN9.out, hM5⟩
          case round =>
            clear hM5 hBt
            obtain ⟨j, Y3, t3, fr, hj3, rfl, hBk3, hpg3, hM⟩ := hrel
            have hBd3 := hM.below
            have HM3 := Lib.hid (And.intro hM (And.intro hBk3 hpg3))
            clear hM hBk3 hpg3
            by_cases hjl3 : j < ps.length
            · have d5 : decide (j < ps.length) = true := decide_eq_true hjl3
              obtain ⟨p, hp⟩ : ∃ p, ps[j]? = some p := ⟨_, List.getElem?_eq_getElem hjl3⟩
              obtain ⟨x, hx⟩ : ∃ x, vs[j]? = some x := ⟨_, List.getElem?_eq_getElem (by omega)⟩
              have hxp : x.2 = p.b := by
                have h8 := congrArg (fun l => l[j]?) hvs
                simp only [List.getElem?_map, hx, hp, Option.map_some, Option.some.injEq] at h8
                exact h8
              have hdr : vs.drop j = x :: vs.drop (j + 1) := by
                rw [List.drop_eq_getElem_cons (by omega)]
                congr 1
                exact (List.getElem?_eq_some_iff.1 hx).2
              obtain ⟨a, rfl, hab, hac⟩ := HV.out.1.row.2 (by omega)
              have hpe := HV.out.1.each p (List.mem_of_getElem? hp)
              have hcv : wr.cell? (a.add j) = some p.val := (hBd3.cell (p := a.add j) (by rw [block_of_add]; exact hab)).trans (hac j _ (by rw [List.getElem?_map, hp]; rfl))
              unfold Pt.val at hcv
              obtain ⟨q, HQ⟩ : ∃ q, Hid (x.1.headD 0 = q) := ⟨_, Lib.hid rfl⟩
              obtain ⟨gf, rfl, hfc, hcf⟩ := HM3.out.1.row.cell (k := j) (n := q) (by unfold firsts; rw [List.getElem?_map, hx, ← HQ.out]; rfl)
              have hBx := HM3.out.2.1
              rw [hdr] at hBx
              obtain ⟨c1, c2, c3, c4, c5⟩ := back_chain hBx (List.mem_cons_self ..)
              obtain ⟨t4, f1, f2, f3⟩ := back_free hBx
              have hs3 := hBd3.size
              have hrd := back_read hBx (List.mem_cons_self ..)
              have hft : (freesT t3 x.1.reverse).2 = t4 := by
                unfold freeCT at f1
                rw [hrd] at f1
                simp only at f1
                rw [f1]
              have hFd := Free_laid (w := wr.drew) (HM3.out.1.tx.keep ⟨Nat.le_refl _, fun _ _ _ => rfl⟩) (fun k hk => (HM3.out.1.yb k hk).2) (fun h9 => by have := (HM3.out.1.yb 1 h9).1; omega) hBx.ok (powBelow HV.out.2.2 (hBd3.trans ⟨rfl, rfl, rfl, Nat.le_refl _, fun _ _ => rfl⟩)) (by show 1 < wr.heap.size; omega) c1 c3 q HQ.out x.2.length ⟨c4, c5⟩ (by rw [← HQ.out]; exact c2)
              obtain ⟨L, HLn⟩ : ∃ L, Hid (p.b.length = L) := ⟨_, Lib.hid rfl⟩
              rw [hft, hxp] at hFd
              rw [HLn.out] at hFd hcv
              have i0 : (0 : Int) ≤ (j : Int) := by omega
              have i1 : (j : Int) < (ps.length : Int) := by omega
              have i2 : (j : Int) < ((firsts vs).length : Int) := by unfold firsts; rw [List.length_map, hvl]; omega
              have i3 : j < (firsts vs).length := by unfold firsts; rw [List.length_map, hvl]; omega
              have HPP := Lib.hid (And.intro f2 f3)
              clear hac hp hpe hx hxp c1 c2 c3 c4 c5 f1 f2 f3 hrd hft hBx hdr
              go_wp2_with fail
              refine regionE 10 (fun W => W.cell? ⟨gf, j, none⟩ = some (.int .u32 (q : Nat)) ∧ W.cell? (a.add j) = some (.slice p.A L p.c)) (by kernel_rfl) (by kernel_rfl) (by kernel_rfl) (by kernel_rfl) (by kernel_rfl) (⟨hcf, hcv⟩) (fun hHeld hTl => ?_)
              refine takeE 0 (v := ?_) hTl rfl (by decide) (by kernel_rfl) (by kernel_rfl) (fun _ _ _ h => h) hHeld (Or.inl ⟨by rfl, ?_⟩) (fun hTl => ?_)
              rotate_left
              · intro w hSw; (try dsimp only at hSw); go_simp
                all_goals with_reducible rfl
              try simp only [Act.put, List.setIfInBounds_toArray, List.set_cons_zero, List.set_cons_succ]
              refine takeE 1 (v := ?_) hTl rfl (by decide) (by kernel_rfl) (by kernel_rfl) (fun _ _ _ h => h) hHeld (Or.inl ⟨by rfl, ?_⟩) (fun hTl => ?_)
              rotate_left
              · intro w hSw; (try dsimp only at hSw); go_simp
                all_goals with_reducible rfl
              try simp only [Act.put, List.setIfInBounds_toArray, List.set_cons_zero, List.set_cons_succ]
              refine takeE 2 (v := ?_) hTl rfl (by decide) (by kernel_rfl) (by kernel_rfl) (fun _ _ _ h => h) hHeld (Or.inl ⟨by rfl, ?_⟩) (fun hTl => ?_)
              rotate_left
              · intro w hSw; (try dsimp only at hSw); go_simp
                all_goals with_reducible rfl
              try simp only [Act.put, List.setIfInBounds_toArray, List.set_cons_zero, List.set_cons_succ]
              refine takeE 3 (v := ?_) hTl rfl (by decide) (by kernel_rfl) (by kernel_rfl) (fun _ _ _ h => h) hHeld (Or.inl ⟨by rfl, ?_⟩) (fun hTl => ?_)
              rotate_left
              · intro w hSw; (try dsimp only at hSw); go_simp
                all_goals with_reducible rfl
              try simp only [Act.put, List.setIfInBounds_toArray, List.set_cons_zero, List.set_cons_succ]
              refine takeE 4 (v := ?_) hTl rfl (by decide) (by kernel_rfl) (by kernel_rfl) (fun _ _ _ h => h) hHeld (Or.inl ⟨by rfl, ?_⟩) (fun hTl => ?_)
              rotate_left
              · intro w hSw; (try dsimp only at hSw); go_simp
                all_goals with_reducible rfl
              try simp only [Act.put, List.setIfInBounds_toArray, List.set_cons_zero, List.set_cons_succ]
              refine takeE 5 (v := ?_) hTl rfl (by decide) (by kernel_rfl) (by kernel_rfl) (fun _ _ _ h => h) hHeld (Or.inl ⟨by rfl, ?_⟩) (fun hTl => ?_)
              rotate_left
              · intro w hSw; (try dsimp only at hSw); go_simp
                all_goals with_reducible rfl
              try simp only [Act.put, List.setIfInBounds_toArray, List.set_cons_zero, List.set_cons_succ]
              refine takeE 6 (v := ?_) hTl rfl (by decide) (by kernel_rfl) (by kernel_rfl) (fun _ _ _ h => h) hHeld (Or.inl ⟨by rfl, ?_⟩) (fun hTl => ?_)
              rotate_left
              · intro w hSw; (try dsimp only at hSw); go_simp
                all_goals with_reducible rfl
              try simp only [Act.put, List.setIfInBounds_toArray, List.set_cons_zero, List.set_cons_succ]
              refine takeE 7 (v := ?_) hTl rfl (by decide) (by kernel_rfl) (by kernel_rfl) (fun _ _ _ h => h) hHeld (Or.inl ⟨by rfl, ?_⟩) (fun hTl => ?_)
              rotate_left
              · intro w hSw; (try dsimp only at hSw); go_simp
                all_goals with_reducible rfl
              try simp only [Act.put, List.setIfInBounds_toArray, List.set_cons_zero, List.set_cons_succ]
              refine takeE 8 (v := ?_) hTl rfl (by decide) (by kernel_rfl) (by kernel_rfl) (fun _ _ _ h => h) hHeld (Or.inl ⟨by rfl, ?_⟩) (fun hTl => ?_)
              rotate_left
              · intro w hSw; (try dsimp only at hSw); go_simp
                all_goals with_reducible rfl
              try simp only [Act.put, List.setIfInBounds_toArray, List.set_cons_zero, List.set_cons_succ]
              refine takeE 9 (v := ?_) hTl rfl (by decide) (by kernel_rfl) (by kernel_rfl) (fun _ _ _ h => h) hHeld (Or.inl ⟨by rfl, ?_⟩) (fun hTl => ?_)
              rotate_left
              · intro w hSw; (try dsimp only at hSw); go_simp
                all_goals with_reducible rfl
              try simp only [Act.put, List.setIfInBounds_toArray, List.set_cons_zero, List.set_cons_succ]
              clear hTl
              refine oneE 10 rfl (by kernel_rfl) (fun K hK => ?_)
              refine step_callC rfl 16 _ (by go_simp) hFd ?_
              rintro e w5 ⟨rfl, hT5, hf5⟩; refine ⟨_, rfl, ?_⟩; obtain ⟨Y5, hM5⟩ := BackM.call (wr := wr.drew) (HM3.out.1.quiet (w' := wr.drew) ⟨rfl, rfl, rfl, Nat.le_refl _, fun _ _ => rfl⟩) hT5 hf5
              refine hK.out _ _ (fun h => absurd h (by decide)) ?_
              clear hK K
              try simp only [Act.put, List.setIfInBounds_toArray, List.set_cons_zero, List.set_cons_succ]
              refine oneE 11 rfl (by kernel_rfl) (fun K hK => ?_)
              go_simp
              refine hK.out _ _ (fun h => absurd h (by decide)) ?_
              clear hK K
              try simp only [Act.put, List.setIfInBounds_toArray, List.set_cons_zero, List.set_cons_succ]
              refine doneE (by kernel_rfl) ?_ _
              go_wp2
              go_roundw
              case rel => exact ⟨j + 1, Y5, t4, x.1 ++ fr, by omega, by go_num, HPP.out.1, HPP.out.2.trans HM3.out.2.2, hM5⟩
              case measure => simp [intOf]; omega
            · obtain rfl : j = ps.length := by omega
              have d5 : decide (ps.length < ps.length) = false := decide_eq_false (by omega)
              have hBe := HM3.out.2.1
              rw [List.drop_eq_nil_of_le (by omega)] at hBe
              have hfl : fr.length = n9 - 2 := by have h8 : t3.pages = 2 + 0 + fr.length := hBe.count; have := HM3.out.2.2; omega
              have h29 : 2 ≤ n9 := by have := hBe.ok.head; have := HM3.out.2.2; omega
              have hM3 := HM3.out.1
              have hok3 := hBe.ok
              have hch3 := hBe.chain
              have hpg3 := HM3.out.2.2
              clear hBe
              go_wp2
              go_loopw [13] (fun i wr => ∃ (k : Nat) (Y' : Nat → Prop) (t' : PT), 2 ≤ k ∧ k ≤ n9 ∧ i = .int .u32 k ∧ t'.OK ∧ t'.pages = n9 ∧ Chain t'.lsn t'.pages t'.over t'.free (fr.drop (k - 2)) ∧ BackM w wr T M Af cf (firsts vs) Y' t') (fun i _ => n9 - (intOf i).toNat)
              case atStart => exact ⟨2, Y3, t3, Nat.le_refl _, h29, rfl, hok3, hpg3, hch3, hM3⟩
              case round =>
                clear hM3 hok3 hch3 hpg3
                obtain ⟨k, Y6, t6, hk2, hk9, rfl, hok6, hpg6, hch6, hM6⟩ := hrel
                have hBd6 := hM6.below
                by_cases hkl : k < n9
                · have d6 : decide (k < n9) = true := decide_eq_true hkl
                  have d7 : decide ((k : Int) < (n9 : Int)) = true := decide_eq_true (by omega)
                  obtain ⟨y, hy⟩ : ∃ y, fr.drop (k - 2) = y :: fr.drop (k + 1 - 2) := by
                    refine ⟨fr[k - 2]'(by omega), ?_⟩
                    rw [List.drop_eq_getElem_cons (by omega), show k - 2 + 1 = k + 1 - 2 by omega]
                  rw [hy] at hch6
                  obtain ⟨t7, hok7, hpg7, hch7, hAl⟩ := alloc_chain hM6.tx hok6 hch6
                  have wu : IntKind.u32.wrap ((k : Int) + 1) = (k : Int) + 1 := by rw [IntKind.wrap_u32]; omega
                  have HM6 := Lib.hid hM6
                  have zz : ((n9 : Int) != (n9 : Int)) = false := by simp
                  clear hM6 hch6 hy
                  go_wp2_with (first
                    | (go_at_call 17; refine hAl.mono ?_; rintro e w8 ⟨rfl, hT8, hf8⟩; obtain ⟨Y8, hM8⟩ := HM6.out.call hT8 hf8; have hHd8 := Head_any hM8.tx; unfold headV at hHd8; rw [hpg7, hpg6] at hHd8)
                    | (go_at_call 15; refine hHd8.mono ?_; rintro e w9 ⟨rfl, hb9⟩; have hM9 := hM8.quiet hb9))
                  go_roundw
                  case rel => exact ⟨k + 1, Y8, t7, by omega, by omega, by go_num, hok7, hpg7.trans hpg6, hch7, hM9⟩
                  case measure => simp [intOf]; omega
                · obtain rfl : k = n9 := by omega
                  have d6 : decide (k < k) = false := decide_eq_false (by omega)
                  have d7 : decide ((k : Int) < (k : Int)) = false := decide_eq_false (by omega)
                  have hf0 : t6.free = 0 := by
                    rw [List.drop_eq_nil_of_le (by omega)] at hch6
                    exact hch6
                  have hHd := Head_any hM6.tx
                  unfold headV at hHd
                  rw [hf0] at hHd
                  have hfr := head_free
                  go_wp2_with (first
                    | (go_at_call 15; refine hHd.mono ?_; rintro e w8 ⟨rfl, hb8⟩; have h18 := hBd6.trans (hb8.mono hBd6.size); have hLv := HL.out w8 h18)
                    | (go_at_call 10; refine hLv.mono ?_; rintro e w9 ⟨rfl, hb9⟩))
                  go_ret
                  exact ⟨rfl, h18.trans (hb9.mono h18.size)⟩
end Go.Proofs.YtenfkghoolegfaaGreatDoor
set_option linter.unusedVariables false
namespace Go.Proofs.YtenfkghoolegfaaGreatDoor
open Go.ChangeShapes Go.WideShapes Go.ChangeAt Go.RowKit Go.Joins Go.Deep
section
variable {H : Type} {enc : TypeId × Value → H} {w : World} {base : Nat} {held : Bool}
def toB (z : Int) : UInt8 := UInt8.ofNat z.toNat
theorem toB_nat {z : Int} (h : (Lit.int .u8 z).wf = true) : ((toB z).toNat : Int) = z := by
  have e1 : IntKind.u8.min = 0 := rfl
  have e2 : IntKind.u8.max = 255 := rfl
  simp [Lit.wf] at h
  unfold toB
  have h8 : (UInt8.ofNat z.toNat).toNat = z.toNat % 256 := by simp
  rw [h8]
  omega
/-- Bytes that came in. -/
theorem pt_of {fuel : Nat} {v : Value} {y : DataW H × List MemPlace} (h : DataW.trod enc Tryz.prog w base (fun _ => true) held fuel 23 [v] = some y) : ∃ p : Pt, v = p.val ∧ Reads w w.heap.size 1 p.A p.b.length (bl p.b) ∧ p.b.length ≤ p.c := by
  rcases open_ints Tryz.underlying23 Tryz.underlying5 (by kernel_rfl) h with ⟨hcs, _⟩ | ⟨a, l, c, zs, hcs, _, hl, hm, hz, _, hcell, hwz⟩
  · simp at hcs
    exact ⟨⟨none, 0, []⟩, hcs, Reads.none_, Nat.zero_le _⟩
  · simp at hcs hz
    have hlt : ((zs.take l).map toB).length = l := by rw [List.length_map, List.length_take]; omega
    refine ⟨⟨some a, c, (zs.take l).map toB⟩, by unfold Pt.val; rw [hcs]; simp only; rw [hlt], ⟨by rw [bl_len, Nat.mul_one], fun h0 => ?_⟩, by show ((zs.take l).map toB).length ≤ c; omega⟩
    have h0 : 0 < ((zs.take l).map toB).length := h0
    rw [hlt] at h0
    have c0 := hcell 0 (by omega)
    have hb := World.block_lt_of_cell? w _ c0
    refine ⟨a, rfl, by simpa [Addr.add] using hb, fun j u hu => ?_⟩
    unfold bl at hu
    simp only [List.getElem?_map, List.getElem?_take] at hu
    by_cases hj : j < l
    · rw [if_pos hj] at hu
      rw [hcell j (by omega)]
      cases hzj : zs[j]? with
      | none => rw [hzj] at hu; cases hu
      | some z =>
        rw [hzj] at hu
        simp only [Option.map_some, Option.some.injEq] at hu
        rw [← hu, toB_nat (hwz z (List.mem_of_getElem? hzj))]
        simp [List.getD_eq_getElem?_getD, hzj]
    · rw [if_neg hj] at hu; cases hu
theorem pts_list {P : Nat → Pt → Prop} : ∀ (n : Nat), (∀ i, i < n → ∃ d, P i d) → ∃ ds : List Pt, ds.length = n ∧ ∀ i d, ds[i]? = some d → P i d
  | 0, _ => ⟨[], rfl, fun i d h => by simp at h⟩
  | n + 1, h => by
    obtain ⟨ds, hl, hd⟩ := pts_list n (fun i hi => h i (by omega))
    obtain ⟨d, hP⟩ := h n (by omega)
    refine ⟨ds ++ [d], by simp [hl], fun i x hx => ?_⟩
    by_cases hi : i < ds.length
    · rw [List.getElem?_append_left hi] at hx; exact hd i x hx
    · rw [List.getElem?_append_right (by omega)] at hx
      have := (List.getElem?_eq_some_iff.1 hx).1
      simp at this
      obtain rfl : i = n := by omega
      rw [hl, Nat.sub_self] at hx
      cases hx
      exact hP
/-- Rows of bytes that came in. -/
theorem vals_of {fuel : Nat} {v : Value} {y : DataW H × List MemPlace} (h : DataW.trod enc Tryz.prog w base (fun _ => true) held fuel 31 [v] = some y) :
    ∃ (A : Option Addr) (c : Nat) (l : List Pt), v = .slice A l.length c ∧ ValsAt w A l := by
  rcases open_slice Tryz.underlying31 h with ⟨hcs, _⟩ | ⟨a, len, cap, m, n, D, Pl, hcs, _, hl, hm, hmm, _, hf⟩
  · simp at hcs
    exact ⟨none, 0, [], hcs, Reads.none_, (fun x hx => by cases hx)⟩
  · simp at hcs hmm
    subst hmm
    have hce : Program.cellsOf Tryz.prog 23 = 1 := by kernel_rfl
    obtain ⟨ds, hdl, hd⟩ := pts_list (P := fun i x => w.cell? (a.add i) = some x.val ∧ (Reads w w.heap.size 1 x.A x.b.length (bl x.b) ∧ x.b.length ≤ x.c)) len (fun i hi => by
      obtain ⟨cs', hc, ht⟩ := hf i (by omega)
      rw [hce, Nat.mul_one] at hc
      obtain ⟨_, hcl, hat⟩ := World.cells?_some hc
      have hcell := hat 0 (by omega)
      have hcs1 : cs' = [cs'[0]'(by omega)] := by
        match cs', hcl with
        | [x], _ => rfl
      rw [hcs1] at ht
      obtain ⟨x, hx, hb⟩ := pt_of ht
      refine ⟨x, ?_, hb⟩
      rw [← hx]
      have e0 : (a.add i).add 0 = a.add i := by simp [Addr.add]
      rw [e0] at hcell
      rw [hcell]
      exact List.getElem?_eq_getElem (by omega))
    refine ⟨some a, _, ds, by rw [hcs, hdl], ⟨by simp, fun h0 => ⟨a, rfl, ?_, fun j u hu => ?_⟩⟩, fun x hx => ?_⟩
    · obtain ⟨x, hx⟩ : ∃ x, ds[0]? = some x := ⟨_, List.getElem?_eq_getElem h0⟩
      have := World.block_lt_of_cell? w _ (hd 0 x hx).1
      simpa [Addr.add] using this
    · rw [List.getElem?_map] at hu
      cases hj : ds[j]? with
      | none => rw [hj] at hu; cases hu
      | some x => rw [hj] at hu; cases hu; exact (hd j x hj).1
    · obtain ⟨i, hi⟩ := List.getElem?_of_mem hx
      exact (hd i x hi).2
end
end Go.Proofs.YtenfkghoolegfaaGreatDoor
