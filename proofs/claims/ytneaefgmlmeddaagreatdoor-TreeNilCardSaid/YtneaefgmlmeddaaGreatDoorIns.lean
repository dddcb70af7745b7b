/- slices.Insert of one cell ahead of one cell, whatever room there is; bytes.Compare: known functions of the interpreter. The two walks of Insert are turned from the kit's own at one-cell elements. -/
import Derived.Test.YtneaefgmlmeddaaGreatDoorEvx
import Derived.Shelf.Spec.SlicesInsertGrow
set_option linter.unusedVariables false
set_option linter.unusedSimpArgs false
namespace Go.Proofs.YtneaefgmlmeddaaGreatDoor.Ev
open Go.RowKit Go.Extern Go.Lib
variable {ω : Nat → Value}

theorem run_copy5 {P : Program} (w : World) (dT sT ty elem : TypeId) (b o dLen dCap : Nat) (a : Addr) (sLen sCap : Nat) (cs : List Value)
    (hu : P.underlying dT = some (.slice elem)) (hs : (P.info? elem).map (·.size) = some 5) (hn : cs.length = Nat.min sLen dLen * 5)
    (hsrc : ∀ j v, cs[j]? = some v → w.cell? (a.add j) = some v) (hc : ∀ j, j < cs.length → (w.cell? ⟨b, o + j, none⟩).isSome = true) (hf : ∀ j, j < cs.length → w.frozen? ⟨b, o + j, none⟩ = false) (h1 : ∀ v ∈ cs, v.oneCell' = true) :
    (Builtin.copy_ #[dT, sT] ty #[.slice (some ⟨b, o, none⟩) dLen dCap, .slice (some a) sLen sCap]).run P w = .ok (goInt (Nat.min sLen dLen)) (w.setCells b o cs) := by
  have hst := run_storeCells_cells (P := P) b o cs 0 w (by simpa using hc) (by simpa using hf) h1
  have hfc := run_firstCells_some (P := P) w 5 (Nat.min sLen dLen) a sLen sCap cs hn hsrc
  cases hq : P.info? elem with
  | none => rw [hq] at hs; cases hs
  | some i =>
    rw [hq] at hs
    have h5 : i.size = 5 := by simpa using hs
    have hst' : (storeCells ⟨b, o, none⟩ cs).run P w = .ok () (w.setCells b o cs) := by simpa using hst
    simp [Builtin.copy_, run_underlying hu, Builtin.lenOf, sizeOf, typeInfo, hq, h5, hfc, hst']

theorem size5 : (Tryz.prog.info? 102).map (·.size) = some 5 := by kernel_rfl
theorem sizeOf5 : ∀ w, (Go.sizeOf 102).run Tryz.prog w = .ok 5 w := fun w => by kernel_rfl

set_option maxHeartbeats 4000000 in
set_option maxRecDepth 100000 in
/-- There is room: in place. -/
theorem insert_shift (b off c vb voff vc : Nat) (cs vs : List Value) (w : World) (hroom : 2 ≤ c) (hvb : vb ≠ b)
    (hcl : cs.length = 5) (hvl : vs.length = 5)
    (hcs : ∀ j v, cs[j]? = some v → w.cell? ⟨b, off + j, none⟩ = some v) (hsp : ∀ j, j < 10 → (w.cell? ⟨b, off + j, none⟩).isSome = true) (hfz : ∀ j, j < 10 → w.frozen? ⟨b, off + j, none⟩ = false)
    (hvs : ∀ j v, vs[j]? = some v → w.cell? ⟨vb, voff + j, none⟩ = some v) (h1c : ∀ v ∈ cs, v.oneCell' = true) (h1v : ∀ v ∈ vs, v.oneCell' = true)
    (tA tB : TypeId) (kA kB : Nat) (hsa : w.shape? vb = some (tA, kA)) (hsb : w.shape? b = some (tB, kB)) (hkB : kB ≠ 0) (hfa : w.frozen? ⟨vb, voff, none⟩ = false) (hfe : w.frozen? ⟨vb, kA, none⟩ = false) :
    Calls Tryz.prog 129 #[.slice (some ⟨b, off, none⟩) 1 c, .int .i64 0, .slice (some ⟨vb, voff, none⟩) 1 vc] w fun e w' =>
      e = .returned (.slice (some ⟨b, off, none⟩) 2 c) ∧ w' = (w.drew.setCells b (off + 5) cs).setCells b off vs := by
  have hov : ∀ lb cb, (callFunc 170 #[.slice (some ⟨vb, voff, none⟩) 1 vc, .slice (some ⟨b, off + 5, none⟩) lb cb]).run Tryz.prog w = .ok (.value (.bool false)) w := fun lb cb => by
    rw [run_callFunc_extern Tryz.func170 (by kernel_rfl) (by kernel_rfl) (by kernel_rfl) (e := Extern.SlicesOverlaps.overlaps #[32, 32] #[4]) (by kernel_rfl),
      Lib.run_overlaps_apart w 32 4 102 Tryz.underlying32 5 sizeOf5 ⟨vb, voff, none⟩ ⟨b, off + 5, none⟩ 1 vc lb cb hvb tA tB kA kB hsa hsb hkB hfa hfe]
    rfl
  have mixed := mixed
  have hcp1 : ∀ ty dc sc, (Builtin.copy_ #[32, 32] ty #[.slice (some ⟨b, off + 5, none⟩) 1 dc, .slice (some ⟨b, off, none⟩) 2 sc]).run Tryz.prog w.drew = .ok (goInt 1) (w.drew.setCells b (off + 5) cs) := fun ty dc sc =>
    run_copy5 w.drew _ _ ty 102 b (off + 5) 1 dc ⟨b, off, none⟩ 2 sc cs Tryz.underlying32 size5 (by rw [hcl]; rfl)
      (fun j v hj => by rw [Addr.add_lit]; exact hcs j v hj)
      (fun j hj => by rw [Nat.add_assoc]; exact hsp _ (by omega)) (fun j hj => by rw [Nat.add_assoc]; exact hfz _ (by omega)) h1c
  obtain ⟨W1, hW1⟩ : ∃ W1, W1 = w.drew.setCells b (off + 5) cs := ⟨_, rfl⟩
  have hsp1 : ∀ k, k < 10 → (W1.cell? ⟨b, off + k, none⟩).isSome = true := fun k hk => by
    rw [hW1]
    exact isSome_setCells b _ _ _ (fun j hj => by rw [Nat.add_assoc]; exact hsp _ (by omega)) _ (hsp k hk)
  have hcp2 : ∀ (W : World), (∀ x, W.cell? x = W1.cell? x) → (∀ x, W.frozen? x = W1.frozen? x) → ∀ ty dc, (Builtin.copy_ #[32, 32] ty #[.slice (some ⟨b, off, none⟩) 2 dc, .slice (some ⟨vb, voff, none⟩) 1 vc]).run Tryz.prog W = .ok (goInt 1) (W.setCells b off vs) := fun W hWc hWf ty dc =>
    run_copy5 W _ _ ty 102 b off 2 dc ⟨vb, voff, none⟩ 1 vc vs Tryz.underlying32 size5 (by rw [hvl]; rfl)
      (fun j v hj => by
        rw [Addr.add_lit, hWc, hW1, World.cell?_setCells_out b _ _ _ _ (fun h _ => absurd h hvb)]
        exact hvs j v hj)
      (fun j hj => by rw [hWc]; exact hsp1 _ (by omega)) (fun j hj => by rw [hWf, hW1, World.frozen?_setCells]; exact hfz _ (by omega)) h1v
  rw [← hW1] at hcp1
  have hw1 : IntKind.i64.wrap 1 = 1 := by decide
  have hb2 : ¬ (c = 1) := by omega
  have hb4 : ¬ (c = 0) := by omega
  have hb5 : ¬ ((c : Int) < 2) := by omega
  go_enter Tryz.func129, Tryz.ntmps129
  go_wp2_with (simp only [hov])
  go_region_law_o (refine step_copy_runI rfl _ _ 32 32 rfl _ _ (by simp [Act.eval, Act.put]) (by simp [Act.eval, Act.put]) (hcp1 _ _ _) ?_)
  go_wp2_with (at_builtin; refine wpList_copy_runI _ rfl _ _ 32 32 rfl _ _ rfl rfl (hcp2 _ (fun _ => rfl) (fun _ => rfl) _ _) ?_)
  go_ret
  first | exact ⟨rfl, rfl⟩ | exact ⟨rfl, by rw [hW1]⟩

theorem cellInfo : ∃ (i0 : TypeInfo) (z : Value), Tryz.prog.info? 102 = some i0 ∧ i0.zero = some z ∧ i0.size = 5 ∧ z.cells.size = 5 ∧ i0.bytes ≤ 1000 := by
  have h1 : (Tryz.prog.info? 102).map (fun i => (i.size, Nat.ble i.bytes 1000, i.zero.map (fun z => z.cells.size))) = some (5, true, some 5) := by kernel_rfl
  cases hi : Tryz.prog.info? 102 with
  | none => rw [hi] at h1; cases h1
  | some i0 =>
    rw [hi] at h1
    simp only [Option.map_some, Option.some.injEq, Prod.mk.injEq] at h1
    cases hz : i0.zero with
    | none => rw [hz] at h1; cases h1.2.2
    | some z =>
      rw [hz] at h1
      exact ⟨i0, z, rfl, hz, h1.1, Option.some.inj h1.2.2, Nat.le_of_ble_eq_true h1.2.1⟩

set_option maxHeartbeats 4000000 in
set_option maxRecDepth 100000 in
/-- There is no room: a new row. -/
theorem insert_grow (b off vb voff vc : Nat) (cs vs : List Value) (w : World)
    (hcl : cs.length = 5) (hvl : vs.length = 5)
    (hcs : ∀ j v, cs[j]? = some v → w.cell? ⟨b, off + j, none⟩ = some v)
    (hvs : ∀ j v, vs[j]? = some v → w.cell? ⟨vb, voff + j, none⟩ = some v) (h1c : ∀ v ∈ cs, v.oneCell' = true) (h1v : ∀ v ∈ vs, v.oneCell' = true) :
    ∃ (G : Nat) (ROW : Array Value), 2 ≤ G ∧ ROW.size = G * 5 ∧ Calls Tryz.prog 129 #[.slice (some ⟨b, off, none⟩) 1 1, .int .i64 0, .slice (some ⟨vb, voff, none⟩) 1 vc] w fun e w' =>
      e = .returned (.slice (some ⟨w.heap.size, 0, none⟩) 2 G) ∧ w' = (((w.alloc (.cells ROW 102)).drew.setCells w.heap.size 0 vs).drew).setCells w.heap.size 5 cs := by
  have mixed := mixed
  obtain ⟨i0, z, hi0, hz0, hzs, hzc, hzb⟩ := cellInfo
  have hbw : b < w.heap.size := block_lt_of_cell (hcs 0 _ (List.getElem?_eq_getElem (by omega)))
  have hvw : vb < w.heap.size := block_lt_of_cell (hvs 0 _ (List.getElem?_eq_getElem (by omega)))
  have hold : (Builtin.firstCells i0.size 0 (.slice (some ⟨b, off, none⟩) 0 1)).run Tryz.prog w.drew = .ok ([] : List Value).toArray w.drew :=
    run_firstCells_some w.drew i0.size 0 ⟨b, off, none⟩ 0 1 [] (by simp) (fun j v hj => by simp at hj)
  have hrz : ∀ ty, (Builtin.append_ #[32, 3] ty #[.slice (some ⟨b, off, none⟩) 0 1, .int .i64 2]).run Tryz.prog w =
      .ok (.slice (some ⟨w.heap.size, 0, none⟩) 2 (grownCap w 2 1 102)) (w.drew.alloc (.cells (([] : List Value).toArray ++ Builtin.zeroCells z.cells 2 ++ Builtin.zeroCells z.cells (grownCap w 2 1 102 - 2)) 102)) := fun ty => by
    have h := Lib.run_append_grow_zeros w 32 3 ty 102 i0 _ .i64 .i64 Tryz.underlying32 Tryz.underlying3 hi0 hz0 (some ⟨b, off, none⟩) 0 1 [] hold 2 (by omega) (by omega) (by omega) (by omega) (by omega) (growslice_fits (by omega) (by omega))
    simpa using h
  have hGn : 2 ≤ grownCap w 2 1 102 := grownCap_ge w _ _ _
  have hG63 : grownCap w 2 1 102 ≤ 9223372036854775807 := by
    have := grownCap_le_maxLen w 2 1 102 (by unfold maxLen; omega)
    unfold maxLen at this
    omega
  generalize grownCap w 2 1 102 = G at hrz hGn hG63
  obtain ⟨ROW, hROW⟩ : ∃ ROW : Array Value, ROW = ([] : List Value).toArray ++ Builtin.zeroCells z.cells 2 ++ Builtin.zeroCells z.cells (G - 2) := ⟨_, rfl⟩
  rw [← hROW] at hrz
  have hRl : ROW.size = G * 5 := by
    rw [hROW]
    simp [Builtin.zeroCells, hzc]
    omega
  refine ⟨G, ROW, hGn, hRl, ?_⟩
  obtain ⟨W1, hW1⟩ : ∃ W1, W1 = w.drew.alloc (.cells ROW 102) := ⟨_, rfl⟩
  rw [← hW1] at hrz
  have hN : ∀ j, j < 10 → (W1.cell? ⟨w.heap.size, j, none⟩).isSome = true := fun j hj => by
    rw [hW1, World.cell?_alloc_at (w := w.drew) ROW _ w.heap.size j rfl, Array.getElem?_eq_getElem (by omega)]; rfl
  have hNf : ∀ j, W1.frozen? ⟨w.heap.size, j, none⟩ = false := fun j => by rw [hW1]; exact World.frozen?_alloc_at (w := w.drew) ROW _ w.heap.size j rfl
  have hOb : ∀ j v, w.cell? ⟨b, j, none⟩ = some v → W1.cell? ⟨b, j, none⟩ = some v := fun j v h => by rw [hW1, World.cell?_alloc_past (w := w.drew) _ b j hbw]; exact h
  have hOv : ∀ j v, w.cell? ⟨vb, j, none⟩ = some v → W1.cell? ⟨vb, j, none⟩ = some v := fun j v h => by rw [hW1, World.cell?_alloc_past (w := w.drew) _ vb j hvw]; exact h
  have hcpA : ∀ (W : World), (∀ x, W.cell? x = W1.cell? x) → (∀ x, W.frozen? x = W1.frozen? x) → ∀ ty dc, (Builtin.copy_ #[32, 32] ty #[.slice (some ⟨w.heap.size, 0, none⟩) 2 dc, .slice (some ⟨vb, voff, none⟩) 1 vc]).run Tryz.prog W = .ok (goInt 1) (W.setCells w.heap.size 0 vs) := fun W hWc hWf ty dc =>
    run_copy5 W _ _ ty 102 w.heap.size 0 2 dc ⟨vb, voff, none⟩ 1 vc vs Tryz.underlying32 size5 (by rw [hvl]; rfl)
      (fun j v hj => by rw [Addr.add_lit, hWc]; exact hOv _ v (hvs j v hj))
      (fun j hj => by rw [hWc]; exact hN _ (by omega)) (fun j hj => by rw [hWf]; exact hNf _) h1v
  have hbN : b ≠ w.heap.size := by omega
  have hcpB : ∀ (W : World), (∀ x, W.cell? x = (W1.setCells w.heap.size 0 vs).cell? x) → (∀ x, W.frozen? x = (W1.setCells w.heap.size 0 vs).frozen? x) → ∀ ty dc sc, (Builtin.copy_ #[32, 32] ty #[.slice (some ⟨w.heap.size, 5, none⟩) 1 dc, .slice (some ⟨b, off, none⟩) 1 sc]).run Tryz.prog W = .ok (goInt 1) (W.setCells w.heap.size 5 cs) := fun W hWc hWf ty dc sc =>
    run_copy5 W _ _ ty 102 w.heap.size 5 1 dc ⟨b, off, none⟩ 1 sc cs Tryz.underlying32 size5 (by rw [hcl]; rfl)
      (fun j v hj => by
        rw [Addr.add_lit, hWc, World.cell?_setCells_out _ _ _ _ _ (fun h _ => absurd h hbN)]
        exact hOb _ v (hcs j v hj))
      (fun j hj => by rw [hWc]; exact isSome_setCells _ _ _ _ (fun t ht => hN _ (by omega)) _ (hN _ (by omega)))
      (fun j hj => by rw [hWf, World.frozen?_setCells]; exact hNf _) h1c
  subst hW1
  have hE1 : ∀ x, ((w.alloc (.cells ROW 102)).drew).cell? x = (w.drew.alloc (.cells ROW 102)).cell? x := fun x => rfl
  have hE2 : ∀ x, ((w.alloc (.cells ROW 102)).drew).frozen? x = (w.drew.alloc (.cells ROW 102)).frozen? x := fun x => rfl
  have hF1 : ∀ x, (((w.alloc (.cells ROW 102)).drew.setCells w.heap.size 0 vs).drew).cell? x = ((w.drew.alloc (.cells ROW 102)).setCells w.heap.size 0 vs).cell? x := fun x => rfl
  have hF2 : ∀ x, (((w.alloc (.cells ROW 102)).drew.setCells w.heap.size 0 vs).drew).frozen? x = ((w.drew.alloc (.cells ROW 102)).setCells w.heap.size 0 vs).frozen? x := fun x => rfl
  have hw1 : IntKind.i64.wrap 1 = 1 := by decide
  have hw2 : IntKind.i64.wrap 2 = 2 := by decide
  have hGi : ¬ (G = 0) := by omega
  have hGim : ¬ (G = 1) := by omega
  clear hold hROW hRl
  go_enter Tryz.func129, Tryz.ntmps129
  go_wp2_with (first
    | (at_builtin; refine Lib.wpList_append_run _ rfl _ _ _ _ rfl _ _ rfl rfl _ _ (hrz _) ?_)
    | (at_builtin; refine wpList_copy_runI _ rfl _ _ 32 32 rfl _ _ rfl rfl (hcpA _ hE1 hE2 _ _) ?_)
    | (at_builtin; refine wpList_copy_runI _ rfl _ _ 32 32 rfl _ _ rfl rfl (hcpB _ (fun _ => rfl) (fun _ => rfl) _ _ _) ?_))
  go_region_law_o (refine step_copy_runI rfl _ _ 32 32 rfl (.slice (some ⟨w.heap.size, 5, none⟩) 1 (G - 1)) (.slice (some ⟨b, off, none⟩) 1 1) (by simp [Act.eval, Act.put]) (by simp [Act.eval, Act.put]) (hcpB _ hF1 hF2 3 (G - 1) 1) ?_)
  go_wp2
  go_ret
  exact ⟨rfl, rfl⟩

/-- Insert of one cell ahead of one cell. -/
noncomputable def spIns : SpF
  | [.slice (some a) 1 1, .int .i64 (.ofNat 0), .slice (some v) 1 _], s => match blkAt s a.block, readN s a 5, blkAt s v.block, readN s v 5 with
    | some k, some l, some kv, some x => cond (k.opn && (Nat.beq k.esz 5 && (Nat.beq (a.off + 5) k.len && (Nat.beq k.elem 102 && (Nat.beq kv.elem 102 && (!Nat.beq a.block v.block && (x.all oneV && l.all oneV)))))))
        (some (.slice (some ⟨s.n, 0, none⟩) 2 2, (newBlk ⟨s.n, s.h.put a.block .dead⟩ (x ++ l) (x ++ l).length 102 5 true false).2)) none
    | _, _, _, _ => none
  | _, _ => none

theorem isCell {e : TypeId} (h : Nat.beq e 102 = true) {fz : Nat × Nat} {t : Nat} (hf : fz = (0, 0) ∨ (fz = (t, t + 1) ∧ Nat.beq e noMark = false)) : fz = (0, 0) := by
  rcases hf with h1 | ⟨_, h2⟩
  · exact h1
  · obtain rfl := Nat.eq_of_beq_eq_true h
    exact absurd h2 (by decide)

section
variable {B : Nat} {X : Aux} {m : M ω} {s s' : AS} {w : World}
theorem ins_ok (hB : B ≤ w.heap.size) {vs : List Value} {v : Value} {args : Array Value} (hs : SR B X m s w) (hl : LRel m vs args.toList) (h : spIns vs s = some (v, s')) :
    Calls Tryz.prog 129 args w fun e w' => ∃ v', e = .returned v' ∧ RelV B X m s' w v v' w' := by
  unfold spIns at h
  split at h
  · rename_i a va vcc
    split at h
    · rename_i k l kv x hkb hrl hkv hrx
      cases hc : (k.opn && (Nat.beq k.esz 5 && (Nat.beq (a.off + 5) k.len && (Nat.beq k.elem 102 && (Nat.beq kv.elem 102 && (!Nat.beq a.block va.block && (x.all oneV && l.all oneV))))))) with
      | false => rw [hc] at h; cases h
      | true =>
        rw [hc] at h
        simp only [cond_true, Option.some.injEq, Prod.mk.injEq] at h
        obtain ⟨rfl, rfl⟩ := h
        simp only [Bool.and_eq_true] at hc
        obtain ⟨ho, hez, hend, hel, helv, hnb, hx1, hl1⟩ := hc
        have hez' := Nat.eq_of_beq_eq_true hez
        have hend' := Nat.eq_of_beq_eq_true hend
        have hel' := Nat.eq_of_beq_eq_true hel
        have hnb' : a.block ≠ va.block := fun e => by rw [e] at hnb; simp at hnb
        obtain ⟨y1, y2, y3, hyl, r1, r2, r3⟩ := l3 hl
        have ha : args = #[y1, y2, y3] := by cases args with | mk q => exact congrArg Array.mk hyl
        subst ha
        obtain ⟨p', c', rfl, hor⟩ := slice_inv r1
        obtain rfl := int_inv r2
        obtain ⟨q', vc', rfl, hor2⟩ := slice_inv r3
        rcases hor with ⟨hp, hcr, _⟩ | ⟨h0, _, _⟩
        · rcases hor2 with ⟨hq, _, _⟩ | ⟨h0, _, _⟩
          · obtain ⟨cs, o1, o2, o3⟩ := readN_sound hs hrl hp
            obtain ⟨us, u1, u2, u3⟩ := readN_sound hs hrx hq
            obtain ⟨_, i, i1, rfl⟩ := hp
            obtain ⟨_, j, j1, rfl⟩ := hq
            obtain ⟨i2, ⟨a1, a2, a3, a4, cw, fz, hw, hsz, hcell, hfz⟩, i4, i5⟩ := blk_at hs hkb i1
            obtain ⟨j2, ⟨b1, b2, b3, b4, dw, gz, hw2, hsz2, hcell2, hfz2⟩, j4, j5⟩ := blk_at hs hkv j1
            have e1 := isCell hel hfz
            have e2 := isCell helv hfz2
            subst e1; subst e2
            have hne : j.r ≠ i.r := fun e => hs.inj _ _ _ _ _ _ i2 j2 rfl rfl hnb' i1 j1 e.symm
            have o3' : ∀ t u, cs[t]? = some u → w.cell? ⟨i.r, i.d + a.off + t, none⟩ = some u := fun t u ht => by rw [← add_lit]; exact o3 t u ht
            have u3' : ∀ t u, us[t]? = some u → w.cell? ⟨j.r, j.d + va.off + t, none⟩ = some u := fun t u ht => by rw [← add_lit]; exact u3 t u ht
            have hlx : LRel m (x ++ l) (us ++ cs) := u1.append o1
            have hlen : (x ++ l).length = 10 := by rw [hlx.1, List.length_append, u2, o2]
            have c1 := one_all o1 hl1
            have v1 := one_all u1 hx1
            by_cases hroom : 2 ≤ c'
            · have hfit : i.d + a.off + c' * 5 ≤ i.tot := by
                rcases hcr with rfl | ⟨_, i', k1, k2, k3, k4⟩
                · omega
                · rw [i1] at k1; cases k1; rw [a3, hez'] at k4; exact k4
              refine (insert_shift i.r (i.d + a.off) c' j.r (j.d + va.off) vc' cs us w hroom hne o2 u2 o3' (fun t ht => ?_) (fun t ht => ?_) u3' c1 v1 kv.elem k.elem dw.size cw.size ?_ ?_ ?_ ?_ ?_).mono ?_
              · rw [cell_of_row w i.r _ cw k.elem _ hw]
                have : i.d + a.off + t < cw.size := by omega
                simp [this]
              · simp [World.frozen?, hw]
              · simp [World.shape?, hw2]
              · simp [World.shape?, hw]
              · omega
              · simp [World.frozen?, hw2]
              · simp [World.frozen?, hw2]
              · rintro e w' ⟨rfl, rfl⟩
                obtain ⟨c2, g1, g2, g3⟩ := heap_setCells cs (i.d + a.off + 5) w.drew cw hw
                obtain ⟨c3, f1, f2, f3⟩ := heap_setCells us (i.d + a.off) _ c2 g1
                have hle : Le m (ext m s.n ⟨i.r, i.d + a.off, (x ++ l).length, 5, true, i.tot⟩) := ext_le (hs.freshM s.n (Nat.le_refl _))
                have hsr := share_sound (i' := ⟨i.r, i.d + a.off, (x ++ l).length, 5, true, i.tot⟩) (o' := .cells ⟨T.ofList (x ++ l) 0 .leaf, (x ++ l).length, 102, 5, true, false⟩)
                  (w1 := (w.drew.setCells i.r (i.d + a.off + 5) cs).setCells i.r (i.d + a.off) us) hs i2 rfl i1 rfl (by rw [size_setCells, size_setCells]; rfl) (fun q hq => by rw [heap_setCells_other _ _ _ _ hq, heap_setCells_other _ _ _ _ hq]; rfl) ?_
                · refine ⟨_, rfl, _, hle, hsr, .slice _ _ _ _ _ ⟨rfl, _, ext_same _ _ _, rfl⟩ (.inr ⟨hroom, _, ext_same _ _ _, rfl, ?_, ?_⟩) (Nat.le_refl _), (((Below.refl B w).drew).trans (below_setCells i4 _ _ _)).trans (below_setCells i4 _ _ _)⟩
                  · simp only [Nat.zero_add]; exact hlen.symm
                  · simpa using hfit
                · refine ⟨rfl, rfl, rfl, by show i.d + a.off + (x ++ l).length ≤ i.tot; omega, c3, (0, 0), by rw [← hel']; exact f1, by rw [f2, g2]; exact hsz, fun t ht => ?_, .inl rfl⟩
                  have ht' : t < (x ++ l).length := ht
                  have hll : (x ++ l).length = (us ++ cs).length := hlx.1
                  refine ⟨(x ++ l)[t], (us ++ cs)[t]'(by omega), by rw [T.get_ofList, if_pos (by omega)]; simp, ?_, (hlx.2 t _ _ (List.getElem?_eq_getElem ht') (List.getElem?_eq_getElem (by omega))).mono hle⟩
                  show c3[i.d + a.off + t]? = _
                  rw [f3, u2]
                  by_cases htu : t < 5
                  · rw [if_pos (by omega), List.getElem_append_left (by omega), ← List.getElem?_eq_getElem]
                    congr 1; omega
                  · rw [if_neg (by omega), g3, o2, if_pos (by omega), List.getElem_append_right (by omega), ← List.getElem?_eq_getElem]
                    congr 1; omega
            · have hc1 : c' = 1 := by
                rcases hcr with h | ⟨h, _⟩ <;> omega
              subst hc1
              obtain ⟨G, ROW, hG, hR, hcall⟩ := insert_grow i.r (i.d + a.off) j.r (j.d + va.off) vc' cs us w o2 u2 o3' u3' c1 v1
              refine hcall.mono ?_
              rintro e w' ⟨rfl, rfl⟩
              obtain ⟨c2, g1, g2, g3⟩ := heap_setCells us 0 (w.alloc (.cells ROW 102)).drew ROW (heap_alloc_new w _)
              obtain ⟨c3, f1, f2, f3⟩ := heap_setCells cs 5 ((w.alloc (.cells ROW 102)).drew.setCells w.heap.size 0 us).drew c2 g1
              have hkill := kill_sound hs a.block (by rw [i2]; rfl) i1
              have hc3 : c3.size = G * 5 := by rw [f2, g2, hR]
              obtain ⟨k1, k2⟩ := newOpen_sound (w1 := ((((w.alloc (.cells ROW 102)).drew.setCells w.heap.size 0 us).drew).setCells w.heap.size 5 cs)) (l := x ++ l) (c' := c3) (e := 102) (fz := (0, 0)) hkill hB
                (by rw [size_setCells]; show (World.setCells _ _ _ _).heap.size = _; rw [size_setCells]; simp)
                (fun q hq => by
                  rw [heap_setCells_other _ _ _ _ (by omega)]
                  show (World.setCells _ _ _ _).heap[q]? = _
                  rw [heap_setCells_other _ _ _ _ (by omega)]
                  exact Below.heap_alloc w _ q hq) false 5 f1 (.inl rfl) (by omega) (fun t u ht => by
                  have ht' : t < (x ++ l).length := (List.getElem?_eq_some_iff.1 ht).1
                  have hll : (x ++ l).length = (us ++ cs).length := hlx.1
                  refine ⟨(us ++ cs)[t]'(by omega), ?_, hlx.2 t _ _ ht (List.getElem?_eq_getElem (by omega))⟩
                  rw [f3, o2]
                  by_cases htu : t < 5
                  · rw [if_neg (by omega), g3, u2, if_pos (by omega), List.getElem_append_left (by omega), ← List.getElem?_eq_getElem]
                    congr 1
                  · rw [if_pos (by omega), List.getElem_append_right (by omega), ← List.getElem?_eq_getElem]
                    congr 1; omega)
              refine ⟨_, rfl, _, k2, k1, .slice _ _ _ _ _ ⟨rfl, _, ext_same _ _ _, rfl⟩ (.inr ⟨hG, _, ext_same _ _ _, rfl, ?_, ?_⟩) (Nat.le_refl _), ((((Below.refl B w).alloc hB _).drew).trans (below_setCells hB _ _ _)).drew.trans (below_setCells hB _ _ _)⟩
              · simp only [Nat.zero_add]; exact hlen.symm
              · simp [hc3]
          · cases h0
        · cases h0
    · cases h
  · cases h
end
end Go.Proofs.YtneaefgmlmeddaaGreatDoor.Ev
