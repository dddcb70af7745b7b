/- Crash, walked. A disk with the one file a: what each call of DiskSafe's leaves. A disk with the one file a: each call of DiskSafe's. -/
import Derived.Test.YtekajggjoeimoaaDoorMb
import Derived.Test.YtekajggjoeimoaaDoorMa
set_option linter.unusedVariables false
namespace Go.Proofs.YtekajggjoeimoaaDoor
open Go.RowKit
def foldQ (p : List DE × Nat) (l : List Cq) : List DE × Nat := l.foldl (fun p c => turnQ p.1 p.2 c) p
def okF : List DE × Nat → List Cq → Prop
  | _, [] => True
  | p, c :: l => okQ p.1 c ∧ (c.f = none ∨ c.to = ByteArray.empty) ∧ okF (turnQ p.1 p.2 c) l
theorem foldQ_snoc (p : List DE × Nat) (l : List Cq) (c : Cq) : foldQ p (l ++ [c]) = turnQ (foldQ p l).1 (foldQ p l).2 c := by unfold foldQ; rw [List.foldl_append]; rfl
theorem okF_at : ∀ {l : List Cq} {p : List DE × Nat} {j : Nat} {c : Cq}, okF p l → l[j]? = some c → okQ (foldQ p (l.take j)).1 c ∧ (c.f = none ∨ c.to = ByteArray.empty)
  | [], p, j, c, _, h => by simp at h
  | x :: l, p, 0, c, h, hj => by simp at hj; subst hj; exact ⟨h.1, h.2.1⟩
  | x :: l, p, j + 1, c, h, hj => by
    have := okF_at (l := l) (p := turnQ p.1 p.2 x) (j := j) h.2.2 (by simpa using hj)
    exact this
theorem foldQ_ok : ∀ {l : List Cq} {p : List DE × Nat}, MapOK p.1 p.2 → okF p l → MapOK (foldQ p l).1 (foldQ p l).2
  | [], p, h, _ => h
  | c :: l, p, h, ho => foldQ_ok (l := l) (p := turnQ p.1 p.2 c) (turnQ_ok h ho.1) ho.2.2
def stepC (keep : List Int) (i : Nat) (x : Wr) (C : Nat → Bool → List ByteArray) : Nat → Bool → List ByteArray := if (i : Int) ∈ keep then upd C x.f false ((C x.f false).set x.n x.s) else C
def crashC (keep : List Int) : Nat → List Wr → (Nat → Bool → List ByteArray) → Nat → Bool → List ByteArray
  | _, [], C => C
  | i, x :: l, C => crashC keep (i + 1) l (stepC keep i x C)
theorem crashC_snoc (keep : List Int) : ∀ (l : List Wr) (i : Nat) (x : Wr) (C : Nat → Bool → List ByteArray), crashC keep i (l ++ [x]) C = stepC keep (i + l.length) x (crashC keep i l C)
  | [], i, x, C => rfl
  | y :: l, i, x, C => by
    show crashC keep (i + 1) (l ++ [x]) _ = _
    rw [crashC_snoc keep l (i + 1) x, List.length_cons, show i + 1 + l.length = i + (l.length + 1) by omega]
    rfl
theorem stepC_len (keep : List Int) (i : Nat) (x : Wr) (C : Nat → Bool → List ByteArray) (f : Nat) (b : Bool) : (stepC keep i x C f b).length = (C f b).length := by
  unfold stepC
  split
  · unfold upd
    split
    · rename_i h; obtain ⟨rfl, rfl⟩ := h; simp
    · rfl
  · rfl
theorem crashC_len (keep : List Int) (f : Nat) (b : Bool) : ∀ (l : List Wr) (i : Nat) (C : Nat → Bool → List ByteArray), (crashC keep i l C f b).length = (C f b).length
  | [], _, _ => rfl
  | x :: l, i, C => (crashC_len keep f b l (i + 1) _).trans (stepC_len keep i x C f b)
theorem crashC_now (keep : List Int) (f : Nat) : ∀ (l : List Wr) (i : Nat) (C : Nat → Bool → List ByteArray), crashC keep i l C f true = C f true
  | [], _, _ => rfl
  | x :: l, i, C => (crashC_now keep f l (i + 1) _).trans (by unfold stepC; split; exact upd_ne _ _ (by simp); rfl)
section
variable {X X' : Nat → Prop} {w w1 w2 w3 w4 : World} {db M1 M2 : Nat} {v3 v4 : Value} {q q' : DQ} {fs : List Nat} {V : Nat → Bool → Value} {C : Nat → Bool → List ByteArray}
theorem DiskV.mapTo1 (h : DiskV X w db M1 M2 v3 v4 q) {l : List DE} {ck : Nat} (hm : MapTo w w2 M1 (l.map DE.ent).toArray ck) (ho : MapOK l ck) : DiskV X w2 db M1 M2 v3 v4 { q with dir := l, dck := ck } :=
  h.cells (fun _ h => h) (q' := { q with dir := l, dck := ck }) ((hm.block db (Ne.symm h.m1_ne)).trans h.blk) hm.map ((hm.block M2 (Ne.symm h.ne)).trans h.m2) h.ne h.inX1 h.inX2 ho h.ok2
    (h.chs.keep (fun k cs hx hk h3 => (hm.block k (map_row_ne h.m1 h.chs hk)).trans h3) (fun _ h => h)) (h.wrs.keep (fun k cs hx hk h3 => (hm.block k (map_row_ne h.m1 h.wrs hk)).trans h3) (fun _ h => h))
def CrashRel1 (X : Nat → Prop) (W : World) (db M1 M2 : Nat) (v3 v4 : Value) (q : DQ) (n : Nat) (i : Value) (wr : World) : Prop :=
  ∃ j, j ≤ n ∧ i = .int .i64 j ∧ DiskV X wr db M1 M2 v3 v4 { q with dir := (foldQ (q.dir, q.dck) (q.chs.take j)).1, dck := (foldQ (q.dir, q.dck) (q.chs.take j)).2 } ∧ Same FT X W wr ∧ Fr X W wr
def CrashRel2 (X : Nat → Prop) (W : World) (db M1 M2 : Nat) (v3 v4 : Value) (q : DQ) (fs : List Nat) (V : Nat → Bool → Value) (C : Nat → Bool → List ByteArray) (ks : List Int) (i : Value) (wr : World) : Prop :=
  ∃ j, j ≤ q.wrs.length ∧ i = .int .i64 j ∧ DiskV X wr db M1 M2 v3 v4 q ∧ FilesV X wr fs V (crashC ks 0 (q.wrs.take j) C) ∧ Fr X W wr
theorem ItAt.keep {w1 w2 : World} {r M f o : Nat} {l : List DE} {ck : Nat} {seen : Array Nat} {t : TypeId} {cs : Array Value} {u : Value} (h : ItAt w1 r M l ck seen) (hb : Below w1.heap.size w1 w2) (hf : Blk w2 f t cs) : ItAt (w2.setCell ⟨f, o, none⟩ u) r M l ck seen := by
  have h1 := (hb.block _ (Array.getElem?_eq_some_iff.1 h.1).1).trans h.1
  have h2 := (hb.block _ (Array.getElem?_eq_some_iff.1 h.2).1).trans h.2
  unfold Blk at hf
  refine ⟨(Below.heap_setCell _ _ _ _ (fun e => ?_)).trans h1, (Below.heap_setCell _ _ _ _ (fun e => ?_)).trans h2⟩
  · have e' : r = f := e
    subst e'; rw [hf] at h1; cases h1
  · have e' : M = f := e
    subst e'; rw [hf] at h2; cases h2
def nowC (C : Nat → Bool → List ByteArray) (l : List DE) : Nat → Bool → List ByteArray := fun f b => if b = true ∧ f ∈ l.map DE.f then C f false else C f b
theorem nowC_nil {C : Nat → Bool → List ByteArray} {l : List DE} : nowC C (seenL l #[]) = C := by
  have e : seenL l #[] = [] := List.filter_eq_nil_iff.2 (fun x _ => by simp)
  rw [e]
  funext f b
  unfold nowC
  simp
theorem nowC_push {C : Nat → Bool → List ByteArray} {l : List DE} {ck : Nat} (h : MapOK l ck) {seen : Array Nat} {x : DE} (hx : x ∈ l) (hs : seen.contains x.born = false) : nowC C (seenL l (seen.push x.born)) = upd (nowC C (seenL l seen)) x.f true (C x.f false) := by
  have hp := (seenL_push seen x hs l h.born_nodup hx).map DE.f
  funext f b
  unfold nowC upd
  cases b with
  | false => simp
  | true =>
    by_cases e : f = x.f
    · subst e
      rw [if_pos (show true = true ∧ x.f ∈ (seenL l (seen.push x.born)).map DE.f from ⟨rfl, hp.mem_iff.2 (by simp)⟩), if_pos ⟨rfl, rfl⟩]
    · rw [if_neg (show ¬ (f = x.f ∧ true = true) from fun h => e h.1)]
      have : f ∈ (seenL l (seen.push x.born)).map DE.f ↔ f ∈ (seenL l seen).map DE.f := by
        rw [hp.mem_iff, List.map_cons, List.mem_cons]
        exact ⟨fun h => h.resolve_left e, .inr⟩
      simp only [this]
def CrashRel3 (X : Nat → Prop) (w : World) (r db M1 M2 : Nat) (v3 v4 : Value) (q : DQ) (fs : List Nat) (C : Nat → Bool → List ByteArray) (wz : World) : Prop :=
  ∃ seen, ItAt wz r M1 q.dir q.dck seen ∧ DiskV X wz db M1 M2 v3 v4 q ∧ (∃ V, FilesV (fun k => More X w k ∧ k < wz.heap.size) wz fs V (nowC C (seenL q.dir seen))) ∧ Fr X w wz ∧ r < wz.heap.size
set_option maxHeartbeats 8000000 in
set_option maxRecDepth 100000 in
theorem Crash_any (hF : FilesV X w fs V C) (h : DiskV X w db M1 M2 v3 v4 q) (hb : ∀ k, X k → k < w.heap.size) (changes : Int) (hch : -9223372036854775808 ≤ changes ∧ changes ≤ 9223372036854775807) {Ak : Option Addr} {ck : Nat} {ks : List Int}
    (hk : ∀ W, Fr X w W → Reads W W.heap.size 1 Ak ks.length (ks.map (.int .i64))) (hks : ks.length ≤ 1000000) (hm : q.wrs.length ≤ 1000) (hc : q.chs.length ≤ 1000)
    {n : Nat} (hn : n = min changes.toNat q.chs.length) (hok : okF (q.dir, q.dck) (q.chs.take n)) (hwf : ∀ y ∈ q.wrs, y.f ∈ fs ∧ y.n < (C y.f false).length) (hlen : ∀ f ∈ fs, (C f false).length ≤ 5000) (hdir : ∀ x ∈ (foldQ (q.dir, q.dck) (q.chs.take n)).1, x.f ∈ fs) :
    Calls Tryd.prog 15 #[.pointer (some ⟨db, 0, none⟩), .int .i64 changes, .slice Ak ks.length ck] w fun e w' => e = .returned (.tuple #[]) ∧ Left X w db M1 fs (nowC (crashC ks 0 q.wrs C) (foldQ (q.dir, q.dck) (q.chs.take n)).1)
      { q with dir := (foldQ (q.dir, q.dck) (q.chs.take n)).1, dck := (foldQ (q.dir, q.dck) (q.chs.take n)).2, now := (foldQ (q.dir, q.dck) (q.chs.take n)).1, nck := (foldQ (q.dir, q.dck) (q.chs.take n)).2, chs := [], wrs := [], armed := false } w' := by
  obtain ⟨A3, c3, rfl⟩ := h.chs.form
  obtain ⟨A4, c4, rfl⟩ := h.wrs.form
  have e3 : w.cell? ⟨db, 3, none⟩ = some (.slice A3 q.chs.length c3) := h.blk.cell 3
  go_enter Tryd.func15, Tryd.ntmps15
  have hcp : q.chs.length ≤ c3 ∧ c3 ≤ maxLen := by
    rcases h.chs.1.2 with ⟨h1, _⟩ | ⟨g, cap, cur, h1, _, _, h2, h3, _⟩
    · simp only [Value.slice.injEq] at h1
      obtain ⟨_, h4, h5⟩ := h1
      simp [maxLen]; omega
    · simp only [Value.slice.injEq] at h1
      obtain ⟨_, _, rfl⟩ := h1
      exact ⟨h2, h3⟩
  simp only [maxLen] at hcp
  obtain ⟨a, ha⟩ : ∃ a : Int, (if (q.chs.length : Int) < changes then (q.chs.length : Int) else changes) = a := ⟨_, rfl⟩
  have hmx : (if a > 0 then a else 0) = (n : Int) := by
    rw [hn, ← ha]
    split <;> split <;> omega
  have i0 : (0 : Int) ≤ (n : Int) := by omega
  have i1 : (n : Int) ≤ (c3 : Int) := by omega
  have i2 : (n : Int) ≤ 9223372036854775807 := by omega
  have hnc : n ≤ q.chs.length := by omega
  have HN := Lib.hid hn
  clear hn
  go_wp2_with fail
  go_quiet (fail)
  have hD0 : DiskV X (w.drewN nq) db M1 M2 (.slice A3 q.chs.length c3) (.slice A4 q.wrs.length c4) q := h.keep (fun _ h => h) Same.refl (fun _ _ _ _ h => h)
  have hF0 : FilesV X (w.drewN nq) fs V C := hF.keep (fun _ h => h) Same.refl
  have f0 : Fr X w (w.drewN nq) := ⟨rfl, rfl, rfl, Nat.le_refl _, fun _ _ _ => rfl⟩
  obtain ⟨W, hW⟩ : ∃ W, w.drewN nq = W := ⟨_, rfl⟩
  rw [hW] at hD0 hF0 f0 ⊢
  clear hW hmx ha i0 i1 i2
  go_wp2
  go_loopw [28] (fun i wr => CrashRel1 X W db M1 M2 (.slice A3 q.chs.length c3) (.slice A4 q.wrs.length c4) q n i wr) (fun i _ => n - (intOf i).toNat)
  case atStart => exact ⟨0, Nat.zero_le _, rfl, hD0, Same.refl, Fr.refl _ _⟩
  case round =>
    obtain ⟨j, hj, rfl, hD, hS, hfr⟩ := hrel
    by_cases hlt : j < n
    · have d1 : decide (j < n) = true := by simpa using hlt
      obtain ⟨c, hcj⟩ : ∃ c, q.chs[j]? = some c := ⟨_, List.getElem?_eq_getElem (by omega)⟩
      obtain ⟨g, c', cur, hv, hXg, hg, hsz, hcur⟩ := hD.chs.row (by show 0 < q.chs.length; omega)
      obtain ⟨rfl, _, rfl⟩ : A3 = some ⟨g, 0, none⟩ ∧ q.chs.length = q.chs.length ∧ c3 = c' := by simpa using hv
      have e0 : wr.cell? ⟨g, j * 3, none⟩ = some (.string c.nm) := (hg.cell _).trans (hcur _ _ ((cqcells_at hcj 0 (by omega)).trans rfl))
      have e1 : wr.cell? ⟨g, j * 3 + 1, none⟩ = some (.string c.to) := (hg.cell _).trans (hcur _ _ ((cqcells_at hcj 1 (by omega)).trans rfl))
      have e2 : wr.cell? ⟨g, j * 3 + 2, none⟩ = some (.pointer (c.f.map fun f => ⟨f, 0, none⟩)) := (hg.cell _).trans (hcur _ _ ((cqcells_at hcj 2 (by omega)).trans rfl))
      have i0 : (0 : Int) ≤ (j : Int) := by omega
      have i1 : (j : Int) < (n : Int) := by omega
      have htk : (q.chs.take n)[j]? = some c := by rw [List.getElem?_take, if_pos hlt]; exact hcj
      obtain ⟨hq1, hq2⟩ := okF_at hok htk
      rw [List.take_take, Nat.min_eq_left (by omega)] at hq1
      have hDA := hD.below ((Below.refl _ _).alloc (Nat.le_refl _) (.cells #[.string c.nm, .string c.to, .pointer (c.f.map fun f => ⟨f, 0, none⟩)] 81))
      have hT := dirturn_any (w := (wr.alloc (.cells #[.string c.nm, .string c.to, .pointer (c.f.map fun f => ⟨f, 0, none⟩)] 81)).drew) hDA.m1 hq1 hq2
      unfold Cq.arr at hT
      have bx := Blk.new wr 81 #[.string c.nm, .string c.to, .pointer (c.f.map fun f => ⟨f, 0, none⟩)]
      have x0 := bx.cell 0
      have x1 := bx.cell 1
      have x2 := bx.cell 2
      have k1 : (wr.alloc (.cells #[.string c.nm, .string c.to, .pointer (c.f.map fun f => ⟨f, 0, none⟩)] 81)).cell? ⟨db, 1, none⟩ = some (.map (some M1)) := hDA.blk.cell 1
      have hts : q.chs.take (j + 1) = q.chs.take j ++ [c] := by rw [List.take_add_one, hcj]; rfl
      have HTS := Lib.hid hts
      clear hts hcj htk hcur
      go_wp2_with fail
      refine wp_region_tail 5 (by kernel_rfl) (by kernel_rfl) ?_
      repeat still_step
      refine wpStill_nil ?_
      go_wp2_with (go_at_call 39; refine hT.mono ?_; rintro e w2 ⟨rfl, hm2⟩)
      have hDB : DiskV X (wr.alloc (.cells #[.string c.nm, .string c.to, .pointer (c.f.map fun f => ⟨f, 0, none⟩)] 81)).drew db M1 M2 (.slice (some ⟨g, 0, none⟩) q.chs.length c3) (.slice A4 q.wrs.length c4) _ := hDA.keep (fun _ h => h) Same.refl (fun _ _ _ _ h => h)
      have hDC := hDB.below ((Below.refl _ _).alloc (Nat.le_refl _) (.cells #[.string c.nm, .string c.to, .pointer (c.f.map fun f => ⟨f, 0, none⟩)] 81))
      have hDD := hDC.mapTo1 hm2 (turnQ_ok hD.ok1 hq1)
      go_roundw
      case rel =>
        refine ⟨j + 1, by omega, by go_num, ?_, ?_, ?_⟩
        · rw [HTS.out, foldQ_snoc]; exact hDD
        · have s1 : Same FT X wr (wr.alloc (.cells #[.string c.nm, .string c.to, .pointer (c.f.map fun f => ⟨f, 0, none⟩)] 81)) := Same.of_below ((Below.refl _ _).alloc (Nat.le_refl _) _)
          have s2 : Same FT X (wr.alloc (.cells #[.string c.nm, .string c.to, .pointer (c.f.map fun f => ⟨f, 0, none⟩)] 81)).drew ((wr.alloc (.cells #[.string c.nm, .string c.to, .pointer (c.f.map fun f => ⟨f, 0, none⟩)] 81)).drew.alloc (.cells #[.string c.nm, .string c.to, .pointer (c.f.map fun f => ⟨f, 0, none⟩)] 81)) := Same.of_below ((Below.refl _ _).alloc (Nat.le_refl _) _)
          have s3 : Same FT X _ w2 := same_map hDC.m1 hm2
          exact ((hS.trans s1).trans s2).trans s3
        · exact hm2.frX (((hfr.alloc _).drew).alloc _) (.inr hD.inX1)
      case measure => simp [intOf]; omega
    · obtain rfl : j = n := by omega
      have d1 : decide (j < j) = false := by simp
      have hf1 := hF0.keep (fun _ h => h) hS
      have fr1 : Fr X w wr := f0.trans hfr
      have hE := hD.blk
      have e4 : wr.cell? ⟨db, 4, none⟩ = some (.slice A4 q.wrs.length c4) := hE.cell 4
      obtain ⟨q1, hq1⟩ : ∃ q1 : DQ, ({ q with dir := (foldQ (q.dir, q.dck) (q.chs.take j)).1, dck := (foldQ (q.dir, q.dck) (q.chs.take j)).2 } : DQ) = q1 := ⟨_, rfl⟩
      have hqw : q1.wrs = q.wrs := by rw [← hq1]
      have hqc : q1.chs = q.chs := by rw [← hq1]
      rw [hq1] at hD
      rw [← hqw] at hm hwf e4 hD ⊢
      have HQ1 := Lib.hid hq1
      have HQW := Lib.hid hqw
      have HQC := Lib.hid hqc
      clear hqw hqc hq1 hE hS hfr hD0 hF0 f0 h hF e3
      go_wp2_with fail
      go_loopw [44] (fun i wr2 => CrashRel2 X wr db M1 M2 (.slice A3 q.chs.length c3) (.slice A4 q1.wrs.length c4) q1 fs V C ks i wr2) (fun i _ => q1.wrs.length - (intOf i).toNat)
      case atStart => exact ⟨0, Nat.zero_le _, rfl, hD, hf1, Fr.refl _ _⟩
      case round =>
        obtain ⟨p, hp, rfl, hD2, hF2, hfr2⟩ := hrel
        have fr2 : Fr X w wr := fr1.trans hfr2
        by_cases hlt2 : p < q1.wrs.length
        · have d2 : decide (p < q1.wrs.length) = true := by simpa using hlt2
          obtain ⟨y, hy⟩ : ∃ y, q1.wrs[p]? = some y := ⟨_, List.getElem?_eq_getElem hlt2⟩
          obtain ⟨g, c', cur, hv, hXg, hg, hsz, hcur⟩ := hD2.wrs.row (by omega)
          obtain ⟨rfl, _, rfl⟩ : A4 = some ⟨g, 0, none⟩ ∧ q1.wrs.length = q1.wrs.length ∧ c4 = c' := by simpa using hv
          have e0 : wr.cell? ⟨g, p * 3, none⟩ = some (.pointer (some ⟨y.f, 0, none⟩)) := (hg.cell _).trans (hcur _ _ ((wcells_at hy 0 (by omega)).trans rfl))
          have e1 : wr.cell? ⟨g, p * 3 + 1, none⟩ = some (.int .i64 y.n) := (hg.cell _).trans (hcur _ _ ((wcells_at hy 1 (by omega)).trans rfl))
          have e2 : wr.cell? ⟨g, p * 3 + 2, none⟩ = some (.string y.s) := (hg.cell _).trans (hcur _ _ ((wcells_at hy 2 (by omega)).trans rfl))
          have i0 : (0 : Int) ≤ (p : Int) := by omega
          have i1 : (p : Int) < (q1.wrs.length : Int) := by omega
          obtain ⟨hyf, hyn⟩ := hwf y (List.mem_of_getElem? hy)
          have bx := Blk.new wr 89 #[.pointer (some ⟨y.f, 0, none⟩), .int .i64 y.n, .string y.s]
          have bW : Below wr.heap.size wr (wr.alloc (.cells #[.pointer (some ⟨y.f, 0, none⟩), .int .i64 y.n, .string y.s] 89)) := (Below.refl _ _).alloc (Nat.le_refl _) _
          have hDA := hD2.below bW
          have hFA := hF2.keep (fun _ h => h) (Same.of_below (T := FT) (X := X) bW)
          have hCt := Contains_ints (hk _ (fr2.alloc (.cells #[.pointer (some ⟨y.f, 0, none⟩), .int .i64 y.n, .string y.s] 89))) hks (c := ck) (p : Int)
          have hts : q1.wrs.take (p + 1) = q1.wrs.take p ++ [y] := by rw [List.take_add_one, hy]; rfl
          have hcs := crashC_snoc ks (q1.wrs.take p) 0 y C
          rw [List.length_take, Nat.min_eq_left (by omega), Nat.zero_add] at hcs
          have HTS := Lib.hid hts
          have HCS := Lib.hid hcs
          have x0 := bx.cell 0
          have x1 := bx.cell 1
          have x2 := bx.cell 2
          clear hts hcs hy hcur
          by_cases hin : (p : Int) ∈ ks
          · rw [decide_eq_true hin] at hCt
            have HIN := Lib.hid hin
            clear hin
            obtain ⟨gs, cs', cu, hVs, hXs, hgs, hszs, hcus⟩ := (hFA.row y.f hyf false).row (by rw [crashC_len]; omega)
            have hlc : (crashC ks 0 (q1.wrs.take p) C y.f false).length = (C y.f false).length := crashC_len ks y.f false _ _ _
            rw [hlc] at hVs
            have hln := hlen y.f hyf
            have hfb := hFA.blk y.f hyf
            rw [hVs] at hfb
            have s0 : (wr.alloc (.cells #[.pointer (some ⟨y.f, 0, none⟩), .int .i64 y.n, .string y.s] 89)).cell? ⟨y.f, 0, none⟩ = some (.slice (some ⟨gs, 0, none⟩) (C y.f false).length cs') := hfb.cell 0
            obtain ⟨u, hu⟩ : ∃ u, cu[y.n]? = some u := ⟨_, Array.getElem?_eq_getElem (by omega)⟩
            have s1 : (wr.alloc (.cells #[.pointer (some ⟨y.f, 0, none⟩), .int .i64 y.n, .string y.s] 89)).cell? ⟨gs, y.n, none⟩ = some u := (hgs.cell _).trans hu
            have s2 := hgs.frozen y.n
            have k0 : (0 : Int) ≤ (y.n : Int) := by omega
            have k1 : (y.n : Int) < ((C y.f false).length : Int) := by omega
            have hFB := hFA.set (b := false) hyf hVs (by rw [hlc]; exact hyn) y.s
            clear hu hszs hcus hfb
            go_wp2_with (go_at_call 40; refine hCt.mono ?_; rintro e w9 ⟨rfl, rfl⟩)
            refine wp_region_tail 10 (by kernel_rfl) (by kernel_rfl) ?_
            repeat still_step
            refine wpStill_nil ?_
            go_wp2
            have hDB : DiskV X ((wr.alloc (.cells #[.pointer (some ⟨y.f, 0, none⟩), .int .i64 y.n, .string y.s] 89)).setCell ⟨gs, y.n, none⟩ (.string y.s)).drew db M1 M2 (.slice A3 q.chs.length c3) (.slice (some ⟨g, 0, none⟩) q1.wrs.length c4) q1 := (hDA.keep (fun _ h => h) (same_set hgs (by rintro (e | e | e) <;> cases e)) (sameM_set hgs)).keep (fun _ h => h) Same.refl (fun _ _ _ _ h => h)
            refine ⟨⟨p + 1, by omega, by go_num, hDB, ?_, ((hfr2.alloc _).setCell (p := ⟨gs, y.n, none⟩) (.inr hXs) _).drew⟩, by simp [intOf]; omega⟩
            rw [HTS.out, HCS.out]
            unfold stepC
            rw [if_pos HIN.out]
            exact hFB.keep (fun _ h => h) Same.refl
          · rw [decide_eq_false hin] at hCt
            have HIN := Lib.hid hin
            clear hin
            go_wp2_with (go_at_call 40; refine hCt.mono ?_; rintro e w9 ⟨rfl, rfl⟩)
            go_roundw
            case rel =>
              refine ⟨p + 1, by omega, by go_num, hDA, ?_, hfr2.alloc _⟩
              rw [HTS.out, HCS.out]
              unfold stepC
              rw [if_neg HIN.out]
              exact hFA
            case measure => simp [intOf]; omega
        · obtain rfl : p = q1.wrs.length := by omega
          have d2 : decide (q1.wrs.length < q1.wrs.length) = false := by simp
          rw [List.take_length] at hF2
          obtain ⟨C2, hC2⟩ : ∃ C2, crashC ks 0 q1.wrs C = C2 := ⟨_, rfl⟩
          have hC2l : ∀ f, (C2 f false).length = (C f false).length := fun f => by rw [← hC2]; exact crashC_len ks f false _ _ _
          rw [hC2] at hF2
          have HC2 := Lib.hid hC2
          have HC2L := Lib.hid hC2l
          clear hC2 hC2l
          have e5 : wr.cell? ⟨db, 1, none⟩ = some (.map (some M1)) := hD2.blk.cell 1
          have hrg := run_range_map (P := Tryd.prog) wr 60 _ _ M1 _ q1.dck Tryd.underlying60 hD2.m1
          have hMl := (Array.getElem?_eq_some_iff.1 hD2.m1).1
          have hsz2 := fr2.size
          go_wp2
          go_loopw [11] (fun _ wz => CrashRel3 X w wr.heap.size db M1 M2 (.slice A3 q.chs.length c3) (.slice A4 q1.wrs.length c4) q1 fs C2 wz) (fun _ wz => (leftOf (q1.dir.map DE.ent).toArray (wz.iterSeen wr.heap.size)).size)
          case atStart =>
            have bI : Below wr.heap.size wr (wr.alloc (.mapIter (some M1) q1.dck #[] q1.dck)) := (Below.refl _ _).alloc (Nat.le_refl _) _
            refine ⟨#[], ⟨heap_alloc_new wr _, (Below.heap_alloc _ _ _ hMl).trans hD2.m1⟩, hD2.below bI, ⟨V, ?_⟩, fr2.alloc _, by simp⟩
            rw [nowC_nil]
            exact (hF2.keep (X' := More X w) (fun _ => more_left) (Same.of_below bI)).bound
          case round =>
            obtain ⟨seen, hit, hD3, ⟨V3, hF3⟩, fr3, hrl⟩ := hrel
            rcases it_step hit hD3.ok1 with ⟨h0, hnx⟩ | ⟨x, hx, hs, hsm, w1, hnx, hen, hit1, ho, ht, hu, hsz, hbl⟩
            · have e0 := seenL_all q1.dir seen h0
              rw [e0] at hF3
              have hb3 := hD3.blk
              have hm1 := hD3.m1
              have m1 : wr.cell? ⟨db, 1, none⟩ = some (.map (some M1)) := hb3.cell 1
              obtain ⟨W6, hW6⟩ : ∃ W6, wr.alloc (.map (q1.dir.map DE.ent).toArray q1.dck) = W6 := ⟨_, rfl⟩
              have hB6 : Below wr.heap.size wr W6 := hW6 ▸ (Below.refl _ _).alloc (Nat.le_refl _) _
              have hn6 : W6.heap[wr.heap.size]? = some (.map (q1.dir.map DE.ent).toArray q1.dck) := hW6 ▸ heap_alloc_new wr _
              have hD6 := hD3.below hB6
              have b6 := hD6.blk
              have m2 : W6.cell? ⟨db, 2, none⟩ = some (.map (some M2)) := b6.cell 2
              have z2 := b6.frozen 2
              have b7 := b6.set_ 2 (.map (some wr.heap.size))
              have m3 : (W6.setCell ⟨db, 2, none⟩ (.map (some wr.heap.size))).cell? ⟨db, 3, none⟩ = some (.slice A3 q.chs.length c3) := b7.cell 3
              have z3 := b7.frozen 3
              have b8 := b7.set_ 3 (.slice none 0 0)
              have m4 : ((W6.setCell ⟨db, 2, none⟩ (.map (some wr.heap.size))).setCell ⟨db, 3, none⟩ (.slice none 0 0)).cell? ⟨db, 4, none⟩ = some (.slice A4 q1.wrs.length c4) := b8.cell 4
              have z4 := b8.frozen 4
              have b9 := b8.set_ 4 (.slice none 0 0)
              have m5 : (((W6.setCell ⟨db, 2, none⟩ (.map (some wr.heap.size))).setCell ⟨db, 3, none⟩ (.slice none 0 0)).setCell ⟨db, 4, none⟩ (.slice none 0 0)).cell? ⟨db, 5, none⟩ = some (.bool q1.armed) := b9.cell 5
              have z5 := b9.frozen 5
              go_wp2_with (go_at_call 27; refine (MClone_any hm1).mono ?_; rintro e w8 ⟨rfl, rfl⟩)
              go_end0
              have b10 := b9.set_ 5 (.bool false)
              have hoth : ∀ k, k ≠ db → ((((W6.setCell ⟨db, 2, none⟩ (.map (some wr.heap.size))).setCell ⟨db, 3, none⟩ (.slice none 0 0)).setCell ⟨db, 4, none⟩ (.slice none 0 0)).setCell ⟨db, 5, none⟩ (.bool false)).heap[k]? = W6.heap[k]? := fun k hk =>
                (Below.heap_setCell _ _ _ _ hk).trans ((Below.heap_setCell _ _ _ _ hk).trans ((Below.heap_setCell _ _ _ _ hk).trans (Below.heap_setCell _ _ _ _ hk)))
              have hdl := hD3.blk.lt
              have hml := (Array.getElem?_eq_some_iff.1 hD3.m1).1
              have hfz := fr3.size
              have hDf : DiskV (More X w) ((((W6.setCell ⟨db, 2, none⟩ (.map (some wr.heap.size))).setCell ⟨db, 3, none⟩ (.slice none 0 0)).setCell ⟨db, 4, none⟩ (.slice none 0 0)).setCell ⟨db, 5, none⟩ (.bool false)) db M1 wr.heap.size (.slice none 0 0) (.slice none 0 0) { q1 with now := q1.dir, nck := q1.dck, chs := [], wrs := [], armed := false } :=
                hD6.cells (X' := More X w) (fun _ => more_left) (q' := { q1 with now := q1.dir, nck := q1.dck, chs := [], wrs := [], armed := false }) b10 ((hoth _ hD6.m1_ne).trans hD6.m1) ((hoth _ (by omega)).trans hn6) (by omega) (more_left hD3.inX1) (.inr hfz) hD3.ok1 hD3.ok1 RowX.nil RowX.nil
              have hFf : FilesV (More X w) ((((W6.setCell ⟨db, 2, none⟩ (.map (some wr.heap.size))).setCell ⟨db, 3, none⟩ (.slice none 0 0)).setCell ⟨db, 4, none⟩ (.slice none 0 0)).setCell ⟨db, 5, none⟩ (.bool false)) fs V3 (nowC C2 q1.dir) :=
                hF3.keep (fun k hk => hk.1) ((((((Same.of_below hB6).trans (same_set b6 (by rintro (e | e) <;> cases e))).trans (same_set b7 (by rintro (e | e) <;> cases e))).trans (same_set b8 (by rintro (e | e) <;> cases e)))).trans (same_set b9 (by rintro (e | e) <;> cases e)))
              have f6 : Fr X w W6 := fr3.trans (Fr.of_below hB6)
              have f7 := (((f6.setCell (p := ⟨db, 2, none⟩) (.inr hD3.inX) (.map (some wr.heap.size))).setCell (p := ⟨db, 3, none⟩) (.inr hD3.inX) (.slice none 0 0)).setCell (p := ⟨db, 4, none⟩) (.inr hD3.inX) (.slice none 0 0)).setCell (p := ⟨db, 5, none⟩) (.inr hD3.inX) (.bool false)
              have hq1 := HQ1.out
              have hC2 := HC2.out
              rw [HQW.out] at hC2
              rw [hC2]
              subst hq1
              exact ⟨rfl, ⟨⟨_, _, _, hDf⟩, ⟨_, hFf⟩, f7⟩⟩
            · have hen1 := hen w1 hit1
              clear hen
              have hxf : x.f ∈ fs := hdir x (by have := HQ1.out; rw [← this] at hx; exact hx)
              have hri := hit.1
              have hMi := hit.2
              have hkr : ∀ (k : Nat) (cs : Array Value) (t : TypeId), wr.heap[k]? = some (Obj.cells cs t (0, 0)) → w1.heap[k]? = some (Obj.cells cs t (0, 0)) := fun k cs t h => (hbl k (fun e => by subst e; rw [hri] at h; cases h)).trans h
              have hD4 : DiskV X w1 db M1 M2 (.slice A3 q.chs.length c3) (.slice A4 q1.wrs.length c4) q1 := hD3.keep (fun _ h => h) (fun k cs t _ _ h => hkr k cs t h) (fun k es c _ h => (hbl k (fun e => by subst e; rw [hri] at h; cases h)).trans h)
              have hF4 := hF3.keep (X' := fun k => More X w k ∧ k < wr.heap.size) (w' := w1) (fun _ h => h) (fun k cs t _ _ h => hkr k cs t h)
              have fr4 : Fr X w w1 := ⟨ho.trans fr3.os, ht.trans fr3.tape, hu.trans fr3.output, by rw [hsz]; exact fr3.size, fun k hk hx => (hbl k (by omega)).trans (fr3.block k hk hx)⟩
              obtain ⟨A5, c5, hV5⟩ := (hF4.row x.f hxf false).form
              have hr5 := hF4.row x.f hxf false
              rw [hV5] at hr5
              have hnf : nowC C2 (seenL q1.dir seen) x.f false = C2 x.f false := by unfold nowC; rw [if_neg (by simp)]
              rw [hnf] at hV5 hr5
              have hfb := hF4.blk x.f hxf
              rw [hV5] at hfb
              have y0 : w1.cell? ⟨x.f, 0, none⟩ = some (.slice A5 (C2 x.f false).length c5) := hfb.cell 0
              have hCl := Clone_row hr5 (by rw [HC2L.out]; exact hlen x.f hxf)
              unfold DE.val at hnx hen1
              go_wp2_with (go_at_call 36; refine hCl.mono ?_; rintro e w2 ⟨A7, c7, rfl, ho7, hB7⟩; have hf7 : Blk w2 x.f 79 _ := (hB7.block x.f hfb.lt).trans hfb; have y1 : w2.cell? ⟨x.f, 1, none⟩ = some (V3 x.f true) := hf7.cell 1; have z1 := hf7.frozen 1)
              go_roundw
              case rel =>
                have hnp := nowC_push (C := C2) hD3.ok1 hx hs
                have hrw1 : wr.heap.size = w1.heap.size := hsz.symm
                have hF5 := hF4.keep (X' := fun k => More X w k ∧ k < wr.heap.size) (fun _ h => h) (Same.of_below (T := FT) (X := fun k => More X w k ∧ k < wr.heap.size) hB7)
                have hfz := fr3.size
                have hF6 := hF5.turn (b := true) (X' := More X w) (w1 := w2) (v' := .slice A7 (C2 x.f false).length c7) (l' := C2 x.f false) hxf (fun k hk => hk.1) (fun k cs t _ _ _ h => h) ⟨own_base ho7, fun k hk => .inr (by have := (ho7.lt k hk).1; omega)⟩ (.inr (fun k hk hx => by have := (ho7.lt k hk).1; have := hx.2; omega))
                rw [← hnp] at hF6
                refine ⟨seen.push x.born, hit1.keep hB7 hf7, ?_, ⟨_, hF6.bound⟩, ?_, ?_⟩
                · exact (hD4.below hB7).keep (fun _ h => h) (same_set hf7 (by rintro (e | e | e) <;> cases e)) (sameM_set hf7)
                · exact (fr4.trans (Fr.of_below hB7)).setCell (p := ⟨x.f, 1, none⟩) (by have := (hF4.inX x.f hxf).1; rcases this with h | h; exact .inr h; exact .inl h) _
                · have := hB7.size
                  simp [World.setCell]
                  omega
              case measure =>
                rw [hit.seen]
                have hq := (hit1.keep (o := 1) (u := .slice A7 (C2 x.f false).length c7) hB7 hf7).seen
                rw [hq]
                exact hsm
end
end Go.Proofs.YtekajggjoeimoaaDoor
set_option linter.unusedVariables false
namespace Go.Proofs.YtekajggjoeimoaaDoor
open Go.RowKit
set_option maxHeartbeats 1000000 in
set_option maxRecDepth 100000 in
theorem New_any2 (w : World) {room : Int} (h0 : 0 ≤ room) (h1 : room ≤ 4096) : Calls Tryd.prog 6 #[.int .i64 room] w fun e w' => e = .returned (.tuple #[.pointer (some ⟨w.heap.size + 2, 0, none⟩), .nilIface]) ∧
    ∃ M1 M2, M1 ≠ M2 ∧ w.heap.size ≤ M1 ∧ w'.heap[M1]? = some (.map #[] 0) ∧ w.heap.size ≤ M2 ∧ w'.heap[M2]? = some (.map #[] 0) ∧ Blk w' (w.heap.size + 2) 64 (dcells room (.map (some M1)) (.map (some M2)) (.slice none 0 0) (.slice none 0 0) false 0 0) ∧ Below w.heap.size w w' := by
  have hmm := @run_makeMap Tryd.prog
  have d0 : decide (room < 0) = false := by simp; omega
  have d1 : decide (4096 < room) = false := by simp; omega
  go_enter Tryd.func6, Tryd.ntmps6
  go_wp2
  go_ret2
  have e1 : ((w.alloc (.map #[] 0)).alloc (.map #[] 0)).heap.size = w.heap.size + 2 := by simp
  have e2 : (w.alloc (.map #[] 0)).heap.size = w.heap.size + 1 := by simp
  refine ⟨rfl, w.heap.size, w.heap.size + 1, by omega, by omega, ?_, by omega, ?_, ?_, (((Below.refl _ _).alloc (Nat.le_refl _) _).alloc (by simp) _).alloc (by simp; omega) _⟩
  · exact (Below.heap_alloc _ _ _ (by simp; omega)).trans ((Below.heap_alloc _ _ _ (by simp)).trans (heap_alloc_new w (.map #[] 0)))
  · have h1 := heap_alloc_new (w.alloc (.map #[] 0)) (.map #[] 0)
    rw [e2] at h1
    exact (Below.heap_alloc _ _ _ (by simp)).trans h1
  · have := Blk.new ((w.alloc (.map #[] 0)).alloc (.map #[] 0)) 64 #[.int .i64 room, .map (some w.heap.size), .map (some (w.heap.size + 1)), .slice none 0 0, .slice none 0 0, .bool false, .int .i64 0, .int .i64 0]
    rw [e1] at this
    exact this
def nmA : ByteArray := ⟨#[97]⟩
def qS (f : Nat) (ws : List Wr) : DQ := ⟨16, [⟨nmA, f, 0⟩], 1, [⟨nmA, f, 0⟩], 1, [], ws, false, 0, 0⟩
/-- The disk, beside what is another's (Y). -/
def DS (B : Nat) (Y : Nat → Prop) (w : World) (db : Nat) (fs : List Nat) (C : Nat → Bool → List ByteArray) (q : DQ) : Prop :=
  ∃ X M1 M2 v3 v4 V, (∀ k, X k → k < w.heap.size ∧ B ≤ k ∧ ¬ Y k) ∧ DiskV X w db M1 M2 v3 v4 q ∧ FilesV X w fs V C
section
variable {B : Nat} {Y Y' : Nat → Prop} {w w' : World} {db : Nat} {fs : List Nat} {C C' : Nat → Bool → List ByteArray} {q q' : DQ}
/-- What is another's is as it was. -/
def FrN (B : Nat) (Y : Nat → Prop) (w w' : World) : Prop := Fr (fun k => B ≤ k ∧ ¬ Y k) w w'
theorem FrN.below (h : FrN B Y w w') (hB : B ≤ w.heap.size) : Below B w w' := Fr.below h hB (fun k hk => hk.1)
theorem ds_left {X : Nat → Prop} {M1 : Nat} (hX : ∀ k, X k → k < w.heap.size ∧ B ≤ k ∧ ¬ Y k) (hY : ∀ k, Y k → k < w.heap.size) (hB : B ≤ w.heap.size) (h : Left X w db M1 fs C q w') : DS B Y w' db fs C q ∧ FrN B Y w w' := by
  obtain ⟨⟨M2, v3, v4, hD⟩, ⟨V, hF⟩, hfr⟩ := h
  refine ⟨⟨_, M1, M2, v3, v4, V, fun k hk => ⟨hk.2, ?_, ?_⟩, hD.bound, hF.bound⟩, hfr.mono fun k _ hk => (hX k hk).2⟩
  · rcases hk.1 with h1 | h1
    · exact (hX k h1).2.1
    · omega
  · rcases hk.1 with h1 | h1
    · exact (hX k h1).2.2
    · intro hy; have := hY k hy; omega
/-- Another's turn. -/
theorem DS.other (h : DS B Y w db fs C q) (hf : Fr Y w w') (hY : ∀ k, Y' k → Y k ∨ w.heap.size ≤ k) : DS B Y' w' db fs C q := by
  obtain ⟨X, M1, M2, v3, v4, V, hX, hD, hF⟩ := h
  have hk : ∀ k o, X k → w.heap[k]? = some o → w'.heap[k]? = some o := fun k o hx h => hf.heap h (hX k hx).2.2
  refine ⟨X, M1, M2, v3, v4, V, fun k hx => ⟨Nat.lt_of_lt_of_le (hX k hx).1 hf.size, (hX k hx).2.1, fun hy => ?_⟩, hD.keep (fun _ h => h) (fun k cs t _ hx h => hk k _ hx h) (fun k es c hx h => hk k _ hx h), hF.keep (fun _ h => h) (fun k cs t _ hx h => hk k _ hx h)⟩
  rcases hY k hy with h1 | h1
  · exact (hX k hx).2.2 h1
  · have := (hX k hx).1; omega
theorem ends_nil {op nm : ByteArray} {e : Ending} (h : Ends w op nm 0 e w') : e = .returned .nilIface := by
  obtain ⟨v, rfl, h⟩ := h
  rcases h with ⟨_, rfl⟩ | ⟨h, _⟩
  · rfl
  · exact absurd rfl h
theorem failS (f : Nat) (ws : List Wr) : failQ (qS f ws) = (0, qS f ws) := rfl
theorem openedS (f : Nat) (ws : List Wr) : openedQ (qS f ws) nmA = (0, some f) := by
  unfold openedQ
  rw [failS]
  simp [qS, look]
/-- A new disk. -/
theorem ds_new (hB : B ≤ w.heap.size) (hY : ∀ k, Y k → k < w.heap.size) : Calls Tryd.prog 6 #[.int .i64 16] w fun e w' => ∃ db, e = .returned (.tuple #[.pointer (some ⟨db, 0, none⟩), .nilIface]) ∧ DS B Y w' db [] (fun _ _ => []) ⟨16, [], 0, [], 0, [], [], false, 0, 0⟩ ∧ FrN B Y w w' := by
  refine (New_any2 w (room := 16) (by omega) (by omega)).mono ?_
  rintro e w' ⟨rfl, M1, M2, hM, h1, h2, h3, h4, hb, hbl⟩
  refine ⟨_, rfl, ⟨fun k => w.heap.size ≤ k ∧ k < w'.heap.size, M1, M2, .slice none 0 0, .slice none 0 0, fun _ _ => .slice none 0 0, fun k hk => ⟨hk.2, by omega, fun hy => by have := hY k hy; omega⟩, ?_, ⟨fun f hf => (by cases hf), fun f hf => (by cases hf), fun f hf => (by cases hf), fun f hf => (by cases hf)⟩⟩, Fr.of_below hbl⟩
  have hl1 := (Array.getElem?_eq_some_iff.1 h2).1
  have hl2 := (Array.getElem?_eq_some_iff.1 h4).1
  exact ⟨hb, h2, h4, hM, ⟨by omega, hb.lt⟩, ⟨h1, hl1⟩, ⟨h3, hl2⟩, ⟨by simp, by simp, by simp⟩, ⟨by simp, by simp, by simp⟩, RowX.nil, RowX.nil⟩
end
end Go.Proofs.YtekajggjoeimoaaDoor
set_option linter.unusedVariables false
namespace Go.Proofs.YtekajggjoeimoaaDoor
open Go.RowKit
section
variable {B : Nat} {Y Y' : Nat → Prop} {w w' : World} {db f : Nat} {fs : List Nat} {C C' : Nat → Bool → List ByteArray} {q q' : DQ} {ws : List Wr}
theorem ds_create (h : DS B Y w db [] (fun _ _ => []) ⟨16, [], 0, [], 0, [], [], false, 0, 0⟩) (hB : B ≤ w.heap.size) (hY : ∀ k, Y k → k < w.heap.size) :
    Calls Tryd.prog 11 #[.pointer (some ⟨db, 0, none⟩), .string nmA] w fun e w' => e = .returned .nilIface ∧ FrN B Y w w' ∧ ∃ f, DS B Y w' db [f] (fun _ _ => []) ⟨16, [], 0, [⟨nmA, f, 0⟩], 1, [⟨nmA, ByteArray.empty, some f⟩], [], false, 0, 0⟩ := by
  obtain ⟨X, M1, M2, v3, v4, V, hX, hD, hF⟩ := h
  have hc : createC ⟨16, [], 0, [], 0, [], [], false, 0, 0⟩ nmA = 0 := by
    unfold createC
    rw [if_neg (by decide), if_neg (by decide), if_neg (by simp [lkF, look]), if_neg (by simp)]
  refine (Create_go hF hD (by decide) nmA (by decide) hc (by simp)).mono ?_
  rintro e w' ⟨hE, f, hf, hL⟩
  obtain ⟨h1, h2⟩ := ds_left hX hY hB hL
  refine ⟨ends_nil hE, h2, f, ?_⟩
  have e : (fun g b => if g = f then ([] : List ByteArray) else (fun (_ : Nat) (_ : Bool) => ([] : List ByteArray)) g b) = fun _ _ => [] := by funext g b; simp
  rw [e] at h1
  exact h1
theorem ds_syncdir (h : DS B Y w db [f] C ⟨16, [], 0, [⟨nmA, f, 0⟩], 1, [⟨nmA, ByteArray.empty, some f⟩], [], false, 0, 0⟩) (hB : B ≤ w.heap.size) (hY : ∀ k, Y k → k < w.heap.size) :
    Calls Tryd.prog 9 #[.pointer (some ⟨db, 0, none⟩)] w fun e w' => e = .returned .nilIface ∧ FrN B Y w w' ∧ DS B Y w' db [f] C (qS f []) := by
  obtain ⟨X, M1, M2, v3, v4, V, hX, hD, hF⟩ := h
  refine (SyncDir_go hF hD (by show (0 : Int) ≤ _; decide) rfl).mono ?_
  rintro e w' ⟨hE, hL⟩
  obtain ⟨h1, h2⟩ := ds_left hX hY hB hL
  exact ⟨ends_nil hE, h2, h1⟩
theorem ds_grow (h : DS B Y w db [f] (fun _ _ => []) (qS f [])) (hB : B ≤ w.heap.size) (hY : ∀ k, Y k → k < w.heap.size) :
    Calls Tryd.prog 12 #[.pointer (some ⟨db, 0, none⟩), .string nmA, .int .i64 8] w fun e w' => e = .returned .nilIface ∧ FrN B Y w w' ∧ ∃ C, C f false = List.replicate 8 zeroS ∧ C f true = List.replicate 8 zeroS ∧ DS B Y w' db [f] C (qS f []) := by
  obtain ⟨X, M1, M2, v3, v4, V, hX, hD, hF⟩ := h
  have h8 := Grow_go hF hD (fun k hk => (hX k hk).1) (by show (0 : Int) ≤ _; decide) (fun x hx => by simp [qS] at hx; subst hx; simp) (by simp [qS]) (fun x _ => by simp) (openedS f []) (by simp) (n := 8) (by simp) (by omega) (by simp [lens, qS]) (by simp [qS]) (by simp)
  refine h8.mono ?_
  rintro e w' ⟨hE, hL⟩
  obtain ⟨h1, h2⟩ := ds_left hX hY hB hL
  refine ⟨ends_nil hE, h2, _, ?_, ?_, h1⟩
  · rw [upd_ne _ _ (by simp), upd_at]; rfl
  · rw [upd_at]; rfl
theorem ds_write (h : DS B Y w db [f] C (qS f ws)) (hB : B ≤ w.heap.size) (hY : ∀ k, Y k → k < w.heap.size) {n : Nat} (hn : n < 8) (hl : (C f true).length = 8) {Ap : Option Addr} {cp : Nat} {s : ByteArray}
    (hcv : ∀ W, FrN B Y w W → (convert 38 86 (.slice Ap 64 cp)).run Tryd.prog W = .ok (.string s) W) (hm : ws.length ≤ 1000) :
    Calls Tryd.prog 13 #[.pointer (some ⟨db, 0, none⟩), .string nmA, .int .i64 n, .slice Ap 64 cp] w fun e w' => e = .returned .nilIface ∧ FrN B Y w w' ∧ DS B Y w' db [f] (upd C f true ((C f true).set n s)) (qS f (ws ++ [⟨f, n, s⟩])) := by
  obtain ⟨X, M1, M2, v3, v4, V, hX, hD, hF⟩ := h
  refine (Write_go hF hD (by show (0 : Int) ≤ _; decide) (openedS f ws) (by simp) (n := n) (by omega) (by omega) (fun W hW => hcv W (hW.mono fun k _ hk => (hX k hk).2)) hm).mono ?_
  rintro e w' ⟨hE, hL⟩
  obtain ⟨h1, h2⟩ := ds_left hX hY hB hL
  exact ⟨ends_nil hE, h2, h1⟩
theorem ds_sync (h : DS B Y w db [f] C (qS f ws)) (hB : B ≤ w.heap.size) (hY : ∀ k, Y k → k < w.heap.size) (hl : (C f true).length = 8) (hm : ws.length ≤ 1000) (hw : ∀ y ∈ ws, y.f = f) :
    Calls Tryd.prog 14 #[.pointer (some ⟨db, 0, none⟩), .string nmA] w fun e w' => e = .returned .nilIface ∧ FrN B Y w w' ∧ DS B Y w' db [f] (upd C f false (C f true)) (qS f []) := by
  obtain ⟨X, M1, M2, v3, v4, V, hX, hD, hF⟩ := h
  refine (Sync_go hF hD (fun k hk => (hX k hk).1) (by show (0 : Int) ≤ _; decide) (openedS f ws) (by simp) (by omega) hm (fun y hy => by rw [hw y hy]; simp)).mono ?_
  rintro e w' ⟨hE, hL⟩
  obtain ⟨h1, h2⟩ := ds_left hX hY hB hL
  refine ⟨ends_nil hE, h2, ?_⟩
  have e0 : others f ws = [] := List.filter_eq_nil_iff.2 (fun y hy => by simp [hw y hy])
  rw [show (qS f ws).wrs = ws from rfl, e0] at h1
  exact h1
theorem ds_crash (h : DS B Y w db [f] C (qS f ws)) (hB : B ≤ w.heap.size) (hY : ∀ k, Y k → k < w.heap.size) (hl : (C f false).length = 8) (hm : ws.length ≤ 1000) (hw : ∀ y ∈ ws, y.f = f ∧ y.n < 8) (changes : Int) (hch : -9223372036854775808 ≤ changes ∧ changes ≤ 9223372036854775807)
    {Ak : Option Addr} {ck : Nat} {ks : List Int} (hk : ∀ W, FrN B Y w W → Reads W W.heap.size 1 Ak ks.length (ks.map (.int .i64))) (hks : ks.length ≤ 1000000) :
    Calls Tryd.prog 15 #[.pointer (some ⟨db, 0, none⟩), .int .i64 changes, .slice Ak ks.length ck] w fun e w' => e = .returned (.tuple #[]) ∧ FrN B Y w w' ∧ ∃ C', C' f true = crashC ks 0 ws C f false ∧ DS B Y w' db [f] C' (qS f []) := by
  obtain ⟨X, M1, M2, v3, v4, V, hX, hD, hF⟩ := h
  refine (Crash_any hF hD (fun k hk => (hX k hk).1) changes hch (fun W hW => hk W (hW.mono fun k _ hk => (hX k hk).2)) hks hm (by simp [qS]) (n := 0) (by simp [qS]) trivial (fun y hy => by rw [(hw y hy).1, hl]; exact ⟨by simp, (hw y hy).2⟩) (fun g hg => by simp at hg; subst hg; omega) (fun x hx => by
    have : x = ⟨nmA, f, 0⟩ := by simpa [qS, foldQ] using hx
    subst this; simp)).mono ?_
  rintro e w' ⟨rfl, hL⟩
  obtain ⟨h1, h2⟩ := ds_left hX hY hB hL
  refine ⟨rfl, h2, _, ?_, h1⟩
  unfold nowC
  rw [if_pos ⟨rfl, by simp [qS, foldQ]⟩]
  rfl
theorem ds_read (h : DS B Y w db [f] C (qS f ws)) (hB : B ≤ w.heap.size) (hY : ∀ k, Y k → k < w.heap.size) {n : Nat} {s : ByteArray} (hs : (C f true)[n]? = some s) :
    Calls Tryd.prog 16 #[.pointer (some ⟨db, 0, none⟩), .string nmA, .int .i64 n] w fun e w' => (∃ v, e = .returned (.tuple #[v, .nilIface]) ∧ StrAt w' v s) ∧ FrN B Y w w' ∧ DS B Y w' db [f] C (qS f ws) := by
  obtain ⟨X, M1, M2, v3, v4, V, hX, hD, hF⟩ := h
  refine (Read_go hF hD (by show (0 : Int) ≤ _; decide) (openedS f ws) (by simp) hs).mono ?_
  rintro e w' ⟨hE, hL⟩
  obtain ⟨h1, h2⟩ := ds_left hX hY hB hL
  exact ⟨hE, h2, h1⟩
end
/-- A sector behind a crash: as it was safe, or as one of its writes. -/
theorem crash_in (ks : List Int) (f n : Nat) : ∀ (ws : List Wr) (i : Nat) (C : Nat → Bool → List ByteArray) (s : ByteArray), (∀ y ∈ ws, y.f = f) → (crashC ks i ws C f false)[n]? = some s → (C f false)[n]? = some s ∨ ∃ y ∈ ws, y.n = n ∧ y.s = s
  | [], i, C, s, _, h => .inl h
  | y :: ws, i, C, s, hw, h => by
    have hy := hw y List.mem_cons_self
    rcases crash_in ks f n ws (i + 1) (stepC ks i y C) s (fun z hz => hw z (List.mem_cons_of_mem _ hz)) h with h1 | ⟨z, hz, h1⟩
    · unfold stepC at h1
      split at h1
      · rw [hy, upd_at, List.getElem?_set] at h1
        by_cases e : y.n = n
        · rw [if_pos e] at h1
          split at h1
          · cases h1; exact .inr ⟨y, List.mem_cons_self, e, rfl⟩
          · cases h1
        · rw [if_neg e] at h1; exact .inl h1
      · exact .inl h1
    · exact .inr ⟨z, List.mem_cons_of_mem _ hz, h1⟩
end Go.Proofs.YtekajggjoeimoaaDoor
