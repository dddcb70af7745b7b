/- What comes in: cells, nodes, deeds. What comes in: a deed, its cells' block. -/
import Derived.Test.YtenfkghoolegfaaGreatDoorUf
import Derived.Test.YtenfkghoolegfaaGreatDoorUc
import Derived.Deep.Fields
import Derived.DataReads
set_option linter.unusedVariables false
namespace Go.Proofs.YtenfkghoolegfaaGreatDoor
open Go.ChangeShapes Go.WideShapes Go.ChangeAt Go.RowKit Go.Joins Go.Deep
theorem list_of {α : Type} {P : Nat → α → Prop} : ∀ (n : Nat), (∀ i, i < n → ∃ d, P i d) → ∃ ds : List α, ds.length = n ∧ ∀ (i : Nat) (d : α), ds[i]? = some d → P i d
  | 0, _ => ⟨[], rfl, fun i d h => by simp at h⟩
  | n + 1, h => by
    obtain ⟨ds, hl, hd⟩ := list_of n (fun i hi => h i (by omega))
    obtain ⟨d, hP⟩ := h n (by omega)
    refine ⟨ds ++ [d], by simp [hl], fun i x hx => ?_⟩
    by_cases hi : i < ds.length
    · rw [List.getElem?_append_left hi] at hx; exact hd i x hx
    · rw [List.getElem?_append_right (by omega)] at hx
      have := (List.getElem?_eq_some_iff.1 hx).1
      simp at this
      obtain rfl : i = n := by omega
      rw [hl, Nat.sub_self] at hx
      cases hx
      exact hP
section
variable {H : Type} {enc : TypeId × Value → H} {w : World} {base : Nat} {held : Bool}
theorem u32_in {fuel : Nat} {v : Value} {y : DataW H × List MemPlace} (h : DataW.trod enc Tryz.prog w base (fun _ => true) held fuel 22 [v] = some y) : ∃ n : Nat, v = .int .u32 (n : Nat) ∧ n < 4294967296 := by
  obtain ⟨z, hc, _, wf⟩ := DataW.trod_int Tryz.underlying22 h
  simp only [List.cons.injEq, and_true] at hc
  have e1 : IntKind.u32.min = 0 := rfl
  have e2 : IntKind.u32.max = 4294967295 := rfl
  simp [Lit.wf] at wf
  exact ⟨z.toNat, by rw [hc]; congr 1; omega, by omega⟩
theorem u64_in {fuel : Nat} {v : Value} {y : DataW H × List MemPlace} (h : DataW.trod enc Tryz.prog w base (fun _ => true) held fuel 34 [v] = some y) : ∃ n : Nat, v = .int .u64 (n : Nat) ∧ n < 18446744073709551616 := by
  obtain ⟨z, hc, _, wf⟩ := DataW.trod_int Tryz.underlying34 h
  simp only [List.cons.injEq, and_true] at hc
  have e1 : IntKind.u64.min = 0 := rfl
  have e2 : IntKind.u64.max = 18446744073709551615 := rfl
  simp [Lit.wf] at wf
  exact ⟨z.toNat, by rw [hc]; congr 1; omega, by omega⟩
theorem int_in {fuel : Nat} {v : Value} {y : DataW H × List MemPlace} (h : DataW.trod enc Tryz.prog w base (fun _ => true) held fuel 3 [v] = some y) : ∃ z : Int, v = .int .i64 z ∧ -9223372036854775808 ≤ z ∧ z ≤ 9223372036854775807 := by
  obtain ⟨z, hc, _, wf⟩ := DataW.trod_int Tryz.underlying3 h
  simp only [List.cons.injEq, and_true] at hc
  have e1 : IntKind.i64.min = -9223372036854775808 := rfl
  have e2 : IntKind.i64.max = 9223372036854775807 := rfl
  simp [Lit.wf] at wf
  exact ⟨z, hc, by omega, by omega⟩
theorem bytes_in {fuel : Nat} {v : Value} {y : DataW H × List MemPlace} (h : DataW.trod enc Tryz.prog w base (fun _ => true) held fuel 23 [v] = some y) : ∃ p : Pt, v = p.val ∧ Reads w w.heap.size 1 p.A p.b.length (bl p.b) ∧ p.b.length ≤ p.c ∧ p.b.length ≤ 9223372036854775807 := by
  obtain ⟨p, hp, h1, h2⟩ := pt_of h
  refine ⟨p, hp, h1, h2, ?_⟩
  rcases open_slice Tryz.underlying23 h with ⟨h0, _⟩ | ⟨a, len, cap, m, n, D, Pl, hcs, hb, hl, hm, _⟩
  · simp only [List.cons.injEq, and_true] at h0
    rw [hp] at h0
    have h0' : Value.slice p.A p.b.length p.c = .slice none 0 0 := h0
    simp only [Value.slice.injEq] at h0'
    omega
  · simp only [List.cons.injEq, and_true] at hcs
    rw [hp] at hcs
    have h0' : Value.slice p.A p.b.length p.c = .slice (some a) len cap := hcs
    simp only [Value.slice.injEq] at h0'
    simp only [maxLen] at hm
    omega
set_option maxRecDepth 100000 in
theorem fld1 {fs : Array Field} {n : Nat} {cs : List Value} {xs : List (DataW H × List MemPlace)} (hg : ∀ (i : Nat) (f : Field), fs[i]? = some f → DataW.trod enc Tryz.prog w base (fun _ => true) held n f.type ((cs.drop f.offset).take (Tryz.prog.cellsOf f.type)) = xs[i]?) (hxl : xs.length = fs.size)
    (i : Nat) {f : Field} (hi : fs[i]? = some f) (hk : Tryz.prog.cellsOf f.type = 1) (v : Value) (hv : cs[f.offset]? = some v) : ∃ y, DataW.trod enc Tryz.prog w base (fun _ => true) held n f.type [v] = some y := by
  have h1 := hg i f hi
  have hl := (List.getElem?_eq_some_iff.1 hv)
  rw [hk, List.drop_eq_getElem_cons hl.1, hl.2] at h1
  have hi2 := (Array.getElem?_eq_some_iff.1 hi).1
  rw [List.getElem?_eq_getElem (by omega)] at h1
  exact ⟨_, h1⟩
/-- A cell that came in. -/
def CellIn (w : World) (c : CX) : Prop := Reads w w.heap.size 1 c.ka c.c.key.length (bl c.c.key) ∧ Reads w w.heap.size 1 c.va c.c.val.length (bl c.c.val) ∧ c.c.key.length ≤ 9223372036854775807 ∧ c.c.val.length ≤ 9223372036854775807 ∧ c.c.fit
set_option maxRecDepth 100000 in
theorem cell_in {fuel : Nat} {cs : List Value} {x : DataW H × List MemPlace} (h : DataW.trod enc Tryz.prog w base (fun _ => true) held fuel 113 cs = some x) : ∃ c : CX, cs = c.cells ∧ CellIn w c := by
  obtain ⟨xs, n, _, _, hlen, hxl, hg⟩ := DataW.trod_struct Tryz.underlying113 h
  have hlen : cs.length = 5 := hlen.trans (by kernel_rfl)
  match cs, hlen with
  | [c0, c1, c2, c3, c4], _ =>
    obtain ⟨_, t0⟩ := fld1 hg hxl 0 rfl (by kernel_rfl) c0 rfl
    obtain ⟨_, t1⟩ := fld1 hg hxl 1 rfl (by kernel_rfl) c1 rfl
    obtain ⟨_, t2⟩ := fld1 hg hxl 2 rfl (by kernel_rfl) c2 rfl
    obtain ⟨_, t3⟩ := fld1 hg hxl 3 rfl (by kernel_rfl) c3 rfl
    obtain ⟨_, t4⟩ := fld1 hg hxl 4 rfl (by kernel_rfl) c4 rfl
    obtain ⟨k, rfl, k1, _, k2⟩ := bytes_in t0
    obtain ⟨z, rfl, _⟩ := int_in t1
    obtain ⟨v, rfl, v1, _, v2⟩ := bytes_in t2
    obtain ⟨a, rfl, a1⟩ := u32_in t3
    obtain ⟨b, rfl, b1⟩ := u32_in t4
    exact ⟨⟨k.A, k.c, v.A, v.c, ⟨k.b, z, v.b, a, b⟩⟩, rfl, k1, v1, k2, v2, a1, b1⟩
theorem cells_in {fuel : Nat} {v : Value} {y : DataW H × List MemPlace} (h : DataW.trod enc Tryz.prog w base (fun _ => true) held fuel 50 [v] = some y) :
    ∃ (A : Option Addr) (c : Nat) (l : List CX), v = .slice A l.length c ∧ CellsAt w w.heap.size A l ∧ (∀ x ∈ l, CellIn w x) ∧ l.length ≤ 9223372036854775807 := by
  rcases open_slice Tryz.underlying50 h with ⟨hcs, _⟩ | ⟨a, len, cap, m, n, D, Pl, hcs, _, hl, hm, hmm, _, hf⟩
  · simp only [List.cons.injEq, and_true] at hcs
    exact ⟨none, 0, [], hcs, ⟨.inl rfl, fun x hx => (by cases hx), fun x hx => (by cases hx)⟩, fun x hx => (by cases hx), Nat.zero_le _⟩
  · simp only [List.cons.injEq, and_true] at hcs
    simp only [if_true] at hmm
    subst hmm
    have hce : Program.cellsOf Tryz.prog 113 = 5 := by kernel_rfl
    obtain ⟨ds, hdl, hd⟩ := list_of (P := fun i (x : CX) => (∀ j u, x.cells[j]? = some u → w.cell? ((a.add (i * 5)).add j) = some u) ∧ CellIn w x) len (fun i hi => by
      obtain ⟨cs', hc, ht⟩ := hf i (by omega)
      rw [hce] at hc
      obtain ⟨_, hcl, hat⟩ := World.cells?_some hc
      obtain ⟨x, rfl, hx⟩ := cell_in ht
      refine ⟨x, fun j u hu => ?_, hx⟩
      have hj := (List.getElem?_eq_some_iff.1 hu).1
      have h5 : x.cells.length = 5 := rfl
      rw [hat j (by omega)]
      exact hu)
    have hin : ∀ x ∈ ds, CellIn w x := fun x hx => by
      obtain ⟨i, hi⟩ := List.getElem?_of_mem hx
      exact (hd i x hi).2
    refine ⟨some a, _, ds, by rw [hcs, hdl], ⟨?_, fun x hx => (hin x hx).1, fun x hx => (hin x hx).2.1⟩, hin, by rw [hdl]; simp only [maxLen] at hm; omega⟩
    cases hds : ds with
    | nil => exact .inl rfl
    | cons x0 r =>
      right
      rw [← hds]
      have hx0 : ds[0]? = some x0 := by rw [hds]; rfl
      have c0 := (hd 0 x0 hx0).1 0 _ rfl
      have e0 : (a.add (0 * 5)).add 0 = a := by simp [Addr.add]
      rw [e0] at c0
      have hsp := World.cell?_spot c0
      have hbl := World.block_lt_of_cell? w _ c0
      obtain ⟨g, o, sp⟩ := a
      have hsp : sp = none := hsp
      subst hsp
      refine ⟨g, o, rfl, hbl, fun k x hx j u hu => ?_⟩
      have := (hd k x hx).1 j u hu
      have e1 : ((⟨g, o, none⟩ : Addr).add (k * 5)).add j = ⟨g, o + k * 5 + j, none⟩ := by
        unfold Addr.add
        split <;> split <;> simp_all
      rw [e1] at this
      exact this
/-- A node that came in. -/
structure NodeIn (w : World) (x : NX) : Prop where
  cells : CellsAt w w.heap.size x.ca x.l
  data : Reads w w.heap.size 1 x.da x.data.length (bl x.data)
  each : ∀ y ∈ x.l, CellIn w y
  many : x.l.length ≤ 9223372036854775807
  long : x.data.length ≤ 9223372036854775807
  kind : -9223372036854775808 ≤ x.kind ∧ x.kind ≤ 9223372036854775807
  lsn : x.lsn < 18446744073709551616
  next : x.next < 4294967296
  head : x.root < 4294967296 ∧ x.pages < 4294967296 ∧ x.free < 4294967296 ∧ x.entries < 18446744073709551616
set_option maxRecDepth 100000 in
theorem node_in {fuel : Nat} {cs : List Value} {x : DataW H × List MemPlace} (h : DataW.trod enc Tryz.prog w base (fun _ => true) held fuel 52 cs = some x) : ∃ y : NX, cs = y.cells.toList ∧ NodeIn w y := by
  obtain ⟨xs, n, _, _, hlen, hxl, hg⟩ := DataW.trod_struct Tryz.underlying52 h
  have hlen : cs.length = 9 := hlen.trans (by kernel_rfl)
  match cs, hlen with
  | [c0, c1, c2, c3, c4, c5, c6, c7, c8], _ =>
    obtain ⟨_, t0⟩ := fld1 hg hxl 0 rfl (by kernel_rfl) c0 rfl
    obtain ⟨_, t1⟩ := fld1 hg hxl 1 rfl (by kernel_rfl) c1 rfl
    obtain ⟨_, t2⟩ := fld1 hg hxl 2 rfl (by kernel_rfl) c2 rfl
    obtain ⟨_, t3⟩ := fld1 hg hxl 3 rfl (by kernel_rfl) c3 rfl
    obtain ⟨_, t4⟩ := fld1 hg hxl 4 rfl (by kernel_rfl) c4 rfl
    have h5 := hg 5 _ rfl
    have h5 : DataW.trod enc Tryz.prog w base (fun _ => true) held n 43 (([c0, c1, c2, c3, c4, c5, c6, c7, c8].drop 5).take (Tryz.prog.cellsOf 43)) = xs[5]? := h5
    rw [show Tryz.prog.cellsOf 43 = 4 by kernel_rfl] at h5
    have hx6 : 5 < xs.length := by rw [hxl]; decide
    rw [List.getElem?_eq_getElem hx6] at h5
    have h5 : DataW.trod enc Tryz.prog w base (fun _ => true) held n 43 [c5, c6, c7, c8] = some _ := h5
    obtain ⟨xs2, n2, _, _, _, hxl2, hg2⟩ := DataW.trod_struct Tryz.underlying43 h5
    obtain ⟨_, t5⟩ := fld1 hg2 hxl2 0 rfl (by kernel_rfl) c5 rfl
    obtain ⟨_, t6⟩ := fld1 hg2 hxl2 1 rfl (by kernel_rfl) c6 rfl
    obtain ⟨_, t7⟩ := fld1 hg2 hxl2 2 rfl (by kernel_rfl) c7 rfl
    obtain ⟨_, t8⟩ := fld1 hg2 hxl2 3 rfl (by kernel_rfl) c8 rfl
    obtain ⟨kd, rfl, k1⟩ := int_in t0
    obtain ⟨ls, rfl, l1⟩ := u64_in t1
    obtain ⟨A, c, l, rfl, a1, a2, a3⟩ := cells_in t2
    obtain ⟨nx, rfl, n1⟩ := u32_in t3
    obtain ⟨p, rfl, p1, _, p2⟩ := bytes_in t4
    obtain ⟨r5, rfl, r51⟩ := u32_in t5
    obtain ⟨r6, rfl, r61⟩ := u32_in t6
    obtain ⟨r7, rfl, r71⟩ := u32_in t7
    obtain ⟨r8, rfl, r81⟩ := u64_in t8
    exact ⟨⟨kd, ls, A, c, l, nx, p.A, p.c, p.b, r5, r6, r7, r8⟩, rfl, a1, p1, a2, a3, p2, k1, l1, n1, r51, r61, r71, r81⟩
set_option maxRecDepth 100000 in
/-- A deed that came in. -/
theorem deed_in {fuel : Nat} {cs : List Value} {x : DataW H × List MemPlace} (h : DataW.trod enc Tryz.prog w base (fun _ => true) held fuel 59 cs = some x) :
    ∃ (kd : Int) (n : Nat) (by_ : Int) (y : NX), cs = .int .i64 kd :: .int .u32 (n : Nat) :: .int .i64 by_ :: y.cells.toList ∧ NodeIn w y ∧ n < 4294967296 ∧ (-9223372036854775808 ≤ kd ∧ kd ≤ 9223372036854775807) ∧ (-9223372036854775808 ≤ by_ ∧ by_ ≤ 9223372036854775807) := by
  obtain ⟨xs, n, _, _, hlen, hxl, hg⟩ := DataW.trod_struct Tryz.underlying59 h
  have hlen : cs.length = 12 := hlen.trans (by kernel_rfl)
  match cs, hlen with
  | [c0, c1, c2, d0, d1, d2, d3, d4, d5, d6, d7, d8], _ =>
    obtain ⟨_, t0⟩ := fld1 hg hxl 0 rfl (by kernel_rfl) c0 rfl
    obtain ⟨_, t1⟩ := fld1 hg hxl 1 rfl (by kernel_rfl) c1 rfl
    obtain ⟨_, t2⟩ := fld1 hg hxl 2 rfl (by kernel_rfl) c2 rfl
    have h3 := hg 3 _ rfl
    have h3 : DataW.trod enc Tryz.prog w base (fun _ => true) held n 52 (([c0, c1, c2, d0, d1, d2, d3, d4, d5, d6, d7, d8].drop 3).take (Tryz.prog.cellsOf 52)) = xs[3]? := h3
    rw [show Tryz.prog.cellsOf 52 = 9 by kernel_rfl] at h3
    have hx3 : 3 < xs.length := by rw [hxl]; decide
    rw [List.getElem?_eq_getElem hx3] at h3
    have h3 : DataW.trod enc Tryz.prog w base (fun _ => true) held n 52 [d0, d1, d2, d3, d4, d5, d6, d7, d8] = some _ := h3
    obtain ⟨y, hy, hin⟩ := node_in h3
    obtain ⟨kd, rfl, k1⟩ := int_in t0
    obtain ⟨nn, rfl, n1⟩ := u32_in t1
    obtain ⟨b, rfl, b1⟩ := int_in t2
    exact ⟨kd, nn, b, y, by rw [hy], hin, n1, k1, b1⟩
end
end Go.Proofs.YtenfkghoolegfaaGreatDoor
set_option linter.unusedVariables false
namespace Go.Proofs.YtenfkghoolegfaaGreatDoor
open Go.ChangeShapes Go.WideShapes Go.ChangeAt Go.RowKit Go.Joins Go.Deep
section
variable {H : Type} {enc : TypeId × Value → H} {w : World} {base : Nat} {held : Bool}
set_option maxRecDepth 100000 in
theorem deed_agg {r : Reach} {b0 : Nat} {v : Value} {d : DataW H} {p : List MemPlace} (hv : Value.okWide Tryz.prog w r b0 59 v) (h : DataW.Trod enc Tryz.prog w base (fun _ => true) held 59 v d p) :
    ∃ (kd : Int) (n : Nat) (by_ : Int) (y : NX), v = .agg ⟨.int .i64 kd :: .int .u32 (n : Nat) :: .int .i64 by_ :: y.cells.toList⟩ ∧ NodeIn w y ∧ n < 4294967296 ∧ (-9223372036854775808 ≤ kd ∧ kd ≤ 9223372036854775807) ∧ (-9223372036854775808 ≤ by_ ∧ by_ ≤ 9223372036854775807) := by
  obtain ⟨cs, rfl, hsz⟩ := okWide_struct Tryz.underlying59 hv
  obtain ⟨l⟩ := cs
  obtain ⟨fuel, hf⟩ := h
  obtain ⟨kd, n, b, y, e, h1⟩ := deed_in hf
  have e : l = _ := e
  subst e
  exact ⟨kd, n, b, y, rfl, h1⟩
end
theorem cell_same {w w' : World} {b : Nat} {cs : Array Value} {t t' : TypeId} {fz fz' : Nat × Nat} (h : w.heap[b]? = some (.cells cs t fz)) (h' : w'.heap[b]? = some (.cells cs t' fz')) (p : Addr) (hp : p.block = b) : w'.cell? p = w.cell? p := by
  unfold World.cell?
  rw [hp, h, h']
theorem heap_of_cell {w : World} {p : Addr} {v : Value} (h : w.cell? p = some v) : ∃ cs t fz, w.heap[p.block]? = some (.cells cs t fz) := by
  unfold World.cell? at h
  split at h
  · rename_i c t fz hh; exact ⟨c, t, fz, hh⟩
  · cases h
def klOf (l : List CX) (k : Nat) : Nat := match l[k]? with
  | some x => x.c.key.length
  | none => 0
def vlOf (l : List CX) (k : Nat) : Nat := match l[k]? with
  | some x => x.c.val.length
  | none => 0
theorem cellsF_of {w : World} {y : NX} (h : NodeIn w y) (hiv : ∀ g c, Ev.ivT g = some c → ∃ t fz, w.heap[g]? = some (.cells c t fz)) :
    ∃ f : Nat → Option (Array Value), (∀ g c c', Ev.ivT g = some c → f g = some c' → c = c') ∧ CellsF f y.ca y.l.length (klOf y.l) (vlOf y.l) ∧ ∀ g cs, f g = some cs → g < w.heap.size ∧ ∃ t fz, w.heap[g]? = some (.cells cs t fz) := by
  rcases h.cells.row with h0 | ⟨g, o, hA, hg, hc⟩
  · exact ⟨fun _ => none, fun g c c' _ h2 => (by cases h2), fun w' _ _ k hk => (by rw [h0] at hk; exact absurd hk (Nat.not_lt_zero _)), fun g cs h2 => (by cases h2)⟩
  by_cases h0 : y.l = []
  · exact ⟨fun _ => none, fun g c c' _ h2 => (by cases h2), fun w' _ _ k hk => (by rw [h0] at hk; exact absurd hk (Nat.not_lt_zero _)), fun g cs h2 => (by cases h2)⟩
  obtain ⟨x0, hx0⟩ : ∃ x, y.l[0]? = some x := ⟨_, List.getElem?_eq_getElem (List.length_pos_iff.2 h0)⟩
  obtain ⟨cs, t, fz, hb⟩ := heap_of_cell (hc 0 x0 hx0 0 _ rfl)
  have hb : w.heap[g]? = some (.cells cs t fz) := hb
  refine ⟨fun b => if b = g then some cs else none, fun b c c' h1 h2 => ?_, fun w' hw' _ k hk => ?_, fun b cs' h2 => ?_⟩
  · dsimp only at h2
    split at h2
    · rename_i e; subst e; cases h2
      obtain ⟨t', fz', h3⟩ := hiv _ _ h1
      rw [hb] at h3; cases h3; rfl
    · cases h2
  · obtain ⟨x, hx⟩ : ∃ x, y.l[k]? = some x := ⟨_, List.getElem?_eq_getElem hk⟩
    obtain ⟨t', fz', h3⟩ := hw' g cs (by simp)
    have hin := h.each x (List.mem_of_getElem? hx)
    have ek : klOf y.l k = x.c.key.length := by unfold klOf; rw [hx]
    have ev : vlOf y.l k = x.c.val.length := by unfold vlOf; rw [hx]
    have ea : (⟨g, o, none⟩ : Addr).add (k * 5) = ⟨g, o + k * 5, none⟩ := by unfold Addr.add; split <;> simp_all
    refine ⟨⟨g, o, none⟩, x.ka, x.kc, x.va, x.vc, hA, ?_, ?_, by rw [ek]; exact hin.2.2.1, by rw [ev]; exact hin.2.2.2.1⟩
    · rw [ek, ea, cell_same hb h3 ⟨g, o + k * 5, none⟩ rfl]
      exact hc k x hx 0 _ rfl
    · rw [ev, ea, cell_same hb h3 ⟨g, o + k * 5 + 2, none⟩ rfl]
      exact hc k x hx 2 _ rfl
  · dsimp only at h2
    split at h2
    · rename_i e; subst e; cases h2
      exact ⟨(Array.getElem?_eq_some_iff.1 hb).1, _, _, hb⟩
    · cases h2
def dv (kd : Int) (n : Nat) (b : Int) (y : NX) : Nat → Value
  | 0 => .int .i64 kd
  | 1 => .int .u32 (n : Nat)
  | 2 => .int .i64 b
  | 3 => .int .i64 y.kind
  | 4 => .int .u64 (y.lsn : Nat)
  | 5 => .slice y.ca y.l.length y.cc
  | 6 => .int .u32 (y.next : Nat)
  | 7 => .slice y.da y.data.length y.dc
  | 8 => .int .u32 (y.root : Nat)
  | 9 => .int .u32 (y.pages : Nat)
  | 10 => .int .u32 (y.free : Nat)
  | 11 => .int .u64 (y.entries : Nat)
  | _ => undef
theorem dv_eq (kd : Int) (n : Nat) (b : Int) (y : NX) : (⟨.int .i64 kd :: .int .u32 (n : Nat) :: .int .i64 b :: y.cells.toList⟩ : Array Value) = #[dv kd n b y 0, dv kd n b y 1, dv kd n b y 2, dv kd n b y 3, dv kd n b y 4, dv kd n b y 5, dv kd n b y 6, dv kd n b y 7, dv kd n b y 8, dv kd n b y 9, dv kd n b y 10, dv kd n b y 11] := rfl
set_option maxRecDepth 100000 in
/-- PoolNil at a deed that came in. -/
theorem pnil_deed {w : World} {y : NX} (h : NodeIn w y) (hiv : ∀ g cs, Ev.ivT g = some cs → g < w.heap.size ∧ ∃ t fz, w.heap[g]? = some (.cells cs t fz)) (hg : GlobAt w) (ht : PowAt w) (kd : Int) (n : Nat) (hn : n < 4294967296) (b : Int) :
    Calls Tryz.prog 7 #[.agg ⟨.int .i64 kd :: .int .u32 (n : Nat) :: .int .i64 b :: y.cells.toList⟩] w fun e w' => e = .returned (.bool true) ∧ Below w.heap.size w w' := by
  obtain ⟨f, h1, h2, h3⟩ := cellsF_of h (fun g c hc => (hiv g c hc).2)
  rw [dv_eq]
  exact pnil_any (v := dv kd n b y) (n := n) hn (fun k hk => by
    match k, hk with
    | 0, _ => rfl
    | 1, _ => rfl
    | 2, _ => rfl
    | 3, _ => rfl
    | 4, _ => rfl
    | 5, _ => rfl
    | 6, _ => rfl
    | 7, _ => rfl
    | 8, _ => rfl
    | 9, _ => rfl
    | 10, _ => rfl
    | 11, _ => rfl) f h1 (kd := kd) (ck := y.ca) (lk := y.l.length) (cck := y.cc) (dk := y.da) (ld := y.data.length) (cdk := y.dc) rfl rfl rfl rfl h.many h.long h2 w hg ht hiv h3
end Go.Proofs.YtenfkghoolegfaaGreatDoor
