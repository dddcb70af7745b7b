/- The disk in memory: the disk's cells, its directories, its changes and writes. -/
import Derived.Test.YtekajggjoeimoaaDoorQa
set_option linter.unusedVariables false
namespace Go.Proofs.YtekajggjoeimoaaDoor
open Go.RowKit
/-- A change, as it lies: its file is a block. -/
structure Cq where
  nm : ByteArray
  to : ByteArray
  f : Option Nat
def Cq.cells (c : Cq) : List Value := [.string c.nm, .string c.to, .pointer (c.f.map fun f => ⟨f, 0, none⟩)]
def cqcells (l : List Cq) : List Value := l.flatMap Cq.cells
theorem cqcells_cons (x : Cq) (l : List Cq) : cqcells (x :: l) = x.cells ++ cqcells l := by simp [cqcells]
theorem cqcells_append (l m : List Cq) : cqcells (l ++ m) = cqcells l ++ cqcells m := by simp [cqcells]
theorem wcells_append (l m : List Wr) : wcells (l ++ m) = wcells l ++ wcells m := by simp [wcells]
theorem cqcells_len (l : List Cq) : (cqcells l).length = l.length * 3 := by
  induction l with
  | nil => rfl
  | cons x l ih =>
    rw [cqcells_cons, List.length_append, ih, List.length_cons]
    simp [Cq.cells]; omega
theorem cqcells_at : ∀ {l : List Cq} {k : Nat} {x : Cq}, l[k]? = some x → ∀ j, j < 3 → (cqcells l)[k * 3 + j]? = x.cells[j]?
  | [], k, x, h, j, hj => by simp at h
  | y :: l, 0, x, h, j, hj => by
    simp at h; subst h
    rw [cqcells_cons, List.getElem?_append_left (by simp [Cq.cells]; omega)]
    simp
  | y :: l, k + 1, x, h, j, hj => by
    rw [cqcells_cons, List.getElem?_append_right (by simp [Cq.cells]; omega)]
    have := cqcells_at (l := l) (k := k) (x := x) (by simpa using h) j hj
    rw [← this]
    congr 1
    simp [Cq.cells]; omega
/-- The disk, as it lies. -/
structure DQ where
  room : Int
  dir : List DE
  dck : Nat
  now : List DE
  nck : Nat
  chs : List Cq
  wrs : List Wr
  armed : Bool
  after : Int
  code : Int
/-- A map's entries: each came at another time, each has another name. -/
structure MapOK (l : List DE) (ck : Nat) : Prop where
  born : ∀ x ∈ l, x.born < ck
  order : l.Pairwise (fun x y => x.born < y.born)
  nodup : (l.map DE.nm).Nodup
structure DiskV (X : Nat → Prop) (w : World) (db M1 M2 : Nat) (v3 v4 : Value) (q : DQ) : Prop where
  blk : Blk w db 64 (dcells q.room (.map (some M1)) (.map (some M2)) v3 v4 q.armed q.after q.code)
  m1 : w.heap[M1]? = some (.map (q.dir.map DE.ent).toArray q.dck)
  m2 : w.heap[M2]? = some (.map (q.now.map DE.ent).toArray q.nck)
  ne : M1 ≠ M2
  inX : X db
  inX1 : X M1
  inX2 : X M2
  ok1 : MapOK q.dir q.dck
  ok2 : MapOK q.now q.nck
  chs : RowX X w 81 3 v3 q.chs.length (cqcells q.chs)
  wrs : RowX X w 89 3 v4 q.wrs.length (wcells q.wrs)
def DT (t : Nat) : Prop := t = 64 ∨ t = 81 ∨ t = 89
def SameM (X : Nat → Prop) (w w' : World) : Prop := ∀ k es ck, X k → w.heap[k]? = some (.map es ck) → w'.heap[k]? = some (.map es ck)
theorem SameM.of_below {X : Nat → Prop} {w w' : World} (hb : Below w.heap.size w w') : SameM X w w' := fun k es ck hx hk => (hb.block k (Array.getElem?_eq_some_iff.1 hk).1).trans hk
section
variable {X X' : Nat → Prop} {w w' w1 : World} {db M1 M2 : Nat} {v3 v4 : Value} {q : DQ}
theorem DiskV.keep (h : DiskV X w db M1 M2 v3 v4 q) (hX : ∀ k, X k → X' k) (hs : Same DT X w w') (hm : SameM X w w') : DiskV X' w' db M1 M2 v3 v4 q :=
  ⟨hs db _ _ (.inl rfl) h.inX h.blk, hm M1 _ _ h.inX1 h.m1, hm M2 _ _ h.inX2 h.m2, h.ne, hX _ h.inX, hX _ h.inX1, hX _ h.inX2, h.ok1, h.ok2, h.chs.keep (fun k cs hx _ hk => hs k cs _ (.inr (.inl rfl)) hx hk) hX, h.wrs.keep (fun k cs hx _ hk => hs k cs _ (.inr (.inr rfl)) hx hk) hX⟩
theorem DiskV.below (h : DiskV X w db M1 M2 v3 v4 q) (hb : Below w.heap.size w w') : DiskV X w' db M1 M2 v3 v4 q := h.keep (fun _ h => h) (Same.of_below hb) (SameM.of_below hb)
theorem DiskV.m1_ne (h : DiskV X w db M1 M2 v3 v4 q) : M1 ≠ db := fun e => by subst e; have := h.blk; unfold Blk at this; rw [h.m1] at this; cases this
theorem DiskV.m2_ne (h : DiskV X w db M1 M2 v3 v4 q) : M2 ≠ db := fun e => by subst e; have := h.blk; unfold Blk at this; rw [h.m2] at this; cases this
theorem blk_row_ne {t e size n : Nat} {v : Value} {cs : Array Value} {xs : List Value} {b k : Nat} (hb : Blk w b t cs) (hr : RowX X w e size v n xs) (hk : v.ownBlock = some k) (he : t ≠ e) : k ≠ b := by
  rintro rfl
  obtain ⟨cur, h1⟩ := hr.block hk
  unfold Blk at hb
  rw [hb] at h1
  cases h1
  exact he rfl
theorem map_row_ne {e size n ck : Nat} {es : Array MapEntry} {v : Value} {xs : List Value} {b k : Nat} (hb : w.heap[b]? = some (.map es ck)) (hr : RowX X w e size v n xs) (hk : v.ownBlock = some k) : k ≠ b := by
  rintro rfl
  obtain ⟨cur, h1⟩ := hr.block hk
  rw [hb] at h1
  cases h1
/-- The disk's cells are others: its rows, its maps (already there) besides. -/
theorem DiskV.cells (h : DiskV X w db M1 M2 v3 v4 q) (hX : ∀ k, X k → X' k) {M1' M2' : Nat} {v3' v4' : Value} {q' : DQ}
    (hb : Blk w' db 64 (dcells q'.room (.map (some M1')) (.map (some M2')) v3' v4' q'.armed q'.after q'.code))
    (h1 : w'.heap[M1']? = some (.map (q'.dir.map DE.ent).toArray q'.dck)) (h2 : w'.heap[M2']? = some (.map (q'.now.map DE.ent).toArray q'.nck)) (hne : M1' ≠ M2') (x1 : X' M1') (x2 : X' M2') (o1 : MapOK q'.dir q'.dck) (o2 : MapOK q'.now q'.nck)
    (hc : RowX X' w' 81 3 v3' q'.chs.length (cqcells q'.chs)) (hw : RowX X' w' 89 3 v4' q'.wrs.length (wcells q'.wrs)) : DiskV X' w' db M1' M2' v3' v4' q' :=
  ⟨hb, h1, h2, hne, hX _ h.inX, x1, x2, o1, o2, hc, hw⟩
/-- A cell of the disk's that holds no address: nothing else is touched. -/
theorem DiskV.far (h : DiskV X w db M1 M2 v3 v4 q) {o : Nat} {u : Value} : SameM X w (w.setCell ⟨db, o, none⟩ u) ∧ (∀ k, k ≠ db → (w.setCell ⟨db, o, none⟩ u).heap[k]? = w.heap[k]?) := by
  have hoth : ∀ k, k ≠ db → (w.setCell ⟨db, o, none⟩ u).heap[k]? = w.heap[k]? := fun k hk => Below.heap_setCell _ _ _ _ hk
  refine ⟨fun k es ck hx hk => (hoth k (fun e => ?_)).trans hk, hoth⟩
  subst e
  have := h.blk
  unfold Blk at this
  rw [this] at hk
  cases hk
theorem DiskV.set (h : DiskV X w db M1 M2 v3 v4 q) (hX : ∀ k, X k → X' k) {o : Nat} {u : Value} {v3' v4' : Value} {q' : DQ}
    (hc : (dcells q.room (.map (some M1)) (.map (some M2)) v3 v4 q.armed q.after q.code).setIfInBounds o u = dcells q'.room (.map (some M1)) (.map (some M2)) v3' v4' q'.armed q'.after q'.code)
    (e1 : q'.dir = q.dir) (e2 : q'.dck = q.dck) (e3 : q'.now = q.now) (e4 : q'.nck = q.nck) (r3 : RowX X' w 81 3 v3' q'.chs.length (cqcells q'.chs)) (r4 : RowX X' w 89 3 v4' q'.wrs.length (wcells q'.wrs)) :
    DiskV X' (w.setCell ⟨db, o, none⟩ u) db M1 M2 v3' v4' q' := by
  obtain ⟨hm, hoth⟩ := h.far (o := o) (u := u)
  have hrow : ∀ (e size n : Nat) (v : Value) (xs : List Value), 64 ≠ e → RowX X' w e size v n xs → RowX X' (w.setCell ⟨db, o, none⟩ u) e size v n xs := fun e size n v xs he hr =>
    hr.keep (fun k cs hx hk h3 => (hoth k (blk_row_ne h.blk hr hk he)).trans h3) (fun k hx => hx)
  refine h.cells hX (hc ▸ h.blk.set_ o u) ?_ ?_ h.ne (hX _ h.inX1) (hX _ h.inX2) ?_ ?_ (hrow _ _ _ _ _ (by decide) r3) (hrow _ _ _ _ _ (by decide) r4)
  · rw [e1, e2]; exact hm _ _ _ h.inX1 h.m1
  · rw [e3, e4]; exact hm _ _ _ h.inX2 h.m2
  · rw [e1, e2]; exact h.ok1
  · rw [e3, e4]; exact h.ok2
/-- refuses, as memory has it. -/
def failQ (q : DQ) : Int × DQ := if q.armed = false then (0, q) else if 0 < q.after then (0, { q with after := q.after - 1 }) else (q.code, { q with armed := false })
end
end Go.Proofs.YtekajggjoeimoaaDoor
