/- Frames: which blocks a call may turn; blocks of cells, known whole. -/
import Derived.Test.YtenfkghoolegfaaGreatDoorProg
import Derived.WalkKit
import Derived.Below
import Derived.BigCall
import Derived.BigGuard
import Derived.BigFrame
import Derived.Lib.Hide
import Derived.Maps.OwnSet
import Derived.Maps.OwnOps
import Derived.WalkSpells
import Derived.Laws.OwnMore
import Derived.Deep.AppendSrc
import Derived.StillTailTactics
set_option linter.unusedVariables false
namespace Go.Proofs.YtenfkghoolegfaaGreatDoor
open Go.RowKit

/-- But for some blocks, what was there is as it was. -/
structure Fr (X : Nat → Prop) (w w' : World) : Prop where
  os : w'.os = w.os
  tape : w'.tape = w.tape
  output : w'.output = w.output
  size : w.heap.size ≤ w'.heap.size
  block : ∀ k, k < w.heap.size → ¬ X k → w'.heap[k]? = w.heap[k]?
section
variable {X Y : Nat → Prop} {w w' a b c : World}
theorem Fr.refl (X : Nat → Prop) (w : World) : Fr X w w := ⟨rfl, rfl, rfl, Nat.le_refl _, fun _ _ _ => rfl⟩
theorem Fr.trans (h : Fr X a b) (k : Fr X b c) : Fr X a c :=
  ⟨k.os.trans h.os, k.tape.trans h.tape, k.output.trans h.output, Nat.le_trans h.size k.size, fun i hi hx => (k.block i (Nat.lt_of_lt_of_le hi h.size) hx).trans (h.block i hi hx)⟩
theorem Fr.mono (h : Fr X a b) (hX : ∀ k, k < a.heap.size → X k → Y k) : Fr Y a b := ⟨h.os, h.tape, h.output, h.size, fun i hi hy => h.block i hi (fun hx => hy (hX i hi hx))⟩
theorem Fr.below {B : Nat} (h : Fr X w w') (hB : B ≤ w.heap.size) (hX : ∀ k, X k → B ≤ k) : Below B w w' :=
  ⟨h.os, h.tape, h.output, h.size, fun k hk => h.block k (Nat.lt_of_lt_of_le hk hB) (fun hx => by have := hX k hx; omega)⟩
theorem Fr.of_below (h : Below w.heap.size w w') : Fr X w w' := ⟨h.os, h.tape, h.output, h.size, fun k hk _ => h.block k hk⟩
theorem Fr.of_below' (h : Below w.heap.size w w') (k : Fr X w' a) (hX : ∀ k, k < w.heap.size → X k → Y k) : Fr Y w a :=
  (Fr.of_below (X := X) h |>.trans k).mono hX
theorem Fr.drew (h : Fr X a w) : Fr X a w.drew := ⟨h.os, h.tape, h.output, h.size, h.block⟩
theorem Fr.alloc (h : Fr X a w) (o : Obj) : Fr X a (w.alloc o) :=
  h.trans ⟨rfl, rfl, rfl, by simp, fun k hk _ => Below.heap_alloc _ _ _ hk⟩
theorem Fr.setCell (h : Fr X a w) {p : Addr} (hp : a.heap.size ≤ p.block ∨ X p.block) (u : Value) : Fr X a (w.setCell p u) :=
  ⟨h.os, h.tape, h.output, by simpa [World.setCell] using h.size, fun k hk hx => (Below.heap_setCell _ _ _ _ (fun e => by subst e; rcases hp with hp | hp; omega; exact hx hp)).trans (h.block k hk hx)⟩
theorem Fr.grown (h : Fr X a w) {row : Option Nat} (hg : w.grownBy w' row) (hr : ∀ k, row = some k → a.heap.size ≤ k ∨ X k) : Fr X a w' :=
  ⟨hg.os.trans h.os, hg.tape.trans h.tape, hg.output.trans h.output, Nat.le_trans h.size hg.size, fun k hk hx => (hg.block k (Nat.lt_of_lt_of_le hk h.size) (fun e => by rcases hr k e.symm with h1 | h1; omega; exact hx h1)).trans (h.block k hk hx)⟩
theorem Fr.mapTurned (h : Fr X a w) {M : Nat} (hg : w.mapTurned w' M) (hr : X M) : Fr X a w' := h.grown hg.grown (fun k e => by cases e; exact .inr hr)
theorem Fr.heap {k : Nat} {o : Obj} (h : Fr X w w') (hk : w.heap[k]? = some o) (hx : ¬ X k) : w'.heap[k]? = some o := (h.block k (Array.getElem?_eq_some_iff.1 hk).1 hx).trans hk
end

/-- A block of cells, known whole. -/
def Blk (w : World) (g : Nat) (t : TypeId) (cs : Array Value) : Prop := w.heap[g]? = some (.cells cs t (0, 0))
section
variable {w w' : World} {g : Nat} {t : TypeId} {cs : Array Value}
theorem Blk.lt (h : Blk w g t cs) : g < w.heap.size := (Array.getElem?_eq_some_iff.1 h).1
theorem Blk.cell (h : Blk w g t cs) (i : Nat) : w.cell? ⟨g, i, none⟩ = cs[i]? := cell_of_row w g i cs t (0, 0) h
theorem Blk.frozen (h : Blk w g t cs) (i : Nat) : w.frozen? ⟨g, i, none⟩ = false := by
  unfold Blk at h
  simp [World.frozen?, h]
theorem Blk.new (w : World) (t : TypeId) (cs : Array Value) : Blk (w.alloc (.cells cs t)) w.heap.size t cs := heap_alloc_new w _
theorem Blk.drew (h : Blk w g t cs) : Blk w.drew g t cs := h
theorem Blk.alloc (h : Blk w g t cs) (o : Obj) : Blk (w.alloc o) g t cs := (Below.heap_alloc w o g h.lt).trans h
theorem Blk.set_ (h : Blk w g t cs) (i : Nat) (u : Value) : Blk (w.setCell ⟨g, i, none⟩ u) g t (cs.setIfInBounds i u) := by
  unfold Blk at h ⊢
  simp [World.setCell, Array.getElem?_modify, h]
theorem Blk.far (h : Blk w g t cs) {p : Addr} (hp : g ≠ p.block) (u : Value) : Blk (w.setCell p u) g t cs := (Below.heap_setCell w p u g hp).trans h
theorem Blk.fr {X : Nat → Prop} (h : Blk w g t cs) (hf : Fr X w w') (hx : ¬ X g) : Blk w' g t cs := hf.heap h hx
theorem Blk.map_ {M : Nat} {es : Array MapEntry} {clock : Nat} (h : Blk w g t cs) (hb : w'.heap[M]? = some (.map es clock)) (hk : ∀ k, k ≠ M → w'.heap[k]? = w.heap[k]?) (hm : ∃ es' c', w.heap[M]? = some (.map es' c')) : Blk w' g t cs := by
  refine (hk g (fun e => ?_)).trans h
  subst e; obtain ⟨es', c', hm⟩ := hm; unfold Blk at h; rw [h] at hm; cases hm
end
/-- A region that draws its order, whose last operations are in one order. -/
theorem wp_region_tail {P : Program} {id : Nat} {Q : Exit → Act → World → Prop} {a : Act} {w : World} {l : List Oper} (n : Nat) (hm : P.follows .mixedOrders = true) (hB : Region.lexTailB .any l.toArray n = true)
    (h : wpStill P l.toArray w.drew (fun a' => wpList P l.toArray Q (l.drop n) a' w.drew) (l.take n) a) : (Code.region id l.toArray true).wp P Q a w := wp_region_still_tail n hm hB h
end Go.Proofs.YtenfkghoolegfaaGreatDoor
