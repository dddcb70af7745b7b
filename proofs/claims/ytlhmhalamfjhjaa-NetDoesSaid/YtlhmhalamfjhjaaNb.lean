/- A net in memory: packets, the map of those on their way; laws on the map's operations, for the walk. -/
import Derived.Test.YtlhmhalamfjhjaaProg
import Derived.WalkKit
import Derived.Below
import Derived.BigCall
import Derived.BigGuard
import Derived.BigFrame
import Derived.Lib.Hide
import Derived.Maps.OwnSet
import Derived.Maps.OwnOps
import Derived.WalkSpells
import Derived.Laws.OwnMore
import Derived.Deep.AppendSrc
import Derived.StillTailTactics
set_option linter.unusedVariables false
namespace Go.Proofs.Ytlhmhalamfjhjaa
open Go.RowKit

/-- But for some blocks, what was there is as it was. -/
structure Fr (X : Nat → Prop) (w w' : World) : Prop where
  os : w'.os = w.os
  tape : w'.tape = w.tape
  output : w'.output = w.output
  size : w.heap.size ≤ w'.heap.size
  block : ∀ k, k < w.heap.size → ¬ X k → w'.heap[k]? = w.heap[k]?
section
variable {X Y : Nat → Prop} {w w' a b c : World}
theorem Fr.refl (X : Nat → Prop) (w : World) : Fr X w w := ⟨rfl, rfl, rfl, Nat.le_refl _, fun _ _ _ => rfl⟩
theorem Fr.trans (h : Fr X a b) (k : Fr X b c) : Fr X a c :=
  ⟨k.os.trans h.os, k.tape.trans h.tape, k.output.trans h.output, Nat.le_trans h.size k.size, fun i hi hx => (k.block i (Nat.lt_of_lt_of_le hi h.size) hx).trans (h.block i hi hx)⟩
theorem Fr.mono (h : Fr X a b) (hX : ∀ k, k < a.heap.size → X k → Y k) : Fr Y a b := ⟨h.os, h.tape, h.output, h.size, fun i hi hy => h.block i hi (fun hx => hy (hX i hi hx))⟩
theorem Fr.below {B : Nat} (h : Fr X w w') (hB : B ≤ w.heap.size) (hX : ∀ k, X k → B ≤ k) : Below B w w' :=
  ⟨h.os, h.tape, h.output, h.size, fun k hk => h.block k (Nat.lt_of_lt_of_le hk hB) (fun hx => by have := hX k hx; omega)⟩
theorem Fr.of_below (h : Below w.heap.size w w') : Fr X w w' := ⟨h.os, h.tape, h.output, h.size, fun k hk _ => h.block k hk⟩
theorem Fr.of_below' (h : Below w.heap.size w w') (k : Fr X w' a) (hX : ∀ k, k < w.heap.size → X k → Y k) : Fr Y w a :=
  (Fr.of_below (X := X) h |>.trans k).mono hX
theorem Fr.drew (h : Fr X a w) : Fr X a w.drew := ⟨h.os, h.tape, h.output, h.size, h.block⟩
theorem Fr.alloc (h : Fr X a w) (o : Obj) : Fr X a (w.alloc o) :=
  h.trans ⟨rfl, rfl, rfl, by simp, fun k hk _ => Below.heap_alloc _ _ _ hk⟩
theorem Fr.setCell (h : Fr X a w) {p : Addr} (hp : a.heap.size ≤ p.block ∨ X p.block) (u : Value) : Fr X a (w.setCell p u) :=
  ⟨h.os, h.tape, h.output, by simpa [World.setCell] using h.size, fun k hk hx => (Below.heap_setCell _ _ _ _ (fun e => by subst e; rcases hp with hp | hp; omega; exact hx hp)).trans (h.block k hk hx)⟩
theorem Fr.grown (h : Fr X a w) {row : Option Nat} (hg : w.grownBy w' row) (hr : ∀ k, row = some k → a.heap.size ≤ k ∨ X k) : Fr X a w' :=
  ⟨hg.os.trans h.os, hg.tape.trans h.tape, hg.output.trans h.output, Nat.le_trans h.size hg.size, fun k hk hx => (hg.block k (Nat.lt_of_lt_of_le hk h.size) (fun e => by rcases hr k e.symm with h1 | h1; omega; exact hx h1)).trans (h.block k hk hx)⟩
theorem Fr.mapTurned (h : Fr X a w) {M : Nat} (hg : w.mapTurned w' M) (hr : X M) : Fr X a w' := h.grown hg.grown (fun k e => by cases e; exact .inr hr)
theorem Fr.heap {k : Nat} {o : Obj} (h : Fr X w w') (hk : w.heap[k]? = some o) (hx : ¬ X k) : w'.heap[k]? = some o := (h.block k (Array.getElem?_eq_some_iff.1 hk).1 hx).trans hk
end

/-- A block of cells, known whole. -/
def Blk (w : World) (g : Nat) (t : TypeId) (cs : Array Value) : Prop := w.heap[g]? = some (.cells cs t (0, 0))
section
variable {w w' : World} {g : Nat} {t : TypeId} {cs : Array Value}
theorem Blk.lt (h : Blk w g t cs) : g < w.heap.size := (Array.getElem?_eq_some_iff.1 h).1
theorem Blk.cell (h : Blk w g t cs) (i : Nat) : w.cell? ⟨g, i, none⟩ = cs[i]? := cell_of_row w g i cs t (0, 0) h
theorem Blk.frozen (h : Blk w g t cs) (i : Nat) : w.frozen? ⟨g, i, none⟩ = false := by
  unfold Blk at h
  simp [World.frozen?, h]
theorem Blk.new (w : World) (t : TypeId) (cs : Array Value) : Blk (w.alloc (.cells cs t)) w.heap.size t cs := heap_alloc_new w _
theorem Blk.drew (h : Blk w g t cs) : Blk w.drew g t cs := h
theorem Blk.alloc (h : Blk w g t cs) (o : Obj) : Blk (w.alloc o) g t cs := (Below.heap_alloc w o g h.lt).trans h
theorem Blk.set_ (h : Blk w g t cs) (i : Nat) (u : Value) : Blk (w.setCell ⟨g, i, none⟩ u) g t (cs.setIfInBounds i u) := by
  unfold Blk at h ⊢
  simp [World.setCell, Array.getElem?_modify, h]
theorem Blk.far (h : Blk w g t cs) {p : Addr} (hp : g ≠ p.block) (u : Value) : Blk (w.setCell p u) g t cs := (Below.heap_setCell w p u g hp).trans h
theorem Blk.fr {X : Nat → Prop} (h : Blk w g t cs) (hf : Fr X w w') (hx : ¬ X g) : Blk w' g t cs := hf.heap h hx
theorem Blk.map_ {M : Nat} {es : Array MapEntry} {clock : Nat} (h : Blk w g t cs) (hb : w'.heap[M]? = some (.map es clock)) (hk : ∀ k, k ≠ M → w'.heap[k]? = w.heap[k]?) (hm : ∃ es' c', w.heap[M]? = some (.map es' c')) : Blk w' g t cs := by
  refine (hk g (fun e => ?_)).trans h
  subst e; obtain ⟨es', c', hm⟩ := hm; unfold Blk at h; rw [h] at hm; cases hm
end
/-- A region that draws its order, whose last operations are in one order. -/
theorem wp_region_tail {P : Program} {id : Nat} {Q : Exit → Act → World → Prop} {a : Act} {w : World} {l : List Oper} (n : Nat) (hm : P.follows .mixedOrders = true) (hB : Region.lexTailB .any l.toArray n = true)
    (h : wpStill P l.toArray w.drew (fun a' => wpList P l.toArray Q (l.drop n) a' w.drew) (l.take n) a) : (Code.region id l.toArray true).wp P Q a w := wp_region_still_tail n hm hB h

/-- A packet. -/
structure Pk where
  id : Int
  to : Int
  b : List Int
  sp : Bool
/-- A packet, with where its bytes lie, and when it came. -/
structure PkA where
  p : Pk
  A : Option Addr
  c : Nat
  born : Nat
/-- Bytes in a row. -/
def Row (w : World) (A : Option Addr) (c : Nat) (b : List Int) : Prop :=
  b.length ≤ c ∧ c ≤ 9223372036854775807 ∧ (∀ x ∈ b, 0 ≤ x ∧ x < 256) ∧ (0 < b.length → ∃ g o cs fz, A = some ⟨g, o, none⟩ ∧ w.heap[g]? = some (.cells cs 5 fz) ∧ ∀ j u, b[j]? = some u → cs[o + j]? = some (.int .u8 u))
/-- Rows of bytes stay. -/
def Keep8 (w w' : World) : Prop := ∀ (g : Nat) (cs : Array Value) (fz : Nat × Nat), w.heap[g]? = some (Obj.cells cs 5 fz) → w'.heap[g]? = some (Obj.cells cs 5 fz)
theorem Keep8.refl (w : World) : Keep8 w w := fun _ _ _ h => h
theorem Keep8.trans {a b c : World} (h : Keep8 a b) (k : Keep8 b c) : Keep8 a c := fun g cs fz hg => k g cs fz (h g cs fz hg)
theorem Keep8.of_fr {X : Nat → Prop} {w w' : World} (h : Fr X w w') (hX : ∀ k cs fz, X k → w.heap[k]? ≠ some (Obj.cells cs 5 fz)) : Keep8 w w' := fun g cs fz hg => h.heap hg (fun hx => hX g cs fz hx hg)
theorem Keep8.of_below {w w' : World} (h : Below w.heap.size w w') : Keep8 w w' := fun g cs fz hg => (h.block g (Array.getElem?_eq_some_iff.1 hg).1).trans hg
theorem Row.keep {w w' : World} {A : Option Addr} {c : Nat} {b : List Int} (h : Row w A c b) (hk : Keep8 w w') : Row w' A c b :=
  ⟨h.1, h.2.1, h.2.2.1, fun hb => by
    obtain ⟨g, o, cs, fz, e, h1, h2⟩ := h.2.2.2 hb
    exact ⟨g, o, cs, fz, e, hk _ _ _ h1, h2⟩⟩
theorem Row.at_ {w : World} {A : Option Addr} {c : Nat} {b : List Int} (h : Row w A c b) {j : Nat} {u : Int} (hj : b[j]? = some u) : ∃ g o, A = some ⟨g, o, none⟩ ∧ g < w.heap.size ∧ w.cell? ⟨g, o + j, none⟩ = some (.int .u8 u) := by
  have hl : j < b.length := (List.getElem?_eq_some_iff.1 hj).1
  obtain ⟨g, o, cs, fz, e, h1, h2⟩ := h.2.2.2 (by omega)
  exact ⟨g, o, e, (Array.getElem?_eq_some_iff.1 h1).1, by rw [cell_of_row w g (o + j) cs 5 fz h1]; exact h2 j u hj⟩

/-- An entry's value, its key. -/
def PkA.val (x : PkA) : Value := .agg #[.int .i64 x.p.to, .slice x.A x.p.b.length x.c, .bool x.p.sp]
def PkA.ent (x : PkA) : MapEntry := { key := .int .i64 x.p.id, val := x.val, born := x.born }
/-- Where a packet is in a list. -/
def look (id : Int) : List PkA → Nat → Option (Nat × PkA)
  | [], _ => none
  | x :: l, i => if x.p.id = id then some (i, x) else look id l (i + 1)
theorem find_look (id : Int) : ∀ (l : List PkA) (i : Nat), Instr.findNow (.int .i64) (.int .i64 id) (l.map PkA.ent) i = some ((look id l i).map fun r => (r.1, r.2.val))
  | [], i => rfl
  | x :: l, i => by
    simp only [List.map_cons, Instr.findNow, PkA.ent, Instr.sameNow, if_true, look]
    by_cases h : x.p.id = id
    · subst h; simp
    · have h' : (id == x.p.id) = false := by simp; exact fun e => h e.symm
      rw [h', if_neg h]
      exact find_look id l (i + 1)
theorem look_spec (id : Int) : ∀ (l : List PkA) (i j : Nat) (x : PkA), look id l i = some (j, x) → i ≤ j ∧ l[j - i]? = some x ∧ x.p.id = id
  | [], i, j, x, h => by cases h
  | y :: l, i, j, x, h => by
    unfold look at h
    by_cases e : y.p.id = id
    · rw [if_pos e] at h; cases h; exact ⟨Nat.le_refl _, by simp, e⟩
    · rw [if_neg e] at h
      obtain ⟨h1, h2, h3⟩ := look_spec id l (i + 1) j x h
      refine ⟨by omega, ?_, h3⟩
      rw [show j - i = (j - (i + 1)) + 1 by omega, List.getElem?_cons_succ]
      exact h2

theorem map_erase {α β : Type} (f : α → β) : ∀ (l : List α) (j : Nat), (l.map f).eraseIdx j = (l.eraseIdx j).map f
  | [], _ => rfl
  | _ :: _, 0 => rfl
  | a :: l, j + 1 => by simp [map_erase f l j]
theorem zeroPk (w : World) : (zeroValue 67).run Try.prog w = .ok (.agg #[.int .i64 0, .slice none 0 0, .bool false]) w := by kernel_rfl
theorem getMap {P : Program} {w : World} {r : Nat} {es : Array MapEntry} {clock : Nat} (h : w.heap[r]? = some (.map es clock)) : (getObj r).run P w = .ok (.map es clock) w := by
  simp [getObj, Sem.run, h]
/-- The world with another map in a block. -/
structure MapTo (w w1 : World) (M : Nat) (es : Array MapEntry) (clock : Nat) : Prop where
  map : w1.heap[M]? = some (.map es clock)
  os : w1.os = w.os
  tape : w1.tape = w.tape
  output : w1.output = w.output
  size : w1.heap.size = w.heap.size
  block : ∀ k, k ≠ M → w1.heap[k]? = w.heap[k]?
theorem MapTo.fr {w w1 : World} {M : Nat} {es : Array MapEntry} {clock : Nat} (h : MapTo w w1 M es clock) : Fr (· = M) w w1 := ⟨h.os, h.tape, h.output, by rw [h.size]; exact Nat.le_refl _, fun k _ hx => h.block k hx⟩
theorem MapTo.frX {X : Nat → Prop} {a w w1 : World} {M : Nat} {es : Array MapEntry} {clock : Nat} (h : MapTo w w1 M es clock) (hf : Fr X a w) (hX : a.heap.size ≤ M ∨ X M) : Fr X a w1 :=
  ⟨h.os.trans hf.os, h.tape.trans hf.tape, h.output.trans hf.output, by rw [h.size]; exact hf.size, fun k hk hx => (h.block k (fun e => by subst e; rcases hX with h1 | h1; omega; exact hx h1)).trans (hf.block k hk hx)⟩
theorem MapTo.cell {w w1 : World} {M : Nat} {es : Array MapEntry} {clock : Nat} (h : MapTo w w1 M es clock) {b o : Nat} (hb : b ≠ M) : w1.cell? ⟨b, o, none⟩ = w.cell? ⟨b, o, none⟩ := World.cell?_of_block (w := w) (h.block b hb)
theorem MapTo.frozen {w w1 : World} {M : Nat} {es : Array MapEntry} {clock : Nat} (h : MapTo w w1 M es clock) {b o : Nat} (hb : b ≠ M) : w1.frozen? ⟨b, o, none⟩ = w.frozen? ⟨b, o, none⟩ := World.frozen?_of_block (w := w) (h.block b hb)
theorem setMap {P : Program} {w : World} {r : Nat} {es es' : Array MapEntry} {clock clock' : Nat} (h : w.heap[r]? = some (.map es clock)) : ∃ w1, (setObj r (.map es' clock')).run P w = .ok () w1 ∧ MapTo w w1 r es' clock' := by
  have hlt := (Array.getElem?_eq_some_iff.1 h).1
  refine ⟨{ w with heap := w.heap.setIfInBounds r (.map es' clock') }, by simp [setObj, Sem.run, h], ?_, rfl, rfl, rfl, by simp, fun k hk => ?_⟩
  · simp [hlt]
  · exact Array.getElem?_setIfInBounds_ne (Ne.symm hk)
theorem chk (b : Bool) (id : Int) (w : World) : (Instr.checkKey b 10000 3 (.int .i64 id)).run Try.prog w = .ok () w := by
  have : ∀ q, (Instr.checkKey b (q + 1) 3 (.int .i64 id)).run Try.prog w = .ok () w := fun q => by
    simp [Instr.checkKey, run_underlying Try.underlying3]
  exact this 9999

section
variable {w : World} {ops : Array Oper} {rest : List Oper} {o : Oper} {a : Act} {Q : Exit → Act → World → Prop} {M : Nat} {id : Int} {l : List PkA} {clock : Nat}
theorem run_look (hM : w.heap[M]? = some (.map (l.map PkA.ent).toArray clock)) (ok : Bool) :
    (Instr.lookup 49 (.map (some M)) (.int .i64 id) ok).run Try.prog w = .ok (match look id l 0 with
      | some r => if ok then .tuple #[r.2.val, .bool true] else r.2.val
      | none => if ok then .tuple #[.agg #[.int .i64 0, .slice none 0 0, .bool false], .bool false] else .agg #[.int .i64 0, .slice none 0 0, .bool false]) w := by
  have hf := find_look id l 0
  cases hl : look id l 0 with
  | none =>
    rw [hl] at hf
    simp [Instr.lookup, run_underlying Try.underlying49, getMap hM, chk, Instr.findKey, run_underlying Try.underlying3, hf, zeroPk, Result.andThen]
  | some r =>
    rw [hl] at hf
    simp [Instr.lookup, run_underlying Try.underlying49, getMap hM, chk, Instr.findKey, run_underlying Try.underlying3, hf, Result.andThen]
theorem wpList_look_some (hg : o.guard = none) (m x : Operand) (hop : o.op = Op.lookup 49 m x true) (hm : a.eval m = .map (some M)) (hx : a.eval x = .int .i64 id)
    (hM : w.heap[M]? = some (.map (l.map PkA.ent).toArray clock)) {j : Nat} {y : PkA} (hl : look id l 0 = some (j, y))
    (hK : wpList Try.prog ops Q rest (a.put o.dst (.tuple #[.agg #[.int .i64 y.p.to, .slice y.A y.p.b.length y.c, .bool y.p.sp], .bool true])) w) : wpList Try.prog ops Q (o :: rest) a w := by
  refine wpList_plain hg fun K' hK' => ?_
  have hrun := run_look (id := id) hM true
  rw [hl] at hrun
  unfold Oper.wp
  simp [execOp, hop, hm, hx, hrun, Result.andThen]
  exact hK' _ _ hK
theorem wpList_look_none (hg : o.guard = none) (m x : Operand) (hop : o.op = Op.lookup 49 m x true) (hm : a.eval m = .map (some M)) (hx : a.eval x = .int .i64 id)
    (hM : w.heap[M]? = some (.map (l.map PkA.ent).toArray clock)) (hl : look id l 0 = none)
    (hK : wpList Try.prog ops Q rest (a.put o.dst (.tuple #[.agg #[.int .i64 0, .slice none 0 0, .bool false], .bool false])) w) : wpList Try.prog ops Q (o :: rest) a w := by
  refine wpList_plain hg fun K' hK' => ?_
  have hrun := run_look (id := id) hM true
  rw [hl] at hrun
  unfold Oper.wp
  simp [execOp, hop, hm, hx, hrun, Result.andThen]
  exact hK' _ _ hK
theorem wpList_look1 (hg : o.guard = none) (m x : Operand) (hop : o.op = Op.lookup 49 m x false) (hm : a.eval m = .map (some M)) (hx : a.eval x = .int .i64 id)
    (hM : w.heap[M]? = some (.map (l.map PkA.ent).toArray clock)) {j : Nat} {y : PkA} (hl : look id l 0 = some (j, y))
    (hK : wpList Try.prog ops Q rest (a.put o.dst (.agg #[.int .i64 y.p.to, .slice y.A y.p.b.length y.c, .bool y.p.sp])) w) : wpList Try.prog ops Q (o :: rest) a w := by
  refine wpList_plain hg fun K' hK' => ?_
  have hrun := run_look (id := id) hM false
  rw [hl] at hrun
  unfold Oper.wp
  simp [execOp, hop, hm, hx, hrun, Result.andThen]
  exact hK' _ _ hK
theorem wpList_maplen (hg : o.guard = none) (m : Operand) (hop : o.op = Op.call { callee := Callee.builtin Builtin.len, args := #[m], argTypes := #[49] }) (hm : a.eval m = .map (some M))
    (hM : w.heap[M]? = some (.map (l.map PkA.ent).toArray clock)) (hK : wpList Try.prog ops Q rest (a.put o.dst (.int .i64 l.length)) w) : wpList Try.prog ops Q (o :: rest) a w := by
  refine wpList_plain hg fun K' hK' => ?_
  have hrun : (Builtin.len_ #[49] o.type #[.map (some M)]).run Try.prog w = .ok (.int .i64 l.length) w := by
    simp [Builtin.len_, run_underlying Try.underlying49, getMap hM, goInt, Result.andThen]
  unfold Oper.wp
  simp [execOp, hop, resolve, invoke, builtin, hm, hrun, Result.andThen]
  exact hK' _ _ hK
/-- A new entry. -/
theorem run_put (hM : w.heap[M]? = some (.map (l.map PkA.ent).toArray clock)) {y : PkA} (hl : look y.p.id l 0 = none) (hy : y.born = clock) :
    ∃ w1, (Instr.mapUpdate 49 (.map (some M)) (.int .i64 y.p.id) y.val).run Try.prog w = .ok () w1 ∧ MapTo w w1 M ((l ++ [y]).map PkA.ent).toArray (clock + 1) := by
  obtain ⟨w1, h1, h2⟩ := setMap (P := Try.prog) (es' := ((l ++ [y]).map PkA.ent).toArray) (clock' := clock + 1) hM
  refine ⟨w1, ?_, h2⟩
  have hf := find_look y.p.id l 0
  rw [hl] at hf
  have he : (l.map PkA.ent).toArray.push { key := .int .i64 y.p.id, val := y.val, born := clock } = ((l ++ [y]).map PkA.ent).toArray := by
    subst hy; simp [PkA.ent]
  simp only [Instr.mapUpdate, Sem.run_bind, run_underlying Try.underlying49, getMap hM, chk, Instr.findKey, run_underlying Try.underlying3, hf, Result.andThen, Option.map_none, Sem.run_pure, he, h1]
/-- Another value at a key. -/
theorem run_set (hM : w.heap[M]? = some (.map (l.map PkA.ent).toArray clock)) {j : Nat} {x y : PkA} (hl : look y.p.id l 0 = some (j, x)) (hy : y.born = x.born) :
    ∃ w1, (Instr.mapUpdate 49 (.map (some M)) (.int .i64 y.p.id) y.val).run Try.prog w = .ok () w1 ∧ MapTo w w1 M ((l.set j y).map PkA.ent).toArray clock := by
  obtain ⟨w1, h1, h2⟩ := setMap (P := Try.prog) (es' := ((l.set j y).map PkA.ent).toArray) (clock' := clock) hM
  refine ⟨w1, ?_, h2⟩
  have hf := find_look y.p.id l 0
  rw [hl] at hf
  obtain ⟨_, hj, hid⟩ := look_spec _ _ _ _ _ hl
  simp only [Nat.sub_zero] at hj
  have he : (l.map PkA.ent).toArray.modify j (fun e => { e with key := .int .i64 y.p.id, val := y.val }) = ((l.set j y).map PkA.ent).toArray := by
    apply Array.toList_inj.1
    simp only [Array.toList_modify, List.map_set]
    apply List.ext_getElem? ; intro k
    rw [List.getElem?_modify, List.getElem?_set]
    by_cases hk : j = k
    · subst hk
      have hlt := (List.getElem?_eq_some_iff.1 hj).1
      have hje := (List.getElem?_eq_some_iff.1 hj).2
      simp [hlt, PkA.ent, hy, hje]
    · simp [hk]
  have hkey : ((l.map PkA.ent).toArray[j]?).map (·.key) = some (.int .i64 y.p.id) := by simp [hj, PkA.ent, hid]
  simp only [Instr.mapUpdate, Sem.run_bind, run_underlying Try.underlying49, getMap hM, chk, Instr.findKey, run_underlying Try.underlying3, hf, Result.andThen, Option.map_some, Sem.run_pure, hkey, Option.getD_some]
  have hsb : ∀ q, Instr.sameBits q (.int .i64 y.p.id) (.int .i64 y.p.id) = true := fun q => by unfold Instr.sameBits; simp
  have hst : (Instr.keyThatStays (.int .i64 y.p.id) (.int .i64 y.p.id)).run Try.prog w = .ok (.int .i64 y.p.id) w := by
    simp [Instr.keyThatStays, hsb]
  rw [hst]
  simp only [Result.andThen, he, h1]
theorem run_del (hM : w.heap[M]? = some (.map (l.map PkA.ent).toArray clock)) {j : Nat} {x : PkA} (hl : look id l 0 = some (j, x)) (ty : TypeId) :
    ∃ w1, (Builtin.delete_ #[49, 3] ty #[.map (some M), .int .i64 id]).run Try.prog w = .ok (.tuple #[]) w1 ∧ MapTo w w1 M ((l.eraseIdx j).map PkA.ent).toArray clock := by
  obtain ⟨w1, h1, h2⟩ := setMap (P := Try.prog) (es' := ((l.eraseIdx j).map PkA.ent).toArray) (clock' := clock) hM
  refine ⟨w1, ?_, h2⟩
  have hf := find_look id l 0
  rw [hl] at hf
  obtain ⟨_, hj, _⟩ := look_spec _ _ _ _ _ hl
  simp only [Nat.sub_zero] at hj
  have hlt := (List.getElem?_eq_some_iff.1 hj).1
  have he : (l.map PkA.ent).toArray.eraseIdxIfInBounds j = ((l.eraseIdx j).map PkA.ent).toArray := by
    apply Array.toList_inj.1
    simp only [Array.eraseIdxIfInBounds, List.size_toArray, List.length_map, hlt, dif_pos, Array.toList_eraseIdx]
    exact map_erase _ _ _
  simp [Builtin.delete_, run_underlying Try.underlying49, getMap hM, chk, Instr.findKey, run_underlying Try.underlying3, hf, Result.andThen, map_erase, h1]
theorem wpList_put (hg : o.guard = none) (m k v : Operand) (hop : o.op = Op.mapUpdate 49 m k v) {y : PkA} (hm : a.eval m = .map (some M)) (hk : a.eval k = .int .i64 y.p.id) (hv : a.eval v = y.val)
    (hM : w.heap[M]? = some (.map (l.map PkA.ent).toArray clock)) (hl : look y.p.id l 0 = none) (hy : y.born = clock)
    (hK : ∀ w1, MapTo w w1 M ((l ++ [y]).map PkA.ent).toArray (clock + 1) → wpList Try.prog ops Q rest (a.put o.dst undef) w1) : wpList Try.prog ops Q (o :: rest) a w := by
  refine wpList_plain hg fun K' hK' => ?_
  obtain ⟨w1, hrun, hm1⟩ := run_put hM hl hy
  unfold Oper.wp
  simp [execOp, hop, hm, hk, hv, hrun, Result.andThen]
  exact hK' _ _ (hK w1 hm1)
theorem wpList_set (hg : o.guard = none) (m k v : Operand) (hop : o.op = Op.mapUpdate 49 m k v) {j : Nat} {x y : PkA} (hm : a.eval m = .map (some M)) (hk : a.eval k = .int .i64 y.p.id) (hv : a.eval v = y.val)
    (hM : w.heap[M]? = some (.map (l.map PkA.ent).toArray clock)) (hl : look y.p.id l 0 = some (j, x)) (hy : y.born = x.born)
    (hK : ∀ w1, MapTo w w1 M ((l.set j y).map PkA.ent).toArray clock → wpList Try.prog ops Q rest (a.put o.dst undef) w1) : wpList Try.prog ops Q (o :: rest) a w := by
  refine wpList_plain hg fun K' hK' => ?_
  obtain ⟨w1, hrun, hm1⟩ := run_set hM hl hy
  unfold Oper.wp
  simp [execOp, hop, hm, hk, hv, hrun, Result.andThen]
  exact hK' _ _ (hK w1 hm1)
theorem wpList_del (hg : o.guard = none) (m k : Operand) (hop : o.op = Op.call { callee := Callee.builtin Builtin.delete, args := #[m, k], argTypes := #[49, 3] }) (hm : a.eval m = .map (some M)) (hk : a.eval k = .int .i64 id)
    (hM : w.heap[M]? = some (.map (l.map PkA.ent).toArray clock)) {j : Nat} {x : PkA} (hl : look id l 0 = some (j, x))
    (hK : ∀ w1, MapTo w w1 M ((l.eraseIdx j).map PkA.ent).toArray clock → wpList Try.prog ops Q rest (a.put o.dst (.tuple #[])) w1) : wpList Try.prog ops Q (o :: rest) a w := by
  refine wpList_plain hg fun K' hK' => ?_
  obtain ⟨w1, hrun, hm1⟩ := run_del hM hl o.type
  unfold Oper.wp
  simp [execOp, hop, resolve, invoke, builtin, hm, hk, hrun, Result.andThen]
  exact hK' _ _ (hK w1 hm1)
end
end Go.Proofs.Ytlhmhalamfjhjaa
