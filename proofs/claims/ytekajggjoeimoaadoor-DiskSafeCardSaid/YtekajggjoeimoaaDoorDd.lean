/- The disk: directories in memory (maps of names, each of a file): laws on their operations, for the walk. -/
import Derived.Test.YtekajggjoeimoaaDoorDc
set_option linter.unusedVariables false
namespace Go.Proofs.YtekajggjoeimoaaDoor
open Go.RowKit
theorem ba_beq (a b : ByteArray) : (a == b) = decide (a = b) := by
  cases a with | mk a => cases b with | mk b =>
  show (a == b) = _
  by_cases h : a = b
  · subst h; simp
  · rw [decide_eq_false (fun e => h (ByteArray.mk.inj e))]
    exact beq_eq_false_iff_ne.2 h
/-- A name, its file's block, when it came. -/
structure DE where
  nm : ByteArray
  f : Nat
  born : Nat
def DE.val (x : DE) : Value := .pointer (some ⟨x.f, 0, none⟩)
def DE.ent (x : DE) : MapEntry := { key := .string x.nm, val := x.val, born := x.born }
/-- Where a packet is in a list. -/
def look (id : ByteArray) : List DE → Nat → Option (Nat × DE)
  | [], _ => none
  | x :: l, i => if x.nm = id then some (i, x) else look id l (i + 1)
theorem find_look (id : ByteArray) : ∀ (l : List DE) (i : Nat), Instr.findNow .string (.string id) (l.map DE.ent) i = some ((look id l i).map fun r => (r.1, r.2.val))
  | [], i => rfl
  | x :: l, i => by
    simp only [List.map_cons, Instr.findNow, DE.ent, Instr.sameNow, look]
    by_cases h : x.nm = id
    · subst h; simp [ba_beq]
    · have h' : (id == x.nm) = false := by rw [ba_beq]; exact decide_eq_false (fun e => h e.symm)
      rw [h', if_neg h]
      exact find_look id l (i + 1)
theorem look_spec (id : ByteArray) : ∀ (l : List DE) (i j : Nat) (x : DE), look id l i = some (j, x) → i ≤ j ∧ l[j - i]? = some x ∧ x.nm = id
  | [], i, j, x, h => by cases h
  | y :: l, i, j, x, h => by
    unfold look at h
    by_cases e : y.nm = id
    · rw [if_pos e] at h; cases h; exact ⟨Nat.le_refl _, by simp, e⟩
    · rw [if_neg e] at h
      obtain ⟨h1, h2, h3⟩ := look_spec id l (i + 1) j x h
      refine ⟨by omega, ?_, h3⟩
      rw [show j - i = (j - (i + 1)) + 1 by omega, List.getElem?_cons_succ]
      exact h2

theorem map_erase {α β : Type} (f : α → β) : ∀ (l : List α) (j : Nat), (l.map f).eraseIdx j = (l.eraseIdx j).map f
  | [], _ => rfl
  | _ :: _, 0 => rfl
  | a :: l, j + 1 => by simp [map_erase f l j]
theorem zeroPk (w : World) : (zeroValue 68).run Tryd.prog w = .ok (.pointer none) w := by kernel_rfl
theorem getMap {P : Program} {w : World} {r : Nat} {es : Array MapEntry} {clock : Nat} (h : w.heap[r]? = some (.map es clock)) : (getObj r).run P w = .ok (.map es clock) w := by
  simp [getObj, Sem.run, h]
/-- The world with another map in a block. -/
structure MapTo (w w1 : World) (M : Nat) (es : Array MapEntry) (clock : Nat) : Prop where
  map : w1.heap[M]? = some (.map es clock)
  os : w1.os = w.os
  tape : w1.tape = w.tape
  output : w1.output = w.output
  size : w1.heap.size = w.heap.size
  block : ∀ k, k ≠ M → w1.heap[k]? = w.heap[k]?
theorem MapTo.fr {w w1 : World} {M : Nat} {es : Array MapEntry} {clock : Nat} (h : MapTo w w1 M es clock) : Fr (· = M) w w1 := ⟨h.os, h.tape, h.output, by rw [h.size]; exact Nat.le_refl _, fun k _ hx => h.block k hx⟩
theorem MapTo.frX {X : Nat → Prop} {a w w1 : World} {M : Nat} {es : Array MapEntry} {clock : Nat} (h : MapTo w w1 M es clock) (hf : Fr X a w) (hX : a.heap.size ≤ M ∨ X M) : Fr X a w1 :=
  ⟨h.os.trans hf.os, h.tape.trans hf.tape, h.output.trans hf.output, by rw [h.size]; exact hf.size, fun k hk hx => (h.block k (fun e => by subst e; rcases hX with h1 | h1; omega; exact hx h1)).trans (hf.block k hk hx)⟩
theorem MapTo.cell {w w1 : World} {M : Nat} {es : Array MapEntry} {clock : Nat} (h : MapTo w w1 M es clock) {b o : Nat} (hb : b ≠ M) : w1.cell? ⟨b, o, none⟩ = w.cell? ⟨b, o, none⟩ := World.cell?_of_block (w := w) (h.block b hb)
theorem MapTo.frozen {w w1 : World} {M : Nat} {es : Array MapEntry} {clock : Nat} (h : MapTo w w1 M es clock) {b o : Nat} (hb : b ≠ M) : w1.frozen? ⟨b, o, none⟩ = w.frozen? ⟨b, o, none⟩ := World.frozen?_of_block (w := w) (h.block b hb)
theorem setMap {P : Program} {w : World} {r : Nat} {es es' : Array MapEntry} {clock clock' : Nat} (h : w.heap[r]? = some (.map es clock)) : ∃ w1, (setObj r (.map es' clock')).run P w = .ok () w1 ∧ MapTo w w1 r es' clock' := by
  have hlt := (Array.getElem?_eq_some_iff.1 h).1
  refine ⟨{ w with heap := w.heap.setIfInBounds r (.map es' clock') }, by simp [setObj, Sem.run, h], ?_, rfl, rfl, rfl, by simp, fun k hk => ?_⟩
  · simp [hlt]
  · exact Array.getElem?_setIfInBounds_ne (Ne.symm hk)
theorem chk (b : Bool) (id : ByteArray) (w : World) : (Instr.checkKey b 10000 9 (.string id)).run Tryd.prog w = .ok () w := by
  have : ∀ q, (Instr.checkKey b (q + 1) 9 (.string id)).run Tryd.prog w = .ok () w := fun q => by
    simp [Instr.checkKey, run_underlying Tryd.underlying9]
  exact this 9999

section
variable {w : World} {ops : Array Oper} {rest : List Oper} {o : Oper} {a : Act} {Q : Exit → Act → World → Prop} {M : Nat} {id : ByteArray} {l : List DE} {clock : Nat}
theorem run_look (hM : w.heap[M]? = some (.map (l.map DE.ent).toArray clock)) (ok : Bool) :
    (Instr.lookup 60 (.map (some M)) (.string id) ok).run Tryd.prog w = .ok (match look id l 0 with
      | some r => if ok then .tuple #[r.2.val, .bool true] else r.2.val
      | none => if ok then .tuple #[.pointer none, .bool false] else .pointer none) w := by
  have hf := find_look id l 0
  cases hl : look id l 0 with
  | none =>
    rw [hl] at hf
    simp [Instr.lookup, run_underlying Tryd.underlying60, getMap hM, chk, Instr.findKey, run_underlying Tryd.underlying9, hf, zeroPk, Result.andThen]
  | some r =>
    rw [hl] at hf
    simp [Instr.lookup, run_underlying Tryd.underlying60, getMap hM, chk, Instr.findKey, run_underlying Tryd.underlying9, hf, Result.andThen]
theorem wpList_look_some (hg : o.guard = none) (m x : Operand) (hop : o.op = Op.lookup 60 m x true) (hm : a.eval m = .map (some M)) (hx : a.eval x = .string id)
    (hM : w.heap[M]? = some (.map (l.map DE.ent).toArray clock)) {j : Nat} {y : DE} (hl : look id l 0 = some (j, y))
    (hK : wpList Tryd.prog ops Q rest (a.put o.dst (.tuple #[.pointer (some ⟨y.f, 0, none⟩), .bool true])) w) : wpList Tryd.prog ops Q (o :: rest) a w := by
  refine wpList_plain hg fun K' hK' => ?_
  have hrun := run_look (id := id) hM true
  rw [hl] at hrun
  unfold Oper.wp
  simp [execOp, hop, hm, hx, hrun, Result.andThen]
  exact hK' _ _ hK
theorem wpList_look_none (hg : o.guard = none) (m x : Operand) (hop : o.op = Op.lookup 60 m x true) (hm : a.eval m = .map (some M)) (hx : a.eval x = .string id)
    (hM : w.heap[M]? = some (.map (l.map DE.ent).toArray clock)) (hl : look id l 0 = none)
    (hK : wpList Tryd.prog ops Q rest (a.put o.dst (.tuple #[.pointer none, .bool false])) w) : wpList Tryd.prog ops Q (o :: rest) a w := by
  refine wpList_plain hg fun K' hK' => ?_
  have hrun := run_look (id := id) hM true
  rw [hl] at hrun
  unfold Oper.wp
  simp [execOp, hop, hm, hx, hrun, Result.andThen]
  exact hK' _ _ hK
theorem wpList_look1 (hg : o.guard = none) (m x : Operand) (hop : o.op = Op.lookup 60 m x false) (hm : a.eval m = .map (some M)) (hx : a.eval x = .string id)
    (hM : w.heap[M]? = some (.map (l.map DE.ent).toArray clock)) {j : Nat} {y : DE} (hl : look id l 0 = some (j, y))
    (hK : wpList Tryd.prog ops Q rest (a.put o.dst (.pointer (some ⟨y.f, 0, none⟩))) w) : wpList Tryd.prog ops Q (o :: rest) a w := by
  refine wpList_plain hg fun K' hK' => ?_
  have hrun := run_look (id := id) hM false
  rw [hl] at hrun
  unfold Oper.wp
  simp [execOp, hop, hm, hx, hrun, Result.andThen]
  exact hK' _ _ hK
theorem wpList_maplen (hg : o.guard = none) (m : Operand) (hop : o.op = Op.call { callee := Callee.builtin Builtin.len, args := #[m], argTypes := #[60] }) (hm : a.eval m = .map (some M))
    (hM : w.heap[M]? = some (.map (l.map DE.ent).toArray clock)) (hK : wpList Tryd.prog ops Q rest (a.put o.dst (.int .i64 l.length)) w) : wpList Tryd.prog ops Q (o :: rest) a w := by
  refine wpList_plain hg fun K' hK' => ?_
  have hrun : (Builtin.len_ #[60] o.type #[.map (some M)]).run Tryd.prog w = .ok (.int .i64 l.length) w := by
    simp [Builtin.len_, run_underlying Tryd.underlying60, getMap hM, goInt, Result.andThen]
  unfold Oper.wp
  simp [execOp, hop, resolve, invoke, builtin, hm, hrun, Result.andThen]
  exact hK' _ _ hK
/-- A new entry. -/
theorem run_put (hM : w.heap[M]? = some (.map (l.map DE.ent).toArray clock)) {y : DE} (hl : look y.nm l 0 = none) (hy : y.born = clock) :
    ∃ w1, (Instr.mapUpdate 60 (.map (some M)) (.string y.nm) y.val).run Tryd.prog w = .ok () w1 ∧ MapTo w w1 M ((l ++ [y]).map DE.ent).toArray (clock + 1) := by
  obtain ⟨w1, h1, h2⟩ := setMap (P := Tryd.prog) (es' := ((l ++ [y]).map DE.ent).toArray) (clock' := clock + 1) hM
  refine ⟨w1, ?_, h2⟩
  have hf := find_look y.nm l 0
  rw [hl] at hf
  have he : (l.map DE.ent).toArray.push { key := .string y.nm, val := y.val, born := clock } = ((l ++ [y]).map DE.ent).toArray := by
    subst hy; simp [DE.ent]
  simp only [Instr.mapUpdate, Sem.run_bind, run_underlying Tryd.underlying60, getMap hM, chk, Instr.findKey, run_underlying Tryd.underlying9, hf, Result.andThen, Option.map_none, Sem.run_pure, he, h1]
/-- Another value at a key. -/
theorem run_set (hM : w.heap[M]? = some (.map (l.map DE.ent).toArray clock)) {j : Nat} {x y : DE} (hl : look y.nm l 0 = some (j, x)) (hy : y.born = x.born) :
    ∃ w1, (Instr.mapUpdate 60 (.map (some M)) (.string y.nm) y.val).run Tryd.prog w = .ok () w1 ∧ MapTo w w1 M ((l.set j y).map DE.ent).toArray clock := by
  obtain ⟨w1, h1, h2⟩ := setMap (P := Tryd.prog) (es' := ((l.set j y).map DE.ent).toArray) (clock' := clock) hM
  refine ⟨w1, ?_, h2⟩
  have hf := find_look y.nm l 0
  rw [hl] at hf
  obtain ⟨_, hj, hid⟩ := look_spec _ _ _ _ _ hl
  simp only [Nat.sub_zero] at hj
  have he : (l.map DE.ent).toArray.modify j (fun e => { e with key := .string y.nm, val := y.val }) = ((l.set j y).map DE.ent).toArray := by
    apply Array.toList_inj.1
    simp only [Array.toList_modify, List.map_set]
    apply List.ext_getElem? ; intro k
    rw [List.getElem?_modify, List.getElem?_set]
    by_cases hk : j = k
    · subst hk
      have hlt := (List.getElem?_eq_some_iff.1 hj).1
      have hje := (List.getElem?_eq_some_iff.1 hj).2
      simp [hlt, DE.ent, hy, hje]
    · simp [hk]
  have hkey : ((l.map DE.ent).toArray[j]?).map (·.key) = some (.string y.nm) := by simp [hj, DE.ent, hid]
  simp only [Instr.mapUpdate, Sem.run_bind, run_underlying Tryd.underlying60, getMap hM, chk, Instr.findKey, run_underlying Tryd.underlying9, hf, Result.andThen, Option.map_some, Sem.run_pure, hkey, Option.getD_some]
  have hsb : ∀ q, Instr.sameBits q (.string y.nm) (.string y.nm) = true := fun q => by cases q <;> simp [Instr.sameBits, ba_beq]
  have hst : (Instr.keyThatStays (.string y.nm) (.string y.nm)).run Tryd.prog w = .ok (.string y.nm) w := by
    simp [Instr.keyThatStays, hsb]
  rw [hst]
  simp only [Result.andThen, he, h1]
theorem run_del (hM : w.heap[M]? = some (.map (l.map DE.ent).toArray clock)) {j : Nat} {x : DE} (hl : look id l 0 = some (j, x)) (ty : TypeId) :
    ∃ w1, (Builtin.delete_ #[60, 9] ty #[.map (some M), .string id]).run Tryd.prog w = .ok (.tuple #[]) w1 ∧ MapTo w w1 M ((l.eraseIdx j).map DE.ent).toArray clock := by
  obtain ⟨w1, h1, h2⟩ := setMap (P := Tryd.prog) (es' := ((l.eraseIdx j).map DE.ent).toArray) (clock' := clock) hM
  refine ⟨w1, ?_, h2⟩
  have hf := find_look id l 0
  rw [hl] at hf
  obtain ⟨_, hj, _⟩ := look_spec _ _ _ _ _ hl
  simp only [Nat.sub_zero] at hj
  have hlt := (List.getElem?_eq_some_iff.1 hj).1
  have he : (l.map DE.ent).toArray.eraseIdxIfInBounds j = ((l.eraseIdx j).map DE.ent).toArray := by
    apply Array.toList_inj.1
    simp only [Array.eraseIdxIfInBounds, List.size_toArray, List.length_map, hlt, dif_pos, Array.toList_eraseIdx]
    exact map_erase _ _ _
  simp [Builtin.delete_, run_underlying Tryd.underlying60, getMap hM, chk, Instr.findKey, run_underlying Tryd.underlying9, hf, Result.andThen, map_erase, h1]
theorem wpList_put (hg : o.guard = none) (m k v : Operand) (hop : o.op = Op.mapUpdate 60 m k v) {y : DE} (hm : a.eval m = .map (some M)) (hk : a.eval k = .string y.nm) (hv : a.eval v = y.val)
    (hM : w.heap[M]? = some (.map (l.map DE.ent).toArray clock)) (hl : look y.nm l 0 = none) (hy : y.born = clock)
    (hK : ∀ w1, MapTo w w1 M ((l ++ [y]).map DE.ent).toArray (clock + 1) → wpList Tryd.prog ops Q rest (a.put o.dst undef) w1) : wpList Tryd.prog ops Q (o :: rest) a w := by
  refine wpList_plain hg fun K' hK' => ?_
  obtain ⟨w1, hrun, hm1⟩ := run_put hM hl hy
  unfold Oper.wp
  simp [execOp, hop, hm, hk, hv, hrun, Result.andThen]
  exact hK' _ _ (hK w1 hm1)
theorem wpList_set (hg : o.guard = none) (m k v : Operand) (hop : o.op = Op.mapUpdate 60 m k v) {j : Nat} {x y : DE} (hm : a.eval m = .map (some M)) (hk : a.eval k = .string y.nm) (hv : a.eval v = y.val)
    (hM : w.heap[M]? = some (.map (l.map DE.ent).toArray clock)) (hl : look y.nm l 0 = some (j, x)) (hy : y.born = x.born)
    (hK : ∀ w1, MapTo w w1 M ((l.set j y).map DE.ent).toArray clock → wpList Tryd.prog ops Q rest (a.put o.dst undef) w1) : wpList Tryd.prog ops Q (o :: rest) a w := by
  refine wpList_plain hg fun K' hK' => ?_
  obtain ⟨w1, hrun, hm1⟩ := run_set hM hl hy
  unfold Oper.wp
  simp [execOp, hop, hm, hk, hv, hrun, Result.andThen]
  exact hK' _ _ (hK w1 hm1)
theorem wpList_del (hg : o.guard = none) (m k : Operand) (hop : o.op = Op.call { callee := Callee.builtin Builtin.delete, args := #[m, k], argTypes := #[60, 9] }) (hm : a.eval m = .map (some M)) (hk : a.eval k = .string id)
    (hM : w.heap[M]? = some (.map (l.map DE.ent).toArray clock)) {j : Nat} {x : DE} (hl : look id l 0 = some (j, x))
    (hK : ∀ w1, MapTo w w1 M ((l.eraseIdx j).map DE.ent).toArray clock → wpList Tryd.prog ops Q rest (a.put o.dst (.tuple #[])) w1) : wpList Tryd.prog ops Q (o :: rest) a w := by
  refine wpList_plain hg fun K' hK' => ?_
  obtain ⟨w1, hrun, hm1⟩ := run_del hM hl o.type
  unfold Oper.wp
  simp [execOp, hop, resolve, invoke, builtin, hm, hk, hrun, Result.andThen]
  exact hK' _ _ (hK w1 hm1)
end
end Go.Proofs.YtekajggjoeimoaaDoor
