/- The disk: a directory's turn: a name that comes. -/
import Derived.Test.YtekajggjoeimoaaDoorDj
set_option linter.unusedVariables false
namespace Go.Proofs.YtekajggjoeimoaaDoor
open Go.RowKit
theorem setSame {P : Program} {w : World} {r : Nat} {o : Obj} (h : w.heap[r]? = some o) (h2 : ∃ es c, o = .map es c) : (setObj r o).run P w = .ok () w := by
  obtain ⟨es, c, rfl⟩ := h2
  have e : w.heap.setIfInBounds r (.map es c) = w.heap := by
    apply Array.ext_getElem?
    intro k
    by_cases hk : r = k
    · subst hk; rw [Array.getElem?_setIfInBounds_self_of_lt (Array.getElem?_eq_some_iff.1 h).1, h]
    · rw [Array.getElem?_setIfInBounds_ne hk]
  have h3 : (setObj r (.map es c)).run P w = .ok () { w with heap := w.heap.setIfInBounds r (.map es c) } := by simp [setObj, Sem.run, h]
  rw [h3, e]
section
variable {w : World} {ops : Array Oper} {rest : List Oper} {o : Oper} {a : Act} {Q : Exit → Act → World → Prop} {M : Nat} {id : ByteArray} {l : List DE} {clock : Nat}
theorem run_del_none (hM : w.heap[M]? = some (.map (l.map DE.ent).toArray clock)) (hl : look id l 0 = none) (ty : TypeId) :
    (Builtin.delete_ #[60, 9] ty #[.map (some M), .string id]).run Tryd.prog w = .ok (.tuple #[]) w := by
  have hf := find_look id l 0
  rw [hl] at hf
  simp [Builtin.delete_, run_underlying Tryd.underlying60, getMap hM, chk, Instr.findKey, run_underlying Tryd.underlying9, hf, Result.andThen, setSame hM ⟨_, _, rfl⟩]
theorem wpList_del_none (hg : o.guard = none) (m k : Operand) (hop : o.op = Op.call { callee := Callee.builtin Builtin.delete, args := #[m, k], argTypes := #[60, 9] }) (hm : a.eval m = .map (some M)) (hk : a.eval k = .string id)
    (hM : w.heap[M]? = some (.map (l.map DE.ent).toArray clock)) (hl : look id l 0 = none)
    (hK : wpList Tryd.prog ops Q rest (a.put o.dst (.tuple #[])) w) : wpList Tryd.prog ops Q (o :: rest) a w := by
  refine wpList_plain hg fun K' hK' => ?_
  have hrun := run_del_none hM hl o.type
  unfold Oper.wp
  simp [execOp, hop, resolve, invoke, builtin, hm, hk, hrun, Result.andThen]
  exact hK' _ _ hK
theorem wpList_look1_none (hg : o.guard = none) (m x : Operand) (hop : o.op = Op.lookup 60 m x false) (hm : a.eval m = .map (some M)) (hx : a.eval x = .string id)
    (hM : w.heap[M]? = some (.map (l.map DE.ent).toArray clock)) (hl : look id l 0 = none)
    (hK : wpList Tryd.prog ops Q rest (a.put o.dst (.pointer none)) w) : wpList Tryd.prog ops Q (o :: rest) a w := by
  refine wpList_plain hg fun K' hK' => ?_
  have hrun := run_look (id := id) hM false
  rw [hl] at hrun
  unfold Oper.wp
  simp [execOp, hop, hm, hx, hrun, Result.andThen]
  exact hK' _ _ hK
end
set_option maxHeartbeats 1000000 in
set_option maxRecDepth 100000 in
theorem dirturn_new {w : World} {M fb : Nat} {nm to : ByteArray} {l : List DE} {clock : Nat} (hM : w.heap[M]? = some (.map (l.map DE.ent).toArray clock)) (hl : look nm l 0 = none) :
    Calls Tryd.prog 39 #[.map (some M), .agg #[.string nm, .string to, .pointer (some ⟨fb, 0, none⟩)]] w fun e w' => e = .returned (.tuple #[]) ∧ MapTo (w.alloc (.cells #[.string nm, .string to, .pointer (some ⟨fb, 0, none⟩)] 81)) w' M ((l ++ [(⟨nm, fb, clock⟩ : DE)]).map DE.ent).toArray (clock + 1) := by
  have hlt := (Array.getElem?_eq_some_iff.1 hM).1
  have hM1 : (w.alloc (.cells #[.string nm, .string to, .pointer (some ⟨fb, 0, none⟩)] 81)).heap[M]? = some (.map (l.map DE.ent).toArray clock) := (Below.heap_alloc _ _ _ hlt).trans hM
  go_enter Tryd.func39, Tryd.ntmps39
  go_wp2_with (first
    | (at_lookup; refine wpList_look1_none rfl _ _ rfl rfl rfl hM1 hl ?_)
    | (at_mapUpdate; refine wpList_put (y := ⟨nm, fb, clock⟩) rfl _ _ _ rfl rfl rfl rfl hM1 hl rfl ?_; intro w9 hm9)
    | (at_delete; refine wpList_del_none rfl _ _ rfl rfl rfl hM1 hl ?_))
  go_end0
  exact ⟨rfl, hm9⟩
end Go.Proofs.YtekajggjoeimoaaDoor
