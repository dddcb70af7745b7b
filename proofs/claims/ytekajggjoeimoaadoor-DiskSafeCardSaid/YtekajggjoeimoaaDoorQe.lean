/- A directory's turn, walked. -/
import Derived.Test.YtekajggjoeimoaaDoorQd
set_option linter.unusedVariables false
namespace Go.Proofs.YtekajggjoeimoaaDoor
open Go.RowKit
def Cq.arr (c : Cq) : Array Value := #[.string c.nm, .string c.to, .pointer (c.f.map fun f => ⟨f, 0, none⟩)]
set_option maxHeartbeats 1000000 in
set_option maxRecDepth 100000 in
theorem dirturn_gone {w : World} {M : Nat} {nm : ByteArray} {l : List DE} {clock : Nat} {j : Nat} {x : DE} (hM : w.heap[M]? = some (.map (l.map DE.ent).toArray clock)) (hl : look nm l 0 = some (j, x)) :
    Calls Tryd.prog 39 #[.map (some M), .agg #[.string nm, .string ByteArray.empty, .pointer none]] w fun e w' => e = .returned (.tuple #[]) ∧ MapTo (w.alloc (.cells #[.string nm, .string ByteArray.empty, .pointer none] 81)) w' M ((l.eraseIdx j).map DE.ent).toArray clock := by
  have hlt := (Array.getElem?_eq_some_iff.1 hM).1
  have hM1 : (w.alloc (.cells #[.string nm, .string ByteArray.empty, .pointer none] 81)).heap[M]? = some (.map (l.map DE.ent).toArray clock) := (Below.heap_alloc _ _ _ hlt).trans hM
  go_enter Tryd.func39, Tryd.ntmps39
  go_wp2_with (first
    | (at_lookup; refine wpList_look1 rfl _ _ rfl rfl rfl hM1 hl ?_)
    | (at_delete; refine wpList_del rfl _ _ rfl rfl rfl hM1 hl ?_; intro w9 hm9; have q1 : w9.cell? ⟨w.heap.size, 1, none⟩ = some (.string ByteArray.empty) := (hm9.cell (by omega)).trans ((Blk.new w _ _).cell 1); have q2 : w9.cell? ⟨w.heap.size, 2, none⟩ = some (.pointer none) := (hm9.cell (by omega)).trans ((Blk.new w _ _).cell 2)))
  go_end0
  exact ⟨rfl, hm9⟩
set_option maxHeartbeats 1000000 in
set_option maxRecDepth 100000 in
theorem dirturn_moved_new {w : World} {M : Nat} {nm to : ByteArray} {l : List DE} {clock : Nat} {j : Nat} {x : DE} (hM : w.heap[M]? = some (.map (l.map DE.ent).toArray clock)) (hl : look nm l 0 = some (j, x)) (hto : to ≠ ByteArray.empty) (hl2 : look to (l.eraseIdx j) 0 = none) :
    Calls Tryd.prog 39 #[.map (some M), .agg #[.string nm, .string to, .pointer none]] w fun e w' => e = .returned (.tuple #[]) ∧ MapTo (w.alloc (.cells #[.string nm, .string to, .pointer none] 81)) w' M ((l.eraseIdx j ++ [(⟨to, x.f, clock⟩ : DE)]).map DE.ent).toArray (clock + 1) := by
  have hlt := (Array.getElem?_eq_some_iff.1 hM).1
  have hM1 : (w.alloc (.cells #[.string nm, .string to, .pointer none] 81)).heap[M]? = some (.map (l.map DE.ent).toArray clock) := (Below.heap_alloc _ _ _ hlt).trans hM
  have ht : (to == ByteArray.empty) = false := by rw [ba_beq]; exact decide_eq_false hto
  have ht' : (!to.toList.isEmpty) = true := by cases e : to.toList.isEmpty with | false => rfl | true => exact absurd ((toList_nil_iff_emptyBytes to).1 (List.isEmpty_iff.1 e)) hto
  go_enter Tryd.func39, Tryd.ntmps39
  go_wp2_with (first
    | (at_lookup; refine wpList_look1 rfl _ _ rfl rfl rfl hM1 hl ?_)
    | (at_mapUpdate; refine wpList_put (y := ⟨to, x.f, clock⟩) rfl _ _ _ rfl rfl rfl rfl hm9.map hl2 rfl ?_; intro w8 hm8)
    | (at_delete; refine wpList_del rfl _ _ rfl rfl rfl hM1 hl ?_; intro w9 hm9; have q1 : w9.cell? ⟨w.heap.size, 1, none⟩ = some (.string to) := (hm9.cell (by omega)).trans ((Blk.new w _ _).cell 1); have q2 : w9.cell? ⟨w.heap.size, 2, none⟩ = some (.pointer none) := (hm9.cell (by omega)).trans ((Blk.new w _ _).cell 2)))
  go_end0
  exact ⟨rfl, ⟨hm8.map, hm8.os.trans hm9.os, hm8.tape.trans hm9.tape, hm8.output.trans hm9.output, hm8.size.trans hm9.size, fun k hk => (hm8.block k hk).trans (hm9.block k hk)⟩⟩
set_option maxHeartbeats 1000000 in
set_option maxRecDepth 100000 in
theorem dirturn_moved_on {w : World} {M : Nat} {nm to : ByteArray} {l : List DE} {clock : Nat} {j i : Nat} {x y : DE} (hM : w.heap[M]? = some (.map (l.map DE.ent).toArray clock)) (hl : look nm l 0 = some (j, x)) (hto : to ≠ ByteArray.empty) (hl2 : look to (l.eraseIdx j) 0 = some (i, y)) :
    Calls Tryd.prog 39 #[.map (some M), .agg #[.string nm, .string to, .pointer none]] w fun e w' => e = .returned (.tuple #[]) ∧ MapTo (w.alloc (.cells #[.string nm, .string to, .pointer none] 81)) w' M (((l.eraseIdx j).set i ⟨to, x.f, y.born⟩).map DE.ent).toArray clock := by
  have hlt := (Array.getElem?_eq_some_iff.1 hM).1
  have hM1 : (w.alloc (.cells #[.string nm, .string to, .pointer none] 81)).heap[M]? = some (.map (l.map DE.ent).toArray clock) := (Below.heap_alloc _ _ _ hlt).trans hM
  have ht : (to == ByteArray.empty) = false := by rw [ba_beq]; exact decide_eq_false hto
  have ht' : (!to.toList.isEmpty) = true := by cases e : to.toList.isEmpty with | false => rfl | true => exact absurd ((toList_nil_iff_emptyBytes to).1 (List.isEmpty_iff.1 e)) hto
  go_enter Tryd.func39, Tryd.ntmps39
  go_wp2_with (first
    | (at_lookup; refine wpList_look1 rfl _ _ rfl rfl rfl hM1 hl ?_)
    | (at_mapUpdate; refine wpList_set (y := ⟨to, x.f, y.born⟩) rfl _ _ _ rfl rfl rfl rfl hm9.map hl2 rfl ?_; intro w8 hm8)
    | (at_delete; refine wpList_del rfl _ _ rfl rfl rfl hM1 hl ?_; intro w9 hm9; have q1 : w9.cell? ⟨w.heap.size, 1, none⟩ = some (.string to) := (hm9.cell (by omega)).trans ((Blk.new w _ _).cell 1); have q2 : w9.cell? ⟨w.heap.size, 2, none⟩ = some (.pointer none) := (hm9.cell (by omega)).trans ((Blk.new w _ _).cell 2)))
  go_end0
  exact ⟨rfl, ⟨hm8.map, hm8.os.trans hm9.os, hm8.tape.trans hm9.tape, hm8.output.trans hm9.output, hm8.size.trans hm9.size, fun k hk => (hm8.block k hk).trans (hm9.block k hk)⟩⟩
theorem dirturn_any {w : World} {M : Nat} {l : List DE} {clock : Nat} (hM : w.heap[M]? = some (.map (l.map DE.ent).toArray clock)) {c : Cq} (hc : okQ l c) (hg : c.f = none ∨ c.to = ByteArray.empty) :
    Calls Tryd.prog 39 #[.map (some M), .agg c.arr] w fun e w' => e = .returned (.tuple #[]) ∧ MapTo (w.alloc (.cells c.arr 81)) w' M ((turnQ l clock c).1.map DE.ent).toArray (turnQ l clock c).2 := by
  obtain ⟨nm, to, f⟩ := c
  unfold okQ at hc
  unfold turnQ Cq.arr
  cases f with
  | some g => exact dirturn_new hM (lkF_none hc)
  | none =>
    have hc' : (lkF nm l).isSome := hc
    cases e : lkF nm l with
    | none => rw [e] at hc'; cases hc'
    | some f =>
      obtain ⟨j, x, h1, h2, h3, h4⟩ := lkF_some e
      simp only [h1]
      by_cases ht : to = ByteArray.empty
      · rw [if_pos ht]
        subst ht
        exact dirturn_gone hM h1
      · rw [if_neg ht]
        cases hl2 : look to (l.eraseIdx j) 0 with
        | none => exact dirturn_moved_new hM h1 ht hl2
        | some r => exact dirturn_moved_on hM h1 ht hl2
end Go.Proofs.YtekajggjoeimoaaDoor
