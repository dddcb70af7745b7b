/- The net's functions, walked: put, find, Clone, New. -/
import Derived.Test.YtlhmhalamfjhjaaNb
import Derived.StillTailTactics
import Derived.Deep.QuietTactic
import Derived.BigQuiet
import Derived.Outline
set_option linter.unusedVariables false
namespace Go.Proofs.Ytlhmhalamfjhjaa
open Go.RowKit

/-- A net in memory. -/
structure NetAt (w : World) (a M : Nat) (next : Int) (l : List PkA) (clock : Nat) : Prop where
  blk : w.heap[a]? = some (.cells #[.int .i64 next, .map (some M)] 51 (0, 0))
  map : w.heap[M]? = some (.map (l.map PkA.ent).toArray clock)
  rows : ∀ x ∈ l, Row w x.A x.c x.p.b
  ids : ∀ x ∈ l, 0 ≤ x.p.id ∧ x.p.id < next
  sorted : l.Pairwise (·.p.id < ·.p.id)
  born : (∀ x ∈ l, x.born < clock) ∧ l.Pairwise (·.born < ·.born)
  pos : 0 ≤ next
section
variable {w w' : World} {a M : Nat} {next : Int} {l : List PkA} {clock : Nat}
theorem NetAt.ne (h : NetAt w a M next l clock) : M ≠ a := fun e => by
  have h1 := h.blk; have h2 := h.map; rw [e, h1] at h2; cases h2
theorem NetAt.lt (h : NetAt w a M next l clock) : a < w.heap.size ∧ M < w.heap.size := ⟨(Array.getElem?_eq_some_iff.1 h.blk).1, (Array.getElem?_eq_some_iff.1 h.map).1⟩
theorem NetAt.c0 (h : NetAt w a M next l clock) : w.cell? ⟨a, 0, none⟩ = some (.int .i64 next) := by rw [cell_of_row w a 0 _ _ _ h.blk]; rfl
theorem NetAt.c1 (h : NetAt w a M next l clock) : w.cell? ⟨a, 1, none⟩ = some (.map (some M)) := by rw [cell_of_row w a 1 _ _ _ h.blk]; rfl
theorem NetAt.f (h : NetAt w a M next l clock) (o : Nat) : w.frozen? ⟨a, o, none⟩ = false := by simp [World.frozen?, h.blk]
theorem NetAt.not8 (h : NetAt w a M next l clock) : ∀ (k : Nat) (cs : Array Value) (fz : Nat × Nat), (k = a ∨ k = M) → w.heap[k]? ≠ some (Obj.cells cs 5 fz) := by
  rintro k cs fz (rfl | rfl) e
  · rw [h.blk] at e; cases e
  · rw [h.map] at e; cases e
/-- A net that nothing has touched. -/
theorem NetAt.keep (h : NetAt w a M next l clock) {X : Nat → Prop} (hf : Fr X w w') (ha : ¬ X a) (hM : ¬ X M) (h8 : ∀ (k : Nat) (cs : Array Value) (fz : Nat × Nat), X k → w.heap[k]? ≠ some (Obj.cells cs 5 fz)) : NetAt w' a M next l clock :=
  ⟨hf.heap h.blk ha, hf.heap h.map hM, fun x hx => (h.rows x hx).keep (Keep8.of_fr hf h8), h.ids, h.sorted, h.born, h.pos⟩
theorem NetAt.below (h : NetAt w a M next l clock) (hb : Below w.heap.size w w') : NetAt w' a M next l clock :=
  h.keep (Fr.of_below (X := fun _ => False) hb) id id (fun _ _ _ h => h.elim)
theorem look_fresh {id : Int} : ∀ {l : List PkA} (i : Nat), (∀ x ∈ l, x.p.id < id) → look id l i = none
  | [], _, _ => rfl
  | x :: l, i, h => by
    unfold look
    rw [if_neg (by have := h x (by simp); omega)]
    exact look_fresh (i + 1) (fun y hy => h y (by simp [hy]))
end

set_option maxHeartbeats 1000000 in
set_option maxRecDepth 100000 in
theorem put_full {w : World} {a M : Nat} {next : Int} {l : List PkA} {clock : Nat} (h : NetAt w a M next l clock) (hl : 64 ≤ l.length) (to : Int) (A : Option Addr) (n c : Nat) (sp : Bool) :
    Calls Try.prog 26 #[.pointer (some ⟨a, 0, none⟩), .agg #[.int .i64 to, .slice A n c, .bool sp]] w fun e w' => e = .returned (.tuple #[.int .i64 0, .int .i64 42]) ∧ Below w.heap.size w w' := by
  have c1 := h.c1
  have d1 : decide ((64 : Int) ≤ l.length) = true := by simp; omega
  have hM := h.map
  have hlt := h.lt
  go_enter Try.func26, Try.ntmps26
  go_wp2_with (at_len; refine wpList_maplen rfl _ rfl rfl ((Below.heap_alloc _ _ _ hlt.2).trans hM) ?_)
  go_ret2
  exact ⟨rfl, (Below.refl _ _).alloc (Nat.le_refl _) _⟩
set_option maxHeartbeats 1000000 in
set_option maxRecDepth 100000 in
theorem put_ok {w : World} {a M : Nat} {next : Int} {l : List PkA} {clock : Nat} (h : NetAt w a M next l clock) (hl : l.length < 64) (hn : next < 1000000) (to : Int) (A : Option Addr) (b : List Int) (c : Nat) (sp : Bool) (hr : Row w A c b) :
    Calls Try.prog 26 #[.pointer (some ⟨a, 0, none⟩), .agg #[.int .i64 to, .slice A b.length c, .bool sp]] w fun e w' => e = .returned (.tuple #[.int .i64 next, .int .i64 0]) ∧
      NetAt w' a M (next + 1) (l ++ [⟨⟨next, to, b, sp⟩, A, c, clock⟩]) (clock + 1) ∧ Fr (fun k => k = a ∨ k = M) w w' := by
  have c0 := h.c0
  have c1 := h.c1
  have f0 := h.f 0
  have d1 : decide ((64 : Int) ≤ l.length) = false := by simp; omega
  have hM := h.map
  have hlt := h.lt
  have hne := h.ne
  have hp := h.pos
  have hq : next ≤ 1000000 := by omega
  go_enter Try.func26, Try.ntmps26
  go_wp2_with (at_len; refine wpList_maplen rfl _ rfl rfl ((Below.heap_alloc _ _ _ hlt.2).trans hM) ?_)
  have b0 : Blk ((w.setCell ⟨a, 0, none⟩ (.int .i64 (next + 1))).alloc (.cells #[.int .i64 to, .slice A b.length c, .bool sp] 67)) a 51 #[.int .i64 (next + 1), .map (some M)] := ((show Blk w a 51 _ from h.blk).set_ 0 _).alloc _
  have b1 := Blk.new (w.setCell ⟨a, 0, none⟩ (.int .i64 (next + 1))) 67 #[.int .i64 to, .slice A b.length c, .bool sp]
  have hM1 : ((w.setCell ⟨a, 0, none⟩ (.int .i64 (next + 1))).alloc (.cells #[.int .i64 to, .slice A b.length c, .bool sp] 67)).heap[M]? = some (.map (l.map PkA.ent).toArray clock) := (Below.heap_alloc _ _ _ (by simp [World.setCell]; exact hlt.2)).trans ((Below.heap_setCell w _ _ M hne).trans hM)
  have hF : Fr (fun k => k = a ∨ k = M) w ((w.setCell ⟨a, 0, none⟩ (.int .i64 (next + 1))).alloc (.cells #[.int .i64 to, .slice A b.length c, .bool sp] 67)) := ((Fr.refl _ w).setCell (.inr (.inl rfl)) _).alloc _
  rw [show (w.setCell ⟨a, 0, none⟩ (.int .i64 (next + 1))).heap.size = w.heap.size by simp [World.setCell]] at b1
  generalize ((w.setCell ⟨a, 0, none⟩ (.int .i64 (next + 1))).alloc (.cells #[.int .i64 to, .slice A b.length c, .bool sp] 67)) = W at b0 b1 hM1 hF ⊢
  have b0 := b0.drew
  have b1 := b1.drew
  have hM1 : W.drew.heap[M]? = some (.map (l.map PkA.ent).toArray clock) := hM1
  have hF := hF.drew
  refine wp_region_tail 6 (by kernel_rfl) (by kernel_rfl) ?_
  generalize W.drew = W2 at b0 b1 hM1 hF ⊢
  have e1 : W2.cell? ⟨a, 1, none⟩ = some (.map (some M)) := b0.cell 1
  have g0 : W2.cell? ⟨w.heap.size, 0, none⟩ = some (.int .i64 to) := b1.cell 0
  have g1 : W2.cell? ⟨w.heap.size, 1, none⟩ = some (.slice A b.length c) := b1.cell 1
  have g2 : W2.cell? ⟨w.heap.size, 2, none⟩ = some (.bool sp) := b1.cell 2
  simp only [List.take_succ_cons, List.take_zero, List.drop_succ_cons, List.drop_zero]
  repeat still_step
  refine wpStill_nil ?_
  go_wp2_with (at_mapUpdate; refine wpList_put (y := ⟨⟨next, to, b, sp⟩, A, c, clock⟩) rfl _ _ _ rfl rfl rfl rfl hM1 (look_fresh 0 (fun x hx => (h.ids x hx).2)) rfl ?_; intro w1 hm1)
  go_ret2
  refine ⟨rfl, ⟨?_, hm1.map, ?_, ?_, ?_, ?_, by omega⟩, hm1.frX hF (.inr (.inr rfl))⟩
  · exact (hm1.block a (fun e => hne e.symm)).trans b0
  · intro x hx
    have k8 : Keep8 w w1 := Keep8.of_fr (hm1.frX hF (.inr (.inr rfl))) h.not8
    rcases List.mem_append.1 hx with hx | hx
    · exact (h.rows x hx).keep k8
    · obtain rfl := List.mem_singleton.1 hx
      exact hr.keep k8
  · intro x hx
    rcases List.mem_append.1 hx with hx | hx
    · have := h.ids x hx; omega
    · obtain rfl := List.mem_singleton.1 hx
      exact ⟨hp, by show next < next + 1; omega⟩
  · refine List.pairwise_append.2 ⟨h.sorted, List.pairwise_singleton _ _, fun x hx y hy => ?_⟩
    obtain rfl := List.mem_singleton.1 hy
    exact (h.ids x hx).2
  · refine ⟨fun x hx => ?_, List.pairwise_append.2 ⟨h.born.2, List.pairwise_singleton _ _, fun x hx y hy => ?_⟩⟩
    · rcases List.mem_append.1 hx with hx | hx
      · have := h.born.1 x hx; omega
      · obtain rfl := List.mem_singleton.1 hx
        exact Nat.lt_succ_self _
    · obtain rfl := List.mem_singleton.1 hy
      exact h.born.1 x hx
end Go.Proofs.Ytlhmhalamfjhjaa
