/- The net's functions, walked: Deliver, Drop, Double. -/
import Derived.Test.YtlhmhalamfjhjaaNd
set_option linter.unusedVariables false
namespace Go.Proofs.Ytlhmhalamfjhjaa
open Go.RowKit

section
variable {w w' : World} {a M : Nat} {next : Int} {l : List PkA} {clock : Nat}
theorem mem_erase {α : Type} {x : α} : ∀ {l : List α} {j : Nat}, x ∈ l.eraseIdx j → x ∈ l
  | [], _, h => by simp at h
  | y :: l, 0, h => List.mem_cons_of_mem _ (by simpa using h)
  | y :: l, j + 1, h => by
    rcases List.mem_cons.1 (by simpa using h) with rfl | h
    · simp
    · exact List.mem_cons_of_mem _ (mem_erase h)
theorem pairwise_erase {α : Type} {R : α → α → Prop} : ∀ {l : List α} (j : Nat), l.Pairwise R → (l.eraseIdx j).Pairwise R
  | [], _, h => by simp
  | y :: l, 0, h => by simpa using (List.pairwise_cons.1 h).2
  | y :: l, j + 1, h => by
    obtain ⟨h1, h2⟩ := List.pairwise_cons.1 h
    simp only [List.eraseIdx_cons_succ]
    exact List.pairwise_cons.2 ⟨fun z hz => h1 z (mem_erase hz), pairwise_erase j h2⟩
/-- Behind a turn of the map. -/
theorem NetAt.turned (h : NetAt w a M next l clock) {X : Nat → Prop} {W w1 : World} {l' : List PkA} {clock' : Nat} (hf : Fr (fun k => k = M) w W) (hM : M < w.heap.size) (hm : MapTo W w1 M (l'.map PkA.ent).toArray clock')
    (hr : ∀ x ∈ l', x ∈ l ∨ Row w1 x.A x.c x.p.b) (hi : ∀ x ∈ l', 0 ≤ x.p.id ∧ x.p.id < next) (hs : l'.Pairwise (·.p.id < ·.p.id)) (hb : (∀ x ∈ l', x.born < clock') ∧ l'.Pairwise (·.born < ·.born)) : NetAt w1 a M next l' clock' ∧ Fr (fun k => k = M) w w1 := by
  have hf1 := hm.frX hf (.inr rfl)
  have k8 : Keep8 w w1 := Keep8.of_fr hf1 (fun k cs fz e => by subst e; exact h.not8 _ cs fz (.inr rfl))
  refine ⟨⟨hf1.heap h.blk (Ne.symm h.ne), hm.map, fun x hx => ?_, hi, hs, hb, h.pos⟩, hf1⟩
  rcases hr x hx with h1 | h1
  · exact (h.rows x h1).keep k8
  · exact h1

set_option maxHeartbeats 1000000 in
set_option maxRecDepth 100000 in
theorem Deliver_none (h : NetAt w a M next l clock) {id : Int} (hl : look id l 0 = none) :
    Calls Try.prog 14 #[.pointer (some ⟨a, 0, none⟩), .int .i64 id] w fun e w' => e = .returned (.tuple #[.int .i64 0, .slice none 0 0, .int .i64 7]) ∧ Below w.heap.size w w' := by
  go_enter Try.func14, Try.ntmps14
  go_wp2_with (go_at_call 28; refine (find_none h hl).mono ?_; rintro e w1 ⟨rfl, hb⟩)
  go_ret3
  exact ⟨rfl, hb.alloc hb.size _⟩
set_option maxHeartbeats 1000000 in
set_option maxRecDepth 100000 in
theorem Deliver_some (h : NetAt w a M next l clock) {id : Int} {j : Nat} {y : PkA} (hl : look id l 0 = some (j, y)) :
    Calls Try.prog 14 #[.pointer (some ⟨a, 0, none⟩), .int .i64 id] w fun e w' => e = .returned (.tuple #[.int .i64 y.p.to, .slice y.A y.p.b.length y.c, .int .i64 0]) ∧ NetAt w' a M next (l.eraseIdx j) clock ∧ Fr (fun k => k = M) w w' := by
  have hlt := h.lt
  go_enter Try.func14, Try.ntmps14
  go_wp2_with (first
    | (go_at_call 28; refine (find_some h hl).mono ?_; rintro e w1 ⟨rfl, hb⟩; have h1 := h.below hb; have c1 := h1.c1; have hl1 := h1.lt; have b1 := Blk.new w1 67 #[.int .i64 y.p.to, .slice y.A y.p.b.length y.c, .bool y.p.sp])
    | (at_delete; refine wpList_del rfl _ _ rfl rfl rfl ((Below.heap_alloc _ _ _ hl1.2).trans h1.map) hl ?_; intro w2 hm2; have b2 : Blk w2 _ 67 _ := (hm2.block _ (by omega)).trans b1; have e0 := b2.cell 0; have e1 := b2.cell 1))
  go_quiet (fail)
  go_wp2
  go_ret3
  obtain ⟨g1, g2⟩ := h.turned (X := fun _ => False) ((Fr.of_below hb).alloc _) hlt.2 hm2 (fun x hx => .inl (mem_erase hx)) (fun x hx => h.ids x (mem_erase hx)) (pairwise_erase j h.sorted) ⟨fun x hx => h.born.1 x (mem_erase hx), pairwise_erase j h.born.2⟩
  exact ⟨rfl, ⟨g1.blk, g1.map, g1.rows, g1.ids, g1.sorted, g1.born, g1.pos⟩, ⟨g2.os, g2.tape, g2.output, g2.size, g2.block⟩⟩
set_option maxHeartbeats 1000000 in
set_option maxRecDepth 100000 in
theorem Drop_none (h : NetAt w a M next l clock) {id : Int} (hl : look id l 0 = none) :
    Calls Try.prog 16 #[.pointer (some ⟨a, 0, none⟩), .int .i64 id] w fun e w' => e = .returned (.int .i64 7) ∧ Below w.heap.size w w' := by
  go_enter Try.func16, Try.ntmps16
  go_wp2_with (go_at_call 14; refine (Deliver_none h hl).mono ?_; rintro e w1 ⟨rfl, hb⟩)
  go_ret
  exact ⟨rfl, hb⟩
set_option maxHeartbeats 1000000 in
set_option maxRecDepth 100000 in
theorem Drop_some (h : NetAt w a M next l clock) {id : Int} {j : Nat} {y : PkA} (hl : look id l 0 = some (j, y)) :
    Calls Try.prog 16 #[.pointer (some ⟨a, 0, none⟩), .int .i64 id] w fun e w' => e = .returned (.int .i64 0) ∧ NetAt w' a M next (l.eraseIdx j) clock ∧ Fr (fun k => k = M) w w' := by
  go_enter Try.func16, Try.ntmps16
  go_wp2_with (go_at_call 14; refine (Deliver_some h hl).mono ?_; rintro e w1 ⟨rfl, hb⟩)
  go_ret
  exact ⟨rfl, hb⟩
set_option maxHeartbeats 1000000 in
set_option maxRecDepth 100000 in
theorem Double_none (h : NetAt w a M next l clock) {id : Int} (hl : look id l 0 = none) :
    Calls Try.prog 17 #[.pointer (some ⟨a, 0, none⟩), .int .i64 id] w fun e w' => e = .returned (.tuple #[.int .i64 0, .int .i64 7]) ∧ Below w.heap.size w w' := by
  go_enter Try.func17, Try.ntmps17
  go_wp2_with (go_at_call 28; refine (find_none h hl).mono ?_; rintro e w1 ⟨rfl, hb⟩)
  go_ret2
  exact ⟨rfl, hb.alloc hb.size _⟩
theorem NetAt.alloc (h : NetAt w a M next l clock) (o : Obj) : NetAt (w.alloc o) a M next l clock := h.below ((Below.refl _ _).alloc (Nat.le_refl _) _)
set_option maxHeartbeats 1000000 in
set_option maxRecDepth 100000 in
theorem Double_full (h : NetAt w a M next l clock) {id : Int} {j : Nat} {y : PkA} (hl : look id l 0 = some (j, y)) (hf : 64 ≤ l.length) :
    Calls Try.prog 17 #[.pointer (some ⟨a, 0, none⟩), .int .i64 id] w fun e w' => e = .returned (.tuple #[.int .i64 0, .int .i64 42]) ∧ Below w.heap.size w w' := by
  go_enter Try.func17, Try.ntmps17
  go_wp2_with (first
    | (go_at_call 28; refine (find_some h hl).mono ?_; rintro e w1 ⟨rfl, hb⟩)
    | (go_at_call 26; refine (put_full ((h.below hb).alloc _) hf _ _ _ _ _).mono ?_; rintro e w2 ⟨rfl, hb2⟩))
  go_ret2
  exact ⟨rfl, (hb.alloc hb.size _).trans (hb2.mono (by have := hb.size; simp; omega))⟩
set_option maxHeartbeats 1000000 in
set_option maxRecDepth 100000 in
theorem Double_ok (h : NetAt w a M next l clock) {id : Int} {j : Nat} {y : PkA} (hl : look id l 0 = some (j, y)) (hf : l.length < 64) (hn : next < 1000000) :
    Calls Try.prog 17 #[.pointer (some ⟨a, 0, none⟩), .int .i64 id] w fun e w' => e = .returned (.tuple #[.int .i64 next, .int .i64 0]) ∧ NetAt w' a M (next + 1) (l ++ [⟨⟨next, y.p.to, y.p.b, y.p.sp⟩, y.A, y.c, clock⟩]) (clock + 1) ∧ Fr (fun k => k = a ∨ k = M) w w' := by
  have hy : y ∈ l := List.mem_of_getElem? (look_spec _ _ _ _ _ hl).2.1
  go_enter Try.func17, Try.ntmps17
  go_wp2_with (first
    | (go_at_call 28; refine (find_some h hl).mono ?_; rintro e w1 ⟨rfl, hb⟩)
    | (go_at_call 26; refine (put_ok ((h.below hb).alloc _) hf hn _ _ _ _ _ (((h.below hb).alloc _).rows y hy)).mono ?_; rintro e w2 ⟨rfl, hnet, hf2⟩))
  go_ret2
  exact ⟨rfl, hnet, Fr.of_below' (hb.alloc hb.size _) hf2 (fun _ _ h => h)⟩
end
end Go.Proofs.Ytlhmhalamfjhjaa
