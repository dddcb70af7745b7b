/- (*disk.Disk).used at a directory of whatever entries, as a known function of the interpreter. -/
import Derived.Test.YtagieomloclohaaGreatDoorEvx
import Derived.WalkKit
import Derived.BigCall
import Derived.BigGuard
import Derived.BigFrame
import Derived.Lib.Hide
import Derived.Maps.RangeRun
import Derived.Laws.IdiomRangeMap
set_option linter.unusedVariables false
namespace Go.Proofs.YtagieomloclohaaGreatDoor
open Go.RowKit
open Go.ChangeMaps (setBlock)
def seenM (l : List MapEntry) (seen : Array Nat) : List MapEntry := l.filter fun x => seen.contains x.born
theorem seenM_other (seen : Array Nat) (b : Nat) : ∀ (l : List MapEntry), b ∉ l.map (·.born) → seenM l (seen.push b) = seenM l seen
  | [], _ => rfl
  | y :: l, h => by
    unfold seenM
    rw [List.filter_cons, List.filter_cons, contains_push]
    have h1 : (y.born == b) = false := by simp at h ⊢; exact fun e => h.1 e.symm
    rw [h1, Bool.or_false]
    have := seenM_other seen b l (fun hm => h (by simp at hm ⊢; exact .inr hm))
    unfold seenM at this
    rw [this]
theorem seenM_push (seen : Array Nat) (x : MapEntry) (hs : seen.contains x.born = false) : ∀ (l : List MapEntry), (l.map (·.born)).Nodup → x ∈ l → (seenM l (seen.push x.born)).Perm (x :: seenM l seen)
  | [], _, h => by cases h
  | y :: l, hn, h => by
    obtain ⟨h1, h2⟩ := List.nodup_cons.1 hn
    have e1 : ∀ s, seenM (y :: l) s = if s.contains y.born then y :: seenM l s else seenM l s := fun s => by
      unfold seenM; rw [List.filter_cons]
    rw [e1, e1, contains_push]
    rcases List.mem_cons.1 h with rfl | h
    · rw [hs]
      simp only [BEq.rfl, Bool.or_true, if_true, Bool.false_eq_true, if_false]
      rw [seenM_other seen _ l h1]
    · have hne : (y.born == x.born) = false := by
        rw [beq_eq_false_iff_ne]
        exact fun e => h1 (List.mem_map.2 ⟨x, h, e.symm⟩)
      rw [hne, Bool.or_false]
      have ih := seenM_push seen x hs l h2 h
      split
      · exact (ih.cons y).trans (List.Perm.swap x y _)
      · exact ih
theorem seenM_all (l : List MapEntry) (seen : Array Nat) (h : (leftOf l.toArray seen).size = 0) : seenM l seen = l := by
  unfold seenM
  rw [List.filter_eq_self]
  intro x hx
  exact all_seen _ _ h x (by simpa using hx)
def ItM (w : World) (r M : Nat) (l : List MapEntry) (ck : Nat) (seen : Array Nat) : Prop := w.heap[r]? = some (.mapIter (some M) ck seen ck) ∧ w.heap[M]? = some (.map l.toArray ck)
theorem setB_heap (w : World) (r : Nat) (o : Obj) (k : Nat) (h : k ≠ r) : (setBlock w r o).heap[k]? = w.heap[k]? := by
  unfold setBlock
  exact Array.getElem?_setIfInBounds_ne (Ne.symm h)
theorem setB_at (w : World) (r : Nat) (o : Obj) (h : r < w.heap.size) : (setBlock w r o).heap[r]? = some o := by
  unfold setBlock
  simp [h]
theorem itM_step {w : World} {r M : Nat} {l : List MapEntry} {ck : Nat} {seen : Array Nat} (h : ItM w r M l ck seen) (hold : ∀ x ∈ l, x.born < ck) (hnd : (l.map (·.born)).Nodup) :
    ((leftOf l.toArray seen).size = 0 ∧ ∀ ty, (Instr.next (.pointer (some ⟨r, 0, none⟩)) false ty).run Tryz.prog w = .ok (.tuple #[.bool false]) w) ∨
    ∃ x ∈ l, seen.contains x.born = false ∧ (leftOf l.toArray (seen.push x.born)).size < (leftOf l.toArray seen).size ∧ ∃ w1 : World, (∀ ty, (Instr.next (.pointer (some ⟨r, 0, none⟩)) false ty).run Tryz.prog w = .ok (.tuple #[.bool true, x.key, x.val]) w1) ∧
      (∀ W : World, ItM W r M l ck (seen.push x.born) → (Instr.entry (.pointer (some ⟨r, 0, none⟩))).run Tryz.prog W = .ok (.tuple #[x.key, x.val]) W) ∧ ItM w1 r M l ck (seen.push x.born) ∧ w1.os = w.os ∧ w1.tape = w.tape ∧ w1.output = w.output ∧ w1.heap.size = w.heap.size ∧ ∀ k, k ≠ r → w1.heap[k]? = w.heap[k]? := by
  obtain ⟨h1, h2⟩ := h
  have hlt := (Array.getElem?_eq_some_iff.1 h1).1
  have hne : M ≠ r := fun e => by subst e; rw [h1] at h2; cases h2
  have hold' : ∀ x ∈ l.toArray.toList, x.born < ck := by simpa using hold
  by_cases h0 : (leftOf l.toArray seen).size = 0
  · refine .inl ⟨h0, fun ty => ?_⟩
    rcases run_next_at (P := Tryz.prog) w ty r M ck ck seen _ ck h1 h2 hold' (Nat.le_refl _) with ⟨_, hr⟩ | ⟨e, he, _⟩
    · exact hr
    · exact absurd (Array.size_pos_of_mem (Array.mem_toList_iff.1 he)) (by omega)
  · rcases run_next_at (P := Tryz.prog) w 0 r M ck ck seen _ ck h1 h2 hold' (Nat.le_refl _) with ⟨h3, _⟩ | ⟨x, he, w1, hw1, hr⟩
    · exact absurd h3 h0
    · obtain ⟨hx, hs⟩ := mem_left he
      have hx' : x ∈ l := by simpa using hx
      refine .inr ⟨x, hx', hs, left_shrinks _ seen _ he, setBlock w1 r (.mapIter (some M) ck (seen.push x.born) ck), fun ty => hr, fun W hW => ?_, ?_, ?_⟩
      · exact run_entry_at (P := Tryz.prog) W r M ck seen _ ck x hW.1 hW.2 hx (by simpa using hnd)
      · rcases hw1 with rfl | rfl
        · exact ⟨setB_at _ _ _ hlt, (setB_heap _ _ _ _ hne).trans h2⟩
        · exact ⟨setB_at _ _ _ hlt, (setB_heap _ _ _ _ hne).trans h2⟩
      · rcases hw1 with rfl | rfl
        · exact ⟨rfl, rfl, rfl, by unfold setBlock; simp, fun k hk => setB_heap _ _ _ k hk⟩
        · exact ⟨rfl, rfl, rfl, by show (w.heap.setIfInBounds _ _).size = w.heap.size; simp, fun k hk => setB_heap _ _ _ k hk⟩
def sumM (g : MapEntry → Nat) (l : List MapEntry) : Nat := (l.map g).sum
theorem sumM_perm {g : MapEntry → Nat} {l m : List MapEntry} (h : l.Perm m) : sumM g l = sumM g m := (h.map _).sum_nat
theorem sumM_sub {g : MapEntry → Nat} {l : List MapEntry} (p : MapEntry → Bool) : sumM g (l.filter p) ≤ sumM g l := by
  induction l with
  | nil => simp [sumM]
  | cons x l ih =>
    rw [List.filter_cons]
    simp only [sumM, List.map_cons, List.sum_cons] at ih ⊢
    split
    · simp only [List.map_cons, List.sum_cons]; omega
    · omega
def UsM (g : MapEntry → Nat) (W : World) (r M : Nat) (l : List MapEntry) (ck : Nat) (n : Value) (wr : World) : Prop := ∃ seen, ItM wr r M l ck seen ∧ n = .int .i64 (sumM g (seenM l seen) : Nat) ∧ Below W.heap.size W wr
theorem seenOf {w : World} {r M : Nat} {l : List MapEntry} {ck : Nat} {seen : Array Nat} (h : ItM w r M l ck seen) : w.iterSeen r = seen := by
  unfold World.iterSeen; rw [h.1]
set_option maxHeartbeats 2000000 in
set_option maxRecDepth 100000 in
theorem used_map {w : World} {db dO M ck : Nat} {l : List MapEntry} {g : MapEntry → Nat} (c2 : w.cell? ⟨db, dO + 2, none⟩ = some (.map (some M))) (hm : w.heap[M]? = some (.map l.toArray ck)) (hold : ∀ x ∈ l, x.born < ck) (hnd : (l.map (·.born)).Nodup)
    (hv : ∀ x ∈ l, ∃ f o A c, x.val = .pointer (some ⟨f, o, none⟩) ∧ w.cell? ⟨f, o + 1, none⟩ = some (.slice A (g x) c)) (hs : sumM g l ≤ 1000000) :
    Calls Tryz.prog 80 #[.pointer (some ⟨db, dO, none⟩)] w fun e w' => e = .returned (.int .i64 (sumM g l : Nat)) ∧ Below w.heap.size w w' := by
  have hrg := run_range_map (P := Tryz.prog) w 71 _ _ M _ ck Tryz.underlying71 hm
  have hM := (Array.getElem?_eq_some_iff.1 hm).1
  go_enter Tryz.func80, Tryz.ntmps80
  go_wp2
  go_loopw [2] (fun n wr => UsM g w w.heap.size M l ck n wr) (fun _ wr => (leftOf l.toArray (wr.iterSeen w.heap.size)).size)
  case atStart =>
    refine ⟨#[], ⟨heap_alloc_new w _, (Below.heap_alloc _ _ _ hM).trans hm⟩, ?_, (Below.refl _ _).alloc (Nat.le_refl _) _⟩
    rw [show seenM l #[] = [] from List.filter_eq_nil_iff.2 (fun x _ => by simp)]; rfl
  case round =>
    obtain ⟨seen, hit, rfl, hB⟩ := hrel
    rcases itM_step hit hold hnd with ⟨h0, hnx⟩ | ⟨x, hx, hsn, hsm, w1, hnx, hen, hit1, ho, ht, hu, hsz, hbl⟩
    · have e0 := seenM_all l seen h0
      go_wp2
      go_ret
      exact ⟨by rw [e0]; rfl, hB⟩
    · have hB1 : Below w.heap.size w w1 := ⟨ho.trans hB.os, ht.trans hB.tape, hu.trans hB.output, by rw [hsz]; exact hB.size, fun k hk => (hbl k (by omega)).trans (hB.block k hk)⟩
      have hen1 := hen w1 hit1
      clear hen
      obtain ⟨f, o, A, c, hV, hc⟩ := hv x hx
      have k1 : w1.cell? ⟨f, o + 1, none⟩ = some (.slice A (g x) c) := (hB1.cell (p := ⟨f, o + 1, none⟩) (World.block_lt_of_cell? w _ hc)).trans hc
      have hp := sumM_perm (g := g) (seenM_push seen x hsn l hnd hx)
      have e1 : sumM g (x :: seenM l seen) = g x + sumM g (seenM l seen) := by simp [sumM]
      have h3 : sumM g (seenM l (seen.push x.born)) ≤ 1000000 := Nat.le_trans (sumM_sub _) hs
      rw [hV] at hnx hen1
      go_wp2
      go_roundw
      case rel => exact ⟨seen.push x.born, hit1, by rw [hp, e1]; go_num, hB1⟩
      case measure =>
        rw [seenOf hit1, seenOf hit]
        exact hsm
end Go.Proofs.YtagieomloclohaaGreatDoor
