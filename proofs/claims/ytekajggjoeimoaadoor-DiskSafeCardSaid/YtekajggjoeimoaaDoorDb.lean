/- The disk's New, Arm, refuses, fault, SyncDir, walked. -/
import Derived.Test.YtekajggjoeimoaaDoorDa
import Derived.WalkKit
set_option linter.unusedVariables false
namespace Go.Proofs.YtekajggjoeimoaaDoor
open Go.RowKit
open Da
/-- A disk's cells. -/
def dcells (room : Int) (sf nw ch wr : Value) (armed : Bool) (after code : Int) : Array Value := #[.int .i64 room, sf, nw, ch, wr, .bool armed, .int .i64 after, .int .i64 code]
set_option maxHeartbeats 1000000 in
set_option maxRecDepth 100000 in
theorem New_any (w : World) : Calls Tryd.prog 6 #[.int .i64 16] w fun e w' => e = .returned (.tuple #[.pointer (some ⟨w.heap.size + 2, 0, none⟩), .nilIface]) ∧
    (∃ M1 M2, w.heap.size ≤ M2 ∧ w'.heap[M2]? = some (.map #[] 0) ∧ Blk w' (w.heap.size + 2) 64 (dcells 16 (.map (some M1)) (.map (some M2)) (.slice none 0 0) (.slice none 0 0) false 0 0)) ∧ Below w.heap.size w w' := by
  have hmm := @run_makeMap Tryd.prog
  go_enter Tryd.func6, Tryd.ntmps6
  go_wp2
  go_ret2
  refine ⟨rfl, ⟨w.heap.size, w.heap.size + 1, by omega, ?_, ?_⟩, (((Below.refl _ _).alloc (Nat.le_refl _) _).alloc (by simp) _).alloc (by simp; omega) _⟩
  · have h1 := heap_alloc_new (w.alloc (.map #[] 0)) (.map #[] 0)
    have e : (w.alloc (.map #[] 0)).heap.size = w.heap.size + 1 := by simp
    rw [e] at h1
    exact (Below.heap_alloc _ _ _ (by simp)).trans h1
  · have := Blk.new ((w.alloc (.map #[] 0)).alloc (.map #[] 0)) 64 #[.int .i64 16, .map (some w.heap.size), .map (some (w.heap.size + 1)), .slice none 0 0, .slice none 0 0, .bool false, .int .i64 0, .int .i64 0]
    have e : ((w.alloc (.map #[] 0)).alloc (.map #[] 0)).heap.size = w.heap.size + 2 := by simp
    rw [e] at this
    exact this
section
variable {w : World} {db : Nat} {room after code : Int} {sf nw ch wrs : Value}
set_option maxHeartbeats 1000000 in
set_option maxRecDepth 100000 in
theorem refuses_off (h : Blk w db 64 (dcells room sf nw ch wrs false after code)) :
    Calls Tryd.prog 26 #[.pointer (some ⟨db, 0, none⟩)] w fun e w' => e = .returned (.int .i64 0) ∧ w = w' := by
  have c5 : w.cell? ⟨db, 5, none⟩ = some (.bool false) := h.cell 5
  go_enter Tryd.func26, Tryd.ntmps26
  go_wp2
  go_ret
  exact ⟨rfl, rfl⟩
set_option maxHeartbeats 1000000 in
set_option maxRecDepth 100000 in
theorem refuses_on (h : Blk w db 64 (dcells room sf nw ch wrs true after code)) (ha : 0 < after) (ha2 : after ≤ 100) :
    Calls Tryd.prog 26 #[.pointer (some ⟨db, 0, none⟩)] w fun e w' => e = .returned (.int .i64 0) ∧ w' = w.setCell ⟨db, 6, none⟩ (.int .i64 (after - 1)) := by
  have c5 : w.cell? ⟨db, 5, none⟩ = some (.bool true) := h.cell 5
  have c6 : w.cell? ⟨db, 6, none⟩ = some (.int .i64 after) := h.cell 6
  have f6 := h.frozen 6
  have d1 : decide (0 < after) = true := by simpa using ha
  go_enter Tryd.func26, Tryd.ntmps26
  go_wp2
  go_ret
  exact ⟨rfl, rfl⟩
set_option maxHeartbeats 1000000 in
set_option maxRecDepth 100000 in
theorem refuses_now (h : Blk w db 64 (dcells room sf nw ch wrs true 0 code)) :
    Calls Tryd.prog 26 #[.pointer (some ⟨db, 0, none⟩)] w fun e w' => e = .returned (.int .i64 code) ∧ w' = w.setCell ⟨db, 5, none⟩ (.bool false) := by
  have c5 : w.cell? ⟨db, 5, none⟩ = some (.bool true) := h.cell 5
  have c6 : w.cell? ⟨db, 6, none⟩ = some (.int .i64 0) := h.cell 6
  have c7 : (w.setCell ⟨db, 5, none⟩ (.bool false)).cell? ⟨db, 7, none⟩ = some (.int .i64 code) := (h.set_ 5 (.bool false)).cell 7
  have f5 := h.frozen 5
  go_enter Tryd.func26, Tryd.ntmps26
  go_wp2
  go_ret
  exact ⟨rfl, rfl⟩
end
set_option maxHeartbeats 1000000 in
set_option maxRecDepth 100000 in
theorem fault_ok (w : World) (op nm : ByteArray) : Calls Tryd.prog 23 #[.string op, .string nm, .int .i64 0] w fun e w' => e = .returned .nilIface ∧ w = w' := by
  go_enter Tryd.func23, Tryd.ntmps23
  go_wp2
  go_ret
  exact ⟨rfl, rfl⟩
set_option maxHeartbeats 1000000 in
set_option maxRecDepth 100000 in
theorem fault_err (w : World) (op nm : ByteArray) (k : Int) (hk : (k == 0) = false) : Calls Tryd.prog 23 #[.string op, .string nm, .int .i64 k] w fun e w' => e = .returned (.iface 69 (.pointer (some ⟨w.heap.size, 0, none⟩))) ∧ w' = w.alloc (.cells #[.string op, .string nm, .iface 29 (.int .i64 k)] 73) := by
  go_enter Tryd.func23, Tryd.ntmps23
  go_wp2
  go_ret
  exact ⟨rfl, rfl⟩
set_option maxHeartbeats 1000000 in
set_option maxRecDepth 100000 in
theorem told_nil (w : World) (op nm : ByteArray) : Calls Tryd.prog 10 #[.nilIface, .string op, .string nm] w fun e w' => e = .returned (.int .i64 0) ∧ w = w' := by
  go_enter Tryd.func10, Tryd.ntmps10
  go_wp2
  go_ret
  exact ⟨rfl, rfl⟩
/-- A disk without names, in memory. -/
def DiskAt (B : Nat) (w : World) (db : Nat) (armed : Bool) (after code : Int) : Prop :=
  B ≤ db ∧ ∃ M room sf ch wrs, B ≤ M ∧ w.heap[M]? = some (.map #[] 0) ∧ Blk w db 64 (dcells room sf (.map (some M)) ch wrs armed after code)
section
variable {w : World} {B db M : Nat} {room after code after' code' : Int} {armed armed' : Bool} {sf nw ch wrs : Value}
/-- Behind refuses: SyncDir's rest. -/
theorem sync_mem {w1 w2 : World} {sf' : Value} (hB : B ≤ db) (hBM : B ≤ M) (hM : w2.heap[M]? = some (.map #[] 0)) (hb : Blk w1 db 64 (dcells room sf (.map (some M)) ch wrs armed after code)) (hf : Fr (fun k => k = M) w1 w2) (hne : db ≠ M) :
    DiskAt B ((w2.setCell ⟨db, 1, none⟩ sf').setCell ⟨db, 3, none⟩ (.slice none 0 0)) db armed after code := by
  have h2 : Blk w2 db 64 _ := hb.fr hf hne
  have h3 := (h2.set_ 1 sf').set_ 3 (.slice none 0 0)
  refine ⟨hB, M, room, sf', .slice none 0 0, wrs, hBM, ?_, h3⟩
  exact ((Below.heap_setCell _ _ _ _ (Ne.symm hne)).trans (Below.heap_setCell _ _ _ _ (Ne.symm hne))).trans hM
theorem sync_fr {w1 w2 : World} {X : Nat → Prop} {sf' : Value} (hB : B ≤ db) (hBM : B ≤ M) (hw : B ≤ w.heap.size) (h1 : Below B w w1) (hf : Fr (fun k => k = M) w1 w2) :
    Below B w ((w2.setCell ⟨db, 1, none⟩ sf').setCell ⟨db, 3, none⟩ (.slice none 0 0)) := by
  have h2 : Below B w w2 := h1.trans (hf.below (Nat.le_trans hw h1.size) (by rintro k rfl; exact hBM))
  have h3 : Fr (fun k => k = db) w2 ((w2.setCell ⟨db, 1, none⟩ sf').setCell ⟨db, 3, none⟩ (.slice none 0 0)) := ((Fr.refl (fun k => k = db) w2).setCell (p := ⟨db, 1, none⟩) (.inr rfl) _).setCell (p := ⟨db, 3, none⟩) (.inr rfl) _
  exact h2.trans (h3.below (Nat.le_trans hw h2.size) (by rintro k rfl; exact hB))
theorem set_fr {o : Nat} {u : Value} (hB : B ≤ db) (hw : B ≤ w.heap.size) : Below B w (w.setCell ⟨db, o, none⟩ u) :=
  ((Fr.refl (fun k => k = db) w).setCell (p := ⟨db, o, none⟩) (.inr rfl) u).below hw (by rintro k rfl; exact hB)
set_option maxHeartbeats 1000000 in
set_option maxRecDepth 100000 in
theorem Sync_off (hbs : Ev.Bs om0 C0 B w) (h : DiskAt B w db false after code) :
    Calls Tryd.prog 9 #[.pointer (some ⟨db, 0, none⟩)] w fun e w' => e = .returned .nilIface ∧ DiskAt B w' db false after code ∧ Below B w w' := by
  obtain ⟨hBd, M, room, sf, ch, wrs, hBM, hM, hb⟩ := h
  have hne : db ≠ M := fun e => by subst e; unfold Blk at hb; rw [hM] at hb; cases hb
  have c2 : w.cell? ⟨db, 2, none⟩ = some (.map (some M)) := hb.cell 2
  go_enter Tryd.func9, Tryd.ntmps9
  go_wp2_with (first
    | (go_at_call 26; refine (refuses_off hb).mono ?_; rintro e w1 ⟨rfl, rfl⟩)
    | (go_at_call 27; refine (clone_any hbs hBM hM).mono ?_; rintro e w2 ⟨⟨M', rfl⟩, hf, hM2⟩; have h2 : Blk w2 db 64 _ := hb.fr hf hne; have f1 := h2.frozen 1; have f3 := h2.frozen 3; have k1 : w2.cell? ⟨db, 1, none⟩ = some sf := h2.cell 1; have k3 : w2.cell? ⟨db, 3, none⟩ = some ch := h2.cell 3)
    | (go_at_call 23; refine (fault_ok _ _ _).mono ?_; rintro e w3 ⟨rfl, rfl⟩))
  go_ret
  exact ⟨rfl, sync_mem hBd hBM hM2 hb hf hne, sync_fr (X := fun _ => False) hBd hBM hbs.le (Below.refl _ _) hf⟩
set_option maxHeartbeats 1000000 in
set_option maxRecDepth 100000 in
theorem Sync_on (hbs : Ev.Bs om0 C0 B w) (h : DiskAt B w db true after code) (ha : 0 < after) (ha2 : after ≤ 100) :
    Calls Tryd.prog 9 #[.pointer (some ⟨db, 0, none⟩)] w fun e w' => e = .returned .nilIface ∧ DiskAt B w' db true (after - 1) code ∧ Below B w w' := by
  obtain ⟨hBd, M, room, sf, ch, wrs, hBM, hM, hb⟩ := h
  have hne : db ≠ M := fun e => by subst e; unfold Blk at hb; rw [hM] at hb; cases hb
  have hb1 : Blk (w.setCell ⟨db, 6, none⟩ (.int .i64 (after - 1))) db 64 (dcells room sf (.map (some M)) ch wrs true (after - 1) code) := hb.set_ 6 (.int .i64 (after - 1))
  have hM1 : (w.setCell ⟨db, 6, none⟩ (.int .i64 (after - 1))).heap[M]? = some (.map #[] 0) := (Below.heap_setCell _ _ _ _ (Ne.symm hne)).trans hM
  have hbl : Below B w (w.setCell ⟨db, 6, none⟩ (.int .i64 (after - 1))) := set_fr hBd hbs.le
  have hbs1 := hbs.next hbl
  obtain ⟨w1, hw1⟩ : ∃ w1, w.setCell ⟨db, 6, none⟩ (.int .i64 (after - 1)) = w1 := ⟨_, rfl⟩
  have hR := refuses_on hb ha ha2
  rw [hw1] at hb1 hM1 hbl hbs1 hR
  have c2 : w1.cell? ⟨db, 2, none⟩ = some (.map (some M)) := hb1.cell 2
  go_enter Tryd.func9, Tryd.ntmps9
  go_wp2_with (first
    | (go_at_call 26; refine hR.mono ?_; rintro e w9 ⟨rfl, rfl⟩)
    | (go_at_call 27; refine (clone_any hbs1 hBM hM1).mono ?_; rintro e w2 ⟨⟨M', rfl⟩, hf, hM2⟩; have h2 : Blk w2 db 64 _ := hb1.fr hf hne; have f1 := h2.frozen 1; have f3 := h2.frozen 3; have k1 : w2.cell? ⟨db, 1, none⟩ = some sf := h2.cell 1; have k3 : w2.cell? ⟨db, 3, none⟩ = some ch := h2.cell 3)
    | (go_at_call 23; refine (fault_ok _ _ _).mono ?_; rintro e w3 ⟨rfl, rfl⟩))
  go_ret
  exact ⟨rfl, sync_mem hBd hBM hM2 hb1 hf hne, sync_fr (X := fun _ => False) hBd hBM hbs.le hbl hf⟩
set_option maxHeartbeats 1000000 in
set_option maxRecDepth 100000 in
theorem Sync_now (hbs : Ev.Bs om0 C0 B w) (h : DiskAt B w db true 0 code) (hk : (code == 0) = false) :
    Calls Tryd.prog 9 #[.pointer (some ⟨db, 0, none⟩)] w fun e w' => ∃ r, e = .returned (.iface 69 (.pointer (some ⟨r, 0, none⟩))) ∧ B ≤ r ∧ r ≠ db ∧ w'.heap[r]? = some (.cells #[.string opS, .string ⟨#[]⟩, .iface 29 (.int .i64 code)] 73 (0, 0)) ∧ DiskAt B w' db false 0 code ∧ Below B w w' := by
  obtain ⟨hBd, M, room, sf, ch, wrs, hBM, hM, hb⟩ := h
  have hne : db ≠ M := fun e => by subst e; unfold Blk at hb; rw [hM] at hb; cases hb
  have hb1 : Blk (w.setCell ⟨db, 5, none⟩ (.bool false)) db 64 (dcells room sf (.map (some M)) ch wrs false 0 code) := hb.set_ 5 (.bool false)
  have hM1 : (w.setCell ⟨db, 5, none⟩ (.bool false)).heap[M]? = some (.map #[] 0) := (Below.heap_setCell _ _ _ _ (Ne.symm hne)).trans hM
  have hbl : Below B w (w.setCell ⟨db, 5, none⟩ (.bool false)) := set_fr hBd hbs.le
  obtain ⟨w1, hw1⟩ : ∃ w1, w.setCell ⟨db, 5, none⟩ (.bool false) = w1 := ⟨_, rfl⟩
  have hR := refuses_now hb
  rw [hw1] at hb1 hM1 hbl hR
  have hdl := hb1.lt
  have hml := (Array.getElem?_eq_some_iff.1 hM1).1
  go_enter Tryd.func9, Tryd.ntmps9
  go_wp2_with (first
    | (go_at_call 26; refine hR.mono ?_; rintro e w9 ⟨rfl, rfl⟩)
    | (go_at_call 23; refine (fault_err _ _ _ _ hk).mono ?_; rintro e w3 ⟨rfl, rfl⟩))
  go_ret
  exact ⟨_, rfl, Nat.le_trans hBd (Nat.le_of_lt hdl), by omega, heap_alloc_new _ _, ⟨hBd, M, room, sf, ch, wrs, hBM, (Below.heap_alloc _ _ _ hml).trans hM1, hb1.alloc _⟩, hbl.alloc (Nat.le_trans hBd (Nat.le_of_lt hdl)) _⟩
end
end Go.Proofs.YtekajggjoeimoaaDoor
