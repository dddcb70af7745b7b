/- The disk in memory: refuses, fault, opened. -/
import Derived.Test.YtekajggjoeimoaaDoorQb
set_option linter.unusedVariables false
namespace Go.Proofs.YtekajggjoeimoaaDoor
open Go.RowKit
open Da
/-- An error that came: nil, or a fault that tells what was done. -/
def ErrAt (w : World) (op nm : ByteArray) (k : Int) (v : Value) : Prop :=
  (k = 0 ∧ v = .nilIface) ∨ (k ≠ 0 ∧ ∃ r, v = .iface 69 (.pointer (some ⟨r, 0, none⟩)) ∧ w.heap[r]? = some (.cells #[.string op, .string nm, .iface 29 (.int .i64 k)] 73 (0, 0)))
theorem fault_any (w : World) (op nm : ByteArray) (k : Int) : Calls Tryd.prog 23 #[.string op, .string nm, .int .i64 k] w fun e w' => (∃ v, e = .returned v ∧ ErrAt w' op nm k v) ∧ Below w.heap.size w w' := by
  by_cases hk : k = 0
  · subst hk
    refine (fault_ok w op nm).mono ?_
    rintro e w' ⟨rfl, rfl⟩
    exact ⟨⟨_, rfl, .inl ⟨rfl, rfl⟩⟩, Below.refl _ _⟩
  · refine (fault_err w op nm k (by simpa using hk)).mono ?_
    rintro e w' ⟨rfl, rfl⟩
    exact ⟨⟨_, rfl, .inr ⟨hk, _, rfl, heap_alloc_new w _⟩⟩, (Below.refl _ _).alloc (Nat.le_refl _) _⟩
section
variable {X : Nat → Prop} {w : World} {db M1 M2 : Nat} {v3 v4 : Value} {q : DQ}
theorem DiskV.set6 (h : DiskV X w db M1 M2 v3 v4 q) (a : Int) : DiskV X (w.setCell ⟨db, 6, none⟩ (.int .i64 a)) db M1 M2 v3 v4 { q with after := a } := h.set (fun _ h => h) rfl rfl rfl rfl rfl h.chs h.wrs
theorem DiskV.set5 (h : DiskV X w db M1 M2 v3 v4 q) (a : Bool) : DiskV X (w.setCell ⟨db, 5, none⟩ (.bool a)) db M1 M2 v3 v4 { q with armed := a } := h.set (fun _ h => h) rfl rfl rfl rfl rfl h.chs h.wrs
theorem DiskV.set7 (h : DiskV X w db M1 M2 v3 v4 q) (a : Int) : DiskV X (w.setCell ⟨db, 7, none⟩ (.int .i64 a)) db M1 M2 v3 v4 { q with code := a } := h.set (fun _ h => h) rfl rfl rfl rfl rfl h.chs h.wrs
set_option maxHeartbeats 1000000 in
set_option maxRecDepth 100000 in
theorem refuses_on' {room after code : Int} {sf nw ch wrs : Value} (h : Blk w db 64 (dcells room sf nw ch wrs true after code)) (ha : 0 < after) (ha2 : after ≤ 9223372036854775807) :
    Calls Tryd.prog 26 #[.pointer (some ⟨db, 0, none⟩)] w fun e w' => e = .returned (.int .i64 0) ∧ w' = w.setCell ⟨db, 6, none⟩ (.int .i64 (after - 1)) := by
  have c5 : w.cell? ⟨db, 5, none⟩ = some (.bool true) := h.cell 5
  have c6 : w.cell? ⟨db, 6, none⟩ = some (.int .i64 after) := h.cell 6
  have f6 := h.frozen 6
  have d1 : decide (0 < after) = true := by simpa using ha
  have e1 : wrap64 (after - 1) = after - 1 := by simp only [wrap64]; omega
  go_enter Tryd.func26, Tryd.ntmps26
  go_wp2
  go_ret
  exact ⟨rfl, rfl⟩
set_option maxHeartbeats 1000000 in
set_option maxRecDepth 100000 in
theorem refuses_now' {room after code : Int} {sf nw ch wrs : Value} (h : Blk w db 64 (dcells room sf nw ch wrs true after code)) (ha : after ≤ 0) :
    Calls Tryd.prog 26 #[.pointer (some ⟨db, 0, none⟩)] w fun e w' => e = .returned (.int .i64 code) ∧ w' = w.setCell ⟨db, 5, none⟩ (.bool false) := by
  have c5 : w.cell? ⟨db, 5, none⟩ = some (.bool true) := h.cell 5
  have c6 : w.cell? ⟨db, 6, none⟩ = some (.int .i64 after) := h.cell 6
  have c7 : (w.setCell ⟨db, 5, none⟩ (.bool false)).cell? ⟨db, 7, none⟩ = some (.int .i64 code) := (h.set_ 5 (.bool false)).cell 7
  have f5 := h.frozen 5
  have d1 : decide (0 < after) = false := by simpa using ha
  go_enter Tryd.func26, Tryd.ntmps26
  go_wp2
  go_ret
  exact ⟨rfl, rfl⟩
/-- One step of the disk that leaves all but its own cells. -/
structure Near (X : Nat → Prop) (db : Nat) (w w1 : World) : Prop where
  fr : Fr (fun k => k = db) w w1
  size : w1.heap.size = w.heap.size
  files : Same FT X w w1
theorem Near.refl : Near X db w w := ⟨Fr.refl _ _, rfl, Same.refl⟩
theorem DiskV.near (h : DiskV X w db M1 M2 v3 v4 q) (o : Nat) (u : Value) : Near X db w (w.setCell ⟨db, o, none⟩ u) := by
  obtain ⟨_, hoth⟩ := h.far (o := o) (u := u)
  refine ⟨(Fr.refl (fun k => k = db) w).setCell (p := ⟨db, o, none⟩) (.inr rfl) _, by simp [World.setCell], fun k cs t ht hx hk => (hoth k (fun e => ?_)).trans hk⟩
  subst e
  have := h.blk
  unfold Blk at this
  rw [this] at hk
  cases hk
  rcases ht with ht | ht <;> cases ht
theorem refuses_any (h : DiskV X w db M1 M2 v3 v4 q) (ha : q.after ≤ 9223372036854775807) :
    ∃ w1, (Calls Tryd.prog 26 #[.pointer (some ⟨db, 0, none⟩)] w fun e w' => e = .returned (.int .i64 (failQ q).1) ∧ w' = w1) ∧ DiskV X w1 db M1 M2 v3 v4 (failQ q).2 ∧ Near X db w w1 := by
  unfold failQ
  have hb := h.blk
  cases e : q.armed with
  | false =>
    rw [e] at hb
    rw [if_pos rfl]
    refine ⟨w, (refuses_off hb).mono ?_, h, Near.refl⟩
    rintro e w' ⟨rfl, rfl⟩
    exact ⟨rfl, rfl⟩
  | true =>
    rw [e] at hb
    rw [if_neg (by decide)]
    by_cases h0 : 0 < q.after
    · rw [if_pos h0]
      have h6 := h.set6 (q.after - 1)
      rw [e] at h6
      exact ⟨_, refuses_on' hb h0 ha, h6, h.near _ _⟩
    · rw [if_neg h0]
      exact ⟨_, refuses_now' hb (by omega), h.set5 false, h.near _ _⟩
/-- opened, as memory has it. -/
def openedQ (q : DQ) (nm : ByteArray) : Int × Option Nat := if (failQ q).1 ≠ 0 then ((failQ q).1, none) else match look nm q.now 0 with
  | some r => (0, some r.2.f)
  | none => (7, none)
theorem failQ_now (q : DQ) : (failQ q).2.now = q.now := by unfold failQ; split <;> (try split) <;> rfl
theorem opened_any (h : DiskV X w db M1 M2 v3 v4 q) (ha : q.after ≤ 9223372036854775807) (nm : ByteArray) :
    ∃ w1, (Calls Tryd.prog 32 #[.pointer (some ⟨db, 0, none⟩), .string nm] w fun e w' => e = .returned (.tuple #[.pointer ((openedQ q nm).2.map fun f => ⟨f, 0, none⟩), .int .i64 (openedQ q nm).1]) ∧ w' = w1) ∧ DiskV X w1 db M1 M2 v3 v4 (failQ q).2 ∧ Near X db w w1 := by
  obtain ⟨w1, hR, hD, hN⟩ := refuses_any h ha
  refine ⟨w1, ?_, hD, hN⟩
  unfold openedQ
  by_cases hc : (failQ q).1 = 0
  · rw [if_neg (by simpa using hc)]
    rw [hc] at hR
    have hm2 := hD.m2
    rw [failQ_now] at hm2
    cases hl : look nm q.now 0 with
    | some r => exact opened_go hR (file_some hD.blk hm2 hl)
    | none => exact opened_go hR (file_none hD.blk hm2 hl)
  · rw [if_pos hc]
    exact opened_no hR (by simpa using hc)
end
end Go.Proofs.YtekajggjoeimoaaDoor
