/- DiskArms, walked. -/
import Derived.Test.YtekajggjoeimoaaDoorDb
import Derived.BigQuiet
set_option linter.unusedVariables false
namespace Go.Proofs.YtekajggjoeimoaaDoor
open Go.RowKit
open Da
def isArmed (after code : Int) : Bool := decide (0 ≤ after) && (code == 41 || code == 42)
theorem arm_mem {B db : Nat} {w : World} {armed armed' : Bool} {after code after' code' : Int} (hB : B ≤ w.heap.size) (h : DiskAt B w db armed after code) :
    DiskAt B (((w.setCell ⟨db, 5, none⟩ (.bool armed')).setCell ⟨db, 6, none⟩ (.int .i64 after')).setCell ⟨db, 7, none⟩ (.int .i64 code')) db armed' after' code' ∧ Below B w (((w.setCell ⟨db, 5, none⟩ (.bool armed')).setCell ⟨db, 6, none⟩ (.int .i64 after')).setCell ⟨db, 7, none⟩ (.int .i64 code')) := by
  obtain ⟨hBd, M, room, sf, ch, wrs, hBM, hM, hb⟩ := h
  have hne : db ≠ M := fun e => by subst e; unfold Blk at hb; rw [hM] at hb; cases hb
  refine ⟨⟨hBd, M, room, sf, ch, wrs, hBM, ?_, ((hb.set_ 5 (.bool armed')).set_ 6 (.int .i64 after')).set_ 7 (.int .i64 code')⟩, ?_⟩
  · exact (((Below.heap_setCell _ _ _ _ (Ne.symm hne)).trans (Below.heap_setCell _ _ _ _ (Ne.symm hne))).trans (Below.heap_setCell _ _ _ _ (Ne.symm hne))).trans hM
  · exact ((((Fr.refl (fun k => k = db) w).setCell (p := ⟨db, 5, none⟩) (.inr rfl) _).setCell (p := ⟨db, 6, none⟩) (.inr rfl) _).setCell (p := ⟨db, 7, none⟩) (.inr rfl) _).below hB (by rintro k rfl; exact hBd)
set_option maxHeartbeats 1000000 in
set_option maxRecDepth 100000 in
theorem Arm_any {B db : Nat} {w : World} {armed : Bool} {a0 c0 : Int} (hB : B ≤ w.heap.size) (h : DiskAt B w db armed a0 c0) (after code : Int) :
    Calls Tryd.prog 8 #[.pointer (some ⟨db, 0, none⟩), .int .i64 after, .int .i64 code] w fun e w' => e = .returned (.tuple #[]) ∧ DiskAt B w' db (isArmed after code) after code ∧ Below B w w' := by
  have hb := h
  obtain ⟨hBd, M, room, sf, ch, wrs, hBM, hM, hb⟩ := hb
  have r5 : w.cell? ⟨db, 5, none⟩ = some (.bool armed) := hb.cell 5
  have r6 : w.cell? ⟨db, 6, none⟩ = some (.int .i64 a0) := hb.cell 6
  have r7 : w.cell? ⟨db, 7, none⟩ = some (.int .i64 c0) := hb.cell 7
  have f5 := hb.frozen 5
  have f6 := hb.frozen 6
  have f7 := hb.frozen 7
  have HR := @arm_mem B db w armed (isArmed after code) a0 c0 after code hB h
  unfold isArmed at HR ⊢
  cases d0 : decide (0 ≤ after) with
  | false =>
    rw [d0] at HR
    have HH := Lib.hid HR
    clear HR
    go_enter Tryd.func8, Tryd.ntmps8
    go_wp2
    go_end0
    exact ⟨rfl, HH.out⟩
  | true =>
    cases d1 : (code == 41) with
    | true =>
      rw [d0, d1] at HR
      have HH := Lib.hid HR
      clear HR
      go_enter Tryd.func8, Tryd.ntmps8
      go_wp2
      go_end0
      exact ⟨rfl, HH.out⟩
    | false =>
      cases d2 : (code == 42) with
      | true =>
        rw [d0, d1, d2] at HR
        have HH := Lib.hid HR
        clear HR
        go_enter Tryd.func8, Tryd.ntmps8
        go_wp2
        go_end0
        exact ⟨rfl, HH.out⟩
      | false =>
        rw [d0, d1, d2] at HR
        have HH := Lib.hid HR
        clear HR
        go_enter Tryd.func8, Tryd.ntmps8
        go_wp2
        go_end0
        exact ⟨rfl, HH.out⟩
theorem DiskAt.keep {B db r : Nat} {w w' : World} {armed : Bool} {a c : Int} {cs : Array Value} {t : TypeId} {fz : Nat × Nat} (h : DiskAt B w db armed a c) (hr : w.heap[r]? = some (.cells cs t fz)) (hne : r ≠ db) (hf : Fr (fun k => k = r) w w') : DiskAt B w' db armed a c := by
  obtain ⟨hBd, M, room, sf, ch, wrs, hBM, hM, hb⟩ := h
  exact ⟨hBd, M, room, sf, ch, wrs, hBM, hf.heap hM (fun e => by subst e; rw [hr] at hM; cases hM), hb.fr hf (Ne.symm hne)⟩
def ArmRel (B : Nat) (W : World) (db : Nat) (after code n : Int) (r i : Value) (wr : World) : Prop :=
  ∃ (k : Nat) (q : Int), (k : Int) ≤ n ∧ i = .int .i64 k ∧ r = .int .i64 q ∧ Below B W wr ∧
    ((isArmed after code = true ∧ (k : Int) ≤ after ∧ q = 0 ∧ DiskAt B wr db true (after - k) code) ∨
     (0 ≤ q ∧ q ≤ 1 ∧ (isArmed after code = false ∨ after < k) ∧ ∃ a', DiskAt B wr db false a' code))
set_option maxHeartbeats 4000000 in
set_option maxRecDepth 100000 in
theorem arms_any (after code n : Int) (w : World) (hg : GlobAt w) :
    Calls Tryd.prog 3 #[.int .i64 after, .int .i64 code, .int .i64 n] w fun e w' => e = .returned (.bool true) ∧ Below w.heap.size w w' := by
  have hbs0 := bs_of hg
  have hlive : ∀ w', Below w.heap.size w w' → Calls Tryd.prog 7 #[] w' fun e w2 => e = .returned (.bool true) ∧ Below w'.heap.size w' w2 := fun w' hb => live_any ((hb.cell (p := ⟨0, 0, none⟩) (World.block_lt_of_cell? w _ hg)).trans hg)
  by_cases hout : n < 0 ∨ 60 < n ∨ 100 < after
  · cases d0 : decide (n < 0) with
    | true =>
      go_enter Tryd.func3, Tryd.ntmps3
      go_wp2_with (first
        | (go_at_call 6; refine (New_any _).mono ?_; rintro e w1 ⟨rfl, hm, hb1⟩)
        | (go_at_call 7; refine (hlive _ hb1).mono ?_; rintro e w2 ⟨rfl, hb2⟩))
      go_ret
      exact ⟨rfl, hb1.trans (hb2.mono hb1.size)⟩
    | false =>
      cases d1 : decide (60 < n) with
      | true =>
        go_enter Tryd.func3, Tryd.ntmps3
        go_wp2_with (first
          | (go_at_call 6; refine (New_any _).mono ?_; rintro e w1 ⟨rfl, hm, hb1⟩)
          | (go_at_call 7; refine (hlive _ hb1).mono ?_; rintro e w2 ⟨rfl, hb2⟩))
        go_ret
        exact ⟨rfl, hb1.trans (hb2.mono hb1.size)⟩
      | false =>
        have d2 : decide (100 < after) = true := by
          rw [decide_eq_false_iff_not] at d0 d1
          simp; omega
        go_enter Tryd.func3, Tryd.ntmps3
        go_wp2_with (first
          | (go_at_call 6; refine (New_any _).mono ?_; rintro e w1 ⟨rfl, hm, hb1⟩)
          | (go_at_call 7; refine (hlive _ hb1).mono ?_; rintro e w2 ⟨rfl, hb2⟩))
        go_ret
        exact ⟨rfl, hb1.trans (hb2.mono hb1.size)⟩
  · have d0 : decide (n < 0) = false := by simp; omega
    have d1 : decide (60 < n) = false := by simp; omega
    have d2 : decide (100 < after) = false := by simp; omega
    have hn0 : 0 ≤ n := by omega
    have hn1 : n ≤ 60 := by omega
    have ha1 : after ≤ 100 := by omega
    clear hout
    go_enter Tryd.func3, Tryd.ntmps3
    go_wp2_with (first
      | (go_at_call 6; refine (New_any _).mono ?_; rintro e w1 ⟨rfl, ⟨M1, M2, hM2, hm, hbk⟩, hb1⟩; obtain ⟨db, hdb⟩ : ∃ db, w.heap.size + 2 = db := ⟨_, rfl⟩; rw [hdb] at hbk ⊢; have hd1 : DiskAt w.heap.size w1 db false 0 0 := ⟨by omega, M2, 16, _, _, _, hM2, hm, hbk⟩; clear hbk hdb)
      | (go_at_call 8; refine (Arm_any hb1.size hd1 after code).mono ?_; rintro e w2 ⟨rfl, hd2, hb2⟩))
    have hB2 : Below w.heap.size w w2 := hb1.trans hb2
    go_loopw [9, 10] (fun r i wr => ArmRel w.heap.size w db after code n r i wr) (fun _ i _ => n.toNat - (intOf i).toNat)
    case atStart =>
      refine ⟨0, 0, by simpa using hn0, rfl, rfl, hB2, ?_⟩
      cases ha : isArmed after code with
      | true =>
        refine .inl ⟨rfl, ?_, rfl, ?_⟩
        · unfold isArmed at ha
          simp at ha
          omega
        · rw [ha] at hd2; simpa using hd2
      | false => exact .inr ⟨Int.le_refl _, by omega, .inl rfl, after, by rw [ha] at hd2; exact hd2⟩
    case round =>
      clear hd2 hb2 hB2
      obtain ⟨k, q, hk, rfl, rfl, hB, hcase⟩ := hrel
      by_cases hlt : (k : Int) < n
      · have d3 : decide ((k : Int) < n) = true := by simpa using hlt
        have hbs := hbs0.next hB
        rcases hcase with ⟨har, hka, rfl, hD⟩ | ⟨hq0, hq1, har, a', hD⟩
        · have hcode : code = 41 ∨ code = 42 := by unfold isArmed at har; simp at har; omega
          by_cases hka2 : (k : Int) < after
          · have e0 : ((k : Int) == after) = false := by simp; omega
            go_wp2_with (first
              | (go_at_call 9; refine (Sync_on hbs hD (by omega) (by omega)).mono ?_; rintro e w3 ⟨rfl, hD3, hb3⟩)
              | (go_at_call 10; refine (told_nil _ _ _).mono ?_; rintro e w4 ⟨rfl, rfl⟩))
            go_roundw
            case rel => exact ⟨k + 1, 0, by omega, by go_num, rfl, hB.trans hb3, .inl ⟨har, by omega, rfl, by rw [show after - ((k + 1 : Nat) : Int) = after - k - 1 by omega]; exact hD3⟩⟩
            case measure => simp [intOf]; omega
          · obtain rfl : after = k := by omega
            rw [Int.sub_self] at hD
            have e0 : ((k : Int) == (k : Int)) = true := by simp
            have hc0 : (code == 0) = false := by simp; omega
            rcases hcode with rfl | rfl
            · go_wp2_with (first
                | (go_at_call 9; refine (Sync_now hbs hD hc0).mono ?_; rintro e w3 ⟨r, rfl, hBr, hrd, hr, hD3, hb3⟩)
                | (go_at_call 10; refine (told_any (.inl rfl) (hbs.next hb3) hBr hr).mono ?_; rintro e w4 ⟨rfl, hf4⟩))
              go_roundw
              case rel => exact ⟨k + 1, 1, by omega, by go_num, rfl, (hB.trans hb3).trans (hf4.below (Nat.le_trans hbs.le hb3.size) (by rintro j rfl; exact hBr)), .inr ⟨by omega, by omega, .inr (by omega), 0, hD3.keep hr hrd hf4⟩⟩
              case measure => simp [intOf]; omega
            · go_wp2_with (first
                | (go_at_call 9; refine (Sync_now hbs hD hc0).mono ?_; rintro e w3 ⟨r, rfl, hBr, hrd, hr, hD3, hb3⟩)
                | (go_at_call 10; refine (told_any (.inr rfl) (hbs.next hb3) hBr hr).mono ?_; rintro e w4 ⟨rfl, hf4⟩))
              go_roundw
              case rel => exact ⟨k + 1, 1, by omega, by go_num, rfl, (hB.trans hb3).trans (hf4.below (Nat.le_trans hbs.le hb3.size) (by rintro j rfl; exact hBr)), .inr ⟨by omega, by omega, .inr (by omega), 0, hD3.keep hr hrd hf4⟩⟩
              case measure => simp [intOf]; omega
        · by_cases hka : (k : Int) = after
          · subst hka
            have hcode : code ≠ 41 ∧ code ≠ 42 := by
              rcases har with har | har
              · unfold isArmed at har
                simp at har
                omega
              · omega
            have e0 : ((k : Int) == (k : Int)) = true := by simp
            have e1 : (code == 41) = false := by simp; omega
            have e2 : (code == 42) = false := by simp; omega
            have HAR := Lib.hid har
            clear hcode har
            go_wp2_with (first
              | (go_at_call 9; refine (Sync_off hbs hD).mono ?_; rintro e w3 ⟨rfl, hD3, hb3⟩)
              | (go_at_call 10; refine (told_nil _ _ _).mono ?_; rintro e w4 ⟨rfl, rfl⟩))
            go_roundw
            case rel => exact ⟨k + 1, q, by omega, by go_num, rfl, hB.trans hb3, .inr ⟨hq0, hq1, .inr (by omega), a', hD3⟩⟩
            case measure => simp [intOf]; omega
          · have e0 : ((k : Int) == after) = false := by simpa using hka
            have HAR := Lib.hid har
            clear har
            go_wp2_with (first
              | (go_at_call 9; refine (Sync_off hbs hD).mono ?_; rintro e w3 ⟨rfl, hD3, hb3⟩)
              | (go_at_call 10; refine (told_nil _ _ _).mono ?_; rintro e w4 ⟨rfl, rfl⟩))
            go_roundw
            case rel => exact ⟨k + 1, q, by omega, by go_num, rfl, hB.trans hb3, .inr ⟨hq0, hq1, HAR.out.imp id (fun h => by omega), a', hD3⟩⟩
            case measure => simp [intOf]; omega
      · have d3 : decide ((k : Int) < n) = false := by simpa using hlt
        have hq : q ≤ 1 := by rcases hcase with ⟨_, _, rfl, _⟩ | ⟨_, h, _⟩; omega; exact h
        have d4 : decide (q ≤ 1) = true := by simpa using hq
        go_wp2_with (go_at_call 7; refine (hlive _ hB).mono ?_; rintro e w2 ⟨rfl, hb2⟩)
        go_ret
        exact ⟨rfl, hB.trans (hb2.mono hB.size)⟩
end Go.Proofs.YtekajggjoeimoaaDoor
