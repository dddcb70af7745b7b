/- scowlaw27.small of one deed without kept sectors. -/
import Derived.Test.YtagieomloclohaaGreatDoorProg
import Derived.WalkKit
import Derived.BigCall
import Derived.BigGuard
import Derived.BigFrame
import Derived.Lib.Hide
import Derived.BigQuiet
import Derived.Below
namespace Go.Proofs.YtagieomloclohaaGreatDoor
open Go.RowKit
/-- A row of entries' keys and values, by their lengths. -/
def EntsAt (w : World) (ek : Option Addr) (le : Nat) (kl vl : Nat → Nat) : Prop :=
  ∀ k, k < le → ∃ ad a c b d, ek = some ad ∧ w.cell? (ad.add (k * 2)) = some (.slice a (kl k) c) ∧ w.cell? ⟨(ad.add (k * 2)).block, (ad.add (k * 2)).off + 1, none⟩ = some (.slice b (vl k) d) ∧ kl k ≤ 9223372036854775807 ∧ vl k ≤ 9223372036854775807
theorem drew_below {B : Nat} {w w1 : World} (h : Below B w w1) (n : Nat) : Below B w (w1.drewN n) := ⟨h.os, h.tape, h.output, h.size, h.block⟩
theorem EntsAt.below {w w' : World} {ek : Option Addr} {le : Nat} {kl vl : Nat → Nat} (h : EntsAt w ek le kl vl) (hb : Below w.heap.size w w') : EntsAt w' ek le kl vl := fun k hk => by
  obtain ⟨ad, a, c, b, d, e, h1, h2, r⟩ := h k hk
  exact ⟨ad, a, c, b, d, e, (hb.cell (World.block_lt_of_cell? w _ h1)).trans h1, (hb.cell (World.block_lt_of_cell? w _ h2)).trans h2, r⟩
def okE (kl vl : Nat → Nat) : Nat → Bool
  | 0 => true
  | k + 1 => okE kl vl k && (decide (kl k ≤ 100) && decide (vl k ≤ 2000))
def sumE (vl : Nat → Nat) : Nat → Nat
  | 0 => 0
  | k + 1 => sumE vl k + vl k
theorem okE_false {kl vl : Nat → Nat} {k : Nat} (h : okE kl vl k = false) : ∀ {n : Nat}, k ≤ n → okE kl vl n = false
  | 0, h0 => by obtain rfl : k = 0 := by omega
                exact h
  | n + 1, h0 => by
    by_cases e : k = n + 1
    · subst e; exact h
    · simp [okE, okE_false h (n := n) (by omega)]
theorem sumE_le {kl vl : Nat → Nat} : ∀ {k : Nat}, okE kl vl k = true → sumE vl k ≤ 2000 * k
  | 0, _ => Nat.le_refl _
  | k + 1, h => by
    simp only [okE, Bool.and_eq_true, decide_eq_true_eq] at h
    have := sumE_le h.1
    simp only [sumE]
    omega
def smallE (ll lh le : Nat) (kl vl : Nat → Nat) : Bool := decide (le ≤ 30) && (!(decide ((8000 : Int) < wrap64 ((ll : Int) + (lh : Int)))) && (okE kl vl le && decide (sumE vl le ≤ 8000)))
section
variable {w : World} {lb lo cc : Nat} {al ah ek : Option Addr} {ll cl lh ch le ce : Nat} {kl vl : Nat → Nat}
set_option maxHeartbeats 2000000 in
set_option maxRecDepth 100000 in
theorem small27_many (hl : le ≤ 9223372036854775807) (c1 : w.cell? ⟨lb, lo + 1, none⟩ = some (.slice al ll cl)) (c2 : w.cell? ⟨lb, lo + 2, none⟩ = some (.slice ah lh ch)) (c3 : w.cell? ⟨lb, lo + 3, none⟩ = some (.slice ek le ce)) (c6 : w.cell? ⟨lb, lo + 6, none⟩ = some (.slice none 0 0)) (h : 30 < le) :
    Calls Tryz.prog 4 #[.slice (some ⟨lb, lo, none⟩) 1 cc] w fun e w' => e = .returned (.bool false) ∧ Below w.heap.size w w' := by
  have h1 : decide (30 < le) = true := by simp; omega
  have h1' : decide ((30 : Int) < (le : Nat)) = true := by simp; omega
  go_enter Tryz.func4, Tryz.ntmps4
  go_wp2
  refine wp_loop_rounds 1 ?_
  rw [rounds_succ]
  go_wp2
  go_quiet (fail)
  go_wp2
  go_ret
  exact ⟨rfl, drew_below (Below.refl _ w) _⟩
set_option maxHeartbeats 2000000 in
set_option maxRecDepth 100000 in
theorem small27_long (c1 : w.cell? ⟨lb, lo + 1, none⟩ = some (.slice al ll cl)) (c2 : w.cell? ⟨lb, lo + 2, none⟩ = some (.slice ah lh ch)) (c3 : w.cell? ⟨lb, lo + 3, none⟩ = some (.slice ek le ce)) (c6 : w.cell? ⟨lb, lo + 6, none⟩ = some (.slice none 0 0)) (h : le ≤ 30) (h2 : decide ((8000 : Int) < wrap64 ((ll : Int) + (lh : Int))) = true) :
    Calls Tryz.prog 4 #[.slice (some ⟨lb, lo, none⟩) 1 cc] w fun e w' => e = .returned (.bool false) ∧ Below w.heap.size w w' := by
  have h1 : decide (30 < le) = false := by simp; omega
  have h1' : decide ((30 : Int) < (le : Nat)) = false := by simp; omega
  go_enter Tryz.func4, Tryz.ntmps4
  go_wp2
  refine wp_loop_rounds 1 ?_
  rw [rounds_succ]
  go_wp2
  go_quiet (fail)
  go_wp2
  go_ret
  exact ⟨rfl, drew_below (Below.refl _ w) _⟩
set_option maxHeartbeats 2000000 in
set_option maxRecDepth 100000 in
theorem small27_rest (c1 : w.cell? ⟨lb, lo + 1, none⟩ = some (.slice al ll cl)) (c2 : w.cell? ⟨lb, lo + 2, none⟩ = some (.slice ah lh ch)) (c3 : w.cell? ⟨lb, lo + 3, none⟩ = some (.slice ek le ce)) (c6 : w.cell? ⟨lb, lo + 6, none⟩ = some (.slice none 0 0)) (h : le ≤ 30) (h2 : decide ((8000 : Int) < wrap64 ((ll : Int) + (lh : Int))) = false) (hC : EntsAt w ek le kl vl) :
    Calls Tryz.prog 4 #[.slice (some ⟨lb, lo, none⟩) 1 cc] w fun e w' => e = .returned (.bool (okE kl vl le && decide (sumE vl le ≤ 8000))) ∧ Below w.heap.size w w' := by
  have h1 : decide (30 < le) = false := by simp; omega
  have h1' : decide ((30 : Int) < (le : Nat)) = false := by simp; omega
  have HC := Lib.hid hC
  clear hC
  go_enter Tryz.func4, Tryz.ntmps4
  go_wp2
  refine wp_loop_rounds 2 ?_
  rw [rounds_succ]
  go_wp2
  go_quiet (fail)
  go_wp2
  go_loopw [3, 5] (fun n t wr => Below w.heap.size w wr ∧ ∃ k : Nat, k ≤ le ∧ okE kl vl k = true ∧ n = .int .i64 (sumE vl k : Nat) ∧ t = .int .i64 k) (fun _ t _ => le - (intOf t).toNat)
  case atStart => exact ⟨drew_below (Below.refl _ w) _, 0, Nat.zero_le _, rfl, rfl, rfl⟩
  case round =>
    obtain ⟨hb, k, hk, hok, rfl, rfl⟩ := hrel
    obtain ⟨wo, rfl⟩ : ∃ wo, wo = wr := ⟨wr, rfl⟩
    have hC := HC.out.below hb
    have q3 : wo.cell? ⟨lb, lo + 3, none⟩ = some (.slice ek le ce) := (hb.cell (p := ⟨lb, lo + 3, none⟩) (World.block_lt_of_cell? w _ c3)).trans c3
    have HB := Lib.hid hb
    clear hb
    by_cases hlt : k < le
    · obtain ⟨ad, a, c, b, d, rfl, e1, e2, hm1, hm2⟩ := hC k hlt
      have e3 : decide (k < le) = true := by simpa using hlt
      clear hC
      by_cases g1 : kl k ≤ 100
      · have e4 : decide (100 < kl k) = false := by simp; omega
        by_cases g2 : vl k ≤ 2000
        · have e5 : decide (2000 < vl k) = false := by simp; omega
          have hs := sumE_le hok
          obtain ⟨sm, hsm⟩ : ∃ sm, sumE vl k = sm := ⟨_, rfl⟩
          rw [hsm] at hs ⊢
          have HS := Lib.hid hsm
          clear hsm
          have e6 : IntKind.i64.wrap ((sm : Int) + (vl k : Int)) = (sm : Int) + (vl k : Int) := by rw [IntKind.wrap_i64]; omega
          go_wp2
          go_roundw
          case rel => exact ⟨HB.out, k + 1, by omega, by simp [okE, hok, g1, g2], by simp only [sumE, HS.out]; go_num, by go_num⟩
          case measure => simp [intOf]; omega
        · have e5 : decide (2000 < vl k) = true := by simp; omega
          have hf : okE kl vl le = false := okE_false (k := k + 1) (by simp [okE, g2]) (by omega)
          have HF := Lib.hid hf
          clear hf
          go_wp2
          go_ret
          rw [HF.out]
          exact ⟨rfl, HB.out⟩
      · have e4 : decide (100 < kl k) = true := by simp; omega
        have hf : okE kl vl le = false := okE_false (k := k + 1) (by simp [okE, g1]) (by omega)
        have HF := Lib.hid hf
        clear hf
        go_wp2
        go_ret
        rw [HF.out]
        exact ⟨rfl, HB.out⟩
    · have e3 : decide (k < le) = false := by simpa using hlt
      obtain rfl : k = le := by omega
      have HF := Lib.hid hok
      clear hok
      obtain ⟨sm, hsm⟩ : ∃ sm, sumE vl k = sm := ⟨_, rfl⟩
      rw [hsm]
      have HS := Lib.hid hsm
      clear hsm hC
      by_cases g : sm ≤ 8000
      · have e7 : decide ((sm : Int) ≤ 8000) = true := by simp; omega
        go_wp2
        rw [rounds_succ]
        go_wp2
        go_ret
        rw [HF.out, HS.out, decide_eq_true g]
        exact ⟨rfl, HB.out⟩
      · have e7 : decide ((sm : Int) ≤ 8000) = false := by simp; omega
        go_wp2
        rw [rounds_succ]
        go_wp2
        go_ret
        rw [HF.out, HS.out, decide_eq_false g]
        exact ⟨rfl, HB.out⟩
theorem small27_any (hl : le ≤ 9223372036854775807) (c1 : w.cell? ⟨lb, lo + 1, none⟩ = some (.slice al ll cl)) (c2 : w.cell? ⟨lb, lo + 2, none⟩ = some (.slice ah lh ch)) (c3 : w.cell? ⟨lb, lo + 3, none⟩ = some (.slice ek le ce)) (c6 : w.cell? ⟨lb, lo + 6, none⟩ = some (.slice none 0 0)) (hC : EntsAt w ek le kl vl) :
    Calls Tryz.prog 4 #[.slice (some ⟨lb, lo, none⟩) 1 cc] w fun e w' => e = .returned (.bool (smallE ll lh le kl vl)) ∧ Below w.heap.size w w' := by
  unfold smallE
  by_cases h : le ≤ 30
  · rw [decide_eq_true h, Bool.true_and]
    cases h2 : decide ((8000 : Int) < wrap64 ((ll : Int) + (lh : Int))) with
    | false => exact small27_rest c1 c2 c3 c6 h h2 hC
    | true => exact small27_long c1 c2 c3 c6 h h2
  · rw [decide_eq_false h, Bool.false_and]
    exact small27_many hl c1 c2 c3 c6 (by omega)
end
end Go.Proofs.YtagieomloclohaaGreatDoor
