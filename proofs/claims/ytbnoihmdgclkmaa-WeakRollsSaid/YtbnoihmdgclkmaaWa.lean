/- The small walks of package weak and of its reference. -/
import Derived.Test.YtbnoihmdgclkmaaProg
import Derived.Test.YtbnoihmdgclkmaaPl
import Derived.Test.YtbnoihmdgclkmaaWd
import Derived.WalkKit
import Derived.WalkSpells
import Derived.Lib.Hide
import Derived.LoopTactic
import Derived.WalkLawsBesides
namespace Go.Proofs.Ytbnoihmdgclkmaa
open Go.RowKit

theorem ret_int {k : IntKind} {a b : Int} (h : a = b) : Ending.returned (.int k a) = .returned (.int k b) := by rw [h]

set_option maxHeartbeats 400000 in
theorem whole_any (a b : Int) (w : World) (ha : 0 ≤ a) (ha' : a ≤ 65535) (hb : 0 ≤ b) (hb' : b ≤ 65535) :
    Calls Try.prog 14 #[.agg #[.int .u16 a, .int .u16 b]] w fun e w' => e = .returned (.int .u32 (a + 65536 * b)) ∧ Below w.heap.size w w' := by
  go_enter Try.func14, Try.ntmps14
  go_wp2
  go_ret
  exact ⟨ret_int (or_halves a b ha ha' hb hb'), (Below.refl _ _).alloc (Nat.le_refl _) _⟩

set_option maxHeartbeats 400000 in
theorem of_any (s : Int) (w : World) (ha : 0 ≤ s) (ha' : s ≤ 4294967295) :
    Calls Try.prog 15 #[.int .u32 s] w fun e w' => e = .returned (.agg #[.int .u16 (s % 65536), .int .u16 (s / 65536)]) ∧ Below w.heap.size w w' := by
  go_enter Try.func15, Try.ntmps15
  go_wp2
  exact bodyPost_ret (v := .agg #[.int .u16 (s % 65536), .int .u16 (s / 65536)]) (by simp [results, Try.results15, go_sem, wrap_u16]) rfl ⟨rfl, (Below.refl _ _).alloc (Nat.le_refl _) _⟩

set_option maxHeartbeats 400000 in
theorem roll_any (a b o i n : Int) (w : World) (ha : 0 ≤ a) (ha' : a ≤ 65535) (hb : 0 ≤ b) (hb' : b ≤ 65535) (ho : 0 ≤ o) (ho' : o ≤ 255) (hi : 0 ≤ i) (hi' : i ≤ 255) :
    Calls Try.prog 16 #[.agg #[.int .u16 a, .int .u16 b], .int .u8 o, .int .u8 i, .int .i64 n] w fun e w' => e = .returned (.agg #[.int .u16 (rollA a o i), .int .u16 (rollB a b o i n)]) ∧ Below w.heap.size w w' := by
  go_enter Try.func16, Try.ntmps16
  go_wp2
  refine bodyPost_ret (v := .agg #[.int .u16 (rollA a o i), .int .u16 (rollB a b o i n)]) ?_ rfl ⟨rfl, ((Below.refl _ _).alloc (Nat.le_refl _) _).alloc (by simp) _⟩
  simp [results, Try.results16, go_sem, wrap_u16]
  exact ⟨rollA_walk a o i, rollB_walk a b o i n⟩

set_option maxHeartbeats 400000 in
theorem Roll_any (s o i n : Int) (w : World) (hs : 0 ≤ s) (hs' : s ≤ 4294967295) (ho : 0 ≤ o) (ho' : o ≤ 255) (hi : 0 ≤ i) (hi' : i ≤ 255) :
    Calls Try.prog 10 #[.int .u32 s, .int .u8 o, .int .u8 i, .int .i64 n] w fun e w' => e = .returned (.int .u32 (rl s o i n)) ∧ Below w.heap.size w w' := by
  have hA := rollA_bd (s % 65536) o i
  have hB := rollB_bd (s % 65536) (s / 65536) o i n
  go_enter Try.func10, Try.ntmps10
  go_wp2_with fail
  refine (of_any _ _ hs hs').mono ?_
  rintro e w1 ⟨rfl, hb1⟩
  go_wp2_with fail
  refine (roll_any _ _ _ _ _ _ (by omega) (by omega) (by omega) (by omega) ho ho' hi hi').mono ?_
  rintro e w2 ⟨rfl, hb2⟩
  go_wp2_with fail
  refine (whole_any _ _ _ hA.1 hA.2 hB.1 hB.2).mono ?_
  rintro e w3 ⟨rfl, hb3⟩
  go_wp2_with fail
  go_ret
  exact ⟨rfl, hb1.trans ((hb2.mono hb1.size).trans (hb3.mono (Nat.le_trans hb1.size hb2.size)))⟩

set_option maxHeartbeats 400000 in
theorem refRoll_any (s o i n : Int) (w : World) (hs : 0 ≤ s) (hs' : s ≤ 4294967295) (ho : 0 ≤ o) (ho' : o ≤ 255) (hi : 0 ≤ i) (hi' : i ≤ 255) :
    Calls Try.prog 11 #[.int .u32 s, .int .u8 o, .int .u8 i, .int .i64 n] w fun e w' => e = .returned (.int .u32 (rl s o i n)) ∧ w' = w := by
  go_enter Try.func11, Try.ntmps11
  go_wp2
  go_ret
  exact ⟨ret_int (ref_roll s o i n), rfl⟩

/-- A slice of bytes that reads as the list l, below block B (nothing is said where l is empty). -/
def Rd (w : World) (B : Nat) (A : Option Addr) (l : List Int) : Prop :=
  0 < l.length → ∃ ad, A = some ad ∧ ad.block < B ∧ ∀ i, i < l.length → w.cell? (ad.add i) = some (.int .u8 (l[i]?.getD 0))
/-- All are bytes. -/
def Byt (l : List Int) : Prop := ∀ i : Nat, 0 ≤ l[i]?.getD 0 ∧ l[i]?.getD 0 ≤ 255

theorem Rd.keep {w w' : World} {B : Nat} {A : Option Addr} {l : List Int} (h : Rd w B A l) (hb : Below B w w') : Rd w' B A l := fun hl => by
  obtain ⟨ad, e, hB, hc⟩ := h hl
  exact ⟨ad, e, hB, fun i hi => (hb.cell (by rw [add_block]; exact hB)).trans (hc i hi)⟩
theorem Rd.rv {w : World} {B : Nat} {A : Option Addr} {l : List Int} (h : Rd w B A l) : Rv w B A (l.map (Value.int .u8)) := fun hl => by
  obtain ⟨ad, e, hB, hc⟩ := h (by simpa using hl)
  refine ⟨ad, e, hB, fun j u hu => ?_⟩
  rw [List.getElem?_map] at hu
  cases hj : l[j]? with
  | none => rw [hj] at hu; cases hu
  | some x =>
    rw [hj] at hu
    cases hu
    rw [hc j (List.getElem?_eq_some_iff.1 hj).1, hj]; rfl
theorem Rv.rd {w : World} {B : Nat} {A : Option Addr} {l : List Int} (h : Rv w B A (l.map (Value.int .u8))) : Rd w B A l := fun hl => by
  obtain ⟨ad, e, hB, hc⟩ := h (by simpa using hl)
  exact ⟨ad, e, hB, fun i hi => hc i _ (by simp [hi])⟩
theorem Rd.more {w : World} {B B' : Nat} {A : Option Addr} {l : List Int} (h : Rd w B A l) (hb : B ≤ B') : Rd w B' A l := fun hl => by
  obtain ⟨ad, e, hB, hc⟩ := h hl
  exact ⟨ad, e, by omega, hc⟩
theorem take_snoc (l : List Int) (k : Nat) (h : k < l.length) : l.take (k + 1) = l.take k ++ [l[k]?.getD 0] := by
  rw [List.take_succ_eq_append_getElem h]; simp [h]

theorem blk_set {w : World} {g : Nat} {cs : Array Value} {t : TypeId} {fz : Nat × Nat} (h : w.heap[g]? = some (.cells cs t fz)) (i : Nat) (u : Value) :
    (w.setCell ⟨g, i, none⟩ u).heap[g]? = some (.cells (cs.setIfInBounds i u) t fz) := by
  simp [World.setCell, Array.getElem?_modify, h]

theorem sum_step (l : List Int) (k : Nat) (h : k < l.length) : (l.take (k + 1)).sum % 65536 = ((l.take k).sum % 65536 + l[k]?.getD 0) % 65536 := by
  rw [take_snoc l k h, List.sum_append]; simp
theorem bsum_step (l : List Int) (k : Nat) (h : k < l.length) : bsum (l.take (k + 1)) % 65536 = (bsum (l.take k) % 65536 + ((l.take k).sum % 65536 + l[k]?.getD 0) % 65536) % 65536 := by
  rw [take_snoc l k h, bsum_snoc]; omega

set_option maxHeartbeats 1000000 in
theorem Sum_any (A : Option Addr) (c : Nat) (l : List Int) (w : World) (hr : Rd w w.heap.size A l) (hby : Byt l) (hl : l.length ≤ 9223372036854775807) :
    Calls Try.prog 8 #[.slice A l.length c] w fun e w' => e = .returned (.int .u32 (wk l)) ∧ Below w.heap.size w w' := by
  go_enter Try.func8, Try.ntmps8
  go_wp2
  go_loopw [8] (fun i wr => ∃ k : Nat, k ≤ l.length ∧ i = .int .i64 k ∧ wr.heap[w.heap.size]? = some (.cells #[.int .u16 ((l.take k).sum % 65536), .int .u16 (bsum (l.take k) % 65536)] 35 (0, 0)) ∧ Below w.heap.size w wr)
    (fun i _ => l.length - (intOf i).toNat)
  case atStart => exact ⟨0, Nat.zero_le _, rfl, heap_alloc_new _ _, (Below.refl _ _).alloc (Nat.le_refl _) _⟩
  case round =>
    obtain ⟨k, hk, rfl, hblk, hbel⟩ := hrel
    have hc0 : wr.cell? ⟨w.heap.size, 0, none⟩ = some (.int .u16 ((l.take k).sum % 65536)) := by rw [cell_of_row _ _ _ _ _ _ hblk]; rfl
    have hc1 : wr.cell? ⟨w.heap.size, 1, none⟩ = some (.int .u16 (bsum (l.take k) % 65536)) := by rw [cell_of_row _ _ _ _ _ _ hblk]; rfl
    have hf0 : wr.frozen? ⟨w.heap.size, 0, none⟩ = false := by simp [World.frozen?, hblk]
    have hf1 : wr.frozen? ⟨w.heap.size, 1, none⟩ = false := by simp [World.frozen?, hblk]
    have HB := Lib.hid hblk
    clear hblk
    by_cases hlt : k < l.length
    · obtain ⟨ad, rfl, hB, hc⟩ := hr (by omega)
      have hcell := (hbel.cell (p := ad.add k) (by rw [add_block]; exact hB)).trans (hc k hlt)
      have hbd := hby k
      have H1 := Lib.hid (sum_step l k hlt)
      have H2 := Lib.hid (bsum_step l k hlt)
      clear hc
      generalize l[k]?.getD 0 = x at hcell hbd H1 H2
      go_wp2
      go_roundw
      case rel =>
        refine ⟨k + 1, by omega, by go_num, ?_, (hbel.setCell (Nat.le_refl _) _).setCell (Nat.le_refl _) _⟩
        rw [blk_set (blk_set HB.out 0 _) 1 _, H1.out, H2.out]
        simp [wrap_u16]
      case measure => simp [intOf]; omega
    · have hkl : k = l.length := by omega
      go_wp2_with fail
      refine (whole_any _ _ _ (by omega) (by omega) (by omega) (by omega)).mono ?_
      rintro e w1 ⟨rfl, hb1⟩
      go_wp2_with fail
      go_ret
      exact ⟨rfl, hbel.trans (hb1.mono hbel.size)⟩

theorem wsum_step (l : List Int) (k : Nat) (n : Int) (h : k < l.length) : wsum n (l.take (k + 1)) = wsum n (l.take k) + (n - k) * l[k]?.getD 0 := by
  rw [take_snoc l k h, wsum_snoc, List.length_take, Nat.min_eq_left (by omega)]

theorem mul_bd (m x : Int) (h0 : 0 ≤ m) (h1 : m ≤ 600) (x0 : 0 ≤ x) (x1 : x ≤ 255) : 0 ≤ m * x ∧ m * x ≤ 153000 := by
  have := Int.mul_nonneg h0 x0
  have := Int.mul_le_mul h1 x1 x0 (by omega)
  omega

set_option maxHeartbeats 1000000 in
theorem refSum_any (A : Option Addr) (c : Nat) (l : List Int) (w : World) (hr : Rd w w.heap.size A l) (hby : Byt l) (hl : l.length ≤ 600) :
    Calls Try.prog 9 #[.slice A l.length c] w fun e w' => e = .returned (.int .u32 (wk l)) ∧ w' = w := by
  go_enter Try.func9, Try.ntmps9
  go_wp2
  go_loop [3, 4, 6] (fun a b i => ∃ k : Nat, k ≤ l.length ∧ i = .int .i64 k ∧ a = .int .u32 ((l.take k).sum % 65536) ∧ b = .int .u32 (wsum l.length (l.take k) % 65536))
    (fun _ _ i => l.length - (intOf i).toNat)
  case atStart => exact ⟨0, Nat.zero_le _, rfl, rfl, rfl⟩
  case round =>
    obtain ⟨k, hk, rfl, rfl, rfl⟩ := hrel
    by_cases hlt : k < l.length
    · obtain ⟨ad, rfl, hB, hc⟩ := hr (by omega)
      have hcell := hc k hlt
      have hbd := hby k
      have H1 := Lib.hid (sum_step l k hlt)
      have H2 := Lib.hid (wsum_step l k l.length hlt)
      have hmu := mul_bd ((l.length : Int) - k) (l[k]?.getD 0) (by omega) (by omega) hbd.1 hbd.2
      have hmu2 := hmu
      rw [show ((l.length : Int) - k) = ((l.length : Int) - k) % 65536 from by omega] at hmu2
      clear hc
      generalize l[k]?.getD 0 = x at hcell hbd H1 H2 hmu hmu2
      go_wp2
      go_round
      case rel =>
        refine ⟨k + 1, by omega, by go_num, ?_, ?_⟩
        · rw [H1.out]
        · rw [H2.out, show ((l.length : Int) - k) % 65536 = (l.length : Int) - k from by omega]
          congr 1
          omega
      case measure => simp [intOf]; omega
    · go_wp2
      go_ret
      refine ⟨ret_int ?_, rfl⟩
      have hkl : k = l.length := by omega
      subst hkl
      rw [List.take_length, wsum_all]
      rfl
end Go.Proofs.Ytbnoihmdgclkmaa
