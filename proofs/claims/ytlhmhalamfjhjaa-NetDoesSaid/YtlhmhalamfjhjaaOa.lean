/- alike, walked; the document's New. -/
import Derived.Test.YtlhmhalamfjhjaaNz
import Derived.BigQuiet
set_option linter.unusedVariables false
namespace Go.Proofs.Ytlhmhalamfjhjaa
open Go.RowKit
theorem below_drewN {w W : World} {B : Nat} (h : Below B w W) (q : Nat) : Below B w (W.drewN q) := ⟨h.os, h.tape, h.output, h.size, h.block⟩
theorem items_at {L : List Pk} {k : Nat} {p : Pk} (h : L[k]? = some p) (j : Nat) (hj : j < 4) : (items L)[k * 4 + j]? = p.item[j]? := by
  have hk := (List.getElem?_eq_some_iff.1 h).1
  have h1 : items L = items (L.take k) ++ (p.item ++ items (L.drop (k + 1))) := by
    have : L = L.take k ++ p :: L.drop (k + 1) := by
      rw [← (List.getElem?_eq_some_iff.1 h).2, List.getElem_cons_drop, List.take_append_drop]
    conv => lhs; rw [this]
    simp [items]
  rw [h1, List.getElem?_append_right (by rw [items_len, List.length_take]; omega), items_len, List.length_take, Nat.min_eq_left (by omega), Nat.add_sub_cancel_left, List.getElem?_append_left (by simp [Pk.item]; omega)]
theorem item_cells {w : World} {B : Nat} {A : Option Addr} {c : Nat} {L : List Pk} (h : w.ownsRow B 63 4 (.slice A L.length c) L.length (items L)) {k : Nat} {p : Pk} (hk : L[k]? = some p) :
    ∃ g, A = some ⟨g, 0, none⟩ ∧ w.cell? ⟨g, k * 4, none⟩ = some (.int .i64 p.id) ∧ w.cell? ⟨g, k * 4 + 1, none⟩ = some (.int .i64 p.to) ∧ w.cell? ⟨g, k * 4 + 2, none⟩ = some (.int .i64 p.b.length) ∧ w.cell? ⟨g, k * 4 + 3, none⟩ = some (.bool p.sp) := by
  have hkl := (List.getElem?_eq_some_iff.1 hk).1
  rcases h.2 with ⟨_, h1⟩ | ⟨g, cap, cur, e, h1, h2, h3, h4, h5, h6⟩
  · omega
  · simp only [Value.slice.injEq] at e
    obtain ⟨rfl, _, rfl⟩ := e
    have hcur : ∀ (j : Nat) (u : Value), (items L)[j]? = some u → cur[j]? = some u := fun j u hu => by
      have hj := (List.getElem?_eq_some_iff.1 hu).1
      rw [← h6, List.getElem?_take] at hu
      by_cases hlt : j < L.length * 4
      · rw [if_pos hlt] at hu; simpa using hu
      · rw [if_neg hlt] at hu; cases hu
    have hb : Blk w g 63 cur := h2
    refine ⟨g, rfl, ?_, ?_, ?_, ?_⟩
    · exact (hb.cell _).trans (hcur _ _ (items_at hk 0 (by omega)))
    · exact (hb.cell _).trans (hcur _ _ (items_at hk 1 (by omega)))
    · exact (hb.cell _).trans (hcur _ _ (items_at hk 2 (by omega)))
    · exact (hb.cell _).trans (hcur _ _ (items_at hk 3 (by omega)))
set_option maxHeartbeats 4000000 in
set_option maxRecDepth 100000 in
theorem RNew_any (w : World) (B : Nat) (hB : B ≤ w.heap.size) : Calls Try.prog 9 #[] w fun e w' => e = .returned (.pointer (some ⟨w.heap.size, 0, none⟩)) ∧ RefP B w' w.heap.size 0 [] ∧ Below w.heap.size w w' := by
  go_enter Try.func9, Try.ntmps9
  go_wp2
  go_ret
  exact ⟨rfl, ⟨[], ⟨⟨none, 0, Blk.new w 54 _, World.ownsRow_nil _ _ _ _⟩, hB, fun x hx => by cases hx⟩, rfl⟩, (Below.refl _ _).alloc (Nat.le_refl _) _⟩
def SameRel (w2 : World) (n : Nat) (i : Value) (wr : World) : Prop := ∃ k, k ≤ n ∧ i = .int .i64 k ∧ ∃ q, wr = w2.drewN q
set_option maxHeartbeats 4000000 in
set_option maxRecDepth 100000 in
theorem alike_any {B : Nat} {w : World} {a M mb : Nat} {nx : Int} {L : List Pk} (h : Both B w a M mb nx L) (hn : nx < 1000000) :
    Calls Try.prog 11 #[.pointer (some ⟨a, 0, none⟩), .pointer (some ⟨mb, 0, none⟩)] w fun e w' => e = .returned (.bool true) ∧ Below w.heap.size w w' := by
  have hL := h.len
  go_enter Try.func11, Try.ntmps11
  go_wp2_with (first
    | (go_at_call 19; refine (PList h.net hn hL).mono ?_; rintro e w1 ⟨A1, c1, rfl, o1, hb1⟩)
    | (go_at_call 25; refine (RList (h.ref.below hb1) hL).mono ?_; rintro e w2 ⟨A2, c2, rfl, o2, hb2⟩))
  have ob1 : w2.ownsRow w.heap.size 63 4 (.slice A1 L.length c1) L.length (items L) := own_below o1 hb2
  have hbb : Below w.heap.size w w2 := hb1.trans (hb2.mono hb1.size)
  go_loopw [7] (fun i wr => SameRel w2 L.length i wr) (fun i _ => L.length - (intOf i).toNat)
  case atStart => exact ⟨0, Nat.zero_le _, rfl, 0, rfl⟩
  case round =>
    obtain ⟨k, hk, rfl, q, rfl⟩ := hrel
    by_cases hlt : k < L.length
    · have d1 : decide (k < L.length) = true := by simpa using hlt
      obtain ⟨p, hp⟩ : ∃ p, L[k]? = some p := ⟨_, List.getElem?_eq_getElem hlt⟩
      obtain ⟨g1, rfl, a0, a1, a2, a3⟩ := item_cells (w := w2.drewN q) ob1 hp
      obtain ⟨g2, rfl, b0, b1, b2, b3⟩ := item_cells (w := w2.drewN q) o2 hp
      have i0 : (0 : Int) ≤ (k : Int) := by omega
      have i1 : (k : Int) < (L.length : Int) := by omega
      clear hp
      obtain ⟨W, hW⟩ : ∃ W, w2.drewN q = W := ⟨_, rfl⟩
      rw [hW] at a0 a1 a2 a3 b0 b1 b2 b3
      rw [hW]
      have HW := Lib.hid hW
      clear hW
      go_wp2_with fail
      go_region
      go_wp2
      go_roundw
      case rel => exact ⟨k + 1, by omega, by go_num, q + 1, by rw [← HW.out]; rfl⟩
      case measure => simp [intOf]; omega
    · have d1 : decide (k < L.length) = false := by simpa using hlt
      go_wp2
      go_ret
      exact ⟨rfl, below_drewN hbb q⟩
end Go.Proofs.Ytlhmhalamfjhjaa
