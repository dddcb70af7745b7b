/- The document's net, walked: where a packet is; Send. -/
import Derived.Test.YtlhmhalamfjhjaaNo
import Derived.Deep.RegionLaw
set_option linter.unusedVariables false
namespace Go.Proofs.Ytlhmhalamfjhjaa
open Go.RowKit
/-- A packet's cells. -/
def PkA.cells (x : PkA) : List Value := [.int .i64 x.p.id, .int .i64 x.p.to, .slice x.A x.p.b.length x.c, .bool x.p.sp]
def cellsL (l : List PkA) : List Value := l.flatMap PkA.cells
theorem cellsL_len (l : List PkA) : (cellsL l).length = l.length * 4 := by
  induction l with
  | nil => rfl
  | cons x l ih =>
    have : cellsL (x :: l) = x.cells ++ cellsL l := by simp [cellsL]
    rw [this, List.length_append, ih, List.length_cons]
    simp [PkA.cells]; omega
theorem cellsL_at : ∀ {l : List PkA} {k : Nat} {x : PkA}, l[k]? = some x → ∀ j, j < 4 → (cellsL l)[k * 4 + j]? = x.cells[j]?
  | [], k, x, h, j, hj => by simp at h
  | y :: l, 0, x, h, j, hj => by
    simp at h; subst h
    have : cellsL (y :: l) = y.cells ++ cellsL l := by simp [cellsL]
    rw [this, List.getElem?_append_left (by simp [PkA.cells]; omega)]
    simp
  | y :: l, k + 1, x, h, j, hj => by
    have e : cellsL (y :: l) = y.cells ++ cellsL l := by simp [cellsL]
    rw [e, List.getElem?_append_right (by simp [PkA.cells]; omega)]
    have := cellsL_at (l := l) (k := k) (x := x) (by simpa using h) j hj
    rw [← this]
    congr 1
    simp [PkA.cells]; omega
/-- The document's net in memory. -/
structure RefAt (B : Nat) (w : World) (mb : Nat) (nx : Int) (l : List PkA) : Prop where
  blk : ∃ A c, Blk w mb 54 #[.slice A l.length c, .int .i64 nx] ∧ w.ownsRow B 75 4 (.slice A l.length c) l.length (cellsL l)
  base : B ≤ mb
  rows : ∀ x ∈ l, Row w x.A x.c x.p.b
theorem look_min (id : Int) : ∀ (l : List PkA) (i j : Nat) (y : PkA), look id l i = some (j, y) → ∀ (k : Nat) (x : PkA), i + k < j → l[k]? = some x → x.p.id ≠ id
  | [], i, j, y, h, k, x, hk, hx => by cases h
  | z :: l, i, j, y, h, k, x, hk, hx => by
    unfold look at h
    by_cases e : z.p.id = id
    · rw [if_pos e] at h; cases h; omega
    · rw [if_neg e] at h
      cases k with
      | zero => simp at hx; subst hx; exact e
      | succ k => exact look_min id l (i + 1) j y h k x (by omega) (by simpa using hx)
theorem look_all (id : Int) : ∀ (l : List PkA) (i : Nat), look id l i = none → ∀ x ∈ l, x.p.id ≠ id
  | [], i, h, x, hx => by cases hx
  | z :: l, i, h, x, hx => by
    unfold look at h
    by_cases e : z.p.id = id
    · rw [if_pos e] at h; cases h
    · rw [if_neg e] at h
      rcases List.mem_cons.1 hx with rfl | hx
      · exact e
      · exact look_all id l (i + 1) h x hx
theorem own4_form {w : World} {B : Nat} {A : Option Addr} {n c : Nat} {xs : List Value} (h : w.ownsRow B 75 4 (.slice A n c) n xs) (h0 : 0 < n) :
    ∃ (g : Nat) (cur : Array Value), A = some ⟨g, 0, none⟩ ∧ B ≤ g ∧ Blk w g 75 cur ∧ ∀ (j : Nat) (u : Value), xs[j]? = some u → cur[j]? = some u := by
  rcases h.2 with ⟨_, h1⟩ | ⟨g, cap, cur, e, h1, h2, h3, h4, h5, h6⟩
  · omega
  · simp only [Value.slice.injEq] at e
    obtain ⟨rfl, _, rfl⟩ := e
    refine ⟨g, cur, rfl, h1, h2, fun j u hu => ?_⟩
    have hj := (List.getElem?_eq_some_iff.1 hu).1
    rw [← h6, List.getElem?_take] at hu
    by_cases hlt : j < n * 4
    · rw [if_pos hlt] at hu; simpa using hu
    · rw [if_neg hlt] at hu; cases hu
set_option maxHeartbeats 1000000 in
set_option maxRecDepth 100000 in
theorem at_some {B : Nat} {w : World} {mb : Nat} {nx : Int} {l : List PkA} (h : RefAt B w mb nx l) (hl : l.length ≤ 1000000) {id : Int} {j : Nat} {y : PkA} (hlk : look id l 0 = some (j, y)) :
    Calls Try.prog 31 #[.pointer (some ⟨mb, 0, none⟩), .int .i64 id] w fun e w' => e = .returned (.int .i64 j) ∧ w = w' := by
  obtain ⟨A, c, hb, hown⟩ := h.blk
  have c0 : w.cell? ⟨mb, 0, none⟩ = some (.slice A l.length c) := hb.cell 0
  obtain ⟨_, hj, hid⟩ := look_spec _ _ _ _ _ hlk
  simp only [Nat.sub_zero] at hj
  have hjl := (List.getElem?_eq_some_iff.1 hj).1
  obtain ⟨g, cur, rfl, _, hg, hcur⟩ := own4_form hown (by omega)
  go_enter Try.func31, Try.ntmps31
  go_wp2
  go_loop [5] (fun i => ∃ k : Nat, k ≤ j ∧ i = .int .i64 k) (fun i => l.length - (intOf i).toNat)
  case atStart => exact ⟨0, Nat.zero_le _, rfl⟩
  case round =>
    obtain ⟨k, hk, rfl⟩ := hrel
    have hkl : k < l.length := by omega
    have d1 : decide (k < l.length) = true := by simpa using hkl
    obtain ⟨x, hx⟩ : ∃ x, l[k]? = some x := ⟨_, List.getElem?_eq_getElem hkl⟩
    have e0 : w.cell? ⟨g, k * 4, none⟩ = some (.int .i64 x.p.id) := by
      rw [hg.cell]
      exact hcur _ _ ((cellsL_at hx 0 (by omega)).trans rfl)
    by_cases he : k = j
    · subst he
      rw [hj] at hx
      cases hx
      have d2 : (y.p.id == id) = true := by simpa using hid
      clear hid
      go_wp2
      go_ret
      exact ⟨rfl, rfl⟩
    · have d2 : (x.p.id == id) = false := by simpa using look_min _ _ _ _ _ hlk k x (by omega) hx
      clear hid hlk
      go_wp2
      go_round
      case rel => exact ⟨k + 1, by omega, by go_num⟩
      case measure => simp [intOf]; omega
set_option maxHeartbeats 1000000 in
set_option maxRecDepth 100000 in
theorem at_none {B : Nat} {w : World} {mb : Nat} {nx : Int} {l : List PkA} (h : RefAt B w mb nx l) (hl : l.length ≤ 1000000) {id : Int} (hlk : look id l 0 = none) :
    Calls Try.prog 31 #[.pointer (some ⟨mb, 0, none⟩), .int .i64 id] w fun e w' => e = .returned (.int .i64 (-1)) ∧ w = w' := by
  obtain ⟨A, c, hb, hown⟩ := h.blk
  have c0 : w.cell? ⟨mb, 0, none⟩ = some (.slice A l.length c) := hb.cell 0
  go_enter Try.func31, Try.ntmps31
  go_wp2
  go_loop [5] (fun i => ∃ k : Nat, k ≤ l.length ∧ i = .int .i64 k) (fun i => l.length - (intOf i).toNat)
  case atStart => exact ⟨0, Nat.zero_le _, rfl⟩
  case round =>
    obtain ⟨k, hk, rfl⟩ := hrel
    by_cases hkl : k < l.length
    · have d1 : decide (k < l.length) = true := by simpa using hkl
      obtain ⟨x, hx⟩ : ∃ x, l[k]? = some x := ⟨_, List.getElem?_eq_getElem hkl⟩
      obtain ⟨g, cur, rfl, _, hg, hcur⟩ := own4_form hown (by omega)
      have e0 : w.cell? ⟨g, k * 4, none⟩ = some (.int .i64 x.p.id) := by
        rw [hg.cell]
        exact hcur _ _ ((cellsL_at hx 0 (by omega)).trans rfl)
      have d2 : (x.p.id == id) = false := by simpa using look_all _ _ _ hlk x (List.mem_of_getElem? hx)
      clear hlk
      go_wp2
      go_round
      case rel => exact ⟨k + 1, by omega, by go_num⟩
      case measure => simp [intOf]; omega
    · have d1 : decide (k < l.length) = false := by simpa using hkl
      clear hlk
      go_wp2
      go_ret
      exact ⟨rfl, rfl⟩
end Go.Proofs.Ytlhmhalamfjhjaa
