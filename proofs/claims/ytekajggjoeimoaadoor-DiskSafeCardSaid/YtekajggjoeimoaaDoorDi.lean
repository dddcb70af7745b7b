/- The disk: slices.IndexFunc at pending writes: the first write of a file. -/
import Derived.Test.YtekajggjoeimoaaDoorDh
set_option linter.unusedVariables false
namespace Go.Proofs.YtekajggjoeimoaaDoor
open Go.RowKit
/-- The place of the first write of a file. -/
def first (fb : Nat) : List Wr → Nat → Option Nat
  | [], _ => none
  | x :: l, i => if x.f = fb then some i else first fb l (i + 1)
def firstI (fb : Nat) (l : List Wr) : Int := match first fb l 0 with
  | some i => i
  | none => -1
theorem first_step {fb : Nat} : ∀ {l : List Wr} {i k : Nat}, (∀ j y, j < k → l[j]? = some y → y.f ≠ fb) → k ≤ l.length → first fb l i = first fb (l.drop k) (i + k)
  | l, i, 0, _, _ => by simp
  | [], i, k + 1, _, hk => by simp at hk
  | x :: l, i, k + 1, h, hk => by
    have h0 : first fb (x :: l) i = first fb l (i + 1) := if_neg (h 0 x (by omega) rfl)
    rw [h0, List.drop_succ_cons, first_step (i := i + 1) (k := k) (fun j y hj hy => h (j + 1) y (by omega) (by simpa using hy)) (by simpa using hk), show i + 1 + k = i + (k + 1) by omega]
theorem first_hit {fb k : Nat} {l : List Wr} {y : Wr} (h : ∀ j y, j < k → l[j]? = some y → y.f ≠ fb) (hy : l[k]? = some y) (hq : y.f = fb) : firstI fb l = k := by
  have hk := (List.getElem?_eq_some_iff.1 hy).1
  have e : l.drop k = y :: l.drop (k + 1) := by
    rw [← (List.getElem?_eq_some_iff.1 hy).2, List.getElem_cons_drop]
  unfold firstI
  rw [first_step (i := 0) h (Nat.le_of_lt hk), e]
  unfold first
  rw [if_pos hq]
  simp
theorem first_none {fb : Nat} {l : List Wr} (h : ∀ j y, j < l.length → l[j]? = some y → y.f ≠ fb) : firstI fb l = -1 := by
  unfold firstI
  rw [first_step (i := 0) h (Nat.le_refl _), List.drop_length]
  rfl
def IxRel (W : World) (fb : Nat) (l : List Wr) (i : Value) (wr : World) : Prop := ∃ k, k ≤ l.length ∧ i = .int .i64 k ∧ (∀ j y, j < k → l[j]? = some y → y.f ≠ fb) ∧ Below W.heap.size W wr
set_option maxHeartbeats 2000000 in
set_option maxRecDepth 100000 in
theorem IndexFunc_any {B : Nat} {w : World} {pf fb c : Nat} {A : Option Addr} {l : List Wr} (hown : w.ownsRow B 89 3 (.slice A l.length c) l.length (wcells l)) (hl : l.length ≤ 1000) (hp : w.cell? ⟨pf, 0, none⟩ = some (.pointer (some ⟨fb, 0, none⟩)))
    (hfs : ∀ y ∈ l, ∃ cf tf, w.heap[y.f]? = some (.cells cf tf (0, 0))) (hfb : ∃ cf tf, w.heap[fb]? = some (.cells cf tf (0, 0))) :
    Calls Tryd.prog 54 #[.slice A l.length c, .func (.func 38) #[] #[.pointer (some ⟨pf, 0, none⟩)]] w fun e w' => e = .returned (.int .i64 (firstI fb l)) ∧ Below w.heap.size w w' := by
  obtain ⟨cg, tg, hfb⟩ := hfb
  have hfl := (Array.getElem?_eq_some_iff.1 hfb).1
  have hpl := World.block_lt_of_cell? w _ hp
  go_enter Tryd.func54, Tryd.ntmps54
  go_wp2
  go_loopw [8] (fun i wr => IxRel w fb l i wr) (fun i _ => l.length - (intOf i).toNat)
  case atStart => exact ⟨0, Nat.zero_le _, rfl, fun j y hj => by omega, Below.refl _ _⟩
  case round =>
    obtain ⟨k, hk, rfl, hno, hB⟩ := hrel
    have HNO := Lib.hid hno
    clear hno
    by_cases hlt : k < l.length
    · have d1 : decide (k < l.length) = true := by simpa using hlt
      obtain ⟨y, hy⟩ : ∃ y, l[k]? = some y := ⟨_, List.getElem?_eq_getElem hlt⟩
      obtain ⟨g, cur, rfl, hBg, hg, hcur⟩ := own3_form hown (by omega)
      have hg2 : Blk wr g 89 cur := (hB.block g hg.lt).trans hg
      obtain ⟨e0, e1, e2⟩ := wr_cells hg2 hcur hy
      obtain ⟨cf, tf, hyf⟩ := hfs y (List.mem_of_getElem? hy)
      have i0 : (0 : Int) ≤ (k : Int) := by omega
      have i1 : (k : Int) < (l.length : Int) := by omega
      have hI := isOf (w := wr) y ((hB.cell (p := ⟨pf, 0, none⟩) hpl).trans hp) ((hB.block _ (Array.getElem?_eq_some_iff.1 hyf).1).trans hyf) ((hB.block _ hfl).trans hfb)
      by_cases hq : y.f = fb
      · rw [decide_eq_true hq] at hI
        have HQ := Lib.hid hq
        clear hq
        go_wp2_with (go_at_call 38; refine hI.mono ?_; rintro e w9 ⟨rfl, rfl⟩)
        go_ret
        exact ⟨by rw [first_hit HNO.out hy HQ.out]; rfl, hB.alloc hB.size _⟩
      · rw [decide_eq_false hq] at hI
        go_wp2_with (go_at_call 38; refine hI.mono ?_; rintro e w9 ⟨rfl, rfl⟩)
        go_roundw
        case rel => exact ⟨k + 1, by omega, by go_num, fun j z hj hz => by
          by_cases e : j = k
          · subst e; rw [hy] at hz; cases hz; exact hq
          · exact HNO.out j z (by omega) hz, hB.alloc hB.size _⟩
        case measure => simp [intOf]; omega
    · have d1 : decide (k < l.length) = false := by simpa using hlt
      obtain rfl : k = l.length := by omega
      go_wp2
      go_ret
      exact ⟨by rw [first_none HNO.out]; rfl, hB⟩
end Go.Proofs.YtekajggjoeimoaaDoor
