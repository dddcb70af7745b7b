/- The disk: slices.Contains at ints. -/
import Derived.Test.YtekajggjoeimoaaDoorDi
set_option linter.unusedVariables false
namespace Go.Proofs.YtekajggjoeimoaaDoor
open Go.RowKit
def CtRel (W : World) (ks : List Int) (v : Int) (i : Value) (wr : World) : Prop := wr = W ∧ ∃ k, k ≤ ks.length ∧ i = .int .i64 k ∧ ∀ j y, j < k → ks[j]? = some y → y ≠ v
set_option maxHeartbeats 2000000 in
set_option maxRecDepth 100000 in
theorem Index_ints {B : Nat} {w : World} {A : Option Addr} {c : Nat} {ks : List Int} (hr : Reads w B 1 A ks.length (ks.map (.int .i64))) (hl : ks.length ≤ 1000000) (v : Int) :
    Calls Tryd.prog 55 #[.slice A ks.length c, .int .i64 v] w fun e w' => (∃ q : Int, e = .returned (.int .i64 q) ∧ decide (0 ≤ q) = decide (v ∈ ks)) ∧ w = w' := by
  go_enter Tryd.func55, Tryd.ntmps55
  go_wp2
  go_loopw [8] (fun i wr => CtRel w ks v i wr) (fun i _ => ks.length - (intOf i).toNat)
  case atStart => exact ⟨rfl, 0, Nat.zero_le _, rfl, fun j y hj => by omega⟩
  case round =>
    obtain ⟨rfl, k, hk, rfl, hno⟩ := hrel
    have HNO := Lib.hid hno
    clear hno
    by_cases hlt : k < ks.length
    · have d1 : decide (k < ks.length) = true := by simpa using hlt
      obtain ⟨y, hy⟩ : ∃ y, ks[k]? = some y := ⟨_, List.getElem?_eq_getElem hlt⟩
      obtain ⟨ad, u, rfl, _, hu, hc⟩ := hr.at_ hlt
      rw [List.getElem?_map, hy] at hu
      cases hu
      have i0 : (0 : Int) ≤ (k : Int) := by omega
      have i1 : (k : Int) < (ks.length : Int) := by omega
      cases hq : (v == y) with
      | true =>
        have HQ := Lib.hid (eq_of_beq hq)
        have HY := Lib.hid hy
        clear hy
        go_wp2
        go_ret
        exact ⟨⟨k, rfl, by rw [decide_eq_true (by omega : (0 : Int) ≤ (k : Int)), decide_eq_true (by rw [HQ.out]; exact List.mem_of_getElem? HY.out)]⟩, rfl⟩
      | false =>
        have HQ := Lib.hid (beq_eq_false_iff_ne.1 hq)
        have HY := Lib.hid hy
        clear hy
        go_wp2
        go_roundw
        case rel => exact ⟨rfl, k + 1, by omega, by go_num, fun j z hj hz => by
          by_cases e : j = k
          · subst e; rw [HY.out] at hz; cases hz; exact fun e => HQ.out e.symm
          · exact HNO.out j z (by omega) hz⟩
        case measure => simp [intOf]; omega
    · have d1 : decide (k < ks.length) = false := by simpa using hlt
      obtain rfl : k = ks.length := by omega
      go_wp2
      go_ret
      refine ⟨⟨-1, rfl, ?_⟩, rfl⟩
      rw [decide_eq_false (by omega), decide_eq_false (fun hm => ?_)]
      obtain ⟨j, hj, he⟩ := List.getElem_of_mem hm
      exact HNO.out j v hj (by rw [List.getElem?_eq_getElem hj, he]) rfl
set_option maxHeartbeats 1000000 in
set_option maxRecDepth 100000 in
theorem Contains_ints {B : Nat} {w : World} {A : Option Addr} {c : Nat} {ks : List Int} (hr : Reads w B 1 A ks.length (ks.map (.int .i64))) (hl : ks.length ≤ 1000000) (v : Int) :
    Calls Tryd.prog 40 #[.slice A ks.length c, .int .i64 v] w fun e w' => e = .returned (.bool (decide (v ∈ ks))) ∧ w = w' := by
  go_enter Tryd.func40, Tryd.ntmps40
  go_wp2_with (go_at_call 55; refine (Index_ints hr hl v).mono ?_; rintro e w9 ⟨⟨q, rfl, hq⟩, rfl⟩)
  go_ret
  exact ⟨by rw [← hq]; rfl, rfl⟩
end Go.Proofs.YtekajggjoeimoaaDoor
