/- near: are two texts the same but for one byte at most? -/
import Derived.Test.YtlhmhalamfjhjaaNf
import Derived.LoopTactic
set_option linter.unusedVariables false
namespace Go.Proofs.Ytlhmhalamfjhjaa
open Go.RowKit
/-- In how many of the first places two texts differ. -/
def diffs (s t : ByteArray) : Nat → Nat
  | 0 => 0
  | k + 1 => diffs s t k + if s.data.toList[k]? = t.data.toList[k]? then 0 else 1
theorem diffs_le (s t : ByteArray) : ∀ k, diffs s t k ≤ k
  | 0 => Nat.le_refl _
  | k + 1 => by unfold diffs; have := diffs_le s t k; split <;> omega
def nearB (s t : ByteArray) : Bool := decide (s.size = t.size) && decide (diffs s t s.size ≤ 1)
theorem get_eq {s : ByteArray} {k : Nat} (h : k < s.size) : s.data.toList[k]? = some s[k] := by
  have : k < s.data.toList.length := by simpa using h
  rw [List.getElem?_eq_getElem this]; rfl
theorem diffs_ne {s t : ByteArray} {k : Nat} (h : k < s.size) (h' : k < t.size) (hn : ((s[k].toNat : Int) != (t[k].toNat : Int)) = true) : diffs s t (k + 1) = diffs s t k + 1 := by
  rw [diffs, get_eq h, get_eq h', if_neg (fun e => by simp at e; rw [e] at hn; simp at hn)]
theorem diffs_eq {s t : ByteArray} {k : Nat} (h : k < s.size) (h' : k < t.size) (hn : ((s[k].toNat : Int) != (t[k].toNat : Int)) = false) : diffs s t (k + 1) = diffs s t k := by
  rw [diffs, get_eq h, get_eq h', if_pos (by
    have : (s[k].toNat : Int) = (t[k].toNat : Int) := by simpa using hn
    have : s[k].toNat = t[k].toNat := by omega
    rw [UInt8.toNat_inj.1 this]), Nat.add_zero]
theorem near_ret {s t : ByteArray} (h : s.size = t.size) : Ending.returned (.bool (decide ((diffs s t s.size : Int) ≤ 1))) = Ending.returned (.bool (nearB s t)) := by
  have : decide ((diffs s t s.size : Int) ≤ 1) = nearB s t := by
    unfold nearB
    rw [decide_eq_true h, Bool.true_and]
    by_cases hd : diffs s t s.size ≤ 1
    · rw [decide_eq_true hd, decide_eq_true (by omega)]
    · rw [decide_eq_false hd, decide_eq_false (by omega)]
  rw [this]
set_option maxHeartbeats 1000000 in
set_option maxRecDepth 100000 in
theorem near_any (s t : ByteArray) (w : World) (hs : s.size ≤ 1000000) (ht : t.size ≤ 1000000) :
    Calls Try.prog 15 #[.string s, .string t] w fun e w' => e = .returned (.bool (nearB s t)) ∧ ∃ n, w' = w.drewN n := by
  by_cases he : s.size = t.size
  · have d1 : ((s.size : Int) != (t.size : Int)) = false := by simp [he]
    have HE := Lib.hid he
    clear he
    go_enter Try.func15, Try.ntmps15
    go_wp2
    go_loopw [5, 6] (fun n i wr => ∃ k : Nat, k ≤ s.size ∧ i = .int .i64 k ∧ n = .int .i64 (diffs s t k) ∧ ∃ q, wr = w.drewN q) (fun _ i _ => s.size - (intOf i).toNat)
    case atStart => exact ⟨0, Nat.zero_le _, rfl, rfl, 0, rfl⟩
    case round =>
      obtain ⟨k, hk, rfl, rfl, q, rfl⟩ := hrel
      have hd := diffs_le s t k
      by_cases hlt : k < s.size
      · have hlt2 : k < t.size := by have := HE.out; omega
        have i0 : (0 : Int) ≤ (k : Int) := by omega
        have i1 : (k : Int) < (s.size : Int) := by omega
        have i2 : (k : Int) < (t.size : Int) := by omega
        go_wp2
        go_quiet (fail)
        go_wp2
        all_goals rename_i hne
        · go_roundw
          case rel => exact ⟨k + 1, by omega, by go_num, by rw [diffs_ne hlt hlt2 hne]; go_num, _, rfl⟩
          case measure => simp [intOf]; omega
        · go_roundw
          case rel => exact ⟨k + 1, by omega, by go_num, by rw [diffs_eq hlt hlt2 hne], _, rfl⟩
          case measure => simp [intOf]; omega
      · obtain rfl : k = s.size := by omega
        go_wp2
        go_ret
        exact ⟨near_ret HE.out, q, rfl⟩
  · have d1 : ((s.size : Int) != (t.size : Int)) = true := by simp; omega
    have HE : nearB s t = false := by simp [nearB, he]
    have HH := Lib.hid HE
    clear he HE
    go_enter Try.func15, Try.ntmps15
    go_wp2
    go_ret
    exact ⟨congrArg (fun b => Ending.returned (.bool b)) HH.out.symm, 0, rfl⟩
end Go.Proofs.Ytlhmhalamfjhjaa
