/- The disk: slices.Clone at sectors; Read; what Sync's filter says. -/
import Derived.Test.YtekajggjoeimoaaDoorDf
import Derived.Lib.SliceRun
set_option linter.unusedVariables false
namespace Go.Proofs.YtekajggjoeimoaaDoor
open Go.RowKit
theorem Tryd.info86 : (Tryd.prog.info? 86).map (fun i => (i.zero, i.size, i.bytes)) = some (some (.string ByteArray.empty), 1, 16) := by kernel_rfl
def strs (l : List ByteArray) : List Value := l.map Value.string
theorem strs_one (l : List ByteArray) : ∀ u ∈ strs l, u.oneCell' = true := fun u hu => by
  obtain ⟨_, _, rfl⟩ := List.mem_map.1 hu; rfl
theorem own_empty (w : World) (B e : Nat) (hB : B ≤ w.heap.size) : (w.alloc (.cells #[] e)).ownsRow B e 1 (.slice (some ⟨w.heap.size, 0, none⟩) 0 0) 0 [] :=
  ⟨rfl, .inr ⟨w.heap.size, 0, #[], rfl, hB, heap_alloc_new w _, Nat.le_refl _, Nat.zero_le _, rfl, rfl⟩⟩
set_option maxHeartbeats 1000000 in
set_option maxRecDepth 100000 in
/-- slices.Clone at sectors: a row of the call's own. -/
theorem Clone_strs {B : Nat} (A : Option Addr) (c : Nat) (l : List ByteArray) (w : World) (hr : Reads w B 1 A l.length (strs l)) (hB : B ≤ w.heap.size) (hl : l.length ≤ 5000) (hne : 0 < l.length) :
    Calls Tryd.prog 36 #[.slice A l.length c] w fun e w' => ∃ A' c', e = .returned (.slice A' l.length c') ∧ w'.ownsRow w.heap.size 86 1 (.slice A' l.length c') l.length (strs l) ∧ Below w.heap.size w w' := by
  obtain ⟨i0, hi0, hz0, hz1, hz2⟩ := info_parts Tryd.info86
  obtain ⟨ad, rfl, _, _⟩ := hr.2 hne
  have hnil : ∀ W : World, (binOp .eql 77 (.slice (some ad) l.length c) (.slice none 0 0)).run Tryd.prog W = .ok (.bool false) W := fun W => (by first | exact Lib.run_eql_slice_nil W 77 86 _ _ _ _ _ Tryd.underlying77 | exact Lib.run_eql_slice_nil W 77 86 _ _ _ _ Tryd.underlying77)
  go_enter Tryd.func36, Tryd.ntmps36
  go_wp2_with (at_builtin; refine wpList_append_any _ rfl (.tmp 5) (.tmp 6) _ rfl w.heap.size 86 i0 _ 1 16 Tryd.underlying77 hi0 hz0 hz1 hz2 rfl (by omega) (.slice (some ⟨w.heap.size, 0, none⟩) 0 0) 0 [] rfl (own_empty w _ _ (Nat.le_refl _)) B (some ad) l.length c (strs l) rfl (hr.alloc hB _) (strs_one l) (by simp only [maxLen]; omega) (by omega) (by simp) ?_; intro v1 w1 hown1 hg1 hat1)
  clear hnil
  obtain ⟨A', c', rfl⟩ := own_formN hown1
  go_ret
  refine ⟨A', c', by simp, by simpa using hown1, ((Below.refl _ w).alloc (Nat.le_refl _) _).grown hg1 (by simp) (fun k e => by cases e; exact Nat.le_refl _)⟩
section
variable {w w1 : World} {db fb g n k c : Nat} {sv : Value} {nm s : ByteArray} {cur : Array Value}
set_option maxHeartbeats 1000000 in
set_option maxRecDepth 100000 in
/-- Read, where the sector is there. -/
theorem Read_ok (hO : Calls Tryd.prog 32 #[.pointer (some ⟨db, 0, none⟩), .string nm] w fun e w' => e = .returned (.tuple #[.pointer (some ⟨fb, 0, none⟩), .int .i64 0]) ∧ w' = w1)
    (hf : Blk w1 fb 79 #[sv, .slice (some ⟨g, 0, none⟩) k c]) (hg : Blk w1 g 86 cur) (hn : n < k) (hu : cur[n]? = some (.string s)) {v : Value} {w2 : World} (hcv : (convert 86 38 (.string s)).run Tryd.prog w1 = .ok v w2) :
    Calls Tryd.prog 16 #[.pointer (some ⟨db, 0, none⟩), .string nm, .int .i64 n] w fun e w' => e = .returned (.tuple #[v, .nilIface]) ∧ w' = w2 := by
  have f1 : w1.cell? ⟨fb, 1, none⟩ = some (.slice (some ⟨g, 0, none⟩) k c) := hf.cell 1
  have gn : w1.cell? ⟨g, n, none⟩ = some (.string s) := (hg.cell n).trans hu
  have d0 : decide ((0 : Int) ≤ (n : Int)) = true := by simp
  have d1 : decide ((n : Int) < (k : Int)) = true := by simpa using hn
  have hS := isSector_any (n := (n : Int)) hf
  rw [d0, d1] at hS
  have i0 : (0 : Int) ≤ (n : Int) := by omega
  have i1 : (n : Int) < (k : Int) := by omega
  go_enter Tryd.func16, Tryd.ntmps16
  go_wp2_with (first
    | (go_at_call 32; refine hO.mono ?_; rintro e w9 ⟨rfl, h9⟩; obtain rfl : w1 = w9 := h9.symm)
    | (go_at_call 35; refine hS.mono ?_; rintro e w8 ⟨rfl, rfl⟩))
  go_ret2
  exact ⟨rfl, rfl⟩
end
end Go.Proofs.YtekajggjoeimoaaDoor
