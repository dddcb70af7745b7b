/- The disk: a name's file; a file opened; whether it has a sector. -/
import Derived.Test.YtekajggjoeimoaaDoorDd
set_option linter.unusedVariables false
namespace Go.Proofs.YtekajggjoeimoaaDoor
open Go.RowKit
section
variable {w w1 : World} {db M ck : Nat} {room after code : Int} {armed : Bool} {sf ch wrs : Value} {l : List DE} {nm : ByteArray}
set_option maxHeartbeats 1000000 in
set_option maxRecDepth 100000 in
theorem file_some (hb : Blk w db 64 (dcells room sf (.map (some M)) ch wrs armed after code)) (hM : w.heap[M]? = some (.map (l.map DE.ent).toArray ck)) {j : Nat} {y : DE} (hl : look nm l 0 = some (j, y)) :
    Calls Tryd.prog 42 #[.pointer (some ⟨db, 0, none⟩), .string nm] w fun e w' => e = .returned (.tuple #[.pointer (some ⟨y.f, 0, none⟩), .int .i64 0]) ∧ w = w' := by
  have c2 : w.cell? ⟨db, 2, none⟩ = some (.map (some M)) := hb.cell 2
  go_enter Tryd.func42, Tryd.ntmps42
  go_wp2_with (at_lookup; refine wpList_look_some rfl _ _ rfl rfl rfl hM hl ?_)
  go_ret2
  exact ⟨rfl, rfl⟩
set_option maxHeartbeats 1000000 in
set_option maxRecDepth 100000 in
theorem file_none (hb : Blk w db 64 (dcells room sf (.map (some M)) ch wrs armed after code)) (hM : w.heap[M]? = some (.map (l.map DE.ent).toArray ck)) (hl : look nm l 0 = none) :
    Calls Tryd.prog 42 #[.pointer (some ⟨db, 0, none⟩), .string nm] w fun e w' => e = .returned (.tuple #[.pointer none, .int .i64 7]) ∧ w = w' := by
  have c2 : w.cell? ⟨db, 2, none⟩ = some (.map (some M)) := hb.cell 2
  go_enter Tryd.func42, Tryd.ntmps42
  go_wp2_with (at_lookup; refine wpList_look_none rfl _ _ rfl rfl rfl hM hl ?_)
  go_ret2
  exact ⟨rfl, rfl⟩
set_option maxHeartbeats 1000000 in
set_option maxRecDepth 100000 in
theorem opened_no {c : Int} (hR : Calls Tryd.prog 26 #[.pointer (some ⟨db, 0, none⟩)] w fun e w' => e = .returned (.int .i64 c) ∧ w' = w1) (hc : (c != 0) = true) :
    Calls Tryd.prog 32 #[.pointer (some ⟨db, 0, none⟩), .string nm] w fun e w' => e = .returned (.tuple #[.pointer none, .int .i64 c]) ∧ w' = w1 := by
  go_enter Tryd.func32, Tryd.ntmps32
  go_wp2_with (go_at_call 26; refine hR.mono ?_; rintro e w9 ⟨rfl, rfl⟩)
  go_ret2
  exact ⟨rfl, rfl⟩
set_option maxHeartbeats 1000000 in
set_option maxRecDepth 100000 in
theorem opened_go {v : Value} {c : Int} (hR : Calls Tryd.prog 26 #[.pointer (some ⟨db, 0, none⟩)] w fun e w' => e = .returned (.int .i64 0) ∧ w' = w1)
    (hF : Calls Tryd.prog 42 #[.pointer (some ⟨db, 0, none⟩), .string nm] w1 fun e w' => e = .returned (.tuple #[v, .int .i64 c]) ∧ w1 = w') :
    Calls Tryd.prog 32 #[.pointer (some ⟨db, 0, none⟩), .string nm] w fun e w' => e = .returned (.tuple #[v, .int .i64 c]) ∧ w' = w1 := by
  go_enter Tryd.func32, Tryd.ntmps32
  go_wp2_with (first
    | (go_at_call 26; refine hR.mono ?_; rintro e w9 ⟨rfl, rfl⟩)
    | (go_at_call 42; refine hF.mono ?_; rintro e w8 ⟨rfl, rfl⟩))
  go_ret2
  exact ⟨rfl, rfl⟩
set_option maxHeartbeats 1000000 in
set_option maxRecDepth 100000 in
theorem isSector_any {fb : Nat} {sv : Value} {n : Int} {k c : Nat} {A : Option Addr} (hf : Blk w fb 79 #[sv, .slice A k c]) :
    Calls Tryd.prog 35 #[.pointer (some ⟨fb, 0, none⟩), .int .i64 n] w fun e w' => e = .returned (.bool (decide (0 ≤ n) && decide (n < (k : Int)))) ∧ w = w' := by
  have c1 : w.cell? ⟨fb, 1, none⟩ = some (.slice A k c) := hf.cell 1
  cases d0 : decide (0 ≤ n) with
  | false =>
    go_enter Tryd.func35, Tryd.ntmps35
    go_wp2
    go_ret
    exact ⟨rfl, rfl⟩
  | true =>
    go_enter Tryd.func35, Tryd.ntmps35
    go_wp2
    go_ret
    exact ⟨by simp, rfl⟩
end
end Go.Proofs.YtekajggjoeimoaaDoor
