/- The disk's Create, walked: where a name comes. -/
import Derived.Test.YtekajggjoeimoaaDoorDl
set_option linter.unusedVariables false
namespace Go.Proofs.YtekajggjoeimoaaDoor
open Go.RowKit
open Da
open Ev (ev AS hBase)
namespace Da
set_option maxRecDepth 1000000
theorem name_run : isTr ((ev C0 1000).f 30 [.string ⟨#[97]⟩] ⟨0, .leaf⟩) = true := by kernel_rfl
end Da
theorem name_a {w : World} (hg : GlobAt w) : Calls Tryd.prog 30 #[.string ⟨#[97]⟩] w fun e w' => e = .returned (.bool true) ∧ Below w.heap.size w w' := by
  obtain ⟨s', hs'⟩ := isTr_some name_run
  exact Ev.run_args c0OK hs' (Ev.LRel.cons (.plain _ rfl) (Ev.LRel.nil _)) rfl rfl w (glob_of hands0 hg) (fun k h => by cases h) (fun g cs h => by cases h)
set_option maxHeartbeats 2000000 in
set_option maxRecDepth 100000 in
theorem Create_walk {w w1 : World} {db M ck : Nat} {room after code : Int} {armed : Bool} {sf ch wrs : Value} {nm : ByteArray} {l : List DE} {R : World → Nat → World → Prop}
    (hR : Calls Tryd.prog 26 #[.pointer (some ⟨db, 0, none⟩)] w fun e w' => e = .returned (.int .i64 0) ∧ w' = w1)
    (hN : Calls Tryd.prog 30 #[.string nm] w1 fun e w' => e = .returned (.bool true) ∧ Below w1.heap.size w1 w')
    (hb : Blk w1 db 64 (dcells room sf (.map (some M)) ch wrs armed after code)) (hM : w1.heap[M]? = some (.map (l.map DE.ent).toArray ck)) (hl : look nm l 0 = none) (hn : l.length < 8)
    (hT : ∀ w2, Below w1.heap.size w1 w2 → Calls Tryd.prog 31 #[.pointer (some ⟨db, 0, none⟩), .agg #[.string nm, .string ⟨#[]⟩, .pointer (some ⟨w2.heap.size, 0, none⟩)]] (w2.alloc (.cells #[.slice none 0 0, .slice none 0 0] 79)) fun e w' => e = .returned (.tuple #[]) ∧ R w2 w2.heap.size w') :
    Calls Tryd.prog 11 #[.pointer (some ⟨db, 0, none⟩), .string nm] w fun e w' => e = .returned .nilIface ∧ ∃ w2, Below w1.heap.size w1 w2 ∧ R w2 w2.heap.size w' := by
  have d8 : decide ((8 : Int) ≤ (l.length : Int)) = false := by simp; omega
  go_enter Tryd.func11, Tryd.ntmps11
  go_wp2_with (first
    | (go_at_call 26; refine hR.mono ?_; rintro e w9 ⟨rfl, h9⟩; obtain rfl : w1 = w9 := h9.symm)
    | (go_at_call 30; refine hN.mono ?_; rintro e w2 ⟨rfl, hb2⟩; have bd2 : Blk w2 db 64 _ := (hb2.block db hb.lt).trans hb; have M2 : w2.heap[M]? = some (.map (l.map DE.ent).toArray ck) := (hb2.block M (Array.getElem?_eq_some_iff.1 hM).1).trans hM; have q2 : w2.cell? ⟨db, 2, none⟩ = some (.map (some M)) := bd2.cell 2)
    | (at_lookup; refine wpList_look1_none rfl _ _ rfl rfl rfl M2 hl ?_)
    | (at_len; refine wpList_maplen rfl _ rfl rfl M2 ?_)
    | (go_at_call 31; refine (hT w2 hb2).mono ?_; rintro e w3 ⟨rfl, hR3⟩)
    | (go_at_call 23; refine (fault_ok _ _ _).mono ?_; rintro e w7 ⟨rfl, rfl⟩))
  go_ret
  exact ⟨rfl, _, hb2, hR3⟩
end Go.Proofs.YtekajggjoeimoaaDoor
