/- The disk's Write, walked: where the write is done. -/
import Derived.Test.YtekajggjoeimoaaDoorDe
import Derived.Test.YtekajggjoeimoaaDoorWk
import Derived.Deep.RegionLaw
import Derived.Deep.RegionHeld3
set_option linter.unusedVariables false
namespace Go.Proofs.YtekajggjoeimoaaDoor
open Go.RowKit
theorem Tryd.info89 : (Tryd.prog.info? 89).map (fun i => (i.zero, i.size, i.bytes)) = some (some (.agg #[.pointer none, .int .i64 0, .string ByteArray.empty]), 3, 32) := by kernel_rfl
theorem own_formN {w : World} {B e size n : Nat} {v : Value} {xs : List Value} (h : w.ownsRow B e size v n xs) : ∃ A c, v = .slice A n c := by
  rcases h.2 with ⟨rfl, rfl⟩ | ⟨g, cap, cur, rfl, _⟩
  · exact ⟨_, _, rfl⟩
  · exact ⟨_, _, rfl⟩
theorem reads_three {w : World} {g : Nat} {t : TypeId} {a b c : Value} (h : Blk w g t #[a, b, c]) : Reads w w.heap.size 3 (some ⟨g, 0, none⟩) 1 [a, b, c] :=
  ⟨rfl, fun _ => ⟨_, rfl, h.lt, fun j x hx => by
    have hj : j < 3 := (List.getElem?_eq_some_iff.1 hx).1
    have e : (⟨g, 0, none⟩ : Addr).add j = ⟨g, j, none⟩ := by unfold Addr.add; split <;> simp_all
    rw [e, h.cell j]
    match j, hj with
    | 0, _ => exact hx
    | 1, _ => exact hx
    | 2, _ => exact hx⟩⟩
theorem blk_otherN {w w' : World} {B e2 size n2 : Nat} {v2 : Value} {xs2 : List Value} {g : Nat} {t : TypeId} {cs : Array Value} (h : Blk w g t cs) (hg : w.grownBy w' v2.ownBlock) (h2 : w.ownsRow B e2 size v2 n2 xs2) (he : t ≠ e2) : Blk w' g t cs := by
  refine (hg.block g h.lt (fun e => ?_)).trans h
  rcases h2.2 with ⟨rfl, _⟩ | ⟨g2, cap2, cur2, rfl, _, e5, _⟩
  · simp [Value.ownBlock] at e
  · simp [Value.ownBlock] at e
    subst e
    unfold Blk at h
    rw [e5] at h
    cases h
    exact he rfl
def wcell (fb n : Nat) (s : ByteArray) : List Value := [.pointer (some ⟨fb, 0, none⟩), .int .i64 n, .string s]
theorem wcell_one {fb n : Nat} {s : ByteArray} : ∀ u ∈ wcell fb n s, u.oneCell' = true := by
  intro u hu
  simp only [wcell, List.mem_cons, List.not_mem_nil, or_false] at hu
  rcases hu with rfl | rfl | rfl <;> rfl
set_option maxHeartbeats 4000000 in
set_option maxRecDepth 100000 in
theorem Write_walk {B : Nat} {w w1 w2 : World} {db fb g n k c m cw cp : Nat} {room after code : Int} {armed : Bool} {sf nw ch sv u : Value} {Aw Ap : Option Addr} {nm s : ByteArray} {cur : Array Value} {xs : List Value}
    (hO : Calls Tryd.prog 32 #[.pointer (some ⟨db, 0, none⟩), .string nm] w fun e w' => e = .returned (.tuple #[.pointer (some ⟨fb, 0, none⟩), .int .i64 0]) ∧ w' = w1)
    (hf : Blk w1 fb 79 #[sv, .slice (some ⟨g, 0, none⟩) k c]) (hg : Blk w1 g 86 cur) (hn : n < k) (hk : k ≤ 4096) (hu : cur[n]? = some u)
    (hd : Blk w1 db 64 (dcells room sf nw ch (.slice Aw m cw) armed after code)) (hown : w1.ownsRow B 89 3 (.slice Aw m cw) m xs) (hm : m ≤ 1000) (hB : B ≤ w1.heap.size) (hne : db ≠ g)
    (hw2 : (w1.setCell ⟨g, n, none⟩ (.string s)).drew = w2)
    (cv1 : (convert 38 86 (.slice Ap 64 cp)).run Tryd.prog w1.drew = .ok (.string s) w1.drew) (cv2 : (convert 38 86 (.slice Ap 64 cp)).run Tryd.prog w2.drew = .ok (.string s) w2.drew) :
    Calls Tryd.prog 13 #[.pointer (some ⟨db, 0, none⟩), .string nm, .int .i64 n, .slice Ap 64 cp] w fun e w' => e = .returned .nilIface ∧
      ∃ A2 c2 w3, w3.ownsRow B 89 3 (.slice A2 (m + 1) c2) (m + 1) (xs ++ wcell fb n s) ∧ (w2.drew.alloc (.cells #[.pointer (some ⟨fb, 0, none⟩), .int .i64 n, .string s] 89)).grownBy w3 (.slice Aw m cw : Value).ownBlock ∧ w' = w3.setCell ⟨db, 4, none⟩ (.slice A2 (m + 1) c2) := by
  obtain ⟨i8, hi8, hz8, hz8', hz8''⟩ := info_parts Tryd.info89
  have f1 : w1.cell? ⟨fb, 1, none⟩ = some (.slice (some ⟨g, 0, none⟩) k c) := hf.cell 1
  have gn : w1.cell? ⟨g, n, none⟩ = some u := (hg.cell n).trans hu
  have gf := hg.frozen n
  have d0 : decide ((0 : Int) ≤ (n : Int)) = true := by simp
  have d1 : decide ((n : Int) < (k : Int)) = true := by simpa using hn
  have hS := isSector_any (n := (n : Int)) hf
  rw [d0, d1] at hS
  have i0 : (0 : Int) ≤ (n : Int) := by omega
  have i1 : (n : Int) < (k : Int) := by omega
  have HW := Lib.hid hw2
  have hfd : Blk w1.drew fb 79 _ := hf
  have bd2 : Blk w2 db 64 (dcells room sf nw ch (.slice Aw m cw) armed after code) := by rw [← hw2]; exact Blk.drew (Blk.far hd hne _)
  have ow2 : w2.ownsRow B 89 3 (.slice Aw m cw) m xs := by
    rw [← hw2]
    refine ⟨hown.1, hown.2.imp id ?_⟩
    rintro ⟨g', cap, cur', e1, e2, e3, e4⟩
    refine ⟨g', cap, cur', e1, e2, (Below.heap_setCell _ _ _ _ (fun e => ?_)).trans e3, e4⟩
    have e' : g' = g := e
    subst e'
    unfold Blk at hg
    rw [hg] at e3
    cases e3
  have hB2 : B ≤ w2.heap.size := by rw [← hw2]; simpa [World.setCell] using hB
  have dc4 : w2.cell? ⟨db, 4, none⟩ = some (.slice Aw m cw) := bd2.cell 4
  have dc4' : (w2.alloc (.cells #[.pointer (some ⟨fb, 0, none⟩), .int .i64 n, .string s] 89)).cell? ⟨db, 4, none⟩ = some (.slice Aw m cw) := (bd2.alloc _).cell 4
  clear hw2
  go_enter Tryd.func13, Tryd.ntmps13
  go_wp2_with (first
    | (go_at_call 32; refine hO.mono ?_; rintro e w9 ⟨rfl, h9⟩; obtain rfl : w1 = w9 := h9.symm)
    | (go_at_call 35; refine hS.mono ?_; rintro e w8 ⟨rfl, rfl⟩))
  refine wp_region_tail 8 (by kernel_rfl) (by kernel_rfl) ?_
  repeat still_step
  refine wpStill_nil ?_
  go_wp2
  rw [HW.out]
  go_region_law (first
    | (refine step_append_any _ (by rfl) (.tmp 29) (.tmp 35) 62 (by rfl) B 89 i8 _ 3 32 Tryd.underlying62 hi8 hz8 hz8' hz8'' rfl (by omega) (.slice Aw m cw) m xs (by rfl) ((show w2.drew.ownsRow B 89 3 (.slice Aw m cw) m xs from ow2).alloc _) _ _ 1 1 (wcell fb n s) (by rfl) (reads_three (Blk.new w2.drew 89 _)) wcell_one (by simp only [maxLen]; omega) (by omega) (by simp; omega) ?_; intro v3 w3 ho3 hg3 hl3; obtain ⟨A3, c3, rfl⟩ := own_formN ho3; have bd3 : Blk w3 db 64 (dcells room sf nw ch (.slice Aw m cw) armed after code) := blk_otherN ((show Blk w2.drew db 64 _ from bd2).alloc _) hg3 ((show w2.drew.ownsRow B 89 3 (.slice Aw m cw) m xs from ow2).alloc _) (by decide); have k4 : w3.cell? ⟨db, 4, none⟩ = some (.slice Aw m cw) := bd3.cell 4; have l4 := bd3.frozen 4))
  all_goals
    go_wp2_with (go_at_call 23; refine (fault_ok _ _ _).mono ?_; rintro e w7 ⟨rfl, rfl⟩)
    go_ret
    exact ⟨rfl, _, _, _, ho3, hg3, rfl⟩
end Go.Proofs.YtekajggjoeimoaaDoor
