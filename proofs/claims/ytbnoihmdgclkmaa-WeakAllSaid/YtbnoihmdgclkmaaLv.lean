/- The first line of every statement: 'live' returns true. -/
import Derived.Test.YtbnoihmdgclkmaaWc
namespace Go.Proofs.Ytbnoihmdgclkmaa
open Go.RowKit Go.Shelf

/-- A slice just built of bytes. -/
theorem Rd.new (w : World) (l : List Int) : Rd (w.alloc (.cells (l.map (Value.int .u8)).toArray 5)) (w.alloc (.cells (l.map (Value.int .u8)).toArray 5)).heap.size (some ⟨w.heap.size, 0, none⟩) l := fun _ => by
  refine ⟨_, rfl, by simp, fun i hi => ?_⟩
  rw [show (⟨w.heap.size, 0, none⟩ : Addr).add i = ⟨w.heap.size, i, none⟩ from by unfold Addr.add; split <;> simp_all]
  rw [cell_of_row _ _ _ _ _ _ (heap_alloc_new w _)]
  simp [hi]

theorem byt_of {l : List Int} (h : l.all (fun x => decide (0 ≤ x ∧ x ≤ 255)) = true) : Byt l := fun i => by
  rw [List.all_eq_true] at h
  by_cases hi : i < l.length
  · have := h l[i] (List.getElem_mem hi)
    simpa [hi] using this
  · simp [Nat.le_of_not_lt hi]

theorem All_len (m : Nat) (A : Option Addr) (c n : Nat) (n' : Int) (l : List Int) (w : World) (hm : l.length = m) (hn' : n' = n) (hn : 1 ≤ n) (hnl : n ≤ m) (hl : m ≤ c) (hc : c ≤ 9223372036854775807) (hby : Byt l) (hsm : m ≤ 1000000)
    (hr : Rd w w.heap.size A l) : Calls Try.prog 12 #[.slice A m c, .int .i64 n'] w (AllGives w (winsTo l n (m - n + 1))) := by
  subst hm; subst hn'; exact All_some A c n l w hn hnl hl hc hby hsm hr

/-- A slice of bytes that came in. -/
theorem row_open {w : World} {a : Option Addr} {len cap : Nat} {zs : List Int}
    (h : (a = none ∧ len = 0 ∧ cap = 0 ∧ zs = []) ∨
      ∃ x, a = some x ∧ len ≤ cap ∧ cap ≤ maxLen ∧ zs.length = cap ∧ (∀ i, i < zs.length → w.cell? (x.add i) = some (.int .u8 (zs.getD i 0))) ∧ ∀ n ∈ zs, (Lit.int .u8 n).wf = true) :
    ∃ l : List Int, l.length = len ∧ Rd w w.heap.size a l ∧ Byt l ∧ len ≤ cap ∧ cap ≤ 9223372036854775807 := by
  rcases h with ⟨rfl, rfl, rfl, rfl⟩ | ⟨x, rfl, h1, h2, h3, h4, h5⟩
  · exact ⟨[], rfl, fun h => absurd h (by simp), fun i => by simp, Nat.le_refl _, by omega⟩
  · unfold maxLen at h2
    refine ⟨zs.take len, by simp; omega, fun hp => ?_, fun i => ?_, h1, h2⟩
    · simp only [List.length_take] at hp
      refine ⟨x, rfl, ?_, fun i hi => ?_⟩
      · have := World.block_lt_of_cell? w _ (h4 0 (by omega))
        rwa [add_block] at this
      · simp only [List.length_take] at hi
        rw [h4 i (by omega), List.getElem?_take, if_pos (by omega), List.getD_eq_getElem?_getD]
    · rw [List.getElem?_take]
      by_cases hi : i < len ∧ i < zs.length
      · rw [if_pos hi.1, List.getElem?_eq_getElem hi.2]
        have := h5 _ (List.getElem_mem hi.2)
        simp [Lit.wf, IntKind.min, IntKind.max, IntKind.bits, IntKind.signed] at this ⊢
        omega
      · split
        · rw [List.getElem?_eq_none (by omega)]; simp
        · simp

set_option maxRecDepth 100000 in
set_option maxHeartbeats 2000000 in
theorem live_any (w : World) : Calls Try.prog 7 #[] w fun e w' => e = .returned (.bool true) ∧ Below w.heap.size w w' := by
  go_enter Try.func7, Try.ntmps7
  go_wp2_with fail
  refine (Sum_len 2 _ _ [1, 2] _ rfl (Rd.new w [1, 2]) (byt_of (by decide)) (by omega)).mono ?_
  rintro e w1 ⟨rfl, hb1⟩
  rw [show wk [1, 2] = 262147 from by decide]
  have hz1 := hb1.size
  have h1 : Below w.heap.size w w1 := ((Below.refl _ w).alloc (Nat.le_refl _) _).trans (hb1.mono (by simp))
  clear hb1
  go_wp2_with fail
  refine (All_len 3 _ _ 2 _ [1, 2, 5] _ rfl rfl (by omega) (by omega) (by omega) (by omega) (byt_of (by decide)) (by omega) (Rd.new w1 [1, 2, 5])).mono ?_
  rintro e w2 ⟨v, rfl, hown, hb2⟩
  have h2 : Below w.heap.size w w2 := h1.trans (((Below.refl _ w1).alloc h1.size _).trans (hb2.mono (by simp; have := h1.size; omega)))
  rw [show winsTo [1, 2, 5] 2 (3 - 2 + 1) = [262147, 589831] from by decide] at hown
  clear hb2 h1
  rcases hown.2 with ⟨_, h0⟩ | ⟨g, cap, cur, rfl, hbg, hgg, hcap, hmx, hcs, htk⟩
  · simp at h0
  have hc0 : w2.cell? ⟨g, 0, none⟩ = some (.int .u32 262147) := hown.cells (g := g) rfl 0 _ rfl
  clear hown hbg hgg htk hcs
  have hlg := World.block_lt_of_cell? w2 _ hc0
  simp only at hlg
  go_wp2_with fail
  refine (Roll_any _ _ _ _ _ (by omega) (by omega) (by omega) (by omega) (by omega) (by omega)).mono ?_
  rintro e w3 ⟨rfl, hb3⟩
  rw [show rl 262147 1 5 2 = 589831 from by decide]
  have hc3 : w3.cell? ⟨g, 0, none⟩ = some (.int .u32 262147) := (hb3.cell hlg).trans hc0
  have h3 : Below w.heap.size w w3 := h2.trans (hb3.mono h2.size)
  have hlg3 : g < w3.heap.size := by have := hb3.size; omega
  clear hb3 hc0
  go_wp2_with fail
  refine (Sum_len 2 _ _ [2, 5] _ rfl (Rd.new w3 [2, 5]) (byt_of (by decide)) (by omega)).mono ?_
  rintro e w4 ⟨rfl, hb4⟩
  rw [show wk [2, 5] = 589831 from by decide]
  have hc4 : w4.cell? ⟨g, 0, none⟩ = some (.int .u32 262147) := (hb4.cell (by simp; omega)).trans ((World.cell?_alloc_lt w3 _ _ hlg3).trans hc3)
  have h4 : Below w.heap.size w w4 := h3.trans (((Below.refl _ w3).alloc h3.size _).trans (hb4.mono (by simp; have := h3.size; omega)))
  clear hb4 hc3
  go_wp2_with fail
  refine (All_none none 0 0 1 _ (.inr (by omega))).mono ?_
  rintro e w5 ⟨v, rfl, hown5, hb5⟩
  rcases hown5.2 with ⟨rfl, _⟩ | ⟨g5, cap5, cur5, rfl, _⟩
  · go_wp2_with fail
    go_ret
    exact ⟨rfl, h4.trans (hb5.mono h4.size)⟩
  · go_wp2_with fail
    go_ret
    exact ⟨rfl, h4.trans (hb5.mono h4.size)⟩
end Go.Proofs.Ytbnoihmdgclkmaa
