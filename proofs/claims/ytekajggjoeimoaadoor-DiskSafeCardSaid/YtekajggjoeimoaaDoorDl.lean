/- The disk: its turn at a new name. -/
import Derived.Test.YtekajggjoeimoaaDoorDk
set_option linter.unusedVariables false
namespace Go.Proofs.YtekajggjoeimoaaDoor
open Go.RowKit
theorem Tryd.info81 : (Tryd.prog.info? 81).map (fun i => (i.zero, i.size, i.bytes)) = some (some (.agg #[.string ByteArray.empty, .string ByteArray.empty, .pointer none]), 3, 40) := by kernel_rfl
def ccell (nm to : ByteArray) (fb : Nat) : List Value := [.string nm, .string to, .pointer (some ⟨fb, 0, none⟩)]
theorem ccell_one {nm to : ByteArray} {fb : Nat} : ∀ u ∈ ccell nm to fb, u.oneCell' = true := by
  intro u hu
  simp only [ccell, List.mem_cons, List.not_mem_nil, or_false] at hu
  rcases hu with rfl | rfl | rfl <;> rfl
set_option maxHeartbeats 4000000 in
set_option maxRecDepth 100000 in
theorem turn_new {B : Nat} {w : World} {db M fb m cc ck : Nat} {room after code : Int} {armed : Bool} {sf wrs : Value} {Ac : Option Addr} {nm to : ByteArray} {l : List DE} {xs : List Value}
    (hb : Blk w db 64 (dcells room sf (.map (some M)) (.slice Ac m cc) wrs armed after code)) (hM : w.heap[M]? = some (.map (l.map DE.ent).toArray ck)) (hl : look nm l 0 = none)
    (hown : w.ownsRow B 81 3 (.slice Ac m cc) m xs) (hm : m ≤ 1000) (hB : B ≤ w.heap.size) :
    Calls Tryd.prog 31 #[.pointer (some ⟨db, 0, none⟩), .agg #[.string nm, .string to, .pointer (some ⟨fb, 0, none⟩)]] w fun e w' => e = .returned (.tuple #[]) ∧
      ∃ w2 w3 A2 c2, MapTo ((w.alloc (.cells #[.string nm, .string to, .pointer (some ⟨fb, 0, none⟩)] 81)).drew.alloc (.cells #[.string nm, .string to, .pointer (some ⟨fb, 0, none⟩)] 81)) w2 M ((l ++ [(⟨nm, fb, ck⟩ : DE)]).map DE.ent).toArray (ck + 1) ∧
        w3.ownsRow B 81 3 (.slice A2 (m + 1) c2) (m + 1) (xs ++ ccell nm to fb) ∧ (w2.drew.alloc (.cells #[.string nm, .string to, .pointer (some ⟨fb, 0, none⟩)] 81)).grownBy w3 (.slice Ac m cc : Value).ownBlock ∧ w' = w3.setCell ⟨db, 3, none⟩ (.slice A2 (m + 1) c2) := by
  obtain ⟨i8, hi8, hz8, hz8', hz8''⟩ := info_parts Tryd.info81
  have hlt := (Array.getElem?_eq_some_iff.1 hM).1
  have hdl := hb.lt
  have hne : db ≠ M := fun e => by subst e; unfold Blk at hb; rw [hM] at hb; cases hb
  have bx : Blk (w.alloc (.cells #[.string nm, .string to, .pointer (some ⟨fb, 0, none⟩)] 81)) w.heap.size 81 #[.string nm, .string to, .pointer (some ⟨fb, 0, none⟩)] := Blk.new w 81 _
  have b1 := hb.alloc (.cells #[.string nm, .string to, .pointer (some ⟨fb, 0, none⟩)] 81)
  have hM1 := (Below.heap_alloc w (.cells #[.string nm, .string to, .pointer (some ⟨fb, 0, none⟩)] 81) M hlt).trans hM
  have o1 := hown.alloc (.cells #[.string nm, .string to, .pointer (some ⟨fb, 0, none⟩)] 81)
  have q2 : (w.alloc (.cells #[.string nm, .string to, .pointer (some ⟨fb, 0, none⟩)] 81)).cell? ⟨db, 2, none⟩ = some (.map (some M)) := b1.cell 2
  have x0 := bx.cell 0
  have x1 := bx.cell 1
  have x2 := bx.cell 2
  go_enter Tryd.func31, Tryd.ntmps31
  go_wp2_with fail
  refine wp_region_tail 5 (by kernel_rfl) (by kernel_rfl) ?_
  repeat still_step
  refine wpStill_nil ?_
  go_wp2_with (go_at_call 39; refine (dirturn_new (w := (w.alloc (.cells #[.string nm, .string to, .pointer (some ⟨fb, 0, none⟩)] 81)).drew) hM1 hl).mono ?_; rintro e w2 ⟨rfl, hm2⟩)
  have b2 : Blk w2 db 64 (dcells room sf (.map (some M)) (.slice Ac m cc) wrs armed after code) := (hm2.block db hne).trans (Blk.alloc (show Blk (w.alloc (.cells #[.string nm, .string to, .pointer (some ⟨fb, 0, none⟩)] 81)).drew db 64 _ from b1) _)
  have bx2 : Blk w2 w.heap.size 81 #[.string nm, .string to, .pointer (some ⟨fb, 0, none⟩)] := (hm2.block _ (by omega)).trans (Blk.alloc (show Blk (w.alloc (.cells #[.string nm, .string to, .pointer (some ⟨fb, 0, none⟩)] 81)).drew w.heap.size 81 _ from bx) _)
  have o2 : w2.ownsRow B 81 3 (.slice Ac m cc) m xs := by
    have o3 : ((w.alloc (.cells #[.string nm, .string to, .pointer (some ⟨fb, 0, none⟩)] 81)).drew.alloc (.cells #[.string nm, .string to, .pointer (some ⟨fb, 0, none⟩)] 81)).ownsRow B 81 3 (.slice Ac m cc) m xs := (show (w.alloc (.cells #[.string nm, .string to, .pointer (some ⟨fb, 0, none⟩)] 81)).drew.ownsRow B 81 3 (.slice Ac m cc) m xs from o1).alloc _
    refine ⟨o3.1, o3.2.imp id ?_⟩
    rintro ⟨g', cap, cur', e1, e2, e3, e4⟩
    refine ⟨g', cap, cur', e1, e2, (hm2.block g' (fun e => ?_)).trans e3, e4⟩
    subst e
    have h9 := (Below.heap_alloc (w.alloc (.cells #[.string nm, .string to, .pointer (some ⟨fb, 0, none⟩)] 81)).drew (.cells #[.string nm, .string to, .pointer (some ⟨fb, 0, none⟩)] 81) g' (by simp; omega)).trans hM1
    rw [h9] at e3
    cases e3
  have hB2 : B ≤ w2.heap.size := by rw [hm2.size]; simp; omega
  have r3 : w2.cell? ⟨db, 3, none⟩ = some (.slice Ac m cc) := b2.cell 3
  have r3' : (w2.alloc (.cells #[.string nm, .string to, .pointer (some ⟨fb, 0, none⟩)] 81)).cell? ⟨db, 3, none⟩ = some (.slice Ac m cc) := (b2.alloc _).cell 3
  have y0 := bx2.cell 0
  have y1 := bx2.cell 1
  have y2 := bx2.cell 2
  clear x0 x1 x2 q2
  go_region_law (first
    | (refine step_append_any _ (by rfl) (.tmp 14) (.tmp 16) 61 (by rfl) B 81 i8 _ 3 40 Tryd.underlying61 hi8 hz8 hz8' hz8'' rfl (by omega) (.slice Ac m cc) m xs (by rfl) ((show w2.drew.ownsRow B 81 3 (.slice Ac m cc) m xs from o2).alloc _) _ _ 1 1 (ccell nm to fb) (by rfl) (reads_three (Blk.new w2.drew 81 _)) ccell_one (by simp only [maxLen]; omega) (by omega) (by simp; omega) ?_; intro v3 w3 ho3 hg3 hl3; obtain ⟨A3, c3, rfl⟩ := own_formN ho3; have bd3 : Blk w3 db 64 (dcells room sf (.map (some M)) (.slice Ac m cc) wrs armed after code) := blk_otherN ((show Blk w2.drew db 64 _ from b2).alloc _) hg3 ((show w2.drew.ownsRow B 81 3 (.slice Ac m cc) m xs from o2).alloc _) (by decide); have k4 : w3.cell? ⟨db, 3, none⟩ = some (.slice Ac m cc) := bd3.cell 3; have l4 := bd3.frozen 3))
  all_goals
    go_wp2
    go_end0
    exact ⟨rfl, _, _, _, _, hm2, ho3, hg3, rfl⟩
end Go.Proofs.YtekajggjoeimoaaDoor
