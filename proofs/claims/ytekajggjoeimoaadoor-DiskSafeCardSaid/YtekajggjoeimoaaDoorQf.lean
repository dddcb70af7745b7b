/- The disk's turn, walked; what it leaves. -/
import Derived.Test.YtekajggjoeimoaaDoorQe
import Derived.Deep.RegionLaw
import Derived.Deep.RegionHeld3
set_option linter.unusedVariables false
namespace Go.Proofs.YtekajggjoeimoaaDoor
open Go.RowKit
section
variable {X X' : Nat → Prop} {w w2 w3 : World} {db M1 M2 : Nat} {v3 v4 : Value} {q : DQ}
theorem DiskV.mapTo2 (h : DiskV X w db M1 M2 v3 v4 q) {l : List DE} {ck : Nat} (hm : MapTo w w2 M2 (l.map DE.ent).toArray ck) (ho : MapOK l ck) : DiskV X w2 db M1 M2 v3 v4 { q with now := l, nck := ck } :=
  h.cells (fun _ h => h) (q' := { q with now := l, nck := ck }) ((hm.block db (Ne.symm h.m2_ne)).trans h.blk) ((hm.block M1 h.ne).trans h.m1) hm.map h.ne h.inX1 h.inX2 h.ok1 ho
    (h.chs.keep (fun k cs hx hk h3 => (hm.block k (map_row_ne h.m2 h.chs hk)).trans h3) (fun _ h => h)) (h.wrs.keep (fun k cs hx hk h3 => (hm.block k (map_row_ne h.m2 h.wrs hk)).trans h3) (fun _ h => h))
theorem rows_apart {v v' : Value} {e e' size n n' : Nat} {xs xs' : List Value} (h : RowX X w e size v n xs) (h' : RowX X w e' size v' n' xs') (he : e ≠ e') {k : Nat} (hk : v.ownBlock = some k) : some k ≠ v'.ownBlock := by
  intro e2
  obtain ⟨c1, h1⟩ := h.block hk
  obtain ⟨c2, h2⟩ := h'.block e2.symm
  rw [h1] at h2
  cases h2
  exact he rfl
theorem blk_apart {v' : Value} {t e' size n' : Nat} {cs : Array Value} {xs' : List Value} {k : Nat} (h : Blk w k t cs) (h' : RowX X w e' size v' n' xs') (he : t ≠ e') : some k ≠ v'.ownBlock := fun e2 => blk_row_ne h h' e2.symm he rfl
theorem map_apart {v' : Value} {e' size n' ck : Nat} {es : Array MapEntry} {xs' : List Value} {k : Nat} (h : w.heap[k]? = some (.map es ck)) (h' : RowX X w e' size v' n' xs') : some k ≠ v'.ownBlock := fun e2 => map_row_ne h h' e2.symm rfl
theorem row_set {e size n : Nat} {v u : Value} {xs : List Value} {t : TypeId} {cs : Array Value} {o : Nat} (hb : Blk w db t cs) (he : t ≠ e) (hr : RowX X w e size v n xs) : RowX X (w.setCell ⟨db, o, none⟩ u) e size v n xs :=
  hr.keep (fun k cs hx hk h3 => (Below.heap_setCell _ _ _ _ (blk_row_ne hb hr hk he)).trans h3) (fun _ h => h)
theorem DiskV.chs3 (h : DiskV X w db M1 M2 v3 v4 q) (hX : ∀ k, X k → X' k) {v3' : Value} {l : List Cq} (hg : w.grownBy w3 v3.ownBlock) (hr : RowX X' w3 81 3 v3' l.length (cqcells l)) : DiskV X' (w3.setCell ⟨db, 3, none⟩ v3') db M1 M2 v3' v4 { q with chs := l } := by
  have hb3 : Blk w3 db 64 _ := (hg.block db h.blk.lt (blk_apart h.blk h.chs (by decide))).trans h.blk
  have hm1 := (hg.block M1 (Array.getElem?_eq_some_iff.1 h.m1).1 (map_apart h.m1 h.chs)).trans h.m1
  have hm2 := (hg.block M2 (Array.getElem?_eq_some_iff.1 h.m2).1 (map_apart h.m2 h.chs)).trans h.m2
  have hw3 : RowX X' w3 89 3 v4 q.wrs.length (wcells q.wrs) := h.wrs.keep (fun k cs hx hk h3 => (hg.block k (h.wrs.lt hk) (rows_apart h.wrs h.chs (by decide) hk)).trans h3) hX
  have hoth : ∀ k, k ≠ db → (w3.setCell ⟨db, 3, none⟩ v3').heap[k]? = w3.heap[k]? := fun k hk => Below.heap_setCell _ _ _ _ hk
  exact h.cells hX (q' := { q with chs := l }) (hb3.set_ 3 v3') ((hoth _ h.m1_ne).trans hm1) ((hoth _ h.m2_ne).trans hm2) h.ne (hX _ h.inX1) (hX _ h.inX2) h.ok1 h.ok2 (row_set hb3 (by decide) hr) (row_set hb3 (by decide) hw3)
theorem DiskV.wrs4 (h : DiskV X w db M1 M2 v3 v4 q) (hX : ∀ k, X k → X' k) {v4' : Value} {l : List Wr} (hg : w.grownBy w3 v4.ownBlock) (hr : RowX X' w3 89 3 v4' l.length (wcells l)) : DiskV X' (w3.setCell ⟨db, 4, none⟩ v4') db M1 M2 v3 v4' { q with wrs := l } := by
  have hb3 : Blk w3 db 64 _ := (hg.block db h.blk.lt (blk_apart h.blk h.wrs (by decide))).trans h.blk
  have hm1 := (hg.block M1 (Array.getElem?_eq_some_iff.1 h.m1).1 (map_apart h.m1 h.wrs)).trans h.m1
  have hm2 := (hg.block M2 (Array.getElem?_eq_some_iff.1 h.m2).1 (map_apart h.m2 h.wrs)).trans h.m2
  have hw3 : RowX X' w3 81 3 v3 q.chs.length (cqcells q.chs) := h.chs.keep (fun k cs hx hk h3 => (hg.block k (h.chs.lt hk) (rows_apart h.chs h.wrs (by decide) hk)).trans h3) hX
  have hoth : ∀ k, k ≠ db → (w3.setCell ⟨db, 4, none⟩ v4').heap[k]? = w3.heap[k]? := fun k hk => Below.heap_setCell _ _ _ _ hk
  exact h.cells hX (q' := { q with wrs := l }) (hb3.set_ 4 v4') ((hoth _ h.m1_ne).trans hm1) ((hoth _ h.m2_ne).trans hm2) h.ne (hX _ h.inX1) (hX _ h.inX2) h.ok1 h.ok2 (row_set hb3 (by decide) hw3) (row_set hb3 (by decide) hr)
/-- Files are not touched. -/
theorem same_grown {T : Nat → Prop} {e size n : Nat} {v : Value} {xs : List Value} (hr : RowX X w e size v n xs) (hg : w.grownBy w3 v.ownBlock) (he : ¬ T e) : Same T X w w3 := fun k cs t ht hx hk => (hg.block k (Array.getElem?_eq_some_iff.1 hk).1 (fun e2 => by
    obtain ⟨c2, h2⟩ := hr.block e2.symm
    rw [hk] at h2
    cases h2
    exact he ht)).trans hk
theorem same_set {T : Nat → Prop} {t : TypeId} {cs : Array Value} {o : Nat} {u : Value} (hb : Blk w db t cs) (he : ¬ T t) : Same T X w (w.setCell ⟨db, o, none⟩ u) := fun k cs t ht hx hk => (Below.heap_setCell _ _ _ _ (fun e => by
    have e' : k = db := e
    subst e'
    unfold Blk at hb
    rw [hk] at hb
    cases hb
    exact he ht)).trans hk
theorem same_map {T : Nat → Prop} {M ck : Nat} {es es' : Array MapEntry} {ck' : Nat} (hM : w.heap[M]? = some (.map es ck)) (hm : MapTo w w2 M es' ck') : Same T X w w2 := fun k cs t ht hx hk => (hm.block k (fun e => by subst e; rw [hM] at hk; cases hk)).trans hk
end
theorem cq_one {c : Cq} : ∀ u ∈ c.cells, u.oneCell' = true := by
  intro u hu
  simp only [Cq.cells, List.mem_cons, List.not_mem_nil, or_false] at hu
  rcases hu with rfl | rfl | rfl <;> rfl
set_option maxHeartbeats 4000000 in
set_option maxRecDepth 100000 in
theorem turn_walk {w : World} {db M m cc : Nat} {room after code : Int} {armed : Bool} {sf wrs : Value} {Ac : Option Addr} {l l' : List DE} {ck ck' : Nat} {xs : List Value} (c : Cq)
    (hb : Blk w db 64 (dcells room sf (.map (some M)) (.slice Ac m cc) wrs armed after code)) (hM : w.heap[M]? = some (.map (l.map DE.ent).toArray ck))
    (hT : ∀ W : World, W.heap[M]? = some (.map (l.map DE.ent).toArray ck) → Calls Tryd.prog 39 #[.map (some M), .agg c.arr] W fun e w' => e = .returned (.tuple #[]) ∧ MapTo (W.alloc (.cells c.arr 81)) w' M (l'.map DE.ent).toArray ck')
    (hown : w.ownsRow 0 81 3 (.slice Ac m cc) m xs) (hm : m ≤ 1000) :
    Calls Tryd.prog 31 #[.pointer (some ⟨db, 0, none⟩), .agg c.arr] w fun e w' => e = .returned (.tuple #[]) ∧
      ∃ w2 w3 A2 c2, MapTo ((w.alloc (.cells c.arr 81)).drew.alloc (.cells c.arr 81)) w2 M (l'.map DE.ent).toArray ck' ∧
        w3.ownsRow 0 81 3 (.slice A2 (m + 1) c2) (m + 1) (xs ++ c.cells) ∧ (w2.drew.alloc (.cells c.arr 81)).grownBy w3 (.slice Ac m cc : Value).ownBlock ∧ ((.slice A2 (m + 1) c2 : Value).ownBlock = (.slice Ac m cc : Value).ownBlock ∨ (.slice A2 (m + 1) c2 : Value).ownBlock = some (w2.heap.size + 1)) ∧ w' = w3.setCell ⟨db, 3, none⟩ (.slice A2 (m + 1) c2) := by
  obtain ⟨i8, hi8, hz8, hz8', hz8''⟩ := info_parts Tryd.info81
  obtain ⟨nm, to, f⟩ := c
  obtain ⟨fv, hfv⟩ : ∃ fv : Option Addr, (f.map fun f => (⟨f, 0, none⟩ : Addr)) = fv := ⟨_, rfl⟩
  unfold Cq.arr at hT ⊢
  unfold Cq.cells
  have hone := cq_one (c := ⟨nm, to, f⟩)
  unfold Cq.cells at hone
  simp only [hfv] at hT hone ⊢
  clear hfv
  have hlt := (Array.getElem?_eq_some_iff.1 hM).1
  have hdl := hb.lt
  have hne : db ≠ M := fun e => by subst e; unfold Blk at hb; rw [hM] at hb; cases hb
  have bx : Blk (w.alloc (.cells #[.string nm, .string to, .pointer fv] 81)) w.heap.size 81 #[.string nm, .string to, .pointer fv] := Blk.new w 81 _
  have b1 := hb.alloc (.cells #[.string nm, .string to, .pointer fv] 81)
  have hM1 := (Below.heap_alloc w (.cells #[.string nm, .string to, .pointer fv] 81) M hlt).trans hM
  have o1 := hown.alloc (.cells #[.string nm, .string to, .pointer fv] 81)
  have q2 : (w.alloc (.cells #[.string nm, .string to, .pointer fv] 81)).cell? ⟨db, 2, none⟩ = some (.map (some M)) := b1.cell 2
  have x0 := bx.cell 0
  have x1 := bx.cell 1
  have x2 := bx.cell 2
  go_enter Tryd.func31, Tryd.ntmps31
  go_wp2_with fail
  refine wp_region_tail 5 (by kernel_rfl) (by kernel_rfl) ?_
  repeat still_step
  refine wpStill_nil ?_
  go_wp2_with (go_at_call 39; refine (hT (w.alloc (.cells #[.string nm, .string to, .pointer fv] 81)).drew hM1).mono ?_; rintro e w2 ⟨rfl, hm2⟩)
  have b2 : Blk w2 db 64 (dcells room sf (.map (some M)) (.slice Ac m cc) wrs armed after code) := (hm2.block db hne).trans (Blk.alloc (show Blk (w.alloc (.cells #[.string nm, .string to, .pointer fv] 81)).drew db 64 _ from b1) _)
  have bx2 : Blk w2 w.heap.size 81 #[.string nm, .string to, .pointer fv] := (hm2.block _ (by omega)).trans (Blk.alloc (show Blk (w.alloc (.cells #[.string nm, .string to, .pointer fv] 81)).drew w.heap.size 81 _ from bx) _)
  have o2 : w2.ownsRow 0 81 3 (.slice Ac m cc) m xs := by
    have o3 : ((w.alloc (.cells #[.string nm, .string to, .pointer fv] 81)).drew.alloc (.cells #[.string nm, .string to, .pointer fv] 81)).ownsRow 0 81 3 (.slice Ac m cc) m xs := (show (w.alloc (.cells #[.string nm, .string to, .pointer fv] 81)).drew.ownsRow 0 81 3 (.slice Ac m cc) m xs from o1).alloc _
    refine ⟨o3.1, o3.2.imp id ?_⟩
    rintro ⟨g', cap, cur', e1, e2, e3, e4⟩
    refine ⟨g', cap, cur', e1, e2, (hm2.block g' (fun e => ?_)).trans e3, e4⟩
    subst e
    have h9 := (Below.heap_alloc (w.alloc (.cells #[.string nm, .string to, .pointer fv] 81)).drew (.cells #[.string nm, .string to, .pointer fv] 81) g' (by simp; omega)).trans hM1
    rw [h9] at e3
    cases e3
  have r3 : w2.cell? ⟨db, 3, none⟩ = some (.slice Ac m cc) := b2.cell 3
  have r3' : (w2.alloc (.cells #[.string nm, .string to, .pointer fv] 81)).cell? ⟨db, 3, none⟩ = some (.slice Ac m cc) := (b2.alloc _).cell 3
  have y0 := bx2.cell 0
  have y1 := bx2.cell 1
  have y2 := bx2.cell 2
  clear x0 x1 x2 q2
  go_region_law (first
    | (refine step_append_any _ (by rfl) (.tmp 14) (.tmp 16) 61 (by rfl) 0 81 i8 _ 3 40 Tryd.underlying61 hi8 hz8 hz8' hz8'' rfl (by omega) (.slice Ac m cc) m xs (by rfl) ((show w2.drew.ownsRow 0 81 3 (.slice Ac m cc) m xs from o2).alloc _) _ _ 1 1 [.string nm, .string to, .pointer fv] (by rfl) (reads_three (Blk.new w2.drew 81 _)) hone (by simp only [maxLen]; omega) (by omega) (by simp) ?_; intro v3 w3 ho3 hg3 hl3; obtain ⟨A3, c3, rfl⟩ := own_formN ho3; have bd3 : Blk w3 db 64 (dcells room sf (.map (some M)) (.slice Ac m cc) wrs armed after code) := blk_otherN ((show Blk w2.drew db 64 _ from b2).alloc _) hg3 ((show w2.drew.ownsRow 0 81 3 (.slice Ac m cc) m xs from o2).alloc _) (by decide); have k4 : w3.cell? ⟨db, 3, none⟩ = some (.slice Ac m cc) := bd3.cell 3; have l4 := bd3.frozen 3))
  all_goals
    go_wp2
    go_end0
    exact ⟨rfl, _, _, _, _, hm2, ho3, hg3, by simpa using hl3, rfl⟩
end Go.Proofs.YtekajggjoeimoaaDoor
