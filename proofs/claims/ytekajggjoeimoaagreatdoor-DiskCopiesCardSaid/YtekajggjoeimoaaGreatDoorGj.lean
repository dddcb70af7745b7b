/- The document's Copy, walked. The document's Copy, walked. Two disks of each, beside each other: a deed on one of them. DiskCopies, walked. -/
import Derived.Test.YtekajggjoeimoaaGreatDoorGi
set_option linter.unusedVariables false
namespace Go.Proofs.YtekajggjoeimoaaGreatDoor
open Go.RowKit
section
variable {X X' : Nat → Prop} {w w' w1 w2 w3 : World} {rb : Nat} {vd vc vf vw : Value} {V : Nat → Value} {L : Nat → List (ByteArray × Value)} {W : List (PW × Value)} {nx : Int} {p : DP}
/-- A file with its row comes. -/
theorem RefN.pushRow (h : RefN X w rb vd vc vf vw V L W nx p) (hX : ∀ k, X k → X' k) {v' v : Value} {l : List (ByteArray × Value)} {f : List ByteArray} (hf : f = l.map (·.1)) (hl : ∀ y ∈ l, SecW w y.2 y.1) (hg : w.grownBy w3 vf.ownBlock)
    (hr : RowX X' w3 111 2 v' (p.files.length + 1) (flcells V p.files.length ++ [.int .i64 p.files.length, v])) (hrow : RowX X' w 36 1 v l.length (l.map (·.2))) (ho : ∀ k, v.ownBlock = some k → ¬ X k) :
    RefN X' (w3.setCell ⟨rb, 3, none⟩ v') rb vd vc v' vw (updV V p.files.length v) (fun i => if i = p.files.length then l else L i) W nx { p with files := p.files ++ [f] } := by
  have hs : Same (RTx 111) X w w3 := same_grown h.fl hg (fun e => e.2 rfl)
  have hk := kb_grown h.fl hg (by decide)
  have hb3 := hs rb _ _ ⟨rt_disk, by decide⟩ h.inX h.blk
  have hk2 := hk.trans (kb_set (o := 3) (u := v') hb3 (by decide))
  have hfile : ∀ i, i < p.files.length → ({ p with files := p.files ++ [f] } : DP).file i = p.file i := fun i hi => by
    show (p.files ++ [f]).getD i [] = p.files.getD i []
    rw [List.getD_eq_getElem?_getD, List.getD_eq_getElem?_getD, List.getElem?_append_left hi]
  have hlt : ∀ i, i < (p.files ++ [f]).length → i < p.files.length ∨ i = p.files.length := fun i hi => by simp at hi; omega
  refine ⟨by simpa using (show Blk w3 rb 72 _ from hb3).set_ 3 v', hX _ h.inX, (h.dir.same hs ⟨rt_en, by decide⟩ hX).farset hb3 (by decide), (h.chs.same hs ⟨rt_ch, by decide⟩ hX).farset hb3 (by decide), ?_, (h.wrs.same hs ⟨rt_wr, by decide⟩ hX).farset hb3 (by decide), h.wp, fun y hy => (h.ws y hy).keep hk2, fun i hi => ?_, fun i hi y hy => ?_, fun i hi => ?_, fun i j k hi hj => ?_⟩
  · have e : flcells (updV V p.files.length v) (p.files.length + 1) = flcells V p.files.length ++ [.int .i64 p.files.length, v] := by
      rw [fl_succ, fl_congr (V := updV V p.files.length v) (V' := V) (fun j hj => by unfold updV; rw [if_neg (by omega)])]
      simp [flc, updV]
    show RowX X' _ 111 2 v' (p.files ++ [f]).length (flcells _ (p.files ++ [f]).length)
    rw [List.length_append, List.length_singleton, e]
    exact hr.farset hb3 (by decide)
  · rcases hlt i hi with h1 | h1
    · show _ = (if i = p.files.length then l else L i).map (·.1)
      rw [hfile i h1, if_neg (by omega)]; exact h.lp i h1
    · subst h1
      show (p.files ++ [f]).getD p.files.length [] = (if p.files.length = p.files.length then l else L p.files.length).map (·.1)
      simp [List.getD_eq_getElem?_getD, hf]
  · have hy' : y ∈ (if i = p.files.length then l else L i) := hy
    rcases hlt i hi with h1 | h1
    · rw [if_neg (by omega)] at hy'
      exact (h.ls i h1 y hy').keep hk2
    · rw [if_pos h1] at hy'; exact (hl y hy').keep hk2
  · show RowX X' _ 36 1 (updV V p.files.length v i) (if i = p.files.length then l else L i).length ((if i = p.files.length then l else L i).map (·.2))
    unfold updV
    rcases hlt i hi with h1 | h1
    · rw [if_neg (by omega), if_neg (by omega)]
      exact ((h.row i h1).same hs ⟨rt_ss, by decide⟩ hX).farset hb3 (by decide)
    · rw [if_pos h1, if_pos h1]
      exact (hrow.keep (fun k cs _ hk' h3 => (hg.block k (Array.getElem?_eq_some_iff.1 h3).1 (fun e2 => ho k hk' (h.fl.2 k e2.symm))).trans h3) (fun _ h => h)).farset hb3 (by decide)
  · show (updV V p.files.length v i).ownBlock = some k → (updV V p.files.length v j).ownBlock = some k → i = j
    unfold updV
    rcases hlt i hi with h1 | h1 <;> rcases hlt j hj with h2 | h2
    · rw [if_neg (by omega), if_neg (by omega)]; exact h.inj i j k h1 h2
    · rw [if_neg (by omega), if_pos h2]; intro e1 e2; exact absurd ((h.row i h1).2 k e1) (ho k e2)
    · rw [if_pos h1, if_neg (by omega)]; intro e1 e2; exact absurd ((h.row j h2).2 k e2) (ho k e1)
    · intros; omega
end
end Go.Proofs.YtekajggjoeimoaaGreatDoor
set_option linter.unusedVariables false
namespace Go.Proofs.YtekajggjoeimoaaGreatDoor
open Go.RowKit
section
variable {X : Nat → Prop} {w : World} {rb : Nat} {vd vc vf vw : Value} {V : Nat → Value} {L : Nat → List (ByteArray × Value)} {W : List (PW × Value)} {p : DP}
theorem pwc_one (h : ∀ y ∈ W, SecW w y.2 y.1.s) : ∀ u ∈ pwcells W, u.oneCell' = true := by
  intro u hu
  obtain ⟨y, hy, hu⟩ := List.mem_flatMap.1 hu
  obtain ⟨_, g, c, cur, e, _⟩ := h y hy
  exact wr_one y (by rw [e]; rfl) u hu
theorem chc_one (l : List Ch) : ∀ u ∈ chcells l, u.oneCell' = true := by
  intro u hu
  obtain ⟨y, hy, hu⟩ := List.mem_flatMap.1 hu
  exact ch_one y u hu
/-- A row of the copy's: what is there behind it. -/
theorem cp_step {N rc : Nat} {w W w1 : World} {cs : Array Value} {e size n c1 : Nat} {A1 : Option Addr} {xs : List Value} (o : Nat) (hN : N ≤ rc) (C : Blk W rc 72 cs) (hB : Below N w W) (hs : N ≤ W.heap.size) (he : 72 ≠ e)
    (hg : (W.alloc (.cells #[] e)).grownBy w1 (.slice (some ⟨W.heap.size, 0, none⟩) 0 0 : Value).ownBlock) (ho : w1.ownsRow N e size (.slice A1 n c1) n xs) :
    Blk w1 rc 72 cs ∧ Blk (w1.setCell ⟨rc, o, none⟩ (.slice A1 n c1)) rc 72 (cs.setIfInBounds o (.slice A1 n c1)) ∧ Below N w (w1.setCell ⟨rc, o, none⟩ (.slice A1 n c1)) ∧ N ≤ w1.heap.size ∧ RowX (fun k => N ≤ k) (w1.setCell ⟨rc, o, none⟩ (.slice A1 n c1)) e size (.slice A1 n c1) n xs ∧
      ∀ (e' size' n' : Nat) (v' : Value) (xs' : List Value), 72 ≠ e' → RowX (fun k => N ≤ k) W e' size' v' n' xs' → RowX (fun k => N ≤ k) (w1.setCell ⟨rc, o, none⟩ (.slice A1 n c1)) e' size' v' n' xs' := by
  have h0 := C.lt
  have C1 : Blk w1 rc 72 cs := blk_grown (C.alloc _) hg (by simp [Value.ownBlock]; omega)
  have B1 : Below N w w1 := (hB.alloc hs _).grown hg (by simp; omega) (fun k e => by cases e; exact hs)
  refine ⟨C1, C1.set_ _ _, B1.setCell hN _, Nat.le_trans hs (by have := hg.size; simp at this; omega), (RowX.of_own ho (fun k hk => (ho.lt k hk).1)).farset C1 he, fun e' size' n' v' xs' he' hr => ?_⟩
  refine (hr.keep (fun k cs' _ hk h3 => ?_) (fun _ h => h)).farset C1 he'
  have hl := hr.lt hk
  exact (hg.block k (by simp; omega) (by simp [Value.ownBlock]; omega)).trans ((Below.heap_alloc _ _ _ hl).trans h3)
/-- The copy's blocks so far. -/
def XB (w W : World) (k : Nat) : Prop := w.heap.size ≤ k ∧ k < W.heap.size
def upTo (p : DP) (k : Nat) : DP := { p with files := p.files.take k }
theorem upTo_len {k : Nat} (h : k ≤ p.files.length) : (upTo p k).files.length = k := by unfold upTo; simp; omega
theorem upTo_succ {k : Nat} (h : k < p.files.length) : ({ upTo p k with files := (upTo p k).files ++ [p.file k] } : DP) = upTo p (k + 1) := by
  unfold upTo DP.file
  rw [List.take_add_one, List.getD_eq_getElem?_getD, List.getElem?_eq_getElem h]
  rfl
theorem upTo_all : upTo p p.files.length = p := by unfold upTo; rw [List.take_length]
theorem fls_one (k : Nat) (A : Option Addr) (n c : Nat) : ∀ u ∈ [Value.int .i64 k, .slice A n c], u.oneCell' = true := by
  intro u hu
  simp only [List.mem_cons, List.not_mem_nil, or_false] at hu
  rcases hu with rfl | rfl <;> rfl
theorem sec_one {l : List (ByteArray × Value)} (h : ∀ y ∈ l, SecW w y.2 y.1) : ∀ u ∈ l.map (·.2), u.oneCell' = true := by
  intro u hu
  obtain ⟨y, hy, rfl⟩ := List.mem_map.1 hu
  obtain ⟨_, g, c, cur, e, _⟩ := h y hy
  rw [e]; rfl
set_option maxHeartbeats 4000000 in
set_option maxRecDepth 100000 in
theorem RCopy_any (hv : RefV X w rb vd vc vf vw V L W p) (hw : WF p) (hc : p.chs.length ≤ 1000) (hww : p.wrs.length ≤ 1000) (hfl : p.files.length ≤ 1000) : Calls Tryz.prog 16 #[.pointer (some ⟨rb, 0, none⟩)] w fun e w' => ∃ nb, e = .returned (.pointer (some ⟨nb, 0, none⟩)) ∧ RD (fun k => w.heap.size ≤ k) w' nb p ∧ Below w.heap.size w w' := by
  obtain ⟨Ad, cd, rfl⟩ := hv.dir.form
  obtain ⟨Ac, cc, rfl⟩ := hv.chs.form
  obtain ⟨Af, cf, rfl⟩ := hv.fl.form
  obtain ⟨Aw, cw, rfl⟩ := hv.wrs.form
  have hd8 := hw.dir.len
  have b := hv.blk
  have hrl : rb < w.heap.size := b.lt
  have hb1 : ∀ cs, Below w.heap.size w (w.alloc (.cells cs 72)) := fun cs => (Below.refl _ w).alloc (Nat.le_refl _) _
  have k0 : w.cell? ⟨rb, 0, none⟩ = some (.int .i64 p.room) := b.cell 0
  have k1 : w.cell? ⟨rb, 1, none⟩ = some (.slice Ad p.dir.length cd) := b.cell 1
  have k2 : w.cell? ⟨rb, 2, none⟩ = some (.slice Ac p.chs.length cc) := b.cell 2
  have k3 : w.cell? ⟨rb, 3, none⟩ = some (.slice Af p.files.length cf) := b.cell 3
  have k4 : w.cell? ⟨rb, 4, none⟩ = some (.slice Aw p.wrs.length cw) := b.cell 4
  have k5 : w.cell? ⟨rb, 5, none⟩ = some (.int .i64 p.files.length) := b.cell 5
  have k6 : w.cell? ⟨rb, 6, none⟩ = some (.bool p.armed) := b.cell 6
  have k7 : w.cell? ⟨rb, 7, none⟩ = some (.int .i64 p.after) := b.cell 7
  have k8 : w.cell? ⟨rb, 8, none⟩ = some (.int .i64 p.code) := b.cell 8
  have HV := Lib.hid hv
  have C0 := Blk.new w 72 #[.int .i64 p.room, .slice Ad p.dir.length cd, .slice Ac p.chs.length cc, .slice Af p.files.length cf, .slice Aw p.wrs.length cw, .int .i64 p.files.length, .bool p.armed, .int .i64 p.after, .int .i64 p.code]
  have B0 := hb1 #[.int .i64 p.room, .slice Ad p.dir.length cd, .slice Ac p.chs.length cc, .slice Af p.files.length cf, .slice Aw p.wrs.length cw, .int .i64 p.files.length, .bool p.armed, .int .i64 p.after, .int .i64 p.code]
  have m1 : ((w.alloc (.cells #[.int .i64 p.room, .slice Ad p.dir.length cd, .slice Ac p.chs.length cc, .slice Af p.files.length cf, .slice Aw p.wrs.length cw, .int .i64 p.files.length, .bool p.armed, .int .i64 p.after, .int .i64 p.code] 72)).alloc (.cells #[] 137)).cell? ⟨rb, 1, none⟩ = some (.slice Ad p.dir.length cd) := (hv.below (B0.alloc B0.size _)).blk.cell 1
  clear hv b hb1
  go_enter Tryz.func16, Tryz.ntmps16
  go_wp2_with (first
    | (at_builtin; refine list_push TEn rfl rfl w.heap.size rfl (own_emptyH _ _ _ (by simp) (by omega)) rfl ((HV.out.dir.reads rfl).below (B0.alloc B0.size _)) (en_one _) (by omega) (by simp; omega) (Nat.zero_add _) (List.nil_append _) ?_; intro A1 c1 w1 ho1 hg1 hl1; obtain ⟨C1', C1, B1, S1, R1, P1⟩ := cp_step 1 (Nat.le_refl _) C0 B0 B0.size (by decide) (by simpa using hg1) ho1; have z1 := C1'.cell 1; have y1 := C1'.frozen 1; have m2 : ((w1.setCell ⟨w.heap.size, 1, none⟩ (.slice A1 p.dir.length c1)).alloc (.cells #[] 162)).cell? ⟨rb, 2, none⟩ = some (.slice Ac p.chs.length cc) := (HV.out.below (B1.alloc B1.size _)).blk.cell 2)
    | (at_builtin; refine list_push TCh rfl rfl w.heap.size rfl (own_emptyH _ _ _ (by simp [World.setCell]) S1) rfl ((HV.out.chs.reads rfl).below (B1.alloc B1.size _)) (chc_one _) (by omega) (by simp [World.setCell]; omega) (Nat.zero_add _) (List.nil_append _) ?_; intro A2 c2 w2 ho2 hg2 hl2; obtain ⟨C2', C2, B2, S2, R2, P2⟩ := cp_step 2 (Nat.le_refl _) C1 B1 B1.size (by decide) (by simpa [World.setCell] using hg2) ho2; have z2 := C2'.cell 2; have y2 := C2'.frozen 2; have m3 : ((w2.setCell ⟨w.heap.size, 2, none⟩ (.slice A2 p.chs.length c2)).alloc (.cells #[] 165)).cell? ⟨rb, 4, none⟩ = some (.slice Aw p.wrs.length cw) := (HV.out.below (B2.alloc B2.size _)).blk.cell 4)
    | (at_builtin; refine list_push TWr rfl rfl w.heap.size rfl (own_emptyH _ _ _ (by simp [World.setCell]) S2) rfl ((HV.out.wrs.reads rfl).below (B2.alloc B2.size _)) (pwc_one HV.out.ws) (by omega) (by simp [World.setCell]; omega) (Nat.zero_add _) (List.nil_append _) ?_; intro A3 c3 w3 ho3 hg3 hl3; obtain ⟨C3', C3, B3, S3, R3, P3⟩ := cp_step 4 (Nat.le_refl _) C2 B2 B2.size (by decide) (by simpa [World.setCell] using hg3) ho3; have z3 := C3'.cell 4; have y3 := C3'.frozen 4; have z4 := C3.cell 3; have y4 := C3.frozen 3))
  have hN0 : RefN (XB w ((w3.setCell ⟨w.heap.size, 4, none⟩ (.slice A3 p.wrs.length c3)).setCell ⟨w.heap.size, 3, none⟩ (.slice none 0 0))) ((w3.setCell ⟨w.heap.size, 4, none⟩ (.slice A3 p.wrs.length c3)).setCell ⟨w.heap.size, 3, none⟩ (.slice none 0 0)) w.heap.size (.slice A1 p.dir.length c1) (.slice A2 p.chs.length c2) (.slice none 0 0) (.slice A3 p.wrs.length c3) (fun _ => .slice none 0 0) L W p.files.length (upTo p 0) := by
    have hb : ∀ {W0 : World} {e size n : Nat} {v : Value} {xs : List Value}, RowX (fun k => w.heap.size ≤ k) W0 e size v n xs → RowX (XB w W0) W0 e size v n xs := fun h => ⟨h.1, fun k hk => ⟨h.2 k hk, h.lt hk⟩⟩
    have hKB : KB w ((w3.setCell ⟨w.heap.size, 4, none⟩ (.slice A3 p.wrs.length c3)).setCell ⟨w.heap.size, 3, none⟩ (.slice none 0 0)) := KB.of_below (B3.setCell (Nat.le_refl _) _)
    have hbk : Blk ((w3.setCell ⟨w.heap.size, 4, none⟩ (.slice A3 p.wrs.length c3)).setCell ⟨w.heap.size, 3, none⟩ (.slice none 0 0)) w.heap.size 72 #[.int .i64 p.room, .slice A1 p.dir.length c1, .slice A2 p.chs.length c2, .slice none 0 0, .slice A3 p.wrs.length c3, .int .i64 p.files.length, .bool p.armed, .int .i64 p.after, .int .i64 p.code] := by simpa using C3.set_ 3 (.slice none 0 0)
    refine ⟨hbk, ⟨Nat.le_refl _, ?_⟩, hb ((P3 _ _ _ _ _ (by decide) (P2 _ _ _ _ _ (by decide) R1)).farset C3 (by decide)), hb ((P3 _ _ _ _ _ (by decide) R2).farset C3 (by decide)), RowX.nil, hb (R3.farset C3 (by decide)), HV.out.wp, fun y hy => (HV.out.ws y hy).keep hKB, fun i hi => absurd hi (by simp [upTo]), fun i hi => absurd hi (by simp [upTo]), fun i hi => absurd hi (by simp [upTo]), fun i j k hi => absurd hi (by simp [upTo])⟩
    have := C3.lt
    simpa [World.setCell] using this
  have hBB := B3.setCell (p := ⟨w.heap.size, 3, none⟩) (Nat.le_refl _) (.slice none 0 0)
  clear z1 y1 z2 y2 z3 y3 z4 y4 m1 m2 m3 C0 C1 C2 C3 C1' C2' C3' B0 B1 B2 S1 S2 S3 R1 R2 R3 P1 P2 P3 ho1 ho2 ho3 hg1 hg2 hg3 hl1 hl2 hl3 k0 k1 k2 k4 k5 k6 k7 k8
  go_loopw [4] (fun i wr => ∃ k vf' V' L', k ≤ p.files.length ∧ i = .int .i64 k ∧ RefN (XB w wr) wr w.heap.size (.slice A1 p.dir.length c1) (.slice A2 p.chs.length c2) vf' (.slice A3 p.wrs.length c3) V' L' W p.files.length (upTo p k) ∧ Below w.heap.size w wr) (fun i _ => p.files.length - (intOf i).toNat)
  case atStart => exact ⟨0, _, _, _, Nat.zero_le _, rfl, hN0, hBB⟩
  case round =>
    clear hN0 hBB B3
    obtain ⟨k, vf', V', L', hk, rfl, hN, hB⟩ := hrel
    obtain ⟨wo, rfl⟩ : ∃ wo, wo = wr := ⟨wr, rfl⟩
    have q3 : wo.cell? ⟨rb, 3, none⟩ = some (.slice Af p.files.length cf) := (HV.out.below hB).blk.cell 3
    by_cases hlt : k < p.files.length
    · have d1 : decide (k < p.files.length) = true := by simpa using hlt
      have hqk := upTo_len hk
      obtain ⟨q, hq⟩ : ∃ q, upTo p k = q := ⟨_, rfl⟩
      have hqs := upTo_succ hlt
      rw [hq] at hN hqk hqs
      obtain ⟨A', c', rfl⟩ := hN.fl.form
      obtain ⟨g, cf', A4, c4, hvf, hV, hgl, hXg, hcell⟩ := HV.out.file hlt
      simp only [Value.slice.injEq, true_and] at hvf
      obtain ⟨rfl, rfl⟩ := hvf
      have hlk : (L k).length = (p.file k).length := by rw [HV.out.lp k hlt]; simp
      have hlen := hw.file_len k
      have hrow := HV.out.row k hlt
      rw [hV, hlk] at hrow
      have hc3 : wo.cell? ⟨w.heap.size, 3, none⟩ = some (.slice A' q.files.length c') := hN.blk.cell 3
      obtain ⟨g0, g1⟩ := hcell wo hB
      have i0 : (0 : Int) ≤ (k : Int) := by omega
      have i1 : (k : Int) < (p.files.length : Int) := by omega
      have HN := Lib.hid hN
      have HB := Lib.hid hB
      have hS : ∀ W0, Below wo.heap.size wo W0 → W0.cell? ⟨w.heap.size, 3, none⟩ = some (.slice A' q.files.length c') ∧ W0.cell? ⟨rb, 3, none⟩ = some (.slice (some ⟨g, 0, none⟩) p.files.length cf) ∧ W0.cell? ⟨g, k * 2, none⟩ = some (.int .i64 k) ∧ W0.cell? ⟨g, k * 2 + 1, none⟩ = some (.slice A4 (p.file k).length c4) := fun W0 hb =>
        ⟨(HN.out.below hb).blk.cell 3, (HV.out.below (HB.out.trans (hb.mono HB.out.size))).blk.cell 3, (hcell W0 (HB.out.trans (hb.mono HB.out.size))).1, (hcell W0 (HB.out.trans (hb.mono HB.out.size))).2⟩
      have HS := Lib.hid hS
      have HC := Lib.hid hcell
      have HQ := Lib.hid hqk
      clear hqk
      clear hS hcell hN hB
      go_wp2
      have hsS := HS.out _ (Below.refl _ _)
      refine regionE 23 (fun W0 => W0.cell? ⟨w.heap.size, 3, none⟩ = some (.slice A' q.files.length c') ∧ W0.cell? ⟨rb, 3, none⟩ = some (.slice (some ⟨g, 0, none⟩) p.files.length cf) ∧ W0.cell? ⟨g, k * 2, none⟩ = some (.int .i64 k) ∧ W0.cell? ⟨g, k * 2 + 1, none⟩ = some (.slice A4 (p.file k).length c4)) (by kernel_rfl) (by kernel_rfl) (by kernel_rfl) (by kernel_rfl) (by kernel_rfl) (hsS) (fun hHeld hTl => ?_)
      refine takeE 0 (v := ?_) hTl rfl (by decide) (by kernel_rfl) (by kernel_rfl) (fun _ _ _ h => h) hHeld (Or.inl ⟨by rfl, ?_⟩) (fun hTl => ?_)
      rotate_left
      · intro w hSw; (try dsimp only at hSw); go_simp
        all_goals with_reducible rfl
      try simp only [Act.put, List.setIfInBounds_toArray, List.set_cons_zero, List.set_cons_succ]
      refine takeE 1 (v := ?_) hTl rfl (by decide) (by kernel_rfl) (by kernel_rfl) (fun _ _ _ h => h) hHeld (Or.inl ⟨by rfl, ?_⟩) (fun hTl => ?_)
      rotate_left
      · intro w hSw; (try dsimp only at hSw); go_simp
        all_goals with_reducible rfl
      try simp only [Act.put, List.setIfInBounds_toArray, List.set_cons_zero, List.set_cons_succ]
      refine takeE 2 (v := ?_) hTl rfl (by decide) (by kernel_rfl) (by kernel_rfl) (fun _ _ _ h => h) hHeld (Or.inl ⟨by rfl, ?_⟩) (fun hTl => ?_)
      rotate_left
      · intro w hSw; (try dsimp only at hSw); go_simp
        all_goals with_reducible rfl
      try simp only [Act.put, List.setIfInBounds_toArray, List.set_cons_zero, List.set_cons_succ]
      refine takeE 3 (v := ?_) hTl rfl (by decide) (by kernel_rfl) (by kernel_rfl) (fun _ _ _ h => h) hHeld (Or.inl ⟨by rfl, ?_⟩) (fun hTl => ?_)
      rotate_left
      · intro w hSw; (try dsimp only at hSw); go_simp
        all_goals with_reducible rfl
      try simp only [Act.put, List.setIfInBounds_toArray, List.set_cons_zero, List.set_cons_succ]
      refine takeE 4 (v := ?_) hTl rfl (by decide) (by kernel_rfl) (by kernel_rfl) (fun _ _ _ h => h) hHeld (Or.inl ⟨by rfl, ?_⟩) (fun hTl => ?_)
      rotate_left
      · intro w hSw; (try dsimp only at hSw); go_simp
        all_goals with_reducible rfl
      try simp only [Act.put, List.setIfInBounds_toArray, List.set_cons_zero, List.set_cons_succ]
      refine takeE 5 (v := ?_) hTl rfl (by decide) (by kernel_rfl) (by kernel_rfl) (fun _ _ _ h => h) hHeld (Or.inl ⟨by rfl, ?_⟩) (fun hTl => ?_)
      rotate_left
      · intro w hSw; (try dsimp only at hSw); go_simp
        all_goals with_reducible rfl
      try simp only [Act.put, List.setIfInBounds_toArray, List.set_cons_zero, List.set_cons_succ]
      refine takeE 6 (v := ?_) hTl rfl (by decide) (by kernel_rfl) (by kernel_rfl) (fun _ _ _ h => h) hHeld (Or.inl ⟨by rfl, ?_⟩) (fun hTl => ?_)
      rotate_left
      · intro w hSw; (try dsimp only at hSw); go_simp
        all_goals with_reducible rfl
      try simp only [Act.put, List.setIfInBounds_toArray, List.set_cons_zero, List.set_cons_succ]
      refine takeE 7 (v := ?_) hTl rfl (by decide) (by kernel_rfl) (by kernel_rfl) (fun _ _ _ h => h) hHeld (Or.inl ⟨by rfl, ?_⟩) (fun hTl => ?_)
      rotate_left
      · intro w hSw; (try dsimp only at hSw); go_simp
        all_goals with_reducible rfl
      try simp only [Act.put, List.setIfInBounds_toArray, List.set_cons_zero, List.set_cons_succ]
      refine takeE 8 (v := ?_) hTl rfl (by decide) (by kernel_rfl) (by kernel_rfl) (fun _ _ _ h => h) hHeld (Or.inl ⟨by rfl, ?_⟩) (fun hTl => ?_)
      rotate_left
      · intro w hSw; (try dsimp only at hSw); go_simp
        all_goals with_reducible rfl
      try simp only [Act.put, List.setIfInBounds_toArray, List.set_cons_zero, List.set_cons_succ]
      refine takeE 9 (v := ?_) hTl rfl (by decide) (by kernel_rfl) (by kernel_rfl) (fun _ _ _ h => h) hHeld (Or.inl ⟨by rfl, ?_⟩) (fun hTl => ?_)
      rotate_left
      · intro w hSw; (try dsimp only at hSw); go_simp
        all_goals with_reducible rfl
      try simp only [Act.put, List.setIfInBounds_toArray, List.set_cons_zero, List.set_cons_succ]
      refine takeE 11 (v := ?_) hTl rfl (by decide) (by kernel_rfl) (by kernel_rfl) (fun _ _ _ h => h) hHeld (Or.inl ⟨by rfl, ?_⟩) (fun hTl => ?_)
      rotate_left
      · intro w hSw; (try dsimp only at hSw); go_simp
        all_goals with_reducible rfl
      try simp only [Act.put, List.setIfInBounds_toArray, List.set_cons_zero, List.set_cons_succ]
      refine takeE 12 (v := ?_) hTl rfl (by decide) (by kernel_rfl) (by kernel_rfl) (fun _ _ _ h => h) hHeld (Or.inl ⟨by rfl, ?_⟩) (fun hTl => ?_)
      rotate_left
      · intro w hSw; (try dsimp only at hSw); go_simp
        all_goals with_reducible rfl
      try simp only [Act.put, List.setIfInBounds_toArray, List.set_cons_zero, List.set_cons_succ]
      refine takeE 13 (v := ?_) hTl rfl (by decide) (by kernel_rfl) (by kernel_rfl) (fun _ _ _ h => h) hHeld (Or.inl ⟨by rfl, ?_⟩) (fun hTl => ?_)
      rotate_left
      · intro w hSw; (try dsimp only at hSw); go_simp
        all_goals with_reducible rfl
      try simp only [Act.put, List.setIfInBounds_toArray, List.set_cons_zero, List.set_cons_succ]
      refine takeE 14 (v := ?_) hTl rfl (by decide) (by kernel_rfl) (by kernel_rfl) (fun _ _ _ h => h) hHeld (Or.inl ⟨by rfl, ?_⟩) (fun hTl => ?_)
      rotate_left
      · intro w hSw; (try dsimp only at hSw); go_simp
        all_goals with_reducible rfl
      try simp only [Act.put, List.setIfInBounds_toArray, List.set_cons_zero, List.set_cons_succ]
      refine takeE 15 (v := ?_) hTl rfl (by decide) (by kernel_rfl) (by kernel_rfl) (fun _ _ _ h => h) hHeld (Or.inl ⟨by rfl, ?_⟩) (fun hTl => ?_)
      rotate_left
      · intro w hSw; (try dsimp only at hSw); go_simp
        all_goals with_reducible rfl
      try simp only [Act.put, List.setIfInBounds_toArray, List.set_cons_zero, List.set_cons_succ]
      refine takeE 16 (v := ?_) hTl rfl (by decide) (by kernel_rfl) (by kernel_rfl) (fun _ _ _ h => h) hHeld (Or.inl ⟨by rfl, ?_⟩) (fun hTl => ?_)
      rotate_left
      · intro w hSw; (try dsimp only at hSw); go_simp
        all_goals with_reducible rfl
      try simp only [Act.put, List.setIfInBounds_toArray, List.set_cons_zero, List.set_cons_succ]
      refine takeE 17 (v := ?_) hTl rfl (by decide) (by kernel_rfl) (by kernel_rfl) (fun _ _ _ h => h) hHeld (Or.inl ⟨by rfl, ?_⟩) (fun hTl => ?_)
      rotate_left
      · intro w hSw; (try dsimp only at hSw); go_simp
        all_goals with_reducible rfl
      try simp only [Act.put, List.setIfInBounds_toArray, List.set_cons_zero, List.set_cons_succ]
      refine takeE 18 (v := ?_) hTl rfl (by decide) (by kernel_rfl) (by kernel_rfl) (fun _ _ _ h => h) hHeld (Or.inl ⟨by rfl, ?_⟩) (fun hTl => ?_)
      rotate_left
      · intro w hSw; (try dsimp only at hSw); go_simp
        all_goals with_reducible rfl
      try simp only [Act.put, List.setIfInBounds_toArray, List.set_cons_zero, List.set_cons_succ]
      clear hTl
      refine oneE 10 rfl (by kernel_rfl) (fun K hK => ?_)
      go_simp
      refine hK.out _ _ (fun _ => HS.out _ ((Below.refl _ wo).alloc (Nat.le_refl _) _).drew) ?_
      clear hK K
      try simp only [Act.put, List.setIfInBounds_toArray, List.set_cons_zero, List.set_cons_succ]
      refine oneE 19 rfl (by kernel_rfl) (fun K hK => ?_)
      refine step_push TSS (by rfl) (by rfl) w.heap.size (by rfl) (own_emptyH wo 36 1 rfl HB.out.size) (by rfl) ((hrow.reads rfl).below (HB.out.alloc HB.out.size _).drew) (sec_one (HV.out.ls k hlt)) (by omega) (by have := HB.out.size; simp; omega) (Nat.zero_add _) (List.nil_append _) ?_
      intro A5 c5 w5 ho5 hg5 hl5; have hB5 : Below wo.heap.size wo w5 := ((Below.refl _ wo).alloc (Nat.le_refl _) _).drew.grown hg5 (by simp) (fun k e => by cases e; exact Nat.le_refl _)
      refine hK.out _ _ (fun _ => HS.out _ hB5) ?_
      clear hK K
      try simp only [Act.put, List.setIfInBounds_toArray, List.set_cons_zero, List.set_cons_succ]
      refine oneE 20 rfl (by kernel_rfl) (fun K hK => ?_)
      go_simp
      refine hK.out _ _ (fun _ => HS.out _ hB5) ?_
      clear hK K
      try simp only [Act.put, List.setIfInBounds_toArray, List.set_cons_zero, List.set_cons_succ]
      have hN5 := HN.out.below (hB5.alloc hB5.size (.cells #[.int .i64 k, .slice A5 (p.file k).length c5] 111))
      refine oneE 21 rfl (by kernel_rfl) (fun K hK => ?_)
      go_simp
      refine hK.out _ _ (fun _ => HS.out _ (hB5.alloc hB5.size _)) ?_
      clear hK K
      try simp only [Act.put, List.setIfInBounds_toArray, List.set_cons_zero, List.set_cons_succ]
      refine oneE 22 rfl (by kernel_rfl) (fun K hK => ?_)
      refine step_push TFl (by rfl) (by rfl) 0 (by rfl) hN5.fl.1 (by rfl) (reads_blk (cs := #[.int .i64 k, .slice A5 (p.file k).length c5]) (Blk.new w5 _ _) rfl) (fls_one _ _ _ _) (by have := HQ.out; omega) (Nat.zero_le _) rfl (ys := flcells V' q.files.length ++ [.int .i64 k, .slice A5 (p.file k).length c5]) rfl ?_
      intro A6 c6 w6 ho6 hg6 hl6; have b6 := blk_grown hN5.blk hg6 (blk_apart hN5.blk hN5.fl (by decide)).symm; have z6 := b6.cell 3; have y6 := b6.frozen 3
      refine hK.out _ _ (fun _ => ⟨b6.cell 3, ((HV.out.below (HB.out.trans ((hB5.alloc hB5.size (.cells #[.int .i64 k, .slice A5 (p.file k).length c5] 111)).mono HB.out.size) |>.grown hg6 (by have := hB5.size; have := HB.out.size; simp; omega) (fun j hj => (HN.out.fl.2 j hj).1))).blk.cell 3), HC.out _ (HB.out.trans ((hB5.alloc hB5.size (.cells #[.int .i64 k, .slice A5 (p.file k).length c5] 111)).mono HB.out.size) |>.grown hg6 (by have := hB5.size; have := HB.out.size; simp; omega) (fun j hj => (HN.out.fl.2 j hj).1))⟩) ?_
      clear hK K
      try simp only [Act.put, List.setIfInBounds_toArray, List.set_cons_zero, List.set_cons_succ]
      refine oneE 23 rfl (by kernel_rfl) (fun K hK => ?_)
      go_simp
      refine hK.out _ _ (fun h => absurd h (by decide)) ?_
      clear hK K
      try simp only [Act.put, List.setIfInBounds_toArray, List.set_cons_zero, List.set_cons_succ]
      refine oneE 24 rfl (by kernel_rfl) (fun K hK => ?_)
      go_simp
      refine hK.out _ _ (fun h => absurd h (by decide)) ?_
      clear hK K
      try simp only [Act.put, List.setIfInBounds_toArray, List.set_cons_zero, List.set_cons_succ]
      refine doneE (by kernel_rfl) ?_ _
      have hqk := HQ.out
      have hs5 := hB5.size
      have hs0 := HB.out.size
      have hs6 := hg6.size
      simp at hs6
      have B6 : Below w.heap.size w w6 := (HB.out.trans ((hB5.alloc hB5.size (.cells #[.int .i64 k, .slice A5 (p.file k).length c5] 111)).mono HB.out.size)).grown hg6 (by simp; omega) (fun j hj => (HN.out.fl.2 j hj).1)
      have hX : ∀ j, XB w wo j → XB w (w6.setCell ⟨w.heap.size, 3, none⟩ (.slice A6 (q.files.length + 1) c6)) j := fun j hj => ⟨hj.1, by have := hj.2; simp [World.setCell]; omega⟩
      have hN6 := hN5.pushRow (X' := XB w (w6.setCell ⟨w.heap.size, 3, none⟩ (.slice A6 (q.files.length + 1) c6))) hX (v := .slice A5 (p.file k).length c5) (l := L k) (f := p.file k) (HV.out.lp k hlt) (fun y hy => (HV.out.ls k hlt y hy).keep (KB.of_below (HB.out.trans ((hB5.alloc hB5.size _).mono HB.out.size)))) hg6
        (by
          rw [show (Value.int .i64 (q.files.length : Nat)) = .int .i64 (k : Nat) by rw [hqk]]
          refine RowX.of_own ho6 (fun j hj => ⟨?_, by have := (ho6.lt j hj).2; simpa [World.setCell] using this⟩)
          rcases hl6 with e | e
          · rw [e] at hj; exact (HN.out.fl.2 j hj).1
          · rw [e] at hj; cases hj; simp; omega)
        (by
          rw [hlk]
          exact RowX.of_own (ho5.alloc _) (fun j hj => ⟨(ho5.lt j hj).1, by have := (ho5.lt j hj).2; simp [World.setCell]; omega⟩))
        (fun j hj hx => by
          have h2 := hx.2
          rcases hl5 with e | e <;> rw [e] at hj <;> cases hj <;> simp at h2 <;> omega)
      rw [hqs, hqk] at hN6
      have HEND := Lib.hid (And.intro hN6 (B6.setCell (p := ⟨w.heap.size, 3, none⟩) (Nat.le_refl _) (.slice A6 (k + 1) c6)))
      clear hN6 B6
      go_wp2
      go_roundw
      case rel => exact ⟨k + 1, _, _, _, hlt, by go_num, HEND.out.1, HEND.out.2⟩
      case measure => simp [intOf]; omega
    · obtain rfl : k = p.files.length := by omega
      have d1 : decide (p.files.length < p.files.length) = false := by simp
      rw [upTo_all] at hN
      have hR := hN.v rfl
      clear hN
      go_wp2
      go_ret
      exact ⟨_, rfl, ⟨_, _, _, _, _, _, _, hR.keep (fun j hj => hj.1) Same.refl (KB.refl _)⟩, hB⟩
theorem rd_copy (h : RA X w rb p) : Calls Tryz.prog 16 #[.pointer (some ⟨rb, 0, none⟩)] w fun e w' => ∃ nb, e = .returned (.pointer (some ⟨nb, 0, none⟩)) ∧ RD (fun k => w.heap.size ≤ k) w' nb p ∧ Below w.heap.size w w' := by
  obtain ⟨⟨vd, vc, vf, vw, V, L, W, hv⟩, hw, hlt, hnb, ha, hc, hww, hfl⟩ := h
  exact RCopy_any hv hw hc hww hfl
end
end Go.Proofs.YtekajggjoeimoaaGreatDoor
set_option linter.unusedVariables false
namespace Go.Proofs.YtekajggjoeimoaaGreatDoor
open Go.RowKit
/-- A disk and a model, and another disk and model, each with blocks of its own. -/
def Four (B : Nat) (w : World) (db rb : Nat) (p p' : DP) (n n' : Nat) (cb nb : Nat) (q q' : DP) (m m' : Nat) : Prop :=
  ∃ X1 X2 X3 X4, Dk X1 w db p n ∧ Rk X2 w rb p' n' ∧ Dk X3 w cb q m ∧ Rk X4 w nb q' m' ∧ (Up B X1 ∧ Up B X2 ∧ Up B X3 ∧ Up B X4) ∧ (∀ k, X1 k → ¬ X3 k) ∧ ∀ k, X2 k → ¬ X4 k
section
variable {w w' : World} {db rb cb nb n n' m m' B : Nat} {p p' q q' : DP} {x : Dd} {Ap Ak : Option Addr} {cp ck : Nat}
theorem Four.swap (h : Four B w db rb p p' n n' cb nb q q' m m') : Four B w cb nb q q' m m' db rb p p' n n' := by
  obtain ⟨X1, X2, X3, X4, h1, h2, h3, h4, ⟨u1, u2, u3, u4⟩, d1, d2⟩ := h
  exact ⟨X3, X4, X1, X2, h3, h4, h1, h2, ⟨u3, u4, u1, u2⟩, fun k a b => d1 k b a, fun k a b => d2 k b a⟩
theorem Four.below (h : Four B w db rb p p' n n' cb nb q q' m m') (hb : Below w.heap.size w w') : Four B w' db rb p p' n n' cb nb q q' m m' := by
  obtain ⟨X1, X2, X3, X4, h1, h2, h3, h4, u, d⟩ := h
  have hf := Fr.of_below (X := fun _ => False) hb
  exact ⟨X1, X2, X3, X4, h1.off hf (fun _ _ h => h), h2.off hf (fun _ _ h => h) (fun _ _ h => h.elim), h3.off hf (fun _ _ h => h), h4.off hf (fun _ _ h => h) (fun _ _ h => h.elim), u, d⟩
theorem Four.both (h : Four B w db rb p p n n cb nb q q' m m') : Both B w db rb p n := by
  obtain ⟨X1, X2, X3, X4, h1, h2, h3, h4, ⟨u1, u2, u3, u4⟩, d1, d2⟩ := h
  exact ⟨X1, X2, h1, u1, h2, u2⟩
theorem do_four (h : Four B w db rb p p' n n' cb nb q q' m m') (hn : n ≤ 999) (h1 : 1 ≤ B) (hB : B ≤ w.heap.size) (hg : GlobAt w) (hp : RdB B w Ap x.p.size (bvals x.p)) (hk : RdB B w Ak x.keep.length (x.keep.map (.int .i64))) (hf : Few x) (hx : -9223372036854775808 ≤ x.n ∧ x.n ≤ 9223372036854775807) :
    Calls Tryz.prog 12 #[.pointer (some ⟨db, 0, none⟩), x.val Ap cp Ak ck] w fun e w' => e = .returned (.tuple #[.int .i64 (doP p x).1, .string (doP p x).2.1]) ∧ Four B w' db rb (doP p x).2.2 p' (n + 1) n' cb nb q q' m m' ∧ GlobAt w' ∧ Below B w w' := by
  obtain ⟨X1, X2, X3, X4, hD, hR, hD3, hR4, ⟨hU1, hU2, hU3, hU4⟩, d1, d2⟩ := h
  have h0 : ¬ X1 0 := fun h => by have := hU1 0 h; omega
  refine (do_step hD (by omega) hg h0 (ddin_of hp hk hf hx hU1 hB)).mono ?_
  rintro e w' ⟨rfl, ⟨X1', hD', hs⟩, hf'⟩
  exact ⟨rfl, ⟨X1', X2, X3, X4, hD', hR.off hf' (fun k h2 h1 => kd_kr (hD.kind k h1) (hR.kind k h2)) (fun k cs hk => kd_byte (hD.kind k hk) cs), hD3.off hf' (fun k h3 h1 => d1 k h1 h3), hR4.off hf' (fun k h4 h1 => kd_kr (hD.kind k h1) (hR4.kind k h4)) (fun k cs hk => kd_byte (hD.kind k hk) cs),
    ⟨hs.up hU1 hB, hU2, hU3, hU4⟩, fun k h1 h3 => (hs k h1).elim (fun h => d1 k h h3) (fun h => absurd (hD3.kind k h3).lt (by omega)), d2⟩, hg.fr hf' h0, fr_below hf' hU1 hB⟩
theorem mo_four (h : Four B w db rb (doP p' x).2.2 p' n n' cb nb q q' m m') (hn : n' ≤ 999) (h1 : 1 ≤ B) (hB : B ≤ w.heap.size) (hg : GlobAt w) (hp : RdB B w Ap x.p.size (bvals x.p)) (hk : RdB B w Ak x.keep.length (x.keep.map (.int .i64))) (hf : Few x) (hx : -9223372036854775808 ≤ x.n ∧ x.n ≤ 9223372036854775807) :
    Calls Tryz.prog 13 #[.pointer (some ⟨rb, 0, none⟩), x.val Ap cp Ak ck] w fun e w' => e = .returned (.tuple #[.int .i64 (doP p' x).1, .string (doP p' x).2.1]) ∧ Four B w' db rb (doP p' x).2.2 (doP p' x).2.2 n (n' + 1) cb nb q q' m m' ∧ GlobAt w' ∧ Below B w w' := by
  obtain ⟨X1, X2, X3, X4, hD, hR, hD3, hR4, ⟨hU1, hU2, hU3, hU4⟩, d1, d2⟩ := h
  have h0 : ¬ X2 0 := fun h => by have := hU2 0 h; omega
  refine (mo_step hR (by omega) (dmin_of hp hk hf hU2 hB) hD.pd.wf hx.2).mono ?_
  rintro e w' ⟨rfl, ⟨X2', hR', hs⟩, hf'⟩
  exact ⟨rfl, ⟨X1, X2', X3, X4, hD.off hf' (fun k h1 h2 => kd_kr (hD.kind k h1) (hR.kind k h2)), hR', hD3.off hf' (fun k h3 h2 => kd_kr (hD3.kind k h3) (hR.kind k h2)), hR4.off hf' (fun k h4 h2 => d2 k h2 h4) (fun k cs hk => kr_byte (hR.kind k hk) cs),
    ⟨hU1, hs.up hU2 hB, hU3, hU4⟩, d1, fun k h2 h4 => (hs k h2).elim (fun h => d2 k h h4) (fun h => absurd (hR4.kind k h4).lt (by omega))⟩, hg.fr hf' h0, fr_below hf' hU2 hB⟩
/-- Copies of both. -/
theorem four_new {w1 w2 : World} (h : Both B w db rb p n) (hB : B ≤ w.heap.size) (h1 : PD (fun k => w.heap.size ≤ k) w1 cb p) (hb1 : Below w.heap.size w w1) (h2 : RD (fun k => w1.heap.size ≤ k) w2 nb p) (hb2 : Below w1.heap.size w1 w2) : Four B w2 db rb p p n n cb nb p p n n := by
  obtain ⟨X1, X2, hD, hU1, hR, hU2⟩ := h
  have f1 := Fr.of_below (X := fun _ => False) hb1
  have f2 := Fr.of_below (X := fun _ => False) hb2
  have s1 := hb1.size
  refine ⟨X1, X2, _, _, (hD.off f1 (fun _ _ h => h)).off f2 (fun _ _ h => h), (hR.off f1 (fun _ _ h => h) (fun _ _ h => h.elim)).off f2 (fun _ _ h => h) (fun _ _ h => h.elim),
    (Dk.only h1 hD.arm hD.cnt).off f2 (fun _ _ h => h), Rk.only h2 hR.wf hR.cnt, ⟨hU1, hU2, fun k hk => Nat.le_trans hB hk.1, fun k hk => Nat.le_trans (Nat.le_trans hB s1) hk.1⟩, ?_, ?_⟩
  · intro k a b
    have := (hD.kind k a).lt
    have := b.1
    omega
  · intro k a b
    have := (hR.kind k a).lt
    have := b.1
    omega
theorem cp_both (h : Both B w db rb p n) (hn : n ≤ 1000) :
    Calls Tryz.prog 15 #[.pointer (some ⟨db, 0, none⟩)] w fun e w' => ∃ cb, e = .returned (.pointer (some ⟨cb, 0, none⟩)) ∧ PD (fun k => w.heap.size ≤ k) w' cb p ∧ Below w.heap.size w w' := by
  obtain ⟨X1, X2, hD, hU1, hR, hU2⟩ := h
  exact pd_copy (hD.pa hn)
theorem cr_both (h : Both B w db rb p n) (hn : n ≤ 1000) :
    Calls Tryz.prog 16 #[.pointer (some ⟨rb, 0, none⟩)] w fun e w' => ∃ nb, e = .returned (.pointer (some ⟨nb, 0, none⟩)) ∧ RD (fun k => w.heap.size ≤ k) w' nb p ∧ Below w.heap.size w w' := by
  obtain ⟨X1, X2, hD, hU1, hR, hU2⟩ := h
  exact rd_copy (hR.ra hn)
end
end Go.Proofs.YtekajggjoeimoaaGreatDoor
set_option linter.unusedVariables false
namespace Go.Proofs.YtekajggjoeimoaaGreatDoor
open Go.RowKit
open Da
set_option maxHeartbeats 16000000 in
set_option maxRecDepth 100000 in
theorem copies_any (room : Int) (A A2 A3 : Option Addr) (c c2 c3 : Nat) (ds ks js : List Dm) (w : World) (hg : GlobAt w) (h : DeedsAt w.heap.size w A ds) (hk : DeedsAt w.heap.size w A2 ks) (hj : DeedsAt w.heap.size w A3 js) (hl : ds.length ≤ 9223372036854775807) (hl2 : ks.length ≤ 9223372036854775807) (hl3 : js.length ≤ 9223372036854775807) :
    Calls Tryz.prog 4 #[.int .i64 room, .slice A ds.length c, .slice A2 ks.length c2, .slice A3 js.length c3] w fun e w' => e = .returned (.bool true) ∧ Below w.heap.size w w' := by
  have h1 := glob_lt hg
  go_enter Tryz.func4, Tryz.ntmps4
  go_wp2_with fail
  go_at_call 7
  refine (small_any A c ds w (Nat.le_refl _) h hl).mono ?_
  rintro e w1 ⟨b, rfl, hb1, hsm⟩
  have hg1 := hg.below hb1
  cases b
  · clear hsm
    go_wp2_with (go_at_call 8; refine (live_any hg1).mono ?_; rintro e w2 ⟨rfl, hb2⟩)
    go_ret
    exact ⟨rfl, hb1.trans (hb2.mono hb1.size)⟩
  obtain ⟨hd, hdb⟩ := hsm rfl
  have hd1 : ds.length ≤ 80 := hd
  clear hsm hd
  go_wp2_with fail
  go_at_call 7
  refine (small_any A2 c2 ks w1 hb1.size (hk.below hb1) hl2).mono ?_
  rintro e w2 ⟨b, rfl, hb2', hsm⟩
  have hb2 : Below w.heap.size w w2 := hb1.trans (hb2'.mono hb1.size)
  have hg2 := hg.below hb2
  cases b
  · clear hsm
    go_wp2_with (go_at_call 8; refine (live_any hg2).mono ?_; rintro e w3 ⟨rfl, hb3⟩)
    go_ret
    exact ⟨rfl, hb2.trans (hb3.mono hb2.size)⟩
  obtain ⟨hd, hkb⟩ := hsm rfl
  have hd2 : ks.length ≤ 80 := hd
  clear hsm hd
  go_wp2_with fail
  go_at_call 7
  refine (small_any A3 c3 js w2 hb2.size (hj.below hb2) hl3).mono ?_
  rintro e w3 ⟨b, rfl, hb3', hsm⟩
  have hb3 : Below w.heap.size w w3 := hb2.trans (hb3'.mono hb2.size)
  have hg3 := hg.below hb3
  cases b
  · clear hsm
    go_wp2_with (go_at_call 8; refine (live_any hg3).mono ?_; rintro e w4 ⟨rfl, hb4⟩)
    go_ret
    exact ⟨rfl, hb3.trans (hb4.mono hb3.size)⟩
  obtain ⟨hd, hjb⟩ := hsm rfl
  have hd3 : js.length ≤ 80 := hd
  have hs3 := hb3.size
  have HDS := Lib.hid (And.intro hdb h)
  have HKS := Lib.hid (And.intro hkb hk)
  have HJS := Lib.hid (And.intro hjb hj)
  clear hsm hd hdb hkb hjb h hk hj hb1 hb2 hb2' hb3' hg1 hg2
  by_cases hr : 0 ≤ room ∧ room ≤ 4096
  · have hN := new_go w3 hr
    go_wp2_with (first
      | (go_at_call 9; refine hN.mono ?_; rintro e w4 ⟨⟨db, rfl, hP⟩, hb4⟩)
      | (go_at_call 10; refine (rnew_go w4 hr).mono ?_; rintro e w5 ⟨⟨rb, rfl, hR⟩, hb5⟩))
    have hBo := (both_new hP hb4 hR hb5).mono hs3
    have hB5 : Below w.heap.size w w5 := hb3.trans ((hb4.trans (hb5.mono hb4.size)).mono hs3)
    have hg5 := hg.below hB5
    clear hP hR hN hb3 hb4 hb5 hg3 hs3
    go_loopw [13] (fun i wr => Below w.heap.size w wr ∧ GlobAt wr ∧ ∃ (k : Nat) (p : DP), k ≤ ds.length ∧ i = .int .i64 k ∧ Both w.heap.size wr db rb p k) (fun i _ => ds.length - (intOf i).toNat)
    case atStart => exact ⟨hB5, hg5, 0, _, Nat.zero_le _, rfl, hBo⟩
    case round =>
      clear hB5 hg5 hBo
      obtain ⟨hB, hgr, k, p, hk, rfl, hBo⟩ := hrel
      obtain ⟨wo, rfl⟩ : ∃ wo, wo = wr := ⟨wr, rfl⟩
      by_cases hlt : k < ds.length
      · have d1 : decide (k < ds.length) = true := by simpa using hlt
        obtain ⟨x, hdk⟩ : ∃ x, ds[k]? = some x := ⟨_, List.getElem?_eq_getElem hlt⟩
        have hfew := HDS.out.1 x (List.mem_of_getElem? hdk)
        obtain ⟨ad, rfl, hadl, hX⟩ := (HDS.out.2.below hB) k x hdk
        obtain ⟨x, Ap, cp, Ak, ck⟩ := x
        have e0 : wo.cell? (ad.add (k * 6)) = some (.int .i64 x.kind) := hX.c0
        have e1 : wo.cell? ⟨(ad.add (k * 6)).block, (ad.add (k * 6)).off + 1, none⟩ = some (.string x.a) := hX.c1
        have e2 : wo.cell? ⟨(ad.add (k * 6)).block, (ad.add (k * 6)).off + 2, none⟩ = some (.string x.b) := hX.c2
        have e3 : wo.cell? ⟨(ad.add (k * 6)).block, (ad.add (k * 6)).off + 3, none⟩ = some (.int .i64 x.n) := hX.c3
        have e4 : wo.cell? ⟨(ad.add (k * 6)).block, (ad.add (k * 6)).off + 4, none⟩ = some (.slice Ap x.p.size cp) := hX.c4
        have e5 : wo.cell? ⟨(ad.add (k * 6)).block, (ad.add (k * 6)).off + 5, none⟩ = some (.slice Ak x.keep.length ck) := hX.c5
        have hadk : (ad.add (k * 6)).block < w.heap.size := by rw [add_block]; exact hadl
        have hdo := do_both hBo (by omega) h1 hB.size hgr hX.rp hX.rk hfew hX.n (cp := cp) (ck := ck)
        have hmo : ∀ W, Below w.heap.size wo W → Mid w.heap.size W db rb p (doP p x).2.2 k → GlobAt W → _ := fun W hb hM hg => mo_both (cp := cp) (ck := ck) hM (by omega) h1 (Nat.le_trans hB.size hb.size |> fun h => h) hg (hX.below hb hadk).rp (hX.below hb hadk).rk hfew hX.n
        have HX := Lib.hid (And.intro hX (And.intro hadk (And.intro hmo hB)))
        clear hX hfew hBo hgr hmo hB
        dsimp only [Dd.val] at hdo
        go_wp2_with (first
          | (go_at_call 12; refine hdo.mono ?_; rintro e w2 ⟨rfl, hM, hg2, hb2⟩; have g0 : w2.cell? (ad.add (k * 6)) = some (.int .i64 x.kind) := (HX.out.1.below hb2 HX.out.2.1).c0; have g1 : w2.cell? ⟨(ad.add (k * 6)).block, (ad.add (k * 6)).off + 1, none⟩ = some (.string x.a) := (HX.out.1.below hb2 HX.out.2.1).c1; have g2 : w2.cell? ⟨(ad.add (k * 6)).block, (ad.add (k * 6)).off + 2, none⟩ = some (.string x.b) := (HX.out.1.below hb2 HX.out.2.1).c2; have g3 : w2.cell? ⟨(ad.add (k * 6)).block, (ad.add (k * 6)).off + 3, none⟩ = some (.int .i64 x.n) := (HX.out.1.below hb2 HX.out.2.1).c3; have g4 : w2.cell? ⟨(ad.add (k * 6)).block, (ad.add (k * 6)).off + 4, none⟩ = some (.slice Ap x.p.size cp) := (HX.out.1.below hb2 HX.out.2.1).c4; have g5 : w2.cell? ⟨(ad.add (k * 6)).block, (ad.add (k * 6)).off + 5, none⟩ = some (.slice Ak x.keep.length ck) := (HX.out.1.below hb2 HX.out.2.1).c5)
          | (go_at_call 13; refine (HX.out.2.2.1 _ hb2 hM hg2).mono ?_; rintro e w3 ⟨rfl, hBo3, hg3, hb3⟩))
        go_roundw
        case rel => exact ⟨(HX.out.2.2.2.trans hb2).trans hb3, hg3, k + 1, _, by omega, by go_num, hBo3⟩
        case measure => simp [intOf]; omega
      · have d1 : decide (k < ds.length) = false := by simpa using hlt
        go_wp2_with (first
          | (go_at_call 15; refine (cp_both hBo (by omega)).mono ?_; rintro e wc ⟨cb, rfl, hPc, hbc⟩; have hBo2 := hBo.below hbc)
          | (go_at_call 16; refine (cr_both hBo2 (by omega)).mono ?_; rintro e wn ⟨nb, rfl, hRc, hbn⟩; have hF := four_new hBo hB.size hPc hbc hRc hbn)
          | (go_at_call 14; refine (alike_both hF.swap.both (by omega)).mono ?_; rintro e wa ⟨rfl, hba⟩))
        have hFa := hF.below hba
        have hBn : Below w.heap.size w wn := (hB.trans (hbc.mono hB.size)).trans (hbn.mono (Nat.le_trans hB.size hbc.size))
        have hBa : Below w.heap.size w wa := hBn.trans (hba.mono hBn.size)
        have hga := hg.below hBa
        clear hF hBn hba hbc hbn hPc hRc hBo hBo2 hgr hB
        obtain ⟨N, hN⟩ : ∃ N, k = N := ⟨_, rfl⟩
        have hN80 : N ≤ 80 := by omega
        rw [hN] at hFa
        clear hN hk hlt d1
        go_loopw [16] (fun i wr => Below w.heap.size w wr ∧ GlobAt wr ∧ ∃ (k : Nat) (r : DP), k ≤ ks.length ∧ i = .int .i64 k ∧ Four w.heap.size wr db rb r r (N + k) (N + k) cb nb p p N N) (fun i _ => ks.length - (intOf i).toNat)
        case atStart => exact ⟨hBa, hga, 0, _, Nat.zero_le _, rfl, hFa⟩
        case round =>
          clear hBa hga hFa
          obtain ⟨hB, hgr, k, r, hk, rfl, hBo⟩ := hrel
          obtain ⟨wo, rfl⟩ : ∃ wo, wo = wr := ⟨wr, rfl⟩
          by_cases hlt : k < ks.length
          · have d1 : decide (k < ks.length) = true := by simpa using hlt
            obtain ⟨x, hdk⟩ : ∃ x, ks[k]? = some x := ⟨_, List.getElem?_eq_getElem hlt⟩
            have hfew := HKS.out.1 x (List.mem_of_getElem? hdk)
            obtain ⟨ad, rfl, hadl, hX⟩ := (HKS.out.2.below hB) k x hdk
            obtain ⟨x, Ap, cp, Ak, ck⟩ := x
            have e0 : wo.cell? (ad.add (k * 6)) = some (.int .i64 x.kind) := hX.c0
            have e1 : wo.cell? ⟨(ad.add (k * 6)).block, (ad.add (k * 6)).off + 1, none⟩ = some (.string x.a) := hX.c1
            have e2 : wo.cell? ⟨(ad.add (k * 6)).block, (ad.add (k * 6)).off + 2, none⟩ = some (.string x.b) := hX.c2
            have e3 : wo.cell? ⟨(ad.add (k * 6)).block, (ad.add (k * 6)).off + 3, none⟩ = some (.int .i64 x.n) := hX.c3
            have e4 : wo.cell? ⟨(ad.add (k * 6)).block, (ad.add (k * 6)).off + 4, none⟩ = some (.slice Ap x.p.size cp) := hX.c4
            have e5 : wo.cell? ⟨(ad.add (k * 6)).block, (ad.add (k * 6)).off + 5, none⟩ = some (.slice Ak x.keep.length ck) := hX.c5
            have hadk : (ad.add (k * 6)).block < w.heap.size := by rw [add_block]; exact hadl
            have hdo := do_four hBo (by omega) h1 hB.size hgr hX.rp hX.rk hfew hX.n (cp := cp) (ck := ck)
            have hmo : ∀ W, Below w.heap.size wo W → Four w.heap.size W db rb (doP r x).2.2 r (N + k + 1) (N + k) cb nb p p N N → GlobAt W → _ := fun W hb hM hg => mo_four (cp := cp) (ck := ck) hM (by omega) h1 (Nat.le_trans hB.size hb.size |> fun h => h) hg (hX.below hb hadk).rp (hX.below hb hadk).rk hfew hX.n
            have HX := Lib.hid (And.intro hX (And.intro hadk (And.intro hmo hB)))
            clear hX hfew hBo hgr hmo hB
            dsimp only [Dd.val] at hdo
            go_wp2_with (first
              | (go_at_call 12; refine hdo.mono ?_; rintro e w2 ⟨rfl, hM, hg2, hb2⟩; have g0 : w2.cell? (ad.add (k * 6)) = some (.int .i64 x.kind) := (HX.out.1.below hb2 HX.out.2.1).c0; have g1 : w2.cell? ⟨(ad.add (k * 6)).block, (ad.add (k * 6)).off + 1, none⟩ = some (.string x.a) := (HX.out.1.below hb2 HX.out.2.1).c1; have g2 : w2.cell? ⟨(ad.add (k * 6)).block, (ad.add (k * 6)).off + 2, none⟩ = some (.string x.b) := (HX.out.1.below hb2 HX.out.2.1).c2; have g3 : w2.cell? ⟨(ad.add (k * 6)).block, (ad.add (k * 6)).off + 3, none⟩ = some (.int .i64 x.n) := (HX.out.1.below hb2 HX.out.2.1).c3; have g4 : w2.cell? ⟨(ad.add (k * 6)).block, (ad.add (k * 6)).off + 4, none⟩ = some (.slice Ap x.p.size cp) := (HX.out.1.below hb2 HX.out.2.1).c4; have g5 : w2.cell? ⟨(ad.add (k * 6)).block, (ad.add (k * 6)).off + 5, none⟩ = some (.slice Ak x.keep.length ck) := (HX.out.1.below hb2 HX.out.2.1).c5)
              | (go_at_call 13; refine (HX.out.2.2.1 _ hb2 hM hg2).mono ?_; rintro e w3 ⟨rfl, hBo3, hg3, hb3⟩))
            go_roundw
            case rel => exact ⟨(HX.out.2.2.2.trans hb2).trans hb3, hg3, k + 1, _, by omega, by go_num, hBo3⟩
            case measure => simp [intOf]; omega
          · have d1 : decide (k < ks.length) = false := by simpa using hlt
            have hFs := hBo.swap
            obtain ⟨M, hM⟩ : ∃ M, N + k = M := ⟨_, rfl⟩
            have hM160 : M ≤ 160 := by omega
            rw [hM] at hFs
            clear hM hBo
            go_wp2
            clear hk hlt d1
            go_loopw [17] (fun i wr => Below w.heap.size w wr ∧ GlobAt wr ∧ ∃ (k : Nat) (q : DP), k ≤ js.length ∧ i = .int .i64 k ∧ Four w.heap.size wr cb nb q q (N + k) (N + k) db rb r r M M) (fun i _ => js.length - (intOf i).toNat)
            case atStart => exact ⟨hB, hgr, 0, _, Nat.zero_le _, rfl, hFs⟩
            case round =>
              clear hB hgr hFs
              obtain ⟨hB, hgr, k, q, hk, rfl, hBo⟩ := hrel
              obtain ⟨wo, rfl⟩ : ∃ wo, wo = wr := ⟨wr, rfl⟩
              by_cases hlt : k < js.length
              · have d1 : decide (k < js.length) = true := by simpa using hlt
                obtain ⟨x, hdk⟩ : ∃ x, js[k]? = some x := ⟨_, List.getElem?_eq_getElem hlt⟩
                have hfew := HJS.out.1 x (List.mem_of_getElem? hdk)
                obtain ⟨ad, rfl, hadl, hX⟩ := (HJS.out.2.below hB) k x hdk
                obtain ⟨x, Ap, cp, Ak, ck⟩ := x
                have e0 : wo.cell? (ad.add (k * 6)) = some (.int .i64 x.kind) := hX.c0
                have e1 : wo.cell? ⟨(ad.add (k * 6)).block, (ad.add (k * 6)).off + 1, none⟩ = some (.string x.a) := hX.c1
                have e2 : wo.cell? ⟨(ad.add (k * 6)).block, (ad.add (k * 6)).off + 2, none⟩ = some (.string x.b) := hX.c2
                have e3 : wo.cell? ⟨(ad.add (k * 6)).block, (ad.add (k * 6)).off + 3, none⟩ = some (.int .i64 x.n) := hX.c3
                have e4 : wo.cell? ⟨(ad.add (k * 6)).block, (ad.add (k * 6)).off + 4, none⟩ = some (.slice Ap x.p.size cp) := hX.c4
                have e5 : wo.cell? ⟨(ad.add (k * 6)).block, (ad.add (k * 6)).off + 5, none⟩ = some (.slice Ak x.keep.length ck) := hX.c5
                have hadk : (ad.add (k * 6)).block < w.heap.size := by rw [add_block]; exact hadl
                have hdo := do_four hBo (by omega) h1 hB.size hgr hX.rp hX.rk hfew hX.n (cp := cp) (ck := ck)
                have hmo : ∀ W, Below w.heap.size wo W → Four w.heap.size W cb nb (doP q x).2.2 q (N + k + 1) (N + k) db rb r r M M → GlobAt W → _ := fun W hb hM hg => mo_four (cp := cp) (ck := ck) hM (by omega) h1 (Nat.le_trans hB.size hb.size |> fun h => h) hg (hX.below hb hadk).rp (hX.below hb hadk).rk hfew hX.n
                have HX := Lib.hid (And.intro hX (And.intro hadk (And.intro hmo hB)))
                clear hX hfew hBo hgr hmo hB
                dsimp only [Dd.val] at hdo
                go_wp2_with (first
                  | (go_at_call 12; refine hdo.mono ?_; rintro e w2 ⟨rfl, hM, hg2, hb2⟩; have g0 : w2.cell? (ad.add (k * 6)) = some (.int .i64 x.kind) := (HX.out.1.below hb2 HX.out.2.1).c0; have g1 : w2.cell? ⟨(ad.add (k * 6)).block, (ad.add (k * 6)).off + 1, none⟩ = some (.string x.a) := (HX.out.1.below hb2 HX.out.2.1).c1; have g2 : w2.cell? ⟨(ad.add (k * 6)).block, (ad.add (k * 6)).off + 2, none⟩ = some (.string x.b) := (HX.out.1.below hb2 HX.out.2.1).c2; have g3 : w2.cell? ⟨(ad.add (k * 6)).block, (ad.add (k * 6)).off + 3, none⟩ = some (.int .i64 x.n) := (HX.out.1.below hb2 HX.out.2.1).c3; have g4 : w2.cell? ⟨(ad.add (k * 6)).block, (ad.add (k * 6)).off + 4, none⟩ = some (.slice Ap x.p.size cp) := (HX.out.1.below hb2 HX.out.2.1).c4; have g5 : w2.cell? ⟨(ad.add (k * 6)).block, (ad.add (k * 6)).off + 5, none⟩ = some (.slice Ak x.keep.length ck) := (HX.out.1.below hb2 HX.out.2.1).c5)
                  | (go_at_call 13; refine (HX.out.2.2.1 _ hb2 hM hg2).mono ?_; rintro e w3 ⟨rfl, hBo3, hg3, hb3⟩))
                go_roundw
                case rel => exact ⟨(HX.out.2.2.2.trans hb2).trans hb3, hg3, k + 1, _, by omega, by go_num, hBo3⟩
                case measure => simp [intOf]; omega
              · have d1 : decide (k < js.length) = false := by simpa using hlt
                go_wp2_with (first
                  | (go_at_call 14; refine (alike_both hBo2.both (by omega)).mono ?_; rintro e wy ⟨rfl, hby⟩; have hBy : Below w.heap.size w wy := hBx.trans (hby.mono hBx.size); have hgy := hg.below hBy)
                  | (go_at_call 14; refine (alike_both hBo.swap.both (by omega)).mono ?_; rintro e wx ⟨rfl, hbx⟩; have hBo2 := hBo.below hbx; have hBx : Below w.heap.size w wx := hB.trans (hbx.mono hB.size); have hgx := hg.below hBx)
                  | (go_at_call 8; refine (live_any hgy).mono ?_; rintro e wz ⟨rfl, hbz⟩))
                go_ret
                exact ⟨rfl, hBy.trans (hbz.mono hBy.size)⟩
  · have hr' : room < 0 ∨ 4096 < room := by omega
    have hN := new_err w3 hr'
    have HB3 := Lib.hid hb3
    by_cases h0 : 0 ≤ room
    · have d0 : decide (0 ≤ room) = true := by simpa using h0
      have d2 : decide (room ≤ 4096) = false := by simp; omega
      go_wp2_with (first
        | (go_at_call 9; refine hN.mono ?_; rintro e w4 ⟨⟨v, rfl, hE⟩, hb4⟩; have hB4 : Below w.heap.size w w4 := HB3.out.trans (hb4.mono HB3.out.size); have hg4 := hg.below hB4; rcases hE with ⟨h9, _⟩ | ⟨_, a9, _, rfl, _⟩; (exact absurd h9 (by decide)))
        | (go_at_call 8; refine (live_any hg4).mono ?_; rintro e wz ⟨rfl, hbz⟩))
      go_ret
      exact ⟨rfl, hB4.trans (hbz.mono hB4.size)⟩
    · have d0 : decide (0 ≤ room) = false := by simpa using h0
      go_wp2_with (first
        | (go_at_call 9; refine hN.mono ?_; rintro e w4 ⟨⟨v, rfl, hE⟩, hb4⟩; have hB4 : Below w.heap.size w w4 := HB3.out.trans (hb4.mono HB3.out.size); have hg4 := hg.below hB4; rcases hE with ⟨h9, _⟩ | ⟨_, a9, _, rfl, _⟩; (exact absurd h9 (by decide)))
        | (go_at_call 8; refine (live_any hg4).mono ?_; rintro e wz ⟨rfl, hbz⟩))
      go_ret
      exact ⟨rfl, hB4.trans (hbz.mono hB4.size)⟩
end Go.Proofs.YtekajggjoeimoaaGreatDoor
