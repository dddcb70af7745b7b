/- Write, walked; what it leaves. Read: what it gives. slices.DeleteFunc at pending writes. Sync, walked. -/
import Derived.Test.YtekajggjoeimoaaDoorMa
import Derived.Lib.ConvBytes
set_option linter.unusedVariables false
namespace Go.Proofs.YtekajggjoeimoaaDoor
open Go.RowKit
def opWrite : ByteArray := ⟨#[119, 114, 105, 116, 101]⟩
set_option maxHeartbeats 4000000 in
set_option maxRecDepth 100000 in
theorem Write_walk0 {w w1 w2 : World} {db fb g n k c m cw cp : Nat} {room after code : Int} {armed : Bool} {sf nw ch sv u : Value} {Aw Ap : Option Addr} {nm s : ByteArray} {cur : Array Value} {xs : List Value}
    (hO : Calls Tryd.prog 32 #[.pointer (some ⟨db, 0, none⟩), .string nm] w fun e w' => e = .returned (.tuple #[.pointer (some ⟨fb, 0, none⟩), .int .i64 0]) ∧ w' = w1)
    (hf : Blk w1 fb 79 #[sv, .slice (some ⟨g, 0, none⟩) k c]) (hg : Blk w1 g 86 cur) (hn : n < k) (hk : k ≤ 4096) (hu : cur[n]? = some u)
    (hd : Blk w1 db 64 (dcells room sf nw ch (.slice Aw m cw) armed after code)) (hown : w1.ownsRow 0 89 3 (.slice Aw m cw) m xs) (hm : m ≤ 1000) (hne : db ≠ g)
    (hw2 : (w1.setCell ⟨g, n, none⟩ (.string s)).drew = w2)
    (cv1 : (convert 38 86 (.slice Ap 64 cp)).run Tryd.prog w1.drew = .ok (.string s) w1.drew) (cv2 : (convert 38 86 (.slice Ap 64 cp)).run Tryd.prog w2.drew = .ok (.string s) w2.drew) :
    Calls Tryd.prog 13 #[.pointer (some ⟨db, 0, none⟩), .string nm, .int .i64 n, .slice Ap 64 cp] w fun e w' => Ends w opWrite nm 0 e w' ∧
      ∃ A2 c2 w3, w3.ownsRow 0 89 3 (.slice A2 (m + 1) c2) (m + 1) (xs ++ wcell fb n s) ∧ (w2.drew.alloc (.cells #[.pointer (some ⟨fb, 0, none⟩), .int .i64 n, .string s] 89)).grownBy w3 (.slice Aw m cw : Value).ownBlock ∧ ((.slice A2 (m + 1) c2 : Value).ownBlock = (.slice Aw m cw : Value).ownBlock ∨ (.slice A2 (m + 1) c2 : Value).ownBlock = some (w2.heap.size + 1)) ∧ Below w3.heap.size (w3.setCell ⟨db, 4, none⟩ (.slice A2 (m + 1) c2)) w' := by
  obtain ⟨i8, hi8, hz8, hz8', hz8''⟩ := info_parts Tryd.info89
  have f1 : w1.cell? ⟨fb, 1, none⟩ = some (.slice (some ⟨g, 0, none⟩) k c) := hf.cell 1
  have gn : w1.cell? ⟨g, n, none⟩ = some u := (hg.cell n).trans hu
  have gf := hg.frozen n
  have d0 : decide ((0 : Int) ≤ (n : Int)) = true := by simp
  have d1 : decide ((n : Int) < (k : Int)) = true := by simpa using hn
  have hS := isSector_any (n := (n : Int)) hf
  rw [d0, d1] at hS
  have i0 : (0 : Int) ≤ (n : Int) := by omega
  have i1 : (n : Int) < (k : Int) := by omega
  have HW := Lib.hid hw2
  have hfd : Blk w1.drew fb 79 _ := hf
  have bd2 : Blk w2 db 64 (dcells room sf nw ch (.slice Aw m cw) armed after code) := by rw [← hw2]; exact Blk.drew (Blk.far hd hne _)
  have ow2 : w2.ownsRow 0 89 3 (.slice Aw m cw) m xs := by
    rw [← hw2]
    refine ⟨hown.1, hown.2.imp id ?_⟩
    rintro ⟨g', cap, cur', e1, e2, e3, e4⟩
    refine ⟨g', cap, cur', e1, e2, (Below.heap_setCell _ _ _ _ (fun e => ?_)).trans e3, e4⟩
    have e' : g' = g := e
    subst e'
    unfold Blk at hg
    rw [hg] at e3
    cases e3
  have dc4 : w2.cell? ⟨db, 4, none⟩ = some (.slice Aw m cw) := bd2.cell 4
  have dc4' : (w2.alloc (.cells #[.pointer (some ⟨fb, 0, none⟩), .int .i64 n, .string s] 89)).cell? ⟨db, 4, none⟩ = some (.slice Aw m cw) := (bd2.alloc _).cell 4
  clear hw2
  go_enter Tryd.func13, Tryd.ntmps13
  go_wp2_with (first
    | (go_at_call 32; refine hO.mono ?_; rintro e w9 ⟨rfl, h9⟩; obtain rfl : w1 = w9 := h9.symm)
    | (go_at_call 35; refine hS.mono ?_; rintro e w8 ⟨rfl, rfl⟩))
  refine wp_region_tail 8 (by kernel_rfl) (by kernel_rfl) ?_
  repeat still_step
  refine wpStill_nil ?_
  go_wp2
  rw [HW.out]
  go_region_law (first
    | (refine step_append_any _ (by rfl) (.tmp 29) (.tmp 35) 62 (by rfl) 0 89 i8 _ 3 32 Tryd.underlying62 hi8 hz8 hz8' hz8'' rfl (by omega) (.slice Aw m cw) m xs (by rfl) ((show w2.drew.ownsRow 0 89 3 (.slice Aw m cw) m xs from ow2).alloc _) _ _ 1 1 (wcell fb n s) (by rfl) (reads_three (Blk.new w2.drew 89 _)) wcell_one (by simp only [maxLen]; omega) (by omega) (by simp) ?_; intro v3 w3 ho3 hg3 hl3; obtain ⟨A3, c3, rfl⟩ := own_formN ho3; have bd3 : Blk w3 db 64 (dcells room sf nw ch (.slice Aw m cw) armed after code) := blk_otherN ((show Blk w2.drew db 64 _ from bd2).alloc _) hg3 ((show w2.drew.ownsRow 0 89 3 (.slice Aw m cw) m xs from ow2).alloc _) (by decide); have k4 : w3.cell? ⟨db, 4, none⟩ = some (.slice Aw m cw) := bd3.cell 4; have l4 := bd3.frozen 4))
  all_goals
    go_wp2_with (go_at_call 23; refine (fault_any _ _ _ _).mono ?_; rintro e w7 ⟨⟨v, rfl, hv⟩, hb7⟩)
    go_ret
    exact ⟨⟨v, rfl, hv⟩, _, _, _, ho3, hg3, by simpa using hl3, by simpa [World.setCell] using hb7⟩
section
variable {X X' : Nat → Prop} {w w1 w2 w3 w4 : World} {db M1 M2 : Nat} {v3 v4 : Value} {q q' : DQ} {fs : List Nat} {V : Nat → Bool → Value} {C : Nat → Bool → List ByteArray}
/-- A block of cells of another type is written: maps stand. -/
theorem sameM_set {g o : Nat} {t : TypeId} {cs : Array Value} {u : Value} (hb : Blk w g t cs) : SameM X w (w.setCell ⟨g, o, none⟩ u) := fun k es ck hx hk => (Below.heap_setCell _ _ _ _ (fun e => by
  have e' : k = g := e
  subst e'
  unfold Blk at hb; rw [hb] at hk; cases hk)).trans hk
theorem failQ_eq (q : DQ) : (failQ q).2 = { (failQ q).2 with chs := q.chs } := by
  have := failQ_chs q
  cases h : (failQ q).2 with | mk a b c d e f g i j k => rw [h] at this; cases this; rfl
theorem Write_go (hF : FilesV X w fs V C) (h : DiskV X w db M1 M2 v3 v4 q) (ha : q.after ≤ 9223372036854775807)
    {nm : ByteArray} {f : Nat} (ho : openedQ q nm = (0, some f)) (hff : f ∈ fs) {n : Nat} (hn : n < (C f true).length) (hl : (C f true).length ≤ 4096) {Ap : Option Addr} {cp : Nat} {s : ByteArray}
    (hcv : ∀ W, Fr X w W → (convert 38 86 (.slice Ap 64 cp)).run Tryd.prog W = .ok (.string s) W) (hm : q.wrs.length ≤ 1000) :
    Calls Tryd.prog 13 #[.pointer (some ⟨db, 0, none⟩), .string nm, .int .i64 n, .slice Ap 64 cp] w fun e w' => Ends w opWrite nm 0 e w' ∧
      Left X w db M1 fs (upd C f true ((C f true).set n s)) { (failQ q).2 with wrs := q.wrs ++ [⟨f, n, s⟩] } w' := by
  obtain ⟨w1, hO, hD, hN⟩ := opened_any h ha nm
  rw [ho] at hO
  have hF1 : FilesV X w1 fs V C := hF.keep (fun _ h => h) hN.files
  have f1 : Fr X w w1 := hN.fr' hD.inX
  obtain ⟨g, c, cur, hV, hXg, hg, hsz, hcur⟩ := (hF1.row f hff true).row (by omega)
  have hfb := hF1.blk f hff
  rw [hV] at hfb
  have hu : cur[n]? = some (.string ((C f true)[n]'hn)) := hcur n _ (by simp [strs, hn])
  obtain ⟨Aw, cw, hv4⟩ := hD.wrs.form
  have hwr := failQ_wrs q
  rw [hwr] at hv4
  have hdb := hD.blk
  rw [hv4] at hdb
  have hne : db ≠ g := fun e => by
    subst e
    unfold Blk at hg hdb
    rw [hdb] at hg; cases hg
  have hown := hD.wrs
  rw [hwr, hv4] at hown
  have fW : Fr X w (w1.setCell ⟨g, n, none⟩ (.string s)) := f1.setCell (p := ⟨g, n, none⟩) (.inr hXg) _
  refine (Write_walk0 (w2 := (w1.setCell ⟨g, n, none⟩ (.string s)).drew) hO hfb hg hn hl hu hdb hown.1 hm hne rfl (hcv _ f1.drew) (hcv _ fW.drew.drew)).mono ?_
  rintro e w' ⟨hE, A2, c2, w3, ho3, hg3, hl3, hB⟩
  refine ⟨hE, ?_⟩
  have hF2 := hF1.set hff hV hn s
  have hD2 : DiskV X (w1.setCell ⟨g, n, none⟩ (.string s)) db M1 M2 v3 v4 (failQ q).2 := hD.keep (fun _ h => h) (same_set hg (by rintro (e | e | e) <;> cases e)) (sameM_set hg)
  have hD3 : DiskV X (w1.setCell ⟨g, n, none⟩ (.string s)).drew.drew db M1 M2 v3 v4 (failQ q).2 := hD2.keep (fun _ h => h) Same.refl (fun _ _ _ _ h => h)
  have hD4 := hD3.below ((Below.refl _ _).alloc (Nat.le_refl _) (.cells #[.pointer (some ⟨f, 0, none⟩), .int .i64 n, .string s] 89))
  rw [hv4] at hD4
  have s1 := hN.size
  have es : (w1.setCell ⟨g, n, none⟩ (.string s)).drew.heap.size = w1.heap.size := by show (w1.setCell ⟨g, n, none⟩ (.string s)).heap.size = _; simp [World.setCell]
  rw [es] at hl3
  have hr : RowX (More X w) w3 89 3 (.slice A2 (q.wrs.length + 1) c2) (q.wrs ++ [(⟨f, n, s⟩ : Wr)]).length (wcells (q.wrs ++ [(⟨f, n, s⟩ : Wr)])) := by
    refine ⟨?_, fun k hk => ?_⟩
    · have e1 : wcells (q.wrs ++ [(⟨f, n, s⟩ : Wr)]) = wcells q.wrs ++ wcell f n s := by rw [wcells_append]; simp [wcells, Wr.cells]
      rw [e1, List.length_append]
      exact ho3
    · rcases hl3 with hl | hl
      · rw [hl] at hk; exact .inl (hown.2 k hk)
      · rw [hl] at hk; cases hk; exact .inr (by omega)
  have hD5 := hD4.wrs4 (X' := More X w) (fun k hk => .inl hk) hg3 hr
  have e3 : (w3.setCell ⟨db, 4, none⟩ (.slice A2 (q.wrs.length + 1) c2)).heap.size = w3.heap.size := by simp [World.setCell]
  have hB' : Below (w3.setCell ⟨db, 4, none⟩ (.slice A2 (q.wrs.length + 1) c2)).heap.size (w3.setCell ⟨db, 4, none⟩ (.slice A2 (q.wrs.length + 1) c2)) w' := by rw [e3]; exact hB
  refine ⟨⟨_, _, _, hD5.below hB'⟩, ⟨_, hF2.keep (fun _ => more_left) ?_⟩, ?_⟩
  · have s2 : Same FT X (w1.setCell ⟨g, n, none⟩ (.string s)).drew.drew ((w1.setCell ⟨g, n, none⟩ (.string s)).drew.drew.alloc (.cells #[.pointer (some ⟨f, 0, none⟩), .int .i64 n, .string s] 89)) := Same.of_below ((Below.refl _ _).alloc (Nat.le_refl _) _)
    have s2' : Same FT X (w1.setCell ⟨g, n, none⟩ (.string s)) ((w1.setCell ⟨g, n, none⟩ (.string s)).drew.drew.alloc (.cells #[.pointer (some ⟨f, 0, none⟩), .int .i64 n, .string s] 89)) := s2
    have s3 : Same FT X _ w3 := same_grown hD4.wrs hg3 (by rintro (e | e) <;> cases e)
    have hb3 : Blk w3 db 64 _ := (hg3.block db hD4.blk.lt (blk_apart hD4.blk hD4.wrs (by decide))).trans hD4.blk
    exact ((s2'.trans s3).trans (same_set hb3 (by rintro (e | e) <;> cases e))).trans (Same.of_below hB')
  · have f3 : Fr X w w3 := ((fW.drew.drew.alloc (.cells #[.pointer (some ⟨f, 0, none⟩), .int .i64 n, .string s] 89))).grown hg3 (fun k hk => .inr (hown.2 k hk))
    exact (f3.setCell (p := ⟨db, 4, none⟩) (.inr hD.inX) _).trans (Fr.of_below hB')
end
end Go.Proofs.YtekajggjoeimoaaDoor
set_option linter.unusedVariables false
namespace Go.Proofs.YtekajggjoeimoaaDoor
open Go.RowKit
def opRead : ByteArray := ⟨#[114, 101, 97, 100]⟩
/-- A row of bytes that holds a text. -/
def StrAt (W : World) (v : Value) (s : ByteArray) : Prop := ∃ g c, v = .slice (some ⟨g, 0, none⟩) s.size c ∧ g < W.heap.size ∧ ∀ j, j < s.size → W.cell? ⟨g, j, none⟩ = some (.int .u8 (s.data.toList.getD j 0).toNat)
theorem StrAt.below {W W' : World} {v : Value} {s : ByteArray} (h : StrAt W v s) (hb : Below W.heap.size W W') : StrAt W' v s := by
  obtain ⟨g, c, e, hg, hc⟩ := h
  exact ⟨g, c, e, Nat.lt_of_lt_of_le hg hb.size, fun j hj => (hb.cell (p := ⟨g, j, none⟩) hg).trans (hc j hj)⟩
theorem StrAt.conv {W : World} {v : Value} {s : ByteArray} (h : StrAt W v s) {t : TypeId} (ht : Tryd.prog.underlying t = some .string) : (convert 38 t v).run Tryd.prog W = .ok (.string s) W := by
  obtain ⟨g, c, rfl, hg, hc⟩ := h
  have h1 := run_convert_bytes_back (P := Tryd.prog) W 38 t 5 ⟨g, 0, none⟩ c s.data.toList Tryd.underlying38 Tryd.underlying5 ht (fun j hj => by
    have e : (⟨g, 0, none⟩ : Addr).add j = ⟨g, j, none⟩ := by unfold Addr.add; split <;> simp_all
    rw [e, hc j (by simpa using hj)]
    rw [List.getD_eq_getElem?_getD, List.getElem?_eq_getElem hj]
    rfl)
  have e : s.data.toList.length = s.size := by simp
  rw [e] at h1
  exact h1
theorem below_bytes (w : World) (s : ByteArray) : Below w.heap.size w (Go.Lib.bytesWorld w 5 s) :=
  ⟨by simp [Go.Lib.bytesWorld, World.freeze]; rfl, by simp [Go.Lib.bytesWorld, World.freeze], by simp [Go.Lib.bytesWorld, World.freeze]; rfl, by rw [Go.Lib.bytesWorld_size]; omega, fun k hk => Go.Lib.bytesWorld_at_old w 5 s k hk⟩
theorem to_bytes (w : World) (s : ByteArray) : ∃ v w2, (convert 86 38 (.string s)).run Tryd.prog w = .ok v w2 ∧ StrAt w2 v s ∧ Below w.heap.size w w2 :=
  ⟨_, _, Go.Lib.run_convert_string_bytes w 86 38 5 s Tryd.underlying86 Tryd.underlying38 Tryd.underlying5, ⟨_, _, rfl, by rw [Go.Lib.bytesWorld_size]; omega, fun j hj => Go.Lib.bytesWorld_cell w 5 s j hj⟩, below_bytes w s⟩
section
variable {X X' : Nat → Prop} {w w1 w2 w3 w4 : World} {db M1 M2 : Nat} {v3 v4 : Value} {q q' : DQ} {fs : List Nat} {V : Nat → Bool → Value} {C : Nat → Bool → List ByteArray}
theorem Read_go (hF : FilesV X w fs V C) (h : DiskV X w db M1 M2 v3 v4 q) (ha : q.after ≤ 9223372036854775807)
    {nm : ByteArray} {f : Nat} (ho : openedQ q nm = (0, some f)) (hff : f ∈ fs) {n : Nat} {s : ByteArray} (hs : (C f true)[n]? = some s) :
    Calls Tryd.prog 16 #[.pointer (some ⟨db, 0, none⟩), .string nm, .int .i64 n] w fun e w' => (∃ v, e = .returned (.tuple #[v, .nilIface]) ∧ StrAt w' v s) ∧ Left X w db M1 fs C (failQ q).2 w' := by
  obtain ⟨w1, hO, hD, hN⟩ := opened_any h ha nm
  rw [ho] at hO
  have hF1 : FilesV X w1 fs V C := hF.keep (fun _ h => h) hN.files
  have hn := (List.getElem?_eq_some_iff.1 hs).1
  obtain ⟨g, c, cur, hV, hXg, hg, hsz, hcur⟩ := (hF1.row f hff true).row (by omega)
  have hfb := hF1.blk f hff
  rw [hV] at hfb
  have hu : cur[n]? = some (.string s) := hcur n _ (by simp [strs, hs])
  obtain ⟨v, w2, hcv, hst, hB⟩ := to_bytes w1 s
  refine (Read_ok hO hfb hg hn hu hcv).mono ?_
  rintro e w' ⟨rfl, rfl⟩
  exact ⟨⟨v, rfl, hst⟩, left_near hD hF hN hB⟩
end
end Go.Proofs.YtekajggjoeimoaaDoor
set_option linter.unusedVariables false
namespace Go.Proofs.YtekajggjoeimoaaDoor
open Go.RowKit
def others (fb : Nat) (l : List Wr) : List Wr := l.filter fun x => decide (x.f ≠ fb)
theorem others_step {fb m : Nat} {l : List Wr} {y : Wr} (hy : l[m]? = some y) : others fb (l.take (m + 1)) = others fb (l.take m) ++ (if y.f = fb then [] else [y]) := by
  unfold others
  rw [List.take_add_one, hy, List.filter_append]
  congr 1
  by_cases h : y.f = fb <;> simp [h]
theorem others_len {fb : Nat} {l : List Wr} : (others fb l).length ≤ l.length := List.length_filter_le _ _
theorem zeroWr (w : World) : (zeroValue 89).run Tryd.prog w = .ok (.agg #[.pointer none, .int .i64 0, .string ⟨#[]⟩]) w := by kernel_rfl
theorem run_clear_wr (W : World) (ty : TypeId) {g k n c : Nat} {cur : Array Value} (hg : Blk W g 89 cur) (hk : (k + n) * 3 ≤ cur.size) (hn : 0 < n) :
    ∃ cs : List Value, cs.length = n * 3 ∧ (Builtin.clear_ #[62] ty #[.slice (some ⟨g, k * 3, none⟩) n c]).run Tryd.prog W = .ok (.tuple #[]) (W.setRow g (cur.toList.take (k * 3) ++ cs ++ cur.toList.drop (k * 3 + n * 3)).toArray) := by
  obtain ⟨cs, hcs⟩ : ∃ cs, (Builtin.zeroCells (Value.agg #[.pointer none, .int .i64 0, .string ⟨#[]⟩]).cells n).toList = cs := ⟨_, rfl⟩
  have hlen : cs.length = n * 3 := by rw [← hcs, Array.length_toList, size_zeroCells]; rfl
  refine ⟨cs, hlen, ?_⟩
  have h1 : ∀ v ∈ cs, v.oneCell' = true := by
    intro v hv
    rw [← hcs] at hv
    simp only [Builtin.zeroCells, Array.toList_map, List.mem_map] at hv
    obtain ⟨i, _, rfl⟩ := hv
    have h3 : i % 3 < 3 := Nat.mod_lt _ (by omega)
    show (#[Value.pointer none, Value.int .i64 0, Value.string ⟨#[]⟩][i % 3]!).oneCell' = true
    match i % 3, h3 with
    | 0, _ => rfl
    | 1, _ => rfl
    | 2, _ => rfl
  have hst := run_storeCells_at Tryd.prog g (k * 3) 89 cs 0 cur W hg (by omega) h1
  simp only [Nat.add_zero] at hst
  rw [hlen] at hst
  obtain ⟨m, rfl⟩ : ∃ m, n = m + 1 := ⟨n - 1, by omega⟩
  simp [Builtin.clear_, run_underlying Tryd.underlying62, zeroWr, hcs, hst]
def set3 (cur : Array Value) (p : Nat) (a b c : Value) : Array Value := ((cur.setIfInBounds p a).setIfInBounds (p + 1) b).setIfInBounds (p + 2) c
theorem set3_at (cur : Array Value) (p : Nat) (a b c : Value) (h : p + 3 ≤ cur.size) (t : Nat) : (set3 cur p a b c)[t]? = if t = p then some a else if t = p + 1 then some b else if t = p + 2 then some c else cur[t]? := by
  unfold set3
  simp only [Array.getElem?_setIfInBounds, Array.size_setIfInBounds]
  by_cases h2 : t = p + 2
  · subst h2; simp; omega
  · rw [if_neg (fun e => h2 e.symm)]
    by_cases h1 : t = p + 1
    · subst h1; simp; omega
    · rw [if_neg (fun e => h1 e.symm)]
      by_cases h0 : t = p
      · subst h0; simp; omega
      · rw [if_neg (fun e => h0 e.symm), if_neg h0, if_neg h1, if_neg h2]
theorem set3_wr {cur : Array Value} {o : List Wr} {y : Wr} (h : o.length * 3 + 3 ≤ cur.size) (hc : ∀ (t : Nat) (u : Value), (wcells o)[t]? = some u → cur[t]? = some u) :
    ∀ (t : Nat) (u : Value), (wcells (o ++ [y]))[t]? = some u → (set3 cur (o.length * 3) (.pointer (some ⟨y.f, 0, none⟩)) (.int .i64 y.n) (.string y.s))[t]? = some u := by
  intro t u hu
  rw [set3_at _ _ _ _ _ h]
  rw [wcells_append, List.getElem?_append, wcells_len] at hu
  by_cases ht : t < o.length * 3
  · rw [if_pos ht] at hu
    rw [if_neg (by omega), if_neg (by omega), if_neg (by omega)]
    exact hc t u hu
  · rw [if_neg ht] at hu
    have e : wcells [y] = [.pointer (some ⟨y.f, 0, none⟩), .int .i64 y.n, .string y.s] := by simp [wcells, Wr.cells, wcell]
    rw [e] at hu
    have hlt := (List.getElem?_eq_some_iff.1 hu).1
    have hlt3 : t - o.length * 3 < 3 := hlt
    obtain ⟨d, hd⟩ : ∃ d, t - o.length * 3 = d := ⟨_, rfl⟩
    rw [hd] at hu hlt3
    match d, hlt3 with
    | 0, _ => rw [if_pos (by omega)]; exact hu
    | 1, _ => rw [if_neg (by omega), if_pos (by omega)]; exact hu
    | 2, _ => rw [if_neg (by omega), if_neg (by omega), if_pos (by omega)]; exact hu
def DelRel (W : World) (g : Nat) (fb : Nat) (l : List Wr) (cap : Nat) (i j : Value) (wr : World) : Prop :=
  ∃ (k m : Nat) (cur : Array Value), i = .int .i64 k ∧ j = .int .i64 m ∧ m ≤ l.length ∧ k < m ∧ k = (others fb (l.take m)).length ∧ Blk wr g 89 cur ∧ cur.size = cap ∧ (∀ (t : Nat) (u : Value), (wcells (others fb (l.take m)))[t]? = some u → cur[t]? = some u) ∧
    (∀ (t : Nat) (u : Value), m * 3 ≤ t → (wcells l)[t]? = some u → cur[t]? = some u) ∧ W.grownBy wr (some g)
set_option maxHeartbeats 4000000 in
set_option maxRecDepth 100000 in
theorem DeleteFunc_some {X : Nat → Prop} {w : World} {pf fb g c : Nat} {l : List Wr} {cur0 : Array Value} (hXg : X g) (hg0 : Blk w g 89 cur0) (hc0 : ∀ (t : Nat) (u : Value), (wcells l)[t]? = some u → cur0[t]? = some u) (hc : cur0.size = c * 3) (hlc : l.length ≤ c) (hcm : c ≤ maxLen) (hl : l.length ≤ 1000) (hpf : pf ≠ g) (hp : w.cell? ⟨pf, 0, none⟩ = some (.pointer (some ⟨fb, 0, none⟩)))
    (hown : w.ownsRow 0 89 3 (.slice (some ⟨g, 0, none⟩) l.length c) l.length (wcells l))
    (hfs : ∀ y ∈ l, y.f ≠ g ∧ ∃ cf tf, w.heap[y.f]? = some (.cells cf tf (0, 0))) (hfb : fb ≠ g ∧ ∃ cf tf, w.heap[fb]? = some (.cells cf tf (0, 0))) {i : Nat} (hi : firstI fb l = (i : Int)) (hil : i < l.length) (hpre : ∀ j y, j < i → l[j]? = some y → y.f ≠ fb) (hat : ∀ y, l[i]? = some y → y.f = fb) :
    Calls Tryd.prog 37 #[.slice (some ⟨g, 0, none⟩) l.length c, .func (.func 38) #[] #[.pointer (some ⟨pf, 0, none⟩)]] w fun e w' => ∃ v', e = .returned v' ∧ RowX X w' 89 3 v' (others fb l).length (wcells (others fb l)) ∧ v'.ownBlock = some g ∧ w.grownBy w' (some g) := by
  have hI := IndexFunc_any hown hl hp (fun y hy => (hfs y hy).2) hfb.2
  rw [hi] at hI
  go_enter Tryd.func37, Tryd.ntmps37
  go_wp2_with (go_at_call 54; refine hI.mono ?_; rintro e w1 ⟨rfl, hB1⟩)
  go_loopw [5, 6] (fun i j wr => DelRel w g fb l (c * 3) i j wr) (fun _ j _ => l.length - (intOf j).toNat)
  case atStart =>
    obtain ⟨y, hy⟩ : ∃ y, l[i]? = some y := ⟨_, List.getElem?_eq_getElem hil⟩
    have ho : others fb (l.take i) = l.take i := by
      unfold others
      rw [List.filter_eq_self]
      intro x hx
      obtain ⟨j, hj, he⟩ := List.getElem_of_mem hx
      rw [List.length_take] at hj
      have hxl : l[j]? = some x := by
        rw [List.getElem_take] at he
        rw [List.getElem?_eq_getElem (by omega), he]
      simpa using hpre j x (by omega) hxl
    have ho1 : others fb (l.take (i + 1)) = l.take i := by rw [others_step hy, if_pos (hat y hy), List.append_nil, ho]
    have hb1 : Blk w1 g 89 cur0 := (hB1.block g hg0.lt).trans hg0
    refine ⟨i, i + 1, cur0, rfl, by go_num, by omega, by omega, by rw [ho1, List.length_take]; omega, hb1, hc, fun t u hu => ?_, fun t u _ hu => hc0 t u hu, ⟨hB1.os, hB1.tape, hB1.output, hB1.size, fun k hk _ => hB1.block k hk⟩⟩
    rw [ho1] at hu
    refine hc0 t u ?_
    have e : l = l.take i ++ l.drop i := (List.take_append_drop i l).symm
    rw [e, wcells_append, List.getElem?_append_left (List.getElem?_eq_some_iff.1 hu).1]
    exact hu
  case round =>
    obtain ⟨k, m, cur, rfl, rfl, hm, hkm, hkl, hg, hsz, hc1, hc2, hG⟩ := hrel
    have HC1 := Lib.hid hc1
    have HC2 := Lib.hid hc2
    have HKL := Lib.hid hkl
    by_cases hlt : m < l.length
    · have d1 : decide (m < l.length) = true := by simpa using hlt
      obtain ⟨y, hy⟩ : ∃ y, l[m]? = some y := ⟨_, List.getElem?_eq_getElem hlt⟩
      have e0 : wr.cell? ⟨g, m * 3, none⟩ = some (.pointer (some ⟨y.f, 0, none⟩)) := (hg.cell _).trans (hc2 (m * 3) _ (by omega) ((wcells_at hy 0 (by omega)).trans rfl))
      have e1 : wr.cell? ⟨g, m * 3 + 1, none⟩ = some (.int .i64 y.n) := (hg.cell _).trans (hc2 (m * 3 + 1) _ (by omega) ((wcells_at hy 1 (by omega)).trans rfl))
      have e2 : wr.cell? ⟨g, m * 3 + 2, none⟩ = some (.string y.s) := (hg.cell _).trans (hc2 (m * 3 + 2) _ (by omega) ((wcells_at hy 2 (by omega)).trans rfl))
      clear hc1 hc2 hkl
      have i0 : (0 : Int) ≤ (m : Int) := by omega
      have i1 : (m : Int) < (l.length : Int) := by omega
      have j0 : (0 : Int) ≤ (k : Int) := by omega
      have j1 : (k : Int) < (l.length : Int) := by omega
      have hyl := hfs y (List.mem_of_getElem? hy)
      obtain ⟨hyg, cf, tf, hyf⟩ := hyl
      obtain ⟨hfg, cg, tg, hfb⟩ := hfb
      have hyf1 : wr.heap[y.f]? = some (.cells cf tf (0, 0)) := (hG.block _ (Array.getElem?_eq_some_iff.1 hyf).1 (by simpa using hyg)).trans hyf
      have hfb1 : wr.heap[fb]? = some (.cells cg tg (0, 0)) := (hG.block _ (Array.getElem?_eq_some_iff.1 hfb).1 (by simpa using hfg)).trans hfb
      have hp1 : wr.cell? ⟨pf, 0, none⟩ = some (.pointer (some ⟨fb, 0, none⟩)) := (World.cell?_of_block (w := w) (hG.block pf (World.block_lt_of_cell? w _ hp) (by simpa using hpf))).trans hp
      obtain ⟨W, hW⟩ : ∃ W, wr.alloc (.cells #[.pointer (some ⟨y.f, 0, none⟩), .int .i64 y.n, .string y.s] 89) = W := ⟨_, rfl⟩
      have hBW : Below wr.heap.size wr W := hW ▸ (Below.refl _ _).alloc (Nat.le_refl _) _
      have hI2 := isOf (w := W) y ((hBW.cell (p := ⟨pf, 0, none⟩) (World.block_lt_of_cell? wr _ hp1)).trans hp1) ((hBW.block _ (Array.getElem?_eq_some_iff.1 hyf1).1).trans hyf1) ((hBW.block _ (Array.getElem?_eq_some_iff.1 hfb1).1).trans hfb1)
      have bv : Blk W wr.heap.size 89 #[.pointer (some ⟨y.f, 0, none⟩), .int .i64 y.n, .string y.s] := hW ▸ Blk.new wr _ _
      obtain ⟨W2, hW2⟩ : ∃ W2, W.alloc (.cells #[.pointer (some ⟨y.f, 0, none⟩), .int .i64 y.n, .string y.s] 89) = W2 := ⟨_, rfl⟩
      have hBW2 : Below wr.heap.size wr W2 := hW2 ▸ hBW.alloc hBW.size _
      have bv2 : Blk W2 wr.heap.size 89 #[.pointer (some ⟨y.f, 0, none⟩), .int .i64 y.n, .string y.s] := hW2 ▸ bv.alloc _
      have hg2 : Blk W2 g 89 cur := (hBW2.block g hg.lt).trans hg
      rw [hW2] at hI2
      have b0 := bv.cell 0
      have b1 := bv.cell 1
      have b2 := bv.cell 2
      have x0 := bv2.cell 0
      have x1 := bv2.cell 1
      have x2 := bv2.cell 2
      obtain ⟨u0, hu0⟩ : ∃ u0, cur[k * 3]? = some u0 := ⟨_, Array.getElem?_eq_getElem (by omega)⟩
      obtain ⟨u1, hu1⟩ : ∃ u1, cur[k * 3 + 1]? = some u1 := ⟨_, Array.getElem?_eq_getElem (by omega)⟩
      obtain ⟨u2, hu2⟩ : ∃ u2, cur[k * 3 + 2]? = some u2 := ⟨_, Array.getElem?_eq_getElem (by omega)⟩
      have y0 : W2.cell? ⟨g, k * 3, none⟩ = some u0 := (hg2.cell _).trans hu0
      have y1 : W2.cell? ⟨g, k * 3 + 1, none⟩ = some u1 := (hg2.cell _).trans hu1
      have y2 : W2.cell? ⟨g, k * 3 + 2, none⟩ = some u2 := (hg2.cell _).trans hu2
      have z0 := hg2.frozen (k * 3)
      have z1 := hg2.frozen (k * 3 + 1)
      have z2 := hg2.frozen (k * 3 + 2)
      have hst := others_step (fb := fb) hy
      have HST := Lib.hid hst
      have HY := Lib.hid hy
      clear hst hu0 hu1 hu2 hy
      by_cases hq : y.f = fb
      · rw [decide_eq_true hq] at hI2
        have HQ := Lib.hid hq
        clear hq
        go_wp2_with (go_at_call 38; refine hI2.mono ?_; rintro e w9 ⟨rfl, rfl⟩)
        go_roundw
        case rel =>
          have e9 : others fb (l.take (m + 1)) = others fb (l.take m) := by rw [HST.out, if_pos HQ.out, List.append_nil]
          refine ⟨_, _, _, _, _, _, _, _, _, _, _, _, _, _, _, _, _, _, _, _, _, _, _, ?_, rfl⟩
          exact ⟨k, m + 1, cur, rfl, by go_num, by omega, by omega, by rw [e9]; exact HKL.out, hg2, hsz, by rw [e9]; exact HC1.out, fun t u ht hu => HC2.out t u (by omega) hu, ⟨hBW2.os.trans hG.os, hBW2.tape.trans hG.tape, hBW2.output.trans hG.output, Nat.le_trans hG.size hBW2.size, fun j hj hne => (hBW2.block j (Nat.lt_of_lt_of_le hj hG.size)).trans (hG.block j hj hne)⟩⟩
        case measure => simp [intOf]; omega
      · rw [decide_eq_false hq] at hI2
        go_wp2_with (go_at_call 38; refine hI2.mono ?_; rintro e w9 ⟨rfl, rfl⟩)
        go_roundw
        case rel =>
          have e9 : others fb (l.take (m + 1)) = others fb (l.take m) ++ [y] := by rw [HST.out, if_neg hq]
          have hgn : Blk (((w9.setCell ⟨g, k * 3, none⟩ (.pointer (some ⟨y.f, 0, none⟩))).setCell ⟨g, k * 3 + 1, none⟩ (.int .i64 y.n)).setCell ⟨g, k * 3 + 2, none⟩ (.string y.s)) g 89 (set3 cur (k * 3) (.pointer (some ⟨y.f, 0, none⟩)) (.int .i64 y.n) (.string y.s)) := ((hg2.set_ (k * 3) (.pointer (some ⟨y.f, 0, none⟩))).set_ (k * 3 + 1) (.int .i64 y.n)).set_ (k * 3 + 2) (.string y.s)
          refine ⟨_, _, _, _, _, _, _, _, _, _, _, _, _, _, _, _, _, _, _, _, _, _, _, ?_, rfl⟩
          have hko := HKL.out
          refine ⟨k + 1, m + 1, _, by go_num, by go_num, by omega, by omega, by rw [e9, List.length_append]; simp; omega, hgn, by unfold set3; simpa using hsz, ?_, fun t u ht hu => ?_, ?_⟩
          · rw [e9]
            have := set3_wr (cur := cur) (o := others fb (l.take m)) (y := y) (by omega) HC1.out
            rw [← hko] at this
            exact this
          · rw [set3_at _ _ _ _ _ (by omega), if_neg (by omega), if_neg (by omega), if_neg (by omega)]
            exact HC2.out t u (by omega) hu
          · refine ⟨hBW2.os.trans hG.os, hBW2.tape.trans hG.tape, hBW2.output.trans hG.output, by simpa [World.setCell] using Nat.le_trans hG.size hBW2.size, fun j hj hne => ?_⟩
            have hne' : j ≠ g := fun e => hne (by rw [e])
            exact (Below.heap_setCell _ _ _ _ hne').trans ((Below.heap_setCell _ _ _ _ hne').trans ((Below.heap_setCell _ _ _ _ hne').trans ((hBW2.block j (Nat.lt_of_lt_of_le hj hG.size)).trans (hG.block j hj hne))))
        case measure => simp [intOf]; omega
    · obtain rfl : m = l.length := by omega
      have d1 : decide (l.length < l.length) = false := by simp
      have hko := hkl
      rw [List.take_length] at hc1 hko
      have HC := Lib.hid hc1
      have HKO := Lib.hid hko
      clear hko
      obtain ⟨cs, hcs, hcl⟩ := run_clear_wr wr 0 (k := k) (n := l.length - k) (c := c - k) hg (by omega) (by omega)
      have hclr : ∀ ty, (Builtin.clear_ #[62] ty #[.slice (some ⟨g, k * 3, none⟩) (l.length - k) (c - k)]).run Tryd.prog wr = _ := fun ty => hcl
      have hkc : ¬ c = k := by omega
      have j0 : (0 : Int) ≤ (k : Int) := by omega
      have j1 : (k : Int) ≤ (l.length : Int) := by omega
      have j2 : (k : Int) ≤ (c : Int) := by omega
      clear hc1 hc2 HC1 HC2 HKL hkl hcl
      go_wp2
      go_ret
      have hco := HC.out
      have hko := HKO.out
      rw [← hko]
      refine ⟨_, rfl, ⟨⟨by rw [wcells_len, hko], .inr ⟨g, c, (cur.toList.take (k * 3) ++ cs ++ cur.toList.drop (k * 3 + (l.length - k) * 3)).toArray, rfl, Nat.zero_le _, ?_, by omega, hcm, ?_, ?_⟩⟩, fun j hj => by cases hj; exact hXg⟩, rfl, ?_⟩
      · have hg' := hg
        unfold Blk at hg'
        simp [World.setRow, hg', Array.getElem?_modify]
      · simp [hcs]; omega
      · have hl1 : (cur.toList.take (k * 3)).length = k * 3 := by simp; omega
        rw [List.append_assoc, List.take_append_of_le_length (by omega), List.take_of_length_le (by omega)]
        apply List.ext_getElem?
        intro t
        rw [List.getElem?_take]
        by_cases ht : t < k * 3
        · rw [if_pos ht]
          have hlt2 : t < (wcells (others fb l)).length := by rw [wcells_len, ← hko]; exact ht
          have h1 := hco t _ (List.getElem?_eq_getElem hlt2)
          rw [List.getElem?_eq_getElem hlt2, ← h1]
          simp
        · rw [if_neg ht, List.getElem?_eq_none (by rw [wcells_len, ← hko]; omega)]
      · refine ⟨hG.os, hG.tape, hG.output, by simpa [World.setRow] using hG.size, fun j hj hne => ?_⟩
        have hne' : g ≠ j := fun e => hne (by rw [e])
        have e : ∀ A, (wr.setRow g A).heap[j]? = wr.heap[j]? := fun A => by
          simp only [World.setRow]
          rw [Array.getElem?_modify, if_neg hne']
        exact (e _).trans (hG.block j hj hne)
end Go.Proofs.YtekajggjoeimoaaDoor
set_option linter.unusedVariables false
namespace Go.Proofs.YtekajggjoeimoaaDoor
open Go.RowKit
def opSync : ByteArray := ⟨#[115, 121, 110, 99]⟩
set_option maxHeartbeats 1000000 in
set_option maxRecDepth 100000 in
theorem Clone_some {B : Nat} (ad : Addr) (c : Nat) (l : List ByteArray) (w : World) (hr : Reads w B 1 (some ad) l.length (strs l)) (hB : B ≤ w.heap.size) (hl : l.length ≤ 5000) :
    Calls Tryd.prog 36 #[.slice (some ad) l.length c] w fun e w' => ∃ A' c', e = .returned (.slice A' l.length c') ∧ w'.ownsRow w.heap.size 86 1 (.slice A' l.length c') l.length (strs l) ∧ Below w.heap.size w w' := by
  obtain ⟨i0, hi0, hz0, hz1, hz2⟩ := info_parts Tryd.info86
  have hnil : ∀ W : World, (binOp .eql 77 (.slice (some ad) l.length c) (.slice none 0 0)).run Tryd.prog W = .ok (.bool false) W := fun W => (by first | exact Lib.run_eql_slice_nil W 77 86 _ _ _ _ _ Tryd.underlying77 | exact Lib.run_eql_slice_nil W 77 86 _ _ _ _ Tryd.underlying77)
  go_enter Tryd.func36, Tryd.ntmps36
  go_wp2_with (at_builtin; refine wpList_append_any _ rfl (.tmp 5) (.tmp 6) _ rfl w.heap.size 86 i0 _ 1 16 Tryd.underlying77 hi0 hz0 hz1 hz2 rfl (by omega) (.slice (some ⟨w.heap.size, 0, none⟩) 0 0) 0 [] rfl (own_empty w _ _ (Nat.le_refl _)) B (some ad) l.length c (strs l) rfl (hr.alloc hB _) (strs_one l) (by simp only [maxLen]; omega) (by omega) (by simp) ?_; intro v1 w1 hown1 hg1 hat1)
  clear hnil
  obtain ⟨A', c', rfl⟩ := own_formN hown1
  go_ret
  refine ⟨A', c', by simp, by simpa using hown1, ((Below.refl _ w).alloc (Nat.le_refl _) _).grown hg1 (by simp) (fun k e => by cases e; exact Nat.le_refl _)⟩
set_option maxHeartbeats 1000000 in
set_option maxRecDepth 100000 in
theorem Clone_nil (w : World) : Calls Tryd.prog 36 #[.slice none 0 0] w fun e w' => e = .returned (.slice none 0 0) ∧ w = w' := by
  have hnil : ∀ W : World, (binOp .eql 77 (.slice none 0 0) (.slice none 0 0)).run Tryd.prog W = .ok (.bool true) W := fun W => (by first | exact Lib.run_eql_slice_nil W 77 86 _ _ _ _ _ Tryd.underlying77 | exact Lib.run_eql_slice_nil W 77 86 _ _ _ _ Tryd.underlying77)
  go_enter Tryd.func36, Tryd.ntmps36
  go_wp2
  go_ret
  exact ⟨rfl, rfl⟩
theorem ownsRow_base' {w : World} {B B' e size n : Nat} {v : Value} {xs : List Value} (h : w.ownsRow B e size v n xs) (hB : B' ≤ B) : w.ownsRow B' e size v n xs := ⟨h.1, h.2.imp id fun ⟨g, cap, cur, e1, e2, r⟩ => ⟨g, cap, cur, e1, Nat.le_trans hB e2, r⟩⟩
theorem Clone_row {X : Nat → Prop} {w : World} {A : Option Addr} {c : Nat} {l : List ByteArray} (h : RowX X w 86 1 (.slice A l.length c) l.length (strs l)) (hl : l.length ≤ 5000) :
    Calls Tryd.prog 36 #[.slice A l.length c] w fun e w' => ∃ A' c', e = .returned (.slice A' l.length c') ∧ w'.ownsRow w.heap.size 86 1 (.slice A' l.length c') l.length (strs l) ∧ Below w.heap.size w w' := by
  have hr := h.reads (A := A) (c := c) rfl
  rcases h.1.2 with ⟨h1, h2⟩ | ⟨g, cap, cur, h1, _⟩
  · have e : l = [] := List.eq_nil_of_length_eq_zero h2
    subst e
    cases h1
    refine (Clone_nil w).mono ?_
    rintro e w' ⟨rfl, rfl⟩
    exact ⟨none, 0, rfl, World.ownsRow_nil _ _ _ _, Below.refl _ _⟩
  · cases h1
    exact Clone_some _ _ l w hr (Nat.le_refl _) hl
set_option maxHeartbeats 1000000 in
set_option maxRecDepth 100000 in
theorem DeleteFunc_none {w : World} {pf fb : Nat} {c : Nat} {A : Option Addr} {l : List Wr} (hown : w.ownsRow 0 89 3 (.slice A l.length c) l.length (wcells l)) (hl : l.length ≤ 1000) (hp : w.cell? ⟨pf, 0, none⟩ = some (.pointer (some ⟨fb, 0, none⟩)))
    (hfs : ∀ y ∈ l, ∃ cf tf, w.heap[y.f]? = some (.cells cf tf (0, 0))) (hfb : ∃ cf tf, w.heap[fb]? = some (.cells cf tf (0, 0))) (hi : firstI fb l = -1) :
    Calls Tryd.prog 37 #[.slice A l.length c, .func (.func 38) #[] #[.pointer (some ⟨pf, 0, none⟩)]] w fun e w' => e = .returned (.slice A l.length c) ∧ Below w.heap.size w w' := by
  have hI := IndexFunc_any hown hl hp hfs hfb
  rw [hi] at hI
  go_enter Tryd.func37, Tryd.ntmps37
  go_wp2_with (go_at_call 54; refine hI.mono ?_; rintro e w1 ⟨rfl, hB1⟩)
  go_ret
  exact ⟨rfl, hB1⟩
theorem first_cases (fb : Nat) : ∀ (l : List Wr) (s : Nat), (first fb l s = none ∧ ∀ y ∈ l, y.f ≠ fb) ∨ ∃ i, first fb l s = some (s + i) ∧ i < l.length ∧ (∀ j y, j < i → l[j]? = some y → y.f ≠ fb) ∧ ∀ y, l[i]? = some y → y.f = fb
  | [], s => .inl ⟨rfl, fun y hy => by cases hy⟩
  | x :: l, s => by
    by_cases h : x.f = fb
    · refine .inr ⟨0, by unfold first; rw [if_pos h]; rfl, by simp, fun j y hj => by omega, fun y hy => ?_⟩
      simp at hy; subst hy; exact h
    · have e : first fb (x :: l) s = first fb l (s + 1) := if_neg h
      rcases first_cases fb l (s + 1) with ⟨h1, h2⟩ | ⟨i, h1, h2, h3, h4⟩
      · refine .inl ⟨e.trans h1, fun y hy => ?_⟩
        rcases List.mem_cons.1 hy with rfl | hy
        · exact h
        · exact h2 y hy
      · refine .inr ⟨i + 1, by rw [e, h1, show s + 1 + i = s + (i + 1) by omega], by simp; omega, fun j y hj hy => ?_, fun y hy => h4 y (by simpa using hy)⟩
        cases j with
        | zero => simp at hy; subst hy; exact h
        | succ j => exact h3 j y (by omega) (by simpa using hy)
/-- DeleteFunc: the writes of another file stay. -/
theorem DeleteFunc_any {X : Nat → Prop} {w : World} {pf fb c : Nat} {A : Option Addr} {l : List Wr} (hr : RowX X w 89 3 (.slice A l.length c) l.length (wcells l)) (hl : l.length ≤ 1000) (hp : w.cell? ⟨pf, 0, none⟩ = some (.pointer (some ⟨fb, 0, none⟩)))
    (hpf : ∀ cs, w.heap[pf]? ≠ some (.cells cs 89 (0, 0))) (hfs : ∀ y ∈ l, ∃ cf, w.heap[y.f]? = some (.cells cf 79 (0, 0))) (hfb : ∃ cf, w.heap[fb]? = some (.cells cf 79 (0, 0))) :
    Calls Tryd.prog 37 #[.slice A l.length c, .func (.func 38) #[] #[.pointer (some ⟨pf, 0, none⟩)]] w fun e w' =>
      ∃ v', e = .returned v' ∧ RowX X w' 89 3 v' (others fb l).length (wcells (others fb l)) ∧ v'.ownBlock = (.slice A l.length c : Value).ownBlock ∧ w.grownBy w' (.slice A l.length c : Value).ownBlock := by
  have hfs' : ∀ y ∈ l, ∃ cf tf, w.heap[y.f]? = some (.cells cf tf (0, 0)) := fun y hy => by obtain ⟨cf, h⟩ := hfs y hy; exact ⟨cf, _, h⟩
  rcases first_cases fb l 0 with ⟨h1, h2⟩ | ⟨i, h1, h2, h3, h4⟩
  · have hi : firstI fb l = -1 := by unfold firstI; rw [h1]
    have ho : others fb l = l := List.filter_eq_self.2 (fun x hx => by simpa using h2 x hx)
    refine (DeleteFunc_none hr.1 hl hp hfs' (by obtain ⟨cf, h⟩ := hfb; exact ⟨cf, _, h⟩) hi).mono ?_
    rintro e w' ⟨rfl, hB⟩
    refine ⟨_, rfl, ?_, rfl, ⟨hB.os, hB.tape, hB.output, hB.size, fun k hk _ => hB.block k hk⟩⟩
    rw [ho]
    exact hr.keep (fun k cs _ hk h => (hB.block k (hr.lt hk)).trans h) (fun _ h => h)
  · have hi : firstI fb l = (i : Int) := by unfold firstI; rw [h1]; simp
    rcases hr.1.2 with ⟨_, h5⟩ | ⟨g, cap, cur, h5, h6, h7, h8, h9, h10, h11⟩
    · omega
    · simp only [Value.slice.injEq] at h5
      obtain ⟨rfl, _, rfl⟩ := h5
      have hpg : pf ≠ g := fun e => by subst e; exact hpf _ h7
      refine (DeleteFunc_some (hr.2 g rfl) h7 (fun t u hu => ?_) h10 h8 h9 hl hpg hp hr.1 (fun y hy => ⟨fun e => ?_, hfs' y hy⟩) ⟨fun e => ?_, ?_⟩ hi h2 h3 h4).mono ?_
      · rw [← h11, List.getElem?_take] at hu
        by_cases ht : t < l.length * 3
        · rw [if_pos ht] at hu; simpa using hu
        · rw [if_neg ht] at hu; cases hu
      · obtain ⟨cf, h⟩ := hfs y hy
        rw [e, h7] at h; cases h
      · obtain ⟨cf, h⟩ := hfb
        rw [e, h7] at h; cases h
      · obtain ⟨cf, h⟩ := hfb; exact ⟨cf, _, h⟩
      · rintro e w' ⟨v', rfl, hr', hb', hg'⟩
        exact ⟨v', rfl, hr', hb', hg'⟩
set_option maxHeartbeats 4000000 in
set_option maxRecDepth 100000 in
theorem Sync_walk {X : Nat → Prop} {w w1 : World} {db f cn c4 : Nat} {room after code : Int} {armed : Bool} {sf nw ch sv : Value} {nm : ByteArray} {An A4 : Option Addr} {ln : List ByteArray} {l : List Wr}
    (hO : Calls Tryd.prog 32 #[.pointer (some ⟨db, 0, none⟩), .string nm] w fun e w' => e = .returned (.tuple #[.pointer (some ⟨f, 0, none⟩), .int .i64 0]) ∧ w' = w1)
    (hd : Blk w1 db 64 (dcells room sf nw ch (.slice A4 l.length c4) armed after code)) (hf : Blk w1 f 79 #[sv, .slice An ln.length cn])
    (hn : RowX X w1 86 1 (.slice An ln.length cn) ln.length (strs ln)) (hl : ln.length ≤ 5000) (hw : RowX X w1 89 3 (.slice A4 l.length c4) l.length (wcells l)) (hlw : l.length ≤ 1000) (hfs : ∀ y ∈ l, ∃ cf, w1.heap[y.f]? = some (.cells cf 79 (0, 0))) :
    Calls Tryd.prog 14 #[.pointer (some ⟨db, 0, none⟩), .string nm] w fun e w' => Ends w opSync nm 0 e w' ∧ ∃ w3 A3 c3 w5 v', Below w1.heap.size w1 w3 ∧ w3.ownsRow w1.heap.size 86 1 (.slice A3 ln.length c3) ln.length (strs ln) ∧
      RowX X w5 89 3 v' (others f l).length (wcells (others f l)) ∧ v'.ownBlock = (.slice A4 l.length c4 : Value).ownBlock ∧ (w3.setCell ⟨f, 0, none⟩ (.slice A3 ln.length c3)).grownBy w5 (.slice A4 l.length c4 : Value).ownBlock ∧ Below w5.heap.size (w5.setCell ⟨db, 4, none⟩ v') w' := by
  go_enter Tryd.func14, Tryd.ntmps14
  go_wp2_with (go_at_call 32; refine hO.mono ?_; rintro e w9 ⟨rfl, h9⟩; obtain rfl : w1 = w9 := h9.symm)
  have bp : Blk (w1.alloc (.cells #[.pointer (some ⟨f, 0, none⟩)] 68)) w1.heap.size 68 #[.pointer (some ⟨f, 0, none⟩)] := Blk.new w1 _ _
  obtain ⟨W, hW⟩ : ∃ W, w1.alloc (.cells #[.pointer (some ⟨f, 0, none⟩)] 68) = W := ⟨_, rfl⟩
  have hBW : Below w1.heap.size w1 W := hW ▸ (Below.refl _ _).alloc (Nat.le_refl _) _
  have hsW : W.heap.size = w1.heap.size + 1 := by rw [← hW]; simp
  rw [hW] at bp ⊢
  clear hW
  have hfW : Blk W f 79 _ := (hBW.block f hf.lt).trans hf
  have hnW : RowX X W 86 1 (.slice An ln.length cn) ln.length (strs ln) := hn.keep (fun k cs _ hk h => (hBW.block k (hn.lt hk)).trans h) (fun _ h => h)
  have p0 : W.cell? ⟨w1.heap.size, 0, none⟩ = some (.pointer (some ⟨f, 0, none⟩)) := bp.cell 0
  have q1 : W.cell? ⟨f, 1, none⟩ = some (.slice An ln.length cn) := hfW.cell 1
  have hfl := hf.lt
  have hdl := hd.lt
  go_region_held3 (fun w' => w'.cell? ⟨w1.heap.size, 0, none⟩ = some (.pointer (some ⟨f, 0, none⟩)) ∧ w'.cell? ⟨f, 1, none⟩ = some (.slice An ln.length cn))
    (first
      | exact ⟨p0, q1⟩
      | exact ⟨bp3.cell 0, hf3.cell 1⟩
      | exact ⟨(bp3.far (show w1.heap.size ≠ f by omega) _).cell 0, (hf3.set_ 0 _).cell 1⟩)
    ((go_at_call 36; refine (Clone_row (w := W.drew) hnW hl).mono ?_; rintro e w3 ⟨A3, c3, rfl, ho3, hB3'⟩; have hB3 : Below W.heap.size W w3 := ⟨hB3'.os, hB3'.tape, hB3'.output, hB3'.size, hB3'.block⟩; have bp3 : Blk w3 w1.heap.size 68 _ := (hB3.block _ bp.lt).trans bp; have hf3 : Blk w3 f 79 _ := (hB3.block f hfW.lt).trans hfW; have q0 : w3.cell? ⟨f, 0, none⟩ = some sv := hf3.cell 0; have z0 := hf3.frozen 0))
  all_goals
    have hB13 : Below w1.heap.size w1 w3 := hBW.trans (hB3.mono hBW.size)
    have hd3 : Blk w3 db 64 (dcells room sf nw ch (.slice A4 l.length c4) armed after code) := (hB13.block db hdl).trans hd
    have hne : db ≠ f := fun e => by
      subst e
      unfold Blk at hd hf
      rw [hd] at hf
      cases hf
    obtain ⟨W4, hW4⟩ : ∃ W4, w3.setCell ⟨f, 0, none⟩ (.slice A3 ln.length c3) = W4 := ⟨_, rfl⟩
    have hoth : ∀ k, k ≠ f → W4.heap[k]? = w3.heap[k]? := fun k hk => by rw [← hW4]; exact Below.heap_setCell _ _ _ _ hk
    have hf4 : Blk W4 f 79 #[.slice A3 ln.length c3, .slice An ln.length cn] := by rw [← hW4]; exact hf3.set_ 0 _
    have hd4 : Blk W4 db 64 (dcells room sf nw ch (.slice A4 l.length c4) armed after code) := (hoth db hne).trans hd3
    have bp4 : Blk W4 w1.heap.size 68 _ := (hoth _ (by omega)).trans bp3
    have hw4 : RowX X W4 89 3 (.slice A4 l.length c4) l.length (wcells l) := hw.keep (fun k cs _ hk h => by
      have hkl := hw.lt hk
      have h3 := (hB13.block k hkl).trans h
      exact (hoth k (fun e => by subst e; have := hf3; unfold Blk at this; rw [this] at h3; cases h3)).trans h3) (fun _ h => h)
    have hfs4 : ∀ y ∈ l, ∃ cf, W4.heap[y.f]? = some (.cells cf 79 (0, 0)) := fun y hy => by
      obtain ⟨cf, h⟩ := hfs y hy
      by_cases e : y.f = f
      · rw [e]; exact ⟨_, hf4⟩
      · exact ⟨cf, (hoth _ e).trans ((hB13.block _ (Array.getElem?_eq_some_iff.1 h).1).trans h)⟩
    have hDF := DeleteFunc_any (pf := w1.heap.size) (fb := f) hw4 hlw (bp4.cell 0) (fun cs h => by unfold Blk at bp4; rw [bp4] at h; cases h) hfs4 ⟨_, hf4⟩
    have e4 : W4.cell? ⟨db, 4, none⟩ = some (.slice A4 l.length c4) := hd4.cell 4
    rw [hW4]
    have HW4 := Lib.hid hW4
    clear hW4
    go_wp2_with (first
      | (go_at_call 37; refine hDF.mono ?_; rintro e w5 ⟨v', rfl, hr5, hb5, hg5⟩; obtain ⟨A5, c5, rfl⟩ := hr5.form; have hd5 : Blk w5 db 64 _ := (hg5.block db hd4.lt (blk_apart hd4 hw4 (by decide))).trans hd4; have e5 : w5.cell? ⟨db, 4, none⟩ = some (.slice A4 l.length c4) := hd5.cell 4; have z5 := hd5.frozen 4)
      | (go_at_call 23; refine (fault_any _ _ _ _).mono ?_; rintro e w7 ⟨⟨v, rfl, hv⟩, hb7⟩))
    go_ret
    rw [← HW4.out] at hg5
    exact ⟨⟨v, rfl, hv⟩, w3, A3, c3, w5, _, hB13, ownsRow_base' ho3 (by show w1.heap.size ≤ W.heap.size; omega), hr5, hb5, hg5, by rw [show (w5.setCell ⟨db, 4, none⟩ (.slice A5 (others f l).length c5)).heap.size = w5.heap.size by simp [World.setCell]] at hb7; exact hb7⟩
section
variable {X X' : Nat → Prop} {w w1 w2 w3 w4 : World} {db M1 M2 : Nat} {v3 v4 : Value} {q q' : DQ} {fs : List Nat} {V : Nat → Bool → Value} {C : Nat → Bool → List ByteArray}
theorem Sync_go (hF : FilesV X w fs V C) (h : DiskV X w db M1 M2 v3 v4 q) (hb : ∀ k, X k → k < w.heap.size) (ha : q.after ≤ 9223372036854775807)
    {nm : ByteArray} {f : Nat} (ho : openedQ q nm = (0, some f)) (hff : f ∈ fs) (hl : (C f true).length ≤ 5000) (hm : q.wrs.length ≤ 1000) (hwf : ∀ y ∈ q.wrs, y.f ∈ fs) :
    Calls Tryd.prog 14 #[.pointer (some ⟨db, 0, none⟩), .string nm] w fun e w' => Ends w opSync nm 0 e w' ∧ Left X w db M1 fs (upd C f false (C f true)) { (failQ q).2 with wrs := others f q.wrs } w' := by
  obtain ⟨w1, hO, hD, hN⟩ := opened_any h ha nm
  rw [ho] at hO
  have hF1 : FilesV X w1 fs V C := hF.keep (fun _ h => h) hN.files
  have f1 : Fr X w w1 := hN.fr' hD.inX
  obtain ⟨An, cn, hV⟩ := (hF1.row f hff true).form
  have hfb := hF1.blk f hff
  rw [hV] at hfb
  have hrn := hF1.row f hff true
  rw [hV] at hrn
  obtain ⟨Aw, cw, hv4⟩ := hD.wrs.form
  have hwr := failQ_wrs q
  have hown := hD.wrs
  have hdb := hD.blk
  rw [hwr] at hv4 hown
  rw [hv4] at hdb hown
  refine (Sync_walk (X := X) hO hdb hfb hrn hl hown hm (fun y hy => ⟨_, hF1.blk y.f (hwf y hy)⟩)).mono ?_
  rintro e w' ⟨hE, w3, A3, c3, w5, v', hB3, ho3, hr5, hb5, hg5, hB7⟩
  refine ⟨hE, ?_⟩
  have s1 := hN.size
  have s3 := hB3.size
  have hF3 := hF1.keep (fun _ h => h) (Same.of_below (T := FT) (X := X) hB3)
  have hr3 : RowX (More X w) w3 86 1 (.slice A3 (C f true).length c3) (C f true).length (strs (C f true)) := ⟨own_base ho3, fun k hk => .inr (by have := (ho3.lt k hk).1; omega)⟩
  have hF4 := hF3.turn (b := false) (X' := More X w) (w1 := w3) hff (fun _ => more_left) (fun k cs t _ _ _ h => h) hr3 (.inr (fun k hk hx => by have := hb k hx; have := (ho3.lt k hk).1; omega))
  have hD3 := hD.below hB3
  rw [hv4] at hD3
  have hD4 : DiskV X (w3.setCell ⟨f, 0, none⟩ (.slice A3 (C f true).length c3)) db M1 M2 v3 (.slice Aw q.wrs.length cw) (failQ q).2 := hD3.keep (fun _ h => h) (same_set (hF3.blk f hff) (by rintro (e | e | e) <;> cases e)) (sameM_set (hF3.blk f hff))
  have hD5 := hD4.wrs4 (X' := X) (fun _ h => h) hg5 hr5
  have e5 : (w5.setCell ⟨db, 4, none⟩ v').heap.size = w5.heap.size := by simp [World.setCell]
  have hB' : Below (w5.setCell ⟨db, 4, none⟩ v').heap.size (w5.setCell ⟨db, 4, none⟩ v') w' := by rw [e5]; exact hB7
  refine ⟨⟨_, _, _, (hD5.below hB').keep (fun _ => more_left) Same.refl (fun _ _ _ _ h => h)⟩, ⟨_, hF4.keep (fun _ h => h) ?_⟩, ?_⟩
  · have hr4 : RowX (More X w) (w3.setCell ⟨f, 0, none⟩ (.slice A3 (C f true).length c3)) 89 3 (.slice Aw q.wrs.length cw) (failQ q).2.wrs.length (wcells (failQ q).2.wrs) := hD4.wrs.keep (fun _ _ _ _ h => h) (fun _ => more_left)
    have s5 : Same FT (More X w) _ w5 := same_grown hr4 hg5 (by rintro (e | e) <;> cases e)
    have hb5' : Blk w5 db 64 _ := (hg5.block db hD4.blk.lt (blk_apart hD4.blk hD4.wrs (by decide))).trans hD4.blk
    exact (s5.trans (same_set hb5' (by rintro (e | e) <;> cases e))).trans (Same.of_below hB')
  · have f3 : Fr X w w3 := f1.trans (Fr.of_below hB3)
    have f4 := f3.setCell (p := ⟨f, 0, none⟩) (.inr (hF1.inX f hff)) (.slice A3 (C f true).length c3)
    have f5 : Fr X w w5 := f4.grown hg5 (fun k hk => .inr (hown.2 k hk))
    exact (f5.setCell (p := ⟨db, 4, none⟩) (.inr hD.inX) _).trans (Fr.of_below hB')
end
end Go.Proofs.YtekajggjoeimoaaDoor
