/- DiskSafe: what a sector might be. What comes in: rows of bytes, rows of numbers. -/
import Derived.Test.YtekajggjoeimoaaDoorMc
import Derived.Test.YtekajggjoeimoaaDoorMa
import Derived.ProofKit
import Derived.OpenShut
import Derived.ChangeOld
import Derived.Deep.Slices
import Derived.Laws.BytesArg
import Derived.ChangeSame
set_option linter.unusedVariables false
namespace Go.Proofs.YtekajggjoeimoaaDoor
open Go.RowKit
/-- What came in as bytes: its text. -/
structure Bz where
  A : Option Addr
  n : Nat
  c : Nat
  s : ByteArray
def Bz.val (x : Bz) : Value := .slice x.A x.n x.c
def BzAt (B : Nat) (w : World) (x : Bz) : Prop := x.s.size = x.n ∧ x.n ≤ 9223372036854775807 ∧ ∀ W, Below B w W → ∀ t, Tryd.prog.underlying t = some .string → (convert 38 t (.slice x.A x.n x.c)).run Tryd.prog W = .ok (.string x.s) W
structure MightV (Y : Nat → Prop) (w : World) (gm : Nat) (V : Nat → Value) (L : Nat → List ByteArray) : Prop where
  blk : ∃ cur, Blk w gm 40 cur ∧ cur.size = 8 ∧ ∀ i, i < 8 → cur[i]? = some (V i)
  inY : Y gm
  row : ∀ i, i < 8 → RowX Y w 9 1 (V i) (L i).length (strs (L i))
  inj : ∀ i j, i < 8 → j < 8 → ∀ k, (V i).ownBlock = some k → (V j).ownBlock = some k → i = j
section
variable {Y Y' : Nat → Prop} {w w1 w' : World} {gm : Nat} {V : Nat → Value} {L : Nat → List ByteArray}
theorem MightV.keep (h : MightV Y w gm V L) (hY : ∀ k, Y k → Y' k) (hs : ∀ k o, Y k → w.heap[k]? = some o → w'.heap[k]? = some o) : MightV Y' w' gm V L := by
  obtain ⟨cur, h1, h2, h3⟩ := h.blk
  exact ⟨⟨cur, hs _ _ h.inY h1, h2, h3⟩, hY _ h.inY, fun i hi => (h.row i hi).keep (fun k cs hx _ hk => hs k _ hx hk) hY, h.inj⟩
theorem MightV.frn {B : Nat} (h : MightV Y w gm V L) (hf : FrN B Y w w') : MightV Y w' gm V L := h.keep (fun _ h => h) (fun k o hy hk => hf.heap hk (fun h => h.2 hy))
theorem MightV.below (h : MightV Y w gm V L) (hb : Below w.heap.size w w') : MightV Y w' gm V L := h.keep (fun _ h => h) (fun k o hy hk => (hb.block k (Array.getElem?_eq_some_iff.1 hk).1).trans hk)
theorem MightV.turn (h : MightV Y w gm V L) {i : Nat} (hi : i < 8) {v' : Value} {l' : List ByteArray} (hY : ∀ k, Y k → Y' k)
    (hs : ∀ k o, Y k → some k ≠ (V i).ownBlock → w.heap[k]? = some o → w1.heap[k]? = some o) (hr : RowX Y' w1 9 1 v' l'.length (strs l')) (ho : v'.ownBlock = (V i).ownBlock ∨ ∀ k, v'.ownBlock = some k → ¬ Y k) :
    MightV Y' (w1.setCell ⟨gm, i, none⟩ v') gm (fun j => if j = i then v' else V j) (fun j => if j = i then l' else L j) := by
  obtain ⟨cur, h1, h2, h3⟩ := h.blk
  have hgo : ∀ j, j < 8 → ∀ k, (V j).ownBlock = some k → k ≠ gm := fun j hj k hk e => by
    subst e
    obtain ⟨c, hc⟩ := (h.row j hj).block hk
    unfold Blk at h1
    rw [h1] at hc
    cases hc
  have h1' : Blk w1 gm 40 cur := hs gm _ h.inY (fun e => hgo i hi gm e.symm rfl) h1
  have hoth : ∀ k, k ≠ gm → (w1.setCell ⟨gm, i, none⟩ v').heap[k]? = w1.heap[k]? := fun k hk => Below.heap_setCell _ _ _ _ hk
  refine ⟨⟨cur.setIfInBounds i v', h1'.set_ i v', by simpa using h2, fun j hj => ?_⟩, hY _ h.inY, fun j hj => ?_, fun j j' hj hj' k hk hk' => ?_⟩
  · rw [Array.getElem?_setIfInBounds]
    by_cases e : j = i
    · subst e; simp; omega
    · rw [if_neg (fun h => e h.symm)]; simpa [e] using h3 j hj
  · by_cases e : j = i
    · subst e
      simp only [if_true]
      exact hr.keep (fun k cs hx hk h5 => (hoth k (fun e => by
        subst e
        unfold Blk at h1'
        rw [h1'] at h5; cases h5)).trans h5) (fun _ h => h)
    · simp only [e, if_false]
      exact (h.row j hj).keep (fun k cs hx hk h5 => (hoth k (hgo j hj k hk)).trans (hs k _ hx (fun e2 => e (h.inj j i hj hi k hk e2.symm)) h5)) hY
  · by_cases e : j = i
    · by_cases e' : j' = i
      · omega
      · subst e
        simp only [if_true] at hk
        simp only [e', if_false] at hk'
        rcases ho with ho | ho
        · rw [ho] at hk; exact h.inj j j' hj hj' k hk hk'
        · exact absurd ((h.row j' hj').2 k hk') (ho k hk)
    · simp only [e, if_false] at hk
      by_cases e' : j' = i
      · subst e'
        simp only [if_true] at hk'
        rcases ho with ho | ho
        · rw [ho] at hk'; exact h.inj j j' hj hj' k hk hk'
        · exact absurd ((h.row j hj).2 k hk) (ho k hk')
      · simp only [e', if_false] at hk'
        exact h.inj j j' hj hj' k hk hk'
end
theorem Tryd.info40 : (Tryd.prog.info? 40).map (fun i => (i.zero, i.size, i.bytes)) = some (some (.slice none 0 0), 1, 24) := by kernel_rfl
def M8 : Array Value := madeCells #[.slice none 0 0] 8
theorem mkM (W : World) : (Instr.makeSlice 37 (.int .i64 8) (.int .i64 8)).run Tryd.prog W = .ok (.slice (some ⟨W.heap.size, 0, none⟩) 8 8) (W.alloc (.cells M8 40)) := by
  obtain ⟨i0, hi0, hz0, hz1, hz2⟩ := info_parts Tryd.info40
  have h := run_makeSlice (P := Tryd.prog) W 37 40 i0 _ Tryd.underlying37 hi0 hz0 .i64 .i64 8 8 (by omega) (Int.le_refl _) (by rw [hz1]; decide) (by rw [hz2]; omega) (by omega)
  rw [hz1] at h
  exact h
theorem cv64s (W : World) (g : Nat) (h : Blk W g 5 Z64) {t : TypeId} (ht : Tryd.prog.underlying t = some .string) : (convert 38 t (.slice (some ⟨g, 0, none⟩) 64 64)).run Tryd.prog W = .ok (.string zeroS) W := by
  have hz : ∀ j, j < 64 → Z64[j]? = some (.int .u8 0) := fun j hj => by
    unfold Z64 madeCells
    simp [hj, Nat.mod_one]
  have h1 := run_convert_bytes_back (P := Tryd.prog) W 38 t 5 ⟨g, 0, none⟩ 64 (List.replicate 64 0) Tryd.underlying38 Tryd.underlying5 ht (fun j hj => by
    have e : (⟨g, 0, none⟩ : Addr).add j = ⟨g, j, none⟩ := by unfold Addr.add; split <;> simp_all
    rw [e, h.cell j, hz j (by simpa using hj), List.getElem_replicate]
    rfl)
  rw [List.length_replicate] at h1
  exact h1
theorem might_new (W : World) : MightV (fun k => k = W.heap.size) (W.alloc (.cells M8 40)) W.heap.size (fun _ => .slice none 0 0) (fun _ => []) := by
  refine ⟨⟨M8, Blk.new W _ _, by simp [M8, madeCells], fun i hi => ?_⟩, rfl, fun i hi => RowX.nil, fun i j _ _ k hk => by cases hk⟩
  unfold M8 madeCells
  simp [hi, Nat.mod_one]
structure Ph1 (B : Nat) (w0 : World) (db f gm k : Nat) (wr : World) (Y : Nat → Prop) (C : Nat → Bool → List ByteArray) (ws : List Wr) (V : Nat → Value) (L : Nat → List ByteArray) : Prop where
  y : ∀ j, Y j → j < wr.heap.size ∧ B ≤ j
  ds : DS B Y wr db [f] C (qS f ws)
  mv : MightV Y wr gm V L
  bel : Below B w0 wr
  len : (C f true).length = 8
  wl : ws.length ≤ k
  wf : ∀ y ∈ ws, y.f = f
  old : ∀ j, j < k → ∃ s, L j = [s] ∧ (C f true)[j]? = some s
  new : ∀ j, k ≤ j → j < 8 → (C f true)[j]? = some zeroS
theorem Tryd.info9' : (Tryd.prog.info? 9).map (fun i => (i.zero, i.size, i.bytes)) = some (some (.string ByteArray.empty), 1, 16) := by kernel_rfl
theorem one_reads (w5 : World) (s : ByteArray) : Reads (w5.alloc (.cells #[.string s] 9)) (w5.heap.size + 1) 1 (some ⟨w5.heap.size, 0, none⟩) 1 (strs [s]) := by
  refine ⟨rfl, fun _ => ⟨_, rfl, Nat.lt_succ_self _, fun j u hu => ?_⟩⟩
  have hj : j < 1 := (List.getElem?_eq_some_iff.1 hu).1
  obtain rfl : j = 0 := by omega
  exact ((Blk.new w5 9 #[.string s]).cell 0).trans hu
theorem one_row (w5 : World) (s : ByteArray) : (w5.alloc (.cells #[.string s] 9)).ownsRow 0 9 1 (.slice (some ⟨w5.heap.size, 0, none⟩) 1 1) 1 (strs [s]) :=
  ⟨rfl, .inr ⟨w5.heap.size, 1, #[.string s], rfl, Nat.zero_le _, heap_alloc_new w5 _, Nat.le_refl _, by simp [maxLen], rfl, rfl⟩⟩
theorem Ph1.next {B : Nat} {w0 w5 : World} {db f gm k : Nat} {Y : Nat → Prop} {C : Nat → Bool → List ByteArray} {ws : List Wr} {V : Nat → Value} {L : Nat → List ByteArray} (hk : k < 8) (hy : ∀ j, Y j → j < w5.heap.size ∧ B ≤ j) (hd : DS B Y w5 db [f] C (qS f ws)) (hm : MightV Y w5 gm V L) (hb : Below B w0 w5) (hB : B ≤ w0.heap.size)
    (hl : (C f true).length = 8) (hw : ws.length ≤ k + 1) (hf : ∀ y ∈ ws, y.f = f) {s : ByteArray} (hs : (C f true)[k]? = some s) (ho : ∀ j, j < k → ∃ s, L j = [s] ∧ (C f true)[j]? = some s) (hn : ∀ j, k + 1 ≤ j → j < 8 → (C f true)[j]? = some zeroS) :
    ∃ Y' V' L', Ph1 B w0 db f gm (k + 1) ((w5.alloc (.cells #[.string s] 9)).setCell ⟨gm, k, none⟩ (.slice (some ⟨w5.heap.size, 0, none⟩) 1 1)) Y' C ws V' L' := by
  have hB5 : B ≤ w5.heap.size := Nat.le_trans hB hb.size
  have hm2 := hm.turn (w1 := w5.alloc (.cells #[.string s] 9)) (Y' := fun j => Y j ∨ j = w5.heap.size) hk (v' := .slice (some ⟨w5.heap.size, 0, none⟩) 1 1) (l' := [s]) (fun j hj => .inl hj) (fun j o hj _ h => (Below.heap_alloc _ _ _ (hy j hj).1).trans h) ⟨one_row w5 s, fun j hj => by cases hj; exact .inr rfl⟩ (.inr (fun j hj hy' => by cases hj; exact absurd (hy _ hy').1 (Nat.lt_irrefl _)))
  have hfr : Fr Y w5 ((w5.alloc (.cells #[.string s] 9)).setCell ⟨gm, k, none⟩ (.slice (some ⟨w5.heap.size, 0, none⟩) 1 1)) := ((Fr.refl Y w5).alloc _).setCell (p := ⟨gm, k, none⟩) (.inr hm.inY) _
  have hsz : ((w5.alloc (.cells #[.string s] 9)).setCell ⟨gm, k, none⟩ (.slice (some ⟨w5.heap.size, 0, none⟩) 1 1)).heap.size = w5.heap.size + 1 := by simp [World.setCell]
  refine ⟨_, _, _, ⟨fun j hj => ?_, hd.other hfr (fun j hj => hj.imp id (fun e => by rw [e]; exact Nat.le_refl _)), hm2, hb.trans (hfr.below hB5 (fun j hj => (hy j hj).2)), hl, hw, hf, fun j hj => ?_, hn⟩⟩
  · rw [hsz]
    rcases hj with hj | hj
    · have := hy j hj; omega
    · omega
  · by_cases e : j = k
    · subst e; exact ⟨s, by simp, hs⟩
    · obtain ⟨s', h1, h2⟩ := ho j (by omega)
      exact ⟨s', by simp [e, h1], h2⟩
def SafeRel1 (B : Nat) (w0 : World) (db f gm : Nat) (i : Value) (wr : World) : Prop := ∃ k : Nat, k ≤ 8 ∧ i = .int .i64 k ∧ ∃ Y C ws V L, Ph1 B w0 db f gm k wr Y C ws V L
structure Ph2 (B : Nat) (w0 : World) (db f gm j : Nat) (N0 : List ByteArray) (wr : World) (Y : Nat → Prop) (C : Nat → Bool → List ByteArray) (ws : List Wr) (V : Nat → Value) (L : Nat → List ByteArray) : Prop where
  y : ∀ j, Y j → j < wr.heap.size ∧ B ≤ j
  ds : DS B Y wr db [f] C (qS f ws)
  mv : MightV Y wr gm V L
  bel : Below B w0 wr
  safe : C f false = N0
  len : (C f true).length = 8
  wl : ws.length ≤ j
  wf : ∀ y ∈ ws, y.f = f ∧ y.n < 8
  old : ∀ i, i < 8 → (∃ s, N0[i]? = some s ∧ s ∈ L i) ∧ ∀ y ∈ ws, y.n = i → y.s ∈ L i
  ll : ∀ i, i < 8 → (L i).length ≤ j + 1
theorem Ph2.push {B : Nat} {w0 wr w6 : World} {db f gm j m cm c6 : Nat} {N0 : List ByteArray} {Y : Nat → Prop} {C : Nat → Bool → List ByteArray} {ws : List Wr} {V : Nat → Value} {L : Nat → List ByteArray} {Am A6 : Option Addr} {xs : ByteArray} (hp : Ph2 B w0 db f gm j N0 wr Y C ws V L) (hB : B ≤ w0.heap.size) (hm : m < 8) (hV : V m = .slice Am (L m).length cm)
    (ho : w6.ownsRow 0 9 1 (.slice A6 ((L m).length + 1) c6) ((L m).length + 1) (strs (L m) ++ strs [xs])) (hg : (wr.alloc (.cells #[.string xs] 9)).drew.grownBy w6 (.slice Am (L m).length cm : Value).ownBlock)
    (hl : (.slice A6 ((L m).length + 1) c6 : Value).ownBlock = (.slice Am (L m).length cm : Value).ownBlock ∨ (.slice A6 ((L m).length + 1) c6 : Value).ownBlock = some (wr.heap.size + 1)) :
    ∃ Y' V', Ph2 B w0 db f gm (j + 1) N0 (w6.setCell ⟨gm, m, none⟩ (.slice A6 ((L m).length + 1) c6)) Y' C ws V' (fun i => if i = m then L m ++ [xs] else L i) := by
  have hrow := hp.mv.row m hm
  have hBr : B ≤ wr.heap.size := Nat.le_trans hB hp.bel.size
  have hs6 := hg.size
  have hsA : (wr.alloc (.cells #[.string xs] 9)).drew.heap.size = wr.heap.size + 1 := by show (wr.alloc (.cells #[.string xs] 9)).heap.size = _; simp
  have hsz : (w6.setCell ⟨gm, m, none⟩ (.slice A6 ((L m).length + 1) c6)).heap.size = w6.heap.size := by simp [World.setCell]
  have hblk : ∀ k o, Y k → some k ≠ (V m).ownBlock → wr.heap[k]? = some o → w6.heap[k]? = some o := fun k o hk hne h =>
    (hg.block k (by have := (hp.y k hk).1; omega) (by rw [← hV]; exact hne)).trans ((Below.heap_alloc wr (.cells #[.string xs] 9) k (hp.y k hk).1).trans h)
  have hmv := hp.mv.turn (w1 := w6) (Y' := fun k => Y k ∨ wr.heap.size ≤ k ∧ k < w6.heap.size) hm (v' := .slice A6 ((L m).length + 1) c6) (l' := L m ++ [xs]) (fun k hk => .inl hk) hblk ⟨by rw [strs_append, List.length_append]; exact ho, fun k hk => by
    rcases hl with h | h
    · rw [h, ← hV] at hk; exact .inl (hrow.2 k hk)
    · rw [h] at hk; cases hk
      exact .inr ⟨by omega, (ho.lt _ h).2⟩⟩ (by
    rcases hl with h | h
    · left; rw [h, ← hV]
    · right; intro k hk hy
      rw [h] at hk; cases hk
      have := (hp.y _ hy).1; omega)
  have hfr : Fr Y wr (w6.setCell ⟨gm, m, none⟩ (.slice A6 ((L m).length + 1) c6)) := ((((Fr.refl Y wr).alloc (.cells #[.string xs] 9)).drew).grown hg (fun k hk => .inr (hrow.2 k (by rw [hV]; exact hk)))).setCell (p := ⟨gm, m, none⟩) (.inr hp.mv.inY) _
  refine ⟨_, _, ⟨fun k hk => ?_, hp.ds.other hfr (fun k hk => hk.imp id (fun h => h.1)), hmv, hp.bel.trans (hfr.below hBr (fun k hk => (hp.y k hk).2)), hp.safe, hp.len, Nat.le_succ_of_le hp.wl, hp.wf, fun i hi => ?_, fun i hi => ?_⟩⟩
  · rw [hsz]
    rcases hk with hk | hk
    · have := hp.y k hk; omega
    · omega
  · obtain ⟨⟨s, h1, h2⟩, h3⟩ := hp.old i hi
    by_cases e : i = m
    · subst e
      simp only [if_true]
      exact ⟨⟨s, h1, List.mem_append_left _ h2⟩, fun y hy hn => List.mem_append_left _ (h3 y hy hn)⟩
    · simp only [e, if_false]
      exact ⟨⟨s, h1, h2⟩, h3⟩
  · by_cases e : i = m
    · subst e
      simp only [if_true, List.length_append]
      have := hp.ll i hi
      simp; omega
    · simp only [e, if_false]
      exact Nat.le_succ_of_le (hp.ll i hi)
theorem Ph2.wrote {B : Nat} {w0 wr w7 : World} {db f gm j m : Nat} {N0 : List ByteArray} {Y : Nat → Prop} {C : Nat → Bool → List ByteArray} {ws : List Wr} {V : Nat → Value} {L : Nat → List ByteArray} {xs : ByteArray} (hp : Ph2 B w0 db f gm (j + 1) N0 wr Y C ws V L) (hB : B ≤ w0.heap.size) (hm : m < 8) (hx : xs ∈ L m) (hw : ws.length ≤ j)
    (hf : FrN B Y wr w7) (hD : DS B Y w7 db [f] (upd C f true ((C f true).set m xs)) (qS f (ws ++ [⟨f, m, xs⟩]))) : Ph2 B w0 db f gm (j + 1) N0 w7 Y (upd C f true ((C f true).set m xs)) (ws ++ [⟨f, m, xs⟩]) V L := by
  refine ⟨fun k hk => ⟨Nat.lt_of_lt_of_le (hp.y k hk).1 hf.size, (hp.y k hk).2⟩, hD, hp.mv.frn hf, hp.bel.trans (hf.below (Nat.le_trans hB hp.bel.size)), by rw [upd_ne _ _ (by simp)]; exact hp.safe, by rw [upd_at, List.length_set]; exact hp.len, by simp; omega, fun y hy => ?_, fun i hi => ⟨(hp.old i hi).1, fun y hy hn => ?_⟩, hp.ll⟩
  · rcases List.mem_append.1 hy with h | h
    · exact hp.wf y h
    · obtain rfl := List.mem_singleton.1 h; exact ⟨rfl, hm⟩
  · rcases List.mem_append.1 hy with h | h
    · exact (hp.old i hi).2 y h hn
    · obtain rfl := List.mem_singleton.1 h
      have e : m = i := hn
      subst e; exact hx
theorem Ph2.drew {B : Nat} {w0 wr : World} {db f gm j : Nat} {N0 : List ByteArray} {Y : Nat → Prop} {C : Nat → Bool → List ByteArray} {ws : List Wr} {V : Nat → Value} {L : Nat → List ByteArray} (hp : Ph2 B w0 db f gm j N0 wr Y C ws V L) : Ph2 B w0 db f gm j N0 wr.drew Y C ws V L :=
  ⟨hp.y, hp.ds.other ((Fr.refl Y wr).drew) (fun k hk => .inl hk), hp.mv.keep (fun _ h => h) (fun _ _ _ h => h), ⟨hp.bel.os, hp.bel.tape, hp.bel.output, hp.bel.size, hp.bel.block⟩, hp.safe, hp.len, hp.wl, hp.wf, hp.old, hp.ll⟩
def SafeRel2 (B : Nat) (w0 : World) (db f gm n : Nat) (N0 : List ByteArray) (i : Value) (wr : World) : Prop := ∃ j : Nat, j ≤ n ∧ i = .int .i64 j ∧ ∃ Y C ws V L, Ph2 B w0 db f gm j N0 wr Y C ws V L
def SafeRel3 (B : Nat) (w0 : World) (db f gm : Nat) (Y : Nat → Prop) (C : Nat → Bool → List ByteArray) (V : Nat → Value) (L : Nat → List ByteArray) (i : Value) (wr : World) : Prop :=
  ∃ j : Nat, j ≤ 8 ∧ i = .int .i64 j ∧ (∀ k, Y k → k < wr.heap.size ∧ B ≤ k) ∧ DS B Y wr db [f] C (qS f []) ∧ MightV Y wr gm V L ∧ Below B w0 wr
def SafeRel4 (w9 : World) (s : ByteArray) (l : List ByteArray) (b i : Value) (wr : World) : Prop := ∃ k : Nat, k ≤ l.length ∧ i = .int .i64 k ∧ b = .bool ((l.take k).any fun t => decide (s = t)) ∧ Below w9.heap.size w9 wr
theorem toList_beq (a b : ByteArray) : (a.toList == b.toList) = decide (a = b) := by rw [← beq_toListBytes, ba_beq]
set_option maxHeartbeats 8000000 in
set_option maxRecDepth 100000 in
theorem safe_any (A1 : Option Addr) (c1 : Nat) (l1 : List Bz) (A2 : Option Addr) (c2 : Nat) (l2 : List Bz) (A3 : Option Addr) (c3 : Nat) (wh : List Int) (changes : Int) (A4 : Option Addr) (c4 : Nat) (ks : List Int) (w : World) (hg : GlobAt w)
    (h1 : Reads w w.heap.size 1 A1 l1.length (l1.map Bz.val)) (b1 : ∀ x ∈ l1, BzAt w.heap.size w x) (h2 : Reads w w.heap.size 1 A2 l2.length (l2.map Bz.val)) (b2 : ∀ x ∈ l2, BzAt w.heap.size w x)
    (h3 : Reads w w.heap.size 1 A3 wh.length (wh.map (.int .i64))) (hch : -9223372036854775808 ≤ changes ∧ changes ≤ 9223372036854775807) (h4 : Reads w w.heap.size 1 A4 ks.length (ks.map (.int .i64)))
    (hm1 : l1.length ≤ 9223372036854775807) (hm2 : l2.length ≤ 9223372036854775807) (hm3 : wh.length ≤ 9223372036854775807) (hm4 : ks.length ≤ 9223372036854775807) :
    Calls Tryd.prog 4 #[.slice A1 l1.length c1, .slice A2 l2.length c2, .slice A3 wh.length c3, .int .i64 changes, .slice A4 ks.length c4] w fun e w' => e = .returned (.bool true) ∧ Below w.heap.size w w' := by
  have hlive : ∀ w', Below w.heap.size w w' → Calls Tryd.prog 7 #[] w' fun e w2 => e = .returned (.bool true) ∧ Below w'.heap.size w' w2 := fun w' hb => live_any ((hb.cell (p := ⟨0, 0, none⟩) (World.block_lt_of_cell? w _ hg)).trans hg)
  by_cases hout : 8 < l1.length ∨ 8 < l2.length ∨ wh.length < l2.length ∨ 80 < ks.length
  · have HO := Lib.hid hout
    clear hout
    have hmk := mkM
    go_enter Tryd.func4, Tryd.ntmps4
    go_wp2_with (go_at_call 7; refine (hlive _ (Below.refl _ _)).mono ?_; rintro e w2 ⟨rfl, hb2⟩)
    all_goals first
      | (go_ret; exact ⟨rfl, hb2⟩)
      | (exfalso; have := HO.out; omega)
  · have d0 : decide ((8 : Int) < (l1.length : Int)) = false := by simp; omega
    have d1 : decide ((8 : Int) < (l2.length : Int)) = false := by simp; omega
    have d2 : decide (wh.length < l2.length) = false := by simp; omega
    have d3 : decide ((80 : Int) < (ks.length : Int)) = false := by simp; omega
    have n1 : l1.length ≤ 8 := by omega
    have n2 : l2.length ≤ 8 := by omega
    have n3 : l2.length ≤ wh.length := by omega
    have n4 : ks.length ≤ 80 := by omega
    clear hout
    have hmk := mkM
    go_enter Tryd.func4, Tryd.ntmps4
    go_wp2_with (first
      | (go_at_call 6; refine (ds_new (B := w.heap.size) (Y := fun _ => False) (Nat.le_refl _) (fun k hk => hk.elim)).mono ?_; rintro e w1 ⟨db, rfl, hS1, hf1⟩; have hb1 : Below w.heap.size w w1 := hf1.below (Nat.le_refl _))
      | (go_at_call 11; refine (ds_create hS1 hb1.size (fun k hk => hk.elim)).mono ?_; rintro e w2 ⟨rfl, hf2, f, hS2⟩; have hb2 : Below w.heap.size w w2 := hb1.trans (hf2.below hb1.size))
      | (go_at_call 9; refine (ds_syncdir hS2 hb2.size (fun k hk => hk.elim)).mono ?_; rintro e w3 ⟨rfl, hf3, hS3⟩; have hb3 : Below w.heap.size w w3 := hb2.trans (hf3.below hb2.size))
      | (go_at_call 12; refine (ds_grow hS3 hb3.size (fun k hk => hk.elim)).mono ?_; rintro e w4 ⟨rfl, hf4, C, hC1, hC2, hS4⟩; have hb4 : Below w.heap.size w w4 := hb3.trans (hf4.below hb3.size)))
    have hmv := might_new w4
    have hS5 : DS w.heap.size (fun k => k = w4.heap.size) (w4.alloc (.cells M8 40)) db [f] C (qS f []) := hS4.other (Fr.of_below ((Below.refl _ _).alloc (Nat.le_refl _) _)) (fun k hk => .inr (by rw [hk]; exact Nat.le_refl _))
    have hb5 : Below w.heap.size w (w4.alloc (.cells M8 40)) := hb4.alloc hb4.size _
    have hph : Ph1 w.heap.size w db f w4.heap.size 0 (w4.alloc (.cells M8 40)) (fun k => k = w4.heap.size) C [] (fun _ => .slice none 0 0) (fun _ => []) :=
      ⟨fun j hj => by rw [hj]; exact ⟨by simp, hb4.size⟩, hS5, hmv, hb5, by rw [hC2]; simp, Nat.zero_le _, fun y hy => (by cases hy), fun j hj => absurd hj (by omega), fun j _ hj => by rw [hC2, List.getElem?_replicate, if_pos hj]⟩
    clear hS1 hS2 hS3 hS4 hf1 hf2 hf3 hf4 hb1 hb2 hb3 hC1 hC2 hmv hS5
    go_wp2_with fail
    go_loopw [14] (fun i wr => SafeRel1 w.heap.size w db f w4.heap.size i wr) (fun i _ => 8 - (intOf i).toNat)
    case atStart => exact ⟨0, by omega, rfl, _, _, _, _, _, hph⟩
    case round =>
      obtain ⟨k, hk, rfl, Y, C1, ws, V1, L1, hp⟩ := hrel
      by_cases hlt : k < 8
      · have e1 : decide ((k : Int) < 8) = true := by simp; omega
        have i0 : (0 : Int) ≤ (k : Int) := by omega
        have i1 : (k : Int) < 8 := by omega
        have hmk2 := mk64 wr
        have hcv := cv64s (wr.alloc (.cells Z64 5)) wr.heap.size (Blk.new wr 5 Z64) (t := 9) Tryd.underlying9
        have bW : Below wr.heap.size wr (wr.alloc (.cells Z64 5)) := (Below.refl _ _).alloc (Nat.le_refl _) _
        have hBr := hp.bel.size
        obtain ⟨W, hW⟩ : ∃ W, wr.alloc (.cells Z64 5) = W := ⟨_, rfl⟩
        rw [hW] at hmk2 hcv bW
        have hwW : Below w.heap.size w W := hp.bel.trans (bW.mono hBr)
        have hBW : w.heap.size ≤ W.heap.size := hwW.size
        have hDW := hp.ds.other (Y' := Y) (Fr.of_below bW) (fun k hk => .inl hk)
        have hMW := hp.mv.below bW
        have hYW : ∀ k, Y k → k < W.heap.size := fun k hk => Nat.lt_of_lt_of_le (hp.y k hk).1 bW.size
        clear hW
        by_cases hkl : k < l1.length
        · have e2 : decide (k < l1.length) = true := by simpa using hkl
          have i2 : (k : Int) < (l1.length : Int) := by omega
          obtain ⟨x, hx⟩ : ∃ x, l1[k]? = some x := ⟨_, List.getElem?_eq_getElem hkl⟩
          have hxb := b1 x (List.mem_of_getElem? hx)
          obtain ⟨ad, u, rfl, _, hu, hc⟩ := (h1.below hwW).at_ hkl
          rw [List.getElem?_map, hx] at hu
          cases hu
          obtain ⟨xA, xn, xc, xs⟩ := x
          unfold Bz.val at hc
          dsimp only at hc
          by_cases hx64 : xn = 64
          · subst hx64
            have hcv2 := hxb.2.2 W hwW 9 Tryd.underlying9
            dsimp only at hcv2
            have hWr := ds_write (n := k) (Ap := xA) (cp := xc) (s := xs) hDW hBW hYW hlt hp.len (fun W' hW' => hxb.2.2 W' (hwW.trans (hW'.below hBW)) 86 Tryd.underlying86) (by have := hp.wl; omega)
            go_wp2_with (go_at_call 13; refine hWr.mono ?_; rintro e w5 ⟨rfl, hf5, hD5⟩; obtain ⟨cur, hg5, hsz5, hcu5⟩ := (hMW.frn hf5).blk; have k5 : (w5.alloc (.cells #[.string xs] 9)).cell? ⟨w4.heap.size, k, none⟩ = some (V1 k) := ((hg5.alloc _).cell k).trans (hcu5 k hlt); have z5 := (hg5.alloc (.cells #[.string xs] 9)).frozen k)
            have hYs := hf5.size
            have hlen5 : (upd C1 f true ((C1 f true).set k xs) f true).length = 8 := by rw [upd_at, List.length_set]; exact hp.len
            obtain ⟨Y', V', L', hq⟩ := Ph1.next (w0 := w) hlt (fun j hj => ⟨Nat.lt_of_lt_of_le (hYW j hj) hYs, (hp.y j hj).2⟩) hD5 (hMW.frn hf5) (hwW.trans (hf5.below hBW)) (Nat.le_refl _) hlen5 (by have := hp.wl; simp; omega) (fun y hy => (List.mem_append.1 hy).elim (hp.wf y) (fun h => by obtain rfl := List.mem_singleton.1 h; rfl)) (s := xs) (by rw [upd_at, List.getElem?_set]; simp [hp.len, hlt]) (fun j hj => by
              obtain ⟨s', h1, h2⟩ := hp.old j hj
              exact ⟨s', h1, by rw [upd_at, List.getElem?_set, if_neg (by omega)]; exact h2⟩) (fun j h1 h2 => by rw [upd_at, List.getElem?_set, if_neg (by omega)]; exact hp.new j (by omega) h2)
            exact ⟨⟨k + 1, by omega, by go_num, _, _, _, _, _, hq⟩, by simp [intOf]; omega⟩
          · have e3 : (xn == 64) = false := by simpa using hx64
            have e4 : ((xn : Int) == 64) = false := by simp; omega
            obtain ⟨cur, hg5, hsz5, hcu5⟩ := hMW.blk
            have k5 : (W.alloc (.cells #[.string zeroS] 9)).cell? ⟨w4.heap.size, k, none⟩ = some (V1 k) := ((hg5.alloc _).cell k).trans (hcu5 k hlt)
            have z5 := (hg5.alloc (.cells #[.string zeroS] 9)).frozen k
            obtain ⟨Y', V', L', hq⟩ := Ph1.next (w0 := w) hlt (fun j hj => ⟨hYW j hj, (hp.y j hj).2⟩) hDW hMW hwW (Nat.le_refl _) hp.len (Nat.le_succ_of_le hp.wl) hp.wf (s := zeroS) (hp.new k (Nat.le_refl _) hlt) hp.old (fun j h1 h2 => hp.new j (by omega) h2)
            go_wp2_with fail
            exact ⟨⟨k + 1, by omega, by go_num, _, _, _, _, _, hq⟩, by simp [intOf]; omega⟩
        · have e2 : decide (k < l1.length) = false := by simpa using hkl
          obtain ⟨cur, hg5, hsz5, hcu5⟩ := hMW.blk
          have k5 : (W.alloc (.cells #[.string zeroS] 9)).cell? ⟨w4.heap.size, k, none⟩ = some (V1 k) := ((hg5.alloc _).cell k).trans (hcu5 k hlt)
          have z5 := (hg5.alloc (.cells #[.string zeroS] 9)).frozen k
          obtain ⟨Y', V', L', hq⟩ := Ph1.next (w0 := w) hlt (fun j hj => ⟨hYW j hj, (hp.y j hj).2⟩) hDW hMW hwW (Nat.le_refl _) hp.len (Nat.le_succ_of_le hp.wl) hp.wf (s := zeroS) (hp.new k (Nat.le_refl _) hlt) hp.old (fun j h1 h2 => hp.new j (by omega) h2)
          go_wp2_with fail
          exact ⟨⟨k + 1, by omega, by go_num, _, _, _, _, _, hq⟩, by simp [intOf]; omega⟩
      · obtain rfl : k = 8 := by omega
        have e1 : decide ((8 : Int) < 8) = false := by decide
        have hBr := hp.bel.size
        have hSy := ds_sync hp.ds hBr (fun k hk => (hp.y k hk).1) hp.len (by have := hp.wl; omega) hp.wf
        go_wp2_with (go_at_call 14; refine hSy.mono ?_; rintro e w5 ⟨rfl, hf5, hD5⟩)
        have hYs := hf5.size
        have hw5 : Below w.heap.size w w5 := hp.bel.trans (hf5.below hBr)
        have hph2 : Ph2 w.heap.size w db f w4.heap.size 0 (C1 f true) w5 Y (upd C1 f false (C1 f true)) [] V1 L1 :=
          ⟨fun j hj => ⟨Nat.lt_of_lt_of_le (hp.y j hj).1 hYs, (hp.y j hj).2⟩, hD5, hp.mv.frn hf5, hw5, upd_at _ _ _ _, by rw [upd_ne _ _ (by simp)]; exact hp.len, Nat.le_refl _, fun y hy => (by cases hy), fun i hi => by
            obtain ⟨s, h1, h2⟩ := hp.old i hi
            exact ⟨⟨s, h2, by rw [h1]; simp⟩, fun y hy => (by cases hy)⟩, fun i hi => by
            obtain ⟨s, h1, _⟩ := hp.old i hi
            rw [h1]; simp⟩
        obtain ⟨N0, hN0⟩ : ∃ N0, C1 f true = N0 := ⟨_, rfl⟩
        have hN8 : N0.length = 8 := by rw [← hN0]; exact hp.len
        rw [hN0] at hph2
        clear hN0 hp hph hSy hD5 hf5 hw5 hb5 hb4 hYs hBr
        go_loopw [16] (fun i wr => SafeRel2 w.heap.size w db f w4.heap.size l2.length N0 i wr) (fun i _ => l2.length - (intOf i).toNat)
        case atStart => exact ⟨0, by omega, rfl, _, _, _, _, _, hph2⟩
        case round =>
          obtain ⟨j, hj, rfl, Y2, C2, ws2, V2, L2, hp2⟩ := hrel
          have hBr2 := hp2.bel.size
          by_cases hlt2 : j < l2.length
          · have e2 : decide (j < l2.length) = true := by simpa using hlt2
            have i0 : (0 : Int) ≤ (j : Int) := by omega
            have i1 : (j : Int) < (wh.length : Int) := by omega
            have i2 : (j : Int) < (l2.length : Int) := by omega
            obtain ⟨m, hm⟩ : ∃ m, wh[j]? = some m := ⟨_, List.getElem?_eq_getElem (by omega)⟩
            obtain ⟨ad3, u3, rfl, hAB3, hu3, hc3⟩ := (h3.below hp2.bel).at_ (k := j) (by omega)
            rw [List.getElem?_map, hm] at hu3
            cases hu3
            obtain ⟨x, hx⟩ : ∃ x, l2[j]? = some x := ⟨_, List.getElem?_eq_getElem hlt2⟩
            have hxb := b2 x (List.mem_of_getElem? hx)
            obtain ⟨ad, u, rfl, hAB2, hu, hc⟩ := (h2.below hp2.bel).at_ hlt2
            rw [List.getElem?_map, hx] at hu
            cases hu
            obtain ⟨xA, xn, xc, xs⟩ := x
            unfold Bz.val at hc
            dsimp only at hc
            clear hx hm
            have hskip : Ph2 w.heap.size w db f w4.heap.size (j + 1) N0 wr Y2 C2 ws2 V2 L2 := ⟨hp2.y, hp2.ds, hp2.mv, hp2.bel, hp2.safe, hp2.len, Nat.le_succ_of_le hp2.wl, hp2.wf, hp2.old, fun i hi => Nat.le_succ_of_le (hp2.ll i hi)⟩
            by_cases hdo : 0 ≤ m ∧ m < 8 ∧ xn = 64
            · obtain ⟨m0, m1, hx64⟩ := hdo
              subst hx64
              obtain ⟨m, rfl⟩ : ∃ k : Nat, m = k := ⟨m.toNat, by omega⟩
              have e3 : decide ((0 : Int) ≤ (m : Int)) = true := by simp
              have e4 : decide ((m : Int) < 8) = true := by simp; omega
              obtain ⟨i9, hi9, hz9, hz9', hz9''⟩ := info_parts Tryd.info9'
              have m1' : m < 8 := by omega
              obtain ⟨cur, hgm, hszm, hcm⟩ := hp2.mv.blk
              obtain ⟨Am, cm, hVm⟩ := (hp2.mv.row m m1').form
              have hrow := hp2.mv.row m m1'
              have hLm := hp2.ll m m1'
              rw [hVm] at hrow
              have km : wr.cell? ⟨w4.heap.size, m, none⟩ = some (.slice Am (L2 m).length cm) := (hgm.cell m).trans ((hcm m m1').trans (by rw [hVm]))
              have bW := (Below.refl wr.heap.size wr).alloc (Nat.le_refl _) (.cells #[.string xs] 9)
              have hbA := hp2.bel.alloc hBr2 (.cells #[.string xs] 9)
              have c3A : (wr.alloc (.cells #[.string xs] 9)).cell? (ad3.add j) = some (.int .i64 m) := (bW.cell (World.block_lt_of_cell? wr _ hc3)).trans hc3
              have c2A : (wr.alloc (.cells #[.string xs] 9)).cell? (ad.add j) = some (.slice xA 64 xc) := (bW.cell (World.block_lt_of_cell? wr _ hc)).trans hc
              have kmA : (wr.alloc (.cells #[.string xs] 9)).cell? ⟨w4.heap.size, m, none⟩ = some (.slice Am (L2 m).length cm) := (bW.cell (p := ⟨w4.heap.size, m, none⟩) hgm.lt).trans km
              have hcv2 := hxb.2.2 wr.drew ⟨hp2.bel.os, hp2.bel.tape, hp2.bel.output, hp2.bel.size, hp2.bel.block⟩ 9 Tryd.underlying9
              dsimp only at hcv2
              have hownA := hrow.1.alloc (.cells #[.string xs] 9)
              have hin : ∀ b, b < w.heap.size → some b ≠ (.slice Am (L2 m).length cm : Value).ownBlock := fun b hb e => by
                have := (hp2.y b (hrow.2 b e.symm)).2
                omega
              have hgB : w.heap.size ≤ w4.heap.size := (hp2.y _ hp2.mv.inY).2
              have hlt3 : (ad3.add j).block < w.heap.size := by rw [block_of_add]; exact hAB3
              have hlt2' : (ad.add j).block < w.heap.size := by rw [block_of_add]; exact hAB2
              go_wp2_with fail
              refine regionE 20 (fun w' => w'.cell? (ad3.add j) = some (.int .i64 m) ∧ w'.cell? (ad.add j) = some (.slice xA 64 xc) ∧ w'.cell? ⟨w4.heap.size, m, none⟩ = some (.slice Am (L2 m).length cm)) (by kernel_rfl) (by kernel_rfl) (by kernel_rfl) (by kernel_rfl) (by kernel_rfl) ⟨hc3, hc, km⟩ (fun hHeld hTl => ?_)
              refine takeE 0 (v := ?_) hTl rfl (by decide) (by kernel_rfl) (by kernel_rfl) (fun _ _ _ h => h) hHeld (Or.inl ⟨by rfl, ?_⟩) (fun hTl => ?_)
              rotate_left
              · intro w hSw; (try dsimp only at hSw); go_simp
                all_goals with_reducible rfl
              try simp only [Act.put, List.setIfInBounds_toArray, List.set_cons_zero, List.set_cons_succ]
              refine takeE 1 (v := ?_) hTl rfl (by decide) (by kernel_rfl) (by kernel_rfl) (fun _ _ _ h => h) hHeld (Or.inl ⟨by rfl, ?_⟩) (fun hTl => ?_)
              rotate_left
              · intro w hSw; (try dsimp only at hSw); go_simp
                all_goals with_reducible rfl
              try simp only [Act.put, List.setIfInBounds_toArray, List.set_cons_zero, List.set_cons_succ]
              refine takeE 2 (v := ?_) hTl rfl (by decide) (by kernel_rfl) (by kernel_rfl) (fun _ _ _ h => h) hHeld (Or.inl ⟨by rfl, ?_⟩) (fun hTl => ?_)
              rotate_left
              · intro w hSw; (try dsimp only at hSw); go_simp
                all_goals with_reducible rfl
              try simp only [Act.put, List.setIfInBounds_toArray, List.set_cons_zero, List.set_cons_succ]
              refine takeE 3 (v := ?_) hTl rfl (by decide) (by kernel_rfl) (by kernel_rfl) (fun _ _ _ h => h) hHeld (Or.inl ⟨by rfl, ?_⟩) (fun hTl => ?_)
              rotate_left
              · intro w hSw; (try dsimp only at hSw); go_simp
                all_goals with_reducible rfl
              try simp only [Act.put, List.setIfInBounds_toArray, List.set_cons_zero, List.set_cons_succ]
              refine takeE 4 (v := ?_) hTl rfl (by decide) (by kernel_rfl) (by kernel_rfl) (fun _ _ _ h => h) hHeld (Or.inl ⟨by rfl, ?_⟩) (fun hTl => ?_)
              rotate_left
              · intro w hSw; (try dsimp only at hSw); go_simp
                all_goals with_reducible rfl
              try simp only [Act.put, List.setIfInBounds_toArray, List.set_cons_zero, List.set_cons_succ]
              refine takeE 5 (v := ?_) hTl rfl (by decide) (by kernel_rfl) (by kernel_rfl) (fun _ _ _ h => h) hHeld (Or.inl ⟨by rfl, ?_⟩) (fun hTl => ?_)
              rotate_left
              · intro w hSw; (try dsimp only at hSw); go_simp
                all_goals with_reducible rfl
              try simp only [Act.put, List.setIfInBounds_toArray, List.set_cons_zero, List.set_cons_succ]
              refine takeE 6 (v := ?_) hTl rfl (by decide) (by kernel_rfl) (by kernel_rfl) (fun _ _ _ h => h) hHeld (Or.inl ⟨by rfl, ?_⟩) (fun hTl => ?_)
              rotate_left
              · intro w hSw; (try dsimp only at hSw); go_simp
                all_goals with_reducible rfl
              try simp only [Act.put, List.setIfInBounds_toArray, List.set_cons_zero, List.set_cons_succ]
              refine takeE 7 (v := ?_) hTl rfl (by decide) (by kernel_rfl) (by kernel_rfl) (fun _ _ _ h => h) hHeld (Or.inl ⟨by rfl, ?_⟩) (fun hTl => ?_)
              rotate_left
              · intro w hSw; (try dsimp only at hSw); go_simp
                all_goals with_reducible rfl
              try simp only [Act.put, List.setIfInBounds_toArray, List.set_cons_zero, List.set_cons_succ]
              refine takeE 8 (v := ?_) hTl rfl (by decide) (by kernel_rfl) (by kernel_rfl) (fun _ _ _ h => h) hHeld (Or.inl ⟨by rfl, ?_⟩) (fun hTl => ?_)
              rotate_left
              · intro w hSw; (try dsimp only at hSw); go_simp
                all_goals with_reducible rfl
              try simp only [Act.put, List.setIfInBounds_toArray, List.set_cons_zero, List.set_cons_succ]
              refine takeE 9 (v := ?_) hTl rfl (by decide) (by kernel_rfl) (by kernel_rfl) (fun _ _ _ h => h) hHeld (Or.inl ⟨by rfl, ?_⟩) (fun hTl => ?_)
              rotate_left
              · intro w hSw; (try dsimp only at hSw); go_simp
                all_goals with_reducible rfl
              try simp only [Act.put, List.setIfInBounds_toArray, List.set_cons_zero, List.set_cons_succ]
              refine takeE 10 (v := ?_) hTl rfl (by decide) (by kernel_rfl) (by kernel_rfl) (fun _ _ _ h => h) hHeld (Or.inl ⟨by rfl, ?_⟩) (fun hTl => ?_)
              rotate_left
              · intro w hSw; (try dsimp only at hSw); go_simp
                all_goals with_reducible rfl
              try simp only [Act.put, List.setIfInBounds_toArray, List.set_cons_zero, List.set_cons_succ]
              refine takeE 11 (v := ?_) hTl rfl (by decide) (by kernel_rfl) (by kernel_rfl) (fun _ _ _ h => h) hHeld (Or.inl ⟨by rfl, ?_⟩) (fun hTl => ?_)
              rotate_left
              · intro w hSw; (try dsimp only at hSw); go_simp
                all_goals with_reducible rfl
              try simp only [Act.put, List.setIfInBounds_toArray, List.set_cons_zero, List.set_cons_succ]
              refine takeE 12 (v := ?_) hTl rfl (by decide) (by kernel_rfl) (by kernel_rfl) (fun _ _ _ h => h) hHeld (Or.inl ⟨by rfl, ?_⟩) (fun hTl => ?_)
              rotate_left
              · intro w hSw; (try dsimp only at hSw); go_simp
                all_goals with_reducible rfl
              try simp only [Act.put, List.setIfInBounds_toArray, List.set_cons_zero, List.set_cons_succ]
              refine takeE 13 (v := ?_) hTl rfl (by decide) (by kernel_rfl) (by kernel_rfl) (fun _ _ _ h => h) hHeld (Or.inl ⟨by rfl, ?_⟩) (fun hTl => ?_)
              rotate_left
              · intro w hSw; (try dsimp only at hSw); go_simp
                all_goals with_reducible rfl
              try simp only [Act.put, List.setIfInBounds_toArray, List.set_cons_zero, List.set_cons_succ]
              refine takeE 14 (v := ?_) hTl rfl (by decide) (by kernel_rfl) (by kernel_rfl) (fun _ _ _ h => h) hHeld (Or.inl ⟨by rfl, ?_⟩) (fun hTl => ?_)
              rotate_left
              · intro w hSw; (try dsimp only at hSw); go_simp
                all_goals with_reducible rfl
              try simp only [Act.put, List.setIfInBounds_toArray, List.set_cons_zero, List.set_cons_succ]
              refine takeE 15 (v := ?_) hTl rfl (by decide) (by kernel_rfl) (by kernel_rfl) (fun _ _ _ h => h) hHeld (Or.inl ⟨by rfl, ?_⟩) (fun hTl => ?_)
              rotate_left
              · intro w hSw; (try dsimp only at hSw); go_simp
                all_goals with_reducible rfl
              try simp only [Act.put, List.setIfInBounds_toArray, List.set_cons_zero, List.set_cons_succ]
              clear hTl
              refine oneE 16 rfl (by kernel_rfl) (fun K hK => ?_)
              go_simp
              refine hK.out _ _ (fun _ => ⟨hc3, hc, km⟩) ?_
              clear hK K
              try simp only [Act.put, List.setIfInBounds_toArray, List.set_cons_zero, List.set_cons_succ]
              refine oneE 17 rfl (by kernel_rfl) (fun K hK => ?_)
              go_simp
              refine hK.out _ _ (fun _ => ⟨c3A, c2A, kmA⟩) ?_
              clear hK K
              try simp only [Act.put, List.setIfInBounds_toArray, List.set_cons_zero, List.set_cons_succ]
              refine oneE 18 rfl (by kernel_rfl) (fun K hK => ?_)
              (refine step_append_any _ (by rfl) (.tmp 143) (.tmp 149) 40 (by rfl) 0 9 i9 _ 1 16 Tryd.underlying40 hi9 hz9 hz9' hz9'' rfl (by omega) (.slice Am (L2 m).length cm) (L2 m).length (strs (L2 m)) (by rfl) (show (wr.alloc (.cells #[.string xs] 9)).drew.ownsRow 0 9 1 (.slice Am (L2 m).length cm) (L2 m).length (strs (L2 m)) from hownA) (wr.heap.size + 1) (some ⟨wr.heap.size, 0, none⟩) 1 1 (strs [xs]) (by rfl) (show Reads (wr.alloc (.cells #[.string xs] 9)).drew (wr.heap.size + 1) 1 (some ⟨wr.heap.size, 0, none⟩) 1 (strs [xs]) from one_reads wr xs) (strs_one _) (by simp only [maxLen]; omega) (by omega) (by omega) ?_; intro v6 w6 ho6 hg6 hl6; obtain ⟨A6, c6, rfl⟩ := own_formN ho6; have hgm6 : Blk w6 w4.heap.size 40 cur := (hg6.block _ (hgm.alloc _).lt (blk_apart hgm hrow (by decide))).trans (hgm.alloc _); have k6 := hgm6.cell m; have k6' : w6.cell? ⟨w4.heap.size, m, none⟩ = some (.slice Am (L2 m).length cm) := k6.trans ((hcm m m1').trans (by rw [hVm])); have z6 := hgm6.frozen m; have hc3l := World.block_lt_of_cell? _ _ c3A; have c3B : w6.cell? (ad3.add j) = some (.int .i64 m) := (World.cell?_of_block (w := (wr.alloc (.cells #[.string xs] 9)).drew) (hg6.block _ hc3l (hin _ hlt3))).trans c3A; have hc2l := World.block_lt_of_cell? _ _ c2A; have c2B : w6.cell? (ad.add j) = some (.slice xA 64 xc) := (World.cell?_of_block (w := (wr.alloc (.cells #[.string xs] 9)).drew) (hg6.block _ hc2l (hin _ hlt2'))).trans c2A; have c3C : (w6.setCell ⟨w4.heap.size, m, none⟩ (.slice A6 ((L2 m).length + 1) c6)).cell? (ad3.add j) = some (.int .i64 m) := (World.cell?_setCell_other w6 ⟨w4.heap.size, m, none⟩ (ad3.add j) _ (fun e => by rw [← e] at hlt3; exact absurd hlt3 (Nat.not_lt.2 hgB))).trans c3B; have c2C : (w6.setCell ⟨w4.heap.size, m, none⟩ (.slice A6 ((L2 m).length + 1) c6)).cell? (ad.add j) = some (.slice xA 64 xc) := (World.cell?_setCell_other w6 ⟨w4.heap.size, m, none⟩ (ad.add j) _ (fun e => by rw [← e] at hlt2'; exact absurd hlt2' (Nat.not_lt.2 hgB))).trans c2B)
              refine hK.out _ _ (fun _ => ⟨c3B, c2B, k6'⟩) ?_
              clear hK K
              try simp only [Act.put, List.setIfInBounds_toArray, List.set_cons_zero, List.set_cons_succ]
              refine oneE 19 rfl (by kernel_rfl) (fun K hK => ?_)
              go_simp
              refine hK.out _ _ (fun _ => ⟨c3B, c2B, k6'⟩) ?_
              clear hK K
              try simp only [Act.put, List.setIfInBounds_toArray, List.set_cons_zero, List.set_cons_succ]
              refine oneE 20 rfl (by kernel_rfl) (fun K hK => ?_)
              go_simp
              refine hK.out _ _ (fun h => absurd h (by decide)) ?_
              clear hK K
              try simp only [Act.put, List.setIfInBounds_toArray, List.set_cons_zero, List.set_cons_succ]
              refine doneE (by kernel_rfl) ?_ _
              all_goals
                obtain ⟨Y', V', hpp0⟩ := hp2.push (Nat.le_refl _) m1' hVm ho6 hg6 (by simpa using hl6)
                have hpp := hpp0.drew
                have hWr := ds_write (n := m) (Ap := xA) (cp := xc) (s := xs) hpp.ds hpp.bel.size (fun k hk => (hpp.y k hk).1) m1' hpp.len (fun W' hW' => hxb.2.2 W' (hpp.bel.trans (hW'.below hpp.bel.size)) 86 Tryd.underlying86) (by have := hp2.wl; omega)
                go_wp2_with fail
                refine wp_region_tail 9 (by kernel_rfl) (by kernel_rfl) ?_
                repeat still_step
                refine wpStill_nil ?_
                go_wp2_with (go_at_call 13; refine hWr.mono ?_; rintro e w7 ⟨rfl, hf7, hD7⟩)
                exact ⟨⟨j + 1, by omega, by go_num, _, _, _, _, _, hpp.wrote (Nat.le_refl _) m1' (by simp) hp2.wl hf7 hD7⟩, by simp [intOf]; omega⟩
            · have HDO := Lib.hid hdo
              clear hdo
              by_cases hx64 : xn = 64
              · subst hx64
                go_wp2_with fail
                all_goals first
                  | exact ⟨⟨j + 1, by omega, by go_num, _, _, _, _, _, hskip⟩, by simp [intOf]; omega⟩
                  | (exfalso; exact HDO.out ⟨by omega, by omega, by simp⟩)
              · have e5 : ((xn : Int) == 64) = false := by simp; omega
                go_wp2_with fail
                all_goals exact ⟨⟨j + 1, by omega, by go_num, _, _, _, _, _, hskip⟩, by simp [intOf]; omega⟩
          · obtain rfl : j = l2.length := by omega
            have e2 : decide (l2.length < l2.length) = false := by simp
            have hCr := ds_crash hp2.ds hBr2 (fun k hk => (hp2.y k hk).1) (by rw [hp2.safe]; exact hN8) (by have := hp2.wl; omega) hp2.wf changes hch (ck := c4) (fun W hW => (h4.below (hp2.bel.trans (hW.below hBr2))).more (Nat.le_trans hp2.bel.size hW.size)) (by omega)
            go_wp2_with (go_at_call 15; refine hCr.mono ?_; rintro e w8 ⟨rfl, hf8, C8, hC8, hD8⟩)
            have hB8 : Below w.heap.size w w8 := hp2.bel.trans (hf8.below hBr2)
            have hsz8 := hf8.size
            have hM8 := hp2.mv.frn hf8
            have hY8 : ∀ k, Y2 k → k < w8.heap.size ∧ w.heap.size ≤ k := fun k hk => ⟨Nat.lt_of_lt_of_le (hp2.y k hk).1 hsz8, (hp2.y k hk).2⟩
            have hin8 : ∀ i s, i < 8 → (C8 f true)[i]? = some s → s ∈ L2 i := fun i s hi hs => by
              rw [hC8] at hs
              rcases crash_in ks f i ws2 0 C2 s (fun y hy => (hp2.wf y hy).1) hs with h | ⟨y, hy, h1, h2⟩
              · rw [hp2.safe] at h
                obtain ⟨⟨s', h1, h2⟩, _⟩ := hp2.old i hi
                rw [h] at h1; cases h1; exact h2
              · rw [← h2]; exact (hp2.old i hi).2 y hy h1
            have hl8 : (C8 f true).length = 8 := by rw [hC8, crashC_len, hp2.safe]; exact hN8
            have hll := hp2.ll
            clear hC8 hCr hp2 hf8 hph2
            go_loopw [17] (fun i wr => SafeRel3 w.heap.size w db f w4.heap.size Y2 C8 V2 L2 i wr) (fun i _ => 8 - (intOf i).toNat)
            case atStart => exact ⟨0, by omega, rfl, hY8, hD8, hM8, hB8⟩
            case round =>
              obtain ⟨i, hi, rfl, hYr, hDr, hMr, hBr⟩ := hrel
              have hBrs := hBr.size
              by_cases hi8 : i < 8
              · have e6 : decide ((i : Int) < 8) = true := by simp; omega
                have i0 : (0 : Int) ≤ (i : Int) := by omega
                have i1 : (i : Int) < 8 := by omega
                obtain ⟨s, hs⟩ : ∃ s, (C8 f true)[i]? = some s := ⟨_, List.getElem?_eq_getElem (by omega)⟩
                have hsin := hin8 i s hi8 hs
                have hRd := ds_read hDr hBrs (fun k hk => (hYr k hk).1) hs
                have hllen := hll i hi8
                clear hs
                go_wp2_with (go_at_call 16; refine hRd.mono ?_; rintro e w9 ⟨⟨v, rfl, hst⟩, hf9, hD9⟩)
                have hM9 := hMr.frn hf9
                have hB9 : Below w.heap.size w w9 := hBr.trans (hf9.below hBrs)
                have hsz9 := hf9.size
                have hY9 : ∀ k, Y2 k → k < w9.heap.size ∧ w.heap.size ≤ k := fun k hk => ⟨Nat.lt_of_lt_of_le (hYr k hk).1 hsz9, (hYr k hk).2⟩
                obtain ⟨cur9, hg9, hsz9', hcu9⟩ := hM9.blk
                obtain ⟨Ai, ci, hVi⟩ := (hM9.row i hi8).form
                have hr9 := hM9.row i hi8
                have k9 : w9.cell? ⟨w4.heap.size, i, none⟩ = some (.slice Ai (L2 i).length ci) := (hg9.cell i).trans ((hcu9 i hi8).trans (by rw [hVi]))
                go_loopw [20, 21] (fun b k wr => SafeRel4 w9 s (L2 i) b k wr) (fun _ k _ => (L2 i).length - (intOf k).toNat)
                case atStart => exact ⟨0, Nat.zero_le _, rfl, by simp, Below.refl _ _⟩
                case round =>
                  obtain ⟨k, hk, rfl, rfl, hBk⟩ := hrel
                  have kk : wr.cell? ⟨w4.heap.size, i, none⟩ = some (.slice Ai (L2 i).length ci) := (hBk.cell (p := ⟨w4.heap.size, i, none⟩) hg9.lt).trans k9
                  have hcv : (convert 38 9 v).run Tryd.prog wr = .ok (.string s) wr := (hst.below hBk).conv Tryd.underlying9
                  have hcvQ : ∀ n, (convert 38 9 v).run Tryd.prog (wr.drewN n) = .ok (.string s) (wr.drewN n) := fun n => (hst.below (W' := wr.drewN n) ⟨hBk.os, hBk.tape, hBk.output, hBk.size, hBk.block⟩).conv Tryd.underlying9
                  by_cases hlk : k < (L2 i).length
                  · have e7 : decide (k < (L2 i).length) = true := by simpa using hlk
                    have j0 : (0 : Int) ≤ (k : Int) := by omega
                    have j1 : (k : Int) < ((L2 i).length : Int) := by omega
                    obtain ⟨gi, c', curi, hv, _, hgi, _, hcuri⟩ := hr9.row (by omega)
                    rw [hVi] at hv
                    obtain ⟨rfl, _, rfl⟩ : Ai = some ⟨gi, 0, none⟩ ∧ True ∧ ci = c' := by simpa using hv
                    obtain ⟨t, ht⟩ : ∃ t, (L2 i)[k]? = some t := ⟨_, List.getElem?_eq_getElem hlk⟩
                    have kt : wr.cell? ⟨gi, k, none⟩ = some (.string t) := (hBk.cell (p := ⟨gi, k, none⟩) hgi.lt).trans ((hgi.cell k).trans (hcuri k _ (by simp [strs, ht])))
                    have hte : (L2 i).take (k + 1) = (L2 i).take k ++ [t] := by rw [List.take_add_one, ht]; rfl
                    have hbe := toList_beq s t
                    have HTE := Lib.hid hte
                    have HBE := Lib.hid hbe
                    clear hte hbe ht hv hVi hcuri
                    cases hb : (L2 i).take k |>.any fun t => decide (s = t) with
                    | true =>
                      go_wp2_with fail
                      go_quiet (fail)
                      go_wp2_with fail
                      exact ⟨⟨k + 1, by omega, by go_num, by rw [HTE.out, List.any_append, hb]; rfl, ⟨hBk.os, hBk.tape, hBk.output, hBk.size, hBk.block⟩⟩, by simp [intOf]; omega⟩
                    | false =>
                      go_wp2_with fail
                      go_quiet (fail)
                      go_wp2_with fail
                      exact ⟨⟨k + 1, by omega, by go_num, by rw [HTE.out, List.any_append, hb, HBE.out]; simp, ⟨hBk.os, hBk.tape, hBk.output, hBk.size, hBk.block⟩⟩, by simp [intOf]; omega⟩
                  · obtain rfl : k = (L2 i).length := by omega
                    have e7 : decide ((L2 i).length < (L2 i).length) = false := by simp
                    have hany : ((L2 i).take (L2 i).length).any (fun t => decide (s = t)) = true := by
                      rw [List.take_length, List.any_eq_true]
                      exact ⟨s, hsin, by simp⟩
                    rw [hany]
                    clear hany
                    have hBf : Below w.heap.size w wr := hB9.trans (hBk.mono hB9.size)
                    go_wp2_with fail
                    exact ⟨⟨i + 1, by omega, by go_num, fun k hk => ⟨Nat.lt_of_lt_of_le (hY9 k hk).1 hBk.size, (hY9 k hk).2⟩, hD9.other (Fr.of_below hBk) (fun k hk => .inl hk), hM9.below hBk, hBf⟩, by simp [intOf]; omega⟩
              · obtain rfl : i = 8 := by omega
                have e6 : decide ((8 : Int) < 8) = false := by decide
                go_wp2_with (go_at_call 7; refine (hlive _ hBr).mono ?_; rintro e w10 ⟨rfl, hb10⟩)
                go_ret
                exact ⟨rfl, hBr.trans (hb10.mono hBr.size)⟩
end Go.Proofs.YtekajggjoeimoaaDoor
set_option linter.unusedVariables false
namespace Go.Proofs.YtekajggjoeimoaaDoor
open Go.ChangeShapes Go.WideShapes Go.ChangeAt Go.RowKit Go.Joins Go.Deep
section
variable {H : Type} {enc : TypeId × Value → H} {w : World} {base : Nat} {held : Bool}
/-- Bytes that came in. -/
theorem bz_of {fuel : Nat} {v : Value} {y : DataW H × List MemPlace} (h : DataW.trod enc Tryd.prog w base (fun _ => true) held fuel 38 [v] = some y) : ∃ x : Bz, v = x.val ∧ BzAt w.heap.size w x := by
  rcases open_ints Tryd.underlying38 Tryd.underlying5 (by kernel_rfl) h with ⟨hcs, _⟩ | ⟨a, l, c, zs, hcs, _, hl, hm, hz, _, hcell, hwz⟩
  · simp at hcs
    exact ⟨⟨none, 0, 0, ByteArray.empty⟩, hcs, rfl, Nat.zero_le _, fun W _ t ht => run_convert_bytes_nil W 38 5 Tryd.underlying38 Tryd.underlying5 0 0 t ht⟩
  · simp at hcs hz
    by_cases h0 : l = 0
    · subst h0
      refine ⟨⟨some a, 0, c, strOfNums []⟩, hcs, rfl, Nat.zero_le _, fun W _ t ht => ?_⟩
      have := run_convert_bytes_back (P := Tryd.prog) W 38 t 5 a c [] Tryd.underlying38 Tryd.underlying5 ht (fun j hj => by simp at hj)
      simpa [strOfNums] using this
    · have c0 := hcell 0 (by omega)
      have hb := World.block_lt_of_cell? w _ c0
      have hs0 : a.spot = none := by simpa [Addr.add] using World.cell?_spot c0
      obtain ⟨ab, ao, sp⟩ := a
      subst hs0
      refine ⟨⟨some ⟨ab, ao, none⟩, l, c, strOfNums (zs.take l)⟩, hcs, ?_, by simpa [maxLen] using Nat.le_trans hl hm, fun W hW t ht => ?_⟩
      · have : (zs.take l).length = l := by rw [List.length_take]; omega
        simp [strOfNums, ByteArray.size]
        omega
      · exact run_convert_bytes_arg W 38 5 Tryd.underlying38 Tryd.underlying5 ab ao l c (zs.take l) (by rw [List.length_take]; omega) (fun i hi => by
          have ci := hcell i (by omega)
          rw [Addr.add_lit] at ci
          rw [hW.cell (p := ⟨ab, ao + i, none⟩) (World.block_lt_of_cell? w _ ci), ci]
          simp [List.getD_eq_getElem?_getD, List.getElem?_take, hi]) t ht
/-- Numbers that came in. -/
theorem ints_of {fuel : Nat} {v : Value} {y : DataW H × List MemPlace} (h : DataW.trod enc Tryd.prog w base (fun _ => true) held fuel 34 [v] = some y) :
    ∃ (A : Option Addr) (c : Nat) (l : List Int), v = .slice A l.length c ∧ Reads w w.heap.size 1 A l.length (l.map (.int .i64)) ∧ l.length ≤ 9223372036854775807 := by
  rcases open_ints Tryd.underlying34 Tryd.underlying3 (by kernel_rfl) h with ⟨hcs, _⟩ | ⟨x, l, c, zs, hcs, _, hl, hm, hz, _, hcell, hwz⟩
  · simp at hcs
    exact ⟨none, 0, [], hcs, Reads.none_, by simp⟩
  · simp at hcs hz
    have hlt : (zs.take l).length = l := by rw [List.length_take]; omega
    refine ⟨some x, c, zs.take l, by rw [hcs, hlt], ⟨by simp, fun h0 => ?_⟩, by rw [hlt]; simpa [maxLen] using Nat.le_trans hl hm⟩
    rw [hlt] at h0
    have c0 := hcell 0 (by omega)
    have hb := World.block_lt_of_cell? w _ c0
    refine ⟨x, rfl, by simpa [Addr.add] using hb, fun j u hu => ?_⟩
    rw [List.getElem?_map, List.getElem?_take] at hu
    by_cases hj : j < l
    · rw [if_pos hj] at hu
      rw [hcell j (by omega)]
      cases hzj : zs[j]? with
      | none => rw [hzj] at hu; cases hu
      | some z => rw [hzj] at hu; simpa [List.getD_eq_getElem?_getD, hzj] using hu
    · rw [if_neg hj] at hu; cases hu
theorem bzs_list {P : Nat → Bz → Prop} : ∀ (n : Nat), (∀ i, i < n → ∃ d, P i d) → ∃ ds : List Bz, ds.length = n ∧ ∀ i d, ds[i]? = some d → P i d
  | 0, _ => ⟨[], rfl, fun i d h => by simp at h⟩
  | n + 1, h => by
    obtain ⟨ds, hl, hd⟩ := bzs_list n (fun i hi => h i (by omega))
    obtain ⟨d, hP⟩ := h n (by omega)
    refine ⟨ds ++ [d], by simp [hl], fun i x hx => ?_⟩
    by_cases hi : i < ds.length
    · rw [List.getElem?_append_left hi] at hx; exact hd i x hx
    · rw [List.getElem?_append_right (by omega)] at hx
      have := (List.getElem?_eq_some_iff.1 hx).1
      simp at this
      obtain rfl : i = n := by omega
      rw [hl, Nat.sub_self] at hx
      cases hx
      exact hP
/-- Rows of bytes that came in. -/
theorem bzs_of {fuel : Nat} {v : Value} {y : DataW H × List MemPlace} (h : DataW.trod enc Tryd.prog w base (fun _ => true) held fuel 33 [v] = some y) :
    ∃ (A : Option Addr) (c : Nat) (l : List Bz), v = .slice A l.length c ∧ Reads w w.heap.size 1 A l.length (l.map Bz.val) ∧ (∀ x ∈ l, BzAt w.heap.size w x) ∧ l.length ≤ 9223372036854775807 := by
  rcases open_slice Tryd.underlying33 h with ⟨hcs, _⟩ | ⟨a, len, cap, m, n, D, Pl, hcs, _, hl, hm, hmm, _, hf⟩
  · simp at hcs
    exact ⟨none, 0, [], hcs, Reads.none_, (fun x hx => by cases hx), by simp⟩
  · simp at hcs hmm
    subst hmm
    have hce : Program.cellsOf Tryd.prog 38 = 1 := by kernel_rfl
    obtain ⟨ds, hdl, hd⟩ := bzs_list (P := fun i x => w.cell? (a.add i) = some x.val ∧ BzAt w.heap.size w x) len (fun i hi => by
      obtain ⟨cs', hc, ht⟩ := hf i (by omega)
      rw [hce, Nat.mul_one] at hc
      obtain ⟨_, hcl, hat⟩ := World.cells?_some hc
      have hcell := hat 0 (by omega)
      have hcs1 : cs' = [cs'[0]'(by omega)] := by
        match cs', hcl with
        | [x], _ => rfl
      rw [hcs1] at ht
      obtain ⟨x, hx, hb⟩ := bz_of ht
      refine ⟨x, ?_, hb⟩
      rw [← hx]
      have e0 : (a.add i).add 0 = a.add i := by simp [Addr.add]
      rw [e0] at hcell
      rw [hcell]
      exact List.getElem?_eq_getElem (by omega))
    refine ⟨some a, _, ds, by rw [hcs, hdl], ⟨by simp, fun h0 => ⟨a, rfl, ?_, fun j u hu => ?_⟩⟩, fun x hx => ?_, by simp [maxLen] at hm; omega⟩
    · obtain ⟨x, hx⟩ : ∃ x, ds[0]? = some x := ⟨_, List.getElem?_eq_getElem h0⟩
      have := World.block_lt_of_cell? w _ (hd 0 x hx).1
      simpa [Addr.add] using this
    · rw [List.getElem?_map] at hu
      cases hj : ds[j]? with
      | none => rw [hj] at hu; cases hu
      | some x => rw [hj] at hu; cases hu; exact (hd j x hj).1
    · obtain ⟨i, hi⟩ := List.getElem?_of_mem hx
      exact (hd i x hi).2
end
end Go.Proofs.YtekajggjoeimoaaDoor
