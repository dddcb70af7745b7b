/- The two nets: each call's answer, in plain lists. -/
import Derived.Test.YtlhmhalamfjhjaaNu
set_option linter.unusedVariables false
namespace Go.Proofs.Ytlhmhalamfjhjaa
open Go.RowKit
def ix (id : Int) : List Pk → Nat → Option (Nat × Pk)
  | [], _ => none
  | x :: l, i => if x.id = id then some (i, x) else ix id l (i + 1)
theorem ix_look (id : Int) : ∀ (l : List PkA) (i : Nat), ix id (l.map (·.p)) i = (look id l i).map fun r => (r.1, r.2.p)
  | [], _ => rfl
  | x :: l, i => by
    simp only [List.map_cons, ix, look]
    split
    · rfl
    · exact ix_look id l (i + 1)
theorem ix_mem (id : Int) : ∀ (l : List Pk) (i j : Nat) (p : Pk), ix id l i = some (j, p) → p ∈ l
  | [], _, _, _, h => by cases h
  | x :: l, i, j, p, h => by
    unfold ix at h
    split at h
    · cases h; simp
    · exact List.mem_cons_of_mem _ (ix_mem id l (i + 1) j p h)
def NetP (w : World) (a M : Nat) (nx : Int) (L : List Pk) : Prop := ∃ l clock, NetAt w a M nx l clock ∧ l.map (·.p) = L
def RefP (B : Nat) (w : World) (mb : Nat) (nx : Int) (L : List Pk) : Prop := ∃ l, RefAt B w mb nx l ∧ l.map (·.p) = L
def sendP (nx : Int) (L : List Pk) (to : Int) (b : List Int) : Int × Int × Int × List Pk :=
  if (to = 0 ∨ to = 1) ∧ 0 < b.length then if b.length ≤ 8000 then if L.length < 64 then (nx, 0, nx + 1, L ++ [⟨nx, to, b, false⟩]) else (0, 42, nx, L) else (0, 1, nx, L) else (0, 2, nx, L)
def delP (L : List Pk) (id : Int) : Int × List Int × Int × List Pk := match ix id L 0 with
  | none => (0, [], 7, L)
  | some (j, p) => (p.to, p.b, 0, L.eraseIdx j)
def dropP (L : List Pk) (id : Int) : Int × List Pk := match ix id L 0 with
  | none => (7, L)
  | some (j, p) => (0, L.eraseIdx j)
def dblP (nx : Int) (L : List Pk) (id : Int) : Int × Int × Int × List Pk := match ix id L 0 with
  | none => (0, 7, nx, L)
  | some (j, p) => if L.length < 64 then (nx, 0, nx + 1, L ++ [⟨nx, p.to, p.b, p.sp⟩]) else (0, 42, nx, L)
def spoilP (L : List Pk) (id at_ by_ : Int) : Int × List Pk := match ix id L 0 with
  | none => (7, L)
  | some (j, p) => if p.sp = true then (290, L) else if at_ < 0 ∨ (p.b.length : Int) ≤ at_ ∨ by_ = 0 then (2, L) else (0, L.set j ⟨p.id, p.to, p.b.set at_.toNat (xr (p.b.getD at_.toNat 0) by_), true⟩)
section
variable {w w' : World} {a M mb B : Nat} {nx : Int} {L : List Pk}
theorem Fr.dropM (h : Fr (fun k => k = M) w w') : Fr (fun k => k = a ∨ k = M) w w' := h.mono (fun _ _ e => .inr e)
theorem NetP.pos (h : NetP w a M nx L) : 0 ≤ nx := by obtain ⟨l, c, h, _⟩ := h; exact h.pos
theorem NetP.lt (h : NetP w a M nx L) : a < w.heap.size ∧ M < w.heap.size := by obtain ⟨l, c, h, _⟩ := h; exact h.lt
theorem NetP.below (h : NetP w a M nx L) (hb : Below w.heap.size w w') : NetP w' a M nx L := by obtain ⟨l, c, h, e⟩ := h; exact ⟨l, c, h.below hb, e⟩
theorem RefAt.below {l : List PkA} (h : RefAt B w mb nx l) (hb : Below w.heap.size w w') : RefAt B w' mb nx l := by
  obtain ⟨A, c, h1, h2⟩ := h.blk
  exact ⟨⟨A, c, (hb.block mb h1.lt).trans h1, own_below h2 hb⟩, h.base, fun x hx => (h.rows x hx).keep (Keep8.of_below hb)⟩
theorem RefP.below (h : RefP B w mb nx L) (hb : Below w.heap.size w w') : RefP B w' mb nx L := by obtain ⟨l, h, e⟩ := h; exact ⟨l, h.below hb, e⟩
theorem RefP.lt (h : RefP B w mb nx L) : mb < w.heap.size := by obtain ⟨l, h, _⟩ := h; obtain ⟨A, c, h1, _⟩ := h.blk; exact h1.lt
theorem RefP.base (h : RefP B w mb nx L) : B ≤ mb := by obtain ⟨l, h, _⟩ := h; exact h.base
/-- The net's turns leave the document's net. -/
theorem RefP.keepN (h : RefP B w mb nx L) {nx2 : Int} {L2 : List Pk} (hn : NetP w a M nx2 L2) (hf : Fr (fun k => k = a ∨ k = M) w w') : RefP B w' mb nx L := by
  obtain ⟨l, h, e⟩ := h
  obtain ⟨l2, c2, hn, _⟩ := hn
  obtain ⟨A, c, h1, h2⟩ := h.blk
  refine ⟨l, ⟨⟨A, c, h1.fr hf ?_, h2.1, h2.2.imp id ?_⟩, h.base, fun x hx => (h.rows x hx).keep (Keep8.of_fr hf hn.not8)⟩, e⟩
  · have h3 := hn.blk; have h4 := hn.map
    unfold Blk at h1
    rintro (rfl | rfl)
    · rw [h3] at h1; cases h1
    · rw [h4] at h1; cases h1
  · rintro ⟨g, cap, cur, e1, e2, e3, e4⟩
    refine ⟨g, cap, cur, e1, e2, hf.heap e3 ?_, e4⟩
    rintro (rfl | rfl)
    · rw [hn.blk] at e3; cases e3
    · rw [hn.map] at e3; cases e3
/-- The document's turns leave the net. -/
theorem RefX.not (hr : RefP B w mb nx L) {nx2 : Int} {L2 : List Pk} (hn : NetP w a M nx2 L2) : ¬ RefX B mb w a ∧ ¬ RefX B mb w M ∧ ∀ k cs fz, RefX B mb w k → w.heap[k]? ≠ some (Obj.cells cs 5 fz) := by
  obtain ⟨l, h, e⟩ := hr
  obtain ⟨l2, c2, hn, _⟩ := hn
  obtain ⟨A, c, h1, h2⟩ := h.blk
  have h3 := hn.blk; have h4 := hn.map
  unfold Blk at h1
  refine ⟨?_, ?_, ?_⟩
  · rintro (rfl | ⟨_, cs, fz, e⟩)
    · rw [h3] at h1; cases h1
    · rw [h3] at e; cases e
  · rintro (rfl | ⟨_, cs, fz, e⟩)
    · rw [h4] at h1; cases h1
    · rw [h4] at e; cases e
  · rintro k cs fz (rfl | ⟨_, cs', fz', e⟩) e2
    · rw [h1] at e2; cases e2
    · rw [e] at e2; cases e2
theorem NetP.keepR {nx2 : Int} {L2 : List Pk} (hn : NetP w a M nx2 L2) (hr : RefP B w mb nx L) (hf : Fr (RefX B mb w) w w') : NetP w' a M nx2 L2 := by
  obtain ⟨h1, h2, h3⟩ := RefX.not hr hn
  obtain ⟨l2, c2, hn, e⟩ := hn
  exact ⟨l2, c2, hn.keep hf h1 h2 h3, e⟩
theorem map_len {l : List PkA} (e : l.map (·.p) = L) : L.length = l.length := by rw [← e]; simp
theorem PSend (hB : B ≤ w.heap.size) (h : NetP w a M nx L) (to : Int) (A : Option Addr) (c : Nat) (b : List Int) (hb : b.length ≤ 1000000) (hr : RowI B w A c b) (hn : nx < 1000000) :
    Calls Try.prog 12 #[.pointer (some ⟨a, 0, none⟩), .int .i64 to, .slice A b.length c] w fun e w' => e = .returned (.tuple #[.int .i64 (sendP nx L to b).1, .int .i64 (sendP nx L to b).2.1]) ∧ NetP w' a M (sendP nx L to b).2.2.1 (sendP nx L to b).2.2.2 ∧ Fr (fun k => k = a ∨ k = M) w w' := by
  have hP := h
  obtain ⟨l, ck, h, e⟩ := h
  have hl := map_len e
  unfold sendP
  by_cases h1 : (to = 0 ∨ to = 1) ∧ 0 < b.length
  · rw [if_pos h1]
    by_cases h2 : b.length ≤ 8000
    · rw [if_pos h2]
      by_cases h3 : L.length < 64
      · rw [if_pos h3]
        exact (Send_ok hB h to A c b h1.1 h1.2 h2 hr (by omega) hn).mono fun e1 w' ⟨h4, ⟨A', c', h5⟩, h6⟩ => ⟨h4, ⟨_, _, h5, by simp [e]⟩, h6⟩
      · rw [if_neg h3]
        exact (Send_full hB h to A c b h1.1 h1.2 h2 hr (by omega)).mono fun e1 w' ⟨h4, h5⟩ => ⟨h4, hP.below h5, Fr.of_below h5⟩
    · rw [if_neg h2]
      exact (Send_long h to A b.length c h1.1 hb (by omega)).mono fun e1 w' ⟨h4, h5⟩ => ⟨h4, h5 ▸ hP, h5 ▸ Fr.refl _ _⟩
  · rw [if_neg h1]
    exact (Send_arg h to A b.length c (by omega) hb).mono fun e1 w' ⟨h4, h5⟩ => ⟨h4, h5 ▸ hP, h5 ▸ Fr.refl _ _⟩
theorem QSend (h : RefP B w mb nx L) (hBw : B ≤ w.heap.size) (to : Int) {Bi : Nat} (hBi : Bi ≤ w.heap.size) (A : Option Addr) (c : Nat) (b : List Int) (hb : b.length ≤ 1000000) (hr : RowI Bi w A c b) (hL : L.length ≤ 100) (hn0 : 0 ≤ nx) (hn : nx < 1000000) :
    Calls Try.prog 20 #[.pointer (some ⟨mb, 0, none⟩), .int .i64 to, .slice A b.length c] w fun e w' => e = .returned (.tuple #[.int .i64 (sendP nx L to b).1, .int .i64 (sendP nx L to b).2.1]) ∧ RefP B w' mb (sendP nx L to b).2.2.1 (sendP nx L to b).2.2.2 ∧ Fr (RefX B mb w) w w' := by
  have hP := h
  obtain ⟨l, h, e⟩ := h
  have hl := map_len e
  unfold sendP
  by_cases h1 : (to = 0 ∨ to = 1) ∧ 0 < b.length
  · rw [if_pos h1]
    by_cases h2 : b.length ≤ 8000
    · rw [if_pos h2]
      by_cases h3 : L.length < 64
      · rw [if_pos h3]
        exact (RSend_ok h hBw to hBi A c b hr h1.1 h1.2 h2 (by omega) hn0 hn).mono fun e1 w' ⟨h4, ⟨A', c', h5⟩, h6⟩ => ⟨h4, ⟨_, h5, by simp [e]⟩, h6⟩
      · rw [if_neg h3]
        exact (RSend_full h to A b.length c h1.1 h1.2 h2 (by omega) (by omega)).mono fun e1 w' ⟨h4, h5⟩ => ⟨h4, h5 ▸ hP, h5 ▸ Fr.refl _ _⟩
    · rw [if_neg h2]
      exact (RSend_long to A b.length c h1.1 hb (by omega)).mono fun e1 w' ⟨h4, h5⟩ => ⟨h4, h5 ▸ hP, h5 ▸ Fr.refl _ _⟩
  · rw [if_neg h1]
    exact (RSend_arg to A b.length c (by omega) hb).mono fun e1 w' ⟨h4, h5⟩ => ⟨h4, h5 ▸ hP, h5 ▸ Fr.refl _ _⟩
theorem Row.nil (w : World) : Row w none 0 [] := ⟨Nat.le_refl _, by omega, (fun x hx => by cases hx), fun h0 => by simp at h0⟩
theorem PDeliver (h : NetP w a M nx L) (id : Int) :
    Calls Try.prog 14 #[.pointer (some ⟨a, 0, none⟩), .int .i64 id] w fun e w' => ∃ A c, e = .returned (.tuple #[.int .i64 (delP L id).1, .slice A (delP L id).2.1.length c, .int .i64 (delP L id).2.2.1]) ∧ Row w' A c (delP L id).2.1 ∧ NetP w' a M nx (delP L id).2.2.2 ∧ Fr (fun k => k = a ∨ k = M) w w' := by
  have hP := h
  obtain ⟨l, ck, h, e⟩ := h
  have hx := ix_look id l 0
  rw [e] at hx
  unfold delP
  cases hlk : look id l 0 with
  | none =>
    rw [hlk] at hx
    simp only [Option.map_none] at hx
    rw [hx]
    exact (Deliver_none h hlk).mono fun e1 w' ⟨h4, h5⟩ => ⟨none, 0, h4, Row.nil w', hP.below h5, Fr.of_below h5⟩
  | some r =>
    obtain ⟨j, y⟩ := r
    rw [hlk] at hx
    simp only [Option.map_some] at hx
    rw [hx]
    have hy : y ∈ l := List.mem_of_getElem? (look_spec _ _ _ _ _ hlk).2.1
    exact (Deliver_some h hlk).mono fun e1 w' ⟨h4, h5, h6⟩ => ⟨y.A, y.c, h4, (h.rows y hy).keep (Keep8.of_fr h6.dropM h.not8), ⟨_, _, h5, by rw [← map_erase, e]⟩, h6.dropM⟩
theorem RefX.not8 (h : RefP B w mb nx L) : ∀ k cs fz, RefX B mb w k → w.heap[k]? ≠ some (Obj.cells cs 5 fz) := by
  obtain ⟨l, h, e⟩ := h
  obtain ⟨A, c, h1, h2⟩ := h.blk
  unfold Blk at h1
  rintro k cs fz (rfl | ⟨_, cs', fz', e⟩) e2
  · rw [h1] at e2; cases e2
  · rw [e] at e2; cases e2
theorem QDeliver (h : RefP B w mb nx L) (hBw : B ≤ w.heap.size) (hL : L.length ≤ 100) (id : Int) :
    Calls Try.prog 21 #[.pointer (some ⟨mb, 0, none⟩), .int .i64 id] w fun e w' => ∃ A c, e = .returned (.tuple #[.int .i64 (delP L id).1, .slice A (delP L id).2.1.length c, .int .i64 (delP L id).2.2.1]) ∧ Row w' A c (delP L id).2.1 ∧ RefP B w' mb nx (delP L id).2.2.2 ∧ Fr (RefX B mb w) w w' := by
  have hP := h
  obtain ⟨l, h, e⟩ := h
  have hl := map_len e
  have hx := ix_look id l 0
  rw [e] at hx
  unfold delP
  cases hlk : look id l 0 with
  | none =>
    rw [hlk] at hx
    simp only [Option.map_none] at hx
    rw [hx]
    exact (RDeliver_none h (by omega) hlk).mono fun e1 w' ⟨h4, h5⟩ => ⟨none, 0, h4, Row.nil w', h5 ▸ hP, h5 ▸ Fr.refl _ _⟩
  | some r =>
    obtain ⟨j, y⟩ := r
    rw [hlk] at hx
    simp only [Option.map_some] at hx
    rw [hx]
    have hy : y ∈ l := List.mem_of_getElem? (look_spec _ _ _ _ _ hlk).2.1
    exact (RDeliver_some h hBw (by omega) hlk).mono fun e1 w' ⟨h4, h5, h6⟩ => ⟨y.A, y.c, h4, (h.rows y hy).keep (Keep8.of_fr h6 (RefX.not8 hP)), ⟨_, h5, by rw [← map_erase, e]⟩, h6⟩
theorem PDrop (h : NetP w a M nx L) (id : Int) :
    Calls Try.prog 16 #[.pointer (some ⟨a, 0, none⟩), .int .i64 id] w fun e w' => e = .returned (.int .i64 (dropP L id).1) ∧ NetP w' a M nx (dropP L id).2 ∧ Fr (fun k => k = a ∨ k = M) w w' := by
  have hP := h
  obtain ⟨l, ck, h, e⟩ := h
  have hx := ix_look id l 0
  rw [e] at hx
  unfold dropP
  cases hlk : look id l 0 with
  | none =>
    rw [hlk] at hx
    simp only [Option.map_none] at hx
    rw [hx]
    exact (Drop_none h hlk).mono fun e1 w' ⟨h4, h5⟩ => ⟨h4, hP.below h5, Fr.of_below h5⟩
  | some r =>
    obtain ⟨j, y⟩ := r
    rw [hlk] at hx
    simp only [Option.map_some] at hx
    rw [hx]
    exact (Drop_some h hlk).mono fun e1 w' ⟨h4, h5, h6⟩ => ⟨h4, ⟨_, _, h5, by rw [← map_erase, e]⟩, h6.dropM⟩
theorem QDrop (h : RefP B w mb nx L) (hBw : B ≤ w.heap.size) (hL : L.length ≤ 100) (id : Int) :
    Calls Try.prog 22 #[.pointer (some ⟨mb, 0, none⟩), .int .i64 id] w fun e w' => e = .returned (.int .i64 (dropP L id).1) ∧ RefP B w' mb nx (dropP L id).2 ∧ Fr (RefX B mb w) w w' := by
  have hP := h
  obtain ⟨l, h, e⟩ := h
  have hl := map_len e
  have hx := ix_look id l 0
  rw [e] at hx
  unfold dropP
  cases hlk : look id l 0 with
  | none =>
    rw [hlk] at hx
    simp only [Option.map_none] at hx
    rw [hx]
    exact (RDrop_none h (by omega) hlk).mono fun e1 w' ⟨h4, h5⟩ => ⟨h4, h5 ▸ hP, h5 ▸ Fr.refl _ _⟩
  | some r =>
    obtain ⟨j, y⟩ := r
    rw [hlk] at hx
    simp only [Option.map_some] at hx
    rw [hx]
    exact (RDrop_some h hBw (by omega) hlk).mono fun e1 w' ⟨h4, h5, h6⟩ => ⟨h4, ⟨_, h5, by rw [← map_erase, e]⟩, h6⟩
theorem PDouble (h : NetP w a M nx L) (id : Int) (hn : nx < 1000000) :
    Calls Try.prog 17 #[.pointer (some ⟨a, 0, none⟩), .int .i64 id] w fun e w' => e = .returned (.tuple #[.int .i64 (dblP nx L id).1, .int .i64 (dblP nx L id).2.1]) ∧ NetP w' a M (dblP nx L id).2.2.1 (dblP nx L id).2.2.2 ∧ Fr (fun k => k = a ∨ k = M) w w' := by
  have hP := h
  obtain ⟨l, ck, h, e⟩ := h
  have hl := map_len e
  have hx := ix_look id l 0
  rw [e] at hx
  unfold dblP
  cases hlk : look id l 0 with
  | none =>
    rw [hlk] at hx
    simp only [Option.map_none] at hx
    rw [hx]
    exact (Double_none h hlk).mono fun e1 w' ⟨h4, h5⟩ => ⟨h4, hP.below h5, Fr.of_below h5⟩
  | some r =>
    obtain ⟨j, y⟩ := r
    rw [hlk] at hx
    simp only [Option.map_some] at hx
    rw [hx]
    by_cases h3 : L.length < 64
    · simp only [if_pos h3]
      exact (Double_ok h hlk (by omega) hn).mono fun e1 w' ⟨h4, h5, h6⟩ => ⟨h4, ⟨_, _, h5, by simp [e]⟩, h6⟩
    · simp only [if_neg h3]
      exact (Double_full h hlk (by omega)).mono fun e1 w' ⟨h4, h5⟩ => ⟨h4, hP.below h5, Fr.of_below h5⟩
theorem QDouble (h : RefP B w mb nx L) (hBw : B ≤ w.heap.size) (hL : L.length ≤ 100) (id : Int) (hn0 : 0 ≤ nx) (hn : nx < 1000000) :
    Calls Try.prog 23 #[.pointer (some ⟨mb, 0, none⟩), .int .i64 id] w fun e w' => e = .returned (.tuple #[.int .i64 (dblP nx L id).1, .int .i64 (dblP nx L id).2.1]) ∧ RefP B w' mb (dblP nx L id).2.2.1 (dblP nx L id).2.2.2 ∧ Fr (RefX B mb w) w w' := by
  have hP := h
  obtain ⟨l, h, e⟩ := h
  have hl := map_len e
  have hx := ix_look id l 0
  rw [e] at hx
  unfold dblP
  cases hlk : look id l 0 with
  | none =>
    rw [hlk] at hx
    simp only [Option.map_none] at hx
    rw [hx]
    exact (RDouble_none h (by omega) hlk).mono fun e1 w' ⟨h4, h5⟩ => ⟨h4, h5 ▸ hP, h5 ▸ Fr.refl _ _⟩
  | some r =>
    obtain ⟨j, y⟩ := r
    rw [hlk] at hx
    simp only [Option.map_some] at hx
    rw [hx]
    by_cases h3 : L.length < 64
    · simp only [if_pos h3]
      exact (RDouble_ok h hBw hlk (by omega) hn0 hn).mono fun e1 w' ⟨h4, h5, h6⟩ => ⟨h4, ⟨_, h5, by simp [e]⟩, h6⟩
    · simp only [if_neg h3]
      exact (RDouble_full h (by omega) hlk (by omega)).mono fun e1 w' ⟨h4, h5⟩ => ⟨h4, h5 ▸ hP, h5 ▸ Fr.refl _ _⟩
theorem spoil_p {l : List PkA} {j k : Nat} {y : PkA} {u by_ : Int} {A : Option Addr} {c : Nat} (hu : y.p.b[k]? = some u) (e : l.map (·.p) = L) :
    (l.set j (y.spoil k u by_ A c)).map (·.p) = L.set j ⟨y.p.id, y.p.to, y.p.b.set k (xr (y.p.b.getD k 0) by_), true⟩ := by
  rw [List.map_set, e]
  simp [PkA.spoil, List.getD_eq_getElem?_getD, hu]
theorem PSpoil (h : NetP w a M nx L) (id at_ by_ : Int) (hby : 0 ≤ by_ ∧ by_ < 256) (hs : ∀ p ∈ L, p.b.length ≤ 8000) :
    Calls Try.prog 18 #[.pointer (some ⟨a, 0, none⟩), .int .i64 id, .int .i64 at_, .int .u8 by_] w fun e w' => e = .returned (.int .i64 (spoilP L id at_ by_).1) ∧ NetP w' a M nx (spoilP L id at_ by_).2 ∧ Fr (fun k => k = a ∨ k = M) w w' := by
  have hP := h
  obtain ⟨l, ck, h, e⟩ := h
  have hx := ix_look id l 0
  rw [e] at hx
  unfold spoilP
  cases hlk : look id l 0 with
  | none =>
    rw [hlk] at hx
    simp only [Option.map_none] at hx
    rw [hx]
    exact (Spoil_none h hlk at_ by_).mono fun e1 w' ⟨h4, h5⟩ => ⟨h4, hP.below h5, Fr.of_below h5⟩
  | some r =>
    obtain ⟨j, y⟩ := r
    rw [hlk] at hx
    simp only [Option.map_some] at hx
    rw [hx]
    have hy : y ∈ l := List.mem_of_getElem? (look_spec _ _ _ _ _ hlk).2.1
    have hyb := hs y.p (by rw [← e]; exact List.mem_map_of_mem hy)
    cases hsp : y.p.sp with
    | true =>
      simp only [hsp, if_true]
      exact (Spoil_twice h hlk hsp at_ by_).mono fun e1 w' ⟨h4, h5⟩ => ⟨h4, hP.below h5, Fr.of_below h5⟩
    | false =>
      simp only [hsp, Bool.false_eq_true, if_false]
      by_cases ha : at_ < 0 ∨ (y.p.b.length : Int) ≤ at_ ∨ by_ = 0
      · simp only [if_pos ha]
        exact (Spoil_arg h hlk hsp at_ by_ (by omega) ha).mono fun e1 w' ⟨h4, h5⟩ => ⟨h4, hP.below h5, Fr.of_below h5⟩
      · simp only [if_neg ha]
        obtain ⟨k, rfl⟩ := Int.eq_ofNat_of_zero_le (by omega : 0 ≤ at_)
        have hk : k < y.p.b.length := by omega
        have hu := (h.rows y hy).2.2.1 _ (List.getElem_mem hk)
        exact (Spoil_ok h hlk hsp k by_ hk (by omega) (by omega) hby.2 (List.getElem?_eq_getElem hk) hu.1 hu.2).mono fun e1 w' ⟨h4, ⟨A, c, h5⟩, h6⟩ => ⟨h4, ⟨_, _, h5, spoil_p (List.getElem?_eq_getElem hk) e⟩, h6.dropM⟩
theorem QSpoil (h : RefP B w mb nx L) (hBw : B ≤ w.heap.size) (hL : L.length ≤ 100) (id at_ by_ : Int) (hby : 0 ≤ by_ ∧ by_ < 256) (hs : ∀ p ∈ L, p.b.length ≤ 8000) :
    Calls Try.prog 24 #[.pointer (some ⟨mb, 0, none⟩), .int .i64 id, .int .i64 at_, .int .u8 by_] w fun e w' => e = .returned (.int .i64 (spoilP L id at_ by_).1) ∧ RefP B w' mb nx (spoilP L id at_ by_).2 ∧ Fr (RefX B mb w) w w' := by
  have hP := h
  obtain ⟨l, h, e⟩ := h
  have hl := map_len e
  have hx := ix_look id l 0
  rw [e] at hx
  unfold spoilP
  cases hlk : look id l 0 with
  | none =>
    rw [hlk] at hx
    simp only [Option.map_none] at hx
    rw [hx]
    exact (RSpoil_none h (by omega) hlk at_ by_).mono fun e1 w' ⟨h4, h5⟩ => ⟨h4, h5 ▸ hP, h5 ▸ Fr.refl _ _⟩
  | some r =>
    obtain ⟨j, y⟩ := r
    rw [hlk] at hx
    simp only [Option.map_some] at hx
    rw [hx]
    have hy : y ∈ l := List.mem_of_getElem? (look_spec _ _ _ _ _ hlk).2.1
    have hyb := hs y.p (by rw [← e]; exact List.mem_map_of_mem hy)
    cases hsp : y.p.sp with
    | true =>
      simp only [hsp, if_true]
      exact (RSpoil_twice h (by omega) hlk hsp at_ by_).mono fun e1 w' ⟨h4, h5⟩ => ⟨h4, h5 ▸ hP, h5 ▸ Fr.refl _ _⟩
    | false =>
      simp only [hsp, Bool.false_eq_true, if_false]
      by_cases ha : at_ < 0 ∨ (y.p.b.length : Int) ≤ at_ ∨ by_ = 0
      · simp only [if_pos ha]
        exact (RSpoil_arg h (by omega) hlk hsp at_ by_ (by omega) ha).mono fun e1 w' ⟨h4, h5⟩ => ⟨h4, h5 ▸ hP, h5 ▸ Fr.refl _ _⟩
      · simp only [if_neg ha]
        obtain ⟨k, rfl⟩ := Int.eq_ofNat_of_zero_le (by omega : 0 ≤ at_)
        have hk : k < y.p.b.length := by omega
        have hu := (h.rows y hy).2.2.1 _ (List.getElem_mem hk)
        exact (RSpoil_ok h hBw (by omega) hlk hsp k by_ hk (by omega) (by omega) hby.2 (List.getElem?_eq_getElem hk) hu.1 hu.2).mono fun e1 w' ⟨h4, ⟨A, c, h5⟩, h6⟩ => ⟨h4, ⟨_, h5, spoil_p (List.getElem?_eq_getElem hk) e⟩, h6⟩
end
end Go.Proofs.Ytlhmhalamfjhjaa
