/- The document's net, walked: Send. -/
import Derived.Test.YtlhmhalamfjhjaaNp
set_option linter.unusedVariables false
namespace Go.Proofs.Ytlhmhalamfjhjaa
open Go.RowKit
theorem own_below {w w' : World} {B e size n : Nat} {v : Value} {xs : List Value} (h : w.ownsRow B e size v n xs) (hb : Below w.heap.size w w') : w'.ownsRow B e size v n xs := by
  refine ⟨h.1, h.2.imp id ?_⟩
  rintro ⟨g, cap, cur, e1, e2, e3, e4⟩
  exact ⟨g, cap, cur, e1, e2, (hb.block g (Array.getElem?_eq_some_iff.1 e3).1).trans e3, e4⟩
theorem own_form_any {w : World} {B e size n : Nat} {v : Value} {xs : List Value} (h : w.ownsRow B e size v n xs) : ∃ A c, v = .slice A n c := by
  rcases h.2 with ⟨rfl, rfl⟩ | ⟨g, cap, cur, rfl, _⟩
  · exact ⟨none, 0, rfl⟩
  · exact ⟨_, _, rfl⟩
theorem blk_otherN {w w' : World} {B e2 size n2 : Nat} {v2 : Value} {xs2 : List Value} {g : Nat} {t : TypeId} {cs : Array Value} (h : Blk w g t cs) (hg : w.grownBy w' v2.ownBlock) (h2 : w.ownsRow B e2 size v2 n2 xs2) (he : t ≠ e2) : Blk w' g t cs := by
  refine (hg.block g h.lt (fun e => ?_)).trans h
  rcases h2.2 with ⟨rfl, _⟩ | ⟨g2, cap2, cur2, rfl, _, e5, _⟩
  · simp [Value.ownBlock] at e
  · simp [Value.ownBlock] at e
    subst e
    unfold Blk at h
    rw [e5] at h
    cases h
    exact he rfl
theorem reads_four {w : World} {g : Nat} {t : TypeId} {a b c d : Value} (h : Blk w g t #[a, b, c, d]) : Reads w w.heap.size 4 (some ⟨g, 0, none⟩) 1 [a, b, c, d] :=
  ⟨rfl, fun _ => ⟨_, rfl, h.lt, fun j x hx => by
    have e : (⟨g, 0, none⟩ : Addr).add j = ⟨g, j, none⟩ := by unfold Addr.add; split <;> simp_all
    rw [e, h.cell]
    simpa using hx⟩⟩
theorem four_one {a b : Int} {A : Option Addr} {n c : Nat} {s : Bool} : ∀ u ∈ [Value.int .i64 a, .int .i64 b, .slice A n c, .bool s], u.oneCell' = true := by
  intro u hu
  simp only [List.mem_cons, List.not_mem_nil, or_false] at hu
  rcases hu with rfl | rfl | rfl | rfl <;> rfl
theorem Try.info75 : (Try.prog.info? 75).map (fun i => (i.zero, i.size, i.bytes)) = some (some (.agg #[.int .i64 0, .int .i64 0, .slice none 0 0, .bool false]), 4, 48) := by kernel_rfl
/-- What the document's net may turn: its struct, rows of packets of its own. -/
def RefX (B mb : Nat) (w : World) (k : Nat) : Prop := k = mb ∨ (B ≤ k ∧ ∃ cs fz, w.heap[k]? = some (Obj.cells cs 75 fz))
theorem grown_row {w w' : World} {B e2 size n2 : Nat} {v2 : Value} {xs2 : List Value} (hg : w.grownBy w' v2.ownBlock) (h2 : w.ownsRow B e2 size v2 n2 xs2) {k : Nat} (hk : k < w.heap.size) (hn : ¬ (B ≤ k ∧ ∃ cs fz, w.heap[k]? = some (Obj.cells cs e2 fz))) : w'.heap[k]? = w.heap[k]? := by
  refine hg.block k hk (fun e => hn ?_)
  rcases h2.2 with ⟨rfl, _⟩ | ⟨g2, cap2, cur2, rfl, h3, e5, _⟩
  · simp [Value.ownBlock] at e
  · simp [Value.ownBlock] at e
    subst e
    exact ⟨h3, cur2, _, e5⟩
/-- Behind a push: the struct's two cells are stored. -/
theorem ref_push {B : Nat} {w w1 w2 : World} {mb : Nat} {nx nx' : Int} {l : List PkA} {y : PkA} {A1 A2 : Option Addr} {c1 c2 : Nat} {o : Obj} (h : RefAt B w mb nx l) (hBw : B ≤ w.heap.size) (hB1 : Below w.heap.size w w1) (hown1 : w1.ownsRow B 75 4 (.slice A1 l.length c1) l.length (cellsL l))
    (hgC : (w1.alloc o).grownBy w2 (Value.slice A1 l.length c1).ownBlock) (hoC : w2.ownsRow B 75 4 (.slice A2 (l.length + 1) c2) (l.length + 1) (cellsL l ++ y.cells)) (hy : Row w1 y.A y.c y.p.b) :
    RefAt B ((w2.setCell ⟨mb, 0, none⟩ (.slice A2 (l.length + 1) c2)).setCell ⟨mb, 1, none⟩ (.int .i64 nx')) mb nx' (l ++ [y]) ∧ Fr (RefX B mb w) w ((w2.setCell ⟨mb, 0, none⟩ (.slice A2 (l.length + 1) c2)).setCell ⟨mb, 1, none⟩ (.int .i64 nx')) := by
  obtain ⟨A, c, hb, _⟩ := h.blk
  have hmb := hb.lt
  have b1 : Blk w1 mb 54 _ := (hB1.block mb hmb).trans hb
  have b2 : Blk w2 mb 54 _ := blk_otherN (b1.alloc o) hgC (hown1.alloc _) (by decide)
  have b3 := (b2.set_ 0 (.slice A2 (l.length + 1) c2)).set_ 1 (.int .i64 nx')
  have hf : Fr (RefX B mb w) w w2 := ⟨hgC.os.trans hB1.os, hgC.tape.trans hB1.tape, hgC.output.trans hB1.output, Nat.le_trans hB1.size (Nat.le_trans (by simp) hgC.size), fun k hk hx => by
    have hk1 : k < w1.heap.size := Nat.lt_of_lt_of_le hk hB1.size
    have e1 : (w1.alloc o).heap[k]? = w.heap[k]? := (Below.heap_alloc w1 o k hk1).trans (hB1.block k hk)
    refine (grown_row hgC (hown1.alloc _) (by simp; omega) (fun hn => hx (.inr ⟨hn.1, ?_⟩))).trans e1
    obtain ⟨cs, fz, e⟩ := hn.2
    exact ⟨cs, fz, e1.symm.trans e⟩⟩
  have hf3 : Fr (RefX B mb w) w ((w2.setCell ⟨mb, 0, none⟩ (.slice A2 (l.length + 1) c2)).setCell ⟨mb, 1, none⟩ (.int .i64 nx')) := (hf.setCell (.inr (.inl rfl)) _).setCell (.inr (.inl rfl)) _
  have k8 : Keep8 w1 w2 := fun g cs fz hg => by
    have hg1 : (w1.alloc o).heap[g]? = some (.cells cs 5 fz) := (Below.heap_alloc w1 o g (Array.getElem?_eq_some_iff.1 hg).1).trans hg
    refine (grown_row hgC (hown1.alloc _) (Array.getElem?_eq_some_iff.1 hg1).1 (fun hn => ?_)).trans hg1
    obtain ⟨_, cs', fz', e⟩ := hn
    rw [hg1] at e; cases e
  have k83 : Keep8 w2 ((w2.setCell ⟨mb, 0, none⟩ (.slice A2 (l.length + 1) c2)).setCell ⟨mb, 1, none⟩ (.int .i64 nx')) := fun g cs fz hg => by
    have hne : g ≠ mb := fun e => by subst e; rw [show w2.heap[g]? = _ from b2] at hg; cases hg
    exact ((Below.heap_setCell _ _ _ _ hne).trans (Below.heap_setCell _ _ _ _ hne)).trans hg
  refine ⟨⟨⟨A2, c2, by simpa using b3, ?_⟩, h.base, fun x hx => ?_⟩, hf3⟩
  · have e : cellsL (l ++ [y]) = cellsL l ++ y.cells := by simp [cellsL]
    rw [List.length_append, List.length_singleton, e]
    refine ⟨hoC.1, hoC.2.imp id ?_⟩
    rintro ⟨g, cap, cur, e1, e2, e3, e4⟩
    have hne : g ≠ mb := fun e => by subst e; rw [show w2.heap[g]? = _ from b2] at e3; cases e3
    exact ⟨g, cap, cur, e1, e2, ((Below.heap_setCell _ _ _ _ hne).trans (Below.heap_setCell _ _ _ _ hne)).trans e3, e4⟩
  · rcases List.mem_append.1 hx with hx | hx
    · exact (((h.rows x hx).keep (Keep8.of_below hB1)).keep k8).keep k83
    · obtain rfl := List.mem_singleton.1 hx
      exact (hy.keep k8).keep k83
/-- What Send answers. -/
def sendE (to : Int) (n len : Nat) : Int := if ¬ (to = 0 ∨ to = 1) ∨ n = 0 then 2 else if 8000 < n then 1 else if 64 ≤ len then 42 else 0
section
variable {B : Nat} {w : World} {mb : Nat} {nx : Int} {l : List PkA}
set_option maxHeartbeats 1000000 in
set_option maxRecDepth 100000 in
theorem RSend_arg (to : Int) (A : Option Addr) (n c : Nat) (ha : ¬ (to = 0 ∨ to = 1) ∨ n = 0) (hn : n ≤ 1000000) :
    Calls Try.prog 20 #[.pointer (some ⟨mb, 0, none⟩), .int .i64 to, .slice A n c] w fun e w' => e = .returned (.tuple #[.int .i64 0, .int .i64 2]) ∧ w = w' := by
  by_cases h0 : to = 0
  · have d1 : (to != 0) = false := by simpa using h0
    have d2 : ((n : Int) == 0) = true := by simp; omega
    go_enter Try.func20, Try.ntmps20
    go_wp2
    go_ret2
    exact ⟨rfl, rfl⟩
  · have d1 : (to != 0) = true := by simpa using h0
    by_cases h1 : to = 1
    · have d3 : (to != 1) = false := by simpa using h1
      have d2 : ((n : Int) == 0) = true := by simp; omega
      go_enter Try.func20, Try.ntmps20
      go_wp2
      go_ret2
      exact ⟨rfl, rfl⟩
    · have d3 : (to != 1) = true := by simpa using h1
      go_enter Try.func20, Try.ntmps20
      go_wp2
      go_ret2
      exact ⟨rfl, rfl⟩
set_option maxHeartbeats 1000000 in
set_option maxRecDepth 100000 in
theorem RSend_long (to : Int) (A : Option Addr) (n c : Nat) (ha : to = 0 ∨ to = 1) (hn : n ≤ 1000000) (h8 : 8000 < n) :
    Calls Try.prog 20 #[.pointer (some ⟨mb, 0, none⟩), .int .i64 to, .slice A n c] w fun e w' => e = .returned (.tuple #[.int .i64 0, .int .i64 1]) ∧ w = w' := by
  have d2 : ((n : Int) == 0) = false := by simp; omega
  have d4 : decide ((8000 : Int) < n) = true := by simp; omega
  rcases ha with rfl | rfl
  all_goals
    go_enter Try.func20, Try.ntmps20
    go_wp2
    go_ret2
    exact ⟨rfl, rfl⟩
set_option maxHeartbeats 1000000 in
set_option maxRecDepth 100000 in
theorem RSend_full (h : RefAt B w mb nx l) (to : Int) (A : Option Addr) (n c : Nat) (ha : to = 0 ∨ to = 1) (h0 : 0 < n) (h8 : n ≤ 8000) (hl : 64 ≤ l.length) (hl2 : l.length ≤ 1000000) :
    Calls Try.prog 20 #[.pointer (some ⟨mb, 0, none⟩), .int .i64 to, .slice A n c] w fun e w' => e = .returned (.tuple #[.int .i64 0, .int .i64 42]) ∧ w = w' := by
  obtain ⟨A1, c1, hb, hown⟩ := h.blk
  have c0 : w.cell? ⟨mb, 0, none⟩ = some (.slice A1 l.length c1) := hb.cell 0
  have d2 : ((n : Int) == 0) = false := by simp; omega
  have d4 : decide ((8000 : Int) < n) = false := by simp; omega
  have d5 : decide ((64 : Int) ≤ l.length) = true := by simp; omega
  rcases ha with rfl | rfl
  all_goals
    go_enter Try.func20, Try.ntmps20
    go_wp2
    go_ret2
    exact ⟨rfl, rfl⟩
set_option maxHeartbeats 8000000 in
set_option maxRecDepth 100000 in
theorem RSend_ok (h : RefAt B w mb nx l) (hBw : B ≤ w.heap.size) (to : Int) {Bi : Nat} (hBi : Bi ≤ w.heap.size) (A : Option Addr) (c : Nat) (b : List Int) (hr : RowI Bi w A c b) (ha : to = 0 ∨ to = 1) (h0 : 0 < b.length) (h8 : b.length ≤ 8000) (hl : l.length < 64) (hn0 : 0 ≤ nx) (hn : nx < 1000000) :
    Calls Try.prog 20 #[.pointer (some ⟨mb, 0, none⟩), .int .i64 to, .slice A b.length c] w fun e w' => e = .returned (.tuple #[.int .i64 nx, .int .i64 0]) ∧ (∃ A' c', RefAt B w' mb (nx + 1) (l ++ [⟨⟨nx, to, b, false⟩, A', c', 0⟩])) ∧ Fr (RefX B mb w) w w' := by
  obtain ⟨A1, c1, hb, hown⟩ := h.blk
  have c0 : w.cell? ⟨mb, 0, none⟩ = some (.slice A1 l.length c1) := hb.cell 0
  have c1' : w.cell? ⟨mb, 1, none⟩ = some (.int .i64 nx) := hb.cell 1
  have f0 := hb.frozen 0
  have f1 := hb.frozen 1
  have d2 : ((b.length : Int) == 0) = false := by simp; intro e; subst e; simp at h0
  have d4 : decide ((8000 : Int) < b.length) = false := by simp; omega
  have d5 : decide ((64 : Int) ≤ l.length) = false := by simp; omega
  obtain ⟨i5, hi5, hz5, hz5', hz5''⟩ := info_parts Try.info5
  obtain ⟨i7, hi7, hz7, hz7', hz7''⟩ := info_parts Try.info75
  have hmb := hb.lt
  have hrd := hr.reads
  have ho1 : ((w.alloc (.cells #[] 5)).drew).ownsRow w.heap.size 5 1 (.slice (some ⟨w.heap.size, 0, none⟩) 0 0) 0 [] := own_empty w _ (Nat.le_refl _)
  have hr1 : Reads ((w.alloc (.cells #[] 5)).drew) Bi 1 A b.length (b.map (.int .u8)) := (hrd.alloc hBi _)
  have hq : nx ≤ 1000000 := by omega
  obtain ⟨TO, hTO⟩ : ∃ TO : Int, TO = to := ⟨_, rfl⟩
  rw [← hTO] at ha ⊢
  clear hTO
  have dd : (TO != 0 && TO != 1) = false := by rcases ha with rfl | rfl <;> rfl
  have e3 : (TO != 0) = false ∨ ((TO != 0) = true ∧ (TO != 1) = false) := by rcases ha with rfl | rfl <;> simp
  clear dd ha
  rcases e3 with e3 | ⟨e3, e4⟩
  all_goals
    go_enter Try.func20, Try.ntmps20
    go_wp2
    go_region_law (first
      | (refine step_append_any _ (by rfl) (.tmp 44) (.tmp 45) 30 (by rfl) w.heap.size 5 i5 _ 1 1 Try.underlying30 hi5 hz5 hz5' hz5'' rfl (by omega) (.slice (some ⟨w.heap.size, 0, none⟩) 0 0) 0 [] (by rfl) ho1 Bi A b.length c (b.map (.int .u8)) (by rfl) hr1 (bytes_one b) (by simp only [maxLen]; omega) (by omega) (by simp) ?_; intro v1 w1 hoA hgA hlA; obtain ⟨Ab, cb, rfl⟩ := ownsRow_succ_any hoA; have hB1 : Below w.heap.size w w1 := ((((Below.refl _ w).alloc (Nat.le_refl _) _).drew).grown hgA (by simp) (fun k e => by cases e; exact Nat.le_refl _)); have e0 := (hB1.cell (p := ⟨mb, 0, none⟩) hmb).trans c0; have e1 := (hB1.cell (p := ⟨mb, 1, none⟩) hmb).trans c1'; have g0 := (hB1.frozen (p := ⟨mb, 0, none⟩) hmb).trans f0; have g1 := (hB1.frozen (p := ⟨mb, 1, none⟩) hmb).trans f1; have hm1 : mb < w1.heap.size := Nat.lt_of_lt_of_le hmb hB1.size; have e0a : ∀ o : Obj, (w1.alloc o).cell? ⟨mb, 0, none⟩ = some (.slice A1 l.length c1) := fun o => (((Below.refl _ w1).alloc (Nat.le_refl _) o).cell (p := ⟨mb, 0, none⟩) hm1).trans e0; have hown1 : w1.ownsRow B 75 4 (.slice A1 l.length c1) l.length (cellsL l) := own_below hown hB1)
      | (refine step_append_any _ (by rfl) (.tmp 38) (.tmp 48) 52 (by rfl) B 75 i7 _ 4 48 Try.underlying52 hi7 hz7 hz7' hz7'' rfl (by omega) (.slice A1 l.length c1) l.length (cellsL l) (by rfl) (hown1.alloc _) _ _ 1 1 [.int .i64 nx, .int .i64 TO, .slice Ab b.length cb, .bool false] (by rfl) (reads_four (Blk.new w1 75 _)) four_one (by simp only [maxLen]; omega) (by omega) (by simp; have := hB1.size; omega) ?_; intro v2 w2 hoC hgC hlC; obtain ⟨A2, c2, rfl⟩ := own_form_any hoC; have bm2 : Blk w2 mb 54 _ := blk_otherN (((show Blk w1 mb 54 _ from (hB1.block mb hmb).trans hb)).alloc _) hgC (hown1.alloc _) (by decide); have k0 := bm2.cell 0; have k1 := bm2.cell 1; have l0 := bm2.frozen 0; have l1 := bm2.frozen 1))
    all_goals
      go_wp2
      go_ret2
      obtain ⟨r1, r2⟩ := ref_push (y := ⟨⟨nx, TO, b, false⟩, Ab, cb, 0⟩) (nx' := nx + 1) h hBw hB1 hown1 hgC hoC (Row.of_own (by simpa using hoA) hr.byte)
      exact ⟨rfl, ⟨Ab, cb, r1⟩, r2⟩
end
end Go.Proofs.Ytlhmhalamfjhjaa
