/- Rows of pages' numbers beside a transaction. The statement 'for .. := range f { .. }', where the iterator gives the parts of a list that is known: the kit's law (RangeFuncWrites), turned to it. slices.Chunk at bytes: walked. The calls of PoolOnce: what is given out, put, taken back. The transaction's Node; chain.walk: walked. chain.pages, chain.Read: their closures; walked. chain.pages, Pages, Read: walked. slices.Backward at pages' numbers; chain.Free: walked. chain.Free: walked. Regions that draw their order within a round of a range over a function. -/
import Derived.Test.YtenfkghoolegfaaGreatDoorTe
import Derived.RangeFuncWrites
import Derived.OwnWalkIn
import Derived.RangeFuncLeaves
import Derived.RangeFuncFrom
import Derived.Sort.QuietTacIn
import Derived.WalkKit
import Derived.TacticsInMore
import Derived.RegionIn
import Derived.LoopNIn
import Derived.LoopIn
import Derived.OrdersIn
import Derived.AtR
set_option linter.unusedVariables false
namespace Go.Proofs.YtenfkghoolegfaaGreatDoor
open Go.RowKit
def ul (l : List Nat) : List Value := l.map fun n => .int .u32 (n : Nat)
theorem ul_len (l : List Nat) : (ul l).length = l.length := by simp [ul]
theorem ul_app (l m : List Nat) : ul l ++ ul m = ul (l ++ m) := by simp [ul]
theorem ul_one (l : List Nat) : ∀ u ∈ ul l, u.oneCell' = true := by
  intro u hu
  unfold ul at hu
  obtain ⟨n, _, rfl⟩ := List.mem_map.1 hu
  rfl
theorem TU4 : SlT Tryz.prog 35 22 1 4 := SlT.of Tryz.underlying35 (z := .int .u32 0) (by kernel_rfl) rfl (by omega) (by omega)
/-- A row of numbers of the law's own, outside of Y. -/
structure RowN (w : World) (base : Nat) (Y : Nat → Prop) (A : Option Addr) (c : Nat) (l : List Nat) : Prop where
  own : w.ownsRow base 22 1 (.slice A l.length c) l.length (ul l)
  far : ∀ ad, A = some ad → ¬ Y ad.block
theorem RowN.lt {w : World} {base : Nat} {Y : Nat → Prop} {A : Option Addr} {c : Nat} {l : List Nat} (h : RowN w base Y A c l) : ∀ ad, A = some ad → ad.block < w.heap.size ∧ base ≤ ad.block := by
  rintro ad rfl
  rcases h.own.2 with ⟨h0, _⟩ | ⟨g, cap, cur, e1, h2, h3, _⟩
  · cases h0
  · simp only [Value.slice.injEq, Option.some.injEq] at e1
    rw [e1.1]
    exact ⟨(Array.getElem?_eq_some_iff.1 h3).1, h2⟩
theorem RowN.keep {w w' : World} {base : Nat} {Y Y' : Nat → Prop} {A : Option Addr} {c : Nat} {l : List Nat} (h : RowN w base Y A c l) (hk : ∀ ad, A = some ad → w'.heap[ad.block]? = w.heap[ad.block]?) (hY : ∀ ad, A = some ad → ¬ Y' ad.block) : RowN w' base Y' A c l := by
  refine ⟨⟨h.own.1, h.own.2.imp id ?_⟩, hY⟩
  rintro ⟨g, cap, cur, e1, h2, h3, r⟩
  simp only [Value.slice.injEq] at e1
  obtain ⟨rfl, e2, e3⟩ := e1
  exact ⟨g, cap, cur, by rw [e3], h2, (hk _ rfl).trans h3, r⟩
theorem RowN.fr {w w' : World} {base : Nat} {X Y Y' : Nat → Prop} {A : Option Addr} {c : Nat} {l : List Nat} (h : RowN w base Y A c l) (hf : Fr X w w') (hX : ∀ k, X k → Y k) (hY : ∀ k, Y' k → Y k ∨ w.heap.size ≤ k) : RowN w' base Y' A c l :=
  h.keep (fun ad e => hf.block _ (h.lt ad e).1 (fun hx => h.far ad e (hX _ hx))) (fun ad e hy => (hY _ hy).elim (h.far ad e) (fun h2 => by have := (h.lt ad e).1; omega))
theorem RowN.reads {w : World} {base : Nat} {Y : Nat → Prop} {A : Option Addr} {c : Nat} {l : List Nat} (h : RowN w base Y A c l) : Reads w w.heap.size 1 A l.length (ul l) := Reads.of_own h.own
theorem RowN.cell {w : World} {base : Nat} {Y : Nat → Prop} {A : Option Addr} {c : Nat} {l : List Nat} (h : RowN w base Y A c l) {k n : Nat} (hk : l[k]? = some n) : ∃ g, A = some ⟨g, 0, none⟩ ∧ l.length ≤ c ∧ w.cell? ⟨g, k, none⟩ = some (.int .u32 (n : Nat)) := by
  have hkl := (List.getElem?_eq_some_iff.1 hk).1
  rcases h.own.2 with ⟨h0, h1⟩ | ⟨g, cap, cur, e1, h2, h3, h4, h5, h6, h7⟩
  · omega
  · simp only [Value.slice.injEq] at e1
    obtain ⟨rfl, _, rfl⟩ := e1
    refine ⟨g, rfl, h4, ?_⟩
    have hu : (ul l)[k]? = some (.int .u32 (n : Nat)) := by unfold ul; rw [List.getElem?_map, hk]; rfl
    rw [← h7, List.getElem?_take] at hu
    rw [if_pos (by omega)] at hu
    unfold World.cell?
    rw [h3]
    simpa using hu
/-- A row whose last numbers are dropped. -/
theorem RowN.take {w : World} {base : Nat} {Y : Nat → Prop} {A : Option Addr} {c : Nat} {l : List Nat} (h : RowN w base Y A c l) (k : Nat) (hk : k ≤ l.length) : RowN w base Y A c (l.take k) := by
  have hl : (l.take k).length = k := by rw [List.length_take]; omega
  refine ⟨?_, h.far⟩
  rw [hl]
  refine ⟨by rw [ul_len, hl]; omega, ?_⟩
  rcases h.own.2 with ⟨h0, h1⟩ | ⟨g, cap, cur, e1, h2, h3, h4, h5, h6, h7⟩
  · obtain rfl : k = 0 := by omega
    simp only [Value.slice.injEq] at h0
    obtain ⟨rfl, _, rfl⟩ := h0
    exact .inl ⟨rfl, rfl⟩
  · simp only [Value.slice.injEq] at e1
    obtain ⟨rfl, _, rfl⟩ := e1
    refine .inr ⟨g, c, cur, rfl, h2, h3, by omega, h5, h6, ?_⟩
    have : ul (l.take k) = (ul l).take k := by unfold ul; rw [List.map_take]
    rw [this, ← h7, List.take_take]
    congr 1
    omega
theorem ownB {A : Option Addr} {n c : Nat} {g : Nat} (h : (.slice A n c : Value).ownBlock = some g) : ∃ ad, A = some ad ∧ ad.block = g := by
  cases A with
  | none => cases h
  | some ad => exact ⟨ad, rfl, by simpa [Value.ownBlock] using h⟩
/-- A row behind an append. -/
theorem RowN.grown {w w' : World} {base : Nat} {Y : Nat → Prop} {A A' : Option Addr} {c c' n : Nat} {l m : List Nat} (h : RowN w base Y A c l) (hY : ∀ k, Y k → k < w.heap.size) (ho : w'.ownsRow base 22 1 (.slice A' m.length c') m.length (ul m)) (hb : (.slice A' m.length c' : Value).ownBlock = (.slice A n c : Value).ownBlock ∨ (.slice A' m.length c' : Value).ownBlock = some w.heap.size) : RowN w' base Y A' c' m := by
  refine ⟨ho, fun ad had hy => ?_⟩
  subst had
  rcases hb with hb | hb
  · obtain ⟨ad', e, e2⟩ := ownB (A := A) (n := n) (c := c) (g := ad.block) (hb.symm.trans rfl)
    exact h.far ad' e (by rw [e2]; exact hy)
  · have : ad.block = w.heap.size := by simpa [Value.ownBlock] using hb
    have := hY _ hy
    omega
theorem grown_at {w w' : World} {A : Option Addr} {n c k : Nat} (h : w.grownBy w' (.slice A n c : Value).ownBlock) (hk : k < w.heap.size) (hA : ∀ ad, A = some ad → ad.block ≠ k) : w'.heap[k]? = w.heap[k]? :=
  h.block k hk fun e => by
    obtain ⟨ad, e1, e2⟩ := ownB e.symm
    exact hA ad e1 e2
theorem grown_below {w w' : World} {base : Nat} {A : Option Addr} {n c : Nat} (h : w.grownBy w' (.slice A n c : Value).ownBlock) (hb : base ≤ w.heap.size) (hA : ∀ ad, A = some ad → base ≤ ad.block) : Below base w w' :=
  ⟨h.os, h.tape, h.output, h.size, fun k hk => grown_at h (by omega) (fun ad e hh => by have := hA ad e; omega)⟩
theorem reads_u {w : World} {A : Option Addr} {c base : Nat} {Y : Nat → Prop} {o : List Nat} (h : RowN w base Y A c o) : Reads w w.heap.size 1 A o.length (ul o) := Reads.of_own h.own
theorem reads_utake {w : World} {A : Option Addr} {c base : Nat} {Y : Nat → Prop} {o : List Nat} (h : RowN w base Y A c o) {m : Nat} (hm : m ≤ o.length) : Reads w w.heap.size 1 A m (ul (o.take m)) := by
  have := (h.take m hm).reads
  rwa [show (o.take m).length = m by rw [List.length_take]; omega] at this
theorem reads_udrop {w : World} {g c base : Nat} {Y : Nat → Prop} {o : List Nat} (h : RowN w base Y (some ⟨g, 0, none⟩) c o) {m : Nat} (hm : m ≤ o.length) : Reads w w.heap.size 1 (some ⟨g, m, none⟩) (o.length - m) (ul (o.drop m)) := by
  refine ⟨by rw [ul_len, List.length_drop]; omega, fun h0 => ⟨_, rfl, (h.lt _ rfl).1, fun j u hu => ?_⟩⟩
  unfold ul at hu
  rw [List.getElem?_map, List.getElem?_drop] at hu
  cases ho : o[m + j]? with
  | none => rw [ho] at hu; cases hu
  | some n =>
    rw [ho] at hu
    simp only [Option.map_some, Option.some.injEq] at hu
    subst hu
    obtain ⟨g', e, _, hc⟩ := h.cell ho
    cases e
    rw [show (⟨g, m, none⟩ : Addr).add j = ⟨g, m + j, none⟩ by unfold Addr.add; split <;> simp_all]
    exact hc
end Go.Proofs.YtenfkghoolegfaaGreatDoor
set_option linter.unusedVariables false
namespace Go.Proofs.YtenfkghoolegfaaGreatDoor
open Go.RowKit
section
variable {F : Fence} {n : Nat} {P : Program}
/-- An iterator that gives the parts of xs, one behind the other. -/
def SeqL {α : Type} (F : Fence) (n : Nat) (P : Program) (g : Nat) (lb : Array Value) (encs : α → Array Value) (Kp : World → World → Prop) (xs : List α) (w : World) : Prop :=
  ∀ (l : Nat) (J Jx : Nat → World → Prop) (W : World), Below w.heap.size w W → AbidesFrom W.heap.size J → AbidesFrom W.heap.size Jx →
    (∀ k x W1, xs[k]? = some x → J k W1 → YieldAt F (n - 1) P l (encs x) W1 fun e W' =>
      (e = .returned (.bool true) ∧ J (k + 1) W' ∧ Kp W1 W') ∨ (e = .returned (.bool false) ∧ Jx (k + 1) W')) →
    J 0 W →
    CallsIn F n P g (#[.func (.yield l) #[] #[]] ++ lb) W fun e W' => (∃ v, e = .returned v) ∧ (J xs.length W' ∨ (∃ k, k ≤ xs.length ∧ Jx k W'))
/-- How the body of a round may be left. -/
def ownPostN (B : Nat) (Kp : World → World → Prop) (I : Nat → World → Prop) (Ix : Code → Nat → World → Prop) (k : Nat) (W : World) : Exit → Act → World → Prop
  | .normal, _, W' => KeepsFrom B W W' ∧ Kp W W' ∧ I k W'
  | .ret, _, W' => KeepsFrom B W W' ∧ Ix .ret k W'
  | .exit id, _, W' => KeepsFrom B W W' ∧ Ix (.exit id) k W'
  | .goto t, _, W' => KeepsFrom B W W' ∧ Ix (.goto t) k W'
  | .panic _, _, _ => False
  | .outgrown, _, _ => False
theorem wpIn_rangeFunc_ownN {α : Type} {g : Operand} {ps : Array Tmp} {assign body : Code} {Q : Exit → Act → World → Prop} {a : Act} {w : World}
    (hro : F.round = none) (h1 : 1 ≤ n) {gf : Nat} {lb : Array Value} (hg : a.eval g = .func (.func gf) #[] lb) (hFg : F.fn gf) (eg : ∀ args w, (callFunc gf args).run P w = .ok (.enter gf args) w)
    {encs : α → Array Value} {Kp : World → World → Prop} {xs : List α} {w0 : World} (hseq : SeqL F (n - 1) P gf lb encs Kp xs w0)
    (hKt : ∀ {A B C : World}, Kp A B → Kp B C → Kp A C) (hKb : ∀ (W : World) (l : Nat) (o o' : Obj), w.heap.size ≤ l → W.heap[l]? = some o → o.isCells = false → o.isWalk = false → Kp W (W.putObj l o')) (hb0 : Below w0.heap.size w0 w) (hps : ∀ x, (encs x).size = ps.size)
    (I : Nat → World → Prop) (Ix : Code → Nat → World → Prop) (hI : OwnFrom w.heap.size I) (hIx : ∀ c, OwnFrom w.heap.size (Ix c)) (h0 : I 0 w) (a₁ : α → Act)
    (hassign : ∀ (l : Nat) (x : α) (W : World) (K : Act → World → Prop), K (a₁ x) W →
      assign.wpIn (F.inRound l) (n - 1 - 1) P (Exit.then K (fun _ _ _ => False)) { tmps := (ps.zip (encs x)).foldl (fun t (p, v) => t.setIfInBounds p v) a.tmps, defers := [] } W)
    (hbody : ∀ (l k : Nat) (x : α) (W : World), xs[k]? = some x → I k W → body.wpIn (F.inRound l) (n - 1 - 1) P (ownPostN w.heap.size Kp I Ix (k + 1) W) (a₁ x) W)
    (hdone : ∀ (D : Nat) (W : World), w.heap.size ≤ D → I xs.length W → W.heap[D]? = some (.deferred (some [])) → Q .normal { a with defers := { target := .collected D, args := #[] } :: a.defers } W)
    (hstop : ∀ (D : Nat) (c : Code) (k : Nat) (W : World), w.heap.size ≤ D → k ≤ xs.length → Ix c k W → W.heap[D]? = some (.deferred (some [])) → c.wpIn F n P Q { a with defers := { target := .collected D, args := #[] } :: a.defers } W) :
    (Code.rangeFunc g ps assign body).wpIn F n P Q a w := by
  refine wpIn_rangeFunc ?_
  intro fn hfn
  rw [hro]
  obtain ⟨rec, hrec⟩ : ∃ rec : LoopState → Option Code → Loop, rec = fun st pe => { state := st, pending := pe, fn, tmps := a.tmps, params := ps, assign, body, defers := w.heap.size } := ⟨_, rfl⟩
  obtain ⟨W1, hW1⟩ : ∃ W1, (w.alloc (.deferred (some []))).alloc (.loop (rec .ready none)) = W1 := ⟨_, rfl⟩
  have hL1 : W1.heap[w.heap.size + 1]? = some (.loop (rec .ready none)) := by
    rw [← hW1]; have := World.alloc_heap_new (w.alloc (.deferred (some []))) (.loop (rec .ready none)); rwa [World.size_alloc] at this
  have hK1 : W1.heap[w.heap.size]? = some (.deferred (some [])) := by
    rw [← hW1]; exact (Below.heap_alloc _ _ _ (by simp)).trans (World.alloc_heap_new w _)
  have hI1 : I 0 W1 := by rw [← hW1]; exact hI.alloc _ (hI.alloc _ h0)
  have hb1 : Below w0.heap.size w0 W1 := by
    rw [← hW1]; exact hb0.trans ((((Below.refl _ w).alloc (Nat.le_refl _) _).alloc (by simp) _).mono hb0.size)
  refine ⟨w.heap.size + 1, [{ target := .collected w.heap.size, args := #[] }], W1, { target := .fn (.func gf) lb, args := #[.func (.yield (w.heap.size + 1)) #[] #[]] }, W1, gf,
    #[.func (.yield (w.heap.size + 1)) #[] #[]] ++ lb, W1, ?_, ?_, ?_, ?_, fun _ => h1, ?_⟩
  · rw [← hW1, hrec]; exact run_enterLoop_outer _ _ _ _ _
  · simp only [resolve, hg]
    simp [go_sem]
  · intro f' hf'; simp [Target.leads] at hf'; subst hf'; exact hFg
  · simp [invoke, go_sem, eg]
  · -- THE ITERATOR's CONTRACT, AT THE CALLER's INVARIANT WITH THE TWO FACTS OF BOOK-KEEPING BESIDE IT
    have hnw : ∀ {A B : World} {row : Option Nat}, (∀ r, row = some r → W1.heap.size ≤ r ∧ ∃ o : Obj, A.heap[r]? = some o ∧ o.isWalk = true) → (∀ r, row = some r → w.heap.size ≤ r ∧ ∃ o : Obj, A.heap[r]? = some o ∧ o.isCells = false) :=
      fun hr r e => by obtain ⟨hB, o, ho, hw⟩ := hr r e; exact ⟨by rw [← hW1] at hB; simp at hB; omega, o, ho, Obj.not_cells_of_walk hw⟩
    refine (hseq (w.heap.size + 1)
      (fun pre W => I pre W ∧ W.heap[w.heap.size + 1]? = some (.loop (rec .ready none)) ∧ W.heap[w.heap.size]? = some (.deferred (some [])))
      (fun pre W => ∃ c, Ix c pre W ∧ W.heap[w.heap.size + 1]? = some (.loop (rec .done (some c))) ∧ W.heap[w.heap.size]? = some (.deferred (some [])))
      W1 hb1
      (fun s A B row hs hg' hr => ⟨hI s A B row hs.1 hg' (hnw (B := B) hr), (grownBy_keeps hg' (fun r e => (hr r e).2) hs.2.1 rfl).trans hs.2.1, (grownBy_keeps hg' (fun r e => (hr r e).2) hs.2.2 rfl).trans hs.2.2⟩)
      (fun s A B row hs hg' hr => by
        obtain ⟨c, hc, hl, hk⟩ := hs
        exact ⟨c, hIx c s A B row hc hg' (hnw (B := B) hr), (grownBy_keeps hg' (fun r e => (hr r e).2) hl rfl).trans hl, (grownBy_keeps hg' (fun r e => (hr r e).2) hk rfl).trans hk⟩)
      ?_ ⟨hI1, hL1, hK1⟩).mono ?_
    · -- ONE ROUND
      rintro pre x W hlen ⟨hi, hl, hk⟩
      have hlt : w.heap.size + 1 < W.heap.size := (Array.getElem?_eq_some_iff.1 hl).1
      have hy := run_yield (P := P) (args := encs x) hl (by rw [hrec]; exact hps x)
      rw [hrec] at hy
      refine ⟨fn, _, assign, body, hy, roundIn_of_wpIn hfn (hassign _ x W _ ⟨_, run_beginRound hl (by rw [hrec]), ?_⟩)⟩
      have hl2 : (W.putObj (w.heap.size + 1) (.loop { rec .ready none with state := .busy })).heap[w.heap.size + 1]? = some (.loop { rec .ready none with state := .busy }) := World.putObj_heap_same hlt
      have hk2 : (W.putObj (w.heap.size + 1) (.loop { rec .ready none with state := .busy })).heap[w.heap.size]? = some (.deferred (some [])) := (World.putObj_heap_other (by omega)).trans hk
      have hw2 : Kp W (W.putObj (w.heap.size + 1) (.loop { rec .ready none with state := .busy })) := hKb _ _ _ _ (by omega) hl rfl rfl
      refine wpIn_mono (hbody _ pre x _ hlen (hI.putObj _ hi (by omega) hl rfl)) ?_
      have fin : ∀ (jump : Option Code) (W3 : World), KeepsFrom w.heap.size (W.putObj (w.heap.size + 1) (.loop { rec .ready none with state := .busy })) W3 →
          (Instr.endRound (w.heap.size + 1) jump).run P W3 = .ok (.bool jump.isNone) (W3.putObj (w.heap.size + 1) (.loop (rec (if jump.isNone then .ready else .done) jump))) ∧
          W3.heap[w.heap.size + 1]? = some (.loop { rec .ready none with state := .busy }) ∧
          (W3.putObj (w.heap.size + 1) (.loop (rec (if jump.isNone then .ready else .done) jump))).heap[w.heap.size + 1]? = some (.loop (rec (if jump.isNone then .ready else .done) jump)) ∧
          (W3.putObj (w.heap.size + 1) (.loop (rec (if jump.isNone then .ready else .done) jump))).heap[w.heap.size]? = some (.deferred (some [])) := fun jump W3 hk3 => by
        have hl3 := hk3.same _ _ (by omega) hl2 rfl
        have := run_endRound (P := P) jump hl3
        rw [hrec] at this ⊢
        exact ⟨this, by rw [hrec] at hl3; exact hl3, World.putObj_heap_same (Array.getElem?_eq_some_iff.1 hl3).1, (World.putObj_heap_other (by omega)).trans (hk3.same _ _ (Nat.le_refl _) hk2 rfl)⟩
      rintro e a3 W3 hp
      cases e with
      | normal =>
        obtain ⟨hk3, hkp3, hi3⟩ := hp
        obtain ⟨hr, hl3, hl4, hk4⟩ := fin none W3 hk3
        exact ⟨_, _, hr, .inl ⟨rfl, ⟨hI.putObj _ hi3 (by omega) hl3 rfl, hl4, hk4⟩, hKt (hKt hw2 hkp3) (hKb _ _ _ _ (by omega) hl3 rfl rfl)⟩⟩
      | ret =>
        obtain ⟨hk3, hi3⟩ := hp
        obtain ⟨hr, hl3, hl4, hk4⟩ := fin (some .ret) W3 hk3
        exact ⟨_, _, hr, .inr ⟨rfl, .ret, (hIx _).putObj _ hi3 (by omega) hl3 rfl, hl4, hk4⟩⟩
      | exit id =>
        obtain ⟨hk3, hi3⟩ := hp
        obtain ⟨hr, hl3, hl4, hk4⟩ := fin (some (.exit id)) W3 hk3
        exact ⟨_, _, hr, .inr ⟨rfl, .exit id, (hIx _).putObj _ hi3 (by omega) hl3 rfl, hl4, hk4⟩⟩
      | goto t =>
        obtain ⟨hk3, hi3⟩ := hp
        obtain ⟨hr, hl3, hl4, hk4⟩ := fin (some (.goto t)) W3 hk3
        exact ⟨_, _, hr, .inr ⟨rfl, .goto t, (hIx _).putObj _ hi3 (by omega) hl3 rfl, hl4, hk4⟩⟩
      | panic ch => exact hp.elim
      | outgrown => exact hp.elim
    · -- BEHIND THE ITERATOR
      rintro e W2 ⟨⟨v, rfl⟩, (⟨hi, hl, hk⟩ | ⟨pre, hSp, c, hi, hl, hk⟩)⟩
      · exact ⟨none, _, by have := run_endLoop (P := P) hl (by rw [hrec]; simp); rw [hrec] at this; exact this, hdone _ _ (Nat.le_refl _) (hI.putObj _ hi (by omega) hl rfl) ((World.putObj_heap_other (by omega)).trans hk)⟩
      · exact ⟨some c, _, by have := run_endLoop (P := P) hl (by rw [hrec]; simp); rw [hrec] at this; exact this, hstop _ c pre _ (Nat.le_refl _) hSp ((hIx c).putObj _ hi (by omega) hl rfl) ((World.putObj_heap_other (by omega)).trans hk)⟩
theorem list_pushI {w : World} {t e : TypeId} {size bytes : Nat} (T : SlT P t e size bytes) {ops : Array Oper} {rest : List Oper} {o : Oper} {a : Act} {Q : Exit → Act → World → Prop} (hgd : o.guard = none) {s x : Operand}
    (ho : o.op = .call { callee := .builtin .append, args := #[s, x], argTypes := #[t, t] })
    (base : Nat) {As : Option Addr} {k cs : Nat} {xs : List Value} (hs : a.eval s = .slice As k cs) (hown : w.ownsRow base e size (.slice As k cs) k xs)
    {B : Nat} {ad : Addr} {m c : Nat} {news : List Value} (hx : a.eval x = .slice (some ad) m c) (hr : Reads w B size (some ad) m news) (hm : 0 < m) (h1 : ∀ u ∈ news, u.oneCell' = true)
    (hn : k + m ≤ 1000000) (hbase : base ≤ w.heap.size) {l : Nat} (hk : k + m = l) {ys : List Value} (hy : xs ++ news = ys)
    (h : ∀ A' c' w', w'.ownsRow base e size (.slice A' l c') l ys → w.grownBy w' (.slice As k cs : Value).ownBlock → wpListIn F n P ops Q rest (a.put o.dst (.slice A' l c')) w') : wpListIn F n P ops Q (o :: rest) a w := by
  obtain ⟨i, z, i1, i2, i3, i4, i5⟩ := T.info
  subst hk hy
  obtain ⟨ad', e1, _, hc⟩ := hr.2 hm
  cases e1
  refine wpListIn_append_own w hgd s x t ho base e i z size bytes T.under i1 i2 i3 i4 i5 T.pos _ k xs hs hown ad m c news hx hr.1 hc h1 (by simp only [maxLen]; omega) (Nat.le_trans (Nat.mul_le_mul hn T.few) (by omega)) hbase (fun v' w' a1 a2 _ => ?_)
  obtain ⟨A', c', rfl⟩ := own_formN a1
  exact h A' c' w' a1 a2
end
end Go.Proofs.YtenfkghoolegfaaGreatDoor
set_option linter.unusedVariables false
namespace Go.Proofs.YtenfkghoolegfaaGreatDoor
open Go.RowKit
attribute [local go_sem] Oper.semAt_some
/-- The k-th part. -/
def chV (a : Addr) (n k : Nat) : Value := .slice (some (a.add (238 * k))) (min 238 (n - 238 * k)) (min 238 (n - 238 * k))
def nChN (n : Nat) : Nat := (n + 237) / 238
/-- What a round keeps for the iterator: its two boxes. -/
def KeepC (Bs Bn : Nat) (A B : World) : Prop := B.cell? ⟨Bs, 0, none⟩ = A.cell? ⟨Bs, 0, none⟩ ∧ B.cell? ⟨Bn, 0, none⟩ = A.cell? ⟨Bn, 0, none⟩
set_option maxRecDepth 100000 in
set_option maxHeartbeats 2000000 in
theorem chunk1_in (n : Nat) (hn : 1 ≤ n) (l Bs Bn len cap : Nat) (a : Addr) (h1 : len ≤ 1000) (hcap : len ≤ cap) (J Jx : Nat → World → Prop)
    (hY : ∀ k x W, (List.range (nChN len))[k]? = some x → J k W → YieldAt Fence.wide (n - 1) Tryz.prog l #[chV a len x] W fun e W' => (e = .returned (.bool true) ∧ J (k + 1) W' ∧ KeepC Bs Bn W W') ∨ (e = .returned (.bool false) ∧ Jx (k + 1) W'))
    (W : World) (hJ : AbidesFrom W.heap.size J) (hBs : W.cell? ⟨Bs, 0, none⟩ = some (.slice (some a) len cap)) (hBn : W.cell? ⟨Bn, 0, none⟩ = some (.int .i64 238)) (h0 : J 0 W) :
    CallsIn Fence.wide n Tryz.prog 81 #[.func (.yield l) #[] #[], .pointer (some ⟨Bs, 0, none⟩), .pointer (some ⟨Bn, 0, none⟩)] W fun e W' => (∃ v, e = .returned v) ∧
      (J (List.range (nChN len)).length W' ∨ (∃ k, k ≤ (List.range (nChN len)).length ∧ Jx k W')) := by
  refine callsIn_of_wp Tryz.func81 rfl trivial ?_ rfl
  simp only [Tryz.ntmps81, List.size_toArray, List.length_cons, List.length_nil, Nat.reduceAdd, Nat.reduceSub, Array.replicate_succ, Array.replicate_zero, List.push_toArray, List.append_toArray, List.nil_append, List.cons_append]
  gi_wp2
  gi_loopw [4] (fun i wr => ∃ k : Nat, k ≤ nChN len ∧ i = .int .i64 ((238 * k : Nat) : Int) ∧ J k wr ∧ KeepC Bs Bn W wr)
    (fun i _ => 2000 - (intOf i).toNat)
  case atStart => exact ⟨0, Nat.zero_le _, by simp, h0, rfl, rfl⟩
  case round =>
    obtain ⟨k, hk, rfl, hJs, hk1, hk2⟩ := hrel
    have hbs := hk1.trans hBs
    have hbn := hk2.trans hBn
    obtain ⟨I, HI⟩ : ∃ I, Hid (238 * k = I) := ⟨_, Lib.hid rfl⟩
    by_cases hlt : k < nChN len
    · have hlI : 238 * k < len := by unfold nChN at hlt; omega
      obtain ⟨m, HM⟩ : ∃ m, Hid (min 238 (len - 238 * k) = m) := ⟨_, Lib.hid rfl⟩
      have hYn := fun q => hY k k (wr.drewN q) (by rw [List.getElem?_range hlt]) (hJ _ _ _ none hJs ⟨rfl, rfl, rfl, Nat.le_refl _, fun _ _ _ => rfl⟩ (fun r e => by cases e))
      unfold chV at hYn
      rw [HM.out, HI.out] at hYn
      have hm := HM.out
      rw [HI.out] at hm hlI ⊢
      have x1 : decide ((I : Int) < (len : Int)) = true := decide_eq_true (by omega)
      have x2 : decide (I < len) = true := decide_eq_true hlI
      have y0 : (0 : Int) ≤ (I : Int) := by omega
      have y1 : (I : Int) ≤ (cap : Int) := by omega
      have y2 : (I : Int) ≤ (len : Int) := by omega
      have y3 : min (238 : Int) ((len - I : Nat) : Int) = (m : Int) := by omega
      have y5 : ((I : Int) + (m : Int)).toNat = I + m := by omega
      have y6 : IntKind.i64.wrap ((I : Int) + (m : Int)) = (I : Int) + (m : Int) := by rw [IntKind.wrap_i64]; omega
      have y7 : (I : Int) ≤ (I : Int) + (m : Int) := by omega
      have y8 : (I : Int) + (m : Int) ≤ (cap : Int) := by omega
      have y9 : (0 : Int) ≤ (I : Int) + (m : Int) := by omega
      have y10 : I + m - I = m := by omega
      have HH := Lib.hid hm
      clear hm
      gi_wp2
      gi_quiet_th (fail)
      obtain ⟨fn, tmps, assign, body, hy, hR⟩ := hYn nq
      have hbs2 : (wr.drewN nq).cell? ⟨Bs, 0, none⟩ = some (.slice (some a) len cap) := hbs
      have hbn2 : (wr.drewN nq).cell? ⟨Bn, 0, none⟩ = some (.int .i64 238) := hbn
      obtain ⟨wq, hwq⟩ : ∃ wq, wq = wr.drewN nq := ⟨_, rfl⟩
      have hkq : KeepC Bs Bn wr wq := by rw [hwq]; exact ⟨rfl, rfl⟩
      rw [← hwq] at hy hR hbs2 hbn2 ⊢
      clear hwq hYn
      gi_wp2
      refine hR.mono ?_
      rintro e W3 (⟨rfl, hJ3, hk3⟩ | ⟨rfl, hJx3⟩)
      · have hbn3 : W3.cell? ⟨Bn, 0, none⟩ = some (.int .i64 238) := hk3.2.trans hbn2
        gi_wp2
        go_roundw
        case rel => exact ⟨k + 1, by omega, by rw [← HI.out]; first | (congr 1; omega) | go_num, hJ3, hk3.1.trans (hkq.1.trans hk1), hk3.2.trans (hkq.2.trans hk2)⟩
        case measure => have := HI.out; first | (simp [intOf]; done) | (simp [intOf]; omega)
      · gi_wp2
        refine bodyPost_ret (results_none rfl _ _ _) rfl ?_
        exact ⟨⟨_, rfl⟩, .inr ⟨k + 1, by rw [List.length_range]; omega, hJx3⟩⟩
    · obtain rfl : k = nChN len := by omega
      have hIl : len ≤ I := by have := HI.out; unfold nChN at this; omega
      rw [HI.out]
      have x1 : decide ((I : Int) < (len : Int)) = false := decide_eq_false (by omega)
      have x2 : decide (I < len) = false := decide_eq_false (by omega)
      gi_wp2
      go_end0
      exact ⟨⟨_, rfl⟩, .inl (by rw [List.length_range]; exact hJs)⟩
theorem chunk_seq (n : Nat) (hn : 1 ≤ n) (Bs Bn len cap : Nat) (a : Addr) (h1 : len ≤ 1000) (hcap : len ≤ cap) (w : World) (hl1 : Bs < w.heap.size) (hl2 : Bn < w.heap.size) (hBs : w.cell? ⟨Bs, 0, none⟩ = some (.slice (some a) len cap)) (hBn : w.cell? ⟨Bn, 0, none⟩ = some (.int .i64 238)) :
    SeqL Fence.wide n Tryz.prog 81 #[.pointer (some ⟨Bs, 0, none⟩), .pointer (some ⟨Bn, 0, none⟩)] (fun k : Nat => #[chV a len k]) (KeepC Bs Bn) (List.range (nChN len)) w := fun l J Jx W hW hJ _ hY h0 =>
  chunk1_in n hn l Bs Bn len cap a h1 hcap J Jx hY W hJ ((hW.cell (p := ⟨Bs, 0, none⟩) hl1).trans hBs) ((hW.cell (p := ⟨Bn, 0, none⟩) hl2).trans hBn) h0
theorem keepC_t {Bs Bn : Nat} {A B C : World} (h : KeepC Bs Bn A B) (h2 : KeepC Bs Bn B C) : KeepC Bs Bn A C := ⟨h2.1.trans h.1, h2.2.trans h.2⟩
theorem chunk_go (A : Option Addr) (n c : Nat) (w : World) : Calls Tryz.prog 46 #[.slice A n c, .int .i64 238] w fun e w' => e = .returned (.func (.func 81) #[] #[.pointer (some ⟨w.heap.size, 0, none⟩), .pointer (some ⟨w.heap.size + 1, 0, none⟩)]) ∧ w' = (w.alloc (.cells #[.slice A n c] 23)).alloc (.cells #[.int .i64 238] 3) := by
  go_enter Tryz.func46, Tryz.ntmps46
  go_wp2
  go_ret
  exact ⟨rfl, rfl⟩
end Go.Proofs.YtenfkghoolegfaaGreatDoor
set_option linter.unusedVariables false
namespace Go.Proofs.YtenfkghoolegfaaGreatDoor
open Go.RowKit
theorem kind_seal {lsn : Nat} {k : Nat} {body : List UInt8} (hk : 1 ≤ k ∧ k ≤ 5) (hl : lsn < 18446744073709551616) (hb : body.length = 243) : kindB (sealB k lsn body) = k := (open_seal hk hl hb).2.1
theorem ReadC_free {lsn nx : Nat} (hl : lsn < 18446744073709551616) : openE (putP (freePg lsn nx)) = 0 → ReadC (kindB (putP (freePg lsn nx))) (lsnB (putP (freePg lsn nx))) (restB (putP (freePg lsn nx))) := by
  intro _
  have hk : kindB (putP (freePg lsn nx)) = 5 := by
    have hb := body_len (freePg_put lsn nx)
    exact kind_seal (k := 5) (by omega) hl hb
  rw [hk]
  exact ReadC_5 _ _
theorem alloc_once {Y : Nat → Prop} {w : World} {T M : Nat} {t : PT} {o b : List Nat} (h : TX Y w T M t) (ho : Once t o b) (hs : o.length + b.length < 500) :
    ∃ n t1, n ∉ o ∧ (b ≠ [] → b = b.dropLast ++ [n]) ∧ n < 4294967296 ∧ t1.OK ∧ putE' t1 n (overPg 0 0 [1]) = 0 ∧ Once (putT t1 n (overPg 0 0 [1])) (o ++ [n]) b.dropLast ∧
      Calls Tryz.prog 17 #[.pointer (some ⟨T, 0, none⟩)] w fun e w' => e = .returned (.tuple #[.int .u32 (n : Nat), .nilIface]) ∧ TX (moreX Y w) w' T M t1 ∧ Fr Y w w' := by
  obtain ⟨n, t1, ha, hok, hno, hbk, hn, hp, hon⟩ := once_alloc ho hs
  refine ⟨n, t1, hno, hbk, hn, hok, hp, hon, ?_⟩
  have h0 := ho.ok.head
  rcases Nat.eq_zero_or_pos t.free with hf | hf
  · have e : allocT t = (0, t.pages, { t with pages := t.pages + 1, changed := true }) := by
      unfold allocT
      rw [if_neg (by simp [hf]), if_neg (by have := ho.pages; omega)]
    rw [e] at ha
    cases ha
    exact (Alloc_new h hf (by have := ho.pages; omega)).mono fun e w' ⟨he, hT, hF⟩ => ⟨he, hT.mono fun k hk => .inl hk, hF⟩
  · have hc := ho.chain
    cases hb : b.reverse with
    | nil => rw [hb] at hc; exact absurd hc (by show ¬ t.free = 0; omega)
    | cons c r =>
      rw [hb] at hc
      obtain ⟨h1, h2, h3, nx, h4, h5, h6⟩ := hc
      have hg := (get_putND (freePg_put t.lsn nx) (freePg_fit ho.ok.lsn (by omega))).1
      rw [← h1] at h4 h3
      have hnt : nodeT t t.free = .ok (freePg t.lsn nx) := by
        unfold nodeT pageT
        rw [if_neg (by omega), h4]
        exact hg
      have e : allocT t = (0, t.free, { t with free := nx, changed := true }) := by
        unfold allocT
        rw [if_pos (by omega), hnt]
        simp only
        rw [if_neg (by rw [show (freePg t.lsn nx).kind = 5 from rfl, show (freePg t.lsn nx).next = nx from rfl]; omega)]
        rfl
      rw [e] at ha
      cases ha
      exact Alloc_reuse h (by omega) _ h3 h4 (ReadC_free ho.ok.lsn) hg rfl h5
def oneX (g : Nat) : NX := ⟨4, 0, none, 0, [], 0, some ⟨g, 0, none⟩, 1, [1], 0, 0, 0, 0⟩
theorem put_once {Y : Nat → Prop} {w : World} {T M : Nat} {t : PT} (h : TX Y w T M t) (ok : t.OK) (n : Nat) (hn : n < 4294967296) (hp : putE' t n (overPg 0 0 [1]) = 0) (htab : PowAt w) (hY : ¬ Y 1) {g : Nat} (hr : Reads w w.heap.size 1 (some ⟨g, 0, none⟩) 1 (bl [1])) :
    Calls Tryz.prog 19 #[.pointer (some ⟨T, 0, none⟩), .int .u32 (n : Nat), (oneX g).val] w fun e w' => e = .returned .nilIface ∧ TX (moreX Y w) w' T M (putT t n (overPg 0 0 [1])) ∧ Fr Y w w' := by
  have hi : isPageT t n = 0 := by
    unfold putE' at hp
    by_cases h : isPageT t n = 0
    · exact h
    · rw [if_pos h] at hp; cases hp
  have hL : layE t (overPg 0 0 [1]) = 0 := by
    unfold putE' at hp
    rw [if_neg (by rw [hi]; simp)] at hp
    exact hp
  have hx : NodeAt w w.heap.size (oneX g) := ⟨⟨.inl rfl, fun y hy => (by cases hy), fun y hy => (by cases hy)⟩, hr, fun y hy => (by cases hy), (by decide : 0 ≤ 3000000), (by decide : 1 ≤ 3000000)⟩
  exact Put_ok h n hn (oneX g) hx (overPg_fit (next := 0) (d := [1]) ok.lsn (by decide)) hi hL htab hY
theorem free_once {Y : Nat → Prop} {w : World} {T M : Nat} {t : PT} {o b : List Nat} (h : TX Y w T M t) (ho : Once t o b) {k n : Nat} (hk : o[k]? = some n) (htab : PowAt w) (hY : ¬ Y 1) :
    n < 4294967296 ∧ ∃ t1, Once t1 (o.take k ++ o.drop (k + 1)) (b ++ [n]) ∧ Calls Tryz.prog 20 #[.pointer (some ⟨T, 0, none⟩), .int .u32 (n : Nat)] w fun e w' => e = .returned .nilIface ∧ TX (moreX Y w) w' T M t1 ∧ Fr Y w w' := by
  obtain ⟨t1, hf, hok, hon⟩ := once_free ho hk
  have h0 := ho.ok.head
  have hn := ho.bound n (by rw [List.mem_append]; exact .inl (List.mem_of_getElem? hk))
  have hi : isPageT t n = 0 := by unfold isPageT; rw [if_neg (by omega)]
  refine ⟨by omega, t1, hon, ?_⟩
  have := Free_ok h ho.ok n (by omega) hi htab hY
  rw [hf] at this
  exact this
end Go.Proofs.YtenfkghoolegfaaGreatDoor
set_option linter.unusedVariables false
namespace Go.Proofs.YtenfkghoolegfaaGreatDoor
open Go.RowKit
theorem isSize_any (n : Int) (w : World) : Calls Tryz.prog 44 #[.int .i64 n] w fun e w' => e = .returned (.bool (decide (1 ≤ n) && decide (n ≤ 1000))) ∧ w' = w := by
  by_cases h : 1 ≤ n
  · have d1 : decide (1 ≤ n) = true := decide_eq_true h
    go_enter Tryz.func44, Tryz.ntmps44
    go_wp2
    go_ret
    exact ⟨by simp [h], rfl⟩
  · have d1 : decide (1 ≤ n) = false := decide_eq_false h
    go_enter Tryz.func44, Tryz.ntmps44
    go_wp2
    go_ret
    exact ⟨by simp, rfl⟩
theorem ReadC_over {lsn nx : Nat} {d : List UInt8} (hl : lsn < 18446744073709551616) (hd : 1 ≤ d.length ∧ d.length ≤ 238) : openE (putP (overPg lsn nx d)) = 0 → ReadC (kindB (putP (overPg lsn nx d))) (lsnB (putP (overPg lsn nx d))) (restB (putP (overPg lsn nx d))) := by
  intro _
  have hk : kindB (putP (overPg lsn nx d)) = 4 := by
    have hb := body_len (overPg_put (lsn := lsn) (next := nx) hd)
    exact kind_seal (k := 4) (by omega) hl hb
  rw [hk]
  exact ReadC_4 _ _
set_option maxHeartbeats 2000000 in
set_option maxRecDepth 1000000 in
theorem Node_over {X : Nat → Prop} {w : World} {T M : Nat} {t : PT} (h : TX X w T M t) (htab : PowAt w) (n : Nat) (hn32 : n < 4294967296) (b : List UInt8) (hn : n < t.pages) (hl : lookO n t.over = some b) (hR : openE b = 0 → ReadC (kindB b) (lsnB b) (restB b)) {x : PN} (hg : getP b = .ok x) :
    Calls Tryz.prog 62 #[.pointer (some ⟨T, 0, none⟩), .int .u32 (n : Nat)] w fun e w' => ∃ y : NX, y.n = x ∧ e = .returned (.tuple #[y.val, .nilIface]) ∧ NodeAt w' w'.heap.size y ∧ NodeLo w.heap.size y ∧ Below w.heap.size w w' := by
  obtain ⟨w1, hw1⟩ : ∃ w1, w1 = w.alloc (.cells zeroCs 52) := ⟨_, rfl⟩
  have hb1 : Below w.heap.size w w1 := by rw [hw1]; exact (Below.refl _ w).alloc (Nat.le_refl _) _
  have hN1 : Blk w1 w.heap.size 52 zeroCs := by rw [hw1]; exact Blk.new _ _ _
  have hN := node_over (h.keep (KeepX.of_below hb1)) n b hn hl hR hg
  have hF := fun op nm W => fault_any op nm 0 W
  have hD := fun W hW => digits_any n hn32 W hW
  unfold zeroCs at hw1 hN1
  have HW1 := Lib.hid hw1
  have HN1 := Lib.hid hN1
  clear hR hg h hl hw1 hN1
  go_enter Tryz.func62, Tryz.ntmps62
  go_wp2_with (first
    | (rw [← HW1.out]; go_at_call 84; refine hN.mono ?_; rintro e w2 ⟨y, hy, rfl, hya, hylo, hb2⟩; have ht2 := powBelow htab (hb1.trans (hb2.mono hb1.size)); obtain ⟨w3, hw3⟩ : ∃ w3, w3 = w2.alloc (.cells y.cells 52) := ⟨_, rfl⟩; have hb3 : Below w2.heap.size w2 w3 := (by rw [hw3]; exact (Below.refl _ w2).alloc (Nat.le_refl _) _); have hN3 : Blk w3 w2.heap.size 52 y.cells := (by rw [hw3]; exact Blk.new _ _ _); have ht3 := powBelow ht2 hb3; unfold NX.val nodeV; unfold NX.cells at hw3 hN3; have HW3 := Lib.hid hw3; clear hw3))
  have hN1w : Blk w3 w.heap.size 52 #[.int .i64 0, .int .u64 0, .slice none 0 0, .int .u32 0, .slice none 0 0, .int .u32 0, .int .u32 0, .int .u32 0, .int .u64 0] := (HN1.out.below hb2 HN1.out.lt).below hb3 (Nat.lt_of_lt_of_le HN1.out.lt hb2.size)
  rw [← HW3.out]
  have H31 := Lib.hid hN1w
  clear hN1w
  refine regionE 5 (fun W => Blk W w2.heap.size 52 #[.int .i64 y.kind, .int .u64 (y.lsn : Nat), .slice y.ca y.l.length y.cc, .int .u32 (y.next : Nat), .slice y.da y.data.length y.dc, .int .u32 (y.root : Nat), .int .u32 (y.pages : Nat), .int .u32 (y.free : Nat), .int .u64 (y.entries : Nat)]) (by kernel_rfl) (by kernel_rfl) (by kernel_rfl) (by kernel_rfl) (by kernel_rfl) (hN3) (fun hHeld hTl => ?_)
  refine takeE 0 (v := .agg #[.int .i64 y.kind, .int .u64 (y.lsn : Nat), .slice y.ca y.l.length y.cc, .int .u32 (y.next : Nat), .slice y.da y.data.length y.dc, .int .u32 (y.root : Nat), .int .u32 (y.pages : Nat), .int .u32 (y.free : Nat), .int .u64 (y.entries : Nat)]) hTl rfl (by decide) (by kernel_rfl) (by kernel_rfl) (fun _ _ _ h => h) hHeld (Or.inl ⟨by rfl, ?_⟩) (fun hTl => ?_)
  · intro W hSw
    have hsw : Blk W w2.heap.size 52 #[.int .i64 y.kind, .int .u64 (y.lsn : Nat), .slice y.ca y.l.length y.cc, .int .u32 (y.next : Nat), .slice y.da y.data.length y.dc, .int .u32 (y.root : Nat), .int .u32 (y.pages : Nat), .int .u32 (y.free : Nat), .int .u64 (y.entries : Nat)] := hSw
    have c0 : W.cell? ⟨w2.heap.size, 0, none⟩ = some (.int .i64 y.kind) := hsw.cell 0
    have c1 : W.cell? ⟨w2.heap.size, 1, none⟩ = some (.int .u64 (y.lsn : Nat)) := hsw.cell 1
    have c2 : W.cell? ⟨w2.heap.size, 2, none⟩ = some (.slice y.ca y.l.length y.cc) := hsw.cell 2
    have c3 : W.cell? ⟨w2.heap.size, 3, none⟩ = some (.int .u32 (y.next : Nat)) := hsw.cell 3
    have c4 : W.cell? ⟨w2.heap.size, 4, none⟩ = some (.slice y.da y.data.length y.dc) := hsw.cell 4
    have c5 : W.cell? ⟨w2.heap.size, 5, none⟩ = some (.int .u32 (y.root : Nat)) := hsw.cell 5
    have c6 : W.cell? ⟨w2.heap.size, 6, none⟩ = some (.int .u32 (y.pages : Nat)) := hsw.cell 6
    have c7 : W.cell? ⟨w2.heap.size, 7, none⟩ = some (.int .u32 (y.free : Nat)) := hsw.cell 7
    have c8 : W.cell? ⟨w2.heap.size, 8, none⟩ = some (.int .u64 (y.entries : Nat)) := hsw.cell 8
    go_simp
  try simp only [Act.put, List.setIfInBounds_toArray, List.set_cons_zero, List.set_cons_succ]
  refine takeE 1 (v := ?_) hTl rfl (by decide) (by kernel_rfl) (by kernel_rfl) (fun _ _ _ h => h) hHeld (Or.inl ⟨by rfl, ?_⟩) (fun hTl => ?_)
  rotate_left
  · intro w hSw; (try dsimp only at hSw); go_simp
    all_goals with_reducible rfl
  try simp only [Act.put, List.setIfInBounds_toArray, List.set_cons_zero, List.set_cons_succ]
  refine takeE 3 (v := ?_) hTl rfl (by decide) (by kernel_rfl) (by kernel_rfl) (fun _ _ _ h => h) hHeld (Or.inl ⟨by rfl, ?_⟩) (fun hTl => ?_)
  rotate_left
  · intro w hSw; (try dsimp only at hSw); go_simp
    all_goals with_reducible rfl
  try simp only [Act.put, List.setIfInBounds_toArray, List.set_cons_zero, List.set_cons_succ]
  have hTl2 := hTl.step 2 (by kernel_rfl) (by decide)
  clear hTl
  refine oneE 2 rfl (by kernel_rfl) (fun K hK => ?_)
  refine step_callC rfl 54 _ (by go_simp) (hD _ ht3) ?_
  rintro e w4 ⟨rfl, hb4⟩; refine ⟨_, rfl, ?_⟩; have hN4 := Blk.below (show Blk w3.drew w2.heap.size 52 #[.int .i64 y.kind, .int .u64 (y.lsn : Nat), .slice y.ca y.l.length y.cc, .int .u32 (y.next : Nat), .slice y.da y.data.length y.dc, .int .u32 (y.root : Nat), .int .u32 (y.pages : Nat), .int .u32 (y.free : Nat), .int .u64 (y.entries : Nat)] from hN3) hb4 (show w2.heap.size < w3.heap.size by have := hN3.lt; omega)
  refine hK.out _ _ (fun _ => hN4) ?_
  clear hK K
  try simp only [Act.put, List.setIfInBounds_toArray, List.set_cons_zero, List.set_cons_succ]
  have hTl := hTl2
  clear hTl2
  refine oneE 4 rfl (by kernel_rfl) (fun K hK => ?_)
  refine step_callC rfl 51 _ (by go_simp) (hF ⟨#[112, 97, 103, 101]⟩ ⟨(Lib.decDigits n).toArray⟩ _) ?_
  rintro e w5 ⟨v, rfl, hv, hb5⟩; have hv := hv.nil; subst hv; refine ⟨_, rfl, ?_⟩; have hN5 := hN4.below hb5 hN4.lt; have hN15 := (Blk.below (show Blk w3.drew w.heap.size 52 #[.int .i64 0, .int .u64 0, .slice none 0 0, .int .u32 0, .slice none 0 0, .int .u32 0, .int .u32 0, .int .u32 0, .int .u64 0] from H31.out) hb4 (show w.heap.size < w3.heap.size from H31.out.lt)).below hb5 (Nat.lt_of_lt_of_le H31.out.lt hb4.size)
  refine hK.out _ _ (fun _ => hN5) ?_
  clear hK K
  try simp only [Act.put, List.setIfInBounds_toArray, List.set_cons_zero, List.set_cons_succ]
  refine oneE 5 rfl (by kernel_rfl) (fun K hK => ?_)
  refine step_storeRow rfl 52 (.tmp 4) (.tmp 14) rfl w.heap.size _ rfl rfl 52 _ hN15 (by kernel_rfl) rfl (by simp [Value.oneCell']) ?_
  skip
  refine hK.out _ _ (fun h => absurd h (by decide)) ?_
  clear hK K
  try simp only [Act.put, List.setIfInBounds_toArray, List.set_cons_zero, List.set_cons_succ]
  refine oneE 6 rfl (by kernel_rfl) (fun K hK => ?_)
  go_simp
  refine hK.out _ _ (fun h => absurd h (by decide)) ?_
  clear hK K
  try simp only [Act.put, List.setIfInBounds_toArray, List.set_cons_zero, List.set_cons_succ]
  refine doneE (by kernel_rfl) ?_ _
  go_wp2
  refine bodyPost_ret (results_cell_tmp rfl _ _ w.heap.size 52 _ (0, 0) _ rfl (setRow_heap _ _ _ _ _ _ hN15) Tryz.underlying52 rfl (by kernel_rfl)) rfl ?_
  have hb45 : Below w3.heap.size w3 w5 := (show Below w3.heap.size w3 w4 from ⟨hb4.os, hb4.tape, hb4.output, hb4.size, hb4.block⟩).trans (hb5.mono hb4.size)
  have hb25 := hb3.trans (hb45.mono hb3.size)
  have hb15 := hb1.trans ((hb2.trans (hb25.mono hb2.size)).mono hb1.size)
  have hlt : w.heap.size < w1.heap.size := HN1.out.lt
  refine ⟨y, hy, rfl, ?_, hylo.mono hb1.size, hb15.trans ((fr_setRow _ w.heap.size _).below (B := w.heap.size) hb15.size (fun k hk => by omega))⟩
  rw [size_setRow]
  exact ((hya.below hb25).mono hb25.size).fr (fr_setRow _ _ _) (Nat.le_refl _) hylo (fun k hk => by omega)
/-- What a visit does: its own memory holds what was visited. -/
structure VisitOK (B0 : Nat) (fV : Nat) (lb : Array Value) (V : List (Nat × List UInt8) → World → Prop) : Prop where
  eg : ∀ args w, (callFunc fV args).run Tryz.prog w = .ok (.enter fV args) w
  step : ∀ (pre : List (Nat × List UInt8)) (W0 W : World) (n : Nat) (d : List UInt8) (A : Option Addr) (c : Nat), V pre W0 → Below W0.heap.size W0 W → B0 ≤ W0.heap.size → n < 4294967296 → Reads W W.heap.size 1 A d.length (bl d) → d.length ≤ 238 → pre.length < 5 →
    Calls Tryz.prog fV (#[.int .u32 (n : Nat), .slice A d.length c] ++ lb) W fun e W' => e = .returned (.tuple #[]) ∧ V (pre ++ [(n, d)]) W' ∧ Below B0 W W' ∧ ∀ k, W0.heap.size ≤ k → k < W.heap.size → W'.heap[k]? = W.heap[k]?
  keep : ∀ pre W W', V pre W → Below W.heap.size W W' → V pre W'
set_option maxHeartbeats 4000000 in
set_option maxRecDepth 1000000 in
theorem walk_size (T : Nat) (n : Nat) (s : Int) (f : Value) (hs : s < 1 ∨ 1000 < s) (w : World) :
    Calls Tryz.prog 47 #[.pointer (some ⟨T, 0, none⟩), .int .u32 (n : Nat), .int .i64 s, f] w fun e w' => e = .returned (.iface 80 (.int .i64 2)) ∧ w' = w := by
  have hS := fun W => isSize_any s W
  rw [show (decide (1 ≤ s) && decide (s ≤ 1000)) = false by simp; omega] at hS
  go_enter Tryz.func47, Tryz.ntmps47
  go_wp2_with (go_at_call 44; refine (hS _).mono ?_; rintro e w2 ⟨rfl, h2⟩; have h2 := h2.symm; subst h2)
  go_ret
  exact ⟨rfl, rfl⟩
/-- What walk has found. -/
def WalkR (V : List (Nat × List UInt8) → World → Prop) (r : Except Int (List Nat × List UInt8)) (e : Ending) (w' : World) : Prop := match r with
  | .ok r => e = .returned .nilIface ∧ ∃ vis : List (Nat × List UInt8), vis.map (·.1) = r.1 ∧ vis.flatMap (·.2) = r.2 ∧ V vis w'
  | .error k => e = .returned (.iface 80 (.int .i64 k)) ∧ ∃ vis, V vis w'
/-- Behind some pages: what is left decides. -/
def contR (vis : List (Nat × List UInt8)) (r : Except Int (List Nat × List UInt8)) : Except Int (List Nat × List UInt8) := match r with
  | .ok r => .ok (vis.map (·.1) ++ r.1, vis.flatMap (·.2) ++ r.2)
  | .error k => .error k
set_option maxHeartbeats 4000000 in
set_option maxRecDepth 1000000 in
theorem walk_laidM {B0 : Nat} {X : Nat → Prop} {w : World} {T M : Nat} {t : PT} (h : TX X w T M t) (ok : t.OK) (htab : PowAt w) {fV : Nat} {lb : Array Value} {V : List (Nat × List UInt8) → World → Prop} (hV : VisitOK B0 fV lb V) (hv0 : V [] w) (hB0 : B0 ≤ w.heap.size) (hX : ∀ k, X k → k < B0) (h1B : 1 < B0)
    (ps : List Nat) (v : List UInt8) (hL : LaidC t.lsn t.over ps v) (hne : ps ≠ []) (hps : ∀ p ∈ ps, p < t.pages) (hlen : ps.length ≤ 5) (p0 : Nat) (hp0 : ps.headD 0 = p0) (s : Nat) (hs : 1 ≤ s ∧ s ≤ 1000) :
    Calls Tryz.prog 47 #[.pointer (some ⟨T, 0, none⟩), .int .u32 (p0 : Nat), .int .i64 s, .func (.func fV) #[] lb] w fun e w' => WalkR V (walkT t 5 p0 s) e w' ∧ Below B0 w w' := by
  have HP0 := Lib.hid hp0
  clear hp0
  have hS := fun W => isSize_any (s : Int) W
  rw [show (decide (1 ≤ (s : Int)) && decide ((s : Int) ≤ 1000)) = true by simp; omega] at hS
  go_enter Tryz.func47, Tryz.ntmps47
  go_wp2_with (go_at_call 44; refine (hS _).mono ?_; rintro e w2 ⟨rfl, h2⟩; have h2 := h2.symm; subst h2)
  go_loopw [9, 10] (fun a l wr => ∃ (rest : List Nat) (vr : List UInt8) (vis : List (Nat × List UInt8)) (f left q : Nat), a = .int .u32 (q : Nat) ∧ rest.headD 0 = q ∧ l = .int .i64 left ∧ LaidC t.lsn t.over rest vr ∧ (∀ p ∈ rest, p < t.pages) ∧ rest.length ≤ f ∧ vis.length + f = 5 ∧ left ≤ 1000 ∧ (left = 0 ∨ rest ≠ []) ∧ V vis wr ∧
      walkT t 5 p0 s = contR vis (walkT t f q left) ∧ Below B0 w wr) (fun _ l _ => (intOf l).toNat)
  case atStart => exact ⟨ps, v, [], 5, s, p0, rfl, HP0.out, rfl, hL, hps, hlen, rfl, hs.2, .inr hne, hv0, by unfold contR; cases walkT t 5 p0 s <;> simp, Below.refl _ _⟩
  case round =>
    obtain ⟨rest, vr, vis, f, left, q, rfl, hq, rfl, hLr, hpr, hlf, hvf, hl1, hnr, hVr, hR, hbr⟩ := hrel
    obtain ⟨wo, rfl⟩ : ∃ wo, wo = wr := ⟨wr, rfl⟩
    have hKX : KeepX X w wo := ⟨hbr.size, fun k hk hl => hbr.block k (hX k hk)⟩
    have hTo := h.keep hKX
    have hto : PowAt wo := htab.of fun hl => hbr.block 1 h1B
    have HBR := Lib.hid hbr
    clear hbr hKX
    rcases Nat.eq_zero_or_pos left with hl0 | hl0
    · subst hl0
      have z0 : ((0 : Nat) : Int) = 0 := rfl
      have hw0 : walkT t f q 0 = .ok ([], []) := by cases f <;> rfl
      rw [hw0] at hR
      go_wp2
      go_ret
      exact ⟨⟨rfl, vis, by simp, by simp, hVr⟩, HBR.out⟩
    · have d1 : decide ((0 : Int) < (left : Int)) = true := decide_eq_true (by omega)
      have d2 : decide (0 < left) = true := decide_eq_true hl0
      obtain ⟨p, ps', rfl⟩ : ∃ p r, rest = p :: r := by
        cases rest with
        | nil => rcases hnr with h0 | h0; omega; exact absurd rfl h0
        | cons p r => exact ⟨p, r, rfl⟩
      obtain ⟨hv1, hp2, hp3, hlk, hLr2⟩ := hLr
      obtain ⟨g, rfl⟩ : ∃ g, f = g + 1 := ⟨f - 1, by simp at hlf; omega⟩
      have hpp := hpr p (by simp)
      have hvl := List.length_pos_iff.2 hv1
      have hdl : 1 ≤ (vr.take 238).length ∧ (vr.take 238).length ≤ 238 := by rw [List.length_take]; omega
      have hnx : ps'.headD 0 < 4294967296 := by
        cases ps' with
        | nil => decide
        | cons q r => have := (LaidC.two hLr2 q (by simp)).2; show q < _; omega
      have hnz : ps'.headD 0 ≠ 0 → ps' ≠ [] := by rintro h1 rfl; exact h1 rfl
      have hg := (get_putND (overPg_put (lsn := t.lsn) (next := ps'.headD 0) (d := vr.take 238) hdl) (overPg_fit ok.lsn hnx)).1
      have hnT : nodeT t p = .ok (overPg t.lsn (ps'.headD 0) (vr.take 238)) := by
        unfold nodeT pageT
        rw [if_neg (by omega), hlk]
        exact hg
      have hNo := Node_over hTo hto p (by omega) _ hpp hlk (ReadC_over ok.lsn hdl) hg
      obtain ⟨nx, HNX⟩ : ∃ nx, Hid (ps'.headD 0 = nx) := ⟨_, Lib.hid rfl⟩
      obtain ⟨d, HD⟩ : ∃ d, Hid (vr.take 238 = d) := ⟨_, Lib.hid rfl⟩
      obtain ⟨m, HM⟩ : ∃ m, Hid (min 238 left = m) := ⟨_, Lib.hid rfl⟩
      rw [HNX.out, HD.out] at hNo hnT
      rw [HD.out] at hdl
      rw [HNX.out] at hnx hnz
      have hwk : walkT t (g + 1) p left = if d.length ≠ m ∨ ¬ (nx = 0 ↔ left - m = 0) then .error 100 else match walkT t g nx (left - m) with
        | .error e => .error e
        | .ok r => .ok (p :: r.1, d ++ r.2) := by
        show (if left = 0 then _ else _) = _
        rw [if_neg (by omega), hnT]
        simp only
        rw [HM.out]
        by_cases hc : d.length ≠ m ∨ ¬ (nx = 0 ↔ left - m = 0)
        · rw [if_pos hc, if_pos (.inr hc)]
        · rw [if_neg hc, if_neg (by rintro (h1 | h1); exact h1 rfl; exact hc h1)]
          rfl
      obtain rfl : p = q := hq
      rw [hwk] at hR
      have HR := Lib.hid hR
      have HH := Lib.hid (And.intro hLr2 (And.intro hpr (And.intro hlf (And.intro hvf (And.intro hnz hVr)))))
      have hm1 : m ≤ left := by have := HM.out; omega
      have hm2 : 1 ≤ m := by have := HM.out; omega
      have e0 : min (238 : Int) (left : Int) = (m : Int) := by have := HM.out; omega
      have e1 : IntKind.i64.wrap ((left : Int) - (m : Int)) = ((left - m : Nat) : Int) := by rw [IntKind.wrap_i64]; omega
      have e2 : (left : Int) - (m : Int) = ((left - m : Nat) : Int) := by omega
      clear hR hwk hLr2 hpr hlf hvf hnz hVr hlk hg hnT hnr hTo
      have HNo := Lib.hid hNo
      clear hNo
      have hcase : (((d.length : Int) != (m : Int)) = true ∧ Hid (d.length ≠ m)) ∨ (((d.length : Int) != (m : Int)) = false ∧ Hid (d.length = m) ∧ ∃ b1 b2, ((nx : Int) == 0) = b1 ∧ (((left - m : Nat) : Int) == 0) = b2 ∧ Hid (b1 = decide (nx = 0)) ∧ Hid (b2 = decide (left - m = 0))) := by
        by_cases q1 : d.length = m
        · refine .inr ⟨by rw [q1]; simp, Lib.hid q1, _, _, rfl, rfl, Lib.hid ?_, Lib.hid ?_⟩
          · by_cases q2 : nx = 0 <;> simp [q2]
          · by_cases q2 : left - m = 0
            · rw [q2]; rfl
            · simp only [q2, decide_false]; exact beq_eq_false_iff_ne.2 (by omega)
        · exact .inl ⟨bne_iff_ne.2 (by omega), Lib.hid q1⟩
      have hVk := hV.keep
      have eg := hV.eg
      rcases hcase with ⟨c1, HC⟩ | ⟨c1, HC, b1, b2, c2, c3, HC2, HC3⟩
      · go_wp2_with (go_at_call 62; refine HNo.out.mono ?_; rintro e w2 ⟨y, hy, rfl, hya, hylo, hb2⟩; unfold NX.val nodeV; have hyk : y.kind = 4 := (by have h9 := congrArg PN.kind hy; exact h9); have hyn : y.next = nx := (by have h9 := congrArg PN.next hy; exact h9); have hyd : y.data = d := (by have h9 := congrArg PN.data hy; exact h9))
        go_ret
        have hbw := fun o => hb2.alloc hb2.size o
        exact ⟨by rw [HR.out, if_pos (.inl HC.out)]; exact ⟨rfl, vis, hVk _ _ _ HH.out.2.2.2.2.2 (hbw _)⟩, HBR.out.trans ((hbw _).mono (Nat.le_trans hB0 HBR.out.size))⟩
      · have hiff : (nx = 0 ↔ left - m = 0) ↔ b1 = b2 := by
          rw [HC2.out, HC3.out]
          by_cases q2 : nx = 0 <;> by_cases q3 : left - m = 0 <;> simp [q2, q3]
        have HI := Lib.hid hiff
        clear hiff
        cases b1 <;> cases b2
        · go_wp2_with (go_at_call 62; refine HNo.out.mono ?_; rintro e w2 ⟨y, hy, rfl, hya, hylo, hb2⟩; unfold NX.val nodeV; have hyk : y.kind = 4 := (by have h9 := congrArg PN.kind hy; exact h9); have hyn : y.next = nx := (by have h9 := congrArg PN.next hy; exact h9); have hyd : y.data = d := (by have h9 := congrArg PN.data hy; exact h9))
          obtain ⟨w3, hw3⟩ : ∃ w3, w3 = w2.alloc (.cells #[.int .i64 4, .int .u64 (y.lsn : Nat), .slice y.ca y.l.length y.cc, .int .u32 (nx : Nat), .slice y.da d.length y.dc, .int .u32 (y.root : Nat), .int .u32 (y.pages : Nat), .int .u32 (y.free : Nat), .int .u64 (y.entries : Nat)] 52) := ⟨_, rfl⟩
          have hb3 : Below wo.heap.size wo w3 := by rw [hw3]; exact hb2.alloc hb2.size _
          have hN3 : Blk w3 w2.heap.size 52 #[.int .i64 4, .int .u64 (y.lsn : Nat), .slice y.ca y.l.length y.cc, .int .u32 (nx : Nat), .slice y.da d.length y.dc, .int .u32 (y.root : Nat), .int .u32 (y.pages : Nat), .int .u32 (y.free : Nat), .int .u64 (y.entries : Nat)] := by rw [hw3]; exact Blk.new _ _ _
          have hdr : Reads w3 w3.heap.size 1 y.da d.length (bl d) := by
            have h9 := hya.data.below (show Below w2.heap.size w2 w3 by rw [hw3]; exact (Below.refl _ w2).alloc (Nat.le_refl _) _)
            rw [hyd] at h9
            exact reads_mono h9 (by rw [hw3]; simp)
          rw [← hw3]
          refine (hV.step vis wo w3 p d y.da y.dc HH.out.2.2.2.2.2 hb3 (Nat.le_trans hB0 HBR.out.size) (by omega) hdr hdl.2 (by have := HH.out.2.2.2.1; omega)).mono ?_
          rintro e w4 ⟨rfl, hV4, hb4, hk4⟩
          have hc4 : w4.cell? ⟨w2.heap.size, 3, none⟩ = some (.int .u32 (nx : Nat)) := (World.cell?_of_block (hk4 _ hb2.size hN3.lt)).trans (hN3.cell 3)
          have HF := Lib.hid (And.intro hV4 (And.intro hb3 hb4))
          clear hw3 hN3 hdr hV4 hb3 hb4 hk4
          go_wp2
          go_roundw
          case rel => exact ⟨ps', vr.drop 238, vis ++ [(p, d)], g, left - m, nx, rfl, HNX.out, rfl, HH.out.1, fun q hq => HH.out.2.1 q (by simp [hq]), by have := HH.out.2.2.1; simp at this; exact this, by have := HH.out.2.2.2.1; simp; omega, by omega, .inr (HH.out.2.2.2.2.1 (fun h9 => by have := HC2.out; rw [h9] at this; simp at this)), HF.out.1,
            by rw [HR.out, if_neg (by rintro (h9 | h9); exact h9 HC.out; exact h9 (HI.out.2 (by first | rfl | trivial)))]; cases walkT t g nx (left - m) <;> simp [contR], HBR.out.trans ((HF.out.2.1.mono (Nat.le_trans hB0 HBR.out.size)).trans HF.out.2.2)⟩
          case measure => simp [intOf]; omega
        · go_wp2_with (go_at_call 62; refine HNo.out.mono ?_; rintro e w2 ⟨y, hy, rfl, hya, hylo, hb2⟩; unfold NX.val nodeV; have hyk : y.kind = 4 := (by have h9 := congrArg PN.kind hy; exact h9); have hyn : y.next = nx := (by have h9 := congrArg PN.next hy; exact h9); have hyd : y.data = d := (by have h9 := congrArg PN.data hy; exact h9))
          go_ret
          have hbw := fun o => hb2.alloc hb2.size o
          exact ⟨by rw [HR.out, if_pos (.inr (fun h9 => by have := HI.out.1 h9; cases this))]; exact ⟨rfl, vis, hVk _ _ _ HH.out.2.2.2.2.2 (hbw _)⟩, HBR.out.trans ((hbw _).mono (Nat.le_trans hB0 HBR.out.size))⟩
        · go_wp2_with (go_at_call 62; refine HNo.out.mono ?_; rintro e w2 ⟨y, hy, rfl, hya, hylo, hb2⟩; unfold NX.val nodeV; have hyk : y.kind = 4 := (by have h9 := congrArg PN.kind hy; exact h9); have hyn : y.next = nx := (by have h9 := congrArg PN.next hy; exact h9); have hyd : y.data = d := (by have h9 := congrArg PN.data hy; exact h9))
          go_ret
          have hbw := fun o => hb2.alloc hb2.size o
          exact ⟨by rw [HR.out, if_pos (.inr (fun h9 => by have := HI.out.1 h9; cases this))]; exact ⟨rfl, vis, hVk _ _ _ HH.out.2.2.2.2.2 (hbw _)⟩, HBR.out.trans ((hbw _).mono (Nat.le_trans hB0 HBR.out.size))⟩
        · go_wp2_with (go_at_call 62; refine HNo.out.mono ?_; rintro e w2 ⟨y, hy, rfl, hya, hylo, hb2⟩; unfold NX.val nodeV; have hyk : y.kind = 4 := (by have h9 := congrArg PN.kind hy; exact h9); have hyn : y.next = nx := (by have h9 := congrArg PN.next hy; exact h9); have hyd : y.data = d := (by have h9 := congrArg PN.data hy; exact h9))
          obtain ⟨w3, hw3⟩ : ∃ w3, w3 = w2.alloc (.cells #[.int .i64 4, .int .u64 (y.lsn : Nat), .slice y.ca y.l.length y.cc, .int .u32 (nx : Nat), .slice y.da d.length y.dc, .int .u32 (y.root : Nat), .int .u32 (y.pages : Nat), .int .u32 (y.free : Nat), .int .u64 (y.entries : Nat)] 52) := ⟨_, rfl⟩
          have hb3 : Below wo.heap.size wo w3 := by rw [hw3]; exact hb2.alloc hb2.size _
          have hN3 : Blk w3 w2.heap.size 52 #[.int .i64 4, .int .u64 (y.lsn : Nat), .slice y.ca y.l.length y.cc, .int .u32 (nx : Nat), .slice y.da d.length y.dc, .int .u32 (y.root : Nat), .int .u32 (y.pages : Nat), .int .u32 (y.free : Nat), .int .u64 (y.entries : Nat)] := by rw [hw3]; exact Blk.new _ _ _
          have hdr : Reads w3 w3.heap.size 1 y.da d.length (bl d) := by
            have h9 := hya.data.below (show Below w2.heap.size w2 w3 by rw [hw3]; exact (Below.refl _ w2).alloc (Nat.le_refl _) _)
            rw [hyd] at h9
            exact reads_mono h9 (by rw [hw3]; simp)
          rw [← hw3]
          refine (hV.step vis wo w3 p d y.da y.dc HH.out.2.2.2.2.2 hb3 (Nat.le_trans hB0 HBR.out.size) (by omega) hdr hdl.2 (by have := HH.out.2.2.2.1; omega)).mono ?_
          rintro e w4 ⟨rfl, hV4, hb4, hk4⟩
          have hc4 : w4.cell? ⟨w2.heap.size, 3, none⟩ = some (.int .u32 (nx : Nat)) := (World.cell?_of_block (hk4 _ hb2.size hN3.lt)).trans (hN3.cell 3)
          have HF := Lib.hid (And.intro hV4 (And.intro hb3 hb4))
          clear hw3 hN3 hdr hV4 hb3 hb4 hk4
          go_wp2
          go_roundw
          case rel => exact ⟨ps', vr.drop 238, vis ++ [(p, d)], g, left - m, nx, rfl, HNX.out, rfl, HH.out.1, fun q hq => HH.out.2.1 q (by simp [hq]), by have := HH.out.2.2.1; simp at this; exact this, by have := HH.out.2.2.2.1; simp; omega, by omega, .inl (by have := HC3.out; simpa using this.symm), HF.out.1,
            by rw [HR.out, if_neg (by rintro (h9 | h9); exact h9 HC.out; exact h9 (HI.out.2 (by first | rfl | trivial)))]; cases walkT t g nx (left - m) <;> simp [contR], HBR.out.trans ((HF.out.2.1.mono (Nat.le_trans hB0 HBR.out.size)).trans HF.out.2.2)⟩
          case measure => simp [intOf]; omega
end Go.Proofs.YtenfkghoolegfaaGreatDoor
set_option linter.unusedVariables false
namespace Go.Proofs.YtenfkghoolegfaaGreatDoor
open Go.RowKit
/-- What a closure's row holds: the row's block is another one than the box. -/
theorem own_box {W : World} {base n size : Nat} {e tb : TypeId} {A : Option Addr} {c : Nat} {xs : List Value} {g : Nat} {cs : Array Value} (h : W.ownsRow base e size (.slice A n c) n xs) (hB : Blk W g tb cs) (hne : tb ≠ e) : ∀ ad, A = some ad → ad.block ≠ g := by
  rintro ad rfl hg
  rcases h.2 with ⟨h0, _⟩ | ⟨g', cap, cur, e1, _, e3, _⟩
  · cases h0
  · simp only [Value.slice.injEq, Option.some.injEq] at e1
    rw [e1.1] at hg
    have hg : g' = g := hg
    rw [hg, show W.heap[g]? = _ from hB] at e3
    injection e3 with e3
    injection e3 with _ e4 _
    exact hne e4
theorem own_lt {W : World} {base n size : Nat} {e : TypeId} {A : Option Addr} {c : Nat} {xs : List Value} (h : W.ownsRow base e size (.slice A n c) n xs) : ∀ ad, A = some ad → ad.block < W.heap.size ∧ base ≤ ad.block := by
  rintro ad rfl
  rcases h.2 with ⟨h0, _⟩ | ⟨g, cap, cur, e1, h2, h3, _⟩
  · cases h0
  · simp only [Value.slice.injEq, Option.some.injEq] at e1
    rw [e1.1]
    exact ⟨(Array.getElem?_eq_some_iff.1 h3).1, h2⟩
theorem own_belowN {W W' : World} {base n size : Nat} {e : TypeId} {A : Option Addr} {c : Nat} {xs : List Value} (h : W.ownsRow base e size (.slice A n c) n xs) (hb : Below W.heap.size W W') : W'.ownsRow base e size (.slice A n c) n xs := by
  refine ⟨h.1, h.2.imp id ?_⟩
  rintro ⟨g, cap, cur, e1, e2, e3, r⟩
  exact ⟨g, cap, cur, e1, e2, (hb.block g (Array.getElem?_eq_some_iff.1 e3).1).trans e3, r⟩
theorem own_set {W : World} {base n size : Nat} {e : TypeId} {A : Option Addr} {c : Nat} {xs : List Value} (h : W.ownsRow base e size (.slice A n c) n xs) {p : Addr} {u : Value} (hp : ∀ ad, A = some ad → ad.block ≠ p.block) : (W.setCell p u).ownsRow base e size (.slice A n c) n xs := by
  refine ⟨h.1, h.2.imp id ?_⟩
  rintro ⟨g, cap, cur, e1, e2, e3, r⟩
  simp only [Value.slice.injEq] at e1
  exact ⟨g, cap, cur, by simpa using e1, e2, (Below.heap_setCell W p u g (hp _ e1.1)).trans e3, r⟩
/-- The row that a closure appends to: its box, its own memory. -/
def BoxRow (B0 Bl : Nat) (tb e : TypeId) (f : List (Nat × List UInt8) → List Value) (pre : List (Nat × List UInt8)) (W : World) : Prop :=
  B0 ≤ Bl ∧ ∃ A c, Blk W Bl tb #[.slice A (f pre).length c] ∧ W.ownsRow B0 e 1 (.slice A (f pre).length c) (f pre).length (f pre)
theorem BoxRow.keep {B0 Bl : Nat} {tb e : TypeId} {f : List (Nat × List UInt8) → List Value} {pre : List (Nat × List UInt8)} {W W' : World} (h : BoxRow B0 Bl tb e f pre W) (hb : Below W.heap.size W W') : BoxRow B0 Bl tb e f pre W' := by
  obtain ⟨h0, A, c, h1, h2⟩ := h
  exact ⟨h0, A, c, h1.below hb h1.lt, own_belowN h2 hb⟩
/-- Behind an append and the store into the box. -/
theorem BoxRow.grow {B0 Bl : Nat} {tb e : TypeId} (hte : tb ≠ e) {f : List (Nat × List UInt8) → List Value} {pre pre' : List (Nat × List UInt8)} {W0 W w3 : World} {A A3 : Option Addr} {c c3 : Nat} (h0 : B0 ≤ Bl) (h1 : Blk W Bl tb #[.slice A (f pre).length c]) (h2 : W.ownsRow B0 e 1 (.slice A (f pre).length c) (f pre).length (f pre))
    (hbl : Bl < W0.heap.size) (hro : ∀ ad, A = some ad → ad.block < W0.heap.size) (hW : W0.heap.size ≤ W.heap.size) (hB0 : B0 ≤ W0.heap.size)
    (ho3 : w3.ownsRow B0 e 1 (.slice A3 (f pre').length c3) (f pre').length (f pre')) (hg3 : W.grownBy w3 (.slice A (f pre).length c : Value).ownBlock) :
    BoxRow B0 Bl tb e f pre' (w3.setCell ⟨Bl, 0, none⟩ (.slice A3 (f pre').length c3)) ∧ Below B0 W (w3.setCell ⟨Bl, 0, none⟩ (.slice A3 (f pre').length c3)) ∧ ∀ k, W0.heap.size ≤ k → k < W.heap.size → (w3.setCell ⟨Bl, 0, none⟩ (.slice A3 (f pre').length c3)).heap[k]? = W.heap[k]? := by
  have hB3 : Blk w3 Bl tb #[.slice A (f pre).length c] := (grown_at hg3 h1.lt (own_box h2 h1 hte)).trans h1
  have hb3 := grown_below hg3 (Nat.le_trans hB0 hW) (fun ad e => (own_lt h2 ad e).2)
  refine ⟨⟨h0, A3, c3, hB3.set_ 0 _, own_set ho3 (own_box ho3 hB3 hte)⟩, hb3.setCell (p := ⟨Bl, 0, none⟩) h0 _, fun k hk1 hk2 => ?_⟩
  rw [Below.heap_setCell w3 ⟨Bl, 0, none⟩ _ k (by show k ≠ Bl; omega)]
  exact grown_at hg3 hk2 (fun ad e hh => by have := hro ad e; omega)
def fNums (pre : List (Nat × List UInt8)) : List Value := ul (pre.map (·.1))
def fBytes (pre : List (Nat × List UInt8)) : List Value := bl (pre.flatMap (·.2))
set_option maxHeartbeats 2000000 in
set_option maxRecDepth 1000000 in
theorem pages_visit (B0 Bl : Nat) : VisitOK B0 82 #[.pointer (some ⟨Bl, 0, none⟩)] (BoxRow B0 Bl 35 22 fNums) where
  eg := fun args w => enters_of Tryz.func82 (by kernel_rfl) rfl args w
  keep := fun pre W W' h hb => h.keep hb
  step := by
    rintro pre W0 W n d A c ⟨h0, A1, c1, h1, h2⟩ hb hB0 hn hr hd hp
    have hlt1 := h1.lt
    have hown := own_lt h2
    obtain ⟨xs, HX⟩ : ∃ xs, Hid (fNums pre = xs) := ⟨_, Lib.hid rfl⟩
    have hx5 : xs.length < 5 := by rw [← HX.out]; unfold fNums; rw [ul_len, List.length_map]; exact hp
    have k1 := h1.below hb hlt1
    have k2 := own_belowN h2 hb
    rw [HX.out] at k1 k2
    have hc : W.cell? ⟨Bl, 0, none⟩ = some (.slice A1 xs.length c1) := k1.cell 0
    have hf := k1.frozen 0
    obtain ⟨W2, hW2⟩ : ∃ W2, W2 = W.alloc (.cells #[.int .u32 (n : Nat)] 22) := ⟨_, rfl⟩
    have hbb : Below W.heap.size W W2 := by rw [hW2]; exact (Below.refl _ W).alloc (Nat.le_refl _) _
    have hrn : Reads W2 W2.heap.size 1 (some ⟨W.heap.size, 0, none⟩) 1 (ul [n]) := by rw [hW2]; exact reads_blk (Blk.new _ _ _) rfl
    have q1 := k1.below hbb k1.lt
    have q2 := own_belowN k2 hbb
    have hs2 := hb.size
    have hs3 := hbb.size
    have hx2 : xs ++ ul [n] = fNums (pre ++ [(n, d)]) := by rw [← HX.out]; unfold fNums; rw [ul_app, List.map_append]; rfl
    obtain ⟨ys, HY⟩ : ∃ ys, Hid (fNums (pre ++ [(n, d)]) = ys) := ⟨_, Lib.hid rfl⟩
    rw [HY.out] at hx2
    have hy1 : xs.length + 1 = ys.length := by rw [← hx2, List.length_append]; rfl
    have HQ := Lib.hid (And.intro q1 (And.intro k1 h1))
    have HHH := Lib.hid (And.intro hx2 (And.intro hy1 hown))
    have HW2 := Lib.hid hW2
    clear hr hW2 k1 q1 h1 h2 k2 hx2 hy1 hown
    go_enter Tryz.func82, Tryz.ntmps82
    go_wp2_with (rw [← HW2.out]; refine list_push TU4 rfl rfl B0 rfl q2 rfl hrn (ul_one _) (by omega) (by omega) (k := ys.length) HHH.out.2.1 (ys := ys) HHH.out.1 ?_; intro A7 c7 w7 ho7 hg7 hob7; have hc7 := (grown_at hg7 HQ.out.1.lt (own_box q2 HQ.out.1 (by decide))).trans HQ.out.1; have hc7 : w7.cell? ⟨Bl, 0, none⟩ = some (.slice A1 xs.length c1) := Blk.cell hc7 0; have hf7 : w7.frozen? ⟨Bl, 0, none⟩ = false := Blk.frozen ((grown_at hg7 HQ.out.1.lt (own_box q2 HQ.out.1 (by decide))).trans HQ.out.1) 0)
    go_end0
    have hx := HX.out
    have hy := HY.out
    subst hx
    subst hy
    have hG := BoxRow.grow (f := fNums) (pre := pre) (pre' := pre ++ [(n, d)]) (W0 := W0) (tb := 35) (by decide) h0 HQ.out.1 q2 (Nat.lt_of_lt_of_le HQ.out.2.2.lt (Nat.le_refl _)) (fun ad e => (HHH.out.2.2 ad e).1) (by omega) hB0 ho7 hg7
    exact ⟨rfl, hG.1, (hbb.mono (by omega)).trans hG.2.1, fun k q9 q8 => (hG.2.2 k q9 (by omega)).trans (hbb.block k q8)⟩
set_option maxHeartbeats 2000000 in
set_option maxRecDepth 1000000 in
theorem read_visit (B0 Bl : Nat) : VisitOK B0 48 #[.pointer (some ⟨Bl, 0, none⟩)] (fun pre W => BoxRow B0 Bl 23 5 fBytes pre W ∧ (fBytes pre).length ≤ 238 * pre.length) where
  eg := fun args w => enters_of Tryz.func48 (by kernel_rfl) rfl args w
  keep := fun pre W W' h hb => ⟨h.1.keep hb, h.2⟩
  step := by
    rintro pre W0 W n d A c ⟨⟨h0, A1, c1, h1, h2⟩, hbd⟩ hb hB0 hn hr hd hp
    have hlt1 := h1.lt
    have hown := own_lt h2
    obtain ⟨xs, HX⟩ : ∃ xs, Hid (fBytes pre = xs) := ⟨_, Lib.hid rfl⟩
    have hx5 : xs.length ≤ 1200 := by rw [← HX.out]; omega
    have q1 := h1.below hb hlt1
    have q2 := own_belowN h2 hb
    rw [HX.out] at q1 q2
    have hc : W.cell? ⟨Bl, 0, none⟩ = some (.slice A1 xs.length c1) := q1.cell 0
    have hf := q1.frozen 0
    have hs2 := hb.size
    have hx2 : xs ++ bl d = fBytes (pre ++ [(n, d)]) := by rw [← HX.out]; unfold fBytes bl; simp
    have hbd2 : (fBytes (pre ++ [(n, d)])).length ≤ 238 * (pre ++ [(n, d)]).length := by
      rw [← hx2, List.length_append, List.length_append, ← HX.out]
      have : (bl d).length = d.length := by simp [bl]
      simp only [List.length_singleton]
      omega
    obtain ⟨ys, HY⟩ : ∃ ys, Hid (fBytes (pre ++ [(n, d)]) = ys) := ⟨_, Lib.hid rfl⟩
    rw [HY.out] at hx2
    have hy1 : xs.length + d.length = ys.length := by rw [← hx2, List.length_append]; simp [bl]
    have HQ := Lib.hid (And.intro q1 (And.intro hbd2 h1))
    have HHH := Lib.hid (And.intro hx2 (And.intro hy1 hown))
    clear q1 h1 h2 hx2 hy1 hown hbd hbd2
    go_enter Tryz.func48, Tryz.ntmps48
    go_wp2_with (refine list_push TBy rfl rfl B0 rfl q2 rfl hr (bl_one _) (by omega) (by omega) (k := ys.length) HHH.out.2.1 (ys := ys) HHH.out.1 ?_; intro A7 c7 w7 ho7 hg7 hob7; have hc7 := (grown_at hg7 HQ.out.1.lt (own_box q2 HQ.out.1 (by decide))).trans HQ.out.1; have hc7 : w7.cell? ⟨Bl, 0, none⟩ = some (.slice A1 xs.length c1) := Blk.cell hc7 0; have hf7 : w7.frozen? ⟨Bl, 0, none⟩ = false := Blk.frozen ((grown_at hg7 HQ.out.1.lt (own_box q2 HQ.out.1 (by decide))).trans HQ.out.1) 0)
    go_end0
    have hx := HX.out
    have hy := HY.out
    subst hx
    subst hy
    have hG := BoxRow.grow (f := fBytes) (pre := pre) (pre' := pre ++ [(n, d)]) (W0 := W0) (tb := 23) (by decide) h0 HQ.out.1 q2 (Nat.lt_of_lt_of_le HQ.out.2.2.lt (Nat.le_refl _)) (fun ad e => (HHH.out.2.2 ad e).1) (by omega) hB0 ho7 hg7
    exact ⟨rfl, ⟨hG.1, HQ.out.2.1⟩, hG.2.1, hG.2.2⟩
end Go.Proofs.YtenfkghoolegfaaGreatDoor
set_option linter.unusedVariables false
namespace Go.Proofs.YtenfkghoolegfaaGreatDoor
open Go.RowKit
theorem cfault_nil (op : ByteArray) (w : World) : Calls Tryz.prog 45 #[.string op, .nilIface] w fun e w' => e = .returned .nilIface ∧ w' = w := by
  go_enter Tryz.func45, Tryz.ntmps45
  go_wp2
  go_ret
  exact ⟨rfl, rfl⟩
/-- A value of a chain that is laid: of which length one asks. -/
structure ChainAt (t : PT) (ps : List Nat) (v : List UInt8) : Prop where
  laid : LaidC t.lsn t.over ps v
  ne : ps ≠ []
  lt : ∀ p ∈ ps, p < t.pages
  len : ps.length ≤ 5
set_option maxHeartbeats 4000000 in
set_option maxRecDepth 1000000 in
theorem pages_laid {X : Nat → Prop} {w : World} {T M : Nat} {t : PT} (h : TX X w T M t) (hX : ∀ k, X k → k < w.heap.size) (ok : t.OK) (htab : PowAt w) (h1w : 1 < w.heap.size) {ps : List Nat} {v : List UInt8} (hc : ChainAt t ps v) (p0 : Nat) (hp0 : ps.headD 0 = p0) (s : Nat) (hs : 1 ≤ s ∧ s ≤ 1000)
    {l : List Nat} {d : List UInt8} (hw : walkT t 5 p0 s = .ok (l, d)) :
    Calls Tryz.prog 49 #[.pointer (some ⟨T, 0, none⟩), .int .u32 (p0 : Nat), .int .i64 s] w fun e w' => ∃ A c, e = .returned (.tuple #[.slice A l.length c, .nilIface]) ∧ w'.ownsRow w.heap.size 22 1 (.slice A l.length c) l.length (ul l) ∧ Below w.heap.size w w' := by
  obtain ⟨w1, hw1⟩ : ∃ w1, w1 = w.alloc (.cells #[.slice none 0 0] 35) := ⟨_, rfl⟩
  have hb1 : Below w.heap.size w w1 := by rw [hw1]; exact (Below.refl _ w).alloc (Nat.le_refl _) _
  have hB1 : Blk w1 w.heap.size 35 #[.slice none 0 0] := by rw [hw1]; exact Blk.new _ _ _
  have hv0 : BoxRow w.heap.size w.heap.size 35 22 fNums [] w1 := ⟨Nat.le_refl _, none, 0, hB1, ⟨rfl, .inl ⟨rfl, rfl⟩⟩⟩
  have hW := walk_laidM (B0 := w.heap.size) (h.keep (KeepX.of_below hb1)) ok (powBelow htab hb1) (pages_visit w.heap.size w.heap.size) hv0 hb1.size hX h1w ps v hc.laid hc.ne hc.lt hc.len p0 hp0 s hs
  rw [hw] at hW
  have HW := Lib.hid hW
  have HW1 := Lib.hid hw1
  clear hW hw1 h hX hc hv0 hB1 hw htab
  go_enter Tryz.func49, Tryz.ntmps49
  go_wp2_with (first
    | (rw [← HW1.out]; go_at_call 47; refine HW.out.mono ?_; rintro e w2 ⟨⟨rfl, vis, hv1, hv2, ⟨_, A, c, hB2, ho2⟩⟩, hb2⟩; have hc2 : w2.cell? ⟨w.heap.size, 0, none⟩ = some (.slice A (fNums vis).length c) := hB2.cell 0; have hf2 := hB2.frozen 0))
  have hl : fNums vis = ul l := by unfold fNums; rw [hv1]
  rw [hl] at ho2 hB2 ⊢
  have hB3 := hB2.set_ 0 (.slice A (ul l).length c)
  have hc3 := hB3.cell 0
  have hc3 : (w2.setCell ⟨w.heap.size, 0, none⟩ (.slice A (ul l).length c)).cell? ⟨w.heap.size, 0, none⟩ = some (.slice A (ul l).length c) := hc3
  have ho3 := own_set (p := ⟨w.heap.size, 0, none⟩) (u := .slice A (ul l).length c) ho2 (own_box ho2 hB2 (by decide))
  have hb3 := (hb1.trans hb2).setCell (p := ⟨w.heap.size, 0, none⟩) (Nat.le_refl _) (.slice A (ul l).length c)
  obtain ⟨w3, hw3⟩ : ∃ w3, w2.setCell ⟨w.heap.size, 0, none⟩ (.slice A (ul l).length c) = w3 := ⟨_, rfl⟩
  rw [hw3] at hc3 ho3 hb3 ⊢
  refine bodyPost_ret (v := .tuple #[.slice A (ul l).length c, .nilIface]) (by simp [results, Tryz.results49, go_sem, hc3]) rfl ?_
  rw [ul_len] at ho3 ⊢
  exact ⟨A, c, rfl, ho3, hb3⟩
set_option maxHeartbeats 4000000 in
set_option maxRecDepth 1000000 in
theorem Pages_laid {X : Nat → Prop} {w : World} {T M : Nat} {t : PT} (h : TX X w T M t) (hX : ∀ k, X k → k < w.heap.size) (ok : t.OK) (htab : PowAt w) (h1w : 1 < w.heap.size) {ps : List Nat} {v : List UInt8} (hc : ChainAt t ps v) (p0 : Nat) (hp0 : ps.headD 0 = p0) (s : Nat) (hs : 1 ≤ s ∧ s ≤ 1000)
    {l : List Nat} {d : List UInt8} (hw : walkT t 5 p0 s = .ok (l, d)) :
    Calls Tryz.prog 33 #[.pointer (some ⟨T, 0, none⟩), .int .u32 (p0 : Nat), .int .i64 s] w fun e w' => ∃ A c, e = .returned (.tuple #[.slice A l.length c, .nilIface]) ∧ w'.ownsRow w.heap.size 22 1 (.slice A l.length c) l.length (ul l) ∧ Below w.heap.size w w' := by
  have hP := pages_laid h hX ok htab h1w hc p0 hp0 s hs hw
  have hF := fun op W => cfault_nil op W
  clear h hX hc hw htab
  go_enter Tryz.func33, Tryz.ntmps33
  go_wp2_with (first
    | (go_at_call 49; refine hP.mono ?_; rintro e w2 ⟨A, c, rfl, ho, hb⟩)
    | (go_at_call 45; refine (hF _ _).mono ?_; rintro e w3 ⟨rfl, h3⟩; have h3 := h3.symm; subst h3))
  go_ret2
  exact ⟨A, c, rfl, ho, hb⟩
set_option maxHeartbeats 4000000 in
set_option maxRecDepth 1000000 in
theorem Read_laid {X : Nat → Prop} {w : World} {T M : Nat} {t : PT} (h : TX X w T M t) (hX : ∀ k, X k → k < w.heap.size) (ok : t.OK) (htab : PowAt w) (h1w : 1 < w.heap.size) {ps : List Nat} {v : List UInt8} (hc : ChainAt t ps v) (p0 : Nat) (hp0 : ps.headD 0 = p0) (s : Nat) (hs : 1 ≤ s ∧ s ≤ 1000)
    {l : List Nat} {d : List UInt8} (hw : walkT t 5 p0 s = .ok (l, d)) :
    Calls Tryz.prog 14 #[.pointer (some ⟨T, 0, none⟩), .int .u32 (p0 : Nat), .int .i64 s] w fun e w' => ∃ A c, e = .returned (.tuple #[.slice A d.length c, .nilIface]) ∧ w'.ownsRow w.heap.size 5 1 (.slice A d.length c) d.length (bl d) ∧ Below w.heap.size w w' := by
  obtain ⟨w1, hw1⟩ : ∃ w1, w1 = w.alloc (.cells #[.slice none 0 0] 23) := ⟨_, rfl⟩
  have hb1 : Below w.heap.size w w1 := by rw [hw1]; exact (Below.refl _ w).alloc (Nat.le_refl _) _
  have hB1 : Blk w1 w.heap.size 23 #[.slice none 0 0] := by rw [hw1]; exact Blk.new _ _ _
  have hv0 : BoxRow w.heap.size w.heap.size 23 5 fBytes [] w1 ∧ (fBytes []).length ≤ 238 * ([] : List (Nat × List UInt8)).length := ⟨⟨Nat.le_refl _, none, 0, hB1, ⟨rfl, .inl ⟨rfl, rfl⟩⟩⟩, Nat.le_refl _⟩
  have hW := walk_laidM (B0 := w.heap.size) (h.keep (KeepX.of_below hb1)) ok (powBelow htab hb1) (read_visit w.heap.size w.heap.size) hv0 hb1.size hX h1w ps v hc.laid hc.ne hc.lt hc.len p0 hp0 s hs
  rw [hw] at hW
  have HW := Lib.hid hW
  have HW1 := Lib.hid hw1
  clear hW hw1 h hX hc hv0 hB1 hw htab
  go_enter Tryz.func14, Tryz.ntmps14
  go_wp2_with (first
    | (rw [← HW1.out]; go_at_call 47; refine HW.out.mono ?_; rintro e w2 ⟨⟨rfl, vis, hv1, hv2, ⟨_, A, c, hB2, ho2⟩, _⟩, hb2⟩; have hc2 : w2.cell? ⟨w.heap.size, 0, none⟩ = some (.slice A (fBytes vis).length c) := hB2.cell 0; have hf2 := hB2.frozen 0))
  have hl : fBytes vis = bl d := by unfold fBytes; rw [hv2]
  rw [hl] at ho2 hB2 ⊢
  rw [bl_len] at ho2 ⊢
  go_ret2
  exact ⟨A, c, rfl, ho2, hb1.trans hb2⟩
end Go.Proofs.YtenfkghoolegfaaGreatDoor
set_option linter.unusedVariables false
namespace Go.Proofs.YtenfkghoolegfaaGreatDoor
open Go.RowKit
attribute [local go_sem] Oper.semAt_some
/-- What has come when k rounds are over, from behind. -/
def backU (l : List Nat) (k : Nat) : List (Nat × Nat) := (List.range k).map fun j => (l.length - 1 - j, l.getD (l.length - 1 - j) 0)
theorem backU_succ (l : List Nat) (k : Nat) : backU l (k + 1) = backU l k ++ [(l.length - 1 - k, l.getD (l.length - 1 - k) 0)] := by simp [backU, List.range_succ]
theorem backU_length (l : List Nat) (k : Nat) : (backU l k).length = k := by simp [backU]
/-- What a round keeps for the iterator: its box, the row. -/
def KeepU (g Bs : Nat) (A B : World) : Prop := B.heap[g]? = A.heap[g]? ∧ B.cell? ⟨Bs, 0, none⟩ = A.cell? ⟨Bs, 0, none⟩
set_option maxRecDepth 100000 in
set_option maxHeartbeats 2000000 in
theorem backU1_in (n : Nat) (hn : 1 ≤ n) (l Bs g cap : Nat) (b : List Nat) (hreach : b.length ≤ 1000) (J Jx : Nat → World → Prop)
    (hY : ∀ k x W, (backU b b.length)[k]? = some x → J k W → YieldAt Fence.wide (n - 1) Tryz.prog l #[.int .i64 (x.1 : Int), .int .u32 (x.2 : Int)] W fun e W' =>
      (e = .returned (.bool true) ∧ J (k + 1) W' ∧ KeepU g Bs W W') ∨ (e = .returned (.bool false) ∧ Jx (k + 1) W'))
    (W : World) (hBs : W.cell? ⟨Bs, 0, none⟩ = some (.slice (some ⟨g, 0, none⟩) b.length cap)) (hc : ∀ j, j < b.length → W.cell? ⟨g, j, none⟩ = some (.int .u32 ((b.getD j 0 : Nat) : Int))) (h0 : J 0 W) :
    CallsIn Fence.wide n Tryz.prog 83 #[.func (.yield l) #[] #[], .pointer (some ⟨Bs, 0, none⟩)] W fun e W' => (∃ v, e = .returned v) ∧
      (J (backU b b.length).length W' ∨ (∃ k, k ≤ (backU b b.length).length ∧ Jx k W')) := by
  refine callsIn_of_wp Tryz.func83 rfl trivial ?_ rfl
  simp only [Tryz.ntmps83, List.size_toArray, List.length_cons, List.length_nil, Nat.reduceAdd, Nat.reduceSub, Array.replicate_succ, Array.replicate_zero, List.push_toArray, List.append_toArray, List.nil_append, List.cons_append]
  gi_wp2
  gi_loopw [3] (fun i wr => ∃ k : Nat, k ≤ b.length ∧ i = .int .i64 ((b.length : Int) - 1 - (k : Int)) ∧ J k wr ∧ KeepU g Bs W wr)
    (fun i _ => (intOf i + 1).toNat)
  case atStart => exact ⟨0, Nat.zero_le _, by simp, h0, rfl, rfl⟩
  case round =>
    obtain ⟨k, hk, rfl, hJs, hnx, hbx⟩ := hrel
    have hbs := hbx.trans hBs
    by_cases hlt : k < b.length
    · obtain ⟨m, hm⟩ : ∃ m, b.length - 1 - k = m := ⟨_, rfl⟩
      have e : (b.length : Int) - 1 - (k : Int) = (m : Nat) := by omega
      have hml : m < b.length := by omega
      obtain ⟨y, hyv⟩ : ∃ y, b.getD m 0 = y := ⟨_, rfl⟩
      obtain ⟨fn, tmps, assign, body, hy, hR⟩ := hY k (m, y) wr (by unfold backU; rw [List.getElem?_map, List.getElem?_range hlt, ← hyv, ← hm]; rfl) hJs
      dsimp only at hy
      have hcx : wr.cell? ⟨g, m, none⟩ = some (.int .u32 ((b.getD m 0 : Nat) : Int)) := (World.cell?_of_block hnx).trans (hc m hml)
      rw [hyv] at hcx
      have m0 : (0 : Int) ≤ (m : Int) := by omega
      have m1 : (m : Int) < (b.length : Int) := by omega
      have HB := Lib.hid hbx
      clear hbx
      have HM := Lib.hid (And.intro hm (And.intro e hyv))
      rw [e]
      clear hm e hml hyv
      gi_wp2
      refine hR.mono ?_
      rintro e W3 (⟨rfl, hJ3, hk3⟩ | ⟨rfl, hJx3⟩)
      · gi_wp2
        go_roundw
        case rel => exact ⟨k + 1, by omega, by have := HM.out.2.1; first | (congr 1; omega) | go_num, hJ3, hk3.1.trans hnx, hk3.2.trans HB.out⟩
        case measure => have := HM.out.2.1; first | (simp [intOf]; done) | (simp [intOf]; omega)
      · gi_wp2
        refine bodyPost_ret (results_none rfl _ _ _) rfl ?_
        exact ⟨⟨_, rfl⟩, .inr ⟨k + 1, by rw [backU_length]; omega, hJx3⟩⟩
    · obtain rfl : k = b.length := by omega
      have e : (b.length : Int) - 1 - (b.length : Int) = -1 := by omega
      rw [e]
      clear e
      gi_wp2
      go_end0
      exact ⟨⟨_, rfl⟩, .inl (by rw [backU_length]; exact hJs)⟩
theorem backU_stops (n : Nat) (hn : 1 ≤ n) (Bs g cap : Nat) (b : List Nat) (hreach : b.length ≤ 1000) (w : World) (hBl : Bs < w.heap.size) (hg : g < w.heap.size)
    (hBs : w.cell? ⟨Bs, 0, none⟩ = some (.slice (some ⟨g, 0, none⟩) b.length cap)) (hc : ∀ j, j < b.length → w.cell? ⟨g, j, none⟩ = some (.int .u32 ((b.getD j 0 : Nat) : Int))) :
    SeqL Fence.wide n Tryz.prog 83 #[.pointer (some ⟨Bs, 0, none⟩)] (fun x : Nat × Nat => #[Value.int .i64 (x.1 : Int), Value.int .u32 (x.2 : Int)]) (KeepU g Bs) (backU b b.length) w := fun l J Jx W hW _ _ hY h0 =>
  backU1_in n hn l Bs g cap b hreach J Jx hY W ((hW.cell (p := ⟨Bs, 0, none⟩) hBl).trans hBs) (fun j hj => (hW.cell (p := ⟨g, j, none⟩) hg).trans (hc j hj)) h0
theorem keepU_t {g Bs : Nat} {A B C : World} (h : KeepU g Bs A B) (h2 : KeepU g Bs B C) : KeepU g Bs A C := ⟨h2.1.trans h.1, h2.2.trans h.2⟩
theorem backU_go (A : Option Addr) (n c : Nat) (w : World) : Calls Tryz.prog 50 #[.slice A n c] w fun e w' => e = .returned (.func (.func 83) #[] #[.pointer (some ⟨w.heap.size, 0, none⟩)]) ∧ w' = w.alloc (.cells #[.slice A n c] 35) := by
  go_enter Tryz.func50, Tryz.ntmps50
  go_wp2
  go_ret
  exact ⟨rfl, rfl⟩
theorem free_step {t : PT} (ht : t.OK) {p : Nat} (hp : 2 ≤ p ∧ p < t.pages) : (freeT t p).1 = 0 ∧ (freeT t p).2.OK ∧ (freeT t p).2.lsn = t.lsn ∧ (freeT t p).2.pages = t.pages := by
  have h0 := ht.head
  have hi : isPageT t p = 0 := by unfold isPageT; rw [if_neg (by omega)]
  have hl : layE t (freeN t) = 0 := freePg_put t.lsn t.free
  have e2 : layT t p (freeN t) = { t with over := setO p (putP (freePg t.lsn t.free)) t.over, changed := true } := by
    unfold layT
    rw [if_pos hl]
    rfl
  have e : freeT t p = (0, { t with over := setO p (putP (freePg t.lsn t.free)) t.over, changed := true, free := p }) := by
    unfold freeT
    rw [hi, if_neg (by simp), hl, if_neg (by simp), e2]
  have hok := freeT_ok ht p
  rw [e] at hok ⊢
  exact ⟨rfl, hok, rfl, rfl⟩
end Go.Proofs.YtenfkghoolegfaaGreatDoor
set_option linter.unusedVariables false
namespace Go.Proofs.YtenfkghoolegfaaGreatDoor
open Go.RowKit
attribute [local go_sem] Oper.semAt_some
theorem freesT_cons (t : PT) (p : Nat) (ps : List Nat) : freesT t (p :: ps) = if (freeT t p).1 ≠ 0 then freeT t p else freesT (freeT t p).2 ps := rfl
set_option maxHeartbeats 4000000 in
set_option maxRecDepth 1000000 in
theorem Free_laid {X : Nat → Prop} {w : World} {T M : Nat} {t : PT} (h : TX X w T M t) (hX : ∀ k, X k → k < w.heap.size) (hX1 : ¬ X 1) (ok : t.OK) (htab : PowAt w) (h1w : 1 < w.heap.size) {ps : List Nat} {v : List UInt8} (hc : ChainAt t ps v) (h2 : ∀ p ∈ ps, 2 ≤ p) (p0 : Nat) (hp0 : ps.headD 0 = p0) (s : Nat) (hs : 1 ≤ s ∧ s ≤ 1000)
    (hw : walkT t 5 p0 s = .ok (ps, v)) :
    Calls Tryz.prog 16 #[.pointer (some ⟨T, 0, none⟩), .int .u32 (p0 : Nat), .int .i64 s] w fun e w' => e = .returned .nilIface ∧ TX (moreX X w) w' T M (freesT t ps.reverse).2 ∧ Fr X w w' := by
  have hTX := h
  obtain ⟨w1, hw1⟩ : ∃ w1, w1 = (w.alloc (.cells #[.pointer (some ⟨T, 0, none⟩)] 32)).alloc (.cells #[.nilIface] 37) := ⟨_, rfl⟩
  have hba : Below w.heap.size w (w.alloc (.cells #[.pointer (some ⟨T, 0, none⟩)] 32)) := (Below.refl _ w).alloc (Nat.le_refl _) _
  have hb1 : Below w.heap.size w w1 := by rw [hw1]; exact hba.alloc hba.size _
  have hs1 : w1.heap.size = w.heap.size + 2 := by rw [hw1]; simp
  have hBt : Blk w1 w.heap.size 32 #[.pointer (some ⟨T, 0, none⟩)] := by rw [hw1]; exact (Blk.new w _ _).alloc _
  have hBr : Blk w1 (w.heap.size + 1) 37 #[.nilIface] := by rw [hw1]; have := Blk.new (w.alloc (.cells #[.pointer (some ⟨T, 0, none⟩)] 32)) 37 #[.nilIface]; simpa using this
  have hP := pages_laid (h.keep (KeepX.of_below hb1)) (fun k hk => Nat.lt_of_lt_of_le (hX k hk) hb1.size) ok (powBelow htab hb1) (by omega) hc p0 hp0 s hs hw
  have HW1 := Lib.hid hw1
  have HC := Lib.hid (And.intro hTX (And.intro hX (And.intro hc hw)))
  have HB := Lib.hid (And.intro hBt hBr)
  clear hw1 h hTX hX hc hw hBt hBr hba
  refine (callsIn_wide (n := 3)).1 ?_
  refine callsIn_of_wp_marks Tryz.func16 rfl trivial ?_ rfl
  simp only [Tryz.ntmps16, List.size_toArray, List.length_cons, List.length_nil, Nat.reduceAdd, Nat.reduceSub, Array.replicate_succ, Array.replicate_zero, List.push_toArray, List.append_toArray, List.nil_append, List.cons_append]
  gi_wp2_with (first
    | (rw [← HW1.out]; refine ⟨trivial, ?_⟩; gi_at_call 49; refine (callsIn_wide.2 hP).mono ?_; rintro e w2 ⟨A, c, rfl, ho2, hb2⟩)
    | (refine ⟨trivial, ?_⟩; gi_at_call 50; refine (callsIn_wide.2 (backU_go _ _ _ _)).mono ?_; rintro e w3 ⟨rfl, h3⟩; have h3 := h3.symm; subst h3))
  have hX0 := HC.out.2.1
  have hpl : ps.length ≠ 0 := fun h9 => HC.out.2.2.1.ne (List.eq_nil_of_length_eq_zero h9)
  have hrow : RowN w2 w1.heap.size (fun _ => False) A c ps := ⟨ho2, fun _ _ h9 => h9⟩
  obtain ⟨g, rfl, hpc, _⟩ := hrow.cell (List.getElem?_eq_getElem (show 0 < ps.length by omega))
  have hcells : ∀ j, j < ps.length → w2.cell? ⟨g, j, none⟩ = some (.int .u32 ((ps.getD j 0 : Nat) : Int)) := fun j hj => by
    obtain ⟨g', e, _, hcj⟩ := hrow.cell (List.getElem?_eq_getElem hj)
    cases e
    rw [hcj, List.getD_eq_getElem?_getD, List.getElem?_eq_getElem hj]
    rfl
  have hg2 := hrow.lt _ rfl
  have hg2 : g < w2.heap.size ∧ w1.heap.size ≤ g := hg2
  obtain ⟨w3, hw3⟩ : ∃ w3, w3 = w2.alloc (.cells #[.slice (some ⟨g, 0, none⟩) ps.length c] 35) := ⟨_, rfl⟩
  have hb3 : Below w2.heap.size w2 w3 := by rw [hw3]; exact (Below.refl _ w2).alloc (Nat.le_refl _) _
  have hBx : Blk w3 w2.heap.size 35 #[.slice (some ⟨g, 0, none⟩) ps.length c] := by rw [hw3]; exact Blk.new _ _ _
  have hb13 : Below w1.heap.size w1 w3 := hb2.trans (hb3.mono hb2.size)
  have hb03 : Below w.heap.size w w3 := hb1.trans (hb13.mono hb1.size)
  have hs13 := hb13.size
  have hst := backU_stops 2 (by omega) w2.heap.size g c ps (by have := HC.out.2.2.1.len; omega) w3 hBx.lt (Nat.lt_of_lt_of_le hg2.1 hb3.size) (hBx.cell 0) (fun j hj => (hb3.cell (p := ⟨g, j, none⟩) hg2.1).trans (hcells j hj))
  have hBt3 := HB.out.1.below hb13 HB.out.1.lt
  have hBr3 := HB.out.2.below hb13 HB.out.2.lt
  have hT3 := (HC.out.1.keep (KeepX.of_below hb03)).mono (Y := X) (fun _ h9 => h9)
  rw [← hw3]
  refine' wpIn_rangeFunc_ownN rfl (by omega) (gf := 83) (lb := #[.pointer (some ⟨w2.heap.size, 0, none⟩)]) rfl trivial (enters_of Tryz.func83 (by kernel_rfl) rfl) hst keepU_t ?hkb (Below.refl _ _) (fun _ => rfl)
    (fun k W => ∃ (Xk : Nat → Prop) (tk : PT), TX Xk W T M tk ∧ (∀ j, Xk j → X j ∨ (w3.heap.size ≤ j ∧ isC W j)) ∧ tk.OK ∧ tk.pages = t.pages ∧ freesT t ps.reverse = freesT tk (ps.reverse.drop k) ∧ Fr X w3 W)
    (fun _ _ _ => False) ?hi ?hix ?h0 _ ?assign ?body ?done ?stop
  case hkb =>
    intro W l o o' hl ho hc9 hw9
    have hgb := grownBy_putObj' W l o'
    have hlt := (Array.getElem?_eq_some_iff.1 ho).1
    have hb3s := hb3.size
    have hx9 := hBx.lt
    exact ⟨hgb.block g (by omega) (fun e => by cases e; omega), World.cell?_of_block (hgb.block w2.heap.size (by omega) (fun e => by cases e; omega))⟩
  case hi =>
    rintro k W W' row ⟨Xk, tk, q1, q2, q3, q4, q5, q6⟩ hg9 hr9
    have hne : ∀ j, Xk j → some j ≠ row := fun j hj e => by
      obtain ⟨h8, o, ho, hco⟩ := hr9 j e.symm
      rcases q2 j hj with h7 | ⟨_, o', ho', hco'⟩
      · have := hX0 j h7; have := hb03.size; omega
      · rw [ho] at ho'; cases ho'; rw [hco] at hco'; cases hco'
    refine ⟨Xk, tk, q1.keep ⟨hg9.size, fun j hj hl => hg9.block j hl (hne j hj)⟩, fun j hj => (q2 j hj).imp id fun ⟨h8, o, ho, hco⟩ => ⟨h8, o, (hg9.block j (Array.getElem?_eq_some_iff.1 ho).1 (hne j hj)).trans ho, hco⟩, q3, q4, q5, ?_⟩
    exact ⟨hg9.os.trans q6.os, hg9.tape.trans q6.tape, hg9.output.trans q6.output, Nat.le_trans q6.size hg9.size, fun j hj hx => (hg9.block j (Nat.lt_of_lt_of_le hj q6.size) (fun e => by obtain ⟨h8, _⟩ := hr9 j e.symm; omega)).trans (q6.block j hj hx)⟩
  case hix => exact fun _ _ _ _ _ hs _ _ => hs
  case h0 => exact ⟨X, t, hT3, fun j hj => .inl hj, ok, rfl, rfl, Fr.refl _ _⟩
  case assign =>
    intro l x W K hK
    gi_wp2
    exact hK
  case body =>
    rintro l k x W hx ⟨Xk, tk, q1, q2, q3, q4, q5, q6⟩
    have hkl : k < ps.length := by
      have := (List.getElem?_eq_some_iff.1 hx).1
      rwa [backU_length] at this
    have hxe : x = (ps.length - 1 - k, ps.getD (ps.length - 1 - k) 0) := by
      unfold backU at hx
      rw [List.getElem?_map, List.getElem?_range hkl] at hx
      exact (Option.some.inj hx).symm
    subst hxe
    obtain ⟨q, hq⟩ : ∃ q, ps.getD (ps.length - 1 - k) 0 = q := ⟨_, rfl⟩
    have hqm : ps[ps.length - 1 - k]? = some q := by
      rw [← hq, List.getD_eq_getElem?_getD, List.getElem?_eq_getElem (by omega)]
      rfl
    have hq2 := h2 q (List.mem_of_getElem? hqm)
    have hqp := HC.out.2.2.1.lt q (List.mem_of_getElem? hqm)
    have hdr : ps.reverse.drop k = q :: ps.reverse.drop (k + 1) := by
      rw [List.drop_eq_getElem_cons (by rw [List.length_reverse]; exact hkl)]
      congr 1
      rw [List.getElem_reverse]
      exact (List.getElem?_eq_some_iff.1 hqm).2
    obtain ⟨f1, f2, f3, f4⟩ := free_step q3 (p := q) ⟨hq2, by rw [q4]; exact hqp⟩
    have hi0 : isPageT tk q = 0 := by unfold isPageT; rw [if_neg (by omega)]
    have hX1k : ¬ Xk 1 := fun h9 => (q2 1 h9).elim hX1 (fun h8 => by have := hb03.size; omega)
    have hFr := Free_ok q1 q3 q (by have := q3.head; omega) hi0 (powFr (powBelow htab hb03) q6 hX1) hX1k
    have hXM : X M := by obtain ⟨_, _, _, h9⟩ := HC.out.1; exact h9.xM
    have hct : W.cell? ⟨w.heap.size, 0, none⟩ = some (.pointer (some ⟨T, 0, none⟩)) := (hBt3.fr q6 (fun h9 => by have := hX0 _ h9; omega)).cell 0
    dsimp only
    rw [hq]
    have HI := Lib.hid (And.intro q1 (And.intro q2 (And.intro q5 q6)))
    clear q1 q2 q5 q6 hq hqm hx
    gi_wp2_with (refine ⟨trivial, ?_⟩; gi_at_call 20; refine (callsIn_wide.2 hFr).mono ?_; rintro e W' ⟨rfl, hT', hF'⟩)
    obtain ⟨q1, q2, q5, q6⟩ := HI.out
    have hs3W := q6.size
    have hsW := hF'.size
    have hnX : ∀ j, w3.heap.size ≤ j → Xk j → isC W j := fun j hj hx => (q2 j hx).elim (fun h9 => by have := hX0 j h9; have := hb03.size; omega) (fun h9 => h9.2)
    have hnL : ∀ j, w.heap.size ≤ j → j < w3.heap.size → ¬ Xk j := fun j hj hj2 hx => (q2 j hx).elim (fun h9 => by have := hX0 j h9; omega) (fun h9 => by omega)
    refine ⟨⟨hsW, fun j o hj ho hco => ?_⟩, ⟨hF'.block g (by have := hb3.size; omega) (hnL g (by have := hb1.size; omega) (by have := hb3.size; omega)), World.cell?_of_block (hF'.block w2.heap.size (by have := hBx.lt; omega) (hnL _ (by have := hb1.size; have := hb2.size; omega) hBx.lt))⟩,
      fun j => moreX Xk W j ∧ (j = M ∨ isC W' j), (freeT tk q).2, hT'.cells, fun j hj => ?_, f2, f4.trans q4, ?_, ?_⟩
    · refine (hF'.block j (Array.getElem?_eq_some_iff.1 ho).1 (fun hx => ?_)).trans ho
      obtain ⟨o', ho', hco'⟩ := hnX j hj hx
      rw [ho] at ho'
      cases ho'
      rw [hco] at hco'
      cases hco'
    · rcases hj.2 with rfl | h9
      · exact .inl hXM
      · rcases hj.1 with h8 | h8
        · exact (q2 j h8).imp id (fun h7 => ⟨h7.1, h9⟩)
        · exact .inr ⟨by omega, h9⟩
    · rw [q5, hdr]
      rw [freesT_cons, f1, if_neg (by simp)]
    · exact ⟨hF'.os.trans q6.os, hF'.tape.trans q6.tape, hF'.output.trans q6.output, Nat.le_trans hs3W hsW, fun j hj hx => (hF'.block j (Nat.lt_of_lt_of_le hj hs3W) (fun h9 => (q2 j h9).elim hx (fun h8 => by omega))).trans (q6.block j hj hx)⟩
  case done =>
    rintro D W hD ⟨Xk, tk, q1, q2, q3, q4, q5, q6⟩ hK
    rw [backU_length] at q5
    have hbr := hBr3.fr q6 (fun h9 => by have := hX0 _ h9; omega)
    have hcr : W.cell? ⟨w.heap.size + 1, 0, none⟩ = some .nilIface := hbr.cell 0
    have hfr := hbr.frozen 0
    gi_wp2
    obtain ⟨W2, hW2⟩ : ∃ W2, W.setCell ⟨w.heap.size + 1, 0, none⟩ .nilIface = W2 := ⟨_, rfl⟩
    have hK2 : W2.heap[D]? = some (.deferred (some [])) := by rw [← hW2]; exact (Below.heap_setCell W ⟨w.heap.size + 1, 0, none⟩ _ D (by show D ≠ w.heap.size + 1; omega)).trans hK
    have hc2 : W2.cell? ⟨w.heap.size + 1, 0, none⟩ = some .nilIface := by rw [← hW2]; exact (hbr.set_ 0 _).cell 0
    have hfr2 : Fr (fun j => j = w.heap.size + 1) W W2 := by rw [← hW2]; exact set_frX (X := fun j => j = w.heap.size + 1) rfl
    rw [hW2]
    refine ⟨by simp, .inl ⟨_, _, rfl, run_takeDeferred hK2, ?_⟩⟩
    have hgb := grownBy_putObj' W2 D (.deferred none)
    have hc3 : (W2.putObj D (.deferred none)).cell? ⟨w.heap.size + 1, 0, none⟩ = some .nilIface := (World.cell?_of_block (hgb.block (w.heap.size + 1) (by have := World.block_lt_of_cell? W2 _ hc2; exact this) (fun e => by cases e; omega))).trans hc2
    refine ⟨.nilIface, by simp [results, Tryz.results16, go_sem, hc3], rfl, ?_, ?_⟩
    · have hKX : KeepX Xk W (W2.putObj D (.deferred none)) := by
        refine ⟨Nat.le_trans hfr2.size hgb.size, fun j hj hl => ?_⟩
        rw [hgb.block j (Nat.lt_of_lt_of_le hl hfr2.size) (fun e => by cases e; exact (q2 _ hj).elim (fun h9 => by have := hX0 _ h9; have := hb03.size; omega) (fun h9 => by obtain ⟨_, o, ho, hco⟩ := h9; rw [hK] at ho; cases ho; cases hco))]
        exact hfr2.block j hl (fun e => by rw [e] at hj; exact (q2 _ hj).elim (fun h9 => by have := hX0 _ h9; omega) (fun h9 => by omega))
      rw [List.drop_eq_nil_of_le (by simp)]
      exact (q1.keep hKX).mono (fun j hj => (q2 j hj).imp id (fun h9 => Nat.le_trans hb03.size h9.1))
    · refine ⟨hgb.os.trans (hfr2.os.trans (q6.os.trans hb03.os)), hgb.tape.trans (hfr2.tape.trans (q6.tape.trans hb03.tape)), hgb.output.trans (hfr2.output.trans (q6.output.trans hb03.output)), Nat.le_trans hb03.size (Nat.le_trans q6.size (Nat.le_trans hfr2.size hgb.size)), fun j hj hx => ?_⟩
      have h9 := hb03.size
      rw [hgb.block j (by have := q6.size; have := hfr2.size; omega) (fun e => by cases e; omega), hfr2.block j (by have := q6.size; omega) (by omega), q6.block j (by omega) hx, hb03.block j hj]
  case stop =>
    rintro D c' k W _ _ h9 _
    exact h9.elim
end Go.Proofs.YtenfkghoolegfaaGreatDoor
set_option linter.unusedVariables false
namespace Go.Proofs.YtenfkghoolegfaaGreatDoor
open Go.RowKit
section
variable {P : Program} {ops : Array Oper} {Q : Exit → Act → World → Prop} {md : Region.Mode}
theorem wpOpIn_wide {l n : Nat} (hd : ∀ o ∈ ops.toList, ∀ c, o.op ≠ .defer c) (hL : ¬ LetsOut Q) {i : Nat} {K K' : Act → World → Prop} (hK : ∀ a w, K a w → K' a w) {a : Act} {w : World} (h : wpOp P ops Q i K a w) : wpOpIn (Fence.wide.inRound l) n P ops Q i K' a w := by
  unfold wpOp at h
  unfold wpOpIn
  cases ho : ops[i]? with
  | none => rw [ho] at h; exact hK _ _ h
  | some o =>
    rw [ho] at h
    simp only at h ⊢
    have hdo := hd o (by rw [Array.mem_toList_iff]; exact Array.mem_of_getElem? ho)
    by_cases hw : Region.wanted o (yielded ops a.tmps) = true
    · rw [if_pos hw] at h ⊢
      have h := h.resolve_right (fun h9 => hL h9.2)
      refine ⟨fun _ _ => trivial, ?_⟩
      rw [Oper.semAt_eq _ _ _ hdo]
      unfold Oper.wp at h
      generalize (execOp a.eval o).run P w = r at h
      cases r with
      | ok x w' =>
        cases x with
        | value v => exact hK _ _ h
        | skip => exact hK _ _ h
        | defer d => exact hK _ _ h
        | enter f args =>
          refine ⟨(fun h9 => by simp [Fence.wide] at h9), ?_⟩
          exact (callsIn_wide (n := n - 1)).2 (Calls.mono h fun e w'' he => by cases e <;> first | exact hK _ _ he | exact he)
        | row row args =>
          refine ⟨(fun h9 => by simp [Fence.wide] at h9), fun c cs _ => ?_⟩
          obtain ⟨v, w'', r, s⟩ := Rows.mono h (fun v w'' he => hK _ _ he) c cs
          exact ⟨v, w'', r, stepsIn_wide.2 s⟩
        | _ => exact h.elim
      | halt hh w' =>
        cases hh with
        | panic v => exact h
        | _ => exact h.elim
    · rw [if_neg hw] at h ⊢
      exact ⟨fun _ _ => trivial, hK _ _ h⟩
theorem wpAnyIn_wide {l n : Nat} (hd : ∀ o ∈ ops.toList, ∀ c, o.op ≠ .defer c) (hL : ¬ LetsOut Q) : ∀ (fuel : Nat) (listed : Array Bool) (a : Act) (w : World), wpAny P md ops Q fuel listed a w → wpAnyIn (Fence.wide.inRound l) n P md ops Q fuel listed a w
  | 0, _, _, _, h => h
  | fuel + 1, _, _, _, h => ⟨h.1, fun i hi => wpOpIn_wide hd hL (fun a' w' h' => wpAnyIn_wide hd hL fuel _ a' w' h') (h.2 i hi)⟩
theorem regionEI {l m : Nat} (n : Nat) {id : Nat} {a : Act} {w : World} (S : World → Prop) (hd : ∀ o ∈ ops.toList, ∀ c, o.op ≠ .defer c) (hL : ¬ LetsOut Q) (hm : P.follows .mixedOrders = true) (hs : Region.sinkB .any ops n = true) (hc : Region.chainB .any ops n = true) (hn : decide (n < ops.size) = true) (hsel : Region.noSelect ops = true)
    (hS : S w.drew) (h : S w.drew → Tl .any ops n (Array.replicate ops.size false) → wpAnyE P .any ops Q S n ops.size (Array.replicate ops.size false) a w.drew) : (Code.region id ops true).wpIn (Fence.wide.inRound l) m P Q a w :=
  wpIn_region_any hm (wpAnyIn_wide hd hL _ _ _ _ (wpAny_of_E _ _ _ _ (h hS ⟨hs, hc, of_decide_eq_true hn, hsel, ⟨by simp, (fun j oj _ hl => by rw [getD_replicate_false] at hl; cases hl), (fun t _ ht => by simp [ht])⟩⟩)))
end
end Go.Proofs.YtenfkghoolegfaaGreatDoor
