/- maps.Keys of a map of pages: its closure. Rows of pages' numbers beside a transaction. slices.AppendSeq, Collect at pages' numbers: walked. slices.Collect(maps.Keys(m)) at a transaction's map: walked. slices.insertionSortOrdered at pages' numbers: walked. slices.insertionSortOrdered at pages' numbers: walked. slices.Sort, slices.Sorted at a few pages' numbers: walked. The changes of a transaction: keys in order, in plain words; rows of images. The transaction's Changes: walked. The calls of PoolOnce: what is given out, put, taken back. PoolOnce: walked. live of the pool's statements: its calls. live of the pool's statements: walked. Runs of the interpreter: PoolNil at what came in. PoolNil: by runs. What comes in: a row of bytes. -/
import Derived.Test.YtenfkghoolegfaaGreatDoorUe
import Derived.Maps.Keyed
import Derived.RangeFuncSeq
import Derived.RangeFuncGives
import Derived.RangeFuncOwn
import Derived.RangeFuncKeeps
import Derived.RangeFuncFrom
import Derived.Sort.MapsRangeIn
import Derived.Sort.KeysCollected
import Derived.WalkKit
import Derived.OwnWalkIn
import Derived.TacticsInMore
import Derived.RegionIn
import Derived.LoopNIn
import Derived.LoopIn
import Derived.Shelf.AbstractIn
set_option linter.unusedVariables false
namespace Go.Proofs.YtenfkghoolegfaaGreatDoor
open Go.RowKit Go.Maps Go.Sort Go.Shelf
def encU (x : Int) : Value := .int .u32 x
theorem keyed_u : Keyed Tryz.prog 22 := int_keyed Tryz.underlying22
theorem keyOf_u {key : Value} {kl : Lit} (h : keyOf Tryz.prog 22 key = some kl) : ∃ x : Int, key = encU x ∧ kl = .int .u32 x ∧ (Lit.int .u32 x).wf = true := Maps.keyOf_int_inv Tryz.underlying22 h
/-- No key twice; a key has come just where the map has it and it is not left. -/
def CollU {H : Type} (D0 : DataW H) (left : Lit → Bool) (ss : List Int) : Prop := ss.Nodup ∧ ∀ x, x ∈ ss ↔ (has D0 (.int .u32 x) = true ∧ left (.int .u32 x) = false)
theorem CollU.start {H : Type} (D0 : DataW H) : CollU D0 (has D0) [] := ⟨List.nodup_nil, fun x => by cases has D0 (.int .u32 x) <;> simp⟩
theorem CollU.step {H : Type} {D0 : DataW H} {left : Lit → Bool} {ss : List Int} (h : CollU D0 left ss) {x : Int} {y : DataW H} (hlk : left (.int .u32 x) = true) (hat : ∀ zd, D0.atKey (.int .u32 x) zd = y) : CollU D0 (fun z => left z && !z.sameKey (.int .u32 x)) (ss ++ [x]) := by
  have hhas : has D0 (.int .u32 x) = true := has_true_of_atKey hat
  have hnew : x ∉ ss := fun hx => by have := ((h.2 x).1 hx).2; rw [hlk] at this; cases this
  refine ⟨?_, fun y => ?_⟩
  · rw [List.nodup_append]
    exact ⟨h.1, by simp, fun a ha b hb e => by simp only [List.mem_singleton] at hb; subst hb; exact hnew (e ▸ ha)⟩
  · by_cases hy : y = x
    · subst hy; simp [hhas, Lit.sameKey]
    · simp [h.2 y, hy, Lit.sameKey]
set_option maxRecDepth 100000 in
set_option maxHeartbeats 2000000 in
theorem keysU1_in {H : Type} (F : Fence) (n : Nat) (hF : F.fn 89) (hro : F.round = none) (hn : 1 ≤ n) (l Bm b nn : Nat) (D0 : DataW H) {R : Value → Option (DataW H × List MemPlace)} (J Jx : List Int → World → Prop)
    (hY : ∀ pre x W, J pre W → pre.length < Maps.size D0 → YieldAt F (n - 1) Tryz.prog l #[encU x] W fun e W' => (e = .returned (.bool true) ∧ J (pre ++ [x]) W' ∧ KeepsWalks W W') ∨ (e = .returned (.bool false) ∧ Jx (pre ++ [x]) W'))
    (W : World) (hJ : AbidesFrom W.heap.size J) (hm : W.cell? ⟨Bm, 0, none⟩ = some (.map (some b))) (hown : W.ownsMap Tryz.prog 22 R b nn D0) (h0 : J [] W) :
    CallsIn F n Tryz.prog 89 #[.func (.yield l) #[] #[], .pointer (some ⟨Bm, 0, none⟩)] W fun e W' => (∃ v, e = .returned v) ∧ ((∃ ss : List Int, (ss.Nodup ∧ ∀ x, x ∈ ss ↔ has D0 (.int .u32 x) = true) ∧ J ss W') ∨ (∃ pre, True ∧ Jx pre W')) := by
  refine callsIn_of_wp Tryz.func89 rfl hF ?_ hro
  simp only [Tryz.ntmps89, List.size_toArray, List.length_cons, List.length_nil, Nat.reduceAdd, Nat.reduceSub, Array.replicate_succ, Array.replicate_zero, List.push_toArray, List.append_toArray, List.nil_append, List.cons_append]
  gi_wp2_with (first
    | (gi_at_range; refine wpListIn_range_own _ rfl _ 91 rfl 22 23 keyed_u Tryz.underlying91 _ b nn _ rfl hown ?_; intro w0 hrg0 hg0 hs0)
    | gi_in)
  go_frame
  gi_loopw [3] (fun _ wr => ∃ (left : Lit → Bool) (cnt : Nat) (ss : List Int), wr.ranges Tryz.prog 22 R b W.heap.size nn D0 left cnt ∧ ss.length + cnt ≤ Maps.size D0 ∧ CollU D0 left ss ∧ J ss wr)
    (fun _ wr => wr.rangeLeft b W.heap.size)
  case atStart =>
    exact ⟨_, _, [], hrg0, by simp, CollU.start D0, hJ [] W w0 none h0 hg0 (fun r e => by cases e)⟩
  case round =>
    obtain ⟨left, cnt, ss, hrg, hcs, hC, hJs⟩ := hrel
    gi_wp2_with (first
      | (gi_at_next; refine wpListIn_next_ranges _ rfl _ rfl 22 keyed_u R encU id (fun key kl hk => by obtain ⟨x, hx, _⟩ := keyOf_u hk; exact ⟨x, hx⟩) (fun v _ _ => ⟨v, rfl⟩) b W.heap.size nn _ _ _ rfl hrg ?_ ?_)
      | gi_in)
    · intro hc0 hl0
      gi_wp2
      go_end0
      exact ⟨⟨_, rfl⟩, .inl ⟨ss, ⟨hC.1, fun x => by rw [hC.2 x, hl0]; simp⟩, hJs⟩⟩
    · intro x c kl yd yp w2 cnt2 hkey hlk hv hat hrg2 hlt hg2 hs2 hen
      obtain ⟨x', ex, rfl, _⟩ := keyOf_u hkey
      obtain rfl : x = x' := by simpa [encU] using ex
      have hJ2 : J ss w2 := hJ ss wr w2 (some W.heap.size) hJs hg2 (fun r e => by cases e; exact ⟨Nat.le_refl _, hrg.iter_walk⟩)
      obtain ⟨fn, tmps, assign, body, hy, hR⟩ := hY ss x w2 hJ2 (by omega)
      clear hs2
      gi_wp2
      refine hR.mono ?_
      rintro e W3 (⟨rfl, hJ3, hk3⟩ | ⟨rfl, hJx3⟩)
      · gi_wp2
        have hrg3 := hrg2.of_walks hk3
        go_roundw
        case rel => exact ⟨_, cnt2, ss ++ [x], hrg3, by simp; omega, hC.step hlk hat, hJ3⟩
        case measure => rw [hrg3.left_eq, hrg.left_eq]; exact hlt
      · gi_wp2
        refine bodyPost_ret (results_none rfl _ _ _) rfl ?_
        exact ⟨⟨_, rfl⟩, .inr ⟨_, trivial, hJx3⟩⟩
/-- maps.Keys: the map is boxed. -/
theorem keysU_any (M : Nat) (w : World) : Calls Tryz.prog 67 #[.map (some M)] w fun e w' => e = .returned (.func (.func 89) #[] #[.pointer (some ⟨w.heap.size, 0, none⟩)]) ∧ w' = w.alloc (.cells #[.map (some M)] 91) := by
  go_enter Tryz.func67, Tryz.ntmps67
  go_wp2
  go_ret
  exact ⟨rfl, rfl⟩
theorem keysU_stops {H : Type} (F : Fence) (n : Nat) (hF : F.fn 89) (hro : F.round = none) (hn : 1 ≤ n) (Bm b nn : Nat) (D0 : DataW H) {R : Value → Option (DataW H × List MemPlace)} (w : World) (hBm : Bm < w.heap.size)
    (hm : w.cell? ⟨Bm, 0, none⟩ = some (.map (some b))) (hown : w.ownsMap Tryz.prog 22 R b nn D0) :
    SeqStopsK F n Tryz.prog 89 #[.pointer (some ⟨Bm, 0, none⟩)] (fun x => #[encU x]) KeepsWalks (fun ss => ss.Nodup ∧ ∀ x, x ∈ ss ↔ has D0 (.int .u32 x) = true) (fun _ => True) (Maps.size D0) w := fun l J Jx W hW hJ _ hY h0 => by
  have hown' : W.ownsMap Tryz.prog 22 R b nn D0 := by
    have hbl := hown.lt
    obtain ⟨es, clock, hb, Ft, hs, hD⟩ := hown
    exact ⟨es, clock, (hW.block b hbl).trans hb, Ft, hs, hD⟩
  exact keysU1_in F n hF hro hn l Bm b nn D0 J Jx hY W hJ ((hW.cell (p := ⟨Bm, 0, none⟩) hBm).trans hm) hown' h0
end Go.Proofs.YtenfkghoolegfaaGreatDoor
set_option linter.unusedVariables false
namespace Go.Proofs.YtenfkghoolegfaaGreatDoor
open Go.RowKit
def ul (l : List Nat) : List Value := l.map fun n => .int .u32 (n : Nat)
theorem ul_len (l : List Nat) : (ul l).length = l.length := by simp [ul]
theorem ul_app (l m : List Nat) : ul l ++ ul m = ul (l ++ m) := by simp [ul]
theorem ul_one (l : List Nat) : ∀ u ∈ ul l, u.oneCell' = true := by
  intro u hu
  unfold ul at hu
  obtain ⟨n, _, rfl⟩ := List.mem_map.1 hu
  rfl
theorem TU4 : SlT Tryz.prog 35 22 1 4 := SlT.of Tryz.underlying35 (z := .int .u32 0) (by kernel_rfl) rfl (by omega) (by omega)
/-- A row of numbers of the law's own, outside of Y. -/
structure RowN (w : World) (base : Nat) (Y : Nat → Prop) (A : Option Addr) (c : Nat) (l : List Nat) : Prop where
  own : w.ownsRow base 22 1 (.slice A l.length c) l.length (ul l)
  far : ∀ ad, A = some ad → ¬ Y ad.block
theorem RowN.lt {w : World} {base : Nat} {Y : Nat → Prop} {A : Option Addr} {c : Nat} {l : List Nat} (h : RowN w base Y A c l) : ∀ ad, A = some ad → ad.block < w.heap.size ∧ base ≤ ad.block := by
  rintro ad rfl
  rcases h.own.2 with ⟨h0, _⟩ | ⟨g, cap, cur, e1, h2, h3, _⟩
  · cases h0
  · simp only [Value.slice.injEq, Option.some.injEq] at e1
    rw [e1.1]
    exact ⟨(Array.getElem?_eq_some_iff.1 h3).1, h2⟩
theorem RowN.keep {w w' : World} {base : Nat} {Y Y' : Nat → Prop} {A : Option Addr} {c : Nat} {l : List Nat} (h : RowN w base Y A c l) (hk : ∀ ad, A = some ad → w'.heap[ad.block]? = w.heap[ad.block]?) (hY : ∀ ad, A = some ad → ¬ Y' ad.block) : RowN w' base Y' A c l := by
  refine ⟨⟨h.own.1, h.own.2.imp id ?_⟩, hY⟩
  rintro ⟨g, cap, cur, e1, h2, h3, r⟩
  simp only [Value.slice.injEq] at e1
  obtain ⟨rfl, e2, e3⟩ := e1
  exact ⟨g, cap, cur, by rw [e3], h2, (hk _ rfl).trans h3, r⟩
theorem RowN.fr {w w' : World} {base : Nat} {X Y Y' : Nat → Prop} {A : Option Addr} {c : Nat} {l : List Nat} (h : RowN w base Y A c l) (hf : Fr X w w') (hX : ∀ k, X k → Y k) (hY : ∀ k, Y' k → Y k ∨ w.heap.size ≤ k) : RowN w' base Y' A c l :=
  h.keep (fun ad e => hf.block _ (h.lt ad e).1 (fun hx => h.far ad e (hX _ hx))) (fun ad e hy => (hY _ hy).elim (h.far ad e) (fun h2 => by have := (h.lt ad e).1; omega))
theorem RowN.reads {w : World} {base : Nat} {Y : Nat → Prop} {A : Option Addr} {c : Nat} {l : List Nat} (h : RowN w base Y A c l) : Reads w w.heap.size 1 A l.length (ul l) := Reads.of_own h.own
theorem RowN.cell {w : World} {base : Nat} {Y : Nat → Prop} {A : Option Addr} {c : Nat} {l : List Nat} (h : RowN w base Y A c l) {k n : Nat} (hk : l[k]? = some n) : ∃ g, A = some ⟨g, 0, none⟩ ∧ l.length ≤ c ∧ w.cell? ⟨g, k, none⟩ = some (.int .u32 (n : Nat)) := by
  have hkl := (List.getElem?_eq_some_iff.1 hk).1
  rcases h.own.2 with ⟨h0, h1⟩ | ⟨g, cap, cur, e1, h2, h3, h4, h5, h6, h7⟩
  · omega
  · simp only [Value.slice.injEq] at e1
    obtain ⟨rfl, _, rfl⟩ := e1
    refine ⟨g, rfl, h4, ?_⟩
    have hu : (ul l)[k]? = some (.int .u32 (n : Nat)) := by unfold ul; rw [List.getElem?_map, hk]; rfl
    rw [← h7, List.getElem?_take] at hu
    rw [if_pos (by omega)] at hu
    unfold World.cell?
    rw [h3]
    simpa using hu
/-- A row whose last numbers are dropped. -/
theorem RowN.take {w : World} {base : Nat} {Y : Nat → Prop} {A : Option Addr} {c : Nat} {l : List Nat} (h : RowN w base Y A c l) (k : Nat) (hk : k ≤ l.length) : RowN w base Y A c (l.take k) := by
  have hl : (l.take k).length = k := by rw [List.length_take]; omega
  refine ⟨?_, h.far⟩
  rw [hl]
  refine ⟨by rw [ul_len, hl]; omega, ?_⟩
  rcases h.own.2 with ⟨h0, h1⟩ | ⟨g, cap, cur, e1, h2, h3, h4, h5, h6, h7⟩
  · obtain rfl : k = 0 := by omega
    simp only [Value.slice.injEq] at h0
    obtain ⟨rfl, _, rfl⟩ := h0
    exact .inl ⟨rfl, rfl⟩
  · simp only [Value.slice.injEq] at e1
    obtain ⟨rfl, _, rfl⟩ := e1
    refine .inr ⟨g, c, cur, rfl, h2, h3, by omega, h5, h6, ?_⟩
    have : ul (l.take k) = (ul l).take k := by unfold ul; rw [List.map_take]
    rw [this, ← h7, List.take_take]
    congr 1
    omega
theorem ownB {A : Option Addr} {n c : Nat} {g : Nat} (h : (.slice A n c : Value).ownBlock = some g) : ∃ ad, A = some ad ∧ ad.block = g := by
  cases A with
  | none => cases h
  | some ad => exact ⟨ad, rfl, by simpa [Value.ownBlock] using h⟩
/-- A row behind an append. -/
theorem RowN.grown {w w' : World} {base : Nat} {Y : Nat → Prop} {A A' : Option Addr} {c c' n : Nat} {l m : List Nat} (h : RowN w base Y A c l) (hY : ∀ k, Y k → k < w.heap.size) (ho : w'.ownsRow base 22 1 (.slice A' m.length c') m.length (ul m)) (hb : (.slice A' m.length c' : Value).ownBlock = (.slice A n c : Value).ownBlock ∨ (.slice A' m.length c' : Value).ownBlock = some w.heap.size) : RowN w' base Y A' c' m := by
  refine ⟨ho, fun ad had hy => ?_⟩
  subst had
  rcases hb with hb | hb
  · obtain ⟨ad', e, e2⟩ := ownB (A := A) (n := n) (c := c) (g := ad.block) (hb.symm.trans rfl)
    exact h.far ad' e (by rw [e2]; exact hy)
  · have : ad.block = w.heap.size := by simpa [Value.ownBlock] using hb
    have := hY _ hy
    omega
theorem grown_at {w w' : World} {A : Option Addr} {n c k : Nat} (h : w.grownBy w' (.slice A n c : Value).ownBlock) (hk : k < w.heap.size) (hA : ∀ ad, A = some ad → ad.block ≠ k) : w'.heap[k]? = w.heap[k]? :=
  h.block k hk fun e => by
    obtain ⟨ad, e1, e2⟩ := ownB e.symm
    exact hA ad e1 e2
theorem grown_below {w w' : World} {base : Nat} {A : Option Addr} {n c : Nat} (h : w.grownBy w' (.slice A n c : Value).ownBlock) (hb : base ≤ w.heap.size) (hA : ∀ ad, A = some ad → base ≤ ad.block) : Below base w w' :=
  ⟨h.os, h.tape, h.output, h.size, fun k hk => grown_at h (by omega) (fun ad e hh => by have := hA ad e; omega)⟩
theorem reads_u {w : World} {A : Option Addr} {c base : Nat} {Y : Nat → Prop} {o : List Nat} (h : RowN w base Y A c o) : Reads w w.heap.size 1 A o.length (ul o) := Reads.of_own h.own
theorem reads_utake {w : World} {A : Option Addr} {c base : Nat} {Y : Nat → Prop} {o : List Nat} (h : RowN w base Y A c o) {m : Nat} (hm : m ≤ o.length) : Reads w w.heap.size 1 A m (ul (o.take m)) := by
  have := (h.take m hm).reads
  rwa [show (o.take m).length = m by rw [List.length_take]; omega] at this
theorem reads_udrop {w : World} {g c base : Nat} {Y : Nat → Prop} {o : List Nat} (h : RowN w base Y (some ⟨g, 0, none⟩) c o) {m : Nat} (hm : m ≤ o.length) : Reads w w.heap.size 1 (some ⟨g, m, none⟩) (o.length - m) (ul (o.drop m)) := by
  refine ⟨by rw [ul_len, List.length_drop]; omega, fun h0 => ⟨_, rfl, (h.lt _ rfl).1, fun j u hu => ?_⟩⟩
  unfold ul at hu
  rw [List.getElem?_map, List.getElem?_drop] at hu
  cases ho : o[m + j]? with
  | none => rw [ho] at hu; cases hu
  | some n =>
    rw [ho] at hu
    simp only [Option.map_some, Option.some.injEq] at hu
    subst hu
    obtain ⟨g', e, _, hc⟩ := h.cell ho
    cases e
    rw [show (⟨g, m, none⟩ : Addr).add j = ⟨g, m + j, none⟩ by unfold Addr.add; split <;> simp_all]
    exact hc
end Go.Proofs.YtenfkghoolegfaaGreatDoor
set_option linter.unusedVariables false
namespace Go.Proofs.YtenfkghoolegfaaGreatDoor
open Go.RowKit Go.Maps Go.Sort Go.Shelf
attribute [local go_sem] Oper.semAt_some
theorem own_kept {W W' : World} {base e s n : Nat} {v : Value} {xs : List Value} {row : Option Nat} (h : W.ownsRow base e s v n xs) (hg : W.grownBy W' row) (hr : ∀ r, row = some r → ∃ o : Obj, W.heap[r]? = some o ∧ o.isCells = false) : W'.ownsRow base e s v n xs := by
  refine ⟨h.1, h.2.imp id ?_⟩
  rintro ⟨g, cap, cur, e1, e2, e3, r⟩
  refine ⟨g, cap, cur, e1, e2, (hg.block g (Array.getElem?_eq_some_iff.1 e3).1 (fun e => ?_)).trans e3, r⟩
  obtain ⟨o, ho, hc⟩ := hr g e.symm
  rw [e3] at ho
  cases ho
  cases hc
def us (l : List Int) : List Value := l.map encU
theorem us_len (l : List Int) : (us l).length = l.length := by simp [us]
theorem us_app (l : List Int) (x : Int) : us l ++ us [x] = us (l ++ [x]) := by simp [us]
theorem us_one (l : List Int) : ∀ u ∈ us l, u.oneCell' = true := by
  intro u hu
  unfold us at hu
  obtain ⟨n, _, rfl⟩ := List.mem_map.1 hu
  rfl
theorem own_type {W : World} {base n : Nat} {A : Option Addr} {c : Nat} {xs : List Value} {g : Nat} {cs : Array Value} (h : W.ownsRow base 22 1 (.slice A n c) n xs) (hB : Blk W g 35 cs) : (.slice A n c : Value).ownBlock ≠ some g := by
  intro e
  obtain ⟨ad, rfl, e2⟩ := ownB e
  rcases h.2 with ⟨h0, _⟩ | ⟨g', cap, cur, e1, _, e3, _⟩
  · cases h0
  · simp only [Value.slice.injEq, Option.some.injEq] at e1
    rw [e1.1] at e2
    have e2 : g' = g := e2
    rw [e2, show W.heap[g]? = _ from hB] at e3
    injection e3 with e3
    injection e3 with _ e4 _
    exact absurd e4 (by decide)
theorem own_cells {W : World} {base n : Nat} {A : Option Addr} {c : Nat} {xs : List Value} (h : W.ownsRow base 22 1 (.slice A n c) n xs) : ∀ (j : Nat) (o : Obj), (.slice A n c : Value).ownBlock = some j → W.heap[j]? = some o → o.isCells = true := by
  intro j o e ho
  obtain ⟨ad, rfl, e2⟩ := ownB e
  rcases h.2 with ⟨h0, _⟩ | ⟨g', cap, cur, e1, _, e3, _⟩
  · cases h0
  · simp only [Value.slice.injEq, Option.some.injEq] at e1
    rw [e1.1] at e2
    have e2 : g' = j := e2
    rw [← e2, e3] at ho
    cases ho
    rfl
set_option maxHeartbeats 1000000 in
set_option maxRecDepth 100000 in
theorem appSeq_any {H : Type} (Bm b nn : Nat) (D0 : DataW H) {R : Value → Option (DataW H × List MemPlace)} (w : World) (hBm : Bm < w.heap.size) (hm : w.cell? ⟨Bm, 0, none⟩ = some (.map (some b))) (hown : w.ownsMap Tryz.prog 22 R b nn D0) (hN : Maps.size D0 ≤ 900) :
    Calls Tryz.prog 108 #[.slice none 0 0, .func (.func 89) #[] #[.pointer (some ⟨Bm, 0, none⟩)]] w fun e w' => ∃ (ss : List Int) (A : Option Addr) (c : Nat), e = .returned (.slice A ss.length c) ∧ (ss.Nodup ∧ ∀ x, x ∈ ss ↔ has D0 (.int .u32 x) = true) ∧
      w'.ownsRow w.heap.size 22 1 (.slice A ss.length c) ss.length (us ss) ∧ Below w.heap.size w w' := by
  have hst := keysU_stops Fence.wide 2 trivial rfl (by omega) Bm b nn D0 w hBm hm hown
  have bS := Blk.new w 35 #[.slice none 0 0]
  refine (callsIn_wide (n := 3)).1 ?_
  refine callsIn_of_wp_marks Tryz.func108 rfl trivial ?_ rfl
  simp only [Tryz.ntmps108, List.size_toArray, List.length_cons, List.length_nil, Nat.reduceAdd, Nat.reduceSub, Array.replicate_succ, Array.replicate_zero, List.push_toArray, List.append_toArray, List.nil_append, List.cons_append]
  gi_wp2
  refine' wpIn_rangeFunc_ownF rfl (by omega) (gf := 89) (lb := #[.pointer (some ⟨Bm, 0, none⟩)]) rfl trivial (enters_of Tryz.func89 (by kernel_rfl) rfl) hst walksK_t ?hkb ((Below.refl _ w).alloc (Nat.le_refl _) _) (fun _ => rfl)
    (fun pre W => (∃ (A : Option Addr) (c : Nat), Blk W w.heap.size 35 #[.slice A pre.length c] ∧ W.ownsRow w.heap.size 22 1 (.slice A pre.length c) pre.length (us pre)) ∧ Below w.heap.size w W)
    (fun _ _ _ => False) ?hi ?hix ?h0 _ ?assign ?body ?done ?stop
  case hkb => exact fun W l o o' hl ho hc hw => walksK_b (w := w) W l o o' (by simp at hl; omega) ho hc hw
  case hi =>
    refine OwnFrom.and (Own.from (fun s A B row hs hg hr => ?_) _) (ownFrom_below (Nat.le_refl _) (by simp))
    obtain ⟨A1, c1, h3, h4⟩ := hs
    exact ⟨A1, c1, (grownBy_keeps_cells hg hr h3 rfl).trans h3, own_kept h4 hg hr⟩
  case hix => exact fun _ _ _ _ _ hs _ _ => hs
  case h0 =>
    refine ⟨⟨none, 0, heap_alloc_new w _, ⟨rfl, .inl ⟨rfl, rfl⟩⟩⟩, (Below.refl _ w).alloc (Nat.le_refl _) _⟩
  case assign =>
    intro l x W K hK
    gi_wp2
    exact hK
  case body =>
    rintro l pre x W ⟨⟨A1, c1, hB1, ho1⟩, hBa⟩ hp
    have hc1 := hB1.cell 0
    have hf1 := hB1.frozen 0
    have hc1 : W.cell? ⟨w.heap.size, 0, none⟩ = some (.slice A1 pre.length c1) := hc1
    obtain ⟨i, z, i1, i2, i3, i4, i5⟩ := TU4.info
    have hbW : Below W.heap.size W (W.alloc (.cells #[.int .u32 x] 22)) := (Below.refl _ W).alloc (Nat.le_refl _) _
    have hB2 := hB1.below hbW hB1.lt
    have ho2 : (W.alloc (.cells #[.int .u32 x] 22)).ownsRow w.heap.size 22 1 (.slice A1 pre.length c1) pre.length (us pre) := ho1.alloc _
    have hrn : Reads (W.alloc (.cells #[.int .u32 x] 22)) (W.alloc (.cells #[.int .u32 x] 22)).heap.size 1 (some ⟨W.heap.size, 0, none⟩) 1 (us [x]) := reads_blk (Blk.new _ _ _) rfl
    have hcn : ∀ j u, (us [x])[j]? = some u → (W.alloc (.cells #[.int .u32 x] 22)).cell? ((⟨W.heap.size, 0, none⟩ : Addr).add j) = some u := by
      obtain ⟨ad, e, _, h⟩ := hrn.2 (by omega)
      cases e
      exact h
    unfold encU
    gi_wp2_with (gi_at_builtin; (refine wpListIn_append_own _ rfl (.tmp 8) (.tmp 10) 35 rfl w.heap.size 22 i z 1 4 TU4.under i1 i2 i3 i4 i5 TU4.pos _ pre.length (us pre) rfl ho2 ⟨W.heap.size, 0, none⟩ 1 1 (us [x]) rfl rfl hcn (us_one _) (by simp only [maxLen]; omega) (by omega) (by have := hBa.size; simp; omega) ?_; intro v' w3 ho3 hg3 _; obtain ⟨A3, c3, rfl⟩ := own_formN ho3; have hB3 : Blk w3 w.heap.size 35 #[.slice A1 pre.length c1] := (hg3.block _ hB2.lt (fun e => own_type ho2 hB2 e.symm)).trans hB2; have hc3 : w3.cell? ⟨w.heap.size, 0, none⟩ = some (.slice A1 pre.length c1) := hB3.cell 0; have hf3 := hB3.frozen 0))
    have hB4 := hB3.set_ 0 (.slice A3 (pre.length + 1) c3)
    have hko : KeepsOthers W (w3.setCell ⟨w.heap.size, 0, none⟩ (.slice A3 (pre.length + 1) c3)) := ((KeepsOthers.alloc _ _).trans (KeepsOthers.of_grownBy hg3 (own_cells ho2))).trans (KeepsOthers.setCell _ _ _)
    refine ⟨hko, hko.walks, ⟨A3, c3, by rw [List.length_append]; exact hB4, ?_⟩, ?_⟩
    · have h5 : w3.ownsRow w.heap.size 22 1 (.slice A3 (pre ++ [x]).length c3) (pre ++ [x]).length (us (pre ++ [x])) := by
        rw [List.length_append, ← us_app]; exact ho3
      refine ⟨h5.1, h5.2.imp id ?_⟩
      rintro ⟨g', cap, cur, e1, e2, e3, r⟩
      refine ⟨g', cap, cur, e1, e2, (Below.heap_setCell _ _ _ _ (fun e => ?_)).trans e3, r⟩
      have e : g' = w.heap.size := e
      rw [e, show w3.heap[w.heap.size]? = _ from hB3] at e3
      injection e3 with e3
      injection e3 with _ e4 _
      exact absurd e4 (by decide)
    · have hb3 : Below w.heap.size w w3 := (hBa.alloc hBa.size _).trans (grown_below hg3 (by have := hBa.size; simp; omega) (fun ad e => by
        subst e
        rcases ho2.2 with ⟨h0, _⟩ | ⟨g', cap, cur, e1, e2, _⟩
        · cases h0
        · simp only [Value.slice.injEq, Option.some.injEq] at e1
          rw [e1.1]
          exact e2))
      exact hb3.setCell (p := ⟨w.heap.size, 0, none⟩) (Nat.le_refl _) _
  case done =>
    rintro D ss W hD hS ⟨⟨A1, c1, hB1, ho1⟩, hBa⟩ hK
    have hc1 : W.cell? ⟨w.heap.size, 0, none⟩ = some (.slice A1 ss.length c1) := hB1.cell 0
    have hf1 := hB1.frozen 0
    gi_wp2
    refine ⟨by simp, .inl ⟨_, _, rfl, run_takeDeferred hK, ?_⟩⟩
    refine ⟨_, results_tmp rfl _ _ _, ?_⟩
    have hput : W.grownBy (W.putObj D (.deferred none)) (some D) := grownBy_putObj' W D _
    exact ⟨ss, A1, c1, rfl, hS, own_kept ho1 hput (fun r e => by cases e; exact ⟨_, hK, rfl⟩), hBa.trans (belowK_b (w := w) (Nat.le_refl _) W D _ _ (by simp at hD; omega) hK rfl rfl)⟩
  case stop =>
    rintro D c pre W _ _ h _
    exact h.elim
end Go.Proofs.YtenfkghoolegfaaGreatDoor
set_option linter.unusedVariables false
namespace Go.Proofs.YtenfkghoolegfaaGreatDoor
open Go.RowKit Go.Maps Go.Sort Go.Shelf
open Go.WideElems (Fit rd rg)
def Rv : Value → Option (DataW Unit × List MemPlace) := fun _ => some (.nil, [])
theorem rd_ent {x : KE} (h : x.nm < 4294967296) : rd Tryz.prog 22 Rv x.ent = some (.int .u32 (x.nm : Nat), .nil) := by
  have hw : (Lit.int .u32 (x.nm : Nat)).wf = true := by
    have e1 : IntKind.u32.min = 0 := rfl
    have e2 : IntKind.u32.max = 4294967295 := rfl
    simp [Lit.wf, e1, e2]; omega
  have hk : keyOf Tryz.prog 22 (.int .u32 (x.nm : Nat)) = some (.int .u32 (x.nm : Nat)) := keyOf_int_mk Tryz.underlying22 hw
  exact WideElems.rd_mk (yv := (.nil, [])) hk rfl
/-- A transaction's map, as the kit's laws on ranges ask it: keys below 2^32, each once; the clocks below the map's, each once. -/
structure MapOK (O : List KE) (ck : Nat) : Prop where
  nm : ∀ x ∈ O, x.nm < 4294967296
  one : (O.map KE.nm).Nodup
  born : ∀ x ∈ O, x.born < ck
  clocks : (O.map KE.born).Nodup
  few : O.length ≤ 900
theorem own_map {w : World} {M : Nat} {O : List KE} {ck : Nat} (hM : w.heap[M]? = some (.map (O.map KE.ent).toArray ck)) (h : MapOK O ck) :
    w.ownsMap Tryz.prog 22 Rv M O.length (.map (((O.map KE.ent).map (rg Tryz.prog 22 Rv)).foldr DataW.insert [])) := by
  refine ⟨_, ck, hM, ⟨by simp [maxLen]; have := h.few; omega, ⟨?_, ?_, ?_⟩, ?_⟩, by simp, rfl⟩
  · intro x hx
    simp only [List.mem_map] at hx
    obtain ⟨y, hy, rfl⟩ := hx
    exact h.born y hy
  · simp only [List.map_map]
    exact h.clocks
  · simp only [List.map_map]
    have h1 := h.one
    rw [List.Nodup, List.pairwise_map] at h1 ⊢
    exact h1.imp fun hne e => hne (by have h := e; simp [KE.ent] at h; omega)
  · intro x hx
    simp only [List.mem_map] at hx
    obtain ⟨y, hy, rfl⟩ := hx
    exact ⟨_, rd_ent (h.nm y hy)⟩
set_option maxHeartbeats 1000000 in
set_option maxRecDepth 100000 in
theorem collect_any {H : Type} (Bm b nn : Nat) (D0 : DataW H) {R : Value → Option (DataW H × List MemPlace)} (w : World) (hBm : Bm < w.heap.size) (hm : w.cell? ⟨Bm, 0, none⟩ = some (.map (some b))) (hown : w.ownsMap Tryz.prog 22 R b nn D0) (hN : Maps.size D0 ≤ 900) :
    Calls Tryz.prog 87 #[.func (.func 89) #[] #[.pointer (some ⟨Bm, 0, none⟩)]] w fun e w' => ∃ (ss : List Int) (A : Option Addr) (c : Nat), e = .returned (.slice A ss.length c) ∧ (ss.Nodup ∧ ∀ x, x ∈ ss ↔ has D0 (.int .u32 x) = true) ∧
      w'.ownsRow w.heap.size 22 1 (.slice A ss.length c) ss.length (us ss) ∧ Below w.heap.size w w' := by
  have hA := appSeq_any Bm b nn D0 w hBm hm hown hN
  clear hown
  go_enter Tryz.func87, Tryz.ntmps87
  go_wp2_with (go_at_call 108; refine hA.mono ?_; rintro e w2 ⟨ss, A, c, rfl, h1, h2, hb⟩)
  go_ret
  exact ⟨ss, A, c, rfl, h1, h2, hb⟩
end Go.Proofs.YtenfkghoolegfaaGreatDoor
set_option linter.unusedVariables false
namespace Go.Proofs.YtenfkghoolegfaaGreatDoor
open Go.RowKit
set_option maxHeartbeats 1000000 in
set_option maxRecDepth 100000 in
theorem Less_any (x y : Int) (w : World) : Calls Tryz.prog 161 #[.int .u32 x, .int .u32 y] w fun e w' => e = .returned (.bool (decide (x < y))) ∧ w' = w := by
  have hx : (x != x) = false := by simp
  have hy : (y != y) = false := by simp
  go_enter Tryz.func161, Tryz.ntmps161
  go_wp2
  go_ret
  exact ⟨retB rfl, rfl⟩
/-- Two numbers that stand side by side, the other way round. -/
def swapL (l : List Int) (j : Nat) : List Int := (l.set (j + 1) (l.getD j 0)).set j (l.getD (j + 1) 0)
theorem swapL_len (l : List Int) (j : Nat) : (swapL l j).length = l.length := by simp [swapL]
theorem swapL_get (l : List Int) (j p : Nat) (h : j + 1 < l.length) : (swapL l j).getD p 0 = if p = j then l.getD (j + 1) 0 else if p = j + 1 then l.getD j 0 else l.getD p 0 := by
  unfold swapL
  have g : ∀ (m : List Int) (a k : Nat) (v : Int), a < m.length → (m.set a v).getD k 0 = if k = a then v else m.getD k 0 := by
    intro m a k v ha
    rw [List.getD_eq_getElem?_getD, List.getD_eq_getElem?_getD, List.getElem?_set]
    by_cases hk : a = k
    · subst hk; rw [if_pos rfl, if_pos ha, if_pos rfl]; rfl
    · rw [if_neg hk, if_neg (fun e => hk e.symm)]
  rw [g _ _ _ _ (by rw [List.length_set]; omega), g _ _ _ _ h]
theorem swapL_perm : ∀ (l : List Int) (j : Nat), j + 1 < l.length → (swapL l j).Perm l
  | [], j, h => by simp at h
  | [a], j, h => by simp at h
  | a :: b :: l, 0, h => by
    show (b :: a :: l).Perm (a :: b :: l)
    exact List.Perm.swap a b l
  | a :: b :: l, j + 1, h => by
    have ih := swapL_perm (b :: l) j (by simpa using h)
    exact ih.cons a
/-- The first i + 1 numbers are in order, but for the one at j, which may be too far behind. -/
def SrtJ (l : List Int) (i j : Nat) : Prop := (∀ p q, p < q → q ≤ i → p ≠ j → q ≠ j → l.getD p 0 ≤ l.getD q 0) ∧ ∀ q, j < q → q ≤ i → l.getD j 0 ≤ l.getD q 0
def Srt (l : List Int) (i : Nat) : Prop := ∀ p q, p < q → q < i → l.getD p 0 ≤ l.getD q 0
theorem SrtJ.start {l : List Int} {i : Nat} (h : Srt l i) : SrtJ l i i := ⟨fun p q hp hq h1 h2 => h p q hp (by omega), fun q h1 h2 => by omega⟩
theorem SrtJ.done {l : List Int} {i j : Nat} (h : SrtJ l i j) (hj : j = 0 ∨ l.getD (j - 1) 0 ≤ l.getD j 0) : Srt l (i + 1) := by
  intro p q hp hq
  by_cases h1 : p = j
  · subst h1; exact h.2 q hp (by omega)
  · by_cases h2 : q = j
    · subst h2
      rcases hj with hj | hj
      · omega
      · by_cases h3 : p = q - 1
        · subst h3; exact hj
        · exact Int.le_trans (h.1 p (q - 1) (by omega) (by omega) h1 (by omega)) hj
    · exact h.1 p q hp (by omega) h1 h2
theorem SrtJ.swap {l : List Int} {i j : Nat} (h : SrtJ l i (j + 1)) (hi : i < l.length) (hj : j + 1 ≤ i) (hlt : l.getD (j + 1) 0 < l.getD j 0) : SrtJ (swapL l j) i j := by
  have hl : j + 1 < l.length := by omega
  refine ⟨fun p q hp hq h1 h2 => ?_, fun q h1 h2 => ?_⟩
  · rw [swapL_get l j p hl, swapL_get l j q hl, if_neg h1, if_neg h2]
    by_cases h3 : p = j + 1
    · rw [if_pos h3, if_neg (by omega)]
      exact h.1 j q (by omega) hq (by omega) (by omega)
    · rw [if_neg h3]
      by_cases h4 : q = j + 1
      · rw [if_pos h4]
        exact h.1 p j (by omega) (by omega) (by omega) (by omega)
      · rw [if_neg h4]
        exact h.1 p q hp hq (by omega) (by omega)
  · rw [swapL_get l j j hl, swapL_get l j q hl, if_pos rfl, if_neg (by omega)]
    by_cases h3 : q = j + 1
    · rw [if_pos h3]; omega
    · rw [if_neg h3]
      exact h.2 q (by omega) h2
end Go.Proofs.YtenfkghoolegfaaGreatDoor
set_option linter.unusedVariables false
namespace Go.Proofs.YtenfkghoolegfaaGreatDoor
open Go.RowKit
abbrev RowS (w : World) (base g cap n : Nat) (l : List Int) : Prop := w.ownsRow base 22 1 (.slice (some ⟨g, 0, none⟩) n cap) n (us l)
theorem rowS_cell {w : World} {base g cap n : Nat} {l : List Int} (h : RowS w base g cap n l) {j : Nat} (hj : j < n) : w.cell? ⟨g, j, none⟩ = some (.int .u32 (l.getD j 0)) ∧ w.frozen? ⟨g, j, none⟩ = false ∧ l.length = n ∧ n ≤ cap := by
  have hl : l.length = n := by have := h.1; rw [us_len] at this; omega
  rcases h.2 with ⟨h0, _⟩ | ⟨g', cap', cur, e1, h2, h3, h4, h5, h6, h7⟩
  · cases h0
  · simp only [Value.slice.injEq, Option.some.injEq, Addr.mk.injEq] at e1
    obtain ⟨⟨rfl, _⟩, _, rfl⟩ := e1
    refine ⟨?_, ?_, hl, h4⟩
    · have hu : (us l)[j]? = some (.int .u32 (l.getD j 0)) := by
        unfold us
        rw [List.getElem?_map, List.getD_eq_getElem?_getD, List.getElem?_eq_getElem (show j < l.length by omega)]
        rfl
      rw [← h7, List.getElem?_take, if_pos (by omega)] at hu
      unfold World.cell?
      rw [h3]
      simpa using hu
    · unfold World.frozen?
      rw [h3]
      simp
set_option maxHeartbeats 4000000 in
set_option maxRecDepth 1000000 in
theorem insSort_any {base g cap : Nat} (l : List Int) (w : World) (ho : RowS w base g cap l.length l) (hl : l.length ≤ 900) :
    Calls Tryz.prog 155 #[.slice (some ⟨g, 0, none⟩) l.length cap, .int .i64 0, .int .i64 l.length] w fun e w' => e = .returned (.tuple #[]) ∧ ∃ l' : List Int, l'.Perm l ∧ Srt l' l.length ∧ RowS w' base g cap l.length l' ∧ Fr (fun k => k = g) w w' := by
  go_enter Tryz.func155, Tryz.ntmps155
  go_wp2
  go_loopw [6] (fun i wr => ∃ (k : Nat) (l' : List Int), 1 ≤ k ∧ i = .int .i64 k ∧ k ≤ l.length + 1 ∧ l'.Perm l ∧ Srt l' k ∧ RowS wr base g cap l.length l' ∧ Fr (fun k => k = g) w wr) (fun i _ => l.length + 1 - (intOf i).toNat)
  case atStart => exact ⟨1, l, Nat.le_refl _, rfl, by omega, List.Perm.refl _, fun p q hp hq => by omega, ho, Fr.refl _ _⟩
  case round =>
    clear ho
    obtain ⟨k, l1, hk1, rfl, hk2, hp1, hs1, ho1, hf1⟩ := hrel
    by_cases hlt : k < l.length
    · have d1 : decide (k < l.length) = true := decide_eq_true hlt
      have hl1 : l1.length = l.length := hp1.length_eq
      go_wp2
      go_loopw [7] (fun jv wr2 => ∃ (j : Nat) (l2 : List Int), jv = .int .i64 j ∧ j ≤ k ∧ l2.Perm l ∧ SrtJ l2 k j ∧ RowS wr2 base g cap l.length l2 ∧ Fr (fun k => k = g) w wr2) (fun jv _ => (intOf jv).toNat)
      case atStart => exact ⟨k, l1, rfl, Nat.le_refl _, hp1, SrtJ.start hs1, ho1, hf1⟩
      case round =>
        clear hp1 hs1 ho1 hf1
        obtain ⟨j, l2, rfl, hjk, hp2, hs2, ho2, hf2⟩ := hrel
        obtain ⟨wo, rfl⟩ : ∃ wo, wo = wr := ⟨wr, rfl⟩
        have hl2 : l2.length = l.length := hp2.length_eq
        rcases Nat.eq_zero_or_pos j with hj0 | hj0
        · subst hj0
          have z0 : ((0 : Nat) : Int) = 0 := rfl
          have hsd := hs2.done (.inl rfl)
          go_wp2_with fail
          go_quiet (fail)
          have ho3 : RowS (wo.drewN nq) base g cap l.length l2 := ho2
          have hf3 : Fr (fun k => k = g) w (wo.drewN nq) := ⟨hf2.os, hf2.tape, hf2.output, hf2.size, hf2.block⟩
          obtain ⟨W, hW⟩ : ∃ W, wo.drewN nq = W := ⟨_, rfl⟩
          rw [hW] at ho3 hf3 ⊢
          clear hW
          go_wp2
          go_roundw
          case rel => exact ⟨k + 1, l2, by omega, by go_num, by omega, hp2, hsd, ho3, hf3⟩
          case measure => simp [intOf]; omega
        · have d2 : decide (0 < j) = true := decide_eq_true hj0
          obtain ⟨m, rfl⟩ : ∃ m, j = m + 1 := ⟨j - 1, by omega⟩
          obtain ⟨c1, f1, _, hcap⟩ := rowS_cell ho2 (j := m + 1) (by omega)
          obtain ⟨c0, f0, _, _⟩ := rowS_cell ho2 (j := m) (by omega)
          obtain ⟨x, HX⟩ : ∃ x, Hid (l2.getD (m + 1) 0 = x) := ⟨_, Lib.hid rfl⟩
          obtain ⟨y, HY⟩ : ∃ x, Hid (l2.getD m 0 = x) := ⟨_, Lib.hid rfl⟩
          rw [HX.out] at c1
          rw [HY.out] at c0
          have hL := fun n => Less_any x y (wo.drewN n)
          obtain ⟨q, HQ⟩ : ∃ q, Hid (decide (x < y) = q) := ⟨_, Lib.hid rfl⟩
          rw [HQ.out] at hL
          obtain ⟨jj, HJ⟩ : ∃ jj, Hid (m + 1 = jj) := ⟨_, Lib.hid rfl⟩
          rw [HJ.out] at c1 f1 d2 ⊢
          have a1 : IntKind.i64.wrap ((jj : Int) - 1) = (jj : Int) - 1 := by have := HJ.out; rw [IntKind.wrap_i64]; omega
          have a2 : (0 : Int) ≤ (jj : Int) - 1 := by have := HJ.out; omega
          have a3 : (jj : Int) - 1 < (l.length : Int) := by have := HJ.out; omega
          have a4 : ((jj : Int) - 1).toNat = m := by have := HJ.out; omega
          have a5 : (0 : Int) ≤ (jj : Int) := by omega
          have a6 : (jj : Int) < (l.length : Int) := by have := HJ.out; omega
          have a7 : ¬ ((jj : Int) - 1 < 0) := by omega
          have a8 : (1 : Int) ≤ (jj : Int) := by omega
          go_wp2_with fail
          go_quiet (first | (go_at_call 161; exact Calls.quiet_of_same (hL _)))
          have ho3 : RowS (wo.drewN nq) base g cap l.length l2 := ho2
          have hf3 : Fr (fun k => k = g) w (wo.drewN nq) := ⟨hf2.os, hf2.tape, hf2.output, hf2.size, hf2.block⟩
          obtain ⟨W, hW⟩ : ∃ W, wo.drewN nq = W := ⟨_, rfl⟩
          rw [hW] at ho3 hf3 ⊢
          clear hW ho2 hf2 hL
          have hml : m + 1 < l2.length := by have := HJ.out; omega
          cases q with
          | false =>
            have hsd := hs2.done (.inr (by rw [show m + 1 - 1 = m from rfl, HX.out, HY.out]; have := of_decide_eq_false HQ.out; omega))
            go_wp2
            go_roundw
            case rel => exact ⟨k + 1, l2, by omega, by go_num, by omega, hp2, hsd, ho3, hf3⟩
            case measure => simp [intOf]; omega
          | true =>
            have hlt2 : l2.getD (m + 1) 0 < l2.getD m 0 := by rw [HX.out, HY.out]; exact of_decide_eq_true HQ.out
            obtain ⟨e1, g1, _, _⟩ := rowS_cell (w := W.drew) (g := g) (cap := cap) (base := base) (n := l.length) (l := l2) ho3 (j := m + 1) (by omega)
            obtain ⟨e0, g0, _, _⟩ := rowS_cell (w := W.drew) (g := g) (cap := cap) (base := base) (n := l.length) (l := l2) ho3 (j := m) (by omega)
            rw [HX.out, HJ.out] at e1
            rw [HJ.out] at g1
            rw [HY.out] at e0
            have hst1 := (World.ownsRow.stored (w := W.drew) (g := g) (cap := cap) ho3 jj (.int .u32 y)).1
            have hst2 := (World.ownsRow.stored hst1 m (.int .u32 x)).1
            have hsw : ((us l2).set jj (.int .u32 y)).set m (.int .u32 x) = us (swapL l2 m) := by
              unfold swapL us
              rw [HX.out, HY.out, HJ.out, List.map_set, List.map_set]
              rfl
            have hf4 : Fr (fun k => k = g) w ((W.drew.setCell ⟨g, jj, none⟩ (.int .u32 y)).setCell ⟨g, m, none⟩ (.int .u32 x)) := (show Fr (fun k => k = g) w W.drew from ⟨hf3.os, hf3.tape, hf3.output, hf3.size, hf3.block⟩).trans ((set_frX (X := fun k => k = g) rfl).trans (set_frX (X := fun k => k = g) rfl))
            have hjm : ¬ jj = m := by have := HJ.out; omega
            have hmj : ¬ m = jj := by have := HJ.out; omega
            clear c1 c0 f1 f0
            have e0w : W.cell? ⟨g, m, none⟩ = some (.int .u32 y) := e0
            have g0w : W.frozen? ⟨g, m, none⟩ = false := g0
            have e1w : W.cell? ⟨g, jj, none⟩ = some (.int .u32 x) := e1
            have g1w : W.frozen? ⟨g, jj, none⟩ = false := g1
            go_wp2_with fail
            refine regionE 16 (fun _ => True) (by kernel_rfl) (by kernel_rfl) (by kernel_rfl) (by kernel_rfl) (by kernel_rfl) (trivial) (fun hHeld hTl => ?_)
            refine takeE 0 (v := ?_) hTl rfl (by decide) (by kernel_rfl) (by kernel_rfl) (fun _ _ _ h => h) hHeld (Or.inl ⟨by rfl, ?_⟩) (fun hTl => ?_)
            rotate_left
            · intro w hSw; (try dsimp only at hSw); go_simp
              all_goals with_reducible rfl
            try simp only [Act.put, List.setIfInBounds_toArray, List.set_cons_zero, List.set_cons_succ]
            refine takeE 1 (v := ?_) hTl rfl (by decide) (by kernel_rfl) (by kernel_rfl) (fun _ _ _ h => h) hHeld (Or.inl ⟨by rfl, ?_⟩) (fun hTl => ?_)
            rotate_left
            · intro w hSw; (try dsimp only at hSw); go_simp
              all_goals with_reducible rfl
            try simp only [Act.put, List.setIfInBounds_toArray, List.set_cons_zero, List.set_cons_succ]
            refine takeE 2 (v := ?_) hTl rfl (by decide) (by kernel_rfl) (by kernel_rfl) (fun _ _ _ h => h) hHeld (Or.inl ⟨by rfl, ?_⟩) (fun hTl => ?_)
            rotate_left
            · intro w hSw; (try dsimp only at hSw); go_simp
              all_goals with_reducible rfl
            try simp only [Act.put, List.setIfInBounds_toArray, List.set_cons_zero, List.set_cons_succ]
            refine takeE 3 (v := ?_) hTl rfl (by decide) (by kernel_rfl) (by kernel_rfl) (fun _ _ _ h => h) hHeld (Or.inl ⟨by rfl, ?_⟩) (fun hTl => ?_)
            rotate_left
            · intro w hSw; (try dsimp only at hSw); go_simp
              all_goals with_reducible rfl
            try simp only [Act.put, List.setIfInBounds_toArray, List.set_cons_zero, List.set_cons_succ]
            refine takeE 4 (v := ?_) hTl rfl (by decide) (by kernel_rfl) (by kernel_rfl) (fun _ _ _ h => h) hHeld (Or.inl ⟨by rfl, ?_⟩) (fun hTl => ?_)
            rotate_left
            · intro w hSw; (try dsimp only at hSw); go_simp
              all_goals with_reducible rfl
            try simp only [Act.put, List.setIfInBounds_toArray, List.set_cons_zero, List.set_cons_succ]
            refine takeE 5 (v := ?_) hTl rfl (by decide) (by kernel_rfl) (by kernel_rfl) (fun _ _ _ h => h) hHeld (Or.inl ⟨by rfl, ?_⟩) (fun hTl => ?_)
            rotate_left
            · intro w hSw; (try dsimp only at hSw); go_simp
              all_goals with_reducible rfl
            try simp only [Act.put, List.setIfInBounds_toArray, List.set_cons_zero, List.set_cons_succ]
            refine takeE 6 (v := ?_) hTl rfl (by decide) (by kernel_rfl) (by kernel_rfl) (fun _ _ _ h => h) hHeld (Or.inl ⟨by rfl, ?_⟩) (fun hTl => ?_)
            rotate_left
            · intro w hSw; (try dsimp only at hSw); go_simp
              all_goals with_reducible rfl
            try simp only [Act.put, List.setIfInBounds_toArray, List.set_cons_zero, List.set_cons_succ]
            refine takeE 7 (v := ?_) hTl rfl (by decide) (by kernel_rfl) (by kernel_rfl) (fun _ _ _ h => h) hHeld (Or.inl ⟨by rfl, ?_⟩) (fun hTl => ?_)
            rotate_left
            · intro w hSw; (try dsimp only at hSw); go_simp
              all_goals with_reducible rfl
            try simp only [Act.put, List.setIfInBounds_toArray, List.set_cons_zero, List.set_cons_succ]
            refine takeE 8 (v := ?_) hTl rfl (by decide) (by kernel_rfl) (by kernel_rfl) (fun _ _ _ h => h) hHeld (Or.inl ⟨by rfl, ?_⟩) (fun hTl => ?_)
            rotate_left
            · intro w hSw; (try dsimp only at hSw); go_simp
              all_goals with_reducible rfl
            try simp only [Act.put, List.setIfInBounds_toArray, List.set_cons_zero, List.set_cons_succ]
            refine takeE 10 (v := ?_) hTl rfl (by decide) (by kernel_rfl) (by kernel_rfl) (fun _ _ _ h => h) hHeld (Or.inl ⟨by rfl, ?_⟩) (fun hTl => ?_)
            rotate_left
            · intro w hSw; (try dsimp only at hSw); go_simp
              all_goals with_reducible rfl
            try simp only [Act.put, List.setIfInBounds_toArray, List.set_cons_zero, List.set_cons_succ]
            refine takeE 11 (v := ?_) hTl rfl (by decide) (by kernel_rfl) (by kernel_rfl) (fun _ _ _ h => h) hHeld (Or.inl ⟨by rfl, ?_⟩) (fun hTl => ?_)
            rotate_left
            · intro w hSw; (try dsimp only at hSw); go_simp
              all_goals with_reducible rfl
            try simp only [Act.put, List.setIfInBounds_toArray, List.set_cons_zero, List.set_cons_succ]
            refine takeE 12 (v := ?_) hTl rfl (by decide) (by kernel_rfl) (by kernel_rfl) (fun _ _ _ h => h) hHeld (Or.inl ⟨by rfl, ?_⟩) (fun hTl => ?_)
            rotate_left
            · intro w hSw; (try dsimp only at hSw); go_simp
              all_goals with_reducible rfl
            try simp only [Act.put, List.setIfInBounds_toArray, List.set_cons_zero, List.set_cons_succ]
            have hA := (hTl.step 9 (by kernel_rfl) (by decide)).step 13 (by kernel_rfl) (by decide)
            have hB := (hTl.step 13 (by kernel_rfl) (by decide)).step 9 (by kernel_rfl) (by decide)
            clear hTl
            refine twoE 9 13 rfl rfl (by kernel_rfl) (fun K hK => ?_) (fun K hK => ?_)
            · skip
              go_simp
              refine hK.out _ _ (fun _ => trivial) ?_
              clear hK K
              try simp only [Act.put, List.setIfInBounds_toArray, List.set_cons_zero, List.set_cons_succ]
              refine oneE 13 rfl (by kernel_rfl) (fun K hK => ?_)
              go_simp
              refine hK.out _ _ (fun _ => trivial) ?_
              clear hK K
              try simp only [Act.put, List.setIfInBounds_toArray, List.set_cons_zero, List.set_cons_succ]
              refine oneE 14 rfl (by kernel_rfl) (fun K hK => ?_)
              go_simp
              refine hK.out _ _ (fun _ => trivial) ?_
              clear hK K
              try simp only [Act.put, List.setIfInBounds_toArray, List.set_cons_zero, List.set_cons_succ]
              refine oneE 15 rfl (by kernel_rfl) (fun K hK => ?_)
              go_simp
              refine hK.out _ _ (fun _ => trivial) ?_
              clear hK K
              try simp only [Act.put, List.setIfInBounds_toArray, List.set_cons_zero, List.set_cons_succ]
              have hTl := (hA.step 14 (by kernel_rfl) (by decide)).step 15 (by kernel_rfl) (by decide)
              have hHeld : True := trivial
              refine oneE 16 rfl (by kernel_rfl) (fun K hK => ?_)
              go_simp
              refine hK.out _ _ (fun h => absurd h (by decide)) ?_
              clear hK K
              try simp only [Act.put, List.setIfInBounds_toArray, List.set_cons_zero, List.set_cons_succ]
              refine oneE 17 rfl (by kernel_rfl) (fun K hK => ?_)
              go_simp
              refine hK.out _ _ (fun h => absurd h (by decide)) ?_
              clear hK K
              try simp only [Act.put, List.setIfInBounds_toArray, List.set_cons_zero, List.set_cons_succ]
              refine doneE (by kernel_rfl) ?_ _
              go_wp2
              go_roundw
              case rel => exact ⟨m, swapL l2 m, by go_num, by have := HJ.out; omega, (swapL_perm l2 m hml).trans hp2, hs2.swap (by omega) (by omega) hlt2, (by have := hst2; rw [hsw] at this; exact this), hf4⟩
              case measure => simp [intOf]; have := HJ.out; omega
            · skip
              go_simp
              refine hK.out _ _ (fun _ => trivial) ?_
              clear hK K
              try simp only [Act.put, List.setIfInBounds_toArray, List.set_cons_zero, List.set_cons_succ]
              refine oneE 9 rfl (by kernel_rfl) (fun K hK => ?_)
              go_simp
              refine hK.out _ _ (fun _ => trivial) ?_
              clear hK K
              try simp only [Act.put, List.setIfInBounds_toArray, List.set_cons_zero, List.set_cons_succ]
              refine oneE 14 rfl (by kernel_rfl) (fun K hK => ?_)
              go_simp
              refine hK.out _ _ (fun _ => trivial) ?_
              clear hK K
              try simp only [Act.put, List.setIfInBounds_toArray, List.set_cons_zero, List.set_cons_succ]
              refine oneE 15 rfl (by kernel_rfl) (fun K hK => ?_)
              go_simp
              refine hK.out _ _ (fun _ => trivial) ?_
              clear hK K
              try simp only [Act.put, List.setIfInBounds_toArray, List.set_cons_zero, List.set_cons_succ]
              have hTl := (hB.step 14 (by kernel_rfl) (by decide)).step 15 (by kernel_rfl) (by decide)
              have hHeld : True := trivial
              refine oneE 16 rfl (by kernel_rfl) (fun K hK => ?_)
              go_simp
              refine hK.out _ _ (fun h => absurd h (by decide)) ?_
              clear hK K
              try simp only [Act.put, List.setIfInBounds_toArray, List.set_cons_zero, List.set_cons_succ]
              refine oneE 17 rfl (by kernel_rfl) (fun K hK => ?_)
              go_simp
              refine hK.out _ _ (fun h => absurd h (by decide)) ?_
              clear hK K
              try simp only [Act.put, List.setIfInBounds_toArray, List.set_cons_zero, List.set_cons_succ]
              refine doneE (by kernel_rfl) ?_ _
              go_wp2
              go_roundw
              case rel => exact ⟨m, swapL l2 m, by go_num, by have := HJ.out; omega, (swapL_perm l2 m hml).trans hp2, hs2.swap (by omega) (by omega) hlt2, (by have := hst2; rw [hsw] at this; exact this), hf4⟩
              case measure => simp [intOf]; have := HJ.out; omega
    · have d1 : decide (k < l.length) = false := decide_eq_false hlt
      go_wp2
      go_end0
      exact ⟨rfl, l1, hp1, fun p q hp hq => hs1 p q hp (by omega), ho1, hf1⟩
end Go.Proofs.YtenfkghoolegfaaGreatDoor
set_option linter.unusedVariables false
namespace Go.Proofs.YtenfkghoolegfaaGreatDoor
open Go.RowKit Go.Maps Go.Sort Go.Shelf
set_option maxHeartbeats 4000000 in
set_option maxRecDepth 1000000 in
theorem Len64_small (n : Nat) (hn : n < 256) (w : World) : Calls Tryz.prog 165 #[.int .u64 (n : Nat)] w fun e w' => (∃ r : Int, e = .returned (.int .i64 r)) ∧ w' = w := by
  have d1 : decide ((4294967296 : Int) ≤ (n : Int)) = false := decide_eq_false (by omega)
  have d2 : decide ((65536 : Int) ≤ (n : Int)) = false := decide_eq_false (by omega)
  have d3 : decide ((256 : Int) ≤ (n : Int)) = false := decide_eq_false (by omega)
  go_enter Tryz.func165, Tryz.ntmps165
  go_wp2
  go_ret
  exact ⟨⟨_, rfl⟩, rfl⟩
set_option maxHeartbeats 4000000 in
set_option maxRecDepth 1000000 in
theorem Len_small (n : Nat) (hn : n < 256) (w : World) : Calls Tryz.prog 110 #[.int .u64 (n : Nat)] w fun e w' => (∃ r : Int, e = .returned (.int .i64 r)) ∧ w' = w := by
  have h := Len64_small n hn w
  go_enter Tryz.func110, Tryz.ntmps110
  go_wp2_with (go_at_call 165; refine h.mono ?_; rintro e w2 ⟨⟨r, rfl⟩, h2⟩; have h2 := h2.symm; subst h2)
  go_ret
  exact ⟨⟨_, rfl⟩, rfl⟩
set_option maxHeartbeats 4000000 in
set_option maxRecDepth 1000000 in
theorem insSort_nil (c : Nat) (w : World) : Calls Tryz.prog 155 #[.slice none 0 c, .int .i64 0, .int .i64 0] w fun e w' => e = .returned (.tuple #[]) ∧ w' = w := by
  go_enter Tryz.func155, Tryz.ntmps155
  go_wp2
  go_loopw [6] (fun i wr => i = .int .i64 1 ∧ wr = w) (fun i _ => 0)
  case atStart => exact ⟨rfl, rfl⟩
  case round =>
    obtain ⟨rfl, rfl⟩ := hrel
    go_wp2
    go_end0
    exact ⟨rfl, rfl⟩
theorem insSort_row {base c : Nat} {A : Option Addr} (l : List Int) (w : World) (ho : w.ownsRow base 22 1 (.slice A l.length c) l.length (us l)) (hb : base ≤ w.heap.size) (hl : l.length ≤ 900) :
    Calls Tryz.prog 155 #[.slice A l.length c, .int .i64 0, .int .i64 l.length] w fun e w' => e = .returned (.tuple #[]) ∧ ∃ l' : List Int, l'.Perm l ∧ Srt l' l.length ∧ w'.ownsRow base 22 1 (.slice A l.length c) l.length (us l') ∧ Below base w w' := by
  rcases ho.2 with ⟨h0, h1⟩ | ⟨g, cap, cur, e1, h2, h3⟩
  · have hl0 : l = [] := by cases l with
      | nil => rfl
      | cons a l => simp [us] at h1
    subst hl0
    simp only [Value.slice.injEq] at h0
    obtain ⟨rfl, _, _⟩ := h0
    refine (insSort_nil c w).mono ?_
    rintro e w2 ⟨rfl, h2⟩
    have h2 := h2.symm
    subst h2
    exact ⟨rfl, [], List.Perm.refl _, fun p q _ hq => absurd hq (by simp), ho, Below.refl _ _⟩
  · simp only [Value.slice.injEq] at e1
    obtain ⟨rfl, _, rfl⟩ := e1
    refine (insSort_any l w ho hl).mono ?_
    rintro e w2 ⟨rfl, l', hp, hs, ho2, hf⟩
    exact ⟨rfl, l', hp, hs, ho2, hf.below hb fun k hk => by have hk : k = g := hk; omega⟩
set_option maxHeartbeats 4000000 in
set_option maxRecDepth 1000000 in
theorem pdq_row {base c : Nat} {A : Option Addr} (l : List Int) (w : World) (ho : w.ownsRow base 22 1 (.slice A l.length c) l.length (us l)) (hb : base ≤ w.heap.size) (hl : l.length ≤ 12) (r : Int) :
    Calls Tryz.prog 109 #[.slice A l.length c, .int .i64 0, .int .i64 l.length, .int .i64 r] w fun e w' => e = .returned (.tuple #[]) ∧ ∃ l' : List Int, l'.Perm l ∧ Srt l' l.length ∧ w'.ownsRow base 22 1 (.slice A l.length c) l.length (us l') ∧ Below base w w' := by
  have hI := insSort_row l w ho hb (by omega)
  have d1 : decide ((l.length : Int) ≤ 12) = true := decide_eq_true (by omega)
  have d2 : decide (l.length ≤ 12) = true := decide_eq_true hl
  have a1 : IntKind.i64.wrap ((l.length : Int) - 0) = (l.length : Int) := by rw [IntKind.wrap_i64]; omega
  have a2 : IntKind.i64.wrap (l.length : Int) = (l.length : Int) := by rw [IntKind.wrap_i64]; omega
  have HI := Lib.hid hI
  have HB := Lib.hid hb
  clear ho hI hb
  go_enter Tryz.func109, Tryz.ntmps109
  go_wp2
  go_loopw [1, 2] (fun a b wr => a = .int .i64 0 ∧ b = .int .i64 l.length ∧ wr = w) (fun _ _ _ => 0)
  case atStart => exact ⟨rfl, rfl, rfl⟩
  case round =>
    obtain ⟨rfl, rfl, rfl⟩ := hrel
    go_wp2_with (go_at_call 155; refine HI.out.mono ?_; rintro e w2 ⟨rfl, l', h1, h2, h3, h4⟩)
    refine bodyPost_ret (results_none rfl _ _ _) rfl ?_
    exact ⟨rfl, l', h1, h2, h3, h4⟩
set_option maxHeartbeats 4000000 in
set_option maxRecDepth 1000000 in
theorem sort_row {base c : Nat} {A : Option Addr} (l : List Int) (w : World) (ho : w.ownsRow base 22 1 (.slice A l.length c) l.length (us l)) (hb : base ≤ w.heap.size) (hl : l.length ≤ 12) :
    Calls Tryz.prog 88 #[.slice A l.length c] w fun e w' => e = .returned (.tuple #[]) ∧ ∃ l' : List Int, l'.Perm l ∧ Srt l' l.length ∧ w'.ownsRow base 22 1 (.slice A l.length c) l.length (us l') ∧ Below base w w' := by
  have hP := pdq_row l w ho hb hl
  have hL := Len_small l.length (by omega) w
  have a1 : IntKind.u64.wrap (l.length : Int) = (l.length : Int) := by rw [IntKind.wrap_u64]; omega
  have HP := Lib.hid hP
  clear ho hP hb
  go_enter Tryz.func88, Tryz.ntmps88
  go_wp2_with (first
    | (go_at_call 110; refine hL.mono ?_; rintro e w2 ⟨⟨r, rfl⟩, h2⟩; have h2 := h2.symm; subst h2)
    | (go_at_call 109; refine (HP.out _).mono ?_; rintro e w2 ⟨rfl, l', h1, h2, h3, h4⟩))
  go_end0
  exact ⟨rfl, l', h1, h2, h3, h4⟩
set_option maxHeartbeats 4000000 in
set_option maxRecDepth 1000000 in
/-- slices.Sorted(maps.Keys(m)): each key once, in order. -/
theorem sorted_any {H : Type} (Bm b nn : Nat) (D0 : DataW H) {R : Value → Option (DataW H × List MemPlace)} (w : World) (hBm : Bm < w.heap.size) (hm : w.cell? ⟨Bm, 0, none⟩ = some (.map (some b))) (hown : w.ownsMap Tryz.prog 22 R b nn D0) (hN : Maps.size D0 ≤ 900) (h12 : ∀ ss : List Int, ss.Nodup → (∀ x, x ∈ ss ↔ has D0 (.int .u32 x) = true) → ss.length ≤ 12) :
    Calls Tryz.prog 66 #[.func (.func 89) #[] #[.pointer (some ⟨Bm, 0, none⟩)]] w fun e w' => ∃ (ss : List Int) (A : Option Addr) (c : Nat), e = .returned (.slice A ss.length c) ∧ (ss.Nodup ∧ (∀ x, x ∈ ss ↔ has D0 (.int .u32 x) = true) ∧ Srt ss ss.length) ∧
      w'.ownsRow w.heap.size 22 1 (.slice A ss.length c) ss.length (us ss) ∧ Below w.heap.size w w' := by
  have hA := collect_any Bm b nn D0 w hBm hm hown hN
  clear hown
  go_enter Tryz.func66, Tryz.ntmps66
  go_wp2_with (first
    | (go_at_call 87; refine hA.mono ?_; rintro e w2 ⟨ss, A, c, rfl, h1, h2, hb⟩)
    | (go_at_call 88; refine (sort_row ss w2 h2 hb.size (h12 ss h1.1 h1.2)).mono ?_; rintro e w3 ⟨rfl, l', hp, hs, h3, hb3⟩))
  go_ret
  refine ⟨l', A, c, ?_, ⟨hp.nodup_iff.2 h1.1, fun x => hp.mem_iff.trans (h1.2 x), ?_⟩, ?_, hb.trans hb3⟩
  · rw [hp.length_eq]; rfl
  · rw [hp.length_eq]; exact hs
  · rw [hp.length_eq]; exact h3
end Go.Proofs.YtenfkghoolegfaaGreatDoor
set_option linter.unusedVariables false
namespace Go.Proofs.YtenfkghoolegfaaGreatDoor
open Go.RowKit Go.Maps Go.Sort Go.Shelf
open Go.WideElems (Fit rd rg)
noncomputable abbrev KOf (O : List KE) : DataW Unit := .map (((O.map KE.ent).map (rg Tryz.prog 22 Rv)).foldr DataW.insert [])
theorem kof_size (O : List KE) : Maps.size (KOf O) = O.length := by
  simp [Maps.size, (WideShapes.sorted_perm _).length_eq]
theorem kof_has {O : List KE} {ck : Nat} (h : MapOK O ck) (x : Int) : has (KOf O) (.int .u32 x) = true ↔ ∃ e ∈ O, x = (e.nm : Int) := by
  unfold KOf
  rw [has_eq, List.any_eq_true]
  constructor
  · rintro ⟨p, hp, hs⟩
    have hp := (WideShapes.sorted_perm _).mem_iff.1 hp
    simp only [List.map_map, List.mem_map, Function.comp] at hp
    obtain ⟨e, he, rfl⟩ := hp
    simp only [rg, rd_ent (h.nm e he), Option.getD] at hs
    refine ⟨e, he, ?_⟩
    simpa [Lit.sameKey, eq_comm] using hs
  · rintro ⟨e, he, rfl⟩
    refine ⟨rg Tryz.prog 22 Rv e.ent, (WideShapes.sorted_perm _).mem_iff.2 (List.mem_map.2 ⟨_, List.mem_map.2 ⟨e, he, rfl⟩, rfl⟩), ?_⟩
    simp [rg, rd_ent (h.nm e he), Lit.sameKey]
/-- Two lists that rise, of the same numbers. -/
theorem rise_same : ∀ (a b : List Int), a.Pairwise (· < ·) → b.Pairwise (· < ·) → (∀ x, x ∈ a ↔ x ∈ b) → a = b
  | [], [], _, _, _ => rfl
  | [], y :: b, _, _, h => absurd ((h y).2 (by simp)) (by simp)
  | x :: a, [], _, _, h => absurd ((h x).1 (by simp)) (by simp)
  | x :: a, y :: b, ha, hb, h => by
    rw [List.pairwise_cons] at ha hb
    have hxy : x = y := by
      rcases List.mem_cons.1 ((h x).1 (by simp)) with e | e
      · exact e
      · rcases List.mem_cons.1 ((h y).2 (by simp)) with e2 | e2
        · exact e2.symm
        · have := hb.1 x e; have := ha.1 y e2; omega
    subst hxy
    rw [rise_same a b ha.2 hb.2 fun z => ?_]
    constructor
    · intro hz
      rcases List.mem_cons.1 ((h z).1 (by simp [hz])) with e | e
      · have := ha.1 z hz; omega
      · exact e
    · intro hz
      rcases List.mem_cons.1 ((h z).2 (by simp [hz])) with e | e
      · have := hb.1 z hz; omega
      · exact e
theorem insO_mem {x y : Nat × List UInt8} : ∀ {l : Over}, y ∈ insO x l ↔ y = x ∨ y ∈ l
  | [] => by simp [insO]
  | z :: l => by
    unfold insO
    split
    · simp
    · rw [List.mem_cons, insO_mem, List.mem_cons]
      constructor
      · rintro (h | h | h)
        · exact .inr (.inl h)
        · exact .inl h
        · exact .inr (.inr h)
      · rintro (h | h | h)
        · exact .inr (.inl h)
        · exact .inl h
        · exact .inr (.inr h)
theorem sortO_mem {y : Nat × List UInt8} : ∀ {l : Over}, y ∈ sortO l ↔ y ∈ l
  | [] => Iff.rfl
  | x :: l => by
    show y ∈ insO x (sortO l) ↔ _
    rw [insO_mem, sortO_mem, List.mem_cons]
theorem insO_rise {x : Nat × List UInt8} : ∀ {l : Over}, (l.map (·.1)).Pairwise (· < ·) → (∀ y ∈ l, y.1 ≠ x.1) → ((insO x l).map (·.1)).Pairwise (· < ·)
  | [], _, _ => by simp [insO]
  | z :: l, h, hn => by
    rw [List.map_cons, List.pairwise_cons] at h
    have hz := hn z (by simp)
    unfold insO
    split
    · rename_i hle
      rw [List.map_cons, List.pairwise_cons]
      refine ⟨fun b hb => ?_, by rw [List.map_cons, List.pairwise_cons]; exact h⟩
      rw [List.map_cons] at hb
      rcases List.mem_cons.1 hb with rfl | hb
      · omega
      · have := h.1 b hb; omega
    · rename_i hle
      rw [List.map_cons, List.pairwise_cons]
      refine ⟨fun b hb => ?_, insO_rise h.2 fun y hy => hn y (by simp [hy])⟩
      obtain ⟨y, hy, rfl⟩ := List.mem_map.1 hb
      rcases insO_mem.1 hy with rfl | hy
      · omega
      · exact h.1 _ (List.mem_map.2 ⟨y, hy, rfl⟩)
theorem sortO_rise : ∀ {l : Over}, (l.map (·.1)).Nodup → ((sortO l).map (·.1)).Pairwise (· < ·)
  | [], _ => List.Pairwise.nil
  | x :: l, h => by
    rw [List.map_cons, List.nodup_cons] at h
    refine insO_rise (sortO_rise h.2) fun y hy e => h.1 ?_
    rw [← e]
    exact List.mem_map.2 ⟨y, sortO_mem.1 hy, rfl⟩
theorem lookO_in : ∀ {l : Over} {n : Nat} {b : List UInt8}, (l.map (·.1)).Nodup → (n, b) ∈ l → lookO n l = some b
  | (k, c) :: l, n, b, hn, h => by
    rw [List.map_cons, List.nodup_cons] at hn
    unfold lookO
    rcases List.mem_cons.1 h with e | h
    · cases e; rw [if_pos rfl]
    · rw [if_neg (fun e => hn.1 (by subst e; exact List.mem_map.2 ⟨_, h, rfl⟩)), lookO_in hn.2 h]
theorem srt_pair : ∀ {l : List Int}, l.Nodup → Srt l l.length → l.Pairwise (· < ·)
  | [], _, _ => List.Pairwise.nil
  | x :: l, hn, h => by
    rw [List.nodup_cons] at hn
    refine List.Pairwise.cons (fun y hy => ?_) (srt_pair hn.2 fun p q hp hq => ?_)
    · obtain ⟨q, hq⟩ := List.mem_iff_getElem?.1 hy
      have hql := (List.getElem?_eq_some_iff.1 hq).1
      have := h 0 (q + 1) (by omega) (by simp; omega)
      simp only [List.getD_eq_getElem?_getD, List.getElem?_cons_succ, List.getElem?_cons_zero, hq, Option.getD_some] at this
      have hne : x ≠ y := fun e => hn.1 (e ▸ hy)
      omega
    · have := h (p + 1) (q + 1) (by omega) (by simp; omega)
      simpa [List.getD_eq_getElem?_getD] using this
/-- Keys in order: the pages by rising numbers. -/
theorem keys_sortO {l : Over} (hn : (l.map (·.1)).Nodup) {ss : List Int} (h1 : ss.Nodup) (h2 : ∀ x, x ∈ ss ↔ ∃ e ∈ l, x = (e.1 : Int)) (h3 : Srt ss ss.length) : (ss.map fun x => (x.toNat, (lookO x.toNat l).getD [])) = sortO l := by
  have e1 : ss = (sortO l).map fun y => (y.1 : Int) := by
    refine rise_same _ _ (srt_pair h1 h3) ?_ fun x => ?_
    · have := sortO_rise hn
      rw [List.pairwise_map] at this ⊢
      exact this.imp fun h => by omega
    · rw [h2, List.mem_map]
      constructor
      · rintro ⟨e, he, rfl⟩; exact ⟨e, sortO_mem.2 he, rfl⟩
      · rintro ⟨e, he, rfl⟩; exact ⟨e, sortO_mem.1 he, rfl⟩
  rw [e1, List.map_map]
  refine (List.map_congr_left (g := id) fun y hy => ?_).trans (List.map_id _)
  have := lookO_in hn (n := y.1) (b := y.2) (sortO_mem.1 hy)
  simp [Function.comp, this]
/-- An image: a page's number and its bytes, where they lie. -/
structure Im where
  n : Nat
  A : Option Addr
  c : Nat
  b : List UInt8
def Im.cs (x : Im) : List Value := [.int .u32 (x.n : Nat), .slice x.A 256 x.c]
def icells (I : List Im) : List Value := I.flatMap Im.cs
theorem icells_app (I J : List Im) : icells I ++ icells J = icells (I ++ J) := by simp [icells]
theorem icells_one (I : List Im) : ∀ u ∈ icells I, u.oneCell' = true := by
  intro u hu
  unfold icells at hu
  obtain ⟨x, _, hx⟩ := List.mem_flatMap.1 hu
  unfold Im.cs at hx
  simp only [List.mem_cons, List.not_mem_nil, or_false] at hx
  rcases hx with rfl | rfl <;> rfl
theorem TI : SlT Tryz.prog 61 124 2 32 := SlT.of Tryz.underlying61 (z := .agg #[.int .u32 0, .slice none 0 0]) (by kernel_rfl) rfl (by omega) (by omega)
theorem own_other {W W' : World} {base base' e e' s s' n n' : Nat} {v v' : Value} {xs ys : List Value} (h : W.ownsRow base e s v n xs) (hI : W.ownsRow base' e' s' v' n' ys) (hne : e ≠ e') (hg : W.grownBy W' v'.ownBlock) : W'.ownsRow base e s v n xs := by
  refine ⟨h.1, h.2.imp id ?_⟩
  rintro ⟨g, cap, cur, e1, e2, e3, r⟩
  refine ⟨g, cap, cur, e1, e2, (hg.block g (Array.getElem?_eq_some_iff.1 e3).1 fun eg => ?_).trans e3, r⟩
  rcases hI.2 with ⟨h0, _⟩ | ⟨g', cap', cur', e1', _, e3', _⟩
  · subst h0; cases eg
  · subst e1'
    have : g = g' := by simpa [Value.ownBlock] using eg
    subst this
    rw [e3] at e3'
    injection e3' with e3'
    injection e3' with _ e4 _
    exact hne e4
/-- Images in a row. -/
structure ImgsAt (base : Nat) (w : World) (I : List Im) (A : Option Addr) (c : Nat) : Prop where
  row : w.ownsRow base 124 2 (.slice A I.length c) I.length (icells I)
  each : ∀ x ∈ I, w.ownsRow base 5 1 (.slice x.A 256 x.c) 256 (bl x.b) ∧ x.b.length = 256
end Go.Proofs.YtenfkghoolegfaaGreatDoor
set_option linter.unusedVariables false
namespace Go.Proofs.YtenfkghoolegfaaGreatDoor
open Go.RowKit Go.Maps Go.Sort Go.Shelf
open Go.WideElems (Fit rd rg)
theorem row_cellU {W : World} {base n : Nat} {A : Option Addr} {c : Nat} {l : List Int} (h : W.ownsRow base 22 1 (.slice A n c) n (us l)) {k : Nat} (hk : k < l.length) : ∃ g, A = some ⟨g, 0, none⟩ ∧ n ≤ c ∧ W.cell? ⟨g, k, none⟩ = some (.int .u32 (l.getD k 0)) ∧ l.length = n := by
  have hl : l.length = n := by have := h.1; rw [us_len] at this; omega
  rcases h.2 with ⟨h0, h1⟩ | ⟨g, cap, cur, e1, h2⟩
  · have : (us l).length = 0 := by have := h.1; omega
    rw [us_len] at this
    omega
  · simp only [Value.slice.injEq] at e1
    obtain ⟨rfl, _, rfl⟩ := e1
    obtain ⟨a1, a2, a3, a4⟩ := rowS_cell h (j := k) (by omega)
    exact ⟨g, rfl, a4, a1, hl⟩
theorem own_below {W W' : World} {B base e s n : Nat} {v : Value} {xs : List Value} (h : W.ownsRow base e s v n xs) (hb : Below W.heap.size W W') : W'.ownsRow base e s v n xs := by
  refine ⟨h.1, h.2.imp id ?_⟩
  rintro ⟨g, cap, cur, e1, e2, e3, r⟩
  exact ⟨g, cap, cur, e1, e2, (hb.block g (Array.getElem?_eq_some_iff.1 e3).1).trans e3, r⟩
theorem own_low {W : World} {base base' e s n : Nat} {v : Value} {xs : List Value} (h : W.ownsRow base e s v n xs) (hb : base' ≤ base) : W.ownsRow base' e s v n xs := by
  refine ⟨h.1, h.2.imp id ?_⟩
  rintro ⟨g, cap, cur, e1, e2, e3, r⟩
  exact ⟨g, cap, cur, e1, Nat.le_trans hb e2, e3, r⟩
theorem ImgsAt.below {base : Nat} {w w' : World} {I : List Im} {A : Option Addr} {c : Nat} (h : ImgsAt base w I A c) (hb : Below w.heap.size w w') : ImgsAt base w' I A c :=
  ⟨own_below (B := 0) h.row hb, fun x hx => ⟨own_below (B := 0) (h.each x hx).1 hb, (h.each x hx).2⟩⟩
theorem img_one {w1 : World} {base n : Nat} {A : Option Addr} {c : Nat} {b : List UInt8} (h : w1.ownsRow base 5 1 (.slice A 256 c) 256 (bl b)) (hb : base ≤ w1.heap.size) : ImgsAt base (w1.alloc (.cells #[.int .u32 (n : Nat), .slice A 256 c] 124)) [⟨n, A, c, b⟩] (some ⟨w1.heap.size, 0, none⟩) 1 := by
  refine ⟨⟨rfl, .inr ⟨w1.heap.size, 1, #[.int .u32 (n : Nat), .slice A 256 c], rfl, hb, heap_alloc_new _ _, Nat.le_refl _, by simp only [maxLen]; omega, rfl, rfl⟩⟩, fun x hx => ?_⟩
  simp only [List.mem_singleton] at hx
  subst hx
  refine ⟨h.alloc _, ?_⟩
  have := h.1
  simpa [bl] using this
def Im.nb (x : Im) : Nat × List UInt8 := (x.n, x.b)
set_option maxHeartbeats 4000000 in
set_option maxRecDepth 1000000 in
theorem Changes_any {X : Nat → Prop} {w : World} {T M : Nat} {t : PT} (h : TX X w T M t) (ok : t.OK) (hc : t.changed = true) (h12 : t.over.length ≤ 12) :
    Calls Tryz.prog 24 #[.pointer (some ⟨T, 0, none⟩)] w fun e w' => ∃ I A c, e = .returned (.slice A I.length c) ∧ ImgsAt w.heap.size w' I A c ∧ I.map Im.nb = changesT t ∧ Below w.heap.size w w' := by
  have hl0 : lookO 0 t.over = none := by
    cases hl : lookO 0 t.over with
    | none => rfl
    | some b => have := (ok.keys _ (lookO_mem hl)).1; simp at this
  have hH := bytes_head h ok hc hl0
  have hch : changesT t = (0, putP t.head) :: sortO t.over := by unfold changesT; rw [if_pos hc, pageT_0 ok hc]
  have hok := ok.head
  obtain ⟨O, ck, src, h⟩ := h
  have hov := h.over
  have hO12 : O.length ≤ 12 := by rw [hov, List.length_map] at h12; exact h12
  have hMK : MapOK O ck := by
    refine ⟨fun x hx => ?_, ?_, h.clk.1, h.clk.2, by omega⟩
    · have := (ok.keys (x.nm, x.b) (by rw [hov]; exact List.mem_map.2 ⟨x, hx, rfl⟩)).2
      simp only at this
      omega
    · have := ok.nodup
      rw [hov, List.map_map] at this
      exact this
  have hkeys : ∀ x : Int, has (KOf O) (.int .u32 x) = true ↔ ∃ e ∈ t.over, x = (e.1 : Int) := by
    intro x
    rw [kof_has hMK, hov]
    constructor
    · rintro ⟨e, he, rfl⟩; exact ⟨_, List.mem_map.2 ⟨e, he, rfl⟩, rfl⟩
    · rintro ⟨e, he, rfl⟩; obtain ⟨y, hy, rfl⟩ := List.mem_map.1 he; exact ⟨y, hy, rfl⟩
  have hlen : ∀ ss : List Int, ss.Nodup → (∀ x, x ∈ ss ↔ has (KOf O) (.int .u32 x) = true) → ss.length ≤ 12 := by
    intro ss h1 h2
    have hp : ss.Perm (O.map fun e => (e.nm : Int)) := by
      refine (List.perm_ext_iff_of_nodup h1 ?_).2 fun x => ?_
      · have := hMK.one
        rw [List.Nodup, List.pairwise_map] at this ⊢
        exact this.imp fun h e => h (by omega)
      · rw [h2, kof_has hMK, List.mem_map]
        constructor
        · rintro ⟨e, he, rfl⟩; exact ⟨e, he, rfl⟩
        · rintro ⟨e, he, rfl⟩; exact ⟨e, he, rfl⟩
    rw [hp.length_eq, List.length_map]
    exact hO12
  have hS : ∀ W : World, Below w.heap.size w W → Calls Tryz.prog 66 #[.func (.func 89) #[] #[.pointer (some ⟨W.heap.size, 0, none⟩)]] (W.alloc (.cells #[.map (some M)] 91)) fun e w' => ∃ (ss : List Int) (A : Option Addr) (c : Nat), e = .returned (.slice A ss.length c) ∧ (ss.Nodup ∧ (∀ x, x ∈ ss ↔ has (KOf O) (.int .u32 x) = true) ∧ Srt ss ss.length) ∧
      w'.ownsRow W.heap.size 22 1 (.slice A ss.length c) ss.length (us ss) ∧ Below W.heap.size W w' := by
    intro W hW
    have hb : Below W.heap.size W (W.alloc (.cells #[.map (some M)] 91)) := (Below.refl _ W).alloc (Nat.le_refl _) _
    have hM : (W.alloc (.cells #[.map (some M)] 91)).heap[M]? = some (.map (O.map KE.ent).toArray ck) := (hb.block M (Nat.lt_of_lt_of_le h.lt.2 hW.size)).trans ((hW.block M h.lt.2).trans h.map)
    refine (sorted_any W.heap.size M O.length (KOf O) (w := W.alloc (.cells #[.map (some M)] 91)) (by simp) ((Blk.new W 91 #[.map (some M)]).cell 0) (own_map hM hMK) (by rw [kof_size]; omega) hlen).mono ?_
    rintro e w2 ⟨ss, A, c, e1, e2, e3, e4⟩
    exact ⟨ss, A, c, e1, e2, own_low e3 hb.size, hb.trans (e4.mono hb.size)⟩
  have hBl := h.blk
  have f7 : w.cell? ⟨T, 7, none⟩ = some (.bool true) := by rw [← hc]; exact hBl.cell 7
  have f6 : ∀ W, Below w.heap.size w W → W.cell? ⟨T, 6, none⟩ = some (.map (some M)) := fun W hW => (hBl.below hW hBl.lt).cell 6
  have HH := Lib.hid hH
  have HS := Lib.hid hS
  have F6 := Lib.hid f6
  have HT := Lib.hid (And.intro h (And.intro hMK hkeys))
  have HOK := Lib.hid ok
  clear hH hS f6 h hMK hkeys hlen hBl ok
  go_enter Tryz.func24, Tryz.ntmps24
  go_wp2_with (first
    | (go_at_call 65; refine HH.out.mono ?_; rintro e w1 ⟨A0, c0, rfl, ho0, hb0⟩; obtain ⟨w2, hw2⟩ : ∃ w2, w2 = w1.alloc (.cells #[.int .u32 0, .slice A0 256 c0] 124) := ⟨_, rfl⟩; have hba : Below w1.heap.size w1 w2 := (by rw [hw2]; exact (Below.refl _ w1).alloc (Nat.le_refl _) _); have hb2 := hb0.trans (hba.mono hb0.size); have g6 : (w1.alloc (.cells #[.int .u32 0, .slice A0 256 c0] 124)).cell? ⟨T, 6, none⟩ = some (.map (some M)) := (by rw [← hw2]; exact F6.out _ hb2); have hI0 : ImgsAt w.heap.size w2 [⟨0, A0, c0, putP t.head⟩] (some ⟨w1.heap.size, 0, none⟩) 1 := (by rw [hw2]; exact img_one ho0 hb0.size); have HW2 := Lib.hid hw2; have hS2 := HS.out w2 hb2; clear hw2)
    | (rw [← HW2.out]; go_at_call 67; refine (keysU_any M w2).mono ?_; rintro e w3 ⟨rfl, h3⟩; have h3 := h3.symm; subst h3)
    | (go_at_call 66; refine hS2.mono ?_; rintro e w4 ⟨ss, A4, c4, rfl, hss, ho4, hb4⟩))
  have hb4' : Below w.heap.size w w4 := hb2.trans (hb4.mono hb2.size)
  have hI4 := hI0.below hb4
  have ho4' := own_low ho4 hb2.size
  have hss2 : ss.map (fun x => (x.toNat, (lookO x.toNat t.over).getD [])) = sortO t.over := keys_sortO HOK.out.nodup hss.1 (fun x => (hss.2.1 x).trans (HT.out.2.2 x)) hss.2.2
  have hsl : ss.length ≤ 12 := by
    have := congrArg List.length hss2
    rw [List.length_map, (sortO_perm t.over).length_eq] at this
    omega
  clear ho4 hb4 hI0 hS2 g6 HW2 hba hb2 ho0 hb0
  go_loopw [5, 32] (fun out i wr => ∃ (k : Nat) (I : List Im) (A : Option Addr) (c : Nat), out = .slice A I.length c ∧ i = .int .i64 k ∧ k ≤ ss.length ∧ I.length = k + 1 ∧ I.map Im.nb = (0, putP t.head) :: (ss.take k).map (fun x => (x.toNat, (lookO x.toNat t.over).getD [])) ∧ ImgsAt w.heap.size wr I A c ∧ wr.ownsRow w.heap.size 22 1 (.slice A4 ss.length c4) ss.length (us ss) ∧ Below w.heap.size w wr) (fun _ i _ => ss.length - (intOf i).toNat)
  case atStart => exact ⟨0, [⟨0, A0, c0, putP t.head⟩], _, 1, rfl, rfl, Nat.zero_le _, rfl, by simp [Im.nb], hI4, ho4', hb4'⟩
  case round =>
    clear hI4 ho4' hb4'
    obtain ⟨k, I, A, c, rfl, rfl, hk, hIl, hIm, hI, hrow, hb⟩ := hrel
    obtain ⟨wo, rfl⟩ : ∃ wo, wo = wr := ⟨wr, rfl⟩
    by_cases hlt : k < ss.length
    · have d1 : decide (k < ss.length) = true := decide_eq_true hlt
      have d2 : decide ((k : Int) < (ss.length : Int)) = true := decide_eq_true (by omega)
      obtain ⟨g4, rfl, hc4, hcell, _⟩ := row_cellU hrow hlt
      obtain ⟨e, he, hxe⟩ := (HT.out.2.2 (ss.getD k 0)).1 ((hss.2.1 _).1 (by rw [List.getD_eq_getElem?_getD, List.getElem?_eq_getElem hlt]; exact List.getElem_mem _))
      have hlk := lookO_in (n := e.1) (b := e.2) HOK.out.nodup he
      obtain ⟨nm, hnm⟩ : ∃ nm, nm = e.1 := ⟨_, rfl⟩
      rw [← hnm] at hxe hlk
      clear hnm he
      rw [hxe] at hcell
      have hlk2 := hlk
      rw [HT.out.1.over, over_look nm O 0] at hlk2
      cases hlo : look nm O 0 with
      | none => rw [hlo] at hlk2; cases hlk2
      | some r =>
        obtain ⟨j, y⟩ := r
        rw [hlo] at hlk2
        simp only [Option.map_some, Option.some.injEq] at hlk2
        obtain ⟨_, hj, hynm⟩ := look_spec _ _ _ _ _ hlo
        obtain ⟨hby, h256⟩ := (HT.out.1.keep (X := X) (KeepX.of_below hb)).page y (List.mem_of_getElem? hj)
        obtain ⟨ay, hay, _⟩ := hby.rd.2 (by omega)
        have hrd := hby.rd
        rw [hay, h256] at hrd
        have hC := BClone_some ay y.cap (bl y.b) (bl_one _) wo hrd (Nat.le_refl _) (by omega)
        have hyv : y.val = .slice (some ay) 256 y.cap := by unfold KE.val; rw [hay, h256]
        have hM := (hb.block M HT.out.1.lt.2).trans HT.out.1.map
        have k6 := F6.out _ hb
        have HM := Lib.hid (And.intro hM hlo)
        have HI := Lib.hid (And.intro hI (And.intro hIl hIm))
        have HR := Lib.hid hrow
        have HY := Lib.hid (And.intro h256 hlk2)
        clear hM hlo hI hrow hrd hby hj hay h256 hlk2 hIm hIl
        have HX := Lib.hid (And.intro hxe hlk)
        clear hxe hlk
        go_wp2_with (first
          | (refine wpList_look1 rfl (.tmp 41) (.tmp 42) rfl rfl rfl HM.out.1 HM.out.2 ?_; rw [hyv])
          | (go_at_call 68; refine hC.mono ?_; rintro e' w5 ⟨A5, c5, rfl, ho5, hb5⟩; obtain ⟨w6, hw6⟩ : ∃ w6, w6 = w5.alloc (.cells #[.int .u32 (nm : Nat), .slice A5 256 c5] 124) := ⟨_, rfl⟩; have hbb : Below w5.heap.size w5 w6 := (by rw [hw6]; exact (Below.refl _ w5).alloc (Nat.le_refl _) _); have hrn : Reads w6 w6.heap.size 2 (some ⟨w5.heap.size, 0, none⟩) 1 (icells [⟨nm, A5, c5, y.b⟩]) := (by rw [hw6]; exact reads_blk (Blk.new _ _ _) rfl); have HW6 := Lib.hid hw6; clear hw6; have hI6 := (HI.out.1.below hb5).below hbb)
          | (rw [← HW6.out]; refine list_push TI rfl rfl w.heap.size rfl hI6.row rfl hrn (icells_one _) (by have := HI.out.2.1; omega) (Nat.le_trans hb.size (Nat.le_trans hb5.size hbb.size)) (k := (I ++ [(⟨nm, A5, c5, y.b⟩ : Im)]).length) (by simp) (icells_app _ _) ?_; intro A7 c7 w7 ho7 hg7 hob7))
        have hb6 : Below w.heap.size w w6 := (hb.trans (hb5.mono hb.size)).trans (hbb.mono (Nat.le_trans hb.size hb5.size))
        have hb7 : Below w.heap.size w w7 := hb6.trans (grown_below hg7 hb6.size (fun ad e => by subst e; exact (hI6.row.lt ad.block rfl).1))
        have ho6 := own_other (own_low (own_below (B := 0) ho5 hbb) hb.size) hI6.row (by decide) hg7
        have hr7 := own_other (own_below (B := 0) (own_below (B := 0) HR.out hb5) hbb) hI6.row (by decide) hg7
        have hI7 : ImgsAt w.heap.size w7 (I ++ [(⟨nm, A5, c5, y.b⟩ : Im)]) A7 c7 := by
          refine ⟨ho7, fun x hx => ?_⟩
          rcases List.mem_append.1 hx with hx | hx
          · exact ⟨own_other (hI6.each x hx).1 hI6.row (by decide) hg7, (hI6.each x hx).2⟩
          · simp only [List.mem_singleton] at hx
            subst hx
            exact ⟨ho6, HY.out.1⟩
        have hIm7 : (I ++ [(⟨nm, A5, c5, y.b⟩ : Im)]).map Im.nb = (0, putP t.head) :: (ss.take (k + 1)).map (fun x => (x.toNat, (lookO x.toNat t.over).getD [])) := by
          rw [List.map_append, HI.out.2.2, List.take_add_one, List.getElem?_eq_getElem hlt]
          have hx : ss[k] = (nm : Int) := by rw [← HX.out.1, List.getD_eq_getElem?_getD, List.getElem?_eq_getElem hlt]; rfl
          simp [Im.nb, hx, HX.out.2, HY.out.2]
        clear hI6 ho5 hrn ho7
        go_wp2
        go_roundw
        case rel => exact ⟨k + 1, I ++ [(⟨nm, A5, c5, y.b⟩ : Im)], A7, c7, by rw [List.length_append]; rfl, by go_num, by omega, by rw [List.length_append, HI.out.2.1]; rfl, hIm7, hI7, hr7, hb7⟩
        case measure => simp [intOf]; omega
    · have d1 : decide (k < ss.length) = false := decide_eq_false hlt
      have d2 : decide ((k : Int) < (ss.length : Int)) = false := decide_eq_false (by omega)
      go_wp2
      go_ret
      refine ⟨I, A, c, rfl, hI, ?_, hb⟩
      rw [hIm, hch, ← hss2, List.take_of_length_le (by omega)]
end Go.Proofs.YtenfkghoolegfaaGreatDoor
set_option linter.unusedVariables false
namespace Go.Proofs.YtenfkghoolegfaaGreatDoor
open Go.RowKit
theorem kind_seal {lsn : Nat} {k : Nat} {body : List UInt8} (hk : 1 ≤ k ∧ k ≤ 5) (hl : lsn < 18446744073709551616) (hb : body.length = 243) : kindB (sealB k lsn body) = k := (open_seal hk hl hb).2.1
theorem ReadC_free {lsn nx : Nat} (hl : lsn < 18446744073709551616) : openE (putP (freePg lsn nx)) = 0 → ReadC (kindB (putP (freePg lsn nx))) (lsnB (putP (freePg lsn nx))) (restB (putP (freePg lsn nx))) := by
  intro _
  have hk : kindB (putP (freePg lsn nx)) = 5 := by
    have hb := body_len (freePg_put lsn nx)
    exact kind_seal (k := 5) (by omega) hl hb
  rw [hk]
  exact ReadC_5 _ _
theorem alloc_once {Y : Nat → Prop} {w : World} {T M : Nat} {t : PT} {o b : List Nat} (h : TX Y w T M t) (ho : Once t o b) (hs : o.length + b.length < 500) :
    ∃ n t1, n ∉ o ∧ (b ≠ [] → b = b.dropLast ++ [n]) ∧ n < 4294967296 ∧ t1.OK ∧ putE' t1 n (overPg 0 0 [1]) = 0 ∧ Once (putT t1 n (overPg 0 0 [1])) (o ++ [n]) b.dropLast ∧
      Calls Tryz.prog 17 #[.pointer (some ⟨T, 0, none⟩)] w fun e w' => e = .returned (.tuple #[.int .u32 (n : Nat), .nilIface]) ∧ TX (moreX Y w) w' T M t1 ∧ Fr Y w w' := by
  obtain ⟨n, t1, ha, hok, hno, hbk, hn, hp, hon⟩ := once_alloc ho hs
  refine ⟨n, t1, hno, hbk, hn, hok, hp, hon, ?_⟩
  have h0 := ho.ok.head
  rcases Nat.eq_zero_or_pos t.free with hf | hf
  · have e : allocT t = (0, t.pages, { t with pages := t.pages + 1, changed := true }) := by
      unfold allocT
      rw [if_neg (by simp [hf]), if_neg (by have := ho.pages; omega)]
    rw [e] at ha
    cases ha
    exact (Alloc_new h hf (by have := ho.pages; omega)).mono fun e w' ⟨he, hT, hF⟩ => ⟨he, hT.mono fun k hk => .inl hk, hF⟩
  · have hc := ho.chain
    cases hb : b.reverse with
    | nil => rw [hb] at hc; exact absurd hc (by show ¬ t.free = 0; omega)
    | cons c r =>
      rw [hb] at hc
      obtain ⟨h1, h2, h3, nx, h4, h5, h6⟩ := hc
      have hg := (get_putND (freePg_put t.lsn nx) (freePg_fit ho.ok.lsn (by omega))).1
      rw [← h1] at h4 h3
      have hnt : nodeT t t.free = .ok (freePg t.lsn nx) := by
        unfold nodeT pageT
        rw [if_neg (by omega), h4]
        exact hg
      have e : allocT t = (0, t.free, { t with free := nx, changed := true }) := by
        unfold allocT
        rw [if_pos (by omega), hnt]
        simp only
        rw [if_neg (by rw [show (freePg t.lsn nx).kind = 5 from rfl, show (freePg t.lsn nx).next = nx from rfl]; omega)]
        rfl
      rw [e] at ha
      cases ha
      exact Alloc_reuse h (by omega) _ h3 h4 (ReadC_free ho.ok.lsn) hg rfl h5
def oneX (g : Nat) : NX := ⟨4, 0, none, 0, [], 0, some ⟨g, 0, none⟩, 1, [1], 0, 0, 0, 0⟩
theorem put_once {Y : Nat → Prop} {w : World} {T M : Nat} {t : PT} (h : TX Y w T M t) (ok : t.OK) (n : Nat) (hn : n < 4294967296) (hp : putE' t n (overPg 0 0 [1]) = 0) (htab : PowAt w) (hY : ¬ Y 1) {g : Nat} (hr : Reads w w.heap.size 1 (some ⟨g, 0, none⟩) 1 (bl [1])) :
    Calls Tryz.prog 19 #[.pointer (some ⟨T, 0, none⟩), .int .u32 (n : Nat), (oneX g).val] w fun e w' => e = .returned .nilIface ∧ TX (moreX Y w) w' T M (putT t n (overPg 0 0 [1])) ∧ Fr Y w w' := by
  have hi : isPageT t n = 0 := by
    unfold putE' at hp
    by_cases h : isPageT t n = 0
    · exact h
    · rw [if_pos h] at hp; cases hp
  have hL : layE t (overPg 0 0 [1]) = 0 := by
    unfold putE' at hp
    rw [if_neg (by rw [hi]; simp)] at hp
    exact hp
  have hx : NodeAt w w.heap.size (oneX g) := ⟨⟨.inl rfl, fun y hy => (by cases hy), fun y hy => (by cases hy)⟩, hr, fun y hy => (by cases hy), (by decide : 0 ≤ 3000000), (by decide : 1 ≤ 3000000)⟩
  exact Put_ok h n hn (oneX g) hx (overPg_fit (next := 0) (d := [1]) ok.lsn (by decide)) hi hL htab hY
theorem free_once {Y : Nat → Prop} {w : World} {T M : Nat} {t : PT} {o b : List Nat} (h : TX Y w T M t) (ho : Once t o b) {k n : Nat} (hk : o[k]? = some n) (htab : PowAt w) (hY : ¬ Y 1) :
    n < 4294967296 ∧ ∃ t1, Once t1 (o.take k ++ o.drop (k + 1)) (b ++ [n]) ∧ Calls Tryz.prog 20 #[.pointer (some ⟨T, 0, none⟩), .int .u32 (n : Nat)] w fun e w' => e = .returned .nilIface ∧ TX (moreX Y w) w' T M t1 ∧ Fr Y w w' := by
  obtain ⟨t1, hf, hok, hon⟩ := once_free ho hk
  have h0 := ho.ok.head
  have hn := ho.bound n (by rw [List.mem_append]; exact .inl (List.mem_of_getElem? hk))
  have hi : isPageT t n = 0 := by unfold isPageT; rw [if_neg (by omega)]
  refine ⟨by omega, t1, hon, ?_⟩
  have := Free_ok h ho.ok n (by omega) hi htab hY
  rw [hf] at this
  exact this
end Go.Proofs.YtenfkghoolegfaaGreatDoor
set_option linter.unusedVariables false
namespace Go.Proofs.YtenfkghoolegfaaGreatDoor
open Go.RowKit
structure OnceM (w wr : World) (T M : Nat) (Ao Ab : Option Addr) (co cb : Nat) (o b : List Nat) (Y : Nat → Prop) (t : PT) : Prop where
  tx : TX Y wr T M t
  yb : ∀ k, Y k → w.heap.size ≤ k ∧ k < wr.heap.size
  ro : RowN wr w.heap.size Y Ao co o
  rb : RowN wr w.heap.size Y Ab cb b
  sep : ∀ a1 a2, Ao = some a1 → Ab = some a2 → a1.block ≠ a2.block
  once : Once t o b
  below : Below w.heap.size w wr
theorem frame_call {w wr w' : World} {T M : Nat} {Ao Ab : Option Addr} {co cb : Nat} {o b : List Nat} {Y : Nat → Prop} (yb : ∀ k, Y k → w.heap.size ≤ k ∧ k < wr.heap.size) (ro : RowN wr w.heap.size Y Ao co o) (rb : RowN wr w.heap.size Y Ab cb b) (hb : Below w.heap.size w wr) {t' : PT} (hT : TX (moreX Y wr) w' T M t') (hf : Fr Y wr w') :
    ∃ Y', TX Y' w' T M t' ∧ (∀ k, Y' k → w.heap.size ≤ k ∧ k < w'.heap.size) ∧ RowN w' w.heap.size Y' Ao co o ∧ RowN w' w.heap.size Y' Ab cb b ∧ Below w.heap.size w w' :=
  ⟨fun k => moreX Y wr k ∧ k < w'.heap.size, hT.cut, fun k hk => ⟨hk.1.elim (fun h1 => (yb k h1).1) (fun h1 => Nat.le_trans hb.size h1), hk.2⟩,
    ro.fr hf (fun _ h => h) (fun k hk => hk.1), rb.fr hf (fun _ h => h) (fun k hk => hk.1), hb.trans (hf.below hb.size fun k hk => (yb k hk).1)⟩
/-- Behind a call on the transaction. -/
theorem OnceM.call {w wr w' : World} {T M : Nat} {Ao Ab : Option Addr} {co cb : Nat} {o b : List Nat} {Y : Nat → Prop} {t : PT} (h : OnceM w wr T M Ao Ab co cb o b Y t) {t' : PT} (hT : TX (moreX Y wr) w' T M t') (hf : Fr Y wr w') :
    ∃ Y', TX Y' w' T M t' ∧ (∀ k, Y' k → w.heap.size ≤ k ∧ k < w'.heap.size) ∧ RowN w' w.heap.size Y' Ao co o ∧ RowN w' w.heap.size Y' Ab cb b ∧ Below w.heap.size w w' := by
  refine ⟨fun k => moreX Y wr k ∧ k < w'.heap.size, hT.cut, fun k hk => ⟨hk.1.elim (fun h1 => (h.yb k h1).1) (fun h1 => Nat.le_trans h.below.size h1), hk.2⟩,
    h.ro.fr hf (fun _ h => h) (fun k hk => hk.1), h.rb.fr hf (fun _ h => h) (fun k hk => hk.1), h.below.trans (hf.below h.below.size fun k hk => (h.yb k hk).1)⟩
set_option maxHeartbeats 8000000 in
set_option maxRecDepth 1000000 in
theorem once_law {B : Nat} (lsn : Nat) (hlsn : lsn < 18446744073709551616) (A : Option Addr) (c : Nat) (li : List Int) (w : World) (hr : Reads w B 1 A li.length (li.map (Value.int .i64))) (hB : B ≤ w.heap.size) (hi : ∀ v ∈ li, -9223372036854775808 ≤ v ∧ v ≤ 9223372036854775807) (htab : PowAt w) (h1w : 1 < w.heap.size)
    (hlive : ∀ W, Below w.heap.size w W → Calls Tryz.prog 18 #[] W fun e w' => e = .returned (.bool true) ∧ Below W.heap.size W w') :
    Calls Tryz.prog 5 #[.int .u64 (lsn : Nat), .slice A li.length c] w fun e w' => e = .returned (.bool true) ∧ Below w.heap.size w w' := by
  have HL := Lib.hid hlive
  by_cases hlen : 60 < li.length
  · have d1 : decide ((60 : Int) < (li.length : Int)) = true := decide_eq_true (by omega)
    have d2 : decide (60 < li.length) = true := decide_eq_true hlen
    clear hlive
    go_enter Tryz.func5, Tryz.ntmps5
    go_wp2_with (go_at_call 18; refine (HL.out _ (Below.refl _ _)).mono ?_; rintro e w2 ⟨rfl, hbl⟩)
    go_ret
    exact ⟨rfl, hbl⟩
  have d1 : decide ((60 : Int) < (li.length : Int)) = false := decide_eq_false (by omega)
  have d2 : decide (60 < li.length) = false := decide_eq_false hlen
  have hF := Fresh_any lsn hlsn w
  have HR := Lib.hid (And.intro hr (And.intro hi htab))
  clear hlive hr hi htab
  go_enter Tryz.func5, Tryz.ntmps5
  go_wp2_with (go_at_call 12; refine hF.mono ?_; rintro e w2 ⟨T, M, rfl, hT2, hb2⟩)
  have hM2 : OnceM w w2 T M none none 0 0 [] [] (fun k => w.heap.size ≤ k ∧ k < w2.heap.size) (freshT lsn) :=
    ⟨hT2.cut, fun k h => h, ⟨⟨rfl, .inl ⟨rfl, rfl⟩⟩, fun ad h => (by cases h)⟩, ⟨⟨rfl, .inl ⟨rfl, rfl⟩⟩, fun ad h => (by cases h)⟩, fun a1 a2 h => (by cases h), once_fresh hlsn, hb2⟩
  clear hF hT2 hb2
  go_loopw [6, 7, 8] (fun ov bv i wr => ∃ (k : Nat) (o b : List Nat) (Ao Ab : Option Addr) (co cb : Nat) (Y : Nat → Prop) (t : PT), k ≤ li.length ∧ i = .int .i64 k ∧ ov = .slice Ao o.length co ∧ bv = .slice Ab b.length cb ∧ o.length + b.length ≤ k ∧ OnceM w wr T M Ao Ab co cb o b Y t) (fun _ _ i _ => li.length - (intOf i).toNat)
  case atStart => exact ⟨0, [], [], none, none, 0, 0, _, _, Nat.zero_le _, rfl, rfl, rfl, Nat.zero_le _, hM2⟩
  case round =>
    clear hM2
    obtain ⟨k, o, b, Ao, Ab, co, cb, Y, t, hk, rfl, rfl, rfl, hs, hM⟩ := hrel
    obtain ⟨wo, rfl⟩ : ∃ wo, wo = wr := ⟨wr, rfl⟩
    have HM := Lib.hid hM
    clear hM
    by_cases hlt : k < li.length
    · have d3 : decide (k < li.length) = true := decide_eq_true hlt
      obtain ⟨v, hv⟩ : ∃ v, li[k]? = some v := ⟨_, List.getElem?_eq_getElem hlt⟩
      obtain ⟨a, rfl, hab, hac⟩ := HR.out.1.2 (by omega)
      have hvr := HR.out.2.1 v (List.mem_of_getElem? hv)
      have hcv : wo.cell? (a.add k) = some (.int .i64 v) := (HM.out.below.cell (p := a.add k) (by rw [block_of_add]; omega)).trans (hac k _ (by rw [List.getElem?_map, hv]; rfl))
      have i0 : (0 : Int) ≤ (k : Int) := by omega
      have i1 : (k : Int) < (li.length : Int) := by omega
      have HV := Lib.hid (And.intro hv hvr)
      clear hac hv hvr
      have hY1 : ¬ Y 1 := fun h => by have := (HM.out.yb 1 h).1; omega
      by_cases hA : v < 0 ∨ o.length = 0
      · obtain ⟨n, t1, hno, hbk, hn32, hok1, hp1, hon, hAl⟩ := alloc_once HM.out.tx HM.out.once (by omega)
        have HN := Lib.hid (And.intro hno (And.intro hbk (And.intro hok1 (And.intro hp1 hon))))
        clear hno hbk hok1 hp1 hon
        have htab := powBelow HR.out.2.2 HM.out.below
        have e0 : (decide (v < 0) = true) ∨ (decide (v < 0) = false ∧ ((o.length : Int) == 0) = true) := by
          by_cases h : v < 0
          · exact .inl (decide_eq_true h)
          · exact .inr ⟨decide_eq_false h, beq_iff_eq.2 (by omega)⟩
        rcases e0 with e1 | ⟨e1, e2⟩
        all_goals
          go_wp2_with (go_at_call 17; refine hAl.mono ?_; rintro e w3 ⟨rfl, hT3, hf3⟩)
          obtain ⟨Y3, hT4, hY3, hro3, hrb3, hb3⟩ := HM.out.call hT3 hf3
          clear hT3 hf3 hAl
          go_loopw [11] (fun q wr2 => ∃ j : Nat, j ≤ o.length ∧ q = .int .i64 j ∧ wr2 = w3) (fun q _ => o.length - (intOf q).toNat)
          case atStart => exact ⟨0, Nat.zero_le _, rfl, rfl⟩
          case round =>
            obtain ⟨j, hj, rfl, hw33⟩ := hrel
            have hw33 := hw33.symm
            subst hw33
            by_cases hjl : j < o.length
            · have d5 : decide (j < o.length) = true := decide_eq_true hjl
              obtain ⟨n', hn'⟩ : ∃ n', o[j]? = some n' := ⟨_, List.getElem?_eq_getElem hjl⟩
              obtain ⟨g, eg, hco, hcj⟩ := hro3.cell hn'
              subst eg
              have hnn : n' ≠ n := fun h => HN.out.1 (h ▸ List.mem_of_getElem? hn')
              have hne : ((n' : Int) == (n : Int)) = false := beq_eq_false_iff_ne.2 (by omega)
              have q0 : (0 : Int) ≤ (j : Int) := by omega
              have q1 : (j : Int) < (o.length : Int) := by omega
              go_wp2
              go_roundw
              case rel => exact ⟨j + 1, by omega, by go_num, by first | trivial | rfl⟩
              case measure => simp [intOf]; omega
            · have d5 : decide (j < o.length) = false := decide_eq_false hjl
              have hdl : b.dropLast.length = b.length - 1 := List.length_dropLast
              by_cases hb0 : b.length = 0
              · have d6 : decide (0 < b.length) = false := decide_eq_false (by omega)
                have hrb3' : RowN w3 w.heap.size Y3 Ab cb b.dropLast := by
                  have := hrb3.take (b.length - 1) (by omega)
                  rwa [← List.dropLast_eq_take] at this
                obtain ⟨w4, hw4⟩ : ∃ w4, w4 = w3.alloc (.cells #[.int .u8 1] 5) := ⟨_, rfl⟩
                have hba : Below w3.heap.size w3 w4 := by rw [hw4]; exact (Below.refl _ w3).alloc (Nat.le_refl _) _
                have hr1 : Reads w4 w4.heap.size 1 (some ⟨w3.heap.size, 0, none⟩) 1 (bl [1]) := by rw [hw4]; exact one_byte w3 1 (by omega)
                have hb4 := hb3.trans (hba.mono hb3.size)
                have hY4 : ∀ k, Y3 k → w.heap.size ≤ k ∧ k < w4.heap.size := fun k hk => ⟨(hY3 k hk).1, Nat.lt_of_lt_of_le (hY3 k hk).2 hba.size⟩
                have hro4 := hro3.fr (X := fun _ => False) (Fr.of_below hba) (fun _ h => h.elim) (Y' := Y3) (fun k hk => .inl hk)
                have hrb4 := hrb3'.fr (X := fun _ => False) (Fr.of_below hba) (fun _ h => h.elim) (Y' := Y3) (fun k hk => .inl hk)
                have hPu := put_once (hT4.keep (KeepX.of_below hba)) HN.out.2.2.1 n hn32 HN.out.2.2.2.1 (powBelow HR.out.2.2 hb4) (fun h => by have := (hY3 1 h).1; omega) hr1
                unfold oneX NX.val nodeV at hPu
                dsimp only [List.length_nil, List.length_cons] at hPu
                simp only [Int.natCast_zero] at hPu
                have HW4 := Lib.hid hw4
                clear hw4 hr1 hba
                go_wp2_with (first
                  | (rw [← HW4.out]; go_at_call 19; refine hPu.mono ?_; rintro e w5 ⟨rfl, hT5, hf5⟩; obtain ⟨Y5, hT6, hY5, hro5, hrb5, hb5⟩ := frame_call hY4 hro4 hrb4 hb4 hT5 hf5; obtain ⟨w6, hw6⟩ : ∃ w6, w6 = w5.alloc (.cells #[.int .u32 (n : Nat)] 22) := ⟨_, rfl⟩; have hbb : Below w5.heap.size w5 w6 := (by rw [hw6]; exact (Below.refl _ w5).alloc (Nat.le_refl _) _); have hrn : Reads w6 w6.heap.size 1 (some ⟨w5.heap.size, 0, none⟩) 1 (ul [n]) := (by rw [hw6]; exact reads_blk (Blk.new _ _ _) rfl); have HW6 := Lib.hid hw6; clear hw6; have hro6 := hro5.fr (X := fun _ => False) (Fr.of_below hbb) (fun _ h => h.elim) (Y' := Y5) (fun k hk => .inl hk); have hb6 := hb5.trans (hbb.mono hb5.size))
                  | (rw [← HW6.out]; refine list_push TU4 rfl rfl w.heap.size rfl hro6.own rfl hrn (ul_one _) (by omega) hb6.size (k := (o ++ [n]).length) (by simp) (ul_app _ _) ?_; intro A7 c7 w7 ho7 hg7 hob7))
                have hY6 : ∀ k, Y5 k → k < w6.heap.size := fun k hk => Nat.lt_of_lt_of_le (hY5 k hk).2 hbb.size
                have hro7 := hro6.grown hY6 ho7 hob7
                have hK7 : KeepX Y5 w6 w7 := ⟨hg7.size, fun k hk hl => grown_at hg7 hl (fun ad e hh => hro6.far ad e (by rw [hh]; exact hk))⟩
                have hT7 := (hT6.keep (KeepX.of_below hbb)).keep hK7
                have hrb6 := hrb5.fr (X := fun _ => False) (Fr.of_below hbb) (fun _ h => h.elim) (Y' := Y5) (fun k hk => .inl hk)
                have hrb7 := hrb6.keep (w' := w7) (Y' := Y5) (fun ad e => grown_at hg7 (hrb6.lt ad e).1 (fun ad2 e2 hh => HM.out.sep ad2 ad e2 e hh)) hrb6.far
                have hb7 := hb6.trans (grown_below hg7 hb6.size (fun ad e => (hro6.lt ad e).2))
                have hsp7 : ∀ a1 a2, A7 = some a1 → Ab = some a2 → a1.block ≠ a2.block := by
                  intro a1 a2 h1 h2
                  subst h1
                  rcases hob7 with hob | hob
                  · obtain ⟨ad', ee, ee2⟩ := ownB (g := a1.block) (hob.symm.trans rfl)
                    rw [← ee2]
                    exact HM.out.sep ad' a2 ee h2
                  · have e9 : a1.block = w6.heap.size := by simpa [Value.ownBlock] using hob
                    have := (hrb6.lt a2 h2).1
                    omega
                have hg7s := hg7.size
                clear hro6 hrb6 hg7 hob7 ho7 hK7 hrn
                go_roundw
                case rel => exact ⟨k + 1, o ++ [n], b.dropLast, A7, Ab, c7, cb, Y5, _, by omega, by go_num, by first | rfl | simp, by (have : b.dropLast.length = 0 := by omega); rw [this], by rw [List.length_append, List.length_dropLast, List.length_singleton]; omega,
                  hT7, fun k hk => ⟨(hY5 k hk).1, Nat.lt_of_lt_of_le (hY6 k hk) (by have := hg7s; omega)⟩, hro7, hrb7, hsp7, HN.out.2.2.2.2, hb7⟩
                case measure => simp [intOf]; omega
              · have d6 : decide (0 < b.length) = true := decide_eq_true (by omega)
                have hrb3' : RowN w3 w.heap.size Y3 Ab cb b.dropLast := by
                  have := hrb3.take (b.length - 1) (by omega)
                  rwa [← List.dropLast_eq_take] at this
                obtain ⟨p, HP⟩ : ∃ p, Hid (b.length - 1 = p) := ⟨_, Lib.hid rfl⟩
                have hbl : b[p]? = some n := by
                  have e := HN.out.2.1 (fun h => hb0 (by rw [h]; rfl))
                  rw [e, List.getElem?_append_right (by have := HP.out; omega)]
                  rw [show p - b.dropLast.length = 0 by have := HP.out; omega]
                  rfl
                obtain ⟨gb, egb, hcb, hcc⟩ := hrb3.cell hbl
                subst egb
                have w8 : IntKind.i64.wrap ((b.length : Int) - 1) = (p : Int) := by have := HP.out; rw [IntKind.wrap_i64]; omega
                have w9 : (b.length : Int) - 1 = (p : Int) := by have := HP.out; omega
                have p0 : (0 : Int) ≤ (p : Int) := by omega
                have p1 : (p : Int) < (b.length : Int) := by have := HP.out; omega
                have p2 : (p : Int) ≤ (cb : Int) := by have := HP.out; omega
                have hnn2 : ((n : Int) != (n : Int)) = false := by simp
                obtain ⟨w4, hw4⟩ : ∃ w4, w4 = w3.alloc (.cells #[.int .u8 1] 5) := ⟨_, rfl⟩
                have hba : Below w3.heap.size w3 w4 := by rw [hw4]; exact (Below.refl _ w3).alloc (Nat.le_refl _) _
                have hr1 : Reads w4 w4.heap.size 1 (some ⟨w3.heap.size, 0, none⟩) 1 (bl [1]) := by rw [hw4]; exact one_byte w3 1 (by omega)
                have hb4 := hb3.trans (hba.mono hb3.size)
                have hY4 : ∀ k, Y3 k → w.heap.size ≤ k ∧ k < w4.heap.size := fun k hk => ⟨(hY3 k hk).1, Nat.lt_of_lt_of_le (hY3 k hk).2 hba.size⟩
                have hro4 := hro3.fr (X := fun _ => False) (Fr.of_below hba) (fun _ h => h.elim) (Y' := Y3) (fun k hk => .inl hk)
                have hrb4 := hrb3'.fr (X := fun _ => False) (Fr.of_below hba) (fun _ h => h.elim) (Y' := Y3) (fun k hk => .inl hk)
                have hPu := put_once (hT4.keep (KeepX.of_below hba)) HN.out.2.2.1 n hn32 HN.out.2.2.2.1 (powBelow HR.out.2.2 hb4) (fun h => by have := (hY3 1 h).1; omega) hr1
                unfold oneX NX.val nodeV at hPu
                dsimp only [List.length_nil, List.length_cons] at hPu
                simp only [Int.natCast_zero] at hPu
                have HW4 := Lib.hid hw4
                clear hw4 hr1 hba
                go_wp2_with (first
                  | (rw [← HW4.out]; go_at_call 19; refine hPu.mono ?_; rintro e w5 ⟨rfl, hT5, hf5⟩; obtain ⟨Y5, hT6, hY5, hro5, hrb5, hb5⟩ := frame_call hY4 hro4 hrb4 hb4 hT5 hf5; obtain ⟨w6, hw6⟩ : ∃ w6, w6 = w5.alloc (.cells #[.int .u32 (n : Nat)] 22) := ⟨_, rfl⟩; have hbb : Below w5.heap.size w5 w6 := (by rw [hw6]; exact (Below.refl _ w5).alloc (Nat.le_refl _) _); have hrn : Reads w6 w6.heap.size 1 (some ⟨w5.heap.size, 0, none⟩) 1 (ul [n]) := (by rw [hw6]; exact reads_blk (Blk.new _ _ _) rfl); have HW6 := Lib.hid hw6; clear hw6; have hro6 := hro5.fr (X := fun _ => False) (Fr.of_below hbb) (fun _ h => h.elim) (Y' := Y5) (fun k hk => .inl hk); have hb6 := hb5.trans (hbb.mono hb5.size))
                  | (rw [← HW6.out]; refine list_push TU4 rfl rfl w.heap.size rfl hro6.own rfl hrn (ul_one _) (by omega) hb6.size (k := (o ++ [n]).length) (by simp) (ul_app _ _) ?_; intro A7 c7 w7 ho7 hg7 hob7))
                have hY6 : ∀ k, Y5 k → k < w6.heap.size := fun k hk => Nat.lt_of_lt_of_le (hY5 k hk).2 hbb.size
                have hro7 := hro6.grown hY6 ho7 hob7
                have hK7 : KeepX Y5 w6 w7 := ⟨hg7.size, fun k hk hl => grown_at hg7 hl (fun ad e hh => hro6.far ad e (by rw [hh]; exact hk))⟩
                have hT7 := (hT6.keep (KeepX.of_below hbb)).keep hK7
                have hrb6 := hrb5.fr (X := fun _ => False) (Fr.of_below hbb) (fun _ h => h.elim) (Y' := Y5) (fun k hk => .inl hk)
                have hrb7 := hrb6.keep (w' := w7) (Y' := Y5) (fun ad e => grown_at hg7 (hrb6.lt ad e).1 (fun ad2 e2 hh => HM.out.sep ad2 ad e2 e hh)) hrb6.far
                have hb7 := hb6.trans (grown_below hg7 hb6.size (fun ad e => (hro6.lt ad e).2))
                have hsp7 : ∀ a1 a2, A7 = some a1 → some (⟨gb, 0, none⟩ : Addr) = some a2 → a1.block ≠ a2.block := by
                  intro a1 a2 h1 h2
                  subst h1
                  rcases hob7 with hob | hob
                  · obtain ⟨ad', ee, ee2⟩ := ownB (g := a1.block) (hob.symm.trans rfl)
                    rw [← ee2]
                    exact HM.out.sep ad' a2 ee h2
                  · have e9 : a1.block = w6.heap.size := by simpa [Value.ownBlock] using hob
                    have := (hrb6.lt a2 h2).1
                    omega
                have hg7s := hg7.size
                clear hro6 hrb6 hg7 hob7 ho7 hK7 hrn
                go_roundw
                case rel => exact ⟨k + 1, o ++ [n], b.dropLast, A7, some ⟨gb, 0, none⟩, c7, cb, Y5, _, by omega, by go_num, by first | rfl | simp, by rw [hdl, HP.out], by rw [List.length_append, List.length_dropLast, List.length_singleton]; omega,
                  hT7, fun k hk => ⟨(hY5 k hk).1, Nat.lt_of_lt_of_le (hY6 k hk) (by have := hg7s; omega)⟩, hro7, hrb7, hsp7, HN.out.2.2.2.2, hb7⟩
                case measure => simp [intOf]; omega
      · have hv0 : 0 ≤ v := by omega
        have ho0 : o.length ≠ 0 := fun h => hA (.inr h)
        have e1 : decide (v < 0) = false := decide_eq_false (by omega)
        have e2 : ((o.length : Int) == 0) = false := beq_eq_false_iff_ne.2 (by omega)
        obtain ⟨m, HMD⟩ : ∃ m, Hid (v.toNat % o.length = m) := ⟨_, Lib.hid rfl⟩
        have hml : m < o.length := by rw [← HMD.out]; exact Nat.mod_lt _ (by omega)
        have hq : v % (o.length : Int) = (m : Int) := by
          rw [← HMD.out]
          have : v = (v.toNat : Int) := by omega
          rw [this]
          simp
        obtain ⟨n, hn⟩ : ∃ n, o[m]? = some n := ⟨_, List.getElem?_eq_getElem hml⟩
        obtain ⟨g, rfl, hco, hcm⟩ := HM.out.ro.cell hn
        have htab := powBelow HR.out.2.2 HM.out.below
        obtain ⟨hn32, t1, hon, hFr⟩ := free_once HM.out.tx HM.out.once hn htab hY1
        have q0 : (0 : Int) ≤ (m : Int) := by omega
        have q1 : (m : Int) < (o.length : Int) := by omega
        have HN := Lib.hid (And.intro hn hon)
        clear hn hon htab
        go_wp2_with (first
          | (go_at_call 20; refine hFr.mono ?_; rintro e w3 ⟨rfl, hT3, hf3⟩; obtain ⟨Y3, hT4, hY3, hro3, hrb3, hb3⟩ := HM.out.call hT3 hf3; obtain ⟨g', eg, _, hcm3⟩ := hro3.cell HN.out.1; cases eg; obtain ⟨w4, hw4⟩ : ∃ w4, w4 = w3.alloc (.cells #[.int .u32 (n : Nat)] 22) := ⟨_, rfl⟩; have hba : Below w3.heap.size w3 w4 := (by rw [hw4]; exact (Below.refl _ w3).alloc (Nat.le_refl _) _); have hrn : Reads w4 w4.heap.size 1 (some ⟨w3.heap.size, 0, none⟩) 1 (ul [n]) := (by rw [hw4]; exact reads_blk (Blk.new _ _ _) rfl); have HW4 := Lib.hid hw4; clear hw4; have hrb4 := hrb3.fr (X := fun _ => False) (Fr.of_below hba) (fun _ h => h.elim) (Y' := Y3) (fun k hk => .inl hk); have hb4 := hb3.trans (hba.mono hb3.size))
          | (rw [← HW4.out]; refine list_push TU4 rfl rfl w.heap.size rfl hrb4.own rfl hrn (ul_one _) (by omega) hb4.size (k := (b ++ [n]).length) (by simp) (ul_app _ _) ?_; intro A5 c5 w5 ho5 hg5 hob5))
        have hro4 := hro3.fr (X := fun _ => False) (Fr.of_below hba) (fun _ h => h.elim) (Y' := Y3) (fun k hk => .inl hk)
        have hT4' := hT4.keep (KeepX.of_below hba)
        have hY4 : ∀ k, Y3 k → k < w4.heap.size := fun k hk => Nat.lt_of_lt_of_le (hY3 k hk).2 hba.size
        have hrb5 := hrb4.grown hY4 ho5 hob5
        have hK5 : KeepX Y3 w4 w5 := ⟨hg5.size, fun k hk hl => grown_at hg5 hl (fun ad e hh => hrb4.far ad e (by rw [hh]; exact hk))⟩
        have hT5 := hT4'.keep hK5
        have hro5 := hro4.keep (w' := w5) (Y' := Y3) (fun ad e => grown_at hg5 (hro4.lt ad e).1 (fun ad2 e2 hh => HM.out.sep ad ad2 e e2 hh.symm)) hro4.far
        have hb5 := hb4.trans (grown_below hg5 hb4.size (fun ad e => (hrb4.lt ad e).2))
        have hY5 : ∀ k, Y3 k → k < w5.heap.size := fun k hk => Nat.lt_of_lt_of_le (hY4 k hk) hg5.size
        clear hrb4 hro4 hT4' hrn ho5 hob5 hK5 hg5 hcm3 hrb3 hro3 hT4 hT3 hf3 hFr hba
        have j1 : (m : Int) ≤ (co : Int) := by omega
        have j2 : (m : Int) + 1 ≤ (o.length : Int) := by omega
        have j3 : IntKind.i64.wrap ((m : Int) + 1) = (m : Int) + 1 := by rw [IntKind.wrap_i64]; omega
        have j4 : (0 : Int) ≤ (m : Int) + 1 := by omega
        have j5 : ((m : Int) + 1).toNat = m + 1 := by omega
        have j6 : (o.length : Int) ≤ (co : Int) := by omega
        have j7 : (m : Int) ≤ (m : Int) + 1 := by omega
        have j8 : (m : Int) + 1 ≤ (co : Int) := by omega
        by_cases hcm : co = m + 1
        · skip
          have c2 : ((co : Int) == (m : Int) + 1) = true := beq_iff_eq.2 (by omega)
          refine regionE 10 (fun _ => True) (by kernel_rfl) (by kernel_rfl) (by kernel_rfl) (by kernel_rfl) (by kernel_rfl) (trivial) (fun hHeld hTl => ?_)
          refine takeE 1 (v := ?_) hTl rfl (by decide) (by kernel_rfl) (by kernel_rfl) (fun _ _ _ h => h) hHeld (Or.inl ⟨by rfl, ?_⟩) (fun hTl => ?_)
          rotate_left
          · intro w hSw; (try dsimp only at hSw); go_simp
            all_goals with_reducible rfl
          try simp only [Act.put, List.setIfInBounds_toArray, List.set_cons_zero, List.set_cons_succ]
          refine takeE 2 (v := ?_) hTl rfl (by decide) (by kernel_rfl) (by kernel_rfl) (fun _ _ _ h => h) hHeld (Or.inl ⟨by rfl, ?_⟩) (fun hTl => ?_)
          rotate_left
          · intro w hSw; (try dsimp only at hSw); go_simp
            all_goals with_reducible rfl
          try simp only [Act.put, List.setIfInBounds_toArray, List.set_cons_zero, List.set_cons_succ]
          refine takeE 3 (v := ?_) hTl rfl (by decide) (by kernel_rfl) (by kernel_rfl) (fun _ _ _ h => h) hHeld (Or.inl ⟨by rfl, ?_⟩) (fun hTl => ?_)
          rotate_left
          · intro w hSw; (try dsimp only at hSw); go_simp
            all_goals with_reducible rfl
          try simp only [Act.put, List.setIfInBounds_toArray, List.set_cons_zero, List.set_cons_succ]
          refine takeE 5 (v := ?_) hTl rfl (by decide) (by kernel_rfl) (by kernel_rfl) (fun _ _ _ h => h) hHeld (Or.inl ⟨by rfl, ?_⟩) (fun hTl => ?_)
          rotate_left
          · intro w hSw; (try dsimp only at hSw); go_simp
            all_goals with_reducible rfl
          try simp only [Act.put, List.setIfInBounds_toArray, List.set_cons_zero, List.set_cons_succ]
          refine takeE 6 (v := ?_) hTl rfl (by decide) (by kernel_rfl) (by kernel_rfl) (fun _ _ _ h => h) hHeld (Or.inl ⟨by rfl, ?_⟩) (fun hTl => ?_)
          rotate_left
          · intro w hSw; (try dsimp only at hSw); go_simp
            all_goals with_reducible rfl
          try simp only [Act.put, List.setIfInBounds_toArray, List.set_cons_zero, List.set_cons_succ]
          refine takeE 7 (v := ?_) hTl rfl (by decide) (by kernel_rfl) (by kernel_rfl) (fun _ _ _ h => h) hHeld (Or.inl ⟨by rfl, ?_⟩) (fun hTl => ?_)
          rotate_left
          · intro w hSw; (try dsimp only at hSw); go_simp
            all_goals with_reducible rfl
          try simp only [Act.put, List.setIfInBounds_toArray, List.set_cons_zero, List.set_cons_succ]
          refine takeE 8 (v := ?_) hTl rfl (by decide) (by kernel_rfl) (by kernel_rfl) (fun _ _ _ h => h) hHeld (Or.inl ⟨by rfl, ?_⟩) (fun hTl => ?_)
          rotate_left
          · intro w hSw; (try dsimp only at hSw); go_simp
            all_goals with_reducible rfl
          try simp only [Act.put, List.setIfInBounds_toArray, List.set_cons_zero, List.set_cons_succ]
          clear hTl
          refine oneE 0 rfl (by kernel_rfl) (fun K hK => ?_)
          go_simp
          refine hK.out _ _ (fun _ => trivial) ?_
          clear hK K
          try simp only [Act.put, List.setIfInBounds_toArray, List.set_cons_zero, List.set_cons_succ]
          have hE6 : (w5.drew.alloc (.cells #[] 22)).ownsRow w5.heap.size 22 1 (.slice (some ⟨w5.heap.size, 0, none⟩) 0 0) 0 (ul []) := own_emptyH _ 22 1 rfl (Nat.le_refl _)
          have hb6 : Below w5.heap.size w5 (w5.drew.alloc (.cells #[] 22)) := ((Below.refl _ w5).drew).alloc (Nat.le_refl _) _
          have hro6 := hro5.fr (X := fun _ => False) (Fr.of_below hb6) (fun _ h => h.elim) (Y' := Y3) (fun k hk => .inl hk)
          have hs6 : w5.heap.size ≤ (w5.drew.alloc (.cells #[] 22)).heap.size := hb6.size
          refine oneE 4 rfl (by kernel_rfl) (fun K hK => ?_)
          refine step_push TU4 rfl rfl w5.heap.size rfl hE6 rfl (reads_utake hro6 (m := m) (by omega)) (ul_one _) (by omega) hs6 (k := (o.take m).length) (by rw [List.length_take]; omega) (ys := ul (o.take m)) (by simp [ul]) ?_
          intro A7 c7 w7 ho7 hg7 hob7
          refine hK.out _ _ (fun _ => trivial) ?_
          clear hK K
          try simp only [Act.put, List.setIfInBounds_toArray, List.set_cons_zero, List.set_cons_succ]
          have hr7 : RowN w7 w5.heap.size Y3 A7 c7 (o.take m) := ⟨ho7, fun ad e hy => by have := (RowN.lt (Y := fun _ => False) ⟨ho7, fun _ _ h => h⟩ ad e).2; have := hY5 _ hy; omega⟩
          have hb7 : Below w5.heap.size w5 w7 := hb6.trans (grown_below hg7 hs6 (fun ad e => by cases e; exact Nat.le_refl _))
          have hro7 := hro5.fr (X := fun _ => False) (Fr.of_below hb7) (fun _ h => h.elim) (Y' := Y3) (fun k hk => .inl hk)
          refine oneE 9 rfl (by kernel_rfl) (fun K hK => ?_)
          refine step_push TU4 rfl rfl w5.heap.size rfl hr7.own (B := w7.heap.size) rfl (m := o.length - (m + 1)) (news := ul (o.drop (m + 1))) ⟨by rw [ul_len, List.length_drop]; omega, fun h0 => absurd h0 (by omega)⟩ (ul_one _) (by have : (o.take m).length ≤ o.length := (by rw [List.length_take]; omega); omega) hb7.size (k := (o.take m ++ o.drop (m + 1)).length) (by rw [List.length_append, List.length_drop]) (ul_app _ _) ?_
          intro A9 c9 w9 ho9 hg9 hob9
          refine hK.out _ _ (fun _ => trivial) ?_
          clear hK K
          try simp only [Act.put, List.setIfInBounds_toArray, List.set_cons_zero, List.set_cons_succ]
          refine oneE 10 rfl (by kernel_rfl) (fun K hK => ?_)
          go_simp
          refine hK.out _ _ (fun h => absurd h (by decide)) ?_
          clear hK K
          try simp only [Act.put, List.setIfInBounds_toArray, List.set_cons_zero, List.set_cons_succ]
          refine doneE (by kernel_rfl) ?_ _
          have hr9 : RowN w9 w5.heap.size Y3 A9 c9 (o.take m ++ o.drop (m + 1)) := ⟨ho9, fun ad e hy => by have := (RowN.lt (Y := fun _ => False) ⟨ho9, fun _ _ h => h⟩ ad e).2; have := hY5 _ hy; omega⟩
          have hb9 : Below w5.heap.size w5 w9 := hb7.trans (grown_below hg9 hb7.size (fun ad e => (hr7.lt ad e).2))
          have hrb9 := hrb5.fr (X := fun _ => False) (Fr.of_below hb9) (fun _ h => h.elim) (Y' := Y3) (fun k hk => .inl hk)
          have hT9 := hT5.keep (KeepX.of_below hb9)
          clear hro5 hro6 hro7 hE6 hb6 hb7 hr7 ho7 hg7 hob7 ho9 hg9 hob9 hT5
          go_wp2_with fail
          go_roundw
          case rel => exact ⟨k + 1, o.take m ++ o.drop (m + 1), b ++ [n], A9, A5, c9, c5, Y3, t1, by omega, by go_num, by first | rfl | simp, by first | rfl | simp, by rw [List.length_append, List.length_append, List.length_take, List.length_drop, List.length_singleton]; omega,
            hT9, fun k hk => ⟨(hY3 k hk).1, Nat.lt_of_lt_of_le (hY5 k hk) hb9.size⟩, ⟨own_le hr9.own hb5.size, hr9.far⟩, hrb9, fun a1 a2 h1 h2 hh => by have := (hr9.lt a1 h1).2; have := (hrb5.lt a2 h2).1; omega, HN.out.2, hb5.trans (hb9.mono hb5.size)⟩
          case measure => simp [intOf]; omega
        · skip
          have c2 : ((co : Int) == (m : Int) + 1) = false := beq_eq_false_iff_ne.2 (by omega)
          refine regionE 10 (fun _ => True) (by kernel_rfl) (by kernel_rfl) (by kernel_rfl) (by kernel_rfl) (by kernel_rfl) (trivial) (fun hHeld hTl => ?_)
          refine takeE 1 (v := ?_) hTl rfl (by decide) (by kernel_rfl) (by kernel_rfl) (fun _ _ _ h => h) hHeld (Or.inl ⟨by rfl, ?_⟩) (fun hTl => ?_)
          rotate_left
          · intro w hSw; (try dsimp only at hSw); go_simp
            all_goals with_reducible rfl
          try simp only [Act.put, List.setIfInBounds_toArray, List.set_cons_zero, List.set_cons_succ]
          refine takeE 2 (v := ?_) hTl rfl (by decide) (by kernel_rfl) (by kernel_rfl) (fun _ _ _ h => h) hHeld (Or.inl ⟨by rfl, ?_⟩) (fun hTl => ?_)
          rotate_left
          · intro w hSw; (try dsimp only at hSw); go_simp
            all_goals with_reducible rfl
          try simp only [Act.put, List.setIfInBounds_toArray, List.set_cons_zero, List.set_cons_succ]
          refine takeE 3 (v := ?_) hTl rfl (by decide) (by kernel_rfl) (by kernel_rfl) (fun _ _ _ h => h) hHeld (Or.inl ⟨by rfl, ?_⟩) (fun hTl => ?_)
          rotate_left
          · intro w hSw; (try dsimp only at hSw); go_simp
            all_goals with_reducible rfl
          try simp only [Act.put, List.setIfInBounds_toArray, List.set_cons_zero, List.set_cons_succ]
          refine takeE 5 (v := ?_) hTl rfl (by decide) (by kernel_rfl) (by kernel_rfl) (fun _ _ _ h => h) hHeld (Or.inl ⟨by rfl, ?_⟩) (fun hTl => ?_)
          rotate_left
          · intro w hSw; (try dsimp only at hSw); go_simp
            all_goals with_reducible rfl
          try simp only [Act.put, List.setIfInBounds_toArray, List.set_cons_zero, List.set_cons_succ]
          refine takeE 6 (v := ?_) hTl rfl (by decide) (by kernel_rfl) (by kernel_rfl) (fun _ _ _ h => h) hHeld (Or.inl ⟨by rfl, ?_⟩) (fun hTl => ?_)
          rotate_left
          · intro w hSw; (try dsimp only at hSw); go_simp
            all_goals with_reducible rfl
          try simp only [Act.put, List.setIfInBounds_toArray, List.set_cons_zero, List.set_cons_succ]
          refine takeE 7 (v := ?_) hTl rfl (by decide) (by kernel_rfl) (by kernel_rfl) (fun _ _ _ h => h) hHeld (Or.inl ⟨by rfl, ?_⟩) (fun hTl => ?_)
          rotate_left
          · intro w hSw; (try dsimp only at hSw); go_simp
            all_goals with_reducible rfl
          try simp only [Act.put, List.setIfInBounds_toArray, List.set_cons_zero, List.set_cons_succ]
          refine takeE 8 (v := ?_) hTl rfl (by decide) (by kernel_rfl) (by kernel_rfl) (fun _ _ _ h => h) hHeld (Or.inl ⟨by rfl, ?_⟩) (fun hTl => ?_)
          rotate_left
          · intro w hSw; (try dsimp only at hSw); go_simp
            all_goals with_reducible rfl
          try simp only [Act.put, List.setIfInBounds_toArray, List.set_cons_zero, List.set_cons_succ]
          clear hTl
          refine oneE 0 rfl (by kernel_rfl) (fun K hK => ?_)
          go_simp
          refine hK.out _ _ (fun _ => trivial) ?_
          clear hK K
          try simp only [Act.put, List.setIfInBounds_toArray, List.set_cons_zero, List.set_cons_succ]
          have hE6 : (w5.drew.alloc (.cells #[] 22)).ownsRow w5.heap.size 22 1 (.slice (some ⟨w5.heap.size, 0, none⟩) 0 0) 0 (ul []) := own_emptyH _ 22 1 rfl (Nat.le_refl _)
          have hb6 : Below w5.heap.size w5 (w5.drew.alloc (.cells #[] 22)) := ((Below.refl _ w5).drew).alloc (Nat.le_refl _) _
          have hro6 := hro5.fr (X := fun _ => False) (Fr.of_below hb6) (fun _ h => h.elim) (Y' := Y3) (fun k hk => .inl hk)
          have hs6 : w5.heap.size ≤ (w5.drew.alloc (.cells #[] 22)).heap.size := hb6.size
          refine oneE 4 rfl (by kernel_rfl) (fun K hK => ?_)
          refine step_push TU4 rfl rfl w5.heap.size rfl hE6 rfl (reads_utake hro6 (m := m) (by omega)) (ul_one _) (by omega) hs6 (k := (o.take m).length) (by rw [List.length_take]; omega) (ys := ul (o.take m)) (by simp [ul]) ?_
          intro A7 c7 w7 ho7 hg7 hob7
          refine hK.out _ _ (fun _ => trivial) ?_
          clear hK K
          try simp only [Act.put, List.setIfInBounds_toArray, List.set_cons_zero, List.set_cons_succ]
          have hr7 : RowN w7 w5.heap.size Y3 A7 c7 (o.take m) := ⟨ho7, fun ad e hy => by have := (RowN.lt (Y := fun _ => False) ⟨ho7, fun _ _ h => h⟩ ad e).2; have := hY5 _ hy; omega⟩
          have hb7 : Below w5.heap.size w5 w7 := hb6.trans (grown_below hg7 hs6 (fun ad e => by cases e; exact Nat.le_refl _))
          have hro7 := hro5.fr (X := fun _ => False) (Fr.of_below hb7) (fun _ h => h.elim) (Y' := Y3) (fun k hk => .inl hk)
          refine oneE 9 rfl (by kernel_rfl) (fun K hK => ?_)
          refine step_push TU4 rfl rfl w5.heap.size rfl hr7.own (B := w7.heap.size) rfl (m := o.length - (m + 1)) (news := ul (o.drop (m + 1))) (reads_udrop hro7 (by omega)) (ul_one _) (by have : (o.take m).length ≤ o.length := (by rw [List.length_take]; omega); omega) hb7.size (k := (o.take m ++ o.drop (m + 1)).length) (by rw [List.length_append, List.length_drop]) (ul_app _ _) ?_
          intro A9 c9 w9 ho9 hg9 hob9
          refine hK.out _ _ (fun _ => trivial) ?_
          clear hK K
          try simp only [Act.put, List.setIfInBounds_toArray, List.set_cons_zero, List.set_cons_succ]
          refine oneE 10 rfl (by kernel_rfl) (fun K hK => ?_)
          go_simp
          refine hK.out _ _ (fun h => absurd h (by decide)) ?_
          clear hK K
          try simp only [Act.put, List.setIfInBounds_toArray, List.set_cons_zero, List.set_cons_succ]
          refine doneE (by kernel_rfl) ?_ _
          have hr9 : RowN w9 w5.heap.size Y3 A9 c9 (o.take m ++ o.drop (m + 1)) := ⟨ho9, fun ad e hy => by have := (RowN.lt (Y := fun _ => False) ⟨ho9, fun _ _ h => h⟩ ad e).2; have := hY5 _ hy; omega⟩
          have hb9 : Below w5.heap.size w5 w9 := hb7.trans (grown_below hg9 hb7.size (fun ad e => (hr7.lt ad e).2))
          have hrb9 := hrb5.fr (X := fun _ => False) (Fr.of_below hb9) (fun _ h => h.elim) (Y' := Y3) (fun k hk => .inl hk)
          have hT9 := hT5.keep (KeepX.of_below hb9)
          clear hro5 hro6 hro7 hE6 hb6 hb7 hr7 ho7 hg7 hob7 ho9 hg9 hob9 hT5
          go_wp2_with fail
          go_roundw
          case rel => exact ⟨k + 1, o.take m ++ o.drop (m + 1), b ++ [n], A9, A5, c9, c5, Y3, t1, by omega, by go_num, by first | rfl | simp, by first | rfl | simp, by rw [List.length_append, List.length_append, List.length_take, List.length_drop, List.length_singleton]; omega,
            hT9, fun k hk => ⟨(hY3 k hk).1, Nat.lt_of_lt_of_le (hY5 k hk) hb9.size⟩, ⟨own_le hr9.own hb5.size, hr9.far⟩, hrb9, fun a1 a2 h1 h2 hh => by have := (hr9.lt a1 h1).2; have := (hrb5.lt a2 h2).1; omega, HN.out.2, hb5.trans (hb9.mono hb5.size)⟩
          case measure => simp [intOf]; omega
    · have d3 : decide (k < li.length) = false := decide_eq_false hlt
      have hLv := HL.out _ HM.out.below
      have hBb := HM.out.below
      go_wp2_with (go_at_call 18; refine hLv.mono ?_; rintro e w2 ⟨rfl, hbl⟩)
      go_ret
      exact ⟨rfl, hBb.trans (hbl.mono hBb.size)⟩
end Go.Proofs.YtenfkghoolegfaaGreatDoor
set_option linter.unusedVariables false
namespace Go.Proofs.YtenfkghoolegfaaGreatDoor
open Go.RowKit
def lvA : List UInt8 := putP (freshN 7)
def lvB : List UInt8 := putP (freePg 7 0)
def lv1 : PT := ⟨[], 7, 1, 3, 0, 0, [(1, lvA)], true⟩
def lv2 : PT := ⟨[], 7, 1, 3, 0, 0, [(1, lvA), (2, lvA)], true⟩
def lv3 : PT := ⟨[], 7, 1, 3, 2, 0, [(1, lvA), (2, lvB)], true⟩
def lv4 : PT := ⟨[], 7, 1, 3, 0, 0, [(1, lvA), (2, lvB)], true⟩
def lv5 : PT := ⟨[], 7, 1, 4, 0, 0, [(1, lvA), (2, lvB)], true⟩
theorem lv_put : layE lv1 leafX.n = 0 ∧ putT lv1 2 leafX.n = lv2 := by
  have h : layE lv1 leafX.n = 0 := leaf_put 7
  refine ⟨h, ?_⟩
  unfold putT
  rw [show isPageT lv1 2 = 0 from rfl]
  unfold layT
  rw [if_pos h]
  rfl
theorem lv_free : (freeT lv2 2).2 = lv3 := by
  have h : layE lv2 (freeN lv2) = 0 := freePg_put 7 0
  unfold freeT
  rw [show isPageT lv2 2 = 0 from rfl, if_neg (by simp), if_neg (by rw [h]; simp)]
  unfold layT
  rw [if_pos h]
  rfl
theorem lv2_ok : lv2.OK := by
  refine ⟨by decide, by decide, by decide, fun x hx => ?_, ?_⟩
  · simp only [lv2, List.mem_cons, List.not_mem_nil, or_false] at hx
    rcases hx with rfl | rfl <;> decide
  · show [1, 2].Nodup
    decide
theorem lv5_ok : lv5.OK := by
  refine ⟨by decide, by decide, by decide, fun x hx => ?_, ?_⟩
  · simp only [lv5, List.mem_cons, List.not_mem_nil, or_false] at hx
    rcases hx with rfl | rfl <;> decide
  · show [1, 2].Nodup
    decide
/-- live's transaction, in blocks of its own. -/
structure LvAt (w W : World) (T M : Nat) (t : PT) : Prop where
  tx : TX (fun k => w.heap.size ≤ k) W T M t
  below : Below w.heap.size w W
  glob : GlobAt w
  pow : PowAt w
theorem pow_size {w : World} (h : PowAt w) : 1 < w.heap.size := by
  unfold PowAt at h
  rcases Nat.lt_or_ge 1 w.heap.size with h1 | h1
  · exact h1
  · rw [Array.getElem?_eq_none h1] at h; cases h
theorem LvAt.powW {w W : World} {T M : Nat} {t : PT} (h : LvAt w W T M t) : PowAt W := powBelow h.pow h.below
theorem LvAt.next {w W W' : World} {T M : Nat} {t t' : PT} (h : LvAt w W T M t) (hT : TX (moreX (fun k => w.heap.size ≤ k) W) W' T M t') (hf : Fr (fun k => w.heap.size ≤ k) W W') : LvAt w W' T M t' :=
  ⟨hT.mono fun k hk => hk.elim id fun h2 => Nat.le_trans h.below.size h2, h.below.trans (hf.below (B := w.heap.size) h.below.size fun k hk => hk), h.glob, h.pow⟩
theorem lv_fresh (w : World) (hg : GlobAt w) (ht : PowAt w) : Calls Tryz.prog 12 #[.int .u64 7] w fun e w' => ∃ T M, e = .returned (.pointer (some ⟨T, 0, none⟩)) ∧ LvAt w w' T M (freshT 7) :=
  (Fresh_any 7 (by decide) w).mono fun e w' ⟨T, M, he, h1, h2⟩ => ⟨T, M, he, h1, h2, hg, ht⟩
theorem lv_alloc1 {w W : World} {T M : Nat} (h : LvAt w W T M (freshT 7)) : Calls Tryz.prog 17 #[.pointer (some ⟨T, 0, none⟩)] W fun e w' => e = .returned (.tuple #[.int .u32 2, .nilIface]) ∧ LvAt w w' T M lv1 :=
  (Alloc_new h.tx rfl (by decide)).mono fun e w' ⟨he, hT, hf⟩ => ⟨he, h.next (hT.mono fun k hk => .inl hk) hf⟩
theorem lv_put2 {w W : World} {T M : Nat} (h : LvAt w W T M lv1) : Calls Tryz.prog 19 #[.pointer (some ⟨T, 0, none⟩), .int .u32 2, leafX.val] W fun e w' => e = .returned .nilIface ∧ LvAt w w' T M lv2 := by
  have := Put_ok h.tx 2 (by decide) leafX (flat_at rfl rfl) ⟨(by decide : 7 < 18446744073709551616), (by decide : 0 < 4294967296), (by decide : 0 < 4294967296), (by decide : 0 < 4294967296), (by decide : 0 < 4294967296), (by decide : 0 < 18446744073709551616), fun c hc => (by cases hc)⟩ rfl lv_put.1 h.powW (fun h1 => by have := pow_size h.pow; omega)
  rw [lv_put.2] at this
  exact this.mono fun e w' ⟨he, hT, hf⟩ => ⟨he, h.next hT hf⟩
theorem lv_free2 {w W : World} {T M : Nat} (h : LvAt w W T M lv2) : Calls Tryz.prog 20 #[.pointer (some ⟨T, 0, none⟩), .int .u32 2] W fun e w' => e = .returned .nilIface ∧ LvAt w w' T M lv3 := by
  have := Free_ok h.tx lv2_ok 2 (by decide) rfl h.powW (fun h1 => by have := pow_size h.pow; omega)
  rw [lv_free] at this
  exact this.mono fun e w' ⟨he, hT, hf⟩ => ⟨he, h.next hT hf⟩
theorem lv_alloc2 {w W : World} {T M : Nat} (h : LvAt w W T M lv3) : Calls Tryz.prog 17 #[.pointer (some ⟨T, 0, none⟩)] W fun e w' => e = .returned (.tuple #[.int .u32 2, .nilIface]) ∧ LvAt w w' T M lv4 := by
  have hg := (get_putND (freePg_put 7 0) (freePg_fit (by decide) (by decide))).1
  exact (Alloc_reuse (t := lv3) h.tx (by decide) lvB (by decide) rfl (ReadC_free (by decide)) hg rfl (by decide)).mono fun e w' ⟨he, hT, hf⟩ => ⟨he, h.next hT hf⟩
theorem lv_alloc3 {w W : World} {T M : Nat} (h : LvAt w W T M lv4) : Calls Tryz.prog 17 #[.pointer (some ⟨T, 0, none⟩)] W fun e w' => e = .returned (.tuple #[.int .u32 3, .nilIface]) ∧ LvAt w w' T M lv5 :=
  (Alloc_new (t := lv4) h.tx rfl (by decide)).mono fun e w' ⟨he, hT, hf⟩ => ⟨he, h.next (hT.mono fun k hk => .inl hk) hf⟩
/-- Page 9: an error; errors.Is tells which; the transaction stays. -/
theorem lv_page {w W : World} {T M : Nat} (h : LvAt w W T M lv5) : Calls Tryz.prog 26 #[.pointer (some ⟨T, 0, none⟩), .int .u32 9] W fun e w' => ∃ v, e = .returned (.tuple #[.slice none 0 0, v]) ∧ LvAt w w' T M lv5 ∧
      Calls Tryz.prog 35 #[v, .iface 80 (.int .i64 7)] w' fun e w2 => e = .returned (.bool true) ∧ LvAt w w2 T M lv5 := by
  refine (Page_none h.tx 9 (by decide) (by decide) h.powW).mono ?_
  rintro e w' ⟨v, he, hv, hb⟩
  have hbw : Below w.heap.size w w' := h.below.trans (hb.mono h.below.size)
  have hg : GlobAt w' := (hbw.cell (p := ⟨0, 0, none⟩) (by have := pow_size h.pow; show 0 < _; omega)).trans h.glob
  have hL : LvAt w w' T M lv5 := ⟨h.tx.keep (KeepX.of_below hb), hbw, h.glob, h.pow⟩
  refine ⟨v, he, hL, ?_⟩
  refine (is_none hg hL.powW hv (by have := pow_size h.powW; omega)).mono ?_
  rintro e2 w2 ⟨he2, hf⟩
  have hT := h.tx.cut.keep (KeepX.of_below hb)
  have hT2 := hT.keep (w' := w2) ⟨hf.size, fun k hk hl => hf.block k hl (fun h2 => by have := hk.2; omega)⟩
  exact ⟨he2, hT2.mono fun k hk => hk.1, hbw.trans (hf.below (B := w.heap.size) hbw.size fun k hk => Nat.le_trans h.below.size hk), h.glob, h.pow⟩
theorem lv_changes {w W : World} {T M : Nat} (h : LvAt w W T M lv5) : Calls Tryz.prog 24 #[.pointer (some ⟨T, 0, none⟩)] W fun e w' => ∃ A c, e = .returned (.slice A 3 c) ∧ Below w.heap.size w w' := by
  refine (Changes_any h.tx lv5_ok rfl (by decide)).mono ?_
  rintro e w' ⟨I, A, c, he, _, hI, hb⟩
  have hl : I.length = 3 := by
    have := congrArg List.length hI
    rw [List.length_map] at this
    rw [this]
    unfold changesT
    rw [if_pos (show lv5.changed = true from rfl), List.length_cons, (sortO_perm _).length_eq]
    rfl
  rw [hl] at he
  exact ⟨A, c, he, h.below.trans (hb.mono h.below.size)⟩
end Go.Proofs.YtenfkghoolegfaaGreatDoor
set_option linter.unusedVariables false
namespace Go.Proofs.YtenfkghoolegfaaGreatDoor
open Go.RowKit
set_option maxHeartbeats 4000000 in
set_option maxRecDepth 1000000 in
theorem live_any (w : World) (hg : GlobAt w) (ht : PowAt w) : Calls Tryz.prog 18 #[] w fun e w' => e = .returned (.bool true) ∧ Below w.heap.size w w' := by
  have h0 := lv_fresh w hg ht
  have hP := fun W T M h => @lv_put2 w W T M h
  unfold leafX NX.val nodeV at hP
  dsimp only [List.length_nil] at hP
  simp only [Int.natCast_zero] at hP
  have HP := Lib.hid hP
  clear hP
  go_enter Tryz.func18, Tryz.ntmps18
  go_wp2_with (first
    | (go_at_call 12; refine h0.mono ?_; rintro e w1 ⟨T, M, rfl, h1⟩)
    | (go_at_call 17; refine (lv_alloc1 h1).mono ?_; rintro e w2 ⟨rfl, h2⟩; clear h1)
    | (go_at_call 19; refine (HP.out _ _ _ h2).mono ?_; rintro e w3 ⟨rfl, h3⟩; clear h2)
    | (go_at_call 20; refine (lv_free2 h3).mono ?_; rintro e w4 ⟨rfl, h4⟩; clear h3)
    | (go_at_call 17; refine (lv_alloc2 h4).mono ?_; rintro e w5 ⟨rfl, h5⟩; clear h4)
    | (go_at_call 17; refine (lv_alloc3 h5).mono ?_; rintro e w6 ⟨rfl, h6⟩; clear h5)
    | (go_at_call 26; refine (lv_page h6).mono ?_; rintro e w7 ⟨v, rfl, h7, hIs⟩; clear h6)
    | (go_at_call 35; refine hIs.mono ?_; rintro e w8 ⟨rfl, h8⟩; clear h7)
    | (go_at_call 24; refine (lv_changes h8).mono ?_; rintro e w9 ⟨A, c, rfl, hb⟩; clear h8))
  go_ret
  exact ⟨rfl, hb⟩
end Go.Proofs.YtenfkghoolegfaaGreatDoor
set_option linter.unusedVariables false
namespace Go.Proofs.YtenfkghoolegfaaGreatDoor
open Go.RowKit
open Ev (ev AS AObj SpF VRel LRel Hands hBase globT Fact spDig spKnown noCnv)
namespace Mj
def tk (k : Nat) : Value := .chan (some k)
def i64 (n : Int) : Value := .int .i64 n
def no (_ : Nat) : Bool := false
noncomputable def spSm (b : Bool) : SpF
  | [.slice none 0 0, .slice (some p) 1 _], s => match Ev.readN s p 12 with
    | some [_, _, _, _, _, .chan (some 5), _, .chan (some 7), _, _, _, _] => some (.bool b, s)
    | _ => none
  | _, _ => none
noncomputable def ext (b : Bool) : List (FuncId × SpF) := [(21, spSm b), (18, spKnown (.bool true)), (54, spDig 1 12), (55, spDig 1 12)]
def deed : List Value := [.agg #[tk 0, tk 1, tk 2, tk 3, tk 4, tk 5, tk 6, tk 7, tk 8, tk 9, tk 10, tk 11]]
noncomputable def Cn (f : Nat → Option (Array Value)) (b : Bool) (fs : List Fact) : Ev.Ctx := Ev.CXf f (ext b) fs [] noCnv no
def fK (a b c d e : Bool) : List Fact := [⟨.eql, tk 0, i64 0, .bool a⟩, ⟨.eql, tk 0, i64 1, .bool b⟩, ⟨.eql, tk 0, i64 2, .bool c⟩, ⟨.eql, tk 0, i64 3, .bool d⟩, ⟨.eql, tk 0, i64 4, .bool e⟩, ⟨.neq, tk 12, tk 12, .bool false⟩]
set_option maxRecDepth 1000000
variable (f : Nat → Option (Array Value))
theorem rB : isTr ((ev (Cn f false []) 10000).f 7 deed ⟨0, .leaf⟩) = true := by kernel_rfl
theorem r0 : isTr ((ev (Cn f true (fK true false false false false)) 10000).f 7 deed ⟨0, .leaf⟩) = true := by kernel_rfl
theorem r1 : isTr ((ev (Cn f true (fK false true false false false)) 10000).f 7 deed ⟨0, .leaf⟩) = true := by kernel_rfl
theorem r2 : isTr ((ev (Cn f true (fK false false true false false)) 10000).f 7 deed ⟨0, .leaf⟩) = true := by kernel_rfl
theorem r3 : isTr ((ev (Cn f true (fK false false false true false)) 10000).f 7 deed ⟨0, .leaf⟩) = true := by kernel_rfl
theorem r4 : isTr ((ev (Cn f true (fK false false false false true)) 10000).f 7 deed ⟨0, .leaf⟩) = true := by kernel_rfl
theorem r5 : isTr ((ev (Cn f true (fK false false false false false)) 10000).f 7 deed ⟨0, .leaf⟩) = true := by kernel_rfl
end Mj
open Mj
/-- What came in, one behind the other; then the types' handles. -/
def omP (v : Nat → Value) (n : Nat) : Nat → Value := fun k =>
  if k < 12 then v k else if k = 12 then .string ⟨(Lib.decDigits n).toArray⟩ else .pointer (some ⟨5, k - hBase, none⟩)
/-- What is known of the cells' block holds in each world of the run. -/
def CellsF (f : Nat → Option (Array Value)) (ck : Option Addr) (lk : Nat) (kl vl : Nat → Nat) : Prop := ∀ w : World, (∀ g cs, f g = some cs → ∃ t fz, w.heap[g]? = some (.cells cs t fz)) → lk ≤ 24 → CellsLn w ck lk kl vl
section
variable {v : Nat → Value} {n : Nat}
theorem handsP : Hands (omP v n) := fun t => by
  unfold omP
  have : hBase + t = (hBase + t - 13) + 13 := by unfold hBase; omega
  rw [if_neg (by omega), if_neg (by omega)]
  rw [show hBase + t - hBase = t by omega]
theorem spSm_sp {b : Bool} (f : Nat → Option (Array Value)) (hfv : ∀ g c c', Ev.ivT g = some c → f g = some c' → c = c') {ck dk : Option Addr} {lk cck ld cdk : Nat} {kl vl : Nat → Nat} (h5 : v 5 = .slice ck lk cck) (h7 : v 7 = .slice dk ld cdk)
    (hl : lk ≤ 9223372036854775807) (hd : ld ≤ 9223372036854775807) (hb : smallL lk ld kl vl = b) (hE : CellsF f ck lk kl vl) : ∀ C : Ev.Ctx, C.P = Tryz.prog → Ev.GlobOK C → C.iv = Ev.ivF f → Ev.SpOK (omP v n) C 21 (spSm b) := by
  intro C hP hG hI vs s u s' hv B X m w args hs hr hB
  unfold spSm at hv
  split at hv
  · rename_i p c
    split at hv
    · rename_i hrd
      cases hv
      obtain ⟨x', y', rfl, hx, hy⟩ := Ev.args2 hr
      obtain rfl := Ev.nilsl_inv hx
      obtain ⟨p', c', rfl, hor⟩ := Ev.slice_inv hy
      rcases hor with ⟨hp, hcr, _⟩ | ⟨h9, _⟩
      · obtain ⟨l', r1, r2, r3⟩ := Ev.readN_sound hs hrd hp
        have g5 := r1.2 5 _ _ rfl (List.getElem?_eq_getElem (show 5 < l'.length by omega))
        have g7 := r1.2 7 _ _ rfl (List.getElem?_eq_getElem (show 7 < l'.length by omega))
        have e5 := r3 5 _ (List.getElem?_eq_getElem (show 5 < l'.length by omega))
        have e7 := r3 7 _ (List.getElem?_eq_getElem (show 7 < l'.length by omega))
        rw [Ev.tok_inv g5, show omP v n 5 = v 5 from rfl, h5] at e5
        rw [Ev.tok_inv g7, show omP v n 7 = v 7 from rfl, h7] at e7
        obtain ⟨_, i, i1, rfl⟩ := hp
        rw [Ev.add_lit] at e5 e7
        have hEw : lk ≤ 24 → CellsLn w ck lk kl vl := hE w (fun g cs hg => by
          cases e : Ev.ivT g with
          | none => exact (hB.iv g cs (by rw [hI]; unfold Ev.ivF; rw [e]; exact hg)).2
          | some z =>
            have := (hB.iv g z (by rw [hI]; unfold Ev.ivF; rw [e])).2
            rw [hfv g z cs e hg] at this
            exact this)
        refine Ev.calls_ok (by rw [hP]; exact enters_of Tryz.func21 (by kernel_rfl) rfl _ _) fun n => ?_
        rw [hP]
        refine callsIn_wide.2 ((small09_any hl hd e5 e7 hEw).mono ?_)
        rintro e w' ⟨rfl, rfl⟩
        rw [hb]
        exact ⟨_, rfl, m, Ev.Le.refl _, hs, .plain _ rfl, Below.refl _ _⟩
      · cases h9
    · cases hv
  · cases hv
end
end Go.Proofs.YtenfkghoolegfaaGreatDoor
set_option linter.unusedVariables false
namespace Go.Proofs.YtenfkghoolegfaaGreatDoor
open Go.RowKit
open Ev (ev AS AObj SpF VRel LRel Hands hBase globT Fact spDig spKnown noCnv)
open Mj
set_option maxHeartbeats 1000000 in
set_option maxRecDepth 100000 in
theorem pdigits_any (n : Nat) (hn : n < 4294967296) (w : World) (htab : PowAt w) : Calls Tryz.prog 55 #[.int .u32 (n : Nat)] w fun e w' => e = .returned (.string ⟨(Lib.decDigits n).toArray⟩) ∧ Below w.heap.size w w' := by
  have hwu : IntKind.u64.wrap (n : Int) = (n : Int) := by rw [IntKind.wrap_u64]; omega
  have hF := fmtUint n (by omega) w htab
  clear htab
  go_enter Tryz.func55, Tryz.ntmps55
  go_wp2_with (go_at_call 85; refine hF.mono ?_; rintro e w2 ⟨rfl, hb⟩)
  go_ret
  exact ⟨rfl, hb⟩
section
variable {v : Nat → Value} {n : Nat}
theorem ext_okP (hn : n < 4294967296) {b : Bool} (f : Nat → Option (Array Value)) (hfv : ∀ g c c', Ev.ivT g = some c → f g = some c' → c = c') {ck dk : Option Addr} {lk cck ld cdk : Nat} {kl vl : Nat → Nat} (h1 : v 1 = .int .u32 (n : Nat)) (h5 : v 5 = .slice ck lk cck) (h7 : v 7 = .slice dk ld cdk)
    (hl : lk ≤ 9223372036854775807) (hd : ld ≤ 9223372036854775807) (hb : smallL lk ld kl vl = b) (hE : CellsF f ck lk kl vl) : ∀ p ∈ ext b, ∀ C : Ev.Ctx, C.P = Tryz.prog → Ev.GlobOK C → C.iv = Ev.ivF f → Ev.SpOK (omP v n) C p.1 p.2 := by
  intro p hp C hP hG hI
  simp only [ext, List.mem_cons, List.not_mem_nil, or_false] at hp
  rcases hp with rfl | rfl | rfl | rfl
  · exact spSm_sp f hfv h5 h7 hl hd hb hE C hP hG hI
  · exact Ev.known_calls handsP (fun args w => enters_of Tryz.func18 (by kernel_rfl) rfl args w) (fun w hg ht => live_any w hg ht) C hP hG
  · exact Ev.spDig_sp handsP (fun args w => enters_of Tryz.func54 (by kernel_rfl) rfl args w) (show omP v n 1 = _ from h1) rfl (fun w ht => digits_any n hn w ht) C hP hG
  · exact Ev.spDig_sp handsP (fun args w => enters_of Tryz.func55 (by kernel_rfl) rfl args w) (show omP v n 1 = _ from h1) rfl (fun w ht => pdigits_any n hn w ht) C hP hG
theorem deed_rel (hv : ∀ k, k < 12 → Ev.oneV (v k) = true) : LRel (ω := omP v n) (fun _ => none) deed [.agg #[v 0, v 1, v 2, v 3, v 4, v 5, v 6, v 7, v 8, v 9, v 10, v 11]] := by
  have t : ∀ k, k < 12 → VRel (ω := omP v n) (fun _ => none) (tk k) (v k) := fun k hk => by
    have e : omP v n k = v k := by unfold omP; rw [if_pos hk]
    rw [← e]
    exact .tok k (by rw [e]; exact hv k hk)
  exact LRel.cons (LRel.agg (l := [tk 0, tk 1, tk 2, tk 3, tk 4, tk 5, tk 6, tk 7, tk 8, tk 9, tk 10, tk 11]) (l' := [_, _, _, _, _, _, _, _, _, _, _, _])
    (LRel.cons (t 0 (by decide)) (LRel.cons (t 1 (by decide)) (LRel.cons (t 2 (by decide)) (LRel.cons (t 3 (by decide)) (LRel.cons (t 4 (by decide)) (LRel.cons (t 5 (by decide)) (LRel.cons (t 6 (by decide)) (LRel.cons (t 7 (by decide)) (LRel.cons (t 8 (by decide)) (LRel.cons (t 9 (by decide)) (LRel.cons (t 10 (by decide)) (LRel.cons (t 11 (by decide)) (LRel.nil _)))))))))))))) (LRel.nil _)
/-- PoolNil at what came in. -/
theorem pnil_any (hn : n < 4294967296) (hv : ∀ k, k < 12 → Ev.oneV (v k) = true) (f : Nat → Option (Array Value)) (hfv : ∀ g c c', Ev.ivT g = some c → f g = some c' → c = c') {kd : Int} {ck dk : Option Addr} {lk cck ld cdk : Nat} {kl vl : Nat → Nat} (h0 : v 0 = .int .i64 kd) (h1 : v 1 = .int .u32 (n : Nat)) (h5 : v 5 = .slice ck lk cck) (h7 : v 7 = .slice dk ld cdk)
    (hl : lk ≤ 9223372036854775807) (hd : ld ≤ 9223372036854775807) (hE : CellsF f ck lk kl vl) (w : World) (hg : GlobAt w) (ht : PowAt w) (hiv : ∀ g cs, Ev.ivT g = some cs → g < w.heap.size ∧ ∃ t fz, w.heap[g]? = some (.cells cs t fz)) (hf : ∀ g cs, f g = some cs → g < w.heap.size ∧ ∃ t fz, w.heap[g]? = some (.cells cs t fz)) :
    Calls Tryz.prog 7 #[.agg #[v 0, v 1, v 2, v 3, v 4, v 5, v 6, v 7, v 8, v 9, v 10, v 11]] w fun e w' => e = .returned (.bool true) ∧ Below w.heap.size w w' := by
  have fin : ∀ {b : Bool} {fs : List Fact}, smallL lk ld kl vl = b → (∀ g ∈ fs, g.ok (omP v n) Tryz.prog) → isTr ((ev (Cn f b fs) 10000).f 7 deed ⟨0, .leaf⟩) = true →
      Calls Tryz.prog 7 #[.agg #[v 0, v 1, v 2, v 3, v 4, v 5, v 6, v 7, v 8, v 9, v 10, v 11]] w fun e w' => e = .returned (.bool true) ∧ Below w.heap.size w w' := fun {b fs} hb hfs hr => by
    obtain ⟨s', hs'⟩ := isTr_some hr
    refine Ev.run_args (C := Cn f b fs) (ω := omP v n) (Ev.cxfOK handsP f (ext_okP hn f hfv h1 h5 h7 hl hd hb hE) hfs (fun g hg => by cases hg) Ev.noCnv_ok no) hs' (deed_rel hv) rfl rfl w (glob_of handsP hg) (fun k h => by cases h) (fun g cs h => ?_)
    have h' : Ev.ivF f g = some cs := h
    unfold Ev.ivF at h'
    cases e : Ev.ivT g with
    | none => rw [e] at h'; exact hf g cs h'
    | some z => rw [e] at h'; cases h'; exact hiv g _ e
  cases hb : smallL lk ld kl vl with
  | false => exact fin hb (fun g hg => by cases hg) (rB f)
  | true =>
    have key : ∀ {a b c d e : Bool}, decide (kd = 0) = a → decide (kd = 1) = b → decide (kd = 2) = c → decide (kd = 3) = d → decide (kd = 4) = e → ∀ g ∈ fK a b c d e, g.ok (omP v n) Tryz.prog := by
      intro a b c d e ha hb2 hc hd2 he g hg2
      have q : ∀ {z : Int} {x : Bool}, decide (kd = z) = x → (⟨.eql, tk 0, i64 z, .bool x⟩ : Fact).ok (omP v n) Tryz.prog := fun {z x} hx => Fact.eql (ω := omP v n) (x := tk 0) (y := i64 z) (k := .i64) (p := kd) (q := z) (show omP v n 0 = _ from h0) rfl rfl rfl hx
      simp only [fK, List.mem_cons, List.not_mem_nil, or_false] at hg2
      rcases hg2 with rfl | rfl | rfl | rfl | rfl | rfl
      · exact q ha
      · exact q hb2
      · exact q hc
      · exact q hd2
      · exact q he
      · exact Fact.strNeq (ω := omP v n) (s := ⟨(Lib.decDigits n).toArray⟩) (u := ⟨(Lib.decDigits n).toArray⟩) rfl rfl rfl rfl (by simp)
    by_cases k0 : kd = 0
    · exact fin hb (key (decide_eq_true k0) (decide_eq_false (by omega)) (decide_eq_false (by omega)) (decide_eq_false (by omega)) (decide_eq_false (by omega))) (r0 f)
    by_cases k1 : kd = 1
    · exact fin hb (key (decide_eq_false k0) (decide_eq_true k1) (decide_eq_false (by omega)) (decide_eq_false (by omega)) (decide_eq_false (by omega))) (r1 f)
    by_cases k2 : kd = 2
    · exact fin hb (key (decide_eq_false k0) (decide_eq_false k1) (decide_eq_true k2) (decide_eq_false (by omega)) (decide_eq_false (by omega))) (r2 f)
    by_cases k3 : kd = 3
    · exact fin hb (key (decide_eq_false k0) (decide_eq_false k1) (decide_eq_false k2) (decide_eq_true k3) (decide_eq_false (by omega))) (r3 f)
    by_cases k4 : kd = 4
    · exact fin hb (key (decide_eq_false k0) (decide_eq_false k1) (decide_eq_false k2) (decide_eq_false k3) (decide_eq_true k4)) (r4 f)
    · exact fin hb (key (decide_eq_false k0) (decide_eq_false k1) (decide_eq_false k2) (decide_eq_false k3) (decide_eq_false k4)) (r5 f)
end
end Go.Proofs.YtenfkghoolegfaaGreatDoor
set_option linter.unusedVariables false
namespace Go.Proofs.YtenfkghoolegfaaGreatDoor
open Go.ChangeShapes Go.WideShapes Go.ChangeAt Go.RowKit Go.Joins Go.Deep
section
variable {H : Type} {enc : TypeId × Value → H} {w : World} {base : Nat} {held : Bool}
def toB (z : Int) : UInt8 := UInt8.ofNat z.toNat
theorem toB_nat {z : Int} (h : (Lit.int .u8 z).wf = true) : ((toB z).toNat : Int) = z := by
  have e1 : IntKind.u8.min = 0 := rfl
  have e2 : IntKind.u8.max = 255 := rfl
  simp [Lit.wf] at h
  unfold toB
  have h8 : (UInt8.ofNat z.toNat).toNat = z.toNat % 256 := by simp
  rw [h8]
  omega
/-- Bytes that came in. -/
theorem pt_of {fuel : Nat} {v : Value} {y : DataW H × List MemPlace} (h : DataW.trod enc Tryz.prog w base (fun _ => true) held fuel 23 [v] = some y) : ∃ p : Pt, v = p.val ∧ Reads w w.heap.size 1 p.A p.b.length (bl p.b) ∧ p.b.length ≤ p.c := by
  rcases open_ints Tryz.underlying23 Tryz.underlying5 (by kernel_rfl) h with ⟨hcs, _⟩ | ⟨a, l, c, zs, hcs, _, hl, hm, hz, _, hcell, hwz⟩
  · simp at hcs
    exact ⟨⟨none, 0, []⟩, hcs, Reads.none_, Nat.zero_le _⟩
  · simp at hcs hz
    have hlt : ((zs.take l).map toB).length = l := by rw [List.length_map, List.length_take]; omega
    refine ⟨⟨some a, c, (zs.take l).map toB⟩, by unfold Pt.val; rw [hcs]; simp only; rw [hlt], ⟨by rw [bl_len, Nat.mul_one], fun h0 => ?_⟩, by show ((zs.take l).map toB).length ≤ c; omega⟩
    have h0 : 0 < ((zs.take l).map toB).length := h0
    rw [hlt] at h0
    have c0 := hcell 0 (by omega)
    have hb := World.block_lt_of_cell? w _ c0
    refine ⟨a, rfl, by simpa [Addr.add] using hb, fun j u hu => ?_⟩
    unfold bl at hu
    simp only [List.getElem?_map, List.getElem?_take] at hu
    by_cases hj : j < l
    · rw [if_pos hj] at hu
      rw [hcell j (by omega)]
      cases hzj : zs[j]? with
      | none => rw [hzj] at hu; cases hu
      | some z =>
        rw [hzj] at hu
        simp only [Option.map_some, Option.some.injEq] at hu
        rw [← hu, toB_nat (hwz z (List.mem_of_getElem? hzj))]
        simp [List.getD_eq_getElem?_getD, hzj]
    · rw [if_neg hj] at hu; cases hu
end
end Go.Proofs.YtenfkghoolegfaaGreatDoor
