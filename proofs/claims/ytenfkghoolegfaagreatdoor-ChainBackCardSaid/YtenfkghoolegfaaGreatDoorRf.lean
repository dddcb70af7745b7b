/- The transaction's Node; chain.walk: walked. chain.pages, chain.Read: their closures; walked. chain.pages, Pages, Read: walked. slices.Backward at pages' numbers; chain.Free: walked. chain.Free: walked. Regions that draw their order within a round of a range over a function. chain.Write: walked. errors.Is at an error of the pool's: a run of the interpreter. chain's fault at an error's number; errors.Is of it: runs of the interpreter. What comes in: numbers; what the condition gives. The chain's live: its calls. -/
import Derived.Test.YtenfkghoolegfaaGreatDoorRe
import Derived.OrdersIn
import Derived.AtR
import Derived.ProofKit
import Derived.OpenShut
import Derived.ChangeOld
import Derived.Deep.Slices
import Derived.ChangeSame
set_option linter.unusedVariables false
namespace Go.Proofs.YtenfkghoolegfaaGreatDoor
open Go.RowKit
theorem isSize_any (n : Int) (w : World) : Calls Tryz.prog 44 #[.int .i64 n] w fun e w' => e = .returned (.bool (decide (1 ≤ n) && decide (n ≤ 1000))) ∧ w' = w := by
  by_cases h : 1 ≤ n
  · have d1 : decide (1 ≤ n) = true := decide_eq_true h
    go_enter Tryz.func44, Tryz.ntmps44
    go_wp2
    go_ret
    exact ⟨by simp [h], rfl⟩
  · have d1 : decide (1 ≤ n) = false := decide_eq_false h
    go_enter Tryz.func44, Tryz.ntmps44
    go_wp2
    go_ret
    exact ⟨by simp, rfl⟩
theorem ReadC_over {lsn nx : Nat} {d : List UInt8} (hl : lsn < 18446744073709551616) (hd : 1 ≤ d.length ∧ d.length ≤ 238) : openE (putP (overPg lsn nx d)) = 0 → ReadC (kindB (putP (overPg lsn nx d))) (lsnB (putP (overPg lsn nx d))) (restB (putP (overPg lsn nx d))) := by
  intro _
  have hk : kindB (putP (overPg lsn nx d)) = 4 := by
    have hb := body_len (overPg_put (lsn := lsn) (next := nx) hd)
    exact kind_seal (k := 4) (by omega) hl hb
  rw [hk]
  exact ReadC_4 _ _
set_option maxHeartbeats 2000000 in
set_option maxRecDepth 1000000 in
theorem Node_over {X : Nat → Prop} {w : World} {T M : Nat} {t : PT} (h : TX X w T M t) (htab : PowAt w) (n : Nat) (hn32 : n < 4294967296) (b : List UInt8) (hn : n < t.pages) (hl : lookO n t.over = some b) (hR : openE b = 0 → ReadC (kindB b) (lsnB b) (restB b)) {x : PN} (hg : getP b = .ok x) :
    Calls Tryz.prog 62 #[.pointer (some ⟨T, 0, none⟩), .int .u32 (n : Nat)] w fun e w' => ∃ y : NX, y.n = x ∧ e = .returned (.tuple #[y.val, .nilIface]) ∧ NodeAt w' w'.heap.size y ∧ NodeLo w.heap.size y ∧ Below w.heap.size w w' := by
  obtain ⟨w1, hw1⟩ : ∃ w1, w1 = w.alloc (.cells zeroCs 52) := ⟨_, rfl⟩
  have hb1 : Below w.heap.size w w1 := by rw [hw1]; exact (Below.refl _ w).alloc (Nat.le_refl _) _
  have hN1 : Blk w1 w.heap.size 52 zeroCs := by rw [hw1]; exact Blk.new _ _ _
  have hN := node_over (h.keep (KeepX.of_below hb1)) n b hn hl hR hg
  have hF := fun op nm W => fault_any op nm 0 W
  have hD := fun W hW => digits_any n hn32 W hW
  unfold zeroCs at hw1 hN1
  have HW1 := Lib.hid hw1
  have HN1 := Lib.hid hN1
  clear hR hg h hl hw1 hN1
  go_enter Tryz.func62, Tryz.ntmps62
  go_wp2_with (first
    | (rw [← HW1.out]; go_at_call 84; refine hN.mono ?_; rintro e w2 ⟨y, hy, rfl, hya, hylo, hb2⟩; have ht2 := powBelow htab (hb1.trans (hb2.mono hb1.size)); obtain ⟨w3, hw3⟩ : ∃ w3, w3 = w2.alloc (.cells y.cells 52) := ⟨_, rfl⟩; have hb3 : Below w2.heap.size w2 w3 := (by rw [hw3]; exact (Below.refl _ w2).alloc (Nat.le_refl _) _); have hN3 : Blk w3 w2.heap.size 52 y.cells := (by rw [hw3]; exact Blk.new _ _ _); have ht3 := powBelow ht2 hb3; unfold NX.val nodeV; unfold NX.cells at hw3 hN3; have HW3 := Lib.hid hw3; clear hw3))
  have hN1w : Blk w3 w.heap.size 52 #[.int .i64 0, .int .u64 0, .slice none 0 0, .int .u32 0, .slice none 0 0, .int .u32 0, .int .u32 0, .int .u32 0, .int .u64 0] := (HN1.out.below hb2 HN1.out.lt).below hb3 (Nat.lt_of_lt_of_le HN1.out.lt hb2.size)
  rw [← HW3.out]
  have H31 := Lib.hid hN1w
  clear hN1w
  refine regionE 5 (fun W => Blk W w2.heap.size 52 #[.int .i64 y.kind, .int .u64 (y.lsn : Nat), .slice y.ca y.l.length y.cc, .int .u32 (y.next : Nat), .slice y.da y.data.length y.dc, .int .u32 (y.root : Nat), .int .u32 (y.pages : Nat), .int .u32 (y.free : Nat), .int .u64 (y.entries : Nat)]) (by kernel_rfl) (by kernel_rfl) (by kernel_rfl) (by kernel_rfl) (by kernel_rfl) (hN3) (fun hHeld hTl => ?_)
  refine takeE 0 (v := .agg #[.int .i64 y.kind, .int .u64 (y.lsn : Nat), .slice y.ca y.l.length y.cc, .int .u32 (y.next : Nat), .slice y.da y.data.length y.dc, .int .u32 (y.root : Nat), .int .u32 (y.pages : Nat), .int .u32 (y.free : Nat), .int .u64 (y.entries : Nat)]) hTl rfl (by decide) (by kernel_rfl) (by kernel_rfl) (fun _ _ _ h => h) hHeld (Or.inl ⟨by rfl, ?_⟩) (fun hTl => ?_)
  · intro W hSw
    have hsw : Blk W w2.heap.size 52 #[.int .i64 y.kind, .int .u64 (y.lsn : Nat), .slice y.ca y.l.length y.cc, .int .u32 (y.next : Nat), .slice y.da y.data.length y.dc, .int .u32 (y.root : Nat), .int .u32 (y.pages : Nat), .int .u32 (y.free : Nat), .int .u64 (y.entries : Nat)] := hSw
    have c0 : W.cell? ⟨w2.heap.size, 0, none⟩ = some (.int .i64 y.kind) := hsw.cell 0
    have c1 : W.cell? ⟨w2.heap.size, 1, none⟩ = some (.int .u64 (y.lsn : Nat)) := hsw.cell 1
    have c2 : W.cell? ⟨w2.heap.size, 2, none⟩ = some (.slice y.ca y.l.length y.cc) := hsw.cell 2
    have c3 : W.cell? ⟨w2.heap.size, 3, none⟩ = some (.int .u32 (y.next : Nat)) := hsw.cell 3
    have c4 : W.cell? ⟨w2.heap.size, 4, none⟩ = some (.slice y.da y.data.length y.dc) := hsw.cell 4
    have c5 : W.cell? ⟨w2.heap.size, 5, none⟩ = some (.int .u32 (y.root : Nat)) := hsw.cell 5
    have c6 : W.cell? ⟨w2.heap.size, 6, none⟩ = some (.int .u32 (y.pages : Nat)) := hsw.cell 6
    have c7 : W.cell? ⟨w2.heap.size, 7, none⟩ = some (.int .u32 (y.free : Nat)) := hsw.cell 7
    have c8 : W.cell? ⟨w2.heap.size, 8, none⟩ = some (.int .u64 (y.entries : Nat)) := hsw.cell 8
    go_simp
  try simp only [Act.put, List.setIfInBounds_toArray, List.set_cons_zero, List.set_cons_succ]
  refine takeE 1 (v := ?_) hTl rfl (by decide) (by kernel_rfl) (by kernel_rfl) (fun _ _ _ h => h) hHeld (Or.inl ⟨by rfl, ?_⟩) (fun hTl => ?_)
  rotate_left
  · intro w hSw; (try dsimp only at hSw); go_simp
    all_goals with_reducible rfl
  try simp only [Act.put, List.setIfInBounds_toArray, List.set_cons_zero, List.set_cons_succ]
  refine takeE 3 (v := ?_) hTl rfl (by decide) (by kernel_rfl) (by kernel_rfl) (fun _ _ _ h => h) hHeld (Or.inl ⟨by rfl, ?_⟩) (fun hTl => ?_)
  rotate_left
  · intro w hSw; (try dsimp only at hSw); go_simp
    all_goals with_reducible rfl
  try simp only [Act.put, List.setIfInBounds_toArray, List.set_cons_zero, List.set_cons_succ]
  have hTl2 := hTl.step 2 (by kernel_rfl) (by decide)
  clear hTl
  refine oneE 2 rfl (by kernel_rfl) (fun K hK => ?_)
  refine step_callC rfl 54 _ (by go_simp) (hD _ ht3) ?_
  rintro e w4 ⟨rfl, hb4⟩; refine ⟨_, rfl, ?_⟩; have hN4 := Blk.below (show Blk w3.drew w2.heap.size 52 #[.int .i64 y.kind, .int .u64 (y.lsn : Nat), .slice y.ca y.l.length y.cc, .int .u32 (y.next : Nat), .slice y.da y.data.length y.dc, .int .u32 (y.root : Nat), .int .u32 (y.pages : Nat), .int .u32 (y.free : Nat), .int .u64 (y.entries : Nat)] from hN3) hb4 (show w2.heap.size < w3.heap.size by have := hN3.lt; omega)
  refine hK.out _ _ (fun _ => hN4) ?_
  clear hK K
  try simp only [Act.put, List.setIfInBounds_toArray, List.set_cons_zero, List.set_cons_succ]
  have hTl := hTl2
  clear hTl2
  refine oneE 4 rfl (by kernel_rfl) (fun K hK => ?_)
  refine step_callC rfl 51 _ (by go_simp) (hF ⟨#[112, 97, 103, 101]⟩ ⟨(Lib.decDigits n).toArray⟩ _) ?_
  rintro e w5 ⟨v, rfl, hv, hb5⟩; have hv := hv.nil; subst hv; refine ⟨_, rfl, ?_⟩; have hN5 := hN4.below hb5 hN4.lt; have hN15 := (Blk.below (show Blk w3.drew w.heap.size 52 #[.int .i64 0, .int .u64 0, .slice none 0 0, .int .u32 0, .slice none 0 0, .int .u32 0, .int .u32 0, .int .u32 0, .int .u64 0] from H31.out) hb4 (show w.heap.size < w3.heap.size from H31.out.lt)).below hb5 (Nat.lt_of_lt_of_le H31.out.lt hb4.size)
  refine hK.out _ _ (fun _ => hN5) ?_
  clear hK K
  try simp only [Act.put, List.setIfInBounds_toArray, List.set_cons_zero, List.set_cons_succ]
  refine oneE 5 rfl (by kernel_rfl) (fun K hK => ?_)
  refine step_storeRow rfl 52 (.tmp 4) (.tmp 14) rfl w.heap.size _ rfl rfl 52 _ hN15 (by kernel_rfl) rfl (by simp [Value.oneCell']) ?_
  skip
  refine hK.out _ _ (fun h => absurd h (by decide)) ?_
  clear hK K
  try simp only [Act.put, List.setIfInBounds_toArray, List.set_cons_zero, List.set_cons_succ]
  refine oneE 6 rfl (by kernel_rfl) (fun K hK => ?_)
  go_simp
  refine hK.out _ _ (fun h => absurd h (by decide)) ?_
  clear hK K
  try simp only [Act.put, List.setIfInBounds_toArray, List.set_cons_zero, List.set_cons_succ]
  refine doneE (by kernel_rfl) ?_ _
  go_wp2
  refine bodyPost_ret (results_cell_tmp rfl _ _ w.heap.size 52 _ (0, 0) _ rfl (setRow_heap _ _ _ _ _ _ hN15) Tryz.underlying52 rfl (by kernel_rfl)) rfl ?_
  have hb45 : Below w3.heap.size w3 w5 := (show Below w3.heap.size w3 w4 from ⟨hb4.os, hb4.tape, hb4.output, hb4.size, hb4.block⟩).trans (hb5.mono hb4.size)
  have hb25 := hb3.trans (hb45.mono hb3.size)
  have hb15 := hb1.trans ((hb2.trans (hb25.mono hb2.size)).mono hb1.size)
  have hlt : w.heap.size < w1.heap.size := HN1.out.lt
  refine ⟨y, hy, rfl, ?_, hylo.mono hb1.size, hb15.trans ((fr_setRow _ w.heap.size _).below (B := w.heap.size) hb15.size (fun k hk => by omega))⟩
  rw [size_setRow]
  exact ((hya.below hb25).mono hb25.size).fr (fr_setRow _ _ _) (Nat.le_refl _) hylo (fun k hk => by omega)
/-- What a visit does: its own memory holds what was visited. -/
structure VisitOK (B0 : Nat) (fV : Nat) (lb : Array Value) (V : List (Nat × List UInt8) → World → Prop) : Prop where
  eg : ∀ args w, (callFunc fV args).run Tryz.prog w = .ok (.enter fV args) w
  step : ∀ (pre : List (Nat × List UInt8)) (W0 W : World) (n : Nat) (d : List UInt8) (A : Option Addr) (c : Nat), V pre W0 → Below W0.heap.size W0 W → B0 ≤ W0.heap.size → n < 4294967296 → Reads W W.heap.size 1 A d.length (bl d) → d.length ≤ 238 → pre.length < 5 →
    Calls Tryz.prog fV (#[.int .u32 (n : Nat), .slice A d.length c] ++ lb) W fun e W' => e = .returned (.tuple #[]) ∧ V (pre ++ [(n, d)]) W' ∧ Below B0 W W' ∧ ∀ k, W0.heap.size ≤ k → k < W.heap.size → W'.heap[k]? = W.heap[k]?
  keep : ∀ pre W W', V pre W → Below W.heap.size W W' → V pre W'
set_option maxHeartbeats 4000000 in
set_option maxRecDepth 1000000 in
theorem walk_size (T : Nat) (n : Nat) (s : Int) (f : Value) (hs : s < 1 ∨ 1000 < s) (w : World) :
    Calls Tryz.prog 47 #[.pointer (some ⟨T, 0, none⟩), .int .u32 (n : Nat), .int .i64 s, f] w fun e w' => e = .returned (.iface 80 (.int .i64 2)) ∧ w' = w := by
  have hS := fun W => isSize_any s W
  rw [show (decide (1 ≤ s) && decide (s ≤ 1000)) = false by simp; omega] at hS
  go_enter Tryz.func47, Tryz.ntmps47
  go_wp2_with (go_at_call 44; refine (hS _).mono ?_; rintro e w2 ⟨rfl, h2⟩; have h2 := h2.symm; subst h2)
  go_ret
  exact ⟨rfl, rfl⟩
/-- What walk has found. -/
def WalkR (V : List (Nat × List UInt8) → World → Prop) (r : Except Int (List Nat × List UInt8)) (e : Ending) (w' : World) : Prop := match r with
  | .ok r => e = .returned .nilIface ∧ ∃ vis : List (Nat × List UInt8), vis.map (·.1) = r.1 ∧ vis.flatMap (·.2) = r.2 ∧ V vis w'
  | .error k => e = .returned (.iface 80 (.int .i64 k)) ∧ ∃ vis, V vis w'
/-- Behind some pages: what is left decides. -/
def contR (vis : List (Nat × List UInt8)) (r : Except Int (List Nat × List UInt8)) : Except Int (List Nat × List UInt8) := match r with
  | .ok r => .ok (vis.map (·.1) ++ r.1, vis.flatMap (·.2) ++ r.2)
  | .error k => .error k
set_option maxHeartbeats 4000000 in
set_option maxRecDepth 1000000 in
theorem walk_laidM {B0 : Nat} {X : Nat → Prop} {w : World} {T M : Nat} {t : PT} (h : TX X w T M t) (ok : t.OK) (htab : PowAt w) {fV : Nat} {lb : Array Value} {V : List (Nat × List UInt8) → World → Prop} (hV : VisitOK B0 fV lb V) (hv0 : V [] w) (hB0 : B0 ≤ w.heap.size) (hX : ∀ k, X k → k < B0) (h1B : 1 < B0)
    (ps : List Nat) (v : List UInt8) (hL : LaidC t.lsn t.over ps v) (hne : ps ≠ []) (hps : ∀ p ∈ ps, p < t.pages) (hlen : ps.length ≤ 5) (p0 : Nat) (hp0 : ps.headD 0 = p0) (s : Nat) (hs : 1 ≤ s ∧ s ≤ 1000) :
    Calls Tryz.prog 47 #[.pointer (some ⟨T, 0, none⟩), .int .u32 (p0 : Nat), .int .i64 s, .func (.func fV) #[] lb] w fun e w' => WalkR V (walkT t 5 p0 s) e w' ∧ Below B0 w w' := by
  have HP0 := Lib.hid hp0
  clear hp0
  have hS := fun W => isSize_any (s : Int) W
  rw [show (decide (1 ≤ (s : Int)) && decide ((s : Int) ≤ 1000)) = true by simp; omega] at hS
  go_enter Tryz.func47, Tryz.ntmps47
  go_wp2_with (go_at_call 44; refine (hS _).mono ?_; rintro e w2 ⟨rfl, h2⟩; have h2 := h2.symm; subst h2)
  go_loopw [9, 10] (fun a l wr => ∃ (rest : List Nat) (vr : List UInt8) (vis : List (Nat × List UInt8)) (f left q : Nat), a = .int .u32 (q : Nat) ∧ rest.headD 0 = q ∧ l = .int .i64 left ∧ LaidC t.lsn t.over rest vr ∧ (∀ p ∈ rest, p < t.pages) ∧ rest.length ≤ f ∧ vis.length + f = 5 ∧ left ≤ 1000 ∧ (left = 0 ∨ rest ≠ []) ∧ V vis wr ∧
      walkT t 5 p0 s = contR vis (walkT t f q left) ∧ Below B0 w wr) (fun _ l _ => (intOf l).toNat)
  case atStart => exact ⟨ps, v, [], 5, s, p0, rfl, HP0.out, rfl, hL, hps, hlen, rfl, hs.2, .inr hne, hv0, by unfold contR; cases walkT t 5 p0 s <;> simp, Below.refl _ _⟩
  case round =>
    obtain ⟨rest, vr, vis, f, left, q, rfl, hq, rfl, hLr, hpr, hlf, hvf, hl1, hnr, hVr, hR, hbr⟩ := hrel
    obtain ⟨wo, rfl⟩ : ∃ wo, wo = wr := ⟨wr, rfl⟩
    have hKX : KeepX X w wo := ⟨hbr.size, fun k hk hl => hbr.block k (hX k hk)⟩
    have hTo := h.keep hKX
    have hto : PowAt wo := htab.of fun hl => hbr.block 1 h1B
    have HBR := Lib.hid hbr
    clear hbr hKX
    rcases Nat.eq_zero_or_pos left with hl0 | hl0
    · subst hl0
      have z0 : ((0 : Nat) : Int) = 0 := rfl
      have hw0 : walkT t f q 0 = .ok ([], []) := by cases f <;> rfl
      rw [hw0] at hR
      go_wp2
      go_ret
      exact ⟨⟨rfl, vis, by simp, by simp, hVr⟩, HBR.out⟩
    · have d1 : decide ((0 : Int) < (left : Int)) = true := decide_eq_true (by omega)
      have d2 : decide (0 < left) = true := decide_eq_true hl0
      obtain ⟨p, ps', rfl⟩ : ∃ p r, rest = p :: r := by
        cases rest with
        | nil => rcases hnr with h0 | h0; omega; exact absurd rfl h0
        | cons p r => exact ⟨p, r, rfl⟩
      obtain ⟨hv1, hp2, hp3, hlk, hLr2⟩ := hLr
      obtain ⟨g, rfl⟩ : ∃ g, f = g + 1 := ⟨f - 1, by simp at hlf; omega⟩
      have hpp := hpr p (by simp)
      have hvl := List.length_pos_iff.2 hv1
      have hdl : 1 ≤ (vr.take 238).length ∧ (vr.take 238).length ≤ 238 := by rw [List.length_take]; omega
      have hnx : ps'.headD 0 < 4294967296 := by
        cases ps' with
        | nil => decide
        | cons q r => have := (LaidC.two hLr2 q (by simp)).2; show q < _; omega
      have hnz : ps'.headD 0 ≠ 0 → ps' ≠ [] := by rintro h1 rfl; exact h1 rfl
      have hg := (get_putND (overPg_put (lsn := t.lsn) (next := ps'.headD 0) (d := vr.take 238) hdl) (overPg_fit ok.lsn hnx)).1
      have hnT : nodeT t p = .ok (overPg t.lsn (ps'.headD 0) (vr.take 238)) := by
        unfold nodeT pageT
        rw [if_neg (by omega), hlk]
        exact hg
      have hNo := Node_over hTo hto p (by omega) _ hpp hlk (ReadC_over ok.lsn hdl) hg
      obtain ⟨nx, HNX⟩ : ∃ nx, Hid (ps'.headD 0 = nx) := ⟨_, Lib.hid rfl⟩
      obtain ⟨d, HD⟩ : ∃ d, Hid (vr.take 238 = d) := ⟨_, Lib.hid rfl⟩
      obtain ⟨m, HM⟩ : ∃ m, Hid (min 238 left = m) := ⟨_, Lib.hid rfl⟩
      rw [HNX.out, HD.out] at hNo hnT
      rw [HD.out] at hdl
      rw [HNX.out] at hnx hnz
      have hwk : walkT t (g + 1) p left = if d.length ≠ m ∨ ¬ (nx = 0 ↔ left - m = 0) then .error 100 else match walkT t g nx (left - m) with
        | .error e => .error e
        | .ok r => .ok (p :: r.1, d ++ r.2) := by
        show (if left = 0 then _ else _) = _
        rw [if_neg (by omega), hnT]
        simp only
        rw [HM.out]
        by_cases hc : d.length ≠ m ∨ ¬ (nx = 0 ↔ left - m = 0)
        · rw [if_pos hc, if_pos (.inr hc)]
        · rw [if_neg hc, if_neg (by rintro (h1 | h1); exact h1 rfl; exact hc h1)]
          rfl
      obtain rfl : p = q := hq
      rw [hwk] at hR
      have HR := Lib.hid hR
      have HH := Lib.hid (And.intro hLr2 (And.intro hpr (And.intro hlf (And.intro hvf (And.intro hnz hVr)))))
      have hm1 : m ≤ left := by have := HM.out; omega
      have hm2 : 1 ≤ m := by have := HM.out; omega
      have e0 : min (238 : Int) (left : Int) = (m : Int) := by have := HM.out; omega
      have e1 : IntKind.i64.wrap ((left : Int) - (m : Int)) = ((left - m : Nat) : Int) := by rw [IntKind.wrap_i64]; omega
      have e2 : (left : Int) - (m : Int) = ((left - m : Nat) : Int) := by omega
      clear hR hwk hLr2 hpr hlf hvf hnz hVr hlk hg hnT hnr hTo
      have HNo := Lib.hid hNo
      clear hNo
      have hcase : (((d.length : Int) != (m : Int)) = true ∧ Hid (d.length ≠ m)) ∨ (((d.length : Int) != (m : Int)) = false ∧ Hid (d.length = m) ∧ ∃ b1 b2, ((nx : Int) == 0) = b1 ∧ (((left - m : Nat) : Int) == 0) = b2 ∧ Hid (b1 = decide (nx = 0)) ∧ Hid (b2 = decide (left - m = 0))) := by
        by_cases q1 : d.length = m
        · refine .inr ⟨by rw [q1]; simp, Lib.hid q1, _, _, rfl, rfl, Lib.hid ?_, Lib.hid ?_⟩
          · by_cases q2 : nx = 0 <;> simp [q2]
          · by_cases q2 : left - m = 0
            · rw [q2]; rfl
            · simp only [q2, decide_false]; exact beq_eq_false_iff_ne.2 (by omega)
        · exact .inl ⟨bne_iff_ne.2 (by omega), Lib.hid q1⟩
      have hVk := hV.keep
      have eg := hV.eg
      rcases hcase with ⟨c1, HC⟩ | ⟨c1, HC, b1, b2, c2, c3, HC2, HC3⟩
      · go_wp2_with (go_at_call 62; refine HNo.out.mono ?_; rintro e w2 ⟨y, hy, rfl, hya, hylo, hb2⟩; unfold NX.val nodeV; have hyk : y.kind = 4 := (by have h9 := congrArg PN.kind hy; exact h9); have hyn : y.next = nx := (by have h9 := congrArg PN.next hy; exact h9); have hyd : y.data = d := (by have h9 := congrArg PN.data hy; exact h9))
        go_ret
        have hbw := fun o => hb2.alloc hb2.size o
        exact ⟨by rw [HR.out, if_pos (.inl HC.out)]; exact ⟨rfl, vis, hVk _ _ _ HH.out.2.2.2.2.2 (hbw _)⟩, HBR.out.trans ((hbw _).mono (Nat.le_trans hB0 HBR.out.size))⟩
      · have hiff : (nx = 0 ↔ left - m = 0) ↔ b1 = b2 := by
          rw [HC2.out, HC3.out]
          by_cases q2 : nx = 0 <;> by_cases q3 : left - m = 0 <;> simp [q2, q3]
        have HI := Lib.hid hiff
        clear hiff
        cases b1 <;> cases b2
        · go_wp2_with (go_at_call 62; refine HNo.out.mono ?_; rintro e w2 ⟨y, hy, rfl, hya, hylo, hb2⟩; unfold NX.val nodeV; have hyk : y.kind = 4 := (by have h9 := congrArg PN.kind hy; exact h9); have hyn : y.next = nx := (by have h9 := congrArg PN.next hy; exact h9); have hyd : y.data = d := (by have h9 := congrArg PN.data hy; exact h9))
          obtain ⟨w3, hw3⟩ : ∃ w3, w3 = w2.alloc (.cells #[.int .i64 4, .int .u64 (y.lsn : Nat), .slice y.ca y.l.length y.cc, .int .u32 (nx : Nat), .slice y.da d.length y.dc, .int .u32 (y.root : Nat), .int .u32 (y.pages : Nat), .int .u32 (y.free : Nat), .int .u64 (y.entries : Nat)] 52) := ⟨_, rfl⟩
          have hb3 : Below wo.heap.size wo w3 := by rw [hw3]; exact hb2.alloc hb2.size _
          have hN3 : Blk w3 w2.heap.size 52 #[.int .i64 4, .int .u64 (y.lsn : Nat), .slice y.ca y.l.length y.cc, .int .u32 (nx : Nat), .slice y.da d.length y.dc, .int .u32 (y.root : Nat), .int .u32 (y.pages : Nat), .int .u32 (y.free : Nat), .int .u64 (y.entries : Nat)] := by rw [hw3]; exact Blk.new _ _ _
          have hdr : Reads w3 w3.heap.size 1 y.da d.length (bl d) := by
            have h9 := hya.data.below (show Below w2.heap.size w2 w3 by rw [hw3]; exact (Below.refl _ w2).alloc (Nat.le_refl _) _)
            rw [hyd] at h9
            exact reads_mono h9 (by rw [hw3]; simp)
          rw [← hw3]
          refine (hV.step vis wo w3 p d y.da y.dc HH.out.2.2.2.2.2 hb3 (Nat.le_trans hB0 HBR.out.size) (by omega) hdr hdl.2 (by have := HH.out.2.2.2.1; omega)).mono ?_
          rintro e w4 ⟨rfl, hV4, hb4, hk4⟩
          have hc4 : w4.cell? ⟨w2.heap.size, 3, none⟩ = some (.int .u32 (nx : Nat)) := (World.cell?_of_block (hk4 _ hb2.size hN3.lt)).trans (hN3.cell 3)
          have HF := Lib.hid (And.intro hV4 (And.intro hb3 hb4))
          clear hw3 hN3 hdr hV4 hb3 hb4 hk4
          go_wp2
          go_roundw
          case rel => exact ⟨ps', vr.drop 238, vis ++ [(p, d)], g, left - m, nx, rfl, HNX.out, rfl, HH.out.1, fun q hq => HH.out.2.1 q (by simp [hq]), by have := HH.out.2.2.1; simp at this; exact this, by have := HH.out.2.2.2.1; simp; omega, by omega, .inr (HH.out.2.2.2.2.1 (fun h9 => by have := HC2.out; rw [h9] at this; simp at this)), HF.out.1,
            by rw [HR.out, if_neg (by rintro (h9 | h9); exact h9 HC.out; exact h9 (HI.out.2 (by first | rfl | trivial)))]; cases walkT t g nx (left - m) <;> simp [contR], HBR.out.trans ((HF.out.2.1.mono (Nat.le_trans hB0 HBR.out.size)).trans HF.out.2.2)⟩
          case measure => simp [intOf]; omega
        · go_wp2_with (go_at_call 62; refine HNo.out.mono ?_; rintro e w2 ⟨y, hy, rfl, hya, hylo, hb2⟩; unfold NX.val nodeV; have hyk : y.kind = 4 := (by have h9 := congrArg PN.kind hy; exact h9); have hyn : y.next = nx := (by have h9 := congrArg PN.next hy; exact h9); have hyd : y.data = d := (by have h9 := congrArg PN.data hy; exact h9))
          go_ret
          have hbw := fun o => hb2.alloc hb2.size o
          exact ⟨by rw [HR.out, if_pos (.inr (fun h9 => by have := HI.out.1 h9; cases this))]; exact ⟨rfl, vis, hVk _ _ _ HH.out.2.2.2.2.2 (hbw _)⟩, HBR.out.trans ((hbw _).mono (Nat.le_trans hB0 HBR.out.size))⟩
        · go_wp2_with (go_at_call 62; refine HNo.out.mono ?_; rintro e w2 ⟨y, hy, rfl, hya, hylo, hb2⟩; unfold NX.val nodeV; have hyk : y.kind = 4 := (by have h9 := congrArg PN.kind hy; exact h9); have hyn : y.next = nx := (by have h9 := congrArg PN.next hy; exact h9); have hyd : y.data = d := (by have h9 := congrArg PN.data hy; exact h9))
          go_ret
          have hbw := fun o => hb2.alloc hb2.size o
          exact ⟨by rw [HR.out, if_pos (.inr (fun h9 => by have := HI.out.1 h9; cases this))]; exact ⟨rfl, vis, hVk _ _ _ HH.out.2.2.2.2.2 (hbw _)⟩, HBR.out.trans ((hbw _).mono (Nat.le_trans hB0 HBR.out.size))⟩
        · go_wp2_with (go_at_call 62; refine HNo.out.mono ?_; rintro e w2 ⟨y, hy, rfl, hya, hylo, hb2⟩; unfold NX.val nodeV; have hyk : y.kind = 4 := (by have h9 := congrArg PN.kind hy; exact h9); have hyn : y.next = nx := (by have h9 := congrArg PN.next hy; exact h9); have hyd : y.data = d := (by have h9 := congrArg PN.data hy; exact h9))
          obtain ⟨w3, hw3⟩ : ∃ w3, w3 = w2.alloc (.cells #[.int .i64 4, .int .u64 (y.lsn : Nat), .slice y.ca y.l.length y.cc, .int .u32 (nx : Nat), .slice y.da d.length y.dc, .int .u32 (y.root : Nat), .int .u32 (y.pages : Nat), .int .u32 (y.free : Nat), .int .u64 (y.entries : Nat)] 52) := ⟨_, rfl⟩
          have hb3 : Below wo.heap.size wo w3 := by rw [hw3]; exact hb2.alloc hb2.size _
          have hN3 : Blk w3 w2.heap.size 52 #[.int .i64 4, .int .u64 (y.lsn : Nat), .slice y.ca y.l.length y.cc, .int .u32 (nx : Nat), .slice y.da d.length y.dc, .int .u32 (y.root : Nat), .int .u32 (y.pages : Nat), .int .u32 (y.free : Nat), .int .u64 (y.entries : Nat)] := by rw [hw3]; exact Blk.new _ _ _
          have hdr : Reads w3 w3.heap.size 1 y.da d.length (bl d) := by
            have h9 := hya.data.below (show Below w2.heap.size w2 w3 by rw [hw3]; exact (Below.refl _ w2).alloc (Nat.le_refl _) _)
            rw [hyd] at h9
            exact reads_mono h9 (by rw [hw3]; simp)
          rw [← hw3]
          refine (hV.step vis wo w3 p d y.da y.dc HH.out.2.2.2.2.2 hb3 (Nat.le_trans hB0 HBR.out.size) (by omega) hdr hdl.2 (by have := HH.out.2.2.2.1; omega)).mono ?_
          rintro e w4 ⟨rfl, hV4, hb4, hk4⟩
          have hc4 : w4.cell? ⟨w2.heap.size, 3, none⟩ = some (.int .u32 (nx : Nat)) := (World.cell?_of_block (hk4 _ hb2.size hN3.lt)).trans (hN3.cell 3)
          have HF := Lib.hid (And.intro hV4 (And.intro hb3 hb4))
          clear hw3 hN3 hdr hV4 hb3 hb4 hk4
          go_wp2
          go_roundw
          case rel => exact ⟨ps', vr.drop 238, vis ++ [(p, d)], g, left - m, nx, rfl, HNX.out, rfl, HH.out.1, fun q hq => HH.out.2.1 q (by simp [hq]), by have := HH.out.2.2.1; simp at this; exact this, by have := HH.out.2.2.2.1; simp; omega, by omega, .inl (by have := HC3.out; simpa using this.symm), HF.out.1,
            by rw [HR.out, if_neg (by rintro (h9 | h9); exact h9 HC.out; exact h9 (HI.out.2 (by first | rfl | trivial)))]; cases walkT t g nx (left - m) <;> simp [contR], HBR.out.trans ((HF.out.2.1.mono (Nat.le_trans hB0 HBR.out.size)).trans HF.out.2.2)⟩
          case measure => simp [intOf]; omega
end Go.Proofs.YtenfkghoolegfaaGreatDoor
set_option linter.unusedVariables false
namespace Go.Proofs.YtenfkghoolegfaaGreatDoor
open Go.RowKit
/-- What a closure's row holds: the row's block is another one than the box. -/
theorem own_box {W : World} {base n size : Nat} {e tb : TypeId} {A : Option Addr} {c : Nat} {xs : List Value} {g : Nat} {cs : Array Value} (h : W.ownsRow base e size (.slice A n c) n xs) (hB : Blk W g tb cs) (hne : tb ≠ e) : ∀ ad, A = some ad → ad.block ≠ g := by
  rintro ad rfl hg
  rcases h.2 with ⟨h0, _⟩ | ⟨g', cap, cur, e1, _, e3, _⟩
  · cases h0
  · simp only [Value.slice.injEq, Option.some.injEq] at e1
    rw [e1.1] at hg
    have hg : g' = g := hg
    rw [hg, show W.heap[g]? = _ from hB] at e3
    injection e3 with e3
    injection e3 with _ e4 _
    exact hne e4
theorem own_lt {W : World} {base n size : Nat} {e : TypeId} {A : Option Addr} {c : Nat} {xs : List Value} (h : W.ownsRow base e size (.slice A n c) n xs) : ∀ ad, A = some ad → ad.block < W.heap.size ∧ base ≤ ad.block := by
  rintro ad rfl
  rcases h.2 with ⟨h0, _⟩ | ⟨g, cap, cur, e1, h2, h3, _⟩
  · cases h0
  · simp only [Value.slice.injEq, Option.some.injEq] at e1
    rw [e1.1]
    exact ⟨(Array.getElem?_eq_some_iff.1 h3).1, h2⟩
theorem own_belowN {W W' : World} {base n size : Nat} {e : TypeId} {A : Option Addr} {c : Nat} {xs : List Value} (h : W.ownsRow base e size (.slice A n c) n xs) (hb : Below W.heap.size W W') : W'.ownsRow base e size (.slice A n c) n xs := by
  refine ⟨h.1, h.2.imp id ?_⟩
  rintro ⟨g, cap, cur, e1, e2, e3, r⟩
  exact ⟨g, cap, cur, e1, e2, (hb.block g (Array.getElem?_eq_some_iff.1 e3).1).trans e3, r⟩
theorem own_set {W : World} {base n size : Nat} {e : TypeId} {A : Option Addr} {c : Nat} {xs : List Value} (h : W.ownsRow base e size (.slice A n c) n xs) {p : Addr} {u : Value} (hp : ∀ ad, A = some ad → ad.block ≠ p.block) : (W.setCell p u).ownsRow base e size (.slice A n c) n xs := by
  refine ⟨h.1, h.2.imp id ?_⟩
  rintro ⟨g, cap, cur, e1, e2, e3, r⟩
  simp only [Value.slice.injEq] at e1
  exact ⟨g, cap, cur, by simpa using e1, e2, (Below.heap_setCell W p u g (hp _ e1.1)).trans e3, r⟩
/-- The row that a closure appends to: its box, its own memory. -/
def BoxRow (B0 Bl : Nat) (tb e : TypeId) (f : List (Nat × List UInt8) → List Value) (pre : List (Nat × List UInt8)) (W : World) : Prop :=
  B0 ≤ Bl ∧ ∃ A c, Blk W Bl tb #[.slice A (f pre).length c] ∧ W.ownsRow B0 e 1 (.slice A (f pre).length c) (f pre).length (f pre)
theorem BoxRow.keep {B0 Bl : Nat} {tb e : TypeId} {f : List (Nat × List UInt8) → List Value} {pre : List (Nat × List UInt8)} {W W' : World} (h : BoxRow B0 Bl tb e f pre W) (hb : Below W.heap.size W W') : BoxRow B0 Bl tb e f pre W' := by
  obtain ⟨h0, A, c, h1, h2⟩ := h
  exact ⟨h0, A, c, h1.below hb h1.lt, own_belowN h2 hb⟩
/-- Behind an append and the store into the box. -/
theorem BoxRow.grow {B0 Bl : Nat} {tb e : TypeId} (hte : tb ≠ e) {f : List (Nat × List UInt8) → List Value} {pre pre' : List (Nat × List UInt8)} {W0 W w3 : World} {A A3 : Option Addr} {c c3 : Nat} (h0 : B0 ≤ Bl) (h1 : Blk W Bl tb #[.slice A (f pre).length c]) (h2 : W.ownsRow B0 e 1 (.slice A (f pre).length c) (f pre).length (f pre))
    (hbl : Bl < W0.heap.size) (hro : ∀ ad, A = some ad → ad.block < W0.heap.size) (hW : W0.heap.size ≤ W.heap.size) (hB0 : B0 ≤ W0.heap.size)
    (ho3 : w3.ownsRow B0 e 1 (.slice A3 (f pre').length c3) (f pre').length (f pre')) (hg3 : W.grownBy w3 (.slice A (f pre).length c : Value).ownBlock) :
    BoxRow B0 Bl tb e f pre' (w3.setCell ⟨Bl, 0, none⟩ (.slice A3 (f pre').length c3)) ∧ Below B0 W (w3.setCell ⟨Bl, 0, none⟩ (.slice A3 (f pre').length c3)) ∧ ∀ k, W0.heap.size ≤ k → k < W.heap.size → (w3.setCell ⟨Bl, 0, none⟩ (.slice A3 (f pre').length c3)).heap[k]? = W.heap[k]? := by
  have hB3 : Blk w3 Bl tb #[.slice A (f pre).length c] := (grown_at hg3 h1.lt (own_box h2 h1 hte)).trans h1
  have hb3 := grown_below hg3 (Nat.le_trans hB0 hW) (fun ad e => (own_lt h2 ad e).2)
  refine ⟨⟨h0, A3, c3, hB3.set_ 0 _, own_set ho3 (own_box ho3 hB3 hte)⟩, hb3.setCell (p := ⟨Bl, 0, none⟩) h0 _, fun k hk1 hk2 => ?_⟩
  rw [Below.heap_setCell w3 ⟨Bl, 0, none⟩ _ k (by show k ≠ Bl; omega)]
  exact grown_at hg3 hk2 (fun ad e hh => by have := hro ad e; omega)
def fNums (pre : List (Nat × List UInt8)) : List Value := ul (pre.map (·.1))
def fBytes (pre : List (Nat × List UInt8)) : List Value := bl (pre.flatMap (·.2))
set_option maxHeartbeats 2000000 in
set_option maxRecDepth 1000000 in
theorem pages_visit (B0 Bl : Nat) : VisitOK B0 82 #[.pointer (some ⟨Bl, 0, none⟩)] (BoxRow B0 Bl 35 22 fNums) where
  eg := fun args w => enters_of Tryz.func82 (by kernel_rfl) rfl args w
  keep := fun pre W W' h hb => h.keep hb
  step := by
    rintro pre W0 W n d A c ⟨h0, A1, c1, h1, h2⟩ hb hB0 hn hr hd hp
    have hlt1 := h1.lt
    have hown := own_lt h2
    obtain ⟨xs, HX⟩ : ∃ xs, Hid (fNums pre = xs) := ⟨_, Lib.hid rfl⟩
    have hx5 : xs.length < 5 := by rw [← HX.out]; unfold fNums; rw [ul_len, List.length_map]; exact hp
    have k1 := h1.below hb hlt1
    have k2 := own_belowN h2 hb
    rw [HX.out] at k1 k2
    have hc : W.cell? ⟨Bl, 0, none⟩ = some (.slice A1 xs.length c1) := k1.cell 0
    have hf := k1.frozen 0
    obtain ⟨W2, hW2⟩ : ∃ W2, W2 = W.alloc (.cells #[.int .u32 (n : Nat)] 22) := ⟨_, rfl⟩
    have hbb : Below W.heap.size W W2 := by rw [hW2]; exact (Below.refl _ W).alloc (Nat.le_refl _) _
    have hrn : Reads W2 W2.heap.size 1 (some ⟨W.heap.size, 0, none⟩) 1 (ul [n]) := by rw [hW2]; exact reads_blk (Blk.new _ _ _) rfl
    have q1 := k1.below hbb k1.lt
    have q2 := own_belowN k2 hbb
    have hs2 := hb.size
    have hs3 := hbb.size
    have hx2 : xs ++ ul [n] = fNums (pre ++ [(n, d)]) := by rw [← HX.out]; unfold fNums; rw [ul_app, List.map_append]; rfl
    obtain ⟨ys, HY⟩ : ∃ ys, Hid (fNums (pre ++ [(n, d)]) = ys) := ⟨_, Lib.hid rfl⟩
    rw [HY.out] at hx2
    have hy1 : xs.length + 1 = ys.length := by rw [← hx2, List.length_append]; rfl
    have HQ := Lib.hid (And.intro q1 (And.intro k1 h1))
    have HHH := Lib.hid (And.intro hx2 (And.intro hy1 hown))
    have HW2 := Lib.hid hW2
    clear hr hW2 k1 q1 h1 h2 k2 hx2 hy1 hown
    go_enter Tryz.func82, Tryz.ntmps82
    go_wp2_with (rw [← HW2.out]; refine list_push TU4 rfl rfl B0 rfl q2 rfl hrn (ul_one _) (by omega) (by omega) (k := ys.length) HHH.out.2.1 (ys := ys) HHH.out.1 ?_; intro A7 c7 w7 ho7 hg7 hob7; have hc7 := (grown_at hg7 HQ.out.1.lt (own_box q2 HQ.out.1 (by decide))).trans HQ.out.1; have hc7 : w7.cell? ⟨Bl, 0, none⟩ = some (.slice A1 xs.length c1) := Blk.cell hc7 0; have hf7 : w7.frozen? ⟨Bl, 0, none⟩ = false := Blk.frozen ((grown_at hg7 HQ.out.1.lt (own_box q2 HQ.out.1 (by decide))).trans HQ.out.1) 0)
    go_end0
    have hx := HX.out
    have hy := HY.out
    subst hx
    subst hy
    have hG := BoxRow.grow (f := fNums) (pre := pre) (pre' := pre ++ [(n, d)]) (W0 := W0) (tb := 35) (by decide) h0 HQ.out.1 q2 (Nat.lt_of_lt_of_le HQ.out.2.2.lt (Nat.le_refl _)) (fun ad e => (HHH.out.2.2 ad e).1) (by omega) hB0 ho7 hg7
    exact ⟨rfl, hG.1, (hbb.mono (by omega)).trans hG.2.1, fun k q9 q8 => (hG.2.2 k q9 (by omega)).trans (hbb.block k q8)⟩
set_option maxHeartbeats 2000000 in
set_option maxRecDepth 1000000 in
theorem read_visit (B0 Bl : Nat) : VisitOK B0 48 #[.pointer (some ⟨Bl, 0, none⟩)] (fun pre W => BoxRow B0 Bl 23 5 fBytes pre W ∧ (fBytes pre).length ≤ 238 * pre.length) where
  eg := fun args w => enters_of Tryz.func48 (by kernel_rfl) rfl args w
  keep := fun pre W W' h hb => ⟨h.1.keep hb, h.2⟩
  step := by
    rintro pre W0 W n d A c ⟨⟨h0, A1, c1, h1, h2⟩, hbd⟩ hb hB0 hn hr hd hp
    have hlt1 := h1.lt
    have hown := own_lt h2
    obtain ⟨xs, HX⟩ : ∃ xs, Hid (fBytes pre = xs) := ⟨_, Lib.hid rfl⟩
    have hx5 : xs.length ≤ 1200 := by rw [← HX.out]; omega
    have q1 := h1.below hb hlt1
    have q2 := own_belowN h2 hb
    rw [HX.out] at q1 q2
    have hc : W.cell? ⟨Bl, 0, none⟩ = some (.slice A1 xs.length c1) := q1.cell 0
    have hf := q1.frozen 0
    have hs2 := hb.size
    have hx2 : xs ++ bl d = fBytes (pre ++ [(n, d)]) := by rw [← HX.out]; unfold fBytes bl; simp
    have hbd2 : (fBytes (pre ++ [(n, d)])).length ≤ 238 * (pre ++ [(n, d)]).length := by
      rw [← hx2, List.length_append, List.length_append, ← HX.out]
      have : (bl d).length = d.length := by simp [bl]
      simp only [List.length_singleton]
      omega
    obtain ⟨ys, HY⟩ : ∃ ys, Hid (fBytes (pre ++ [(n, d)]) = ys) := ⟨_, Lib.hid rfl⟩
    rw [HY.out] at hx2
    have hy1 : xs.length + d.length = ys.length := by rw [← hx2, List.length_append]; simp [bl]
    have HQ := Lib.hid (And.intro q1 (And.intro hbd2 h1))
    have HHH := Lib.hid (And.intro hx2 (And.intro hy1 hown))
    clear q1 h1 h2 hx2 hy1 hown hbd hbd2
    go_enter Tryz.func48, Tryz.ntmps48
    go_wp2_with (refine list_push TBy rfl rfl B0 rfl q2 rfl hr (bl_one _) (by omega) (by omega) (k := ys.length) HHH.out.2.1 (ys := ys) HHH.out.1 ?_; intro A7 c7 w7 ho7 hg7 hob7; have hc7 := (grown_at hg7 HQ.out.1.lt (own_box q2 HQ.out.1 (by decide))).trans HQ.out.1; have hc7 : w7.cell? ⟨Bl, 0, none⟩ = some (.slice A1 xs.length c1) := Blk.cell hc7 0; have hf7 : w7.frozen? ⟨Bl, 0, none⟩ = false := Blk.frozen ((grown_at hg7 HQ.out.1.lt (own_box q2 HQ.out.1 (by decide))).trans HQ.out.1) 0)
    go_end0
    have hx := HX.out
    have hy := HY.out
    subst hx
    subst hy
    have hG := BoxRow.grow (f := fBytes) (pre := pre) (pre' := pre ++ [(n, d)]) (W0 := W0) (tb := 23) (by decide) h0 HQ.out.1 q2 (Nat.lt_of_lt_of_le HQ.out.2.2.lt (Nat.le_refl _)) (fun ad e => (HHH.out.2.2 ad e).1) (by omega) hB0 ho7 hg7
    exact ⟨rfl, ⟨hG.1, HQ.out.2.1⟩, hG.2.1, hG.2.2⟩
end Go.Proofs.YtenfkghoolegfaaGreatDoor
set_option linter.unusedVariables false
namespace Go.Proofs.YtenfkghoolegfaaGreatDoor
open Go.RowKit
theorem cfault_nil (op : ByteArray) (w : World) : Calls Tryz.prog 45 #[.string op, .nilIface] w fun e w' => e = .returned .nilIface ∧ w' = w := by
  go_enter Tryz.func45, Tryz.ntmps45
  go_wp2
  go_ret
  exact ⟨rfl, rfl⟩
/-- A value of a chain that is laid: of which length one asks. -/
structure ChainAt (t : PT) (ps : List Nat) (v : List UInt8) : Prop where
  laid : LaidC t.lsn t.over ps v
  ne : ps ≠ []
  lt : ∀ p ∈ ps, p < t.pages
  len : ps.length ≤ 5
set_option maxHeartbeats 4000000 in
set_option maxRecDepth 1000000 in
theorem pages_laid {X : Nat → Prop} {w : World} {T M : Nat} {t : PT} (h : TX X w T M t) (hX : ∀ k, X k → k < w.heap.size) (ok : t.OK) (htab : PowAt w) (h1w : 1 < w.heap.size) {ps : List Nat} {v : List UInt8} (hc : ChainAt t ps v) (p0 : Nat) (hp0 : ps.headD 0 = p0) (s : Nat) (hs : 1 ≤ s ∧ s ≤ 1000)
    {l : List Nat} {d : List UInt8} (hw : walkT t 5 p0 s = .ok (l, d)) :
    Calls Tryz.prog 49 #[.pointer (some ⟨T, 0, none⟩), .int .u32 (p0 : Nat), .int .i64 s] w fun e w' => ∃ A c, e = .returned (.tuple #[.slice A l.length c, .nilIface]) ∧ w'.ownsRow w.heap.size 22 1 (.slice A l.length c) l.length (ul l) ∧ Below w.heap.size w w' := by
  obtain ⟨w1, hw1⟩ : ∃ w1, w1 = w.alloc (.cells #[.slice none 0 0] 35) := ⟨_, rfl⟩
  have hb1 : Below w.heap.size w w1 := by rw [hw1]; exact (Below.refl _ w).alloc (Nat.le_refl _) _
  have hB1 : Blk w1 w.heap.size 35 #[.slice none 0 0] := by rw [hw1]; exact Blk.new _ _ _
  have hv0 : BoxRow w.heap.size w.heap.size 35 22 fNums [] w1 := ⟨Nat.le_refl _, none, 0, hB1, ⟨rfl, .inl ⟨rfl, rfl⟩⟩⟩
  have hW := walk_laidM (B0 := w.heap.size) (h.keep (KeepX.of_below hb1)) ok (powBelow htab hb1) (pages_visit w.heap.size w.heap.size) hv0 hb1.size hX h1w ps v hc.laid hc.ne hc.lt hc.len p0 hp0 s hs
  rw [hw] at hW
  have HW := Lib.hid hW
  have HW1 := Lib.hid hw1
  clear hW hw1 h hX hc hv0 hB1 hw htab
  go_enter Tryz.func49, Tryz.ntmps49
  go_wp2_with (first
    | (rw [← HW1.out]; go_at_call 47; refine HW.out.mono ?_; rintro e w2 ⟨⟨rfl, vis, hv1, hv2, ⟨_, A, c, hB2, ho2⟩⟩, hb2⟩; have hc2 : w2.cell? ⟨w.heap.size, 0, none⟩ = some (.slice A (fNums vis).length c) := hB2.cell 0; have hf2 := hB2.frozen 0))
  have hl : fNums vis = ul l := by unfold fNums; rw [hv1]
  rw [hl] at ho2 hB2 ⊢
  have hB3 := hB2.set_ 0 (.slice A (ul l).length c)
  have hc3 := hB3.cell 0
  have hc3 : (w2.setCell ⟨w.heap.size, 0, none⟩ (.slice A (ul l).length c)).cell? ⟨w.heap.size, 0, none⟩ = some (.slice A (ul l).length c) := hc3
  have ho3 := own_set (p := ⟨w.heap.size, 0, none⟩) (u := .slice A (ul l).length c) ho2 (own_box ho2 hB2 (by decide))
  have hb3 := (hb1.trans hb2).setCell (p := ⟨w.heap.size, 0, none⟩) (Nat.le_refl _) (.slice A (ul l).length c)
  obtain ⟨w3, hw3⟩ : ∃ w3, w2.setCell ⟨w.heap.size, 0, none⟩ (.slice A (ul l).length c) = w3 := ⟨_, rfl⟩
  rw [hw3] at hc3 ho3 hb3 ⊢
  refine bodyPost_ret (v := .tuple #[.slice A (ul l).length c, .nilIface]) (by simp [results, Tryz.results49, go_sem, hc3]) rfl ?_
  rw [ul_len] at ho3 ⊢
  exact ⟨A, c, rfl, ho3, hb3⟩
set_option maxHeartbeats 4000000 in
set_option maxRecDepth 1000000 in
theorem Pages_laid {X : Nat → Prop} {w : World} {T M : Nat} {t : PT} (h : TX X w T M t) (hX : ∀ k, X k → k < w.heap.size) (ok : t.OK) (htab : PowAt w) (h1w : 1 < w.heap.size) {ps : List Nat} {v : List UInt8} (hc : ChainAt t ps v) (p0 : Nat) (hp0 : ps.headD 0 = p0) (s : Nat) (hs : 1 ≤ s ∧ s ≤ 1000)
    {l : List Nat} {d : List UInt8} (hw : walkT t 5 p0 s = .ok (l, d)) :
    Calls Tryz.prog 33 #[.pointer (some ⟨T, 0, none⟩), .int .u32 (p0 : Nat), .int .i64 s] w fun e w' => ∃ A c, e = .returned (.tuple #[.slice A l.length c, .nilIface]) ∧ w'.ownsRow w.heap.size 22 1 (.slice A l.length c) l.length (ul l) ∧ Below w.heap.size w w' := by
  have hP := pages_laid h hX ok htab h1w hc p0 hp0 s hs hw
  have hF := fun op W => cfault_nil op W
  clear h hX hc hw htab
  go_enter Tryz.func33, Tryz.ntmps33
  go_wp2_with (first
    | (go_at_call 49; refine hP.mono ?_; rintro e w2 ⟨A, c, rfl, ho, hb⟩)
    | (go_at_call 45; refine (hF _ _).mono ?_; rintro e w3 ⟨rfl, h3⟩; have h3 := h3.symm; subst h3))
  go_ret2
  exact ⟨A, c, rfl, ho, hb⟩
set_option maxHeartbeats 4000000 in
set_option maxRecDepth 1000000 in
theorem Read_laid {X : Nat → Prop} {w : World} {T M : Nat} {t : PT} (h : TX X w T M t) (hX : ∀ k, X k → k < w.heap.size) (ok : t.OK) (htab : PowAt w) (h1w : 1 < w.heap.size) {ps : List Nat} {v : List UInt8} (hc : ChainAt t ps v) (p0 : Nat) (hp0 : ps.headD 0 = p0) (s : Nat) (hs : 1 ≤ s ∧ s ≤ 1000)
    {l : List Nat} {d : List UInt8} (hw : walkT t 5 p0 s = .ok (l, d)) :
    Calls Tryz.prog 14 #[.pointer (some ⟨T, 0, none⟩), .int .u32 (p0 : Nat), .int .i64 s] w fun e w' => ∃ A c, e = .returned (.tuple #[.slice A d.length c, .nilIface]) ∧ w'.ownsRow w.heap.size 5 1 (.slice A d.length c) d.length (bl d) ∧ Below w.heap.size w w' := by
  obtain ⟨w1, hw1⟩ : ∃ w1, w1 = w.alloc (.cells #[.slice none 0 0] 23) := ⟨_, rfl⟩
  have hb1 : Below w.heap.size w w1 := by rw [hw1]; exact (Below.refl _ w).alloc (Nat.le_refl _) _
  have hB1 : Blk w1 w.heap.size 23 #[.slice none 0 0] := by rw [hw1]; exact Blk.new _ _ _
  have hv0 : BoxRow w.heap.size w.heap.size 23 5 fBytes [] w1 ∧ (fBytes []).length ≤ 238 * ([] : List (Nat × List UInt8)).length := ⟨⟨Nat.le_refl _, none, 0, hB1, ⟨rfl, .inl ⟨rfl, rfl⟩⟩⟩, Nat.le_refl _⟩
  have hW := walk_laidM (B0 := w.heap.size) (h.keep (KeepX.of_below hb1)) ok (powBelow htab hb1) (read_visit w.heap.size w.heap.size) hv0 hb1.size hX h1w ps v hc.laid hc.ne hc.lt hc.len p0 hp0 s hs
  rw [hw] at hW
  have HW := Lib.hid hW
  have HW1 := Lib.hid hw1
  clear hW hw1 h hX hc hv0 hB1 hw htab
  go_enter Tryz.func14, Tryz.ntmps14
  go_wp2_with (first
    | (rw [← HW1.out]; go_at_call 47; refine HW.out.mono ?_; rintro e w2 ⟨⟨rfl, vis, hv1, hv2, ⟨_, A, c, hB2, ho2⟩, _⟩, hb2⟩; have hc2 : w2.cell? ⟨w.heap.size, 0, none⟩ = some (.slice A (fBytes vis).length c) := hB2.cell 0; have hf2 := hB2.frozen 0))
  have hl : fBytes vis = bl d := by unfold fBytes; rw [hv2]
  rw [hl] at ho2 hB2 ⊢
  rw [bl_len] at ho2 ⊢
  go_ret2
  exact ⟨A, c, rfl, ho2, hb1.trans hb2⟩
end Go.Proofs.YtenfkghoolegfaaGreatDoor
set_option linter.unusedVariables false
namespace Go.Proofs.YtenfkghoolegfaaGreatDoor
open Go.RowKit
attribute [local go_sem] Oper.semAt_some
/-- What has come when k rounds are over, from behind. -/
def backU (l : List Nat) (k : Nat) : List (Nat × Nat) := (List.range k).map fun j => (l.length - 1 - j, l.getD (l.length - 1 - j) 0)
theorem backU_succ (l : List Nat) (k : Nat) : backU l (k + 1) = backU l k ++ [(l.length - 1 - k, l.getD (l.length - 1 - k) 0)] := by simp [backU, List.range_succ]
theorem backU_length (l : List Nat) (k : Nat) : (backU l k).length = k := by simp [backU]
/-- What a round keeps for the iterator: its box, the row. -/
def KeepU (g Bs : Nat) (A B : World) : Prop := B.heap[g]? = A.heap[g]? ∧ B.cell? ⟨Bs, 0, none⟩ = A.cell? ⟨Bs, 0, none⟩
set_option maxRecDepth 100000 in
set_option maxHeartbeats 2000000 in
theorem backU1_in (n : Nat) (hn : 1 ≤ n) (l Bs g cap : Nat) (b : List Nat) (hreach : b.length ≤ 1000) (J Jx : Nat → World → Prop)
    (hY : ∀ k x W, (backU b b.length)[k]? = some x → J k W → YieldAt Fence.wide (n - 1) Tryz.prog l #[.int .i64 (x.1 : Int), .int .u32 (x.2 : Int)] W fun e W' =>
      (e = .returned (.bool true) ∧ J (k + 1) W' ∧ KeepU g Bs W W') ∨ (e = .returned (.bool false) ∧ Jx (k + 1) W'))
    (W : World) (hBs : W.cell? ⟨Bs, 0, none⟩ = some (.slice (some ⟨g, 0, none⟩) b.length cap)) (hc : ∀ j, j < b.length → W.cell? ⟨g, j, none⟩ = some (.int .u32 ((b.getD j 0 : Nat) : Int))) (h0 : J 0 W) :
    CallsIn Fence.wide n Tryz.prog 83 #[.func (.yield l) #[] #[], .pointer (some ⟨Bs, 0, none⟩)] W fun e W' => (∃ v, e = .returned v) ∧
      (J (backU b b.length).length W' ∨ (∃ k, k ≤ (backU b b.length).length ∧ Jx k W')) := by
  refine callsIn_of_wp Tryz.func83 rfl trivial ?_ rfl
  simp only [Tryz.ntmps83, List.size_toArray, List.length_cons, List.length_nil, Nat.reduceAdd, Nat.reduceSub, Array.replicate_succ, Array.replicate_zero, List.push_toArray, List.append_toArray, List.nil_append, List.cons_append]
  gi_wp2
  gi_loopw [3] (fun i wr => ∃ k : Nat, k ≤ b.length ∧ i = .int .i64 ((b.length : Int) - 1 - (k : Int)) ∧ J k wr ∧ KeepU g Bs W wr)
    (fun i _ => (intOf i + 1).toNat)
  case atStart => exact ⟨0, Nat.zero_le _, by simp, h0, rfl, rfl⟩
  case round =>
    obtain ⟨k, hk, rfl, hJs, hnx, hbx⟩ := hrel
    have hbs := hbx.trans hBs
    by_cases hlt : k < b.length
    · obtain ⟨m, hm⟩ : ∃ m, b.length - 1 - k = m := ⟨_, rfl⟩
      have e : (b.length : Int) - 1 - (k : Int) = (m : Nat) := by omega
      have hml : m < b.length := by omega
      obtain ⟨y, hyv⟩ : ∃ y, b.getD m 0 = y := ⟨_, rfl⟩
      obtain ⟨fn, tmps, assign, body, hy, hR⟩ := hY k (m, y) wr (by unfold backU; rw [List.getElem?_map, List.getElem?_range hlt, ← hyv, ← hm]; rfl) hJs
      dsimp only at hy
      have hcx : wr.cell? ⟨g, m, none⟩ = some (.int .u32 ((b.getD m 0 : Nat) : Int)) := (World.cell?_of_block hnx).trans (hc m hml)
      rw [hyv] at hcx
      have m0 : (0 : Int) ≤ (m : Int) := by omega
      have m1 : (m : Int) < (b.length : Int) := by omega
      have HB := Lib.hid hbx
      clear hbx
      have HM := Lib.hid (And.intro hm (And.intro e hyv))
      rw [e]
      clear hm e hml hyv
      gi_wp2
      refine hR.mono ?_
      rintro e W3 (⟨rfl, hJ3, hk3⟩ | ⟨rfl, hJx3⟩)
      · gi_wp2
        go_roundw
        case rel => exact ⟨k + 1, by omega, by have := HM.out.2.1; first | (congr 1; omega) | go_num, hJ3, hk3.1.trans hnx, hk3.2.trans HB.out⟩
        case measure => have := HM.out.2.1; first | (simp [intOf]; done) | (simp [intOf]; omega)
      · gi_wp2
        refine bodyPost_ret (results_none rfl _ _ _) rfl ?_
        exact ⟨⟨_, rfl⟩, .inr ⟨k + 1, by rw [backU_length]; omega, hJx3⟩⟩
    · obtain rfl : k = b.length := by omega
      have e : (b.length : Int) - 1 - (b.length : Int) = -1 := by omega
      rw [e]
      clear e
      gi_wp2
      go_end0
      exact ⟨⟨_, rfl⟩, .inl (by rw [backU_length]; exact hJs)⟩
theorem backU_stops (n : Nat) (hn : 1 ≤ n) (Bs g cap : Nat) (b : List Nat) (hreach : b.length ≤ 1000) (w : World) (hBl : Bs < w.heap.size) (hg : g < w.heap.size)
    (hBs : w.cell? ⟨Bs, 0, none⟩ = some (.slice (some ⟨g, 0, none⟩) b.length cap)) (hc : ∀ j, j < b.length → w.cell? ⟨g, j, none⟩ = some (.int .u32 ((b.getD j 0 : Nat) : Int))) :
    SeqL Fence.wide n Tryz.prog 83 #[.pointer (some ⟨Bs, 0, none⟩)] (fun x : Nat × Nat => #[Value.int .i64 (x.1 : Int), Value.int .u32 (x.2 : Int)]) (KeepU g Bs) (backU b b.length) w := fun l J Jx W hW _ _ hY h0 =>
  backU1_in n hn l Bs g cap b hreach J Jx hY W ((hW.cell (p := ⟨Bs, 0, none⟩) hBl).trans hBs) (fun j hj => (hW.cell (p := ⟨g, j, none⟩) hg).trans (hc j hj)) h0
theorem keepU_t {g Bs : Nat} {A B C : World} (h : KeepU g Bs A B) (h2 : KeepU g Bs B C) : KeepU g Bs A C := ⟨h2.1.trans h.1, h2.2.trans h.2⟩
theorem backU_go (A : Option Addr) (n c : Nat) (w : World) : Calls Tryz.prog 50 #[.slice A n c] w fun e w' => e = .returned (.func (.func 83) #[] #[.pointer (some ⟨w.heap.size, 0, none⟩)]) ∧ w' = w.alloc (.cells #[.slice A n c] 35) := by
  go_enter Tryz.func50, Tryz.ntmps50
  go_wp2
  go_ret
  exact ⟨rfl, rfl⟩
theorem free_step {t : PT} (ht : t.OK) {p : Nat} (hp : 2 ≤ p ∧ p < t.pages) : (freeT t p).1 = 0 ∧ (freeT t p).2.OK ∧ (freeT t p).2.lsn = t.lsn ∧ (freeT t p).2.pages = t.pages := by
  have h0 := ht.head
  have hi : isPageT t p = 0 := by unfold isPageT; rw [if_neg (by omega)]
  have hl : layE t (freeN t) = 0 := freePg_put t.lsn t.free
  have e2 : layT t p (freeN t) = { t with over := setO p (putP (freePg t.lsn t.free)) t.over, changed := true } := by
    unfold layT
    rw [if_pos hl]
    rfl
  have e : freeT t p = (0, { t with over := setO p (putP (freePg t.lsn t.free)) t.over, changed := true, free := p }) := by
    unfold freeT
    rw [hi, if_neg (by simp), hl, if_neg (by simp), e2]
  have hok := freeT_ok ht p
  rw [e] at hok ⊢
  exact ⟨rfl, hok, rfl, rfl⟩
end Go.Proofs.YtenfkghoolegfaaGreatDoor
set_option linter.unusedVariables false
namespace Go.Proofs.YtenfkghoolegfaaGreatDoor
open Go.RowKit
attribute [local go_sem] Oper.semAt_some
theorem freesT_cons (t : PT) (p : Nat) (ps : List Nat) : freesT t (p :: ps) = if (freeT t p).1 ≠ 0 then freeT t p else freesT (freeT t p).2 ps := rfl
set_option maxHeartbeats 4000000 in
set_option maxRecDepth 1000000 in
theorem Free_laid {X : Nat → Prop} {w : World} {T M : Nat} {t : PT} (h : TX X w T M t) (hX : ∀ k, X k → k < w.heap.size) (hX1 : ¬ X 1) (ok : t.OK) (htab : PowAt w) (h1w : 1 < w.heap.size) {ps : List Nat} {v : List UInt8} (hc : ChainAt t ps v) (h2 : ∀ p ∈ ps, 2 ≤ p) (p0 : Nat) (hp0 : ps.headD 0 = p0) (s : Nat) (hs : 1 ≤ s ∧ s ≤ 1000)
    (hw : walkT t 5 p0 s = .ok (ps, v)) :
    Calls Tryz.prog 16 #[.pointer (some ⟨T, 0, none⟩), .int .u32 (p0 : Nat), .int .i64 s] w fun e w' => e = .returned .nilIface ∧ TX (moreX X w) w' T M (freesT t ps.reverse).2 ∧ Fr X w w' := by
  have hTX := h
  obtain ⟨w1, hw1⟩ : ∃ w1, w1 = (w.alloc (.cells #[.pointer (some ⟨T, 0, none⟩)] 32)).alloc (.cells #[.nilIface] 37) := ⟨_, rfl⟩
  have hba : Below w.heap.size w (w.alloc (.cells #[.pointer (some ⟨T, 0, none⟩)] 32)) := (Below.refl _ w).alloc (Nat.le_refl _) _
  have hb1 : Below w.heap.size w w1 := by rw [hw1]; exact hba.alloc hba.size _
  have hs1 : w1.heap.size = w.heap.size + 2 := by rw [hw1]; simp
  have hBt : Blk w1 w.heap.size 32 #[.pointer (some ⟨T, 0, none⟩)] := by rw [hw1]; exact (Blk.new w _ _).alloc _
  have hBr : Blk w1 (w.heap.size + 1) 37 #[.nilIface] := by rw [hw1]; have := Blk.new (w.alloc (.cells #[.pointer (some ⟨T, 0, none⟩)] 32)) 37 #[.nilIface]; simpa using this
  have hP := pages_laid (h.keep (KeepX.of_below hb1)) (fun k hk => Nat.lt_of_lt_of_le (hX k hk) hb1.size) ok (powBelow htab hb1) (by omega) hc p0 hp0 s hs hw
  have HW1 := Lib.hid hw1
  have HC := Lib.hid (And.intro hTX (And.intro hX (And.intro hc hw)))
  have HB := Lib.hid (And.intro hBt hBr)
  clear hw1 h hTX hX hc hw hBt hBr hba
  refine (callsIn_wide (n := 3)).1 ?_
  refine callsIn_of_wp_marks Tryz.func16 rfl trivial ?_ rfl
  simp only [Tryz.ntmps16, List.size_toArray, List.length_cons, List.length_nil, Nat.reduceAdd, Nat.reduceSub, Array.replicate_succ, Array.replicate_zero, List.push_toArray, List.append_toArray, List.nil_append, List.cons_append]
  gi_wp2_with (first
    | (rw [← HW1.out]; refine ⟨trivial, ?_⟩; gi_at_call 49; refine (callsIn_wide.2 hP).mono ?_; rintro e w2 ⟨A, c, rfl, ho2, hb2⟩)
    | (refine ⟨trivial, ?_⟩; gi_at_call 50; refine (callsIn_wide.2 (backU_go _ _ _ _)).mono ?_; rintro e w3 ⟨rfl, h3⟩; have h3 := h3.symm; subst h3))
  have hX0 := HC.out.2.1
  have hpl : ps.length ≠ 0 := fun h9 => HC.out.2.2.1.ne (List.eq_nil_of_length_eq_zero h9)
  have hrow : RowN w2 w1.heap.size (fun _ => False) A c ps := ⟨ho2, fun _ _ h9 => h9⟩
  obtain ⟨g, rfl, hpc, _⟩ := hrow.cell (List.getElem?_eq_getElem (show 0 < ps.length by omega))
  have hcells : ∀ j, j < ps.length → w2.cell? ⟨g, j, none⟩ = some (.int .u32 ((ps.getD j 0 : Nat) : Int)) := fun j hj => by
    obtain ⟨g', e, _, hcj⟩ := hrow.cell (List.getElem?_eq_getElem hj)
    cases e
    rw [hcj, List.getD_eq_getElem?_getD, List.getElem?_eq_getElem hj]
    rfl
  have hg2 := hrow.lt _ rfl
  have hg2 : g < w2.heap.size ∧ w1.heap.size ≤ g := hg2
  obtain ⟨w3, hw3⟩ : ∃ w3, w3 = w2.alloc (.cells #[.slice (some ⟨g, 0, none⟩) ps.length c] 35) := ⟨_, rfl⟩
  have hb3 : Below w2.heap.size w2 w3 := by rw [hw3]; exact (Below.refl _ w2).alloc (Nat.le_refl _) _
  have hBx : Blk w3 w2.heap.size 35 #[.slice (some ⟨g, 0, none⟩) ps.length c] := by rw [hw3]; exact Blk.new _ _ _
  have hb13 : Below w1.heap.size w1 w3 := hb2.trans (hb3.mono hb2.size)
  have hb03 : Below w.heap.size w w3 := hb1.trans (hb13.mono hb1.size)
  have hs13 := hb13.size
  have hst := backU_stops 2 (by omega) w2.heap.size g c ps (by have := HC.out.2.2.1.len; omega) w3 hBx.lt (Nat.lt_of_lt_of_le hg2.1 hb3.size) (hBx.cell 0) (fun j hj => (hb3.cell (p := ⟨g, j, none⟩) hg2.1).trans (hcells j hj))
  have hBt3 := HB.out.1.below hb13 HB.out.1.lt
  have hBr3 := HB.out.2.below hb13 HB.out.2.lt
  have hT3 := (HC.out.1.keep (KeepX.of_below hb03)).mono (Y := X) (fun _ h9 => h9)
  rw [← hw3]
  refine' wpIn_rangeFunc_ownN rfl (by omega) (gf := 83) (lb := #[.pointer (some ⟨w2.heap.size, 0, none⟩)]) rfl trivial (enters_of Tryz.func83 (by kernel_rfl) rfl) hst keepU_t ?hkb (Below.refl _ _) (fun _ => rfl)
    (fun k W => ∃ (Xk : Nat → Prop) (tk : PT), TX Xk W T M tk ∧ (∀ j, Xk j → X j ∨ (w3.heap.size ≤ j ∧ isC W j)) ∧ tk.OK ∧ tk.pages = t.pages ∧ freesT t ps.reverse = freesT tk (ps.reverse.drop k) ∧ Fr X w3 W)
    (fun _ _ _ => False) ?hi ?hix ?h0 _ ?assign ?body ?done ?stop
  case hkb =>
    intro W l o o' hl ho hc9 hw9
    have hgb := grownBy_putObj' W l o'
    have hlt := (Array.getElem?_eq_some_iff.1 ho).1
    have hb3s := hb3.size
    have hx9 := hBx.lt
    exact ⟨hgb.block g (by omega) (fun e => by cases e; omega), World.cell?_of_block (hgb.block w2.heap.size (by omega) (fun e => by cases e; omega))⟩
  case hi =>
    rintro k W W' row ⟨Xk, tk, q1, q2, q3, q4, q5, q6⟩ hg9 hr9
    have hne : ∀ j, Xk j → some j ≠ row := fun j hj e => by
      obtain ⟨h8, o, ho, hco⟩ := hr9 j e.symm
      rcases q2 j hj with h7 | ⟨_, o', ho', hco'⟩
      · have := hX0 j h7; have := hb03.size; omega
      · rw [ho] at ho'; cases ho'; rw [hco] at hco'; cases hco'
    refine ⟨Xk, tk, q1.keep ⟨hg9.size, fun j hj hl => hg9.block j hl (hne j hj)⟩, fun j hj => (q2 j hj).imp id fun ⟨h8, o, ho, hco⟩ => ⟨h8, o, (hg9.block j (Array.getElem?_eq_some_iff.1 ho).1 (hne j hj)).trans ho, hco⟩, q3, q4, q5, ?_⟩
    exact ⟨hg9.os.trans q6.os, hg9.tape.trans q6.tape, hg9.output.trans q6.output, Nat.le_trans q6.size hg9.size, fun j hj hx => (hg9.block j (Nat.lt_of_lt_of_le hj q6.size) (fun e => by obtain ⟨h8, _⟩ := hr9 j e.symm; omega)).trans (q6.block j hj hx)⟩
  case hix => exact fun _ _ _ _ _ hs _ _ => hs
  case h0 => exact ⟨X, t, hT3, fun j hj => .inl hj, ok, rfl, rfl, Fr.refl _ _⟩
  case assign =>
    intro l x W K hK
    gi_wp2
    exact hK
  case body =>
    rintro l k x W hx ⟨Xk, tk, q1, q2, q3, q4, q5, q6⟩
    have hkl : k < ps.length := by
      have := (List.getElem?_eq_some_iff.1 hx).1
      rwa [backU_length] at this
    have hxe : x = (ps.length - 1 - k, ps.getD (ps.length - 1 - k) 0) := by
      unfold backU at hx
      rw [List.getElem?_map, List.getElem?_range hkl] at hx
      exact (Option.some.inj hx).symm
    subst hxe
    obtain ⟨q, hq⟩ : ∃ q, ps.getD (ps.length - 1 - k) 0 = q := ⟨_, rfl⟩
    have hqm : ps[ps.length - 1 - k]? = some q := by
      rw [← hq, List.getD_eq_getElem?_getD, List.getElem?_eq_getElem (by omega)]
      rfl
    have hq2 := h2 q (List.mem_of_getElem? hqm)
    have hqp := HC.out.2.2.1.lt q (List.mem_of_getElem? hqm)
    have hdr : ps.reverse.drop k = q :: ps.reverse.drop (k + 1) := by
      rw [List.drop_eq_getElem_cons (by rw [List.length_reverse]; exact hkl)]
      congr 1
      rw [List.getElem_reverse]
      exact (List.getElem?_eq_some_iff.1 hqm).2
    obtain ⟨f1, f2, f3, f4⟩ := free_step q3 (p := q) ⟨hq2, by rw [q4]; exact hqp⟩
    have hi0 : isPageT tk q = 0 := by unfold isPageT; rw [if_neg (by omega)]
    have hX1k : ¬ Xk 1 := fun h9 => (q2 1 h9).elim hX1 (fun h8 => by have := hb03.size; omega)
    have hFr := Free_ok q1 q3 q (by have := q3.head; omega) hi0 (powFr (powBelow htab hb03) q6 hX1) hX1k
    have hXM : X M := by obtain ⟨_, _, _, h9⟩ := HC.out.1; exact h9.xM
    have hct : W.cell? ⟨w.heap.size, 0, none⟩ = some (.pointer (some ⟨T, 0, none⟩)) := (hBt3.fr q6 (fun h9 => by have := hX0 _ h9; omega)).cell 0
    dsimp only
    rw [hq]
    have HI := Lib.hid (And.intro q1 (And.intro q2 (And.intro q5 q6)))
    clear q1 q2 q5 q6 hq hqm hx
    gi_wp2_with (refine ⟨trivial, ?_⟩; gi_at_call 20; refine (callsIn_wide.2 hFr).mono ?_; rintro e W' ⟨rfl, hT', hF'⟩)
    obtain ⟨q1, q2, q5, q6⟩ := HI.out
    have hs3W := q6.size
    have hsW := hF'.size
    have hnX : ∀ j, w3.heap.size ≤ j → Xk j → isC W j := fun j hj hx => (q2 j hx).elim (fun h9 => by have := hX0 j h9; have := hb03.size; omega) (fun h9 => h9.2)
    have hnL : ∀ j, w.heap.size ≤ j → j < w3.heap.size → ¬ Xk j := fun j hj hj2 hx => (q2 j hx).elim (fun h9 => by have := hX0 j h9; omega) (fun h9 => by omega)
    refine ⟨⟨hsW, fun j o hj ho hco => ?_⟩, ⟨hF'.block g (by have := hb3.size; omega) (hnL g (by have := hb1.size; omega) (by have := hb3.size; omega)), World.cell?_of_block (hF'.block w2.heap.size (by have := hBx.lt; omega) (hnL _ (by have := hb1.size; have := hb2.size; omega) hBx.lt))⟩,
      fun j => moreX Xk W j ∧ (j = M ∨ isC W' j), (freeT tk q).2, hT'.cells, fun j hj => ?_, f2, f4.trans q4, ?_, ?_⟩
    · refine (hF'.block j (Array.getElem?_eq_some_iff.1 ho).1 (fun hx => ?_)).trans ho
      obtain ⟨o', ho', hco'⟩ := hnX j hj hx
      rw [ho] at ho'
      cases ho'
      rw [hco] at hco'
      cases hco'
    · rcases hj.2 with rfl | h9
      · exact .inl hXM
      · rcases hj.1 with h8 | h8
        · exact (q2 j h8).imp id (fun h7 => ⟨h7.1, h9⟩)
        · exact .inr ⟨by omega, h9⟩
    · rw [q5, hdr]
      rw [freesT_cons, f1, if_neg (by simp)]
    · exact ⟨hF'.os.trans q6.os, hF'.tape.trans q6.tape, hF'.output.trans q6.output, Nat.le_trans hs3W hsW, fun j hj hx => (hF'.block j (Nat.lt_of_lt_of_le hj hs3W) (fun h9 => (q2 j h9).elim hx (fun h8 => by omega))).trans (q6.block j hj hx)⟩
  case done =>
    rintro D W hD ⟨Xk, tk, q1, q2, q3, q4, q5, q6⟩ hK
    rw [backU_length] at q5
    have hbr := hBr3.fr q6 (fun h9 => by have := hX0 _ h9; omega)
    have hcr : W.cell? ⟨w.heap.size + 1, 0, none⟩ = some .nilIface := hbr.cell 0
    have hfr := hbr.frozen 0
    gi_wp2
    obtain ⟨W2, hW2⟩ : ∃ W2, W.setCell ⟨w.heap.size + 1, 0, none⟩ .nilIface = W2 := ⟨_, rfl⟩
    have hK2 : W2.heap[D]? = some (.deferred (some [])) := by rw [← hW2]; exact (Below.heap_setCell W ⟨w.heap.size + 1, 0, none⟩ _ D (by show D ≠ w.heap.size + 1; omega)).trans hK
    have hc2 : W2.cell? ⟨w.heap.size + 1, 0, none⟩ = some .nilIface := by rw [← hW2]; exact (hbr.set_ 0 _).cell 0
    have hfr2 : Fr (fun j => j = w.heap.size + 1) W W2 := by rw [← hW2]; exact set_frX (X := fun j => j = w.heap.size + 1) rfl
    rw [hW2]
    refine ⟨by simp, .inl ⟨_, _, rfl, run_takeDeferred hK2, ?_⟩⟩
    have hgb := grownBy_putObj' W2 D (.deferred none)
    have hc3 : (W2.putObj D (.deferred none)).cell? ⟨w.heap.size + 1, 0, none⟩ = some .nilIface := (World.cell?_of_block (hgb.block (w.heap.size + 1) (by have := World.block_lt_of_cell? W2 _ hc2; exact this) (fun e => by cases e; omega))).trans hc2
    refine ⟨.nilIface, by simp [results, Tryz.results16, go_sem, hc3], rfl, ?_, ?_⟩
    · have hKX : KeepX Xk W (W2.putObj D (.deferred none)) := by
        refine ⟨Nat.le_trans hfr2.size hgb.size, fun j hj hl => ?_⟩
        rw [hgb.block j (Nat.lt_of_lt_of_le hl hfr2.size) (fun e => by cases e; exact (q2 _ hj).elim (fun h9 => by have := hX0 _ h9; have := hb03.size; omega) (fun h9 => by obtain ⟨_, o, ho, hco⟩ := h9; rw [hK] at ho; cases ho; cases hco))]
        exact hfr2.block j hl (fun e => by rw [e] at hj; exact (q2 _ hj).elim (fun h9 => by have := hX0 _ h9; omega) (fun h9 => by omega))
      rw [List.drop_eq_nil_of_le (by simp)]
      exact (q1.keep hKX).mono (fun j hj => (q2 j hj).imp id (fun h9 => Nat.le_trans hb03.size h9.1))
    · refine ⟨hgb.os.trans (hfr2.os.trans (q6.os.trans hb03.os)), hgb.tape.trans (hfr2.tape.trans (q6.tape.trans hb03.tape)), hgb.output.trans (hfr2.output.trans (q6.output.trans hb03.output)), Nat.le_trans hb03.size (Nat.le_trans q6.size (Nat.le_trans hfr2.size hgb.size)), fun j hj hx => ?_⟩
      have h9 := hb03.size
      rw [hgb.block j (by have := q6.size; have := hfr2.size; omega) (fun e => by cases e; omega), hfr2.block j (by have := q6.size; omega) (by omega), q6.block j (by omega) hx, hb03.block j hj]
  case stop =>
    rintro D c' k W _ _ h9 _
    exact h9.elim
end Go.Proofs.YtenfkghoolegfaaGreatDoor
set_option linter.unusedVariables false
namespace Go.Proofs.YtenfkghoolegfaaGreatDoor
open Go.RowKit
section
variable {P : Program} {ops : Array Oper} {Q : Exit → Act → World → Prop} {md : Region.Mode}
theorem wpOpIn_wide {l n : Nat} (hd : ∀ o ∈ ops.toList, ∀ c, o.op ≠ .defer c) (hL : ¬ LetsOut Q) {i : Nat} {K K' : Act → World → Prop} (hK : ∀ a w, K a w → K' a w) {a : Act} {w : World} (h : wpOp P ops Q i K a w) : wpOpIn (Fence.wide.inRound l) n P ops Q i K' a w := by
  unfold wpOp at h
  unfold wpOpIn
  cases ho : ops[i]? with
  | none => rw [ho] at h; exact hK _ _ h
  | some o =>
    rw [ho] at h
    simp only at h ⊢
    have hdo := hd o (by rw [Array.mem_toList_iff]; exact Array.mem_of_getElem? ho)
    by_cases hw : Region.wanted o (yielded ops a.tmps) = true
    · rw [if_pos hw] at h ⊢
      have h := h.resolve_right (fun h9 => hL h9.2)
      refine ⟨fun _ _ => trivial, ?_⟩
      rw [Oper.semAt_eq _ _ _ hdo]
      unfold Oper.wp at h
      generalize (execOp a.eval o).run P w = r at h
      cases r with
      | ok x w' =>
        cases x with
        | value v => exact hK _ _ h
        | skip => exact hK _ _ h
        | defer d => exact hK _ _ h
        | enter f args =>
          refine ⟨(fun h9 => by simp [Fence.wide] at h9), ?_⟩
          exact (callsIn_wide (n := n - 1)).2 (Calls.mono h fun e w'' he => by cases e <;> first | exact hK _ _ he | exact he)
        | row row args =>
          refine ⟨(fun h9 => by simp [Fence.wide] at h9), fun c cs _ => ?_⟩
          obtain ⟨v, w'', r, s⟩ := Rows.mono h (fun v w'' he => hK _ _ he) c cs
          exact ⟨v, w'', r, stepsIn_wide.2 s⟩
        | _ => exact h.elim
      | halt hh w' =>
        cases hh with
        | panic v => exact h
        | _ => exact h.elim
    · rw [if_neg hw] at h ⊢
      exact ⟨fun _ _ => trivial, hK _ _ h⟩
theorem wpAnyIn_wide {l n : Nat} (hd : ∀ o ∈ ops.toList, ∀ c, o.op ≠ .defer c) (hL : ¬ LetsOut Q) : ∀ (fuel : Nat) (listed : Array Bool) (a : Act) (w : World), wpAny P md ops Q fuel listed a w → wpAnyIn (Fence.wide.inRound l) n P md ops Q fuel listed a w
  | 0, _, _, _, h => h
  | fuel + 1, _, _, _, h => ⟨h.1, fun i hi => wpOpIn_wide hd hL (fun a' w' h' => wpAnyIn_wide hd hL fuel _ a' w' h') (h.2 i hi)⟩
theorem regionEI {l m : Nat} (n : Nat) {id : Nat} {a : Act} {w : World} (S : World → Prop) (hd : ∀ o ∈ ops.toList, ∀ c, o.op ≠ .defer c) (hL : ¬ LetsOut Q) (hm : P.follows .mixedOrders = true) (hs : Region.sinkB .any ops n = true) (hc : Region.chainB .any ops n = true) (hn : decide (n < ops.size) = true) (hsel : Region.noSelect ops = true)
    (hS : S w.drew) (h : S w.drew → Tl .any ops n (Array.replicate ops.size false) → wpAnyE P .any ops Q S n ops.size (Array.replicate ops.size false) a w.drew) : (Code.region id ops true).wpIn (Fence.wide.inRound l) m P Q a w :=
  wpIn_region_any hm (wpAnyIn_wide hd hL _ _ _ _ (wpAny_of_E _ _ _ _ (h hS ⟨hs, hc, of_decide_eq_true hn, hsel, ⟨by simp, (fun j oj _ hl => by rw [getD_replicate_false] at hl; cases hl), (fun t _ ht => by simp [ht])⟩⟩)))
end
end Go.Proofs.YtenfkghoolegfaaGreatDoor
set_option linter.unusedVariables false
namespace Go.Proofs.YtenfkghoolegfaaGreatDoor
open Go.RowKit
attribute [local go_sem] Oper.semAt_some
theorem own_isC {W : World} {base n size : Nat} {e : TypeId} {A : Option Addr} {c : Nat} {xs : List Value} (h : W.ownsRow base e size (.slice A n c) n xs) : ∀ ad, A = some ad → isC W ad.block := by
  rintro ad rfl
  rcases h.2 with ⟨h0, _⟩ | ⟨g, cap, cur, e1, h2, h3, _⟩
  · cases h0
  · simp only [Value.slice.injEq, Option.some.injEq] at e1
    rw [e1.1]
    exact ⟨_, h3, rfl⟩
theorem own_same {W W' : World} {base n size : Nat} {e : TypeId} {A : Option Addr} {c : Nat} {xs : List Value} (h : W.ownsRow base e size (.slice A n c) n xs) (hb : ∀ ad, A = some ad → W'.heap[ad.block]? = W.heap[ad.block]?) : W'.ownsRow base e size (.slice A n c) n xs := by
  refine ⟨h.1, h.2.imp id ?_⟩
  rintro ⟨g, cap, cur, e1, e2, e3, r⟩
  simp only [Value.slice.injEq] at e1
  exact ⟨g, cap, cur, by simpa using e1, e2, (hb _ e1.1).trans e3, r⟩
theorem isC_not {W : World} {j : Nat} {o : Obj} (h : isC W j) (ho : W.heap[j]? = some o) (hc : o.isCells = false) : False := by
  obtain ⟨o', ho', hc'⟩ := h
  rw [ho] at ho'
  cases ho'
  rw [hc] at hc'
  cases hc'
theorem blk_at {w : World} {n : Nat} {t : TypeId} {cs : Array Value} (h : w.heap.size = n) : Blk (w.alloc (.cells cs t)) n t cs := by subst h; exact Blk.new _ _ _
/-- Pages given out behind all others. -/
def tA (t : PT) (k : Nat) : PT := { t with pages := t.pages + k, changed := t.changed || decide (0 < k) }
set_option maxHeartbeats 4000000 in
set_option maxRecDepth 1000000 in
theorem Write_ok {X : Nat → Prop} {w : World} {T M : Nat} {t : PT} {vs : List (List Nat × List UInt8)} (h : TX X w T M t) (hX : ∀ k, X k → k < w.heap.size) (hX1 : ¬ X 1) (ht : PowAt w) (hB : Back t vs []) (val : List UInt8) (a : Addr) (c : Nat)
    (hr : Reads w w.heap.size 1 (some a) val.length (bl val)) (hXa : ¬ X a.block) (hc : val.length ≤ c) (h1 : 1 ≤ val.length) (h2 : val.length ≤ 1000) (hp : t.pages + 5 ≤ 512) :
    Calls Tryz.prog 13 #[.pointer (some ⟨T, 0, none⟩), .slice (some a) val.length c] w fun e w' => e = .returned (.tuple #[.int .u32 (t.pages : Nat), .nilIface]) ∧ TX (moreX X w) w' T M (writeT t val).2.2 ∧ Fr X w w' := by
  have hS := fun W => isSize_any (val.length : Int) W
  rw [show (decide (1 ≤ (val.length : Int)) && decide ((val.length : Int) ≤ 1000)) = true by simp; omega] at hS
  refine (callsIn_wide (n := 3)).1 ?_
  refine callsIn_of_wp_marks Tryz.func13 rfl trivial ?_ rfl
  simp only [Tryz.ntmps13, List.size_toArray, List.length_cons, List.length_nil, Nat.reduceAdd, Nat.reduceSub, Array.replicate_succ, Array.replicate_zero, List.push_toArray, List.append_toArray, List.nil_append, List.cons_append]
  gi_wp2_with (first
    | (refine ⟨trivial, ?_⟩; gi_at_call 44; refine (callsIn_wide.2 (hS _)).mono ?_; rintro e w2 ⟨rfl, hww⟩; have hww := hww.symm; subst hww)
    | (refine ⟨trivial, ?_⟩; gi_at_call 46; refine (callsIn_wide.2 (chunk_go _ _ _ _)).mono ?_; rintro e w2 ⟨rfl, hww⟩; have hww := hww.symm; subst hww))
  obtain ⟨wA, hwA⟩ : ∃ wA, ((((((w.alloc (.cells #[.pointer (some ⟨T, 0, none⟩)] 32)).alloc (.cells #[.int .u32 0] 22)).alloc (.cells #[.nilIface] 37)).alloc (.cells #[.slice none 0 0] 35)).alloc (.cells #[.slice (some a) val.length c] 23)).alloc (.cells #[.int .i64 238] 3)) = wA := ⟨_, rfl⟩
  have hsA : wA.heap.size = w.heap.size + 6 := by rw [← hwA]; simp
  have hbA : Below w.heap.size w wA := by
    rw [← hwA]
    exact ((((((Below.refl w.heap.size w).alloc (by simp) _).alloc (by simp) _).alloc (by simp; omega) _).alloc (by simp; omega) _).alloc (by simp; omega) _).alloc (by simp; omega) _
  have hA0 : Blk wA w.heap.size 32 #[.pointer (some ⟨T, 0, none⟩)] := by rw [← hwA]; exact (((((blk_at (by simp)).alloc _).alloc _).alloc _).alloc _).alloc _
  have hA1 : Blk wA (w.heap.size + 1) 22 #[.int .u32 0] := by rw [← hwA]; exact ((((blk_at (by simp)).alloc _).alloc _).alloc _).alloc _
  have hA2 : Blk wA (w.heap.size + 2) 37 #[.nilIface] := by rw [← hwA]; exact (((blk_at (by simp)).alloc _).alloc _).alloc _
  have hA3 : Blk wA (w.heap.size + 3) 35 #[.slice none 0 0] := by rw [← hwA]; exact ((blk_at (by simp)).alloc _).alloc _
  have hA4 : Blk wA (w.heap.size + 4) 23 #[.slice (some a) val.length c] := by rw [← hwA]; exact (blk_at (by simp)).alloc _
  have hA5 : Blk wA (w.heap.size + 5) 3 #[.int .i64 238] := by rw [← hwA]; exact blk_at (by simp)
  rw [hwA]
  clear hwA
  have hst := chunk_seq 2 (by omega) (w.heap.size + 4) (w.heap.size + 5) val.length c a h2 hc wA (by omega) (by omega) (hA4.cell 0) (hA5.cell 0)
  have hN : (List.range (nChN val.length)).length = nCh val := by rw [List.length_range]; rfl
  have hN5 : nCh val ≤ 5 := nCh_le h2
  have hN1 : 1 ≤ nCh val := by unfold nCh; omega
  have hAT := h.keep (KeepX.of_below hbA)
  have HH := Lib.hid (And.intro h (And.intro hB hr))
  clear h hr
  refine' wpIn_rangeFunc_ownN rfl (by omega) (gf := 81) (lb := #[.pointer (some ⟨w.heap.size + 4, 0, none⟩), .pointer (some ⟨w.heap.size + 5, 0, none⟩)]) rfl trivial (enters_of Tryz.func81 (by kernel_rfl) rfl) hst keepC_t ?hkb (Below.refl _ _) (fun _ => rfl)
    (fun k W => k ≤ nCh val ∧ TX X W T M (tA t k) ∧ (∃ A c, Blk W (w.heap.size + 3) 35 #[.slice A k c] ∧ W.ownsRow wA.heap.size 22 1 (.slice A k c) k (ul (List.range' t.pages k))) ∧ Fr (fun j => X j ∨ j = w.heap.size + 3) wA W)
    (fun _ _ _ => False) ?hi ?hix ?h0 _ ?assign ?body ?done ?stop
  case hkb =>
    intro W l o o' hl ho hc9 hw9
    have hgb := grownBy_putObj' W l o'
    have hlt := (Array.getElem?_eq_some_iff.1 ho).1
    exact ⟨World.cell?_of_block (hgb.block (w.heap.size + 4) (by omega) (fun e => by cases e; omega)), World.cell?_of_block (hgb.block (w.heap.size + 5) (by omega) (fun e => by cases e; omega))⟩
  case hi =>
    rintro k W W' row ⟨q0, q1, ⟨A1, c1, q2, q3⟩, q4⟩ hg9 hr9
    have hlo : ∀ j, j < wA.heap.size → some j ≠ row := fun j hj e => by obtain ⟨h8, _⟩ := hr9 j e.symm; omega
    refine ⟨q0, q1.keep ⟨hg9.size, fun j hj hl => hg9.block j hl (hlo j (by have := hX j hj; omega))⟩, ⟨A1, c1, (hg9.block _ q2.lt (hlo _ (by omega))).trans q2, own_same q3 (fun ad e => hg9.block _ (own_lt q3 ad e).1 (fun e9 => by obtain ⟨h8, o, ho, hco⟩ := hr9 _ e9.symm; exact isC_not (own_isC q3 ad e) ho hco))⟩, ?_⟩
    exact ⟨hg9.os.trans q4.os, hg9.tape.trans q4.tape, hg9.output.trans q4.output, Nat.le_trans q4.size hg9.size, fun j hj hx => (hg9.block j (Nat.lt_of_lt_of_le hj q4.size) (hlo j hj)).trans (q4.block j hj hx)⟩
  case hix => exact fun _ _ _ _ _ hs _ _ => hs
  case h0 => exact ⟨Nat.zero_le _, by simpa [tA] using hAT, ⟨none, 0, hA3, ⟨rfl, .inl ⟨rfl, rfl⟩⟩⟩, Fr.refl _ _⟩
  case assign =>
    intro l x W K hK
    gi_wp2
    exact hK
  case body =>
    rintro l k x W hx ⟨q0, q1, ⟨A1, c1, q2, q3⟩, q4⟩
    have hkN : k < nCh val := by have := (List.getElem?_eq_some_iff.1 hx).1; rwa [hN] at this
    have hAl := Alloc_new q1 (show t.free = 0 from hB.chain) (show t.pages + k < 512 by omega)
    have hX3 : ∀ j, w.heap.size ≤ j → j ≠ w.heap.size + 3 → ¬ (X j ∨ j = w.heap.size + 3) := fun j h8 h9 h7 => h7.elim (fun h6 => by have := hX j h6; omega) h9
    have hct : W.cell? ⟨w.heap.size, 0, none⟩ = some (.pointer (some ⟨T, 0, none⟩)) := (hA0.fr q4 (hX3 _ (by omega) (by omega))).cell 0
    have HI := Lib.hid (And.intro q1 (And.intro q2 (And.intro q3 q4)))
    clear q1 q2 q3 q4
    gi_wp2_with (first
      | (refine ⟨trivial, ?_⟩; gi_at_call 17; refine (callsIn_wide.2 hAl).mono ?_; rintro e W1 ⟨rfl, hT1, hF1⟩; obtain ⟨q1, q2, q3, q4⟩ := HI.out; have r2 := q2.fr hF1 (fun h9 => by have := hX _ h9; omega); have hcp : W1.cell? ⟨w.heap.size + 3, 0, none⟩ = some (.slice A1 k c1) := r2.cell 0; have r3 := own_same q3 (fun ad e9 => hF1.block _ (own_lt q3 ad e9).1 (fun h9 => by have := hX _ h9; have := (own_lt q3 ad e9).2; omega)); obtain ⟨W2, hW2⟩ : ∃ W2, W2 = W1.alloc (.cells #[.int .u32 ((tA t k).pages : Nat)] 22) := ⟨_, rfl⟩; have hb2 : Below W1.heap.size W1 W2 := (by rw [hW2]; exact (Below.refl _ W1).alloc (Nat.le_refl _) _); have hrn : Reads W2 W2.heap.size 1 (some ⟨W1.heap.size, 0, none⟩) 1 (ul [(tA t k).pages]) := (by rw [hW2]; exact reads_blk (Blk.new _ _ _) rfl); have s3 := own_belowN r3 hb2; have s2 := r2.below hb2 r2.lt; have hs1 := hF1.size; have hs2 := hb2.size; have hs0 := q4.size; have HW2 := Lib.hid hW2; clear hW2 q1 q2 q3 q4)
      | (rw [← HW2.out]; refine list_pushI TU4 rfl rfl wA.heap.size rfl s3 rfl hrn (by omega) (ul_one _) (by omega) (by omega) (l := k + 1) rfl (ys := ul (List.range' t.pages (k + 1))) (by rw [ul_app, List.range'_concat, Nat.one_mul]; rfl) ?_; intro A7 c7 w7 ho7 hg7; have s7 : Blk w7 (w.heap.size + 3) 35 #[.slice A1 k c1] := (grown_at hg7 s2.lt (own_box s3 s2 (by decide))).trans s2; have hcp7 : w7.cell? ⟨w.heap.size + 3, 0, none⟩ = some (.slice A1 k c1) := Blk.cell s7 0; have hfp7 : w7.frozen? ⟨w.heap.size + 3, 0, none⟩ = false := Blk.frozen s7 0))
    have hTt : ({ tA t k with pages := (tA t k).pages + 1, changed := true } : PT) = tA t (k + 1) := by unfold tA; simp [Nat.add_assoc]
    rw [hTt] at hT1
    obtain ⟨_, q2, q3, q4⟩ := HI.out
    have hw2 := HW2.out
    have hlo : ∀ j, wA.heap.size ≤ j → ∀ o : Obj, W.heap[j]? = some o → o.isCells = false → w7.heap[j]? = some o := fun j hj o ho hco => by
      have hjl := (Array.getElem?_eq_some_iff.1 ho).1
      have e1 : W1.heap[j]? = some o := (hF1.block j hjl (fun h9 => by have := hX j h9; omega)).trans ho
      have e2 : W2.heap[j]? = some o := (hb2.block j (by omega)).trans e1
      exact (grown_at hg7 (by omega) (fun ad e9 h9 => by subst h9; exact isC_not (own_isC s3 ad e9) e2 hco)).trans e2
    have hfix : ∀ j, w.heap.size ≤ j → j < wA.heap.size → w7.heap[j]? = W.heap[j]? := fun j hj hj2 => by
      have e1 : W1.heap[j]? = W.heap[j]? := hF1.block j (by omega) (fun h9 => by have := hX j h9; omega)
      have e2 : W2.heap[j]? = W1.heap[j]? := hb2.block j (by omega)
      rw [grown_at hg7 (by omega) (fun ad e9 h9 => by have := (own_lt s3 ad e9).2; omega), e2, e1]
    have hs7 := hg7.size
    have hset : ∀ j, j ≠ w.heap.size + 3 → (w7.setCell ⟨w.heap.size + 1 + 1 + 1, 0, none⟩ (.slice A7 (k + 1) c7)).heap[j]? = w7.heap[j]? := fun j hj => Below.heap_setCell w7 ⟨w.heap.size + 1 + 1 + 1, 0, none⟩ _ j hj
    have hssz : (w7.setCell ⟨w.heap.size + 1 + 1 + 1, 0, none⟩ (.slice A7 (k + 1) c7)).heap.size = w7.heap.size := by simp [World.setCell]
    refine ⟨⟨by rw [hssz]; omega, fun j o hj ho hco => (hset j (by omega)).trans (hlo j hj o ho hco)⟩, ⟨World.cell?_of_block ((hset (w.heap.size + 4) (by omega)).trans (hfix _ (by omega) (by omega))), World.cell?_of_block ((hset (w.heap.size + 5) (by omega)).trans (hfix _ (by omega) (by omega)))⟩, by omega, ?_, ⟨A7, c7, s7.set_ 0 _, own_set ho7 (own_box ho7 s7 (by decide))⟩, ?_⟩
    · refine hT1.keep ⟨by rw [hssz]; omega, fun j hj hl => ?_⟩
      have := hX j hj
      rw [hset j (by omega), grown_at hg7 (by omega) (fun ad e9 h9 => by have := (own_lt s3 ad e9).2; omega)]
      exact hb2.block j hl
    · refine ⟨hg7.os.trans (hb2.os.trans (hF1.os.trans q4.os)), hg7.tape.trans (hb2.tape.trans (hF1.tape.trans q4.tape)), hg7.output.trans (hb2.output.trans (hF1.output.trans q4.output)), by rw [hssz]; omega, fun j hj hx => ?_⟩
      rw [not_or] at hx
      rw [hset j hx.2, grown_at hg7 (by omega) (fun ad e9 h9 => by have := (own_lt s3 ad e9).2; omega), hb2.block j (by omega), hF1.block j (by omega) hx.1]
      exact q4.block j hj (by rw [not_or]; exact hx)
  case done =>
    rintro D W hD ⟨_, q1, ⟨A1, c1, q2, q3⟩, q4⟩ hK
    rw [hN] at q1 q2 q3
    have hsz0 := q4.size
    obtain ⟨L, HL⟩ : ∃ L, Hid (W.heap.size = L) := ⟨_, Lib.hid rfl⟩
    have HI := Lib.hid (And.intro q1 (And.intro q2 (And.intro q3 q4)))
    clear q1 q2 q3 q4
    gi_wp2_with (refine ⟨trivial, ?_⟩; gi_at_call 46; refine (callsIn_wide.2 (chunk_go _ _ _ _)).mono ?_; rintro e w2 ⟨rfl, hww⟩; have hww := hww.symm; subst hww)
    obtain ⟨wB, hwB⟩ : ∃ wB, (((W.alloc (.cells #[.int .i64 0] 3)).alloc (.cells #[.slice (some a) val.length c] 23)).alloc (.cells #[.int .i64 238] 3)) = wB := ⟨_, rfl⟩
    have hBW : Below W.heap.size W wB := by
      rw [← hwB]
      exact (((Below.refl W.heap.size W).alloc (by simp) _).alloc (by simp) _).alloc (by simp; omega) _
    have hsB : wB.heap.size = W.heap.size + 3 := by rw [← hwB]; simp
    have hB0 : Blk wB W.heap.size 3 #[.int .i64 0] := by rw [← hwB]; exact ((Blk.new W _ _).alloc _).alloc _
    have hB1 : Blk wB (W.heap.size + 1) 23 #[.slice (some a) val.length c] := by rw [← hwB]; exact (blk_at (by simp)).alloc _
    have hB2 : Blk wB (W.heap.size + 2) 3 #[.int .i64 238] := by rw [← hwB]; exact blk_at (by simp)
    rw [hwB]
    clear hwB
    rw [HL.out] at hB0 hB1 hB2 hsB ⊢
    obtain ⟨q1, q2, q3, q4⟩ := HI.out
    have hrow : RowN W wA.heap.size (fun _ => False) A1 c1 (List.range' t.pages (nCh val)) := ⟨by rw [List.length_range']; exact q3, fun _ _ h9 => h9⟩
    obtain ⟨gp, rfl, hpc, _⟩ := hrow.cell (List.getElem?_eq_getElem (show 0 < (List.range' t.pages (nCh val)).length by rw [List.length_range']; omega))
    rw [List.length_range'] at hpc
    have hpg : ∀ j, j < nCh val → W.cell? ⟨gp, j, none⟩ = some (.int .u32 ((t.pages + j : Nat) : Int)) := fun j hj => by
      obtain ⟨g', e, _, hcj⟩ := hrow.cell (List.getElem?_eq_getElem (show j < (List.range' t.pages (nCh val)).length by rw [List.length_range']; exact hj))
      cases e
      rw [hcj, List.getElem_range', Nat.one_mul]
    have hgp : gp < W.heap.size ∧ wA.heap.size ≤ gp := hrow.lt _ rfl
    have hgL : gp < L := by rw [← HL.out]; exact hgp.1
    have hcg : isC W gp := own_isC q3 _ rfl
    have hst2 := chunk_seq 2 (by omega) (L + 1) (L + 2) val.length c a h2 hc wB (by omega) (by omega) (hB1.cell 0) (hB2.cell 0)
    have hokA : (tA t (nCh val)).OK := by
      have h0 := hB.ok.head
      exact ⟨hB.ok.lsn, ⟨by show 2 ≤ t.pages + _; omega, by show t.pages + _ ≤ 512; omega, h0.2.2.1, by show t.root < t.pages + _; omega, by show t.free < t.pages + _; omega⟩, hB.ok.entries, fun x hx => by have := hB.ok.keys x hx; exact ⟨this.1, by show x.1 < t.pages + _; omega⟩, hB.ok.nodup⟩
    have hLs : wA.heap.size ≤ L := by rw [← HL.out]; exact hsz0
    have HP := Lib.hid (And.intro q1 (And.intro q2 (And.intro q4 hokA)))
    have hpgB : ∀ j, j < nCh val → wB.cell? ⟨gp, j, none⟩ = some (.int .u32 ((t.pages + j : Nat) : Int)) := fun j hj => (hBW.cell (p := ⟨gp, j, none⟩) hgp.1).trans (hpg j hj)
    have hA0B : Blk wB w.heap.size 32 #[.pointer (some ⟨T, 0, none⟩)] := (hA0.fr q4 (fun h9 => h9.elim (fun h8 => by have := hX _ h8; omega) (fun h8 => by omega))).below hBW (by rw [HL.out]; omega)
    have hA3B : Blk wB (w.heap.size + 3) 35 #[.slice (some ⟨gp, 0, none⟩) (nCh val) c1] := q2.below hBW (by rw [HL.out]; omega)
    have hA1B : Blk wB (w.heap.size + 1) 22 #[.int .u32 0] := (hA1.fr q4 (fun h9 => h9.elim (fun h8 => by have := hX _ h8; omega) (fun h8 => by omega))).below hBW (by rw [HL.out]; omega)
    have hA2B : Blk wB (w.heap.size + 2) 37 #[.nilIface] := (hA2.fr q4 (fun h9 => h9.elim (fun h8 => by have := hX _ h8; omega) (fun h8 => by omega))).below hBW (by rw [HL.out]; omega)
    have hcgB : isC wB gp := by obtain ⟨o, ho, hco⟩ := hcg; exact ⟨o, (hBW.block gp hgp.1).trans ho, hco⟩
    have hTB : TX X wB T M (tA t (nCh val)) := q1.keep (KeepX.of_below hBW)
    have hab : a.block < w.heap.size := by obtain ⟨ad, e9, h9, _⟩ := HH.out.2.2.2 (by omega); cases e9; exact h9
    have htW : PowAt W := powFr (powBelow ht hbA) q4 (fun h9 => h9.elim hX1 (fun h8 => by omega))
    have htB : PowAt wB := powBelow htW hBW
    have hrW : Reads W w.heap.size 1 (some a) val.length (bl val) := reads_far (HH.out.2.2.below hbA) q4 hbA.size (fun ad e => by cases e; exact fun h9 => h9.elim hXa (fun h8 => by omega))
    have hrB : Reads wB w.heap.size 1 (some a) val.length (bl val) := hrW.below (hBW.mono (Nat.le_trans hbA.size hsz0))
    have hDW : D < W.heap.size := (Array.getElem?_eq_some_iff.1 hK).1
    have hKB : wB.heap[D]? = some (.deferred (some [])) := (hBW.block D hDW).trans hK
    have hFB : Fr X w wB := ⟨hBW.os.trans (q4.os.trans hbA.os), hBW.tape.trans (q4.tape.trans hbA.tape), hBW.output.trans (q4.output.trans hbA.output), by omega, fun j hj hx => (hBW.block j (by omega)).trans ((q4.block j (by omega) (fun h9 => h9.elim hx (fun h8 => by omega))).trans (hbA.block j hj))⟩
    rw [HL.out] at hDW
    clear q1 q2 q3 q4 hrow hpg hcg hBW hrW htW
    refine' wpIn_rangeFunc_ownN rfl (by omega) (gf := 81) (lb := #[.pointer (some ⟨L + 1, 0, none⟩), .pointer (some ⟨L + 2, 0, none⟩)]) rfl trivial (enters_of Tryz.func81 (by kernel_rfl) rfl) hst2 keepC_t ?hkb2 (Below.refl _ _) (fun _ => rfl)
      (fun k V => k ≤ nCh val ∧ (∃ (Xk : Nat → Prop) (tk : PT), TX Xk V T M tk ∧ (∀ j, Xk j → X j ∨ (wB.heap.size ≤ j ∧ isC V j)) ∧ tk.OK ∧ tk.pages = t.pages + nCh val ∧ tk.lsn = t.lsn ∧ putsT (tA t (nCh val)) (List.range' t.pages (nCh val)) val = putsT tk ((List.range' t.pages (nCh val)).drop k) (val.drop (238 * k))) ∧ Blk V L 3 #[.int .i64 k] ∧ Fr (fun j => X j ∨ j = L) wB V)
      (fun _ _ _ => False) ?hi2 ?hix2 ?h02 _ ?assign2 ?body2 ?done2 ?stop2
    case hkb2 =>
      intro V l o o' hl ho hc9 hw9
      have hgb := grownBy_putObj' V l o'
      have hlt := (Array.getElem?_eq_some_iff.1 ho).1
      exact ⟨World.cell?_of_block (hgb.block (L + 1) (by omega) (fun e => by cases e; omega)), World.cell?_of_block (hgb.block (L + 2) (by omega) (fun e => by cases e; omega))⟩
    case hi2 =>
      rintro k V V' row ⟨p0, ⟨Xk, tk, p1, p2, p3⟩, p4, p5⟩ hg9 hr9
      have hlo : ∀ j, j < wB.heap.size → some j ≠ row := fun j hj e => by obtain ⟨h8, _⟩ := hr9 j e.symm; omega
      have hne : ∀ j, Xk j → some j ≠ row := fun j hj e => by
        obtain ⟨h8, o, ho, hco⟩ := hr9 j e.symm
        rcases p2 j hj with h7 | ⟨_, h7⟩
        · have := hX j h7; omega
        · exact isC_not h7 ho hco
      refine ⟨p0, ⟨Xk, tk, p1.keep ⟨hg9.size, fun j hj hl => hg9.block j hl (hne j hj)⟩, fun j hj => (p2 j hj).imp id fun ⟨h8, o, ho, hco⟩ => ⟨h8, o, (hg9.block j (Array.getElem?_eq_some_iff.1 ho).1 (hne j hj)).trans ho, hco⟩, p3⟩, (hg9.block _ p4.lt (hlo _ (by omega))).trans p4, ?_⟩
      exact ⟨hg9.os.trans p5.os, hg9.tape.trans p5.tape, hg9.output.trans p5.output, Nat.le_trans p5.size hg9.size, fun j hj hx => (hg9.block j (Nat.lt_of_lt_of_le hj p5.size) (hlo j hj)).trans (p5.block j hj hx)⟩
    case hix2 => exact fun _ _ _ _ _ hs _ _ => hs
    case h02 => exact ⟨Nat.zero_le _, ⟨X, _, hTB, fun j hj => .inl hj, hokA, rfl, rfl, rfl⟩, hB0, Fr.refl _ _⟩
    case assign2 =>
      intro l x V K hK
      gi_wp2
      exact hK
    case body2 =>
      rintro l k x V hx ⟨p0, ⟨Xk, tk, p1, p2, p3, p6, p7, p8⟩, p4, p5⟩
      have hkN : k < nCh val := by have := (List.getElem?_eq_some_iff.1 hx).1; rwa [hN] at this
      obtain rfl : x = k := by
        rw [List.getElem?_range (show k < nChN val.length from hkN)] at hx
        exact (Option.some.inj hx).symm
      have hX3 : ∀ j, w.heap.size ≤ j → j < L → ¬ (X j ∨ j = L) := fun j h8 h9 h7 => h7.elim (fun h6 => by have := hX j h6; omega) (fun h6 => by omega)
      have hct : V.cell? ⟨w.heap.size, 0, none⟩ = some (.pointer (some ⟨T, 0, none⟩)) := (hA0B.fr p5 (hX3 _ (by omega) (by omega))).cell 0
      have hcp : V.cell? ⟨w.heap.size + 3, 0, none⟩ = some (.slice (some ⟨gp, 0, none⟩) (nCh val) c1) := (hA3B.fr p5 (hX3 _ (by omega) (by omega))).cell 0
      have hci : V.cell? ⟨L, 0, none⟩ = some (.int .i64 x) := p4.cell 0
      have hkl : 238 * x < val.length := by unfold nCh at hkN; omega
      have hsV := p5.size
      have v1 : L < V.heap.size := by omega
      have v2 : gp < V.heap.size := by omega
      have v3 : w.heap.size < V.heap.size := by omega
      have v4 : w.heap.size + 3 < V.heap.size := by omega
      have v5 : ¬ V.heap.size = L := by omega
      have v6 : ¬ V.heap.size = gp := by omega
      have v7 : ¬ V.heap.size = w.heap.size := by omega
      have v8 : ¬ V.heap.size = w.heap.size + 3 := by omega
      obtain ⟨m, HM⟩ : ∃ m, Hid (min 238 (val.length - 238 * x) = m) := ⟨_, Lib.hid rfl⟩
      obtain ⟨I, HI2⟩ : ∃ I, Hid (238 * x = I) := ⟨_, Lib.hid rfl⟩
      unfold chV
      rw [HM.out, HI2.out]
      have hpN : ∀ j, j < nCh val → V.cell? ⟨gp, j, none⟩ = some (.int .u32 ((t.pages + j : Nat) : Int)) := fun j hj => by
        rw [World.cell?_of_block (w := wB) (w' := V) (p5.block gp (by omega) (hX3 gp (by omega) hgL))]
        exact hpgB j hj
      obtain ⟨n0, HN0⟩ : ∃ n0, Hid (t.pages + x = n0) := ⟨_, Lib.hid rfl⟩
      have hcx := hpN x hkN
      rw [HN0.out] at hcx
      have HV := Lib.hid (And.intro p1 (And.intro p2 (And.intro p3 (And.intro p6 (And.intro p7 (And.intro p8 (And.intro p4 (And.intro p5 hpN))))))))
      clear p1 p2 p3 p6 p7 p8 p4 p5 hpN
      have z1 : IntKind.i64.wrap ((x : Int) + 1) = (x : Int) + 1 := by rw [IntKind.wrap_i64]; omega
      obtain ⟨d, HD⟩ : ∃ d, Hid ((val.drop I).take m = d) := ⟨_, Lib.hid rfl⟩
      have hIm : I + m ≤ val.length := by have := HM.out; have := HI2.out; omega
      have hdm : d.length = m := by rw [← HD.out, List.length_take, List.length_drop]; omega
      have hd238 : (val.drop I).take 238 = d := by
        rw [← HD.out]
        exact List.take_eq_take_iff.2 (by rw [List.length_drop]; have := HM.out; have := HI2.out; omega)
      have hm1 : 1 ≤ m ∧ m ≤ 238 := by have := HM.out; omega
      have hn0 : 2 ≤ n0 ∧ n0 < t.pages + nCh val := by have := HN0.out; have := hB.ok.head; omega
      have hp2 : 2 ≤ t.pages := hB.ok.head.1
      have hPutA : ∀ (nx : Nat) (hnx : nx < 4294967296) (wC : World), Below V.heap.size V wC →
          Calls Tryz.prog 19 #[.pointer (some ⟨T, 0, none⟩), .int .u32 (n0 : Nat), .agg #[.int .i64 4, .int .u64 0, .slice none 0 0, .int .u32 (nx : Nat), .slice (some (a.add I)) m m, .int .u32 0, .int .u32 0, .int .u32 0, .int .u64 0]] wC.drew fun e V2 => e = .returned .nilIface ∧ TX (moreX Xk wC.drew) V2 T M (putT tk n0 (overPg 0 nx d)) ∧ Fr Xk wC.drew V2 := by
        intro nx hnx wC hVC
        obtain ⟨p1, p2, p3, p6, p7, p8, p4, p5, _⟩ := HV.out
        have hVCd : Below V.heap.size V wC.drew := ⟨hVC.os, hVC.tape, hVC.output, hVC.size, hVC.block⟩
        have hX1k : ¬ Xk 1 := fun h9 => (p2 1 h9).elim hX1 (fun h8 => by omega)
        have hrV : Reads V w.heap.size 1 (some a) val.length (bl val) := reads_far hrB p5 (by omega) (fun ad e => by cases e; exact fun h9 => h9.elim hXa (fun h8 => by omega))
        have hrs := reads_sub hrV (m := I) (n := m) hIm
        rw [HD.out] at hrs
        have hrs2 : Reads wC.drew wC.drew.heap.size 1 (some (a.add I)) d.length (bl d) := by
          rw [hdm]
          exact reads_mono (hrs.below (hVCd.mono (by omega))) (by have := hVC.size; show w.heap.size ≤ wC.heap.size; omega)
        have hi0 : isPageT tk n0 = 0 := by unfold isPageT; rw [if_neg (by omega)]
        have hlay := (lay_over tk n0 nx d hi0 ⟨by omega, by omega⟩).1
        have hL0 : layE tk (overPg 0 nx d) = 0 := by unfold putE' at hlay; rw [hi0, if_neg (by simp)] at hlay; exact hlay
        have hP := Put_ok (x := ⟨4, 0, none, 0, [], nx, some (a.add I), m, d, 0, 0, 0, 0⟩) (p1.keep (KeepX.of_below hVCd)) n0 (by omega) ⟨⟨.inl rfl, fun y hy => absurd hy (by simp), fun y hy => absurd hy (by simp)⟩, hrs2, fun y hy => absurd hy (by simp), Nat.zero_le _, by show d.length ≤ _; omega⟩ (overPg_fit p3.lsn hnx) hi0 hL0 (powBelow (powFr htB p5 (fun h9 => h9.elim hX1 (fun h8 => by omega))) hVCd) hX1k
        unfold NX.val nodeV at hP
        dsimp only [List.length_nil] at hP
        simp only [Int.natCast_zero] at hP
        rw [hdm] at hP
        exact hP
      by_cases hk1 : x + 1 < nCh val
      · have d1 : decide ((x : Int) + 1 < (nCh val : Int)) = true := decide_eq_true (by omega)
        have d2 : decide (x + 1 < nCh val) = true := decide_eq_true hk1
        obtain ⟨nx, HNX⟩ : ∃ nx, Hid (t.pages + (x + 1) = nx) := ⟨_, Lib.hid rfl⟩
        have hcx1 := HV.out.2.2.2.2.2.2.2.2 (x + 1) hk1
        rw [HNX.out] at hcx1
        have b1 : (0 : Int) ≤ (x : Int) + 1 := by omega
        have b2 : (x : Int) + 1 < (nCh val : Int) := by omega
        have b3 : ((x : Int) + 1).toNat = x + 1 := by omega
        gi_wp2
        obtain ⟨wC, hwC⟩ : ∃ wC, V.alloc (.cells #[.int .i64 4, .int .u64 0, .slice none 0 0, .int .u32 (nx : Nat), .slice (some (a.add I)) m m, .int .u32 0, .int .u32 0, .int .u32 0, .int .u64 0] 52) = wC := ⟨_, rfl⟩
        have hVC : Below V.heap.size V wC := by rw [← hwC]; exact (Below.refl _ V).alloc (Nat.le_refl _) _
        have hNC : Blk wC V.heap.size 52 #[.int .i64 4, .int .u64 0, .slice none 0 0, .int .u32 (nx : Nat), .slice (some (a.add I)) m m, .int .u32 0, .int .u32 0, .int .u32 0, .int .u64 0] := by rw [← hwC]; exact Blk.new _ _ _
        have hsC : wC.heap.size = V.heap.size + 1 := by rw [← hwC]; simp
        have e1 := (hVC.cell (p := ⟨w.heap.size, 0, none⟩) v3).trans hct
        have e2 := (hVC.cell (p := ⟨w.heap.size + 3, 0, none⟩) v4).trans hcp
        have e3 := (hVC.cell (p := ⟨L, 0, none⟩) v1).trans hci
        have e4 := (hVC.cell (p := ⟨gp, x, none⟩) v2).trans hcx
        rw [hwC]
        have HWC := Lib.hid hwC
        clear hwC hct hcp hci hcx
        have hS0 : (fun W => W.cell? ⟨w.heap.size, 0, none⟩ = some (.pointer (some ⟨T, 0, none⟩)) ∧ W.cell? ⟨w.heap.size + 3, 0, none⟩ = some (.slice (some ⟨gp, 0, none⟩) (nCh val) c1) ∧ W.cell? ⟨L, 0, none⟩ = some (.int .i64 x) ∧ W.cell? ⟨gp, x, none⟩ = some (.int .u32 (n0 : Nat)) ∧ W.cell? ⟨V.heap.size, 0, none⟩ = some (.int .i64 4) ∧ W.cell? ⟨V.heap.size, 1, none⟩ = some (.int .u64 0) ∧ W.cell? ⟨V.heap.size, 2, none⟩ = some (.slice none 0 0) ∧ W.cell? ⟨V.heap.size, 3, none⟩ = some (.int .u32 (nx : Nat)) ∧ W.cell? ⟨V.heap.size, 4, none⟩ = some (.slice (some (a.add I)) m m) ∧ W.cell? ⟨V.heap.size, 5, none⟩ = some (.int .u32 0) ∧ W.cell? ⟨V.heap.size, 6, none⟩ = some (.int .u32 0) ∧ W.cell? ⟨V.heap.size, 7, none⟩ = some (.int .u32 0) ∧ W.cell? ⟨V.heap.size, 8, none⟩ = some (.int .u64 0)) wC := ⟨e1, e2, e3, e4, hNC.cell 0, hNC.cell 1, hNC.cell 2, hNC.cell 3, hNC.cell 4, hNC.cell 5, hNC.cell 6, hNC.cell 7, hNC.cell 8⟩
        clear e1 e2 e3 e4
        have hPut := hPutA nx (by have := HNX.out; omega) wC hVC
        refine regionEI 7 (fun W => W.cell? ⟨w.heap.size, 0, none⟩ = some (.pointer (some ⟨T, 0, none⟩)) ∧ W.cell? ⟨w.heap.size + 3, 0, none⟩ = some (.slice (some ⟨gp, 0, none⟩) (nCh val) c1) ∧ W.cell? ⟨L, 0, none⟩ = some (.int .i64 x) ∧ W.cell? ⟨gp, x, none⟩ = some (.int .u32 (n0 : Nat)) ∧ W.cell? ⟨V.heap.size, 0, none⟩ = some (.int .i64 4) ∧ W.cell? ⟨V.heap.size, 1, none⟩ = some (.int .u64 0) ∧ W.cell? ⟨V.heap.size, 2, none⟩ = some (.slice none 0 0) ∧ W.cell? ⟨V.heap.size, 3, none⟩ = some (.int .u32 (nx : Nat)) ∧ W.cell? ⟨V.heap.size, 4, none⟩ = some (.slice (some (a.add I)) m m) ∧ W.cell? ⟨V.heap.size, 5, none⟩ = some (.int .u32 0) ∧ W.cell? ⟨V.heap.size, 6, none⟩ = some (.int .u32 0) ∧ W.cell? ⟨V.heap.size, 7, none⟩ = some (.int .u32 0) ∧ W.cell? ⟨V.heap.size, 8, none⟩ = some (.int .u64 0)) (by intro o ho c9 hc9; simp only [List.mem_cons, List.not_mem_nil, or_false] at ho; rcases ho with rfl | rfl | rfl | rfl | rfl | rfl | rfl | rfl <;> cases hc9) (by rintro ⟨_, _, h9⟩; exact h9) (by kernel_rfl) (by kernel_rfl) (by kernel_rfl) (by kernel_rfl) (by kernel_rfl) hS0 (fun hHeld hTl => ?_)
        refine takeE 0 (v := ?_) hTl rfl (by decide) (by kernel_rfl) (by kernel_rfl) (fun _ _ _ h => h) hHeld (Or.inl ⟨by rfl, ?_⟩) (fun hTl => ?_)
        rotate_left
        · intro w hSw; (try dsimp only at hSw); go_simp
          all_goals with_reducible rfl
        try simp only [Act.put, List.setIfInBounds_toArray, List.set_cons_zero, List.set_cons_succ]
        refine takeE 1 (v := ?_) hTl rfl (by decide) (by kernel_rfl) (by kernel_rfl) (fun _ _ _ h => h) hHeld (Or.inl ⟨by rfl, ?_⟩) (fun hTl => ?_)
        rotate_left
        · intro w hSw; (try dsimp only at hSw); go_simp
          all_goals with_reducible rfl
        try simp only [Act.put, List.setIfInBounds_toArray, List.set_cons_zero, List.set_cons_succ]
        refine takeE 2 (v := ?_) hTl rfl (by decide) (by kernel_rfl) (by kernel_rfl) (fun _ _ _ h => h) hHeld (Or.inl ⟨by rfl, ?_⟩) (fun hTl => ?_)
        rotate_left
        · intro w hSw; (try dsimp only at hSw); go_simp
          all_goals with_reducible rfl
        try simp only [Act.put, List.setIfInBounds_toArray, List.set_cons_zero, List.set_cons_succ]
        refine takeE 3 (v := ?_) hTl rfl (by decide) (by kernel_rfl) (by kernel_rfl) (fun _ _ _ h => h) hHeld (Or.inl ⟨by rfl, ?_⟩) (fun hTl => ?_)
        rotate_left
        · intro w hSw; (try dsimp only at hSw); go_simp
          all_goals with_reducible rfl
        try simp only [Act.put, List.setIfInBounds_toArray, List.set_cons_zero, List.set_cons_succ]
        refine takeE 4 (v := ?_) hTl rfl (by decide) (by kernel_rfl) (by kernel_rfl) (fun _ _ _ h => h) hHeld (Or.inl ⟨by rfl, ?_⟩) (fun hTl => ?_)
        rotate_left
        · intro w hSw; (try dsimp only at hSw); go_simp
          all_goals with_reducible rfl
        try simp only [Act.put, List.setIfInBounds_toArray, List.set_cons_zero, List.set_cons_succ]
        refine takeE 5 (v := ?_) hTl rfl (by decide) (by kernel_rfl) (by kernel_rfl) (fun _ _ _ h => h) hHeld (Or.inl ⟨by rfl, ?_⟩) (fun hTl => ?_)
        rotate_left
        · intro w hSw; (try dsimp only at hSw); go_simp
          all_goals with_reducible rfl
        try simp only [Act.put, List.setIfInBounds_toArray, List.set_cons_zero, List.set_cons_succ]
        refine oneE 6 rfl (by kernel_rfl) (fun K hK => ?_)
        refine step_callC rfl 19 _ (by go_simp) hPut ?_
        rintro e V2 ⟨rfl, hT2, hF2⟩; refine ⟨_, rfl, ?_⟩; have hnk : ∀ j, w.heap.size ≤ j → j < wB.heap.size ∨ j = V.heap.size → ¬ Xk j := (fun j hj hj2 hx9 => (HV.out.2.1 j hx9).elim (fun h9 => by have := hX j h9; omega) (fun h9 => by obtain ⟨h8, o8, ho8, _⟩ := h9; have := (Array.getElem?_eq_some_iff.1 ho8).1; omega)); have hkp : ∀ j, w.heap.size ≤ j → j < wB.heap.size ∨ j = V.heap.size → V2.heap[j]? = wC.heap[j]? := (fun j hj hj2 => hF2.block j (by show j < wC.heap.size; omega) (hnk j hj hj2)); have hS2 : (fun W => W.cell? ⟨w.heap.size, 0, none⟩ = some (.pointer (some ⟨T, 0, none⟩)) ∧ W.cell? ⟨w.heap.size + 3, 0, none⟩ = some (.slice (some ⟨gp, 0, none⟩) (nCh val) c1) ∧ W.cell? ⟨L, 0, none⟩ = some (.int .i64 x) ∧ W.cell? ⟨gp, x, none⟩ = some (.int .u32 (n0 : Nat)) ∧ W.cell? ⟨V.heap.size, 0, none⟩ = some (.int .i64 4) ∧ W.cell? ⟨V.heap.size, 1, none⟩ = some (.int .u64 0) ∧ W.cell? ⟨V.heap.size, 2, none⟩ = some (.slice none 0 0) ∧ W.cell? ⟨V.heap.size, 3, none⟩ = some (.int .u32 (nx : Nat)) ∧ W.cell? ⟨V.heap.size, 4, none⟩ = some (.slice (some (a.add I)) m m) ∧ W.cell? ⟨V.heap.size, 5, none⟩ = some (.int .u32 0) ∧ W.cell? ⟨V.heap.size, 6, none⟩ = some (.int .u32 0) ∧ W.cell? ⟨V.heap.size, 7, none⟩ = some (.int .u32 0) ∧ W.cell? ⟨V.heap.size, 8, none⟩ = some (.int .u64 0)) V2 := ⟨(World.cell?_of_block (hkp w.heap.size (by omega) (by omega))).trans hS0.1, (World.cell?_of_block (hkp (w.heap.size + 3) (by omega) (by omega))).trans hS0.2.1, (World.cell?_of_block (hkp L (by omega) (by omega))).trans hS0.2.2.1, (World.cell?_of_block (hkp gp (by omega) (by omega))).trans hS0.2.2.2.1, (World.cell?_of_block (hkp V.heap.size (by omega) (.inr rfl))).trans (hNC.cell 0), (World.cell?_of_block (hkp V.heap.size (by omega) (.inr rfl))).trans (hNC.cell 1), (World.cell?_of_block (hkp V.heap.size (by omega) (.inr rfl))).trans (hNC.cell 2), (World.cell?_of_block (hkp V.heap.size (by omega) (.inr rfl))).trans (hNC.cell 3), (World.cell?_of_block (hkp V.heap.size (by omega) (.inr rfl))).trans (hNC.cell 4), (World.cell?_of_block (hkp V.heap.size (by omega) (.inr rfl))).trans (hNC.cell 5), (World.cell?_of_block (hkp V.heap.size (by omega) (.inr rfl))).trans (hNC.cell 6), (World.cell?_of_block (hkp V.heap.size (by omega) (.inr rfl))).trans (hNC.cell 7), (World.cell?_of_block (hkp V.heap.size (by omega) (.inr rfl))).trans (hNC.cell 8)⟩
        refine hK.out _ _ (fun _ => hS2) ?_
        clear hK K
        try simp only [Act.put, List.setIfInBounds_toArray, List.set_cons_zero, List.set_cons_succ]
        refine oneE 7 rfl (by kernel_rfl) (fun K hK => ?_)
        go_simp
        refine hK.out _ _ (fun h => absurd h (by decide)) ?_
        clear hK K
        try simp only [Act.put, List.setIfInBounds_toArray, List.set_cons_zero, List.set_cons_succ]
        refine doneE (by kernel_rfl) ?_ _
        have hXM : X M := by obtain ⟨_, _, _, h9⟩ := HH.out.1; exact h9.xM
        have hcL2 := hS2.2.2.1
        have hBL2 : Blk V2 L 3 #[.int .i64 x] := (hkp L (by omega) (by omega)).trans ((hVC.block L v1).trans HV.out.2.2.2.2.2.2.1)
        have hfL2 := hBL2.frozen 0
        gi_wp2
        obtain ⟨p1, p2, p3, p6, p7, p8, p4, p5, _⟩ := HV.out
        have hs2C : wC.heap.size ≤ V2.heap.size := hF2.size
        have hset : ∀ j, j ≠ L → (V2.setCell ⟨L, 0, none⟩ (.int .i64 ((x : Int) + 1))).heap[j]? = V2.heap[j]? := fun j hj => Below.heap_setCell V2 ⟨L, 0, none⟩ _ j hj
        have hssz : (V2.setCell ⟨L, 0, none⟩ (.int .i64 ((x : Int) + 1))).heap.size = V2.heap.size := by simp [World.setCell]
        have hisC : ∀ j, j ≠ L → isC V2 j → isC (V2.setCell ⟨L, 0, none⟩ (.int .i64 ((x : Int) + 1))) j := fun j hj ⟨o, ho, hco⟩ => ⟨o, (hset j hj).trans ho, hco⟩
        have hi0 : isPageT tk n0 = 0 := by unfold isPageT; rw [if_neg (by omega)]
        obtain ⟨l1, l2⟩ := lay_over tk n0 nx d hi0 ⟨by omega, by omega⟩
        have hdr : (List.range' t.pages (nCh val)).drop x = n0 :: (List.range' t.pages (nCh val)).drop (x + 1) := by
          rw [List.drop_eq_getElem_cons (by rw [List.length_range']; exact hkN), List.getElem_range', Nat.one_mul, HN0.out]
        have hhd : ((List.range' t.pages (nCh val)).drop (x + 1)).headD 0 = nx := by
          rw [List.drop_eq_getElem_cons (by rw [List.length_range']; exact hk1), List.getElem_range', Nat.one_mul, HNX.out]
          rfl
        have hv2 : (val.drop (238 * x)).drop 238 = val.drop (238 * (x + 1)) := by rw [List.drop_drop, show 238 * x + 238 = 238 * (x + 1) by omega]
        refine ⟨⟨by rw [hssz]; omega, fun j o hj ho hco => ?_⟩, ⟨World.cell?_of_block ((hset (L + 1) (by omega)).trans ((hkp (L + 1) (by omega) (.inl (by omega))).trans (hVC.block (L + 1) (by omega)))), World.cell?_of_block ((hset (L + 2) (by omega)).trans ((hkp (L + 2) (by omega) (.inl (by omega))).trans (hVC.block (L + 2) (by omega))))⟩, by omega,
          ⟨fun j => moreX Xk wC.drew j ∧ (j = M ∨ isC V2 j), putT tk n0 (overPg 0 nx d), hT2.cells.keep ⟨by rw [hssz]; exact Nat.le_refl _, fun j hj hl => hset j (fun e9 => ?_)⟩, fun j hj => ?_, putT_ok p3 n0 _, by rw [l2]; exact p6, by rw [l2]; exact p7, ?_⟩, hBL2.set_ 0 (.int .i64 ((x : Int) + 1)), ?_⟩
        · have hjl := (Array.getElem?_eq_some_iff.1 ho).1
          refine (hset j (by omega)).trans ((hF2.block j (by show j < wC.heap.size; omega) (fun hx9 => (p2 j hx9).elim (fun h9 => by have := hX j h9; omega) (fun h9 => isC_not h9.2 ho hco))).trans ((hVC.block j hjl).trans ho))
        · rw [e9] at hj
          exact hj.1.elim (hnk L (by omega) (.inl (by omega))) (fun h9 => by have h9 : wC.heap.size ≤ L := h9; omega)
        · rcases hj.2 with rfl | h9
          · exact .inl hXM
          · rcases hj.1 with h8 | h8
            · rcases p2 j h8 with h7 | h7
              · exact .inl h7
              · exact .inr ⟨by have := h7.1; omega, hisC j (by have := h7.1; omega) h9⟩
            · have h8 : wC.heap.size ≤ j := h8
              exact .inr ⟨by omega, hisC j (by omega) h9⟩
        · rw [p8, hdr]
          show (if putE' tk n0 (overPg 0 (((List.range' t.pages (nCh val)).drop (x + 1)).headD 0) ((val.drop (238 * x)).take 238)) ≠ 0 then _ else putsT (putT tk n0 (overPg 0 (((List.range' t.pages (nCh val)).drop (x + 1)).headD 0) ((val.drop (238 * x)).take 238))) ((List.range' t.pages (nCh val)).drop (x + 1)) ((val.drop (238 * x)).drop 238)) = _
          rw [hhd, hv2, show (val.drop (238 * x)).take 238 = d by rw [HI2.out]; exact hd238, l1, if_neg (by simp)]
          simp
        · refine ⟨hF2.os.trans (hVC.os.trans p5.os), hF2.tape.trans (hVC.tape.trans p5.tape), hF2.output.trans (hVC.output.trans p5.output), by rw [hssz]; omega, fun j hj hx9 => ?_⟩
          rw [not_or] at hx9
          rw [hset j hx9.2, hF2.block j (by show j < wC.heap.size; omega) (fun h9 => (p2 j h9).elim hx9.1 (fun h8 => by omega))]
          exact (hVC.block j (by omega)).trans (p5.block j hj (by rw [not_or]; exact hx9))
      · have d1 : decide ((x : Int) + 1 < (nCh val : Int)) = false := decide_eq_false (by omega)
        have d2 : decide (x + 1 < nCh val) = false := decide_eq_false hk1
        gi_wp2
        obtain ⟨wC, hwC⟩ : ∃ wC, V.alloc (.cells #[.int .i64 4, .int .u64 0, .slice none 0 0, .int .u32 0, .slice (some (a.add I)) m m, .int .u32 0, .int .u32 0, .int .u32 0, .int .u64 0] 52) = wC := ⟨_, rfl⟩
        have hVC : Below V.heap.size V wC := by rw [← hwC]; exact (Below.refl _ V).alloc (Nat.le_refl _) _
        have hNC : Blk wC V.heap.size 52 #[.int .i64 4, .int .u64 0, .slice none 0 0, .int .u32 0, .slice (some (a.add I)) m m, .int .u32 0, .int .u32 0, .int .u32 0, .int .u64 0] := by rw [← hwC]; exact Blk.new _ _ _
        have hsC : wC.heap.size = V.heap.size + 1 := by rw [← hwC]; simp
        have e1 := (hVC.cell (p := ⟨w.heap.size, 0, none⟩) v3).trans hct
        have e2 := (hVC.cell (p := ⟨w.heap.size + 3, 0, none⟩) v4).trans hcp
        have e3 := (hVC.cell (p := ⟨L, 0, none⟩) v1).trans hci
        have e4 := (hVC.cell (p := ⟨gp, x, none⟩) v2).trans hcx
        rw [hwC]
        have HWC := Lib.hid hwC
        clear hwC hct hcp hci hcx
        have hS0 : (fun W => W.cell? ⟨w.heap.size, 0, none⟩ = some (.pointer (some ⟨T, 0, none⟩)) ∧ W.cell? ⟨w.heap.size + 3, 0, none⟩ = some (.slice (some ⟨gp, 0, none⟩) (nCh val) c1) ∧ W.cell? ⟨L, 0, none⟩ = some (.int .i64 x) ∧ W.cell? ⟨gp, x, none⟩ = some (.int .u32 (n0 : Nat)) ∧ W.cell? ⟨V.heap.size, 0, none⟩ = some (.int .i64 4) ∧ W.cell? ⟨V.heap.size, 1, none⟩ = some (.int .u64 0) ∧ W.cell? ⟨V.heap.size, 2, none⟩ = some (.slice none 0 0) ∧ W.cell? ⟨V.heap.size, 3, none⟩ = some (.int .u32 0) ∧ W.cell? ⟨V.heap.size, 4, none⟩ = some (.slice (some (a.add I)) m m) ∧ W.cell? ⟨V.heap.size, 5, none⟩ = some (.int .u32 0) ∧ W.cell? ⟨V.heap.size, 6, none⟩ = some (.int .u32 0) ∧ W.cell? ⟨V.heap.size, 7, none⟩ = some (.int .u32 0) ∧ W.cell? ⟨V.heap.size, 8, none⟩ = some (.int .u64 0)) wC := ⟨e1, e2, e3, e4, hNC.cell 0, hNC.cell 1, hNC.cell 2, hNC.cell 3, hNC.cell 4, hNC.cell 5, hNC.cell 6, hNC.cell 7, hNC.cell 8⟩
        clear e1 e2 e3 e4
        have hPut := hPutA 0 (by omega) wC hVC
        simp only [Int.natCast_zero] at hPut
        refine regionEI 7 (fun W => W.cell? ⟨w.heap.size, 0, none⟩ = some (.pointer (some ⟨T, 0, none⟩)) ∧ W.cell? ⟨w.heap.size + 3, 0, none⟩ = some (.slice (some ⟨gp, 0, none⟩) (nCh val) c1) ∧ W.cell? ⟨L, 0, none⟩ = some (.int .i64 x) ∧ W.cell? ⟨gp, x, none⟩ = some (.int .u32 (n0 : Nat)) ∧ W.cell? ⟨V.heap.size, 0, none⟩ = some (.int .i64 4) ∧ W.cell? ⟨V.heap.size, 1, none⟩ = some (.int .u64 0) ∧ W.cell? ⟨V.heap.size, 2, none⟩ = some (.slice none 0 0) ∧ W.cell? ⟨V.heap.size, 3, none⟩ = some (.int .u32 0) ∧ W.cell? ⟨V.heap.size, 4, none⟩ = some (.slice (some (a.add I)) m m) ∧ W.cell? ⟨V.heap.size, 5, none⟩ = some (.int .u32 0) ∧ W.cell? ⟨V.heap.size, 6, none⟩ = some (.int .u32 0) ∧ W.cell? ⟨V.heap.size, 7, none⟩ = some (.int .u32 0) ∧ W.cell? ⟨V.heap.size, 8, none⟩ = some (.int .u64 0)) (by intro o ho c9 hc9; simp only [List.mem_cons, List.not_mem_nil, or_false] at ho; rcases ho with rfl | rfl | rfl | rfl | rfl | rfl | rfl | rfl <;> cases hc9) (by rintro ⟨_, _, h9⟩; exact h9) (by kernel_rfl) (by kernel_rfl) (by kernel_rfl) (by kernel_rfl) (by kernel_rfl) hS0 (fun hHeld hTl => ?_)
        refine takeE 0 (v := ?_) hTl rfl (by decide) (by kernel_rfl) (by kernel_rfl) (fun _ _ _ h => h) hHeld (Or.inl ⟨by rfl, ?_⟩) (fun hTl => ?_)
        rotate_left
        · intro w hSw; (try dsimp only at hSw); go_simp
          all_goals with_reducible rfl
        try simp only [Act.put, List.setIfInBounds_toArray, List.set_cons_zero, List.set_cons_succ]
        refine takeE 1 (v := ?_) hTl rfl (by decide) (by kernel_rfl) (by kernel_rfl) (fun _ _ _ h => h) hHeld (Or.inl ⟨by rfl, ?_⟩) (fun hTl => ?_)
        rotate_left
        · intro w hSw; (try dsimp only at hSw); go_simp
          all_goals with_reducible rfl
        try simp only [Act.put, List.setIfInBounds_toArray, List.set_cons_zero, List.set_cons_succ]
        refine takeE 2 (v := ?_) hTl rfl (by decide) (by kernel_rfl) (by kernel_rfl) (fun _ _ _ h => h) hHeld (Or.inl ⟨by rfl, ?_⟩) (fun hTl => ?_)
        rotate_left
        · intro w hSw; (try dsimp only at hSw); go_simp
          all_goals with_reducible rfl
        try simp only [Act.put, List.setIfInBounds_toArray, List.set_cons_zero, List.set_cons_succ]
        refine takeE 3 (v := ?_) hTl rfl (by decide) (by kernel_rfl) (by kernel_rfl) (fun _ _ _ h => h) hHeld (Or.inl ⟨by rfl, ?_⟩) (fun hTl => ?_)
        rotate_left
        · intro w hSw; (try dsimp only at hSw); go_simp
          all_goals with_reducible rfl
        try simp only [Act.put, List.setIfInBounds_toArray, List.set_cons_zero, List.set_cons_succ]
        refine takeE 4 (v := ?_) hTl rfl (by decide) (by kernel_rfl) (by kernel_rfl) (fun _ _ _ h => h) hHeld (Or.inl ⟨by rfl, ?_⟩) (fun hTl => ?_)
        rotate_left
        · intro w hSw; (try dsimp only at hSw); go_simp
          all_goals with_reducible rfl
        try simp only [Act.put, List.setIfInBounds_toArray, List.set_cons_zero, List.set_cons_succ]
        refine takeE 5 (v := ?_) hTl rfl (by decide) (by kernel_rfl) (by kernel_rfl) (fun _ _ _ h => h) hHeld (Or.inl ⟨by rfl, ?_⟩) (fun hTl => ?_)
        rotate_left
        · intro w hSw; (try dsimp only at hSw); go_simp
          all_goals with_reducible rfl
        try simp only [Act.put, List.setIfInBounds_toArray, List.set_cons_zero, List.set_cons_succ]
        refine oneE 6 rfl (by kernel_rfl) (fun K hK => ?_)
        refine step_callC rfl 19 _ (by go_simp) hPut ?_
        rintro e V2 ⟨rfl, hT2, hF2⟩; refine ⟨_, rfl, ?_⟩; have hnk : ∀ j, w.heap.size ≤ j → j < wB.heap.size ∨ j = V.heap.size → ¬ Xk j := (fun j hj hj2 hx9 => (HV.out.2.1 j hx9).elim (fun h9 => by have := hX j h9; omega) (fun h9 => by obtain ⟨h8, o8, ho8, _⟩ := h9; have := (Array.getElem?_eq_some_iff.1 ho8).1; omega)); have hkp : ∀ j, w.heap.size ≤ j → j < wB.heap.size ∨ j = V.heap.size → V2.heap[j]? = wC.heap[j]? := (fun j hj hj2 => hF2.block j (by show j < wC.heap.size; omega) (hnk j hj hj2)); have hS2 : (fun W => W.cell? ⟨w.heap.size, 0, none⟩ = some (.pointer (some ⟨T, 0, none⟩)) ∧ W.cell? ⟨w.heap.size + 3, 0, none⟩ = some (.slice (some ⟨gp, 0, none⟩) (nCh val) c1) ∧ W.cell? ⟨L, 0, none⟩ = some (.int .i64 x) ∧ W.cell? ⟨gp, x, none⟩ = some (.int .u32 (n0 : Nat)) ∧ W.cell? ⟨V.heap.size, 0, none⟩ = some (.int .i64 4) ∧ W.cell? ⟨V.heap.size, 1, none⟩ = some (.int .u64 0) ∧ W.cell? ⟨V.heap.size, 2, none⟩ = some (.slice none 0 0) ∧ W.cell? ⟨V.heap.size, 3, none⟩ = some (.int .u32 0) ∧ W.cell? ⟨V.heap.size, 4, none⟩ = some (.slice (some (a.add I)) m m) ∧ W.cell? ⟨V.heap.size, 5, none⟩ = some (.int .u32 0) ∧ W.cell? ⟨V.heap.size, 6, none⟩ = some (.int .u32 0) ∧ W.cell? ⟨V.heap.size, 7, none⟩ = some (.int .u32 0) ∧ W.cell? ⟨V.heap.size, 8, none⟩ = some (.int .u64 0)) V2 := ⟨(World.cell?_of_block (hkp w.heap.size (by omega) (by omega))).trans hS0.1, (World.cell?_of_block (hkp (w.heap.size + 3) (by omega) (by omega))).trans hS0.2.1, (World.cell?_of_block (hkp L (by omega) (by omega))).trans hS0.2.2.1, (World.cell?_of_block (hkp gp (by omega) (by omega))).trans hS0.2.2.2.1, (World.cell?_of_block (hkp V.heap.size (by omega) (.inr rfl))).trans (hNC.cell 0), (World.cell?_of_block (hkp V.heap.size (by omega) (.inr rfl))).trans (hNC.cell 1), (World.cell?_of_block (hkp V.heap.size (by omega) (.inr rfl))).trans (hNC.cell 2), (World.cell?_of_block (hkp V.heap.size (by omega) (.inr rfl))).trans (hNC.cell 3), (World.cell?_of_block (hkp V.heap.size (by omega) (.inr rfl))).trans (hNC.cell 4), (World.cell?_of_block (hkp V.heap.size (by omega) (.inr rfl))).trans (hNC.cell 5), (World.cell?_of_block (hkp V.heap.size (by omega) (.inr rfl))).trans (hNC.cell 6), (World.cell?_of_block (hkp V.heap.size (by omega) (.inr rfl))).trans (hNC.cell 7), (World.cell?_of_block (hkp V.heap.size (by omega) (.inr rfl))).trans (hNC.cell 8)⟩
        refine hK.out _ _ (fun _ => hS2) ?_
        clear hK K
        try simp only [Act.put, List.setIfInBounds_toArray, List.set_cons_zero, List.set_cons_succ]
        refine oneE 7 rfl (by kernel_rfl) (fun K hK => ?_)
        go_simp
        refine hK.out _ _ (fun h => absurd h (by decide)) ?_
        clear hK K
        try simp only [Act.put, List.setIfInBounds_toArray, List.set_cons_zero, List.set_cons_succ]
        refine doneE (by kernel_rfl) ?_ _
        have hXM : X M := by obtain ⟨_, _, _, h9⟩ := HH.out.1; exact h9.xM
        have hcL2 := hS2.2.2.1
        have hBL2 : Blk V2 L 3 #[.int .i64 x] := (hkp L (by omega) (by omega)).trans ((hVC.block L v1).trans HV.out.2.2.2.2.2.2.1)
        have hfL2 := hBL2.frozen 0
        gi_wp2
        obtain ⟨p1, p2, p3, p6, p7, p8, p4, p5, _⟩ := HV.out
        have hs2C : wC.heap.size ≤ V2.heap.size := hF2.size
        have hset : ∀ j, j ≠ L → (V2.setCell ⟨L, 0, none⟩ (.int .i64 ((x : Int) + 1))).heap[j]? = V2.heap[j]? := fun j hj => Below.heap_setCell V2 ⟨L, 0, none⟩ _ j hj
        have hssz : (V2.setCell ⟨L, 0, none⟩ (.int .i64 ((x : Int) + 1))).heap.size = V2.heap.size := by simp [World.setCell]
        have hisC : ∀ j, j ≠ L → isC V2 j → isC (V2.setCell ⟨L, 0, none⟩ (.int .i64 ((x : Int) + 1))) j := fun j hj ⟨o, ho, hco⟩ => ⟨o, (hset j hj).trans ho, hco⟩
        have hi0 : isPageT tk n0 = 0 := by unfold isPageT; rw [if_neg (by omega)]
        obtain ⟨l1, l2⟩ := lay_over tk n0 0 d hi0 ⟨by omega, by omega⟩
        have hdr : (List.range' t.pages (nCh val)).drop x = n0 :: (List.range' t.pages (nCh val)).drop (x + 1) := by
          rw [List.drop_eq_getElem_cons (by rw [List.length_range']; exact hkN), List.getElem_range', Nat.one_mul, HN0.out]
        have hhd : ((List.range' t.pages (nCh val)).drop (x + 1)).headD 0 = 0 := by
          rw [List.drop_eq_nil_of_le (by rw [List.length_range']; omega)]
          rfl
        have hv2 : (val.drop (238 * x)).drop 238 = val.drop (238 * (x + 1)) := by rw [List.drop_drop, show 238 * x + 238 = 238 * (x + 1) by omega]
        refine ⟨⟨by rw [hssz]; omega, fun j o hj ho hco => ?_⟩, ⟨World.cell?_of_block ((hset (L + 1) (by omega)).trans ((hkp (L + 1) (by omega) (.inl (by omega))).trans (hVC.block (L + 1) (by omega)))), World.cell?_of_block ((hset (L + 2) (by omega)).trans ((hkp (L + 2) (by omega) (.inl (by omega))).trans (hVC.block (L + 2) (by omega))))⟩, by omega,
          ⟨fun j => moreX Xk wC.drew j ∧ (j = M ∨ isC V2 j), putT tk n0 (overPg 0 0 d), hT2.cells.keep ⟨by rw [hssz]; exact Nat.le_refl _, fun j hj hl => hset j (fun e9 => ?_)⟩, fun j hj => ?_, putT_ok p3 n0 _, by rw [l2]; exact p6, by rw [l2]; exact p7, ?_⟩, hBL2.set_ 0 (.int .i64 ((x : Int) + 1)), ?_⟩
        · have hjl := (Array.getElem?_eq_some_iff.1 ho).1
          refine (hset j (by omega)).trans ((hF2.block j (by show j < wC.heap.size; omega) (fun hx9 => (p2 j hx9).elim (fun h9 => by have := hX j h9; omega) (fun h9 => isC_not h9.2 ho hco))).trans ((hVC.block j hjl).trans ho))
        · rw [e9] at hj
          exact hj.1.elim (hnk L (by omega) (.inl (by omega))) (fun h9 => by have h9 : wC.heap.size ≤ L := h9; omega)
        · rcases hj.2 with rfl | h9
          · exact .inl hXM
          · rcases hj.1 with h8 | h8
            · rcases p2 j h8 with h7 | h7
              · exact .inl h7
              · exact .inr ⟨by have := h7.1; omega, hisC j (by have := h7.1; omega) h9⟩
            · have h8 : wC.heap.size ≤ j := h8
              exact .inr ⟨by omega, hisC j (by omega) h9⟩
        · rw [p8, hdr]
          show (if putE' tk n0 (overPg 0 (((List.range' t.pages (nCh val)).drop (x + 1)).headD 0) ((val.drop (238 * x)).take 238)) ≠ 0 then _ else putsT (putT tk n0 (overPg 0 (((List.range' t.pages (nCh val)).drop (x + 1)).headD 0) ((val.drop (238 * x)).take 238))) ((List.range' t.pages (nCh val)).drop (x + 1)) ((val.drop (238 * x)).drop 238)) = _
          rw [hhd, hv2, show (val.drop (238 * x)).take 238 = d by rw [HI2.out]; exact hd238, l1, if_neg (by simp)]
          simp
        · refine ⟨hF2.os.trans (hVC.os.trans p5.os), hF2.tape.trans (hVC.tape.trans p5.tape), hF2.output.trans (hVC.output.trans p5.output), by rw [hssz]; omega, fun j hj hx9 => ?_⟩
          rw [not_or] at hx9
          rw [hset j hx9.2, hF2.block j (by show j < wC.heap.size; omega) (fun h9 => (p2 j h9).elim hx9.1 (fun h8 => by omega))]
          exact (hVC.block j (by omega)).trans (p5.block j hj (by rw [not_or]; exact hx9))
    case done2 =>
      rintro D2 V hD2 ⟨_, ⟨Xk, tk, p1, p2, p3, p6, p7, p8⟩, p4, p5⟩ hK2
      rw [hN] at p8 p4
      have hsV := p5.size
      have hX3 : ∀ j, w.heap.size ≤ j → j < L → ¬ (X j ∨ j = L) := fun j h8 h9 h7 => h7.elim (fun h6 => by have := hX j h6; omega) (fun h6 => by omega)
      have hcp : V.cell? ⟨w.heap.size + 3, 0, none⟩ = some (.slice (some ⟨gp, 0, none⟩) (nCh val) c1) := (hA3B.fr p5 (hX3 _ (by omega) (by omega))).cell 0
      have hr1 := hA1B.fr p5 (hX3 _ (by omega) (by omega))
      have hr2 := hA2B.fr p5 (hX3 _ (by omega) (by omega))
      have hc1 : V.cell? ⟨w.heap.size + 1, 0, none⟩ = some (.int .u32 0) := hr1.cell 0
      have hf1 := hr1.frozen 0
      have hc2 : V.cell? ⟨w.heap.size + 2, 0, none⟩ = some .nilIface := hr2.cell 0
      have hf2 := hr2.frozen 0
      have hcx : V.cell? ⟨gp, 0, none⟩ = some (.int .u32 (t.pages : Nat)) := by
        rw [World.cell?_of_block (w := wB) (w' := V) (p5.block gp (by omega) (hX3 gp (by omega) hgL))]
        exact hpgB 0 (by omega)
      have HV := Lib.hid (And.intro p1 (And.intro p2 (And.intro p8 (And.intro p5 (And.intro hr1 hr2)))))
      have v0 : decide ((0 : Int) < (nCh val : Int)) = true := decide_eq_true (by omega)
      have v1 : decide (0 < nCh val) = true := decide_eq_true (by omega)
      have v2 : (0 : Int) < (nCh val : Int) := by omega
      have v3 : 0 < nCh val := by omega
      clear p1 p2 p3 p6 p7 p8 p5 hr1 hr2
      gi_wp2
      obtain ⟨p1, p2, p8, p5, hr1, hr2⟩ := HV.out
      obtain ⟨V2, hV2⟩ : ∃ V2, (V.setCell ⟨w.heap.size + 1, 0, none⟩ (.int .u32 (t.pages : Nat))).setCell ⟨w.heap.size + 1 + 1, 0, none⟩ .nilIface = V2 := ⟨_, rfl⟩
      have hfr2 : Fr (fun j => j = w.heap.size + 1 ∨ j = w.heap.size + 2) V V2 := by
        rw [← hV2]
        exact (set_frX (X := fun j => j = w.heap.size + 1 ∨ j = w.heap.size + 2) (.inl rfl)).trans (set_frX (X := fun j => j = w.heap.size + 1 ∨ j = w.heap.size + 2) (.inr rfl))
      have hk1 : Blk V2 (w.heap.size + 1) 22 #[.int .u32 (t.pages : Nat)] := by
        rw [← hV2]
        exact (hr1.set_ 0 (.int .u32 (t.pages : Nat))).far (p := ⟨w.heap.size + 1 + 1, 0, none⟩) (by show w.heap.size + 1 ≠ w.heap.size + 1 + 1; omega) _
      have hk2 : Blk V2 (w.heap.size + 2) 37 #[.nilIface] := by
        rw [← hV2]
        exact (hr2.far (p := ⟨w.heap.size + 1, 0, none⟩) (by show w.heap.size + 2 ≠ w.heap.size + 1; omega) _).set_ 0 .nilIface
      rw [hV2]
      have hKV : V.heap[D]? = some (.deferred (some [])) := (p5.block D (by omega) (hX3 D (by omega) hDW)).trans hKB
      have hK3 : V2.heap[D2]? = some (.deferred (some [])) := (hfr2.block D2 (Array.getElem?_eq_some_iff.1 hK2).1 (by omega)).trans hK2
      have hg1 := grownBy_putObj' V2 D2 (.deferred none)
      have hK4 : (V2.putObj D2 (.deferred none)).heap[D]? = some (.deferred (some [])) := (hg1.block D (by have := hfr2.size; omega) (fun e => by cases e; omega)).trans ((hfr2.block D (by omega) (by omega)).trans hKV)
      have hg2 := grownBy_putObj' (V2.putObj D2 (.deferred none)) D (.deferred none)
      refine ⟨by simp, .inl ⟨_, _, rfl, run_takeDeferred hK3, ?_⟩⟩
      refine ⟨by simp, .inl ⟨_, _, rfl, run_takeDeferred hK4, ?_⟩⟩
      obtain ⟨F, hF⟩ : ∃ F, (V2.putObj D2 (.deferred none)).putObj D (.deferred none) = F := ⟨_, rfl⟩
      have hsF : V.heap.size ≤ F.heap.size := by rw [← hF]; exact Nat.le_trans hfr2.size (Nat.le_trans hg1.size hg2.size)
      have hFV : ∀ j, j < V.heap.size → j ≠ D → j ≠ D2 → j ≠ w.heap.size + 1 → j ≠ w.heap.size + 2 → F.heap[j]? = V.heap[j]? := fun j hj n1 n2 n3 n4 => by
        have := hfr2.size
        have := hg1.size
        rw [← hF, hg2.block j (by omega) (fun e => by cases e; exact n1 rfl), hg1.block j (by omega) (fun e => by cases e; exact n2 rfl), hfr2.block j hj (by omega)]
      have hFk : ∀ j, w.heap.size + 1 ≤ j → j ≤ w.heap.size + 2 → F.heap[j]? = V2.heap[j]? := fun j hj1 hj2 => by
        have := hfr2.size
        have := hg1.size
        rw [← hF, hg2.block j (by omega) (fun e => by cases e; omega), hg1.block j (by omega) (fun e => by cases e; omega)]
      have hcF1 : F.cell? ⟨w.heap.size + 1, 0, none⟩ = some (.int .u32 (t.pages : Nat)) := (World.cell?_of_block (hFk (w.heap.size + 1) (by omega) (by omega))).trans (hk1.cell 0)
      have hcF2 : F.cell? ⟨w.heap.size + 1 + 1, 0, none⟩ = some .nilIface := (World.cell?_of_block (hFk (w.heap.size + 2) (by omega) (by omega))).trans (hk2.cell 0)
      rw [hF]
      refine ⟨.tuple #[.int .u32 (t.pages : Nat), .nilIface], by simp [results, Tryz.results13, go_sem, hcF1, hcF2], rfl, ?_, ?_⟩
      · have hwt : (writeT t val).2.2 = tk := by
          have ea := allocs_new (nCh val) t hB.chain (by omega)
          have e8 : putsT (tA t (nCh val)) (List.range' t.pages (nCh val)) val = (0, tk) := by
            rw [p8]
            rw [show (List.range' t.pages (nCh val)).drop (nCh val) = [] from List.drop_eq_nil_of_le (by rw [List.length_range']; exact Nat.le_refl _)]
            rfl
          unfold writeT
          rw [if_neg (by omega), ea, if_neg (by simp)]
          simp only
          rw [show ({ t with pages := t.pages + nCh val, changed := t.changed || decide (0 < nCh val) } : PT) = tA t (nCh val) from rfl, e8, if_neg (by simp)]
        rw [hwt]
        refine (p1.keep ⟨hsF, fun j hj hl => ?_⟩).mono (fun j hj => (p2 j hj).imp id (fun h9 => by have := hFB.size; omega))
        rcases p2 j hj with h9 | h9
        · have := hX j h9
          exact hFV j hl (by omega) (by omega) (by omega) (by omega)
        · exact hFV j hl (by omega) (fun e9 => by subst e9; exact isC_not h9.2 hK2 rfl) (by omega) (by omega)
      · have o1 : F.os = V.os := by rw [← hF]; exact hg2.os.trans (hg1.os.trans hfr2.os)
        have o2 : F.tape = V.tape := by rw [← hF]; exact hg2.tape.trans (hg1.tape.trans hfr2.tape)
        have o3 : F.output = V.output := by rw [← hF]; exact hg2.output.trans (hg1.output.trans hfr2.output)
        refine ⟨o1.trans (p5.os.trans hFB.os), o2.trans (p5.tape.trans hFB.tape), o3.trans (p5.output.trans hFB.output), by have := hFB.size; omega, fun j hj hx => ?_⟩
        have := hFB.size
        rw [hFV j (by omega) (by omega) (by omega) (by omega) (by omega), p5.block j (by omega) (fun h9 => h9.elim hx (fun h8 => by omega))]
        exact hFB.block j hj hx
    case stop2 =>
      rintro D' c' k V _ _ h9 _
      exact h9.elim
  case stop =>
    rintro D c' k W _ _ h9 _
    exact h9.elim
end Go.Proofs.YtenfkghoolegfaaGreatDoor
set_option linter.unusedVariables false
namespace Go.Proofs.YtenfkghoolegfaaGreatDoor
open Go.RowKit
open Ev (ev AS AObj st1 c3 noCnv VRel LRel Hands hBase cxOK globT Fact)
namespace Km
def no (_ : Nat) : Bool := false
def tok (k : Nat) : Value := .chan (some k)
noncomputable def C1 : Ev.Ctx := Ev.CX [] [] [] noCnv no
noncomputable def flt1 (k : Int) : AObj := .cells ⟨c3 (tok 0) (tok 1) (.iface 80 (.int .i64 k)), 3, 138, 1, false, false⟩
def iArgs (k : Int) : List Value := [.iface 134 (.pointer (some ⟨0, 0, none⟩)), .iface 80 (.int .i64 k)]
set_option maxRecDepth 1000000
theorem is_run : isTr ((ev C1 1000).f 35 (iArgs 7) (st1 (flt1 7))) = true := by kernel_rfl
end Km
open Km
def om1 (op nm : ByteArray) : Nat → Value
  | 0 => .string op
  | 1 => .string nm
  | k => .pointer (some ⟨5, k - hBase, none⟩)
section
variable {op nm : ByteArray}
theorem hands1 : Hands (om1 op nm) := fun t => by
  have : hBase + t = (hBase + t - 2) + 2 := by unfold hBase; omega
  rw [this]
  show Value.pointer (some ⟨5, hBase + t - 2 + 2 - hBase, none⟩) = _
  rw [show hBase + t - 2 + 2 - hBase = t by unfold hBase; omega]
theorem c1OK : Ev.COK (om1 op nm) C1 := cxOK hands1 (fun p hp => by cases hp) (fun f hf => by cases hf) (fun f hf => by cases hf) Ev.noCnv_ok no
/-- The handle of the errors' type, as the condition asks for it. -/
def GlobAt (w : World) : Prop := w.cell? ⟨0, 0, none⟩ = some (.iface 187 (.agg #[.pointer (some ⟨5, 37, none⟩)]))
theorem bs1 {w : World} (hg : GlobAt w) (ht : PowAt w) : Ev.Bs (om1 op nm) C1 2 w := by
  have h1 : 1 < w.heap.size := by
    unfold PowAt at ht
    rcases Nat.lt_or_ge 1 w.heap.size with h | h
    · exact h
    · rw [Array.getElem?_eq_none h] at ht; cases ht
  refine ⟨h1, fun g v h => ⟨?_, (glob_of hands1 hg g v h).2⟩, (fun k h => by cases h), fun g cs h => ?_⟩
  · have h' : globT g = some v := h
    unfold globT at h'
    cases hb : Nat.beq g 0 with
    | false => rw [hb] at h'; cases h'
    | true => have := Nat.eq_of_beq_eq_true hb; omega
  · have h' : Ev.ivT g = some cs := h
    unfold Ev.ivT at h'
    cases hb : Nat.beq g 1 with
    | false => rw [hb] at h'; cases h'
    | true =>
      have := Nat.eq_of_beq_eq_true hb
      subst this
      rw [hb] at h'
      refine ⟨by omega, ?_⟩
      unfold PowAt at ht
      split at ht
      · rename_i cs' t fz he
        cases ht
        cases h'
        exact ⟨t, fz, he⟩
      · cases ht
/-- errors.Is(e, ErrNone). -/
theorem is_none {w : World} (hg : GlobAt w) (ht : PowAt w) {B : Nat} {v : Value} (h : ErrV B w op nm 7 v) (hB : 2 ≤ B) :
    Calls Tryz.prog 35 #[v, .iface 80 (.int .i64 7)] w fun e w' => e = .returned (.bool true) ∧ Fr (fun k => B ≤ k) w w' := by
  rcases h with ⟨h, _⟩ | ⟨_, r, rfl, hr, hb⟩
  · cases h
  obtain ⟨s, hs⟩ := isTr_some is_run
  refine (Ev.run_one (B := 2) (i := ⟨r, 0, 3, 1, false, 3⟩) c1OK hs (Ev.or_three hb (.tok 0 rfl) (.tok 1 rfl) (.iface _ _ _ (.plain _ rfl))) (by show 2 ≤ r; omega) (Array.getElem?_eq_some_iff.1 hb).1 (LRel.cons (.iface _ _ _ (.ptr _ _ ⟨rfl, _, rfl, rfl⟩)) (LRel.cons (.iface _ _ _ (.plain _ rfl)) (LRel.nil _))) (bs1 hg ht) rfl).mono ?_
  rintro e w' ⟨v', m', rfl, hv, hf, ho⟩
  refine ⟨by rw [Ev.plain_inv hv rfl], hf.mono (fun k _ e => by have e : k = r := e; omega)⟩
end
end Go.Proofs.YtenfkghoolegfaaGreatDoor
set_option linter.unusedVariables false
namespace Go.Proofs.YtenfkghoolegfaaGreatDoor
open Go.RowKit
open Ev (ev AS AObj st1 c3 noCnv VRel LRel Hands hBase cxOK globT Fact)
namespace Lh
noncomputable def one1 (k : Int) : AObj := .cells ⟨Ev.T.leaf.put 0 (.int .i64 k), 1, 80, 1, false, false⟩
def aArgs (k : Int) : List Value := [.iface 80 (.int .i64 k), .iface 150 (.pointer (some ⟨0, 0, none⟩))]
/-- The run answers true, and has written k. -/
noncomputable def asTr (k : Int) (r : Option (Value × AS)) : Bool := match r with
  | some (.bool true, s) => match s.h.get 0 with
    | some (.cells ⟨c, 1, 80, 1, false, false⟩) => match c.get 0 with
      | some (.int .i64 j) => decide (j = k)
      | _ => false
    | _ => false
  | _ => false
set_option maxRecDepth 1000000
theorem as_run : asTr 100 ((ev Km.C1 1000).f 70 (aArgs 100) (st1 (one1 0))) = true := by kernel_rfl
theorem is_run : isTr ((ev Km.C1 1000).f 35 [.iface 134 (.pointer (some ⟨0, 0, none⟩)), .iface 80 (.int .i64 100)] (st1 (Km.flt1 100))) = true := by kernel_rfl
theorem asTr_some {k : Int} {r : Option (Value × AS)} (h : asTr k r = true) : ∃ s c, r = some (.bool true, s) ∧ s.h.get 0 = some (.cells ⟨c, 1, 80, 1, false, false⟩) ∧ c.get 0 = some (.int .i64 k) := by
  unfold asTr at h
  split at h
  · rename_i s
    split at h
    · rename_i c hc
      split at h
      · rename_i j hj
        have := of_decide_eq_true h
        subst this
        exact ⟨s, c, rfl, hc, hj⟩
      · cases h
    · cases h
  · cases h
theorem or_one {ω : Nat → Value} {w : World} {r t : Nat} {a a' : Value} (h : w.heap[r]? = some (.cells #[a'] t (0, 0))) (ha : VRel (Ev.m1 ω ⟨r, 0, 1, 1, false, 1⟩) a a') :
    Ev.ORel (Ev.m1 ω ⟨r, 0, 1, 1, false, 1⟩) w ⟨r, 0, 1, 1, false, 1⟩ (.cells ⟨Ev.T.leaf.put 0 a, 1, t, 1, false, false⟩) := by
  refine ⟨rfl, rfl, rfl, Nat.le_refl _, _, _, h, rfl, fun j hj => ?_, .inl rfl⟩
  have hj' : j < 1 := hj
  match j, hj' with
  | 0, _ => exact ⟨a, a', by simp [Ev.T.get_put], rfl, ha⟩
end Lh
/-- errors.As at an error's number. -/
theorem as_chain {w : World} (hg : GlobAt w) (ht : PowAt w) {r : Nat} (hr : w.heap[r]? = some (.cells #[.int .i64 0] 80 (0, 0))) (h2 : 2 ≤ r) :
    Calls Tryz.prog 70 #[.iface 80 (.int .i64 100), .iface 150 (.pointer (some ⟨r, 0, none⟩))] w fun e w' => e = .returned (.bool true) ∧ w'.cell? ⟨r, 0, none⟩ = some (.int .i64 100) ∧ Fr (fun k => k = r) w w' := by
  obtain ⟨s, c, hs, ho, hc⟩ := Lh.asTr_some Lh.as_run
  refine (Ev.run_one (ω := om1 ByteArray.empty ByteArray.empty) (B := 2) (i := ⟨r, 0, 1, 1, false, 1⟩) c1OK hs (Lh.or_one hr (.plain _ rfl)) (by show 2 ≤ r; omega) (Array.getElem?_eq_some_iff.1 hr).1 (LRel.cons (.iface _ _ _ (.plain _ rfl)) (LRel.cons (.iface _ _ _ (.ptr _ _ ⟨rfl, _, rfl, rfl⟩)) (LRel.nil _))) (bs1 hg ht) rfl).mono ?_
  rintro e w' ⟨v', m', rfl, hv, hf, hoo⟩
  refine ⟨by rw [Ev.plain_inv hv rfl], ?_, hf⟩
  obtain ⟨_, _, _, _, c', fz, h1, h2, h3, _⟩ := hoo _ ho rfl
  obtain ⟨u, u', g1, g2, g3⟩ := h3 0 (by show 0 < 1; omega)
  rw [hc] at g1
  cases g1
  have := Ev.plain_inv g3 rfl
  subst this
  unfold World.cell?
  rw [show w'.heap[r]? = _ from h1]
  simpa using g2
theorem is_chain {w : World} (hg : GlobAt w) (ht : PowAt w) {op nm : ByteArray} {B : Nat} {v : Value} (h : ErrV B w op nm 100 v) (hB : 2 ≤ B) :
    Calls Tryz.prog 35 #[v, .iface 80 (.int .i64 100)] w fun e w' => e = .returned (.bool true) ∧ Fr (fun k => B ≤ k) w w' := by
  rcases h with ⟨h, _⟩ | ⟨_, r, rfl, hr, hb⟩
  · cases h
  obtain ⟨s, hs⟩ := isTr_some Lh.is_run
  refine (Ev.run_one (ω := om1 op nm) (B := 2) (i := ⟨r, 0, 3, 1, false, 3⟩) c1OK hs (Ev.or_three hb (.tok 0 rfl) (.tok 1 rfl) (.iface _ _ _ (.plain _ rfl))) (by show 2 ≤ r; omega) (Array.getElem?_eq_some_iff.1 hb).1 (LRel.cons (.iface _ _ _ (.ptr _ _ ⟨rfl, _, rfl, rfl⟩)) (LRel.cons (.iface _ _ _ (.plain _ rfl)) (LRel.nil _))) (bs1 hg ht) rfl).mono ?_
  rintro e w' ⟨v', m', rfl, hv, hf, ho⟩
  refine ⟨by rw [Ev.plain_inv hv rfl], hf.mono (fun k _ e => by have e : k = r := e; omega)⟩
set_option maxHeartbeats 2000000 in
set_option maxRecDepth 1000000 in
theorem cfault_chain (op : ByteArray) {w : World} (hg : GlobAt w) (ht : PowAt w) : Calls Tryz.prog 45 #[.string op, .iface 80 (.int .i64 100)] w fun e w' => ∃ v, e = .returned v ∧ ErrV w.heap.size w' op ⟨#[]⟩ 100 v ∧ Below w.heap.size w w' := by
  obtain ⟨w1, hw1⟩ : ∃ w1, w1 = w.alloc (.cells #[.int .i64 0] 80) := ⟨_, rfl⟩
  have hb1 : Below w.heap.size w w1 := by rw [hw1]; exact (Below.refl _ w).alloc (Nat.le_refl _) _
  have hB1 : Blk w1 w.heap.size 80 #[.int .i64 0] := by rw [hw1]; exact Blk.new _ _ _
  have h2w : 2 ≤ w.heap.size := by
    unfold PowAt at ht
    rcases Nat.lt_or_ge 1 w.heap.size with h | h
    · exact h
    · rw [Array.getElem?_eq_none h] at ht; cases ht
  have hA := as_chain ((hb1.cell (World.block_lt_of_cell? w _ hg)).trans hg) (powBelow ht hb1) hB1 h2w
  have HW1 := Lib.hid hw1
  clear hw1 hB1
  go_enter Tryz.func45, Tryz.ntmps45
  go_wp2_with (rw [← HW1.out]; go_at_call 70; refine hA.mono ?_; rintro e w2 ⟨rfl, hc2, hf2⟩)
  go_ret
  have hb2 : Below w.heap.size w w2 := hb1.trans (hf2.below (B := w.heap.size) hb1.size (fun k hk => by have hk : k = w.heap.size := hk; omega))
  exact ⟨_, rfl, .inr ⟨by decide, _, rfl, hb2.size, heap_alloc_new _ _⟩, hb2.alloc hb2.size _⟩
end Go.Proofs.YtenfkghoolegfaaGreatDoor
set_option linter.unusedVariables false
namespace Go.Proofs.YtenfkghoolegfaaGreatDoor
open Go.ChangeShapes Go.WideShapes Go.ChangeAt Go.RowKit Go.Joins Go.Deep
section
variable {H : Type} {enc : TypeId × Value → H} {w : World} {base : Nat} {held : Bool}
/-- Numbers that came in. -/
theorem ints_in {fuel : Nat} {v : Value} {y : DataW H × List MemPlace} (h : DataW.trod enc Tryz.prog w base (fun _ => true) held fuel 48 [v] = some y) :
    ∃ (A : Option Addr) (c : Nat) (l : List Int), v = .slice A l.length c ∧ Reads w w.heap.size 1 A l.length (l.map (.int .i64)) ∧ ∀ v ∈ l, -9223372036854775808 ≤ v ∧ v ≤ 9223372036854775807 := by
  rcases open_ints Tryz.underlying48 Tryz.underlying3 (by kernel_rfl) h with ⟨hcs, _⟩ | ⟨x, l, c, zs, hcs, _, hl, hm, hz, _, hcell, hwz⟩
  · simp at hcs
    exact ⟨none, 0, [], hcs, Reads.none_, fun v hv => absurd hv (by simp)⟩
  · simp at hcs hz
    have hlt : (zs.take l).length = l := by rw [List.length_take]; omega
    refine ⟨some x, c, zs.take l, by rw [hcs, hlt], ⟨by simp, fun h0 => ?_⟩, fun v hv => ?_⟩
    · rw [hlt] at h0
      have c0 := hcell 0 (by omega)
      have hb := World.block_lt_of_cell? w _ c0
      refine ⟨x, rfl, by simpa [Addr.add] using hb, fun j u hu => ?_⟩
      rw [List.getElem?_map, List.getElem?_take] at hu
      by_cases hj : j < l
      · rw [if_pos hj] at hu
        rw [hcell j (by omega)]
        cases hzj : zs[j]? with
        | none => rw [hzj] at hu; cases hu
        | some z => rw [hzj] at hu; simpa [List.getD_eq_getElem?_getD, hzj] using hu
      · rw [if_neg hj] at hu; cases hu
    · have wf := hwz v (List.mem_of_mem_take hv)
      have e1 : IntKind.i64.min = -9223372036854775808 := rfl
      have e2 : IntKind.i64.max = 9223372036854775807 := rfl
      simp [Lit.wf] at wf
      omega
end
theorem pow_of {W : World} (h : laidMetH Tryz.prog laidL W) : PowAt W := by
  obtain ⟨_, t, fz, e⟩ := iv_of h 1 _ rfl
  unfold PowAt
  rw [e]
theorem pow_lt {W : World} (h : PowAt W) : 1 < W.heap.size := by
  rcases Nat.lt_or_ge 1 W.heap.size with h1 | h1
  · exact h1
  · unfold PowAt at h
    rw [Array.getElem?_eq_none (by omega)] at h
    cases h
theorem globBelow {w w1 : World} (h : GlobAt w) (hb : Below w.heap.size w w1) : GlobAt w1 := (hb.cell (World.block_lt_of_cell? w _ h)).trans h
end Go.Proofs.YtenfkghoolegfaaGreatDoor
set_option linter.unusedVariables false
namespace Go.Proofs.YtenfkghoolegfaaGreatDoor
open Go.RowKit
/-- Along one page more. -/
theorem walkT_step {t : PT} (ok : t.OK) {p : Nat} {ps : List Nat} {v : List UInt8} (h : LaidC t.lsn t.over (p :: ps) v) (hp : p < t.pages) (g left : Nat) (hl : left ≠ 0) :
    walkT t (g + 1) p left = if (v.take 238).length ≠ min 238 left ∨ ¬ (ps.headD 0 = 0 ↔ left - min 238 left = 0) then .error 100 else match walkT t g (ps.headD 0) (left - min 238 left) with
      | .error e => .error e
      | .ok r => .ok (p :: r.1, v.take 238 ++ r.2) := by
  obtain ⟨h1, h2, h3, hlk, h5⟩ := h
  have hvl := List.length_pos_iff.2 h1
  have hdl : 1 ≤ (v.take 238).length ∧ (v.take 238).length ≤ 238 := by rw [List.length_take]; omega
  have hnx : ps.headD 0 < 4294967296 := by
    cases ps with
    | nil => decide
    | cons q r => have := (LaidC.two h5 q (by simp)).2; show q < _; omega
  have hg := (get_putND (overPg_put (lsn := t.lsn) (next := ps.headD 0) (d := v.take 238) hdl) (overPg_fit ok.lsn hnx)).1
  have hnT : nodeT t p = .ok (overPg t.lsn (ps.headD 0) (v.take 238)) := by
    unfold nodeT pageT
    rw [if_neg (by omega), hlk]
    exact hg
  show (if left = 0 then _ else _) = _
  rw [if_neg hl, hnT]
  simp only
  by_cases hc : (v.take 238).length ≠ min 238 left ∨ ¬ (ps.headD 0 = 0 ↔ left - min 238 left = 0)
  · rw [if_pos hc, if_pos (.inr hc)]
  · rw [if_neg hc, if_neg (by rintro (h1 | h1); exact h1 rfl; exact hc h1)]
    rfl
set_option maxHeartbeats 4000000 in
set_option maxRecDepth 1000000 in
theorem Read_err {X : Nat → Prop} {w : World} {T M : Nat} {t : PT} (h : TX X w T M t) (hX : ∀ k, X k → k < w.heap.size) (ok : t.OK) (hg : GlobAt w) (htab : PowAt w) (h1w : 1 < w.heap.size) {ps : List Nat} {v : List UInt8} (hc : ChainAt t ps v) (p0 : Nat) (hp0 : ps.headD 0 = p0) (s : Nat) (hs : 1 ≤ s ∧ s ≤ 1000)
    (hw : walkT t 5 p0 s = .error 100) :
    Calls Tryz.prog 14 #[.pointer (some ⟨T, 0, none⟩), .int .u32 (p0 : Nat), .int .i64 s] w fun e w' => ∃ v, e = .returned (.tuple #[.slice none 0 0, v]) ∧ ErrV w.heap.size w' ⟨#[114, 101, 97, 100]⟩ ⟨#[]⟩ 100 v ∧ Below w.heap.size w w' := by
  obtain ⟨w1, hw1⟩ : ∃ w1, w1 = w.alloc (.cells #[.slice none 0 0] 23) := ⟨_, rfl⟩
  have hb1 : Below w.heap.size w w1 := by rw [hw1]; exact (Below.refl _ w).alloc (Nat.le_refl _) _
  have hB1 : Blk w1 w.heap.size 23 #[.slice none 0 0] := by rw [hw1]; exact Blk.new _ _ _
  have hv0 : BoxRow w.heap.size w.heap.size 23 5 fBytes [] w1 ∧ (fBytes []).length ≤ 238 * ([] : List (Nat × List UInt8)).length := ⟨⟨Nat.le_refl _, none, 0, hB1, ⟨rfl, .inl ⟨rfl, rfl⟩⟩⟩, Nat.le_refl _⟩
  have hW := walk_laidM (B0 := w.heap.size) (h.keep (KeepX.of_below hb1)) ok (powBelow htab hb1) (read_visit w.heap.size w.heap.size) hv0 hb1.size hX h1w ps v hc.laid hc.ne hc.lt hc.len p0 hp0 s hs
  rw [hw] at hW
  have hF := fun W (hW : Below w.heap.size w W) => cfault_chain ⟨#[114, 101, 97, 100]⟩ ((hW.cell (World.block_lt_of_cell? w _ hg)).trans hg) (powBelow htab hW)
  have HW := Lib.hid hW
  have HW1 := Lib.hid hw1
  clear hW hw1 h hX hc hv0 hB1 hw
  go_enter Tryz.func14, Tryz.ntmps14
  go_wp2_with (first
    | (rw [← HW1.out]; go_at_call 47; refine HW.out.mono ?_; rintro e w2 ⟨⟨rfl, vis, _⟩, hb2⟩; have hb12 := hb1.trans hb2; have hFF := hF w2 hb12)
    | (go_at_call 45; refine hFF.mono ?_; rintro e w3 ⟨u, rfl, hu, hb3⟩))
  go_ret2
  exact ⟨u, rfl, hu.lo hb12.size, hb12.trans (hb3.mono hb12.size)⟩
set_option maxHeartbeats 4000000 in
set_option maxRecDepth 1000000 in
theorem same_any {B1 B2 : Nat} {A1 A2 : Option Addr} (c1 c2 : Nat) (a b : List Nat) (w : World) (h1 : Reads w B1 1 A1 a.length (ul a)) (h2 : Reads w B2 1 A2 b.length (ul b)) (ha : a.length ≤ 1000000) :
    Calls Tryz.prog 34 #[.slice A1 a.length c1, .slice A2 b.length c2] w fun e w' => e = .returned (.bool (decide (a = b))) ∧ ∃ q, w' = w.drewN q := by
  by_cases hl : a.length = b.length
  · have z1 : ((a.length : Int) != (b.length : Int)) = false := by rw [hl]; simp
    have HL := Lib.hid hl
    clear hl
    go_enter Tryz.func34, Tryz.ntmps34
    go_wp2
    go_loopw [5] (fun i wr => ∃ k : Nat, k ≤ a.length ∧ i = .int .i64 k ∧ a.take k = b.take k ∧ ∃ q, wr = w.drewN q) (fun i _ => a.length - (intOf i).toNat)
    case atStart => exact ⟨0, Nat.zero_le _, rfl, rfl, 0, rfl⟩
    case round =>
      obtain ⟨k, hk, rfl, ht, q, hw⟩ := hrel
      have HW := Lib.hid hw
      by_cases hlt : k < a.length
      · have d1 : decide (k < a.length) = true := decide_eq_true hlt
        obtain ⟨x, hx⟩ : ∃ x, a[k]? = some x := ⟨_, List.getElem?_eq_getElem hlt⟩
        obtain ⟨y, hy⟩ : ∃ y, b[k]? = some y := ⟨_, List.getElem?_eq_getElem (by rw [← HL.out]; exact hlt)⟩
        obtain ⟨ad1, rfl, _, hc1⟩ := h1.2 (by omega)
        obtain ⟨ad2, rfl, _, hc2⟩ := h2.2 (by rw [← HL.out]; omega)
        have k1 : wr.cell? (ad1.add k) = some (.int .u32 (x : Nat)) := by rw [HW.out]; exact hc1 k _ (by unfold ul; rw [List.getElem?_map, hx]; rfl)
        have k2 : wr.cell? (ad2.add k) = some (.int .u32 (y : Nat)) := by rw [HW.out]; exact hc2 k _ (by unfold ul; rw [List.getElem?_map, hy]; rfl)
        have q1 : (k : Int) < (a.length : Int) := by omega
        have q2 : (k : Int) < (b.length : Int) := by rw [← HL.out]; omega
        have q3 : k < b.length := by rw [← HL.out]; omega
        have q0 : (0 : Int) ≤ (k : Int) := by omega
        have HX := Lib.hid (And.intro hx hy)
        clear hx hy hc1 hc2 hw
        by_cases hxy : x = y
        · have z2 : ((x : Int) != (y : Int)) = false := by rw [hxy]; simp
          have HXY := Lib.hid hxy
          clear hxy
          go_wp2
          go_quiet (fail)
          go_wp2
          go_roundw
          case rel => exact ⟨k + 1, by omega, by go_num, by rw [List.take_add_one, List.take_add_one, ht, HX.out.1, HX.out.2, HXY.out], q + nq, by rw [HW.out, World.drewN_drewN]⟩
          case measure => simp [intOf]; omega
        · have z2 : ((x : Int) != (y : Int)) = true := bne_iff_ne.2 (by omega)
          have HXY := Lib.hid hxy
          clear hxy
          go_wp2
          go_quiet (fail)
          go_wp2
          go_ret
          refine ⟨retB ?_, q + nq, by rw [HW.out, World.drewN_drewN]⟩
          symm
          refine decide_eq_false (fun e => HXY.out ?_)
          have := HX.out.1
          rw [e, HX.out.2] at this
          exact (Option.some.inj this).symm
      · have d1 : decide (k < a.length) = false := decide_eq_false hlt
        go_wp2
        go_ret
        refine ⟨retB ?_, q, by first | exact HW.out | rfl⟩
        symm
        refine decide_eq_true ?_
        rw [List.take_of_length_le (by omega), List.take_of_length_le (by rw [← HL.out]; omega)] at ht
        exact ht
  · have z1 : ((a.length : Int) != (b.length : Int)) = true := bne_iff_ne.2 (by omega)
    have HL := Lib.hid hl
    clear hl
    go_enter Tryz.func34, Tryz.ntmps34
    go_wp2
    go_ret
    exact ⟨retB (by symm; exact decide_eq_false (fun e => HL.out (by rw [e]))), 0, rfl⟩
end Go.Proofs.YtenfkghoolegfaaGreatDoor
