/- The iterator of package weak: what it hands on, window by window. -/
import Derived.Test.YtbnoihmdgclkmaaWa
import Derived.Test.YtbnoihmdgclkmaaRf
import Derived.Shelf.Abstract
import Derived.Shelf.RegionOpen
import Derived.OwnWalkIn
import Derived.TacticsInMore
import Derived.LoopNIn
import Derived.LoopIn
import Derived.Maps.AppendAt
import Derived.StillTailTactics
namespace Go.Proofs.Ytbnoihmdgclkmaa
open Go.RowKit Go.Shelf
attribute [local go_sem] Oper.semAt_some

/-- The windows' sums: the first k of them. -/
def winsTo (l : List Int) (n k : Nat) : List Int := (List.range k).map fun i => wk ((l.drop i).take n)
theorem winsTo_succ (l : List Int) (n k : Nat) : winsTo l n (k + 1) = winsTo l n k ++ [wk ((l.drop k).take n)] := by
  unfold winsTo; rw [List.range_succ, List.map_append]; rfl
theorem winsTo_length (l : List Int) (n k : Nat) : (winsTo l n k).length = k := by simp [winsTo]

/-- What a round keeps for the iterator: what lay below n₀, and every block but those of the caller's slice and its box. -/
def Kp (n₀ : Nat) (W W' : World) : Prop := Below n₀ W W' ∧ ∀ (k : Nat) (cs : Array Value) (t : TypeId) (fz : Nat × Nat), W.heap[k]? = some (.cells cs t fz) → t ≠ 29 → t ≠ 24 → W'.heap[k]? = some (.cells cs t fz)
/-- A step of the iterator's own: it turns no block but one of its own state's type, laid since. -/
def Rt (B : Nat) (W W' : World) : Prop := Below B W W' ∧ KeepsOthers W W' ∧ ∀ (k : Nat) (cs : Array Value) (t : TypeId) (fz : Nat × Nat), W.heap[k]? = some (.cells cs t fz) → t ≠ 35 → W'.heap[k]? = some (.cells cs t fz)

theorem Rt.of_below {B : Nat} {W W' : World} (hB : B ≤ W.heap.size) (h : Below W.heap.size W W') : Rt B W W' :=
  ⟨h.mono hB, ⟨h.size, fun _ _ hk _ => below_keeps h hk⟩, fun _ _ _ _ hk _ => below_keeps h hk⟩
theorem Rt.trans {B : Nat} {X Y Z : World} (h : Rt B X Y) (k : Rt B Y Z) : Rt B X Z :=
  ⟨h.1.trans k.1, h.2.1.trans k.2.1, fun i cs t fz hi ht => k.2.2 i cs t fz (h.2.2 i cs t fz hi ht) ht⟩
theorem Rt.set {B : Nat} {W : World} {g : Nat} {cs : Array Value} {fz : Nat × Nat} (hB : B ≤ g) (hg : W.heap[g]? = some (.cells cs 35 fz)) (i : Nat) (v : Value) : Rt B W (W.setCell ⟨g, i, none⟩ v) :=
  ⟨(Below.refl _ _).setCell hB _, KeepsOthers.setCell _ _ _, fun k cs' t fz' hk ht => by
    by_cases e : k = g
    · subst e; rw [hg] at hk; cases hk; exact absurd rfl ht
    · exact (Below.heap_setCell W ⟨g, i, none⟩ v k e).trans hk⟩

theorem take_win (l : List Int) (n k : Nat) (h : k + n < l.length) (hn : 0 < n) :
    ∃ c x t, (l.drop k).take n = c :: t ∧ (l.drop (k + 1)).take n = t ++ [x] ∧ c = l[k]?.getD 0 ∧ x = l[n + k]?.getD 0 ∧ (c :: t).length = n := by
  rw [Nat.add_comm n k]
  refine ⟨l[k]?.getD 0, l[k + n]?.getD 0, (l.drop (k + 1)).take (n - 1), ?_, ?_, rfl, rfl, ?_⟩
  · obtain ⟨m, rfl⟩ : ∃ m, n = m + 1 := ⟨n - 1, by omega⟩
    rw [List.drop_eq_getElem_cons (show k < l.length by omega), List.take_succ_cons]
    simp [show k < l.length by omega]
  · obtain ⟨m, rfl⟩ : ∃ m, n = m + 1 := ⟨n - 1, by omega⟩
    rw [List.take_succ_eq_append_getElem (by simp; omega)]
    simp [show k + (m + 1) < l.length by omega, show k + 1 + m = k + (m + 1) by omega]
  · simp; omega

theorem take_drop_bd {l : List Int} (h : Byt l) (i n : Nat) : Byt ((l.drop i).take n) := fun j => by
  rw [List.getElem?_take, List.getElem?_drop]
  split
  · exact h _
  · simp

theorem Boxed.keep {W W' : World} {b : Nat} {t : TypeId} {v : Value} (h : Boxed W b t v) (hb : Below W.heap.size W W') : Boxed W' b t v := below_keeps hb h

theorem call_wide {m k : Nat} {P : Program} {f : FuncId} {args : Array Value} {w : World} {R : Ending → World → Prop} (h : Calls P f args w R) :
    Fence.wide.fn f ∧ (Fence.wide.depth.isSome = true → 1 ≤ m) ∧ CallsIn Fence.wide k P f args w R :=
  ⟨trivial, fun h => (by cases h), callsIn_wide.2 h⟩

/-- A region that draws its order, reads first and ends in a forced tail: the world behind the draw under a name. -/
theorem still_tail {P : Program} {id : Nat} {l : List Oper} {Q : Exit → Act → World → Prop} {a : Act} {w : World} (n : Nat) (hm : P.follows .mixedOrders = true) (hlex : Region.lexTailB .any l.toArray n = true)
    (h : ∀ w2 : World, Below w.heap.size w w2 → w2.heap = w.heap → (∀ p, w2.cell? p = w.cell? p) → (∀ p, w2.frozen? p = w.frozen? p) →
      wpStill P l.toArray w2 (fun a' => wpList P l.toArray Q (l.drop n) a' w2) (l.take n) a) : (Code.region id l.toArray true).wp P Q a w :=
  wp_region_still_tail n hm hlex (h w.drew (Below.refl _ _).drew rfl (fun _ => rfl) (fun _ => rfl))

set_option maxRecDepth 100000 in
set_option maxHeartbeats 1000000 in
theorem windows1_T (m bp bn n₀ : Nat) (A : Option Addr) (c n : Nat) (l : List Int) (w : World) (hn : 1 ≤ n) (hnl : n ≤ l.length) (hl : l.length ≤ c) (hc : c ≤ 9223372036854775807) (hby : Byt l)
    (hr : Rd w n₀ A l) (hn₀ : n₀ ≤ w.heap.size) (hbp : Boxed w bp 22 (.slice A l.length c)) (hbn : Boxed w bn 3 (.int .i64 n)) :
    SeqT Fence.wide m Try.prog 18 #[.pointer (some ⟨bp, 0, none⟩), .pointer (some ⟨bn, 0, none⟩)] (fun x : Int => #[Value.int .u32 x]) (Kp n₀) (Rt w.heap.size)
      (fun xs => xs = winsTo l n (l.length - n + 1)) (fun _ => True) (l.length - n + 1) w := by
  intro lo J Jx W hW hJ hJx hY h0
  refine callsIn_of_wp Try.func18 rfl trivial ?_ rfl
  simp only [Try.ntmps18, List.size_toArray, List.length_cons, List.length_nil, Nat.reduceAdd, Nat.reduceSub, Array.replicate_succ, Array.replicate_zero, List.push_toArray, List.append_toArray, List.nil_append, List.cons_append]
  have bP : Boxed W bp 22 (.slice A l.length c) := below_keeps hW hbp
  have bN : Boxed W bn 3 (.int .i64 n) := below_keeps hW hbn
  have cP := bP.cell
  have cN := bN.cell
  have hWs := hW.size
  have r0 : Rd W W.heap.size A (l.take n) := fun hp => by
    obtain ⟨ad, e, hB, hc⟩ := hr (by omega)
    refine ⟨ad, e, by omega, fun i hi => ?_⟩
    simp only [List.length_take] at hi
    rw [hW.cell (by rw [add_block]; omega), hc i (by omega), List.getElem?_take, if_pos (by omega)]
  have hl0 : (l.take n).length = n := by simp; omega
  gi_wp2_with fail
  refine call_wide ?_
  rw [← hl0]
  refine (Sum_any A c (l.take n) W r0 (by simpa using take_drop_bd hby 0 n) (by omega)).mono ?_
  rintro e w1 ⟨rfl, hb1⟩
  have wb := wk_bd (l.take n)
  gi_wp2_with fail
  refine call_wide ?_
  refine (of_any _ _ wb.1 wb.2).mono ?_
  rintro e w2 ⟨rfl, hb2⟩
  rw [wk_a, wk_b]
  have b2 : Below W.heap.size W w2 := hb1.trans (hb2.mono hb1.size)
  have bP2 : Boxed w2 bp 22 (.slice A l.length c) := Boxed.keep bP b2
  have bN2 : Boxed w2 bn 3 (.int .i64 n) := Boxed.keep bN b2
  have J2 : J [] w2 := hJ _ _ _ h0 (Rt.of_below hWs b2)
  have hz2 : W.heap.size ≤ w2.heap.size := b2.size
  have R2 : Rd w2 n₀ A l := (hr.keep (hW.mono hn₀)).keep (b2.mono (by omega))
  have cN2 := bN2.cell
  have ltN2 := bN2.lt
  clear hl0 wb b2 hb1 hb2 r0 cP cN bP bN hbp hbn hW hr h0
  gi_wp2_with fail
  gi_loopw [5] (fun i wr => ∃ k : Nat, n + k ≤ l.length ∧ i = .int .i64 (n + k : Nat) ∧ wr.heap[w2.heap.size]? = some (.cells #[.int .u16 (((l.drop k).take n).sum % 65536), .int .u16 (bsum ((l.drop k).take n) % 65536)] 35 (0, 0)) ∧ Boxed wr bp 22 (.slice A l.length c) ∧ Boxed wr bn 3 (.int .i64 n) ∧ Rd wr n₀ A l ∧ J (winsTo l n k) wr ∧ w.heap.size ≤ wr.heap.size)
    (fun i _ => l.length - (intOf i).toNat)
  case atStart =>
    refine ⟨0, by omega, rfl, heap_alloc_new _ _, bP2.alloc _, bN2.alloc _, R2.keep ((Below.refl _ _).alloc (by omega) _), hJ _ _ _ J2 (Rt.of_below (by omega) ((Below.refl _ _).alloc (Nat.le_refl _) _)), by simp; omega⟩
  case round =>
    obtain ⟨k, hk, rfl, hs, bP, bN, hr, hj, hsz⟩ := hrel
    have cS0 : wr.cell? ⟨w2.heap.size, 0, none⟩ = some (.int .u16 (((l.drop k).take n).sum % 65536)) := by rw [cell_of_row _ _ _ _ _ _ hs]; rfl
    have cS1 : wr.cell? ⟨w2.heap.size, 1, none⟩ = some (.int .u16 (bsum ((l.drop k).take n) % 65536)) := by rw [cell_of_row _ _ _ _ _ _ hs]; rfl
    have HS := Lib.hid hs
    clear hs
    gi_wp2_with fail
    refine call_wide ?_
    refine (whole_any _ _ _ (by omega) (by omega) (by omega) (by omega)).mono ?_
    rintro e w3 ⟨rfl, hb3⟩
    have hj3 : J (winsTo l n k) w3 := hJ _ _ _ hj (Rt.of_below hsz hb3)
    obtain ⟨fn, tmps, assign, body, hy, hR⟩ := hY (winsTo l n k) (((l.drop k).take n).sum % 65536 + 65536 * (bsum ((l.drop k).take n) % 65536)) w3 hj3 (by rw [winsTo_length]; omega)
    gi_wp2_with fail
    refine ⟨fun h => (by cases h), hR.mono ?_⟩
    clear hR hy
    rintro e W3 (⟨rfl, hJ3, hk3⟩ | ⟨rfl, hJx3⟩)
    · have bP3 : Boxed W3 bp 22 (.slice A l.length c) := hk3.2 _ _ _ _ (Boxed.keep bP hb3) (by decide) (by decide)
      have bN3 : Boxed W3 bn 3 (.int .i64 n) := hk3.2 _ _ _ _ (Boxed.keep bN hb3) (by decide) (by decide)
      have hs3 : W3.heap[w2.heap.size]? = _ := hk3.2 _ _ _ _ (below_keeps hb3 HS.out) (by decide) (by decide)
      have hr3 : Rd W3 n₀ A l := (hr.keep (hb3.mono (by omega))).keep hk3.1
      have hsz3 : w.heap.size ≤ W3.heap.size := by have := hb3.size; have := hk3.1.size; omega
      have cP3 := bP3.cell
      have cN3 := bN3.cell
      have cT0 : W3.cell? ⟨w2.heap.size, 0, none⟩ = some (.int .u16 (((l.drop k).take n).sum % 65536)) := by rw [cell_of_row _ _ _ _ _ _ hs3]; rfl
      have cT1 : W3.cell? ⟨w2.heap.size, 1, none⟩ = some (.int .u16 (bsum ((l.drop k).take n) % 65536)) := by rw [cell_of_row _ _ _ _ _ _ hs3]; rfl
      have hf0 : W3.frozen? ⟨w2.heap.size, 0, none⟩ = false := by simp [World.frozen?, hs3]
      have hf1 : W3.frozen? ⟨w2.heap.size, 1, none⟩ = false := by simp [World.frozen?, hs3]
      have HS3 := Lib.hid hs3
      clear hs3 cS0 cS1 HS hb3 hk3 hj hj3 hr bP bN
      by_cases hlt : n + k < l.length
      · obtain ⟨ad, rfl, hB, hcl⟩ := hr3 (by omega)
        have c1 := hcl k (by omega)
        have c2 := hcl (n + k) (by omega)
        have d1 := hby k
        have d2 := hby (n + k)
        obtain ⟨cc, x, t, e1, e2, e3, e4, e5⟩ := take_win l n k (by omega) (by omega)
        have HX := Lib.hid (And.intro e1 (And.intro e2 (And.intro e3 (And.intro e4 e5))))
        clear e1 e2 e3 e4 e5 hcl
        generalize l[k]?.getD 0 = y1 at c1 d1 HX
        generalize l[n + k]?.getD 0 = y2 at c2 d2 HX
        gi_wp2_with fail
        refine wpIn_wide.2 ?_
        refine still_tail 12 (by kernel_rfl) (by kernel_rfl) ?_
        intro w4 b4 he4 hc4 hf4
        simp only [List.take_succ_cons, List.take_zero, List.drop_succ_cons, List.drop_zero]
        have HE4 := Lib.hid he4
        clear he4
        have v1 : IntKind.i64.wrap ((n : Int) + k - n) = (k : Int) := by rw [show (n : Int) + k - n = k from by omega]; exact IntWalk.i64_in _ (by omega)
        have v2 : (0 : Int) ≤ k := by omega
        have v3 : (k : Int) < l.length := by omega
        have v4 : (0 : Int) ≤ n + k := by omega
        have v5 : (n : Int) + k < l.length := by omega
        have v6 : ((n : Int) + k).toNat = n + k := by omega
        repeat still_step
        refine wpStill_nil ?_
        go_wp2_with fail
        refine (roll_any _ _ _ _ _ _ (by omega) (by omega) (by omega) (by omega) d1.1 d1.2 d2.1 d2.2).mono ?_
        rintro e w5 ⟨rfl, hb5⟩
        have hs5 : w5.heap[w2.heap.size]? = _ := below_keeps hb5 (by rw [HE4.out]; exact HS3.out)
        have cU0 : w5.cell? ⟨w2.heap.size, 0, none⟩ = some (.int .u16 (((l.drop k).take n).sum % 65536)) := by rw [cell_of_row _ _ _ _ _ _ hs5]; rfl
        have cU1 : w5.cell? ⟨w2.heap.size, 1, none⟩ = some (.int .u16 (bsum ((l.drop k).take n) % 65536)) := by rw [cell_of_row _ _ _ _ _ _ hs5]; rfl
        have hg0 : w5.frozen? ⟨w2.heap.size, 0, none⟩ = false := by simp [World.frozen?, hs5]
        have hg1 : w5.frozen? ⟨w2.heap.size, 1, none⟩ = false := by simp [World.frozen?, hs5]
        have HS5 := Lib.hid hs5
        clear hs5 v1 v6 hc4 hf4
        go_wp2_with fail
        gi_wp2_with fail
        obtain ⟨e1, e2, rfl, rfl, e5⟩ := HX.out
        have hws : w.heap.size ≤ w2.heap.size := by omega
        have h45 : Below W3.heap.size W3 w5 := b4.trans (hb5.mono (by rw [HE4.out]; exact Nat.le_refl _))
        have q5 : Boxed w5 bp 22 (.slice (some ad) l.length c) := Boxed.keep bP3 h45
        have q6 : Boxed w5 bn 3 (.int .i64 n) := Boxed.keep bN3 h45
        have t1 := Rt.set hws HS5.out 0 (.int .u16 (rollA (((l.drop k).take n).sum % 65536) cc x))
        have t2 := Rt.set hws (blk_set HS5.out 0 (.int .u16 (rollA (((l.drop k).take n).sum % 65536) cc x))) 1 (.int .u16 (rollB (((l.drop k).take n).sum % 65536) (bsum ((l.drop k).take n) % 65536) cc x n))
        have t3 := t1.trans t2
        refine ⟨⟨k + 1, by omega, by go_num, ?_, t3.2.2 _ _ _ _ q5 (by decide), t3.2.2 _ _ _ _ q6 (by decide), (hr3.keep (h45.mono (by omega))).keep (t3.1.mono hn₀), hJ _ _ _ (by rw [winsTo_succ]; exact hJ3) ((Rt.of_below hsz3 h45).trans t3), by have := h45.size; have := t3.1.size; omega⟩, ?_⟩
        · rw [blk_set (blk_set HS5.out 0 _) 1 _, e2, e1, rollA_win, ← e5, rollB_win]
          rfl
        · simp [intOf]; omega
      · gi_wp2_with fail
        go_end0
        refine ⟨⟨_, rfl⟩, .inl ⟨_, rfl, ?_⟩⟩
        rw [show l.length - n + 1 = k + 1 by omega, winsTo_succ]
        exact hJ3
    · gi_wp2_with fail
      go_end0
      exact ⟨⟨_, rfl⟩, .inr ⟨_, trivial, hJx3⟩⟩
end Go.Proofs.Ytbnoihmdgclkmaa
