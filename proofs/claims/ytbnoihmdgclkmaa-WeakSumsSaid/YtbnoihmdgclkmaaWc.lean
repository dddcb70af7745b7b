/- weak.All: the slice of all windows' sums. -/
import Derived.Test.YtbnoihmdgclkmaaWb
namespace Go.Proofs.Ytbnoihmdgclkmaa
open Go.RowKit Go.Shelf
attribute [local go_sem] Oper.semAt_some

theorem Try.info5 : (Try.prog.info? 5).map (fun i => (i.zero, i.size, i.bytes)) = some (some (.int .u8 0), 1, 1) := by kernel_rfl
theorem Try.info24 : (Try.prog.info? 24).map (fun i => (i.zero, i.size, i.bytes)) = some (some (.int .u32 0), 1, 4) := by kernel_rfl

set_option maxHeartbeats 1000000 in
theorem windows_any (A : Option Addr) (len c : Nat) (n : Int) (w : World) :
    Calls Try.prog 17 #[.slice A len c, .int .i64 n] w fun e w' => e = .returned (.func (.func 18) #[] #[.pointer (some ⟨w.heap.size, 0, none⟩), .pointer (some ⟨w.heap.size + 1, 0, none⟩)]) ∧
      w' = (w.alloc (.cells #[.slice A len c] 22)).alloc (.cells #[.int .i64 n] 3) := by
  go_enter Try.func17, Try.ntmps17
  go_wp2
  go_ret
  exact ⟨rfl, rfl⟩

/-- What All hands back: a slice of the call's own that holds the sums. -/
def AllGives (w : World) (xs : List Int) (e : Ending) (W' : World) : Prop :=
  ∃ v, e = .returned v ∧ W'.ownsRow w.heap.size 24 1 v xs.length (xs.map (Value.int .u32)) ∧ Below w.heap.size w W'

set_option maxHeartbeats 1000000 in
theorem All_none (A : Option Addr) (len c : Nat) (n : Int) (w : World) (h : n < 1 ∨ (len : Int) < n) : 
    Calls Try.prog 12 #[.slice A len c, .int .i64 n] w (AllGives w []) := by
  by_cases h1 : n < 1
  · go_enter Try.func12, Try.ntmps12
    go_wp2
    go_ret
    exact ⟨_, rfl, World.ownsRow_nil _ _ _ _, Below.refl _ _⟩
  · have h2 : (len : Int) < n := by omega
    go_enter Try.func12, Try.ntmps12
    go_wp2
    go_ret
    exact ⟨_, rfl, World.ownsRow_nil _ _ _ _, Below.refl _ _⟩

theorem appended_other {W w1 : World} {n₀ B : Nat} {t e : TypeId} {size m : Nat} {v v' : Value} {xs : List Value} {tmp : Obj} (hv : Boxed W B t v) (hrow : W.ownsRow n₀ e size v m xs) (hgrow : (W.alloc tmp).grownBy w1 v.ownBlock)
    {k : Nat} {cs : Array Value} {t' : TypeId} {fz : Nat × Nat} (hk : W.heap[k]? = some (.cells cs t' fz)) (h1 : t' ≠ t) (h2 : t' ≠ e) : (w1.setCell ⟨B, 0, none⟩ v').heap[k]? = some (.cells cs t' fz) := by
  have hlt := (Array.getElem?_eq_some_iff.1 hk).1
  have hne : k ≠ B := by
    rintro rfl
    rw [show W.heap[k]? = _ from hv] at hk
    cases hk
    exact h1 rfl
  rw [Below.heap_setCell w1 ⟨B, 0, none⟩ v' k hne, hgrow.block k (by simp; omega) ?_, Below.heap_alloc _ _ _ hlt, hk]
  rcases hrow.2 with ⟨rfl, _⟩ | ⟨g, cap, cur, rfl, _, hg, _⟩
  · simp [Value.ownBlock]
  · intro e'
    have : k = g := by simpa [Value.ownBlock] using e'
    subst this
    rw [hg] at hk
    cases hk
    exact h2 rfl

theorem Kp_t {n₀ : Nat} {X Y Z : World} (h : Kp n₀ X Y) (k : Kp n₀ Y Z) : Kp n₀ X Z :=
  ⟨h.1.trans k.1, fun i cs t fz hi h1 h2 => k.2 i cs t fz (h.2 i cs t fz hi h1 h2) h1 h2⟩
theorem Kp_b {n₀ : Nat} {w : World} (hn : n₀ ≤ w.heap.size) (W : World) (l : Nat) (o o' : Obj) (hl : w.heap.size ≤ l) (h : W.heap[l]? = some o) (hc : o.isCells = false) (hw : o.isWalk = false) : Kp n₀ W (W.putObj l o') :=
  ⟨belowK_b hn W l o o' hl h hc hw, fun k cs t fz hk _ _ => by
    by_cases e : k = l
    · subst e; rw [h] at hk; cases hk; cases hc
    · exact (World.putObj_heap_other e).trans hk⟩

set_option maxRecDepth 100000 in
set_option maxHeartbeats 2000000 in
theorem All_some (A : Option Addr) (c n : Nat) (l : List Int) (w : World) (hn : 1 ≤ n) (hnl : n ≤ l.length) (hl : l.length ≤ c) (hc : c ≤ 9223372036854775807) (hby : Byt l) (hsm : l.length ≤ 1000000)
    (hr : Rd w w.heap.size A l) :
    Calls Try.prog 12 #[.slice A l.length c, .int .i64 n] w (AllGives w (winsTo l n (l.length - n + 1))) := by
  obtain ⟨i0, hi, hz0, hz1, hz2⟩ := info_parts Try.info24
  refine (callsIn_wide (n := 5)).1 ?_
  refine callsIn_of_wp_marks Try.func12 rfl trivial ?_ rfl
  simp only [Try.ntmps12, List.size_toArray, List.length_cons, List.length_nil, Nat.reduceAdd, Nat.reduceSub, Array.replicate_succ, Array.replicate_zero, List.push_toArray, List.append_toArray, List.nil_append, List.cons_append]
  have d1 : decide ((n : Int) < 1) = false := by simp; omega
  have d2 : decide (l.length < n) = false := by simp; omega
  gi_wp2_with fail
  refine ⟨trivial, callsIn_wide.2 ?_⟩
  refine (windows_any _ _ _ _ _).mono ?_
  rintro e w' ⟨rfl, rfl⟩
  clear d1 d2
  gi_wp2_with fail
  have bO := Boxed.new w 29 (.slice none 0 0)
  have bP := Boxed.new (w.alloc (.cells #[.slice none 0 0] 29)) 22 (.slice A l.length c)
  have bN := Boxed.new ((w.alloc (.cells #[.slice none 0 0] 29)).alloc (.cells #[.slice A l.length c] 22)) 3 (.int .i64 n)
  simp only [World.size_alloc] at bP bN
  have hB0 : Below w.heap.size w (((w.alloc (.cells #[.slice none 0 0] 29)).alloc (.cells #[.slice A l.length c] 22)).alloc (.cells #[.int .i64 n] 3)) := (((Below.refl _ w).alloc (Nat.le_refl _) _).alloc (by simp) _).alloc (by simp; omega) _
  have bO2 := (bO.alloc (.cells #[.slice A l.length c] 22)).alloc (.cells #[.int .i64 n] 3)
  have hsz0 : (((w.alloc (.cells #[.slice none 0 0] 29)).alloc (.cells #[.slice A l.length c] 22)).alloc (.cells #[.int .i64 n] 3)).heap.size = w.heap.size + 3 := by simp
  have bP2 := bP.alloc (.cells #[.int .i64 n] 3)
  refine wpIn_rangeFunc_T rfl (by omega) (gf := 18) (lb := #[.pointer (some ⟨w.heap.size + 1, 0, none⟩), .pointer (some ⟨w.heap.size + 2, 0, none⟩)]) rfl trivial (enters_of Try.func18 (by kernel_rfl) rfl)
    (windows1_T 4 (w.heap.size + 1) (w.heap.size + 2) w.heap.size A c n l _ hn hnl hl hc hby (hr.keep hB0) (by simp; omega) bP2 bN) (fun h => h.2.1)
    (Kp_t (n₀ := w.heap.size)) (Kp_b (by simp; omega)) (Below.refl _ _) (fun _ => rfl)
    (fun pre W => (∃ v, Boxed W w.heap.size 29 v ∧ W.ownsRow w.heap.size 24 1 v pre.length (pre.map (Value.int .u32)) ∧ True) ∧ Below w.heap.size w W)
    (fun _ _ _ => False)
    (OwnFrom.and (Own.from (holdsRow_own w.heap.size w.heap.size 29 24 1 (fun pre : List Int => pre.length) (fun pre => pre.map (Value.int .u32)) (fun _ _ => True)) _) (ownFrom_below (Nat.le_refl _) (by simp; omega)))
    (fun _ _ _ _ _ hs _ _ => hs)
    ?hIr (fun _ _ _ _ hs _ => hs)
    ⟨⟨_, bO2, World.ownsRow_nil _ _ _ _, trivial⟩, hB0⟩
    ?a1 ?assign ?body ?done ?stop
  case assign =>
    intro l x W K hK
    gi_wp2
    exact hK
  case hIr =>
    rintro pre X Y ⟨⟨v, hv, hrow, _⟩, hB⟩ ⟨hb, _, hk⟩
    refine ⟨⟨v, hk _ _ _ _ hv (by decide), ?_, trivial⟩, hB.trans (hb.mono (by simp; omega))⟩
    rcases hrow.2 with h | ⟨g, cap, cur, rfl, hbg, hgg, rest⟩
    · exact ⟨hrow.1, .inl h⟩
    · exact ⟨hrow.1, .inr ⟨g, cap, cur, rfl, hbg, hk _ _ _ _ hgg (by decide), rest⟩⟩
  case body =>
    rintro lo pre x W ⟨⟨v, hv, hrow, _⟩, hB⟩ hlt
    have hc := hv.cell
    gi_wp2_with (gi_at_builtin; refine wpListIn_append_own _ rfl _ _ 29 rfl w.heap.size 24 i0 (.int .u32 0) 1 4 Try.underlying29 hi hz0 hz1 hz2 rfl (by decide) _ _ _ rfl (hrow.alloc _) ⟨W.heap.size, 0, none⟩ 1 1 [.int .u32 x] rfl rfl (cell_one_new _ _ _) (by simp [Value.oneCell']) (by unfold maxLen; omega) (by omega) (by have := hB.size; simp; omega) ?_; intro v' w1 hown' hgrow _; obtain ⟨g', cap', rfl⟩ := ownsRow_succ hown'; obtain ⟨hv1, hv2, hr2, hk2, hb2⟩ := hv.appended (by decide) hrow hB.size (Nat.le_refl _) hown' hgrow; have hc1 := hv1.cell; have hf1 := hv1.frozen)
    refine ⟨hk2, ⟨hb2, ?_⟩, ⟨_, hv2, by simpa using hr2, trivial⟩, hB.trans hb2⟩
    exact fun k cs t fz hk h1 h2 => appended_other hv hrow hgrow hk h1 h2
  case done =>
    rintro D ys W hD rfl ⟨⟨v, hv, hrow, _⟩, hB⟩ hK
    have hc := hv.cell
    gi_wp2
    refine ⟨by simp, .inl ⟨_, _, rfl, run_takeDeferred hK, ?_⟩⟩
    exact ⟨_, results_tmp rfl _ _ _, v, rfl, ownsRow_putObj hrow _ hK rfl, hB.trans (belowK_b (w := w) (Nat.le_refl _) W D _ _ (by simp at hD; omega) hK rfl rfl)⟩
  case stop =>
    rintro D c pre W _ _ h _
    exact h.elim

theorem Rd.win {w : World} {B : Nat} {A : Option Addr} {l : List Int} (h : Rd w B A l) (i n : Nat) (hi : i + n ≤ l.length) (hn : 0 < n) : Rd w B (A.map (fun x => x.add i)) ((l.drop i).take n) := fun hp => by
  obtain ⟨ad, rfl, hB, hcell⟩ := h (by omega)
  refine ⟨ad.add i, rfl, by rw [add_block]; exact hB, fun j hj => ?_⟩
  simp only [List.length_take, List.length_drop] at hj
  rw [add_add', hcell _ (by omega), List.getElem?_take, if_pos (by omega), List.getElem?_drop]

theorem refSum_len (m : Nat) (A : Option Addr) (c : Nat) (l : List Int) (w : World) (hm : l.length = m) (hr : Rd w w.heap.size A l) (hby : Byt l) (hl : m ≤ 600) :
    Calls Try.prog 9 #[.slice A m c] w fun e w' => e = .returned (.int .u32 (wk l)) ∧ w = w' := by
  subst hm; exact (refSum_any A c l w hr hby hl).mono fun e w' h => ⟨h.1, h.2.symm⟩
theorem Sum_len (m : Nat) (A : Option Addr) (c : Nat) (l : List Int) (w : World) (hm : l.length = m) (hr : Rd w w.heap.size A l) (hby : Byt l) (hl : m ≤ 9223372036854775807) :
    Calls Try.prog 8 #[.slice A m c] w fun e w' => e = .returned (.int .u32 (wk l)) ∧ Below w.heap.size w w' := by
  subst hm; exact Sum_any A c l w hr hby hl

set_option maxHeartbeats 1000000 in
theorem refAll_none (A : Option Addr) (len c : Nat) (n : Int) (w : World) (h : n < 1 ∨ (len : Int) < n) :
    Calls Try.prog 13 #[.slice A len c, .int .i64 n] w (AllGives w []) := by
  by_cases h1 : n < 1
  · go_enter Try.func13, Try.ntmps13
    go_wp2
    go_ret
    exact ⟨_, rfl, World.ownsRow_nil _ _ _ _, Below.refl _ _⟩
  · have h2 : (len : Int) < n := by omega
    go_enter Try.func13, Try.ntmps13
    go_wp2
    go_ret
    exact ⟨_, rfl, World.ownsRow_nil _ _ _ _, Below.refl _ _⟩

set_option maxHeartbeats 1000000 in
theorem refAll_some (A : Option Addr) (c n : Nat) (l : List Int) (w : World) (hn : 1 ≤ n) (hnl : n ≤ l.length) (hl : l.length ≤ c) (hc : c ≤ 9223372036854775807) (hby : Byt l) (hsm : l.length ≤ 600)
    (hr : Rd w w.heap.size A l) :
    Calls Try.prog 13 #[.slice A l.length c, .int .i64 n] w (AllGives w (winsTo l n (l.length - n + 1))) := by
  obtain ⟨i0, hi, hz0, hz1, hz2⟩ := info_parts Try.info24
  have d1 : decide ((n : Int) < 1) = false := by simp; omega
  have d2 : decide (l.length < n) = false := by simp; omega
  go_enter Try.func13, Try.ntmps13
  go_wp2_with fail
  go_loopw [5, 6] (fun v i wr => ∃ k : Nat, k ≤ l.length - n + 1 ∧ i = .int .i64 k ∧ wr.ownsRow w.heap.size 24 1 v k ((winsTo l n k).map (Value.int .u32)) ∧ Below w.heap.size w wr)
    (fun _ i _ => l.length - n + 1 - (intOf i).toNat)
  case atStart => exact ⟨0, Nat.zero_le _, rfl, World.ownsRow_nil _ _ _ _, Below.refl _ _⟩
  case round =>
    obtain ⟨k, hk, rfl, hown, hB⟩ := hrel
    clear d1 d2
    by_cases hlt : k < l.length - n + 1
    · have HL := Lib.hid (show ((l.drop k).take n).length = n by simp; omega)
      have hsz := hB.size
      go_wp2_with fail
      refine (refSum_len n _ _ ((l.drop k).take n) _ HL.out (((hr.keep hB).more hsz).win k n (by omega) (by omega)) (take_drop_bd hby k n) (by omega)).mono ?_
      rintro e w1 ⟨rfl, rfl⟩
      have hbd := wk_bd ((l.drop k).take n)
      have HW := Lib.hid (winsTo_succ l n k)
      generalize wk ((l.drop k).take n) = x at hbd HW
      go_wp2_with (at_builtin; refine wpList_append_own _ rfl _ _ 29 rfl w.heap.size 24 i0 (.int .u32 0) 1 4 Try.underlying29 hi hz0 hz1 hz2 rfl (by decide) _ _ _ rfl (hown.alloc _) ⟨wr.heap.size, 0, none⟩ 1 1 [.int .u32 x] rfl rfl (cell_one_new _ _ _) (by simp [Value.oneCell']) (by unfold maxLen; omega) (by omega) (by simp; omega) ?_; intro v' w1 hown' hgrow _)
      go_roundw
      case rel =>
        refine ⟨k + 1, by omega, by go_num, by rw [HW.out, List.map_append]; exact hown', ?_⟩
        exact (hB.alloc hsz _).grown hgrow (by simp; omega) (fun j ej => (hown.lt j ej).1)
      case measure => simp [intOf]; omega
    · obtain rfl : k = l.length - n + 1 := by omega
      go_wp2_with fail
      go_ret
      exact ⟨_, rfl, by rw [winsTo_length]; exact hown, hB⟩
end Go.Proofs.Ytbnoihmdgclkmaa
