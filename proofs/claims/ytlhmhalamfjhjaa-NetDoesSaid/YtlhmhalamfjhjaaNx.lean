/- The document's List, walked. -/
import Derived.Test.YtlhmhalamfjhjaaNw
set_option linter.unusedVariables false
namespace Go.Proofs.Ytlhmhalamfjhjaa
open Go.RowKit
theorem do_any {B : Nat} {w : World} {a M mb : Nat} {nx : Int} {L : List Pk} (h : Both B w a M mb nx L) (hB : B ≤ w.heap.size) (d : Dd) (hr : RowI B w d.A d.c d.b) (hb : d.b.length ≤ 1000000) (hn : nx < 1000000) (hby : 0 ≤ d.by_ ∧ d.by_ < 256) :
    Calls Try.prog 10 #[.pointer (some ⟨a, 0, none⟩), .pointer (some ⟨mb, 0, none⟩), .agg d.box] w (DoesPost B w a M mb nx) := by
  by_cases k0 : d.kind = 0
  · exact do_send h hB d hr hb hn k0
  by_cases k1 : d.kind = 1
  · exact do_deliver h hB d hn k1
  by_cases k2 : d.kind = 2
  · exact do_drop h hB d hn k2
  by_cases k3 : d.kind = 3
  · exact do_double h hB d hn k3
  exact do_spoil h hB d hn hby ⟨k0, k1, k2, k3⟩
def Pk.item (p : Pk) : List Value := [.int .i64 p.id, .int .i64 p.to, .int .i64 p.b.length, .bool p.sp]
def items (L : List Pk) : List Value := L.flatMap Pk.item
theorem items_len (L : List Pk) : (items L).length = L.length * 4 := by
  induction L with
  | nil => rfl
  | cons x l ih =>
    have : items (x :: l) = x.item ++ items l := by simp [items]
    rw [this, List.length_append, ih, List.length_cons]
    simp [Pk.item]; omega
theorem items_take {L : List Pk} {k : Nat} {p : Pk} (h : L[k]? = some p) : items (L.take (k + 1)) = items (L.take k) ++ p.item := by
  rw [List.take_add_one, h]
  simp [items]
def Lists (w : World) (L : List Pk) (e : Ending) (w' : World) : Prop := ∃ A c, e = .returned (.slice A L.length c) ∧ w'.ownsRow w.heap.size 63 4 (.slice A L.length c) L.length (items L) ∧ Below w.heap.size w w'
def ListRel (w : World) (L : List Pk) (out i : Value) (wr : World) : Prop := ∃ k, k ≤ L.length ∧ i = .int .i64 k ∧ wr.ownsRow w.heap.size 63 4 out k (items (L.take k)) ∧ Below w.heap.size w wr
theorem below_otherN {w W W' : World} {e2 size n2 : Nat} {v2 : Value} {xs2 : List Value} (h : Below w.heap.size w W) (hg : W.grownBy W' v2.ownBlock) (h2 : W.ownsRow w.heap.size e2 size v2 n2 xs2) : Below w.heap.size w W' :=
  h.grown hg h.size (fun k e => by
    rcases h2.2 with ⟨rfl, _⟩ | ⟨g2, cap2, cur2, rfl, h3, _⟩
    · simp [Value.ownBlock] at e
    · simp [Value.ownBlock] at e
      omega)
theorem item_one {p : Pk} : ∀ u ∈ p.item, u.oneCell' = true := by
  intro u hu
  simp only [Pk.item, List.mem_cons, List.not_mem_nil, or_false] at hu
  rcases hu with rfl | rfl | rfl | rfl <;> rfl
theorem Try.info63 : (Try.prog.info? 63).map (fun i => (i.zero, i.size, i.bytes)) = some (some (.agg #[.int .i64 0, .int .i64 0, .int .i64 0, .bool false]), 4, 32) := by kernel_rfl
set_option maxHeartbeats 4000000 in
set_option maxRecDepth 100000 in
theorem RList {B : Nat} {w : World} {mb : Nat} {nx : Int} {L : List Pk} (h : RefP B w mb nx L) (hL : L.length ≤ 64) :
    Calls Try.prog 25 #[.pointer (some ⟨mb, 0, none⟩)] w (Lists w L) := by
  obtain ⟨i63, hi63, hz63, hz63', hz63''⟩ := info_parts Try.info63
  go_enter Try.func25, Try.ntmps25
  go_wp2
  go_loopw [3, 4] (fun out i wr => ListRel w L out i wr) (fun _ i _ => L.length - (intOf i).toNat)
  case atStart => exact ⟨0, Nat.zero_le _, rfl, World.ownsRow_nil _ _ _ _, Below.refl _ _⟩
  case round =>
    obtain ⟨k, hk, rfl, hown, hB⟩ := hrel
    obtain ⟨Ao, co, rfl⟩ := own_form_any hown
    have hP := h.below hB
    obtain ⟨l, hR, e⟩ := hP
    have hl := map_len e
    obtain ⟨A, c, hb, hr⟩ := hR.blk
    have c0 : wr.cell? ⟨mb, 0, none⟩ = some (.slice A l.length c) := hb.cell 0
    by_cases hlt : k < L.length
    · have d1 : decide (k < l.length) = true := by simp; omega
      obtain ⟨x, hx⟩ : ∃ x, l[k]? = some x := ⟨_, List.getElem?_eq_getElem (by omega)⟩
      obtain ⟨g, cur, rfl, hgB, hg, hcur⟩ := own4_form hr (by omega)
      obtain ⟨e0, e1, e2, e3⟩ := pk_cells (B := B) (c := c) hg hcur hx
      have i0 : (0 : Int) ≤ (k : Int) := by omega
      have i1 : (k : Int) < (l.length : Int) := by omega
      have hpi : (L.take (k + 1)).flatMap Pk.item = items (L.take k) ++ x.p.item := items_take (by rw [← e, List.getElem?_map, hx]; rfl)
      have hpi' : items (L.take (k + 1)) = items (L.take k) ++ x.p.item := hpi
      have HPI := Lib.hid hpi'
      clear hpi hpi' hx e
      have hws := hB.size
      have hm : k < 64 := by omega
      go_wp2_with (first | (at_builtin; refine wpList_append_any _ rfl (.tmp 24) (.tmp 35) _ rfl w.heap.size 63 i63 _ 4 32 Try.underlying47 hi63 hz63 hz63' hz63'' rfl (by omega) (.slice Ao k co) k (items (L.take k)) rfl ((hown.alloc _).alloc _) ((wr.alloc (.cells #[.int .i64 x.p.id, .int .i64 x.p.to, .slice x.A x.p.b.length x.c, .bool x.p.sp] 75)).alloc (.cells #[.int .i64 x.p.id, .int .i64 x.p.to, .int .i64 x.p.b.length, .bool x.p.sp] 63)).heap.size (some ⟨wr.heap.size + 1, 0, none⟩) 1 1 x.p.item rfl (reads_four (by simpa using Blk.new (wr.alloc (.cells #[.int .i64 x.p.id, .int .i64 x.p.to, .slice x.A x.p.b.length x.c, .bool x.p.sp] 75)) 63 #[.int .i64 x.p.id, .int .i64 x.p.to, .int .i64 x.p.b.length, .bool x.p.sp])) item_one (by simp only [maxLen]; omega) (by omega) (by simp; omega) ?_; intro v1 w1 ho1 hg1 hl1))
      go_roundw
      case rel => exact ⟨k + 1, by omega, by go_num, HPI.out ▸ ho1, below_otherN (below_alloc (below_alloc hB _) _) hg1 ((hown.alloc _).alloc _)⟩
      case measure => simp [intOf]; omega
    · have d1 : decide (k < l.length) = false := by simp; omega
      go_wp2
      go_ret
      obtain rfl : k = L.length := by omega
      rw [List.take_length] at hown
      exact ⟨_, _, rfl, hown, hB⟩
end Go.Proofs.Ytlhmhalamfjhjaa
