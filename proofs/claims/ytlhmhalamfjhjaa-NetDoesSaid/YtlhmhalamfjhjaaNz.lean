/- The net's List, walked. -/
import Derived.Test.YtlhmhalamfjhjaaNx
import Derived.Test.YtlhmhalamfjhjaaNy
set_option linter.unusedVariables false
namespace Go.Proofs.Ytlhmhalamfjhjaa
open Go.RowKit
theorem look_at : ∀ {l : List PkA} {k i : Nat} {x : PkA}, l.Pairwise (·.p.id < ·.p.id) → l[k]? = some x → look x.p.id l i = some (i + k, x)
  | [], k, i, x, _, h => by simp at h
  | y :: l, 0, i, x, _, h => by
    simp at h
    subst h
    simp [look]
  | y :: l, k + 1, i, x, hp, h => by
    obtain ⟨h1, h2⟩ := List.pairwise_cons.1 hp
    have hx : l[k]? = some x := by simpa using h
    have := h1 x (List.mem_of_getElem? hx)
    unfold look
    rw [if_neg (by omega), look_at (i := i + 1) h2 hx]
    congr 2
    omega
set_option maxHeartbeats 4000000 in
set_option maxRecDepth 100000 in
theorem PList {w : World} {a M : Nat} {nx : Int} {L : List Pk} (h : NetP w a M nx L) (hn : nx < 1000000) (hL : L.length ≤ 64) :
    Calls Try.prog 19 #[.pointer (some ⟨a, 0, none⟩)] w (Lists w L) := by
  obtain ⟨i63, hi63, hz63, hz63', hz63''⟩ := info_parts Try.info63
  have hP := h
  obtain ⟨l, ck, h, e⟩ := h
  have hl := map_len e
  have c1 := h.c1
  go_enter Try.func19, Try.ntmps19
  go_wp2_with (first
    | (go_at_call 30; refine (keys_any M _).mono ?_; rintro e w1 ⟨rfl, rfl⟩)
    | (go_at_call 29; refine (sorted_any h hn (by omega)).mono ?_; rintro e w1 ⟨v, rfl, hkeys, hb1⟩; obtain ⟨Ak, ck', rfl⟩ := own_form_any hkeys))
  have h1 := h.below hb1
  have hsz := hb1.size
  have KEYS := Lib.hid hkeys
  clear hkeys
  go_loopw [3, 16] (fun out i wr => ListRel w1 L out i wr) (fun _ i _ => L.length - (intOf i).toNat)
  case atStart => exact ⟨0, Nat.zero_le _, rfl, World.ownsRow_nil _ _ _ _, Below.refl _ _⟩
  case round =>
    obtain ⟨k, hk, rfl, hown, hB⟩ := hrel
    obtain ⟨Ao, co, rfl⟩ := own_form_any hown
    have hR := h1.below hB
    have c2 := hR.c1
    by_cases hlt : k < L.length
    · have d1 : decide (k < l.length) = true := by simp; omega
      obtain ⟨x, hx⟩ : ∃ x, l[k]? = some x := ⟨_, List.getElem?_eq_getElem (by omega)⟩
      obtain ⟨g, c', u, he, hgl, hu, hcell⟩ := own_at KEYS.out (j := k) (by omega)
      simp only [Value.slice.injEq] at he
      obtain ⟨rfl, _, rfl⟩ := he
      rw [List.getElem?_map, hx] at hu
      simp only [Option.map_some, Option.some.injEq] at hu
      subst hu
      have k1 : wr.cell? ⟨g, k, none⟩ = some (.int .i64 x.p.id) := (hB.cell (p := ⟨g, k, none⟩) hgl).trans hcell
      have hlk : look x.p.id l 0 = some (k, x) := by simpa using look_at (i := 0) hR.sorted hx
      have hM1 := hR.map
      have i0 : (0 : Int) ≤ (k : Int) := by omega
      have i1 : (k : Int) < (l.length : Int) := by omega
      have hpi' : items (L.take (k + 1)) = items (L.take k) ++ x.p.item := items_take (by rw [← e, List.getElem?_map, hx]; rfl)
      have HPI := Lib.hid hpi'
      clear hpi' hx e
      have hws := hB.size
      have hm : k < 64 := by omega
      go_wp2_with (first
        | (at_lookup; refine wpList_look1 rfl _ _ rfl rfl rfl hM1 hlk ?_)
        | (at_builtin; refine wpList_append_any _ rfl (.tmp 26) (.tmp 36) _ rfl w1.heap.size 63 i63 _ 4 32 Try.underlying47 hi63 hz63 hz63' hz63'' rfl (by omega) (.slice Ao k co) k (items (L.take k)) rfl ((hown.alloc _).alloc _) ((wr.alloc (.cells #[.int .i64 x.p.to, .slice x.A x.p.b.length x.c, .bool x.p.sp] 67)).alloc (.cells #[.int .i64 x.p.id, .int .i64 x.p.to, .int .i64 x.p.b.length, .bool x.p.sp] 63)).heap.size (some ⟨wr.heap.size + 1, 0, none⟩) 1 1 x.p.item rfl (reads_four (by simpa using Blk.new (wr.alloc (.cells #[.int .i64 x.p.to, .slice x.A x.p.b.length x.c, .bool x.p.sp] 67)) 63 #[.int .i64 x.p.id, .int .i64 x.p.to, .int .i64 x.p.b.length, .bool x.p.sp])) item_one (by simp only [maxLen]; omega) (by omega) (by simp; omega) ?_; intro v1 w2 ho1 hg1 hl1))
      go_roundw
      case rel => exact ⟨k + 1, by omega, by go_num, HPI.out ▸ ho1, below_otherN (below_alloc (below_alloc hB _) _) hg1 ((hown.alloc _).alloc _)⟩
      case measure => simp [intOf]; omega
    · have d1 : decide (k < l.length) = false := by simp; omega
      go_wp2
      go_ret
      obtain rfl : k = L.length := by omega
      rw [List.take_length] at hown
      exact ⟨_, _, rfl, ownsRow_base_a hown hsz, hb1.trans (hB.mono hsz)⟩
end Go.Proofs.Ytlhmhalamfjhjaa
