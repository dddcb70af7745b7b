/- The net's functions, walked: find, Clone, New, num. -/
import Derived.Test.YtlhmhalamfjhjaaNc
import Derived.Test.YtlhmhalamfjhjaaWk
import Derived.MapFrom
set_option linter.unusedVariables false
namespace Go.Proofs.Ytlhmhalamfjhjaa
open Go.RowKit

theorem num_any (n : Int) (w : World) : Calls Try.prog 13 #[.int .i64 n] w fun e w' => e = .returned (.int .i64 n) ∧ w = w' := by
  go_enter Try.func13, Try.ntmps13
  go_wp2
  go_ret
  exact ⟨rfl, rfl⟩

set_option maxHeartbeats 1000000 in
set_option maxRecDepth 100000 in
theorem find_some {w : World} {a M : Nat} {next : Int} {l : List PkA} {clock : Nat} (h : NetAt w a M next l clock) {id : Int} {j : Nat} {y : PkA} (hl : look id l 0 = some (j, y)) :
    Calls Try.prog 28 #[.pointer (some ⟨a, 0, none⟩), .int .i64 id] w fun e w' => e = .returned (.tuple #[.agg #[.int .i64 y.p.to, .slice y.A y.p.b.length y.c, .bool y.p.sp], .int .i64 0]) ∧ Below w.heap.size w w' := by
  have c1 := h.c1
  have hM := h.map
  have hlt := h.lt
  go_enter Try.func28, Try.ntmps28
  go_wp2_with (at_lookup; refine wpList_look_some rfl _ _ rfl rfl rfl ((Below.heap_alloc _ _ _ hlt.2).trans hM) hl ?_)
  exact bodyPost_ret (v := .tuple #[.agg #[.int .i64 y.p.to, .slice y.A y.p.b.length y.c, .bool y.p.sp], .int .i64 0]) (by simp [results, Try.results28, go_sem]) rfl ⟨rfl, ((Below.refl _ _).alloc (Nat.le_refl _) _).alloc (by simp) _⟩
set_option maxHeartbeats 1000000 in
set_option maxRecDepth 100000 in
theorem find_none {w : World} {a M : Nat} {next : Int} {l : List PkA} {clock : Nat} (h : NetAt w a M next l clock) {id : Int} (hl : look id l 0 = none) :
    Calls Try.prog 28 #[.pointer (some ⟨a, 0, none⟩), .int .i64 id] w fun e w' => e = .returned (.tuple #[.agg #[.int .i64 0, .slice none 0 0, .bool false], .int .i64 7]) ∧ Below w.heap.size w w' := by
  have c1 := h.c1
  have hM := h.map
  have hlt := h.lt
  go_enter Try.func28, Try.ntmps28
  go_wp2_with (at_lookup; refine wpList_look_none rfl _ _ rfl rfl rfl ((Below.heap_alloc _ _ _ hlt.2).trans hM) hl ?_)
  exact bodyPost_ret (v := .tuple #[.agg #[.int .i64 0, .slice none 0 0, .bool false], .int .i64 7]) (by simp [results, Try.results28, go_sem]) rfl ⟨rfl, ((Below.refl _ _).alloc (Nat.le_refl _) _).alloc (by simp) _⟩

set_option maxHeartbeats 1000000 in
/-- A new net. -/
theorem New_any (w : World) : Calls Try.prog 8 #[] w fun e w' => e = .returned (.pointer (some ⟨w.heap.size + 1, 0, none⟩)) ∧ NetAt w' (w.heap.size + 1) w.heap.size 0 [] 0 ∧ Below w.heap.size w w' := by
  have hmm := @run_makeMap Try.prog
  go_enter Try.func8, Try.ntmps8
  go_wp2
  go_ret
  refine ⟨rfl, ⟨?_, ?_, fun _ h => (by cases h), fun _ h => (by cases h), List.Pairwise.nil, ⟨fun _ h => (by cases h), List.Pairwise.nil⟩, Int.le_refl _⟩, ((Below.refl _ _).alloc (Nat.le_refl _) _).alloc (by simp) _⟩
  · have := heap_alloc_new (w.alloc (.map #[] 0)) (.cells #[.int .i64 0, .map (some w.heap.size)] 51)
    simpa using this
  · exact (Below.heap_alloc _ _ _ (by simp)).trans (heap_alloc_new w _)
theorem Try.info5 : (Try.prog.info? 5).map (fun i => (i.zero, i.size, i.bytes)) = some (some (.int .u8 0), 1, 1) := by kernel_rfl
/-- A row of the call's own, as bytes. -/
theorem Row.of_own {w : World} {B : Nat} {A : Option Addr} {c : Nat} {b : List Int} (h : w.ownsRow B 5 1 (.slice A b.length c) b.length (b.map (.int .u8))) (hb : ∀ x ∈ b, 0 ≤ x ∧ x < 256) : Row w A c b := by
  refine ⟨?_, ?_, hb, fun hl => ?_⟩
  · rcases h.2 with ⟨e, h0⟩ | ⟨g, cap, cur, e, _, _, h1, h2, _⟩
    · simp at e; omega
    · simp at e; omega
  · rcases h.2 with ⟨e, h0⟩ | ⟨g, cap, cur, e, _, _, h1, h2, _⟩
    · simp at e; omega
    · simp [maxLen] at e h2; omega
  · rcases h.2 with ⟨e, h0⟩ | ⟨g, cap, cur, e, _, h0, h1, h2, h3, h4⟩
    · omega
    · simp only [Value.slice.injEq] at e
      obtain ⟨rfl, _, rfl⟩ := e
      refine ⟨g, 0, cur, (0, 0), rfl, h0, fun j u hu => ?_⟩
      have hj := (List.getElem?_eq_some_iff.1 hu).1
      have : (cur.toList.take (b.length * 1))[j]? = some (.int .u8 u) := by rw [h4, List.getElem?_map, hu]; rfl
      rw [List.getElem?_take, if_pos (by omega)] at this
      simpa using this
theorem Row.reads {w : World} {A : Option Addr} {c : Nat} {b : List Int} (h : Row w A c b) : Reads w w.heap.size 1 A b.length (b.map (.int .u8)) := by
  refine ⟨by simp, fun hl => ?_⟩
  obtain ⟨g, o, cs, fz, e, h1, h2⟩ := h.2.2.2 hl
  refine ⟨⟨g, o, none⟩, e, (Array.getElem?_eq_some_iff.1 h1).1, fun j u hu => ?_⟩
  rw [List.getElem?_map] at hu
  cases hj : b[j]? with
  | none => rw [hj] at hu; cases hu
  | some z =>
    rw [hj] at hu
    cases hu
    obtain ⟨g', o', e', _, hc⟩ := h.at_ hj
    rw [e] at e'
    cases e'
    have : (⟨g, o, none⟩ : Addr).add j = ⟨g, o + j, none⟩ := by unfold Addr.add; split <;> simp_all
    rw [this]; exact hc
/-- Bytes that can be read, below a block. -/
structure RowI (B : Nat) (w : World) (A : Option Addr) (c : Nat) (b : List Int) : Prop where
  le : b.length ≤ c
  cap : c ≤ 9223372036854775807
  byte : ∀ x ∈ b, 0 ≤ x ∧ x < 256
  reads : Reads w B 1 A b.length (b.map (.int .u8))
theorem Row.rowI {w : World} {A : Option Addr} {c : Nat} {b : List Int} (h : Row w A c b) : RowI w.heap.size w A c b := ⟨h.1, h.2.1, h.2.2.1, h.reads⟩
theorem RowI.below {B : Nat} {w w' : World} {A : Option Addr} {c : Nat} {b : List Int} (h : RowI B w A c b) (hb : Below B w w') : RowI B w' A c b := ⟨h.le, h.cap, h.byte, h.reads.below hb⟩
theorem bytes_one (b : List Int) : ∀ u ∈ b.map (Value.int .u8), u.oneCell' = true := fun u hu => by
  obtain ⟨_, _, rfl⟩ := List.mem_map.1 hu; rfl
theorem own_empty (w : World) (B : Nat) (hB : B ≤ w.heap.size) : (w.alloc (.cells #[] 5)).ownsRow B 5 1 (.slice (some ⟨w.heap.size, 0, none⟩) 0 0) 0 [] :=
  ⟨rfl, .inr ⟨w.heap.size, 0, #[], rfl, hB, heap_alloc_new w _, Nat.le_refl _, Nat.zero_le _, rfl, rfl⟩⟩
theorem ownsRow_succ_any {w : World} {B e n : Nat} {v : Value} {xs : List Value} (h : w.ownsRow B e 1 v n xs) : ∃ A c, v = .slice A n c := by
  rcases h.2 with ⟨rfl, rfl⟩ | ⟨g, cap, cur, rfl, _⟩
  · exact ⟨none, 0, rfl⟩
  · exact ⟨_, _, rfl⟩
/-- A copy of bytes: a row of the call's own. -/
def Copies (w : World) (b : List Int) (e : Ending) (w' : World) : Prop := ∃ A' c', e = .returned (.slice A' b.length c') ∧ w'.ownsRow w.heap.size 5 1 (.slice A' b.length c') b.length (b.map (.int .u8)) ∧ Below w.heap.size w w'
set_option maxHeartbeats 1000000 in
set_option maxRecDepth 100000 in
theorem Clone_any {B : Nat} (A : Option Addr) (c : Nat) (b : List Int) (w : World) (hr : RowI B w A c b) (hB : B ≤ w.heap.size) (hb : b.length ≤ 1000000) (hne : 0 < b.length) :
    Calls Try.prog 27 #[.slice A b.length c] w (Copies w b) := by
  obtain ⟨i0, hi0, hz0, hz1, hz2⟩ := info_parts Try.info5
  obtain ⟨ad, rfl, _, _⟩ := hr.reads.2 hne
  have hrd := hr.reads
  have hnil : ∀ W : World, (binOp .eql 30 (.slice (some ad) b.length c) (.slice none 0 0)).run Try.prog W = .ok (.bool false) W := fun W => (by first | exact Lib.run_eql_slice_nil W 30 5 _ _ _ _ _ Try.underlying30 | exact Lib.run_eql_slice_nil W 30 5 _ _ _ _ Try.underlying30)
  go_enter Try.func27, Try.ntmps27
  go_wp2_with (at_builtin; refine wpList_append_any _ rfl (.tmp 5) (.tmp 6) _ rfl w.heap.size 5 i0 _ 1 1 Try.underlying30 hi0 hz0 hz1 hz2 rfl (by omega) (.slice (some ⟨w.heap.size, 0, none⟩) 0 0) 0 [] rfl (own_empty w _ (Nat.le_refl _)) B (some ad) b.length c (b.map (.int .u8)) rfl (hrd.alloc hB _) (bytes_one b) (by simp only [maxLen]; omega) (by omega) (by simp) ?_; intro v1 w1 hown1 hg1 hat1)
  clear hnil
  rcases ownsRow_succ_any hown1 with ⟨A', c', rfl⟩
  go_ret
  refine ⟨A', c', by simp, by simpa using hown1, ((Below.refl _ w).alloc (Nat.le_refl _) _).grown hg1 (by simp) (fun k e => by cases e; exact Nat.le_refl _)⟩

/-- What Send does: the answer, the list behind it. -/
def sendR (next : Int) (len to : Int) (n : Nat) : Option (Int × Int) :=
  if to ≠ 0 ∧ to ≠ 1 ∨ n = 0 then some (0, 2) else if 8000 < n then some (0, 1) else if 64 ≤ len then some (0, 42) else none
section
variable {w : World} {a M : Nat} {next : Int} {l : List PkA} {clock : Nat}
set_option maxHeartbeats 1000000 in
set_option maxRecDepth 100000 in
theorem Send_arg (h : NetAt w a M next l clock) (to : Int) (A : Option Addr) (n c : Nat) (ha : to ≠ 0 ∧ to ≠ 1 ∨ n = 0) (hn : n ≤ 1000000) :
    Calls Try.prog 12 #[.pointer (some ⟨a, 0, none⟩), .int .i64 to, .slice A n c] w fun e w' => e = .returned (.tuple #[.int .i64 0, .int .i64 2]) ∧ w = w' := by
  by_cases h0 : to = 0
  · have d0 : (to == 0) = true := by simpa using h0
    have d1 : (to != 0) = false := by simpa using h0
    have d2 : ((n : Int) == 0) = true := by simp; omega
    go_enter Try.func12, Try.ntmps12
    go_wp2
    go_ret2
    exact ⟨rfl, rfl⟩
  · have d1 : (to != 0) = true := by simpa using h0
    by_cases h1 : to = 1
    · have d3 : (to != 1) = false := by simpa using h1
      have d2 : ((n : Int) == 0) = true := by simp; omega
      go_enter Try.func12, Try.ntmps12
      go_wp2
      go_ret2
      exact ⟨rfl, rfl⟩
    · have d3 : (to != 1) = true := by simpa using h1
      go_enter Try.func12, Try.ntmps12
      go_wp2
      go_ret2
      exact ⟨rfl, rfl⟩
set_option maxHeartbeats 1000000 in
set_option maxRecDepth 100000 in
theorem Send_long (h : NetAt w a M next l clock) (to : Int) (A : Option Addr) (n c : Nat) (ha : to = 0 ∨ to = 1) (hn : n ≤ 1000000) (h8 : 8000 < n) :
    Calls Try.prog 12 #[.pointer (some ⟨a, 0, none⟩), .int .i64 to, .slice A n c] w fun e w' => e = .returned (.tuple #[.int .i64 0, .int .i64 1]) ∧ w = w' := by
  have d2 : ((n : Int) == 0) = false := by simp; omega
  have d4 : decide ((8000 : Int) < n) = true := by simp; omega
  rcases ha with rfl | rfl
  all_goals
    go_enter Try.func12, Try.ntmps12
    go_wp2
    go_ret2
    exact ⟨rfl, rfl⟩
set_option maxHeartbeats 1000000 in
set_option maxRecDepth 100000 in
theorem Send_full {B : Nat} (hB : B ≤ w.heap.size) (h : NetAt w a M next l clock) (to : Int) (A : Option Addr) (c : Nat) (b : List Int) (ha : to = 0 ∨ to = 1) (h0 : 0 < b.length) (h8 : b.length ≤ 8000) (hr : RowI B w A c b) (hl : 64 ≤ l.length) :
    Calls Try.prog 12 #[.pointer (some ⟨a, 0, none⟩), .int .i64 to, .slice A b.length c] w fun e w' => e = .returned (.tuple #[.int .i64 0, .int .i64 42]) ∧ Below w.heap.size w w' := by
  have d2 : ((b.length : Int) == 0) = false := by simp; intro e; subst e; simp at h0
  have d4 : decide ((8000 : Int) < b.length) = false := by simp; omega
  rcases ha with rfl | rfl
  all_goals
    go_enter Try.func12, Try.ntmps12
    go_wp2_with (first
      | (go_at_call 27; refine (Clone_any A c b w hr hB (by omega) h0).mono ?_; rintro e w1 ⟨A', c', rfl, hown, hb⟩)
      | (go_at_call 26; refine (put_full (h.below hb) hl _ _ _ _ _).mono ?_; rintro e w2 ⟨rfl, hb2⟩))
    go_ret2
    exact ⟨rfl, hb.trans (hb2.mono hb.size)⟩
set_option maxHeartbeats 1000000 in
set_option maxRecDepth 100000 in
theorem Send_ok {B : Nat} (hB : B ≤ w.heap.size) (h : NetAt w a M next l clock) (to : Int) (A : Option Addr) (c : Nat) (b : List Int) (ha : to = 0 ∨ to = 1) (h0 : 0 < b.length) (h8 : b.length ≤ 8000) (hr : RowI B w A c b) (hl : l.length < 64) (hn : next < 1000000) :
    Calls Try.prog 12 #[.pointer (some ⟨a, 0, none⟩), .int .i64 to, .slice A b.length c] w fun e w' => e = .returned (.tuple #[.int .i64 next, .int .i64 0]) ∧ (∃ A' c', NetAt w' a M (next + 1) (l ++ [⟨⟨next, to, b, false⟩, A', c', clock⟩]) (clock + 1)) ∧ Fr (fun k => k = a ∨ k = M) w w' := by
  have d2 : ((b.length : Int) == 0) = false := by simp; intro e; subst e; simp at h0
  have d4 : decide ((8000 : Int) < b.length) = false := by simp; omega
  have hby := hr.byte
  rcases ha with rfl | rfl
  all_goals
    go_enter Try.func12, Try.ntmps12
    go_wp2_with (first
      | (go_at_call 27; refine (Clone_any A c b w hr hB (by omega) h0).mono ?_; rintro e w1 ⟨A', c', rfl, hown, hb⟩)
      | (go_at_call 26; refine (put_ok (h.below hb) hl hn _ _ _ _ _ (Row.of_own hown hby)).mono ?_; rintro e w2 ⟨rfl, hnet, hf2⟩))
    go_ret2
    exact ⟨rfl, ⟨A', c', hnet⟩, Fr.of_below' hb hf2 (fun _ _ h => h)⟩
end
end Go.Proofs.Ytlhmhalamfjhjaa
