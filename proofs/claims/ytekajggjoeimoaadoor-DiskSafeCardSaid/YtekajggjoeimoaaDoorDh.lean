/- The disk: what Sync's filter says; the first write of a file. -/
import Derived.Test.YtekajggjoeimoaaDoorDg
import Derived.LaidEqlPtr
set_option linter.unusedVariables false
namespace Go.Proofs.YtekajggjoeimoaaDoor
open Go.RowKit
/-- A write that is pending: the file's block, the sector, what is written. -/
structure Wr where
  f : Nat
  n : Nat
  s : ByteArray
def Wr.cells (x : Wr) : List Value := wcell x.f x.n x.s
def wcells (l : List Wr) : List Value := l.flatMap Wr.cells
theorem wcells_cons (x : Wr) (l : List Wr) : wcells (x :: l) = x.cells ++ wcells l := by simp [wcells]
theorem wcells_len (l : List Wr) : (wcells l).length = l.length * 3 := by
  induction l with
  | nil => rfl
  | cons x l ih =>
    rw [wcells_cons, List.length_append, ih, List.length_cons]
    simp [Wr.cells, wcell]; omega
theorem wcells_at : ∀ {l : List Wr} {k : Nat} {x : Wr}, l[k]? = some x → ∀ j, j < 3 → (wcells l)[k * 3 + j]? = x.cells[j]?
  | [], k, x, h, j, hj => by simp at h
  | y :: l, 0, x, h, j, hj => by
    simp at h; subst h
    rw [wcells_cons, List.getElem?_append_left (by simp [Wr.cells, wcell]; omega)]
    simp
  | y :: l, k + 1, x, h, j, hj => by
    rw [wcells_cons, List.getElem?_append_right (by simp [Wr.cells, wcell]; omega)]
    have := wcells_at (l := l) (k := k) (x := x) (by simpa using h) j hj
    rw [← this]
    congr 1
    simp [Wr.cells, wcell]; omega
theorem own3_form {w : World} {B : Nat} {A : Option Addr} {n c : Nat} {xs : List Value} (h : w.ownsRow B 89 3 (.slice A n c) n xs) (h0 : 0 < n) :
    ∃ (g : Nat) (cur : Array Value), A = some ⟨g, 0, none⟩ ∧ B ≤ g ∧ Blk w g 89 cur ∧ ∀ (j : Nat) (u : Value), xs[j]? = some u → cur[j]? = some u := by
  rcases h.2 with ⟨_, h1⟩ | ⟨g, cap, cur, e, h1, h2, h3, h4, h5, h6⟩
  · omega
  · simp only [Value.slice.injEq] at e
    obtain ⟨rfl, _, rfl⟩ := e
    refine ⟨g, cur, rfl, h1, h2, fun j u hu => ?_⟩
    have hj := (List.getElem?_eq_some_iff.1 hu).1
    rw [← h6, List.getElem?_take] at hu
    by_cases hlt : j < n * 3
    · rw [if_pos hlt] at hu; simpa using hu
    · rw [if_neg hlt] at hu; cases hu
theorem wr_cells {w : World} {g : Nat} {l : List Wr} {j : Nat} {y : Wr} {cur : Array Value} (hg : Blk w g 89 cur) (hcur : ∀ (j : Nat) (u : Value), (wcells l)[j]? = some u → cur[j]? = some u) (hj : l[j]? = some y) :
    w.cell? ⟨g, j * 3, none⟩ = some (.pointer (some ⟨y.f, 0, none⟩)) ∧ w.cell? ⟨g, j * 3 + 1, none⟩ = some (.int .i64 y.n) ∧ w.cell? ⟨g, j * 3 + 2, none⟩ = some (.string y.s) :=
  ⟨(hg.cell _).trans (hcur _ _ ((wcells_at hj 0 (by omega)).trans rfl)), (hg.cell _).trans (hcur _ _ ((wcells_at hj 1 (by omega)).trans rfl)), (hg.cell _).trans (hcur _ _ ((wcells_at hj 2 (by omega)).trans rfl))⟩
theorem Tryd.info79' : ∃ i, Tryd.prog.info? 79 = some i ∧ i.size ≠ 0 := by
  have h : (Tryd.prog.info? 79).map (fun i => decide (i.size ≠ 0)) = some true := by kernel_rfl
  cases e : Tryd.prog.info? 79 with
  | none => rw [e] at h; cases h
  | some i => rw [e] at h; exact ⟨i, rfl, of_decide_eq_true (Option.some.inj h)⟩
theorem ptr_eq (W : World) {f g : Nat} {cf cg : Array Value} {tf tg : TypeId} (hf : W.heap[f]? = some (.cells cf tf (0, 0))) (hg : W.heap[g]? = some (.cells cg tg (0, 0))) :
    (binOp .eql 68 (.pointer (some ⟨f, 0, none⟩)) (.pointer (some ⟨g, 0, none⟩))).run Tryd.prog W = .ok (.bool (decide (f = g))) W := by
  obtain ⟨i, hi, hs⟩ := Tryd.info79'
  by_cases h : f = g
  · subst h
    rw [decide_eq_true rfl]
    exact run_eql_ptr_same W _ Tryd.underlying68 hi
  · rw [decide_eq_false h]
    exact run_eql_ptr_other W Tryd.underlying68 hi hs (fun e => h (by injection e)) hf hg
set_option maxHeartbeats 1000000 in
set_option maxRecDepth 100000 in
theorem isOf {w : World} {pf fb : Nat} (y : Wr) (hp : w.cell? ⟨pf, 0, none⟩ = some (.pointer (some ⟨fb, 0, none⟩))) {cf cg : Array Value} {tf tg : TypeId} (hf : w.heap[y.f]? = some (.cells cf tf (0, 0))) (hg : w.heap[fb]? = some (.cells cg tg (0, 0))) :
    Calls Tryd.prog 38 #[.agg #[.pointer (some ⟨y.f, 0, none⟩), .int .i64 y.n, .string y.s], .pointer (some ⟨pf, 0, none⟩)] w fun e w' => e = .returned (.bool (decide (y.f = fb))) ∧ w' = w.alloc (.cells #[.pointer (some ⟨y.f, 0, none⟩), .int .i64 y.n, .string y.s] 89) := by
  have hl : pf < w.heap.size := World.block_lt_of_cell? w _ hp
  have hp2 : (w.alloc (.cells #[.pointer (some ⟨y.f, 0, none⟩), .int .i64 y.n, .string y.s] 89)).cell? ⟨pf, 0, none⟩ = some (.pointer (some ⟨fb, 0, none⟩)) := by
    rw [World.cell?_alloc_lt w _ _ hl]; exact hp
  have he := ptr_eq (w.alloc (.cells #[.pointer (some ⟨y.f, 0, none⟩), .int .i64 y.n, .string y.s] 89)) ((Below.heap_alloc _ _ _ (Array.getElem?_eq_some_iff.1 hf).1).trans hf) ((Below.heap_alloc _ _ _ (Array.getElem?_eq_some_iff.1 hg).1).trans hg)
  go_enter Tryd.func38, Tryd.ntmps38
  go_wp2
  go_ret
  exact ⟨rfl, rfl⟩
end Go.Proofs.YtekajggjoeimoaaDoor
