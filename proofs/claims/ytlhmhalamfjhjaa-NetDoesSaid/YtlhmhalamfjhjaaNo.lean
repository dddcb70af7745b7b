/- What comes in: a slice of deeds. -/
import Derived.Test.YtlhmhalamfjhjaaRows
import Derived.Test.YtlhmhalamfjhjaaNh
import Derived.ProofKit
import Derived.OpenShut
import Derived.ChangeOld
import Derived.Deep.Slices
import Derived.Deep.Fields
import Derived.ChangeSame
import Derived.Lib.SmallJoins
set_option linter.unusedVariables false
namespace Go.Proofs.Ytlhmhalamfjhjaa
open Go.ChangeShapes Go.WideShapes Go.ChangeAt Go.RowKit Go.Joins Go.Deep

section
variable {H : Type} {enc : TypeId × Value → H} {P : Program} {w : World} {base : Nat} {spare : Nat → Bool} {held : Bool}
theorem open_slice_fields {t e : TypeId} {fs : Array Field} {fuel : Nat} {cs : List Value} {x : DataW H × List MemPlace} (ht : P.underlying t = some (.slice e)) (he : P.underlying e = some (.struct fs))
    (hone : oneCellFields P fs = true) (hC : P.cellsOf e = fs.size) (h : DataW.trod enc P w base spare held fuel t cs = some x) :
    (cs = [.slice none 0 0] ∧ x = (.nil, [])) ∨
    ∃ (a : Addr) (len cap m : Nat) (D : Nat → DataW H) (Pl : Nat → List MemPlace), cs = [.slice (some a) len cap] ∧ base ≤ a.block ∧ len ≤ cap ∧ cap ≤ maxLen ∧ m = (if spare a.block then cap else len) ∧
      x = (.slice ((List.range len).map D) ((List.range (m - len)).map fun j => D (len + j)), MemPlace.row a (m * fs.size) ++ (List.range m).flatMap Pl) ∧
      ∀ i, i < m → ∃ (ys : List (DataW H × List MemPlace)) (n : Nat), D i = .agg (ys.map (·.1)) ∧ Pl i = ys.flatMap (·.2) ∧ ys.length = fs.size ∧
        ∀ (j : Nat) (f : Field), fs[j]? = some f → ∃ (v : Value) (y : DataW H × List MemPlace), w.cell? (a.add (i * fs.size + j)) = some v ∧ ys[j]? = some y ∧ DataW.trod enc P w base spare held n f.type [v] = some y := by
  rcases open_slice ht h with h0 | ⟨a, len, cap, m, n, D, Pl, hcs, hb, hl, hm, hmm, hx, hi⟩
  · exact .inl h0
  · refine .inr ⟨a, len, cap, m, D, Pl, hcs, hb, hl, hm, hmm, by rw [hC] at hx; exact hx, fun i him => ?_⟩
    obtain ⟨cs', hc, ht'⟩ := hi i him
    rw [hC] at hc
    obtain ⟨ys, n', hn', hy, hlen, hyl, hf⟩ := DataW.trod_struct he ht'
    obtain ⟨_, hcl, hat⟩ := World.cells?_some hc
    simp only [Prod.mk.injEq] at hy
    refine ⟨ys, n', hy.1, hy.2, hyl, fun j f hj => ?_⟩
    obtain ⟨ho, hk⟩ := hone_of hone j f hj
    have hjl : j < fs.size := (Array.getElem?_eq_some_iff.1 hj).1
    have hcell := hat j hjl
    have hv : cs'[j]? = some (cs'[j]'(by omega)) := List.getElem?_eq_getElem (by omega)
    have h1 := hf j f hj
    rw [ho, hk] at h1
    have hone' : (cs'.drop j).take 1 = [cs'[j]'(by omega)] := by
      rw [List.drop_eq_getElem_cons (by omega)]
      rfl
    rw [hone'] at h1
    have hys : ys[j]? = some (ys[j]'(by omega)) := List.getElem?_eq_getElem (by omega)
    refine ⟨_, _, ?_, hys, h1.trans hys⟩
    rw [← Go.Deep.add_add, hcell, hv]
end

section
variable {H : Type} {enc : TypeId × Value → H} {w : World} {base : Nat} {held : Bool}
theorem add_off (a : Addr) (i j : Nat) (hj : 0 < j) : a.add (i + j) = ⟨(a.add i).block, (a.add i).off + j, none⟩ := by
  unfold Addr.add
  by_cases hi : i = 0
  · subst hi; rw [if_neg (by omega), if_pos rfl, Nat.zero_add]
  · rw [if_neg (by omega), if_neg hi]; simp [Nat.add_assoc]
/-- A slice of bytes that came in. -/
theorem rowI_of {fuel : Nat} {v : Value} {y : DataW H × List MemPlace} (h : DataW.trod enc Try.prog w base (fun _ => true) held fuel 30 [v] = some y) : ∃ A c b, v = .slice A b.length c ∧ RowI w.heap.size w A c b := by
  rcases open_ints Try.underlying30 Try.underlying5 (by kernel_rfl) h with ⟨hcs, _⟩ | ⟨x, l, c, zs, hcs, _, hl, hm, hz, _, hcell, hwz⟩
  · simp at hcs
    exact ⟨none, 0, [], hcs, Nat.le_refl _, by omega, (fun x hx => by cases hx), Reads.none_⟩
  · simp at hcs hz
    refine ⟨some x, c, zs.take l, by rw [hcs, List.length_take, Nat.min_eq_left (by omega)], by rw [List.length_take]; omega, by simpa [maxLen] using hm, fun n hn => ?_, by simp, fun h0 => ?_⟩
    · have := hwz n (List.mem_of_mem_take hn)
      have e1 : IntKind.u8.min = 0 := rfl
      have e2 : IntKind.u8.max = 255 := rfl
      simp [Lit.wf] at this
      omega
    · rw [List.length_take] at h0
      have c0 := hcell 0 (by omega)
      have hb := World.block_lt_of_cell? w _ c0
      refine ⟨x, rfl, by simpa [Addr.add] using hb, fun j u hu => ?_⟩
      rw [List.getElem?_map, List.getElem?_take] at hu
      by_cases hj : j < l
      · rw [if_pos hj] at hu
        rw [hcell j (by omega)]
        cases hzj : zs[j]? with
        | none => rw [hzj] at hu; cases hu
        | some z => rw [hzj] at hu; simpa [List.getD_eq_getElem?_getD, hzj] using hu
      · rw [if_neg hj] at hu; cases hu
theorem list_of {P : Nat → Dd → Prop} : ∀ (n : Nat), (∀ i, i < n → ∃ d, P i d) → ∃ ds : List Dd, ds.length = n ∧ ∀ i d, ds[i]? = some d → P i d
  | 0, _ => ⟨[], rfl, fun i d h => by simp at h⟩
  | n + 1, h => by
    obtain ⟨ds, hl, hd⟩ := list_of n (fun i hi => h i (by omega))
    obtain ⟨d, hP⟩ := h n (by omega)
    refine ⟨ds ++ [d], by simp [hl], fun i x hx => ?_⟩
    by_cases hi : i < ds.length
    · rw [List.getElem?_append_left hi] at hx; exact hd i x hx
    · rw [List.getElem?_append_right (by omega)] at hx
      have := (List.getElem?_eq_some_iff.1 hx).1
      simp at this
      obtain rfl : i = n := by omega
      rw [hl, Nat.sub_self] at hx
      cases hx
      exact hP
/-- A slice of deeds that came in. -/
theorem deeds_of {fuel : Nat} {v : Value} {y : DataW H × List MemPlace} (h : DataW.trod enc Try.prog w base (fun _ => true) held fuel 22 [v] = some y) : ∃ A c ds, v = .slice A ds.length c ∧ DeedsAt w.heap.size w A ds ∧ ds.length ≤ 9223372036854775807 := by
  rcases open_slice_fields Try.underlying22 Try.underlying32 (by kernel_rfl) (by kernel_rfl) h with ⟨hcs, _⟩ | ⟨a, len, cap, m, D, Pl, hcs, _, hl, hm, hmm, _, hf⟩
  · simp at hcs
    exact ⟨none, 0, [], hcs, fun k d hd => by simp at hd, by simp⟩
  · simp at hcs hmm
    subst hmm
    obtain ⟨ds, hdl, hd⟩ := list_of (P := fun i d => DdAt w.heap.size w (a.add (i * 5)) d) len (fun i hi => by
      obtain ⟨ys, n, _, _, _, hy⟩ := hf i (by omega)
      obtain ⟨v0, y0, e0, _, t0⟩ := hy 0 _ rfl
      obtain ⟨v1, y1, e1, _, t1⟩ := hy 1 _ rfl
      obtain ⟨v2, y2, e2, _, t2⟩ := hy 2 _ rfl
      obtain ⟨v3, y3, e3, _, t3⟩ := hy 3 _ rfl
      obtain ⟨v4, y4, e4, _, t4⟩ := hy 4 _ rfl
      obtain ⟨kd, hc0, _⟩ := DataW.trod_int Try.underlying3 t0
      obtain ⟨n1, hc1, _⟩ := DataW.trod_int Try.underlying3 t1
      obtain ⟨n2, hc2, _⟩ := DataW.trod_int Try.underlying3 t2
      obtain ⟨by_, hc3, _, wf⟩ := DataW.trod_int Try.underlying5 t3
      obtain ⟨A, c, b, rfl, hr⟩ := rowI_of t4
      simp only [List.cons.injEq, and_true] at hc0 hc1 hc2 hc3
      subst hc0 hc1 hc2 hc3
      refine ⟨⟨kd, n1, n2, by_, b, A, c⟩, e0, (add_off a (i * 5) 1 (by omega)) ▸ e1, (add_off a (i * 5) 2 (by omega)) ▸ e2, (add_off a (i * 5) 3 (by omega)) ▸ e3, (add_off a (i * 5) 4 (by omega)) ▸ e4, hr, ?_⟩
      have e1 : IntKind.u8.min = 0 := rfl
      have e2 : IntKind.u8.max = 255 := rfl
      simp [Lit.wf] at wf
      show 0 ≤ by_ ∧ by_ < 256
      omega)
    refine ⟨some a, _, ds, by rw [hcs, hdl], fun k d hk => ⟨a, rfl, ?_, hd k d hk⟩, by simp [maxLen] at hm; omega⟩
    have := World.block_lt_of_cell? w _ (hd k d hk).c0
    rw [add_block] at this
    exact this
end
end Go.Proofs.Ytlhmhalamfjhjaa
