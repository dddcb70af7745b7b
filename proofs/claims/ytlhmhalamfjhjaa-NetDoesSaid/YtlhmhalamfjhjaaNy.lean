/- The net's keys, sorted: slices.Sorted(maps.Keys(m)), by the shelf's contracts. -/
import Derived.Test.YtlhmhalamfjhjaaNc
import Derived.Test.YtlhmhalamfjhjaaProg
import Derived.Test.YtlhmhalamfjhjaaShelf
import Derived.Shelf.SlIterI.Nil
import Derived.Shelf.SortM.Plain
import Derived.Shelf.SortM.SortNone
set_option linter.unusedVariables false
namespace Go.Proofs
open Go.RowKit Go.Maps Go.Sort Go.Shelf
theorem Try.sortsA (m : Nat) : AnyZI.SortsIn Try.prog Try.sortedA_ren Fence.wide m :=
  ⟨fun blk off cap ss W hH hblk hsz => callsIn_wide.2 (AnyM.slices_Sort_int Try.sortA blk off cap ss W hH hblk hsz),
   fun p cap W => callsIn_wide.2 (AnyM.slices_Sort_int_none Try.sortA p cap W)⟩
namespace Ytlhmhalamfjhjaa
open Go.WideElems (Fit rd rg)
def Rv : Value → Option (DataW Unit × List MemPlace) := fun _ => some (.nil, [])
theorem rd_ent {x : PkA} (h0 : 0 ≤ x.p.id) (h1 : x.p.id < 1000000) : rd Try.prog 3 Rv x.ent = some (.int .i64 x.p.id, .nil) := by
  have hw : (Lit.int .i64 x.p.id).wf = true := by
    have e1 : IntKind.i64.min = -9223372036854775808 := rfl
    have e2 : IntKind.i64.max = 9223372036854775807 := rfl
    simp [Lit.wf, e1, e2]; omega
  have hk : keyOf Try.prog 3 (.int .i64 x.p.id) = some (.int .i64 x.p.id) := by simp [keyOf, mapKey, Try.underlying3, hw]
  exact WideElems.rd_mk (yv := (.nil, [])) hk rfl
theorem own_map {w : World} {a M : Nat} {nx : Int} {l : List PkA} {clock : Nat} (h : NetAt w a M nx l clock) (hn : nx < 1000000) (hl : l.length ≤ 64) :
    w.ownsMap Try.prog 3 Rv M l.length (.map (((l.map PkA.ent).map (rg Try.prog 3 Rv)).foldr DataW.insert [])) := by
  refine ⟨_, clock, h.map, ⟨by simp [maxLen]; omega, ⟨?_, ?_, ?_⟩, ?_⟩, by simp, rfl⟩
  · intro x hx
    simp only [List.mem_map] at hx
    obtain ⟨y, hy, rfl⟩ := hx
    exact h.born.1 y hy
  · simp only [List.map_map, List.Nodup, List.pairwise_map]
    exact h.born.2.imp fun hlt => Nat.ne_of_lt hlt
  · simp only [List.map_map, List.Nodup, List.pairwise_map]
    exact h.sorted.imp fun hlt e => by simp [PkA.ent] at e; omega
  · intro x hx
    simp only [List.mem_map] at hx
    obtain ⟨y, hy, rfl⟩ := hx
    have := h.ids y hy
    exact ⟨_, rd_ent (by omega) (by omega)⟩
theorem keys_map {w : World} {a M : Nat} {nx : Int} {l : List PkA} {clock : Nat} (h : NetAt w a M nx l clock) (hn : nx < 1000000) {ss : List Int} (hp : ss.Perm (intKeys (.map (((l.map PkA.ent).map (rg Try.prog 3 Rv)).foldr DataW.insert [])))) :
    ss.mergeSort (fun x y => decide (x ≤ y)) = l.map (·.p.id) := by
  have h1 : ss.Perm (l.map (·.p.id)) := by
    refine hp.trans ?_
    refine ((WideShapes.sorted_perm _).map _).trans (List.Perm.of_eq ?_)
    simp only [List.map_map]
    refine List.map_congr_left fun x hx => ?_
    have := h.ids x hx
    simp only [Function.comp, rg, rd_ent (x := x) (by omega) (by omega), Option.getD]
    rfl
  have h2 := mergeSort_of_perm_i h1
  refine h2.trans (List.mergeSort_of_pairwise ?_)
  rw [List.pairwise_map]
  exact h.sorted.imp fun hlt => by simp only [leI, decide_eq_true_eq]; omega
theorem keys_any (M : Nat) (w : World) : Calls Try.prog 30 #[.map (some M)] w fun e w' => e = .returned (.func (.func 34) #[] #[.pointer (some ⟨w.heap.size, 0, none⟩)]) ∧ w' = w.alloc (.cells #[.map (some M)] 49) :=
  (callsIn_wide (n := 5)).1 (AnyZI.keys_in Try.keysA Fence.wide 5 trivial rfl (some M) w)
theorem sorted_any {w : World} {a M : Nat} {nx : Int} {l : List PkA} {clock : Nat} (h : NetAt w a M nx l clock) (hn : nx < 1000000) (hl : l.length ≤ 64) :
    Calls Try.prog 29 #[.func (.func 34) #[] #[.pointer (some ⟨w.heap.size, 0, none⟩)]] (w.alloc (.cells #[.map (some M)] 49)) fun e w' =>
      ∃ v, e = .returned v ∧ w'.ownsRow w.heap.size 3 1 v l.length (l.map fun x => .int .i64 x.p.id) ∧ Below w.heap.size w w' := by
  have hown := own_map h hn hl
  have hbl := hown.lt
  have hsz : Maps.size (.map (((l.map PkA.ent).map (rg Try.prog 3 Rv)).foldr DataW.insert [])) = l.length := by
    simp [Maps.size, (WideShapes.sorted_perm _).length_eq]
  have hseq : SeqGives Fence.wide 2 Try.prog 34 #[.pointer (some ⟨w.heap.size, 0, none⟩)] encZ (fun ss => ss.Perm (intKeys (.map (((l.map PkA.ent).map (rg Try.prog 3 Rv)).foldr DataW.insert [])))) (Maps.size (.map (((l.map PkA.ent).map (rg Try.prog 3 Rv)).foldr DataW.insert []))) (w.alloc (.cells #[.map (some M)] 49)) :=
    AnyZI.keys_gives (ρ := Try.keysA_ren) { Try.keysA with } Fence.wide _ trivial rfl (by omega) w.heap.size M l.length _ _ (by simp) (by simp) (by
      obtain ⟨es, clock, hb, Ft, hs, hD⟩ := hown
      exact ⟨es, clock, (Below.heap_alloc _ _ M hbl).trans hb, Ft, hs, hD⟩)
  have cS := AnyZI.sorted_in Try.sortedA Fence.wide 5 trivial trivial trivial trivial rfl (by omega) (Try.sortsA _) (enters_of Try.func33 (by kernel_rfl) rfl) 34 #[.pointer (some ⟨w.heap.size, 0, none⟩)] trivial (enters_of Try.func34 (by kernel_rfl) rfl) _ _ (by rw [hsz]; simp [maxLen]; omega) (by rw [hsz]; omega) _ hseq
  change CallsIn _ _ Try.prog 29 _ _ _ at cS
  refine ((callsIn_wide).1 cS).mono ?_
  rintro e w' ⟨v, ss, rfl, hS, hrow, hnil, hb⟩
  have hk := keys_map h hn hS
  have hlen : ss.length = l.length := by
    have := congrArg List.length hk
    simpa using this
  refine ⟨v, rfl, ?_, ((Below.refl _ w).alloc (Nat.le_refl _) _).trans (hb.mono (by simp))⟩
  have h3 : w'.ownsRow w.heap.size 3 1 v ss.length ((ss.mergeSort fun x y => decide (x ≤ y)).map encZ) := ownsRow_base_a hrow (base' := w.heap.size) (by simp)
  rw [hk, hlen, List.map_map] at h3
  exact h3
end Ytlhmhalamfjhjaa
end Go.Proofs
