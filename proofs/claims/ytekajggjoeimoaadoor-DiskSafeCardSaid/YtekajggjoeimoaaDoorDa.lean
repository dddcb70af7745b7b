/- Runs of the interpreter: maps.Clone of a map without entries; told of an error; live. -/
import Derived.Test.YtekajggjoeimoaaDoorHd
import Derived.Test.YtekajggjoeimoaaDoorEvx
import Derived.Test.YtekajggjoeimoaaDoorMem
set_option linter.unusedVariables false
namespace Go.Proofs.YtekajggjoeimoaaDoor
open Go.RowKit
open Ev (ev CX spClone AS AObj st1 m1 c3 noCnv VRel LRel Hands hBase cxOK globT)
namespace Da
def no (_ : Nat) : Bool := false
noncomputable def C0 : Ev.Ctx := CX [(48, spClone)] [] [] noCnv no
noncomputable def isMapR (r : Option (Value × AS)) : Bool := match r with
  | some (.map (some _), s) => match s.h.get 0 with
    | some (.map [] 0) => true
    | _ => false
  | _ => false
def isInt (k : Int) (r : Option (Value × AS)) : Bool := match r with
  | some (.int .i64 n, _) => decide (n = k)
  | _ => false
def opS : ByteArray := ⟨#[115, 121, 110, 99, 100, 105, 114]⟩
noncomputable def flt (k : Int) : AObj := .cells ⟨c3 (.string opS) (.string ⟨#[]⟩) (.iface 29 (.int .i64 k)), 3, 73, 1, false, false⟩
def tArgs : List Value := [.iface 69 (.pointer (some ⟨0, 0, none⟩)), .string opS, .string ⟨#[]⟩]
set_option maxRecDepth 1000000
theorem clone_run : isMapR ((ev C0 1000).f 27 [.map (some 0)] (st1 (.map [] 0))) = true := by kernel_rfl
theorem told_run41 : isInt 41 ((ev C0 1000).f 10 tArgs (st1 (flt 41))) = true := by kernel_rfl
theorem told_run42 : isInt 42 ((ev C0 1000).f 10 tArgs (st1 (flt 42))) = true := by kernel_rfl
theorem live_run : isTr ((ev C0 10000).f 7 [] ⟨0, .leaf⟩) = true := by kernel_rfl
end Da
open Da
def om0 : Nat → Value := fun k => .pointer (some ⟨1, k - hBase, none⟩)
theorem hands0 : Hands om0 := fun t => by
  show Value.pointer (some ⟨1, hBase + t - hBase, none⟩) = _
  rw [Nat.add_sub_cancel_left]
theorem spClone_sp {ω : Nat → Value} {C : Ev.Ctx} (hP : C.P = Tryd.prog) : Ev.SpOK ω C 48 spClone := by
  intro vs s v s' hv B X m w args hs hr hB
  exact Ev.ext_ok hP Go.Extern.MapsClone.clone Tryd.func48 (by kernel_rfl) (by kernel_rfl) (by kernel_rfl) (by kernel_rfl) (Ev.clone_ok hB.le hs hr hv)
theorem c0OK : Ev.COK om0 C0 := cxOK hands0 (fun p hp C hP _ => by obtain rfl := List.mem_singleton.1 hp; exact spClone_sp hP) (fun f hf => by cases hf) (fun f hf => by cases hf) Ev.noCnv_ok no
/-- The one variable that the runs read. -/
def GlobAt (w : World) : Prop := w.cell? ⟨0, 0, none⟩ = some (.iface 125 (.agg #[.pointer (some ⟨1, 24, none⟩)]))
theorem bs_of {w : World} (hg : GlobAt w) : Ev.Bs om0 C0 w.heap.size w := ⟨Nat.le_refl _, glob_of hands0 hg, (fun k h => by cases h), (fun g cs h => by cases h)⟩
theorem clone_any {B : Nat} {w : World} {M : Nat} (hb : Ev.Bs om0 C0 B w) (hB : B ≤ M) (hM : w.heap[M]? = some (.map #[] 0)) :
    Calls Tryd.prog 27 #[.map (some M)] w fun e w' => (∃ M', e = .returned (.map (some M'))) ∧ Fr (fun k => k = M) w w' ∧ w'.heap[M]? = some (.map #[] 0) := by
  have h := clone_run
  unfold isMapR at h
  split at h
  · rename_i b s hr
    split at h
    · rename_i hg
      refine (Ev.run_one c0OK hr (Ev.or_map hM) hB (Array.getElem?_eq_some_iff.1 hM).1 (LRel.cons (.map 0 ⟨M, 0, 0, 0, false, 0⟩ rfl) (LRel.nil _)) hb rfl).mono ?_
      rintro e w' ⟨v', m', rfl, hv, hf, ho⟩
      refine ⟨?_, hf, ?_⟩
      · cases hv with
        | map _ i h => exact ⟨_, rfl⟩
        | plain _ h => cases h
      · obtain ⟨es', h1, h2, h3⟩ := ho _ hg rfl
        cases es' with
        | nil => exact h1
        | cons x l => simp at h2
    · cases h
  · cases h
theorem told_any {B : Nat} {w : World} {r : Nat} {k : Int} (hk : k = 41 ∨ k = 42) (hb : Ev.Bs om0 C0 B w) (hB : B ≤ r) (hr : w.heap[r]? = some (.cells #[.string opS, .string ⟨#[]⟩, .iface 29 (.int .i64 k)] 73 (0, 0))) :
    Calls Tryd.prog 10 #[.iface 69 (.pointer (some ⟨r, 0, none⟩)), .string opS, .string ⟨#[]⟩] w fun e w' => e = .returned (.int .i64 k) ∧ Fr (fun k => k = r) w w' := by
  have h : ∃ s, (ev C0 1000).f 10 tArgs (st1 (flt k)) = some (.int .i64 k, s) := by
    rcases hk with rfl | rfl
    · have h := told_run41
      unfold isInt at h
      split at h
      · rename_i n s hr; exact ⟨s, by rw [hr, of_decide_eq_true h]⟩
      · cases h
    · have h := told_run42
      unfold isInt at h
      split at h
      · rename_i n s hr; exact ⟨s, by rw [hr, of_decide_eq_true h]⟩
      · cases h
  obtain ⟨s, hs⟩ := h
  refine (Ev.run_one (i := ⟨r, 0, 3, 1, false, 3⟩) c0OK hs (Ev.or_three hr (.plain _ rfl) (.plain _ rfl) (.iface _ _ _ (.plain _ rfl))) hB (Array.getElem?_eq_some_iff.1 hr).1 (LRel.cons (.iface _ _ _ (.ptr _ _ ⟨rfl, _, rfl, rfl⟩)) (LRel.cons (.plain _ rfl) (LRel.cons (.plain _ rfl) (LRel.nil _)))) hb rfl).mono ?_
  rintro e w' ⟨v', m', rfl, hv, hf, ho⟩
  exact ⟨by rw [Ev.plain_inv hv rfl], hf⟩
theorem live_any {w : World} (hg : GlobAt w) : Calls Tryd.prog 7 #[] w fun e w' => e = .returned (.bool true) ∧ Below w.heap.size w w' := by
  obtain ⟨s', hs'⟩ := isTr_some live_run
  exact Ev.run_args c0OK hs' (LRel.nil _) rfl rfl w (glob_of hands0 hg) (fun k h => by cases h) (fun g cs h => by cases h)
end Go.Proofs.YtekajggjoeimoaaDoor
