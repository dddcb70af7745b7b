/- Runs of the interpreter: live; StageNil at what came in. -/
import Derived.Test.YtagieomloclohaaGreatDoorUt
import Derived.Test.YtagieomloclohaaGreatDoorSs
import Derived.Test.YtagieomloclohaaGreatDoorSc
import Derived.Test.YtagieomloclohaaGreatDoorCrc
set_option linter.unusedVariables false
namespace Go.Proofs.YtagieomloclohaaGreatDoor
open Ev
namespace Sn
open Go.RowKit
variable {ω : Nat → Value}
noncomputable def lvL : List (FuncId × SpF) := crcL ++ [(110, spCompare), (58, spClone), (80, spUsed)]
theorem lvL_ok (hh : Hands ω) : ∀ p ∈ lvL, ∀ C : Ctx, C.P = Tryz.prog → GlobOK C → SpOK ω C p.1 p.2 := by
  intro p hp C hP hG
  rcases List.mem_append.1 hp with h | h
  · exact crcL_ok hh p h C hP hG
  · simp only [List.mem_cons, List.not_mem_nil, or_false] at h
    rcases h with rfl | rfl | rfl
    · exact spCompare_sp C hP
    · exact spClone_sp C hP
    · exact spUsed_sp hh C hP
set_option maxRecDepth 1000000 in
theorem live_run : isTr ((ev (CX lvL [] [] noCnv noRd) 10000).f 5 [] ⟨0, .leaf⟩) = true := by kernel_rfl
/-- live, known by its run. -/
theorem live_sp (hh : Hands ω) : ∀ C : Ctx, C.P = Tryz.prog → GlobOK C → SpOK ω C 5 (spKnown (.bool true)) := by
  intro C hP hG vs s v s' hv B X m w args hs hl hB
  unfold spKnown at hv
  split at hv
  · cases hv
    have ha : args = #[] := by
      have := hl.1
      cases args with | mk l => cases l with | nil => rfl | cons _ _ => simp at this
    subst ha
    obtain ⟨s1, h1⟩ := isTr_some live_run
    have hgl : ∀ g v, globT g = some v → g < w.heap.size ∧ ∃ v', w.cell? ⟨g, 0, none⟩ = some v' ∧ ∀ m : M ω, VRel m v v' := fun g v h => by
      have := hB.gl g v (by rw [hG.1]; exact h)
      exact ⟨Nat.lt_of_lt_of_le this.1 hB.le, this.2⟩
    have hC : COK ω (CX lvL [] [] noCnv noRd) := cxOK hh (lvL_ok hh) (fun f hf => by cases hf) (fun f hf => by cases hf) noCnv_ok noRd
    have key := ((sound hC 10000).2.2.2.1 5 [] _ (.bool true) s1 h1 w.heap.size _ _ w #[] (sr_empty w) (LRel.nil _) ⟨Nat.le_refl _, hgl, fun k h => (by cases h), fun g cs h => by
      have := hB.iv g cs (hG.2 g cs h)
      exact ⟨Nat.lt_of_lt_of_le this.1 hB.le, this.2⟩⟩).2 (by kernel_rfl)
    refine calls_ok (by rw [hP]; exact key.1 _ _) fun n => ?_
    rw [hP]
    refine (key.2 n).mono ?_
    rintro e w' ⟨v', rfl, m', _, _, hr', hb'⟩
    obtain rfl := plain_inv hr' rfl
    exact ⟨_, rfl, m, Le.refl _, hs.below hb', .plain _ rfl, hb'.mono hB.le⟩
  · cases hv
noncomputable def extL (b : Bool) : List (FuncId × SpF) := (4, spSm b) :: (5, spKnown (.bool true)) :: lvL
theorem ext_ok (hh : Hands ω) {b : Bool} (f : Nat → Option (Array Value)) (hfv : ∀ g c c', ivT g = some c → f g = some c' → c = c') {al ah ek : Option Addr} {ll cl lh ch le ce : Nat} {kl vl : Nat → Nat} (h0 : ω 0 = .slice al ll cl) (h1 : ω 1 = .slice ah lh ch) (h2 : ω 2 = .slice ek le ce)
    (hl : le ≤ 9223372036854775807) (hb : smallE ll lh le kl vl = b) (hE : EntsF f ek le kl vl) : ∀ p ∈ extL b, ∀ C : Ctx, C.P = Tryz.prog → GlobOK C → C.iv = ivF f → SpOK ω C p.1 p.2 := by
  intro p hp C hP hG hI
  rcases List.mem_cons.1 hp with rfl | hp
  · exact spSm_sp hh f hfv h0 h1 h2 hl hb hE C hP hG hI
  · rcases List.mem_cons.1 hp with rfl | hp
    · exact live_sp hh C hP hG
    · exact lvL_ok hh p hp C hP hG
set_option maxRecDepth 1000000 in
theorem run (f : Nat → Option (Array Value)) (b : Bool) : isTr ((ev (CXf f (extL b) [] [] noCnv noRd) 10000).f 3 [.agg #[.chan (some 0), .chan (some 1), .chan (some 2)]] ⟨0, .leaf⟩) = true := by
  cases b <;> kernel_rfl
end Sn
end Go.Proofs.YtagieomloclohaaGreatDoor
