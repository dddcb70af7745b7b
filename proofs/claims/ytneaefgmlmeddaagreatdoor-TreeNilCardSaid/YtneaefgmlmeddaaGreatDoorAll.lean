/- All that is known besides. -/
import Derived.Test.YtneaefgmlmeddaaGreatDoorSp
import Derived.Test.YtneaefgmlmeddaaGreatDoorCrr
namespace Go.Proofs.YtneaefgmlmeddaaGreatDoor.Ev
open Go.RowKit
variable {ω : Nat → Value}
def tk (k : Nat) : Value := .chan (some k)
def i64 (n : Int) : Value := .int .i64 n
noncomputable def allL : List (FuncId × SpF) := crcL ++ (refL ++ extL)
theorem allL_ok (hh : Hands ω) : ∀ p ∈ allL, ∀ C : Ctx, C.P = Tryz.prog → GlobOK C → SpOK ω C p.1 p.2 := by
  intro p hp
  rcases List.mem_append.1 hp with h | h
  · exact crcL_ok hh p h
  · rcases List.mem_append.1 h with h | h
    · exact refL_ok hh p h
    · exact extL_ok hh p h

/-- A call without arguments, known by a run with the others known. -/
theorem knownX_of_run (hh : Hands ω) {ext : List (FuncId × SpF)} (he : ∀ p ∈ ext, ∀ C : Ctx, C.P = Tryz.prog → GlobOK C → SpOK ω C p.1 p.2) {fuel : Nat} {g : FuncId} {v0 : Value} (hcl : closedV v0 = true) (hsp : spFind (ext ++ spL) g = none) (hr : isV v0 ((ev (CX ext [] [] noCnv noRd) fuel).f g [] ⟨0, .leaf⟩) = true) :
    ∀ C : Ctx, C.P = Tryz.prog → GlobOK C → SpOK ω C g (spKnown v0) := by
  intro C hP hG vs s v s' hv B X m w args hs hl hB
  unfold spKnown at hv
  split at hv
  · cases hv
    have ha : args = #[] := by
      have := hl.1
      cases args with | mk l => cases l with | nil => rfl | cons _ _ => simp at this
    subst ha
    obtain ⟨s1, h1⟩ := isV_some hr
    have hgl : ∀ g v, globT g = some v → g < w.heap.size ∧ ∃ v', w.cell? ⟨g, 0, none⟩ = some v' ∧ ∀ m : M ω, VRel m v v' := fun g v h => by
      have := hB.gl g v (by rw [hG.1]; exact h)
      exact ⟨Nat.lt_of_lt_of_le this.1 hB.le, this.2⟩
    have hC : COK ω (CX ext [] [] noCnv noRd) := cxOK hh he (fun f hf => by cases hf) (fun f hf => by cases hf) noCnv_ok noRd
    have key := ((sound hC fuel).2.2.2.1 g [] _ v0 s1 h1 w.heap.size _ _ w #[] (sr_empty w) (LRel.nil _) ⟨Nat.le_refl _, hgl, fun k h => (by cases h), fun g cs h => by
      have := hB.iv g cs (by rw [hG.2]; exact h)
      exact ⟨Nat.lt_of_lt_of_le this.1 hB.le, this.2⟩⟩).2 hsp
    refine calls_ok (by rw [hP]; exact key.1 _ _) fun n => ?_
    rw [hP]
    refine (key.2 n).mono ?_
    rintro e w' ⟨v', rfl, m', _, _, hr', hb'⟩
    obtain rfl := closed_inv hr' hcl
    exact ⟨_, rfl, m, Le.refl _, hs.below hb', closed_refl hcl, hb'.mono hB.le⟩
  · cases hv
end Go.Proofs.YtneaefgmlmeddaaGreatDoor.Ev
