/- An interpreter over an abstract memory, part x: functions known by a run of their own. -/
import Derived.Test.YtenfkghoolegfaaGreatDoorHd
namespace Go.Proofs.YtenfkghoolegfaaGreatDoor.Ev
open Go.RowKit Go.Extern
variable {ω : Nat → Value}

/-- A world that has only grown. -/
theorem SR.below {B : Nat} {X : Aux} {m : M ω} {s : AS} {w w' : World} (h : SR B X m s w) (hb : Below w.heap.size w w') : SR B X m s w' :=
  ⟨fun b o i h1 h2 h3 => by
     obtain ⟨r1, r2, r3⟩ := h.rel b o i h1 h2 h3
     exact ⟨r1.other (hb.block i.r r3), r2, Nat.lt_of_lt_of_le r3 hb.size⟩,
   h.inj, h.freshH, h.freshM, h.gh,
   fun r o hk => by
     obtain ⟨k1, k2, k3⟩ := h.kp r o hk
     exact ⟨(hb.block r (Array.getElem?_eq_some_iff.1 k1).1).trans k1, k2, k3⟩,
   fun b i hm => Nat.lt_of_lt_of_le (h.lt b i hm) hb.size⟩

theorem sr_empty (w : World) : SR (ω := ω) w.heap.size ⟨fun _ => none, fun _ => none⟩ (fun _ => none) ⟨0, .leaf⟩ w :=
  ⟨fun b o i h1 => (by cases h1), fun b c o p i j h1 => (by cases h1), fun b _ => rfl, fun b _ => rfl, fun b o h1 => (by cases h1), fun r o h1 => (by cases h1), fun b i h1 => (by cases h1)⟩

/-- The variables are those of the program. -/
def GlobOK (C : Ctx) : Prop := C.glob = globT ∧ ∀ g cs, ivT g = some cs → C.iv g = some cs

/-- A call without arguments that gives a value without addresses. -/
def spKnown (v : Value) : SpF
  | [], s => some (v, s)
  | _, _ => none
def noRd (_ : Nat) : Bool := false

theorem known_of_run (hh : Hands ω) {fuel : Nat} {g : FuncId} (hsp : spT g = none) (hr : isTr ((ev (CE [] [] noCnv noRd) fuel).f g [] ⟨0, .leaf⟩) = true) :
    ∀ C : Ctx, C.P = Tryz.prog → GlobOK C → SpOK ω C g (spKnown (.bool true)) := by
  intro C hP hG vs s v s' hv B X m w args hs hl hB
  unfold spKnown at hv
  split at hv
  · cases hv
    have ha : args = #[] := by
      have := hl.1
      cases args with | mk l => cases l with | nil => rfl | cons _ _ => simp at this
    subst ha
    obtain ⟨s1, h1⟩ := isTr_some hr
    have hgl : ∀ g v, globT g = some v → g < w.heap.size ∧ ∃ v', w.cell? ⟨g, 0, none⟩ = some v' ∧ ∀ m : M ω, VRel m v v' := fun g v h => by
      have := hB.gl g v (by rw [hG.1]; exact h)
      exact ⟨Nat.lt_of_lt_of_le this.1 hB.le, this.2⟩
    have hC : COK ω (CE [] [] noCnv noRd) := ceOK hh (fun f hf => by cases hf) (fun f hf => by cases hf) noCnv_ok noRd
    have key := ((sound hC fuel).2.2.2.1 g [] _ (.bool true) s1 h1 w.heap.size _ _ w #[] (sr_empty w) (LRel.nil _) ⟨Nat.le_refl _, hgl, fun k h => (by cases h), fun g cs h => by
      have := hB.iv g cs (hG.2 g cs h)
      exact ⟨Nat.lt_of_lt_of_le this.1 hB.le, this.2⟩⟩).2 hsp
    refine calls_ok (by rw [hP]; exact key.1 _ _) fun n => ?_
    rw [hP]
    refine (key.2 n).mono ?_
    rintro e w' ⟨v', rfl, m', _, _, hr', hb'⟩
    obtain rfl := plain_inv hr' rfl
    exact ⟨_, rfl, m, Le.refl _, hs.below hb', .plain _ rfl, hb'.mono hB.le⟩
  · cases hv

/-- The tables, with functions known besides. -/
noncomputable def CX (ext : List (FuncId × SpF)) (fs : List Fact) (ls : List (TypeId × Nat × Nat)) (cnv : TypeId → TypeId → Value → Option Value) (rd : Nat → Bool) : Ctx := CT (fun g => spFind (ext ++ spL) g) globT methT fs ls cnv rd
set_option maxRecDepth 1000000 in
theorem cxOK (hh : Hands ω) {ext : List (FuncId × SpF)} (he : ∀ p ∈ ext, ∀ C : Ctx, C.P = Tryz.prog → GlobOK C → SpOK ω C p.1 p.2) {fs : List Fact} (hf : ∀ f ∈ fs, f.ok ω Tryz.prog) {ls : List (TypeId × Nat × Nat)} (hl : ∀ f ∈ ls, LenOK ω Tryz.prog f) {cnv : TypeId → TypeId → Value → Option Value}
    (hc : ∀ src dst x v, cnv src dst x = some v → ∀ (m : M ω) (x' : Value) (w : World), VRel m x x' → ∃ v', (convert src dst x').run Tryz.prog w = .ok v' w ∧ VRel m v v') (rd : Nat → Bool) : COK ω (CX ext fs ls cnv rd) :=
  ⟨ctOK _ globT methT_ok hf hl hc rd, mixed, fun g k hk => spFind_ok (Q := SpOK ω (CX ext fs ls cnv rd)) (fun p hp => (List.mem_append.1 hp).elim (fun h => he p h _ rfl ⟨rfl, fun _ _ h => h⟩) (fun h => spL_ok hh rfl p h)) g k hk⟩

/-- Likewise, with more blocks known whole (f). -/
def ivF (f : Nat → Option (Array Value)) (g : Nat) : Option (Array Value) := match ivT g with
  | some c => some c
  | none => f g
noncomputable def CXf (f : Nat → Option (Array Value)) (ext : List (FuncId × SpF)) (fs : List Fact) (ls : List (TypeId × Nat × Nat)) (cnv : TypeId → TypeId → Value → Option Value) (rd : Nat → Bool) : Ctx :=
  ⟨Tryz.prog, fun f => fnT.get f, fun t => (tyT.get t).map (·.1), fun t => (tyT.get t).map (·.2.desc), fun g => spFind (ext ++ spL) g, globT, methT, fun op _ x y => binOf fs op x y, fun t x => lenOf ls t x, cnv, rd, ivF f⟩
set_option maxRecDepth 1000000 in
theorem cxfOK (hh : Hands ω) (f : Nat → Option (Array Value)) {ext : List (FuncId × SpF)} (he : ∀ p ∈ ext, ∀ C : Ctx, C.P = Tryz.prog → GlobOK C → C.iv = ivF f → SpOK ω C p.1 p.2) {fs : List Fact} (hf : ∀ f ∈ fs, f.ok ω Tryz.prog) {ls : List (TypeId × Nat × Nat)} (hl : ∀ f ∈ ls, LenOK ω Tryz.prog f) {cnv : TypeId → TypeId → Value → Option Value}
    (hc : ∀ src dst x v, cnv src dst x = some v → ∀ (m : M ω) (x' : Value) (w : World), VRel m x x' → ∃ v', (convert src dst x').run Tryz.prog w = .ok v' w ∧ VRel m v v') (rd : Nat → Bool) : COK ω (CXf f ext fs ls cnv rd) :=
  ⟨ctxOK_of (tyL := tyL) (by kernel_rfl) (by kernel_rfl) (by kernel_rfl) (by kernel_rfl) (by kernel_rfl) (by kernel_rfl) (by kernel_rfl) (binOf_ok hf) (lenOf_ok hl) methT_ok hc, mixed, fun g k hk => spFind_ok (Q := SpOK ω (CXf f ext fs ls cnv rd)) (fun p hp => (List.mem_append.1 hp).elim (fun h => he p h _ rfl ⟨rfl, fun g cs h => by show ivF f g = some cs; unfold ivF; rw [h]⟩ rfl) (fun h => spL_ok hh rfl p h)) g k hk⟩
end Go.Proofs.YtenfkghoolegfaaGreatDoor.Ev
