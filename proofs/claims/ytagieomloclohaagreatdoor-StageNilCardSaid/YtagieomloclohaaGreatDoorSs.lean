/- scowlaw27.small at a deed that came in, as a known function of the interpreter. -/
import Derived.Test.YtagieomloclohaaGreatDoorEvx
import Derived.Test.YtagieomloclohaaGreatDoorSm27
set_option linter.unusedVariables false
namespace Go.Proofs.YtagieomloclohaaGreatDoor.Ev
open Go.RowKit Go.Extern
variable {ω : Nat → Value}
noncomputable def spSm (b : Bool) : SpF
  | [.slice (some p) 1 _], s => match readN s p 7 with
    | some [_, .chan (some 0), .chan (some 1), .chan (some 2), _, _, .slice none 0 0] => some (.bool b, s)
    | _ => none
  | _, _ => none
theorem l7 {m : M ω} {a0 a1 a2 a3 a4 a5 a6 : Value} {l : List Value} (h : LRel m [a0, a1, a2, a3, a4, a5, a6] l) : ∃ b0 b1 b2 b3 b4 b5 b6, l = [b0, b1, b2, b3, b4, b5, b6] ∧ VRel m a1 b1 ∧ VRel m a2 b2 ∧ VRel m a3 b3 ∧ VRel m a6 b6 := by
  have hl := h.1
  match l, hl with
  | [b0, b1, b2, b3, b4, b5, b6], _ => exact ⟨b0, b1, b2, b3, b4, b5, b6, rfl, h.tail.2.tail.1, h.tail.2.tail.2.tail.1, h.tail.2.tail.2.tail.2.tail.1, h.tail.2.tail.2.tail.2.tail.2.tail.2.tail.2.tail.1⟩
  | [], h => exact absurd h (by simp)
  | [_], h => exact absurd h (by simp)
  | [_, _], h => exact absurd h (by simp)
  | [_, _, _], h => exact absurd h (by simp)
  | [_, _, _, _], h => exact absurd h (by simp)
  | [_, _, _, _, _], h => exact absurd h (by simp)
  | [_, _, _, _, _, _], h => exact absurd h (by simp)
  | _ :: _ :: _ :: _ :: _ :: _ :: _ :: _ :: _, h => exact absurd h (by simp)
/-- What is known of the entries' block holds in each world of the run. -/
def EntsF (f : Nat → Option (Array Value)) (ek : Option Addr) (le : Nat) (kl vl : Nat → Nat) : Prop := ∀ w : World, (∀ g cs, f g = some cs → ∃ t fz, w.heap[g]? = some (.cells cs t fz)) → EntsAt w ek le kl vl
theorem spSm_sp (hh : Hands ω) {b : Bool} (f : Nat → Option (Array Value)) (hfv : ∀ g c c', ivT g = some c → f g = some c' → c = c') {al ah ek : Option Addr} {ll cl lh ch le ce : Nat} {kl vl : Nat → Nat} (h0 : ω 0 = .slice al ll cl) (h1 : ω 1 = .slice ah lh ch) (h2 : ω 2 = .slice ek le ce)
    (hl : le ≤ 9223372036854775807) (hb : smallE ll lh le kl vl = b) (hE : EntsF f ek le kl vl) : ∀ C : Ctx, C.P = Tryz.prog → GlobOK C → C.iv = ivF f → SpOK ω C 4 (spSm b) := by
  intro C hP hG hI vs s v s' hv B X m w args hs hr hB
  unfold spSm at hv
  split at hv
  · rename_i p c
    split at hv
    · rename_i x0 x4 x5 hrd
      cases hv
      obtain ⟨x', rfl, hx⟩ := args1 hr
      obtain ⟨p', c', rfl, hor⟩ := slice_inv hx
      rcases hor with ⟨hp, _, _⟩ | ⟨h9, _⟩
      · obtain ⟨l', r1, r2, r3⟩ := readN_sound hs hrd hp
        obtain ⟨b0, b1, b2, b3, b4, b5, b6, rfl, q1, q2, q3, q6⟩ := l7 r1
        obtain rfl := (tok_inv q1).trans h0
        obtain rfl := (tok_inv q2).trans h1
        obtain rfl := (tok_inv q3).trans h2
        obtain rfl := nilsl_inv q6
        obtain ⟨_, i, i1, rfl⟩ := hp
        have c1 := r3 1 _ rfl
        have c2 := r3 2 _ rfl
        have c3 := r3 3 _ rfl
        have c6 := r3 6 _ rfl
        rw [add_lit] at c1 c2 c3 c6
        have hEw : EntsAt w ek le kl vl := hE w (fun g cs hg => by
          cases e : ivT g with
          | none => exact (hB.iv g cs (by rw [hI]; unfold ivF; rw [e]; exact hg)).2
          | some z =>
            have := (hB.iv g z (by rw [hI]; unfold ivF; rw [e])).2
            rw [hfv g z cs e hg] at this
            exact this)
        have hC : COK ω (CE [] [] noCnv noRd) := ceOK hh (fun f hf => by cases hf) (fun f hf => by cases hf) noCnv_ok noRd
        refine calls_ok (by rw [hP]; exact hC.ok.call 4 _ rfl rfl _ _) fun n => ?_
        rw [hP]
        refine callsIn_wide.2 ((small27_any hl c1 c2 c3 c6 hEw).mono ?_)
        rintro e w' ⟨rfl, hbw⟩
        rw [hb]
        exact ⟨_, rfl, m, Le.refl _, hs.below hbw, .plain _ rfl, hbw.mono hB.le⟩
      · cases h9
    · cases hv
  · cases hv
end Go.Proofs.YtagieomloclohaaGreatDoor.Ev
