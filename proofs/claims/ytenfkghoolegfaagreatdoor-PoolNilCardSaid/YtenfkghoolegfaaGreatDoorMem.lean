/- An interpreter over an abstract memory: a run over memory that is known. -/
import Derived.Test.YtenfkghoolegfaaGreatDoorEvu
import Derived.Test.YtenfkghoolegfaaGreatDoorFr
namespace Go.Proofs.YtenfkghoolegfaaGreatDoor.Ev
open Go.RowKit
variable {ω : Nat → Value} {C : Ctx}
theorem run_mem (hC : COK ω C) {fuel : Nat} {g : FuncId} {v : Value} {vs : List Value} {args : Array Value} {s s' : AS} {B : Nat} {X : Aux} {m : M ω} {w : World} (h : (ev C fuel).f g vs s = some (v, s')) (hs : SR B X m s w) (hl : LRel m vs args.toList) (hb : Bs ω C B w) (hsp : C.sp g = none) :
    Calls C.P g args w fun e w' => ∃ v', e = .returned v' ∧ RelV B X m s' w v v' w' := by
  have := ((sound hC fuel).2.2.2.1 g vs s v s' h B X m w args hs hl hb).2 hsp
  exact callsIn_wide.1 (this.2 0)
/-- All other blocks of the world are kept. -/
noncomputable def keepK (w : World) (B r0 : Nat) : Aux := ⟨fun _ => none, fun r => if r = r0 then none else if B ≤ r then w.heap[r]? else none⟩
/-- One block of the world, as the run's first. -/
def m1 (ω : Nat → Value) (i : Info) : M ω := fun b => if b = 0 then some i else none
noncomputable def st1 (o : AObj) : AS := ⟨1, T.leaf.put 0 o⟩
theorem st1_get (o : AObj) (b : Nat) : (st1 o).h.get b = if b = 0 then some o else none := by
  show ((T.leaf : T AObj).put 0 o).get b = _
  rw [T.get_put]
  split
  · rfl
  · rfl
theorem sr_one {B : Nat} {w : World} {o : AObj} {i : Info} (hr : ORel (m1 ω i) w i o) (h1 : B ≤ i.r) (h2 : i.r < w.heap.size) : SR B (keepK w B i.r) (m1 ω i) (st1 o) w := by
  refine ⟨fun b p j hb ha hm => ?_, fun b c p q i' j hb hc _ _ hne h3 h4 => ?_, fun b hb => ?_, fun b hb => ?_, fun b p hb => (by cases hb), fun r p hb => ?_, fun b j hm => ?_⟩
  · rw [st1_get] at hb
    unfold m1 at hm
    by_cases e : b = 0
    · rw [if_pos e] at hb hm
      cases hb; cases hm
      exact ⟨hr, h1, h2⟩
    · rw [if_neg e] at hm; cases hm
  · unfold m1 at h3 h4
    by_cases e : b = 0
    · by_cases e' : c = 0
      · omega
      · rw [if_neg e'] at h4; cases h4
    · rw [if_neg e] at h3; cases h3
  · rw [st1_get, if_neg (by have : 1 ≤ b := hb; omega)]
  · unfold m1; rw [if_neg (by have : 1 ≤ b := hb; omega)]
  · have hb' : (if r = i.r then none else if B ≤ r then w.heap[r]? else none) = some p := hb
    by_cases e : r = i.r
    · rw [if_pos e] at hb'; cases hb'
    · rw [if_neg e] at hb'
      by_cases e2 : B ≤ r
      · rw [if_pos e2] at hb'
        refine ⟨hb', e2, fun b j hm => ?_⟩
        unfold m1 at hm
        by_cases e3 : b = 0
        · rw [if_pos e3] at hm; cases hm; exact fun e4 => e e4.symm
        · rw [if_neg e3] at hm; cases hm
      · rw [if_neg e2] at hb'; cases hb'
  · unfold m1 at hm
    by_cases e : b = 0
    · rw [if_pos e] at hm; cases hm; exact h2
    · rw [if_neg e] at hm; cases hm
/-- A map without entries. -/
theorem or_map {w : World} {r clock : Nat} (h : w.heap[r]? = some (.map #[] clock)) : ORel (m1 ω ⟨r, 0, 0, 0, false, 0⟩) w ⟨r, 0, 0, 0, false, 0⟩ (.map [] clock) :=
  ⟨[], by simpa using h, rfl, fun k e e' hk => by simp at hk⟩
/-- A row of three. -/
noncomputable def c3 (a b c : Value) : T Value := ((T.leaf.put 0 a).put 1 b).put 2 c
theorem or_three {w : World} {r t : Nat} {a b c a' b' c' : Value} (h : w.heap[r]? = some (.cells #[a', b', c'] t (0, 0))) (ha : VRel (m1 ω ⟨r, 0, 3, 1, false, 3⟩) a a') (hb : VRel (m1 ω ⟨r, 0, 3, 1, false, 3⟩) b b') (hc : VRel (m1 ω ⟨r, 0, 3, 1, false, 3⟩) c c') :
    ORel (m1 ω ⟨r, 0, 3, 1, false, 3⟩) w ⟨r, 0, 3, 1, false, 3⟩ (.cells ⟨c3 a b c, 3, t, 1, false, false⟩) := by
  refine ⟨rfl, rfl, rfl, Nat.le_refl _, _, _, h, rfl, fun j hj => ?_, .inl rfl⟩
  have hj' : j < 3 := hj
  unfold c3
  match j, hj' with
  | 0, _ => exact ⟨a, a', by simp [T.get_put], rfl, ha⟩
  | 1, _ => exact ⟨b, b', by simp [T.get_put], rfl, hb⟩
  | 2, _ => exact ⟨c, c', by simp [T.get_put], rfl, hc⟩
/-- A run over one block that is known: what it gives; but for that block, what was there is as it was. -/
theorem run_one (hC : COK ω C) {fuel : Nat} {g : FuncId} {v : Value} {vs : List Value} {args : Array Value} {o : AObj} {s' : AS} {B : Nat} {i : Info} {w : World} (h : (ev C fuel).f g vs (st1 o) = some (v, s')) (hr : ORel (m1 ω i) w i o) (h1 : B ≤ i.r) (h2 : i.r < w.heap.size)
    (hl : LRel (m1 ω i) vs args.toList) (hb : Bs ω C B w) (hsp : C.sp g = none) :
    Calls C.P g args w fun e w' => ∃ v' m', e = .returned v' ∧ VRel (m' : M ω) v v' ∧ Fr (fun k => k = i.r) w w' ∧ ∀ o', s'.h.get 0 = some o' → o'.alive = true → ORel m' w' i o' := by
  refine (run_mem hC h (sr_one hr h1 h2) hl hb hsp).mono ?_
  rintro e w' ⟨v', rfl, m', hle, hs', hv, hbl⟩
  refine ⟨v', m', rfl, hv, ⟨hbl.os, hbl.tape, hbl.output, hbl.size, fun k hk hne => ?_⟩, fun o' ho ha => (hs'.rel 0 o' i ho ha (hle 0 i rfl)).1⟩
  by_cases hB : k < B
  · exact hbl.block k hB
  · obtain ⟨ob, hob⟩ : ∃ ob, w.heap[k]? = some ob := ⟨_, Array.getElem?_eq_getElem hk⟩
    rw [hob]
    refine (hs'.kp k ob ?_).1
    show (if k = i.r then none else if B ≤ k then w.heap[k]? else none) = some ob
    rw [if_neg hne, if_pos (by omega), hob]
end Go.Proofs.YtenfkghoolegfaaGreatDoor.Ev
