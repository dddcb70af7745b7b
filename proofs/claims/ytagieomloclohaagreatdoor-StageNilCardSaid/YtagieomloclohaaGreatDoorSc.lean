/- Known functions besides: bytes.Compare; maps.clone. -/
import Derived.Test.YtagieomloclohaaGreatDoorEvx
import Derived.Lib.BytesEntry
set_option linter.unusedVariables false
namespace Go.Proofs.YtagieomloclohaaGreatDoor.Ev
open Go.RowKit Go.Extern Go.Lib
variable {ω : Nat → Value}

noncomputable def rdBytes (s : AS) (v : Value) : Option (List UInt8) := match v with
  | .slice none 0 0 => some []
  | .slice (some p) n _ => match readN s p n with
    | some l => bytesOf l
    | none => none
  | _ => none
noncomputable def spCompare : SpF
  | [a, b], s => match rdBytes s a, rdBytes s b with
    | some x, some y => some (.int .i64 (BytealgCompare.cmp ⟨x.toArray⟩ ⟨y.toArray⟩), s)
    | _, _ => none
  | _, _ => none

section
variable {B : Nat} {X : Aux} {m : M ω} {s s' : AS} {w : World}
theorem rdBytes_ok (hs : SR B X m s w) {v v' : Value} {x : List UInt8} (hv : VRel m v v') (h : rdBytes s v = some x) : (Bytes.bytesOf v').run Tryz.prog w = .ok ⟨x.toArray⟩ w := by
  unfold rdBytes at h
  split at h
  · cases h
    obtain rfl := nilsl_inv hv
    rfl
  · rename_i p k c
    split at h
    · rename_i l hl
      obtain ⟨q, rfl, rfl⟩ := bytes_sound h
      obtain ⟨p', c', rfl, hor⟩ := slice_inv hv
      obtain ⟨hk, hcell⟩ : q.length = k ∧ ∀ j x, q[j]? = some x → w.cell? (p'.add j) = some (.int .u8 x) := by
        rcases hor with ⟨hp, _, _⟩ | ⟨rfl, _, _⟩
        · obtain ⟨l', g1, g2, g3⟩ := readN_sound hs hl hp
          obtain rfl := g1.ints
          exact ⟨by simpa using g2, fun j x hj => g3 j _ (by rw [List.getElem?_map, hj]; rfl)⟩
        · have hq : q = [] := by simpa using readN_zero hl
          subst hq
          exact ⟨rfl, fun j x hj => by simp at hj⟩
      subst hk
      show (Bytes.loadBytes p' q.length .empty).run Tryz.prog w = _
      rw [run_loadBytesX w q p' ByteArray.empty hcell]
      have e : (ByteArray.empty.data ++ (q.map fun x => UInt8.ofNat x.toNat).toArray) = (q.map fun x => UInt8.ofNat x.toNat).toArray := by
        show #[] ++ _ = _
        simp
      exact congrArg (fun d => Result.ok (ByteArray.mk d) w) e
    · cases h
  · cases h
theorem compare_ok {vs : List Value} {v : Value} {args : Array Value} (hs : SR B X m s w) (hl : LRel m vs args.toList) (h : spCompare vs s = some (v, s')) :
    ∃ v' w', (BytealgCompare.compare args).run Tryz.prog w = .ok v' w' ∧ RelV B X m s' w v v' w' := by
  unfold spCompare at h
  split at h
  · split at h
    · rename_i x y hx hy
      cases h
      obtain ⟨x', y', rfl, h1, h2⟩ := args2 hl
      refine ⟨_, w, ?_, RelV.same hs (.plain _ rfl)⟩
      show (do pure (goInt (BytealgCompare.cmp (← Bytes.bytesOf x') (← Bytes.bytesOf y'))) : Sem Value).run Tryz.prog w = _
      simp only [Sem.run_bind, rdBytes_ok hs h1 hx, rdBytes_ok hs h2 hy, Result.andThen, Sem.run_pure]
      rfl
    · cases h
  · cases h
end

theorem spCompare_sp (C : Ctx) (hP : C.P = Tryz.prog) : SpOK ω C 110 spCompare := by
  intro vs s v s' hv B X m w args hs hr hB
  exact ext_ok hP BytealgCompare.compare Tryz.func110 (by kernel_rfl) (by kernel_rfl) (by kernel_rfl) (by kernel_rfl) (compare_ok hs hr hv)

theorem spClone_sp (C : Ctx) (hP : C.P = Tryz.prog) : SpOK ω C 58 spClone := by
  intro vs s v s' hv B X m w args hs hr hB
  exact ext_ok hP Go.Extern.MapsClone.clone Tryz.func58 (by kernel_rfl) (by kernel_rfl) (by kernel_rfl) (by kernel_rfl) (clone_ok hB.le hs hr hv)
end Go.Proofs.YtagieomloclohaaGreatDoor.Ev
