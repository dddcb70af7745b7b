/- Known functions besides: bytes.Compare, slices.Insert (one cell ahead of one cell; else its body). -/
import Derived.Test.YtneaefgmlmeddaaGreatDoorIns
import Derived.Lib.BytesEntry
set_option linter.unusedVariables false
namespace Go.Proofs.YtneaefgmlmeddaaGreatDoor.Ev
open Go.RowKit Go.Extern Go.Lib
variable {ω : Nat → Value}

noncomputable def rdBytes (s : AS) (v : Value) : Option (List UInt8) := match v with
  | .slice none 0 0 => some []
  | .slice (some p) n _ => match readN s p n with
    | some l => bytesOf l
    | none => none
  | _ => none
noncomputable def spCompare : SpF
  | [a, b], s => match rdBytes s a, rdBytes s b with
    | some x, some y => some (.int .i64 (BytealgCompare.cmp ⟨x.toArray⟩ ⟨y.toArray⟩), s)
    | _, _ => none
  | _, _ => none

section
variable {B : Nat} {X : Aux} {m : M ω} {s s' : AS} {w : World}
theorem rdBytes_ok (hs : SR B X m s w) {v v' : Value} {x : List UInt8} (hv : VRel m v v') (h : rdBytes s v = some x) : (Bytes.bytesOf v').run Tryz.prog w = .ok ⟨x.toArray⟩ w := by
  unfold rdBytes at h
  split at h
  · cases h
    obtain rfl := nilsl_inv hv
    rfl
  · rename_i p k c
    split at h
    · rename_i l hl
      obtain ⟨q, rfl, rfl⟩ := bytes_sound h
      obtain ⟨p', c', rfl, hor⟩ := slice_inv hv
      obtain ⟨hk, hcell⟩ : q.length = k ∧ ∀ j x, q[j]? = some x → w.cell? (p'.add j) = some (.int .u8 x) := by
        rcases hor with ⟨hp, _, _⟩ | ⟨rfl, _, _⟩
        · obtain ⟨l', g1, g2, g3⟩ := readN_sound hs hl hp
          obtain rfl := g1.ints
          exact ⟨by simpa using g2, fun j x hj => g3 j _ (by rw [List.getElem?_map, hj]; rfl)⟩
        · have hq : q = [] := by simpa using readN_zero hl
          subst hq
          exact ⟨rfl, fun j x hj => by simp at hj⟩
      subst hk
      show (Bytes.loadBytes p' q.length .empty).run Tryz.prog w = _
      rw [run_loadBytesX w q p' ByteArray.empty hcell]
      have e : (ByteArray.empty.data ++ (q.map fun x => UInt8.ofNat x.toNat).toArray) = (q.map fun x => UInt8.ofNat x.toNat).toArray := by
        show #[] ++ _ = _
        simp
      exact congrArg (fun d => Result.ok (ByteArray.mk d) w) e
    · cases h
  · cases h
theorem compare_ok {vs : List Value} {v : Value} {args : Array Value} (hs : SR B X m s w) (hl : LRel m vs args.toList) (h : spCompare vs s = some (v, s')) :
    ∃ v' w', (BytealgCompare.compare args).run Tryz.prog w = .ok v' w' ∧ RelV B X m s' w v v' w' := by
  unfold spCompare at h
  split at h
  · split at h
    · rename_i x y hx hy
      cases h
      obtain ⟨x', y', rfl, h1, h2⟩ := args2 hl
      refine ⟨_, w, ?_, RelV.same hs (.plain _ rfl)⟩
      show (do pure (goInt (BytealgCompare.cmp (← Bytes.bytesOf x') (← Bytes.bytesOf y'))) : Sem Value).run Tryz.prog w = _
      simp only [Sem.run_bind, rdBytes_ok hs h1 hx, rdBytes_ok hs h2 hy, Result.andThen, Sem.run_pure]
      rfl
    · cases h
  · cases h
end

/-- Insert, known where it is; else its body. -/
noncomputable def spInsert : SpF := fun vs s => match spIns vs s with
  | some r => some r
  | none => (ev (CE [] [] noCnv noRd) 100).f 129 vs s

theorem bs_of {C : Ctx} (hG : GlobOK C) {B : Nat} {w : World} (hB : Bs ω C B w) : Bs ω (CE [] [] noCnv noRd) B w :=
  ⟨hB.le, fun g v h => hB.gl g v (by rw [hG.1]; exact h), fun k h => (by cases h), fun g cs h => hB.iv g cs (by rw [hG.2]; exact h)⟩

theorem spCompare_sp (C : Ctx) (hP : C.P = Tryz.prog) : SpOK ω C 118 spCompare := by
  intro vs s v s' hv B X m w args hs hr hB
  exact ext_ok hP BytealgCompare.compare Tryz.func118 (by kernel_rfl) (by kernel_rfl) (by kernel_rfl) (by kernel_rfl) (compare_ok hs hr hv)

theorem spInsert_sp (hh : Hands ω) (C : Ctx) (hP : C.P = Tryz.prog) (hG : GlobOK C) : SpOK ω C 129 spInsert := by
  intro vs s v s' hv B X m w args hs hr hB
  have hC : COK ω (CE [] [] noCnv noRd) := ceOK hh (fun f hf => by cases hf) (fun f hf => by cases hf) noCnv_ok noRd
  unfold spInsert at hv
  split at hv
  · rename_i r hi
    cases hv
    refine calls_ok (by rw [hP]; exact hC.ok.call 129 _ rfl rfl args w) fun n => ?_
    rw [hP]
    exact callsIn_wide.2 (ins_ok hB.le hs hr hi)
  · have key := ((sound hC 100).2.2.2.1 _ vs s v s' hv B X m w args hs hr (bs_of hG hB)).2 rfl
    refine calls_ok (by rw [hP]; exact key.1 _ _) fun n => ?_
    rw [hP]
    exact key.2 n

noncomputable def extL : List (FuncId × SpF) := [(118, spCompare), (129, spInsert)]
theorem extL_ok (hh : Hands ω) : ∀ p ∈ extL, ∀ C : Ctx, C.P = Tryz.prog → GlobOK C → SpOK ω C p.1 p.2 := by
  intro p hp C hP hG
  simp only [extL, List.mem_cons, List.not_mem_nil, or_false] at hp
  rcases hp with rfl | rfl
  · exact spCompare_sp C hP
  · exact spInsert_sp hh C hP hG
end Go.Proofs.YtneaefgmlmeddaaGreatDoor.Ev
