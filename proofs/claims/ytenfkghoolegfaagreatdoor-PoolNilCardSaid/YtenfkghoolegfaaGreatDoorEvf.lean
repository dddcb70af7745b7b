/- An interpreter over an abstract memory, part f: more operations: addresses, slices, interfaces, functions. -/
import Derived.Test.YtenfkghoolegfaaGreatDoorEve
namespace Go.Proofs.YtenfkghoolegfaaGreatDoor.Ev
open Go.RowKit
variable {ω : Nat → Value}
section
variable {C : Ctx} {B : Nat} {X : Aux} {m : M ω} {s s' : AS} {w : World} {a : T Value} {act : Act} {n : Nat}

theorem nilCheck_sound (hs : SR B X m s w) (ht : TR m n a act) (o : Oper) {x : Operand} (ho : o.op = .nilCheck x) {r : R} (h : opNilCheck x C a s = some (r, s')) :
    OpOK C B X m s' w r ((execOp act.eval o).run C.P w) := by
  unfold opNilCheck at h
  cases h1 : opnd a x with
  | none => simp [h1] at h
  | some u =>
    have hu := opnd_sound ht h1
    rw [h1] at h
    have fin : ∀ y, act.eval x = y → (∀ f i c, y ≠ .func (.method f) i c) → y ≠ .pointer none → y ≠ .nilIface → y ≠ .nilFunc → VRel m u y → some (R.val u, s) = some (r, s') → OpOK C B X m s' w r ((execOp act.eval o).run C.P w) := by
      intro y hy h1 h2 h3 h4 hv he
      cases he
      refine ⟨.value y, w, m, ?_, Le.refl _, hs, Below.refl _ _, hv⟩
      unfold execOp
      simp only [ho, hy]
      first | rfl | (split <;> first | rfl | (simp_all; done))
    cases u <;> try (simp at h; done)
    · rename_i p
      cases p with
      | none => simp at h
      | some p => obtain ⟨p', hp, e⟩ := ptr_inv hu; exact fin _ e (by simp) (by simp) (by simp) (by simp) (e ▸ hu) h
    · rename_i p k c
      generalize hy : act.eval x = y at hu
      cases hu with
      | plain v hp => exact fin _ hy (by simp) (by simp) (by simp) (by simp) (.plain _ hp) h
      | slice b b' n c c' g1 g2 g3 => exact fin _ hy (by simp) (by simp) (by simp) (by simp) (.slice _ _ _ _ _ g1 g2 g3) h
      | slice0 b b' hb0 => exact fin _ hy (by simp) (by simp) (by simp) (by simp) (.slice0 _ _ hb0) h
    · rename_i p
      generalize hy : act.eval x = y at hu
      cases hu with
      | plain v hp => exact fin _ hy (by simp) (by simp) (by simp) (by simp) (.plain _ hp) h
      | map b i hm => exact fin _ hy (by simp) (by simp) (by simp) (by simp) (.map b i hm) h
    · rename_i fn f c
      generalize hy : act.eval x = y at hu
      cases hu with
      | plain v hp => simp [plainV] at hp
      | func f fs fs' cs cs' e1 e2 e3 e4 => exact fin _ hy (by simp) (by simp) (by simp) (by simp) (.func _ _ _ _ _ e1 e2 e3 e4) h
      | yield b i hm => simp at h
    · obtain ⟨u', hp, e⟩ := iface_inv hu; exact fin _ e (by simp) (by simp) (by simp) (by simp) (e ▸ hu) h

theorem unOp_sound (hs : SR B X m s w) (ht : TR m n a act) {op : UnOp} {x : Operand} {r : R} (h : opUnOp op x C a s = some (r, s')) :
    OpOK C B X m s' w r ((do let z ← Op.unary op (act.eval x); pure (Next.value z) : Sem Next).run C.P w) := by
  unfold opUnOp at h
  cases h1 : opnd a x with
  | none => simp [h1] at h
  | some u =>
    cases h2 : plainV u with
    | false => simp [h1, h2] at h
    | true =>
      cases h3 : pureRun C.P (Op.unary op u) with
      | none => simp [h1, h2, h3] at h
      | some z =>
        cases h4 : plainV z with
        | false => simp [h1, h2, h3, h4] at h
        | true =>
          simp [h1, h2, h3, h4] at h
          obtain ⟨rfl, rfl⟩ := h
          rw [plain_inv (opnd_sound ht h1) h2]
          exact VOK.op (VOK.same hs (pureRun_run _ _ h3 w) (.plain _ h4))

theorem makeInterface_sound (hC : CtxOK ω C) (hs : SR B X m s w) (ht : TR m n a act) {t : TypeId} {x : Operand} {r : R} (h : opMakeInterface t x C a s = some (r, s')) :
    OpOK C B X m s' w r ((do let z ← Instr.makeInterface t (act.eval x); pure (Next.value z) : Sem Next).run C.P w) := by
  unfold opMakeInterface at h
  cases h1 : opnd a x with
  | none => simp [h1] at h
  | some u =>
    cases h2 : C.un t with
    | none => simp [h1, h2] at h
    | some d =>
      have hd := hC.un t d h2
      refine (fun (key : some (R.val (.iface t u), s) = some (r, s') ∧ (Instr.makeInterface t (act.eval x)).run C.P w = .ok (.iface t (act.eval x)) w) => ?_) ?_
      · obtain ⟨he, hr⟩ := key
        cases he
        exact VOK.op (VOK.same hs hr (.iface t _ _ (opnd_sound ht h1)))
      · cases d <;> first | (simp [h1, h2] at h; done) | exact ⟨by simpa [h1, h2] using h, by simp [Instr.makeInterface, run_underlying hd]⟩

theorem makeFunc_sound (hs : SR B X m s w) (ht : TR m n a act) {f : FuncId} {fs cs : Array Operand} {r : R} (h : opMakeFunc f fs cs C a s = some (r, s')) :
    OpOK C B X m s' w r ((do let z ← Instr.makeFunc (.func f) (fs.map act.eval) (cs.map act.eval); pure (Next.value z) : Sem Next).run C.P w) := by
  unfold opMakeFunc at h
  cases h1 : opnds a fs.toList with
  | none => simp [h1] at h
  | some l =>
    cases h2 : opnds a cs.toList with
    | none => simp [h1, h2] at h
    | some k =>
      simp [h1, h2] at h
      obtain ⟨rfl, rfl⟩ := h
      have g1 := opnds_sound ht h1
      have g2 := opnds_sound ht h2
      have e1 : fs.map act.eval = (fs.toList.map act.eval).toArray := by apply Array.ext'; simp
      have e2 : cs.map act.eval = (cs.toList.map act.eval).toArray := by apply Array.ext'; simp
      rw [e1, e2]
      exact VOK.op (VOK.same hs rfl (.func f _ _ _ _ (by simpa using g1.1) (by simpa using g2.1) g1.arr g2.arr))

theorem makeMap_new (hB : B ≤ w.heap.size) {t : TypeId} {o : AObj} {f : Nat → Value} (h : alMakeMap C a = some (o, f)) :
    NewOK B m w o f ((do let z ← Instr.makeMap t none; pure (Next.value z) : Sem Next).run C.P w) := by
  unfold alMakeMap at h
  cases h
  exact ⟨.map (some w.heap.size), w.alloc (.map #[] 0), ⟨w.heap.size, 0, 0, 0, false, 0⟩, by simp [Instr.makeMap], rfl, by simp, fun k hk => Below.heap_alloc w _ k hk, (Below.refl _ _).alloc hB _,
    ⟨[], heap_alloc_new w _, rfl, fun k e e' h => by simp at h⟩, fun m' b hb => .map b _ hb⟩

theorem extract_sound (hs : SR B X m s w) (ht : TR m n a act) {x : Operand} {i : Nat} {r : R} (h : opExtract x i C a s = some (r, s')) :
    OpOK C B X m s' w r ((do let z ← Instr.extract (act.eval x) i; pure (Next.value z) : Sem Next).run C.P w) := by
  unfold opExtract at h
  cases h1 : opnd a x with
  | none => simp [h1] at h
  | some u =>
    have hu := opnd_sound ht h1
    rw [h1] at h
    cases u <;> try (simp at h; done)
    rename_i vs
    generalize hy : act.eval x = y at hu
    cases hu with
    | plain v hp => simp [plainV] at hp
    | tuple cs cs' hsz hrel =>
      cases h2 : vs.toList[i]? with
      | none => simp [h2] at h
      | some v =>
        simp only [h2, Option.some.injEq, Prod.mk.injEq] at h
        obtain ⟨rfl, rfl⟩ := h
        have hi : i < vs.size := by have := (List.getElem?_eq_some_iff.1 h2).1; simpa using this
        have e1 := arr_getD vs i hi
        rw [h2] at e1; cases e1
        have e2 : cs'[i]? = some (cs'.getD i undef) := by rw [← Array.getElem?_toList]; exact arr_getD cs' i (by omega)
        exact VOK.op (VOK.same hs (v' := cs'.getD i undef) (by simp only [Instr.extract, e2]; rfl) (hrel i hi))

theorem addr_add {p p' : Addr} {k : Nat} (h : ARel m p p') : ARel m ⟨p.block, p.off + k, p.spot⟩ (p'.add k) := by
  obtain ⟨h1, i, h2, rfl⟩ := h
  refine ⟨h1, i, h2, ?_⟩
  rw [add_lit]; simp; omega

theorem fieldAddr_sound (hC : CtxOK ω C) (hs : SR B X m s w) (ht : TR m n a act) {t : TypeId} {x : Operand} {f : Nat} {r : R} (h : opFieldAddr t x f C a s = some (r, s')) :
    OpOK C B X m s' w r ((do let z ← Instr.fieldAt t (act.eval x) f; pure (Next.value z) : Sem Next).run C.P w) := by
  unfold opFieldAddr at h
  split at h
  · rename_i fs p hu hx
    obtain ⟨p', hp, he⟩ := ptr_inv (opnd_sound ht hx)
    have hun := hC.un t _ hu
    split at h
    · rename_i fl hf
      split at h
      · cases h
      · rename_i k hne hk
        cases h
        obtain ⟨i, hi, rfl⟩ := sizeT_sound hC hk
        have hf' : fs[f]? = some fl := by unfold fieldAt at hf; simpa using hf
        have hz : ¬ i.size = 0 := hne
        exact VOK.op (VOK.same hs (v' := .pointer (some (p'.add fl.offset))) (by simp [Instr.fieldAt, run_underlying hun, hf', he, Instr.sureAddr, fieldPlace, sizeOf, typeInfo, hi, hz]) (.ptr _ _ (addr_add hp)))
      · cases h
    · cases h
  · cases h

theorem indexAddr_sound (hC : CtxOK ω C) (hs : SR B X m s w) (ht : TR m n a act) {t : TypeId} {x i : Operand} {r : R} (h : opIndexAddr t x i C a s = some (r, s')) :
    OpOK C B X m s' w r ((do let z ← Instr.indexAt t (act.eval x) (act.eval i); pure (Next.value z) : Sem Next).run C.P w) := by
  unfold opIndexAddr at h
  split at h
  · rename_i e p k c kk q hu hx hi
    obtain ⟨p', c', he, hor⟩ := slice_inv (opnd_sound ht hx)
    have hi' := int_inv (opnd_sound ht hi)
    have hun := hC.un t _ hu
    split at h
    · rename_i sz hz
      split at h
      · rename_i hb
        cases h
        obtain ⟨ti, hti, rfl⟩ := sizeT_sound hC hz
        rcases hor with ⟨hp, _, _⟩ | ⟨rfl, _, _⟩
        · exact VOK.op (VOK.same hs (v' := .pointer (some (p'.add (q.toNat * ti.size)))) (by simp [Instr.indexAt, run_underlying hun, he, hi', asIntOf, sizeOf, typeInfo, hti, hb.1, hb.2]) (.ptr _ _ (addr_add hp)))
        · omega
      · cases h
    · cases h
  · rename_i k e p kk q hu hx hi
    obtain ⟨p', hp, he⟩ := ptr_inv (opnd_sound ht hx)
    have hi' := int_inv (opnd_sound ht hi)
    have hun := hC.un t _ hu
    split at h
    · rename_i sz hz
      split at h
      · rename_i hb
        cases h
        obtain ⟨ti, hti, rfl⟩ := sizeT_sound hC hz
        exact VOK.op (VOK.same hs (v' := .pointer (some (p'.add (q.toNat * ti.size)))) (by simp [Instr.indexAt, run_underlying hun, he, hi', asIntOf, Instr.sureAddr, sizeOf, typeInfo, hti, hb.1, hb.2]) (.ptr _ _ (addr_add hp)))
      · cases h
    · cases h
  · cases h
end
end Go.Proofs.YtenfkghoolegfaaGreatDoor.Ev
