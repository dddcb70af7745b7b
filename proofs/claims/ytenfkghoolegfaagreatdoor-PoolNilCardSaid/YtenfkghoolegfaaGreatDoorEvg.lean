/- An interpreter over an abstract memory, part g: more operations: slices, fields, conversions, maps. -/
import Derived.Test.YtenfkghoolegfaaGreatDoorEvf
namespace Go.Proofs.YtenfkghoolegfaaGreatDoor.Ev
open Go.RowKit
variable {ω : Nat → Value}
section
variable {C : Ctx} {B : Nat} {X : Aux} {m : M ω} {s s' : AS} {w : World} {a : T Value} {act : Act} {n : Nat}

/-- A slice's own bounds. -/
theorem bnd_sound (ht : TR m n a act) {x : Option Operand} {v : Option Int} (h : bnd a x = some v) :
    (x = none ∧ v = none) ∨ ∃ o k q, x = some o ∧ v = some q ∧ act.eval o = .int k q := by
  cases x with
  | none => simp [bnd] at h; exact .inl ⟨rfl, h.symm⟩
  | some o =>
    simp only [bnd] at h
    cases h1 : opnd a o with
    | none => simp [h1] at h
    | some u =>
      rw [h1] at h
      cases u <;> try (simp at h; done)
      rename_i k q
      simp at h
      exact .inr ⟨o, k, q, rfl, h.symm, int_inv (opnd_sound ht h1)⟩

theorem chk_sound {v : Int} {y i : Nat} (h : chk v y = some i) (k : IntKind) (code : BoundsCode) : (Instr.sliceBound (.int k v) y code).run C.P w = .ok i w := by
  unfold chk at h
  split at h
  · rename_i hb
    cases h
    simp [Instr.sliceBound, asIntOf, hb.1, hb.2]
  · cases h

theorem cut_sound (ht : TR m n a act) (isSl : Bool) {k c : Nat} {lo hi mx : Option Operand} {l h x : Option Int} (h1 : bnd a lo = some l) (h2 : bnd a hi = some h) (h3 : bnd a mx = some x) {r : Nat × Nat × Nat} (hc : cut k c l h x = some r) :
    (Instr.sliceBounds isSl k c (lo.map act.eval) (hi.map act.eval) (mx.map act.eval)).run C.P w = .ok r w := by
  rcases bnd_sound ht h3 with ⟨rfl, rfl⟩ | ⟨ox, kx, qx, rfl, rfl, ex⟩
  · simp only [cut] at hc
    rcases bnd_sound ht h2 with ⟨rfl, rfl⟩ | ⟨oh, kh, qh, rfl, rfl, eh⟩
    · simp only [cutHi] at hc
      rcases bnd_sound ht h1 with ⟨rfl, rfl⟩ | ⟨ol, kl, ql, rfl, rfl, el⟩
      · simp only [cutLo, Option.some.injEq] at hc
        subst hc
        simp [Instr.sliceBounds]
      · simp only [cutLo] at hc
        split at hc
        · rename_i i hi
          simp only [Option.some.injEq] at hc
          subst hc
          simp [Instr.sliceBounds, el, chk_sound (C := C) (w := w) hi kl]
        · cases hc
    · simp only [cutHi] at hc
      split at hc
      · rename_i hh hq
        rcases bnd_sound ht h1 with ⟨rfl, rfl⟩ | ⟨ol, kl, ql, rfl, rfl, el⟩
        · simp only [cutLo, Option.some.injEq] at hc
          subst hc
          simp [Instr.sliceBounds, eh, chk_sound (C := C) (w := w) hq kh]
        · simp only [cutLo] at hc
          split at hc
          · rename_i i hi
            simp only [Option.some.injEq] at hc
            subst hc
            simp [Instr.sliceBounds, el, chk_sound (C := C) (w := w) hi kl, eh, chk_sound (C := C) (w := w) hq kh]
          · cases hc
      · cases hc
  · simp only [cut] at hc
    split at hc
    · rename_i mm uu hq
      rcases bnd_sound ht h2 with ⟨rfl, e⟩ | ⟨oh, kh, qh, rfl, e, eh⟩
      · cases e
      · cases e
        simp only [cutHi] at hc
        split at hc
        · rename_i hh hq2
          rcases bnd_sound ht h1 with ⟨rfl, rfl⟩ | ⟨ol, kl, ql, rfl, rfl, el⟩
          · simp only [cutLo, Option.some.injEq] at hc
            subst hc
            simp [Instr.sliceBounds, eh, ex, chk_sound (C := C) (w := w) hq kx, chk_sound (C := C) (w := w) hq2 kh]
          · simp only [cutLo] at hc
            split at hc
            · rename_i i hi
              simp only [Option.some.injEq] at hc
              subst hc
              simp [Instr.sliceBounds, el, chk_sound (C := C) (w := w) hi kl, eh, ex, chk_sound (C := C) (w := w) hq kx, chk_sound (C := C) (w := w) hq2 kh]
            · cases hc
        · cases hc
    · cases hc

theorem chk_le {v : Int} {y i : Nat} (h : chk v y = some i) : i ≤ y := by
  unfold chk at h
  split at h
  · cases h; omega
  · cases h
theorem cut_le {k c : Nat} {lo hi mx : Option Int} {i j q : Nat} (hk : k ≤ c) (h : cut k c lo hi mx = some (i, j, q)) : i ≤ j ∧ j ≤ q ∧ q ≤ c ∧ (mx = none → q = c) := by
  have low : ∀ (hh mm : Nat), cutLo hh mm lo = some (i, j, q) → i ≤ hh ∧ j = hh ∧ q = mm := by
    intro hh mm hr
    cases lo with
    | none => simp [cutLo] at hr; omega
    | some v =>
      simp only [cutLo] at hr
      split at hr
      · rename_i x hx; simp at hr; have := chk_le hx; omega
      · cases hr
  cases mx with
  | none =>
    simp only [cut] at h
    cases hi with
    | none => simp only [cutHi] at h; have := low _ _ h; exact ⟨by omega, by omega, by omega, fun _ => by omega⟩
    | some v =>
      simp only [cutHi] at h
      split at h
      · rename_i x hx; have := chk_le hx; have := low _ _ h; exact ⟨by omega, by omega, by omega, fun _ => by omega⟩
      · cases h
  | some v =>
    simp only [cut] at h
    split at h
    · rename_i mm uu hq
      simp only [cutHi] at h
      split at h
      · rename_i x hx; have := chk_le hx; have := chk_le hq; have := low _ _ h; exact ⟨by omega, by omega, by omega, fun e => by cases e⟩
      · cases h
    · cases h

/-- More room behind: the same cut. -/
theorem cut_wider {k c c' : Nat} {lo hi mx : Option Int} {i j q : Nat} (hc : c ≤ c') (h : cut k c lo hi mx = some (i, j, q)) : ∃ q', cut k c' lo hi mx = some (i, j, q') ∧ (q = q' ∨ (q = c ∧ q' = c')) := by
  have chkw : ∀ (v : Int) (x : Nat), chk v c = some x → chk v c' = some x := by
    intro v x hx
    unfold chk at hx ⊢
    split at hx
    · cases hx; rw [if_pos (by omega)]
    · cases hx
  have low : ∀ (hh mm mm' : Nat) (l : Option Int), cutLo hh mm l = some (i, j, q) → q = mm ∧ cutLo hh mm' l = some (i, j, mm') := by
    intro hh mm mm' l hr
    cases l with
    | none => simp [cutLo] at hr ⊢; omega
    | some v =>
      simp only [cutLo] at hr ⊢
      split at hr
      · rename_i x hx; simp at hr ⊢; omega
      · cases hr
  cases mx with
  | none =>
    simp only [cut] at h ⊢
    cases hi with
    | none => simp only [cutHi] at h ⊢; obtain ⟨e, h'⟩ := low _ _ c' _ h; exact ⟨c', h', .inr ⟨e, rfl⟩⟩
    | some v =>
      simp only [cutHi] at h ⊢
      split at h
      · rename_i x hx; rw [chkw v x hx]; obtain ⟨e, h'⟩ := low _ _ c' _ h; exact ⟨c', h', .inr ⟨e, rfl⟩⟩
      · cases h
  | some v =>
    simp only [cut] at h ⊢
    split at h
    · rename_i mm uu hq; rw [chkw v mm hq]; exact ⟨q, h, .inl rfl⟩
    · cases h

/-- A slice that was cut out of another one. -/
theorem cut_rel {p p' : Addr} {c c' i j q sz : Nat} (ha : ARel m p p') (hle : i ≤ j ∧ j ≤ q) (hq : q ≤ c) (q' : Nat) (h : q = q' ∨ (q = c ∧ q' = c' ∧ CRel m p c c' ∧ ∀ x, m p.block = some x → x.opn = true → x.esz = sz)) :
    VRel m (.slice (some ⟨p.block, p.off + i * sz, p.spot⟩) (j - i) (q - i)) (.slice (if q' = i then some p' else some (p'.add (i * sz))) (j - i) (q' - i)) := by
  have hqq : q ≤ q' := by
    rcases h with rfl | ⟨rfl, rfl, hc, _⟩
    · exact Nat.le_refl _
    · rcases hc with rfl | ⟨h, _⟩
      · exact Nat.le_refl _
      · exact h
  by_cases hi : q' = i
  · rw [if_pos hi, show j - i = 0 by omega, show q - i = 0 by omega, show q' - i = 0 by omega]
    exact .slice0 _ _ (ha.2.imp fun i hi => hi.1)
  · rw [if_neg hi]
    refine .slice _ _ _ _ _ (addr_add ha) ?_ (by omega)
    rcases h with rfl | ⟨rfl, rfl, hc, hx⟩
    · exact .inl rfl
    · rcases hc with rfl | ⟨h1, x, h2, h3, h4, h5⟩
      · exact .inl rfl
      · have he := hx x h2 h3
        refine .inr ⟨by omega, x, h2, h3, ?_, ?_⟩
        · show p.off + i * sz + (q - i) * x.esz = x.len
          rw [he] at h4 ⊢
          rw [Nat.add_assoc, ← Nat.add_mul, show i + (q - i) = q by omega]; exact h4
        · show x.d + (p.off + i * sz) + (q' - i) * x.esz ≤ x.tot
          rw [he] at h5 ⊢
          have : i * sz + (q' - i) * sz = q' * sz := by rw [← Nat.add_mul]; congr 1; omega
          omega

theorem slice_sound (hC : CtxOK ω C) (hs : SR B X m s w) (ht : TR m n a act) {t : TypeId} {x : Operand} {lo hi mx : Option Operand} {r : R} (h : opSlice t x lo hi mx C a s = some (r, s')) :
    OpOK C B X m s' w r ((do let z ← Instr.sliceAt t (act.eval x) (lo.map act.eval) (hi.map act.eval) (mx.map act.eval); pure (Next.value z) : Sem Next).run C.P w) := by
  unfold opSlice at h
  split at h
  · rename_i v l hh mm hx h1 h2 h3
    have hv := opnd_sound ht hx
    split at h
    · rename_i e p k c hu
      have hun := hC.un t _ hu
      split at h
      · rename_i i j q sz hcut hsz
        obtain ⟨ti, hti, rfl⟩ := sizeT_sound hC hsz
        split at h
        · cases h
          generalize hy : act.eval x = y at hv
          cases hv with
          | plain v hp =>
            have hkc : k = 0 ∧ c = 0 := by
              cases k <;> cases c <;> simp [plainV] at hp <;> exact ⟨rfl, rfl⟩
            obtain ⟨rfl, rfl⟩ := hkc
            have hb := cut_sound (C := C) (w := w) ht true h1 h2 h3 hcut
            have hle := cut_le (Nat.le_refl 0) hcut
            have e1 : i = 0 := by omega
            have e2 : j = 0 := by omega
            have e3 : q = 0 := by omega
            subst e1 e2 e3
            exact VOK.op (VOK.same hs (v' := .slice none 0 0) (by simp [Instr.sliceAt, Instr.slice, run_underlying hun, hb, sizeOf, typeInfo, hti]) (.plain _ rfl))
        · rename_i ad
          obtain ⟨p', c', hy, hor⟩ := slice_inv hv
          have fin : ∀ (hb : ∃ k, blkAt s ad.block = some k ∧ (k.opn = true → k.esz = ti.size)), some (R.val (.slice (some ⟨ad.block, ad.off + i * ti.size, ad.spot⟩) (j - i) (q - i)), s) = some (r, s') →
              OpOK C B X m s' w r ((do let z ← Instr.sliceAt t (act.eval x) (lo.map act.eval) (hi.map act.eval) (mx.map act.eval); pure (Next.value z) : Sem Next).run C.P w) := by
            rintro ⟨kb, hkb, hez⟩ he
            cases he
            obtain ⟨ib, g1⟩ := slice_map hv
            obtain ⟨g2, ⟨g3, g4, g5, _⟩, _, _⟩ := blk_at hs hkb g1
            rcases hor with ⟨hp, hcr, hkc⟩ | ⟨rfl, rfl, rfl⟩
            · have hle := cut_le hkc hcut
              -- the bounds, as the world has them
              obtain ⟨q', hb', hq'⟩ : ∃ q', (Instr.sliceBounds true k c' (lo.map act.eval) (hi.map act.eval) (mx.map act.eval)).run C.P w = .ok (i, j, q') w ∧ (q = q' ∨ (q = c ∧ q' = c')) := by
                rcases hcr with rfl | ⟨hcc, _⟩
                · exact ⟨q, cut_sound (C := C) (w := w) ht true h1 h2 h3 hcut, .inl rfl⟩
                · obtain ⟨q', h4, h5⟩ := cut_wider hcc hcut
                  exact ⟨q', cut_sound (C := C) (w := w) ht true h1 h2 h3 h4, h5⟩
              refine VOK.op (VOK.same hs (v' := .slice (if q' = i then some p' else some (p'.add (i * ti.size))) (j - i) (q' - i)) ?_ ?_)
              · simp [Instr.sliceAt, Instr.slice, run_underlying hun, hy, hb', sizeOf, typeInfo, hti]
              · refine cut_rel (c' := c') hp ⟨hle.1, hle.2.1⟩ hle.2.2.1 q' ?_
                rcases hq' with e | ⟨e1, e2⟩
                · exact .inl e
                · exact .inr ⟨e1, e2, hcr, fun x hx ho => by rw [g1] at hx; cases hx; rw [g5]; exact hez (by rw [← g4]; exact ho)⟩
            · have hb := cut_sound (C := C) (w := w) ht true h1 h2 h3 hcut
              have hle := cut_le (Nat.le_refl 0) hcut
              have e1 : i = 0 := by omega
              have e2 : j = 0 := by omega
              have e3 : q = 0 := by omega
              subst e1 e2 e3
              exact VOK.op (VOK.same hs (v' := .slice (some p') 0 0) (by simp [Instr.sliceAt, Instr.slice, run_underlying hun, hy, hb, sizeOf, typeInfo, hti]) (.slice0 _ _ ⟨ib, g1⟩))
          split at h
          · rename_i kb hkb
            cases ho : kb.opn with
            | false => rw [ho] at h; exact fin ⟨kb, hkb, fun e => by rw [ho] at e; cases e⟩ h
            | true =>
              rw [ho] at h
              cases hz : Nat.beq kb.esz ti.size with
              | false => rw [hz] at h; cases h
              | true => rw [hz] at h; exact fin ⟨kb, hkb, fun _ => Nat.eq_of_beq_eq_true hz⟩ h
          · cases h
      · cases h
    · rename_i b hu
      have hun := hC.un t _ hu
      have hy := str_inv hv
      split at h
      · rename_i i j q hcut
        cases h
        rcases bnd_sound ht h3 with ⟨rfl, _⟩ | ⟨_, _, _, _, e, _⟩
        · have hb := cut_sound (C := C) (w := w) (mx := none) ht false h1 h2 h3 hcut
          exact VOK.op (VOK.same hs (v' := .string (b.extract i j)) (by simp at hb; simp [Instr.sliceAt, Instr.slice, run_underlying hun, hy, hb]) (.plain _ rfl))
        · cases e
      · cases h
    · rename_i k e ad hu
      have hun := hC.un t _ hu
      obtain ⟨p', hp, hy⟩ := ptr_inv hv
      split at h
      · rename_i i j q sz hcut hsz
        cases h
        obtain ⟨ti, hti, rfl⟩ := sizeT_sound hC hsz
        have hb := cut_sound (C := C) (w := w) ht false h1 h2 h3 hcut
        have hle := cut_le (Nat.le_refl _) hcut
        refine VOK.op (VOK.same hs (v' := .slice (if q = i then some p' else some (p'.add (i * ti.size))) (j - i) (q - i)) ?_ (cut_rel (c' := q) hp ⟨hle.1, hle.2.1⟩ (Nat.le_refl _) q (.inl rfl)))
        simp [Instr.sliceAt, run_underlying hun, hy, Instr.sureAddr, hb, sizeOf, typeInfo, hti]
        split <;> rfl
      · cases h
    · cases h
  · cases h

theorem repL_len (z : List Value) : ∀ k, (repL k z).length = k * z.length
  | 0 => by simp [repL]
  | k + 1 => by rw [repL, List.length_append, repL_len z k, Nat.add_mul]; omega
theorem repL_get (z : List Value) : ∀ (k i : Nat), i < k * z.length → (repL k z)[i]? = z[i % z.length]?
  | 0, i, h => by simp at h
  | k + 1, i, h => by
    rw [repL]
    by_cases hi : i < z.length
    · rw [List.getElem?_append_left hi, Nat.mod_eq_of_lt hi]
    · rw [List.getElem?_append_right (by omega), repL_get z k (i - z.length) (by rw [Nat.add_mul] at h; omega)]
      congr 1
      rw [← Nat.mod_eq_sub_mod (by omega)]
theorem repL_plain (z : List Value) (h : z.all plainV = true) : ∀ k, (repL k z).all plainV = true
  | 0 => rfl
  | k + 1 => by rw [repL, List.all_append, h, repL_plain z h k]; rfl

/-- The cells of so many zero values, as the model writes them. -/
theorem rep_arr (z : Array Value) (k : Nat) : (Array.range (k * z.size)).map (fun i => z[i % z.size]!) = (repL k z.toList).toArray := by
  apply Array.ext'
  apply List.ext_getElem?
  intro i
  by_cases hi : i < k * z.size
  · have hz : 0 < z.size := by rcases Nat.eq_zero_or_pos z.size with h | h
                               · rw [h] at hi; simp at hi
                               · exact h
    have hm : i % z.size < z.size := Nat.mod_lt _ hz
    show _ = (repL k z.toList)[i]?
    rw [repL_get z.toList k i (by simpa using hi)]
    simp [hi, hm]
  · rw [List.getElem?_eq_none (by simp; omega), List.getElem?_eq_none (by simp [repL_len]; omega)]

theorem zero_cells_run (hC : CtxOK ω C) {e : TypeId} {z : List Value} (h : zeroC C e = some z) : (zeroValue e).run C.P w = .ok (.agg z.toArray) w ∨ ∃ v, z = [v] ∧ (zeroValue e).run C.P w = .ok v w := by
  obtain ⟨i, v, h1, h2, h3, _, _⟩ := zeroC_sound hC h
  have hr : (zeroValue e).run C.P w = .ok v w := by simp [zeroValue, typeInfo, h1, h2]
  cases v <;> first
    | (left; rw [hr, h3]; rfl)
    | (right; exact ⟨_, h3, hr⟩)

theorem makeSlice_new (hC : CtxOK ω C) (ht : TR m n a act) (hB : B ≤ w.heap.size) {t : TypeId} {l c : Operand} {o : AObj} {f : Nat → Value} (h : alMakeSlice t l c C a = some (o, f)) :
    NewOK B m w o f ((do let z ← Instr.makeSlice t (act.eval l) (act.eval c); pure (Next.value z) : Sem Next).run C.P w) := by
  unfold alMakeSlice at h
  split at h
  · rename_i e kq q kk k hu hl hc
    have hun := hC.un t _ hu
    have hl' := int_inv (opnd_sound ht hl)
    have hc' := int_inv (opnd_sound ht hc)
    split at h
    · rename_i ti z hti hz
      split at h
      · rename_i hb
        simp only [Option.some.injEq, Prod.mk.injEq] at h
        obtain ⟨rfl, rfl⟩ := h
        obtain ⟨i, v, hi, hzv, rfl, hp, hlen⟩ := zeroC_sound hC hz
        have hti' := hC.ty _ _ hti
        rw [hi] at hti'; cases hti'
        refine ⟨.slice (some ⟨w.heap.size, 0, none⟩) q.toNat k.toNat, w.alloc (.cells (repL k.toNat (cellsOf v)).toArray e), _, ?_, rfl, by simp, fun k hk => Below.heap_alloc w _ k hk, (Below.refl _ _).alloc hB _,
          blk_new (LRel.plain (m := m) (repL_plain _ hp k.toNat)) e 0, fun m' b hb => .slice _ _ _ _ _ ⟨rfl, _, hb, rfl⟩ (.inl rfl) (by omega)⟩
        have hby : (ti.bytes : Int) * k ≤ 281474976710656 := by
          have h1 : (ti.bytes : Int) * k ≤ 1000000 * 1000000 := Int.mul_le_mul (by omega) hb.2.2.1 (by omega) (by omega)
          omega
        have hsz : v.cells.size = ti.size := by rw [cells_arr, hlen]; simp
        have hmk := run_make (P := C.P) w t e ti v hun hi hzv kq kk q k hb.1 hb.2.1 hby (by omega)
        rw [hl', hc']
        simp only [Sem.run_bind, hmk, Result.andThen, Sem.run_pure]
        unfold madeCells
        rw [← hsz, rep_arr, cells_list]
      · cases h
    · cases h
  · cases h
end
end Go.Proofs.YtenfkghoolegfaaGreatDoor.Ev
