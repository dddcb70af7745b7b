/- An interpreter over an abstract memory, part k: append is sound; the other builtins. -/
import Derived.Test.YtenfkghoolegfaaGreatDoorEvj
namespace Go.Proofs.YtenfkghoolegfaaGreatDoor.Ev
open Go.RowKit
variable {ω : Nat → Value}
section
variable {C : Ctx} {B : Nat} {X : Aux} {m : M ω} {s s' : AS} {w : World} {a : T Value} {act : Act} {n : Nat}

theorem one_all {l l' : List Value} (h : LRel m l l') (ho : l.all oneV = true) : ∀ u ∈ l', u.oneCell' = true := fun u hu => by
  obtain ⟨j, hj⟩ := List.mem_iff_getElem?.1 hu
  have hjl : j < l.length := by have := (List.getElem?_eq_some_iff.1 hj).1; rw [h.1]; exact this
  exact one_rel (h.2 j _ u (List.getElem?_eq_getElem hjl) hj) (List.all_eq_true.1 ho _ (List.getElem_mem hjl))

theorem readN_zero {p : Addr} {l : List Value} (h : readN s p 0 = some l) : l = [] := by
  unfold readN at h
  split at h
  · rename_i k _ _
    cases hb : Nat.ble (p.off + 0) k.len with
    | false => rw [hb] at h; cases h
    | true => rw [hb] at h; simp only [cond_true, T.range] at h; cases h; rfl
  · cases h
theorem readN_len {p : Addr} {k : Nat} {l : List Value} (h : readN s p k = some l) : l.length = k := by
  unfold readN at h
  split at h
  · rename_i q _ _
    cases hb : Nat.ble (p.off + k) q.len with
    | false => rw [hb] at h; cases h
    | true => rw [hb] at h; simp only [cond_true] at h; exact (T.range_spec _ _ _ _ h).1
  · cases h

theorem src_sound (hs : SR B X m s w) {P : Program} {size k : Nat} {tx : TypeId} {y y' : Value} {new : List Value} (hy : VRel m y y') (h : srcCells s size y = some (k, new)) (ho : new.all oneV = true)
    (hk : (∃ e', P.underlying tx = some (.slice e')) ∧ (∀ b, y ≠ .string b) ∨ P.underlying tx = some .string ∧ size = 1) :
    ∃ news, LRel m new news ∧ Src P size tx y' k news w := by
  unfold srcCells at h
  split at h
  · cases h
    obtain rfl := nilsl_inv hy
    rcases hk with ⟨⟨e', hk⟩, _⟩ | ⟨hk, rfl⟩
    · exact ⟨[], LRel.nil m, Src.ofNil w hk 0⟩
    · exact ⟨[], LRel.nil m, ⟨.inr hk, fun _ => rfl, run_firstCells_none w 1 0 0 0, run_firstCells_none w.drew 1 0 0 0, by simp, fun _ h => by cases h⟩⟩
  · rename_i p q c
    split at h
    · rename_i l hl
      cases h
      obtain ⟨p', c', rfl, hor⟩ := slice_inv hy
      obtain ⟨news, h1, h2, h3⟩ : ∃ news, LRel m new news ∧ news.length = k * size ∧ ∀ j v, news[j]? = some v → w.cell? (p'.add j) = some v := by
        rcases hor with ⟨hp, _, _⟩ | ⟨rfl, _, _⟩
        · exact readN_sound hs hl hp
        · rw [Nat.zero_mul] at hl
          obtain rfl := readN_zero hl
          exact ⟨[], LRel.nil m, by simp, fun j v h => by simp at h⟩
      have e1 := run_firstCells_some (P := P) w size k p' k c' news h2 h3
      have e2 := run_firstCells_some (P := P) w.drew size k p' k c' news h2 (by simpa using h3)
      refine ⟨news, h1, ?_, fun _ => rfl, e1, e2, h2, one_all h1 ho⟩
      rcases hk with ⟨hk, _⟩ | ⟨hk, rfl⟩
      · exact .inl hk
      · exact .inr hk
    · cases h
  · rename_i b
    cases h
    obtain rfl := str_inv hy
    rcases hk with ⟨_, hk⟩ | ⟨hk, rfl⟩
    · exact absurd rfl (hk b)
    · exact ⟨byteCells b, LRel.plain (List.all_eq_true.2 fun v hv => by obtain ⟨_, _, rfl⟩ := List.mem_map.1 hv; rfl), Src.ofString w hk b⟩
  · cases h

theorem appSrc_sound (hC : CtxOK ω C) (hs : SR B X m s w) {e tx : TypeId} {ti : TypeInfo} {z : Value} (hty : C.ty e = some ti) (hz : ti.zero = some z) (hzt : tupB z = false) {dx : TypeDesc} (hdx : C.P.underlying tx = some dx)
    {y y' : Value} {k : Nat} {new : List Value} (hy : VRel m y y') (h : appSrc C e ti.size dx y s = some (k, new)) (ho : new.all oneV = true) :
    ∃ news, LRel m new news ∧ news.length = k * ti.size ∧ ASrc C.P e ti z tx y' k news w := by
  have hzp := hC.zero e ti z hty hz hzt
  unfold appSrc at h
  split at h
  · rename_i kd
    split at h
    · rename_i kk q z' hz'
      obtain ⟨i0, z0, g1, g2, rfl, g4, g5⟩ := zeroC_sound hC hz'
      rw [hC.ty e ti hty] at g1; cases g1
      rw [hz] at g2; cases g2
      split at h
      · rename_i hq
        cases h
        obtain rfl := int_inv hy
        refine ⟨repL q.toNat (cellsOf z), LRel.plain (repL_plain _ g4 _), by rw [repL_len, g5], ⟨.inr ⟨⟨kd, hdx⟩, ⟨kk, by rw [Int.toNat_of_nonneg hq.1]⟩, by omega, by rw [cells_list]⟩⟩⟩
      · cases h
    · cases h
  · rename_i e'
    cases hsl : isSlV y with
    | false => simp [hsl] at h
    | true =>
      simp only [hsl, cond_true] at h
      obtain ⟨news, h1, h2⟩ := src_sound (P := C.P) (tx := tx) hs hy h ho (.inl ⟨⟨e', hdx⟩, fun b e => by rw [e] at hsl; cases hsl⟩)
      exact ⟨news, h1, h2.newsLen, ⟨.inl h2⟩⟩
  · cases hb : Nat.beq ti.size 1 with
    | false => simp [hb] at h
    | true =>
      simp only [hb, cond_true] at h
      have h1 := Nat.eq_of_beq_eq_true hb
      obtain ⟨news, h1, h2⟩ := src_sound (P := C.P) (tx := tx) hs hy h ho (.inr ⟨hdx, h1⟩)
      exact ⟨news, h1, h2.newsLen, ⟨.inl h2⟩⟩
  · cases h

/-- The arm that grows. -/
theorem grown_sound (hs : SR B X m s w) (hB : B ≤ w.heap.size) {l l' : List Value} (hl : LRel m l l') {k size cap : Nat} (hk : l.length = k * size) (hcap : k ≤ cap) {e : TypeId} {z : Array Value} (hz : z.size = size) {r : R}
    (h : grown s l k e size = some (r, s')) :
    ∃ v, r = .val v ∧ ∃ m', Le m m' ∧ SR B X m' s' (w.drew.alloc (.cells (l'.toArray ++ Builtin.zeroCells z (cap - k)) e)) ∧ Below B w (w.drew.alloc (.cells (l'.toArray ++ Builtin.zeroCells z (cap - k)) e)) ∧
      VRel m' v (.slice (some ⟨w.heap.size, 0, none⟩) k cap) := by
  have hsz : (l'.toArray ++ Builtin.zeroCells z (cap - k)).size = cap * size := by
    simp [Builtin.zeroCells, ← hl.1, hk, hz]
    rw [← Nat.add_mul]; congr 1; omega
  obtain ⟨g1, g2⟩ := newOpen_sound (w1 := w.drew.alloc (.cells (l'.toArray ++ Builtin.zeroCells z (cap - k)) e)) (l := l) (c' := l'.toArray ++ Builtin.zeroCells z (cap - k)) (e := e) (fz := (0, 0)) hs hB (by simp) (fun q hq => Below.heap_alloc w.drew _ q hq) false size
    (heap_alloc_new w.drew _) (.inl rfl) (by rw [hsz, hk]; exact Nat.mul_le_mul_right _ hcap) (fun j v hj => by
      obtain ⟨v', h1, h2⟩ := hl.at_ hj
      have hj' : j < l'.length := (List.getElem?_eq_some_iff.1 h1).1
      refine ⟨v', ?_, h2⟩
      rw [Array.getElem?_append_left (by simpa using hj')]
      simpa using h1)
  unfold grown at h
  simp only [newBlk, Option.some.injEq, Prod.mk.injEq] at h
  obtain ⟨rfl, rfl⟩ := h
  refine ⟨_, rfl, _, g2, g1, ((Below.refl B w).drew).alloc hB _, .slice _ _ _ _ _ ⟨rfl, _, ext_same _ _ _, rfl⟩ (.inr ⟨hcap, _, ext_same _ _ _, rfl, ?_, ?_⟩) (Nat.le_refl _)⟩
  · simp [hk]
  · simp [hsz]

theorem appendTo_sound (hC : CtxOK ω C) (hs : SR B X m s w) (hB : B ≤ w.heap.size) {t tx ty e : TypeId} {ti : TypeInfo} {z : Value} (hun : C.P.underlying t = some (.slice e)) (hty : C.ty e = some ti) (hz : ti.zero = some z) (hzt : tupB z = false) (hby : ti.bytes ≤ 1000000)
    {x x' y' : Value} {k : Nat} {new news : List Value} (hx : VRel m x x') (hl : LRel m new news) (hone : new.all oneV = true) (hnl : news.length = k * ti.size) (hsrc : ASrc C.P e ti z tx y' k news w) {r : R}
    (h : appendTo s x k ti.size e new = some (r, s')) : ∃ v, r = .val v ∧ VOK B X m s' w v ((Builtin.append_ #[t, tx] ty #[x', y']).run C.P w) := by
  have hti := hC.ty _ _ hty
  have hzs : z.cells.size = ti.size := by rw [cells_arr, (hC.zero e ti z hty hz hzt).2]; simp
  have hnl' : new.length = k * ti.size := by rw [hl.1, hnl]
  unfold appendTo at h
  split at h
  · obtain rfl := nilsl_inv hx
    cases h0 : Nat.beq k 0 with
    | true =>
      have hk0 := Nat.eq_of_beq_eq_true h0
      subst hk0
      simp only [h0, cond_true, Option.some.injEq, Prod.mk.injEq] at h
      obtain ⟨rfl, rfl⟩ := h
      exact ⟨_, rfl, VOK.same hs (app_room (w' := w) t tx ty e ti z hun hti hz hzs hby none 0 0 y' 0 news hsrc (by omega) (fun p hp => by cases hp) (fun _ => rfl)) (.plain _ rfl)⟩
    | false =>
      have hk0 := Nat.ne_of_beq_eq_false h0
      simp only [h0, cond_false] at h
      cases h1 : Nat.ble k 1000000 with
      | false => simp [h1] at h
      | true =>
        simp only [h1, cond_true] at h
        have h1' := Nat.le_of_ble_eq_true h1
        have hrun := app_grow t tx ty e ti z hun hti hz hzs hby none 0 0 [] (run_firstCells_none w.drew ti.size 0 0 0) y' k news hsrc (by omega) (by omega)
        obtain ⟨v, rfl, m', g1, g2, g3, g4⟩ := grown_sound hs hB hl hnl' (cap := grownCap w (0 + k) 0 e) (by have := grownCap_ge w (0 + k) 0 e; omega) hzs h
        rw [List.nil_append] at hrun
        simp only [Nat.zero_add] at hrun g2 g3 g4
        exact ⟨v, rfl, _, _, m', hrun, g1, g2, g3, g4⟩
  · rename_i p q c
    obtain ⟨p', c', rfl, hor⟩ := slice_inv hx
    cases h1 : Nat.ble (q + k) 1000000 with
    | false => simp [h1] at h
    | true =>
      simp only [h1, cond_true] at h
      have h1' := Nat.le_of_ble_eq_true h1
      have hcc : c ≤ c' := by
        rcases hor with ⟨_, hcr, _⟩ | ⟨_, rfl, rfl⟩
        · rcases hcr with rfl | ⟨h, _⟩
          · exact Nat.le_refl _
          · exact h
        · exact Nat.le_refl _
      unfold appendAt at h
      cases h2 : Nat.ble (q + k) c with
      | true =>
        have h2' := Nat.le_of_ble_eq_true h2
        simp only [h2, cond_true] at h
        split at h
        · rename_i s2 hw
          cases h
          refine ⟨_, rfl, ?_⟩
          rcases hor with ⟨hp, hcr, hqc⟩ | ⟨rfl, rfl, rfl⟩
          · obtain ⟨w', g1, g2, g3⟩ := writeL_sound (P := C.P) hs hw (addr_add hp) hl
            exact ⟨_, w', m, app_room t tx ty e ti z hun hti hz hzs hby (some p') q c' y' k news hsrc (by omega) (fun p0 hp0 => by cases hp0; exact g1) (fun h => by cases h), Le.refl _, g2, g3, .slice _ _ _ _ _ hp hcr (by omega)⟩
          · have hk0 : k = 0 := by omega
            subst hk0
            have hnew : new = [] := List.length_eq_zero_iff.1 (by rw [hnl']; simp)
            have hnews : news = [] := List.length_eq_zero_iff.1 (by rw [hnl]; simp)
            subst hnew; subst hnews
            exact ⟨_, w, m, app_room t tx ty e ti z hun hti hz hzs hby (some p') 0 0 y' 0 [] hsrc (by omega) (fun p0 hp0 => by simp [storeCells]) (fun h => by cases h), Le.refl _, writeNil_sound hs (by have := slice_map hx; exact this) hw, Below.refl _ _, .slice0 _ _ (slice_map hx)⟩
        · cases h
      | false =>
        have h2' : ¬ (q + k ≤ c) := fun hh => by rw [Nat.ble_eq_true_of_le hh] at h2; cases h2
        simp only [h2, cond_false] at h
        split at h
        · rename_i old kb hold hkb
          have hol := readN_len hold
          -- the cells that were there
          obtain ⟨olds, o1, o2, o3⟩ : ∃ olds, LRel m old olds ∧ olds.length = q * ti.size ∧ ∀ j v, olds[j]? = some v → w.cell? (p'.add j) = some v := by
            rcases hor with ⟨hp, _, _⟩ | ⟨rfl, _, _⟩
            · exact readN_sound hs hold hp
            · rw [Nat.zero_mul] at hold
              obtain rfl := readN_zero hold
              exact ⟨[], LRel.nil m, by simp, fun j v h => by simp at h⟩
          have hfirst := run_firstCells_some (P := C.P) w.drew ti.size q p' q c' olds o2 (by simpa using o3)
          have hlen : (old ++ new).length = (q + k) * ti.size := by rw [List.length_append, hol, hnl', Nat.add_mul]
          -- it grows in the world, too
          have grows : ∀ {s0 : AS}, SR B X m s0 w → c' < q + k → grown s0 (old ++ new) (q + k) e ti.size = some (r, s') → ∃ v, r = .val v ∧ VOK B X m s' w v ((Builtin.append_ #[t, tx] ty #[.slice (some p') q c', y']).run C.P w) := by
            intro s0 hs0 hlt hg
            have hrun := app_grow t tx ty e ti z hun hti hz hzs hby (some p') q c' olds hfirst y' k news hsrc hlt h1'
            obtain ⟨v, rfl, m', g1, g2, g3, g4⟩ := grown_sound hs0 hB (o1.append hl) hlen (grownCap_ge w (q + k) c' e) hzs hg
            exact ⟨v, rfl, _, _, m', hrun, g1, g2, g3, g4⟩
          obtain ⟨i, i1⟩ := slice_map hx
          obtain ⟨i2, ⟨a1, a2, a3, a4, cw, fz, hw, hsz, hcell, hfz⟩, i4, i5⟩ := blk_at hs hkb i1
          have fixed : (kb.opn = true → kb.esz = ti.size ∧ p.off + c * ti.size ≠ kb.len) → c' < q + k := by
            intro hno
            rcases hor with ⟨hp, hcr, _⟩ | ⟨_, rfl, rfl⟩
            · rcases hcr with rfl | ⟨_, i', j1, j2, j3, _⟩
              · omega
              · rw [i1] at j1; cases j1
                obtain ⟨x1, x2⟩ := hno (by rw [← a2]; exact j2)
                rw [a3, x1, a1] at j3
                exact absurd j3 x2
            · omega
          cases ho : kb.opn with
          | false =>
            simp only [ho, cond_false] at h
            exact grows hs (fixed (fun e => by rw [ho] at e; cases e)) h
          | true =>
            simp only [ho, cond_true] at h
            cases hez : Nat.beq kb.esz ti.size with
            | false => simp [hez] at h
            | true =>
              simp only [hez, cond_true] at h
              have hez' := Nat.eq_of_beq_eq_true hez
              cases hend : Nat.beq (p.off + c * ti.size) kb.len with
              | false =>
                simp only [hend, cond_false] at h
                exact grows hs (fixed (fun _ => ⟨hez', Nat.ne_of_beq_eq_false hend⟩)) h
              | true =>
                simp only [hend, cond_true] at h
                have hend' := Nat.eq_of_beq_eq_true hend
                cases hel : Nat.beq kb.elem e with
                | false => simp [hel] at h
                | true =>
                have helem := Nat.eq_of_beq_eq_true hel
                simp only [hel, cond_true] at h
                have hkill := kill_sound hs p.block (by rw [i2]; rfl) i1
                by_cases hroom : q + k ≤ c'
                · -- in place
                  rcases hor with ⟨hp, hcr, hqc⟩ | ⟨_, rfl, rfl⟩
                  · obtain ⟨hspot, i', hi', rfl⟩ := hp
                    rw [i1] at hi'; cases hi'
                    have hfit : i.d + p.off + c' * ti.size ≤ i.tot := by
                      rcases hcr with rfl | ⟨_, i', j1, j2, j3, j4⟩
                      · omega
                      · rw [i1] at j1; cases j1; rw [a3, hez'] at j4; exact j4
                    have hmul : (q + k) * ti.size ≤ c' * ti.size := Nat.mul_le_mul_right _ hroom
                    have hqk : q * ti.size + k * ti.size = (q + k) * ti.size := (Nat.add_mul _ _ _).symm
                    have hst := run_storeCells_cells (P := C.P) i.r (i.d + p.off + q * ti.size) news 0 w
                      (fun j hj => by
                        rw [cell_of_row w i.r _ cw kb.elem fz hw]
                        rw [hnl] at hj
                        have hb : i.d + p.off + q * ti.size + j < cw.size := by omega
                        simp [hb])
                      (fun j hj => by
                        simp only [World.frozen?, hw]
                        rw [hnl] at hj
                        rcases hfz with e | ⟨e, _⟩ <;> rw [e] <;> simp
                        omega)
                      (one_all hl hone)
                    simp only [Nat.add_zero] at hst
                    obtain ⟨c2, g1, g2, g3⟩ := heap_setCells news (i.d + p.off + q * ti.size) w cw hw
                    have hrun := app_room (w' := w.setCells i.r (i.d + p.off + q * ti.size) news) t tx ty e ti z hun hti hz hzs hby (some ⟨i.r, i.d + p.off, none⟩) q c' y' k news hsrc hroom (fun p0 hp0 => by cases hp0; rw [add_lit]; exact hst) (fun h => by cases h)
                    simp only [grown, newBlk, Option.some.injEq, Prod.mk.injEq] at h
                    obtain ⟨rfl, rfl⟩ := h
                    have hle : Le m (ext m s.n ⟨i.r, i.d + p.off, (old ++ new).length, ti.size, true, i.tot⟩) := ext_le (hs.freshM s.n (Nat.le_refl _))
                    have hsr := share_sound (i' := ⟨i.r, i.d + p.off, (old ++ new).length, ti.size, true, i.tot⟩) (o' := .cells ⟨T.ofList (old ++ new) 0 .leaf, (old ++ new).length, e, ti.size, true, false⟩)
                      (w1 := w.setCells i.r (i.d + p.off + q * ti.size) news) hs i2 rfl i1 rfl (size_setCells _ _ _) (fun x hx => heap_setCells_other _ _ _ _ hx) ?_
                    · refine ⟨_, rfl, _, _, _, hrun, hle, hsr, below_setCells i4 _ _ _, .slice _ _ _ _ _ ⟨rfl, _, ext_same _ _ _, rfl⟩ (.inr ⟨hroom, _, ext_same _ _ _, rfl, ?_, ?_⟩) (Nat.le_refl _)⟩
                      · simp only [Nat.zero_add]; exact hlen.symm
                      · simpa using hfit
                    · refine ⟨rfl, rfl, rfl, by show i.d + p.off + (old ++ new).length ≤ i.tot; omega, c2, fz, by rw [← helem]; exact g1, by rw [g2]; exact hsz, fun j hj => ?_, by rw [← helem]; exact hfz⟩
                      have hj' : j < (old ++ new).length := hj
                      have hll : (old ++ new).length = (olds ++ news).length := (o1.append hl).1
                      refine ⟨(old ++ new)[j], (olds ++ news)[j]'(by omega), by rw [T.get_ofList, if_pos (by omega)]; simp, ?_, ((o1.append hl).2 j _ _ (List.getElem?_eq_getElem hj') (List.getElem?_eq_getElem (by omega))).mono hle⟩
                      show c2[i.d + p.off + j]? = _
                      rw [g3]
                      by_cases hjo : j < olds.length
                      · rw [if_neg (by omega), List.getElem_append_left hjo]
                        have := o3 j olds[j] (List.getElem?_eq_getElem hjo)
                        rw [add_lit, cell_of_row w i.r _ cw kb.elem fz hw] at this
                        exact this
                      · rw [if_pos (by omega), List.getElem_append_right (by omega), ← List.getElem?_eq_getElem]
                        congr 1; omega
                  · omega
                · exact grows hkill (by omega) h
        · cases h
  · cases h

theorem args2 {x y : Value} {args : Array Value} (hl : LRel m [x, y] args.toList) : ∃ x' y', args = #[x', y'] ∧ VRel m x x' ∧ VRel m y y' := by
  have := hl.1; simp at this
  match args, this, hl with
  | ⟨[u1, u2]⟩, _, hl => exact ⟨u1, u2, rfl, hl.tail.1, hl.tail.2.tail.1⟩
theorem args1 {x : Value} {args : Array Value} (hl : LRel m [x] args.toList) : ∃ x', args = #[x'] ∧ VRel m x x' := by
  have := hl.1; simp at this
  match args, this, hl with
  | ⟨[u1]⟩, _, hl => exact ⟨u1, rfl, hl.tail.1⟩

/-- A block that nothing stands for. -/
theorem SR.garbage (h : SR B X m s w) (o : Obj) : SR B X m s (w.drew.alloc o) := ⟨fun b p i h1 h2 h3 => by
    obtain ⟨k1, k2, k3⟩ := h.rel b p i h1 h2 h3
    exact ⟨k1.other (Below.heap_alloc w.drew _ _ k3), k2, by simp; omega⟩, h.inj, h.freshH, h.freshM, h.gh, fun r p hr => by
    obtain ⟨k1, k2, k3⟩ := h.kp r p hr
    exact ⟨by rw [Below.heap_alloc w.drew _ _ (Array.getElem?_eq_some_iff.1 k1).1]; exact k1, k2, k3⟩, fun b i hi => by have := h.lt b i hi; simp; omega⟩

theorem any_one : ∀ n : Nat, (repL n [Value.chan none]).all oneV = true
  | 0 => rfl
  | n + 1 => by rw [repL, List.all_append, any_one n]; rfl
theorem any_rel : ∀ (n : Nat) (news : List Value), news.length = n → (∀ u ∈ news, oneV u = true) → LRel m (repL n [Value.chan none]) news
  | 0, [], _, _ => LRel.nil m
  | 0, _ :: _, h, _ => by simp at h
  | n + 1, [], h, _ => by simp at h
  | n + 1, u :: us, h, h1 => LRel.cons (.any u (h1 u (by simp))) (any_rel n us (by simpa using h) (fun v hv => h1 v (by simp [hv])))
theorem appendTok_sound (hC : CtxOK ω C) (hs : SR B X m s w) (hB : Bs ω C B w) {t tx ty : TypeId} {x x' : Value} {k : Nat} (hx : VRel m x x') (hy : VRel m (.chan (some k)) (ω k)) {r : R} (h : appendTok C t tx x k s = some (r, s')) :
    OpOK C B X m s' w r ((do let z ← Builtin.append_ #[t, tx] ty #[x', ω k]; pure (Next.value z) : Sem Next).run C.P w) := by
  unfold appendTok at h
  split at h
  · rename_i e e' hu hux
    have hun := hC.un _ _ hu
    have hunx := hC.un _ _ hux
    split at h
    · rename_i ti hty
      cases hc : (C.rd k && (emptyV s x && (Nat.beq ti.size 1 && (Nat.ble ti.bytes 1000000 && hasZero ti)))) with
      | false => rw [hc] at h; cases h
      | true =>
        rw [hc] at h
        simp only [cond_true] at h
        simp only [Bool.and_eq_true] at hc
        obtain ⟨hrd, hem, hsz, hby, hhz⟩ := hc
        have hsz' := Nat.eq_of_beq_eq_true hsz
        have hby' := Nat.le_of_ble_eq_true hby
        obtain ⟨z, hz, hzt⟩ : ∃ z, ti.zero = some z ∧ tupB z = false := by
          unfold hasZero at hhz
          split at hhz
          · rename_i z hz; exact ⟨z, hz, by simpa using hhz⟩
          · cases hhz
        have hti := hC.ty _ _ hty
        have hzs : z.cells.size = ti.size := by rw [cells_arr, (hC.zero e ti z hty hz hzt).2]; simp
        split at h
        · rename_i n hln
          obtain ⟨v', hr, hvv⟩ := hC.len tx (some k) _ hln m (ω k) ty w hy
          obtain rfl := int_inv hvv
          rcases hB.rd k hrd with e0 | ⟨p, n', c, news, e0, h2, h3, h4, h5, h6⟩
          · rw [e0] at hr
            simp [Builtin.len_, run_underlying hunx, goInt] at hr
            obtain rfl : n = 0 := by omega
            obtain ⟨v, rfl, hv⟩ := appendTo_sound (ty := ty) (y' := ω k) (news := []) hC hs hB.le hun hty hz hzt hby' hx (any_rel 0 [] rfl (fun u hu => by cases hu)) (any_one 0) (by simp) ⟨.inl (by rw [e0]; exact Src.ofNil w hunx 0)⟩ h
            exact VOK.op hv
          · rw [e0] at hr
            simp [Builtin.len_, run_underlying hunx, goInt] at hr
            obtain rfl : n' = n := by omega
            obtain ⟨v, rfl, hv⟩ := appendTo_sound (ty := ty) (y' := ω k) (news := news) hC hs hB.le hun hty hz hzt hby' hx (any_rel _ news h4 h6) (any_one _) (by rw [h4, hsz']; omega) ⟨.inl (by rw [e0]; exact Src.ofSlice w hunx p _ c news (by rw [hsz']; omega) h5 (fun u hu => oneV_cell (h6 u hu)))⟩ h
            exact VOK.op hv
        cases h
        -- the slice without places
        obtain ⟨p', rfl⟩ : ∃ p', x' = .slice (some p') 0 0 := by
          unfold emptyV at hem
          split at hem
          · rename_i a
            split at hem
            · rename_i q hq
              obtain ⟨p', c', rfl, hor⟩ := slice_inv hx
              obtain ⟨i, hi⟩ := slice_map hx
              obtain ⟨_, ⟨_, a2, _⟩, _⟩ := blk_at hs hq hi
              rcases hor with ⟨_, hcr, _⟩ | ⟨_, _, rfl⟩
              · rcases hcr with rfl | ⟨_, j, j1, j2, _⟩
                · exact ⟨p', rfl⟩
                · rw [hi] at j1; cases j1
                  rw [← a2, j2] at hem; cases hem
              · exact ⟨p', rfl⟩
            · cases hem
          · cases hem
        -- what came in
        have go : ∀ (n : Nat) (news : List Value), n ≤ 1000000 → Src C.P ti.size tx (ω k) n news w → OpOK C B X m s w (.val (.chan none)) ((do let z ← Builtin.append_ #[t, tx] ty #[.slice (some p') 0 0, ω k]; pure (Next.value z) : Sem Next).run C.P w) := by
          intro n news hn hsrc
          have hAS : ASrc C.P e ti z tx (ω k) n news w := ⟨.inl hsrc⟩
          by_cases h0 : n = 0
          · subst h0
            have hnil : news = [] := List.length_eq_zero_iff.1 (by rw [hsrc.newsLen]; simp)
            subst hnil
            have hrun := app_room (w' := w) t tx ty e ti z hun hti hz hzs hby' (some p') 0 0 (ω k) 0 [] hAS (by omega) (fun p hp => by simp [storeCells]) (fun h => by cases h)
            exact VOK.op ⟨_, w, m, hrun, Le.refl _, hs, Below.refl _ _, .any _ rfl⟩
          · have hfirst := run_firstCells_some (P := C.P) w.drew ti.size 0 p' 0 0 [] (by simp) (fun j v h => by simp at h)
            have hrun := app_grow t tx ty e ti z hun hti hz hzs hby' (some p') 0 0 [] hfirst (ω k) n news hAS (by omega) (by omega)
            exact VOK.op ⟨_, _, m, hrun, Le.refl _, hs.garbage _, ((Below.refl B w).drew).alloc hB.le _, .any _ rfl⟩
        rcases hB.rd k hrd with e0 | ⟨p, n, c, news, e0, h2, h3, h4, h5, h6⟩
        · exact go 0 [] (by omega) (by rw [e0]; exact Src.ofNil w hunx 0)
        · refine go n news h2 ?_
          rw [e0]
          exact Src.ofSlice w hunx p n c news (by rw [hsz']; omega) h5 (fun u hu => oneV_cell (h6 u hu))
    · cases h
  · cases h

theorem tok_inv {k : Nat} {v : Value} (h : VRel m (.chan (some k)) v) : v = ω k := by
  cases h with
  | plain v h => cases h
  | tok k h => rfl

theorem append_sound (hC : CtxOK ω C) (hs : SR B X m s w) (hBs : Bs ω C B w) {ts : List TypeId} {vs : List Value} {args : Array Value} (hl : LRel m vs args.toList) {ty : TypeId} {r : R} (h : biAppend C ts vs s = some (r, s')) :
    OpOK C B X m s' w r ((do let z ← Builtin.append_ ts.toArray ty args; pure (Next.value z) : Sem Next).run C.P w) := by
  have hB := hBs.le
  unfold biAppend at h
  split at h
  · rename_i t tx x k
    obtain ⟨x', y', rfl, hx, hy⟩ := args2 hl
    obtain rfl := tok_inv hy
    exact appendTok_sound hC hs hBs hx hy h
  · rename_i t tx x y
    obtain ⟨x', y', rfl, hx, hy⟩ := args2 hl
    unfold appendV at h
    split at h
    · rename_i e hu
      have hun := hC.un _ _ hu
      split at h
      · rename_i ti dx hty hdx
        have hdx' := hC.un _ _ hdx
        cases hb : Nat.ble ti.bytes 1000000 with
        | false => simp [hb] at h
        | true =>
          simp only [hb, cond_true] at h
          split at h
          · rename_i k new hsrc
            cases ho : (new.all oneV && hasZero ti) with
            | false => simp [ho] at h
            | true =>
              simp only [ho, cond_true] at h
              rw [Bool.and_eq_true] at ho
              obtain ⟨z, hz, hzt⟩ : ∃ z, ti.zero = some z ∧ tupB z = false := by
                have h2 := ho.2
                unfold hasZero at h2
                split at h2
                · rename_i z hz; exact ⟨z, hz, by simpa using h2⟩
                · cases h2
              obtain ⟨news, g1, g2, g3⟩ := appSrc_sound hC hs hty hz hzt hdx' hy hsrc ho.1
              obtain ⟨v, rfl, hv⟩ := appendTo_sound (ty := ty) hC hs hB hun hty hz hzt (Nat.le_of_ble_eq_true hb) hx g1 ho.1 g2 g3 h
              exact VOK.op hv
          · cases h
      · cases h
    · cases h
  · cases h

theorem len_sound (hC : CtxOK ω C) (hs : SR B X m s w) {ts : List TypeId} {vs : List Value} {args : Array Value} (hl : LRel m vs args.toList) {ty : TypeId} {r : R} (h : biLen C ts vs s = some (r, s')) :
    OpOK C B X m s' w r ((do let z ← Builtin.len_ ts.toArray ty args; pure (Next.value z) : Sem Next).run C.P w) := by
  unfold biLen at h
  split at h
  · rename_i t k
    obtain ⟨x', rfl, hx⟩ := args1 hl
    unfold lenTok at h
    split at h
    · rename_i v hv
      cases h
      obtain ⟨v', hr, hvv⟩ := hC.len t k v hv m x' ty w hx
      exact VOK.op (VOK.same hs hr hvv)
    · cases h
  · rename_i t x hno
    clear hno
    obtain ⟨x', rfl, hx⟩ := args1 hl
    split at h
    · rename_i e hu
      have hun := hC.un _ _ hu
      split at h
      · rename_i p k c
        cases h
        have : ∃ p' c', x' = .slice p' k c' := by
          cases hx with
          | plain v h => exact ⟨_, _, rfl⟩
          | slice a a' n c c' => exact ⟨_, _, rfl⟩
          | slice0 a a' h0 => exact ⟨_, _, rfl⟩
        obtain ⟨p', c', rfl⟩ := this
        exact VOK.op (VOK.same hs (v' := .int .i64 k) (by simp [Builtin.len_, run_underlying hun, goInt]) (.plain _ rfl))
      · cases h
    · rename_i hu
      have hun := hC.un _ _ hu
      split at h
      · rename_i b
        cases h
        obtain rfl := str_inv hx
        exact VOK.op (VOK.same hs (v' := .int .i64 b.size) (by simp [Builtin.len_, run_underlying hun, goInt]) (.plain _ rfl))
      · cases h
    · rename_i kt et hu
      have hun := hC.un _ _ hu
      split at h
      · cases h
        rcases mapv_inv hx with ⟨_, rfl⟩ | ⟨_, _, e, _⟩
        · exact VOK.op (VOK.same hs (v' := .int .i64 0) (by simp [Builtin.len_, run_underlying hun, goInt]) (.plain _ rfl))
        · cases e
      · rename_i b
        split at h
        · rename_i es ck hb
          cases h
          rcases mapv_inv hx with ⟨e, _⟩ | ⟨b', i', e, e2, rfl⟩
          · cases e
          · cases e
            obtain ⟨es', h2, h3, _⟩ := map_obj hs hb e2
            exact VOK.op (VOK.same hs (v' := .int .i64 es.length) (by simp [Builtin.len_, run_underlying hun, getObj_run h2, goInt, h3.1]) (.plain _ rfl))
        · cases h
      · cases h
    · rename_i k e hu
      have hun := hC.un _ _ hu
      cases h
      exact VOK.op (VOK.same hs (v' := .int .i64 k) (by simp [Builtin.len_, run_underlying hun, goInt]) (.plain _ rfl))
    · rename_i e hu
      have hun := hC.un _ _ hu
      split at h
      · rename_i k e2 hu2
        have hun2 := hC.un _ _ hu2
        cases h
        exact VOK.op (VOK.same hs (v' := .int .i64 k) (by simp [Builtin.len_, run_underlying hun, run_underlying hun2, goInt]) (.plain _ rfl))
      · cases h
    · cases h
  · cases h

theorem cap_sound (hC : CtxOK ω C) (hs : SR B X m s w) {ts : List TypeId} {vs : List Value} {args : Array Value} (hl : LRel m vs args.toList) {ty : TypeId} {r : R} (h : biCap C ts vs s = some (r, s')) :
    OpOK C B X m s' w r ((do let z ← Builtin.cap_ ts.toArray ty args; pure (Next.value z) : Sem Next).run C.P w) := by
  unfold biCap at h
  split at h
  · rename_i t x
    obtain ⟨x', rfl, hx⟩ := args1 hl
    split at h
    · rename_i e hu
      have hun := hC.un _ _ hu
      split at h
      · cases h
        obtain rfl := nilsl_inv hx
        exact VOK.op (VOK.same hs (v' := .int .i64 0) (by simp [Builtin.cap_, run_underlying hun, goInt]) (.plain _ rfl))
      · rename_i p k c
        obtain ⟨p', c', rfl, hor⟩ := slice_inv hx
        have fin : c' = c → some (R.val (.int .i64 c), s) = some (r, s') → OpOK C B X m s' w r ((do let z ← Builtin.cap_ [t].toArray ty #[.slice (some p') k c']; pure (Next.value z) : Sem Next).run C.P w) := by
          intro e he
          subst e
          cases he
          exact VOK.op (VOK.same hs (v' := .int .i64 c') (by simp [Builtin.cap_, run_underlying hun, goInt]) (.plain _ rfl))
        split at h
        · rename_i kb size hkb hsz
          obtain ⟨i, i1⟩ := slice_map hx
          obtain ⟨i2, ⟨a1, a2, a3, _⟩, _, _⟩ := blk_at hs hkb i1
          have fixed : (kb.opn = true → kb.esz = size ∧ p.off + c * size ≠ kb.len) → c' = c := by
            intro hno
            rcases hor with ⟨hp, hcr, _⟩ | ⟨_, rfl, rfl⟩
            · rcases hcr with rfl | ⟨_, i', j1, j2, j3, _⟩
              · rfl
              · rw [i1] at j1; cases j1
                obtain ⟨x1, x2⟩ := hno (by rw [← a2]; exact j2)
                rw [a3, x1, a1] at j3
                exact absurd j3 x2
            · rfl
          cases ho : kb.opn with
          | false =>
            simp only [ho, cond_false] at h
            exact fin (fixed (fun e => by rw [ho] at e; cases e)) h
          | true =>
            simp only [ho, cond_true] at h
            cases hez : Nat.beq kb.esz size with
            | false => simp [hez] at h
            | true =>
              simp only [hez, cond_true] at h
              cases hend : Nat.beq (p.off + c * size) kb.len with
              | true => simp [hend] at h
              | false =>
                simp only [hend, cond_false] at h
                exact fin (fixed (fun _ => ⟨Nat.eq_of_beq_eq_true hez, Nat.ne_of_beq_eq_false hend⟩)) h
        · cases h
      · cases h
    · cases h
  · cases h
end
end Go.Proofs.YtenfkghoolegfaaGreatDoor.Ev
