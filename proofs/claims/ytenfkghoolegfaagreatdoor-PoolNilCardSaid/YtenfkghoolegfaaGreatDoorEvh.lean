/- An interpreter over an abstract memory, part h: parts of values, conversions, assertions, maps. -/
import Derived.Test.YtenfkghoolegfaaGreatDoorEvg
import Derived.Laws.BytesArg
import Derived.Laws.IdiomStrings
namespace Go.Proofs.YtenfkghoolegfaaGreatDoor.Ev
open Go.RowKit
variable {ω : Nat → Value}
section
variable {C : Ctx} {B : Nat} {X : Aux} {m : M ω} {s s' : AS} {w : World} {a : T Value} {act : Act} {n : Nat}

theorem agg_inv {cs : Array Value} {v : Value} (h : VRel m (.agg cs) v) : ∃ cs', v = .agg cs' ∧ LRel m cs.toList cs'.toList := by
  cases h with
  | plain v h => simp [plainV] at h
  | agg cs cs' hs h => exact ⟨cs', rfl, LRel.of_arr hs h⟩

theorem LRel.drop {l l' : List Value} (h : LRel m l l') (k : Nat) : LRel m (l.drop k) (l'.drop k) :=
  ⟨by simp [h.1], fun i a b ha hb => h.2 (k + i) a b (by rwa [List.getElem?_drop] at ha) (by rwa [List.getElem?_drop] at hb)⟩
theorem LRel.take {l l' : List Value} (h : LRel m l l') (k : Nat) : LRel m (l.take k) (l'.take k) :=
  ⟨by simp [h.1], fun i a b ha hb => by
    rw [List.getElem?_take] at ha hb
    split at ha
    · rename_i hi; rw [if_pos hi] at hb; exact h.2 i a b ha hb
    · cases ha⟩
theorem LRel.at_ {l l' : List Value} (h : LRel m l l') {k : Nat} {v : Value} (hv : l[k]? = some v) : ∃ v', l'[k]? = some v' ∧ VRel m v v' := by
  have hk := (List.getElem?_eq_some_iff.1 hv).1
  have hk' : k < l'.length := by rw [← h.1]; exact hk
  exact ⟨l'[k], List.getElem?_eq_getElem hk', h.2 k _ _ hv (List.getElem?_eq_getElem hk')⟩

theorem part_sound (hC : CtxOK ω C) {t : TypeId} {cs cs' : Array Value} (hl : LRel m cs.toList cs'.toList) {off : Nat} {v : Value}
    (h : (match isAggT C t, sizeT C t with
        | some true, some k => some (.agg ((cs.toList.drop off).take k).toArray)
        | some false, _ => cs.toList[off]?
        | _, _ => none) = some v) : ∃ v', (part t cs' off).run C.P w = .ok v' w ∧ VRel m v v' := by
  cases h1 : isAggT C t with
  | none => simp [h1] at h
  | some b =>
    cases b with
    | true =>
      cases h2 : sizeT C t with
      | none => simp [h1, h2] at h
      | some k =>
        simp only [h1, h2, Option.some.injEq] at h
        subst h
        obtain ⟨i, hi, rfl⟩ := sizeT_sound hC h2
        refine ⟨.agg ((cs'.toList.drop off).take i.size).toArray, ?_, (LRel.take (LRel.drop hl off) i.size).agg⟩
        have e : cs'.extract off (off + i.size) = ((cs'.toList.drop off).take i.size).toArray := by
          apply Array.ext'
          rw [Array.toList_extract]
          simp [List.extract_eq_take_drop]
        simp [part, isAgg_sound hC h1, sizeOf, typeInfo, hi, e]
    | false =>
      simp only [h1] at h
      obtain ⟨v', h2, h3⟩ := hl.at_ h
      refine ⟨v', ?_, h3⟩
      have e : cs'[off]? = some v' := by rw [← Array.getElem?_toList]; exact h2
      simp [part, isAgg_sound hC h1, e]

theorem field_sound (hC : CtxOK ω C) (hs : SR B X m s w) (ht : TR m n a act) {t : TypeId} {x : Operand} {f : Nat} {r : R} (h : opField t x f C a s = some (r, s')) :
    OpOK C B X m s' w r ((do let z ← Instr.field t (act.eval x) f; pure (Next.value z) : Sem Next).run C.P w) := by
  unfold opField at h
  split at h
  · rename_i fs cs hu hx
    have hun := hC.un t _ hu
    obtain ⟨cs', hy, hl⟩ := agg_inv (opnd_sound ht hx)
    split at h
    · rename_i fl hf
      have hf' : fs[f]? = some fl := by unfold fieldAt at hf; simpa using hf
      have go : ∀ v, (match isAggT C fl.type, sizeT C fl.type with
          | some true, some k => some (.agg ((cs.toList.drop fl.offset).take k).toArray)
          | some false, _ => cs.toList[fl.offset]?
          | _, _ => none) = some v → some (R.val v, s) = some (r, s') → OpOK C B X m s' w r ((do let z ← Instr.field t (act.eval x) f; pure (Next.value z) : Sem Next).run C.P w) := by
        intro v hv he
        cases he
        obtain ⟨v', hr, hrel⟩ := part_sound (w := w) hC hl hv
        exact VOK.op (VOK.same hs (by simp [Instr.field, run_underlying hun, hf', hy, asAgg, hr]) hrel)
      split at h
      · rename_i k h1 h2
        exact go _ (by rw [h1, h2]) h
      · rename_i _ h1
        split at h
        · rename_i v hv
          exact go v (by rw [h1]; exact hv) h
        · cases h
      · cases h
    · cases h
  · cases h

theorem index_sound (hC : CtxOK ω C) (hs : SR B X m s w) (ht : TR m n a act) {t : TypeId} {x i : Operand} {r : R} (h : opIndex t x i C a s = some (r, s')) :
    OpOK C B X m s' w r ((do let z ← Instr.index t (act.eval x) (act.eval i); pure (Next.value z) : Sem Next).run C.P w) := by
  unfold opIndex at h
  split at h
  · rename_i b kk q hu hx hi
    have hun := hC.un t _ hu
    have hy := str_inv (opnd_sound ht hx)
    have hi' := int_inv (opnd_sound ht hi)
    split at h
    · rename_i hq
      split at h
      · rename_i c hc
        cases h
        exact VOK.op (VOK.same hs (v' := .int .u8 c.toNat) (by simp [Instr.index, run_underlying hun, hy, hi', asIntOf, hq, hc]) (.plain _ rfl))
      · cases h
    · cases h
  · rename_i k e cs kk q hu hx hi
    have hun := hC.un t _ hu
    obtain ⟨cs', hy, hl⟩ := agg_inv (opnd_sound ht hx)
    have hi' := int_inv (opnd_sound ht hi)
    split at h
    · rename_i hq
      split at h
      · rename_i sz h1 h2
        cases h
        obtain ⟨ti, hti, e2⟩ := sizeT_sound hC h2
        obtain ⟨v', hr, hrel⟩ := part_sound (w := w) (off := q.toNat * ti.size) (v := .agg ((cs.toList.drop (q.toNat * sz)).take sz).toArray) hC hl (by rw [h1, h2, e2])
        exact VOK.op (VOK.same hs (by simp [Instr.index, run_underlying hun, hy, hi', asIntOf, hq.1, hq.2, sizeOf, typeInfo, hti, hr]) hrel)
      · rename_i sz h1 h2
        obtain ⟨ti, hti, e2⟩ := sizeT_sound hC h2
        split at h
        · rename_i v hv
          cases h
          obtain ⟨v', hr, hrel⟩ := part_sound (w := w) (off := q.toNat * ti.size) (v := v) hC hl (by rw [h1, e2]; exact hv)
          exact VOK.op (VOK.same hs (by simp [Instr.index, run_underlying hun, hy, hi', asIntOf, hq.1, hq.2, sizeOf, typeInfo, hti, hr]) hrel)
        · cases h
      · cases h
    · cases h
  · cases h

theorem least_none {l : List String} : Instr.least l = none ↔ l = [] := by cases l <;> simp [Instr.least]
theorem missB_none {want : Array (String × TypeId)} {got : Array Method} : missB want got = false ↔ Instr.missingMethod want got = none := by
  unfold missB Instr.missingMethod
  simp only [Option.orElse_eq_orElse, Option.orElse_eq_or, Option.or_eq_none_iff, least_none, List.map_eq_nil_iff, List.partition_eq_filter_filter]
  rw [Bool.not_eq_false', List.all_eq_true]
  constructor
  · intro h
    have e : want.toList.filter (fun x => !got.any fun m => m.name == x.1 && m.sig == x.2) = [] := by
      rw [List.filter_eq_nil_iff]
      intro p hp
      have := h p hp
      unfold hasM at this
      simpa using this
    exact ⟨by simp [e], by simp [e]⟩
  · rintro ⟨h1, h2⟩ p hp
    unfold hasM
    cases hg : got.toList.any fun m => m.name == p.1 && m.sig == p.2 with
    | true => rfl
    | false =>
      exfalso
      have hm : p.1 ∈ (want.toList.filter (fun x => !got.any fun m => m.name == x.1 && m.sig == x.2)).map (·.1) := List.mem_map.2 ⟨p, List.mem_filter.2 ⟨hp, by simpa using hg⟩, rfl⟩
      rw [List.filter_eq_nil_iff] at h1 h2
      have a1 := h1 _ hm
      have a2 := h2 _ hm
      cases hc : p.1.contains (Char.ofNat 46) with
      | true => exact a2 hc
      | false => exact a1 (by show (!(p.1.contains (Char.ofNat 46))) = true; rw [hc]; rfl)
theorem typeAssert_sound (hC : CtxOK ω C) (hs : SR B X m s w) (ht : TR m n a act) {x : Operand} {xt t : TypeId} {ok : Bool} {r : R} (h : opTypeAssert x t ok C a s = some (r, s')) :
    OpOK C B X m s' w r ((do let z ← Instr.typeAssert (act.eval x) xt t ok; pure (Next.value z) : Sem Next).run C.P w) := by
  have two : ∀ {u u' : Value} (b : Bool), VRel m u u' → VRel m (.tuple #[u, .bool b]) (.tuple #[u', .bool b]) := fun b hv =>
    (LRel.cons hv (LRel.cons (.plain (.bool b) rfl) (LRel.nil m))).tuple
  have holds : ∀ {u u' : Value}, VRel m u u' → VRel m (cond ok (.tuple #[u, .bool true]) u) (if ok then .tuple #[u', .bool true] else u') := fun hv => by
    cases ok
    · exact hv
    · exact two true hv
  have fail : failA C t ok s = some (r, s') → ∃ z, ok = true ∧ r = .val (.tuple #[z, .bool false]) ∧ s' = s ∧ VRel m (.tuple #[z, .bool false]) (.tuple #[z, .bool false]) ∧ (zeroValue t).run C.P w = .ok z w := by
    intro h
    unfold failA at h
    split at h
    · rename_i ti hti
      split at h
      · rename_i z hz
        cases hk : (ok && closedV z) with
        | false => simp [hk] at h
        | true =>
          simp only [hk, cond_true, Option.some.injEq, Prod.mk.injEq] at h
          obtain ⟨rfl, rfl⟩ := h
          rw [Bool.and_eq_true] at hk
          have hti' := hC.ty _ _ hti
          exact ⟨z, hk.1, rfl, rfl, two false (closed_refl hk.2), by simp [zeroValue, typeInfo, hti', hz]⟩
      · cases h
    · cases h
  unfold opTypeAssert at h
  split at h
  · cases h
  · rename_i u v want hx hu
    have hun := hC.un t _ hu
    obtain ⟨v', hv, hy⟩ := iface_inv (opnd_sound ht hx)
    split at h
    · rename_i ui hui
      have hti := hC.ty _ _ hui
      split at h
      · rename_i hm
        rw [missB_none] at hm
        cases h
        exact VOK.op (VOK.same hs (v' := if ok then .tuple #[.iface u v', .bool true] else .iface u v') (by simp [Instr.typeAssert, run_underlying hun, hy, typeInfo, hti, hm]) (holds (.iface u _ _ hv)))
      · rename_i hm
        obtain ⟨mm, hm⟩ : ∃ mm, Instr.missingMethod want ui.methods = some mm := by
          cases hq : Instr.missingMethod want ui.methods with
          | some mm => exact ⟨mm, rfl⟩
          | none => rw [missB_none.2 hq] at hm; cases hm
        obtain ⟨z, rfl, rfl, rfl, hz, hzr⟩ := fail h
        exact VOK.op (VOK.same hs (v' := .tuple #[z, .bool false]) (by simp [Instr.typeAssert, run_underlying hun, hy, typeInfo, hti, hm, hzr]) hz)
    · cases h
  · rename_i u v d hne hx hu
    have hun := hC.un t _ hu
    obtain ⟨v', hv, hy⟩ := iface_inv (opnd_sound ht hx)
    cases hb : Nat.beq u t with
    | true =>
      have hut := Nat.eq_of_beq_eq_true hb
      simp only [hb, cond_true, Option.some.injEq, Prod.mk.injEq] at h
      obtain ⟨rfl, rfl⟩ := h
      refine VOK.op (VOK.same hs (v' := if ok then .tuple #[v', .bool true] else v') ?_ (holds hv))
      cases d <;> first | (exact absurd rfl (hne _)) | simp [Instr.typeAssert, run_underlying hun, hy, hut]
    | false =>
      have hut := Nat.ne_of_beq_eq_false hb
      simp only [hb, cond_false] at h
      obtain ⟨z, rfl, rfl, rfl, hz, hzr⟩ := fail h
      refine VOK.op (VOK.same hs (v' := .tuple #[z, .bool false]) ?_ hz)
      cases d <;> first | (exact absurd rfl (hne _)) | simp [Instr.typeAssert, run_underlying hun, hy, hut, hzr]
  · cases h

theorem bytes_sound : ∀ {l : List Value} {bs : List UInt8}, bytesOf l = some bs → ∃ q : List Int, l = q.map (Value.int .u8) ∧ bs = q.map fun x => UInt8.ofNat x.toNat
  | [], bs, h => by simp [bytesOf] at h; subst h; exact ⟨[], rfl, rfl⟩
  | v :: l, bs, h => by
    unfold bytesOf at h
    split at h
    · rename_i heq; cases heq
    · rename_i n r heq
      injection heq with h1 h2
      subst h1; subst h2
      split at h
      · rename_i l' hl
        cases h
        obtain ⟨q, e1, e2⟩ := bytes_sound hl
        exact ⟨n :: q, by rw [e1]; rfl, by rw [e2]; rfl⟩
      · cases h
    · cases h

theorem isU8_un (hC : CtxOK ω C) {e : TypeId} (h : isU8 (C.un e) = true) : C.P.underlying e = some (.int .u8) := by
  unfold isU8 at h
  split at h
  · rename_i hu; exact hC.un e _ hu
  · cases h

theorem LRel.ints {l : List Int} {l' : List Value} (h : LRel m (l.map (Value.int .u8)) l') : l' = l.map (Value.int .u8) := by
  apply List.ext_getElem?
  intro i
  by_cases hi : i < l.length
  · obtain ⟨v', h1, h2⟩ := h.at_ (k := i) (v := .int .u8 l[i]) (by simp [hi])
    rw [h1, int_inv h2]; simp [hi]
  · rw [List.getElem?_eq_none (by rw [← h.1]; simp; omega), List.getElem?_eq_none (by simp; omega)]

/-- A new block of which the world's may be longer. -/
theorem open_new {w1 : World} {l : List Value} {c' : Array Value} {e : TypeId} {fz : Nat × Nat} (str : Bool) (z r : Nat) (hw : w1.heap[r]? = some (.cells c' e fz)) (hfz : fz = (0, 0) ∨ (fz = (c'.size, c'.size + 1) ∧ Nat.beq e noMark = false))
    (hle : l.length ≤ c'.size) (hrel : ∀ (j : Nat) (v : Value), l[j]? = some v → ∃ v', c'[j]? = some v' ∧ VRel m v v') :
    ORel m w1 ⟨r, 0, l.length, z, true, c'.size⟩ (blkOf l e z true str) := by
  refine ⟨rfl, rfl, rfl, by simpa using hle, c', fz, hw, rfl, fun j hj => ?_, hfz⟩
  have hj' : j < l.length := hj
  obtain ⟨v', h1, h2⟩ := hrel j l[j] (List.getElem?_eq_getElem hj')
  refine ⟨l[j], v', ?_, by simpa using h1, h2⟩
  rw [T.get_ofList, if_pos (by simp; omega)]
  simp
theorem newOpen_sound (hs : SR B X m s w) (hB : B ≤ w.heap.size) {w1 : World} (hsz : w1.heap.size = w.heap.size + 1) (hold : ∀ k, k < w.heap.size → w1.heap[k]? = w.heap[k]?)
    {l : List Value} {c' : Array Value} {e : TypeId} {fz : Nat × Nat} (str : Bool) (z : Nat) (hw : w1.heap[w.heap.size]? = some (.cells c' e fz)) (hfz : fz = (0, 0) ∨ (fz = (c'.size, c'.size + 1) ∧ Nat.beq e noMark = false))
    (hle : l.length ≤ c'.size) (hrel : ∀ (j : Nat) (v : Value), l[j]? = some v → ∃ v', c'[j]? = some v' ∧ VRel m v v') :
    SR B X (ext m s.n ⟨w.heap.size, 0, l.length, z, true, c'.size⟩) (newBlk s l l.length e z true str).2 w1 ∧ Le m (ext m s.n ⟨w.heap.size, 0, l.length, z, true, c'.size⟩) :=
  new_sound hs _ _ hB rfl hsz hold (open_new str z _ hw hfz hle hrel)

theorem below_freeze' {a : World} (h : Below B a w) {p : Addr} (hp : B ≤ p.block) (k : Nat) : Below B a (w.freeze p k) := by
  refine h.trans ?_
  unfold World.freeze
  split
  · exact Below.refl B w
  · exact ⟨rfl, rfl, rfl, by simp, fun k hk => by
      simp only [Array.getElem?_modify]
      rw [if_neg (by omega)]⟩

theorem SR.congr {s' : AS} (h : SR B X m s w) (hg : ∀ b, s'.h.get b = s.h.get b) (hn : s'.n = s.n) : SR B X m s' w :=
  ⟨fun b o i h1 => h.rel b o i (by rw [← hg]; exact h1), fun b c o p i j h1 h2 => h.inj b c o p i j (by rw [← hg]; exact h1) (by rw [← hg]; exact h2),
   fun b hb => by rw [hg]; exact h.freshH b (by rw [← hn]; exact hb), fun b hb => h.freshM b (by rw [← hn]; exact hb),
   fun b o hb => by rw [hg]; exact h.gh b o hb, h.kp, h.lt⟩

/-- A block's mark. -/
theorem mark_sound (h : SR B X m s w) {p p' : Addr} {k : Blk} (hk : blkAt s p.block = some k) (hnm : Nat.beq k.elem noMark = false) (hp : ARel m p p') :
    ∃ w', (markStringish p').run C.P w = .ok () w' ∧ SR B X m s w' ∧ Below B w w' := by
  obtain ⟨hs, i, h1, rfl⟩ := hp
  obtain ⟨h2, ⟨a1, a2, a3, a4, c', fz, hw, hsz, hcell, hfz⟩, h4, h5⟩ := blk_at h hk h1
  have hshape : w.shape? i.r = some (k.elem, c'.size) := by unfold World.shape?; rw [hw]
  have hlook : (w.freeze ⟨i.r, c'.size, none⟩ 1).heap[i.r]? = some (.cells c' k.elem (i.tot, i.tot + 1)) := by
    unfold World.freeze
    rw [if_neg (by decide)]
    show (w.heap.modify i.r _)[i.r]? = _
    rw [Array.getElem?_modify, if_pos rfl, hw]
    rcases hfz with rfl | ⟨rfl, _⟩ <;> simp [hsz]
  refine ⟨w.freeze ⟨i.r, c'.size, none⟩ 1, by simp [markStringish, hshape], (upd_sound (o' := .cells k) h h2 rfl h1 ?_ ?_ ?_).congr (fun b => ?_) rfl, ?_⟩
  · unfold World.freeze; rw [if_neg (by decide)]; simp
  · intro q hq
    unfold World.freeze; rw [if_neg (by decide)]
    show (w.heap.modify i.r _)[q]? = _
    rw [Array.getElem?_modify, if_neg (fun e => hq e.symm)]
  · exact ⟨a1, a2, a3, a4, c', _, hlook, hsz, hcell, .inr ⟨rfl, hnm⟩⟩
  · rw [T.get_put]
    split
    · rename_i e; rw [e]; exact h2
    · rfl
  · exact below_freeze' (Below.refl B w) h4 1

theorem grownCap_ge' (w : World) (a b : Nat) (e : TypeId) : a ≤ grownCap w a b e := grownCap_ge w a b e

theorem conv2_sound (hC : CtxOK ω C) (hs : SR B X m s w) (ht : TR m n a act) {src dst : TypeId} {x : Operand} {r : R} (h : opConv2 src dst x C a s = some (r, s')) :
    OpOK C B X m s' w r ((do let z ← convert src dst (act.eval x); pure (Next.value z) : Sem Next).run C.P w) := by
  unfold opConv2 at h
  cases h1 : opnd a x with
  | none => simp [h1] at h
  | some u =>
    have hu := opnd_sound ht h1
    cases h2 : convV C src dst u s with
    | none => simp [h1, h2] at h
    | some p =>
      obtain ⟨v, s2⟩ := p
      simp only [h1, h2, Option.some.injEq, Prod.mk.injEq] at h
      obtain ⟨rfl, rfl⟩ := h
      refine VOK.op ?_
      generalize act.eval x = y at hu
      clear h1
      unfold convV at h2
      cases hch : isChan u with
      | true =>
        rw [hch] at h2
        simp only [cond_true, convTok] at h2
        split at h2
        · rename_i v1 hv1
          cases h2
          obtain ⟨v', hr, hv⟩ := hC.cnv src dst u v hv1 m y w hu
          exact VOK.same hs hr hv
        · cases h2
      | false =>
      rw [hch] at h2
      simp only [cond_false] at h2
      split at h2
      · rename_i d hd
        have hds := hC.un _ _ hd
        split at h2
        · rename_i k hk
          have hdd := hC.un _ _ hk
          unfold convInt at h2
          split at h2
          · cases h2; obtain rfl := int_inv hu
            exact VOK.same hs (by rw [wrapN_eq]; cases d <;> simp [convert, run_underlying hds, run_underlying hdd, Conv.intToInt]) (.plain _ rfl)
          · cases h2; obtain rfl := int_inv hu
            exact VOK.same hs (by cases d <;> simp [convert, run_underlying hds, run_underlying hdd, Conv.intToInt]) (.plain _ rfl)
          · cases h2
        · rename_i hk
          have hdd := hC.un _ _ hk
          unfold convStr at h2
          split at h2
          · cases h2; obtain rfl := str_inv hu
            exact VOK.same hs (by cases d <;> simp [convert, run_underlying hds, run_underlying hdd]) (.plain _ rfl)
          · rename_i e
            cases hb : isU8 (C.un e) with
            | false => simp [hb] at h2
            | true =>
              simp only [hb, cond_true, Option.some.injEq, Prod.mk.injEq] at h2
              obtain ⟨rfl, rfl⟩ := h2
              obtain rfl := nilsl_inv hu
              exact VOK.same hs (run_convert_bytes_nil w src e hds (isU8_un hC hb) 0 0 dst hdd) (.plain _ rfl)
          · rename_i ad k c e
            cases hb : isU8 (C.un e) with
            | false => simp [hb] at h2
            | true =>
              simp only [hb, cond_true] at h2
              split at h2
              · rename_i l hl
                split at h2
                · rename_i bs hbs
                  cases h2
                  obtain ⟨q, rfl, rfl⟩ := bytes_sound hbs
                  obtain ⟨p', c', hy, hor⟩ := slice_inv hu
                  subst hy
                  have hload : (loadCells p' k).run C.P w = .ok (q.map (Value.int .u8)).toArray w := by
                    rcases hor with ⟨hp, _, _⟩ | ⟨rfl, _, _⟩
                    · obtain ⟨l', g1, g2, g3⟩ := readN_sound hs hl hp
                      have := run_loadCells_list (P := C.P) w p' l' g3
                      rw [g2, g1.ints] at this
                      exact this
                    · have hq : q = [] := by
                        unfold readN at hl
                        split at hl
                        · rename_i kk _ hk2
                          simp only [Nat.add_zero, T.range] at hl
                          cases hbb : Nat.ble ad.off kk.len with
                          | false => rw [hbb] at hl; cases hl
                          | true => rw [hbb] at hl; cases q with | nil => rfl | cons _ _ => simp at hl
                        · cases hl
                      subst hq
                      simp [loadCells, loadCellsFrom]
                  refine VOK.same hs ?_ (.plain _ rfl)
                  rw [run_convert_bytes_string w src dst e _ k c' hds (isU8_un hC hb) hdd, run_bytesToString w p' k c' q hload, foldl_push_bytes]
                  simp [ByteArray.empty, ByteArray.emptyWithCapacity]
                  rfl
                · cases h2
              · cases h2
          · cases h2
        · rename_i e hk
          have hdd := hC.un _ _ hk
          unfold convSl at h2
          split at h2
          · rename_i ad k c e'
            cases hb : (Nat.beq src dst && isU8 (C.un e) && Nat.blt 0 c) with
            | false => simp [hb] at h2
            | true =>
              simp only [hb, cond_true] at h2
              rw [Bool.and_eq_true, Bool.and_eq_true] at hb
              have hsd := Nat.eq_of_beq_eq_true hb.1.1
              split at h2
              · rename_i kb hkb
                cases hnm : Nat.beq kb.elem noMark with
                | true => rw [hnm] at h2; cases h2
                | false =>
                rw [hnm] at h2
                cases h2
                obtain ⟨p', c', hy, hor⟩ := slice_inv hu
                subst hy
                rcases hor with ⟨hp, hcr, hkc⟩ | ⟨rfl, rfl, rfl⟩
                · obtain ⟨w', g1, g2, g3⟩ := mark_sound (C := C) hs hkb hnm hp
                  refine ⟨_, w', m, ?_, Le.refl _, g2, g3, .slice _ _ _ _ _ hp hcr hkc⟩
                  simp [convert, run_underlying hdd, hsd, run_underlying (isU8_un hC hb.1.2), g1]
                · exact absurd hb.2 (by decide)
              · cases h2
          · cases h2
        · cases h2
      · cases h2

theorem conv_new (hC : CtxOK ω C) (ht : TR m n a act) (hB : B ≤ w.heap.size) {src dst : TypeId} {x : Operand} {o : AObj} {f : Nat → Value} (h : alConv src dst x C a = some (o, f)) :
    NewOK B m w o f ((do let z ← convert src dst (act.eval x); pure (Next.value z) : Sem Next).run C.P w) := by
  unfold alConv at h
  split at h
  · rename_i e b hs hd hx
    cases hb0 : (isU8 (C.un e) && !Nat.beq e noMark) with
    | false => simp [hb0] at h
    | true =>
      simp only [hb0, cond_true, Option.some.injEq, Prod.mk.injEq] at h
      rw [Bool.and_eq_true] at hb0
      obtain ⟨hb, hnm⟩ := hb0
      replace hnm : Nat.beq e noMark = false := by simpa using hnm
      obtain ⟨rfl, rfl⟩ := h
      have hds := hC.un _ _ hs
      have hdd := hC.un _ _ hd
      rw [str_inv (opnd_sound ht hx)]
      have hrun := run_bytes_of_string (P := C.P) w src dst e b hds hdd (isU8_un hC hb)
      have hcap := grownCap_ge w b.size 0 e
      have hrow : (bytesRow b (grownCap w b.size 0 e)).size = grownCap w b.size 0 e := by have : b.data.size = b.size := rfl; simp [bytesRow]; omega
      have hbs : (b.data.toList.map fun x => Value.int .u8 x.toNat).length = b.size := by simp
      have hnew := open_new (m := m) (w1 := w.drew.alloc (.cells (bytesRow b (grownCap w b.size 0 e)) e ((bytesRow b (grownCap w b.size 0 e)).size, (bytesRow b (grownCap w b.size 0 e)).size + 1)))
        (l := b.data.toList.map fun x => Value.int .u8 x.toNat) (c' := bytesRow b (grownCap w b.size 0 e)) (e := e) true 1 w.heap.size
        (heap_alloc_new w.drew _) (.inr ⟨rfl, hnm⟩) (by rw [hbs, hrow]; exact hcap) (fun j v hj => by
          have hj' := (List.getElem?_eq_some_iff.1 hj).1
          refine ⟨v, ?_, ?_⟩
          · rw [← Array.getElem?_toList, bytesRow, Array.toList_append, List.getElem?_append_left (by simpa using hj'), Array.toList_map]; exact hj
          · rw [List.getElem?_map] at hj
            cases hq : b.data.toList[j]? with
            | none => rw [hq] at hj; cases hj
            | some q => rw [hq] at hj; cases hj; exact .plain _ rfl)
      rw [hrow] at hrun hnew
      rw [hbs] at hnew
      refine ⟨.slice (some ⟨w.heap.size, 0, none⟩) b.size (grownCap w b.size 0 e), _, _, by simp only [Sem.run_bind, hrun, Result.andThen, Sem.run_pure], rfl, by simp, fun k hk => Below.heap_alloc w.drew _ k hk, ((Below.refl B w).drew).alloc hB _, hnew, fun m' b' hb' => ?_⟩
      refine .slice _ _ _ _ _ ⟨rfl, _, hb', rfl⟩ (.inr ⟨hcap, _, hb', rfl, ?_, ?_⟩) (Nat.le_refl _)
      · simp
      · simp
  · cases h
end
end Go.Proofs.YtenfkghoolegfaaGreatDoor.Ev
