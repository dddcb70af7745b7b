/- An interpreter over an abstract memory, part i: values that are built, maps, builtins that are not append. -/
import Derived.Test.YtenfkghoolegfaaGreatDoorEvh
import Derived.MapFrom
namespace Go.Proofs.YtenfkghoolegfaaGreatDoor.Ev
open Go.RowKit
variable {ω : Nat → Value}
section
variable {C : Ctx} {B : Nat} {X : Aux} {m : M ω} {s s' : AS} {w : World} {a : T Value} {act : Act} {n : Nat}

/-- Parts of a value that is built. -/
def PRel (m : M ω) : List (Nat × Value) → List (Nat × Value) → Prop
  | [], [] => True
  | (i, v) :: r, (j, v') :: r' => i = j ∧ VRel m v v' ∧ PRel m r r'
  | _, _ => False

theorem parts_sound (ht : TR m n a act) : ∀ {l : List (Nat × Operand)} {ps : List (Nat × Value)}, parts a l = some ps → PRel m ps (l.map fun (i, x) => (i, act.eval x))
  | [], ps, h => by simp [parts] at h; subst h; trivial
  | (i, x) :: l, ps, h => by
    simp only [parts] at h
    cases h1 : opnd a x with
    | none => simp [h1] at h
    | some v =>
      cases h2 : parts a l with
      | none => simp [h1, h2] at h
      | some vs =>
        simp [h1, h2] at h
        subst h
        exact ⟨rfl, opnd_sound ht h1, parts_sound ht h2⟩

/-- A table and a row of cells. -/
def CR (m : M ω) (t : T Value) (n : Nat) (cs : Array Value) : Prop := cs.size = n ∧ ∀ j, j < n → ∃ v v', t.get j = some v ∧ cs[j]? = some v' ∧ VRel m v v'

theorem foldl_set (off : Nat) : ∀ (l : List Value) (k : Nat) (cs : Array Value),
    ((l.zipIdx k).foldl (fun (cs : Array Value) (p : Value × Nat) => cs.setIfInBounds (off + p.2) p.1) cs).size = cs.size ∧
    ∀ j, ((l.zipIdx k).foldl (fun (cs : Array Value) (p : Value × Nat) => cs.setIfInBounds (off + p.2) p.1) cs)[j]? = if off + k ≤ j ∧ j < off + k + l.length ∧ j < cs.size then l[j - (off + k)]? else cs[j]?
  | [], k, cs => by simp; intros; omega
  | v :: l, k, cs => by
    simp only [List.zipIdx_cons, List.foldl_cons]
    obtain ⟨h1, h2⟩ := foldl_set off l (k + 1) (cs.setIfInBounds (off + k) v)
    refine ⟨by rw [h1]; simp, fun j => ?_⟩
    rw [h2]
    simp only [Array.size_setIfInBounds, List.length_cons, Array.getElem?_setIfInBounds]
    by_cases h3 : off + k = j
    · subst h3
      rw [if_neg (by omega), if_pos rfl]
      by_cases h4 : off + k < cs.size
      · rw [if_pos h4, if_pos (by omega)]; simp
      · rw [if_neg h4, if_neg (by omega), Array.getElem?_eq_none (by omega)]
    · by_cases h4 : off + (k + 1) ≤ j ∧ j < off + (k + 1) + l.length ∧ j < cs.size
      · rw [if_pos h4, if_pos (by omega), show j - (off + k) = (j - (off + (k + 1))) + 1 by omega]; simp
      · rw [if_neg h4, if_neg h3, if_neg (by omega)]

theorem fill_sound {place place' : Nat → Option (Nat × Nat)} (hp : ∀ i p, place i = some p → place' i = some p) : ∀ {ps ps' : List (Nat × Value)} {t t' : T Value} {k : Nat} {cs : Array Value},
    PRel m ps ps' → CR m t k cs → fillL place t k ps = some t' → ∃ cs', Instr.fill place' cs ps' = some cs' ∧ CR m t' k cs'
  | [], [], t, t', k, cs, _, hc, h => by simp [fillL] at h; subst h; exact ⟨cs, rfl, hc⟩
  | (i, v) :: r, (j, v') :: r', t, t', k, cs, hr, hc, h => by
    obtain ⟨rfl, hv, hr'⟩ := hr
    simp only [fillL] at h
    cases h1 : place i with
    | none => simp [h1] at h
    | some p =>
      obtain ⟨off, sz⟩ := p
      simp only [h1] at h
      cases h2 : (Nat.beq (cellsOf v).length sz && Nat.ble (off + (cellsOf v).length) k) with
      | false => simp [h2] at h
      | true =>
        simp only [h2, cond_true] at h
        rw [Bool.and_eq_true] at h2
        have e1 := Nat.eq_of_beq_eq_true h2.1
        have e2 := Nat.le_of_ble_eq_true h2.2
        have hcl := cells_rel hv
        have hsz : v'.cells.size = (cellsOf v).length := by rw [cells_arr]; simp; exact hcl.1.symm
        have hfold : v'.cells.zipIdx.foldl (fun cs (x : Value × Nat) => match x with | (c, j) => cs.setIfInBounds (off + j) c) cs = ((cellsOf v').zipIdx 0).foldl (fun (cs : Array Value) (p : Value × Nat) => cs.setIfInBounds (off + p.2) p.1) cs := by
          rw [cells_arr, ← Array.foldl_toList]; simp
        obtain ⟨g1, g2⟩ := foldl_set off (cellsOf v') 0 cs
        have hc' : CR m (T.ofList (cellsOf v) off t) k (((cellsOf v').zipIdx 0).foldl (fun (cs : Array Value) (p : Value × Nat) => cs.setIfInBounds (off + p.2) p.1) cs) := by
          refine ⟨by rw [g1]; exact hc.1, fun q hq => ?_⟩
          rw [T.get_ofList, g2, hc.1]
          simp only [Nat.add_zero]
          by_cases hin : off ≤ q ∧ q < off + (cellsOf v).length
          · rw [if_pos hin, if_pos ⟨hin.1, by rw [← hcl.1]; exact hin.2, hq⟩]
            have hql : q - off < (cellsOf v).length := by omega
            have hql' : q - off < (cellsOf v').length := by rw [← hcl.1]; exact hql
            exact ⟨(cellsOf v)[q - off], (cellsOf v')[q - off], List.getElem?_eq_getElem hql, List.getElem?_eq_getElem hql', hcl.2 (q - off) _ _ (List.getElem?_eq_getElem hql) (List.getElem?_eq_getElem hql')⟩
          · rw [if_neg hin, if_neg (by rw [← hcl.1]; omega)]
            exact hc.2 q hq
        obtain ⟨cs', k1, k2⟩ := fill_sound hp hr' hc' h
        refine ⟨cs', ?_, k2⟩
        rw [Instr.fill, hp i _ h1]
        simp only [hsz, e1, hc.1]
        rw [if_neg (by simp; omega)]
        rw [hfold]; exact k1
  | [], _ :: _, _, _, _, _, h, _, _ => h.elim
  | _ :: _, [], _, _, _, _, h, _, _ => by simp [PRel] at h

theorem CR.of_list {l l' : List Value} (h : LRel m l l') : CR m (T.ofList l 0 .leaf) l.length l'.toArray := by
  refine ⟨by simp [h.1], fun j hj => ?_⟩
  rw [T.get_ofList, if_pos (by omega)]
  have hj' : j < l'.length := by rw [← h.1]; exact hj
  exact ⟨l[j], l'[j], by simp, by simp [hj'], h.2 j _ _ (List.getElem?_eq_getElem hj) (List.getElem?_eq_getElem hj')⟩

theorem CR.range {t : T Value} {k : Nat} {cs : Array Value} (h : CR m t k cs) {l : List Value} (hl : t.range 0 k = some l) : LRel m l cs.toList := by
  obtain ⟨h1, h2⟩ := T.range_spec t k 0 l hl
  refine ⟨by simp [h1, h.1], fun i v v' hv hv' => ?_⟩
  have hi := (List.getElem?_eq_some_iff.1 hv).1
  obtain ⟨x, x', e1, e2, e3⟩ := h.2 i (by omega)
  have e4 := h2 i (by omega)
  rw [Nat.zero_add, e1, hv] at e4
  rw [← Array.getElem?_toList, hv'] at e2
  cases e4; cases e2; exact e3

theorem mapM_get {α β : Type} {f : α → Option β} : ∀ {l : List α} {r : List β}, l.mapM f = some r → ∀ (i : Nat) (x : α), l[i]? = some x → r[i]? = f x
  | [], r, _, i, x, hx => by simp at hx
  | y :: l, r, h, i, x, hx => by
    simp only [List.mapM_cons, Option.bind_eq_bind, Option.pure_def] at h
    cases h1 : f y with
    | none => simp [h1] at h
    | some b =>
      cases h2 : l.mapM f with
      | none => simp [h1, h2] at h
      | some bs =>
        simp [h1, h2] at h
        subst h
        cases i with
        | zero => simp at hx ⊢; subst hx; exact h1.symm
        | succ i => simp at hx ⊢; exact mapM_get h2 i x hx

theorem build_sound (hC : CtxOK ω C) (hs : SR B X m s w) (ht : TR m n a act) {t : TypeId} {ps : Array (Nat × Operand)} {r : R} (h : opBuild t ps C a s = some (r, s')) :
    OpOK C B X m s' w r ((do let z ← Instr.build t (ps.map fun (i, x) => (i, act.eval x)); pure (Next.value z) : Sem Next).run C.P w) := by
  have ps_eq : (ps.map fun (x : Nat × Operand) => match x with | (i, x) => (i, act.eval x)).toList = ps.toList.map fun (i, x) => (i, act.eval x) := by simp
  unfold opBuild at h
  split at h
  · rename_i z fs l hz hu hl
    obtain ⟨ti, zv, hti, hzv, rfl, hpl, _⟩ := zeroC_sound hC hz
    have hun := hC.un _ _ hu
    obtain ⟨places, hpla⟩ := hC.places _ _ hu
    split at h
    · rename_i t' hf
      split at h
      · rename_i cs hcs
        cases h
        obtain ⟨cs', k1, k2⟩ := fill_sound (m := m) (place' := (places.toArray[·]?)) (fun i p hp => by
          split at hp
          · rename_i f hfi
            split at hp
            · rename_i sz hsz
              cases hp
              obtain ⟨fi, hfi', rfl⟩ := sizeT_sound hC hsz
              have := mapM_get hpla i f (by unfold fieldAt at hfi; exact hfi)
              simp [this, hfi']
            · cases hp
          · cases hp) (parts_sound ht hl) (CR.of_list (LRel.plain (m := m) hpl)) hf
        refine VOK.op (VOK.same hs (run_build w t _ cs' ?_) (k2.range hcs).agg)
        unfold Program.built
        simp only [hti, hun, hzv, hpla, ps_eq, cells_arr]
        exact k1
      · cases h
    · cases h
  · rename_i z kn e l hz hu hl
    obtain ⟨ti, zv, hti, hzv, rfl, hpl, _⟩ := zeroC_sound hC hz
    have hun := hC.un _ _ hu
    split at h
    · rename_i sz hsz
      obtain ⟨ei, hei, rfl⟩ := sizeT_sound hC hsz
      split at h
      · rename_i t' hf
        split at h
        · rename_i cs hcs
          cases h
          obtain ⟨cs', k1, k2⟩ := fill_sound (m := m) (fun i p hp => hp) (parts_sound ht hl) (CR.of_list (LRel.plain (m := m) hpl)) hf
          refine VOK.op (VOK.same hs (run_build w t _ cs' ?_) (k2.range hcs).agg)
          unfold Program.built
          simp only [hti, hun, hzv, hei, ps_eq, cells_arr]
          exact k1
        · cases h
      · cases h
    · cases h
  · cases h

theorem buildSlice_new (hC : CtxOK ω C) (ht : TR m n a act) (hB : B ≤ w.heap.size) {t : TypeId} {k : Nat} {ps : Array (Nat × Operand)} {o : AObj} {f : Nat → Value} (h : alBuildSlice t k ps C a = some (o, f)) :
    NewOK B m w o f ((do let z ← Instr.buildSlice t k (ps.map fun (i, x) => (i, act.eval x)); pure (Next.value z) : Sem Next).run C.P w) := by
  have ps_eq : (ps.map fun (x : Nat × Operand) => match x with | (i, x) => (i, act.eval x)).toList = ps.toList.map fun (i, x) => (i, act.eval x) := by simp
  unfold alBuildSlice at h
  split at h
  · rename_i e l hu hl
    have hun := hC.un _ _ hu
    split at h
    · rename_i sz z hsz hz
      obtain ⟨ti, zv, hti, hzv, rfl, hpl, hlen⟩ := zeroC_sound hC hz
      obtain ⟨ei, hei, rfl⟩ := sizeT_sound hC hsz
      rw [hti] at hei; cases hei
      cases hle : Nat.ble (k * ti.size) 16777216 with
      | false => simp [hle] at h
      | true =>
        simp only [hle, cond_true] at h
        have hle' := Nat.le_of_ble_eq_true hle
        split at h
        · rename_i t' hf
          simp only [Option.some.injEq, Prod.mk.injEq] at h
          obtain ⟨rfl, rfl⟩ := h
          have hrl : (repL k (cellsOf zv)).length = k * ti.size := by rw [repL_len, hlen]
          have hcr : CR m (T.ofList (repL k (cellsOf zv)) 0 .leaf) (k * ti.size) (repL k (cellsOf zv)).toArray := by
            rw [← hrl]; exact CR.of_list (LRel.plain (m := m) (repL_plain _ hpl k))
          obtain ⟨cs', k1, k2⟩ := fill_sound (m := m) (fun i p hp => hp) (parts_sound ht hl) hcr hf
          have hrow : (Array.range (k * ti.size)).map (fun i => zv.cells[i % zv.cells.size]!) = (repL k (cellsOf zv)).toArray := by
            have := rep_arr zv.cells k
            rw [cells_list] at this
            rw [← this]
            have hz2 : zv.cells.size = ti.size := by rw [cells_arr, hlen]; simp
            rw [hz2]
          refine ⟨.slice (some ⟨w.heap.size, 0, none⟩) k k, w.alloc (.cells cs' e), ⟨w.heap.size, 0, k * ti.size, 0, false, k * ti.size⟩, ?_, rfl, by simp, fun q hq => Below.heap_alloc w _ q hq, (Below.refl _ _).alloc hB _, ?_, fun m' b hb => .slice _ _ _ _ _ ⟨rfl, _, hb, rfl⟩ (.inl rfl) (Nat.le_refl _)⟩
          · have k1' : Instr.fill (fun i => some (i * ti.size, ti.size)) (repL k (cellsOf zv)).toArray (ps.toList.map fun x => (x.fst, act.eval x.snd)) = some cs' := k1
            by_cases h0 : k * ti.size = 0
            · have hk0 : Instr.fill (fun i => some (i * ti.size, ti.size)) (Array.map (fun _ => default) (Array.range 0)) (ps.toList.map fun x => (x.fst, act.eval x.snd)) = some cs' := by
                rw [← k1']; congr 1
                have : (repL k (cellsOf zv)).length = 0 := by rw [hrl, h0]
                rw [List.length_eq_zero_iff.1 this]; simp
              simp [Instr.buildSlice, run_underlying hun, sizeOf, typeInfo, hti, h0, newRow, hk0]
            · simp [Instr.buildSlice, run_underlying hun, sizeOf, typeInfo, hti, h0, show ¬ 16777216 < k * ti.size by omega, zeroValue, hzv, newRow, hrow, k1']
          · refine ⟨rfl, rfl, rfl, by simp, cs', (0, 0), heap_alloc_new w _, k2.1, fun j hj => ?_, .inl rfl⟩
            obtain ⟨v, v', e1, e2, e3⟩ := k2.2 j hj
            exact ⟨v, v', e1, by simpa using e2, e3⟩
        · cases h
    · cases h
  · cases h

/-! Maps. -/
def EL (m : M ω) (es es' : List MapEntry) : Prop := es.length = es'.length ∧ ∀ (k : Nat) (e e' : MapEntry), es[k]? = some e → es'[k]? = some e' → ERel m e e'
theorem EL.tail {e e' : MapEntry} {es es' : List MapEntry} (h : EL m (e :: es) (e' :: es')) : ERel m e e' ∧ EL m es es' :=
  ⟨h.2 0 e e' rfl rfl, by simpa using h.1, fun k a b ha hb => h.2 (k + 1) a b (by simpa using ha) (by simpa using hb)⟩
theorem EL.at_ {es es' : List MapEntry} (h : EL m es es') {k : Nat} {e : MapEntry} (he : es[k]? = some e) : ∃ e', es'[k]? = some e' ∧ ERel m e e' := by
  have hk := (List.getElem?_eq_some_iff.1 he).1
  have hk' : k < es'.length := by rw [← h.1]; exact hk
  exact ⟨es'[k], List.getElem?_eq_getElem hk', h.2 k _ _ he (List.getElem?_eq_getElem hk')⟩

theorem find_none {d : TypeDesc} {k : Value} : ∀ {es es' : List MapEntry} {i : Nat}, EL m es es' → Instr.findNow d k es i = some none → Instr.findNow d k es' i = some none
  | [], [], _, _, h => h
  | e :: es, e' :: es', i, hl, h => by
    obtain ⟨he, hl'⟩ := hl.tail
    unfold Instr.findNow at h ⊢
    rw [← he.1]
    split at h
    · cases h
    · exact find_none hl' h
    · cases h
  | [], _ :: _, _, hl, _ => by have := hl.1; simp at this
  | _ :: _, [], _, hl, _ => by have := hl.1; simp at this
theorem find_some {d : TypeDesc} {k : Value} : ∀ {es es' : List MapEntry} {i j : Nat} {v : Value}, EL m es es' → Instr.findNow d k es i = some (some (j, v)) →
    ∃ v', Instr.findNow d k es' i = some (some (j, v')) ∧ VRel m v v' ∧ i ≤ j ∧ ∃ e, es[j - i]? = some e ∧ Instr.sameNow d k e.key = some true
  | [], [], _, _, _, _, h => by simp [Instr.findNow] at h
  | e :: es, e' :: es', i, j, v, hl, h => by
    obtain ⟨he, hl'⟩ := hl.tail
    unfold Instr.findNow at h ⊢
    rw [← he.1]
    split at h
    · rename_i hq; cases h; exact ⟨e'.val, rfl, he.2.2.1, Nat.le_refl _, e, by simp, hq⟩
    · obtain ⟨v', h1, h2, h3, e0, h4, h5⟩ := find_some hl' h
      exact ⟨v', h1, h2, by omega, e0, by rw [show j - i = (j - (i + 1)) + 1 by omega]; simpa using h4, h5⟩
    · cases h
  | [], _ :: _, _, _, _, hl, _ => by have := hl.1; simp at this
  | _ :: _, [], _, _, _, hl, _ => by have := hl.1; simp at this

theorem plainKey_plain {d : TypeDesc} {k : Value} (h : plainKey d k = true) : plainV k = true := by
  cases k <;> simp [plainKey] at h <;> rfl
theorem plainKey_check {kt : TypeId} {d : TypeDesc} {k : Value} {b : Bool} (hu : C.P.underlying kt = some d) (h : plainKey d k = true) : (Instr.checkKey b 10000 kt k).run C.P w = .ok () w := by
  have : ∀ q, (Instr.checkKey b (q + 1) kt k).run C.P w = .ok () w := fun q => by
    cases k <;> simp [plainKey] at h
    all_goals (cases d <;> simp at h <;> simp [Instr.checkKey, run_underlying hu])
  exact this 9999
theorem same_stays {d : TypeDesc} {k k' : Value} (h : Instr.sameNow d k k' = some true) : (Instr.keyThatStays k' k).run C.P w = .ok k w := by
  have : ∀ q, Instr.sameBits q k' k = true := fun q => by
    unfold Instr.sameNow at h
    split at h
    · split at h
      · rename_i hk; subst hk; simp at h; subst h; simp [Instr.sameBits]
      · cases h
    · simp only [Option.some.injEq] at h; rw [MapKept.bytes_beq] at h; subst h; simp [Instr.sameBits, MapKept.bytes_beq]
    · simp at h; subst h; simp [Instr.sameBits]
    · cases h
  simp [Instr.keyThatStays, this]

theorem map_obj {b : Nat} {es : List MapEntry} {ck : Nat} (hs : SR B X m s w) (hb : s.h.get b = some (.map es ck)) {i : Info} (hi : m b = some i) :
    ∃ es', w.heap[i.r]? = some (.map es'.toArray ck) ∧ EL m es es' ∧ B ≤ i.r ∧ i.r < w.heap.size := by
  obtain ⟨⟨es', h2, h3⟩, h4, h5⟩ := hs.rel b _ i hb rfl hi
  exact ⟨es', h2, h3, h4, h5⟩
theorem getObj_run {r : Nat} {es : Array MapEntry} {ck : Nat} (h : w.heap[r]? = some (.map es ck)) : (getObj r).run C.P w = .ok (.map es ck) w := by simp [getObj, Sem.run, h]
theorem setObj_run {r : Nat} {es : Array MapEntry} {ck : Nat} {o' : Obj} (h : w.heap[r]? = some (.map es ck)) : (setObj r o').run C.P w = .ok () { w with heap := w.heap.setIfInBounds r o' } := by simp [setObj, Sem.run, h]

/-- A map that is another one now. -/
theorem setMap_sound {b : Nat} {es : List MapEntry} {ck : Nat} (hs : SR B X m s w) (hb : s.h.get b = some (.map es ck)) {i : Info} (hi : m b = some i) (hB : B ≤ i.r) (hlt : i.r < w.heap.size)
    {es2 es2' : List MapEntry} {ck2 : Nat} (hl : EL m es2 es2') :
    SR B X m ⟨s.n, s.h.put b (.map es2 ck2)⟩ { w with heap := w.heap.setIfInBounds i.r (.map es2'.toArray ck2) } ∧ Below B w { w with heap := w.heap.setIfInBounds i.r (.map es2'.toArray ck2) } := by
  refine ⟨upd_sound hs hb rfl hi (by simp) (fun k hk => ?_) ⟨es2', ?_, hl⟩, ⟨rfl, rfl, rfl, by simp, fun k hk => ?_⟩⟩
  · show (w.heap.setIfInBounds i.r _)[k]? = _
    rw [Array.getElem?_setIfInBounds, if_neg (fun e => hk e.symm)]
  · show (w.heap.setIfInBounds i.r _)[i.r]? = _
    rw [Array.getElem?_setIfInBounds, if_pos rfl, if_pos hlt]
  · show (w.heap.setIfInBounds i.r _)[k]? = _
    rw [Array.getElem?_setIfInBounds, if_neg (by omega)]

theorem mapv_inv {r : Option Nat} {v : Value} (h : VRel m (.map r) v) : (r = none ∧ v = .map none) ∨ ∃ b i, r = some b ∧ m b = some i ∧ v = .map (some i.r) := by
  cases h with
  | plain v h => cases r with
    | none => exact .inl ⟨rfl, rfl⟩
    | some b => simp [plainV] at h
  | map b i h => exact .inr ⟨b, i, rfl, h, rfl⟩

theorem lookup_sound (hC : CtxOK ω C) (hs : SR B X m s w) (ht : TR m n a act) {t : TypeId} {x k : Operand} {ok : Bool} {r : R} (h : opLookup t x k ok C a s = some (r, s')) :
    OpOK C B X m s' w r ((do let z ← Instr.lookup t (act.eval x) (act.eval k) ok; pure (Next.value z) : Sem Next).run C.P w) := by
  have two : ∀ {u u' : Value} (b : Bool), VRel m u u' → VRel m (cond ok (.tuple #[u, .bool b]) u) (if ok then .tuple #[u', .bool b] else u') := fun b hv => by
    cases ok
    · exact hv
    · exact (LRel.cons hv (LRel.cons (.plain (.bool b) rfl) (LRel.nil m))).tuple
  unfold opLookup at h
  split at h
  · rename_i kt et r0 kv hu hx hk
    have hun := hC.un _ _ hu
    split at h
    · rename_i d ei hd hei
      have hdn := hC.un _ _ hd
      have hen := hC.ty _ _ hei
      split at h
      · rename_i es z hes hz
        cases hp : (plainKey d kv && closedV z) with
        | false => simp [hp] at h
        | true =>
          simp only [hp, cond_true] at h
          rw [Bool.and_eq_true] at hp
          have hkv := plain_inv (opnd_sound ht hk) (plainKey_plain hp.1)
          obtain ⟨es', hel, hrun⟩ : ∃ es', EL m es es' ∧ (act.eval x = .map none ∧ es' = [] ∨ ∃ r ck, act.eval x = .map (some r) ∧ w.heap[r]? = some (.map es'.toArray ck)) := by
            rcases mapv_inv (opnd_sound ht hx) with ⟨rfl, e⟩ | ⟨b, i, rfl, hi, e⟩
            · cases hes
              exact ⟨[], ⟨rfl, fun k e e' h => by simp at h⟩, .inl ⟨e, rfl⟩⟩
            · simp only at hes
              split at hes
              · rename_i es0 ck hb
                cases hes
                obtain ⟨es', h2, h3, _⟩ := map_obj hs hb hi
                exact ⟨es', h3, .inr ⟨_, _, e, h2⟩⟩
              · cases hes
          have hzr : (zeroValue et).run C.P w = .ok z w := by simp [zeroValue, typeInfo, hen, hz]
          split at h
          · rename_i j v hf
            cases h
            obtain ⟨v', g1, g2, _⟩ := find_some hel hf
            refine VOK.op (VOK.same hs (v' := if ok then .tuple #[v', .bool true] else v') ?_ (two true g2))
            rcases hrun with ⟨e, rfl⟩ | ⟨q, ck, e, hq⟩
            · simp [Instr.lookup, run_underlying hun, e, hkv, plainKey_check hdn hp.1, Instr.findKey, run_underlying hdn, g1, Result.andThen]
            · simp [Instr.lookup, run_underlying hun, e, getObj_run hq, hkv, plainKey_check hdn hp.1, Instr.findKey, run_underlying hdn, g1, Result.andThen]
          · rename_i hf
            cases h
            have g1 := find_none hel hf
            refine VOK.op (VOK.same hs (v' := if ok then .tuple #[z, .bool false] else z) ?_ (two false (closed_refl hp.2)))
            rcases hrun with ⟨e, rfl⟩ | ⟨q, ck, e, hq⟩
            · simp [Instr.lookup, run_underlying hun, e, hkv, plainKey_check hdn hp.1, Instr.findKey, run_underlying hdn, g1, hzr, Result.andThen]
            · simp [Instr.lookup, run_underlying hun, e, getObj_run hq, hkv, plainKey_check hdn hp.1, Instr.findKey, run_underlying hdn, g1, hzr, Result.andThen]
          · cases h
      · cases h
    · cases h
  · cases h

theorem EL.modify {es es' : List MapEntry} (h : EL m es es') (j : Nat) {kv v v' : Value} (hk : plainV kv = true) (hv : VRel m v v') :
    EL m (es.modify j fun e => { e with key := kv, val := v }) (es'.modify j fun e => { e with key := kv, val := v' }) := by
  refine ⟨by simp [h.1], fun k e e' he he' => ?_⟩
  rw [List.getElem?_modify] at he he'
  by_cases hj : j = k
  · subst hj
    simp only [if_true] at he he'
    cases h1 : es[j]? with
    | none => simp [h1] at he
    | some e0 =>
      obtain ⟨e1, h2, h3⟩ := h.at_ h1
      simp [h1] at he
      simp [h2] at he'
      subst he; subst he'
      exact ⟨rfl, hk, hv, h3.2.2.2⟩
  · simp [hj] at he he'
    exact h.2 k e e' he he'
theorem EL.push {es es' : List MapEntry} (h : EL m es es') {kv v v' : Value} (ck : Nat) (hk : plainV kv = true) (hv : VRel m v v') :
    EL m (es ++ [{ key := kv, val := v, born := ck }]) (es' ++ [{ key := kv, val := v', born := ck }]) := by
  refine ⟨by simp [h.1], fun k e e' he he' => ?_⟩
  by_cases hk' : k < es.length
  · rw [List.getElem?_append_left hk'] at he
    rw [List.getElem?_append_left (by rw [← h.1]; exact hk')] at he'
    exact h.2 k e e' he he'
  · rw [List.getElem?_append_right (by omega)] at he
    rw [List.getElem?_append_right (by rw [← h.1]; omega)] at he'
    rw [← h.1] at he'
    cases hq : k - es.length with
    | zero => rw [hq] at he he'; simp at he he'; subst he; subst he'; exact ⟨rfl, hk, hv, rfl⟩
    | succ q => rw [hq] at he; simp at he
theorem EL.erase {es es' : List MapEntry} (h : EL m es es') (j : Nat) : EL m (es.eraseIdx j) (es'.eraseIdx j) := by
  refine ⟨by simp [List.length_eraseIdx, h.1], fun k e e' he he' => ?_⟩
  rw [List.getElem?_eraseIdx] at he he'
  split at he
  · rename_i hk; rw [if_pos hk] at he'; exact h.2 k e e' he he'
  · rename_i hk; rw [if_neg hk] at he'; exact h.2 _ e e' he he'

theorem mapUpdate_sound (hC : CtxOK ω C) (hs : SR B X m s w) (ht : TR m n a act) {t : TypeId} {x k v : Operand} {r : R} (h : opMapUpdate t x k v C a s = some (r, s')) :
    OpOK C B X m s' w r ((do Instr.mapUpdate t (act.eval x) (act.eval k) (act.eval v); pure Next.skip : Sem Next).run C.P w) := by
  unfold opMapUpdate at h
  split at h
  · rename_i kt et b kv vv hu hx hk hv
    have hun := hC.un _ _ hu
    have hvv := opnd_sound ht hv
    split at h
    · rename_i d es ck hd hb
      have hdn := hC.un _ _ hd
      cases hp : plainKey d kv with
      | false => simp [hp] at h
      | true =>
        simp only [hp, cond_true] at h
        have hkv := plain_inv (opnd_sound ht hk) (plainKey_plain hp)
        obtain ⟨i, h1, hx'⟩ := map_inv (opnd_sound ht hx)
        obtain ⟨es', h2, h3, h4, h5⟩ := map_obj hs hb h1
        split at h
        · rename_i j u hf
          cases h
          obtain ⟨v', g1, g2, _, e0, g3, g4⟩ := find_some h3 hf
          obtain ⟨e1, g5, g6⟩ := h3.at_ (by simpa using g3)
          have hkey : e1.key = e0.key := g6.1.symm
          obtain ⟨k1, k2⟩ := setMap_sound (ck2 := ck) hs hb h1 h4 h5 (h3.modify j (plainKey_plain hp) hvv)
          refine ⟨.skip, _, m, ?_, Le.refl _, k1, k2, trivial⟩
          simp [Instr.mapUpdate, run_underlying hun, hx', hkv, getObj_run h2, plainKey_check hdn hp, Instr.findKey, run_underlying hdn, g1, g5, hkey, same_stays g4, setObj_run h2, Result.andThen]
        · rename_i hf
          cases h
          have g1 := find_none h3 hf
          obtain ⟨k1, k2⟩ := setMap_sound (ck2 := ck + 1) hs hb h1 h4 h5 (h3.push ck (plainKey_plain hp) hvv)
          refine ⟨.skip, _, m, ?_, Le.refl _, k1, k2, trivial⟩
          simp [Instr.mapUpdate, run_underlying hun, hx', hkv, getObj_run h2, plainKey_check hdn hp, Instr.findKey, run_underlying hdn, g1, setObj_run h2, Result.andThen]
        · cases h
    · cases h
  · cases h

theorem delete_sound (hC : CtxOK ω C) (hs : SR B X m s w) {ts : List TypeId} {vs : List Value} {args : Array Value} (hl : LRel m vs args.toList) {ty : TypeId} {r : R} (h : biDelete C ts vs s = some (r, s')) :
    OpOK C B X m s' w r ((do let z ← Builtin.delete_ ts.toArray ty args; pure (Next.value z) : Sem Next).run C.P w) := by
  unfold biDelete at h
  split at h
  · rename_i t t2 b k
    obtain ⟨u1, u2, rfl⟩ : ∃ u1 u2, args = #[u1, u2] := by
      have := hl.1; simp at this
      match args, this with
      | ⟨[u1, u2]⟩, _ => exact ⟨u1, u2, rfl⟩
    have hr1 := hl.tail.1
    have hr2 := hl.tail.2.tail.1
    split at h
    · rename_i kt et es ck hu hb
      have hun := hC.un _ _ hu
      split at h
      · rename_i d hd
        have hdn := hC.un _ _ hd
        cases hp : plainKey d k with
        | false => simp [hp] at h
        | true =>
          simp only [hp, cond_true] at h
          have hkv := plain_inv hr2 (plainKey_plain hp)
          obtain ⟨i, h1, hx'⟩ := map_inv hr1
          obtain ⟨es', h2, h3, h4, h5⟩ := map_obj hs hb h1
          split at h
          · rename_i j u hf
            cases h
            obtain ⟨v', g1, g2, _, e0, g3, g4⟩ := find_some h3 hf
            have hj : j < es'.length := by
              have := (List.getElem?_eq_some_iff.1 g3).1; rw [← h3.1]; simpa using this
            obtain ⟨k1, k2⟩ := setMap_sound (ck2 := ck) hs hb h1 h4 h5 (h3.erase j)
            refine ⟨.value (.tuple #[]), _, m, ?_, Le.refl _, k1, k2, .tuple _ _ rfl (fun i hi => by simp at hi)⟩
            simp [Builtin.delete_, run_underlying hun, hx', hkv, getObj_run h2, plainKey_check hdn hp, Instr.findKey, run_underlying hdn, g1, setObj_run h2, Result.andThen, Array.eraseIdxIfInBounds, hj]
          · rename_i hf
            cases h
            have g1 := find_none h3 hf
            obtain ⟨k1, k2⟩ := setMap_sound (ck2 := ck) hs hb h1 h4 h5 h3
            refine ⟨.value (.tuple #[]), _, m, ?_, Le.refl _, k1, k2, .tuple _ _ rfl (fun i hi => by simp at hi)⟩
            simp [Builtin.delete_, run_underlying hun, hx', hkv, getObj_run h2, plainKey_check hdn hp, Instr.findKey, run_underlying hdn, g1, setObj_run h2, Result.andThen]
          · cases h
      · cases h
    · cases h
  · cases h
end
end Go.Proofs.YtenfkghoolegfaaGreatDoor.Ev
