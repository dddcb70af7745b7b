/- An interpreter over an abstract memory, part l: copy, min and max, calls; every operation is sound. -/
import Derived.Test.YtenfkghoolegfaaGreatDoorEvk
namespace Go.Proofs.YtenfkghoolegfaaGreatDoor.Ev
open Go.RowKit
variable {ω : Nat → Value}
section
variable {C : Ctx} {B : Nat} {X : Aux} {m : M ω} {s s' : AS} {w : World} {a : T Value} {act : Act} {n : Nat}

theorem copyTo_sound (hs : SR B X m s w) {P : Program} {p p' : Addr} {q c c' size : Nat} {y y' : Value} (hx : VRel m (.slice (some p) q c) (.slice (some p') q c')) (hy : VRel m y y') {r : R} (h : copyTo s p q size y = some (r, s')) :
    ∃ v k w' cells, r = .val v ∧ v = .int .i64 (Nat.min k q : Nat) ∧ (Builtin.lenOf y').run P w = .ok k w ∧ (Builtin.firstCells size (Nat.min k q) y').run P w = .ok cells w ∧ (storeCells p' cells.toList).run P w = .ok () w' ∧ SR B X m s' w' ∧ Below B w w' := by
  have store : ∀ {l l' : List Value} {s2 : AS}, LRel m l l' → (q = 0 → l = []) → writeL s p l = some s2 → ∃ w', (storeCells p' l').run P w = .ok () w' ∧ SR B X m s2 w' ∧ Below B w w' := by
    intro l l' s2 hl h0 hw
    obtain ⟨p2, c2, e, hor⟩ := slice_inv hx
    cases e
    rcases hor with ⟨hp, _, _⟩ | ⟨rfl, _, _⟩
    · exact writeL_sound hs hw hp hl
    · have := h0 rfl
      subst this
      have : l' = [] := List.length_eq_zero_iff.1 (by rw [← hl.1]; rfl)
      subst this
      exact ⟨w, by simp [storeCells], writeNil_sound hs (slice_map hx) hw, Below.refl _ _⟩
  unfold copyTo at h
  split at h
  · cases h
    obtain rfl := nilsl_inv hy
    exact ⟨_, 0, w, #[], rfl, by simp, rfl, rfl, by simp [storeCells], hs, Below.refl _ _⟩
  · rename_i b k cc
    split at h
    · rename_i l hl
      split at h
      · rename_i s2 hw
        cases h
        obtain ⟨b', c2, rfl, hor⟩ := slice_inv hy
        obtain ⟨l', h1, h2, h3⟩ : ∃ l', LRel m l l' ∧ l'.length = Nat.min k q * size ∧ ∀ j v, l'[j]? = some v → w.cell? (b'.add j) = some v := by
          rcases hor with ⟨hp, _, _⟩ | ⟨rfl, _, _⟩
          · exact readN_sound hs hl hp
          · rw [show Nat.min 0 q = 0 from Nat.zero_min q, Nat.zero_mul] at hl
            obtain rfl := readN_zero hl
            exact ⟨[], LRel.nil m, by simp, fun j v h => by simp at h⟩
        obtain ⟨w', g1, g2, g3⟩ := store h1 (fun e => by
          subst e
          rw [show Nat.min k 0 = 0 from Nat.min_zero k, Nat.zero_mul] at hl
          exact readN_zero hl) hw
        exact ⟨_, k, w', l'.toArray, rfl, rfl, rfl, run_firstCells_some w size (Nat.min k q) b' k c2 l' h2 h3, by simpa using g1, g2, g3⟩
      · cases h
    · cases h
  · rename_i b
    split at h
    · rename_i s2 hw
      cases h
      obtain rfl := str_inv hy
      obtain ⟨w', g1, g2, g3⟩ := store (LRel.plain (List.all_eq_true.2 fun v hv => by obtain ⟨_, _, rfl⟩ := List.mem_map.1 hv; rfl)) (fun e => by subst e; simp) hw
      refine ⟨_, b.size, w', _, rfl, rfl, rfl, rfl, ?_, g2, g3⟩
      have : ((b.extract 0 (Nat.min b.size q)).data.map fun x => Value.int .u8 x.toNat).toList = (b.data.toList.take (Nat.min b.size q)).map fun x => Value.int .u8 x.toNat := by
        rw [Array.toList_map]
        congr 1
        simp [ByteArray.data_extract, List.extract_eq_take_drop]
      simp only [this]
      exact g1
    · cases h
  · cases h

theorem copy_sound (hC : CtxOK ω C) (hs : SR B X m s w) {ts : List TypeId} {vs : List Value} {args : Array Value} (hl : LRel m vs args.toList) {ty : TypeId} {r : R} (h : biCopy C ts vs s = some (r, s')) :
    OpOK C B X m s' w r ((do let z ← Builtin.copy_ ts.toArray ty args; pure (Next.value z) : Sem Next).run C.P w) := by
  unfold biCopy at h
  split at h
  · rename_i t t2 x y
    obtain ⟨x', y', rfl, hx, hy⟩ := args2 hl
    split at h
    · rename_i e hu
      have hun := hC.un _ _ hu
      split at h
      · rename_i size hsz
        obtain ⟨ti, hti, rfl⟩ := sizeT_sound hC hsz
        split at h
        · obtain rfl := nilsl_inv hx
          unfold copyNil at h
          split at h
          · rename_i p k c
            cases h
            have : ∃ p' c', y' = .slice p' k c' := by
              cases hy with
              | plain v h => exact ⟨_, _, rfl⟩
              | slice a a' n c c' => exact ⟨_, _, rfl⟩
              | slice0 a a' h0 => exact ⟨_, _, rfl⟩
            obtain ⟨p', c', rfl⟩ := this
            refine VOK.op (VOK.same hs (v' := .int .i64 0) ?_ (.plain _ rfl))
            cases p' <;> simp [Builtin.copy_, run_underlying hun, Builtin.lenOf, sizeOf, typeInfo, hti, Builtin.firstCells, loadCells, loadCellsFrom, goInt]
          · rename_i b
            cases h
            obtain rfl := str_inv hy
            exact VOK.op (VOK.same hs (v' := .int .i64 0) (by simp [Builtin.copy_, run_underlying hun, Builtin.lenOf, sizeOf, typeInfo, hti, Builtin.firstCells, goInt]) (.plain _ rfl))
          · cases h
        · rename_i p q c
          obtain ⟨p', c', e, _⟩ := slice_inv hx
          subst e
          obtain ⟨v, k, w', cells, rfl, rfl, g1, g2, g3, g4, g5⟩ := copyTo_sound (P := C.P) hs hx hy h
          refine VOK.op ⟨.int .i64 (Nat.min k q : Nat), w', m, ?_, Le.refl _, g4, g5, .plain _ rfl⟩
          simp [Builtin.copy_, run_underlying hun, g1, sizeOf, typeInfo, hti, g2, g3, goInt]
        · cases h
      · cases h
    · cases h
  · cases h

theorem plain_list {l l' : List Value} (h : LRel m l l') (hp : l.all plainV = true) : l' = l := by
  apply List.ext_getElem?
  intro i
  by_cases hi : i < l.length
  · obtain ⟨v', h1, h2⟩ := h.at_ (List.getElem?_eq_getElem hi)
    rw [h1, List.getElem?_eq_getElem hi, plain_inv h2 (List.all_eq_true.1 hp _ (List.getElem_mem hi))]
  · rw [List.getElem?_eq_none (by rw [← h.1]; omega), List.getElem?_eq_none (by omega)]

theorem minmax_sound (hs : SR B X m s w) {b : Builtin} (hb : b = .min ∨ b = .max) {ts : List TypeId} {vs : List Value} {args : Array Value} (hl : LRel m vs args.toList) {ty : TypeId} {cs : Array Bool} {r : R} (h : biMinmax b C ts vs s = some (r, s')) :
    OpOK C B X m s' w r ((builtin b ts.toArray ty cs args).run C.P w) := by
  unfold biMinmax at h
  cases hp : vs.all plainV with
  | false => simp [hp] at h
  | true =>
    simp only [hp, cond_true] at h
    split at h
    · rename_i v hv
      cases hpv : plainV v with
      | false => simp [hpv] at h
      | true =>
        simp only [hpv, cond_true, Option.some.injEq, Prod.mk.injEq] at h
        obtain ⟨rfl, rfl⟩ := h
        have e1 := plain_list hl hp
        have e2 : args = vs.toArray := by rw [← e1]
        subst e2
        have hr := pureRun_run _ _ hv w
        refine ⟨.value v, w, m, ?_, Le.refl _, hs, Below.refl _ _, .plain v hpv⟩
        rw [← hr]
        rcases hb with rfl | rfl <;> rfl
    · cases h

theorem clear_sound (hC : CtxOK ω C) (hs : SR B X m s w) {ts : List TypeId} {vs : List Value} {args : Array Value} (hl : LRel m vs args.toList) {ty : TypeId} {r : R} (h : biClear C ts vs s = some (r, s')) :
    OpOK C B X m s' w r ((do let z ← Builtin.clear_ ts.toArray ty args; pure (Next.value z) : Sem Next).run C.P w) := by
  have hu0 : VRel m (.tuple #[]) (.tuple #[]) := by
    first
      | exact .plain _ rfl
      | exact LRel.tuple (l := []) (l' := []) (LRel.nil m)
  unfold biClear at h
  split at h
  · rename_i t a n c
    obtain ⟨x', rfl, hx⟩ := args1 hl
    split at h
    · rename_i e hu
      have hun := hC.un _ _ hu
      split at h
      · rename_i z hz
        obtain ⟨p', c', rfl, hor⟩ := slice_inv hx
        cases hn : Nat.beq n 0 with
        | true =>
          rw [hn] at h
          obtain rfl := Nat.eq_of_beq_eq_true hn
          cases h
          exact VOK.op (VOK.same hs (v' := .tuple #[]) (by simp [Builtin.clear_, run_underlying hun]) hu0)
        | false =>
          rw [hn] at h
          simp only [cond_false] at h
          split at h
          · rename_i s2 hw
            cases h
            obtain ⟨k, rfl⟩ : ∃ k, n = k + 1 := ⟨n - 1, by have := Nat.ne_of_beq_eq_false hn; omega⟩
            rcases hor with ⟨hp, _, _⟩ | ⟨h0, _, _⟩
            · obtain ⟨i, v, hi, hzv, rfl, hpl, hlen⟩ := zeroC_sound hC hz
              obtain ⟨w', g1, g2, g3⟩ := writeL_sound (P := C.P) hs hw hp (LRel.plain (repL_plain _ hpl (k + 1)))
              refine VOK.op ⟨.tuple #[], w', m, ?_, Le.refl _, g2, g3, hu0⟩
              have hzc : (Builtin.zeroCells v.cells (k + 1)).toList = repL (k + 1) (cellsOf v) := by
                have := rep_arr v.cells (k + 1)
                unfold Builtin.zeroCells
                rw [this, cells_list]
              simp [Builtin.clear_, run_underlying hun, zeroValue, typeInfo, hi, hzv, hzc, g1]
            · cases h0
          · cases h
      · cases h
    · cases h
  · rename_i t
    obtain ⟨x', rfl, hx⟩ := args1 hl
    split at h
    · rename_i e hu
      have hun := hC.un _ _ hu
      cases h
      obtain rfl := nilsl_inv hx
      exact VOK.op (VOK.same hs (v' := .tuple #[]) (by simp [Builtin.clear_, run_underlying hun]) hu0)
    · cases h
  · cases h

theorem builtin_sound (hC : CtxOK ω C) (hs : SR B X m s w) (hB : Bs ω C B w) {b : Builtin} {ts : List TypeId} {vs : List Value} {args : Array Value} (hl : LRel m vs args.toList) {ty : TypeId} {cs : Array Bool} {r : R} (h : builtinV C b ts vs s = some (r, s')) :
    OpOK C B X m s' w r ((builtin b ts.toArray ty cs args).run C.P w) := by
  unfold builtinV builtinK at h
  split at h
  · exact append_sound hC hs hB hl h
  · exact len_sound hC hs hl h
  · exact cap_sound hC hs hl h
  · exact copy_sound hC hs hl h
  · exact delete_sound hC hs hl h
  · exact clear_sound hC hs hl h
  · exact minmax_sound hs (.inl rfl) hl h
  · exact minmax_sound hs (.inr rfl) hl h
  · cases h

theorem func_inv {g : FuncId} {fs cs : Array Value} {v : Value} (h : VRel m (.func (.func g) fs cs) v) : ∃ fs' cs', v = .func (.func g) fs' cs' ∧ LRel m fs.toList fs'.toList ∧ LRel m cs.toList cs'.toList := by
  cases h with
  | plain v h => simp [plainV] at h
  | func f fs fs' cs cs' h1 h2 h3 h4 => exact ⟨fs', cs', rfl, LRel.of_arr h1 h3, LRel.of_arr h2 h4⟩
theorem yield_inv {l : Nat} {fs cs : Array Value} {v : Value} (h : VRel m (.func (.yield l) fs cs) v) : ∃ i, m l = some i ∧ v = .func (.yield i.r) #[] #[] := by
  cases h with
  | plain v h => simp [plainV] at h
  | yield b i h => exact ⟨i, h, rfl⟩

theorem find_arr {α : Type} (xs : Array α) (p : α → Bool) : xs.find? p = xs.toList.find? p := by simp

theorem call_sound (hC : CtxOK ω C) (hs : SR B X m s w) (ht : TR m n a act) (hB : Bs ω C B w) {c : Call} {ty : TypeId} {r : R} (h : opCall c C a s = some (r, s')) :
    OpOK C B X m s' w r ((do let d ← resolve act.eval c ty; invoke d.target d.args : Sem Next).run C.P w) := by
  unfold opCall at h
  split at h
  · rename_i b vs hc hv
    have hl := opnds_sound ht hv
    have hl' : LRel m vs (c.args.map act.eval).toList := by simpa using hl
    simp only [resolve, hc, Sem.run_bind]
    exact builtin_sound hC hs hB hl' h
  · rename_i f vs hc hv
    have hl := opnds_sound ht hv
    have hl' : LRel m vs (c.args.map act.eval).toList := by simpa using hl
    split at h
    · rename_i g fs cs hf
      cases h
      obtain ⟨fs', cs', e, h1, h2⟩ := func_inv (opnd_sound ht hf)
      refine ⟨fs' ++ c.args.map act.eval ++ cs', by simpa using (h1.append hl).append h2, ?_, hs⟩
      simp [resolve, hc, e, Deferred.ofValue, invoke]
    · rename_i l fs cs hf
      cases h
      obtain ⟨i, h1, e⟩ := yield_inv (opnd_sound ht hf)
      refine ⟨i, c.args.map act.eval, h1, hl', ?_, hs⟩
      simp [resolve, hc, e, Deferred.ofValue, invoke]
    · cases h
  · rename_i rc name vs hc hv
    have hl := opnds_sound ht hv
    split at h
    · rename_i t v hr
      obtain ⟨v', hv', e⟩ := iface_inv (opnd_sound ht hr)
      have hx : ((#[Value.iface t v'] ++ c.args.map act.eval).extract 1 (#[Value.iface t v'] ++ c.args.map act.eval).size) = c.args.map act.eval := by
        apply Array.ext'
        simp [List.extract_eq_take_drop]
        rw [List.take_of_length_le (by simp)]
      have h0 : (#[Value.iface t v'] ++ c.args.map act.eval)[0]? = some (.iface t v') := by rw [Array.getElem?_append_left (by simp)]; rfl
      have go : ∀ (g : FuncId) (rv : Value), (method (C.P.types.size + Made.depth) t v' name).run C.P w = .ok (g, rv) w →
          (do let d ← resolve act.eval c ty; invoke d.target d.args : Sem Next).run C.P w = (callFunc g (#[rv] ++ c.args.map act.eval)).run C.P w := by
        intro g rv hmeth
        simp only [resolve, hc, e, Sem.run_bind, Sem.run_pure, Result.andThen, invoke]
        simp only [h0, hx, callMethod, Sem.run_bind, run_program, Result.andThen]
        rw [hmeth]
      unfold invokeV at h
      split at h
      · rename_i g rv hm0
        cases h
        obtain ⟨rv', hrv, hrun⟩ := hC.meth t name v g rv hm0 m v' hv'
        exact ⟨_, by simpa using LRel.cons hrv hl, go g rv' (hrun w), hs⟩
      unfold invokeT at h
      split at h
      · rename_i ti hti
        have hti' := hC.ty _ _ hti
        split at h
        · rename_i mt hm
          have hm' : ti.methods.find? (fun x => x.name == name) = some mt := by rw [find_arr]; exact hm
          have mk : ∀ (g : FuncId) (b : Bool), mt.path.toList = [] → mt.func = some (g, b) → (∀ o, (receiverAt t (.val v') b o).run C.P w = .ok v' w) →
              (do let d ← resolve act.eval c ty; invoke d.target d.args : Sem Next).run C.P w = (callFunc g (#[v'] ++ c.args.map act.eval)).run C.P w := by
            intro g b hp hg hrec
            have hmeth : ∀ q, (method (q + 1) t v' name).run C.P w = .ok (g, v') w := by
              intro q
              simp [method, typeInfo, hti', hm', hp, follow, hg, hrec]
            have hd : C.P.types.size + Made.depth = (C.P.types.size + 99) + 1 := rfl
            exact go g v' (by rw [hd, hmeth])
          have hargs : LRel m (v :: vs) (#[v'] ++ c.args.map act.eval).toList := by simpa using LRel.cons hv' hl
          split at h
          · rename_i g e2 hp hg hu
            cases h
            have hun := hC.un _ _ hu
            exact ⟨_, hargs, mk g true hp hg (fun o => by simp [receiverAt, run_underlying hun, Place.get]), hs⟩
          · rename_i g d hp hg hu
            have hun := hC.un _ _ hu
            cases hd : isPtrD d with
            | true => simp [hd] at h
            | false =>
              simp only [hd, cond_false, Option.some.injEq, Prod.mk.injEq] at h
              obtain ⟨rfl, rfl⟩ := h
              refine ⟨_, hargs, mk g false hp hg (fun o => ?_), hs⟩
              cases d <;> first | (simp [isPtrD] at hd; done) | simp [receiverAt, run_underlying hun, Place.get]
          · cases h
        · cases h
      · cases h
    · cases h
  · cases h

/-- An operation that makes a block. -/
theorem al_new (hC : CtxOK ω C) (ht : TR m n a act) (hB : B ≤ w.heap.size) {o : Oper} {q : AObj} {f : Nat → Value} (h : alOf o.op C a = some (q, f)) : NewOK B m w q f ((execOp act.eval o).run C.P w) := by
  cases ho : o.op
  case alloc => rw [ho] at h; simp only [execOp, ho]; exact alloc_new (a := a) hC hB h
  case box => rw [ho] at h; simp only [execOp, ho]; exact box_new (C := C) ht hB h
  case buildSlice => rw [ho] at h; simp only [execOp, ho]; exact buildSlice_new hC ht hB h
  case makeSlice => rw [ho] at h; simp only [execOp, ho]; exact makeSlice_new hC ht hB h
  case convert => rw [ho] at h; simp only [execOp, ho]; exact conv_new hC ht hB h
  case makeMap t r =>
    rw [ho] at h; simp only [execOp, ho]
    cases r
    case none => exact makeMap_new (a := a) hB h
    case some => cases h
  all_goals (rw [ho] at h; cases h)

theorem doAl_sound (hC : CtxOK ω C) (hs : SR B X m s w) (ht : TR m n a act) (hB : B ≤ w.heap.size) {o : Oper} {r : R} (h : doAl s (alOf o.op C a) = some (r, s')) :
    OpOK C B X m s' w r ((execOp act.eval o).run C.P w) := by
  cases h1 : alOf o.op C a with
  | none => rw [h1] at h; cases h
  | some al =>
    obtain ⟨q, f⟩ := al
    rw [h1] at h
    cases h
    exact NewOK.op hs hB (al_new hC ht hB h1)

theorem range_sound (hC : CtxOK ω C) (hs : SR B X m s w) (ht : TR m n a act) (hB : B ≤ w.heap.size) {t : TypeId} {x : Operand} {r : R} (h : opRange t x C a s = some (r, s')) :
    OpOK C B X m s' w r ((do let z ← Instr.range t (act.eval x); pure (Next.value z) : Sem Next).run C.P w) := by
  unfold opRange at h
  have fin : ∀ (o : AObj) (it : Obj) (i : Info), i = ⟨w.heap.size, 0, 0, 0, false, 0⟩ → doAl s (some (o, ptrV)) = some (r, s') → ORel m (w.alloc it) i o → (do let z ← Instr.range t (act.eval x); pure (Next.value z) : Sem Next).run C.P w = .ok (.value (.pointer (some ⟨w.heap.size, 0, none⟩))) (w.alloc it) →
      OpOK C B X m s' w r ((do let z ← Instr.range t (act.eval x); pure (Next.value z) : Sem Next).run C.P w) := by
    rintro o it i rfl h ho hr
    cases h
    exact NewOK.op hs hB ⟨_, _, _, hr, rfl, by simp, fun k hk => Below.heap_alloc w _ k hk, (Below.refl _ _).alloc hB _, ho, fun m' b hb => ptr_new rfl m' b hb⟩
  split at h
  · rename_i kt et hu hx
    have hun := hC.un _ _ hu
    have hv := nilmap_inv (opnd_sound ht hx)
    exact fin _ (.mapIter none 0 #[] 0) _ rfl h ⟨rfl, none, by simpa using heap_alloc_new w _, .inl ⟨rfl, rfl⟩⟩ (by simp [Instr.range, run_underlying hun, hv])
  · rename_i kt et b hu hx
    have hun := hC.un _ _ hu
    obtain ⟨i, hi, hv⟩ := map_inv (opnd_sound ht hx)
    split at h
    · rename_i es ck hb
      obtain ⟨es', h2, h3, _⟩ := map_obj hs hb hi
      exact fin _ (.mapIter (some i.r) ck #[] ck) _ rfl h ⟨rfl, some i.r, by simpa using heap_alloc_new w _, .inr ⟨b, i, rfl, hi, rfl⟩⟩ (by simp [Instr.range, run_underlying hun, hv, getObj_run h2])
    · cases h
  · rename_i q hu hx
    have hun := hC.un _ _ hu
    have hv := str_inv (opnd_sound ht hx)
    exact fin _ (.stringIter q 0) _ rfl h ⟨rfl, by simpa using heap_alloc_new w _⟩ (by simp [Instr.range, run_underlying hun, hv])
  · cases h

theorem cand_rel {es es' : List MapEntry} (h : EL m es es') (since : Nat) (seen : List Nat) :
    ((candL es since seen = [none]) → candL es' since seen = [none]) ∧ (∀ e, candL es since seen = [some e] → ∃ e', candL es' since seen = [some e'] ∧ ERel m e e') := by
  have filt : ∀ (p : Nat → Bool) {l l' : List MapEntry}, EL m l l' → EL m (l.filter fun e => p e.born) (l'.filter fun e => p e.born) := by
    intro p l
    induction l with
    | nil => intro l' h; cases l' with | nil => exact h | cons e l' => exact absurd h.1 (by simp)
    | cons e l ih =>
      intro l' h
      cases l' with
      | nil => exact absurd h.1 (by simp)
      | cons e' l' =>
        obtain ⟨h1, h2⟩ := h.tail
        have hb : e.born = e'.born := h1.2.2.2
        have h3 := ih h2
        rw [List.filter_cons, List.filter_cons, hb]
        cases p e'.born with
        | false => simpa using h3
        | true =>
          simp only [if_true]
          refine ⟨by simp [h3.1], fun k x x' hx hx' => ?_⟩
          cases k with
          | zero => cases hx; cases hx'; exact h1
          | succ k => exact h3.2 k x x' hx hx'
  have h1 := filt (fun b => !seen.contains b) h
  have h2 := filt (fun b => decide (b < since)) h1
  have h3 := filt (fun b => decide (b ≥ since)) h1
  have gen : ∀ {o o' k k' : List MapEntry}, EL m o o' → EL m k k' → ((cond o.isEmpty [none] [] ++ (o ++ k).map some = [none]) → cond o'.isEmpty [none] [] ++ (o' ++ k').map some = [none]) ∧
      (∀ e, cond o.isEmpty [none] [] ++ (o ++ k).map some = [some e] → ∃ e', cond o'.isEmpty [none] [] ++ (o' ++ k').map some = [some e'] ∧ ERel m e e') := by
    intro o o' k k' ho hk
    cases o with
    | nil =>
      obtain rfl : o' = [] := List.length_eq_zero_iff.1 ho.1.symm
      refine ⟨fun h => ?_, fun e h => by simp at h⟩
      have : k = [] := by simpa using h
      subst this
      obtain rfl : k' = [] := List.length_eq_zero_iff.1 hk.1.symm
      rfl
    | cons x o =>
      cases o' with
      | nil => exact absurd ho.1 (by simp)
      | cons x' o' =>
        refine ⟨fun h => by simp at h, fun e h => ?_⟩
        simp at h
        obtain ⟨rfl, rfl, rfl⟩ := h
        obtain rfl : o' = [] := List.length_eq_zero_iff.1 (by simpa using ho.1.symm)
        obtain rfl : k' = [] := List.length_eq_zero_iff.1 hk.1.symm
        exact ⟨x', rfl, ho.2 0 _ _ rfl rfl⟩
  exact gen h2 h3

theorem EL.all_born {es es' : List MapEntry} (h : EL m es es') (p : Nat → Bool) : es.all (fun e => p e.born) = es'.all (fun e => p e.born) := by
  induction es generalizing es' with
  | nil => cases es' with | nil => rfl | cons e l => exact absurd h.1 (by simp)
  | cons e l ih =>
    cases es' with
    | nil => exact absurd h.1 (by simp)
    | cons e' l' =>
      obtain ⟨h1, h2⟩ := h.tail
      have hb : e.born = e'.born := h1.2.2.2
      rw [List.all_cons, List.all_cons, hb, ih h2]

theorem EL.isEmpty {es es' : List MapEntry} (h : EL m es es') : es.isEmpty = es'.isEmpty := by
  cases es <;> cases es' <;> first | rfl | exact absurd h.1 (by simp)

/-- An iterator that is another one now. -/
theorem setIter_sound {b : Nat} {o o' : AObj} {it it' : Obj} (hs : SR B X m s w) (hb : s.h.get b = some o) (ha : o.alive = true) {i : Info} (hi : m b = some i) (hw : w.heap[i.r]? = some it) (hit : ∀ c e f, it ≠ .cells c e f)
    (ho : ∀ w' : World, w'.heap[i.r]? = some it' → ORel m w' i o') :
    (setObj i.r it').run C.P w = .ok () { w with heap := w.heap.setIfInBounds i.r it' } ∧ SR B X m ⟨s.n, s.h.put b o'⟩ { w with heap := w.heap.setIfInBounds i.r it' } ∧ Below B w { w with heap := w.heap.setIfInBounds i.r it' } := by
  obtain ⟨_, hB, hlt⟩ := hs.rel b o i hb ha hi
  refine ⟨?_, upd_sound hs hb ha hi (by simp) (fun k hk => ?_) (ho _ ?_), ⟨rfl, rfl, rfl, by simp, fun k hk => ?_⟩⟩
  · cases it <;> first | (simp [setObj, Sem.run, hw]; done) | exact absurd rfl (hit _ _ _)
  · show (w.heap.setIfInBounds i.r _)[k]? = _
    rw [Array.getElem?_setIfInBounds, if_neg (fun e => hk e.symm)]
  · show (w.heap.setIfInBounds i.r _)[i.r]? = _
    rw [Array.getElem?_setIfInBounds, if_pos rfl, if_pos hlt]
  · show (w.heap.setIfInBounds i.r _)[k]? = _
    rw [Array.getElem?_setIfInBounds, if_neg (by omega)]

theorem filter_arr {α : Type} (p : α → Bool) (l : List α) : (l.toArray.filter p) = (l.filter p).toArray := by simp

theorem next_sound (hs : SR B X m s w) (ht : TR m n a act) {x : Operand} {q : Bool} {ty : TypeId} {r : R} (h : opNext x q C a s = some (r, s')) :
    OpOK C B X m s' w r ((do let z ← Instr.next (act.eval x) q ty; pure (Next.value z) : Sem Next).run C.P w) := by
  unfold opNext at h
  split at h
  · rename_i b hx
    obtain ⟨p', ⟨_, i, hi, rfl⟩, hv⟩ := ptr_inv (opnd_sound ht hx)
    have hi' : m b = some i := hi
    split at h
    · rename_i q pos hg
      obtain ⟨⟨hd, hw⟩, hBi, hlt⟩ := hs.rel b _ i hg rfl hi'
      simp only [hd, Nat.add_zero] at hv
      unfold nextSit at h
      cases hp : Nat.blt pos q.size with
      | false =>
        simp only [hp, cond_false, Option.some.injEq, Prod.mk.injEq] at h
        obtain ⟨rfl, rfl⟩ := h
        have hnp : ¬ pos < q.size := fun e => by rw [(Nat.blt_eq ▸ e : Nat.blt pos q.size = true)] at hp; cases hp
        refine VOK.op (VOK.same hs (v' := .tuple #[.bool false]) ?_ (LRel.tuple (l := [.bool false]) (l' := [.bool false]) (LRel.plain rfl)))
        simp [Instr.next, hv, getObj, Sem.run, hw, hnp]
      | true =>
        simp only [hp, cond_true, Option.some.injEq, Prod.mk.injEq] at h
        obtain ⟨rfl, rfl⟩ := h
        have hpp : pos < q.size := by rwa [Nat.blt_eq] at hp
        obtain ⟨k1, k2, k3⟩ := setIter_sound (C := C) (o' := .sit q (pos + (Utf8.decode q pos).2)) (it' := .stringIter q (pos + (Utf8.decode q pos).2)) hs hg rfl hi' hw (fun _ _ _ e => by cases e) (fun w' hw' => ⟨hd, hw'⟩)
        refine VOK.op ⟨.tuple #[.bool true, .int .i64 pos, .int .i32 (Utf8.decode q pos).1], _, m, ?_, Le.refl _, k2, k3, LRel.tuple (l := [_, _, _]) (l' := [_, _, _]) (LRel.plain rfl)⟩
        simp [Instr.next, hv, getObj, Sem.run, hw, hpp, k1, goInt]
    · rename_i si se la hg
      obtain ⟨⟨hd, r', hw, hor⟩, hBi, hlt⟩ := hs.rel b _ i hg rfl hi'
      simp only [hd, Nat.add_zero] at hv
      cases h
      rcases hor with ⟨_, rfl⟩ | ⟨c, j, e, _⟩
      · refine VOK.op (VOK.same hs (v' := .tuple #[.bool false]) ?_ (LRel.tuple (l := [.bool false]) (l' := [.bool false]) (LRel.plain rfl)))
        simp [Instr.next, hv, getObj, Sem.run, hw]
      · cases e
    · rename_i rr si se la hg
      obtain ⟨⟨hd, r', hw, hor⟩, hBi, hlt⟩ := hs.rel b _ i hg rfl hi'
      simp only [hd, Nat.add_zero] at hv
      rcases hor with ⟨e, _⟩ | ⟨c, j, e, hj, rfl⟩
      · cases e
      cases e
      split at h
      · rename_i es ck hm
        obtain ⟨es', h2, h3, _⟩ := map_obj hs hm hj
        unfold nextMit at h
        cases hc : (!se.isEmpty && !es.isEmpty && es.all (fun e => decide (e.born ≥ la))) with
        | true => rw [hc] at h; cases h
        | false =>
          rw [hc] at h
          simp only [cond_false] at h
          have hc' : (!se.toArray.isEmpty && !es'.toArray.isEmpty && es'.toArray.all (fun e => decide (e.born ≥ la))) = false := by
            rw [← hc, h3.isEmpty, h3.all_born (fun b => decide (b ≥ la))]; simp
          have hcand : (if ((es'.toArray.filter fun e => !se.toArray.contains e.born).filter (·.born < si)).isEmpty then #[none] else #[]) ++ (((es'.toArray.filter fun e => !se.toArray.contains e.born).filter (·.born < si)) ++ ((es'.toArray.filter fun e => !se.toArray.contains e.born).filter (·.born ≥ si))).map some = (candL es' si se).toArray := by
            have hA : es'.toArray.filter (fun e => !se.toArray.contains e.born) = (es'.filter fun e => !se.contains e.born).toArray := by simp
            rw [hA]
            dsimp only [candL]
            generalize (es'.filter fun e => !se.contains e.born) = L
            have hO : L.toArray.filter (fun e => decide (e.born < si)) = (L.filter fun e => decide (e.born < si)).toArray := by simp
            have hN : L.toArray.filter (fun e => decide (e.born ≥ si)) = (L.filter fun e => decide (e.born ≥ si)).toArray := by simp
            rw [hO, hN]
            generalize (L.filter fun e => decide (e.born < si)) = O
            generalize (L.filter fun e => decide (e.born ≥ si)) = N
            cases O <;> simp
          obtain ⟨c1, c2⟩ := cand_rel h3 si se
          have g1 : (getObj i.r).run C.P w = .ok (.mapIter (some j.r) si se.toArray la) w := by simp [getObj, Sem.run, hw]
          have g2 : (getObj j.r).run C.P w = .ok (.map es'.toArray ck) w := by simp [getObj, Sem.run, h2]
          split at h
          · rename_i hcl
            cases h
            have hcl' := c1 hcl
            refine VOK.op (VOK.same hs (v' := .tuple #[.bool false]) ?_ (LRel.tuple (l := [.bool false]) (l' := [.bool false]) (LRel.plain rfl)))
            unfold Instr.next
            rw [hv]
            simp only [Sem.run_bind, g1, g2, Result.andThen]
            rw [if_neg (by rw [hc']; simp), hcand, hcl']
            simp [choose, Sem.run, Question.forced]
          · rename_i e hcl
            cases h
            obtain ⟨e', hcl', he⟩ := c2 e hcl
            obtain ⟨k1, k2, k3⟩ := setIter_sound (C := C) (o' := .mit (some rr) si (se ++ [e.born]) ck) (it' := .mapIter (some j.r) si (se ++ [e'.born]).toArray ck) hs hg rfl hi' hw (fun _ _ _ e => by cases e)
              (fun w' hw' => ⟨hd, some j.r, by rw [hw', he.2.2.2], .inr ⟨rr, j, rfl, hj, rfl⟩⟩)
            refine VOK.op ⟨.tuple #[.bool true, e'.key, e'.val], _, m, ?_, Le.refl _, k2, k3, LRel.tuple (l := [_, _, _]) (l' := [_, _, _]) (LRel.cons (.plain _ rfl) (LRel.cons ?_ (LRel.cons he.2.2.1 (LRel.nil m))))⟩
            · unfold Instr.next
              rw [hv]
              simp only [Sem.run_bind, g1, g2, Result.andThen]
              rw [if_neg (by rw [hc']; simp), hcand, hcl']
              simp [choose, Sem.run, Question.forced, k1]
            · rw [← he.1]; exact .plain _ he.2.1
          · cases h
      · cases h
    · cases h
  · cases h

theorem find_born {es es' : List MapEntry} (h : EL m es es') (st : Nat) {e : MapEntry} (hf : es.find? (fun e => e.born == st) = some e) : ∃ e', es'.find? (fun e => e.born == st) = some e' ∧ ERel m e e' := by
  induction es generalizing es' with
  | nil => cases hf
  | cons x l ih =>
    cases es' with
    | nil => exact absurd h.1 (by simp)
    | cons x' l' =>
      obtain ⟨h1, h2⟩ := h.tail
      have hb : x.born = x'.born := h1.2.2.2
      rw [List.find?_cons] at hf ⊢
      rw [← hb]
      cases hx : (x.born == st) with
      | true => rw [hx] at hf; cases hf; exact ⟨x', rfl, h1⟩
      | false => rw [hx] at hf; exact ih h2 hf

theorem entry_sound (hs : SR B X m s w) (ht : TR m n a act) {x : Operand} {r : R} (h : opEntry x C a s = some (r, s')) :
    OpOK C B X m s' w r ((do let z ← Instr.entry (act.eval x); pure (Next.value z) : Sem Next).run C.P w) := by
  unfold opEntry at h
  split at h
  · rename_i b hx
    obtain ⟨p', ⟨_, i, hi, rfl⟩, hv⟩ := ptr_inv (opnd_sound ht hx)
    have hi' : m b = some i := hi
    split at h
    · rename_i rr si se la hg
      obtain ⟨⟨hd, r', hw, hor⟩, hBi, hlt⟩ := hs.rel b _ i hg rfl hi'
      simp only [hd, Nat.add_zero] at hv
      rcases hor with ⟨e, _⟩ | ⟨c, j, e, hj, rfl⟩
      · cases e
      cases e
      split at h
      · rename_i st es ck hse hm
        cases hc : Nat.beq ck la with
        | false => rw [hc] at h; cases h
        | true =>
          rw [hc] at h
          simp only [cond_true] at h
          obtain rfl := Nat.eq_of_beq_eq_true hc
          split at h
          · rename_i e he
            cases h
            obtain ⟨es', h2, h3, _⟩ := map_obj hs hm hj
            obtain ⟨e', hf', her⟩ := find_born h3 st he
            refine VOK.op (VOK.same hs (v' := .tuple #[e'.key, e'.val]) ?_ (LRel.tuple (l := [_, _]) (l' := [_, _]) (LRel.cons ?_ (LRel.cons her.2.2.1 (LRel.nil m)))))
            · have hb : se.toArray.back? = some st := by rw [← hse]; simp
              simp [Instr.entry, hv, getObj, Sem.run, hw, h2, hb, hf']
            · rw [← her.1]; exact .plain _ her.2.1
          · cases h
      · cases h
    · cases h
  · cases h

/-- Every operation. -/
theorem aop_sound (hC : CtxOK ω C) (hs : SR B X m s w) (ht : TR m n a act) (hBs : Bs ω C B w) {o : Oper} {r : R} (h : aop C o a s = some (r, s')) :
    OpOK C B X m s' w r ((execOp act.eval o).run C.P w) := by
  have hB := hBs.le
  unfold aop at h
  cases ho : o.op
  case move => rw [ho] at h; simp only [execOp, ho]; exact move_sound hs ht h
  case assign => rw [ho] at h; simp only [execOp, ho]; exact move_sound hs ht h
  case pick => rw [ho] at h; simp only [execOp, ho]; exact pick_sound hs ht h
  case alloc => rw [ho] at h; exact doAl_sound hC hs ht hB (by rw [ho]; exact h)
  case box => rw [ho] at h; exact doAl_sound hC hs ht hB (by rw [ho]; exact h)
  case build => rw [ho] at h; simp only [execOp, ho]; exact build_sound hC hs ht h
  case buildSlice => rw [ho] at h; exact doAl_sound hC hs ht hB (by rw [ho]; exact h)
  case load => rw [ho] at h; simp only [execOp, ho]; exact load_sound hC hs ht hBs h
  case store => rw [ho] at h; simp only [execOp, ho]; exact store_sound hC hs ht h
  case binOp => rw [ho] at h; simp only [execOp, ho]; exact bin_sound hC hs ht h
  case unOp => rw [ho] at h; simp only [execOp, ho]; exact unOp_sound hs ht h
  case convert src dst x =>
    rw [ho] at h
    cases hc : alConv src dst x C a with
    | some al => exact doAl_sound hC hs ht hB (by rw [ho]; show doAl s (alConv src dst x C a) = _; have h' : opConvert src dst x C a s = some (r, s') := h; unfold opConvert at h'; rw [hc] at h' ⊢; exact h')
    | none => simp only [execOp, ho]; exact conv2_sound hC hs ht (by have h' : opConvert src dst x C a s = some (r, s') := h; unfold opConvert at h'; rw [hc] at h'; exact h')
  case makeInterface => rw [ho] at h; simp only [execOp, ho]; exact makeInterface_sound hC hs ht h
  case makeSlice => rw [ho] at h; exact doAl_sound hC hs ht hB (by rw [ho]; exact h)
  case slice => rw [ho] at h; simp only [execOp, ho]; exact slice_sound hC hs ht h
  case fieldAddr => rw [ho] at h; simp only [execOp, ho]; exact fieldAddr_sound hC hs ht h
  case field => rw [ho] at h; simp only [execOp, ho]; exact field_sound hC hs ht h
  case indexAddr => rw [ho] at h; simp only [execOp, ho]; exact indexAddr_sound hC hs ht h
  case index => rw [ho] at h; simp only [execOp, ho]; exact index_sound hC hs ht h
  case lookup => rw [ho] at h; simp only [execOp, ho]; exact lookup_sound hC hs ht h
  case mapUpdate => rw [ho] at h; simp only [execOp, ho]; exact mapUpdate_sound hC hs ht h
  case insert => rw [ho] at h; simp only [execOp, ho]; exact mapUpdate_sound hC hs ht h
  case typeAssert => rw [ho] at h; simp only [execOp, ho]; exact typeAssert_sound hC hs ht h
  case extract => rw [ho] at h; simp only [execOp, ho]; exact extract_sound hs ht h
  case call => rw [ho] at h; simp only [execOp, ho]; exact call_sound hC hs ht hBs h
  case nilCheck => rw [ho] at h; exact nilCheck_sound hs ht o ho h
  case range => rw [ho] at h; simp only [execOp, ho]; exact range_sound hC hs ht hB h
  case next => rw [ho] at h; simp only [execOp, ho]; exact next_sound hs ht h
  case entry => rw [ho] at h; simp only [execOp, ho]; exact entry_sound hs ht h
  case makeFunc f fs cs =>
    rw [ho] at h; simp only [execOp, ho]
    cases f
    case func g => exact makeFunc_sound hs ht h
    all_goals (cases h)
  case makeMap t r =>
    rw [ho] at h
    cases r
    case none => exact doAl_sound hC hs ht hB (by rw [ho]; exact h)
    case some => cases h
  all_goals (rw [ho] at h; cases h)
end
end Go.Proofs.YtenfkghoolegfaaGreatDoor.Ev
