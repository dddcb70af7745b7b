/- An interpreter over an abstract memory, part d: the operations, one by one. -/
import Derived.Test.YtenfkghoolegfaaGreatDoorEvc
import Derived.Laws.Tables
import Derived.Deep.MidRow
namespace Go.Proofs.YtenfkghoolegfaaGreatDoor.Ev
open Go.RowKit
variable {ω : Nat → Value}

/-- What is asked of the tables. -/
structure CtxOK (ω : Nat → Value) (C : Ctx) : Prop where
  fn : ∀ g f, C.fn g = some f → C.P.funcs[g]? = some f
  call : ∀ g f, C.fn g = some f → f.body.isSome = true → ∀ args w, (callFunc g args).run C.P w = .ok (.enter g args) w
  ty : ∀ t i, C.ty t = some i → C.P.info? t = some i
  un : ∀ t d, C.un t = some d → C.P.underlying t = some d
  zero : ∀ t i z, C.ty t = some i → i.zero = some z → tupB z = false → (cellsOf z).all plainV = true ∧ i.size = (cellsOf z).length
  bin : ∀ op t ox oy x y v, C.bin op t x y = some v → ∀ (m : M ω) (x' y' : Value) (w : World), VRel m x x' → VRel m y y' → ∃ v', (do eqGuard op t ox oy x' y'; binOp op t x' y' : Sem Value).run C.P w = .ok v' w ∧ VRel m v v'
  len : ∀ t k v, C.len t (.chan k) = some v → ∀ (m : M ω) (x' : Value) (ty : TypeId) (w : World), VRel m (.chan k) x' → ∃ v', (Builtin.len_ #[t] ty #[x']).run C.P w = .ok v' w ∧ VRel m v v'
  cnv : ∀ src dst x v, C.cnv src dst x = some v → ∀ (m : M ω) (x' : Value) (w : World), VRel m x x' → ∃ v', (convert src dst x').run C.P w = .ok v' w ∧ VRel m v v'
  meth : ∀ t name v g rv, C.meth t name v = some (g, rv) → ∀ (m : M ω) (v' : Value), VRel m v v' → ∃ rv', VRel m rv rv' ∧ ∀ w, (method (C.P.types.size + Made.depth) t v' name).run C.P w = .ok (g, rv') w
  places : ∀ t fs, C.un t = some (.struct fs) → ∃ ps, fs.toList.mapM (fun f => (C.P.info? f.type).map fun i => (f.offset, i.size)) = some ps

/-- A slice that came in can be read. -/
def RdV (w : World) (B : Nat) (v : Value) : Prop := v = .slice none 0 0 ∨
  ∃ (p : Addr) (n c : Nat) (news : List Value), v = .slice (some p) n c ∧ n ≤ 1000000 ∧ (0 < n → p.block < B) ∧ news.length = n ∧ (∀ (j : Nat) (u : Value), news[j]? = some u → w.cell? (p.add j) = some u) ∧ ∀ u ∈ news, oneV u = true

/-- Where the call's own blocks begin, and what stands ahead of them. -/
structure Bs (ω : Nat → Value) (C : Ctx) (B : Nat) (w : World) : Prop where
  le : B ≤ w.heap.size
  gl : ∀ g v, C.glob g = some v → g < B ∧ ∃ v', w.cell? ⟨g, 0, none⟩ = some v' ∧ ∀ m : M ω, VRel m v v'
  rd : ∀ k, C.rd k = true → RdV w B (ω k)
  iv : ∀ g cs, C.iv g = some cs → g < B ∧ ∃ t fz, w.heap[g]? = some (.cells cs t fz)
theorem Bs.next {C : Ctx} {B : Nat} {w w' : World} (h : Bs ω C B w) (hb : Below B w w') : Bs ω C B w' :=
  ⟨Nat.le_trans h.le hb.size, fun g v hv => ⟨(h.gl g v hv).1, by obtain ⟨h1, v', h2, h3⟩ := h.gl g v hv; exact ⟨v', by rw [hb.cell (p := ⟨g, 0, none⟩) h1]; exact h2, h3⟩⟩, fun k hk => by
    rcases h.rd k hk with e | ⟨p, n, c, news, h1, h2, h3, h4, h5, h6⟩
    · exact .inl e
    · refine .inr ⟨p, n, c, news, h1, h2, h3, h4, fun j u hu => ?_, h6⟩
      have hj : j < n := by have := (List.getElem?_eq_some_iff.1 hu).1; omega
      rw [hb.cell (p := p.add j) (by have := h3 (by omega); unfold Addr.add; split <;> simpa using this)]
      exact h5 j u hu, fun g cs hv => by
    obtain ⟨h1, t, fz, h2⟩ := h.iv g cs hv
    exact ⟨h1, t, fz, (hb.block g h1).trans h2⟩⟩

/-- Temporaries. -/
structure TR (m : M ω) (n : Nat) (a : T Value) (act : Act) : Prop where
  size : act.tmps.size = n
  rel : ∀ t, VRel m ((a.get t).getD undef) (act.tmps.getD t undef)

theorem TR.mono {m m' : M ω} (hl : Le m m') {n : Nat} {a : T Value} {act : Act} (h : TR m n a act) : TR m' n a act := ⟨h.size, fun t => (h.rel t).mono hl⟩

def RRel (m : M ω) : R → Next → Prop
  | .val v, .value v' => VRel m v v'
  | .skip, .skip => True
  | _, _ => False

/-- What an operation's run must come to. -/
def OpOK (C : Ctx) (B : Nat) (X : Aux) (m : M ω) (s' : AS) (w : World) (r : R) (res : Result Next) : Prop :=
  match r with
  | .call g vs => ∃ args', LRel m vs args'.toList ∧ res = (callFunc g args').run C.P w ∧ SR B X m s' w
  | .round b vs => ∃ i args', m b = some i ∧ LRel m vs args'.toList ∧ res = (Instr.yield i.r args').run C.P w ∧ SR B X m s' w
  | r => ∃ nx w' m', res = .ok nx w' ∧ Le m m' ∧ SR B X m' s' w' ∧ Below B w w' ∧ RRel m' r nx

def VOK (B : Nat) (X : Aux) (m : M ω) (s' : AS) (w : World) (v : Value) (res : Result Value) : Prop :=
  ∃ v' w' m', res = .ok v' w' ∧ Le m m' ∧ SR B X m' s' w' ∧ Below B w w' ∧ VRel m' v v'

section
variable {C : Ctx} {B : Nat} {X : Aux} {m : M ω} {s s' : AS} {w : World} {a : T Value} {act : Act} {n : Nat}

theorem VOK.same {v v' : Value} {res : Result Value} (h : SR B X m s w) (hr : res = .ok v' w) (hv : VRel m v v') : VOK B X m s w v res :=
  ⟨v', w, m, hr, Le.refl _, h, Below.refl _ _, hv⟩

theorem VOK.op {v : Value} {t : Sem Value} (h : VOK B X m s' w v (t.run C.P w)) : OpOK C B X m s' w (.val v) ((do let x ← t; pure (Next.value x) : Sem Next).run C.P w) := by
  obtain ⟨v', w', m', hr, hl, hs, hb, hv⟩ := h
  exact ⟨.value v', w', m', by simp [hr], hl, hs, hb, hv⟩

theorem closed_inv {v v' : Value} (h : VRel m v v') (hp : closedV v = true) : v' = v := by
  cases h with
  | agg cs cs' hs h =>
    simp only [closedV] at hp
    have : cs' = cs := by
      apply Array.ext'
      apply List.ext_getElem?
      intro i
      by_cases hi : i < cs.size
      · have h1 := arr_getD cs i hi
        have h2 := arr_getD cs' i (by omega)
        rw [h1, h2]
        have := plain_inv (h i hi) (List.all_eq_true.1 hp _ (List.mem_of_getElem? h1))
        rw [this]
      · rw [List.getElem?_eq_none (by simp; omega), List.getElem?_eq_none (by simp; omega)]
    rw [this]
  | iface t u u' h => simp only [closedV] at hp; rw [plain_inv h hp]
  | plain v h => rfl
  | _ => simp [closedV, plainV] at hp

theorem closed_refl {v : Value} (hp : closedV v = true) : VRel m v v := by
  cases v with
  | agg cs =>
    simp only [closedV] at hp
    refine .agg cs cs rfl (fun i hi => .plain _ (List.all_eq_true.1 hp _ (List.mem_of_getElem? (arr_getD cs i hi))))
  | iface t u => simp only [closedV] at hp; exact .iface t u u (.plain _ hp)
  | _ => exact .plain _ (by simpa [closedV] using hp)

theorem opnd_sound (ht : TR m n a act) {x : Operand} {v : Value} (h : opnd a x = some v) : VRel m v (act.eval x) := by
  cases x with
  | tmp t =>
    have hr := ht.rel t
    show VRel m v (act.tmps.getD t undef)
    have h' : orUndef (a.get t) = some v := h
    cases hg : a.get t with
    | none => rw [hg] at h' hr; cases h'; exact hr
    | some u => rw [hg] at h' hr; cases h'; exact hr
  | const u =>
    have h' : opConst u = some v := h
    unfold opConst at h'
    cases hc : closedV u with
    | false => rw [hc] at h'; cases h'
    | true => rw [hc] at h'; cases h'; exact closed_refl hc
  | global g => cases h
  | func f => cases h; exact .func f #[] #[] #[] #[] rfl rfl (fun i hi => by simp at hi) (fun i hi => by simp at hi)

theorem opnds_sound (ht : TR m n a act) : ∀ {xs : List Operand} {vs : List Value}, opnds a xs = some vs → LRel m vs (xs.map act.eval)
  | [], vs, h => by simp [opnds] at h; subst h; exact LRel.nil m
  | x :: xs, vs, h => by
    simp only [opnds] at h
    cases h1 : opnd a x with
    | none => simp [h1] at h
    | some v =>
      cases h2 : opnds a xs with
      | none => simp [h1, h2] at h
      | some vs' =>
        simp [h1, h2] at h
        subst h
        exact LRel.cons (opnd_sound ht h1) (opnds_sound ht h2)

/-- A computation that touches no memory. -/
theorem pureRun_run {P : Program} {α : Type} : ∀ (t : Sem α) (x : α), pureRun P t = some x → ∀ w, t.run P w = .ok x w := by
  intro t
  induction t with
  | pure y => intro x h w; simp [pureRun] at h; subst h; rfl
  | program k ih => intro x h w; simp only [pureRun] at h; simp only [Sem.run]; exact ih P x h w
  | _ => intro x h; simp [pureRun] at h

theorem move_sound (hs : SR B X m s w) (ht : TR m n a act) {x : Operand} {r : R} (h : opMove x C a s = some (r, s')) :
    OpOK C B X m s' w r ((pure (Next.value (act.eval x)) : Sem Next).run C.P w) := by
  unfold opMove at h
  cases h1 : opnd a x with
  | none => rw [h1] at h; cases h
  | some v =>
    rw [h1] at h; cases h
    exact ⟨_, w, m, rfl, Le.refl _, hs, Below.refl _ _, opnd_sound ht h1⟩

theorem pick_sound (hs : SR B X m s w) (ht : TR m n a act) {c x y : Operand} {r : R} (h : opPick c x y C a s = some (r, s')) :
    OpOK C B X m s' w r ((do pure (.value (if ← asBool (act.eval c) then act.eval x else act.eval y)) : Sem Next).run C.P w) := by
  unfold opPick at h
  cases h1 : opnd a c with
  | none => simp [h1] at h
  | some u =>
    cases h2 : opnd a x with
    | none => simp [h1, h2] at h
    | some v =>
      cases h3 : opnd a y with
      | none => simp [h1, h2, h3] at h
      | some z =>
        cases u <;> simp [h1, h2, h3] at h
        rename_i b
        obtain ⟨rfl, rfl⟩ := h
        have hc := plain_inv (opnd_sound ht h1) rfl
        refine ⟨.value (if b then act.eval x else act.eval y), w, m, by simp [hc, asBool], Le.refl _, hs, Below.refl _ _, ?_⟩
        show VRel m (cond b v z) (if b then act.eval x else act.eval y)
        cases b
        · exact opnd_sound ht h3
        · exact opnd_sound ht h2

theorem zeroC_sound (hC : CtxOK ω C) {t : TypeId} {l : List Value} (h : zeroC C t = some l) : ∃ i z, C.P.info? t = some i ∧ i.zero = some z ∧ l = cellsOf z ∧ l.all plainV = true ∧ i.size = l.length := by
  unfold zeroC at h
  cases h1 : C.ty t with
  | none => simp [h1] at h
  | some i =>
    cases h2 : i.zero with
    | none => simp [h1, h2] at h
    | some z =>
      simp only [h1, h2] at h
      cases ht : tupB z with
      | true => rw [ht] at h; cases h
      | false =>
      rw [ht] at h
      simp only [cond_false, Option.some.injEq] at h
      subst h
      obtain ⟨p, q⟩ := hC.zero t i z h1 h2 ht
      exact ⟨i, z, hC.ty t i h1, h2, rfl, p, q⟩

theorem cells_arr (z : Value) : z.cells = (cellsOf z).toArray := by cases z <;> rfl

/-- An allocation at a new number. -/
theorem NewOK.op {o : AObj} {f : Nat → Value} {res : Result Next} (hs : SR B X m s w) (hB : B ≤ w.heap.size) (h : NewOK B m w o f res) : OpOK C B X m ⟨s.n + 1, s.h.put s.n o⟩ w (.val (f s.n)) res := by
  obtain ⟨v', w1, i, hr, h1, h2, h3, h4, h5, h6⟩ := h
  obtain ⟨k1, k2⟩ := new_sound hs o i hB h1 h2 h3 h5
  exact ⟨.value v', w1, _, hr, k2, k1, h4, h6 _ _ (ext_same _ _ _)⟩

theorem ptr_new {i : Info} (h : i.d = 0) (m' : M ω) (b : Nat) (hb : m' b = some i) : VRel m' (ptrV b) (.pointer (some ⟨i.r, 0, none⟩)) := .ptr _ _ ⟨rfl, i, hb, by simp [h]⟩

theorem alloc_new (hC : CtxOK ω C) (hB : B ≤ w.heap.size) {t : TypeId} {o : AObj} {f : Nat → Value} (h : alAlloc t C a = some (o, f)) :
    NewOK B m w o f ((do let x ← Instr.alloc t true (.tuple #[]); pure (Next.value x) : Sem Next).run C.P w) := by
  unfold alAlloc at h
  cases h1 : zeroC C t with
  | none => simp [h1] at h
  | some l =>
    simp only [h1, Option.some.injEq, Prod.mk.injEq] at h
    obtain ⟨rfl, rfl⟩ := h
    obtain ⟨i, z, hi, hz, rfl, hp, _⟩ := zeroC_sound hC h1
    refine ⟨.pointer (some ⟨w.heap.size, 0, none⟩), w.alloc (.cells (cellsOf z).toArray t), _, ?_, rfl, by simp, fun k hk => Below.heap_alloc w _ k hk, (Below.refl _ _).alloc hB _, blk_new (LRel.plain (m := m) hp) t 0, fun m' b hb => ptr_new rfl m' b hb⟩
    simp [Instr.alloc, zeroValue, typeInfo, hi, hz, newVar, newRow, cells_arr]

theorem box_new (ht : TR m n a act) (hB : B ≤ w.heap.size) {t : TypeId} {x : Operand} {o : AObj} {f : Nat → Value} (h : alBox t x C a = some (o, f)) :
    NewOK B m w o f ((do let x ← Instr.box t (act.eval x); pure (Next.value x) : Sem Next).run C.P w) := by
  unfold alBox at h
  cases h1 : opnd a x with
  | none => simp [h1] at h
  | some v =>
    simp only [h1, Option.some.injEq, Prod.mk.injEq] at h
    obtain ⟨rfl, rfl⟩ := h
    have hl := cells_rel (opnd_sound ht h1)
    refine ⟨.pointer (some ⟨w.heap.size, 0, none⟩), w.alloc (.cells (cellsOf (act.eval x)).toArray t), _, ?_, rfl, by simp, fun k hk => Below.heap_alloc w _ k hk, (Below.refl _ _).alloc hB _, blk_new hl t 0, fun m' b hb => ptr_new rfl m' b hb⟩
    simp [Instr.box, newVar, newRow, cells_arr]

theorem sizeT_sound (hC : CtxOK ω C) {t : TypeId} {k : Nat} (h : sizeT C t = some k) : ∃ i, C.P.info? t = some i ∧ i.size = k := by
  unfold sizeT at h
  cases h1 : C.ty t with
  | none => simp [h1] at h
  | some i => simp [h1] at h; exact ⟨i, hC.ty t i h1, h⟩

theorem isAgg_sound (hC : CtxOK ω C) {t : TypeId} {b : Bool} (h : isAggT C t = some b) : (isAgg t).run C.P w = .ok b w := by
  unfold isAggT at h
  cases h1 : C.un t with
  | none => simp [h1] at h
  | some d =>
    simp [h1] at h
    subst h
    have := hC.un t d h1
    cases d <;> simp [isAgg, run_underlying this, isAggD]

theorem loadX_sound (hC : CtxOK ω C) (hs : SR B X m s w) (ht : TR m n a act) {t : TypeId} {x : Operand} {r : R} (h : loadX t x C a s = some (r, s')) :
    OpOK C B X m s' w r ((do let x ← Instr.loadAt t (act.eval x); pure (Next.value x) : Sem Next).run C.P w) := by
  unfold loadX at h
  cases h1 : opnd a x with
  | none => simp [h1] at h
  | some u =>
    rw [h1] at h
    cases u <;> try (simp at h; done)
    rename_i p
    cases p with
    | none => simp at h
    | some p =>
      obtain ⟨p', hp', hpe⟩ : ∃ p', ARel m p p' ∧ act.eval x = .pointer (some p') := by
        have := opnd_sound ht h1
        generalize act.eval x = y at this
        cases this with
        | plain v h => simp [plainV] at h
        | ptr a a' h => exact ⟨a', h, rfl⟩
      cases h2 : isAggT C t with
      | none => simp [h2] at h
      | some b =>
        cases b with
        | true =>
          cases h3 : sizeT C t with
          | none => simp [h2, h3] at h
          | some k =>
            cases h4 : readN s p k with
            | none => simp [h2, h3, h4] at h
            | some l =>
              simp [h2, h3, h4] at h
              obtain ⟨rfl, rfl⟩ := h
              obtain ⟨i, hi, rfl⟩ := sizeT_sound hC h3
              obtain ⟨l', hl, hn, hc⟩ := readN_sound hs h4 hp'
              have hlc := run_loadCells_list (P := C.P) w p' l' hc
              rw [hn] at hlc
              refine VOK.op (VOK.same hs (v' := .agg l'.toArray) ?_ hl.agg)
              simp [Instr.loadAt, hpe, Instr.sureAddr, loadVar, isAgg_sound hC h2, sizeOf, typeInfo, hi, hlc]
        | false =>
          cases h4 : readN s p 1 with
          | none => simp [h2, h4] at h
          | some l =>
            rw [h2] at h
            simp only [h4] at h
            obtain ⟨l', hl, hn, hc⟩ := readN_sound hs h4 hp'
            match l, l', hn, hl with
            | [v], [v'], _, hl =>
              simp at h
              obtain ⟨rfl, rfl⟩ := h
              have hcell := hc 0 v' rfl
              have he : p'.add 0 = p' := by simp [Addr.add]
              rw [he] at hcell
              refine VOK.op (VOK.same hs (v' := v') ?_ hl.tail.1)
              simp [Instr.loadAt, hpe, Instr.sureAddr, loadVar, isAgg_sound hC h2, load, Sem.run, hcell]

theorem load_sound (hC : CtxOK ω C) (hs : SR B X m s w) (ht : TR m n a act) (hB : Bs ω C B w) {t : TypeId} {x : Operand} {r : R} (h : opLoad t x C a s = some (r, s')) :
    OpOK C B X m s' w r ((do let x ← Instr.loadAt t (act.eval x); pure (Next.value x) : Sem Next).run C.P w) := by
  unfold opLoad at h
  cases x with
  | global g =>
    have h' : loadG t g C s = some (r, s') := h
    unfold loadG at h'
    split at h'
    · rename_i v hag hg
      cases h'
      obtain ⟨_, v', hc, hv⟩ := hB.gl g v hg
      refine VOK.op (VOK.same hs (v' := v') ?_ (hv m))
      show (Instr.loadAt t (.pointer (some ⟨g, 0, none⟩))).run C.P w = _
      simp [Instr.loadAt, Instr.sureAddr, loadVar, isAgg_sound hC hag, load, Sem.run, hc]
    · cases h'
  | tmp k => exact loadX_sound hC hs ht h
  | const v => exact loadX_sound hC hs ht h
  | func f => exact loadX_sound hC hs ht h

theorem store_sound (hC : CtxOK ω C) (hs : SR B X m s w) (ht : TR m n a act) {t : TypeId} {x y : Operand} {r : R} (h : opStore t x y C a s = some (r, s')) :
    OpOK C B X m s' w r ((do Instr.storeAt t (act.eval x) (act.eval y); pure Next.skip : Sem Next).run C.P w) := by
  unfold opStore at h
  cases h1 : opnd a x with
  | none => simp [h1] at h
  | some u =>
    cases h2 : opnd a y with
    | none =>
      rw [h1, h2] at h
      cases u <;> first | (simp at h; done) | (rename_i p; cases p <;> simp at h)
    | some v =>
      rw [h1, h2] at h
      cases u <;> try (simp at h; done)
      rename_i p
      cases p with
      | none => simp at h
      | some p =>
        obtain ⟨p', hp', hpe⟩ : ∃ p', ARel m p p' ∧ act.eval x = .pointer (some p') := by
          have := opnd_sound ht h1
          generalize act.eval x = y at this
          cases this with
          | plain v h => simp [plainV] at h
          | ptr a a' h => exact ⟨a', h, rfl⟩
        cases h3 : sizeT C t with
        | none => simp [h3] at h
        | some k =>
          cases h4 : Nat.beq (cellsOf v).length k with
          | false => simp [h3, h4] at h
          | true =>
            cases h5 : writeL s p (cellsOf v) with
            | none => simp [h3, h4, h5] at h
            | some s2 =>
              simp [h3, h4, h5] at h
              obtain ⟨rfl, rfl⟩ := h
              obtain ⟨i, hi, rfl⟩ := sizeT_sound hC h3
              have hv := cells_rel (opnd_sound ht h2)
              obtain ⟨w', hw, hs', hb⟩ := writeL_sound (P := C.P) hs h5 hp' hv
              have hlen : (act.eval y).cells.size = i.size := by
                rw [cells_arr]; simp; rw [← hv.1]; exact Nat.eq_of_beq_eq_true h4
              refine ⟨.skip, w', m, ?_, Le.refl _, hs', hb, trivial⟩
              have hcl : (act.eval y).cells.toList = cellsOf (act.eval y) := cells_list _
              simp [Instr.storeAt, hpe, Instr.sureAddr, storeVar, sizeOf, typeInfo, hi, hlen, hcl, hw]
end
end Go.Proofs.YtenfkghoolegfaaGreatDoor.Ev
