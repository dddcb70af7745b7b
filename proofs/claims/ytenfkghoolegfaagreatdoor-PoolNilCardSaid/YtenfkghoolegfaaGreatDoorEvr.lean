/- An interpreter over an abstract memory, part r: regions that draw their order: the machine's side. -/
import Derived.Test.YtenfkghoolegfaaGreatDoorEvq
set_option linter.unusedVariables false
namespace Go.Proofs.YtenfkghoolegfaaGreatDoor.Ev
open Go.RowKit
variable {ω : Nat → Value}

/-- The temporaries that wait to be written. -/
def unl (ops : Array Oper) (D : Nat) (L : Array Bool) : List Tmp := (List.range ops.size).filterMap fun i => if L.getD i false || !bitB D i then none else (ops[i]?).bind (·.dst)
noncomputable def putU (a : T Value) : List Tmp → T Value
  | [] => a
  | t :: ts => (putU a ts).put t undef
def actU (act : Act) : List Tmp → Act
  | [] => act
  | t :: ts => (actU act ts).put (some t) undef

section
variable {C : Ctx} {ops : Array Oper} {N B : Nat} {X0 X : Aux} {D A : Nat} {a a' : T Value} {s s' : AS} {L : Array Bool} {act : Act} {w : World} {m : M ω} {γ : Nat → Nat} {i : Nat} {o : Oper} {ih : Fns}

theorem mem_unl {t : Tmp} : t ∈ unl ops D L ↔ ∃ i o, ops[i]? = some o ∧ L.getD i false = false ∧ bitB D i = true ∧ o.dst = some t := by
  unfold unl
  rw [List.mem_filterMap]
  constructor
  · rintro ⟨i, hi, h⟩
    cases hl : L.getD i false with
    | true => rw [hl] at h; simp at h
    | false =>
      cases hD : bitB D i with
      | false => rw [hl, hD] at h; simp at h
      | true =>
      rw [hl, hD] at h
      simp only [Bool.not_true, Bool.or_self, Bool.false_eq_true, if_false] at h
      cases ho : ops[i]? with
      | none => rw [ho] at h; cases h
      | some o => rw [ho] at h; exact ⟨i, o, ho, hl, hD, h⟩
  · rintro ⟨i, o, ho, hl, hD, hd⟩
    refine ⟨i, List.mem_range.2 (Array.getElem?_eq_some_iff.1 ho).1, ?_⟩
    rw [hl, hD, ho]; simpa using hd

theorem get_putU (t : Tmp) : ∀ (ts : List Tmp), (putU a ts).get t = if t ∈ ts then some undef else a.get t
  | [] => by simp [putU]
  | u :: ts => by
    rw [putU, T.get_put, get_putU t ts]
    by_cases h : t = u
    · rw [if_pos h, if_pos (by simp [h])]
    · rw [if_neg h]
      by_cases h2 : t ∈ ts
      · rw [if_pos h2, if_pos (by simp [h2])]
      · rw [if_neg h2, if_neg (by simp [h, h2])]

theorem actU_size : ∀ (ts : List Tmp), (actU act ts).tmps.size = act.tmps.size
  | [] => rfl
  | t :: ts => by rw [actU]; simp [Act.put, actU_size ts]
theorem actU_get (t : Tmp) : ∀ (ts : List Tmp), (actU act ts).tmps.getD t undef = if t ∈ ts then undef else act.tmps.getD t undef
  | [] => by simp [actU]
  | u :: ts => by
    rw [actU]
    show ((actU act ts).tmps.setIfInBounds u undef).getD t undef = _
    by_cases hu : u < (actU act ts).tmps.size
    · rw [getD_set _ _ _ _ hu, actU_get t ts]
      by_cases h : t = u
      · rw [if_pos h, if_pos (by simp [h])]
      · rw [if_neg h]
        by_cases h2 : t ∈ ts
        · rw [if_pos h2, if_pos (by simp [h2])]
        · rw [if_neg h2, if_neg (by simp [h, h2])]
    · have e : (actU act ts).tmps.setIfInBounds u undef = (actU act ts).tmps := by
        apply Array.ext
        · simp
        · intro k h1 h2
          rw [Array.getElem_setIfInBounds_ne (by simpa using h2) (by rintro rfl; exact hu h2)]
      rw [e, actU_get t ts]
      by_cases h : t = u
      · subst h
        rw [if_pos (show t ∈ t :: ts by simp)]
        by_cases h2 : t ∈ ts
        · rw [if_pos h2]
        · rw [if_neg h2]
          have := actU_size (act := act) ts
          rw [this] at hu
          simp [Array.getElem?_eq_none (Nat.le_of_not_lt hu)]
      · by_cases h2 : t ∈ ts
        · rw [if_pos h2, if_pos (by simp [h2])]
        · rw [if_neg h2, if_neg (by simp [h, h2])]

/-- What has been written, alone. -/
theorem masked (h : DInv C ops N B X0 D A a s L act w X m γ) : TR m N (putU a (unl ops D L)) (actU act (unl ops D L)) := by
  refine ⟨by rw [actU_size]; exact h.tsize, fun t => ?_⟩
  rw [get_putU, actU_get]
  by_cases ht : t ∈ unl ops D L
  · rw [if_pos ht, if_pos ht]; exact undef_rel
  · rw [if_neg ht, if_neg ht]
    refine h.tmps t fun i o hi hD hd => ?_
    cases hl : L.getD i false with
    | true => rfl
    | false => exact absurd (mem_unl.2 ⟨i, o, hi, hl, hD, hd⟩) ht

/-- An operation that may be taken reads what has been written. -/
theorem ready_reads (hg : Good ops) (h : DInv C ops N B X0 D A a s L act w X m γ) (hi : ops[i]? = some o) (hp : ∀ e ∈ o.after, Region.binds .any e = true → L.getD e.on false = true) {t : Tmp} (ht : .tmp t ∈ o.op.operands) : t ∉ unl ops D L := by
  intro hu
  obtain ⟨j, oj, hj, hl, hD, hd⟩ := mem_unl.1 hu
  rcases hg.reads i j o oj t hi ht hj hd with ⟨e, he, hb, rfl⟩ | ⟨hlt, _⟩
  · rw [hp e he hb] at hl; cases hl
  · rw [h.must j (Array.getElem?_eq_some_iff.1 hj).1 (h.late j oj hj hlt hD)] at hl; cases hl
theorem ready_agree (hg : Good ops) (h : DInv C ops N B X0 D A a s L act w X m γ) (hi : ops[i]? = some o) (hp : ∀ e ∈ o.after, Region.binds .any e = true → L.getD e.on false = true) : Agree o.op (putU a (unl ops D L)) a := by
  intro x hx
  cases x with
  | tmp t =>
    show orUndef ((putU a (unl ops D L)).get t) = orUndef (a.get t)
    rw [get_putU, if_neg (ready_reads hg h hi hp hx)]
  | _ => rfl
theorem ready_exec (hg : Good ops) (h : DInv C ops N B X0 D A a s L act w X m γ) (hi : ops[i]? = some o) (hp : ∀ e ∈ o.after, Region.binds .any e = true → L.getD e.on false = true) : execOp act.eval o = execOp (actU act (unl ops D L)).eval o := by
  refine execOp_congr o (fun cs b => hg.nosel i o cs b hi) fun x hx => ?_
  cases x with
  | tmp t =>
    show act.tmps.getD t undef = (actU act (unl ops D L)).tmps.getD t undef
    rw [actU_get, if_neg (ready_reads hg h hi hp hx)]
  | _ =>
    have : ∀ ts, (actU act ts).eval = fun x => match x with | .tmp t => (actU act ts).tmps.getD t undef | x => act.eval x := by
      intro ts
      funext x
      cases x <;> rfl
    rw [this]

theorem bool_of {v : Value} {b : Bool} (h : VRel m v (.bool b)) (hc : isChan v = false) : v = .bool b := by
  generalize hy : Value.bool b = y at h
  cases h <;> first | (cases hc; done) | (cases hy; done) | rfl

theorem wanted_same {tm : Array Value} (hgb : guardB ops.toList o a = true) (hgd : ∀ g b og t, o.guard = some (g, b) → ops[g]? = some og → og.dst = some t → VRel m ((a.get t).getD undef) (tm.getD t undef)) :
    Region.wanted o (yielded ops tm) = wantedB ops.toList o a := by
  unfold Region.wanted wantedB
  cases hg : o.guard with
  | none => rfl
  | some gb =>
    obtain ⟨g, b⟩ := gb
    show (yielded ops tm g == some b) = wantedG ops.toList a (g, b)
    cases h1 : ops[g]? with
    | none => simp [wantedG, h1, yielded]
    | some og =>
    cases h2 : og.dst with
    | none => simp [wantedG, h1, h2, yielded]
    | some t =>
    have hv := hgd g b og t hg h1 h2
    simp only [wantedG, Array.getElem?_toList, h1, h2, yielded, Option.bind_some]
    cases hx : tm[t]? with
    | none =>
      have e : tm.getD t undef = undef := by simp [hx]
      rw [e] at hv
      simp only []
      split
      · rename_i c hc
        rw [hc] at hv
        have := bool_inv hv
        cases this
      · rfl
    | some x =>
      have e : tm.getD t undef = x := by simp [hx]
      rw [e] at hv
      by_cases hb : ∃ c, x = .bool c
      · obtain ⟨c, rfl⟩ := hb
        have hc0 : isChan ((a.get t).getD undef) = false := by
          unfold guardB at hgb
          rw [hg] at hgb
          have hgb' : guardG ops.toList a (g, b) = true := hgb
          simp only [guardG, Array.getElem?_toList, h1, h2] at hgb'
          cases ha : a.get t with
          | none => rfl
          | some z => rw [ha] at hgb'; cases z <;> first | rfl | cases hgb'
        have := bool_of hv hc0
        cases ha : a.get t with
        | none => rw [ha] at this; cases this
        | some y =>
          rw [ha] at this
          have hy : y = .bool c := this
          subst hy
          cases b <;> cases c <;> rfl
      · cases x <;> first
          | (exact absurd ⟨_, rfl⟩ hb)
          | (dsimp only
             split
             · rename_i c hc
               rw [hc] at hv
               exact absurd ⟨c, bool_inv hv⟩ hb
             · rfl)

theorem ready_wanted (hg : Good ops) (h : DInv C ops N B X0 D A a s L act w X m γ) (hi : ops[i]? = some o) (hp : ∀ e ∈ o.after, Region.binds .any e = true → L.getD e.on false = true) (hgb : guardB ops.toList o a = true) : Region.wanted o (yielded ops act.tmps) = wantedB ops.toList o a := by
  refine wanted_same (m := m) hgb fun g b og t hgd h1 h2 => ?_
  obtain ⟨_, _, _, _, e, he, hb, rfl⟩ := hg.guards i g o b hi hgd
  refine h.tmps t fun j oj hj _ hd => ?_
  rw [hg.once j e.on oj og t hj h1 hd h2]
  exact hp e he hb

theorem getD_setB {L : Array Bool} {i j : Nat} (hi : i < L.size) : (L.setIfInBounds i true).getD j false = if j = i then true else L.getD j false := by
  by_cases h : j = i
  · subst h; simp [hi]
  · rw [if_neg h]
    simp only [Array.getD_eq_getD_getElem?, Array.getElem?_setIfInBounds_ne (fun e => h e.symm)]

theorem put_get {d : Option Tmp} {v : Value} {t : Tmp} (ht : t < act.tmps.size) : (act.put d v).tmps.getD t undef = if d = some t then v else act.tmps.getD t undef := by
  cases d with
  | none => simp [Act.put]
  | some u =>
    show (act.tmps.setIfInBounds u v).getD t undef = _
    by_cases h : u = t
    · subst h; simp [ht]
    · rw [if_neg (fun e => h (by cases e; rfl))]
      simp only [Array.getD_eq_getD_getElem?, Array.getElem?_setIfInBounds_ne h]
theorem put_get_ne {d : Option Tmp} {v : Value} {t : Tmp} (h : d ≠ some t) : (act.put d v).tmps.getD t undef = act.tmps.getD t undef := by
  cases d with
  | none => rfl
  | some u =>
    show (act.tmps.setIfInBounds u v).getD t undef = _
    simp only [Array.getD_eq_getD_getElem?, Array.getElem?_setIfInBounds_ne (show u ≠ t from fun e => h (by rw [e]))]
theorem put_size {d : Option Tmp} {v : Value} : (act.put d v).tmps.size = act.tmps.size := by cases d <;> simp [Act.put]
theorem put_defers {d : Option Tmp} {v : Value} : (act.put d v).defers = act.defers := by cases d <;> rfl

/-- The machine takes an operation that the interpreter has taken. -/
theorem DInv.list (hg : Good ops) (h : DInv C ops N B X0 D A a s L act w X m γ) (hi : ops[i]? = some o) (hD : bitB D i = true) (hp : ∀ e ∈ o.after, Region.binds .any e = true → L.getD e.on false = true)
    {X' : Aux} {m' : M ω} {w' : World} {v' : Value} (hle : Le m m') (hsr : SR B X' m' s w') (hK : X'.K = X.K) (hG : ∀ b q, X0.G b = some q → X'.G b = some q) (hGγ : ∀ j oj q f, AlAt C ops D a L j oj q f → j ≠ i → X'.G (γ j) = some q)
    (hv : ∀ t, o.dst = some t → VRel m' ((a.get t).getD undef) v') (hb : Below B w w') : DInv C ops N B X0 D A a s (L.setIfInBounds i true) (act.put o.dst v') w' X' m' γ := by
  have hlt : i < L.size := by rw [h.size]; exact (Array.getElem?_eq_some_iff.1 hi).1
  have old : ∀ {j : Nat} {oj : Oper} {q : AObj} {f : Nat → Value}, AlAt C ops D a (L.setIfInBounds i true) j oj q f → AlAt C ops D a L j oj q f ∧ j ≠ i := by
    rintro j oj q f ⟨h1, h2, h3, h4, h5⟩
    rw [getD_setB hlt] at h3
    by_cases hji : j = i
    · rw [if_pos hji] at h3; cases h3
    · rw [if_neg hji] at h3; exact ⟨⟨h1, h2, h3, h4, h5⟩, hji⟩
  refine ⟨by simpa using h.size, ?_, ?_, h.downD, ?_, h.dstN, by rw [put_size]; exact h.tsize, ?_, hsr, hK.trans h.K, hG, ?_, ?_, h.hB.next hb, h.late⟩
  · intro j hj
    rw [getD_setB hlt] at hj
    by_cases hji : j = i
    · rw [hji]; exact hD
    · rw [if_neg hji] at hj; exact h.sub j hj
  · intro j oj hj hl e he hbi
    rw [getD_setB hlt] at hl ⊢
    by_cases hee : e.on = i
    · rw [if_pos hee]
    · rw [if_neg hee]
      by_cases hji : j = i
      · subst hji; rw [hi] at hj; cases hj; exact hp e he hbi
      · rw [if_neg hji] at hl; exact h.down j oj hj hl e he hbi
  · intro j hj hA
    rw [getD_setB hlt]
    by_cases hji : j = i
    · rw [if_pos hji]
    · rw [if_neg hji]; exact h.must j hj hA
  · intro t hall
    by_cases hd : o.dst = some t
    · rw [put_get (by rw [h.tsize]; exact h.dstN i o t hi hD hd), if_pos hd]; exact hv t hd
    · rw [put_get_ne hd]
      refine (h.tmps t fun j oj hj hjD hdj => ?_).mono hle
      have := hall j oj hj hjD hdj
      rw [getD_setB hlt] at this
      by_cases hji : j = i
      · subst hji; rw [hi] at hj; cases hj; exact absurd hdj hd
      · rwa [if_neg hji] at this
  · intro j oj q f hj
    obtain ⟨h1, h2⟩ := old hj
    obtain ⟨k1, k2, k3⟩ := h.al j oj q f h1
    exact ⟨hGγ j oj q f h1 h2, k2, k3⟩
  · intro j k oj ok qj qk fj fk hj hk hne
    exact h.inj j k oj ok qj qk fj fk (old hj).1 (old hk).1 hne

/-- One step of the machine, over an operation that the interpreter has taken. -/
theorem free_step (hC : COK ω C) (hg : Good ops) (h : DInv C ops N B X0 D A a s L act w X m γ) (hver : verL C ops.toList D A a s ops.toList 0 = true) (hi : ops[i]? = some o) (hD : bitB D i = true) (hL : L.getD i false = false)
    (hp : ∀ e ∈ o.after, Region.binds .any e = true → L.getD e.on false = true) {q : Bool} {F : Fence} (hF : FOf q F) {n : Nat} {K : Act → World → Prop} {Q : Exit → Act → World → Prop}
    (hK : ∀ act' w' X' m', DInv C ops N B X0 D A a s (L.setIfInBounds i true) act' w' X' m' γ → Le m m' → Below B w w' → act'.defers = act.defers → K act' w') : wpOpIn F n C.P ops Q i K act w := by
  have hA : bitB A i = false := by
    cases hb : bitB A i with
    | false => rfl
    | true => rw [h.must i (Array.getElem?_eq_some_iff.1 hi).1 hb] at hL; cases hL
  have hv := verL_spec hver i o (by simpa using hi) (by simpa using hD) (by simpa using hA)
  unfold verO at hv
  cases hgb : guardB ops.toList o a with
  | false => rw [hgb] at hv; cases hv
  | true =>
  rw [hgb] at hv
  simp only [cond_true] at hv
  unfold wpOpIn
  rw [hi]
  simp only []
  rw [ready_wanted hg h hi hp hgb]
  have hT := masked h
  cases hw : wantedB ops.toList o a with
  | false =>
    rw [hw] at hv
    simp only [cond_false] at hv
    rw [if_neg (by simp)]
    refine ⟨fun f _ => hF.fn f, hK _ _ X m (h.list hg hi hD hp (Le.refl _) h.sr rfl h.G (fun j oj q f hj _ => (h.al j oj q f hj).1) (fun t ht => ?_) (Below.refl _ _)) (Le.refl _) (Below.refl _ _) put_defers⟩
    rw [dstIs_sound hv ht]; exact undef_rel
  | true =>
    rw [hw] at hv
    simp only [cond_true] at hv
    rw [if_pos rfl]
    have hnd : ∀ c, o.op ≠ .defer c := by
      intro c hd
      rw [hd] at hv
      simp only [alOf, alNone, aop] at hv
      rw [hd] at hv
      simp only [aopK, opNone] at hv
      cases hv
    refine ⟨fun f _ => hF.fn f, ?_⟩
    rw [Oper.semAt_eq _ _ _ hnd, ready_exec hg h hi hp]
    cases hal : alOf o.op C a with
    | some al =>
      obtain ⟨p, f⟩ := al
      obtain ⟨k1, k2, t, k3, k4⟩ := h.al i o p f ⟨hi, hD, hL, hw, hal⟩
      obtain ⟨v', w1, inf, hr, e1, e2, e3, e4, e5, e6⟩ := al_new hC.ok hT h.hB.le (o := o) (q := p) (f := f) (by rw [al_congr (ready_agree hg h hi hp)]; exact hal)
      rw [hr]
      obtain ⟨g1, g2⟩ := real_sound h.sr k1 inf h.hB.le e1 e2 e3 e5
      refine hK _ _ (X.del (γ i)) _ (h.list hg hi hD hp g2 g1 rfl (fun b x hx => ?_) (fun j oj x fx hj hji => ?_) (fun u hu => ?_) e4) g2 e4 put_defers
      · show (if b = γ i then none else X.G b) = some x
        rw [if_neg (fun e => by rw [e, k2] at hx; cases hx)]
        exact h.G b x hx
      · show (if γ j = γ i then none else X.G (γ j)) = some x
        rw [if_neg (h.inj j i oj o x p fx f hj ⟨hi, hD, hL, hw, hal⟩ hji)]
        exact (h.al j oj x fx hj).1
      · rw [k3] at hu; cases hu
        rw [k4]
        exact e6 _ _ (ext_same _ _ _)
    | none =>
      rw [hal] at hv
      simp only at hv
      split at hv
      · rename_i v s1 hao
        cases hst : stillB C o.op with
        | false => rw [hst] at hv; cases hv
        | true =>
          rw [hst] at hv
          simp only [cond_true] at hv
          obtain ⟨rfl, _⟩ := still_same hst hal hao
          have hsnd := aop_sound hC.ok h.sr hT h.hB (o := o) (by rw [aop_agree (ready_agree hg h hi hp)]; exact hao)
          obtain ⟨nx, w', m', hr, hle, hs', hb, hrr⟩ := hsnd
          rw [hr]
          cases nx <;> first | (exact hrr.elim; done) | skip
          rename_i v'
          refine hK _ _ X m' (h.list hg hi hD hp hle hs' rfl h.G (fun j oj q f hj _ => (h.al j oj q f hj).1) (fun t ht => ?_) hb) hle hb put_defers
          rw [dstIs_sound hv ht]; exact hrr
      · cases hv

/-- One step of the machine and of the interpreter: an operation that changes something. -/
theorem DInv.both (hg : Good ops) (h : DInv C ops N B X0 D A a s L act w X m γ) (hi : ops[i]? = some o) (hiD : bitB D i = false) (hp : ∀ e ∈ o.after, Region.binds .any e = true → L.getD e.on false = true)
    {v : Value} (ha : putA N a o.dst v = some a') {m' : M ω} {w' : World} {v' : Value} (hle : Le m m') (hsr : SR B X m' s' w') (hv : VRel m' v v') (hb : Below B w w') :
    DInv C ops N B X0 (setB D i) (anc ops.toList ops.toList 0 (setB A i)) a' s' (L.setIfInBounds i true) (act.put o.dst v') w' X m' γ := by
  have hput := putA_inv ha
  have hlt : i < L.size := by rw [h.size]; exact (Array.getElem?_eq_some_iff.1 hi).1
  have hdown : ∀ j oj, ops[j]? = some oj → (L.setIfInBounds i true).getD j false = true → ∀ e ∈ oj.after, Region.binds .any e = true → (L.setIfInBounds i true).getD e.on false = true := by
    intro j oj hj hl e he hbi
    rw [getD_setB hlt] at hl ⊢
    by_cases hee : e.on = i
    · rw [if_pos hee]
    · rw [if_neg hee]
      by_cases hji : j = i
      · subst hji; rw [hi] at hj; cases hj; exact hp e he hbi
      · rw [if_neg hji] at hl; exact h.down j oj hj hl e he hbi
  have geta : ∀ t, o.dst ≠ some t → a'.get t = a.get t := by
    intro t ht
    rcases hput with ⟨_, rfl⟩ | ⟨u, hu, _, rfl⟩
    · rfl
    · rw [T.get_put, if_neg (fun e => ht (by rw [e]; exact hu))]
  have old : ∀ {j : Nat} {oj : Oper} {q : AObj} {f : Nat → Value}, AlAt C ops (setB D i) a' (L.setIfInBounds i true) j oj q f → AlAt C ops D a L j oj q f ∧ j ≠ i := by
    rintro j oj q f ⟨h1, h2, h3, h4, h5⟩
    rw [getD_setB hlt] at h3
    by_cases hji : j = i
    · rw [if_pos hji] at h3; cases h3
    · rw [if_neg hji] at h3
      have hjD : bitB D j = true := (setB_inv h2).resolve_left hji
      have hno := no_edge h hiD h1 hjD
      refine ⟨⟨h1, hjD, h3, ?_, ?_⟩, hji⟩
      · rcases hput with ⟨_, rfl⟩ | ⟨t, ht, _, rfl⟩
        · exact h4
        · rwa [wanted_putA hg hi h1 hno ht v] at h4
      · rcases hput with ⟨_, rfl⟩ | ⟨t, ht, _, rfl⟩
        · exact h5
        · rwa [al_congr (agree_put hg hi h1 hno (fun _ e he hb hh => by rw [← hh, hp e he hb] at h3; cases h3) ht v)] at h5
  refine ⟨by simpa using h.size, ?_, hdown, ?_, ?_, ?_, by rw [put_size]; exact h.tsize, ?_, hsr, h.K, h.G, ?_, ?_, h.hB.next hb, ?_⟩
  · intro j hj
    rw [getD_setB hlt] at hj
    by_cases hji : j = i
    · rw [hji]; exact setB_same _ _
    · rw [if_neg hji] at hj; exact setB_old (h.sub j hj)
  · intro j oj hj hjD e he hbi
    rcases setB_inv hjD with rfl | hjD
    · rw [hi] at hj; cases hj
      exact setB_old (h.sub _ (hp e he hbi))
    · exact setB_old (h.downD j oj hj hjD e he hbi)
  · intro j hj hA
    refine anc_spec (all := ops.toList) (fun j => j < ops.size → (L.setIfInBounds i true).getD j false = true) ?_ (l := ops.toList) (k := 0) (A := setB A i) (fun i => by simp) ?_ j hA hj
    · intro j oj hj hS e he hbi hlt'
      have hj' : ops[j]? = some oj := by simpa using hj
      exact hdown j oj hj' (hS (Array.getElem?_eq_some_iff.1 hj').1) e he hbi
    · intro j hj hlt'
      rw [getD_setB hlt]
      rcases setB_inv hj with rfl | hj
      · rw [if_pos rfl]
      · by_cases hji : j = i
        · rw [if_pos hji]
        · rw [if_neg hji]; exact h.must j hlt' hj
  · intro j oj t hj hjD ht
    rcases setB_inv hjD with rfl | hjD
    · rw [hi] at hj; cases hj
      rcases hput with ⟨e, _⟩ | ⟨u, hu, hlt, _⟩
      · rw [ht] at e; cases e
      · rw [ht] at hu; cases hu; exact hlt
    · exact h.dstN j oj t hj hjD ht
  · intro t hall
    by_cases hd : o.dst = some t
    · rcases hput with ⟨e, _⟩ | ⟨u, hu, hlt2, rfl⟩
      · rw [hd] at e; cases e
      · rw [hd] at hu; cases hu
        rw [put_get (by rw [h.tsize]; exact hlt2), if_pos hd, T.get_put, if_pos rfl]
        exact hv
    · rw [put_get_ne hd, geta t hd]
      refine (h.tmps t fun j oj hj hjD hdj => ?_).mono hle
      have := hall j oj hj (setB_old hjD) hdj
      rw [getD_setB hlt] at this
      by_cases hji : j = i
      · subst hji; rw [hi] at hj; cases hj; exact absurd hdj hd
      · rwa [if_neg hji] at this
  · intro j oj q f hj
    obtain ⟨h1, h2⟩ := old hj
    obtain ⟨k1, k2, t, k3, k4⟩ := h.al j oj q f h1
    exact ⟨k1, k2, t, k3, by rw [geta t (fun e => h2 (hg.once j i oj o t h1.1 hi k3 e))]; exact k4⟩
  · intro j k oj ok qj qk fj fk hj hk hne
    exact h.inj j k oj ok qj qk fj fk (old hj).1 (old hk).1 hne
  · intro j oj hj hl hjD
    refine anc_sub ?_
    rcases setB_inv hjD with rfl | hjD
    · exact setB_same _ _
    · exact setB_old (h.late j oj hj hl hjD)
end
end Go.Proofs.YtenfkghoolegfaaGreatDoor.Ev
