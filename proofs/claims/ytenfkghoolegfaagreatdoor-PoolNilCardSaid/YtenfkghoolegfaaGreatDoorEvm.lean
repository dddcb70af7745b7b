/- An interpreter over an abstract memory, part m: what an operation looks at; operations that change nothing; values that are the same; sets of operations. -/
import Derived.Test.YtenfkghoolegfaaGreatDoorEvl
namespace Go.Proofs.YtenfkghoolegfaaGreatDoor.Ev
open Go.RowKit
variable {ω : Nat → Value}
section
variable {C : Ctx} {B : Nat} {X : Aux} {m : M ω} {s s' : AS} {w : World} {a a' : T Value} {act : Act} {n : Nat}

/-- Two activations that are alike for an operation. -/
def Agree (op : Op) (a a' : T Value) : Prop := ∀ x ∈ op.operands, opnd a x = opnd a' x

theorem opnds_congr {l : List Operand} (h : ∀ x ∈ l, opnd a x = opnd a' x) : opnds a l = opnds a' l := by
  induction l with
  | nil => rfl
  | cons x l ih => simp only [opnds]; rw [h x (by simp), ih (fun y hy => h y (by simp [hy]))]
theorem parts_congr {l : List (Nat × Operand)} (h : ∀ x ∈ l.map (·.2), opnd a x = opnd a' x) : parts a l = parts a' l := by
  induction l with
  | nil => rfl
  | cons x l ih => obtain ⟨i, x⟩ := x; simp only [parts]; rw [h x (by simp), ih (fun y hy => h y (by simp only [List.map_cons, List.mem_cons]; exact .inr hy))]
theorem bnd_congr {x : Option Operand} (h : ∀ y ∈ x, opnd a y = opnd a' y) : bnd a x = bnd a' x := by
  cases x with
  | none => rfl
  | some x => simp only [bnd]; rw [h x rfl]

theorem al_congr {op : Op} (h : Agree op a a') : alOf op C a = alOf op C a' := by
  cases op <;> unfold Agree at h <;> simp only [Op.operands] at h <;> unfold alOf <;> try rfl
  case box t x => simp only [alBox]; rw [h x (by simp)]
  case buildSlice t k ps => simp only [alBuildSlice]; rw [parts_congr (a' := a') (fun x hx => h x (by simpa using hx))]
  case convert s d x => simp only [alConv]; rw [h x (by simp)]
  case makeMap t r => cases r <;> rfl
  case makeSlice t l c => simp only [alMakeSlice]; rw [h l (by simp), h c (by simp)]

theorem aop_congr {op : Op} (h : Agree op a a') : aopK op C a s = aopK op C a' s := by
  have hal := al_congr (C := C) h
  cases op <;> unfold Agree at h <;> simp only [Op.operands] at h <;> unfold aopK <;> try rfl
  case move x => simp only [opMove]; rw [h x (by simp)]
  case assign x => simp only [opMove]; rw [h x (by simp)]
  case pick c x y => simp only [opPick]; rw [h c (by simp), h x (by simp), h y (by simp)]
  case box t x => exact congrArg (doAl s) hal
  case build t ps => simp only [opBuild]; rw [parts_congr (a' := a') (fun x hx => h x (by simpa using hx))]
  case buildSlice t k ps => exact congrArg (doAl s) hal
  case insert t x k v => simp only [opMapUpdate]; rw [h x (by simp), h k (by simp), h v (by simp)]
  case load t x => cases x <;> simp only [opLoad, isGlob, loadX] <;> first | rfl | (rw [h _ (by simp)])
  case store t x y => simp only [opStore]; rw [h x (by simp), h y (by simp)]
  case nilCheck x => simp only [opNilCheck]; rw [h x (by simp)]
  case binOp op t x y z => simp only [opBinOp]; rw [h x (by simp), h y (by simp)]
  case unOp op t x => simp only [opUnOp]; rw [h x (by simp)]
  case convert sr d x =>
    have e : alConv sr d x C a = alConv sr d x C a' := hal
    simp only [opConvert]; rw [e]; cases alConv sr d x C a' with
    | some al => rfl
    | none => simp only [opConv2]; rw [h x (by simp)]
  case makeInterface t x => simp only [opMakeInterface]; rw [h x (by simp)]
  case makeFunc f fs cs =>
    cases f <;> try rfl
    simp only [opMakeFunc]
    rw [opnds_congr (a' := a') (l := fs.toList) (fun x hx => h x (by simp at hx ⊢; exact .inl hx)), opnds_congr (a' := a') (l := cs.toList) (fun x hx => h x (by simp at hx ⊢; exact .inr hx))]
  case makeMap t r => cases r <;> rfl
  case makeSlice t l c => exact congrArg (doAl s) hal
  case slice t x lo hi mx =>
    simp only [opSlice]
    rw [h x (by simp), bnd_congr (a' := a') (x := lo) (fun y hy => h y (by cases lo <;> simp_all)), bnd_congr (a' := a') (x := hi) (fun y hy => h y (by cases hi <;> simp_all)), bnd_congr (a' := a') (x := mx) (fun y hy => h y (by cases mx <;> simp_all))]
  case fieldAddr t x f => simp only [opFieldAddr]; rw [h x (by simp)]
  case field t x f => simp only [opField]; rw [h x (by simp)]
  case indexAddr t x i => simp only [opIndexAddr]; rw [h x (by simp), h i (by simp)]
  case index t x i => simp only [opIndex]; rw [h x (by simp), h i (by simp)]
  case lookup t x k ok => simp only [opLookup]; rw [h x (by simp), h k (by simp)]
  case mapUpdate t x k v => simp only [opMapUpdate]; rw [h x (by simp), h k (by simp), h v (by simp)]
  case range t x => simp only [opRange]; rw [h x (by simp)]
  case next x q => simp only [opNext]; rw [h x (by simp)]
  case entry x => simp only [opEntry]; rw [h x (by simp)]
  case typeAssert x xt t ok => simp only [opTypeAssert]; rw [h x (by simp)]
  case extract x i => simp only [opExtract]; rw [h x (by simp)]
  case call c =>
    simp only [opCall]
    rw [opnds_congr (a' := a') (l := c.args.toList) (fun x hx => h x (by simp [Call.operands]; exact .inr (by simpa using hx)))]
    cases hc : c.callee with
    | builtin b => cases opnds a' c.args.toList <;> rfl
    | value f =>
      have e := h f (by simp [Call.operands, hc])
      cases opnds a' c.args.toList with
      | none => rfl
      | some vs => dsimp only; rw [e]
    | invoke r nm =>
      have e := h r (by simp [Call.operands, hc])
      cases opnds a' c.args.toList with
      | none => rfl
      | some vs => dsimp only; rw [e]

theorem aop_agree {o : Oper} (h : Agree o.op a a') : aop C o a s = aop C o a' s := aop_congr h

theorem failA_still {t : TypeId} {ok : Bool} {r : R} (he : failA C t ok s = some (r, s')) : s' = s ∧ ∃ v, r = .val v := by
  simp only [failA, cond_eq_ite] at he
  (repeat' split at he) <;> cases he
  exact ⟨rfl, _, rfl⟩

/-- What changes nothing. -/
theorem still_same {o : Oper} (h : stillB C o.op = true) (hal : alOf o.op C a = none) {r : R} (he : aop C o a s = some (r, s')) : s' = s ∧ ∃ v, r = .val v := by
  have mv : ∀ {x : Operand}, opMove x C a s = some (r, s') → s' = s ∧ ∃ v, r = .val v := by
    intro x he
    unfold opMove at he
    cases hx : opnd a x with
    | none => rw [hx] at he; cases he
    | some v => rw [hx] at he; cases he; exact ⟨rfl, _, rfl⟩
  unfold aop at he
  cases ho : o.op <;> rw [ho] at h he hal <;> first | (cases h; done) | skip
  case move x => exact mv he
  case assign x => exact mv he
  case makeFunc f fs cs =>
    cases f <;> first | (cases he; done) | skip
    have he' : opMakeFunc _ fs cs C a s = some (r, s') := he
    simp only [opMakeFunc] at he'
    (repeat' split at he') <;> cases he'
    exact ⟨rfl, _, rfl⟩
  case typeAssert x xt t ok =>
    have he' : opTypeAssert x t ok C a s = some (r, s') := he
    simp only [opTypeAssert, cond_eq_ite] at he'
    (repeat' split at he') <;> first | (cases he'; done) | (cases he'; exact ⟨rfl, _, rfl⟩) | exact failA_still he'
  case convert sr d x =>
    have he' : opConvert sr d x C a s = some (r, s') := he
    have hn : alConv sr d x C a = none := hal
    unfold opConvert at he'
    rw [hn] at he'
    simp only [opConv2] at he'
    split at he'
    · split at he'
      · rename_i v r' s2 hc
        cases he'
        refine ⟨?_, _, rfl⟩
        unfold convV at hc
        rename_i z hz0
        cases hch : isChan z with
        | true =>
          rw [hch] at hc
          simp only [cond_true, convTok] at hc
          split at hc <;> cases hc
          rfl
        | false =>
        rw [hch] at hc
        simp only [cond_false] at hc
        split at hc
        · split at hc
          · simp only [convInt] at hc
            (repeat' split at hc) <;> cases hc <;> rfl
          · simp only [convStr, cond_eq_ite] at hc
            (repeat' split at hc) <;> cases hc <;> rfl
          · simp only [convSl, cond_eq_ite] at hc
            (repeat' split at hc) <;> cases hc <;> rfl
          · cases hc
        · cases hc
      · cases he'
    · cases he'
  case call c =>
    have hb : stillC c.callee = true := h
    have he' : opCall c C a s = some (r, s') := he
    unfold opCall at he'
    split at he'
    · rename_i b vs hc hv
      rw [hc] at hb
      have hb' : stillBi b = true := hb
      cases b <;> first | (cases hb'; done) | skip
      all_goals
        unfold builtinV builtinK at he'
        simp only [biLen, lenTok, biCap, biMinmax, cond_eq_ite] at he'
        (repeat' split at he') <;> first | (cases he'; done) | (cases he'; exact ⟨rfl, _, rfl⟩)
    · rename_i hc _; rw [hc] at hb; cases hb
    · rename_i hc _; rw [hc] at hb; cases hb
    · cases he'
  all_goals
    simp only [aopK, opPick, opBuild, opLoad, loadG, loadX, opNilCheck, opBinOp, opUnOp, opMakeInterface, opSlice, opFieldAddr, opField, opIndexAddr, opIndex, opLookup, opExtract, cond_eq_ite] at he
    (repeat' split at he) <;> first | (cases he; done) | (cases he; exact ⟨rfl, _, rfl⟩)

theorem eqL_sound {f : Value → Value → Bool} (hf : ∀ x y, f x y = true → x = y) : ∀ {l k : List Value}, eqL f l k = true → l = k
  | [], [], _ => rfl
  | [], _ :: _, h => by cases h
  | _ :: _, [], h => by cases h
  | x :: l, y :: k, h => by
    simp only [eqL] at h
    cases hx : f x y with
    | false => rw [hx] at h; cases h
    | true => rw [hx] at h; rw [hf x y hx, eqL_sound hf h]
theorem eqBy_sound : ∀ {l k : List UInt8}, eqBy l k = true → l = k
  | [], [], _ => rfl
  | [], _ :: _, h => by cases h
  | _ :: _, [], h => by cases h
  | x :: l, y :: k, h => by
    simp only [eqBy] at h
    cases hx : Nat.beq x.toNat y.toNat with
    | false => rw [hx] at h; cases h
    | true => rw [hx] at h; rw [eqBy_sound h, UInt8.toNat_inj.1 (Nat.eq_of_beq_eq_true hx)]
theorem eqA_sound {p q : Addr} (h : eqA p q = true) : p = q := by
  obtain ⟨b, o, sp⟩ := p
  obtain ⟨c, d, sq⟩ := q
  unfold eqA at h
  split at h
  · rename_i h1 h2
    simp only at h1 h2
    subst h1; subst h2
    rw [Bool.and_eq_true] at h
    have e1 := Nat.eq_of_beq_eq_true h.1
    have e2 := Nat.eq_of_beq_eq_true h.2
    simp only at e1 e2
    rw [e1, e2]
  · cases h
theorem eqI_sound {p q : Int} (h : eqI p q = true) : p = q := by
  cases p <;> cases q <;> simp only [eqI] at h <;> first | (rw [Nat.eq_of_beq_eq_true h]; done) | (cases h; done)
theorem veq_sound : ∀ (k : Nat) (x y : Value), veq k x y = true → x = y
  | 0, _, _, h => by cases h
  | k + 1, x, y, h => by
    have ih := veq_sound k
    unfold veq at h
    split at h
    · rename_i p q; cases p <;> cases q <;> first | rfl | (cases h; done)
    · rw [Bool.and_eq_true] at h; rw [of_decide_eq_true h.1, eqI_sound h.2]
    · rename_i p q
      have e := eqBy_sound h
      congr 1
      cases p; cases q
      simp only at e
      congr 1
      exact Array.toList_inj.1 e
    · rfl
    · rfl
    · rw [Nat.eq_of_beq_eq_true h]
    · rfl
    · rfl
    · rw [eqA_sound h]
    · rw [Bool.and_eq_true] at h; rw [Nat.eq_of_beq_eq_true h.1, Nat.eq_of_beq_eq_true h.2]
    · rw [Bool.and_eq_true, Bool.and_eq_true] at h; rw [eqA_sound h.1, Nat.eq_of_beq_eq_true h.2.1, Nat.eq_of_beq_eq_true h.2.2]
    · rfl
    · rw [Nat.eq_of_beq_eq_true h]
    · rw [Bool.and_eq_true] at h; rw [Nat.eq_of_beq_eq_true h.1, ih _ _ h.2]
    · rw [Array.toList_inj.1 (eqL_sound ih h)]
    · rw [Array.toList_inj.1 (eqL_sound ih h)]
    · rw [Bool.and_eq_true, Bool.and_eq_true] at h
      rw [Nat.eq_of_beq_eq_true h.1, Array.toList_inj.1 (eqL_sound ih h.2.1), Array.toList_inj.1 (eqL_sound ih h.2.2)]
    · cases h

theorem dstIs_sound {d : Option Tmp} {v : Value} (h : dstIs a d v = true) {t : Tmp} (ht : d = some t) : a.get t = some v := by
  subst ht
  simp only [dstIs] at h
  split at h
  · rename_i u hu; rw [hu, veq_sound _ _ _ h]
  · cases h

/-! Sets of operations. -/
theorem bitB_eq (D i : Nat) : bitB D i = D.testBit i := by
  unfold bitB Nat.testBit
  show Nat.beq ((D >>> i) &&& 1) 1 = (1 &&& (D >>> i) != 0)
  rw [Nat.and_comm, Nat.one_and_eq_mod_two]
  rcases Nat.mod_two_eq_zero_or_one (D >>> i) with h | h <;> rw [h] <;> rfl
theorem setB_bit (D i j : Nat) : bitB (setB D i) j = (decide (j = i) || bitB D j) := by
  rw [bitB_eq, bitB_eq]
  unfold setB
  show (D ||| (1 <<< i)).testBit j = _
  rw [Nat.testBit_or, Nat.one_shiftLeft, Nat.testBit_two_pow, Bool.or_comm]
  congr 1
  exact decide_eq_decide.2 eq_comm
theorem setB_same (D i : Nat) : bitB (setB D i) i = true := by rw [setB_bit]; simp
theorem setB_old {D i j : Nat} (h : bitB D j = true) : bitB (setB D i) j = true := by rw [setB_bit, h]; simp
theorem setB_inv {D i j : Nat} (h : bitB (setB D i) j = true) : j = i ∨ bitB D j = true := by
  rw [setB_bit, Bool.or_eq_true] at h
  exact h.imp (fun e => of_decide_eq_true e) id
theorem bitB_zero (i : Nat) : bitB 0 i = false := by rw [bitB_eq]; simp

theorem predsIn_iff {D : Nat} {es : List Edge} : predsIn D es = true ↔ ∀ e ∈ es, Region.binds .any e = true → bitB D e.on = true := by
  induction es with
  | nil => simp [predsIn]
  | cons e es ih =>
    simp only [predsIn, List.forall_mem_cons, ← ih]
    cases Region.binds .any e <;> cases bitB D e.on <;> simp
theorem ahead_iff {i : Nat} {es : List Edge} : ahead i es = true ↔ ∀ e ∈ es, Region.binds .any e = true → e.on < i := by
  induction es with
  | nil => simp [ahead]
  | cons e es ih =>
    simp only [ahead, List.forall_mem_cons, ← ih]
    have hb : (Nat.blt e.on i = true) ↔ e.on < i := by rw [Nat.blt_eq]
    cases Region.binds .any e <;> cases hc : Nat.blt e.on i <;> simp <;> rw [hc] at hb <;> simp at hb <;> first | omega | (intros; omega)
end
end Go.Proofs.YtenfkghoolegfaaGreatDoor.Ev
