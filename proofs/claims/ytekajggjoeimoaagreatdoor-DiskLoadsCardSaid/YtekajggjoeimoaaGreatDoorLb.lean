/- An interpreter over an abstract memory, part e: more operations: numbers, addresses, interfaces. An interpreter over an abstract memory, part f: more operations: addresses, slices, interfaces, functions. An interpreter over an abstract memory, part g: more operations: slices, fields, conversions, maps. An interpreter over an abstract memory, part h: parts of values, conversions, assertions, maps. An interpreter over an abstract memory, part i: values that are built, maps, builtins that are not append. An interpreter over an abstract memory, part j: append. -/
import Derived.Test.YtekajggjoeimoaaGreatDoorLa
import Derived.Laws.BitsAllLaws
import Derived.Laws.BytesArg
import Derived.Laws.IdiomStrings
import Derived.MapFrom
import Derived.Deep.AppendSrc
namespace Go.Proofs.YtekajggjoeimoaaGreatDoor.Ev
open Go.RowKit
variable {ω : Nat → Value}

theorem modK_eq (k : IntKind) : (2 ^ k.bits : Int) = (modK k : Int) := by cases k <;> rfl
theorem wrapN_eq (k : IntKind) (n : Nat) : wrapN k n = k.wrap n := by
  unfold wrapN
  cases h : Nat.blt n (topK k) with
  | false =>
    rw [cond_false]
    cases hs : sgnK k with
    | true => rfl
    | false =>
      rw [cond_false]
      cases k <;> first | (simp [sgnK] at hs; done) | (simp [IntKind.wrap, IntKind.bits, IntKind.signed, modK]; rfl)
  | true =>
    rw [cond_true]
    have hlt : n < topK k := by
      have := Nat.le_of_ble_eq_true (show Nat.ble (n + 1) (topK k) = true from h)
      omega
    cases k <;> simp [topK] at hlt <;> simp [IntKind.wrap, IntKind.bits, IntKind.signed] <;> omega

theorem sgn_signed (k : IntKind) : k.signed = sgnK k := by cases k <;> rfl

theorem sub_eq (k : IntKind) (a b : Nat) : (cond (Nat.ble b a) (wrapN k (a - b)) (cond (sgnK k) (k.wrap (Int.negSucc (b - a - 1))) (.ofNat (Nat.mod (Nat.mul (modK k) b + a - b) (modK k))))) = k.wrap ((a : Int) - b) := by
  cases h : Nat.ble b a with
  | true =>
    have := Nat.le_of_ble_eq_true h
    rw [cond_true, wrapN_eq]
    congr 1; omega
  | false =>
    have hlt : a < b := by
      rcases Nat.lt_or_ge a b with h1 | h1
      · exact h1
      · have := Nat.ble_eq_true_of_le h1; rw [h] at this; cases this
    rw [cond_false]
    cases hs : sgnK k with
    | true =>
      rw [cond_true]
      congr 1
      rw [Int.negSucc_eq]; omega
    | false =>
      rw [cond_false]
      have hm : 0 < modK k := by cases k <;> simp [modK]
      have e1 : Nat.mod (Nat.mul (modK k) b + a - b) (modK k) = (modK k * b + a - b) % modK k := rfl
      rw [e1]
      have hge : b ≤ modK k * b := Nat.le_mul_of_pos_left b hm
      have e2 : (k.wrap ((a : Int) - b)) = ((a : Int) - b) % (modK k : Int) := by
        unfold IntKind.wrap
        rw [sgn_signed, hs, ← modK_eq]; simp
      rw [e2]
      show ((((modK k * b + a - b) % modK k : Nat)) : Int) = _
      rw [Int.natCast_emod, Int.natCast_sub (by omega)]
      push_cast
      rw [show (modK k : Int) * b + a - b = ((a : Int) - b) + modK k * b by omega, Int.add_mul_emod_self_left]

theorem small_of {k : IntKind} {a b : Nat} {v v' : Value} (h : smallK k a b (some v) = some v') : a < topK k ∧ b < topK k ∧ v = v' := by
  unfold smallK at h
  cases h1 : Nat.blt a (topK k) with
  | false => simp [h1] at h
  | true =>
    cases h2 : Nat.blt b (topK k) with
    | false => simp [h1, h2] at h
    | true =>
      simp [h1, h2] at h
      exact ⟨Nat.le_of_ble_eq_true (show Nat.ble (a + 1) _ = true from h1), Nat.le_of_ble_eq_true (show Nat.ble (b + 1) _ = true from h2), h⟩

theorem top_le (k : IntKind) : topK k ≤ 2 ^ k.bits := by cases k <;> simp [topK, IntKind.bits]
theorem ofInt_nat (n : Nat) (x : Nat) (h : x < 2 ^ n) : (BitVec.ofInt n (Int.ofNat x)).toNat = x := by
  rw [BitVec.toNat_ofInt]
  have : ((Int.ofNat x) % (((2 ^ n : Nat)) : Int)).toNat = x := by
    rw [Int.ofNat_eq_natCast]
    rw [← Int.natCast_emod, Int.toNat_natCast, Nat.mod_eq_of_lt h]
  simpa using this
theorem top_pow (k : IntKind) : ∃ p, topK k = 2 ^ p := by cases k <;> first | exact ⟨7, rfl⟩ | exact ⟨15, rfl⟩ | exact ⟨31, rfl⟩ | exact ⟨63, rfl⟩ | exact ⟨8, rfl⟩ | exact ⟨16, rfl⟩ | exact ⟨32, rfl⟩ | exact ⟨64, rfl⟩
theorem wrap_small (k : IntKind) (x : Nat) (h : x < topK k) : k.wrap (x : Int) = (x : Int) := by
  rw [← wrapN_eq]; unfold wrapN
  have : Nat.blt x (topK k) = true := Nat.ble_eq_true_of_le h
  rw [this]; rfl

/-- A fast operator is the model's. -/
theorem opF_sound (op : BinOp) (k : IntKind) (a b : Nat) (v : Value) (t : TypeId) (h : opF op k a b = some v) : binOp op t (.int k (.ofNat a)) (.int k (.ofNat b)) = pure v := by
  have htop := top_le k
  obtain ⟨p, hp⟩ := top_pow k
  cases op with
  | add => have h' : addF k a b = some v := h
           simp only [addF, Option.some.injEq] at h'
           subst h'
           simp only [binOp, ne_eq, not_true, if_false, Op.intArith, wrapN_eq]
           rfl
  | sub => have h' : subF k a b = some v := h
           simp only [subF, Option.some.injEq] at h'
           subst h'
           simp only [binOp, ne_eq, not_true, if_false, Op.intArith, sub_eq]
           rfl
  | mul => have h' : mulF k a b = some v := h
           simp only [mulF, Option.some.injEq] at h'
           subst h'
           simp only [binOp, ne_eq, not_true, if_false, Op.intArith, wrapN_eq]
           rfl
  | quo => have h' : quoF k a b = some v := h
           unfold quoF at h'
           cases hb : Nat.beq b 0 with
           | true => simp [hb] at h'
           | false =>
             have hne := Nat.ne_of_beq_eq_false hb
             simp only [hb, cond_false, Option.some.injEq] at h'
             subst h'
             have : ¬ ((Int.ofNat b) = 0) := by intro e; apply hne; exact Int.ofNat.inj e
             simp only [binOp, ne_eq, not_true, if_false, Op.intDiv, this, wrapN_eq]
             rfl
  | rem => have h' : remF k a b = some v := h
           unfold remF at h'
           cases hb : Nat.beq b 0 with
           | true => simp [hb] at h'
           | false =>
             have hne := Nat.ne_of_beq_eq_false hb
             simp only [hb, cond_false, Option.some.injEq] at h'
             subst h'
             have : ¬ ((Int.ofNat b) = 0) := by intro e; apply hne; exact Int.ofNat.inj e
             simp only [binOp, ne_eq, not_true, if_false, Op.intDiv, this]
             rfl
  | and => obtain ⟨ha, hb, rfl⟩ := small_of (h : smallK k a b (some (.int k (.ofNat (Nat.land a b)))) = some v)
           simp only [binOp, ne_eq, not_true, if_false, Op.intBits]
           have : (BitVec.ofInt k.bits (Int.ofNat a) &&& BitVec.ofInt k.bits (Int.ofNat b)).toNat = a &&& b := by
             rw [BitVec.toNat_and, ofInt_nat _ a (by omega), ofInt_nat _ b (by omega)]
           rw [this, wrap_small k _ (Nat.lt_of_le_of_lt Nat.and_le_left ha)]
           rfl
  | or => obtain ⟨ha, hb, rfl⟩ := small_of (h : smallK k a b (some (.int k (.ofNat (Nat.lor a b)))) = some v)
          simp only [binOp, ne_eq, not_true, if_false, Op.intBits]
          have : (BitVec.ofInt k.bits (Int.ofNat a) ||| BitVec.ofInt k.bits (Int.ofNat b)).toNat = a ||| b := by
            rw [BitVec.toNat_or, ofInt_nat _ a (by omega), ofInt_nat _ b (by omega)]
          rw [this, wrap_small k _ (by rw [hp] at *; exact Nat.or_lt_two_pow ha hb)]
          rfl
  | xor => obtain ⟨ha, hb, rfl⟩ := small_of (h : smallK k a b (some (.int k (.ofNat (Nat.xor a b)))) = some v)
           simp only [binOp, ne_eq, not_true, if_false, Op.intBits]
           have : (BitVec.ofInt k.bits (Int.ofNat a) ^^^ BitVec.ofInt k.bits (Int.ofNat b)).toNat = a ^^^ b := by
             rw [BitVec.toNat_xor, ofInt_nat _ a (by omega), ofInt_nat _ b (by omega)]
           rw [this, wrap_small k _ (by rw [hp] at *; exact Nat.xor_lt_two_pow ha hb)]
           rfl
  | shl => cases h
  | shr => cases h
  | andNot => cases h
  | eql => have h' : eqlF k a b = some v := h
           simp only [eqlF, Option.some.injEq] at h'
           subst h'
           simp only [binOp, ne_eq, not_true, if_false, Op.intCmp]
           congr 2
           rw [Bool.eq_iff_iff, beq_iff_eq, Nat.beq_eq]
           exact ⟨fun e => Int.ofNat.inj e, fun e => by rw [e]⟩
  | neq => have h' : neqF k a b = some v := h
           simp only [neqF, Option.some.injEq] at h'
           subst h'
           simp only [binOp, ne_eq, not_true, if_false, Op.intCmp]
           congr 2
           show (!(Int.ofNat a == Int.ofNat b)) = !(Nat.beq a b)
           congr 1
           rw [Bool.eq_iff_iff, beq_iff_eq, Nat.beq_eq]
           exact ⟨fun e => Int.ofNat.inj e, fun e => by rw [e]⟩
  | lss => have h' : lssF k a b = some v := h
           simp only [lssF, Option.some.injEq] at h'
           subst h'
           simp only [binOp, ne_eq, not_true, if_false, Op.intCmp]
           congr 2
           rw [Bool.eq_iff_iff, decide_eq_true_iff]
           show (Int.ofNat a < Int.ofNat b) ↔ Nat.ble (a + 1) b = true
           rw [Nat.ble_eq, Int.ofNat_eq_natCast, Int.ofNat_eq_natCast]; omega
  | leq => have h' : leqF k a b = some v := h
           simp only [leqF, Option.some.injEq] at h'
           subst h'
           simp only [binOp, ne_eq, not_true, if_false, Op.intCmp]
           congr 2
           rw [Bool.eq_iff_iff, decide_eq_true_iff, Nat.ble_eq, Int.ofNat_eq_natCast, Int.ofNat_eq_natCast]; omega
  | gtr => have h' : gtrF k a b = some v := h
           simp only [gtrF, Option.some.injEq] at h'
           subst h'
           simp only [binOp, ne_eq, not_true, if_false, Op.intCmp]
           congr 2
           rw [Bool.eq_iff_iff, decide_eq_true_iff]
           show (Int.ofNat a > Int.ofNat b) ↔ Nat.ble (b + 1) a = true
           rw [Nat.ble_eq, Int.ofNat_eq_natCast, Int.ofNat_eq_natCast]; omega
  | geq => have h' : geqF k a b = some v := h
           simp only [geqF, Option.some.injEq] at h'
           subst h'
           simp only [binOp, ne_eq, not_true, if_false, Op.intCmp]
           congr 2
           rw [Bool.eq_iff_iff, decide_eq_true_iff, Nat.ble_eq, Int.ofNat_eq_natCast, Int.ofNat_eq_natCast]; omega

theorem shF_sound (op : BinOp) (k j : IntKind) (a b : Nat) (v : Value) (t : TypeId) (h : shF op k a b = some v) : binOp op t (.int k (.ofNat a)) (.int j (.ofNat b)) = pure v := by
  cases op <;> try (cases h; done)
  · have h' : shlF k a b = some v := h
    simp only [shlF, Option.some.injEq] at h'
    subst h'
    have hn : ¬ (Int.ofNat b < 0) := by rw [Int.ofNat_eq_natCast]; omega
    simp only [binOp, Op.shift, hn, if_false, wrapN_eq]
    congr 3

  · have h' : shrF k a b = some v := h
    simp only [shrF, Option.some.injEq] at h'
    subst h'
    have hn : ¬ (Int.ofNat b < 0) := by rw [Int.ofNat_eq_natCast]; omega
    simp only [binOp, Op.shift, hn, if_false]
    congr 2
    show (Int.ofNat a).fdiv (2 ^ (min (Int.ofNat b).toNat k.bits)) = ((a / 2 ^ (Nat.min b k.bits) : Nat) : Int)
    have e : (2 ^ (min (Int.ofNat b).toNat k.bits) : Int) = ((2 ^ (Nat.min b k.bits) : Nat) : Int) := by push_cast; rfl
    rw [e, Int.ofNat_eq_natCast, Int.fdiv_eq_ediv_of_nonneg _ (Int.natCast_nonneg _), Int.natCast_ediv]

section
variable {C : Ctx} {B : Nat} {X : Aux} {m : M ω} {s s' : AS} {w : World} {a : T Value} {act : Act} {n : Nat}

theorem eqGuard_int (P : Program) (op : BinOp) (t : TypeId) (x y : Operand) (k j : IntKind) (p q : Int) : (eqGuard op t x y (.int k p) (.int j q)).run P w = .ok () w := by
  unfold eqGuard
  cases op <;> rfl

theorem nilptr_inv {v : Value} (h : VRel m (.pointer none) v) : v = .pointer none := plain_inv h rfl
theorem nilsl_inv {v : Value} (h : VRel m (.slice none 0 0) v) : v = .slice none 0 0 := plain_inv h rfl
theorem nilmap_inv {v : Value} (h : VRel m (.map none) v) : v = .map none := plain_inv h rfl
theorem nilif_inv {v : Value} (h : VRel m .nilIface v) : v = .nilIface := plain_inv h rfl
theorem nilfn_inv {v : Value} (h : VRel m .nilFunc v) : v = .nilFunc := plain_inv h rfl
theorem ptr_inv {p : Addr} {v : Value} (h : VRel m (.pointer (some p)) v) : ∃ p', ARel m p p' ∧ v = .pointer (some p') := by
  cases h with
  | plain v h => simp [plainV] at h
  | ptr a a' h => exact ⟨a', h, rfl⟩
theorem slice_inv {p : Addr} {k c : Nat} {v : Value} (h : VRel m (.slice (some p) k c) v) :
    ∃ p' c', v = .slice (some p') k c' ∧ ((ARel m p p' ∧ CRel m p c c' ∧ k ≤ c) ∨ (k = 0 ∧ c = 0 ∧ c' = 0)) := by
  cases h with
  | plain v h => simp [plainV] at h
  | slice a a' n c c' h hc hn => exact ⟨a', c', rfl, .inl ⟨h, hc, hn⟩⟩
  | slice0 a a' h => exact ⟨a', 0, rfl, .inr ⟨rfl, rfl, rfl⟩⟩
theorem slice_map {p : Addr} {k c : Nat} {v : Value} (h : VRel m (.slice (some p) k c) v) : ∃ i, m p.block = some i := by
  cases h with
  | plain v h => simp [plainV] at h
  | slice a a' n c c' h hc hn => obtain ⟨_, i, hi, _⟩ := h; exact ⟨i, hi⟩
  | slice0 a a' h => exact h
theorem map_inv {b : Nat} {v : Value} (h : VRel m (.map (some b)) v) : ∃ i, m b = some i ∧ v = .map (some i.r) := by
  cases h with
  | plain v h => simp [plainV] at h
  | map b i h => exact ⟨i, h, rfl⟩
theorem iface_inv {t : TypeId} {u v : Value} (h : VRel m (.iface t u) v) : ∃ u', VRel m u u' ∧ v = .iface t u' := by
  cases h with
  | plain v h => simp [plainV] at h
  | iface t v v' h => exact ⟨v', h, rfl⟩
theorem int_inv {k : IntKind} {p : Int} {v : Value} (h : VRel m (.int k p) v) : v = .int k p := plain_inv h rfl
theorem str_inv {b : ByteArray} {v : Value} (h : VRel m (.string b) v) : v = .string b := plain_inv h rfl
theorem bool_inv {b : Bool} {v : Value} (h : VRel m (.bool b) v) : v = .bool b := plain_inv h rfl

/-- What is known of two values that eqV tells apart. -/
def EqOK (P : Program) (w : World) (t : TypeId) (x' y' : Value) (b : Bool) : Prop :=
  (Op.equal t x' y').run P w = .ok b w ∧ (∀ (op : BinOp) (ox oy : Operand), (eqGuard op t ox oy x' y').run P w = .ok () w) ∧
    binOp .eql t x' y' = (do pure (.bool (← Op.equal t x' y'))) ∧ binOp .neq t x' y' = (do pure (.bool (!(← Op.equal t x' y'))))

theorem equal_succ (t : TypeId) (x y : Value) : Op.equal t x y = Op.equalIn (9999 + 1) t x y := rfl

theorem eqV_sound (hC : CtxOK ω C) {t : TypeId} {x y x' y' : Value} {b : Bool} (hx : VRel m x x') (hy : VRel m y y') (h : eqV C t x y = some b) : EqOK C.P w t x' y' b := by
  unfold eqV at h
  cases hu : C.un t with
  | none => simp [hu] at h
  | some d =>
    have hd := hC.un t d hu
    have hun : (underlying t).run C.P w = .ok d w := run_underlying hd w
    rw [hu] at h
    cases d <;> try (simp at h; done)
    · simp only at h
      split at h
      · cases h; obtain rfl := nilptr_inv hx; obtain ⟨p', _, rfl⟩ := ptr_inv hy
        exact ⟨by rw [equal_succ, Op.equalIn]; simp only [Sem.run_bind, hun, Result.andThen_ok]; rfl, fun op _ _ => by cases op <;> rfl, rfl, rfl⟩
      · cases h; obtain rfl := nilptr_inv hy; obtain ⟨p', _, rfl⟩ := ptr_inv hx
        exact ⟨by rw [equal_succ, Op.equalIn]; simp only [Sem.run_bind, hun, Result.andThen_ok]; rfl, fun op _ _ => by cases op <;> rfl, rfl, rfl⟩
      · cases h
    · simp only at h
      split at h
      · cases h; obtain rfl := nilsl_inv hx; obtain ⟨p', c', rfl, _⟩ := slice_inv hy
        exact ⟨by rw [equal_succ, Op.equalIn]; simp only [Sem.run_bind, hun, Result.andThen_ok]; rfl, fun op _ _ => by cases op <;> rfl, rfl, rfl⟩
      · cases h; obtain rfl := nilsl_inv hy; obtain ⟨p', c', rfl, _⟩ := slice_inv hx
        exact ⟨by rw [equal_succ, Op.equalIn]; simp only [Sem.run_bind, hun, Result.andThen_ok]; rfl, fun op _ _ => by cases op <;> rfl, rfl, rfl⟩
      · cases h
    · simp only at h
      split at h
      · cases h; obtain rfl := nilmap_inv hx; obtain ⟨i, _, rfl⟩ := map_inv hy
        exact ⟨by rw [equal_succ, Op.equalIn]; simp only [Sem.run_bind, hun, Result.andThen_ok]; rfl, fun op _ _ => by cases op <;> rfl, rfl, rfl⟩
      · cases h; obtain rfl := nilmap_inv hy; obtain ⟨i, _, rfl⟩ := map_inv hx
        exact ⟨by rw [equal_succ, Op.equalIn]; simp only [Sem.run_bind, hun, Result.andThen_ok]; rfl, fun op _ _ => by cases op <;> rfl, rfl, rfl⟩
      · cases h
    · simp only at h
      split at h
      · cases h; obtain rfl := nilfn_inv hx
        cases hy with
        | plain v h => simp [plainV] at h
        | func f fs fs' cs cs' h1 h2 h k => exact ⟨by rw [equal_succ, Op.equalIn]; simp only [Sem.run_bind, hun, Result.andThen_ok]; rfl, fun op _ _ => by cases op <;> rfl, rfl, rfl⟩
        | yield b i h => exact ⟨by rw [equal_succ, Op.equalIn]; simp only [Sem.run_bind, hun, Result.andThen_ok]; rfl, fun op _ _ => by cases op <;> rfl, rfl, rfl⟩
      · cases h; obtain rfl := nilfn_inv hy
        cases hx with
        | plain v h => simp [plainV] at h
        | func f fs fs' cs cs' h1 h2 h k => exact ⟨by rw [equal_succ, Op.equalIn]; simp only [Sem.run_bind, hun, Result.andThen_ok]; rfl, fun op _ _ => by cases op <;> rfl, rfl, rfl⟩
        | yield b i h => exact ⟨by rw [equal_succ, Op.equalIn]; simp only [Sem.run_bind, hun, Result.andThen_ok]; rfl, fun op _ _ => by cases op <;> rfl, rfl, rfl⟩
      · cases h
    · simp only at h
      split at h
      · cases h; obtain rfl := nilif_inv hx; obtain ⟨u', _, rfl⟩ := iface_inv hy
        exact ⟨by rw [equal_succ, Op.equalIn]; simp only [Sem.run_bind, hun, Result.andThen_ok]; rfl, fun op _ _ => by cases op <;> rfl, rfl, rfl⟩
      · cases h; obtain rfl := nilif_inv hy; obtain ⟨u', _, rfl⟩ := iface_inv hx
        exact ⟨by rw [equal_succ, Op.equalIn]; simp only [Sem.run_bind, hun, Result.andThen_ok]; rfl, fun op _ _ => by cases op <;> rfl, rfl, rfl⟩
      · rename_i tp vp tq vq
        obtain ⟨u', _, rfl⟩ := iface_inv hx; obtain ⟨z', _, rfl⟩ := iface_inv hy
        cases hpq : Nat.beq tp tq with
        | true => rw [hpq] at h; cases h
        | false =>
          rw [hpq] at h; cases h
          have hne : tp ≠ tq := Nat.ne_of_beq_eq_false hpq
          exact ⟨by rw [equal_succ, Op.equalIn]; simp only [Sem.run_bind, hun, Result.andThen_ok]; rw [if_pos hne]; rfl, fun op _ _ => by cases op <;> rfl, rfl, rfl⟩
      · cases h

theorem genBin_sound (hC : CtxOK ω C) {op : BinOp} {t : TypeId} {ox oy : Operand} {x y x' y' v : Value} (hx : VRel m x x') (hy : VRel m y y') (h : genBin C op t ox oy x y = some v) :
    ∃ v', (do eqGuard op t ox oy x' y'; binOp op t x' y' : Sem Value).run C.P w = .ok v' w ∧ VRel m v v' := by
  have heq : ∀ {v}, eqBin2 C op t x y = some v → ∃ v', (do eqGuard op t ox oy x' y'; binOp op t x' y' : Sem Value).run C.P w = .ok v' w ∧ VRel m v v' := by
    intro v h
    unfold eqBin2 at h
    cases hb : eqBin C op t x y with
    | none =>
      rw [hb] at h
      exact hC.bin op t ox oy x y v h m x' y' w hx hy
    | some u =>
    rw [hb] at h
    cases h
    have h := hb
    unfold eqBin at h
    cases he : eqV C t x y with
    | none => simp [he] at h
    | some b =>
      obtain ⟨e1, e2, e3, e4⟩ := eqV_sound (w := w) hC hx hy he
      rw [he] at h
      cases op <;> try (cases h; done)
      · cases h; exact ⟨_, by simp [e2, e3, e1], .plain _ rfl⟩
      · cases h; exact ⟨_, by simp [e2, e4, e1], .plain _ rfl⟩
  unfold genBin at h
  cases h1 : closedV x with
  | false => rw [h1] at h; exact heq h
  | true =>
    cases h2 : closedV y with
    | false => rw [h1, h2] at h; exact heq h
    | true =>
      rw [h1, h2] at h
      simp only [cond_true] at h
      rw [closed_inv hx h1, closed_inv hy h2]
      unfold slowBin at h
      cases h3 : pureRun C.P (do eqGuard op t ox oy x y; binOp op t x y) with
      | none => simp [h3] at h
      | some u =>
        cases h4 : plainV u with
        | false => simp [h3, h4] at h
        | true =>
          simp [h3, h4] at h
          subst h
          exact ⟨_, pureRun_run _ _ h3 w, .plain _ h4⟩

theorem opF_plain {op : BinOp} {k : IntKind} {p q : Nat} {v : Value} (h : opF op k p q = some v) : plainV v = true := by
  cases op <;> first
    | (cases h; done)
    | (cases h; rfl)
    | (obtain ⟨_, _, rfl⟩ := small_of h; rfl)
    | (have h' : quoF k p q = some v := h
       unfold quoF at h'
       cases hb : Nat.beq q 0 <;> simp [hb] at h'
       subst h'; rfl)
    | (have h' : remF k p q = some v := h
       unfold remF at h'
       cases hb : Nat.beq q 0 <;> simp [hb] at h'
       subst h'; rfl)

theorem binV_sound (hC : CtxOK ω C) {op : BinOp} {t : TypeId} {ox oy : Operand} {x y x' y' v : Value} (hx : VRel m x x') (hy : VRel m y y') (h : binV C op t ox oy x y = some v) :
    ∃ v', (do eqGuard op t ox oy x' y'; binOp op t x' y' : Sem Value).run C.P w = .ok v' w ∧ VRel m v v' := by
  unfold binV at h
  split at h
  · rename_i k p
    unfold intBin at h
    split at h
    · rename_i j q
      obtain rfl := int_inv hx
      obtain rfl := int_inv hy
      cases hsh : isShift op with
      | true =>
        simp only [hsh, cond_true] at h
        have hp : plainV v = true := by cases op <;> first | (cases h; done) | (cases h; rfl)
        exact ⟨v, by simp only [Sem.run_bind, eqGuard_int, Result.andThen_ok, shF_sound op k j p q v t h]; rfl, .plain _ hp⟩
      | false =>
        simp only [hsh, cond_false] at h
        cases hk : kindEq k j with
        | false => simp [hk] at h
        | true =>
          simp only [hk, cond_true] at h
          have hkj : k = j := of_decide_eq_true hk
          subst hkj
          cases ho : opF op k p q with
          | some u =>
            simp [ho] at h
            subst h
            exact ⟨u, by simp only [Sem.run_bind, eqGuard_int, Result.andThen_ok, opF_sound op k p q u t ho]; rfl, .plain _ (opF_plain ho)⟩
          | none =>
            simp [ho] at h
            exact genBin_sound hC hx hy h
    · exact genBin_sound hC hx hy h
  · exact genBin_sound hC hx hy h

theorem bin_sound (hC : CtxOK ω C) (hs : SR B X m s w) (ht : TR m n a act) {op : BinOp} {t : TypeId} {x y : Operand} {r : R} (h : opBinOp op t x y C a s = some (r, s')) :
    OpOK C B X m s' w r ((do let z ← (do eqGuard op t x y (act.eval x) (act.eval y); binOp op t (act.eval x) (act.eval y) : Sem Value); pure (Next.value z) : Sem Next).run C.P w) := by
  unfold opBinOp at h
  cases h1 : opnd a x with
  | none => simp [h1] at h
  | some u =>
    cases h2 : opnd a y with
    | none => simp [h1, h2] at h
    | some v =>
      cases h3 : binV C op t x y u v with
      | none => simp [h1, h2, h3] at h
      | some z =>
        simp [h1, h2, h3] at h
        obtain ⟨rfl, rfl⟩ := h
        obtain ⟨v', hr, hv⟩ := binV_sound (w := w) hC (opnd_sound ht h1) (opnd_sound ht h2) h3
        exact VOK.op (VOK.same hs hr hv)
end
end Go.Proofs.YtekajggjoeimoaaGreatDoor.Ev
namespace Go.Proofs.YtekajggjoeimoaaGreatDoor.Ev
open Go.RowKit
variable {ω : Nat → Value}
section
variable {C : Ctx} {B : Nat} {X : Aux} {m : M ω} {s s' : AS} {w : World} {a : T Value} {act : Act} {n : Nat}

theorem nilCheck_sound (hs : SR B X m s w) (ht : TR m n a act) (o : Oper) {x : Operand} (ho : o.op = .nilCheck x) {r : R} (h : opNilCheck x C a s = some (r, s')) :
    OpOK C B X m s' w r ((execOp act.eval o).run C.P w) := by
  unfold opNilCheck at h
  cases h1 : opnd a x with
  | none => simp [h1] at h
  | some u =>
    have hu := opnd_sound ht h1
    rw [h1] at h
    have fin : ∀ y, act.eval x = y → (∀ f i c, y ≠ .func (.method f) i c) → y ≠ .pointer none → y ≠ .nilIface → y ≠ .nilFunc → VRel m u y → some (R.val u, s) = some (r, s') → OpOK C B X m s' w r ((execOp act.eval o).run C.P w) := by
      intro y hy h1 h2 h3 h4 hv he
      cases he
      refine ⟨.value y, w, m, ?_, Le.refl _, hs, Below.refl _ _, hv⟩
      unfold execOp
      simp only [ho, hy]
      first | rfl | (split <;> first | rfl | (simp_all; done))
    cases u <;> try (simp at h; done)
    · rename_i p
      cases p with
      | none => simp at h
      | some p => obtain ⟨p', hp, e⟩ := ptr_inv hu; exact fin _ e (by simp) (by simp) (by simp) (by simp) (e ▸ hu) h
    · rename_i p k c
      generalize hy : act.eval x = y at hu
      cases hu with
      | plain v hp => exact fin _ hy (by simp) (by simp) (by simp) (by simp) (.plain _ hp) h
      | slice b b' n c c' g1 g2 g3 => exact fin _ hy (by simp) (by simp) (by simp) (by simp) (.slice _ _ _ _ _ g1 g2 g3) h
      | slice0 b b' hb0 => exact fin _ hy (by simp) (by simp) (by simp) (by simp) (.slice0 _ _ hb0) h
    · rename_i p
      generalize hy : act.eval x = y at hu
      cases hu with
      | plain v hp => exact fin _ hy (by simp) (by simp) (by simp) (by simp) (.plain _ hp) h
      | map b i hm => exact fin _ hy (by simp) (by simp) (by simp) (by simp) (.map b i hm) h
    · rename_i fn f c
      generalize hy : act.eval x = y at hu
      cases hu with
      | plain v hp => simp [plainV] at hp
      | func f fs fs' cs cs' e1 e2 e3 e4 => exact fin _ hy (by simp) (by simp) (by simp) (by simp) (.func _ _ _ _ _ e1 e2 e3 e4) h
      | yield b i hm => simp at h
    · obtain ⟨u', hp, e⟩ := iface_inv hu; exact fin _ e (by simp) (by simp) (by simp) (by simp) (e ▸ hu) h

theorem unOp_sound (hs : SR B X m s w) (ht : TR m n a act) {op : UnOp} {x : Operand} {r : R} (h : opUnOp op x C a s = some (r, s')) :
    OpOK C B X m s' w r ((do let z ← Op.unary op (act.eval x); pure (Next.value z) : Sem Next).run C.P w) := by
  unfold opUnOp at h
  cases h1 : opnd a x with
  | none => simp [h1] at h
  | some u =>
    cases h2 : plainV u with
    | false => simp [h1, h2] at h
    | true =>
      cases h3 : pureRun C.P (Op.unary op u) with
      | none => simp [h1, h2, h3] at h
      | some z =>
        cases h4 : plainV z with
        | false => simp [h1, h2, h3, h4] at h
        | true =>
          simp [h1, h2, h3, h4] at h
          obtain ⟨rfl, rfl⟩ := h
          rw [plain_inv (opnd_sound ht h1) h2]
          exact VOK.op (VOK.same hs (pureRun_run _ _ h3 w) (.plain _ h4))

theorem makeInterface_sound (hC : CtxOK ω C) (hs : SR B X m s w) (ht : TR m n a act) {t : TypeId} {x : Operand} {r : R} (h : opMakeInterface t x C a s = some (r, s')) :
    OpOK C B X m s' w r ((do let z ← Instr.makeInterface t (act.eval x); pure (Next.value z) : Sem Next).run C.P w) := by
  unfold opMakeInterface at h
  cases h1 : opnd a x with
  | none => simp [h1] at h
  | some u =>
    cases h2 : C.un t with
    | none => simp [h1, h2] at h
    | some d =>
      have hd := hC.un t d h2
      refine (fun (key : some (R.val (.iface t u), s) = some (r, s') ∧ (Instr.makeInterface t (act.eval x)).run C.P w = .ok (.iface t (act.eval x)) w) => ?_) ?_
      · obtain ⟨he, hr⟩ := key
        cases he
        exact VOK.op (VOK.same hs hr (.iface t _ _ (opnd_sound ht h1)))
      · cases d <;> first | (simp [h1, h2] at h; done) | exact ⟨by simpa [h1, h2] using h, by simp [Instr.makeInterface, run_underlying hd]⟩

theorem makeFunc_sound (hs : SR B X m s w) (ht : TR m n a act) {f : FuncId} {fs cs : Array Operand} {r : R} (h : opMakeFunc f fs cs C a s = some (r, s')) :
    OpOK C B X m s' w r ((do let z ← Instr.makeFunc (.func f) (fs.map act.eval) (cs.map act.eval); pure (Next.value z) : Sem Next).run C.P w) := by
  unfold opMakeFunc at h
  cases h1 : opnds a fs.toList with
  | none => simp [h1] at h
  | some l =>
    cases h2 : opnds a cs.toList with
    | none => simp [h1, h2] at h
    | some k =>
      simp [h1, h2] at h
      obtain ⟨rfl, rfl⟩ := h
      have g1 := opnds_sound ht h1
      have g2 := opnds_sound ht h2
      have e1 : fs.map act.eval = (fs.toList.map act.eval).toArray := by apply Array.ext'; simp
      have e2 : cs.map act.eval = (cs.toList.map act.eval).toArray := by apply Array.ext'; simp
      rw [e1, e2]
      exact VOK.op (VOK.same hs rfl (.func f _ _ _ _ (by simpa using g1.1) (by simpa using g2.1) g1.arr g2.arr))

theorem makeMap_new (hB : B ≤ w.heap.size) {t : TypeId} {o : AObj} {f : Nat → Value} (h : alMakeMap C a = some (o, f)) :
    NewOK B m w o f ((do let z ← Instr.makeMap t none; pure (Next.value z) : Sem Next).run C.P w) := by
  unfold alMakeMap at h
  cases h
  exact ⟨.map (some w.heap.size), w.alloc (.map #[] 0), ⟨w.heap.size, 0, 0, 0, false, 0⟩, by simp [Instr.makeMap], rfl, by simp, fun k hk => Below.heap_alloc w _ k hk, (Below.refl _ _).alloc hB _,
    ⟨[], heap_alloc_new w _, rfl, fun k e e' h => by simp at h⟩, fun m' b hb => .map b _ hb⟩

theorem extract_sound (hs : SR B X m s w) (ht : TR m n a act) {x : Operand} {i : Nat} {r : R} (h : opExtract x i C a s = some (r, s')) :
    OpOK C B X m s' w r ((do let z ← Instr.extract (act.eval x) i; pure (Next.value z) : Sem Next).run C.P w) := by
  unfold opExtract at h
  cases h1 : opnd a x with
  | none => simp [h1] at h
  | some u =>
    have hu := opnd_sound ht h1
    rw [h1] at h
    cases u <;> try (simp at h; done)
    rename_i vs
    generalize hy : act.eval x = y at hu
    cases hu with
    | plain v hp => simp [plainV] at hp
    | tuple cs cs' hsz hrel =>
      cases h2 : vs.toList[i]? with
      | none => simp [h2] at h
      | some v =>
        simp only [h2, Option.some.injEq, Prod.mk.injEq] at h
        obtain ⟨rfl, rfl⟩ := h
        have hi : i < vs.size := by have := (List.getElem?_eq_some_iff.1 h2).1; simpa using this
        have e1 := arr_getD vs i hi
        rw [h2] at e1; cases e1
        have e2 : cs'[i]? = some (cs'.getD i undef) := by rw [← Array.getElem?_toList]; exact arr_getD cs' i (by omega)
        exact VOK.op (VOK.same hs (v' := cs'.getD i undef) (by simp only [Instr.extract, e2]; rfl) (hrel i hi))

theorem addr_add {p p' : Addr} {k : Nat} (h : ARel m p p') : ARel m ⟨p.block, p.off + k, p.spot⟩ (p'.add k) := by
  obtain ⟨h1, i, h2, rfl⟩ := h
  refine ⟨h1, i, h2, ?_⟩
  rw [add_lit]; simp; omega

theorem fieldAddr_sound (hC : CtxOK ω C) (hs : SR B X m s w) (ht : TR m n a act) {t : TypeId} {x : Operand} {f : Nat} {r : R} (h : opFieldAddr t x f C a s = some (r, s')) :
    OpOK C B X m s' w r ((do let z ← Instr.fieldAt t (act.eval x) f; pure (Next.value z) : Sem Next).run C.P w) := by
  unfold opFieldAddr at h
  split at h
  · rename_i fs p hu hx
    obtain ⟨p', hp, he⟩ := ptr_inv (opnd_sound ht hx)
    have hun := hC.un t _ hu
    split at h
    · rename_i fl hf
      split at h
      · cases h
      · rename_i k hne hk
        cases h
        obtain ⟨i, hi, rfl⟩ := sizeT_sound hC hk
        have hf' : fs[f]? = some fl := by unfold fieldAt at hf; simpa using hf
        have hz : ¬ i.size = 0 := hne
        exact VOK.op (VOK.same hs (v' := .pointer (some (p'.add fl.offset))) (by simp [Instr.fieldAt, run_underlying hun, hf', he, Instr.sureAddr, fieldPlace, sizeOf, typeInfo, hi, hz]) (.ptr _ _ (addr_add hp)))
      · cases h
    · cases h
  · cases h

theorem indexAddr_sound (hC : CtxOK ω C) (hs : SR B X m s w) (ht : TR m n a act) {t : TypeId} {x i : Operand} {r : R} (h : opIndexAddr t x i C a s = some (r, s')) :
    OpOK C B X m s' w r ((do let z ← Instr.indexAt t (act.eval x) (act.eval i); pure (Next.value z) : Sem Next).run C.P w) := by
  unfold opIndexAddr at h
  split at h
  · rename_i e p k c kk q hu hx hi
    obtain ⟨p', c', he, hor⟩ := slice_inv (opnd_sound ht hx)
    have hi' := int_inv (opnd_sound ht hi)
    have hun := hC.un t _ hu
    split at h
    · rename_i sz hz
      split at h
      · rename_i hb
        cases h
        obtain ⟨ti, hti, rfl⟩ := sizeT_sound hC hz
        rcases hor with ⟨hp, _, _⟩ | ⟨rfl, _, _⟩
        · exact VOK.op (VOK.same hs (v' := .pointer (some (p'.add (q.toNat * ti.size)))) (by simp [Instr.indexAt, run_underlying hun, he, hi', asIntOf, sizeOf, typeInfo, hti, hb.1, hb.2]) (.ptr _ _ (addr_add hp)))
        · omega
      · cases h
    · cases h
  · rename_i k e p kk q hu hx hi
    obtain ⟨p', hp, he⟩ := ptr_inv (opnd_sound ht hx)
    have hi' := int_inv (opnd_sound ht hi)
    have hun := hC.un t _ hu
    split at h
    · rename_i sz hz
      split at h
      · rename_i hb
        cases h
        obtain ⟨ti, hti, rfl⟩ := sizeT_sound hC hz
        exact VOK.op (VOK.same hs (v' := .pointer (some (p'.add (q.toNat * ti.size)))) (by simp [Instr.indexAt, run_underlying hun, he, hi', asIntOf, Instr.sureAddr, sizeOf, typeInfo, hti, hb.1, hb.2]) (.ptr _ _ (addr_add hp)))
      · cases h
    · cases h
  · cases h
end
end Go.Proofs.YtekajggjoeimoaaGreatDoor.Ev
namespace Go.Proofs.YtekajggjoeimoaaGreatDoor.Ev
open Go.RowKit
variable {ω : Nat → Value}
section
variable {C : Ctx} {B : Nat} {X : Aux} {m : M ω} {s s' : AS} {w : World} {a : T Value} {act : Act} {n : Nat}

/-- A slice's own bounds. -/
theorem bnd_sound (ht : TR m n a act) {x : Option Operand} {v : Option Int} (h : bnd a x = some v) :
    (x = none ∧ v = none) ∨ ∃ o k q, x = some o ∧ v = some q ∧ act.eval o = .int k q := by
  cases x with
  | none => simp [bnd] at h; exact .inl ⟨rfl, h.symm⟩
  | some o =>
    simp only [bnd] at h
    cases h1 : opnd a o with
    | none => simp [h1] at h
    | some u =>
      rw [h1] at h
      cases u <;> try (simp at h; done)
      rename_i k q
      simp at h
      exact .inr ⟨o, k, q, rfl, h.symm, int_inv (opnd_sound ht h1)⟩

theorem chk_sound {v : Int} {y i : Nat} (h : chk v y = some i) (k : IntKind) (code : BoundsCode) : (Instr.sliceBound (.int k v) y code).run C.P w = .ok i w := by
  unfold chk at h
  split at h
  · rename_i hb
    cases h
    simp [Instr.sliceBound, asIntOf, hb.1, hb.2]
  · cases h

theorem cut_sound (ht : TR m n a act) (isSl : Bool) {k c : Nat} {lo hi mx : Option Operand} {l h x : Option Int} (h1 : bnd a lo = some l) (h2 : bnd a hi = some h) (h3 : bnd a mx = some x) {r : Nat × Nat × Nat} (hc : cut k c l h x = some r) :
    (Instr.sliceBounds isSl k c (lo.map act.eval) (hi.map act.eval) (mx.map act.eval)).run C.P w = .ok r w := by
  rcases bnd_sound ht h3 with ⟨rfl, rfl⟩ | ⟨ox, kx, qx, rfl, rfl, ex⟩
  · simp only [cut] at hc
    rcases bnd_sound ht h2 with ⟨rfl, rfl⟩ | ⟨oh, kh, qh, rfl, rfl, eh⟩
    · simp only [cutHi] at hc
      rcases bnd_sound ht h1 with ⟨rfl, rfl⟩ | ⟨ol, kl, ql, rfl, rfl, el⟩
      · simp only [cutLo, Option.some.injEq] at hc
        subst hc
        simp [Instr.sliceBounds]
      · simp only [cutLo] at hc
        split at hc
        · rename_i i hi
          simp only [Option.some.injEq] at hc
          subst hc
          simp [Instr.sliceBounds, el, chk_sound (C := C) (w := w) hi kl]
        · cases hc
    · simp only [cutHi] at hc
      split at hc
      · rename_i hh hq
        rcases bnd_sound ht h1 with ⟨rfl, rfl⟩ | ⟨ol, kl, ql, rfl, rfl, el⟩
        · simp only [cutLo, Option.some.injEq] at hc
          subst hc
          simp [Instr.sliceBounds, eh, chk_sound (C := C) (w := w) hq kh]
        · simp only [cutLo] at hc
          split at hc
          · rename_i i hi
            simp only [Option.some.injEq] at hc
            subst hc
            simp [Instr.sliceBounds, el, chk_sound (C := C) (w := w) hi kl, eh, chk_sound (C := C) (w := w) hq kh]
          · cases hc
      · cases hc
  · simp only [cut] at hc
    split at hc
    · rename_i mm uu hq
      rcases bnd_sound ht h2 with ⟨rfl, e⟩ | ⟨oh, kh, qh, rfl, e, eh⟩
      · cases e
      · cases e
        simp only [cutHi] at hc
        split at hc
        · rename_i hh hq2
          rcases bnd_sound ht h1 with ⟨rfl, rfl⟩ | ⟨ol, kl, ql, rfl, rfl, el⟩
          · simp only [cutLo, Option.some.injEq] at hc
            subst hc
            simp [Instr.sliceBounds, eh, ex, chk_sound (C := C) (w := w) hq kx, chk_sound (C := C) (w := w) hq2 kh]
          · simp only [cutLo] at hc
            split at hc
            · rename_i i hi
              simp only [Option.some.injEq] at hc
              subst hc
              simp [Instr.sliceBounds, el, chk_sound (C := C) (w := w) hi kl, eh, ex, chk_sound (C := C) (w := w) hq kx, chk_sound (C := C) (w := w) hq2 kh]
            · cases hc
        · cases hc
    · cases hc

theorem chk_le {v : Int} {y i : Nat} (h : chk v y = some i) : i ≤ y := by
  unfold chk at h
  split at h
  · cases h; omega
  · cases h
theorem cut_le {k c : Nat} {lo hi mx : Option Int} {i j q : Nat} (hk : k ≤ c) (h : cut k c lo hi mx = some (i, j, q)) : i ≤ j ∧ j ≤ q ∧ q ≤ c ∧ (mx = none → q = c) := by
  have low : ∀ (hh mm : Nat), cutLo hh mm lo = some (i, j, q) → i ≤ hh ∧ j = hh ∧ q = mm := by
    intro hh mm hr
    cases lo with
    | none => simp [cutLo] at hr; omega
    | some v =>
      simp only [cutLo] at hr
      split at hr
      · rename_i x hx; simp at hr; have := chk_le hx; omega
      · cases hr
  cases mx with
  | none =>
    simp only [cut] at h
    cases hi with
    | none => simp only [cutHi] at h; have := low _ _ h; exact ⟨by omega, by omega, by omega, fun _ => by omega⟩
    | some v =>
      simp only [cutHi] at h
      split at h
      · rename_i x hx; have := chk_le hx; have := low _ _ h; exact ⟨by omega, by omega, by omega, fun _ => by omega⟩
      · cases h
  | some v =>
    simp only [cut] at h
    split at h
    · rename_i mm uu hq
      simp only [cutHi] at h
      split at h
      · rename_i x hx; have := chk_le hx; have := chk_le hq; have := low _ _ h; exact ⟨by omega, by omega, by omega, fun e => by cases e⟩
      · cases h
    · cases h

/-- More room behind: the same cut. -/
theorem cut_wider {k c c' : Nat} {lo hi mx : Option Int} {i j q : Nat} (hc : c ≤ c') (h : cut k c lo hi mx = some (i, j, q)) : ∃ q', cut k c' lo hi mx = some (i, j, q') ∧ (q = q' ∨ (q = c ∧ q' = c')) := by
  have chkw : ∀ (v : Int) (x : Nat), chk v c = some x → chk v c' = some x := by
    intro v x hx
    unfold chk at hx ⊢
    split at hx
    · cases hx; rw [if_pos (by omega)]
    · cases hx
  have low : ∀ (hh mm mm' : Nat) (l : Option Int), cutLo hh mm l = some (i, j, q) → q = mm ∧ cutLo hh mm' l = some (i, j, mm') := by
    intro hh mm mm' l hr
    cases l with
    | none => simp [cutLo] at hr ⊢; omega
    | some v =>
      simp only [cutLo] at hr ⊢
      split at hr
      · rename_i x hx; simp at hr ⊢; omega
      · cases hr
  cases mx with
  | none =>
    simp only [cut] at h ⊢
    cases hi with
    | none => simp only [cutHi] at h ⊢; obtain ⟨e, h'⟩ := low _ _ c' _ h; exact ⟨c', h', .inr ⟨e, rfl⟩⟩
    | some v =>
      simp only [cutHi] at h ⊢
      split at h
      · rename_i x hx; rw [chkw v x hx]; obtain ⟨e, h'⟩ := low _ _ c' _ h; exact ⟨c', h', .inr ⟨e, rfl⟩⟩
      · cases h
  | some v =>
    simp only [cut] at h ⊢
    split at h
    · rename_i mm uu hq; rw [chkw v mm hq]; exact ⟨q, h, .inl rfl⟩
    · cases h

/-- A slice that was cut out of another one. -/
theorem cut_rel {p p' : Addr} {c c' i j q sz : Nat} (ha : ARel m p p') (hle : i ≤ j ∧ j ≤ q) (hq : q ≤ c) (q' : Nat) (h : q = q' ∨ (q = c ∧ q' = c' ∧ CRel m p c c' ∧ ∀ x, m p.block = some x → x.opn = true → x.esz = sz)) :
    VRel m (.slice (some ⟨p.block, p.off + i * sz, p.spot⟩) (j - i) (q - i)) (.slice (if q' = i then some p' else some (p'.add (i * sz))) (j - i) (q' - i)) := by
  have hqq : q ≤ q' := by
    rcases h with rfl | ⟨rfl, rfl, hc, _⟩
    · exact Nat.le_refl _
    · rcases hc with rfl | ⟨h, _⟩
      · exact Nat.le_refl _
      · exact h
  by_cases hi : q' = i
  · rw [if_pos hi, show j - i = 0 by omega, show q - i = 0 by omega, show q' - i = 0 by omega]
    exact .slice0 _ _ (ha.2.imp fun i hi => hi.1)
  · rw [if_neg hi]
    refine .slice _ _ _ _ _ (addr_add ha) ?_ (by omega)
    rcases h with rfl | ⟨rfl, rfl, hc, hx⟩
    · exact .inl rfl
    · rcases hc with rfl | ⟨h1, x, h2, h3, h4, h5⟩
      · exact .inl rfl
      · have he := hx x h2 h3
        refine .inr ⟨by omega, x, h2, h3, ?_, ?_⟩
        · show p.off + i * sz + (q - i) * x.esz = x.len
          rw [he] at h4 ⊢
          rw [Nat.add_assoc, ← Nat.add_mul, show i + (q - i) = q by omega]; exact h4
        · show x.d + (p.off + i * sz) + (q' - i) * x.esz ≤ x.tot
          rw [he] at h5 ⊢
          have : i * sz + (q' - i) * sz = q' * sz := by rw [← Nat.add_mul]; congr 1; omega
          omega

theorem slice_sound (hC : CtxOK ω C) (hs : SR B X m s w) (ht : TR m n a act) {t : TypeId} {x : Operand} {lo hi mx : Option Operand} {r : R} (h : opSlice t x lo hi mx C a s = some (r, s')) :
    OpOK C B X m s' w r ((do let z ← Instr.sliceAt t (act.eval x) (lo.map act.eval) (hi.map act.eval) (mx.map act.eval); pure (Next.value z) : Sem Next).run C.P w) := by
  unfold opSlice at h
  split at h
  · rename_i v l hh mm hx h1 h2 h3
    have hv := opnd_sound ht hx
    split at h
    · rename_i e p k c hu
      have hun := hC.un t _ hu
      split at h
      · rename_i i j q sz hcut hsz
        obtain ⟨ti, hti, rfl⟩ := sizeT_sound hC hsz
        split at h
        · cases h
          generalize hy : act.eval x = y at hv
          cases hv with
          | plain v hp =>
            have hkc : k = 0 ∧ c = 0 := by
              cases k <;> cases c <;> simp [plainV] at hp <;> exact ⟨rfl, rfl⟩
            obtain ⟨rfl, rfl⟩ := hkc
            have hb := cut_sound (C := C) (w := w) ht true h1 h2 h3 hcut
            have hle := cut_le (Nat.le_refl 0) hcut
            have e1 : i = 0 := by omega
            have e2 : j = 0 := by omega
            have e3 : q = 0 := by omega
            subst e1 e2 e3
            exact VOK.op (VOK.same hs (v' := .slice none 0 0) (by simp [Instr.sliceAt, Instr.slice, run_underlying hun, hb, sizeOf, typeInfo, hti]) (.plain _ rfl))
        · rename_i ad
          obtain ⟨p', c', hy, hor⟩ := slice_inv hv
          have fin : ∀ (hb : ∃ k, blkAt s ad.block = some k ∧ (k.opn = true → k.esz = ti.size)), some (R.val (.slice (some ⟨ad.block, ad.off + i * ti.size, ad.spot⟩) (j - i) (q - i)), s) = some (r, s') →
              OpOK C B X m s' w r ((do let z ← Instr.sliceAt t (act.eval x) (lo.map act.eval) (hi.map act.eval) (mx.map act.eval); pure (Next.value z) : Sem Next).run C.P w) := by
            rintro ⟨kb, hkb, hez⟩ he
            cases he
            obtain ⟨ib, g1⟩ := slice_map hv
            obtain ⟨g2, ⟨g3, g4, g5, _⟩, _, _⟩ := blk_at hs hkb g1
            rcases hor with ⟨hp, hcr, hkc⟩ | ⟨rfl, rfl, rfl⟩
            · have hle := cut_le hkc hcut
              -- the bounds, as the world has them
              obtain ⟨q', hb', hq'⟩ : ∃ q', (Instr.sliceBounds true k c' (lo.map act.eval) (hi.map act.eval) (mx.map act.eval)).run C.P w = .ok (i, j, q') w ∧ (q = q' ∨ (q = c ∧ q' = c')) := by
                rcases hcr with rfl | ⟨hcc, _⟩
                · exact ⟨q, cut_sound (C := C) (w := w) ht true h1 h2 h3 hcut, .inl rfl⟩
                · obtain ⟨q', h4, h5⟩ := cut_wider hcc hcut
                  exact ⟨q', cut_sound (C := C) (w := w) ht true h1 h2 h3 h4, h5⟩
              refine VOK.op (VOK.same hs (v' := .slice (if q' = i then some p' else some (p'.add (i * ti.size))) (j - i) (q' - i)) ?_ ?_)
              · simp [Instr.sliceAt, Instr.slice, run_underlying hun, hy, hb', sizeOf, typeInfo, hti]
              · refine cut_rel (c' := c') hp ⟨hle.1, hle.2.1⟩ hle.2.2.1 q' ?_
                rcases hq' with e | ⟨e1, e2⟩
                · exact .inl e
                · exact .inr ⟨e1, e2, hcr, fun x hx ho => by rw [g1] at hx; cases hx; rw [g5]; exact hez (by rw [← g4]; exact ho)⟩
            · have hb := cut_sound (C := C) (w := w) ht true h1 h2 h3 hcut
              have hle := cut_le (Nat.le_refl 0) hcut
              have e1 : i = 0 := by omega
              have e2 : j = 0 := by omega
              have e3 : q = 0 := by omega
              subst e1 e2 e3
              exact VOK.op (VOK.same hs (v' := .slice (some p') 0 0) (by simp [Instr.sliceAt, Instr.slice, run_underlying hun, hy, hb, sizeOf, typeInfo, hti]) (.slice0 _ _ ⟨ib, g1⟩))
          split at h
          · rename_i kb hkb
            cases ho : kb.opn with
            | false => rw [ho] at h; exact fin ⟨kb, hkb, fun e => by rw [ho] at e; cases e⟩ h
            | true =>
              rw [ho] at h
              cases hz : Nat.beq kb.esz ti.size with
              | false => rw [hz] at h; cases h
              | true => rw [hz] at h; exact fin ⟨kb, hkb, fun _ => Nat.eq_of_beq_eq_true hz⟩ h
          · cases h
      · cases h
    · rename_i b hu
      have hun := hC.un t _ hu
      have hy := str_inv hv
      split at h
      · rename_i i j q hcut
        cases h
        rcases bnd_sound ht h3 with ⟨rfl, _⟩ | ⟨_, _, _, _, e, _⟩
        · have hb := cut_sound (C := C) (w := w) (mx := none) ht false h1 h2 h3 hcut
          exact VOK.op (VOK.same hs (v' := .string (b.extract i j)) (by simp at hb; simp [Instr.sliceAt, Instr.slice, run_underlying hun, hy, hb]) (.plain _ rfl))
        · cases e
      · cases h
    · rename_i k e ad hu
      have hun := hC.un t _ hu
      obtain ⟨p', hp, hy⟩ := ptr_inv hv
      split at h
      · rename_i i j q sz hcut hsz
        cases h
        obtain ⟨ti, hti, rfl⟩ := sizeT_sound hC hsz
        have hb := cut_sound (C := C) (w := w) ht false h1 h2 h3 hcut
        have hle := cut_le (Nat.le_refl _) hcut
        refine VOK.op (VOK.same hs (v' := .slice (if q = i then some p' else some (p'.add (i * ti.size))) (j - i) (q - i)) ?_ (cut_rel (c' := q) hp ⟨hle.1, hle.2.1⟩ (Nat.le_refl _) q (.inl rfl)))
        simp [Instr.sliceAt, run_underlying hun, hy, Instr.sureAddr, hb, sizeOf, typeInfo, hti]
        split <;> rfl
      · cases h
    · cases h
  · cases h

theorem repL_len (z : List Value) : ∀ k, (repL k z).length = k * z.length
  | 0 => by simp [repL]
  | k + 1 => by rw [repL, List.length_append, repL_len z k, Nat.add_mul]; omega
theorem repL_get (z : List Value) : ∀ (k i : Nat), i < k * z.length → (repL k z)[i]? = z[i % z.length]?
  | 0, i, h => by simp at h
  | k + 1, i, h => by
    rw [repL]
    by_cases hi : i < z.length
    · rw [List.getElem?_append_left hi, Nat.mod_eq_of_lt hi]
    · rw [List.getElem?_append_right (by omega), repL_get z k (i - z.length) (by rw [Nat.add_mul] at h; omega)]
      congr 1
      rw [← Nat.mod_eq_sub_mod (by omega)]
theorem repL_plain (z : List Value) (h : z.all plainV = true) : ∀ k, (repL k z).all plainV = true
  | 0 => rfl
  | k + 1 => by rw [repL, List.all_append, h, repL_plain z h k]; rfl

/-- The cells of so many zero values, as the model writes them. -/
theorem rep_arr (z : Array Value) (k : Nat) : (Array.range (k * z.size)).map (fun i => z[i % z.size]!) = (repL k z.toList).toArray := by
  apply Array.ext'
  apply List.ext_getElem?
  intro i
  by_cases hi : i < k * z.size
  · have hz : 0 < z.size := by rcases Nat.eq_zero_or_pos z.size with h | h
                               · rw [h] at hi; simp at hi
                               · exact h
    have hm : i % z.size < z.size := Nat.mod_lt _ hz
    show _ = (repL k z.toList)[i]?
    rw [repL_get z.toList k i (by simpa using hi)]
    simp [hi, hm]
  · rw [List.getElem?_eq_none (by simp; omega), List.getElem?_eq_none (by simp [repL_len]; omega)]

theorem makeSlice_new (hC : CtxOK ω C) (ht : TR m n a act) (hB : B ≤ w.heap.size) {t : TypeId} {l c : Operand} {o : AObj} {f : Nat → Value} (h : alMakeSlice t l c C a = some (o, f)) :
    NewOK B m w o f ((do let z ← Instr.makeSlice t (act.eval l) (act.eval c); pure (Next.value z) : Sem Next).run C.P w) := by
  unfold alMakeSlice at h
  split at h
  · rename_i e kq q kk k hu hl hc
    have hun := hC.un t _ hu
    have hl' := int_inv (opnd_sound ht hl)
    have hc' := int_inv (opnd_sound ht hc)
    split at h
    · rename_i ti z hti hz
      split at h
      · rename_i hb
        simp only [Option.some.injEq, Prod.mk.injEq] at h
        obtain ⟨rfl, rfl⟩ := h
        obtain ⟨i, v, hi, hzv, rfl, hp, hlen⟩ := zeroC_sound hC hz
        have hti' := hC.ty _ _ hti
        rw [hi] at hti'; cases hti'
        refine ⟨.slice (some ⟨w.heap.size, 0, none⟩) q.toNat k.toNat, w.alloc (.cells (repL k.toNat (cellsOf v)).toArray e), _, ?_, rfl, by simp, fun k hk => Below.heap_alloc w _ k hk, (Below.refl _ _).alloc hB _,
          blk_new (LRel.plain (m := m) (repL_plain _ hp k.toNat)) e 0, fun m' b hb => .slice _ _ _ _ _ ⟨rfl, _, hb, rfl⟩ (.inl rfl) (by omega)⟩
        have hby : (ti.bytes : Int) * k ≤ 281474976710656 := by
          have h1 : (ti.bytes : Int) * k ≤ 1000000 * 1000000 := Int.mul_le_mul (by omega) hb.2.2.1 (by omega) (by omega)
          omega
        have hsz : v.cells.size = ti.size := by rw [cells_arr, hlen]; simp
        have hmk := run_make (P := C.P) w t e ti v hun hi hzv kq kk q k hb.1 hb.2.1 hby (by omega)
        rw [hl', hc']
        simp only [Sem.run_bind, hmk, Result.andThen, Sem.run_pure]
        unfold madeCells
        rw [← hsz, rep_arr, cells_list]
      · cases h
    · cases h
  · cases h
end
end Go.Proofs.YtekajggjoeimoaaGreatDoor.Ev
namespace Go.Proofs.YtekajggjoeimoaaGreatDoor.Ev
open Go.RowKit
variable {ω : Nat → Value}
section
variable {C : Ctx} {B : Nat} {X : Aux} {m : M ω} {s s' : AS} {w : World} {a : T Value} {act : Act} {n : Nat}

theorem agg_inv {cs : Array Value} {v : Value} (h : VRel m (.agg cs) v) : ∃ cs', v = .agg cs' ∧ LRel m cs.toList cs'.toList := by
  cases h with
  | plain v h => simp [plainV] at h
  | agg cs cs' hs h => exact ⟨cs', rfl, LRel.of_arr hs h⟩

theorem LRel.drop {l l' : List Value} (h : LRel m l l') (k : Nat) : LRel m (l.drop k) (l'.drop k) :=
  ⟨by simp [h.1], fun i a b ha hb => h.2 (k + i) a b (by rwa [List.getElem?_drop] at ha) (by rwa [List.getElem?_drop] at hb)⟩
theorem LRel.take {l l' : List Value} (h : LRel m l l') (k : Nat) : LRel m (l.take k) (l'.take k) :=
  ⟨by simp [h.1], fun i a b ha hb => by
    rw [List.getElem?_take] at ha hb
    split at ha
    · rename_i hi; rw [if_pos hi] at hb; exact h.2 i a b ha hb
    · cases ha⟩
theorem LRel.at_ {l l' : List Value} (h : LRel m l l') {k : Nat} {v : Value} (hv : l[k]? = some v) : ∃ v', l'[k]? = some v' ∧ VRel m v v' := by
  have hk := (List.getElem?_eq_some_iff.1 hv).1
  have hk' : k < l'.length := by rw [← h.1]; exact hk
  exact ⟨l'[k], List.getElem?_eq_getElem hk', h.2 k _ _ hv (List.getElem?_eq_getElem hk')⟩

theorem part_sound (hC : CtxOK ω C) {t : TypeId} {cs cs' : Array Value} (hl : LRel m cs.toList cs'.toList) {off : Nat} {v : Value}
    (h : (match isAggT C t, sizeT C t with
        | some true, some k => some (.agg ((cs.toList.drop off).take k).toArray)
        | some false, _ => cs.toList[off]?
        | _, _ => none) = some v) : ∃ v', (part t cs' off).run C.P w = .ok v' w ∧ VRel m v v' := by
  cases h1 : isAggT C t with
  | none => simp [h1] at h
  | some b =>
    cases b with
    | true =>
      cases h2 : sizeT C t with
      | none => simp [h1, h2] at h
      | some k =>
        simp only [h1, h2, Option.some.injEq] at h
        subst h
        obtain ⟨i, hi, rfl⟩ := sizeT_sound hC h2
        refine ⟨.agg ((cs'.toList.drop off).take i.size).toArray, ?_, (LRel.take (LRel.drop hl off) i.size).agg⟩
        have e : cs'.extract off (off + i.size) = ((cs'.toList.drop off).take i.size).toArray := by
          apply Array.ext'
          rw [Array.toList_extract]
          simp [List.extract_eq_take_drop]
        simp [part, isAgg_sound hC h1, sizeOf, typeInfo, hi, e]
    | false =>
      simp only [h1] at h
      obtain ⟨v', h2, h3⟩ := hl.at_ h
      refine ⟨v', ?_, h3⟩
      have e : cs'[off]? = some v' := by rw [← Array.getElem?_toList]; exact h2
      simp [part, isAgg_sound hC h1, e]

theorem field_sound (hC : CtxOK ω C) (hs : SR B X m s w) (ht : TR m n a act) {t : TypeId} {x : Operand} {f : Nat} {r : R} (h : opField t x f C a s = some (r, s')) :
    OpOK C B X m s' w r ((do let z ← Instr.field t (act.eval x) f; pure (Next.value z) : Sem Next).run C.P w) := by
  unfold opField at h
  split at h
  · rename_i fs cs hu hx
    have hun := hC.un t _ hu
    obtain ⟨cs', hy, hl⟩ := agg_inv (opnd_sound ht hx)
    split at h
    · rename_i fl hf
      have hf' : fs[f]? = some fl := by unfold fieldAt at hf; simpa using hf
      have go : ∀ v, (match isAggT C fl.type, sizeT C fl.type with
          | some true, some k => some (.agg ((cs.toList.drop fl.offset).take k).toArray)
          | some false, _ => cs.toList[fl.offset]?
          | _, _ => none) = some v → some (R.val v, s) = some (r, s') → OpOK C B X m s' w r ((do let z ← Instr.field t (act.eval x) f; pure (Next.value z) : Sem Next).run C.P w) := by
        intro v hv he
        cases he
        obtain ⟨v', hr, hrel⟩ := part_sound (w := w) hC hl hv
        exact VOK.op (VOK.same hs (by simp [Instr.field, run_underlying hun, hf', hy, asAgg, hr]) hrel)
      split at h
      · rename_i k h1 h2
        exact go _ (by rw [h1, h2]) h
      · rename_i _ h1
        split at h
        · rename_i v hv
          exact go v (by rw [h1]; exact hv) h
        · cases h
      · cases h
    · cases h
  · cases h

theorem index_sound (hC : CtxOK ω C) (hs : SR B X m s w) (ht : TR m n a act) {t : TypeId} {x i : Operand} {r : R} (h : opIndex t x i C a s = some (r, s')) :
    OpOK C B X m s' w r ((do let z ← Instr.index t (act.eval x) (act.eval i); pure (Next.value z) : Sem Next).run C.P w) := by
  unfold opIndex at h
  split at h
  · rename_i b kk q hu hx hi
    have hun := hC.un t _ hu
    have hy := str_inv (opnd_sound ht hx)
    have hi' := int_inv (opnd_sound ht hi)
    split at h
    · rename_i hq
      split at h
      · rename_i c hc
        cases h
        exact VOK.op (VOK.same hs (v' := .int .u8 c.toNat) (by simp [Instr.index, run_underlying hun, hy, hi', asIntOf, hq, hc]) (.plain _ rfl))
      · cases h
    · cases h
  · rename_i k e cs kk q hu hx hi
    have hun := hC.un t _ hu
    obtain ⟨cs', hy, hl⟩ := agg_inv (opnd_sound ht hx)
    have hi' := int_inv (opnd_sound ht hi)
    split at h
    · rename_i hq
      split at h
      · rename_i sz h1 h2
        cases h
        obtain ⟨ti, hti, e2⟩ := sizeT_sound hC h2
        obtain ⟨v', hr, hrel⟩ := part_sound (w := w) (off := q.toNat * ti.size) (v := .agg ((cs.toList.drop (q.toNat * sz)).take sz).toArray) hC hl (by rw [h1, h2, e2])
        exact VOK.op (VOK.same hs (by simp [Instr.index, run_underlying hun, hy, hi', asIntOf, hq.1, hq.2, sizeOf, typeInfo, hti, hr]) hrel)
      · rename_i sz h1 h2
        obtain ⟨ti, hti, e2⟩ := sizeT_sound hC h2
        split at h
        · rename_i v hv
          cases h
          obtain ⟨v', hr, hrel⟩ := part_sound (w := w) (off := q.toNat * ti.size) (v := v) hC hl (by rw [h1, e2]; exact hv)
          exact VOK.op (VOK.same hs (by simp [Instr.index, run_underlying hun, hy, hi', asIntOf, hq.1, hq.2, sizeOf, typeInfo, hti, hr]) hrel)
        · cases h
      · cases h
    · cases h
  · cases h

theorem least_none {l : List String} : Instr.least l = none ↔ l = [] := by cases l <;> simp [Instr.least]
theorem missB_none {want : Array (String × TypeId)} {got : Array Method} : missB want got = false ↔ Instr.missingMethod want got = none := by
  unfold missB Instr.missingMethod
  simp only [Option.orElse_eq_orElse, Option.orElse_eq_or, Option.or_eq_none_iff, least_none, List.map_eq_nil_iff, List.partition_eq_filter_filter]
  rw [Bool.not_eq_false', List.all_eq_true]
  constructor
  · intro h
    have e : want.toList.filter (fun x => !got.any fun m => m.name == x.1 && m.sig == x.2) = [] := by
      rw [List.filter_eq_nil_iff]
      intro p hp
      have := h p hp
      unfold hasM at this
      simpa using this
    exact ⟨by simp [e], by simp [e]⟩
  · rintro ⟨h1, h2⟩ p hp
    unfold hasM
    cases hg : got.toList.any fun m => m.name == p.1 && m.sig == p.2 with
    | true => rfl
    | false =>
      exfalso
      have hm : p.1 ∈ (want.toList.filter (fun x => !got.any fun m => m.name == x.1 && m.sig == x.2)).map (·.1) := List.mem_map.2 ⟨p, List.mem_filter.2 ⟨hp, by simpa using hg⟩, rfl⟩
      rw [List.filter_eq_nil_iff] at h1 h2
      have a1 := h1 _ hm
      have a2 := h2 _ hm
      cases hc : p.1.contains (Char.ofNat 46) with
      | true => exact a2 hc
      | false => exact a1 (by show (!(p.1.contains (Char.ofNat 46))) = true; rw [hc]; rfl)
theorem typeAssert_sound (hC : CtxOK ω C) (hs : SR B X m s w) (ht : TR m n a act) {x : Operand} {xt t : TypeId} {ok : Bool} {r : R} (h : opTypeAssert x t ok C a s = some (r, s')) :
    OpOK C B X m s' w r ((do let z ← Instr.typeAssert (act.eval x) xt t ok; pure (Next.value z) : Sem Next).run C.P w) := by
  have two : ∀ {u u' : Value} (b : Bool), VRel m u u' → VRel m (.tuple #[u, .bool b]) (.tuple #[u', .bool b]) := fun b hv =>
    (LRel.cons hv (LRel.cons (.plain (.bool b) rfl) (LRel.nil m))).tuple
  have holds : ∀ {u u' : Value}, VRel m u u' → VRel m (cond ok (.tuple #[u, .bool true]) u) (if ok then .tuple #[u', .bool true] else u') := fun hv => by
    cases ok
    · exact hv
    · exact two true hv
  have fail : failA C t ok s = some (r, s') → ∃ z, ok = true ∧ r = .val (.tuple #[z, .bool false]) ∧ s' = s ∧ VRel m (.tuple #[z, .bool false]) (.tuple #[z, .bool false]) ∧ (zeroValue t).run C.P w = .ok z w := by
    intro h
    unfold failA at h
    split at h
    · rename_i ti hti
      split at h
      · rename_i z hz
        cases hk : (ok && closedV z) with
        | false => simp [hk] at h
        | true =>
          simp only [hk, cond_true, Option.some.injEq, Prod.mk.injEq] at h
          obtain ⟨rfl, rfl⟩ := h
          rw [Bool.and_eq_true] at hk
          have hti' := hC.ty _ _ hti
          exact ⟨z, hk.1, rfl, rfl, two false (closed_refl hk.2), by simp [zeroValue, typeInfo, hti', hz]⟩
      · cases h
    · cases h
  unfold opTypeAssert at h
  split at h
  · cases h
  · rename_i u v want hx hu
    have hun := hC.un t _ hu
    obtain ⟨v', hv, hy⟩ := iface_inv (opnd_sound ht hx)
    split at h
    · rename_i ui hui
      have hti := hC.ty _ _ hui
      split at h
      · rename_i hm
        rw [missB_none] at hm
        cases h
        exact VOK.op (VOK.same hs (v' := if ok then .tuple #[.iface u v', .bool true] else .iface u v') (by simp [Instr.typeAssert, run_underlying hun, hy, typeInfo, hti, hm]) (holds (.iface u _ _ hv)))
      · rename_i hm
        obtain ⟨mm, hm⟩ : ∃ mm, Instr.missingMethod want ui.methods = some mm := by
          cases hq : Instr.missingMethod want ui.methods with
          | some mm => exact ⟨mm, rfl⟩
          | none => rw [missB_none.2 hq] at hm; cases hm
        obtain ⟨z, rfl, rfl, rfl, hz, hzr⟩ := fail h
        exact VOK.op (VOK.same hs (v' := .tuple #[z, .bool false]) (by simp [Instr.typeAssert, run_underlying hun, hy, typeInfo, hti, hm, hzr]) hz)
    · cases h
  · rename_i u v d hne hx hu
    have hun := hC.un t _ hu
    obtain ⟨v', hv, hy⟩ := iface_inv (opnd_sound ht hx)
    cases hb : Nat.beq u t with
    | true =>
      have hut := Nat.eq_of_beq_eq_true hb
      simp only [hb, cond_true, Option.some.injEq, Prod.mk.injEq] at h
      obtain ⟨rfl, rfl⟩ := h
      refine VOK.op (VOK.same hs (v' := if ok then .tuple #[v', .bool true] else v') ?_ (holds hv))
      cases d <;> first | (exact absurd rfl (hne _)) | simp [Instr.typeAssert, run_underlying hun, hy, hut]
    | false =>
      have hut := Nat.ne_of_beq_eq_false hb
      simp only [hb, cond_false] at h
      obtain ⟨z, rfl, rfl, rfl, hz, hzr⟩ := fail h
      refine VOK.op (VOK.same hs (v' := .tuple #[z, .bool false]) ?_ hz)
      cases d <;> first | (exact absurd rfl (hne _)) | simp [Instr.typeAssert, run_underlying hun, hy, hut, hzr]
  · cases h

theorem bytes_sound : ∀ {l : List Value} {bs : List UInt8}, bytesOf l = some bs → ∃ q : List Int, l = q.map (Value.int .u8) ∧ bs = q.map fun x => UInt8.ofNat x.toNat
  | [], bs, h => by simp [bytesOf] at h; subst h; exact ⟨[], rfl, rfl⟩
  | v :: l, bs, h => by
    unfold bytesOf at h
    split at h
    · rename_i heq; cases heq
    · rename_i n r heq
      injection heq with h1 h2
      subst h1; subst h2
      split at h
      · rename_i l' hl
        cases h
        obtain ⟨q, e1, e2⟩ := bytes_sound hl
        exact ⟨n :: q, by rw [e1]; rfl, by rw [e2]; rfl⟩
      · cases h
    · cases h

theorem isU8_un (hC : CtxOK ω C) {e : TypeId} (h : isU8 (C.un e) = true) : C.P.underlying e = some (.int .u8) := by
  unfold isU8 at h
  split at h
  · rename_i hu; exact hC.un e _ hu
  · cases h

theorem LRel.ints {l : List Int} {l' : List Value} (h : LRel m (l.map (Value.int .u8)) l') : l' = l.map (Value.int .u8) := by
  apply List.ext_getElem?
  intro i
  by_cases hi : i < l.length
  · obtain ⟨v', h1, h2⟩ := h.at_ (k := i) (v := .int .u8 l[i]) (by simp [hi])
    rw [h1, int_inv h2]; simp [hi]
  · rw [List.getElem?_eq_none (by rw [← h.1]; simp; omega), List.getElem?_eq_none (by simp; omega)]

/-- A new block of which the world's may be longer. -/
theorem open_new {w1 : World} {l : List Value} {c' : Array Value} {e : TypeId} {fz : Nat × Nat} (str : Bool) (z r : Nat) (hw : w1.heap[r]? = some (.cells c' e fz)) (hfz : fz = (0, 0) ∨ (fz = (c'.size, c'.size + 1) ∧ Nat.beq e noMark = false))
    (hle : l.length ≤ c'.size) (hrel : ∀ (j : Nat) (v : Value), l[j]? = some v → ∃ v', c'[j]? = some v' ∧ VRel m v v') :
    ORel m w1 ⟨r, 0, l.length, z, true, c'.size⟩ (blkOf l e z true str) := by
  refine ⟨rfl, rfl, rfl, by simpa using hle, c', fz, hw, rfl, fun j hj => ?_, hfz⟩
  have hj' : j < l.length := hj
  obtain ⟨v', h1, h2⟩ := hrel j l[j] (List.getElem?_eq_getElem hj')
  refine ⟨l[j], v', ?_, by simpa using h1, h2⟩
  rw [T.get_ofList, if_pos (by simp; omega)]
  simp
theorem newOpen_sound (hs : SR B X m s w) (hB : B ≤ w.heap.size) {w1 : World} (hsz : w1.heap.size = w.heap.size + 1) (hold : ∀ k, k < w.heap.size → w1.heap[k]? = w.heap[k]?)
    {l : List Value} {c' : Array Value} {e : TypeId} {fz : Nat × Nat} (str : Bool) (z : Nat) (hw : w1.heap[w.heap.size]? = some (.cells c' e fz)) (hfz : fz = (0, 0) ∨ (fz = (c'.size, c'.size + 1) ∧ Nat.beq e noMark = false))
    (hle : l.length ≤ c'.size) (hrel : ∀ (j : Nat) (v : Value), l[j]? = some v → ∃ v', c'[j]? = some v' ∧ VRel m v v') :
    SR B X (ext m s.n ⟨w.heap.size, 0, l.length, z, true, c'.size⟩) (newBlk s l l.length e z true str).2 w1 ∧ Le m (ext m s.n ⟨w.heap.size, 0, l.length, z, true, c'.size⟩) :=
  new_sound hs _ _ hB rfl hsz hold (open_new str z _ hw hfz hle hrel)

theorem below_freeze' {a : World} (h : Below B a w) {p : Addr} (hp : B ≤ p.block) (k : Nat) : Below B a (w.freeze p k) := by
  refine h.trans ?_
  unfold World.freeze
  split
  · exact Below.refl B w
  · exact ⟨rfl, rfl, rfl, by simp, fun k hk => by
      simp only [Array.getElem?_modify]
      rw [if_neg (by omega)]⟩

theorem SR.congr {s' : AS} (h : SR B X m s w) (hg : ∀ b, s'.h.get b = s.h.get b) (hn : s'.n = s.n) : SR B X m s' w :=
  ⟨fun b o i h1 => h.rel b o i (by rw [← hg]; exact h1), fun b c o p i j h1 h2 => h.inj b c o p i j (by rw [← hg]; exact h1) (by rw [← hg]; exact h2),
   fun b hb => by rw [hg]; exact h.freshH b (by rw [← hn]; exact hb), fun b hb => h.freshM b (by rw [← hn]; exact hb),
   fun b o hb => by rw [hg]; exact h.gh b o hb, h.kp, h.lt⟩

/-- A block's mark. -/
theorem mark_sound (h : SR B X m s w) {p p' : Addr} {k : Blk} (hk : blkAt s p.block = some k) (hnm : Nat.beq k.elem noMark = false) (hp : ARel m p p') :
    ∃ w', (markStringish p').run C.P w = .ok () w' ∧ SR B X m s w' ∧ Below B w w' := by
  obtain ⟨hs, i, h1, rfl⟩ := hp
  obtain ⟨h2, ⟨a1, a2, a3, a4, c', fz, hw, hsz, hcell, hfz⟩, h4, h5⟩ := blk_at h hk h1
  have hshape : w.shape? i.r = some (k.elem, c'.size) := by unfold World.shape?; rw [hw]
  have hlook : (w.freeze ⟨i.r, c'.size, none⟩ 1).heap[i.r]? = some (.cells c' k.elem (i.tot, i.tot + 1)) := by
    unfold World.freeze
    rw [if_neg (by decide)]
    show (w.heap.modify i.r _)[i.r]? = _
    rw [Array.getElem?_modify, if_pos rfl, hw]
    rcases hfz with rfl | ⟨rfl, _⟩ <;> simp [hsz]
  refine ⟨w.freeze ⟨i.r, c'.size, none⟩ 1, by simp [markStringish, hshape], (upd_sound (o' := .cells k) h h2 rfl h1 ?_ ?_ ?_).congr (fun b => ?_) rfl, ?_⟩
  · unfold World.freeze; rw [if_neg (by decide)]; simp
  · intro q hq
    unfold World.freeze; rw [if_neg (by decide)]
    show (w.heap.modify i.r _)[q]? = _
    rw [Array.getElem?_modify, if_neg (fun e => hq e.symm)]
  · exact ⟨a1, a2, a3, a4, c', _, hlook, hsz, hcell, .inr ⟨rfl, hnm⟩⟩
  · rw [T.get_put]
    split
    · rename_i e; rw [e]; exact h2
    · rfl
  · exact below_freeze' (Below.refl B w) h4 1

theorem conv2_sound (hC : CtxOK ω C) (hs : SR B X m s w) (ht : TR m n a act) {src dst : TypeId} {x : Operand} {r : R} (h : opConv2 src dst x C a s = some (r, s')) :
    OpOK C B X m s' w r ((do let z ← convert src dst (act.eval x); pure (Next.value z) : Sem Next).run C.P w) := by
  unfold opConv2 at h
  cases h1 : opnd a x with
  | none => simp [h1] at h
  | some u =>
    have hu := opnd_sound ht h1
    cases h2 : convV C src dst u s with
    | none => simp [h1, h2] at h
    | some p =>
      obtain ⟨v, s2⟩ := p
      simp only [h1, h2, Option.some.injEq, Prod.mk.injEq] at h
      obtain ⟨rfl, rfl⟩ := h
      refine VOK.op ?_
      generalize act.eval x = y at hu
      clear h1
      unfold convV at h2
      cases hch : isChan u with
      | true =>
        rw [hch] at h2
        simp only [cond_true, convTok] at h2
        split at h2
        · rename_i v1 hv1
          cases h2
          obtain ⟨v', hr, hv⟩ := hC.cnv src dst u v hv1 m y w hu
          exact VOK.same hs hr hv
        · cases h2
      | false =>
      rw [hch] at h2
      simp only [cond_false] at h2
      split at h2
      · rename_i d hd
        have hds := hC.un _ _ hd
        split at h2
        · rename_i k hk
          have hdd := hC.un _ _ hk
          unfold convInt at h2
          split at h2
          · cases h2; obtain rfl := int_inv hu
            exact VOK.same hs (by rw [wrapN_eq]; cases d <;> simp [convert, run_underlying hds, run_underlying hdd, Conv.intToInt]) (.plain _ rfl)
          · cases h2; obtain rfl := int_inv hu
            exact VOK.same hs (by cases d <;> simp [convert, run_underlying hds, run_underlying hdd, Conv.intToInt]) (.plain _ rfl)
          · cases h2
        · rename_i hk
          have hdd := hC.un _ _ hk
          unfold convStr at h2
          split at h2
          · cases h2; obtain rfl := str_inv hu
            exact VOK.same hs (by cases d <;> simp [convert, run_underlying hds, run_underlying hdd]) (.plain _ rfl)
          · rename_i e
            cases hb : isU8 (C.un e) with
            | false => simp [hb] at h2
            | true =>
              simp only [hb, cond_true, Option.some.injEq, Prod.mk.injEq] at h2
              obtain ⟨rfl, rfl⟩ := h2
              obtain rfl := nilsl_inv hu
              exact VOK.same hs (run_convert_bytes_nil w src e hds (isU8_un hC hb) 0 0 dst hdd) (.plain _ rfl)
          · rename_i ad k c e
            cases hb : isU8 (C.un e) with
            | false => simp [hb] at h2
            | true =>
              simp only [hb, cond_true] at h2
              split at h2
              · rename_i l hl
                split at h2
                · rename_i bs hbs
                  cases h2
                  obtain ⟨q, rfl, rfl⟩ := bytes_sound hbs
                  obtain ⟨p', c', hy, hor⟩ := slice_inv hu
                  subst hy
                  have hload : (loadCells p' k).run C.P w = .ok (q.map (Value.int .u8)).toArray w := by
                    rcases hor with ⟨hp, _, _⟩ | ⟨rfl, _, _⟩
                    · obtain ⟨l', g1, g2, g3⟩ := readN_sound hs hl hp
                      have := run_loadCells_list (P := C.P) w p' l' g3
                      rw [g2, g1.ints] at this
                      exact this
                    · have hq : q = [] := by
                        unfold readN at hl
                        split at hl
                        · rename_i kk _ hk2
                          simp only [Nat.add_zero, T.range] at hl
                          cases hbb : Nat.ble ad.off kk.len with
                          | false => rw [hbb] at hl; cases hl
                          | true => rw [hbb] at hl; cases q with | nil => rfl | cons _ _ => simp at hl
                        · cases hl
                      subst hq
                      simp [loadCells, loadCellsFrom]
                  refine VOK.same hs ?_ (.plain _ rfl)
                  rw [run_convert_bytes_string w src dst e _ k c' hds (isU8_un hC hb) hdd, run_bytesToString w p' k c' q hload, foldl_push_bytes]
                  simp [ByteArray.empty, ByteArray.emptyWithCapacity]
                  rfl
                · cases h2
              · cases h2
          · cases h2
        · rename_i e hk
          have hdd := hC.un _ _ hk
          unfold convSl at h2
          split at h2
          · rename_i ad k c e'
            cases hb : (Nat.beq src dst && isU8 (C.un e) && Nat.blt 0 c) with
            | false => simp [hb] at h2
            | true =>
              simp only [hb, cond_true] at h2
              rw [Bool.and_eq_true, Bool.and_eq_true] at hb
              have hsd := Nat.eq_of_beq_eq_true hb.1.1
              split at h2
              · rename_i kb hkb
                cases hnm : Nat.beq kb.elem noMark with
                | true => rw [hnm] at h2; cases h2
                | false =>
                rw [hnm] at h2
                cases h2
                obtain ⟨p', c', hy, hor⟩ := slice_inv hu
                subst hy
                rcases hor with ⟨hp, hcr, hkc⟩ | ⟨rfl, rfl, rfl⟩
                · obtain ⟨w', g1, g2, g3⟩ := mark_sound (C := C) hs hkb hnm hp
                  refine ⟨_, w', m, ?_, Le.refl _, g2, g3, .slice _ _ _ _ _ hp hcr hkc⟩
                  simp [convert, run_underlying hdd, hsd, run_underlying (isU8_un hC hb.1.2), g1]
                · exact absurd hb.2 (by decide)
              · cases h2
          · cases h2
        · cases h2
      · cases h2

theorem conv_new (hC : CtxOK ω C) (ht : TR m n a act) (hB : B ≤ w.heap.size) {src dst : TypeId} {x : Operand} {o : AObj} {f : Nat → Value} (h : alConv src dst x C a = some (o, f)) :
    NewOK B m w o f ((do let z ← convert src dst (act.eval x); pure (Next.value z) : Sem Next).run C.P w) := by
  unfold alConv at h
  split at h
  · rename_i e b hs hd hx
    cases hb0 : (isU8 (C.un e) && !Nat.beq e noMark) with
    | false => simp [hb0] at h
    | true =>
      simp only [hb0, cond_true, Option.some.injEq, Prod.mk.injEq] at h
      rw [Bool.and_eq_true] at hb0
      obtain ⟨hb, hnm⟩ := hb0
      replace hnm : Nat.beq e noMark = false := by simpa using hnm
      obtain ⟨rfl, rfl⟩ := h
      have hds := hC.un _ _ hs
      have hdd := hC.un _ _ hd
      rw [str_inv (opnd_sound ht hx)]
      have hrun := run_bytes_of_string (P := C.P) w src dst e b hds hdd (isU8_un hC hb)
      have hcap := grownCap_ge w b.size 0 e
      have hrow : (bytesRow b (grownCap w b.size 0 e)).size = grownCap w b.size 0 e := by have : b.data.size = b.size := rfl; simp [bytesRow]; omega
      have hbs : (b.data.toList.map fun x => Value.int .u8 x.toNat).length = b.size := by simp
      have hnew := open_new (m := m) (w1 := w.drew.alloc (.cells (bytesRow b (grownCap w b.size 0 e)) e ((bytesRow b (grownCap w b.size 0 e)).size, (bytesRow b (grownCap w b.size 0 e)).size + 1)))
        (l := b.data.toList.map fun x => Value.int .u8 x.toNat) (c' := bytesRow b (grownCap w b.size 0 e)) (e := e) true 1 w.heap.size
        (heap_alloc_new w.drew _) (.inr ⟨rfl, hnm⟩) (by rw [hbs, hrow]; exact hcap) (fun j v hj => by
          have hj' := (List.getElem?_eq_some_iff.1 hj).1
          refine ⟨v, ?_, ?_⟩
          · rw [← Array.getElem?_toList, bytesRow, Array.toList_append, List.getElem?_append_left (by simpa using hj'), Array.toList_map]; exact hj
          · rw [List.getElem?_map] at hj
            cases hq : b.data.toList[j]? with
            | none => rw [hq] at hj; cases hj
            | some q => rw [hq] at hj; cases hj; exact .plain _ rfl)
      rw [hrow] at hrun hnew
      rw [hbs] at hnew
      refine ⟨.slice (some ⟨w.heap.size, 0, none⟩) b.size (grownCap w b.size 0 e), _, _, by simp only [Sem.run_bind, hrun, Result.andThen, Sem.run_pure], rfl, by simp, fun k hk => Below.heap_alloc w.drew _ k hk, ((Below.refl B w).drew).alloc hB _, hnew, fun m' b' hb' => ?_⟩
      refine .slice _ _ _ _ _ ⟨rfl, _, hb', rfl⟩ (.inr ⟨hcap, _, hb', rfl, ?_, ?_⟩) (Nat.le_refl _)
      · simp
      · simp
  · cases h
end
end Go.Proofs.YtekajggjoeimoaaGreatDoor.Ev
namespace Go.Proofs.YtekajggjoeimoaaGreatDoor.Ev
open Go.RowKit
variable {ω : Nat → Value}
section
variable {C : Ctx} {B : Nat} {X : Aux} {m : M ω} {s s' : AS} {w : World} {a : T Value} {act : Act} {n : Nat}

/-- Parts of a value that is built. -/
def PRel (m : M ω) : List (Nat × Value) → List (Nat × Value) → Prop
  | [], [] => True
  | (i, v) :: r, (j, v') :: r' => i = j ∧ VRel m v v' ∧ PRel m r r'
  | _, _ => False

theorem parts_sound (ht : TR m n a act) : ∀ {l : List (Nat × Operand)} {ps : List (Nat × Value)}, parts a l = some ps → PRel m ps (l.map fun (i, x) => (i, act.eval x))
  | [], ps, h => by simp [parts] at h; subst h; trivial
  | (i, x) :: l, ps, h => by
    simp only [parts] at h
    cases h1 : opnd a x with
    | none => simp [h1] at h
    | some v =>
      cases h2 : parts a l with
      | none => simp [h1, h2] at h
      | some vs =>
        simp [h1, h2] at h
        subst h
        exact ⟨rfl, opnd_sound ht h1, parts_sound ht h2⟩

/-- A table and a row of cells. -/
def CR (m : M ω) (t : T Value) (n : Nat) (cs : Array Value) : Prop := cs.size = n ∧ ∀ j, j < n → ∃ v v', t.get j = some v ∧ cs[j]? = some v' ∧ VRel m v v'

theorem foldl_set (off : Nat) : ∀ (l : List Value) (k : Nat) (cs : Array Value),
    ((l.zipIdx k).foldl (fun (cs : Array Value) (p : Value × Nat) => cs.setIfInBounds (off + p.2) p.1) cs).size = cs.size ∧
    ∀ j, ((l.zipIdx k).foldl (fun (cs : Array Value) (p : Value × Nat) => cs.setIfInBounds (off + p.2) p.1) cs)[j]? = if off + k ≤ j ∧ j < off + k + l.length ∧ j < cs.size then l[j - (off + k)]? else cs[j]?
  | [], k, cs => by simp; intros; omega
  | v :: l, k, cs => by
    simp only [List.zipIdx_cons, List.foldl_cons]
    obtain ⟨h1, h2⟩ := foldl_set off l (k + 1) (cs.setIfInBounds (off + k) v)
    refine ⟨by rw [h1]; simp, fun j => ?_⟩
    rw [h2]
    simp only [Array.size_setIfInBounds, List.length_cons, Array.getElem?_setIfInBounds]
    by_cases h3 : off + k = j
    · subst h3
      rw [if_neg (by omega), if_pos rfl]
      by_cases h4 : off + k < cs.size
      · rw [if_pos h4, if_pos (by omega)]; simp
      · rw [if_neg h4, if_neg (by omega), Array.getElem?_eq_none (by omega)]
    · by_cases h4 : off + (k + 1) ≤ j ∧ j < off + (k + 1) + l.length ∧ j < cs.size
      · rw [if_pos h4, if_pos (by omega), show j - (off + k) = (j - (off + (k + 1))) + 1 by omega]; simp
      · rw [if_neg h4, if_neg h3, if_neg (by omega)]

theorem fill_sound {place place' : Nat → Option (Nat × Nat)} (hp : ∀ i p, place i = some p → place' i = some p) : ∀ {ps ps' : List (Nat × Value)} {t t' : T Value} {k : Nat} {cs : Array Value},
    PRel m ps ps' → CR m t k cs → fillL place t k ps = some t' → ∃ cs', Instr.fill place' cs ps' = some cs' ∧ CR m t' k cs'
  | [], [], t, t', k, cs, _, hc, h => by simp [fillL] at h; subst h; exact ⟨cs, rfl, hc⟩
  | (i, v) :: r, (j, v') :: r', t, t', k, cs, hr, hc, h => by
    obtain ⟨rfl, hv, hr'⟩ := hr
    simp only [fillL] at h
    cases h1 : place i with
    | none => simp [h1] at h
    | some p =>
      obtain ⟨off, sz⟩ := p
      simp only [h1] at h
      cases h2 : (Nat.beq (cellsOf v).length sz && Nat.ble (off + (cellsOf v).length) k) with
      | false => simp [h2] at h
      | true =>
        simp only [h2, cond_true] at h
        rw [Bool.and_eq_true] at h2
        have e1 := Nat.eq_of_beq_eq_true h2.1
        have e2 := Nat.le_of_ble_eq_true h2.2
        have hcl := cells_rel hv
        have hsz : v'.cells.size = (cellsOf v).length := by rw [cells_arr]; simp; exact hcl.1.symm
        have hfold : v'.cells.zipIdx.foldl (fun cs (x : Value × Nat) => match x with | (c, j) => cs.setIfInBounds (off + j) c) cs = ((cellsOf v').zipIdx 0).foldl (fun (cs : Array Value) (p : Value × Nat) => cs.setIfInBounds (off + p.2) p.1) cs := by
          rw [cells_arr, ← Array.foldl_toList]; simp
        obtain ⟨g1, g2⟩ := foldl_set off (cellsOf v') 0 cs
        have hc' : CR m (T.ofList (cellsOf v) off t) k (((cellsOf v').zipIdx 0).foldl (fun (cs : Array Value) (p : Value × Nat) => cs.setIfInBounds (off + p.2) p.1) cs) := by
          refine ⟨by rw [g1]; exact hc.1, fun q hq => ?_⟩
          rw [T.get_ofList, g2, hc.1]
          simp only [Nat.add_zero]
          by_cases hin : off ≤ q ∧ q < off + (cellsOf v).length
          · rw [if_pos hin, if_pos ⟨hin.1, by rw [← hcl.1]; exact hin.2, hq⟩]
            have hql : q - off < (cellsOf v).length := by omega
            have hql' : q - off < (cellsOf v').length := by rw [← hcl.1]; exact hql
            exact ⟨(cellsOf v)[q - off], (cellsOf v')[q - off], List.getElem?_eq_getElem hql, List.getElem?_eq_getElem hql', hcl.2 (q - off) _ _ (List.getElem?_eq_getElem hql) (List.getElem?_eq_getElem hql')⟩
          · rw [if_neg hin, if_neg (by rw [← hcl.1]; omega)]
            exact hc.2 q hq
        obtain ⟨cs', k1, k2⟩ := fill_sound hp hr' hc' h
        refine ⟨cs', ?_, k2⟩
        rw [Instr.fill, hp i _ h1]
        simp only [hsz, e1, hc.1]
        rw [if_neg (by simp; omega)]
        rw [hfold]; exact k1
  | [], _ :: _, _, _, _, _, h, _, _ => h.elim
  | _ :: _, [], _, _, _, _, h, _, _ => by simp [PRel] at h

theorem CR.of_list {l l' : List Value} (h : LRel m l l') : CR m (T.ofList l 0 .leaf) l.length l'.toArray := by
  refine ⟨by simp [h.1], fun j hj => ?_⟩
  rw [T.get_ofList, if_pos (by omega)]
  have hj' : j < l'.length := by rw [← h.1]; exact hj
  exact ⟨l[j], l'[j], by simp, by simp [hj'], h.2 j _ _ (List.getElem?_eq_getElem hj) (List.getElem?_eq_getElem hj')⟩

theorem CR.range {t : T Value} {k : Nat} {cs : Array Value} (h : CR m t k cs) {l : List Value} (hl : t.range 0 k = some l) : LRel m l cs.toList := by
  obtain ⟨h1, h2⟩ := T.range_spec t k 0 l hl
  refine ⟨by simp [h1, h.1], fun i v v' hv hv' => ?_⟩
  have hi := (List.getElem?_eq_some_iff.1 hv).1
  obtain ⟨x, x', e1, e2, e3⟩ := h.2 i (by omega)
  have e4 := h2 i (by omega)
  rw [Nat.zero_add, e1, hv] at e4
  rw [← Array.getElem?_toList, hv'] at e2
  cases e4; cases e2; exact e3

theorem mapM_get {α β : Type} {f : α → Option β} : ∀ {l : List α} {r : List β}, l.mapM f = some r → ∀ (i : Nat) (x : α), l[i]? = some x → r[i]? = f x
  | [], r, _, i, x, hx => by simp at hx
  | y :: l, r, h, i, x, hx => by
    simp only [List.mapM_cons, Option.bind_eq_bind, Option.pure_def] at h
    cases h1 : f y with
    | none => simp [h1] at h
    | some b =>
      cases h2 : l.mapM f with
      | none => simp [h1, h2] at h
      | some bs =>
        simp [h1, h2] at h
        subst h
        cases i with
        | zero => simp at hx ⊢; subst hx; exact h1.symm
        | succ i => simp at hx ⊢; exact mapM_get h2 i x hx

theorem build_sound (hC : CtxOK ω C) (hs : SR B X m s w) (ht : TR m n a act) {t : TypeId} {ps : Array (Nat × Operand)} {r : R} (h : opBuild t ps C a s = some (r, s')) :
    OpOK C B X m s' w r ((do let z ← Instr.build t (ps.map fun (i, x) => (i, act.eval x)); pure (Next.value z) : Sem Next).run C.P w) := by
  have ps_eq : (ps.map fun (x : Nat × Operand) => match x with | (i, x) => (i, act.eval x)).toList = ps.toList.map fun (i, x) => (i, act.eval x) := by simp
  unfold opBuild at h
  split at h
  · rename_i z fs l hz hu hl
    obtain ⟨ti, zv, hti, hzv, rfl, hpl, _⟩ := zeroC_sound hC hz
    have hun := hC.un _ _ hu
    obtain ⟨places, hpla⟩ := hC.places _ _ hu
    split at h
    · rename_i t' hf
      split at h
      · rename_i cs hcs
        cases h
        obtain ⟨cs', k1, k2⟩ := fill_sound (m := m) (place' := (places.toArray[·]?)) (fun i p hp => by
          split at hp
          · rename_i f hfi
            split at hp
            · rename_i sz hsz
              cases hp
              obtain ⟨fi, hfi', rfl⟩ := sizeT_sound hC hsz
              have := mapM_get hpla i f (by unfold fieldAt at hfi; exact hfi)
              simp [this, hfi']
            · cases hp
          · cases hp) (parts_sound ht hl) (CR.of_list (LRel.plain (m := m) hpl)) hf
        refine VOK.op (VOK.same hs (run_build w t _ cs' ?_) (k2.range hcs).agg)
        unfold Program.built
        simp only [hti, hun, hzv, hpla, ps_eq, cells_arr]
        exact k1
      · cases h
    · cases h
  · rename_i z kn e l hz hu hl
    obtain ⟨ti, zv, hti, hzv, rfl, hpl, _⟩ := zeroC_sound hC hz
    have hun := hC.un _ _ hu
    split at h
    · rename_i sz hsz
      obtain ⟨ei, hei, rfl⟩ := sizeT_sound hC hsz
      split at h
      · rename_i t' hf
        split at h
        · rename_i cs hcs
          cases h
          obtain ⟨cs', k1, k2⟩ := fill_sound (m := m) (fun i p hp => hp) (parts_sound ht hl) (CR.of_list (LRel.plain (m := m) hpl)) hf
          refine VOK.op (VOK.same hs (run_build w t _ cs' ?_) (k2.range hcs).agg)
          unfold Program.built
          simp only [hti, hun, hzv, hei, ps_eq, cells_arr]
          exact k1
        · cases h
      · cases h
    · cases h
  · cases h

theorem buildSlice_new (hC : CtxOK ω C) (ht : TR m n a act) (hB : B ≤ w.heap.size) {t : TypeId} {k : Nat} {ps : Array (Nat × Operand)} {o : AObj} {f : Nat → Value} (h : alBuildSlice t k ps C a = some (o, f)) :
    NewOK B m w o f ((do let z ← Instr.buildSlice t k (ps.map fun (i, x) => (i, act.eval x)); pure (Next.value z) : Sem Next).run C.P w) := by
  have ps_eq : (ps.map fun (x : Nat × Operand) => match x with | (i, x) => (i, act.eval x)).toList = ps.toList.map fun (i, x) => (i, act.eval x) := by simp
  unfold alBuildSlice at h
  split at h
  · rename_i e l hu hl
    have hun := hC.un _ _ hu
    split at h
    · rename_i sz z hsz hz
      obtain ⟨ti, zv, hti, hzv, rfl, hpl, hlen⟩ := zeroC_sound hC hz
      obtain ⟨ei, hei, rfl⟩ := sizeT_sound hC hsz
      rw [hti] at hei; cases hei
      cases hle : Nat.ble (k * ti.size) 16777216 with
      | false => simp [hle] at h
      | true =>
        simp only [hle, cond_true] at h
        have hle' := Nat.le_of_ble_eq_true hle
        split at h
        · rename_i t' hf
          simp only [Option.some.injEq, Prod.mk.injEq] at h
          obtain ⟨rfl, rfl⟩ := h
          have hrl : (repL k (cellsOf zv)).length = k * ti.size := by rw [repL_len, hlen]
          have hcr : CR m (T.ofList (repL k (cellsOf zv)) 0 .leaf) (k * ti.size) (repL k (cellsOf zv)).toArray := by
            rw [← hrl]; exact CR.of_list (LRel.plain (m := m) (repL_plain _ hpl k))
          obtain ⟨cs', k1, k2⟩ := fill_sound (m := m) (fun i p hp => hp) (parts_sound ht hl) hcr hf
          have hrow : (Array.range (k * ti.size)).map (fun i => zv.cells[i % zv.cells.size]!) = (repL k (cellsOf zv)).toArray := by
            have := rep_arr zv.cells k
            rw [cells_list] at this
            rw [← this]
            have hz2 : zv.cells.size = ti.size := by rw [cells_arr, hlen]; simp
            rw [hz2]
          refine ⟨.slice (some ⟨w.heap.size, 0, none⟩) k k, w.alloc (.cells cs' e), ⟨w.heap.size, 0, k * ti.size, 0, false, k * ti.size⟩, ?_, rfl, by simp, fun q hq => Below.heap_alloc w _ q hq, (Below.refl _ _).alloc hB _, ?_, fun m' b hb => .slice _ _ _ _ _ ⟨rfl, _, hb, rfl⟩ (.inl rfl) (Nat.le_refl _)⟩
          · have k1' : Instr.fill (fun i => some (i * ti.size, ti.size)) (repL k (cellsOf zv)).toArray (ps.toList.map fun x => (x.fst, act.eval x.snd)) = some cs' := k1
            by_cases h0 : k * ti.size = 0
            · have hk0 : Instr.fill (fun i => some (i * ti.size, ti.size)) (Array.map (fun _ => default) (Array.range 0)) (ps.toList.map fun x => (x.fst, act.eval x.snd)) = some cs' := by
                rw [← k1']; congr 1
                have : (repL k (cellsOf zv)).length = 0 := by rw [hrl, h0]
                rw [List.length_eq_zero_iff.1 this]; simp
              simp [Instr.buildSlice, run_underlying hun, sizeOf, typeInfo, hti, h0, newRow, hk0]
            · simp [Instr.buildSlice, run_underlying hun, sizeOf, typeInfo, hti, h0, show ¬ 16777216 < k * ti.size by omega, zeroValue, hzv, newRow, hrow, k1']
          · refine ⟨rfl, rfl, rfl, by simp, cs', (0, 0), heap_alloc_new w _, k2.1, fun j hj => ?_, .inl rfl⟩
            obtain ⟨v, v', e1, e2, e3⟩ := k2.2 j hj
            exact ⟨v, v', e1, by simpa using e2, e3⟩
        · cases h
    · cases h
  · cases h

/-! Maps. -/
def EL (m : M ω) (es es' : List MapEntry) : Prop := es.length = es'.length ∧ ∀ (k : Nat) (e e' : MapEntry), es[k]? = some e → es'[k]? = some e' → ERel m e e'
theorem EL.tail {e e' : MapEntry} {es es' : List MapEntry} (h : EL m (e :: es) (e' :: es')) : ERel m e e' ∧ EL m es es' :=
  ⟨h.2 0 e e' rfl rfl, by simpa using h.1, fun k a b ha hb => h.2 (k + 1) a b (by simpa using ha) (by simpa using hb)⟩
theorem EL.at_ {es es' : List MapEntry} (h : EL m es es') {k : Nat} {e : MapEntry} (he : es[k]? = some e) : ∃ e', es'[k]? = some e' ∧ ERel m e e' := by
  have hk := (List.getElem?_eq_some_iff.1 he).1
  have hk' : k < es'.length := by rw [← h.1]; exact hk
  exact ⟨es'[k], List.getElem?_eq_getElem hk', h.2 k _ _ he (List.getElem?_eq_getElem hk')⟩

theorem find_none {d : TypeDesc} {k : Value} : ∀ {es es' : List MapEntry} {i : Nat}, EL m es es' → Instr.findNow d k es i = some none → Instr.findNow d k es' i = some none
  | [], [], _, _, h => h
  | e :: es, e' :: es', i, hl, h => by
    obtain ⟨he, hl'⟩ := hl.tail
    unfold Instr.findNow at h ⊢
    rw [← he.1]
    split at h
    · cases h
    · exact find_none hl' h
    · cases h
  | [], _ :: _, _, hl, _ => by have := hl.1; simp at this
  | _ :: _, [], _, hl, _ => by have := hl.1; simp at this
theorem find_some {d : TypeDesc} {k : Value} : ∀ {es es' : List MapEntry} {i j : Nat} {v : Value}, EL m es es' → Instr.findNow d k es i = some (some (j, v)) →
    ∃ v', Instr.findNow d k es' i = some (some (j, v')) ∧ VRel m v v' ∧ i ≤ j ∧ ∃ e, es[j - i]? = some e ∧ Instr.sameNow d k e.key = some true
  | [], [], _, _, _, _, h => by simp [Instr.findNow] at h
  | e :: es, e' :: es', i, j, v, hl, h => by
    obtain ⟨he, hl'⟩ := hl.tail
    unfold Instr.findNow at h ⊢
    rw [← he.1]
    split at h
    · rename_i hq; cases h; exact ⟨e'.val, rfl, he.2.2.1, Nat.le_refl _, e, by simp, hq⟩
    · obtain ⟨v', h1, h2, h3, e0, h4, h5⟩ := find_some hl' h
      exact ⟨v', h1, h2, by omega, e0, by rw [show j - i = (j - (i + 1)) + 1 by omega]; simpa using h4, h5⟩
    · cases h
  | [], _ :: _, _, _, _, hl, _ => by have := hl.1; simp at this
  | _ :: _, [], _, _, _, hl, _ => by have := hl.1; simp at this

theorem plainKey_plain {d : TypeDesc} {k : Value} (h : plainKey d k = true) : plainV k = true := by
  cases k <;> simp [plainKey] at h <;> rfl
theorem plainKey_check {kt : TypeId} {d : TypeDesc} {k : Value} {b : Bool} (hu : C.P.underlying kt = some d) (h : plainKey d k = true) : (Instr.checkKey b 10000 kt k).run C.P w = .ok () w := by
  have : ∀ q, (Instr.checkKey b (q + 1) kt k).run C.P w = .ok () w := fun q => by
    cases k <;> simp [plainKey] at h
    all_goals (cases d <;> simp at h <;> simp [Instr.checkKey, run_underlying hu])
  exact this 9999
theorem same_stays {d : TypeDesc} {k k' : Value} (h : Instr.sameNow d k k' = some true) : (Instr.keyThatStays k' k).run C.P w = .ok k w := by
  have : ∀ q, Instr.sameBits q k' k = true := fun q => by
    unfold Instr.sameNow at h
    split at h
    · split at h
      · rename_i hk; subst hk; simp at h; subst h; simp [Instr.sameBits]
      · cases h
    · simp only [Option.some.injEq] at h; rw [MapKept.bytes_beq] at h; subst h; simp [Instr.sameBits, MapKept.bytes_beq]
    · simp at h; subst h; simp [Instr.sameBits]
    · cases h
  simp [Instr.keyThatStays, this]

theorem map_obj {b : Nat} {es : List MapEntry} {ck : Nat} (hs : SR B X m s w) (hb : s.h.get b = some (.map es ck)) {i : Info} (hi : m b = some i) :
    ∃ es', w.heap[i.r]? = some (.map es'.toArray ck) ∧ EL m es es' ∧ B ≤ i.r ∧ i.r < w.heap.size := by
  obtain ⟨⟨es', h2, h3⟩, h4, h5⟩ := hs.rel b _ i hb rfl hi
  exact ⟨es', h2, h3, h4, h5⟩
theorem getObj_run {r : Nat} {es : Array MapEntry} {ck : Nat} (h : w.heap[r]? = some (.map es ck)) : (getObj r).run C.P w = .ok (.map es ck) w := by simp [getObj, Sem.run, h]
theorem setObj_run {r : Nat} {es : Array MapEntry} {ck : Nat} {o' : Obj} (h : w.heap[r]? = some (.map es ck)) : (setObj r o').run C.P w = .ok () { w with heap := w.heap.setIfInBounds r o' } := by simp [setObj, Sem.run, h]

/-- A map that is another one now. -/
theorem setMap_sound {b : Nat} {es : List MapEntry} {ck : Nat} (hs : SR B X m s w) (hb : s.h.get b = some (.map es ck)) {i : Info} (hi : m b = some i) (hB : B ≤ i.r) (hlt : i.r < w.heap.size)
    {es2 es2' : List MapEntry} {ck2 : Nat} (hl : EL m es2 es2') :
    SR B X m ⟨s.n, s.h.put b (.map es2 ck2)⟩ { w with heap := w.heap.setIfInBounds i.r (.map es2'.toArray ck2) } ∧ Below B w { w with heap := w.heap.setIfInBounds i.r (.map es2'.toArray ck2) } := by
  refine ⟨upd_sound hs hb rfl hi (by simp) (fun k hk => ?_) ⟨es2', ?_, hl⟩, ⟨rfl, rfl, rfl, by simp, fun k hk => ?_⟩⟩
  · show (w.heap.setIfInBounds i.r _)[k]? = _
    rw [Array.getElem?_setIfInBounds, if_neg (fun e => hk e.symm)]
  · show (w.heap.setIfInBounds i.r _)[i.r]? = _
    rw [Array.getElem?_setIfInBounds, if_pos rfl, if_pos hlt]
  · show (w.heap.setIfInBounds i.r _)[k]? = _
    rw [Array.getElem?_setIfInBounds, if_neg (by omega)]

theorem mapv_inv {r : Option Nat} {v : Value} (h : VRel m (.map r) v) : (r = none ∧ v = .map none) ∨ ∃ b i, r = some b ∧ m b = some i ∧ v = .map (some i.r) := by
  cases h with
  | plain v h => cases r with
    | none => exact .inl ⟨rfl, rfl⟩
    | some b => simp [plainV] at h
  | map b i h => exact .inr ⟨b, i, rfl, h, rfl⟩

theorem lookup_sound (hC : CtxOK ω C) (hs : SR B X m s w) (ht : TR m n a act) {t : TypeId} {x k : Operand} {ok : Bool} {r : R} (h : opLookup t x k ok C a s = some (r, s')) :
    OpOK C B X m s' w r ((do let z ← Instr.lookup t (act.eval x) (act.eval k) ok; pure (Next.value z) : Sem Next).run C.P w) := by
  have two : ∀ {u u' : Value} (b : Bool), VRel m u u' → VRel m (cond ok (.tuple #[u, .bool b]) u) (if ok then .tuple #[u', .bool b] else u') := fun b hv => by
    cases ok
    · exact hv
    · exact (LRel.cons hv (LRel.cons (.plain (.bool b) rfl) (LRel.nil m))).tuple
  unfold opLookup at h
  split at h
  · rename_i kt et r0 kv hu hx hk
    have hun := hC.un _ _ hu
    split at h
    · rename_i d ei hd hei
      have hdn := hC.un _ _ hd
      have hen := hC.ty _ _ hei
      split at h
      · rename_i es z hes hz
        cases hp : (plainKey d kv && closedV z) with
        | false => simp [hp] at h
        | true =>
          simp only [hp, cond_true] at h
          rw [Bool.and_eq_true] at hp
          have hkv := plain_inv (opnd_sound ht hk) (plainKey_plain hp.1)
          obtain ⟨es', hel, hrun⟩ : ∃ es', EL m es es' ∧ (act.eval x = .map none ∧ es' = [] ∨ ∃ r ck, act.eval x = .map (some r) ∧ w.heap[r]? = some (.map es'.toArray ck)) := by
            rcases mapv_inv (opnd_sound ht hx) with ⟨rfl, e⟩ | ⟨b, i, rfl, hi, e⟩
            · cases hes
              exact ⟨[], ⟨rfl, fun k e e' h => by simp at h⟩, .inl ⟨e, rfl⟩⟩
            · simp only at hes
              split at hes
              · rename_i es0 ck hb
                cases hes
                obtain ⟨es', h2, h3, _⟩ := map_obj hs hb hi
                exact ⟨es', h3, .inr ⟨_, _, e, h2⟩⟩
              · cases hes
          have hzr : (zeroValue et).run C.P w = .ok z w := by simp [zeroValue, typeInfo, hen, hz]
          split at h
          · rename_i j v hf
            cases h
            obtain ⟨v', g1, g2, _⟩ := find_some hel hf
            refine VOK.op (VOK.same hs (v' := if ok then .tuple #[v', .bool true] else v') ?_ (two true g2))
            rcases hrun with ⟨e, rfl⟩ | ⟨q, ck, e, hq⟩
            · simp [Instr.lookup, run_underlying hun, e, hkv, plainKey_check hdn hp.1, Instr.findKey, run_underlying hdn, g1, Result.andThen]
            · simp [Instr.lookup, run_underlying hun, e, getObj_run hq, hkv, plainKey_check hdn hp.1, Instr.findKey, run_underlying hdn, g1, Result.andThen]
          · rename_i hf
            cases h
            have g1 := find_none hel hf
            refine VOK.op (VOK.same hs (v' := if ok then .tuple #[z, .bool false] else z) ?_ (two false (closed_refl hp.2)))
            rcases hrun with ⟨e, rfl⟩ | ⟨q, ck, e, hq⟩
            · simp [Instr.lookup, run_underlying hun, e, hkv, plainKey_check hdn hp.1, Instr.findKey, run_underlying hdn, g1, hzr, Result.andThen]
            · simp [Instr.lookup, run_underlying hun, e, getObj_run hq, hkv, plainKey_check hdn hp.1, Instr.findKey, run_underlying hdn, g1, hzr, Result.andThen]
          · cases h
      · cases h
    · cases h
  · cases h

theorem EL.modify {es es' : List MapEntry} (h : EL m es es') (j : Nat) {kv v v' : Value} (hk : plainV kv = true) (hv : VRel m v v') :
    EL m (es.modify j fun e => { e with key := kv, val := v }) (es'.modify j fun e => { e with key := kv, val := v' }) := by
  refine ⟨by simp [h.1], fun k e e' he he' => ?_⟩
  rw [List.getElem?_modify] at he he'
  by_cases hj : j = k
  · subst hj
    simp only [if_true] at he he'
    cases h1 : es[j]? with
    | none => simp [h1] at he
    | some e0 =>
      obtain ⟨e1, h2, h3⟩ := h.at_ h1
      simp [h1] at he
      simp [h2] at he'
      subst he; subst he'
      exact ⟨rfl, hk, hv, h3.2.2.2⟩
  · simp [hj] at he he'
    exact h.2 k e e' he he'
theorem EL.push {es es' : List MapEntry} (h : EL m es es') {kv v v' : Value} (ck : Nat) (hk : plainV kv = true) (hv : VRel m v v') :
    EL m (es ++ [{ key := kv, val := v, born := ck }]) (es' ++ [{ key := kv, val := v', born := ck }]) := by
  refine ⟨by simp [h.1], fun k e e' he he' => ?_⟩
  by_cases hk' : k < es.length
  · rw [List.getElem?_append_left hk'] at he
    rw [List.getElem?_append_left (by rw [← h.1]; exact hk')] at he'
    exact h.2 k e e' he he'
  · rw [List.getElem?_append_right (by omega)] at he
    rw [List.getElem?_append_right (by rw [← h.1]; omega)] at he'
    rw [← h.1] at he'
    cases hq : k - es.length with
    | zero => rw [hq] at he he'; simp at he he'; subst he; subst he'; exact ⟨rfl, hk, hv, rfl⟩
    | succ q => rw [hq] at he; simp at he
theorem EL.erase {es es' : List MapEntry} (h : EL m es es') (j : Nat) : EL m (es.eraseIdx j) (es'.eraseIdx j) := by
  refine ⟨by simp [List.length_eraseIdx, h.1], fun k e e' he he' => ?_⟩
  rw [List.getElem?_eraseIdx] at he he'
  split at he
  · rename_i hk; rw [if_pos hk] at he'; exact h.2 k e e' he he'
  · rename_i hk; rw [if_neg hk] at he'; exact h.2 _ e e' he he'

theorem mapUpdate_sound (hC : CtxOK ω C) (hs : SR B X m s w) (ht : TR m n a act) {t : TypeId} {x k v : Operand} {r : R} (h : opMapUpdate t x k v C a s = some (r, s')) :
    OpOK C B X m s' w r ((do Instr.mapUpdate t (act.eval x) (act.eval k) (act.eval v); pure Next.skip : Sem Next).run C.P w) := by
  unfold opMapUpdate at h
  split at h
  · rename_i kt et b kv vv hu hx hk hv
    have hun := hC.un _ _ hu
    have hvv := opnd_sound ht hv
    split at h
    · rename_i d es ck hd hb
      have hdn := hC.un _ _ hd
      cases hp : plainKey d kv with
      | false => simp [hp] at h
      | true =>
        simp only [hp, cond_true] at h
        have hkv := plain_inv (opnd_sound ht hk) (plainKey_plain hp)
        obtain ⟨i, h1, hx'⟩ := map_inv (opnd_sound ht hx)
        obtain ⟨es', h2, h3, h4, h5⟩ := map_obj hs hb h1
        split at h
        · rename_i j u hf
          cases h
          obtain ⟨v', g1, g2, _, e0, g3, g4⟩ := find_some h3 hf
          obtain ⟨e1, g5, g6⟩ := h3.at_ (by simpa using g3)
          have hkey : e1.key = e0.key := g6.1.symm
          obtain ⟨k1, k2⟩ := setMap_sound (ck2 := ck) hs hb h1 h4 h5 (h3.modify j (plainKey_plain hp) hvv)
          refine ⟨.skip, _, m, ?_, Le.refl _, k1, k2, trivial⟩
          simp [Instr.mapUpdate, run_underlying hun, hx', hkv, getObj_run h2, plainKey_check hdn hp, Instr.findKey, run_underlying hdn, g1, g5, hkey, same_stays g4, setObj_run h2, Result.andThen]
        · rename_i hf
          cases h
          have g1 := find_none h3 hf
          obtain ⟨k1, k2⟩ := setMap_sound (ck2 := ck + 1) hs hb h1 h4 h5 (h3.push ck (plainKey_plain hp) hvv)
          refine ⟨.skip, _, m, ?_, Le.refl _, k1, k2, trivial⟩
          simp [Instr.mapUpdate, run_underlying hun, hx', hkv, getObj_run h2, plainKey_check hdn hp, Instr.findKey, run_underlying hdn, g1, setObj_run h2, Result.andThen]
        · cases h
    · cases h
  · cases h

theorem delete_sound (hC : CtxOK ω C) (hs : SR B X m s w) {ts : List TypeId} {vs : List Value} {args : Array Value} (hl : LRel m vs args.toList) {ty : TypeId} {r : R} (h : biDelete C ts vs s = some (r, s')) :
    OpOK C B X m s' w r ((do let z ← Builtin.delete_ ts.toArray ty args; pure (Next.value z) : Sem Next).run C.P w) := by
  unfold biDelete at h
  split at h
  · rename_i t t2 b k
    obtain ⟨u1, u2, rfl⟩ : ∃ u1 u2, args = #[u1, u2] := by
      have := hl.1; simp at this
      match args, this with
      | ⟨[u1, u2]⟩, _ => exact ⟨u1, u2, rfl⟩
    have hr1 := hl.tail.1
    have hr2 := hl.tail.2.tail.1
    split at h
    · rename_i kt et es ck hu hb
      have hun := hC.un _ _ hu
      split at h
      · rename_i d hd
        have hdn := hC.un _ _ hd
        cases hp : plainKey d k with
        | false => simp [hp] at h
        | true =>
          simp only [hp, cond_true] at h
          have hkv := plain_inv hr2 (plainKey_plain hp)
          obtain ⟨i, h1, hx'⟩ := map_inv hr1
          obtain ⟨es', h2, h3, h4, h5⟩ := map_obj hs hb h1
          split at h
          · rename_i j u hf
            cases h
            obtain ⟨v', g1, g2, _, e0, g3, g4⟩ := find_some h3 hf
            have hj : j < es'.length := by
              have := (List.getElem?_eq_some_iff.1 g3).1; rw [← h3.1]; simpa using this
            obtain ⟨k1, k2⟩ := setMap_sound (ck2 := ck) hs hb h1 h4 h5 (h3.erase j)
            refine ⟨.value (.tuple #[]), _, m, ?_, Le.refl _, k1, k2, .tuple _ _ rfl (fun i hi => by simp at hi)⟩
            simp [Builtin.delete_, run_underlying hun, hx', hkv, getObj_run h2, plainKey_check hdn hp, Instr.findKey, run_underlying hdn, g1, setObj_run h2, Result.andThen, Array.eraseIdxIfInBounds, hj]
          · rename_i hf
            cases h
            have g1 := find_none h3 hf
            obtain ⟨k1, k2⟩ := setMap_sound (ck2 := ck) hs hb h1 h4 h5 h3
            refine ⟨.value (.tuple #[]), _, m, ?_, Le.refl _, k1, k2, .tuple _ _ rfl (fun i hi => by simp at hi)⟩
            simp [Builtin.delete_, run_underlying hun, hx', hkv, getObj_run h2, plainKey_check hdn hp, Instr.findKey, run_underlying hdn, g1, setObj_run h2, Result.andThen]
          · cases h
      · cases h
    · cases h
  · cases h
end
end Go.Proofs.YtekajggjoeimoaaGreatDoor.Ev
namespace Go.Proofs.YtekajggjoeimoaaGreatDoor.Ev
open Go.RowKit
variable {ω : Nat → Value}
section
variable {C : Ctx} {B : Nat} {X : Aux} {m : M ω} {s s' : AS} {w : World} {a : T Value} {act : Act} {n : Nat}

/-- A block that is looked at no more. -/
theorem kill_sound (h : SR B X m s w) (b : Nat) (hb : (s.h.get b).isSome = true) {i : Info} (hi : m b = some i) : SR B X m ⟨s.n, s.h.put b .dead⟩ w := by
  have key : ∀ c p, (s.h.put b .dead).get c = some p → p.alive = true → s.h.get c = some p := by
    intro c p hc hp
    rw [T.get_put] at hc
    by_cases hcb : c = b
    · rw [if_pos hcb] at hc; cases hc; cases hp
    · rw [if_neg hcb] at hc; exact hc
  refine ⟨fun c p j hc hp hj => h.rel c p j (key c p hc hp) hp hj, fun c d p q x y hc hd hp hq hne hx hy => h.inj c d p q x y (key c p hc hp) (key d q hd hq) hp hq hne hx hy, fun c hc => ?_, h.freshM, fun c p hc => ?_, h.kp, h.lt⟩
  · show (s.h.put b .dead).get c = none
    rw [T.get_put]
    by_cases hcb : c = b
    · subst hcb; rw [h.freshH c hc] at hb; cases hb
    · rw [if_neg hcb]; exact h.freshH c hc
  · obtain ⟨k1, k2⟩ := h.gh c p hc
    refine ⟨?_, k2⟩
    show (s.h.put b .dead).get c = some p
    rw [T.get_put, if_neg (fun e => by rw [e, hi] at k2; cases k2)]
    exact k1

/-- A new object that is an old one's block. -/
theorem share_sound (h : SR B X m s w) {b : Nat} {o o' : AObj} {i i' : Info} (hg : s.h.get b = some o) (ha : o.alive = true) (hi : m b = some i) (hr : i'.r = i.r) {w1 : World} (hsz : w1.heap.size = w.heap.size)
    (hold : ∀ k, k ≠ i.r → w1.heap[k]? = w.heap[k]?) (ho : ORel (ext m s.n i') w1 i' o') : SR B X (ext m s.n i') ⟨s.n + 1, (s.h.put b .dead).put s.n o'⟩ w1 := by
  obtain ⟨_, e2, e3⟩ := h.rel b o i hg ha hi
  have hle : Le m (ext m s.n i') := ext_le (h.freshM s.n (Nat.le_refl _))
  have hbn : b ≠ s.n := fun e => by rw [e, h.freshH s.n (Nat.le_refl _)] at hg; cases hg
  have mkey : ∀ c j, ext m s.n i' c = some j → c ≠ s.n → m c = some j := by
    intro c j hj hne
    unfold ext at hj; rwa [if_neg hne] at hj
  have key : ∀ c p, ((s.h.put b .dead).put s.n o').get c = some p → p.alive = true → (c = s.n ∧ p = o') ∨ (c ≠ s.n ∧ c ≠ b ∧ s.h.get c = some p) := by
    intro c p hc hp
    rw [T.get_put, T.get_put] at hc
    by_cases hcn : c = s.n
    · rw [if_pos hcn] at hc; cases hc; exact .inl ⟨hcn, rfl⟩
    · rw [if_neg hcn] at hc
      by_cases hcb : c = b
      · rw [if_pos hcb] at hc; cases hc; cases hp
      · rw [if_neg hcb] at hc
        exact .inr ⟨hcn, hcb, hc⟩
  refine ⟨?_, ?_, ?_, ?_, ?_, ?_, fun c j hj => by
    by_cases hcn : c = s.n
    · rw [hcn, ext_same] at hj; cases hj; rw [hsz, hr]; exact e3
    · rw [hsz]; exact h.lt c j (mkey c j hj hcn)⟩
  · intro c p j hc hp hj
    rcases key c p hc hp with ⟨rfl, rfl⟩ | ⟨h1, h2, h3⟩
    · rw [ext_same] at hj; cases hj; exact ⟨ho, by omega, by omega⟩
    · have h4 := mkey c j hj h1
      obtain ⟨f2, f3, f4⟩ := h.rel c p j h3 hp h4
      exact ⟨(f2.mono hle).other (hold _ (h.inj c b p o j i h3 hg hp ha h2 h4 hi)), f3, by omega⟩
  · intro c d p q x y hc hd hp hq hne hx hy
    rcases key c p hc hp with ⟨rfl, rfl⟩ | ⟨h1, h2, h3⟩
    · rw [ext_same] at hx; cases hx
      rcases key d q hd hq with ⟨rfl, rfl⟩ | ⟨k1, k2, k3⟩
      · exact absurd rfl hne
      · have := h.inj d b q o _ i k3 hg hq ha k2 (mkey d y hy k1) hi
        omega
    · have h4 := mkey c x hx h1
      rcases key d q hd hq with ⟨rfl, rfl⟩ | ⟨k1, k2, k3⟩
      · rw [ext_same] at hy; cases hy
        have := h.inj c b p o _ i h3 hg hp ha h2 h4 hi
        omega
      · exact h.inj c d p q _ _ h3 k3 hp hq hne h4 (mkey d y hy k1)
  · intro c hc
    have hc' : s.n + 1 ≤ c := hc
    show ((s.h.put b .dead).put s.n o').get c = none
    rw [T.get_put, if_neg (by omega), T.get_put]
    by_cases hcb : c = b
    · subst hcb; rw [h.freshH c (by omega)] at hg; cases hg
    · rw [if_neg hcb]; exact h.freshH c (by omega)
  · intro c hc
    have hc' : s.n + 1 ≤ c := hc
    unfold ext; rw [if_neg (by omega)]; exact h.freshM c (by omega)
  · intro c p hc
    obtain ⟨k1, k2⟩ := h.gh c p hc
    have hcn : c ≠ s.n := fun e => by rw [e, h.freshH s.n (Nat.le_refl _)] at k1; cases k1
    have hcb : c ≠ b := fun e => by rw [e, hi] at k2; cases k2
    refine ⟨?_, by unfold ext; rw [if_neg hcn]; exact k2⟩
    show ((s.h.put b .dead).put s.n o').get c = some p
    rw [T.get_put, if_neg hcn, T.get_put, if_neg hcb]; exact k1
  · intro r q hr'
    obtain ⟨k1, k2, k3⟩ := h.kp r q hr'
    have hne := k3 b i hi
    refine ⟨by rw [hold r hne.symm]; exact k1, k2, fun c j hj => ?_⟩
    by_cases hcn : c = s.n
    · rw [hcn, ext_same] at hj; cases hj; rw [hr]; exact hne
    · exact k3 c j (mkey c j hj hcn)

/-- Nothing written. -/
theorem writeNil_sound (h : SR B X m s w) {p : Addr} (hp : ∃ i, m p.block = some i) (hr : writeL s p [] = some s') : SR B X m s' w := by
  unfold writeL at hr
  split at hr
  · rename_i k hsp hk
    cases hb : (Nat.ble (p.off + ([] : List Value).length) k.len && ([] : List Value).all oneV) with
    | false => rw [hb] at hr; cases hr
    | true =>
      rw [hb] at hr
      simp only [cond_true, Option.some.injEq] at hr
      subst hr
      obtain ⟨i, h1⟩ := hp
      obtain ⟨h2, h3, _⟩ := blk_at h hk h1
      exact upd_sound h h2 rfl h1 rfl (fun _ _ => rfl) h3
  · cases hr

/-- What append's second argument yields. -/
structure ASrc (P : Program) (e : TypeId) (i : TypeInfo) (z : Value) (tx : TypeId) (x : Value) (k : Nat) (news : List Value) (w : World) : Prop where
  way : Src P i.size tx x k news w ∨ (∃ kd, P.underlying tx = some (.int kd)) ∧ (∃ kd, x = .int kd (k : Int)) ∧ k ≤ 1000000 ∧ news = repL k z.cells.toList

theorem wrap_sm {k : Nat} (h : k ≤ 1000000) : IntKind.i64.wrap (k : Int) = k := by
  simp [IntKind.wrap, IntKind.bits, IntKind.signed]; omega

theorem app_room {P : Program} (t tx ty e : TypeId) (i : TypeInfo) (z : Value) (ht : P.underlying t = some (.slice e)) (hi : P.info? e = some i) (hz : i.zero = some z) (hzs : z.cells.size = i.size) (hby : i.bytes ≤ 1000000)
    (ao : Option Addr) (q c : Nat) (x : Value) (k : Nat) (news : List Value) (hs : ASrc P e i z tx x k news w) (hroom : q + k ≤ c) {w' : World} (hst : ∀ p, ao = some p → (storeCells (p.add (q * i.size)) news).run P w = .ok () w') (hno : ao = none → w' = w) :
    (Builtin.append_ #[t, tx] ty #[.slice ao q c, x]).run P w = .ok (.slice ao (q + k) c) w' := by
  rcases hs.way with hs | ⟨⟨kd, hk⟩, ⟨kd', rfl⟩, hk2, rfl⟩
  · cases ao with
    | none => obtain rfl := hno rfl; rcases hs.kind with ⟨e', hk⟩ | hk <;> simp [Builtin.append_, run_underlying ht, run_underlying hk, sizeOf, typeInfo, hi, hs.len, hroom, hs.cells]
    | some p => have := hst p rfl; rcases hs.kind with ⟨e', hk⟩ | hk <;> simp [Builtin.append_, run_underlying ht, run_underlying hk, sizeOf, typeInfo, hi, hs.len, hroom, hs.cells, this]
  · have hb : ¬ ((281474976710656 : Int) < (k : Int) * (i.bytes : Int)) := by
      have h1 : (k : Int) * (i.bytes : Int) ≤ 1000000 * 1000000 := Int.mul_le_mul (by omega) (by omega) (by omega) (by omega)
      omega
    have hzc : Builtin.zeroCells z.cells k = (repL k z.cells.toList).toArray := rep_arr z.cells k
    have hemp : k * i.size = 0 → repL k z.cells.toList = [] := fun h => List.length_eq_zero_iff.1 (by rw [repL_len]; simp [hzs, h])
    by_cases h0 : k * i.size = 0
    · rw [hemp h0] at hst
      cases ao with
      | none => obtain rfl := hno rfl; simp [Builtin.append_, run_underlying ht, run_underlying hk, sizeOf, typeInfo, hi, asInt, asIntOf, wrap_sm hk2, show ¬ ((k : Int) < 0) by omega, hb, hroom, h0]
      | some p => have := hst p rfl; simp [Builtin.append_, run_underlying ht, run_underlying hk, sizeOf, typeInfo, hi, asInt, asIntOf, wrap_sm hk2, show ¬ ((k : Int) < 0) by omega, hb, hroom, h0, this]
    · cases ao with
      | none => obtain rfl := hno rfl; simp [Builtin.append_, run_underlying ht, run_underlying hk, sizeOf, typeInfo, hi, asInt, asIntOf, wrap_sm hk2, show ¬ ((k : Int) < 0) by omega, hb, hroom, zeroValue, hz]
      | some p => have := hst p rfl; simp [Builtin.append_, run_underlying ht, run_underlying hk, sizeOf, typeInfo, hi, asInt, asIntOf, wrap_sm hk2, show ¬ ((k : Int) < 0) by omega, hb, hroom, h0, zeroValue, hz, hzc, this]

theorem app_grow {P : Program} (t tx ty e : TypeId) (i : TypeInfo) (z : Value) (ht : P.underlying t = some (.slice e)) (hi : P.info? e = some i) (hz : i.zero = some z) (hzs : z.cells.size = i.size) (hby : i.bytes ≤ 1000000)
    (base : Option Addr) (q c : Nat) (olds : List Value) (hold : (Builtin.firstCells i.size q (.slice base q c)).run P w.drew = .ok olds.toArray w.drew) (x : Value) (k : Nat) (news : List Value) (hs : ASrc P e i z tx x k news w)
    (hg : c < q + k) (hsm : q + k ≤ 1000000) :
    (Builtin.append_ #[t, tx] ty #[.slice base q c, x]).run P w =
      .ok (.slice (some ⟨w.heap.size, 0, none⟩) (q + k) (grownCap w (q + k) c e))
        (w.drew.alloc (.cells ((olds ++ news).toArray ++ Builtin.zeroCells z.cells (grownCap w (q + k) c e - (q + k))) e)) := by
  have hfit : Builtin.nextslicecap (q + k) c * i.bytes ≤ 281474976710656 := growslice_fits hg (by
    have : (q + k) * i.bytes ≤ 1000000 * 1000000 := Nat.mul_le_mul hsm hby
    omega)
  rcases hs.way with hs | ⟨⟨kd, hk⟩, ⟨kd', rfl⟩, hk2, rfl⟩
  · exact run_append_grow_src w t tx ty e i z ht hi hz base q c olds hold x k news hs hg (by omega) hfit
  · have hb : ¬ ((281474976710656 : Int) < (k : Int) * (i.bytes : Int)) := by
      have h1 : (k : Int) * (i.bytes : Int) ≤ 1000000 * 1000000 := Int.mul_le_mul (by omega) (by omega) (by omega) (by omega)
      omega
    have hn : ¬ (q + k ≤ c) := by omega
    have h63' : ¬ (9223372036854775807 < ((q : Int) + (k : Int))) := by omega
    have h48' : ¬ (281474976710656 < Builtin.nextslicecap (q + k) c * i.bytes) := by omega
    have hzc : Builtin.zeroCells z.cells k = (repL k z.cells.toList).toArray := rep_arr z.cells k
    have hemp : k * i.size = 0 → repL k z.cells.toList = [] := fun h => List.length_eq_zero_iff.1 (by rw [repL_len]; simp [hzs, h])
    by_cases h0 : k * i.size = 0
    · rw [hemp h0]
      simp [Builtin.append_, run_underlying ht, run_underlying hk, sizeOf, typeInfo, zeroValue, hi, hz, asInt, asIntOf, wrap_sm hk2, show ¬ ((k : Int) < 0) by omega, hb, hn, h63', h48', Question.forced, hold, newRow, grownCap, h0]
    · simp [Builtin.append_, run_underlying ht, run_underlying hk, sizeOf, typeInfo, zeroValue, hi, hz, asInt, asIntOf, wrap_sm hk2, show ¬ ((k : Int) < 0) by omega, hb, hn, h63', h48', Question.forced, hold, newRow, grownCap, h0, hzc]
      congr 2
      apply Array.ext'
      simp [List.append_assoc]
end
end Go.Proofs.YtekajggjoeimoaaGreatDoor.Ev
