/- An interpreter over an abstract memory, part e: more operations: numbers, addresses, interfaces. -/
import Derived.Test.YtenfkghoolegfaaGreatDoorEvd
import Derived.Laws.BitsAllLaws
namespace Go.Proofs.YtenfkghoolegfaaGreatDoor.Ev
open Go.RowKit
variable {ω : Nat → Value}

theorem modK_eq (k : IntKind) : (2 ^ k.bits : Int) = (modK k : Int) := by cases k <;> rfl
theorem wrapN_eq (k : IntKind) (n : Nat) : wrapN k n = k.wrap n := by
  unfold wrapN
  cases h : Nat.blt n (topK k) with
  | false =>
    rw [cond_false]
    cases hs : sgnK k with
    | true => rfl
    | false =>
      rw [cond_false]
      cases k <;> first | (simp [sgnK] at hs; done) | (simp [IntKind.wrap, IntKind.bits, IntKind.signed, modK]; rfl)
  | true =>
    rw [cond_true]
    have hlt : n < topK k := by
      have := Nat.le_of_ble_eq_true (show Nat.ble (n + 1) (topK k) = true from h)
      omega
    cases k <;> simp [topK] at hlt <;> simp [IntKind.wrap, IntKind.bits, IntKind.signed] <;> omega

theorem sgn_signed (k : IntKind) : k.signed = sgnK k := by cases k <;> rfl

theorem sub_eq (k : IntKind) (a b : Nat) : (cond (Nat.ble b a) (wrapN k (a - b)) (cond (sgnK k) (k.wrap (Int.negSucc (b - a - 1))) (.ofNat (Nat.mod (Nat.mul (modK k) b + a - b) (modK k))))) = k.wrap ((a : Int) - b) := by
  cases h : Nat.ble b a with
  | true =>
    have := Nat.le_of_ble_eq_true h
    rw [cond_true, wrapN_eq]
    congr 1; omega
  | false =>
    have hlt : a < b := by
      rcases Nat.lt_or_ge a b with h1 | h1
      · exact h1
      · have := Nat.ble_eq_true_of_le h1; rw [h] at this; cases this
    rw [cond_false]
    cases hs : sgnK k with
    | true =>
      rw [cond_true]
      congr 1
      rw [Int.negSucc_eq]; omega
    | false =>
      rw [cond_false]
      have hm : 0 < modK k := by cases k <;> simp [modK]
      have e1 : Nat.mod (Nat.mul (modK k) b + a - b) (modK k) = (modK k * b + a - b) % modK k := rfl
      rw [e1]
      have hge : b ≤ modK k * b := Nat.le_mul_of_pos_left b hm
      have e2 : (k.wrap ((a : Int) - b)) = ((a : Int) - b) % (modK k : Int) := by
        unfold IntKind.wrap
        rw [sgn_signed, hs, ← modK_eq]; simp
      rw [e2]
      show ((((modK k * b + a - b) % modK k : Nat)) : Int) = _
      rw [Int.natCast_emod, Int.natCast_sub (by omega)]
      push_cast
      rw [show (modK k : Int) * b + a - b = ((a : Int) - b) + modK k * b by omega, Int.add_mul_emod_self_left]

theorem small_of {k : IntKind} {a b : Nat} {v v' : Value} (h : smallK k a b (some v) = some v') : a < topK k ∧ b < topK k ∧ v = v' := by
  unfold smallK at h
  cases h1 : Nat.blt a (topK k) with
  | false => simp [h1] at h
  | true =>
    cases h2 : Nat.blt b (topK k) with
    | false => simp [h1, h2] at h
    | true =>
      simp [h1, h2] at h
      exact ⟨Nat.le_of_ble_eq_true (show Nat.ble (a + 1) _ = true from h1), Nat.le_of_ble_eq_true (show Nat.ble (b + 1) _ = true from h2), h⟩

theorem top_le (k : IntKind) : topK k ≤ 2 ^ k.bits := by cases k <;> simp [topK, IntKind.bits]
theorem ofInt_nat (n : Nat) (x : Nat) (h : x < 2 ^ n) : (BitVec.ofInt n (Int.ofNat x)).toNat = x := by
  rw [BitVec.toNat_ofInt]
  have : ((Int.ofNat x) % (((2 ^ n : Nat)) : Int)).toNat = x := by
    rw [Int.ofNat_eq_natCast]
    rw [← Int.natCast_emod, Int.toNat_natCast, Nat.mod_eq_of_lt h]
  simpa using this
theorem top_pow (k : IntKind) : ∃ p, topK k = 2 ^ p := by cases k <;> first | exact ⟨7, rfl⟩ | exact ⟨15, rfl⟩ | exact ⟨31, rfl⟩ | exact ⟨63, rfl⟩ | exact ⟨8, rfl⟩ | exact ⟨16, rfl⟩ | exact ⟨32, rfl⟩ | exact ⟨64, rfl⟩
theorem wrap_small (k : IntKind) (x : Nat) (h : x < topK k) : k.wrap (x : Int) = (x : Int) := by
  rw [← wrapN_eq]; unfold wrapN
  have : Nat.blt x (topK k) = true := Nat.ble_eq_true_of_le h
  rw [this]; rfl

/-- A fast operator is the model's. -/
theorem opF_sound (op : BinOp) (k : IntKind) (a b : Nat) (v : Value) (t : TypeId) (h : opF op k a b = some v) : binOp op t (.int k (.ofNat a)) (.int k (.ofNat b)) = pure v := by
  have htop := top_le k
  obtain ⟨p, hp⟩ := top_pow k
  cases op with
  | add => have h' : addF k a b = some v := h
           simp only [addF, Option.some.injEq] at h'
           subst h'
           simp only [binOp, ne_eq, not_true, if_false, Op.intArith, wrapN_eq]
           rfl
  | sub => have h' : subF k a b = some v := h
           simp only [subF, Option.some.injEq] at h'
           subst h'
           simp only [binOp, ne_eq, not_true, if_false, Op.intArith, sub_eq]
           rfl
  | mul => have h' : mulF k a b = some v := h
           simp only [mulF, Option.some.injEq] at h'
           subst h'
           simp only [binOp, ne_eq, not_true, if_false, Op.intArith, wrapN_eq]
           rfl
  | quo => have h' : quoF k a b = some v := h
           unfold quoF at h'
           cases hb : Nat.beq b 0 with
           | true => simp [hb] at h'
           | false =>
             have hne := Nat.ne_of_beq_eq_false hb
             simp only [hb, cond_false, Option.some.injEq] at h'
             subst h'
             have : ¬ ((Int.ofNat b) = 0) := by intro e; apply hne; exact Int.ofNat.inj e
             simp only [binOp, ne_eq, not_true, if_false, Op.intDiv, this, wrapN_eq]
             rfl
  | rem => have h' : remF k a b = some v := h
           unfold remF at h'
           cases hb : Nat.beq b 0 with
           | true => simp [hb] at h'
           | false =>
             have hne := Nat.ne_of_beq_eq_false hb
             simp only [hb, cond_false, Option.some.injEq] at h'
             subst h'
             have : ¬ ((Int.ofNat b) = 0) := by intro e; apply hne; exact Int.ofNat.inj e
             simp only [binOp, ne_eq, not_true, if_false, Op.intDiv, this]
             rfl
  | and => obtain ⟨ha, hb, rfl⟩ := small_of (h : smallK k a b (some (.int k (.ofNat (Nat.land a b)))) = some v)
           simp only [binOp, ne_eq, not_true, if_false, Op.intBits]
           have : (BitVec.ofInt k.bits (Int.ofNat a) &&& BitVec.ofInt k.bits (Int.ofNat b)).toNat = a &&& b := by
             rw [BitVec.toNat_and, ofInt_nat _ a (by omega), ofInt_nat _ b (by omega)]
           rw [this, wrap_small k _ (Nat.lt_of_le_of_lt Nat.and_le_left ha)]
           rfl
  | or => obtain ⟨ha, hb, rfl⟩ := small_of (h : smallK k a b (some (.int k (.ofNat (Nat.lor a b)))) = some v)
          simp only [binOp, ne_eq, not_true, if_false, Op.intBits]
          have : (BitVec.ofInt k.bits (Int.ofNat a) ||| BitVec.ofInt k.bits (Int.ofNat b)).toNat = a ||| b := by
            rw [BitVec.toNat_or, ofInt_nat _ a (by omega), ofInt_nat _ b (by omega)]
          rw [this, wrap_small k _ (by rw [hp] at *; exact Nat.or_lt_two_pow ha hb)]
          rfl
  | xor => obtain ⟨ha, hb, rfl⟩ := small_of (h : smallK k a b (some (.int k (.ofNat (Nat.xor a b)))) = some v)
           simp only [binOp, ne_eq, not_true, if_false, Op.intBits]
           have : (BitVec.ofInt k.bits (Int.ofNat a) ^^^ BitVec.ofInt k.bits (Int.ofNat b)).toNat = a ^^^ b := by
             rw [BitVec.toNat_xor, ofInt_nat _ a (by omega), ofInt_nat _ b (by omega)]
           rw [this, wrap_small k _ (by rw [hp] at *; exact Nat.xor_lt_two_pow ha hb)]
           rfl
  | shl => cases h
  | shr => cases h
  | andNot => cases h
  | eql => have h' : eqlF k a b = some v := h
           simp only [eqlF, Option.some.injEq] at h'
           subst h'
           simp only [binOp, ne_eq, not_true, if_false, Op.intCmp]
           congr 2
           rw [Bool.eq_iff_iff, beq_iff_eq, Nat.beq_eq]
           exact ⟨fun e => Int.ofNat.inj e, fun e => by rw [e]⟩
  | neq => have h' : neqF k a b = some v := h
           simp only [neqF, Option.some.injEq] at h'
           subst h'
           simp only [binOp, ne_eq, not_true, if_false, Op.intCmp]
           congr 2
           show (!(Int.ofNat a == Int.ofNat b)) = !(Nat.beq a b)
           congr 1
           rw [Bool.eq_iff_iff, beq_iff_eq, Nat.beq_eq]
           exact ⟨fun e => Int.ofNat.inj e, fun e => by rw [e]⟩
  | lss => have h' : lssF k a b = some v := h
           simp only [lssF, Option.some.injEq] at h'
           subst h'
           simp only [binOp, ne_eq, not_true, if_false, Op.intCmp]
           congr 2
           rw [Bool.eq_iff_iff, decide_eq_true_iff]
           show (Int.ofNat a < Int.ofNat b) ↔ Nat.ble (a + 1) b = true
           rw [Nat.ble_eq, Int.ofNat_eq_natCast, Int.ofNat_eq_natCast]; omega
  | leq => have h' : leqF k a b = some v := h
           simp only [leqF, Option.some.injEq] at h'
           subst h'
           simp only [binOp, ne_eq, not_true, if_false, Op.intCmp]
           congr 2
           rw [Bool.eq_iff_iff, decide_eq_true_iff, Nat.ble_eq, Int.ofNat_eq_natCast, Int.ofNat_eq_natCast]; omega
  | gtr => have h' : gtrF k a b = some v := h
           simp only [gtrF, Option.some.injEq] at h'
           subst h'
           simp only [binOp, ne_eq, not_true, if_false, Op.intCmp]
           congr 2
           rw [Bool.eq_iff_iff, decide_eq_true_iff]
           show (Int.ofNat a > Int.ofNat b) ↔ Nat.ble (b + 1) a = true
           rw [Nat.ble_eq, Int.ofNat_eq_natCast, Int.ofNat_eq_natCast]; omega
  | geq => have h' : geqF k a b = some v := h
           simp only [geqF, Option.some.injEq] at h'
           subst h'
           simp only [binOp, ne_eq, not_true, if_false, Op.intCmp]
           congr 2
           rw [Bool.eq_iff_iff, decide_eq_true_iff, Nat.ble_eq, Int.ofNat_eq_natCast, Int.ofNat_eq_natCast]; omega

theorem shF_sound (op : BinOp) (k j : IntKind) (a b : Nat) (v : Value) (t : TypeId) (h : shF op k a b = some v) : binOp op t (.int k (.ofNat a)) (.int j (.ofNat b)) = pure v := by
  cases op <;> try (cases h; done)
  · have h' : shlF k a b = some v := h
    simp only [shlF, Option.some.injEq] at h'
    subst h'
    have hn : ¬ (Int.ofNat b < 0) := by rw [Int.ofNat_eq_natCast]; omega
    simp only [binOp, Op.shift, hn, if_false, wrapN_eq]
    congr 3

  · have h' : shrF k a b = some v := h
    simp only [shrF, Option.some.injEq] at h'
    subst h'
    have hn : ¬ (Int.ofNat b < 0) := by rw [Int.ofNat_eq_natCast]; omega
    simp only [binOp, Op.shift, hn, if_false]
    congr 2
    show (Int.ofNat a).fdiv (2 ^ (min (Int.ofNat b).toNat k.bits)) = ((a / 2 ^ (Nat.min b k.bits) : Nat) : Int)
    have e : (2 ^ (min (Int.ofNat b).toNat k.bits) : Int) = ((2 ^ (Nat.min b k.bits) : Nat) : Int) := by push_cast; rfl
    rw [e, Int.ofNat_eq_natCast, Int.fdiv_eq_ediv_of_nonneg _ (Int.natCast_nonneg _), Int.natCast_ediv]

section
variable {C : Ctx} {B : Nat} {X : Aux} {m : M ω} {s s' : AS} {w : World} {a : T Value} {act : Act} {n : Nat}

theorem eqGuard_int (P : Program) (op : BinOp) (t : TypeId) (x y : Operand) (k j : IntKind) (p q : Int) : (eqGuard op t x y (.int k p) (.int j q)).run P w = .ok () w := by
  unfold eqGuard
  cases op <;> rfl

theorem nilptr_inv {v : Value} (h : VRel m (.pointer none) v) : v = .pointer none := plain_inv h rfl
theorem nilsl_inv {v : Value} (h : VRel m (.slice none 0 0) v) : v = .slice none 0 0 := plain_inv h rfl
theorem nilmap_inv {v : Value} (h : VRel m (.map none) v) : v = .map none := plain_inv h rfl
theorem nilif_inv {v : Value} (h : VRel m .nilIface v) : v = .nilIface := plain_inv h rfl
theorem nilfn_inv {v : Value} (h : VRel m .nilFunc v) : v = .nilFunc := plain_inv h rfl
theorem ptr_inv {p : Addr} {v : Value} (h : VRel m (.pointer (some p)) v) : ∃ p', ARel m p p' ∧ v = .pointer (some p') := by
  cases h with
  | plain v h => simp [plainV] at h
  | ptr a a' h => exact ⟨a', h, rfl⟩
theorem slice_inv {p : Addr} {k c : Nat} {v : Value} (h : VRel m (.slice (some p) k c) v) :
    ∃ p' c', v = .slice (some p') k c' ∧ ((ARel m p p' ∧ CRel m p c c' ∧ k ≤ c) ∨ (k = 0 ∧ c = 0 ∧ c' = 0)) := by
  cases h with
  | plain v h => simp [plainV] at h
  | slice a a' n c c' h hc hn => exact ⟨a', c', rfl, .inl ⟨h, hc, hn⟩⟩
  | slice0 a a' h => exact ⟨a', 0, rfl, .inr ⟨rfl, rfl, rfl⟩⟩
theorem slice_map {p : Addr} {k c : Nat} {v : Value} (h : VRel m (.slice (some p) k c) v) : ∃ i, m p.block = some i := by
  cases h with
  | plain v h => simp [plainV] at h
  | slice a a' n c c' h hc hn => obtain ⟨_, i, hi, _⟩ := h; exact ⟨i, hi⟩
  | slice0 a a' h => exact h
theorem map_inv {b : Nat} {v : Value} (h : VRel m (.map (some b)) v) : ∃ i, m b = some i ∧ v = .map (some i.r) := by
  cases h with
  | plain v h => simp [plainV] at h
  | map b i h => exact ⟨i, h, rfl⟩
theorem iface_inv {t : TypeId} {u v : Value} (h : VRel m (.iface t u) v) : ∃ u', VRel m u u' ∧ v = .iface t u' := by
  cases h with
  | plain v h => simp [plainV] at h
  | iface t v v' h => exact ⟨v', h, rfl⟩
theorem int_inv {k : IntKind} {p : Int} {v : Value} (h : VRel m (.int k p) v) : v = .int k p := plain_inv h rfl
theorem str_inv {b : ByteArray} {v : Value} (h : VRel m (.string b) v) : v = .string b := plain_inv h rfl
theorem bool_inv {b : Bool} {v : Value} (h : VRel m (.bool b) v) : v = .bool b := plain_inv h rfl

/-- What is known of two values that eqV tells apart. -/
def EqOK (P : Program) (w : World) (t : TypeId) (x' y' : Value) (b : Bool) : Prop :=
  (Op.equal t x' y').run P w = .ok b w ∧ (∀ (op : BinOp) (ox oy : Operand), (eqGuard op t ox oy x' y').run P w = .ok () w) ∧
    binOp .eql t x' y' = (do pure (.bool (← Op.equal t x' y'))) ∧ binOp .neq t x' y' = (do pure (.bool (!(← Op.equal t x' y'))))

theorem ARel.fn {a b a' b' : Addr} (ha : ARel m a a') (hb : ARel m b b') (h : (Nat.beq a.block b.block && Nat.beq a.off b.off) = true) : a' = b' := by
  rw [Bool.and_eq_true] at h
  obtain ⟨_, i, hi, rfl⟩ := ha
  obtain ⟨_, j, hj, rfl⟩ := hb
  rw [Nat.eq_of_beq_eq_true h.1, hj] at hi
  cases hi
  rw [Nat.eq_of_beq_eq_true h.2]

theorem equal_succ (t : TypeId) (x y : Value) : Op.equal t x y = Op.equalIn (9999 + 1) t x y := rfl

theorem eqV_sound (hC : CtxOK ω C) {t : TypeId} {x y x' y' : Value} {b : Bool} (hx : VRel m x x') (hy : VRel m y y') (h : eqV C t x y = some b) : EqOK C.P w t x' y' b := by
  unfold eqV at h
  cases hu : C.un t with
  | none => simp [hu] at h
  | some d =>
    have hd := hC.un t d hu
    have hun : (underlying t).run C.P w = .ok d w := run_underlying hd w
    rw [hu] at h
    cases d <;> try (simp at h; done)
    · simp only at h
      split at h
      · cases h; obtain rfl := nilptr_inv hx; obtain ⟨p', _, rfl⟩ := ptr_inv hy
        exact ⟨by rw [equal_succ, Op.equalIn]; simp only [Sem.run_bind, hun, Result.andThen_ok]; rfl, fun op _ _ => by cases op <;> rfl, rfl, rfl⟩
      · cases h; obtain rfl := nilptr_inv hy; obtain ⟨p', _, rfl⟩ := ptr_inv hx
        exact ⟨by rw [equal_succ, Op.equalIn]; simp only [Sem.run_bind, hun, Result.andThen_ok]; rfl, fun op _ _ => by cases op <;> rfl, rfl, rfl⟩
      · rename_i ap bp
        cases hab : (Nat.beq ap.block bp.block && Nat.beq ap.off bp.off) with
        | false => rw [hab] at h; cases h
        | true =>
          rw [hab] at h
          simp only [cond_true] at h
          split at h
          · rename_i sz hsz
            cases h
            obtain ⟨ti, hti, _⟩ := sizeT_sound hC hsz
            obtain ⟨p', hp, rfl⟩ := ptr_inv hx
            obtain ⟨q', hq, rfl⟩ := ptr_inv hy
            obtain rfl := ARel.fn hp hq hab
            refine ⟨?_, fun op _ _ => by cases op <;> rfl, rfl, rfl⟩
            rw [equal_succ, Op.equalIn]
            simp only [Sem.run_bind, hun, Result.andThen_ok]
            simp [sizeOf, typeInfo, hti, sameAddr]
          · cases h
      · cases h
    · simp only at h
      split at h
      · cases h; obtain rfl := nilsl_inv hx; obtain ⟨p', c', rfl, _⟩ := slice_inv hy
        exact ⟨by rw [equal_succ, Op.equalIn]; simp only [Sem.run_bind, hun, Result.andThen_ok]; rfl, fun op _ _ => by cases op <;> rfl, rfl, rfl⟩
      · cases h; obtain rfl := nilsl_inv hy; obtain ⟨p', c', rfl, _⟩ := slice_inv hx
        exact ⟨by rw [equal_succ, Op.equalIn]; simp only [Sem.run_bind, hun, Result.andThen_ok]; rfl, fun op _ _ => by cases op <;> rfl, rfl, rfl⟩
      · cases h
    · simp only at h
      split at h
      · cases h; obtain rfl := nilmap_inv hx; obtain ⟨i, _, rfl⟩ := map_inv hy
        exact ⟨by rw [equal_succ, Op.equalIn]; simp only [Sem.run_bind, hun, Result.andThen_ok]; rfl, fun op _ _ => by cases op <;> rfl, rfl, rfl⟩
      · cases h; obtain rfl := nilmap_inv hy; obtain ⟨i, _, rfl⟩ := map_inv hx
        exact ⟨by rw [equal_succ, Op.equalIn]; simp only [Sem.run_bind, hun, Result.andThen_ok]; rfl, fun op _ _ => by cases op <;> rfl, rfl, rfl⟩
      · cases h
    · simp only at h
      split at h
      · cases h; obtain rfl := nilfn_inv hx
        cases hy with
        | plain v h => simp [plainV] at h
        | func f fs fs' cs cs' h1 h2 h k => exact ⟨by rw [equal_succ, Op.equalIn]; simp only [Sem.run_bind, hun, Result.andThen_ok]; rfl, fun op _ _ => by cases op <;> rfl, rfl, rfl⟩
        | yield b i h => exact ⟨by rw [equal_succ, Op.equalIn]; simp only [Sem.run_bind, hun, Result.andThen_ok]; rfl, fun op _ _ => by cases op <;> rfl, rfl, rfl⟩
      · cases h; obtain rfl := nilfn_inv hy
        cases hx with
        | plain v h => simp [plainV] at h
        | func f fs fs' cs cs' h1 h2 h k => exact ⟨by rw [equal_succ, Op.equalIn]; simp only [Sem.run_bind, hun, Result.andThen_ok]; rfl, fun op _ _ => by cases op <;> rfl, rfl, rfl⟩
        | yield b i h => exact ⟨by rw [equal_succ, Op.equalIn]; simp only [Sem.run_bind, hun, Result.andThen_ok]; rfl, fun op _ _ => by cases op <;> rfl, rfl, rfl⟩
      · cases h
    · simp only at h
      split at h
      · cases h; obtain rfl := nilif_inv hx; obtain ⟨u', _, rfl⟩ := iface_inv hy
        exact ⟨by rw [equal_succ, Op.equalIn]; simp only [Sem.run_bind, hun, Result.andThen_ok]; rfl, fun op _ _ => by cases op <;> rfl, rfl, rfl⟩
      · cases h; obtain rfl := nilif_inv hy; obtain ⟨u', _, rfl⟩ := iface_inv hx
        exact ⟨by rw [equal_succ, Op.equalIn]; simp only [Sem.run_bind, hun, Result.andThen_ok]; rfl, fun op _ _ => by cases op <;> rfl, rfl, rfl⟩
      · rename_i tp vp tq vq
        obtain ⟨u', _, rfl⟩ := iface_inv hx; obtain ⟨z', _, rfl⟩ := iface_inv hy
        cases hpq : Nat.beq tp tq with
        | true => rw [hpq] at h; cases h
        | false =>
          rw [hpq] at h; cases h
          have hne : tp ≠ tq := Nat.ne_of_beq_eq_false hpq
          exact ⟨by rw [equal_succ, Op.equalIn]; simp only [Sem.run_bind, hun, Result.andThen_ok]; rw [if_pos hne]; rfl, fun op _ _ => by cases op <;> rfl, rfl, rfl⟩
      · cases h

theorem genBin_sound (hC : CtxOK ω C) {op : BinOp} {t : TypeId} {ox oy : Operand} {x y x' y' v : Value} (hx : VRel m x x') (hy : VRel m y y') (h : genBin C op t ox oy x y = some v) :
    ∃ v', (do eqGuard op t ox oy x' y'; binOp op t x' y' : Sem Value).run C.P w = .ok v' w ∧ VRel m v v' := by
  have heq : ∀ {v}, eqBin2 C op t x y = some v → ∃ v', (do eqGuard op t ox oy x' y'; binOp op t x' y' : Sem Value).run C.P w = .ok v' w ∧ VRel m v v' := by
    intro v h
    unfold eqBin2 at h
    cases hb : eqBin C op t x y with
    | none =>
      rw [hb] at h
      exact hC.bin op t ox oy x y v h m x' y' w hx hy
    | some u =>
    rw [hb] at h
    cases h
    have h := hb
    unfold eqBin at h
    cases he : eqV C t x y with
    | none => simp [he] at h
    | some b =>
      obtain ⟨e1, e2, e3, e4⟩ := eqV_sound (w := w) hC hx hy he
      rw [he] at h
      cases op <;> try (cases h; done)
      · cases h; exact ⟨_, by simp [e2, e3, e1], .plain _ rfl⟩
      · cases h; exact ⟨_, by simp [e2, e4, e1], .plain _ rfl⟩
  unfold genBin at h
  cases h1 : closedV x with
  | false => rw [h1] at h; exact heq h
  | true =>
    cases h2 : closedV y with
    | false => rw [h1, h2] at h; exact heq h
    | true =>
      rw [h1, h2] at h
      simp only [cond_true] at h
      rw [closed_inv hx h1, closed_inv hy h2]
      unfold slowBin at h
      cases h3 : pureRun C.P (do eqGuard op t ox oy x y; binOp op t x y) with
      | none => simp [h3] at h
      | some u =>
        cases h4 : plainV u with
        | false => simp [h3, h4] at h
        | true =>
          simp [h3, h4] at h
          subst h
          exact ⟨_, pureRun_run _ _ h3 w, .plain _ h4⟩

theorem opF_plain {op : BinOp} {k : IntKind} {p q : Nat} {v : Value} (h : opF op k p q = some v) : plainV v = true := by
  cases op <;> first
    | (cases h; done)
    | (cases h; rfl)
    | (obtain ⟨_, _, rfl⟩ := small_of h; rfl)
    | (have h' : quoF k p q = some v := h
       unfold quoF at h'
       cases hb : Nat.beq q 0 <;> simp [hb] at h'
       subst h'; rfl)
    | (have h' : remF k p q = some v := h
       unfold remF at h'
       cases hb : Nat.beq q 0 <;> simp [hb] at h'
       subst h'; rfl)

theorem binV_sound (hC : CtxOK ω C) {op : BinOp} {t : TypeId} {ox oy : Operand} {x y x' y' v : Value} (hx : VRel m x x') (hy : VRel m y y') (h : binV C op t ox oy x y = some v) :
    ∃ v', (do eqGuard op t ox oy x' y'; binOp op t x' y' : Sem Value).run C.P w = .ok v' w ∧ VRel m v v' := by
  unfold binV at h
  split at h
  · rename_i k p
    unfold intBin at h
    split at h
    · rename_i j q
      obtain rfl := int_inv hx
      obtain rfl := int_inv hy
      cases hsh : isShift op with
      | true =>
        simp only [hsh, cond_true] at h
        have hp : plainV v = true := by cases op <;> first | (cases h; done) | (cases h; rfl)
        exact ⟨v, by simp only [Sem.run_bind, eqGuard_int, Result.andThen_ok, shF_sound op k j p q v t h]; rfl, .plain _ hp⟩
      | false =>
        simp only [hsh, cond_false] at h
        cases hk : kindEq k j with
        | false => simp [hk] at h
        | true =>
          simp only [hk, cond_true] at h
          have hkj : k = j := of_decide_eq_true hk
          subst hkj
          cases ho : opF op k p q with
          | some u =>
            simp [ho] at h
            subst h
            exact ⟨u, by simp only [Sem.run_bind, eqGuard_int, Result.andThen_ok, opF_sound op k p q u t ho]; rfl, .plain _ (opF_plain ho)⟩
          | none =>
            simp [ho] at h
            exact genBin_sound hC hx hy h
    · exact genBin_sound hC hx hy h
  · exact genBin_sound hC hx hy h

theorem bin_sound (hC : CtxOK ω C) (hs : SR B X m s w) (ht : TR m n a act) {op : BinOp} {t : TypeId} {x y : Operand} {r : R} (h : opBinOp op t x y C a s = some (r, s')) :
    OpOK C B X m s' w r ((do let z ← (do eqGuard op t x y (act.eval x) (act.eval y); binOp op t (act.eval x) (act.eval y) : Sem Value); pure (Next.value z) : Sem Next).run C.P w) := by
  unfold opBinOp at h
  cases h1 : opnd a x with
  | none => simp [h1] at h
  | some u =>
    cases h2 : opnd a y with
    | none => simp [h1, h2] at h
    | some v =>
      cases h3 : binV C op t x y u v with
      | none => simp [h1, h2, h3] at h
      | some z =>
        simp [h1, h2, h3] at h
        obtain ⟨rfl, rfl⟩ := h
        obtain ⟨v', hr, hv⟩ := binV_sound (w := w) hC (opnd_sound ht h1) (opnd_sound ht h2) h3
        exact VOK.op (VOK.same hs hr hv)
end
end Go.Proofs.YtenfkghoolegfaaGreatDoor.Ev
