/- An interpreter over an abstract memory, part p: regions that draw their order. -/
import Derived.Test.YtenfkghoolegfaaGreatDoorEvn
import Derived.OrdersIn
namespace Go.Proofs.YtenfkghoolegfaaGreatDoor.Ev
open Go.RowKit
variable {ω : Nat → Value}

/-- What the form of a region's code gives. -/
structure Good (ops : Array Oper) : Prop where
  once : ∀ (i j : Nat) (oi oj : Oper) (t : Tmp), ops[i]? = some oi → ops[j]? = some oj → oi.dst = some t → oj.dst = some t → i = j
  ahead : ∀ (i : Nat) (o : Oper), ops[i]? = some o → ∀ e ∈ o.after, Region.binds .any e = true → e.on < i
  reads : ∀ (i j : Nat) (o oj : Oper) (t : Tmp), ops[i]? = some o → .tmp t ∈ o.op.operands → ops[j]? = some oj → oj.dst = some t → (∃ e ∈ o.after, Region.binds .any e = true ∧ e.on = j) ∨ (lateB ops.toList j oj = true ∧ ∃ e ∈ oj.after, Region.binds .any e = true ∧ e.on = i)
  guards : ∀ (i g : Nat) (o : Oper) (b : Bool), ops[i]? = some o → o.guard = some (g, b) → ∃ og t, ops[g]? = some og ∧ og.dst = some t ∧ ∃ e ∈ o.after, Region.binds .any e = true ∧ e.on = g
  nosel : ∀ (i : Nat) (o : Oper) cs b, ops[i]? = some o → o.op ≠ .select cs b

theorem dstM_iff {t : Tmp} : ∀ {l : List Oper}, bitB (dstM l) t = true ↔ ∃ o ∈ l, o.dst = some t
  | [] => by simp [dstM, bitB_zero]
  | o :: os => by
    have ih := dstM_iff (t := t) (l := os)
    simp only [dstM, List.mem_cons]
    cases hd : o.dst with
    | none =>
      simp only []
      rw [ih]
      constructor
      · rintro ⟨p, hp, he⟩; exact ⟨p, .inr hp, he⟩
      · rintro ⟨p, rfl | hp, he⟩
        · rw [hd] at he; cases he
        · exact ⟨p, hp, he⟩
    | some u =>
      simp only [setB_bit, Bool.or_eq_true, decide_eq_true_eq]
      rw [ih]
      constructor
      · rintro (rfl | ⟨p, hp, he⟩)
        · exact ⟨o, .inl rfl, hd⟩
        · exact ⟨p, .inr hp, he⟩
      · rintro ⟨p, rfl | hp, he⟩
        · rw [hd] at he; cases he; exact .inl rfl
        · exact .inr ⟨p, hp, he⟩

theorem dstOnce_spec : ∀ {l : List Oper}, dstOnce l = true → ∀ (i j : Nat) (oi oj : Oper) (t : Tmp), l[i]? = some oi → l[j]? = some oj → oi.dst = some t → oj.dst = some t → i = j
  | [], _, i, j, oi, oj, t, hi, _, _, _ => by simp at hi
  | o :: os, h, i, j, oi, oj, t, hi, hj, di, dj => by
    have hos : dstOnce os = true := by
      simp only [dstOnce] at h
      split at h
      · rename_i u hu
        cases hb : bitB (dstM os) u with
        | true => rw [hb] at h; cases h
        | false => rw [hb] at h; exact h
      · exact h
    have no : ∀ (k : Nat) (ok : Oper), os[k]? = some ok → ok.dst = some t → o.dst = some t → False := by
      intro k ok hk dk d0
      simp only [dstOnce, d0] at h
      have : bitB (dstM os) t = true := dstM_iff.2 ⟨ok, List.mem_of_getElem? hk, dk⟩
      rw [this] at h
      cases h
    cases i with
    | zero =>
      simp at hi; subst hi
      cases j with
      | zero => rfl
      | succ j => exact (no j oj (by simpa using hj) dj di).elim
    | succ i =>
      cases j with
      | zero => simp at hj; subst hj; exact (no i oi (by simpa using hi) di dj).elim
      | succ j => rw [dstOnce_spec hos i j oi oj t (by simpa using hi) (by simpa using hj) di dj]

theorem okOps_spec {all : List Oper} {Mk : Nat} : ∀ {l : List Oper} {k : Nat}, okOps all Mk l k = true → ∀ (i : Nat) (o : Oper), l[i]? = some o → okOp all Mk (k + i) o = true
  | [], _, _, i, o, hi => by simp at hi
  | p :: ps, k, h, i, o, hi => by
    simp only [okOps] at h
    cases hp : okOp all Mk k p with
    | false => rw [hp] at h; cases h
    | true =>
      rw [hp] at h
      cases i with
      | zero => simp at hi; subst hi; exact hp
      | succ i => have := okOps_spec (k := k + 1) h i o (by simpa using hi); rw [show k + (i + 1) = k + 1 + i by omega]; exact this

theorem predD_spec {all : List Oper} {t : Tmp} : ∀ {es : List Edge}, bitB (predD all es) t = true → ∃ e ∈ es, Region.binds .any e = true ∧ ∃ o, all[e.on]? = some o ∧ o.dst = some t
  | [], h => by simp [predD, bitB_zero] at h
  | e :: es, h => by
    simp only [predD] at h
    have hrec : bitB (predD all es) t = true → ∃ x ∈ e :: es, Region.binds .any x = true ∧ ∃ o, all[x.on]? = some o ∧ o.dst = some t := fun h => by
      obtain ⟨x, hx, r⟩ := predD_spec h; exact ⟨x, by simp [hx], r⟩
    cases hb : Region.binds .any e with
    | false => rw [hb] at h; exact hrec h
    | true =>
      rw [hb] at h
      simp only [cond_true] at h
      split at h
      · rename_i o ho
        split at h
        · rename_i u hu
          rcases setB_inv h with rfl | h
          · exact ⟨e, by simp, hb, o, ho, hu⟩
          · exact hrec h
        · exact hrec h
      · exact hrec h

theorem tmpsIn_spec {Mk Qk : Nat} : ∀ {l : List Operand}, tmpsIn Mk Qk l = true → ∀ t, .tmp t ∈ l → bitB Mk t = true → bitB Qk t = true
  | [], _, t, ht, _ => by simp at ht
  | x :: l, h, t, ht, hm => by
    have hrec : tmpsIn Mk Qk l = true := by
      cases x <;> simp only [tmpsIn] at h <;> try exact h
      rename_i u
      cases h1 : bitB Mk u <;> cases h2 : bitB Qk u <;> rw [h1] at h <;> simp only [cond_true, cond_false] at h <;> try exact h
      all_goals (rw [h2] at h; first | exact h | cases h)
    rcases List.mem_cons.1 ht with e | ht
    · subst e
      simp only [tmpsIn, hm, cond_true] at h
      cases h2 : bitB Qk t with
      | true => rfl
      | false => rw [h2] at h; cases h
    · exact tmpsIn_spec hrec t ht hm

theorem readsT_of {t : Tmp} : ∀ {l : List Operand}, .tmp t ∈ l → readsT t l = true
  | [], h => by simp at h
  | x :: l, h => by
    rcases List.mem_cons.1 h with e | h
    · subst e; simp [readsT]
    · have ih := readsT_of h
      cases x <;> simp only [readsT] <;> try exact ih
      rename_i u
      cases Nat.beq u t <;> first | rfl | exact ih
theorem hasEdge_iff {j : Nat} : ∀ {es : List Edge}, hasEdge j es = true ↔ ∃ e ∈ es, Region.binds .any e = true ∧ e.on = j
  | [] => by simp [hasEdge]
  | e :: es => by
    have ih := hasEdge_iff (j := j) (es := es)
    simp only [hasEdge, List.mem_cons, exists_eq_or_imp]
    cases hb : Region.binds .any e with
    | false => simp only [cond_false, ih]; simp
    | true =>
      cases hj : Nat.beq e.on j with
      | true => simp only [cond_true, true_iff]; exact .inl ⟨trivial, Nat.eq_of_beq_eq_true hj⟩
      | false =>
        simp only [cond_true, cond_false, ih]
        constructor
        · exact .inr
        · rintro (⟨_, h⟩ | h)
          · exact absurd h (Nat.ne_of_beq_eq_false hj)
          · exact h
theorem lateT_of {t : Tmp} {i : Nat} : ∀ {l : List Oper} {k : Oper}, k ∈ l → readsT t k.op.operands.toList = true → hasEdge i k.after.toList = false → lateT t i l = true
  | [], _, h, _, _ => by simp at h
  | x :: l, k, h, h1, h2 => by
    simp only [lateT]
    rcases List.mem_cons.1 h with e | h
    · subst e; rw [h1, h2]; rfl
    · have ih := lateT_of h h1 h2
      cases readsT t x.op.operands.toList <;> cases hasEdge i x.after.toList <;> first | rfl | exact ih
theorem antiD_spec {i : Nat} {t : Tmp} : ∀ {l : List Oper}, bitB (antiD i l) t = true → ∃ k ∈ l, hasEdge i k.after.toList = true ∧ k.dst = some t
  | [], h => by simp [antiD, bitB_zero] at h
  | k :: ks, h => by
    simp only [antiD] at h
    have hrec : bitB (antiD i ks) t = true → ∃ x ∈ k :: ks, hasEdge i x.after.toList = true ∧ x.dst = some t := fun h => by
      obtain ⟨x, hx, r⟩ := antiD_spec h; exact ⟨x, by simp [hx], r⟩
    cases hb : hasEdge i k.after.toList with
    | false => rw [hb] at h; exact hrec h
    | true =>
      rw [hb] at h
      simp only [cond_true] at h
      split at h
      · rename_i u hu
        rcases setB_inv h with rfl | h
        · exact ⟨k, by simp, hb, hu⟩
        · exact hrec h
      · exact hrec h
theorem lor_bit (a b j : Nat) : bitB (Nat.lor a b) j = (bitB a j || bitB b j) := by
  rw [bitB_eq, bitB_eq, bitB_eq]
  show (a ||| b).testBit j = _
  rw [Nat.testBit_or]

theorem good_of {ops : Array Oper} (h : okD ops.toList = true) : Good ops := by
  unfold okD at h
  rw [Bool.and_eq_true] at h
  obtain ⟨h1, h2⟩ := h
  have lst : ∀ (i : Nat), ops.toList[i]? = ops[i]? := fun i => by simp
  have one : ∀ (i : Nat) (o : Oper), ops[i]? = some o → okOp ops.toList (dstM ops.toList) i o = true := fun i o hi => by
    have := okOps_spec h2 i o (by rw [lst]; exact hi)
    simpa using this
  have once := fun (i j : Nat) (oi oj : Oper) (t : Tmp) (hi : ops[i]? = some oi) (hj : ops[j]? = some oj) => dstOnce_spec h1 i j oi oj t (by rw [lst]; exact hi) (by rw [lst]; exact hj)
  refine ⟨once, fun i o hi => ?_, fun i j o oj t hi ht hj hd => ?_, fun i g o b hi hg => ?_, fun i o cs b hi he => ?_⟩
  · have := one i o hi
    unfold okOp at this
    rw [Bool.and_eq_true] at this
    intro e he hb
    exact ahead_iff.1 this.1 e (by simpa using he) hb
  · have := one i o hi
    unfold okOp at this
    rw [Bool.and_eq_true, Bool.and_eq_true] at this
    have hm : bitB (dstM ops.toList) t = true := dstM_iff.2 ⟨oj, List.mem_of_getElem? (by rw [lst]; exact hj), hd⟩
    have hq := tmpsIn_spec this.2.1 t (by simpa using ht) hm
    rw [lor_bit, Bool.or_eq_true] at hq
    rcases hq with hq | hq
    · obtain ⟨e, he, hb, o', ho', hd'⟩ := predD_spec hq
      rw [lst] at ho'
      exact .inl ⟨e, by simpa using he, hb, once _ _ _ _ _ ho' hj hd' hd⟩
    · obtain ⟨k, hk, hek, hdk⟩ := antiD_spec hq
      obtain ⟨j', hj'⟩ := List.mem_iff_getElem?.1 hk
      rw [lst] at hj'
      have hjj := once _ _ _ _ _ hj' hj hdk hd
      subst hjj
      rw [hj] at hj'; cases hj'
      cases hwait : hasEdge j' o.after.toList with
      | true =>
        obtain ⟨e, he, hb, hon⟩ := hasEdge_iff.1 hwait
        exact .inl ⟨e, by simpa using he, hb, hon⟩
      | false =>
        obtain ⟨e, he, hb, hon⟩ := hasEdge_iff.1 hek
        refine .inr ⟨?_, e, by simpa using he, hb, hon⟩
        unfold lateB
        rw [hd]
        exact lateT_of (List.mem_of_getElem? (by rw [lst]; exact hi)) (readsT_of (by simpa using ht)) hwait
  · have := one i o hi
    unfold okOp at this
    rw [Bool.and_eq_true, Bool.and_eq_true, Bool.and_eq_true] at this
    have hgi := this.2.2.1
    rw [hg] at hgi
    simp only [guardIn] at hgi
    split at hgi
    · rename_i og hog
      rw [lst] at hog
      split at hgi
      · rename_i t ht
        obtain ⟨e, he, hb, o', ho', hd'⟩ := predD_spec hgi
        rw [lst] at ho'
        exact ⟨og, t, hog, ht, e, by simpa using he, hb, once _ _ _ _ _ ho' hog hd' ht⟩
      · cases hgi
    · cases hgi
  · have := one i o hi
    unfold okOp at this
    rw [Bool.and_eq_true, Bool.and_eq_true, Bool.and_eq_true] at this
    have hn := this.2.2.2
    rw [he] at hn
    cases hn

theorem preds_spec {A : Nat} : ∀ {es : List Edge} {j : Nat}, bitB (preds A es) j = true → bitB A j = true ∨ ∃ e ∈ es, Region.binds .any e = true ∧ e.on = j
  | [], j, h => .inl h
  | e :: es, j, h => by
    simp only [preds] at h
    have hrec : bitB (preds A es) j = true → bitB A j = true ∨ ∃ x ∈ e :: es, Region.binds .any x = true ∧ x.on = j := fun h =>
      (preds_spec h).imp id fun ⟨x, hx, r⟩ => ⟨x, by simp [hx], r⟩
    cases hb : Region.binds .any e with
    | false => rw [hb] at h; exact hrec h
    | true =>
      rw [hb] at h
      rcases setB_inv h with rfl | h
      · exact .inr ⟨e, by simp, hb, rfl⟩
      · exact hrec h

theorem preds_sub {A : Nat} : ∀ {es : List Edge} {j : Nat}, bitB A j = true → bitB (preds A es) j = true
  | [], _, h => h
  | e :: es, j, h => by
    have ih := preds_sub (es := es) h
    simp only [preds]
    cases Region.binds .any e with
    | false => exact ih
    | true => exact setB_old ih
theorem anc_sub {all : List Oper} {A j : Nat} (h : bitB A j = true) : ∀ {l : List Oper} {k : Nat}, bitB (anc all l k A) j = true
  | [], _ => h
  | o :: os, k => by
    have ih := anc_sub h (all := all) (l := os) (k := k + 1)
    simp only [anc]
    cases bitB (anc all os (k + 1) A) k with
    | false => exact ih
    | true => exact preds_sub ih

/-- Whatever is waited for, through others too, is in a set that is closed so. -/
theorem anc_spec {all : List Oper} (S : Nat → Prop) (hS : ∀ i o, all[i]? = some o → S i → ∀ e ∈ o.after, Region.binds .any e = true → S e.on) : ∀ {l : List Oper} {k A : Nat}, (∀ i, l[i]? = all[k + i]?) → (∀ j, bitB A j = true → S j) → ∀ j, bitB (anc all l k A) j = true → S j
  | [], _, _, _, hA, j, h => hA j h
  | o :: os, k, A, hl, hA, j, h => by
    have ih := anc_spec S hS (l := os) (k := k + 1) (A := A) (fun i => by have := hl (i + 1); rw [List.getElem?_cons_succ] at this; rw [this]; congr 1; omega) hA
    simp only [anc] at h
    cases hb : bitB (anc all os (k + 1) A) k with
    | false => rw [hb] at h; exact ih j h
    | true =>
      rw [hb] at h
      rcases preds_spec h with h | ⟨e, he, hbi, rfl⟩
      · exact ih j h
      · exact hS k o (by have := hl 0; simpa using this.symm) (ih k hb) e (by simpa using he) hbi

theorem readyL_spec {D : Nat} : ∀ {l : List Oper} {k i : Nat} {o : Oper}, l[i]? = some o → bitB D (k + i) = false → predsIn D o.after.toList = true → k + i ∈ readyL D l k
  | [], _, _, _, h, _, _ => by simp at h
  | p :: ps, k, i, o, h, hb, hp => by
    simp only [readyL]
    cases i with
    | zero =>
      simp at h; subst h
      rw [Nat.add_zero] at hb ⊢
      rw [hb, hp]; simp
    | succ i =>
      have ih := readyL_spec (k := k + 1) (l := ps) (i := i) (o := o) (by simpa using h) (by rw [show k + 1 + i = k + (i + 1) by omega]; exact hb) hp
      rw [show k + 1 + i = k + (i + 1) by omega] at ih
      cases bitB D k with
      | true => exact ih
      | false =>
        cases predsIn D p.after.toList with
        | true => exact List.mem_cons_of_mem _ ih
        | false => exact ih

theorem verL_spec {C : Ctx} {all : List Oper} {D A : Nat} {a : T Value} {s : AS} : ∀ {l : List Oper} {k : Nat}, verL C all D A a s l k = true → ∀ (i : Nat) (o : Oper), l[i]? = some o → bitB D (k + i) = true → bitB A (k + i) = false → verO C all a s o = true
  | [], _, _, i, o, h, _, _ => by simp at h
  | p :: ps, k, h, i, o, hi, hD, hA => by
    simp only [verL] at h
    cases i with
    | zero =>
      simp at hi; subst hi
      rw [Nat.add_zero] at hD hA
      rw [hD, hA] at h
      cases hv : verO C all a s p with
      | true => rfl
      | false => rw [hv] at h; cases h
    | succ i =>
      have hr : verL C all D A a s ps (k + 1) = true := by
        cases h1 : bitB D k <;> cases h2 : bitB A k <;> cases h3 : verO C all a s p <;> simp [h1, h2, h3] at h <;> exact h
      exact verL_spec hr i o (by simpa using hi) (by rw [show k + 1 + i = k + (i + 1) by omega]; exact hD) (by rw [show k + 1 + i = k + (i + 1) by omega]; exact hA)
end Go.Proofs.YtenfkghoolegfaaGreatDoor.Ev
