/- Calls known by a run of their own at a small part of the memory. -/
import Derived.Test.YtneaefgmlmeddaaGreatDoorEvx
import Derived.Test.YtneaefgmlmeddaaGreatDoorFast
set_option linter.unusedVariables false
namespace Go.Proofs.YtneaefgmlmeddaaGreatDoor.Ev
open Go.RowKit
variable {ω : Nat → Value}

/-- The blocks that values name. -/
def refsL (f : Value → Option (List Nat)) : List Value → Option (List Nat)
  | [] => some []
  | v :: vs => match f v, refsL f vs with
    | some a, some b => some (a ++ b)
    | _, _ => none
def refsV : Nat → Value → Option (List Nat)
  | 0, _ => none
  | k + 1, v => match v with
    | .pointer (some a) => some [a.block]
    | .slice (some a) _ _ => some [a.block]
    | .map (some b) => some [b]
    | .iface _ x => refsV k x
    | .agg cs => refsL (refsV k) cs.toList
    | .tuple cs => refsL (refsV k) cs.toList
    | .func (.func _) fs cs => refsL (refsV k) (fs.toList ++ cs.toList)
    | .func _ _ _ => none
    | _ => some []

theorem refsL_mem {f : Value → Option (List Nat)} : ∀ {vs : List Value} {l : List Nat}, refsL f vs = some l → ∀ v ∈ vs, ∃ l', f v = some l' ∧ ∀ b ∈ l', b ∈ l
  | [], _, _, v, hv => by simp at hv
  | x :: vs, l, h, v, hv => by
    unfold refsL at h
    split at h
    · rename_i a b ha hb
      cases h
      rcases List.mem_cons.1 hv with rfl | hv
      · exact ⟨a, ha, fun c hc => List.mem_append_left _ hc⟩
      · obtain ⟨l', h1, h2⟩ := refsL_mem hb v hv
        exact ⟨l', h1, fun c hc => List.mem_append_right _ (h2 c hc)⟩
    · cases h
theorem refsL_of {f : Value → Option (List Nat)} : ∀ {vs : List Value} {l : List Nat}, refsL f vs = some l → ∀ b ∈ l, ∃ v ∈ vs, ∃ l', f v = some l' ∧ b ∈ l'
  | [], _, h, b, hb => by cases h; simp at hb
  | x :: vs, l, h, b, hb => by
    unfold refsL at h
    split at h
    · rename_i p q hp hq
      cases h
      rcases List.mem_append.1 hb with hb | hb
      · exact ⟨x, by simp, p, hp, hb⟩
      · obtain ⟨v, h1, r⟩ := refsL_of hq b hb
        exact ⟨v, by simp [h1], r⟩
    · cases h

theorem getD_mem {cs : Array Value} {i : Nat} (h : i < cs.size) : cs.getD i undef ∈ cs.toList := by
  have : cs.getD i undef = cs[i] := by simp [Array.getD, h]
  rw [this]; simp

/-- Values alike stay so under a map that has the same at the blocks they name. -/
theorem refs_rel {m m2 : M ω} {v v' : Value} (h : VRel m v v') : ∀ {k : Nat} {l : List Nat}, refsV k v = some l → (∀ b ∈ l, m2 b = m b) → VRel m2 v v' := by
  induction h with
  | tok k h => intro _ _ _ _; exact .tok k h
  | any v h => intro _ _ _ _; exact .any v h
  | plain v h => intro _ _ _ _; exact .plain v h
  | ptr a a' h =>
    intro k l hr hb
    cases k with
    | zero => cases hr
    | succ k =>
      cases hr
      obtain ⟨h1, i, h2, h3⟩ := h
      exact .ptr a a' ⟨h1, i, by rw [hb _ (by simp)]; exact h2, h3⟩
  | slice a a' n c c' h hc hn =>
    intro k l hr hb
    cases k with
    | zero => cases hr
    | succ k =>
      cases hr
      have e := hb a.block (by simp)
      obtain ⟨h1, i, h2, h3⟩ := h
      refine .slice a a' n c c' ⟨h1, i, by rw [e]; exact h2, h3⟩ ?_ hn
      exact hc.imp id fun ⟨x1, j, x2, x3⟩ => ⟨x1, j, by rw [e]; exact x2, x3⟩
  | slice0 a a' h =>
    intro k l hr hb
    cases k with
    | zero => cases hr
    | succ k => cases hr; exact .slice0 a a' (h.imp fun i hi => by rw [hb _ (by simp)]; exact hi)
  | map b i h =>
    intro k l hr hb
    cases k with
    | zero => cases hr
    | succ k => cases hr; exact .map b i (by rw [hb _ (by simp)]; exact h)
  | iface t u u' h ih =>
    intro k l hr hb
    cases k with
    | zero => cases hr
    | succ k => exact .iface t u u' (ih hr hb)
  | agg cs cs' hs h ih =>
    intro k l hr hb
    cases k with
    | zero => cases hr
    | succ k =>
      refine .agg cs cs' hs fun i hi => ?_
      obtain ⟨l', h1, h2⟩ := refsL_mem hr _ (getD_mem hi)
      exact ih i hi h1 fun b hb' => hb b (h2 b hb')
  | tuple cs cs' hs h ih =>
    intro k l hr hb
    cases k with
    | zero => cases hr
    | succ k =>
      refine .tuple cs cs' hs fun i hi => ?_
      obtain ⟨l', h1, h2⟩ := refsL_mem hr _ (getD_mem hi)
      exact ih i hi h1 fun b hb' => hb b (h2 b hb')
  | func f fs fs' cs cs' e1 e2 h1 h2 ih1 ih2 =>
    intro k l hr hb
    cases k with
    | zero => cases hr
    | succ k =>
      refine .func f fs fs' cs cs' e1 e2 (fun i hi => ?_) (fun i hi => ?_)
      · obtain ⟨l', g1, g2⟩ := refsL_mem hr _ (List.mem_append_left _ (getD_mem hi))
        exact ih1 i hi g1 fun b hb' => hb b (g2 b hb')
      · obtain ⟨l', g1, g2⟩ := refsL_mem hr _ (List.mem_append_right _ (getD_mem hi))
        exact ih2 i hi g1 fun b hb' => hb b (g2 b hb')
  | yield b i h =>
    intro k l hr hb
    cases k with
    | zero => cases hr
    | succ k => cases hr

theorem mem_getD {cs : Array Value} {v : Value} (h : v ∈ cs.toList) : ∃ i, i < cs.size ∧ cs.getD i undef = v := by
  obtain ⟨i, hi⟩ := List.mem_iff_getElem?.1 h
  have hi' : cs[i]? = some v := by simpa using hi
  obtain ⟨h1, h2⟩ := Array.getElem?_eq_some_iff.1 hi'
  exact ⟨i, h1, by simp [Array.getD, h1, h2]⟩
/-- The blocks that values alike name are mapped. -/
theorem refs_map {m : M ω} {v v' : Value} (h : VRel m v v') : ∀ {k : Nat} {l : List Nat}, refsV k v = some l → ∀ b ∈ l, ∃ i, m b = some i := by
  induction h with
  | tok k h => intro k l hr b hb; cases k <;> cases hr; simp at hb
  | any v h => intro k l hr b hb; cases k <;> cases hr; simp at hb
  | plain v h =>
    intro k l hr b hb
    cases k with
    | zero => cases hr
    | succ k =>
      have : l = [] := by
        unfold plainV at h
        split at h <;> first | (cases hr; rfl) | (cases h; done)
      subst this; simp at hb
  | ptr a a' h =>
    intro k l hr b hb
    cases k with
    | zero => cases hr
    | succ k => cases hr; obtain ⟨_, i, h2, _⟩ := h; simp at hb; subst hb; exact ⟨i, h2⟩
  | slice a a' n c c' h hc hn =>
    intro k l hr b hb
    cases k with
    | zero => cases hr
    | succ k => cases hr; obtain ⟨_, i, h2, _⟩ := h; simp at hb; subst hb; exact ⟨i, h2⟩
  | slice0 a a' h =>
    intro k l hr b hb
    cases k with
    | zero => cases hr
    | succ k => cases hr; simp at hb; subst hb; exact h
  | map c i h =>
    intro k l hr b hb
    cases k with
    | zero => cases hr
    | succ k => cases hr; simp at hb; subst hb; exact ⟨i, h⟩
  | iface t u u' h ih =>
    intro k l hr b hb
    cases k with
    | zero => cases hr
    | succ k => exact ih hr b hb
  | agg cs cs' hs h ih =>
    intro k l hr b hb
    cases k with
    | zero => cases hr
    | succ k =>
      obtain ⟨v, h1, l', h2, h3⟩ := refsL_of hr b hb
      obtain ⟨i, hi, rfl⟩ := mem_getD h1
      exact ih i hi h2 b h3
  | tuple cs cs' hs h ih =>
    intro k l hr b hb
    cases k with
    | zero => cases hr
    | succ k =>
      obtain ⟨v, h1, l', h2, h3⟩ := refsL_of hr b hb
      obtain ⟨i, hi, rfl⟩ := mem_getD h1
      exact ih i hi h2 b h3
  | func f fs fs' cs cs' e1 e2 h1 h2 ih1 ih2 =>
    intro k l hr b hb
    cases k with
    | zero => cases hr
    | succ k =>
      obtain ⟨v, g1, l', g2, g3⟩ := refsL_of hr b hb
      rcases List.mem_append.1 g1 with g1 | g1
      · obtain ⟨i, hi, rfl⟩ := mem_getD g1
        exact ih1 i hi g2 b g3
      · obtain ⟨i, hi, rfl⟩ := mem_getD g1
        exact ih2 i hi g2 b g3
  | yield c i h =>
    intro k l hr b hb
    cases k with
    | zero => cases hr
    | succ k => cases hr

/-! Objects. -/
noncomputable def refsO : AObj → Option (List Nat)
  | .cells k => match k.c.range 0 k.len with
    | some l => refsL (refsV 10) l
    | none => none
  | .map es _ => refsL (refsV 10) (es.map (·.val))
  | _ => none
def eqBo (a b : Bool) : Bool := cond a b (!b)
theorem eqBo_sound {a b : Bool} (h : eqBo a b = true) : a = b := by cases a <;> cases b <;> first | rfl | cases h
def eqE : List MapEntry → List MapEntry → Bool
  | [], [] => true
  | e :: es, f :: fs => veq 10 e.key f.key && (veq 10 e.val f.val && (Nat.beq e.born f.born && eqE es fs))
  | _, _ => false
theorem eqE_sound : ∀ {es fs : List MapEntry}, eqE es fs = true → es = fs
  | [], [], _ => rfl
  | [], _ :: _, h => by cases h
  | _ :: _, [], h => by cases h
  | ⟨k, v, b⟩ :: es, ⟨k', v', b'⟩ :: fs, h => by
    simp only [eqE, Bool.and_eq_true] at h
    obtain ⟨h1, h2, h3, h4⟩ := h
    rw [veq_sound _ _ _ h1, veq_sound _ _ _ h2, Nat.eq_of_beq_eq_true h3, eqE_sound h4]
noncomputable def eqO : AObj → AObj → Bool
  | .cells k, .cells k' => Nat.beq k.len k'.len && (Nat.beq k.elem k'.elem && (Nat.beq k.esz k'.esz && (eqBo k.opn k'.opn && (match k.c.range 0 k.len, k'.c.range 0 k'.len with
    | some l, some l' => eqL (veq 10) l l'
    | _, _ => false))))
  | .map es c, .map es' c' => Nat.beq c c' && eqE es es'
  | _, _ => false
/-- What two objects alike come to. -/
theorem eqO_inv {o o' : AObj} (h : eqO o o' = true) : (∃ k k', o = .cells k ∧ o' = .cells k' ∧ k.len = k'.len ∧ k.elem = k'.elem ∧ k.esz = k'.esz ∧ k.opn = k'.opn ∧ ∀ j, j < k.len → k.c.get j = k'.c.get j) ∨ ∃ es c, o = .map es c ∧ o' = .map es c := by
  unfold eqO at h
  split at h
  · rename_i k k'
    simp only [Bool.and_eq_true] at h
    obtain ⟨h1, h2, h3, h4, h5⟩ := h
    have e1 := Nat.eq_of_beq_eq_true h1
    refine .inl ⟨k, k', rfl, rfl, e1, Nat.eq_of_beq_eq_true h2, Nat.eq_of_beq_eq_true h3, eqBo_sound h4, fun j hj => ?_⟩
    split at h5
    · rename_i l l' hl hl'
      have e := eqL_sound (veq_sound 10) h5
      subst e
      have g1 := (T.range_spec _ _ _ _ hl).2 j hj
      have g2 := (T.range_spec _ _ _ _ hl').2 j (by rw [← e1]; exact hj)
      rw [Nat.zero_add] at g1 g2
      rw [g1, g2]
    · cases h5
  · rename_i es c es' c'
    rw [Bool.and_eq_true] at h
    rw [Nat.eq_of_beq_eq_true h.1, eqE_sound h.2]
    exact .inr ⟨_, _, rfl, rfl⟩
  · cases h
theorem eqO_alive {o o' : AObj} (h : eqO o o' = true) : o.alive = true ∧ o'.alive = true := by
  rcases eqO_inv h with ⟨k, k', rfl, rfl, _⟩ | ⟨es, c, rfl, rfl⟩ <;> exact ⟨rfl, rfl⟩
section
variable {m m2 : M ω} {w w2 : World} {i : Info}
theorem eqO_rel {o o' : AObj} (h : eqO o o' = true) (hr : ORel m w i o) : ORel m w i o' := by
  rcases eqO_inv h with ⟨k, k', rfl, rfl, e1, e2, e3, e4, e5⟩ | ⟨es, c, rfl, rfl⟩
  · obtain ⟨a1, a2, a3, a4, c', fz, b1, b2, b3, b4⟩ := hr
    refine ⟨by rw [← e1]; exact a1, by rw [← e4]; exact a2, by rw [← e3]; exact a3, by rw [← e1]; exact a4, c', fz, by rw [← e2]; exact b1, b2, fun j hj => ?_, by rw [← e2]; exact b4⟩
    rw [← e1] at hj
    obtain ⟨v, v', x1, x2⟩ := b3 j hj
    exact ⟨v, v', by rw [← e5 j hj]; exact x1, x2⟩
  · exact hr
theorem eqO_rel' {o o' : AObj} (h : eqO o o' = true) (hr : ORel m w i o') : ORel m w i o := by
  rcases eqO_inv h with ⟨k, k', rfl, rfl, e1, e2, e3, e4, e5⟩ | ⟨es, c, rfl, rfl⟩
  · obtain ⟨a1, a2, a3, a4, c', fz, b1, b2, b3, b4⟩ := hr
    refine ⟨by rw [e1]; exact a1, by rw [e4]; exact a2, by rw [e3]; exact a3, by rw [e1]; exact a4, c', fz, by rw [e2]; exact b1, b2, fun j hj => ?_, by rw [e2]; exact b4⟩
    obtain ⟨v, v', x1, x2⟩ := b3 j (by rw [← e1]; exact hj)
    exact ⟨v, v', by rw [e5 j hj]; exact x1, x2⟩
  · exact hr
/-- An object that names only such blocks. -/
theorem obj_rel {o : AObj} {l : List Nat} (h : refsO o = some l) (hm : ∀ b ∈ l, m2 b = m b) (hr : ORel m w i o) : ORel m2 w i o := by
  unfold refsO at h
  split at h
  · rename_i k
    split at h
    · rename_i cs hcs
      obtain ⟨a1, a2, a3, a4, c', fz, b1, b2, b3, b4⟩ := hr
      refine ⟨a1, a2, a3, a4, c', fz, b1, b2, fun j hj => ?_, b4⟩
      obtain ⟨v, v', x1, x2, x3⟩ := b3 j hj
      have g := (T.range_spec _ _ _ _ hcs).2 j hj
      rw [Nat.zero_add, x1] at g
      obtain ⟨l', y1, y2⟩ := refsL_mem h v (List.mem_of_getElem? g.symm)
      exact ⟨v, v', x1, x2, refs_rel x3 y1 fun b hb => hm b (y2 b hb)⟩
    · cases h
  · rename_i es c
    obtain ⟨es', b1, b2, b3⟩ := hr
    refine ⟨es', b1, b2, fun k e e' he he' => ?_⟩
    obtain ⟨x1, x2, x3, x4⟩ := b3 k e e' he he'
    obtain ⟨l', y1, y2⟩ := refsL_mem h e.val (List.mem_map.2 ⟨e, List.mem_of_getElem? he, rfl⟩)
    exact ⟨x1, x2, refs_rel x3 y1 fun b hb => hm b (y2 b hb), x4⟩
  · cases h
theorem obj_map {o : AObj} {l : List Nat} (h : refsO o = some l) (hr : ORel m w i o) : ∀ b ∈ l, ∃ j, m b = some j := by
  intro b hb
  unfold refsO at h
  split at h
  · rename_i k
    split at h
    · rename_i cs hcs
      obtain ⟨a1, a2, a3, a4, c', fz, b1, b2, b3, b4⟩ := hr
      obtain ⟨v, g1, l', g2, g3⟩ := refsL_of h b hb
      obtain ⟨j, hj⟩ := List.mem_iff_getElem?.1 g1
      have hlen := (T.range_spec _ _ _ _ hcs).1
      have hjl : j < k.len := by rw [← hlen]; exact (List.getElem?_eq_some_iff.1 hj).1
      have g := (T.range_spec _ _ _ _ hcs).2 j hjl
      obtain ⟨u, u', x1, x2, x3⟩ := b3 j hjl
      rw [Nat.zero_add, x1, hj] at g
      cases g
      exact refs_map x3 g2 b g3
    · cases h
  · rename_i es c
    obtain ⟨es', b1, b2, b3⟩ := hr
    obtain ⟨v, g1, l', g2, g3⟩ := refsL_of h b hb
    obtain ⟨e, he, rfl⟩ := List.mem_map.1 g1
    obtain ⟨k, hk⟩ := List.mem_iff_getElem?.1 he
    have hkl : k < es'.length := by rw [← b2]; exact (List.getElem?_eq_some_iff.1 hk).1
    obtain ⟨x1, x2, x3, x4⟩ := b3 k e _ hk (List.getElem?_eq_getElem hkl)
    exact refs_map x3 g2 b g3
  · cases h
end

/-! Part of a memory, as a list. -/
noncomputable def lay : List (Nat × AObj) → T AObj → T AObj
  | [], t => t
  | (b, o) :: r, t => lay r (t.put b o)
def keyB (b : Nat) : List (Nat × AObj) → Bool
  | [] => false
  | (c, _) :: r => cond (Nat.beq b c) true (keyB b r)
theorem keyB_iff {b : Nat} : ∀ {l : List (Nat × AObj)}, keyB b l = true ↔ ∃ o, (b, o) ∈ l
  | [] => by simp [keyB]
  | (c, p) :: r => by
    have ih := keyB_iff (b := b) (l := r)
    simp only [keyB]
    cases hb : Nat.beq b c with
    | true =>
      obtain rfl := Nat.eq_of_beq_eq_true hb
      simp only [cond_true, true_iff]
      exact ⟨p, by simp⟩
    | false =>
      have hne := Nat.ne_of_beq_eq_false hb
      simp only [cond_false]
      rw [ih]
      constructor
      · rintro ⟨o, ho⟩; exact ⟨o, by simp [ho]⟩
      · rintro ⟨o, ho⟩
        rcases List.mem_cons.1 ho with e | ho
        · cases e; exact absurd rfl hne
        · exact ⟨o, ho⟩
theorem lay_get : ∀ {l : List (Nat × AObj)} {t : T AObj} {b : Nat}, (keyB b l = true ∧ ∃ o, (b, o) ∈ l ∧ (lay l t).get b = some o) ∨ (keyB b l = false ∧ (lay l t).get b = t.get b)
  | [], t, b => .inr ⟨rfl, rfl⟩
  | (c, p) :: r, t, b => by
    have ih := lay_get (l := r) (t := t.put c p) (b := b)
    simp only [keyB, lay]
    rcases ih with ⟨h1, o, h2, h3⟩ | ⟨h1, h2⟩
    · exact .inl ⟨by rw [h1]; cases Nat.beq b c <;> rfl, o, by simp [h2], h3⟩
    · rw [T.get_put] at h2
      cases hb : Nat.beq b c with
      | true =>
        obtain rfl := Nat.eq_of_beq_eq_true hb
        rw [if_pos rfl] at h2
        exact .inl ⟨rfl, p, by simp, h2⟩
      | false =>
        rw [if_neg (Nat.ne_of_beq_eq_false hb)] at h2
        exact .inr ⟨h1, h2⟩
/-- All of them stand in a memory. -/
noncomputable def allIn (t : T AObj) : List (Nat × AObj) → Bool
  | [] => true
  | (b, o) :: r => (match t.get b with
    | some p => eqO p o
    | none => false) && allIn t r
theorem allIn_spec {t : T AObj} : ∀ {l : List (Nat × AObj)}, allIn t l = true → ∀ b o, (b, o) ∈ l → ∃ p, t.get b = some p ∧ eqO p o = true
  | [], _, b, o, h => by simp at h
  | (c, q) :: r, h, b, o, hb => by
    unfold allIn at h
    rw [Bool.and_eq_true] at h
    rcases List.mem_cons.1 hb with e | hb
    · cases e
      have h1 := h.1
      split at h1
      · rename_i p hp; exact ⟨p, hp, h1⟩
      · cases h1
    · exact allIn_spec h.2 b o hb
/-- All blocks named lie in a set. -/
def subB (f : Nat → Bool) : Option (List Nat) → Bool
  | some l => l.all f
  | none => false
theorem subB_spec {f : Nat → Bool} {x : Option (List Nat)} (h : subB f x = true) : ∃ l, x = some l ∧ ∀ b ∈ l, f b = true := by
  cases x with
  | none => cases h
  | some l => exact ⟨l, rfl, fun b hb => List.all_eq_true.1 h b hb⟩
noncomputable def closedO (f : Nat → Bool) : List (Nat × AObj) → Bool
  | [] => true
  | (_, o) :: r => subB f (refsO o) && closedO f r
theorem closedO_spec {f : Nat → Bool} : ∀ {l : List (Nat × AObj)}, closedO f l = true → ∀ b o, (b, o) ∈ l → ∃ k, refsO o = some k ∧ ∀ c ∈ k, f c = true
  | [], _, b, o, h => by simp at h
  | (c, q) :: r, h, b, o, hb => by
    unfold closedO at h
    rw [Bool.and_eq_true] at h
    rcases List.mem_cons.1 hb with e | hb
    · cases e; exact subB_spec h.1
    · exact closedO_spec h.2 b o hb
/-- What is named through others. -/
noncomputable def reach : List Nat → List (Nat × AObj) → List Nat
  | D, [] => D
  | D, (b, o) :: r => cond (D.any (Nat.beq b)) (reach (D ++ (refsO o).getD []) r) (reach D r)
def keysIn (f : Nat → Bool) : List (Nat × AObj) → Bool
  | [] => true
  | (b, _) :: r => f b && keysIn f r
theorem keysIn_spec {f : Nat → Bool} : ∀ {l : List (Nat × AObj)}, keysIn f l = true → ∀ b o, (b, o) ∈ l → f b = true
  | [], _, b, o, h => by simp at h
  | (c, q) :: r, h, b, o, hb => by
    unfold keysIn at h
    rw [Bool.and_eq_true] at h
    rcases List.mem_cons.1 hb with e | hb
    · cases e; exact h.1
    · exact keysIn_spec h.2 b o hb

/-- A call at a part of a memory, and what it comes to. -/
structure Lit where
  vs : List Value
  n0 : Nat
  pre : List (Nat × AObj)
  v1 : Value
  n1 : Nat
  post : List (Nat × AObj)
noncomputable def Lit.near (L : Lit) (b : Nat) : Bool := keyB b L.pre || (Nat.ble L.n0 b && Nat.blt b L.n1)
noncomputable def Lit.ok (L : Lit) : Bool :=
  Nat.ble L.n0 L.n1 && (keysIn (fun b => Nat.blt b L.n0 && (reach ((refsL (refsV 10) L.vs).getD []) L.pre).any (Nat.beq b)) L.pre && (keysIn L.near L.post && (subB (fun b => keyB b L.pre) (refsL (refsV 10) L.vs) && (closedO (fun b => keyB b L.pre) L.pre && (closedO L.near L.post && subB L.near (refsV 10 L.v1))))))
noncomputable def unch (t : T AObj) (post : List (Nat × AObj)) : List (Nat × AObj) → Bool
  | [] => true
  | (b, o) :: r => cond (keyB b post) (unch t post r) ((match t.get b with
    | some p => eqO p o
    | none => false) && unch t post r)
theorem unch_spec {t : T AObj} {post : List (Nat × AObj)} : ∀ {l : List (Nat × AObj)}, unch t post l = true → ∀ b o, (b, o) ∈ l → keyB b post = false → ∃ p, t.get b = some p ∧ eqO p o = true
  | [], _, b, o, h, _ => by simp at h
  | (c, q) :: r, h, b, o, hb, hk => by
    unfold unch at h
    cases hc : keyB c post with
    | true =>
      rw [hc] at h
      rcases List.mem_cons.1 hb with e | hb
      · cases e; rw [hk] at hc; cases hc
      · exact unch_spec h b o hb hk
    | false =>
      rw [hc] at h
      simp only [cond_false, Bool.and_eq_true] at h
      rcases List.mem_cons.1 hb with e | hb
      · cases e
        have h1 := h.1
        split at h1
        · rename_i p hp; exact ⟨p, hp, h1⟩
        · cases h1
      · exact unch_spec h.2 b o hb hk
noncomputable def Lit.res (L : Lit) (r : Option (Value × AS)) : Bool := match r with
  | some (v, s) => veq 10 v L.v1 && (Nat.beq s.n L.n1 && (allIn s.h L.post && unch s.h L.post L.pre))
  | none => false
noncomputable def Lit.st (L : Lit) : AS := ⟨L.n0, lay L.pre .leaf⟩
noncomputable def spLit (L : Lit) : SpF := fun vs s =>
  cond (eqL (veq 10) vs L.vs && (Nat.beq s.n L.n0 && allIn s.h L.pre)) (some (L.v1, ⟨L.n1, lay L.post s.h⟩)) none

theorem leaf_get (b : Nat) : (T.leaf : T AObj).get b = none := rfl
theorem any_mem {b : Nat} {D : List Nat} (h : D.any (Nat.beq b) = true) : b ∈ D := by
  obtain ⟨c, hc, hb⟩ := List.any_eq_true.1 h
  rw [Nat.eq_of_beq_eq_true hb]; exact hc

section
variable {B : Nat} {X : Aux} {m : M ω} {s : AS} {w : World}
theorem reach_map (hs : SR B X m s w) : ∀ {pre : List (Nat × AObj)} {D : List Nat}, (∀ b o, (b, o) ∈ pre → ∃ p, s.h.get b = some p ∧ eqO p o = true) → (∀ b ∈ D, ∃ i, m b = some i) → ∀ b ∈ reach D pre, ∃ i, m b = some i
  | [], D, _, hD, b, hb => hD b hb
  | (c, o) :: r, D, hp, hD, b, hb => by
    unfold reach at hb
    cases hc : D.any (Nat.beq c) with
    | false => rw [hc] at hb; exact reach_map hs (fun b o h => hp b o (by simp [h])) hD b hb
    | true =>
      rw [hc] at hb
      refine reach_map hs (fun b o h => hp b o (by simp [h])) (fun d hd => ?_) b hb
      rcases List.mem_append.1 hd with hd | hd
      · exact hD d hd
      · obtain ⟨i, hi⟩ := hD c (any_mem hc)
        obtain ⟨p, g1, g2⟩ := hp c o (by simp)
        have hr := eqO_rel g2 (hs.rel c p i g1 (eqO_alive g2).1 hi).1
        cases hro : refsO o with
        | none => rw [hro] at hd; simp at hd
        | some l => rw [hro] at hd; exact obj_map hro hr d hd
end

open Classical in
theorem spLit_sp (hh : Hands ω) {ext : List (FuncId × SpF)} (he : ∀ p ∈ ext, ∀ C : Ctx, C.P = Tryz.prog → GlobOK C → SpOK ω C p.1 p.2) {fuel : Nat} {g : FuncId} (L : Lit) (hok : L.ok = true) (hsp : spFind (ext ++ spL) g = none) (hrun : L.res ((ev (CX ext [] [] noCnv noRd) fuel).f g L.vs L.st) = true) :
    ∀ C : Ctx, C.P = Tryz.prog → GlobOK C → SpOK ω C g (spLit L) := by
  intro C hP hG vs s v s' hv B X m w args hs hl hB
  unfold spLit at hv
  cases hcond : (eqL (veq 10) vs L.vs && (Nat.beq s.n L.n0 && allIn s.h L.pre)) with
  | false => rw [hcond] at hv; cases hv
  | true =>
    rw [hcond] at hv
    cases hv
    simp only [Bool.and_eq_true] at hcond
    obtain ⟨c1, c2, c3⟩ := hcond
    have evs := eqL_sound (veq_sound 10) c1
    subst evs
    have en := Nat.eq_of_beq_eq_true c2
    have hpre := allIn_spec c3
    unfold Lit.ok at hok
    simp only [Bool.and_eq_true] at hok
    obtain ⟨k1, k2, k3, k4, k5, k6, k7⟩ := hok
    have hn := Nat.le_of_ble_eq_true k1
    obtain ⟨lv, hlv, hlvD⟩ := subB_spec k4
    have hclo := closedO_spec k5
    have hcl1 := closedO_spec k6
    obtain ⟨lr, hlr, hlrD⟩ := subB_spec k7
    have hkey : ∀ b, keyB b L.pre = true → b < L.n0 ∧ ∃ i, m b = some i := by
      intro b hb
      obtain ⟨o, ho⟩ := keyB_iff.1 hb
      have := keysIn_spec k2 b o ho
      rw [Bool.and_eq_true, Nat.blt_eq] at this
      refine ⟨this.1, reach_map hs hpre (fun d hd => ?_) b (any_mem this.2)⟩
      rw [hlv] at hd
      obtain ⟨x, g1, l', g2, g3⟩ := refsL_of hlv d hd
      obtain ⟨j, hj⟩ := List.mem_iff_getElem?.1 g1
      obtain ⟨x', _, hx⟩ := hl.at_ hj
      exact refs_map hx g2 d g3
    -- the part
    let m0 : M ω := fun b => if keyB b L.pre = true then m b else none
    have m0in : ∀ b, keyB b L.pre = true → m0 b = m b := fun b hb => if_pos hb
    have m0some : ∀ b i, m0 b = some i → keyB b L.pre = true ∧ m b = some i := by
      intro b i hb
      by_cases hk : keyB b L.pre = true
      · exact ⟨hk, (m0in b hk).symm.trans hb⟩
      · have : m0 b = none := if_neg hk
        rw [this] at hb; cases hb
    let Old : Nat → Prop := fun r => (∃ b o i, s.h.get b = some o ∧ o.alive = true ∧ m b = some i ∧ i.r = r ∧ keyB b L.pre = false) ∨ (X.K r).isSome = true
    let X' : Aux := ⟨fun _ => none, fun r => if Old r then w.heap[r]? else none⟩
    have hstget : ∀ b o, L.st.h.get b = some o → (b, o) ∈ L.pre := by
      intro b o hb
      rcases lay_get (l := L.pre) (t := T.leaf) (b := b) with ⟨_, p, h2, h3⟩ | ⟨_, h2⟩
      · have : L.st.h.get b = some p := h3
        rw [hb] at this; cases this; exact h2
      · have : L.st.h.get b = none := h2.trans (leaf_get b)
        rw [hb] at this; cases this
    have hs0 : SR B X' m0 L.st w := by
      refine ⟨?_, ?_, ?_, ?_, ?_, ?_, ?_⟩
      · intro b o i hb _ hi
        obtain ⟨hk, hmi⟩ := m0some b i hi
        have hmem := hstget b o hb
        obtain ⟨p, g1, g2⟩ := hpre b o hmem
        obtain ⟨r1, r2, r3⟩ := hs.rel b p i g1 (eqO_alive g2).1 hmi
        obtain ⟨k, q1, q2⟩ := hclo b o hmem
        exact ⟨obj_rel q1 (fun c hc => m0in c (q2 c hc)) (eqO_rel g2 r1), r2, r3⟩
      · intro b c o p i j hb hc _ _ hne hi hj
        obtain ⟨_, hmi⟩ := m0some b i hi
        obtain ⟨_, hmj⟩ := m0some c j hj
        obtain ⟨o', g1, g2⟩ := hpre b o (hstget b o hb)
        obtain ⟨p', g3, g4⟩ := hpre c p (hstget c p hc)
        exact hs.inj b c o' p' i j g1 g3 (eqO_alive g2).1 (eqO_alive g4).1 hne hmi hmj
      · intro b hb
        cases hg : L.st.h.get b with
        | none => rfl
        | some o =>
          have := (hkey b (keyB_iff.2 ⟨o, hstget b o hg⟩)).1
          have hb' : L.n0 ≤ b := hb
          omega
      · intro b hb
        cases hm0 : m0 b with
        | none => rfl
        | some i =>
          have := (hkey b (m0some b i hm0).1).1
          have hb' : L.n0 ≤ b := hb
          omega
      · intro b o hb; cases hb
      · intro r o hr
        have hr' : (if Old r then w.heap[r]? else none) = some o := hr
        by_cases ho : Old r
        · rw [if_pos ho] at hr'
          refine ⟨hr', ?_, ?_⟩
          · rcases ho with ⟨b, p, i, a1, a2, a3, rfl, a5⟩ | hk
            · exact (hs.rel b p i a1 a2 a3).2.1
            · obtain ⟨q, hq⟩ := Option.isSome_iff_exists.1 hk
              exact (hs.kp r q hq).2.1
          · intro b i hb
            obtain ⟨hk, hmi⟩ := m0some b i hb
            rcases ho with ⟨c, p, j, a1, a2, a3, rfl, a5⟩ | hk'
            · obtain ⟨o1, ho1⟩ := keyB_iff.1 hk
              obtain ⟨p1, g1, g2⟩ := hpre b o1 ho1
              exact hs.inj b c p1 p i j g1 a1 (eqO_alive g2).1 a2 (fun e => by rw [e, a5] at hk; cases hk) hmi a3
            · obtain ⟨q, hq⟩ := Option.isSome_iff_exists.1 hk'
              exact (hs.kp r q hq).2.2 b i hmi
        · rw [if_neg ho] at hr'; cases hr'
      · intro b i hb; exact hs.lt b i (m0some b i hb).2
    have hl0 : LRel m0 L.vs args.toList := ⟨hl.1, fun i x x' hx hx' => by
      obtain ⟨l', g1, g2⟩ := refsL_mem hlv x (List.mem_of_getElem? hx)
      exact refs_rel (hl.2 i x x' hx hx') g1 fun b hb => m0in b (hlvD b (g2 b hb))⟩
    have hC : COK ω (CX ext [] [] noCnv noRd) := cxOK hh he (fun f hf => by cases hf) (fun f hf => by cases hf) noCnv_ok noRd
    unfold Lit.res at hrun
    split at hrun
    · rename_i v1 s1 hev
      simp only [Bool.and_eq_true] at hrun
      obtain ⟨r1, r2, r3, r4⟩ := hrun
      have ev1 := veq_sound _ _ _ r1
      subst ev1
      have en1 := Nat.eq_of_beq_eq_true r2
      have hpost := allIn_spec r3
      have hun := unch_spec r4
      have hBs0 : Bs ω (CX ext [] [] noCnv noRd) B w := ⟨hB.le, fun g v h => hB.gl g v (by rw [hG.1]; exact h), fun k h => (by cases h), fun g cs h => hB.iv g cs (by rw [hG.2]; exact h)⟩
      have key := ((sound hC fuel).2.2.2.1 g L.vs L.st L.v1 s1 (by rw [hev]) B X' m0 w args hs0 hl0 hBs0).2 hsp
      refine calls_ok (by rw [hP]; exact key.1 _ _) fun n => ?_
      rw [hP]
      refine (key.2 n).mono ?_
      rintro e w' ⟨v', rfl, m1, hle, hs1, hv1, hb⟩
      refine ⟨v', rfl, ?_⟩
      have hn1 : s1.n = L.n1 := en1
      -- the whole again
      let Mine : Nat → Prop := fun b => keyB b L.pre = true ∨ L.n0 ≤ b
      let m' : M ω := fun b => if Mine b then m1 b else m b
      have m'mine : ∀ b, Mine b → m' b = m1 b := fun b hb => if_pos hb
      have m'old : ∀ b, ¬ Mine b → m' b = m b := fun b hb => if_neg hb
      have nearMine : ∀ b, L.near b = true → Mine b := by
        intro b hb
        unfold Lit.near at hb
        rw [Bool.or_eq_true, Bool.and_eq_true] at hb
        exact hb.imp id fun h => Nat.le_of_ble_eq_true h.1
      have hLe : Le m m' := by
        intro b i hi
        by_cases hk : keyB b L.pre = true
        · rw [m'mine b (.inl hk)]
          exact hle b i ((m0in b hk).trans hi)
        · by_cases hge : L.n0 ≤ b
          · rw [hs.freshM b (by rw [en]; exact hge)] at hi; cases hi
          · rw [m'old b (fun h => h.elim hk hge)]; exact hi
      have hold : ∀ b o i, s.h.get b = some o → o.alive = true → m b = some i → keyB b L.pre = false → ∃ q, X'.K i.r = some q ∧ w'.heap[i.r]? = w.heap[i.r]? ∧ ∀ c j, m1 c = some j → j.r ≠ i.r := by
        intro b o i a1 a2 a3 a4
        have hOld : Old i.r := .inl ⟨b, o, i, a1, a2, a3, rfl, a4⟩
        have hlt := (hs.rel b o i a1 a2 a3).2.2
        have hK : X'.K i.r = some (w.heap[i.r]) := by
          show (if Old i.r then w.heap[i.r]? else none) = _
          rw [if_pos hOld]; exact Array.getElem?_eq_getElem hlt
        obtain ⟨x1, x2, x3⟩ := hs1.kp i.r _ hK
        exact ⟨_, hK, by rw [x1, Array.getElem?_eq_getElem hlt], x3⟩
      have hget : ∀ b o, (lay L.post s.h).get b = some o → (Mine b ∧ ∃ o1, s1.h.get b = some o1 ∧ o1.alive = true ∧ o.alive = true ∧ ∀ i, ORel m1 w' i o1 → ORel m' w' i o) ∨ (¬ Mine b ∧ keyB b L.pre = false ∧ s.h.get b = some o) := by
        intro b o hb
        rcases lay_get (l := L.post) (t := s.h) (b := b) with ⟨_, p, h2, h3⟩ | ⟨hk, h2⟩
        · rw [hb] at h3; cases h3
          obtain ⟨o1, g1, g2⟩ := hpost b o h2
          obtain ⟨k, q1, q2⟩ := hcl1 b o h2
          exact .inl ⟨nearMine b (keysIn_spec k3 b o h2), o1, g1, (eqO_alive g2).1, (eqO_alive g2).2, fun i hi => obj_rel q1 (fun c hc => m'mine c (nearMine c (q2 c hc))) (eqO_rel g2 hi)⟩
        · rw [hb] at h2
          by_cases hkp : keyB b L.pre = true
          · obtain ⟨op, hop⟩ := keyB_iff.1 hkp
            obtain ⟨o', g1, g2⟩ := hpre b op hop
            rw [← h2] at g1; cases g1
            obtain ⟨o1, g3, g4⟩ := hun b op hop hk
            obtain ⟨k, q1, q2⟩ := hclo b op hop
            exact .inl ⟨.inl hkp, o1, g3, (eqO_alive g4).1, (eqO_alive g2).1, fun i hi => eqO_rel' g2 (obj_rel q1 (fun c hc => m'mine c (.inl (q2 c hc))) (eqO_rel g4 hi))⟩
          · have hlt : b < L.n0 := by
              rcases Nat.lt_or_ge b L.n0 with h | h
              · exact h
              · rw [hs.freshH b (by rw [en]; exact h)] at h2; cases h2
            exact .inr ⟨fun h => h.elim hkp (fun h => by omega), by simpa using hkp, h2.symm⟩
      refine ⟨m', hLe, ⟨?_, ?_, ?_, ?_, ?_, ?_, ?_⟩, refs_rel hv1 hlr fun b hb' => m'mine b (nearMine b (hlrD b hb')), hb⟩
      · intro b o i hbo ha hi
        rcases hget b o hbo with ⟨hM, o1, g1, g2, g3, g4⟩ | ⟨hM, hk, g1⟩
        · rw [m'mine b hM] at hi
          obtain ⟨x1, x2, x3⟩ := hs1.rel b o1 i g1 g2 hi
          exact ⟨g4 i x1, x2, x3⟩
        · rw [m'old b hM] at hi
          obtain ⟨x1, x2, x3⟩ := hs.rel b o i g1 ha hi
          obtain ⟨q, y1, y2, y3⟩ := hold b o i g1 ha hi hk
          exact ⟨(x1.other y2).mono hLe, x2, Nat.lt_of_lt_of_le x3 hb.size⟩
      · intro b c o p i j hbo hcp ha hap hne hi hj
        rcases hget b o hbo with ⟨hM, o1, g1, g2, _, _⟩ | ⟨hM, hk, g1⟩
        · rw [m'mine b hM] at hi
          rcases hget c p hcp with ⟨hN, p1, f1, f2, _, _⟩ | ⟨hN, hk', f1⟩
          · rw [m'mine c hN] at hj
            exact hs1.inj b c o1 p1 i j g1 f1 g2 f2 hne hi hj
          · rw [m'old c hN] at hj
            obtain ⟨q, y1, y2, y3⟩ := hold c p j f1 hap hj hk'
            exact y3 b i hi
        · rw [m'old b hM] at hi
          rcases hget c p hcp with ⟨hN, p1, f1, f2, _, _⟩ | ⟨hN, hk', f1⟩
          · rw [m'mine c hN] at hj
            obtain ⟨q, y1, y2, y3⟩ := hold b o i g1 ha hi hk
            exact (y3 c j hj).symm
          · rw [m'old c hN] at hj
            exact hs.inj b c o p i j g1 f1 ha hap hne hi hj
      · intro b hbn
        have hbn' : L.n1 ≤ b := hbn
        rcases lay_get (l := L.post) (t := s.h) (b := b) with ⟨_, p, h2, _⟩ | ⟨_, h2⟩
        · have hnr := keysIn_spec k3 b p h2
          unfold Lit.near at hnr
          rw [Bool.or_eq_true, Bool.and_eq_true, Nat.blt_eq] at hnr
          rcases hnr with h | ⟨_, h⟩
          · have := (hkey b h).1; omega
          · omega
        · exact h2.trans (hs.freshH b (by rw [en]; omega))
      · intro b hbn
        have hbn' : L.n1 ≤ b := hbn
        rw [m'mine b (.inr (by omega))]
        exact hs1.freshM b (by rw [hn1]; exact hbn')
      · intro b o hbo
        obtain ⟨g1, g2⟩ := hs.gh b o hbo
        have hnk : ¬ keyB b L.pre = true := fun h => by
          obtain ⟨i, hi⟩ := (hkey b h).2
          rw [g2] at hi; cases hi
        have hlt : ¬ L.n0 ≤ b := fun h => by rw [hs.freshH b (by rw [en]; exact h)] at g1; cases g1
        refine ⟨?_, (m'old b (fun h => h.elim hnk hlt)).trans g2⟩
        rcases lay_get (l := L.post) (t := s.h) (b := b) with ⟨_, p, h2, _⟩ | ⟨_, h2⟩
        · exact ((nearMine b (keysIn_spec k3 b p h2)).elim hnk hlt).elim
        · exact h2.trans g1
      · intro r o hr
        obtain ⟨g1, g2, g3⟩ := hs.kp r o hr
        have hOld : Old r := .inr (by rw [hr]; rfl)
        have hK : X'.K r = some o := by
          show (if Old r then w.heap[r]? else none) = _
          rw [if_pos hOld]; exact g1
        obtain ⟨x1, x2, x3⟩ := hs1.kp r o hK
        refine ⟨x1, x2, fun b i hi => ?_⟩
        by_cases hM : Mine b
        · rw [m'mine b hM] at hi; exact x3 b i hi
        · rw [m'old b hM] at hi; exact g3 b i hi
      · intro b i hi
        by_cases hM : Mine b
        · rw [m'mine b hM] at hi; exact hs1.lt b i hi
        · rw [m'old b hM] at hi; exact Nat.lt_of_lt_of_le (hs.lt b i hi) hb.size
    · cases hrun

/-! Several of them; else the body. -/
def spOr (k k' : SpF) : SpF := fun vs s => match k vs s with
  | some r => some r
  | none => k' vs s
theorem spOr_sp {C : Ctx} {g : FuncId} {k k' : SpF} (h : SpOK ω C g k) (h' : SpOK ω C g k') : SpOK ω C g (spOr k k') := by
  intro vs s v s' hv
  unfold spOr at hv
  split at hv
  · rename_i r hr
    cases hv
    exact h vs s v s' hr
  · exact h' vs s v s' hv
noncomputable def spBody (ext : List (FuncId × SpF)) (fuel : Nat) (g : FuncId) : SpF := fun vs s => (evR (CX ext [] [] noCnv noRd) fuel).f g vs s
theorem spBody_sp (hh : Hands ω) {ext : List (FuncId × SpF)} (he : ∀ p ∈ ext, ∀ C : Ctx, C.P = Tryz.prog → GlobOK C → SpOK ω C p.1 p.2) {fuel : Nat} {g : FuncId} (hsp : spFind (ext ++ spL) g = none) : ∀ C : Ctx, C.P = Tryz.prog → GlobOK C → SpOK ω C g (spBody ext fuel g) := by
  intro C hP hG vs s v s' hv B X m w args hs hr hB
  have hC : COK ω (CX ext [] [] noCnv noRd) := cxOK hh he (fun f hf => by cases hf) (fun f hf => by cases hf) noCnv_ok noRd
  have hBs0 : Bs ω (CX ext [] [] noCnv noRd) B w := ⟨hB.le, fun g v h => hB.gl g v (by rw [hG.1]; exact h), fun k h => (by cases h), fun g cs h => hB.iv g cs (by rw [hG.2]; exact h)⟩
  unfold spBody at hv
  rw [evR_eq] at hv
  have key := ((sound hC fuel).2.2.2.1 g vs s v s' hv B X m w args hs hr hBs0).2 hsp
  refine calls_ok (by rw [hP]; exact key.1 _ _) fun n => ?_
  rw [hP]
  exact key.2 n
def b8 (n : Nat) : Value := .int .u8 (.ofNat n)
def bs (l : List Nat) : List Value := l.map b8
noncomputable def blk (l : List Value) (n : Nat) (e : TypeId) (z : Nat) (opn str : Bool) : AObj := .cells ⟨T.ofList l 0 .leaf, n, e, z, opn, str⟩
end Go.Proofs.YtneaefgmlmeddaaGreatDoor.Ev
