/- An interpreter over an abstract memory, part s: regions, loops. -/
import Derived.Test.YtenfkghoolegfaaGreatDoorEvr
namespace Go.Proofs.YtenfkghoolegfaaGreatDoor.Ev
open Go.RowKit
variable {ω : Nat → Value}

def SndD (ω : Nat → Value) (C : Ctx) (ih : Fns) : Prop := ∀ (N : Nat) (ops : Array Oper) (D A : Nat) (a : T Value) (s : AS) (af : T Value) (sf : AS), Good ops → ih.d N ops.toList D A a s = some (af, sf) →
  ∀ (q : Bool) (F : Fence) (n : Nat) (Q : Exit → Act → World → Prop) (B : Nat) (X0 : Aux) (L : Array Bool) (act : Act) (w : World) (X : Aux) (m : M ω) (γ : Nat → Nat) (fuel : Nat), FOf q F → DInv C ops N B X0 D A a s L act w X m γ → L.toList.count false ≤ fuel →
  (∀ act' w' m', Le m m' → SR B X0 m' sf w' → TR m' N af act' → act'.defers = act.defers → Below B w w' → Q .normal act' w') → wpAnyIn F n C.P .any ops Q fuel L act w

def SndO (ω : Nat → Value) (C : Ctx) (ih : Fns) : Prop := ∀ (N : Nat) (ops : Array Oper) (k : Nat) (os : List Oper) (a : T Value) (s : AS) (af : T Value) (sf : AS), (∀ i, os[i]? = ops[k + i]?) → ih.o N ops.toList os a s = some (af, sf) →
  ∀ (q : Bool) (F : Fence) (n : Nat) (Q : Exit → Act → World → Prop) (B : Nat) (X : Aux) (m : M ω) (act : Act) (w : World), FOf q F → SR B X m s w → TR m N a act → Bs ω C B w →
  (∀ act' w' m', Le m m' → SR B X m' sf w' → TR m' N af act' → act'.defers = act.defers → Below B w w' → Q .normal act' w') → wpOpsIn F n C.P ops Q ((List.range ops.size).drop k) act w

theorem readyL_mem {D : Nat} : ∀ {l : List Oper} {k j : Nat}, j ∈ readyL D l k → bitB D j = false ∧ ∃ i, j = k + i ∧ i < l.length
  | [], _, _, h => by simp [readyL] at h
  | o :: os, k, j, h => by
    have hrec : j ∈ readyL D os (k + 1) → bitB D j = false ∧ ∃ i, j = k + i ∧ i < (o :: os).length := fun h => by
      obtain ⟨h1, i, h2, h3⟩ := readyL_mem h; exact ⟨h1, i + 1, by omega, by simp; omega⟩
    simp only [readyL] at h
    cases hb : bitB D k with
    | true => rw [hb] at h; exact hrec h
    | false =>
      rw [hb] at h
      simp only [cond_false] at h
      cases hp : predsIn D o.after.toList with
      | false => rw [hp] at h; exact hrec h
      | true =>
        rw [hp] at h
        rcases List.mem_cons.1 h with rfl | h
        · exact ⟨hb, 0, by omega, by simp⟩
        · exact hrec h

theorem count_set {L : Array Bool} {i : Nat} (hi : i < L.size) (hL : L.getD i false = false) : (L.setIfInBounds i true).toList.count false + 1 = L.toList.count false := by
  rw [Array.toList_setIfInBounds, List.count_set (by simpa using hi)]
  have he : L.toList[i]'(by simpa using hi) = false := by
    have : L.getD i false = L.toList[i]'(by simpa using hi) := by simp [hi]
    rw [← this]; exact hL
  have hpos : 0 < L.toList.count false := List.count_pos_iff.2 (he ▸ List.getElem_mem _)
  rw [he]
  show L.toList.count false - (if (false == false) = true then 1 else 0) + (if (true == false) = true then 1 else 0) + 1 = _
  rw [if_pos (by decide), if_neg (by decide)]; omega

section
variable {C : Ctx} {ops : Array Oper} {N B : Nat} {X0 X : Aux} {D A : Nat} {a a' : T Value} {s s' : AS} {L : Array Bool} {act : Act} {w : World} {m : M ω} {γ : Nat → Nat} {ih : Fns}

theorem full (hg : Good ops) (hs : L.size = ops.size) (hr : Region.ready .any ops L = []) : ∀ i, i < ops.size → L.getD i false = true := by
  intro i
  induction i using Nat.strongRecOn with
  | _ i ih =>
    intro hi
    cases hl : L.getD i false with
    | true => rfl
    | false =>
      exfalso
      have ho : ops[i]? = some ops[i] := Array.getElem?_eq_getElem hi
      have : i ∈ Region.ready .any ops L := mem_ready.2 ⟨by rw [← hl]; simp [show i < L.size by omega], _, ho, fun e he hb => by
        have := hg.ahead i _ ho e he hb
        exact ih e.on this (by omega)⟩
      rw [hr] at this; cases this

theorem closed_sound (hC : COK ω C) (hc : SndC ω C ih) (hf : SndF ω C ih) (hd : SndD ω C ih) (hg : Good ops) {af : T Value} {sf : AS} (h : dMore C ih N ops.toList D A a s = some (af, sf)) {q : Bool} {F : Fence} (hF : FOf q F) {n : Nat} {Q : Exit → Act → World → Prop} :
    ∀ (fuel : Nat) (L : Array Bool) (act : Act) (w : World) (X : Aux) (m : M ω), DInv C ops N B X0 D A a s L act w X m γ → L.toList.count false ≤ fuel →
    (∀ act' w' m', Le m m' → SR B X0 m' sf w' → TR m' N af act' → act'.defers = act.defers → Below B w w' → Q .normal act' w') → wpAnyIn F n C.P .any ops Q fuel L act w := by
  unfold dMore at h
  cases hver : verL C ops.toList D A a s ops.toList 0 with
  | false => rw [hver] at h; cases h
  | true =>
  rw [hver] at h
  simp only [cond_true] at h
  have fin : ∀ (L : Array Bool) (act : Act) (w : World) (X : Aux) (m : M ω), DInv C ops N B X0 D A a s L act w X m γ → (∀ i, i < ops.size → L.getD i false = true) →
      (∀ act' w' m', Le m m' → SR B X0 m' sf w' → TR m' N af act' → act'.defers = act.defers → Below B w w' → Q .normal act' w') → Q .normal act w := by
    intro L act w X m hI hall hQ
    have hres : (a, s) = (af, sf) := by
      split at h
      · cases hdn : doneB D ops.toList 0 with
        | true => rw [hdn] at h; cases h; rfl
        | false => rw [hdn] at h; cases h
      · rename_i j hj
        obtain ⟨h1, i, h2, h3⟩ := readyL_mem (D := D) (l := ops.toList) (k := 0) (j := j) (by rw [hj]; simp)
        have := hI.sub j (hall j (by simp at h3; omega))
        rw [h1] at this; cases this
      · cases h
    cases hres
    refine hQ act w m (Le.refl _) (hI.sr.ghosts hI.G (fun r o hr => by rw [hI.K]; exact hr)) ⟨hI.tsize, fun t => hI.tmps t fun i o hi _ _ => hall i (Array.getElem?_eq_some_iff.1 hi).1⟩ rfl (Below.refl _ _)
  intro fuel
  induction fuel with
  | zero =>
    intro L act w X m hI hcount hQ
    have hall : ∀ i, i < ops.size → L.getD i false = true := by
      intro i hi
      have hz : L.toList.count false = 0 := by omega
      have hnm := List.count_eq_zero.1 hz
      cases hl : L.getD i false with
      | true => rfl
      | false =>
        have hi' : i < L.size := by rw [hI.size]; exact hi
        exact absurd (by rw [← hl]; simp [hi']) hnm
    refine ⟨?_, fin L act w X m hI hall hQ⟩
    cases hr : Region.ready .any ops L with
    | nil => rfl
    | cons i l =>
      exfalso
      obtain ⟨h1, o, h2, _⟩ := mem_ready.1 (show i ∈ Region.ready .any ops L by rw [hr]; simp)
      have h3 := hall i (Array.getElem?_eq_some_iff.1 h2).1
      have hi' : i < L.size := by rw [hI.size]; exact (Array.getElem?_eq_some_iff.1 h2).1
      simp [hi'] at h1 h3
      rw [h3] at h1; cases h1
  | succ fuel ihf =>
    intro L act w X m hI hcount hQ
    refine ⟨fun hr => fin L act w X m hI (full hg hI.size hr) hQ, fun i hi => ?_⟩
    obtain ⟨h1, o, ho, hp⟩ := mem_ready.1 hi
    have hlt : i < L.size := by rw [hI.size]; exact (Array.getElem?_eq_some_iff.1 ho).1
    have hL : L.getD i false = false := by simp [hlt] at h1 ⊢; exact h1
    have hcnt := count_set hlt hL
    cases hiD : bitB D i with
    | true =>
      refine free_step hC hg hI hver ho hiD hL hp hF fun act' w' X' m' hI' hle hb hdef => ?_
      exact ihf _ act' w' X' m' hI' (by omega) fun act2 w2 m2 hle2 hs2 hT2 hd2 hb2 => hQ act2 w2 m2 (hle.trans hle2) hs2 hT2 (hd2.trans hdef) (hb.trans hb2)
    | false =>
      have hpD : predsIn D o.after.toList = true := predsIn_iff.2 fun e he hb => hI.sub _ (hp e (by simpa using he) hb)
      have hmem := readyL_spec (D := D) (l := ops.toList) (k := 0) (i := i) (o := o) (by simpa using ho) (by simpa using hiD) hpD
      rw [Nat.zero_add] at hmem
      split at h
      · rename_i hj; rw [hj] at hmem; cases hmem
      · rename_i j hj
        rw [hj] at hmem
        have hij : i = j := by simpa using hmem
        subst hij
        have ho' : ops.toList[i]? = some o := by simpa using ho
        rw [ho'] at h
        simp only [dAct] at h
        cases hgw : (guardB ops.toList o a && wantedB ops.toList o a) with
        | false => rw [hgw] at h; cases h
        | true =>
          rw [hgw] at h
          rw [Bool.and_eq_true] at hgw
          obtain ⟨hgb, hw⟩ := hgw
          simp only [cond_true] at h
          split at h
          · rename_i v s1 hact
            split at h
            · rename_i a1 ha1
              unfold wpOpIn
              rw [ho]
              simp only []
              rw [ready_wanted hg hI ho hp hgb, hw, if_pos rfl]
              refine act_sound hC hc hf hF hI.sr (masked hI) hI.hB (o := o) (v := v) (s' := s1) (by rw [aop_agree (ready_agree hg hI ho hp)]; exact hact) (ready_exec hg hI ho hp) ?_
              rintro v' w' ⟨m', hle, hs', hv, hb⟩
              refine hd N ops _ _ _ _ af sf hg h q F n Q B X0 _ _ w' X m' γ fuel hF (hI.both hg ho hiD hp ha1 hle hs' hv hb) (by omega) ?_
              intro act2 w2 m2 hle2 hs2 hT2 hd2 hb2
              exact hQ act2 w2 m2 (hle.trans hle2) hs2 hT2 (hd2.trans put_defers) (hb.trans hb2)
            · cases h
          · cases h
      · cases h

theorem drawn_sound (hC : COK ω C) (hc : SndC ω C ih) (hf : SndF ω C ih) (hd : SndD ω C ih) : ∀ (N : Nat) (ops : Array Oper) (D A : Nat) (a : T Value) (s : AS) (af : T Value) (sf : AS), Good ops → evD C ih N ops.toList D A a s = some (af, sf) →
    ∀ (q : Bool) (F : Fence) (n : Nat) (Q : Exit → Act → World → Prop) (B : Nat) (X0 : Aux) (L : Array Bool) (act : Act) (w : World) (X : Aux) (m : M ω) (γ : Nat → Nat) (fuel : Nat), FOf q F → DInv C ops N B X0 D A a s L act w X m γ → L.toList.count false ≤ fuel →
    (∀ act' w' m', Le m m' → SR B X0 m' sf w' → TR m' N af act' → act'.defers = act.defers → Below B w w' → Q .normal act' w') → wpAnyIn F n C.P .any ops Q fuel L act w := by
  intro N ops D A a s af sf hg h q F n Q B X0 L act w X m γ fuel hF hI hcount hQ
  unfold evD at h
  split at h
  · rename_i D1 a1 s1 hp
    obtain ⟨X1, γ1, hI1⟩ := pass_sound hg (l := ops.toList) (k := 0) (fun i => by simp) hI hp
    exact closed_sound hC hc hf hd hg h hF fuel L act w X1 m hI1 hcount hQ
  · cases h

theorem TR.put (h : TR m N a act) {d : Option Tmp} {v v' : Value} (hp : putA N a d v = some a') (hv : VRel m v v') : TR m N a' (act.put d v') := by
  rcases putA_inv hp with ⟨rfl, rfl⟩ | ⟨t, rfl, ht, rfl⟩
  · exact h
  · refine ⟨by rw [put_size]; exact h.size, fun k => ?_⟩
    rw [T.get_put]
    by_cases hk : k = t
    · rw [if_pos hk, hk, put_get (by rw [h.size]; exact ht), if_pos rfl]; exact hv
    · rw [if_neg hk, put_get_ne (fun e => hk (by cases e; rfl))]; exact h.rel k

theorem ops_sound (hC : COK ω C) (hc : SndC ω C ih) (hf : SndF ω C ih) (ho : SndO ω C ih) : ∀ (N : Nat) (ops : Array Oper) (k : Nat) (os : List Oper) (a : T Value) (s : AS) (af : T Value) (sf : AS), (∀ i, os[i]? = ops[k + i]?) → evO C ih N ops.toList os a s = some (af, sf) →
    ∀ (q : Bool) (F : Fence) (n : Nat) (Q : Exit → Act → World → Prop) (B : Nat) (X : Aux) (m : M ω) (act : Act) (w : World), FOf q F → SR B X m s w → TR m N a act → Bs ω C B w →
    (∀ act' w' m', Le m m' → SR B X m' sf w' → TR m' N af act' → act'.defers = act.defers → Below B w w' → Q .normal act' w') → wpOpsIn F n C.P ops Q ((List.range ops.size).drop k) act w := by
  intro N ops k os a s af sf hl h q F n Q B X m act w hF hs hT hB hQ
  cases os with
  | nil =>
    cases h
    have hk : ops.size ≤ k := by
      have := hl 0
      simp at this
      exact this
    rw [List.drop_eq_nil_of_le (by simpa using hk)]
    exact hQ act w m (Le.refl _) hs hT rfl (Below.refl _ _)
  | cons o os =>
    have hk : ops[k]? = some o := by have := hl 0; simpa using this.symm
    have hlt : k < ops.size := (Array.getElem?_eq_some_iff.1 hk).1
    have hl' : ∀ i, os[i]? = ops[k + 1 + i]? := fun i => by have := hl (i + 1); rw [List.getElem?_cons_succ] at this; rw [this]; congr 1; omega
    rw [List.drop_eq_getElem_cons (by simpa using hlt)]
    simp only [List.getElem_range, wpOpsIn, hk]
    have h' : oStep C ih N ops.toList o os a s = some (af, sf) := h
    unfold oStep at h'
    cases hgb : guardB ops.toList o a with
    | false => rw [hgb] at h'; cases h'
    | true =>
    rw [hgb] at h'
    simp only [cond_true] at h'
    have hw : Region.wanted o (yielded ops act.tmps) = wantedB ops.toList o a := wanted_same (m := m) hgb fun g b og t _ _ _ => hT.rel t
    rw [hw]
    cases hwb : wantedB ops.toList o a with
    | false =>
      rw [hwb] at h'
      rw [if_neg (by simp)]
      have h2 : oPut ih N ops.toList os o.dst undef a s = some (af, sf) := h'
      unfold oPut at h2
      cases hp : putA N a o.dst undef with
      | none => rw [hp] at h2; cases h2
      | some a1 =>
        rw [hp] at h2
        refine ⟨fun f _ => hF.fn f, ho N ops (k + 1) os a1 s af sf hl' h2 q F n Q B X m _ w hF hs (hT.put hp undef_rel) hB ?_⟩
        intro act2 w2 m2 hle2 hs2 hT2 hd2 hb2
        exact hQ act2 w2 m2 hle2 hs2 hT2 (hd2.trans put_defers) hb2
    | true =>
      rw [hwb] at h'
      rw [if_pos rfl]
      have h2 : oAct ih N ops.toList os o.dst a (actRes ih (aop C o a s)) = some (af, sf) := h'
      unfold oAct at h2
      split at h2
      · rename_i v s1 hact
        refine act_sound hC hc hf hF hs hT hB hact rfl ?_
        rintro v' w' ⟨m', hle, hs', hv, hb⟩
        unfold oPut at h2
        cases hp : putA N a o.dst v with
        | none => rw [hp] at h2; cases h2
        | some a1 =>
          rw [hp] at h2
          refine ho N ops (k + 1) os a1 s1 af sf hl' h2 q F n Q B X m' _ w' hF hs' ((hT.mono hle).put hp hv) (hB.next hb) ?_
          intro act2 w2 m2 hle2 hs2 hT2 hd2 hb2
          exact hQ act2 w2 m2 (hle.trans hle2) hs2 hT2 (hd2.trans put_defers) (hb.trans hb2)
      · cases h2

/-- A loop, from its body on. -/
def LoopAt (F : Fence) (n : Nat) (P : Program) (c : Code) (Q : Exit → Act → World → Prop) (a : Act) (w : World) : Prop :=
  ∀ (b : Frame) (k : List Item) (cs : List Frame), b.roundOf = F.round → F.fn b.fn → F.room (cs.length + 1 + n) →
    ∃ e a' w', Q e a' w' ∧ ArrivesIn (Machine.fenced P F) P (lone (b.atR a (.code c :: .inLoop c :: k)) cs w) b k cs e a' w'
theorem LoopAt.loop {F : Fence} {n : Nat} {P : Program} {c : Code} {Q : Exit → Act → World → Prop} {a : Act} {w : World} (h : LoopAt F n P c Q a w) : (Code.loop c).wpIn F n P Q a w := by
  intro b k cs hro hb hr
  obtain ⟨e, a', w', hq, harr⟩ := h b k cs hro hb hr
  exact ⟨e, a', w', hq, .of_steps (.one (fenced_calm hb hr rfl) stepR_loop) harr⟩
theorem LoopAt.step {F : Fence} {n : Nat} {P : Program} {c : Code} {Q : Exit → Act → World → Prop} {a : Act} {w : World} (h : c.wpIn F n P (Exit.then (LoopAt F n P c Q) Q) a w) : LoopAt F n P c Q a w := by
  intro b k cs hro hb hr
  obtain ⟨e, a₁, w₁, hq, harr⟩ := h b (.inLoop c :: k) cs hro hb hr
  cases e with
  | normal =>
    obtain ⟨e₂, a₂, w₂, hq₂, harr₂⟩ := hq b k cs hro hb hr
    exact ⟨e₂, a₂, w₂, hq₂, .of_steps (StepsIn.trans harr (.one (fenced_calm hb hr rfl) stepR_inLoop)) harr₂⟩
  | exit id => exact ⟨_, a₁, w₁, hq, .pass (x := .inLoop c) rfl (fun _ _ => .inl (by simp)) harr⟩
  | goto l => exact ⟨_, a₁, w₁, hq, .pass (x := .inLoop c) rfl (fun _ _ => .inl (by simp)) harr⟩
  | ret => exact ⟨_, a₁, w₁, hq, .pass (x := .inLoop c) rfl (fun _ _ => .inl (by simp)) harr⟩
  | panic ch => exact ⟨_, a₁, w₁, hq, .pass (x := .inLoop c) rfl (fun _ _ => .inl (by simp)) harr⟩
  | outgrown => exact ⟨_, a₁, w₁, hq, .pass (x := .inLoop c) rfl (fun _ _ => .inl (by simp)) harr⟩

def SndL (ω : Nat → Value) (C : Ctx) (ih : Fns) : Prop := ∀ q N c a s x a' s', ih.c q N (.loop c) a s = some (x, a', s') → ∀ (B : Nat) (X : Aux) (m : M ω) (act : Act) (w : World) (F : Fence) (n : Nat) (K0 : Nat → Option Obj),
  FOf q F → SR B X m s w → TR m N a act → MK K0 X.K act.defers → Bs ω C B w → LoopAt F n C.P c (PostC B X m N x a' s' w K0) act w

theorem PostC.back {x : Xt} {K0 : Nat → Option Obj} {e : Exit} {act' : Act} {w1 w' : World} {X1 : Aux} {m1 : M ω} (h : PostC B X1 m1 N x a' s' w1 K0 e act' w') (hG : X1.G = X.G) (hle : Le m m1) (hb : Below B w w1) : PostC B X m N x a' s' w K0 e act' w' := by
  obtain ⟨he, X2, m2, h1, h2, h3, h4, h5, h6⟩ := h
  exact ⟨he, X2, m2, h1.trans hG, h2, hle.trans h3, h4, h5, hb.trans h6⟩
end
end Go.Proofs.YtenfkghoolegfaaGreatDoor.Ev
