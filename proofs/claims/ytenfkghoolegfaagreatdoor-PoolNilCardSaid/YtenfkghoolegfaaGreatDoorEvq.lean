/- An interpreter over an abstract memory, part q: regions that draw their order are sound. -/
import Derived.Test.YtenfkghoolegfaaGreatDoorEvp
namespace Go.Proofs.YtenfkghoolegfaaGreatDoor.Ev
open Go.RowKit
variable {ω : Nat → Value}

/-- An operation that has made a block which the world has not yet. -/
def AlAt (C : Ctx) (ops : Array Oper) (D : Nat) (a : T Value) (L : Array Bool) (i : Nat) (o : Oper) (q : AObj) (f : Nat → Value) : Prop :=
  ops[i]? = some o ∧ bitB D i = true ∧ L.getD i false = false ∧ wantedB ops.toList o a = true ∧ alOf o.op C a = some (q, f)

/-- The interpreter's place in a region, and the machine's. -/
structure DInv (C : Ctx) (ops : Array Oper) (N B : Nat) (X0 : Aux) (D A : Nat) (a : T Value) (s : AS) (L : Array Bool) (act : Act) (w : World) (X : Aux) (m : M ω) (γ : Nat → Nat) : Prop where
  size : L.size = ops.size
  sub : ∀ i, L.getD i false = true → bitB D i = true
  down : ∀ i o, ops[i]? = some o → L.getD i false = true → ∀ e ∈ o.after, Region.binds .any e = true → L.getD e.on false = true
  downD : ∀ i o, ops[i]? = some o → bitB D i = true → ∀ e ∈ o.after, Region.binds .any e = true → bitB D e.on = true
  must : ∀ i, i < ops.size → bitB A i = true → L.getD i false = true
  dstN : ∀ i o t, ops[i]? = some o → bitB D i = true → o.dst = some t → t < N
  tsize : act.tmps.size = N
  tmps : ∀ t, (∀ i o, ops[i]? = some o → bitB D i = true → o.dst = some t → L.getD i false = true) → VRel m ((a.get t).getD undef) (act.tmps.getD t undef)
  sr : SR B X m s w
  K : X.K = X0.K
  G : ∀ b o, X0.G b = some o → X.G b = some o
  al : ∀ i o q f, AlAt C ops D a L i o q f → X.G (γ i) = some q ∧ X0.G (γ i) = none ∧ ∃ t, o.dst = some t ∧ a.get t = some (f (γ i))
  inj : ∀ i j oi oj qi qj fi fj, AlAt C ops D a L i oi qi fi → AlAt C ops D a L j oj qj fj → i ≠ j → γ i ≠ γ j
  hB : Bs ω C B w
  late : ∀ i o, ops[i]? = some o → lateB ops.toList i o = true → bitB D i = true → bitB A i = true

section
variable {C : Ctx} {ops : Array Oper} {N B : Nat} {X0 X : Aux} {D A : Nat} {a a' : T Value} {s s' : AS} {L : Array Bool} {act : Act} {w : World} {m : M ω} {γ : Nat → Nat} {i : Nat} {o : Oper}

theorem putA_inv {v : Value} {d : Option Tmp} (h : putA N a d v = some a') : (d = none ∧ a' = a) ∨ ∃ t, d = some t ∧ t < N ∧ a' = a.put t v := by
  cases d with
  | none => cases h; exact .inl ⟨rfl, rfl⟩
  | some t =>
    have h' : Bool.rec (motive := fun _ => Option (T Value)) none (some (a.put t v)) (Nat.blt t N) = some a' := h
    cases hb : Nat.blt t N with
    | false => rw [hb] at h'; cases h'
    | true => rw [hb] at h'; cases h'; rw [Nat.blt_eq] at hb; exact .inr ⟨t, rfl, hb, rfl⟩

/-- What is written to a temporary that an operation does not wait for it does not see. -/
theorem agree_put (hg : Good ops) (hi : ops[i]? = some o) {j : Nat} {oj : Oper} (hj : ops[j]? = some oj) (hno : ∀ e ∈ oj.after, Region.binds .any e = true → e.on ≠ i) (hnl : lateB ops.toList i o = true → ∀ e ∈ o.after, Region.binds .any e = true → e.on ≠ j) {t : Tmp} (ht : o.dst = some t) (v : Value) : Agree oj.op (a.put t v) a := by
  intro x hx
  cases x with
  | tmp u =>
    have : u ≠ t := by
      rintro rfl
      rcases hg.reads j i oj o u hj hx hi ht with ⟨e, he, hb, rfl⟩ | ⟨hl, e, he, hb, rfl⟩
      · exact hno e he hb rfl
      · exact hnl hl e he hb rfl
    show orUndef ((a.put t v).get u) = orUndef (a.get u)
    rw [T.get_put, if_neg this]
  | _ => rfl

theorem wanted_putA (hg : Good ops) (hi : ops[i]? = some o) {j : Nat} {oj : Oper} (hj : ops[j]? = some oj) (hno : ∀ e ∈ oj.after, Region.binds .any e = true → e.on ≠ i) {t : Tmp} (ht : o.dst = some t) (v : Value) : wantedB ops.toList oj (a.put t v) = wantedB ops.toList oj a := by
  unfold wantedB
  cases hgd : oj.guard with
  | none => rfl
  | some gb =>
    obtain ⟨g, b⟩ := gb
    obtain ⟨og, d, h1, h2, e, he, hb, hge⟩ := hg.guards j g oj b hj hgd
    have hgi : g ≠ i := fun hh => hno e he hb (hge.trans hh)
    have hd : d ≠ t := fun hh => hgi (hg.once g i og o t h1 hi (by rw [← hh]; exact h2) ht)
    show wantedG ops.toList (a.put t v) (g, b) = wantedG ops.toList a (g, b)
    simp only [wantedG, Array.getElem?_toList, h1, h2, T.get_put, if_neg hd]

theorem no_edge (h : DInv C ops N B X0 D A a s L act w X m γ) (hiD : bitB D i = false) {j : Nat} {oj : Oper} (hj : ops[j]? = some oj) (hjD : bitB D j = true) : ∀ e ∈ oj.after, Region.binds .any e = true → e.on ≠ i := fun e he hb hh => by
  have := h.downD j oj hj hjD e he hb
  rw [hh, hiD] at this; cases this
theorem no_self (hg : Good ops) (hi : ops[i]? = some o) : ∀ e ∈ o.after, Region.binds .any e = true → e.on ≠ i := fun e he hb hh => by
  have := hg.ahead i o hi e he hb; omega

/-- One operation more is taken by the interpreter. -/
theorem DInv.grow (hg : Good ops) (h : DInv C ops N B X0 D A a s L act w X m γ) (hi : ops[i]? = some o) (hiD : bitB D i = false) (hp : predsIn D o.after.toList = true) (hnl : lateB ops.toList i o = false) {v : Value} (ha : putA N a o.dst v = some a')
    {X' : Aux} {γ' : Nat → Nat} (hsr : SR B X' m s' w) (hK : X'.K = X.K) (hG : ∀ b q, X.G b = some q → X'.G b = some q) (hγ : ∀ j, j ≠ i → γ' j = γ j)
    (hnew : ∀ q f, wantedB ops.toList o a = true → alOf o.op C a = some (q, f) → X'.G (γ' i) = some q ∧ X0.G (γ' i) = none ∧ (∃ t, o.dst = some t ∧ a'.get t = some (f (γ' i))) ∧ ∀ b q, X.G b = some q → γ' i ≠ b) :
    DInv C ops N B X0 (setB D i) A a' s' L act w X' m γ' := by
  have hput := putA_inv ha
  have hiL : L.getD i false = false := by
    cases hl : L.getD i false with
    | false => rfl
    | true => have := h.sub i hl; rw [hiD] at this; cases this
  have same : ∀ {j : Nat} {oj : Oper}, ops[j]? = some oj → (∀ e ∈ oj.after, Region.binds .any e = true → e.on ≠ i) → wantedB ops.toList oj a' = wantedB ops.toList oj a ∧ alOf oj.op C a' = alOf oj.op C a := by
    intro j oj hj hno
    rcases hput with ⟨_, rfl⟩ | ⟨t, ht, _, rfl⟩
    · exact ⟨rfl, rfl⟩
    · exact ⟨wanted_putA hg hi hj hno ht v, al_congr (agree_put hg hi hj hno (fun h => by rw [hnl] at h; cases h) ht v)⟩
  have old : ∀ {j : Nat} {oj : Oper} {q : AObj} {f : Nat → Value}, AlAt C ops (setB D i) a' L j oj q f → j ≠ i → AlAt C ops D a L j oj q f := by
    rintro j oj q f ⟨h1, h2, h3, h4, h5⟩ hne
    have hjD : bitB D j = true := (setB_inv h2).resolve_left hne
    obtain ⟨e1, e2⟩ := same h1 (no_edge h hiD h1 hjD)
    exact ⟨h1, hjD, h3, by rw [← e1]; exact h4, by rw [← e2]; exact h5⟩
  have selfI : ∀ {oj : Oper} {q : AObj} {f : Nat → Value}, AlAt C ops (setB D i) a' L i oj q f → X'.G (γ' i) = some q ∧ X0.G (γ' i) = none ∧ (∃ t, oj.dst = some t ∧ a'.get t = some (f (γ' i))) ∧ ∀ b q, X.G b = some q → γ' i ≠ b := by
    rintro oj q f ⟨h1, h2, h3, h4, h5⟩
    rw [hi] at h1; cases h1
    obtain ⟨e1, e2⟩ := same hi (no_self hg hi)
    exact hnew q f (by rw [← e1]; exact h4) (by rw [← e2]; exact h5)
  have geta : ∀ t, o.dst ≠ some t → a'.get t = a.get t := by
    intro t ht
    rcases hput with ⟨_, rfl⟩ | ⟨u, hu, _, rfl⟩
    · rfl
    · rw [T.get_put, if_neg (fun e => ht (by rw [e]; exact hu))]
  refine ⟨h.size, fun j hj => setB_old (h.sub j hj), h.down, ?_, h.must, ?_, h.tsize, ?_, hsr, hK.trans h.K, fun b q hb => hG b q (h.G b q hb), ?_, ?_, h.hB, ?_⟩
  · intro j oj hj hjD e he hb
    rcases setB_inv hjD with rfl | hjD
    · rw [hi] at hj; cases hj
      exact setB_old (predsIn_iff.1 hp e (by simpa using he) hb)
    · exact setB_old (h.downD j oj hj hjD e he hb)
  · intro j oj t hj hjD ht
    rcases setB_inv hjD with rfl | hjD
    · rw [hi] at hj; cases hj
      rcases hput with ⟨e, _⟩ | ⟨u, hu, hlt, _⟩
      · rw [ht] at e; cases e
      · rw [ht] at hu; cases hu; exact hlt
    · exact h.dstN j oj t hj hjD ht
  · intro t hall
    rw [geta t (fun e => by have := hall i o hi (setB_same _ _) e; rw [hiL] at this; cases this)]
    exact h.tmps t fun j oj hj hjD => hall j oj hj (setB_old hjD)
  · intro j oj q f hj
    by_cases hji : j = i
    · subst hji
      obtain ⟨k1, k2, k3, _⟩ := selfI hj
      exact ⟨k1, k2, k3⟩
    · obtain ⟨k1, k2, t, k3, k4⟩ := h.al j oj q f (old hj hji)
      rw [hγ j hji]
      refine ⟨hG _ _ k1, k2, t, k3, ?_⟩
      rw [geta t (fun e => hji (hg.once j i oj o t hj.1 hi k3 e))]
      exact k4
  · intro j k oj ok qj qk fj fk hj hk hne
    by_cases hji : j = i
    · subst hji
      have hk' := old hk (fun e => hne e.symm)
      rw [hγ k (fun e => hne e.symm)]
      exact (selfI hj).2.2.2 _ _ (h.al k ok qk fk hk').1
    · by_cases hki : k = i
      · subst hki
        rw [hγ j hji]
        exact ((selfI hk).2.2.2 _ _ (h.al j oj qj fj (old hj hji)).1).symm
      · rw [hγ j hji, hγ k hki]
        exact h.inj j k oj ok qj qk fj fk (old hj hji) (old hk hki) hne
  · intro j oj hj hl hjD
    rcases setB_inv hjD with rfl | hjD
    · rw [hi] at hj; cases hj
      rw [hnl] at hl; cases hl
    · exact h.late j oj hj hl hjD

/-- What the interpreter takes as soon as it may. -/
theorem took_sound (hg : Good ops) (h : DInv C ops N B X0 D A a s L act w X m γ) (hi : ops[i]? = some o) (hiD : bitB D i = false) (hp : predsIn D o.after.toList = true) (hf : freeStep C N ops.toList i o a s = .took a' s') :
    ∃ X' γ', DInv C ops N B X0 (setB D i) A a' s' L act w X' m γ' := by
  have tk : ∀ {v : Value} {s1 : AS}, tookP N a o.dst v s1 = .took a' s' → putA N a o.dst v = some a' ∧ s1 = s' := by
    intro v s1 ht
    unfold tookP at ht
    split at ht
    · rename_i a1 h1; cases ht; exact ⟨h1, rfl⟩
    · cases ht
  unfold freeStep at hf
  cases hnl : lateB ops.toList i o with
  | true => rw [hnl] at hf; cases hf
  | false =>
  rw [hnl] at hf
  simp only [cond_false] at hf
  cases hw : wantedB ops.toList o a with
  | false =>
    rw [hw] at hf
    obtain ⟨h1, rfl⟩ := tk hf
    exact ⟨X, γ, h.grow hg hi hiD hp hnl h1 h.sr rfl (fun _ _ h => h) (fun _ _ => rfl) (fun q f hw' _ => by rw [hw] at hw'; cases hw')⟩
  | true =>
    rw [hw] at hf
    simp only [cond_true] at hf
    cases hal : alOf o.op C a with
    | some al =>
      obtain ⟨q, f⟩ := al
      rw [hal] at hf
      simp only at hf
      cases hd : o.dst with
      | none => rw [hd] at hf; cases hf
      | some t =>
        rw [hd] at hf
        simp only [Option.isSome_some, cond_true, doAl, freeRes] at hf
        rw [← hd] at hf
        obtain ⟨h1, rfl⟩ := tk hf
        have fresh : ∀ b q, X.G b = some q → s.n ≠ b := fun b q hb e => by
          have := (h.sr.gh b q hb).1
          rw [← e, h.sr.freshH s.n (Nat.le_refl _)] at this; cases this
        refine ⟨X.add s.n q, fun j => if j = i then s.n else γ j, h.grow hg hi hiD hp hnl h1 (ghost_sound h.sr q) rfl (fun b p hb => ?_) (fun j hj => by simp [hj]) (fun q' f' _ hal' => ?_)⟩
        · simp [Aux.add, (fresh b p hb).symm, hb]
        · rw [hal] at hal'; cases hal'
          refine ⟨by simp [Aux.add], ?_, ⟨t, hd, ?_⟩, fun b p hb => by simpa using fresh b p hb⟩
          · simp only [if_true]
            cases h0 : X0.G s.n with
            | none => rfl
            | some p => exact absurd rfl (fresh s.n p (h.G _ _ h0))
          · rcases putA_inv h1 with ⟨e, _⟩ | ⟨u, hu, _, rfl⟩
            · rw [hd] at e; cases e
            · rw [hd] at hu; cases hu
              rw [T.get_put, if_pos rfl]; simp
    | none =>
      rw [hal] at hf
      simp only at hf
      cases hst : stillB C o.op with
      | false => rw [hst] at hf; cases hf
      | true =>
        rw [hst] at hf
        simp only [cond_true, freeRes] at hf
        split at hf
        · rename_i v s1 hao
          obtain ⟨rfl, _⟩ := still_same hst hal hao
          obtain ⟨h1, rfl⟩ := tk hf
          exact ⟨X, γ, h.grow hg hi hiD hp hnl h1 h.sr rfl (fun _ _ h => h) (fun _ _ => rfl) (fun q f _ hal' => by rw [hal] at hal'; cases hal')⟩
        · cases hf

theorem pass_sound (hg : Good ops) : ∀ {l : List Oper} {k D D' : Nat} {a a' : T Value} {s s' : AS} {X : Aux} {γ : Nat → Nat}, (∀ i, l[i]? = ops[k + i]?) → DInv C ops N B X0 D A a s L act w X m γ → pass C N ops.toList l k D a s = some (D', a', s') →
    ∃ X' γ', DInv C ops N B X0 D' A a' s' L act w X' m γ'
  | [], _, D, _, a, _, s, _, X, γ, _, h, hp => by cases hp; exact ⟨X, γ, h⟩
  | o :: os, k, D, D', a, a', s, s', X, γ, hl, h, hp => by
    have hl' : ∀ i, os[i]? = ops[k + 1 + i]? := fun i => by have := hl (i + 1); rw [List.getElem?_cons_succ] at this; rw [this]; congr 1; omega
    have ho : ops[k]? = some o := by have := hl 0; simpa using this.symm
    simp only [pass] at hp
    cases hb : bitB D k with
    | true => rw [hb] at hp; exact pass_sound hg hl' h hp
    | false =>
      rw [hb] at hp
      simp only [cond_false] at hp
      cases hpr : predsIn D o.after.toList with
      | false => rw [hpr] at hp; exact pass_sound hg hl' h hp
      | true =>
        rw [hpr] at hp
        simp only [cond_true] at hp
        split at hp
        · exact pass_sound hg hl' h hp
        · cases hp
        · rename_i a1 s1 hf
          obtain ⟨X1, γ1, h1⟩ := took_sound hg h ho hb hpr hf
          exact pass_sound hg hl' h1 hp
end
end Go.Proofs.YtenfkghoolegfaaGreatDoor.Ev
