/- Directories as they lie, and a change of one. -/
import Derived.Test.YtekajggjoeimoaaDoorQc
set_option linter.unusedVariables false
namespace Go.Proofs.YtekajggjoeimoaaDoor
open Go.RowKit
def lkF (x : ByteArray) (l : List DE) : Option Nat := (look x l 0).map (·.2.f)
theorem look_shift (x : ByteArray) : ∀ (l : List DE) (i : Nat), (look x l i).map (·.2) = (look x l 0).map (·.2)
  | [], i => rfl
  | y :: l, i => by
    unfold look
    by_cases h : y.nm = x
    · rw [if_pos h, if_pos h]; rfl
    · rw [if_neg h, if_neg h, look_shift x l (i + 1), look_shift x l 1]
theorem lkF_nil (x : ByteArray) : lkF x [] = none := rfl
theorem lkF_cons (x : ByteArray) (y : DE) (l : List DE) : lkF x (y :: l) = if y.nm = x then some y.f else lkF x l := by
  have h2 : ∀ i, (look x l i).map (·.2.f) = (look x l 0).map (·.2.f) := fun i => by
    have h := look_shift x l i
    have h3 := congrArg (Option.map DE.f) h
    simpa [Option.map_map, Function.comp_def] using h3
  have e : look x (y :: l) 0 = if y.nm = x then some (0, y) else look x l (0 + 1) := rfl
  unfold lkF
  rw [e]
  by_cases h : y.nm = x
  · rw [if_pos h, if_pos h]; rfl
  · rw [if_neg h, if_neg h]; exact h2 _
theorem lkF_append (x : ByteArray) (l : List DE) (y : DE) : lkF x (l ++ [y]) = (lkF x l).or (if y.nm = x then some y.f else none) := by
  induction l with
  | nil => rw [List.nil_append, lkF_cons]; simp [lkF_nil]
  | cons z l ih =>
    rw [List.cons_append, lkF_cons, lkF_cons, ih]
    by_cases h : z.nm = x
    · rw [if_pos h, if_pos h]; rfl
    · rw [if_neg h, if_neg h]
theorem lkF_none {x : ByteArray} {l : List DE} (h : lkF x l = none) : look x l 0 = none := by
  unfold lkF at h
  cases e : look x l 0 with
  | none => rfl
  | some r => rw [e] at h; cases h
theorem lkF_some {x : ByteArray} {l : List DE} {f : Nat} (h : lkF x l = some f) : ∃ j y, look x l 0 = some (j, y) ∧ y.f = f ∧ l[j]? = some y ∧ y.nm = x := by
  unfold lkF at h
  cases e : look x l 0 with
  | none => rw [e] at h; cases h
  | some r =>
    rw [e] at h
    obtain ⟨_, h1, h2⟩ := look_spec _ _ _ _ _ e
    exact ⟨r.1, r.2, rfl, by simpa using h, by simpa using h1, h2⟩
theorem lkF_mem {l : List DE} (hn : (l.map DE.nm).Nodup) {y : DE} (hy : y ∈ l) : lkF y.nm l = some y.f := by
  induction l with
  | nil => cases hy
  | cons z l ih =>
    obtain ⟨h1, h2⟩ := List.nodup_cons.1 hn
    rw [lkF_cons]
    rcases List.mem_cons.1 hy with rfl | hy
    · rw [if_pos rfl]
    · rw [if_neg (fun e => h1 (List.mem_map.2 ⟨y, hy, e.symm⟩))]
      exact ih h2 hy
theorem lkF_erase : ∀ {l : List DE} {j : Nat} {y : DE} (x : ByteArray), (l.map DE.nm).Nodup → l[j]? = some y → lkF x (l.eraseIdx j) = if x = y.nm then none else lkF x l
  | [], j, y, x, _, h => by simp at h
  | z :: l, 0, y, x, hn, h => by
    simp at h; subst h
    obtain ⟨h1, h2⟩ := List.nodup_cons.1 hn
    rw [List.eraseIdx_zero, List.tail_cons, lkF_cons]
    by_cases hx : x = z.nm
    · rw [if_pos hx]
      cases e : lkF x l with
      | none => rfl
      | some f =>
        obtain ⟨j, u, _, _, h3, h4⟩ := lkF_some e
        exact absurd (List.mem_map.2 ⟨u, List.mem_of_getElem? h3, by rw [h4, hx]⟩) h1
    · rw [if_neg hx, if_neg (fun e => hx e.symm)]
  | z :: l, j + 1, y, x, hn, h => by
    obtain ⟨h1, h2⟩ := List.nodup_cons.1 hn
    have hy : l[j]? = some y := by simpa using h
    rw [List.eraseIdx_cons_succ, lkF_cons, lkF_cons, lkF_erase x h2 hy]
    by_cases hz : z.nm = x
    · rw [if_pos hz, if_pos hz, if_neg (fun e => h1 (List.mem_map.2 ⟨y, List.mem_of_getElem? hy, by rw [hz, e]⟩))]
    · rw [if_neg hz, if_neg hz]
theorem lkF_set : ∀ {l : List DE} {j : Nat} {y : DE} (f : Nat) (b : Nat) (x : ByteArray), (l.map DE.nm).Nodup → l[j]? = some y → lkF x (l.set j ⟨y.nm, f, b⟩) = if x = y.nm then some f else lkF x l
  | [], j, y, f, b, x, _, h => by simp at h
  | z :: l, 0, y, f, b, x, hn, h => by
    simp at h; subst h
    rw [List.set_cons_zero, lkF_cons, lkF_cons]
    by_cases hx : x = z.nm
    · rw [if_pos hx, if_pos hx.symm]
    · rw [if_neg hx, if_neg (fun e => hx e.symm), if_neg (fun e => hx e.symm)]
  | z :: l, j + 1, y, f, b, x, hn, h => by
    obtain ⟨h1, h2⟩ := List.nodup_cons.1 hn
    have hy : l[j]? = some y := by simpa using h
    rw [List.set_cons_succ, lkF_cons, lkF_cons, lkF_set f b x h2 hy]
    by_cases hz : z.nm = x
    · rw [if_pos hz, if_pos hz, if_neg (fun e => h1 (List.mem_map.2 ⟨y, List.mem_of_getElem? hy, by rw [hz, e]⟩))]
    · rw [if_neg hz, if_neg hz]
theorem MapOK.put {l : List DE} {ck : Nat} (h : MapOK l ck) {x : ByteArray} (hx : lkF x l = none) (f : Nat) : MapOK (l ++ [⟨x, f, ck⟩]) (ck + 1) := by
  refine ⟨fun y hy => ?_, ?_, ?_⟩
  · rcases List.mem_append.1 hy with hy | hy
    · exact Nat.lt_succ_of_lt (h.born y hy)
    · obtain rfl := List.mem_singleton.1 hy; exact Nat.lt_succ_self _
  · rw [List.pairwise_append]
    exact ⟨h.order, List.pairwise_singleton _ _, fun a ha b hb => by obtain rfl := List.mem_singleton.1 hb; exact h.born a ha⟩
  · rw [List.map_append, List.nodup_append]
    refine ⟨h.nodup, by simp, fun a ha b hb e => ?_⟩
    simp only [List.map_cons, List.map_nil, List.mem_singleton] at hb
    subst hb e
    obtain ⟨y, hy, rfl⟩ := List.mem_map.1 ha
    rw [lkF_mem h.nodup hy] at hx
    cases hx
theorem MapOK.erase {l : List DE} {ck : Nat} (h : MapOK l ck) (j : Nat) : MapOK (l.eraseIdx j) ck :=
  ⟨fun y hy => h.born y (List.mem_of_mem_eraseIdx hy), h.order.sublist (List.eraseIdx_sublist ..), h.nodup.sublist ((List.eraseIdx_sublist ..).map _)⟩
theorem map_set_same {α β : Type} (g : α → β) : ∀ {l : List α} {j : Nat} {x y : α}, l[j]? = some x → g y = g x → (l.set j y).map g = l.map g
  | [], j, x, y, h, _ => by simp at h
  | z :: l, 0, x, y, h, e => by simp at h; subst h; simp [e]
  | z :: l, j + 1, x, y, h, e => by
    rw [List.set_cons_succ, List.map_cons, List.map_cons, map_set_same g (by simpa using h) e]
theorem MapOK.setv {l : List DE} {ck j : Nat} (h : MapOK l ck) {y : DE} (hy : l[j]? = some y) (f : Nat) : MapOK (l.set j ⟨y.nm, f, y.born⟩) ck := by
  have e1 := map_set_same DE.born hy (y := ⟨y.nm, f, y.born⟩) rfl
  have e2 := map_set_same DE.nm hy (y := ⟨y.nm, f, y.born⟩) rfl
  refine ⟨fun z hz => ?_, ?_, by rw [e2]; exact h.nodup⟩
  · have : z.born ∈ l.map DE.born := by rw [← e1]; exact List.mem_map.2 ⟨z, hz, rfl⟩
    obtain ⟨u, hu, hue⟩ := List.mem_map.1 this
    rw [← hue]; exact h.born u hu
  · have := h.order
    rw [← List.pairwise_map (f := DE.born) (R := (· < ·))] at this ⊢
    rw [e1]; exact this
/-- A change of a directory, as it lies. -/
def turnQ (l : List DE) (ck : Nat) (c : Cq) : List DE × Nat := match c.f with
  | some g => (l ++ [⟨c.nm, g, ck⟩], ck + 1)
  | none => match look c.nm l 0 with
    | none => (l, ck)
    | some (j, x) => if c.to = ByteArray.empty then (l.eraseIdx j, ck) else match look c.to (l.eraseIdx j) 0 with
      | none => (l.eraseIdx j ++ [⟨c.to, x.f, ck⟩], ck + 1)
      | some (i, y) => ((l.eraseIdx j).set i ⟨c.to, x.f, y.born⟩, ck)
def okQ (l : List DE) (c : Cq) : Prop := match c.f with
  | some _ => lkF c.nm l = none
  | none => (lkF c.nm l).isSome
def chq (fb : Nat → Nat) : Ch → Cq
  | .new nm id => ⟨nm, ByteArray.empty, some (fb id)⟩
  | .gone nm => ⟨nm, ByteArray.empty, none⟩
  | .moved a b => ⟨a, b, none⟩
theorem turnQ_ok {l : List DE} {ck : Nat} (h : MapOK l ck) {c : Cq} (hc : okQ l c) : MapOK (turnQ l ck c).1 (turnQ l ck c).2 := by
  unfold turnQ okQ at *
  cases hf : c.f with
  | some g => rw [hf] at hc; exact h.put hc g
  | none =>
    cases hl : look c.nm l 0 with
    | none => exact h
    | some r =>
      obtain ⟨j, x⟩ := r
      dsimp only
      split
      · exact h.erase j
      · cases hl2 : look c.to (l.eraseIdx j) 0 with
        | none => exact (h.erase j).put (by unfold lkF; rw [hl2]; rfl) x.f
        | some r2 =>
          obtain ⟨i, y⟩ := r2
          obtain ⟨_, h1, h2⟩ := look_spec _ _ _ _ _ hl2
          have := (h.erase j).setv (by simpa using h1) x.f
          rw [h2] at this
          exact this
theorem nameOK_ne {s : ByteArray} (h : nameOK s = true) : s ≠ ByteArray.empty := by
  rintro rfl
  simp [nameOK] at h
theorem turnQ_lk {l : List DE} {ck : Nat} (h : MapOK l ck) (fb : Nat → Nat) {c : Ch} (hc : okQ l (chq fb c)) (hn : ∀ a b, c = .moved a b → nameOK b = true) (x : ByteArray) : lkF x (turnQ l ck (chq fb c)).1 = turnF (fun y => lkF y l) fb c x := by
  cases c with
  | new nm id =>
    show lkF x (l ++ [⟨nm, fb id, ck⟩]) = if x = nm then some (fb id) else lkF x l
    rw [lkF_append]
    have hc' : lkF nm l = none := hc
    by_cases e : x = nm
    · subst e; rw [hc']; simp
    · rw [if_neg e, if_neg (fun h => e (Eq.symm h))]
      cases lkF x l <;> rfl
  | gone nm =>
    have hc' : (lkF nm l).isSome := hc
    cases e : lkF nm l with
    | none => rw [e] at hc'; cases hc'
    | some f =>
      obtain ⟨j, y, h1, h2, h3, h4⟩ := lkF_some e
      show lkF x (match look nm l 0 with
        | none => (l, ck)
        | some (j, x) => if (ByteArray.empty : ByteArray) = ByteArray.empty then (l.eraseIdx j, ck) else _).1 = if x = nm then none else lkF x l
      rw [h1]
      simp only [if_true]
      rw [lkF_erase x h.nodup h3, h4]
  | moved a b =>
    have hc' : (lkF a l).isSome := hc
    have hb := nameOK_ne (hn a b rfl)
    cases e : lkF a l with
    | none => rw [e] at hc'; cases hc'
    | some f =>
      obtain ⟨j, y, h1, h2, h3, h4⟩ := lkF_some e
      have hE := lkF_erase (l := l) (j := j) (y := y)
      show lkF x (match look a l 0 with
        | none => (l, ck)
        | some (j, x) => if b = ByteArray.empty then (l.eraseIdx j, ck) else match look b (l.eraseIdx j) 0 with
          | none => (l.eraseIdx j ++ [(⟨b, x.f, ck⟩ : DE)], ck + 1)
          | some (i, y) => ((l.eraseIdx j).set i (⟨b, x.f, y.born⟩ : DE), ck)).1 = if x = b then lkF a l else if x = a then none else lkF x l
      rw [h1]
      simp only [if_neg hb]
      rw [e]
      cases hl2 : look b (l.eraseIdx j) 0 with
      | none =>
        have hb0 : lkF b (l.eraseIdx j) = none := by unfold lkF; rw [hl2]; rfl
        simp only
        rw [lkF_append]
        by_cases hx : x = b
        · subst hx; rw [hb0, if_pos rfl, if_pos rfl, h2]; rfl
        · rw [if_neg hx, if_neg (fun e => hx (Eq.symm e)), hE x h.nodup h3, h4]
          by_cases hxa : x = a
          · rw [if_pos hxa]; rfl
          · rw [if_neg hxa]; cases lkF x l <;> rfl
      | some r2 =>
        obtain ⟨i, z⟩ := r2
        obtain ⟨_, h5, h6⟩ := look_spec _ _ _ _ _ hl2
        have hS := lkF_set (y := z) y.f z.born x (h.erase j).nodup (by simpa using h5)
        rw [h6] at hS
        simp only
        rw [hS, h2, hE x h.nodup h3, h4]
end Go.Proofs.YtekajggjoeimoaaDoor
