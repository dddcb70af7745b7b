/- An interpreter over an abstract memory, part c: memory: what is read, written and made is alike in the state and in the world. -/
import Derived.Test.YtenfkghoolegfaaGreatDoorEvb
import Derived.Laws.IdiomCopy
import Derived.Deep.AppendSrc
import Derived.WalkKit
namespace Go.Proofs.YtenfkghoolegfaaGreatDoor.Ev
open Go.RowKit
variable {ω : Nat → Value}

theorem plain_inv {m : M ω} {v v' : Value} (h : VRel m v v') (hp : plainV v = true) : v' = v := by
  cases h <;> first | rfl | (simp [plainV] at hp)

theorem plain_refl {m : M ω} {v : Value} (hp : plainV v = true) : VRel m v v := .plain v hp

theorem cells_list (v : Value) : v.cells.toList = cellsOf v := by cases v <;> rfl

theorem arr_getD (cs : Array Value) (i : Nat) (h : i < cs.size) : cs.toList[i]? = some (cs.getD i undef) := by
  simp [h]

/-- Two lists of values, place by place. -/
def LRel (m : M ω) (l l' : List Value) : Prop := l.length = l'.length ∧ ∀ (i : Nat) (v v' : Value), l[i]? = some v → l'[i]? = some v' → VRel m v v'

theorem LRel.nil (m : M ω) : LRel m [] [] := ⟨rfl, fun i v v' h => by simp at h⟩
theorem LRel.mono {m m' : M ω} (hl : Le m m') {l l' : List Value} (h : LRel m l l') : LRel m' l l' := ⟨h.1, fun i v v' a b => (h.2 i v v' a b).mono hl⟩
theorem LRel.cons {m : M ω} {v v' : Value} {l l' : List Value} (h : VRel m v v') (k : LRel m l l') : LRel m (v :: l) (v' :: l') :=
  ⟨by simp [k.1], fun i => by
    cases i with
    | zero => intro a b ha hb; simp at ha hb; subst ha; subst hb; exact h
    | succ i => intro a b ha hb; simp at ha hb; exact k.2 i a b ha hb⟩
theorem LRel.tail {m : M ω} {v v' : Value} {l l' : List Value} (h : LRel m (v :: l) (v' :: l')) : VRel m v v' ∧ LRel m l l' :=
  ⟨h.2 0 v v' rfl rfl, by simpa using h.1, fun i a b ha hb => h.2 (i + 1) a b (by simpa using ha) (by simpa using hb)⟩
theorem LRel.append {m : M ω} {l l' k k' : List Value} (h : LRel m l l') (j : LRel m k k') : LRel m (l ++ k) (l' ++ k') :=
  ⟨by simp [h.1, j.1], fun i a b ha hb => by
    by_cases hi : i < l.length
    · rw [List.getElem?_append_left hi] at ha
      rw [List.getElem?_append_left (by rw [← h.1]; exact hi)] at hb
      exact h.2 i a b ha hb
    · rw [List.getElem?_append_right (by omega)] at ha
      rw [List.getElem?_append_right (by rw [← h.1]; omega), ← h.1] at hb
      exact j.2 _ a b ha hb⟩
theorem LRel.plain {m : M ω} {l : List Value} (h : l.all plainV = true) : LRel m l l := ⟨rfl, fun i v v' a b => by
  rw [a] at b; cases b
  exact .plain v (List.all_eq_true.1 h v (List.mem_of_getElem? a))⟩
theorem LRel.of_arr {m : M ω} {cs cs' : Array Value} (hs : cs.size = cs'.size) (h : ∀ i, i < cs.size → VRel m (cs.getD i undef) (cs'.getD i undef)) : LRel m cs.toList cs'.toList :=
  ⟨by simpa using hs, fun i v v' a b => by
    have hi : i < cs.size := by have := (List.getElem?_eq_some_iff.1 a).1; simpa using this
    rw [arr_getD cs i hi] at a
    rw [arr_getD cs' i (by omega)] at b
    cases a; cases b
    exact h i hi⟩
theorem LRel.arr {m : M ω} {l l' : List Value} (h : LRel m l l') : ∀ i, i < l.toArray.size → VRel m (l.toArray.getD i undef) (l'.toArray.getD i undef) := fun i hi => by
  have hi' : i < l.length := by simpa using hi
  refine h.2 i _ _ ?_ ?_
  · simp [hi']
  · simp [show i < l'.length by rw [← h.1]; exact hi']
theorem LRel.agg {m : M ω} {l l' : List Value} (h : LRel m l l') : VRel m (.agg l.toArray) (.agg l'.toArray) := .agg _ _ (by simpa using h.1) h.arr
theorem LRel.tuple {m : M ω} {l l' : List Value} (h : LRel m l l') : VRel m (.tuple l.toArray) (.tuple l'.toArray) := .tuple _ _ (by simpa using h.1) h.arr

theorem cellsOf_one {v : Value} (h : oneV v = true) : cellsOf v = [v] := by cases v <;> first | rfl | cases h
theorem oneV_cell {v : Value} (h : oneV v = true) : v.oneCell' = true := by cases v <;> first | rfl | cases h

/-- The cells of values that are alike are alike. -/
theorem cells_rel {m : M ω} {v v' : Value} (h : VRel m v v') : LRel m (cellsOf v) (cellsOf v') := by
  cases h with
  | tok k h => rw [cellsOf_one h]; exact LRel.cons (.tok k h) (LRel.nil m)
  | any v h => rw [cellsOf_one h]; exact LRel.cons (.any _ h) (LRel.nil m)
  | agg cs cs' hs h => exact LRel.of_arr hs h
  | plain v h => cases v <;> first | exact LRel.cons (.plain _ h) (LRel.nil m) | (simp [plainV] at h)
  | ptr a a' h => exact LRel.cons (.ptr a a' h) (LRel.nil m)
  | slice a a' n c c' h hc hn => exact LRel.cons (.slice a a' n c c' h hc hn) (LRel.nil m)
  | slice0 a a' h => exact LRel.cons (.slice0 a a' h) (LRel.nil m)
  | map b i h => exact LRel.cons (.map b i h) (LRel.nil m)
  | iface t v v' h => exact LRel.cons (.iface t v v' h) (LRel.nil m)
  | tuple cs cs' hs h => exact LRel.cons (.tuple cs cs' hs h) (LRel.nil m)
  | func f fs fs' cs cs' h1 h2 h k => exact LRel.cons (.func f fs fs' cs cs' h1 h2 h k) (LRel.nil m)
  | yield b i h => exact LRel.cons (.yield b i h) (LRel.nil m)

theorem one_rel {m : M ω} {v v' : Value} (h : VRel m v v') (ho : oneV v = true) : v'.oneCell' = true := by
  cases h with
  | tok k h => exact oneV_cell h
  | any v h => exact oneV_cell h
  | plain v h => cases v <;> first | rfl | (simp [plainV] at h)
  | agg cs cs' hs h => simp [oneV] at ho
  | tuple cs cs' hs h => simp [oneV] at ho
  | _ => rfl

theorem add_lit (r o i : Nat) : (⟨r, o, none⟩ : Addr).add i = ⟨r, o + i, none⟩ := by unfold Addr.add; split <;> simp_all

/-- A block of the state and the world's. -/
theorem blk_at {B : Nat} {X : Aux} {m : M ω} {s : AS} {w : World} (h : SR B X m s w) {b : Nat} {k : Blk} (hb : blkAt s b = some k) {i : Info} (hi : m b = some i) :
    s.h.get b = some (.cells k) ∧ ORel m w i (.cells k) ∧ B ≤ i.r ∧ i.r < w.heap.size := by
  unfold blkAt at hb
  cases hg : s.h.get b with
  | none => simp [hg] at hb
  | some o =>
    cases o with
    | cells k' =>
      simp [hg] at hb
      subst hb
      obtain ⟨h2, h3, h4⟩ := h.rel b _ i hg rfl hi
      exact ⟨rfl, h2, h3, h4⟩
    | _ => simp [hg] at hb

/-- What is read. -/
theorem readN_sound {B : Nat} {X : Aux} {m : M ω} {s : AS} {w : World} (h : SR B X m s w) {a a' : Addr} {n : Nat} {l : List Value} (hr : readN s a n = some l) (ha : ARel m a a') :
    ∃ l', LRel m l l' ∧ l'.length = n ∧ ∀ j v, l'[j]? = some v → w.cell? (a'.add j) = some v := by
  unfold readN at hr
  obtain ⟨hs, i, hi, rfl⟩ := ha
  rw [hs] at hr
  cases hk : blkAt s a.block with
  | none => simp [hk] at hr
  | some k =>
    simp only [hk] at hr
    obtain ⟨h2, ⟨e1, e2, e4, e3, c', fz, hc, hsz, hcell, _⟩, _, _⟩ := blk_at h hk hi
    cases hb : Nat.ble (a.off + n) k.len with
    | false => simp [hb] at hr
    | true =>
      simp only [hb, cond_true] at hr
      have hle : a.off + n ≤ k.len := Nat.le_of_ble_eq_true hb
      obtain ⟨hl, hg⟩ := T.range_spec k.c n a.off l hr
      refine ⟨(List.range n).map fun j => c'.getD (i.d + (a.off + j)) undef, ⟨by simp [hl], fun j v v' hv hv' => ?_⟩, by simp, fun j v hv => ?_⟩
      · have hj : j < n := by have := (List.getElem?_eq_some_iff.1 hv).1; omega
        obtain ⟨x, x', hx, hx', hxr⟩ := hcell (a.off + j) (by omega)
        rw [← hg j hj, hx] at hv
        cases hv
        simp [hj] at hv'
        rw [Array.getElem?_eq_some_iff] at hx'
        obtain ⟨hlt, rfl⟩ := hx'
        simp [hlt] at hv'
        subst hv'
        exact hxr
      · have hj : j < n := by have := (List.getElem?_eq_some_iff.1 hv).1; simpa using this
        simp [hj] at hv
        obtain ⟨x, x', hx, hx', hxr⟩ := hcell (a.off + j) (by omega)
        rw [add_lit, cell_of_row w i.r _ c' k.elem fz hc]
        have e : i.d + a.off + j = i.d + (a.off + j) := by omega
        rw [e, hx']
        rw [Array.getElem?_eq_some_iff] at hx'
        obtain ⟨hlt, rfl⟩ := hx'
        simp [hlt] at hv
        rw [hv]

/-- Cells set in one block. -/
theorem heap_setCells {b : Nat} {e : TypeId} {fz : Nat × Nat} : ∀ (vs : List Value) (o : Nat) (w : World) (c : Array Value), w.heap[b]? = some (.cells c e fz) →
    ∃ c2 : Array Value, (w.setCells b o vs).heap[b]? = some (.cells c2 e fz) ∧ c2.size = c.size ∧ ∀ j, c2[j]? = if o ≤ j ∧ j < o + vs.length ∧ j < c.size then vs[j - o]? else c[j]?
  | [], o, w, c, h => ⟨c, h, rfl, fun j => by simp; intros; omega⟩
  | v :: r, o, w, c, h => by
    have h1 : (w.setCell ⟨b, o, none⟩ v).heap[b]? = some (.cells (c.setIfInBounds o v) e fz) := by
      simp [World.setCell, Array.getElem?_modify, h]
    obtain ⟨c2, g1, g2, g3⟩ := heap_setCells r (o + 1) _ _ h1
    refine ⟨c2, g1, by simpa using g2, fun j => ?_⟩
    rw [g3 j]
    simp only [Array.size_setIfInBounds, List.length_cons]
    by_cases hj : o + 1 ≤ j ∧ j < o + 1 + r.length ∧ j < c.size
    · rw [if_pos hj, if_pos (by omega), show j - o = (j - (o + 1)) + 1 by omega]; rfl
    · rw [if_neg hj]
      by_cases hjo : j = o
      · subst hjo
        by_cases hlt : j < c.size
        · rw [if_pos (by omega), Array.getElem?_setIfInBounds_self_of_lt hlt, Nat.sub_self]; rfl
        · rw [if_neg (by omega), Array.getElem?_eq_none (by simp; omega), Array.getElem?_eq_none (by omega)]
      · rw [if_neg (by omega), Array.getElem?_setIfInBounds_ne (by omega)]

theorem heap_setCells_other {b : Nat} : ∀ (vs : List Value) (o : Nat) (w : World) (k : Nat), k ≠ b → (w.setCells b o vs).heap[k]? = w.heap[k]?
  | [], _, _, _, _ => rfl
  | v :: r, o, w, k, h => by rw [World.setCells, heap_setCells_other r (o + 1) _ k h]; exact Below.heap_setCell w ⟨b, o, none⟩ v k h

theorem size_setCells {b : Nat} : ∀ (vs : List Value) (o : Nat) (w : World), (w.setCells b o vs).heap.size = w.heap.size
  | [], _, _ => rfl
  | v :: r, o, w => by rw [World.setCells, size_setCells r (o + 1)]; simp [World.setCell]

theorem below_setCells {B b : Nat} (hB : B ≤ b) : ∀ (vs : List Value) (o : Nat) (w : World), Below B w (w.setCells b o vs)
  | [], _, w => Below.refl _ _
  | v :: r, o, w => by rw [World.setCells]; exact ((Below.refl B w).setCell (p := ⟨b, o, none⟩) hB v).trans (below_setCells hB r (o + 1) _)

/-- An object of another block does not mind. -/
theorem ORel.other {m : M ω} {w w' : World} {i : Info} {o : AObj} (h : ORel m w i o) (hb : w'.heap[i.r]? = w.heap[i.r]?) : ORel m w' i o := by
  cases o with
  | cells b => obtain ⟨a1, a2, a4, a3, c', fz, hc, r⟩ := h; exact ⟨a1, a2, a4, a3, c', fz, by rw [hb]; exact hc, r⟩
  | map es c => obtain ⟨es', hc, r⟩ := h; exact ⟨es', by rw [hb]; exact hc, r⟩
  | loop t n ps a c st => obtain ⟨r, hc, k⟩ := h; exact ⟨r, by rw [hb]; exact hc, k⟩
  | mit b si se la => obtain ⟨h0, r, hc, k⟩ := h; exact ⟨h0, r, by rw [hb]; exact hc, k⟩
  | sit q p => obtain ⟨h0, hc⟩ := h; exact ⟨h0, by rw [hb]; exact hc⟩
  | dead => trivial
theorem ORel.mono {m m' : M ω} (hl : Le m m') {w : World} {i : Info} {o : AObj} (h : ORel m w i o) : ORel m' w i o := by
  cases o with
  | cells b => obtain ⟨a1, a2, a4, a3, c', fz, hc, h1, h2, h3⟩ := h; exact ⟨a1, a2, a4, a3, c', fz, hc, h1, fun j hj => by obtain ⟨v, v', x, y, z⟩ := h2 j hj; exact ⟨v, v', x, y, z.mono hl⟩, h3⟩
  | map es c => obtain ⟨es', hc, h1, h2⟩ := h; exact ⟨es', hc, h1, fun k e e' a b => by obtain ⟨x, y, z, u⟩ := h2 k e e' a b; exact ⟨x, y, z.mono hl, u⟩⟩
  | loop t n ps a c st => obtain ⟨r, h1, h2, h3, h4, h5, h6, h7⟩ := h; exact ⟨r, h1, h2, h3, h4, h5, h6, fun k => (h7 k).mono hl⟩
  | mit b si se la => obtain ⟨h0, r, hc, k⟩ := h; exact ⟨h0, r, hc, k.imp id fun ⟨c, j, a1, a2, a3⟩ => ⟨c, j, a1, hl _ _ a2, a3⟩⟩
  | sit q p => exact h
  | dead => trivial

/-- An object that is another one now. -/
theorem upd_sound {B : Nat} {X : Aux} {m : M ω} {s : AS} {w : World} (h : SR B X m s w) {b : Nat} {o o' : AObj} {i : Info} (hg : s.h.get b = some o) (ha : o.alive = true) (hi : m b = some i) {w1 : World} (hsz : w1.heap.size = w.heap.size)
    (hold : ∀ k, k ≠ i.r → w1.heap[k]? = w.heap[k]?) (ho : ORel m w1 i o') : SR B X m ⟨s.n, s.h.put b o'⟩ w1 := by
  obtain ⟨_, e2, e3⟩ := h.rel b o i hg ha hi
  have key : ∀ c p, (s.h.put b o').get c = some p → (c = b ∧ p = o') ∨ (c ≠ b ∧ s.h.get c = some p) := by
    intro c p hc
    rw [T.get_put] at hc
    by_cases hcb : c = b
    · rw [if_pos hcb] at hc; cases hc; exact .inl ⟨hcb, rfl⟩
    · rw [if_neg hcb] at hc; exact .inr ⟨hcb, hc⟩
  refine ⟨?_, ?_, ?_, h.freshM, ?_, ?_, fun c j hj => by rw [hsz]; exact h.lt c j hj⟩
  · intro c p j hc hp hj
    rcases key c p hc with ⟨rfl, rfl⟩ | ⟨hne, hc⟩
    · rw [hi] at hj; cases hj; exact ⟨ho, e2, by omega⟩
    · obtain ⟨f2, f3, f4⟩ := h.rel c p j hc hp hj
      exact ⟨f2.other (hold _ (h.inj c b p o j i hc hg hp ha hne hj hi)), f3, by omega⟩
  · intro c d p q x y hc hd hp hq hne hx hy
    have al : ∀ c p, (s.h.put b o').get c = some p → p.alive = true → ∃ q, s.h.get c = some q ∧ q.alive = true := by
      intro c p hc hp
      rcases key c p hc with ⟨rfl, rfl⟩ | ⟨hne, hc⟩
      · exact ⟨o, hg, ha⟩
      · exact ⟨p, hc, hp⟩
    obtain ⟨p', hc', hp'⟩ := al c p hc hp
    obtain ⟨q', hd', hq'⟩ := al d q hd hq
    exact h.inj c d p' q' x y hc' hd' hp' hq' hne hx hy
  · intro c hc
    have hc' : s.n ≤ c := hc
    show (s.h.put b o').get c = none
    rw [T.get_put]
    by_cases hcb : c = b
    · subst hcb; rw [h.freshH c hc'] at hg; cases hg
    · rw [if_neg hcb]; exact h.freshH c hc'
  · intro c p hc
    obtain ⟨k1, k2⟩ := h.gh c p hc
    refine ⟨?_, k2⟩
    show (s.h.put b o').get c = some p
    rw [T.get_put, if_neg (fun e => by rw [e, hi] at k2; cases k2)]
    exact k1
  · intro r q hr
    obtain ⟨k1, k2, k3⟩ := h.kp r q hr
    exact ⟨by rw [hold r (k3 b i hi).symm]; exact k1, k2, k3⟩

/-- What is written. -/
theorem writeL_sound {B : Nat} {X : Aux} {m : M ω} {s s' : AS} {w : World} {P : Program} (h : SR B X m s w) {a a' : Addr} {l l' : List Value} (hr : writeL s a l = some s') (ha : ARel m a a') (hl : LRel m l l') :
    ∃ w', (storeCells a' l').run P w = .ok () w' ∧ SR B X m s' w' ∧ Below B w w' := by
  unfold writeL at hr
  obtain ⟨hs, i, hi, rfl⟩ := ha
  rw [hs] at hr
  cases hk : blkAt s a.block with
  | none => simp [hk] at hr
  | some k =>
    simp only [hk] at hr
    obtain ⟨hget, ⟨e1, e2, e4, e3, c', fz, hc, hsz, hcell, hfz⟩, hB, hlt⟩ := blk_at h hk hi
    cases hb : (Nat.ble (a.off + l.length) k.len && l.all oneV) with
    | false => simp [hb] at hr
    | true =>
      simp only [hb, cond_true, Option.some.injEq] at hr
      subst hr
      rw [Bool.and_eq_true] at hb
      have hle : a.off + l.length ≤ k.len := Nat.le_of_ble_eq_true hb.1
      have hone := List.all_eq_true.1 hb.2
      have hll := hl.1
      have hst := run_storeCells_cells (P := P) i.r (i.d + a.off) l' 0 w
        (fun j hj => by
          obtain ⟨x, x', hx, hx', _⟩ := hcell (a.off + j) (by omega)
          rw [cell_of_row w i.r _ c' k.elem fz hc, show i.d + a.off + 0 + j = i.d + (a.off + j) by omega, hx']; rfl)
        (fun j hj => by
          simp only [World.frozen?, hc]
          rcases hfz with e | ⟨e, _⟩ <;> rw [e] <;> simp
          omega)
        (fun v hv => by
          obtain ⟨j, hj⟩ := List.mem_iff_getElem?.1 hv
          have hjl : j < l.length := by have := (List.getElem?_eq_some_iff.1 hj).1; omega
          exact one_rel (hl.2 j _ v (List.getElem?_eq_getElem hjl) hj) (hone _ (List.getElem_mem hjl)))
      simp only [Nat.add_zero] at hst
      obtain ⟨c2, g1, g2, g3⟩ := heap_setCells l' (i.d + a.off) w c' hc
      refine ⟨_, hst, upd_sound h hget rfl hi (size_setCells _ _ _) (fun k hk => heap_setCells_other _ _ _ _ hk) ?_, below_setCells hB _ _ _⟩
      refine ⟨e1, e2, e4, e3, c2, fz, g1, by rw [g2]; exact hsz, fun j hj => ?_, hfz⟩
      rw [T.get_ofList, g3]
      have hj' : j < k.len := hj
      by_cases hin : a.off ≤ j ∧ j < a.off + l.length
      · rw [if_pos hin, if_pos (by omega)]
        have e : i.d + j - (i.d + a.off) = j - a.off := by omega
        rw [e]
        refine ⟨_, _, List.getElem?_eq_getElem (by omega), List.getElem?_eq_getElem (by omega), hl.2 (j - a.off) _ _ (List.getElem?_eq_getElem (by omega)) (List.getElem?_eq_getElem (by omega))⟩
      · rw [if_neg hin, if_neg (by omega)]
        exact hcell j hj

/-- The map with one block more. -/
def ext (m : M ω) (n : Nat) (i : Info) : M ω := fun b => if b = n then some i else m b
theorem ext_le {m : M ω} {n : Nat} {i : Info} (h : m n = none) : Le m (ext m n i) := fun b x hx => by
  unfold ext
  by_cases hb : b = n
  · subst hb; rw [h] at hx; cases hx
  · rw [if_neg hb]; exact hx
theorem ext_same (m : M ω) (n : Nat) (i : Info) : ext m n i n = some i := by simp [ext]

/-- One ghost less. -/
def Aux.del (X : Aux) (b : Nat) : Aux := ⟨fun c => if c = b then none else X.G c, X.K⟩
/-- One ghost more. -/
def Aux.add (X : Aux) (b : Nat) (o : AObj) : Aux := ⟨fun c => if c = b then some o else X.G c, X.K⟩

/-- Ghosts are left out. -/
theorem SR.ghosts {B : Nat} {X Y : Aux} {m : M ω} {s : AS} {w : World} (h : SR B X m s w) (hG : ∀ b o, Y.G b = some o → X.G b = some o) (hK : ∀ r o, Y.K r = some o → X.K r = some o) : SR B Y m s w :=
  ⟨h.rel, h.inj, h.freshH, h.freshM, fun b o k => h.gh b o (hG b o k), fun r o k => h.kp r o (hK r o k), h.lt⟩

/-- A new ghost. -/
theorem ghost_sound {B : Nat} {X : Aux} {m : M ω} {s : AS} {w : World} (h : SR B X m s w) (o : AObj) : SR B (X.add s.n o) m ⟨s.n + 1, s.h.put s.n o⟩ w := by
  have hm := h.freshM s.n (Nat.le_refl _)
  have hg : ∀ c p j, (s.h.put s.n o).get c = some p → m c = some j → s.h.get c = some p := by
    intro c p j hc hj
    rw [T.get_put] at hc
    by_cases hcb : c = s.n
    · rw [hcb, hm] at hj; cases hj
    · rwa [if_neg hcb] at hc
  refine ⟨fun c p j hc hp hj => h.rel c p j (hg c p j hc hj) hp hj, fun c d p q x y hc hd hp hq hne hx hy => h.inj c d p q x y (hg c p x hc hx) (hg d q y hd hy) hp hq hne hx hy, ?_, ?_, ?_, h.kp, h.lt⟩
  · intro c hc
    have hc' : s.n + 1 ≤ c := hc
    show (s.h.put s.n o).get c = none
    rw [T.get_put, if_neg (by omega)]; exact h.freshH c (by omega)
  · intro c hc
    have hc' : s.n + 1 ≤ c := hc
    exact h.freshM c (by omega)
  · intro c p hc
    show (s.h.put s.n o).get c = some p ∧ _
    rw [T.get_put]
    have hc' : (if c = s.n then some o else X.G c) = some p := hc
    by_cases hcb : c = s.n
    · rw [if_pos hcb] at hc' ⊢; exact ⟨hc', by rw [hcb]; exact hm⟩
    · rw [if_neg hcb] at hc' ⊢; exact h.gh c p hc'

/-- A ghost that the world has now. -/
theorem real_sound {B : Nat} {X : Aux} {m : M ω} {s : AS} {w w1 : World} {b : Nat} {o : AObj} (h : SR B X m s w) (hb : X.G b = some o) (i : Info) (hB : B ≤ w.heap.size) (hr : i.r = w.heap.size) (hsz : w1.heap.size = w.heap.size + 1)
    (hold : ∀ k, k < w.heap.size → w1.heap[k]? = w.heap[k]?) (ho : ORel m w1 i o) : SR B (X.del b) (ext m b i) s w1 ∧ Le m (ext m b i) := by
  obtain ⟨hg, hm⟩ := h.gh b o hb
  have hle : Le m (ext m b i) := ext_le hm
  have hbn : b < s.n := Nat.lt_of_not_le fun e => by rw [h.freshH b e] at hg; cases hg
  have key : ∀ (d : Nat) (v : Info), ext m b i d = some v → (d = b ∧ v = i) ∨ (d ≠ b ∧ m d = some v) := by
    intro d v hv
    unfold ext at hv
    by_cases hd : d = b
    · rw [if_pos hd] at hv; cases hv; exact .inl ⟨hd, rfl⟩
    · rw [if_neg hd] at hv; exact .inr ⟨hd, hv⟩
  refine ⟨⟨?_, ?_, h.freshH, ?_, ?_, ?_, fun d v hv => by
    rcases key d v hv with ⟨rfl, rfl⟩ | ⟨_, hv'⟩
    · omega
    · have := h.lt d v hv'; omega⟩, hle⟩
  · intro c p j hc hp hj
    rcases key c j hj with ⟨rfl, rfl⟩ | ⟨hne, hj'⟩
    · rw [hg] at hc; cases hc
      exact ⟨ho.mono hle, by omega, by omega⟩
    · obtain ⟨q2, q3, q4⟩ := h.rel c p j hc hp hj'
      exact ⟨(q2.mono hle).other (hold _ q4), q3, by omega⟩
  · intro c d p q x y hc hd hp hq hne hx hy
    rcases key c x hx with ⟨rfl, rfl⟩ | ⟨hne1, hx'⟩
    · rcases key d y hy with ⟨rfl, rfl⟩ | ⟨hne2, hy'⟩
      · exact absurd rfl hne
      · have := (h.rel d q y hd hq hy').2.2; omega
    · have h1 := (h.rel c p x hc hp hx').2.2
      rcases key d y hy with ⟨rfl, rfl⟩ | ⟨hne2, hy'⟩
      · omega
      · exact h.inj c d p q x y hc hd hp hq hne hx' hy'
  · intro c hc
    unfold ext; rw [if_neg (by omega)]; exact h.freshM c hc
  · intro c p hc
    have hc' : (if c = b then none else X.G c) = some p := hc
    by_cases hcb : c = b
    · rw [if_pos hcb] at hc'; cases hc'
    · rw [if_neg hcb] at hc'
      obtain ⟨k1, k2⟩ := h.gh c p hc'
      exact ⟨k1, by unfold ext; rw [if_neg hcb]; exact k2⟩
  · intro r q hr'
    obtain ⟨k1, k2, k3⟩ := h.kp r q hr'
    have hlt : r < w.heap.size := (Array.getElem?_eq_some_iff.1 k1).1
    refine ⟨by rw [hold r hlt]; exact k1, k2, fun d v hv => ?_⟩
    rcases key d v hv with ⟨rfl, rfl⟩ | ⟨_, hv'⟩
    · omega
    · exact k3 d v hv'

/-- A new object, new in the world too. -/
theorem new_sound {B : Nat} {X : Aux} {m : M ω} {s : AS} {w w1 : World} (h : SR B X m s w) (o : AObj) (i : Info) (hB : B ≤ w.heap.size) (hr : i.r = w.heap.size) (hsz : w1.heap.size = w.heap.size + 1)
    (hold : ∀ k, k < w.heap.size → w1.heap[k]? = w.heap[k]?) (ho : ORel m w1 i o) :
    SR B X (ext m s.n i) ⟨s.n + 1, s.h.put s.n o⟩ w1 ∧ Le m (ext m s.n i) := by
  obtain ⟨h1, h2⟩ := real_sound (ghost_sound h o) (b := s.n) (o := o) (by simp [Aux.add]) i hB hr hsz hold ho
  refine ⟨h1.ghosts (fun b p hb => ?_) (fun r p hr => hr), h2⟩
  have hne : b ≠ s.n := fun e => by
    have := (h.gh b p hb).1
    rw [e, h.freshH s.n (Nat.le_refl _)] at this; cases this
  simp [Aux.del, Aux.add, hne, hb]

/-- What an allocation's run must come to. -/
def NewOK (B : Nat) (m : M ω) (w : World) (o : AObj) (f : Nat → Value) (res : Result Next) : Prop :=
  ∃ v' w1 i, res = .ok (.value v') w1 ∧ i.r = w.heap.size ∧ w1.heap.size = w.heap.size + 1 ∧ (∀ k, k < w.heap.size → w1.heap[k]? = w.heap[k]?) ∧ Below B w w1 ∧ ORel m w1 i o ∧ ∀ (m' : M ω) (b : Nat), m' b = some i → VRel m' (f b) v'

/-- A block of cells as it is made. -/
theorem blk_new {m : M ω} {w : World} {l l' : List Value} (hl : LRel m l l') (e : TypeId) (esz : Nat) :
    ORel m (w.alloc (.cells l'.toArray e)) ⟨w.heap.size, 0, l.length, esz, false, l.length⟩ (blkOf l e esz false false) := by
  refine ⟨rfl, rfl, rfl, by simp, l'.toArray, (0, 0), heap_alloc_new w _, by simpa using hl.1.symm, fun j hj => ?_, .inl rfl⟩
  have hj' : j < l.length := hj
  rw [T.get_ofList, if_pos (by simp; omega)]
  refine ⟨l[j], l'[j]'(by rw [← hl.1]; exact hj'), by simp, by simp [show j < l'.length by rw [← hl.1]; exact hj'], ?_⟩
  exact hl.2 j _ _ (List.getElem?_eq_getElem hj') (List.getElem?_eq_getElem (by rw [← hl.1]; exact hj'))
end Go.Proofs.YtenfkghoolegfaaGreatDoor.Ev
