/- An interpreter over an abstract memory, part t: code and calls: the interpreter is sound. -/
import Derived.Test.YtenfkghoolegfaaGreatDoorEvs
set_option linter.unusedVariables false
namespace Go.Proofs.YtenfkghoolegfaaGreatDoor.Ev
open Go.RowKit
variable {ω : Nat → Value}
section
variable {C : Ctx} {N B : Nat} {X : Aux} {a a' : T Value} {s s' : AS} {act : Act} {w : World} {m : M ω} {ih : Fns}

theorem SR.drew (h : SR B X m s w) : SR B X m s { w with drawn := w.drawn + 1 } := ⟨fun b o i h1 h2 h3 => by
    obtain ⟨k1, k2, k3⟩ := h.rel b o i h1 h2 h3; exact ⟨k1.other rfl, k2, k3⟩, h.inj, h.freshH, h.freshM, h.gh, h.kp, h.lt⟩

theorem region_sound (ho : SndO ω C ih) {ops : Array Oper} {id : Nat} {x : Xt} {q : Bool} (h : kRegion ops C ih q N a s = some (x, a', s')) {F : Fence} {n : Nat} {K0 : Nat → Option Obj} (hF : FOf q F) (hs : SR B X m s w) (hT : TR m N a act) (hM : MK K0 X.K act.defers) (hB : Bs ω C B w) :
    (Code.region id ops false).wpIn F n C.P (PostC B X m N x a' s' w K0) act w := by
  unfold kRegion at h
  split at h
  · rename_i a1 s1 h1
    cases h
    refine wpIn_region ?_
    have := ho N ops 0 ops.toList a s a' s' (fun i => by simp) h1 q F n (PostC B X m N .normal a' s' w K0) B X m act w hF hs hT hB fun act' w' m' hle hs' hT' hd hb => ⟨rfl, X, m', rfl, by rw [hd]; exact hM, hle, hs', hT', hb⟩
    rwa [List.drop_zero] at this
  · cases h

theorem drawnRegion_sound (hC : COK ω C) (hd : SndD ω C ih) {ops : Array Oper} {id : Nat} {x : Xt} {q : Bool} (h : kDrawn ops C ih q N a s = some (x, a', s')) {F : Fence} {n : Nat} {K0 : Nat → Option Obj} (hF : FOf q F) (hs : SR B X m s w) (hT : TR m N a act) (hM : MK K0 X.K act.defers) (hB : Bs ω C B w) :
    (Code.region id ops true).wpIn F n C.P (PostC B X m N x a' s' w K0) act w := by
  unfold kDrawn at h
  cases hok : okD ops.toList with
  | false => rw [hok] at h; cases h
  | true =>
    rw [hok] at h
    simp only [cond_true] at h
    split at h
    · rename_i a1 s1 h1
      cases h
      have hg := good_of hok
      refine wpIn_region_any hC.mixed ?_
      have hL : ∀ i, (Array.replicate ops.size false).getD i false = false := fun i => by
        by_cases hi : i < ops.size <;> simp [hi]
      refine hd N ops 0 0 a s a' s' hg h1 q F n _ B X _ act _ X m (fun i => i) ops.size hF ⟨by simp, fun i hi => ?_, fun i o _ hi => ?_, fun i o _ hi => ?_, fun i _ hi => ?_, fun i o t _ hi => ?_, hT.size, fun t _ => hT.rel t, hs.drew, rfl, fun _ _ h => h, ?_, ?_, hB.next ((Below.refl B w).drew), fun i o _ _ hi => by rw [bitB_zero] at hi; cases hi⟩ ?_ ?_
      · rw [hL] at hi; cases hi
      · rw [hL] at hi; cases hi
      · rw [bitB_zero] at hi; cases hi
      · rw [bitB_zero] at hi; cases hi
      · rw [bitB_zero] at hi; cases hi
      · rintro i o p f ⟨_, hi, _⟩; rw [bitB_zero] at hi; cases hi
      · rintro i j oi oj qi qj fi fj ⟨_, hi, _⟩; rw [bitB_zero] at hi; cases hi
      · simp
      · intro act' w' m' hle hs' hT' hdd hb
        exact ⟨rfl, X, m', rfl, by rw [hdd]; exact hM, hle, hs', hT', ((Below.refl B w).drew).trans hb⟩
    · cases h

/-- Blocks of the world besides. -/
theorem SR.keep (h : SR B X m s w) {r : Nat} {o : Obj} (hr : w.heap[r]? = some o) (hB : B ≤ r) (hm : ∀ b i, m b = some i → i.r ≠ r) : SR B ⟨X.G, fun k => if k = r then some o else X.K k⟩ m s w :=
  ⟨h.rel, h.inj, h.freshH, h.freshM, h.gh, fun k p hk => by
    have hk' : (if k = r then some o else X.K k) = some p := hk
    by_cases e : k = r
    · rw [if_pos e] at hk'; cases hk'; rw [e]; exact ⟨hr, hB, hm⟩
    · rw [if_neg e] at hk'; exact h.kp k p hk', h.lt⟩

/-- A new block of the world besides. -/
theorem SR.besides (h : SR B X m s w) (hB : B ≤ w.heap.size) (o : Obj) : SR B ⟨X.G, fun k => if k = w.heap.size then some o else X.K k⟩ m s (w.alloc o) := by
  have h1 : SR B X m s (w.alloc o) := ⟨fun b p i h1 h2 h3 => by
      obtain ⟨k1, k2, k3⟩ := h.rel b p i h1 h2 h3
      exact ⟨k1.other (Below.heap_alloc w _ _ k3), k2, by simp; omega⟩, h.inj, h.freshH, h.freshM, h.gh, fun r p hr => by
      obtain ⟨k1, k2, k3⟩ := h.kp r p hr
      exact ⟨by rw [Below.heap_alloc w _ _ (Array.getElem?_eq_some_iff.1 k1).1]; exact k1, k2, k3⟩, fun b i hi => by have := h.lt b i hi; simp; omega⟩
  exact h1.keep (heap_alloc_new w o) hB (fun b i hi => by have := h.lt b i hi; omega)

/-- The marks are taken, one behind the other. -/
theorem marks_sound {fn : Func} {tm : Array Value} {R : Ending → World → Prop} {n : Nat} {K0 : Nat → Option Obj} {G : Nat → Option AObj} {v : Value} (hres : ∀ w', SR B ⟨G, K0⟩ m s w' → Below B w w' → ∃ v', (results fn tm).run C.P w' = .ok v' w' ∧ R (.returned v') w') :
    ∀ {K : Nat → Option Obj} {ds : List Deferred}, MK K0 K ds → ∀ w', SR B ⟨G, K⟩ m s w' → Below B w w' → LeavesInM Fence.wide n C.P fn tm R ds .returning w' := by
  intro K ds h
  induction h with
  | nil => exact fun w' hs hb => hres w' hs hb
  | cons D K ds _ hD ih =>
    intro w' hs hb
    obtain ⟨h1, h2, h3⟩ := hs.kp D (.deferred (some [])) (by simp)
    have hlt : D < w'.heap.size := (Array.getElem?_eq_some_iff.1 h1).1
    refine ⟨by simp, .inl ⟨D, _, rfl, run_takeDeferred h1, ih _ ?_ (hb.trans ⟨rfl, rfl, rfl, by simp [World.putObj], fun k hk => World.putObj_heap_other (by omega)⟩)⟩⟩
    refine ⟨fun b o i k1 k2 k3 => ?_, hs.inj, hs.freshH, hs.freshM, hs.gh, fun r o hr => ?_, fun b i hi => by simp [World.putObj]; exact hs.lt b i hi⟩
    · obtain ⟨e1, e2, e3⟩ := hs.rel b o i k1 k2 k3
      exact ⟨e1.other (World.putObj_heap_other (h3 b i k3)), e2, by simp [World.putObj]; exact e3⟩
    · have hne : r ≠ D := fun e => by
        have hr' : K r = some o := hr
        rw [e, hD] at hr'; cases hr'
      obtain ⟨e1, e2, e3⟩ := hs.kp r o (by show (if r = D then _ else K r) = some o; rw [if_neg hne]; exact hr)
      exact ⟨by rw [World.putObj_heap_other hne]; exact e1, e2, e3⟩

/-- What a function hands back. -/
theorem resOf_sound (hC : CtxOK ω C) (hs : SR B X m s w) (hT : TR m N a act) : ∀ {rs : List ResultVar} {l : List Value}, resOf C s a rs = some l →
    ∃ l', LRel m l l' ∧ (rs.mapM (m := Sem) fun | .tmp t => pure (act.tmps.getD t undef) | .cell p t => do loadVar t (← asAddr (act.tmps.getD p undef))).run C.P w = .ok l' w
  | [], l, h => by cases h; exact ⟨[], LRel.nil m, by simp⟩
  | .tmp t :: rs, l, h => by
    simp only [resOf] at h
    split at h
    · rename_i l1 h1
      cases h
      obtain ⟨l', hl, hr⟩ := resOf_sound hC hs hT h1
      refine ⟨_, LRel.cons (hT.rel t) hl, ?_⟩
      simp only [List.mapM_cons, Sem.run_bind, Sem.run_pure, Result.andThen, hr]
    · cases h
  | .cell p t :: rs, l, h => by
    simp only [resOf] at h
    split at h
    · rename_i ad had
      have hv := hT.rel p
      rw [had] at hv
      obtain ⟨ad', hA, hpe⟩ := ptr_inv hv
      have haddr : (asAddr (act.tmps.getD p undef)).run C.P w = .ok ad' w := by rw [hpe]; simp [asAddr]
      split at h
      · rename_i k l1 hag hsz h1
        split at h
        · rename_i cs hcs
          cases h
          obtain ⟨l', hl, hr⟩ := resOf_sound hC hs hT h1
          obtain ⟨i, hi, rfl⟩ := sizeT_sound hC hsz
          obtain ⟨q, e1, e2, e3⟩ := readN_sound hs hcs hA
          have hlc := run_loadCells_list (P := C.P) w ad' q e3
          rw [e2] at hlc
          have hload : (loadVar t ad').run C.P w = .ok (.agg q.toArray) w := by simp [loadVar, isAgg_sound hC hag, sizeOf, typeInfo, hi, hlc]
          refine ⟨_, LRel.cons e1.agg hl, ?_⟩
          simp only [List.mapM_cons, Sem.run_bind, haddr, hload, Sem.run_pure, Result.andThen, hr]
        · cases h
      · rename_i l1 hag h1
        split at h
        · rename_i v hcs
          cases h
          obtain ⟨l', hl, hr⟩ := resOf_sound hC hs hT h1
          obtain ⟨q, e1, e2, e3⟩ := readN_sound hs hcs hA
          match q, e2, e1, e3 with
          | [v'], _, e1, e3 =>
            have hcell := e3 0 v' rfl
            have he : ad'.add 0 = ad' := by simp [Addr.add]
            rw [he] at hcell
            have hload : (loadVar t ad').run C.P w = .ok v' w := by simp [loadVar, isAgg_sound hC hag, load, Sem.run, hcell]
            refine ⟨_, LRel.cons e1.tail.1 hl, ?_⟩
            simp only [List.mapM_cons, Sem.run_bind, haddr, hload, Sem.run_pure, Result.andThen, hr]
        · cases h
      · cases h
    · cases h
end
end Go.Proofs.YtenfkghoolegfaaGreatDoor.Ev
