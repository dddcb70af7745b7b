/- An interpreter over an abstract memory, part u: the interpreter is sound. -/
import Derived.Test.YtenfkghoolegfaaGreatDoorEvt
import Derived.Laws.Sem
namespace Go.Proofs.YtenfkghoolegfaaGreatDoor.Ev
open Go.RowKit
variable {ω : Nat → Value}
section
variable {C : Ctx} {N B : Nat} {X : Aux} {a a' : T Value} {s s' : AS} {act : Act} {w : World} {m : M ω} {ih : Fns}

/-- One value, or as many as there are. -/
def packL : List Value → Value
  | [v] => v
  | l => .tuple l.toArray

theorem results_sound (hC : CtxOK ω C) (hs : SR B X m s w) (hT : TR m N a act) {fn : Func} {l : List Value} (h : resOf C s a fn.results.toList = some l) :
    ∃ v', (results fn act.tmps).run C.P w = .ok v' w ∧ VRel m (packL l) v' := by
  obtain ⟨l', hl, hr⟩ := resOf_sound hC hs hT h
  have hm : (fn.results.mapM (m := Sem) fun | .tmp t => pure (act.tmps.getD t undef) | .cell p t => do loadVar t (← asAddr (act.tmps.getD p undef))).run C.P w = .ok l'.toArray w := by
    rw [Array.mapM_eq_mapM_toList, Sem.run_map]
    exact congrArg (fun r : Result (List Value) => r.andThen fun a w' => .ok a.toArray w') hr
  refine ⟨if h : l'.toArray.size = 1 then l'.toArray[0] else .tuple l'.toArray, ?_, ?_⟩
  · unfold results
    rw [Sem.run_bind]
    exact congrArg (fun r : Result (Array Value) => r.andThen fun vs w => .ok (if h : vs.size = 1 then vs[0] else .tuple vs) w) hm
  · clear h hr hm
    match l, l', hl with
    | [], [], hl => exact LRel.tuple hl
    | [v], [v'], hl => exact hl.tail.1
    | [], _ :: _, hl => exact absurd hl.1 (by simp)
    | _ :: _, [], hl => exact absurd hl.1 (by simp)
    | [_], _ :: _ :: _, hl => exact absurd hl.1 (by simp)
    | _ :: _ :: _, [_], hl => exact absurd hl.1 (by simp)
    | u :: v :: l, u' :: v' :: l', hl => rw [dif_neg (by simp)]; exact LRel.tuple hl

/-- The arguments, as they stand at a function's head. -/
theorem args_TR {vs : List Value} {args : Array Value} (hl : LRel m vs args.toList) {k : Nat} (hk : vs.length ≤ k) : TR m k (T.ofList vs 0 .leaf) { tmps := args ++ Array.replicate (k - args.size) undef, defers := [] } := by
  have hsz : args.size = vs.length := by have := hl.1; simpa using this.symm
  refine ⟨by simp; omega, fun t => ?_⟩
  rw [T.get_ofList]
  by_cases ht : t < vs.length
  · rw [if_pos (by omega)]
    have h1 : vs[t - 0]? = some vs[t] := by simp [ht]
    have h2 : args.toList[t]? = some (args.toList[t]'(by simp; omega)) := List.getElem?_eq_getElem (by simp; omega)
    have h3 : (args ++ Array.replicate (k - args.size) undef).getD t undef = args.toList[t]'(by simp; omega) := by
      simp [Array.getElem?_append, show t < args.size by omega]
    rw [h1]
    show VRel m vs[t] ((args ++ Array.replicate (k - args.size) undef).getD t undef)
    rw [h3]
    exact hl.2 t _ _ (List.getElem?_eq_getElem ht) h2
  · rw [if_neg (by omega)]
    have hg : (T.leaf : T Value).get t = none := rfl
    have h3 : (args ++ Array.replicate (k - args.size) undef).getD t undef = undef := by
      by_cases h4 : t < args.size + (k - args.size)
      · simp [Array.getElem?_append, show ¬ t < args.size by omega, Array.getElem?_replicate]
        split <;> rfl
      · simp [Array.getElem?_append, show ¬ t < args.size by omega, Array.getElem?_replicate]
        split <;> rfl
    rw [hg]
    show VRel m undef ((args ++ Array.replicate (k - args.size) undef).getD t undef)
    rw [h3]
    exact undef_rel

theorem fun_sound (hC : COK ω C) (hc : SndC ω C ih) : SndF ω C ⟨ih.c, ih.o, ih.d, evF C ih⟩ := by
  intro g vs s v s' h B X m w args hs hl hB
  have h' : evF C ih g vs s = some (v, s') := h
  unfold evF at h'
  cases hsp : C.sp g with
  | some k =>
    rw [hsp] at h'
    exact ⟨hC.sp g k hsp vs s v s' h' B X m w args hs hl hB, fun e => by cases e⟩
  | none =>
    rw [hsp] at h'
    simp only at h'
    split at h'
    · rename_i fn hfn
      split at h'
      · rename_i b hb
        cases hle : Nat.ble vs.length fn.ntmps with
        | false => rw [hle] at h'; cases h'
        | true =>
          rw [hle] at h'
          simp only [cond_true] at h'
          have hle' := Nat.le_of_ble_eq_true hle
          have he : ∀ args w, (callFunc g args).run C.P w = .ok (.enter g args) w := hC.ok.call g fn hfn (by rw [hb]; rfl)
          have key : ∀ n, CallsIn Fence.wide n C.P g args w (Ret B X m s' w v) := by
            intro n
            refine callsIn_of_wp_marks (hC.ok.fn g fn hfn) hb trivial ?_
            cases hx : ih.c false fn.ntmps b (T.ofList vs 0 .leaf) s with
            | none => rw [hx] at h'; cases h'
            | some p =>
              obtain ⟨x, a1, s1⟩ := p
              rw [hx] at h'
              have hnx : ∀ id, x ≠ .exit id := by rintro id rfl; cases h'
              have hpk : ∀ {o : Option (Value × AS)}, (match resOf C s1 a1 fn.results.toList with | some [v] => some (v, s1) | some l => some (.tuple l.toArray, s1) | none => none) = o → o = some (v, s') → ∃ l, resOf C s1 a1 fn.results.toList = some l ∧ s1 = s' ∧ v = packL l := by
                intro o ho h'
                subst ho
                split at h'
                · rename_i u hu; cases h'; exact ⟨_, hu, rfl, rfl⟩
                · rename_i l hnl hu
                  cases h'
                  refine ⟨l, hu, rfl, ?_⟩
                  match l with
                  | [] => rfl
                  | [u] => exact absurd rfl (hnl u)
                  | _ :: _ :: _ => rfl
                · cases h'
              have hres : ∃ l, resOf C s1 a1 fn.results.toList = some l ∧ s1 = s' ∧ v = packL l := by
                cases x with
                | exit id => exact absurd rfl (hnx id)
                | normal => exact hpk rfl h'
                | ret => exact hpk rfl h'
              obtain ⟨l, hl1, rfl, rfl⟩ := hres
              refine wpIn_mono (hc false _ _ _ _ _ _ _ hx B X m _ w Fence.wide n X.K (.inl ⟨rfl, rfl⟩) hs (args_TR hl hle') .nil hB) ?_
              rintro e act' w' ⟨rfl, X1, m1, hG, hM, hle1, hs1, hT1, hb1⟩
              have fin : LeavesInM Fence.wide n C.P fn act'.tmps (Ret B X m s1 w (packL l)) act'.defers .returning w' := by
                refine marks_sound (C := C) (w := w) (v := undef) (K0 := X.K) (G := X.G) (s := s1) (m := m1) ?_ hM w' (by have h0 := hs1; obtain ⟨G1, K1⟩ := X1; simp only at hG; rw [hG] at h0; exact h0) hb1
                intro w2 hs2 hb2
                obtain ⟨v', hr, hv⟩ := results_sound hC.ok hs2 hT1 hl1
                exact ⟨v', hr, v', rfl, m1, hle1, hs2, hv, hb2⟩
              cases x with
              | normal => exact fin
              | ret => exact fin
              | exit id => exact absurd rfl (hnx id)
          exact ⟨calls_ok (he args w) key, fun _ => ⟨he, key⟩⟩
      · cases h'
    · cases h'

/-- A loop over a function. -/
theorem range_sound' (hc : SndC ω C ih) (hf : SndF ω C ih) {g : Operand} {ps : Array Tmp} {asg bd : Code} {x : Xt} {q : Bool} (h : kRange g ps asg bd C ih q N a s = some (x, a', s')) {F : Fence} {n : Nat} {K0 : Nat → Option Obj} (hF : FOf q F) (hs : SR B X m s w) (hT : TR m N a act) (hM : MK K0 X.K act.defers) (hBs : Bs ω C B w) :
    (Code.rangeFunc g ps asg bd).wpIn F n C.P (PostC B X m N x a' s' w K0) act w := by
  have hB := hBs.le
  unfold kRange at h
  cases q with
  | true => cases h
  | false =>
  simp only [cond_false] at h
  obtain ⟨_, rfl⟩ | ⟨e, _⟩ := hF
  · split at h
    · rename_i gf fs cs hg
      cases hcond : (Nat.beq fs.size 0 && (C.sp gf).isNone) with
      | false => rw [hcond] at h; cases h
      | true =>
        rw [hcond] at h
        simp only [cond_true] at h
        rw [Bool.and_eq_true] at hcond
        have hfs : fs.size = 0 := Nat.eq_of_beq_eq_true hcond.1
        have hsp : C.sp gf = none := by simpa using hcond.2
        obtain ⟨fs', cs', hev, hfl, hcl⟩ := func_inv (opnd_sound hT hg)
        have hfs' : fs' = #[] := by
          have := hfl.1
          simp at this
          exact Array.eq_empty_of_size_eq_zero (by omega)
        subst hfs'
        split at h
        · rename_i v1 s1 hcall
          refine wpIn_rangeFunc ?_
          intro fn _
          obtain ⟨rec, hrec⟩ : ∃ rec : Loop, rec = { state := .ready, pending := none, fn, tmps := act.tmps, params := ps, assign := asg, body := bd, defers := w.heap.size } := ⟨_, rfl⟩
          have hs0 := hs.besides hB (.deferred (some []))
          have hB0 : B ≤ (w.alloc (.deferred (some []))).heap.size := by simp; omega
          obtain ⟨hs1, hle1⟩ := new_sound (w1 := (w.alloc (.deferred (some []))).alloc (.loop rec)) hs0 (.loop a N ps.toList asg bd .ready) ⟨(w.alloc (.deferred (some []))).heap.size, 0, 0, 0, false, 0⟩ hB0 rfl (by simp) (fun k hk => Below.heap_alloc _ _ k hk)
            ⟨rec, heap_alloc_new _ _, by rw [hrec], by rw [hrec], by rw [hrec], by rw [hrec]; exact hT.size, by rw [hrec]; exact ⟨rfl, rfl⟩, fun k => by rw [hrec]; exact hT.rel k⟩
          have hb1 : Below B w ((w.alloc (.deferred (some []))).alloc (.loop rec)) := ((Below.refl B w).alloc hB _).alloc (by simp; omega) _
          have hB1 := hBs.next hb1
          have hargs : LRel (ext m s.n ⟨(w.alloc (.deferred (some []))).heap.size, 0, 0, 0, false, 0⟩) (.func (.yield s.n) #[] #[] :: cs.toList) (#[Value.func (.yield (w.alloc (.deferred (some []))).heap.size) #[] #[]] ++ cs').toList := by
            simp only [Array.toList_append, List.singleton_append]
            exact LRel.cons (.yield s.n _ (ext_same _ _ _)) (hcl.mono hle1)
          obtain ⟨he, hcalls⟩ := (hf _ _ _ _ _ hcall B _ _ _ _ hs1 hargs hB1).2 hsp
          have hsize : (w.alloc (.deferred (some []))).heap.size = w.heap.size + 1 := by simp
          rw [hsize] at hcalls hle1
          generalize hW1 : (w.alloc (.deferred (some []))).alloc (.loop rec) = W1 at hs1 hb1 hB1 hcalls
          refine ⟨w.heap.size + 1, [{ target := .collected w.heap.size, args := #[] }], W1, { target := .fn (.func gf) cs', args := #[.func (.yield (w.heap.size + 1)) #[] #[]] }, W1, gf, #[.func (.yield (w.heap.size + 1)) #[] #[]] ++ cs', W1, ?_, ?_, ?_, ?_, ?_, ?_⟩
          · rw [← hW1, hrec]; exact run_enterLoop_outer _ _ _ _ _
          · simp only [resolve, hev]
            simp [go_sem]
          · intro f' _; trivial
          · simp [invoke, go_sem, he]
          · intro e; cases e
          · refine (hcalls (n - 1)).mono ?_
            rintro e w2 ⟨v2, rfl, m2, hle2, hs2, hv2, hb2⟩
            have hi2 := hle2 _ _ (ext_same m s.n ⟨w.heap.size + 1, 0, 0, 0, false, 0⟩)
            have hleA : Le m m2 := hle1.trans hle2
            have hMK : MK K0 (fun k => if k = w.heap.size then some (.deferred (some [])) else X.K k) ({ target := .collected w.heap.size, args := #[] } :: act.defers) :=
              .cons w.heap.size X.K _ hM (by
                cases hk : X.K w.heap.size with
                | none => rfl
                | some o =>
                  have := (hs.kp _ _ hk).1
                  exact absurd (Array.getElem?_eq_some_iff.1 this).1 (by omega))
            have over : ∀ {t : T Value} {nt : Nat} {ps1 : List Tmp} {as1 bd1 : Code} {st : LSt}, s1.h.get s.n = some (.loop t nt ps1 as1 bd1 st) → ∃ r : Loop, w2.heap[w.heap.size + 1]? = some (.loop r) ∧ st.is r ∧
                SR B ⟨X.G, fun k => if k = w.heap.size then some (.deferred (some [])) else X.K k⟩ m2 ⟨s1.n, s1.h.put s.n .dead⟩ (w2.putObj (w.heap.size + 1) (.loop { r with state := .exhausted })) ∧ Below B w (w2.putObj (w.heap.size + 1) (.loop { r with state := .exhausted })) := by
              intro t nt ps1 as1 bd1 st hg1
              obtain ⟨⟨r, h0, _, _, _, _, h5, _⟩, hBi, hlt⟩ := hs2.rel _ _ _ hg1 rfl hi2
              have hup := upd_sound (o' := .dead) (w1 := w2.putObj (w.heap.size + 1) (.loop { r with state := .exhausted })) hs2 hg1 rfl hi2 (by simp [World.putObj]) (fun k hk => World.putObj_heap_other (by simpa using hk)) trivial
              exact ⟨r, h0, h5, hup, (hb1.trans hb2).trans ⟨rfl, rfl, rfl, by simp [World.putObj], fun k hk => World.putObj_heap_other (by omega)⟩⟩
            split at h
            · rename_i t nt ps1 as1 bd1 hg1
              cases h
              obtain ⟨r, h0, hst, hsr, hbl⟩ := over hg1
              refine ⟨none, w2.putObj (w.heap.size + 1) (.loop { r with state := .exhausted }), ?_, rfl, ⟨X.G, fun k => if k = w.heap.size then some (.deferred (some [])) else X.K k⟩, m2, rfl, hMK, hleA, hsr, ⟨(hT.mono hleA).size, (hT.mono hleA).rel⟩, hbl⟩
              have := run_endLoop (P := C.P) h0 (by rw [hst.1]; simp)
              rw [this, hst.2]
            · rename_i t nt ps1 as1 bd1 c hg1
              obtain ⟨r, h0, hst, hsr, hbl⟩ := over hg1
              refine ⟨some c, w2.putObj (w.heap.size + 1) (.loop { r with state := .exhausted }), ?_, ?_⟩
              · have := run_endLoop (P := C.P) h0 (by rw [hst.1]; simp)
                rw [this, hst.2]
              · refine wpIn_mono (hc false _ _ _ _ _ _ _ h B ⟨X.G, fun k => if k = w.heap.size then some (.deferred (some [])) else X.K k⟩ m2 _ _ Fence.wide n K0 (.inl ⟨rfl, rfl⟩) hsr ⟨(hT.mono hleA).size, (hT.mono hleA).rel⟩ hMK (hBs.next hbl)) ?_
                intro e2 act3 w3 hp
                exact hp.back rfl hleA hbl
            · cases h
        · cases h
    · cases h
  · cases e

/-- Code. -/
theorem code_sound (hC : COK ω C) (hc : SndC ω C ih) (hf : SndF ω C ih) (ho : SndO ω C ih) (hd : SndD ω C ih) (hl : SndL ω C ih) : ∀ q N c a s x a' s', evC C ih q N c a s = some (x, a', s') → ∀ (B : Nat) (X : Aux) (m : M ω) (act : Act) (w : World) (F : Fence) (n : Nat) (K0 : Nat → Option Obj),
    FOf q F → SR B X m s w → TR m N a act → MK K0 X.K act.defers → Bs ω C B w → c.wpIn F n C.P (PostC B X m N x a' s' w K0) act w := by
  intro q N c a s x a' s' h B X m act w F n K0 hF hs hT hM hB
  have here : PostC B X m N .normal a s w K0 .normal act w := ⟨rfl, X, m, rfl, hM, Le.refl _, hs, hT, Below.refl _ _⟩
  have h' : evK c C ih q N a s = some (x, a', s') := h
  cases c with
  | skip => cases h'; exact wpIn_skip here
  | label l => cases h'; exact wpIn_label here
  | ret => cases h'; exact wpIn_ret ⟨rfl, X, m, rfl, hM, Le.refl _, hs, hT, Below.refl _ _⟩
  | exit id => cases h'; exact wpIn_exit ⟨rfl, X, m, rfl, hM, Le.refl _, hs, hT, Below.refl _ _⟩
  | seq p r =>
    have h2 : kSeq p r C ih q N a s = some (x, a', s') := h'
    unfold kSeq at h2
    refine wpIn_seq ?_
    cases hx : ih.c q N p a s with
    | none => rw [hx] at h2; cases h2
    | some t =>
      obtain ⟨y, a1, s1⟩ := t
      rw [hx] at h2
      refine wpIn_mono (hc _ _ _ _ _ _ _ _ hx B X m act w F n K0 hF hs hT hM hB) ?_
      intro e act1 w1 hp
      cases y with
      | normal =>
        obtain ⟨rfl, X1, m1, hG, hM1, hle1, hs1, hT1, hb1⟩ := hp
        refine wpIn_mono (hc _ _ _ _ _ _ _ _ h2 B X1 m1 act1 w1 F n K0 hF hs1 hT1 hM1 (hB.next hb1)) ?_
        intro e2 act2 w2 hp2
        exact hp2.back hG hle1 hb1
      | ret => cases h2; have he := hp.1; subst he; exact hp
      | exit id => cases h2; have he := hp.1; subst he; exact hp
  | cond o p r =>
    have h2 : kCond o p r C ih q N a s = some (x, a', s') := h'
    unfold kCond at h2
    split at h2
    · rename_i b hb
      refine wpIn_cond (bool_inv (opnd_sound hT hb)) ?_
      have hif : (if b then p else r) = cond b p r := by cases b <;> rfl
      rw [hif]
      exact hc _ _ _ _ _ _ _ _ h2 B X m act w F n K0 hF hs hT hM hB
    · cases h2
  | block id p =>
    have h2 : kBlock id p C ih q N a s = some (x, a', s') := h'
    unfold kBlock at h2
    refine wpIn_block ?_
    cases hx : ih.c q N p a s with
    | none => rw [hx] at h2; cases h2
    | some t =>
      obtain ⟨y, a1, s1⟩ := t
      rw [hx] at h2
      refine wpIn_mono (hc _ _ _ _ _ _ _ _ hx B X m act w F n K0 hF hs hT hM hB) ?_
      intro e act1 w1 hp
      cases y with
      | normal => cases h2; have he := hp.1; subst he; exact hp
      | ret => cases h2; have he := hp.1; subst he; exact hp
      | exit id' =>
        obtain ⟨rfl, r⟩ := hp
        simp only at h2
        cases hb : Nat.beq id id' with
        | true =>
          rw [hb] at h2
          cases h2
          have := Nat.eq_of_beq_eq_true hb
          subst this
          show Exit.inBlock id _ (.exit id) act1 w1
          simp only [Exit.inBlock, if_true]
          exact ⟨rfl, r⟩
        | false =>
          rw [hb] at h2
          cases h2
          have hne := Nat.ne_of_beq_eq_false hb
          show Exit.inBlock id _ (.exit id') act1 w1
          simp only [Exit.inBlock, if_neg (show ¬ id' = id from fun e => hne e.symm)]
          exact ⟨rfl, r⟩
  | loop p =>
    refine LoopAt.loop (LoopAt.step ?_)
    have h2 : kLoop p C ih q N a s = some (x, a', s') := h'
    unfold kLoop at h2
    cases hx : ih.c q N p a s with
    | none => rw [hx] at h2; cases h2
    | some t =>
      obtain ⟨y, a1, s1⟩ := t
      rw [hx] at h2
      refine wpIn_mono (hc _ _ _ _ _ _ _ _ hx B X m act w F n K0 hF hs hT hM hB) ?_
      intro e act1 w1 hp
      cases y with
      | normal =>
        obtain ⟨rfl, X1, m1, hG, hM1, hle1, hs1, hT1, hb1⟩ := hp
        have := hl _ _ _ _ _ _ _ _ h2 B X1 m1 act1 w1 F n K0 hF hs1 hT1 hM1 (hB.next hb1)
        intro b k cs k1 k2 k3
        obtain ⟨e2, act2, w2, hp2, harr⟩ := this b k cs k1 k2 k3
        exact ⟨e2, act2, w2, hp2.back hG hle1 hb1, harr⟩
      | ret => cases h2; have he := hp.1; subst he; exact hp
      | exit id => cases h2; have he := hp.1; subst he; exact hp
  | region id ops dr =>
    cases dr with
    | false => exact region_sound ho h' hF hs hT hM hB
    | true => exact drawnRegion_sound hC hd h' hF hs hT hM hB
  | rangeFunc g ps asg bd => exact range_sound' hc hf h' hF hs hT hM hB
  | _ => cases h'

theorem loop_sound (hc : SndC ω C ih) (hl : SndL ω C ih) : ∀ q N c a s x a' s', evC C ih q N (.loop c) a s = some (x, a', s') → ∀ (B : Nat) (X : Aux) (m : M ω) (act : Act) (w : World) (F : Fence) (n : Nat) (K0 : Nat → Option Obj),
    FOf q F → SR B X m s w → TR m N a act → MK K0 X.K act.defers → Bs ω C B w → LoopAt F n C.P c (PostC B X m N x a' s' w K0) act w := by
  intro q N p a s x a' s' h B X m act w F n K0 hF hs hT hM hB
  refine LoopAt.step ?_
  have h2 : kLoop p C ih q N a s = some (x, a', s') := h
  unfold kLoop at h2
  cases hx : ih.c q N p a s with
  | none => rw [hx] at h2; cases h2
  | some t =>
    obtain ⟨y, a1, s1⟩ := t
    rw [hx] at h2
    refine wpIn_mono (hc _ _ _ _ _ _ _ _ hx B X m act w F n K0 hF hs hT hM hB) ?_
    intro e act1 w1 hp
    cases y with
    | normal =>
      obtain ⟨rfl, X1, m1, hG, hM1, hle1, hs1, hT1, hb1⟩ := hp
      have := hl _ _ _ _ _ _ _ _ h2 B X1 m1 act1 w1 F n K0 hF hs1 hT1 hM1 (hB.next hb1)
      intro b k cs k1 k2 k3
      obtain ⟨e2, act2, w2, hp2, harr⟩ := this b k cs k1 k2 k3
      exact ⟨e2, act2, w2, hp2.back hG hle1 hb1, harr⟩
    | ret => cases h2; have he := hp.1; subst he; exact hp
    | exit id => cases h2; have he := hp.1; subst he; exact hp

/-- **The interpreter is sound.** -/
theorem sound (hC : COK ω C) : ∀ (fuel : Nat), SndC ω C (ev C fuel) ∧ SndO ω C (ev C fuel) ∧ SndD ω C (ev C fuel) ∧ SndF ω C (ev C fuel) ∧ SndL ω C (ev C fuel)
  | 0 => ⟨fun _ _ _ _ _ _ _ _ h => (by cases h), fun _ _ _ _ _ _ _ _ _ h => (by cases h), fun _ _ _ _ _ _ _ _ _ h => (by cases h), fun _ _ _ _ _ h => (by cases h), fun _ _ _ _ _ _ _ _ h => (by cases h)⟩
  | k + 1 => by
    obtain ⟨hc, ho, hd, hf, hl⟩ := sound hC k
    exact ⟨code_sound hC hc hf ho hd hl, ops_sound hC hc hf ho, drawn_sound hC hc hf hd, fun_sound hC hc, loop_sound hc hl⟩

/-- A closed run: a call without arguments. -/
theorem run_args (hC : COK ω C) {fuel : Nat} {g : FuncId} {v : Value} {vs : List Value} {args : Array Value} {s' : AS} (h : (ev C fuel).f g vs ⟨0, .leaf⟩ = some (v, s')) (hl : LRel (ω := ω) (fun _ => none) vs args.toList) (hv : plainV v = true) (hsp : C.sp g = none) (w : World) (hi : ∀ g v, C.glob g = some v → g < w.heap.size ∧ ∃ v', w.cell? ⟨g, 0, none⟩ = some v' ∧ ∀ m : M ω, VRel m v v') (hrd : ∀ k, C.rd k = true → RdV w w.heap.size (ω k)) (hiv : ∀ g cs, C.iv g = some cs → g < w.heap.size ∧ ∃ t fz, w.heap[g]? = some (.cells cs t fz)) : Calls C.P g args w fun e w' => e = .returned v ∧ Below w.heap.size w w' := by
  have hs : SR (ω := ω) w.heap.size ⟨fun _ => none, fun _ => none⟩ (fun _ => none) ⟨0, .leaf⟩ w := ⟨fun b o i h1 => (by cases h1), fun b c o p i j h1 => (by cases h1), fun b _ => rfl, fun b _ => rfl, fun b o h1 => (by cases h1), fun r o h1 => (by cases h1), fun b i h1 => (by cases h1)⟩
  have := ((sound hC fuel).2.2.2.1 g vs _ v s' h w.heap.size _ _ w args hs hl ⟨Nat.le_refl _, hi, hrd, hiv⟩).2 hsp
  refine (callsIn_wide.1 (this.2 0)).mono ?_
  rintro e w' ⟨v', rfl, m', _, _, hr, hb⟩
  exact ⟨by rw [plain_inv hr hv], hb⟩
end
end Go.Proofs.YtenfkghoolegfaaGreatDoor.Ev
