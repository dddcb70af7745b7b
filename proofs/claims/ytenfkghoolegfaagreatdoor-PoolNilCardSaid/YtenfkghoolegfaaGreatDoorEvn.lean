/- An interpreter over an abstract memory, part n: what is asked of code and of calls; an operation that calls. -/
import Derived.Test.YtenfkghoolegfaaGreatDoorEvm
import Derived.RangeFuncRecord
namespace Go.Proofs.YtenfkghoolegfaaGreatDoor.Ev
open Go.RowKit
variable {ω : Nat → Value}

/-- A value and a world that are as the state says. -/
def RelV (B : Nat) (X : Aux) (m : M ω) (s' : AS) (w : World) (v : Value) (v' : Value) (w' : World) : Prop := ∃ m', Le m m' ∧ SR B X m' s' w' ∧ VRel m' v v' ∧ Below B w w'

/-- The fence of an activation: in a round, or not. -/
def FOf (q : Bool) (F : Fence) : Prop := (q = false ∧ F = Fence.wide) ∨ (q = true ∧ ∃ l, F = Fence.wide.inRound l)
section
variable {q : Bool} {F : Fence}
theorem FOf.fn (h : FOf q F) (f : FuncId) : F.fn f := by rcases h with ⟨_, rfl⟩ | ⟨_, l, rfl⟩ <;> trivial
theorem FOf.depth (h : FOf q F) : F.depth = none := by rcases h with ⟨_, rfl⟩ | ⟨_, l, rfl⟩ <;> rfl
theorem FOf.deep (h : FOf q F) (n : Nat) : F.depth.isSome = true → 1 ≤ n := fun e => by rw [h.depth] at e; cases e
theorem FOf.calls (h : FOf q F) {n : Nat} {P : Program} {f : FuncId} {args : Array Value} {w : World} {R : Ending → World → Prop} (hc : CallsIn Fence.wide n P f args w R) : CallsIn F n P f args w R := by
  rcases h with ⟨_, rfl⟩ | ⟨_, l, rfl⟩
  · exact hc
  · exact hc
theorem FOf.inRound (h : FOf q F) (l : Nat) : F.inRound l = Fence.wide.inRound l := by rcases h with ⟨_, rfl⟩ | ⟨_, l', rfl⟩ <;> rfl
theorem FOf.round (l : Nat) : FOf true (Fence.wide.inRound l) := .inr ⟨rfl, l, rfl⟩
end

/-- The marks of an activation: a block of the world each. -/
inductive MK (K0 : Nat → Option Obj) : (Nat → Option Obj) → List Deferred → Prop
  | nil : MK K0 K0 []
  | cons (D : Nat) (K : Nat → Option Obj) (ds : List Deferred) (h : MK K0 K ds) (hD : K D = none) : MK K0 (fun r => if r = D then some (.deferred (some [])) else K r) ({ target := .collected D, args := #[] } :: ds)

def exitOf : Xt → Exit
  | .normal => .normal
  | .exit id => .exit id
  | .ret => .ret

/-- What code must come to. -/
def PostC (B : Nat) (X : Aux) (m : M ω) (N : Nat) (x : Xt) (a' : T Value) (s' : AS) (w : World) (K0 : Nat → Option Obj) (e : Exit) (act' : Act) (w' : World) : Prop :=
  e = exitOf x ∧ ∃ X' m', X'.G = X.G ∧ MK K0 X'.K act'.defers ∧ Le m m' ∧ SR B X' m' s' w' ∧ TR m' N a' act' ∧ Below B w w'

/-- What a call must come to. -/
def CallOK (C : Ctx) (g : FuncId) (args : Array Value) (w : World) (R : Value → World → Prop) : Prop :=
  ∀ (q : Bool) (F : Fence) (n : Nat) (o : Oper) (act : Act) (K : Act → World → Prop) (Q : Exit → Act → World → Prop), FOf q F → (∀ v' w', R v' w' → K (act.put o.dst v') w') → o.uponIn F n C.P act K Q ((callFunc g args).run C.P w)

/-- What is asked of the tables, all. -/
structure COK (ω : Nat → Value) (C : Ctx) : Prop where
  ok : CtxOK ω C
  mixed : C.P.follows .mixedOrders = true
  sp : ∀ g k, C.sp g = some k → ∀ vs s v s', k vs s = some (v, s') → ∀ (B : Nat) (X : Aux) (m : M ω) (w : World) (args : Array Value), SR B X m s w → LRel m vs args.toList → Bs ω C B w → CallOK C g args w (RelV B X m s' w v)

def SndC (ω : Nat → Value) (C : Ctx) (ih : Fns) : Prop := ∀ q N c a s x a' s', ih.c q N c a s = some (x, a', s') → ∀ (B : Nat) (X : Aux) (m : M ω) (act : Act) (w : World) (F : Fence) (n : Nat) (K0 : Nat → Option Obj),
  FOf q F → SR B X m s w → TR m N a act → MK K0 X.K act.defers → Bs ω C B w → c.wpIn F n C.P (PostC B X m N x a' s' w K0) act w
def Ret (B : Nat) (X : Aux) (m : M ω) (s' : AS) (w : World) (v : Value) (e : Ending) (w' : World) : Prop := ∃ v', e = .returned v' ∧ RelV B X m s' w v v' w'
def SndF (ω : Nat → Value) (C : Ctx) (ih : Fns) : Prop := ∀ g vs s v s', ih.f g vs s = some (v, s') → ∀ (B : Nat) (X : Aux) (m : M ω) (w : World) (args : Array Value), SR B X m s w → LRel m vs args.toList → Bs ω C B w →
  CallOK C g args w (RelV B X m s' w v) ∧ (C.sp g = none → (∀ args w, (callFunc g args).run C.P w = .ok (.enter g args) w) ∧ ∀ n, CallsIn Fence.wide n C.P g args w (Ret B X m s' w v))

section
variable {C : Ctx} {B : Nat} {X : Aux} {m : M ω} {s s' : AS} {w : World} {a a' : T Value} {act : Act} {n N : Nat} {ih : Fns}

theorem undef_rel : VRel m undef undef := by
  unfold undef
  first
    | exact .plain _ rfl
    | exact LRel.tuple (l := []) (l' := []) (LRel.nil m)

theorem calls_ok {g : FuncId} {args : Array Value} {v : Value} (he : (callFunc g args).run C.P w = .ok (.enter g args) w) (h : ∀ n, CallsIn Fence.wide n C.P g args w (Ret B X m s' w v)) : CallOK C g args w (RelV B X m s' w v) := by
  intro q F n o act K Q hF hK
  rw [he, Oper.uponIn_enter]
  refine ⟨hF.deep n, (hF.calls (h (n - 1))).mono ?_⟩
  rintro e w' ⟨v', rfl, hr⟩
  exact hK v' w' hr

theorem getD_set (tm : Array Value) (p k : Nat) (v : Value) (hp : p < tm.size) : (tm.setIfInBounds p v).getD k undef = if k = p then v else tm.getD k undef := by
  by_cases h : k = p
  · subst h; simp [hp]
  · rw [if_neg h]
    simp only [Array.getD_eq_getD_getElem?, Array.getElem?_setIfInBounds_ne (fun e => h e.symm)]

/-- The parameters of a round. -/
theorem rdArgs_sound : ∀ {ps : List Tmp} {vs l : List Value} {t : T Value} {tm : Array Value}, rdArgs N ps vs t = some a → LRel m vs l → tm.size = N → (∀ k, VRel m ((t.get k).getD undef) (tm.getD k undef)) →
    ps.length = l.length ∧ ((ps.zip l).foldl (fun tm (x : Tmp × Value) => tm.setIfInBounds x.1 x.2) tm).size = N ∧ ∀ k, VRel m ((a.get k).getD undef) (((ps.zip l).foldl (fun tm (x : Tmp × Value) => tm.setIfInBounds x.1 x.2) tm).getD k undef)
  | [], [], [], t, tm, h, hl, hs, hr => by cases h; exact ⟨rfl, hs, hr⟩
  | [], [], _ :: _, t, tm, h, hl, hs, hr => absurd hl.1 (by simp)
  | [], _ :: _, _, t, tm, h, hl, hs, hr => by cases h
  | _ :: _, [], _, t, tm, h, hl, hs, hr => by cases h
  | _ :: _, _ :: _, [], t, tm, h, hl, hs, hr => absurd hl.1 (by simp)
  | p :: ps, v :: vs, u :: l, t, tm, h, hl, hs, hr => by
    simp only [rdArgs] at h
    cases hp : Nat.blt p N with
    | false => rw [hp] at h; cases h
    | true =>
      rw [hp] at h
      rw [Nat.blt_eq] at hp
      obtain ⟨h1, h2⟩ := hl.tail
      have := rdArgs_sound (tm := tm.setIfInBounds p u) h h2 (by simpa using hs) (fun k => by
        rw [T.get_put, getD_set _ _ _ _ (by omega)]
        by_cases hk : k = p
        · rw [if_pos hk, if_pos hk]; exact h1
        · rw [if_neg hk, if_neg hk]; exact hr k)
      exact ⟨by simp [this.1], this.2⟩

theorem MK_le {K0 K : Nat → Option Obj} {ds : List Deferred} (h : MK K0 K ds) : ∀ (d : Nat) (k : Obj), K0 d = some k → K d = some k := by
  induction h with
  | nil => exact fun d k h => h
  | cons D K ds _ hD ih =>
    intro d k hk
    have := ih d k hk
    show (if d = D then _ else K d) = some k
    rw [if_neg (fun e => by rw [e, hD] at this; cases this)]
    exact this

/-- A loop's record that is another one now. -/
theorem setLoop_sound {b : Nat} {t : T Value} {nt : Nat} {ps : List Tmp} {asg bd : Code} {st st' : LSt} (hs : SR B X m s w) (hb : s.h.get b = some (.loop t nt ps asg bd st)) {i : Info} (hi : m b = some i) {r r' : Loop}
    (hw : w.heap[i.r]? = some (.loop r)) (hr : r'.params = r.params ∧ r'.assign = r.assign ∧ r'.body = r.body ∧ r'.tmps = r.tmps) (hst : st'.is r') :
    SR B X m ⟨s.n, s.h.put b (.loop t nt ps asg bd st')⟩ (w.putObj i.r (.loop r')) ∧ Below B w (w.putObj i.r (.loop r')) := by
  obtain ⟨⟨r0, h0, h1, h2, h3, h4, h5, h6⟩, hB, hlt⟩ := hs.rel b _ i hb rfl hi
  rw [hw] at h0; cases h0
  refine ⟨upd_sound hs hb rfl hi (by simp [World.putObj]) (fun k hk => World.putObj_heap_other hk) ⟨r', World.putObj_heap_same hlt, hr.1.trans h1, hr.2.1.trans h2, hr.2.2.1.trans h3, by rw [hr.2.2.2]; exact h4, hst, fun k => by rw [hr.2.2.2]; exact h6 k⟩,
    ⟨rfl, rfl, rfl, by simp [World.putObj], fun k hk => World.putObj_heap_other (by omega)⟩⟩

theorem round_sound (hc : SndC ω C ih) (hs : SR B X m s w) (hB : Bs ω C B w) {l : Nat} {vs : List Value} {v : Value} (h : rdRun ih l vs s = some (v, s')) {i : Info} (hi : m l = some i) {args : Array Value} (hl : LRel m vs args.toList)
    {q : Bool} {F : Fence} (hF : FOf q F) {o : Oper} {K : Act → World → Prop} {Q : Exit → Act → World → Prop} (hK : ∀ v' w', RelV B X m s' w v v' w' → K (act.put o.dst v') w') :
    o.uponIn F n C.P act K Q ((Instr.yield i.r args).run C.P w) := by
  unfold rdRun at h
  split at h
  · rename_i t nt ps asg bd hg
    obtain ⟨⟨r, h0, h1, h2, h3, h4, h5, h6⟩, hBi, hlt⟩ := hs.rel l _ i hg rfl hi
    split at h
    · rename_i a1 ha1
      split at h
      · rename_i a2 s2 ha2
        obtain ⟨e1, e2, e3⟩ := rdArgs_sound ha1 hl h4 h6
        rw [run_yield (P := C.P) h0 (by rw [h1]; simpa using e1.symm), Oper.uponIn_round]
        refine ⟨hF.deep n, roundIn_of_wpIn (hF.fn _) ?_⟩
        rw [hF.inRound, h2, h3, h1]
        have hfold : (ps.toArray.zip args).foldl (fun tm (x : Tmp × Value) => tm.setIfInBounds x.1 x.2) r.tmps = (ps.zip args.toList).foldl (fun tm (x : Tmp × Value) => tm.setIfInBounds x.1 x.2) r.tmps := by
          rw [← Array.foldl_toList]; simp
        have hT : TR m nt a1 { tmps := (ps.toArray.zip args).foldl (fun tm (x : Tmp × Value) => tm.setIfInBounds x.1 x.2) r.tmps, defers := [] } := ⟨by rw [hfold]; exact e2, fun k => by rw [hfold]; exact e3 k⟩
        refine wpIn_mono (hc _ _ _ _ _ _ _ _ ha2 B X m _ w _ (n - 1) X.K (FOf.round i.r) hs hT .nil hB) ?_
        rintro e act1 w1 ⟨rfl, X1, m1, hG1, hM1, hle1, hs1, hT1, hb1⟩
        show ∃ w₂, _
        unfold rdBody at h
        split at h
        · rename_i t' nt' ps' asg' bd' hg1
          have hi1 := hle1 _ _ hi
          obtain ⟨⟨r1, k0, k1, k2, k3, k4, k5, k6⟩, kB, klt⟩ := hs1.rel l _ i hg1 rfl hi1
          split at h
          · rename_i x a3 s3 ha3
            obtain ⟨g1, g2⟩ := setLoop_sound (st' := .busy) (r' := { r1 with state := .busy }) hs1 hg1 hi1 k0 ⟨rfl, rfl, rfl, rfl⟩ rfl
            refine ⟨_, run_beginRound (P := C.P) k0 k5.1, ?_⟩
            have hBw := hB.next (hb1.trans g2)
            refine wpIn_mono (hc _ _ _ _ _ _ _ _ ha3 B X1 m1 act1 _ _ (n - 1) X.K (FOf.round i.r) g1 hT1 hM1 hBw) ?_
            rintro e act3 w3 ⟨rfl, X3, m3, hG3, hM3, hle3, hs3, hT3, hb3⟩
            unfold rdEnd at h
            split at h
            · rename_i t3 nt3 ps3 asg3 bd3 hg3
              have hi3 := hle3 _ _ hi1
              obtain ⟨⟨r3, j0, j1, j2, j3, j4, j5, j6⟩, jB, jlt⟩ := hs3.rel l _ i hg3 rfl hi3
              have fin : ∀ (jump : Option Code) (st' : LSt), st'.is { r3 with state := if jump.isNone then .ready else .done, pending := jump } → s' = ⟨s3.n, s3.h.put l (.loop t3 nt3 ps3 asg3 bd3 st')⟩ → v = .bool jump.isNone →
                  ∃ v' w', (Instr.endRound i.r jump).run C.P w3 = .ok v' w' ∧ K (act.put o.dst v') w' := by
                intro jump st' hst he hv
                obtain ⟨f1, f2⟩ := setLoop_sound (st' := st') (r' := { r3 with state := if jump.isNone then .ready else .done, pending := jump }) hs3 hg3 hi3 j0 ⟨rfl, rfl, rfl, rfl⟩ hst
                refine ⟨_, _, run_endRound (P := C.P) jump j0, hK _ _ ⟨m3, fun b k hk => hle3 _ _ (hle1 _ _ hk), ?_, by rw [hv]; exact .plain _ rfl, (hb1.trans g2).trans (hb3.trans f2)⟩⟩
                rw [he]
                exact f1.ghosts (fun b k hk => by rw [hG3, hG1]; exact hk) (fun d k hk => MK_le hM3 d k hk)
              cases x with
              | normal => cases h; exact fin none .ready ⟨rfl, rfl⟩ rfl rfl
              | ret => cases h; exact fin (some .ret) (.done .ret) ⟨rfl, rfl⟩ rfl rfl
              | exit id => cases h; exact fin (some (.exit id)) (.done (.exit id)) ⟨rfl, rfl⟩ rfl rfl
            · cases h
          · cases h
        · cases h
      · cases h
    · cases h
  · cases h

/-- An operation, whatever it is. -/
theorem act_sound (hC : COK ω C) (hc : SndC ω C ih) (hf : SndF ω C ih) {q : Bool} {F : Fence} (hF : FOf q F) (hs : SR B X m s w) (ht : TR m N a act) (hB : Bs ω C B w) {o : Oper} {v : Value} (h : actRes ih (aop C o a s) = some (v, s'))
    {act2 : Act} (hev : execOp act2.eval o = execOp act.eval o) {K : Act → World → Prop} {Q : Exit → Act → World → Prop} (hK : ∀ v' w', RelV B X m s' w v v' w' → K (act2.put o.dst v') w') : o.wpIn F n C.P act2 w K Q := by
  have hnd : ∀ c, o.op ≠ .defer c := by
    intro c hd
    unfold aop at h
    rw [hd] at h
    cases h
  refine ⟨fun f _ => hF.fn f, ?_⟩
  rw [Oper.semAt_eq _ _ _ hnd, hev]
  cases ha : aop C o a s with
  | none => rw [ha] at h; cases h
  | some p =>
    obtain ⟨r, s1⟩ := p
    rw [ha] at h
    have ho := aop_sound hC.ok hs ht hB ha
    cases r with
    | val v1 =>
      cases h
      obtain ⟨nx, w', m', hr, hle, hs', hb, hrr⟩ := ho
      rw [hr]
      cases nx <;> first | (exact hrr.elim; done) | exact hK _ _ ⟨m', hle, hs', hrr, hb⟩
    | skip =>
      cases h
      obtain ⟨nx, w', m', hr, hle, hs', hb, hrr⟩ := ho
      rw [hr]
      cases nx <;> first | (exact hrr.elim; done) | exact hK _ _ ⟨m', hle, hs', undef_rel, hb⟩
    | call g vs =>
      obtain ⟨args, hl, hr, hs1⟩ := ho
      rw [hr]
      exact (hf _ _ _ _ _ h B X m w args hs1 hl hB).1 q F n o act2 K Q hF hK
    | round b vs =>
      obtain ⟨i, args, hi, hl, hr, hs1⟩ := ho
      rw [hr]
      exact round_sound hc hs1 hB h hi hl hF hK
end
end Go.Proofs.YtenfkghoolegfaaGreatDoor.Ev
