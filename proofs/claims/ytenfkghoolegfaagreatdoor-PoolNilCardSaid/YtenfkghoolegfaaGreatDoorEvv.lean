/- An interpreter over an abstract memory, part v: tables out of a program's own. -/
import Derived.Test.YtenfkghoolegfaaGreatDoorEvu
namespace Go.Proofs.YtenfkghoolegfaaGreatDoor.Ev
open Go.RowKit
variable {ω : Nat → Value}

/-- All that stands in a table is of a kind. -/
noncomputable def T.allB {α : Type} (p : α → Bool) : T α → Bool
  | .leaf => true
  | .node v l r => (match v with | some x => p x | none => true) && (T.allB p l && T.allB p r)
theorem T.allB_getP {α : Type} {p : α → Bool} : ∀ {t : T α}, T.allB p t = true → ∀ (q : T.Pth) (v : α), T.getP t q = some v → p v = true
  | .leaf, _, q, v, h => by cases h
  | .node x l r, h, q, v, hv => by
    simp only [T.allB, Bool.and_eq_true] at h
    cases q with
    | e =>
      have hx : x = some v := hv
      subst hx
      exact h.1
    | l q => exact T.allB_getP h.2.1 q v hv
    | r q => exact T.allB_getP h.2.2 q v hv
theorem T.allB_get {α : Type} {p : α → Bool} {t : T α} (h : T.allB p t = true) {n : Nat} {v : α} (hv : t.get n = some v) : p v = true := T.allB_getP h _ v hv

def nameB (f : Func) : Bool := !(f.name == "runtime.NumGoroutine")
def zeroB (p : TypeInfo × TypeInfo) : Bool := match p.1.zero with
  | some z => tupB z || ((cellsOf z).all plainV && Nat.beq p.1.size (cellsOf z).length)
  | none => true
def placesB (P : Program) (p : TypeInfo × TypeInfo) : Bool := match p.2.desc with
  | .struct fs => (fs.toList.mapM (fun f => (P.info? f.type).map fun i => (f.offset, i.size))).isSome
  | _ => true

theorem map_get {α β : Type} {f : α → β} {l : List α} {k : List β} (h : l.map f = k) {i : Nat} {x : α} (hx : l[i]? = some x) : k[i]? = some (f x) := by rw [← h, List.getElem?_map, hx]; rfl

theorem ctxOK_of {P : Program} {fnT : T Func} {tyT : T (TypeInfo × TypeInfo)} {tyL : List (TypeInfo × TypeInfo)} {sp : FuncId → Option (List Value → AS → Option (Value × AS))} {glob : Nat → Option Value} {meth : TypeId → String → Value → Option (FuncId × Value)} {bin : BinOp → TypeId → Value → Value → Option Value} {len : TypeId → Value → Option Value} {cnv : TypeId → TypeId → Value → Option Value} {rd : Nat → Bool} {iv : Nat → Option (Array Value)}
    (hf : fnT = T.ofList P.funcs.toList 0 .leaf) (hn : T.allB nameB fnT = true) (ht : tyT = T.ofList tyL 0 .leaf) (h1 : tyL.map (fun p => some p.1) = (List.range tyL.length).map P.info?) (h2 : tyL.map (fun p => some p.2.desc) = (List.range tyL.length).map P.underlying)
    (hz : T.allB zeroB tyT = true) (hp : T.allB (placesB P) tyT = true)
    (hbin : ∀ op t ox oy x y v, bin op t x y = some v → ∀ (m : M ω) (x' y' : Value) (w : World), VRel m x x' → VRel m y y' → ∃ v', (do eqGuard op t ox oy x' y'; binOp op t x' y' : Sem Value).run P w = .ok v' w ∧ VRel m v v')
    (hlen : ∀ t k v, len t (.chan k) = some v → ∀ (m : M ω) (x' : Value) (ty : TypeId) (w : World), VRel m (.chan k) x' → ∃ v', (Builtin.len_ #[t] ty #[x']).run P w = .ok v' w ∧ VRel m v v')
    (hmeth : ∀ t name v g rv, meth t name v = some (g, rv) → ∀ (m : M ω) (v' : Value), VRel m v v' → ∃ rv', VRel m rv rv' ∧ ∀ w, (method (P.types.size + Made.depth) t v' name).run P w = .ok (g, rv') w)
    (hcnv : ∀ src dst x v, cnv src dst x = some v → ∀ (m : M ω) (x' : Value) (w : World), VRel m x x' → ∃ v', (convert src dst x').run P w = .ok v' w ∧ VRel m v v') :
    CtxOK ω ⟨P, fun f => fnT.get f, fun t => (tyT.get t).map (·.1), fun t => (tyT.get t).map (·.2.desc), sp, glob, meth, bin, len, cnv, rd, iv⟩ := by
  have get : ∀ (t : Nat) (p : TypeInfo × TypeInfo), tyT.get t = some p → tyL[t]? = some p := by
    intro t p h
    rw [ht, T.get_ofList] at h
    split at h
    · simpa using h
    · cases h
  have lt : ∀ (t : Nat) (p : TypeInfo × TypeInfo), tyL[t]? = some p → t < tyL.length := fun t p h => (List.getElem?_eq_some_iff.1 h).1
  have hfn : ∀ g f, fnT.get g = some f → P.funcs[g]? = some f := by
    intro g f h
    rw [hf, T.get_ofList] at h
    split at h
    · simpa using h
    · cases h
  refine ⟨hfn, fun g f h hb args w => ?_, fun t i (h : (tyT.get t).map (·.1) = some i) => ?_, fun t d (h : (tyT.get t).map (·.2.desc) = some d) => ?_, fun t i z (h : (tyT.get t).map (·.1) = some i) hzz hzt => ?_, hbin, hlen, hcnv, hmeth, fun t fs (h : (tyT.get t).map (·.2.desc) = some (.struct fs)) => ?_⟩
  · have := T.allB_get hn h
    have hname : f.name ≠ "runtime.NumGoroutine" := by simpa [nameB] using this
    have hb' : f.body ≠ none := by intro e; rw [e] at hb; cases hb
    simp [callFunc, hfn g f h, hname, hb']
  · cases hg : tyT.get t with
    | none => rw [hg] at h; cases h
    | some p =>
      rw [hg] at h; cases h
      have := map_get h1 (get t p hg)
      rw [List.getElem?_map, List.getElem?_range (lt t p (get t p hg))] at this
      exact Option.some.inj this
  · cases hg : tyT.get t with
    | none => rw [hg] at h; cases h
    | some p =>
      rw [hg] at h; cases h
      have := map_get h2 (get t p hg)
      rw [List.getElem?_map, List.getElem?_range (lt t p (get t p hg))] at this
      exact Option.some.inj this
  · cases hg : tyT.get t with
    | none => rw [hg] at h; cases h
    | some p =>
      rw [hg] at h; cases h
      have := T.allB_get hz hg
      unfold zeroB at this
      have hzz' : p.1.zero = some z := hzz
      rw [hzz'] at this
      simp only [hzt, Bool.false_or, Bool.and_eq_true] at this
      exact ⟨this.1, Nat.eq_of_beq_eq_true this.2⟩
  · cases hg : tyT.get t with
    | none => rw [hg] at h; cases h
    | some p =>
      rw [hg] at h
      have h' : p.2.desc = .struct fs := by simpa using h
      have := T.allB_get hp hg
      unfold placesB at this
      rw [h'] at this
      exact Option.isSome_iff_exists.1 this

/-! What is known of the values that came in. -/

/-- What a value stands for: the k-th that came in, or itself. -/
def den (ω : Nat → Value) : Value → Value
  | .chan (some k) => ω k
  | v => v
/-- A value that came in, or one without addresses. -/
def tokB : Value → Bool
  | .chan (some _) => true
  | v => plainV v
theorem den_of {m : M ω} {x x' : Value} (h : VRel m x x') (ht : tokB x = true) : x' = den ω x := by
  cases h with
  | tok k h => rfl
  | any v h => cases ht
  | plain _ h => cases x <;> first | rfl | (simp [plainV] at h)
  | _ => first | (cases ht; done) | (simp [tokB, plainV] at ht)
theorem den_rel {m : M ω} {x : Value} (ht : tokB x = true) (ho : ∀ k, x = .chan (some k) → oneV (ω k) = true) : VRel m x (den ω x) := by
  cases x with
  | chan k =>
    cases k with
    | none => cases ht
    | some k => exact .tok k (ho k rfl)
  | _ => exact .plain _ ht

/-- One fact on an operator. -/
structure Fact where
  op : BinOp
  x : Value
  y : Value
  v : Value
def Fact.is (f : Fact) (op : BinOp) (x y : Value) : Bool := decide (f.op = op) && (veq 2 f.x x && veq 2 f.y y)
def binOf : List Fact → BinOp → Value → Value → Option Value
  | [], _, _, _ => none
  | f :: fs, op, x, y => cond (f.is op x y) (some f.v) (binOf fs op x y)
/-- What is asked of it. -/
structure Fact.ok (ω : Nat → Value) (P : Program) (f : Fact) : Prop where
  tx : tokB f.x = true
  ty : tokB f.y = true
  tv : tokB f.v = true
  one : ∀ k, f.v = .chan (some k) → oneV (ω k) = true
  run : ∀ t ox oy w, (do eqGuard f.op t ox oy (den ω f.x) (den ω f.y); binOp f.op t (den ω f.x) (den ω f.y) : Sem Value).run P w = .ok (den ω f.v) w
theorem binOf_ok {P : Program} : ∀ {fs : List Fact}, (∀ f ∈ fs, f.ok ω P) → ∀ (op : BinOp) (t : TypeId) (ox oy : Operand) (x y v : Value), binOf fs op x y = some v → ∀ (m : M ω) (x' y' : Value) (w : World), VRel m x x' → VRel m y y' →
    ∃ v', (do eqGuard op t ox oy x' y'; binOp op t x' y' : Sem Value).run P w = .ok v' w ∧ VRel m v v'
  | [], _, op, t, ox, oy, x, y, v, h, _, _, _, _, _, _ => by cases h
  | f :: fs, hf, op, t, ox, oy, x, y, v, h, m, x', y', w, hx, hy => by
    simp only [binOf] at h
    cases hi : f.is op x y with
    | false => rw [hi] at h; exact binOf_ok (fun g hg => hf g (by simp [hg])) op t ox oy x y v h m x' y' w hx hy
    | true =>
      rw [hi] at h
      cases h
      unfold Fact.is at hi
      simp only [Bool.and_eq_true] at hi
      obtain ⟨h1, h2, h3⟩ := hi
      have e1 : f.op = op := of_decide_eq_true h1
      have e2 := veq_sound _ _ _ h2
      have e3 := veq_sound _ _ _ h3
      have hok := hf f (by simp)
      subst e1
      rw [← e2] at hx
      rw [← e3] at hy
      rw [den_of hx hok.tx, den_of hy hok.ty]
      exact ⟨_, hok.run t ox oy w, den_rel hok.tv hok.one⟩

/-- Facts on integers. -/
theorem Fact.int {P : Program} {op : BinOp} {x y v : Value} {k : IntKind} {p q : Int} (hx : den ω x = .int k p) (hy : den ω y = .int k q) (tx : tokB x = true) (ty : tokB y = true) (tv : tokB v = true) (hv : oneV (den ω v) = true) (hb : ∀ t, binOp op t (.int k p) (.int k q) = pure (den ω v)) :
    (⟨op, x, y, v⟩ : Fact).ok ω P := ⟨tx, ty, tv, fun j (e : v = _) => by subst e; exact hv, fun t ox oy w => by
  show (do eqGuard op t ox oy (den ω x) (den ω y); binOp op t (den ω x) (den ω y) : Sem Value).run P w = .ok (den ω v) w
  rw [hx, hy]
  simp only [Sem.run_bind, eqGuard_int, Result.andThen_ok, hb]; rfl⟩

/-- Comparisons, sums. -/
theorem b_lss (k : IntKind) (t : TypeId) (a b : Int) : binOp .lss t (.int k a) (.int k b) = pure (.bool (decide (a < b))) := by simp [binOp, Op.intCmp]
theorem b_leq (k : IntKind) (t : TypeId) (a b : Int) : binOp .leq t (.int k a) (.int k b) = pure (.bool (decide (a ≤ b))) := by simp [binOp, Op.intCmp]
theorem b_gtr (k : IntKind) (t : TypeId) (a b : Int) : binOp .gtr t (.int k a) (.int k b) = pure (.bool (decide (b < a))) := by simp [binOp, Op.intCmp]
theorem b_geq (k : IntKind) (t : TypeId) (a b : Int) : binOp .geq t (.int k a) (.int k b) = pure (.bool (decide (b ≤ a))) := by simp [binOp, Op.intCmp]
theorem b_eql (k : IntKind) (t : TypeId) (a b : Int) : binOp .eql t (.int k a) (.int k b) = pure (.bool (decide (a = b))) := by simp [binOp, Op.intCmp]; rfl
theorem b_neq (k : IntKind) (t : TypeId) (a b : Int) : binOp .neq t (.int k a) (.int k b) = pure (.bool (decide (a ≠ b))) := by
  have : (a != b) = decide (a ≠ b) := by by_cases h : a = b <;> simp [h]
  simp [binOp, Op.intCmp, this]
theorem b_add (k : IntKind) (t : TypeId) (a b : Int) : binOp .add t (.int k a) (.int k b) = pure (.int k (k.wrap (a + b))) := by simp [binOp, Op.intArith]
theorem b_sub (k : IntKind) (t : TypeId) (a b : Int) : binOp .sub t (.int k a) (.int k b) = pure (.int k (k.wrap (a - b))) := by simp [binOp, Op.intArith]
theorem wrap_i64 {n : Int} (h1 : -9223372036854775808 ≤ n) (h2 : n ≤ 9223372036854775807) : IntKind.i64.wrap n = n := by simp [IntKind.wrap, IntKind.bits, IntKind.signed]; omega

theorem Fact.lss {P : Program} {x y : Value} {k : IntKind} {p q : Int} (hx : den ω x = .int k p) (hy : den ω y = .int k q) (tx : tokB x = true) (ty : tokB y = true) {b : Bool} (h : decide (p < q) = b) : (⟨.lss, x, y, .bool b⟩ : Fact).ok ω P := Fact.int hx hy tx ty rfl rfl fun t => by rw [b_lss, h]; rfl
theorem Fact.leq {P : Program} {x y : Value} {k : IntKind} {p q : Int} (hx : den ω x = .int k p) (hy : den ω y = .int k q) (tx : tokB x = true) (ty : tokB y = true) {b : Bool} (h : decide (p ≤ q) = b) : (⟨.leq, x, y, .bool b⟩ : Fact).ok ω P := Fact.int hx hy tx ty rfl rfl fun t => by rw [b_leq, h]; rfl
theorem Fact.gtr {P : Program} {x y : Value} {k : IntKind} {p q : Int} (hx : den ω x = .int k p) (hy : den ω y = .int k q) (tx : tokB x = true) (ty : tokB y = true) {b : Bool} (h : decide (q < p) = b) : (⟨.gtr, x, y, .bool b⟩ : Fact).ok ω P := Fact.int hx hy tx ty rfl rfl fun t => by rw [b_gtr, h]; rfl
theorem Fact.geq {P : Program} {x y : Value} {k : IntKind} {p q : Int} (hx : den ω x = .int k p) (hy : den ω y = .int k q) (tx : tokB x = true) (ty : tokB y = true) {b : Bool} (h : decide (q ≤ p) = b) : (⟨.geq, x, y, .bool b⟩ : Fact).ok ω P := Fact.int hx hy tx ty rfl rfl fun t => by rw [b_geq, h]; rfl
theorem Fact.eql {P : Program} {x y : Value} {k : IntKind} {p q : Int} (hx : den ω x = .int k p) (hy : den ω y = .int k q) (tx : tokB x = true) (ty : tokB y = true) {b : Bool} (h : decide (p = q) = b) : (⟨.eql, x, y, .bool b⟩ : Fact).ok ω P := Fact.int hx hy tx ty rfl rfl fun t => by rw [b_eql, h]; rfl
theorem Fact.neq {P : Program} {x y : Value} {k : IntKind} {p q : Int} (hx : den ω x = .int k p) (hy : den ω y = .int k q) (tx : tokB x = true) (ty : tokB y = true) {b : Bool} (h : decide (p ≠ q) = b) : (⟨.neq, x, y, .bool b⟩ : Fact).ok ω P := Fact.int hx hy tx ty rfl rfl fun t => by rw [b_neq, h]; rfl
theorem Fact.add {P : Program} {x y : Value} {k : IntKind} {p q : Int} (hx : den ω x = .int k p) (hy : den ω y = .int k q) (tx : tokB x = true) (ty : tokB y = true) {v : Value} (tv : tokB v = true) (hv : den ω v = .int k (k.wrap (p + q))) : (⟨.add, x, y, v⟩ : Fact).ok ω P := Fact.int hx hy tx ty tv (by rw [hv]; rfl) fun t => by rw [b_add, hv]
theorem Fact.sub {P : Program} {x y : Value} {k : IntKind} {p q : Int} (hx : den ω x = .int k p) (hy : den ω y = .int k q) (tx : tokB x = true) (ty : tokB y = true) {v : Value} (tv : tokB v = true) (hv : den ω v = .int k (k.wrap (p - q))) : (⟨.sub, x, y, v⟩ : Fact).ok ω P := Fact.int hx hy tx ty tv (by rw [hv]; rfl) fun t => by rw [b_sub, hv]

/-- Lengths of what came in. -/
def lenOf : List (TypeId × Nat × Nat) → TypeId → Value → Option Value
  | [], _, _ => none
  | (t, k, j) :: r, u, .chan (some i) => cond (Nat.beq t u && Nat.beq k i) (some (.chan (some j))) (lenOf r u (.chan (some i)))
  | _ :: _, _, _ => none
structure LenOK (ω : Nat → Value) (P : Program) (f : TypeId × Nat × Nat) : Prop where
  one : oneV (ω f.2.2) = true
  run : ∀ ty w, (Builtin.len_ #[f.1] ty #[ω f.2.1]).run P w = .ok (ω f.2.2) w
theorem lenOf_ok {P : Program} : ∀ {fs : List (TypeId × Nat × Nat)}, (∀ f ∈ fs, LenOK ω P f) → ∀ (t : TypeId) (k : Option Nat) (v : Value), lenOf fs t (.chan k) = some v → ∀ (m : M ω) (x' : Value) (ty : TypeId) (w : World), VRel m (.chan k) x' →
    ∃ v', (Builtin.len_ #[t] ty #[x']).run P w = .ok v' w ∧ VRel m v v'
  | [], _, t, k, v, h, _, _, _, _, _ => by cases h
  | (u, i, j) :: fs, hf, t, k, v, h, m, x', ty, w, hx => by
    cases k with
    | none => cases h
    | some k =>
      simp only [lenOf] at h
      cases hi : (Nat.beq u t && Nat.beq i k) with
      | false => rw [hi] at h; exact lenOf_ok (fun g hg => hf g (by simp [hg])) t _ v h m x' ty w hx
      | true =>
        rw [hi] at h
        cases h
        rw [Bool.and_eq_true] at hi
        have e1 := Nat.eq_of_beq_eq_true hi.1
        have e2 := Nat.eq_of_beq_eq_true hi.2
        subst e1; subst e2
        have hok := hf (u, i, j) (by simp)
        obtain rfl := tok_inv hx
        exact ⟨_, hok.run ty w, .tok j hok.one⟩
theorem len_slice {P : Program} {t e : TypeId} (hu : P.underlying t = some (.slice e)) {k j n c : Nat} {p : Option Addr} (hk : ω k = .slice p n c) (hj : ω j = .int .i64 n) : LenOK ω P (t, k, j) :=
  ⟨by rw [hj]; rfl, fun ty w => by simp [hk, hj, Builtin.len_, run_underlying hu, goInt]⟩
theorem len_string {P : Program} {t : TypeId} (hu : P.underlying t = some .string) {k j : Nat} {b : ByteArray} (hk : ω k = .string b) (hj : ω j = .int .i64 b.size) : LenOK ω P (t, k, j) :=
  ⟨by rw [hj]; rfl, fun ty w => by simp [hk, hj, Builtin.len_, run_underlying hu, goInt]⟩

theorem cok_of {C : Ctx} (h : CtxOK ω C) (hm : C.P.follows .mixedOrders = true) (hs : ∀ g, C.sp g = none) : COK ω C := ⟨h, hm, fun g k hk => by rw [hs] at hk; cases hk⟩
end Go.Proofs.YtenfkghoolegfaaGreatDoor.Ev
