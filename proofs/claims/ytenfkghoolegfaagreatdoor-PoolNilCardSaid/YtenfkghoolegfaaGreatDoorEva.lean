/- An interpreter over an abstract memory, part a: tables, values under a map of blocks, the state and its relation to a world. -/
import Derived.Below
import Derived.Calls
import Derived.Orders
namespace Go.Proofs.YtenfkghoolegfaaGreatDoor.Ev
open Go.RowKit
variable {ω : Nat → Value}

/-- A table over the natural numbers. -/
inductive T (α : Type) where
  | leaf
  | node (v : Option α) (l r : T α)

namespace T
variable {α : Type}
/-- A way down a table. -/
inductive Pth where
  | e
  | l (p : Pth)
  | r (p : Pth)

/-- The way to a place (the first number: fuel). -/
noncomputable def pth (f : Nat) : Nat → Pth :=
  Nat.rec (motive := fun _ => Nat → Pth) (fun _ => .e) (fun _ ih n => Nat.rec (motive := fun _ => Pth) .e (fun m _ => Bool.rec (motive := fun _ => Pth) (.r (ih (Nat.div m 2))) (.l (ih (Nat.div m 2))) (Nat.beq (Nat.mod m 2) 0)) n) f
noncomputable def way (n : Nat) : Pth := pth (Nat.succ n) n

noncomputable def getP (t : T α) : Pth → Option α :=
  T.rec (motive := fun _ => Pth → Option α) (fun _ => none) (fun v _ _ gl gr p => Pth.rec (motive := fun _ => Option α) v (fun q _ => gl q) (fun q _ => gr q) p) t
noncomputable def setP (v : α) (p : Pth) : T α → T α :=
  Pth.rec (motive := fun _ => T α → T α)
    (fun t => T.rec (motive := fun _ => T α) (.node (some v) .leaf .leaf) (fun _ l r _ _ => .node (some v) l r) t)
    (fun _ ih t => T.rec (motive := fun _ => T α) (.node none (ih .leaf) .leaf) (fun x l r _ _ => .node x (ih l) r) t)
    (fun _ ih t => T.rec (motive := fun _ => T α) (.node none .leaf (ih .leaf)) (fun x l r _ _ => .node x l (ih r)) t) p

noncomputable def get (t : T α) (n : Nat) : Option α := getP t (way n)
noncomputable def put (t : T α) (n : Nat) (v : α) : T α := setP v (way n) t

theorem getP_leaf (p : Pth) : getP (T.leaf : T α) p = none := rfl
theorem getP_e (v : Option α) (l r : T α) : getP (.node v l r) .e = v := rfl
theorem getP_l (v : Option α) (l r : T α) (p : Pth) : getP (.node v l r) (.l p) = getP l p := rfl
theorem getP_r (v : Option α) (l r : T α) (p : Pth) : getP (.node v l r) (.r p) = getP r p := rfl

theorem getP_set_same (v : α) : ∀ (p : Pth) (t : T α), getP (setP v p t) p = some v
  | .e, .leaf => rfl
  | .e, .node _ _ _ => rfl
  | .l p, .leaf => getP_set_same v p .leaf
  | .l p, .node _ l _ => getP_set_same v p l
  | .r p, .leaf => getP_set_same v p .leaf
  | .r p, .node _ _ r => getP_set_same v p r

theorem getP_set_other (v : α) : ∀ (p q : Pth) (t : T α), q ≠ p → getP (setP v p t) q = getP t q
  | .e, .e, _, h => absurd rfl h
  | .e, .l _, .leaf, _ => rfl
  | .e, .r _, .leaf, _ => rfl
  | .e, .l _, .node _ _ _, _ => rfl
  | .e, .r _, .node _ _ _, _ => rfl
  | .l _, .e, .leaf, _ => rfl
  | .l _, .e, .node _ _ _, _ => rfl
  | .l _, .r _, .leaf, _ => rfl
  | .l _, .r _, .node _ _ _, _ => rfl
  | .r _, .e, .leaf, _ => rfl
  | .r _, .e, .node _ _ _, _ => rfl
  | .r _, .l _, .leaf, _ => rfl
  | .r _, .l _, .node _ _ _, _ => rfl
  | .l p, .l q, .leaf, h => getP_set_other v p q .leaf (fun e => h (by rw [e]))
  | .l p, .l q, .node _ l _, h => getP_set_other v p q l (fun e => h (by rw [e]))
  | .r p, .r q, .leaf, h => getP_set_other v p q .leaf (fun e => h (by rw [e]))
  | .r p, .r q, .node _ _ r, h => getP_set_other v p q r (fun e => h (by rw [e]))

/-- A way's number. -/
def num : Pth → Nat
  | .e => 0
  | .l p => 2 * num p + 1
  | .r p => 2 * num p + 2

theorem num_pth : ∀ (f n : Nat), n < f → num (pth f n) = n
  | 0, _, h => absurd h (by omega)
  | _ + 1, 0, _ => rfl
  | f + 1, m + 1, h => by
    show num (Bool.rec (motive := fun _ => Pth) (.r (pth f (Nat.div m 2))) (.l (pth f (Nat.div m 2))) (Nat.beq (Nat.mod m 2) 0)) = m + 1
    have ih := num_pth f (Nat.div m 2) (Nat.lt_of_le_of_lt (Nat.div_le_self m 2) (by omega))
    have hd : Nat.div m 2 = m / 2 := rfl
    cases hb : Nat.beq (Nat.mod m 2) 0
    · have := Nat.ne_of_beq_eq_false hb
      have hm : Nat.mod m 2 = m % 2 := rfl
      show 2 * num (pth f (Nat.div m 2)) + 2 = m + 1
      rw [ih]; omega
    · have := Nat.eq_of_beq_eq_true hb
      have hm : Nat.mod m 2 = m % 2 := rfl
      show 2 * num (pth f (Nat.div m 2)) + 1 = m + 1
      rw [ih]; omega
theorem way_ne {i j : Nat} (h : j ≠ i) : way j ≠ way i := fun e => h (by
  have h1 := num_pth (j + 1) j (by omega)
  have h2 := num_pth (i + 1) i (by omega)
  have e' : pth (j + 1) j = pth (i + 1) i := e
  rw [e'] at h1; omega)

theorem get_put (t : T α) (i j : Nat) (v : α) : (t.put i v).get j = if j = i then some v else t.get j := by
  unfold put get
  by_cases h : j = i
  · subst h; rw [if_pos rfl]; exact getP_set_same v _ _
  · rw [if_neg h]; exact getP_set_other v _ _ _ (way_ne h)

/-- A list as a table, from a place on. -/
noncomputable def ofList : List α → Nat → T α → T α
  | [], _, t => t
  | v :: vs, i, t => ofList vs (i + 1) (t.put i v)

theorem get_ofList : ∀ (l : List α) (i : Nat) (t : T α) (j : Nat), (ofList l i t).get j = if i ≤ j ∧ j < i + l.length then l[j - i]? else t.get j
  | [], i, t, j => by simp [ofList]; omega
  | v :: vs, i, t, j => by
    rw [ofList, get_ofList vs (i + 1) _ j, get_put]
    simp only [List.length_cons]
    by_cases h1 : j = i
    · subst h1; rw [if_neg (by omega), if_pos rfl, if_pos (by omega), Nat.sub_self]; rfl
    · by_cases h2 : i + 1 ≤ j ∧ j < i + 1 + vs.length
      · rw [if_pos h2, if_pos (by omega), show j - i = (j - (i + 1)) + 1 by omega]; rfl
      · rw [if_neg h2, if_neg h1, if_neg (by omega)]

/-- So many cells from a place on. -/
noncomputable def range (t : T α) (i : Nat) : Nat → Option (List α)
  | 0 => some []
  | n + 1 => match t.get i with
    | none => none
    | some v => match range t (i + 1) n with
      | none => none
      | some l => some (v :: l)

theorem range_spec (t : T α) : ∀ (n i : Nat) (l : List α), t.range i n = some l → l.length = n ∧ ∀ k, k < n → t.get (i + k) = l[k]? 
  | 0, i, l, h => by cases h; exact ⟨rfl, fun k hk => absurd hk (by omega)⟩
  | n + 1, i, l, h => by
    simp only [range] at h
    cases h1 : t.get i with
    | none => simp [h1] at h
    | some v =>
      cases h2 : t.range (i + 1) n with
      | none => simp [h1, h2] at h
      | some l' =>
        simp [h1, h2] at h
        subst h
        obtain ⟨hl, hg⟩ := range_spec t n (i + 1) l' h2
        refine ⟨by simp [hl], fun k hk => ?_⟩
        cases k with
        | zero => simpa using h1
        | succ k =>
          have := hg k (by omega)
          rw [List.getElem?_cons_succ, ← this]
          congr 1; omega
end T

/-- What is known of an abstract block for good: the world's block, where in it it begins, its length, its elements' size, whether there may be room behind it, the world's block's length. -/
structure Info where
  r : Nat
  d : Nat
  len : Nat
  esz : Nat
  opn : Bool
  tot : Nat

/-- A map of blocks; ω: what the values that came in are. -/
def M (_ : Nat → Value) := Nat → Option Info

/-- Values without addresses. -/
def plainV : Value → Bool
  | .bool _ | .int _ _ | .float _ _ | .complex _ _ _ | .string _ | .nilFunc | .nilIface | .pointer none | .slice none 0 0 | .map none => true
  | _ => false

/-- Addresses: the same place of the world's block. -/
def ARel (m : M ω) (a a' : Addr) : Prop := a.spot = none ∧ ∃ i, m a.block = some i ∧ a' = ⟨i.r, i.d + a.off, none⟩

/-- Capacities: the same; or that of a slice that reaches the end of an open block. -/
def CRel (m : M ω) (a : Addr) (c c' : Nat) : Prop := c = c' ∨ (c ≤ c' ∧ ∃ i, m a.block = some i ∧ i.opn = true ∧ a.off + c * i.esz = i.len ∧ i.d + a.off + c' * i.esz ≤ i.tot)

/-- Values of one cell. -/
def oneV : Value → Bool
  | .agg _ | .tuple _ => false
  | _ => true

/-- Values alike. A channel stands for a value that came in (some k: the k-th), or for one of which nothing is known. -/
inductive VRel (m : M ω) : Value → Value → Prop
  | tok (k : Nat) (h : oneV (ω k) = true) : VRel m (.chan (some k)) (ω k)
  | any (v : Value) (h : oneV v = true) : VRel m (.chan none) v
  | plain (v : Value) (h : plainV v = true) : VRel m v v
  | ptr (a a' : Addr) (h : ARel m a a') : VRel m (.pointer (some a)) (.pointer (some a'))
  | slice (a a' : Addr) (n c c' : Nat) (h : ARel m a a') (hc : CRel m a c c') (hn : n ≤ c) : VRel m (.slice (some a) n c) (.slice (some a') n c')
  | slice0 (a a' : Addr) (h : ∃ i, m a.block = some i) : VRel m (.slice (some a) 0 0) (.slice (some a') 0 0)
  | map (b : Nat) (i : Info) (h : m b = some i) : VRel m (.map (some b)) (.map (some i.r))
  | iface (t : TypeId) (v v' : Value) (h : VRel m v v') : VRel m (.iface t v) (.iface t v')
  | agg (cs cs' : Array Value) (hs : cs.size = cs'.size) (h : ∀ i, i < cs.size → VRel m (cs.getD i undef) (cs'.getD i undef)) : VRel m (.agg cs) (.agg cs')
  | tuple (cs cs' : Array Value) (hs : cs.size = cs'.size) (h : ∀ i, i < cs.size → VRel m (cs.getD i undef) (cs'.getD i undef)) : VRel m (.tuple cs) (.tuple cs')
  | func (f : FuncId) (fs fs' cs cs' : Array Value) (h1 : fs.size = fs'.size) (h2 : cs.size = cs'.size) (h : ∀ i, i < fs.size → VRel m (fs.getD i undef) (fs'.getD i undef)) (k : ∀ i, i < cs.size → VRel m (cs.getD i undef) (cs'.getD i undef)) : VRel m (.func (.func f) fs cs) (.func (.func f) fs' cs')
  | yield (b : Nat) (i : Info) (h : m b = some i) : VRel m (.func (.yield b) #[] #[]) (.func (.yield i.r) #[] #[])

def Le (m m' : M ω) : Prop := ∀ b i, m b = some i → m' b = some i
theorem Le.refl (m : M ω) : Le m m := fun _ _ h => h
theorem Le.trans {a b c : M ω} (h : Le a b) (k : Le b c) : Le a c := fun i x hx => k i x (h i x hx)

theorem ARel.mono {m m' : M ω} {a a' : Addr} (h : ARel m a a') (hl : Le m m') : ARel m' a a' := ⟨h.1, h.2.elim fun i hi => ⟨i, hl _ _ hi.1, hi.2⟩⟩
theorem CRel.mono {m m' : M ω} {a : Addr} {c c' : Nat} (h : CRel m a c c') (hl : Le m m') : CRel m' a c c' :=
  h.imp id fun ⟨h1, i, h2, h3⟩ => ⟨h1, i, hl _ _ h2, h3⟩
theorem VRel.mono {m m' : M ω} (hl : Le m m') {v v' : Value} (h : VRel m v v') : VRel m' v v' := by
  induction h with
  | tok k h => exact .tok k h
  | any v h => exact .any v h
  | plain v h => exact .plain v h
  | ptr a a' h => exact .ptr a a' (h.mono hl)
  | slice a a' n c c' h hc hn => exact .slice a a' n c c' (h.mono hl) (hc.mono hl) hn
  | slice0 a a' h => exact .slice0 a a' (h.imp fun i hi => hl _ _ hi)
  | map b i h => exact .map b i (hl _ _ h)
  | iface t v v' _ ih => exact .iface t v v' ih
  | agg cs cs' hs _ ih => exact .agg cs cs' hs ih
  | tuple cs cs' hs _ ih => exact .tuple cs cs' hs ih
  | func f fs fs' cs cs' h1 h2 _ _ ih1 ih2 => exact .func f fs fs' cs cs' h1 h2 ih1 ih2
  | yield b i h => exact .yield b i (hl _ _ h)

/-- A block of cells. -/
structure Blk where
  c : T Value
  len : Nat
  elem : TypeId
  esz : Nat
  opn : Bool
  str : Bool

/-- Rows of this type are never marked as a string's bytes. -/
def noMark : Nat := 113

/-- Where a loop over a function stands. -/
inductive LSt where
  | ready
  | busy
  | done (c : Code)
  | over

inductive AObj where
  | cells (b : Blk)
  | map (es : List MapEntry) (clock : Nat)
  | loop (t : T Value) (n : Nat) (ps : List Tmp) (assign body : Code) (st : LSt)
  | mit (b : Option Nat) (since : Nat) (seen : List Nat) (last : Nat)
  | sit (s : ByteArray) (pos : Nat)
  | dead

structure AS where
  n : Nat
  h : T AObj

def AObj.alive : AObj → Bool
  | .dead => false
  | _ => true

def ERel (m : M ω) (e e' : MapEntry) : Prop := e.key = e'.key ∧ plainV e.key = true ∧ VRel m e.val e'.val ∧ e.born = e'.born

def LSt.is (l : LSt) (r : Loop) : Prop := match l with
  | .ready => r.state = .ready ∧ r.pending = none
  | .busy => r.state = .busy
  | .done c => r.state = .done ∧ r.pending = some c
  | .over => True

/-- One abstract object and the world's. -/
def ORel (m : M ω) (w : World) (i : Info) : AObj → Prop
  | .cells b => i.len = b.len ∧ i.opn = b.opn ∧ i.esz = b.esz ∧ i.d + b.len ≤ i.tot ∧ ∃ c' fz, w.heap[i.r]? = some (.cells c' b.elem fz) ∧ c'.size = i.tot ∧
      (∀ j, j < b.len → ∃ v v', b.c.get j = some v ∧ c'[i.d + j]? = some v' ∧ VRel m v v') ∧ (fz = (0, 0) ∨ (fz = (i.tot, i.tot + 1) ∧ Nat.beq b.elem noMark = false))
  | .map es clock => ∃ es' : List MapEntry, w.heap[i.r]? = some (.map es'.toArray clock) ∧ es.length = es'.length ∧ ∀ (k : Nat) (e e' : MapEntry), es[k]? = some e → es'[k]? = some e' → ERel m e e'
  | .loop t n ps asg bd st => ∃ r : Loop, w.heap[i.r]? = some (.loop r) ∧ r.params = ps.toArray ∧ r.assign = asg ∧ r.body = bd ∧ r.tmps.size = n ∧ st.is r ∧ ∀ k, VRel m ((t.get k).getD undef) (r.tmps.getD k undef)
  | .mit b since seen last => i.d = 0 ∧ ∃ r', w.heap[i.r]? = some (.mapIter r' since seen.toArray last) ∧ ((b = none ∧ r' = none) ∨ ∃ c j, b = some c ∧ m c = some j ∧ r' = some j.r)
  | .sit q pos => i.d = 0 ∧ w.heap[i.r]? = some (.stringIter q pos)
  | .dead => True

/-- What an activation holds besides: abstract blocks that the world has not yet (with what they hold), blocks of the world that no abstract block stands for. -/
structure Aux where
  G : Nat → Option AObj
  K : Nat → Option Obj

/-- The state and the world. B: where the call's own blocks begin. -/
structure SR (B : Nat) (X : Aux) (m : M ω) (s : AS) (w : World) : Prop where
  rel : ∀ b o i, s.h.get b = some o → o.alive = true → m b = some i → ORel m w i o ∧ B ≤ i.r ∧ i.r < w.heap.size
  inj : ∀ b c o p i j, s.h.get b = some o → s.h.get c = some p → o.alive = true → p.alive = true → b ≠ c → m b = some i → m c = some j → i.r ≠ j.r
  freshH : ∀ b, s.n ≤ b → s.h.get b = none
  freshM : ∀ b, s.n ≤ b → m b = none
  gh : ∀ b o, X.G b = some o → s.h.get b = some o ∧ m b = none
  kp : ∀ r o, X.K r = some o → w.heap[r]? = some o ∧ B ≤ r ∧ ∀ b i, m b = some i → i.r ≠ r
  lt : ∀ b i, m b = some i → i.r < w.heap.size
end Go.Proofs.YtenfkghoolegfaaGreatDoor.Ev
