/- An interpreter over an abstract memory, part w: entries of the model that errors.As and errors.Is come to; maps.clone. -/
import Derived.Test.YtenfkghoolegfaaGreatDoorTab
import Derived.Laws.Externs
namespace Go.Proofs.YtenfkghoolegfaaGreatDoor.Ev
open Go.RowKit Go.Extern
variable {ω : Nat → Value}

/-- From here on stand types' handles. -/
def hBase : Nat := 1000
/-- A type's handle, as a value that came in. -/
def hTok (t : TypeId) : Value := .chan (some (hBase + t))
def tyOf : Value → Option TypeId
  | .chan (some k) => cond (Nat.ble hBase k) (some (k - hBase)) none
  | _ => none
/-- reflectlite's Type of a type. -/
def rtV (t : TypeId) : Value := .iface 187 (.agg #[hTok t])
/-- The kind of a type. -/
def kindOf (t : TypeId) : Option Nat :=
  cond (Nat.beq t 136 || (Nat.beq t 150 || Nat.beq t 134)) (some 22) (cond (Nat.beq t 80) (some 2) none)
/-- What a pointer's type points to. -/
def elemOf' (t : TypeId) : Option TypeId :=
  cond (Nat.beq t 136) (some 134) (cond (Nat.beq t 150) (some 80) none)
/-- An error's type. -/
def isErrT (t : TypeId) : Bool := Nat.beq t 134 || Nat.beq t 80

abbrev SpF := List Value → AS → Option (Value × AS)
def spTypeOf : SpF
  | [.iface u _], s => some (rtV u, s)
  | _, _ => none
noncomputable def spValueOf : SpF
  | [.iface u v], s => match kindOf u with
    | some k => cond (oneV v) (some (.agg #[hTok u, .pointer (some ⟨s.n, 0, none⟩), .int .u64 ((k + 128 : Nat) : Int)], ⟨s.n + 1, s.h.put s.n (blkOf [v] u 0 false false)⟩)) none
    | none => none
  | _, _ => none
def spType : SpF
  | [.agg cs], s => match cs.toList with
    | [h, .pointer (some _), .int .u64 150] => match tyOf h with
      | some u => some (rtV u, s)
      | none => none
    | _ => none
  | _, _ => none
noncomputable def spIsNil : SpF
  | [.agg cs], s => match cs.toList with
    | [h, .pointer (some p), .int .u64 150] => match tyOf h with
      | some u => match elemOf' u, readN s p 1 with
        | some _, some [.pointer q] => some (.bool q.isNone, s)
        | _, _ => none
      | none => none
    | _ => none
  | _, _ => none
noncomputable def spVElem : SpF
  | [.agg cs], s => match cs.toList with
    | [h, .pointer (some p), .int .u64 150] => match tyOf h with
      | some u => match elemOf' u, readN s p 1 with
        | some e, some [.pointer (some q)] => match kindOf e with
          | some k => some (.agg #[hTok e, .pointer (some q), .int .u64 ((k + 384 : Nat) : Int)], s)
          | none => none
        | _, _ => none
      | none => none
    | _ => none
  | _, _ => none
def spKind : SpF
  | [h], s => match tyOf h with
    | some u => match kindOf u with
      | some k => some (.int .u8 ((k : Nat) : Int), s)
      | none => none
    | none => none
  | _, _ => none
def spRtElem : SpF
  | [.agg cs], s => match cs.toList with
    | [h] => match tyOf h with
      | some u => match elemOf' u with
        | some e => some (rtV e, s)
        | none => none
      | none => none
    | _ => none
  | _, _ => none
def spImplements : SpF
  | [.agg cs, .iface _ (.agg ds)], s => match cs.toList, ds.toList with
    | [h], [i] => match tyOf h, tyOf i with
      | some u, some v => cond (isErrT u && Nat.beq v 37) (some (.bool true, s)) none
      | _, _ => none
    | _, _ => none
  | _, _ => none
def spAssign : SpF
  | [.agg cs, .iface _ (.agg ds)], s => match cs.toList, ds.toList with
    | [h], [i] => match tyOf h, tyOf i with
      | some u, some v => cond (isErrT u && isErrT v) (some (.bool (Nat.beq u v), s)) none
      | _, _ => none
    | _, _ => none
  | _, _ => none
def spComparable : SpF
  | [.agg cs], s => match cs.toList with
    | [h] => match tyOf h with
      | some u => cond (isErrT u) (some (.bool true, s)) none
      | none => none
    | _ => none
  | _, _ => none
/-- (Value).Set of a variable of a type to a value of that type. -/
noncomputable def spSet : SpF
  | [.agg cs, .agg ds], s => match cs.toList, ds.toList with
    | [h, .pointer (some p), .int .u64 f], [i, .pointer (some q), .int .u64 g] => match tyOf h, tyOf i with
      | some u, some v => match kindOf u, readN s q 1 with
        | some k, some [x] => cond (isErrT u && (Nat.beq u v && (eqI f ((k + 384 : Nat) : Int) && (eqI g ((k + 128 : Nat) : Int) && oneV x)))) (match writeL s p [x] with
          | some s' => some (.tuple #[], s')
          | none => none) none
        | _, _ => none
      | _, _ => none
    | _, _ => none
  | _, _ => none
noncomputable def spClone : SpF
  | [.iface t (.map (some r))], s => match s.h.get r with
    | some (.map es clock) => some (.iface t (.map (some s.n)), ⟨s.n + 1, s.h.put s.n (.map es clock)⟩)
    | _ => none
  | _, _ => none

/-- The functions that are known so. -/
noncomputable def spL : List (FuncId × SpF) := [(76, spTypeOf), (93, spValueOf), (94, spType), (95, spIsNil), (126, spVElem), (127, spSet), (240, spKind), (253, spRtElem), (254, spImplements), (251, spAssign), (252, spComparable)]
def spFind : List (FuncId × SpF) → FuncId → Option SpF
  | [], _ => none
  | (i, k) :: r, g => cond (Nat.beq i g) (some k) (spFind r g)
noncomputable def spT (g : FuncId) : Option SpF := spFind spL g
theorem spFind_ok {Q : FuncId → SpF → Prop} : ∀ {l : List (FuncId × SpF)}, (∀ p ∈ l, Q p.1 p.2) → ∀ g k, spFind l g = some k → Q g k
  | [], _, g, k, h => by cases h
  | (i, f) :: r, hq, g, k, h => by
    simp only [spFind] at h
    cases hb : Nat.beq i g with
    | true =>
      rw [hb] at h
      cases h
      rw [← Nat.eq_of_beq_eq_true hb]
      exact hq (i, f) (by simp)
    | false => rw [hb] at h; exact spFind_ok (fun p hp => hq p (by simp [hp])) g k h

/-- What is asked of the values that came in: type handles stand from the thousandth on. -/
def Hands (ω : Nat → Value) : Prop := ∀ t, ω (hBase + t) = .pointer (some ⟨5, t, none⟩)

/-- An entry of the model. -/
theorem ext_ok {C : Ctx} (hP : C.P = Tryz.prog) {g : FuncId} {fn : Func} (e : Array Value → Sem Value) (hf : Tryz.prog.funcs[g]? = some fn) (hname : (fn.name == "runtime.NumGoroutine") = false) (hb : fn.body.isNone = true) (hn : Extern.findNext fn = none) (he : Extern.find fn = some e)
    {args : Array Value} {w : World} {R : Value → World → Prop} (h : ∃ v' w', (e args).run Tryz.prog w = .ok v' w' ∧ R v' w') : CallOK C g args w R := by
  intro q F n o act K Q hF hK
  obtain ⟨v', w', hr, hR⟩ := h
  rw [hP, run_callFunc_extern hf hname hb hn he, hr]
  exact hK v' w' hR

section
variable {B : Nat} {X : Aux} {m : M ω} {s s' : AS} {w : World}
theorem RelV.same {v v' : Value} (hs : SR B X m s w) (hv : VRel m v v') : RelV B X m s w v v' w := ⟨m, Le.refl _, hs, hv, Below.refl _ _⟩

theorem hand_inv (hh : Hands ω) {h v' : Value} {u : TypeId} (ht : tyOf h = some u) (hv : VRel m h v') : v' = .pointer (some ⟨5, u, none⟩) := by
  have key : ∀ k, h = .chan (some k) → v' = .pointer (some ⟨5, u, none⟩) := by
    intro k hk
    subst hk
    have ht' : cond (Nat.ble hBase k) (some (k - hBase)) none = some u := ht
    cases hb : Nat.ble hBase k with
    | false => rw [hb] at ht'; cases ht'
    | true =>
      rw [hb] at ht'
      have hu : k - hBase = u := Option.some.inj ht'
      have hle := Nat.le_of_ble_eq_true hb
      have e := hh u
      have ek : hBase + u = k := by rw [← hu]; exact Nat.add_sub_cancel' hle
      rw [ek] at e
      exact (tok_inv hv).trans e
  cases h with
  | chan c =>
    cases c with
    | none => cases ht
    | some k => exact key k rfl
  | _ => cases ht
theorem hand_rel (hh : Hands ω) (u : TypeId) : VRel m (hTok u) (.pointer (some ⟨5, u, none⟩)) := by
  have := VRel.tok (m := m) (hBase + u) (by rw [hh]; rfl)
  rwa [hh] at this
theorem rt_rel (hh : Hands ω) (u : TypeId) : VRel m (rtV u) (.iface 187 (.agg #[.pointer (some ⟨5, u, none⟩)])) :=
  .iface _ _ _ (LRel.agg (l := [hTok u]) (l' := [_]) (LRel.cons (hand_rel hh u) (LRel.nil m)))

theorem agg_list {cs : Array Value} {l : List Value} (hl : cs.toList = l) {v' : Value} (h : VRel m (.agg cs) v') : ∃ l', v' = .agg l'.toArray ∧ LRel m l l' := by
  obtain ⟨cs', rfl, hr⟩ := agg_inv h
  exact ⟨cs'.toList, by simp, by rw [← hl]; exact hr⟩
theorem l1 {a : Value} {l : List Value} (h : LRel m [a] l) : ∃ a', l = [a'] ∧ VRel m a a' := by
  match l, h with
  | [a'], h => exact ⟨a', rfl, h.tail.1⟩
  | [], h => exact absurd h.1 (by simp)
  | _ :: _ :: _, h => exact absurd h.1 (by simp)
theorem l3 {a b c : Value} {l : List Value} (h : LRel m [a, b, c] l) : ∃ a' b' c', l = [a', b', c'] ∧ VRel m a a' ∧ VRel m b b' ∧ VRel m c c' := by
  match l, h with
  | [a', b', c'], h => exact ⟨a', b', c', rfl, h.tail.1, h.tail.2.tail.1, h.tail.2.tail.2.tail.1⟩
  | [], h => exact absurd h.1 (by simp)
  | [_], h => exact absurd h.1 (by simp)
  | [_, _], h => exact absurd h.1 (by simp)
  | _ :: _ :: _ :: _ :: _, h => exact absurd h.1 (by simp)

theorem kindOf_run {u : TypeId} {k : Nat} (h : kindOf u = some k) (w : World) : (Rtype.kind u).run Tryz.prog w = .ok k w := by
  unfold kindOf at h
  cases h1 : Nat.beq u 136 with
  | true => rw [h1] at h; cases h; obtain rfl := Nat.eq_of_beq_eq_true h1; kernel_rfl
  | false =>
    cases h2 : Nat.beq u 150 with
    | true => rw [h1, h2] at h; cases h; obtain rfl := Nat.eq_of_beq_eq_true h2; kernel_rfl
    | false =>
      cases h3 : Nat.beq u 134 with
      | true => rw [h1, h2, h3] at h; cases h; obtain rfl := Nat.eq_of_beq_eq_true h3; kernel_rfl
      | false =>
        rw [h1, h2, h3] at h
        cases h4 : Nat.beq u 80 with
        | true => rw [h4] at h; cases h; obtain rfl := Nat.eq_of_beq_eq_true h4; kernel_rfl
        | false => rw [h4] at h; cases h

/-- TypeOf. -/
theorem typeOf_run (u : TypeId) (v : Value) (w : World) : (ReflectliteType.typeOf #[.iface u v]).run Tryz.prog w = .ok (.iface 187 (.agg #[.pointer (some ⟨5, u, none⟩)])) w := by kernel_rfl

theorem pack_no (t : String) (u : TypeId) (hu : Tryz.prog.packed u = false) (w : World) : (Rtype.noPack t u).run Tryz.prog w = .ok () w := by
  simp [Rtype.noPack, run_program, hu]
theorem packed_no {u : TypeId} {k : Nat} (h : kindOf u = some k) : Tryz.prog.packed u = false := by
  unfold kindOf at h
  cases h1 : Nat.beq u 136 with
  | true => obtain rfl := Nat.eq_of_beq_eq_true h1; kernel_rfl
  | false =>
    cases h2 : Nat.beq u 150 with
    | true => obtain rfl := Nat.eq_of_beq_eq_true h2; kernel_rfl
    | false =>
      cases h3 : Nat.beq u 134 with
      | true => obtain rfl := Nat.eq_of_beq_eq_true h3; kernel_rfl
      | false =>
        rw [h1, h2, h3] at h
        cases h4 : Nat.beq u 80 with
        | true => obtain rfl := Nat.eq_of_beq_eq_true h4; kernel_rfl
        | false => rw [h4] at h; cases h
theorem ofHandle_run (u : TypeId) (w : World) : (Rtype.ofHandle (.pointer (some ⟨5, u, none⟩))).run Tryz.prog w = .ok u w := by kernel_rfl
theorem handle_run (u : TypeId) (w : World) : (Rtype.handle u).run Tryz.prog w = .ok (.pointer (some ⟨5, u, none⟩)) w := by kernel_rfl
theorem toType_run (u : TypeId) (w : World) : (ReflectliteType.toType u).run Tryz.prog w = .ok (.iface 187 (.agg #[.pointer (some ⟨5, u, none⟩)])) w := by kernel_rfl

theorem elem_of {u e : TypeId} (h : elemOf' u = some e) : (u = 136 ∧ e = 134) ∨ (u = 150 ∧ e = 80) := by
  unfold elemOf' at h
  cases h1 : Nat.beq u 136 with
  | true => rw [h1] at h; cases h; exact .inl ⟨Nat.eq_of_beq_eq_true h1, rfl⟩
  | false =>
    rw [h1] at h
    cases h2 : Nat.beq u 150 with
    | true => rw [h2] at h; cases h; exact .inr ⟨Nat.eq_of_beq_eq_true h2, rfl⟩
    | false => rw [h2] at h; cases h
theorem err_of {u : TypeId} (h : isErrT u = true) : u = 134 ∨ u = 80 := by
  unfold isErrT at h
  rw [Bool.or_eq_true] at h
  exact h.imp Nat.eq_of_beq_eq_true Nat.eq_of_beq_eq_true

/-! Each entry, at values that are alike. -/
theorem typeOf_ok (hh : Hands ω) {vs : List Value} {v : Value} {args : Array Value} (hs : SR B X m s w) (hl : LRel m vs args.toList) (h : spTypeOf vs s = some (v, s')) :
    ∃ v' w', (ReflectliteType.typeOf args).run Tryz.prog w = .ok v' w' ∧ RelV B X m s' w v v' w' := by
  unfold spTypeOf at h
  split at h
  · rename_i u x
    cases h
    obtain ⟨x', rfl, hx⟩ := args1 hl
    obtain ⟨y, _, rfl⟩ := iface_inv hx
    exact ⟨_, w, typeOf_run u y w, RelV.same hs (rt_rel hh u)⟩
  · cases h

theorem valueOf_ok (hh : Hands ω) (hB : B ≤ w.heap.size) {vs : List Value} {v : Value} {args : Array Value} (hs : SR B X m s w) (hl : LRel m vs args.toList) (h : spValueOf vs s = some (v, s')) :
    ∃ v' w', (ReflectliteValue.unpack (args.getD 0 (.tuple #[]))).run Tryz.prog w = .ok v' w' ∧ RelV B X m s' w v v' w' := by
  unfold spValueOf at h
  split at h
  · rename_i u x
    split at h
    · rename_i k hk
      cases ho : oneV x with
      | false => rw [ho] at h; cases h
      | true =>
        rw [ho] at h
        cases h
        obtain ⟨x', rfl, hx⟩ := args1 hl
        obtain ⟨y, hy, rfl⟩ := iface_inv hx
        have hcy : cellsOf y = [y] := cellsOf_one (by have := one_rel hy ho; revert this; cases y <;> simp [Value.oneCell', oneV])
        have hrun : (ReflectliteValue.unpack (.iface u y)).run Tryz.prog w = .ok (.agg #[.pointer (some ⟨5, u, none⟩), .pointer (some ⟨w.heap.size, 0, none⟩), .int .u64 ((k + 128 : Nat) : Int)]) (w.alloc (.cells [y].toArray u)) := by
          simp only [ReflectliteValue.unpack, ReflectliteValue.mk, Sem.run_bind, newVar, newRow, run_newObj_alloc, Result.andThen, handle_run, kindOf_run hk, Sem.run_pure, cells_arr, hcy]
          rfl
        obtain ⟨h1, h2⟩ := new_sound (w1 := w.alloc (.cells [y].toArray u)) hs (blkOf [x] u 0 false false) _ hB rfl (by simp) (fun q hq => Below.heap_alloc w _ q hq) (blk_new (LRel.cons hy (LRel.nil m)) u 0)
        refine ⟨_, _, hrun, _, h2, h1, ?_, (Below.refl _ _).alloc hB _⟩
        exact LRel.agg (l := [_, _, _]) (l' := [_, _, _]) (LRel.cons (hand_rel hh u) (LRel.cons (.ptr _ _ ⟨rfl, _, ext_same _ _ _, rfl⟩) (LRel.cons (.plain _ rfl) (LRel.nil _))))
    · cases h
  · cases h

theorem type_ok (hh : Hands ω) {vs : List Value} {v : Value} {args : Array Value} (hs : SR B X m s w) (hl : LRel m vs args.toList) (h : spType vs s = some (v, s')) :
    ∃ v' w', (ReflectliteValue.methodAny (ReflectliteValue.valueError "reflectlite.Value.Type" 0) (fun t _ _ _ => ReflectliteType.toType t) args).run Tryz.prog w = .ok v' w' ∧ RelV B X m s' w v v' w' := by
  unfold spType at h
  split at h
  · rename_i cs
    split at h
    · rename_i hd p hcs
      split at h
      · rename_i u hu
        cases h
        obtain ⟨x', rfl, hx⟩ := args1 hl
        obtain ⟨l', rfl, hr⟩ := agg_list hcs hx
        obtain ⟨a', b', c', rfl, h1, h2, h3⟩ := l3 hr
        obtain rfl := hand_inv hh hu h1
        obtain ⟨p', _, rfl⟩ := ptr_inv h2
        obtain rfl := int_inv h3
        refine ⟨_, w, ?_, RelV.same hs (rt_rel hh u)⟩
        kernel_rfl
      · cases h
    · cases h
  · cases h

theorem isNil_ok (hh : Hands ω) {vs : List Value} {v : Value} {args : Array Value} (hs : SR B X m s w) (hl : LRel m vs args.toList) (h : spIsNil vs s = some (v, s')) :
    ∃ v' w', (ReflectliteValue.method (ReflectliteValue.valueError "reflectlite.Value.IsNil" 0) ReflectliteValue.isNil args).run Tryz.prog w = .ok v' w' ∧ RelV B X m s' w v v' w' := by
  unfold spIsNil at h
  split at h
  · rename_i cs
    split at h
    · rename_i hd p hcs
      split at h
      · rename_i u hu
        split at h
        · rename_i e q he hr0
          cases h
          obtain ⟨x', rfl, hx⟩ := args1 hl
          obtain ⟨l', rfl, hr⟩ := agg_list hcs hx
          obtain ⟨a', b', c', rfl, h1, h2, h3⟩ := l3 hr
          obtain rfl := hand_inv hh hu h1
          obtain ⟨p', hp', rfl⟩ := ptr_inv h2
          obtain rfl := int_inv h3
          obtain ⟨l2, g1, g2, g3⟩ := readN_sound hs hr0 hp'
          obtain ⟨z, rfl, hz⟩ := l1 g1
          have hcell := g3 0 z rfl
          rw [show p'.add 0 = p' by simp [Addr.add]] at hcell
          refine ⟨.bool q.isNone, w, ?_, RelV.same hs (.plain _ rfl)⟩
          have hpt : (∃ q', z = .pointer (some q') ∧ q.isNone = false) ∨ (z = .pointer none ∧ q.isNone = true) := by
            cases q with
            | none => exact .inr ⟨nilptr_inv hz, rfl⟩
            | some q => obtain ⟨q', _, rfl⟩ := ptr_inv hz; exact .inl ⟨q', rfl, rfl⟩
          rcases elem_of he with ⟨rfl, rfl⟩ | ⟨rfl, rfl⟩
          · have hparts : (ReflectliteValue.parts (.agg #[.pointer (some ⟨5, 136, none⟩), .pointer (some p'), .int .u64 150])).run Tryz.prog w = .ok (some (136, p', 150)) w := by kernel_rfl
            show (do match ← ReflectliteValue.parts (.agg #[.pointer (some ⟨5, 136, none⟩), .pointer (some p'), .int .u64 150]) with | none => _ | some (t, a, fl) => ReflectliteValue.isNil t a fl (fl % 32) : Sem Value).run Tryz.prog w = _
            simp only [Sem.run_bind, hparts, Result.andThen]
            rcases hpt with ⟨q', rfl, hq⟩ | ⟨rfl, hq⟩ <;> simp [ReflectliteValue.isNil, loadVar, isAgg, run_underlying Tryz.underlying136, load, Sem.run, hcell, hq]
          · have hparts : (ReflectliteValue.parts (.agg #[.pointer (some ⟨5, 150, none⟩), .pointer (some p'), .int .u64 150])).run Tryz.prog w = .ok (some (150, p', 150)) w := by kernel_rfl
            show (do match ← ReflectliteValue.parts (.agg #[.pointer (some ⟨5, 150, none⟩), .pointer (some p'), .int .u64 150]) with | none => _ | some (t, a, fl) => ReflectliteValue.isNil t a fl (fl % 32) : Sem Value).run Tryz.prog w = _
            simp only [Sem.run_bind, hparts, Result.andThen]
            rcases hpt with ⟨q', rfl, hq⟩ | ⟨rfl, hq⟩ <;> simp [ReflectliteValue.isNil, loadVar, isAgg, run_underlying Tryz.underlying150, load, Sem.run, hcell, hq]
        · cases h
      · cases h
    · cases h
  · cases h

theorem vElem_ok (hh : Hands ω) {vs : List Value} {v : Value} {args : Array Value} (hs : SR B X m s w) (hl : LRel m vs args.toList) (h : spVElem vs s = some (v, s')) :
    ∃ v' w', (ReflectliteValue.method (ReflectliteValue.valueError "reflectlite.Value.Elem" 0) ReflectliteValue.elem args).run Tryz.prog w = .ok v' w' ∧ RelV B X m s' w v v' w' := by
  unfold spVElem at h
  split at h
  · rename_i cs
    split at h
    · rename_i hd p hcs
      split at h
      · rename_i u hu
        split at h
        · rename_i e q he hr0
          split at h
          · rename_i k hk
            cases h
            obtain ⟨x', rfl, hx⟩ := args1 hl
            obtain ⟨l', rfl, hr⟩ := agg_list hcs hx
            obtain ⟨a', b', c', rfl, h1, h2, h3⟩ := l3 hr
            obtain rfl := hand_inv hh hu h1
            obtain ⟨p', hp', rfl⟩ := ptr_inv h2
            obtain rfl := int_inv h3
            obtain ⟨l2, g1, g2, g3⟩ := readN_sound hs hr0 hp'
            obtain ⟨z, rfl, hz⟩ := l1 g1
            have hcell := g3 0 z rfl
            rw [show p'.add 0 = p' by simp [Addr.add]] at hcell
            obtain ⟨q', hq', rfl⟩ := ptr_inv hz
            refine ⟨.agg #[.pointer (some ⟨5, e, none⟩), .pointer (some q'), .int .u64 ((k + 384 : Nat) : Int)], w, ?_, RelV.same hs (LRel.agg (l := [_, _, _]) (l' := [_, _, _]) (LRel.cons (hand_rel hh e) (LRel.cons (.ptr _ _ hq') (LRel.cons (.plain _ rfl) (LRel.nil _)))))⟩
            rcases elem_of he with ⟨rfl, rfl⟩ | ⟨rfl, rfl⟩
            · have hparts : (ReflectliteValue.parts (.agg #[.pointer (some ⟨5, 136, none⟩), .pointer (some p'), .int .u64 150])).run Tryz.prog w = .ok (some (136, p', 150)) w := by kernel_rfl
              have hel : (Rtype.elem? 136).run Tryz.prog w = .ok (some 134) w := by kernel_rfl
              have hmk : (ReflectliteValue.mk 134 q' ReflectliteValue.flagAddr).run Tryz.prog w = .ok (.agg #[.pointer (some ⟨5, 134, none⟩), .pointer (some q'), .int .u64 ((k + 384 : Nat) : Int)]) w := by
                cases hk
                kernel_rfl
              show (do match ← ReflectliteValue.parts (.agg #[.pointer (some ⟨5, 136, none⟩), .pointer (some p'), .int .u64 150]) with | none => _ | some (t, a, fl) => ReflectliteValue.elem t a fl (fl % 32) : Sem Value).run Tryz.prog w = _
              simp only [Sem.run_bind, hparts, Result.andThen]
              simp [ReflectliteValue.elem, loadVar, isAgg, run_underlying Tryz.underlying136, load, Sem.run, hcell, hel, hmk]
            · have hparts : (ReflectliteValue.parts (.agg #[.pointer (some ⟨5, 150, none⟩), .pointer (some p'), .int .u64 150])).run Tryz.prog w = .ok (some (150, p', 150)) w := by kernel_rfl
              have hel : (Rtype.elem? 150).run Tryz.prog w = .ok (some 80) w := by kernel_rfl
              have hmk : (ReflectliteValue.mk 80 q' ReflectliteValue.flagAddr).run Tryz.prog w = .ok (.agg #[.pointer (some ⟨5, 80, none⟩), .pointer (some q'), .int .u64 ((k + 384 : Nat) : Int)]) w := by
                cases hk
                kernel_rfl
              show (do match ← ReflectliteValue.parts (.agg #[.pointer (some ⟨5, 150, none⟩), .pointer (some p'), .int .u64 150]) with | none => _ | some (t, a, fl) => ReflectliteValue.elem t a fl (fl % 32) : Sem Value).run Tryz.prog w = _
              simp only [Sem.run_bind, hparts, Result.andThen]
              simp [ReflectliteValue.elem, loadVar, isAgg, run_underlying Tryz.underlying150, load, Sem.run, hcell, hel, hmk]
          · cases h
        · cases h
      · cases h
    · cases h
  · cases h

theorem kind_ok (hh : Hands ω) {vs : List Value} {v : Value} {args : Array Value} (hs : SR B X m s w) (hl : LRel m vs args.toList) (h : spKind vs s = some (v, s')) :
    ∃ v' w', ((ReflectliteType.abiMethod fun t => do pure (.int .u8 (← Rtype.kind t))) args).run Tryz.prog w = .ok v' w' ∧ RelV B X m s' w v v' w' := by
  unfold spKind at h
  split at h
  · rename_i hd
    split at h
    · rename_i u hu
      split at h
      · rename_i k hk
        cases h
        obtain ⟨x', rfl, hx⟩ := args1 hl
        obtain rfl := hand_inv hh hu hx
        refine ⟨.int .u8 ((k : Nat) : Int), w, ?_, RelV.same hs (.plain _ rfl)⟩
        show (Rtype.ofHandle (.pointer (some ⟨5, u, none⟩)) >>= fun t => Rtype.noPack _ t >>= fun _ => Rtype.kind t >>= fun k => pure (Value.int .u8 (k : Int)) : Sem Value).run Tryz.prog w = _
        simp only [Sem.run_bind, ofHandle_run, Result.andThen, pack_no _ u (packed_no hk), kindOf_run hk, Sem.run_pure]
      · cases h
    · cases h
  · cases h

theorem rtElem_ok (hh : Hands ω) {vs : List Value} {v : Value} {args : Array Value} (hs : SR B X m s w) (hl : LRel m vs args.toList) (h : spRtElem vs s = some (v, s')) :
    ∃ v' w', (ReflectliteType.method ReflectliteType.elem args).run Tryz.prog w = .ok v' w' ∧ RelV B X m s' w v v' w' := by
  unfold spRtElem at h
  split at h
  · rename_i cs
    split at h
    · rename_i hd hcs
      split at h
      · rename_i u hu
        split at h
        · rename_i e he
          cases h
          obtain ⟨x', rfl, hx⟩ := args1 hl
          obtain ⟨l', rfl, hr⟩ := agg_list hcs hx
          obtain ⟨a', rfl, h1⟩ := l1 hr
          obtain rfl := hand_inv hh hu h1
          refine ⟨_, w, ?_, RelV.same hs (rt_rel hh e)⟩
          rcases elem_of he with ⟨rfl, rfl⟩ | ⟨rfl, rfl⟩ <;> kernel_rfl
        · cases h
      · cases h
    · cases h
  · cases h

theorem comparable_ok (hh : Hands ω) {vs : List Value} {v : Value} {args : Array Value} (hs : SR B X m s w) (hl : LRel m vs args.toList) (h : spComparable vs s = some (v, s')) :
    ∃ v' w', ((ReflectliteType.method fun t => do Rtype.noPackHeld "Comparable" t; pure (.bool (← typeInfo t).comparable)) args).run Tryz.prog w = .ok v' w' ∧ RelV B X m s' w v v' w' := by
  unfold spComparable at h
  split at h
  · rename_i cs
    split at h
    · rename_i hd hcs
      split at h
      · rename_i u hu
        cases he : isErrT u with
        | false => rw [he] at h; cases h
        | true =>
          rw [he] at h
          cases h
          obtain ⟨x', rfl, hx⟩ := args1 hl
          obtain ⟨l', rfl, hr⟩ := agg_list hcs hx
          obtain ⟨a', rfl, h1⟩ := l1 hr
          obtain rfl := hand_inv hh hu h1
          refine ⟨.bool true, w, ?_, RelV.same hs (.plain _ rfl)⟩
          rcases err_of he with rfl | rfl <;> kernel_rfl
      · cases h
    · cases h
  · cases h

theorem two_rt (hh : Hands ω) {cs ds : Array Value} {t : TypeId} {hd i : Value} (h1 : cs.toList = [hd]) (h2 : ds.toList = [i]) {u v : TypeId} (hu : tyOf hd = some u) (hv : tyOf i = some v) {args : Array Value} (hl : LRel m [.agg cs, .iface t (.agg ds)] args.toList) :
    args = #[.agg #[.pointer (some ⟨5, u, none⟩)], .iface t (.agg #[.pointer (some ⟨5, v, none⟩)])] := by
  obtain ⟨x', y', rfl, hx, hy⟩ := args2 hl
  obtain ⟨l', rfl, hr⟩ := agg_list h1 hx
  obtain ⟨a', rfl, g1⟩ := l1 hr
  obtain rfl := hand_inv hh hu g1
  obtain ⟨z, hz, rfl⟩ := iface_inv hy
  obtain ⟨l2, rfl, hr2⟩ := agg_list h2 hz
  obtain ⟨b', rfl, g2⟩ := l1 hr2
  obtain rfl := hand_inv hh hv g2
  rfl

theorem implements_ok (hh : Hands ω) {vs : List Value} {v : Value} {args : Array Value} (hs : SR B X m s w) (hl : LRel m vs args.toList) (h : spImplements vs s = some (v, s')) :
    ∃ v' w', (ReflectliteType.relation "Implements" ReflectliteType.implements_ args).run Tryz.prog w = .ok v' w' ∧ RelV B X m s' w v v' w' := by
  unfold spImplements at h
  split at h
  · rename_i cs t ds
    split at h
    · rename_i hd i hcs hds
      split at h
      · rename_i u x hu hx
        cases he : (isErrT u && Nat.beq x 37) with
        | false => rw [he] at h; cases h
        | true =>
          rw [he] at h
          cases h
          rw [Bool.and_eq_true] at he
          obtain rfl := Nat.eq_of_beq_eq_true he.2
          rw [two_rt hh hcs hds hu hx hl]
          refine ⟨.bool true, w, ?_, RelV.same hs (.plain _ rfl)⟩
          rcases err_of he.1 with rfl | rfl <;> kernel_rfl
      · cases h
    · cases h
  · cases h

theorem assign_ok (hh : Hands ω) {vs : List Value} {v : Value} {args : Array Value} (hs : SR B X m s w) (hl : LRel m vs args.toList) (h : spAssign vs s = some (v, s')) :
    ∃ v' w', (ReflectliteType.relation "AssignableTo" ReflectliteType.assignableTo args).run Tryz.prog w = .ok v' w' ∧ RelV B X m s' w v v' w' := by
  unfold spAssign at h
  split at h
  · rename_i cs t ds
    split at h
    · rename_i hd i hcs hds
      split at h
      · rename_i u x hu hx
        cases he : (isErrT u && isErrT x) with
        | false => rw [he] at h; cases h
        | true =>
          rw [he] at h
          cases h
          rw [Bool.and_eq_true] at he
          rw [two_rt hh hcs hds hu hx hl]
          refine ⟨.bool (Nat.beq u x), w, ?_, RelV.same hs (.plain _ rfl)⟩
          rcases err_of he.1 with rfl | rfl <;> rcases err_of he.2 with rfl | rfl <;> kernel_rfl
      · cases h
    · cases h
  · cases h

theorem clone_ok (hB : B ≤ w.heap.size) {vs : List Value} {v : Value} {args : Array Value} (hs : SR B X m s w) (hl : LRel m vs args.toList) (h : spClone vs s = some (v, s')) :
    ∃ v' w', (MapsClone.clone args).run Tryz.prog w = .ok v' w' ∧ RelV B X m s' w v v' w' := by
  unfold spClone at h
  split at h
  · rename_i t r
    split at h
    · rename_i es ck hg
      cases h
      obtain ⟨x', rfl, hx⟩ := args1 hl
      obtain ⟨z, hz, rfl⟩ := iface_inv hx
      obtain ⟨i, hi, rfl⟩ := map_inv hz
      obtain ⟨es', h2, h3, _⟩ := map_obj hs hg hi
      obtain ⟨k1, k2⟩ := new_sound (w1 := w.alloc (.map es'.toArray ck)) hs (.map es ck) ⟨w.heap.size, 0, 0, 0, false, 0⟩ hB rfl (by simp) (fun q hq => Below.heap_alloc w _ q hq) ⟨es', heap_alloc_new w _, h3⟩
      refine ⟨.iface t (.map (some w.heap.size)), _, ?_, _, k2, k1, .iface _ _ _ (.map _ _ (ext_same _ _ _)), (Below.refl _ _).alloc hB _⟩
      obtain ⟨k, e1, e2⟩ : ∃ k : Obj → Sem Value, MapsClone.clone #[.iface t (.map (some i.r))] = (getObj i.r >>= k) ∧ k (.map es'.toArray ck) = (newObj (.map es'.toArray ck) >>= fun r => pure (.iface t (.map (some r)))) := ⟨_, rfl, rfl⟩
      have g : (getObj i.r).run Tryz.prog w = .ok (.map es'.toArray ck) w := by simp [getObj, Sem.run, h2]
      rw [e1, Sem.run_bind, g]
      show (k (.map es'.toArray ck)).run Tryz.prog w = _
      rw [e2]
      simp
    · cases h
  · cases h

theorem set_run {v x val : Value} {u : TypeId} {p q : Addr} {f g : Nat} {w' : World} (hf : (f / ReflectliteValue.flagAddr % 2 == 0) = false) (h1 : (ReflectliteValue.parts v).run Tryz.prog w = .ok (some (u, p, f)) w) (h2 : (ReflectliteValue.parts x).run Tryz.prog w = .ok (some (u, q, g)) w)
    (h3 : (loadVar u q).run Tryz.prog w = .ok val w) (h4 : (Rtype.directlyAssignable u u).run Tryz.prog w = .ok true w) (h5 : (storeVar u p val).run Tryz.prog w = .ok () w') : (ReflectliteValue.set #[v, x]).run Tryz.prog w = .ok (.tuple #[]) w' := by
  obtain ⟨k, k2, k3, e1, e2, e3⟩ : ∃ (k : Option (TypeId × Addr × Nat) → Option (TypeId × Addr × Nat) → Sem Value) (k2 : Bool → Sem Value) (k3 : Value → Bool → Sem Value),
      ReflectliteValue.set #[v, x] = (ReflectliteValue.parts v >>= fun a => ReflectliteValue.parts x >>= fun b => k a b) ∧
      k (some (u, p, f)) (some (u, q, g)) = k2 (f / ReflectliteValue.flagAddr % 2 == 0) ∧
      (k2 false = (loadVar u q >>= fun val => Rtype.directlyAssignable u u >>= fun b => k3 val b) ∧ ∀ val, k3 val true = (storeVar u p val >>= fun _ => pure (.tuple #[]))) :=
    ⟨_, fun b => if b = true then _ else _, _, rfl, rfl, rfl, fun _ => rfl⟩
  rw [e1]
  simp only [Sem.run_bind, h1, h2, Result.andThen]
  rw [e2, hf, e3.1]
  simp only [Sem.run_bind, h3, h4, Result.andThen]
  rw [e3.2]
  simp only [Sem.run_bind, h5, Result.andThen, Sem.run_pure]

theorem set_ok (hh : Hands ω) {vs : List Value} {v : Value} {args : Array Value} (hs : SR B X m s w) (hl : LRel m vs args.toList) (h : spSet vs s = some (v, s')) :
    ∃ v' w', (ReflectliteValue.set args).run Tryz.prog w = .ok v' w' ∧ RelV B X m s' w v v' w' := by
  unfold spSet at h
  split at h
  · rename_i cs ds
    split at h
    · rename_i hd p f i q g hcs hds
      split at h
      · rename_i u x hu hx
        split at h
        · rename_i k y hk hr0
          cases hc : (isErrT u && (Nat.beq u x && (eqI f ((k + 384 : Nat) : Int) && (eqI g ((k + 128 : Nat) : Int) && oneV y)))) with
          | false => rw [hc] at h; cases h
          | true =>
            rw [hc] at h
            simp only [cond_true] at h
            simp only [Bool.and_eq_true] at hc
            obtain ⟨he, hux, hf, hg, ho⟩ := hc
            obtain rfl := Nat.eq_of_beq_eq_true hux
            obtain rfl := eqI_sound hf
            obtain rfl := eqI_sound hg
            split at h
            · rename_i s2 hw
              cases h
              obtain ⟨x1, x2, rfl, hx1, hx2⟩ := args2 hl
              obtain ⟨l', rfl, hr⟩ := agg_list hcs hx1
              obtain ⟨a', b', c', rfl, h1, h2, h3⟩ := l3 hr
              obtain ⟨l2, rfl, hr2⟩ := agg_list hds hx2
              obtain ⟨a2, b2, c2, rfl, j1, j2, j3⟩ := l3 hr2
              obtain rfl := hand_inv hh hu h1
              obtain rfl := hand_inv hh hx j1
              obtain ⟨p', hp', rfl⟩ := ptr_inv h2
              obtain ⟨q', hq', rfl⟩ := ptr_inv j2
              obtain rfl := int_inv h3
              obtain rfl := int_inv j3
              obtain ⟨l3', g1, g2, g3⟩ := readN_sound hs hr0 hq'
              obtain ⟨z, rfl, hz⟩ := l1 g1
              have hcell := g3 0 z rfl
              rw [show q'.add 0 = q' by simp [Addr.add]] at hcell
              obtain ⟨w', hst, hs', hb⟩ := writeL_sound (P := Tryz.prog) hs hw hp' (LRel.cons hz (LRel.nil m))
              have hoz : cellsOf z = [z] := cellsOf_one (by have := one_rel hz ho; revert this; cases z <;> simp [Value.oneCell', oneV])
              refine ⟨.tuple #[], w', ?_, m, Le.refl _, hs', LRel.tuple (l := []) (l' := []) (LRel.nil m), hb⟩
              rcases err_of he with rfl | rfl
              · cases hk
                refine set_run (u := 134) (p := p') (q := q') (f := 406) (g := 150) (val := z) (by decide) (by kernel_rfl) (by kernel_rfl) ?_ (by kernel_rfl) ?_
                · simp [loadVar, isAgg, run_underlying Tryz.underlying134, load, Sem.run, hcell]
                · have hsz : (sizeOf 134).run Tryz.prog w = .ok 1 w := by kernel_rfl
                  simp only [storeVar, Sem.run_bind, hsz, Result.andThen, cells_arr, hoz]
                  simpa using hst
              · cases hk
                refine set_run (u := 80) (p := p') (q := q') (f := 386) (g := 130) (val := z) (by decide) (by kernel_rfl) (by kernel_rfl) ?_ (by kernel_rfl) ?_
                · simp [loadVar, isAgg, run_underlying Tryz.underlying80, load, Sem.run, hcell]
                · have hsz : (sizeOf 80).run Tryz.prog w = .ok 1 w := by kernel_rfl
                  simp only [storeVar, Sem.run_bind, hsz, Result.andThen, cells_arr, hoz]
                  simpa using hst
            · cases h
        · cases h
      · cases h
    · cases h
  · cases h
end

/-- rtype's Kind is its embedded type's. -/
def methT (t : TypeId) (name : String) (v : Value) : Option (FuncId × Value) :=
  cond (Nat.beq t 187 && name == "Kind") (match v with
  | .agg cs => match cs.toList with
    | [h] => some (240, h)
    | _ => none
  | _ => none) none
theorem methT_ok : ∀ t name v g rv, methT t name v = some (g, rv) → ∀ (m : M ω) (v' : Value), VRel m v v' → ∃ rv', VRel m rv rv' ∧ ∀ w, (method (Tryz.prog.types.size + Made.depth) t v' name).run Tryz.prog w = .ok (g, rv') w := by
  intro t name v g rv h m v' hv
  unfold methT at h
  cases hc : (Nat.beq t 187 && name == "Kind") with
  | false => rw [hc] at h; cases h
  | true =>
    rw [hc] at h
    simp only [cond_true] at h
    rw [Bool.and_eq_true] at hc
    obtain rfl := Nat.eq_of_beq_eq_true hc.1
    obtain rfl : name = "Kind" := by simpa using hc.2
    split at h
    · split at h
      · rename_i cs hd hcs
        cases h
        obtain ⟨l', rfl, hr⟩ := agg_list hcs hv
        obtain ⟨a', rfl, h1⟩ := l1 hr
        exact ⟨a', h1, fun w => by kernel_rfl⟩
      · cases h
    · cases h

/-- errors' own variable. -/
def globT (g : Nat) : Option Value := cond (Nat.beq g 0) (some (rtV 37)) none

/-- The tables, with all that is known so. -/
noncomputable def CE (fs : List Fact) (ls : List (TypeId × Nat × Nat)) (cnv : TypeId → TypeId → Value → Option Value) (rd : Nat → Bool) : Ctx := CT spT globT methT fs ls cnv rd
/-- What is asked of a function that is known so. -/
def SpOK (ω : Nat → Value) (C : Ctx) (g : FuncId) (k : SpF) : Prop := ∀ vs s v s', k vs s = some (v, s') → ∀ (B : Nat) (X : Aux) (m : M ω) (w : World) (args : Array Value), SR B X m s w → LRel m vs args.toList → Bs ω C B w → CallOK C g args w (RelV B X m s' w v)
section
variable {C : Ctx}
theorem spTypeOf_sp (hh : Hands ω) (hP : C.P = Tryz.prog) : SpOK ω C 76 spTypeOf := by
  intro vs s v s' hv B X m w args hs hr hB
  exact ext_ok hP ReflectliteType.typeOf Tryz.func76 (by kernel_rfl) (by kernel_rfl) (by kernel_rfl) (by kernel_rfl) (typeOf_ok hh hs hr hv)
theorem spValueOf_sp (hh : Hands ω) (hP : C.P = Tryz.prog) : SpOK ω C 93 spValueOf := by
  intro vs s v s' hv B X m w args hs hr hB
  exact ext_ok hP (fun args => ReflectliteValue.unpack (args.getD 0 (.tuple #[]))) Tryz.func93 (by kernel_rfl) (by kernel_rfl) (by kernel_rfl) (by kernel_rfl) (valueOf_ok hh hB.le hs hr hv)
theorem spType_sp (hh : Hands ω) (hP : C.P = Tryz.prog) : SpOK ω C 94 spType := by
  intro vs s v s' hv B X m w args hs hr hB
  exact ext_ok hP (ReflectliteValue.methodAny (ReflectliteValue.valueError "reflectlite.Value.Type" 0) (fun t _ _ _ => ReflectliteType.toType t)) Tryz.func94 (by kernel_rfl) (by kernel_rfl) (by kernel_rfl) (by kernel_rfl) (type_ok hh hs hr hv)
theorem spIsNil_sp (hh : Hands ω) (hP : C.P = Tryz.prog) : SpOK ω C 95 spIsNil := by
  intro vs s v s' hv B X m w args hs hr hB
  exact ext_ok hP (ReflectliteValue.method (ReflectliteValue.valueError "reflectlite.Value.IsNil" 0) ReflectliteValue.isNil) Tryz.func95 (by kernel_rfl) (by kernel_rfl) (by kernel_rfl) (by kernel_rfl) (isNil_ok hh hs hr hv)
theorem spVElem_sp (hh : Hands ω) (hP : C.P = Tryz.prog) : SpOK ω C 126 spVElem := by
  intro vs s v s' hv B X m w args hs hr hB
  exact ext_ok hP (ReflectliteValue.method (ReflectliteValue.valueError "reflectlite.Value.Elem" 0) ReflectliteValue.elem) Tryz.func126 (by kernel_rfl) (by kernel_rfl) (by kernel_rfl) (by kernel_rfl) (vElem_ok hh hs hr hv)
theorem spSet_sp (hh : Hands ω) (hP : C.P = Tryz.prog) : SpOK ω C 127 spSet := by
  intro vs s v s' hv B X m w args hs hr hB
  exact ext_ok hP ReflectliteValue.set Tryz.func127 (by kernel_rfl) (by kernel_rfl) (by kernel_rfl) (by kernel_rfl) (set_ok hh hs hr hv)
theorem spKind_sp (hh : Hands ω) (hP : C.P = Tryz.prog) : SpOK ω C 240 spKind := by
  intro vs s v s' hv B X m w args hs hr hB
  exact ext_ok hP (ReflectliteType.abiMethod fun t => do pure (.int .u8 (← Rtype.kind t))) Tryz.func240 (by kernel_rfl) (by kernel_rfl) (by kernel_rfl) (by kernel_rfl) (kind_ok hh hs hr hv)
theorem spRtElem_sp (hh : Hands ω) (hP : C.P = Tryz.prog) : SpOK ω C 253 spRtElem := by
  intro vs s v s' hv B X m w args hs hr hB
  exact ext_ok hP (ReflectliteType.method ReflectliteType.elem) Tryz.func253 (by kernel_rfl) (by kernel_rfl) (by kernel_rfl) (by kernel_rfl) (rtElem_ok hh hs hr hv)
theorem spImplements_sp (hh : Hands ω) (hP : C.P = Tryz.prog) : SpOK ω C 254 spImplements := by
  intro vs s v s' hv B X m w args hs hr hB
  exact ext_ok hP (ReflectliteType.relation "Implements" ReflectliteType.implements_) Tryz.func254 (by kernel_rfl) (by kernel_rfl) (by kernel_rfl) (by kernel_rfl) (implements_ok hh hs hr hv)
theorem spAssign_sp (hh : Hands ω) (hP : C.P = Tryz.prog) : SpOK ω C 251 spAssign := by
  intro vs s v s' hv B X m w args hs hr hB
  exact ext_ok hP (ReflectliteType.relation "AssignableTo" ReflectliteType.assignableTo) Tryz.func251 (by kernel_rfl) (by kernel_rfl) (by kernel_rfl) (by kernel_rfl) (assign_ok hh hs hr hv)
theorem spComparable_sp (hh : Hands ω) (hP : C.P = Tryz.prog) : SpOK ω C 252 spComparable := by
  intro vs s v s' hv B X m w args hs hr hB
  exact ext_ok hP (ReflectliteType.method fun t => do Rtype.noPackHeld "Comparable" t; pure (.bool (← typeInfo t).comparable)) Tryz.func252 (by kernel_rfl) (by kernel_rfl) (by kernel_rfl) (by kernel_rfl) (comparable_ok hh hs hr hv)
theorem spL_ok (hh : Hands ω) (hP : C.P = Tryz.prog) : ∀ p ∈ spL, SpOK ω C p.1 p.2 := by
  intro p hp
  simp only [spL, List.mem_cons, List.not_mem_nil, or_false] at hp
  rcases hp with rfl | rfl | rfl | rfl | rfl | rfl | rfl | rfl | rfl | rfl | rfl
  · exact spTypeOf_sp hh hP
  · exact spValueOf_sp hh hP
  · exact spType_sp hh hP
  · exact spIsNil_sp hh hP
  · exact spVElem_sp hh hP
  · exact spSet_sp hh hP
  · exact spKind_sp hh hP
  · exact spRtElem_sp hh hP
  · exact spImplements_sp hh hP
  · exact spAssign_sp hh hP
  · exact spComparable_sp hh hP
end

set_option maxRecDepth 1000000 in
theorem ceOK (hh : Hands ω) {fs : List Fact} (hf : ∀ f ∈ fs, f.ok ω Tryz.prog) {ls : List (TypeId × Nat × Nat)} (hl : ∀ f ∈ ls, LenOK ω Tryz.prog f) {cnv : TypeId → TypeId → Value → Option Value}
    (hc : ∀ src dst x v, cnv src dst x = some v → ∀ (m : M ω) (x' : Value) (w : World), VRel m x x' → ∃ v', (convert src dst x').run Tryz.prog w = .ok v' w ∧ VRel m v v') (rd : Nat → Bool) : COK ω (CE fs ls cnv rd) :=
  ⟨ctOK spT globT methT_ok hf hl hc rd, mixed, fun g k hk => spFind_ok (Q := SpOK ω (CE fs ls cnv rd)) (spL_ok hh rfl) g k hk⟩
end Go.Proofs.YtenfkghoolegfaaGreatDoor.Ev
