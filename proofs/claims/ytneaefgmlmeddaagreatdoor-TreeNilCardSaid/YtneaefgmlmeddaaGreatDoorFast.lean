/- The interpreter once more, in a form that the kernel runs with less memory; it is the same function. -/
import Derived.Test.YtneaefgmlmeddaaGreatDoorEvb
namespace Go.Proofs.YtneaefgmlmeddaaGreatDoor.Ev
open Go.RowKit
noncomputable section

abbrev OpK := Ctx → T Value → AS → Option (R × AS)
def rMakeFunc (f : Fn) (fs cs : Array Operand) : OpK := match f with
  | .func g => opMakeFunc g fs cs
  | _ => opNone
def rMakeMap (_ : TypeId) (r : Option Operand) : OpK := match r with
  | none => opAl alMakeMap
  | some _ => opNone
def r1 {α : Type} (_ : α) : OpK := opNone
def r2 {α β : Type} (_ : α) (_ : β) : OpK := opNone
def r3 {α β γ : Type} (_ : α) (_ : β) (_ : γ) : OpK := opNone
def r4 {α β γ δ : Type} (_ : α) (_ : β) (_ : γ) (_ : δ) : OpK := opNone
def rAlloc (t : TypeId) : OpK := opAl (alAlloc t)
def rBox (t : TypeId) (x : Operand) : OpK := opAl (alBox t x)
def rBuildSlice (t : TypeId) (n : Nat) (ps : Array (Nat × Operand)) : OpK := opAl (alBuildSlice t n ps)
def rBin (op : BinOp) (t : TypeId) (x y : Operand) (_ : TypeId) : OpK := opBinOp op t x y
def rUn (op : UnOp) (_ : TypeId) (x : Operand) : OpK := opUnOp op x
def rMakeSlice (t : TypeId) (l c : Operand) : OpK := opAl (alMakeSlice t l c)
def rAssert (x : Operand) (_ : TypeId) (t : TypeId) (ok : Bool) : OpK := opTypeAssert x t ok
def aopR (op : Op) : OpK :=
  Op.rec (motive := fun _ => OpK) opMove opMove opPick rAlloc rBox opBuild rBuildSlice opMapUpdate opLoad opStore r1 r1 opNilCheck rBin rUn opConvert r2 opMakeInterface rMakeFunc rMakeMap r2 rMakeSlice opSlice opFieldAddr opField opIndexAddr opIndex opLookup opMapUpdate r3 r4 opRange opNext opEntry rAssert opExtract opCall r1 r1 r1 r2 r3 r2 op
theorem aopR_eq (op : Op) : aopR op = aopK op := by
  cases op
  case makeFunc f _ _ => cases f <;> rfl
  case makeMap _ r => cases r <;> rfl
  all_goals rfl

abbrev ORes := Option (T Value × AS)
abbrev OTail := Fns → Nat → List Oper → List Oper → Option Tmp → T Value → ORes
def aN : OTail := fun _ _ _ _ _ _ => none
def pN (_ : Value) (a : T Value) (s : AS) (ih : Fns) (n : Nat) (all os : List Oper) : ORes := ih.o n all os a s
def pBad (_ : Tmp) (_ : Value) (_ : T Value) (_ : AS) (_ : Fns) (_ : Nat) (_ _ : List Oper) : ORes := none
def pGood (t : Tmp) (v : Value) (a : T Value) (s : AS) (ih : Fns) (n : Nat) (all os : List Oper) : ORes := ih.o n all os (a.put t v) s
def pS (t : Tmp) (v : Value) (a : T Value) (s : AS) (ih : Fns) (n : Nat) (all os : List Oper) : ORes :=
  Bool.rec (motive := fun _ => Tmp → Value → T Value → AS → Fns → Nat → List Oper → List Oper → ORes) pBad pGood (Nat.blt t n) t v a s ih n all os
def oPutR (d : Option Tmp) (v : Value) (a : T Value) (s : AS) (ih : Fns) (n : Nat) (all os : List Oper) : ORes :=
  Option.rec (motive := fun _ => Value → T Value → AS → Fns → Nat → List Oper → List Oper → ORes) pN pS d v a s ih n all os
def rVal (v : Value) (s : AS) (ih : Fns) (n : Nat) (all os : List Oper) (d : Option Tmp) (a : T Value) : ORes := oPutR d v a s ih n all os
def rSkip (s : AS) (ih : Fns) (n : Nat) (all os : List Oper) (d : Option Tmp) (a : T Value) : ORes := oPutR d undef a s ih n all os
def cS (p : Value × AS) (ih : Fns) (n : Nat) (all os : List Oper) (d : Option Tmp) (a : T Value) : ORes := oPutR d p.1 a p.2 ih n all os
def rCall (g : FuncId) (vs : List Value) (s : AS) (ih : Fns) (n : Nat) (all os : List Oper) (d : Option Tmp) (a : T Value) : ORes :=
  Option.rec (motive := fun _ => OTail) aN cS (ih.f g vs s) ih n all os d a
def rRound (l : Nat) (vs : List Value) (s : AS) (ih : Fns) (n : Nat) (all os : List Oper) (d : Option Tmp) (a : T Value) : ORes :=
  Option.rec (motive := fun _ => OTail) aN cS (rdRun ih l vs s) ih n all os d a
def aS (p : R × AS) (ih : Fns) (n : Nat) (all os : List Oper) (d : Option Tmp) (a : T Value) : ORes :=
  R.rec (motive := fun _ => AS → OTail) rVal rSkip rCall rRound p.1 p.2 ih n all os d a
def oActR (r : Option (R × AS)) (ih : Fns) (n : Nat) (all os : List Oper) (d : Option Tmp) (a : T Value) : ORes :=
  Option.rec (motive := fun _ => OTail) aN aS r ih n all os d a
def gN (C : Ctx) (ih : Fns) (n : Nat) (all : List Oper) (o : Oper) (os : List Oper) (a : T Value) (s : AS) : ORes := oActR (aopR o.op C a s) ih n all os o.dst a
def gYes (C : Ctx) (ih : Fns) (n : Nat) (all : List Oper) (o : Oper) (os : List Oper) (a : T Value) (s : AS) : ORes :=
  Bool.rec (motive := fun _ => ORes) (oPutR o.dst undef a s ih n all os) (gN C ih n all o os a s) (wantedB all o a)
def gS (_ : Nat × Bool) (C : Ctx) (ih : Fns) (n : Nat) (all : List Oper) (o : Oper) (os : List Oper) (a : T Value) (s : AS) : ORes :=
  Bool.rec (motive := fun _ => ORes) none (gYes C ih n all o os a s) (guardB all o a)
def oStepR (C : Ctx) (ih : Fns) (n : Nat) (all : List Oper) (o : Oper) (os : List Oper) (a : T Value) (s : AS) : ORes :=
  Option.rec (motive := fun _ => Ctx → Fns → Nat → List Oper → Oper → List Oper → T Value → AS → ORes) gN gS o.guard C ih n all o os a s

theorem oPutR_eq (d : Option Tmp) (v : Value) (a : T Value) (s : AS) (ih : Fns) (n : Nat) (all os : List Oper) : oPutR d v a s ih n all os = oPut ih n all os d v a s := by
  cases d with
  | none => rfl
  | some t =>
    show Bool.rec (motive := fun _ => Tmp → Value → T Value → AS → Fns → Nat → List Oper → List Oper → ORes) pBad pGood (Nat.blt t n) t v a s ih n all os = Option.rec (motive := fun _ => ORes) none (fun a' => ih.o n all os a' s) (Bool.rec (motive := fun _ => Option (T Value)) none (some (a.put t v)) (Nat.blt t n))
    cases Nat.blt t n <;> rfl
theorem oActR_eq (r : Option (R × AS)) (ih : Fns) (n : Nat) (all os : List Oper) (d : Option Tmp) (a : T Value) : oActR r ih n all os d a = oAct ih n all os d a (actRes ih r) := by
  cases r with
  | none => rfl
  | some p =>
    obtain ⟨r, s⟩ := p
    cases r with
    | val v => exact oPutR_eq ..
    | skip => exact oPutR_eq ..
    | call g vs =>
      show Option.rec (motive := fun _ => OTail) aN cS (ih.f g vs s) ih n all os d a = oAct ih n all os d a (ih.f g vs s)
      cases ih.f g vs s with
      | none => rfl
      | some p => exact oPutR_eq ..
    | round l vs =>
      show Option.rec (motive := fun _ => OTail) aN cS (rdRun ih l vs s) ih n all os d a = oAct ih n all os d a (rdRun ih l vs s)
      cases rdRun ih l vs s with
      | none => rfl
      | some p => exact oPutR_eq ..
theorem gN_eq (C : Ctx) (ih : Fns) (n : Nat) (all : List Oper) (o : Oper) (os : List Oper) (a : T Value) (s : AS) : gN C ih n all o os a s = oAct ih n all os o.dst a (actRes ih (aop C o a s)) := by
  unfold gN
  rw [oActR_eq, aopR_eq]
  rfl
theorem oStepR_eq (C : Ctx) (ih : Fns) (n : Nat) (all : List Oper) (o : Oper) (os : List Oper) (a : T Value) (s : AS) : oStepR C ih n all o os a s = oStep C ih n all o os a s := by
  unfold oStepR oStep
  cases hg : o.guard with
  | none =>
    have h1 : guardB all o a = true := by unfold guardB; rw [hg]
    have h2 : wantedB all o a = true := by unfold wantedB; rw [hg]
    rw [h1, h2]
    exact gN_eq ..
  | some g =>
    show gS g C ih n all o os a s = _
    unfold gS gYes
    cases guardB all o a with
    | false => rfl
    | true =>
      cases wantedB all o a with
      | false => exact oPutR_eq ..
      | true => exact gN_eq ..

def eN (_ : Ctx) (_ : Fns) (_ : Nat) (_ : List Oper) (a : T Value) (s : AS) : ORes := some (a, s)
def eC (o : Oper) (os : List Oper) (_ : Ctx → Fns → Nat → List Oper → T Value → AS → ORes) (C : Ctx) (ih : Fns) (n : Nat) (all : List Oper) (a : T Value) (s : AS) : ORes := oStepR C ih n all o os a s
def evOR (C : Ctx) (ih : Fns) (n : Nat) (all os : List Oper) (a : T Value) (s : AS) : ORes :=
  List.rec (motive := fun _ => Ctx → Fns → Nat → List Oper → T Value → AS → ORes) eN eC os C ih n all a s
theorem evOR_eq (C : Ctx) (ih : Fns) (n : Nat) (all os : List Oper) (a : T Value) (s : AS) : evOR C ih n all os a s = evO C ih n all os a s := by
  cases os with
  | nil => rfl
  | cons o os => exact oStepR_eq ..

/-! Code. -/
abbrev CK := Ctx → Fns → Bool → Nat → T Value → AS → KRes
def sN (_ : Code) (_ : Fns) (_ : Bool) (_ : Nat) : KRes := none
def xNormal (t : T Value × AS) (y : Code) (ih : Fns) (q : Bool) (n : Nat) : KRes := ih.c q n y t.1 t.2
def xExit (id : Nat) (t : T Value × AS) (_ : Code) (_ : Fns) (_ : Bool) (_ : Nat) : KRes := some (.exit id, t)
def xRet (t : T Value × AS) (_ : Code) (_ : Fns) (_ : Bool) (_ : Nat) : KRes := some (.ret, t)
def sS (p : Xt × T Value × AS) (y : Code) (ih : Fns) (q : Bool) (n : Nat) : KRes :=
  Xt.rec (motive := fun _ => T Value × AS → Code → Fns → Bool → Nat → KRes) xNormal xExit xRet p.1 p.2 y ih q n
def thenR (r : KRes) (y : Code) (ih : Fns) (q : Bool) (n : Nat) : KRes := Option.rec (motive := fun _ => Code → Fns → Bool → Nat → KRes) sN sS r y ih q n
def kSeqR (x y : Code) (_ _ : CK) (_ : Ctx) (ih : Fns) (q : Bool) (n : Nat) (a : T Value) (s : AS) : KRes := thenR (ih.c q n x a s) y ih q n
def kLoopR (b : Code) (_ : CK) (_ : Ctx) (ih : Fns) (q : Bool) (n : Nat) (a : T Value) (s : AS) : KRes := thenR (ih.c q n b a s) (.loop b) ih q n
def kCondR (x : Operand) (t e : Code) (_ _ : CK) : CK := kCond x t e
def kBlockR (id : Nat) (b : Code) (_ : CK) : CK := kBlock id b
def kRangeR (g : Operand) (ps : Array Tmp) (asg bd : Code) (_ _ : CK) : CK := kRange g ps asg bd
def kRegionR (_ : Nat) (ops : Array Oper) (b : Bool) : CK := Bool.rec (motive := fun _ => Array Oper → CK) kRegion kDrawn b ops
def kScopeR (_ : Code) (_ : CK) : CK := kNone
def kLabelR (_ : Nat) : CK := kSkip
def kGotoR (_ : Nat) : CK := kNone
def kRefuseR (_ : String) : CK := kNone
def evKR (c : Code) : CK :=
  Code.rec (motive := fun _ => CK) kSkip kRegionR kSeqR kCondR kBlockR kLoopR kRangeR kExit kScopeR kLabelR kGotoR kRet kRefuseR c
theorem thenR_eq (r : KRes) (y : Code) (ih : Fns) (q : Bool) (n : Nat) : thenR r y ih q n = (match r with
  | some (.normal, a', s') => ih.c q n y a' s'
  | r => r) := by
  cases r with
  | none => rfl
  | some p =>
    obtain ⟨x, a, s⟩ := p
    cases x <;> rfl
theorem evKR_eq (c : Code) (C : Ctx) (ih : Fns) (q : Bool) (n : Nat) (a : T Value) (s : AS) : evKR c C ih q n a s = evK c C ih q n a s := by
  cases c
  case region id ops b => cases b <;> rfl
  case seq x y => exact thenR_eq ..
  case loop b => exact thenR_eq ..
  all_goals rfl

def evR (C : Ctx) (fuel : Nat) : Fns :=
  Nat.rec (motive := fun _ => Fns) ⟨fun _ _ _ _ _ => none, fun _ _ _ _ _ => none, fun _ _ _ _ _ _ => none, fun _ _ _ => none⟩ (fun _ ih => ⟨fun q n c a s => evKR c C ih q n a s, evOR C ih, evD C ih, evF C ih⟩) fuel
theorem evR_eq (C : Ctx) : ∀ fuel, evR C fuel = ev C fuel
  | 0 => rfl
  | k + 1 => by
    have ih := evR_eq C k
    show (⟨fun q n c a s => evKR c C (evR C k) q n a s, evOR C (evR C k), evD C (evR C k), evF C (evR C k)⟩ : Fns) = ⟨evC C (ev C k), evO C (ev C k), evD C (ev C k), evF C (ev C k)⟩
    rw [ih]
    congr 1
    · funext q n c a s; exact evKR_eq ..
    · funext n all os a s; exact evOR_eq ..
end
end Go.Proofs.YtneaefgmlmeddaaGreatDoor.Ev
