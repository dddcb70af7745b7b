/- An interpreter over an abstract memory, part b: what it does. -/
import Derived.Test.YtenfkghoolegfaaGreatDoorEva
set_option linter.unusedVariables false
namespace Go.Proofs.YtenfkghoolegfaaGreatDoor.Ev
open Go.RowKit
variable {ω : Nat → Value}
noncomputable section

/-- A closed value's cells hold no address. -/
def closedV : Value → Bool
  | .agg cs => cs.toList.all plainV
  | .iface _ v => plainV v
  | v => plainV v

structure Ctx where
  P : Program
  fn : FuncId → Option Func
  ty : TypeId → Option TypeInfo
  un : TypeId → Option TypeDesc
  sp : FuncId → Option (List Value → AS → Option (Value × AS))
  glob : Nat → Option Value
  meth : TypeId → String → Value → Option (FuncId × Value)
  bin : BinOp → TypeId → Value → Value → Option Value
  len : TypeId → Value → Option Value
  cnv : TypeId → TypeId → Value → Option Value
  rd : Nat → Bool
  iv : Nat → Option (Array Value)

/-- What an operation comes to. -/
inductive R where
  | val (v : Value)
  | skip
  | call (f : FuncId) (args : List Value)
  | round (b : Nat) (args : List Value)

def pureRun (P : Program) {α : Type} : Sem α → Option α
  | .pure a => some a
  | .program k => pureRun P (k P)
  | _ => none

def orUndef (o : Option Value) : Option Value := Option.rec (motive := fun _ => Option Value) (some undef) (fun v => some v) o
def opConst (v : Value) : Option Value := Bool.rec (motive := fun _ => Option Value) none (some v) (closedV v)
def opnd (a : T Value) (x : Operand) : Option Value :=
  Operand.rec (motive := fun _ => Option Value) (fun t => orUndef (a.get t)) opConst (fun _ => none) (fun f => some (.func (.func f) #[] #[])) x

def opnds (a : T Value) : List Operand → Option (List Value)
  | [] => some []
  | x :: xs => match opnd a x, opnds a xs with
    | some v, some vs => some (v :: vs)
    | _, _ => none

def cellsOf : Value → List Value
  | .agg cs => cs.toList
  | v => [v]

/-- A new block of cells. -/
def newBlk (s : AS) (l : List Value) (n : Nat) (e : TypeId) (z : Nat) (opn str : Bool) : Nat × AS :=
  (s.n, ⟨s.n + 1, s.h.put s.n (.cells ⟨T.ofList l 0 .leaf, n, e, z, opn, str⟩)⟩)

def blkAt (s : AS) (b : Nat) : Option Blk := match s.h.get b with
  | some (.cells k) => some k
  | _ => none

def readN (s : AS) (a : Addr) (n : Nat) : Option (List Value) :=
  match a.spot, blkAt s a.block with
  | none, some k => cond (Nat.ble (a.off + n) k.len) (k.c.range a.off n) none
  | _, _ => none

def writeL (s : AS) (a : Addr) (l : List Value) : Option AS :=
  match a.spot, blkAt s a.block with
  | none, some k => cond (Nat.ble (a.off + l.length) k.len && l.all oneV) (some ⟨s.n, s.h.put a.block (.cells { k with c := T.ofList l a.off k.c })⟩) none
  | _, _ => none

def tupB : Value → Bool
  | .tuple _ => true
  | _ => false
def zeroC (C : Ctx) (t : TypeId) : Option (List Value) := match C.ty t with
  | some i => match i.zero with
    | some z => cond (tupB z) none (some (cellsOf z))
    | none => none
  | none => none

def isAggD : TypeDesc → Bool
  | .struct _ | .array _ _ => true
  | _ => false

def isAggT (C : Ctx) (t : TypeId) : Option Bool := match C.un t with
  | some d => some (isAggD d)
  | none => none

def sizeT (C : Ctx) (t : TypeId) : Option Nat := match C.ty t with
  | some i => some i.size
  | none => none

def fillL (place : Nat → Option (Nat × Nat)) : T Value → Nat → List (Nat × Value) → Option (T Value)
  | t, _, [] => some t
  | t, n, (i, v) :: rest => match place i with
    | none => none
    | some (off, size) => cond (Nat.beq (cellsOf v).length size && Nat.ble (off + (cellsOf v).length) n) (fillL place (T.ofList (cellsOf v) off t) n rest) none

def parts (a : T Value) : List (Nat × Operand) → Option (List (Nat × Value))
  | [] => some []
  | (i, x) :: xs => match opnd a x, parts a xs with
    | some v, some vs => some ((i, v) :: vs)
    | _, _ => none

def repL : Nat → List Value → List Value
  | 0, _ => []
  | n + 1, l => l ++ repL n l

def fieldAt (fs : List Field) (i : Nat) : Option Field := fs[i]?

def bound (v : Value) : Option Int := match v with
  | .int _ n => some n
  | _ => none

def bnd (a : T Value) : Option Operand → Option (Option Int)
  | none => some none
  | some x => match opnd a x with
    | some (.int _ n) => some (some n)
    | _ => none

def chk (v : Int) (y : Nat) : Option Nat := if 0 ≤ v ∧ v ≤ y then some v.toNat else none
def cutLo (h m : Nat) : Option Int → Option (Nat × Nat × Nat)
  | none => some (0, h, m)
  | some v => match chk v h with
    | some i => some (i, h, m)
    | none => none
def cutHi (n m : Nat) (lo : Option Int) : Option Int → Option (Nat × Nat × Nat)
  | none => cutLo n m lo
  | some v => match chk v m with
    | some h => cutLo h m lo
    | none => none
/-- x[lo:hi:max] of a row of n places that has c. -/
def cut (n c : Nat) (lo hi : Option Int) : Option Int → Option (Nat × Nat × Nat)
  | none => cutHi n c lo hi
  | some v => match chk v c, hi with
    | some m, some u => cutHi 0 m lo (some u)
    | _, _ => none

/-- The cells of what is appended. -/
def srcCells (s : AS) (size : Nat) : Value → Option (Nat × List Value)
  | .slice none 0 0 => some (0, [])
  | .slice (some a) n _ => match readN s a (n * size) with
    | some l => some (n, l)
    | none => none
  | .string b => some (b.size, b.data.toList.map fun x => .int .u8 x.toNat)
  | _ => none

def grown (s : AS) (l : List Value) (n : Nat) (e : TypeId) (z : Nat) : Option (R × AS) :=
  let (b, s') := newBlk s l l.length e z true false
  some (.val (.slice (some ⟨b, 0, none⟩) n n), s')

def hasZero (ti : TypeInfo) : Bool := match ti.zero with
  | some z => !tupB z
  | none => false

/-- append onto a slice that has an address. -/
def appendAt (s : AS) (a : Addr) (n c m size : Nat) (e : TypeId) (new : List Value) : Option (R × AS) :=
  cond (Nat.ble (n + m) c)
    (match writeL s ⟨a.block, a.off + n * size, a.spot⟩ new with
     | some s' => some (.val (.slice (some a) (n + m) c), s')
     | none => none)
    (match readN s a (n * size), blkAt s a.block with
     | some old, some k => cond k.opn
       (cond (Nat.beq k.esz size)
         (cond (Nat.beq (a.off + c * size) k.len)
           (cond (Nat.beq k.elem e) (grown ⟨s.n, s.h.put a.block .dead⟩ (old ++ new) (n + m) e size) none)
           (grown s (old ++ new) (n + m) e size))
         none)
       (grown s (old ++ new) (n + m) e size)
     | _, _ => none)

def isSlV : Value → Bool
  | .slice _ _ _ => true
  | _ => false
def appSrc (C : Ctx) (e : TypeId) (size : Nat) (dx : TypeDesc) (y : Value) (s : AS) : Option (Nat × List Value) :=
  match dx with
  | .int _ => (match y, zeroC C e with
    | .int _ k, some z => if 0 ≤ k ∧ k ≤ 1000000 then some (k.toNat, repL k.toNat z) else none
    | _, _ => none)
  | .slice _ => cond (isSlV y) (srcCells s size y) none
  | .string => cond (Nat.beq size 1) (srcCells s size y) none
  | _ => none
def appendTo (s : AS) (x : Value) (m size : Nat) (e : TypeId) (new : List Value) : Option (R × AS) :=
  match x with
  | .slice none 0 0 => cond (Nat.beq m 0) (some (.val x, s)) (cond (Nat.ble m 1000000) (grown s new m e size) none)
  | .slice (some a) n c => cond (Nat.ble (n + m) 1000000) (appendAt s a n c m size e new) none
  | _ => none
/-- A slice without places, of a block without room. -/
def emptyV (s : AS) : Value → Bool
  | .slice (some a) 0 0 => match blkAt s a.block with
    | some q => !q.opn
    | none => false
  | _ => false
/-- append of what came in onto a slice without places: nothing is known of it. -/
def appendTok (C : Ctx) (t tx : TypeId) (x : Value) (k : Nat) (s : AS) : Option (R × AS) :=
  match C.un t, C.un tx with
  | some (.slice e), some (.slice _) => match C.ty e with
    | some ti => cond (C.rd k && (emptyV s x && (Nat.beq ti.size 1 && (Nat.ble ti.bytes 1000000 && hasZero ti)))) (match C.len tx (.chan (some k)) with
      | some (.int .i64 (.ofNat n)) => appendTo s x n ti.size e (repL n [.chan none])
      | _ => some (.val (.chan none), s)) none
    | none => none
  | _, _ => none
def appendV (C : Ctx) (t tx : TypeId) (x y : Value) (s : AS) : Option (R × AS) :=
  match C.un t with
  | some (.slice e) => match C.ty e, C.un tx with
    | some ti, some dx => cond (Nat.ble ti.bytes 1000000) (match appSrc C e ti.size dx y s with
      | some (m, new) => cond (new.all oneV && hasZero ti) (appendTo s x m ti.size e new) none
      | none => none) none
    | _, _ => none
  | _ => none

def findE (k : Value) : List MapEntry → Nat → Option (Nat × Value)
  | [], _ => none
  | e :: es, i => match Instr.sameNow .string k e.key with
    | some true => some (i, e.val)
    | _ => findE k es (i + 1)

def plainKey (d : TypeDesc) : Value → Bool
  | .int _ _ => match d with | .int _ => true | _ => false
  | .string _ => match d with | .string => true | _ => false
  | .bool _ => match d with | .bool => true | _ => false
  | _ => false

def findK (d : TypeDesc) (k : Value) (es : List MapEntry) : Option (Option (Nat × Value)) := Instr.findNow d k es 0

def addrOf : Value → Option Addr
  | .pointer (some a) => some a
  | _ => none

/-- Equality of values that may bear addresses, at a type. none: not known. -/
def eqV (C : Ctx) (t : TypeId) (x y : Value) : Option Bool :=
  match C.un t with
  | some (.pointer e) => (match x, y with
    | .pointer none, .pointer (some _) => some false
    | .pointer (some _), .pointer none => some false
    | .pointer (some a), .pointer (some b) => cond (Nat.beq a.block b.block && Nat.beq a.off b.off) (match sizeT C e with | some _ => some true | none => none) none
    | _, _ => none)
  | some (.slice _) => (match x, y with
    | .slice none 0 0, .slice (some _) _ _ => some false
    | .slice (some _) _ _, .slice none 0 0 => some false
    | _, _ => none)
  | some (.map _ _) => (match x, y with
    | .map none, .map (some _) => some false
    | .map (some _), .map none => some false
    | _, _ => none)
  | some (.interface _) => (match x, y with
    | .nilIface, .iface _ _ => some false
    | .iface _ _, .nilIface => some false
    | .iface p _, .iface q _ => cond (Nat.beq p q) none (some false)
    | _, _ => none)
  | some (.func _ _ _) => (match x, y with
    | .nilFunc, .func _ _ _ => some false
    | .func _ _ _, .nilFunc => some false
    | _, _ => none)
  | _ => none

/-- The modulus of a kind of unsigned numbers, and the half of a signed one. -/
def modK (k : IntKind) : Nat := IntKind.casesOn k 256 65536 4294967296 18446744073709551616 256 65536 4294967296 18446744073709551616
def topK (k : IntKind) : Nat := IntKind.casesOn k 128 32768 2147483648 9223372036854775808 256 65536 4294967296 18446744073709551616
def sgnK (k : IntKind) : Bool := IntKind.casesOn k true true true true false false false false

/-- A natural number, wrapped. -/
def wrapN (k : IntKind) (n : Nat) : Int := cond (Nat.blt n (topK k)) (.ofNat n) (cond (sgnK k) (k.wrap n) (.ofNat (Nat.mod n (modK k))))

def addF (k : IntKind) (a b : Nat) : Option Value := some (.int k (wrapN k (a + b)))
def subF (k : IntKind) (a b : Nat) : Option Value := some (.int k (cond (Nat.ble b a) (wrapN k (a - b)) (cond (sgnK k) (k.wrap (Int.negSucc (b - a - 1))) (.ofNat (Nat.mod (Nat.mul (modK k) b + a - b) (modK k))))))
def mulF (k : IntKind) (a b : Nat) : Option Value := some (.int k (wrapN k (a * b)))
def quoF (k : IntKind) (a b : Nat) : Option Value := cond (Nat.beq b 0) none (some (.int k (wrapN k (Nat.div a b))))
def remF (k : IntKind) (a b : Nat) : Option Value := cond (Nat.beq b 0) none (some (.int k (.ofNat (Nat.mod a b))))
def smallK (k : IntKind) (a b : Nat) (v : Option Value) : Option Value := cond (Nat.blt a (topK k)) (cond (Nat.blt b (topK k)) v none) none
def andF (k : IntKind) (a b : Nat) : Option Value := smallK k a b (some (.int k (.ofNat (Nat.land a b))))
def orF (k : IntKind) (a b : Nat) : Option Value := smallK k a b (some (.int k (.ofNat (Nat.lor a b))))
def xorF (k : IntKind) (a b : Nat) : Option Value := smallK k a b (some (.int k (.ofNat (Nat.xor a b))))
def eqlF (_ : IntKind) (a b : Nat) : Option Value := some (.bool (Nat.beq a b))
def neqF (_ : IntKind) (a b : Nat) : Option Value := some (.bool (Bool.not (Nat.beq a b)))
def lssF (_ : IntKind) (a b : Nat) : Option Value := some (.bool (Nat.blt a b))
def leqF (_ : IntKind) (a b : Nat) : Option Value := some (.bool (Nat.ble a b))
def gtrF (_ : IntKind) (a b : Nat) : Option Value := some (.bool (Nat.blt b a))
def geqF (_ : IntKind) (a b : Nat) : Option Value := some (.bool (Nat.ble b a))
def noF (_ : IntKind) (_ _ : Nat) : Option Value := none
/-- An operator on two natural numbers of one kind. -/
def opF (op : BinOp) : IntKind → Nat → Nat → Option Value :=
  BinOp.casesOn op addF subF mulF quoF remF andF orF xorF noF noF noF eqlF neqF lssF leqF gtrF geqF

def shlF (k : IntKind) (a n : Nat) : Option Value := some (.int k (wrapN k (Nat.mul a (Nat.pow 2 (Nat.min n k.bits)))))
def shrF (k : IntKind) (a n : Nat) : Option Value := some (.int k (.ofNat (Nat.div a (Nat.pow 2 (Nat.min n k.bits)))))
def shF (op : BinOp) : IntKind → Nat → Nat → Option Value :=
  BinOp.casesOn op noF noF noF noF noF noF noF noF shlF shrF noF noF noF noF noF noF noF
def isShift (op : BinOp) : Bool := BinOp.casesOn op false false false false false false false false true true false false false false false false false

def slowBin (C : Ctx) (op : BinOp) (t : TypeId) (ox oy : Operand) (x y : Value) : Option Value :=
  match pureRun C.P (do eqGuard op t ox oy x y; binOp op t x y) with
  | some v => cond (plainV v) (some v) none
  | none => none

def eqBin (C : Ctx) (op : BinOp) (t : TypeId) (x y : Value) : Option Value :=
  match eqV C t x y with
  | some b => BinOp.casesOn op none none none none none none none none none none none (some (.bool b)) (some (.bool (Bool.not b))) none none none none
  | none => none

/-- What is known of values that came in. -/
def eqBin2 (C : Ctx) (op : BinOp) (t : TypeId) (x y : Value) : Option Value :=
  match eqBin C op t x y with
  | some v => some v
  | none => C.bin op t x y

def genBin (C : Ctx) (op : BinOp) (t : TypeId) (ox oy : Operand) (x y : Value) : Option Value :=
  cond (closedV x) (cond (closedV y) (slowBin C op t ox oy x y) (eqBin2 C op t x y)) (eqBin2 C op t x y)

def kindEq (j k : IntKind) : Bool := decide (j = k)

def intBin (C : Ctx) (op : BinOp) (t : TypeId) (ox oy : Operand) (k : IntKind) (a : Nat) (y : Value) : Option Value :=
  match y with
  | .int k' (.ofNat b) => cond (isShift op) (shF op k a b) (cond (kindEq k k') (match opF op k a b with
    | some v => some v
    | none => genBin C op t ox oy (.int k (.ofNat a)) y) none)
  | _ => genBin C op t ox oy (.int k (.ofNat a)) y

def binV (C : Ctx) (op : BinOp) (t : TypeId) (ox oy : Operand) (x y : Value) : Option Value :=
  match x with
  | .int k (.ofNat a) => intBin C op t ox oy k a y
  | _ => genBin C op t ox oy x y

def bytesOf : List Value → Option (List UInt8)
  | [] => some []
  | .int .u8 n :: r => match bytesOf r with
    | some l => some (UInt8.ofNat n.toNat :: l)
    | none => none
  | _ => none

def convInt (k : IntKind) (x : Value) (s : AS) : Option (Value × AS) :=
  match x with
  | .int _ (.ofNat m) => some (.int k (wrapN k m), s)
  | .int _ (.negSucc m) => some (.int k (k.wrap (.negSucc m)), s)
  | _ => none
def isU8 : Option TypeDesc → Bool
  | some (.int .u8) => true
  | _ => false
def convStr (C : Ctx) (d : TypeDesc) (x : Value) (s : AS) : Option (Value × AS) :=
  match x, d with
  | .string b, _ => some (.string b, s)
  | .slice none 0 0, .slice e => cond (isU8 (C.un e)) (some (.string .empty, s)) none
  | .slice (some a) n _, .slice e => cond (isU8 (C.un e)) (match readN s a n with
    | some l => match bytesOf l with
      | some bs => some (.string ⟨bs.toArray⟩, s)
      | none => none
    | none => none) none
  | _, _ => none
def convSl (C : Ctx) (d : TypeDesc) (e : TypeId) (same : Bool) (x : Value) (s : AS) : Option (Value × AS) :=
  match x, d with
  | .slice (some a) n c, .slice _ => cond (same && isU8 (C.un e) && Nat.blt 0 c) (match blkAt s a.block with
    | some k => cond (Nat.beq k.elem noMark) none (some (.slice (some a) n c, s))
    | none => none) none
  | _, _ => none
def convTok (C : Ctx) (src dst : TypeId) (x : Value) (s : AS) : Option (Value × AS) :=
  match C.cnv src dst x with
  | some v => some (v, s)
  | none => none
def isChan : Value → Bool
  | .chan _ => true
  | _ => false
def convV (C : Ctx) (src dst : TypeId) (x : Value) (s : AS) : Option (Value × AS) :=
  cond (isChan x) (convTok C src dst x s) (match C.un src with
  | some d => match C.un dst with
    | some (.int k) => convInt k x s
    | some .string => convStr C d x s
    | some (.slice e) => convSl C d e (Nat.beq src dst) x s
    | _ => none
  | none => none)

def biAppend (C : Ctx) (ts : List TypeId) (vs : List Value) (s : AS) : Option (R × AS) :=
  match ts, vs with
  | [t, tx], [x, .chan (some k)] => appendTok C t tx x k s
  | [t, tx], [x, y] => appendV C t tx x y s
  | _, _ => none
def lenTok (C : Ctx) (t : TypeId) (x : Value) (s : AS) : Option (R × AS) :=
  match C.len t x with
  | some v => some (.val v, s)
  | none => none
def biLen (C : Ctx) (ts : List TypeId) (vs : List Value) (s : AS) : Option (R × AS) :=
  match ts, vs with
  | [t], [.chan k] => lenTok C t (.chan k) s
  | [t], [x] => match C.un t with
    | some (.slice _) => match x with
      | .slice _ n _ => some (.val (.int .i64 n), s)
      | _ => none
    | some .string => match x with
      | .string b => some (.val (.int .i64 b.size), s)
      | _ => none
    | some (.map _ _) => match x with
      | .map none => some (.val (.int .i64 0), s)
      | .map (some r) => match s.h.get r with
        | some (.map es _) => some (.val (.int .i64 es.length), s)
        | _ => none
      | _ => none
    | some (.array n _) => some (.val (.int .i64 n), s)
    | some (.pointer e) => match C.un e with
      | some (.array n _) => some (.val (.int .i64 n), s)
      | _ => none
    | _ => none
  | _, _ => none
def biCap (C : Ctx) (ts : List TypeId) (vs : List Value) (s : AS) : Option (R × AS) :=
  match ts, vs with
  | [t], [x] => match C.un t with
    | some (.slice e) => match x with
      | .slice none 0 0 => some (.val (.int .i64 0), s)
      | .slice (some a) _ c => match blkAt s a.block, sizeT C e with
        | some k, some size => cond k.opn (cond (Nat.beq k.esz size) (cond (Nat.beq (a.off + c * size) k.len) none (some (.val (.int .i64 c), s))) none) (some (.val (.int .i64 c), s))
        | _, _ => none
      | _ => none
    | _ => none
  | _, _ => none
def copyTo (s : AS) (a : Addr) (n size : Nat) (y : Value) : Option (R × AS) :=
  match y with
  | .slice none 0 0 => some (.val (.int .i64 0), s)
  | .slice (some b) m _ => match readN s b (Nat.min m n * size) with
    | some l => match writeL s a l with
      | some s' => some (.val (.int .i64 (Nat.min m n)), s')
      | none => none
    | none => none
  | .string q => match writeL s a ((q.data.toList.take (Nat.min q.size n)).map fun x => .int .u8 x.toNat) with
    | some s' => some (.val (.int .i64 (Nat.min q.size n)), s')
    | none => none
  | _ => none
def copyNil (s : AS) (y : Value) : Option (R × AS) :=
  match y with
  | .slice _ _ _ => some (.val (.int .i64 0), s)
  | .string _ => some (.val (.int .i64 0), s)
  | _ => none
def biCopy (C : Ctx) (ts : List TypeId) (vs : List Value) (s : AS) : Option (R × AS) :=
  match ts, vs with
  | [t, _], [x, y] => match C.un t with
    | some (.slice e) => match sizeT C e with
      | some size => match x with
        | .slice none 0 0 => copyNil s y
        | .slice (some a) n _ => copyTo s a n size y
        | _ => none
      | none => none
    | _ => none
  | _, _ => none
def biDelete (C : Ctx) (ts : List TypeId) (vs : List Value) (s : AS) : Option (R × AS) :=
  match ts, vs with
  | [t, _], [.map (some r), k] => match C.un t, s.h.get r with
    | some (.map kt _), some (.map es clock) => match C.un kt with
      | some d => cond (plainKey d k) (match findK d k es with
        | some (some (i, _)) => some (.val (.tuple #[]), ⟨s.n, s.h.put r (.map (es.eraseIdx i) clock)⟩)
        | some none => some (.val (.tuple #[]), ⟨s.n, s.h.put r (.map es clock)⟩)
        | none => none) none
      | none => none
    | _, _ => none
  | _, _ => none
def biClear (C : Ctx) (ts : List TypeId) (vs : List Value) (s : AS) : Option (R × AS) :=
  match ts, vs with
  | [t], [.slice (some a) n _] => match C.un t with
    | some (.slice e) => match zeroC C e with
      | some z => cond (Nat.beq n 0) (some (.val (.tuple #[]), s)) (match writeL s a (repL n z) with
        | some s' => some (.val (.tuple #[]), s')
        | none => none)
      | none => none
    | _ => none
  | [t], [.slice none 0 0] => match C.un t with
    | some (.slice _) => some (.val (.tuple #[]), s)
    | _ => none
  | _, _ => none
def biMinmax (b : Builtin) (C : Ctx) (ts : List TypeId) (vs : List Value) (s : AS) : Option (R × AS) :=
  cond (vs.all plainV) (match pureRun C.P (builtin b ts.toArray 0 #[] vs.toArray) with
    | some (.value v) => cond (plainV v) (some (.val v, s)) none
    | _ => none) none
def biNone (_ : Ctx) (_ : List TypeId) (_ : List Value) (_ : AS) : Option (R × AS) := none
def builtinK (b : Builtin) : Ctx → List TypeId → List Value → AS → Option (R × AS) :=
  match b with
  | .append => biAppend
  | .len => biLen
  | .cap => biCap
  | .copy => biCopy
  | .delete => biDelete
  | .clear => biClear
  | .min => biMinmax .min
  | .max => biMinmax .max
  | _ => biNone
def builtinV (C : Ctx) (b : Builtin) (ts : List TypeId) (vs : List Value) (s : AS) : Option (R × AS) := builtinK b C ts vs s

/-! One operation. -/
def opMove (x : Operand) (_ : Ctx) (a : T Value) (s : AS) : Option (R × AS) :=
  Option.rec (motive := fun _ => Option (R × AS)) none (fun v => some (.val v, s)) (opnd a x)

def opPick (c x y : Operand) (C : Ctx) (a : T Value) (s : AS) : Option (R × AS) :=
  match opnd a c, opnd a x, opnd a y with
    | some (.bool b), some v, some u => some (.val (cond b v u), s)
    | _, _, _ => none

/-- What an allocating operation makes: the object; the value, over the block's number. -/
abbrev Al := AObj × (Nat → Value)
def ptrV (b : Nat) : Value := .pointer (some ⟨b, 0, none⟩)
def slV (n k b : Nat) : Value := .slice (some ⟨b, 0, none⟩) n k
def mapV (b : Nat) : Value := .map (some b)
def blkOf (l : List Value) (e : TypeId) (z : Nat) (opn str : Bool) : AObj := .cells ⟨T.ofList l 0 .leaf, l.length, e, z, opn, str⟩
def doAl (s : AS) (r : Option Al) : Option (R × AS) :=
  match r with
  | some (o, f) => some (.val (f s.n), ⟨s.n + 1, s.h.put s.n o⟩)
  | none => none
def alAlloc (t : TypeId) (C : Ctx) (_ : T Value) : Option Al :=
  match zeroC C t with
  | some l => some (blkOf l t 0 false false, ptrV)
  | none => none
def alBox (t : TypeId) (x : Operand) (_ : Ctx) (a : T Value) : Option Al :=
  match opnd a x with
  | some v => some (blkOf (cellsOf v) t 0 false false, ptrV)
  | none => none
def alBuildSlice (t : TypeId) (n : Nat) (ps : Array (Nat × Operand)) (C : Ctx) (a : T Value) : Option Al :=
  match C.un t, parts a ps.toList with
    | some (.slice e), some l => match sizeT C e, zeroC C e with
      | some sz, some z => match cond (Nat.ble (n * sz) 16777216) (fillL (fun i => some (i * sz, sz)) (T.ofList (repL n z) 0 .leaf) (n * sz) l) none with
        | some t' => some (.cells ⟨t', n * sz, e, 0, false, false⟩, slV n n)
        | none => none
      | _, _ => none
    | _, _ => none
def alMakeMap (_ : Ctx) (_ : T Value) : Option Al := some (.map [] 0, mapV)
def alMakeSlice (t : TypeId) (l c : Operand) (C : Ctx) (a : T Value) : Option Al :=
  match C.un t, opnd a l, opnd a c with
    | some (.slice e), some (.int _ n), some (.int _ k) => match C.ty e, zeroC C e with
      | some ti, some z => if 0 ≤ n ∧ n ≤ k ∧ k ≤ 1000000 ∧ ti.bytes ≤ 1000000 then
          some (blkOf (repL k.toNat z) e 0 false false, slV n.toNat k.toNat)
        else none
      | _, _ => none
    | _, _, _ => none
def alConv (src dst : TypeId) (x : Operand) (C : Ctx) (a : T Value) : Option Al :=
  match C.un src, C.un dst, opnd a x with
  | some .string, some (.slice e), some (.string b) => cond (isU8 (C.un e) && !Nat.beq e noMark) (some (blkOf (b.data.toList.map fun x => .int .u8 x.toNat) e 1 true true, slV b.size b.size)) none
  | _, _, _ => none
def alNone (_ : Ctx) (_ : T Value) : Option Al := none
def alOf (op : Op) : Ctx → T Value → Option Al :=
  match op with
  | .alloc t => alAlloc t
  | .box t x => alBox t x
  | .buildSlice t n ps => alBuildSlice t n ps
  | .makeMap _ none => alMakeMap
  | .makeSlice t l c => alMakeSlice t l c
  | .convert src dst x => alConv src dst x
  | _ => alNone

def opBuild (t : TypeId) (ps : Array (Nat × Operand)) (C : Ctx) (a : T Value) (s : AS) : Option (R × AS) :=
  match zeroC C t, C.un t, parts a ps.toList with
    | some z, some (.struct fs), some l =>
      match fillL (fun i => match fieldAt fs.toList i with | some f => (match sizeT C f.type with | some n => some (f.offset, n) | none => none) | none => none) (T.ofList z 0 .leaf) z.length l with
      | some t' => match t'.range 0 z.length with
        | some cs => some (.val (.agg cs.toArray), s)
        | none => none
      | none => none
    | some z, some (.array _ e), some l => match sizeT C e with
      | some n => match fillL (fun i => some (i * n, n)) (T.ofList z 0 .leaf) z.length l with
        | some t' => match t'.range 0 z.length with
          | some cs => some (.val (.agg cs.toArray), s)
          | none => none
        | none => none
      | none => none
    | _, _, _ => none

def loadG (t : TypeId) (g : Nat) (C : Ctx) (s : AS) : Option (R × AS) :=
  match isAggT C t, C.glob g with
  | some false, some v => some (.val v, s)
  | _, _ => none
def loadX (t : TypeId) (x : Operand) (C : Ctx) (a : T Value) (s : AS) : Option (R × AS) :=
  match opnd a x with
    | some (.pointer (some p)) => match isAggT C t, sizeT C t with
      | some true, some n => match readN s p n with
        | some l => some (.val (.agg l.toArray), s)
        | none => none
      | some false, _ => match readN s p 1 with
        | some [v] => some (.val v, s)
        | _ => none
      | _, _ => none
    | _ => none

def isGlob : Operand → Option Nat
  | .global g => some g
  | _ => none
def opLoad (t : TypeId) (x : Operand) (C : Ctx) (a : T Value) (s : AS) : Option (R × AS) :=
  match isGlob x with
  | some g => loadG t g C s
  | none => loadX t x C a s

def opStore (t : TypeId) (x y : Operand) (C : Ctx) (a : T Value) (s : AS) : Option (R × AS) :=
  match opnd a x, opnd a y with
    | some (.pointer (some p)), some v => match sizeT C t with
      | some n => cond (Nat.beq (cellsOf v).length n) (match writeL s p (cellsOf v) with
        | some s' => some (.skip, s')
        | none => none) none
      | none => none
    | _, _ => none

def opNilCheck (x : Operand) (C : Ctx) (a : T Value) (s : AS) : Option (R × AS) :=
  match opnd a x with
    | some (.pointer (some p)) => some (.val (.pointer (some p)), s)
    | some (.iface t v) => some (.val (.iface t v), s)
    | some (.func (.func f) fs cs) => some (.val (.func (.func f) fs cs), s)
    | some (.slice p n c) => some (.val (.slice p n c), s)
    | some (.map r) => some (.val (.map r), s)
    | _ => none

def opBinOp (op : BinOp) (t : TypeId) (x y : Operand) (C : Ctx) (a : T Value) (s : AS) : Option (R × AS) :=
  match opnd a x, opnd a y with
    | some u, some v => match binV C op t x y u v with
      | some r => some (.val r, s)
      | none => none
    | _, _ => none

def opUnOp (op : UnOp) (x : Operand) (C : Ctx) (a : T Value) (s : AS) : Option (R × AS) :=
  match opnd a x with
    | some v => cond (plainV v) (match pureRun C.P (Op.unary op v) with
      | some r => cond (plainV r) (some (.val r, s)) none
      | none => none) none
    | none => none

def opConv2 (src dst : TypeId) (x : Operand) (C : Ctx) (a : T Value) (s : AS) : Option (R × AS) :=
  match opnd a x with
    | some v => match convV C src dst v s with
      | some (r, s') => some (.val r, s')
      | none => none
    | none => none
def opConvert (src dst : TypeId) (x : Operand) (C : Ctx) (a : T Value) (s : AS) : Option (R × AS) :=
  match alConv src dst x C a with
  | some al => doAl s (some al)
  | none => opConv2 src dst x C a s

def opMakeInterface (t : TypeId) (x : Operand) (C : Ctx) (a : T Value) (s : AS) : Option (R × AS) :=
  match opnd a x, C.un t with
    | some _, some (.interface _) => none
    | some v, some _ => some (.val (.iface t v), s)
    | _, _ => none

def opMakeFunc (f : FuncId) (fs cs : Array Operand) (C : Ctx) (a : T Value) (s : AS) : Option (R × AS) :=
  match opnds a fs.toList, opnds a cs.toList with
    | some fs', some cs' => some (.val (.func (.func f) fs'.toArray cs'.toArray), s)
    | _, _ => none

def opSlice (t : TypeId) (x : Operand) (lo hi mx : Option Operand) (C : Ctx) (a : T Value) (s : AS) : Option (R × AS) :=
  match opnd a x, bnd a lo, bnd a hi, bnd a mx with
    | some v, some l, some h, some m => match C.un t, v with
      | some (.slice e), .slice p n c => match cut n c l h m, sizeT C e with
        | some (i, j, k), some sz => match p with
          | none => some (.val (.slice none 0 0), s)
          | some ad => match blkAt s ad.block with
            | some q => cond q.opn (cond (Nat.beq q.esz sz) (some (.val (.slice (some ⟨ad.block, ad.off + i * sz, ad.spot⟩) (j - i) (k - i)), s)) none) (some (.val (.slice (some ⟨ad.block, ad.off + i * sz, ad.spot⟩) (j - i) (k - i)), s))
            | none => none
        | _, _ => none
      | some .string, .string b => match m, cut b.size b.size l h none with
        | none, some (i, j, _) => some (.val (.string (b.extract i j)), s)
        | _, _ => none
      | some (.array n e), .pointer (some ad) => match cut n n l h m, sizeT C e with
        | some (i, j, k), some sz => some (.val (.slice (some ⟨ad.block, ad.off + i * sz, ad.spot⟩) (j - i) (k - i)), s)
        | _, _ => none
      | _, _ => none
    | _, _, _, _ => none

def opFieldAddr (t : TypeId) (x : Operand) (f : Nat) (C : Ctx) (a : T Value) (s : AS) : Option (R × AS) :=
  match C.un t, opnd a x with
    | some (.struct fs), some (.pointer (some p)) => match fieldAt fs.toList f with
      | some fl => match sizeT C fl.type with
        | some 0 => none
        | some _ => some (.val (.pointer (some ⟨p.block, p.off + fl.offset, p.spot⟩)), s)
        | none => none
      | none => none
    | _, _ => none

def opField (t : TypeId) (x : Operand) (f : Nat) (C : Ctx) (a : T Value) (s : AS) : Option (R × AS) :=
  match C.un t, opnd a x with
    | some (.struct fs), some (.agg cs) => match fieldAt fs.toList f with
      | some fl => match isAggT C fl.type, sizeT C fl.type with
        | some true, some n => some (.val (.agg ((cs.toList.drop fl.offset).take n).toArray), s)
        | some false, _ => match cs.toList[fl.offset]? with
          | some v => some (.val v, s)
          | none => none
        | _, _ => none
      | none => none
    | _, _ => none

def opIndexAddr (t : TypeId) (x i : Operand) (C : Ctx) (a : T Value) (s : AS) : Option (R × AS) :=
  match C.un t, opnd a x, opnd a i with
    | some (.slice e), some (.slice (some p) n _), some (.int _ k) => match sizeT C e with
      | some sz => if 0 ≤ k ∧ k < n then some (.val (.pointer (some ⟨p.block, p.off + k.toNat * sz, p.spot⟩)), s) else none
      | none => none
    | some (.array n e), some (.pointer (some p)), some (.int _ k) => match sizeT C e with
      | some sz => if 0 ≤ k ∧ k < n then some (.val (.pointer (some ⟨p.block, p.off + k.toNat * sz, p.spot⟩)), s) else none
      | none => none
    | _, _, _ => none

def opIndex (t : TypeId) (x i : Operand) (C : Ctx) (a : T Value) (s : AS) : Option (R × AS) :=
  match C.un t, opnd a x, opnd a i with
    | some .string, some (.string b), some (.int _ k) => if 0 ≤ k then match b[k.toNat]? with
        | some c => some (.val (.int .u8 c.toNat), s)
        | none => none
      else none
    | some (.array n e), some (.agg cs), some (.int _ k) => if 0 ≤ k ∧ k < n then match isAggT C e, sizeT C e with
        | some true, some sz => some (.val (.agg ((cs.toList.drop (k.toNat * sz)).take sz).toArray), s)
        | some false, some sz => match cs.toList[k.toNat * sz]? with
          | some v => some (.val v, s)
          | none => none
        | _, _ => none
      else none
    | _, _, _ => none

def opLookup (t : TypeId) (x k : Operand) (ok : Bool) (C : Ctx) (a : T Value) (s : AS) : Option (R × AS) :=
  match C.un t, opnd a x, opnd a k with
    | some (.map kt et), some (.map r), some kv => match C.un kt, C.ty et with
      | some d, some ei => match (match r with | none => some [] | some b => (match s.h.get b with | some (.map es _) => some es | _ => none)), ei.zero with
        | some es, some z => cond (plainKey d kv && closedV z) (match findK d kv es with
          | some (some (_, v)) => some (.val (cond ok (.tuple #[v, .bool true]) v), s)
          | some none => some (.val (cond ok (.tuple #[z, .bool false]) z), s)
          | none => none) none
        | _, _ => none
      | _, _ => none
    | _, _, _ => none

def opMapUpdate (t : TypeId) (x k v : Operand) (C : Ctx) (a : T Value) (s : AS) : Option (R × AS) :=
  match C.un t, opnd a x, opnd a k, opnd a v with
    | some (.map kt _), some (.map (some r)), some kv, some vv => match C.un kt, s.h.get r with
      | some d, some (.map es clock) => cond (plainKey d kv) (match findK d kv es with
        | some (some (i, _)) => some (.skip, ⟨s.n, s.h.put r (.map (es.modify i fun e => { e with key := kv, val := vv }) clock)⟩)
        | some none => some (.skip, ⟨s.n, s.h.put r (.map (es ++ [{ key := kv, val := vv, born := clock }]) (clock + 1))⟩)
        | none => none) none
      | _, _ => none
    | _, _, _, _ => none

def failA (C : Ctx) (t : TypeId) (ok : Bool) (s : AS) : Option (R × AS) :=
  match C.ty t with
  | some ti => match ti.zero with
    | some z => cond (ok && closedV z) (some (.val (.tuple #[z, .bool false]), s)) none
    | none => none
  | none => none
/-- Some method is missing. -/
def hasM (got : List Method) (p : String × TypeId) : Bool := got.any fun m => m.name == p.1 && m.sig == p.2
def missB (want : Array (String × TypeId)) (got : Array Method) : Bool := !want.toList.all (hasM got.toList)
def opTypeAssert (x : Operand) (t : TypeId) (ok : Bool) (C : Ctx) (a : T Value) (s : AS) : Option (R × AS) :=
  match opnd a x, C.un t with
    | some .nilIface, some (.interface _) => none
    | some (.iface u v), some (.interface want) => match C.ty u with
      | some ui => match missB want ui.methods with
        | false => some (.val (cond ok (.tuple #[.iface u v, .bool true]) (.iface u v)), s)
        | true => failA C t ok s
      | none => none
    | some (.iface u v), some _ => cond (Nat.beq u t) (some (.val (cond ok (.tuple #[v, .bool true]) v), s)) (failA C t ok s)
    | _, _ => none

def opExtract (x : Operand) (i : Nat) (C : Ctx) (a : T Value) (s : AS) : Option (R × AS) :=
  match opnd a x with
    | some (.tuple vs) => match vs.toList[i]? with
      | some v => some (.val v, s)
      | none => none
    | _ => none

def isPtrD : TypeDesc → Bool
  | .pointer _ => true
  | _ => false
/-- A method of a value's own type. -/
def invokeT (C : Ctx) (t : TypeId) (name : String) (v : Value) (vs : List Value) (s : AS) : Option (R × AS) :=
  match C.ty t with
  | some ti => match ti.methods.toList.find? (fun m => m.name == name) with
    | some m => match m.path.toList, m.func, C.un t with
      | [], some (g, true), some (.pointer _) => some (.call g (v :: vs), s)
      | [], some (g, false), some d => cond (isPtrD d) none (some (.call g (v :: vs), s))
      | _, _, _ => none
    | none => none
  | none => none
def invokeV (C : Ctx) (t : TypeId) (name : String) (v : Value) (vs : List Value) (s : AS) : Option (R × AS) :=
  match C.meth t name v with
  | some (g, rv) => some (.call g (rv :: vs), s)
  | none => invokeT C t name v vs s
def opCall (c : Call) (C : Ctx) (a : T Value) (s : AS) : Option (R × AS) :=
  match c.callee, opnds a c.args.toList with
    | .builtin b, some vs => builtinV C b c.argTypes.toList vs s
    | .value f, some vs => match opnd a f with
      | some (.func (.func g) fs cs) => some (.call g (fs.toList ++ vs ++ cs.toList), s)
      | some (.func (.yield l) _ _) => some (.round l vs, s)
      | _ => none
    | .invoke r name, some vs => match opnd a r with
      | some (.iface t v) => invokeV C t name v vs s
      | _ => none
    | _, none => none

/-- A range over a map or a text. -/
def opRange (t : TypeId) (x : Operand) (C : Ctx) (a : T Value) (s : AS) : Option (R × AS) :=
  match C.un t, opnd a x with
  | some (.map _ _), some (.map none) => doAl s (some (.mit none 0 [] 0, ptrV))
  | some (.map _ _), some (.map (some r)) => match s.h.get r with
    | some (.map _ clock) => doAl s (some (.mit (some r) clock [] clock, ptrV))
    | _ => none
  | some .string, some (.string b) => doAl s (some (.sit b 0, ptrV))
  | _, _ => none

def nextSit (s : AS) (b : Nat) (q : ByteArray) (pos : Nat) : Option (R × AS) :=
  cond (Nat.blt pos q.size) (some (.val (.tuple #[.bool true, .int .i64 pos, .int .i32 (Utf8.decode q pos).1]), ⟨s.n, s.h.put b (.sit q (pos + (Utf8.decode q pos).2))⟩)) (some (.val (.tuple #[.bool false]), s))
def candL (es : List MapEntry) (since : Nat) (seen : List Nat) : List (Option MapEntry) :=
  let left := es.filter fun e => !seen.contains e.born
  let old := left.filter (·.born < since)
  (cond old.isEmpty [none] []) ++ (old ++ left.filter (·.born ≥ since)).map some
def nextMit (s : AS) (b r : Nat) (since : Nat) (seen : List Nat) (last : Nat) (es : List MapEntry) (clock : Nat) : Option (R × AS) :=
  cond (!seen.isEmpty && !es.isEmpty && es.all (fun e => decide (e.born ≥ last))) none
    (match candL es since seen with
    | [none] => some (.val (.tuple #[.bool false]), s)
    | [some e] => some (.val (.tuple #[.bool true, e.key, e.val]), ⟨s.n, s.h.put b (.mit (some r) since (seen ++ [e.born]) clock)⟩)
    | _ => none)
def opNext (x : Operand) (isStr : Bool) (_ : Ctx) (a : T Value) (s : AS) : Option (R × AS) :=
  match opnd a x with
  | some (.pointer (some ⟨b, 0, none⟩)) => match s.h.get b, isStr with
    | some (.sit q pos), true => nextSit s b q pos
    | some (.mit none _ _ _), false => some (.val (.tuple #[.bool false]), s)
    | some (.mit (some r) since seen last), false => match s.h.get r with
      | some (.map es clock) => nextMit s b r since seen last es clock
      | _ => none
    | _, _ => none
  | _ => none

def opEntry (x : Operand) (_ : Ctx) (a : T Value) (s : AS) : Option (R × AS) :=
  match opnd a x with
  | some (.pointer (some ⟨b, 0, none⟩)) => match s.h.get b with
    | some (.mit (some r) _ seen last) => match seen.getLast?, s.h.get r with
      | some st, some (.map es clock) => cond (Nat.beq clock last) (match es.find? (fun e => e.born == st) with
        | some e => some (.val (.tuple #[e.key, e.val]), s)
        | none => none) none
      | _, _ => none
    | _ => none
  | _ => none

def opNone (_ : Ctx) (_ : T Value) (_ : AS) : Option (R × AS) := none
def opAl (k : Ctx → T Value → Option Al) (C : Ctx) (a : T Value) (s : AS) : Option (R × AS) := doAl s (k C a)

def aopK (op : Op) : Ctx → T Value → AS → Option (R × AS) :=
  match op with
  | .move x | .assign x => opMove x
  | .pick c x y => opPick c x y
  | .alloc t => opAl (alAlloc t)
  | .box t x => opAl (alBox t x)
  | .build t ps => opBuild t ps
  | .buildSlice t n ps => opAl (alBuildSlice t n ps)
  | .load t x => opLoad t x
  | .store t x y => opStore t x y
  | .nilCheck x => opNilCheck x
  | .binOp op t x y _ => opBinOp op t x y
  | .unOp op _ x => opUnOp op x
  | .convert src dst x => opConvert src dst x
  | .makeInterface t x => opMakeInterface t x
  | .makeFunc (.func f) fs cs => opMakeFunc f fs cs
  | .makeMap _ none => opAl alMakeMap
  | .makeSlice t l c => opAl (alMakeSlice t l c)
  | .slice t x lo hi mx => opSlice t x lo hi mx
  | .fieldAddr t x f => opFieldAddr t x f
  | .field t x f => opField t x f
  | .indexAddr t x i => opIndexAddr t x i
  | .index t x i => opIndex t x i
  | .lookup t x k ok => opLookup t x k ok
  | .mapUpdate t x k v | .insert t x k v => opMapUpdate t x k v
  | .range t x => opRange t x
  | .next x q => opNext x q
  | .entry x => opEntry x
  | .typeAssert x xt t ok => opTypeAssert x t ok
  | .extract x i => opExtract x i
  | .call c => opCall c
  | _ => opNone

/-- One operation. -/
def aop (C : Ctx) (o : Oper) (a : T Value) (s : AS) : Option (R × AS) := aopK o.op C a s

/-- What an activation's end hands back. -/
inductive Xt where
  | normal
  | exit (id : Nat)
  | ret

def wantedG (ops : List Oper) (a : T Value) (g : Nat × Bool) : Bool :=
  match ops[g.1]? with
  | some oj => match oj.dst with
    | some d => match a.get d with
      | some (.bool b) => cond g.2 b (!b)
      | _ => false
    | none => false
  | none => false
def wantedB (ops : List Oper) (o : Oper) (a : T Value) : Bool :=
  Option.rec (motive := fun _ => Bool) true (fun g => wantedG ops a g) o.guard

/-- What an operation hangs on is known. -/
def guardG (ops : List Oper) (a : T Value) (g : Nat × Bool) : Bool :=
  match ops[g.1]? with
  | some oj => match oj.dst with
    | some d => match a.get d with
      | some (.chan _) => false
      | _ => true
    | none => true
  | none => true
def guardB (ops : List Oper) (o : Oper) (a : T Value) : Bool :=
  Option.rec (motive := fun _ => Bool) true (fun g => guardG ops a g) o.guard

def putA (n : Nat) (a : T Value) (d : Option Tmp) (v : Value) : Option (T Value) :=
  Option.rec (motive := fun _ => Option (T Value)) (some a) (fun t => Bool.rec (motive := fun _ => Option (T Value)) none (some (a.put t v)) (Nat.blt t n)) d

def resOf (C : Ctx) (s : AS) (a : T Value) : List ResultVar → Option (List Value)
  | [] => some []
  | .tmp t :: r => match resOf C s a r with
    | some l => some ((a.get t).getD undef :: l)
    | none => none
  | .cell p t :: r => match a.get p with
    | some (.pointer (some ad)) => match isAggT C t, sizeT C t, resOf C s a r with
      | some true, some n, some l => match readN s ad n with
        | some cs => some (.agg cs.toArray :: l)
        | none => none
      | some false, _, some l => match readN s ad 1 with
        | some [v] => some (v :: l)
        | _ => none
      | _, _, _ => none
    | _ => none

/-- The three parts of the interpreter at some fuel: code (in a round or not, at a frame of so many temporaries), operations, calls. -/
structure Fns where
  c : Bool → Nat → Code → T Value → AS → Option (Xt × T Value × AS)
  o : Nat → List Oper → List Oper → T Value → AS → Option (T Value × AS)
  d : Nat → List Oper → Nat → Nat → T Value → AS → Option (T Value × AS)
  f : FuncId → List Value → AS → Option (Value × AS)

abbrev KRes := Option (Xt × T Value × AS)
def kSkip (_ : Ctx) (_ : Fns) (_ : Bool) (_ : Nat) (a : T Value) (s : AS) : KRes := some (.normal, a, s)
def kRet (_ : Ctx) (_ : Fns) (_ : Bool) (_ : Nat) (a : T Value) (s : AS) : KRes := some (.ret, a, s)
def kExit (id : Nat) (_ : Ctx) (_ : Fns) (_ : Bool) (_ : Nat) (a : T Value) (s : AS) : KRes := some (.exit id, a, s)
def kSeq (x y : Code) (_ : Ctx) (ih : Fns) (q : Bool) (n : Nat) (a : T Value) (s : AS) : KRes :=
  match ih.c q n x a s with
  | some (.normal, a', s') => ih.c q n y a' s'
  | r => r
def kCond (x : Operand) (t e : Code) (_ : Ctx) (ih : Fns) (q : Bool) (n : Nat) (a : T Value) (s : AS) : KRes :=
  match opnd a x with
  | some (.bool b) => ih.c q n (cond b t e) a s
  | _ => none
def kBlock (id : Nat) (b : Code) (_ : Ctx) (ih : Fns) (q : Bool) (n : Nat) (a : T Value) (s : AS) : KRes :=
  match ih.c q n b a s with
  | some (.exit id', a', s') => cond (Nat.beq id id') (some (.normal, a', s')) (some (.exit id', a', s'))
  | r => r
def kLoop (b : Code) (_ : Ctx) (ih : Fns) (q : Bool) (n : Nat) (a : T Value) (s : AS) : KRes :=
  match ih.c q n b a s with
  | some (.normal, a', s') => ih.c q n (.loop b) a' s'
  | r => r
def kRegion (ops : Array Oper) (_ : Ctx) (ih : Fns) (_ : Bool) (n : Nat) (a : T Value) (s : AS) : KRes :=
  match ih.o n ops.toList ops.toList a s with
  | some (a', s') => some (.normal, a', s')
  | none => none
def kRange (g : Operand) (ps : Array Tmp) (asg bd : Code) (C : Ctx) (ih : Fns) (q : Bool) (n : Nat) (a : T Value) (s : AS) : KRes :=
  cond q none
  (match opnd a g with
  | some (.func (.func h) fs cs) => cond (Nat.beq fs.size 0 && (C.sp h).isNone)
    (match ih.f h (.func (.yield s.n) #[] #[] :: cs.toList) ⟨s.n + 1, s.h.put s.n (.loop a n ps.toList asg bd .ready)⟩ with
    | some (_, s') => match s'.h.get s.n with
      | some (.loop _ _ _ _ _ .ready) => some (.normal, a, ⟨s'.n, s'.h.put s.n .dead⟩)
      | some (.loop _ _ _ _ _ (.done c)) => ih.c q n c a ⟨s'.n, s'.h.put s.n .dead⟩
      | _ => none
    | none => none) none
  | _ => none)
def kNone (_ : Ctx) (_ : Fns) (_ : Bool) (_ : Nat) (_ : T Value) (_ : AS) : KRes := none

/-! Regions that draw their order: operations that are taken as soon as they may be (they change nothing, or only make a block), and the others, of which one at a time must be the only one that may be taken. -/
def bitB (D i : Nat) : Bool := Nat.beq (Nat.land (Nat.shiftRight D i) 1) 1
def setB (D i : Nat) : Nat := Nat.lor D (Nat.shiftLeft 1 i)
def predsIn (D : Nat) : List Edge → Bool
  | [] => true
  | e :: es => cond (Region.binds .any e) (cond (bitB D e.on) (predsIn D es) false) (predsIn D es)

def stillBi : Builtin → Bool
  | .len | .cap | .min | .max => true
  | _ => false
def stillC (c : Callee) : Bool := match c with
  | .builtin b => stillBi b
  | _ => false
/-- It changes nothing. -/
def stillB (_ : Ctx) (op : Op) : Bool :=
  match op with
  | .move _ | .assign _ | .pick _ _ _ | .build _ _ | .load _ _ | .nilCheck _ | .binOp _ _ _ _ _ | .unOp _ _ _ | .makeInterface _ _ | .makeFunc _ _ _ | .slice _ _ _ _ _
  | .fieldAddr _ _ _ | .field _ _ _ | .indexAddr _ _ _ | .index _ _ _ | .lookup _ _ _ _ | .typeAssert _ _ _ _ | .extract _ _ => true
  | .convert _ _ _ => true
  | .call c => stillC c.callee
  | _ => false

/-- Values are the same. -/
def eqL (f : Value → Value → Bool) : List Value → List Value → Bool
  | [], [] => true
  | x :: xs, y :: ys => cond (f x y) (eqL f xs ys) false
  | _, _ => false
def eqA (a b : Addr) : Bool := match a.spot, b.spot with
  | none, none => Nat.beq a.block b.block && Nat.beq a.off b.off
  | _, _ => false
def eqI : Int → Int → Bool
  | .ofNat a, .ofNat b => Nat.beq a b
  | .negSucc a, .negSucc b => Nat.beq a b
  | _, _ => false
def eqBy : List UInt8 → List UInt8 → Bool
  | [], [] => true
  | x :: xs, y :: ys => cond (Nat.beq x.toNat y.toNat) (eqBy xs ys) false
  | _, _ => false
def veq : Nat → Value → Value → Bool
  | 0, _, _ => false
  | k + 1, x, y => match x, y with
    | .bool p, .bool q => cond p q (!q)
    | .int j p, .int k q => kindEq j k && eqI p q
    | .string p, .string q => eqBy p.data.toList q.data.toList
    | .nilFunc, .nilFunc => true
    | .chan none, .chan none => true
    | .chan (some p), .chan (some q) => Nat.beq p q
    | .nilIface, .nilIface => true
    | .pointer none, .pointer none => true
    | .pointer (some p), .pointer (some q) => eqA p q
    | .slice none n c, .slice none n' c' => Nat.beq n n' && Nat.beq c c'
    | .slice (some p) n c, .slice (some q) n' c' => eqA p q && (Nat.beq n n' && Nat.beq c c')
    | .map none, .map none => true
    | .map (some p), .map (some q) => Nat.beq p q
    | .iface t v, .iface u z => Nat.beq t u && veq k v z
    | .agg p, .agg q => eqL (veq k) p.toList q.toList
    | .tuple p, .tuple q => eqL (veq k) p.toList q.toList
    | .func (.func f) p r, .func (.func g) q z => Nat.beq f g && (eqL (veq k) p.toList q.toList && eqL (veq k) r.toList z.toList)
    | _, _ => false

def dstIs (a : T Value) (d : Option Tmp) (v : Value) : Bool :=
  match d with
  | none => true
  | some t => match a.get t with
    | some u => veq 10 u v
    | none => false

/-- A temporary is read. -/
def readsT (t : Tmp) : List Operand → Bool
  | [] => false
  | .tmp u :: r => cond (Nat.beq u t) true (readsT t r)
  | _ :: r => readsT t r
/-- It is waited for. -/
def hasEdge (j : Nat) : List Edge → Bool
  | [] => false
  | e :: es => cond (Region.binds .any e) (cond (Nat.beq e.on j) true (hasEdge j es)) (hasEdge j es)
/-- What it writes is read by an operation that does not wait for it. -/
def lateT (t : Tmp) (i : Nat) : List Oper → Bool
  | [] => false
  | k :: ks => cond (readsT t k.op.operands.toList) (cond (hasEdge i k.after.toList) (lateT t i ks) true) (lateT t i ks)
def lateB (all : List Oper) (i : Nat) (o : Oper) : Bool :=
  match o.dst with
  | some t => lateT t i all
  | none => false

/-- What becomes of an operation that may be taken. -/
inductive Free where
  | leave
  | fail
  | took (a : T Value) (s : AS)
def tookP (n : Nat) (a : T Value) (d : Option Tmp) (v : Value) (s : AS) : Free :=
  match putA n a d v with
  | some a' => .took a' s
  | none => .fail
def freeRes (n : Nat) (a : T Value) (d : Option Tmp) (r : Option (R × AS)) : Free :=
  match r with
  | some (.val v, s') => tookP n a d v s'
  | _ => .fail
def freeStep (C : Ctx) (n : Nat) (all : List Oper) (i : Nat) (o : Oper) (a : T Value) (s : AS) : Free :=
  cond (lateB all i o) .leave (cond (wantedB all o a)
    (match alOf o.op C a with
    | some al => cond o.dst.isSome (freeRes n a o.dst (doAl s (some al))) .fail
    | none => cond (stillB C o.op) (freeRes n a o.dst (aop C o a s)) .leave)
    (tookP n a o.dst undef s))
/-- All that may be taken so, in the order in which they stand. -/
def pass (C : Ctx) (n : Nat) (all : List Oper) : List Oper → Nat → Nat → T Value → AS → Option (Nat × T Value × AS)
  | [], _, D, a, s => some (D, a, s)
  | o :: os, i, D, a, s => cond (bitB D i) (pass C n all os (i + 1) D a s)
    (cond (predsIn D o.after.toList) (match freeStep C n all i o a s with
      | .leave => pass C n all os (i + 1) D a s
      | .fail => none
      | .took a' s' => pass C n all os (i + 1) (setB D i) a' s') (pass C n all os (i + 1) D a s))
/-- Those that may be taken. -/
def readyL (D : Nat) : List Oper → Nat → List Nat
  | [], _ => []
  | o :: os, i => cond (bitB D i) (readyL D os (i + 1)) (cond (predsIn D o.after.toList) (i :: readyL D os (i + 1)) (readyL D os (i + 1)))
/-- Every operation that is done, and need not be done by now, gives what it gave. -/
def verO (C : Ctx) (all : List Oper) (a : T Value) (s : AS) (o : Oper) : Bool :=
  cond (guardB all o a) (cond (wantedB all o a)
    (match alOf o.op C a with
    | some _ => true
    | none => match aop C o a s with
      | some (.val v, _) => cond (stillB C o.op) (dstIs a o.dst v) false
      | _ => false)
    (dstIs a o.dst undef)) false
def verL (C : Ctx) (all : List Oper) (D A : Nat) (a : T Value) (s : AS) : List Oper → Nat → Bool
  | [], _ => true
  | o :: os, i => cond (bitB D i) (cond (bitB A i) (verL C all D A a s os (i + 1)) (cond (verO C all a s o) (verL C all D A a s os (i + 1)) false)) (verL C all D A a s os (i + 1))
/-- The operations that an operation waits for. -/
def preds (A : Nat) : List Edge → Nat
  | [] => A
  | e :: es => cond (Region.binds .any e) (setB (preds A es) e.on) (preds A es)
def anc (all : List Oper) : List Oper → Nat → Nat → Nat
  | [], _, A => A
  | o :: os, i, A =>
    let B := anc all os (i + 1) A
    cond (bitB B i) (preds B o.after.toList) B

def doneB (D : Nat) : List Oper → Nat → Bool
  | [], _ => true
  | _ :: os, i => cond (bitB D i) (doneB D os (i + 1)) false

/-- The code of a region is of the form that is looked for: what an operation reads of the region it waits for; each temporary is written once; what is waited for stands ahead. -/
def dstM : List Oper → Nat
  | [] => 0
  | o :: os => match o.dst with
    | some t => setB (dstM os) t
    | none => dstM os
def dstOnce : List Oper → Bool
  | [] => true
  | o :: os => match o.dst with
    | some t => cond (bitB (dstM os) t) false (dstOnce os)
    | none => dstOnce os
def ahead (i : Nat) : List Edge → Bool
  | [] => true
  | e :: es => cond (Region.binds .any e) (cond (Nat.blt e.on i) (ahead i es) false) (ahead i es)
def predD (all : List Oper) : List Edge → Nat
  | [] => 0
  | e :: es => cond (Region.binds .any e) (match all[e.on]? with
    | some o => (match o.dst with | some t => setB (predD all es) t | none => predD all es)
    | none => predD all es) (predD all es)
/-- What is written by those that wait for an operation. -/
def antiD (i : Nat) : List Oper → Nat
  | [] => 0
  | k :: ks => cond (hasEdge i k.after.toList) (match k.dst with
    | some t => setB (antiD i ks) t
    | none => antiD i ks) (antiD i ks)
def tmpsIn (M Q : Nat) : List Operand → Bool
  | [] => true
  | .tmp t :: r => cond (bitB M t) (cond (bitB Q t) (tmpsIn M Q r) false) (tmpsIn M Q r)
  | _ :: r => tmpsIn M Q r
def guardIn (all : List Oper) (Q : Nat) (g : Option (Nat × Bool)) : Bool :=
  match g with
  | none => true
  | some (j, _) => match all[j]? with
    | some o => (match o.dst with | some t => bitB Q t | none => false)
    | none => false
def noSel : Op → Bool
  | .select _ _ => false
  | _ => true
def okOp (all : List Oper) (M i : Nat) (o : Oper) : Bool :=
  ahead i o.after.toList && (tmpsIn M (Nat.lor (predD all o.after.toList) (antiD i all)) o.op.operands.toList && (guardIn all (predD all o.after.toList) o.guard && noSel o.op))
def okOps (all : List Oper) (M : Nat) : List Oper → Nat → Bool
  | [], _ => true
  | o :: os, i => cond (okOp all M i o) (okOps all M os (i + 1)) false
def okD (all : List Oper) : Bool := dstOnce all && okOps all (dstM all) all 0

def kDrawn (ops : Array Oper) (_ : Ctx) (ih : Fns) (_ : Bool) (n : Nat) (a : T Value) (s : AS) : KRes :=
  cond (okD ops.toList) (match ih.d n ops.toList 0 0 a s with
  | some (a', s') => some (.normal, a', s')
  | none => none) none

def evK (c : Code) : Ctx → Fns → Bool → Nat → T Value → AS → KRes :=
  match c with
  | .skip => kSkip
  | .label _ => kSkip
  | .ret => kRet
  | .exit id => kExit id
  | .seq x y => kSeq x y
  | .cond x t e => kCond x t e
  | .block id b => kBlock id b
  | .loop b => kLoop b
  | .region _ ops false => kRegion ops
  | .region _ ops true => kDrawn ops
  | .rangeFunc g ps asg bd => kRange g ps asg bd
  | _ => kNone

/-- Code, at a frame of n temporaries. -/
def evC (C : Ctx) (ih : Fns) (q : Bool) (n : Nat) (c : Code) (a : T Value) (s : AS) : KRes := evK c C ih q n a s

/-- A round of a loop over a function. -/
def rdEnd (s : AS) (l : Nat) (x : Xt) : Option (Value × AS) :=
  match s.h.get l with
  | some (.loop t nt ps asg bd .busy) => match x with
    | .normal => some (.bool true, ⟨s.n, s.h.put l (.loop t nt ps asg bd .ready)⟩)
    | .ret => some (.bool false, ⟨s.n, s.h.put l (.loop t nt ps asg bd (.done .ret))⟩)
    | .exit id => some (.bool false, ⟨s.n, s.h.put l (.loop t nt ps asg bd (.done (.exit id)))⟩)
  | _ => none
def rdBody (ih : Fns) (l nt : Nat) (bd : Code) (a : T Value) (s : AS) : Option (Value × AS) :=
  match s.h.get l with
  | some (.loop t nt' ps asg bd' .ready) => match ih.c true nt bd a ⟨s.n, s.h.put l (.loop t nt' ps asg bd' .busy)⟩ with
    | some (x, _, s') => rdEnd s' l x
    | none => none
  | _ => none
def rdArgs (n : Nat) : List Tmp → List Value → T Value → Option (T Value)
  | [], [], t => some t
  | p :: ps, v :: vs, t => cond (Nat.blt p n) (rdArgs n ps vs (t.put p v)) none
  | _, _, _ => none
def rdRun (ih : Fns) (l : Nat) (vs : List Value) (s : AS) : Option (Value × AS) :=
  match s.h.get l with
  | some (.loop t nt ps asg bd .ready) => match rdArgs nt ps vs t with
    | some a => match ih.c true nt asg a s with
      | some (.normal, a', s') => rdBody ih l nt bd a' s'
      | _ => none
    | none => none
  | _ => none

/-- What a call, a round comes to. -/
def actRes (ih : Fns) (r : Option (R × AS)) : Option (Value × AS) :=
  match r with
  | some (.val v, s') => some (v, s')
  | some (.skip, s') => some (undef, s')
  | some (.call g vs, s') => ih.f g vs s'
  | some (.round l vs, s') => rdRun ih l vs s'
  | none => none

def oPut (ih : Fns) (n : Nat) (all os : List Oper) (d : Option Tmp) (v : Value) (a : T Value) (s : AS) : Option (T Value × AS) :=
  Option.rec (motive := fun _ => Option (T Value × AS)) none (fun a' => ih.o n all os a' s) (putA n a d v)
def oAct (ih : Fns) (n : Nat) (all os : List Oper) (d : Option Tmp) (a : T Value) (r : Option (Value × AS)) : Option (T Value × AS) :=
  match r with
  | some (v, s') => oPut ih n all os d v a s'
  | none => none
def oStep (C : Ctx) (ih : Fns) (n : Nat) (all : List Oper) (o : Oper) (os : List Oper) (a : T Value) (s : AS) : Option (T Value × AS) :=
  cond (guardB all o a) (Bool.rec (motive := fun _ => Option (T Value × AS)) (oPut ih n all os o.dst undef a s) (oAct ih n all os o.dst a (actRes ih (aop C o a s))) (wantedB all o a)) none

/-- Operations, one behind the other. -/
def evO (C : Ctx) (ih : Fns) (n : Nat) (all os : List Oper) (a : T Value) (s : AS) : Option (T Value × AS) :=
  List.rec (motive := fun _ => Option (T Value × AS)) (some (a, s)) (fun o os _ => oStep C ih n all o os a s) os

/-- Operations whose order is drawn, from those that are done on. -/
def dAct (C : Ctx) (ih : Fns) (n : Nat) (all : List Oper) (D A i : Nat) (o : Oper) (a : T Value) (s : AS) : Option (T Value × AS) :=
  cond (guardB all o a && wantedB all o a) (match actRes ih (aop C o a s) with
  | some (v, s') => match putA n a o.dst v with
    | some a' => ih.d n all (setB D i) (anc all all 0 (setB A i)) a' s'
    | none => none
  | none => none) none
def dMore (C : Ctx) (ih : Fns) (n : Nat) (all : List Oper) (D A : Nat) (a : T Value) (s : AS) : Option (T Value × AS) :=
  cond (verL C all D A a s all 0)
    (match readyL D all 0 with
    | [] => cond (doneB D all 0) (some (a, s)) none
    | [i] => match all[i]? with
      | some o => dAct C ih n all D A i o a s
      | none => none
    | _ => none) none
def evD (C : Ctx) (ih : Fns) (n : Nat) (all : List Oper) (D A : Nat) (a : T Value) (s : AS) : Option (T Value × AS) :=
  match pass C n all all 0 D a s with
  | some (D', a', s') => dMore C ih n all D' A a' s'
  | none => none

/-- A call: a function that is known by what it does, or one with a body. -/
def evF (C : Ctx) (ih : Fns) (g : FuncId) (vs : List Value) (s : AS) : Option (Value × AS) :=
  match C.sp g with
  | some k => k vs s
  | none => match C.fn g with
    | some fn => match fn.body with
      | some b => cond (Nat.ble vs.length fn.ntmps) (match ih.c false fn.ntmps b (T.ofList vs 0 .leaf) s with
        | some (.exit _, _, _) => none
        | some (_, a', s') => match resOf C s' a' fn.results.toList with
          | some [v] => some (v, s')
          | some l => some (.tuple l.toArray, s')
          | none => none
        | none => none) none
      | none => none
    | none => none

def ev (C : Ctx) (fuel : Nat) : Fns :=
  Nat.rec (motive := fun _ => Fns) ⟨fun _ _ _ _ _ => none, fun _ _ _ _ _ => none, fun _ _ _ _ _ _ => none, fun _ _ _ => none⟩ (fun _ ih => ⟨evC C ih, evO C ih, evD C ih, evF C ih⟩) fuel
end
end Go.Proofs.YtenfkghoolegfaaGreatDoor.Ev
