/- A part of the proof of ScanWild. No condition of its own. -/
import Derived.Test.YtgohffhoapkeaaaGreatDoorVz
import Derived.Test.YtgohffhoapkeaaaGreatDoorZf
import Derived.Laws.BitsAllLaws
import Derived.Laws.BytesArg
import Derived.Laws.IdiomStrings
import Derived.MapFrom
import Derived.Deep.AppendSrc
set_option linter.unusedVariables false
namespace Go.Proofs.YtgohffhoapkeaaaGreatDoor.Ev
open Go.RowKit
variable {ω:Nat->Value}
theorem ES (k:IntKind):(2 ^ k.bits:Int)=(iA k:Int):=by cases k <;> rfl
theorem fZ (k:IntKind) (n:Nat):wrapN k n=k.wrap n:=by
 unfold wrapN
 cases h:Nat.blt n (kg k) with
 | false =>
  rw [cond_false]
  cases hs:xO k with
  | true=>rfl
  | false =>
   rw [cond_false]
   cases k <;> first | (simp [xO] at hs;done) | (simp [IntKind.wrap,IntKind.bits,IntKind.signed,iA];rfl)
 | true =>
  rw [cond_true]
  have hlt:n<kg k:=by
   have:=Nat.le_of_ble_eq_true (show Nat.ble (n+1) (kg k)=true from h);omega
  cases k <;> simp [kg] at hlt <;> simp [IntKind.wrap,IntKind.bits,IntKind.signed] <;> omega
theorem yc (k:IntKind):k.signed=xO k:=by cases k <;> rfl
theorem Gx (k:IntKind) (a b:Nat):(cond (Nat.ble b a) (wrapN k (a-b)) (cond (xO k) (k.wrap (Int.negSucc (b-a-1))) (.ofNat (Nat.mod (Nat.mul (iA k) b+a-b) (iA k)))))=k.wrap ((a:Int)-b):=by
 cases h:Nat.ble b a with
 | true =>
  have:=Nat.le_of_ble_eq_true h;rw [cond_true,fZ];congr 1;omega
 | false =>
  have hlt:a<b:=by
   rcases Nat.lt_or_ge a b with h1 | h1
   ·exact h1
   ·have:=Nat.ble_eq_true_of_le h1;rw [h] at this;cases this
  rw [cond_false]
  cases hs:xO k with
  | true =>
   rw [cond_true];congr 1;rw [Int.negSucc_eq];omega
  | false =>
   rw [cond_false]
   have hm:0<iA k:=by cases k <;> simp [iA]
   have e1:Nat.mod (Nat.mul (iA k) b+a-b) (iA k)=(iA k*b+a-b) % iA k:=rfl;rw [e1];have hge:b<=iA k*b:=Nat.le_mul_of_pos_left b hm
   have e2:(k.wrap ((a:Int)-b))=((a:Int)-b) % (iA k:Int):=by
    unfold IntKind.wrap;rw [yc,hs,<-ES];simp
   rw [e2];show ((((iA k*b+a-b) % iA k:Nat)):Int)=_;rw [Int.natCast_emod,Int.natCast_sub (by omega)]
   push_cast
   rw [show (iA k:Int)*b+a-b=((a:Int)-b)+iA k*b by omega,Int.add_mul_emod_self_left]
theorem l5 {k:IntKind} {a b:Nat} {v v':Value} (h:jf k a b (some v)=some v'):a<kg k/\b<kg k/\v=v':=by
 unfold jf at h
 cases h1:Nat.blt a (kg k) with
 | false=>simp [h1] at h
 | true =>
  cases h2:Nat.blt b (kg k) with
  | false=>simp [h1,h2] at h
  | true =>
   simp [h1,h2] at h;exact ⟨Nat.le_of_ble_eq_true (show Nat.ble (a+1) _=true from h1),Nat.le_of_ble_eq_true (show Nat.ble (b+1) _=true from h2),h⟩
theorem Gy (k:IntKind):kg k<=2 ^ k.bits:=by cases k <;> simp [kg,IntKind.bits]
theorem fD (n:Nat) (x:Nat) (h:x<2 ^ n):(BitVec.ofInt n (Int.ofNat x)).toNat=x:=by
 rw [BitVec.toNat_ofInt]
 have:((Int.ofNat x) % (((2 ^ n:Nat)):Int)).toNat=x:=by
  rw [Int.ofNat_eq_natCast];rw [<-Int.natCast_emod,Int.toNat_natCast,Nat.mod_eq_of_lt h]
 simpa using this
theorem ET (k:IntKind):∃ p,kg k=2 ^ p:=by cases k <;> first | exact ⟨7,rfl⟩ | exact ⟨15,rfl⟩ | exact ⟨31,rfl⟩ | exact ⟨63,rfl⟩ | exact ⟨8,rfl⟩ | exact ⟨16,rfl⟩ | exact ⟨32,rfl⟩ | exact ⟨64,rfl⟩
theorem wrap_small (k:IntKind) (x:Nat) (h:x<kg k):k.wrap (x:Int)=(x:Int):=by
 rw [<-fZ];unfold wrapN;have:Nat.blt x (kg k)=true:=Nat.ble_eq_true_of_le h;rw [this];rfl
theorem Bc (op:BinOp) (k:IntKind) (a b:Nat) (v:Value) (t:TypeId) (h:IE op k a b=some v):binOp op t (.int k (.ofNat a)) (.int k (.ofNat b))=pure v:=by
 have htop:=Gy k;obtain ⟨p,hp⟩:=ET k
 cases op with
 | add =>
  have h':Gg k a b=some v:=h;simp only [Gg,Option.some.injEq] at h';subst h';simp only [binOp,ne_eq,not_true,if_false,Op.intArith,fZ];rfl
 | sub =>
  have h':Gh k a b=some v:=h;simp only [Gh,Option.some.injEq] at h';subst h';simp only [binOp,ne_eq,not_true,if_false,Op.intArith,Gx];rfl
 | mul =>
  have h':Gi k a b=some v:=h;simp only [Gi,Option.some.injEq] at h';subst h';simp only [binOp,ne_eq,not_true,if_false,Op.intArith,fZ];rfl
 | quo =>
  have h':C2 k a b=some v:=h;unfold C2 at h'
  cases hb:Nat.beq b 0 with
  | true=>simp [hb] at h'
  | false =>
   have hne:=Nat.ne_of_beq_eq_false hb;simp only [hb,cond_false,Option.some.injEq] at h';subst h'
   have:¬ ((Int.ofNat b)=0):=by intro e;apply hne;exact Int.ofNat.inj e
   simp only [binOp,ne_eq,not_true,if_false,Op.intDiv,this,fZ];rfl
 | rem =>
  have h':C3 k a b=some v:=h;unfold C3 at h'
  cases hb:Nat.beq b 0 with
  | true=>simp [hb] at h'
  | false =>
   have hne:=Nat.ne_of_beq_eq_false hb;simp only [hb,cond_false,Option.some.injEq] at h';subst h'
   have:¬ ((Int.ofNat b)=0):=by intro e;apply hne;exact Int.ofNat.inj e
   simp only [binOp,ne_eq,not_true,if_false,Op.intDiv,this];rfl
 | and =>
  obtain ⟨ha,hb,rfl⟩:=l5 (h:jf k a b (some (.int k (.ofNat (Nat.land a b))))=some v);simp only [binOp,ne_eq,not_true,if_false,Op.intBits]
  have:(BitVec.ofInt k.bits (Int.ofNat a) &&& BitVec.ofInt k.bits (Int.ofNat b)).toNat=a &&& b:=by
   rw [BitVec.toNat_and,fD _ a (by omega),fD _ b (by omega)]
  rw [this,wrap_small k _ (Nat.lt_of_le_of_lt Nat.and_le_left ha)];rfl
 | or =>
  obtain ⟨ha,hb,rfl⟩:=l5 (h:jf k a b (some (.int k (.ofNat (Nat.lor a b))))=some v);simp only [binOp,ne_eq,not_true,if_false,Op.intBits]
  have:(BitVec.ofInt k.bits (Int.ofNat a) ||| BitVec.ofInt k.bits (Int.ofNat b)).toNat=a ||| b:=by
   rw [BitVec.toNat_or,fD _ a (by omega),fD _ b (by omega)]
  rw [this,wrap_small k _ (by rw [hp] at *;exact Nat.or_lt_two_pow ha hb)];rfl
 | xor =>
  obtain ⟨ha,hb,rfl⟩:=l5 (h:jf k a b (some (.int k (.ofNat (Nat.xor a b))))=some v);simp only [binOp,ne_eq,not_true,if_false,Op.intBits]
  have:(BitVec.ofInt k.bits (Int.ofNat a) ^^^ BitVec.ofInt k.bits (Int.ofNat b)).toNat=a ^^^ b:=by
   rw [BitVec.toNat_xor,fD _ a (by omega),fD _ b (by omega)]
  rw [this,wrap_small k _ (by rw [hp] at *;exact Nat.xor_lt_two_pow ha hb)];rfl
 | shl=>cases h
 | shr=>cases h
 | andNot=>cases h
 | eql =>
  have h':Gj k a b=some v:=h;simp only [Gj,Option.some.injEq] at h';subst h';simp only [binOp,ne_eq,not_true,if_false,Op.intCmp];congr 2;rw [Bool.eq_iff_iff,beq_iff_eq,Nat.beq_eq];exact ⟨fun e=>Int.ofNat.inj e,fun e=>by rw [e]⟩
 | neq =>
  have h':Gk k a b=some v:=h;simp only [Gk,Option.some.injEq] at h';subst h';simp only [binOp,ne_eq,not_true,if_false,Op.intCmp];congr 2;show (!(Int.ofNat a==Int.ofNat b))=!(Nat.beq a b);congr 1;rw [Bool.eq_iff_iff,beq_iff_eq,Nat.beq_eq];exact ⟨fun e=>Int.ofNat.inj e,fun e=>by rw [e]⟩
 | lss =>
  have h':Gl k a b=some v:=h;simp only [Gl,Option.some.injEq] at h';subst h';simp only [binOp,ne_eq,not_true,if_false,Op.intCmp];congr 2;rw [Bool.eq_iff_iff,decide_eq_true_iff];show (Int.ofNat a<Int.ofNat b)↔Nat.ble (a+1) b=true;rw [Nat.ble_eq,Int.ofNat_eq_natCast,Int.ofNat_eq_natCast];omega
 | leq =>
  have h':Gm k a b=some v:=h;simp only [Gm,Option.some.injEq] at h';subst h';simp only [binOp,ne_eq,not_true,if_false,Op.intCmp];congr 2;rw [Bool.eq_iff_iff,decide_eq_true_iff,Nat.ble_eq,Int.ofNat_eq_natCast,Int.ofNat_eq_natCast];omega
 | gtr =>
  have h':Gn k a b=some v:=h;simp only [Gn,Option.some.injEq] at h';subst h';simp only [binOp,ne_eq,not_true,if_false,Op.intCmp];congr 2;rw [Bool.eq_iff_iff,decide_eq_true_iff];show (Int.ofNat a > Int.ofNat b)↔Nat.ble (b+1) a=true;rw [Nat.ble_eq,Int.ofNat_eq_natCast,Int.ofNat_eq_natCast];omega
 | geq =>
  have h':Gp k a b=some v:=h;simp only [Gp,Option.some.injEq] at h';subst h';simp only [binOp,ne_eq,not_true,if_false,Op.intCmp];congr 2;rw [Bool.eq_iff_iff,decide_eq_true_iff,Nat.ble_eq,Int.ofNat_eq_natCast,Int.ofNat_eq_natCast];omega
theorem Bd (op:BinOp) (k j:IntKind) (a b:Nat) (v:Value) (t:TypeId) (h:Je op k a b=some v):binOp op t (.int k (.ofNat a)) (.int j (.ofNat b))=pure v:=by
 cases op <;> try (cases h;done)
 ·have h':Gq k a b=some v:=h;simp only [Gq,Option.some.injEq] at h';subst h'
  have hn:¬ (Int.ofNat b<0):=by rw [Int.ofNat_eq_natCast];omega
  simp only [binOp,Op.shift,hn,if_false,fZ];congr 3
 ·have h':Gr k a b=some v:=h;simp only [Gr,Option.some.injEq] at h';subst h'
  have hn:¬ (Int.ofNat b<0):=by rw [Int.ofNat_eq_natCast];omega
  simp only [binOp,Op.shift,hn,if_false];congr 2;show (Int.ofNat a).fdiv (2 ^ (min (Int.ofNat b).toNat k.bits))=((a / 2 ^ (Nat.min b k.bits):Nat):Int)
  have e:(2 ^ (min (Int.ofNat b).toNat k.bits):Int)=((2 ^ (Nat.min b k.bits):Nat):Int):=by push_cast;rfl
  rw [e,Int.ofNat_eq_natCast,Int.fdiv_eq_ediv_of_nonneg _ (Int.natCast_nonneg _),Int.natCast_ediv]
section
variable {C:Ctx} {B:Nat} {X:cK} {m:M ω} {s s':AS} {w:World} {a:T Value} {act:Act} {n:Nat}
theorem nE (P:Program) (op:BinOp) (t:TypeId) (x y:Operand) (k j:IntKind) (p q:Int):(eqGuard op t x y (.int k p) (.int j q)).run P w=.ok () w:=by
 unfold eqGuard
 cases op <;> rfl
theorem kV {v:Value} (h:VRel m (.pointer none) v):v=.pointer none:=aK h rfl
theorem bM {v:Value} (h:VRel m (.slice none 0 0) v):v=.slice none 0 0:=aK h rfl
theorem kW {v:Value} (h:VRel m (.map none) v):v=.map none:=aK h rfl
theorem sj {v:Value} (h:VRel m .nilIface v):v=.nilIface:=aK h rfl
theorem sk {v:Value} (h:VRel m .nilFunc v):v=.nilFunc:=aK h rfl
theorem bu {p:Addr} {v:Value} (h:VRel m (.pointer (some p)) v):∃ p',iz m p p'/\v=.pointer (some p'):=by
 cases h with
 | plain v h=>simp [am] at h
 | ptr a a' h=>exact ⟨a',h,rfl⟩
theorem aU {p:Addr} {k c:Nat} {v:Value} (h:VRel m (.slice (some p) k c) v) :
 ∃ p' c',v=.slice (some p') k c'/\((iz m p p'/\AZ m p c c'/\k<=c)\/(k=0/\c=0/\c'=0)):=by
 cases h with
 | plain v h=>simp [am] at h
 | slice a a' n c c' h hc hn=>exact ⟨a',c',rfl,.inl ⟨h,hc,hn⟩⟩
 | slice0 a a' h=>exact ⟨a',0,rfl,.inr ⟨rfl,rfl,rfl⟩⟩
theorem eq {p:Addr} {k c:Nat} {v:Value} (h:VRel m (.slice (some p) k c) v):∃ i,m p.block=some i:=by
 cases h with
 | plain v h=>simp [am] at h
 | slice a a' n c c' h hc hn=>obtain ⟨_,i,hi,_⟩:=h;exact ⟨i,hi⟩
 | slice0 a a' h=>exact h
theorem l6 {b:Nat} {v:Value} (h:VRel m (.map (some b)) v):∃ i,m b=some i/\v=.map (some i.r):=by
 cases h with
 | plain v h=>simp [am] at h
 | map b i h=>exact ⟨i,h,rfl⟩
theorem bQ {t:TypeId} {u v:Value} (h:VRel m (.iface t u) v):∃ u',VRel m u u'/\v=.iface t u':=by
 cases h with
 | plain v h=>simp [am] at h
 | iface t v v' h=>exact ⟨v',h,rfl⟩
theorem bg {k:IntKind} {p:Int} {v:Value} (h:VRel m (.int k p) v):v=.int k p:=aK h rfl
theorem fo {b:ByteArray} {v:Value} (h:VRel m (.string b) v):v=.string b:=aK h rfl
theorem p8 {b:Bool} {v:Value} (h:VRel m (.bool b) v):v=.bool b:=aK h rfl
def IZ (P:Program) (w:World) (t:TypeId) (x' y':Value) (b:Bool):Prop :=
 (Op.equal t x' y').run P w=.ok b w/\(∀ (op:BinOp) (ox oy:Operand),(eqGuard op t ox oy x' y').run P w=.ok () w) /\
  binOp .eql t x' y'=(do pure (.bool (<-Op.equal t x' y')))/\binOp .neq t x' y'=(do pure (.bool (!(<-Op.equal t x' y'))))
theorem iz.fn {a b a' b':Addr} (ha:iz m a a') (hb:iz m b b') (h:(Nat.beq a.block b.block && Nat.beq a.off b.off)=true):a'=b':=by
 rw [Bool.and_eq_true] at h;obtain ⟨_,i,hi,rfl⟩:=ha;obtain ⟨_,j,hj,rfl⟩:=hb;rw [bE h.1,hj] at hi
 cases hi
 rw [bE h.2]
theorem aY (t:TypeId) (x y:Value):Op.equal t x y=Op.equalIn (9999+1) t x y:=rfl
theorem Be (hC:aM ω C) {t:TypeId} {x y x' y':Value} {b:Bool} (hx:VRel m x x') (hy:VRel m y y') (h:ID C t x y=some b):IZ C.P w t x' y' b:=by
 unfold ID at h
 cases hu:C.un t with
 | none=>simp [hu] at h
 | some d =>
  have hd:=hC.un t d hu;have hun:(underlying t).run C.P w=.ok d w:=run_underlying hd w;rw [hu] at h
  cases d <;> try (simp at h;done)
  ·simp only at h
   split at h
   ·cases h;obtain rfl:=kV hx;obtain ⟨p',_,rfl⟩:=bu hy
    exact ⟨by rw [aY,Op.equalIn];simp only [Sem.run_bind,hun,Result.andThen_ok];rfl,fun op _ _=>by cases op <;> rfl,rfl,rfl⟩
   ·cases h;obtain rfl:=kV hy;obtain ⟨p',_,rfl⟩:=bu hx
    exact ⟨by rw [aY,Op.equalIn];simp only [Sem.run_bind,hun,Result.andThen_ok];rfl,fun op _ _=>by cases op <;> rfl,rfl,rfl⟩
   ·rename_i ap bp
    cases hab:(Nat.beq ap.block bp.block && Nat.beq ap.off bp.off) with
    | false=>rw [hab] at h;cases h
    | true =>
     rw [hab] at h;simp only [cond_true] at h
     split at h
     ·rename_i sz hsz
      cases h
      obtain ⟨ti,hti,_⟩:=aE hC hsz;obtain ⟨p',hp,rfl⟩:=bu hx;obtain ⟨q',hq,rfl⟩:=bu hy;obtain rfl:=iz.fn hp hq hab;refine ⟨?_,fun op _ _=>by cases op <;> rfl,rfl,rfl⟩;rw [aY,Op.equalIn];simp only [Sem.run_bind,hun,Result.andThen_ok];simp [sizeOf,typeInfo,hti,sameAddr]
     ·cases h
   ·cases h
  ·simp only at h
   split at h
   ·cases h;obtain rfl:=bM hx;obtain ⟨p',c',rfl,_⟩:=aU hy
    exact ⟨by rw [aY,Op.equalIn];simp only [Sem.run_bind,hun,Result.andThen_ok];rfl,fun op _ _=>by cases op <;> rfl,rfl,rfl⟩
   ·cases h;obtain rfl:=bM hy;obtain ⟨p',c',rfl,_⟩:=aU hx
    exact ⟨by rw [aY,Op.equalIn];simp only [Sem.run_bind,hun,Result.andThen_ok];rfl,fun op _ _=>by cases op <;> rfl,rfl,rfl⟩
   ·cases h
  ·simp only at h
   split at h
   ·cases h;obtain rfl:=kW hx;obtain ⟨i,_,rfl⟩:=l6 hy
    exact ⟨by rw [aY,Op.equalIn];simp only [Sem.run_bind,hun,Result.andThen_ok];rfl,fun op _ _=>by cases op <;> rfl,rfl,rfl⟩
   ·cases h;obtain rfl:=kW hy;obtain ⟨i,_,rfl⟩:=l6 hx
    exact ⟨by rw [aY,Op.equalIn];simp only [Sem.run_bind,hun,Result.andThen_ok];rfl,fun op _ _=>by cases op <;> rfl,rfl,rfl⟩
   ·cases h
  ·simp only at h
   split at h
   ·cases h;obtain rfl:=sk hx
    cases hy with
    | plain v h=>simp [am] at h
    | func f fs fs' cs cs' h1 h2 h k=>exact ⟨by rw [aY,Op.equalIn];simp only [Sem.run_bind,hun,Result.andThen_ok];rfl,fun op _ _=>by cases op <;> rfl,rfl,rfl⟩
    | yield b i h=>exact ⟨by rw [aY,Op.equalIn];simp only [Sem.run_bind,hun,Result.andThen_ok];rfl,fun op _ _=>by cases op <;> rfl,rfl,rfl⟩
   ·cases h;obtain rfl:=sk hy
    cases hx with
    | plain v h=>simp [am] at h
    | func f fs fs' cs cs' h1 h2 h k=>exact ⟨by rw [aY,Op.equalIn];simp only [Sem.run_bind,hun,Result.andThen_ok];rfl,fun op _ _=>by cases op <;> rfl,rfl,rfl⟩
    | yield b i h=>exact ⟨by rw [aY,Op.equalIn];simp only [Sem.run_bind,hun,Result.andThen_ok];rfl,fun op _ _=>by cases op <;> rfl,rfl,rfl⟩
   ·cases h
  ·simp only at h
   split at h
   ·cases h;obtain rfl:=sj hx;obtain ⟨u',_,rfl⟩:=bQ hy
    exact ⟨by rw [aY,Op.equalIn];simp only [Sem.run_bind,hun,Result.andThen_ok];rfl,fun op _ _=>by cases op <;> rfl,rfl,rfl⟩
   ·cases h;obtain rfl:=sj hy;obtain ⟨u',_,rfl⟩:=bQ hx
    exact ⟨by rw [aY,Op.equalIn];simp only [Sem.run_bind,hun,Result.andThen_ok];rfl,fun op _ _=>by cases op <;> rfl,rfl,rfl⟩
   ·rename_i tp vp tq vq;obtain ⟨u',_,rfl⟩:=bQ hx;obtain ⟨z',_,rfl⟩:=bQ hy
    cases hpq:Nat.beq tp tq with
    | true=>rw [hpq] at h;cases h
    | false =>
     rw [hpq] at h;cases h;have hne:tp≠tq:=Nat.ne_of_beq_eq_false hpq;exact ⟨by rw [aY,Op.equalIn];simp only [Sem.run_bind,hun,Result.andThen_ok];rw [if_pos hne];rfl,fun op _ _=>by cases op <;> rfl,rfl,rfl⟩
   ·cases h
theorem iE (hC:aM ω C) {op:BinOp} {t:TypeId} {ox oy:Operand} {x y x' y' v:Value} (hx:VRel m x x') (hy:VRel m y y') (h:pM C op t ox oy x y=some v) :
 ∃ v',(do eqGuard op t ox oy x' y';binOp op t x' y':Sem Value).run C.P w=.ok v' w/\VRel m v v':=by
 have heq:∀ {v},tJ C op t x y=some v->∃ v',(do eqGuard op t ox oy x' y';binOp op t x' y':Sem Value).run C.P w=.ok v' w/\VRel m v v':=by
  intro v h;unfold tJ at h
  cases hb:C4 C op t x y with
  | none =>
   rw [hb] at h;exact hC.bin op t ox oy x y v h m x' y' w hx hy
  | some u =>
  rw [hb] at h
  cases h
  have h:=hb;unfold C4 at h
  cases he:ID C t x y with
  | none=>simp [he] at h
  | some b =>
   obtain ⟨e1,e2,e3,e4⟩:=Be (w:=w) hC hx hy he;rw [he] at h
   cases op <;> try (cases h;done)
   ·cases h;exact ⟨_,by simp [e2,e3,e1],.plain _ rfl⟩
   ·cases h;exact ⟨_,by simp [e2,e4,e1],.plain _ rfl⟩
 unfold pM at h
 cases h1:bi x with
 | false=>rw [h1] at h;exact heq h
 | true =>
  cases h2:bi y with
  | false=>rw [h1,h2] at h;exact heq h
  | true =>
   rw [h1,h2] at h;simp only [cond_true] at h;rw [iD hx h1,iD hy h2];unfold zi at h
   cases h3:eG C.P (do eqGuard op t ox oy x y;binOp op t x y) with
   | none=>simp [h3] at h
   | some u =>
    cases h4:am u with
    | false=>simp [h3,h4] at h
    | true =>
     simp [h3,h4] at h;subst h;exact ⟨_,jk _ _ h3 w,.plain _ h4⟩
theorem Bf {op:BinOp} {k:IntKind} {p q:Nat} {v:Value} (h:IE op k p q=some v):am v=true:=by
 cases op <;> first
  | (cases h;done)
  | (cases h;rfl)
  | (obtain ⟨_,_,rfl⟩:=l5 h;rfl)
  | (
   have h':C2 k p q=some v:=h;unfold C2 at h'
   cases hb:Nat.beq q 0 <;> simp [hb] at h'
   subst h';rfl)
  | (
   have h':C3 k p q=some v:=h;unfold C3 at h'
   cases hb:Nat.beq q 0 <;> simp [hb] at h'
   subst h';rfl)
theorem yd (hC:aM ω C) {op:BinOp} {t:TypeId} {ox oy:Operand} {x y x' y' v:Value} (hx:VRel m x x') (hy:VRel m y y') (h:EM C op t ox oy x y=some v) :
 ∃ v',(do eqGuard op t ox oy x' y';binOp op t x' y':Sem Value).run C.P w=.ok v' w/\VRel m v v':=by
 unfold EM at h
 split at h
 ·rename_i k p;unfold C5 at h
  split at h
  ·rename_i j q;obtain rfl:=bg hx;obtain rfl:=bg hy
   cases hsh:zh op with
   | true =>
    simp only [hsh,cond_true] at h
    have hp:am v=true:=by cases op <;> first | (cases h;done) | (cases h;rfl)
    exact ⟨v,by simp only [Sem.run_bind,nE,Result.andThen_ok,Bd op k j p q v t h];rfl,.plain _ hp⟩
   | false =>
    simp only [hsh,cond_false] at h
    cases hk:xP k j with
    | false=>simp [hk] at h
    | true =>
     simp only [hk,cond_true] at h;have hkj:k=j:=of_decide_eq_true hk;subst hkj
     cases ho:IE op k p q with
     | some u =>
      simp [ho] at h;subst h;exact ⟨u,by simp only [Sem.run_bind,nE,Result.andThen_ok,Bc op k p q u t ho];rfl,.plain _ (Bf ho)⟩
     | none =>
      simp [ho] at h;exact iE hC hx hy h
  ·exact iE hC hx hy h
 ·exact iE hC hx hy h
theorem Bg (hC:aM ω C) (hs:SR B X m s w) (ht:TR m n a act) {op:BinOp} {t:TypeId} {x y:Operand} {r:R} (h:jN op t x y C a s=some (r,s')) :
 bD C B X m s' w r ((do let z <-(do eqGuard op t x y (act.eval x) (act.eval y);binOp op t (act.eval x) (act.eval y):Sem Value);pure (Next.value z):Sem Next).run C.P w):=by
 unfold jN at h
 cases h1:aQ a x with
 | none=>simp [h1] at h
 | some u =>
  cases h2:aQ a y with
  | none=>simp [h1,h2] at h
  | some v =>
   cases h3:EM C op t x y u v with
   | none=>simp [h1,h2,h3] at h
   | some z =>
    simp [h1,h2,h3] at h;obtain ⟨rfl,rfl⟩:=h;obtain ⟨v',hr,hv⟩:=yd (w:=w) hC (oS ht h1) (oS ht h2) h3;exact bc.op (bc.same hs hr hv)
end
end Go.Proofs.YtgohffhoapkeaaaGreatDoor.Ev
namespace Go.Proofs.YtgohffhoapkeaaaGreatDoor.Ev
open Go.RowKit
variable {ω:Nat->Value}
section
variable {C:Ctx} {B:Nat} {X:cK} {m:M ω} {s s':AS} {w:World} {a:T Value} {act:Act} {n:Nat}
theorem p9 (hs:SR B X m s w) (ht:TR m n a act) (o:Oper) {x:Operand} (ho:o.op=.nilCheck x) {r:R} (h:ef x C a s=some (r,s')) :
 bD C B X m s' w r ((execOp act.eval o).run C.P w):=by
 unfold ef at h
 cases h1:aQ a x with
 | none=>simp [h1] at h
 | some u =>
  have hu:=oS ht h1;rw [h1] at h
  have fin:∀ y,act.eval x=y->(∀ f i c,y≠.func (.method f) i c)->y≠.pointer none->y≠.nilIface->y≠.nilFunc->VRel m u y->some (R.val u,s)=some (r,s')->bD C B X m s' w r ((execOp act.eval o).run C.P w):=by
   intro y hy h1 h2 h3 h4 hv he
   cases he
   refine ⟨.value y,w,m,?_,Le.refl _,hs,bR _ _,hv⟩;unfold execOp;simp only [ho,hy]
   first | rfl | (split <;> first | rfl | (simp_all;done))
  cases u <;> try (simp at h;done)
  ·rename_i p
   cases p with
   | none=>simp at h
   | some p=>obtain ⟨p',hp,e⟩:=bu hu;exact fin _ e (by simp) (by simp) (by simp) (by simp) (e ▸ hu) h
  ·rename_i p k c;generalize hy:act.eval x=y at hu
   cases hu with
   | plain v hp=>exact fin _ hy (by simp) (by simp) (by simp) (by simp) (.plain _ hp) h
   | slice b b' n c c' g1 g2 g3=>exact fin _ hy (by simp) (by simp) (by simp) (by simp) (.slice _ _ _ _ _ g1 g2 g3) h
   | slice0 b b' hb0=>exact fin _ hy (by simp) (by simp) (by simp) (by simp) (.slice0 _ _ hb0) h
  ·rename_i p;generalize hy:act.eval x=y at hu
   cases hu with
   | plain v hp=>exact fin _ hy (by simp) (by simp) (by simp) (by simp) (.plain _ hp) h
   | map b i hm=>exact fin _ hy (by simp) (by simp) (by simp) (by simp) (.map b i hm) h
  ·rename_i fn f c;generalize hy:act.eval x=y at hu
   cases hu with
   | plain v hp=>simp [am] at hp
   | func f fs fs' cs cs' e1 e2 e3 e4=>exact fin _ hy (by simp) (by simp) (by simp) (by simp) (.func _ _ _ _ _ e1 e2 e3 e4) h
   | yield b i hm=>simp at h
  ·obtain ⟨u',hp,e⟩:=bQ hu;exact fin _ e (by simp) (by simp) (by simp) (by simp) (e ▸ hu) h
theorem ye (hs:SR B X m s w) (ht:TR m n a act) {op:UnOp} {x:Operand} {r:R} (h:mZ op x C a s=some (r,s')) :
 bD C B X m s' w r ((do let z <-Op.unary op (act.eval x);pure (Next.value z):Sem Next).run C.P w):=by
 unfold mZ at h
 cases h1:aQ a x with
 | none=>simp [h1] at h
 | some u =>
  cases h2:am u with
  | false=>simp [h1,h2] at h
  | true =>
   cases h3:eG C.P (Op.unary op u) with
   | none=>simp [h1,h2,h3] at h
   | some z =>
    cases h4:am z with
    | false=>simp [h1,h2,h3,h4] at h
    | true =>
     simp [h1,h2,h3,h4] at h;obtain ⟨rfl,rfl⟩:=h;rw [aK (oS ht h1) h2];exact bc.op (bc.same hs (jk _ _ h3 w) (.plain _ h4))
theorem kj (hC:aM ω C) (hs:SR B X m s w) (ht:TR m n a act) {t:TypeId} {x:Operand} {r:R} (h:bz t x C a s=some (r,s')) :
 bD C B X m s' w r ((do let z <-Instr.makeInterface t (act.eval x);pure (Next.value z):Sem Next).run C.P w):=by
 unfold bz at h
 cases h1:aQ a x with
 | none=>simp [h1] at h
 | some u =>
  cases h2:C.un t with
  | none=>simp [h1,h2] at h
  | some d =>
   have hd:=hC.un t d h2;refine (fun (key:some (R.val (.iface t u),s)=some (r,s')/\(Instr.makeInterface t (act.eval x)).run C.P w=.ok (.iface t (act.eval x)) w)=>?_) ?_
   ·obtain ⟨he,hr⟩:=key
    cases he
    exact bc.op (bc.same hs hr (.iface t _ _ (oS ht h1)))
   ·cases d <;> first | (simp [h1,h2] at h;done) | exact ⟨by simpa [h1,h2] using h,by simp [Instr.makeInterface,run_underlying hd]⟩
theorem qa (hs:SR B X m s w) (ht:TR m n a act) {f:FuncId} {fs cs:Array Operand} {r:R} (h:dE f fs cs C a s=some (r,s')) :
 bD C B X m s' w r ((do let z <-Instr.makeFunc (.func f) (fs.map act.eval) (cs.map act.eval);pure (Next.value z):Sem Next).run C.P w):=by
 unfold dE at h
 cases h1:fe a fs.toList with
 | none=>simp [h1] at h
 | some l =>
  cases h2:fe a cs.toList with
  | none=>simp [h1,h2] at h
  | some k =>
   simp [h1,h2] at h;obtain ⟨rfl,rfl⟩:=h;have g1:=dN ht h1;have g2:=dN ht h2
   have e1:fs.map act.eval=(fs.toList.map act.eval).toArray:=by apply Array.ext';simp
   have e2:cs.map act.eval=(cs.toList.map act.eval).toArray:=by apply Array.ext';simp
   rw [e1,e2];exact bc.op (bc.same hs rfl (.func f _ _ _ _ (by simpa using g1.1) (by simpa using g2.1) g1.arr g2.arr))
theorem vN (hB:B<=w.heap.size) {t:TypeId} {o:AObj} {f:Nat->Value} (h:gU C a=some (o,f)) :
 jj B m w o f ((do let z <-Instr.makeMap t none;pure (Next.value z):Sem Next).run C.P w):=by
 unfold gU at h
 cases h
 exact ⟨.map (some w.heap.size),w.alloc (.map #[] 0),⟨w.heap.size,0,0,0,false,0⟩,by simp [Instr.makeMap],rfl,by simp,fun k hk=>Below.heap_alloc w _ k hk,(bR _ _).alloc hB _,
  ⟨[],heap_alloc_new w _,rfl,fun k e e' h=>by simp at h⟩,fun m' b hb=>.map b _ hb⟩
theorem ri (hs:SR B X m s w) (ht:TR m n a act) {x:Operand} {i:Nat} {r:R} (h:fC x i C a s=some (r,s')) :
 bD C B X m s' w r ((do let z <-Instr.extract (act.eval x) i;pure (Next.value z):Sem Next).run C.P w):=by
 unfold fC at h
 cases h1:aQ a x with
 | none=>simp [h1] at h
 | some u =>
  have hu:=oS ht h1;rw [h1] at h
  cases u <;> try (simp at h;done)
  rename_i vs;generalize hy:act.eval x=y at hu
  cases hu with
  | plain v hp=>simp [am] at hp
  | tuple cs cs' hsz hrel =>
   cases h2:vs.toList[i]? with
   | none=>simp [h2] at h
   | some v =>
    simp only [h2,Option.some.injEq,Prod.mk.injEq] at h;obtain ⟨rfl,rfl⟩:=h
    have hi:i<vs.size:=by have:=(lS.1 h2).1;simpa using this
    have e1:=fY vs i hi;rw [h2] at e1;cases e1
    have e2:cs'[i]?=some (cs'.getD i undef):=by rw [<-Array.getElem?_toList];exact fY cs' i (by omega)
    exact bc.op (bc.same hs (v':=cs'.getD i undef) (by simp only [Instr.extract,e2];rfl) (hrel i hi))
theorem addr_add {p p':Addr} {k:Nat} (h:iz m p p'):iz m ⟨p.block,p.off+k,p.spot⟩ (p'.add k):=by
 obtain ⟨h1,i,h2,rfl⟩:=h;refine ⟨h1,i,h2,?_⟩;rw [add_lit];simp;omega
theorem od (hC:aM ω C) (hs:SR B X m s w) (ht:TR m n a act) {t:TypeId} {x:Operand} {f:Nat} {r:R} (h:dL t x f C a s=some (r,s')) :
 bD C B X m s' w r ((do let z <-Instr.fieldAt t (act.eval x) f;pure (Next.value z):Sem Next).run C.P w):=by
 unfold dL at h
 split at h
 ·rename_i fs p hu hx;obtain ⟨p',hp,he⟩:=bu (oS ht hx);have hun:=hC.un t _ hu
  split at h
  ·rename_i fl hf
   split at h
   ·cases h
   ·rename_i k hne hk
    cases h
    obtain ⟨i,hi,rfl⟩:=aE hC hk
    have hf':fs[f]?=some fl:=by unfold fieldAt at hf;simpa using hf
    have hz:¬ i.size=0:=hne;exact bc.op (bc.same hs (v':=.pointer (some (p'.add fl.offset))) (by simp [Instr.fieldAt,run_underlying hun,hf',he,Instr.sureAddr,fieldPlace,sizeOf,typeInfo,hi,hz]) (.ptr _ _ (addr_add hp)))
   ·cases h
  ·cases h
 ·cases h
theorem oe (hC:aM ω C) (hs:SR B X m s w) (ht:TR m n a act) {t:TypeId} {x i:Operand} {r:R} (h:dM t x i C a s=some (r,s')) :
 bD C B X m s' w r ((do let z <-Instr.indexAt t (act.eval x) (act.eval i);pure (Next.value z):Sem Next).run C.P w):=by
 unfold dM at h
 split at h
 ·rename_i e p k c kk q hu hx hi;obtain ⟨p',c',he,hor⟩:=aU (oS ht hx);have hi':=bg (oS ht hi);have hun:=hC.un t _ hu
  split at h
  ·rename_i sz hz
   split at h
   ·rename_i hb
    cases h
    obtain ⟨ti,hti,rfl⟩:=aE hC hz
    rcases hor with ⟨hp,_,_⟩ | ⟨rfl,_,_⟩
    ·exact bc.op (bc.same hs (v':=.pointer (some (p'.add (q.toNat*ti.size)))) (by simp [Instr.indexAt,run_underlying hun,he,hi',asIntOf,sizeOf,typeInfo,hti,hb.1,hb.2]) (.ptr _ _ (addr_add hp)))
    ·omega
   ·cases h
  ·cases h
 ·rename_i k e p kk q hu hx hi;obtain ⟨p',hp,he⟩:=bu (oS ht hx);have hi':=bg (oS ht hi);have hun:=hC.un t _ hu
  split at h
  ·rename_i sz hz
   split at h
   ·rename_i hb
    cases h
    obtain ⟨ti,hti,rfl⟩:=aE hC hz;exact bc.op (bc.same hs (v':=.pointer (some (p'.add (q.toNat*ti.size)))) (by simp [Instr.indexAt,run_underlying hun,he,hi',asIntOf,Instr.sureAddr,sizeOf,typeInfo,hti,hb.1,hb.2]) (.ptr _ _ (addr_add hp)))
   ·cases h
  ·cases h
 ·cases h
end
end Go.Proofs.YtgohffhoapkeaaaGreatDoor.Ev
namespace Go.Proofs.YtgohffhoapkeaaaGreatDoor.Ev
open Go.RowKit
variable {ω:Nat->Value}
section
variable {C:Ctx} {B:Nat} {X:cK} {m:M ω} {s s':AS} {w:World} {a:T Value} {act:Act} {n:Nat}
theorem eu (ht:TR m n a act) {x:Option Operand} {v:Option Int} (h:B6 a x=some v) :
 (x=none/\v=none)\/∃ o k q,x=some o/\v=some q/\act.eval o=.int k q:=by
 cases x with
 | none=>simp [B6] at h;exact .inl ⟨rfl,h.symm⟩
 | some o =>
  simp only [B6] at h
  cases h1:aQ a o with
  | none=>simp [h1] at h
  | some u =>
   rw [h1] at h
   cases u <;> try (simp at h;done)
   rename_i k q;simp at h;exact .inr ⟨o,k,q,rfl,h.symm,bg (oS ht h1)⟩
theorem cO {v:Int} {y i:Nat} (h:AF v y=some i) (k:IntKind) (code:BoundsCode):(Instr.sliceBound (.int k v) y code).run C.P w=.ok i w:=by
 unfold AF at h
 split at h
 ·rename_i hb
  cases h
  simp [Instr.sliceBound,asIntOf,hb.1,hb.2]
 ·cases h
theorem fE (ht:TR m n a act) (isSl:Bool) {k c:Nat} {lo hi mx:Option Operand} {l h x:Option Int} (h1:B6 a lo=some l) (h2:B6 a hi=some h) (h3:B6 a mx=some x) {r:Nat × Nat × Nat} (hc:cut k c l h x=some r) :
 (Instr.sliceBounds isSl k c (lo.map act.eval) (hi.map act.eval) (mx.map act.eval)).run C.P w=.ok r w:=by
 rcases eu ht h3 with ⟨rfl,rfl⟩ | ⟨ox,kx,qx,rfl,rfl,ex⟩
 ·simp only [cut] at hc
  rcases eu ht h2 with ⟨rfl,rfl⟩ | ⟨oh,kh,qh,rfl,rfl,eh⟩
  ·simp only [ky] at hc
   rcases eu ht h1 with ⟨rfl,rfl⟩ | ⟨ol,kl,ql,rfl,rfl,el⟩
   ·simp only [fU,Option.some.injEq] at hc;subst hc;simp [Instr.sliceBounds]
   ·simp only [fU] at hc
    split at hc
    ·rename_i i hi;simp only [Option.some.injEq] at hc;subst hc;simp [Instr.sliceBounds,el,cO (C:=C) (w:=w) hi kl]
    ·cases hc
  ·simp only [ky] at hc
   split at hc
   ·rename_i hh hq
    rcases eu ht h1 with ⟨rfl,rfl⟩ | ⟨ol,kl,ql,rfl,rfl,el⟩
    ·simp only [fU,Option.some.injEq] at hc;subst hc;simp [Instr.sliceBounds,eh,cO (C:=C) (w:=w) hq kh]
    ·simp only [fU] at hc
     split at hc
     ·rename_i i hi;simp only [Option.some.injEq] at hc;subst hc;simp [Instr.sliceBounds,el,cO (C:=C) (w:=w) hi kl,eh,cO (C:=C) (w:=w) hq kh]
     ·cases hc
   ·cases hc
 ·simp only [cut] at hc
  split at hc
  ·rename_i mm uu hq
   rcases eu ht h2 with ⟨rfl,e⟩ | ⟨oh,kh,qh,rfl,e,eh⟩
   ·cases e
   ·cases e
    simp only [ky] at hc
    split at hc
    ·rename_i hh hq2
     rcases eu ht h1 with ⟨rfl,rfl⟩ | ⟨ol,kl,ql,rfl,rfl,el⟩
     ·simp only [fU,Option.some.injEq] at hc;subst hc;simp [Instr.sliceBounds,eh,ex,cO (C:=C) (w:=w) hq kx,cO (C:=C) (w:=w) hq2 kh]
     ·simp only [fU] at hc
      split at hc
      ·rename_i i hi;simp only [Option.some.injEq] at hc;subst hc;simp [Instr.sliceBounds,el,cO (C:=C) (w:=w) hi kl,eh,ex,cO (C:=C) (w:=w) hq kx,cO (C:=C) (w:=w) hq2 kh]
      ·cases hc
    ·cases hc
  ·cases hc
theorem tV {v:Int} {y i:Nat} (h:AF v y=some i):i<=y:=by
 unfold AF at h
 split at h
 ·cases h;omega
 ·cases h
theorem tW {k c:Nat} {lo hi mx:Option Int} {i j q:Nat} (hk:k<=c) (h:cut k c lo hi mx=some (i,j,q)):i<=j/\j<=q/\q<=c/\(mx=none->q=c):=by
 have low:∀ (hh mm:Nat),fU hh mm lo=some (i,j,q)->i<=hh/\j=hh/\q=mm:=by
  intro hh mm hr
  cases lo with
  | none=>simp [fU] at hr;omega
  | some v =>
   simp only [fU] at hr
   split at hr
   ·rename_i x hx;simp at hr;have:=tV hx;omega
   ·cases hr
 cases mx with
 | none =>
  simp only [cut] at h
  cases hi with
  | none=>simp only [ky] at h;have:=low _ _ h;exact ⟨by omega,by omega,by omega,fun _=>by omega⟩
  | some v =>
   simp only [ky] at h
   split at h
   ·rename_i x hx;have:=tV hx;have:=low _ _ h;exact ⟨by omega,by omega,by omega,fun _=>by omega⟩
   ·cases h
 | some v =>
  simp only [cut] at h
  split at h
  ·rename_i mm uu hq;simp only [ky] at h
   split at h
   ·rename_i x hx;have:=tV hx;have:=tV hq;have:=low _ _ h;exact ⟨by omega,by omega,by omega,fun e=>by cases e⟩
   ·cases h
  ·cases h
theorem Bh {k c c':Nat} {lo hi mx:Option Int} {i j q:Nat} (hc:c<=c') (h:cut k c lo hi mx=some (i,j,q)):∃ q',cut k c' lo hi mx=some (i,j,q')/\(q=q'\/(q=c/\q'=c')):=by
 have chkw:∀ (v:Int) (x:Nat),AF v c=some x->AF v c'=some x:=by
  intro v x hx;unfold AF at hx ⊢
  split at hx
  ·cases hx;rw [if_pos (by omega)]
  ·cases hx
 have low:∀ (hh mm mm':Nat) (l:Option Int),fU hh mm l=some (i,j,q)->q=mm/\fU hh mm' l=some (i,j,mm'):=by
  intro hh mm mm' l hr
  cases l with
  | none=>simp [fU] at hr ⊢;omega
  | some v =>
   simp only [fU] at hr ⊢
   split at hr
   ·rename_i x hx;simp at hr ⊢;omega
   ·cases hr
 cases mx with
 | none =>
  simp only [cut] at h ⊢
  cases hi with
  | none=>simp only [ky] at h ⊢;obtain ⟨e,h'⟩:=low _ _ c' _ h;exact ⟨c',h',.inr ⟨e,rfl⟩⟩
  | some v =>
   simp only [ky] at h ⊢
   split at h
   ·rename_i x hx;rw [chkw v x hx];obtain ⟨e,h'⟩:=low _ _ c' _ h;exact ⟨c',h',.inr ⟨e,rfl⟩⟩
   ·cases h
 | some v =>
  simp only [cut] at h ⊢
  split at h
  ·rename_i mm uu hq;rw [chkw v mm hq];exact ⟨q,h,.inl rfl⟩
  ·cases h
theorem zE {p p':Addr} {c c' i j q sz:Nat} (ha:iz m p p') (hle:i<=j/\j<=q) (hq:q<=c) (q':Nat) (h:q=q'\/(q=c/\q'=c'/\AZ m p c c'/\∀ x,m p.block=some x->x.opn=true->x.esz=sz)) :
 VRel m (.slice (some ⟨p.block,p.off+i*sz,p.spot⟩) (j-i) (q-i)) (.slice (if q'=i then some p' else some (p'.add (i*sz))) (j-i) (q'-i)):=by
 have hqq:q<=q':=by
  rcases h with rfl | ⟨rfl,rfl,hc,_⟩
  ·exact nR _
  ·rcases hc with rfl | ⟨h,_⟩
   ·exact nR _
   ·exact h
 by_cases hi:q'=i
 ·rw [if_pos hi,show j-i=0 by omega,show q-i=0 by omega,show q'-i=0 by omega];exact .slice0 _ _ (ha.2.imp fun i hi=>hi.1)
 ·rw [if_neg hi];refine .slice _ _ _ _ _ (addr_add ha) ?_ (by omega)
  rcases h with rfl | ⟨rfl,rfl,hc,hx⟩
  ·exact .inl rfl
  ·rcases hc with rfl | ⟨h1,x,h2,h3,h4,h5⟩
   ·exact .inl rfl
   ·have he:=hx x h2 h3;refine .inr ⟨by omega,x,h2,h3,?_,?_⟩
    ·show p.off+i*sz+(q-i)*x.esz=x.len;rw [he] at h4 ⊢;rw [Nat.add_assoc,<-Nat.add_mul,show i+(q-i)=q by omega];exact h4
    ·show x.d+(p.off+i*sz)+(q'-i)*x.esz<=x.tot;rw [he] at h5 ⊢
     have:i*sz+(q'-i)*sz=q'*sz:=by rw [<-Nat.add_mul];congr 1;omega
     omega
theorem vO (hC:aM ω C) (hs:SR B X m s w) (ht:TR m n a act) {t:TypeId} {x:Operand} {lo hi mx:Option Operand} {r:R} (h:jO t x lo hi mx C a s=some (r,s')) :
 bD C B X m s' w r ((do let z <-Instr.sliceAt t (act.eval x) (lo.map act.eval) (hi.map act.eval) (mx.map act.eval);pure (Next.value z):Sem Next).run C.P w):=by
 unfold jO at h
 split at h
 ·rename_i v l hh mm hx h1 h2 h3;have hv:=oS ht hx
  split at h
  ·rename_i e p k c hu;have hun:=hC.un t _ hu
   split at h
   ·rename_i i j q sz hcut hsz;obtain ⟨ti,hti,rfl⟩:=aE hC hsz
    split at h
    ·cases h
     generalize hy:act.eval x=y at hv
     cases hv with
     | plain v hp =>
      have hkc:k=0/\c=0:=by
       cases k <;> cases c <;> simp [am] at hp <;> exact ⟨rfl,rfl⟩
      obtain ⟨rfl,rfl⟩:=hkc;have hb:=fE (C:=C) (w:=w) ht true h1 h2 h3 hcut;have hle:=tW (nR 0) hcut
      have e1:i=0:=by omega
      have e2:j=0:=by omega
      have e3:q=0:=by omega
      subst e1 e2 e3;exact bc.op (bc.same hs (v':=.slice none 0 0) (by simp [Instr.sliceAt,Instr.slice,run_underlying hun,hb,sizeOf,typeInfo,hti]) (.plain _ rfl))
    ·rename_i ad;obtain ⟨p',c',hy,hor⟩:=aU hv
     have fin:∀ (hb:∃ k,fQ s ad.block=some k/\(k.opn=true->k.esz=ti.size)),some (R.val (.slice (some ⟨ad.block,ad.off+i*ti.size,ad.spot⟩) (j-i) (q-i)),s)=some (r,s') ->
      bD C B X m s' w r ((do let z <-Instr.sliceAt t (act.eval x) (lo.map act.eval) (hi.map act.eval) (mx.map act.eval);pure (Next.value z):Sem Next).run C.P w):=by
      rintro ⟨kb,hkb,hez⟩ he
      cases he
      obtain ⟨ib,g1⟩:=eq hv;obtain ⟨g2,⟨g3,g4,g5,_⟩,_,_⟩:=gG hs hkb g1
      rcases hor with ⟨hp,hcr,hkc⟩ | ⟨rfl,rfl,rfl⟩
      ·have hle:=tW hkc hcut
       obtain ⟨q',hb',hq'⟩:∃ q',(Instr.sliceBounds true k c' (lo.map act.eval) (hi.map act.eval) (mx.map act.eval)).run C.P w=.ok (i,j,q') w/\(q=q'\/(q=c/\q'=c')):=by
        rcases hcr with rfl | ⟨hcc,_⟩
        ·exact ⟨q,fE (C:=C) (w:=w) ht true h1 h2 h3 hcut,.inl rfl⟩
        ·obtain ⟨q',h4,h5⟩:=Bh hcc hcut;exact ⟨q',fE (C:=C) (w:=w) ht true h1 h2 h3 h4,h5⟩
       refine bc.op (bc.same hs (v':=.slice (if q'=i then some p' else some (p'.add (i*ti.size))) (j-i) (q'-i)) ?_ ?_)
       ·simp [Instr.sliceAt,Instr.slice,run_underlying hun,hy,hb',sizeOf,typeInfo,hti]
       ·refine zE (c':=c') hp ⟨hle.1,hle.2.1⟩ hle.2.2.1 q' ?_
        rcases hq' with e | ⟨e1,e2⟩
        ·exact .inl e
        ·exact .inr ⟨e1,e2,hcr,fun x hx ho=>by rw [g1] at hx;cases hx;rw [g5];exact hez (by rw [<-g4];exact ho)⟩
      ·have hb:=fE (C:=C) (w:=w) ht true h1 h2 h3 hcut;have hle:=tW (nR 0) hcut
       have e1:i=0:=by omega
       have e2:j=0:=by omega
       have e3:q=0:=by omega
       subst e1 e2 e3;exact bc.op (bc.same hs (v':=.slice (some p') 0 0) (by simp [Instr.sliceAt,Instr.slice,run_underlying hun,hy,hb,sizeOf,typeInfo,hti]) (.slice0 _ _ ⟨ib,g1⟩))
     split at h
     ·rename_i kb hkb
      cases ho:kb.opn with
      | false=>rw [ho] at h;exact fin ⟨kb,hkb,fun e=>by rw [ho] at e;cases e⟩ h
      | true =>
       rw [ho] at h
       cases hz:Nat.beq kb.esz ti.size with
       | false=>rw [hz] at h;cases h
       | true=>rw [hz] at h;exact fin ⟨kb,hkb,fun _=>bE hz⟩ h
     ·cases h
   ·cases h
  ·rename_i b hu;have hun:=hC.un t _ hu;have hy:=fo hv
   split at h
   ·rename_i i j q hcut
    cases h
    rcases eu ht h3 with ⟨rfl,_⟩ | ⟨_,_,_,_,e,_⟩
    ·have hb:=fE (C:=C) (w:=w) (mx:=none) ht false h1 h2 h3 hcut;exact bc.op (bc.same hs (v':=.string (b.extract i j)) (by simp at hb;simp [Instr.sliceAt,Instr.slice,run_underlying hun,hy,hb]) (.plain _ rfl))
    ·cases e
   ·cases h
  ·rename_i k e ad hu;have hun:=hC.un t _ hu;obtain ⟨p',hp,hy⟩:=bu hv
   split at h
   ·rename_i i j q sz hcut hsz
    cases h
    obtain ⟨ti,hti,rfl⟩:=aE hC hsz;have hb:=fE (C:=C) (w:=w) ht false h1 h2 h3 hcut;have hle:=tW (nR _) hcut;refine bc.op (bc.same hs (v':=.slice (if q=i then some p' else some (p'.add (i*ti.size))) (j-i) (q-i)) ?_ (zE (c':=q) hp ⟨hle.1,hle.2.1⟩ (nR _) q (.inl rfl)));simp [Instr.sliceAt,run_underlying hun,hy,Instr.sureAddr,hb,sizeOf,typeInfo,hti]
    split <;> rfl
   ·cases h
  ·cases h
 ·cases h
theorem gX (z:List Value):∀ k,(df k z).length=k*z.length
 | 0=>by simp [df]
 | k+1=>by rw [df,lQ,gX z k,Nat.add_mul];omega
theorem vP (z:List Value):∀ (k i:Nat),i<k*z.length->(df k z)[i]?=z[i % z.length]?
 | 0,i,h=>by simp at h
 | k+1,i,h=>by
  rw [df];by_cases hi:i<z.length
  ·rw [List.getElem?_append_left hi,Nat.mod_eq_of_lt hi]
  ·rw [List.getElem?_append_right (by omega),vP z k (i-z.length) (by rw [Nat.add_mul] at h;omega)];congr 1;rw [<-Nat.mod_eq_sub_mod (by omega)]
theorem ga (z:List Value) (h:z.all am=true):∀ k,(df k z).all am=true
 | 0=>rfl
 | k+1=>by rw [df,List.all_append,h,ga z h k];rfl
theorem l8 (z:Array Value) (k:Nat):(Array.range (k*z.size)).map (fun i=>z[i % z.size]!)=(df k z.toList).toArray:=by
 apply Array.ext';apply List.ext_getElem?;intro i;by_cases hi:i<k*z.size
 ·have hz:0<z.size:=by
   rcases Nat.eq_zero_or_pos z.size with h | h
   ·rw [h] at hi;simp at hi
   ·exact h
  have hm:i % z.size<z.size:=Nat.mod_lt _ hz;show _=(df k z.toList)[i]?;rw [vP z.toList k i (by simpa using hi)];simp [hi,hm]
 ·rw [List.getElem?_eq_none (by simp;omega),List.getElem?_eq_none (by simp [gX];omega)]
theorem rj (hC:aM ω C) (ht:TR m n a act) (hB:B<=w.heap.size) {t:TypeId} {l c:Operand} {o:AObj} {f:Nat->Value} (h:dK t l c C a=some (o,f)) :
 jj B m w o f ((do let z <-Instr.makeSlice t (act.eval l) (act.eval c);pure (Next.value z):Sem Next).run C.P w):=by
 unfold dK at h
 split at h
 ·rename_i e kq q kk k hu hl hc;have hun:=hC.un t _ hu;have hl':=bg (oS ht hl);have hc':=bg (oS ht hc)
  split at h
  ·rename_i ti z hti hz
   split at h
   ·rename_i hb;simp only [Option.some.injEq,Prod.mk.injEq] at h;obtain ⟨rfl,rfl⟩:=h;obtain ⟨i,v,hi,hzv,rfl,hp,hlen⟩:=cD hC hz;have hti':=hC.ty _ _ hti;rw [hi] at hti';cases hti'
    refine ⟨.slice (some ⟨w.heap.size,0,none⟩) q.toNat k.toNat,w.alloc (.cells (df k.toNat (cellsOf v)).toArray e),_,?_,rfl,by simp,fun k hk=>Below.heap_alloc w _ k hk,(bR _ _).alloc hB _,
     oG (LRel.plain (m:=m) (ga _ hp k.toNat)) e 0,fun m' b hb=>.slice _ _ _ _ _ ⟨rfl,_,hb,rfl⟩ (.inl rfl) (by omega)⟩
    have hby:(ti.bytes:Int)*k<=281474976710656:=by
     have h1:(ti.bytes:Int)*k<=1000000*1000000:=Int.mul_le_mul (by omega) hb.2.2.1 (by omega) (by omega);omega
    have hsz:v.cells.size=ti.size:=by rw [bj,hlen];simp
    have hmk:=run_make (P:=C.P) w t e ti v hun hi hzv kq kk q k hb.1 hb.2.1 hby (by omega);rw [hl',hc'];simp only [Sem.run_bind,hmk,Result.andThen,Sem.run_pure];unfold madeCells;rw [<-hsz,l8,fX]
   ·cases h
  ·cases h
 ·cases h
end
end Go.Proofs.YtgohffhoapkeaaaGreatDoor.Ev
namespace Go.Proofs.YtgohffhoapkeaaaGreatDoor.Ev
open Go.RowKit
variable {ω:Nat->Value}
section
variable {C:Ctx} {B:Nat} {X:cK} {m:M ω} {s s':AS} {w:World} {a:T Value} {act:Act} {n:Nat}
theorem tX {cs:Array Value} {v:Value} (h:VRel m (.agg cs) v):∃ cs',v=.agg cs'/\LRel m cs.toList cs'.toList:=by
 cases h with
 | plain v h=>simp [am] at h
 | agg cs cs' hs h=>exact ⟨cs',rfl,LRel.of_arr hs h⟩
theorem LRel.drop {l l':List Value} (h:LRel m l l') (k:Nat):LRel m (l.drop k) (l'.drop k) :=
 ⟨by simp [h.1],fun i a b ha hb=>h.2 (k+i) a b (by rwa [List.getElem?_drop] at ha) (by rwa [List.getElem?_drop] at hb)⟩
theorem LRel.take {l l':List Value} (h:LRel m l l') (k:Nat):LRel m (l.take k) (l'.take k) :=
 ⟨by simp [h.1],fun i a b ha hb=>by
  rw [List.getElem?_take] at ha hb
  split at ha
  ·rename_i hi;rw [if_pos hi] at hb;exact h.2 i a b ha hb
  ·cases ha⟩
theorem LRel.at_ {l l':List Value} (h:LRel m l l') {k:Nat} {v:Value} (hv:l[k]?=some v):∃ v',l'[k]?=some v'/\VRel m v v':=by
 have hk:=(lS.1 hv).1
 have hk':k<l'.length:=by rw [<-h.1];exact hk
 exact ⟨l'[k],gE hk',h.2 k _ _ hv (gE hk')⟩
theorem kY (hC:aM ω C) {t:TypeId} {cs cs':Array Value} (hl:LRel m cs.toList cs'.toList) {off:Nat} {v:Value}
 (h:(match fT C t,cA C t with
  | some true,some k=>some (.agg ((cs.toList.drop off).take k).toArray)
  | some false,_=>cs.toList[off]?
  | _,_=>none)=some v):∃ v',(part t cs' off).run C.P w=.ok v' w/\VRel m v v':=by
 cases h1:fT C t with
 | none=>simp [h1] at h
 | some b =>
  cases b with
  | true =>
   cases h2:cA C t with
   | none=>simp [h1,h2] at h
   | some k =>
    simp only [h1,h2,Option.some.injEq] at h;subst h;obtain ⟨i,hi,rfl⟩:=aE hC h2;refine ⟨.agg ((cs'.toList.drop off).take i.size).toArray,?_,(LRel.take (LRel.drop hl off) i.size).agg⟩
    have e:cs'.extract off (off+i.size)=((cs'.toList.drop off).take i.size).toArray:=by
     apply Array.ext';rw [Array.toList_extract];simp [List.extract_eq_take_drop]
    simp [part,cE hC h1,sizeOf,typeInfo,hi,e]
  | false =>
   simp only [h1] at h;obtain ⟨v',h2,h3⟩:=hl.at_ h;refine ⟨v',?_,h3⟩
   have e:cs'[off]?=some v':=by rw [<-Array.getElem?_toList];exact h2
   simp [part,cE hC h1,e]
theorem vQ (hC:aM ω C) (hs:SR B X m s w) (ht:TR m n a act) {t:TypeId} {x:Operand} {f:Nat} {r:R} (h:jP t x f C a s=some (r,s')) :
 bD C B X m s' w r ((do let z <-Instr.field t (act.eval x) f;pure (Next.value z):Sem Next).run C.P w):=by
 unfold jP at h
 split at h
 ·rename_i fs cs hu hx;have hun:=hC.un t _ hu;obtain ⟨cs',hy,hl⟩:=tX (oS ht hx)
  split at h
  ·rename_i fl hf
   have hf':fs[f]?=some fl:=by unfold fieldAt at hf;simpa using hf
   have go:∀ v,(match fT C fl.type,cA C fl.type with
    | some true,some k=>some (.agg ((cs.toList.drop fl.offset).take k).toArray)
    | some false,_=>cs.toList[fl.offset]?
    | _,_=>none)=some v->some (R.val v,s)=some (r,s')->bD C B X m s' w r ((do let z <-Instr.field t (act.eval x) f;pure (Next.value z):Sem Next).run C.P w):=by
    intro v hv he
    cases he
    obtain ⟨v',hr,hrel⟩:=kY (w:=w) hC hl hv;exact bc.op (bc.same hs (by simp [Instr.field,run_underlying hun,hf',hy,asAgg,hr]) hrel)
   split at h
   ·rename_i k h1 h2;exact go _ (by rw [h1,h2]) h
   ·rename_i _ h1
    split at h
    ·rename_i v hv;exact go v (by rw [h1];exact hv) h
    ·cases h
   ·cases h
  ·cases h
 ·cases h
theorem vR (hC:aM ω C) (hs:SR B X m s w) (ht:TR m n a act) {t:TypeId} {x i:Operand} {r:R} (h:jQ t x i C a s=some (r,s')) :
 bD C B X m s' w r ((do let z <-Instr.index t (act.eval x) (act.eval i);pure (Next.value z):Sem Next).run C.P w):=by
 unfold jQ at h
 split at h
 ·rename_i b kk q hu hx hi;have hun:=hC.un t _ hu;have hy:=fo (oS ht hx);have hi':=bg (oS ht hi)
  split at h
  ·rename_i hq
   split at h
   ·rename_i c hc
    cases h
    exact bc.op (bc.same hs (v':=.int .u8 c.toNat) (by simp [Instr.index,run_underlying hun,hy,hi',asIntOf,hq,hc]) (.plain _ rfl))
   ·cases h
  ·cases h
 ·rename_i k e cs kk q hu hx hi;have hun:=hC.un t _ hu;obtain ⟨cs',hy,hl⟩:=tX (oS ht hx);have hi':=bg (oS ht hi)
  split at h
  ·rename_i hq
   split at h
   ·rename_i sz h1 h2
    cases h
    obtain ⟨ti,hti,e2⟩:=aE hC h2;obtain ⟨v',hr,hrel⟩:=kY (w:=w) (off:=q.toNat*ti.size) (v:=.agg ((cs.toList.drop (q.toNat*sz)).take sz).toArray) hC hl (by rw [h1,h2,e2]);exact bc.op (bc.same hs (by simp [Instr.index,run_underlying hun,hy,hi',asIntOf,hq.1,hq.2,sizeOf,typeInfo,hti,hr]) hrel)
   ·rename_i sz h1 h2;obtain ⟨ti,hti,e2⟩:=aE hC h2
    split at h
    ·rename_i v hv
     cases h
     obtain ⟨v',hr,hrel⟩:=kY (w:=w) (off:=q.toNat*ti.size) (v:=v) hC hl (by rw [h1,e2];exact hv);exact bc.op (bc.same hs (by simp [Instr.index,run_underlying hun,hy,hi',asIntOf,hq.1,hq.2,sizeOf,typeInfo,hti,hr]) hrel)
    ·cases h
   ·cases h
  ·cases h
 ·cases h
theorem yf {l:List String}:Instr.least l=none↔l=[]:=by cases l <;> simp [Instr.least]
theorem qb {want:Array (String × TypeId)} {got:Array Method}:C8 want got=false↔Instr.missingMethod want got=none:=by
 unfold C8 Instr.missingMethod;simp only [Option.orElse_eq_orElse,Option.orElse_eq_or,Option.or_eq_none_iff,yf,List.map_eq_nil_iff,List.partition_eq_filter_filter];rw [Bool.not_eq_false',List.all_eq_true];constructor
 ·intro h
  have e:want.toList.filter (fun x=>!got.any fun m=>m.name==x.1 && m.sig==x.2)=[]:=by
   rw [List.filter_eq_nil_iff];intro p hp;have:=h p hp;unfold EN at this
   simpa using this
  exact ⟨by simp [e],by simp [e]⟩
 ·rintro ⟨h1,h2⟩ p hp;unfold EN
  cases hg:got.toList.any fun m=>m.name==p.1 && m.sig==p.2 with
  | true=>rfl
  | false =>
   exfalso;have hm:p.1∈(want.toList.filter (fun x=>!got.any fun m=>m.name==x.1 && m.sig==x.2)).map (·.1):=List.mem_map.2 ⟨p,List.mem_filter.2 ⟨hp,by simpa using hg⟩,rfl⟩;rw [List.filter_eq_nil_iff] at h1 h2;have a1:=h1 _ hm;have a2:=h2 _ hm
   cases hc:p.1.contains (Char.ofNat 46) with
   | true=>exact a2 hc
   | false=>exact a1 (by show (!(p.1.contains (Char.ofNat 46)))=true;rw [hc];rfl)
theorem m7 (hC:aM ω C) (hs:SR B X m s w) (ht:TR m n a act) {x:Operand} {xt t:TypeId} {ok:Bool} {r:R} (h:b6 x t ok C a s=some (r,s')) :
 bD C B X m s' w r ((do let z <-Instr.typeAssert (act.eval x) xt t ok;pure (Next.value z):Sem Next).run C.P w):=by
 have two:∀ {u u':Value} (b:Bool),VRel m u u'->VRel m (.tuple #[u,.bool b]) (.tuple #[u',.bool b]):=fun b hv =>
  (LRel.cons hv (LRel.cons (.plain (.bool b) rfl) (LRel.nil m))).tuple
 have holds:∀ {u u':Value},VRel m u u'->VRel m (cond ok (.tuple #[u,.bool true]) u) (if ok then .tuple #[u',.bool true] else u'):=fun hv=>by
  cases ok
  ·exact hv
  ·exact two true hv
 have fail:sh C t ok s=some (r,s')->∃ z,ok=true/\r=.val (.tuple #[z,.bool false])/\s'=s/\VRel m (.tuple #[z,.bool false]) (.tuple #[z,.bool false])/\(zeroValue t).run C.P w=.ok z w:=by
  intro h;unfold sh at h
  split at h
  ·rename_i ti hti
   split at h
   ·rename_i z hz
    cases hk:(ok && bi z) with
    | false=>simp [hk] at h
    | true =>
     simp only [hk,cond_true,Option.some.injEq,Prod.mk.injEq] at h;obtain ⟨rfl,rfl⟩:=h;rw [Bool.and_eq_true] at hk;have hti':=hC.ty _ _ hti;exact ⟨z,hk.1,rfl,rfl,two false (gu hk.2),by simp [zeroValue,typeInfo,hti',hz]⟩
   ·cases h
  ·cases h
 unfold b6 at h
 split at h
 ·cases h
 ·rename_i u v want hx hu;have hun:=hC.un t _ hu;obtain ⟨v',hv,hy⟩:=bQ (oS ht hx)
  split at h
  ·rename_i ui hui;have hti:=hC.ty _ _ hui
   split at h
   ·rename_i hm;rw [qb] at hm
    cases h
    exact bc.op (bc.same hs (v':=if ok then .tuple #[.iface u v',.bool true] else .iface u v') (by simp [Instr.typeAssert,run_underlying hun,hy,typeInfo,hti,hm]) (holds (.iface u _ _ hv)))
   ·rename_i hm
    obtain ⟨mm,hm⟩:∃ mm,Instr.missingMethod want ui.methods=some mm:=by
     cases hq:Instr.missingMethod want ui.methods with
     | some mm=>exact ⟨mm,rfl⟩
     | none=>rw [qb.2 hq] at hm;cases hm
    obtain ⟨z,rfl,rfl,rfl,hz,hzr⟩:=fail h;exact bc.op (bc.same hs (v':=.tuple #[z,.bool false]) (by simp [Instr.typeAssert,run_underlying hun,hy,typeInfo,hti,hm,hzr]) hz)
  ·cases h
 ·rename_i u v d hne hx hu;have hun:=hC.un t _ hu;obtain ⟨v',hv,hy⟩:=bQ (oS ht hx)
  cases hb:Nat.beq u t with
  | true =>
   have hut:=bE hb;simp only [hb,cond_true,Option.some.injEq,Prod.mk.injEq] at h;obtain ⟨rfl,rfl⟩:=h;refine bc.op (bc.same hs (v':=if ok then .tuple #[v',.bool true] else v') ?_ (holds hv))
   cases d <;> first | (exact absurd rfl (hne _)) | simp [Instr.typeAssert,run_underlying hun,hy,hut]
  | false =>
   have hut:=Nat.ne_of_beq_eq_false hb;simp only [hb,cond_false] at h;obtain ⟨z,rfl,rfl,rfl,hz,hzr⟩:=fail h;refine bc.op (bc.same hs (v':=.tuple #[z,.bool false]) ?_ hz)
   cases d <;> first | (exact absurd rfl (hne _)) | simp [Instr.typeAssert,run_underlying hun,hy,hut,hzr]
 ·cases h
theorem jm:∀ {l:List Value} {bs:List UInt8},bytesOf l=some bs->∃ q:List Int,l=q.map (Value.int .u8)/\bs=q.map fun x=>UInt8.ofNat x.toNat
 | [],bs,h=>by simp [bytesOf] at h;subst h;exact ⟨[],rfl,rfl⟩
 | v::l,bs,h=>by
  unfold bytesOf at h
  split at h
  ·rename_i heq;cases heq
  ·rename_i n r heq
   injection heq with h1 h2
   subst h1;subst h2
   split at h
   ·rename_i l' hl
    cases h
    obtain ⟨q,e1,e2⟩:=jm hl;exact ⟨n::q,by rw [e1];rfl,by rw [e2];rfl⟩
   ·cases h
  ·cases h
theorem oH (hC:aM ω C) {e:TypeId} (h:re (C.un e)=true):C.P.underlying e=some (.int .u8):=by
 unfold re at h
 split at h
 ·rename_i hu;exact hC.un e _ hu
 ·cases h
theorem LRel.ints {l:List Int} {l':List Value} (h:LRel m (l.map (Value.int .u8)) l'):l'=l.map (Value.int .u8):=by
 apply List.ext_getElem?;intro i;by_cases hi:i<l.length
 ·obtain ⟨v',h1,h2⟩:=h.at_ (k:=i) (v:=.int .u8 l[i]) (by simp [hi]);rw [h1,bg h2];simp [hi]
 ·rw [List.getElem?_eq_none (by rw [<-h.1];simp;omega),List.getElem?_eq_none (by simp;omega)]
theorem vS {w1:World} {l:List Value} {c':Array Value} {e:TypeId} {fz:Nat × Nat} (str:Bool) (z r:Nat) (hw:w1.heap[r]?=some (.cells c' e fz)) (hfz:fz=(0,0)\/(fz=(c'.size,c'.size+1)/\Nat.beq e noMark=false))
 (hle:l.length<=c'.size) (hrel:∀ (j:Nat) (v:Value),l[j]?=some v->∃ v',c'[j]?=some v'/\VRel m v v') :
 gD m w1 ⟨r,0,l.length,z,true,c'.size⟩ (nA l e z true str):=by
 refine ⟨rfl,rfl,rfl,by simpa using hle,c',fz,hw,rfl,fun j hj=>?_,hfz⟩;have hj':j<l.length:=hj;obtain ⟨v',h1,h2⟩:=hrel j l[j] (gE hj');refine ⟨l[j],v',?_,by simpa using h1,h2⟩;rw [T.br,if_pos (by simp;omega)];simp
theorem kD (hs:SR B X m s w) (hB:B<=w.heap.size) {w1:World} (hsz:w1.heap.size=w.heap.size+1) (hold:∀ k,k<w.heap.size->w1.heap[k]?=w.heap[k]?)
 {l:List Value} {c':Array Value} {e:TypeId} {fz:Nat × Nat} (str:Bool) (z:Nat) (hw:w1.heap[w.heap.size]?=some (.cells c' e fz)) (hfz:fz=(0,0)\/(fz=(c'.size,c'.size+1)/\Nat.beq e noMark=false))
 (hle:l.length<=c'.size) (hrel:∀ (j:Nat) (v:Value),l[j]?=some v->∃ v',c'[j]?=some v'/\VRel m v v') :
 SR B X (ext m s.n ⟨w.heap.size,0,l.length,z,true,c'.size⟩) (pJ s l l.length e z true str).2 w1/\Le m (ext m s.n ⟨w.heap.size,0,l.length,z,true,c'.size⟩) :=
 jS hs _ _ hB rfl hsz hold (vS str z _ hw hfz hle hrel)
theorem rl {a:World} (h:Below B a w) {p:Addr} (hp:B<=p.block) (k:Nat):Below B a (w.freeze p k):=by
 refine h.trans ?_;unfold World.freeze
 split
 ·exact bR B w
 ·exact ⟨rfl,rfl,rfl,by simp,fun k hk=>by
   simp only [Array.getElem?_modify]
   rw [if_neg (by omega)]⟩
theorem SR.congr {s':AS} (h:SR B X m s w) (hg:∀ b,s'.h.get b=s.h.get b) (hn:s'.n=s.n):SR B X m s' w :=
 ⟨fun b o i h1=>h.rel b o i (by rw [<-hg];exact h1),fun b c o p i j h1 h2=>h.inj b c o p i j (by rw [<-hg];exact h1) (by rw [<-hg];exact h2),
  fun b hb=>by rw [hg];exact h.freshH b (by rw [<-hn];exact hb),fun b hb=>h.freshM b (by rw [<-hn];exact hb),
  fun b o hb=>by rw [hg];exact h.gh b o hb,h.kp,h.lt⟩
theorem yg (h:SR B X m s w) {p p':Addr} {k:aa} (hk:fQ s p.block=some k) (hnm:Nat.beq k.elem noMark=false) (hp:iz m p p') :
 ∃ w',(markStringish p').run C.P w=.ok () w'/\SR B X m s w'/\Below B w w':=by
 obtain ⟨hs,i,h1,rfl⟩:=hp;obtain ⟨h2,⟨a1,a2,a3,a4,c',fz,hw,hsz,hcell,hfz⟩,h4,h5⟩:=gG h hk h1
 have hshape:w.shape? i.r=some (k.elem,c'.size):=by unfold World.shape?;rw [hw]
 have hlook:(w.freeze ⟨i.r,c'.size,none⟩ 1).heap[i.r]?=some (.cells c' k.elem (i.tot,i.tot+1)):=by
  unfold World.freeze;rw [if_neg (by decide)];show (w.heap.modify i.r _)[i.r]?=_;rw [Array.getElem?_modify,if_pos rfl,hw]
  rcases hfz with rfl | ⟨rfl,_⟩ <;> simp [hsz]
 refine ⟨w.freeze ⟨i.r,c'.size,none⟩ 1,by simp [markStringish,hshape],(ep (o':=.cells k) h h2 rfl h1 ?_ ?_ ?_).congr (fun b=>?_) rfl,?_⟩
 ·unfold World.freeze;rw [if_neg (by decide)];simp
 ·intro q hq;unfold World.freeze;rw [if_neg (by decide)];show (w.heap.modify i.r _)[q]?=_;rw [Array.getElem?_modify,if_neg (fun e=>hq e.symm)]
 ·exact ⟨a1,a2,a3,a4,c',_,hlook,hsz,hcell,.inr ⟨rfl,hnm⟩⟩
 ·rw [T.get_put]
  split
  ·rename_i e;rw [e];exact h2
  ·rfl
 ·exact rl (bR B w) h4 1
theorem vT (hC:aM ω C) (hs:SR B X m s w) (ht:TR m n a act) {src dst:TypeId} {x:Operand} {r:R} (h:lW src dst x C a s=some (r,s')) :
 bD C B X m s' w r ((do let z <-convert src dst (act.eval x);pure (Next.value z):Sem Next).run C.P w):=by
 unfold lW at h
 cases h1:aQ a x with
 | none=>simp [h1] at h
 | some u =>
  have hu:=oS ht h1
  cases h2:zj C src dst u s with
  | none=>simp [h1,h2] at h
  | some p =>
   obtain ⟨v,s2⟩:=p;simp only [h1,h2,Option.some.injEq,Prod.mk.injEq] at h;obtain ⟨rfl,rfl⟩:=h;refine bc.op ?_;generalize act.eval x=y at hu;clear h1;unfold zj at h2
   cases hch:isChan u with
   | true =>
    rw [hch] at h2;simp only [cond_true,tM] at h2
    split at h2
    ·rename_i v1 hv1
     cases h2
     obtain ⟨v',hr,hv⟩:=hC.cnv src dst u v hv1 m y w hu;exact bc.same hs hr hv
    ·cases h2
   | false =>
   rw [hch] at h2;simp only [cond_false] at h2
   split at h2
   ·rename_i d hd;have hds:=hC.un _ _ hd
    split at h2
    ·rename_i k hk;have hdd:=hC.un _ _ hk;unfold tK at h2
     split at h2
     ·cases h2;obtain rfl:=bg hu
      exact bc.same hs (by rw [fZ];cases d <;> simp [convert,run_underlying hds,run_underlying hdd,Conv.intToInt]) (.plain _ rfl)
     ·cases h2;obtain rfl:=bg hu
      exact bc.same hs (by cases d <;> simp [convert,run_underlying hds,run_underlying hdd,Conv.intToInt]) (.plain _ rfl)
     ·cases h2
    ·rename_i hk;have hdd:=hC.un _ _ hk;unfold tL at h2
     split at h2
     ·cases h2;obtain rfl:=fo hu
      exact bc.same hs (by cases d <;> simp [convert,run_underlying hds,run_underlying hdd]) (.plain _ rfl)
     ·rename_i e
      cases hb:re (C.un e) with
      | false=>simp [hb] at h2
      | true =>
       simp only [hb,cond_true,Option.some.injEq,Prod.mk.injEq] at h2;obtain ⟨rfl,rfl⟩:=h2;obtain rfl:=bM hu;exact bc.same hs (run_convert_bytes_nil w src e hds (oH hC hb) 0 0 dst hdd) (.plain _ rfl)
     ·rename_i ad k c e
      cases hb:re (C.un e) with
      | false=>simp [hb] at h2
      | true =>
       simp only [hb,cond_true] at h2
       split at h2
       ·rename_i l hl
        split at h2
        ·rename_i bs hbs
         cases h2
         obtain ⟨q,rfl,rfl⟩:=jm hbs;obtain ⟨p',c',hy,hor⟩:=aU hu;subst hy
         have hload:(loadCells p' k).run C.P w=.ok (q.map (Value.int .u8)).toArray w:=by
          rcases hor with ⟨hp,_,_⟩ | ⟨rfl,_,_⟩
          ·obtain ⟨l',g1,g2,g3⟩:=aL hs hl hp;have:=run_loadCells_list (P:=C.P) w p' l' g3;rw [g2,g1.ints] at this;exact this
          ·have hq:q=[]:=by
            unfold cq at hl
            split at hl
            ·rename_i kk _ hk2;simp only [Nat.add_zero,T.range] at hl
             cases hbb:Nat.ble ad.off kk.len with
             | false=>rw [hbb] at hl;cases hl
             | true=>rw [hbb] at hl;cases q with | nil=>rfl | cons _ _=>simp at hl
            ·cases hl
           subst hq;simp [loadCells,loadCellsFrom]
         refine bc.same hs ?_ (.plain _ rfl);rw [run_convert_bytes_string w src dst e _ k c' hds (oH hC hb) hdd,run_bytesToString w p' k c' q hload,foldl_push_bytes];simp [ByteArray.empty,ByteArray.emptyWithCapacity];rfl
        ·cases h2
       ·cases h2
     ·cases h2
    ·rename_i e hk;have hdd:=hC.un _ _ hk;unfold xQ at h2
     split at h2
     ·rename_i ad k c e'
      cases hb:(Nat.beq src dst && re (C.un e) && Nat.blt 0 c) with
      | false=>simp [hb] at h2
      | true =>
       simp only [hb,cond_true] at h2;rw [Bool.and_eq_true,Bool.and_eq_true] at hb;have hsd:=bE hb.1.1
       split at h2
       ·rename_i kb hkb
        cases hnm:Nat.beq kb.elem noMark with
        | true=>rw [hnm] at h2;cases h2
        | false =>
        rw [hnm] at h2
        cases h2
        obtain ⟨p',c',hy,hor⟩:=aU hu;subst hy
        rcases hor with ⟨hp,hcr,hkc⟩ | ⟨rfl,rfl,rfl⟩
        ·obtain ⟨w',g1,g2,g3⟩:=yg (C:=C) hs hkb hnm hp;refine ⟨_,w',m,?_,Le.refl _,g2,g3,.slice _ _ _ _ _ hp hcr hkc⟩;simp [convert,run_underlying hdd,hsd,run_underlying (oH hC hb.1.2),g1]
        ·exact absurd hb.2 (by decide)
       ·cases h2
     ·cases h2
    ·cases h2
   ·cases h2
theorem De (hC:aM ω C) (ht:TR m n a act) (hB:B<=w.heap.size) {src dst:TypeId} {x:Operand} {o:AObj} {f:Nat->Value} (h:fW src dst x C a=some (o,f)) :
 jj B m w o f ((do let z <-convert src dst (act.eval x);pure (Next.value z):Sem Next).run C.P w):=by
 unfold fW at h
 split at h
 ·rename_i e b hs hd hx
  cases hb0:(re (C.un e) && !Nat.beq e noMark) with
  | false=>simp [hb0] at h
  | true =>
   simp only [hb0,cond_true,Option.some.injEq,Prod.mk.injEq] at h;rw [Bool.and_eq_true] at hb0;obtain ⟨hb,hnm⟩:=hb0
   replace hnm:Nat.beq e noMark=false:=by simpa using hnm
   obtain ⟨rfl,rfl⟩:=h;have hds:=hC.un _ _ hs;have hdd:=hC.un _ _ hd;rw [fo (oS ht hx)];have hrun:=run_bytes_of_string (P:=C.P) w src dst e b hds hdd (oH hC hb);have hcap:=grownCap_ge w b.size 0 e
   have hrow:(bytesRow b (grownCap w b.size 0 e)).size=grownCap w b.size 0 e:=by have:b.data.size=b.size:=rfl;simp [bytesRow];omega
   have hbs:(b.data.toList.map fun x=>Value.int .u8 x.toNat).length=b.size:=by simp
   have hnew:=vS (m:=m) (w1:=w.drew.alloc (.cells (bytesRow b (grownCap w b.size 0 e)) e ((bytesRow b (grownCap w b.size 0 e)).size,(bytesRow b (grownCap w b.size 0 e)).size+1)))
    (l:=b.data.toList.map fun x=>Value.int .u8 x.toNat) (c':=bytesRow b (grownCap w b.size 0 e)) (e:=e) true 1 w.heap.size
    (heap_alloc_new w.drew _) (.inr ⟨rfl,hnm⟩) (by rw [hbs,hrow];exact hcap) (fun j v hj=>by
     have hj':=(lS.1 hj).1;refine ⟨v,?_,?_⟩
     ·rw [<-Array.getElem?_toList,bytesRow,Array.toList_append,List.getElem?_append_left (by simpa using hj'),Array.toList_map];exact hj
     ·rw [List.getElem?_map] at hj
      cases hq:b.data.toList[j]? with
      | none=>rw [hq] at hj;cases hj
      | some q=>rw [hq] at hj;cases hj;exact .plain _ rfl)
   rw [hrow] at hrun hnew;rw [hbs] at hnew;refine ⟨.slice (some ⟨w.heap.size,0,none⟩) b.size (grownCap w b.size 0 e),_,_,by simp only [Sem.run_bind,hrun,Result.andThen,Sem.run_pure],rfl,by simp,fun k hk=>Below.heap_alloc w.drew _ k hk,((bR B w).drew).alloc hB _,hnew,fun m' b' hb'=>?_⟩;refine .slice _ _ _ _ _ ⟨rfl,_,hb',rfl⟩ (.inr ⟨hcap,_,hb',rfl,?_,?_⟩) (nR _)
   ·simp
   ·simp
 ·cases h
end
end Go.Proofs.YtgohffhoapkeaaaGreatDoor.Ev
namespace Go.Proofs.YtgohffhoapkeaaaGreatDoor.Ev
open Go.RowKit
variable {ω:Nat->Value}
section
variable {C:Ctx} {B:Nat} {X:cK} {m:M ω} {s s':AS} {w:World} {a:T Value} {act:Act} {n:Nat}
def EU (m:M ω):List (Nat × Value)->List (Nat × Value)->Prop
 | [],[]=>True
 | (i,v)::r,(j,v')::r'=>i=j/\VRel m v v'/\EU m r r'
 | _,_=>False
theorem gv (ht:TR m n a act):∀ {l:List (Nat × Operand)} {ps:List (Nat × Value)},parts a l=some ps->EU m ps (l.map fun (i,x)=>(i,act.eval x))
 | [],ps,h=>by simp [parts] at h;subst h;trivial
 | (i,x)::l,ps,h=>by
  simp only [parts] at h
  cases h1:aQ a x with
  | none=>simp [h1] at h
  | some v =>
   cases h2:parts a l with
   | none=>simp [h1,h2] at h
   | some vs =>
    simp [h1,h2] at h;subst h;exact ⟨rfl,oS ht h1,gv ht h2⟩
def CR (m:M ω) (t:T Value) (n:Nat) (cs:Array Value):Prop:=cs.size=n/\∀ j,j<n->∃ v v',t.get j=some v/\cs[j]?=some v'/\VRel m v v'
theorem foldl_set (off:Nat):∀ (l:List Value) (k:Nat) (cs:Array Value),
 ((l.zipIdx k).foldl (fun (cs:Array Value) (p:Value × Nat)=>cs.setIfInBounds (off+p.2) p.1) cs).size=cs.size /\
 ∀ j,((l.zipIdx k).foldl (fun (cs:Array Value) (p:Value × Nat)=>cs.setIfInBounds (off+p.2) p.1) cs)[j]?=if off+k<=j/\j<off+k+l.length/\j<cs.size then l[j-(off+k)]? else cs[j]?
 | [],k,cs=>by simp;intros;omega
 | v::l,k,cs=>by
  simp only [List.zipIdx_cons,List.foldl_cons];obtain ⟨h1,h2⟩:=foldl_set off l (k+1) (cs.setIfInBounds (off+k) v);refine ⟨by rw [h1];simp,fun j=>?_⟩;rw [h2];simp only [Array.size_setIfInBounds,List.length_cons,Array.getElem?_setIfInBounds];by_cases h3:off+k=j
  ·subst h3;rw [if_neg (by omega),if_pos rfl];by_cases h4:off+k<cs.size
   ·rw [if_pos h4,if_pos (by omega)];simp
   ·rw [if_neg h4,if_neg (by omega),Array.getElem?_eq_none (by omega)]
  ·by_cases h4:off+(k+1)<=j/\j<off+(k+1)+l.length/\j<cs.size
   ·rw [if_pos h4,if_pos (by omega),show j-(off+k)=(j-(off+(k+1)))+1 by omega];simp
   ·rw [if_neg h4,if_neg h3,if_neg (by omega)]
theorem iF {place place':Nat->Option (Nat × Nat)} (hp:∀ i p,place i=some p->place' i=some p):∀ {ps ps':List (Nat × Value)} {t t':T Value} {k:Nat} {cs:Array Value},
 EU m ps ps'->CR m t k cs->pK place t k ps=some t'->∃ cs',Instr.fill place' cs ps'=some cs'/\CR m t' k cs'
 | [],[],t,t',k,cs,_,hc,h=>by simp [pK] at h;subst h;exact ⟨cs,rfl,hc⟩
 | (i,v)::r,(j,v')::r',t,t',k,cs,hr,hc,h=>by
  obtain ⟨rfl,hv,hr'⟩:=hr;simp only [pK] at h
  cases h1:place i with
  | none=>simp [h1] at h
  | some p =>
   obtain ⟨off,sz⟩:=p;simp only [h1] at h
   cases h2:(Nat.beq (cellsOf v).length sz && Nat.ble (off+(cellsOf v).length) k) with
   | false=>simp [h2] at h
   | true =>
    simp only [h2,cond_true] at h;rw [Bool.and_eq_true] at h2;have e1:=bE h2.1;have e2:=Nat.le_of_ble_eq_true h2.2;have hcl:=m6 hv
    have hsz:v'.cells.size=(cellsOf v).length:=by rw [bj];simp;exact hcl.1.symm
    have hfold:v'.cells.zipIdx.foldl (fun cs (x:Value × Nat)=>match x with | (c,j)=>cs.setIfInBounds (off+j) c) cs=((cellsOf v').zipIdx 0).foldl (fun (cs:Array Value) (p:Value × Nat)=>cs.setIfInBounds (off+p.2) p.1) cs:=by
     rw [bj,<-Array.foldl_toList];simp
    obtain ⟨g1,g2⟩:=foldl_set off (cellsOf v') 0 cs
    have hc':CR m (T.bH (cellsOf v) off t) k (((cellsOf v').zipIdx 0).foldl (fun (cs:Array Value) (p:Value × Nat)=>cs.setIfInBounds (off+p.2) p.1) cs):=by
     refine ⟨by rw [g1];exact hc.1,fun q hq=>?_⟩;rw [T.br,g2,hc.1];simp only [Nat.add_zero];by_cases hin:off<=q/\q<off+(cellsOf v).length
     ·rw [if_pos hin,if_pos ⟨hin.1,by rw [<-hcl.1];exact hin.2,hq⟩]
      have hql:q-off<(cellsOf v).length:=by omega
      have hql':q-off<(cellsOf v').length:=by rw [<-hcl.1];exact hql
      exact ⟨(cellsOf v)[q-off],(cellsOf v')[q-off],gE hql,gE hql',hcl.2 (q-off) _ _ (gE hql) (gE hql')⟩
     ·rw [if_neg hin,if_neg (by rw [<-hcl.1];omega)];exact hc.2 q hq
    obtain ⟨cs',k1,k2⟩:=iF hp hr' hc' h;refine ⟨cs',?_,k2⟩;rw [Instr.fill,hp i _ h1];simp only [hsz,e1,hc.1];rw [if_neg (by simp;omega)];rw [hfold];exact k1
 | [],_::_,_,_,_,_,h,_,_=>h.elim
 | _::_,[],_,_,_,_,h,_,_=>by simp [EU] at h
theorem CR.of_list {l l':List Value} (h:LRel m l l'):CR m (T.bH l 0 .leaf) l.length l'.toArray:=by
 refine ⟨by simp [h.1],fun j hj=>?_⟩;rw [T.br,if_pos (by omega)]
 have hj':j<l'.length:=by rw [<-h.1];exact hj
 exact ⟨l[j],l'[j],by simp,by simp [hj'],h.2 j _ _ (gE hj) (gE hj')⟩
theorem CR.range {t:T Value} {k:Nat} {cs:Array Value} (h:CR m t k cs) {l:List Value} (hl:t.range 0 k=some l):LRel m l cs.toList:=by
 obtain ⟨h1,h2⟩:=T.iy t k 0 l hl;refine ⟨by simp [h1,h.1],fun i v v' hv hv'=>?_⟩;have hi:=(lS.1 hv).1;obtain ⟨x,x',e1,e2,e3⟩:=h.2 i (by omega);have e4:=h2 i (by omega);rw [Nat.zero_add,e1,hv] at e4;rw [<-Array.getElem?_toList,hv'] at e2
 cases e4;cases e2;exact e3
theorem vU {α β:Type} {f:α->Option β}:∀ {l:List α} {r:List β},l.mapM f=some r->∀ (i:Nat) (x:α),l[i]?=some x->r[i]?=f x
 | [],r,_,i,x,hx=>by simp at hx
 | y::l,r,h,i,x,hx=>by
  simp only [List.mapM_cons,Option.bind_eq_bind,Option.pure_def] at h
  cases h1:f y with
  | none=>simp [h1] at h
  | some b =>
   cases h2:l.mapM f with
   | none=>simp [h1,h2] at h
   | some bs =>
    simp [h1,h2] at h;subst h
    cases i with
    | zero=>simp at hx ⊢;subst hx;exact h1.symm
    | succ i=>simp at hx ⊢;exact vU h2 i x hx
theorem vV (hC:aM ω C) (hs:SR B X m s w) (ht:TR m n a act) {t:TypeId} {ps:Array (Nat × Operand)} {r:R} (h:jM t ps C a s=some (r,s')) :
 bD C B X m s' w r ((do let z <-Instr.build t (ps.map fun (i,x)=>(i,act.eval x));pure (Next.value z):Sem Next).run C.P w):=by
 have ps_eq:(ps.map fun (x:Nat × Operand)=>match x with | (i,x)=>(i,act.eval x)).toList=ps.toList.map fun (i,x)=>(i,act.eval x):=by simp
 unfold jM at h
 split at h
 ·rename_i z fs l hz hu hl;obtain ⟨ti,zv,hti,hzv,rfl,hpl,_⟩:=cD hC hz;have hun:=hC.un _ _ hu;obtain ⟨places,hpla⟩:=hC.places _ _ hu
  split at h
  ·rename_i t' hf
   split at h
   ·rename_i cs hcs
    cases h
    obtain ⟨cs',k1,k2⟩:=iF (m:=m) (place':=(places.toArray[·]?)) (fun i p hp=>by
     split at hp
     ·rename_i f hfi
      split at hp
      ·rename_i sz hsz
       cases hp
       obtain ⟨fi,hfi',rfl⟩:=aE hC hsz;have:=vU hpla i f (by unfold fieldAt at hfi;exact hfi);simp [this,hfi']
      ·cases hp
     ·cases hp) (gv ht hl) (CR.of_list (LRel.plain (m:=m) hpl)) hf
    refine bc.op (bc.same hs (run_build w t _ cs' ?_) (k2.range hcs).agg);unfold Program.built;simp only [hti,hun,hzv,hpla,ps_eq,bj];exact k1
   ·cases h
  ·cases h
 ·rename_i z kn e l hz hu hl;obtain ⟨ti,zv,hti,hzv,rfl,hpl,_⟩:=cD hC hz;have hun:=hC.un _ _ hu
  split at h
  ·rename_i sz hsz;obtain ⟨ei,hei,rfl⟩:=aE hC hsz
   split at h
   ·rename_i t' hf
    split at h
    ·rename_i cs hcs
     cases h
     obtain ⟨cs',k1,k2⟩:=iF (m:=m) (fun i p hp=>hp) (gv ht hl) (CR.of_list (LRel.plain (m:=m) hpl)) hf;refine bc.op (bc.same hs (run_build w t _ cs' ?_) (k2.range hcs).agg);unfold Program.built;simp only [hti,hun,hzv,hei,ps_eq,bj];exact k1
    ·cases h
   ·cases h
  ·cases h
 ·cases h
theorem qc (hC:aM ω C) (ht:TR m n a act) (hB:B<=w.heap.size) {t:TypeId} {k:Nat} {ps:Array (Nat × Operand)} {o:AObj} {f:Nat->Value} (h:cL t k ps C a=some (o,f)) :
 jj B m w o f ((do let z <-Instr.buildSlice t k (ps.map fun (i,x)=>(i,act.eval x));pure (Next.value z):Sem Next).run C.P w):=by
 have ps_eq:(ps.map fun (x:Nat × Operand)=>match x with | (i,x)=>(i,act.eval x)).toList=ps.toList.map fun (i,x)=>(i,act.eval x):=by simp
 unfold cL at h
 split at h
 ·rename_i e l hu hl;have hun:=hC.un _ _ hu
  split at h
  ·rename_i sz z hsz hz;obtain ⟨ti,zv,hti,hzv,rfl,hpl,hlen⟩:=cD hC hz;obtain ⟨ei,hei,rfl⟩:=aE hC hsz;rw [hti] at hei;cases hei
   cases hle:Nat.ble (k*ti.size) 16777216 with
   | false=>simp [hle] at h
   | true =>
    simp only [hle,cond_true] at h;have hle':=Nat.le_of_ble_eq_true hle
    split at h
    ·rename_i t' hf;simp only [Option.some.injEq,Prod.mk.injEq] at h;obtain ⟨rfl,rfl⟩:=h
     have hrl:(df k (cellsOf zv)).length=k*ti.size:=by rw [gX,hlen]
     have hcr:CR m (T.bH (df k (cellsOf zv)) 0 .leaf) (k*ti.size) (df k (cellsOf zv)).toArray:=by
      rw [<-hrl];exact CR.of_list (LRel.plain (m:=m) (ga _ hpl k))
     obtain ⟨cs',k1,k2⟩:=iF (m:=m) (fun i p hp=>hp) (gv ht hl) hcr hf
     have hrow:(Array.range (k*ti.size)).map (fun i=>zv.cells[i % zv.cells.size]!)=(df k (cellsOf zv)).toArray:=by
      have:=l8 zv.cells k;rw [fX] at this;rw [<-this]
      have hz2:zv.cells.size=ti.size:=by rw [bj,hlen];simp
      rw [hz2]
     refine ⟨.slice (some ⟨w.heap.size,0,none⟩) k k,w.alloc (.cells cs' e),⟨w.heap.size,0,k*ti.size,0,false,k*ti.size⟩,?_,rfl,by simp,fun q hq=>Below.heap_alloc w _ q hq,(bR _ _).alloc hB _,?_,fun m' b hb=>.slice _ _ _ _ _ ⟨rfl,_,hb,rfl⟩ (.inl rfl) (nR _)⟩
     ·have k1':Instr.fill (fun i=>some (i*ti.size,ti.size)) (df k (cellsOf zv)).toArray (ps.toList.map fun x=>(x.fst,act.eval x.snd))=some cs':=k1;by_cases h0:k*ti.size=0
      ·have hk0:Instr.fill (fun i=>some (i*ti.size,ti.size)) (Array.map (fun _=>default) (Array.range 0)) (ps.toList.map fun x=>(x.fst,act.eval x.snd))=some cs':=by
        rw [<-k1'];congr 1
        have:(df k (cellsOf zv)).length=0:=by rw [hrl,h0]
        rw [List.length_eq_zero_iff.1 this];simp
       simp [Instr.buildSlice,run_underlying hun,sizeOf,typeInfo,hti,h0,newRow,hk0]
      ·simp [Instr.buildSlice,run_underlying hun,sizeOf,typeInfo,hti,h0,show ¬ 16777216<k*ti.size by omega,zeroValue,hzv,newRow,hrow,k1']
     ·refine ⟨rfl,rfl,rfl,by simp,cs',(0,0),heap_alloc_new w _,k2.1,fun j hj=>?_,.inl rfl⟩;obtain ⟨v,v',e1,e2,e3⟩:=k2.2 j hj;exact ⟨v,v',e1,by simpa using e2,e3⟩
    ·cases h
  ·cases h
 ·cases h
def EL (m:M ω) (es es':List MapEntry):Prop:=es.length=es'.length/\∀ (k:Nat) (e e':MapEntry),es[k]?=some e->es'[k]?=some e'->xK m e e'
theorem EL.tail {e e':MapEntry} {es es':List MapEntry} (h:EL m (e::es) (e'::es')):xK m e e'/\EL m es es' :=
 ⟨h.2 0 e e' rfl rfl,by simpa using h.1,fun k a b ha hb=>h.2 (k+1) a b (by simpa using ha) (by simpa using hb)⟩
theorem EL.at_ {es es':List MapEntry} (h:EL m es es') {k:Nat} {e:MapEntry} (he:es[k]?=some e):∃ e',es'[k]?=some e'/\xK m e e':=by
 have hk:=(lS.1 he).1
 have hk':k<es'.length:=by rw [<-h.1];exact hk
 exact ⟨es'[k],gE hk',h.2 k _ _ he (gE hk')⟩
theorem jT {d:TypeDesc} {k:Value}:∀ {es es':List MapEntry} {i:Nat},EL m es es'->Instr.findNow d k es i=some none->Instr.findNow d k es' i=some none
 | [],[],_,_,h=>h
 | e::es,e'::es',i,hl,h=>by
  obtain ⟨he,hl'⟩:=hl.tail;unfold Instr.findNow at h ⊢;rw [<-he.1]
  split at h
  ·cases h
  ·exact jT hl' h
  ·cases h
 | [],_::_,_,hl,_=>by have:=hl.1;simp at this
 | _::_,[],_,hl,_=>by have:=hl.1;simp at this
theorem jU {d:TypeDesc} {k:Value}:∀ {es es':List MapEntry} {i j:Nat} {v:Value},EL m es es'->Instr.findNow d k es i=some (some (j,v)) ->
 ∃ v',Instr.findNow d k es' i=some (some (j,v'))/\VRel m v v'/\i<=j/\∃ e,es[j-i]?=some e/\Instr.sameNow d k e.key=some true
 | [],[],_,_,_,_,h=>by simp [Instr.findNow] at h
 | e::es,e'::es',i,j,v,hl,h=>by
  obtain ⟨he,hl'⟩:=hl.tail;unfold Instr.findNow at h ⊢;rw [<-he.1]
  split at h
  ·rename_i hq;cases h;exact ⟨e'.val,rfl,he.2.2.1,nR _,e,by simp,hq⟩
  ·obtain ⟨v',h1,h2,h3,e0,h4,h5⟩:=jU hl' h;exact ⟨v',h1,h2,by omega,e0,by rw [show j-i=(j-(i+1))+1 by omega];simpa using h4,h5⟩
  ·cases h
 | [],_::_,_,_,_,hl,_=>by have:=hl.1;simp at this
 | _::_,[],_,_,_,hl,_=>by have:=hl.1;simp at this
theorem cF {d:TypeDesc} {k:Value} (h:plainKey d k=true):am k=true:=by
 cases k <;> simp [plainKey] at h <;> rfl
theorem bh {kt:TypeId} {d:TypeDesc} {k:Value} {b:Bool} (hu:C.P.underlying kt=some d) (h:plainKey d k=true):(Instr.checkKey b 10000 kt k).run C.P w=.ok () w:=by
 have:∀ q,(Instr.checkKey b (q+1) kt k).run C.P w=.ok () w:=fun q=>by
  cases k <;> simp [plainKey] at h
  all_goals (cases d <;> simp at h <;> simp [Instr.checkKey,run_underlying hu])
 exact this 9999
theorem yh {d:TypeDesc} {k k':Value} (h:Instr.sameNow d k k'=some true):(Instr.keyThatStays k' k).run C.P w=.ok k w:=by
 have:∀ q,Instr.sameBits q k' k=true:=fun q=>by
  unfold Instr.sameNow at h
  split at h
  ·split at h
   ·rename_i hk;subst hk;simp at h;subst h;simp [Instr.sameBits]
   ·cases h
  ·simp only [Option.some.injEq] at h;rw [MapKept.bytes_beq] at h;subst h;simp [Instr.sameBits,MapKept.bytes_beq]
  ·simp at h;subst h;simp [Instr.sameBits]
  ·cases h
 simp [Instr.keyThatStays,this]
theorem iG {b:Nat} {es:List MapEntry} {ck:Nat} (hs:SR B X m s w) (hb:s.h.get b=some (.map es ck)) {i:eP} (hi:m b=some i) :
 ∃ es',w.heap[i.r]?=some (.map es'.toArray ck)/\EL m es es'/\B<=i.r/\i.r<w.heap.size:=by
 obtain ⟨⟨es',h2,h3⟩,h4,h5⟩:=hs.rel b _ i hb rfl hi;exact ⟨es',h2,h3,h4,h5⟩
theorem cH {r:Nat} {es:Array MapEntry} {ck:Nat} (h:w.heap[r]?=some (.map es ck)):(getObj r).run C.P w=.ok (.map es ck) w:=by simp [getObj,Sem.run,h]
theorem iH {r:Nat} {es:Array MapEntry} {ck:Nat} {o':Obj} (h:w.heap[r]?=some (.map es ck)):(setObj r o').run C.P w=.ok () {w with heap:=w.heap.setIfInBounds r o'}:=by simp [setObj,Sem.run,h]
theorem fp {b:Nat} {es:List MapEntry} {ck:Nat} (hs:SR B X m s w) (hb:s.h.get b=some (.map es ck)) {i:eP} (hi:m b=some i) (hB:B<=i.r) (hlt:i.r<w.heap.size)
 {es2 es2':List MapEntry} {ck2:Nat} (hl:EL m es2 es2') :
 SR B X m ⟨s.n,s.h.put b (.map es2 ck2)⟩ {w with heap:=w.heap.setIfInBounds i.r (.map es2'.toArray ck2)}/\Below B w {w with heap:=w.heap.setIfInBounds i.r (.map es2'.toArray ck2)}:=by
 refine ⟨ep hs hb rfl hi (by simp) (fun k hk=>?_) ⟨es2',?_,hl⟩,⟨rfl,rfl,rfl,by simp,fun k hk=>?_⟩⟩
 ·show (w.heap.setIfInBounds i.r _)[k]?=_;rw [Array.getElem?_setIfInBounds,if_neg (fun e=>hk e.symm)]
 ·show (w.heap.setIfInBounds i.r _)[i.r]?=_;rw [Array.getElem?_setIfInBounds,if_pos rfl,if_pos hlt]
 ·show (w.heap.setIfInBounds i.r _)[k]?=_;rw [Array.getElem?_setIfInBounds,if_neg (by omega)]
theorem qd {r:Option Nat} {v:Value} (h:VRel m (.map r) v):(r=none/\v=.map none)\/∃ b i,r=some b/\m b=some i/\v=.map (some i.r):=by
 cases h with
 | plain v h=>cases r with
  | none=>exact .inl ⟨rfl,rfl⟩
  | some b=>simp [am] at h
 | map b i h=>exact .inr ⟨b,i,rfl,h,rfl⟩
theorem tY (hC:aM ω C) (hs:SR B X m s w) (ht:TR m n a act) {t:TypeId} {x k:Operand} {ok:Bool} {r:R} (h:gV t x k ok C a s=some (r,s')) :
 bD C B X m s' w r ((do let z <-Instr.lookup t (act.eval x) (act.eval k) ok;pure (Next.value z):Sem Next).run C.P w):=by
 have two:∀ {u u':Value} (b:Bool),VRel m u u'->VRel m (cond ok (.tuple #[u,.bool b]) u) (if ok then .tuple #[u',.bool b] else u'):=fun b hv=>by
  cases ok
  ·exact hv
  ·exact (LRel.cons hv (LRel.cons (.plain (.bool b) rfl) (LRel.nil m))).tuple
 unfold gV at h
 split at h
 ·rename_i kt et r0 kv hu hx hk;have hun:=hC.un _ _ hu
  split at h
  ·rename_i d ei hd hei;have hdn:=hC.un _ _ hd;have hen:=hC.ty _ _ hei
   split at h
   ·rename_i es z hes hz
    cases hp:(plainKey d kv && bi z) with
    | false=>simp [hp] at h
    | true =>
     simp only [hp,cond_true] at h;rw [Bool.and_eq_true] at hp;have hkv:=aK (oS ht hk) (cF hp.1)
     obtain ⟨es',hel,hrun⟩:∃ es',EL m es es'/\(act.eval x=.map none/\es'=[]\/∃ r ck,act.eval x=.map (some r)/\w.heap[r]?=some (.map es'.toArray ck)):=by
      rcases qd (oS ht hx) with ⟨rfl,e⟩ | ⟨b,i,rfl,hi,e⟩
      ·cases hes
       exact ⟨[],⟨rfl,fun k e e' h=>by simp at h⟩,.inl ⟨e,rfl⟩⟩
      ·simp only at hes
       split at hes
       ·rename_i es0 ck hb
        cases hes
        obtain ⟨es',h2,h3,_⟩:=iG hs hb hi;exact ⟨es',h3,.inr ⟨_,_,e,h2⟩⟩
       ·cases hes
     have hzr:(zeroValue et).run C.P w=.ok z w:=by simp [zeroValue,typeInfo,hen,hz]
     split at h
     ·rename_i j v hf
      cases h
      obtain ⟨v',g1,g2,_⟩:=jU hel hf;refine bc.op (bc.same hs (v':=if ok then .tuple #[v',.bool true] else v') ?_ (two true g2))
      rcases hrun with ⟨e,rfl⟩ | ⟨q,ck,e,hq⟩
      ·simp [Instr.lookup,run_underlying hun,e,hkv,bh hdn hp.1,Instr.findKey,run_underlying hdn,g1,Result.andThen]
      ·simp [Instr.lookup,run_underlying hun,e,cH hq,hkv,bh hdn hp.1,Instr.findKey,run_underlying hdn,g1,Result.andThen]
     ·rename_i hf
      cases h
      have g1:=jT hel hf;refine bc.op (bc.same hs (v':=if ok then .tuple #[z,.bool false] else z) ?_ (two false (gu hp.2)))
      rcases hrun with ⟨e,rfl⟩ | ⟨q,ck,e,hq⟩
      ·simp [Instr.lookup,run_underlying hun,e,hkv,bh hdn hp.1,Instr.findKey,run_underlying hdn,g1,hzr,Result.andThen]
      ·simp [Instr.lookup,run_underlying hun,e,cH hq,hkv,bh hdn hp.1,Instr.findKey,run_underlying hdn,g1,hzr,Result.andThen]
     ·cases h
   ·cases h
  ·cases h
 ·cases h
theorem EL.modify {es es':List MapEntry} (h:EL m es es') (j:Nat) {kv v v':Value} (hk:am kv=true) (hv:VRel m v v') :
 EL m (es.modify j fun e=>{e with key:=kv,val:=v}) (es'.modify j fun e=>{e with key:=kv,val:=v'}):=by
 refine ⟨by simp [h.1],fun k e e' he he'=>?_⟩;rw [List.getElem?_modify] at he he';by_cases hj:j=k
 ·subst hj;simp only [if_true] at he he'
  cases h1:es[j]? with
  | none=>simp [h1] at he
  | some e0 =>
   obtain ⟨e1,h2,h3⟩:=h.at_ h1;simp [h1] at he;simp [h2] at he';subst he;subst he';exact ⟨rfl,hk,hv,h3.2.2.2⟩
 ·simp [hj] at he he';exact h.2 k e e' he he'
theorem EL.push {es es':List MapEntry} (h:EL m es es') {kv v v':Value} (ck:Nat) (hk:am kv=true) (hv:VRel m v v') :
 EL m (es++[{key:=kv,val:=v,born:=ck}]) (es'++[{key:=kv,val:=v',born:=ck}]):=by
 refine ⟨by simp [h.1],fun k e e' he he'=>?_⟩;by_cases hk':k<es.length
 ·rw [List.getElem?_append_left hk'] at he;rw [List.getElem?_append_left (by rw [<-h.1];exact hk')] at he';exact h.2 k e e' he he'
 ·rw [List.getElem?_append_right (by omega)] at he;rw [List.getElem?_append_right (by rw [<-h.1];omega)] at he';rw [<-h.1] at he'
  cases hq:k-es.length with
  | zero=>rw [hq] at he he';simp at he he';subst he;subst he';exact ⟨rfl,hk,hv,rfl⟩
  | succ q=>rw [hq] at he;simp at he
theorem EL.erase {es es':List MapEntry} (h:EL m es es') (j:Nat):EL m (es.eraseIdx j) (es'.eraseIdx j):=by
 refine ⟨by simp [List.length_eraseIdx,h.1],fun k e e' he he'=>?_⟩;rw [List.getElem?_eraseIdx] at he he'
 split at he
 ·rename_i hk;rw [if_pos hk] at he';exact h.2 k e e' he he'
 ·rename_i hk;rw [if_neg hk] at he';exact h.2 _ e e' he he'
theorem iQ (hC:aM ω C) (hs:SR B X m s w) (ht:TR m n a act) {t:TypeId} {x k v:Operand} {r:R} (h:cC t x k v C a s=some (r,s')) :
 bD C B X m s' w r ((do Instr.mapUpdate t (act.eval x) (act.eval k) (act.eval v);pure Next.skip:Sem Next).run C.P w):=by
 unfold cC at h
 split at h
 ·rename_i kt et b kv vv hu hx hk hv;have hun:=hC.un _ _ hu;have hvv:=oS ht hv
  split at h
  ·rename_i d es ck hd hb;have hdn:=hC.un _ _ hd
   cases hp:plainKey d kv with
   | false=>simp [hp] at h
   | true =>
    simp only [hp,cond_true] at h;have hkv:=aK (oS ht hk) (cF hp);obtain ⟨i,h1,hx'⟩:=l6 (oS ht hx);obtain ⟨es',h2,h3,h4,h5⟩:=iG hs hb h1
    split at h
    ·rename_i j u hf
     cases h
     obtain ⟨v',g1,g2,_,e0,g3,g4⟩:=jU h3 hf;obtain ⟨e1,g5,g6⟩:=h3.at_ (by simpa using g3);have hkey:e1.key=e0.key:=g6.1.symm;obtain ⟨k1,k2⟩:=fp (ck2:=ck) hs hb h1 h4 h5 (h3.modify j (cF hp) hvv);refine ⟨.skip,_,m,?_,Le.refl _,k1,k2,trivial⟩;simp [Instr.mapUpdate,run_underlying hun,hx',hkv,cH h2,bh hdn hp,Instr.findKey,run_underlying hdn,g1,g5,hkey,yh g4,iH h2,Result.andThen]
    ·rename_i hf
     cases h
     have g1:=jT h3 hf;obtain ⟨k1,k2⟩:=fp (ck2:=ck+1) hs hb h1 h4 h5 (h3.push ck (cF hp) hvv);refine ⟨.skip,_,m,?_,Le.refl _,k1,k2,trivial⟩;simp [Instr.mapUpdate,run_underlying hun,hx',hkv,cH h2,bh hdn hp,Instr.findKey,run_underlying hdn,g1,iH h2,Result.andThen]
    ·cases h
  ·cases h
 ·cases h
theorem tZ (hC:aM ω C) (hs:SR B X m s w) {ts:List TypeId} {vs:List Value} {args:Array Value} (hl:LRel m vs args.toList) {ty:TypeId} {r:R} (h:pP C ts vs s=some (r,s')) :
 bD C B X m s' w r ((do let z <-Builtin.delete_ ts.toArray ty args;pure (Next.value z):Sem Next).run C.P w):=by
 unfold pP at h
 split at h
 ·rename_i t t2 b k
  obtain ⟨u1,u2,rfl⟩:∃ u1 u2,args=#[u1,u2]:=by
   have:=hl.1;simp at this
   match args,this with
   | ⟨[u1,u2]⟩,_=>exact ⟨u1,u2,rfl⟩
  have hr1:=hl.tail.1;have hr2:=hl.tail.2.tail.1
  split at h
  ·rename_i kt et es ck hu hb;have hun:=hC.un _ _ hu
   split at h
   ·rename_i d hd;have hdn:=hC.un _ _ hd
    cases hp:plainKey d k with
    | false=>simp [hp] at h
    | true =>
     simp only [hp,cond_true] at h;have hkv:=aK hr2 (cF hp);obtain ⟨i,h1,hx'⟩:=l6 hr1;obtain ⟨es',h2,h3,h4,h5⟩:=iG hs hb h1
     split at h
     ·rename_i j u hf
      cases h
      obtain ⟨v',g1,g2,_,e0,g3,g4⟩:=jU h3 hf
      have hj:j<es'.length:=by
       have:=(lS.1 g3).1;rw [<-h3.1];simpa using this
      obtain ⟨k1,k2⟩:=fp (ck2:=ck) hs hb h1 h4 h5 (h3.erase j);refine ⟨.value (.tuple #[]),_,m,?_,Le.refl _,k1,k2,.tuple _ _ rfl (fun i hi=>by simp at hi)⟩;simp [Builtin.delete_,run_underlying hun,hx',hkv,cH h2,bh hdn hp,Instr.findKey,run_underlying hdn,g1,iH h2,Result.andThen,Array.eraseIdxIfInBounds,hj]
     ·rename_i hf
      cases h
      have g1:=jT h3 hf;obtain ⟨k1,k2⟩:=fp (ck2:=ck) hs hb h1 h4 h5 h3;refine ⟨.value (.tuple #[]),_,m,?_,Le.refl _,k1,k2,.tuple _ _ rfl (fun i hi=>by simp at hi)⟩;simp [Builtin.delete_,run_underlying hun,hx',hkv,cH h2,bh hdn hp,Instr.findKey,run_underlying hdn,g1,iH h2,Result.andThen]
     ·cases h
   ·cases h
  ·cases h
 ·cases h
end
end Go.Proofs.YtgohffhoapkeaaaGreatDoor.Ev
namespace Go.Proofs.YtgohffhoapkeaaaGreatDoor.Ev
open Go.RowKit
variable {ω:Nat->Value}
section
variable {C:Ctx} {B:Nat} {X:cK} {m:M ω} {s s':AS} {w:World} {a:T Value} {act:Act} {n:Nat}
theorem qe (h:SR B X m s w) (b:Nat) (hb:(s.h.get b).isSome=true) {i:eP} (hi:m b=some i):SR B X m ⟨s.n,s.h.put b .dead⟩ w:=by
 have key:∀ c p,(s.h.put b .dead).get c=some p->p.alive=true->s.h.get c=some p:=by
  intro c p hc hp;rw [T.get_put] at hc;by_cases hcb:c=b
  ·rw [if_pos hcb] at hc;cases hc;cases hp
  ·rw [if_neg hcb] at hc;exact hc
 refine ⟨fun c p j hc hp hj=>h.rel c p j (key c p hc hp) hp hj,fun c d p q x y hc hd hp hq hne hx hy=>h.inj c d p q x y (key c p hc hp) (key d q hd hq) hp hq hne hx hy,fun c hc=>?_,h.freshM,fun c p hc=>?_,h.kp,h.lt⟩
 ·show (s.h.put b .dead).get c=none;rw [T.get_put];by_cases hcb:c=b
  ·subst hcb;rw [h.freshH c hc] at hb;cases hb
  ·rw [if_neg hcb];exact h.freshH c hc
 ·obtain ⟨k1,k2⟩:=h.gh c p hc;refine ⟨?_,k2⟩;show (s.h.put b .dead).get c=some p;rw [T.get_put,if_neg (fun e=>by rw [e,hi] at k2;cases k2)];exact k1
theorem nG (h:SR B X m s w) {b:Nat} {o o':AObj} {i i':eP} (hg:s.h.get b=some o) (ha:o.alive=true) (hi:m b=some i) (hr:i'.r=i.r) {w1:World} (hsz:w1.heap.size=w.heap.size)
 (hold:∀ k,k≠i.r->w1.heap[k]?=w.heap[k]?) (ho:gD (ext m s.n i') w1 i' o'):SR B X (ext m s.n i') ⟨s.n+1,(s.h.put b .dead).put s.n o'⟩ w1:=by
 obtain ⟨_,e2,e3⟩:=h.rel b o i hg ha hi;have hle:Le m (ext m s.n i'):=tT (h.freshM s.n (nR _))
 have hbn:b≠s.n:=fun e=>by rw [e,h.freshH s.n (nR _)] at hg;cases hg
 have mkey:∀ c j,ext m s.n i' c=some j->c≠s.n->m c=some j:=by
  intro c j hj hne;unfold ext at hj;rwa [if_neg hne] at hj
 have key:∀ c p,((s.h.put b .dead).put s.n o').get c=some p->p.alive=true->(c=s.n/\p=o')\/(c≠s.n/\c≠b/\s.h.get c=some p):=by
  intro c p hc hp;rw [T.get_put,T.get_put] at hc;by_cases hcn:c=s.n
  ·rw [if_pos hcn] at hc;cases hc;exact .inl ⟨hcn,rfl⟩
  ·rw [if_neg hcn] at hc;by_cases hcb:c=b
   ·rw [if_pos hcb] at hc;cases hc;cases hp
   ·rw [if_neg hcb] at hc;exact .inr ⟨hcn,hcb,hc⟩
 refine ⟨?_,?_,?_,?_,?_,?_,fun c j hj=>by
  by_cases hcn:c=s.n
  ·rw [hcn,ba] at hj;cases hj;rw [hsz,hr];exact e3
  ·rw [hsz];exact h.lt c j (mkey c j hj hcn)⟩
 ·intro c p j hc hp hj
  rcases key c p hc hp with ⟨rfl,rfl⟩ | ⟨h1,h2,h3⟩
  ·rw [ba] at hj;cases hj;exact ⟨ho,by omega,by omega⟩
  ·have h4:=mkey c j hj h1;obtain ⟨f2,f3,f4⟩:=h.rel c p j h3 hp h4;exact ⟨(f2.mono hle).other (hold _ (h.inj c b p o j i h3 hg hp ha h2 h4 hi)),f3,by omega⟩
 ·intro c d p q x y hc hd hp hq hne hx hy
  rcases key c p hc hp with ⟨rfl,rfl⟩ | ⟨h1,h2,h3⟩
  ·rw [ba] at hx;cases hx
   rcases key d q hd hq with ⟨rfl,rfl⟩ | ⟨k1,k2,k3⟩
   ·exact absurd rfl hne
   ·have:=h.inj d b q o _ i k3 hg hq ha k2 (mkey d y hy k1) hi;omega
  ·have h4:=mkey c x hx h1
   rcases key d q hd hq with ⟨rfl,rfl⟩ | ⟨k1,k2,k3⟩
   ·rw [ba] at hy;cases hy;have:=h.inj c b p o _ i h3 hg hp ha h2 h4 hi;omega
   ·exact h.inj c d p q _ _ h3 k3 hp hq hne h4 (mkey d y hy k1)
 ·intro c hc;have hc':s.n+1<=c:=hc;show ((s.h.put b .dead).put s.n o').get c=none;rw [T.get_put,if_neg (by omega),T.get_put];by_cases hcb:c=b
  ·subst hcb;rw [h.freshH c (by omega)] at hg;cases hg
  ·rw [if_neg hcb];exact h.freshH c (by omega)
 ·intro c hc;have hc':s.n+1<=c:=hc;unfold ext;rw [if_neg (by omega)];exact h.freshM c (by omega)
 ·intro c p hc;obtain ⟨k1,k2⟩:=h.gh c p hc
  have hcn:c≠s.n:=fun e=>by rw [e,h.freshH s.n (nR _)] at k1;cases k1
  have hcb:c≠b:=fun e=>by rw [e,hi] at k2;cases k2
  refine ⟨?_,by unfold ext;rw [if_neg hcn];exact k2⟩;show ((s.h.put b .dead).put s.n o').get c=some p;rw [T.get_put,if_neg hcn,T.get_put,if_neg hcb];exact k1
 ·intro r q hr';obtain ⟨k1,k2,k3⟩:=h.kp r q hr';have hne:=k3 b i hi;refine ⟨by rw [hold r hne.symm];exact k1,k2,fun c j hj=>?_⟩;by_cases hcn:c=s.n
  ·rw [hcn,ba] at hj;cases hj;rw [hr];exact hne
  ·exact k3 c j (mkey c j hj hcn)
theorem jn (h:SR B X m s w) {p:Addr} (hp:∃ i,m p.block=some i) (hr:eY s p []=some s'):SR B X m s' w:=by
 unfold eY at hr
 split at hr
 ·rename_i k hsp hk
  cases hb:(Nat.ble (p.off+([]:List Value).length) k.len && ([]:List Value).all de) with
  | false=>rw [hb] at hr;cases hr
  | true =>
   rw [hb] at hr;simp only [cond_true,Option.some.injEq] at hr;subst hr;obtain ⟨i,h1⟩:=hp;obtain ⟨h2,h3,_⟩:=gG h hk h1;exact ep h h2 rfl h1 rfl (fun _ _=>rfl) h3
 ·cases hr
structure Df (P:Program) (e:TypeId) (i:TypeInfo) (z:Value) (tx:TypeId) (x:Value) (k:Nat) (news:List Value) (w:World):Prop where
 way:Src P i.size tx x k news w\/(∃ kd,P.underlying tx=some (.int kd))/\(∃ kd,x=.int kd (k:Int))/\k<=1000000/\news=df k z.cells.toList
theorem jV {k:Nat} (h:k<=1000000):IntKind.i64.wrap (k:Int)=k:=by
 simp [IntKind.wrap,IntKind.bits,IntKind.signed];omega
theorem jo {P:Program} (t tx ty e:TypeId) (i:TypeInfo) (z:Value) (ht:P.underlying t=some (.slice e)) (hi:P.info? e=some i) (hz:i.zero=some z) (hzs:z.cells.size=i.size) (hby:i.bytes<=1000000)
 (ao:Option Addr) (q c:Nat) (x:Value) (k:Nat) (news:List Value) (hs:Df P e i z tx x k news w) (hroom:q+k<=c) {w':World} (hst:∀ p,ao=some p->(storeCells (p.add (q*i.size)) news).run P w=.ok () w') (hno:ao=none->w'=w) :
 (Builtin.append_ #[t,tx] ty #[.slice ao q c,x]).run P w=.ok (.slice ao (q+k) c) w':=by
 rcases hs.way with hs | ⟨⟨kd,hk⟩,⟨kd',rfl⟩,hk2,rfl⟩
 ·cases ao with
  | none=>obtain rfl:=hno rfl;rcases hs.kind with ⟨e',hk⟩ | hk <;> simp [Builtin.append_,run_underlying ht,run_underlying hk,sizeOf,typeInfo,hi,hs.len,hroom,hs.cells]
  | some p=>have:=hst p rfl;rcases hs.kind with ⟨e',hk⟩ | hk <;> simp [Builtin.append_,run_underlying ht,run_underlying hk,sizeOf,typeInfo,hi,hs.len,hroom,hs.cells,this]
 ·have hb:¬ ((281474976710656:Int)<(k:Int)*(i.bytes:Int)):=by
   have h1:(k:Int)*(i.bytes:Int)<=1000000*1000000:=Int.mul_le_mul (by omega) (by omega) (by omega) (by omega);omega
  have hzc:Builtin.zeroCells z.cells k=(df k z.cells.toList).toArray:=l8 z.cells k;have hemp:k*i.size=0->df k z.cells.toList=[]:=fun h=>List.length_eq_zero_iff.1 (by rw [gX];simp [hzs,h]);by_cases h0:k*i.size=0
  ·rw [hemp h0] at hst
   cases ao with
   | none=>obtain rfl:=hno rfl;simp [Builtin.append_,run_underlying ht,run_underlying hk,sizeOf,typeInfo,hi,asInt,asIntOf,jV hk2,show ¬ ((k:Int)<0) by omega,hb,hroom,h0]
   | some p=>have:=hst p rfl;simp [Builtin.append_,run_underlying ht,run_underlying hk,sizeOf,typeInfo,hi,asInt,asIntOf,jV hk2,show ¬ ((k:Int)<0) by omega,hb,hroom,h0,this]
  ·cases ao with
   | none=>obtain rfl:=hno rfl;simp [Builtin.append_,run_underlying ht,run_underlying hk,sizeOf,typeInfo,hi,asInt,asIntOf,jV hk2,show ¬ ((k:Int)<0) by omega,hb,hroom,zeroValue,hz]
   | some p=>have:=hst p rfl;simp [Builtin.append_,run_underlying ht,run_underlying hk,sizeOf,typeInfo,hi,asInt,asIntOf,jV hk2,show ¬ ((k:Int)<0) by omega,hb,hroom,h0,zeroValue,hz,hzc,this]
theorem qf {P:Program} (t tx ty e:TypeId) (i:TypeInfo) (z:Value) (ht:P.underlying t=some (.slice e)) (hi:P.info? e=some i) (hz:i.zero=some z) (hzs:z.cells.size=i.size) (hby:i.bytes<=1000000)
 (base:Option Addr) (q c:Nat) (olds:List Value) (hold:(Builtin.firstCells i.size q (.slice base q c)).run P w.drew=.ok olds.toArray w.drew) (x:Value) (k:Nat) (news:List Value) (hs:Df P e i z tx x k news w)
 (hg:c<q+k) (hsm:q+k<=1000000) :
 (Builtin.append_ #[t,tx] ty #[.slice base q c,x]).run P w =
  .ok (.slice (some ⟨w.heap.size,0,none⟩) (q+k) (grownCap w (q+k) c e))
   (w.drew.alloc (.cells ((olds++news).toArray++Builtin.zeroCells z.cells (grownCap w (q+k) c e-(q+k))) e)):=by
 have hfit:Builtin.nextslicecap (q+k) c*i.bytes<=281474976710656:=growslice_fits hg (by
  have:(q+k)*i.bytes<=1000000*1000000:=Nat.mul_le_mul hsm hby
  omega)
 rcases hs.way with hs | ⟨⟨kd,hk⟩,⟨kd',rfl⟩,hk2,rfl⟩
 ·exact run_append_grow_src w t tx ty e i z ht hi hz base q c olds hold x k news hs hg (by omega) hfit
 ·have hb:¬ ((281474976710656:Int)<(k:Int)*(i.bytes:Int)):=by
   have h1:(k:Int)*(i.bytes:Int)<=1000000*1000000:=Int.mul_le_mul (by omega) (by omega) (by omega) (by omega);omega
  have hn:¬ (q+k<=c):=by omega
  have h63':¬ (9223372036854775807<((q:Int)+(k:Int))):=by omega
  have h48':¬ (281474976710656<Builtin.nextslicecap (q+k) c*i.bytes):=by omega
  have hzc:Builtin.zeroCells z.cells k=(df k z.cells.toList).toArray:=l8 z.cells k;have hemp:k*i.size=0->df k z.cells.toList=[]:=fun h=>List.length_eq_zero_iff.1 (by rw [gX];simp [hzs,h]);by_cases h0:k*i.size=0
  ·rw [hemp h0];simp [Builtin.append_,run_underlying ht,run_underlying hk,sizeOf,typeInfo,zeroValue,hi,hz,asInt,asIntOf,jV hk2,show ¬ ((k:Int)<0) by omega,hb,hn,h63',h48',Question.forced,hold,newRow,grownCap,h0]
  ·simp [Builtin.append_,run_underlying ht,run_underlying hk,sizeOf,typeInfo,zeroValue,hi,hz,asInt,asIntOf,jV hk2,show ¬ ((k:Int)<0) by omega,hb,hn,h63',h48',Question.forced,hold,newRow,grownCap,h0,hzc];congr 2;apply Array.ext';simp [List.append_assoc]
end
end Go.Proofs.YtgohffhoapkeaaaGreatDoor.Ev
namespace Go.Proofs.YtgohffhoapkeaaaGreatDoor.Ev
open Go.RowKit
variable {ω:Nat->Value}
section
variable {C:Ctx} {B:Nat} {X:cK} {m:M ω} {s s':AS} {w:World} {a:T Value} {act:Act} {n:Nat}
theorem oI {l l':List Value} (h:LRel m l l') (ho:l.all de=true):∀ u∈l',u.oneCell'=true:=fun u hu=>by
 obtain ⟨j,hj⟩:=List.mem_iff_getElem?.1 hu
 have hjl:j<l.length:=by have:=(lS.1 hj).1;rw [h.1];exact this
 exact oF (h.2 j _ u (gE hjl) hj) (List.all_eq_true.1 ho _ (List.getElem_mem hjl))
theorem ey {p:Addr} {l:List Value} (h:cq s p 0=some l):l=[]:=by
 unfold cq at h
 split at h
 ·rename_i k _ _
  cases hb:Nat.ble (p.off+0) k.len with
  | false=>rw [hb] at h;cases h
  | true=>rw [hb] at h;simp only [cond_true,T.range] at h;cases h;rfl
 ·cases h
theorem Bi {p:Addr} {k:Nat} {l:List Value} (h:cq s p k=some l):l.length=k:=by
 unfold cq at h
 split at h
 ·rename_i q _ _
  cases hb:Nat.ble (p.off+k) q.len with
  | false=>rw [hb] at h;cases h
  | true=>rw [hb] at h;simp only [cond_true] at h;exact (T.iy _ _ _ _ h).1
 ·cases h
theorem sn (hs:SR B X m s w) {P:Program} {size k:Nat} {tx:TypeId} {y y':Value} {new:List Value} (hy:VRel m y y') (h:lO s size y=some (k,new)) (ho:new.all de=true)
 (hk:(∃ e',P.underlying tx=some (.slice e'))/\(∀ b,y≠.string b)\/P.underlying tx=some .string/\size=1) :
 ∃ news,LRel m new news/\Src P size tx y' k news w:=by
 unfold lO at h
 split at h
 ·cases h
  obtain rfl:=bM hy
  rcases hk with ⟨⟨e',hk⟩,_⟩ | ⟨hk,rfl⟩
  ·exact ⟨[],LRel.nil m,Src.ofNil w hk 0⟩
  ·exact ⟨[],LRel.nil m,⟨.inr hk,fun _=>rfl,run_firstCells_none w 1 0 0 0,run_firstCells_none w.drew 1 0 0 0,by simp,fun _ h=>by cases h⟩⟩
 ·rename_i p q c
  split at h
  ·rename_i l hl
   cases h
   obtain ⟨p',c',rfl,hor⟩:=aU hy
   obtain ⟨news,h1,h2,h3⟩:∃ news,LRel m new news/\news.length=k*size/\∀ j v,news[j]?=some v->w.cell? (p'.add j)=some v:=by
    rcases hor with ⟨hp,_,_⟩ | ⟨rfl,_,_⟩
    ·exact aL hs hl hp
    ·rw [Nat.zero_mul] at hl;obtain rfl:=ey hl;exact ⟨[],LRel.nil m,by simp,fun j v h=>by simp at h⟩
   have e1:=run_firstCells_some (P:=P) w size k p' k c' news h2 h3;have e2:=run_firstCells_some (P:=P) w.drew size k p' k c' news h2 (by simpa using h3);refine ⟨news,h1,?_,fun _=>rfl,e1,e2,h2,oI h1 ho⟩
   rcases hk with ⟨hk,_⟩ | ⟨hk,rfl⟩
   ·exact .inl hk
   ·exact .inr hk
  ·cases h
 ·rename_i b
  cases h
  obtain rfl:=fo hy
  rcases hk with ⟨_,hk⟩ | ⟨hk,rfl⟩
  ·exact absurd rfl (hk b)
  ·exact ⟨byteCells b,LRel.plain (List.all_eq_true.2 fun v hv=>by obtain ⟨_,_,rfl⟩:=List.mem_map.1 hv;rfl),Src.ofString w hk b⟩
 ·cases h
theorem ua (hC:aM ω C) (hs:SR B X m s w) {e tx:TypeId} {ti:TypeInfo} {z:Value} (hty:C.ty e=some ti) (hz:ti.zero=some z) (hzt:tI z=false) {dx:TypeDesc} (hdx:C.P.underlying tx=some dx)
 {y y':Value} {k:Nat} {new:List Value} (hy:VRel m y y') (h:xL C e ti.size dx y s=some (k,new)) (ho:new.all de=true) :
 ∃ news,LRel m new news/\news.length=k*ti.size/\Df C.P e ti z tx y' k news w:=by
 have hzp:=hC.zero e ti z hty hz hzt;unfold xL at h
 split at h
 ·rename_i kd
  split at h
  ·rename_i kk q z' hz';obtain ⟨i0,z0,g1,g2,rfl,g4,g5⟩:=cD hC hz';rw [hC.ty e ti hty] at g1;cases g1;rw [hz] at g2;cases g2
   split at h
   ·rename_i hq
    cases h
    obtain rfl:=bg hy;refine ⟨df q.toNat (cellsOf z),LRel.plain (ga _ g4 _),by rw [gX,g5],⟨.inr ⟨⟨kd,hdx⟩,⟨kk,by rw [Int.toNat_of_nonneg hq.1]⟩,by omega,by rw [fX]⟩⟩⟩
   ·cases h
  ·cases h
 ·rename_i e'
  cases hsl:FJ y with
  | false=>simp [hsl] at h
  | true =>
   simp only [hsl,cond_true] at h;obtain ⟨news,h1,h2⟩:=sn (P:=C.P) (tx:=tx) hs hy h ho (.inl ⟨⟨e',hdx⟩,fun b e=>by rw [e] at hsl;cases hsl⟩);exact ⟨news,h1,h2.newsLen,⟨.inl h2⟩⟩
 ·cases hb:Nat.beq ti.size 1 with
  | false=>simp [hb] at h
  | true =>
   simp only [hb,cond_true] at h;have h1:=bE hb;obtain ⟨news,h1,h2⟩:=sn (P:=C.P) (tx:=tx) hs hy h ho (.inr ⟨hdx,h1⟩);exact ⟨news,h1,h2.newsLen,⟨.inl h2⟩⟩
 ·cases h
theorem nH (hs:SR B X m s w) (hB:B<=w.heap.size) {l l':List Value} (hl:LRel m l l') {k size cap:Nat} (hk:l.length=k*size) (hcap:k<=cap) {e:TypeId} {z:Array Value} (hz:z.size=size) {r:R}
 (h:grown s l k e size=some (r,s')) :
 ∃ v,r=.val v/\∃ m',Le m m'/\SR B X m' s' (w.drew.alloc (.cells (l'.toArray++Builtin.zeroCells z (cap-k)) e))/\Below B w (w.drew.alloc (.cells (l'.toArray++Builtin.zeroCells z (cap-k)) e)) /\
  VRel m' v (.slice (some ⟨w.heap.size,0,none⟩) k cap):=by
 have hsz:(l'.toArray++Builtin.zeroCells z (cap-k)).size=cap*size:=by
  simp [Builtin.zeroCells,<-hl.1,hk,hz];rw [<-Nat.add_mul];congr 1;omega
 obtain ⟨g1,g2⟩:=kD (w1:=w.drew.alloc (.cells (l'.toArray++Builtin.zeroCells z (cap-k)) e)) (l:=l) (c':=l'.toArray++Builtin.zeroCells z (cap-k)) (e:=e) (fz:=(0,0)) hs hB (by simp) (fun q hq=>Below.heap_alloc w.drew _ q hq) false size
  (heap_alloc_new w.drew _) (.inl rfl) (by rw [hsz,hk];exact Nat.mul_le_mul_right _ hcap) (fun j v hj=>by
   obtain ⟨v',h1,h2⟩:=hl.at_ hj;have hj':j<l'.length:=(lS.1 h1).1;refine ⟨v',?_,h2⟩;rw [Array.getElem?_append_left (by simpa using hj')]
   simpa using h1)
 unfold grown at h;simp only [pJ,Option.some.injEq,Prod.mk.injEq] at h;obtain ⟨rfl,rfl⟩:=h;refine ⟨_,rfl,_,g2,g1,((bR B w).drew).alloc hB _,.slice _ _ _ _ _ ⟨rfl,_,ba _ _ _,rfl⟩ (.inr ⟨hcap,_,ba _ _ _,rfl,?_,?_⟩) (nR _)⟩
 ·simp [hk]
 ·simp [hsz]
theorem gd (hC:aM ω C) (hs:SR B X m s w) (hB:B<=w.heap.size) {t tx ty e:TypeId} {ti:TypeInfo} {z:Value} (hun:C.P.underlying t=some (.slice e)) (hty:C.ty e=some ti) (hz:ti.zero=some z) (hzt:tI z=false) (hby:ti.bytes<=1000000)
 {x x' y':Value} {k:Nat} {new news:List Value} (hx:VRel m x x') (hl:LRel m new news) (hone:new.all de=true) (hnl:news.length=k*ti.size) (hsrc:Df C.P e ti z tx y' k news w) {r:R}
 (h:lP s x k ti.size e new=some (r,s')):∃ v,r=.val v/\bc B X m s' w v ((Builtin.append_ #[t,tx] ty #[x',y']).run C.P w):=by
 have hti:=hC.ty _ _ hty
 have hzs:z.cells.size=ti.size:=by rw [bj,(hC.zero e ti z hty hz hzt).2];simp
 have hnl':new.length=k*ti.size:=by rw [hl.1,hnl]
 unfold lP at h
 split at h
 ·obtain rfl:=bM hx
  cases h0:Nat.beq k 0 with
  | true =>
   have hk0:=bE h0;subst hk0;simp only [h0,cond_true,Option.some.injEq,Prod.mk.injEq] at h;obtain ⟨rfl,rfl⟩:=h;exact ⟨_,rfl,bc.same hs (jo (w':=w) t tx ty e ti z hun hti hz hzs hby none 0 0 y' 0 news hsrc (by omega) (fun p hp=>by cases hp) (fun _=>rfl)) (.plain _ rfl)⟩
  | false =>
   have hk0:=Nat.ne_of_beq_eq_false h0;simp only [h0,cond_false] at h
   cases h1:Nat.ble k 1000000 with
   | false=>simp [h1] at h
   | true =>
    simp only [h1,cond_true] at h;have h1':=Nat.le_of_ble_eq_true h1;have hrun:=qf t tx ty e ti z hun hti hz hzs hby none 0 0 [] (run_firstCells_none w.drew ti.size 0 0 0) y' k news hsrc (by omega) (by omega);obtain ⟨v,rfl,m',g1,g2,g3,g4⟩:=nH hs hB hl hnl' (cap:=grownCap w (0+k) 0 e) (by have:=grownCap_ge w (0+k) 0 e;omega) hzs h;rw [List.nil_append] at hrun;simp only [Nat.zero_add] at hrun g2 g3 g4;exact ⟨v,rfl,_,_,m',hrun,g1,g2,g3,g4⟩
 ·rename_i p q c;obtain ⟨p',c',rfl,hor⟩:=aU hx
  cases h1:Nat.ble (q+k) 1000000 with
  | false=>simp [h1] at h
  | true =>
   simp only [h1,cond_true] at h;have h1':=Nat.le_of_ble_eq_true h1
   have hcc:c<=c':=by
    rcases hor with ⟨_,hcr,_⟩ | ⟨_,rfl,rfl⟩
    ·rcases hcr with rfl | ⟨h,_⟩
     ·exact nR _
     ·exact h
    ·exact nR _
   unfold vG at h
   cases h2:Nat.ble (q+k) c with
   | true =>
    have h2':=Nat.le_of_ble_eq_true h2;simp only [h2,cond_true] at h
    split at h
    ·rename_i s2 hw
     cases h
     refine ⟨_,rfl,?_⟩
     rcases hor with ⟨hp,hcr,hqc⟩ | ⟨rfl,rfl,rfl⟩
     ·obtain ⟨w',g1,g2,g3⟩:=dR (P:=C.P) hs hw (addr_add hp) hl;exact ⟨_,w',m,jo t tx ty e ti z hun hti hz hzs hby (some p') q c' y' k news hsrc (by omega) (fun p0 hp0=>by cases hp0;exact g1) (fun h=>by cases h),Le.refl _,g2,g3,.slice _ _ _ _ _ hp hcr (by omega)⟩
     ·have hk0:k=0:=by omega
      subst hk0;have hnew:new=[]:=List.length_eq_zero_iff.1 (by rw [hnl'];simp);have hnews:news=[]:=List.length_eq_zero_iff.1 (by rw [hnl];simp);subst hnew;subst hnews;exact ⟨_,w,m,jo t tx ty e ti z hun hti hz hzs hby (some p') 0 0 y' 0 [] hsrc (by omega) (fun p0 hp0=>by simp [storeCells]) (fun h=>by cases h),Le.refl _,jn hs (by have:=eq hx;exact this) hw,bR _ _,.slice0 _ _ (eq hx)⟩
    ·cases h
   | false =>
    have h2':¬ (q+k<=c):=fun hh=>by rw [Nat.ble_eq_true_of_le hh] at h2;cases h2
    simp only [h2,cond_false] at h
    split at h
    ·rename_i old kb hold hkb;have hol:=Bi hold
     obtain ⟨olds,o1,o2,o3⟩:∃ olds,LRel m old olds/\olds.length=q*ti.size/\∀ j v,olds[j]?=some v->w.cell? (p'.add j)=some v:=by
      rcases hor with ⟨hp,_,_⟩ | ⟨rfl,_,_⟩
      ·exact aL hs hold hp
      ·rw [Nat.zero_mul] at hold;obtain rfl:=ey hold;exact ⟨[],LRel.nil m,by simp,fun j v h=>by simp at h⟩
     have hfirst:=run_firstCells_some (P:=C.P) w.drew ti.size q p' q c' olds o2 (by simpa using o3)
     have hlen:(old++new).length=(q+k)*ti.size:=by rw [lQ,hol,hnl',Nat.add_mul]
     have grows:∀ {s0:AS},SR B X m s0 w->c'<q+k->grown s0 (old++new) (q+k) e ti.size=some (r,s')->∃ v,r=.val v/\bc B X m s' w v ((Builtin.append_ #[t,tx] ty #[.slice (some p') q c',y']).run C.P w):=by
      intro s0 hs0 hlt hg;have hrun:=qf t tx ty e ti z hun hti hz hzs hby (some p') q c' olds hfirst y' k news hsrc hlt h1';obtain ⟨v,rfl,m',g1,g2,g3,g4⟩:=nH hs0 hB (o1.append hl) hlen (grownCap_ge w (q+k) c' e) hzs hg;exact ⟨v,rfl,_,_,m',hrun,g1,g2,g3,g4⟩
     obtain ⟨i,i1⟩:=eq hx;obtain ⟨i2,⟨a1,a2,a3,a4,cw,fz,hw,hsz,hcell,hfz⟩,i4,i5⟩:=gG hs hkb i1
     have fixed:(kb.opn=true->kb.esz=ti.size/\p.off+c*ti.size≠kb.len)->c'<q+k:=by
      intro hno
      rcases hor with ⟨hp,hcr,_⟩ | ⟨_,rfl,rfl⟩
      ·rcases hcr with rfl | ⟨_,i',j1,j2,j3,_⟩
       ·omega
       ·rw [i1] at j1;cases j1;obtain ⟨x1,x2⟩:=hno (by rw [<-a2];exact j2);rw [a3,x1,a1] at j3;exact absurd j3 x2
      ·omega
     cases ho:kb.opn with
     | false =>
      simp only [ho,cond_false] at h;exact grows hs (fixed (fun e=>by rw [ho] at e;cases e)) h
     | true =>
      simp only [ho,cond_true] at h
      cases hez:Nat.beq kb.esz ti.size with
      | false=>simp [hez] at h
      | true =>
       simp only [hez,cond_true] at h;have hez':=bE hez
       cases hend:Nat.beq (p.off+c*ti.size) kb.len with
       | false =>
        simp only [hend,cond_false] at h;exact grows hs (fixed (fun _=>⟨hez',Nat.ne_of_beq_eq_false hend⟩)) h
       | true =>
        simp only [hend,cond_true] at h;have hend':=bE hend
        cases hel:Nat.beq kb.elem e with
        | false=>simp [hel] at h
        | true =>
        have helem:=bE hel;simp only [hel,cond_true] at h;have hkill:=qe hs p.block (by rw [i2];rfl) i1;by_cases hroom:q+k<=c'
        ·
          rcases hor with ⟨hp,hcr,hqc⟩ | ⟨_,rfl,rfl⟩
          ·obtain ⟨hspot,i',hi',rfl⟩:=hp;rw [i1] at hi';cases hi'
           have hfit:i.d+p.off+c'*ti.size<=i.tot:=by
            rcases hcr with rfl | ⟨_,i',j1,j2,j3,j4⟩
            ·omega
            ·rw [i1] at j1;cases j1;rw [a3,hez'] at j4;exact j4
           have hmul:(q+k)*ti.size<=c'*ti.size:=Nat.mul_le_mul_right _ hroom;have hqk:q*ti.size+k*ti.size=(q+k)*ti.size:=(Nat.add_mul _ _ _).symm
           have hst:=run_storeCells_cells (P:=C.P) i.r (i.d+p.off+q*ti.size) news 0 w
            (fun j hj=>by
             rw [cell_of_row w i.r _ cw kb.elem fz hw];rw [hnl] at hj
             have hb:i.d+p.off+q*ti.size+j<cw.size:=by omega
             simp [hb])
            (fun j hj=>by
             simp only [World.frozen?,hw];rw [hnl] at hj
             rcases hfz with e | ⟨e,_⟩ <;> rw [e] <;> simp
             omega)
            (oI hl hone)
           simp only [Nat.add_zero] at hst;obtain ⟨c2,g1,g2,g3⟩:=bI news (i.d+p.off+q*ti.size) w cw hw;have hrun:=jo (w':=w.setCells i.r (i.d+p.off+q*ti.size) news) t tx ty e ti z hun hti hz hzs hby (some ⟨i.r,i.d+p.off,none⟩) q c' y' k news hsrc hroom (fun p0 hp0=>by cases hp0;rw [add_lit];exact hst) (fun h=>by cases h);simp only [grown,pJ,Option.some.injEq,Prod.mk.injEq] at h;obtain ⟨rfl,rfl⟩:=h;have hle:Le m (ext m s.n ⟨i.r,i.d+p.off,(old++new).length,ti.size,true,i.tot⟩):=tT (hs.freshM s.n (nR _))
           have hsr:=nG (i':=⟨i.r,i.d+p.off,(old++new).length,ti.size,true,i.tot⟩) (o':=.cells ⟨T.bH (old++new) 0 .leaf,(old++new).length,e,ti.size,true,false⟩)
            (w1:=w.setCells i.r (i.d+p.off+q*ti.size) news) hs i2 rfl i1 rfl (size_setCells _ _ _) (fun x hx=>heap_setCells_other _ _ _ _ hx) ?_
           ·refine ⟨_,rfl,_,_,_,hrun,hle,hsr,below_setCells i4 _ _ _,.slice _ _ _ _ _ ⟨rfl,_,ba _ _ _,rfl⟩ (.inr ⟨hroom,_,ba _ _ _,rfl,?_,?_⟩) (nR _)⟩
            ·simp only [Nat.zero_add];exact hlen.symm
            ·simpa using hfit
           ·refine ⟨rfl,rfl,rfl,by show i.d+p.off+(old++new).length<=i.tot;omega,c2,fz,by rw [<-helem];exact g1,by rw [g2];exact hsz,fun j hj=>?_,by rw [<-helem];exact hfz⟩;have hj':j<(old++new).length:=hj;have hll:(old++new).length=(olds++news).length:=(o1.append hl).1;refine ⟨(old++new)[j],(olds++news)[j]'(by omega),by rw [T.br,if_pos (by omega)];simp,?_,((o1.append hl).2 j _ _ (gE hj') (gE (by omega))).mono hle⟩;show c2[i.d+p.off+j]?=_;rw [g3];by_cases hjo:j<olds.length
            ·rw [if_neg (by omega),List.getElem_append_left hjo];have:=o3 j olds[j] (gE hjo);rw [add_lit,cell_of_row w i.r _ cw kb.elem fz hw] at this;exact this
            ·rw [if_pos (by omega),List.getElem_append_right (by omega),<-gE];congr 1;omega
          ·omega
        ·exact grows hkill (by omega) h
    ·cases h
 ·cases h
theorem ss {x y:Value} {args:Array Value} (hl:LRel m [x,y] args.toList):∃ x' y',args=#[x',y']/\VRel m x x'/\VRel m y y':=by
 have:=hl.1;simp at this
 match args,this,hl with
 | ⟨[u1,u2]⟩,_,hl=>exact ⟨u1,u2,rfl,hl.tail.1,hl.tail.2.tail.1⟩
theorem gY {x:Value} {args:Array Value} (hl:LRel m [x] args.toList):∃ x',args=#[x']/\VRel m x x':=by
 have:=hl.1;simp at this
 match args,this,hl with
 | ⟨[u1]⟩,_,hl=>exact ⟨u1,rfl,hl.tail.1⟩
theorem SR.garbage (h:SR B X m s w) (o:Obj):SR B X m s (w.drew.alloc o):=⟨fun b p i h1 h2 h3=>by
 obtain ⟨k1,k2,k3⟩:=h.rel b p i h1 h2 h3
 exact ⟨k1.other (Below.heap_alloc w.drew _ _ k3),k2,by simp;omega⟩,h.inj,h.freshH,h.freshM,h.gh,fun r p hr=>by
 obtain ⟨k1,k2,k3⟩:=h.kp r p hr
 exact ⟨by rw [Below.heap_alloc w.drew _ _ (aS.1 k1).1];exact k1,k2,k3⟩,fun b i hi=>by have:=h.lt b i hi;simp;omega⟩
theorem ub:∀ n:Nat,(df n [Value.chan none]).all de=true
 | 0=>rfl
 | n+1=>by rw [df,List.all_append,ub n];rfl
theorem uc:∀ (n:Nat) (news:List Value),news.length=n->(∀ u∈news,de u=true)->LRel m (df n [Value.chan none]) news
 | 0,[],_,_=>LRel.nil m
 | 0,_::_,h,_=>by simp at h
 | n+1,[],h,_=>by simp at h
 | n+1,u::us,h,h1=>LRel.cons (.any u (h1 u (by simp))) (uc n us (by simpa using h) (fun v hv=>h1 v (by simp [hv])))
theorem om (hC:aM ω C) (hs:SR B X m s w) (hB:Bs ω C B w) {t tx ty:TypeId} {x x':Value} {k:Nat} (hx:VRel m x x') (hy:VRel m (.chan (some k)) (ω k)) {r:R} (h:mV C t tx x k s=some (r,s')) :
 bD C B X m s' w r ((do let z <-Builtin.append_ #[t,tx] ty #[x',ω k];pure (Next.value z):Sem Next).run C.P w):=by
 unfold mV at h
 split at h
 ·rename_i e e' hu hux;have hun:=hC.un _ _ hu;have hunx:=hC.un _ _ hux
  split at h
  ·rename_i ti hty
   cases hc:(C.rd k && (xN s x && (Nat.beq ti.size 1 && (Nat.ble ti.bytes 1000000 && jL ti)))) with
   | false=>rw [hc] at h;cases h
   | true =>
    rw [hc] at h;simp only [cond_true] at h;simp only [Bool.and_eq_true] at hc;obtain ⟨hrd,hem,hsz,hby,hhz⟩:=hc;have hsz':=bE hsz;have hby':=Nat.le_of_ble_eq_true hby
    obtain ⟨z,hz,hzt⟩:∃ z,ti.zero=some z/\tI z=false:=by
     unfold jL at hhz
     split at hhz
     ·rename_i z hz;exact ⟨z,hz,by simpa using hhz⟩
     ·cases hhz
    have hti:=hC.ty _ _ hty
    have hzs:z.cells.size=ti.size:=by rw [bj,(hC.zero e ti z hty hz hzt).2];simp
    split at h
    ·rename_i n hln;obtain ⟨v',hr,hvv⟩:=hC.len tx (some k) _ hln m (ω k) ty w hy;obtain rfl:=bg hvv
     rcases hB.rd k hrd with e0 | ⟨p,n',c,news,e0,h2,h3,h4,h5,h6⟩
     ·rw [e0] at hr;simp [Builtin.len_,run_underlying hunx,goInt] at hr
      obtain rfl:n=0:=by omega
      obtain ⟨v,rfl,hv⟩:=gd (ty:=ty) (y':=ω k) (news:=[]) hC hs hB.le hun hty hz hzt hby' hx (uc 0 [] rfl (fun u hu=>by cases hu)) (ub 0) (by simp) ⟨.inl (by rw [e0];exact Src.ofNil w hunx 0)⟩ h;exact bc.op hv
     ·rw [e0] at hr;simp [Builtin.len_,run_underlying hunx,goInt] at hr
      obtain rfl:n'=n:=by omega
      obtain ⟨v,rfl,hv⟩:=gd (ty:=ty) (y':=ω k) (news:=news) hC hs hB.le hun hty hz hzt hby' hx (uc _ news h4 h6) (ub _) (by rw [h4,hsz'];omega) ⟨.inl (by rw [e0];exact Src.ofSlice w hunx p _ c news (by rw [hsz'];omega) h5 (fun u hu=>jR (h6 u hu)))⟩ h;exact bc.op hv
    cases h
    obtain ⟨p',rfl⟩:∃ p',x'=.slice (some p') 0 0:=by
     unfold xN at hem
     split at hem
     ·rename_i a
      split at hem
      ·rename_i q hq;obtain ⟨p',c',rfl,hor⟩:=aU hx;obtain ⟨i,hi⟩:=eq hx;obtain ⟨_,⟨_,a2,_⟩,_⟩:=gG hs hq hi
       rcases hor with ⟨_,hcr,_⟩ | ⟨_,_,rfl⟩
       ·rcases hcr with rfl | ⟨_,j,j1,j2,_⟩
        ·exact ⟨p',rfl⟩
        ·rw [hi] at j1;cases j1;rw [<-a2,j2] at hem;cases hem
       ·exact ⟨p',rfl⟩
      ·cases hem
     ·cases hem
    have go:∀ (n:Nat) (news:List Value),n<=1000000->Src C.P ti.size tx (ω k) n news w->bD C B X m s w (.val (.chan none)) ((do let z <-Builtin.append_ #[t,tx] ty #[.slice (some p') 0 0,ω k];pure (Next.value z):Sem Next).run C.P w):=by
     intro n news hn hsrc
     have hAS:Df C.P e ti z tx (ω k) n news w:=⟨.inl hsrc⟩
     by_cases h0:n=0
     ·subst h0;have hnil:news=[]:=List.length_eq_zero_iff.1 (by rw [hsrc.newsLen];simp);subst hnil;have hrun:=jo (w':=w) t tx ty e ti z hun hti hz hzs hby' (some p') 0 0 (ω k) 0 [] hAS (by omega) (fun p hp=>by simp [storeCells]) (fun h=>by cases h);exact bc.op ⟨_,w,m,hrun,Le.refl _,hs,bR _ _,.any _ rfl⟩
     ·have hfirst:=run_firstCells_some (P:=C.P) w.drew ti.size 0 p' 0 0 [] (by simp) (fun j v h=>by simp at h);have hrun:=qf t tx ty e ti z hun hti hz hzs hby' (some p') 0 0 [] hfirst (ω k) n news hAS (by omega) (by omega);exact bc.op ⟨_,_,m,hrun,Le.refl _,hs.garbage _,((bR B w).drew).alloc hB.le _,.any _ rfl⟩
    rcases hB.rd k hrd with e0 | ⟨p,n,c,news,e0,h2,h3,h4,h5,h6⟩
    ·exact go 0 [] (by omega) (by rw [e0];exact Src.ofNil w hunx 0)
    ·refine go n news h2 ?_;rw [e0];exact Src.ofSlice w hunx p n c news (by rw [hsz'];omega) h5 (fun u hu=>jR (h6 u hu))
  ·cases h
 ·cases h
theorem ma {k:Nat} {v:Value} (h:VRel m (.chan (some k)) v):v=ω k:=by
 cases h with
 | plain v h=>cases h
 | tok k h=>rfl
theorem ud (hC:aM ω C) (hs:SR B X m s w) (hBs:Bs ω C B w) {ts:List TypeId} {vs:List Value} {args:Array Value} (hl:LRel m vs args.toList) {ty:TypeId} {r:R} (h:pO C ts vs s=some (r,s')) :
 bD C B X m s' w r ((do let z <-Builtin.append_ ts.toArray ty args;pure (Next.value z):Sem Next).run C.P w):=by
 have hB:=hBs.le;unfold pO at h
 split at h
 ·rename_i t tx x k;obtain ⟨x',y',rfl,hx,hy⟩:=ss hl;obtain rfl:=ma hy;exact om hC hs hBs hx hy h
 ·rename_i t tx x y;obtain ⟨x',y',rfl,hx,hy⟩:=ss hl;unfold zg at h
  split at h
  ·rename_i e hu;have hun:=hC.un _ _ hu
   split at h
   ·rename_i ti dx hty hdx;have hdx':=hC.un _ _ hdx
    cases hb:Nat.ble ti.bytes 1000000 with
    | false=>simp [hb] at h
    | true =>
     simp only [hb,cond_true] at h
     split at h
     ·rename_i k new hsrc
      cases ho:(new.all de && jL ti) with
      | false=>simp [ho] at h
      | true =>
       simp only [ho,cond_true] at h;rw [Bool.and_eq_true] at ho
       obtain ⟨z,hz,hzt⟩:∃ z,ti.zero=some z/\tI z=false:=by
        have h2:=ho.2;unfold jL at h2
        split at h2
        ·rename_i z hz;exact ⟨z,hz,by simpa using h2⟩
        ·cases h2
       obtain ⟨news,g1,g2,g3⟩:=ua hC hs hty hz hzt hdx' hy hsrc ho.1;obtain ⟨v,rfl,hv⟩:=gd (ty:=ty) hC hs hB hun hty hz hzt (Nat.le_of_ble_eq_true hb) hx g1 ho.1 g2 g3 h;exact bc.op hv
     ·cases h
   ·cases h
  ·cases h
 ·cases h
theorem Bj (hC:aM ω C) (hs:SR B X m s w) {ts:List TypeId} {vs:List Value} {args:Array Value} (hl:LRel m vs args.toList) {ty:TypeId} {r:R} (h:zk C ts vs s=some (r,s')) :
 bD C B X m s' w r ((do let z <-Builtin.len_ ts.toArray ty args;pure (Next.value z):Sem Next).run C.P w):=by
 unfold zk at h
 split at h
 ·rename_i t k;obtain ⟨x',rfl,hx⟩:=gY hl;unfold xR at h
  split at h
  ·rename_i v hv
   cases h
   obtain ⟨v',hr,hvv⟩:=hC.len t k v hv m x' ty w hx;exact bc.op (bc.same hs hr hvv)
  ·cases h
 ·rename_i t x hno;clear hno;obtain ⟨x',rfl,hx⟩:=gY hl
  split at h
  ·rename_i e hu;have hun:=hC.un _ _ hu
   split at h
   ·rename_i p k c
    cases h
    have:∃ p' c',x'=.slice p' k c':=by
     cases hx with
     | plain v h=>exact ⟨_,_,rfl⟩
     | slice a a' n c c'=>exact ⟨_,_,rfl⟩
     | slice0 a a' h0=>exact ⟨_,_,rfl⟩
    obtain ⟨p',c',rfl⟩:=this;exact bc.op (bc.same hs (v':=.int .i64 k) (by simp [Builtin.len_,run_underlying hun,goInt]) (.plain _ rfl))
   ·cases h
  ·rename_i hu;have hun:=hC.un _ _ hu
   split at h
   ·rename_i b
    cases h
    obtain rfl:=fo hx;exact bc.op (bc.same hs (v':=.int .i64 b.size) (by simp [Builtin.len_,run_underlying hun,goInt]) (.plain _ rfl))
   ·cases h
  ·rename_i kt et hu;have hun:=hC.un _ _ hu
   split at h
   ·cases h
    rcases qd hx with ⟨_,rfl⟩ | ⟨_,_,e,_⟩
    ·exact bc.op (bc.same hs (v':=.int .i64 0) (by simp [Builtin.len_,run_underlying hun,goInt]) (.plain _ rfl))
    ·cases e
   ·rename_i b
    split at h
    ·rename_i es ck hb
     cases h
     rcases qd hx with ⟨e,_⟩ | ⟨b',i',e,e2,rfl⟩
     ·cases e
     ·cases e
      obtain ⟨es',h2,h3,_⟩:=iG hs hb e2;exact bc.op (bc.same hs (v':=.int .i64 es.length) (by simp [Builtin.len_,run_underlying hun,cH h2,goInt,h3.1]) (.plain _ rfl))
    ·cases h
   ·cases h
  ·rename_i k e hu;have hun:=hC.un _ _ hu
   cases h
   exact bc.op (bc.same hs (v':=.int .i64 k) (by simp [Builtin.len_,run_underlying hun,goInt]) (.plain _ rfl))
  ·rename_i e hu;have hun:=hC.un _ _ hu
   split at h
   ·rename_i k e2 hu2;have hun2:=hC.un _ _ hu2
    cases h
    exact bc.op (bc.same hs (v':=.int .i64 k) (by simp [Builtin.len_,run_underlying hun,run_underlying hun2,goInt]) (.plain _ rfl))
   ·cases h
  ·cases h
 ·cases h
theorem Bm (hC:aM ω C) (hs:SR B X m s w) {ts:List TypeId} {vs:List Value} {args:Array Value} (hl:LRel m vs args.toList) {ty:TypeId} {r:R} (h:zl C ts vs s=some (r,s')) :
 bD C B X m s' w r ((do let z <-Builtin.cap_ ts.toArray ty args;pure (Next.value z):Sem Next).run C.P w):=by
 unfold zl at h
 split at h
 ·rename_i t x;obtain ⟨x',rfl,hx⟩:=gY hl
  split at h
  ·rename_i e hu;have hun:=hC.un _ _ hu
   split at h
   ·cases h
    obtain rfl:=bM hx;exact bc.op (bc.same hs (v':=.int .i64 0) (by simp [Builtin.cap_,run_underlying hun,goInt]) (.plain _ rfl))
   ·rename_i p k c;obtain ⟨p',c',rfl,hor⟩:=aU hx
    have fin:c'=c->some (R.val (.int .i64 c),s)=some (r,s')->bD C B X m s' w r ((do let z <-Builtin.cap_ [t].toArray ty #[.slice (some p') k c'];pure (Next.value z):Sem Next).run C.P w):=by
     intro e he;subst e
     cases he
     exact bc.op (bc.same hs (v':=.int .i64 c') (by simp [Builtin.cap_,run_underlying hun,goInt]) (.plain _ rfl))
    split at h
    ·rename_i kb size hkb hsz;obtain ⟨i,i1⟩:=eq hx;obtain ⟨i2,⟨a1,a2,a3,_⟩,_,_⟩:=gG hs hkb i1
     have fixed:(kb.opn=true->kb.esz=size/\p.off+c*size≠kb.len)->c'=c:=by
      intro hno
      rcases hor with ⟨hp,hcr,_⟩ | ⟨_,rfl,rfl⟩
      ·rcases hcr with rfl | ⟨_,i',j1,j2,j3,_⟩
       ·rfl
       ·rw [i1] at j1;cases j1;obtain ⟨x1,x2⟩:=hno (by rw [<-a2];exact j2);rw [a3,x1,a1] at j3;exact absurd j3 x2
      ·rfl
     cases ho:kb.opn with
     | false =>
      simp only [ho,cond_false] at h;exact fin (fixed (fun e=>by rw [ho] at e;cases e)) h
     | true =>
      simp only [ho,cond_true] at h
      cases hez:Nat.beq kb.esz size with
      | false=>simp [hez] at h
      | true =>
       simp only [hez,cond_true] at h
       cases hend:Nat.beq (p.off+c*size) kb.len with
       | true=>simp [hend] at h
       | false =>
        simp only [hend,cond_false] at h;exact fin (fixed (fun _=>⟨bE hez,Nat.ne_of_beq_eq_false hend⟩)) h
    ·cases h
   ·cases h
  ·cases h
 ·cases h
end
end Go.Proofs.YtgohffhoapkeaaaGreatDoor.Ev
