/- A part of the proof of DiskSaves. No condition of its own. -/
import Derived.Test.YtekajggjoeimoaaGreatDoorSd
import Derived.Laws.Externs
import Derived.Test.YtekajggjoeimoaaGreatDoorRows
import Derived.WalkKit
import Derived.ProofKit
import Derived.OpenShut
import Derived.ShutString
import Derived.ChangeOld
import Derived.ChangeSame
import Derived.ChangeVars
import Derived.JoinedOf
import Derived.RowKit
import Derived.RowKitTokens
import Derived.LaidLaws
import Derived.LaidHandle
import Derived.Stop.Joined
import Derived.Below
import Derived.Lib.SmallJoins
import Derived.SizedLaws
import Derived.Test.YtekajggjoeimoaaGreatDoorProg
import Derived.BigCall
import Derived.BigGuard
import Derived.BigFrame
import Derived.Lib.Hide
import Derived.Maps.OwnSet
import Derived.Maps.OwnOps
import Derived.WalkSpells
import Derived.Laws.OwnMore
import Derived.Deep.AppendSrc
import Derived.StillTailTactics
import Derived.Deep.AppendLies
import Derived.Deep.Draws
import Derived.Maps.AppendAt
import Derived.RegionTactic
import Derived.OwnWalk
set_option linter.unusedVariables false
namespace Go.Proofs.YtekajggjoeimoaaGreatDoor.Ev
open Go.RowKit Go.Extern
variable {ω:Nat→Value}
def hBase:Nat:=1000
def hTok (t:TypeId):Value:=.chan (some (hBase+t))
def tyOf:Value→Option TypeId
 | .chan (some k)=>cond (Nat.ble hBase k) (some (k-hBase)) none
 | _=>none
def rtV (t:TypeId):Value:=.iface 184 (.agg #[hTok t])
def kindOf (t:TypeId):Option Nat :=
 cond (Nat.beq t 75 || (Nat.beq t 157 || Nat.beq t 73)) (some 22) (cond (Nat.beq t 59) (some 2) none)
def elemOf' (t:TypeId):Option TypeId :=
 cond (Nat.beq t 75) (some 73) (cond (Nat.beq t 157) (some 59) none)
def isErrT (t:TypeId):Bool:=Nat.beq t 73 || Nat.beq t 59
abbrev SpF:=List Value→AS→Option (Value × AS)
def spTypeOf:SpF
 | [.iface u _],s=>some (rtV u,s)
 | _,_=>none
noncomputable def spValueOf:SpF
 | [.iface u v],s=>match kindOf u with
  | some k=>cond (oneV v) (some (.agg #[hTok u,.pointer (some ⟨s.n,0,none⟩),.int .u64 ((k+128:Nat):Int)],⟨s.n+1,s.h.put s.n (blkOf [v] u 0 false false)⟩)) none
  | none=>none
 | _,_=>none
def spType:SpF
 | [.agg cs],s=>match cs.toList with
  | [h,.pointer (some _),.int .u64 150]=>match tyOf h with
   | some u=>some (rtV u,s)
   | none=>none
  | _=>none
 | _,_=>none
noncomputable def spIsNil:SpF
 | [.agg cs],s=>match cs.toList with
  | [h,.pointer (some p),.int .u64 150]=>match tyOf h with
   | some u=>match elemOf' u,readN s p 1 with
    | some _,some [.pointer q]=>some (.bool q.isNone,s)
    | _,_=>none
   | none=>none
  | _=>none
 | _,_=>none
noncomputable def spVElem:SpF
 | [.agg cs],s=>match cs.toList with
  | [h,.pointer (some p),.int .u64 150]=>match tyOf h with
   | some u=>match elemOf' u,readN s p 1 with
    | some e,some [.pointer (some q)]=>match kindOf e with
     | some k=>some (.agg #[hTok e,.pointer (some q),.int .u64 ((k+384:Nat):Int)],s)
     | none=>none
    | _,_=>none
   | none=>none
  | _=>none
 | _,_=>none
def spKind:SpF
 | [h],s=>match tyOf h with
  | some u=>match kindOf u with
   | some k=>some (.int .u8 ((k:Nat):Int),s)
   | none=>none
  | none=>none
 | _,_=>none
def spRtElem:SpF
 | [.agg cs],s=>match cs.toList with
  | [h]=>match tyOf h with
   | some u=>match elemOf' u with
    | some e=>some (rtV e,s)
    | none=>none
   | none=>none
  | _=>none
 | _,_=>none
def spImplements:SpF
 | [.agg cs,.iface _ (.agg ds)],s=>match cs.toList,ds.toList with
  | [h],[i]=>match tyOf h,tyOf i with
   | some u,some v=>cond (isErrT u && Nat.beq v 27) (some (.bool true,s)) none
   | _,_=>none
  | _,_=>none
 | _,_=>none
def spAssign:SpF
 | [.agg cs,.iface _ (.agg ds)],s=>match cs.toList,ds.toList with
  | [h],[i]=>match tyOf h,tyOf i with
   | some u,some v=>cond (isErrT u && isErrT v) (some (.bool (Nat.beq u v),s)) none
   | _,_=>none
  | _,_=>none
 | _,_=>none
def spComparable:SpF
 | [.agg cs],s=>match cs.toList with
  | [h]=>match tyOf h with
   | some u=>cond (isErrT u) (some (.bool true,s)) none
   | none=>none
  | _=>none
 | _,_=>none
noncomputable def spSet:SpF
 | [.agg cs,.agg ds],s=>match cs.toList,ds.toList with
  | [h,.pointer (some p),.int .u64 f],[i,.pointer (some q),.int .u64 g]=>match tyOf h,tyOf i with
   | some u,some v=>match kindOf u,readN s q 1 with
    | some k,some [x]=>cond (isErrT u && (Nat.beq u v && (eqI f ((k+384:Nat):Int) && (eqI g ((k+128:Nat):Int) && oneV x)))) (match writeL s p [x] with
     | some s'=>some (.tuple #[],s')
     | none=>none) none
    | _,_=>none
   | _,_=>none
  | _,_=>none
 | _,_=>none
noncomputable def spClone:SpF
 | [.iface t (.map (some r))],s=>match s.h.get r with
  | some (.map es clock)=>some (.iface t (.map (some s.n)),⟨s.n+1,s.h.put s.n (.map es clock)⟩)
  | _=>none
 | _,_=>none
noncomputable def spL:List (FuncId × SpF):=[(77,spTypeOf),(79,spValueOf),(80,spType),(81,spIsNil),(102,spVElem),(103,spSet),(148,spKind),(160,spRtElem),(161,spImplements),(158,spAssign),(159,spComparable)]
def spFind:List (FuncId × SpF)→FuncId→Option SpF
 | [],_=>none
 | (i,k)::r,g=>cond (Nat.beq i g) (some k) (spFind r g)
noncomputable def spT (g:FuncId):Option SpF:=spFind spL g
theorem spFind_ok {Q:FuncId→SpF→Prop}:∀ {l:List (FuncId × SpF)},(∀ p∈l,Q p.1 p.2)→∀ g k,spFind l g=some k→Q g k
 | [],_,g,k,h=>by cases h
 | (i,f)::r,hq,g,k,h=>by
  simp only [spFind] at h
  cases hb:Nat.beq i g with
  | true =>
   rw [hb] at h
   cases h
   rw [←Nat.eq_of_beq_eq_true hb]
   exact hq (i,f) (by simp)
  | false=>rw [hb] at h;exact spFind_ok (fun p hp=>hq p (by simp [hp])) g k h
def Hands (ω:Nat→Value):Prop:=∀ t,ω (hBase+t)=.pointer (some ⟨1,t,none⟩)
theorem ext_ok {C:Ctx} (hP:C.P=Tryz.prog) {g:FuncId} {fn:Func} (e:Array Value→Sem Value) (hf:Tryz.prog.funcs[g]?=some fn) (hname:(fn.name == "runtime.NumGoroutine")=false) (hb:fn.body.isNone=true) (hn:Extern.findNext fn=none) (he:Extern.find fn=some e)
 {args:Array Value} {w:World} {R:Value→World→Prop} (h:∃ v' w',(e args).run Tryz.prog w=.ok v' w'∧R v' w'):CallOK C g args w R:=by
 intro q F n o act K Q hF hK
 obtain ⟨v',w',hr,hR⟩:=h
 rw [hP,run_callFunc_extern hf hname hb hn he,hr]
 exact hK v' w' hR
section
variable {B:Nat} {X:Aux} {m:M ω} {s s':AS} {w:World}
theorem RelV.same {v v':Value} (hs:SR B X m s w) (hv:VRel m v v'):RelV B X m s w v v' w:=⟨m,Le.refl _,hs,hv,Below.refl _ _⟩
theorem hand_inv (hh:Hands ω) {h v':Value} {u:TypeId} (ht:tyOf h=some u) (hv:VRel m h v'):v'=.pointer (some ⟨1,u,none⟩):=by
 have key:∀ k,h=.chan (some k)→v'=.pointer (some ⟨1,u,none⟩):=by
  intro k hk
  subst hk
  have ht':cond (Nat.ble hBase k) (some (k-hBase)) none=some u:=ht
  cases hb:Nat.ble hBase k with
  | false=>rw [hb] at ht';cases ht'
  | true =>
   rw [hb] at ht'
   have hu:k-hBase=u:=Option.some.inj ht'
   have hle:=Nat.le_of_ble_eq_true hb
   have e:=hh u
   have ek:hBase+u=k:=by rw [←hu];exact Nat.add_sub_cancel' hle
   rw [ek] at e
   exact (tok_inv hv).trans e
 cases h with
 | chan c =>
  cases c with
  | none=>cases ht
  | some k=>exact key k rfl
 | _=>cases ht
theorem hand_rel (hh:Hands ω) (u:TypeId):VRel m (hTok u) (.pointer (some ⟨1,u,none⟩)):=by
 have:=VRel.tok (m:=m) (hBase+u) (by rw [hh];rfl)
 rwa [hh] at this
theorem rt_rel (hh:Hands ω) (u:TypeId):VRel m (rtV u) (.iface 184 (.agg #[.pointer (some ⟨1,u,none⟩)])) :=
 .iface _ _ _ (LRel.agg (l:=[hTok u]) (l':=[_]) (LRel.cons (hand_rel hh u) (LRel.nil m)))
theorem agg_list {cs:Array Value} {l:List Value} (hl:cs.toList=l) {v':Value} (h:VRel m (.agg cs) v'):∃ l',v'=.agg l'.toArray∧LRel m l l':=by
 obtain ⟨cs',rfl,hr⟩:=agg_inv h
 exact ⟨cs'.toList,by simp,by rw [←hl];exact hr⟩
theorem l1 {a:Value} {l:List Value} (h:LRel m [a] l):∃ a',l=[a']∧VRel m a a':=by
 match l,h with
 | [a'],h=>exact ⟨a',rfl,h.tail.1⟩
 | [],h=>exact absurd h.1 (by simp)
 | _::_::_,h=>exact absurd h.1 (by simp)
theorem l3 {a b c:Value} {l:List Value} (h:LRel m [a,b,c] l):∃ a' b' c',l=[a',b',c']∧VRel m a a'∧VRel m b b'∧VRel m c c':=by
 match l,h with
 | [a',b',c'],h=>exact ⟨a',b',c',rfl,h.tail.1,h.tail.2.tail.1,h.tail.2.tail.2.tail.1⟩
 | [],h=>exact absurd h.1 (by simp)
 | [_],h=>exact absurd h.1 (by simp)
 | [_,_],h=>exact absurd h.1 (by simp)
 | _::_::_::_::_,h=>exact absurd h.1 (by simp)
theorem kindOf_run {u:TypeId} {k:Nat} (h:kindOf u=some k) (w:World):(Rtype.kind u).run Tryz.prog w=.ok k w:=by
 unfold kindOf at h
 cases h1:Nat.beq u 75 with
 | true=>rw [h1] at h;cases h;obtain rfl:=Nat.eq_of_beq_eq_true h1;kernel_rfl
 | false =>
  cases h2:Nat.beq u 157 with
  | true=>rw [h1,h2] at h;cases h;obtain rfl:=Nat.eq_of_beq_eq_true h2;kernel_rfl
  | false =>
   cases h3:Nat.beq u 73 with
   | true=>rw [h1,h2,h3] at h;cases h;obtain rfl:=Nat.eq_of_beq_eq_true h3;kernel_rfl
   | false =>
    rw [h1,h2,h3] at h
    cases h4:Nat.beq u 59 with
    | true=>rw [h4] at h;cases h;obtain rfl:=Nat.eq_of_beq_eq_true h4;kernel_rfl
    | false=>rw [h4] at h;cases h
theorem typeOf_run (u:TypeId) (v:Value) (w:World):(ReflectliteType.typeOf #[.iface u v]).run Tryz.prog w=.ok (.iface 184 (.agg #[.pointer (some ⟨1,u,none⟩)])) w:=by kernel_rfl
theorem pack_no (t:String) (u:TypeId) (hu:Tryz.prog.packed u=false) (w:World):(Rtype.noPack t u).run Tryz.prog w=.ok () w:=by
 simp [Rtype.noPack,run_program,hu]
theorem packed_no {u:TypeId} {k:Nat} (h:kindOf u=some k):Tryz.prog.packed u=false:=by
 unfold kindOf at h
 cases h1:Nat.beq u 75 with
 | true=>obtain rfl:=Nat.eq_of_beq_eq_true h1;kernel_rfl
 | false =>
  cases h2:Nat.beq u 157 with
  | true=>obtain rfl:=Nat.eq_of_beq_eq_true h2;kernel_rfl
  | false =>
   cases h3:Nat.beq u 73 with
   | true=>obtain rfl:=Nat.eq_of_beq_eq_true h3;kernel_rfl
   | false =>
    rw [h1,h2,h3] at h
    cases h4:Nat.beq u 59 with
    | true=>obtain rfl:=Nat.eq_of_beq_eq_true h4;kernel_rfl
    | false=>rw [h4] at h;cases h
theorem ofHandle_run (u:TypeId) (w:World):(Rtype.ofHandle (.pointer (some ⟨1,u,none⟩))).run Tryz.prog w=.ok u w:=by kernel_rfl
theorem handle_run (u:TypeId) (w:World):(Rtype.handle u).run Tryz.prog w=.ok (.pointer (some ⟨1,u,none⟩)) w:=by kernel_rfl
theorem elem_of {u e:TypeId} (h:elemOf' u=some e):(u=75∧e=73)∨(u=157∧e=59):=by
 unfold elemOf' at h
 cases h1:Nat.beq u 75 with
 | true=>rw [h1] at h;cases h;exact .inl ⟨Nat.eq_of_beq_eq_true h1,rfl⟩
 | false =>
  rw [h1] at h
  cases h2:Nat.beq u 157 with
  | true=>rw [h2] at h;cases h;exact .inr ⟨Nat.eq_of_beq_eq_true h2,rfl⟩
  | false=>rw [h2] at h;cases h
theorem err_of {u:TypeId} (h:isErrT u=true):u=73∨u=59:=by
 unfold isErrT at h
 rw [Bool.or_eq_true] at h
 exact h.imp Nat.eq_of_beq_eq_true Nat.eq_of_beq_eq_true
theorem typeOf_ok (hh:Hands ω) {vs:List Value} {v:Value} {args:Array Value} (hs:SR B X m s w) (hl:LRel m vs args.toList) (h:spTypeOf vs s=some (v,s')) :
 ∃ v' w',(ReflectliteType.typeOf args).run Tryz.prog w=.ok v' w'∧RelV B X m s' w v v' w':=by
 unfold spTypeOf at h
 split at h
 ·rename_i u x
  cases h
  obtain ⟨x',rfl,hx⟩:=args1 hl
  obtain ⟨y,_,rfl⟩:=iface_inv hx
  exact ⟨_,w,typeOf_run u y w,RelV.same hs (rt_rel hh u)⟩
 ·cases h
theorem valueOf_ok (hh:Hands ω) (hB:B≤w.heap.size) {vs:List Value} {v:Value} {args:Array Value} (hs:SR B X m s w) (hl:LRel m vs args.toList) (h:spValueOf vs s=some (v,s')) :
 ∃ v' w',(ReflectliteValue.unpack (args.getD 0 (.tuple #[]))).run Tryz.prog w=.ok v' w'∧RelV B X m s' w v v' w':=by
 unfold spValueOf at h
 split at h
 ·rename_i u x
  split at h
  ·rename_i k hk
   cases ho:oneV x with
   | false=>rw [ho] at h;cases h
   | true =>
    rw [ho] at h
    cases h
    obtain ⟨x',rfl,hx⟩:=args1 hl
    obtain ⟨y,hy,rfl⟩:=iface_inv hx
    have hcy:cellsOf y=[y]:=cellsOf_one (by have:=one_rel hy ho;revert this;cases y <;> simp [Value.oneCell',oneV])
    have hrun:(ReflectliteValue.unpack (.iface u y)).run Tryz.prog w=.ok (.agg #[.pointer (some ⟨1,u,none⟩),.pointer (some ⟨w.heap.size,0,none⟩),.int .u64 ((k+128:Nat):Int)]) (w.alloc (.cells [y].toArray u)):=by
     simp only [ReflectliteValue.unpack,ReflectliteValue.mk,Sem.run_bind,newVar,newRow,run_newObj_alloc,Result.andThen,handle_run,kindOf_run hk,Sem.run_pure,cells_arr,hcy]
     rfl
    obtain ⟨h1,h2⟩:=new_sound (w1:=w.alloc (.cells [y].toArray u)) hs (blkOf [x] u 0 false false) _ hB rfl (by simp) (fun q hq=>Below.heap_alloc w _ q hq) (blk_new (LRel.cons hy (LRel.nil m)) u 0)
    refine ⟨_,_,hrun,_,h2,h1,?_,(Below.refl _ _).alloc hB _⟩
    exact LRel.agg (l:=[_,_,_]) (l':=[_,_,_]) (LRel.cons (hand_rel hh u) (LRel.cons (.ptr _ _ ⟨rfl,_,ext_same _ _ _,rfl⟩) (LRel.cons (.plain _ rfl) (LRel.nil _))))
  ·cases h
 ·cases h
theorem type_ok (hh:Hands ω) {vs:List Value} {v:Value} {args:Array Value} (hs:SR B X m s w) (hl:LRel m vs args.toList) (h:spType vs s=some (v,s')) :
 ∃ v' w',(ReflectliteValue.methodAny (ReflectliteValue.valueError "reflectlite.Value.Type" 0) (fun t _ _ _=>ReflectliteType.toType t) args).run Tryz.prog w=.ok v' w'∧RelV B X m s' w v v' w':=by
 unfold spType at h
 split at h
 ·rename_i cs
  split at h
  ·rename_i hd p hcs
   split at h
   ·rename_i u hu
    cases h
    obtain ⟨x',rfl,hx⟩:=args1 hl
    obtain ⟨l',rfl,hr⟩:=agg_list hcs hx
    obtain ⟨a',b',c',rfl,h1,h2,h3⟩:=l3 hr
    obtain rfl:=hand_inv hh hu h1
    obtain ⟨p',_,rfl⟩:=ptr_inv h2
    obtain rfl:=int_inv h3
    refine ⟨_,w,?_,RelV.same hs (rt_rel hh u)⟩
    kernel_rfl
   ·cases h
  ·cases h
 ·cases h
theorem isNil_ok (hh:Hands ω) {vs:List Value} {v:Value} {args:Array Value} (hs:SR B X m s w) (hl:LRel m vs args.toList) (h:spIsNil vs s=some (v,s')) :
 ∃ v' w',(ReflectliteValue.method (ReflectliteValue.valueError "reflectlite.Value.IsNil" 0) ReflectliteValue.isNil args).run Tryz.prog w=.ok v' w'∧RelV B X m s' w v v' w':=by
 unfold spIsNil at h
 split at h
 ·rename_i cs
  split at h
  ·rename_i hd p hcs
   split at h
   ·rename_i u hu
    split at h
    ·rename_i e q he hr0
     cases h
     obtain ⟨x',rfl,hx⟩:=args1 hl
     obtain ⟨l',rfl,hr⟩:=agg_list hcs hx
     obtain ⟨a',b',c',rfl,h1,h2,h3⟩:=l3 hr
     obtain rfl:=hand_inv hh hu h1
     obtain ⟨p',hp',rfl⟩:=ptr_inv h2
     obtain rfl:=int_inv h3
     obtain ⟨l2,g1,g2,g3⟩:=readN_sound hs hr0 hp'
     obtain ⟨z,rfl,hz⟩:=l1 g1
     have hcell:=g3 0 z rfl
     rw [show p'.add 0=p' by simp [Addr.add]] at hcell
     refine ⟨.bool q.isNone,w,?_,RelV.same hs (.plain _ rfl)⟩
     have hpt:(∃ q',z=.pointer (some q')∧q.isNone=false)∨(z=.pointer none∧q.isNone=true):=by
      cases q with
      | none=>exact .inr ⟨nilptr_inv hz,rfl⟩
      | some q=>obtain ⟨q',_,rfl⟩:=ptr_inv hz;exact .inl ⟨q',rfl,rfl⟩
     rcases elem_of he with ⟨rfl,rfl⟩ | ⟨rfl,rfl⟩
     ·have hparts:(ReflectliteValue.parts (.agg #[.pointer (some ⟨1,75,none⟩),.pointer (some p'),.int .u64 150])).run Tryz.prog w=.ok (some (75,p',150)) w:=by kernel_rfl
      show (do match ←ReflectliteValue.parts (.agg #[.pointer (some ⟨1,75,none⟩),.pointer (some p'),.int .u64 150]) with | none=>_ | some (t,a,fl)=>ReflectliteValue.isNil t a fl (fl % 32):Sem Value).run Tryz.prog w=_
      simp only [Sem.run_bind,hparts,Result.andThen]
      rcases hpt with ⟨q',rfl,hq⟩ | ⟨rfl,hq⟩ <;> simp [ReflectliteValue.isNil,loadVar,isAgg,run_underlying Tryz.underlying75,load,Sem.run,hcell,hq]
     ·have hparts:(ReflectliteValue.parts (.agg #[.pointer (some ⟨1,157,none⟩),.pointer (some p'),.int .u64 150])).run Tryz.prog w=.ok (some (157,p',150)) w:=by kernel_rfl
      show (do match ←ReflectliteValue.parts (.agg #[.pointer (some ⟨1,157,none⟩),.pointer (some p'),.int .u64 150]) with | none=>_ | some (t,a,fl)=>ReflectliteValue.isNil t a fl (fl % 32):Sem Value).run Tryz.prog w=_
      simp only [Sem.run_bind,hparts,Result.andThen]
      rcases hpt with ⟨q',rfl,hq⟩ | ⟨rfl,hq⟩ <;> simp [ReflectliteValue.isNil,loadVar,isAgg,run_underlying Tryz.underlying157,load,Sem.run,hcell,hq]
    ·cases h
   ·cases h
  ·cases h
 ·cases h
theorem vElem_ok (hh:Hands ω) {vs:List Value} {v:Value} {args:Array Value} (hs:SR B X m s w) (hl:LRel m vs args.toList) (h:spVElem vs s=some (v,s')) :
 ∃ v' w',(ReflectliteValue.method (ReflectliteValue.valueError "reflectlite.Value.Elem" 0) ReflectliteValue.elem args).run Tryz.prog w=.ok v' w'∧RelV B X m s' w v v' w':=by
 unfold spVElem at h
 split at h
 ·rename_i cs
  split at h
  ·rename_i hd p hcs
   split at h
   ·rename_i u hu
    split at h
    ·rename_i e q he hr0
     split at h
     ·rename_i k hk
      cases h
      obtain ⟨x',rfl,hx⟩:=args1 hl
      obtain ⟨l',rfl,hr⟩:=agg_list hcs hx
      obtain ⟨a',b',c',rfl,h1,h2,h3⟩:=l3 hr
      obtain rfl:=hand_inv hh hu h1
      obtain ⟨p',hp',rfl⟩:=ptr_inv h2
      obtain rfl:=int_inv h3
      obtain ⟨l2,g1,g2,g3⟩:=readN_sound hs hr0 hp'
      obtain ⟨z,rfl,hz⟩:=l1 g1
      have hcell:=g3 0 z rfl
      rw [show p'.add 0=p' by simp [Addr.add]] at hcell
      obtain ⟨q',hq',rfl⟩:=ptr_inv hz
      refine ⟨.agg #[.pointer (some ⟨1,e,none⟩),.pointer (some q'),.int .u64 ((k+384:Nat):Int)],w,?_,RelV.same hs (LRel.agg (l:=[_,_,_]) (l':=[_,_,_]) (LRel.cons (hand_rel hh e) (LRel.cons (.ptr _ _ hq') (LRel.cons (.plain _ rfl) (LRel.nil _)))))⟩
      rcases elem_of he with ⟨rfl,rfl⟩ | ⟨rfl,rfl⟩
      ·have hparts:(ReflectliteValue.parts (.agg #[.pointer (some ⟨1,75,none⟩),.pointer (some p'),.int .u64 150])).run Tryz.prog w=.ok (some (75,p',150)) w:=by kernel_rfl
       have hel:(Rtype.elem? 75).run Tryz.prog w=.ok (some 73) w:=by kernel_rfl
       have hmk:(ReflectliteValue.mk 73 q' ReflectliteValue.flagAddr).run Tryz.prog w=.ok (.agg #[.pointer (some ⟨1,73,none⟩),.pointer (some q'),.int .u64 ((k+384:Nat):Int)]) w:=by
        cases hk
        kernel_rfl
       show (do match ←ReflectliteValue.parts (.agg #[.pointer (some ⟨1,75,none⟩),.pointer (some p'),.int .u64 150]) with | none=>_ | some (t,a,fl)=>ReflectliteValue.elem t a fl (fl % 32):Sem Value).run Tryz.prog w=_
       simp only [Sem.run_bind,hparts,Result.andThen]
       simp [ReflectliteValue.elem,loadVar,isAgg,run_underlying Tryz.underlying75,load,Sem.run,hcell,hel,hmk]
      ·have hparts:(ReflectliteValue.parts (.agg #[.pointer (some ⟨1,157,none⟩),.pointer (some p'),.int .u64 150])).run Tryz.prog w=.ok (some (157,p',150)) w:=by kernel_rfl
       have hel:(Rtype.elem? 157).run Tryz.prog w=.ok (some 59) w:=by kernel_rfl
       have hmk:(ReflectliteValue.mk 59 q' ReflectliteValue.flagAddr).run Tryz.prog w=.ok (.agg #[.pointer (some ⟨1,59,none⟩),.pointer (some q'),.int .u64 ((k+384:Nat):Int)]) w:=by
        cases hk
        kernel_rfl
       show (do match ←ReflectliteValue.parts (.agg #[.pointer (some ⟨1,157,none⟩),.pointer (some p'),.int .u64 150]) with | none=>_ | some (t,a,fl)=>ReflectliteValue.elem t a fl (fl % 32):Sem Value).run Tryz.prog w=_
       simp only [Sem.run_bind,hparts,Result.andThen]
       simp [ReflectliteValue.elem,loadVar,isAgg,run_underlying Tryz.underlying157,load,Sem.run,hcell,hel,hmk]
     ·cases h
    ·cases h
   ·cases h
  ·cases h
 ·cases h
theorem kind_ok (hh:Hands ω) {vs:List Value} {v:Value} {args:Array Value} (hs:SR B X m s w) (hl:LRel m vs args.toList) (h:spKind vs s=some (v,s')) :
 ∃ v' w',((ReflectliteType.abiMethod fun t=>do pure (.int .u8 (←Rtype.kind t))) args).run Tryz.prog w=.ok v' w'∧RelV B X m s' w v v' w':=by
 unfold spKind at h
 split at h
 ·rename_i hd
  split at h
  ·rename_i u hu
   split at h
   ·rename_i k hk
    cases h
    obtain ⟨x',rfl,hx⟩:=args1 hl
    obtain rfl:=hand_inv hh hu hx
    refine ⟨.int .u8 ((k:Nat):Int),w,?_,RelV.same hs (.plain _ rfl)⟩
    show (Rtype.ofHandle (.pointer (some ⟨1,u,none⟩)) >>= fun t=>Rtype.noPack _ t >>= fun _=>Rtype.kind t >>= fun k=>pure (Value.int .u8 (k:Int)):Sem Value).run Tryz.prog w=_
    simp only [Sem.run_bind,ofHandle_run,Result.andThen,pack_no _ u (packed_no hk),kindOf_run hk,Sem.run_pure]
   ·cases h
  ·cases h
 ·cases h
theorem rtElem_ok (hh:Hands ω) {vs:List Value} {v:Value} {args:Array Value} (hs:SR B X m s w) (hl:LRel m vs args.toList) (h:spRtElem vs s=some (v,s')) :
 ∃ v' w',(ReflectliteType.method ReflectliteType.elem args).run Tryz.prog w=.ok v' w'∧RelV B X m s' w v v' w':=by
 unfold spRtElem at h
 split at h
 ·rename_i cs
  split at h
  ·rename_i hd hcs
   split at h
   ·rename_i u hu
    split at h
    ·rename_i e he
     cases h
     obtain ⟨x',rfl,hx⟩:=args1 hl
     obtain ⟨l',rfl,hr⟩:=agg_list hcs hx
     obtain ⟨a',rfl,h1⟩:=l1 hr
     obtain rfl:=hand_inv hh hu h1
     refine ⟨_,w,?_,RelV.same hs (rt_rel hh e)⟩
     rcases elem_of he with ⟨rfl,rfl⟩ | ⟨rfl,rfl⟩ <;> kernel_rfl
    ·cases h
   ·cases h
  ·cases h
 ·cases h
theorem comparable_ok (hh:Hands ω) {vs:List Value} {v:Value} {args:Array Value} (hs:SR B X m s w) (hl:LRel m vs args.toList) (h:spComparable vs s=some (v,s')) :
 ∃ v' w',((ReflectliteType.method fun t=>do Rtype.noPackHeld "Comparable" t;pure (.bool (←typeInfo t).comparable)) args).run Tryz.prog w=.ok v' w'∧RelV B X m s' w v v' w':=by
 unfold spComparable at h
 split at h
 ·rename_i cs
  split at h
  ·rename_i hd hcs
   split at h
   ·rename_i u hu
    cases he:isErrT u with
    | false=>rw [he] at h;cases h
    | true =>
     rw [he] at h
     cases h
     obtain ⟨x',rfl,hx⟩:=args1 hl
     obtain ⟨l',rfl,hr⟩:=agg_list hcs hx
     obtain ⟨a',rfl,h1⟩:=l1 hr
     obtain rfl:=hand_inv hh hu h1
     refine ⟨.bool true,w,?_,RelV.same hs (.plain _ rfl)⟩
     rcases err_of he with rfl | rfl <;> kernel_rfl
   ·cases h
  ·cases h
 ·cases h
theorem two_rt (hh:Hands ω) {cs ds:Array Value} {t:TypeId} {hd i:Value} (h1:cs.toList=[hd]) (h2:ds.toList=[i]) {u v:TypeId} (hu:tyOf hd=some u) (hv:tyOf i=some v) {args:Array Value} (hl:LRel m [.agg cs,.iface t (.agg ds)] args.toList) :
 args=#[.agg #[.pointer (some ⟨1,u,none⟩)],.iface t (.agg #[.pointer (some ⟨1,v,none⟩)])]:=by
 obtain ⟨x',y',rfl,hx,hy⟩:=args2 hl
 obtain ⟨l',rfl,hr⟩:=agg_list h1 hx
 obtain ⟨a',rfl,g1⟩:=l1 hr
 obtain rfl:=hand_inv hh hu g1
 obtain ⟨z,hz,rfl⟩:=iface_inv hy
 obtain ⟨l2,rfl,hr2⟩:=agg_list h2 hz
 obtain ⟨b',rfl,g2⟩:=l1 hr2
 obtain rfl:=hand_inv hh hv g2
 rfl
theorem implements_ok (hh:Hands ω) {vs:List Value} {v:Value} {args:Array Value} (hs:SR B X m s w) (hl:LRel m vs args.toList) (h:spImplements vs s=some (v,s')) :
 ∃ v' w',(ReflectliteType.relation "Implements" ReflectliteType.implements_ args).run Tryz.prog w=.ok v' w'∧RelV B X m s' w v v' w':=by
 unfold spImplements at h
 split at h
 ·rename_i cs t ds
  split at h
  ·rename_i hd i hcs hds
   split at h
   ·rename_i u x hu hx
    cases he:(isErrT u && Nat.beq x 27) with
    | false=>rw [he] at h;cases h
    | true =>
     rw [he] at h
     cases h
     rw [Bool.and_eq_true] at he
     obtain rfl:=Nat.eq_of_beq_eq_true he.2
     rw [two_rt hh hcs hds hu hx hl]
     refine ⟨.bool true,w,?_,RelV.same hs (.plain _ rfl)⟩
     rcases err_of he.1 with rfl | rfl <;> kernel_rfl
   ·cases h
  ·cases h
 ·cases h
theorem assign_ok (hh:Hands ω) {vs:List Value} {v:Value} {args:Array Value} (hs:SR B X m s w) (hl:LRel m vs args.toList) (h:spAssign vs s=some (v,s')) :
 ∃ v' w',(ReflectliteType.relation "AssignableTo" ReflectliteType.assignableTo args).run Tryz.prog w=.ok v' w'∧RelV B X m s' w v v' w':=by
 unfold spAssign at h
 split at h
 ·rename_i cs t ds
  split at h
  ·rename_i hd i hcs hds
   split at h
   ·rename_i u x hu hx
    cases he:(isErrT u && isErrT x) with
    | false=>rw [he] at h;cases h
    | true =>
     rw [he] at h
     cases h
     rw [Bool.and_eq_true] at he
     rw [two_rt hh hcs hds hu hx hl]
     refine ⟨.bool (Nat.beq u x),w,?_,RelV.same hs (.plain _ rfl)⟩
     rcases err_of he.1 with rfl | rfl <;> rcases err_of he.2 with rfl | rfl <;> kernel_rfl
   ·cases h
  ·cases h
 ·cases h
theorem clone_ok (hB:B≤w.heap.size) {vs:List Value} {v:Value} {args:Array Value} (hs:SR B X m s w) (hl:LRel m vs args.toList) (h:spClone vs s=some (v,s')) :
 ∃ v' w',(MapsClone.clone args).run Tryz.prog w=.ok v' w'∧RelV B X m s' w v v' w':=by
 unfold spClone at h
 split at h
 ·rename_i t r
  split at h
  ·rename_i es ck hg
   cases h
   obtain ⟨x',rfl,hx⟩:=args1 hl
   obtain ⟨z,hz,rfl⟩:=iface_inv hx
   obtain ⟨i,hi,rfl⟩:=map_inv hz
   obtain ⟨es',h2,h3,_⟩:=map_obj hs hg hi
   obtain ⟨k1,k2⟩:=new_sound (w1:=w.alloc (.map es'.toArray ck)) hs (.map es ck) ⟨w.heap.size,0,0,0,false,0⟩ hB rfl (by simp) (fun q hq=>Below.heap_alloc w _ q hq) ⟨es',heap_alloc_new w _,h3⟩
   refine ⟨.iface t (.map (some w.heap.size)),_,?_,_,k2,k1,.iface _ _ _ (.map _ _ (ext_same _ _ _)),(Below.refl _ _).alloc hB _⟩
   obtain ⟨k,e1,e2⟩:∃ k:Obj→Sem Value,MapsClone.clone #[.iface t (.map (some i.r))]=(getObj i.r >>= k)∧k (.map es'.toArray ck)=(newObj (.map es'.toArray ck) >>= fun r=>pure (.iface t (.map (some r)))):=⟨_,rfl,rfl⟩
   have g:(getObj i.r).run Tryz.prog w=.ok (.map es'.toArray ck) w:=by simp [getObj,Sem.run,h2]
   rw [e1,Sem.run_bind,g]
   show (k (.map es'.toArray ck)).run Tryz.prog w=_
   rw [e2]
   simp
  ·cases h
 ·cases h
theorem set_run {v x val:Value} {u:TypeId} {p q:Addr} {f g:Nat} {w':World} (hf:(f / ReflectliteValue.flagAddr % 2==0)=false) (h1:(ReflectliteValue.parts v).run Tryz.prog w=.ok (some (u,p,f)) w) (h2:(ReflectliteValue.parts x).run Tryz.prog w=.ok (some (u,q,g)) w)
 (h3:(loadVar u q).run Tryz.prog w=.ok val w) (h4:(Rtype.directlyAssignable u u).run Tryz.prog w=.ok true w) (h5:(storeVar u p val).run Tryz.prog w=.ok () w'):(ReflectliteValue.set #[v,x]).run Tryz.prog w=.ok (.tuple #[]) w':=by
 obtain ⟨k,k2,k3,e1,e2,e3⟩:∃ (k:Option (TypeId × Addr × Nat)→Option (TypeId × Addr × Nat)→Sem Value) (k2:Bool→Sem Value) (k3:Value→Bool→Sem Value),
  ReflectliteValue.set #[v,x]=(ReflectliteValue.parts v >>= fun a=>ReflectliteValue.parts x >>= fun b=>k a b) ∧
  k (some (u,p,f)) (some (u,q,g))=k2 (f / ReflectliteValue.flagAddr % 2==0) ∧
  (k2 false=(loadVar u q >>= fun val=>Rtype.directlyAssignable u u >>= fun b=>k3 val b)∧∀ val,k3 val true=(storeVar u p val >>= fun _=>pure (.tuple #[]))) :=
  ⟨_,fun b=>if b=true then _ else _,_,rfl,rfl,rfl,fun _=>rfl⟩
 rw [e1]
 simp only [Sem.run_bind,h1,h2,Result.andThen]
 rw [e2,hf,e3.1]
 simp only [Sem.run_bind,h3,h4,Result.andThen]
 rw [e3.2]
 simp only [Sem.run_bind,h5,Result.andThen,Sem.run_pure]
theorem set_ok (hh:Hands ω) {vs:List Value} {v:Value} {args:Array Value} (hs:SR B X m s w) (hl:LRel m vs args.toList) (h:spSet vs s=some (v,s')) :
 ∃ v' w',(ReflectliteValue.set args).run Tryz.prog w=.ok v' w'∧RelV B X m s' w v v' w':=by
 unfold spSet at h
 split at h
 ·rename_i cs ds
  split at h
  ·rename_i hd p f i q g hcs hds
   split at h
   ·rename_i u x hu hx
    split at h
    ·rename_i k y hk hr0
     cases hc:(isErrT u && (Nat.beq u x && (eqI f ((k+384:Nat):Int) && (eqI g ((k+128:Nat):Int) && oneV y)))) with
     | false=>rw [hc] at h;cases h
     | true =>
      rw [hc] at h
      simp only [cond_true] at h
      simp only [Bool.and_eq_true] at hc
      obtain ⟨he,hux,hf,hg,ho⟩:=hc
      obtain rfl:=Nat.eq_of_beq_eq_true hux
      obtain rfl:=eqI_sound hf
      obtain rfl:=eqI_sound hg
      split at h
      ·rename_i s2 hw
       cases h
       obtain ⟨x1,x2,rfl,hx1,hx2⟩:=args2 hl
       obtain ⟨l',rfl,hr⟩:=agg_list hcs hx1
       obtain ⟨a',b',c',rfl,h1,h2,h3⟩:=l3 hr
       obtain ⟨l2,rfl,hr2⟩:=agg_list hds hx2
       obtain ⟨a2,b2,c2,rfl,j1,j2,j3⟩:=l3 hr2
       obtain rfl:=hand_inv hh hu h1
       obtain rfl:=hand_inv hh hx j1
       obtain ⟨p',hp',rfl⟩:=ptr_inv h2
       obtain ⟨q',hq',rfl⟩:=ptr_inv j2
       obtain rfl:=int_inv h3
       obtain rfl:=int_inv j3
       obtain ⟨l3',g1,g2,g3⟩:=readN_sound hs hr0 hq'
       obtain ⟨z,rfl,hz⟩:=l1 g1
       have hcell:=g3 0 z rfl
       rw [show q'.add 0=q' by simp [Addr.add]] at hcell
       obtain ⟨w',hst,hs',hb⟩:=writeL_sound (P:=Tryz.prog) hs hw hp' (LRel.cons hz (LRel.nil m))
       have hoz:cellsOf z=[z]:=cellsOf_one (by have:=one_rel hz ho;revert this;cases z <;> simp [Value.oneCell',oneV])
       refine ⟨.tuple #[],w',?_,m,Le.refl _,hs',LRel.tuple (l:=[]) (l':=[]) (LRel.nil m),hb⟩
       rcases err_of he with rfl | rfl
       ·cases hk
        refine set_run (u:=73) (p:=p') (q:=q') (f:=406) (g:=150) (val:=z) (by decide) (by kernel_rfl) (by kernel_rfl) ?_ (by kernel_rfl) ?_
        ·simp [loadVar,isAgg,run_underlying Tryz.underlying73,load,Sem.run,hcell]
        ·have hsz:(sizeOf 73).run Tryz.prog w=.ok 1 w:=by kernel_rfl
         simp only [storeVar,Sem.run_bind,hsz,Result.andThen,cells_arr,hoz]
         simpa using hst
       ·cases hk
        refine set_run (u:=59) (p:=p') (q:=q') (f:=386) (g:=130) (val:=z) (by decide) (by kernel_rfl) (by kernel_rfl) ?_ (by kernel_rfl) ?_
        ·simp [loadVar,isAgg,run_underlying Tryz.underlying59,load,Sem.run,hcell]
        ·have hsz:(sizeOf 59).run Tryz.prog w=.ok 1 w:=by kernel_rfl
         simp only [storeVar,Sem.run_bind,hsz,Result.andThen,cells_arr,hoz]
         simpa using hst
      ·cases h
    ·cases h
   ·cases h
  ·cases h
 ·cases h
end
def methT (t:TypeId) (name:String) (v:Value):Option (FuncId × Value) :=
 cond (Nat.beq t 184 && name == "Kind") (match v with
 | .agg cs=>match cs.toList with
  | [h]=>some (148,h)
  | _=>none
 | _=>none) none
theorem methT_ok:∀ t name v g rv,methT t name v=some (g,rv)→∀ (m:M ω) (v':Value),VRel m v v'→∃ rv',VRel m rv rv'∧∀ w,(method (Tryz.prog.types.size+Made.depth) t v' name).run Tryz.prog w=.ok (g,rv') w:=by
 intro t name v g rv h m v' hv
 unfold methT at h
 cases hc:(Nat.beq t 184 && name == "Kind") with
 | false=>rw [hc] at h;cases h
 | true =>
  rw [hc] at h
  simp only [cond_true] at h
  rw [Bool.and_eq_true] at hc
  obtain rfl:=Nat.eq_of_beq_eq_true hc.1
  obtain rfl:name= "Kind":=by simpa using hc.2
  split at h
  ·split at h
   ·rename_i cs hd hcs
    cases h
    obtain ⟨l',rfl,hr⟩:=agg_list hcs hv
    obtain ⟨a',rfl,h1⟩:=l1 hr
    exact ⟨a',h1,fun w=>by kernel_rfl⟩
   ·cases h
  ·cases h
def globT (g:Nat):Option Value:=cond (Nat.beq g 0) (some (rtV 27)) none
noncomputable def CE (fs:List Fact) (ls:List (TypeId × Nat × Nat)) (cnv:TypeId→TypeId→Value→Option Value) (rd:Nat→Bool):Ctx:=CT spT globT methT fs ls cnv rd
def SpOK (ω:Nat→Value) (C:Ctx) (g:FuncId) (k:SpF):Prop:=∀ vs s v s',k vs s=some (v,s')→∀ (B:Nat) (X:Aux) (m:M ω) (w:World) (args:Array Value),SR B X m s w→LRel m vs args.toList→Bs ω C B w→CallOK C g args w (RelV B X m s' w v)
section
variable {C:Ctx}
theorem spTypeOf_sp (hh:Hands ω) (hP:C.P=Tryz.prog):SpOK ω C 77 spTypeOf:=by
 intro vs s v s' hv B X m w args hs hr hB
 exact ext_ok hP ReflectliteType.typeOf Tryz.func77 (by kernel_rfl) (by kernel_rfl) (by kernel_rfl) (by kernel_rfl) (typeOf_ok hh hs hr hv)
theorem spValueOf_sp (hh:Hands ω) (hP:C.P=Tryz.prog):SpOK ω C 79 spValueOf:=by
 intro vs s v s' hv B X m w args hs hr hB
 exact ext_ok hP (fun args=>ReflectliteValue.unpack (args.getD 0 (.tuple #[]))) Tryz.func79 (by kernel_rfl) (by kernel_rfl) (by kernel_rfl) (by kernel_rfl) (valueOf_ok hh hB.le hs hr hv)
theorem spType_sp (hh:Hands ω) (hP:C.P=Tryz.prog):SpOK ω C 80 spType:=by
 intro vs s v s' hv B X m w args hs hr hB
 exact ext_ok hP (ReflectliteValue.methodAny (ReflectliteValue.valueError "reflectlite.Value.Type" 0) (fun t _ _ _=>ReflectliteType.toType t)) Tryz.func80 (by kernel_rfl) (by kernel_rfl) (by kernel_rfl) (by kernel_rfl) (type_ok hh hs hr hv)
theorem spIsNil_sp (hh:Hands ω) (hP:C.P=Tryz.prog):SpOK ω C 81 spIsNil:=by
 intro vs s v s' hv B X m w args hs hr hB
 exact ext_ok hP (ReflectliteValue.method (ReflectliteValue.valueError "reflectlite.Value.IsNil" 0) ReflectliteValue.isNil) Tryz.func81 (by kernel_rfl) (by kernel_rfl) (by kernel_rfl) (by kernel_rfl) (isNil_ok hh hs hr hv)
theorem spVElem_sp (hh:Hands ω) (hP:C.P=Tryz.prog):SpOK ω C 102 spVElem:=by
 intro vs s v s' hv B X m w args hs hr hB
 exact ext_ok hP (ReflectliteValue.method (ReflectliteValue.valueError "reflectlite.Value.Elem" 0) ReflectliteValue.elem) Tryz.func102 (by kernel_rfl) (by kernel_rfl) (by kernel_rfl) (by kernel_rfl) (vElem_ok hh hs hr hv)
theorem spSet_sp (hh:Hands ω) (hP:C.P=Tryz.prog):SpOK ω C 103 spSet:=by
 intro vs s v s' hv B X m w args hs hr hB
 exact ext_ok hP ReflectliteValue.set Tryz.func103 (by kernel_rfl) (by kernel_rfl) (by kernel_rfl) (by kernel_rfl) (set_ok hh hs hr hv)
theorem spKind_sp (hh:Hands ω) (hP:C.P=Tryz.prog):SpOK ω C 148 spKind:=by
 intro vs s v s' hv B X m w args hs hr hB
 exact ext_ok hP (ReflectliteType.abiMethod fun t=>do pure (.int .u8 (←Rtype.kind t))) Tryz.func148 (by kernel_rfl) (by kernel_rfl) (by kernel_rfl) (by kernel_rfl) (kind_ok hh hs hr hv)
theorem spRtElem_sp (hh:Hands ω) (hP:C.P=Tryz.prog):SpOK ω C 160 spRtElem:=by
 intro vs s v s' hv B X m w args hs hr hB
 exact ext_ok hP (ReflectliteType.method ReflectliteType.elem) Tryz.func160 (by kernel_rfl) (by kernel_rfl) (by kernel_rfl) (by kernel_rfl) (rtElem_ok hh hs hr hv)
theorem spImplements_sp (hh:Hands ω) (hP:C.P=Tryz.prog):SpOK ω C 161 spImplements:=by
 intro vs s v s' hv B X m w args hs hr hB
 exact ext_ok hP (ReflectliteType.relation "Implements" ReflectliteType.implements_) Tryz.func161 (by kernel_rfl) (by kernel_rfl) (by kernel_rfl) (by kernel_rfl) (implements_ok hh hs hr hv)
theorem spAssign_sp (hh:Hands ω) (hP:C.P=Tryz.prog):SpOK ω C 158 spAssign:=by
 intro vs s v s' hv B X m w args hs hr hB
 exact ext_ok hP (ReflectliteType.relation "AssignableTo" ReflectliteType.assignableTo) Tryz.func158 (by kernel_rfl) (by kernel_rfl) (by kernel_rfl) (by kernel_rfl) (assign_ok hh hs hr hv)
theorem spComparable_sp (hh:Hands ω) (hP:C.P=Tryz.prog):SpOK ω C 159 spComparable:=by
 intro vs s v s' hv B X m w args hs hr hB
 exact ext_ok hP (ReflectliteType.method fun t=>do Rtype.noPackHeld "Comparable" t;pure (.bool (←typeInfo t).comparable)) Tryz.func159 (by kernel_rfl) (by kernel_rfl) (by kernel_rfl) (by kernel_rfl) (comparable_ok hh hs hr hv)
theorem spL_ok (hh:Hands ω) (hP:C.P=Tryz.prog):∀ p∈spL,SpOK ω C p.1 p.2:=by
 intro p hp
 simp only [spL,List.mem_cons,List.not_mem_nil,or_false] at hp
 rcases hp with rfl | rfl | rfl | rfl | rfl | rfl | rfl | rfl | rfl | rfl | rfl
 ·exact spTypeOf_sp hh hP
 ·exact spValueOf_sp hh hP
 ·exact spType_sp hh hP
 ·exact spIsNil_sp hh hP
 ·exact spVElem_sp hh hP
 ·exact spSet_sp hh hP
 ·exact spKind_sp hh hP
 ·exact spRtElem_sp hh hP
 ·exact spImplements_sp hh hP
 ·exact spAssign_sp hh hP
 ·exact spComparable_sp hh hP
end
end Go.Proofs.YtekajggjoeimoaaGreatDoor.Ev
namespace Go.Proofs.YtekajggjoeimoaaGreatDoor
open Go.ChangeShapes Go.WideShapes Go.ChangeAt Go.RowKit Go.Joins Go.Deep
theorem own:ownKnob Tryz.prog.godebug=none:=by kernel_rfl
theorem laidOut:laidOutB Tryz.prog=true:=by kernel_rfl
theorem errVar:Tryz.prog.globalNamed "errors.errorType"=some 0:=by kernel_rfl
theorem rtypeOf:(Tryz.prog.cutTypes.find? (·.1 == "internal/reflectlite.rtype")).map (·.2)=some 184:=by kernel_rfl
theorem oneRow:((List.range Tryz.prog.types.size).filter fun t=>Tryz.prog.rowNamed t [101,114,114,111,114])=[27]:=by kernel_rfl
def laidL:List (String × DataW Unit):=[("errors.errorType",Rows.laid_errors_errorType)]
theorem handle_of_laid {W:World} (h:laidMetH Tryz.prog laidL W):W.cell? ⟨0,0,none⟩=some (.iface 184 (.agg #[.pointer (some ⟨1,27,none⟩)])):=by
 have h':laidMet Tryz.prog [] W∧handlesMet Tryz.prog laidL W:=h
 obtain ⟨name,u,ty,e1,e2,e3,e4,e5⟩:=h'.2 _ (List.mem_singleton.2 rfl)
 have en:name=[101,114,114,111,114]:=(Option.some.inj e1).symm
 subst en
 obtain rfl:=Option.some.inj (rtypeOf.symm.trans e2)
 have hm:ty∈(List.range Tryz.prog.types.size).filter fun t=>Tryz.prog.rowNamed t [101,114,114,111,114]:=List.mem_filter.2 ⟨List.mem_range.2 e3,e4⟩
 rw [oneRow] at hm
 obtain rfl:=List.mem_singleton.1 hm
 have hh:typeHandle Tryz.prog 27=.pointer (some ⟨1,27,none⟩):=by kernel_rfl
 rw [hh] at e5
 simpa using World.var?_cell errVar e5 0
noncomputable def laidWorld (os:Os):World :=
 let w0:=World.holding Tryz.prog os ⟨#[],#[],[]⟩
 {w0 with heap:=w0.heap.modify 0 fun
  | .cells _ t frozen=>.cells #[.iface 184 (.agg #[.pointer (some ⟨1,27,none⟩)])] t frozen
  | o=>o}
theorem laidWorld_met (os:Os) (args:Array Value):laidMetH Tryz.prog laidL ((laidWorld os).forCall (fun _ _=>0) ⟨#[],args,[]⟩).memory :=
 laidMetH_of_parts (laidMet_nil _ _) (by kernel_rfl)
open Ev
variable {ω:Nat→Value}
theorem glob_of (hh:Hands ω) {w:World} (h:w.cell? ⟨0,0,none⟩=some (.iface 184 (.agg #[.pointer (some ⟨1,27,none⟩)]))) :
 ∀ g v,globT g=some v→g<w.heap.size∧∃ v',w.cell? ⟨g,0,none⟩=some v'∧∀ m:M ω,VRel m v v':=by
 intro g v hg
 unfold globT at hg
 cases hb:Nat.beq g 0 with
 | false=>rw [hb] at hg;cases hg
 | true =>
  rw [hb] at hg
  obtain rfl:=Nat.eq_of_beq_eq_true hb
  cases hg
  exact ⟨World.block_lt_of_cell? w _ h,_,h,fun m=>rt_rel hh _⟩
def isTr (r:Option (Value × AS)):Bool:=match r with
 | some (.bool b,_)=>b
 | _=>false
theorem isTr_some {r:Option (Value × AS)} (h:isTr r=true):∃ s',r=some (.bool true,s'):=by
 unfold isTr at h
 split at h
 ·rename_i b s';subst h;exact ⟨s',rfl⟩
 ·cases h
theorem Fact.strNeq {P:Program} {x y:Value} {s u:ByteArray} (hx:den ω x=.string s) (hy:den ω y=.string u) (tx:tokB x=true) (ty:tokB y=true) {b:Bool} (h:(!(s.toList==u.toList))=b):(⟨.neq,x,y,.bool b⟩:Fact).ok ω P :=
 ⟨tx,ty,rfl,fun k e=>(by cases e),fun t ox oy w=>by
  show (do eqGuard .neq t ox oy (den ω x) (den ω y);binOp .neq t (den ω x) (den ω y):Sem Value).run P w=.ok (.bool b) w
  rw [hx,hy,←h]
  simp [binOp,eqGuard,Op.stringOp]⟩
def IsRow (k:IntKind) (w:World) (a:Option Addr) (len cap:Nat) (zs:List Int):Prop :=
 (a=none∧len=0∧cap=0∧zs=[]) ∨
 ∃ x,a=some x∧len≤cap∧cap≤maxLen∧zs.length=cap∧(∀ i,i<zs.length→w.cell? (x.add i)=some (.int k (zs.getD i 0)))∧∀ n∈zs,(Lit.int k n).wf=true
end Go.Proofs.YtekajggjoeimoaaGreatDoor
namespace Go.Proofs.YtekajggjoeimoaaGreatDoor.Ev
open Go.RowKit Go.Extern
variable {ω:Nat→Value}
theorem sr_empty (w:World):SR (ω:=ω) w.heap.size ⟨fun _=>none,fun _=>none⟩ (fun _=>none) ⟨0,.leaf⟩ w :=
 ⟨fun b o i h1=>(by cases h1),fun b c o p i j h1=>(by cases h1),fun b _=>rfl,fun b _=>rfl,fun b o h1=>(by cases h1),fun r o h1=>(by cases h1),fun b i h1=>(by cases h1)⟩
def GlobOK (C:Ctx):Prop:=C.glob=globT∧∀ g cs,ivT g=some cs→C.iv g=some cs
def spKnown (v:Value):SpF
 | [],s=>some (v,s)
 | _,_=>none
def noRd (_:Nat):Bool:=false
noncomputable def CX (ext:List (FuncId × SpF)) (fs:List Fact) (ls:List (TypeId × Nat × Nat)) (cnv:TypeId→TypeId→Value→Option Value) (rd:Nat→Bool):Ctx:=CT (fun g=>spFind (ext++spL) g) globT methT fs ls cnv rd
set_option maxRecDepth 1000000 in
theorem cxOK (hh:Hands ω) {ext:List (FuncId × SpF)} (he:∀ p∈ext,∀ C:Ctx,C.P=Tryz.prog→GlobOK C→SpOK ω C p.1 p.2) {fs:List Fact} (hf:∀ f∈fs,f.ok ω Tryz.prog) {ls:List (TypeId × Nat × Nat)} (hl:∀ f∈ls,LenOK ω Tryz.prog f) {cnv:TypeId→TypeId→Value→Option Value}
 (hc:∀ src dst x v,cnv src dst x=some v→∀ (m:M ω) (x':Value) (w:World),VRel m x x'→∃ v',(convert src dst x').run Tryz.prog w=.ok v' w∧VRel m v v') (rd:Nat→Bool):COK ω (CX ext fs ls cnv rd) :=
 ⟨ctOK _ globT methT_ok hf hl hc rd,mixed,fun g k hk=>spFind_ok (Q:=SpOK ω (CX ext fs ls cnv rd)) (fun p hp=>(List.mem_append.1 hp).elim (fun h=>he p h _ rfl ⟨rfl,fun _ _ h=>h⟩) (fun h=>spL_ok hh rfl p h)) g k hk⟩
def ivF (f:Nat→Option (Array Value)) (g:Nat):Option (Array Value):=match ivT g with
 | some c=>some c
 | none=>f g
noncomputable def CXf (f:Nat→Option (Array Value)) (ext:List (FuncId × SpF)) (fs:List Fact) (ls:List (TypeId × Nat × Nat)) (cnv:TypeId→TypeId→Value→Option Value) (rd:Nat→Bool):Ctx :=
 ⟨Tryz.prog,fun f=>fnT.get f,fun t=>(tyT.get t).map (·.1),fun t=>(tyT.get t).map (·.2.desc),fun g=>spFind (ext++spL) g,globT,methT,fun op _ x y=>binOf fs op x y,fun t x=>lenOf ls t x,cnv,rd,ivF f⟩
end Go.Proofs.YtekajggjoeimoaaGreatDoor.Ev
namespace Go.Proofs.YtekajggjoeimoaaGreatDoor
open Go.RowKit
structure Fr (X:Nat→Prop) (w w':World):Prop where
 os:w'.os=w.os
 tape:w'.tape=w.tape
 output:w'.output=w.output
 size:w.heap.size≤w'.heap.size
 block:∀ k,k<w.heap.size→¬ X k→w'.heap[k]?=w.heap[k]?
section
variable {X Y:Nat→Prop} {w w' a b c:World}
theorem Fr.refl (X:Nat→Prop) (w:World):Fr X w w:=⟨rfl,rfl,rfl,Nat.le_refl _,fun _ _ _=>rfl⟩
theorem Fr.trans (h:Fr X a b) (k:Fr X b c):Fr X a c :=
 ⟨k.os.trans h.os,k.tape.trans h.tape,k.output.trans h.output,Nat.le_trans h.size k.size,fun i hi hx=>(k.block i (Nat.lt_of_lt_of_le hi h.size) hx).trans (h.block i hi hx)⟩
theorem Fr.mono (h:Fr X a b) (hX:∀ k,k<a.heap.size→X k→Y k):Fr Y a b:=⟨h.os,h.tape,h.output,h.size,fun i hi hy=>h.block i hi (fun hx=>hy (hX i hi hx))⟩
theorem Fr.below {B:Nat} (h:Fr X w w') (hB:B≤w.heap.size) (hX:∀ k,X k→B≤k):Below B w w' :=
 ⟨h.os,h.tape,h.output,h.size,fun k hk=>h.block k (Nat.lt_of_lt_of_le hk hB) (fun hx=>by have:=hX k hx;omega)⟩
theorem Fr.of_below (h:Below w.heap.size w w'):Fr X w w':=⟨h.os,h.tape,h.output,h.size,fun k hk _=>h.block k hk⟩
theorem Fr.drew (h:Fr X a w):Fr X a w.drew:=⟨h.os,h.tape,h.output,h.size,h.block⟩
theorem Fr.alloc (h:Fr X a w) (o:Obj):Fr X a (w.alloc o) :=
 h.trans ⟨rfl,rfl,rfl,by simp,fun k hk _=>Below.heap_alloc _ _ _ hk⟩
theorem Fr.setCell (h:Fr X a w) {p:Addr} (hp:a.heap.size≤p.block∨X p.block) (u:Value):Fr X a (w.setCell p u) :=
 ⟨h.os,h.tape,h.output,by simpa [World.setCell] using h.size,fun k hk hx=>(Below.heap_setCell _ _ _ _ (fun e=>by subst e;rcases hp with hp | hp;omega;exact hx hp)).trans (h.block k hk hx)⟩
theorem Fr.grown (h:Fr X a w) {row:Option Nat} (hg:w.grownBy w' row) (hr:∀ k,row=some k→a.heap.size≤k∨X k):Fr X a w' :=
 ⟨hg.os.trans h.os,hg.tape.trans h.tape,hg.output.trans h.output,Nat.le_trans h.size hg.size,fun k hk hx=>(hg.block k (Nat.lt_of_lt_of_le hk h.size) (fun e=>by rcases hr k e.symm with h1 | h1;omega;exact hx h1)).trans (h.block k hk hx)⟩
theorem Fr.heap {k:Nat} {o:Obj} (h:Fr X w w') (hk:w.heap[k]?=some o) (hx:¬ X k):w'.heap[k]?=some o:=(h.block k (Array.getElem?_eq_some_iff.1 hk).1 hx).trans hk
end
def Blk (w:World) (g:Nat) (t:TypeId) (cs:Array Value):Prop:=w.heap[g]?=some (.cells cs t (0,0))
section
variable {w w':World} {g:Nat} {t:TypeId} {cs:Array Value}
theorem Blk.lt (h:Blk w g t cs):g<w.heap.size:=(Array.getElem?_eq_some_iff.1 h).1
theorem Blk.cell (h:Blk w g t cs) (i:Nat):w.cell? ⟨g,i,none⟩=cs[i]?:=cell_of_row w g i cs t (0,0) h
theorem Blk.frozen (h:Blk w g t cs) (i:Nat):w.frozen? ⟨g,i,none⟩=false:=by
 unfold Blk at h
 simp [World.frozen?,h]
theorem Blk.new (w:World) (t:TypeId) (cs:Array Value):Blk (w.alloc (.cells cs t)) w.heap.size t cs:=heap_alloc_new w _
theorem Blk.drew (h:Blk w g t cs):Blk w.drew g t cs:=h
theorem Blk.alloc (h:Blk w g t cs) (o:Obj):Blk (w.alloc o) g t cs:=(Below.heap_alloc w o g h.lt).trans h
theorem Blk.set_ (h:Blk w g t cs) (i:Nat) (u:Value):Blk (w.setCell ⟨g,i,none⟩ u) g t (cs.setIfInBounds i u):=by
 unfold Blk at h ⊢
 simp [World.setCell,Array.getElem?_modify,h]
theorem Blk.far (h:Blk w g t cs) {p:Addr} (hp:g≠p.block) (u:Value):Blk (w.setCell p u) g t cs:=(Below.heap_setCell w p u g hp).trans h
end
theorem wp_region_tail {P:Program} {id:Nat} {Q:Exit→Act→World→Prop} {a:Act} {w:World} {l:List Oper} (n:Nat) (hm:P.follows .mixedOrders=true) (hB:Region.lexTailB .any l.toArray n=true)
 (h:wpStill P l.toArray w.drew (fun a'=>wpList P l.toArray Q (l.drop n) a' w.drew) (l.take n) a):(Code.region id l.toArray true).wp P Q a w:=wp_region_still_tail n hm hB h
end Go.Proofs.YtekajggjoeimoaaGreatDoor
namespace Go.Proofs.YtekajggjoeimoaaGreatDoor.Ev
open Go.RowKit
variable {ω:Nat→Value} {C:Ctx}
theorem run_mem (hC:COK ω C) {fuel:Nat} {g:FuncId} {v:Value} {vs:List Value} {args:Array Value} {s s':AS} {B:Nat} {X:Aux} {m:M ω} {w:World} (h:(ev C fuel).f g vs s=some (v,s')) (hs:SR B X m s w) (hl:LRel m vs args.toList) (hb:Bs ω C B w) (hsp:C.sp g=none) :
 Calls C.P g args w fun e w'=>∃ v',e=.returned v'∧RelV B X m s' w v v' w':=by
 have:=((sound hC fuel).2.2.2.1 g vs s v s' h B X m w args hs hl hb).2 hsp
 exact callsIn_wide.1 (this.2 0)
noncomputable def keepK (w:World) (B r0:Nat):Aux:=⟨fun _=>none,fun r=>if r=r0 then none else if B≤r then w.heap[r]? else none⟩
def m1 (ω:Nat→Value) (i:Info):M ω:=fun b=>if b=0 then some i else none
noncomputable def st1 (o:AObj):AS:=⟨1,T.leaf.put 0 o⟩
theorem st1_get (o:AObj) (b:Nat):(st1 o).h.get b=if b=0 then some o else none:=by
 show ((T.leaf:T AObj).put 0 o).get b=_
 rw [T.get_put]
 split
 ·rfl
 ·rfl
theorem sr_one {B:Nat} {w:World} {o:AObj} {i:Info} (hr:ORel (m1 ω i) w i o) (h1:B≤i.r) (h2:i.r<w.heap.size):SR B (keepK w B i.r) (m1 ω i) (st1 o) w:=by
 refine ⟨fun b p j hb ha hm=>?_,fun b c p q i' j hb hc _ _ hne h3 h4=>?_,fun b hb=>?_,fun b hb=>?_,fun b p hb=>(by cases hb),fun r p hb=>?_,fun b j hm=>?_⟩
 ·rw [st1_get] at hb
  unfold m1 at hm
  by_cases e:b=0
  ·rw [if_pos e] at hb hm
   cases hb;cases hm
   exact ⟨hr,h1,h2⟩
  ·rw [if_neg e] at hm;cases hm
 ·unfold m1 at h3 h4
  by_cases e:b=0
  ·by_cases e':c=0
   ·omega
   ·rw [if_neg e'] at h4;cases h4
  ·rw [if_neg e] at h3;cases h3
 ·rw [st1_get,if_neg (by have:1≤b:=hb;omega)]
 ·unfold m1;rw [if_neg (by have:1≤b:=hb;omega)]
 ·have hb':(if r=i.r then none else if B≤r then w.heap[r]? else none)=some p:=hb
  by_cases e:r=i.r
  ·rw [if_pos e] at hb';cases hb'
  ·rw [if_neg e] at hb'
   by_cases e2:B≤r
   ·rw [if_pos e2] at hb'
    refine ⟨hb',e2,fun b j hm=>?_⟩
    unfold m1 at hm
    by_cases e3:b=0
    ·rw [if_pos e3] at hm;cases hm;exact fun e4=>e e4.symm
    ·rw [if_neg e3] at hm;cases hm
   ·rw [if_neg e2] at hb';cases hb'
 ·unfold m1 at hm
  by_cases e:b=0
  ·rw [if_pos e] at hm;cases hm;exact h2
  ·rw [if_neg e] at hm;cases hm
noncomputable def c3 (a b c:Value):T Value:=((T.leaf.put 0 a).put 1 b).put 2 c
theorem or_three {w:World} {r t:Nat} {a b c a' b' c':Value} (h:w.heap[r]?=some (.cells #[a',b',c'] t (0,0))) (ha:VRel (m1 ω ⟨r,0,3,1,false,3⟩) a a') (hb:VRel (m1 ω ⟨r,0,3,1,false,3⟩) b b') (hc:VRel (m1 ω ⟨r,0,3,1,false,3⟩) c c') :
 ORel (m1 ω ⟨r,0,3,1,false,3⟩) w ⟨r,0,3,1,false,3⟩ (.cells ⟨c3 a b c,3,t,1,false,false⟩):=by
 refine ⟨rfl,rfl,rfl,Nat.le_refl _,_,_,h,rfl,fun j hj=>?_,.inl rfl⟩
 have hj':j<3:=hj
 unfold c3
 match j,hj' with
 | 0,_=>exact ⟨a,a',by simp [T.get_put],rfl,ha⟩
 | 1,_=>exact ⟨b,b',by simp [T.get_put],rfl,hb⟩
 | 2,_=>exact ⟨c,c',by simp [T.get_put],rfl,hc⟩
theorem run_one (hC:COK ω C) {fuel:Nat} {g:FuncId} {v:Value} {vs:List Value} {args:Array Value} {o:AObj} {s':AS} {B:Nat} {i:Info} {w:World} (h:(ev C fuel).f g vs (st1 o)=some (v,s')) (hr:ORel (m1 ω i) w i o) (h1:B≤i.r) (h2:i.r<w.heap.size)
 (hl:LRel (m1 ω i) vs args.toList) (hb:Bs ω C B w) (hsp:C.sp g=none) :
 Calls C.P g args w fun e w'=>∃ v' m',e=.returned v'∧VRel (m':M ω) v v'∧Fr (fun k=>k=i.r) w w'∧∀ o',s'.h.get 0=some o'→o'.alive=true→ORel m' w' i o':=by
 refine (run_mem hC h (sr_one hr h1 h2) hl hb hsp).mono ?_
 rintro e w' ⟨v',rfl,m',hle,hs',hv,hbl⟩
 refine ⟨v',m',rfl,hv,⟨hbl.os,hbl.tape,hbl.output,hbl.size,fun k hk hne=>?_⟩,fun o' ho ha=>(hs'.rel 0 o' i ho ha (hle 0 i rfl)).1⟩
 by_cases hB:k<B
 ·exact hbl.block k hB
 ·obtain ⟨ob,hob⟩:∃ ob,w.heap[k]?=some ob:=⟨_,Array.getElem?_eq_getElem hk⟩
  rw [hob]
  refine (hs'.kp k ob ?_).1
  show (if k=i.r then none else if B≤k then w.heap[k]? else none)=some ob
  rw [if_neg hne,if_pos (by omega),hob]
end Go.Proofs.YtekajggjoeimoaaGreatDoor.Ev
namespace Go.Proofs.YtekajggjoeimoaaGreatDoor
section
open Go.RowKit
theorem block_of_add (a:Addr) (n:Nat):(a.add n).block=a.block:=by unfold Addr.add;split <;> rfl
def Reads (w:World) (B size:Nat) (A:Option Addr) (n:Nat) (xs:List Value):Prop :=
 xs.length=n*size∧(0<n→∃ ad,A=some ad∧ad.block<B∧∀ j u,xs[j]?=some u→w.cell? (ad.add j)=some u)
section
variable {w w':World} {B B' size n:Nat} {A:Option Addr} {xs:List Value}
theorem Reads.none_:Reads w B size A 0 []:=⟨by simp,fun h=>absurd h (by omega)⟩
theorem Reads.at_ {k:Nat} (h:Reads w B 1 A n xs) (hk:k<n):∃ ad u,A=some ad∧ad.block<B∧xs[k]?=some u∧w.cell? (ad.add k)=some u:=by
 obtain ⟨ad,e,hb,hc⟩:=h.2 (by omega)
 have hl:k<xs.length:=by have:=h.1;omega
 exact ⟨ad,xs[k],e,hb,List.getElem?_eq_getElem hl,hc k _ (List.getElem?_eq_getElem hl)⟩
theorem Reads.keep (h:Reads w B size A n xs) (hk:∀ p:Addr,p.block<B→w'.cell? p=w.cell? p):Reads w' B size A n xs :=
 ⟨h.1,fun hn=>by
  obtain ⟨ad,e,hb,hc⟩:=h.2 hn
  exact ⟨ad,e,hb,fun j u hu=>(hk _ (by rw [block_of_add];exact hb)).trans (hc j u hu)⟩⟩
theorem Reads.below (h:Reads w B size A n xs) (hb:Below B w w'):Reads w' B size A n xs:=h.keep fun _ hp=>hb.cell hp
theorem Reads.alloc (h:Reads w B size A n xs) (hB:B≤w.heap.size) (o:Obj):Reads (w.alloc o) B size A n xs:=h.keep fun p hp=>World.cell?_alloc_lt w o p (by omega)
theorem Reads.of_own {base:Nat} {e:TypeId} {c:Nat} (h:w.ownsRow base e size (.slice A n c) n xs):Reads w w.heap.size size A n xs:=by
 refine ⟨h.1,fun hn=>?_⟩
 obtain ⟨g,cap,hv,_,hlt⟩:=h.form hn
 have hA:A=some ⟨g,0,none⟩:=by injection hv
 subst hA
 exact ⟨_,rfl,hlt,h.cells (g:=g) rfl⟩
end
section
variable {P:Program} (w:World)
theorem run_append_of_nil (base:Nat) (t ty e:TypeId) (i:TypeInfo) (size:Nat) (ht:P.underlying t=some (.slice e)) (hi:P.info? e=some i)
 (v:Value) (n:Nat) (xs:List Value) (hown:w.ownsRow base e size v n xs) (c:Nat):(Builtin.append_ #[t,t] ty #[v,.slice none 0 c]).run P w=.ok v w:=by
 rcases hown.2 with ⟨rfl,rfl⟩ | ⟨g,cap,cur,rfl,_,_,hnc,_⟩
 ·simp [Builtin.append_,run_underlying ht,sizeOf,typeInfo,hi,Builtin.lenOf,Builtin.firstCells]
 ·simp [Builtin.append_,run_underlying ht,sizeOf,typeInfo,hi,Builtin.lenOf,Builtin.firstCells,hnc,storeCells]
theorem run_append_any (base:Nat) (t ty e:TypeId) (i:TypeInfo) (z:Value) (size bytes:Nat) (ht:P.underlying t=some (.slice e)) (hi:P.info? e=some i) (hz:i.zero=some z)
 (hsize:i.size=size) (hby:i.bytes=bytes) (hzs:z.cells.size=size) (hsz:0<size)
 (v:Value) (n:Nat) (xs:List Value) (hown:w.ownsRow base e size v n xs)
 (B:Nat) (A:Option Addr) (m c:Nat) (news:List Value) (hr:Reads w B size A m news) (h1:∀ u∈news,u.oneCell'=true)
 (h63:n+m≤maxLen) (hbytes:(n+m)*bytes≤140737488355328) (hbase:base≤w.heap.size) :
 ∃ v' w',(Builtin.append_ #[t,t] ty #[v,.slice A m c]).run P w=.ok v' w'∧w'.ownsRow base e size v' (n+m) (xs++news)∧w.grownBy w' v.ownBlock ∧
  (v'.ownBlock=v.ownBlock∨v'.ownBlock=some w.heap.size):=by
 rcases A with _ | ad
 ·have hm:m=0:=by
   rcases Nat.eq_zero_or_pos m with h0 | h0
   ·exact h0
   ·obtain ⟨ad,h,_⟩:=hr.2 h0
    cases h
  subst hm
  have hn:news=[]:=List.eq_nil_of_length_eq_zero (by simpa using hr.1)
  subst hn
  exact ⟨v,w,run_append_of_nil w base t ty e i size ht hi v n xs hown c,by simpa using hown,World.grownBy.refl w _,.inl rfl⟩
 ·have hcells:∀ j u,news[j]?=some u→w.cell? (ad.add j)=some u:=by
   intro j u hu
   rcases Nat.eq_zero_or_pos m with h0 | h0
   ·subst h0
    have hn:news=[]:=List.eq_nil_of_length_eq_zero (by simpa using hr.1)
    subst hn
    simp at hu
   ·obtain ⟨ad',h,_,hc⟩:=hr.2 h0
    injection h with h
    subst h
    exact hc j u hu
  obtain ⟨v',w',hrun,h2,h3,_,h5⟩:=run_append_own_at (P:=P) w base t ty e i z size bytes ht hi hz hsize hby hzs hsz v n xs hown ad m c news hr.1 hcells h1 h63 hbytes hbase
  exact ⟨v',w',hrun,h2,h3,h5⟩
theorem wp_append_any {o:Oper} {a:Act} {K:Act→World→Prop} {Q:Exit→Act→World→Prop} (s x:Operand) (t:TypeId)
 (ho:o.op=.call {callee:=.builtin .append,args:=#[s,x],argTypes:=#[t,t]})
 (base:Nat) (e:TypeId) (i:TypeInfo) (z:Value) (size bytes:Nat) (ht:P.underlying t=some (.slice e)) (hi:P.info? e=some i) (hz:i.zero=some z)
 (hsize:i.size=size) (hby:i.bytes=bytes) (hzs:z.cells.size=size) (hsz:0<size)
 (v:Value) (n:Nat) (xs:List Value) (hs:a.eval s=v) (hown:w.ownsRow base e size v n xs)
 (B:Nat) (A:Option Addr) (m c:Nat) (news:List Value) (hx:a.eval x=.slice A m c) (hr:Reads w B size A m news) (h1:∀ u∈news,u.oneCell'=true)
 (h63:n+m≤maxLen) (hbytes:(n+m)*bytes≤140737488355328) (hbase:base≤w.heap.size)
 (h:∀ v' w',w'.ownsRow base e size v' (n+m) (xs++news)→w.grownBy w' v.ownBlock→(v'.ownBlock=v.ownBlock∨v'.ownBlock=some w.heap.size)→K (a.put o.dst v') w'):o.wp P a w K Q:=by
 obtain ⟨v',w',hrun,h2,h3,h4⟩:=run_append_any (P:=P) w base t o.type e i z size bytes ht hi hz hsize hby hzs hsz v n xs hown B A m c news hr h1 h63 hbytes hbase
 unfold Oper.wp execOp
 simp only [ho,resolve,invoke,builtin,Sem.run_bind,Sem.run_pure,Result.andThen_ok,List.map_toArray,List.map_cons,List.map_nil,hs,hx,hrun]
 exact h v' w' h2 h3 h4
theorem wpList_append_any {ops:Array Oper} {rest:List Oper} {o:Oper} {a:Act} {Q:Exit→Act→World→Prop} (hgd:o.guard=none) (s x:Operand) (t:TypeId)
 (ho:o.op=.call {callee:=.builtin .append,args:=#[s,x],argTypes:=#[t,t]})
 (base:Nat) (e:TypeId) (i:TypeInfo) (z:Value) (size bytes:Nat) (ht:P.underlying t=some (.slice e)) (hi:P.info? e=some i) (hz:i.zero=some z)
 (hsize:i.size=size) (hby:i.bytes=bytes) (hzs:z.cells.size=size) (hsz:0<size)
 (v:Value) (n:Nat) (xs:List Value) (hs:a.eval s=v) (hown:w.ownsRow base e size v n xs)
 (B:Nat) (A:Option Addr) (m c:Nat) (news:List Value) (hx:a.eval x=.slice A m c) (hr:Reads w B size A m news) (h1:∀ u∈news,u.oneCell'=true)
 (h63:n+m≤maxLen) (hbytes:(n+m)*bytes≤140737488355328) (hbase:base≤w.heap.size)
 (h:∀ v' w',w'.ownsRow base e size v' (n+m) (xs++news)→w.grownBy w' v.ownBlock→(v'.ownBlock=v.ownBlock∨v'.ownBlock=some w.heap.size)→wpList P ops Q rest (a.put o.dst v') w'):wpList P ops Q (o::rest) a w :=
 wpList_plain hgd fun _ hK=>wp_append_any w s x t ho base e i z size bytes ht hi hz hsize hby hzs hsz v n xs hs hown B A m c news hx hr h1 h63 hbytes hbase fun v' w' h2 h3 h4=>hK _ _ (h v' w' h2 h3 h4)
theorem step_append_any {ops:Array Oper} {o:Oper} {a:Act} {K:Act→World→Prop} {Q:Exit→Act→World→Prop} {E:Prop} (hgd:o.guard=none) (s x:Operand) (t:TypeId)
 (ho:o.op=.call {callee:=.builtin .append,args:=#[s,x],argTypes:=#[t,t]})
 (base:Nat) (e:TypeId) (i:TypeInfo) (z:Value) (size bytes:Nat) (ht:P.underlying t=some (.slice e)) (hi:P.info? e=some i) (hz:i.zero=some z)
 (hsize:i.size=size) (hby:i.bytes=bytes) (hzs:z.cells.size=size) (hsz:0<size)
 (v:Value) (n:Nat) (xs:List Value) (hs:a.eval s=v) (hown:w.ownsRow base e size v n xs)
 (B:Nat) (A:Option Addr) (m c:Nat) (news:List Value) (hx:a.eval x=.slice A m c) (hr:Reads w B size A m news) (h1:∀ u∈news,u.oneCell'=true)
 (h63:n+m≤maxLen) (hbytes:(n+m)*bytes≤140737488355328) (hbase:base≤w.heap.size)
 (h:∀ v' w',w'.ownsRow base e size v' (n+m) (xs++news)→w.grownBy w' v.ownBlock→(v'.ownBlock=v.ownBlock∨v'.ownBlock=some w.heap.size)→K (a.put o.dst v') w') :
 if Region.wanted o (yielded ops a.tmps)=true then Oper.wp P o a w K Q else E:=by
 have hw:Region.wanted o (yielded ops a.tmps)=true:=by simp [Region.wanted,hgd]
 rw [if_pos hw]
 exact wp_append_any w s x t ho base e i z size bytes ht hi hz hsize hby hzs hsz v n xs hs hown B A m c news hx hr h1 h63 hbytes hbase h
end
end
end Go.Proofs.YtekajggjoeimoaaGreatDoor
