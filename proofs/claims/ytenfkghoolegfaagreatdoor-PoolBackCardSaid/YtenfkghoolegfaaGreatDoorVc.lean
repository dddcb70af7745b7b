/- A part of the proof of PoolBack. No condition of its own. -/
import Derived.Test.YtenfkghoolegfaaGreatDoorVz
import Derived.Test.YtenfkghoolegfaaGreatDoorVb
import Derived.RangeFuncRecord
import Derived.OrdersIn
import Derived.Laws.Sem
import Derived.Test.YtenfkghoolegfaaGreatDoorProg
import Derived.WalkKit
import Derived.Below
import Derived.BigCall
import Derived.BigGuard
import Derived.BigFrame
import Derived.Lib.Hide
import Derived.Maps.OwnSet
import Derived.Maps.OwnOps
import Derived.WalkSpells
import Derived.Laws.OwnMore
import Derived.Deep.AppendSrc
import Derived.StillTailTactics
set_option linter.unusedVariables false
namespace Go.Proofs.YtenfkghoolegfaaGreatDoor.Ev
open Go.RowKit
variable {ω:Nat->Value}
def RelV (B:Nat) (X:Aux) (m:M ω) (s':AS) (w:World) (v:Value) (v':Value) (w':World):Prop:=∃ m',Le m m'/\SR B X m' s' w'/\VRel m' v v'/\Below B w w'
def FOf (q:Bool) (F:Fence):Prop:=(q=false/\F=Fence.wide)\/(q=true/\∃ l,F=Fence.wide.inRound l)
section
variable {q:Bool} {F:Fence}
theorem FOf.fn (h:FOf q F) (f:FuncId):F.fn f:=by rcases h with ⟨_,rfl⟩ | ⟨_,l,rfl⟩ <;> trivial
theorem FOf.depth (h:FOf q F):F.depth=none:=by rcases h with ⟨_,rfl⟩ | ⟨_,l,rfl⟩ <;> rfl
theorem FOf.deep (h:FOf q F) (n:Nat):F.depth.isSome=true->1<=n:=fun e=>by rw [h.depth] at e;cases e
theorem FOf.calls (h:FOf q F) {n:Nat} {P:Program} {f:FuncId} {args:Array Value} {w:World} {R:Ending->World->Prop} (hc:CallsIn Fence.wide n P f args w R):CallsIn F n P f args w R:=by
 rcases h with ⟨_,rfl⟩ | ⟨_,l,rfl⟩
 ·exact hc
 ·exact hc
theorem FOf.inRound (h:FOf q F) (l:Nat):F.inRound l=Fence.wide.inRound l:=by rcases h with ⟨_,rfl⟩ | ⟨_,l',rfl⟩ <;> rfl
theorem FOf.round (l:Nat):FOf true (Fence.wide.inRound l):=.inr ⟨rfl,l,rfl⟩
end
inductive MK (K0:Nat->Option Obj):(Nat->Option Obj)->List Deferred->Prop
 | nil:MK K0 K0 []
 | cons (D:Nat) (K:Nat->Option Obj) (ds:List Deferred) (h:MK K0 K ds) (hD:K D=none):MK K0 (fun r=>if r=D then some (.deferred (some [])) else K r) ({target:=.collected D,args:=#[]} :: ds)
def exitOf:Xt->Exit
 | .normal=>.normal
 | .exit id=>.exit id
 | .ret=>.ret
def PostC (B:Nat) (X:Aux) (m:M ω) (N:Nat) (x:Xt) (a':T Value) (s':AS) (w:World) (K0:Nat->Option Obj) (e:Exit) (act':Act) (w':World):Prop :=
 e=exitOf x/\∃ X' m',X'.G=X.G/\MK K0 X'.K act'.defers/\Le m m'/\SR B X' m' s' w'/\TR m' N a' act'/\Below B w w'
def CallOK (C:Ctx) (g:FuncId) (args:Array Value) (w:World) (R:Value->World->Prop):Prop :=
 ∀ (q:Bool) (F:Fence) (n:Nat) (o:Oper) (act:Act) (K:Act->World->Prop) (Q:Exit->Act->World->Prop),FOf q F->(∀ v' w',R v' w'->K (act.put o.dst v') w')->o.uponIn F n C.P act K Q ((callFunc g args).run C.P w)
structure COK (ω:Nat->Value) (C:Ctx):Prop where
 ok:CtxOK ω C
 mixed:C.P.follows .mixedOrders=true
 sp:∀ g k,C.sp g=some k->∀ vs s v s',k vs s=some (v,s')->∀ (B:Nat) (X:Aux) (m:M ω) (w:World) (args:Array Value),SR B X m s w->LRel m vs args.toList->Bs ω C B w->CallOK C g args w (RelV B X m s' w v)
def SndC (ω:Nat->Value) (C:Ctx) (ih:Fns):Prop:=∀ q N c a s x a' s',ih.c q N c a s=some (x,a',s')->∀ (B:Nat) (X:Aux) (m:M ω) (act:Act) (w:World) (F:Fence) (n:Nat) (K0:Nat->Option Obj),
 FOf q F->SR B X m s w->TR m N a act->MK K0 X.K act.defers->Bs ω C B w->c.wpIn F n C.P (PostC B X m N x a' s' w K0) act w
def Ret (B:Nat) (X:Aux) (m:M ω) (s':AS) (w:World) (v:Value) (e:Ending) (w':World):Prop:=∃ v',e=.returned v'/\RelV B X m s' w v v' w'
def SndF (ω:Nat->Value) (C:Ctx) (ih:Fns):Prop:=∀ g vs s v s',ih.f g vs s=some (v,s')->∀ (B:Nat) (X:Aux) (m:M ω) (w:World) (args:Array Value),SR B X m s w->LRel m vs args.toList->Bs ω C B w ->
 CallOK C g args w (RelV B X m s' w v)/\(C.sp g=none->(∀ args w,(callFunc g args).run C.P w=.ok (.enter g args) w)/\∀ n,CallsIn Fence.wide n C.P g args w (Ret B X m s' w v))
section
variable {C:Ctx} {B:Nat} {X:Aux} {m:M ω} {s s':AS} {w:World} {a a':T Value} {act:Act} {n N:Nat} {ih:Fns}
theorem undef_rel:VRel m undef undef:=by
 unfold undef
 first
  | exact .plain _ rfl
  | exact LRel.tuple (l:=[]) (l':=[]) (LRel.nil m)
theorem calls_ok {g:FuncId} {args:Array Value} {v:Value} (he:(callFunc g args).run C.P w=.ok (.enter g args) w) (h:∀ n,CallsIn Fence.wide n C.P g args w (Ret B X m s' w v)):CallOK C g args w (RelV B X m s' w v):=by
 intro q F n o act K Q hF hK;rw [he,Oper.uponIn_enter];refine ⟨hF.deep n,(hF.calls (h (n-1))).mono ?_⟩;rintro e w' ⟨v',rfl,hr⟩;exact hK v' w' hr
theorem getD_set (tm:Array Value) (p k:Nat) (v:Value) (hp:p<tm.size):(tm.setIfInBounds p v).getD k undef=if k=p then v else tm.getD k undef:=by
 by_cases h:k=p
 ·subst h;simp [hp]
 ·rw [if_neg h];simp only [Array.getD_eq_getD_getElem?,Array.getElem?_setIfInBounds_ne (fun e=>h e.symm)]
theorem rdArgs_sound:∀ {ps:List Tmp} {vs l:List Value} {t:T Value} {tm:Array Value},rdArgs N ps vs t=some a->LRel m vs l->tm.size=N->(∀ k,VRel m ((t.get k).getD undef) (tm.getD k undef)) ->
 ps.length=l.length/\((ps.zip l).foldl (fun tm (x:Tmp × Value)=>tm.setIfInBounds x.1 x.2) tm).size=N/\∀ k,VRel m ((a.get k).getD undef) (((ps.zip l).foldl (fun tm (x:Tmp × Value)=>tm.setIfInBounds x.1 x.2) tm).getD k undef)
 | [],[],[],t,tm,h,hl,hs,hr=>by cases h;exact ⟨rfl,hs,hr⟩
 | [],[],_::_,t,tm,h,hl,hs,hr=>absurd hl.1 (by simp)
 | [],_::_,_,t,tm,h,hl,hs,hr=>by cases h
 | _::_,[],_,t,tm,h,hl,hs,hr=>by cases h
 | _::_,_::_,[],t,tm,h,hl,hs,hr=>absurd hl.1 (by simp)
 | p::ps,v::vs,u::l,t,tm,h,hl,hs,hr=>by
  simp only [rdArgs] at h
  cases hp:Nat.blt p N with
  | false=>rw [hp] at h;cases h
  | true =>
   rw [hp] at h;rw [Nat.blt_eq] at hp;obtain ⟨h1,h2⟩:=hl.tail
   have:=rdArgs_sound (tm:=tm.setIfInBounds p u) h h2 (by simpa using hs) (fun k=>by
    rw [T.get_put,getD_set _ _ _ _ (by omega)];by_cases hk:k=p
    ·rw [if_pos hk,if_pos hk];exact h1
    ·rw [if_neg hk,if_neg hk];exact hr k)
   exact ⟨by simp [this.1],this.2⟩
theorem MK_le {K0 K:Nat->Option Obj} {ds:List Deferred} (h:MK K0 K ds):∀ (d:Nat) (k:Obj),K0 d=some k->K d=some k:=by
 induction h with
 | nil=>exact fun d k h=>h
 | cons D K ds _ hD ih =>
  intro d k hk;have:=ih d k hk;show (if d=D then _ else K d)=some k;rw [if_neg (fun e=>by rw [e,hD] at this;cases this)];exact this
theorem setLoop_sound {b:Nat} {t:T Value} {nt:Nat} {ps:List Tmp} {asg bd:Code} {st st':LSt} (hs:SR B X m s w) (hb:s.h.get b=some (.loop t nt ps asg bd st)) {i:Info} (hi:m b=some i) {r r':Loop}
 (hw:w.heap[i.r]?=some (.loop r)) (hr:r'.params=r.params/\r'.assign=r.assign/\r'.body=r.body/\r'.tmps=r.tmps) (hst:st'.is r') :
 SR B X m ⟨s.n,s.h.put b (.loop t nt ps asg bd st')⟩ (w.putObj i.r (.loop r'))/\Below B w (w.putObj i.r (.loop r')):=by
 obtain ⟨⟨r0,h0,h1,h2,h3,h4,h5,h6⟩,hB,hlt⟩:=hs.rel b _ i hb rfl hi;rw [hw] at h0;cases h0
 refine ⟨upd_sound hs hb rfl hi (by simp [World.putObj]) (fun k hk=>World.putObj_heap_other hk) ⟨r',World.putObj_heap_same hlt,hr.1.trans h1,hr.2.1.trans h2,hr.2.2.1.trans h3,by rw [hr.2.2.2];exact h4,hst,fun k=>by rw [hr.2.2.2];exact h6 k⟩,
  ⟨rfl,rfl,rfl,by simp [World.putObj],fun k hk=>World.putObj_heap_other (by omega)⟩⟩
theorem round_sound (hc:SndC ω C ih) (hs:SR B X m s w) (hB:Bs ω C B w) {l:Nat} {vs:List Value} {v:Value} (h:rdRun ih l vs s=some (v,s')) {i:Info} (hi:m l=some i) {args:Array Value} (hl:LRel m vs args.toList)
 {q:Bool} {F:Fence} (hF:FOf q F) {o:Oper} {K:Act->World->Prop} {Q:Exit->Act->World->Prop} (hK:∀ v' w',RelV B X m s' w v v' w'->K (act.put o.dst v') w') :
 o.uponIn F n C.P act K Q ((Instr.yield i.r args).run C.P w):=by
 unfold rdRun at h
 split at h
 ·rename_i t nt ps asg bd hg;obtain ⟨⟨r,h0,h1,h2,h3,h4,h5,h6⟩,hBi,hlt⟩:=hs.rel l _ i hg rfl hi
  split at h
  ·rename_i a1 ha1
   split at h
   ·rename_i a2 s2 ha2;obtain ⟨e1,e2,e3⟩:=rdArgs_sound ha1 hl h4 h6;rw [run_yield (P:=C.P) h0 (by rw [h1];simpa using e1.symm),Oper.uponIn_round];refine ⟨hF.deep n,roundIn_of_wpIn (hF.fn _) ?_⟩;rw [hF.inRound,h2,h3,h1]
    have hfold:(ps.toArray.zip args).foldl (fun tm (x:Tmp × Value)=>tm.setIfInBounds x.1 x.2) r.tmps=(ps.zip args.toList).foldl (fun tm (x:Tmp × Value)=>tm.setIfInBounds x.1 x.2) r.tmps:=by
     rw [<-Array.foldl_toList];simp
    have hT:TR m nt a1 {tmps:=(ps.toArray.zip args).foldl (fun tm (x:Tmp × Value)=>tm.setIfInBounds x.1 x.2) r.tmps,defers:=[]}:=⟨by rw [hfold];exact e2,fun k=>by rw [hfold];exact e3 k⟩
    refine wpIn_mono (hc _ _ _ _ _ _ _ _ ha2 B X m _ w _ (n-1) X.K (FOf.round i.r) hs hT .nil hB) ?_;rintro e act1 w1 ⟨rfl,X1,m1,hG1,hM1,hle1,hs1,hT1,hb1⟩;show ∃ w₂,_;unfold rdBody at h
    split at h
    ·rename_i t' nt' ps' asg' bd' hg1;have hi1:=hle1 _ _ hi;obtain ⟨⟨r1,k0,k1,k2,k3,k4,k5,k6⟩,kB,klt⟩:=hs1.rel l _ i hg1 rfl hi1
     split at h
     ·rename_i x a3 s3 ha3;obtain ⟨g1,g2⟩:=setLoop_sound (st':=.busy) (r':={r1 with state:=.busy}) hs1 hg1 hi1 k0 ⟨rfl,rfl,rfl,rfl⟩ rfl;refine ⟨_,run_beginRound (P:=C.P) k0 k5.1,?_⟩;have hBw:=hB.next (hb1.trans g2);refine wpIn_mono (hc _ _ _ _ _ _ _ _ ha3 B X1 m1 act1 _ _ (n-1) X.K (FOf.round i.r) g1 hT1 hM1 hBw) ?_;rintro e act3 w3 ⟨rfl,X3,m3,hG3,hM3,hle3,hs3,hT3,hb3⟩;unfold rdEnd at h
      split at h
      ·rename_i t3 nt3 ps3 asg3 bd3 hg3;have hi3:=hle3 _ _ hi1;obtain ⟨⟨r3,j0,j1,j2,j3,j4,j5,j6⟩,jB,jlt⟩:=hs3.rel l _ i hg3 rfl hi3
       have fin:∀ (jump:Option Code) (st':LSt),st'.is {r3 with state:=if jump.isNone then .ready else .done,pending:=jump}->s'=⟨s3.n,s3.h.put l (.loop t3 nt3 ps3 asg3 bd3 st')⟩->v=.bool jump.isNone ->
        ∃ v' w',(Instr.endRound i.r jump).run C.P w3=.ok v' w'/\K (act.put o.dst v') w':=by
        intro jump st' hst he hv;obtain ⟨f1,f2⟩:=setLoop_sound (st':=st') (r':={r3 with state:=if jump.isNone then .ready else .done,pending:=jump}) hs3 hg3 hi3 j0 ⟨rfl,rfl,rfl,rfl⟩ hst;refine ⟨_,_,run_endRound (P:=C.P) jump j0,hK _ _ ⟨m3,fun b k hk=>hle3 _ _ (hle1 _ _ hk),?_,by rw [hv];exact .plain _ rfl,(hb1.trans g2).trans (hb3.trans f2)⟩⟩;rw [he];exact f1.ghosts (fun b k hk=>by rw [hG3,hG1];exact hk) (fun d k hk=>MK_le hM3 d k hk)
       cases x with
       | normal=>cases h;exact fin none .ready ⟨rfl,rfl⟩ rfl rfl
       | ret=>cases h;exact fin (some .ret) (.done .ret) ⟨rfl,rfl⟩ rfl rfl
       | exit id=>cases h;exact fin (some (.exit id)) (.done (.exit id)) ⟨rfl,rfl⟩ rfl rfl
      ·cases h
     ·cases h
    ·cases h
   ·cases h
  ·cases h
 ·cases h
theorem act_sound (hC:COK ω C) (hc:SndC ω C ih) (hf:SndF ω C ih) {q:Bool} {F:Fence} (hF:FOf q F) (hs:SR B X m s w) (ht:TR m N a act) (hB:Bs ω C B w) {o:Oper} {v:Value} (h:actRes ih (aop C o a s)=some (v,s'))
 {act2:Act} (hev:execOp act2.eval o=execOp act.eval o) {K:Act->World->Prop} {Q:Exit->Act->World->Prop} (hK:∀ v' w',RelV B X m s' w v v' w'->K (act2.put o.dst v') w'):o.wpIn F n C.P act2 w K Q:=by
 have hnd:∀ c,o.op≠.defer c:=by
  intro c hd;unfold aop at h;rw [hd] at h
  cases h
 refine ⟨fun f _=>hF.fn f,?_⟩;rw [Oper.semAt_eq _ _ _ hnd,hev]
 cases ha:aop C o a s with
 | none=>rw [ha] at h;cases h
 | some p =>
  obtain ⟨r,s1⟩:=p;rw [ha] at h;have ho:=aop_sound hC.ok hs ht hB ha
  cases r with
  | val v1 =>
   cases h
   obtain ⟨nx,w',m',hr,hle,hs',hb,hrr⟩:=ho;rw [hr]
   cases nx <;> first | (exact hrr.elim;done) | exact hK _ _ ⟨m',hle,hs',hrr,hb⟩
  | skip =>
   cases h
   obtain ⟨nx,w',m',hr,hle,hs',hb,hrr⟩:=ho;rw [hr]
   cases nx <;> first | (exact hrr.elim;done) | exact hK _ _ ⟨m',hle,hs',undef_rel,hb⟩
  | call g vs =>
   obtain ⟨args,hl,hr,hs1⟩:=ho;rw [hr];exact (hf _ _ _ _ _ h B X m w args hs1 hl hB).1 q F n o act2 K Q hF hK
  | round b vs =>
   obtain ⟨i,args,hi,hl,hr,hs1⟩:=ho;rw [hr];exact round_sound hc hs1 hB h hi hl hF hK
end
end Go.Proofs.YtenfkghoolegfaaGreatDoor.Ev
namespace Go.Proofs.YtenfkghoolegfaaGreatDoor.Ev
open Go.RowKit
variable {ω:Nat->Value}
structure Good (ops:Array Oper):Prop where
 once:∀ (i j:Nat) (oi oj:Oper) (t:Tmp),ops[i]?=some oi->ops[j]?=some oj->oi.dst=some t->oj.dst=some t->i=j
 ahead:∀ (i:Nat) (o:Oper),ops[i]?=some o->∀ e∈o.after,Region.binds .any e=true->e.on<i
 reads:∀ (i j:Nat) (o oj:Oper) (t:Tmp),ops[i]?=some o->.tmp t∈o.op.operands->ops[j]?=some oj->oj.dst=some t->(∃ e∈o.after,Region.binds .any e=true/\e.on=j)\/(lateB ops.toList j oj=true/\∃ e∈oj.after,Region.binds .any e=true/\e.on=i)
 guards:∀ (i g:Nat) (o:Oper) (b:Bool),ops[i]?=some o->o.guard=some (g,b)->∃ og t,ops[g]?=some og/\og.dst=some t/\∃ e∈o.after,Region.binds .any e=true/\e.on=g
 nosel:∀ (i:Nat) (o:Oper) cs b,ops[i]?=some o->o.op≠.select cs b
theorem dstM_iff {t:Tmp}:∀ {l:List Oper},bitB (dstM l) t=true↔∃ o∈l,o.dst=some t
 | []=>by simp [dstM,bitB_zero]
 | o::os=>by
  have ih:=dstM_iff (t:=t) (l:=os);simp only [dstM,List.mem_cons]
  cases hd:o.dst with
  | none =>
   simp only [];rw [ih];constructor
   ·rintro ⟨p,hp,he⟩;exact ⟨p,.inr hp,he⟩
   ·rintro ⟨p,rfl | hp,he⟩
    ·rw [hd] at he;cases he
    ·exact ⟨p,hp,he⟩
  | some u =>
   simp only [setB_bit,Bool.or_eq_true,decide_eq_true_eq];rw [ih];constructor
   ·rintro (rfl | ⟨p,hp,he⟩)
    ·exact ⟨o,.inl rfl,hd⟩
    ·exact ⟨p,.inr hp,he⟩
   ·rintro ⟨p,rfl | hp,he⟩
    ·rw [hd] at he;cases he;exact .inl rfl
    ·exact .inr ⟨p,hp,he⟩
theorem dstOnce_spec:∀ {l:List Oper},dstOnce l=true->∀ (i j:Nat) (oi oj:Oper) (t:Tmp),l[i]?=some oi->l[j]?=some oj->oi.dst=some t->oj.dst=some t->i=j
 | [],_,i,j,oi,oj,t,hi,_,_,_=>by simp at hi
 | o::os,h,i,j,oi,oj,t,hi,hj,di,dj=>by
  have hos:dstOnce os=true:=by
   simp only [dstOnce] at h
   split at h
   ·rename_i u hu
    cases hb:bitB (dstM os) u with
    | true=>rw [hb] at h;cases h
    | false=>rw [hb] at h;exact h
   ·exact h
  have no:∀ (k:Nat) (ok:Oper),os[k]?=some ok->ok.dst=some t->o.dst=some t->False:=by
   intro k ok hk dk d0;simp only [dstOnce,d0] at h;have:bitB (dstM os) t=true:=dstM_iff.2 ⟨ok,mG hk,dk⟩;rw [this] at h
   cases h
  cases i with
  | zero =>
   simp at hi;subst hi
   cases j with
   | zero=>rfl
   | succ j=>exact (no j oj (by simpa using hj) dj di).elim
  | succ i =>
   cases j with
   | zero=>simp at hj;subst hj;exact (no i oi (by simpa using hi) di dj).elim
   | succ j=>rw [dstOnce_spec hos i j oi oj t (by simpa using hi) (by simpa using hj) di dj]
theorem okOps_spec {all:List Oper} {Mk:Nat}:∀ {l:List Oper} {k:Nat},okOps all Mk l k=true->∀ (i:Nat) (o:Oper),l[i]?=some o->okOp all Mk (k+i) o=true
 | [],_,_,i,o,hi=>by simp at hi
 | p::ps,k,h,i,o,hi=>by
  simp only [okOps] at h
  cases hp:okOp all Mk k p with
  | false=>rw [hp] at h;cases h
  | true =>
   rw [hp] at h
   cases i with
   | zero=>simp at hi;subst hi;exact hp
   | succ i=>have:=okOps_spec (k:=k+1) h i o (by simpa using hi);rw [show k+(i+1)=k+1+i by omega];exact this
theorem predD_spec {all:List Oper} {t:Tmp}:∀ {es:List Edge},bitB (predD all es) t=true->∃ e∈es,Region.binds .any e=true/\∃ o,all[e.on]?=some o/\o.dst=some t
 | [],h=>by simp [predD,bitB_zero] at h
 | e::es,h=>by
  simp only [predD] at h
  have hrec:bitB (predD all es) t=true->∃ x∈e::es,Region.binds .any x=true/\∃ o,all[x.on]?=some o/\o.dst=some t:=fun h=>by
   obtain ⟨x,hx,r⟩:=predD_spec h;exact ⟨x,by simp [hx],r⟩
  cases hb:Region.binds .any e with
  | false=>rw [hb] at h;exact hrec h
  | true =>
   rw [hb] at h;simp only [cond_true] at h
   split at h
   ·rename_i o ho
    split at h
    ·rename_i u hu
     rcases setB_inv h with rfl | h
     ·exact ⟨e,by simp,hb,o,ho,hu⟩
     ·exact hrec h
    ·exact hrec h
   ·exact hrec h
theorem tmpsIn_spec {Mk Qk:Nat}:∀ {l:List Operand},tmpsIn Mk Qk l=true->∀ t,.tmp t∈l->bitB Mk t=true->bitB Qk t=true
 | [],_,t,ht,_=>by simp at ht
 | x::l,h,t,ht,hm=>by
  have hrec:tmpsIn Mk Qk l=true:=by
   cases x <;> simp only [tmpsIn] at h <;> try exact h
   rename_i u
   cases h1:bitB Mk u <;> cases h2:bitB Qk u <;> rw [h1] at h <;> simp only [cond_true,cond_false] at h <;> try exact h
   all_goals (rw [h2] at h;first | exact h | cases h)
  rcases List.mem_cons.1 ht with e | ht
  ·subst e;simp only [tmpsIn,hm,cond_true] at h
   cases h2:bitB Qk t with
   | true=>rfl
   | false=>rw [h2] at h;cases h
  ·exact tmpsIn_spec hrec t ht hm
theorem readsT_of {t:Tmp}:∀ {l:List Operand},.tmp t∈l->readsT t l=true
 | [],h=>by simp at h
 | x::l,h=>by
  rcases List.mem_cons.1 h with e | h
  ·subst e;simp [readsT]
  ·have ih:=readsT_of h
   cases x <;> simp only [readsT] <;> try exact ih
   rename_i u
   cases Nat.beq u t <;> first | rfl | exact ih
theorem hasEdge_iff {j:Nat}:∀ {es:List Edge},hasEdge j es=true↔∃ e∈es,Region.binds .any e=true/\e.on=j
 | []=>by simp [hasEdge]
 | e::es=>by
  have ih:=hasEdge_iff (j:=j) (es:=es);simp only [hasEdge,List.mem_cons,exists_eq_or_imp]
  cases hb:Region.binds .any e with
  | false=>simp only [cond_false,ih];simp
  | true =>
   cases hj:Nat.beq e.on j with
   | true=>simp only [cond_true,true_iff];exact .inl ⟨trivial,bE hj⟩
   | false =>
    simp only [cond_true,cond_false,ih];constructor
    ·exact .inr
    ·rintro (⟨_,h⟩ | h)
     ·exact absurd h (Nat.ne_of_beq_eq_false hj)
     ·exact h
theorem lateT_of {t:Tmp} {i:Nat}:∀ {l:List Oper} {k:Oper},k∈l->readsT t k.op.operands.toList=true->hasEdge i k.after.toList=false->lateT t i l=true
 | [],_,h,_,_=>by simp at h
 | x::l,k,h,h1,h2=>by
  simp only [lateT]
  rcases List.mem_cons.1 h with e | h
  ·subst e;rw [h1,h2];rfl
  ·have ih:=lateT_of h h1 h2
   cases readsT t x.op.operands.toList <;> cases hasEdge i x.after.toList <;> first | rfl | exact ih
theorem antiD_spec {i:Nat} {t:Tmp}:∀ {l:List Oper},bitB (antiD i l) t=true->∃ k∈l,hasEdge i k.after.toList=true/\k.dst=some t
 | [],h=>by simp [antiD,bitB_zero] at h
 | k::ks,h=>by
  simp only [antiD] at h
  have hrec:bitB (antiD i ks) t=true->∃ x∈k::ks,hasEdge i x.after.toList=true/\x.dst=some t:=fun h=>by
   obtain ⟨x,hx,r⟩:=antiD_spec h;exact ⟨x,by simp [hx],r⟩
  cases hb:hasEdge i k.after.toList with
  | false=>rw [hb] at h;exact hrec h
  | true =>
   rw [hb] at h;simp only [cond_true] at h
   split at h
   ·rename_i u hu
    rcases setB_inv h with rfl | h
    ·exact ⟨k,by simp,hb,hu⟩
    ·exact hrec h
   ·exact hrec h
theorem lor_bit (a b j:Nat):bitB (Nat.lor a b) j=(bitB a j || bitB b j):=by
 rw [bitB_eq,bitB_eq,bitB_eq];show (a ||| b).testBit j=_;rw [Nat.testBit_or]
theorem good_of {ops:Array Oper} (h:okD ops.toList=true):Good ops:=by
 unfold okD at h;rw [Bool.and_eq_true] at h;obtain ⟨h1,h2⟩:=h
 have lst:∀ (i:Nat),ops.toList[i]?=ops[i]?:=fun i=>by simp
 have one:∀ (i:Nat) (o:Oper),ops[i]?=some o->okOp ops.toList (dstM ops.toList) i o=true:=fun i o hi=>by
  have:=okOps_spec h2 i o (by rw [lst];exact hi)
  simpa using this
 have once:=fun (i j:Nat) (oi oj:Oper) (t:Tmp) (hi:ops[i]?=some oi) (hj:ops[j]?=some oj)=>dstOnce_spec h1 i j oi oj t (by rw [lst];exact hi) (by rw [lst];exact hj);refine ⟨once,fun i o hi=>?_,fun i j o oj t hi ht hj hd=>?_,fun i g o b hi hg=>?_,fun i o cs b hi he=>?_⟩
 ·have:=one i o hi;unfold okOp at this;rw [Bool.and_eq_true] at this;intro e he hb;exact ahead_iff.1 this.1 e (by simpa using he) hb
 ·have:=one i o hi;unfold okOp at this;rw [Bool.and_eq_true,Bool.and_eq_true] at this;have hm:bitB (dstM ops.toList) t=true:=dstM_iff.2 ⟨oj,mG (by rw [lst];exact hj),hd⟩;have hq:=tmpsIn_spec this.2.1 t (by simpa using ht) hm;rw [lor_bit,Bool.or_eq_true] at hq
  rcases hq with hq | hq
  ·obtain ⟨e,he,hb,o',ho',hd'⟩:=predD_spec hq;rw [lst] at ho';exact .inl ⟨e,by simpa using he,hb,once _ _ _ _ _ ho' hj hd' hd⟩
  ·obtain ⟨k,hk,hek,hdk⟩:=antiD_spec hq;obtain ⟨j',hj'⟩:=List.mem_iff_getElem?.1 hk;rw [lst] at hj';have hjj:=once _ _ _ _ _ hj' hj hdk hd;subst hjj;rw [hj] at hj';cases hj'
   cases hwait:hasEdge j' o.after.toList with
   | true =>
    obtain ⟨e,he,hb,hon⟩:=hasEdge_iff.1 hwait;exact .inl ⟨e,by simpa using he,hb,hon⟩
   | false =>
    obtain ⟨e,he,hb,hon⟩:=hasEdge_iff.1 hek;refine .inr ⟨?_,e,by simpa using he,hb,hon⟩;unfold lateB;rw [hd];exact lateT_of (mG (by rw [lst];exact hi)) (readsT_of (by simpa using ht)) hwait
 ·have:=one i o hi;unfold okOp at this;rw [Bool.and_eq_true,Bool.and_eq_true,Bool.and_eq_true] at this;have hgi:=this.2.2.1;rw [hg] at hgi;simp only [guardIn] at hgi
  split at hgi
  ·rename_i og hog;rw [lst] at hog
   split at hgi
   ·rename_i t ht;obtain ⟨e,he,hb,o',ho',hd'⟩:=predD_spec hgi;rw [lst] at ho';exact ⟨og,t,hog,ht,e,by simpa using he,hb,once _ _ _ _ _ ho' hog hd' ht⟩
   ·cases hgi
  ·cases hgi
 ·have:=one i o hi;unfold okOp at this;rw [Bool.and_eq_true,Bool.and_eq_true,Bool.and_eq_true] at this;have hn:=this.2.2.2;rw [he] at hn
  cases hn
theorem preds_spec {A:Nat}:∀ {es:List Edge} {j:Nat},bitB (preds A es) j=true->bitB A j=true\/∃ e∈es,Region.binds .any e=true/\e.on=j
 | [],j,h=>.inl h
 | e::es,j,h=>by
  simp only [preds] at h
  have hrec:bitB (preds A es) j=true->bitB A j=true\/∃ x∈e::es,Region.binds .any x=true/\x.on=j:=fun h =>
   (preds_spec h).imp id fun ⟨x,hx,r⟩=>⟨x,by simp [hx],r⟩
  cases hb:Region.binds .any e with
  | false=>rw [hb] at h;exact hrec h
  | true =>
   rw [hb] at h
   rcases setB_inv h with rfl | h
   ·exact .inr ⟨e,by simp,hb,rfl⟩
   ·exact hrec h
theorem preds_sub {A:Nat}:∀ {es:List Edge} {j:Nat},bitB A j=true->bitB (preds A es) j=true
 | [],_,h=>h
 | e::es,j,h=>by
  have ih:=preds_sub (es:=es) h;simp only [preds]
  cases Region.binds .any e with
  | false=>exact ih
  | true=>exact setB_old ih
theorem anc_sub {all:List Oper} {A j:Nat} (h:bitB A j=true):∀ {l:List Oper} {k:Nat},bitB (anc all l k A) j=true
 | [],_=>h
 | o::os,k=>by
  have ih:=anc_sub h (all:=all) (l:=os) (k:=k+1);simp only [anc]
  cases bitB (anc all os (k+1) A) k with
  | false=>exact ih
  | true=>exact preds_sub ih
theorem anc_spec {all:List Oper} (S:Nat->Prop) (hS:∀ i o,all[i]?=some o->S i->∀ e∈o.after,Region.binds .any e=true->S e.on):∀ {l:List Oper} {k A:Nat},(∀ i,l[i]?=all[k+i]?)->(∀ j,bitB A j=true->S j)->∀ j,bitB (anc all l k A) j=true->S j
 | [],_,_,_,hA,j,h=>hA j h
 | o::os,k,A,hl,hA,j,h=>by
  have ih:=anc_spec S hS (l:=os) (k:=k+1) (A:=A) (fun i=>by have:=hl (i+1);rw [List.getElem?_cons_succ] at this;rw [this];congr 1;omega) hA;simp only [anc] at h
  cases hb:bitB (anc all os (k+1) A) k with
  | false=>rw [hb] at h;exact ih j h
  | true =>
   rw [hb] at h
   rcases preds_spec h with h | ⟨e,he,hbi,rfl⟩
   ·exact ih j h
   ·exact hS k o (by have:=hl 0;simpa using this.symm) (ih k hb) e (by simpa using he) hbi
theorem readyL_spec {D:Nat}:∀ {l:List Oper} {k i:Nat} {o:Oper},l[i]?=some o->bitB D (k+i)=false->predsIn D o.after.toList=true->k+i∈readyL D l k
 | [],_,_,_,h,_,_=>by simp at h
 | p::ps,k,i,o,h,hb,hp=>by
  simp only [readyL]
  cases i with
  | zero =>
   simp at h;subst h;rw [Nat.add_zero] at hb ⊢;rw [hb,hp];simp
  | succ i =>
   have ih:=readyL_spec (k:=k+1) (l:=ps) (i:=i) (o:=o) (by simpa using h) (by rw [show k+1+i=k+(i+1) by omega];exact hb) hp;rw [show k+1+i=k+(i+1) by omega] at ih
   cases bitB D k with
   | true=>exact ih
   | false =>
    cases predsIn D p.after.toList with
    | true=>exact List.mem_cons_of_mem _ ih
    | false=>exact ih
theorem verL_spec {C:Ctx} {all:List Oper} {D A:Nat} {a:T Value} {s:AS}:∀ {l:List Oper} {k:Nat},verL C all D A a s l k=true->∀ (i:Nat) (o:Oper),l[i]?=some o->bitB D (k+i)=true->bitB A (k+i)=false->verO C all a s o=true
 | [],_,_,i,o,h,_,_=>by simp at h
 | p::ps,k,h,i,o,hi,hD,hA=>by
  simp only [verL] at h
  cases i with
  | zero =>
   simp at hi;subst hi;rw [Nat.add_zero] at hD hA;rw [hD,hA] at h
   cases hv:verO C all a s p with
   | true=>rfl
   | false=>rw [hv] at h;cases h
  | succ i =>
   have hr:verL C all D A a s ps (k+1)=true:=by
    cases h1:bitB D k <;> cases h2:bitB A k <;> cases h3:verO C all a s p <;> simp [h1,h2,h3] at h <;> exact h
   exact verL_spec hr i o (by simpa using hi) (by rw [show k+1+i=k+(i+1) by omega];exact hD) (by rw [show k+1+i=k+(i+1) by omega];exact hA)
end Go.Proofs.YtenfkghoolegfaaGreatDoor.Ev
namespace Go.Proofs.YtenfkghoolegfaaGreatDoor.Ev
open Go.RowKit
variable {ω:Nat->Value}
def AlAt (C:Ctx) (ops:Array Oper) (D:Nat) (a:T Value) (L:Array Bool) (i:Nat) (o:Oper) (q:AObj) (f:Nat->Value):Prop :=
 ops[i]?=some o/\bitB D i=true/\L.getD i false=false/\wantedB ops.toList o a=true/\alOf o.op C a=some (q,f)
structure DInv (C:Ctx) (ops:Array Oper) (N B:Nat) (X0:Aux) (D A:Nat) (a:T Value) (s:AS) (L:Array Bool) (act:Act) (w:World) (X:Aux) (m:M ω) (γ:Nat->Nat):Prop where
 size:L.size=ops.size
 sub:∀ i,L.getD i false=true->bitB D i=true
 down:∀ i o,ops[i]?=some o->L.getD i false=true->∀ e∈o.after,Region.binds .any e=true->L.getD e.on false=true
 downD:∀ i o,ops[i]?=some o->bitB D i=true->∀ e∈o.after,Region.binds .any e=true->bitB D e.on=true
 must:∀ i,i<ops.size->bitB A i=true->L.getD i false=true
 dstN:∀ i o t,ops[i]?=some o->bitB D i=true->o.dst=some t->t<N
 tsize:act.tmps.size=N
 tmps:∀ t,(∀ i o,ops[i]?=some o->bitB D i=true->o.dst=some t->L.getD i false=true)->VRel m ((a.get t).getD undef) (act.tmps.getD t undef)
 sr:SR B X m s w
 K:X.K=X0.K
 G:∀ b o,X0.G b=some o->X.G b=some o
 al:∀ i o q f,AlAt C ops D a L i o q f->X.G (γ i)=some q/\X0.G (γ i)=none/\∃ t,o.dst=some t/\a.get t=some (f (γ i))
 inj:∀ i j oi oj qi qj fi fj,AlAt C ops D a L i oi qi fi->AlAt C ops D a L j oj qj fj->i≠j->γ i≠γ j
 hB:Bs ω C B w
 late:∀ i o,ops[i]?=some o->lateB ops.toList i o=true->bitB D i=true->bitB A i=true
section
variable {C:Ctx} {ops:Array Oper} {N B:Nat} {X0 X:Aux} {D A:Nat} {a a':T Value} {s s':AS} {L:Array Bool} {act:Act} {w:World} {m:M ω} {γ:Nat->Nat} {i:Nat} {o:Oper}
theorem putA_inv {v:Value} {d:Option Tmp} (h:putA N a d v=some a'):(d=none/\a'=a)\/∃ t,d=some t/\t<N/\a'=a.put t v:=by
 cases d with
 | none=>cases h;exact .inl ⟨rfl,rfl⟩
 | some t =>
  have h':Bool.rec (motive:=fun _=>Option (T Value)) none (some (a.put t v)) (Nat.blt t N)=some a':=h
  cases hb:Nat.blt t N with
  | false=>rw [hb] at h';cases h'
  | true=>rw [hb] at h';cases h';rw [Nat.blt_eq] at hb;exact .inr ⟨t,rfl,hb,rfl⟩
theorem agree_put (hg:Good ops) (hi:ops[i]?=some o) {j:Nat} {oj:Oper} (hj:ops[j]?=some oj) (hno:∀ e∈oj.after,Region.binds .any e=true->e.on≠i) (hnl:lateB ops.toList i o=true->∀ e∈o.after,Region.binds .any e=true->e.on≠j) {t:Tmp} (ht:o.dst=some t) (v:Value):Agree oj.op (a.put t v) a:=by
 intro x hx
 cases x with
 | tmp u =>
  have:u≠t:=by
   rintro rfl
   rcases hg.reads j i oj o u hj hx hi ht with ⟨e,he,hb,rfl⟩ | ⟨hl,e,he,hb,rfl⟩
   ·exact hno e he hb rfl
   ·exact hnl hl e he hb rfl
  show orUndef ((a.put t v).get u)=orUndef (a.get u);rw [T.get_put,if_neg this]
 | _=>rfl
theorem wanted_putA (hg:Good ops) (hi:ops[i]?=some o) {j:Nat} {oj:Oper} (hj:ops[j]?=some oj) (hno:∀ e∈oj.after,Region.binds .any e=true->e.on≠i) {t:Tmp} (ht:o.dst=some t) (v:Value):wantedB ops.toList oj (a.put t v)=wantedB ops.toList oj a:=by
 unfold wantedB
 cases hgd:oj.guard with
 | none=>rfl
 | some gb =>
  obtain ⟨g,b⟩:=gb;obtain ⟨og,d,h1,h2,e,he,hb,hge⟩:=hg.guards j g oj b hj hgd;have hgi:g≠i:=fun hh=>hno e he hb (hge.trans hh);have hd:d≠t:=fun hh=>hgi (hg.once g i og o t h1 hi (by rw [<-hh];exact h2) ht);show wantedG ops.toList (a.put t v) (g,b)=wantedG ops.toList a (g,b);simp only [wantedG,Array.getElem?_toList,h1,h2,T.get_put,if_neg hd]
theorem no_edge (h:DInv C ops N B X0 D A a s L act w X m γ) (hiD:bitB D i=false) {j:Nat} {oj:Oper} (hj:ops[j]?=some oj) (hjD:bitB D j=true):∀ e∈oj.after,Region.binds .any e=true->e.on≠i:=fun e he hb hh=>by
 have:=h.downD j oj hj hjD e he hb;rw [hh,hiD] at this;cases this
theorem no_self (hg:Good ops) (hi:ops[i]?=some o):∀ e∈o.after,Region.binds .any e=true->e.on≠i:=fun e he hb hh=>by
 have:=hg.ahead i o hi e he hb;omega
theorem DInv.grow (hg:Good ops) (h:DInv C ops N B X0 D A a s L act w X m γ) (hi:ops[i]?=some o) (hiD:bitB D i=false) (hp:predsIn D o.after.toList=true) (hnl:lateB ops.toList i o=false) {v:Value} (ha:putA N a o.dst v=some a')
 {X':Aux} {γ':Nat->Nat} (hsr:SR B X' m s' w) (hK:X'.K=X.K) (hG:∀ b q,X.G b=some q->X'.G b=some q) (hγ:∀ j,j≠i->γ' j=γ j)
 (hnew:∀ q f,wantedB ops.toList o a=true->alOf o.op C a=some (q,f)->X'.G (γ' i)=some q/\X0.G (γ' i)=none/\(∃ t,o.dst=some t/\a'.get t=some (f (γ' i)))/\∀ b q,X.G b=some q->γ' i≠b) :
 DInv C ops N B X0 (setB D i) A a' s' L act w X' m γ':=by
 have hput:=putA_inv ha
 have hiL:L.getD i false=false:=by
  cases hl:L.getD i false with
  | false=>rfl
  | true=>have:=h.sub i hl;rw [hiD] at this;cases this
 have same:∀ {j:Nat} {oj:Oper},ops[j]?=some oj->(∀ e∈oj.after,Region.binds .any e=true->e.on≠i)->wantedB ops.toList oj a'=wantedB ops.toList oj a/\alOf oj.op C a'=alOf oj.op C a:=by
  intro j oj hj hno
  rcases hput with ⟨_,rfl⟩ | ⟨t,ht,_,rfl⟩
  ·exact ⟨rfl,rfl⟩
  ·exact ⟨wanted_putA hg hi hj hno ht v,al_congr (agree_put hg hi hj hno (fun h=>by rw [hnl] at h;cases h) ht v)⟩
 have old:∀ {j:Nat} {oj:Oper} {q:AObj} {f:Nat->Value},AlAt C ops (setB D i) a' L j oj q f->j≠i->AlAt C ops D a L j oj q f:=by
  rintro j oj q f ⟨h1,h2,h3,h4,h5⟩ hne;have hjD:bitB D j=true:=(setB_inv h2).resolve_left hne;obtain ⟨e1,e2⟩:=same h1 (no_edge h hiD h1 hjD);exact ⟨h1,hjD,h3,by rw [<-e1];exact h4,by rw [<-e2];exact h5⟩
 have selfI:∀ {oj:Oper} {q:AObj} {f:Nat->Value},AlAt C ops (setB D i) a' L i oj q f->X'.G (γ' i)=some q/\X0.G (γ' i)=none/\(∃ t,oj.dst=some t/\a'.get t=some (f (γ' i)))/\∀ b q,X.G b=some q->γ' i≠b:=by
  rintro oj q f ⟨h1,h2,h3,h4,h5⟩;rw [hi] at h1;cases h1;obtain ⟨e1,e2⟩:=same hi (no_self hg hi);exact hnew q f (by rw [<-e1];exact h4) (by rw [<-e2];exact h5)
 have geta:∀ t,o.dst≠some t->a'.get t=a.get t:=by
  intro t ht
  rcases hput with ⟨_,rfl⟩ | ⟨u,hu,_,rfl⟩
  ·rfl
  ·rw [T.get_put,if_neg (fun e=>ht (by rw [e];exact hu))]
 refine ⟨h.size,fun j hj=>setB_old (h.sub j hj),h.down,?_,h.must,?_,h.tsize,?_,hsr,hK.trans h.K,fun b q hb=>hG b q (h.G b q hb),?_,?_,h.hB,?_⟩
 ·intro j oj hj hjD e he hb
  rcases setB_inv hjD with rfl | hjD
  ·rw [hi] at hj;cases hj;exact setB_old (predsIn_iff.1 hp e (by simpa using he) hb)
  ·exact setB_old (h.downD j oj hj hjD e he hb)
 ·intro j oj t hj hjD ht
  rcases setB_inv hjD with rfl | hjD
  ·rw [hi] at hj;cases hj
   rcases hput with ⟨e,_⟩ | ⟨u,hu,hlt,_⟩
   ·rw [ht] at e;cases e
   ·rw [ht] at hu;cases hu;exact hlt
  ·exact h.dstN j oj t hj hjD ht
 ·intro t hall;rw [geta t (fun e=>by have:=hall i o hi (setB_same _ _) e;rw [hiL] at this;cases this)];exact h.tmps t fun j oj hj hjD=>hall j oj hj (setB_old hjD)
 ·intro j oj q f hj;by_cases hji:j=i
  ·subst hji;obtain ⟨k1,k2,k3,_⟩:=selfI hj;exact ⟨k1,k2,k3⟩
  ·obtain ⟨k1,k2,t,k3,k4⟩:=h.al j oj q f (old hj hji);rw [hγ j hji];refine ⟨hG _ _ k1,k2,t,k3,?_⟩;rw [geta t (fun e=>hji (hg.once j i oj o t hj.1 hi k3 e))];exact k4
 ·intro j k oj ok qj qk fj fk hj hk hne;by_cases hji:j=i
  ·subst hji;have hk':=old hk (fun e=>hne e.symm);rw [hγ k (fun e=>hne e.symm)];exact (selfI hj).2.2.2 _ _ (h.al k ok qk fk hk').1
  ·by_cases hki:k=i
   ·subst hki;rw [hγ j hji];exact ((selfI hk).2.2.2 _ _ (h.al j oj qj fj (old hj hji)).1).symm
   ·rw [hγ j hji,hγ k hki];exact h.inj j k oj ok qj qk fj fk (old hj hji) (old hk hki) hne
 ·intro j oj hj hl hjD
  rcases setB_inv hjD with rfl | hjD
  ·rw [hi] at hj;cases hj;rw [hnl] at hl;cases hl
  ·exact h.late j oj hj hl hjD
theorem took_sound (hg:Good ops) (h:DInv C ops N B X0 D A a s L act w X m γ) (hi:ops[i]?=some o) (hiD:bitB D i=false) (hp:predsIn D o.after.toList=true) (hf:freeStep C N ops.toList i o a s=.took a' s') :
 ∃ X' γ',DInv C ops N B X0 (setB D i) A a' s' L act w X' m γ':=by
 have tk:∀ {v:Value} {s1:AS},tookP N a o.dst v s1=.took a' s'->putA N a o.dst v=some a'/\s1=s':=by
  intro v s1 ht;unfold tookP at ht
  split at ht
  ·rename_i a1 h1;cases ht;exact ⟨h1,rfl⟩
  ·cases ht
 unfold freeStep at hf
 cases hnl:lateB ops.toList i o with
 | true=>rw [hnl] at hf;cases hf
 | false =>
 rw [hnl] at hf;simp only [cond_false] at hf
 cases hw:wantedB ops.toList o a with
 | false =>
  rw [hw] at hf;obtain ⟨h1,rfl⟩:=tk hf;exact ⟨X,γ,h.grow hg hi hiD hp hnl h1 h.sr rfl (fun _ _ h=>h) (fun _ _=>rfl) (fun q f hw' _=>by rw [hw] at hw';cases hw')⟩
 | true =>
  rw [hw] at hf;simp only [cond_true] at hf
  cases hal:alOf o.op C a with
  | some al =>
   obtain ⟨q,f⟩:=al;rw [hal] at hf;simp only at hf
   cases hd:o.dst with
   | none=>rw [hd] at hf;cases hf
   | some t =>
    rw [hd] at hf;simp only [Option.isSome_some,cond_true,doAl,freeRes] at hf;rw [<-hd] at hf;obtain ⟨h1,rfl⟩:=tk hf
    have fresh:∀ b q,X.G b=some q->s.n≠b:=fun b q hb e=>by
     have:=(h.sr.gh b q hb).1;rw [<-e,h.sr.freshH s.n (nR _)] at this;cases this
    refine ⟨X.add s.n q,fun j=>if j=i then s.n else γ j,h.grow hg hi hiD hp hnl h1 (ghost_sound h.sr q) rfl (fun b p hb=>?_) (fun j hj=>by simp [hj]) (fun q' f' _ hal'=>?_)⟩
    ·simp [Aux.add,(fresh b p hb).symm,hb]
    ·rw [hal] at hal';cases hal';refine ⟨by simp [Aux.add],?_,⟨t,hd,?_⟩,fun b p hb=>by simpa using fresh b p hb⟩
     ·simp only [if_true]
      cases h0:X0.G s.n with
      | none=>rfl
      | some p=>exact absurd rfl (fresh s.n p (h.G _ _ h0))
     ·rcases putA_inv h1 with ⟨e,_⟩ | ⟨u,hu,_,rfl⟩
      ·rw [hd] at e;cases e
      ·rw [hd] at hu;cases hu;rw [T.get_put,if_pos rfl];simp
  | none =>
   rw [hal] at hf;simp only at hf
   cases hst:stillB C o.op with
   | false=>rw [hst] at hf;cases hf
   | true =>
    rw [hst] at hf;simp only [cond_true,freeRes] at hf
    split at hf
    ·rename_i v s1 hao;obtain ⟨rfl,_⟩:=still_same hst hal hao;obtain ⟨h1,rfl⟩:=tk hf;exact ⟨X,γ,h.grow hg hi hiD hp hnl h1 h.sr rfl (fun _ _ h=>h) (fun _ _=>rfl) (fun q f _ hal'=>by rw [hal] at hal';cases hal')⟩
    ·cases hf
theorem pass_sound (hg:Good ops):∀ {l:List Oper} {k D D':Nat} {a a':T Value} {s s':AS} {X:Aux} {γ:Nat->Nat},(∀ i,l[i]?=ops[k+i]?)->DInv C ops N B X0 D A a s L act w X m γ->pass C N ops.toList l k D a s=some (D',a',s') ->
 ∃ X' γ',DInv C ops N B X0 D' A a' s' L act w X' m γ'
 | [],_,D,_,a,_,s,_,X,γ,_,h,hp=>by cases hp;exact ⟨X,γ,h⟩
 | o::os,k,D,D',a,a',s,s',X,γ,hl,h,hp=>by
  have hl':∀ i,os[i]?=ops[k+1+i]?:=fun i=>by have:=hl (i+1);rw [List.getElem?_cons_succ] at this;rw [this];congr 1;omega
  have ho:ops[k]?=some o:=by have:=hl 0;simpa using this.symm
  simp only [pass] at hp
  cases hb:bitB D k with
  | true=>rw [hb] at hp;exact pass_sound hg hl' h hp
  | false =>
   rw [hb] at hp;simp only [cond_false] at hp
   cases hpr:predsIn D o.after.toList with
   | false=>rw [hpr] at hp;exact pass_sound hg hl' h hp
   | true =>
    rw [hpr] at hp;simp only [cond_true] at hp
    split at hp
    ·exact pass_sound hg hl' h hp
    ·cases hp
    ·rename_i a1 s1 hf;obtain ⟨X1,γ1,h1⟩:=took_sound hg h ho hb hpr hf;exact pass_sound hg hl' h1 hp
end
end Go.Proofs.YtenfkghoolegfaaGreatDoor.Ev
namespace Go.Proofs.YtenfkghoolegfaaGreatDoor.Ev
open Go.RowKit
variable {ω:Nat->Value}
def unl (ops:Array Oper) (D:Nat) (L:Array Bool):List Tmp:=(List.range ops.size).filterMap fun i=>if L.getD i false || !bitB D i then none else (ops[i]?).bind (·.dst)
noncomputable def putU (a:T Value):List Tmp->T Value
 | []=>a
 | t::ts=>(putU a ts).put t undef
def actU (act:Act):List Tmp->Act
 | []=>act
 | t::ts=>(actU act ts).put (some t) undef
section
variable {C:Ctx} {ops:Array Oper} {N B:Nat} {X0 X:Aux} {D A:Nat} {a a':T Value} {s s':AS} {L:Array Bool} {act:Act} {w:World} {m:M ω} {γ:Nat->Nat} {i:Nat} {o:Oper} {ih:Fns}
theorem mem_unl {t:Tmp}:t∈unl ops D L↔∃ i o,ops[i]?=some o/\L.getD i false=false/\bitB D i=true/\o.dst=some t:=by
 unfold unl;rw [List.mem_filterMap];constructor
 ·rintro ⟨i,hi,h⟩
  cases hl:L.getD i false with
  | true=>rw [hl] at h;simp at h
  | false =>
   cases hD:bitB D i with
   | false=>rw [hl,hD] at h;simp at h
   | true =>
   rw [hl,hD] at h;simp only [Bool.not_true,Bool.or_self,Bool.false_eq_true,if_false] at h
   cases ho:ops[i]? with
   | none=>rw [ho] at h;cases h
   | some o=>rw [ho] at h;exact ⟨i,o,ho,hl,hD,h⟩
 ·rintro ⟨i,o,ho,hl,hD,hd⟩;refine ⟨i,List.mem_range.2 (aS.1 ho).1,?_⟩;rw [hl,hD,ho];simpa using hd
theorem get_putU (t:Tmp):∀ (ts:List Tmp),(putU a ts).get t=if t∈ts then some undef else a.get t
 | []=>by simp [putU]
 | u::ts=>by
  rw [putU,T.get_put,get_putU t ts];by_cases h:t=u
  ·rw [if_pos h,if_pos (by simp [h])]
  ·rw [if_neg h];by_cases h2:t∈ts
   ·rw [if_pos h2,if_pos (by simp [h2])]
   ·rw [if_neg h2,if_neg (by simp [h,h2])]
theorem actU_size:∀ (ts:List Tmp),(actU act ts).tmps.size=act.tmps.size
 | []=>rfl
 | t::ts=>by rw [actU];simp [Act.put,actU_size ts]
theorem actU_get (t:Tmp):∀ (ts:List Tmp),(actU act ts).tmps.getD t undef=if t∈ts then undef else act.tmps.getD t undef
 | []=>by simp [actU]
 | u::ts=>by
  rw [actU];show ((actU act ts).tmps.setIfInBounds u undef).getD t undef=_;by_cases hu:u<(actU act ts).tmps.size
  ·rw [getD_set _ _ _ _ hu,actU_get t ts];by_cases h:t=u
   ·rw [if_pos h,if_pos (by simp [h])]
   ·rw [if_neg h];by_cases h2:t∈ts
    ·rw [if_pos h2,if_pos (by simp [h2])]
    ·rw [if_neg h2,if_neg (by simp [h,h2])]
  ·have e:(actU act ts).tmps.setIfInBounds u undef=(actU act ts).tmps:=by
    apply Array.ext
    ·simp
    ·intro k h1 h2;rw [Array.getElem_setIfInBounds_ne (by simpa using h2) (by rintro rfl;exact hu h2)]
   rw [e,actU_get t ts];by_cases h:t=u
   ·subst h;rw [if_pos (show t∈t::ts by simp)];by_cases h2:t∈ts
    ·rw [if_pos h2]
    ·rw [if_neg h2];have:=actU_size (act:=act) ts;rw [this] at hu;simp [Array.getElem?_eq_none (Nat.le_of_not_lt hu)]
   ·by_cases h2:t∈ts
    ·rw [if_pos h2,if_pos (by simp [h2])]
    ·rw [if_neg h2,if_neg (by simp [h,h2])]
theorem masked (h:DInv C ops N B X0 D A a s L act w X m γ):TR m N (putU a (unl ops D L)) (actU act (unl ops D L)):=by
 refine ⟨by rw [actU_size];exact h.tsize,fun t=>?_⟩;rw [get_putU,actU_get];by_cases ht:t∈unl ops D L
 ·rw [if_pos ht,if_pos ht];exact undef_rel
 ·rw [if_neg ht,if_neg ht];refine h.tmps t fun i o hi hD hd=>?_
  cases hl:L.getD i false with
  | true=>rfl
  | false=>exact absurd (mem_unl.2 ⟨i,o,hi,hl,hD,hd⟩) ht
theorem ready_reads (hg:Good ops) (h:DInv C ops N B X0 D A a s L act w X m γ) (hi:ops[i]?=some o) (hp:∀ e∈o.after,Region.binds .any e=true->L.getD e.on false=true) {t:Tmp} (ht:.tmp t∈o.op.operands):t∉unl ops D L:=by
 intro hu;obtain ⟨j,oj,hj,hl,hD,hd⟩:=mem_unl.1 hu
 rcases hg.reads i j o oj t hi ht hj hd with ⟨e,he,hb,rfl⟩ | ⟨hlt,_⟩
 ·rw [hp e he hb] at hl;cases hl
 ·rw [h.must j (aS.1 hj).1 (h.late j oj hj hlt hD)] at hl;cases hl
theorem ready_agree (hg:Good ops) (h:DInv C ops N B X0 D A a s L act w X m γ) (hi:ops[i]?=some o) (hp:∀ e∈o.after,Region.binds .any e=true->L.getD e.on false=true):Agree o.op (putU a (unl ops D L)) a:=by
 intro x hx
 cases x with
 | tmp t =>
  show orUndef ((putU a (unl ops D L)).get t)=orUndef (a.get t);rw [get_putU,if_neg (ready_reads hg h hi hp hx)]
 | _=>rfl
theorem ready_exec (hg:Good ops) (h:DInv C ops N B X0 D A a s L act w X m γ) (hi:ops[i]?=some o) (hp:∀ e∈o.after,Region.binds .any e=true->L.getD e.on false=true):execOp act.eval o=execOp (actU act (unl ops D L)).eval o:=by
 refine execOp_congr o (fun cs b=>hg.nosel i o cs b hi) fun x hx=>?_
 cases x with
 | tmp t =>
  show act.tmps.getD t undef=(actU act (unl ops D L)).tmps.getD t undef;rw [actU_get,if_neg (ready_reads hg h hi hp hx)]
 | _ =>
  have:∀ ts,(actU act ts).eval=fun x=>match x with | .tmp t=>(actU act ts).tmps.getD t undef | x=>act.eval x:=by
   intro ts
   funext x
   cases x <;> rfl
  rw [this]
theorem bool_of {v:Value} {b:Bool} (h:VRel m v (.bool b)) (hc:isChan v=false):v=.bool b:=by
 generalize hy:Value.bool b=y at h
 cases h <;> first | (cases hc;done) | (cases hy;done) | rfl
theorem wanted_same {tm:Array Value} (hgb:guardB ops.toList o a=true) (hgd:∀ g b og t,o.guard=some (g,b)->ops[g]?=some og->og.dst=some t->VRel m ((a.get t).getD undef) (tm.getD t undef)) :
 Region.wanted o (yielded ops tm)=wantedB ops.toList o a:=by
 unfold Region.wanted wantedB
 cases hg:o.guard with
 | none=>rfl
 | some gb =>
  obtain ⟨g,b⟩:=gb;show (yielded ops tm g==some b)=wantedG ops.toList a (g,b)
  cases h1:ops[g]? with
  | none=>simp [wantedG,h1,yielded]
  | some og =>
  cases h2:og.dst with
  | none=>simp [wantedG,h1,h2,yielded]
  | some t =>
  have hv:=hgd g b og t hg h1 h2;simp only [wantedG,Array.getElem?_toList,h1,h2,yielded,Option.bind_some]
  cases hx:tm[t]? with
  | none =>
   have e:tm.getD t undef=undef:=by simp [hx]
   rw [e] at hv;simp only []
   split
   ·rename_i c hc;rw [hc] at hv;have:=bool_inv hv
    cases this
   ·rfl
  | some x =>
   have e:tm.getD t undef=x:=by simp [hx]
   rw [e] at hv;by_cases hb:∃ c,x=.bool c
   ·obtain ⟨c,rfl⟩:=hb
    have hc0:isChan ((a.get t).getD undef)=false:=by
     unfold guardB at hgb;rw [hg] at hgb;have hgb':guardG ops.toList a (g,b)=true:=hgb;simp only [guardG,Array.getElem?_toList,h1,h2] at hgb'
     cases ha:a.get t with
     | none=>rfl
     | some z=>rw [ha] at hgb';cases z <;> first | rfl | cases hgb'
    have:=bool_of hv hc0
    cases ha:a.get t with
    | none=>rw [ha] at this;cases this
    | some y =>
     rw [ha] at this;have hy:y=.bool c:=this;subst hy
     cases b <;> cases c <;> rfl
   ·cases x <;> first
     | (exact absurd ⟨_,rfl⟩ hb)
     | (
      dsimp only
      split
      ·rename_i c hc;rw [hc] at hv;exact absurd ⟨c,bool_inv hv⟩ hb
      ·rfl)
theorem ready_wanted (hg:Good ops) (h:DInv C ops N B X0 D A a s L act w X m γ) (hi:ops[i]?=some o) (hp:∀ e∈o.after,Region.binds .any e=true->L.getD e.on false=true) (hgb:guardB ops.toList o a=true):Region.wanted o (yielded ops act.tmps)=wantedB ops.toList o a:=by
 refine wanted_same (m:=m) hgb fun g b og t hgd h1 h2=>?_;obtain ⟨_,_,_,_,e,he,hb,rfl⟩:=hg.guards i g o b hi hgd;refine h.tmps t fun j oj hj _ hd=>?_;rw [hg.once j e.on oj og t hj h1 hd h2];exact hp e he hb
theorem getD_setB {L:Array Bool} {i j:Nat} (hi:i<L.size):(L.setIfInBounds i true).getD j false=if j=i then true else L.getD j false:=by
 by_cases h:j=i
 ·subst h;simp [hi]
 ·rw [if_neg h];simp only [Array.getD_eq_getD_getElem?,Array.getElem?_setIfInBounds_ne (fun e=>h e.symm)]
theorem put_get {d:Option Tmp} {v:Value} {t:Tmp} (ht:t<act.tmps.size):(act.put d v).tmps.getD t undef=if d=some t then v else act.tmps.getD t undef:=by
 cases d with
 | none=>simp [Act.put]
 | some u =>
  show (act.tmps.setIfInBounds u v).getD t undef=_;by_cases h:u=t
  ·subst h;simp [ht]
  ·rw [if_neg (fun e=>h (by cases e;rfl))];simp only [Array.getD_eq_getD_getElem?,Array.getElem?_setIfInBounds_ne h]
theorem put_get_ne {d:Option Tmp} {v:Value} {t:Tmp} (h:d≠some t):(act.put d v).tmps.getD t undef=act.tmps.getD t undef:=by
 cases d with
 | none=>rfl
 | some u =>
  show (act.tmps.setIfInBounds u v).getD t undef=_;simp only [Array.getD_eq_getD_getElem?,Array.getElem?_setIfInBounds_ne (show u≠t from fun e=>h (by rw [e]))]
theorem put_size {d:Option Tmp} {v:Value}:(act.put d v).tmps.size=act.tmps.size:=by cases d <;> simp [Act.put]
theorem put_defers {d:Option Tmp} {v:Value}:(act.put d v).defers=act.defers:=by cases d <;> rfl
theorem DInv.list (hg:Good ops) (h:DInv C ops N B X0 D A a s L act w X m γ) (hi:ops[i]?=some o) (hD:bitB D i=true) (hp:∀ e∈o.after,Region.binds .any e=true->L.getD e.on false=true)
 {X':Aux} {m':M ω} {w':World} {v':Value} (hle:Le m m') (hsr:SR B X' m' s w') (hK:X'.K=X.K) (hG:∀ b q,X0.G b=some q->X'.G b=some q) (hGγ:∀ j oj q f,AlAt C ops D a L j oj q f->j≠i->X'.G (γ j)=some q)
 (hv:∀ t,o.dst=some t->VRel m' ((a.get t).getD undef) v') (hb:Below B w w'):DInv C ops N B X0 D A a s (L.setIfInBounds i true) (act.put o.dst v') w' X' m' γ:=by
 have hlt:i<L.size:=by rw [h.size];exact (aS.1 hi).1
 have old:∀ {j:Nat} {oj:Oper} {q:AObj} {f:Nat->Value},AlAt C ops D a (L.setIfInBounds i true) j oj q f->AlAt C ops D a L j oj q f/\j≠i:=by
  rintro j oj q f ⟨h1,h2,h3,h4,h5⟩;rw [getD_setB hlt] at h3;by_cases hji:j=i
  ·rw [if_pos hji] at h3;cases h3
  ·rw [if_neg hji] at h3;exact ⟨⟨h1,h2,h3,h4,h5⟩,hji⟩
 refine ⟨by simpa using h.size,?_,?_,h.downD,?_,h.dstN,by rw [put_size];exact h.tsize,?_,hsr,hK.trans h.K,hG,?_,?_,h.hB.next hb,h.late⟩
 ·intro j hj;rw [getD_setB hlt] at hj;by_cases hji:j=i
  ·rw [hji];exact hD
  ·rw [if_neg hji] at hj;exact h.sub j hj
 ·intro j oj hj hl e he hbi;rw [getD_setB hlt] at hl ⊢;by_cases hee:e.on=i
  ·rw [if_pos hee]
  ·rw [if_neg hee];by_cases hji:j=i
   ·subst hji;rw [hi] at hj;cases hj;exact hp e he hbi
   ·rw [if_neg hji] at hl;exact h.down j oj hj hl e he hbi
 ·intro j hj hA;rw [getD_setB hlt];by_cases hji:j=i
  ·rw [if_pos hji]
  ·rw [if_neg hji];exact h.must j hj hA
 ·intro t hall;by_cases hd:o.dst=some t
  ·rw [put_get (by rw [h.tsize];exact h.dstN i o t hi hD hd),if_pos hd];exact hv t hd
  ·rw [put_get_ne hd];refine (h.tmps t fun j oj hj hjD hdj=>?_).mono hle;have:=hall j oj hj hjD hdj;rw [getD_setB hlt] at this;by_cases hji:j=i
   ·subst hji;rw [hi] at hj;cases hj;exact absurd hdj hd
   ·rwa [if_neg hji] at this
 ·intro j oj q f hj;obtain ⟨h1,h2⟩:=old hj;obtain ⟨k1,k2,k3⟩:=h.al j oj q f h1;exact ⟨hGγ j oj q f h1 h2,k2,k3⟩
 ·intro j k oj ok qj qk fj fk hj hk hne;exact h.inj j k oj ok qj qk fj fk (old hj).1 (old hk).1 hne
theorem free_step (hC:COK ω C) (hg:Good ops) (h:DInv C ops N B X0 D A a s L act w X m γ) (hver:verL C ops.toList D A a s ops.toList 0=true) (hi:ops[i]?=some o) (hD:bitB D i=true) (hL:L.getD i false=false)
 (hp:∀ e∈o.after,Region.binds .any e=true->L.getD e.on false=true) {q:Bool} {F:Fence} (hF:FOf q F) {n:Nat} {K:Act->World->Prop} {Q:Exit->Act->World->Prop}
 (hK:∀ act' w' X' m',DInv C ops N B X0 D A a s (L.setIfInBounds i true) act' w' X' m' γ->Le m m'->Below B w w'->act'.defers=act.defers->K act' w'):wpOpIn F n C.P ops Q i K act w:=by
 have hA:bitB A i=false:=by
  cases hb:bitB A i with
  | false=>rfl
  | true=>rw [h.must i (aS.1 hi).1 hb] at hL;cases hL
 have hv:=verL_spec hver i o (by simpa using hi) (by simpa using hD) (by simpa using hA);unfold verO at hv
 cases hgb:guardB ops.toList o a with
 | false=>rw [hgb] at hv;cases hv
 | true =>
 rw [hgb] at hv;simp only [cond_true] at hv;unfold wpOpIn;rw [hi];simp only [];rw [ready_wanted hg h hi hp hgb];have hT:=masked h
 cases hw:wantedB ops.toList o a with
 | false =>
  rw [hw] at hv;simp only [cond_false] at hv;rw [if_neg (by simp)];refine ⟨fun f _=>hF.fn f,hK _ _ X m (h.list hg hi hD hp (Le.refl _) h.sr rfl h.G (fun j oj q f hj _=>(h.al j oj q f hj).1) (fun t ht=>?_) (bR _ _)) (Le.refl _) (bR _ _) put_defers⟩;rw [dstIs_sound hv ht];exact undef_rel
 | true =>
  rw [hw] at hv;simp only [cond_true] at hv;rw [if_pos rfl]
  have hnd:∀ c,o.op≠.defer c:=by
   intro c hd;rw [hd] at hv;simp only [alOf,alNone,aop] at hv;rw [hd] at hv;simp only [aopK,opNone] at hv
   cases hv
  refine ⟨fun f _=>hF.fn f,?_⟩;rw [Oper.semAt_eq _ _ _ hnd,ready_exec hg h hi hp]
  cases hal:alOf o.op C a with
  | some al =>
   obtain ⟨p,f⟩:=al;obtain ⟨k1,k2,t,k3,k4⟩:=h.al i o p f ⟨hi,hD,hL,hw,hal⟩;obtain ⟨v',w1,inf,hr,e1,e2,e3,e4,e5,e6⟩:=al_new hC.ok hT h.hB.le (o:=o) (q:=p) (f:=f) (by rw [al_congr (ready_agree hg h hi hp)];exact hal);rw [hr];obtain ⟨g1,g2⟩:=real_sound h.sr k1 inf h.hB.le e1 e2 e3 e5;refine hK _ _ (X.del (γ i)) _ (h.list hg hi hD hp g2 g1 rfl (fun b x hx=>?_) (fun j oj x fx hj hji=>?_) (fun u hu=>?_) e4) g2 e4 put_defers
   ·show (if b=γ i then none else X.G b)=some x;rw [if_neg (fun e=>by rw [e,k2] at hx;cases hx)];exact h.G b x hx
   ·show (if γ j=γ i then none else X.G (γ j))=some x;rw [if_neg (h.inj j i oj o x p fx f hj ⟨hi,hD,hL,hw,hal⟩ hji)];exact (h.al j oj x fx hj).1
   ·rw [k3] at hu;cases hu;rw [k4];exact e6 _ _ (ext_same _ _ _)
  | none =>
   rw [hal] at hv;simp only at hv
   split at hv
   ·rename_i v s1 hao
    cases hst:stillB C o.op with
    | false=>rw [hst] at hv;cases hv
    | true =>
     rw [hst] at hv;simp only [cond_true] at hv;obtain ⟨rfl,_⟩:=still_same hst hal hao;have hsnd:=aop_sound hC.ok h.sr hT h.hB (o:=o) (by rw [aop_agree (ready_agree hg h hi hp)];exact hao);obtain ⟨nx,w',m',hr,hle,hs',hb,hrr⟩:=hsnd;rw [hr]
     cases nx <;> first | (exact hrr.elim;done) | skip
     rename_i v';refine hK _ _ X m' (h.list hg hi hD hp hle hs' rfl h.G (fun j oj q f hj _=>(h.al j oj q f hj).1) (fun t ht=>?_) hb) hle hb put_defers;rw [dstIs_sound hv ht];exact hrr
   ·cases hv
theorem DInv.both (hg:Good ops) (h:DInv C ops N B X0 D A a s L act w X m γ) (hi:ops[i]?=some o) (hiD:bitB D i=false) (hp:∀ e∈o.after,Region.binds .any e=true->L.getD e.on false=true)
 {v:Value} (ha:putA N a o.dst v=some a') {m':M ω} {w':World} {v':Value} (hle:Le m m') (hsr:SR B X m' s' w') (hv:VRel m' v v') (hb:Below B w w') :
 DInv C ops N B X0 (setB D i) (anc ops.toList ops.toList 0 (setB A i)) a' s' (L.setIfInBounds i true) (act.put o.dst v') w' X m' γ:=by
 have hput:=putA_inv ha
 have hlt:i<L.size:=by rw [h.size];exact (aS.1 hi).1
 have hdown:∀ j oj,ops[j]?=some oj->(L.setIfInBounds i true).getD j false=true->∀ e∈oj.after,Region.binds .any e=true->(L.setIfInBounds i true).getD e.on false=true:=by
  intro j oj hj hl e he hbi;rw [getD_setB hlt] at hl ⊢;by_cases hee:e.on=i
  ·rw [if_pos hee]
  ·rw [if_neg hee];by_cases hji:j=i
   ·subst hji;rw [hi] at hj;cases hj;exact hp e he hbi
   ·rw [if_neg hji] at hl;exact h.down j oj hj hl e he hbi
 have geta:∀ t,o.dst≠some t->a'.get t=a.get t:=by
  intro t ht
  rcases hput with ⟨_,rfl⟩ | ⟨u,hu,_,rfl⟩
  ·rfl
  ·rw [T.get_put,if_neg (fun e=>ht (by rw [e];exact hu))]
 have old:∀ {j:Nat} {oj:Oper} {q:AObj} {f:Nat->Value},AlAt C ops (setB D i) a' (L.setIfInBounds i true) j oj q f->AlAt C ops D a L j oj q f/\j≠i:=by
  rintro j oj q f ⟨h1,h2,h3,h4,h5⟩;rw [getD_setB hlt] at h3;by_cases hji:j=i
  ·rw [if_pos hji] at h3;cases h3
  ·rw [if_neg hji] at h3;have hjD:bitB D j=true:=(setB_inv h2).resolve_left hji;have hno:=no_edge h hiD h1 hjD;refine ⟨⟨h1,hjD,h3,?_,?_⟩,hji⟩
   ·rcases hput with ⟨_,rfl⟩ | ⟨t,ht,_,rfl⟩
    ·exact h4
    ·rwa [wanted_putA hg hi h1 hno ht v] at h4
   ·rcases hput with ⟨_,rfl⟩ | ⟨t,ht,_,rfl⟩
    ·exact h5
    ·rwa [al_congr (agree_put hg hi h1 hno (fun _ e he hb hh=>by rw [<-hh,hp e he hb] at h3;cases h3) ht v)] at h5
 refine ⟨by simpa using h.size,?_,hdown,?_,?_,?_,by rw [put_size];exact h.tsize,?_,hsr,h.K,h.G,?_,?_,h.hB.next hb,?_⟩
 ·intro j hj;rw [getD_setB hlt] at hj;by_cases hji:j=i
  ·rw [hji];exact setB_same _ _
  ·rw [if_neg hji] at hj;exact setB_old (h.sub j hj)
 ·intro j oj hj hjD e he hbi
  rcases setB_inv hjD with rfl | hjD
  ·rw [hi] at hj;cases hj;exact setB_old (h.sub _ (hp e he hbi))
  ·exact setB_old (h.downD j oj hj hjD e he hbi)
 ·intro j hj hA;refine anc_spec (all:=ops.toList) (fun j=>j<ops.size->(L.setIfInBounds i true).getD j false=true) ?_ (l:=ops.toList) (k:=0) (A:=setB A i) (fun i=>by simp) ?_ j hA hj
  ·intro j oj hj hS e he hbi hlt'
   have hj':ops[j]?=some oj:=by simpa using hj
   exact hdown j oj hj' (hS (aS.1 hj').1) e he hbi
  ·intro j hj hlt';rw [getD_setB hlt]
   rcases setB_inv hj with rfl | hj
   ·rw [if_pos rfl]
   ·by_cases hji:j=i
    ·rw [if_pos hji]
    ·rw [if_neg hji];exact h.must j hlt' hj
 ·intro j oj t hj hjD ht
  rcases setB_inv hjD with rfl | hjD
  ·rw [hi] at hj;cases hj
   rcases hput with ⟨e,_⟩ | ⟨u,hu,hlt,_⟩
   ·rw [ht] at e;cases e
   ·rw [ht] at hu;cases hu;exact hlt
  ·exact h.dstN j oj t hj hjD ht
 ·intro t hall;by_cases hd:o.dst=some t
  ·rcases hput with ⟨e,_⟩ | ⟨u,hu,hlt2,rfl⟩
   ·rw [hd] at e;cases e
   ·rw [hd] at hu;cases hu;rw [put_get (by rw [h.tsize];exact hlt2),if_pos hd,T.get_put,if_pos rfl];exact hv
  ·rw [put_get_ne hd,geta t hd];refine (h.tmps t fun j oj hj hjD hdj=>?_).mono hle;have:=hall j oj hj (setB_old hjD) hdj;rw [getD_setB hlt] at this;by_cases hji:j=i
   ·subst hji;rw [hi] at hj;cases hj;exact absurd hdj hd
   ·rwa [if_neg hji] at this
 ·intro j oj q f hj;obtain ⟨h1,h2⟩:=old hj;obtain ⟨k1,k2,t,k3,k4⟩:=h.al j oj q f h1;exact ⟨k1,k2,t,k3,by rw [geta t (fun e=>h2 (hg.once j i oj o t h1.1 hi k3 e))];exact k4⟩
 ·intro j k oj ok qj qk fj fk hj hk hne;exact h.inj j k oj ok qj qk fj fk (old hj).1 (old hk).1 hne
 ·intro j oj hj hl hjD;refine anc_sub ?_
  rcases setB_inv hjD with rfl | hjD
  ·exact setB_same _ _
  ·exact setB_old (h.late j oj hj hl hjD)
end
end Go.Proofs.YtenfkghoolegfaaGreatDoor.Ev
namespace Go.Proofs.YtenfkghoolegfaaGreatDoor.Ev
open Go.RowKit
variable {ω:Nat->Value}
def SndD (ω:Nat->Value) (C:Ctx) (ih:Fns):Prop:=∀ (N:Nat) (ops:Array Oper) (D A:Nat) (a:T Value) (s:AS) (af:T Value) (sf:AS),Good ops->ih.d N ops.toList D A a s=some (af,sf) ->
 ∀ (q:Bool) (F:Fence) (n:Nat) (Q:Exit->Act->World->Prop) (B:Nat) (X0:Aux) (L:Array Bool) (act:Act) (w:World) (X:Aux) (m:M ω) (γ:Nat->Nat) (fuel:Nat),FOf q F->DInv C ops N B X0 D A a s L act w X m γ->L.toList.count false<=fuel ->
 (∀ act' w' m',Le m m'->SR B X0 m' sf w'->TR m' N af act'->act'.defers=act.defers->Below B w w'->Q .normal act' w')->wpAnyIn F n C.P .any ops Q fuel L act w
def SndO (ω:Nat->Value) (C:Ctx) (ih:Fns):Prop:=∀ (N:Nat) (ops:Array Oper) (k:Nat) (os:List Oper) (a:T Value) (s:AS) (af:T Value) (sf:AS),(∀ i,os[i]?=ops[k+i]?)->ih.o N ops.toList os a s=some (af,sf) ->
 ∀ (q:Bool) (F:Fence) (n:Nat) (Q:Exit->Act->World->Prop) (B:Nat) (X:Aux) (m:M ω) (act:Act) (w:World),FOf q F->SR B X m s w->TR m N a act->Bs ω C B w ->
 (∀ act' w' m',Le m m'->SR B X m' sf w'->TR m' N af act'->act'.defers=act.defers->Below B w w'->Q .normal act' w')->wpOpsIn F n C.P ops Q ((List.range ops.size).drop k) act w
theorem readyL_mem {D:Nat}:∀ {l:List Oper} {k j:Nat},j∈readyL D l k->bitB D j=false/\∃ i,j=k+i/\i<l.length
 | [],_,_,h=>by simp [readyL] at h
 | o::os,k,j,h=>by
  have hrec:j∈readyL D os (k+1)->bitB D j=false/\∃ i,j=k+i/\i<(o::os).length:=fun h=>by
   obtain ⟨h1,i,h2,h3⟩:=readyL_mem h;exact ⟨h1,i+1,by omega,by simp;omega⟩
  simp only [readyL] at h
  cases hb:bitB D k with
  | true=>rw [hb] at h;exact hrec h
  | false =>
   rw [hb] at h;simp only [cond_false] at h
   cases hp:predsIn D o.after.toList with
   | false=>rw [hp] at h;exact hrec h
   | true =>
    rw [hp] at h
    rcases List.mem_cons.1 h with rfl | h
    ·exact ⟨hb,0,by omega,by simp⟩
    ·exact hrec h
theorem count_set {L:Array Bool} {i:Nat} (hi:i<L.size) (hL:L.getD i false=false):(L.setIfInBounds i true).toList.count false+1=L.toList.count false:=by
 rw [Array.toList_setIfInBounds,List.count_set (by simpa using hi)]
 have he:L.toList[i]'(by simpa using hi)=false:=by
  have:L.getD i false=L.toList[i]'(by simpa using hi):=by simp [hi]
  rw [<-this];exact hL
 have hpos:0<L.toList.count false:=List.count_pos_iff.2 (he ▸ List.getElem_mem _);rw [he];show L.toList.count false-(if (false==false)=true then 1 else 0)+(if (true==false)=true then 1 else 0)+1=_;rw [if_pos (by decide),if_neg (by decide)];omega
section
variable {C:Ctx} {ops:Array Oper} {N B:Nat} {X0 X:Aux} {D A:Nat} {a a':T Value} {s s':AS} {L:Array Bool} {act:Act} {w:World} {m:M ω} {γ:Nat->Nat} {ih:Fns}
theorem full (hg:Good ops) (hs:L.size=ops.size) (hr:Region.ready .any ops L=[]):∀ i,i<ops.size->L.getD i false=true:=by
 intro i
 induction i using Nat.strongRecOn with
 | _ i ih =>
  intro hi
  cases hl:L.getD i false with
  | true=>rfl
  | false =>
   exfalso;have ho:ops[i]?=some ops[i]:=Array.getElem?_eq_getElem hi
   have:i∈Region.ready .any ops L:=mem_ready.2 ⟨by rw [<-hl];simp [show i<L.size by omega],_,ho,fun e he hb=>by
    have:=hg.ahead i _ ho e he hb
    exact ih e.on this (by omega)⟩
   rw [hr] at this;cases this
theorem closed_sound (hC:COK ω C) (hc:SndC ω C ih) (hf:SndF ω C ih) (hd:SndD ω C ih) (hg:Good ops) {af:T Value} {sf:AS} (h:dMore C ih N ops.toList D A a s=some (af,sf)) {q:Bool} {F:Fence} (hF:FOf q F) {n:Nat} {Q:Exit->Act->World->Prop} :
 ∀ (fuel:Nat) (L:Array Bool) (act:Act) (w:World) (X:Aux) (m:M ω),DInv C ops N B X0 D A a s L act w X m γ->L.toList.count false<=fuel ->
 (∀ act' w' m',Le m m'->SR B X0 m' sf w'->TR m' N af act'->act'.defers=act.defers->Below B w w'->Q .normal act' w')->wpAnyIn F n C.P .any ops Q fuel L act w:=by
 unfold dMore at h
 cases hver:verL C ops.toList D A a s ops.toList 0 with
 | false=>rw [hver] at h;cases h
 | true =>
 rw [hver] at h;simp only [cond_true] at h
 have fin:∀ (L:Array Bool) (act:Act) (w:World) (X:Aux) (m:M ω),DInv C ops N B X0 D A a s L act w X m γ->(∀ i,i<ops.size->L.getD i false=true) ->
  (∀ act' w' m',Le m m'->SR B X0 m' sf w'->TR m' N af act'->act'.defers=act.defers->Below B w w'->Q .normal act' w')->Q .normal act w:=by
  intro L act w X m hI hall hQ
  have hres:(a,s)=(af,sf):=by
   split at h
   ·cases hdn:doneB D ops.toList 0 with
    | true=>rw [hdn] at h;cases h;rfl
    | false=>rw [hdn] at h;cases h
   ·rename_i j hj;obtain ⟨h1,i,h2,h3⟩:=readyL_mem (D:=D) (l:=ops.toList) (k:=0) (j:=j) (by rw [hj];simp);have:=hI.sub j (hall j (by simp at h3;omega));rw [h1] at this;cases this
   ·cases h
  cases hres
  refine hQ act w m (Le.refl _) (hI.sr.ghosts hI.G (fun r o hr=>by rw [hI.K];exact hr)) ⟨hI.tsize,fun t=>hI.tmps t fun i o hi _ _=>hall i (aS.1 hi).1⟩ rfl (bR _ _)
 intro fuel
 induction fuel with
 | zero =>
  intro L act w X m hI hcount hQ
  have hall:∀ i,i<ops.size->L.getD i false=true:=by
   intro i hi
   have hz:L.toList.count false=0:=by omega
   have hnm:=List.count_eq_zero.1 hz
   cases hl:L.getD i false with
   | true=>rfl
   | false =>
    have hi':i<L.size:=by rw [hI.size];exact hi
    exact absurd (by rw [<-hl];simp [hi']) hnm
  refine ⟨?_,fin L act w X m hI hall hQ⟩
  cases hr:Region.ready .any ops L with
  | nil=>rfl
  | cons i l =>
   exfalso;obtain ⟨h1,o,h2,_⟩:=mem_ready.1 (show i∈Region.ready .any ops L by rw [hr];simp);have h3:=hall i (aS.1 h2).1
   have hi':i<L.size:=by rw [hI.size];exact (aS.1 h2).1
   simp [hi'] at h1 h3;rw [h3] at h1;cases h1
 | succ fuel ihf =>
  intro L act w X m hI hcount hQ;refine ⟨fun hr=>fin L act w X m hI (full hg hI.size hr) hQ,fun i hi=>?_⟩;obtain ⟨h1,o,ho,hp⟩:=mem_ready.1 hi
  have hlt:i<L.size:=by rw [hI.size];exact (aS.1 ho).1
  have hL:L.getD i false=false:=by simp [hlt] at h1 ⊢;exact h1
  have hcnt:=count_set hlt hL
  cases hiD:bitB D i with
  | true =>
   refine free_step hC hg hI hver ho hiD hL hp hF fun act' w' X' m' hI' hle hb hdef=>?_;exact ihf _ act' w' X' m' hI' (by omega) fun act2 w2 m2 hle2 hs2 hT2 hd2 hb2=>hQ act2 w2 m2 (hle.trans hle2) hs2 hT2 (hd2.trans hdef) (hb.trans hb2)
  | false =>
   have hpD:predsIn D o.after.toList=true:=predsIn_iff.2 fun e he hb=>hI.sub _ (hp e (by simpa using he) hb);have hmem:=readyL_spec (D:=D) (l:=ops.toList) (k:=0) (i:=i) (o:=o) (by simpa using ho) (by simpa using hiD) hpD;rw [Nat.zero_add] at hmem
   split at h
   ·rename_i hj;rw [hj] at hmem;cases hmem
   ·rename_i j hj;rw [hj] at hmem
    have hij:i=j:=by simpa using hmem
    subst hij
    have ho':ops.toList[i]?=some o:=by simpa using ho
    rw [ho'] at h;simp only [dAct] at h
    cases hgw:(guardB ops.toList o a && wantedB ops.toList o a) with
    | false=>rw [hgw] at h;cases h
    | true =>
     rw [hgw] at h;rw [Bool.and_eq_true] at hgw;obtain ⟨hgb,hw⟩:=hgw;simp only [cond_true] at h
     split at h
     ·rename_i v s1 hact
      split at h
      ·rename_i a1 ha1;unfold wpOpIn;rw [ho];simp only [];rw [ready_wanted hg hI ho hp hgb,hw,if_pos rfl];refine act_sound hC hc hf hF hI.sr (masked hI) hI.hB (o:=o) (v:=v) (s':=s1) (by rw [aop_agree (ready_agree hg hI ho hp)];exact hact) (ready_exec hg hI ho hp) ?_;rintro v' w' ⟨m',hle,hs',hv,hb⟩;refine hd N ops _ _ _ _ af sf hg h q F n Q B X0 _ _ w' X m' γ fuel hF (hI.both hg ho hiD hp ha1 hle hs' hv hb) (by omega) ?_;intro act2 w2 m2 hle2 hs2 hT2 hd2 hb2;exact hQ act2 w2 m2 (hle.trans hle2) hs2 hT2 (hd2.trans put_defers) (hb.trans hb2)
      ·cases h
     ·cases h
   ·cases h
theorem drawn_sound (hC:COK ω C) (hc:SndC ω C ih) (hf:SndF ω C ih) (hd:SndD ω C ih):∀ (N:Nat) (ops:Array Oper) (D A:Nat) (a:T Value) (s:AS) (af:T Value) (sf:AS),Good ops->evD C ih N ops.toList D A a s=some (af,sf) ->
 ∀ (q:Bool) (F:Fence) (n:Nat) (Q:Exit->Act->World->Prop) (B:Nat) (X0:Aux) (L:Array Bool) (act:Act) (w:World) (X:Aux) (m:M ω) (γ:Nat->Nat) (fuel:Nat),FOf q F->DInv C ops N B X0 D A a s L act w X m γ->L.toList.count false<=fuel ->
 (∀ act' w' m',Le m m'->SR B X0 m' sf w'->TR m' N af act'->act'.defers=act.defers->Below B w w'->Q .normal act' w')->wpAnyIn F n C.P .any ops Q fuel L act w:=by
 intro N ops D A a s af sf hg h q F n Q B X0 L act w X m γ fuel hF hI hcount hQ;unfold evD at h
 split at h
 ·rename_i D1 a1 s1 hp;obtain ⟨X1,γ1,hI1⟩:=pass_sound hg (l:=ops.toList) (k:=0) (fun i=>by simp) hI hp;exact closed_sound hC hc hf hd hg h hF fuel L act w X1 m hI1 hcount hQ
 ·cases h
theorem TR.put (h:TR m N a act) {d:Option Tmp} {v v':Value} (hp:putA N a d v=some a') (hv:VRel m v v'):TR m N a' (act.put d v'):=by
 rcases putA_inv hp with ⟨rfl,rfl⟩ | ⟨t,rfl,ht,rfl⟩
 ·exact h
 ·refine ⟨by rw [put_size];exact h.size,fun k=>?_⟩;rw [T.get_put];by_cases hk:k=t
  ·rw [if_pos hk,hk,put_get (by rw [h.size];exact ht),if_pos rfl];exact hv
  ·rw [if_neg hk,put_get_ne (fun e=>hk (by cases e;rfl))];exact h.rel k
theorem ops_sound (hC:COK ω C) (hc:SndC ω C ih) (hf:SndF ω C ih) (ho:SndO ω C ih):∀ (N:Nat) (ops:Array Oper) (k:Nat) (os:List Oper) (a:T Value) (s:AS) (af:T Value) (sf:AS),(∀ i,os[i]?=ops[k+i]?)->evO C ih N ops.toList os a s=some (af,sf) ->
 ∀ (q:Bool) (F:Fence) (n:Nat) (Q:Exit->Act->World->Prop) (B:Nat) (X:Aux) (m:M ω) (act:Act) (w:World),FOf q F->SR B X m s w->TR m N a act->Bs ω C B w ->
 (∀ act' w' m',Le m m'->SR B X m' sf w'->TR m' N af act'->act'.defers=act.defers->Below B w w'->Q .normal act' w')->wpOpsIn F n C.P ops Q ((List.range ops.size).drop k) act w:=by
 intro N ops k os a s af sf hl h q F n Q B X m act w hF hs hT hB hQ
 cases os with
 | nil =>
  cases h
  have hk:ops.size<=k:=by
   have:=hl 0;simp at this;exact this
  rw [List.drop_eq_nil_of_le (by simpa using hk)];exact hQ act w m (Le.refl _) hs hT rfl (bR _ _)
 | cons o os =>
  have hk:ops[k]?=some o:=by have:=hl 0;simpa using this.symm
  have hlt:k<ops.size:=(aS.1 hk).1
  have hl':∀ i,os[i]?=ops[k+1+i]?:=fun i=>by have:=hl (i+1);rw [List.getElem?_cons_succ] at this;rw [this];congr 1;omega
  rw [List.drop_eq_getElem_cons (by simpa using hlt)];simp only [List.getElem_range,wpOpsIn,hk];have h':oStep C ih N ops.toList o os a s=some (af,sf):=h;unfold oStep at h'
  cases hgb:guardB ops.toList o a with
  | false=>rw [hgb] at h';cases h'
  | true =>
  rw [hgb] at h';simp only [cond_true] at h';have hw:Region.wanted o (yielded ops act.tmps)=wantedB ops.toList o a:=wanted_same (m:=m) hgb fun g b og t _ _ _=>hT.rel t;rw [hw]
  cases hwb:wantedB ops.toList o a with
  | false =>
   rw [hwb] at h';rw [if_neg (by simp)];have h2:oPut ih N ops.toList os o.dst undef a s=some (af,sf):=h';unfold oPut at h2
   cases hp:putA N a o.dst undef with
   | none=>rw [hp] at h2;cases h2
   | some a1 =>
    rw [hp] at h2;refine ⟨fun f _=>hF.fn f,ho N ops (k+1) os a1 s af sf hl' h2 q F n Q B X m _ w hF hs (hT.put hp undef_rel) hB ?_⟩;intro act2 w2 m2 hle2 hs2 hT2 hd2 hb2;exact hQ act2 w2 m2 hle2 hs2 hT2 (hd2.trans put_defers) hb2
  | true =>
   rw [hwb] at h';rw [if_pos rfl];have h2:oAct ih N ops.toList os o.dst a (actRes ih (aop C o a s))=some (af,sf):=h';unfold oAct at h2
   split at h2
   ·rename_i v s1 hact;refine act_sound hC hc hf hF hs hT hB hact rfl ?_;rintro v' w' ⟨m',hle,hs',hv,hb⟩;unfold oPut at h2
    cases hp:putA N a o.dst v with
    | none=>rw [hp] at h2;cases h2
    | some a1 =>
     rw [hp] at h2;refine ho N ops (k+1) os a1 s1 af sf hl' h2 q F n Q B X m' _ w' hF hs' ((hT.mono hle).put hp hv) (hB.next hb) ?_;intro act2 w2 m2 hle2 hs2 hT2 hd2 hb2;exact hQ act2 w2 m2 (hle.trans hle2) hs2 hT2 (hd2.trans put_defers) (hb.trans hb2)
   ·cases h2
def LoopAt (F:Fence) (n:Nat) (P:Program) (c:Code) (Q:Exit->Act->World->Prop) (a:Act) (w:World):Prop :=
 ∀ (b:Frame) (k:List Item) (cs:List Frame),b.roundOf=F.round->F.fn b.fn->F.room (cs.length+1+n) ->
  ∃ e a' w',Q e a' w'/\ArrivesIn (Machine.fenced P F) P (lone (b.atR a (.code c :: .inLoop c::k)) cs w) b k cs e a' w'
theorem LoopAt.loop {F:Fence} {n:Nat} {P:Program} {c:Code} {Q:Exit->Act->World->Prop} {a:Act} {w:World} (h:LoopAt F n P c Q a w):(Code.loop c).wpIn F n P Q a w:=by
 intro b k cs hro hb hr;obtain ⟨e,a',w',hq,harr⟩:=h b k cs hro hb hr;exact ⟨e,a',w',hq,.of_steps (.one (fenced_calm hb hr rfl) stepR_loop) harr⟩
theorem LoopAt.step {F:Fence} {n:Nat} {P:Program} {c:Code} {Q:Exit->Act->World->Prop} {a:Act} {w:World} (h:c.wpIn F n P (Exit.then (LoopAt F n P c Q) Q) a w):LoopAt F n P c Q a w:=by
 intro b k cs hro hb hr;obtain ⟨e,a₁,w₁,hq,harr⟩:=h b (.inLoop c::k) cs hro hb hr
 cases e with
 | normal =>
  obtain ⟨e₂,a₂,w₂,hq₂,harr₂⟩:=hq b k cs hro hb hr;exact ⟨e₂,a₂,w₂,hq₂,.of_steps (StepsIn.trans harr (.one (fenced_calm hb hr rfl) stepR_inLoop)) harr₂⟩
 | exit id=>exact ⟨_,a₁,w₁,hq,.pass (x:=.inLoop c) rfl (fun _ _=>.inl (by simp)) harr⟩
 | goto l=>exact ⟨_,a₁,w₁,hq,.pass (x:=.inLoop c) rfl (fun _ _=>.inl (by simp)) harr⟩
 | ret=>exact ⟨_,a₁,w₁,hq,.pass (x:=.inLoop c) rfl (fun _ _=>.inl (by simp)) harr⟩
 | panic ch=>exact ⟨_,a₁,w₁,hq,.pass (x:=.inLoop c) rfl (fun _ _=>.inl (by simp)) harr⟩
 | outgrown=>exact ⟨_,a₁,w₁,hq,.pass (x:=.inLoop c) rfl (fun _ _=>.inl (by simp)) harr⟩
def SndL (ω:Nat->Value) (C:Ctx) (ih:Fns):Prop:=∀ q N c a s x a' s',ih.c q N (.loop c) a s=some (x,a',s')->∀ (B:Nat) (X:Aux) (m:M ω) (act:Act) (w:World) (F:Fence) (n:Nat) (K0:Nat->Option Obj),
 FOf q F->SR B X m s w->TR m N a act->MK K0 X.K act.defers->Bs ω C B w->LoopAt F n C.P c (PostC B X m N x a' s' w K0) act w
theorem PostC.back {x:Xt} {K0:Nat->Option Obj} {e:Exit} {act':Act} {w1 w':World} {X1:Aux} {m1:M ω} (h:PostC B X1 m1 N x a' s' w1 K0 e act' w') (hG:X1.G=X.G) (hle:Le m m1) (hb:Below B w w1):PostC B X m N x a' s' w K0 e act' w':=by
 obtain ⟨he,X2,m2,h1,h2,h3,h4,h5,h6⟩:=h;exact ⟨he,X2,m2,h1.trans hG,h2,hle.trans h3,h4,h5,hb.trans h6⟩
end
end Go.Proofs.YtenfkghoolegfaaGreatDoor.Ev
namespace Go.Proofs.YtenfkghoolegfaaGreatDoor.Ev
open Go.RowKit
variable {ω:Nat->Value}
section
variable {C:Ctx} {N B:Nat} {X:Aux} {a a':T Value} {s s':AS} {act:Act} {w:World} {m:M ω} {ih:Fns}
theorem SR.drew (h:SR B X m s w):SR B X m s {w with drawn:=w.drawn+1}:=⟨fun b o i h1 h2 h3=>by
 obtain ⟨k1,k2,k3⟩:=h.rel b o i h1 h2 h3;exact ⟨k1.other rfl,k2,k3⟩,h.inj,h.freshH,h.freshM,h.gh,h.kp,h.lt⟩
theorem region_sound (ho:SndO ω C ih) {ops:Array Oper} {id:Nat} {x:Xt} {q:Bool} (h:kRegion ops C ih q N a s=some (x,a',s')) {F:Fence} {n:Nat} {K0:Nat->Option Obj} (hF:FOf q F) (hs:SR B X m s w) (hT:TR m N a act) (hM:MK K0 X.K act.defers) (hB:Bs ω C B w) :
 (Code.region id ops false).wpIn F n C.P (PostC B X m N x a' s' w K0) act w:=by
 unfold kRegion at h
 split at h
 ·rename_i a1 s1 h1
  cases h
  refine wpIn_region ?_
  have:=ho N ops 0 ops.toList a s a' s' (fun i=>by simp) h1 q F n (PostC B X m N .normal a' s' w K0) B X m act w hF hs hT hB fun act' w' m' hle hs' hT' hd hb=>⟨rfl,X,m',rfl,by rw [hd];exact hM,hle,hs',hT',hb⟩
  rwa [List.drop_zero] at this
 ·cases h
theorem drawnRegion_sound (hC:COK ω C) (hd:SndD ω C ih) {ops:Array Oper} {id:Nat} {x:Xt} {q:Bool} (h:kDrawn ops C ih q N a s=some (x,a',s')) {F:Fence} {n:Nat} {K0:Nat->Option Obj} (hF:FOf q F) (hs:SR B X m s w) (hT:TR m N a act) (hM:MK K0 X.K act.defers) (hB:Bs ω C B w) :
 (Code.region id ops true).wpIn F n C.P (PostC B X m N x a' s' w K0) act w:=by
 unfold kDrawn at h
 cases hok:okD ops.toList with
 | false=>rw [hok] at h;cases h
 | true =>
  rw [hok] at h;simp only [cond_true] at h
  split at h
  ·rename_i a1 s1 h1
   cases h
   have hg:=good_of hok;refine wpIn_region_any hC.mixed ?_
   have hL:∀ i,(Array.replicate ops.size false).getD i false=false:=fun i=>by
    by_cases hi:i<ops.size <;> simp [hi]
   refine hd N ops 0 0 a s a' s' hg h1 q F n _ B X _ act _ X m (fun i=>i) ops.size hF ⟨by simp,fun i hi=>?_,fun i o _ hi=>?_,fun i o _ hi=>?_,fun i _ hi=>?_,fun i o t _ hi=>?_,hT.size,fun t _=>hT.rel t,hs.drew,rfl,fun _ _ h=>h,?_,?_,hB.next ((bR B w).drew),fun i o _ _ hi=>by rw [bitB_zero] at hi;cases hi⟩ ?_ ?_
   ·rw [hL] at hi;cases hi
   ·rw [hL] at hi;cases hi
   ·rw [bitB_zero] at hi;cases hi
   ·rw [bitB_zero] at hi;cases hi
   ·rw [bitB_zero] at hi;cases hi
   ·rintro i o p f ⟨_,hi,_⟩;rw [bitB_zero] at hi;cases hi
   ·rintro i j oi oj qi qj fi fj ⟨_,hi,_⟩;rw [bitB_zero] at hi;cases hi
   ·simp
   ·intro act' w' m' hle hs' hT' hdd hb;exact ⟨rfl,X,m',rfl,by rw [hdd];exact hM,hle,hs',hT',((bR B w).drew).trans hb⟩
  ·cases h
theorem SR.keep (h:SR B X m s w) {r:Nat} {o:Obj} (hr:w.heap[r]?=some o) (hB:B<=r) (hm:∀ b i,m b=some i->i.r≠r):SR B ⟨X.G,fun k=>if k=r then some o else X.K k⟩ m s w :=
 ⟨h.rel,h.inj,h.freshH,h.freshM,h.gh,fun k p hk=>by
  have hk':(if k=r then some o else X.K k)=some p:=hk;by_cases e:k=r
  ·rw [if_pos e] at hk';cases hk';rw [e];exact ⟨hr,hB,hm⟩
  ·rw [if_neg e] at hk';exact h.kp k p hk',h.lt⟩
theorem SR.besides (h:SR B X m s w) (hB:B<=w.heap.size) (o:Obj):SR B ⟨X.G,fun k=>if k=w.heap.size then some o else X.K k⟩ m s (w.alloc o):=by
 have h1:SR B X m s (w.alloc o):=⟨fun b p i h1 h2 h3=>by
  obtain ⟨k1,k2,k3⟩:=h.rel b p i h1 h2 h3
  exact ⟨k1.other (Below.heap_alloc w _ _ k3),k2,by simp;omega⟩,h.inj,h.freshH,h.freshM,h.gh,fun r p hr=>by
  obtain ⟨k1,k2,k3⟩:=h.kp r p hr
  exact ⟨by rw [Below.heap_alloc w _ _ (aS.1 k1).1];exact k1,k2,k3⟩,fun b i hi=>by have:=h.lt b i hi;simp;omega⟩
 exact h1.keep (heap_alloc_new w o) hB (fun b i hi=>by have:=h.lt b i hi;omega)
theorem marks_sound {fn:Func} {tm:Array Value} {R:Ending->World->Prop} {n:Nat} {K0:Nat->Option Obj} {G:Nat->Option AObj} {v:Value} (hres:∀ w',SR B ⟨G,K0⟩ m s w'->Below B w w'->∃ v',(results fn tm).run C.P w'=.ok v' w'/\R (.returned v') w') :
 ∀ {K:Nat->Option Obj} {ds:List Deferred},MK K0 K ds->∀ w',SR B ⟨G,K⟩ m s w'->Below B w w'->LeavesInM Fence.wide n C.P fn tm R ds .returning w':=by
 intro K ds h
 induction h with
 | nil=>exact fun w' hs hb=>hres w' hs hb
 | cons D K ds _ hD ih =>
  intro w' hs hb;obtain ⟨h1,h2,h3⟩:=hs.kp D (.deferred (some [])) (by simp);have hlt:D<w'.heap.size:=(aS.1 h1).1;refine ⟨by simp,.inl ⟨D,_,rfl,run_takeDeferred h1,ih _ ?_ (hb.trans ⟨rfl,rfl,rfl,by simp [World.putObj],fun k hk=>World.putObj_heap_other (by omega)⟩)⟩⟩;refine ⟨fun b o i k1 k2 k3=>?_,hs.inj,hs.freshH,hs.freshM,hs.gh,fun r o hr=>?_,fun b i hi=>by simp [World.putObj];exact hs.lt b i hi⟩
  ·obtain ⟨e1,e2,e3⟩:=hs.rel b o i k1 k2 k3;exact ⟨e1.other (World.putObj_heap_other (h3 b i k3)),e2,by simp [World.putObj];exact e3⟩
  ·have hne:r≠D:=fun e=>by
    have hr':K r=some o:=hr;rw [e,hD] at hr';cases hr'
   obtain ⟨e1,e2,e3⟩:=hs.kp r o (by show (if r=D then _ else K r)=some o;rw [if_neg hne];exact hr);exact ⟨by rw [World.putObj_heap_other hne];exact e1,e2,e3⟩
theorem resOf_sound (hC:CtxOK ω C) (hs:SR B X m s w) (hT:TR m N a act):∀ {rs:List ResultVar} {l:List Value},resOf C s a rs=some l ->
 ∃ l',LRel m l l'/\(rs.mapM (m:=Sem) fun | .tmp t=>pure (act.tmps.getD t undef) | .cell p t=>do loadVar t (<-asAddr (act.tmps.getD p undef))).run C.P w=.ok l' w
 | [],l,h=>by cases h;exact ⟨[],LRel.nil m,by simp⟩
 | .tmp t::rs,l,h=>by
  simp only [resOf] at h
  split at h
  ·rename_i l1 h1
   cases h
   obtain ⟨l',hl,hr⟩:=resOf_sound hC hs hT h1;refine ⟨_,LRel.cons (hT.rel t) hl,?_⟩;simp only [List.mapM_cons,Sem.run_bind,Sem.run_pure,Result.andThen,hr]
  ·cases h
 | .cell p t::rs,l,h=>by
  simp only [resOf] at h
  split at h
  ·rename_i ad had;have hv:=hT.rel p;rw [had] at hv;obtain ⟨ad',hA,hpe⟩:=ptr_inv hv
   have haddr:(asAddr (act.tmps.getD p undef)).run C.P w=.ok ad' w:=by rw [hpe];simp [asAddr]
   split at h
   ·rename_i k l1 hag hsz h1
    split at h
    ·rename_i cs hcs
     cases h
     obtain ⟨l',hl,hr⟩:=resOf_sound hC hs hT h1;obtain ⟨i,hi,rfl⟩:=sizeT_sound hC hsz;obtain ⟨q,e1,e2,e3⟩:=readN_sound hs hcs hA;have hlc:=run_loadCells_list (P:=C.P) w ad' q e3;rw [e2] at hlc
     have hload:(loadVar t ad').run C.P w=.ok (.agg q.toArray) w:=by simp [loadVar,isAgg_sound hC hag,sizeOf,typeInfo,hi,hlc]
     refine ⟨_,LRel.cons e1.agg hl,?_⟩;simp only [List.mapM_cons,Sem.run_bind,haddr,hload,Sem.run_pure,Result.andThen,hr]
    ·cases h
   ·rename_i l1 hag h1
    split at h
    ·rename_i v hcs
     cases h
     obtain ⟨l',hl,hr⟩:=resOf_sound hC hs hT h1;obtain ⟨q,e1,e2,e3⟩:=readN_sound hs hcs hA
     match q,e2,e1,e3 with
     | [v'],_,e1,e3 =>
      have hcell:=e3 0 v' rfl
      have he:ad'.add 0=ad':=by simp [Addr.add]
      rw [he] at hcell
      have hload:(loadVar t ad').run C.P w=.ok v' w:=by simp [loadVar,isAgg_sound hC hag,load,Sem.run,hcell]
      refine ⟨_,LRel.cons e1.tail.1 hl,?_⟩;simp only [List.mapM_cons,Sem.run_bind,haddr,hload,Sem.run_pure,Result.andThen,hr]
    ·cases h
   ·cases h
  ·cases h
end
end Go.Proofs.YtenfkghoolegfaaGreatDoor.Ev
namespace Go.Proofs.YtenfkghoolegfaaGreatDoor.Ev
open Go.RowKit
variable {ω:Nat->Value}
section
variable {C:Ctx} {N B:Nat} {X:Aux} {a a':T Value} {s s':AS} {act:Act} {w:World} {m:M ω} {ih:Fns}
def packL:List Value->Value
 | [v]=>v
 | l=>.tuple l.toArray
theorem results_sound (hC:CtxOK ω C) (hs:SR B X m s w) (hT:TR m N a act) {fn:Func} {l:List Value} (h:resOf C s a fn.results.toList=some l) :
 ∃ v',(results fn act.tmps).run C.P w=.ok v' w/\VRel m (packL l) v':=by
 obtain ⟨l',hl,hr⟩:=resOf_sound hC hs hT h
 have hm:(fn.results.mapM (m:=Sem) fun | .tmp t=>pure (act.tmps.getD t undef) | .cell p t=>do loadVar t (<-asAddr (act.tmps.getD p undef))).run C.P w=.ok l'.toArray w:=by
  rw [Array.mapM_eq_mapM_toList,Sem.run_map];exact congrArg (fun r:Result (List Value)=>r.andThen fun a w'=>.ok a.toArray w') hr
 refine ⟨if h:l'.toArray.size=1 then l'.toArray[0] else .tuple l'.toArray,?_,?_⟩
 ·unfold results;rw [Sem.run_bind];exact congrArg (fun r:Result (Array Value)=>r.andThen fun vs w=>.ok (if h:vs.size=1 then vs[0] else .tuple vs) w) hm
 ·clear h hr hm
  match l,l',hl with
  | [],[],hl=>exact LRel.tuple hl
  | [v],[v'],hl=>exact hl.tail.1
  | [],_::_,hl=>exact absurd hl.1 (by simp)
  | _::_,[],hl=>exact absurd hl.1 (by simp)
  | [_],_::_::_,hl=>exact absurd hl.1 (by simp)
  | _::_::_,[_],hl=>exact absurd hl.1 (by simp)
  | u::v::l,u'::v'::l',hl=>rw [dif_neg (by simp)];exact LRel.tuple hl
theorem args_TR {vs:List Value} {args:Array Value} (hl:LRel m vs args.toList) {k:Nat} (hk:vs.length<=k):TR m k (T.ofList vs 0 .leaf) {tmps:=args++Array.replicate (k-args.size) undef,defers:=[]}:=by
 have hsz:args.size=vs.length:=by have:=hl.1;simpa using this.symm
 refine ⟨by simp;omega,fun t=>?_⟩;rw [T.get_ofList];by_cases ht:t<vs.length
 ·rw [if_pos (by omega)]
  have h1:vs[t-0]?=some vs[t]:=by simp [ht]
  have h2:args.toList[t]?=some (args.toList[t]'(by simp;omega)):=gE (by simp;omega)
  have h3:(args++Array.replicate (k-args.size) undef).getD t undef=args.toList[t]'(by simp;omega):=by
   simp [Array.getElem?_append,show t<args.size by omega]
  rw [h1];show VRel m vs[t] ((args++Array.replicate (k-args.size) undef).getD t undef);rw [h3];exact hl.2 t _ _ (gE ht) h2
 ·rw [if_neg (by omega)];have hg:(T.leaf:T Value).get t=none:=rfl
  have h3:(args++Array.replicate (k-args.size) undef).getD t undef=undef:=by
   by_cases h4:t<args.size+(k-args.size)
   ·simp [Array.getElem?_append,show ¬ t<args.size by omega,Array.getElem?_replicate]
    split <;> rfl
   ·simp [Array.getElem?_append,show ¬ t<args.size by omega,Array.getElem?_replicate]
    split <;> rfl
  rw [hg];show VRel m undef ((args++Array.replicate (k-args.size) undef).getD t undef);rw [h3];exact undef_rel
theorem fun_sound (hC:COK ω C) (hc:SndC ω C ih):SndF ω C ⟨ih.c,ih.o,ih.d,evF C ih⟩:=by
 intro g vs s v s' h B X m w args hs hl hB;have h':evF C ih g vs s=some (v,s'):=h;unfold evF at h'
 cases hsp:C.sp g with
 | some k =>
  rw [hsp] at h';exact ⟨hC.sp g k hsp vs s v s' h' B X m w args hs hl hB,fun e=>by cases e⟩
 | none =>
  rw [hsp] at h';simp only at h'
  split at h'
  ·rename_i fn hfn
   split at h'
   ·rename_i b hb
    cases hle:Nat.ble vs.length fn.ntmps with
    | false=>rw [hle] at h';cases h'
    | true =>
     rw [hle] at h';simp only [cond_true] at h';have hle':=Nat.le_of_ble_eq_true hle;have he:∀ args w,(callFunc g args).run C.P w=.ok (.enter g args) w:=hC.ok.call g fn hfn (by rw [hb];rfl)
     have key:∀ n,CallsIn Fence.wide n C.P g args w (Ret B X m s' w v):=by
      intro n;refine callsIn_of_wp_marks (hC.ok.fn g fn hfn) hb trivial ?_
      cases hx:ih.c false fn.ntmps b (T.ofList vs 0 .leaf) s with
      | none=>rw [hx] at h';cases h'
      | some p =>
       obtain ⟨x,a1,s1⟩:=p;rw [hx] at h'
       have hnx:∀ id,x≠.exit id:=by rintro id rfl;cases h'
       have hpk:∀ {o:Option (Value × AS)},(match resOf C s1 a1 fn.results.toList with | some [v]=>some (v,s1) | some l=>some (.tuple l.toArray,s1) | none=>none)=o->o=some (v,s')->∃ l,resOf C s1 a1 fn.results.toList=some l/\s1=s'/\v=packL l:=by
        intro o ho h';subst ho
        split at h'
        ·rename_i u hu;cases h';exact ⟨_,hu,rfl,rfl⟩
        ·rename_i l hnl hu
         cases h'
         refine ⟨l,hu,rfl,?_⟩
         match l with
         | []=>rfl
         | [u]=>exact absurd rfl (hnl u)
         | _::_::_=>rfl
        ·cases h'
       have hres:∃ l,resOf C s1 a1 fn.results.toList=some l/\s1=s'/\v=packL l:=by
        cases x with
        | exit id=>exact absurd rfl (hnx id)
        | normal=>exact hpk rfl h'
        | ret=>exact hpk rfl h'
       obtain ⟨l,hl1,rfl,rfl⟩:=hres;refine wpIn_mono (hc false _ _ _ _ _ _ _ hx B X m _ w Fence.wide n X.K (.inl ⟨rfl,rfl⟩) hs (args_TR hl hle') .nil hB) ?_;rintro e act' w' ⟨rfl,X1,m1,hG,hM,hle1,hs1,hT1,hb1⟩
       have fin:LeavesInM Fence.wide n C.P fn act'.tmps (Ret B X m s1 w (packL l)) act'.defers .returning w':=by
        refine marks_sound (C:=C) (w:=w) (v:=undef) (K0:=X.K) (G:=X.G) (s:=s1) (m:=m1) ?_ hM w' (by have h0:=hs1;obtain ⟨G1,K1⟩:=X1;simp only at hG;rw [hG] at h0;exact h0) hb1;intro w2 hs2 hb2;obtain ⟨v',hr,hv⟩:=results_sound hC.ok hs2 hT1 hl1;exact ⟨v',hr,v',rfl,m1,hle1,hs2,hv,hb2⟩
       cases x with
       | normal=>exact fin
       | ret=>exact fin
       | exit id=>exact absurd rfl (hnx id)
     exact ⟨calls_ok (he args w) key,fun _=>⟨he,key⟩⟩
   ·cases h'
  ·cases h'
theorem range_sound' (hc:SndC ω C ih) (hf:SndF ω C ih) {g:Operand} {ps:Array Tmp} {asg bd:Code} {x:Xt} {q:Bool} (h:kRange g ps asg bd C ih q N a s=some (x,a',s')) {F:Fence} {n:Nat} {K0:Nat->Option Obj} (hF:FOf q F) (hs:SR B X m s w) (hT:TR m N a act) (hM:MK K0 X.K act.defers) (hBs:Bs ω C B w) :
 (Code.rangeFunc g ps asg bd).wpIn F n C.P (PostC B X m N x a' s' w K0) act w:=by
 have hB:=hBs.le;unfold kRange at h
 cases q with
 | true=>cases h
 | false =>
 simp only [cond_false] at h
 obtain ⟨_,rfl⟩ | ⟨e,_⟩:=hF
 ·split at h
  ·rename_i gf fs cs hg
   cases hcond:(Nat.beq fs.size 0 && (C.sp gf).isNone) with
   | false=>rw [hcond] at h;cases h
   | true =>
    rw [hcond] at h;simp only [cond_true] at h;rw [Bool.and_eq_true] at hcond;have hfs:fs.size=0:=bE hcond.1
    have hsp:C.sp gf=none:=by simpa using hcond.2
    obtain ⟨fs',cs',hev,hfl,hcl⟩:=func_inv (oS hT hg)
    have hfs':fs'=#[]:=by
     have:=hfl.1;simp at this;exact Array.eq_empty_of_size_eq_zero (by omega)
    subst hfs'
    split at h
    ·rename_i v1 s1 hcall;refine wpIn_rangeFunc ?_;intro fn _
     obtain ⟨rec,hrec⟩:∃ rec:Loop,rec={state:=.ready,pending:=none,fn,tmps:=act.tmps,params:=ps,assign:=asg,body:=bd,defers:=w.heap.size}:=⟨_,rfl⟩
     have hs0:=hs.besides hB (.deferred (some []))
     have hB0:B<=(w.alloc (.deferred (some []))).heap.size:=by simp;omega
     obtain ⟨hs1,hle1⟩:=new_sound (w1:=(w.alloc (.deferred (some []))).alloc (.loop rec)) hs0 (.loop a N ps.toList asg bd .ready) ⟨(w.alloc (.deferred (some []))).heap.size,0,0,0,false,0⟩ hB0 rfl (by simp) (fun k hk=>Below.heap_alloc _ _ k hk)
      ⟨rec,heap_alloc_new _ _,by rw [hrec],by rw [hrec],by rw [hrec],by rw [hrec];exact hT.size,by rw [hrec];exact ⟨rfl,rfl⟩,fun k=>by rw [hrec];exact hT.rel k⟩
     have hb1:Below B w ((w.alloc (.deferred (some []))).alloc (.loop rec)):=((bR B w).alloc hB _).alloc (by simp;omega) _;have hB1:=hBs.next hb1
     have hargs:LRel (ext m s.n ⟨(w.alloc (.deferred (some []))).heap.size,0,0,0,false,0⟩) (.func (.yield s.n) #[] #[]::cs.toList) (#[Value.func (.yield (w.alloc (.deferred (some []))).heap.size) #[] #[]]++cs').toList:=by
      simp only [Array.toList_append,List.singleton_append];exact LRel.cons (.yield s.n _ (ext_same _ _ _)) (hcl.mono hle1)
     obtain ⟨he,hcalls⟩:=(hf _ _ _ _ _ hcall B _ _ _ _ hs1 hargs hB1).2 hsp
     have hsize:(w.alloc (.deferred (some []))).heap.size=w.heap.size+1:=by simp
     rw [hsize] at hcalls hle1;generalize hW1:(w.alloc (.deferred (some []))).alloc (.loop rec)=W1 at hs1 hb1 hB1 hcalls;refine ⟨w.heap.size+1,[{target:=.collected w.heap.size,args:=#[]}],W1,{target:=.fn (.func gf) cs',args:=#[.func (.yield (w.heap.size+1)) #[] #[]]},W1,gf,#[.func (.yield (w.heap.size+1)) #[] #[]]++cs',W1,?_,?_,?_,?_,?_,?_⟩
     ·rw [<-hW1,hrec];exact run_enterLoop_outer _ _ _ _ _
     ·simp only [resolve,hev];simp [go_sem]
     ·intro f' _;trivial
     ·simp [invoke,go_sem,he]
     ·intro e;cases e
     ·refine (hcalls (n-1)).mono ?_;rintro e w2 ⟨v2,rfl,m2,hle2,hs2,hv2,hb2⟩;have hi2:=hle2 _ _ (ext_same m s.n ⟨w.heap.size+1,0,0,0,false,0⟩);have hleA:Le m m2:=hle1.trans hle2
      have hMK:MK K0 (fun k=>if k=w.heap.size then some (.deferred (some [])) else X.K k) ({target:=.collected w.heap.size,args:=#[]} :: act.defers) :=
       .cons w.heap.size X.K _ hM (by
        cases hk:X.K w.heap.size with
        | none=>rfl
        | some o =>
         have:=(hs.kp _ _ hk).1
         exact absurd (aS.1 this).1 (by omega))
      have over:∀ {t:T Value} {nt:Nat} {ps1:List Tmp} {as1 bd1:Code} {st:LSt},s1.h.get s.n=some (.loop t nt ps1 as1 bd1 st)->∃ r:Loop,w2.heap[w.heap.size+1]?=some (.loop r)/\st.is r /\
       SR B ⟨X.G,fun k=>if k=w.heap.size then some (.deferred (some [])) else X.K k⟩ m2 ⟨s1.n,s1.h.put s.n .dead⟩ (w2.putObj (w.heap.size+1) (.loop {r with state:=.exhausted}))/\Below B w (w2.putObj (w.heap.size+1) (.loop {r with state:=.exhausted})):=by
       intro t nt ps1 as1 bd1 st hg1;obtain ⟨⟨r,h0,_,_,_,_,h5,_⟩,hBi,hlt⟩:=hs2.rel _ _ _ hg1 rfl hi2;have hup:=upd_sound (o':=.dead) (w1:=w2.putObj (w.heap.size+1) (.loop {r with state:=.exhausted})) hs2 hg1 rfl hi2 (by simp [World.putObj]) (fun k hk=>World.putObj_heap_other (by simpa using hk)) trivial;exact ⟨r,h0,h5,hup,(hb1.trans hb2).trans ⟨rfl,rfl,rfl,by simp [World.putObj],fun k hk=>World.putObj_heap_other (by omega)⟩⟩
      split at h
      ·rename_i t nt ps1 as1 bd1 hg1
       cases h
       obtain ⟨r,h0,hst,hsr,hbl⟩:=over hg1;refine ⟨none,w2.putObj (w.heap.size+1) (.loop {r with state:=.exhausted}),?_,rfl,⟨X.G,fun k=>if k=w.heap.size then some (.deferred (some [])) else X.K k⟩,m2,rfl,hMK,hleA,hsr,⟨(hT.mono hleA).size,(hT.mono hleA).rel⟩,hbl⟩;have:=run_endLoop (P:=C.P) h0 (by rw [hst.1];simp);rw [this,hst.2]
      ·rename_i t nt ps1 as1 bd1 c hg1;obtain ⟨r,h0,hst,hsr,hbl⟩:=over hg1;refine ⟨some c,w2.putObj (w.heap.size+1) (.loop {r with state:=.exhausted}),?_,?_⟩
       ·have:=run_endLoop (P:=C.P) h0 (by rw [hst.1];simp);rw [this,hst.2]
       ·refine wpIn_mono (hc false _ _ _ _ _ _ _ h B ⟨X.G,fun k=>if k=w.heap.size then some (.deferred (some [])) else X.K k⟩ m2 _ _ Fence.wide n K0 (.inl ⟨rfl,rfl⟩) hsr ⟨(hT.mono hleA).size,(hT.mono hleA).rel⟩ hMK (hBs.next hbl)) ?_;intro e2 act3 w3 hp;exact hp.back rfl hleA hbl
      ·cases h
    ·cases h
  ·cases h
 ·cases e
theorem code_sound (hC:COK ω C) (hc:SndC ω C ih) (hf:SndF ω C ih) (ho:SndO ω C ih) (hd:SndD ω C ih) (hl:SndL ω C ih):∀ q N c a s x a' s',evC C ih q N c a s=some (x,a',s')->∀ (B:Nat) (X:Aux) (m:M ω) (act:Act) (w:World) (F:Fence) (n:Nat) (K0:Nat->Option Obj),
 FOf q F->SR B X m s w->TR m N a act->MK K0 X.K act.defers->Bs ω C B w->c.wpIn F n C.P (PostC B X m N x a' s' w K0) act w:=by
 intro q N c a s x a' s' h B X m act w F n K0 hF hs hT hM hB
 have here:PostC B X m N .normal a s w K0 .normal act w:=⟨rfl,X,m,rfl,hM,Le.refl _,hs,hT,bR _ _⟩
 have h':evK c C ih q N a s=some (x,a',s'):=h
 cases c with
 | skip=>cases h';exact wpIn_skip here
 | label l=>cases h';exact wpIn_label here
 | ret=>cases h';exact wpIn_ret ⟨rfl,X,m,rfl,hM,Le.refl _,hs,hT,bR _ _⟩
 | exit id=>cases h';exact wpIn_exit ⟨rfl,X,m,rfl,hM,Le.refl _,hs,hT,bR _ _⟩
 | seq p r =>
  have h2:kSeq p r C ih q N a s=some (x,a',s'):=h';unfold kSeq at h2;refine wpIn_seq ?_
  cases hx:ih.c q N p a s with
  | none=>rw [hx] at h2;cases h2
  | some t =>
   obtain ⟨y,a1,s1⟩:=t;rw [hx] at h2;refine wpIn_mono (hc _ _ _ _ _ _ _ _ hx B X m act w F n K0 hF hs hT hM hB) ?_;intro e act1 w1 hp
   cases y with
   | normal =>
    obtain ⟨rfl,X1,m1,hG,hM1,hle1,hs1,hT1,hb1⟩:=hp;refine wpIn_mono (hc _ _ _ _ _ _ _ _ h2 B X1 m1 act1 w1 F n K0 hF hs1 hT1 hM1 (hB.next hb1)) ?_;intro e2 act2 w2 hp2;exact hp2.back hG hle1 hb1
   | ret=>cases h2;have he:=hp.1;subst he;exact hp
   | exit id=>cases h2;have he:=hp.1;subst he;exact hp
 | cond o p r =>
  have h2:kCond o p r C ih q N a s=some (x,a',s'):=h';unfold kCond at h2
  split at h2
  ·rename_i b hb;refine wpIn_cond (bool_inv (oS hT hb)) ?_
   have hif:(if b then p else r)=cond b p r:=by cases b <;> rfl
   rw [hif];exact hc _ _ _ _ _ _ _ _ h2 B X m act w F n K0 hF hs hT hM hB
  ·cases h2
 | block id p =>
  have h2:kBlock id p C ih q N a s=some (x,a',s'):=h';unfold kBlock at h2;refine wpIn_block ?_
  cases hx:ih.c q N p a s with
  | none=>rw [hx] at h2;cases h2
  | some t =>
   obtain ⟨y,a1,s1⟩:=t;rw [hx] at h2;refine wpIn_mono (hc _ _ _ _ _ _ _ _ hx B X m act w F n K0 hF hs hT hM hB) ?_;intro e act1 w1 hp
   cases y with
   | normal=>cases h2;have he:=hp.1;subst he;exact hp
   | ret=>cases h2;have he:=hp.1;subst he;exact hp
   | exit id' =>
    obtain ⟨rfl,r⟩:=hp;simp only at h2
    cases hb:Nat.beq id id' with
    | true =>
     rw [hb] at h2
     cases h2
     have:=bE hb;subst this;show Exit.inBlock id _ (.exit id) act1 w1;simp only [Exit.inBlock,if_true];exact ⟨rfl,r⟩
    | false =>
     rw [hb] at h2
     cases h2
     have hne:=Nat.ne_of_beq_eq_false hb;show Exit.inBlock id _ (.exit id') act1 w1;simp only [Exit.inBlock,if_neg (show ¬ id'=id from fun e=>hne e.symm)];exact ⟨rfl,r⟩
 | loop p =>
  refine LoopAt.loop (LoopAt.step ?_);have h2:kLoop p C ih q N a s=some (x,a',s'):=h';unfold kLoop at h2
  cases hx:ih.c q N p a s with
  | none=>rw [hx] at h2;cases h2
  | some t =>
   obtain ⟨y,a1,s1⟩:=t;rw [hx] at h2;refine wpIn_mono (hc _ _ _ _ _ _ _ _ hx B X m act w F n K0 hF hs hT hM hB) ?_;intro e act1 w1 hp
   cases y with
   | normal =>
    obtain ⟨rfl,X1,m1,hG,hM1,hle1,hs1,hT1,hb1⟩:=hp;have:=hl _ _ _ _ _ _ _ _ h2 B X1 m1 act1 w1 F n K0 hF hs1 hT1 hM1 (hB.next hb1);intro b k cs k1 k2 k3;obtain ⟨e2,act2,w2,hp2,harr⟩:=this b k cs k1 k2 k3;exact ⟨e2,act2,w2,hp2.back hG hle1 hb1,harr⟩
   | ret=>cases h2;have he:=hp.1;subst he;exact hp
   | exit id=>cases h2;have he:=hp.1;subst he;exact hp
 | region id ops dr =>
  cases dr with
  | false=>exact region_sound ho h' hF hs hT hM hB
  | true=>exact drawnRegion_sound hC hd h' hF hs hT hM hB
 | rangeFunc g ps asg bd=>exact range_sound' hc hf h' hF hs hT hM hB
 | _=>cases h'
theorem loop_sound (hc:SndC ω C ih) (hl:SndL ω C ih):∀ q N c a s x a' s',evC C ih q N (.loop c) a s=some (x,a',s')->∀ (B:Nat) (X:Aux) (m:M ω) (act:Act) (w:World) (F:Fence) (n:Nat) (K0:Nat->Option Obj),
 FOf q F->SR B X m s w->TR m N a act->MK K0 X.K act.defers->Bs ω C B w->LoopAt F n C.P c (PostC B X m N x a' s' w K0) act w:=by
 intro q N p a s x a' s' h B X m act w F n K0 hF hs hT hM hB;refine LoopAt.step ?_;have h2:kLoop p C ih q N a s=some (x,a',s'):=h;unfold kLoop at h2
 cases hx:ih.c q N p a s with
 | none=>rw [hx] at h2;cases h2
 | some t =>
  obtain ⟨y,a1,s1⟩:=t;rw [hx] at h2;refine wpIn_mono (hc _ _ _ _ _ _ _ _ hx B X m act w F n K0 hF hs hT hM hB) ?_;intro e act1 w1 hp
  cases y with
  | normal =>
   obtain ⟨rfl,X1,m1,hG,hM1,hle1,hs1,hT1,hb1⟩:=hp;have:=hl _ _ _ _ _ _ _ _ h2 B X1 m1 act1 w1 F n K0 hF hs1 hT1 hM1 (hB.next hb1);intro b k cs k1 k2 k3;obtain ⟨e2,act2,w2,hp2,harr⟩:=this b k cs k1 k2 k3;exact ⟨e2,act2,w2,hp2.back hG hle1 hb1,harr⟩
  | ret=>cases h2;have he:=hp.1;subst he;exact hp
  | exit id=>cases h2;have he:=hp.1;subst he;exact hp
theorem sound (hC:COK ω C):∀ (fuel:Nat),SndC ω C (ev C fuel)/\SndO ω C (ev C fuel)/\SndD ω C (ev C fuel)/\SndF ω C (ev C fuel)/\SndL ω C (ev C fuel)
 | 0=>⟨fun _ _ _ _ _ _ _ _ h=>(by cases h),fun _ _ _ _ _ _ _ _ _ h=>(by cases h),fun _ _ _ _ _ _ _ _ _ h=>(by cases h),fun _ _ _ _ _ h=>(by cases h),fun _ _ _ _ _ _ _ _ h=>(by cases h)⟩
 | k+1=>by
  obtain ⟨hc,ho,hd,hf,hl⟩:=sound hC k;exact ⟨code_sound hC hc hf ho hd hl,ops_sound hC hc hf ho,drawn_sound hC hc hf hd,fun_sound hC hc,loop_sound hc hl⟩
end
end Go.Proofs.YtenfkghoolegfaaGreatDoor.Ev
namespace Go.Proofs.YtenfkghoolegfaaGreatDoor
open Go.RowKit
structure Fr (X:Nat->Prop) (w w':World):Prop where
 os:w'.os=w.os
 tape:w'.tape=w.tape
 output:w'.output=w.output
 size:w.heap.size<=w'.heap.size
 block:∀ k,k<w.heap.size->¬ X k->w'.heap[k]?=w.heap[k]?
section
variable {X Y:Nat->Prop} {w w' a b c:World}
theorem Fr.refl (X:Nat->Prop) (w:World):Fr X w w:=⟨rfl,rfl,rfl,nR _,fun _ _ _=>rfl⟩
theorem Fr.trans (h:Fr X a b) (k:Fr X b c):Fr X a c :=
 ⟨k.os.trans h.os,k.tape.trans h.tape,k.output.trans h.output,nT h.size k.size,fun i hi hx=>(k.block i (lT hi h.size) hx).trans (h.block i hi hx)⟩
theorem Fr.mono (h:Fr X a b) (hX:∀ k,k<a.heap.size->X k->Y k):Fr Y a b:=⟨h.os,h.tape,h.output,h.size,fun i hi hy=>h.block i hi (fun hx=>hy (hX i hi hx))⟩
theorem Fr.below {B:Nat} (h:Fr X w w') (hB:B<=w.heap.size) (hX:∀ k,X k->B<=k):Below B w w' :=
 ⟨h.os,h.tape,h.output,h.size,fun k hk=>h.block k (lT hk hB) (fun hx=>by have:=hX k hx;omega)⟩
theorem Fr.of_below (h:Below w.heap.size w w'):Fr X w w':=⟨h.os,h.tape,h.output,h.size,fun k hk _=>h.block k hk⟩
theorem Fr.drew (h:Fr X a w):Fr X a w.drew:=⟨h.os,h.tape,h.output,h.size,h.block⟩
theorem Fr.setCell (h:Fr X a w) {p:Addr} (hp:a.heap.size<=p.block\/X p.block) (u:Value):Fr X a (w.setCell p u) :=
 ⟨h.os,h.tape,h.output,by simpa [World.setCell] using h.size,fun k hk hx=>(Below.heap_setCell _ _ _ _ (fun e=>by subst e;rcases hp with hp | hp;omega;exact hx hp)).trans (h.block k hk hx)⟩
theorem Fr.heap {k:Nat} {o:Obj} (h:Fr X w w') (hk:w.heap[k]?=some o) (hx:¬ X k):w'.heap[k]?=some o:=(h.block k (aS.1 hk).1 hx).trans hk
end
def Blk (w:World) (g:Nat) (t:TypeId) (cs:Array Value):Prop:=w.heap[g]?=some (.cells cs t (0,0))
section
variable {w w':World} {g:Nat} {t:TypeId} {cs:Array Value}
theorem Blk.lt (h:Blk w g t cs):g<w.heap.size:=(aS.1 h).1
theorem Blk.cell (h:Blk w g t cs) (i:Nat):w.cell? ⟨g,i,none⟩=cs[i]?:=cell_of_row w g i cs t (0,0) h
theorem Blk.frozen (h:Blk w g t cs) (i:Nat):w.frozen? ⟨g,i,none⟩=false:=by
 unfold Blk at h;simp [World.frozen?,h]
theorem Blk.new (w:World) (t:TypeId) (cs:Array Value):Blk (w.alloc (.cells cs t)) w.heap.size t cs:=heap_alloc_new w _
theorem Blk.drew (h:Blk w g t cs):Blk w.drew g t cs:=h
theorem Blk.alloc (h:Blk w g t cs) (o:Obj):Blk (w.alloc o) g t cs:=(Below.heap_alloc w o g h.lt).trans h
theorem Blk.set_ (h:Blk w g t cs) (i:Nat) (u:Value):Blk (w.setCell ⟨g,i,none⟩ u) g t (cs.setIfInBounds i u):=by
 unfold Blk at h ⊢;simp [World.setCell,Array.getElem?_modify,h]
theorem Blk.fr {X:Nat->Prop} (h:Blk w g t cs) (hf:Fr X w w') (hx:¬ X g):Blk w' g t cs:=hf.heap h hx
end
theorem wp_region_tail {P:Program} {id:Nat} {Q:Exit->Act->World->Prop} {a:Act} {w:World} {l:List Oper} (n:Nat) (hm:P.follows .mixedOrders=true) (hB:Region.lexTailB .any l.toArray n=true)
 (h:wpStill P l.toArray w.drew (fun a'=>wpList P l.toArray Q (l.drop n) a' w.drew) (l.take n) a):(Code.region id l.toArray true).wp P Q a w:=wp_region_still_tail n hm hB h
end Go.Proofs.YtenfkghoolegfaaGreatDoor
namespace Go.Proofs.YtenfkghoolegfaaGreatDoor.Ev
open Go.RowKit
variable {ω:Nat->Value} {C:Ctx}
theorem run_mem (hC:COK ω C) {fuel:Nat} {g:FuncId} {v:Value} {vs:List Value} {args:Array Value} {s s':AS} {B:Nat} {X:Aux} {m:M ω} {w:World} (h:(ev C fuel).f g vs s=some (v,s')) (hs:SR B X m s w) (hl:LRel m vs args.toList) (hb:Bs ω C B w) (hsp:C.sp g=none) :
 Calls C.P g args w fun e w'=>∃ v',e=.returned v'/\RelV B X m s' w v v' w':=by
 have:=((sound hC fuel).2.2.2.1 g vs s v s' h B X m w args hs hl hb).2 hsp;exact callsIn_wide.1 (this.2 0)
noncomputable def keepK (w:World) (B r0:Nat):Aux:=⟨fun _=>none,fun r=>if r=r0 then none else if B<=r then w.heap[r]? else none⟩
def m1 (ω:Nat->Value) (i:Info):M ω:=fun b=>if b=0 then some i else none
noncomputable def st1 (o:AObj):AS:=⟨1,T.leaf.put 0 o⟩
theorem st1_get (o:AObj) (b:Nat):(st1 o).h.get b=if b=0 then some o else none:=by
 show ((T.leaf:T AObj).put 0 o).get b=_;rw [T.get_put]
 split
 ·rfl
 ·rfl
theorem sr_one {B:Nat} {w:World} {o:AObj} {i:Info} (hr:ORel (m1 ω i) w i o) (h1:B<=i.r) (h2:i.r<w.heap.size):SR B (keepK w B i.r) (m1 ω i) (st1 o) w:=by
 refine ⟨fun b p j hb ha hm=>?_,fun b c p q i' j hb hc _ _ hne h3 h4=>?_,fun b hb=>?_,fun b hb=>?_,fun b p hb=>(by cases hb),fun r p hb=>?_,fun b j hm=>?_⟩
 ·rw [st1_get] at hb;unfold m1 at hm;by_cases e:b=0
  ·rw [if_pos e] at hb hm
   cases hb;cases hm
   exact ⟨hr,h1,h2⟩
  ·rw [if_neg e] at hm;cases hm
 ·unfold m1 at h3 h4;by_cases e:b=0
  ·by_cases e':c=0
   ·omega
   ·rw [if_neg e'] at h4;cases h4
  ·rw [if_neg e] at h3;cases h3
 ·rw [st1_get,if_neg (by have:1<=b:=hb;omega)]
 ·unfold m1;rw [if_neg (by have:1<=b:=hb;omega)]
 ·have hb':(if r=i.r then none else if B<=r then w.heap[r]? else none)=some p:=hb;by_cases e:r=i.r
  ·rw [if_pos e] at hb';cases hb'
  ·rw [if_neg e] at hb';by_cases e2:B<=r
   ·rw [if_pos e2] at hb';refine ⟨hb',e2,fun b j hm=>?_⟩;unfold m1 at hm;by_cases e3:b=0
    ·rw [if_pos e3] at hm;cases hm;exact fun e4=>e e4.symm
    ·rw [if_neg e3] at hm;cases hm
   ·rw [if_neg e2] at hb';cases hb'
 ·unfold m1 at hm;by_cases e:b=0
  ·rw [if_pos e] at hm;cases hm;exact h2
  ·rw [if_neg e] at hm;cases hm
noncomputable def c3 (a b c:Value):T Value:=((T.leaf.put 0 a).put 1 b).put 2 c
theorem or_three {w:World} {r t:Nat} {a b c a' b' c':Value} (h:w.heap[r]?=some (.cells #[a',b',c'] t (0,0))) (ha:VRel (m1 ω ⟨r,0,3,1,false,3⟩) a a') (hb:VRel (m1 ω ⟨r,0,3,1,false,3⟩) b b') (hc:VRel (m1 ω ⟨r,0,3,1,false,3⟩) c c') :
 ORel (m1 ω ⟨r,0,3,1,false,3⟩) w ⟨r,0,3,1,false,3⟩ (.cells ⟨c3 a b c,3,t,1,false,false⟩):=by
 refine ⟨rfl,rfl,rfl,nR _,_,_,h,rfl,fun j hj=>?_,.inl rfl⟩;have hj':j<3:=hj;unfold c3
 match j,hj' with
 | 0,_=>exact ⟨a,a',by simp [T.get_put],rfl,ha⟩
 | 1,_=>exact ⟨b,b',by simp [T.get_put],rfl,hb⟩
 | 2,_=>exact ⟨c,c',by simp [T.get_put],rfl,hc⟩
theorem run_one (hC:COK ω C) {fuel:Nat} {g:FuncId} {v:Value} {vs:List Value} {args:Array Value} {o:AObj} {s':AS} {B:Nat} {i:Info} {w:World} (h:(ev C fuel).f g vs (st1 o)=some (v,s')) (hr:ORel (m1 ω i) w i o) (h1:B<=i.r) (h2:i.r<w.heap.size)
 (hl:LRel (m1 ω i) vs args.toList) (hb:Bs ω C B w) (hsp:C.sp g=none) :
 Calls C.P g args w fun e w'=>∃ v' m',e=.returned v'/\VRel (m':M ω) v v'/\Fr (fun k=>k=i.r) w w'/\∀ o',s'.h.get 0=some o'->o'.alive=true->ORel m' w' i o':=by
 refine (run_mem hC h (sr_one hr h1 h2) hl hb hsp).mono ?_;rintro e w' ⟨v',rfl,m',hle,hs',hv,hbl⟩;refine ⟨v',m',rfl,hv,⟨hbl.os,hbl.tape,hbl.output,hbl.size,fun k hk hne=>?_⟩,fun o' ho ha=>(hs'.rel 0 o' i ho ha (hle 0 i rfl)).1⟩;by_cases hB:k<B
 ·exact hbl.block k hB
 ·obtain ⟨ob,hob⟩:∃ ob,w.heap[k]?=some ob:=⟨_,Array.getElem?_eq_getElem hk⟩
  rw [hob];refine (hs'.kp k ob ?_).1;show (if k=i.r then none else if B<=k then w.heap[k]? else none)=some ob;rw [if_neg hne,if_pos (by omega),hob]
end Go.Proofs.YtenfkghoolegfaaGreatDoor.Ev
namespace Go.Proofs.YtenfkghoolegfaaGreatDoor.Ev
open Go.RowKit
variable {ω:Nat->Value}
noncomputable def T.allB {α:Type} (p:α->Bool):T α->Bool
 | .leaf=>true
 | .node v l r=>(match v with | some x=>p x | none=>true) && (T.allB p l && T.allB p r)
theorem T.allB_getP {α:Type} {p:α->Bool}:∀ {t:T α},T.allB p t=true->∀ (q:T.Pth) (v:α),T.getP t q=some v->p v=true
 | .leaf,_,q,v,h=>by cases h
 | .node x l r,h,q,v,hv=>by
  simp only [T.allB,Bool.and_eq_true] at h
  cases q with
  | e =>
   have hx:x=some v:=hv;subst hx;exact h.1
  | l q=>exact T.allB_getP h.2.1 q v hv
  | r q=>exact T.allB_getP h.2.2 q v hv
theorem T.allB_get {α:Type} {p:α->Bool} {t:T α} (h:T.allB p t=true) {n:Nat} {v:α} (hv:t.get n=some v):p v=true:=T.allB_getP h _ v hv
def nameB (f:Func):Bool:=!(f.name == "runtime.NumGoroutine")
def zeroB (p:TypeInfo × TypeInfo):Bool:=match p.1.zero with
 | some z=>tupB z || ((cellsOf z).all plainV && Nat.beq p.1.size (cellsOf z).length)
 | none=>true
def placesB (P:Program) (p:TypeInfo × TypeInfo):Bool:=match p.2.desc with
 | .struct fs=>(fs.toList.mapM (fun f=>(P.info? f.type).map fun i=>(f.offset,i.size))).isSome
 | _=>true
theorem map_get {α β:Type} {f:α->β} {l:List α} {k:List β} (h:l.map f=k) {i:Nat} {x:α} (hx:l[i]?=some x):k[i]?=some (f x):=by rw [<-h,List.getElem?_map,hx];rfl
theorem ctxOK_of {P:Program} {fnT:T Func} {tyT:T (TypeInfo × TypeInfo)} {tyL:List (TypeInfo × TypeInfo)} {sp:FuncId->Option (List Value->AS->Option (Value × AS))} {glob:Nat->Option Value} {meth:TypeId->String->Value->Option (FuncId × Value)} {bin:BinOp->TypeId->Value->Value->Option Value} {len:TypeId->Value->Option Value} {cnv:TypeId->TypeId->Value->Option Value} {rd:Nat->Bool} {iv:Nat->Option (Array Value)}
 (hf:fnT=T.ofList P.funcs.toList 0 .leaf) (hn:T.allB nameB fnT=true) (ht:tyT=T.ofList tyL 0 .leaf) (h1:tyL.map (fun p=>some p.1)=(List.range tyL.length).map P.info?) (h2:tyL.map (fun p=>some p.2.desc)=(List.range tyL.length).map P.underlying)
 (hz:T.allB zeroB tyT=true) (hp:T.allB (placesB P) tyT=true)
 (hbin:∀ op t ox oy x y v,bin op t x y=some v->∀ (m:M ω) (x' y':Value) (w:World),VRel m x x'->VRel m y y'->∃ v',(do eqGuard op t ox oy x' y';binOp op t x' y':Sem Value).run P w=.ok v' w/\VRel m v v')
 (hlen:∀ t k v,len t (.chan k)=some v->∀ (m:M ω) (x':Value) (ty:TypeId) (w:World),VRel m (.chan k) x'->∃ v',(Builtin.len_ #[t] ty #[x']).run P w=.ok v' w/\VRel m v v')
 (hmeth:∀ t name v g rv,meth t name v=some (g,rv)->∀ (m:M ω) (v':Value),VRel m v v'->∃ rv',VRel m rv rv'/\∀ w,(method (P.types.size+Made.depth) t v' name).run P w=.ok (g,rv') w)
 (hcnv:∀ src dst x v,cnv src dst x=some v->∀ (m:M ω) (x':Value) (w:World),VRel m x x'->∃ v',(convert src dst x').run P w=.ok v' w/\VRel m v v') :
 CtxOK ω ⟨P,fun f=>fnT.get f,fun t=>(tyT.get t).map (·.1),fun t=>(tyT.get t).map (·.2.desc),sp,glob,meth,bin,len,cnv,rd,iv⟩:=by
 have get:∀ (t:Nat) (p:TypeInfo × TypeInfo),tyT.get t=some p->tyL[t]?=some p:=by
  intro t p h;rw [ht,T.get_ofList] at h
  split at h
  ·simpa using h
  ·cases h
 have lt:∀ (t:Nat) (p:TypeInfo × TypeInfo),tyL[t]?=some p->t<tyL.length:=fun t p h=>(lS.1 h).1
 have hfn:∀ g f,fnT.get g=some f->P.funcs[g]?=some f:=by
  intro g f h;rw [hf,T.get_ofList] at h
  split at h
  ·simpa using h
  ·cases h
 refine ⟨hfn,fun g f h hb args w=>?_,fun t i (h:(tyT.get t).map (·.1)=some i)=>?_,fun t d (h:(tyT.get t).map (·.2.desc)=some d)=>?_,fun t i z (h:(tyT.get t).map (·.1)=some i) hzz hzt=>?_,hbin,hlen,hcnv,hmeth,fun t fs (h:(tyT.get t).map (·.2.desc)=some (.struct fs))=>?_⟩
 ·have:=T.allB_get hn h
  have hname:f.name≠ "runtime.NumGoroutine":=by simpa [nameB] using this
  have hb':f.body≠none:=by intro e;rw [e] at hb;cases hb
  simp [callFunc,hfn g f h,hname,hb']
 ·cases hg:tyT.get t with
  | none=>rw [hg] at h;cases h
  | some p =>
   rw [hg] at h;cases h;have:=map_get h1 (get t p hg);rw [List.getElem?_map,List.getElem?_range (lt t p (get t p hg))] at this;exact Option.some.inj this
 ·cases hg:tyT.get t with
  | none=>rw [hg] at h;cases h
  | some p =>
   rw [hg] at h;cases h;have:=map_get h2 (get t p hg);rw [List.getElem?_map,List.getElem?_range (lt t p (get t p hg))] at this;exact Option.some.inj this
 ·cases hg:tyT.get t with
  | none=>rw [hg] at h;cases h
  | some p =>
   rw [hg] at h;cases h;have:=T.allB_get hz hg;unfold zeroB at this;have hzz':p.1.zero=some z:=hzz;rw [hzz'] at this;simp only [hzt,Bool.false_or,Bool.and_eq_true] at this;exact ⟨this.1,bE this.2⟩
 ·cases hg:tyT.get t with
  | none=>rw [hg] at h;cases h
  | some p =>
   rw [hg] at h
   have h':p.2.desc=.struct fs:=by simpa using h
   have:=T.allB_get hp hg;unfold placesB at this;rw [h'] at this;exact Option.isSome_iff_exists.1 this
def den (ω:Nat->Value):Value->Value
 | .chan (some k)=>ω k
 | v=>v
def tokB:Value->Bool
 | .chan (some _)=>true
 | v=>plainV v
theorem den_of {m:M ω} {x x':Value} (h:VRel m x x') (ht:tokB x=true):x'=den ω x:=by
 cases h with
 | tok k h=>rfl
 | any v h=>cases ht
 | plain _ h=>cases x <;> first | rfl | (simp [plainV] at h)
 | _=>first | (cases ht;done) | (simp [tokB,plainV] at ht)
theorem den_rel {m:M ω} {x:Value} (ht:tokB x=true) (ho:∀ k,x=.chan (some k)->oneV (ω k)=true):VRel m x (den ω x):=by
 cases x with
 | chan k =>
  cases k with
  | none=>cases ht
  | some k=>exact .tok k (ho k rfl)
 | _=>exact .plain _ ht
structure Fact where
 op:BinOp
 x:Value
 y:Value
 v:Value
def Fact.is (f:Fact) (op:BinOp) (x y:Value):Bool:=decide (f.op=op) && (veq 2 f.x x && veq 2 f.y y)
def binOf:List Fact->BinOp->Value->Value->Option Value
 | [],_,_,_=>none
 | f::fs,op,x,y=>cond (f.is op x y) (some f.v) (binOf fs op x y)
structure Fact.ok (ω:Nat->Value) (P:Program) (f:Fact):Prop where
 tx:tokB f.x=true
 ty:tokB f.y=true
 tv:tokB f.v=true
 one:∀ k,f.v=.chan (some k)->oneV (ω k)=true
 run:∀ t ox oy w,(do eqGuard f.op t ox oy (den ω f.x) (den ω f.y);binOp f.op t (den ω f.x) (den ω f.y):Sem Value).run P w=.ok (den ω f.v) w
theorem binOf_ok {P:Program}:∀ {fs:List Fact},(∀ f∈fs,f.ok ω P)->∀ (op:BinOp) (t:TypeId) (ox oy:Operand) (x y v:Value),binOf fs op x y=some v->∀ (m:M ω) (x' y':Value) (w:World),VRel m x x'->VRel m y y' ->
 ∃ v',(do eqGuard op t ox oy x' y';binOp op t x' y':Sem Value).run P w=.ok v' w/\VRel m v v'
 | [],_,op,t,ox,oy,x,y,v,h,_,_,_,_,_,_=>by cases h
 | f::fs,hf,op,t,ox,oy,x,y,v,h,m,x',y',w,hx,hy=>by
  simp only [binOf] at h
  cases hi:f.is op x y with
  | false=>rw [hi] at h;exact binOf_ok (fun g hg=>hf g (by simp [hg])) op t ox oy x y v h m x' y' w hx hy
  | true =>
   rw [hi] at h
   cases h
   unfold Fact.is at hi;simp only [Bool.and_eq_true] at hi;obtain ⟨h1,h2,h3⟩:=hi;have e1:f.op=op:=of_decide_eq_true h1;have e2:=veq_sound _ _ _ h2;have e3:=veq_sound _ _ _ h3;have hok:=hf f (by simp);subst e1;rw [<-e2] at hx;rw [<-e3] at hy;rw [den_of hx hok.tx,den_of hy hok.ty];exact ⟨_,hok.run t ox oy w,den_rel hok.tv hok.one⟩
theorem Fact.int {P:Program} {op:BinOp} {x y v:Value} {k:IntKind} {p q:Int} (hx:den ω x=.int k p) (hy:den ω y=.int k q) (tx:tokB x=true) (ty:tokB y=true) (tv:tokB v=true) (hv:oneV (den ω v)=true) (hb:∀ t,binOp op t (.int k p) (.int k q)=pure (den ω v)) :
 (⟨op,x,y,v⟩:Fact).ok ω P:=⟨tx,ty,tv,fun j (e:v=_)=>by subst e;exact hv,fun t ox oy w=>by
 show (do eqGuard op t ox oy (den ω x) (den ω y);binOp op t (den ω x) (den ω y):Sem Value).run P w=.ok (den ω v) w;rw [hx,hy]
 simp only [Sem.run_bind,eqGuard_int,Result.andThen_ok,hb];rfl⟩
theorem b_geq (k:IntKind) (t:TypeId) (a b:Int):binOp .geq t (.int k a) (.int k b)=pure (.bool (decide (b<=a))):=by simp [binOp,Op.intCmp]
theorem wrap_i64 {n:Int} (h1:-9223372036854775808<=n) (h2:n<=9223372036854775807):IntKind.i64.wrap n=n:=by simp [IntKind.wrap,IntKind.bits,IntKind.signed];omega
theorem Fact.geq {P:Program} {x y:Value} {k:IntKind} {p q:Int} (hx:den ω x=.int k p) (hy:den ω y=.int k q) (tx:tokB x=true) (ty:tokB y=true) {b:Bool} (h:decide (q<=p)=b):(⟨.geq,x,y,.bool b⟩:Fact).ok ω P:=Fact.int hx hy tx ty rfl rfl fun t=>by rw [b_geq,h];rfl
def lenOf:List (TypeId × Nat × Nat)->TypeId->Value->Option Value
 | [],_,_=>none
 | (t,k,j)::r,u,.chan (some i)=>cond (Nat.beq t u && Nat.beq k i) (some (.chan (some j))) (lenOf r u (.chan (some i)))
 | _::_,_,_=>none
structure LenOK (ω:Nat->Value) (P:Program) (f:TypeId × Nat × Nat):Prop where
 one:oneV (ω f.2.2)=true
 run:∀ ty w,(Builtin.len_ #[f.1] ty #[ω f.2.1]).run P w=.ok (ω f.2.2) w
theorem lenOf_ok {P:Program}:∀ {fs:List (TypeId × Nat × Nat)},(∀ f∈fs,LenOK ω P f)->∀ (t:TypeId) (k:Option Nat) (v:Value),lenOf fs t (.chan k)=some v->∀ (m:M ω) (x':Value) (ty:TypeId) (w:World),VRel m (.chan k) x' ->
 ∃ v',(Builtin.len_ #[t] ty #[x']).run P w=.ok v' w/\VRel m v v'
 | [],_,t,k,v,h,_,_,_,_,_=>by cases h
 | (u,i,j)::fs,hf,t,k,v,h,m,x',ty,w,hx=>by
  cases k with
  | none=>cases h
  | some k =>
   simp only [lenOf] at h
   cases hi:(Nat.beq u t && Nat.beq i k) with
   | false=>rw [hi] at h;exact lenOf_ok (fun g hg=>hf g (by simp [hg])) t _ v h m x' ty w hx
   | true =>
    rw [hi] at h
    cases h
    rw [Bool.and_eq_true] at hi;have e1:=bE hi.1;have e2:=bE hi.2;subst e1;subst e2;have hok:=hf (u,i,j) (by simp);obtain rfl:=tok_inv hx;exact ⟨_,hok.run ty w,.tok j hok.one⟩
end Go.Proofs.YtenfkghoolegfaaGreatDoor.Ev
