/- A part of the proof of ScanWild. No condition of its own. -/
import Derived.Test.YtgohffhoapkeaaaGreatDoorVz
import Derived.Test.YtgohffhoapkeaaaGreatDoorZh
import Derived.Test.YtgohffhoapkeaaaGreatDoorProg
import Derived.KernelRfl
import Derived.Lib.ItoaNum
import Derived.Laws.Externs
import Derived.Test.YtgohffhoapkeaaaGreatDoorRows
import Derived.WalkKit
import Derived.ProofKit
import Derived.OpenShut
import Derived.ShutString
import Derived.ChangeOld
import Derived.ChangeSame
import Derived.ChangeVars
import Derived.JoinedOf
import Derived.RowKit
import Derived.RowKitTokens
import Derived.LaidLaws
import Derived.LaidHandle
import Derived.Stop.Joined
import Derived.Below
import Derived.Lib.SmallJoins
import Derived.SizedLaws
import Derived.Test.YtgohffhoapkeaaaGreatDoorZf
import Derived.Deep.Fields
import Derived.DataReads
import Derived.Test.YtgohffhoapkeaaaGreatDoorZd
import Derived.Test.YtgohffhoapkeaaaGreatDoorZe
import Derived.RangeFuncWrites
import Derived.OwnWalkIn
import Derived.Test.YtgohffhoapkeaaaGreatDoorZa
import Derived.Test.YtgohffhoapkeaaaGreatDoorZc
set_option maxHeartbeats 4000000
set_option maxRecDepth 1000000
set_option linter.unusedVariables false
namespace Go.Proofs.YtgohffhoapkeaaaGreatDoor.Ev
open Go.RowKit
variable {ω:Nat->Value}
noncomputable def T.allB {α:Type} (p:α->Bool):T α->Bool
 | .leaf=>true
 | .node v l r=>(match v with | some x=>p x | none=>true) && (T.allB p l && T.allB p r)
theorem T.allB_getP {α:Type} {p:α->Bool}:∀ {t:T α},T.allB p t=true->∀ (q:T.vF) (v:α),T.cJ t q=some v->p v=true
 | .leaf,_,q,v,h=>by cases h
 | .node x l r,h,q,v,hv=>by
  simp only [T.allB,Bool.and_eq_true] at h
  cases q with
  | e =>
   have hx:x=some v:=hv;subst hx;exact h.1
  | l q=>exact T.allB_getP h.2.1 q v hv
  | r q=>exact T.allB_getP h.2.2 q v hv
theorem T.allB_get {α:Type} {p:α->Bool} {t:T α} (h:T.allB p t=true) {n:Nat} {v:α} (hv:t.get n=some v):p v=true:=T.allB_getP h _ v hv
def FM (f:Func):Bool:=!(f.name == "runtime.NumGoroutine")
def FN (p:TypeInfo × TypeInfo):Bool:=match p.1.zero with
 | some z=>tI z || ((cellsOf z).all am && Nat.beq p.1.size (cellsOf z).length)
 | none=>true
def zJ (P:Program) (p:TypeInfo × TypeInfo):Bool:=match p.2.desc with
 | .struct fs=>(fs.toList.mapM (fun f=>(P.info? f.type).map fun i=>(f.offset,i.size))).isSome
 | _=>true
theorem zK {α β:Type} {f:α->β} {l:List α} {k:List β} (h:l.map f=k) {i:Nat} {x:α} (hx:l[i]?=some x):k[i]?=some (f x):=by rw [<-h,List.getElem?_map,hx];rfl
theorem Dm {P:Program} {Hc:T Func} {uK:T (TypeInfo × TypeInfo)} {tyL:List (TypeInfo × TypeInfo)} {sp:FuncId->Option (List Value->AS->Option (Value × AS))} {glob:Nat->Option Value} {meth:TypeId->String->Value->Option (FuncId × Value)} {bin:BinOp->TypeId->Value->Value->Option Value} {len:TypeId->Value->Option Value} {cnv:TypeId->TypeId->Value->Option Value} {rd:Nat->Bool} {iv:Nat->Option (Array Value)}
 (hf:Hc=T.bH P.funcs.toList 0 .leaf) (hn:T.allB FM Hc=true) (ht:uK=T.bH tyL 0 .leaf) (h1:tyL.map (fun p=>some p.1)=(List.range tyL.length).map P.info?) (h2:tyL.map (fun p=>some p.2.desc)=(List.range tyL.length).map P.underlying)
 (hz:T.allB FN uK=true) (hp:T.allB (zJ P) uK=true)
 (hbin:∀ op t ox oy x y v,bin op t x y=some v->∀ (m:M ω) (x' y':Value) (w:World),VRel m x x'->VRel m y y'->∃ v',(do eqGuard op t ox oy x' y';binOp op t x' y':Sem Value).run P w=.ok v' w/\VRel m v v')
 (hlen:∀ t k v,len t (.chan k)=some v->∀ (m:M ω) (x':Value) (ty:TypeId) (w:World),VRel m (.chan k) x'->∃ v',(Builtin.len_ #[t] ty #[x']).run P w=.ok v' w/\VRel m v v')
 (hmeth:∀ t name v g rv,meth t name v=some (g,rv)->∀ (m:M ω) (v':Value),VRel m v v'->∃ rv',VRel m rv rv'/\∀ w,(method (P.types.size+Made.depth) t v' name).run P w=.ok (g,rv') w)
 (hcnv:∀ src dst x v,cnv src dst x=some v->∀ (m:M ω) (x':Value) (w:World),VRel m x x'->∃ v',(convert src dst x').run P w=.ok v' w/\VRel m v v') :
 aM ω ⟨P,fun f=>Hc.get f,fun t=>(uK.get t).map (·.1),fun t=>(uK.get t).map (·.2.desc),sp,glob,meth,bin,len,cnv,rd,iv⟩:=by
 have get:∀ (t:Nat) (p:TypeInfo × TypeInfo),uK.get t=some p->tyL[t]?=some p:=by
  intro t p h;rw [ht,T.br] at h
  split at h
  ·simpa using h
  ·cases h
 have lt:∀ (t:Nat) (p:TypeInfo × TypeInfo),tyL[t]?=some p->t<tyL.length:=fun t p h=>(lS.1 h).1
 have hfn:∀ g f,Hc.get g=some f->P.funcs[g]?=some f:=by
  intro g f h;rw [hf,T.br] at h
  split at h
  ·simpa using h
  ·cases h
 refine ⟨hfn,fun g f h hb args w=>?_,fun t i (h:(uK.get t).map (·.1)=some i)=>?_,fun t d (h:(uK.get t).map (·.2.desc)=some d)=>?_,fun t i z (h:(uK.get t).map (·.1)=some i) hzz hzt=>?_,hbin,hlen,hcnv,hmeth,fun t fs (h:(uK.get t).map (·.2.desc)=some (.struct fs))=>?_⟩
 ·have:=T.allB_get hn h
  have hname:f.name≠ "runtime.NumGoroutine":=by simpa [FM] using this
  have hb':f.body≠none:=by intro e;rw [e] at hb;cases hb
  simp [callFunc,hfn g f h,hname,hb']
 ·cases hg:uK.get t with
  | none=>rw [hg] at h;cases h
  | some p =>
   rw [hg] at h;cases h;have:=zK h1 (get t p hg);rw [List.getElem?_map,List.getElem?_range (lt t p (get t p hg))] at this;exact Option.some.inj this
 ·cases hg:uK.get t with
  | none=>rw [hg] at h;cases h
  | some p =>
   rw [hg] at h;cases h;have:=zK h2 (get t p hg);rw [List.getElem?_map,List.getElem?_range (lt t p (get t p hg))] at this;exact Option.some.inj this
 ·cases hg:uK.get t with
  | none=>rw [hg] at h;cases h
  | some p =>
   rw [hg] at h;cases h;have:=T.allB_get hz hg;unfold FN at this;have hzz':p.1.zero=some z:=hzz;rw [hzz'] at this;simp only [hzt,Bool.false_or,Bool.and_eq_true] at this;exact ⟨this.1,bE this.2⟩
 ·cases hg:uK.get t with
  | none=>rw [hg] at h;cases h
  | some p =>
   rw [hg] at h
   have h':p.2.desc=.struct fs:=by simpa using h
   have:=T.allB_get hp hg;unfold zJ at this;rw [h'] at this;exact Option.isSome_iff_exists.1 this
def Bu (ω:Nat->Value):Value->Value
 | .chan (some k)=>ω k
 | v=>v
def wl:Value->Bool
 | .chan (some _)=>true
 | v=>am v
theorem Dn {m:M ω} {x x':Value} (h:VRel m x x') (ht:wl x=true):x'=Bu ω x:=by
 cases h with
 | tok k h=>rfl
 | any v h=>cases ht
 | plain _ h=>cases x <;> first | rfl | (simp [am] at h)
 | _=>first | (cases ht;done) | (simp [wl,am] at ht)
theorem E4 {m:M ω} {x:Value} (ht:wl x=true) (ho:∀ k,x=.chan (some k)->de (ω k)=true):VRel m x (Bu ω x):=by
 cases x with
 | chan k =>
  cases k with
  | none=>cases ht
  | some k=>exact .tok k (ho k rfl)
 | _=>exact .plain _ ht
structure Fact where
 op:BinOp
 x:Value
 y:Value
 v:Value
def Fact.is (f:Fact) (op:BinOp) (x y:Value):Bool:=decide (f.op=op) && (A0 2 f.x x && A0 2 f.y y)
def zM:List Fact->BinOp->Value->Value->Option Value
 | [],_,_,_=>none
 | f::fs,op,x,y=>cond (f.is op x y) (some f.v) (zM fs op x y)
structure Fact.ok (ω:Nat->Value) (P:Program) (f:Fact):Prop where
 tx:wl f.x=true
 ty:wl f.y=true
 tv:wl f.v=true
 one:∀ k,f.v=.chan (some k)->de (ω k)=true
 run:∀ t ox oy w,(do eqGuard f.op t ox oy (Bu ω f.x) (Bu ω f.y);binOp f.op t (Bu ω f.x) (Bu ω f.y):Sem Value).run P w=.ok (Bu ω f.v) w
theorem wm {P:Program}:∀ {fs:List Fact},(∀ f∈fs,f.ok ω P)->∀ (op:BinOp) (t:TypeId) (ox oy:Operand) (x y v:Value),zM fs op x y=some v->∀ (m:M ω) (x' y':Value) (w:World),VRel m x x'->VRel m y y' ->
 ∃ v',(do eqGuard op t ox oy x' y';binOp op t x' y':Sem Value).run P w=.ok v' w/\VRel m v v'
 | [],_,op,t,ox,oy,x,y,v,h,_,_,_,_,_,_=>by cases h
 | f::fs,hf,op,t,ox,oy,x,y,v,h,m,x',y',w,hx,hy=>by
  simp only [zM] at h
  cases hi:f.is op x y with
  | false=>rw [hi] at h;exact wm (fun g hg=>hf g (by simp [hg])) op t ox oy x y v h m x' y' w hx hy
  | true =>
   rw [hi] at h
   cases h
   unfold Fact.is at hi;simp only [Bool.and_eq_true] at hi;obtain ⟨h1,h2,h3⟩:=hi;have e1:f.op=op:=of_decide_eq_true h1;have e2:=fG _ _ _ h2;have e3:=fG _ _ _ h3;have hok:=hf f (by simp);subst e1;rw [<-e2] at hx;rw [<-e3] at hy;rw [Dn hx hok.tx,Dn hy hok.ty];exact ⟨_,hok.run t ox oy w,E4 hok.tv hok.one⟩
theorem wrap_i64 {n:Int} (h1:-9223372036854775808<=n) (h2:n<=9223372036854775807):IntKind.i64.wrap n=n:=by simp [IntKind.wrap,IntKind.bits,IntKind.signed];omega
def lenOf:List (TypeId × Nat × Nat)->TypeId->Value->Option Value
 | [],_,_=>none
 | (t,k,j)::r,u,.chan (some i)=>cond (Nat.beq t u && Nat.beq k i) (some (.chan (some j))) (lenOf r u (.chan (some i)))
 | _::_,_,_=>none
structure zN (ω:Nat->Value) (P:Program) (f:TypeId × Nat × Nat):Prop where
 one:de (ω f.2.2)=true
 run:∀ ty w,(Builtin.len_ #[f.1] ty #[ω f.2.1]).run P w=.ok (ω f.2.2) w
theorem wn {P:Program}:∀ {fs:List (TypeId × Nat × Nat)},(∀ f∈fs,zN ω P f)->∀ (t:TypeId) (k:Option Nat) (v:Value),lenOf fs t (.chan k)=some v->∀ (m:M ω) (x':Value) (ty:TypeId) (w:World),VRel m (.chan k) x' ->
 ∃ v',(Builtin.len_ #[t] ty #[x']).run P w=.ok v' w/\VRel m v v'
 | [],_,t,k,v,h,_,_,_,_,_=>by cases h
 | (u,i,j)::fs,hf,t,k,v,h,m,x',ty,w,hx=>by
  cases k with
  | none=>cases h
  | some k =>
   simp only [lenOf] at h
   cases hi:(Nat.beq u t && Nat.beq i k) with
   | false=>rw [hi] at h;exact wn (fun g hg=>hf g (by simp [hg])) t _ v h m x' ty w hx
   | true =>
    rw [hi] at h
    cases h
    rw [Bool.and_eq_true] at hi;have e1:=bE hi.1;have e2:=bE hi.2;subst e1;subst e2;have hok:=hf (u,i,j) (by simp);obtain rfl:=ma hx;exact ⟨_,hok.run ty w,.tok j hok.one⟩
end Go.Proofs.YtgohffhoapkeaaaGreatDoor.Ev
namespace Go.Proofs.YtgohffhoapkeaaaGreatDoor.Ev
open _root_.Go.Proofs.Tryz
noncomputable def nF (f:Func) (a b:T Func):T Func:=.node (some f) a b
noncomputable def lF (f:Func):T Func:=.node (some f) .leaf .leaf
noncomputable def nY (x y:TypeInfo) (a b:T (TypeInfo × TypeInfo)):T (TypeInfo × TypeInfo):=.node (some (x,y)) a b
noncomputable def lY (x y:TypeInfo):T (TypeInfo × TypeInfo):=.node (some (x,y)) .leaf .leaf
noncomputable def nZ (x:TypeInfo) (a b:T (TypeInfo × TypeInfo)):T (TypeInfo × TypeInfo):=nY x x a b
noncomputable def lZ (x:TypeInfo):T (TypeInfo × TypeInfo):=lY x x
noncomputable def Hc:T Func:=(nF f0 (nF f1 (nF f3 (nF f7 (nF f15 (nF f31 (nF f63 (lF f127) (lF f191)) (nF f95 (lF f159) (lF f223))) (nF f47 (nF f79 (lF f143) (lF f207)) (nF f111 (lF f175) .leaf))) (nF f23 (nF f39 (nF f71 (lF f135) (lF f199)) (nF f103 (lF f167) (lF f231))) (nF f55 (nF f87 (lF f151) (lF f215)) (nF f119 (lF f183) .leaf)))) (nF f11 (nF f19 (nF f35 (nF f67 (lF f131) (lF f195)) (nF f99 (lF f163) (lF f227))) (nF f51 (nF f83 (lF f147) (lF f211)) (nF f115 (lF f179) .leaf))) (nF f27 (nF f43 (nF f75 (lF f139) (lF f203)) (nF f107 (lF f171) .leaf)) (nF f59 (nF f91 (lF f155) (lF f219)) (nF f123 (lF f187) .leaf))))) (nF f5 (nF f9 (nF f17 (nF f33 (nF f65 (lF f129) (lF f193)) (nF f97 (lF f161) (lF f225))) (nF f49 (nF f81 (lF f145) (lF f209)) (nF f113 (lF f177) .leaf))) (nF f25 (nF f41 (nF f73 (lF f137) (lF f201)) (nF f105 (lF f169) (lF f233))) (nF f57 (nF f89 (lF f153) (lF f217)) (nF f121 (lF f185) .leaf)))) (nF f13 (nF f21 (nF f37 (nF f69 (lF f133) (lF f197)) (nF f101 (lF f165) (lF f229))) (nF f53 (nF f85 (lF f149) (lF f213)) (nF f117 (lF f181) .leaf))) (nF f29 (nF f45 (nF f77 (lF f141) (lF f205)) (nF f109 (lF f173) .leaf)) (nF f61 (nF f93 (lF f157) (lF f221)) (nF f125 (lF f189) .leaf)))))) (nF f2 (nF f4 (nF f8 (nF f16 (nF f32 (nF f64 (lF f128) (lF f192)) (nF f96 (lF f160) (lF f224))) (nF f48 (nF f80 (lF f144) (lF f208)) (nF f112 (lF f176) .leaf))) (nF f24 (nF f40 (nF f72 (lF f136) (lF f200)) (nF f104 (lF f168) (lF f232))) (nF f56 (nF f88 (lF f152) (lF f216)) (nF f120 (lF f184) .leaf)))) (nF f12 (nF f20 (nF f36 (nF f68 (lF f132) (lF f196)) (nF f100 (lF f164) (lF f228))) (nF f52 (nF f84 (lF f148) (lF f212)) (nF f116 (lF f180) .leaf))) (nF f28 (nF f44 (nF f76 (lF f140) (lF f204)) (nF f108 (lF f172) .leaf)) (nF f60 (nF f92 (lF f156) (lF f220)) (nF f124 (lF f188) .leaf))))) (nF f6 (nF f10 (nF f18 (nF f34 (nF f66 (lF f130) (lF f194)) (nF f98 (lF f162) (lF f226))) (nF f50 (nF f82 (lF f146) (lF f210)) (nF f114 (lF f178) .leaf))) (nF f26 (nF f42 (nF f74 (lF f138) (lF f202)) (nF f106 (lF f170) .leaf)) (nF f58 (nF f90 (lF f154) (lF f218)) (nF f122 (lF f186) .leaf)))) (nF f14 (nF f22 (nF f38 (nF f70 (lF f134) (lF f198)) (nF f102 (lF f166) (lF f230))) (nF f54 (nF f86 (lF f150) (lF f214)) (nF f118 (lF f182) .leaf))) (nF f30 (nF f46 (nF f78 (lF f142) (lF f206)) (nF f110 (lF f174) .leaf)) (nF f62 (nF f94 (lF f158) (lF f222)) (nF f126 (lF f190) .leaf)))))))
noncomputable def uK:T (TypeInfo × TypeInfo):=(nZ t0 (nZ t1 (nZ t3 (nZ t7 (nZ t15 (nZ t31 (nZ t63 (nY t127 t5 (lZ t255) .leaf) (nY t191 t190 (lZ t319) .leaf)) (nY t95 t94 (nZ t159 (lZ t287) .leaf) (lZ t223))) (nZ t47 (nY t79 t78 (nZ t143 (lZ t271) .leaf) (lZ t207)) (nZ t111 (nZ t175 (lZ t303) .leaf) (lZ t239)))) (nZ t23 (nZ t39 (nZ t71 (nZ t135 (lZ t263) .leaf) (nZ t199 (lZ t327) .leaf)) (nZ t103 (nZ t167 (lZ t295) .leaf) (lZ t231))) (nZ t55 (nZ t87 (nZ t151 (lZ t279) .leaf) (lZ t215)) (nZ t119 (nZ t183 (lZ t311) .leaf) (lZ t247))))) (nY t11 t9 (nY t19 t18 (nZ t35 (nZ t67 (nZ t131 (lZ t259) .leaf) (nZ t195 (lZ t323) .leaf)) (nZ t99 (nZ t163 (lZ t291) .leaf) (lZ t227))) (nZ t51 (nZ t83 (nZ t147 (lZ t275) .leaf) (lZ t211)) (nY t115 t114 (nZ t179 (lZ t307) .leaf) (lZ t243)))) (nZ t27 (nZ t43 (nY t75 t74 (nZ t139 (lZ t267) .leaf) (nZ t203 (lZ t331) .leaf)) (nY t107 t106 (nZ t171 (lZ t299) .leaf) (lZ t235))) (nZ t59 (nZ t91 (nZ t155 (lZ t283) .leaf) (lZ t219)) (nZ t123 (nZ t187 (lZ t315) .leaf) (lZ t251)))))) (nZ t5 (nZ t9 (nZ t17 (nZ t33 (nZ t65 (nZ t129 (lZ t257) .leaf) (nZ t193 (lZ t321) .leaf)) (nZ t97 (nZ t161 (lZ t289) .leaf) (lZ t225))) (nZ t49 (nY t81 t74 (nZ t145 (lZ t273) .leaf) (lZ t209)) (nZ t113 (nZ t177 (lZ t305) .leaf) (lZ t241)))) (nZ t25 (nY t41 t40 (nY t73 t72 (nZ t137 (lZ t265) .leaf) (nZ t201 (lZ t329) .leaf)) (nZ t105 (nZ t169 (lZ t297) .leaf) (lZ t233))) (nY t57 t56 (nY t89 t88 (nZ t153 (lY t281 t280) .leaf) (lZ t217)) (nZ t121 (nZ t185 (lZ t313) .leaf) (lY t249 t248))))) (nZ t13 (nZ t21 (nZ t37 (nY t69 t68 (nY t133 t132 (lZ t261) .leaf) (nZ t197 (lZ t325) .leaf)) (nZ t101 (nZ t165 (lZ t293) .leaf) (lZ t229))) (nZ t53 (nZ t85 (nZ t149 (lZ t277) .leaf) (lZ t213)) (nY t117 t116 (nZ t181 (lY t309 t21) .leaf) (lZ t245)))) (nZ t29 (nZ t45 (nZ t77 (nZ t141 (lZ t269) .leaf) (lZ t205)) (nZ t109 (nZ t173 (lY t301 t300) .leaf) (lZ t237))) (nZ t61 (nZ t93 (nZ t157 (lZ t285) .leaf) (lZ t221)) (nZ t125 (nZ t189 (lZ t317) .leaf) (lZ t253))))))) (nZ t2 (nZ t4 (nY t8 t7 (nZ t16 (nZ t32 (nZ t64 (nZ t128 (lZ t256) .leaf) (nZ t192 (lZ t320) .leaf)) (nZ t96 (nZ t160 (lZ t288) .leaf) (lZ t224))) (nZ t48 (nZ t80 (nZ t144 (lZ t272) .leaf) (lZ t208)) (nZ t112 (nZ t176 (lY t304 t303) .leaf) (lZ t240)))) (nZ t24 (nZ t40 (nZ t72 (nZ t136 (lZ t264) .leaf) (nZ t200 (lY t328 t21) .leaf)) (nZ t104 (nZ t168 (lZ t296) .leaf) (lY t232 t231))) (nZ t56 (nZ t88 (nZ t152 (lZ t280) .leaf) (lZ t216)) (nZ t120 (nZ t184 (lY t312 t311) .leaf) (lZ t248))))) (nZ t12 (nZ t20 (nZ t36 (nZ t68 (nZ t132 (lZ t260) .leaf) (nZ t196 (lZ t324) .leaf)) (nY t100 t99 (nZ t164 (lZ t292) .leaf) (lZ t228))) (nZ t52 (nZ t84 (nZ t148 (lY t276 t275) .leaf) (lZ t212)) (nZ t116 (nZ t180 (lZ t308) .leaf) (lZ t244)))) (nZ t28 (nZ t44 (nZ t76 (nZ t140 (lZ t268) .leaf) (lZ t204)) (nZ t108 (nZ t172 (lZ t300) .leaf) (lY t236 t235))) (nZ t60 (nZ t92 (nY t156 t155 (lZ t284) .leaf) (lZ t220)) (nY t124 t123 (nZ t188 (lZ t316) .leaf) (lZ t252)))))) (nY t6 t5 (nY t10 t9 (nZ t18 (nZ t34 (nY t66 t3 (nZ t130 (lZ t258) .leaf) (nZ t194 (lY t322 t321) .leaf)) (nZ t98 (nZ t162 (lZ t290) .leaf) (lZ t226))) (nZ t50 (nZ t82 (nY t146 t145 (lZ t274) .leaf) (lZ t210)) (nZ t114 (nZ t178 (lY t306 t5) .leaf) (lZ t242)))) (nZ t26 (nZ t42 (nZ t74 (nZ t138 (lZ t266) .leaf) (nZ t202 (lY t330 t329) .leaf)) (nZ t106 (nZ t170 (lZ t298) .leaf) (lZ t234))) (nZ t58 (nZ t90 (nZ t154 (lZ t282) .leaf) (lZ t218)) (nY t122 t12 (nZ t186 (lZ t314) .leaf) (lZ t250))))) (nY t14 t13 (nZ t22 (nZ t38 (nZ t70 (nZ t134 (lZ t262) .leaf) (nZ t198 (lY t326 t325) .leaf)) (nZ t102 (nZ t166 (lZ t294) .leaf) (lZ t230))) (nZ t54 (nY t86 t85 (nZ t150 (lZ t278) .leaf) (lZ t214)) (nZ t118 (nZ t182 (lY t310 t21) .leaf) (lZ t246)))) (nY t30 t29 (nZ t46 (nZ t78 (nZ t142 (lZ t270) .leaf) (lZ t206)) (nZ t110 (nZ t174 (lZ t302) .leaf) (lZ t238))) (nY t62 t61 (nZ t94 (nY t158 t157 (lZ t286) .leaf) (lZ t222)) (nZ t126 (nZ t190 (lY t318 t317) .leaf) (lY t254 t253))))))))
noncomputable def tyL:List (TypeInfo × TypeInfo):=(List.range 332).filterMap uK.get
def FO (g:Nat):Option (Array Value):=cond (Nat.beq g 2) (some (Lib.pow10Tab.map fun z=>Value.int .u64 z).toArray) none
noncomputable def CT (sp:FuncId->Option (List Value->AS->Option (Value × AS))) (glob:Nat->Option Value) (meth:TypeId->String->Value->Option (FuncId × Value)) (fs:List Fact) (ls:List (TypeId × Nat × Nat)) (cnv:TypeId->TypeId->Value->Option Value) (rd:Nat->Bool):Ctx:=⟨Tryz.prog,fun f=>Hc.get f,fun t=>(uK.get t).map (·.1),fun t=>(uK.get t).map (·.2.desc),sp,glob,meth,fun op _ x y=>zM fs op x y,fun t x=>lenOf ls t x,cnv,rd,FO⟩
theorem H6 {ω:Nat->Value} (sp:FuncId->Option (List Value->AS->Option (Value × AS))) (glob:Nat->Option Value) {meth:TypeId->String->Value->Option (FuncId × Value)} (hm:∀ t name v g rv,meth t name v=some (g,rv)->∀ (m:M ω) (v':Value),VRel m v v'->∃ rv',VRel m rv rv'/\∀ w,(method (Tryz.prog.types.size+Made.depth) t v' name).run Tryz.prog w=.ok (g,rv') w) {fs:List Fact} (hf:∀ f∈fs,f.ok ω Tryz.prog) {ls:List (TypeId × Nat × Nat)} (hl:∀ f∈ls,zN ω Tryz.prog f) {cnv:TypeId->TypeId->Value->Option Value} (hc:∀ src dst x v,cnv src dst x=some v->∀ (m:M ω) (x':Value) (w:World),VRel m x x'->∃ v',(convert src dst x').run Tryz.prog w=.ok v' w/\VRel m v v') (rd:Nat->Bool):aM ω (CT sp glob meth fs ls cnv rd) :=
 Dm (tyL:=tyL) (by kernel_rfl) (by kernel_rfl) (by kernel_rfl) (by kernel_rfl) (by kernel_rfl) (by kernel_rfl) (by kernel_rfl) (wm hf) (wn hl) hm hc
def noCnv (_ _:TypeId) (_:Value):Option Value:=none
theorem mn {ω:Nat->Value}:∀ src dst x v,noCnv src dst x=some v->∀ (m:M ω) (x':Value) (w:World),VRel m x x'->∃ v',(convert src dst x').run Tryz.prog w=.ok v' w/\VRel m v v':=fun _ _ _ _ h=>by cases h
theorem mixed:Tryz.prog.follows .mixedOrders=true:=by kernel_rfl
end Go.Proofs.YtgohffhoapkeaaaGreatDoor.Ev
namespace Go.Proofs.YtgohffhoapkeaaaGreatDoor.Ev
open Go.RowKit Go.Extern
variable {ω:Nat->Value}
def hBase:Nat:=1000
def Do (t:TypeId):Value:=.chan (some (hBase+t))
def li:Value->Option TypeId
 | .chan (some k)=>cond (Nat.ble hBase k) (some (k-hBase)) none
 | _=>none
def H7 (t:TypeId):Value:=.iface 158 (.agg #[Do t])
def kindOf (t:TypeId):Option Nat :=
 cond (Nat.beq t 84 || (Nat.beq t 131 || Nat.beq t 82)) (some 22) (cond (Nat.beq t 66) (some 2) none)
def mo (t:TypeId):Option TypeId :=
 cond (Nat.beq t 84) (some 82) (cond (Nat.beq t 131) (some 66) none)
def fa (t:TypeId):Bool:=Nat.beq t 82 || Nat.beq t 66
abbrev mC:=List Value->AS->Option (Value × AS)
def mp:mC
 | [.iface u _],s=>some (H7 u,s)
 | _,_=>none
noncomputable def jX:mC
 | [.iface u v],s=>match kindOf u with
  | some k=>cond (de v) (some (.agg #[Do u,.pointer (some ⟨s.n,0,none⟩),.int .u64 ((k+128:Nat):Int)],⟨s.n+1,s.h.put s.n (nA [v] u 0 false false)⟩)) none
  | none=>none
 | _,_=>none
def uj:mC
 | [.agg cs],s=>match cs.toList with
  | [h,.pointer (some _),.int .u64 150]=>match li h with
   | some u=>some (H7 u,s)
   | none=>none
  | _=>none
 | _,_=>none
noncomputable def oJ:mC
 | [.agg cs],s=>match cs.toList with
  | [h,.pointer (some p),.int .u64 150]=>match li h with
   | some u=>match mo u,cq s p 1 with
    | some _,some [.pointer q]=>some (.bool q.isNone,s)
    | _,_=>none
   | none=>none
  | _=>none
 | _,_=>none
noncomputable def oK:mC
 | [.agg cs],s=>match cs.toList with
  | [h,.pointer (some p),.int .u64 150]=>match li h with
   | some u=>match mo u,cq s p 1 with
    | some e,some [.pointer (some q)]=>match kindOf e with
     | some k=>some (.agg #[Do e,.pointer (some q),.int .u64 ((k+384:Nat):Int)],s)
     | none=>none
    | _,_=>none
   | none=>none
  | _=>none
 | _,_=>none
def uk:mC
 | [h],s=>match li h with
  | some u=>match kindOf u with
   | some k=>some (.int .u8 ((k:Nat):Int),s)
   | none=>none
  | none=>none
 | _,_=>none
def mq:mC
 | [.agg cs],s=>match cs.toList with
  | [h]=>match li h with
   | some u=>match mo u with
    | some e=>some (H7 e,s)
    | none=>none
   | none=>none
  | _=>none
 | _,_=>none
def fq:mC
 | [.agg cs,.iface _ (.agg ds)],s=>match cs.toList,ds.toList with
  | [h],[i]=>match li h,li i with
   | some u,some v=>cond (fa u && Nat.beq v 30) (some (.bool true,s)) none
   | _,_=>none
  | _,_=>none
 | _,_=>none
def mr:mC
 | [.agg cs,.iface _ (.agg ds)],s=>match cs.toList,ds.toList with
  | [h],[i]=>match li h,li i with
   | some u,some v=>cond (fa u && fa v) (some (.bool (Nat.beq u v),s)) none
   | _,_=>none
  | _,_=>none
 | _,_=>none
def ft:mC
 | [.agg cs],s=>match cs.toList with
  | [h]=>match li h with
   | some u=>cond (fa u) (some (.bool true,s)) none
   | none=>none
  | _=>none
 | _,_=>none
noncomputable def zO:mC
 | [.agg cs,.agg ds],s=>match cs.toList,ds.toList with
  | [h,.pointer (some p),.int .u64 f],[i,.pointer (some q),.int .u64 g]=>match li h,li i with
   | some u,some v=>match kindOf u,cq s q 1 with
    | some k,some [x]=>cond (fa u && (Nat.beq u v && (Gu f ((k+384:Nat):Int) && (Gu g ((k+128:Nat):Int) && de x)))) (match eY s p [x] with
     | some s'=>some (.tuple #[],s')
     | none=>none) none
    | _,_=>none
   | _,_=>none
  | _,_=>none
 | _,_=>none
noncomputable def IK:List (FuncId × mC):=[(43,mp),(51,jX),(52,uj),(53,oJ),(73,oK),(74,zO),(202,uk),(218,mq),(219,fq),(216,mr),(217,ft)]
def qA:List (FuncId × mC)->FuncId->Option mC
 | [],_=>none
 | (i,k)::r,g=>cond (Nat.beq i g) (some k) (qA r g)
noncomputable def I0 (g:FuncId):Option mC:=qA IK g
theorem nf {Q:FuncId->mC->Prop}:∀ {l:List (FuncId × mC)},(∀ p∈l,Q p.1 p.2)->∀ g k,qA l g=some k->Q g k
 | [],_,g,k,h=>by cases h
 | (i,f)::r,hq,g,k,h=>by
  simp only [qA] at h
  cases hb:Nat.beq i g with
  | true =>
   rw [hb] at h
   cases h
   rw [<-bE hb];exact hq (i,f) (by simp)
  | false=>rw [hb] at h;exact nf (fun p hp=>hq p (by simp [hp])) g k h
def Hands (ω:Nat->Value):Prop:=∀ t,ω (hBase+t)=.pointer (some ⟨5,t,none⟩)
theorem fb {C:Ctx} (hP:C.P=Tryz.prog) {g:FuncId} {fn:Func} (e:Array Value->Sem Value) (hf:Tryz.prog.funcs[g]?=some fn) (hname:(fn.name == "runtime.NumGoroutine")=false) (hb:fn.body.isNone=true) (hn:Extern.findNext fn=none) (he:Extern.find fn=some e)
 {args:Array Value} {w:World} {R:Value->World->Prop} (h:∃ v' w',(e args).run Tryz.prog w=.ok v' w'/\R v' w'):qn C g args w R:=by
 intro q F n o act K Q hF hK;obtain ⟨v',w',hr,hR⟩:=h;rw [hP,run_callFunc_extern hf hname hb hn he,hr];exact hK v' w' hR
section
variable {B:Nat} {X:cK} {m:M ω} {s s':AS} {w:World}
theorem cU.same {v v':Value} (hs:SR B X m s w) (hv:VRel m v v'):cU B X m s w v v' w:=⟨m,Le.refl _,hs,hv,bR _ _⟩
theorem dm (hh:Hands ω) {h v':Value} {u:TypeId} (ht:li h=some u) (hv:VRel m h v'):v'=.pointer (some ⟨5,u,none⟩):=by
 have key:∀ k,h=.chan (some k)->v'=.pointer (some ⟨5,u,none⟩):=by
  intro k hk;subst hk;have ht':cond (Nat.ble hBase k) (some (k-hBase)) none=some u:=ht
  cases hb:Nat.ble hBase k with
  | false=>rw [hb] at ht';cases ht'
  | true =>
   rw [hb] at ht';have hu:k-hBase=u:=Option.some.inj ht';have hle:=Nat.le_of_ble_eq_true hb;have e:=hh u
   have ek:hBase+u=k:=by rw [<-hu];exact Nat.add_sub_cancel' hle
   rw [ek] at e;exact (ma hv).trans e
 cases h with
 | chan c =>
  cases c with
  | none=>cases ht
  | some k=>exact key k rfl
 | _=>cases ht
theorem qB (hh:Hands ω) (u:TypeId):VRel m (Do u) (.pointer (some ⟨5,u,none⟩)):=by
 have:=VRel.tok (m:=m) (hBase+u) (by rw [hh];rfl)
 rwa [hh] at this
theorem um (hh:Hands ω) (u:TypeId):VRel m (H7 u) (.iface 158 (.agg #[.pointer (some ⟨5,u,none⟩)])) :=
 .iface _ _ _ (LRel.agg (l:=[Do u]) (l':=[_]) (LRel.cons (qB hh u) (LRel.nil m)))
theorem dn {cs:Array Value} {l:List Value} (hl:cs.toList=l) {v':Value} (h:VRel m (.agg cs) v'):∃ l',v'=.agg l'.toArray/\LRel m l l':=by
 obtain ⟨cs',rfl,hr⟩:=tX h;exact ⟨cs'.toList,by simp,by rw [<-hl];exact hr⟩
theorem l1 {a:Value} {l:List Value} (h:LRel m [a] l):∃ a',l=[a']/\VRel m a a':=by
 match l,h with
 | [a'],h=>exact ⟨a',rfl,h.tail.1⟩
 | [],h=>exact absurd h.1 (by simp)
 | _::_::_,h=>exact absurd h.1 (by simp)
theorem l3 {a b c:Value} {l:List Value} (h:LRel m [a,b,c] l):∃ a' b' c',l=[a',b',c']/\VRel m a a'/\VRel m b b'/\VRel m c c':=by
 match l,h with
 | [a',b',c'],h=>exact ⟨a',b',c',rfl,h.tail.1,h.tail.2.tail.1,h.tail.2.tail.2.tail.1⟩
 | [],h=>exact absurd h.1 (by simp)
 | [_],h=>exact absurd h.1 (by simp)
 | [_,_],h=>exact absurd h.1 (by simp)
 | _::_::_::_::_,h=>exact absurd h.1 (by simp)
theorem qC {u:TypeId} {k:Nat} (h:kindOf u=some k) (w:World):(Rtype.kind u).run Tryz.prog w=.ok k w:=by
 unfold kindOf at h
 cases h1:Nat.beq u 84 with
 | true=>rw [h1] at h;cases h;obtain rfl:=bE h1;kernel_rfl
 | false =>
  cases h2:Nat.beq u 131 with
  | true=>rw [h1,h2] at h;cases h;obtain rfl:=bE h2;kernel_rfl
  | false =>
   cases h3:Nat.beq u 82 with
   | true=>rw [h1,h2,h3] at h;cases h;obtain rfl:=bE h3;kernel_rfl
   | false =>
    rw [h1,h2,h3] at h
    cases h4:Nat.beq u 66 with
    | true=>rw [h4] at h;cases h;obtain rfl:=bE h4;kernel_rfl
    | false=>rw [h4] at h;cases h
theorem yq (u:TypeId) (v:Value) (w:World):(ReflectliteType.typeOf #[.iface u v]).run Tryz.prog w=.ok (.iface 158 (.agg #[.pointer (some ⟨5,u,none⟩)])) w:=by kernel_rfl
theorem E5 (t:String) (u:TypeId) (hu:Tryz.prog.packed u=false) (w:World):(Rtype.noPack t u).run Tryz.prog w=.ok () w:=by
 simp [Rtype.noPack,run_program,hu]
theorem Bv {u:TypeId} {k:Nat} (h:kindOf u=some k):Tryz.prog.packed u=false:=by
 unfold kindOf at h
 cases h1:Nat.beq u 84 with
 | true=>obtain rfl:=bE h1;kernel_rfl
 | false =>
  cases h2:Nat.beq u 131 with
  | true=>obtain rfl:=bE h2;kernel_rfl
  | false =>
   cases h3:Nat.beq u 82 with
   | true=>obtain rfl:=bE h3;kernel_rfl
   | false =>
    rw [h1,h2,h3] at h
    cases h4:Nat.beq u 66 with
    | true=>obtain rfl:=bE h4;kernel_rfl
    | false=>rw [h4] at h;cases h
theorem uo (u:TypeId) (w:World):(Rtype.ofHandle (.pointer (some ⟨5,u,none⟩))).run Tryz.prog w=.ok u w:=by kernel_rfl
theorem yr (u:TypeId) (w:World):(Rtype.handle u).run Tryz.prog w=.ok (.pointer (some ⟨5,u,none⟩)) w:=by kernel_rfl
theorem uq {u e:TypeId} (h:mo u=some e):(u=84/\e=82)\/(u=131/\e=66):=by
 unfold mo at h
 cases h1:Nat.beq u 84 with
 | true=>rw [h1] at h;cases h;exact .inl ⟨bE h1,rfl⟩
 | false =>
  rw [h1] at h
  cases h2:Nat.beq u 131 with
  | true=>rw [h2] at h;cases h;exact .inr ⟨bE h2,rfl⟩
  | false=>rw [h2] at h;cases h
theorem qD {u:TypeId} (h:fa u=true):u=82\/u=66:=by
 unfold fa at h;rw [Bool.or_eq_true] at h;exact h.imp bE bE
theorem Bw (hh:Hands ω) {vs:List Value} {v:Value} {args:Array Value} (hs:SR B X m s w) (hl:LRel m vs args.toList) (h:mp vs s=some (v,s')) :
 ∃ v' w',(ReflectliteType.typeOf args).run Tryz.prog w=.ok v' w'/\cU B X m s' w v v' w':=by
 unfold mp at h
 split at h
 ·rename_i u x
  cases h
  obtain ⟨x',rfl,hx⟩:=gY hl;obtain ⟨y,_,rfl⟩:=bQ hx;exact ⟨_,w,yq u y w,cU.same hs (um hh u)⟩
 ·cases h
theorem yt (hh:Hands ω) (hB:B<=w.heap.size) {vs:List Value} {v:Value} {args:Array Value} (hs:SR B X m s w) (hl:LRel m vs args.toList) (h:jX vs s=some (v,s')) :
 ∃ v' w',(ReflectliteValue.unpack (args.getD 0 (.tuple #[]))).run Tryz.prog w=.ok v' w'/\cU B X m s' w v v' w':=by
 unfold jX at h
 split at h
 ·rename_i u x
  split at h
  ·rename_i k hk
   cases ho:de x with
   | false=>rw [ho] at h;cases h
   | true =>
    rw [ho] at h
    cases h
    obtain ⟨x',rfl,hx⟩:=gY hl;obtain ⟨y,hy,rfl⟩:=bQ hx;have hcy:cellsOf y=[y]:=gt (by have:=oF hy ho;revert this;cases y <;> simp [Value.oneCell',de])
    have hrun:(ReflectliteValue.unpack (.iface u y)).run Tryz.prog w=.ok (.agg #[.pointer (some ⟨5,u,none⟩),.pointer (some ⟨w.heap.size,0,none⟩),.int .u64 ((k+128:Nat):Int)]) (w.alloc (.cells [y].toArray u)):=by
     simp only [ReflectliteValue.unpack,ReflectliteValue.mk,Sem.run_bind,newVar,newRow,run_newObj_alloc,Result.andThen,yr,qC hk,Sem.run_pure,bj,hcy];rfl
    obtain ⟨h1,h2⟩:=jS (w1:=w.alloc (.cells [y].toArray u)) hs (nA [x] u 0 false false) _ hB rfl (by simp) (fun q hq=>Below.heap_alloc w _ q hq) (oG (LRel.cons hy (LRel.nil m)) u 0);refine ⟨_,_,hrun,_,h2,h1,?_,(bR _ _).alloc hB _⟩;exact LRel.agg (l:=[_,_,_]) (l':=[_,_,_]) (LRel.cons (qB hh u) (LRel.cons (.ptr _ _ ⟨rfl,_,ba _ _ _,rfl⟩) (LRel.cons (.plain _ rfl) (LRel.nil _))))
  ·cases h
 ·cases h
theorem E6 (hh:Hands ω) {vs:List Value} {v:Value} {args:Array Value} (hs:SR B X m s w) (hl:LRel m vs args.toList) (h:uj vs s=some (v,s')) :
 ∃ v' w',(ReflectliteValue.methodAny (ReflectliteValue.valueError "reflectlite.Value.Type" 0) (fun t _ _ _=>ReflectliteType.toType t) args).run Tryz.prog w=.ok v' w'/\cU B X m s' w v v' w':=by
 unfold uj at h
 split at h
 ·rename_i cs
  split at h
  ·rename_i hd p hcs
   split at h
   ·rename_i u hu
    cases h
    obtain ⟨x',rfl,hx⟩:=gY hl;obtain ⟨l',rfl,hr⟩:=dn hcs hx;obtain ⟨a',b',c',rfl,h1,h2,h3⟩:=l3 hr;obtain rfl:=dm hh hu h1;obtain ⟨p',_,rfl⟩:=bu h2;obtain rfl:=bg h3;refine ⟨_,w,?_,cU.same hs (um hh u)⟩;kernel_rfl
   ·cases h
  ·cases h
 ·cases h
theorem Dp (hh:Hands ω) {vs:List Value} {v:Value} {args:Array Value} (hs:SR B X m s w) (hl:LRel m vs args.toList) (h:oJ vs s=some (v,s')) :
 ∃ v' w',(ReflectliteValue.method (ReflectliteValue.valueError "reflectlite.Value.IsNil" 0) ReflectliteValue.isNil args).run Tryz.prog w=.ok v' w'/\cU B X m s' w v v' w':=by
 unfold oJ at h
 split at h
 ·rename_i cs
  split at h
  ·rename_i hd p hcs
   split at h
   ·rename_i u hu
    split at h
    ·rename_i e q he hr0
     cases h
     obtain ⟨x',rfl,hx⟩:=gY hl;obtain ⟨l',rfl,hr⟩:=dn hcs hx;obtain ⟨a',b',c',rfl,h1,h2,h3⟩:=l3 hr;obtain rfl:=dm hh hu h1;obtain ⟨p',hp',rfl⟩:=bu h2;obtain rfl:=bg h3;obtain ⟨l2,g1,g2,g3⟩:=aL hs hr0 hp';obtain ⟨z,rfl,hz⟩:=l1 g1;have hcell:=g3 0 z rfl;rw [show p'.add 0=p' by simp [Addr.add]] at hcell;refine ⟨.bool q.isNone,w,?_,cU.same hs (.plain _ rfl)⟩
     have hpt:(∃ q',z=.pointer (some q')/\q.isNone=false)\/(z=.pointer none/\q.isNone=true):=by
      cases q with
      | none=>exact .inr ⟨kV hz,rfl⟩
      | some q=>obtain ⟨q',_,rfl⟩:=bu hz;exact .inl ⟨q',rfl,rfl⟩
     rcases uq he with ⟨rfl,rfl⟩ | ⟨rfl,rfl⟩
     ·have hparts:(ReflectliteValue.parts (.agg #[.pointer (some ⟨5,84,none⟩),.pointer (some p'),.int .u64 150])).run Tryz.prog w=.ok (some (84,p',150)) w:=by kernel_rfl
      show (do match <-ReflectliteValue.parts (.agg #[.pointer (some ⟨5,84,none⟩),.pointer (some p'),.int .u64 150]) with | none=>_ | some (t,a,fl)=>ReflectliteValue.isNil t a fl (fl % 32):Sem Value).run Tryz.prog w=_;simp only [Sem.run_bind,hparts,Result.andThen]
      rcases hpt with ⟨q',rfl,hq⟩ | ⟨rfl,hq⟩ <;> simp [ReflectliteValue.isNil,loadVar,isAgg,run_underlying Tryz.underlying84,load,Sem.run,hcell,hq]
     ·have hparts:(ReflectliteValue.parts (.agg #[.pointer (some ⟨5,131,none⟩),.pointer (some p'),.int .u64 150])).run Tryz.prog w=.ok (some (131,p',150)) w:=by kernel_rfl
      show (do match <-ReflectliteValue.parts (.agg #[.pointer (some ⟨5,131,none⟩),.pointer (some p'),.int .u64 150]) with | none=>_ | some (t,a,fl)=>ReflectliteValue.isNil t a fl (fl % 32):Sem Value).run Tryz.prog w=_;simp only [Sem.run_bind,hparts,Result.andThen]
      rcases hpt with ⟨q',rfl,hq⟩ | ⟨rfl,hq⟩ <;> simp [ReflectliteValue.isNil,loadVar,isAgg,run_underlying Tryz.underlying131,load,Sem.run,hcell,hq]
    ·cases h
   ·cases h
  ·cases h
 ·cases h
theorem Dq (hh:Hands ω) {vs:List Value} {v:Value} {args:Array Value} (hs:SR B X m s w) (hl:LRel m vs args.toList) (h:oK vs s=some (v,s')) :
 ∃ v' w',(ReflectliteValue.method (ReflectliteValue.valueError "reflectlite.Value.Elem" 0) ReflectliteValue.elem args).run Tryz.prog w=.ok v' w'/\cU B X m s' w v v' w':=by
 unfold oK at h
 split at h
 ·rename_i cs
  split at h
  ·rename_i hd p hcs
   split at h
   ·rename_i u hu
    split at h
    ·rename_i e q he hr0
     split at h
     ·rename_i k hk
      cases h
      obtain ⟨x',rfl,hx⟩:=gY hl;obtain ⟨l',rfl,hr⟩:=dn hcs hx;obtain ⟨a',b',c',rfl,h1,h2,h3⟩:=l3 hr;obtain rfl:=dm hh hu h1;obtain ⟨p',hp',rfl⟩:=bu h2;obtain rfl:=bg h3;obtain ⟨l2,g1,g2,g3⟩:=aL hs hr0 hp';obtain ⟨z,rfl,hz⟩:=l1 g1;have hcell:=g3 0 z rfl;rw [show p'.add 0=p' by simp [Addr.add]] at hcell;obtain ⟨q',hq',rfl⟩:=bu hz;refine ⟨.agg #[.pointer (some ⟨5,e,none⟩),.pointer (some q'),.int .u64 ((k+384:Nat):Int)],w,?_,cU.same hs (LRel.agg (l:=[_,_,_]) (l':=[_,_,_]) (LRel.cons (qB hh e) (LRel.cons (.ptr _ _ hq') (LRel.cons (.plain _ rfl) (LRel.nil _)))))⟩
      rcases uq he with ⟨rfl,rfl⟩ | ⟨rfl,rfl⟩
      ·have hparts:(ReflectliteValue.parts (.agg #[.pointer (some ⟨5,84,none⟩),.pointer (some p'),.int .u64 150])).run Tryz.prog w=.ok (some (84,p',150)) w:=by kernel_rfl
       have hel:(Rtype.elem? 84).run Tryz.prog w=.ok (some 82) w:=by kernel_rfl
       have hmk:(ReflectliteValue.mk 82 q' ReflectliteValue.flagAddr).run Tryz.prog w=.ok (.agg #[.pointer (some ⟨5,82,none⟩),.pointer (some q'),.int .u64 ((k+384:Nat):Int)]) w:=by
        cases hk
        kernel_rfl
       show (do match <-ReflectliteValue.parts (.agg #[.pointer (some ⟨5,84,none⟩),.pointer (some p'),.int .u64 150]) with | none=>_ | some (t,a,fl)=>ReflectliteValue.elem t a fl (fl % 32):Sem Value).run Tryz.prog w=_;simp only [Sem.run_bind,hparts,Result.andThen];simp [ReflectliteValue.elem,loadVar,isAgg,run_underlying Tryz.underlying84,load,Sem.run,hcell,hel,hmk]
      ·have hparts:(ReflectliteValue.parts (.agg #[.pointer (some ⟨5,131,none⟩),.pointer (some p'),.int .u64 150])).run Tryz.prog w=.ok (some (131,p',150)) w:=by kernel_rfl
       have hel:(Rtype.elem? 131).run Tryz.prog w=.ok (some 66) w:=by kernel_rfl
       have hmk:(ReflectliteValue.mk 66 q' ReflectliteValue.flagAddr).run Tryz.prog w=.ok (.agg #[.pointer (some ⟨5,66,none⟩),.pointer (some q'),.int .u64 ((k+384:Nat):Int)]) w:=by
        cases hk
        kernel_rfl
       show (do match <-ReflectliteValue.parts (.agg #[.pointer (some ⟨5,131,none⟩),.pointer (some p'),.int .u64 150]) with | none=>_ | some (t,a,fl)=>ReflectliteValue.elem t a fl (fl % 32):Sem Value).run Tryz.prog w=_;simp only [Sem.run_bind,hparts,Result.andThen];simp [ReflectliteValue.elem,loadVar,isAgg,run_underlying Tryz.underlying131,load,Sem.run,hcell,hel,hmk]
     ·cases h
    ·cases h
   ·cases h
  ·cases h
 ·cases h
theorem E7 (hh:Hands ω) {vs:List Value} {v:Value} {args:Array Value} (hs:SR B X m s w) (hl:LRel m vs args.toList) (h:uk vs s=some (v,s')) :
 ∃ v' w',((ReflectliteType.abiMethod fun t=>do pure (.int .u8 (<-Rtype.kind t))) args).run Tryz.prog w=.ok v' w'/\cU B X m s' w v v' w':=by
 unfold uk at h
 split at h
 ·rename_i hd
  split at h
  ·rename_i u hu
   split at h
   ·rename_i k hk
    cases h
    obtain ⟨x',rfl,hx⟩:=gY hl;obtain rfl:=dm hh hu hx;refine ⟨.int .u8 ((k:Nat):Int),w,?_,cU.same hs (.plain _ rfl)⟩;show (Rtype.ofHandle (.pointer (some ⟨5,u,none⟩)) >>= fun t=>Rtype.noPack _ t >>= fun _=>Rtype.kind t >>= fun k=>pure (Value.int .u8 (k:Int)):Sem Value).run Tryz.prog w=_;simp only [Sem.run_bind,uo,Result.andThen,E5 _ u (Bv hk),qC hk,Sem.run_pure]
   ·cases h
  ·cases h
 ·cases h
theorem By (hh:Hands ω) {vs:List Value} {v:Value} {args:Array Value} (hs:SR B X m s w) (hl:LRel m vs args.toList) (h:mq vs s=some (v,s')) :
 ∃ v' w',(ReflectliteType.method ReflectliteType.elem args).run Tryz.prog w=.ok v' w'/\cU B X m s' w v v' w':=by
 unfold mq at h
 split at h
 ·rename_i cs
  split at h
  ·rename_i hd hcs
   split at h
   ·rename_i u hu
    split at h
    ·rename_i e he
     cases h
     obtain ⟨x',rfl,hx⟩:=gY hl;obtain ⟨l',rfl,hr⟩:=dn hcs hx;obtain ⟨a',rfl,h1⟩:=l1 hr;obtain rfl:=dm hh hu h1;refine ⟨_,w,?_,cU.same hs (um hh e)⟩
     rcases uq he with ⟨rfl,rfl⟩ | ⟨rfl,rfl⟩ <;> kernel_rfl
    ·cases h
   ·cases h
  ·cases h
 ·cases h
theorem ru (hh:Hands ω) {vs:List Value} {v:Value} {args:Array Value} (hs:SR B X m s w) (hl:LRel m vs args.toList) (h:ft vs s=some (v,s')) :
 ∃ v' w',((ReflectliteType.method fun t=>do Rtype.noPackHeld "Comparable" t;pure (.bool (<-typeInfo t).comparable)) args).run Tryz.prog w=.ok v' w'/\cU B X m s' w v v' w':=by
 unfold ft at h
 split at h
 ·rename_i cs
  split at h
  ·rename_i hd hcs
   split at h
   ·rename_i u hu
    cases he:fa u with
    | false=>rw [he] at h;cases h
    | true =>
     rw [he] at h
     cases h
     obtain ⟨x',rfl,hx⟩:=gY hl;obtain ⟨l',rfl,hr⟩:=dn hcs hx;obtain ⟨a',rfl,h1⟩:=l1 hr;obtain rfl:=dm hh hu h1;refine ⟨.bool true,w,?_,cU.same hs (.plain _ rfl)⟩
     rcases qD he with rfl | rfl <;> kernel_rfl
   ·cases h
  ·cases h
 ·cases h
theorem Dr (hh:Hands ω) {cs ds:Array Value} {t:TypeId} {hd i:Value} (h1:cs.toList=[hd]) (h2:ds.toList=[i]) {u v:TypeId} (hu:li hd=some u) (hv:li i=some v) {args:Array Value} (hl:LRel m [.agg cs,.iface t (.agg ds)] args.toList) :
 args=#[.agg #[.pointer (some ⟨5,u,none⟩)],.iface t (.agg #[.pointer (some ⟨5,v,none⟩)])]:=by
 obtain ⟨x',y',rfl,hx,hy⟩:=ss hl;obtain ⟨l',rfl,hr⟩:=dn h1 hx;obtain ⟨a',rfl,g1⟩:=l1 hr;obtain rfl:=dm hh hu g1;obtain ⟨z,hz,rfl⟩:=bQ hy;obtain ⟨l2,rfl,hr2⟩:=dn h2 hz;obtain ⟨b',rfl,g2⟩:=l1 hr2;obtain rfl:=dm hh hv g2;rfl
theorem rx (hh:Hands ω) {vs:List Value} {v:Value} {args:Array Value} (hs:SR B X m s w) (hl:LRel m vs args.toList) (h:fq vs s=some (v,s')) :
 ∃ v' w',(ReflectliteType.relation "Implements" ReflectliteType.implements_ args).run Tryz.prog w=.ok v' w'/\cU B X m s' w v v' w':=by
 unfold fq at h
 split at h
 ·rename_i cs t ds
  split at h
  ·rename_i hd i hcs hds
   split at h
   ·rename_i u x hu hx
    cases he:(fa u && Nat.beq x 30) with
    | false=>rw [he] at h;cases h
    | true =>
     rw [he] at h
     cases h
     rw [Bool.and_eq_true] at he;obtain rfl:=bE he.2;rw [Dr hh hcs hds hu hx hl];refine ⟨.bool true,w,?_,cU.same hs (.plain _ rfl)⟩
     rcases qD he.1 with rfl | rfl <;> kernel_rfl
   ·cases h
  ·cases h
 ·cases h
theorem Bz (hh:Hands ω) {vs:List Value} {v:Value} {args:Array Value} (hs:SR B X m s w) (hl:LRel m vs args.toList) (h:mr vs s=some (v,s')) :
 ∃ v' w',(ReflectliteType.relation "AssignableTo" ReflectliteType.assignableTo args).run Tryz.prog w=.ok v' w'/\cU B X m s' w v v' w':=by
 unfold mr at h
 split at h
 ·rename_i cs t ds
  split at h
  ·rename_i hd i hcs hds
   split at h
   ·rename_i u x hu hx
    cases he:(fa u && fa x) with
    | false=>rw [he] at h;cases h
    | true =>
     rw [he] at h
     cases h
     rw [Bool.and_eq_true] at he;rw [Dr hh hcs hds hu hx hl];refine ⟨.bool (Nat.beq u x),w,?_,cU.same hs (.plain _ rfl)⟩
     rcases qD he.1 with rfl | rfl <;> rcases qD he.2 with rfl | rfl <;> kernel_rfl
   ·cases h
  ·cases h
 ·cases h
theorem zP {v x val:Value} {u:TypeId} {p q:Addr} {f g:Nat} {w':World} (hf:(f / ReflectliteValue.flagAddr % 2==0)=false) (h1:(ReflectliteValue.parts v).run Tryz.prog w=.ok (some (u,p,f)) w) (h2:(ReflectliteValue.parts x).run Tryz.prog w=.ok (some (u,q,g)) w)
 (h3:(loadVar u q).run Tryz.prog w=.ok val w) (h4:(Rtype.directlyAssignable u u).run Tryz.prog w=.ok true w) (h5:(storeVar u p val).run Tryz.prog w=.ok () w'):(ReflectliteValue.set #[v,x]).run Tryz.prog w=.ok (.tuple #[]) w':=by
 obtain ⟨k,k2,k3,e1,e2,e3⟩:∃ (k:Option (TypeId × Addr × Nat)->Option (TypeId × Addr × Nat)->Sem Value) (k2:Bool->Sem Value) (k3:Value->Bool->Sem Value),
  ReflectliteValue.set #[v,x]=(ReflectliteValue.parts v >>= fun a=>ReflectliteValue.parts x >>= fun b=>k a b) /\
  k (some (u,p,f)) (some (u,q,g))=k2 (f / ReflectliteValue.flagAddr % 2==0) /\
  (k2 false=(loadVar u q >>= fun val=>Rtype.directlyAssignable u u >>= fun b=>k3 val b)/\∀ val,k3 val true=(storeVar u p val >>= fun _=>pure (.tuple #[]))) :=
  ⟨_,fun b=>if b=true then _ else _,_,rfl,rfl,rfl,fun _=>rfl⟩
 rw [e1];simp only [Sem.run_bind,h1,h2,Result.andThen];rw [e2,hf,e3.1];simp only [Sem.run_bind,h3,h4,Result.andThen];rw [e3.2];simp only [Sem.run_bind,h5,Result.andThen,Sem.run_pure]
theorem GB (hh:Hands ω) {vs:List Value} {v:Value} {args:Array Value} (hs:SR B X m s w) (hl:LRel m vs args.toList) (h:zO vs s=some (v,s')) :
 ∃ v' w',(ReflectliteValue.set args).run Tryz.prog w=.ok v' w'/\cU B X m s' w v v' w':=by
 unfold zO at h
 split at h
 ·rename_i cs ds
  split at h
  ·rename_i hd p f i q g hcs hds
   split at h
   ·rename_i u x hu hx
    split at h
    ·rename_i k y hk hr0
     cases hc:(fa u && (Nat.beq u x && (Gu f ((k+384:Nat):Int) && (Gu g ((k+128:Nat):Int) && de y)))) with
     | false=>rw [hc] at h;cases h
     | true =>
      rw [hc] at h;simp only [cond_true] at h;simp only [Bool.and_eq_true] at hc;obtain ⟨he,hux,hf,hg,ho⟩:=hc;obtain rfl:=bE hux;obtain rfl:=m9 hf;obtain rfl:=m9 hg
      split at h
      ·rename_i s2 hw
       cases h
       obtain ⟨x1,x2,rfl,hx1,hx2⟩:=ss hl;obtain ⟨l',rfl,hr⟩:=dn hcs hx1;obtain ⟨a',b',c',rfl,h1,h2,h3⟩:=l3 hr;obtain ⟨l2,rfl,hr2⟩:=dn hds hx2;obtain ⟨a2,b2,c2,rfl,j1,j2,j3⟩:=l3 hr2;obtain rfl:=dm hh hu h1;obtain rfl:=dm hh hx j1;obtain ⟨p',hp',rfl⟩:=bu h2;obtain ⟨q',hq',rfl⟩:=bu j2;obtain rfl:=bg h3;obtain rfl:=bg j3;obtain ⟨l3',g1,g2,g3⟩:=aL hs hr0 hq';obtain ⟨z,rfl,hz⟩:=l1 g1;have hcell:=g3 0 z rfl;rw [show q'.add 0=q' by simp [Addr.add]] at hcell;obtain ⟨w',hst,hs',hb⟩:=dR (P:=Tryz.prog) hs hw hp' (LRel.cons hz (LRel.nil m));have hoz:cellsOf z=[z]:=gt (by have:=oF hz ho;revert this;cases z <;> simp [Value.oneCell',de]);refine ⟨.tuple #[],w',?_,m,Le.refl _,hs',LRel.tuple (l:=[]) (l':=[]) (LRel.nil m),hb⟩
       rcases qD he with rfl | rfl
       ·cases hk
        refine zP (u:=82) (p:=p') (q:=q') (f:=406) (g:=150) (val:=z) (by decide) (by kernel_rfl) (by kernel_rfl) ?_ (by kernel_rfl) ?_
        ·simp [loadVar,isAgg,run_underlying Tryz.underlying82,load,Sem.run,hcell]
        ·have hsz:(sizeOf 82).run Tryz.prog w=.ok 1 w:=by kernel_rfl
         simp only [storeVar,Sem.run_bind,hsz,Result.andThen,bj,hoz]
         simpa using hst
       ·cases hk
        refine zP (u:=66) (p:=p') (q:=q') (f:=386) (g:=130) (val:=z) (by decide) (by kernel_rfl) (by kernel_rfl) ?_ (by kernel_rfl) ?_
        ·simp [loadVar,isAgg,run_underlying Tryz.underlying66,load,Sem.run,hcell]
        ·have hsz:(sizeOf 66).run Tryz.prog w=.ok 1 w:=by kernel_rfl
         simp only [storeVar,Sem.run_bind,hsz,Result.andThen,bj,hoz]
         simpa using hst
      ·cases h
    ·cases h
   ·cases h
  ·cases h
 ·cases h
end
def zQ (t:TypeId) (name:String) (v:Value):Option (FuncId × Value) :=
 cond (Nat.beq t 158 && name == "Kind") (match v with
 | .agg cs=>match cs.toList with
  | [h]=>some (202,h)
  | _=>none
 | _=>none) none
theorem wq:∀ t name v g rv,zQ t name v=some (g,rv)->∀ (m:M ω) (v':Value),VRel m v v'->∃ rv',VRel m rv rv'/\∀ w,(method (Tryz.prog.types.size+Made.depth) t v' name).run Tryz.prog w=.ok (g,rv') w:=by
 intro t name v g rv h m v' hv;unfold zQ at h
 cases hc:(Nat.beq t 158 && name == "Kind") with
 | false=>rw [hc] at h;cases h
 | true =>
  rw [hc] at h;simp only [cond_true] at h;rw [Bool.and_eq_true] at hc;obtain rfl:=bE hc.1
  obtain rfl:name= "Kind":=by simpa using hc.2
  split at h
  ·split at h
   ·rename_i cs hd hcs
    cases h
    obtain ⟨l',rfl,hr⟩:=dn hcs hv;obtain ⟨a',rfl,h1⟩:=l1 hr;exact ⟨a',h1,fun w=>by kernel_rfl⟩
   ·cases h
  ·cases h
def globT (g:Nat):Option Value:=cond (Nat.beq g 0) (some (H7 30)) none
noncomputable def CE (fs:List Fact) (ls:List (TypeId × Nat × Nat)) (cnv:TypeId->TypeId->Value->Option Value) (rd:Nat->Bool):Ctx:=CT I0 globT zQ fs ls cnv rd
def gj (ω:Nat->Value) (C:Ctx) (g:FuncId) (k:mC):Prop:=∀ vs s v s',k vs s=some (v,s')->∀ (B:Nat) (X:cK) (m:M ω) (w:World) (args:Array Value),SR B X m s w->LRel m vs args.toList->Bs ω C B w->qn C g args w (cU B X m s' w v)
section
variable {C:Ctx}
theorem ws (hh:Hands ω) (hP:C.P=Tryz.prog):gj ω C 43 mp:=by
 intro vs s v s' hv B X m w args hs hr hB;exact fb hP ReflectliteType.typeOf Tryz.func43 (by kernel_rfl) (by kernel_rfl) (by kernel_rfl) (by kernel_rfl) (Bw hh hs hr hv)
theorem ut (hh:Hands ω) (hP:C.P=Tryz.prog):gj ω C 51 jX:=by
 intro vs s v s' hv B X m w args hs hr hB;exact fb hP (fun args=>ReflectliteValue.unpack (args.getD 0 (.tuple #[]))) Tryz.func51 (by kernel_rfl) (by kernel_rfl) (by kernel_rfl) (by kernel_rfl) (yt hh hB.le hs hr hv)
theorem BA (hh:Hands ω) (hP:C.P=Tryz.prog):gj ω C 52 uj:=by
 intro vs s v s' hv B X m w args hs hr hB;exact fb hP (ReflectliteValue.methodAny (ReflectliteValue.valueError "reflectlite.Value.Type" 0) (fun t _ _ _=>ReflectliteType.toType t)) Tryz.func52 (by kernel_rfl) (by kernel_rfl) (by kernel_rfl) (by kernel_rfl) (E6 hh hs hr hv)
theorem yu (hh:Hands ω) (hP:C.P=Tryz.prog):gj ω C 53 oJ:=by
 intro vs s v s' hv B X m w args hs hr hB;exact fb hP (ReflectliteValue.method (ReflectliteValue.valueError "reflectlite.Value.IsNil" 0) ReflectliteValue.isNil) Tryz.func53 (by kernel_rfl) (by kernel_rfl) (by kernel_rfl) (by kernel_rfl) (Dp hh hs hr hv)
theorem yv (hh:Hands ω) (hP:C.P=Tryz.prog):gj ω C 73 oK:=by
 intro vs s v s' hv B X m w args hs hr hB;exact fb hP (ReflectliteValue.method (ReflectliteValue.valueError "reflectlite.Value.Elem" 0) ReflectliteValue.elem) Tryz.func73 (by kernel_rfl) (by kernel_rfl) (by kernel_rfl) (by kernel_rfl) (Dq hh hs hr hv)
theorem Ds (hh:Hands ω) (hP:C.P=Tryz.prog):gj ω C 74 zO:=by
 intro vs s v s' hv B X m w args hs hr hB;exact fb hP ReflectliteValue.set Tryz.func74 (by kernel_rfl) (by kernel_rfl) (by kernel_rfl) (by kernel_rfl) (GB hh hs hr hv)
theorem BB (hh:Hands ω) (hP:C.P=Tryz.prog):gj ω C 202 uk:=by
 intro vs s v s' hv B X m w args hs hr hB;exact fb hP (ReflectliteType.abiMethod fun t=>do pure (.int .u8 (<-Rtype.kind t))) Tryz.func202 (by kernel_rfl) (by kernel_rfl) (by kernel_rfl) (by kernel_rfl) (E7 hh hs hr hv)
theorem wt (hh:Hands ω) (hP:C.P=Tryz.prog):gj ω C 218 mq:=by
 intro vs s v s' hv B X m w args hs hr hB;exact fb hP (ReflectliteType.method ReflectliteType.elem) Tryz.func218 (by kernel_rfl) (by kernel_rfl) (by kernel_rfl) (by kernel_rfl) (By hh hs hr hv)
theorem oo (hh:Hands ω) (hP:C.P=Tryz.prog):gj ω C 219 fq:=by
 intro vs s v s' hv B X m w args hs hr hB;exact fb hP (ReflectliteType.relation "Implements" ReflectliteType.implements_) Tryz.func219 (by kernel_rfl) (by kernel_rfl) (by kernel_rfl) (by kernel_rfl) (rx hh hs hr hv)
theorem wu (hh:Hands ω) (hP:C.P=Tryz.prog):gj ω C 216 mr:=by
 intro vs s v s' hv B X m w args hs hr hB;exact fb hP (ReflectliteType.relation "AssignableTo" ReflectliteType.assignableTo) Tryz.func216 (by kernel_rfl) (by kernel_rfl) (by kernel_rfl) (by kernel_rfl) (Bz hh hs hr hv)
theorem oq (hh:Hands ω) (hP:C.P=Tryz.prog):gj ω C 217 ft:=by
 intro vs s v s' hv B X m w args hs hr hB;exact fb hP (ReflectliteType.method fun t=>do Rtype.noPackHeld "Comparable" t;pure (.bool (<-typeInfo t).comparable)) Tryz.func217 (by kernel_rfl) (by kernel_rfl) (by kernel_rfl) (by kernel_rfl) (ru hh hs hr hv)
theorem Dt (hh:Hands ω) (hP:C.P=Tryz.prog):∀ p∈IK,gj ω C p.1 p.2:=by
 intro p hp;simp only [IK,List.mem_cons,List.not_mem_nil,or_false] at hp
 rcases hp with rfl | rfl | rfl | rfl | rfl | rfl | rfl | rfl | rfl | rfl | rfl
 ·exact ws hh hP
 ·exact ut hh hP
 ·exact BA hh hP
 ·exact yu hh hP
 ·exact yv hh hP
 ·exact Ds hh hP
 ·exact BB hh hP
 ·exact wt hh hP
 ·exact oo hh hP
 ·exact wu hh hP
 ·exact oq hh hP
end
theorem GC (hh:Hands ω) {fs:List Fact} (hf:∀ f∈fs,f.ok ω Tryz.prog) {ls:List (TypeId × Nat × Nat)} (hl:∀ f∈ls,zN ω Tryz.prog f) {cnv:TypeId->TypeId->Value->Option Value}
 (hc:∀ src dst x v,cnv src dst x=some v->∀ (m:M ω) (x':Value) (w:World),VRel m x x'->∃ v',(convert src dst x').run Tryz.prog w=.ok v' w/\VRel m v v') (rd:Nat->Bool):uJ ω (CE fs ls cnv rd) :=
 ⟨H6 I0 globT wq hf hl hc rd,mixed,fun g k hk=>nf (Q:=gj ω (CE fs ls cnv rd)) (Dt hh rfl) g k hk⟩
end Go.Proofs.YtgohffhoapkeaaaGreatDoor.Ev
namespace Go.Proofs.YtgohffhoapkeaaaGreatDoor
section
open Go.ChangeShapes Go.WideShapes Go.ChangeAt Go.RowKit Go.Joins Go.Deep
theorem own:ownKnob Tryz.prog.godebug=none:=by kernel_rfl
theorem laidOut:laidOutB Tryz.prog=true:=by kernel_rfl
theorem GD:Tryz.prog.globalNamed "errors.errorType"=some 0:=by kernel_rfl
theorem E8:(Tryz.prog.cutTypes.find? (·.1 == "internal/reflectlite.rtype")).map (·.2)=some 158:=by kernel_rfl
theorem GE:((List.range Tryz.prog.types.size).filter fun t=>Tryz.prog.rowNamed t [101,114,114,111,114])=[30]:=by kernel_rfl
def Du:List (String × DataW Unit):=[("math/bits.deBruijn32tab",Rows.laid_math_bits_deBruijn32tab),("math/bits.deBruijn64tab",Rows.laid_math_bits_deBruijn64tab),("internal/strconv.uint64pow10",Rows.laid_internal_strconv_uint64pow10)]
def oP:List (String × DataW Unit):=[("math/bits.deBruijn32tab",Rows.laid_math_bits_deBruijn32tab),("math/bits.deBruijn64tab",Rows.laid_math_bits_deBruijn64tab),("internal/strconv.uint64pow10",Rows.laid_internal_strconv_uint64pow10),("errors.errorType",Rows.laid_errors_errorType)]
theorem oQ {W:World} (h:laidMetH Tryz.prog oP W):W.cell? ⟨0,0,none⟩=some (.iface 158 (.agg #[.pointer (some ⟨5,30,none⟩)])):=by
 have h':laidMet Tryz.prog Du W/\handlesMet Tryz.prog [("errors.errorType",Rows.laid_errors_errorType)] W:=h;obtain ⟨name,u,ty,e1,e2,e3,e4,e5⟩:=h'.2 _ (List.mem_singleton.2 rfl);have en:name=[101,114,114,111,114]:=(Option.some.inj e1).symm;subst en;obtain rfl:=Option.some.inj (E8.symm.trans e2);have hm:ty∈(List.range Tryz.prog.types.size).filter fun t=>Tryz.prog.rowNamed t [101,114,114,111,114]:=List.mem_filter.2 ⟨List.mem_range.2 e3,e4⟩;rw [GE] at hm;obtain rfl:=List.mem_singleton.1 hm
 have hh:typeHandle Tryz.prog 30=.pointer (some ⟨5,30,none⟩):=by kernel_rfl
 rw [hh] at e5
 simpa using World.var?_cell GD e5 0
theorem Hh {W:World} (h:laidMetH Tryz.prog oP W):∀ g cs,Ev.FO g=some cs->g<W.heap.size/\∃ t fz,W.heap[g]?=some (.cells cs t fz):=by
 intro g0 cs0 hg0;unfold Ev.FO at hg0
 cases hb:Nat.beq g0 2 with
 | false=>rw [hb] at hg0;cases hg0
 | true =>
  rw [hb] at hg0;obtain rfl:=bE hb
  cases hg0
  have h':laidMet Tryz.prog Du W/\handlesMet Tryz.prog [("errors.errorType",Rows.laid_errors_errorType)] W:=h;obtain ⟨ps,⟨_,_,_,_,_,_,_,_,_,_,⟨_,_,_,_,_,_,_,_,_,_,⟨g,t,cs,fuel,p,q,hg,ht,hv,hd,_,_⟩,_⟩,_⟩,_,_⟩:=h'.1;obtain rfl:=Option.some.inj ((show Tryz.prog.globalNamed "internal/strconv.uint64pow10"=some 2 by kernel_rfl).symm.trans hg);obtain rfl:=Option.some.inj ((show (Tryz.prog.globals[2]?).map (·.type)=some 293 by kernel_rfl).symm.trans ht);obtain ⟨xs,m,_,ex,hcl,hl,hel⟩:=DataW.trod_array Tryz.underlying293 hd
  have c5:Tryz.prog.cellsOf 58=1:=by kernel_rfl
  have c6:Tryz.prog.cellsOf 293=20:=by kernel_rfl
  have ecs:cs=(Lib.pow10Tab.map fun z=>Value.int .u64 z).toArray:=by
   refine Array.ext (by rw [<-Array.length_toList,hcl,c6];rfl) fun r hr1 hr2=>?_
   have hr:r<20:=by simpa [Lib.pow10Tab] using hr2
   have hE:=hel r hr;rw [c5,Nat.mul_one,gE (by omega)] at hE;obtain ⟨z,e1,e2,_⟩:=DataW.trod_int Tryz.underlying58 hE;have e3:(xs.map (·.1))=Lib.pow10Tab.map fun n=>(DataW.lit (.int .u64 n):DataW Unit):=((DataW.agg.inj (Prod.mk.inj ex).1).symm).trans (by rfl)
   have e4:(xs.map (·.1))[r]?=(Lib.pow10Tab.map fun n=>(DataW.lit (.int .u64 n):DataW Unit))[r]?:=by rw [e3]
   have hlp:Lib.pow10Tab.length=20:=by simp [Lib.pow10Tab]
   rw [List.getElem?_map,List.getElem?_map,gE (by omega:r<xs.length),gE (by omega:r<Lib.pow10Tab.length),e2] at e4;simp only [Option.map_some,Option.some.injEq,DataW.lit.injEq,Lit.int.injEq,true_and] at e4
   have h0:((cs.toList.drop r).take 1)[0]?=some (.int .u64 z):=by rw [e1];rfl
   have h1:cs[r]?=some (.int .u64 z):=by simpa using h0
   rw [Array.getElem?_eq_getElem hr1] at h1;rw [Option.some.inj h1,e4];simp
  subst ecs;simp only [World.var?,hg,Option.bind_some] at hv
  split at hv
  ·rename_i cs' t' fz' hcs
   cases hv
   exact ⟨(aS.1 hcs).1,t',fz',hcs⟩
  ·cases hv
def qE (d:DataW Unit):Array Value:=match d with
 | .agg l=>(l.map fun
  | .lit (.int k n)=>Value.int k n
  | _=>.nilIface).toArray
 | _=>#[]
def zR (h:Array Obj) (g:Nat) (cs:Array Value):Array Obj:=h.modify g fun
 | .cells _ t frozen=>.cells cs t frozen
 | o=>o
noncomputable def mD (os:Os):World :=
 let w0:=World.holding Tryz.prog os ⟨#[],#[],[]⟩
 {w0 with heap:=zR (zR (zR (zR w0.heap 0 #[.iface 158 (.agg #[.pointer (some ⟨5,30,none⟩)])]) 2 (qE Rows.laid_internal_strconv_uint64pow10)) 3 (qE Rows.laid_math_bits_deBruijn32tab)) 4 (qE Rows.laid_math_bits_deBruijn64tab)}
theorem qF (os:Os) (args:Array Value):laidMet Tryz.prog Du ((mD os).forCall (fun _ _=>0) ⟨#[],args,[]⟩).memory :=
 laidMet_of_run' 100 (by kernel_rfl) (by kernel_rfl)
theorem qX (os:Os) (args:Array Value):laidMetH Tryz.prog oP ((mD os).forCall (fun _ _=>0) ⟨#[],args,[]⟩).memory :=
 laidMetH_of_parts (qF os args) (by kernel_rfl)
open Ev
variable {ω:Nat->Value}
theorem zS (hh:Hands ω) {w:World} (h:w.cell? ⟨0,0,none⟩=some (.iface 158 (.agg #[.pointer (some ⟨5,30,none⟩)]))) :
 ∀ g v,globT g=some v->g<w.heap.size/\∃ v',w.cell? ⟨g,0,none⟩=some v'/\∀ m:M ω,VRel m v v':=by
 intro g v hg;unfold globT at hg
 cases hb:Nat.beq g 0 with
 | false=>rw [hb] at hg;cases hg
 | true =>
  rw [hb] at hg;obtain rfl:=bE hb
  cases hg
  exact ⟨World.block_lt_of_cell? w _ h,_,h,fun m=>um hh _⟩
theorem Fact.strNeq {P:Program} {x y:Value} {s u:ByteArray} (hx:Bu ω x=.string s) (hy:Bu ω y=.string u) (tx:wl x=true) (ty:wl y=true) {b:Bool} (h:(!(s.toList==u.toList))=b):(⟨.neq,x,y,.bool b⟩:Fact).ok ω P :=
 ⟨tx,ty,rfl,fun k e=>(by cases e),fun t ox oy w=>by
  show (do eqGuard .neq t ox oy (Bu ω x) (Bu ω y);binOp .neq t (Bu ω x) (Bu ω y):Sem Value).run P w=.ok (.bool b) w;rw [hx,hy,<-h]
  simp [binOp,eqGuard,Op.stringOp]⟩
end
section
open Go.ChangeShapes Go.WideShapes Go.ChangeAt Go.RowKit Go.Joins Go.Deep
section
variable {H:Type} {enc:TypeId × Value->H} {w:World} {base:Nat} {held:Bool}
def Hd (z:Int):UInt8:=UInt8.ofNat z.toNat
theorem E9 {z:Int} (h:(Lit.int .u8 z).wf=true):((Hd z).toNat:Int)=z:=by
 have e1:IntKind.u8.min=0:=rfl;have e2:IntKind.u8.max=255:=rfl;simp [Lit.wf] at h;unfold Hd
 have h8:(UInt8.ofNat z.toNat).toNat=z.toNat % 256:=by simp
 rw [h8];omega
theorem H8 {fuel:Nat} {v:Value} {y:DataW H × List MemPlace} (h:DataW.trod enc Tryz.prog w base (fun _=>true) held fuel 23 [v]=some y):∃ p:Pt,v=p.val/\Reads w w.heap.size 1 p.A p.b.length (bl p.b)/\p.b.length<=p.c:=by
 rcases open_ints Tryz.underlying23 Tryz.underlying5 (by kernel_rfl) h with ⟨hcs,_⟩ | ⟨a,l,c,zs,hcs,_,hl,hm,hz,_,hcell,hwz⟩
 ·simp at hcs;exact ⟨⟨none,0,[]⟩,hcs,Reads.none_,zL _⟩
 ·simp at hcs hz
  have hlt:((zs.take l).map Hd).length=l:=by rw [List.length_map,lK];omega
  refine ⟨⟨some a,c,(zs.take l).map Hd⟩,by unfold Pt.val;rw [hcs];simp only;rw [hlt],⟨by rw [aF,Nat.mul_one],fun h0=>?_⟩,by show ((zs.take l).map Hd).length<=c;omega⟩;have h0:0<((zs.take l).map Hd).length:=h0;rw [hlt] at h0;have c0:=hcell 0 (by omega);have hb:=World.block_lt_of_cell? w _ c0;refine ⟨a,rfl,by simpa [Addr.add] using hb,fun j u hu=>?_⟩;unfold bl at hu;simp only [List.getElem?_map,List.getElem?_take] at hu;by_cases hj:j<l
  ·rw [if_pos hj] at hu;rw [hcell j (by omega)]
   cases hzj:zs[j]? with
   | none=>rw [hzj] at hu;cases hu
   | some z =>
    rw [hzj] at hu;simp only [Option.map_some,Option.some.injEq] at hu;rw [<-hu,E9 (hwz z (mG hzj))];simp [List.getD_eq_getElem?_getD,hzj]
  ·rw [if_neg hj] at hu;cases hu
end
end
section
open Go.ChangeShapes Go.WideShapes Go.ChangeAt Go.RowKit Go.Joins Go.Deep
theorem zT {α:Type} {P:Nat->α->Prop}:∀ (n:Nat),(∀ i,i<n->∃ d,P i d)->∃ ds:List α,ds.length=n/\∀ (i:Nat) (d:α),ds[i]?=some d->P i d
 | 0,_=>⟨[],rfl,fun i d h=>by simp at h⟩
 | n+1,h=>by
  obtain ⟨ds,hl,hd⟩:=zT n (fun i hi=>h i (by omega));obtain ⟨d,hP⟩:=h n (by omega);refine ⟨ds++[d],by simp [hl],fun i x hx=>?_⟩;by_cases hi:i<ds.length
  ·rw [List.getElem?_append_left hi] at hx;exact hd i x hx
  ·rw [List.getElem?_append_right (by omega)] at hx;have:=(lS.1 hx).1;simp at this
   obtain rfl:i=n:=by omega
   rw [hl,Nat.sub_self] at hx
   cases hx
   exact hP
section
variable {H:Type} {enc:TypeId × Value->H} {w:World} {base:Nat} {held:Bool}
theorem oR {fuel:Nat} {v:Value} {y:DataW H × List MemPlace} (h:DataW.trod enc Tryz.prog w base (fun _=>true) held fuel 23 [v]=some y):∃ p:Pt,v=p.val/\Reads w w.heap.size 1 p.A p.b.length (bl p.b)/\p.b.length<=p.c/\p.b.length<=9223372036854775807:=by
 obtain ⟨p,hp,h1,h2⟩:=H8 h;refine ⟨p,hp,h1,h2,?_⟩
 rcases open_slice Tryz.underlying23 h with ⟨h0,_⟩ | ⟨a,len,cap,m,n,D,Pl,hcs,hb,hl,hm,_⟩
 ·simp only [List.cons.injEq,and_true] at h0;rw [hp] at h0;have h0':Value.slice p.A p.b.length p.c=.slice none 0 0:=h0;simp only [Value.slice.injEq] at h0';omega
 ·simp only [List.cons.injEq,and_true] at hcs;rw [hp] at hcs;have h0':Value.slice p.A p.b.length p.c=.slice (some a) len cap:=hcs;simp only [Value.slice.injEq] at h0';simp only [maxLen] at hm;omega
theorem B7 {fuel:Nat} {v:Value} {y:DataW H × List MemPlace} (h:DataW.trod enc Tryz.prog w base (fun _=>true) held fuel 52 [v]=some y) :
 ∃ (A:Option Addr) (c:Nat) (ps:List Pt),v=.slice A ps.length c/\nk w A ps/\ps.length<=9223372036854775807:=by
 rcases open_slice Tryz.underlying52 h with ⟨hcs,_⟩ | ⟨a,len,cap,m,n,D,Pl,hcs,_,hl,hm,hmm,_,hf⟩
 ·simp only [List.cons.injEq,and_true] at hcs;exact ⟨none,0,[],hcs,⟨⟨rfl,fun h0=>absurd h0 (by simp)⟩,fun x hx=>(by cases hx)⟩,zL _⟩
 ·simp only [List.cons.injEq,and_true] at hcs;simp only [if_true] at hmm;subst hmm
  have hce:Program.cellsOf Tryz.prog 23=1:=by kernel_rfl
  obtain ⟨ds,ou,hd⟩:=zT (P:=fun i (x:Pt)=>w.cell? (a.add i)=some x.val/\Reads w w.heap.size 1 x.A x.b.length (bl x.b)/\x.b.length<=x.c/\x.b.length<=9223372036854775807) len (fun i hi=>by
   obtain ⟨cs',hc,ht⟩:=hf i (by omega);rw [hce] at hc;obtain ⟨_,hcl,hat⟩:=World.cells?_some hc
   match cs',hcl with
   | [c0],_ =>
    obtain ⟨x,rfl,hx⟩:=oR ht;refine ⟨x,?_,hx⟩;have:=hat 0 (by decide);rw [Nat.mul_one] at this
    have e0:(a.add i).add 0=a.add i:=by simp [Addr.add]
    rw [e0] at this
    exact this)
  refine ⟨some a,_,ds,by rw [hcs,ou],⟨⟨by rw [List.length_map,Nat.mul_one],fun h0=>⟨a,rfl,?_,fun j u hu=>?_⟩⟩,fun x hx=>by
   obtain ⟨i,hi⟩:=List.getElem?_of_mem hx
   exact (hd i x hi).2⟩,by rw [ou];simp only [maxLen] at hm;omega⟩
  ·obtain ⟨x0,hx0⟩:∃ x0,ds[0]?=some x0:=⟨_,gE (by omega)⟩
   have c0:=(hd 0 x0 hx0).1
   have e0:a.add 0=a:=by simp [Addr.add]
   rw [e0] at c0;exact World.block_lt_of_cell? w _ c0
  ·rw [List.getElem?_map] at hu
   cases hx:ds[j]? with
   | none=>rw [hx] at hu;cases hu
   | some x =>
    rw [hx] at hu
    cases hu
    exact (hd j x hx).1
end
end
section
open Go.ChangeShapes Go.WideShapes Go.ChangeAt Go.RowKit Go.Joins Go.Deep
section
variable {H:Type} {enc:TypeId × Value->H} {P:Program} {w:World} {base:Nat} {held:Bool}
def zU (P:Program) (t:TypeId) (d:DataW H):Prop:=∀ n∈d.weights P t,n<=reachBytes
theorem uL {ts:List TypeId} {ds:List (DataW H)} {j:Nat} {t:TypeId} {d:DataW H} (h:(DataW.weightsEach P ts ds).all (·<=reachBytes)=true) (ht:ts[j]?=some t) (hd:ds[j]?=some d):zU P t d :=
 fun n hn=>of_decide_eq_true (List.all_eq_true.1 h _ (DataW.weights_mem_each ht hd n hn))
theorem zU.len {t e:TypeId} {elems sp:List (DataW H)} (h:zU P t (.slice elems sp)) (hu:P.underlying t=some (.slice e)) (hb:0<P.bytesOf e):elems.length<=reachBytes:=by
 have:=h ((elems.length+sp.length)*P.bytesOf e) (by simp [DataW.weights,hu]);have h2:elems.length+sp.length<=(elems.length+sp.length)*P.bytesOf e:=Nat.le_mul_of_pos_right _ hb;omega
theorem nn {fuel:Nat} {v:Value} {y:DataW H × List MemPlace} (h:DataW.trod enc Tryz.prog w base (fun _=>true) held fuel 23 [v]=some y) (hL:zU Tryz.prog 23 y.1) {p:Pt} (hv:v=p.val):p.b.length<=140737488351232:=by
 subst hv
 rcases open_ints Tryz.underlying23 Tryz.underlying5 (by kernel_rfl) h with ⟨hcs,_⟩ | ⟨a,l,c,zs,hcs,_,hl,hm,hz,hy,hcell,hwz⟩
 ·simp only [List.cons.injEq,and_true] at hcs;have h0':Value.slice p.A p.b.length p.c=.slice none 0 0:=hcs;simp only [Value.slice.injEq] at h0';omega
 ·simp only [List.cons.injEq,and_true] at hcs;have h0':Value.slice p.A p.b.length p.c=.slice (some a) l c:=hcs;simp only [Value.slice.injEq] at h0'
  have hlt:(zs.take l).length=l:=by simp at hz;rw [lK];omega
  rw [hy] at hL;have hw:=hL.len Tryz.underlying23 (of_decide_eq_true (by kernel_rfl));unfold lits at hw;rw [List.length_map,hlt] at hw;rw [h0'.2.1];exact hw
end
end
section
open Go.RowKit
theorem qG (n:Int) (w:World):Calls Tryz.prog 129 #[.int .i64 n] w fun e w'=>e=.returned (.bool (decide (1<=n) && decide (n<=1000)))/\w'=w:=by
 by_cases h:1<=n
 ·have d1:decide (1<=n)=true:=dT h;go_enter Tryz.func129,Tryz.ntmps129;go_wp2;go_ret;exact ⟨by simp [h],rfl⟩
 ·have d1:decide (1<=n)=false:=dF h;go_enter Tryz.func129,Tryz.ntmps129;go_wp2;go_ret;exact ⟨by simp,rfl⟩
structure uv (B0:Nat) (fV:Nat) (lb:Array Value) (V:List (Nat × List UInt8)->World->Prop):Prop where
 eg:∀ args w,(callFunc fV args).run Tryz.prog w=.ok (.enter fV args) w
 step:∀ (pre:List (Nat × List UInt8)) (W0 W:World) (n:Nat) (d:List UInt8) (A:Option Addr) (c:Nat),V pre W0->Below W0.heap.size W0 W->B0<=W0.heap.size->n<4294967296->Reads W W.heap.size 1 A d.length (bl d)->d.length<=238->pre.length<5 ->
  Calls Tryz.prog fV (#[.int .u32 (n:Nat),.slice A d.length c]++lb) W fun e W'=>e=.returned (.tuple #[])/\V (pre++[(n,d)]) W'/\Below B0 W W'/\∀ k,W0.heap.size<=k->k<W.heap.size->W'.heap[k]?=W.heap[k]?
 keep:∀ pre W W',V pre W->Below W.heap.size W W'->V pre W'
theorem BC (T:Nat) (n:Nat) (s:Int) (f:Value) (hs:s<1\/1000<s) (w:World) :
 Calls Tryz.prog 106 #[.pointer (some ⟨T,0,none⟩),.int .u32 (n:Nat),.int .i64 s,f] w fun e w'=>e=.returned (.iface 66 (.int .i64 2))/\w'=w:=by
 have hS:=fun W=>qG s W;rw [show (decide (1<=s) && decide (s<=1000))=false by simp;omega] at hS;go_enter Tryz.func106,Tryz.ntmps106
 go_wp2_with (go_at_call 129;refine (hS _).mono ?_;rintro e w2 ⟨rfl,h2⟩;have h2:=h2.symm;subst h2)
 go_ret;exact ⟨rfl,rfl⟩
def FP (B:Nat) (V:List (Nat × List UInt8)->World->Prop) (r:Except Int (List Nat × List UInt8)) (e:Ending) (w':World):Prop:=match r with
 | .ok r=>e=.returned .nilIface/\∃ vis:List (Nat × List UInt8),vis.map (·.1)=r.1/\vis.flatMap (·.2)=r.2/\V vis w'
 | .error k=>∃ v,e=.returned v/\dX B w' k v/\k≠0/\∃ vis,V vis w'
def ww (vis:List (Nat × List UInt8)) (r:Except Int (List Nat × List UInt8)):Except Int (List Nat × List UInt8):=match r with
 | .ok r=>.ok (vis.map (·.1)++r.1,vis.flatMap (·.2)++r.2)
 | .error k=>.error k
theorem yw (t:PT) (g q left:Nat) (hl:left≠0) {x:PN} (hn:cn t q=.ok x):fc t (g+1) q left=if x.kind≠4\/x.data.length≠min 238 left\/¬ (x.next=0↔left-min 238 left=0) then .error 100 else match fc t g x.next (left-min 238 left) with
 | .error e=>.error e
 | .ok r=>.ok (q::r.1,x.data++r.2):=by
 show (if left=0 then _ else _)=_;rw [if_neg hl,hn];rfl
theorem BD {b:List UInt8} {x:PN} (h:cJ b=.ok x):x.next<4294967296:=by
 have h4:∀ l:List UInt8,aC (l.take 4)<4294967296:=fun l=>by
  have h1:=bW (l.take 4)
  have h2:(l.take 4).length<=4:=by rw [lK];omega
  exact lT h1 (nT (Nat.pow_le_pow_right (by decide) h2) (by decide))
 unfold cJ at h
 split at h
 ·cases h
 ·split at h
  ·cases h
  ·rename_i n hn
   split at h
   ·cases h
    unfold cT at hn
    split at hn
    ·simp only at hn;split at hn
     ·cases hn;exact Nat.zero_lt_of_lt (by decide:0<4294967296)
     ·cases hn
    ·split at hn
     ·simp only at hn;split at hn
      ·cases hn;exact h4 _
      ·cases hn
     ·split at hn
      ·simp only at hn;split at hn
       ·cases hn;exact h4 _
       ·cases hn
      ·split at hn
       ·cases hn
       ·split at hn
        ·cases hn
        ·cases hn;exact Nat.zero_lt_of_lt (by decide:0<4294967296)
   ·cases h
theorem yx {t:PT} {n:Nat} {x:PN} (h:cn t n=.ok x):x.next<4294967296:=by
 unfold cn at h
 split at h
 ·cases h
 ·exact BD h
theorem BE {t:PT} {n:Nat} {x:PN} (h:cn t n=.ok x):aD x=true:=by
 unfold cn at h
 split at h
 ·cases h
 ·unfold cJ at h
  split at h
  ·cases h
  ·split at h
   ·cases h
   ·split at h
    ·cases h;assumption
    ·cases h
theorem BF {B0:Nat} {X:Nat->Prop} {w:World} {T M:Nat} {t:PT} (h:TX X w T M t) (ok:t.OK) (hg:ay w) (htab:aH w) {fV:Nat} {lb:Array Value} {V:List (Nat × List UInt8)->World->Prop} (hV:uv B0 fV lb V) (hv0:V [] w) (hB0:B0<=w.heap.size) (hX:∀ k,X k->k<B0) (h1B:2<B0) (hGB:∀ W,Below B0 w W->ay W)
 (p0:Nat) (hp32:p0<4294967296) (s:Nat) (hs:1<=s/\s<=1000) :
 Calls Tryz.prog 106 #[.pointer (some ⟨T,0,none⟩),.int .u32 (p0:Nat),.int .i64 s,.func (.func fV) #[] lb] w fun e w'=>FP B0 V (fc t 5 p0 s) e w'/\Below B0 w w':=by
 have hS:=fun W=>qG (s:Int) W;rw [show (decide (1<=(s:Int)) && decide ((s:Int)<=1000))=true by simp;omega] at hS;go_enter Tryz.func106,Tryz.ntmps106
 go_wp2_with (go_at_call 129;refine (hS _).mono ?_;rintro e w2 ⟨rfl,h2⟩;have h2:=h2.symm;subst h2)
 go_loopw [9,10] (fun a l wr=>∃ (vis:List (Nat × List UInt8)) (f left q:Nat),a=.int .u32 (q:Nat)/\q<4294967296/\l=.int .i64 left/\left<=238*f/\vis.length+f=5/\left<=1000/\V vis wr /\
  fc t 5 p0 s=ww vis (fc t f q left)/\Below B0 w wr) (fun _ l _=>(intOf l).toNat)
 case atStart=>exact ⟨[],5,s,p0,rfl,hp32,rfl,by omega,rfl,hs.2,hv0,by unfold ww;cases fc t 5 p0 s <;> simp,bR _ _⟩
 case round =>
  obtain ⟨vis,f,left,q,rfl,hq,rfl,hlf,hvf,hl1,hVr,hR,hbr⟩:=hrel
  obtain ⟨wo,rfl⟩:∃ wo,wo=wr:=⟨wr,rfl⟩
  have hKX:co X w wo:=⟨hbr.size,fun k hk hl=>hbr.block k (hX k hk)⟩
  have hTo:=h.keep hKX;have hto:aH wo:=htab.of fun hl=>hbr.block 2 h1B;have hgo:=hGB wo hbr;have HBR:=lH hbr;clear hbr hKX
  rcases Nat.eq_zero_or_pos left with hl0 | hl0
  ·subst hl0;have z0:((0:Nat):Int)=0:=rfl
   have hw0:fc t f q 0=.ok ([],[]):=by cases f <;> rfl
   rw [hw0] at hR;go_wp2;go_ret;rw [hR];exact ⟨⟨rfl,vis,by simp,by simp,hVr⟩,HBR.out⟩
  ·have d1:decide ((0:Int)<(left:Int))=true:=dT (by omega);have d2:decide (0<left)=true:=dT hl0
   obtain ⟨g,rfl⟩:∃ g,f=g+1:=⟨f-1,by omega⟩
   have hNo:=vD hTo ok q hq hgo hto;have HR:=lH hR;have HH:=lH (aI hlf (aI hvf hVr));have hVk:=hV.keep;have eg:=hV.eg;clear hR hVr hTo
   cases hnT:cn t q with
   | error k =>
    have hk:=mU hnT
    have z0:k≠0:=by omega
    rw [hnT] at hNo
    go_wp2_with (go_at_call 68;refine hNo.mono ?_;rintro e w3 ⟨y,v,hy,rfl,hv,hya,hylo,hb3⟩;unfold NX.val aJ;have hvv:∃ pe,v=.iface 82 pe:=(by rcases hv with ⟨h9,_⟩ | ⟨_,r,e9,_⟩;exact absurd h9 z0;exact ⟨_,e9⟩);obtain ⟨pe,rfl⟩:=hvv)
    go_ret;have hbw:=fun o=>hb3.alloc hb3.size o;refine ⟨?_,HBR.out.trans ((hbw _).mono (nT hB0 HBR.out.size))⟩
    have hwe:fc t (g+1) q left=.error k:=by
     show (if left=0 then _ else _)=_;rw [if_neg (by omega),hnT]
    rw [HR.out,hwe];exact ⟨_,rfl,((hv.e.lo (nT hB0 HBR.out.size)).keep fun r _ hl=>(Below.heap_alloc _ _ _ hl)),z0,vis,hVk _ _ _ HH.out.2.2 (hbw _)⟩
   | ok x =>
    rw [hnT] at hNo;unfold nz tF at hNo;simp only at hNo;have hnx:=yx hnT;have hxk:=BE hnT;have hwk:=yw t g q left (by omega) hnT;rw [hwk] at HR
    obtain ⟨nx,HNX⟩:∃ nx,Hid (x.next=nx):=⟨_,lH rfl⟩
    obtain ⟨d,HD⟩:∃ d,Hid (x.data=d):=⟨_,lH rfl⟩
    obtain ⟨m,HM⟩:∃ m,Hid (min 238 left=m):=⟨_,lH rfl⟩
    rw [HNX.out,HD.out,HM.out] at HR;rw [HNX.out] at hnx
    have hm1:m<=left:=by have:=HM.out;omega
    have hm2:1<=m:=by have:=HM.out;omega
    have e0:min (238:Int) (left:Int)=(m:Int):=by have:=HM.out;omega
    have e1:IntKind.i64.wrap ((left:Int)-(m:Int))=((left-m:Nat):Int):=by rw [IntKind.wrap_i64];omega
    have e2:(left:Int)-(m:Int)=((left-m:Nat):Int):=by omega
    have HNo:=lH hNo;clear hNo hwk;by_cases h4:x.kind=4
    ·have ou:=(uT hxk h4).1;rw [HD.out] at ou
     have HR4:Hid (fc t 5 p0 s=ww vis (if d.length≠m\/¬ (nx=0↔left-m=0) then .error 100 else match fc t g nx (left-m) with
      | .error e=>.error e
      | .ok r=>.ok (q::r.1,d++r.2))):=by
      have h9:=HR.out
      have hiff:(x.kind≠4\/d.length≠m\/¬ (nx=0↔left-m=0))↔(d.length≠m\/¬ (nx=0↔left-m=0)):=⟨fun h=>h.resolve_left (fun h5=>h5 h4),.inr⟩
      by_cases hc:d.length≠m\/¬ (nx=0↔left-m=0)
      ·rw [if_pos (hiff.2 hc)] at h9;rw [if_pos hc];exact lH h9
      ·rw [if_neg (fun h=>hc (hiff.1 h))] at h9;rw [if_neg hc];exact lH h9
     clear HR hxk
     have hcase:(((d.length:Int) != (m:Int))=true/\Hid (d.length≠m))\/(((d.length:Int) != (m:Int))=false/\Hid (d.length=m)/\∃ b1 b2,((nx:Int)==0)=b1/\(((left-m:Nat):Int)==0)=b2/\Hid (b1=decide (nx=0))/\Hid (b2=decide (left-m=0))):=by
      by_cases q1:d.length=m
      ·refine .inr ⟨by rw [q1];simp,lH q1,_,_,rfl,rfl,lH ?_,lH ?_⟩
       ·by_cases q2:nx=0 <;> simp [q2]
       ·by_cases q2:left-m=0
        ·rw [q2];rfl
        ·simp only [q2,decide_false];exact beq_eq_false_iff_ne.2 (by omega)
      ·exact .inl ⟨bne_iff_ne.2 (by omega),lH q1⟩
     rcases hcase with ⟨c1,HC⟩ | ⟨c1,HC,b1,b2,c2,c3,HC2,HC3⟩
     ·go_wp2_with (go_at_call 68;refine HNo.out.mono ?_;rintro e w2 ⟨y,v,hy,rfl,hv,hya,hylo,hb2⟩;obtain rfl:v=.nilIface:=(by rcases hv with ⟨_,h9⟩ | ⟨h9,_⟩;exact h9;exact absurd rfl h9);unfold NX.val aJ;have hyk:y.kind=4:=(by have h9:=congrArg PN.kind hy;exact h9.trans h4);have hyn:y.next=nx:=(by have h9:=congrArg PN.next hy;exact h9.trans HNX.out);have hyd:y.data=d:=(by have h9:=congrArg PN.data hy;exact h9.trans HD.out))
      go_ret;have hbw:=fun o=>hb2.alloc hb2.size o;exact ⟨by rw [HR4.out,if_pos (.inl HC.out)];exact ⟨_,rfl,.inr (.inl ⟨by decide,rfl⟩),by decide,vis,hVk _ _ _ HH.out.2.2 (hbw _)⟩,HBR.out.trans ((hbw _).mono (nT hB0 HBR.out.size))⟩
     ·have hiff:(nx=0↔left-m=0)↔b1=b2:=by
       rw [HC2.out,HC3.out];by_cases q2:nx=0 <;> by_cases q3:left-m=0 <;> simp [q2,q3]
      have HI:=lH hiff;clear hiff
      cases b1 <;> cases b2
      ·go_wp2_with (go_at_call 68;refine HNo.out.mono ?_;rintro e w2 ⟨y,v,hy,rfl,hv,hya,hylo,hb2⟩;obtain rfl:v=.nilIface:=(by rcases hv with ⟨_,h9⟩ | ⟨h9,_⟩;exact h9;exact absurd rfl h9);unfold NX.val aJ;have hyk:y.kind=4:=(by have h9:=congrArg PN.kind hy;exact h9.trans h4);have hyn:y.next=nx:=(by have h9:=congrArg PN.next hy;exact h9.trans HNX.out);have hyd:y.data=d:=(by have h9:=congrArg PN.data hy;exact h9.trans HD.out))
       obtain ⟨w3,hw3⟩:∃ w3,w3=w2.alloc (.cells #[.int .i64 4,.int .u64 (y.lsn:Nat),.slice y.ca y.l.length y.cc,.int .u32 (nx:Nat),.slice y.da d.length y.dc,.int .u32 (y.root:Nat),.int .u32 (y.pages:Nat),.int .u32 (y.free:Nat),.int .u64 (y.entries:Nat)] 95):=⟨_,rfl⟩
       have hb3:Below wo.heap.size wo w3:=by rw [hw3];exact hb2.alloc hb2.size _
       have hN3:aa w3 w2.heap.size 95 #[.int .i64 4,.int .u64 (y.lsn:Nat),.slice y.ca y.l.length y.cc,.int .u32 (nx:Nat),.slice y.da d.length y.dc,.int .u32 (y.root:Nat),.int .u32 (y.pages:Nat),.int .u32 (y.free:Nat),.int .u64 (y.entries:Nat)]:=by rw [hw3];exact aa.new _ _ _
       have hdr:Reads w3 w3.heap.size 1 y.da d.length (bl d):=by
        have h9:=hya.data.below (show Below w2.heap.size w2 w3 by rw [hw3];exact (bR _ w2).alloc (nR _) _);rw [hyd] at h9;exact rM h9 (by rw [hw3];simp)
       rw [<-hw3];refine (hV.step vis wo w3 q d y.da y.dc HH.out.2.2 hb3 (nT hB0 HBR.out.size) (by omega) hdr ou.2 (by have:=HH.out.2.1;omega)).mono ?_;rintro e w4 ⟨rfl,hV4,hb4,hk4⟩;have hc4:w4.cell? ⟨w2.heap.size,3,none⟩=some (.int .u32 (nx:Nat)):=(World.cell?_of_block (hk4 _ hb2.size hN3.lt)).trans (hN3.cell 3);have HF:=lH (aI hV4 (aI hb3 hb4));clear hw3 hN3 hdr hV4 hb3 hb4 hk4;go_wp2
       go_roundw
       case rel=>exact ⟨vis++[(q,d)],g,left-m,nx,rfl,hnx,rfl,by have:=HH.out.1;have:=HM.out;omega,by have:=HH.out.2.1;simp;omega,by omega,HF.out.1,
        by rw [HR4.out,if_neg (by rintro (h9 | h9);exact h9 HC.out;exact h9 (HI.out.2 (by first | rfl | trivial)))];cases fc t g nx (left-m) <;> simp [ww],HBR.out.trans ((HF.out.2.1.mono (nT hB0 HBR.out.size)).trans HF.out.2.2)⟩
       case measure=>simp [intOf];omega
      ·go_wp2_with (go_at_call 68;refine HNo.out.mono ?_;rintro e w2 ⟨y,v,hy,rfl,hv,hya,hylo,hb2⟩;obtain rfl:v=.nilIface:=(by rcases hv with ⟨_,h9⟩ | ⟨h9,_⟩;exact h9;exact absurd rfl h9);unfold NX.val aJ;have hyk:y.kind=4:=(by have h9:=congrArg PN.kind hy;exact h9.trans h4);have hyn:y.next=nx:=(by have h9:=congrArg PN.next hy;exact h9.trans HNX.out);have hyd:y.data=d:=(by have h9:=congrArg PN.data hy;exact h9.trans HD.out))
       go_ret;have hbw:=fun o=>hb2.alloc hb2.size o;exact ⟨by rw [HR4.out,if_pos (.inr (fun h9=>by have:=HI.out.1 h9;cases this))];exact ⟨_,rfl,.inr (.inl ⟨by decide,rfl⟩),by decide,vis,hVk _ _ _ HH.out.2.2 (hbw _)⟩,HBR.out.trans ((hbw _).mono (nT hB0 HBR.out.size))⟩
      ·go_wp2_with (go_at_call 68;refine HNo.out.mono ?_;rintro e w2 ⟨y,v,hy,rfl,hv,hya,hylo,hb2⟩;obtain rfl:v=.nilIface:=(by rcases hv with ⟨_,h9⟩ | ⟨h9,_⟩;exact h9;exact absurd rfl h9);unfold NX.val aJ;have hyk:y.kind=4:=(by have h9:=congrArg PN.kind hy;exact h9.trans h4);have hyn:y.next=nx:=(by have h9:=congrArg PN.next hy;exact h9.trans HNX.out);have hyd:y.data=d:=(by have h9:=congrArg PN.data hy;exact h9.trans HD.out))
       go_ret;have hbw:=fun o=>hb2.alloc hb2.size o;exact ⟨by rw [HR4.out,if_pos (.inr (fun h9=>by have:=HI.out.1 h9;cases this))];exact ⟨_,rfl,.inr (.inl ⟨by decide,rfl⟩),by decide,vis,hVk _ _ _ HH.out.2.2 (hbw _)⟩,HBR.out.trans ((hbw _).mono (nT hB0 HBR.out.size))⟩
      ·go_wp2_with (go_at_call 68;refine HNo.out.mono ?_;rintro e w2 ⟨y,v,hy,rfl,hv,hya,hylo,hb2⟩;obtain rfl:v=.nilIface:=(by rcases hv with ⟨_,h9⟩ | ⟨h9,_⟩;exact h9;exact absurd rfl h9);unfold NX.val aJ;have hyk:y.kind=4:=(by have h9:=congrArg PN.kind hy;exact h9.trans h4);have hyn:y.next=nx:=(by have h9:=congrArg PN.next hy;exact h9.trans HNX.out);have hyd:y.data=d:=(by have h9:=congrArg PN.data hy;exact h9.trans HD.out))
       obtain ⟨w3,hw3⟩:∃ w3,w3=w2.alloc (.cells #[.int .i64 4,.int .u64 (y.lsn:Nat),.slice y.ca y.l.length y.cc,.int .u32 (nx:Nat),.slice y.da d.length y.dc,.int .u32 (y.root:Nat),.int .u32 (y.pages:Nat),.int .u32 (y.free:Nat),.int .u64 (y.entries:Nat)] 95):=⟨_,rfl⟩
       have hb3:Below wo.heap.size wo w3:=by rw [hw3];exact hb2.alloc hb2.size _
       have hN3:aa w3 w2.heap.size 95 #[.int .i64 4,.int .u64 (y.lsn:Nat),.slice y.ca y.l.length y.cc,.int .u32 (nx:Nat),.slice y.da d.length y.dc,.int .u32 (y.root:Nat),.int .u32 (y.pages:Nat),.int .u32 (y.free:Nat),.int .u64 (y.entries:Nat)]:=by rw [hw3];exact aa.new _ _ _
       have hdr:Reads w3 w3.heap.size 1 y.da d.length (bl d):=by
        have h9:=hya.data.below (show Below w2.heap.size w2 w3 by rw [hw3];exact (bR _ w2).alloc (nR _) _);rw [hyd] at h9;exact rM h9 (by rw [hw3];simp)
       rw [<-hw3];refine (hV.step vis wo w3 q d y.da y.dc HH.out.2.2 hb3 (nT hB0 HBR.out.size) (by omega) hdr ou.2 (by have:=HH.out.2.1;omega)).mono ?_;rintro e w4 ⟨rfl,hV4,hb4,hk4⟩;have hc4:w4.cell? ⟨w2.heap.size,3,none⟩=some (.int .u32 (nx:Nat)):=(World.cell?_of_block (hk4 _ hb2.size hN3.lt)).trans (hN3.cell 3);have HF:=lH (aI hV4 (aI hb3 hb4));clear hw3 hN3 hdr hV4 hb3 hb4 hk4;go_wp2
       go_roundw
       case rel=>exact ⟨vis++[(q,d)],g,left-m,nx,rfl,hnx,rfl,by have:=HH.out.1;have:=HM.out;omega,by have:=HH.out.2.1;simp;omega,by omega,HF.out.1,
        by rw [HR4.out,if_neg (by rintro (h9 | h9);exact h9 HC.out;exact h9 (HI.out.2 (by first | rfl | trivial)))];cases fc t g nx (left-m) <;> simp [ww],HBR.out.trans ((HF.out.2.1.mono (nT hB0 HBR.out.size)).trans HF.out.2.2)⟩
       case measure=>simp [intOf];omega
    ·go_wp2_with (go_at_call 68;refine HNo.out.mono ?_;rintro e w2 ⟨y,v,hy,rfl,hv,hya,hylo,hb2⟩;obtain rfl:v=.nilIface:=(by rcases hv with ⟨_,h9⟩ | ⟨h9,_⟩;exact h9;exact absurd rfl h9);unfold NX.val aJ;have hyk:y.kind=x.kind:=(by rw [<-hy];rfl);have c0:(y.kind != 4)=true:=bne_iff_ne.2 (by rw [hyk];exact h4);have n0:¬ (y.kind=4):=(by rw [hyk];exact h4))
     go_ret;have hbw:=fun o=>hb2.alloc hb2.size o;exact ⟨by rw [HR.out,if_pos (.inl h4)];exact ⟨_,rfl,.inr (.inl ⟨by decide,rfl⟩),by decide,vis,hVk _ _ _ HH.out.2.2 (hbw _)⟩,HBR.out.trans ((hbw _).mono (nT hB0 HBR.out.size))⟩
end
section
open Go.RowKit
section
variable {F:Fence} {n:Nat} {P:Program}
end
end
section
open Go.RowKit
theorem oL {W:World} {base n size:Nat} {e tb:TypeId} {A:Option Addr} {c:Nat} {xs:List Value} {g:Nat} {cs:Array Value} (h:W.ownsRow base e size (.slice A n c) n xs) (hB:aa W g tb cs) (hne:tb≠e):∀ ad,A=some ad->ad.block≠g:=by
 rintro ad rfl hg
 rcases h.2 with ⟨h0,_⟩ | ⟨g',cap,cur,e1,_,e3,_⟩
 ·cases h0
 ·simp only [Value.slice.injEq,Option.some.injEq] at e1;rw [e1.1] at hg;have hg:g'=g:=hg;rw [hg,show W.heap[g]?=_ from hB] at e3
  injection e3 with e3
  injection e3 with _ e4 _
  exact hne e4
theorem Dv {W:World} {base n size:Nat} {e:TypeId} {A:Option Addr} {c:Nat} {xs:List Value} (h:W.ownsRow base e size (.slice A n c) n xs):∀ ad,A=some ad->ad.block<W.heap.size/\base<=ad.block:=by
 rintro ad rfl
 rcases h.2 with ⟨h0,_⟩ | ⟨g,cap,cur,e1,h2,h3,_⟩
 ·cases h0
 ·simp only [Value.slice.injEq,Option.some.injEq] at e1;rw [e1.1];exact ⟨(aS.1 h3).1,h2⟩
theorem qH {W W':World} {base n size:Nat} {e:TypeId} {A:Option Addr} {c:Nat} {xs:List Value} (h:W.ownsRow base e size (.slice A n c) n xs) (hb:Below W.heap.size W W'):W'.ownsRow base e size (.slice A n c) n xs:=by
 refine ⟨h.1,h.2.imp id ?_⟩;rintro ⟨g,cap,cur,e1,e2,e3,r⟩;exact ⟨g,cap,cur,e1,e2,(hb.block g (aS.1 e3).1).trans e3,r⟩
theorem Fa {W:World} {base n size:Nat} {e:TypeId} {A:Option Addr} {c:Nat} {xs:List Value} (h:W.ownsRow base e size (.slice A n c) n xs) {p:Addr} {u:Value} (hp:∀ ad,A=some ad->ad.block≠p.block):(W.setCell p u).ownsRow base e size (.slice A n c) n xs:=by
 refine ⟨h.1,h.2.imp id ?_⟩;rintro ⟨g,cap,cur,e1,e2,e3,r⟩;simp only [Value.slice.injEq] at e1;exact ⟨g,cap,cur,by simpa using e1,e2,(Below.heap_setCell W p u g (hp _ e1.1)).trans e3,r⟩
def jt (B0 Bl:Nat) (tb e:TypeId) (f:List (Nat × List UInt8)->List Value) (pre:List (Nat × List UInt8)) (W:World):Prop :=
 B0<=Bl/\∃ A c,aa W Bl tb #[.slice A (f pre).length c]/\W.ownsRow B0 e 1 (.slice A (f pre).length c) (f pre).length (f pre)
theorem jt.keep {B0 Bl:Nat} {tb e:TypeId} {f:List (Nat × List UInt8)->List Value} {pre:List (Nat × List UInt8)} {W W':World} (h:jt B0 Bl tb e f pre W) (hb:Below W.heap.size W W'):jt B0 Bl tb e f pre W':=by
 obtain ⟨h0,A,c,h1,h2⟩:=h;exact ⟨h0,A,c,h1.below hb h1.lt,qH h2 hb⟩
theorem jt.grow {B0 Bl:Nat} {tb e:TypeId} (hte:tb≠e) {f:List (Nat × List UInt8)->List Value} {pre pre':List (Nat × List UInt8)} {W0 W w3:World} {A A3:Option Addr} {c c3:Nat} (h0:B0<=Bl) (h1:aa W Bl tb #[.slice A (f pre).length c]) (h2:W.ownsRow B0 e 1 (.slice A (f pre).length c) (f pre).length (f pre))
 (hbl:Bl<W0.heap.size) (hro:∀ ad,A=some ad->ad.block<W0.heap.size) (hW:W0.heap.size<=W.heap.size) (hB0:B0<=W0.heap.size)
 (ho3:w3.ownsRow B0 e 1 (.slice A3 (f pre').length c3) (f pre').length (f pre')) (hg3:W.grownBy w3 (.slice A (f pre).length c:Value).ownBlock) :
 jt B0 Bl tb e f pre' (w3.setCell ⟨Bl,0,none⟩ (.slice A3 (f pre').length c3))/\Below B0 W (w3.setCell ⟨Bl,0,none⟩ (.slice A3 (f pre').length c3))/\∀ k,W0.heap.size<=k->k<W.heap.size->(w3.setCell ⟨Bl,0,none⟩ (.slice A3 (f pre').length c3)).heap[k]?=W.heap[k]?:=by
 have hB3:aa w3 Bl tb #[.slice A (f pre).length c]:=(aW hg3 h1.lt (oL h2 h1 hte)).trans h1;have hb3:=jc hg3 (nT hB0 hW) (fun ad e=>(Dv h2 ad e).2);refine ⟨⟨h0,A3,c3,hB3.set_ 0 _,Fa ho3 (oL ho3 hB3 hte)⟩,hb3.setCell (p:=⟨Bl,0,none⟩) h0 _,fun k hk1 hk2=>?_⟩;rw [Below.heap_setCell w3 ⟨Bl,0,none⟩ _ k (by show k≠Bl;omega)];exact aW hg3 hk2 (fun ad e hh=>by have:=hro ad e;omega)
def eB (pre:List (Nat × List UInt8)):List Value:=bl (pre.flatMap (·.2))
theorem yy (B0 Bl:Nat):uv B0 107 #[.pointer (some ⟨Bl,0,none⟩)] (fun pre W=>jt B0 Bl 23 5 eB pre W/\(eB pre).length<=238*pre.length) where
 eg:=fun args w=>enters_of Tryz.func107 (by kernel_rfl) rfl args w
 keep:=fun pre W W' h hb=>⟨h.1.keep hb,h.2⟩
 step:=by
  rintro pre W0 W n d A c ⟨⟨h0,A1,c1,h1,h2⟩,hbd⟩ hb hB0 hn hr hd hp;have hlt1:=h1.lt;have hown:=Dv h2
  obtain ⟨xs,HX⟩:∃ xs,Hid (eB pre=xs):=⟨_,lH rfl⟩
  have hx5:xs.length<=1200:=by rw [<-HX.out];omega
  have q1:=h1.below hb hlt1;have q2:=qH h2 hb;rw [HX.out] at q1 q2;have hc:W.cell? ⟨Bl,0,none⟩=some (.slice A1 xs.length c1):=q1.cell 0;have hf:=q1.frozen 0;have hs2:=hb.size
  have hx2:xs++bl d=eB (pre++[(n,d)]):=by rw [<-HX.out];unfold eB bl;simp
  have hbd2:(eB (pre++[(n,d)])).length<=238*(pre++[(n,d)]).length:=by
   rw [<-hx2,lQ,lQ,<-HX.out]
   have:(bl d).length=d.length:=by simp [bl]
   simp only [List.length_singleton];omega
  obtain ⟨ys,HY⟩:∃ ys,Hid (eB (pre++[(n,d)])=ys):=⟨_,lH rfl⟩
  rw [HY.out] at hx2
  have hy1:xs.length+d.length=ys.length:=by rw [<-hx2,lQ];simp [bl]
  have HQ:=lH (aI q1 (aI hbd2 h1));have HHH:=lH (aI hx2 (aI hy1 hown));clear q1 h1 h2 hx2 hy1 hown hbd hbd2;go_enter Tryz.func107,Tryz.ntmps107
  go_wp2_with (refine mH G8 rfl rfl B0 rfl q2 rfl hr (gA _) (by omega) (by omega) (k:=ys.length) HHH.out.2.1 (ys:=ys) HHH.out.1 ?_;intro A7 c7 w7 ho7 hg7 hob7;have hc7:=(aW hg7 HQ.out.1.lt (oL q2 HQ.out.1 (by decide))).trans HQ.out.1;have hc7:w7.cell? ⟨Bl,0,none⟩=some (.slice A1 xs.length c1):=aa.cell hc7 0;have hf7:w7.frozen? ⟨Bl,0,none⟩=false:=aa.frozen ((aW hg7 HQ.out.1.lt (oL q2 HQ.out.1 (by decide))).trans HQ.out.1) 0)
  go_end0
  have hx:=HX.out;have hy:=HY.out;subst hx;subst hy;have hG:=jt.grow (f:=eB) (pre:=pre) (pre':=pre++[(n,d)]) (W0:=W0) (tb:=23) (by decide) h0 HQ.out.1 q2 (lT HQ.out.2.2.lt (nR _)) (fun ad e=>(HHH.out.2.2 ad e).1) (by omega) hB0 ho7 hg7;exact ⟨rfl,⟨hG.1,HQ.out.2.1⟩,hG.2.1,hG.2.2⟩
theorem GF {w:World} (h:ay w) {B:Nat} (hB:2<B):∀ W,Below B w W->ay W:=fun W hb=>(hb.cell (Nat.lt_of_le_of_lt (by decide) hB)).trans h
theorem Dw {B0:Nat} {X:Nat->Prop} {w:World} {T M:Nat} {t:PT} (h:TX X w T M t) (ok:t.OK) (hg:ay w) (htab:aH w) {fV:Nat} {lb:Array Value} {V:List (Nat × List UInt8)->World->Prop} (hV:uv B0 fV lb V) (hv0:V [] w) (hB0:B0<=w.heap.size) (hX:∀ k,X k->k<B0) (h1B:2<B0)
 (p0:Nat) (hp32:p0<4294967296) (s:Int) :
 Calls Tryz.prog 106 #[.pointer (some ⟨T,0,none⟩),.int .u32 (p0:Nat),.int .i64 s,.func (.func fV) #[] lb] w fun e w'=>FP B0 V (lw t p0 s) e w'/\Below B0 w w':=by
 by_cases hs:s<1\/1000<s
 ·unfold lw;rw [if_pos hs];refine (BC T p0 s _ hs w).mono ?_;rintro e w' ⟨rfl,rfl⟩;exact ⟨⟨_,rfl,.inr (.inl ⟨by decide,rfl⟩),by decide,_,hv0⟩,bR _ _⟩
 ·unfold lw;rw [if_neg hs]
  obtain ⟨n,rfl⟩:∃ n:Nat,s=n:=⟨s.toNat,by omega⟩
  exact BF h ok hg htab hV hv0 hB0 hX h1B (GF hg h1B) p0 hp32 n (by omega)
def I3 (B:Nat) (r:Except Int (List Nat × List UInt8)) (e:Ending) (w':World):Prop:=match r with
 | .ok r=>∃ A c,e=.returned (.tuple #[.slice A r.1.length c,.nilIface])/\w'.ownsRow B 77 1 (.slice A r.1.length c) r.1.length (ul r.1)
 | .error k=>∃ v,e=.returned (.tuple #[.slice none 0 0,v])/\dX B w' k v/\k≠0
def H9 (B:Nat) (r:Except Int (List Nat × List UInt8)) (e:Ending) (w':World):Prop:=match r with
 | .ok r=>∃ A c,e=.returned (.tuple #[.slice A r.2.length c,.nilIface])/\w'.ownsRow B 5 1 (.slice A r.2.length c) r.2.length (bl r.2)
 | .error k=>∃ v,e=.returned (.tuple #[.slice none 0 0,v])/\dX B w' k v/\k≠0
theorem wx {X:Nat->Prop} {w:World} {T M:Nat} {t:PT} (h:TX X w T M t) (hX:∀ k,X k->k<w.heap.size) (ok:t.OK) (hg:ay w) (htab:aH w) (p0:Nat) (hp32:p0<4294967296) (s:Int) :
 Calls Tryz.prog 71 #[.pointer (some ⟨T,0,none⟩),.int .u32 (p0:Nat),.int .i64 s] w fun e w'=>H9 w.heap.size (lw t p0 s) e w'/\Below w.heap.size w w':=by
 obtain ⟨w1,hw1⟩:∃ w1,w1=w.alloc (.cells #[.slice none 0 0] 23):=⟨_,rfl⟩
 have hb1:Below w.heap.size w w1:=by rw [hw1];exact (bR _ w).alloc (nR _) _
 have hB1:aa w1 w.heap.size 23 #[.slice none 0 0]:=by rw [hw1];exact aa.new _ _ _
 have hv0:jt w.heap.size w.heap.size 23 5 eB [] w1/\(eB []).length<=238*([]:List (Nat × List UInt8)).length:=⟨⟨nR _,none,0,hB1,⟨rfl,.inl ⟨rfl,rfl⟩⟩⟩,nR _⟩
 have hW:=Dw (B0:=w.heap.size) (h.keep (co.of_below hb1)) ok (ai hg hb1) (aw htab hb1) (yy w.heap.size w.heap.size) hv0 hb1.size hX (dQ htab) p0 hp32 s;have HW1:=lH hw1
 cases hr:lw t p0 s with
 | ok r =>
  obtain ⟨l,d⟩:=r;rw [hr] at hW;have HW:=lH hW;clear hW hw1 h hX hv0 hB1 htab hr;go_enter Tryz.func71,Tryz.ntmps71
  go_wp2_with (first
   | (rw [<-HW1.out];go_at_call 106;refine HW.out.mono ?_;rintro e w2 ⟨⟨rfl,vis,hv1,hv2,⟨_,A,c,hB2,ho2⟩,_⟩,hb2⟩;have hc2:w2.cell? ⟨w.heap.size,0,none⟩=some (.slice A (eB vis).length c):=hB2.cell 0;have hf2:=hB2.frozen 0))
  have hl:eB vis=bl d:=by unfold eB;rw [hv2]
  rw [hl] at ho2 hB2 ⊢;rw [aF] at ho2 ⊢;go_ret2;exact ⟨⟨A,c,rfl,ho2⟩,hb1.trans hb2⟩
 | error k =>
  rw [hr] at hW;have HW:=lH hW;clear hW hw1 h hX hv0 hB1 htab hr;go_enter Tryz.func71,Tryz.ntmps71
  go_wp2_with (first
   | (rw [<-HW1.out];go_at_call 106;refine HW.out.mono ?_;rintro e w2 ⟨⟨v,rfl,hv,hk,vis,_⟩,hb2⟩;have hb12:=hb1.trans hb2;have hF:=fun op=>xw op hv (ai hg hb12);have hvv:∃ tv pe,v=.iface tv pe:=(by rcases hv with ⟨h9,_⟩ | ⟨_,e9⟩ | ⟨_,r,op,nm,e9,_⟩;exact absurd h9 hk;exact ⟨_,_,e9⟩;exact ⟨_,_,e9⟩);obtain ⟨tv,pe,rfl⟩:=hvv)
   | (go_at_call 108;refine (hF _).mono ?_;rintro e w3 ⟨v2,rfl,hv2,hb3⟩))
  go_ret2;exact ⟨⟨_,rfl,hv2.e.lo hb12.size,hk⟩,hb12.trans (hb3.mono hb12.size)⟩
theorem gI {X:Nat->Prop} {w w1:World} (h:ay w) (hf:Fr X w w1) (hX:¬ X 0):ay w1:=by
 unfold ay at h ⊢;rw [<-h];exact World.cell?_of_block (w:=w) (hf.block 0 (World.block_lt_of_cell? w _ h) hX)
end
section
structure PS where
 n:Nat
 kind:Int
 l:List PC
 i:Nat
def ct (l:List PC) (k:List UInt8):Nat:=l.countP fun c=>decide (c.key<k)
def ms (l:List PC) (k:List UInt8):Bool:=l.any fun c=>decide (c.key=k)
def nQ (l:List PC) (k:List UInt8):Nat:=if ms l k=true then ct l k+1 else ct l k
def sE (l:List PC) (i:Nat):Nat:=match l[i]? with
 | some c=>c.kid
 | none=>0
def He (kind:Int) (c:PC):Nat:=2+(nr kind c).length
def cV (t:PT) (c:PC):Except Int (List UInt8):=if c.size<=40 then .ok c.val else match lw t c.over c.size with
 | .error e=>.error e
 | .ok r=>.ok r.2
end
section
abbrev ND:=Nat->Option PN
def Jg (t:PT):ND:=fun n=>if n=0 then none else match cn t n with
 | .ok x=>some x
 | .error _=>none
def Own (t:PT) (L:List Nat):Prop:=∀ a,L.count a=if 1<=a/\a<t.pages then 1 else 0
inductive uw (nd:ND):Nat->List Nat->Prop
 | nil:uw nd 0 []
 | cons {f:Nat} {x:PN} {l:List Nat}:f≠0->nd f=some x->x.kind=5->uw nd x.next l->uw nd f (f::l)
def Jp (t:PT):Prop:=(∀ n x,Jg t n=some x->x.lsn<=t.lsn)/\t.src.length<=t.pages
end
section
inductive zV (nd:ND):Nat->List UInt8->List Nat->Prop
 | nil:zV nd 0 [] []
 | cons {p:Nat} {v:List UInt8} {x:PN} {ps:List Nat}:p≠0->v≠[]->nd p=some x->x.kind=4->x.data=v.take 238->zV nd x.next (v.drop 238) ps->zV nd p v (p::ps)
end
section
abbrev Key:=List UInt8
abbrev eS:=Key × List UInt8
theorem GG (a:Key):¬ a<a:=List.lt_irrefl a
theorem Ia {a b c:Key} (h:a<b) (k:b<c):a<c:=List.lt_trans h k
theorem Ib:∀ a b:Key,a<b\/a=b\/b<a
 | [],[]=>.inr (.inl rfl)
 | [],_::_=>.inl (List.nil_lt_cons ..)
 | _::_,[]=>.inr (.inr (List.nil_lt_cons ..))
 | a::s,b::t=>by
  rw [List.cons_lt_cons_iff,List.cons_lt_cons_iff]
  rcases (show a<b\/a=b\/b<a by rcases Nat.lt_trichotomy a.toNat b.toNat with h | h | h;exact .inl (UInt8.lt_iff_toNat_lt.2 h);exact .inr (.inl (UInt8.toNat_inj.1 h));exact .inr (.inr (UInt8.lt_iff_toNat_lt.2 h))) with h | h | h
  ·exact .inl (.inl h)
  ·subst h
   rcases Ib s t with h | h | h
   ·exact .inl (.inr ⟨rfl,h⟩)
   ·subst h;exact .inr (.inl rfl)
   ·exact .inr (.inr (.inr ⟨rfl,h⟩))
  ·exact .inr (.inr (.inl h))
theorem Ic {a b c:Key} (h:¬ b<a) (k:b<c):a<c:=by
 rcases Ib a b with h1 | h1 | h1
 ·exact Ia h1 k
 ·subst h1;exact k
 ·exact absurd h1 h
theorem Jq {a b:Key} (h:a<b):¬ b<a:=fun k=>GG _ (Ia h k)
def I4 (k:Key):Option Key->Prop
 | none=>True
 | some h=>k<h
def I5 (es:List eS):Prop:=es.Pairwise fun a b=>a.1<b.1
def Jr (lo:Key) (hi:Option Key) (es:List eS):Prop:=∀ e∈es,¬ e.1<lo/\I4 e.1 hi
def GH (nd:ND) (c:PC) (e:eS) (ps:List Nat):Prop :=
 gx c=true/\c.fit/\c.key=e.1/\c.size=(e.2.length:Int)/\(c.size<=40->c.val=e.2/\ps=[])/\(40<c.size->zV nd c.over e.2 ps)
inductive ux (nd:ND):List PC->List eS->List Nat->Prop
 | nil:ux nd [] [] []
 | cons {c l e es ps qs}:GH nd c e ps->ux nd l es qs->ux nd (c::l) (e::es) (ps++qs)
inductive Kids (K:PC->Option Key->List eS->List Nat->Prop):List PC->Option Key->Option Key->List eS->List Nat->Prop
 | nil {b}:Kids K [] b b [] []
 | cons {c l m hi es ps es' ps'}:K c m es ps->Kids K l m hi es' ps'->Kids K (c::l) (some c.key) hi (es++es') (ps++ps')
section
variable {K:PC->Option Key->List eS->List Nat->Prop}
end
def Ie (nd:ND) (n:Nat):Prop:=∃ x,nd n=some x/\80<=b7 x.kind x.cells
abbrev Dx:=Int->List PC->Key->Option Key->List eS->List Nat->Prop
def Ig (nd:ND) (B:Dx) (n:Nat) (lo:Key) (hi:Option Key) (es:List eS) (ps:List Nat):Prop :=
 ∃ x qs,nd n=some x/\ps=n::qs/\B x.kind x.cells lo hi es qs/\b7 x.kind x.cells<=241/\(x.kind=3\/2<=x.cells.length)
def FQ (nd:ND) (B:Dx) (c:PC) (m:Option Key) (es:List eS) (ps:List Nat):Prop :=
 dq c=true/\c.fit/\I4 c.key m/\Ig nd B c.kid c.key m es ps/\Ie nd c.kid
def Ih (nd:ND):Nat->Dx
 | 0,kind,l,lo,hi,es,ps=>kind=3/\ux nd l es ps/\I5 es/\Jr lo hi es
 | d+1,kind,l,lo,hi,es,ps=>kind=2/\Kids (FQ nd (Ih nd d)) l (some lo) hi es ps
abbrev Jh (nd:ND) (d:Nat):=FQ nd (Ih nd d)
theorem jY:∀ l:List PC,kr l=true↔l.Pairwise fun a b=>a.key<b.key
 | []=>by simp [kr]
 | [a]=>by simp [kr]
 | a::b::l=>by
  unfold kr;rw [Bool.and_eq_true,decide_eq_true_eq,jY (b::l),List.pairwise_cons (a:=a)];constructor
  ·rintro ⟨h1,h2⟩;refine ⟨fun x hx=>?_,h2⟩
   rcases List.mem_cons.1 hx with rfl | hx
   ·exact h1
   ·exact Ia h1 ((List.pairwise_cons.1 h2).1 x hx)
  ·rintro ⟨h1,h2⟩;exact ⟨h1 b (by simp),h2⟩
end
section
theorem Dy (kind:Int):b7 kind []=0:=rfl
theorem BG (kind:Int) (c:PC) (l:List PC):b7 kind (c::l)=He kind c+b7 kind l:=by simp [b7,He]
theorem Dz {kind:Int} {c:PC} (h:kJ kind c=true):5<=He kind c/\He kind c<=69/\(kind=2->He kind c<=31):=by
 unfold kJ at h;unfold He nr;by_cases hk:kind=3
 ·rw [if_pos hk] at h ⊢;have:=rD h;omega
 ·rw [if_neg hk] at h ⊢;have:=oX h;omega
theorem yz {kind:Int} {l:List PC} (h:∀ c∈l,kJ kind c=true):5*l.length<=b7 kind l/\b7 kind l<=69*l.length/\(kind=2->b7 kind l<=31*l.length):=by
 induction l with
 | nil=>simp [Dy]
 | cons c l ih =>
  have h1:=Dz (h c (by simp));have h2:=ih fun x hx=>h x (by simp [hx]);rw [BG,List.length_cons];omega
def apart (kind:Int) (l:List PC) (j:Nat):Int:=max (2*(b7 kind (l.take j):Int)-b7 kind l) (b7 kind l-2*(b7 kind (l.take j):Int))
end
section
def Ctx (nd:ND) (root:Nat) (st:List PS):Nat->Nat->Nat->Key->Option Key->List eS->List eS->List Nat->Prop
 | 0,n,d,lo,hi,eL,eR,ps=>n=root/\lo=[]/\hi=none/\eL=[]/\eR=[]/\ps=[]
 | k+1,n,d,lo,hi,eL,eR,ps=>∃ (p:PS) (c:PC) (A B:List PC) (a:Key) (b:Option Key) (gL gR fL fR:List eS) (qs pL pR:List Nat) (x:PN),
  st[k]?=some p/\p.kind=2/\p.l=A++c::B/\p.i=A.length/\c.kid=n/\c.key=lo/\dq c=true/\c.fit/\I4 lo hi /\
  Kids (Jh nd d) A (some a) (some lo) fL pL/\Kids (Jh nd d) B hi b fR pR /\
  nd p.n=some x/\x.kind=2/\x.cells=p.l/\b7 2 p.l<=241/\2<=p.l.length/\(0<k->80<=b7 2 p.l) /\
  Ctx nd root st k p.n (d+1) a b gL gR qs/\eL=gL++fL/\eR=fR++gR/\ps=p.n::(qs++(pL++pR))
structure Good (t:PT) (L fl:List Nat):Prop where
 ok:t.OK
 own:Own t (L++fl)
 free:uw (Jg t) t.free fl
 old:Jp t
theorem many {kind:Int} {l:List PC} (hk:kind=3\/kind=2) (hc:∀ c∈l,kJ kind c=true) (h:80<=b7 kind l):(kind=3\/3<=l.length)/\2<=l.length:=by
 have:=yz hc
 rcases hk with rfl | rfl
 ·exact ⟨.inl rfl,by omega⟩
 ·have:=this.2.2 rfl;exact ⟨.inr (by omega),by omega⟩
end
section
end
section
theorem wy (c:PC) (l:List PC) (k:Key):ct (c::l) k=(if c.key<k then 1 else 0)+ct l k:=by
 unfold ct;rw [List.countP_cons];simp only [decide_eq_true_eq];omega
theorem qI (c:PC) (l:List PC) (k:Key):ms (c::l) k=(decide (c.key=k) || ms l k):=by simp [ms]
theorem BH {l:List PC} {k:Key} (h:∀ x∈l,k<x.key):ct l k=0/\ms l k=false:=by
 induction l with
 | nil=>exact ⟨rfl,rfl⟩
 | cons c l ih =>
  have h1:=h c (by simp);have h2:=ih fun x hx=>h x (by simp [hx]);rw [wy,qI,if_neg (Jq h1),h2.1,h2.2];exact ⟨rfl,by simp;intro e;rw [e] at h1;exact GG _ h1⟩
theorem BI {l m:List PC} {k:Key} (h:∀ x∈l,x.key<k):ct (l++m) k=l.length+ct m k/\ms (l++m) k=ms m k:=by
 induction l with
 | nil=>exact ⟨by simp,rfl⟩
 | cons c l ih =>
  have h1:=h c (by simp);have h2:=ih fun x hx=>h x (by simp [hx]);rw [List.cons_append,wy,qI,if_pos h1,h2.1,h2.2,List.length_cons];exact ⟨by omega,by simp;intro e;rw [e] at h1;exact absurd h1 (GG _)⟩
end
section
end
section
structure SL where
 leaf:Bool
 l:List PC
 next:Int
structure SW where
 way:List SL
 last:Key
 any:Bool
 pages:Nat
 done:Bool
def kG (t:PT) (c:SW) (n:Nat):Except Int PN :=
 if 512<c.pages+1\/20<=c.way.length then .error 111 else match cn t n with
  | .error e=>.error e
  | .ok x=>if x.kind=3\/x.kind=2 then .ok x else .error 111
def SW.push (c:SW) (s:SL):SW:={c with pages:=c.pages+1,way:=c.way++[s]}
def bk (t:PT):Nat->SW->Nat->Key->Except Int SW
 | 0,_,_,_=>.error 111
 | f+1,c,n,lo=>match kG t c n with
  | .error e=>.error e
  | .ok x=>if x.kind=3 then .ok (c.push ⟨true,x.cells,(ct x.cells lo:Nat)⟩)
   else bk t f (c.push ⟨false,x.cells,((nQ x.cells lo-1:Nat):Int)+1⟩) (sE x.cells (nQ x.cells lo-1)) lo
def eD (t:PT) (c:SW) (x:PC):Except Int (eS × SW) :=
 if c.any=true/\¬ c.last<x.key then .error 111 else match cV t x with
  | .error e=>.error e
  | .ok v=>.ok ((x.key,v),{c with any:=true,last:=x.key})
def SW.pop (c:SW):SW:={c with way:=c.way.dropLast}
def SW.step (c:SW) (s:SL):SW:={c with way:=c.way.dropLast++[s]}
def iI (t:PT):Nat->SW->Except Int (Option eS × SW)
 | 0,_=>.error 111
 | f+1,c=>match c.way.getLast? with
  | none=>.ok (none,c)
  | some s=>match s.l[s.next.toNat]? with
   | none=>iI t f c.pop
   | some x=>if s.leaf=true then (match eD t (c.step {s with next:=s.next+1}) x with
    | .error e=>.error e
    | .ok r=>.ok (some r.1,r.2))
    else match bk t 21 (c.step {s with next:=s.next+1}) x.kid [] with
     | .error e=>.error e
     | .ok c2=>iI t f c2
def ia (t:PT) (c:SW):Except Int (Option eS) × SW:=if c.done=true then (.ok none,c) else match iI t 110000 c with
 | .error e=>(.error e,{c with done:=true})
 | .ok (none,c')=>(.ok none,{c' with done:=true})
 | .ok (some x,c')=>(.ok (some x),c')
def Fb (t:PT) (lo:Key):Except Int SW:=bk t 21 ⟨[],[],false,0,false⟩ t.root lo
def GI (t:PT) (hi:Key) (most:Int):Nat->SW->List eS->Except Int (List eS × Bool)
 | 0,_,_=>.error 111
 | f+1,c,out=>match ia t c with
  | (.error e,_)=>.error e
  | (.ok none,_)=>.ok (out,false)
  | (.ok (some x),c')=>if hi≠[]/\¬ x.1<hi then .ok (out,false) else if most<=out.length then .ok (out,true) else GI t hi most f c' (out++[x])
def iJ (t:PT) (hi:Key):Nat->SW->Nat->Except Int Nat
 | 0,_,_=>.error 111
 | f+1,c,n=>match ia t c with
  | (.error e,_)=>.error e
  | (.ok none,_)=>.ok n
  | (.ok (some x),c')=>if hi≠[]/\¬ x.1<hi then .ok n else iJ t hi f c' (n+1)
def BJ (t:PT) (lo hi:Key):Except Int Nat:=match Fb t lo with
 | .error e=>.error e
 | .ok c=>iJ t hi 110000 c 0
def ge (k:Key) (es:List eS):List eS:=es.filter fun e=>!decide (e.1<k)
end
section
def ju (l:List PC) (hi:Key):Nat:=if hi=[] then l.length-1 else ct l hi-1
def lj (l:List PC) (hi:Key):Nat:=if hi=[] then l.length else ct l hi
def bm (t:PT):Nat->SW->Nat->Key->Except Int SW
 | 0,_,_,_=>.error 111
 | f+1,c,n,hi=>match kG t c n with
  | .error e=>.error e
  | .ok x=>if x.kind=3 then .ok (c.push ⟨true,x.cells,(lj x.cells hi:Int)-1⟩)
   else bm t f (c.push ⟨false,x.cells,(ju x.cells hi:Int)-1⟩) (sE x.cells (ju x.cells hi)) hi
def eE (t:PT) (c:SW) (x:PC):Except Int (eS × SW) :=
 if c.any=true/\¬ x.key<c.last then .error 111 else match cV t x with
  | .error e=>.error e
  | .ok v=>.ok ((x.key,v),{c with any:=true,last:=x.key})
def iK (t:PT):Nat->SW->Except Int (Option eS × SW)
 | 0,_=>.error 111
 | f+1,c=>match c.way.getLast? with
  | none=>.ok (none,c)
  | some s=>if s.next<0 then iK t f c.pop else match s.l[s.next.toNat]? with
   | none=>.error 111
   | some x=>if s.leaf=true then (match eE t (c.step {s with next:=s.next-1}) x with
    | .error e=>.error e
    | .ok r=>.ok (some r.1,r.2))
    else match bm t 21 (c.step {s with next:=s.next-1}) x.kid [] with
     | .error e=>.error e
     | .ok c2=>iK t f c2
def iS (t:PT) (c:SW):Except Int (Option eS) × SW:=if c.done=true then (.ok none,c) else match iK t 110000 c with
 | .error e=>(.error e,{c with done:=true})
 | .ok (none,c')=>(.ok none,{c' with done:=true})
 | .ok (some x,c')=>(.ok (some x),c')
def oM (t:PT) (hi:Key):Except Int SW:=bm t 21 ⟨[],[],false,0,false⟩ t.root hi
def lt (k:Key) (es:List eS):List eS:=if k=[] then es else es.filter fun e=>decide (e.1<k)
end
section
def Js (L:List eS) (k:Key):Nat:=L.findIdx fun e=>!decide (e.1<k)
def EN (L:List eS) (k:Key):Bool:=match L[Js L k]? with
 | none=>false
 | some e=>decide (e.1=k)
end
section
open Go.RowKit
def Ii (f:Nat):Prop:=∀ {B1 B2:Nat} (x:CX) (A:Option Addr) (c:Nat) (b:List UInt8) (w:World),Reads w B1 1 x.ka x.c.key.length (bl x.c.key)->Reads w B2 1 A b.length (bl b)->B1<=w.heap.size->B2<=w.heap.size ->
 Calls Tryz.prog f #[x.val,.slice A b.length c] w fun e w'=>e=.returned (.int .i64 (Lib.compareBytes x.c.key b))/\Below w.heap.size w w'
theorem Fc {l:List PC} {t:Key} {i:Nat} (hi:i<=l.length) (h1:∀ k x,l[k]?=some x->k<i->x.key<t) (h2:∀ k x,l[k]?=some x->i<=k->¬ x.key<t) (hr:l.Pairwise fun a b=>a.key<b.key) :
 ct l t=i/\ms l t=(match l[i]? with
  | some c=>decide (c.key=t)
  | none=>false):=by
 have e:l=l.take i++l.drop i:=(List.take_append_drop i l).symm
 have hA:∀ x∈l.take i,x.key<t:=by
  intro x hx;obtain ⟨k,hk,rfl⟩:=List.getElem_of_mem hx;rw [lK] at hk;rw [List.getElem_take];exact h1 k _ (gE (by omega)) (by omega)
 have hB:∀ x∈l.drop i,¬ x.key<t:=by
  intro x hx;obtain ⟨k,hk,rfl⟩:=List.getElem_of_mem hx;rw [lD] at hk;rw [List.getElem_drop];exact h2 (i+k) _ (gE (by omega)) (by omega)
 have hc:=BI (m:=l.drop i) hA;rw [<-e,lK,Nat.min_eq_left hi] at hc
 have h0:ct (l.drop i) t=0:=by
  unfold ct;rw [List.countP_eq_zero];intro x hx;rw [decide_eq_true_eq];exact hB x hx
 refine ⟨by rw [hc.1,h0];rfl,?_⟩;rw [hc.2]
 cases hd:l.drop i with
 | nil =>
  have:l[i]?=none:=by rw [<-List.head?_drop,hd];rfl
  rw [this];rfl
 | cons c r =>
  have:l[i]?=some c:=by rw [<-List.head?_drop,hd];rfl
  rw [this,qI]
  have hr2:(c::r).Pairwise fun a b=>a.key<b.key:=by rw [<-hd];exact List.Pairwise.sublist (List.drop_sublist _ _) hr
  have:ms r t=false:=(BH fun x hx=>by
   have h3:=(List.pairwise_cons.1 hr2).1 x hx;have h4:=hB c (by rw [hd];simp)
   exact Ic h4 h3).2
  rw [this,Bool.or_false]
theorem qJ:∀ a b:List UInt8,(Lib.compareBytes a b=0)↔a=b
 | [],[]=>by simp [Lib.compareBytes]
 | [],_::_=>by simp [Lib.compareBytes]
 | _::_,[]=>by simp [Lib.compareBytes]
 | a::s,b::t=>by
  unfold Lib.compareBytes;by_cases h1:a<b
  ·rw [if_pos h1];constructor
   ·intro h;omega
   ·intro h;cases h;exact absurd h1 (UInt8.lt_irrefl _)
  ·rw [if_neg h1];by_cases h2:b<a
   ·rw [if_pos h2];constructor
    ·intro h;omega
    ·intro h;cases h;exact absurd h2 (UInt8.lt_irrefl _)
   ·rw [if_neg h2,qJ s t];have e:a=b:=UInt8.le_antisymm (UInt8.not_lt.1 h2) (UInt8.not_lt.1 h1);simp [e]
theorem wz {f:Nat} (hf:Ii f) (hef:∀ args w,(callFunc f args).run Tryz.prog w=.ok (.enter f args) w) {B1 B2:Nat} {A:Option Addr} {l:List CX} (lc:Nat) {tA:Option Addr} (tc:Nat) {t:List UInt8} (w:World) (h:bf w B1 A l) (ht:Reads w B2 1 tA t.length (bl t)) (hB1:B1<=w.heap.size) (hB2:B2<=w.heap.size) (hl:l.length<=3000000) (hr:(l.map CX.c).Pairwise fun a b=>a.key<b.key) :
 Calls Tryz.prog 69 #[.slice A l.length lc,.slice tA t.length tc,.func (.func f) #[] #[]] w fun e w'=>e=.returned (.tuple #[.int .i64 (ct (l.map CX.c) t:Nat),.bool (ms (l.map CX.c) t)])/\Below w.heap.size w w':=by
 have HH:=lH (aI h ht);have HF:=lH (fun (x:CX) (W:World) (a:Reads W W.heap.size 1 x.ka x.c.key.length (bl x.c.key)) (b:Reads W W.heap.size 1 tA t.length (bl t))=>hf x tA tc t W a b (nR _) (nR _));clear h ht hf;go_enter Tryz.func69,Tryz.ntmps69;go_wp2
 go_loopw [9,10] (fun i j wr=>∃ a b:Nat,a<=b/\b<=l.length/\i=.int .i64 a/\j=.int .i64 b/\(∀ k x,(l.map CX.c)[k]?=some x->k<a->x.key<t)/\(∀ k x,(l.map CX.c)[k]?=some x->b<=k->¬ x.key<t)/\Below w.heap.size w wr) (fun i j _=>(intOf j).toNat-(intOf i).toNat)
 case atStart=>exact ⟨0,l.length,zL _,nR _,rfl,rfl,fun k x _ h=>by omega,fun k x hx h=>by have:=(lS.1 hx).1;simp at this;omega,bR _ _⟩
 case round =>
  obtain ⟨a,b,hab,hbl,rfl,rfl,h1,h2,hb⟩:=hrel
  obtain ⟨wo,rfl⟩:∃ wo,wo=wr:=⟨wr,rfl⟩
  have H12:=lH (aI h1 h2);clear h1 h2;by_cases hlt:a<b
  ·have d1:decide ((a:Int)<(b:Int))=true:=dT (by omega);have d2:decide (a<b)=true:=dT hlt
   obtain ⟨q,HQ⟩:∃ q,Hid (a+b=q):=⟨_,lH rfl⟩
   obtain ⟨m,HM⟩:∃ m,Hid (q / 2=m):=⟨_,lH rfl⟩
   have hq:=HQ.out;have hm:=HM.out
   have e1:IntKind.i64.wrap ((a:Int)+(b:Int))=(q:Int):=by rw [IntKind.wrap_i64];omega
   have e2:IntKind.u64.wrap (q:Int)=(q:Int):=by rw [IntKind.wrap_u64];omega
   have e3:(q:Int) / 2=(m:Int):=by omega
   have e4:IntKind.i64.wrap (m:Int)=(m:Int):=by rw [IntKind.wrap_i64];omega
   have hml:m<l.length:=by omega
   have m0:(0:Int)<=(m:Int):=by omega
   have m1:(m:Int)<(l.length:Int):=by omega
   obtain ⟨x,hx⟩:∃ x,l[m]?=some x:=⟨_,gE hml⟩
   have hC:=HH.out.1.below (hb.mono hB1);obtain ⟨g,o,rfl,hg,hc⟩:=hC.at_ (by omega);obtain ⟨c1,c2,c3,c4,c5⟩:=hc m x hx;have rk:=rM (hC.key x (mG hx)) (nT hB1 hb.size);have rt:=rM (HH.out.2.below (hb.mono hB2)) (nT hB2 hb.size);have hcall:=HF.out x wo rk rt;unfold CX.val cellV at hcall;have eg:=hef
   have hmab:a<=m/\m<b:=by omega
   have HMB:=lH (aI hmab (aI hab hbl))
   have hpc:(l.map CX.c)[m]?=some x.c:=by rw [List.getElem?_map,hx];rfl
   obtain ⟨r,HR⟩:∃ r,Hid (Lib.compareBytes x.c.key t=r):=⟨_,lH rfl⟩
   rw [HR.out] at hcall;have HP:=lH hpc;clear hpc hc hC hx hq hm hmab hab hbl rk rt;by_cases hneg:r<0
   ·have d3:decide (r<0)=true:=dT hneg;have hxl:x.c.key<t:=(i6 _ _).1 (by rw [HR.out];exact hneg);go_wp2;refine hcall.mono ?_;rintro e w2 ⟨rfl,hb2⟩;go_wp2
    go_roundw
    case rel =>
     obtain ⟨⟨g1,g2⟩,g3,g4⟩:=HMB.out
     exact ⟨m+1,b,by omega,g4,by go_num,rfl,fun k y hy hk=>by
      rcases Nat.lt_or_ge k m with h9 | h9
      ·have:=(List.pairwise_iff_getElem.1 hr) k m (by have:=(lS.1 hy).1;exact this) (by have:=(lS.1 HP.out).1;exact this) h9;rw [(lS.1 hy).2,(lS.1 HP.out).2] at this;exact Ia this hxl
      ·have:k=m:=by omega
       subst this;rw [HP.out] at hy
       cases hy
       exact hxl,H12.out.2,hb.trans (hb2.mono hb.size)⟩
    case measure=>obtain ⟨⟨g1,g2⟩,g3,g4⟩:=HMB.out;simp [intOf];omega
   ·have d3:decide (r<0)=false:=dF hneg;have hxl:¬ x.c.key<t:=fun h=>hneg (by rw [<-HR.out];exact (i6 _ _).2 h);go_wp2;refine hcall.mono ?_;rintro e w2 ⟨rfl,hb2⟩;go_wp2
    go_roundw
    case rel =>
     obtain ⟨⟨g1,g2⟩,g3,g4⟩:=HMB.out
     exact ⟨a,m,g1,by omega,rfl,rfl,H12.out.1,fun k y hy hk=>by
      rcases Nat.eq_or_lt_of_le hk with h9 | h9
      ·subst h9;rw [HP.out] at hy
       cases hy
       exact hxl
      ·have:=(List.pairwise_iff_getElem.1 hr) m k (by have:=(lS.1 HP.out).1;exact this) (by have:=(lS.1 hy).1;exact this) h9;rw [(lS.1 hy).2,(lS.1 HP.out).2] at this
       exact fun h=>hxl (Ia this h),hb.trans (hb2.mono hb.size)⟩
    case measure=>obtain ⟨⟨g1,g2⟩,g3,g4⟩:=HMB.out;simp [intOf];omega
  ·have d1:decide ((a:Int)<(b:Int))=false:=dF (by omega);have d2:decide (a<b)=false:=dF hlt
   obtain rfl:a=b:=by omega
   obtain ⟨s1,s2⟩:=Fc (l:=l.map CX.c) (t:=t) (i:=a) (by simpa using hbl) H12.out.1 H12.out.2 hr;have HS:=lH (aI s1 s2);clear s1 s2;by_cases hal:a<l.length
   ·have d3:decide ((a:Int)<(l.length:Int))=true:=dT (by omega);have d4:decide (a<l.length)=true:=dT hal
    have m0:(0:Int)<=(a:Int):=by omega
    have m1:(a:Int)<(l.length:Int):=by omega
    obtain ⟨x,hx⟩:∃ x,l[a]?=some x:=⟨_,gE hal⟩
    have hC:=HH.out.1.below (hb.mono hB1);obtain ⟨g,o,rfl,hg,hc⟩:=hC.at_ (by omega);obtain ⟨c1,c2,c3,c4,c5⟩:=hc a x hx;have rk:=rM (hC.key x (mG hx)) (nT hB1 hb.size);have rt:=rM (HH.out.2.below (hb.mono hB2)) (nT hB2 hb.size);have hcall:=HF.out x wo rk rt;unfold CX.val cellV at hcall;have eg:=hef
    have hpc:(l.map CX.c)[a]?=some x.c:=by rw [List.getElem?_map,hx];rfl
    have hz:decide (x.c.key=t)=(Lib.compareBytes x.c.key t==0):=by
     by_cases h9:x.c.key=t
     ·rw [dT h9,(qJ _ _).2 h9];rfl
     ·rw [dF h9];exact (beq_eq_false_iff_ne.2 fun h=>h9 ((qJ _ _).1 h)).symm
    have hfin:ms (l.map CX.c) t=(Lib.compareBytes x.c.key t==0):=by rw [HS.out.2,hpc];exact hz
    obtain ⟨r,HR⟩:∃ r,Hid (Lib.compareBytes x.c.key t=r):=⟨_,lH rfl⟩
    rw [HR.out] at hcall hfin;have HFN:=lH hfin;clear hpc hc hC hx rk rt hz hfin;go_wp2;refine hcall.mono ?_;rintro e w2 ⟨rfl,hb2⟩;go_wp2;go_ret2;exact ⟨by rw [HS.out.1,HFN.out];first | rfl | (congr 3),hb.trans (hb2.mono hb.size)⟩
   ·have d3:decide ((a:Int)<(l.length:Int))=false:=dF (by omega);have d4:decide (a<l.length)=false:=dF hal;have hn:(l.map CX.c)[a]?=none:=List.getElem?_eq_none (by simp;omega)
    have hfin:ms (l.map CX.c) t=false:=by rw [HS.out.2,hn]
    have HFN:=lH hfin;clear hn hfin;go_wp2;go_ret2;exact ⟨by rw [HS.out.1,HFN.out];rfl,hb⟩
theorem ax {X:Nat->Prop} {w w':World} {A:Option Addr} {n size:Nat} {xs:List Value} (h:Reads w w.heap.size size A n xs) (hf:Fr X w w') (hX:n≠0->∀ ad,A=some ad->¬ X ad.block):Reads w' w'.heap.size size A n xs :=
 ⟨h.1,fun h0=>by
  obtain ⟨ad,e,hb,hc⟩:=h.2 h0;refine ⟨ad,e,lT hb hf.size,fun j u hu=>?_⟩;refine (World.cell?_of_block ?_).trans (hc j u hu)
  have hbk:(ad.add j).block=ad.block:=by unfold Addr.add;split <;> rfl
  rw [hbk]
  exact hf.block _ hb (hX (by omega) ad e)⟩
structure CO (N:Nat->Prop) (w:World) (A:Option Addr) (l:List CX):Prop where
 at_:bf w w.heap.size A l
 ra:l≠[]->∀ ad,A=some ad->¬ N ad.block
 ka:∀ y∈l,y.c.key.length≠0->∀ ad,y.ka=some ad->¬ N ad.block
 va:∀ y∈l,y.c.val.length≠0->∀ ad,y.va=some ad->¬ N ad.block
theorem CO.fr {N X:Nat->Prop} {w w':World} {A:Option Addr} {l:List CX} (h:CO N w A l) (hf:Fr X w w') (hX:∀ k,X k->N k):CO N w' A l:=by
 refine ⟨⟨?_,fun y hy=>ax (h.at_.key y hy) hf (fun h0 ad e hh=>h.ka y hy h0 ad e (hX _ hh)),fun y hy=>ax (h.at_.val y hy) hf (fun h0 ad e hh=>h.va y hy h0 ad e (hX _ hh))⟩,h.ra,h.ka,h.va⟩
 rcases h.at_.row with h0 | ⟨g,o,e,hg,hc⟩
 ·exact .inl h0
 ·by_cases hl:l=[]
  ·exact .inl hl
  ·exact .inr ⟨g,o,e,lT hg hf.size,fun k x hx j u hu=>(World.cell?_of_block (hf.block g hg (fun hh=>h.ra hl _ e (hX _ hh)))).trans (hc k x hx j u hu)⟩
theorem CO.below {N:Nat->Prop} {w w':World} {A:Option Addr} {l:List CX} (h:CO N w A l) (hb:Below w.heap.size w w'):CO N w' A l:=h.fr (X:=fun _=>False) (Fr.of_below hb) (fun _ h=>h.elim)
theorem CO.mono {N N':Nat->Prop} {w:World} {A:Option Addr} {l:List CX} (h:CO N w A l) (hN:∀ k,k<w.heap.size->N' k->N k):CO N' w A l:=by
 refine ⟨h.at_,fun h0 ad e hh=>?_,fun y hy h0 ad e hh=>?_,fun y hy h0 ad e hh=>?_⟩
 ·refine h.ra h0 ad e (hN _ ?_ hh)
  rcases h.at_.row with h1 | ⟨g,o,e1,hg,_⟩
  ·exact absurd h1 h0
  ·rw [e1] at e;cases e;exact hg
 ·obtain ⟨a,e1,hb,_⟩:=(h.at_.key y hy).2 (Nat.pos_of_ne_zero h0);rw [e1] at e;cases e;exact h.ka y hy h0 _ e1 (hN _ hb hh)
 ·obtain ⟨a,e1,hb,_⟩:=(h.at_.val y hy).2 (Nat.pos_of_ne_zero h0);rw [e1] at e;cases e;exact h.va y hy h0 _ e1 (hN _ hb hh)
structure SX where
 n:Nat
 kind:Int
 la:Option Addr
 l:List CX
 lc:Nat
 i:Nat
structure SO (N:Nat->Prop) (w:World) (s:SX):Prop where
 cells:CO N w s.la s.l
 many:s.l.length<=1000
 ok:∀ y∈s.l,kJ s.kind y.c=true/\y.c.fit
 rise:(s.l.map CX.c).Pairwise fun a b=>a.key<b.key
 kind:s.kind=3\/s.kind=2
 n32:s.n<4294967296
 i:s.kind=2->s.i<s.l.length
theorem qK {t:PT} {n:Nat} {x:PN} (h:cn t n=.ok x):aD x=true:=by
 unfold cn at h
 split at h
 ·cases h
 ·unfold cJ at h
  split at h
  ·cases h
  ·split at h
   ·cases h
   ·split at h
    ·cases h;assumption
    ·cases h
def zW (t:PT):Value:=.agg #[.int .u32 (t.root:Nat),.int .u32 (t.pages:Nat),.int .u32 (t.free:Nat),.int .u64 (t.entries:Nat)]
theorem wB {X:Nat->Prop} {w:World} {T M:Nat} {t:PT} (h:TX X w T M t):Calls Tryz.prog 29 #[.pointer (some ⟨T,0,none⟩)] w fun e w'=>e=.returned (zW t)/\Below w.heap.size w w':=by
 obtain ⟨O,ck,src,h⟩:=h;have f2:w.cell? ⟨T,2,none⟩=some (.int .u32 (t.root:Nat)):=h.blk.cell 2;have f3:w.cell? ⟨T,3,none⟩=some (.int .u32 (t.pages:Nat)):=h.blk.cell 3;have f4:w.cell? ⟨T,4,none⟩=some (.int .u32 (t.free:Nat)):=h.blk.cell 4;have f5:w.cell? ⟨T,5,none⟩=some (.int .u64 (t.entries:Nat)):=h.blk.cell 5;have hT:=h.lt.1;clear h;unfold zW;go_enter Tryz.func29,Tryz.ntmps29;go_wp2;refine bodyPost_ret (results_cell_row rfl _ _ w.heap.size 79 _ (0,0) _ rfl (heap_alloc_new w _) Tryz.underlying79 rfl (by kernel_rfl)) rfl ?_;exact ⟨rfl,(bR _ w).alloc (nR _) _⟩
theorem sF (a b c d:Value) (W:World):(Instr.field 79 (.agg #[a,b,c,d]) 0).run Tryz.prog W=.ok a W:=by rfl
theorem BK {b:List UInt8} {x:PN} (h:cJ b=.ok x):x.cells.length<=120/\∀ c∈x.cells,c.fit:=by
 unfold cJ at h
 split at h
 ·cases h
 ·split at h
  ·cases h
  ·rename_i n hn
   split at h
   ·cases h
    unfold cT at hn
    split at hn
    ·simp only at hn;split at hn
     ·cases hn;exact ⟨zL _,fun c h=>by cases h⟩
     ·cases hn
    ·split at hn
     ·simp only at hn;split at hn
      ·cases hn;exact ⟨zL _,fun c h=>by cases h⟩
      ·cases hn
     ·split at hn
      ·simp only at hn;split at hn
       ·cases hn;exact ⟨zL _,fun c h=>by cases h⟩
       ·cases hn
      ·split at hn
       ·cases hn
       ·rename_i l hl
        split at hn
        ·cases hn
        ·rename_i c hc
         cases hn
         have:=oZ hl;have h2:=kR hc;exact ⟨by show c.length<=120;omega,h2.1⟩
   ·cases h
theorem lk {t:PT} {n:Nat} {x:PN} (h:cn t n=.ok x):x.cells.length<=120/\∀ c∈x.cells,c.fit:=by
 unfold cn at h
 split at h
 ·cases h
 ·exact BK h
theorem qL (l:List PC) (t:List UInt8):nQ l t<=l.length:=by
 unfold nQ;have h1:ct l t<=l.length:=List.countP_le_length
 split
 ·rename_i h;refine Nat.lt_of_le_of_ne h1 fun he=>?_;unfold ct at he;rw [List.countP_eq_length] at he;unfold ms at h;obtain ⟨c,hc,h2⟩:=List.any_eq_true.1 h
  have h3:c.key=t:=by simpa using h2
  have h4:c.key<t:=by simpa using he c hc
  rw [h3] at h4;exact List.lt_irrefl _ h4
 ·exact h1
theorem SO.of_node {N:Nat->Prop} {w:World} {y:NX} {q:Nat} {x:PN} {L:Nat} (i:Nat) (hat:aP w w.heap.size y) (hlo:dC L y) (hN:∀ k,N k->k<L) (hy:y.n=x) (hok:aD x=true) (hm:x.cells.length<=120/\∀ c∈x.cells,c.fit) (hk:x.kind=3\/x.kind=2) (hq:q<4294967296) (hi:x.kind=2->i<y.l.length):SO N w ⟨q,x.kind,y.ca,y.l,y.cc,i⟩:=by
 subst hy;have hl:y.n.cells=y.l.map CX.c:=rfl;refine ⟨⟨hat.cells,fun _ ad e hh=>?_,fun z hz _ ad e hh=>?_,fun z hz _ ad e hh=>?_⟩,?_,fun z hz=>⟨sO hok z.c (List.mem_map_of_mem hz),hat.fit z hz⟩,?_,hk,hq,hi⟩
 ·have:=hlo.ca ad e;have:=hN _ hh;omega
 ·have:=hlo.ka z hz ad e;have:=hN _ hh;omega
 ·have:=hlo.va z hz ad e;have:=hN _ hh;omega
 ·have:=hm.1;rw [hl,List.length_map] at this;show y.l.length<=1000;omega
 ·exact (jY _).1 (gP hok hk.symm).2.1
structure LX where
 leaf:Bool
 la:Option Addr
 l:List CX
 lc:Nat
 next:Int
def LX.sl (s:LX):SL:=⟨s.leaf,s.l.map CX.c,s.next⟩
def LX.vals (s:LX):List Value:=[.bool s.leaf,.slice s.la s.l.length s.lc,.int .i64 s.next]
structure LO (N:Nat->Prop) (w:World) (s:LX):Prop where
 cells:CO N w s.la s.l
 many:s.l.length<=120
 fit:∀ y∈s.l,y.c.fit
 lo:-1<=s.next
 hi:s.next<=s.l.length
theorem LO.fr {N X:Nat->Prop} {w w':World} {s:LX} (h:LO N w s) (hf:Fr X w w') (hX:∀ k,X k->N k):LO N w' s:=⟨h.cells.fr hf hX,h.many,h.fit,h.lo,h.hi⟩
theorem LO.below {N:Nat->Prop} {w w':World} {s:LX} (h:LO N w s) (hb:Below w.heap.size w w'):LO N w' s:=⟨h.cells.below hb,h.many,h.fit,h.lo,h.hi⟩
theorem LO.mono {N N':Nat->Prop} {w:World} {s:LX} (h:LO N w s) (hN:∀ k,k<w.heap.size->N' k->N k):LO N' w s:=⟨h.cells.mono hN,h.many,h.fit,h.lo,h.hi⟩
def fu (l:List LX):List Value:=l.flatMap LX.vals
theorem eT (a b:List LX):fu a++fu b=fu (a++b):=by unfold fu;rw [List.flatMap_append]
theorem jv (l:List LX):(fu l).length=l.length*3:=by
 induction l with
 | nil=>rfl
 | cons s l ih=>unfold fu at ih ⊢;rw [List.flatMap_cons,lQ,ih];simp [LX.vals];omega
theorem mw (L:List LX):∀ u∈fu L,u.oneCell'=true:=by
 intro u hu;obtain ⟨x,_,hx⟩:=List.mem_flatMap.1 hu;simp only [LX.vals,List.mem_cons,List.not_mem_nil,or_false] at hx
 rcases hx with rfl | rfl | rfl <;> rfl
theorem eF {w:World} {B e size n c:Nat} {A:Option Addr} {xs:List Value} (h:w.ownsRow B e size (.slice A n c) n xs) {i:Nat} {u:Value} (hi:xs[i]?=some u):∃ g,A=some ⟨g,0,none⟩/\B<=g/\g<w.heap.size/\w.cell? ⟨g,i,none⟩=some u/\w.frozen? ⟨g,i,none⟩=false:=by
 rcases h.2 with ⟨_,e2⟩ | ⟨g,cap,cur,e1,e2,e3,e4,e5,e6,e7⟩
 ·have:=h.1;rw [e2,Nat.zero_mul] at this;rw [List.length_eq_zero_iff.1 this] at hi
  cases hi
 ·simp only [Value.slice.injEq] at e1;refine ⟨g,e1.1,e2,(aS.1 e3).1,?_,aa.frozen e3 i⟩;rw [cell_of_row w g i cur e (0,0) e3,<-Array.getElem?_toList];rw [<-e7] at hi
  exact (List.getElem?_take_of_lt (by
   have:=(lS.1 hi).1;rw [lK] at this
   omega)).symm.trans hi
theorem Fe {w:World} {B e size n c g:Nat} {A:Option Addr} {xs:List Value} (h:w.ownsRow B e size (.slice A n c) n xs) (hA:A=some ⟨g,0,none⟩) (i:Nat) (u:Value):(w.setCell ⟨g,i,none⟩ u).ownsRow B e size (.slice A n c) n (xs.set i u):=by
 subst hA;refine ⟨by rw [List.length_set];exact h.1,h.2.imp (fun h=>h) ?_⟩;rintro ⟨g',cap,cur,e1,e2,e3,e4,e5,e6,e7⟩;simp only [Value.slice.injEq,Option.some.injEq,Addr.mk.injEq] at e1;obtain ⟨⟨rfl,_⟩,_⟩:=e1;refine ⟨g,cap,cur.setIfInBounds i u,by simp_all,e2,aa.set_ e3 i u,e4,e5,by simpa using e6,?_⟩;rw [Array.toList_setIfInBounds,List.take_set,e7]
theorem Ff {w:World} {B e size n m c:Nat} {A:Option Addr} {xs ys:List Value} (h:w.ownsRow B e size (.slice A n c) n xs) (hm:m<=n) (hy:xs.take (m*size)=ys) (h0:0<n):w.ownsRow B e size (.slice A m c) m ys:=by
 subst hy;have hle:m*size<=n*size:=Nat.mul_le_mul_right _ hm;refine ⟨by rw [lK,h.1];omega,.inr ?_⟩
 rcases h.2 with ⟨_,h1⟩ | ⟨g,cap,cur,e1,e2,e3,e4,e5,e6,e7⟩
 ·omega
 ·simp only [Value.slice.injEq] at e1;refine ⟨g,cap,cur,by simp_all,e2,e3,by omega,e5,e6,?_⟩;rw [<-e7,List.take_take,Nat.min_eq_left hle]
def WZ (Z:Nat->Prop) (w0 p:Nat) (A:Option Addr) (k:Nat):Prop:=(Z k\/k<w0)\/k=p\/∃ ad,A=some ad/\ad.block=k
structure CR (Z:Nat->Prop) (B p:Nat) (w:World) (A:Option Addr) (c:Nat) (l:List LX):Prop where
 row:w.ownsRow B 115 3 (.slice A l.length c) l.length (fu l)
 lv:∀ s∈l,LO (WZ Z B p A) w s
 sep:∀ ad,A=some ad->ad.block≠p
theorem CR.nil (Z:Nat->Prop) (B p:Nat) (w:World):CR Z B p w none 0 []:=⟨⟨rfl,.inl ⟨rfl,rfl⟩⟩,fun s h=>(by cases h),fun ad h=>(by cases h)⟩
theorem CR.below {Z:Nat->Prop} {B p:Nat} {w w':World} {A:Option Addr} {c:Nat} {l:List LX} (h:CR Z B p w A c l) (hb:Below w.heap.size w w'):CR Z B p w' A c l :=
 ⟨eO h.row hb,fun s hs=>(h.lv s hs).below hb,h.sep⟩
theorem CR.setp {Z:Nat->Prop} {B p:Nat} {w:World} {A:Option Addr} {c:Nat} {l:List LX} (h:CR Z B p w A c l) (o:Nat) (u:Value):CR Z B p (w.setCell ⟨p,o,none⟩ u) A c l :=
 ⟨py h.row h.sep,fun s hs=>(h.lv s hs).fr (X:=WZ Z B p A) (aT (.inr (.inl rfl))) (fun _ h=>h),h.sep⟩
theorem CR.lo_row {Z:Nat->Prop} {B p:Nat} {w:World} {A:Option Addr} {c:Nat} {l:List LX} (h:CR Z B p w A c l):∀ ad,A=some ad->B<=ad.block/\ad.block<w.heap.size:=by
 intro ad e
 rcases h.row.2 with ⟨h0,_⟩ | ⟨g,cap,cur,e1,e2,e3,r⟩
 ·rw [e] at h0;cases h0
 ·rw [e] at e1;have e1:=(Value.slice.injEq .. ▸ e1:some ad=_/\_).1
  cases e1
  exact ⟨e2,(aS.1 e3).1⟩
theorem CR.far {Z:Nat->Prop} {B p:Nat} {w:World} {A:Option Addr} {c:Nat} {l:List LX} (h:CR Z B p w A c l) (hz:∀ k,Z k->k<w.heap.size) (hp:p<w.heap.size) (hB:B<=p):∀ k,WZ Z B p A k->k<w.heap.size:=by
 rintro k ((h1 | h1) | h1 | ⟨ad,e,h1⟩)
 ·exact hz k h1
 ·omega
 ·omega
 ·have:=(h.lo_row ad e).2;omega
theorem CR.push {Z:Nat->Prop} {B p:Nat} {w5 w6 w7:World} {A A7:Option Addr} {c c7:Nat} {l:List LX} {s:LX} (h:CR Z B p w5 A c l) (hp:p<w5.heap.size) (hb:Below w5.heap.size w5 w6) (hg:w6.grownBy w7 (.slice A l.length c:Value).ownBlock)
 (ho:w7.ownsRow B 115 3 (.slice A7 (l++[s]).length c7) (l++[s]).length (fu (l++[s]))) (hob:(.slice A7 (l++[s]).length c7:Value).ownBlock=(.slice A l.length c:Value).ownBlock\/(.slice A7 (l++[s]).length c7:Value).ownBlock=some w6.heap.size)
 (hs:LO (WZ Z B p A) w5 s):CR Z B p (w7.setCell ⟨p,1,none⟩ (.slice A7 (l++[s]).length c7)) A7 c7 (l++[s])/\((∃ ad ad7,A=some ad/\A7=some ad7/\ad.block=ad7.block)\/∃ ad7,A7=some ad7/\ad7.block=w6.heap.size):=by
 have h6:=h.below hb;have hs6:LO (WZ Z B p A) w6 s:=hs.below hb
 have hf7:Fr (WZ Z B p A) w6 w7:=⟨hg.os,hg.tape,hg.output,hg.size,fun k hk hX=>aW hg hk (fun ad e hh=>hX (.inr (.inr ⟨ad,e,hh⟩)))⟩
 have hf8:Fr (WZ Z B p A) w6 (w7.setCell ⟨p,1,none⟩ (.slice A7 (l++[s]).length c7)):=hf7.trans (aT (.inr (.inl rfl)))
 obtain ⟨a7,rfl⟩:∃ a7,A7=some a7:=by
  cases A7 with
  | some a=>exact ⟨a,rfl⟩
  | none =>
   rcases ho.2 with ⟨_,e2⟩ | ⟨g,cap,cur,e1,_⟩
   ·simp at e2
   ·simp at e1
 have e1:(Value.slice (some a7) (l++[s]).length c7).ownBlock=some a7.block:=by first | rfl | simp [Value.ownBlock]
 have hA7:(∃ a,A=some a/\a.block=a7.block)\/a7.block=w6.heap.size:=by
  rcases hob with h1 | h1
  ·rw [e1] at h1;obtain ⟨a,e2,e3⟩:=ownB h1.symm;exact .inl ⟨a,e2,e3⟩
  ·rw [e1] at h1;exact .inr (Option.some.inj h1)
 have hm:∀ k,k<w6.heap.size->WZ Z B p (some a7) k->WZ Z B p A k:=by
  rintro k hk (h1 | h1 | ⟨ad,e,h1⟩)
  ·exact .inl h1
  ·exact .inr (.inl h1)
  ·cases e
   rcases hA7 with ⟨a,e2,e3⟩ | h2
   ·exact .inr (.inr ⟨a,e2,e3.trans h1⟩)
   ·omega
 have hsep7:∀ ad,some a7=some ad->ad.block≠p:=by
  intro ad e hh
  cases e
  rcases hA7 with ⟨a,e2,e3⟩ | h2
  ·exact h6.sep a e2 (e3.trans hh)
  ·have:=hb.size;omega
 refine ⟨⟨py ho hsep7,fun u hu=>?_,hsep7⟩,?_⟩
 ·have h9:LO (WZ Z B p A) w6 u:=by
   rcases List.mem_append.1 hu with hu | hu
   ·exact h6.lv u hu
   ·rw [List.mem_singleton] at hu;subst hu;exact hs6
  exact ⟨⟨(h9.cells.fr hf8 (fun _ h=>h)).at_,(h9.cells.mono hm).ra,(h9.cells.mono hm).ka,(h9.cells.mono hm).va⟩,h9.many,h9.fit,h9.lo,h9.hi⟩
 ·rcases hA7 with ⟨a,e2,e3⟩ | h2
  ·exact .inl ⟨a,a7,e2,rfl,e3⟩
  ·exact .inr ⟨a7,rfl,h2⟩
theorem CR.pop {Z:Nat->Prop} {B p:Nat} {w:World} {A:Option Addr} {c:Nat} {l:List LX} {s:LX} (h:CR Z B p w A c (l++[s])):CR Z B p w A c l :=
 ⟨Ff h.row (by simp) (by rw [<-eT,List.take_left' (jv l)]) (by simp),fun u hu=>h.lv u (List.mem_append_left _ hu),h.sep⟩
theorem cg {l:List LX} {s:LX} {j:Nat} {u:Value} (hu:s.vals[j]?=some u):(fu (l++[s]))[l.length*3+j]?=some u:=by
 rw [<-eT,List.getElem?_append_right (by rw [jv];omega),jv,Nat.add_sub_cancel_left];unfold fu;rw [List.flatMap_cons,List.flatMap_nil,List.append_nil];exact hu
theorem CR.bump {Z:Nat->Prop} {B p g:Nat} {w:World} {A:Option Addr} {c:Nat} {l:List LX} {s:LX} (h:CR Z B p w A c (l++[s])) (hA:A=some ⟨g,0,none⟩) (n:Int) (h1:-1<=n) (h2:n<=s.l.length):CR Z B p (w.setCell ⟨g,l.length*3+2,none⟩ (.int .i64 n)) A c (l++[{s with next:=n}]):=by
 have hN:WZ Z B p A g:=.inr (.inr ⟨_,hA,rfl⟩);refine ⟨?_,fun u hu=>?_,h.sep⟩
 ·have:=Fe h.row hA (l.length*3+2) (.int .i64 n);rw [<-eT,List.set_append,if_neg (by rw [jv];omega),jv,Nat.add_sub_cancel_left] at this;rw [<-eT]
  simpa [fu,LX.vals] using this
 ·rcases List.mem_append.1 hu with hu | hu
  ·exact (h.lv u (List.mem_append_left _ hu)).fr (X:=WZ Z B p A) (aT hN) (fun _ h=>h)
  ·rw [List.mem_singleton] at hu;subst hu;have h9:=(h.lv s (by simp)).fr (X:=WZ Z B p A) (aT (o:=l.length*3+2) (u:=.int .i64 n) hN) (fun _ h=>h);exact ⟨h9.cells,h9.many,h9.fit,h1,h2⟩
end
end Go.Proofs.YtgohffhoapkeaaaGreatDoor
