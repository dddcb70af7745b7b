/- A part of the proof of ScanWild. No condition of its own. -/
import Derived.Test.YtgohffhoapkeaaaGreatDoorVz
import Derived.Test.YtgohffhoapkeaaaGreatDoorProg
import Derived.WalkKit
import Derived.Below
import Derived.BigCall
import Derived.BigGuard
import Derived.BigFrame
import Derived.Lib.Hide
import Derived.Maps.OwnSet
import Derived.Maps.OwnOps
import Derived.WalkSpells
import Derived.Laws.OwnMore
import Derived.Deep.AppendSrc
import Derived.StillTailTactics
import Derived.LaidEql
import Derived.Stop.Asserts
import Derived.RowKitTokens
import Derived.Deep.AppendLies
import Derived.Deep.Draws
import Derived.Maps.AppendAt
import Derived.RegionTactic
import Derived.OwnWalk
import Derived.StillTail
import Derived.Deep.RegionHeld3
import Derived.Deep.RegionLaw
import Derived.Lib.AppendZerosOnto
import Derived.Lib.SliceRun
import Derived.LoopTactic
import Derived.Outline
import Derived.Laws.BitsAllLaws
import Derived.WalkLawsBesides
import Derived.Deep.WholeRow
set_option maxHeartbeats 4000000
set_option maxRecDepth 1000000
set_option linter.unusedVariables false
namespace Go.Proofs.YtgohffhoapkeaaaGreatDoor
section
open Go.RowKit
structure Fr (X:Nat->Prop) (w w':World):Prop where
 os:w'.os=w.os
 tape:w'.tape=w.tape
 output:w'.output=w.output
 size:w.heap.size<=w'.heap.size
 block:∀ k,k<w.heap.size->¬ X k->w'.heap[k]?=w.heap[k]?
section
variable {X Y:Nat->Prop} {w w' a b c:World}
theorem Fr.refl (X:Nat->Prop) (w:World):Fr X w w:=⟨rfl,rfl,rfl,nR _,fun _ _ _=>rfl⟩
theorem Fr.trans (h:Fr X a b) (k:Fr X b c):Fr X a c :=
 ⟨k.os.trans h.os,k.tape.trans h.tape,k.output.trans h.output,nT h.size k.size,fun i hi hx=>(k.block i (lT hi h.size) hx).trans (h.block i hi hx)⟩
theorem Fr.mono (h:Fr X a b) (hX:∀ k,k<a.heap.size->X k->Y k):Fr Y a b:=⟨h.os,h.tape,h.output,h.size,fun i hi hy=>h.block i hi (fun hx=>hy (hX i hi hx))⟩
theorem Fr.below {B:Nat} (h:Fr X w w') (hB:B<=w.heap.size) (hX:∀ k,X k->B<=k):Below B w w' :=
 ⟨h.os,h.tape,h.output,h.size,fun k hk=>h.block k (lT hk hB) (fun hx=>by have:=hX k hx;omega)⟩
theorem Fr.of_below (h:Below w.heap.size w w'):Fr X w w':=⟨h.os,h.tape,h.output,h.size,fun k hk _=>h.block k hk⟩
theorem Fr.drew (h:Fr X a w):Fr X a w.drew:=⟨h.os,h.tape,h.output,h.size,h.block⟩
theorem Fr.alloc (h:Fr X a w) (o:Obj):Fr X a (w.alloc o) :=
 h.trans ⟨rfl,rfl,rfl,by simp,fun k hk _=>Below.heap_alloc _ _ _ hk⟩
theorem Fr.setCell (h:Fr X a w) {p:Addr} (hp:a.heap.size<=p.block\/X p.block) (u:Value):Fr X a (w.setCell p u) :=
 ⟨h.os,h.tape,h.output,by simpa [World.setCell] using h.size,fun k hk hx=>(Below.heap_setCell _ _ _ _ (fun e=>by subst e;rcases hp with hp | hp;omega;exact hx hp)).trans (h.block k hk hx)⟩
theorem Fr.heap {k:Nat} {o:Obj} (h:Fr X w w') (hk:w.heap[k]?=some o) (hx:¬ X k):w'.heap[k]?=some o:=(h.block k (aS.1 hk).1 hx).trans hk
end
def aa (w:World) (g:Nat) (t:TypeId) (cs:Array Value):Prop:=w.heap[g]?=some (.cells cs t (0,0))
section
variable {w w':World} {g:Nat} {t:TypeId} {cs:Array Value}
theorem aa.lt (h:aa w g t cs):g<w.heap.size:=(aS.1 h).1
theorem aa.cell (h:aa w g t cs) (i:Nat):w.cell? ⟨g,i,none⟩=cs[i]?:=cell_of_row w g i cs t (0,0) h
theorem aa.frozen (h:aa w g t cs) (i:Nat):w.frozen? ⟨g,i,none⟩=false:=by
 unfold aa at h;simp [World.frozen?,h]
theorem aa.new (w:World) (t:TypeId) (cs:Array Value):aa (w.alloc (.cells cs t)) w.heap.size t cs:=heap_alloc_new w _
theorem aa.drew (h:aa w g t cs):aa w.drew g t cs:=h
theorem aa.alloc (h:aa w g t cs) (o:Obj):aa (w.alloc o) g t cs:=(Below.heap_alloc w o g h.lt).trans h
theorem aa.set_ (h:aa w g t cs) (i:Nat) (u:Value):aa (w.setCell ⟨g,i,none⟩ u) g t (cs.setIfInBounds i u):=by
 unfold aa at h ⊢;simp [World.setCell,Array.getElem?_modify,h]
theorem aa.far (h:aa w g t cs) {p:Addr} (hp:g≠p.block) (u:Value):aa (w.setCell p u) g t cs:=(Below.heap_setCell w p u g hp).trans h
theorem aa.fr {X:Nat->Prop} (h:aa w g t cs) (hf:Fr X w w') (hx:¬ X g):aa w' g t cs:=hf.heap h hx
end
theorem oT {P:Program} {id:Nat} {Q:Exit->Act->World->Prop} {a:Act} {w:World} {l:List Oper} (n:Nat) (hm:P.follows .mixedOrders=true) (hB:Region.lexTailB .any l.toArray n=true)
 (h:wpStill P l.toArray w.drew (fun a'=>wpList P l.toArray Q (l.drop n) a' w.drew) (l.take n) a):(Code.region id l.toArray true).wp P Q a w:=wp_region_still_tail n hm hB h
end
section
open Go.RowKit Go.Extern.Stop Go.Stop Go.Extern
def ay (w:World):Prop:=w.cell? ⟨0,0,none⟩=some (.iface 158 (.agg #[.pointer (some ⟨5,30,none⟩)]))
namespace Xa
def ou (t:Nat):Value:=.agg #[.pointer (some ⟨5,t,none⟩)]
def val (t:Nat) (a:Addr) (f:Int):Value:=.agg #[.pointer (some ⟨5,t,none⟩),.pointer (some a),.int .u64 f]
theorem wU (h:Value) (w:World):(Go.method 432 158 (.agg #[h]) "Kind").run Tryz.prog w=.ok (202,h) w:=by kernel_rfl
theorem wV (h:Value) (w:World):(Go.method 432 158 (.agg #[h]) "Elem").run Tryz.prog w=.ok (218,.agg #[h]) w:=by kernel_rfl
theorem mE (h:Value) (w:World):(Go.method 432 158 (.agg #[h]) "Implements").run Tryz.prog w=.ok (219,.agg #[h]) w:=by kernel_rfl
theorem fH (h:Value) (w:World):(Go.method 432 158 (.agg #[h]) "AssignableTo").run Tryz.prog w=.ok (216,.agg #[h]) w:=by kernel_rfl
theorem sL (v:Value) (w:World):(Go.method 432 82 v "Unwrap").run Tryz.prog w=.ok (211,v) w:=by kernel_rfl
theorem Jd (z:Sem Value) (f:TypeId->Addr->Nat->Nat->Sem Value) (v:Value) :
 ReflectliteValue.method z f #[v]=(do match <-ReflectliteValue.parts v with | none=>z | some (t,a,fl)=>f t a fl (fl % 32)):=rfl
theorem Jk (v x:Value):ReflectliteValue.set #[v,x]=(do
 let (some (dst,a,fl),some (src,b,_)):=(<-ReflectliteValue.parts v,<-ReflectliteValue.parts x)
  | unsupported (.noEntry "extern/(internal/reflectlite.Value).Set.zeroValue")
 if fl / ReflectliteValue.flagAddr % 2==0 then unsupported (.noEntry "extern/(internal/reflectlite.Value).Set.unaddressable")
 let val <-loadVar src b
 if <-Rtype.directlyAssignable dst src then storeVar dst a val
 else if <-Rtype.implements dst src then
  if (<-Rtype.kind src)==20 then
   match val with
   | .nilIface=>unsupported (.noEntry "extern/reflectlite: a nil value of one interface type handed on as a value of another")
   | _=>storeVar dst a val
  else storeVar dst a (.iface src val)
 else panicString ("reflectlite.Set: value of type " ++ (<-Rtype.spelt src) ++ " is not assignable to type " ++ (<-Rtype.spelt dst))
 pure (.tuple #[])):=rfl
theorem Ae (t:Addr) (w:World):(ReflectliteValue.unpack (.iface 131 (.pointer (some t)))).run Tryz.prog w=.ok (val 131 ⟨w.heap.size,0,none⟩ 150) (w.alloc (.cells #[.pointer (some t)] 131)):=by kernel_rfl
theorem FW (a:Addr) (w:World):(ReflectliteValue.methodAny (ReflectliteValue.valueError "reflectlite.Value.Type" 0) (fun t _ _ _=>ReflectliteType.toType t) #[val 131 a 150]).run Tryz.prog w=.ok (.iface 158 (ou 131)) w:=by kernel_rfl
theorem FX (w:World):((ReflectliteType.abiMethod fun t=>Functor.map (fun a:Nat=>Value.int IntKind.u8 (a:Int)) (Rtype.kind t)) #[.pointer (some ⟨5,131,none⟩)]).run Tryz.prog w=.ok (.int .u8 22) w:=by kernel_rfl
theorem Hj (w:World):((ReflectliteType.abiMethod fun t=>Functor.map (fun a:Nat=>Value.int IntKind.u8 (a:Int)) (Rtype.kind t)) #[.pointer (some ⟨5,66,none⟩)]).run Tryz.prog w=.ok (.int .u8 2) w:=by kernel_rfl
theorem yQ (a:Addr) (w:World):(ReflectliteValue.parts (val 131 a 150)).run Tryz.prog w=.ok (some (131,a,150)) w:=by kernel_rfl
theorem Ec (a p:Addr) (W:World) (ha:W.cell? a=some (.pointer (some p))):(ReflectliteValue.method (ReflectliteValue.valueError "reflectlite.Value.IsNil" 0) ReflectliteValue.isNil #[val 131 a 150]).run Tryz.prog W=.ok (.bool false) W:=by
 rw [Jd];simp only [Sem.run_bind,yQ,Result.andThen];simp [ReflectliteValue.isNil,loadVar,isAgg,underlying,Tryz.underlying131,ha,Result.andThen]
theorem FY (w:World):(ReflectliteType.method ReflectliteType.elem #[ou 131]).run Tryz.prog w=.ok (.iface 158 (ou 66)) w:=by kernel_rfl
theorem Hk (w:World):(ReflectliteType.relation "Implements" ReflectliteType.implements_ #[ou 66,.iface 158 (ou 30)]).run Tryz.prog w=.ok (.bool true) w:=by kernel_rfl
theorem yR (v:Value) (w:World):(ReflectliteType.typeOf #[.iface 66 v]).run Tryz.prog w=.ok (.iface 158 (ou 66)) w:=by kernel_rfl
theorem Ed (v:Value) (w:World):(ReflectliteType.typeOf #[.iface 82 v]).run Tryz.prog w=.ok (.iface 158 (ou 82)) w:=by kernel_rfl
theorem FE (w:World):(ReflectliteType.relation "AssignableTo" ReflectliteType.assignableTo #[ou 66,.iface 158 (ou 66)]).run Tryz.prog w=.ok (.bool true) w:=by kernel_rfl
theorem Hl (w:World):(ReflectliteType.relation "AssignableTo" ReflectliteType.assignableTo #[ou 82,.iface 158 (ou 66)]).run Tryz.prog w=.ok (.bool false) w:=by kernel_rfl
theorem uM (k:Int) (w:World):(ReflectliteValue.unpack (.iface 66 (.int .i64 k))).run Tryz.prog w=.ok (val 66 ⟨w.heap.size,0,none⟩ 130) (w.alloc (.cells #[.int .i64 k] 66)):=by kernel_rfl
theorem B9 (w:World):(Rtype.elem? 131).run Tryz.prog w=.ok (some 66) w:=by kernel_rfl
theorem Jl (p:Addr) (w:World):(ReflectliteValue.mk 66 p ReflectliteValue.flagAddr).run Tryz.prog w=.ok (val 66 p 386) w:=by kernel_rfl
theorem yS (a p:Addr) (W:World) (ha:W.cell? a=some (.pointer (some p))):(ReflectliteValue.method (ReflectliteValue.valueError "reflectlite.Value.Elem" 0) ReflectliteValue.elem #[val 131 a 150]).run Tryz.prog W=.ok (val 66 p 386) W:=by
 rw [Jd];simp only [Sem.run_bind,yQ,Result.andThen];simp [ReflectliteValue.elem,loadVar,isAgg,underlying,Tryz.underlying131,ha,Result.andThen,B9,Jl]
theorem Ee (a:Addr) (w:World):(ReflectliteValue.parts (val 66 a 386)).run Tryz.prog w=.ok (some (66,a,386)) w:=by kernel_rfl
theorem FZ (a:Addr) (w:World):(ReflectliteValue.parts (val 66 a 130)).run Tryz.prog w=.ok (some (66,a,130)) w:=by kernel_rfl
theorem IM (w:World):(Rtype.directlyAssignable 66 66).run Tryz.prog w=.ok true w:=by kernel_rfl
theorem Hm (ta b:Addr) (k:Int) (old:Value) (W:World) (hb:W.cell? b=some (.int .i64 k)) (ht:W.cell? ta=some old) (hf:W.frozen? ta=false) :
 (ReflectliteValue.set #[val 66 ta 386,val 66 b 130]).run Tryz.prog W=.ok (.tuple #[]) (W.setCell ta (.int .i64 k)):=by
 rw [Jk];simp only [Sem.run_bind,Ee,FZ,Result.andThen];simp [ReflectliteValue.flagAddr,loadVar,isAgg,underlying,Tryz.underlying66,hb,Result.andThen,IM,storeVar,Value.cells,storeCells,Addr.add];rw [run_store Tryz.prog W ta _ _ (by rfl)];simp [ht,hf]
theorem Hn (v:Value) (xT:TypeId) (w:World):(Instr.typeAssert (.iface 82 v) xT 174 true).run Tryz.prog w=.ok (.tuple #[.nilIface,.bool false]) w:=run_typeAssert_lacksB Tryz.underlying174 (by kernel_rfl) (by kernel_rfl) v xT w
theorem wW (v:Value) (xT:TypeId) (w:World):(Instr.typeAssert (.iface 82 v) xT 163 true).run Tryz.prog w=.ok (.tuple #[.iface 82 v,.bool true]) w:=run_typeAssert_hasB Tryz.underlying163 (by kernel_rfl) v xT w
end Xa
end
section
open Go.RowKit Go.Extern.Stop Go.Stop Go.Extern
open Xa
theorem F0 {w:World} (k:Int) (t a:Addr) (old:Value) (ha:w.cell? a=some (.pointer (some t))) (ht:w.cell? t=some old) (hf:w.frozen? t=false) (tg:Value) :
 Calls Tryz.prog 54 #[.iface 66 (.int .i64 k),tg,val 131 a 150,.iface 158 (ou 66)] w fun e w'=>e=.returned (.bool true)/\w'=((w.alloc (.cells #[.pointer (some ⟨5,131,none⟩),.pointer (some a),.int .u64 150] 124)).alloc (.cells #[.int .i64 k] 66)).setCell t (.int .i64 k):=by
 have h1:=@run_callFunc_extern Tryz.prog 51 _ (fun args=>ReflectliteValue.unpack (args.getD 0 (.tuple #[]))) Tryz.func51 (by kernel_rfl) (by kernel_rfl) (by kernel_rfl) (by kernel_rfl);have h2:=@run_callFunc_extern Tryz.prog 43 _ ReflectliteType.typeOf Tryz.func43 (by kernel_rfl) (by kernel_rfl) (by kernel_rfl) (by kernel_rfl);have h3:=@run_callFunc_extern Tryz.prog 216 _ (ReflectliteType.relation "AssignableTo" ReflectliteType.assignableTo) Tryz.func216 (by kernel_rfl) (by kernel_rfl) (by kernel_rfl) (by kernel_rfl);have h4:=@run_callFunc_extern Tryz.prog 73 _ (ReflectliteValue.method (ReflectliteValue.valueError "reflectlite.Value.Elem" 0) ReflectliteValue.elem) Tryz.func73 (by kernel_rfl) (by kernel_rfl) (by kernel_rfl) (by kernel_rfl);have h5:=@run_callFunc_extern Tryz.prog 74 _ ReflectliteValue.set Tryz.func74 (by kernel_rfl) (by kernel_rfl) (by kernel_rfl) (by kernel_rfl);have htl:t.block<w.heap.size:=World.block_lt_of_cell? w t ht;have hal:a.block<w.heap.size:=World.block_lt_of_cell? w a ha
 obtain ⟨W1,hW1⟩:∃ W1,W1=w.alloc (.cells #[.pointer (some ⟨5,131,none⟩),.pointer (some a),.int .u64 150] 124):=⟨_,rfl⟩
 have ha1:W1.cell? a=some (.pointer (some t)):=by rw [hW1,World.cell?_alloc_lt _ _ a hal];exact ha
 have ht1:W1.cell? t=some old:=by rw [hW1,World.cell?_alloc_lt _ _ t htl];exact ht
 have hf1:W1.frozen? t=false:=by rw [hW1,World.frozen?_alloc_old _ _ t (Nat.ne_of_lt htl)];exact hf
 have hs1:t.block<W1.heap.size:=by rw [hW1];simp;omega
 have c1:=yR (.int .i64 k);have c2:=fH;have c3:=FE;have c4:=yS a t W1 ha1;have c5:=uM k;have c6:=Hm t ⟨W1.heap.size,0,none⟩ k old (W1.alloc (.cells #[.int .i64 k] 66)) (by rw [World.cell?_alloc_at _ _ _ _ (by simp)];rfl) (by rw [World.cell?_alloc_lt _ _ t hs1];exact ht1) (by rw [World.frozen?_alloc_old _ _ t (Nat.ne_of_lt hs1)];exact hf1);subst hW1;simp only [World.size_alloc] at c6;unfold val ou at *;go_enter Tryz.func54,Tryz.ntmps54;go_wp2;refine wp_loop_rounds 1 ?_;rw [rounds_succ];go_wp2;go_ret;exact ⟨rfl,rfl⟩
theorem F1 {w:World} (k:Int) (t a:Addr) (old:Value) (ha:w.cell? a=some (.pointer (some t))) (ht:w.cell? t=some old) (hf:w.frozen? t=false) (tg:Value) (r:Nat) (hr:w.cell? ⟨r,2,none⟩=some (.iface 66 (.int .i64 k))) :
 Calls Tryz.prog 54 #[.iface 82 (.pointer (some ⟨r,0,none⟩)),tg,val 131 a 150,.iface 158 (ou 66)] w fun e w'=>e=.returned (.bool true)/\w'=((w.alloc (.cells #[.pointer (some ⟨5,131,none⟩),.pointer (some a),.int .u64 150] 124)).alloc (.cells #[.int .i64 k] 66)).setCell t (.int .i64 k):=by
 have h1:=@run_callFunc_extern Tryz.prog 51 _ (fun args=>ReflectliteValue.unpack (args.getD 0 (.tuple #[]))) Tryz.func51 (by kernel_rfl) (by kernel_rfl) (by kernel_rfl) (by kernel_rfl);have h2:=@run_callFunc_extern Tryz.prog 43 _ ReflectliteType.typeOf Tryz.func43 (by kernel_rfl) (by kernel_rfl) (by kernel_rfl) (by kernel_rfl);have h3:=@run_callFunc_extern Tryz.prog 216 _ (ReflectliteType.relation "AssignableTo" ReflectliteType.assignableTo) Tryz.func216 (by kernel_rfl) (by kernel_rfl) (by kernel_rfl) (by kernel_rfl);have h4:=@run_callFunc_extern Tryz.prog 73 _ (ReflectliteValue.method (ReflectliteValue.valueError "reflectlite.Value.Elem" 0) ReflectliteValue.elem) Tryz.func73 (by kernel_rfl) (by kernel_rfl) (by kernel_rfl) (by kernel_rfl);have h5:=@run_callFunc_extern Tryz.prog 74 _ ReflectliteValue.set Tryz.func74 (by kernel_rfl) (by kernel_rfl) (by kernel_rfl) (by kernel_rfl);have htl:t.block<w.heap.size:=World.block_lt_of_cell? w t ht;have hal:a.block<w.heap.size:=World.block_lt_of_cell? w a ha;have hrl:r<w.heap.size:=World.block_lt_of_cell? w _ hr
 obtain ⟨W1,hW1⟩:∃ W1,W1=w.alloc (.cells #[.pointer (some ⟨5,131,none⟩),.pointer (some a),.int .u64 150] 124):=⟨_,rfl⟩
 have ha1:W1.cell? a=some (.pointer (some t)):=by rw [hW1,World.cell?_alloc_lt _ _ a hal];exact ha
 have ht1:W1.cell? t=some old:=by rw [hW1,World.cell?_alloc_lt _ _ t htl];exact ht
 have hr1:W1.cell? ⟨r,2,none⟩=some (.iface 66 (.int .i64 k)):=by rw [hW1,World.cell?_alloc_lt _ _ ⟨r,2,none⟩ hrl];exact hr
 have hf1:W1.frozen? t=false:=by rw [hW1,World.frozen?_alloc_old _ _ t (Nat.ne_of_lt htl)];exact hf
 have hs1:t.block<W1.heap.size:=by rw [hW1];simp;omega
 have c1:=yR (.int .i64 k);have c2:=fH;have c3:=FE;have c4:=yS a t W1 ha1;have c5:=uM k;have c6:=Hm t ⟨W1.heap.size,0,none⟩ k old (W1.alloc (.cells #[.int .i64 k] 66)) (by rw [World.cell?_alloc_at _ _ _ _ (by simp)];rfl) (by rw [World.cell?_alloc_lt _ _ t hs1];exact ht1) (by rw [World.frozen?_alloc_old _ _ t (Nat.ne_of_lt hs1)];exact hf1);have d1:=Ed (.pointer (some ⟨r,0,none⟩));have d2:=Hl;have d3:=Hn;have d4:=wW;have d5:=sL;subst hW1;simp only [World.size_alloc] at c6;unfold val ou at *;go_enter Tryz.func54,Tryz.ntmps54;go_wp2;refine wp_loop_rounds 2 ?_;rw [rounds_succ];go_wp2;rw [rounds_succ];go_wp2;go_ret;exact ⟨rfl,rfl⟩
end
section
open Go.RowKit Go.Extern.Stop Go.Stop Go.Extern
open Xa
def dX (B:Nat) (w:World) (k:Int) (v:Value):Prop :=
 (k=0/\v=.nilIface)\/(k≠0/\v=.iface 66 (.int .i64 k))\/(k≠0/\∃ r op nm,v=.iface 82 (.pointer (some ⟨r,0,none⟩))/\B<=r/\aa w r 86 #[.string op,.string nm,.iface 66 (.int .i64 k)])
theorem dX.keep {B:Nat} {w w':World} {k:Int} {v:Value} (h:dX B w k v) (hk:∀ r,B<=r->r<w.heap.size->w'.heap[r]?=w.heap[r]?):dX B w' k v :=
 h.imp id fun h=>h.imp id fun ⟨h1,r,op,nm,e,hB,hr⟩=>⟨h1,r,op,nm,e,hB,(hk r hB hr.lt).trans hr⟩
theorem dX.lo {B B':Nat} {w:World} {k:Int} {v:Value} (h:dX B w k v) (hb:B'<=B):dX B' w k v :=
 h.imp id fun h=>h.imp id fun ⟨h1,r,op,nm,e,hB,hr⟩=>⟨h1,r,op,nm,e,nT hb hB,hr⟩
theorem wX {w:World} {B:Nat} {k:Int} {v:Value} (hv:dX B w k v) (hk:k≠0) {t:Nat} (ht:aa w t 66 #[.int .i64 0]) (hg:ay w) :
 Calls Tryz.prog 33 #[v,.iface 131 (.pointer (some ⟨t,0,none⟩))] w fun e w'=>e=.returned (.bool true)/\aa w' t 66 #[.int .i64 k]/\Fr (fun j=>j=t) w w':=by
 have h1:=@run_callFunc_extern Tryz.prog 51 _ (fun args=>ReflectliteValue.unpack (args.getD 0 (.tuple #[]))) Tryz.func51 (by kernel_rfl) (by kernel_rfl) (by kernel_rfl) (by kernel_rfl);have h2:=@run_callFunc_extern Tryz.prog 52 _ (ReflectliteValue.methodAny (ReflectliteValue.valueError "reflectlite.Value.Type" 0) (fun t _ _ _=>ReflectliteType.toType t)) Tryz.func52 (by kernel_rfl) (by kernel_rfl) (by kernel_rfl) (by kernel_rfl);have h3:=@run_callFunc_extern Tryz.prog 53 _ (ReflectliteValue.method (ReflectliteValue.valueError "reflectlite.Value.IsNil" 0) ReflectliteValue.isNil) Tryz.func53 (by kernel_rfl) (by kernel_rfl) (by kernel_rfl) (by kernel_rfl);have h4:=@run_callFunc_extern Tryz.prog 202 _ (ReflectliteType.abiMethod fun t=>do pure (.int .u8 (<-Rtype.kind t))) Tryz.func202 (by kernel_rfl) (by kernel_rfl) (by kernel_rfl) (by kernel_rfl);have h5:=@run_callFunc_extern Tryz.prog 218 _ (ReflectliteType.method ReflectliteType.elem) Tryz.func218 (by kernel_rfl) (by kernel_rfl) (by kernel_rfl) (by kernel_rfl);have h6:=@run_callFunc_extern Tryz.prog 219 _ (ReflectliteType.relation "Implements" ReflectliteType.implements_) Tryz.func219 (by kernel_rfl) (by kernel_rfl) (by kernel_rfl) (by kernel_rfl)
 obtain ⟨W1,hW1⟩:∃ W1,W1=(w.alloc (.cells #[.pointer (some ⟨t,0,none⟩)] 131)).alloc (.cells #[.pointer (some ⟨5,131,none⟩),.pointer (some ⟨w.heap.size,0,none⟩),.int .u64 150] 124):=⟨_,rfl⟩
 have hb1:Below w.heap.size w W1:=by rw [hW1];exact ((bR _ w).alloc (nR _) _).alloc (by simp) _
 have ha1:W1.cell? ⟨w.heap.size,0,none⟩=some (.pointer (some ⟨t,0,none⟩)):=by
  rw [hW1];exact ((aa.new w 131 #[.pointer (some ⟨t,0,none⟩)]).alloc _).cell 0
 have ht1:aa W1 t 66 #[.int .i64 0]:=(hb1.block t ht.lt).trans ht;have hg1:W1.cell? ⟨0,0,none⟩=some (.iface 158 (.agg #[.pointer (some ⟨5,30,none⟩)])):=(hb1.cell (World.block_lt_of_cell? w _ hg)).trans hg;have c1:=Ae ⟨t,0,none⟩;have c2:=FW;have c3:=wU;have c4:=FX;have c5:=Ec ⟨w.heap.size,0,none⟩ ⟨t,0,none⟩ W1 ha1;have c6:=wV;have c7:=FY;have c8:=Hj;have c9:=mE;have c10:=Hk;have hv1:dX B W1 k v:=hv.keep fun r _ hl=>hb1.block r hl
 have fin:∀ w',w'=((W1.alloc (.cells #[.pointer (some ⟨5,131,none⟩),.pointer (some ⟨w.heap.size,0,none⟩),.int .u64 150] 124)).alloc (.cells #[.int .i64 k] 66)).setCell ⟨t,0,none⟩ (.int .i64 k)->aa w' t 66 #[.int .i64 k]/\Fr (fun j=>j=t) w w':=by
  rintro w' rfl;have hbb:Below w.heap.size w ((W1.alloc (.cells #[.pointer (some ⟨5,131,none⟩),.pointer (some ⟨w.heap.size,0,none⟩),.int .u64 150] 124)).alloc (.cells #[.int .i64 k] 66)):=(hb1.alloc hb1.size _).alloc (by have:=hb1.size;simp;omega) _;refine ⟨((ht1.alloc _).alloc _).set_ 0 _,hbb.os,hbb.tape,hbb.output,by simpa [World.setCell] using hbb.size,fun j hj hx=>(Below.heap_setCell _ ⟨t,0,none⟩ _ j hx).trans (hbb.block j hj)⟩
 have hAs:∀ tg,Calls Tryz.prog 54 #[v,tg,val 131 ⟨w.heap.size,0,none⟩ 150,.iface 158 (ou 66)] W1 fun e w'=>e=.returned (.bool true)/\aa w' t 66 #[.int .i64 k]/\Fr (fun j=>j=t) w w':=by
  intro tg
  rcases hv1 with ⟨h0,_⟩ | ⟨_,rfl⟩ | ⟨_,r,op,nm,rfl,_,hr⟩
  ·exact absurd h0 hk
  ·refine (F0 k ⟨t,0,none⟩ ⟨w.heap.size,0,none⟩ _ ha1 (ht1.cell 0) (ht1.frozen 0) tg).mono ?_;rintro e w' ⟨rfl,e2⟩;exact ⟨rfl,fin w' e2⟩
  ·refine (F1 k ⟨t,0,none⟩ ⟨w.heap.size,0,none⟩ _ ha1 (ht1.cell 0) (ht1.frozen 0) tg r (hr.cell 2)).mono ?_;rintro e w' ⟨rfl,e2⟩;exact ⟨rfl,fin w' e2⟩
 have hnn:v≠.nilIface:=by
  rcases hv with ⟨h0,_⟩ | ⟨_,rfl⟩ | ⟨_,r,op,nm,rfl,_,hr⟩
  ·exact absurd h0 hk
  ·simp
  ·simp
 clear fin hb1 ha1 ht1
 obtain ⟨tv,pv,rfl⟩:∃ tv pv,v=.iface tv pv:=by
  rcases hv with ⟨h0,_⟩ | ⟨_,rfl⟩ | ⟨_,r,op,nm,rfl,_,hr⟩
  ·exact absurd h0 hk
  ·exact ⟨_,_,rfl⟩
  ·exact ⟨_,_,rfl⟩
 clear hv hv1 hnn ht hg;unfold val ou at *;subst hW1;go_enter Tryz.func33,Tryz.ntmps33
 go_wp2_with (go_at_call 54;refine (hAs _).mono ?_;rintro e w2 ⟨rfl,hq⟩)
 go_ret;exact ⟨rfl,hq⟩
end
section
open Go.RowKit
theorem bV (a:Addr) (n:Nat):(a.add n).block=a.block:=by unfold Addr.add;split <;> rfl
theorem oU (a:Addr) (i j:Nat):(a.add i).add j=a.add (i+j):=by
 unfold Addr.add;by_cases hi:i=0 <;> by_cases hj:j=0 <;> simp [hi,hj,Nat.add_assoc]
def Reads (w:World) (B size:Nat) (A:Option Addr) (n:Nat) (xs:List Value):Prop :=
 xs.length=n*size/\(0<n->∃ ad,A=some ad/\ad.block<B/\∀ j u,xs[j]?=some u->w.cell? (ad.add j)=some u)
section
variable {w w':World} {B B' size n:Nat} {A:Option Addr} {xs:List Value}
theorem Reads.none_:Reads w B size A 0 []:=⟨by simp,fun h=>absurd h (by omega)⟩
theorem Reads.at_ {k:Nat} (h:Reads w B 1 A n xs) (hk:k<n):∃ ad u,A=some ad/\ad.block<B/\xs[k]?=some u/\w.cell? (ad.add k)=some u:=by
 obtain ⟨ad,e,hb,hc⟩:=h.2 (by omega)
 have hl:k<xs.length:=by have:=h.1;omega
 exact ⟨ad,xs[k],e,hb,gE hl,hc k _ (gE hl)⟩
theorem Reads.keep (h:Reads w B size A n xs) (hk:∀ p:Addr,p.block<B->w'.cell? p=w.cell? p):Reads w' B size A n xs :=
 ⟨h.1,fun hn=>by
  obtain ⟨ad,e,hb,hc⟩:=h.2 hn
  exact ⟨ad,e,hb,fun j u hu=>(hk _ (by rw [bV];exact hb)).trans (hc j u hu)⟩⟩
theorem Reads.below (h:Reads w B size A n xs) (hb:Below B w w'):Reads w' B size A n xs:=h.keep fun _ hp=>hb.cell hp
theorem Reads.drew (h:Reads w B size A n xs):Reads w.drew B size A n xs:=h
theorem Reads.drewN (h:Reads w B size A n xs) (k:Nat):Reads (w.drewN k) B size A n xs:=h
theorem Reads.alloc (h:Reads w B size A n xs) (hB:B<=w.heap.size) (o:Obj):Reads (w.alloc o) B size A n xs:=h.keep fun p hp=>World.cell?_alloc_lt w o p (by omega)
theorem Reads.of_own {base:Nat} {e:TypeId} {c:Nat} (h:w.ownsRow base e size (.slice A n c) n xs):Reads w w.heap.size size A n xs:=by
 refine ⟨h.1,fun hn=>?_⟩;obtain ⟨g,cap,hv,_,hlt⟩:=h.form hn
 have hA:A=some ⟨g,0,none⟩:=by injection hv
 subst hA;exact ⟨_,rfl,hlt,h.cells (g:=g) rfl⟩
end
section
variable {P:Program} (w:World)
theorem lr (base:Nat) (t ty e:TypeId) (i:TypeInfo) (size:Nat) (ht:P.underlying t=some (.slice e)) (hi:P.info? e=some i)
 (v:Value) (n:Nat) (xs:List Value) (hown:w.ownsRow base e size v n xs) (c:Nat):(Builtin.append_ #[t,t] ty #[v,.slice none 0 c]).run P w=.ok v w:=by
 rcases hown.2 with ⟨rfl,rfl⟩ | ⟨g,cap,cur,rfl,_,_,hnc,_⟩
 ·simp [Builtin.append_,run_underlying ht,sizeOf,typeInfo,hi,Builtin.lenOf,Builtin.firstCells]
 ·simp [Builtin.append_,run_underlying ht,sizeOf,typeInfo,hi,Builtin.lenOf,Builtin.firstCells,hnc,storeCells]
theorem oV (base:Nat) (t ty e:TypeId) (i:TypeInfo) (z:Value) (size bytes:Nat) (ht:P.underlying t=some (.slice e)) (hi:P.info? e=some i) (hz:i.zero=some z)
 (hsize:i.size=size) (hby:i.bytes=bytes) (hzs:z.cells.size=size) (hsz:0<size)
 (v:Value) (n:Nat) (xs:List Value) (hown:w.ownsRow base e size v n xs)
 (B:Nat) (A:Option Addr) (m c:Nat) (news:List Value) (hr:Reads w B size A m news) (h1:∀ u∈news,u.oneCell'=true)
 (h63:n+m<=maxLen) (hbytes:(n+m)*bytes<=140737488355328) (hbase:base<=w.heap.size) :
 ∃ v' w',(Builtin.append_ #[t,t] ty #[v,.slice A m c]).run P w=.ok v' w'/\w'.ownsRow base e size v' (n+m) (xs++news)/\w.grownBy w' v.ownBlock /\
  (v'.ownBlock=v.ownBlock\/v'.ownBlock=some w.heap.size):=by
 rcases A with _ | ad
 ·have hm:m=0:=by
   rcases Nat.eq_zero_or_pos m with h0 | h0
   ·exact h0
   ·obtain ⟨ad,h,_⟩:=hr.2 h0
    cases h
  subst hm;have hn:news=[]:=List.eq_nil_of_length_eq_zero (by simpa using hr.1);subst hn;exact ⟨v,w,lr w base t ty e i size ht hi v n xs hown c,by simpa using hown,World.grownBy.refl w _,.inl rfl⟩
 ·have hcells:∀ j u,news[j]?=some u->w.cell? (ad.add j)=some u:=by
   intro j u hu
   rcases Nat.eq_zero_or_pos m with h0 | h0
   ·subst h0;have hn:news=[]:=List.eq_nil_of_length_eq_zero (by simpa using hr.1);subst hn;simp at hu
   ·obtain ⟨ad',h,_,hc⟩:=hr.2 h0
    injection h with h
    subst h;exact hc j u hu
  obtain ⟨v',w',hrun,h2,h3,_,h5⟩:=run_append_own_at (P:=P) w base t ty e i z size bytes ht hi hz hsize hby hzs hsz v n xs hown ad m c news hr.1 hcells h1 h63 hbytes hbase;exact ⟨v',w',hrun,h2,h3,h5⟩
theorem km {o:Oper} {a:Act} {K:Act->World->Prop} {Q:Exit->Act->World->Prop} (s x:Operand) (t:TypeId)
 (ho:o.op=.call {callee:=.builtin .append,args:=#[s,x],argTypes:=#[t,t]})
 (base:Nat) (e:TypeId) (i:TypeInfo) (z:Value) (size bytes:Nat) (ht:P.underlying t=some (.slice e)) (hi:P.info? e=some i) (hz:i.zero=some z)
 (hsize:i.size=size) (hby:i.bytes=bytes) (hzs:z.cells.size=size) (hsz:0<size)
 (v:Value) (n:Nat) (xs:List Value) (hs:a.eval s=v) (hown:w.ownsRow base e size v n xs)
 (B:Nat) (A:Option Addr) (m c:Nat) (news:List Value) (hx:a.eval x=.slice A m c) (hr:Reads w B size A m news) (h1:∀ u∈news,u.oneCell'=true)
 (h63:n+m<=maxLen) (hbytes:(n+m)*bytes<=140737488355328) (hbase:base<=w.heap.size)
 (h:∀ v' w',w'.ownsRow base e size v' (n+m) (xs++news)->w.grownBy w' v.ownBlock->(v'.ownBlock=v.ownBlock\/v'.ownBlock=some w.heap.size)->K (a.put o.dst v') w'):o.wp P a w K Q:=by
 obtain ⟨v',w',hrun,h2,h3,h4⟩:=oV (P:=P) w base t o.type e i z size bytes ht hi hz hsize hby hzs hsz v n xs hown B A m c news hr h1 h63 hbytes hbase;unfold Oper.wp execOp;simp only [ho,resolve,invoke,builtin,Sem.run_bind,Sem.run_pure,Result.andThen_ok,List.map_toArray,List.map_cons,List.map_nil,hs,hx,hrun];exact h v' w' h2 h3 h4
theorem gk {ops:Array Oper} {rest:List Oper} {o:Oper} {a:Act} {Q:Exit->Act->World->Prop} (hgd:o.guard=none) (s x:Operand) (t:TypeId)
 (ho:o.op=.call {callee:=.builtin .append,args:=#[s,x],argTypes:=#[t,t]})
 (base:Nat) (e:TypeId) (i:TypeInfo) (z:Value) (size bytes:Nat) (ht:P.underlying t=some (.slice e)) (hi:P.info? e=some i) (hz:i.zero=some z)
 (hsize:i.size=size) (hby:i.bytes=bytes) (hzs:z.cells.size=size) (hsz:0<size)
 (v:Value) (n:Nat) (xs:List Value) (hs:a.eval s=v) (hown:w.ownsRow base e size v n xs)
 (B:Nat) (A:Option Addr) (m c:Nat) (news:List Value) (hx:a.eval x=.slice A m c) (hr:Reads w B size A m news) (h1:∀ u∈news,u.oneCell'=true)
 (h63:n+m<=maxLen) (hbytes:(n+m)*bytes<=140737488355328) (hbase:base<=w.heap.size)
 (h:∀ v' w',w'.ownsRow base e size v' (n+m) (xs++news)->w.grownBy w' v.ownBlock->(v'.ownBlock=v.ownBlock\/v'.ownBlock=some w.heap.size)->wpList P ops Q rest (a.put o.dst v') w'):wpList P ops Q (o::rest) a w :=
 wpList_plain hgd fun _ hK=>km w s x t ho base e i z size bytes ht hi hz hsize hby hzs hsz v n xs hs hown B A m c news hx hr h1 h63 hbytes hbase fun v' w' h2 h3 h4=>hK _ _ (h v' w' h2 h3 h4)
theorem oa {ops:Array Oper} {o:Oper} {a:Act} {K:Act->World->Prop} {Q:Exit->Act->World->Prop} {E:Prop} (hgd:o.guard=none) (s x:Operand) (t:TypeId)
 (ho:o.op=.call {callee:=.builtin .append,args:=#[s,x],argTypes:=#[t,t]})
 (base:Nat) (e:TypeId) (i:TypeInfo) (z:Value) (size bytes:Nat) (ht:P.underlying t=some (.slice e)) (hi:P.info? e=some i) (hz:i.zero=some z)
 (hsize:i.size=size) (hby:i.bytes=bytes) (hzs:z.cells.size=size) (hsz:0<size)
 (v:Value) (n:Nat) (xs:List Value) (hs:a.eval s=v) (hown:w.ownsRow base e size v n xs)
 (B:Nat) (A:Option Addr) (m c:Nat) (news:List Value) (hx:a.eval x=.slice A m c) (hr:Reads w B size A m news) (h1:∀ u∈news,u.oneCell'=true)
 (h63:n+m<=maxLen) (hbytes:(n+m)*bytes<=140737488355328) (hbase:base<=w.heap.size)
 (h:∀ v' w',w'.ownsRow base e size v' (n+m) (xs++news)->w.grownBy w' v.ownBlock->(v'.ownBlock=v.ownBlock\/v'.ownBlock=some w.heap.size)->K (a.put o.dst v') w') :
 if Region.wanted o (yielded ops a.tmps)=true then Oper.wp P o a w K Q else E:=by
 have hw:Region.wanted o (yielded ops a.tmps)=true:=by simp [Region.wanted,hgd]
 rw [if_pos hw];exact km w s x t ho base e i z size bytes ht hi hz hsize hby hzs hsz v n xs hs hown B A m c news hx hr h1 h63 hbytes hbase h
end
end
section
def ag:Nat->Nat->List UInt8
 | 0,_=>[]
 | s+1,n=>ag s (n / 256)++[UInt8.ofNat (n % 256)]
def aC (b:List UInt8):Nat:=b.foldl (fun n c=>n*256+c.toNat) 0
theorem fL:∀ (s n:Nat),(ag s n).length=s
 | 0,_=>rfl
 | s+1,n=>by simp [ag,fL s]
theorem mF (b:List UInt8) (c:UInt8):aC (b++[c])=aC b*256+c.toNat:=by simp [aC]
theorem ko {n:Nat} (h:n<256):(UInt8.ofNat n).toNat=n:=by rw [UInt8.toNat_ofNat'];omega
theorem FF (c:UInt8):UInt8.ofNat c.toNat=c:=by simp
theorem uN {α:Type} {p:List α->Prop} (h0:p []) (h1:∀ l x,p l->p (l++[x])) (l:List α):p l:=by
 have:∀ m:List α,p m.reverse:=fun m=>by
  induction m with
  | nil=>exact h0
  | cons x m ih=>rw [List.reverse_cons];exact h1 _ _ ih
 have h:=this l.reverse
 rwa [List.reverse_reverse] at h
theorem bW (b:List UInt8):aC b<256 ^ b.length:=by
 induction b using uN with
 | h0=>decide
 | h1 b c ih =>
  rw [mF,lQ,List.length_singleton,Nat.pow_succ];have:=c.toNat_lt;omega
theorem rz (b:List UInt8):ag b.length (aC b)=b:=by
 induction b using uN with
 | h0=>rfl
 | h1 b c ih =>
  rw [lQ,List.length_singleton,ag,mF];have hc:=c.toNat_lt;rw [show (aC b*256+c.toNat) / 256=aC b by omega,show (aC b*256+c.toNat) % 256=c.toNat by omega,ih,FF]
theorem oW {b:List UInt8} {k:Nat} (h:k<b.length):aC (b.take (k+1))=aC (b.take k)*256+b[k].toNat:=by
 rw [List.take_succ_eq_append_getElem h,mF]
end
section
def iT:Nat->Nat->List UInt8
 | 0,_=>[]
 | f+1,n=>if n<128 then [UInt8.ofNat n] else UInt8.ofNat (n % 128+128)::iT f (n / 128)
def eV (n:Nat):List UInt8:=iT 10 n
def cI:Nat->Nat->List UInt8->Nat × Nat × Int
 | 0,_,_=>(0,0,11)
 | f+1,i,[]=>(0,0,10)
 | f+1,i,c::r =>
  if i=9/\1<c.toNat then (0,0,11)
  else if c.toNat<128 then (if 0<i/\c.toNat=0 then (0,0,12) else (c.toNat,1,0))
  else if (cI f (i+1) r).2.2=0 then (c.toNat-128+128*(cI f (i+1) r).1,(cI f (i+1) r).2.1+1,0) else (0,0,(cI f (i+1) r).2.2)
def bJ (b:List UInt8):Nat × Nat × Int:=cI 10 0 b
theorem uO {n:Nat} (h:n<256):(UInt8.ofNat n).toNat=n:=by rw [UInt8.toNat_ofNat'];omega
theorem yT (c:UInt8):UInt8.ofNat c.toNat=c:=by simp
theorem get_put:∀ (f i n:Nat) (r:List UInt8),f+i=10->0<f->(i=9->n<2)->n<128 ^ f->n<2 ^ (64-7*i)->(0<i->0<n)->cI f i (iT f n++r)=(n,(iT f n).length,0)
 | 0,_,_,_,_,h,_,_,_,_=>absurd h (by omega)
 | f+1,i,n,r,hf,_,h9,hp,h64,hi=>by
  unfold iT;by_cases h:n<128
  ·rw [if_pos h];have e:(UInt8.ofNat n).toNat=n:=uO (by omega);show cI (f+1) i (UInt8.ofNat n::r)=_;unfold cI;rw [e,if_neg (fun hh=>by have:=h9 hh.1;omega),if_pos h,if_neg (fun hh=>by have:=hi hh.1;omega)];rfl
  ·rw [if_neg h];have e:(UInt8.ofNat (n % 128+128)).toNat=n % 128+128:=uO (by omega)
   have hi9:i≠9:=fun hh=>by have:=h9 hh;omega
   have hf0:0<f:=by omega
   have hdiv:n / 128<128 ^ f:=by rw [Nat.pow_succ] at hp;exact Nat.div_lt_of_lt_mul (by rw [Nat.mul_comm];exact hp)
   have h64':n / 128<2 ^ (64-7*(i+1)):=by
    refine Nat.div_lt_of_lt_mul ?_;rw [show (128:Nat)=2 ^ 7 from rfl,<-Nat.pow_add,show 7+(64-7*(i+1))=64-7*i by omega];exact h64
   have ih:=get_put f (i+1) (n / 128) r (by omega) hf0 (fun hh=>by
    have h8:i=8:=by omega
    subst h8;have:n<2 ^ 8:=h64
    omega) hdiv h64' (fun _=>by omega)
   show cI (f+1) i (UInt8.ofNat (n % 128+128)::(iT f (n / 128)++r))=_;unfold cI;rw [e,if_neg (fun hh=>hi9 hh.1),if_neg (by omega),ih,if_pos rfl];simp only [List.length_cons,Prod.mk.injEq,and_true];omega
theorem jz:∀ (f i:Nat) (b:List UInt8),f+i=10->(cI f i b).2.2=0->b.take (cI f i b).2.1=iT f (cI f i b).1/\(cI f i b).2.1<=b.length/\0<(cI f i b).2.1/\(0<i->0<(cI f i b).1)/\(cI f i b).1<2 ^ (64-7*i)
 | 0,i,b,_,h=>by simp [cI] at h
 | f+1,i,[],_,h=>by simp [cI] at h
 | f+1,i,c::r,hf,h=>by
  have hc:c.toNat<256:=c.toNat_lt;unfold cI at h ⊢;by_cases h9:i=9/\1<c.toNat
  ·rw [if_pos h9] at h;simp at h
  ·rw [if_neg h9] at h ⊢;by_cases hs:c.toNat<128
   ·rw [if_pos hs] at h ⊢;by_cases h0:0<i/\c.toNat=0
    ·rw [if_pos h0] at h;simp at h
    ·rw [if_neg h0];refine ⟨?_,by simp,by simp,fun hi=>?_,?_⟩
     ·show [c]=iT (f+1) c.toNat;unfold iT;rw [if_pos hs,yT]
     ·show 0<c.toNat;have:¬ c.toNat=0:=fun hh=>h0 ⟨hi,hh⟩;omega
     ·show c.toNat<2 ^ (64-7*i);by_cases e9:i=9
      ·subst e9;have:¬ 1<c.toNat:=fun hh=>h9 ⟨rfl,hh⟩;show c.toNat<2 ^ 1;omega
      ·have hi8:i<=8:=by omega
       exact lT (show c.toNat<2 ^ 8 by omega) (Nat.pow_le_pow_right (by omega) (by omega))
   ·rw [if_neg hs] at h ⊢;by_cases he:(cI f (i+1) r).2.2=0
    ·rw [if_pos he];obtain ⟨h1,h2,h3,h4,h5⟩:=jz f (i+1) r (by omega) he;have hn:=h4 (by omega);refine ⟨?_,by simpa using h2,Nat.succ_pos _,fun _=>by show 0<c.toNat-128+128*(cI f (i+1) r).1;omega,?_⟩
     ·show (c::r).take ((cI f (i+1) r).2.1+1)=_;rw [List.take_succ_cons,h1];show _=iT (f+1) (c.toNat-128+128*(cI f (i+1) r).1);rw [iT,if_neg (by omega),show (c.toNat-128+128*(cI f (i+1) r).1) % 128+128=c.toNat by omega,show (c.toNat-128+128*(cI f (i+1) r).1) / 128=(cI f (i+1) r).1 by omega,yT]
     ·show c.toNat-128+128*(cI f (i+1) r).1<2 ^ (64-7*i)
      have hi8:i<=8:=by
       have:i<=9:=by omega
       rcases Nat.lt_or_ge i 9 with h | h
       ·omega
       ·exfalso
        have:i=9:=by omega
        exact h9 ⟨this,by omega⟩
      rw [show 64-7*i=7+(64-7*(i+1)) by omega,Nat.pow_add];have:(2:Nat) ^ 7=128:=rfl;rw [this];have h6:(cI f (i+1) r).1+1<=2 ^ (64-7*(i+1)):=h5;have:=Nat.mul_le_mul_left 128 h6;omega
    ·rw [if_neg he] at h;exact absurd h he
theorem rA {b:List UInt8} (h:(bJ b).2.2=0):b.take (bJ b).2.1=eV (bJ b).1/\(bJ b).2.1<=b.length/\0<(bJ b).2.1/\(bJ b).1<18446744073709551616:=by
 obtain ⟨h1,h2,h3,_,h5⟩:=jz 10 0 b rfl h;exact ⟨h1,h2,h3,h5⟩
theorem uP:∀ (f n:Nat),(iT f n).length<=f
 | 0,_=>nR _
 | f+1,n=>by
  unfold iT
  split
  ·simp
  ·simp only [List.length_cons];have:=uP f (n / 128);omega
theorem lu (n:Nat):(eV n).length<=10:=uP 10 n
end
section
structure PC where
 key:List UInt8
 size:Int
 val:List UInt8
 over:Nat
 kid:Nat
def gx (c:PC):Bool:=decide (1<=c.key.length/\c.key.length<=24/\0<=c.size/\c.size<=1000/\c.kid=0/\(c.size<=40->(c.val.length:Int)=c.size/\c.over=0)/\(40<c.size->c.val.length=0/\0<c.over))
def gn (c:PC):List UInt8:=UInt8.ofNat c.key.length::(c.key++(eV c.size.toNat++(if c.size<=40 then c.val else ag 4 c.over)))
def dq (c:PC):Bool:=decide (c.key.length<=24/\0<c.kid/\c.size=0/\c.over=0/\c.val.length=0)
def fI (c:PC):List UInt8:=ag 4 c.kid++(UInt8.ofNat c.key.length::c.key)
def PC.fit (c:PC):Prop:=c.over<4294967296/\c.kid<4294967296
def np (b:List UInt8):Option PC :=
 match b with
 | []=>none
 | n::r =>
  if (bJ (r.drop n.toNat)).2.2≠0\/1000<(bJ (r.drop n.toNat)).1 then none
  else some (if (bJ (r.drop n.toNat)).1<=40
   then ⟨r.take n.toNat,((bJ (r.drop n.toNat)).1:Nat),(r.drop n.toNat).drop (bJ (r.drop n.toNat)).2.1,0,0⟩
   else ⟨r.take n.toNat,((bJ (r.drop n.toNat)).1:Nat),[],(if ((r.drop n.toNat).drop (bJ (r.drop n.toNat)).2.1).length<=8 then aC ((r.drop n.toNat).drop (bJ (r.drop n.toNat)).2.1) % 4294967296 else 0),0⟩)
def cQ (b:List UInt8):Option PC:=match np b with
 | none=>none
 | some c=>if gx c=true/\gn c=b then some c else none
def ig (b:List UInt8):PC:=⟨match b.drop 4 with
 | []=>[]
 | n::r=>r.take n.toNat,0,[],0,aC (b.take 4)⟩
def dY (b:List UInt8):Option PC:=if dq (ig b)=true/\fI (ig b)=b then some (ig b) else none
theorem rD {c:PC} (h:gx c=true):3<=(gn c).length/\(gn c).length<=67:=by
 unfold gx at h;rw [decide_eq_true_eq] at h;obtain ⟨h1,h2,h3,h4,h5,h6,h7⟩:=h
 have hp:1<=(eV c.size.toNat).length/\(eV c.size.toNat).length<=2:=by
  unfold eV;rw [iT]
  split
  ·simp
  ·rw [iT,if_pos (by omega)];simp
 unfold gn;rw [List.length_cons,lQ,lQ];by_cases h8:c.size<=40
 ·rw [if_pos h8];have:=(h6 h8).1;omega
 ·rw [if_neg h8,fL];omega
theorem oX {c:PC} (h:dq c=true):5<=(fI c).length/\(fI c).length<=29:=by
 unfold dq at h;rw [decide_eq_true_eq] at h;obtain ⟨h1,_⟩:=h;unfold fI;rw [lQ,fL,List.length_cons];omega
theorem Af {b:List UInt8} {c:PC} (h:cQ b=some c):c.fit:=by
 unfold cQ at h
 split at h
 ·cases h
 ·rename_i c' hc
  split at h
  ·cases h
   unfold np at hc
   split at hc
   ·cases hc
   ·split at hc
    ·cases hc
    ·cases hc
     split
     ·exact ⟨(by decide:0<4294967296),(by decide:0<4294967296)⟩
     ·refine ⟨?_,(by decide:0<4294967296)⟩;show (if _ then _ else _)<_
      split
      ·exact Nat.mod_lt _ (by decide)
      ·decide
  ·cases h
theorem wY {b:List UInt8} {c:PC} (h:dY b=some c):dq c=true/\fI c=b/\c.fit:=by
 unfold dY at h
 split at h
 ·rename_i hh
  cases h
  refine ⟨hh.1,hh.2,?_,?_⟩
  ·show (0:Nat)<_;decide
  ·show aC (b.take 4)<_;have:=bW (b.take 4)
   have hl:(b.take 4).length<=4:=by rw [lK];omega
   exact lT this (Nat.pow_le_pow_right (by decide) hl)
 ·cases h
end
end Go.Proofs.YtgohffhoapkeaaaGreatDoor
namespace Go.Proofs.YtgohffhoapkeaaaGreatDoor
def ah (l:List (List UInt8)):Nat:=(l.map List.length).sum
def dZ:Nat->List (List UInt8)->List UInt8
 | _,[]=>[]
 | top,c::l=>UInt8.ofNat (top-c.length)::UInt8.ofNat c.length::dZ (top-c.length) l
def ii (l:List (List UInt8)):List UInt8:=l.reverse.flatten
def ar (l:List (List UInt8)):List UInt8 :=
 UInt8.ofNat l.length::UInt8.ofNat (243-ah l)::(dZ 243 l++(List.replicate (243-ah l-(2+2*l.length)) 0++ii l))
theorem gK (l:List (List UInt8)) (c:List UInt8):ah (l++[c])=ah l+c.length:=by simp [ah]
theorem fv (l:List (List UInt8)) (c:List UInt8):ah (c::l)=c.length+ah l:=by simp [ah]
theorem dO:∀ (t:Nat) (l:List (List UInt8)),(dZ t l).length=2*l.length
 | _,[]=>rfl
 | t,c::l=>by simp [dZ,dO];omega
theorem oY (l:List (List UInt8)):(ii l).length=ah l:=by
 unfold ii ah;rw [List.length_flatten,List.map_reverse,List.sum_reverse]
theorem Ag (l:List (List UInt8)) (c:List UInt8):ii (l++[c])=c++ii l:=by simp [ii]
theorem rE:∀ (t:Nat) (l:List (List UInt8)) (c:List UInt8),dZ t (l++[c])=dZ t l++[UInt8.ofNat (t-ah l-c.length),UInt8.ofNat c.length]
 | t,[],c=>by simp [dZ,ah]
 | t,d::l,c=>by
  rw [List.cons_append,dZ,rE,dZ,fv,show t-(d.length+ah l)-c.length=t-d.length-ah l-c.length by omega];rfl
theorem fw {l:List (List UInt8)} (h:2+2*l.length+ah l<=243):(ar l).length=243:=by
 unfold ar;rw [List.length_cons,List.length_cons,lQ,lQ,dO,List.length_replicate,oY];omega
def qY (b:List UInt8) (i:Nat):Nat:=(b.getD (2+2*i) 0).toNat
def ow (b:List UInt8) (i:Nat):Nat:=(b.getD (3+2*i) 0).toNat
def cellS (b:List UInt8) (i:Nat):List UInt8:=(b.drop (qY b i)).take (ow b i)
def iU (t:Nat->Bool) (a n:Nat):Nat->Bool:=fun j=>t j || (decide (a<=j) && decide (j<a+n))
def yU (t:Nat->Bool) (a n:Nat):Bool:=(List.range n).all fun k=>!t (a+k)
def uH (b:List UInt8):Nat->Nat->(Nat->Bool)->Bool
 | 0,_,_=>true
 | k+1,i,t=>decide ((b.getD 1 0).toNat<=qY b i) && decide (qY b i+ow b i<=243) && decide (ow b i<=78) && yU t (qY b i) (ow b i) && uH b k (i+1) (iU t (qY b i) (ow b i))
def du (b:List UInt8):Option (List (List UInt8)) :=
 if b.length=243/\2+2*(b.getD 0 0).toNat<=243/\2+2*(b.getD 0 0).toNat<=(b.getD 1 0).toNat/\(b.getD 1 0).toNat<=243/\uH b (b.getD 0 0).toNat 0 (fun _=>false)=true
 then some ((List.range (b.getD 0 0).toNat).map (cellS b)) else none
theorem Ah {l:List (List UInt8)} (h:2+2*l.length+ah l<=243) {i:Nat} {c:List UInt8} {p q:List (List UInt8)} (hl:l=p++c::q) (hi:i=p.length) :
 qY (ar l) i=243-ah p-c.length/\ow (ar l) i=c.length/\cellS (ar l) i=c:=by
 subst hl;subst hi
 have hs:ah (p++c::q)=ah p+(c.length+ah q):=by simp [ah]
 rw [hs,lQ,List.length_cons] at h
 have hd:dZ 243 (p++c::q)=dZ 243 p++(UInt8.ofNat (243-ah p-c.length)::UInt8.ofNat c.length::dZ (243-ah p-c.length) q):=by
  have:∀ (t:Nat) (p:List (List UInt8)),dZ t (p++c::q)=dZ t p++(UInt8.ofNat (t-ah p-c.length)::UInt8.ofNat c.length::dZ (t-ah p-c.length) q):=by
   intro t p
   induction p generalizing t with
   | nil=>simp [dZ,ah]
   | cons d p ih =>
    rw [List.cons_append,dZ,ih,dZ,fv,show t-(d.length+ah p)-c.length=t-d.length-ah p-c.length by omega];rfl
  exact this 243 p
 have h1:(ar (p++c::q)).getD (2+2*p.length) 0=UInt8.ofNat (243-ah p-c.length):=by
  unfold ar;rw [hd,show 2+2*p.length=2*p.length+1+1 by omega,List.getD_cons_succ,List.getD_cons_succ,List.getD_eq_getElem?_getD,List.append_assoc,List.getElem?_append_right (by rw [dO];omega),dO,Nat.sub_self];rfl
 have h2:(ar (p++c::q)).getD (3+2*p.length) 0=UInt8.ofNat c.length:=by
  unfold ar;rw [hd,show 3+2*p.length=2*p.length+1+1+1 by omega,List.getD_cons_succ,List.getD_cons_succ,List.getD_eq_getElem?_getD,List.append_assoc,List.getElem?_append_right (by rw [dO];omega),dO,show 2*p.length+1-2*p.length=1 by omega];rfl
 have ha:qY (ar (p++c::q)) p.length=243-ah p-c.length:=by unfold qY;rw [h1,ko (by omega)]
 have hn:ow (ar (p++c::q)) p.length=c.length:=by unfold ow;rw [h2,ko (by omega)]
 refine ⟨ha,hn,?_⟩;unfold cellS;rw [ha,hn]
 have hr:ii (p++c::q)=ii q++(c++ii p):=by simp [ii,List.reverse_append,List.flatten_append,List.append_assoc]
 have hb:∃ u,ar (p++c::q)=u++(c++ii p)/\u.length=243-ah p-c.length:=by
  refine ⟨UInt8.ofNat (p++c::q).length::UInt8.ofNat (243-ah (p++c::q))::(dZ 243 (p++c::q)++(List.replicate (243-ah (p++c::q)-(2+2*(p++c::q).length)) 0++ii q)),?_,?_⟩
  ·unfold ar;rw [hr];simp only [List.append_assoc,List.cons_append]
  ·rw [List.length_cons,List.length_cons,lQ,lQ,dO,List.length_replicate,oY,hs,lQ,List.length_cons];omega
 obtain ⟨u,hu,hul⟩:=hb;rw [hu,List.drop_append_of_le_length (by omega),List.drop_of_length_le (by omega),List.nil_append,List.take_append_of_le_length (by omega),List.take_of_length_le (by omega)]
theorem oZ {b:List UInt8} {l:List (List UInt8)} (h:du b=some l):l.length<=120:=by
 unfold du at h
 split at h
 ·cases h;rw [List.length_map,List.length_range];omega
 ·cases h
end Go.Proofs.YtgohffhoapkeaaaGreatDoor
namespace Go.Proofs.YtgohffhoapkeaaaGreatDoor.Cr
def c4 (tb:Nat->Nat) (c:Nat):Nat:=Nat.xor (Nat.shiftRight c 4) (tb (Nat.land c 15))
def cb (tb:Nat->Nat) (c b:Nat):Nat:=c4 tb (c4 tb (Nat.xor c b))
def cl (tb:Nat->Nat) (c:Nat) (l:List Nat):Nat:=l.foldl (cb tb) c
theorem gy {x y:Nat} (hx:x<4294967296) (hy:y<4294967296):Nat.xor x y<4294967296:=Nat.xor_lt_two_pow (n:=32) hx hy
theorem o0 {x:Nat}:Nat.land x 15<16:=Nat.lt_of_le_of_lt Nat.and_le_right (by decide)
theorem ff {x:Nat} (hx:x<4294967296):Nat.shiftRight x 4<4294967296:=by
 have:Nat.shiftRight x 4=x / 16:=Nat.shiftRight_eq_div_pow x 4;omega
theorem uQ {tb:Nat->Nat} (htb:∀ i,tb i<4294967296) {x:Nat} (hx:x<4294967296):c4 tb x<4294967296:=gy (ff hx) (htb _)
theorem Ca {tb:Nat->Nat} (htb:∀ i,tb i<4294967296) {x y:Nat} (hx:x<4294967296) (hy:y<256):cb tb x y<4294967296:=uQ htb (uQ htb (gy hx (by omega)))
theorem kH (l:List Nat) (k:Nat) (h:k<l.length):l.take (k+1)=l.take k++[l[k]?.getD 0]:=by
 rw [List.take_succ_eq_append_getElem h];simp [h]
theorem sM (tb:Nat->Nat) (c:Nat) (l:List Nat) (k:Nat) (h:k<l.length):cl tb c (l.take (k+1))=cb tb (cl tb c (l.take k)) (l[k]?.getD 0):=by
 unfold cl;rw [kH l k h,List.foldl_append];rfl
theorem rF {tb:Nat->Nat} (htb:∀ i,tb i<4294967296):∀ (l:List Nat) (c:Nat),c<4294967296->(∀ x∈l,x<256)->cl tb c l<4294967296
 | [],_,hc,_=>hc
 | x::l,c,hc,h=>rF htb l (cb tb c x) (Ca htb hc (h x (by simp))) (fun y hy=>h y (by simp [hy]))
def Cb:Nat:=12749536319551302420830055290731983042906869231766370170184255228463894984119587222357463453493748006886229547019502462691509165827871124329361635492757504
def ke (i:Nat):Nat:=Nat.land (Nat.shiftRight Cb (Nat.mul 32 i)) 4294967295
theorem oz (i:Nat):ke i<4294967296:=Nat.lt_of_le_of_lt Nat.and_le_right (by decide)
end Go.Proofs.YtgohffhoapkeaaaGreatDoor.Cr
namespace Go.Proofs.YtgohffhoapkeaaaGreatDoor
section
def kI (b:List UInt8):Nat:=4294967295-Cr.cl Cr.ke 4294967295 (b.map UInt8.toNat)
theorem yV (b:List UInt8):kI b<4294967296:=by unfold kI;omega
def qZ (b:List UInt8):List UInt8:=b++ag 4 (kI b)
def eW (b:List UInt8):Bool:=decide (4<=b.length/\kI (b.take (b.length-4))=aC (b.drop (b.length-4)))
theorem Cc (b:List UInt8):(qZ b).length=b.length+4:=by unfold qZ;rw [lQ,fL]
theorem wZ {b:List UInt8} (h:eW b=true):qZ (b.take (b.length-4))=b:=by
 unfold eW at h;rw [decide_eq_true_eq] at h;unfold qZ;rw [h.2]
 have hl:(b.drop (b.length-4)).length=4:=by rw [lD];omega
 have:=rz (b.drop (b.length-4));rw [hl] at this;rw [this,List.take_append_drop]
def uR (kind:Nat) (lsn:Nat) (body:List UInt8):List UInt8:=qZ (UInt8.ofNat kind::(ag 8 lsn++body))
def fJ (b:List UInt8):Int:=if b.length≠256 then 50 else if eW b=false then 51 else if 1<=(b.getD 0 0).toNat/\(b.getD 0 0).toNat<=5 then 0 else 50
def dG (b:List UInt8):Nat:=(b.getD 0 0).toNat
def oc (b:List UInt8):Nat:=aC ((b.drop 1).take 8)
def gM (b:List UInt8):List UInt8:=(b.drop 9).take 243
theorem rG {b:List UInt8} (h:fJ b=0):uR (dG b) (oc b) (gM b)=b/\b.length=256/\1<=dG b/\dG b<=5/\(gM b).length=243/\oc b<18446744073709551616:=by
 unfold fJ at h
 split at h
 ·cases h
 rename_i h1;have h1:b.length=256:=Decidable.not_not.1 h1
 split at h
 ·cases h
 rename_i h2
 have h2:eW b=true:=by simpa using h2
 split at h
 ·rename_i h3;have hp:=wZ h2;rw [h1] at hp;refine ⟨?_,h1,h3.1,h3.2,?_,?_⟩
  ·unfold uR dG oc gM;rw [FF]
   have h8:((b.drop 1).take 8).length=8:=by rw [lK,lD];omega
   have:=rz ((b.drop 1).take 8);rw [h8] at this;rw [this];refine Eq.trans (congrArg qZ ?_) hp
   match b,h1 with
   | c::r,h1 =>
    show c::((r.take 8)++((r.drop 8).take 243))=(c::r).take 252;rw [List.take_succ_cons,show (251:Nat)=8+243 from rfl,List.take_add]
  ·unfold gM;rw [lK,lD];omega
  ·unfold oc;have:=bW ((b.drop 1).take 8);refine lT this ?_
   have:((b.drop 1).take 8).length<=8:=by rw [lK];omega
   exact nT (Nat.pow_le_pow_right (by decide) this) (by decide)
 ·cases h
structure PN where
 kind:Int
 lsn:Nat
 cells:List PC
 next:Nat
 data:List UInt8
 root:Nat
 pages:Nat
 free:Nat
 entries:Nat
def nr (kind:Int) (c:PC):List UInt8:=if kind=3 then gn c else fI c
def kJ (kind:Int) (c:PC):Bool:=if kind=3 then gx c else dq c
def gO (kind:Int) (b:List UInt8):Option PC:=if kind=3 then cQ b else dY b
def kr:List PC->Bool
 | a::b::l=>decide (a.key<b.key) && kr (b::l)
 | _=>true
def o4 (n:PN):Bool:=decide (2<=n.pages/\n.pages<=512/\1<=n.root/\n.root<n.pages/\n.free<n.pages)
def bA (n:PN):Bool :=
 decide ((n.kind=1\/(n.root=0/\n.pages=0/\n.free=0/\n.entries=0))/\((n.kind=3\/n.kind=2)\/n.cells.length=0)/\(n.kind=4\/n.data.length=0)/\((n.kind=4\/n.kind=5)\/n.next=0))
def aD (n:PN):Bool:=bA n && (
 if n.kind=1 then o4 n
 else if n.kind=4 then decide (1<=n.data.length/\n.data.length<=238)
 else if n.kind=5 then true
 else if n.kind=2 then decide (n.cells.length≠0) && (n.cells.all dq && kr n.cells)
 else if n.kind=3 then n.cells.all gx && kr n.cells
 else false)
def cR (b:List UInt8):List UInt8:=b++List.replicate (243-b.length) 0
def dy:List UInt8:=[83,67,79,87,49]
def aZ (n:PN):List UInt8 :=
 if n.kind=1 then cR (dy++(ag 4 n.root++(ag 4 n.pages++(ag 4 n.free++ag 8 n.entries))))
 else if n.kind=4 then cR (ag 4 n.next++(UInt8.ofNat n.data.length::n.data))
 else if n.kind=5 then cR (ag 4 n.next)
 else ar (n.cells.map (nr n.kind))
def b7 (kind:Int) (l:List PC):Nat:=(l.map fun c=>2+(nr kind c).length).sum
def putE (n:PN):Int:=if aD n=false then 80 else if (n.kind=2\/n.kind=3)/\241<b7 n.kind n.cells then 60 else 0
def Ai (n:PN):List UInt8:=uR n.kind.toNat n.lsn (aZ n)
def dz (kind:Int):List (List UInt8)->Option (List PC)
 | []=>some []
 | b::l=>match gO kind b with
  | none=>none
  | some c=>match dz kind l with
   | none=>none
   | some r=>some (c::r)
def cT (kind:Nat) (lsn:Nat) (b:List UInt8):Option PN :=
 if kind=1 then
  let n:PN:=⟨1,lsn,[],0,[],aC ((b.drop 5).take 4),aC ((b.drop 9).take 4),aC ((b.drop 13).take 4),aC ((b.drop 17).take 8)⟩
  if aZ n=b then some n else none
 else if kind=4 then
  let n:PN:=⟨4,lsn,[],aC (b.take 4),((b.drop 5).take (min (5+(b.getD 4 0).toNat) b.length-5)),0,0,0,0⟩
  if aZ n=b then some n else none
 else if kind=5 then
  let n:PN:=⟨5,lsn,[],aC (b.take 4),[],0,0,0,0⟩
  if aZ n=b then some n else none
 else match du b with
  | none=>none
  | some l=>match dz kind l with
   | none=>none
   | some c=>some ⟨kind,lsn,c,0,[],0,0,0,0⟩
def cJ (b:List UInt8):Except Int PN :=
 if fJ b≠0 then .error (fJ b) else match cT (dG b) (oc b) (gM b) with
  | none=>.error 80
  | some n=>if aD n=true then .ok n else .error 80
end
section
structure PN.Fit (n:PN):Prop where
 lsn:n.lsn<18446744073709551616
 next:n.next<4294967296
 root:n.root<4294967296
 pages:n.pages<4294967296
 free:n.free<4294967296
 entries:n.entries<18446744073709551616
 cells:∀ c∈n.cells,c.fit
theorem rH (kind:Int):∀ l:List PC,b7 kind l=2*l.length+ah (l.map (nr kind))
 | []=>rfl
 | c::l=>by
  have:=rH kind l;unfold b7 at this ⊢;rw [List.map_cons,List.sum_cons,this,List.map_cons,fv,List.length_cons];omega
theorem o5 {α:Type} {a b:List α} {n:Nat} (h:a.length=n):(a++b).drop n=b:=by
 rw [List.drop_append_of_le_length (by omega),List.drop_of_length_le (by omega),List.nil_append]
theorem uS {α:Type} {a b:List α} {n:Nat} (h:a.length=n):(a++b).take n=a:=by
 rw [List.take_append_of_le_length (by omega),List.take_of_length_le (by omega)]
theorem fg {n:PN} (h:aD n=true):bA n=true:=by
 unfold aD at h;rw [Bool.and_eq_true] at h;exact h.1
theorem iV {n:PN} (h:aD n=true):n.kind=1\/n.kind=4\/n.kind=5\/n.kind=2\/n.kind=3:=by
 unfold aD at h;rw [Bool.and_eq_true] at h;have h:=h.2;by_cases h1:n.kind=1
 ·exact .inl h1
 by_cases h2:n.kind=4
 ·exact .inr (.inl h2)
 by_cases h3:n.kind=5
 ·exact .inr (.inr (.inl h3))
 by_cases h4:n.kind=2
 ·exact .inr (.inr (.inr (.inl h4)))
 by_cases h5:n.kind=3
 ·exact .inr (.inr (.inr (.inr h5)))
 ·rw [if_neg h1,if_neg h2,if_neg h3,if_neg h4,if_neg h5] at h
  cases h
theorem sO {n:PN} (h:aD n=true):∀ c∈n.cells,kJ n.kind c=true:=by
 have hp:=fg h;unfold aD at h;rw [Bool.and_eq_true] at h;have h:=h.2;unfold bA at hp;rw [decide_eq_true_eq] at hp;unfold kJ;by_cases h3:n.kind=3
 ·rw [if_neg (by omega),if_neg (by omega),if_neg (by omega),if_neg (by omega),if_pos h3,Bool.and_eq_true,List.all_eq_true] at h;intro c hc;rw [if_pos h3];exact h.1 c hc
 ·by_cases h2:n.kind=2
  ·rw [if_neg (by omega),if_neg (by omega),if_neg (by omega),if_pos h2,Bool.and_eq_true,Bool.and_eq_true,List.all_eq_true] at h;intro c hc;rw [if_neg h3];exact h.2.1 c hc
  ·have hc:=List.eq_nil_of_length_eq_zero (hp.2.1.resolve_left (by omega));intro c h';rw [hc] at h'
   cases h'
theorem uT {n:PN} (h:aD n=true) (k:n.kind=4):(1<=n.data.length/\n.data.length<=238)/\n.cells=[]/\n.root=0/\n.pages=0/\n.free=0/\n.entries=0:=by
 have hp:=fg h;unfold aD at h;unfold bA at hp;rw [decide_eq_true_eq] at hp;rw [Bool.and_eq_true,if_neg (by omega),if_pos k,decide_eq_true_eq] at h;exact ⟨h.2,List.eq_nil_of_length_eq_zero (hp.2.1.resolve_left (by omega)),hp.1.resolve_left (by omega)⟩
theorem Ho {n:PN} (h:aD n=true) (k:n.kind=5):n.cells=[]/\n.data=[]/\n.root=0/\n.pages=0/\n.free=0/\n.entries=0:=by
 have hp:=fg h;unfold bA at hp;rw [decide_eq_true_eq] at hp;exact ⟨List.eq_nil_of_length_eq_zero (hp.2.1.resolve_left (by omega)),List.eq_nil_of_length_eq_zero (hp.2.2.1.resolve_left (by omega)),hp.1.resolve_left (by omega)⟩
theorem gP {n:PN} (h:aD n=true) (k:n.kind=2\/n.kind=3):(n.kind=2->n.cells.length≠0)/\kr n.cells=true/\n.data=[]/\n.next=0/\n.root=0/\n.pages=0/\n.free=0/\n.entries=0:=by
 have hp:=fg h;unfold aD at h;unfold bA at hp;rw [decide_eq_true_eq] at hp;rw [Bool.and_eq_true,if_neg (by omega),if_neg (by omega),if_neg (by omega)] at h;refine ⟨?_,?_,List.eq_nil_of_length_eq_zero (hp.2.2.1.resolve_left (by omega)),hp.2.2.2.resolve_left (by omega),hp.1.resolve_left (by omega)⟩
 ·intro k2;rw [if_pos k2,Bool.and_eq_true,decide_eq_true_eq] at h;exact h.2.1
 ·by_cases k2:n.kind=2
  ·rw [if_pos k2,Bool.and_eq_true,Bool.and_eq_true] at h;exact h.2.2.2
  ·rw [if_neg k2,if_pos (by omega),Bool.and_eq_true] at h;exact h.2.2
theorem Ef {n:PN} (h:putE n=0):aD n=true/\(n.kind=2\/n.kind=3->2+2*n.cells.length+ah (n.cells.map (nr n.kind))<=243):=by
 unfold putE at h
 split at h
 ·cases h
 rename_i h1
 split at h
 ·cases h
 rename_i h2;refine ⟨by simpa using h1,fun hc=>?_⟩;have:=rH n.kind n.cells;have h3:¬ 241<b7 n.kind n.cells:=fun hh=>h2 ⟨hc,hh⟩;omega
theorem F2 {n:PN} (k:n.kind=1):aZ n=dy++(ag 4 n.root++(ag 4 n.pages++(ag 4 n.free++(ag 8 n.entries++List.replicate 218 0)))):=by
 unfold aZ cR;rw [if_pos k];simp [fL,dy]
theorem F3 {n:PN} (k:n.kind=4):aZ n=ag 4 n.next++(UInt8.ofNat n.data.length::(n.data++List.replicate (238-n.data.length) 0)):=by
 unfold aZ cR;rw [if_neg (by omega),if_pos k,List.append_assoc,List.cons_append,lQ,List.length_cons,fL];congr 4;omega
theorem F4 {n:PN} (k:n.kind=5):aZ n=ag 4 n.next++List.replicate 239 0:=by
 unfold aZ cR;rw [if_neg (by omega),if_neg (by omega),if_pos k,fL]
theorem F5 {n:PN} (k:n.kind=2\/n.kind=3):aZ n=ar (n.cells.map (nr n.kind)):=by
 unfold aZ;rw [if_neg (by omega),if_neg (by omega),if_neg (by omega)]
theorem Cd {n:PN} (h:putE n=0):(aZ n).length=243:=by
 obtain ⟨h1,hs⟩:=Ef h
 rcases iV h1 with k | k | k | k
 ·rw [F2 k];simp only [lQ,fL,List.length_replicate];rfl
 ·rw [F3 k];have:=(uT h1 k).1;simp only [lQ,List.length_cons,fL,List.length_replicate];omega
 ·rw [F4 k];simp only [lQ,fL,List.length_replicate]
 ·rw [F5 k];exact fw (by rw [List.length_map];exact hs k)
end
section
abbrev Over:=List (Nat × List UInt8)
def lookO (n:Nat):Over->Option (List UInt8)
 | []=>none
 | (k,b)::l=>if k=n then some b else lookO n l
structure PT where
 src:List (List UInt8)
 lsn:Nat
 root:Nat
 pages:Nat
 free:Nat
 entries:Nat
 over:Over
 changed:Bool
def PT.head (t:PT):PN:=⟨1,t.lsn,[],0,[],t.root,t.pages,t.free,t.entries⟩
def iN (t:PT) (n:Nat):Except Int (List UInt8) :=
 if t.pages<=n then .error 7 else match lookO n t.over with
  | some b=>.ok b
  | none=>if n=0/\t.changed=true then .ok (Ai t.head) else match t.src[n]? with
   | some b=>.ok b
   | none=>.error 7
def cn (t:PT) (n:Nat):Except Int PN:=match iN t n with
 | .error e=>.error e
 | .ok b=>cJ b
def iO9 (t:PT):Int × Nat × PT :=
 if t.free≠0 then match cn t t.free with
  | .error e=>(e,0,t)
  | .ok x=>if x.kind≠5\/t.pages<=x.next then (80,0,t) else (0,t.free,{t with free:=x.next,changed:=true})
 else if 512<=t.pages then (90,0,t)
 else (0,t.pages,{t with pages:=t.pages+1,changed:=true})
def kK (src:List (List UInt8)) (lsn:Nat):Except Int PT:=match src[0]? with
 | none=>.error 7
 | some b=>match cJ b with
  | .error e=>.error e
  | .ok n=>if n.kind=1 then .ok ⟨src,lsn,n.root,n.pages,n.free,n.entries,[],false⟩ else .error 80
structure PT.OK (t:PT):Prop where
 lsn:t.lsn<18446744073709551616
 head:2<=t.pages/\t.pages<=512/\1<=t.root/\t.root<t.pages/\t.free<t.pages
 entries:t.entries<18446744073709551616
 keys:∀ x∈t.over,0<x.1/\x.1<t.pages
 nodup:(t.over.map (·.1)).Nodup
theorem PT.OK.putE {t:PT} (h:t.OK):putE t.head=0:=by
 have hp:bA t.head=true:=by
  unfold bA PT.head;simp
 have hh:o4 t.head=true:=by
  unfold o4 PT.head;rw [decide_eq_true_eq];exact h.head
 have hn:aD t.head=true:=by
  unfold aD;rw [hp,show t.head.kind=1 from rfl,if_pos rfl,hh];rfl
 unfold Go.Proofs.YtgohffhoapkeaaaGreatDoor.putE;rw [hn,if_neg (by simp),if_neg (by rw [show t.head.kind=1 from rfl];omega)]
theorem PT.OK.fit {t:PT} (h:t.OK):t.head.Fit:=by
 have:=h.head;refine ⟨h.lsn,by show 0<_;decide,?_,?_,?_,h.entries,fun c hc=>by cases hc⟩
 ·show t.root<_;omega
 ·show t.pages<_;omega
 ·show t.free<_;omega
end
section
end
section
end
section
def fc (t:PT):Nat->Nat->Nat->Except Int (List Nat × List UInt8)
 | 0,_,_=>.ok ([],[])
 | f+1,at',left=>if left=0 then .ok ([],[]) else match cn t at' with
  | .error e=>.error e
  | .ok x=>if x.kind≠4\/x.data.length≠min 238 left\/¬ (x.next=0↔left-min 238 left=0) then .error 100 else match fc t f x.next (left-min 238 left) with
   | .error e=>.error e
   | .ok r=>.ok (at'::r.1,x.data++r.2)
def lw (t:PT) (first:Nat) (size:Int):Except Int (List Nat × List UInt8):=if size<1\/1000<size then .error 2 else fc t 5 first size.toNat
end
section
section
variable {P:Program} {ops:Array Oper} {Q:Exit->Act->World->Prop} {md:Region.Mode} {S:World->Prop} {n:Nat}
def be (P:Program) (md:Region.Mode) (ops:Array Oper) (Q:Exit->Act->World->Prop) (S:World->Prop) (n:Nat):Nat->Array Bool->Act->World->Prop
 | 0,listed,a,w=>Region.ready md ops listed=[]/\Q .normal a w
 | fuel+1,listed,a,w =>
  (Region.ready md ops listed=[]->Q .normal a w) /\
  ∀ i∈Region.ready md ops listed,wpOp P ops Q i (fun a' w'=>(i<n->S w')/\be P md ops Q S n fuel (listed.setIfInBounds i true) a' w') a w
theorem o6:∀ (fuel:Nat) (listed:Array Bool) (a:Act) (w:World),be P md ops Q S n fuel listed a w->wpAny P md ops Q fuel listed a w
 | 0,_,_,_,h=>h
 | fuel+1,_,_,_,h=>⟨h.1,fun i hi=>wpOp_mono (fun a' w' h'=>o6 fuel _ a' w' h'.2) (h.2 i hi)⟩
theorem sQ {i:Nat} {oi:Oper} {v:Value} (hi:ops[i]?=some oi) (hsel:∀ (j:Nat) (o:Oper) cs b,ops[j]?=some o->o.op≠.select cs b)
 (hQ:∀ c a w,Q (.panic c) (a.put oi.dst v) w->Q (.panic c) a w) (hs:Region.sinkB md ops n=true) (hc:Region.chainB md ops n=true) (hn:n<ops.size) (hin:i<n) :
 ∀ (fuel:Nat) (listed:Array Bool) (a:Act) (w:World),HeadInv md ops n listed ->
  (∀ j oj,ops[j]?=some oj->j≠i->listed.getD j true=false->(∀ e∈oj.after,Region.binds md e=true->e.on≠i)->oi.apart ops oj=true) ->
  i∈Region.ready md ops listed->YieldsIf P ops S oi v a->S w ->
  be P md ops Q S n fuel (listed.setIfInBounds i true) (a.put oi.dst v) w->be P md ops Q S n (fuel+1) listed a w:=by
 intro fuel
 induction fuel with
 | zero =>
  intro listed a w _ _ hr hy hS H;refine ⟨fun h=>(by rw [h] at hr;cases hr),fun j hj=>?_⟩;by_cases hji:j=i
  ·subst hji;exact hy.wpOp hi hS ⟨fun _=>hS,H⟩
  ·have:=ready_mono hj hji;rw [H.1] at this
   cases this
 | succ fuel ih =>
  intro listed a w inv hfree hr hy hS H;have hun:=(mem_ready.1 hr).1;refine ⟨fun h=>(by rw [h] at hr;cases hr),fun j hj=>?_⟩;by_cases hji:j=i
  ·subst hji;exact hy.wpOp hi hS ⟨fun _=>hS,H⟩
  ·have hjn:j<n:=by
    rcases Nat.lt_or_ge j n with h | h
    ·exact h
    ·exact absurd hj (tail_waits hs hc hn inv _ i rfl hin hun j h)
   have h1:=H.2 j (ready_mono hj hji);obtain ⟨hjun,oj,hoj,hall⟩:=mem_ready.1 hj
   have hnot:∀ e∈oj.after,Region.binds md e=true->e.on≠i:=fun e he hb heq=>by
    have h1:=hall e he hb;rw [heq,getD_both hun] at h1
    cases h1
   have h2:=wpOp_putIf hoj (hfree j oj hoj hji hjun hnot) (fun cs b=>hsel i oi cs b hi) (fun cs b=>hsel j oj cs b hoj) hQ hy h1
   have hfree':∀ k ok,ops[k]?=some ok->k≠i->(listed.setIfInBounds j true).getD k true=false ->
    (∀ e∈ok.after,Region.binds md e=true->e.on≠i)->oi.apart ops ok=true:=fun k ok hk hki hu hno=>by
    refine hfree k ok hk hki ?_ hno;by_cases hjk:j=k
    ·subst hjk;exact hjun
    ·rw [getD_set_ne true hjk] at hu;exact hu
   refine wpOp_mono (fun a' w' h3=>⟨h3.2.1,ih (listed.setIfInBounds j true) a' w' (inv.set hj hjn) hfree' (ready_mono hr (Ne.symm hji)) h3.1 (h3.2.1 hjn) ?_⟩) h2;rw [Array.setIfInBounds_comm _ _ hji];exact h3.2.2
structure Tl (md:Region.Mode) (ops:Array Oper) (n:Nat) (listed:Array Bool):Prop where
 sink:Region.sinkB md ops n=true
 chain:Region.chainB md ops n=true
 lt:n<ops.size
 sel:Region.noSelect ops=true
 inv:HeadInv md ops n listed
theorem yW {listed:Array Bool} (i:Nat) {oi:Oper} {v:Value} {fuel:Nat} {a:Act} {w:World} (T:Tl md ops n listed) (hi:ops.toList[i]?=some oi) (hin:i<n)
 (hf:Region.free md ops listed i=true) (hr:(Region.ready md ops listed).contains i=true) (hQ:∀ c a w,Q (.panic c) (a.put oi.dst v) w->Q (.panic c) a w) (hS:S w) (hy:YieldsIf P ops S oi v a)
 (h:Tl md ops n (listed.setIfInBounds i true)->be P md ops Q S n fuel (listed.setIfInBounds i true) (a.put oi.dst v) w):be P md ops Q S n (fuel+1) listed a w:=by
 have hi':ops[i]?=some oi:=by rw [<-Array.getElem?_toList];exact hi
 have hr':i∈Region.ready md ops listed:=by simpa using hr
 exact sQ hi' (Region.noSelect_spec T.sel) hQ T.sink T.chain T.lt hin fuel listed a w T.inv (Region.free_spec hi' hf) hr' hy hS (h ⟨T.sink,T.chain,T.lt,T.sel,T.inv.set hr' hin⟩)
theorem pT:(∀ (a:Act) (d:Nat) (v:Value),a.put (some d) v={a with tmps:=a.tmps.setIfInBounds d v})/\(∀ (a:Act) (v:Value),a.put none v=a)/\(∀ (l:List Value) (i:Nat) (v:Value),l.toArray.setIfInBounds i v=(l.set i v).toArray)/\(∀ (x v:Value) (l:List Value),(x::l).set 0 v=v::l)/\(∀ (x v:Value) (l:List Value) (i:Nat),(x::l).set (i+1) v=x::l.set i v) :=
 ⟨fun _ _ _=>rfl,fun _ _=>rfl,fun _ _ _=>by simp,fun _ _ _=>rfl,fun _ _ _ _=>rfl⟩
theorem Ju {listed:Array Bool} (i:Nat) {oi:Oper} {v:Value} {fuel:Nat} {a:Act} {w:World} (T:Tl md ops n listed) (hS:S w) (hi:ops.toList[i]?=some oi) (hy:∀ w,S w->(execOp a.eval oi).run P w=.ok (.value v) w)
 (h:Tl md ops n (listed.setIfInBounds i true)->be P md ops Q S n fuel (listed.setIfInBounds i true) (a.put oi.dst v) w)
 (hw:Region.wanted oi (yielded ops a.tmps)=true:=by rfl) (hQ:∀ c a w,Q (.panic c) (a.put oi.dst v) w->Q (.panic c) a w:=by exact fun _ _ _ h=>h)
 (hin:i<n:=by decide) (hf:Region.free md ops listed i=true:=by kernel_rfl) (hr:(Region.ready md ops listed).contains i=true:=by kernel_rfl):be P md ops Q S n (fuel+1) listed a w :=
 yW i T hi hin hf hr hQ hS (Or.inl ⟨hw,hy⟩) h
theorem Jv {listed:Array Bool} (i:Nat) {oi:Oper} {fuel:Nat} {a:Act} {w:World} (T:Tl md ops n listed) (hS:S w) (hi:ops.toList[i]?=some oi)
 (h:Tl md ops n (listed.setIfInBounds i true)->be P md ops Q S n fuel (listed.setIfInBounds i true) (a.put oi.dst undef) w)
 (hw:Region.wanted oi (yielded ops a.tmps)=false:=by rfl) (hQ:∀ c a w,Q (.panic c) (a.put oi.dst undef) w->Q (.panic c) a w:=by exact fun _ _ _ h=>h)
 (hin:i<n:=by decide) (hf:Region.free md ops listed i=true:=by kernel_rfl) (hr:(Region.ready md ops listed).contains i=true:=by kernel_rfl):be P md ops Q S n (fuel+1) listed a w :=
 yW i T hi hin hf hr hQ hS (Or.inr ⟨hw,rfl⟩) h
theorem F6 {listed:Array Bool} (i:Nat) {o:Oper} {fuel:Nat} {a:Act} {w:World} (hi:ops.toList[i]?=some o) (hr:Region.ready md ops listed=[i])
 (h:∀ K':Act->World->Prop,Shut (∀ a w,(i<n->S w)->be P md ops Q S n fuel (listed.setIfInBounds i true) a w->K' a w)->if Region.wanted o (yielded ops a.tmps)=true then Oper.wp P o a w K' Q else K' (a.put o.dst undef) w) :
 be P md ops Q S n (fuel+1) listed a w:=by
 have hi':ops[i]?=some o:=by rw [<-Array.getElem?_toList];exact hi
 refine ⟨fun h0=>absurd (hr ▸ h0) (by simp),fun j hj=>?_⟩;rw [hr] at hj;obtain rfl:=List.mem_singleton.1 hj;exact wpOp_step hi' (fun K' hK=>h K' (fun a w hS hW=>hK a w ⟨hS,hW⟩))
theorem Hp {listed:Array Bool} {a:Act} {w:World} (hr:Region.ready md ops listed=[]) (h:Q .normal a w):∀ fuel,be P md ops Q S n fuel listed a w
 | 0=>⟨hr,h⟩
 | _+1=>⟨fun _=>h,by rw [hr];simp⟩
theorem Eg (n:Nat) {id:Nat} {a:Act} {w:World} (S:World->Prop) (hm:P.follows .mixedOrders=true) (hs:Region.sinkB .any ops n=true) (hc:Region.chainB .any ops n=true) (hn:decide (n<ops.size)=true) (hsel:Region.noSelect ops=true)
 (hS:S w.drew) (h:S w.drew->Tl .any ops n (Array.replicate ops.size false)->be P .any ops Q S n ops.size (Array.replicate ops.size false) a w.drew):(Code.region id ops true).wp P Q a w :=
 wp_region_any hm (o6 _ _ _ _ (h hS ⟨hs,hc,of_decide_eq_true hn,hsel,⟨by simp,(fun j oj _ hl=>by rw [getD_replicate_false] at hl;cases hl),(fun t _ ht=>by simp [ht])⟩⟩))
theorem ae {listed:Array Bool} (i:Nat) {oi:Oper} {v:Value} {fuel:Nat} {a:Act} {w:World} (T:Tl md ops n listed) (hS:S w)
 (h:Tl md ops n (listed.setIfInBounds i true)->be P md ops Q S n fuel (listed.setIfInBounds i true) (a.put oi.dst v) w)
 (hi:ops.toList[i]?=some oi:=by rfl) (hy:∀ w,S w->(execOp a.eval oi).run P w=.ok (.value v) w:=by (intro w hSw;(try dsimp only at hSw);go_simp;all_goals with_reducible rfl))
 (hw:Region.wanted oi (yielded ops a.tmps)=true:=by rfl) (hQ:∀ c a w,Q (.panic c) (a.put oi.dst v) w->Q (.panic c) a w:=by exact fun _ _ _ h=>h)
 (hin:i<n:=by decide) (hf:Region.free md ops listed i=true:=by kernel_rfl) (hr:(Region.ready md ops listed).contains i=true:=by kernel_rfl):be P md ops Q S n (fuel+1) listed a w :=
 yW i T hi hin hf hr hQ hS (Or.inl ⟨hw,hy⟩) h
theorem aA {listed:Array Bool} (i:Nat) {o:Oper} {fuel:Nat} {a:Act} {w:World}
 (h:∀ K':Act->World->Prop,Shut (∀ a w,(i<n->S w)->be P md ops Q S n fuel (listed.setIfInBounds i true) a w->K' a w)->if Region.wanted o (yielded ops a.tmps)=true then Oper.wp P o a w K' Q else K' (a.put o.dst undef) w)
 (hi:ops.toList[i]?=some o:=by rfl) (hr:Region.ready md ops listed=[i]:=by kernel_rfl):be P md ops Q S n (fuel+1) listed a w:=F6 i hi hr h
theorem az {listed:Array Bool} (i:Nat) {o:Oper} {fuel:Nat} {a:Act} {w:World}
 (h:∀ K':Act->World->Prop,Shut (∀ a w,be P md ops Q S n fuel (listed.setIfInBounds i true) a w->K' a w)->if Region.wanted o (yielded ops a.tmps)=true then Oper.wp P o a w K' Q else K' (a.put o.dst undef) w)
 (hi:ops.toList[i]?=some o:=by rfl) (hr:Region.ready md ops listed=[i]:=by kernel_rfl) (hn:¬ i<n:=by decide):be P md ops Q S n (fuel+1) listed a w :=
 F6 i hi hr fun K hK=>h K (fun a w hW=>hK.out a w (fun h=>absurd h hn) hW)
theorem sP {listed:Array Bool} (i:Nat) {f:FuncId} {o:Oper} {args:Array Value} {fuel:Nat} {a:Act} {w:World} {R:Ending->World->Prop} (hc:Calls P f args w R)
 (h:∀ e w',R e w'->∃ v,e=.returned v/\(i<n->S w')/\be P md ops Q S n fuel (listed.setIfInBounds i true) (a.put o.dst v) w')
 (hi:ops.toList[i]?=some o:=by rfl) (hr:Region.ready md ops listed=[i]:=by kernel_rfl) (hgd:o.guard=none:=by rfl) (hrun:(execOp a.eval o).run P w=.ok (.enter f args) w:=by go_simp):be P md ops Q S n (fuel+1) listed a w :=
 F6 i hi hr fun K hK=>by
  have hw:Region.wanted o (yielded ops a.tmps)=true:=by simp [Region.wanted,hgd]
  rw [if_pos hw];unfold Oper.wp;rw [hrun,Oper.upon_enter];refine hc.mono fun e w'' hh=>?_;obtain ⟨v,rfl,hS,hk⟩:=h e w'' hh;exact hK.out _ _ hS hk
theorem cW {listed:Array Bool} {a:Act} {w:World} (h:Q .normal a w) (fuel:Nat) (hr:Region.ready md ops listed=[]:=by kernel_rfl):be P md ops Q S n fuel listed a w:=Hp hr h fuel
theorem bB (n:Nat) {id:Nat} {a:Act} {w:World} (S:World->Prop) (hS:S w.drew) (h:S w.drew->Tl .any ops n (Array.replicate ops.size false)->be P .any ops Q S n ops.size (Array.replicate ops.size false) a w.drew)
 (hm:P.follows .mixedOrders=true:=by kernel_rfl) (hs:Region.sinkB .any ops n=true:=by kernel_rfl) (hc:Region.chainB .any ops n=true:=by kernel_rfl) (hn:decide (n<ops.size)=true:=by kernel_rfl) (hsel:Region.noSelect ops=true:=by kernel_rfl):(Code.region id ops true).wp P Q a w:=Eg n S hm hs hc hn hsel hS h
end
section
variable {P:Program} {ops:Array Oper} {Q:Exit->Act->World->Prop} {md:Region.Mode} {S S':World->Prop} {n:Nat}
theorem Tl.step {listed:Array Bool} (T:Tl md ops n listed) (i:Nat) (hr:(Region.ready md ops listed).contains i=true) (hin:i<n):Tl md ops n (listed.setIfInBounds i true) :=
 ⟨T.sink,T.chain,T.lt,T.sel,T.inv.set (by simpa using hr) hin⟩
end
open Go.RowKit
theorem ij {P:Program} {ops:Array Oper} {o:Oper} {a:Act} {w:World} {K:Act->World->Prop} {Q:Exit->Act->World->Prop} {E:Prop} (hw:Region.wanted o (yielded ops a.tmps)=true) (f:FuncId) (args:Array Value) (hrun:(execOp a.eval o).run P w=.ok (.enter f args) w)
 {R:Ending->World->Prop} (hc:Calls P f args w R) (hR:∀ e w',R e w'->∃ v,e=.returned v/\K (a.put o.dst v) w'):if Region.wanted o (yielded ops a.tmps)=true then Oper.wp P o a w K Q else E:=by
 rw [if_pos hw];unfold Oper.wp;rw [hrun,Oper.upon_enter];refine hc.mono fun e w'' hh=>?_;obtain ⟨v,rfl,hk⟩:=hR e w'' hh;exact hk
theorem sC {P:Program} {ops:Array Oper} {o:Oper} {a:Act} {w:World} {K:Act->World->Prop} {Q:Exit->Act->World->Prop} {E:Prop} (hgd:o.guard=none) (f:FuncId) (args:Array Value) (hrun:(execOp a.eval o).run P w=.ok (.enter f args) w)
 {R:Ending->World->Prop} (hc:Calls P f args w R) (hR:∀ e w',R e w'->∃ v,e=.returned v/\K (a.put o.dst v) w'):if Region.wanted o (yielded ops a.tmps)=true then Oper.wp P o a w K Q else E:=by
 have hw:Region.wanted o (yielded ops a.tmps)=true:=by simp [Region.wanted,hgd]
 rw [if_pos hw];unfold Oper.wp;rw [hrun,Oper.upon_enter];refine hc.mono fun e w'' hh=>?_;obtain ⟨v,rfl,hk⟩:=hR e w'' hh;exact hk
theorem jA {w:World} {B e size n:Nat} {v:Value} {xs:List Value} (h:w.ownsRow B e size v n xs):∃ A c,v=.slice A n c:=by
 rcases h.2 with ⟨rfl,rfl⟩ | ⟨g,cap,cur,rfl,_⟩
 ·exact ⟨_,_,rfl⟩
 ·exact ⟨_,_,rfl⟩
structure Ce (P:Program) (t e:TypeId) (size bytes:Nat):Prop where
 under:P.underlying t=some (.slice e)
 info:∃ i z,P.info? e=some i/\i.zero=some z/\i.size=size/\i.bytes=bytes/\z.cells.size=size
 pos:0<size
 few:bytes<=1000
theorem Ce.of {P:Program} {t e:TypeId} {size bytes:Nat} {z:Value} (hu:P.underlying t=some (.slice e)) (hi:(P.info? e).map (fun i=>(i.zero,i.size,i.bytes))=some (some z,size,bytes)) (hz:z.cells.size=size) (h0:0<size) (hf:bytes<=1000):Ce P t e size bytes:=by
 cases h:P.info? e with
 | none=>rw [h] at hi;cases hi
 | some i =>
  rw [h] at hi;simp only [Option.map_some,Option.some.injEq,Prod.mk.injEq] at hi;exact ⟨hu,⟨i,z,h,hi.1,hi.2.1,hi.2.2,hz⟩,h0,hf⟩
theorem G8:Ce Tryz.prog 23 5 1 1:=Ce.of Tryz.underlying23 (z:=.int .u8 0) (by kernel_rfl) rfl (by omega) (by omega)
theorem cj {w:World} {B B' e size n:Nat} {v:Value} {xs:List Value} (h:w.ownsRow B e size v n xs) (hB:B'<=B):w.ownsRow B' e size v n xs:=⟨h.1,h.2.imp id fun ⟨g,cap,cur,e1,e2,r⟩=>⟨g,cap,cur,e1,nT hB e2,r⟩⟩
theorem bw {w:World} {B e size n:Nat} {v:Value} {xs:List Value} (h:w.ownsRow B e size v n xs):∃ A c,v=.slice A n c:=jA h
section
variable {P:Program} {w:World}
theorem jC {t e:TypeId} {size bytes:Nat} (T:Ce P t e size bytes) {ops:Array Oper} {o:Oper} {a:Act} {K:Act->World->Prop} {Q:Exit->Act->World->Prop} {E:Prop} (hgd:o.guard=none) {s x:Operand}
 (ho:o.op=.call {callee:=.builtin .append,args:=#[s,x],argTypes:=#[t,t]})
 (base:Nat) {As:Option Addr} {n cs:Nat} {xs:List Value} (hs:a.eval s=.slice As n cs) (hown:w.ownsRow base e size (.slice As n cs) n xs)
 {B:Nat} {A:Option Addr} {m c:Nat} {news:List Value} (hx:a.eval x=.slice A m c) (hr:Reads w B size A m news) (h1:∀ u∈news,u.oneCell'=true)
 (hn:n+m<=1000000) (hbase:base<=w.heap.size) {k:Nat} (hk:n+m=k) {ys:List Value} (hy:xs++news=ys)
 (h:∀ A' c' w',w'.ownsRow base e size (.slice A' k c') k ys->w.grownBy w' (.slice As n cs:Value).ownBlock->((.slice A' k c':Value).ownBlock=(.slice As n cs:Value).ownBlock\/(.slice A' k c':Value).ownBlock=some w.heap.size)->K (a.put o.dst (.slice A' k c')) w') :
 if Region.wanted o (yielded ops a.tmps)=true then Oper.wp P o a w K Q else E:=by
 obtain ⟨i,z,i1,i2,i3,i4,i5⟩:=T.info;subst hk hy;refine oa w hgd s x t ho base e i z size bytes T.under i1 i2 i3 i4 i5 T.pos _ n xs hs hown B A m c news hx hr h1 (by simp only [maxLen];omega) (nT (Nat.mul_le_mul hn T.few) (by omega)) hbase (fun v' w' a1 a2 a3=>?_);obtain ⟨A',c',rfl⟩:=jA a1;exact h A' c' w' a1 a2 a3
theorem mH {t e:TypeId} {size bytes:Nat} (T:Ce P t e size bytes) {ops:Array Oper} {rest:List Oper} {o:Oper} {a:Act} {Q:Exit->Act->World->Prop} (hgd:o.guard=none) {s x:Operand}
 (ho:o.op=.call {callee:=.builtin .append,args:=#[s,x],argTypes:=#[t,t]})
 (base:Nat) {As:Option Addr} {n cs:Nat} {xs:List Value} (hs:a.eval s=.slice As n cs) (hown:w.ownsRow base e size (.slice As n cs) n xs)
 {B:Nat} {A:Option Addr} {m c:Nat} {news:List Value} (hx:a.eval x=.slice A m c) (hr:Reads w B size A m news) (h1:∀ u∈news,u.oneCell'=true)
 (hn:n+m<=1000000) (hbase:base<=w.heap.size) {k:Nat} (hk:n+m=k) {ys:List Value} (hy:xs++news=ys)
 (h:∀ A' c' w',w'.ownsRow base e size (.slice A' k c') k ys->w.grownBy w' (.slice As n cs:Value).ownBlock->((.slice A' k c':Value).ownBlock=(.slice As n cs:Value).ownBlock\/(.slice A' k c':Value).ownBlock=some w.heap.size)->wpList P ops Q rest (a.put o.dst (.slice A' k c')) w'):wpList P ops Q (o::rest) a w:=by
 obtain ⟨i,z,i1,i2,i3,i4,i5⟩:=T.info;subst hk hy;refine gk w hgd s x t ho base e i z size bytes T.under i1 i2 i3 i4 i5 T.pos _ n xs hs hown B A m c news hx hr h1 (by simp only [maxLen];omega) (nT (Nat.mul_le_mul hn T.few) (by omega)) hbase (fun v' w' a1 a2 a3=>?_);obtain ⟨A',c',rfl⟩:=jA a1;exact h A' c' w' a1 a2 a3
theorem xa (W:World) (e size:Nat) {H base:Nat} (hH:W.heap.size=H) (hb:base<=H):(W.alloc (.cells #[] e)).ownsRow base e size (.slice (some ⟨H,0,none⟩) 0 0) 0 []:=by
 subst hH;exact ⟨by simp,.inr ⟨_,0,#[],rfl,hb,heap_alloc_new W _,nR _,by simp [maxLen],by simp,by simp⟩⟩
theorem fy {g:Nat} {t:TypeId} {cs:Array Value} {size:Nat} (h:aa w g t cs) (hs:cs.size=size):Reads w w.heap.size size (some ⟨g,0,none⟩) 1 cs.toList :=
 ⟨by simp [hs],fun _=>⟨_,rfl,h.lt,fun j x hx=>by
  have e:(⟨g,0,none⟩:Addr).add j=⟨g,j,none⟩:=by unfold Addr.add;split <;> simp_all
  rw [e,h.cell]
  simpa using hx⟩⟩
section
variable {w W W':World} {g:Nat} {t:TypeId} {cs:Array Value}
end
theorem iW (W:World) (t:TypeId) (cs:Array Value) {H:Nat} (hH:W.heap.size=H):aa (W.alloc (.cells cs t)) H t cs:=by subst hH;exact aa.new W t cs
end
def bl (l:List UInt8):List Value:=l.map fun c=>.int .u8 (c.toNat:Int)
theorem aF (l:List UInt8):(bl l).length=l.length:=by simp [bl]
theorem mJ (l m:List UInt8):bl (l++m)=bl l++bl m:=by simp [bl]
theorem gA (l:List UInt8):∀ u∈bl l,u.oneCell'=true:=by
 intro u hu;obtain ⟨c,_,rfl⟩:=List.mem_map.1 hu;rfl
theorem rM {B B':Nat} {w:World} {A:Option Addr} {n size:Nat} {l:List Value} (h:Reads w B size A n l) (hB:B<=B'):Reads w B' size A n l :=
 ⟨h.1,fun h0=>by
  obtain ⟨a,e,h1,h2⟩:=h.2 h0
  exact ⟨a,e,lT h1 hB,h2⟩⟩
theorem bF {B:Nat} {w:World} {A:Option Addr} {b:List UInt8} {n:Nat} (h:Reads w B 1 A b.length (bl b)) (hn:n<=b.length):Reads w B 1 A n (bl (b.take n)):=by
 refine ⟨by rw [aF,lK];omega,fun h0=>?_⟩;obtain ⟨a,e,h1,h2⟩:=h.2 (by omega);refine ⟨a,e,h1,fun j x hj=>h2 j x ?_⟩;unfold bl at hj ⊢;rw [List.getElem?_map] at hj ⊢;rw [List.getElem?_take] at hj
 split at hj
 ·exact hj
 ·simp at hj
theorem dA {B:Nat} {a:Addr} {b:List UInt8} {w:World} (hr:Reads w B 1 (some a) b.length (bl b)) (j:Nat) (hj:j<b.length):w.cell? (a.add j)=some (.int .u8 ((b.getD j 0).toNat:Nat)):=by
 obtain ⟨a',e',_,h2⟩:=hr.2 (by omega)
 cases e'
 exact h2 j (.int .u8 ((b.getD j 0).toNat:Int)) (by unfold bl;rw [List.getElem?_map,gE hj,List.getD_eq_getElem?_getD,gE hj];rfl)
theorem mK {B:Nat} {a:Addr} {b:List UInt8} {w:World} (hr:Reads w B 1 (some a) b.length (bl b)) (hj:0<b.length):a.block<w.heap.size:=by
 have:=World.block_lt_of_cell? w _ (dA hr 0 hj);unfold Addr.add at this
 split at this <;> exact this
end
section
open Go.RowKit
theorem o7 {P:Program} {w:World} {t e:TypeId} {size bytes:Nat} (T:Ce P t e size bytes) {ops:Array Oper} {rest:List Oper} {o:Oper} {a:Act} {Q:Exit->Act->World->Prop} (hgd:o.guard=none) {s x:Operand}
 (ho:o.op=.call {callee:=.builtin .append,args:=#[s,x],argTypes:=#[t,t]})
 (base:Nat) {As:Option Addr} {n cs:Nat} {xs:List Value} (hs:a.eval s=.slice As n cs) (hown:w.ownsRow base e size (.slice As n cs) n xs)
 {B:Nat} {A:Option Addr} {m c:Nat} {news:List Value} (hx:a.eval x=.slice A m c) (hr:Reads w B size A m news) (h1:∀ u∈news,u.oneCell'=true)
 (hn:n+m<=100000000) (hbase:base<=w.heap.size) {k:Nat} (hk:n+m=k) {ys:List Value} (hy:xs++news=ys)
 (h:∀ A' c' w',w'.ownsRow base e size (.slice A' k c') k ys->w.grownBy w' (.slice As n cs:Value).ownBlock->((.slice A' k c':Value).ownBlock=(.slice As n cs:Value).ownBlock\/(.slice A' k c':Value).ownBlock=some w.heap.size)->wpList P ops Q rest (a.put o.dst (.slice A' k c')) w'):wpList P ops Q (o::rest) a w:=by
 obtain ⟨i,z,i1,i2,i3,i4,i5⟩:=T.info;subst hk hy;refine gk w hgd s x t ho base e i z size bytes T.under i1 i2 i3 i4 i5 T.pos _ n xs hs hown B A m c news hx hr h1 (by simp only [maxLen];omega) (nT (Nat.mul_le_mul hn T.few) (by omega)) hbase (fun v' w' a1 a2 a3=>?_);obtain ⟨A',c',rfl⟩:=jA a1;exact h A' c' w' a1 a2 a3
theorem Aj (n:Nat) (hn:n<=4000000) (w:World) :
 Calls Tryz.prog 167 #[.slice none 0 0,.int .i64 n] w fun e w'=>∃ v,e=.returned v/\w'.ownsRow w.heap.size 5 1 v 0 []/\Below w.heap.size w w':=by
 have h1:¬ ((n:Int)<0):=by omega
 by_cases h0:n=0
 ·subst h0;go_enter Tryz.func167,Tryz.ntmps167;go_wp2;go_ret;exact ⟨_,rfl,World.ownsRow_nil _ _ _ _,bR _ _⟩
 ·obtain ⟨i,z,i1,i2,i3,i4,i5⟩:=G8.info;have hb:i.bytes=1:=i4
  have hrz:∀ ty,(Builtin.append_ #[23,3] ty #[.slice none 0 0,.int .i64 (n:Int)]).run Tryz.prog w =
   .ok (.slice (some ⟨w.heap.size,0,none⟩) n (grownCap w n 0 5)) (w.drew.alloc (.cells (([]:List Value).toArray++Builtin.zeroCells z.cells n++Builtin.zeroCells z.cells (grownCap w n 0 5-n)) 5)):=fun ty=>by
   have h:=Lib.run_append_grow_zeros w 23 3 ty 5 i z .i64 .i64 Tryz.underlying23 Tryz.underlying3 i1 i2 none 0 0 [] (run_firstCells_none w.drew i.size 0 0 0) n (by omega) (by rw [i3];omega) (by omega) (by omega)
    (by rw [hb];omega) (growslice_fits (by omega) (by rw [hb];omega))
   rw [Nat.zero_add] at h;exact h
  have hGn:n<=grownCap w n 0 5:=grownCap_ge w _ _ _
  obtain ⟨G,hG⟩:∃ G,G=grownCap w n 0 5:=⟨_,rfl⟩
  rw [<-hG] at hrz hGn
  have hG63:G<=9223372036854775807:=by
   have:=grownCap_le_maxLen w n 0 5 (by unfold maxLen;omega);rw [<-hG] at this;unfold maxLen at this;omega
  obtain ⟨zc,hze⟩:∃ zc,z.cells=zc:=⟨_,rfl⟩
  have hzc:zc.size=1:=by rw [<-hze];exact i5
  rw [hze] at hrz;clear hG i1 i2 i3 i4 i5 hb hze;go_enter Tryz.func167,Tryz.ntmps167
  go_wp2_with (at_builtin;refine Lib.wpList_append_run _ rfl _ _ _ _ rfl _ _ rfl rfl _ _ (hrz _) ?_)
  all_goals
   go_ret;refine ⟨_,rfl,⟨rfl,.inr ⟨w.heap.size,G,_,rfl,nR _,heap_alloc_new w.drew _,?_,?_,?_,?_⟩⟩,((bR _ w).drew).alloc (nR _) _⟩
   all_goals first
    | omega
    | (simp only [maxLen];omega)
    | (simp [Builtin.zeroCells,hzc];done)
    | (simp [Builtin.zeroCells,hzc];omega)
structure Pt where
 A:Option Addr
 c:Nat
 b:List UInt8
def Pt.val (p:Pt):Value:=.slice p.A p.b.length p.c
def fA (ps:List Pt):List UInt8:=ps.flatMap (·.b)
theorem gB {ps:List Pt} {k:Nat} {p:Pt} (h:ps[k]?=some p):fA (ps.take (k+1))=fA (ps.take k)++p.b:=by
 unfold fA;rw [List.take_add_one,h];simp
theorem dH (ps:List Pt) (k:Nat):(fA (ps.take k)).length<=(fA ps).length:=by
 have h:fA ps=fA (ps.take k)++fA (ps.drop k):=by
  unfold fA;rw [<-List.flatMap_append,List.take_append_drop]
 rw [h,lQ];omega
theorem ik {B:Nat} (g cap:Nat) (ps:List Pt) (w:World) (hB:B<=w.heap.size) (hg:∀ k p,ps[k]?=some p->w.cell? ⟨g,k,none⟩=some p.val) (hr:∀ p∈ps,Reads w B 1 p.A p.b.length (bl p.b)) (hs:(fA ps).length<=3000000) (hl:ps.length<=100) :
 Calls Tryz.prog 147 #[.slice (some ⟨g,0,none⟩) ps.length cap] w fun e w'=>∃ v,e=.returned v/\w'.ownsRow w.heap.size 5 1 v (fA ps).length (bl (fA ps))/\Below w.heap.size w w':=by
 have HP:=lH (aI hg hr);clear hg hr;go_enter Tryz.func147,Tryz.ntmps147;go_wp2
 go_loopw [3,5,11] (fun n _ i wr=>wr=w/\∃ k:Nat,k<=ps.length/\n=.int .i64 ((fA (ps.take k)).length:Nat)/\i=.int .i64 k) (fun _ _ i _=>ps.length-(intOf i).toNat)
 case atStart=>exact ⟨rfl,0,zL _,rfl,rfl⟩
 case round =>
  obtain ⟨rfl,k,hk,rfl,rfl⟩:=hrel
  obtain ⟨w0,rfl⟩:∃ w0,w0=wr:=⟨wr,rfl⟩
  have hle:=dH ps k;by_cases hlt:k<ps.length
  ·have d1:decide (k<ps.length)=true:=by simpa using hlt
   obtain ⟨p,hp⟩:∃ p,ps[k]?=some p:=⟨_,gE hlt⟩
   have hc:=HP.out.1 k p hp;have hle2:=dH ps (k+1);have hsc:=gB hp
   have i0:(0:Int)<=(k:Int):=by omega
   have i1:(k:Int)<(ps.length:Int):=by omega
   rw [hsc,lQ] at hle2
   obtain ⟨m,hm⟩:∃ m,(fA (ps.take k)).length=m:=⟨_,rfl⟩
   rw [hm] at hle hle2 ⊢;have HS:=lH (aI hsc hm);clear hsc hm;unfold Pt.val at hc
   have hz:¬ ((m:Int)+(p.b.length:Int)<0):=by omega
   go_wp2
   go_roundw
   case rel=>exact ⟨trivial,k+1,by omega,by rw [HS.out.1,lQ,HS.out.2];go_num,by go_num⟩
   case measure=>simp [intOf];omega
  ·have d1:decide (k<ps.length)=false:=by simpa using hlt
   obtain rfl:k=ps.length:=by omega
   rw [List.take_length] at hle ⊢;have hG:=Aj (fA ps).length (by omega) w0
   go_wp2_with (go_at_call 167;refine hG.mono ?_;rintro e w1 ⟨v,rfl,ho,hb⟩;obtain ⟨A1,c1,rfl⟩:=bw ho)
   clear hG
   go_loopw [6,8,27] (fun out _ i w2=>Below w0.heap.size w0 w2/\∃ (k:Nat) (A:Option Addr) (c:Nat),k<=ps.length/\out=.slice A (fA (ps.take k)).length c/\w2.ownsRow w0.heap.size 5 1 out (fA (ps.take k)).length (bl (fA (ps.take k)))/\i=.int .i64 k) (fun _ _ i _=>ps.length-(intOf i).toNat)
   case atStart=>exact ⟨hb,0,A1,c1,zL _,rfl,ho,rfl⟩
   case round =>
    clear ho hb;obtain ⟨hb,k,A,c,hk,rfl,ho,rfl⟩:=hrel;have hle:=dH ps k
    obtain ⟨wo,rfl⟩:∃ wo,wo=wr:=⟨wr,rfl⟩
    by_cases hlt:k<ps.length
    ·have d1:decide (k<ps.length)=true:=by simpa using hlt
     obtain ⟨p,hp⟩:∃ p,ps[k]?=some p:=⟨_,gE hlt⟩
     have hc:=HP.out.1 k p hp;have hgl:g<w0.heap.size:=World.block_lt_of_cell? w0 _ hc;have hc2:wo.cell? ⟨g,k,none⟩=some p.val:=(hb.cell (p:=⟨g,k,none⟩) hgl).trans hc;have hrd:=(HP.out.2 p (mG hp)).below (hb.mono hB);have hle2:=dH ps (k+1);have hsc:=gB hp
     have i0:(0:Int)<=(k:Int):=by omega
     have i1:(k:Int)<(ps.length:Int):=by omega
     rw [hsc,lQ] at hle2;have HS:=lH hsc;clear hsc hc hp;unfold Pt.val at hc2
     go_wp2_with (at_builtin;refine o7 G8 rfl rfl w0.heap.size rfl ho rfl hrd (gA _) (by omega) hb.size rfl (ys:=bl (fA (ps.take k)++p.b)) (by rw [mJ]) ?_;intro A2 c2 w2 ho2 hg2 hl2)
     all_goals
      go_roundw
      case rel=>exact ⟨hb.grown hg2 hb.size (fun k e=>(ho.lt k e).1),k+1,A2,c2,by omega,by rw [HS.out,lQ],by rw [HS.out,lQ];exact ho2,by go_num⟩
      case measure=>simp [intOf];omega
    ·have d1:decide (k<ps.length)=false:=by simpa using hlt
     obtain rfl:k=ps.length:=by omega
     rw [List.take_length] at ho ⊢;go_wp2;go_ret;exact ⟨_,rfl,ho,hb⟩
theorem Eh:∃ i,Tryz.prog.info? 5=some i/\i.zero=some (.int .u8 0)/\i.size=1/\i.bytes=1:=by
 have hi:(Tryz.prog.info? 5).map (fun i=>(i.zero,i.size,i.bytes))=some (some (.int .u8 0),1,1):=by kernel_rfl
 cases h:Tryz.prog.info? 5 with
 | none=>rw [h] at hi;cases hi
 | some i =>
  rw [h] at hi;simp only [Option.map_some,Option.some.injEq,Prod.mk.injEq] at hi;exact ⟨i,rfl,hi.1,hi.2.1,hi.2.2⟩
theorem eI {B n:Nat} (a:Addr) (c:Nat) (l:List Value) (h1:∀ u∈l,u.oneCell'=true) (w:World) (hr:Reads w B 1 (some a) n l) (hB:B<=w.heap.size) (hl:n<=4000000) :
 Calls Tryz.prog 79 #[.slice (some a) n c] w fun e w'=>∃ A' c',e=.returned (.slice A' n c')/\w'.ownsRow w.heap.size 5 1 (.slice A' n c') n l/\Below w.heap.size w w':=by
 have hnil:∀ W:World,(binOp .eql 23 (.slice (some a) n c) (.slice none 0 0)).run Tryz.prog W=.ok (.bool false) W:=fun W=>(by first | exact Lib.run_eql_slice_nil W 23 5 _ _ _ _ _ Tryz.underlying23 | exact Lib.run_eql_slice_nil W 23 5 _ _ _ _ Tryz.underlying23)
 go_enter Tryz.func79,Tryz.ntmps79
 go_wp2_with (at_builtin;refine o7 G8 rfl rfl w.heap.size rfl (xa _ _ _ rfl (nR _)) rfl (hr.alloc hB _) h1 (by omega) (by simp) (Nat.zero_add _) (List.nil_append _) ?_;intro A1 c1 w1 hown1 hg1 hat1)
 clear hnil;go_ret;exact ⟨A1,c1,rfl,hown1,((bR _ w).alloc (nR _) _).grown hg1 (by simp) (fun k e=>by cases e;exact nR _)⟩
end
end Go.Proofs.YtgohffhoapkeaaaGreatDoor
namespace Go.Proofs.YtgohffhoapkeaaaGreatDoor
open Go.RowKit
theorem aa.below {B:Nat} {w w':World} {g:Nat} {t:TypeId} {cs:Array Value} (h:aa w g t cs) (hb:Below B w w') (hg:g<B):aa w' g t cs:=(hb.block g hg).trans h
theorem rI:∀ (k n:Nat),ag (k+1) n=UInt8.ofNat (n / 256 ^ k % 256)::ag k n
 | 0,n=>by simp [ag]
 | k+1,n=>by
  rw [ag,rI k (n / 256),ag,List.cons_append,Nat.div_div_eq_div_mul,Nat.pow_succ,Nat.mul_comm 256]
theorem Ei (n:Nat):bl (List.replicate n 0)=List.replicate n (.int .u8 0):=by simp [bl]
def q7 (s k n:Nat):List UInt8:=List.replicate (s-k) 0++ag k n
theorem Cf {s k n:Nat} (h:k<=s):(q7 s k n).length=s:=by unfold q7;rw [lQ,List.length_replicate,fL];omega
theorem Cg {s k n:Nat} (h:k<s):(q7 s k n).set (s-1-k) (UInt8.ofNat (n / 256 ^ k % 256))=q7 s (k+1) n:=by
 unfold q7;rw [rI,show s-k=(s-(k+1))+1 by omega,List.replicate_succ',List.append_assoc,List.set_append_right _ _ (by rw [List.length_replicate];omega),List.length_replicate,show s-1-k-(s-(k+1))=0 by omega];rfl
theorem Ch (l:List UInt8) (i:Nat) (c:UInt8):(bl l).toArray.setIfInBounds i (.int .u8 (c.toNat:Int))=(bl (l.set i c)).toArray:=by
 unfold bl;simp [List.map_set]
theorem Hq (n:Nat) (z:Value):madeCells #[z] n=(List.replicate n z).toArray:=by
 unfold madeCells;refine Array.ext (by simp) fun i h1 h2=>?_;simp [Nat.mod_one]
theorem o8 (s:Nat) (hs:s<=1000000) (w:World):(Instr.makeSlice 23 (.int .i64 (s:Int)) (.int .i64 (s:Int))).run Tryz.prog w=.ok (.slice (some ⟨w.heap.size,0,none⟩) s s) (w.alloc (.cells (bl (List.replicate s 0)).toArray 5)):=by
 obtain ⟨i,z,h1,h2,h3,h4,h5⟩:=G8.info
 have hz:z=.int .u8 0:=by
  have hi:(Tryz.prog.info? 5).map (fun i=>i.zero)=some (some (.int .u8 0)):=by kernel_rfl
  rw [h1] at hi;simp only [Option.map_some,Option.some.injEq] at hi;rw [h2] at hi;exact Option.some.inj hi
 subst hz;have h:=run_make (P:=Tryz.prog) w 23 5 i (.int .u8 0) G8.under h1 h2 .i64 .i64 (s:Int) (s:Int) (by omega) (by omega) (by rw [h4];omega) (by omega);simp only [Int.toNat_natCast] at h;rw [h,h3,Ei,Nat.mul_one,show Value.cells (.int .u8 0)=#[.int .u8 0] from rfl,Hq]
theorem ea (n s:Nat) (hn:n<18446744073709551616) (h1:1<=s) (h8:s<=8) (w:World) :
 Calls Tryz.prog 115 #[.int .u64 n,.int .i64 s] w fun e w'=>∃ g,e=.returned (.slice (some ⟨g,0,none⟩) s s)/\w.heap.size<=g/\aa w' g 5 (bl (ag s n)).toArray/\Below w.heap.size w w':=by
 have hm:=o8 s (by omega);have b1:decide ((s:Int)<1)=false:=dF (by omega);have b8:decide (8<(s:Int))=false:=dF (by omega);go_enter Tryz.func115,Tryz.ntmps115;go_wp2
 go_loopw [17] (fun i wr=>∃ k:Nat,k<=s/\i=.int .i64 k/\aa wr w.heap.size 5 (bl (q7 s k n)).toArray/\Below w.heap.size w wr) (fun i _=>s-(intOf i).toNat)
 case atStart=>exact ⟨0,zL _,rfl,by rw [show q7 s 0 n=List.replicate s 0 by unfold q7;simp [ag]];exact aa.new _ _ _,(bR _ _).alloc (nR _) _⟩
 case round =>
  obtain ⟨k,hk,rfl,hB,hb⟩:=hrel;have HB:=lH hB;by_cases hlt:k<s
  ·have d1:decide (k<s)=true:=dT hlt
   obtain ⟨y,hc⟩:∃ y,wr.cell? ⟨w.heap.size,s-1-k,none⟩=some y:=by
    rw [hB.cell];exact ⟨_,Array.getElem?_eq_getElem (by simp [aF,Cf hk];omega)⟩
   have hf:wr.frozen? ⟨w.heap.size,s-1-k,none⟩=false:=hB.frozen _;clear hB;go_wp2
   go_roundw
   case rel =>
    refine ⟨k+1,by omega,by go_num,?_,hb.setCell (p:=⟨w.heap.size,s-1-k,none⟩) (nR _) _⟩;have h:=HB.out.set_ (s-1-k) (.int .u8 ((n:Int) / 2 ^ (8*k) % 256))
    have e:((n:Int) / 2 ^ (8*k) % 256)=((UInt8.ofNat (n / 256 ^ k % 256)).toNat:Int):=by
     rw [ko (by omega),show (256:Nat) ^ k=2 ^ (8*k) from (Nat.pow_mul 2 8 k).symm];simp
    rw [e,Ch,Cg hlt] at h;rw [e];exact h
   case measure=>simp [intOf];omega
  ·have d1:decide (k<s)=false:=dF hlt
   obtain rfl:k=s:=by omega
   clear hB;go_wp2;go_ret;have h:=HB.out;rw [show q7 k k n=ag k n by unfold q7;simp] at h;exact ⟨_,rfl,nR _,h,hb⟩
theorem Ci (b:List UInt8) (k:Nat) (h8:b.length<=8) (hk:k<b.length):aC (b.take k)<72057594037927936:=by
 have:=bW (b.take k);refine lT this ?_;rw [lK,show min k b.length=k by omega];exact nT (Nat.pow_le_pow_right (by decide) (show k<=7 by omega)) (by decide)
theorem Ej (b:List UInt8) (h8:b.length<=8):aC b<18446744073709551616 :=
 lT (bW b) (nT (Nat.pow_le_pow_right (by decide) h8) (by decide))
theorem Ek (m c:Nat) (hm:m<72057594037927936) (hc:c<256):bits .or .u64 ((m:Int)*256) (c:Int)=((m*256+c:Nat):Int):=by
 have h:=Nat.shiftLeft_add_eq_or_of_lt (i:=8) (show c<2 ^ 8 from hc) m;rw [Nat.shiftLeft_eq] at h;have h2:=u64_or ((m*256:Nat):Int) (c:Int) (by omega) (by omega) (by omega) (by omega);simp only [Int.toNat_natCast] at h2;rw [show ((m:Int)*256)=((m*256:Nat):Int) by omega,h2];congr 1;exact h.symm
theorem dB {B:Nat} (A:Option Addr) (c:Nat) (b:List UInt8) (w:World) (hr:Reads w B 1 A b.length (bl b)) (h8:b.length<=8) :
 Calls Tryz.prog 77 #[.slice A b.length c] w fun e w'=>e=.returned (.int .u64 (aC b))/\w=w':=by
 have b8:decide (8<(b.length:Int))=false:=dF (by omega);have HR:=lH hr;clear hr;go_enter Tryz.func77,Tryz.ntmps77;go_wp2
 go_loop [2,10] (fun x i=>∃ k:Nat,k<=b.length/\i=.int .i64 k/\x=.int .u64 (aC (b.take k))) (fun _ i=>b.length-(intOf i).toNat)
 case atStart=>exact ⟨0,zL _,rfl,rfl⟩
 case round =>
  obtain ⟨k,hk,rfl,rfl⟩:=hrel;by_cases hlt:k<b.length
  ·have d1:decide (k<b.length)=true:=dT hlt;obtain ⟨a,rfl,_,_⟩:=HR.out.2 (by omega);have hc:=dA HR.out k hlt;have hm:=Ci b k h8 hlt;have HS:=lH (oW hlt)
   have hg:(b.getD k 0)=b[k]:=by rw [List.getD_eq_getElem?_getD,gE hlt];rfl
   rw [hg] at hc
   obtain ⟨m,HM⟩:∃ m,Hid (aC (b.take k)=m):=⟨_,lH rfl⟩
   rw [HM.out] at hm ⊢
   obtain ⟨y,HY⟩:∃ y,Hid (b[k].toNat=y):=⟨_,lH rfl⟩
   rw [HY.out] at hc
   have hy:y<256:=by rw [<-HY.out];exact b[k].toNat_lt
   have ho:=Ek m y hm hy;clear hg;go_wp2
   go_round
   case rel=>exact ⟨k+1,by omega,by go_num,by rw [HS.out,HM.out,HY.out];go_num⟩
   case measure=>simp [intOf];omega
  ·have d1:decide (k<b.length)=false:=dF hlt
   obtain rfl:k=b.length:=by omega
   go_wp2;go_ret;exact ⟨rfl,rfl⟩
end Go.Proofs.YtgohffhoapkeaaaGreatDoor
namespace Go.Proofs.YtgohffhoapkeaaaGreatDoor.Cr
open Go.RowKit Go.Extern Go.Lib
theorem fh {x y:Nat} (hx:x<4294967296) (hy:y<4294967296):bits .xor .u32 (x:Int) (y:Int)=((Nat.xor x y:Nat):Int):=by
 rw [u32_xor _ _ (by omega) (by omega) (by omega) (by omega)];simp only [Int.toNat_natCast];rfl
theorem jD {x y:Nat} (hx:x<4294967296) (hy:y<4294967296):bits .and .u32 (x:Int) (y:Int)=((Nat.land x y:Nat):Int):=by
 rw [u32_and _ _ (by omega) (by omega) (by omega) (by omega)];simp only [Int.toNat_natCast];rfl
theorem Cj (x:Nat):((Nat.shiftRight x 4:Nat):Int)=(x:Int) / 16:=by
 have:Nat.shiftRight x 4=x / 16:=Nat.shiftRight_eq_div_pow x 4;rw [this];simp
theorem kL (a:Addr) (n:Nat):(a.add n).block=a.block:=by unfold Addr.add;split <;> rfl
theorem o9 (tb:Nat->Nat) (htb:∀ i,tb i<4294967296) (cs:Array Value) (hcs:∀ i,i<16->cs[i]?=some (.int .u32 (tb i:Nat))) (c:Nat) (hc:c<4294967296) (A:Option Addr) (cp:Nat) (l:List Nat) (w:World) (hl:l.length<=1000000) (hb:∀ x∈l,x<256)
 (hr:0<l.length->∃ ad,A=some ad/\ad.block<w.heap.size/\∀ i,i<l.length->w.cell? (ad.add i)=some (.int .u8 (l[i]?.getD 0:Nat))) :
 Calls Tryz.prog 143 #[.agg cs,.int .u32 (c:Nat),.slice A l.length cp] w fun e w'=>e=.returned (.int .u32 (cl tb c l:Nat))/\Below w.heap.size w w':=by
 have HC:=lH hcs;have HTB:=lH htb;have HBY:=lH hb;clear hcs htb hb;go_enter Tryz.func143,Tryz.ntmps143;go_wp2
 go_loopw [1,11] (fun x i wr=>∃ k:Nat,k<=l.length/\i=.int .i64 k/\x=.int .u32 (cl tb c (l.take k):Nat)/\wr.heap[w.heap.size]?=some (.cells cs 249 (0,0))/\Below w.heap.size w wr)
  (fun _ i _=>l.length-(RowKit.intOf i).toNat)
 case atStart=>exact ⟨0,zL _,rfl,rfl,heap_alloc_new _ _,(bR _ _).alloc (nR _) _⟩
 case round =>
  obtain ⟨k,hk,rfl,rfl,hblk,hbel⟩:=hrel
  have HT:Hid (∀ i,i<16->wr.cell? ⟨w.heap.size,i,none⟩=some (.int .u32 (tb i:Nat))):=lH fun i hi=>by rw [cell_of_row _ _ _ _ _ _ hblk];exact HC.out i hi
  have HB:=lH hblk;clear hblk;by_cases hlt:k<l.length
  ·obtain ⟨ad,rfl,hB,hcl⟩:=hr (by omega);have hcell:=(hbel.cell (p:=ad.add k) (by rw [kL];exact hB)).trans (hcl k hlt);clear hcl;have hy:l[k]?.getD 0<256:=HBY.out _ (by simp [hlt]);have hx:cl tb c (l.take k)<4294967296:=rF HTB.out _ _ hc fun y hy=>HBY.out y (List.mem_of_mem_take hy);have HS:=lH (sM tb c l k hlt);clear hr;generalize cl tb c (l.take k)=x at hx HS;generalize l[k]?.getD 0=y at hcell hy HS
   obtain ⟨z1,H1⟩:∃ z,Hid (z=Nat.xor x y):=⟨_,lH rfl⟩
   have e1:bits .xor .u32 (x:Int) (y:Int)=(z1:Int):=by rw [H1.out];exact fh hx (by omega)
   have z1lt:z1<4294967296:=by rw [H1.out];exact gy hx (by omega)
   obtain ⟨i1,I1⟩:∃ z,Hid (z=Nat.land z1 15):=⟨_,lH rfl⟩
   have i1lt:i1<16:=by rw [I1.out];exact o0
   have e2:bits .and .u32 (z1:Int) 15=(i1:Int):=by rw [I1.out];exact jD (y:=15) z1lt (by omega)
   have c1:=HT.out i1 i1lt;have t1lt:=HTB.out i1
   obtain ⟨t1,T1⟩:∃ z,Hid (z=tb i1):=⟨_,lH rfl⟩
   rw [<-T1.out] at c1 t1lt
   obtain ⟨z2,H2⟩:∃ z,Hid (z=Nat.xor (Nat.shiftRight z1 4) t1):=⟨_,lH rfl⟩
   have e3:bits .xor .u32 ((z1:Int) / 16) (t1:Int)=(z2:Int):=by rw [H2.out,<-Cj];exact fh (ff z1lt) t1lt
   have z2lt:z2<4294967296:=by rw [H2.out];exact gy (ff z1lt) t1lt
   obtain ⟨i2,I2⟩:∃ z,Hid (z=Nat.land z2 15):=⟨_,lH rfl⟩
   have i2lt:i2<16:=by rw [I2.out];exact o0
   have e4:bits .and .u32 (z2:Int) 15=(i2:Int):=by rw [I2.out];exact jD (y:=15) z2lt (by omega)
   have c2:=HT.out i2 i2lt;have t2lt:=HTB.out i2
   obtain ⟨t2,T2⟩:∃ z,Hid (z=tb i2):=⟨_,lH rfl⟩
   rw [<-T2.out] at c2 t2lt
   obtain ⟨z3,H3⟩:∃ z,Hid (z=Nat.xor (Nat.shiftRight z2 4) t2):=⟨_,lH rfl⟩
   have e5:bits .xor .u32 ((z2:Int) / 16) (t2:Int)=(z3:Int):=by rw [H3.out,<-Cj];exact fh (ff z2lt) t2lt
   go_wp2
   go_roundw
   case rel =>
    refine ⟨k+1,by omega,by go_num,?_,HB.out,hbel⟩;rw [HS.out,H3.out,T2.out,I2.out,H2.out,T1.out,I1.out,H1.out];rfl
   case measure=>simp [RowKit.intOf];omega
  ·go_wp2;go_ret
   have hkl:k=l.length:=by omega
   exact ⟨by rw [hkl,List.take_length];rfl,hbel⟩
def il:List Value:=[.int .u32 (.ofNat 0),.int .u32 (.ofNat 274646895),.int .u32 (.ofNat 549293790),.int .u32 (.ofNat 820201905),.int .u32 (.ofNat 1098587580),.int .u32 (.ofNat 1361435347),.int .u32 (.ofNat 1640403810),.int .u32 (.ofNat 1905808397),.int .u32 (.ofNat 2197175160),.int .u32 (.ofNat 2460548119),.int .u32 (.ofNat 2722870694),.int .u32 (.ofNat 2987750089),.int .u32 (.ofNat 3280807620),.int .u32 (.ofNat 3553878443),.int .u32 (.ofNat 3811616794),.int .u32 (.ofNat 4084100981)]
theorem oA:∀ i,i<16->il.toArray[i]?=some (.int .u32 (ke i:Nat)):=by
 intro i hi
 match i,hi with
 | 0,_=>rfl
 | 1,_=>rfl
 | 2,_=>rfl
 | 3,_=>rfl
 | 4,_=>rfl
 | 5,_=>rfl
 | 6,_=>rfl
 | 7,_=>rfl
 | 8,_=>rfl
 | 9,_=>rfl
 | 10,_=>rfl
 | 11,_=>rfl
 | 12,_=>rfl
 | 13,_=>rfl
 | 14,_=>rfl
 | 15,_=>rfl
 | k+16,h=>exact absurd h (by omega)
end Go.Proofs.YtgohffhoapkeaaaGreatDoor.Cr
namespace Go.Proofs.YtgohffhoapkeaaaGreatDoor
section
open Go.RowKit
def Ck (c:Nat):Nat:=Nat.xor (Nat.shiftRight c 1) (2197175160*Nat.land c 1)
def xc:Nat->Nat->Nat
 | 0,c=>c
 | m+1,c=>Ck (xc m c)
def ku (k:Nat):List Value:=(List.range 16).map fun j=>if j<k then .int .u32 (Cr.ke j:Nat) else .int .u32 0
theorem El {c:Nat} (h:c<4294967296):Ck c<4294967296:=by
 have h1:Nat.land c 1<=1:=Nat.and_le_right;have h2:Nat.shiftRight c 1=c / 2:=Nat.shiftRight_eq_div_pow c 1;exact Cr.gy (by omega) (by omega)
theorem yX:∀ (m:Nat) {c:Nat},c<4294967296->xc m c<4294967296
 | 0,_,h=>h
 | m+1,_,h=>El (yX m h)
theorem IP:∀ k,k<16->xc 4 k=Cr.ke k:=by decide
theorem Ak {k:Nat} (h:k<16):(ku k).toArray.setIfInBounds k (.int .u32 (Cr.ke k:Nat))=(ku (k+1)).toArray:=by
 rw [List.setIfInBounds_toArray];congr 1;refine List.ext_getElem (by simp [ku]) fun i h1 h2=>?_;rw [List.getElem_set];simp only [ku,List.getElem_map,List.getElem_range]
 split
 ·rename_i e;subst e;rw [if_pos (by omega)]
 ·by_cases h9:i<k
  ·rw [if_pos h9,if_pos (by omega)]
  ·rw [if_neg h9,if_neg (by omega)]
theorem Cl:ku 16=Cr.il:=by
 refine List.ext_getElem (by simp [ku,Cr.il]) fun i h1 h2=>?_
 have hi:i<16:=by simpa [ku] using h1
 have:=Cr.oA i hi;rw [List.getElem?_toArray,gE h2] at this
 injection this with this
 rw [this];simp only [ku,List.getElem_map,List.getElem_range];rw [if_pos hi]
theorem sR {w:World} {g t:Nat} {old cs:Array Value} (h:aa w g t old) (hs:cs.size=old.size):(w.setRow g cs).heap[g]?=some (.cells cs t (0,0)):=by
 have h':w.heap[g]?=some (.cells old t (0,0)):=h;simp only [World.setRow];rw [Array.getElem?_modify,if_pos rfl,h'];rfl
theorem Am (w:World):Calls Tryz.prog 142 #[] w fun e w'=>e=.returned (.agg Cr.il.toArray)/\Below w.heap.size w w':=by
 go_enter Tryz.func142,Tryz.ntmps142;go_wp2
 go_loopw [3] (fun i wr=>∃ k:Nat,k<=16/\i=.int .i64 k/\aa wr w.heap.size 249 (ku k).toArray/\Below w.heap.size w wr) (fun i _=>16-(intOf i).toNat)
 case atStart=>exact ⟨0,zL _,rfl,aa.new _ _ _,(bR _ w).alloc (nR _) _⟩
 case round =>
  obtain ⟨k,hk,rfl,hB,hb⟩:=hrel
  obtain ⟨wo,rfl⟩:∃ wo,wo=wr:=⟨wr,rfl⟩
  have HI:=lH (aI hB hb);clear hB hb;by_cases hlt:k<16
  ·have d1:decide ((k:Int)<16)=true:=dT (by omega);have d2:decide (k<16)=true:=dT hlt
   have a1:IntKind.u32.wrap (k:Int)=(k:Int):=by rw [IntKind.wrap_u32];omega
   go_wp2
   go_loopw [2,8] (fun c j wr=>∃ m:Nat,m<=4/\j=.int .i64 m/\c=.int .u32 (xc m k:Nat)/\wr=wo) (fun _ j _=>4-(intOf j).toNat)
   case atStart=>exact ⟨0,zL _,rfl,rfl,rfl⟩
   case round =>
    obtain ⟨m,hm,rfl,rfl,rfl⟩:=hrel;have hc:=yX m (c:=k) (by omega);have hs:xc (m+1) k=Ck (xc m k):=rfl
    obtain ⟨c,HC⟩:∃ c,Hid (xc m k=c):=⟨_,lH rfl⟩
    rw [HC.out] at hc hs ⊢;by_cases hm4:m<4
    ·have e1:decide ((m:Int)<4)=true:=dT (by omega);have e2:decide (m<4)=true:=dT hm4;have hl1:Nat.land c 1<=1:=Nat.and_le_right;have hsr:Nat.shiftRight c 1=c / 2:=Nat.shiftRight_eq_div_pow c 1
     obtain ⟨b,HB⟩:∃ b,Hid (Nat.land c 1=b):=⟨_,lH rfl⟩
     rw [HB.out] at hl1
     have f1:bits .and .u32 (c:Int) 1=(b:Int):=by rw [<-HB.out];exact Cr.jD hc (by decide)
     have f2:IntKind.u32.wrap (2197175160*(b:Int))=((2197175160*b:Nat):Int):=by rw [IntKind.wrap_u32];omega
     have f3:bits .xor .u32 ((c:Int) / 2) (2197175160*(b:Int))=(Ck c:Int):=by
      have:=Cr.fh (x:=c / 2) (y:=2197175160*b) (by omega) (by omega);unfold Ck;rw [HB.out,hsr];exact this
     go_wp2
     go_roundw
     case rel=>exact ⟨m+1,by omega,by go_num,by rw [hs],by first | rfl | trivial⟩
     case measure=>simp [intOf];omega
    ·have hm5:m=4:=by omega
     subst hm5
     have hck:c=Cr.ke k:=by rw [<-HC.out];exact IP k hlt
     subst hck;obtain ⟨hB,hb⟩:=HI.out
     have c0:wr.cell? ⟨w.heap.size,k,none⟩=some (.int .u32 0):=by
      rw [hB.cell];rw [List.getElem?_toArray];simp [ku,hlt]
     have fz:=hB.frozen k
     have b0:(0:Int)<=(k:Int):=by omega
     go_wp2
     go_roundw
     case rel=>exact ⟨k+1,by omega,by go_num,by rw [<-Ak hlt];exact hB.set_ k _,⟨hb.os,hb.tape,hb.output,by simpa [World.setCell] using hb.size,fun j hj=>(Below.heap_setCell wr ⟨w.heap.size,k,none⟩ _ j (by show j≠w.heap.size;omega)).trans (hb.block j hj)⟩⟩
     case measure=>simp [intOf];omega
  ·obtain rfl:k=16:=by omega
   obtain ⟨hB,hb⟩:=HI.out;rw [Cl] at hB
   go_wp2_with (first
    | (refine wpList_load_row rfl 249 (.tmp 0) rfl w.heap.size rfl _ _ _ _ hB Tryz.underlying249 rfl (by kernel_rfl) ?_)
    | (refine wpList_store_row rfl 249 _ _ rfl w.heap.size _ rfl rfl 249 _ hB (by kernel_rfl) rfl (by simp [Cr.il,Value.oneCell']) ?_))
   refine bodyPost_ret (results_cell_row rfl _ _ w.heap.size 249 _ (0,0) _ rfl (sR hB rfl) Tryz.underlying249 rfl (by kernel_rfl)) rfl ?_
   exact ⟨rfl,hb.trans ⟨rfl,rfl,rfl,by simp [World.setRow],fun j hj=>by
    have:j≠w.heap.size:=by omega
    simp only [World.setRow]
    rw [Array.getElem?_modify,if_neg (fun e=>this e.symm)]⟩⟩
theorem An (tb:Nat->Nat) (c:Nat) (l m:List Nat):Cr.cl tb c (l++m)=Cr.cl tb (Cr.cl tb c l) m:=by unfold Cr.cl;rw [List.foldl_append]
def uU (b:List UInt8):Nat:=Cr.cl Cr.ke 4294967295 (b.map UInt8.toNat)
theorem yY (b:List UInt8):uU b<4294967296:=Cr.rF Cr.oz _ _ (by decide) (fun x hx=>by
 obtain ⟨c,_,rfl⟩:=List.mem_map.1 hx;have:=c.toNat_lt
 omega)
theorem uV (l m:List UInt8):uU (l++m)=Cr.cl Cr.ke (uU l) (m.map UInt8.toNat):=by unfold uU;rw [List.map_append,An]
theorem Em {B:Nat} (c:Nat) (hc:c<4294967296) (A:Option Addr) (cp:Nat) (b:List UInt8) (w:World) (hl:b.length<=1000000) (hr:Reads w B 1 A b.length (bl b)) (hB:B<=w.heap.size) :
 Calls Tryz.prog 143 #[.agg Cr.il.toArray,.int .u32 (c:Nat),.slice A b.length cp] w fun e w'=>e=.returned (.int .u32 (Cr.cl Cr.ke c (b.map UInt8.toNat):Nat))/\Below w.heap.size w w':=by
 have h:=Cr.o9 Cr.ke Cr.oz Cr.il.toArray Cr.oA c hc A cp (b.map UInt8.toNat) w (by simpa using hl) (fun x hx=>by
  obtain ⟨c,_,rfl⟩:=List.mem_map.1 hx;have:=c.toNat_lt
  omega) (fun h0=>by
  rw [List.length_map] at h0;obtain ⟨a,e,h1,h2⟩:=hr.2 h0;refine ⟨a,e,by omega,fun i hi=>?_⟩;rw [List.length_map] at hi;have:=h2 i (.int .u8 ((b[i].toNat:Nat):Int)) (by unfold bl;rw [List.getElem?_map,gE hi];rfl);rw [this]
  simp [hi])
 rw [List.length_map] at h;exact h
theorem En {x:Nat} (hx:x<4294967296):bits .xor .u32 IntKind.u32.max (x:Int)=((4294967295-x:Nat):Int):=by
 have e:IntKind.u32.max=((4294967295:Nat):Int):=by decide
 rw [e,Cr.fh (by omega) hx];congr 1
 have h1:(BitVec.allOnes 32 ^^^ BitVec.ofNat 32 x).toNat=(~~~ BitVec.ofNat 32 x).toNat:=by rw [BitVec.allOnes_xor]
 rw [BitVec.toNat_xor,BitVec.toNat_not,BitVec.toNat_allOnes,BitVec.toNat_ofNat,Nat.mod_eq_of_lt (by omega)] at h1;exact h1
theorem yZ {B:Nat} (g cap:Nat) (ps:List Pt) (w:World) (hB:B<=w.heap.size) (hg:∀ k p,ps[k]?=some p->w.cell? ⟨g,k,none⟩=some p.val) (hr:∀ p∈ps,Reads w B 1 p.A p.b.length (bl p.b)) (hs:(fA ps).length<=1000000) (hl:ps.length<=100) :
 Calls Tryz.prog 109 #[.slice (some ⟨g,0,none⟩) ps.length cap] w fun e w'=>e=.returned (.int .u32 (kI (fA ps):Nat))/\Below w.heap.size w w':=by
 have HP:=lH (aI hg hr);have hst:=fun W=>run_storeCells_new (P:=Tryz.prog) W 249 (Array.replicate 16 (.int .u32 0)) Cr.il.toArray (by kernel_rfl) rfl (by simp [Cr.il,Value.oneCell']);simp only [show (Array.replicate 16 (Value.int .u32 0))=#[.int .u32 0,.int .u32 0,.int .u32 0,.int .u32 0,.int .u32 0,.int .u32 0,.int .u32 0,.int .u32 0,.int .u32 0,.int .u32 0,.int .u32 0,.int .u32 0,.int .u32 0,.int .u32 0,.int .u32 0,.int .u32 0] from rfl] at hst;clear hg hr;go_enter Tryz.func109,Tryz.ntmps109
 go_wp2_with (go_at_call 142;refine (Am _).mono ?_;rintro e w1 ⟨rfl,hb1⟩)
 clear hst
 go_loopw [4,10] (fun c i wr=>∃ k:Nat,k<=ps.length/\i=.int .i64 k/\c=.int .u32 (uU (fA (ps.take k)):Nat)/\aa wr w1.heap.size 249 Cr.il.toArray/\Below w.heap.size w wr) (fun _ i _=>ps.length-(intOf i).toNat)
 case atStart=>exact ⟨0,zL _,rfl,rfl,aa.new _ _ _,hb1.alloc hb1.size _⟩
 case round =>
  obtain ⟨k,hk,rfl,rfl,hB2,hb⟩:=hrel;have hle:=dH ps k
  obtain ⟨wo,rfl⟩:∃ wo,wo=wr:=⟨wr,rfl⟩
  by_cases hlt:k<ps.length
  ·have d1:decide (k<ps.length)=true:=dT hlt
   obtain ⟨p,hp⟩:∃ p,ps[k]?=some p:=⟨_,gE hlt⟩
   have hc:=HP.out.1 k p hp;have hgl:g<w.heap.size:=World.block_lt_of_cell? w _ hc;have hc2:wo.cell? ⟨g,k,none⟩=some p.val:=(hb.cell (p:=⟨g,k,none⟩) hgl).trans hc;have hrd:=(HP.out.2 p (mG hp)).below (hb.mono hB);have hle2:=dH ps (k+1);have hsc:=gB hp;rw [hsc,lQ] at hle2;have hx:=yY (fA (ps.take k));have HS:=lH hsc;have HB2:=lH hB2
   obtain ⟨x,HX⟩:∃ x,Hid (uU (fA (ps.take k))=x):=⟨_,lH rfl⟩
   rw [HX.out] at hx ⊢;have hO:=Em (B:=B) x hx p.A p.c p.b wo (by omega) hrd (nT hB hb.size);unfold Pt.val at hc2;clear hsc hc hp hB2
   go_wp2_with (first | (refine wpList_load_row rfl 249 (.tmp 3) rfl w1.heap.size rfl _ _ _ _ HB2.out Tryz.underlying249 rfl (by kernel_rfl) ?_) | (go_at_call 143;refine hO.mono ?_;rintro e w2 ⟨rfl,hb2⟩))
   go_roundw
   case rel=>exact ⟨k+1,by omega,by go_num,by rw [HS.out,uV,HX.out],aa.below HB2.out hb2 (aS.1 HB2.out).1,hb.trans (hb2.mono hb.size)⟩
   case measure=>simp [intOf];omega
  ·have d1:decide (k<ps.length)=false:=dF hlt
   obtain rfl:k=ps.length:=by omega
   rw [List.take_length];have hx:=yY (fA ps)
   obtain ⟨x,HX⟩:∃ x,Hid (uU (fA ps)=x):=⟨_,lH rfl⟩
   rw [HX.out] at hx ⊢;have hn:=En hx;go_wp2;go_ret;refine ⟨?_,hb⟩;unfold kI;have e:=HX.out;unfold uU at e;rw [e];rfl
theorem rB {w:World} {g n:Nat} {t:TypeId} {b:List UInt8} (h:aa w g t (bl b).toArray) (hn:b.length=n):Reads w w.heap.size 1 (some ⟨g,0,none⟩) n (bl b):=by
 subst hn;refine ⟨by rw [aF];omega,fun h0=>⟨_,rfl,h.lt,fun j u hu=>?_⟩⟩;rw [show (⟨g,0,none⟩:Addr).add j=⟨g,j,none⟩ by unfold Addr.add;split <;> simp_all,h.cell]
 simpa using hu
theorem y4 {B:Nat} {w:World} {A:Option Addr} {c:Nat} {b:List UInt8} (t:TypeId) (hr:Reads w B 1 A b.length (bl b)) (hB:B<=w.heap.size) :
 (∀ k p,[(⟨A,c,b⟩:Pt)][k]?=some p->(w.alloc (.cells #[.slice A b.length c] t)).cell? ⟨w.heap.size,k,none⟩=some p.val)/\∀ p∈[(⟨A,c,b⟩:Pt)],Reads (w.alloc (.cells #[.slice A b.length c] t)) B 1 p.A p.b.length (bl p.b):=by
 constructor
 ·intro k p hk;have hbk:=aa.new w t #[.slice A b.length c];rw [hbk.cell]
  rcases k with _ | k
  ·cases hk;rfl
  ·simp at hk
 ·intro p hp;simp only [List.mem_singleton] at hp;subst hp;exact hr.alloc hB _
theorem xd {B:Nat} (A:Option Addr) (c:Nat) (b:List UInt8) (w:World) (hB:B<=w.heap.size) (hr:Reads w B 1 A b.length (bl b)) (hs:b.length<=900000) :
 Calls Tryz.prog 125 #[.slice A b.length c] w fun e w'=>∃ v,e=.returned v/\w'.ownsRow w.heap.size 5 1 v (qZ b).length (bl (qZ b))/\Below w.heap.size w w':=by
 have h1:=y4 (c:=c) 23 hr hB;have hS:=yZ (B:=B) w.heap.size 1 [⟨A,c,b⟩] (w.alloc (.cells #[.slice A b.length c] 23)) (by simp;omega) h1.1 h1.2 (by simpa [fA] using (by omega:b.length<=1000000)) (by simp)
 have hcat:fA [(⟨A,c,b⟩:Pt)]=b:=by simp [fA]
 rw [hcat] at hS;have hlt:=yV b
 have hwu:IntKind.u64.wrap (kI b:Int)=(kI b:Int):=by rw [IntKind.wrap_u64];omega
 clear h1 hcat;go_enter Tryz.func125,Tryz.ntmps125
 go_wp2_with fail
 go_at_call 109
 refine hS.mono ?_;rintro e w1 ⟨rfl,hb1⟩;have hb1':Below w.heap.size w w1:=((bR _ w).alloc (nR _) _).trans (hb1.mono (by simp))
 go_wp2_with fail
 go_at_call 115
 refine (ea (kI b) 4 (by omega) (by omega) (by omega) w1).mono ?_;rintro e w2 ⟨g,rfl,hg,hB2,hb2⟩;have hb12:=hb1'.trans (hb2.mono hb1'.size);have hr2:=rB hB2 (fL 4 _)
 have hC:=ik (B:=w2.heap.size) w2.heap.size 2 [⟨A,c,b⟩,⟨some ⟨g,0,none⟩,4,ag 4 (kI b)⟩] (w2.alloc (.cells #[.slice A b.length c,.slice (some ⟨g,0,none⟩) 4 4] 23)) (by simp) (fun k p hk=>by
  have hbk:=aa.new w2 23 #[.slice A b.length c,.slice (some ⟨g,0,none⟩) 4 4];rw [hbk.cell]
  rcases k with _ | _ | k
  ·cases hk;rfl
  ·cases hk;simp [Pt.val,fL]
  ·simp at hk) (fun p hp=>by
  simp only [List.mem_cons,List.not_mem_nil,or_false] at hp
  rcases hp with rfl | rfl
  ·exact (rM (hr.below (hb12.mono hB)) (nT hB hb12.size)).alloc (nR _) _
  ·rw [fL]
   exact hr2.alloc (nR _) _) (by simp [fA,fL];omega) (by simp)
 have hcat:fA [(⟨A,c,b⟩:Pt),⟨some ⟨g,0,none⟩,4,ag 4 (kI b)⟩]=qZ b:=by simp [fA,qZ]
 rw [hcat] at hC;clear hcat hB2 hr2 hwu
 go_wp2_with fail
 go_at_call 147
 refine hC.mono ?_;rintro e w3 ⟨v,rfl,ho,hb3⟩;obtain ⟨A3,c3,rfl⟩:=bw ho;go_wp2;go_ret;exact ⟨_,rfl,cj ho (by simp;have:=hb12.size;omega),hb12.trans (((bR _ w2).alloc (nR _) _).trans (hb3.mono (by simp)) |>.mono hb12.size)⟩
theorem bX {B:Nat} {w:World} {a:Addr} {b:List UInt8} {m n:Nat} (h:Reads w B 1 (some a) b.length (bl b)) (hn:m+n=b.length):Reads w B 1 (some (a.add m)) n (bl (b.drop m)):=by
 refine ⟨by rw [aF,lD];omega,fun h0=>?_⟩;obtain ⟨a',e,h1,h2⟩:=h.2 (by omega)
 cases e
 refine ⟨_,rfl,by rw [bV];exact h1,fun j x hj=>?_⟩;rw [oU];refine h2 _ x ?_;unfold bl at hj ⊢;rw [List.getElem?_map] at hj ⊢
 rwa [List.getElem?_drop] at hj
def rJ (m:Nat) (b:List UInt8):Bool:=decide (kI (b.take m)=aC (b.drop m))
theorem kM {m:Nat} {b:List UInt8} (h:b.length=m+4):eW b=rJ m b:=by
 unfold eW rJ;rw [h,show m+4-4=m by omega];simp
theorem im {B:Nat} (a:Addr) (m c:Nat) (b:List UInt8) (w:World) (hB:B<=w.heap.size) (hr:Reads w B 1 (some a) b.length (bl b)) (hm:b.length=m+4) (hc:m+4<=c) (hs:m<=900000) :
 Calls Tryz.prog 75 #[.slice (some a) (m+4) c] w fun e w' =>
  (rJ m b=true->∃ v,e=.returned (.tuple #[v,.bool true])/\w'.ownsRow w.heap.size 5 1 v m (bl (b.take m))) /\
  (rJ m b=false->e=.returned (.tuple #[.slice none 0 0,.bool false]))/\Below w.heap.size w w':=by
 have hlt:(b.take m).length=m:=by rw [lK];omega
 have hrt:Reads w B 1 (some a) (b.take m).length (bl (b.take m)):=by rw [hlt];exact bF hr (by omega)
 have hrd:Reads w B 1 (some (a.add m)) (b.drop m).length (bl (b.drop m)):=by
  have h4:(b.drop m).length=4:=by rw [lD];omega
  rw [h4];exact bX hr (by omega)
 have h4:(b.drop m).length=4:=by rw [lD];omega
 have hwd:Below w.heap.size w w.drew:=(bR _ w).drew;have h1:=y4 (w:=w.drew) (c:=c) 23 (hrt.below (hwd.mono hB)) hB;have hS:=yZ (B:=B) w.heap.size 1 [⟨some a,c,b.take m⟩] (w.drew.alloc (.cells #[.slice (some a) (b.take m).length c] 23)) (by simp;omega) h1.1 h1.2 (by simp [fA];omega) (by simp)
 have hcat:fA [(⟨some a,c,b.take m⟩:Pt)]=b.take m:=by simp [fA]
 rw [hcat,hlt] at hS;have hcl:=yV (b.take m)
 have hwu:IntKind.u64.wrap (kI (b.take m):Int)=(kI (b.take m):Int):=by rw [IntKind.wrap_u64];omega
 have hN:=fun (W:World) (hW:Below w.heap.size w W)=>dB (B:=B) (some (a.add m)) (c-m) (b.drop m) W (hrd.below (hW.mono hB)) (by omega);rw [h4] at hN
 have b0:¬ ((m:Int)+4-4<0):=by omega
 have b1:¬ ((m:Int)<0):=by omega
 have i0:(0:Int)<=(m:Int):=by omega
 have i1:m<=c:=by omega
 have i3:(m:Int)<=(m:Int)+4:=by omega
 simp only [List.length_singleton] at hS
 have i2:¬ (c=m):=by omega
 have HM:=lH hm;have HR:=lH (aI hrt hrd);clear h1 hcat hlt hm hr h4 hrt hrd
 obtain ⟨x,HX⟩:∃ x,Hid (kI (b.take m)=x):=⟨_,lH rfl⟩
 obtain ⟨y,HY⟩:∃ y,Hid (aC (b.drop m)=y):=⟨_,lH rfl⟩
 have hso:rJ m b=decide (x=y):=by unfold rJ;rw [HX.out,HY.out]
 rw [HX.out] at hS hcl hwu;rw [HY.out] at hN;rw [hso];clear hso;by_cases hxy:x=y
 ·have d2:decide (x=y)=true:=dT hxy;subst hxy
  have d1:(IntKind.u64.wrap (x:Int) != (x:Int))=false:=by rw [hwu];simp
  have d3:((x:Int) != (x:Int))=false:=by simp
  rw [d2];clear d2;go_enter Tryz.func75,Tryz.ntmps75;go_wp2;refine bB 14 (fun _=>True) (trivial) (fun hHeld hTl=>?_);refine ae 0 hTl hHeld (fun hTl=>?_)
  try simp only [pT]
  refine ae 1 hTl hHeld (fun hTl=>?_)
  try simp only [pT]
  refine ae 2 hTl hHeld (fun hTl=>?_)
  try simp only [pT]
  refine ae 3 hTl hHeld (fun hTl=>?_)
  try simp only [pT]
  refine ae 4 hTl hHeld (fun hTl=>?_)
  try simp only [pT]
  refine ae 5 hTl hHeld (fun hTl=>?_)
  try simp only [pT]
  refine ae 9 hTl hHeld (fun hTl=>?_)
  try simp only [pT]
  refine ae 10 hTl hHeld (fun hTl=>?_)
  try simp only [pT]
  refine ae 11 hTl hHeld (fun hTl=>?_)
  try simp only [pT]
  have hTl2:=hTl.step 6 (by kernel_rfl) (by decide);clear hTl;refine aA 6 (fun K hK=>?_);go_simp;refine hK.out _ _ (fun _=>trivial) ?_;clear hK K
  try simp only [pT]
  have hTl:=hTl2;clear hTl2;have hTl2:=hTl.step 7 (by kernel_rfl) (by decide);clear hTl;refine aA 7 (fun K hK=>?_);refine ij (by rfl) 109 _ (by go_simp) hS ?_
  rintro e w1 ⟨rfl,hb1⟩;refine ⟨_,rfl,?_⟩;have hb1':Below w.heap.size w w1:=(hwd.alloc (nR _) _).trans (hb1.mono (by simp))
  refine hK.out _ _ (fun _=>trivial) ?_;clear hK K
  try simp only [pT]
  have hTl:=hTl2;clear hTl2;refine ae 8 hTl hHeld (fun hTl=>?_)
  try simp only [pT]
  have hTl2:=hTl.step 12 (by kernel_rfl) (by decide);clear hTl;refine aA 12 (fun K hK=>?_);refine ij (by rfl) 77 _ (by go_simp) (hN _ hb1') ?_;rintro e w2 ⟨rfl,rfl⟩;refine ⟨_,rfl,?_⟩;refine hK.out _ _ (fun _=>trivial) ?_;clear hK K
  try simp only [pT]
  have hTl:=hTl2;clear hTl2;have hTl2:=hTl.step 13 (by kernel_rfl) (by decide);clear hTl;refine aA 13 (fun K hK=>?_);go_simp;refine hK.out _ _ (fun _=>trivial) ?_;clear hK K
  try simp only [pT]
  have hTl:=hTl2;clear hTl2;clear hTl;refine az 14 (fun K hK=>?_);go_simp;refine hK.out _ _ ?_;clear hK K
  try simp only [pT]
  refine cW ?_ _;have hrt:=HR.out.1.below (hb1'.mono hB);rw [show (b.take m).length=m by rw [lK];have:=HM.out;omega] at hrt;have hCl:=eI a c (bl (b.take m)) (gA _) w1 hrt (nT hB hb1'.size) (by omega);clear hrt hS hN
  go_wp2_with (go_at_call 79;refine hCl.mono ?_;rintro e w2 ⟨A2,c2,rfl,ho2,hb2⟩)
  go_ret2;exact ⟨fun _=>⟨_,rfl,cj ho2 hb1'.size⟩,fun h=>absurd h (by simp),hb1'.trans (hb2.mono hb1'.size)⟩
 ·have d1:(IntKind.u64.wrap (x:Int) != (y:Int))=true:=by rw [hwu];simpa using fun h=>hxy (by omega)
  have d3:((x:Int) != (y:Int))=true:=by simpa using fun h=>hxy (by omega)
  have d2:decide (x=y)=false:=dF hxy;rw [d2];clear d2;go_enter Tryz.func75,Tryz.ntmps75;go_wp2;refine bB 14 (fun _=>True) (trivial) (fun hHeld hTl=>?_);refine ae 0 hTl hHeld (fun hTl=>?_)
  try simp only [pT]
  refine ae 1 hTl hHeld (fun hTl=>?_)
  try simp only [pT]
  refine ae 2 hTl hHeld (fun hTl=>?_)
  try simp only [pT]
  refine ae 3 hTl hHeld (fun hTl=>?_)
  try simp only [pT]
  refine ae 4 hTl hHeld (fun hTl=>?_)
  try simp only [pT]
  refine ae 5 hTl hHeld (fun hTl=>?_)
  try simp only [pT]
  refine ae 9 hTl hHeld (fun hTl=>?_)
  try simp only [pT]
  refine ae 10 hTl hHeld (fun hTl=>?_)
  try simp only [pT]
  refine ae 11 hTl hHeld (fun hTl=>?_)
  try simp only [pT]
  have hTl2:=hTl.step 6 (by kernel_rfl) (by decide);clear hTl;refine aA 6 (fun K hK=>?_);go_simp;refine hK.out _ _ (fun _=>trivial) ?_;clear hK K
  try simp only [pT]
  have hTl:=hTl2;clear hTl2;have hTl2:=hTl.step 7 (by kernel_rfl) (by decide);clear hTl;refine aA 7 (fun K hK=>?_);refine ij (by rfl) 109 _ (by go_simp) hS ?_
  rintro e w1 ⟨rfl,hb1⟩;refine ⟨_,rfl,?_⟩;have hb1':Below w.heap.size w w1:=(hwd.alloc (nR _) _).trans (hb1.mono (by simp))
  refine hK.out _ _ (fun _=>trivial) ?_;clear hK K
  try simp only [pT]
  have hTl:=hTl2;clear hTl2;refine ae 8 hTl hHeld (fun hTl=>?_)
  try simp only [pT]
  have hTl2:=hTl.step 12 (by kernel_rfl) (by decide);clear hTl;refine aA 12 (fun K hK=>?_);refine ij (by rfl) 77 _ (by go_simp) (hN _ hb1') ?_;rintro e w2 ⟨rfl,rfl⟩;refine ⟨_,rfl,?_⟩;refine hK.out _ _ (fun _=>trivial) ?_;clear hK K
  try simp only [pT]
  have hTl:=hTl2;clear hTl2;have hTl2:=hTl.step 13 (by kernel_rfl) (by decide);clear hTl;refine aA 13 (fun K hK=>?_);go_simp;refine hK.out _ _ (fun _=>trivial) ?_;clear hK K
  try simp only [pT]
  have hTl:=hTl2;clear hTl2;clear hTl;refine az 14 (fun K hK=>?_);go_simp;refine hK.out _ _ ?_;clear hK K
  try simp only [pT]
  refine cW ?_ _;clear hS hN;go_wp2;go_ret2;exact ⟨fun h=>absurd h (by simp),fun _=>rfl,hb1'⟩
end
end Go.Proofs.YtgohffhoapkeaaaGreatDoor
