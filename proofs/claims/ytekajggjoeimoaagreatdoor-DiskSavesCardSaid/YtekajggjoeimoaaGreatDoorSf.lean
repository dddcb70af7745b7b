/- A part of the proof of DiskSaves. No condition of its own. -/
import Derived.Test.YtekajggjoeimoaaGreatDoorSe
import Derived.WalkKit
import Derived.BigQuiet
import Derived.Deep.RegionLaw
import Derived.Deep.RegionHeld3
import Derived.Lib.SliceRun
import Derived.LaidEqlPtr
set_option linter.unusedVariables false
namespace Go.Proofs.YtekajggjoeimoaaGreatDoor
section
open Go.RowKit
open Ev (ev CX spClone AS AObj st1 m1 c3 noCnv VRel LRel Hands hBase cxOK globT)
namespace Da
def no (_:Nat):Bool:=false
noncomputable def C0:Ev.Ctx:=CX [(100,spClone)] [] [] noCnv no
noncomputable def isMapR (r:Option (Value × AS)):Bool:=match r with
 | some (.map (some _),s)=>match s.h.get 0 with
  | some (.map [] 0)=>true
  | _=>false
 | _=>false
def isInt (k:Int) (r:Option (Value × AS)):Bool:=match r with
 | some (.int .i64 n,_)=>decide (n=k)
 | _=>false
def opS:ByteArray:=⟨#[115,121,110,99,100,105,114]⟩
noncomputable def flt (k:Int):AObj:=.cells ⟨c3 (.string opS) (.string ⟨#[]⟩) (.iface 59 (.int .i64 k)),3,77,1,false,false⟩
def tArgs:List Value:=[.iface 73 (.pointer (some ⟨0,0,none⟩)),.string opS,.string ⟨#[]⟩]
set_option maxRecDepth 1000000
theorem live_run:isTr ((ev C0 10000).f 8 [] ⟨0,.leaf⟩)=true:=by kernel_rfl
end Da
open Da
def om0:Nat→Value:=fun k=>.pointer (some ⟨1,k-hBase,none⟩)
theorem hands0:Hands om0:=fun t=>by
 show Value.pointer (some ⟨1,hBase+t-hBase,none⟩)=_
 rw [Nat.add_sub_cancel_left]
theorem spClone_sp {ω:Nat→Value} {C:Ev.Ctx} (hP:C.P=Tryz.prog):Ev.SpOK ω C 100 spClone:=by
 intro vs s v s' hv B X m w args hs hr hB
 exact Ev.ext_ok hP Go.Extern.MapsClone.clone Tryz.func100 (by kernel_rfl) (by kernel_rfl) (by kernel_rfl) (by kernel_rfl) (Ev.clone_ok hB.le hs hr hv)
theorem c0OK:Ev.COK om0 C0:=cxOK hands0 (fun p hp C hP _=>by obtain rfl:=List.mem_singleton.1 hp;exact spClone_sp hP) (fun f hf=>by cases hf) (fun f hf=>by cases hf) Ev.noCnv_ok no
def GlobAt (w:World):Prop:=w.cell? ⟨0,0,none⟩=some (.iface 184 (.agg #[.pointer (some ⟨1,27,none⟩)]))
theorem live_any {w:World} (hg:GlobAt w):Calls Tryz.prog 8 #[] w fun e w'=>e=.returned (.bool true)∧Below w.heap.size w w':=by
 obtain ⟨s',hs'⟩:=isTr_some live_run
 exact Ev.run_args c0OK hs' (LRel.nil _) rfl rfl w (glob_of hands0 hg) (fun k h=>by cases h) (fun g cs h=>by cases h)
end
section
open Go.RowKit
open Da
def dcells (room:Int) (sf nw ch wr:Value) (armed:Bool) (after code:Int):Array Value:=#[.int .i64 room,sf,nw,ch,wr,.bool armed,.int .i64 after,.int .i64 code]
section
variable {w:World} {db:Nat} {room after code:Int} {sf nw ch wrs:Value}
set_option maxHeartbeats 1000000 in
set_option maxRecDepth 100000 in
theorem refuses_off (h:Blk w db 66 (dcells room sf nw ch wrs false after code)) :
 Calls Tryz.prog 70 #[.pointer (some ⟨db,0,none⟩)] w fun e w'=>e=.returned (.int .i64 0)∧w=w':=by
 have c5:w.cell? ⟨db,5,none⟩=some (.bool false):=h.cell 5
 go_enter Tryz.func70,Tryz.ntmps70
 go_wp2
 go_ret
 exact ⟨rfl,rfl⟩
end
set_option maxHeartbeats 1000000 in
set_option maxRecDepth 100000 in
theorem fault_ok (w:World) (op nm:ByteArray):Calls Tryz.prog 29 #[.string op,.string nm,.int .i64 0] w fun e w'=>e=.returned .nilIface∧w=w':=by
 go_enter Tryz.func29,Tryz.ntmps29
 go_wp2
 go_ret
 exact ⟨rfl,rfl⟩
set_option maxHeartbeats 1000000 in
set_option maxRecDepth 100000 in
theorem fault_err (w:World) (op nm:ByteArray) (k:Int) (hk:(k==0)=false):Calls Tryz.prog 29 #[.string op,.string nm,.int .i64 k] w fun e w'=>e=.returned (.iface 73 (.pointer (some ⟨w.heap.size,0,none⟩)))∧w'=w.alloc (.cells #[.string op,.string nm,.iface 59 (.int .i64 k)] 77):=by
 go_enter Tryz.func29,Tryz.ntmps29
 go_wp2
 go_ret
 exact ⟨rfl,rfl⟩
def DiskAt (B:Nat) (w:World) (db:Nat) (armed:Bool) (after code:Int):Prop :=
 B≤db∧∃ M room sf ch wrs,B≤M∧w.heap[M]?=some (.map #[] 0)∧Blk w db 66 (dcells room sf (.map (some M)) ch wrs armed after code)
section
variable {w:World} {B db M:Nat} {room after code after' code':Int} {armed armed':Bool} {sf nw ch wrs:Value}
end
end
section
open Go.RowKit
open Da
def isArmed (after code:Int):Bool:=decide (0≤after) && (code==41 || code==42)
end
section
open Go.RowKit
theorem ba_beq (a b:ByteArray):(a==b)=decide (a=b):=by
 cases a with | mk a=>cases b with | mk b =>
 show (a==b)=_
 by_cases h:a=b
 ·subst h;simp
 ·rw [decide_eq_false (fun e=>h (ByteArray.mk.inj e))]
  exact beq_eq_false_iff_ne.2 h
structure DE where
 nm:ByteArray
 f:Nat
 born:Nat
def DE.val (x:DE):Value:=.pointer (some ⟨x.f,0,none⟩)
def DE.ent (x:DE):MapEntry:={key:=.string x.nm,val:=x.val,born:=x.born}
def look (id:ByteArray):List DE→Nat→Option (Nat × DE)
 | [],_=>none
 | x::l,i=>if x.nm=id then some (i,x) else look id l (i+1)
theorem find_look (id:ByteArray):∀ (l:List DE) (i:Nat),Instr.findNow .string (.string id) (l.map DE.ent) i=some ((look id l i).map fun r=>(r.1,r.2.val))
 | [],i=>rfl
 | x::l,i=>by
  simp only [List.map_cons,Instr.findNow,DE.ent,Instr.sameNow,look]
  by_cases h:x.nm=id
  ·subst h;simp [ba_beq]
  ·have h':(id==x.nm)=false:=by rw [ba_beq];exact decide_eq_false (fun e=>h e.symm)
   rw [h',if_neg h]
   exact find_look id l (i+1)
theorem look_spec (id:ByteArray):∀ (l:List DE) (i j:Nat) (x:DE),look id l i=some (j,x)→i≤j∧l[j-i]?=some x∧x.nm=id
 | [],i,j,x,h=>by cases h
 | y::l,i,j,x,h=>by
  unfold look at h
  by_cases e:y.nm=id
  ·rw [if_pos e] at h;cases h;exact ⟨Nat.le_refl _,by simp,e⟩
  ·rw [if_neg e] at h
   obtain ⟨h1,h2,h3⟩:=look_spec id l (i+1) j x h
   refine ⟨by omega,?_,h3⟩
   rw [show j-i=(j-(i+1))+1 by omega,List.getElem?_cons_succ]
   exact h2
theorem map_erase {α β:Type} (f:α→β):∀ (l:List α) (j:Nat),(l.map f).eraseIdx j=(l.eraseIdx j).map f
 | [],_=>rfl
 | _::_,0=>rfl
 | a::l,j+1=>by simp [map_erase f l j]
theorem zeroPk (w:World):(zeroValue 98).run Tryz.prog w=.ok (.pointer none) w:=by kernel_rfl
theorem getMap {P:Program} {w:World} {r:Nat} {es:Array MapEntry} {clock:Nat} (h:w.heap[r]?=some (.map es clock)):(getObj r).run P w=.ok (.map es clock) w:=by
 simp [getObj,Sem.run,h]
structure MapTo (w w1:World) (M:Nat) (es:Array MapEntry) (clock:Nat):Prop where
 map:w1.heap[M]?=some (.map es clock)
 os:w1.os=w.os
 tape:w1.tape=w.tape
 output:w1.output=w.output
 size:w1.heap.size=w.heap.size
 block:∀ k,k≠M→w1.heap[k]?=w.heap[k]?
theorem MapTo.fr {w w1:World} {M:Nat} {es:Array MapEntry} {clock:Nat} (h:MapTo w w1 M es clock):Fr (·=M) w w1:=⟨h.os,h.tape,h.output,by rw [h.size];exact Nat.le_refl _,fun k _ hx=>h.block k hx⟩
theorem MapTo.frX {X:Nat→Prop} {a w w1:World} {M:Nat} {es:Array MapEntry} {clock:Nat} (h:MapTo w w1 M es clock) (hf:Fr X a w) (hX:a.heap.size≤M∨X M):Fr X a w1 :=
 ⟨h.os.trans hf.os,h.tape.trans hf.tape,h.output.trans hf.output,by rw [h.size];exact hf.size,fun k hk hx=>(h.block k (fun e=>by subst e;rcases hX with h1 | h1;omega;exact hx h1)).trans (hf.block k hk hx)⟩
theorem MapTo.cell {w w1:World} {M:Nat} {es:Array MapEntry} {clock:Nat} (h:MapTo w w1 M es clock) {b o:Nat} (hb:b≠M):w1.cell? ⟨b,o,none⟩=w.cell? ⟨b,o,none⟩:=World.cell?_of_block (w:=w) (h.block b hb)
theorem setMap {P:Program} {w:World} {r:Nat} {es es':Array MapEntry} {clock clock':Nat} (h:w.heap[r]?=some (.map es clock)):∃ w1,(setObj r (.map es' clock')).run P w=.ok () w1∧MapTo w w1 r es' clock':=by
 have hlt:=(Array.getElem?_eq_some_iff.1 h).1
 refine ⟨{w with heap:=w.heap.setIfInBounds r (.map es' clock')},by simp [setObj,Sem.run,h],?_,rfl,rfl,rfl,by simp,fun k hk=>?_⟩
 ·simp [hlt]
 ·exact Array.getElem?_setIfInBounds_ne (Ne.symm hk)
theorem chk (b:Bool) (id:ByteArray) (w:World):(Instr.checkKey b 10000 9 (.string id)).run Tryz.prog w=.ok () w:=by
 have:∀ q,(Instr.checkKey b (q+1) 9 (.string id)).run Tryz.prog w=.ok () w:=fun q=>by
  simp [Instr.checkKey,run_underlying Tryz.underlying9]
 exact this 9999
section
variable {w:World} {ops:Array Oper} {rest:List Oper} {o:Oper} {a:Act} {Q:Exit→Act→World→Prop} {M:Nat} {id:ByteArray} {l:List DE} {clock:Nat}
theorem run_look (hM:w.heap[M]?=some (.map (l.map DE.ent).toArray clock)) (ok:Bool) :
 (Instr.lookup 62 (.map (some M)) (.string id) ok).run Tryz.prog w=.ok (match look id l 0 with
  | some r=>if ok then .tuple #[r.2.val,.bool true] else r.2.val
  | none=>if ok then .tuple #[.pointer none,.bool false] else .pointer none) w:=by
 have hf:=find_look id l 0
 cases hl:look id l 0 with
 | none =>
  rw [hl] at hf
  simp [Instr.lookup,run_underlying Tryz.underlying62,getMap hM,chk,Instr.findKey,run_underlying Tryz.underlying9,hf,zeroPk,Result.andThen]
 | some r =>
  rw [hl] at hf
  simp [Instr.lookup,run_underlying Tryz.underlying62,getMap hM,chk,Instr.findKey,run_underlying Tryz.underlying9,hf,Result.andThen]
theorem wpList_look_some (hg:o.guard=none) (m x:Operand) (hop:o.op=Op.lookup 62 m x true) (hm:a.eval m=.map (some M)) (hx:a.eval x=.string id)
 (hM:w.heap[M]?=some (.map (l.map DE.ent).toArray clock)) {j:Nat} {y:DE} (hl:look id l 0=some (j,y))
 (hK:wpList Tryz.prog ops Q rest (a.put o.dst (.tuple #[.pointer (some ⟨y.f,0,none⟩),.bool true])) w):wpList Tryz.prog ops Q (o::rest) a w:=by
 refine wpList_plain hg fun K' hK'=>?_
 have hrun:=run_look (id:=id) hM true
 rw [hl] at hrun
 unfold Oper.wp
 simp [execOp,hop,hm,hx,hrun,Result.andThen]
 exact hK' _ _ hK
theorem wpList_look_none (hg:o.guard=none) (m x:Operand) (hop:o.op=Op.lookup 62 m x true) (hm:a.eval m=.map (some M)) (hx:a.eval x=.string id)
 (hM:w.heap[M]?=some (.map (l.map DE.ent).toArray clock)) (hl:look id l 0=none)
 (hK:wpList Tryz.prog ops Q rest (a.put o.dst (.tuple #[.pointer none,.bool false])) w):wpList Tryz.prog ops Q (o::rest) a w:=by
 refine wpList_plain hg fun K' hK'=>?_
 have hrun:=run_look (id:=id) hM true
 rw [hl] at hrun
 unfold Oper.wp
 simp [execOp,hop,hm,hx,hrun,Result.andThen]
 exact hK' _ _ hK
theorem wpList_look1 (hg:o.guard=none) (m x:Operand) (hop:o.op=Op.lookup 62 m x false) (hm:a.eval m=.map (some M)) (hx:a.eval x=.string id)
 (hM:w.heap[M]?=some (.map (l.map DE.ent).toArray clock)) {j:Nat} {y:DE} (hl:look id l 0=some (j,y))
 (hK:wpList Tryz.prog ops Q rest (a.put o.dst (.pointer (some ⟨y.f,0,none⟩))) w):wpList Tryz.prog ops Q (o::rest) a w:=by
 refine wpList_plain hg fun K' hK'=>?_
 have hrun:=run_look (id:=id) hM false
 rw [hl] at hrun
 unfold Oper.wp
 simp [execOp,hop,hm,hx,hrun,Result.andThen]
 exact hK' _ _ hK
theorem wpList_maplen (hg:o.guard=none) (m:Operand) (hop:o.op=Op.call {callee:=Callee.builtin Builtin.len,args:=#[m],argTypes:=#[62]}) (hm:a.eval m=.map (some M))
 (hM:w.heap[M]?=some (.map (l.map DE.ent).toArray clock)) (hK:wpList Tryz.prog ops Q rest (a.put o.dst (.int .i64 l.length)) w):wpList Tryz.prog ops Q (o::rest) a w:=by
 refine wpList_plain hg fun K' hK'=>?_
 have hrun:(Builtin.len_ #[62] o.type #[.map (some M)]).run Tryz.prog w=.ok (.int .i64 l.length) w:=by
  simp [Builtin.len_,run_underlying Tryz.underlying62,getMap hM,goInt,Result.andThen]
 unfold Oper.wp
 simp [execOp,hop,resolve,invoke,builtin,hm,hrun,Result.andThen]
 exact hK' _ _ hK
theorem run_put (hM:w.heap[M]?=some (.map (l.map DE.ent).toArray clock)) {y:DE} (hl:look y.nm l 0=none) (hy:y.born=clock) :
 ∃ w1,(Instr.mapUpdate 62 (.map (some M)) (.string y.nm) y.val).run Tryz.prog w=.ok () w1∧MapTo w w1 M ((l++[y]).map DE.ent).toArray (clock+1):=by
 obtain ⟨w1,h1,h2⟩:=setMap (P:=Tryz.prog) (es':=((l++[y]).map DE.ent).toArray) (clock':=clock+1) hM
 refine ⟨w1,?_,h2⟩
 have hf:=find_look y.nm l 0
 rw [hl] at hf
 have he:(l.map DE.ent).toArray.push {key:=.string y.nm,val:=y.val,born:=clock}=((l++[y]).map DE.ent).toArray:=by
  subst hy;simp [DE.ent]
 simp only [Instr.mapUpdate,Sem.run_bind,run_underlying Tryz.underlying62,getMap hM,chk,Instr.findKey,run_underlying Tryz.underlying9,hf,Result.andThen,Option.map_none,Sem.run_pure,he,h1]
theorem run_set (hM:w.heap[M]?=some (.map (l.map DE.ent).toArray clock)) {j:Nat} {x y:DE} (hl:look y.nm l 0=some (j,x)) (hy:y.born=x.born) :
 ∃ w1,(Instr.mapUpdate 62 (.map (some M)) (.string y.nm) y.val).run Tryz.prog w=.ok () w1∧MapTo w w1 M ((l.set j y).map DE.ent).toArray clock:=by
 obtain ⟨w1,h1,h2⟩:=setMap (P:=Tryz.prog) (es':=((l.set j y).map DE.ent).toArray) (clock':=clock) hM
 refine ⟨w1,?_,h2⟩
 have hf:=find_look y.nm l 0
 rw [hl] at hf
 obtain ⟨_,hj,hid⟩:=look_spec _ _ _ _ _ hl
 simp only [Nat.sub_zero] at hj
 have he:(l.map DE.ent).toArray.modify j (fun e=>{e with key:=.string y.nm,val:=y.val})=((l.set j y).map DE.ent).toArray:=by
  apply Array.toList_inj.1
  simp only [Array.toList_modify,List.map_set]
  apply List.ext_getElem? ;intro k
  rw [List.getElem?_modify,List.getElem?_set]
  by_cases hk:j=k
  ·subst hk
   have hlt:=(List.getElem?_eq_some_iff.1 hj).1
   have hje:=(List.getElem?_eq_some_iff.1 hj).2
   simp [hlt,DE.ent,hy,hje]
  ·simp [hk]
 have hkey:((l.map DE.ent).toArray[j]?).map (·.key)=some (.string y.nm):=by simp [hj,DE.ent,hid]
 simp only [Instr.mapUpdate,Sem.run_bind,run_underlying Tryz.underlying62,getMap hM,chk,Instr.findKey,run_underlying Tryz.underlying9,hf,Result.andThen,Option.map_some,Sem.run_pure,hkey,Option.getD_some]
 have hsb:∀ q,Instr.sameBits q (.string y.nm) (.string y.nm)=true:=fun q=>by cases q <;> simp [Instr.sameBits,ba_beq]
 have hst:(Instr.keyThatStays (.string y.nm) (.string y.nm)).run Tryz.prog w=.ok (.string y.nm) w:=by
  simp [Instr.keyThatStays,hsb]
 rw [hst]
 simp only [Result.andThen,he,h1]
theorem run_del (hM:w.heap[M]?=some (.map (l.map DE.ent).toArray clock)) {j:Nat} {x:DE} (hl:look id l 0=some (j,x)) (ty:TypeId) :
 ∃ w1,(Builtin.delete_ #[62,9] ty #[.map (some M),.string id]).run Tryz.prog w=.ok (.tuple #[]) w1∧MapTo w w1 M ((l.eraseIdx j).map DE.ent).toArray clock:=by
 obtain ⟨w1,h1,h2⟩:=setMap (P:=Tryz.prog) (es':=((l.eraseIdx j).map DE.ent).toArray) (clock':=clock) hM
 refine ⟨w1,?_,h2⟩
 have hf:=find_look id l 0
 rw [hl] at hf
 obtain ⟨_,hj,_⟩:=look_spec _ _ _ _ _ hl
 simp only [Nat.sub_zero] at hj
 have hlt:=(List.getElem?_eq_some_iff.1 hj).1
 have he:(l.map DE.ent).toArray.eraseIdxIfInBounds j=((l.eraseIdx j).map DE.ent).toArray:=by
  apply Array.toList_inj.1
  simp only [Array.eraseIdxIfInBounds,List.size_toArray,List.length_map,hlt,dif_pos,Array.toList_eraseIdx]
  exact map_erase _ _ _
 simp [Builtin.delete_,run_underlying Tryz.underlying62,getMap hM,chk,Instr.findKey,run_underlying Tryz.underlying9,hf,Result.andThen,map_erase,h1]
theorem wpList_put (hg:o.guard=none) (m k v:Operand) (hop:o.op=Op.mapUpdate 62 m k v) {y:DE} (hm:a.eval m=.map (some M)) (hk:a.eval k=.string y.nm) (hv:a.eval v=y.val)
 (hM:w.heap[M]?=some (.map (l.map DE.ent).toArray clock)) (hl:look y.nm l 0=none) (hy:y.born=clock)
 (hK:∀ w1,MapTo w w1 M ((l++[y]).map DE.ent).toArray (clock+1)→wpList Tryz.prog ops Q rest (a.put o.dst undef) w1):wpList Tryz.prog ops Q (o::rest) a w:=by
 refine wpList_plain hg fun K' hK'=>?_
 obtain ⟨w1,hrun,hm1⟩:=run_put hM hl hy
 unfold Oper.wp
 simp [execOp,hop,hm,hk,hv,hrun,Result.andThen]
 exact hK' _ _ (hK w1 hm1)
theorem wpList_set (hg:o.guard=none) (m k v:Operand) (hop:o.op=Op.mapUpdate 62 m k v) {j:Nat} {x y:DE} (hm:a.eval m=.map (some M)) (hk:a.eval k=.string y.nm) (hv:a.eval v=y.val)
 (hM:w.heap[M]?=some (.map (l.map DE.ent).toArray clock)) (hl:look y.nm l 0=some (j,x)) (hy:y.born=x.born)
 (hK:∀ w1,MapTo w w1 M ((l.set j y).map DE.ent).toArray clock→wpList Tryz.prog ops Q rest (a.put o.dst undef) w1):wpList Tryz.prog ops Q (o::rest) a w:=by
 refine wpList_plain hg fun K' hK'=>?_
 obtain ⟨w1,hrun,hm1⟩:=run_set hM hl hy
 unfold Oper.wp
 simp [execOp,hop,hm,hk,hv,hrun,Result.andThen]
 exact hK' _ _ (hK w1 hm1)
theorem wpList_del (hg:o.guard=none) (m k:Operand) (hop:o.op=Op.call {callee:=Callee.builtin Builtin.delete,args:=#[m,k],argTypes:=#[62,9]}) (hm:a.eval m=.map (some M)) (hk:a.eval k=.string id)
 (hM:w.heap[M]?=some (.map (l.map DE.ent).toArray clock)) {j:Nat} {x:DE} (hl:look id l 0=some (j,x))
 (hK:∀ w1,MapTo w w1 M ((l.eraseIdx j).map DE.ent).toArray clock→wpList Tryz.prog ops Q rest (a.put o.dst (.tuple #[])) w1):wpList Tryz.prog ops Q (o::rest) a w:=by
 refine wpList_plain hg fun K' hK'=>?_
 obtain ⟨w1,hrun,hm1⟩:=run_del hM hl o.type
 unfold Oper.wp
 simp [execOp,hop,resolve,invoke,builtin,hm,hk,hrun,Result.andThen]
 exact hK' _ _ (hK w1 hm1)
end
end
section
open Go.RowKit
section
variable {w w1:World} {db M ck:Nat} {room after code:Int} {armed:Bool} {sf ch wrs:Value} {l:List DE} {nm:ByteArray}
set_option maxHeartbeats 1000000 in
set_option maxRecDepth 100000 in
theorem file_some (hb:Blk w db 66 (dcells room sf (.map (some M)) ch wrs armed after code)) (hM:w.heap[M]?=some (.map (l.map DE.ent).toArray ck)) {j:Nat} {y:DE} (hl:look nm l 0=some (j,y)) :
 Calls Tryz.prog 90 #[.pointer (some ⟨db,0,none⟩),.string nm] w fun e w'=>e=.returned (.tuple #[.pointer (some ⟨y.f,0,none⟩),.int .i64 0])∧w=w':=by
 have c2:w.cell? ⟨db,2,none⟩=some (.map (some M)):=hb.cell 2
 go_enter Tryz.func90,Tryz.ntmps90
 go_wp2_with (at_lookup;refine wpList_look_some rfl _ _ rfl rfl rfl hM hl ?_)
 go_ret2
 exact ⟨rfl,rfl⟩
set_option maxHeartbeats 1000000 in
set_option maxRecDepth 100000 in
theorem file_none (hb:Blk w db 66 (dcells room sf (.map (some M)) ch wrs armed after code)) (hM:w.heap[M]?=some (.map (l.map DE.ent).toArray ck)) (hl:look nm l 0=none) :
 Calls Tryz.prog 90 #[.pointer (some ⟨db,0,none⟩),.string nm] w fun e w'=>e=.returned (.tuple #[.pointer none,.int .i64 7])∧w=w':=by
 have c2:w.cell? ⟨db,2,none⟩=some (.map (some M)):=hb.cell 2
 go_enter Tryz.func90,Tryz.ntmps90
 go_wp2_with (at_lookup;refine wpList_look_none rfl _ _ rfl rfl rfl hM hl ?_)
 go_ret2
 exact ⟨rfl,rfl⟩
set_option maxHeartbeats 1000000 in
set_option maxRecDepth 100000 in
theorem opened_no {c:Int} (hR:Calls Tryz.prog 70 #[.pointer (some ⟨db,0,none⟩)] w fun e w'=>e=.returned (.int .i64 c)∧w'=w1) (hc:(c != 0)=true) :
 Calls Tryz.prog 73 #[.pointer (some ⟨db,0,none⟩),.string nm] w fun e w'=>e=.returned (.tuple #[.pointer none,.int .i64 c])∧w'=w1:=by
 go_enter Tryz.func73,Tryz.ntmps73
 go_wp2_with (go_at_call 70;refine hR.mono ?_;rintro e w9 ⟨rfl,rfl⟩)
 go_ret2
 exact ⟨rfl,rfl⟩
set_option maxHeartbeats 1000000 in
set_option maxRecDepth 100000 in
theorem opened_go {v:Value} {c:Int} (hR:Calls Tryz.prog 70 #[.pointer (some ⟨db,0,none⟩)] w fun e w'=>e=.returned (.int .i64 0)∧w'=w1)
 (hF:Calls Tryz.prog 90 #[.pointer (some ⟨db,0,none⟩),.string nm] w1 fun e w'=>e=.returned (.tuple #[v,.int .i64 c])∧w1=w') :
 Calls Tryz.prog 73 #[.pointer (some ⟨db,0,none⟩),.string nm] w fun e w'=>e=.returned (.tuple #[v,.int .i64 c])∧w'=w1:=by
 go_enter Tryz.func73,Tryz.ntmps73
 go_wp2_with (first
  | (go_at_call 70;refine hR.mono ?_;rintro e w9 ⟨rfl,rfl⟩)
  | (go_at_call 90;refine hF.mono ?_;rintro e w8 ⟨rfl,rfl⟩))
 go_ret2
 exact ⟨rfl,rfl⟩
set_option maxHeartbeats 1000000 in
set_option maxRecDepth 100000 in
theorem isSector_any {fb:Nat} {sv:Value} {n:Int} {k c:Nat} {A:Option Addr} (hf:Blk w fb 103 #[sv,.slice A k c]) :
 Calls Tryz.prog 76 #[.pointer (some ⟨fb,0,none⟩),.int .i64 n] w fun e w'=>e=.returned (.bool (decide (0≤n) && decide (n<(k:Int))))∧w=w':=by
 have c1:w.cell? ⟨fb,1,none⟩=some (.slice A k c):=hf.cell 1
 cases d0:decide (0≤n) with
 | false =>
  go_enter Tryz.func76,Tryz.ntmps76
  go_wp2
  go_ret
  exact ⟨rfl,rfl⟩
 | true =>
  go_enter Tryz.func76,Tryz.ntmps76
  go_wp2
  go_ret
  exact ⟨by simp,rfl⟩
end
end
section
open Go.RowKit
theorem Tryz.info106:(Tryz.prog.info? 106).map (fun i=>(i.zero,i.size,i.bytes))=some (some (.agg #[.pointer none,.int .i64 0,.string ByteArray.empty]),3,32):=by kernel_rfl
theorem own_formN {w:World} {B e size n:Nat} {v:Value} {xs:List Value} (h:w.ownsRow B e size v n xs):∃ A c,v=.slice A n c:=by
 rcases h.2 with ⟨rfl,rfl⟩ | ⟨g,cap,cur,rfl,_⟩
 ·exact ⟨_,_,rfl⟩
 ·exact ⟨_,_,rfl⟩
theorem reads_three {w:World} {g:Nat} {t:TypeId} {a b c:Value} (h:Blk w g t #[a,b,c]):Reads w w.heap.size 3 (some ⟨g,0,none⟩) 1 [a,b,c] :=
 ⟨rfl,fun _=>⟨_,rfl,h.lt,fun j x hx=>by
  have hj:j<3:=(List.getElem?_eq_some_iff.1 hx).1
  have e:(⟨g,0,none⟩:Addr).add j=⟨g,j,none⟩:=by unfold Addr.add;split <;> simp_all
  rw [e,h.cell j]
  match j,hj with
  | 0,_=>exact hx
  | 1,_=>exact hx
  | 2,_=>exact hx⟩⟩
theorem blk_otherN {w w':World} {B e2 size n2:Nat} {v2:Value} {xs2:List Value} {g:Nat} {t:TypeId} {cs:Array Value} (h:Blk w g t cs) (hg:w.grownBy w' v2.ownBlock) (h2:w.ownsRow B e2 size v2 n2 xs2) (he:t≠e2):Blk w' g t cs:=by
 refine (hg.block g h.lt (fun e=>?_)).trans h
 rcases h2.2 with ⟨rfl,_⟩ | ⟨g2,cap2,cur2,rfl,_,e5,_⟩
 ·simp [Value.ownBlock] at e
 ·simp [Value.ownBlock] at e
  subst e
  unfold Blk at h
  rw [e5] at h
  cases h
  exact he rfl
def wcell (fb n:Nat) (s:ByteArray):List Value:=[.pointer (some ⟨fb,0,none⟩),.int .i64 n,.string s]
theorem wcell_one {fb n:Nat} {s:ByteArray}:∀ u∈wcell fb n s,u.oneCell'=true:=by
 intro u hu
 simp only [wcell,List.mem_cons,List.not_mem_nil,or_false] at hu
 rcases hu with rfl | rfl | rfl <;> rfl
end
section
open Go.RowKit
theorem Tryz.info101:(Tryz.prog.info? 101).map (fun i=>(i.zero,i.size,i.bytes))=some (some (.string ByteArray.empty),1,16):=by kernel_rfl
def strs (l:List ByteArray):List Value:=l.map Value.string
theorem strs_one (l:List ByteArray):∀ u∈strs l,u.oneCell'=true:=fun u hu=>by
 obtain ⟨_,_,rfl⟩:=List.mem_map.1 hu;rfl
theorem own_empty (w:World) (B e:Nat) (hB:B≤w.heap.size):(w.alloc (.cells #[] e)).ownsRow B e 1 (.slice (some ⟨w.heap.size,0,none⟩) 0 0) 0 [] :=
 ⟨rfl,.inr ⟨w.heap.size,0,#[],rfl,hB,heap_alloc_new w _,Nat.le_refl _,Nat.zero_le _,rfl,rfl⟩⟩
section
variable {w w1:World} {db fb g n k c:Nat} {sv:Value} {nm s:ByteArray} {cur:Array Value}
set_option maxHeartbeats 1000000 in
set_option maxRecDepth 100000 in
theorem Read_ok (hO:Calls Tryz.prog 73 #[.pointer (some ⟨db,0,none⟩),.string nm] w fun e w'=>e=.returned (.tuple #[.pointer (some ⟨fb,0,none⟩),.int .i64 0])∧w'=w1)
 (hf:Blk w1 fb 103 #[sv,.slice (some ⟨g,0,none⟩) k c]) (hg:Blk w1 g 101 cur) (hn:n<k) (hu:cur[n]?=some (.string s)) {v:Value} {w2:World} (hcv:(convert 101 36 (.string s)).run Tryz.prog w1=.ok v w2) :
 Calls Tryz.prog 26 #[.pointer (some ⟨db,0,none⟩),.string nm,.int .i64 n] w fun e w'=>e=.returned (.tuple #[v,.nilIface])∧w'=w2:=by
 have f1:w1.cell? ⟨fb,1,none⟩=some (.slice (some ⟨g,0,none⟩) k c):=hf.cell 1
 have gn:w1.cell? ⟨g,n,none⟩=some (.string s):=(hg.cell n).trans hu
 have d0:decide ((0:Int)≤(n:Int))=true:=by simp
 have d1:decide ((n:Int)<(k:Int))=true:=by simpa using hn
 have hS:=isSector_any (n:=(n:Int)) hf
 rw [d0,d1] at hS
 have i0:(0:Int)≤(n:Int):=by omega
 have i1:(n:Int)<(k:Int):=by omega
 go_enter Tryz.func26,Tryz.ntmps26
 go_wp2_with (first
  | (go_at_call 73;refine hO.mono ?_;rintro e w9 ⟨rfl,h9⟩;obtain rfl:w1=w9:=h9.symm)
  | (go_at_call 76;refine hS.mono ?_;rintro e w8 ⟨rfl,rfl⟩))
 go_ret2
 exact ⟨rfl,rfl⟩
end
end
section
open Go.RowKit
structure Wr where
 f:Nat
 n:Nat
 s:ByteArray
def Wr.cells (x:Wr):List Value:=wcell x.f x.n x.s
def wcells (l:List Wr):List Value:=l.flatMap Wr.cells
theorem wcells_cons (x:Wr) (l:List Wr):wcells (x::l)=x.cells++wcells l:=by simp [wcells]
theorem wcells_len (l:List Wr):(wcells l).length=l.length*3:=by
 induction l with
 | nil=>rfl
 | cons x l ih =>
  rw [wcells_cons,List.length_append,ih,List.length_cons]
  simp [Wr.cells,wcell];omega
theorem wcells_at:∀ {l:List Wr} {k:Nat} {x:Wr},l[k]?=some x→∀ j,j<3→(wcells l)[k*3+j]?=x.cells[j]?
 | [],k,x,h,j,hj=>by simp at h
 | y::l,0,x,h,j,hj=>by
  simp at h;subst h
  rw [wcells_cons,List.getElem?_append_left (by simp [Wr.cells,wcell];omega)]
  simp
 | y::l,k+1,x,h,j,hj=>by
  rw [wcells_cons,List.getElem?_append_right (by simp [Wr.cells,wcell];omega)]
  have:=wcells_at (l:=l) (k:=k) (x:=x) (by simpa using h) j hj
  rw [←this]
  congr 1
  simp [Wr.cells,wcell];omega
theorem own3_form {w:World} {B:Nat} {A:Option Addr} {n c:Nat} {xs:List Value} (h:w.ownsRow B 106 3 (.slice A n c) n xs) (h0:0<n) :
 ∃ (g:Nat) (cur:Array Value),A=some ⟨g,0,none⟩∧B≤g∧Blk w g 106 cur∧∀ (j:Nat) (u:Value),xs[j]?=some u→cur[j]?=some u:=by
 rcases h.2 with ⟨_,h1⟩ | ⟨g,cap,cur,e,h1,h2,h3,h4,h5,h6⟩
 ·omega
 ·simp only [Value.slice.injEq] at e
  obtain ⟨rfl,_,rfl⟩:=e
  refine ⟨g,cur,rfl,h1,h2,fun j u hu=>?_⟩
  have hj:=(List.getElem?_eq_some_iff.1 hu).1
  rw [←h6,List.getElem?_take] at hu
  by_cases hlt:j<n*3
  ·rw [if_pos hlt] at hu;simpa using hu
  ·rw [if_neg hlt] at hu;cases hu
theorem wr_cells {w:World} {g:Nat} {l:List Wr} {j:Nat} {y:Wr} {cur:Array Value} (hg:Blk w g 106 cur) (hcur:∀ (j:Nat) (u:Value),(wcells l)[j]?=some u→cur[j]?=some u) (hj:l[j]?=some y) :
 w.cell? ⟨g,j*3,none⟩=some (.pointer (some ⟨y.f,0,none⟩))∧w.cell? ⟨g,j*3+1,none⟩=some (.int .i64 y.n)∧w.cell? ⟨g,j*3+2,none⟩=some (.string y.s) :=
 ⟨(hg.cell _).trans (hcur _ _ ((wcells_at hj 0 (by omega)).trans rfl)),(hg.cell _).trans (hcur _ _ ((wcells_at hj 1 (by omega)).trans rfl)),(hg.cell _).trans (hcur _ _ ((wcells_at hj 2 (by omega)).trans rfl))⟩
theorem Tryz.info103':∃ i,Tryz.prog.info? 103=some i∧i.size≠0:=by
 have h:(Tryz.prog.info? 103).map (fun i=>decide (i.size≠0))=some true:=by kernel_rfl
 cases e:Tryz.prog.info? 103 with
 | none=>rw [e] at h;cases h
 | some i=>rw [e] at h;exact ⟨i,rfl,of_decide_eq_true (Option.some.inj h)⟩
theorem ptr_eq (W:World) {f g:Nat} {cf cg:Array Value} {tf tg:TypeId} (hf:W.heap[f]?=some (.cells cf tf (0,0))) (hg:W.heap[g]?=some (.cells cg tg (0,0))) :
 (binOp .eql 98 (.pointer (some ⟨f,0,none⟩)) (.pointer (some ⟨g,0,none⟩))).run Tryz.prog W=.ok (.bool (decide (f=g))) W:=by
 obtain ⟨i,hi,hs⟩:=Tryz.info103'
 by_cases h:f=g
 ·subst h
  rw [decide_eq_true rfl]
  exact run_eql_ptr_same W _ Tryz.underlying98 hi
 ·rw [decide_eq_false h]
  exact run_eql_ptr_other W Tryz.underlying98 hi hs (fun e=>h (by injection e)) hf hg
set_option maxHeartbeats 1000000 in
set_option maxRecDepth 100000 in
theorem isOf {w:World} {pf fb:Nat} (y:Wr) (hp:w.cell? ⟨pf,0,none⟩=some (.pointer (some ⟨fb,0,none⟩))) {cf cg:Array Value} {tf tg:TypeId} (hf:w.heap[y.f]?=some (.cells cf tf (0,0))) (hg:w.heap[fb]?=some (.cells cg tg (0,0))) :
 Calls Tryz.prog 84 #[.agg #[.pointer (some ⟨y.f,0,none⟩),.int .i64 y.n,.string y.s],.pointer (some ⟨pf,0,none⟩)] w fun e w'=>e=.returned (.bool (decide (y.f=fb)))∧w'=w.alloc (.cells #[.pointer (some ⟨y.f,0,none⟩),.int .i64 y.n,.string y.s] 106):=by
 have hl:pf<w.heap.size:=World.block_lt_of_cell? w _ hp
 have hp2:(w.alloc (.cells #[.pointer (some ⟨y.f,0,none⟩),.int .i64 y.n,.string y.s] 106)).cell? ⟨pf,0,none⟩=some (.pointer (some ⟨fb,0,none⟩)):=by
  rw [World.cell?_alloc_lt w _ _ hl];exact hp
 have he:=ptr_eq (w.alloc (.cells #[.pointer (some ⟨y.f,0,none⟩),.int .i64 y.n,.string y.s] 106)) ((Below.heap_alloc _ _ _ (Array.getElem?_eq_some_iff.1 hf).1).trans hf) ((Below.heap_alloc _ _ _ (Array.getElem?_eq_some_iff.1 hg).1).trans hg)
 go_enter Tryz.func84,Tryz.ntmps84
 go_wp2
 go_ret
 exact ⟨rfl,rfl⟩
end
section
open Go.RowKit
def first (fb:Nat):List Wr→Nat→Option Nat
 | [],_=>none
 | x::l,i=>if x.f=fb then some i else first fb l (i+1)
def firstI (fb:Nat) (l:List Wr):Int:=match first fb l 0 with
 | some i=>i
 | none=>-1
theorem first_step {fb:Nat}:∀ {l:List Wr} {i k:Nat},(∀ j y,j<k→l[j]?=some y→y.f≠fb)→k≤l.length→first fb l i=first fb (l.drop k) (i+k)
 | l,i,0,_,_=>by simp
 | [],i,k+1,_,hk=>by simp at hk
 | x::l,i,k+1,h,hk=>by
  have h0:first fb (x::l) i=first fb l (i+1):=if_neg (h 0 x (by omega) rfl)
  rw [h0,List.drop_succ_cons,first_step (i:=i+1) (k:=k) (fun j y hj hy=>h (j+1) y (by omega) (by simpa using hy)) (by simpa using hk),show i+1+k=i+(k+1) by omega]
theorem first_hit {fb k:Nat} {l:List Wr} {y:Wr} (h:∀ j y,j<k→l[j]?=some y→y.f≠fb) (hy:l[k]?=some y) (hq:y.f=fb):firstI fb l=k:=by
 have hk:=(List.getElem?_eq_some_iff.1 hy).1
 have e:l.drop k=y::l.drop (k+1):=by
  rw [←(List.getElem?_eq_some_iff.1 hy).2,List.getElem_cons_drop]
 unfold firstI
 rw [first_step (i:=0) h (Nat.le_of_lt hk),e]
 unfold first
 rw [if_pos hq]
 simp
theorem first_none {fb:Nat} {l:List Wr} (h:∀ j y,j<l.length→l[j]?=some y→y.f≠fb):firstI fb l=-1:=by
 unfold firstI
 rw [first_step (i:=0) h (Nat.le_refl _),List.drop_length]
 rfl
def IxRel (W:World) (fb:Nat) (l:List Wr) (i:Value) (wr:World):Prop:=∃ k,k≤l.length∧i=.int .i64 k∧(∀ j y,j<k→l[j]?=some y→y.f≠fb)∧Below W.heap.size W wr
set_option maxHeartbeats 2000000 in
set_option maxRecDepth 100000 in
theorem IndexFunc_any {B:Nat} {w:World} {pf fb c:Nat} {A:Option Addr} {l:List Wr} (hown:w.ownsRow B 106 3 (.slice A l.length c) l.length (wcells l)) (hl:l.length≤1000) (hp:w.cell? ⟨pf,0,none⟩=some (.pointer (some ⟨fb,0,none⟩)))
 (hfs:∀ y∈l,∃ cf tf,w.heap[y.f]?=some (.cells cf tf (0,0))) (hfb:∃ cf tf,w.heap[fb]?=some (.cells cf tf (0,0))) :
 Calls Tryz.prog 104 #[.slice A l.length c,.func (.func 84) #[] #[.pointer (some ⟨pf,0,none⟩)]] w fun e w'=>e=.returned (.int .i64 (firstI fb l))∧Below w.heap.size w w':=by
 obtain ⟨cg,tg,hfb⟩:=hfb
 have hfl:=(Array.getElem?_eq_some_iff.1 hfb).1
 have hpl:=World.block_lt_of_cell? w _ hp
 go_enter Tryz.func104,Tryz.ntmps104
 go_wp2
 go_loopw [8] (fun i wr=>IxRel w fb l i wr) (fun i _=>l.length-(intOf i).toNat)
 case atStart=>exact ⟨0,Nat.zero_le _,rfl,fun j y hj=>by omega,Below.refl _ _⟩
 case round =>
  obtain ⟨k,hk,rfl,hno,hB⟩:=hrel
  have HNO:=Lib.hid hno
  clear hno
  by_cases hlt:k<l.length
  ·have d1:decide (k<l.length)=true:=by simpa using hlt
   obtain ⟨y,hy⟩:∃ y,l[k]?=some y:=⟨_,List.getElem?_eq_getElem hlt⟩
   obtain ⟨g,cur,rfl,hBg,hg,hcur⟩:=own3_form hown (by omega)
   have hg2:Blk wr g 106 cur:=(hB.block g hg.lt).trans hg
   obtain ⟨e0,e1,e2⟩:=wr_cells hg2 hcur hy
   obtain ⟨cf,tf,hyf⟩:=hfs y (List.mem_of_getElem? hy)
   have i0:(0:Int)≤(k:Int):=by omega
   have i1:(k:Int)<(l.length:Int):=by omega
   have hI:=isOf (w:=wr) y ((hB.cell (p:=⟨pf,0,none⟩) hpl).trans hp) ((hB.block _ (Array.getElem?_eq_some_iff.1 hyf).1).trans hyf) ((hB.block _ hfl).trans hfb)
   by_cases hq:y.f=fb
   ·rw [decide_eq_true hq] at hI
    have HQ:=Lib.hid hq
    clear hq
    go_wp2_with (go_at_call 84;refine hI.mono ?_;rintro e w9 ⟨rfl,rfl⟩)
    go_ret
    exact ⟨by rw [first_hit HNO.out hy HQ.out];rfl,hB.alloc hB.size _⟩
   ·rw [decide_eq_false hq] at hI
    go_wp2_with (go_at_call 84;refine hI.mono ?_;rintro e w9 ⟨rfl,rfl⟩)
    go_roundw
    case rel=>exact ⟨k+1,by omega,by go_num,fun j z hj hz=>by
     by_cases e:j=k
     ·subst e;rw [hy] at hz;cases hz;exact hq
     ·exact HNO.out j z (by omega) hz,hB.alloc hB.size _⟩
    case measure=>simp [intOf];omega
  ·have d1:decide (k<l.length)=false:=by simpa using hlt
   obtain rfl:k=l.length:=by omega
   go_wp2
   go_ret
   exact ⟨by rw [first_none HNO.out];rfl,hB⟩
end
section
open Go.RowKit
def CtRel (W:World) (ks:List Int) (v:Int) (i:Value) (wr:World):Prop:=wr=W∧∃ k,k≤ks.length∧i=.int .i64 k∧∀ j y,j<k→ks[j]?=some y→y≠v
set_option maxHeartbeats 2000000 in
set_option maxRecDepth 100000 in
theorem Index_ints {B:Nat} {w:World} {A:Option Addr} {c:Nat} {ks:List Int} (hr:Reads w B 1 A ks.length (ks.map (.int .i64))) (hl:ks.length≤1000000) (v:Int) :
 Calls Tryz.prog 99 #[.slice A ks.length c,.int .i64 v] w fun e w'=>(∃ q:Int,e=.returned (.int .i64 q)∧decide (0≤q)=decide (v∈ks))∧w=w':=by
 go_enter Tryz.func99,Tryz.ntmps99
 go_wp2
 go_loopw [8] (fun i wr=>CtRel w ks v i wr) (fun i _=>ks.length-(intOf i).toNat)
 case atStart=>exact ⟨rfl,0,Nat.zero_le _,rfl,fun j y hj=>by omega⟩
 case round =>
  obtain ⟨rfl,k,hk,rfl,hno⟩:=hrel
  have HNO:=Lib.hid hno
  clear hno
  by_cases hlt:k<ks.length
  ·have d1:decide (k<ks.length)=true:=by simpa using hlt
   obtain ⟨y,hy⟩:∃ y,ks[k]?=some y:=⟨_,List.getElem?_eq_getElem hlt⟩
   obtain ⟨ad,u,rfl,_,hu,hc⟩:=hr.at_ hlt
   rw [List.getElem?_map,hy] at hu
   cases hu
   have i0:(0:Int)≤(k:Int):=by omega
   have i1:(k:Int)<(ks.length:Int):=by omega
   cases hq:(v==y) with
   | true =>
    have HQ:=Lib.hid (eq_of_beq hq)
    have HY:=Lib.hid hy
    clear hy
    go_wp2
    go_ret
    exact ⟨⟨k,rfl,by rw [decide_eq_true (by omega:(0:Int)≤(k:Int)),decide_eq_true (by rw [HQ.out];exact List.mem_of_getElem? HY.out)]⟩,rfl⟩
   | false =>
    have HQ:=Lib.hid (beq_eq_false_iff_ne.1 hq)
    have HY:=Lib.hid hy
    clear hy
    go_wp2
    go_roundw
    case rel=>exact ⟨rfl,k+1,by omega,by go_num,fun j z hj hz=>by
     by_cases e:j=k
     ·subst e;rw [HY.out] at hz;cases hz;exact fun e=>HQ.out e.symm
     ·exact HNO.out j z (by omega) hz⟩
    case measure=>simp [intOf];omega
  ·have d1:decide (k<ks.length)=false:=by simpa using hlt
   obtain rfl:k=ks.length:=by omega
   go_wp2
   go_ret
   refine ⟨⟨-1,rfl,?_⟩,rfl⟩
   rw [decide_eq_false (by omega),decide_eq_false (fun hm=>?_)]
   obtain ⟨j,hj,he⟩:=List.getElem_of_mem hm
   exact HNO.out j v hj (by rw [List.getElem?_eq_getElem hj,he]) rfl
set_option maxHeartbeats 1000000 in
set_option maxRecDepth 100000 in
theorem Contains_ints {B:Nat} {w:World} {A:Option Addr} {c:Nat} {ks:List Int} (hr:Reads w B 1 A ks.length (ks.map (.int .i64))) (hl:ks.length≤1000000) (v:Int) :
 Calls Tryz.prog 61 #[.slice A ks.length c,.int .i64 v] w fun e w'=>e=.returned (.bool (decide (v∈ks)))∧w=w':=by
 go_enter Tryz.func61,Tryz.ntmps61
 go_wp2_with (go_at_call 99;refine (Index_ints hr hl v).mono ?_;rintro e w9 ⟨⟨q,rfl,hq⟩,rfl⟩)
 go_ret
 exact ⟨by rw [←hq];rfl,rfl⟩
end
section
open Go.RowKit
theorem setSame {P:Program} {w:World} {r:Nat} {o:Obj} (h:w.heap[r]?=some o) (h2:∃ es c,o=.map es c):(setObj r o).run P w=.ok () w:=by
 obtain ⟨es,c,rfl⟩:=h2
 have e:w.heap.setIfInBounds r (.map es c)=w.heap:=by
  apply Array.ext_getElem?
  intro k
  by_cases hk:r=k
  ·subst hk;rw [Array.getElem?_setIfInBounds_self_of_lt (Array.getElem?_eq_some_iff.1 h).1,h]
  ·rw [Array.getElem?_setIfInBounds_ne hk]
 have h3:(setObj r (.map es c)).run P w=.ok () {w with heap:=w.heap.setIfInBounds r (.map es c)}:=by simp [setObj,Sem.run,h]
 rw [h3,e]
section
variable {w:World} {ops:Array Oper} {rest:List Oper} {o:Oper} {a:Act} {Q:Exit→Act→World→Prop} {M:Nat} {id:ByteArray} {l:List DE} {clock:Nat}
theorem run_del_none (hM:w.heap[M]?=some (.map (l.map DE.ent).toArray clock)) (hl:look id l 0=none) (ty:TypeId) :
 (Builtin.delete_ #[62,9] ty #[.map (some M),.string id]).run Tryz.prog w=.ok (.tuple #[]) w:=by
 have hf:=find_look id l 0
 rw [hl] at hf
 simp [Builtin.delete_,run_underlying Tryz.underlying62,getMap hM,chk,Instr.findKey,run_underlying Tryz.underlying9,hf,Result.andThen,setSame hM ⟨_,_,rfl⟩]
theorem wpList_del_none (hg:o.guard=none) (m k:Operand) (hop:o.op=Op.call {callee:=Callee.builtin Builtin.delete,args:=#[m,k],argTypes:=#[62,9]}) (hm:a.eval m=.map (some M)) (hk:a.eval k=.string id)
 (hM:w.heap[M]?=some (.map (l.map DE.ent).toArray clock)) (hl:look id l 0=none)
 (hK:wpList Tryz.prog ops Q rest (a.put o.dst (.tuple #[])) w):wpList Tryz.prog ops Q (o::rest) a w:=by
 refine wpList_plain hg fun K' hK'=>?_
 have hrun:=run_del_none hM hl o.type
 unfold Oper.wp
 simp [execOp,hop,resolve,invoke,builtin,hm,hk,hrun,Result.andThen]
 exact hK' _ _ hK
theorem wpList_look1_none (hg:o.guard=none) (m x:Operand) (hop:o.op=Op.lookup 62 m x false) (hm:a.eval m=.map (some M)) (hx:a.eval x=.string id)
 (hM:w.heap[M]?=some (.map (l.map DE.ent).toArray clock)) (hl:look id l 0=none)
 (hK:wpList Tryz.prog ops Q rest (a.put o.dst (.pointer none)) w):wpList Tryz.prog ops Q (o::rest) a w:=by
 refine wpList_plain hg fun K' hK'=>?_
 have hrun:=run_look (id:=id) hM false
 rw [hl] at hrun
 unfold Oper.wp
 simp [execOp,hop,hm,hx,hrun,Result.andThen]
 exact hK' _ _ hK
end
set_option maxHeartbeats 1000000 in
set_option maxRecDepth 100000 in
theorem dirturn_new {w:World} {M fb:Nat} {nm to:ByteArray} {l:List DE} {clock:Nat} (hM:w.heap[M]?=some (.map (l.map DE.ent).toArray clock)) (hl:look nm l 0=none) :
 Calls Tryz.prog 60 #[.map (some M),.agg #[.string nm,.string to,.pointer (some ⟨fb,0,none⟩)]] w fun e w'=>e=.returned (.tuple #[])∧MapTo (w.alloc (.cells #[.string nm,.string to,.pointer (some ⟨fb,0,none⟩)] 108)) w' M ((l++[(⟨nm,fb,clock⟩:DE)]).map DE.ent).toArray (clock+1):=by
 have hlt:=(Array.getElem?_eq_some_iff.1 hM).1
 have hM1:(w.alloc (.cells #[.string nm,.string to,.pointer (some ⟨fb,0,none⟩)] 108)).heap[M]?=some (.map (l.map DE.ent).toArray clock):=(Below.heap_alloc _ _ _ hlt).trans hM
 go_enter Tryz.func60,Tryz.ntmps60
 go_wp2_with (first
  | (at_lookup;refine wpList_look1_none rfl _ _ rfl rfl rfl hM1 hl ?_)
  | (at_mapUpdate;refine wpList_put (y:=⟨nm,fb,clock⟩) rfl _ _ _ rfl rfl rfl rfl hM1 hl rfl ?_;intro w9 hm9)
  | (at_delete;refine wpList_del_none rfl _ _ rfl rfl rfl hM1 hl ?_))
 go_end0
 exact ⟨rfl,hm9⟩
end
section
open Go.RowKit
theorem Tryz.info108:(Tryz.prog.info? 108).map (fun i=>(i.zero,i.size,i.bytes))=some (some (.agg #[.string ByteArray.empty,.string ByteArray.empty,.pointer none]),3,40):=by kernel_rfl
def ccell (nm to:ByteArray) (fb:Nat):List Value:=[.string nm,.string to,.pointer (some ⟨fb,0,none⟩)]
end
section
open Go.RowKit
open Da
open Ev (ev AS hBase)
namespace Da
set_option maxRecDepth 1000000
end Da
end
section
structure En where
 nm:ByteArray
 id:Nat
inductive Ch where
 | new (nm:ByteArray) (id:Nat)
 | gone (nm:ByteArray)
 | moved (a b:ByteArray)
structure PW where
 id:Nat
 n:Nat
 s:ByteArray
def turnP (d:List En):Ch→List En
 | .new nm id=>d++[⟨nm,id⟩]
 | .gone nm=>d.filter fun e=>decide (e.nm≠nm)
 | .moved a b=>if a=b then d else d.filterMap fun e=>if e.nm=a then some ⟨b,e.id⟩ else if e.nm=b then none else some e
def findP (nm:ByteArray) (d:List En):Option Nat:=(d.find? fun e=>decide (e.nm=nm)).map (·.id)
structure DP where
 room:Int
 dir:List En
 chs:List Ch
 files:List (List ByteArray)
 wrs:List PW
 armed:Bool
 after:Int
 code:Int
def DP.now (p:DP):List En:=p.chs.foldl turnP p.dir
def DP.file (p:DP) (id:Nat):List ByteArray:=p.files.getD id []
def putW (id:Nat) (l:List ByteArray) (x:PW):List ByteArray:=if x.id=id then l.set x.n x.s else l
def DP.cont (p:DP) (id:Nat):List ByteArray:=p.wrs.foldl (putW id) (p.file id)
def okC (c:UInt8):Bool:=(decide (97≤c.toNat) && decide (c.toNat≤122)) || (decide (48≤c.toNat) && decide (c.toNat≤57)) || decide (c.toNat=46)
def nameOK (s:ByteArray):Bool:=decide (1≤s.size) && decide (s.size≤16) && s.data.toList.all okC
def failP (p:DP):Int × DP:=if p.armed=false then (0,p) else if 0<p.after then (0,{p with after:=p.after-1}) else (p.code,{p with armed:=false})
def createP (p0:DP) (nm:ByteArray):Int × DP :=
 let p:=(failP p0).2
 if (failP p0).1≠0 then ((failP p0).1,p)
 else if nameOK nm=false then (2,p)
 else if (findP nm p.now).isSome then (40,p)
 else if 8≤p.now.length then (6,p)
 else (0,{p with files:=p.files++[[]],chs:=p.chs++[.new nm p.files.length]})
def removeP (p0:DP) (nm:ByteArray):Int × DP :=
 let p:=(failP p0).2
 if (failP p0).1≠0 then ((failP p0).1,p)
 else if findP nm p.now=none then (7,p)
 else (0,{p with chs:=p.chs++[.gone nm]})
def renameP (p0:DP) (a b:ByteArray):Int × DP :=
 let p:=(failP p0).2
 if (failP p0).1≠0 then ((failP p0).1,p)
 else if findP a p.now=none then (7,p)
 else if nameOK b=false then (2,p)
 else (0,{p with chs:=p.chs++[.moved a b]})
def DP.used (p:DP):Nat:=(p.now.map fun e=>(p.file e.id).length).sum
def zeroS:ByteArray:=⟨(List.replicate 64 0).toArray⟩
def growP (p0:DP) (nm:ByteArray) (n:Int):Int × DP :=
 let p:=(failP p0).2
 if (failP p0).1≠0 then ((failP p0).1,p)
 else match findP nm p.now with
  | none=>(7,p)
  | some id =>
   if n<(p.file id).length∨4096<n then (2,p)
   else if p.room<p.used+n-(p.file id).length then (42,p)
   else (0,{p with files:=p.files.set id (p.file id++List.replicate (n.toNat-(p.file id).length) zeroS)})
def writeP (p0:DP) (nm:ByteArray) (n:Int) (s:ByteArray):Int × DP :=
 let p:=(failP p0).2
 if (failP p0).1≠0 then ((failP p0).1,p)
 else match findP nm p.now with
  | none=>(7,p)
  | some id =>
   if n<0∨(p.file id).length≤n then (43,p)
   else if s.size≠64 then (2,p)
   else (0,{p with wrs:=p.wrs++[⟨id,n.toNat,s⟩]})
def lookP (p:DP) (nm:ByteArray) (n:Int):Int × ByteArray:=match findP nm p.now with
 | none=>(7,ByteArray.empty)
 | some id=>if n<0∨(p.file id).length≤n then (43,ByteArray.empty) else (0,(p.cont id).getD n.toNat ByteArray.empty)
def readP (p0:DP) (nm:ByteArray) (n:Int):Int × ByteArray × DP :=
 let p:=(failP p0).2
 if (failP p0).1≠0 then ((failP p0).1,ByteArray.empty,p)
 else ((lookP p nm n).1,(lookP p nm n).2,p)
def syncP (p0:DP) (nm:ByteArray):Int × DP :=
 let p:=(failP p0).2
 if (failP p0).1≠0 then ((failP p0).1,p)
 else match findP nm p.now with
  | none=>(7,p)
  | some id=>(0,{p with files:=p.files.set id (p.cont id),wrs:=p.wrs.filter fun x=>decide (x.id≠id)})
def syncdirP (p0:DP):Int × DP :=
 let p:=(failP p0).2
 if (failP p0).1≠0 then ((failP p0).1,p)
 else (0,{p with dir:=p.now,chs:=[]})
def armedP (after code:Int):Bool:=decide (0≤after) && (code==41 || code==42)
def armP (p:DP) (after code:Int):DP:={p with armed:=armedP after code,after:=after,code:=code}
def keepW (fs:List (List ByteArray)) (x:PW):List (List ByteArray):=fs.modify x.id fun l=>l.set x.n x.s
def crashW (keep:List Int):Nat→List PW→List (List ByteArray)→List (List ByteArray)
 | _,[],fs=>fs
 | i,x::l,fs=>crashW keep (i+1) l (if (i:Int)∈keep then keepW fs x else fs)
def crashP (p:DP) (changes:Int) (keep:List Int):DP :=
 {p with dir:=(p.chs.take changes.toNat).foldl turnP p.dir,chs:=[],files:=crashW keep 0 p.wrs p.files,wrs:=[],armed:=false}
def newP (room:Int):DP:=⟨room,[],[],[],[],false,0,0⟩
theorem findP_nil (nm:ByteArray):findP nm []=none:=rfl
theorem findP_cons (nm:ByteArray) (e:En) (d:List En):findP nm (e::d)=if e.nm=nm then some e.id else findP nm d:=by
 unfold findP
 rw [List.find?_cons]
 by_cases h:e.nm=nm
 ·simp [h]
 ·simp [h]
theorem findP_mem {nm:ByteArray} {id:Nat}:∀ {d:List En},findP nm d=some id→(⟨nm,id⟩:En)∈d
 | [],h=>by cases h
 | e::d,h=>by
  rw [findP_cons] at h
  by_cases he:e.nm=nm
  ·rw [if_pos he] at h
   cases h;subst he
   exact List.mem_cons_self
  ·rw [if_neg he] at h
   exact List.mem_cons_of_mem _ (findP_mem h)
theorem findP_none {nm:ByteArray}:∀ {d:List En},findP nm d=none→∀ e∈d,e.nm≠nm
 | [],_,e,h=>by cases h
 | x::d,h,e,he=>by
  rw [findP_cons] at h
  by_cases hx:x.nm=nm
  ·rw [if_pos hx] at h;cases h
  ·rw [if_neg hx] at h
   rcases List.mem_cons.1 he with rfl | he
   ·exact hx
   ·exact findP_none h e he
def names (d:List En):List ByteArray:=d.map (·.nm)
theorem findP_of_mem:∀ {d:List En},(names d).Nodup→∀ {e:En},e∈d→findP e.nm d=some e.id
 | [],_,e,h=>by cases h
 | x::d,hn,e,he=>by
  rw [findP_cons]
  obtain ⟨h1,h2⟩:=List.nodup_cons.1 hn
  rcases List.mem_cons.1 he with rfl | he
  ·rw [if_pos rfl]
  ·rw [if_neg (fun h=>h1 (List.mem_map.2 ⟨e,he,h.symm⟩))]
   exact findP_of_mem h2 he
theorem findP_append (nm:ByteArray) (d:List En) (e:En):findP nm (d++[e])=(findP nm d).or (if e.nm=nm then some e.id else none):=by
 induction d with
 | nil=>rw [List.nil_append,findP_cons];simp [findP_nil]
 | cons x d ih =>
  rw [List.cons_append,findP_cons,findP_cons,ih]
  by_cases h:x.nm=nm
  ·rw [if_pos h,if_pos h];rfl
  ·rw [if_neg h,if_neg h]
theorem findP_filter (nm a:ByteArray) (d:List En):findP nm (d.filter fun e=>decide (e.nm≠a))=if nm=a then none else findP nm d:=by
 induction d with
 | nil=>simp [findP_nil]
 | cons x d ih =>
  rw [List.filter_cons]
  by_cases h:x.nm=a
  ·rw [if_neg (by simp [h]),ih]
   by_cases hn:nm=a
   ·rw [if_pos hn,if_pos hn]
   ·rw [if_neg hn,if_neg hn,findP_cons,if_neg (by rw [h];exact fun e=>hn e.symm)]
  ·rw [if_pos (by simp [h]),findP_cons,findP_cons,ih]
   by_cases hx:x.nm=nm
   ·rw [if_pos hx,if_pos hx,if_neg (by rw [←hx];exact h)]
   ·rw [if_neg hx,if_neg hx]
theorem moved_nm (a b:ByteArray) (hab:a≠b) (nm:ByteArray) (d:List En) (hn:(names d).Nodup):findP nm (d.filterMap fun e=>if e.nm=a then some ⟨b,e.id⟩ else if e.nm=b then none else some e)=if nm=b then findP a d else if nm=a then none else findP nm d:=by
 induction d with
 | nil=>simp [findP_nil]
 | cons x d ih =>
  obtain ⟨h1,h2⟩:=List.nodup_cons.1 hn
  have ih:=ih h2
  rw [List.filterMap_cons]
  by_cases ha:x.nm=a
  ·simp only [if_pos ha]
   rw [findP_cons,ih]
   by_cases hb:nm=b
   ·rw [if_pos hb.symm,if_pos hb,findP_cons,if_pos ha]
   ·rw [if_neg hb,if_neg hb,if_neg (fun e=>hb e.symm)]
    by_cases hna:nm=a
    ·rw [if_pos hna,if_pos hna]
    ·rw [if_neg hna,if_neg hna,findP_cons,if_neg (by rw [ha];exact fun e=>hna e.symm)]
  ·by_cases hxb:x.nm=b
   ·simp only [if_neg ha,if_pos hxb]
    rw [ih]
    by_cases hb:nm=b
    ·rw [if_pos hb,if_pos hb,findP_cons,if_neg ha]
    ·rw [if_neg hb,if_neg hb]
     by_cases hna:nm=a
     ·rw [if_pos hna,if_pos hna]
     ·rw [if_neg hna,if_neg hna,findP_cons,if_neg (by rw [hxb];exact fun e=>hb e.symm)]
   ·simp only [if_neg ha,if_neg hxb]
    rw [findP_cons,ih]
    by_cases hb:nm=b
    ·rw [if_pos hb,if_pos hb,findP_cons,if_neg ha,if_neg (by rw [hb];exact hxb)]
    ·rw [if_neg hb,if_neg hb,findP_cons]
     by_cases hna:nm=a
     ·rw [if_pos hna,if_pos hna,if_neg (by rw [hna];exact ha)]
     ·rw [if_neg hna,if_neg hna]
def turnF {α:Type} (f:ByteArray→Option α) (nf:Nat→α):Ch→ByteArray→Option α
 | .new nm id,x=>if x=nm then some (nf id) else f x
 | .gone nm,x=>if x=nm then none else f x
 | .moved a b,x=>if x=b then f a else if x=a then none else f x
def okCh (d:List En):Ch→Prop
 | .new nm _=>findP nm d=none∧nameOK nm=true∧d.length<8
 | .gone nm=>(findP nm d).isSome
 | .moved a b=>(findP a d).isSome∧nameOK b=true
theorem turnP_find (d:List En) (hn:(names d).Nodup) (c:Ch) (hc:okCh d c) (x:ByteArray):findP x (turnP d c)=turnF (fun y=>findP y d) id c x:=by
 cases c with
 | new nm i =>
  unfold turnP turnF
  rw [findP_append]
  by_cases h:x=nm
  ·subst h
   rw [hc.1];simp
  ·simp only [if_neg h]
   rw [if_neg (fun e=>h (Eq.symm e))]
   cases findP x d <;> rfl
 | gone nm=>exact findP_filter x nm d
 | moved a b =>
  simp only [turnP,turnF]
  by_cases h:a=b
  ·subst h
   rw [if_pos rfl]
   by_cases hx:x=a
   ·rw [if_pos hx,hx]
   ·rw [if_neg hx,if_neg hx]
  ·rw [if_neg h]
   exact moved_nm a b h x d hn
theorem turnP_nodup (d:List En) (hn:(names d).Nodup) (c:Ch) (hc:okCh d c):(names (turnP d c)).Nodup:=by
 cases c with
 | new nm i =>
  simp only [turnP,names]
  rw [List.map_append,List.nodup_append]
  refine ⟨hn,by simp,fun a ha b hb e=>?_⟩
  simp only [List.map_cons,List.map_nil,List.mem_singleton] at hb
  subst hb
  obtain ⟨y,hy,rfl⟩:=List.mem_map.1 ha
  exact findP_none hc.1 y hy e
 | gone nm=>exact hn.sublist (List.filter_sublist.map _)
 | moved a b =>
  simp only [turnP]
  by_cases h:a=b
  ·rw [if_pos h];exact hn
  ·rw [if_neg h]
   clear hc
   induction d with
   | nil=>simp [names]
   | cons x d ih =>
    obtain ⟨h1,h2⟩:=List.nodup_cons.1 hn
    have ih:=ih h2
    have hmem:∀ y,y∈names (d.filterMap fun e=>if e.nm=a then some ⟨b,e.id⟩ else if e.nm=b then none else some e)→(y=b∧a∈names d)∨(y∈names d∧y≠b):=by
     intro y hy
     obtain ⟨e,he,rfl⟩:=List.mem_map.1 hy
     obtain ⟨z,hz,hze⟩:=List.mem_filterMap.1 he
     by_cases hza:z.nm=a
     ·rw [if_pos hza] at hze;cases hze
      exact .inl ⟨rfl,List.mem_map.2 ⟨z,hz,hza⟩⟩
     ·rw [if_neg hza] at hze
      by_cases hzb:z.nm=b
      ·rw [if_pos hzb] at hze;cases hze
      ·rw [if_neg hzb] at hze;cases hze
       exact .inr ⟨List.mem_map.2 ⟨_,hz,rfl⟩,hzb⟩
    rw [List.filterMap_cons]
    by_cases ha:x.nm=a
    ·simp only [if_pos ha]
     refine List.nodup_cons.2 ⟨fun hm=>?_,ih⟩
     rcases hmem _ hm with ⟨_,h3⟩ | ⟨_,h3⟩
     ·rw [←ha] at h3;exact h1 h3
     ·exact h3 rfl
    ·by_cases hb:x.nm=b
     ·simp only [if_neg ha,if_pos hb];exact ih
     ·simp only [if_neg ha,if_neg hb]
      refine List.nodup_cons.2 ⟨fun hm=>?_,ih⟩
      rcases hmem _ hm with ⟨h3,_⟩ | ⟨h3,_⟩
      ·exact hb h3
      ·exact h1 h3
theorem turnP_len (d:List En) (c:Ch) (hc:okCh d c) (h:d.length≤8):(turnP d c).length≤8:=by
 cases c with
 | new nm i=>simp only [turnP];rw [List.length_append];have:=hc.2.2;simp;omega
 | gone nm=>exact Nat.le_trans (List.length_filter_le _ _) h
 | moved a b =>
  simp only [turnP]
  by_cases hh:a=b
  ·rw [if_pos hh];exact h
  ·rw [if_neg hh];exact Nat.le_trans (List.length_filterMap_le _ _) h
theorem turnP_name (d:List En) (c:Ch) (hc:okCh d c) (h:∀ e∈d,nameOK e.nm=true):∀ e∈turnP d c,nameOK e.nm=true:=by
 cases c with
 | new nm i =>
  intro e he
  rcases List.mem_append.1 he with he | he
  ·exact h e he
  ·obtain rfl:=List.mem_singleton.1 he;exact hc.2.1
 | gone nm=>exact fun e he=>h e (List.mem_filter.1 he).1
 | moved a b =>
  simp only [turnP]
  by_cases hh:a=b
  ·rw [if_pos hh];exact h
  ·rw [if_neg hh]
   intro e he
   obtain ⟨z,hz,hze⟩:=List.mem_filterMap.1 he
   by_cases hza:z.nm=a
   ·rw [if_pos hza] at hze;cases hze;exact hc.2
   ·rw [if_neg hza] at hze
    by_cases hzb:z.nm=b
    ·rw [if_pos hzb] at hze;cases hze
    ·rw [if_neg hzb] at hze;cases hze;exact h _ hz
def Ch.ids:Ch→List Nat
 | .new _ i=>[i]
 | _=>[]
theorem turnP_ids (d:List En) (c:Ch):∀ e∈turnP d c,e.id∈d.map (·.id)++c.ids:=by
 cases c with
 | new nm i =>
  intro e he
  rcases List.mem_append.1 he with he | he
  ·exact List.mem_append_left _ (List.mem_map.2 ⟨e,he,rfl⟩)
  ·obtain rfl:=List.mem_singleton.1 he;exact List.mem_append_right _ (by simp [Ch.ids])
 | gone nm=>exact fun e he=>List.mem_append_left _ (List.mem_map.2 ⟨e,(List.mem_filter.1 he).1,rfl⟩)
 | moved a b =>
  simp only [turnP]
  by_cases hh:a=b
  ·rw [if_pos hh];exact fun e he=>List.mem_append_left _ (List.mem_map.2 ⟨e,he,rfl⟩)
  ·rw [if_neg hh]
   intro e he
   obtain ⟨z,hz,hze⟩:=List.mem_filterMap.1 he
   refine List.mem_append_left _ (List.mem_map.2 ⟨z,hz,?_⟩)
   by_cases hza:z.nm=a
   ·rw [if_pos hza] at hze;cases hze;rfl
   ·rw [if_neg hza] at hze
    by_cases hzb:z.nm=b
    ·rw [if_pos hzb] at hze;cases hze
    ·rw [if_neg hzb] at hze;cases hze;rfl
def okChs:List En→List Ch→Prop
 | _,[]=>True
 | d,c::l=>okCh d c∧okChs (turnP d c) l
theorem okChs_append:∀ {l:List Ch} {d:List En} {c:Ch},okChs d (l++[c])↔okChs d l∧okCh (l.foldl turnP d) c
 | [],d,c=>by simp [okChs]
 | x::l,d,c=>by
  show (okCh d x∧okChs (turnP d x) (l++[c]))↔(okCh d x∧okChs (turnP d x) l)∧okCh (l.foldl turnP (turnP d x)) c
  rw [okChs_append]
  exact and_assoc.symm
theorem okChs_take:∀ {l:List Ch} {d:List En} (k:Nat),okChs d l→okChs d (l.take k)
 | [],d,k,h=>by simp [okChs]
 | x::l,d,0,h=>trivial
 | x::l,d,k+1,h=>⟨h.1,okChs_take k h.2⟩
structure DirOK (d:List En):Prop where
 nodup:(names d).Nodup
 len:d.length≤8
 name:∀ e∈d,nameOK e.nm=true
theorem DirOK.turn {d:List En} (h:DirOK d) {c:Ch} (hc:okCh d c):DirOK (turnP d c):=⟨turnP_nodup d h.nodup c hc,turnP_len d c hc h.len,turnP_name d c hc h.name⟩
theorem DirOK.fold:∀ {l:List Ch} {d:List En},DirOK d→okChs d l→DirOK (l.foldl turnP d)
 | [],d,h,_=>h
 | c::l,d,h,hc=>DirOK.fold (l:=l) (d:=turnP d c) (h.turn hc.1) hc.2
theorem fold_ids:∀ {l:List Ch} {d:List En},∀ e∈l.foldl turnP d,e.id∈d.map (·.id)++l.flatMap Ch.ids
 | [],d,e,h=>by simpa using ⟨e,h,rfl⟩
 | c::l,d,e,h=>by
  have:=fold_ids (l:=l) (d:=turnP d c) e h
  rw [List.flatMap_cons]
  rcases List.mem_append.1 this with h1 | h1
  ·obtain ⟨x,hx,hxe⟩:=List.mem_map.1 h1
   have:=turnP_ids d c x hx
   rw [hxe] at this
   rcases List.mem_append.1 this with h2 | h2
   ·exact List.mem_append_left _ h2
   ·exact List.mem_append_right _ (List.mem_append_left _ h2)
  ·exact List.mem_append_right _ (List.mem_append_right _ h1)
def DP.live (p:DP):List Nat:=p.dir.map (·.id)++p.chs.flatMap Ch.ids++p.wrs.map (·.id)
theorem DP.now_live (p:DP):∀ e∈p.now,e.id∈p.live:=fun e he=>List.mem_append_left _ (fold_ids e he)
structure WF (p:DP):Prop where
 dir:DirOK p.dir
 chs:okChs p.dir p.chs
 ids:∀ i∈p.live,i<p.files.length
 wrs:∀ x∈p.wrs,x.n<(p.file x.id).length∧x.s.size=64
 files:∀ l∈p.files,l.length≤4096∧∀ s∈l,s.size=64
 room:0≤p.room∧p.room≤4096
theorem WF.now {p:DP} (h:WF p):DirOK p.now:=h.dir.fold h.chs
theorem WF.file_len {p:DP} (h:WF p) (i:Nat):(p.file i).length≤4096:=by
 unfold DP.file
 rw [List.getD_eq_getElem?_getD]
 cases e:p.files[i]? with
 | none=>simp
 | some l=>exact (h.files l (List.mem_of_getElem? e)).1
theorem putW_len (id:Nat) (x:PW) (l:List ByteArray):(putW id l x).length=l.length:=by
 unfold putW;split <;> simp
theorem foldW_len (id:Nat):∀ (ws:List PW) (l:List ByteArray),(ws.foldl (putW id) l).length=l.length
 | [],l=>rfl
 | x::ws,l=>(foldW_len id ws (putW id l x)).trans (putW_len id x l)
theorem DP.cont_len (p:DP) (id:Nat):(p.cont id).length=(p.file id).length:=foldW_len id p.wrs _
end
section
open Go.RowKit
def RowX (X:Nat→Prop) (w:World) (e size:Nat) (v:Value) (n:Nat) (xs:List Value):Prop:=w.ownsRow 0 e size v n xs∧∀ k,v.ownBlock=some k→X k
section
variable {X X':Nat→Prop} {w w':World} {e size n:Nat} {v:Value} {xs:List Value}
theorem RowX.keep (h:RowX X w e size v n xs) (hs:∀ k cs,X k→v.ownBlock=some k→w.heap[k]?=some (.cells cs e (0,0))→w'.heap[k]?=some (.cells cs e (0,0))) (hX:∀ k,X k→X' k):RowX X' w' e size v n xs:=by
 refine ⟨⟨h.1.1,h.1.2.imp id ?_⟩,fun k hk=>hX k (h.2 k hk)⟩
 rintro ⟨g,cap,cur,rfl,h1,h2,h3⟩
 exact ⟨g,cap,cur,rfl,h1,hs g cur (h.2 g rfl) rfl h2,h3⟩
theorem RowX.form (h:RowX X w e size v n xs):∃ A c,v=.slice A n c:=own_formN h.1
theorem RowX.lt (h:RowX X w e size v n xs) {k:Nat} (hk:v.ownBlock=some k):k<w.heap.size:=(h.1.lt k hk).2
theorem RowX.nil:RowX X w e size (.slice none 0 0) 0 []:=⟨World.ownsRow_nil _ _ _ _,fun k hk=>by cases hk⟩
theorem own_base {B:Nat} (h:w.ownsRow B e size v n xs):w.ownsRow 0 e size v n xs:=⟨h.1,h.2.imp id fun ⟨g,cap,cur,e1,_,r⟩=>⟨g,cap,cur,e1,Nat.zero_le _,r⟩⟩
theorem RowX.of_own {B:Nat} (h:w.ownsRow B e size v n xs) (hX:∀ k,v.ownBlock=some k→X k):RowX X w e size v n xs:=⟨own_base h,hX⟩
theorem RowX.block (h:RowX X w e size v n xs) {k:Nat} (hk:v.ownBlock=some k):∃ cur,w.heap[k]?=some (.cells cur e (0,0)):=by
 rcases h.1.2 with ⟨rfl,_⟩ | ⟨g,cap,cur,rfl,_,h2,_⟩
 ·cases hk
 ·cases hk;exact ⟨cur,h2⟩
theorem RowX.row (h:RowX X w e size v n xs) (h0:0<n):∃ (g c:Nat) (cur:Array Value),v=.slice (some ⟨g,0,none⟩) n c∧X g∧Blk w g e cur∧n*size≤cur.size∧∀ (j:Nat) (u:Value),xs[j]?=some u→cur[j]?=some u:=by
 rcases h.1.2 with ⟨_,h1⟩ | ⟨g,cap,cur,rfl,_,h2,h3,h4,h5,h6⟩
 ·omega
 ·refine ⟨g,cap,cur,rfl,h.2 g rfl,h2,by rw [h5];exact Nat.mul_le_mul_right _ h3,fun j u hu=>?_⟩
  rw [←h6,List.getElem?_take] at hu
  by_cases hlt:j<n*size
  ·rw [if_pos hlt] at hu;simpa using hu
  ·rw [if_neg hlt] at hu;cases hu
theorem RowX.reads (h:RowX X w e size v n xs) {A:Option Addr} {c:Nat} (hv:v=.slice A n c):Reads w w.heap.size size A n xs:=Reads.of_own (hv ▸ h.1)
end
def upd {α:Type} (C:Nat→Bool→α) (f:Nat) (b:Bool) (x:α):Nat→Bool→α:=fun g a=>if g=f∧a=b then x else C g a
theorem upd_at {α:Type} (C:Nat→Bool→α) (f:Nat) (b:Bool) (x:α):upd C f b x f b=x:=if_pos ⟨rfl,rfl⟩
theorem upd_ne {α:Type} (C:Nat→Bool→α) {f g:Nat} {b a:Bool} (x:α) (h:¬ (g=f∧a=b)):upd C f b x g a=C g a:=if_neg h
structure FilesV (X:Nat→Prop) (w:World) (fs:List Nat) (V:Nat→Bool→Value) (C:Nat→Bool→List ByteArray):Prop where
 blk:∀ f∈fs,Blk w f 103 #[V f false,V f true]
 inX:∀ f∈fs,X f
 row:∀ f∈fs,∀ b,RowX X w 101 1 (V f b) (C f b).length (strs (C f b))
 inj:∀ f∈fs,∀ g∈fs,∀ a b k,(V f a).ownBlock=some k→(V g b).ownBlock=some k→f=g∧a=b
def FT (t:Nat):Prop:=t=103∨t=101
def Same (T:Nat→Prop) (X:Nat→Prop) (w w':World):Prop:=∀ k cs t,T t→X k→w.heap[k]?=some (.cells cs t (0,0))→w'.heap[k]?=some (.cells cs t (0,0))
theorem Same.trans {T X:Nat→Prop} {a b c:World} (h:Same T X a b) (k:Same T X b c):Same T X a c:=fun i cs t ht hx hi=>k i cs t ht hx (h i cs t ht hx hi)
theorem Same.refl {T X:Nat→Prop} {a:World}:Same T X a a:=fun _ _ _ _ _ h=>h
theorem Same.of_fr {T X Y:Nat→Prop} {w w':World} (hf:Fr Y w w') (h:∀ k,X k→Y k→∀ cs t,T t→w.heap[k]?≠some (.cells cs t (0,0))):Same T X w w':=fun k cs t ht hx hk=>hf.heap hk (fun hy=>h k hx hy cs t ht hk)
theorem Same.of_below {T X:Nat→Prop} {w w':World} (hb:Below w.heap.size w w'):Same T X w w':=fun k cs t ht hx hk=>(hb.block k (Array.getElem?_eq_some_iff.1 hk).1).trans hk
section
variable {X X':Nat→Prop} {w w' w1:World} {fs:List Nat} {V:Nat→Bool→Value} {C:Nat→Bool→List ByteArray}
theorem FilesV.keep (h:FilesV X w fs V C) (hX:∀ k,X k→X' k) (hs:Same FT X w w'):FilesV X' w' fs V C :=
 ⟨fun f hf=>hs f _ _ (.inl rfl) (h.inX f hf) (h.blk f hf),fun f hf=>hX f (h.inX f hf),fun f hf b=>(h.row f hf b).keep (fun k cs hx _ hk=>hs k cs _ (.inr rfl) hx hk) hX,h.inj⟩
theorem FilesV.sub (h:FilesV X w fs V C) {fs':List Nat} (hs:∀ f∈fs',f∈fs):FilesV X w fs' V C :=
 ⟨fun f hf=>h.blk f (hs f hf),fun f hf=>h.inX f (hs f hf),fun f hf=>h.row f (hs f hf),fun f hf g hg=>h.inj f (hs f hf) g (hs g hg)⟩
theorem FilesV.ne (h:FilesV X w fs V C) {f g:Nat} {b:Bool} {k:Nat} (hf:f∈fs) (hg:g∈fs) (hk:(V g b).ownBlock=some k):f≠k:=by
 rintro rfl
 obtain ⟨cur,h1⟩:=(h.row g hg b).block hk
 have h2:=h.blk f hf
 unfold Blk at h2
 rw [h2] at h1
 cases h1
theorem FilesV.set (h:FilesV X w fs V C) {f g m c n:Nat} {b:Bool} (hf:f∈fs) (hV:V f b=.slice (some ⟨g,0,none⟩) m c) (hn:n<(C f b).length) (s:ByteArray) :
 FilesV X (w.setCell ⟨g,n,none⟩ (.string s)) fs V (upd C f b ((C f b).set n s)):=by
 have hk:(V f b).ownBlock=some g:=by rw [hV];rfl
 have hoth:∀ k,k≠g→(w.setCell ⟨g,n,none⟩ (.string s)).heap[k]?=w.heap[k]?:=fun k hk=>Below.heap_setCell _ _ _ _ hk
 refine ⟨fun f' hf'=>(hoth f' (h.ne hf' hf hk)).trans (h.blk f' hf'),h.inX,fun f' hf' b'=>?_,h.inj⟩
 by_cases he:f'=f∧b'=b
 ·obtain ⟨rfl,rfl⟩:=he
  rw [upd_at]
  have hr:=h.row f' hf b'
  refine ⟨⟨by simp [strs],?_⟩,hr.2⟩
  rcases hr.1.2 with ⟨h1,h2⟩ | ⟨g',cap,cur,h1,h2,h3,h4,h5,h6,h7⟩
  ·omega
  ·rw [hV] at h1
   simp only [Value.slice.injEq,Option.some.injEq,Addr.mk.injEq] at h1
   obtain ⟨⟨rfl,_⟩,rfl,rfl⟩:=h1
   refine .inr ⟨g,c,cur.setIfInBounds n (.string s),?_,h2,(show Blk w g 101 cur from h3).set_ n (.string s),?_,h5,by simpa using h6,?_⟩
   ·rw [hV];simp
   ·simpa using h4
   ·rw [Array.toList_setIfInBounds,List.length_set,List.take_set,h7]
    simp [strs]
 ·rw [upd_ne _ _ he]
  refine (h.row f' hf' b').keep (fun k cs hx hk' h3=>(hoth k (fun e=>?_)).trans h3) (fun k hx=>hx)
  subst e
  obtain ⟨e1,e2⟩:=h.inj f' hf' f hf b' b k hk' hk
  exact he ⟨e1,e2⟩
theorem FilesV.turn (h:FilesV X w fs V C) {f:Nat} {b:Bool} {v':Value} {l':List ByteArray} (hf:f∈fs) (hX:∀ k,X k→X' k)
 (hs:∀ k cs t,FT t→X k→some k≠(V f b).ownBlock→w.heap[k]?=some (.cells cs t (0,0))→w1.heap[k]?=some (.cells cs t (0,0)))
 (hr:RowX X' w1 101 1 v' l'.length (strs l')) (ho:v'.ownBlock=(V f b).ownBlock∨∀ k,v'.ownBlock=some k→¬ X k) :
 FilesV X' (w1.setCell ⟨f,if b then 1 else 0,none⟩ v') fs (upd V f b v') (upd C f b l'):=by
 have hbk:∀ g∈fs,Blk w1 g 103 #[V g false,V g true]:=fun g hg=>hs g _ _ (.inl rfl) (h.inX g hg) (fun e=>h.ne hg hf e.symm rfl) (h.blk g hg)
 have hoth:∀ k,k≠f→(w1.setCell ⟨f,if b then 1 else 0,none⟩ v').heap[k]?=w1.heap[k]?:=fun k hk=>Below.heap_setCell _ _ _ _ hk
 have hrow:∀ g∈fs,∀ a,¬ (g=f∧a=b)→RowX X' w1 101 1 (V g a) (C g a).length (strs (C g a)):=fun g hg a hne =>
  (h.row g hg a).keep (fun k cs hx hk h3=>hs k cs _ (.inr rfl) hx (fun e=>hne (h.inj g hg f hf a b k hk e.symm)) h3) hX
 have hfr:∀ (v:Value) (n:Nat) (xs:List Value),RowX X' w1 101 1 v n xs→RowX X' (w1.setCell ⟨f,if b then 1 else 0,none⟩ v') 101 1 v n xs:=fun v n xs hv =>
  hv.keep (fun k cs hx hk h3=>(hoth k (fun e=>by subst e;have h2:=hbk k hf;unfold Blk at h2;rw [h2] at h3;cases h3)).trans h3) (fun k hx=>hx)
 refine ⟨fun g hg=>?_,fun g hg=>hX g (h.inX g hg),fun g hg a=>?_,fun g hg g' hg' a a' k hk hk'=>?_⟩
 ·by_cases e:g=f
  ·subst e
   have h2:=(hbk g hf).set_ (if b then 1 else 0) v'
   cases b with
   | false=>simpa [upd] using h2
   | true=>simpa [upd] using h2
  ·rw [upd_ne _ _ (fun h=>e h.1),upd_ne _ _ (fun h=>e h.1)]
   exact (hoth g e).trans (hbk g hg)
 ·by_cases e:g=f∧a=b
  ·obtain ⟨rfl,rfl⟩:=e
   rw [upd_at,upd_at]
   exact hfr _ _ _ hr
  ·rw [upd_ne _ _ e,upd_ne _ _ e]
   exact hfr _ _ _ (hrow g hg a e)
 ·by_cases e:g=f∧a=b
  ·by_cases e':g'=f∧a'=b
   ·exact ⟨e.1.trans e'.1.symm,e.2.trans e'.2.symm⟩
   ·rw [upd_ne _ _ e'] at hk'
    obtain ⟨rfl,rfl⟩:=e
    rw [upd_at] at hk
    rcases ho with ho | ho
    ·rw [ho] at hk;exact h.inj g hf g' hg' a a' k hk hk'
    ·exact absurd ((h.row g' hg' a').2 k hk') (ho k hk)
  ·rw [upd_ne _ _ e] at hk
   by_cases e':g'=f∧a'=b
   ·obtain ⟨rfl,rfl⟩:=e'
    rw [upd_at] at hk'
    rcases ho with ho | ho
    ·rw [ho] at hk';exact h.inj g hg g' hf a a' k hk hk'
    ·exact absurd ((h.row g hg a).2 k hk) (ho k hk')
   ·rw [upd_ne _ _ e'] at hk'
    exact h.inj g hg g' hg' a a' k hk hk'
theorem FilesV.new (h:FilesV X w fs V C) (hX:∀ k,X k→X' k) (hn:X' w.heap.size) :
 FilesV X' (w.alloc (.cells #[.slice none 0 0,.slice none 0 0] 103)) (w.heap.size::fs) (fun f b=>if f=w.heap.size then .slice none 0 0 else V f b) (fun f b=>if f=w.heap.size then [] else C f b):=by
 have hlt:∀ f∈fs,f≠w.heap.size:=fun f hf=>Nat.ne_of_lt (h.blk f hf).lt
 have h1:=h.keep hX (Same.of_below (w':=w.alloc (.cells #[.slice none 0 0,.slice none 0 0] 103)) ((Below.refl _ w).alloc (Nat.le_refl _) _))
 refine ⟨fun f hf=>?_,fun f hf=>?_,fun f hf b=>?_,fun f hf g hg a b k hk hk'=>?_⟩
 ·rcases List.mem_cons.1 hf with rfl | hf
  ·simp only [if_pos rfl];exact Blk.new w _ _
  ·simp only [if_neg (hlt f hf)];exact h1.blk f hf
 ·rcases List.mem_cons.1 hf with rfl | hf
  ·exact hn
  ·exact h1.inX f hf
 ·rcases List.mem_cons.1 hf with rfl | hf
  ·simp only [if_pos rfl];exact RowX.nil
  ·simp only [if_neg (hlt f hf)];exact h1.row f hf b
 ·rcases List.mem_cons.1 hf with rfl | hf
  ·simp only [if_pos rfl] at hk;cases hk
  ·simp only [if_neg (hlt f hf)] at hk
   rcases List.mem_cons.1 hg with rfl | hg
   ·simp only [if_pos rfl] at hk';cases hk'
   ·simp only [if_neg (hlt g hg)] at hk'
    exact h.inj f hf g hg a b k hk hk'
end
end
end Go.Proofs.YtekajggjoeimoaaGreatDoor
