/- A part of the proof of PoolBack. No condition of its own. -/
import Derived.Test.YtenfkghoolegfaaGreatDoorVz
import Derived.Test.YtenfkghoolegfaaGreatDoorVa
import Derived.Test.YtenfkghoolegfaaGreatDoorVc
import Derived.Test.YtenfkghoolegfaaGreatDoorVd
import Derived.StillTail
import Derived.Deep.RegionHeld3
import Derived.Deep.RegionLaw
import Derived.Lib.AppendZerosOnto
import Derived.Lib.SliceRun
import Derived.LoopTactic
import Derived.WalkKit
import Derived.Outline
import Derived.Laws.BitsAllLaws
import Derived.WalkSpells
import Derived.WalkLawsBesides
import Derived.Deep.WholeRow
import Derived.Laws.CopyOwn
import Derived.Deep.QuietTactic
import Derived.BigQuiet
set_option maxHeartbeats 8000000
set_option maxRecDepth 1000000
set_option linter.unusedVariables false
namespace Go.Proofs.YtenfkghoolegfaaGreatDoor
section
section
variable {P:Program} {ops:Array Oper} {Q:Exit->Act->World->Prop} {md:Region.Mode} {S:World->Prop} {n:Nat}
def wpAnyE (P:Program) (md:Region.Mode) (ops:Array Oper) (Q:Exit->Act->World->Prop) (S:World->Prop) (n:Nat):Nat->Array Bool->Act->World->Prop
 | 0,listed,a,w=>Region.ready md ops listed=[]/\Q .normal a w
 | fuel+1,listed,a,w =>
  (Region.ready md ops listed=[]->Q .normal a w) /\
  ∀ i∈Region.ready md ops listed,wpOp P ops Q i (fun a' w'=>(i<n->S w')/\wpAnyE P md ops Q S n fuel (listed.setIfInBounds i true) a' w') a w
theorem wpAny_of_E:∀ (fuel:Nat) (listed:Array Bool) (a:Act) (w:World),wpAnyE P md ops Q S n fuel listed a w->wpAny P md ops Q fuel listed a w
 | 0,_,_,_,h=>h
 | fuel+1,_,_,_,h=>⟨h.1,fun i hi=>wpOp_mono (fun a' w' h'=>wpAny_of_E fuel _ a' w' h'.2) (h.2 i hi)⟩
theorem wpAnyE_first {i:Nat} {oi:Oper} {v:Value} (hi:ops[i]?=some oi) (hsel:∀ (j:Nat) (o:Oper) cs b,ops[j]?=some o->o.op≠.select cs b)
 (hQ:∀ c a w,Q (.panic c) (a.put oi.dst v) w->Q (.panic c) a w) (hs:Region.sinkB md ops n=true) (hc:Region.chainB md ops n=true) (hn:n<ops.size) (hin:i<n) :
 ∀ (fuel:Nat) (listed:Array Bool) (a:Act) (w:World),HeadInv md ops n listed ->
  (∀ j oj,ops[j]?=some oj->j≠i->listed.getD j true=false->(∀ e∈oj.after,Region.binds md e=true->e.on≠i)->oi.apart ops oj=true) ->
  i∈Region.ready md ops listed->YieldsIf P ops S oi v a->S w ->
  wpAnyE P md ops Q S n fuel (listed.setIfInBounds i true) (a.put oi.dst v) w->wpAnyE P md ops Q S n (fuel+1) listed a w:=by
 intro fuel
 induction fuel with
 | zero =>
  intro listed a w _ _ hr hy hS H;refine ⟨fun h=>(by rw [h] at hr;cases hr),fun j hj=>?_⟩;by_cases hji:j=i
  ·subst hji;exact hy.wpOp hi hS ⟨fun _=>hS,H⟩
  ·have:=ready_mono hj hji;rw [H.1] at this
   cases this
 | succ fuel ih =>
  intro listed a w inv hfree hr hy hS H;have hun:=(mem_ready.1 hr).1;refine ⟨fun h=>(by rw [h] at hr;cases hr),fun j hj=>?_⟩;by_cases hji:j=i
  ·subst hji;exact hy.wpOp hi hS ⟨fun _=>hS,H⟩
  ·have hjn:j<n:=by
    rcases Nat.lt_or_ge j n with h | h
    ·exact h
    ·exact absurd hj (tail_waits hs hc hn inv _ i rfl hin hun j h)
   have h1:=H.2 j (ready_mono hj hji);obtain ⟨hjun,oj,hoj,hall⟩:=mem_ready.1 hj
   have hnot:∀ e∈oj.after,Region.binds md e=true->e.on≠i:=fun e he hb heq=>by
    have h1:=hall e he hb;rw [heq,getD_both hun] at h1
    cases h1
   have h2:=wpOp_putIf hoj (hfree j oj hoj hji hjun hnot) (fun cs b=>hsel i oi cs b hi) (fun cs b=>hsel j oj cs b hoj) hQ hy h1
   have hfree':∀ k ok,ops[k]?=some ok->k≠i->(listed.setIfInBounds j true).getD k true=false ->
    (∀ e∈ok.after,Region.binds md e=true->e.on≠i)->oi.apart ops ok=true:=fun k ok hk hki hu hno=>by
    refine hfree k ok hk hki ?_ hno;by_cases hjk:j=k
    ·subst hjk;exact hjun
    ·rw [getD_set_ne true hjk] at hu;exact hu
   refine wpOp_mono (fun a' w' h3=>⟨h3.2.1,ih (listed.setIfInBounds j true) a' w' (inv.set hj hjn) hfree' (ready_mono hr (Ne.symm hji)) h3.1 (h3.2.1 hjn) ?_⟩) h2;rw [Array.setIfInBounds_comm _ _ hji];exact h3.2.2
structure Tl (md:Region.Mode) (ops:Array Oper) (n:Nat) (listed:Array Bool):Prop where
 sink:Region.sinkB md ops n=true
 chain:Region.chainB md ops n=true
 lt:n<ops.size
 sel:Region.noSelect ops=true
 inv:HeadInv md ops n listed
theorem takeE {listed:Array Bool} (i:Nat) {oi:Oper} {v:Value} {fuel:Nat} {a:Act} {w:World} (T:Tl md ops n listed) (hi:ops.toList[i]?=some oi) (hin:i<n)
 (hf:Region.free md ops listed i=true) (hr:(Region.ready md ops listed).contains i=true) (hQ:∀ c a w,Q (.panic c) (a.put oi.dst v) w->Q (.panic c) a w) (hS:S w) (hy:YieldsIf P ops S oi v a)
 (h:Tl md ops n (listed.setIfInBounds i true)->wpAnyE P md ops Q S n fuel (listed.setIfInBounds i true) (a.put oi.dst v) w):wpAnyE P md ops Q S n (fuel+1) listed a w:=by
 have hi':ops[i]?=some oi:=by rw [<-Array.getElem?_toList];exact hi
 have hr':i∈Region.ready md ops listed:=by simpa using hr
 exact wpAnyE_first hi' (Region.noSelect_spec T.sel) hQ T.sink T.chain T.lt hin fuel listed a w T.inv (Region.free_spec hi' hf) hr' hy hS (h ⟨T.sink,T.chain,T.lt,T.sel,T.inv.set hr' hin⟩)
theorem pT:(∀ (a:Act) (d:Nat) (v:Value),a.put (some d) v={a with tmps:=a.tmps.setIfInBounds d v})/\(∀ (a:Act) (v:Value),a.put none v=a)/\(∀ (l:List Value) (i:Nat) (v:Value),l.toArray.setIfInBounds i v=(l.set i v).toArray)/\(∀ (x v:Value) (l:List Value),(x::l).set 0 v=v::l)/\(∀ (x v:Value) (l:List Value) (i:Nat),(x::l).set (i+1) v=x::l.set i v) :=
 ⟨fun _ _ _=>rfl,fun _ _=>rfl,fun _ _ _=>by simp,fun _ _ _=>rfl,fun _ _ _ _=>rfl⟩
theorem tkT {listed:Array Bool} (i:Nat) {oi:Oper} {v:Value} {fuel:Nat} {a:Act} {w:World} (T:Tl md ops n listed) (hS:S w) (hi:ops.toList[i]?=some oi) (hy:∀ w,S w->(execOp a.eval oi).run P w=.ok (.value v) w)
 (h:Tl md ops n (listed.setIfInBounds i true)->wpAnyE P md ops Q S n fuel (listed.setIfInBounds i true) (a.put oi.dst v) w)
 (hw:Region.wanted oi (yielded ops a.tmps)=true:=by rfl) (hQ:∀ c a w,Q (.panic c) (a.put oi.dst v) w->Q (.panic c) a w:=by exact fun _ _ _ h=>h)
 (hin:i<n:=by decide) (hf:Region.free md ops listed i=true:=by kernel_rfl) (hr:(Region.ready md ops listed).contains i=true:=by kernel_rfl):wpAnyE P md ops Q S n (fuel+1) listed a w :=
 takeE i T hi hin hf hr hQ hS (Or.inl ⟨hw,hy⟩) h
theorem tkU {listed:Array Bool} (i:Nat) {oi:Oper} {fuel:Nat} {a:Act} {w:World} (T:Tl md ops n listed) (hS:S w) (hi:ops.toList[i]?=some oi)
 (h:Tl md ops n (listed.setIfInBounds i true)->wpAnyE P md ops Q S n fuel (listed.setIfInBounds i true) (a.put oi.dst undef) w)
 (hw:Region.wanted oi (yielded ops a.tmps)=false:=by rfl) (hQ:∀ c a w,Q (.panic c) (a.put oi.dst undef) w->Q (.panic c) a w:=by exact fun _ _ _ h=>h)
 (hin:i<n:=by decide) (hf:Region.free md ops listed i=true:=by kernel_rfl) (hr:(Region.ready md ops listed).contains i=true:=by kernel_rfl):wpAnyE P md ops Q S n (fuel+1) listed a w :=
 takeE i T hi hin hf hr hQ hS (Or.inr ⟨hw,rfl⟩) h
theorem oneE {listed:Array Bool} (i:Nat) {o:Oper} {fuel:Nat} {a:Act} {w:World} (hi:ops.toList[i]?=some o) (hr:Region.ready md ops listed=[i])
 (h:∀ K':Act->World->Prop,Shut (∀ a w,(i<n->S w)->wpAnyE P md ops Q S n fuel (listed.setIfInBounds i true) a w->K' a w)->if Region.wanted o (yielded ops a.tmps)=true then Oper.wp P o a w K' Q else K' (a.put o.dst undef) w) :
 wpAnyE P md ops Q S n (fuel+1) listed a w:=by
 have hi':ops[i]?=some o:=by rw [<-Array.getElem?_toList];exact hi
 refine ⟨fun h0=>absurd (hr ▸ h0) (by simp),fun j hj=>?_⟩;rw [hr] at hj;obtain rfl:=List.mem_singleton.1 hj;exact wpOp_step hi' (fun K' hK=>h K' (fun a w hS hW=>hK a w ⟨hS,hW⟩))
theorem doneE {listed:Array Bool} {a:Act} {w:World} (hr:Region.ready md ops listed=[]) (h:Q .normal a w):∀ fuel,wpAnyE P md ops Q S n fuel listed a w
 | 0=>⟨hr,h⟩
 | _+1=>⟨fun _=>h,by rw [hr];simp⟩
theorem regionE (n:Nat) {id:Nat} {a:Act} {w:World} (S:World->Prop) (hm:P.follows .mixedOrders=true) (hs:Region.sinkB .any ops n=true) (hc:Region.chainB .any ops n=true) (hn:decide (n<ops.size)=true) (hsel:Region.noSelect ops=true)
 (hS:S w.drew) (h:S w.drew->Tl .any ops n (Array.replicate ops.size false)->wpAnyE P .any ops Q S n ops.size (Array.replicate ops.size false) a w.drew):(Code.region id ops true).wp P Q a w :=
 wp_region_any hm (wpAny_of_E _ _ _ _ (h hS ⟨hs,hc,of_decide_eq_true hn,hsel,⟨by simp,(fun j oj _ hl=>by rw [getD_replicate_false] at hl;cases hl),(fun t _ ht=>by simp [ht])⟩⟩))
end
section
variable {P:Program} {ops:Array Oper} {Q:Exit->Act->World->Prop} {md:Region.Mode} {S S':World->Prop} {n:Nat}
theorem Tl.step {listed:Array Bool} (T:Tl md ops n listed) (i:Nat) (hr:(Region.ready md ops listed).contains i=true) (hin:i<n):Tl md ops n (listed.setIfInBounds i true) :=
 ⟨T.sink,T.chain,T.lt,T.sel,T.inv.set (by simpa using hr) hin⟩
end
open Go.RowKit
theorem step_callW {P:Program} {ops:Array Oper} {o:Oper} {a:Act} {w:World} {K:Act->World->Prop} {Q:Exit->Act->World->Prop} {E:Prop} (hw:Region.wanted o (yielded ops a.tmps)=true) (f:FuncId) (args:Array Value) (hrun:(execOp a.eval o).run P w=.ok (.enter f args) w)
 {R:Ending->World->Prop} (hc:Calls P f args w R) (hR:∀ e w',R e w'->∃ v,e=.returned v/\K (a.put o.dst v) w'):if Region.wanted o (yielded ops a.tmps)=true then Oper.wp P o a w K Q else E:=by
 rw [if_pos hw];unfold Oper.wp;rw [hrun,Oper.upon_enter];refine hc.mono fun e w'' hh=>?_;obtain ⟨v,rfl,hk⟩:=hR e w'' hh;exact hk
theorem sC {P:Program} {ops:Array Oper} {o:Oper} {a:Act} {w:World} {K:Act->World->Prop} {Q:Exit->Act->World->Prop} {E:Prop} (hgd:o.guard=none) (f:FuncId) (args:Array Value) (hrun:(execOp a.eval o).run P w=.ok (.enter f args) w)
 {R:Ending->World->Prop} (hc:Calls P f args w R) (hR:∀ e w',R e w'->∃ v,e=.returned v/\K (a.put o.dst v) w'):if Region.wanted o (yielded ops a.tmps)=true then Oper.wp P o a w K Q else E:=by
 have hw:Region.wanted o (yielded ops a.tmps)=true:=by simp [Region.wanted,hgd]
 rw [if_pos hw];unfold Oper.wp;rw [hrun,Oper.upon_enter];refine hc.mono fun e w'' hh=>?_;obtain ⟨v,rfl,hk⟩:=hR e w'' hh;exact hk
theorem own_formN {w:World} {B e size n:Nat} {v:Value} {xs:List Value} (h:w.ownsRow B e size v n xs):∃ A c,v=.slice A n c:=by
 rcases h.2 with ⟨rfl,rfl⟩ | ⟨g,cap,cur,rfl,_⟩
 ·exact ⟨_,_,rfl⟩
 ·exact ⟨_,_,rfl⟩
structure SlT (P:Program) (t e:TypeId) (size bytes:Nat):Prop where
 under:P.underlying t=some (.slice e)
 info:∃ i z,P.info? e=some i/\i.zero=some z/\i.size=size/\i.bytes=bytes/\z.cells.size=size
 pos:0<size
 few:bytes<=1000
theorem SlT.of {P:Program} {t e:TypeId} {size bytes:Nat} {z:Value} (hu:P.underlying t=some (.slice e)) (hi:(P.info? e).map (fun i=>(i.zero,i.size,i.bytes))=some (some z,size,bytes)) (hz:z.cells.size=size) (h0:0<size) (hf:bytes<=1000):SlT P t e size bytes:=by
 cases h:P.info? e with
 | none=>rw [h] at hi;cases hi
 | some i =>
  rw [h] at hi;simp only [Option.map_some,Option.some.injEq,Prod.mk.injEq] at hi;exact ⟨hu,⟨i,z,h,hi.1,hi.2.1,hi.2.2,hz⟩,h0,hf⟩
theorem TBy:SlT Tryz.prog 23 5 1 1:=SlT.of Tryz.underlying23 (z:=.int .u8 0) (by kernel_rfl) rfl (by omega) (by omega)
theorem own_le {w:World} {B B' e size n:Nat} {v:Value} {xs:List Value} (h:w.ownsRow B e size v n xs) (hB:B'<=B):w.ownsRow B' e size v n xs:=⟨h.1,h.2.imp id fun ⟨g,cap,cur,e1,e2,r⟩=>⟨g,cap,cur,e1,nT hB e2,r⟩⟩
theorem own_formS {w:World} {B e size n:Nat} {v:Value} {xs:List Value} (h:w.ownsRow B e size v n xs):∃ A c,v=.slice A n c:=own_formN h
section
variable {P:Program} {w:World}
theorem step_push {t e:TypeId} {size bytes:Nat} (T:SlT P t e size bytes) {ops:Array Oper} {o:Oper} {a:Act} {K:Act->World->Prop} {Q:Exit->Act->World->Prop} {E:Prop} (hgd:o.guard=none) {s x:Operand}
 (ho:o.op=.call {callee:=.builtin .append,args:=#[s,x],argTypes:=#[t,t]})
 (base:Nat) {As:Option Addr} {n cs:Nat} {xs:List Value} (hs:a.eval s=.slice As n cs) (hown:w.ownsRow base e size (.slice As n cs) n xs)
 {B:Nat} {A:Option Addr} {m c:Nat} {news:List Value} (hx:a.eval x=.slice A m c) (hr:Reads w B size A m news) (h1:∀ u∈news,u.oneCell'=true)
 (hn:n+m<=1000000) (hbase:base<=w.heap.size) {k:Nat} (hk:n+m=k) {ys:List Value} (hy:xs++news=ys)
 (h:∀ A' c' w',w'.ownsRow base e size (.slice A' k c') k ys->w.grownBy w' (.slice As n cs:Value).ownBlock->((.slice A' k c':Value).ownBlock=(.slice As n cs:Value).ownBlock\/(.slice A' k c':Value).ownBlock=some w.heap.size)->K (a.put o.dst (.slice A' k c')) w') :
 if Region.wanted o (yielded ops a.tmps)=true then Oper.wp P o a w K Q else E:=by
 obtain ⟨i,z,i1,i2,i3,i4,i5⟩:=T.info;subst hk hy;refine step_append_any w hgd s x t ho base e i z size bytes T.under i1 i2 i3 i4 i5 T.pos _ n xs hs hown B A m c news hx hr h1 (by simp only [maxLen];omega) (nT (Nat.mul_le_mul hn T.few) (by omega)) hbase (fun v' w' a1 a2 a3=>?_);obtain ⟨A',c',rfl⟩:=own_formN a1;exact h A' c' w' a1 a2 a3
theorem list_push {t e:TypeId} {size bytes:Nat} (T:SlT P t e size bytes) {ops:Array Oper} {rest:List Oper} {o:Oper} {a:Act} {Q:Exit->Act->World->Prop} (hgd:o.guard=none) {s x:Operand}
 (ho:o.op=.call {callee:=.builtin .append,args:=#[s,x],argTypes:=#[t,t]})
 (base:Nat) {As:Option Addr} {n cs:Nat} {xs:List Value} (hs:a.eval s=.slice As n cs) (hown:w.ownsRow base e size (.slice As n cs) n xs)
 {B:Nat} {A:Option Addr} {m c:Nat} {news:List Value} (hx:a.eval x=.slice A m c) (hr:Reads w B size A m news) (h1:∀ u∈news,u.oneCell'=true)
 (hn:n+m<=1000000) (hbase:base<=w.heap.size) {k:Nat} (hk:n+m=k) {ys:List Value} (hy:xs++news=ys)
 (h:∀ A' c' w',w'.ownsRow base e size (.slice A' k c') k ys->w.grownBy w' (.slice As n cs:Value).ownBlock->((.slice A' k c':Value).ownBlock=(.slice As n cs:Value).ownBlock\/(.slice A' k c':Value).ownBlock=some w.heap.size)->wpList P ops Q rest (a.put o.dst (.slice A' k c')) w'):wpList P ops Q (o::rest) a w:=by
 obtain ⟨i,z,i1,i2,i3,i4,i5⟩:=T.info;subst hk hy;refine wpList_append_any w hgd s x t ho base e i z size bytes T.under i1 i2 i3 i4 i5 T.pos _ n xs hs hown B A m c news hx hr h1 (by simp only [maxLen];omega) (nT (Nat.mul_le_mul hn T.few) (by omega)) hbase (fun v' w' a1 a2 a3=>?_);obtain ⟨A',c',rfl⟩:=own_formN a1;exact h A' c' w' a1 a2 a3
theorem own_emptyH (W:World) (e size:Nat) {H base:Nat} (hH:W.heap.size=H) (hb:base<=H):(W.alloc (.cells #[] e)).ownsRow base e size (.slice (some ⟨H,0,none⟩) 0 0) 0 []:=by
 subst hH;exact ⟨by simp,.inr ⟨_,0,#[],rfl,hb,heap_alloc_new W _,nR _,by simp [maxLen],by simp,by simp⟩⟩
theorem reads_blk {g:Nat} {t:TypeId} {cs:Array Value} {size:Nat} (h:Blk w g t cs) (hs:cs.size=size):Reads w w.heap.size size (some ⟨g,0,none⟩) 1 cs.toList :=
 ⟨by simp [hs],fun _=>⟨_,rfl,h.lt,fun j x hx=>by
  have e:(⟨g,0,none⟩:Addr).add j=⟨g,j,none⟩:=by unfold Addr.add;split <;> simp_all
  rw [e,h.cell]
  simpa using hx⟩⟩
section
variable {w W W':World} {g:Nat} {t:TypeId} {cs:Array Value}
end
theorem blk_newH (W:World) (t:TypeId) (cs:Array Value) {H:Nat} (hH:W.heap.size=H):Blk (W.alloc (.cells cs t)) H t cs:=by subst hH;exact Blk.new W t cs
end
def bl (l:List UInt8):List Value:=l.map fun c=>.int .u8 (c.toNat:Int)
theorem bl_len (l:List UInt8):(bl l).length=l.length:=by simp [bl]
theorem bl_append (l m:List UInt8):bl (l++m)=bl l++bl m:=by simp [bl]
theorem bl_one (l:List UInt8):∀ u∈bl l,u.oneCell'=true:=by
 intro u hu;obtain ⟨c,_,rfl⟩:=List.mem_map.1 hu;rfl
theorem u8_hi (m:Nat):(UInt8.ofNat (m % 128+128)).toNat=m % 128+128:=u8_small (by omega)
theorem rM {B B':Nat} {w:World} {A:Option Addr} {n size:Nat} {l:List Value} (h:Reads w B size A n l) (hB:B<=B'):Reads w B' size A n l :=
 ⟨h.1,fun h0=>by
  obtain ⟨a,e,h1,h2⟩:=h.2 h0
  exact ⟨a,e,lT h1 hB,h2⟩⟩
theorem reads_take {B:Nat} {w:World} {A:Option Addr} {b:List UInt8} {n:Nat} (h:Reads w B 1 A b.length (bl b)) (hn:n<=b.length):Reads w B 1 A n (bl (b.take n)):=by
 refine ⟨by rw [bl_len,lK];omega,fun h0=>?_⟩;obtain ⟨a,e,h1,h2⟩:=h.2 (by omega);refine ⟨a,e,h1,fun j x hj=>h2 j x ?_⟩;unfold bl at hj ⊢;rw [List.getElem?_map] at hj ⊢;rw [List.getElem?_take] at hj
 split at hj
 ·exact hj
 ·simp at hj
theorem reads_cell {B:Nat} {a:Addr} {b:List UInt8} {w:World} (hr:Reads w B 1 (some a) b.length (bl b)) (j:Nat) (hj:j<b.length):w.cell? (a.add j)=some (.int .u8 ((b.getD j 0).toNat:Nat)):=by
 obtain ⟨a',e',_,h2⟩:=hr.2 (by omega)
 cases e'
 exact h2 j (.int .u8 ((b.getD j 0).toNat:Int)) (by unfold bl;rw [List.getElem?_map,gE hj,List.getD_eq_getElem?_getD,gE hj];rfl)
theorem reads_low {B:Nat} {a:Addr} {b:List UInt8} {w:World} (hr:Reads w B 1 (some a) b.length (bl b)) (hj:0<b.length):a.block<w.heap.size:=by
 have:=World.block_lt_of_cell? w _ (reads_cell hr 0 hj);unfold Addr.add at this
 split at this <;> exact this
end
section
open Go.RowKit
theorem list_push8 {P:Program} {w:World} {t e:TypeId} {size bytes:Nat} (T:SlT P t e size bytes) {ops:Array Oper} {rest:List Oper} {o:Oper} {a:Act} {Q:Exit->Act->World->Prop} (hgd:o.guard=none) {s x:Operand}
 (ho:o.op=.call {callee:=.builtin .append,args:=#[s,x],argTypes:=#[t,t]})
 (base:Nat) {As:Option Addr} {n cs:Nat} {xs:List Value} (hs:a.eval s=.slice As n cs) (hown:w.ownsRow base e size (.slice As n cs) n xs)
 {B:Nat} {A:Option Addr} {m c:Nat} {news:List Value} (hx:a.eval x=.slice A m c) (hr:Reads w B size A m news) (h1:∀ u∈news,u.oneCell'=true)
 (hn:n+m<=100000000) (hbase:base<=w.heap.size) {k:Nat} (hk:n+m=k) {ys:List Value} (hy:xs++news=ys)
 (h:∀ A' c' w',w'.ownsRow base e size (.slice A' k c') k ys->w.grownBy w' (.slice As n cs:Value).ownBlock->((.slice A' k c':Value).ownBlock=(.slice As n cs:Value).ownBlock\/(.slice A' k c':Value).ownBlock=some w.heap.size)->wpList P ops Q rest (a.put o.dst (.slice A' k c')) w'):wpList P ops Q (o::rest) a w:=by
 obtain ⟨i,z,i1,i2,i3,i4,i5⟩:=T.info;subst hk hy;refine wpList_append_any w hgd s x t ho base e i z size bytes T.under i1 i2 i3 i4 i5 T.pos _ n xs hs hown B A m c news hx hr h1 (by simp only [maxLen];omega) (nT (Nat.mul_le_mul hn T.few) (by omega)) hbase (fun v' w' a1 a2 a3=>?_);obtain ⟨A',c',rfl⟩:=own_formN a1;exact h A' c' w' a1 a2 a3
theorem SGrow_nil (n:Nat) (hn:n<=4000000) (w:World) :
 Calls Tryz.prog 211 #[.slice none 0 0,.int .i64 n] w fun e w'=>∃ v,e=.returned v/\w'.ownsRow w.heap.size 5 1 v 0 []/\Below w.heap.size w w':=by
 have h1:¬ ((n:Int)<0):=by omega
 by_cases h0:n=0
 ·subst h0;go_enter Tryz.func211,Tryz.ntmps211;go_wp2;go_ret;exact ⟨_,rfl,World.ownsRow_nil _ _ _ _,bR _ _⟩
 ·obtain ⟨i,z,i1,i2,i3,i4,i5⟩:=TBy.info;have hb:i.bytes=1:=i4
  have hrz:∀ ty,(Builtin.append_ #[23,3] ty #[.slice none 0 0,.int .i64 (n:Int)]).run Tryz.prog w =
   .ok (.slice (some ⟨w.heap.size,0,none⟩) n (grownCap w n 0 5)) (w.drew.alloc (.cells (([]:List Value).toArray++Builtin.zeroCells z.cells n++Builtin.zeroCells z.cells (grownCap w n 0 5-n)) 5)):=fun ty=>by
   have h:=Lib.run_append_grow_zeros w 23 3 ty 5 i z .i64 .i64 Tryz.underlying23 Tryz.underlying3 i1 i2 none 0 0 [] (run_firstCells_none w.drew i.size 0 0 0) n (by omega) (by rw [i3];omega) (by omega) (by omega)
    (by rw [hb];omega) (growslice_fits (by omega) (by rw [hb];omega))
   rw [Nat.zero_add] at h;exact h
  have hGn:n<=grownCap w n 0 5:=grownCap_ge w _ _ _
  obtain ⟨G,hG⟩:∃ G,G=grownCap w n 0 5:=⟨_,rfl⟩
  rw [<-hG] at hrz hGn
  have hG63:G<=9223372036854775807:=by
   have:=grownCap_le_maxLen w n 0 5 (by unfold maxLen;omega);rw [<-hG] at this;unfold maxLen at this;omega
  obtain ⟨zc,hze⟩:∃ zc,z.cells=zc:=⟨_,rfl⟩
  have hzc:zc.size=1:=by rw [<-hze];exact i5
  rw [hze] at hrz;clear hG i1 i2 i3 i4 i5 hb hze;go_enter Tryz.func211,Tryz.ntmps211
  go_wp2_with (at_builtin;refine Lib.wpList_append_run _ rfl _ _ _ _ rfl _ _ rfl rfl _ _ (hrz _) ?_)
  all_goals
   go_ret;refine ⟨_,rfl,⟨rfl,.inr ⟨w.heap.size,G,_,rfl,nR _,heap_alloc_new w.drew _,?_,?_,?_,?_⟩⟩,((bR _ w).drew).alloc (nR _) _⟩
   all_goals first
    | omega
    | (simp only [maxLen];omega)
    | (simp [Builtin.zeroCells,hzc];done)
    | (simp [Builtin.zeroCells,hzc];omega)
structure Pt where
 A:Option Addr
 c:Nat
 b:List UInt8
def Pt.val (p:Pt):Value:=.slice p.A p.b.length p.c
def cat (ps:List Pt):List UInt8:=ps.flatMap (·.b)
theorem cat_take_succ {ps:List Pt} {k:Nat} {p:Pt} (h:ps[k]?=some p):cat (ps.take (k+1))=cat (ps.take k)++p.b:=by
 unfold cat;rw [List.take_add_one,h];simp
theorem cat_take_le (ps:List Pt) (k:Nat):(cat (ps.take k)).length<=(cat ps).length:=by
 have h:cat ps=cat (ps.take k)++cat (ps.drop k):=by
  unfold cat;rw [<-List.flatMap_append,List.take_append_drop]
 rw [h,lQ];omega
theorem Concat_any {B:Nat} (g cap:Nat) (ps:List Pt) (w:World) (hB:B<=w.heap.size) (hg:∀ k p,ps[k]?=some p->w.cell? ⟨g,k,none⟩=some p.val) (hr:∀ p∈ps,Reads w B 1 p.A p.b.length (bl p.b)) (hs:(cat ps).length<=3000000) (hl:ps.length<=100) :
 Calls Tryz.prog 182 #[.slice (some ⟨g,0,none⟩) ps.length cap] w fun e w'=>∃ v,e=.returned v/\w'.ownsRow w.heap.size 5 1 v (cat ps).length (bl (cat ps))/\Below w.heap.size w w':=by
 have HP:=lH (aI hg hr);clear hg hr;go_enter Tryz.func182,Tryz.ntmps182;go_wp2
 go_loopw [3,5,11] (fun n _ i wr=>wr=w/\∃ k:Nat,k<=ps.length/\n=.int .i64 ((cat (ps.take k)).length:Nat)/\i=.int .i64 k) (fun _ _ i _=>ps.length-(intOf i).toNat)
 case atStart=>exact ⟨rfl,0,zL _,rfl,rfl⟩
 case round =>
  obtain ⟨rfl,k,hk,rfl,rfl⟩:=hrel
  obtain ⟨w0,rfl⟩:∃ w0,w0=wr:=⟨wr,rfl⟩
  have hle:=cat_take_le ps k;by_cases hlt:k<ps.length
  ·have d1:decide (k<ps.length)=true:=by simpa using hlt
   obtain ⟨p,hp⟩:∃ p,ps[k]?=some p:=⟨_,gE hlt⟩
   have hc:=HP.out.1 k p hp;have hle2:=cat_take_le ps (k+1);have hsc:=cat_take_succ hp
   have i0:(0:Int)<=(k:Int):=by omega
   have i1:(k:Int)<(ps.length:Int):=by omega
   rw [hsc,lQ] at hle2
   obtain ⟨m,hm⟩:∃ m,(cat (ps.take k)).length=m:=⟨_,rfl⟩
   rw [hm] at hle hle2 ⊢;have HS:=lH (aI hsc hm);clear hsc hm;unfold Pt.val at hc
   have hz:¬ ((m:Int)+(p.b.length:Int)<0):=by omega
   go_wp2
   go_roundw
   case rel=>exact ⟨trivial,k+1,by omega,by rw [HS.out.1,lQ,HS.out.2];go_num,by go_num⟩
   case measure=>simp [intOf];omega
  ·have d1:decide (k<ps.length)=false:=by simpa using hlt
   obtain rfl:k=ps.length:=by omega
   rw [List.take_length] at hle ⊢;have hG:=SGrow_nil (cat ps).length (by omega) w0
   go_wp2_with (go_at_call 211;refine hG.mono ?_;rintro e w1 ⟨v,rfl,ho,hb⟩;obtain ⟨A1,c1,rfl⟩:=own_formS ho)
   clear hG
   go_loopw [6,8,27] (fun out _ i w2=>Below w0.heap.size w0 w2/\∃ (k:Nat) (A:Option Addr) (c:Nat),k<=ps.length/\out=.slice A (cat (ps.take k)).length c/\w2.ownsRow w0.heap.size 5 1 out (cat (ps.take k)).length (bl (cat (ps.take k)))/\i=.int .i64 k) (fun _ _ i _=>ps.length-(intOf i).toNat)
   case atStart=>exact ⟨hb,0,A1,c1,zL _,rfl,ho,rfl⟩
   case round =>
    clear ho hb;obtain ⟨hb,k,A,c,hk,rfl,ho,rfl⟩:=hrel;have hle:=cat_take_le ps k
    obtain ⟨wo,rfl⟩:∃ wo,wo=wr:=⟨wr,rfl⟩
    by_cases hlt:k<ps.length
    ·have d1:decide (k<ps.length)=true:=by simpa using hlt
     obtain ⟨p,hp⟩:∃ p,ps[k]?=some p:=⟨_,gE hlt⟩
     have hc:=HP.out.1 k p hp;have hgl:g<w0.heap.size:=World.block_lt_of_cell? w0 _ hc;have hc2:wo.cell? ⟨g,k,none⟩=some p.val:=(hb.cell (p:=⟨g,k,none⟩) hgl).trans hc;have hrd:=(HP.out.2 p (mG hp)).below (hb.mono hB);have hle2:=cat_take_le ps (k+1);have hsc:=cat_take_succ hp
     have i0:(0:Int)<=(k:Int):=by omega
     have i1:(k:Int)<(ps.length:Int):=by omega
     rw [hsc,lQ] at hle2;have HS:=lH hsc;clear hsc hc hp;unfold Pt.val at hc2
     go_wp2_with (at_builtin;refine list_push8 TBy rfl rfl w0.heap.size rfl ho rfl hrd (bl_one _) (by omega) hb.size rfl (ys:=bl (cat (ps.take k)++p.b)) (by rw [bl_append]) ?_;intro A2 c2 w2 ho2 hg2 hl2)
     all_goals
      go_roundw
      case rel=>exact ⟨hb.grown hg2 hb.size (fun k e=>(ho.lt k e).1),k+1,A2,c2,by omega,by rw [HS.out,lQ],by rw [HS.out,lQ];exact ho2,by go_num⟩
      case measure=>simp [intOf];omega
    ·have d1:decide (k<ps.length)=false:=by simpa using hlt
     obtain rfl:k=ps.length:=by omega
     rw [List.take_length] at ho ⊢;go_wp2;go_ret;exact ⟨_,rfl,ho,hb⟩
theorem BClone_some {B n:Nat} (a:Addr) (c:Nat) (l:List Value) (h1:∀ u∈l,u.oneCell'=true) (w:World) (hr:Reads w B 1 (some a) n l) (hB:B<=w.heap.size) (hl:n<=4000000) :
 Calls Tryz.prog 68 #[.slice (some a) n c] w fun e w'=>∃ A' c',e=.returned (.slice A' n c')/\w'.ownsRow w.heap.size 5 1 (.slice A' n c') n l/\Below w.heap.size w w':=by
 have hnil:∀ W:World,(binOp .eql 23 (.slice (some a) n c) (.slice none 0 0)).run Tryz.prog W=.ok (.bool false) W:=fun W=>(by first | exact Lib.run_eql_slice_nil W 23 5 _ _ _ _ _ Tryz.underlying23 | exact Lib.run_eql_slice_nil W 23 5 _ _ _ _ Tryz.underlying23)
 go_enter Tryz.func68,Tryz.ntmps68
 go_wp2_with (at_builtin;refine list_push8 TBy rfl rfl w.heap.size rfl (own_emptyH _ _ _ rfl (nR _)) rfl (hr.alloc hB _) h1 (by omega) (by simp) (Nat.zero_add _) (List.nil_append _) ?_;intro A1 c1 w1 hown1 hg1 hat1)
 clear hnil;go_ret;exact ⟨A1,c1,rfl,hown1,((bR _ w).alloc (nR _) _).grown hg1 (by simp) (fun k e=>by cases e;exact nR _)⟩
end
end Go.Proofs.YtenfkghoolegfaaGreatDoor
namespace Go.Proofs.YtenfkghoolegfaaGreatDoor
open Go.RowKit
theorem Blk.below {B:Nat} {w w':World} {g:Nat} {t:TypeId} {cs:Array Value} (h:Blk w g t cs) (hb:Below B w w') (hg:g<B):Blk w' g t cs:=(hb.block g hg).trans h
theorem fixN_head:∀ (k n:Nat),fixN (k+1) n=UInt8.ofNat (n / 256 ^ k % 256)::fixN k n
 | 0,n=>by simp [fixN]
 | k+1,n=>by
  rw [fixN,fixN_head k (n / 256),fixN,List.cons_append,Nat.div_div_eq_div_mul,Nat.pow_succ,Nat.mul_comm 256]
theorem bl_zero (n:Nat):bl (List.replicate n 0)=List.replicate n (.int .u8 0):=by simp [bl]
def fixS (s k n:Nat):List UInt8:=List.replicate (s-k) 0++fixN k n
theorem fixS_len {s k n:Nat} (h:k<=s):(fixS s k n).length=s:=by unfold fixS;rw [lQ,List.length_replicate,fL];omega
theorem fixS_set {s k n:Nat} (h:k<s):(fixS s k n).set (s-1-k) (UInt8.ofNat (n / 256 ^ k % 256))=fixS s (k+1) n:=by
 unfold fixS;rw [fixN_head,show s-k=(s-(k+1))+1 by omega,List.replicate_succ',List.append_assoc,List.set_append_right _ _ (by rw [List.length_replicate];omega),List.length_replicate,show s-1-k-(s-(k+1))=0 by omega];rfl
theorem bl_set (l:List UInt8) (i:Nat) (c:UInt8):(bl l).toArray.setIfInBounds i (.int .u8 (c.toNat:Int))=(bl (l.set i c)).toArray:=by
 unfold bl;simp [List.map_set]
theorem made1 (n:Nat) (z:Value):madeCells #[z] n=(List.replicate n z).toArray:=by
 unfold madeCells;refine Array.ext (by simp) fun i h1 h2=>?_;simp [Nat.mod_one]
theorem make_bytes (s:Nat) (hs:s<=1000000) (w:World):(Instr.makeSlice 23 (.int .i64 (s:Int)) (.int .i64 (s:Int))).run Tryz.prog w=.ok (.slice (some ⟨w.heap.size,0,none⟩) s s) (w.alloc (.cells (bl (List.replicate s 0)).toArray 5)):=by
 obtain ⟨i,z,h1,h2,h3,h4,h5⟩:=TBy.info
 have hz:z=.int .u8 0:=by
  have hi:(Tryz.prog.info? 5).map (fun i=>i.zero)=some (some (.int .u8 0)):=by kernel_rfl
  rw [h1] at hi;simp only [Option.map_some,Option.some.injEq] at hi;rw [h2] at hi;exact Option.some.inj hi
 subst hz;have h:=run_make (P:=Tryz.prog) w 23 5 i (.int .u8 0) TBy.under h1 h2 .i64 .i64 (s:Int) (s:Int) (by omega) (by omega) (by rw [h4];omega) (by omega);simp only [Int.toNat_natCast] at h;rw [h,h3,bl_zero,Nat.mul_one,show Value.cells (.int .u8 0)=#[.int .u8 0] from rfl,made1]
theorem Fixed_any (n s:Nat) (hn:n<18446744073709551616) (h1:1<=s) (h8:s<=8) (w:World) :
 Calls Tryz.prog 144 #[.int .u64 n,.int .i64 s] w fun e w'=>∃ g,e=.returned (.slice (some ⟨g,0,none⟩) s s)/\w.heap.size<=g/\Blk w' g 5 (bl (fixN s n)).toArray/\Below w.heap.size w w':=by
 have hm:=make_bytes s (by omega);have b1:decide ((s:Int)<1)=false:=dF (by omega);have b8:decide (8<(s:Int))=false:=dF (by omega);go_enter Tryz.func144,Tryz.ntmps144;go_wp2
 go_loopw [17] (fun i wr=>∃ k:Nat,k<=s/\i=.int .i64 k/\Blk wr w.heap.size 5 (bl (fixS s k n)).toArray/\Below w.heap.size w wr) (fun i _=>s-(intOf i).toNat)
 case atStart=>exact ⟨0,zL _,rfl,by rw [show fixS s 0 n=List.replicate s 0 by unfold fixS;simp [fixN]];exact Blk.new _ _ _,(bR _ _).alloc (nR _) _⟩
 case round =>
  obtain ⟨k,hk,rfl,hB,hb⟩:=hrel;have HB:=lH hB;by_cases hlt:k<s
  ·have d1:decide (k<s)=true:=dT hlt
   obtain ⟨y,hc⟩:∃ y,wr.cell? ⟨w.heap.size,s-1-k,none⟩=some y:=by
    rw [hB.cell];exact ⟨_,Array.getElem?_eq_getElem (by simp [bl_len,fixS_len hk];omega)⟩
   have hf:wr.frozen? ⟨w.heap.size,s-1-k,none⟩=false:=hB.frozen _;clear hB;go_wp2
   go_roundw
   case rel =>
    refine ⟨k+1,by omega,by go_num,?_,hb.setCell (p:=⟨w.heap.size,s-1-k,none⟩) (nR _) _⟩;have h:=HB.out.set_ (s-1-k) (.int .u8 ((n:Int) / 2 ^ (8*k) % 256))
    have e:((n:Int) / 2 ^ (8*k) % 256)=((UInt8.ofNat (n / 256 ^ k % 256)).toNat:Int):=by
     rw [u8_of (by omega),show (256:Nat) ^ k=2 ^ (8*k) from (Nat.pow_mul 2 8 k).symm];simp
    rw [e,bl_set,fixS_set hlt] at h;rw [e];exact h
   case measure=>simp [intOf];omega
  ·have d1:decide (k<s)=false:=dF hlt
   obtain rfl:k=s:=by omega
   clear hB;go_wp2;go_ret;have h:=HB.out;rw [show fixS k k n=fixN k n by unfold fixS;simp] at h;exact ⟨_,rfl,nR _,h,hb⟩
theorem numN_low (b:List UInt8) (k:Nat) (h8:b.length<=8) (hk:k<b.length):numN (b.take k)<72057594037927936:=by
 have:=numN_lt (b.take k);refine lT this ?_;rw [lK,show min k b.length=k by omega];exact nT (Nat.pow_le_pow_right (by decide) (show k<=7 by omega)) (by decide)
theorem or_byte (m c:Nat) (hm:m<72057594037927936) (hc:c<256):bits .or .u64 ((m:Int)*256) (c:Int)=((m*256+c:Nat):Int):=by
 have h:=Nat.shiftLeft_add_eq_or_of_lt (i:=8) (show c<2 ^ 8 from hc) m;rw [Nat.shiftLeft_eq] at h;have h2:=u64_or ((m*256:Nat):Int) (c:Int) (by omega) (by omega) (by omega) (by omega);simp only [Int.toNat_natCast] at h2;rw [show ((m:Int)*256)=((m*256:Nat):Int) by omega,h2];congr 1;exact h.symm
theorem Number_any {B:Nat} (A:Option Addr) (c:Nat) (b:List UInt8) (w:World) (hr:Reads w B 1 A b.length (bl b)) (h8:b.length<=8) :
 Calls Tryz.prog 113 #[.slice A b.length c] w fun e w'=>e=.returned (.int .u64 (numN b))/\w=w':=by
 have b8:decide (8<(b.length:Int))=false:=dF (by omega);have HR:=lH hr;clear hr;go_enter Tryz.func113,Tryz.ntmps113;go_wp2
 go_loop [2,10] (fun x i=>∃ k:Nat,k<=b.length/\i=.int .i64 k/\x=.int .u64 (numN (b.take k))) (fun _ i=>b.length-(intOf i).toNat)
 case atStart=>exact ⟨0,zL _,rfl,rfl⟩
 case round =>
  obtain ⟨k,hk,rfl,rfl⟩:=hrel;by_cases hlt:k<b.length
  ·have d1:decide (k<b.length)=true:=dT hlt;obtain ⟨a,rfl,_,_⟩:=HR.out.2 (by omega);have hc:=reads_cell HR.out k hlt;have hm:=numN_low b k h8 hlt;have HS:=lH (numN_take_succ hlt)
   have hg:(b.getD k 0)=b[k]:=by rw [List.getD_eq_getElem?_getD,gE hlt];rfl
   rw [hg] at hc
   obtain ⟨m,HM⟩:∃ m,Hid (numN (b.take k)=m):=⟨_,lH rfl⟩
   rw [HM.out] at hm ⊢
   obtain ⟨y,HY⟩:∃ y,Hid (b[k].toNat=y):=⟨_,lH rfl⟩
   rw [HY.out] at hc
   have hy:y<256:=by rw [<-HY.out];exact b[k].toNat_lt
   have ho:=or_byte m y hm hy;clear hg;go_wp2
   go_round
   case rel=>exact ⟨k+1,by omega,by go_num,by rw [HS.out,HM.out,HY.out];go_num⟩
   case measure=>simp [intOf];omega
  ·have d1:decide (k<b.length)=false:=dF hlt
   obtain rfl:k=b.length:=by omega
   go_wp2;go_ret;exact ⟨rfl,rfl⟩
end Go.Proofs.YtenfkghoolegfaaGreatDoor
namespace Go.Proofs.YtenfkghoolegfaaGreatDoor.Cr
open Go.RowKit Go.Extern Go.Lib
theorem xor_nat {x y:Nat} (hx:x<4294967296) (hy:y<4294967296):bits .xor .u32 (x:Int) (y:Int)=((Nat.xor x y:Nat):Int):=by
 rw [u32_xor _ _ (by omega) (by omega) (by omega) (by omega)];simp only [Int.toNat_natCast];rfl
theorem and_nat {x y:Nat} (hx:x<4294967296) (hy:y<4294967296):bits .and .u32 (x:Int) (y:Int)=((Nat.land x y:Nat):Int):=by
 rw [u32_and _ _ (by omega) (by omega) (by omega) (by omega)];simp only [Int.toNat_natCast];rfl
theorem shr4 (x:Nat):((Nat.shiftRight x 4:Nat):Int)=(x:Int) / 16:=by
 have:Nat.shiftRight x 4=x / 16:=Nat.shiftRight_eq_div_pow x 4;rw [this];simp
theorem add_blockC (a:Addr) (n:Nat):(a.add n).block=a.block:=by unfold Addr.add;split <;> rfl
theorem over_any (tb:Nat->Nat) (htb:∀ i,tb i<4294967296) (cs:Array Value) (hcs:∀ i,i<16->cs[i]?=some (.int .u32 (tb i:Nat))) (c:Nat) (hc:c<4294967296) (A:Option Addr) (cp:Nat) (l:List Nat) (w:World) (hl:l.length<=1000000) (hb:∀ x∈l,x<256)
 (hr:0<l.length->∃ ad,A=some ad/\ad.block<w.heap.size/\∀ i,i<l.length->w.cell? (ad.add i)=some (.int .u8 (l[i]?.getD 0:Nat))) :
 Calls Tryz.prog 200 #[.agg cs,.int .u32 (c:Nat),.slice A l.length cp] w fun e w'=>e=.returned (.int .u32 (cl tb c l:Nat))/\Below w.heap.size w w':=by
 have HC:=lH hcs;have HTB:=lH htb;have HBY:=lH hb;clear hcs htb hb;go_enter Tryz.func200,Tryz.ntmps200;go_wp2
 go_loopw [1,11] (fun x i wr=>∃ k:Nat,k<=l.length/\i=.int .i64 k/\x=.int .u32 (cl tb c (l.take k):Nat)/\wr.heap[w.heap.size]?=some (.cells cs 286 (0,0))/\Below w.heap.size w wr)
  (fun _ i _=>l.length-(RowKit.intOf i).toNat)
 case atStart=>exact ⟨0,zL _,rfl,rfl,heap_alloc_new _ _,(bR _ _).alloc (nR _) _⟩
 case round =>
  obtain ⟨k,hk,rfl,rfl,hblk,hbel⟩:=hrel
  have HT:Hid (∀ i,i<16->wr.cell? ⟨w.heap.size,i,none⟩=some (.int .u32 (tb i:Nat))):=lH fun i hi=>by rw [cell_of_row _ _ _ _ _ _ hblk];exact HC.out i hi
  have HB:=lH hblk;clear hblk;by_cases hlt:k<l.length
  ·obtain ⟨ad,rfl,hB,hcl⟩:=hr (by omega);have hcell:=(hbel.cell (p:=ad.add k) (by rw [add_blockC];exact hB)).trans (hcl k hlt);clear hcl;have hy:l[k]?.getD 0<256:=HBY.out _ (by simp [hlt]);have hx:cl tb c (l.take k)<4294967296:=cl_lt HTB.out _ _ hc fun y hy=>HBY.out y (List.mem_of_mem_take hy);have HS:=lH (cl_step tb c l k hlt);clear hr;generalize cl tb c (l.take k)=x at hx HS;generalize l[k]?.getD 0=y at hcell hy HS
   obtain ⟨z1,H1⟩:∃ z,Hid (z=Nat.xor x y):=⟨_,lH rfl⟩
   have e1:bits .xor .u32 (x:Int) (y:Int)=(z1:Int):=by rw [H1.out];exact xor_nat hx (by omega)
   have z1lt:z1<4294967296:=by rw [H1.out];exact xor_lt hx (by omega)
   obtain ⟨i1,I1⟩:∃ z,Hid (z=Nat.land z1 15):=⟨_,lH rfl⟩
   have i1lt:i1<16:=by rw [I1.out];exact and_lt
   have e2:bits .and .u32 (z1:Int) 15=(i1:Int):=by rw [I1.out];exact and_nat (y:=15) z1lt (by omega)
   have c1:=HT.out i1 i1lt;have t1lt:=HTB.out i1
   obtain ⟨t1,T1⟩:∃ z,Hid (z=tb i1):=⟨_,lH rfl⟩
   rw [<-T1.out] at c1 t1lt
   obtain ⟨z2,H2⟩:∃ z,Hid (z=Nat.xor (Nat.shiftRight z1 4) t1):=⟨_,lH rfl⟩
   have e3:bits .xor .u32 ((z1:Int) / 16) (t1:Int)=(z2:Int):=by rw [H2.out,<-shr4];exact xor_nat (shr4_lt z1lt) t1lt
   have z2lt:z2<4294967296:=by rw [H2.out];exact xor_lt (shr4_lt z1lt) t1lt
   obtain ⟨i2,I2⟩:∃ z,Hid (z=Nat.land z2 15):=⟨_,lH rfl⟩
   have i2lt:i2<16:=by rw [I2.out];exact and_lt
   have e4:bits .and .u32 (z2:Int) 15=(i2:Int):=by rw [I2.out];exact and_nat (y:=15) z2lt (by omega)
   have c2:=HT.out i2 i2lt;have t2lt:=HTB.out i2
   obtain ⟨t2,T2⟩:∃ z,Hid (z=tb i2):=⟨_,lH rfl⟩
   rw [<-T2.out] at c2 t2lt
   obtain ⟨z3,H3⟩:∃ z,Hid (z=Nat.xor (Nat.shiftRight z2 4) t2):=⟨_,lH rfl⟩
   have e5:bits .xor .u32 ((z2:Int) / 16) (t2:Int)=(z3:Int):=by rw [H3.out,<-shr4];exact xor_nat (shr4_lt z2lt) t2lt
   go_wp2
   go_roundw
   case rel =>
    refine ⟨k+1,by omega,by go_num,?_,HB.out,hbel⟩;rw [HS.out,H3.out,T2.out,I2.out,H2.out,T1.out,I1.out,H1.out];rfl
   case measure=>simp [RowKit.intOf];omega
  ·go_wp2;go_ret
   have hkl:k=l.length:=by omega
   exact ⟨by rw [hkl,List.take_length];rfl,hbel⟩
def tblL:List Value:=[.int .u32 (.ofNat 0),.int .u32 (.ofNat 274646895),.int .u32 (.ofNat 549293790),.int .u32 (.ofNat 820201905),.int .u32 (.ofNat 1098587580),.int .u32 (.ofNat 1361435347),.int .u32 (.ofNat 1640403810),.int .u32 (.ofNat 1905808397),.int .u32 (.ofNat 2197175160),.int .u32 (.ofNat 2460548119),.int .u32 (.ofNat 2722870694),.int .u32 (.ofNat 2987750089),.int .u32 (.ofNat 3280807620),.int .u32 (.ofNat 3553878443),.int .u32 (.ofNat 3811616794),.int .u32 (.ofNat 4084100981)]
theorem tbl_get:∀ i,i<16->tblL.toArray[i]?=some (.int .u32 (tbOf i:Nat)):=by
 intro i hi
 match i,hi with
 | 0,_=>rfl
 | 1,_=>rfl
 | 2,_=>rfl
 | 3,_=>rfl
 | 4,_=>rfl
 | 5,_=>rfl
 | 6,_=>rfl
 | 7,_=>rfl
 | 8,_=>rfl
 | 9,_=>rfl
 | 10,_=>rfl
 | 11,_=>rfl
 | 12,_=>rfl
 | 13,_=>rfl
 | 14,_=>rfl
 | 15,_=>rfl
 | k+16,h=>exact absurd h (by omega)
theorem tbl_plain:Ev.closedV (.agg tblL.toArray)=true:=by decide
end Go.Proofs.YtenfkghoolegfaaGreatDoor.Cr
namespace Go.Proofs.YtenfkghoolegfaaGreatDoor
section
open Go.RowKit
namespace Tb
open Ev
def isV (v:Value) (r:Option (Value × AS)):Bool:=match r with
 | some (u,_)=>veq 10 u v
 | none=>false
theorem isV_some {v:Value} {r:Option (Value × AS)} (h:isV v r=true):∃ s,r=some (v,s):=by
 unfold isV at h
 split at h
 ·rename_i u s;exact ⟨s,by rw [veq_sound _ _ _ h]⟩
 ·cases h
noncomputable def C0:Ctx:=⟨Tryz.prog,fun f=>fnT.get f,fun t=>(tyT.get t).map (·.1),fun t=>(tyT.get t).map (·.2.desc),fun _=>none,fun _=>none,methT,fun op _ x y=>binOf [] op x y,fun t x=>lenOf [] t x,noCnv,fun _=>false,fun _=>none⟩
theorem c0OK (ω:Nat->Value):COK ω C0:=⟨ctxOK_of (tyL:=tyL) (by kernel_rfl) (by kernel_rfl) (by kernel_rfl) (by kernel_rfl) (by kernel_rfl) (by kernel_rfl) (by kernel_rfl) (binOf_ok (fun f h=>by cases h)) (lenOf_ok (fun f h=>by cases h)) methT_ok noCnv_ok,mixed,fun g k h=>by cases h⟩
theorem table_run0:isV (.agg Cr.tblL.toArray) ((ev C0 1000).f 199 [] ⟨0,.leaf⟩)=true:=by kernel_rfl
end Tb
theorem Table_any (w:World):Calls Tryz.prog 199 #[] w fun e w'=>e=.returned (.agg Cr.tblL.toArray)/\Below w.heap.size w w':=by
 obtain ⟨s,h⟩:=Tb.isV_some Tb.table_run0;have key:=((Ev.sound (Tb.c0OK (fun _=>.nilIface)) 1000).2.2.2.1 199 [] _ _ s h w.heap.size _ _ w #[] (Ev.sr_empty w) (Ev.LRel.nil _) ⟨nR _,fun g v h=>(by cases h),fun k h=>(by cases h),fun g cs h=>(by cases h)⟩).2 rfl;refine (callsIn_wide.1 (key.2 0)).mono ?_;rintro e w' ⟨v',rfl,m',_,_,hv,hb⟩;obtain rfl:=Ev.closed_inv hv Cr.tbl_plain;exact ⟨rfl,hb⟩
theorem cl_append (tb:Nat->Nat) (c:Nat) (l m:List Nat):Cr.cl tb c (l++m)=Cr.cl tb (Cr.cl tb c l) m:=by unfold Cr.cl;rw [List.foldl_append]
def crcS (b:List UInt8):Nat:=Cr.cl Cr.tbOf 4294967295 (b.map UInt8.toNat)
theorem crcS_lt (b:List UInt8):crcS b<4294967296:=Cr.cl_lt Cr.tbOf_lt _ _ (by decide) (fun x hx=>by
 obtain ⟨c,_,rfl⟩:=List.mem_map.1 hx;have:=c.toNat_lt
 omega)
theorem crcS_append (l m:List UInt8):crcS (l++m)=Cr.cl Cr.tbOf (crcS l) (m.map UInt8.toNat):=by unfold crcS;rw [List.map_append,cl_append]
theorem over_bl {B:Nat} (c:Nat) (hc:c<4294967296) (A:Option Addr) (cp:Nat) (b:List UInt8) (w:World) (hl:b.length<=1000000) (hr:Reads w B 1 A b.length (bl b)) (hB:B<=w.heap.size) :
 Calls Tryz.prog 200 #[.agg Cr.tblL.toArray,.int .u32 (c:Nat),.slice A b.length cp] w fun e w'=>e=.returned (.int .u32 (Cr.cl Cr.tbOf c (b.map UInt8.toNat):Nat))/\Below w.heap.size w w':=by
 have h:=Cr.over_any Cr.tbOf Cr.tbOf_lt Cr.tblL.toArray Cr.tbl_get c hc A cp (b.map UInt8.toNat) w (by simpa using hl) (fun x hx=>by
  obtain ⟨c,_,rfl⟩:=List.mem_map.1 hx;have:=c.toNat_lt
  omega) (fun h0=>by
  rw [List.length_map] at h0;obtain ⟨a,e,h1,h2⟩:=hr.2 h0;refine ⟨a,e,by omega,fun i hi=>?_⟩;rw [List.length_map] at hi;have:=h2 i (.int .u8 ((b[i].toNat:Nat):Int)) (by unfold bl;rw [List.getElem?_map,gE hi];rfl);rw [this]
  simp [hi])
 rw [List.length_map] at h;exact h
theorem not_u32 {x:Nat} (hx:x<4294967296):bits .xor .u32 IntKind.u32.max (x:Int)=((4294967295-x:Nat):Int):=by
 have e:IntKind.u32.max=((4294967295:Nat):Int):=by decide
 rw [e,Cr.xor_nat (by omega) hx];congr 1
 have h1:(BitVec.allOnes 32 ^^^ BitVec.ofNat 32 x).toNat=(~~~ BitVec.ofNat 32 x).toNat:=by rw [BitVec.allOnes_xor]
 rw [BitVec.toNat_xor,BitVec.toNat_not,BitVec.toNat_allOnes,BitVec.toNat_ofNat,Nat.mod_eq_of_lt (by omega)] at h1;exact h1
theorem Sum_any {B:Nat} (g cap:Nat) (ps:List Pt) (w:World) (hB:B<=w.heap.size) (hg:∀ k p,ps[k]?=some p->w.cell? ⟨g,k,none⟩=some p.val) (hr:∀ p∈ps,Reads w B 1 p.A p.b.length (bl p.b)) (hs:(cat ps).length<=1000000) (hl:ps.length<=100) :
 Calls Tryz.prog 166 #[.slice (some ⟨g,0,none⟩) ps.length cap] w fun e w'=>e=.returned (.int .u32 (crcN (cat ps):Nat))/\Below w.heap.size w w':=by
 have HP:=lH (aI hg hr);have hst:=fun W=>run_storeCells_new (P:=Tryz.prog) W 286 (Array.replicate 16 (.int .u32 0)) Cr.tblL.toArray (by kernel_rfl) rfl (by simp [Cr.tblL,Value.oneCell']);simp only [show (Array.replicate 16 (Value.int .u32 0))=#[.int .u32 0,.int .u32 0,.int .u32 0,.int .u32 0,.int .u32 0,.int .u32 0,.int .u32 0,.int .u32 0,.int .u32 0,.int .u32 0,.int .u32 0,.int .u32 0,.int .u32 0,.int .u32 0,.int .u32 0,.int .u32 0] from rfl] at hst;clear hg hr;go_enter Tryz.func166,Tryz.ntmps166
 go_wp2_with (go_at_call 199;refine (Table_any _).mono ?_;rintro e w1 ⟨rfl,hb1⟩)
 clear hst
 go_loopw [4,10] (fun c i wr=>∃ k:Nat,k<=ps.length/\i=.int .i64 k/\c=.int .u32 (crcS (cat (ps.take k)):Nat)/\Blk wr w1.heap.size 286 Cr.tblL.toArray/\Below w.heap.size w wr) (fun _ i _=>ps.length-(intOf i).toNat)
 case atStart=>exact ⟨0,zL _,rfl,rfl,Blk.new _ _ _,hb1.alloc hb1.size _⟩
 case round =>
  obtain ⟨k,hk,rfl,rfl,hB2,hb⟩:=hrel;have hle:=cat_take_le ps k
  obtain ⟨wo,rfl⟩:∃ wo,wo=wr:=⟨wr,rfl⟩
  by_cases hlt:k<ps.length
  ·have d1:decide (k<ps.length)=true:=dT hlt
   obtain ⟨p,hp⟩:∃ p,ps[k]?=some p:=⟨_,gE hlt⟩
   have hc:=HP.out.1 k p hp;have hgl:g<w.heap.size:=World.block_lt_of_cell? w _ hc;have hc2:wo.cell? ⟨g,k,none⟩=some p.val:=(hb.cell (p:=⟨g,k,none⟩) hgl).trans hc;have hrd:=(HP.out.2 p (mG hp)).below (hb.mono hB);have hle2:=cat_take_le ps (k+1);have hsc:=cat_take_succ hp;rw [hsc,lQ] at hle2;have hx:=crcS_lt (cat (ps.take k));have HS:=lH hsc;have HB2:=lH hB2
   obtain ⟨x,HX⟩:∃ x,Hid (crcS (cat (ps.take k))=x):=⟨_,lH rfl⟩
   rw [HX.out] at hx ⊢;have hO:=over_bl (B:=B) x hx p.A p.c p.b wo (by omega) hrd (nT hB hb.size);unfold Pt.val at hc2;clear hsc hc hp hB2
   go_wp2_with (first | (refine wpList_load_row rfl 286 (.tmp 3) rfl w1.heap.size rfl _ _ _ _ HB2.out Tryz.underlying286 rfl (by kernel_rfl) ?_) | (go_at_call 200;refine hO.mono ?_;rintro e w2 ⟨rfl,hb2⟩))
   go_roundw
   case rel=>exact ⟨k+1,by omega,by go_num,by rw [HS.out,crcS_append,HX.out],Blk.below HB2.out hb2 (aS.1 HB2.out).1,hb.trans (hb2.mono hb.size)⟩
   case measure=>simp [intOf];omega
  ·have d1:decide (k<ps.length)=false:=dF hlt
   obtain rfl:k=ps.length:=by omega
   rw [List.take_length];have hx:=crcS_lt (cat ps)
   obtain ⟨x,HX⟩:∃ x,Hid (crcS (cat ps)=x):=⟨_,lH rfl⟩
   rw [HX.out] at hx ⊢;have hn:=not_u32 hx;go_wp2;go_ret;refine ⟨?_,hb⟩;unfold crcN;have e:=HX.out;unfold crcS at e;rw [e];rfl
end
section
open Go.RowKit
theorem rB {w:World} {g n:Nat} {t:TypeId} {b:List UInt8} (h:Blk w g t (bl b).toArray) (hn:b.length=n):Reads w w.heap.size 1 (some ⟨g,0,none⟩) n (bl b):=by
 subst hn;refine ⟨by rw [bl_len];omega,fun h0=>⟨_,rfl,h.lt,fun j u hu=>?_⟩⟩;rw [show (⟨g,0,none⟩:Addr).add j=⟨g,j,none⟩ by unfold Addr.add;split <;> simp_all,h.cell]
 simpa using hu
theorem one_row {B:Nat} {w:World} {A:Option Addr} {c:Nat} {b:List UInt8} (t:TypeId) (hr:Reads w B 1 A b.length (bl b)) (hB:B<=w.heap.size) :
 (∀ k p,[(⟨A,c,b⟩:Pt)][k]?=some p->(w.alloc (.cells #[.slice A b.length c] t)).cell? ⟨w.heap.size,k,none⟩=some p.val)/\∀ p∈[(⟨A,c,b⟩:Pt)],Reads (w.alloc (.cells #[.slice A b.length c] t)) B 1 p.A p.b.length (bl p.b):=by
 constructor
 ·intro k p hk;have hbk:=Blk.new w t #[.slice A b.length c];rw [hbk.cell]
  rcases k with _ | k
  ·cases hk;rfl
  ·simp at hk
 ·intro p hp;simp only [List.mem_singleton] at hp;subst hp;exact hr.alloc hB _
theorem CrcPut_any {B:Nat} (A:Option Addr) (c:Nat) (b:List UInt8) (w:World) (hB:B<=w.heap.size) (hr:Reads w B 1 A b.length (bl b)) (hs:b.length<=900000) :
 Calls Tryz.prog 145 #[.slice A b.length c] w fun e w'=>∃ v,e=.returned v/\w'.ownsRow w.heap.size 5 1 v (putC b).length (bl (putC b))/\Below w.heap.size w w':=by
 have h1:=one_row (c:=c) 23 hr hB;have hS:=Sum_any (B:=B) w.heap.size 1 [⟨A,c,b⟩] (w.alloc (.cells #[.slice A b.length c] 23)) (by simp;omega) h1.1 h1.2 (by simpa [cat] using (by omega:b.length<=1000000)) (by simp)
 have hcat:cat [(⟨A,c,b⟩:Pt)]=b:=by simp [cat]
 rw [hcat] at hS;have hlt:=crcN_lt b
 have hwu:IntKind.u64.wrap (crcN b:Int)=(crcN b:Int):=by rw [IntKind.wrap_u64];omega
 clear h1 hcat;go_enter Tryz.func145,Tryz.ntmps145
 go_wp2_with fail
 go_at_call 166
 refine hS.mono ?_;rintro e w1 ⟨rfl,hb1⟩;have hb1':Below w.heap.size w w1:=((bR _ w).alloc (nR _) _).trans (hb1.mono (by simp))
 go_wp2_with fail
 go_at_call 144
 refine (Fixed_any (crcN b) 4 (by omega) (by omega) (by omega) w1).mono ?_;rintro e w2 ⟨g,rfl,hg,hB2,hb2⟩;have hb12:=hb1'.trans (hb2.mono hb1'.size);have hr2:=rB hB2 (fL 4 _)
 have hC:=Concat_any (B:=w2.heap.size) w2.heap.size 2 [⟨A,c,b⟩,⟨some ⟨g,0,none⟩,4,fixN 4 (crcN b)⟩] (w2.alloc (.cells #[.slice A b.length c,.slice (some ⟨g,0,none⟩) 4 4] 23)) (by simp) (fun k p hk=>by
  have hbk:=Blk.new w2 23 #[.slice A b.length c,.slice (some ⟨g,0,none⟩) 4 4];rw [hbk.cell]
  rcases k with _ | _ | k
  ·cases hk;rfl
  ·cases hk;simp [Pt.val,fL]
  ·simp at hk) (fun p hp=>by
  simp only [List.mem_cons,List.not_mem_nil,or_false] at hp
  rcases hp with rfl | rfl
  ·exact (rM (hr.below (hb12.mono hB)) (nT hB hb12.size)).alloc (nR _) _
  ·rw [fL]
   exact hr2.alloc (nR _) _) (by simp [cat,fL];omega) (by simp)
 have hcat:cat [(⟨A,c,b⟩:Pt),⟨some ⟨g,0,none⟩,4,fixN 4 (crcN b)⟩]=putC b:=by simp [cat,putC]
 rw [hcat] at hC;clear hcat hB2 hr2 hwu
 go_wp2_with fail
 go_at_call 182
 refine hC.mono ?_;rintro e w3 ⟨v,rfl,ho,hb3⟩;obtain ⟨A3,c3,rfl⟩:=own_formS ho;go_wp2;go_ret;exact ⟨_,rfl,own_le ho (by simp;have:=hb12.size;omega),hb12.trans (((bR _ w2).alloc (nR _) _).trans (hb3.mono (by simp)) |>.mono hb12.size)⟩
theorem reads_drop {B:Nat} {w:World} {a:Addr} {b:List UInt8} {m n:Nat} (h:Reads w B 1 (some a) b.length (bl b)) (hn:m+n=b.length):Reads w B 1 (some (a.add m)) n (bl (b.drop m)):=by
 refine ⟨by rw [bl_len,lD];omega,fun h0=>?_⟩;obtain ⟨a',e,h1,h2⟩:=h.2 (by omega)
 cases e
 refine ⟨_,rfl,by rw [block_of_add];exact h1,fun j x hj=>?_⟩;rw [add_of_add];refine h2 _ x ?_;unfold bl at hj ⊢;rw [List.getElem?_map] at hj ⊢
 rwa [List.getElem?_drop] at hj
def sumOK (m:Nat) (b:List UInt8):Bool:=decide (crcN (b.take m)=numN (b.drop m))
theorem checkC_sum {m:Nat} {b:List UInt8} (h:b.length=m+4):checkC b=sumOK m b:=by
 unfold checkC sumOK;rw [h,show m+4-4=m by omega];simp
theorem CrcCheck_any {B:Nat} (a:Addr) (m c:Nat) (b:List UInt8) (w:World) (hB:B<=w.heap.size) (hr:Reads w B 1 (some a) b.length (bl b)) (hm:b.length=m+4) (hc:m+4<=c) (hs:m<=900000) :
 Calls Tryz.prog 111 #[.slice (some a) (m+4) c] w fun e w' =>
  (sumOK m b=true->∃ v,e=.returned (.tuple #[v,.bool true])/\w'.ownsRow w.heap.size 5 1 v m (bl (b.take m))) /\
  (sumOK m b=false->e=.returned (.tuple #[.slice none 0 0,.bool false]))/\Below w.heap.size w w':=by
 have hlt:(b.take m).length=m:=by rw [lK];omega
 have hrt:Reads w B 1 (some a) (b.take m).length (bl (b.take m)):=by rw [hlt];exact reads_take hr (by omega)
 have hrd:Reads w B 1 (some (a.add m)) (b.drop m).length (bl (b.drop m)):=by
  have h4:(b.drop m).length=4:=by rw [lD];omega
  rw [h4];exact reads_drop hr (by omega)
 have h4:(b.drop m).length=4:=by rw [lD];omega
 have hwd:Below w.heap.size w w.drew:=(bR _ w).drew;have h1:=one_row (w:=w.drew) (c:=c) 23 (hrt.below (hwd.mono hB)) hB;have hS:=Sum_any (B:=B) w.heap.size 1 [⟨some a,c,b.take m⟩] (w.drew.alloc (.cells #[.slice (some a) (b.take m).length c] 23)) (by simp;omega) h1.1 h1.2 (by simp [cat];omega) (by simp)
 have hcat:cat [(⟨some a,c,b.take m⟩:Pt)]=b.take m:=by simp [cat]
 rw [hcat,hlt] at hS;have hcl:=crcN_lt (b.take m)
 have hwu:IntKind.u64.wrap (crcN (b.take m):Int)=(crcN (b.take m):Int):=by rw [IntKind.wrap_u64];omega
 have hN:=fun (W:World) (hW:Below w.heap.size w W)=>Number_any (B:=B) (some (a.add m)) (c-m) (b.drop m) W (hrd.below (hW.mono hB)) (by omega);rw [h4] at hN
 have b0:¬ ((m:Int)+4-4<0):=by omega
 have b1:¬ ((m:Int)<0):=by omega
 have i0:(0:Int)<=(m:Int):=by omega
 have i1:m<=c:=by omega
 have i3:(m:Int)<=(m:Int)+4:=by omega
 simp only [List.length_singleton] at hS
 have i2:¬ (c=m):=by omega
 have HM:=lH hm;have HR:=lH (aI hrt hrd);clear h1 hcat hlt hm hr h4 hrt hrd
 obtain ⟨x,HX⟩:∃ x,Hid (crcN (b.take m)=x):=⟨_,lH rfl⟩
 obtain ⟨y,HY⟩:∃ y,Hid (numN (b.drop m)=y):=⟨_,lH rfl⟩
 have hso:sumOK m b=decide (x=y):=by unfold sumOK;rw [HX.out,HY.out]
 rw [HX.out] at hS hcl hwu;rw [HY.out] at hN;rw [hso];clear hso;by_cases hxy:x=y
 ·have d2:decide (x=y)=true:=dT hxy;subst hxy
  have d1:(IntKind.u64.wrap (x:Int) != (x:Int))=false:=by rw [hwu];simp
  have d3:((x:Int) != (x:Int))=false:=by simp
  rw [d2];clear d2;go_enter Tryz.func111,Tryz.ntmps111;go_wp2;refine regionE 14 (fun _=>True) (by kernel_rfl) (by kernel_rfl) (by kernel_rfl) (by kernel_rfl) (by kernel_rfl) (trivial) (fun hHeld hTl=>?_);refine tkT 0 (v:=?_) hTl hHeld rfl ?_ (fun hTl=>?_);rotate_left
  ·intro w hSw;(try dsimp only at hSw);go_simp;all_goals with_reducible rfl
  try simp only [pT]
  refine tkT 1 (v:=?_) hTl hHeld rfl ?_ (fun hTl=>?_);rotate_left
  ·intro w hSw;(try dsimp only at hSw);go_simp;all_goals with_reducible rfl
  try simp only [pT]
  refine tkT 2 (v:=?_) hTl hHeld rfl ?_ (fun hTl=>?_);rotate_left
  ·intro w hSw;(try dsimp only at hSw);go_simp;all_goals with_reducible rfl
  try simp only [pT]
  refine tkT 3 (v:=?_) hTl hHeld rfl ?_ (fun hTl=>?_);rotate_left
  ·intro w hSw;(try dsimp only at hSw);go_simp;all_goals with_reducible rfl
  try simp only [pT]
  refine tkT 4 (v:=?_) hTl hHeld rfl ?_ (fun hTl=>?_);rotate_left
  ·intro w hSw;(try dsimp only at hSw);go_simp;all_goals with_reducible rfl
  try simp only [pT]
  refine tkT 5 (v:=?_) hTl hHeld rfl ?_ (fun hTl=>?_);rotate_left
  ·intro w hSw;(try dsimp only at hSw);go_simp;all_goals with_reducible rfl
  try simp only [pT]
  refine tkT 9 (v:=?_) hTl hHeld rfl ?_ (fun hTl=>?_);rotate_left
  ·intro w hSw;(try dsimp only at hSw);go_simp;all_goals with_reducible rfl
  try simp only [pT]
  refine tkT 10 (v:=?_) hTl hHeld rfl ?_ (fun hTl=>?_);rotate_left
  ·intro w hSw;(try dsimp only at hSw);go_simp;all_goals with_reducible rfl
  try simp only [pT]
  refine tkT 11 (v:=?_) hTl hHeld rfl ?_ (fun hTl=>?_);rotate_left
  ·intro w hSw;(try dsimp only at hSw);go_simp;all_goals with_reducible rfl
  try simp only [pT]
  have hTl2:=hTl.step 6 (by kernel_rfl) (by decide);clear hTl;refine oneE 6 rfl (by kernel_rfl) (fun K hK=>?_);go_simp;refine hK.out _ _ (fun _=>trivial) ?_;clear hK K
  try simp only [pT]
  have hTl:=hTl2;clear hTl2;have hTl2:=hTl.step 7 (by kernel_rfl) (by decide);clear hTl;refine oneE 7 rfl (by kernel_rfl) (fun K hK=>?_);refine step_callW (by rfl) 166 _ (by go_simp) hS ?_
  rintro e w1 ⟨rfl,hb1⟩;refine ⟨_,rfl,?_⟩;have hb1':Below w.heap.size w w1:=(hwd.alloc (nR _) _).trans (hb1.mono (by simp))
  refine hK.out _ _ (fun _=>trivial) ?_;clear hK K
  try simp only [pT]
  have hTl:=hTl2;clear hTl2;refine tkT 8 (v:=?_) hTl hHeld rfl ?_ (fun hTl=>?_);rotate_left
  ·intro w hSw;(try dsimp only at hSw);go_simp;all_goals with_reducible rfl
  try simp only [pT]
  have hTl2:=hTl.step 12 (by kernel_rfl) (by decide);clear hTl;refine oneE 12 rfl (by kernel_rfl) (fun K hK=>?_);refine step_callW (by rfl) 113 _ (by go_simp) (hN _ hb1') ?_;rintro e w2 ⟨rfl,rfl⟩;refine ⟨_,rfl,?_⟩;refine hK.out _ _ (fun _=>trivial) ?_;clear hK K
  try simp only [pT]
  have hTl:=hTl2;clear hTl2;have hTl2:=hTl.step 13 (by kernel_rfl) (by decide);clear hTl;refine oneE 13 rfl (by kernel_rfl) (fun K hK=>?_);go_simp;refine hK.out _ _ (fun _=>trivial) ?_;clear hK K
  try simp only [pT]
  have hTl:=hTl2;clear hTl2;clear hTl;refine oneE 14 rfl (by kernel_rfl) (fun K hK=>?_);go_simp;refine hK.out _ _ (fun h=>absurd h (by decide)) ?_;clear hK K
  try simp only [pT]
  refine doneE (by kernel_rfl) ?_ _;have hrt:=HR.out.1.below (hb1'.mono hB);rw [show (b.take m).length=m by rw [lK];have:=HM.out;omega] at hrt;have hCl:=BClone_some a c (bl (b.take m)) (bl_one _) w1 hrt (nT hB hb1'.size) (by omega);clear hrt hS hN
  go_wp2_with (go_at_call 68;refine hCl.mono ?_;rintro e w2 ⟨A2,c2,rfl,ho2,hb2⟩)
  go_ret2;exact ⟨fun _=>⟨_,rfl,own_le ho2 hb1'.size⟩,fun h=>absurd h (by simp),hb1'.trans (hb2.mono hb1'.size)⟩
 ·have d1:(IntKind.u64.wrap (x:Int) != (y:Int))=true:=by rw [hwu];simpa using fun h=>hxy (by omega)
  have d3:((x:Int) != (y:Int))=true:=by simpa using fun h=>hxy (by omega)
  have d2:decide (x=y)=false:=dF hxy;rw [d2];clear d2;go_enter Tryz.func111,Tryz.ntmps111;go_wp2;refine regionE 14 (fun _=>True) (by kernel_rfl) (by kernel_rfl) (by kernel_rfl) (by kernel_rfl) (by kernel_rfl) (trivial) (fun hHeld hTl=>?_);refine tkT 0 (v:=?_) hTl hHeld rfl ?_ (fun hTl=>?_);rotate_left
  ·intro w hSw;(try dsimp only at hSw);go_simp;all_goals with_reducible rfl
  try simp only [pT]
  refine tkT 1 (v:=?_) hTl hHeld rfl ?_ (fun hTl=>?_);rotate_left
  ·intro w hSw;(try dsimp only at hSw);go_simp;all_goals with_reducible rfl
  try simp only [pT]
  refine tkT 2 (v:=?_) hTl hHeld rfl ?_ (fun hTl=>?_);rotate_left
  ·intro w hSw;(try dsimp only at hSw);go_simp;all_goals with_reducible rfl
  try simp only [pT]
  refine tkT 3 (v:=?_) hTl hHeld rfl ?_ (fun hTl=>?_);rotate_left
  ·intro w hSw;(try dsimp only at hSw);go_simp;all_goals with_reducible rfl
  try simp only [pT]
  refine tkT 4 (v:=?_) hTl hHeld rfl ?_ (fun hTl=>?_);rotate_left
  ·intro w hSw;(try dsimp only at hSw);go_simp;all_goals with_reducible rfl
  try simp only [pT]
  refine tkT 5 (v:=?_) hTl hHeld rfl ?_ (fun hTl=>?_);rotate_left
  ·intro w hSw;(try dsimp only at hSw);go_simp;all_goals with_reducible rfl
  try simp only [pT]
  refine tkT 9 (v:=?_) hTl hHeld rfl ?_ (fun hTl=>?_);rotate_left
  ·intro w hSw;(try dsimp only at hSw);go_simp;all_goals with_reducible rfl
  try simp only [pT]
  refine tkT 10 (v:=?_) hTl hHeld rfl ?_ (fun hTl=>?_);rotate_left
  ·intro w hSw;(try dsimp only at hSw);go_simp;all_goals with_reducible rfl
  try simp only [pT]
  refine tkT 11 (v:=?_) hTl hHeld rfl ?_ (fun hTl=>?_);rotate_left
  ·intro w hSw;(try dsimp only at hSw);go_simp;all_goals with_reducible rfl
  try simp only [pT]
  have hTl2:=hTl.step 6 (by kernel_rfl) (by decide);clear hTl;refine oneE 6 rfl (by kernel_rfl) (fun K hK=>?_);go_simp;refine hK.out _ _ (fun _=>trivial) ?_;clear hK K
  try simp only [pT]
  have hTl:=hTl2;clear hTl2;have hTl2:=hTl.step 7 (by kernel_rfl) (by decide);clear hTl;refine oneE 7 rfl (by kernel_rfl) (fun K hK=>?_);refine step_callW (by rfl) 166 _ (by go_simp) hS ?_
  rintro e w1 ⟨rfl,hb1⟩;refine ⟨_,rfl,?_⟩;have hb1':Below w.heap.size w w1:=(hwd.alloc (nR _) _).trans (hb1.mono (by simp))
  refine hK.out _ _ (fun _=>trivial) ?_;clear hK K
  try simp only [pT]
  have hTl:=hTl2;clear hTl2;refine tkT 8 (v:=?_) hTl hHeld rfl ?_ (fun hTl=>?_);rotate_left
  ·intro w hSw;(try dsimp only at hSw);go_simp;all_goals with_reducible rfl
  try simp only [pT]
  have hTl2:=hTl.step 12 (by kernel_rfl) (by decide);clear hTl;refine oneE 12 rfl (by kernel_rfl) (fun K hK=>?_);refine step_callW (by rfl) 113 _ (by go_simp) (hN _ hb1') ?_;rintro e w2 ⟨rfl,rfl⟩;refine ⟨_,rfl,?_⟩;refine hK.out _ _ (fun _=>trivial) ?_;clear hK K
  try simp only [pT]
  have hTl:=hTl2;clear hTl2;have hTl2:=hTl.step 13 (by kernel_rfl) (by decide);clear hTl;refine oneE 13 rfl (by kernel_rfl) (fun K hK=>?_);go_simp;refine hK.out _ _ (fun _=>trivial) ?_;clear hK K
  try simp only [pT]
  have hTl:=hTl2;clear hTl2;clear hTl;refine oneE 14 rfl (by kernel_rfl) (fun K hK=>?_);go_simp;refine hK.out _ _ (fun h=>absurd h (by decide)) ?_;clear hK K
  try simp only [pT]
  refine doneE (by kernel_rfl) ?_ _;clear hS hN;go_wp2;go_ret2;exact ⟨fun h=>absurd h (by simp),fun _=>rfl,hb1'⟩
end
section
open Go.RowKit
def spl (cur:List UInt8) (off:Nat) (s:List UInt8):List UInt8:=cur.take off++s++cur.drop (off+s.length)
theorem spl_bl (cur:List UInt8) (off:Nat) (s:List UInt8):splice (bl cur) off (bl s)=bl (spl cur off s):=by
 unfold splice spl;rw [bl_append,bl_append,bl_len];simp [bl,List.map_take,List.map_drop]
theorem spl_len {cur:List UInt8} {off:Nat} {s:List UInt8} (h:off+s.length<=cur.length):(spl cur off s).length=cur.length:=by
 unfold spl;simp only [lQ,lK,lD];omega
theorem bytes_size:(Tryz.prog.info? 5).map (·.size)=some 1:=by kernel_rfl
section
variable {ops:Array Oper} {o:Oper} {a:Act} {w:World} {Q:Exit->Act->World->Prop}
theorem step_cpB {K:Act->World->Prop} {E:Prop} (hgd:o.guard=none) (d s:Operand) (ho:o.op=.call {callee:=.builtin .copy,args:=#[d,s],argTypes:=#[23,23]})
 {dp sp:Option Addr} {dLen dCap sLen sCap:Nat} (hd:a.eval d=.slice dp dLen dCap) (hs:a.eval s=.slice sp sLen sCap) (g off:Nat) (t:TypeId) (cur src:List UInt8) (hg:Blk w g t (bl cur).toArray) (hdp:dp=some ⟨g,off,none⟩)
 {B:Nat} (hr:Reads w B 1 sp sLen (bl src)) (hn:sLen<=dLen) (hfit:off+sLen<=cur.length) {B0:Nat} {w0:World} (hb:Below B0 w0 w) (hBg:B0<=g)
 (h:∀ w',Blk w' g t (bl (spl cur off src)).toArray->Below B0 w0 w'->K (a.put o.dst (.int .i64 sLen)) w') :
 if Region.wanted o (yielded ops a.tmps)=true then Oper.wp Tryz.prog o a w K Q else E:=by
 have hl:src.length=sLen:=by have:=hr.1;rw [bl_len] at this;omega
 refine step_copy_splice hgd d s 23 23 ho 5 Tryz.underlying23 bytes_size dp sp dLen dCap sLen sCap hd hs g off (bl cur) t hg (bl src) (by rw [bl_len,hl];exact (Nat.min_eq_left hn).symm) (fun h0=>?_) (by rw [bl_len,bl_len,hl];exact hfit) (bl_one _) B0 w0 hb hBg (fun w' hw' hb'=>?_)
 ·rw [bl_len] at h0;obtain ⟨ad,e,_,h2⟩:=hr.2 (by omega);exact ⟨hdp,ad,e,h2⟩
 ·have:=h w' (by have h1:=hw'.out;rw [spl_bl] at h1;exact h1) hb';rw [bl_len,hl];exact this
theorem list_cpB {rest:List Oper} (hgd:o.guard=none) (d s:Operand) (ho:o.op=.call {callee:=.builtin .copy,args:=#[d,s],argTypes:=#[23,23]})
 {dp sp:Option Addr} {dLen dCap sLen sCap:Nat} (hd:a.eval d=.slice dp dLen dCap) (hs:a.eval s=.slice sp sLen sCap) (g off:Nat) (t:TypeId) (cur src:List UInt8) (hg:Blk w g t (bl cur).toArray) (hdp:dp=some ⟨g,off,none⟩)
 {B:Nat} (hr:Reads w B 1 sp sLen (bl src)) (hn:sLen<=dLen) (hfit:off+sLen<=cur.length) {B0:Nat} {w0:World} (hb:Below B0 w0 w) (hBg:B0<=g)
 (h:∀ w',Blk w' g t (bl (spl cur off src)).toArray->Below B0 w0 w'->wpList Tryz.prog ops Q rest (a.put o.dst (.int .i64 sLen)) w'):wpList Tryz.prog ops Q (o::rest) a w:=by
 have hl:src.length=sLen:=by have:=hr.1;rw [bl_len] at this;omega
 refine wpList_copy_splice hgd d s 23 23 ho 5 Tryz.underlying23 bytes_size dp sp dLen dCap sLen sCap hd hs g off (bl cur) t hg (bl src) (by rw [bl_len,hl];exact (Nat.min_eq_left hn).symm) (fun h0=>?_) (by rw [bl_len,bl_len,hl];exact hfit) (bl_one _) B0 w0 hb hBg (fun w' hw' hb'=>?_)
 ·rw [bl_len] at h0;obtain ⟨ad,e,_,h2⟩:=hr.2 (by omega);exact ⟨hdp,ad,e,h2⟩
 ·have:=h w' (by have h1:=hw'.out;rw [spl_bl] at h1;exact h1) hb';rw [bl_len,hl];exact this
end
theorem fS (w:World) (g:Nat) (cs:Array Value):Fr (fun k=>k=g) w (w.setRow g cs) :=
 ⟨rfl,rfl,rfl,by simp [World.setRow],fun k hk hx=>by
  simp only [World.setRow]
  rw [Array.getElem?_modify,if_neg (fun e=>hx e.symm)]⟩
theorem cpF_run {B:Nat} {w:World} {sp:Option Addr} {dLen dCap sLen sCap:Nat} (g off:Nat) (t:TypeId) (cur src:List UInt8) (hg:Blk w g t (bl cur).toArray) (hr:Reads w B 1 sp sLen (bl src)) (hn:sLen<=dLen) (hfit:off+sLen<=cur.length) :
 ∃ w',(∀ ty,(Builtin.copy_ #[23,23] ty #[.slice (some ⟨g,off,none⟩) dLen dCap,.slice sp sLen sCap]).run Tryz.prog w=.ok (.int .i64 sLen) w')/\Blk w' g t (bl (spl cur off src)).toArray/\Fr (fun k=>k=g) w w':=by
 have hl:src.length=sLen:=by have:=hr.1;rw [bl_len] at this;omega
 by_cases h0:sLen=0
 ·subst h0;have hs:src=[]:=List.eq_nil_of_length_eq_zero hl;subst hs;refine ⟨w,fun ty=>?_,?_,Fr.refl _ _⟩
  ·have h:=run_copy_none (P:=Tryz.prog) w 23 23 ty 5 (some ⟨g,off,none⟩) sp dLen dCap 0 sCap Tryz.underlying23 bytes_size (by simp);exact h
  ·have:spl cur off []=cur:=by unfold spl;simp
   rw [this];exact hg
 ·obtain ⟨ad,rfl,_,h2⟩:=hr.2 (by omega)
  have e:(bl cur).take off++bl src++(bl cur).drop (off+sLen)=bl (spl cur off src):=by
   have h:=spl_bl cur off src;unfold splice at h;rw [bl_len,hl] at h;rw [<-h,List.append_assoc]
  refine ⟨w.setRow g (bl (spl cur off src)).toArray,fun ty=>?_,setRow_heap w g _ _ t _ hg,fS w g _⟩
  ·have h:=run_copy_row (P:=Tryz.prog) w 23 23 ty 5 g off dLen dCap ad sLen sCap (bl cur).toArray t (bl src) Tryz.underlying23 bytes_size hg (by rw [bl_len,hl];exact (Nat.min_eq_left hn).symm) h2 (by rw [bl_len,hl];simp only [List.size_toArray,bl_len];exact hfit) (bl_one _);rw [bl_len,hl] at h;simp only [e] at h;exact h
section
variable {ops:Array Oper} {o:Oper} {a:Act} {w:World} {Q:Exit->Act->World->Prop}
theorem step_cpF {K:Act->World->Prop} {E:Prop} (hgd:o.guard=none) (d s:Operand) (ho:o.op=.call {callee:=.builtin .copy,args:=#[d,s],argTypes:=#[23,23]})
 {dp sp:Option Addr} {dLen dCap sLen sCap:Nat} (hd:a.eval d=.slice dp dLen dCap) (hs:a.eval s=.slice sp sLen sCap) (g off:Nat) (t:TypeId) (cur src:List UInt8) (hg:Blk w g t (bl cur).toArray) (hdp:dp=some ⟨g,off,none⟩)
 {B:Nat} (hr:Reads w B 1 sp sLen (bl src)) (hn:sLen<=dLen) (hfit:off+sLen<=cur.length)
 (h:∀ w',Blk w' g t (bl (spl cur off src)).toArray->Fr (fun k=>k=g) w w'->K (a.put o.dst (.int .i64 sLen)) w') :
 if Region.wanted o (yielded ops a.tmps)=true then Oper.wp Tryz.prog o a w K Q else E:=by
 subst hdp;obtain ⟨w',h1,h2,h3⟩:=cpF_run (dLen:=dLen) (dCap:=dCap) (sCap:=sCap) g off t cur src hg hr hn hfit
 have hw:Region.wanted o (yielded ops a.tmps)=true:=by simp [Region.wanted,hgd]
 rw [if_pos hw];unfold Oper.wp execOp;simp only [ho,resolve,invoke,builtin,Sem.run_bind,Sem.run_pure,Result.andThen_ok,List.map_toArray,List.map_cons,List.map_nil,hd,hs,h1];exact h w' h2 h3
theorem list_cpF {rest:List Oper} (hgd:o.guard=none) (d s:Operand) (ho:o.op=.call {callee:=.builtin .copy,args:=#[d,s],argTypes:=#[23,23]})
 {dp sp:Option Addr} {dLen dCap sLen sCap:Nat} (hd:a.eval d=.slice dp dLen dCap) (hs:a.eval s=.slice sp sLen sCap) (g off:Nat) (t:TypeId) (cur src:List UInt8) (hg:Blk w g t (bl cur).toArray) (hdp:dp=some ⟨g,off,none⟩)
 {B:Nat} (hr:Reads w B 1 sp sLen (bl src)) (hn:sLen<=dLen) (hfit:off+sLen<=cur.length)
 (h:∀ w',Blk w' g t (bl (spl cur off src)).toArray->Fr (fun k=>k=g) w w'->wpList Tryz.prog ops Q rest (a.put o.dst (.int .i64 sLen)) w'):wpList Tryz.prog ops Q (o::rest) a w:=by
 subst hdp;obtain ⟨w',h1,h2,h3⟩:=cpF_run (dLen:=dLen) (dCap:=dCap) (sCap:=sCap) g off t cur src hg hr hn hfit;refine wpList_plain hgd fun K hK=>?_;unfold Oper.wp execOp;simp only [ho,resolve,invoke,builtin,Sem.run_bind,Sem.run_pure,Result.andThen_ok,List.map_toArray,List.map_cons,List.map_nil,hd,hs,h1];exact hK _ _ (h w' h2 h3)
theorem reads_fr {B size n:Nat} {w':World} {A:Option Addr} {xs:List Value} {X:Nat->Prop} (h:Reads w B size A n xs) (hf:Fr X w w') (hB:B<=w.heap.size) (hA:∀ ad,A=some ad->¬ X ad.block):Reads w' B size A n xs :=
 ⟨h.1,fun h0=>by
  obtain ⟨ad,e,h1,h2⟩:=h.2 h0;refine ⟨ad,e,h1,fun j u hu=>?_⟩
  exact (World.cell?_of_block (a:=ad.add j) (by rw [block_of_add];exact hf.block _ (by omega) (hA ad e))).trans (h2 j u hu)⟩
end
theorem isKind_ok (k:Int) (h:1<=k/\k<=5) (w:World):Calls Tryz.prog 112 #[.int .i64 k] w fun e w'=>e=.returned (.bool true)/\w=w':=by
 have d1:decide (1<=k)=true:=dT h.1;have d2:decide (k<=5)=true:=dT h.2;go_enter Tryz.func112,Tryz.ntmps112;go_wp2;go_ret;exact ⟨rfl,rfl⟩
theorem isKind_no (k:Int) (h:¬ (1<=k/\k<=5)) (w:World):Calls Tryz.prog 112 #[.int .i64 k] w fun e w'=>e=.returned (.bool false)/\w=w':=by
 by_cases h1:1<=k
 ·have d1:decide (1<=k)=true:=dT h1;have d2:decide (k<=5)=false:=dF (fun h2=>h ⟨h1,h2⟩);go_enter Tryz.func112,Tryz.ntmps112;go_wp2;go_ret;exact ⟨rfl,rfl⟩
 ·have d1:decide (1<=k)=false:=dF h1;go_enter Tryz.func112,Tryz.ntmps112;go_wp2;go_ret;exact ⟨rfl,rfl⟩
def zB (n:Nat):List UInt8:=List.replicate n 0
theorem zB_len (n:Nat):(zB n).length=n:=by simp [zB]
theorem zB_succ (n:Nat):zB (n+1)=0::zB n:=rfl
theorem make_zB (s:Nat) (hs:s<=1000000) (w:World):(Instr.makeSlice 23 (.int .i64 (s:Int)) (.int .i64 (s:Int))).run Tryz.prog w=.ok (.slice (some ⟨w.heap.size,0,none⟩) s s) (w.alloc (.cells (bl (zB s)).toArray 5)):=make_bytes s hs w
theorem bl_set0 (l:List UInt8) (x:UInt8) (k:Nat) (h:k<256):(bl (x::l)).set 0 (.int .u8 (k:Int))=bl (UInt8.ofNat k::l):=by
 unfold bl;rw [List.map_cons,List.map_cons,List.set_cons_zero,u8_of h]
theorem seal_spl (k lsn:Nat) (b:List UInt8) (h:b.length=243):spl (spl (UInt8.ofNat k::zB 251) 1 (fixN 8 lsn)) 9 b=UInt8.ofNat k::(fixN 8 lsn++b):=by
 have h8:=fL 8 lsn
 have e1:spl (UInt8.ofNat k::zB 251) 1 (fixN 8 lsn)=(UInt8.ofNat k::fixN 8 lsn)++zB 243:=by
  unfold spl;rw [h8,show (1+8:Nat)=8+1 from rfl,List.drop_succ_cons]
  have:(zB 251).drop 8=zB 243:=by unfold zB;rw [List.drop_replicate]
  rw [this];rfl
 rw [e1];unfold spl;rw [h,take_app (by rw [List.length_cons,h8]),List.drop_of_length_le (by rw [lQ,List.length_cons,h8,zB_len];omega),List.append_nil,List.cons_append]
theorem Seal_any {B:Nat} (k lsn:Nat) (A:Option Addr) (c:Nat) (b:List UInt8) (w:World) (hB:B<=w.heap.size) (hr:Reads w B 1 A 243 (bl b)) (hk:1<=k/\k<=5) (hl:lsn<18446744073709551616) :
 Calls Tryz.prog 105 #[.agg #[.int .i64 k,.int .u64 lsn,.slice A 243 c]] w fun e w'=>∃ v,e=.returned (.tuple #[v,.int .i64 0])/\w'.ownsRow w.heap.size 5 1 v 256 (bl (sealB k lsn b))/\Below w.heap.size w w':=by
 have hbl:b.length=243:=by have:=hr.1;rw [bl_len] at this;omega
 have hm:∀ W:World,(Instr.makeSlice 23 (.int .i64 252) (.int .i64 252)).run Tryz.prog W=.ok (.slice (some ⟨W.heap.size,0,none⟩) 252 252) (W.alloc (.cells (bl (zB 252)).toArray 5)):=fun W=>make_zB 252 (by omega) W;have hkk:=isKind_ok (k:Int) (by omega);have bP:=Blk.new w 161 #[.int .i64 k,.int .u64 lsn,.slice A 243 c]
 obtain ⟨w1,hw1⟩:∃ w1,w1=w.alloc (.cells #[.int .i64 k,.int .u64 lsn,.slice A 243 c] 161):=⟨_,rfl⟩
 have hs1:w1.heap.size=w.heap.size+1:=by rw [hw1];simp
 have hb1:Below w.heap.size w w1:=by rw [hw1];exact (bR _ w).alloc (nR _) _
 have bG:=Blk.new w1 5 (bl (zB 252)).toArray
 have hc0:(w1.alloc (.cells (bl (zB 252)).toArray 5)).cell? ⟨w.heap.size+1,0,none⟩=some (.int .u8 0):=by
  rw [<-hs1,bG.cell];rfl
 have hf0:(w1.alloc (.cells (bl (zB 252)).toArray 5)).frozen? ⟨w.heap.size+1,0,none⟩=false:=by
  rw [<-hs1];exact bG.frozen 0
 have bP1:Blk w1 w.heap.size 161 #[.int .i64 k,.int .u64 lsn,.slice A 243 c]:=by rw [hw1];exact bP
 obtain ⟨w3,hw3⟩:∃ w3,w3=w1.alloc (.cells (bl (UInt8.ofNat k::zB 251)).toArray 5):=⟨_,rfl⟩
 have hs3:w3.heap.size=w.heap.size+2:=by rw [hw3];simp [hs1]
 have hb3:Below w.heap.size w w3:=by rw [hw3];exact hb1.alloc hb1.size _
 have bP3:Blk w3 w.heap.size 161 #[.int .i64 k,.int .u64 lsn,.slice A 243 c]:=by rw [hw3];exact bP1.alloc _
 have bG3:Blk w3 (w.heap.size+1) 5 (bl (UInt8.ofNat k::zB 251)).toArray:=by rw [hw3,<-hs1];exact Blk.new _ _ _
 have hset:(bl (zB 252)).set 0 (.int .u8 (k:Int))=bl (UInt8.ofNat k::zB 251):=by rw [zB_succ];exact bl_set0 _ _ _ (by omega)
 rw [hw1] at hc0 hf0 hw3;have H:=lH (aI hs3 (aI hb3 (aI bP3 bG3)));have HW3:=lH hw3;clear bG hb1 bP1 hs1 bP hs3 hb3 bP3 bG3 hw3;go_enter Tryz.func105,Tryz.ntmps105
 go_wp2_with (go_at_call 112;refine (hkk _).mono ?_;rintro e w1 ⟨rfl,rfl⟩)
 rw [<-HW3.out];clear hc0 hf0 hset hm hkk hw1;obtain ⟨hs3,hb3,bP3,bG3⟩:=H.out;have hb3d:Below w.heap.size w w3.drew:=hb3.drew;refine regionE 5 (fun W0=>W0.cell? ⟨w.heap.size,1,none⟩=some (.int .u64 lsn)) (by kernel_rfl) (by kernel_rfl) (by kernel_rfl) (by kernel_rfl) (by kernel_rfl) (bP3.cell 1) (fun hHeld hTl=>?_);refine tkT 0 (v:=?_) hTl hHeld rfl ?_ (fun hTl=>?_);rotate_left
 ·intro w hSw;(try dsimp only at hSw);go_simp;all_goals with_reducible rfl
 try simp only [pT]
 refine tkT 1 (v:=?_) hTl hHeld rfl ?_ (fun hTl=>?_);rotate_left
 ·intro w hSw;(try dsimp only at hSw);go_simp;all_goals with_reducible rfl
 try simp only [pT]
 refine tkT 2 (v:=?_) hTl hHeld rfl ?_ (fun hTl=>?_);rotate_left
 ·intro w hSw;(try dsimp only at hSw);go_simp;all_goals with_reducible rfl
 try simp only [pT]
 refine tkT 3 (v:=?_) hTl hHeld rfl ?_ (fun hTl=>?_);rotate_left
 ·intro w hSw;(try dsimp only at hSw);go_simp;all_goals with_reducible rfl
 try simp only [pT]
 clear hTl;refine oneE 4 rfl (by kernel_rfl) (fun K hK=>?_);refine sC rfl 144 _ (by go_simp) (Fixed_any lsn 8 hl (by omega) (by omega) _) ?_
 rintro e w4 ⟨g4,e4,hg4,hB4,hb4⟩;subst e4;refine ⟨_,rfl,?_⟩;have k4:w4.cell? ⟨w.heap.size,1,none⟩=some (.int .u64 lsn):=(bP3.drew.below hb4 (by simp [hs3])).cell 1
 refine hK.out _ _ (fun _=>k4) ?_;clear hK K
 try simp only [pT]
 have bG4:=bG3.drew.below hb4 (by simp [hs3]);have bP4:=bP3.drew.below hb4 (by simp [hs3]);have hbw4:Below w.heap.size w w4:=hb3d.trans (hb4.mono hb3d.size);refine oneE 5 rfl (by kernel_rfl) (fun K hK=>?_);refine step_cpB rfl (.tmp 22) (.tmp 25) rfl rfl rfl (w.heap.size+1) 1 5 (UInt8.ofNat k::zB 251) (fixN 8 lsn) bG4 rfl (rB hB4 (fL 8 _)) (by omega) (by simp [zB_len]) (bR (w.heap.size+1) w4) (nR _) ?_;intro w5 bG5 hb5;refine hK.out _ _ (fun h=>absurd h (by decide)) ?_;clear hK K
 try simp only [pT]
 refine doneE (by kernel_rfl) ?_ _;have bP5:=bP4.below hb5 (Nat.lt_succ_self _);have hbw5:Below w.heap.size w w5:=hbw4.trans (hb5.mono (Nat.le_succ _));have hr5:=(hr.below (hbw5.mono hB)).drew
 have hl1:(spl (UInt8.ofNat k::zB 251) 1 (fixN 8 lsn)).length=252:=by rw [spl_len (by rw [fL,List.length_cons,zB_len];omega),List.length_cons,zB_len]
 go_wp2;refine regionE 4 (fun W0=>W0.cell? ⟨w.heap.size,2,none⟩=some (.slice A 243 c)) (by kernel_rfl) (by kernel_rfl) (by kernel_rfl) (by kernel_rfl) (by kernel_rfl) (bP5.cell 2) (fun hHeld hTl=>?_);refine tkT 0 (v:=?_) hTl hHeld rfl ?_ (fun hTl=>?_);rotate_left
 ·intro w hSw;(try dsimp only at hSw);go_simp;all_goals with_reducible rfl
 try simp only [pT]
 refine tkT 1 (v:=?_) hTl hHeld rfl ?_ (fun hTl=>?_);rotate_left
 ·intro w hSw;(try dsimp only at hSw);go_simp;all_goals with_reducible rfl
 try simp only [pT]
 refine tkT 2 (v:=?_) hTl hHeld rfl ?_ (fun hTl=>?_);rotate_left
 ·intro w hSw;(try dsimp only at hSw);go_simp;all_goals with_reducible rfl
 try simp only [pT]
 refine tkT 3 (v:=?_) hTl hHeld rfl ?_ (fun hTl=>?_);rotate_left
 ·intro w hSw;(try dsimp only at hSw);go_simp;all_goals with_reducible rfl
 try simp only [pT]
 clear hTl;refine oneE 4 rfl (by kernel_rfl) (fun K hK=>?_);refine step_cpB rfl (.tmp 28) (.tmp 30) rfl rfl rfl (w.heap.size+1) 9 5 (spl (UInt8.ofNat k::zB 251) 1 (fixN 8 lsn)) b bG5.drew rfl hr5 (nR _) (by rw [hl1];omega) (bR (w.heap.size+1) w5.drew) (nR _) ?_;intro w6 bG6 hb6;refine hK.out _ _ (fun h=>absurd h (by decide)) ?_;clear hK K
 try simp only [pT]
 refine doneE (by kernel_rfl) ?_ _;rw [seal_spl k lsn b hbl] at bG6;have hbw6:Below w.heap.size w w6:=hbw5.drew.trans (hb6.mono (Nat.le_succ _))
 have hlX:(UInt8.ofNat k::(fixN 8 lsn++b)).length=252:=by rw [List.length_cons,lQ,fL,hbl]
 have hP:=CrcPut_any (some ⟨w.heap.size+1,0,none⟩) 252 (UInt8.ofNat k::(fixN 8 lsn++b)) w6 (nR _) (rB bG6 rfl) (by omega);rw [hlX,putC_len,hlX] at hP;clear hlX hl1 bG6 bG5 bP5 bP4 bG4 bP3 bG3 hr5 hB4
 go_wp2_with (go_at_call 145;refine hP.mono ?_;rintro e w7 ⟨v7,rfl,ho7,hb7⟩;obtain ⟨A7,c7,rfl⟩:=own_formS ho7)
 go_ret2;exact ⟨_,rfl,own_le ho7 hbw6.size,hbw6.trans (hb7.mono hbw6.size)⟩
end
section
open Go.RowKit
def SB (w:World) (s:Nat) (b:List UInt8):Prop:=Blk w s 273 (bl b).toArray/\b.length=243
theorem SB.cell {w:World} {s:Nat} {b:List UInt8} (h:SB w s b) {i:Nat} (hi:i<243):w.cell? ⟨s,i,none⟩=some (.int .u8 ((b.getD i 0).toNat:Nat)):=by
 rw [h.1.cell]
 have hi':i<b.length:=by have:=h.2;omega
 simp [bl,List.getD_eq_getElem?_getD,gE hi']
theorem SB.below {B:Nat} {w w':World} {s:Nat} {b:List UInt8} (h:SB w s b) (hb:Below B w w') (hs:s<B):SB w' s b:=⟨h.1.below hb hs,h.2⟩
theorem SB.lt {w:World} {s:Nat} {b:List UInt8} (h:SB w s b):s<w.heap.size:=h.1.lt
theorem SB.set_ {w:World} {s:Nat} {b:List UInt8} (h:SB w s b) (i k:Nat) (hk:k<256):SB (w.setCell ⟨s,i,none⟩ (.int .u8 (k:Nat))) s (b.set i (UInt8.ofNat k)):=by
 refine ⟨?_,by rw [List.length_set];exact h.2⟩;have:=h.1.set_ i (.int .u8 (((UInt8.ofNat k).toNat:Nat):Int));rw [bl_set,u8_of hk] at this;exact this
theorem below_drewN {B:Nat} {a w:World} (h:Below B a w) (n:Nat):Below B a (w.drewN n):=⟨h.os,h.tape,h.output,h.size,h.block⟩
theorem SNew_any (w:World):Calls Tryz.prog 148 #[] w fun e w'=>∃ s,e=.returned (.pointer (some ⟨s,0,none⟩))/\w.heap.size<=s/\SB w' s (0::243::zB 241)/\Below w.heap.size w w':=by
 go_enter Tryz.func148,Tryz.ntmps148;go_wp2;go_ret;refine ⟨_,rfl,nR _,⟨?_,rfl⟩,(bR _ _).alloc (nR _) _⟩;exact heap_alloc_new w _
theorem dir_any (i:Nat) (hi:i<=100000) (w:World):Calls Tryz.prog 185 #[.int .i64 i] w fun e w'=>e=.returned (.int .i64 ((2+2*i:Nat):Int))/\w=w':=by
 go_enter Tryz.func185,Tryz.ntmps185;go_wp2;go_ret;exact ⟨rfl,rfl⟩
theorem SLen_any {w:World} {s:Nat} {b:List UInt8} (h:SB w s b):Calls Tryz.prog 168 #[.pointer (some ⟨s,0,none⟩)] w fun e w'=>e=.returned (.int .i64 ((b.getD 0 0).toNat:Nat))/\w=w':=by
 have c0:=h.cell (i:=0) (by omega);have hk:(b.getD 0 0).toNat<256:=(b.getD 0 0).toNat_lt
 obtain ⟨k,HK⟩:∃ k,Hid ((b.getD 0 0).toNat=k):=⟨_,lH rfl⟩
 rw [HK.out] at c0 hk ⊢;go_enter Tryz.func168,Tryz.ntmps168;go_wp2;go_ret;exact ⟨rfl,rfl⟩
theorem STop_any {w:World} {s:Nat} {b:List UInt8} (h:SB w s b):Calls Tryz.prog 184 #[.pointer (some ⟨s,0,none⟩)] w fun e w'=>e=.returned (.int .i64 ((b.getD 1 0).toNat:Nat))/\w=w':=by
 have c0:=h.cell (i:=1) (by omega);have hk:(b.getD 1 0).toNat<256:=(b.getD 1 0).toNat_lt
 obtain ⟨k,HK⟩:∃ k,Hid ((b.getD 1 0).toNat=k):=⟨_,lH rfl⟩
 rw [HK.out] at c0 hk ⊢;go_enter Tryz.func184,Tryz.ntmps184;go_wp2;go_ret;exact ⟨rfl,rfl⟩
theorem place_any {w:World} {s:Nat} {b:List UInt8} (h:SB w s b) (i:Nat) (hi:3+2*i<243) :
 Calls Tryz.prog 188 #[.pointer (some ⟨s,0,none⟩),.int .i64 i] w fun e w'=>e=.returned (.tuple #[.int .i64 (atS b i:Nat),.int .i64 (lnS b i:Nat)])/\Below w.heap.size w w':=by
 have c0:=h.cell (i:=2+2*i) (by omega);have c1:=h.cell (i:=2+2*i+1) (by omega);rw [show 2+2*i+1=3+2*i by omega] at c1;unfold atS lnS;have hk:(b.getD (2+2*i) 0).toNat<256:=(b.getD (2+2*i) 0).toNat_lt;have hl:(b.getD (3+2*i) 0).toNat<256:=(b.getD (3+2*i) 0).toNat_lt
 obtain ⟨k,HK⟩:∃ k,Hid ((b.getD (2+2*i) 0).toNat=k):=⟨_,lH rfl⟩
 obtain ⟨l,HL⟩:∃ l,Hid ((b.getD (3+2*i) 0).toNat=l):=⟨_,lH rfl⟩
 rw [HK.out] at c0 hk ⊢;rw [HL.out] at c1 hl ⊢
 obtain ⟨d,HD⟩:∃ d,Hid (2+2*i=d):=⟨_,lH rfl⟩
 have hD:=fun W=>dir_any i (by omega) W
 have hd:d+1<243:=by have:=HD.out;omega
 rw [show 3+2*i=d+1 by have:=HD.out;omega] at c1;rw [HD.out] at c0 hD;go_enter Tryz.func188,Tryz.ntmps188;go_wp2
 go_quiet ((go_at_call 185;exact Calls.quiet_of_same ((hD _).mono fun _ _ h=>⟨h.1,h.2.symm⟩)))
 go_wp2;go_ret2;exact ⟨rfl,below_drewN (bR _ _) _⟩
theorem retI {k:IntKind} {a b:Int} (h:a=b):Ending.returned (.int k a)=.returned (.int k b):=by rw [h]
theorem sumL_take {l:List (List UInt8)} {k:Nat} (h:k<l.length):sumL (l.take (k+1))=sumL (l.take k)+l[k].length:=by
 rw [List.take_succ_eq_append_getElem h,sumL_snoc]
theorem sumL_take_le (l:List (List UInt8)) (k:Nat):sumL (l.take k)<=sumL l:=by
 conv=>rhs;rw [<-List.take_append_drop k l]
 unfold sumL;rw [List.map_append,List.sum_append];omega
theorem bodyS_0 {l:List (List UInt8)} (h:2+2*l.length+sumL l<=243):((bodyS l).getD 0 0).toNat=l.length:=by
 show (UInt8.ofNat l.length).toNat=_;exact u8_of (by omega)
theorem bodyS_1 {l:List (List UInt8)} (h:2+2*l.length+sumL l<=243):((bodyS l).getD 1 0).toNat=243-sumL l:=by
 show (UInt8.ofNat (243-sumL l)).toNat=_;exact u8_of (by omega)
theorem bodyS_at {l:List (List UInt8)} (h:2+2*l.length+sumL l<=243) {k:Nat} (hk:k<l.length):atS (bodyS l) k=243-sumL (l.take k)-l[k].length/\lnS (bodyS l) k=l[k].length:=by
 obtain ⟨e1,e2,_⟩:=bodyS_get h (p:=l.take k) (q:=l.drop (k+1)) (c:=l[k]) (i:=k) (by rw [<-List.drop_eq_getElem_cons hk,List.take_append_drop]) (by rw [lK];omega);exact ⟨e1,e2⟩
theorem ssum_any {w:World} {s:Nat} {l:List (List UInt8)} (hS:SB w s (bodyS l)) (hl:2+2*l.length+sumL l<=243) :
 Calls Tryz.prog 212 #[.pointer (some ⟨s,0,none⟩)] w fun e w'=>e=.returned (.int .i64 (sumL l:Nat))/\Below w.heap.size w w':=by
 have hL:=SLen_any hS;rw [bodyS_0 hl] at hL;have HS:=lH hS;clear hS;go_enter Tryz.func212,Tryz.ntmps212
 go_wp2_with (go_at_call 168;refine hL.mono ?_;rintro e w1 ⟨rfl,rfl⟩)
 go_loopw [2,8] (fun x i wr=>∃ k:Nat,k<=l.length/\i=.int .i64 k/\x=.int .i64 (sumL (l.take k):Nat)/\Below w.heap.size w wr) (fun _ i _=>l.length-(intOf i).toNat)
 case atStart=>exact ⟨0,zL _,rfl,rfl,bR _ _⟩
 case round =>
  obtain ⟨k,hk,rfl,rfl,hb⟩:=hrel
  obtain ⟨wo,rfl⟩:∃ wo,wo=wr:=⟨wr,rfl⟩
  have hle:=sumL_take_le l k;by_cases hlt:k<l.length
  ·have d1:decide (k<l.length)=true:=dT hlt;have hP:=place_any (HS.out.below hb HS.out.lt) k (by omega);obtain ⟨e1,e2⟩:=bodyS_at hl hlt;rw [e1,e2] at hP;have hle2:=sumL_take_le l (k+1);have hsc:=sumL_take hlt;rw [hsc] at hle2;have HSC:=lH hsc
   obtain ⟨m,HM⟩:∃ m,Hid (sumL (l.take k)=m):=⟨_,lH rfl⟩
   obtain ⟨n,HN⟩:∃ n,Hid (l[k].length=n):=⟨_,lH rfl⟩
   rw [HM.out] at hle hle2 hP ⊢;rw [HN.out] at hle2 hP
   obtain ⟨at',HA⟩:∃ x,Hid (243-m-n=x):=⟨_,lH rfl⟩
   rw [HA.out] at hP;clear hsc e1 e2
   go_wp2_with (go_at_call 188;refine hP.mono ?_;rintro e w2 ⟨rfl,hb2⟩)
   go_roundw
   case rel=>exact ⟨k+1,by omega,by go_num,by rw [HSC.out,HM.out,HN.out];go_num,hb.trans (hb2.mono hb.size)⟩
   case measure=>simp [intOf];omega
  ·have d1:decide (k<l.length)=false:=dF hlt
   obtain rfl:k=l.length:=by omega
   go_wp2;go_ret;exact ⟨by rw [List.take_length];rfl,hb⟩
theorem sfree_any {w:World} {s:Nat} {l:List (List UInt8)} (hS:SB w s (bodyS l)) (hl:2+2*l.length+sumL l<=243) :
 Calls Tryz.prog 183 #[.pointer (some ⟨s,0,none⟩)] w fun e w'=>e=.returned (.int .i64 ((243-(2+2*l.length)-sumL l:Nat):Int))/\Below w.heap.size w w':=by
 have hL:=SLen_any hS;rw [bodyS_0 hl] at hL;have hD:=dir_any l.length (by omega) w;have hM:=ssum_any hS hl
 obtain ⟨m,HM⟩:∃ m,Hid (sumL l=m):=⟨_,lH rfl⟩
 rw [HM.out] at hM hl ⊢
 obtain ⟨d,hd⟩:∃ d,2+2*l.length=d:=⟨_,rfl⟩
 rw [hd] at hD hl ⊢;clear hd;go_enter Tryz.func183,Tryz.ntmps183
 go_wp2_with (first | (go_at_call 168;refine hL.mono ?_;rintro e w1 ⟨rfl,rfl⟩) | (go_at_call 185;refine hD.mono ?_;rintro e w1 ⟨rfl,rfl⟩) | (go_at_call 212;refine hM.mono ?_;rintro e w1 ⟨rfl,hb1⟩))
 go_ret;exact ⟨retI (by omega),hb1⟩
def layS (b:List UInt8) (i top:Nat) (c:List UInt8):List UInt8:=(((spl b (top-c.length) c).set 1 (UInt8.ofNat (top-c.length))).set (2+2*i) (UInt8.ofNat (top-c.length))).set (3+2*i) (UInt8.ofNat c.length)
theorem slay_any {B:Nat} {w:World} {s:Nat} {b:List UInt8} (hS:SB w s b) (i top:Nat) (ht:(b.getD 1 0).toNat=top) (ht2:top<=243) (hi:3+2*i<243) (A:Option Addr) (cc:Nat) (c:List UInt8) (hr:Reads w B 1 A c.length (bl c)) (hB:B<=w.heap.size) (hc:c.length<=top) (hc2:c.length<=78) (h0:0<c.length) :
 Calls Tryz.prog 187 #[.pointer (some ⟨s,0,none⟩),.int .i64 i,.slice A c.length cc] w fun e w'=>e=.returned (.tuple #[])/\SB w' s (layS b i top c)/\Fr (fun k=>k=s) w w':=by
 have hT:=STop_any hS;rw [ht] at hT
 obtain ⟨n,HN⟩:∃ n,Hid (c.length=n):=⟨_,lH rfl⟩
 rw [HN.out] at hr hc hc2 h0 ⊢
 obtain ⟨at',ha⟩:∃ x,top=x+n:=⟨top-n,by omega⟩
 have hat:top-n=at':=by omega
 have HAT:=lH hat;subst ha;have HS:=lH hS
 have i0:(0:Int)<=(at':Int):=by omega
 have i1:(at':Int)<=243:=by omega
 have i2:((at':Int)+(n:Int)-(n:Int))=(at':Int):=by omega
 have i3:¬ (243=at'):=by omega
 have hbl:b.length=243:=hS.2;clear hS hat ht;go_enter Tryz.func187,Tryz.ntmps187
 go_wp2_with (first
  | (go_at_call 184;refine hT.mono ?_;rintro e w1 ⟨rfl,rfl⟩)
  | (refine list_cpF rfl (.tmp 16) (.tmp 17) rfl rfl rfl s at' 273 b c HS.out.1 rfl hr (by omega) (by omega) ?_;intro w1 bG1 hb1;have c1:=SB.cell (i:=1) ⟨bG1,by rw [spl_len (by rw [HN.out];omega)];exact hbl⟩ (by omega);have f1:=Blk.frozen bG1 1))
 have hbs:(spl b at' c).length=243:=by rw [spl_len (by rw [HN.out];omega)];exact hbl
 have S1:SB w1 s (spl b at' c):=⟨bG1,hbs⟩
 have S2:=S1.set_ 1 at' (by omega);have hb2:Fr (fun k=>k=s) w (w1.setCell ⟨s,1,none⟩ (.int .u8 (at':Nat))):=hb1.setCell (p:=⟨s,1,none⟩) (.inr rfl) _
 obtain ⟨w2,hw2⟩:∃ w2,w2=w1.setCell ⟨s,1,none⟩ (.int .u8 (at':Nat)):=⟨_,rfl⟩
 rw [<-hw2] at S2 hb2 ⊢
 obtain ⟨d,HD⟩:∃ d,Hid (2+2*i=d):=⟨_,lH rfl⟩
 have hD:=fun W=>dir_any i (by omega) W
 have hd:d+1<243:=by have:=HD.out;omega
 rw [HD.out] at hD;have S3:=(S2.set_ d at' (by omega)).set_ (d+1) n (by omega);have HS2:=lH (aI S2 S3);clear c1 f1 bG1 hw2 S1 hT;have q0:w2.drew.cell? ⟨s,d,none⟩=some (.int .u8 ((((spl b at' c).set 1 (UInt8.ofNat at')).getD d 0).toNat:Nat)):=S2.cell (by omega);have q1:w2.drew.frozen? ⟨s,d,none⟩=false:=S2.1.frozen d;have q2:(w2.setCell ⟨s,d,none⟩ (.int .u8 (at':Nat))).drew.cell? ⟨s,d+1,none⟩=some (.int .u8 (((((spl b at' c).set 1 (UInt8.ofNat at')).set d (UInt8.ofNat at')).getD (d+1) 0).toNat:Nat)):=(S2.set_ d at' (by omega)).cell (by omega);have q3:(w2.setCell ⟨s,d,none⟩ (.int .u8 (at':Nat))).drew.frozen? ⟨s,d+1,none⟩=false:=(S2.set_ d at' (by omega)).1.frozen (d+1)
 have hwn:IntKind.u8.wrap (n:Int)=(n:Int):=by rw [IntKind.wrap_u8];omega
 have hwa:IntKind.u8.wrap (at':Int)=(at':Int):=by rw [IntKind.wrap_u8];omega
 have j0:(d:Int)<243:=by omega
 have j1:(d:Int)+1<243:=by omega
 have j2:IntKind.i64.wrap ((d:Int)+1)=(d:Int)+1:=by rw [IntKind.wrap_i64];omega
 have j3:((d:Int)+1).toNat=d+1:=by omega
 have j4:(0:Int)<=(d:Int)+1:=by omega
 refine regionE 19 (fun _=>True) (by kernel_rfl) (by kernel_rfl) (by kernel_rfl) (by kernel_rfl) (by kernel_rfl) (trivial) (fun hHeld hTl=>?_);refine tkT 0 (v:=?_) hTl hHeld rfl ?_ (fun hTl=>?_);rotate_left
 ·intro w hSw;(try dsimp only at hSw);go_simp;all_goals with_reducible rfl
 try simp only [pT]
 refine tkT 1 (v:=?_) hTl hHeld rfl ?_ (fun hTl=>?_);rotate_left
 ·intro w hSw;(try dsimp only at hSw);go_simp;all_goals with_reducible rfl
 try simp only [pT]
 refine tkT 3 (v:=?_) hTl hHeld rfl ?_ (fun hTl=>?_);rotate_left
 ·intro w hSw;(try dsimp only at hSw);go_simp;all_goals with_reducible rfl
 try simp only [pT]
 refine tkT 4 (v:=?_) hTl hHeld rfl ?_ (fun hTl=>?_);rotate_left
 ·intro w hSw;(try dsimp only at hSw);go_simp;all_goals with_reducible rfl
 try simp only [pT]
 refine tkT 7 (v:=?_) hTl hHeld rfl ?_ (fun hTl=>?_);rotate_left
 ·intro w hSw;(try dsimp only at hSw);go_simp;all_goals with_reducible rfl
 try simp only [pT]
 refine tkT 8 (v:=?_) hTl hHeld rfl ?_ (fun hTl=>?_);rotate_left
 ·intro w hSw;(try dsimp only at hSw);go_simp;all_goals with_reducible rfl
 try simp only [pT]
 refine tkT 9 (v:=?_) hTl hHeld rfl ?_ (fun hTl=>?_);rotate_left
 ·intro w hSw;(try dsimp only at hSw);go_simp;all_goals with_reducible rfl
 try simp only [pT]
 refine tkT 10 (v:=?_) hTl hHeld rfl ?_ (fun hTl=>?_);rotate_left
 ·intro w hSw;(try dsimp only at hSw);go_simp;all_goals with_reducible rfl
 try simp only [pT]
 refine tkT 11 (v:=?_) hTl hHeld rfl ?_ (fun hTl=>?_);rotate_left
 ·intro w hSw;(try dsimp only at hSw);go_simp;all_goals with_reducible rfl
 try simp only [pT]
 refine tkT 12 (v:=?_) hTl hHeld rfl ?_ (fun hTl=>?_);rotate_left
 ·intro w hSw;(try dsimp only at hSw);go_simp;all_goals with_reducible rfl
 try simp only [pT]
 refine tkT 13 (v:=?_) hTl hHeld rfl ?_ (fun hTl=>?_);rotate_left
 ·intro w hSw;(try dsimp only at hSw);go_simp;all_goals with_reducible rfl
 try simp only [pT]
 refine tkT 16 (v:=?_) hTl hHeld rfl ?_ (fun hTl=>?_);rotate_left
 ·intro w hSw;(try dsimp only at hSw);go_simp;all_goals with_reducible rfl
 try simp only [pT]
 refine tkT 17 (v:=?_) hTl hHeld rfl ?_ (fun hTl=>?_);rotate_left
 ·intro w hSw;(try dsimp only at hSw);go_simp;all_goals with_reducible rfl
 try simp only [pT]
 have hTl2:=hTl.step 2 (by kernel_rfl) (by decide);clear hTl;refine oneE 2 rfl (by kernel_rfl) (fun K hK=>?_);refine sC rfl 185 _ (by go_simp) (hD _) ?_;rintro e w5 ⟨rfl,rfl⟩;refine ⟨_,rfl,?_⟩;refine hK.out _ _ (fun _=>trivial) ?_;clear hK K
 try simp only [pT]
 have hTl:=hTl2;clear hTl2;have hTl2:=hTl.step 5 (by kernel_rfl) (by decide);clear hTl;refine oneE 5 rfl (by kernel_rfl) (fun K hK=>?_);refine sC rfl 185 _ (by go_simp) (hD _) ?_;rintro e w5 ⟨rfl,rfl⟩;refine ⟨_,rfl,?_⟩;refine hK.out _ _ (fun _=>trivial) ?_;clear hK K
 try simp only [pT]
 have hTl:=hTl2;clear hTl2;refine tkT 6 (v:=?_) hTl hHeld rfl ?_ (fun hTl=>?_);rotate_left
 ·intro w hSw;(try dsimp only at hSw);go_simp;all_goals with_reducible rfl
 try simp only [pT]
 refine tkT 14 (v:=?_) hTl hHeld rfl ?_ (fun hTl=>?_);rotate_left
 ·intro w hSw;(try dsimp only at hSw);go_simp;all_goals with_reducible rfl
 try simp only [pT]
 have hTl2:=hTl.step 15 (by kernel_rfl) (by decide);clear hTl;refine oneE 15 rfl (by kernel_rfl) (fun K hK=>?_);go_simp;refine hK.out _ _ (fun _=>trivial) ?_;clear hK K
 try simp only [pT]
 have hTl:=hTl2;clear hTl2;refine tkT 18 (v:=?_) hTl hHeld rfl ?_ (fun hTl=>?_);rotate_left
 ·intro w hSw;(try dsimp only at hSw);go_simp;all_goals with_reducible rfl
 try simp only [pT]
 clear hTl;refine oneE 19 rfl (by kernel_rfl) (fun K hK=>?_);go_simp;refine hK.out _ _ (fun h=>absurd h (by decide)) ?_;clear hK K
 try simp only [pT]
 refine doneE (by kernel_rfl) ?_ _;have hS4:=HS2.out.2
 have hle:layS b i (at'+n) c=(((spl b at' c).set 1 (UInt8.ofNat at')).set d (UInt8.ofNat at')).set (d+1) (UInt8.ofNat n):=by
  unfold layS;rw [HN.out,HAT.out,HD.out,show 3+2*i=d+1 by have:=HD.out;omega]
 rw [<-hle] at hS4;clear q0 q1 q2 q3 S2 S3 hle;go_wp2
 go_end0
 exact ⟨rfl,hS4,(hb2.setCell (p:=⟨s,d,none⟩) (.inr rfl) _).setCell (p:=⟨s,d+1,none⟩) (.inr rfl) _ |>.drew⟩
theorem lay_body {l:List (List UInt8)} {c:List UInt8} (h:2+2*(l.length+1)+(sumL l+c.length)<=243):layS ((bodyS l).set 0 (UInt8.ofNat (l.length+1))) l.length (243-sumL l) c=bodyS (l++[c]):=by
 have hb:=bodyS_len (l:=l) (by omega);have hb2:=bodyS_len (l:=l++[c]) (by rw [lQ,List.length_singleton,sumL_snoc];omega)
 have hlen:(layS ((bodyS l).set 0 (UInt8.ofNat (l.length+1))) l.length (243-sumL l) c).length=243:=by
  unfold layS;rw [List.length_set,List.length_set,List.length_set,spl_len (by rw [List.length_set,hb];omega),List.length_set,hb]
 have e1:bodyS l=(UInt8.ofNat l.length::UInt8.ofNat (243-sumL l)::dirL 243 l)++(List.replicate (243-sumL l-(2+2*l.length)) 0++revL l):=by unfold bodyS;simp
 have e2:bodyS (l++[c])=(UInt8.ofNat (l.length+1)::UInt8.ofNat (243-sumL l-c.length)::(dirL 243 l++[UInt8.ofNat (243-sumL l-c.length),UInt8.ofNat c.length]))++(List.replicate (243-sumL l-c.length-(2+2*(l.length+1))) 0++(c++revL l)):=by
  unfold bodyS;rw [dirL_snoc,revL_snoc,sumL_snoc,lQ,List.length_singleton,show 243-(sumL l+c.length)=243-sumL l-c.length by omega];simp
 have hd:=dirL_len 243 l;have hr:=revL_len l;refine List.ext_getElem? fun j=>?_;by_cases hj':243<=j
 ·rw [List.getElem?_eq_none (by omega),List.getElem?_eq_none (by omega)]
 have hj:j<243:=by omega
 unfold layS;rw [List.getElem?_set,List.getElem?_set,List.getElem?_set]
 have hspl:(spl ((bodyS l).set 0 (UInt8.ofNat (l.length+1))) (243-sumL l-c.length) c).length=243:=by rw [spl_len (by rw [List.length_set,hb];omega),List.length_set,hb]
 simp only [List.length_set,hspl];rw [e2];by_cases h3:3+2*l.length=j
 ·rw [if_pos h3,if_pos (by omega),List.getElem?_append_left (by simp [hd];omega),<-h3];rw [show 3+2*l.length=2*l.length+1+1+1 by omega,List.getElem?_cons_succ,List.getElem?_cons_succ,List.getElem?_append_right (by omega),hd,show 2*l.length+1-2*l.length=1 by omega];rfl
 rw [if_neg h3];by_cases h2:2+2*l.length=j
 ·rw [if_pos h2,if_pos (by omega),List.getElem?_append_left (by simp [hd];omega),<-h2];rw [show 2+2*l.length=2*l.length+1+1 by omega,List.getElem?_cons_succ,List.getElem?_cons_succ,List.getElem?_append_right (by omega),hd,Nat.sub_self];rfl
 rw [if_neg h2];by_cases h1:1=j
 ·rw [if_pos h1,if_pos (by omega),<-h1];rfl
 rw [if_neg h1];unfold spl;by_cases hlo:j<2+2*l.length
 ·
   rw [List.append_assoc,List.getElem?_append_left (by rw [lK,List.length_set,hb];omega),List.getElem?_take,if_pos (by omega),List.getElem?_append_left (by simp [hd];omega)];rw [List.getElem?_set];by_cases h0:0=j
   ·rw [if_pos h0,if_pos (by omega),<-h0];rfl
   ·rw [if_neg h0,e1,List.getElem?_append_left (by simp [hd];omega)]
    obtain ⟨m,rfl⟩:∃ m,j=m+1+1:=⟨j-2,by omega⟩
    rw [List.getElem?_cons_succ,List.getElem?_cons_succ,List.getElem?_cons_succ,List.getElem?_cons_succ,List.getElem?_append_left (by omega)]
 ·by_cases hg:j<243-sumL l-c.length
  ·
    rw [List.append_assoc,List.getElem?_append_left (by rw [lK,List.length_set,hb];omega),List.getElem?_take,if_pos hg,List.getElem?_set,if_neg (by omega),e1,List.getElem?_append_right (by simp [hd];omega),List.getElem?_append_left (by simp [hd];omega),List.getElem?_replicate,if_pos (by simp [hd];omega)];rw [List.getElem?_append_right (by simp [hd];omega),List.getElem?_append_left (by simp [hd];omega),List.getElem?_replicate,if_pos (by simp [hd];omega)]
  ·
    have hlen2:(UInt8.ofNat (l.length+1)::UInt8.ofNat (243-sumL l-c.length)::(dirL 243 l++[UInt8.ofNat (243-sumL l-c.length),UInt8.ofNat c.length])).length=2+2*(l.length+1):=by simp [hd];omega
    have hj2:j-(2+2*(l.length+1))-(243-sumL l-c.length-(2+2*(l.length+1)))=j-(243-sumL l-c.length):=by omega
    have eR:((UInt8.ofNat (l.length+1)::UInt8.ofNat (243-sumL l-c.length)::(dirL 243 l++[UInt8.ofNat (243-sumL l-c.length),UInt8.ofNat c.length]))++(List.replicate (243-sumL l-c.length-(2+2*(l.length+1))) 0++(c++revL l)))[j]?=(c++revL l)[j-(243-sumL l-c.length)]?:=by
     rw [List.getElem?_append_right (by omega),hlen2,List.getElem?_append_right (by rw [List.length_replicate];omega),List.length_replicate,hj2]
    rw [eR]
    have htk:(((bodyS l).set 0 (UInt8.ofNat (l.length+1))).take (243-sumL l-c.length)).length=243-sumL l-c.length:=by rw [lK,List.length_set,hb];omega
    rw [List.append_assoc,List.getElem?_append_right (by omega),htk];congr 2;rw [show 243-sumL l-c.length+c.length=243-sumL l by omega,List.drop_set_of_lt (by omega),e1];rw [<-List.append_assoc];exact drop_app (by simp [hd];omega)
theorem SB.drew {w:World} {s:Nat} {b:List UInt8} (h:SB w s b):SB w.drew s b:=h
theorem spl_nil (b:List UInt8) (k:Nat):spl b k []=b:=by unfold spl;simp
theorem SInsert_any {B:Nat} {w:World} {s:Nat} {l:List (List UInt8)} (hS:SB w s (bodyS l)) (A:Option Addr) (cc:Nat) (c:List UInt8) (hr:Reads w B 1 A c.length (bl c)) (hB:B<=w.heap.size) (hA:∀ ad,A=some ad->ad.block≠s) (h0:0<c.length) (h78:c.length<=78) (h:2+2*(l.length+1)+(sumL l+c.length)<=243) :
 Calls Tryz.prog 149 #[.pointer (some ⟨s,0,none⟩),.int .i64 l.length,.slice A c.length cc] w fun e w'=>e=.returned (.int .i64 0)/\SB w' s (bodyS (l++[c]))/\Fr (fun k=>k=s) w w':=by
 have hlb:=lay_body h;have hS0:=bodyS_0 (l:=l) (by omega);have hS1:=bodyS_1 (l:=l) (by omega);have hL:=SLen_any hS;have hF:=sfree_any hS (by omega);rw [hS0] at hL
 obtain ⟨n,HN⟩:∃ n,Hid (l.length=n):=⟨_,lH rfl⟩
 obtain ⟨m,HM⟩:∃ m,Hid (sumL l=m):=⟨_,lH rfl⟩
 obtain ⟨k,HK⟩:∃ k,Hid (c.length=k):=⟨_,lH rfl⟩
 rw [HN.out] at hL hF h hlb ⊢;rw [HM.out] at hF h hlb hS1;rw [HK.out] at h h0 h78 hr ⊢;have hD0:=fun W=>dir_any n (by omega) W;have hD1:=fun W=>dir_any (n+1) (by omega) W;rw [show ((n+1:Nat):Int)=(n:Int)+1 by omega] at hD1
 obtain ⟨e0,E0⟩:∃ x,Hid (2+2*n=x):=⟨_,lH rfl⟩
 obtain ⟨e1,E1⟩:∃ x,Hid (2+2*(n+1)=x):=⟨_,lH rfl⟩
 rw [E0.out] at hD0 hF;rw [E1.out] at hD1 h
 have he3:e1<=242:=by have:=E1.out;omega
 have he4:e0<=240:=by have:=E1.out;have:=E0.out;omega
 have HE:Hid (e1 % 2=0/\e0 % 2=0/\e1=e0+2):=lH (by have:=E1.out;have:=E0.out;omega)
 have he2:n<=120:=by have:=E1.out;omega
 obtain ⟨fr,FR⟩:∃ x,Hid (243-e0-m=x):=⟨_,lH rfl⟩
 rw [FR.out] at hF
 have hfr:2+k<=fr:=by have:=FR.out;have:=HE.out;omega
 obtain ⟨tp,TP⟩:∃ x,Hid (243-m=x):=⟨_,lH rfl⟩
 rw [TP.out] at hlb hS1
 have htp:e1+k<=tp:=by have:=TP.out;have:=HE.out;omega
 have htp2:tp<=243:=by have:=TP.out;omega
 have g1:decide ((n:Int)<0)=false:=dF (by omega);have g2:decide ((n:Int)<(n:Int))=false:=dF (by omega);have g3:decide (78<(k:Int))=false:=dF (by omega);have g4:decide ((fr:Int)<2+(k:Int))=false:=dF (by omega);have g5:decide ((tp:Int)-(e1:Int)<(k:Int))=false:=dF (by omega);have hbl:(bodyS l).length=243:=hS.2;have H:=lH (aI hS (aI hr (aI hlb (aI hS0 (aI hS1 hbl)))));clear hS hr hlb hS0 hS1 hbl;go_enter Tryz.func149,Tryz.ntmps149
 go_wp2_with (first
  | (go_at_call 168;refine hL.mono ?_;rintro e w1 ⟨rfl,rfl⟩)
  | (go_at_call 183;refine hF.mono ?_;rintro e w1 ⟨rfl,hb1⟩;have hT:=STop_any (H.out.1.below hb1 H.out.1.lt);rw [H.out.2.2.2.2.1] at hT)
  | (go_at_call 184;refine hT.mono ?_;rintro e w2 ⟨rfl,rfl⟩)
  | (go_at_call 185;refine (hD1 _).mono ?_;rintro e w2 ⟨rfl,rfl⟩))
 have hS1:=H.out.1.below hb1 H.out.1.lt
 have a0:(0:Int)<=(e1:Int):=by omega
 have a1:(e1:Int)<=243:=by omega
 have a2:(0:Int)<=(e0:Int):=by omega
 have a3:(e0:Int)<=243:=by omega
 have a4:¬ (243=e1):=by have:=HE.out;omega
 have a5:¬ (243=e0):=by have:=HE.out;omega
 have a6:IntKind.i64.wrap ((n:Int)+1)=(n:Int)+1:=by rw [IntKind.wrap_i64];omega
 have hl0:(bodyS l).length=243:=H.out.2.2.2.2.2;clear hL hF hT g1 g2 g3 g4 g5;refine regionE 18 (fun _=>True) (by kernel_rfl) (by kernel_rfl) (by kernel_rfl) (by kernel_rfl) (by kernel_rfl) (trivial) (fun hHeld hTl=>?_);refine tkT 0 (v:=?_) hTl hHeld rfl ?_ (fun hTl=>?_);rotate_left
 ·intro w hSw;(try dsimp only at hSw);go_simp;all_goals with_reducible rfl
 try simp only [pT]
 refine tkT 1 (v:=?_) hTl hHeld rfl ?_ (fun hTl=>?_);rotate_left
 ·intro w hSw;(try dsimp only at hSw);go_simp;all_goals with_reducible rfl
 try simp only [pT]
 refine tkT 2 (v:=?_) hTl hHeld rfl ?_ (fun hTl=>?_);rotate_left
 ·intro w hSw;(try dsimp only at hSw);go_simp;all_goals with_reducible rfl
 try simp only [pT]
 refine tkT 3 (v:=?_) hTl hHeld rfl ?_ (fun hTl=>?_);rotate_left
 ·intro w hSw;(try dsimp only at hSw);go_simp;all_goals with_reducible rfl
 try simp only [pT]
 refine tkT 4 (v:=?_) hTl hHeld rfl ?_ (fun hTl=>?_);rotate_left
 ·intro w hSw;(try dsimp only at hSw);go_simp;all_goals with_reducible rfl
 try simp only [pT]
 refine tkT 6 (v:=?_) hTl hHeld rfl ?_ (fun hTl=>?_);rotate_left
 ·intro w hSw;(try dsimp only at hSw);go_simp;all_goals with_reducible rfl
 try simp only [pT]
 refine tkT 7 (v:=?_) hTl hHeld rfl ?_ (fun hTl=>?_);rotate_left
 ·intro w hSw;(try dsimp only at hSw);go_simp;all_goals with_reducible rfl
 try simp only [pT]
 refine tkT 10 (v:=?_) hTl hHeld rfl ?_ (fun hTl=>?_);rotate_left
 ·intro w hSw;(try dsimp only at hSw);go_simp;all_goals with_reducible rfl
 try simp only [pT]
 refine tkT 11 (v:=?_) hTl hHeld rfl ?_ (fun hTl=>?_);rotate_left
 ·intro w hSw;(try dsimp only at hSw);go_simp;all_goals with_reducible rfl
 try simp only [pT]
 refine tkT 12 (v:=?_) hTl hHeld rfl ?_ (fun hTl=>?_);rotate_left
 ·intro w hSw;(try dsimp only at hSw);go_simp;all_goals with_reducible rfl
 try simp only [pT]
 refine tkT 13 (v:=?_) hTl hHeld rfl ?_ (fun hTl=>?_);rotate_left
 ·intro w hSw;(try dsimp only at hSw);go_simp;all_goals with_reducible rfl
 try simp only [pT]
 refine tkT 15 (v:=?_) hTl hHeld rfl ?_ (fun hTl=>?_);rotate_left
 ·intro w hSw;(try dsimp only at hSw);go_simp;all_goals with_reducible rfl
 try simp only [pT]
 have hTl2:=hTl.step 5 (by kernel_rfl) (by decide);clear hTl;refine oneE 5 rfl (by kernel_rfl) (fun K hK=>?_);refine sC rfl 185 _ (by go_simp) (hD1 _) ?_;rintro e w5 ⟨rfl,rfl⟩;refine ⟨_,rfl,?_⟩;refine hK.out _ _ (fun _=>trivial) ?_;clear hK K
 try simp only [pT]
 have hTl:=hTl2;clear hTl2;have hTl2:=hTl.step 8 (by kernel_rfl) (by decide);clear hTl;refine oneE 8 rfl (by kernel_rfl) (fun K hK=>?_);refine sC rfl 185 _ (by go_simp) (hD1 _) ?_;rintro e w5 ⟨rfl,rfl⟩;refine ⟨_,rfl,?_⟩;refine hK.out _ _ (fun _=>trivial) ?_;clear hK K
 try simp only [pT]
 have hTl:=hTl2;clear hTl2;refine tkT 9 (v:=?_) hTl hHeld rfl ?_ (fun hTl=>?_);rotate_left
 ·intro w hSw;(try dsimp only at hSw);go_simp;all_goals with_reducible rfl
 try simp only [pT]
 have hTl2:=hTl.step 14 (by kernel_rfl) (by decide);clear hTl;refine oneE 14 rfl (by kernel_rfl) (fun K hK=>?_);refine sC rfl 185 _ (by go_simp) (hD0 _) ?_;rintro e w5 ⟨rfl,rfl⟩;refine ⟨_,rfl,?_⟩;refine hK.out _ _ (fun _=>trivial) ?_;clear hK K
 try simp only [pT]
 have hTl:=hTl2;clear hTl2;have hTl2:=hTl.step 16 (by kernel_rfl) (by decide);clear hTl;refine oneE 16 rfl (by kernel_rfl) (fun K hK=>?_);refine sC rfl 185 _ (by go_simp) (hD0 _) ?_;rintro e w5 ⟨rfl,rfl⟩;refine ⟨_,rfl,?_⟩;refine hK.out _ _ (fun _=>trivial) ?_;clear hK K
 try simp only [pT]
 have hTl:=hTl2;clear hTl2;refine tkT 17 (v:=?_) hTl hHeld rfl ?_ (fun hTl=>?_);rotate_left
 ·intro w hSw;(try dsimp only at hSw);go_simp;all_goals with_reducible rfl
 try simp only [pT]
 clear hTl;refine oneE 18 rfl (by kernel_rfl) (fun K hK=>?_);refine step_cpF (B:=0) rfl (.tmp 53) (.tmp 61) rfl rfl rfl s e1 273 (bodyS l) [] hS1.1 rfl ⟨by simp [bl],fun h=>absurd h (by omega)⟩ (zL _) (by omega) ?_;intro w2 bG2 hb2;refine hK.out _ _ (fun h=>absurd h (by decide)) ?_;clear hK K
 try simp only [pT]
 refine doneE (by kernel_rfl) ?_ _;rw [spl_nil] at bG2
 have S2:SB w2 s (bodyS l):=⟨bG2,hl0⟩
 have c0:w2.drew.cell? ⟨s,0,none⟩=some (.int .u8 (n:Nat)):=by have:=S2.cell (i:=0) (by omega);rw [H.out.2.2.2.1,HN.out] at this;exact this
 have f0:w2.drew.frozen? ⟨s,0,none⟩=false:=S2.1.frozen 0
 have hwn:IntKind.u8.wrap ((n:Int)+1)=(n:Int)+1:=by rw [IntKind.wrap_u8];omega
 go_wp2;refine regionE 9 (fun W0=>W0.cell? ⟨s,0,none⟩=some (.int .u8 (n:Nat))) (by kernel_rfl) (by kernel_rfl) (by kernel_rfl) (by kernel_rfl) (by kernel_rfl) (c0) (fun hHeld hTl=>?_);refine tkT 0 (v:=?_) hTl hHeld rfl ?_ (fun hTl=>?_);rotate_left
 ·intro w hSw;(try dsimp only at hSw);go_simp;all_goals with_reducible rfl
 try simp only [pT]
 refine tkT 1 (v:=?_) hTl hHeld rfl ?_ (fun hTl=>?_);rotate_left
 ·intro w hSw;(try dsimp only at hSw);go_simp;all_goals with_reducible rfl
 try simp only [pT]
 refine tkT 2 (v:=?_) hTl hHeld rfl ?_ (fun hTl=>?_);rotate_left
 ·intro w hSw;(try dsimp only at hSw);go_simp;all_goals with_reducible rfl
 try simp only [pT]
 refine tkT 3 (v:=?_) hTl hHeld rfl ?_ (fun hTl=>?_);rotate_left
 ·intro w hSw;(try dsimp only at hSw);go_simp;all_goals with_reducible rfl
 try simp only [pT]
 refine tkT 4 (v:=?_) hTl hHeld rfl ?_ (fun hTl=>?_);rotate_left
 ·intro w hSw;(try dsimp only at hSw);go_simp;all_goals with_reducible rfl
 try simp only [pT]
 refine tkT 5 (v:=?_) hTl hHeld rfl ?_ (fun hTl=>?_);rotate_left
 ·intro w hSw;(try dsimp only at hSw);go_simp;all_goals with_reducible rfl
 try simp only [pT]
 refine tkT 6 (v:=?_) hTl hHeld rfl ?_ (fun hTl=>?_);rotate_left
 ·intro w hSw;(try dsimp only at hSw);go_simp;all_goals with_reducible rfl
 try simp only [pT]
 refine tkT 7 (v:=?_) hTl hHeld rfl ?_ (fun hTl=>?_);rotate_left
 ·intro w hSw;(try dsimp only at hSw);go_simp;all_goals with_reducible rfl
 try simp only [pT]
 refine tkT 8 (v:=?_) hTl hHeld rfl ?_ (fun hTl=>?_);rotate_left
 ·intro w hSw;(try dsimp only at hSw);go_simp;all_goals with_reducible rfl
 try simp only [pT]
 clear hTl;refine oneE 9 rfl (by kernel_rfl) (fun K hK=>?_);go_simp;refine hK.out _ _ (fun h=>absurd h (by decide)) ?_;clear hK K
 try simp only [pT]
 refine doneE (by kernel_rfl) ?_ _;have S3:=S2.drew.set_ 0 (n+1) (by omega);have hb12:Fr (fun k=>k=s) w w2:=(Fr.of_below hb1).trans ((Fr.refl _ w1).drew.trans hb2);have hb3:Fr (fun k=>k=s) w (w2.drew.setCell ⟨s,0,none⟩ (.int .u8 ((n+1:Nat):Int))):=hb12.drew.setCell (p:=⟨s,0,none⟩) (.inr rfl) _
 have e8:((n:Int)+1)=((n+1:Nat):Int):=by omega
 rw [e8]
 obtain ⟨w3,hw3⟩:∃ w3,w3=w2.drew.setCell ⟨s,0,none⟩ (.int .u8 ((n+1:Nat):Int)):=⟨_,rfl⟩
 rw [<-hw3] at S3 hb3
 have hl1:(((bodyS l).set 0 (UInt8.ofNat (n+1))).getD 1 0).toNat=tp:=by
  rw [<-H.out.2.2.2.2.1];simp [List.getD_eq_getElem?_getD,List.getElem?_set]
 have hrw:Reads w3 B 1 A k (bl c):=reads_fr H.out.2.1 hb3 hB hA;have hLay:=slay_any (B:=B) S3 n tp hl1 htp2 (by have:=E1.out;omega) A cc c (by rw [HK.out];exact hrw) (nT hB hb3.size) (by rw [HK.out];omega) (by rw [HK.out];omega) (by rw [HK.out];omega);rw [HK.out,H.out.2.2.1] at hLay;have HW3:=lH hw3;clear c0 f0 S2 S3 bG2 hS1 hw3 hl1 hrw hD0 hD1 a0 a1 a2 a3 a4 a5 a6 hwn e8 hl0;rw [show (w2.setCell ⟨s,0,none⟩ (.int .u8 ((n+1:Nat):Int))).drew=w3 from HW3.out.symm]
 go_wp2_with (go_at_call 187;refine hLay.mono ?_;rintro e w4 ⟨rfl,hS4,hf4⟩)
 go_ret;exact ⟨rfl,hS4,hb3.trans hf4⟩
theorem sb_reads {w:World} {s:Nat} {b:List UInt8} (h:SB w s b) {off n:Nat} (hn:off+n<=243):Reads w w.heap.size 1 (some ⟨s,off,none⟩) n (bl ((b.drop off).take n)):=by
 have hb:=h.2;refine ⟨by rw [bl_len,lK,lD];omega,fun h0=>⟨_,rfl,h.lt,fun j u hu=>?_⟩⟩
 have hj:j<n:=by have:=(lS.1 hu).1;rw [bl_len,lK] at this;omega
 rw [show (⟨s,off,none⟩:Addr).add j=⟨s,off+j,none⟩ by unfold Addr.add;split <;> simp_all,h.1.cell];unfold bl at hu ⊢;rw [List.getElem?_map,List.getElem?_take,if_pos hj,List.getElem?_drop] at hu
 simpa using hu
def outS (l:List (List UInt8)) (k:Nat):List UInt8:=(bodyS l).take (2+2*l.length)++(zB (243-sumL (l.take k)-(2+2*l.length))++(bodyS l).drop (243-sumL (l.take k)))
theorem body_split {l:List (List UInt8)} (h:2+2*l.length+sumL l<=243):bodyS l=(bodyS l).take (2+2*l.length)++(zB (243-sumL l-(2+2*l.length))++(bodyS l).drop (243-sumL l)):=by
 have hd:=dirL_len 243 l
 have e1:bodyS l=(UInt8.ofNat l.length::UInt8.ofNat (243-sumL l)::dirL 243 l)++(zB (243-sumL l-(2+2*l.length))++revL l):=by unfold bodyS zB;simp
 have hl:(UInt8.ofNat l.length::UInt8.ofNat (243-sumL l)::dirL 243 l).length=2+2*l.length:=by simp [hd];omega
 have ht:(bodyS l).take (2+2*l.length)=UInt8.ofNat l.length::UInt8.ofNat (243-sumL l)::dirL 243 l:=by
  rw [e1];exact take_app hl
 have hdr:(bodyS l).drop (243-sumL l)=revL l:=by
  rw [e1,<-List.append_assoc];exact drop_app (by rw [lQ,hl,zB_len];omega)
 rw [ht,hdr];exact e1
theorem outS_end {l:List (List UInt8)} (h:2+2*l.length+sumL l<=243):outS l l.length=bodyS l:=by
 unfold outS;rw [List.take_length,<-body_split h]
theorem outS_0 {l:List (List UInt8)} (h:2+2*l.length+sumL l<=243):spl (zB 243) 0 ((bodyS l).take (2+2*l.length))=outS l 0:=by
 have hb:=bodyS_len h;unfold spl outS
 have hl:((bodyS l).take (2+2*l.length)).length=2+2*l.length:=by rw [lK,hb];omega
 rw [hl,List.take_zero,List.nil_append,List.take_zero];simp only [show sumL []=0 from rfl,Nat.sub_zero];rw [List.drop_of_length_le (show (bodyS l).length<=243 by omega),List.append_nil];unfold zB;rw [List.drop_replicate];congr 2;omega
theorem outS_len {l:List (List UInt8)} (h:2+2*l.length+sumL l<=243) (k:Nat):(outS l k).length=243:=by
 have hb:=bodyS_len h;have:=sumL_take_le l k;unfold outS;rw [lQ,lQ,lK,zB_len,lD,hb];omega
theorem outS_step {l:List (List UInt8)} (h:2+2*l.length+sumL l<=243) {k:Nat} (hk:k<l.length):spl (outS l k) (243-sumL (l.take k)-l[k].length) (((bodyS l).drop (243-sumL (l.take k)-l[k].length)).take l[k].length)=outS l (k+1):=by
 have hb:=bodyS_len h;have hle:=sumL_take_le l (k+1);have hsc:=sumL_take hk;rw [hsc] at hle
 have hlt:(((bodyS l).drop (243-sumL (l.take k)-l[k].length)).take l[k].length).length=l[k].length:=by rw [lK,lD,hb];omega
 have h1:((bodyS l).take (2+2*l.length)).length=2+2*l.length:=by rw [lK,hb];omega
 unfold spl;rw [hlt]
 have ht:(outS l k).take (243-sumL (l.take k)-l[k].length)=(bodyS l).take (2+2*l.length)++zB (243-sumL (l.take k)-l[k].length-(2+2*l.length)):=by
  unfold outS;rw [List.take_append,List.take_of_length_le (by omega),h1,List.take_append_of_le_length (by rw [zB_len];omega)];congr 1;unfold zB;rw [List.take_replicate];congr 1;omega
 have hd:(outS l k).drop (243-sumL (l.take k)-l[k].length+l[k].length)=(bodyS l).drop (243-sumL (l.take k)):=by
  unfold outS;rw [<-List.append_assoc];exact drop_app (by rw [lQ,h1,zB_len];omega)
 rw [ht,hd];unfold outS;rw [hsc,List.append_assoc,List.append_assoc];congr 1;rw [show 243-(sumL (l.take k)+l[k].length)=243-sumL (l.take k)-l[k].length by omega];congr 1
 have:(bodyS l).drop (243-sumL (l.take k))=((bodyS l).drop (243-sumL (l.take k)-l[k].length)).drop l[k].length:=by
  rw [List.drop_drop];congr 1;omega
 rw [this,List.take_append_drop]
theorem SBytes_any {w:World} {s:Nat} {l:List (List UInt8)} (hS:SB w s (bodyS l)) (hl:2+2*l.length+sumL l<=243) (h0:∀ c∈l,0<c.length) :
 Calls Tryz.prog 150 #[.pointer (some ⟨s,0,none⟩)] w fun e w'=>∃ g,e=.returned (.slice (some ⟨g,0,none⟩) 243 243)/\w.heap.size<=g/\Blk w' g 5 (bl (bodyS l)).toArray/\Below w.heap.size w w':=by
 have hm:∀ W:World,(Instr.makeSlice 23 (.int .i64 243) (.int .i64 243)).run Tryz.prog W=.ok (.slice (some ⟨W.heap.size,0,none⟩) 243 243) (W.alloc (.cells (bl (zB 243)).toArray 5)):=fun W=>make_zB 243 (by omega) W;have hS0:=bodyS_0 hl
 obtain ⟨w1,hw1⟩:∃ w1,w1=w.alloc (.cells (bl (zB 243)).toArray 5):=⟨_,rfl⟩
 have hb1:Below w.heap.size w w1:=by rw [hw1];exact (bR _ w).alloc (nR _) _
 have bG1:Blk w1 w.heap.size 5 (bl (zB 243)).toArray:=by rw [hw1];exact Blk.new _ _ _
 have hL1:=SLen_any ((hS.below hb1 hS.lt).drew);rw [hS0] at hL1;have hD:=fun W=>dir_any l.length (by omega) W
 obtain ⟨e,E⟩:∃ x,Hid (2+2*l.length=x):=⟨_,lH rfl⟩
 rw [E.out] at hD
 have he:e<=243:=by have:=E.out;omega
 have H:=lH (aI hS (aI hl (aI h0 hS0)));have HW1:=lH hw1
 have n0:l.length<=120:=by omega
 clear hS hl h0 hS0 hw1;go_enter Tryz.func150,Tryz.ntmps150;go_wp2;rw [<-HW1.out]
 have a0:(0:Int)<=(e:Int):=by omega
 have a1:(e:Int)<=243:=by omega
 refine regionE 8 (fun _=>True) (by kernel_rfl) (by kernel_rfl) (by kernel_rfl) (by kernel_rfl) (by kernel_rfl) (trivial) (fun hHeld hTl=>?_);refine tkT 0 (v:=?_) hTl hHeld rfl ?_ (fun hTl=>?_);rotate_left
 ·intro w hSw;(try dsimp only at hSw);go_simp;all_goals with_reducible rfl
 try simp only [pT]
 refine tkT 1 (v:=?_) hTl hHeld rfl ?_ (fun hTl=>?_);rotate_left
 ·intro w hSw;(try dsimp only at hSw);go_simp;all_goals with_reducible rfl
 try simp only [pT]
 refine tkT 2 (v:=?_) hTl hHeld rfl ?_ (fun hTl=>?_);rotate_left
 ·intro w hSw;(try dsimp only at hSw);go_simp;all_goals with_reducible rfl
 try simp only [pT]
 refine tkT 3 (v:=?_) hTl hHeld rfl ?_ (fun hTl=>?_);rotate_left
 ·intro w hSw;(try dsimp only at hSw);go_simp;all_goals with_reducible rfl
 try simp only [pT]
 refine tkT 4 (v:=?_) hTl hHeld rfl ?_ (fun hTl=>?_);rotate_left
 ·intro w hSw;(try dsimp only at hSw);go_simp;all_goals with_reducible rfl
 try simp only [pT]
 have hTl2:=hTl.step 5 (by kernel_rfl) (by decide);clear hTl;refine oneE 5 rfl (by kernel_rfl) (fun K hK=>?_);refine sC rfl 168 _ (by go_simp) hL1 ?_;rintro e w5 ⟨rfl,rfl⟩;refine ⟨_,rfl,?_⟩;refine hK.out _ _ (fun _=>trivial) ?_;clear hK K
 try simp only [pT]
 have hTl:=hTl2;clear hTl2;have hTl2:=hTl.step 6 (by kernel_rfl) (by decide);clear hTl;refine oneE 6 rfl (by kernel_rfl) (fun K hK=>?_);refine sC rfl 185 _ (by go_simp) (hD _) ?_;rintro e w5 ⟨rfl,rfl⟩;refine ⟨_,rfl,?_⟩;refine hK.out _ _ (fun _=>trivial) ?_;clear hK K
 try simp only [pT]
 have hTl:=hTl2;clear hTl2;refine tkT 7 (v:=?_) hTl hHeld rfl ?_ (fun hTl=>?_);rotate_left
 ·intro w hSw;(try dsimp only at hSw);go_simp;all_goals with_reducible rfl
 try simp only [pT]
 clear hTl;have hrd:=sb_reads (off:=0) (n:=e) ((H.out.1.below hb1 H.out.1.lt).drew) (by omega);rw [List.drop_zero] at hrd;refine oneE 8 rfl (by kernel_rfl) (fun K hK=>?_);refine step_cpF rfl (.tmp 10) (.tmp 17) rfl rfl rfl w.heap.size 0 5 (zB 243) ((bodyS l).take e) bG1.drew rfl hrd (by omega) (by rw [zB_len];omega) ?_;intro w2 bG2 hf2;refine hK.out _ _ (fun h=>absurd h (by decide)) ?_;clear hK K
 try simp only [pT]
 refine doneE (by kernel_rfl) ?_ _;have hb2:Below w.heap.size w w2:=hb1.drew.trans (hf2.below hb1.drew.size (fun k hk=>by omega));have hL2:=SLen_any (H.out.1.below hb2 H.out.1.lt);rw [H.out.2.2.2] at hL2
 have hout:spl (zB 243) 0 ((bodyS l).take e)=outS l 0:=by rw [<-E.out];exact outS_0 H.out.2.1
 rw [hout] at bG2;clear hout hrd bG1 hL1 hD
 go_wp2_with (go_at_call 168;refine hL2.mono ?_;rintro e w3 ⟨rfl,rfl⟩)
 go_loopw [21] (fun i wr=>∃ k:Nat,k<=l.length/\i=.int .i64 k/\Blk wr w.heap.size 5 (bl (outS l k)).toArray/\Below w.heap.size w wr) (fun i _=>l.length-(intOf i).toNat)
 case atStart=>exact ⟨0,zL _,rfl,bG2,hb2⟩
 case round =>
  clear bG2 hb2;obtain ⟨k,hk,rfl,bG,hb⟩:=hrel
  obtain ⟨wo,rfl⟩:∃ wo,wo=wr:=⟨wr,rfl⟩
  by_cases hlt:k<l.length
  ·have d1:decide (k<l.length)=true:=dT hlt;have hl:=H.out.2.1;have hle:=sumL_take_le l (k+1);have hsc:=sumL_take hlt;have hP:=place_any (H.out.1.below hb H.out.1.lt) k (by omega);obtain ⟨e1,e2⟩:=bodyS_at hl hlt;rw [e1,e2] at hP;rw [hsc] at hle;have hstep:=outS_step hl hlt;have hpos:=H.out.2.2.1 l[k] (List.getElem_mem hlt)
   obtain ⟨m,HM⟩:∃ m,Hid (sumL (l.take k)=m):=⟨_,lH rfl⟩
   obtain ⟨n,HN⟩:∃ n,Hid (l[k].length=n):=⟨_,lH rfl⟩
   rw [HM.out,HN.out] at hP hle hstep;rw [HN.out] at hpos
   have hsl:m+n+(2+2*l.length)<=243:=by omega
   obtain ⟨at',HA⟩:∃ x,Hid (243-m-n=x):=⟨_,lH rfl⟩
   rw [HA.out] at hP hstep
   have ha1:at'+n<=243:=by have:=HA.out;omega
   have HST:=lH hstep
   have z0:((n:Int)==0)=false:=by simp;omega
   have a2:(0:Int)<=(at':Int):=by omega
   have a3:(at':Int)<=(at':Int)+(n:Int):=by omega
   have a4:(at':Int)+(n:Int)<=243:=by omega
   have a5:¬ (243=at'):=by omega
   have a6:IntKind.i64.wrap ((at':Int)+(n:Int))=(at':Int)+(n:Int):=by rw [IntKind.wrap_i64];omega
   have a7:((at':Int)+(n:Int)).toNat=at'+n:=by omega
   have hol:=outS_len hl k;have HB:=lH (aI bG (aI hb hol));clear hsc e1 e2 hstep hl hle bG hol
   go_wp2_with (go_at_call 188;refine hP.mono ?_;rintro e w2 ⟨rfl,hb2⟩)
   have bG4:=HB.out.1.below hb2 HB.out.1.lt;have hb4:=HB.out.2.1.trans (hb2.mono HB.out.2.1.size);have hrd:=sb_reads (off:=at') (n:=n) ((H.out.1.below hb4 H.out.1.lt).drew) (by omega);refine regionE 14 (fun _=>True) (by kernel_rfl) (by kernel_rfl) (by kernel_rfl) (by kernel_rfl) (by kernel_rfl) (trivial) (fun hHeld hTl=>?_);refine tkT 0 (v:=?_) hTl hHeld rfl ?_ (fun hTl=>?_);rotate_left
   ·intro w hSw;(try dsimp only at hSw);go_simp;all_goals with_reducible rfl
   try simp only [pT]
   refine tkT 1 (v:=?_) hTl hHeld rfl ?_ (fun hTl=>?_);rotate_left
   ·intro w hSw;(try dsimp only at hSw);go_simp;all_goals with_reducible rfl
   try simp only [pT]
   refine tkT 2 (v:=?_) hTl hHeld rfl ?_ (fun hTl=>?_);rotate_left
   ·intro w hSw;(try dsimp only at hSw);go_simp;all_goals with_reducible rfl
   try simp only [pT]
   refine tkT 3 (v:=?_) hTl hHeld rfl ?_ (fun hTl=>?_);rotate_left
   ·intro w hSw;(try dsimp only at hSw);go_simp;all_goals with_reducible rfl
   try simp only [pT]
   refine tkT 4 (v:=?_) hTl hHeld rfl ?_ (fun hTl=>?_);rotate_left
   ·intro w hSw;(try dsimp only at hSw);go_simp;all_goals with_reducible rfl
   try simp only [pT]
   refine tkT 5 (v:=?_) hTl hHeld rfl ?_ (fun hTl=>?_);rotate_left
   ·intro w hSw;(try dsimp only at hSw);go_simp;all_goals with_reducible rfl
   try simp only [pT]
   refine tkT 6 (v:=?_) hTl hHeld rfl ?_ (fun hTl=>?_);rotate_left
   ·intro w hSw;(try dsimp only at hSw);go_simp;all_goals with_reducible rfl
   try simp only [pT]
   refine tkT 7 (v:=?_) hTl hHeld rfl ?_ (fun hTl=>?_);rotate_left
   ·intro w hSw;(try dsimp only at hSw);go_simp;all_goals with_reducible rfl
   try simp only [pT]
   refine tkT 8 (v:=?_) hTl hHeld rfl ?_ (fun hTl=>?_);rotate_left
   ·intro w hSw;(try dsimp only at hSw);go_simp;all_goals with_reducible rfl
   try simp only [pT]
   refine tkT 9 (v:=?_) hTl hHeld rfl ?_ (fun hTl=>?_);rotate_left
   ·intro w hSw;(try dsimp only at hSw);go_simp;all_goals with_reducible rfl
   try simp only [pT]
   refine tkT 10 (v:=?_) hTl hHeld rfl ?_ (fun hTl=>?_);rotate_left
   ·intro w hSw;(try dsimp only at hSw);go_simp;all_goals with_reducible rfl
   try simp only [pT]
   refine tkT 11 (v:=?_) hTl hHeld rfl ?_ (fun hTl=>?_);rotate_left
   ·intro w hSw;(try dsimp only at hSw);go_simp;all_goals with_reducible rfl
   try simp only [pT]
   refine tkT 12 (v:=?_) hTl hHeld rfl ?_ (fun hTl=>?_);rotate_left
   ·intro w hSw;(try dsimp only at hSw);go_simp;all_goals with_reducible rfl
   try simp only [pT]
   refine tkT 13 (v:=?_) hTl hHeld rfl ?_ (fun hTl=>?_);rotate_left
   ·intro w hSw;(try dsimp only at hSw);go_simp;all_goals with_reducible rfl
   try simp only [pT]
   clear hTl;refine oneE 14 rfl (by kernel_rfl) (fun K hK=>?_);refine step_cpF rfl (.tmp 46) (.tmp 54) rfl rfl rfl w.heap.size at' 5 (outS l k) (((bodyS l).drop at').take n) bG4.drew rfl hrd (nR _) (by rw [HB.out.2.2];omega) ?_;intro w5 bG5 hf5;refine hK.out _ _ (fun h=>absurd h (by decide)) ?_;clear hK K
   try simp only [pT]
   refine doneE (by kernel_rfl) ?_ _;rw [HST.out] at bG5;have hb5:Below w.heap.size w w5:=hb4.drew.trans (hf5.below hb4.drew.size (fun k hk=>by omega));clear hrd bG4;go_wp2
   go_roundw
   case rel=>exact ⟨k+1,by omega,by go_num,bG5,hb5⟩
   case measure=>simp [intOf];omega
  ·have d1:decide (k<l.length)=false:=dF hlt
   obtain rfl:k=l.length:=by omega
   rw [outS_end H.out.2.1] at bG;have HB:=lH bG;clear bG;go_wp2;go_ret;exact ⟨_,rfl,nR _,HB.out,hb⟩
def leafT (kl:Nat) (size:Int) (vl over kid:Nat):Bool:=decide (1<=kl/\kl<=24/\0<=size/\size<=1000/\kid=0/\(size<=40->(vl:Int)=size/\over=0)/\(40<size->vl=0/\0<over))
def innerT (kl:Nat) (size:Int) (vl over kid:Nat):Bool:=decide (kl<=24/\0<kid/\size=0/\over=0/\vl=0)
theorem retB {a b:Bool} (h:a=b):Ending.returned (.bool a)=.returned (.bool b):=by rw [h]
def cellV (ka:Option Addr) (kl kc:Nat) (size:Int) (va:Option Addr) (vl vc over kid:Nat):Value:=.agg #[.slice ka kl kc,.int .i64 size,.slice va vl vc,.int .u32 over,.int .u32 kid]
theorem isLeaf_any (ka:Option Addr) (kl kc:Nat) (size:Int) (va:Option Addr) (vl vc over kid:Nat) (w:World) :
 Calls Tryz.prog 202 #[cellV ka kl kc size va vl vc over kid] w fun e w'=>e=.returned (.bool (leafT kl size vl over kid))/\Below w.heap.size w w':=by
 unfold cellV
 rcases Nat.lt_or_ge 24 kl with h1 | h1 <;> rcases Nat.eq_zero_or_pos kid with h2 | h2
 ·have d1:decide ((kl:Int)<=24)=false:=by simp;omega
  have d2:((kid:Int) != 0)=false:=by simp;omega
  go_enter Tryz.func202,Tryz.ntmps202;go_wp2
  all_goals
   go_ret;refine ⟨retB ?_,(bR _ _).alloc (nR _) _⟩;unfold leafT
   first
    | (rw [Bool.eq_iff_iff];simp only [decide_eq_true_eq,beq_iff_eq,Bool.false_eq_true,false_iff];omega)
    | (rw [Bool.eq_iff_iff];simp only [decide_eq_true_eq,beq_iff_eq,Bool.false_eq_true,false_iff,Bool.and_eq_true,bne_iff_ne];omega)
    | (rw [Bool.eq_iff_iff];simp;omega)
 ·have d1:decide ((kl:Int)<=24)=false:=by simp;omega
  have d2:((kid:Int) != 0)=true:=by simp;omega
  go_enter Tryz.func202,Tryz.ntmps202;go_wp2
  all_goals
   go_ret;refine ⟨retB ?_,(bR _ _).alloc (nR _) _⟩;unfold leafT
   first
    | (rw [Bool.eq_iff_iff];simp only [decide_eq_true_eq,beq_iff_eq,Bool.false_eq_true,false_iff];omega)
    | (rw [Bool.eq_iff_iff];simp only [decide_eq_true_eq,beq_iff_eq,Bool.false_eq_true,false_iff,Bool.and_eq_true,bne_iff_ne];omega)
    | (rw [Bool.eq_iff_iff];simp;omega)
 ·have d1:decide ((kl:Int)<=24)=true:=by simp;omega
  have d2:((kid:Int) != 0)=false:=by simp;omega
  go_enter Tryz.func202,Tryz.ntmps202;go_wp2
  all_goals
   go_ret;refine ⟨retB ?_,(bR _ _).alloc (nR _) _⟩;unfold leafT
   first
    | (rw [Bool.eq_iff_iff];simp only [decide_eq_true_eq,beq_iff_eq,Bool.false_eq_true,false_iff];omega)
    | (rw [Bool.eq_iff_iff];simp only [decide_eq_true_eq,beq_iff_eq,Bool.false_eq_true,false_iff,Bool.and_eq_true,bne_iff_ne];omega)
    | (rw [Bool.eq_iff_iff];simp;omega)
 ·have d1:decide ((kl:Int)<=24)=true:=by simp;omega
  have d2:((kid:Int) != 0)=true:=by simp;omega
  go_enter Tryz.func202,Tryz.ntmps202;go_wp2
  all_goals
   go_ret;refine ⟨retB ?_,(bR _ _).alloc (nR _) _⟩;unfold leafT
   first
    | (rw [Bool.eq_iff_iff];simp only [decide_eq_true_eq,beq_iff_eq,Bool.false_eq_true,false_iff];omega)
    | (rw [Bool.eq_iff_iff];simp only [decide_eq_true_eq,beq_iff_eq,Bool.false_eq_true,false_iff,Bool.and_eq_true,bne_iff_ne];omega)
    | (rw [Bool.eq_iff_iff];simp;omega)
theorem isInner_any (ka:Option Addr) (kl kc:Nat) (size:Int) (va:Option Addr) (vl vc over kid:Nat) (w:World) :
 Calls Tryz.prog 206 #[cellV ka kl kc size va vl vc over kid] w fun e w'=>e=.returned (.bool (innerT kl size vl over kid))/\Below w.heap.size w w':=by
 unfold cellV;go_enter Tryz.func206,Tryz.ntmps206;go_wp2
 all_goals
  go_ret;refine ⟨retB ?_,(bR _ _).alloc (nR _) _⟩;unfold innerT
  first
   | (rw [Bool.eq_iff_iff];simp only [decide_eq_true_eq,beq_iff_eq,Bool.false_eq_true,false_iff];omega)
   | (rw [Bool.eq_iff_iff];simp only [decide_eq_true_eq,beq_iff_eq,Bool.false_eq_true,false_iff,Bool.and_eq_true,bne_iff_ne];omega)
   | (rw [Bool.eq_iff_iff];simp;omega)
theorem twoE {P:Program} {ops:Array Oper} {Q:Exit->Act->World->Prop} {md:Region.Mode} {S:World->Prop} {n:Nat} {listed:Array Bool} (i j:Nat) {oi oj:Oper} {fuel:Nat} {a:Act} {w:World} (hi:ops.toList[i]?=some oi) (hj:ops.toList[j]?=some oj) (hr:Region.ready md ops listed=[i,j])
 (h1:∀ K':Act->World->Prop,Shut (∀ a w,(i<n->S w)->wpAnyE P md ops Q S n fuel (listed.setIfInBounds i true) a w->K' a w)->if Region.wanted oi (yielded ops a.tmps)=true then Oper.wp P oi a w K' Q else K' (a.put oi.dst undef) w)
 (h2:∀ K':Act->World->Prop,Shut (∀ a w,(j<n->S w)->wpAnyE P md ops Q S n fuel (listed.setIfInBounds j true) a w->K' a w)->if Region.wanted oj (yielded ops a.tmps)=true then Oper.wp P oj a w K' Q else K' (a.put oj.dst undef) w) :
 wpAnyE P md ops Q S n (fuel+1) listed a w:=by
 have hi':ops[i]?=some oi:=by rw [<-Array.getElem?_toList];exact hi
 have hj':ops[j]?=some oj:=by rw [<-Array.getElem?_toList];exact hj
 refine ⟨fun h0=>absurd (hr ▸ h0) (by simp),fun k hk=>?_⟩;rw [hr] at hk
 rcases List.mem_cons.1 hk with rfl | hk
 ·exact wpOp_step hi' (fun K' hK=>h1 K' (fun a w hS hW=>hK a w ⟨hS,hW⟩))
 ·obtain rfl:=List.mem_singleton.1 hk;exact wpOp_step hj' (fun K' hK=>h2 K' (fun a w hS hW=>hK a w ⟨hS,hW⟩))
theorem cellV_blk (w:World) (ka:Option Addr) (kl kc:Nat) (size:Int) (va:Option Addr) (vl vc over kid:Nat) :
 Blk (w.alloc (.cells #[.slice ka kl kc,.int .i64 size,.slice va vl vc,.int .u32 over,.int .u32 kid] 113)) w.heap.size 113 #[.slice ka kl kc,.int .i64 size,.slice va vl vc,.int .u32 over,.int .u32 kid]:=Blk.new _ _ _
theorem row3 {w:World} {A1 A2 A3:Option Addr} {c1 c2 c3:Nat} {b1 b2 b3:List UInt8} (h1:Reads w w.heap.size 1 A1 b1.length (bl b1)) (h2:Reads w w.heap.size 1 A2 b2.length (bl b2)) (h3:Reads w w.heap.size 1 A3 b3.length (bl b3)) (hs:(b1++(b2++b3)).length<=3000000) :
 Calls Tryz.prog 182 #[.slice (some ⟨w.heap.size,0,none⟩) 3 3] (w.alloc (.cells #[.slice A1 b1.length c1,.slice A2 b2.length c2,.slice A3 b3.length c3] 23)) fun e w'=>∃ v,e=.returned v/\w'.ownsRow w.heap.size 5 1 v (b1++(b2++b3)).length (bl (b1++(b2++b3)))/\Below w.heap.size w w':=by
 have hcat:cat [⟨A1,c1,b1⟩,⟨A2,c2,b2⟩,⟨A3,c3,b3⟩]=b1++(b2++b3):=by simp [cat]
 have hba:Below w.heap.size w (w.alloc (.cells #[.slice A1 b1.length c1,.slice A2 b2.length c2,.slice A3 b3.length c3] 23)):=(bR _ w).alloc (nR _) _
 have hC:=Concat_any (B:=w.heap.size) w.heap.size 3 [⟨A1,c1,b1⟩,⟨A2,c2,b2⟩,⟨A3,c3,b3⟩] (w.alloc (.cells #[.slice A1 b1.length c1,.slice A2 b2.length c2,.slice A3 b3.length c3] 23)) (by simp) (fun k p hk=>by
  have hbk:=Blk.new w 23 #[.slice A1 b1.length c1,.slice A2 b2.length c2,.slice A3 b3.length c3];rw [hbk.cell]
  rcases k with _ | _ | _ | k
  ·cases hk;rfl
  ·cases hk;rfl
  ·cases hk;rfl
  ·simp at hk) (fun p hp=>by
  simp only [List.mem_cons,List.not_mem_nil,or_false] at hp
  rcases hp with rfl | rfl | rfl
  ·exact h1.below hba
  ·exact h2.below hba
  ·exact h3.below hba) (by rw [hcat];exact hs) (by simp)
 rw [hcat] at hC;refine hC.mono ?_;rintro e w' ⟨v,rfl,ho,hb⟩;exact ⟨v,rfl,own_le ho (by simp),hba.trans (hb.mono (by simp))⟩
theorem one_byte (w:World) (k:Nat) (hk:k<256):Reads (w.alloc (.cells #[.int .u8 (k:Nat)] 5)) (w.alloc (.cells #[.int .u8 (k:Nat)] 5)).heap.size 1 (some ⟨w.heap.size,0,none⟩) 1 (bl [UInt8.ofNat k]):=by
 have h:=Blk.new w 5 #[.int .u8 (k:Nat)];refine rB (t:=5) (b:=[UInt8.ofNat k]) ?_ rfl;unfold bl;rw [List.map_singleton,u8_of hk];exact h
theorem PutInner_no (ka:Option Addr) (kl kc:Nat) (size:Int) (va:Option Addr) (vl vc over kid:Nat) (w:World) (h:innerT kl size vl over kid=false) :
 Calls Tryz.prog 172 #[cellV ka kl kc size va vl vc over kid] w fun e w'=>e=.returned (.tuple #[.slice none 0 0,.int .i64 70])/\Below w.heap.size w w':=by
 have hI:=fun W=>isInner_any ka kl kc size va vl vc over kid W;rw [h] at hI;unfold cellV at hI ⊢;have hB:=cellV_blk w ka kl kc size va vl vc over kid
 obtain ⟨w1,hw1⟩:∃ w1,w1=w.alloc (.cells #[.slice ka kl kc,.int .i64 size,.slice va vl vc,.int .u32 over,.int .u32 kid] 113):=⟨_,rfl⟩
 rw [<-hw1] at hB
 have hb1:Below w.heap.size w w1:=by rw [hw1];exact (bR _ w).alloc (nR _) _
 have HB:=lH hB;have HW1:=lH hw1;clear hB hw1;go_enter Tryz.func172,Tryz.ntmps172
 go_wp2_with (first | (rw [<-HW1.out];refine wpList_load_row rfl 113 (.tmp 1) rfl w.heap.size rfl _ _ _ _ HB.out Tryz.underlying113 rfl (by kernel_rfl) ?_) | (go_at_call 206;refine (hI _).mono ?_;rintro e w2 ⟨rfl,hb2⟩))
 go_ret2
 first
  | exact ⟨rfl,hb1.trans (hb2.mono hb1.size)⟩
  | exact ⟨rfl,((bR _ w).alloc (nR _) _).trans (hb2.mono (by simp))⟩
theorem PutInner_ok {B:Nat} (ka:Option Addr) (kc:Nat) (key:List UInt8) (size:Int) (va:Option Addr) (vl vc over kid:Nat) (w:World) (hB:B<=w.heap.size) (hr:Reads w B 1 ka key.length (bl key)) (h:innerT key.length size vl over kid=true) (hk:kid<4294967296) :
 Calls Tryz.prog 172 #[cellV ka key.length kc size va vl vc over kid] w fun e w'=>∃ v,e=.returned (.tuple #[v,.int .i64 0])/\w'.ownsRow w.heap.size 5 1 v (fixN 4 kid++(UInt8.ofNat key.length::key)).length (bl (fixN 4 kid++(UInt8.ofNat key.length::key)))/\Below w.heap.size w w':=by
 have hI:=fun W=>isInner_any ka key.length kc size va vl vc over kid W;rw [h] at hI;unfold innerT at h;rw [decide_eq_true_eq] at h;have hkl:=h.1;unfold cellV at hI ⊢;have hC:=cellV_blk w ka key.length kc size va vl vc over kid
 obtain ⟨kl,KL⟩:∃ x,Hid (key.length=x):=⟨_,lH rfl⟩
 rw [KL.out] at hI hC hkl;have HC:=lH hC
 have hwu:IntKind.u64.wrap (kid:Int)=(kid:Int):=by rw [IntKind.wrap_u64];omega
 have hw8:IntKind.u8.wrap (kl:Int)=(kl:Int):=by rw [IntKind.wrap_u8];omega
 clear h hC;rw [KL.out];go_enter Tryz.func172,Tryz.ntmps172
 go_wp2_with (go_at_call 206;refine (hI _).mono ?_;rintro e w2 ⟨rfl,hb2⟩)
 have hbw2:Below w.heap.size w w2:=((bR _ w).alloc (nR _) _).trans (hb2.mono (by simp));have hC2:=HC.out.below hb2 HC.out.lt;have k0:w2.cell? ⟨w.heap.size,0,none⟩=some (.slice ka kl kc):=hC2.cell 0;have k4:w2.cell? ⟨w.heap.size,4,none⟩=some (.int .u32 (kid:Nat)):=hC2.cell 4
 have kS:∀ W,Below w2.heap.size w2 W->(W.cell? ⟨w.heap.size,0,none⟩=some (.slice ka kl kc)/\W.cell? ⟨w.heap.size,4,none⟩=some (.int .u32 (kid:Nat))):=fun W hW=>⟨(hW.cell (p:=⟨w.heap.size,0,none⟩) hC2.lt).trans k0,(hW.cell (p:=⟨w.heap.size,4,none⟩) hC2.lt).trans k4⟩
 have hbd:Below w2.heap.size w2 w2.drew:=(bR _ w2).drew;refine regionE 13 (fun W0=>W0.cell? ⟨w.heap.size,0,none⟩=some (.slice ka kl kc)/\W0.cell? ⟨w.heap.size,4,none⟩=some (.int .u32 (kid:Nat))) (by kernel_rfl) (by kernel_rfl) (by kernel_rfl) (by kernel_rfl) (by kernel_rfl) (kS _ hbd) (fun hHeld hTl=>?_);refine tkT 0 (v:=?_) hTl hHeld rfl ?_ (fun hTl=>?_);rotate_left
 ·intro w hSw;(try dsimp only at hSw);go_simp;all_goals with_reducible rfl
 try simp only [pT]
 refine tkT 1 (v:=?_) hTl hHeld rfl ?_ (fun hTl=>?_);rotate_left
 ·intro w hSw;(try dsimp only at hSw);go_simp;all_goals with_reducible rfl
 try simp only [pT]
 refine tkT 2 (v:=?_) hTl hHeld rfl ?_ (fun hTl=>?_);rotate_left
 ·intro w hSw;(try dsimp only at hSw);go_simp;all_goals with_reducible rfl
 try simp only [pT]
 refine tkT 4 (v:=?_) hTl hHeld rfl ?_ (fun hTl=>?_);rotate_left
 ·intro w hSw;(try dsimp only at hSw);go_simp;all_goals with_reducible rfl
 try simp only [pT]
 refine tkT 5 (v:=?_) hTl hHeld rfl ?_ (fun hTl=>?_);rotate_left
 ·intro w hSw;(try dsimp only at hSw);go_simp;all_goals with_reducible rfl
 try simp only [pT]
 refine tkT 6 (v:=?_) hTl hHeld rfl ?_ (fun hTl=>?_);rotate_left
 ·intro w hSw;(try dsimp only at hSw);go_simp;all_goals with_reducible rfl
 try simp only [pT]
 refine tkT 7 (v:=?_) hTl hHeld rfl ?_ (fun hTl=>?_);rotate_left
 ·intro w hSw;(try dsimp only at hSw);go_simp;all_goals with_reducible rfl
 try simp only [pT]
 refine tkT 9 (v:=?_) hTl hHeld rfl ?_ (fun hTl=>?_);rotate_left
 ·intro w hSw;(try dsimp only at hSw);go_simp;all_goals with_reducible rfl
 try simp only [pT]
 refine tkT 10 (v:=?_) hTl hHeld rfl ?_ (fun hTl=>?_);rotate_left
 ·intro w hSw;(try dsimp only at hSw);go_simp;all_goals with_reducible rfl
 try simp only [pT]
 clear hTl;refine twoE 3 8 rfl rfl (by kernel_rfl) (fun K hK=>?_) (fun K hK=>?_)
 ·refine sC rfl 144 _ (by go_simp) (Fixed_any kid 4 (by omega) (by omega) (by omega) _) ?_;rintro e w3 ⟨g,e3,hg,hB3,hb3⟩;subst e3;refine ⟨_,rfl,?_⟩;have hbd3:Below w2.heap.size w2 w3:=hbd.trans (hb3.mono hbd.size);refine hK.out _ _ (fun _=>kS _ hbd3) ?_;clear hK K
  try simp only [pT]
  refine oneE 8 rfl (by kernel_rfl) (fun K hK=>?_);go_simp;refine hK.out _ _ (fun _=>kS _ (hbd3.alloc hbd3.size _)) ?_;clear hK K
  try simp only [pT]
  have hr1:=rB (hB3.alloc (.cells #[.int .u8 (kl:Nat)] 5)) rfl;have hr2:=one_byte w3 kl (by omega);have hb4:Below w2.heap.size w2 (w3.alloc (.cells #[.int .u8 (kl:Nat)] 5)):=hbd3.alloc hbd3.size _;have hbw4:Below w.heap.size w (w3.alloc (.cells #[.int .u8 (kl:Nat)] 5)):=hbw2.trans (hb4.mono hbw2.size);have hr3:=rM (hr.below (hbw4.mono hB)) (nT hB hbw4.size);have hC:=row3 (c1:=4) (c2:=1) (c3:=kc) hr1 hr2 hr3 (by rw [lQ,fL,lQ];simp;have:=KL.out;omega);simp only [fL,List.length_singleton,KL.out] at hC;refine oneE 11 rfl (by kernel_rfl) (fun K hK=>?_);go_simp;refine hK.out _ _ (fun _=>kS _ (hb4.alloc hb4.size _)) ?_;clear hK K
  try simp only [pT]
  refine oneE 12 rfl (by kernel_rfl) (fun K hK=>?_);refine sC rfl 182 _ (by go_simp) hC ?_;rintro e w5 ⟨v5,e5,ho5,hb5⟩;subst e5;obtain ⟨A5,c5,rfl⟩:=own_formS ho5;refine ⟨_,rfl,?_⟩;refine hK.out _ _ (fun _=>kS _ (hb4.trans (hb5.mono hb4.size))) ?_;clear hK K
  try simp only [pT]
  refine oneE 13 rfl (by kernel_rfl) (fun K hK=>?_);go_simp;refine hK.out _ _ (fun h=>absurd h (by decide)) ?_;clear hK K
  try simp only [pT]
  refine oneE 14 rfl (by kernel_rfl) (fun K hK=>?_);go_simp;refine hK.out _ _ (fun h=>absurd h (by decide)) ?_;clear hK K
  try simp only [pT]
  refine doneE (by kernel_rfl) ?_ _;go_wp2;go_ret2
  have e:(fixN 4 kid++([UInt8.ofNat kl]++key)).length=(fixN 4 kid).length+(key.length+1):=by simp
  have e':(fixN 4 kid++(UInt8.ofNat kl::key)).length=(fixN 4 kid).length+(key.length+1):=e;have ho6:=own_le ho5 hbw4.size;rw [e] at ho6;rw [e'];exact ⟨_,rfl,ho6,hbw4.trans (hb5.mono hbw4.size)⟩
 ·go_simp;have hb3a:Below w2.heap.size w2 (w2.drew.alloc (.cells #[.int .u8 (kl:Nat)] 5)):=hbd.alloc hbd.size _;refine hK.out _ _ (fun _=>kS _ hb3a) ?_;clear hK K
  try simp only [pT]
  refine oneE 3 rfl (by kernel_rfl) (fun K hK=>?_);refine sC rfl 144 _ (by go_simp) (Fixed_any kid 4 (by omega) (by omega) (by omega) _) ?_
  rintro e w4 ⟨g,e3,hg,hB4,hb4'⟩;subst e3;refine ⟨_,rfl,?_⟩;have hb4:Below w2.heap.size w2 w4:=hb3a.trans (hb4'.mono hb3a.size)
  refine hK.out _ _ (fun _=>kS _ hb4) ?_;clear hK K
  try simp only [pT]
  have hr1:=rB hB4 rfl;have hr2:=rM ((one_byte w2.drew kl (by omega)).below hb4') hb4'.size;have hbw4:Below w.heap.size w w4:=hbw2.trans (hb4.mono hbw2.size);have hr3:=rM (hr.below (hbw4.mono hB)) (nT hB hbw4.size);have hC:=row3 (c1:=4) (c2:=1) (c3:=kc) hr1 hr2 hr3 (by rw [lQ,fL,lQ];simp;have:=KL.out;omega);simp only [fL,List.length_singleton,KL.out] at hC;refine oneE 11 rfl (by kernel_rfl) (fun K hK=>?_);go_simp;refine hK.out _ _ (fun _=>kS _ (hb4.alloc hb4.size _)) ?_;clear hK K
  try simp only [pT]
  refine oneE 12 rfl (by kernel_rfl) (fun K hK=>?_);refine sC rfl 182 _ (by go_simp) hC ?_;rintro e w5 ⟨v5,e5,ho5,hb5⟩;subst e5;obtain ⟨A5,c5,rfl⟩:=own_formS ho5;refine ⟨_,rfl,?_⟩;refine hK.out _ _ (fun _=>kS _ (hb4.trans (hb5.mono hb4.size))) ?_;clear hK K
  try simp only [pT]
  refine oneE 13 rfl (by kernel_rfl) (fun K hK=>?_);go_simp;refine hK.out _ _ (fun h=>absurd h (by decide)) ?_;clear hK K
  try simp only [pT]
  refine oneE 14 rfl (by kernel_rfl) (fun K hK=>?_);go_simp;refine hK.out _ _ (fun h=>absurd h (by decide)) ?_;clear hK K
  try simp only [pT]
  refine doneE (by kernel_rfl) ?_ _;go_wp2;go_ret2
  have e:(fixN 4 kid++([UInt8.ofNat kl]++key)).length=(fixN 4 kid).length+(key.length+1):=by simp
  have e':(fixN 4 kid++(UInt8.ofNat kl::key)).length=(fixN 4 kid).length+(key.length+1):=e;have ho6:=own_le ho5 hbw4.size;rw [e] at ho6;rw [e'];exact ⟨_,rfl,ho6,hbw4.trans (hb5.mono hbw4.size)⟩
end
end Go.Proofs.YtenfkghoolegfaaGreatDoor
