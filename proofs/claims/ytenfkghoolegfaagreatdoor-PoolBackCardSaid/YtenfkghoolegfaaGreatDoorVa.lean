/- A part of the proof of PoolBack. No condition of its own. -/
import Derived.Test.YtenfkghoolegfaaGreatDoorVz
import Derived.Below
import Derived.Laws.OwnMore
import Derived.Deep.AppendLies
import Derived.Deep.Draws
import Derived.Maps.AppendAt
import Derived.RegionTactic
import Derived.OwnWalk
import Derived.Calls
import Derived.Orders
import Derived.Laws.IdiomCopy
import Derived.Deep.AppendSrc
import Derived.WalkKit
import Derived.Laws.Tables
import Derived.Deep.MidRow
import Derived.Laws.BitsAllLaws
set_option linter.unusedVariables false
namespace Go.Proofs.YtenfkghoolegfaaGreatDoor
open Go.RowKit
theorem block_of_add (a:Addr) (n:Nat):(a.add n).block=a.block:=by unfold Addr.add;split <;> rfl
theorem add_of_add (a:Addr) (i j:Nat):(a.add i).add j=a.add (i+j):=by
 unfold Addr.add;by_cases hi:i=0 <;> by_cases hj:j=0 <;> simp [hi,hj,Nat.add_assoc]
def Reads (w:World) (B size:Nat) (A:Option Addr) (n:Nat) (xs:List Value):Prop :=
 xs.length=n*size/\(0<n->∃ ad,A=some ad/\ad.block<B/\∀ j u,xs[j]?=some u->w.cell? (ad.add j)=some u)
section
variable {w w':World} {B B' size n:Nat} {A:Option Addr} {xs:List Value}
theorem Reads.none_:Reads w B size A 0 []:=⟨by simp,fun h=>absurd h (by omega)⟩
theorem Reads.at_ {k:Nat} (h:Reads w B 1 A n xs) (hk:k<n):∃ ad u,A=some ad/\ad.block<B/\xs[k]?=some u/\w.cell? (ad.add k)=some u:=by
 obtain ⟨ad,e,hb,hc⟩:=h.2 (by omega)
 have hl:k<xs.length:=by have:=h.1;omega
 exact ⟨ad,xs[k],e,hb,gE hl,hc k _ (gE hl)⟩
theorem Reads.keep (h:Reads w B size A n xs) (hk:∀ p:Addr,p.block<B->w'.cell? p=w.cell? p):Reads w' B size A n xs :=
 ⟨h.1,fun hn=>by
  obtain ⟨ad,e,hb,hc⟩:=h.2 hn
  exact ⟨ad,e,hb,fun j u hu=>(hk _ (by rw [block_of_add];exact hb)).trans (hc j u hu)⟩⟩
theorem Reads.below (h:Reads w B size A n xs) (hb:Below B w w'):Reads w' B size A n xs:=h.keep fun _ hp=>hb.cell hp
theorem Reads.drew (h:Reads w B size A n xs):Reads w.drew B size A n xs:=h
theorem Reads.drewN (h:Reads w B size A n xs) (k:Nat):Reads (w.drewN k) B size A n xs:=h
theorem Reads.alloc (h:Reads w B size A n xs) (hB:B<=w.heap.size) (o:Obj):Reads (w.alloc o) B size A n xs:=h.keep fun p hp=>World.cell?_alloc_lt w o p (by omega)
theorem Reads.of_own {base:Nat} {e:TypeId} {c:Nat} (h:w.ownsRow base e size (.slice A n c) n xs):Reads w w.heap.size size A n xs:=by
 refine ⟨h.1,fun hn=>?_⟩;obtain ⟨g,cap,hv,_,hlt⟩:=h.form hn
 have hA:A=some ⟨g,0,none⟩:=by injection hv
 subst hA;exact ⟨_,rfl,hlt,h.cells (g:=g) rfl⟩
end
section
variable {P:Program} (w:World)
theorem run_append_of_nil (base:Nat) (t ty e:TypeId) (i:TypeInfo) (size:Nat) (ht:P.underlying t=some (.slice e)) (hi:P.info? e=some i)
 (v:Value) (n:Nat) (xs:List Value) (hown:w.ownsRow base e size v n xs) (c:Nat):(Builtin.append_ #[t,t] ty #[v,.slice none 0 c]).run P w=.ok v w:=by
 rcases hown.2 with ⟨rfl,rfl⟩ | ⟨g,cap,cur,rfl,_,_,hnc,_⟩
 ·simp [Builtin.append_,run_underlying ht,sizeOf,typeInfo,hi,Builtin.lenOf,Builtin.firstCells]
 ·simp [Builtin.append_,run_underlying ht,sizeOf,typeInfo,hi,Builtin.lenOf,Builtin.firstCells,hnc,storeCells]
theorem run_append_any (base:Nat) (t ty e:TypeId) (i:TypeInfo) (z:Value) (size bytes:Nat) (ht:P.underlying t=some (.slice e)) (hi:P.info? e=some i) (hz:i.zero=some z)
 (hsize:i.size=size) (hby:i.bytes=bytes) (hzs:z.cells.size=size) (hsz:0<size)
 (v:Value) (n:Nat) (xs:List Value) (hown:w.ownsRow base e size v n xs)
 (B:Nat) (A:Option Addr) (m c:Nat) (news:List Value) (hr:Reads w B size A m news) (h1:∀ u∈news,u.oneCell'=true)
 (h63:n+m<=maxLen) (hbytes:(n+m)*bytes<=140737488355328) (hbase:base<=w.heap.size) :
 ∃ v' w',(Builtin.append_ #[t,t] ty #[v,.slice A m c]).run P w=.ok v' w'/\w'.ownsRow base e size v' (n+m) (xs++news)/\w.grownBy w' v.ownBlock /\
  (v'.ownBlock=v.ownBlock\/v'.ownBlock=some w.heap.size):=by
 rcases A with _ | ad
 ·have hm:m=0:=by
   rcases Nat.eq_zero_or_pos m with h0 | h0
   ·exact h0
   ·obtain ⟨ad,h,_⟩:=hr.2 h0
    cases h
  subst hm;have hn:news=[]:=List.eq_nil_of_length_eq_zero (by simpa using hr.1);subst hn;exact ⟨v,w,run_append_of_nil w base t ty e i size ht hi v n xs hown c,by simpa using hown,World.grownBy.refl w _,.inl rfl⟩
 ·have hcells:∀ j u,news[j]?=some u->w.cell? (ad.add j)=some u:=by
   intro j u hu
   rcases Nat.eq_zero_or_pos m with h0 | h0
   ·subst h0;have hn:news=[]:=List.eq_nil_of_length_eq_zero (by simpa using hr.1);subst hn;simp at hu
   ·obtain ⟨ad',h,_,hc⟩:=hr.2 h0
    injection h with h
    subst h;exact hc j u hu
  obtain ⟨v',w',hrun,h2,h3,_,h5⟩:=run_append_own_at (P:=P) w base t ty e i z size bytes ht hi hz hsize hby hzs hsz v n xs hown ad m c news hr.1 hcells h1 h63 hbytes hbase;exact ⟨v',w',hrun,h2,h3,h5⟩
theorem wp_append_any {o:Oper} {a:Act} {K:Act->World->Prop} {Q:Exit->Act->World->Prop} (s x:Operand) (t:TypeId)
 (ho:o.op=.call {callee:=.builtin .append,args:=#[s,x],argTypes:=#[t,t]})
 (base:Nat) (e:TypeId) (i:TypeInfo) (z:Value) (size bytes:Nat) (ht:P.underlying t=some (.slice e)) (hi:P.info? e=some i) (hz:i.zero=some z)
 (hsize:i.size=size) (hby:i.bytes=bytes) (hzs:z.cells.size=size) (hsz:0<size)
 (v:Value) (n:Nat) (xs:List Value) (hs:a.eval s=v) (hown:w.ownsRow base e size v n xs)
 (B:Nat) (A:Option Addr) (m c:Nat) (news:List Value) (hx:a.eval x=.slice A m c) (hr:Reads w B size A m news) (h1:∀ u∈news,u.oneCell'=true)
 (h63:n+m<=maxLen) (hbytes:(n+m)*bytes<=140737488355328) (hbase:base<=w.heap.size)
 (h:∀ v' w',w'.ownsRow base e size v' (n+m) (xs++news)->w.grownBy w' v.ownBlock->(v'.ownBlock=v.ownBlock\/v'.ownBlock=some w.heap.size)->K (a.put o.dst v') w'):o.wp P a w K Q:=by
 obtain ⟨v',w',hrun,h2,h3,h4⟩:=run_append_any (P:=P) w base t o.type e i z size bytes ht hi hz hsize hby hzs hsz v n xs hown B A m c news hr h1 h63 hbytes hbase;unfold Oper.wp execOp;simp only [ho,resolve,invoke,builtin,Sem.run_bind,Sem.run_pure,Result.andThen_ok,List.map_toArray,List.map_cons,List.map_nil,hs,hx,hrun];exact h v' w' h2 h3 h4
theorem wpList_append_any {ops:Array Oper} {rest:List Oper} {o:Oper} {a:Act} {Q:Exit->Act->World->Prop} (hgd:o.guard=none) (s x:Operand) (t:TypeId)
 (ho:o.op=.call {callee:=.builtin .append,args:=#[s,x],argTypes:=#[t,t]})
 (base:Nat) (e:TypeId) (i:TypeInfo) (z:Value) (size bytes:Nat) (ht:P.underlying t=some (.slice e)) (hi:P.info? e=some i) (hz:i.zero=some z)
 (hsize:i.size=size) (hby:i.bytes=bytes) (hzs:z.cells.size=size) (hsz:0<size)
 (v:Value) (n:Nat) (xs:List Value) (hs:a.eval s=v) (hown:w.ownsRow base e size v n xs)
 (B:Nat) (A:Option Addr) (m c:Nat) (news:List Value) (hx:a.eval x=.slice A m c) (hr:Reads w B size A m news) (h1:∀ u∈news,u.oneCell'=true)
 (h63:n+m<=maxLen) (hbytes:(n+m)*bytes<=140737488355328) (hbase:base<=w.heap.size)
 (h:∀ v' w',w'.ownsRow base e size v' (n+m) (xs++news)->w.grownBy w' v.ownBlock->(v'.ownBlock=v.ownBlock\/v'.ownBlock=some w.heap.size)->wpList P ops Q rest (a.put o.dst v') w'):wpList P ops Q (o::rest) a w :=
 wpList_plain hgd fun _ hK=>wp_append_any w s x t ho base e i z size bytes ht hi hz hsize hby hzs hsz v n xs hs hown B A m c news hx hr h1 h63 hbytes hbase fun v' w' h2 h3 h4=>hK _ _ (h v' w' h2 h3 h4)
theorem step_append_any {ops:Array Oper} {o:Oper} {a:Act} {K:Act->World->Prop} {Q:Exit->Act->World->Prop} {E:Prop} (hgd:o.guard=none) (s x:Operand) (t:TypeId)
 (ho:o.op=.call {callee:=.builtin .append,args:=#[s,x],argTypes:=#[t,t]})
 (base:Nat) (e:TypeId) (i:TypeInfo) (z:Value) (size bytes:Nat) (ht:P.underlying t=some (.slice e)) (hi:P.info? e=some i) (hz:i.zero=some z)
 (hsize:i.size=size) (hby:i.bytes=bytes) (hzs:z.cells.size=size) (hsz:0<size)
 (v:Value) (n:Nat) (xs:List Value) (hs:a.eval s=v) (hown:w.ownsRow base e size v n xs)
 (B:Nat) (A:Option Addr) (m c:Nat) (news:List Value) (hx:a.eval x=.slice A m c) (hr:Reads w B size A m news) (h1:∀ u∈news,u.oneCell'=true)
 (h63:n+m<=maxLen) (hbytes:(n+m)*bytes<=140737488355328) (hbase:base<=w.heap.size)
 (h:∀ v' w',w'.ownsRow base e size v' (n+m) (xs++news)->w.grownBy w' v.ownBlock->(v'.ownBlock=v.ownBlock\/v'.ownBlock=some w.heap.size)->K (a.put o.dst v') w') :
 if Region.wanted o (yielded ops a.tmps)=true then Oper.wp P o a w K Q else E:=by
 have hw:Region.wanted o (yielded ops a.tmps)=true:=by simp [Region.wanted,hgd]
 rw [if_pos hw];exact wp_append_any w s x t ho base e i z size bytes ht hi hz hsize hby hzs hsz v n xs hs hown B A m c news hx hr h1 h63 hbytes hbase h
end
end Go.Proofs.YtenfkghoolegfaaGreatDoor
namespace Go.Proofs.YtenfkghoolegfaaGreatDoor.Ev
open Go.RowKit
variable {ω:Nat->Value}
inductive T (α:Type) where
 | leaf
 | node (v:Option α) (l r:T α)
namespace T
variable {α:Type}
inductive Pth where
 | e
 | l (p:Pth)
 | r (p:Pth)
noncomputable def pth (f:Nat):Nat->Pth :=
 Nat.rec (motive:=fun _=>Nat->Pth) (fun _=>.e) (fun _ ih n=>Nat.rec (motive:=fun _=>Pth) .e (fun m _=>Bool.rec (motive:=fun _=>Pth) (.r (ih (Nat.div m 2))) (.l (ih (Nat.div m 2))) (Nat.beq (Nat.mod m 2) 0)) n) f
noncomputable def way (n:Nat):Pth:=pth (Nat.succ n) n
noncomputable def getP (t:T α):Pth->Option α :=
 T.rec (motive:=fun _=>Pth->Option α) (fun _=>none) (fun v _ _ gl gr p=>Pth.rec (motive:=fun _=>Option α) v (fun q _=>gl q) (fun q _=>gr q) p) t
noncomputable def setP (v:α) (p:Pth):T α->T α :=
 Pth.rec (motive:=fun _=>T α->T α)
  (fun t=>T.rec (motive:=fun _=>T α) (.node (some v) .leaf .leaf) (fun _ l r _ _=>.node (some v) l r) t)
  (fun _ ih t=>T.rec (motive:=fun _=>T α) (.node none (ih .leaf) .leaf) (fun x l r _ _=>.node x (ih l) r) t)
  (fun _ ih t=>T.rec (motive:=fun _=>T α) (.node none .leaf (ih .leaf)) (fun x l r _ _=>.node x l (ih r)) t) p
noncomputable def get (t:T α) (n:Nat):Option α:=getP t (way n)
noncomputable def put (t:T α) (n:Nat) (v:α):T α:=setP v (way n) t
theorem getP_set_same (v:α):∀ (p:Pth) (t:T α),getP (setP v p t) p=some v
 | .e,.leaf=>rfl
 | .e,.node _ _ _=>rfl
 | .l p,.leaf=>getP_set_same v p .leaf
 | .l p,.node _ l _=>getP_set_same v p l
 | .r p,.leaf=>getP_set_same v p .leaf
 | .r p,.node _ _ r=>getP_set_same v p r
theorem getP_set_other (v:α):∀ (p q:Pth) (t:T α),q≠p->getP (setP v p t) q=getP t q
 | .e,.e,_,h=>absurd rfl h
 | .e,.l _,.leaf,_=>rfl
 | .e,.r _,.leaf,_=>rfl
 | .e,.l _,.node _ _ _,_=>rfl
 | .e,.r _,.node _ _ _,_=>rfl
 | .l _,.e,.leaf,_=>rfl
 | .l _,.e,.node _ _ _,_=>rfl
 | .l _,.r _,.leaf,_=>rfl
 | .l _,.r _,.node _ _ _,_=>rfl
 | .r _,.e,.leaf,_=>rfl
 | .r _,.e,.node _ _ _,_=>rfl
 | .r _,.l _,.leaf,_=>rfl
 | .r _,.l _,.node _ _ _,_=>rfl
 | .l p,.l q,.leaf,h=>getP_set_other v p q .leaf (fun e=>h (by rw [e]))
 | .l p,.l q,.node _ l _,h=>getP_set_other v p q l (fun e=>h (by rw [e]))
 | .r p,.r q,.leaf,h=>getP_set_other v p q .leaf (fun e=>h (by rw [e]))
 | .r p,.r q,.node _ _ r,h=>getP_set_other v p q r (fun e=>h (by rw [e]))
def num:Pth->Nat
 | .e=>0
 | .l p=>2*num p+1
 | .r p=>2*num p+2
theorem num_pth:∀ (f n:Nat),n<f->num (pth f n)=n
 | 0,_,h=>absurd h (by omega)
 | _+1,0,_=>rfl
 | f+1,m+1,h=>by
  show num (Bool.rec (motive:=fun _=>Pth) (.r (pth f (Nat.div m 2))) (.l (pth f (Nat.div m 2))) (Nat.beq (Nat.mod m 2) 0))=m+1;have ih:=num_pth f (Nat.div m 2) (Nat.lt_of_le_of_lt (Nat.div_le_self m 2) (by omega));have hd:Nat.div m 2=m / 2:=rfl
  cases hb:Nat.beq (Nat.mod m 2) 0
  ·have:=Nat.ne_of_beq_eq_false hb;have hm:Nat.mod m 2=m % 2:=rfl;show 2*num (pth f (Nat.div m 2))+2=m+1;rw [ih];omega
  ·have:=bE hb;have hm:Nat.mod m 2=m % 2:=rfl;show 2*num (pth f (Nat.div m 2))+1=m+1;rw [ih];omega
theorem way_ne {i j:Nat} (h:j≠i):way j≠way i:=fun e=>h (by
 have h1:=num_pth (j+1) j (by omega);have h2:=num_pth (i+1) i (by omega);have e':pth (j+1) j=pth (i+1) i:=e
 rw [e'] at h1;omega)
theorem get_put (t:T α) (i j:Nat) (v:α):(t.put i v).get j=if j=i then some v else t.get j:=by
 unfold put get;by_cases h:j=i
 ·subst h;rw [if_pos rfl];exact getP_set_same v _ _
 ·rw [if_neg h];exact getP_set_other v _ _ _ (way_ne h)
noncomputable def ofList:List α->Nat->T α->T α
 | [],_,t=>t
 | v::vs,i,t=>ofList vs (i+1) (t.put i v)
theorem get_ofList:∀ (l:List α) (i:Nat) (t:T α) (j:Nat),(ofList l i t).get j=if i<=j/\j<i+l.length then l[j-i]? else t.get j
 | [],i,t,j=>by simp [ofList];omega
 | v::vs,i,t,j=>by
  rw [ofList,get_ofList vs (i+1) _ j,get_put];simp only [List.length_cons];by_cases h1:j=i
  ·subst h1;rw [if_neg (by omega),if_pos rfl,if_pos (by omega),Nat.sub_self];rfl
  ·by_cases h2:i+1<=j/\j<i+1+vs.length
   ·rw [if_pos h2,if_pos (by omega),show j-i=(j-(i+1))+1 by omega];rfl
   ·rw [if_neg h2,if_neg h1,if_neg (by omega)]
noncomputable def range (t:T α) (i:Nat):Nat->Option (List α)
 | 0=>some []
 | n+1=>match t.get i with
  | none=>none
  | some v=>match range t (i+1) n with
   | none=>none
   | some l=>some (v::l)
theorem range_spec (t:T α):∀ (n i:Nat) (l:List α),t.range i n=some l->l.length=n/\∀ k,k<n->t.get (i+k)=l[k]?
 | 0,i,l,h=>by cases h;exact ⟨rfl,fun k hk=>absurd hk (by omega)⟩
 | n+1,i,l,h=>by
  simp only [range] at h
  cases h1:t.get i with
  | none=>simp [h1] at h
  | some v =>
   cases h2:t.range (i+1) n with
   | none=>simp [h1,h2] at h
   | some l' =>
    simp [h1,h2] at h;subst h;obtain ⟨hl,hg⟩:=range_spec t n (i+1) l' h2;refine ⟨by simp [hl],fun k hk=>?_⟩
    cases k with
    | zero=>simpa using h1
    | succ k =>
     have:=hg k (by omega);rw [List.getElem?_cons_succ,<-this];congr 1;omega
end T
structure Info where
 r:Nat
 d:Nat
 len:Nat
 esz:Nat
 opn:Bool
 tot:Nat
def M (_:Nat->Value):=Nat->Option Info
def plainV:Value->Bool
 | .bool _ | .int _ _ | .float _ _ | .complex _ _ _ | .string _ | .nilFunc | .nilIface | .pointer none | .slice none 0 0 | .map none=>true
 | _=>false
def ARel (m:M ω) (a a':Addr):Prop:=a.spot=none/\∃ i,m a.block=some i/\a'=⟨i.r,i.d+a.off,none⟩
def CRel (m:M ω) (a:Addr) (c c':Nat):Prop:=c=c'\/(c<=c'/\∃ i,m a.block=some i/\i.opn=true/\a.off+c*i.esz=i.len/\i.d+a.off+c'*i.esz<=i.tot)
def oneV:Value->Bool
 | .agg _ | .tuple _=>false
 | _=>true
inductive VRel (m:M ω):Value->Value->Prop
 | tok (k:Nat) (h:oneV (ω k)=true):VRel m (.chan (some k)) (ω k)
 | any (v:Value) (h:oneV v=true):VRel m (.chan none) v
 | plain (v:Value) (h:plainV v=true):VRel m v v
 | ptr (a a':Addr) (h:ARel m a a'):VRel m (.pointer (some a)) (.pointer (some a'))
 | slice (a a':Addr) (n c c':Nat) (h:ARel m a a') (hc:CRel m a c c') (hn:n<=c):VRel m (.slice (some a) n c) (.slice (some a') n c')
 | slice0 (a a':Addr) (h:∃ i,m a.block=some i):VRel m (.slice (some a) 0 0) (.slice (some a') 0 0)
 | map (b:Nat) (i:Info) (h:m b=some i):VRel m (.map (some b)) (.map (some i.r))
 | iface (t:TypeId) (v v':Value) (h:VRel m v v'):VRel m (.iface t v) (.iface t v')
 | agg (cs cs':Array Value) (hs:cs.size=cs'.size) (h:∀ i,i<cs.size->VRel m (cs.getD i undef) (cs'.getD i undef)):VRel m (.agg cs) (.agg cs')
 | tuple (cs cs':Array Value) (hs:cs.size=cs'.size) (h:∀ i,i<cs.size->VRel m (cs.getD i undef) (cs'.getD i undef)):VRel m (.tuple cs) (.tuple cs')
 | func (f:FuncId) (fs fs' cs cs':Array Value) (h1:fs.size=fs'.size) (h2:cs.size=cs'.size) (h:∀ i,i<fs.size->VRel m (fs.getD i undef) (fs'.getD i undef)) (k:∀ i,i<cs.size->VRel m (cs.getD i undef) (cs'.getD i undef)):VRel m (.func (.func f) fs cs) (.func (.func f) fs' cs')
 | yield (b:Nat) (i:Info) (h:m b=some i):VRel m (.func (.yield b) #[] #[]) (.func (.yield i.r) #[] #[])
def Le (m m':M ω):Prop:=∀ b i,m b=some i->m' b=some i
theorem Le.refl (m:M ω):Le m m:=fun _ _ h=>h
theorem Le.trans {a b c:M ω} (h:Le a b) (k:Le b c):Le a c:=fun i x hx=>k i x (h i x hx)
theorem ARel.mono {m m':M ω} {a a':Addr} (h:ARel m a a') (hl:Le m m'):ARel m' a a':=⟨h.1,h.2.elim fun i hi=>⟨i,hl _ _ hi.1,hi.2⟩⟩
theorem CRel.mono {m m':M ω} {a:Addr} {c c':Nat} (h:CRel m a c c') (hl:Le m m'):CRel m' a c c' :=
 h.imp id fun ⟨h1,i,h2,h3⟩=>⟨h1,i,hl _ _ h2,h3⟩
theorem VRel.mono {m m':M ω} (hl:Le m m') {v v':Value} (h:VRel m v v'):VRel m' v v':=by
 induction h with
 | tok k h=>exact .tok k h
 | any v h=>exact .any v h
 | plain v h=>exact .plain v h
 | ptr a a' h=>exact .ptr a a' (h.mono hl)
 | slice a a' n c c' h hc hn=>exact .slice a a' n c c' (h.mono hl) (hc.mono hl) hn
 | slice0 a a' h=>exact .slice0 a a' (h.imp fun i hi=>hl _ _ hi)
 | map b i h=>exact .map b i (hl _ _ h)
 | iface t v v' _ ih=>exact .iface t v v' ih
 | agg cs cs' hs _ ih=>exact .agg cs cs' hs ih
 | tuple cs cs' hs _ ih=>exact .tuple cs cs' hs ih
 | func f fs fs' cs cs' h1 h2 _ _ ih1 ih2=>exact .func f fs fs' cs cs' h1 h2 ih1 ih2
 | yield b i h=>exact .yield b i (hl _ _ h)
structure Blk where
 c:T Value
 len:Nat
 elem:TypeId
 esz:Nat
 opn:Bool
 str:Bool
def noMark:Nat:=113
inductive LSt where
 | ready
 | busy
 | done (c:Code)
 | over
inductive AObj where
 | cells (b:Blk)
 | map (es:List MapEntry) (clock:Nat)
 | loop (t:T Value) (n:Nat) (ps:List Tmp) (assign body:Code) (st:LSt)
 | mit (b:Option Nat) (since:Nat) (seen:List Nat) (last:Nat)
 | sit (s:ByteArray) (pos:Nat)
 | dead
structure AS where
 n:Nat
 h:T AObj
def AObj.alive:AObj->Bool
 | .dead=>false
 | _=>true
def ERel (m:M ω) (e e':MapEntry):Prop:=e.key=e'.key/\plainV e.key=true/\VRel m e.val e'.val/\e.born=e'.born
def LSt.is (l:LSt) (r:Loop):Prop:=match l with
 | .ready=>r.state=.ready/\r.pending=none
 | .busy=>r.state=.busy
 | .done c=>r.state=.done/\r.pending=some c
 | .over=>True
def ORel (m:M ω) (w:World) (i:Info):AObj->Prop
 | .cells b=>i.len=b.len/\i.opn=b.opn/\i.esz=b.esz/\i.d+b.len<=i.tot/\∃ c' fz,w.heap[i.r]?=some (.cells c' b.elem fz)/\c'.size=i.tot /\
  (∀ j,j<b.len->∃ v v',b.c.get j=some v/\c'[i.d+j]?=some v'/\VRel m v v')/\(fz=(0,0)\/(fz=(i.tot,i.tot+1)/\Nat.beq b.elem noMark=false))
 | .map es clock=>∃ es':List MapEntry,w.heap[i.r]?=some (.map es'.toArray clock)/\es.length=es'.length/\∀ (k:Nat) (e e':MapEntry),es[k]?=some e->es'[k]?=some e'->ERel m e e'
 | .loop t n ps asg bd st=>∃ r:Loop,w.heap[i.r]?=some (.loop r)/\r.params=ps.toArray/\r.assign=asg/\r.body=bd/\r.tmps.size=n/\st.is r/\∀ k,VRel m ((t.get k).getD undef) (r.tmps.getD k undef)
 | .mit b since seen last=>i.d=0/\∃ r',w.heap[i.r]?=some (.mapIter r' since seen.toArray last)/\((b=none/\r'=none)\/∃ c j,b=some c/\m c=some j/\r'=some j.r)
 | .sit q pos=>i.d=0/\w.heap[i.r]?=some (.stringIter q pos)
 | .dead=>True
structure Aux where
 G:Nat->Option AObj
 K:Nat->Option Obj
structure SR (B:Nat) (X:Aux) (m:M ω) (s:AS) (w:World):Prop where
 rel:∀ b o i,s.h.get b=some o->o.alive=true->m b=some i->ORel m w i o/\B<=i.r/\i.r<w.heap.size
 inj:∀ b c o p i j,s.h.get b=some o->s.h.get c=some p->o.alive=true->p.alive=true->b≠c->m b=some i->m c=some j->i.r≠j.r
 freshH:∀ b,s.n<=b->s.h.get b=none
 freshM:∀ b,s.n<=b->m b=none
 gh:∀ b o,X.G b=some o->s.h.get b=some o/\m b=none
 kp:∀ r o,X.K r=some o->w.heap[r]?=some o/\B<=r/\∀ b i,m b=some i->i.r≠r
 lt:∀ b i,m b=some i->i.r<w.heap.size
end Go.Proofs.YtenfkghoolegfaaGreatDoor.Ev
namespace Go.Proofs.YtenfkghoolegfaaGreatDoor.Ev
open Go.RowKit
variable {ω:Nat->Value}
noncomputable section
def closedV:Value->Bool
 | .agg cs=>cs.toList.all plainV
 | .iface _ v=>plainV v
 | v=>plainV v
structure Ctx where
 P:Program
 fn:FuncId->Option Func
 ty:TypeId->Option TypeInfo
 un:TypeId->Option TypeDesc
 sp:FuncId->Option (List Value->AS->Option (Value × AS))
 glob:Nat->Option Value
 meth:TypeId->String->Value->Option (FuncId × Value)
 bin:BinOp->TypeId->Value->Value->Option Value
 len:TypeId->Value->Option Value
 cnv:TypeId->TypeId->Value->Option Value
 rd:Nat->Bool
 iv:Nat->Option (Array Value)
inductive R where
 | val (v:Value)
 | skip
 | call (f:FuncId) (args:List Value)
 | round (b:Nat) (args:List Value)
def pureRun (P:Program) {α:Type}:Sem α->Option α
 | .pure a=>some a
 | .program k=>pureRun P (k P)
 | _=>none
def orUndef (o:Option Value):Option Value:=Option.rec (motive:=fun _=>Option Value) (some undef) (fun v=>some v) o
def opConst (v:Value):Option Value:=Bool.rec (motive:=fun _=>Option Value) none (some v) (closedV v)
def opnd (a:T Value) (x:Operand):Option Value :=
 Operand.rec (motive:=fun _=>Option Value) (fun t=>orUndef (a.get t)) opConst (fun _=>none) (fun f=>some (.func (.func f) #[] #[])) x
def opnds (a:T Value):List Operand->Option (List Value)
 | []=>some []
 | x::xs=>match opnd a x,opnds a xs with
  | some v,some vs=>some (v::vs)
  | _,_=>none
def cellsOf:Value->List Value
 | .agg cs=>cs.toList
 | v=>[v]
def newBlk (s:AS) (l:List Value) (n:Nat) (e:TypeId) (z:Nat) (opn str:Bool):Nat × AS :=
 (s.n,⟨s.n+1,s.h.put s.n (.cells ⟨T.ofList l 0 .leaf,n,e,z,opn,str⟩)⟩)
def blkAt (s:AS) (b:Nat):Option Blk:=match s.h.get b with
 | some (.cells k)=>some k
 | _=>none
def readN (s:AS) (a:Addr) (n:Nat):Option (List Value) :=
 match a.spot,blkAt s a.block with
 | none,some k=>cond (Nat.ble (a.off+n) k.len) (k.c.range a.off n) none
 | _,_=>none
def writeL (s:AS) (a:Addr) (l:List Value):Option AS :=
 match a.spot,blkAt s a.block with
 | none,some k=>cond (Nat.ble (a.off+l.length) k.len && l.all oneV) (some ⟨s.n,s.h.put a.block (.cells {k with c:=T.ofList l a.off k.c})⟩) none
 | _,_=>none
def tupB:Value->Bool
 | .tuple _=>true
 | _=>false
def zeroC (C:Ctx) (t:TypeId):Option (List Value):=match C.ty t with
 | some i=>match i.zero with
  | some z=>cond (tupB z) none (some (cellsOf z))
  | none=>none
 | none=>none
def isAggD:TypeDesc->Bool
 | .struct _ | .array _ _=>true
 | _=>false
def isAggT (C:Ctx) (t:TypeId):Option Bool:=match C.un t with
 | some d=>some (isAggD d)
 | none=>none
def sizeT (C:Ctx) (t:TypeId):Option Nat:=match C.ty t with
 | some i=>some i.size
 | none=>none
def fillL (place:Nat->Option (Nat × Nat)):T Value->Nat->List (Nat × Value)->Option (T Value)
 | t,_,[]=>some t
 | t,n,(i,v)::rest=>match place i with
  | none=>none
  | some (off,size)=>cond (Nat.beq (cellsOf v).length size && Nat.ble (off+(cellsOf v).length) n) (fillL place (T.ofList (cellsOf v) off t) n rest) none
def parts (a:T Value):List (Nat × Operand)->Option (List (Nat × Value))
 | []=>some []
 | (i,x)::xs=>match opnd a x,parts a xs with
  | some v,some vs=>some ((i,v)::vs)
  | _,_=>none
def repL:Nat->List Value->List Value
 | 0,_=>[]
 | n+1,l=>l++repL n l
def fieldAt (fs:List Field) (i:Nat):Option Field:=fs[i]?
def bound (v:Value):Option Int:=match v with
 | .int _ n=>some n
 | _=>none
def bnd (a:T Value):Option Operand->Option (Option Int)
 | none=>some none
 | some x=>match opnd a x with
  | some (.int _ n)=>some (some n)
  | _=>none
def chk (v:Int) (y:Nat):Option Nat:=if 0<=v/\v<=y then some v.toNat else none
def cutLo (h m:Nat):Option Int->Option (Nat × Nat × Nat)
 | none=>some (0,h,m)
 | some v=>match chk v h with
  | some i=>some (i,h,m)
  | none=>none
def cutHi (n m:Nat) (lo:Option Int):Option Int->Option (Nat × Nat × Nat)
 | none=>cutLo n m lo
 | some v=>match chk v m with
  | some h=>cutLo h m lo
  | none=>none
def cut (n c:Nat) (lo hi:Option Int):Option Int->Option (Nat × Nat × Nat)
 | none=>cutHi n c lo hi
 | some v=>match chk v c,hi with
  | some m,some u=>cutHi 0 m lo (some u)
  | _,_=>none
def srcCells (s:AS) (size:Nat):Value->Option (Nat × List Value)
 | .slice none 0 0=>some (0,[])
 | .slice (some a) n _=>match readN s a (n*size) with
  | some l=>some (n,l)
  | none=>none
 | .string b=>some (b.size,b.data.toList.map fun x=>.int .u8 x.toNat)
 | _=>none
def grown (s:AS) (l:List Value) (n:Nat) (e:TypeId) (z:Nat):Option (R × AS) :=
 let (b,s'):=newBlk s l l.length e z true false
 some (.val (.slice (some ⟨b,0,none⟩) n n),s')
def hasZero (ti:TypeInfo):Bool:=match ti.zero with
 | some z=>!tupB z
 | none=>false
def appendAt (s:AS) (a:Addr) (n c m size:Nat) (e:TypeId) (new:List Value):Option (R × AS) :=
 cond (Nat.ble (n+m) c)
  (
   match writeL s ⟨a.block,a.off+n*size,a.spot⟩ new with
   | some s'=>some (.val (.slice (some a) (n+m) c),s')
   | none=>none)
  (
   match readN s a (n*size),blkAt s a.block with
   | some old,some k=>cond k.opn
    (cond (Nat.beq k.esz size)
     (cond (Nat.beq (a.off+c*size) k.len)
      (cond (Nat.beq k.elem e) (grown ⟨s.n,s.h.put a.block .dead⟩ (old++new) (n+m) e size) none)
      (grown s (old++new) (n+m) e size))
     none)
    (grown s (old++new) (n+m) e size)
   | _,_=>none)
def isSlV:Value->Bool
 | .slice _ _ _=>true
 | _=>false
def appSrc (C:Ctx) (e:TypeId) (size:Nat) (dx:TypeDesc) (y:Value) (s:AS):Option (Nat × List Value) :=
 match dx with
 | .int _=>(match y,zeroC C e with
  | .int _ k,some z=>if 0<=k/\k<=1000000 then some (k.toNat,repL k.toNat z) else none
  | _,_=>none)
 | .slice _=>cond (isSlV y) (srcCells s size y) none
 | .string=>cond (Nat.beq size 1) (srcCells s size y) none
 | _=>none
def appendTo (s:AS) (x:Value) (m size:Nat) (e:TypeId) (new:List Value):Option (R × AS) :=
 match x with
 | .slice none 0 0=>cond (Nat.beq m 0) (some (.val x,s)) (cond (Nat.ble m 1000000) (grown s new m e size) none)
 | .slice (some a) n c=>cond (Nat.ble (n+m) 1000000) (appendAt s a n c m size e new) none
 | _=>none
def emptyV (s:AS):Value->Bool
 | .slice (some a) 0 0=>match blkAt s a.block with
  | some q=>!q.opn
  | none=>false
 | _=>false
def appendTok (C:Ctx) (t tx:TypeId) (x:Value) (k:Nat) (s:AS):Option (R × AS) :=
 match C.un t,C.un tx with
 | some (.slice e),some (.slice _)=>match C.ty e with
  | some ti=>cond (C.rd k && (emptyV s x && (Nat.beq ti.size 1 && (Nat.ble ti.bytes 1000000 && hasZero ti)))) (match C.len tx (.chan (some k)) with
   | some (.int .i64 (.ofNat n))=>appendTo s x n ti.size e (repL n [.chan none])
   | _=>some (.val (.chan none),s)) none
  | none=>none
 | _,_=>none
def appendV (C:Ctx) (t tx:TypeId) (x y:Value) (s:AS):Option (R × AS) :=
 match C.un t with
 | some (.slice e)=>match C.ty e,C.un tx with
  | some ti,some dx=>cond (Nat.ble ti.bytes 1000000) (match appSrc C e ti.size dx y s with
   | some (m,new)=>cond (new.all oneV && hasZero ti) (appendTo s x m ti.size e new) none
   | none=>none) none
  | _,_=>none
 | _=>none
def findE (k:Value):List MapEntry->Nat->Option (Nat × Value)
 | [],_=>none
 | e::es,i=>match Instr.sameNow .string k e.key with
  | some true=>some (i,e.val)
  | _=>findE k es (i+1)
def plainKey (d:TypeDesc):Value->Bool
 | .int _ _=>match d with | .int _=>true | _=>false
 | .string _=>match d with | .string=>true | _=>false
 | .bool _=>match d with | .bool=>true | _=>false
 | _=>false
def findK (d:TypeDesc) (k:Value) (es:List MapEntry):Option (Option (Nat × Value)):=Instr.findNow d k es 0
def addrOf:Value->Option Addr
 | .pointer (some a)=>some a
 | _=>none
def eqV (C:Ctx) (t:TypeId) (x y:Value):Option Bool :=
 match C.un t with
 | some (.pointer e)=>(match x,y with
  | .pointer none,.pointer (some _)=>some false
  | .pointer (some _),.pointer none=>some false
  | .pointer (some a),.pointer (some b)=>cond (Nat.beq a.block b.block && Nat.beq a.off b.off) (match sizeT C e with | some _=>some true | none=>none) none
  | _,_=>none)
 | some (.slice _)=>(match x,y with
  | .slice none 0 0,.slice (some _) _ _=>some false
  | .slice (some _) _ _,.slice none 0 0=>some false
  | _,_=>none)
 | some (.map _ _)=>(match x,y with
  | .map none,.map (some _)=>some false
  | .map (some _),.map none=>some false
  | _,_=>none)
 | some (.interface _)=>(match x,y with
  | .nilIface,.iface _ _=>some false
  | .iface _ _,.nilIface=>some false
  | .iface p _,.iface q _=>cond (Nat.beq p q) none (some false)
  | _,_=>none)
 | some (.func _ _ _)=>(match x,y with
  | .nilFunc,.func _ _ _=>some false
  | .func _ _ _,.nilFunc=>some false
  | _,_=>none)
 | _=>none
def modK (k:IntKind):Nat:=IntKind.casesOn k 256 65536 4294967296 18446744073709551616 256 65536 4294967296 18446744073709551616
def topK (k:IntKind):Nat:=IntKind.casesOn k 128 32768 2147483648 9223372036854775808 256 65536 4294967296 18446744073709551616
def sgnK (k:IntKind):Bool:=IntKind.casesOn k true true true true false false false false
def wrapN (k:IntKind) (n:Nat):Int:=cond (Nat.blt n (topK k)) (.ofNat n) (cond (sgnK k) (k.wrap n) (.ofNat (Nat.mod n (modK k))))
def addF (k:IntKind) (a b:Nat):Option Value:=some (.int k (wrapN k (a+b)))
def subF (k:IntKind) (a b:Nat):Option Value:=some (.int k (cond (Nat.ble b a) (wrapN k (a-b)) (cond (sgnK k) (k.wrap (Int.negSucc (b-a-1))) (.ofNat (Nat.mod (Nat.mul (modK k) b+a-b) (modK k))))))
def mulF (k:IntKind) (a b:Nat):Option Value:=some (.int k (wrapN k (a*b)))
def quoF (k:IntKind) (a b:Nat):Option Value:=cond (Nat.beq b 0) none (some (.int k (wrapN k (Nat.div a b))))
def remF (k:IntKind) (a b:Nat):Option Value:=cond (Nat.beq b 0) none (some (.int k (.ofNat (Nat.mod a b))))
def smallK (k:IntKind) (a b:Nat) (v:Option Value):Option Value:=cond (Nat.blt a (topK k)) (cond (Nat.blt b (topK k)) v none) none
def andF (k:IntKind) (a b:Nat):Option Value:=smallK k a b (some (.int k (.ofNat (Nat.land a b))))
def orF (k:IntKind) (a b:Nat):Option Value:=smallK k a b (some (.int k (.ofNat (Nat.lor a b))))
def xorF (k:IntKind) (a b:Nat):Option Value:=smallK k a b (some (.int k (.ofNat (Nat.xor a b))))
def eqlF (_:IntKind) (a b:Nat):Option Value:=some (.bool (Nat.beq a b))
def neqF (_:IntKind) (a b:Nat):Option Value:=some (.bool (Bool.not (Nat.beq a b)))
def lssF (_:IntKind) (a b:Nat):Option Value:=some (.bool (Nat.blt a b))
def leqF (_:IntKind) (a b:Nat):Option Value:=some (.bool (Nat.ble a b))
def gtrF (_:IntKind) (a b:Nat):Option Value:=some (.bool (Nat.blt b a))
def geqF (_:IntKind) (a b:Nat):Option Value:=some (.bool (Nat.ble b a))
def noF (_:IntKind) (_ _:Nat):Option Value:=none
def opF (op:BinOp):IntKind->Nat->Nat->Option Value :=
 BinOp.casesOn op addF subF mulF quoF remF andF orF xorF noF noF noF eqlF neqF lssF leqF gtrF geqF
def shlF (k:IntKind) (a n:Nat):Option Value:=some (.int k (wrapN k (Nat.mul a (Nat.pow 2 (Nat.min n k.bits)))))
def shrF (k:IntKind) (a n:Nat):Option Value:=some (.int k (.ofNat (Nat.div a (Nat.pow 2 (Nat.min n k.bits)))))
def shF (op:BinOp):IntKind->Nat->Nat->Option Value :=
 BinOp.casesOn op noF noF noF noF noF noF noF noF shlF shrF noF noF noF noF noF noF noF
def isShift (op:BinOp):Bool:=BinOp.casesOn op false false false false false false false false true true false false false false false false false
def slowBin (C:Ctx) (op:BinOp) (t:TypeId) (ox oy:Operand) (x y:Value):Option Value :=
 match pureRun C.P (do eqGuard op t ox oy x y;binOp op t x y) with
 | some v=>cond (plainV v) (some v) none
 | none=>none
def eqBin (C:Ctx) (op:BinOp) (t:TypeId) (x y:Value):Option Value :=
 match eqV C t x y with
 | some b=>BinOp.casesOn op none none none none none none none none none none none (some (.bool b)) (some (.bool (Bool.not b))) none none none none
 | none=>none
def eqBin2 (C:Ctx) (op:BinOp) (t:TypeId) (x y:Value):Option Value :=
 match eqBin C op t x y with
 | some v=>some v
 | none=>C.bin op t x y
def genBin (C:Ctx) (op:BinOp) (t:TypeId) (ox oy:Operand) (x y:Value):Option Value :=
 cond (closedV x) (cond (closedV y) (slowBin C op t ox oy x y) (eqBin2 C op t x y)) (eqBin2 C op t x y)
def kindEq (j k:IntKind):Bool:=decide (j=k)
def intBin (C:Ctx) (op:BinOp) (t:TypeId) (ox oy:Operand) (k:IntKind) (a:Nat) (y:Value):Option Value :=
 match y with
 | .int k' (.ofNat b)=>cond (isShift op) (shF op k a b) (cond (kindEq k k') (match opF op k a b with
  | some v=>some v
  | none=>genBin C op t ox oy (.int k (.ofNat a)) y) none)
 | _=>genBin C op t ox oy (.int k (.ofNat a)) y
def binV (C:Ctx) (op:BinOp) (t:TypeId) (ox oy:Operand) (x y:Value):Option Value :=
 match x with
 | .int k (.ofNat a)=>intBin C op t ox oy k a y
 | _=>genBin C op t ox oy x y
def bytesOf:List Value->Option (List UInt8)
 | []=>some []
 | .int .u8 n::r=>match bytesOf r with
  | some l=>some (UInt8.ofNat n.toNat::l)
  | none=>none
 | _=>none
def convInt (k:IntKind) (x:Value) (s:AS):Option (Value × AS) :=
 match x with
 | .int _ (.ofNat m)=>some (.int k (wrapN k m),s)
 | .int _ (.negSucc m)=>some (.int k (k.wrap (.negSucc m)),s)
 | _=>none
def isU8:Option TypeDesc->Bool
 | some (.int .u8)=>true
 | _=>false
def convStr (C:Ctx) (d:TypeDesc) (x:Value) (s:AS):Option (Value × AS) :=
 match x,d with
 | .string b,_=>some (.string b,s)
 | .slice none 0 0,.slice e=>cond (isU8 (C.un e)) (some (.string .empty,s)) none
 | .slice (some a) n _,.slice e=>cond (isU8 (C.un e)) (match readN s a n with
  | some l=>match bytesOf l with
   | some bs=>some (.string ⟨bs.toArray⟩,s)
   | none=>none
  | none=>none) none
 | _,_=>none
def convSl (C:Ctx) (d:TypeDesc) (e:TypeId) (same:Bool) (x:Value) (s:AS):Option (Value × AS) :=
 match x,d with
 | .slice (some a) n c,.slice _=>cond (same && isU8 (C.un e) && Nat.blt 0 c) (match blkAt s a.block with
  | some k=>cond (Nat.beq k.elem noMark) none (some (.slice (some a) n c,s))
  | none=>none) none
 | _,_=>none
def convTok (C:Ctx) (src dst:TypeId) (x:Value) (s:AS):Option (Value × AS) :=
 match C.cnv src dst x with
 | some v=>some (v,s)
 | none=>none
def isChan:Value->Bool
 | .chan _=>true
 | _=>false
def convV (C:Ctx) (src dst:TypeId) (x:Value) (s:AS):Option (Value × AS) :=
 cond (isChan x) (convTok C src dst x s) (match C.un src with
 | some d=>match C.un dst with
  | some (.int k)=>convInt k x s
  | some .string=>convStr C d x s
  | some (.slice e)=>convSl C d e (Nat.beq src dst) x s
  | _=>none
 | none=>none)
def biAppend (C:Ctx) (ts:List TypeId) (vs:List Value) (s:AS):Option (R × AS) :=
 match ts,vs with
 | [t,tx],[x,.chan (some k)]=>appendTok C t tx x k s
 | [t,tx],[x,y]=>appendV C t tx x y s
 | _,_=>none
def lenTok (C:Ctx) (t:TypeId) (x:Value) (s:AS):Option (R × AS) :=
 match C.len t x with
 | some v=>some (.val v,s)
 | none=>none
def biLen (C:Ctx) (ts:List TypeId) (vs:List Value) (s:AS):Option (R × AS) :=
 match ts,vs with
 | [t],[.chan k]=>lenTok C t (.chan k) s
 | [t],[x]=>match C.un t with
  | some (.slice _)=>match x with
   | .slice _ n _=>some (.val (.int .i64 n),s)
   | _=>none
  | some .string=>match x with
   | .string b=>some (.val (.int .i64 b.size),s)
   | _=>none
  | some (.map _ _)=>match x with
   | .map none=>some (.val (.int .i64 0),s)
   | .map (some r)=>match s.h.get r with
    | some (.map es _)=>some (.val (.int .i64 es.length),s)
    | _=>none
   | _=>none
  | some (.array n _)=>some (.val (.int .i64 n),s)
  | some (.pointer e)=>match C.un e with
   | some (.array n _)=>some (.val (.int .i64 n),s)
   | _=>none
  | _=>none
 | _,_=>none
def biCap (C:Ctx) (ts:List TypeId) (vs:List Value) (s:AS):Option (R × AS) :=
 match ts,vs with
 | [t],[x]=>match C.un t with
  | some (.slice e)=>match x with
   | .slice none 0 0=>some (.val (.int .i64 0),s)
   | .slice (some a) _ c=>match blkAt s a.block,sizeT C e with
    | some k,some size=>cond k.opn (cond (Nat.beq k.esz size) (cond (Nat.beq (a.off+c*size) k.len) none (some (.val (.int .i64 c),s))) none) (some (.val (.int .i64 c),s))
    | _,_=>none
   | _=>none
  | _=>none
 | _,_=>none
def copyTo (s:AS) (a:Addr) (n size:Nat) (y:Value):Option (R × AS) :=
 match y with
 | .slice none 0 0=>some (.val (.int .i64 0),s)
 | .slice (some b) m _=>match readN s b (Nat.min m n*size) with
  | some l=>match writeL s a l with
   | some s'=>some (.val (.int .i64 (Nat.min m n)),s')
   | none=>none
  | none=>none
 | .string q=>match writeL s a ((q.data.toList.take (Nat.min q.size n)).map fun x=>.int .u8 x.toNat) with
  | some s'=>some (.val (.int .i64 (Nat.min q.size n)),s')
  | none=>none
 | _=>none
def copyNil (s:AS) (y:Value):Option (R × AS) :=
 match y with
 | .slice _ _ _=>some (.val (.int .i64 0),s)
 | .string _=>some (.val (.int .i64 0),s)
 | _=>none
def biCopy (C:Ctx) (ts:List TypeId) (vs:List Value) (s:AS):Option (R × AS) :=
 match ts,vs with
 | [t,_],[x,y]=>match C.un t with
  | some (.slice e)=>match sizeT C e with
   | some size=>match x with
    | .slice none 0 0=>copyNil s y
    | .slice (some a) n _=>copyTo s a n size y
    | _=>none
   | none=>none
  | _=>none
 | _,_=>none
def biDelete (C:Ctx) (ts:List TypeId) (vs:List Value) (s:AS):Option (R × AS) :=
 match ts,vs with
 | [t,_],[.map (some r),k]=>match C.un t,s.h.get r with
  | some (.map kt _),some (.map es clock)=>match C.un kt with
   | some d=>cond (plainKey d k) (match findK d k es with
    | some (some (i,_))=>some (.val (.tuple #[]),⟨s.n,s.h.put r (.map (es.eraseIdx i) clock)⟩)
    | some none=>some (.val (.tuple #[]),⟨s.n,s.h.put r (.map es clock)⟩)
    | none=>none) none
   | none=>none
  | _,_=>none
 | _,_=>none
def biClear (C:Ctx) (ts:List TypeId) (vs:List Value) (s:AS):Option (R × AS) :=
 match ts,vs with
 | [t],[.slice (some a) n _]=>match C.un t with
  | some (.slice e)=>match zeroC C e with
   | some z=>cond (Nat.beq n 0) (some (.val (.tuple #[]),s)) (match writeL s a (repL n z) with
    | some s'=>some (.val (.tuple #[]),s')
    | none=>none)
   | none=>none
  | _=>none
 | [t],[.slice none 0 0]=>match C.un t with
  | some (.slice _)=>some (.val (.tuple #[]),s)
  | _=>none
 | _,_=>none
def biMinmax (b:Builtin) (C:Ctx) (ts:List TypeId) (vs:List Value) (s:AS):Option (R × AS) :=
 cond (vs.all plainV) (match pureRun C.P (builtin b ts.toArray 0 #[] vs.toArray) with
  | some (.value v)=>cond (plainV v) (some (.val v,s)) none
  | _=>none) none
def biNone (_:Ctx) (_:List TypeId) (_:List Value) (_:AS):Option (R × AS):=none
def builtinK (b:Builtin):Ctx->List TypeId->List Value->AS->Option (R × AS) :=
 match b with
 | .append=>biAppend
 | .len=>biLen
 | .cap=>biCap
 | .copy=>biCopy
 | .delete=>biDelete
 | .clear=>biClear
 | .min=>biMinmax .min
 | .max=>biMinmax .max
 | _=>biNone
def builtinV (C:Ctx) (b:Builtin) (ts:List TypeId) (vs:List Value) (s:AS):Option (R × AS):=builtinK b C ts vs s
def opMove (x:Operand) (_:Ctx) (a:T Value) (s:AS):Option (R × AS) :=
 Option.rec (motive:=fun _=>Option (R × AS)) none (fun v=>some (.val v,s)) (opnd a x)
def opPick (c x y:Operand) (C:Ctx) (a:T Value) (s:AS):Option (R × AS) :=
 match opnd a c,opnd a x,opnd a y with
  | some (.bool b),some v,some u=>some (.val (cond b v u),s)
  | _,_,_=>none
abbrev Al:=AObj × (Nat->Value)
def ptrV (b:Nat):Value:=.pointer (some ⟨b,0,none⟩)
def slV (n k b:Nat):Value:=.slice (some ⟨b,0,none⟩) n k
def mapV (b:Nat):Value:=.map (some b)
def blkOf (l:List Value) (e:TypeId) (z:Nat) (opn str:Bool):AObj:=.cells ⟨T.ofList l 0 .leaf,l.length,e,z,opn,str⟩
def doAl (s:AS) (r:Option Al):Option (R × AS) :=
 match r with
 | some (o,f)=>some (.val (f s.n),⟨s.n+1,s.h.put s.n o⟩)
 | none=>none
def alAlloc (t:TypeId) (C:Ctx) (_:T Value):Option Al :=
 match zeroC C t with
 | some l=>some (blkOf l t 0 false false,ptrV)
 | none=>none
def alBox (t:TypeId) (x:Operand) (_:Ctx) (a:T Value):Option Al :=
 match opnd a x with
 | some v=>some (blkOf (cellsOf v) t 0 false false,ptrV)
 | none=>none
def alBuildSlice (t:TypeId) (n:Nat) (ps:Array (Nat × Operand)) (C:Ctx) (a:T Value):Option Al :=
 match C.un t,parts a ps.toList with
  | some (.slice e),some l=>match sizeT C e,zeroC C e with
   | some sz,some z=>match cond (Nat.ble (n*sz) 16777216) (fillL (fun i=>some (i*sz,sz)) (T.ofList (repL n z) 0 .leaf) (n*sz) l) none with
    | some t'=>some (.cells ⟨t',n*sz,e,0,false,false⟩,slV n n)
    | none=>none
   | _,_=>none
  | _,_=>none
def alMakeMap (_:Ctx) (_:T Value):Option Al:=some (.map [] 0,mapV)
def alMakeSlice (t:TypeId) (l c:Operand) (C:Ctx) (a:T Value):Option Al :=
 match C.un t,opnd a l,opnd a c with
  | some (.slice e),some (.int _ n),some (.int _ k)=>match C.ty e,zeroC C e with
   | some ti,some z=>if 0<=n/\n<=k/\k<=1000000/\ti.bytes<=1000000 then
    some (blkOf (repL k.toNat z) e 0 false false,slV n.toNat k.toNat)
    else none
   | _,_=>none
  | _,_,_=>none
def alConv (src dst:TypeId) (x:Operand) (C:Ctx) (a:T Value):Option Al :=
 match C.un src,C.un dst,opnd a x with
 | some .string,some (.slice e),some (.string b)=>cond (isU8 (C.un e) && !Nat.beq e noMark) (some (blkOf (b.data.toList.map fun x=>.int .u8 x.toNat) e 1 true true,slV b.size b.size)) none
 | _,_,_=>none
def alNone (_:Ctx) (_:T Value):Option Al:=none
def alOf (op:Op):Ctx->T Value->Option Al :=
 match op with
 | .alloc t=>alAlloc t
 | .box t x=>alBox t x
 | .buildSlice t n ps=>alBuildSlice t n ps
 | .makeMap _ none=>alMakeMap
 | .makeSlice t l c=>alMakeSlice t l c
 | .convert src dst x=>alConv src dst x
 | _=>alNone
def opBuild (t:TypeId) (ps:Array (Nat × Operand)) (C:Ctx) (a:T Value) (s:AS):Option (R × AS) :=
 match zeroC C t,C.un t,parts a ps.toList with
  | some z,some (.struct fs),some l =>
   match fillL (fun i=>match fieldAt fs.toList i with | some f=>(match sizeT C f.type with | some n=>some (f.offset,n) | none=>none) | none=>none) (T.ofList z 0 .leaf) z.length l with
   | some t'=>match t'.range 0 z.length with
    | some cs=>some (.val (.agg cs.toArray),s)
    | none=>none
   | none=>none
  | some z,some (.array _ e),some l=>match sizeT C e with
   | some n=>match fillL (fun i=>some (i*n,n)) (T.ofList z 0 .leaf) z.length l with
    | some t'=>match t'.range 0 z.length with
     | some cs=>some (.val (.agg cs.toArray),s)
     | none=>none
    | none=>none
   | none=>none
  | _,_,_=>none
def loadG (t:TypeId) (g:Nat) (C:Ctx) (s:AS):Option (R × AS) :=
 match isAggT C t,C.glob g with
 | some false,some v=>some (.val v,s)
 | _,_=>none
def loadX (t:TypeId) (x:Operand) (C:Ctx) (a:T Value) (s:AS):Option (R × AS) :=
 match opnd a x with
  | some (.pointer (some p))=>match isAggT C t,sizeT C t with
   | some true,some n=>match readN s p n with
    | some l=>some (.val (.agg l.toArray),s)
    | none=>none
   | some false,_=>match readN s p 1 with
    | some [v]=>some (.val v,s)
    | _=>none
   | _,_=>none
  | _=>none
def isGlob:Operand->Option Nat
 | .global g=>some g
 | _=>none
def opLoad (t:TypeId) (x:Operand) (C:Ctx) (a:T Value) (s:AS):Option (R × AS) :=
 match isGlob x with
 | some g=>loadG t g C s
 | none=>loadX t x C a s
def opStore (t:TypeId) (x y:Operand) (C:Ctx) (a:T Value) (s:AS):Option (R × AS) :=
 match opnd a x,opnd a y with
  | some (.pointer (some p)),some v=>match sizeT C t with
   | some n=>cond (Nat.beq (cellsOf v).length n) (match writeL s p (cellsOf v) with
    | some s'=>some (.skip,s')
    | none=>none) none
   | none=>none
  | _,_=>none
def opNilCheck (x:Operand) (C:Ctx) (a:T Value) (s:AS):Option (R × AS) :=
 match opnd a x with
  | some (.pointer (some p))=>some (.val (.pointer (some p)),s)
  | some (.iface t v)=>some (.val (.iface t v),s)
  | some (.func (.func f) fs cs)=>some (.val (.func (.func f) fs cs),s)
  | some (.slice p n c)=>some (.val (.slice p n c),s)
  | some (.map r)=>some (.val (.map r),s)
  | _=>none
def opBinOp (op:BinOp) (t:TypeId) (x y:Operand) (C:Ctx) (a:T Value) (s:AS):Option (R × AS) :=
 match opnd a x,opnd a y with
  | some u,some v=>match binV C op t x y u v with
   | some r=>some (.val r,s)
   | none=>none
  | _,_=>none
def opUnOp (op:UnOp) (x:Operand) (C:Ctx) (a:T Value) (s:AS):Option (R × AS) :=
 match opnd a x with
  | some v=>cond (plainV v) (match pureRun C.P (Op.unary op v) with
   | some r=>cond (plainV r) (some (.val r,s)) none
   | none=>none) none
  | none=>none
def opConv2 (src dst:TypeId) (x:Operand) (C:Ctx) (a:T Value) (s:AS):Option (R × AS) :=
 match opnd a x with
  | some v=>match convV C src dst v s with
   | some (r,s')=>some (.val r,s')
   | none=>none
  | none=>none
def opConvert (src dst:TypeId) (x:Operand) (C:Ctx) (a:T Value) (s:AS):Option (R × AS) :=
 match alConv src dst x C a with
 | some al=>doAl s (some al)
 | none=>opConv2 src dst x C a s
def opMakeInterface (t:TypeId) (x:Operand) (C:Ctx) (a:T Value) (s:AS):Option (R × AS) :=
 match opnd a x,C.un t with
  | some _,some (.interface _)=>none
  | some v,some _=>some (.val (.iface t v),s)
  | _,_=>none
def opMakeFunc (f:FuncId) (fs cs:Array Operand) (C:Ctx) (a:T Value) (s:AS):Option (R × AS) :=
 match opnds a fs.toList,opnds a cs.toList with
  | some fs',some cs'=>some (.val (.func (.func f) fs'.toArray cs'.toArray),s)
  | _,_=>none
def opSlice (t:TypeId) (x:Operand) (lo hi mx:Option Operand) (C:Ctx) (a:T Value) (s:AS):Option (R × AS) :=
 match opnd a x,bnd a lo,bnd a hi,bnd a mx with
  | some v,some l,some h,some m=>match C.un t,v with
   | some (.slice e),.slice p n c=>match cut n c l h m,sizeT C e with
    | some (i,j,k),some sz=>match p with
     | none=>some (.val (.slice none 0 0),s)
     | some ad=>match blkAt s ad.block with
      | some q=>cond q.opn (cond (Nat.beq q.esz sz) (some (.val (.slice (some ⟨ad.block,ad.off+i*sz,ad.spot⟩) (j-i) (k-i)),s)) none) (some (.val (.slice (some ⟨ad.block,ad.off+i*sz,ad.spot⟩) (j-i) (k-i)),s))
      | none=>none
    | _,_=>none
   | some .string,.string b=>match m,cut b.size b.size l h none with
    | none,some (i,j,_)=>some (.val (.string (b.extract i j)),s)
    | _,_=>none
   | some (.array n e),.pointer (some ad)=>match cut n n l h m,sizeT C e with
    | some (i,j,k),some sz=>some (.val (.slice (some ⟨ad.block,ad.off+i*sz,ad.spot⟩) (j-i) (k-i)),s)
    | _,_=>none
   | _,_=>none
  | _,_,_,_=>none
def opFieldAddr (t:TypeId) (x:Operand) (f:Nat) (C:Ctx) (a:T Value) (s:AS):Option (R × AS) :=
 match C.un t,opnd a x with
  | some (.struct fs),some (.pointer (some p))=>match fieldAt fs.toList f with
   | some fl=>match sizeT C fl.type with
    | some 0=>none
    | some _=>some (.val (.pointer (some ⟨p.block,p.off+fl.offset,p.spot⟩)),s)
    | none=>none
   | none=>none
  | _,_=>none
def opField (t:TypeId) (x:Operand) (f:Nat) (C:Ctx) (a:T Value) (s:AS):Option (R × AS) :=
 match C.un t,opnd a x with
  | some (.struct fs),some (.agg cs)=>match fieldAt fs.toList f with
   | some fl=>match isAggT C fl.type,sizeT C fl.type with
    | some true,some n=>some (.val (.agg ((cs.toList.drop fl.offset).take n).toArray),s)
    | some false,_=>match cs.toList[fl.offset]? with
     | some v=>some (.val v,s)
     | none=>none
    | _,_=>none
   | none=>none
  | _,_=>none
def opIndexAddr (t:TypeId) (x i:Operand) (C:Ctx) (a:T Value) (s:AS):Option (R × AS) :=
 match C.un t,opnd a x,opnd a i with
  | some (.slice e),some (.slice (some p) n _),some (.int _ k)=>match sizeT C e with
   | some sz=>if 0<=k/\k<n then some (.val (.pointer (some ⟨p.block,p.off+k.toNat*sz,p.spot⟩)),s) else none
   | none=>none
  | some (.array n e),some (.pointer (some p)),some (.int _ k)=>match sizeT C e with
   | some sz=>if 0<=k/\k<n then some (.val (.pointer (some ⟨p.block,p.off+k.toNat*sz,p.spot⟩)),s) else none
   | none=>none
  | _,_,_=>none
def opIndex (t:TypeId) (x i:Operand) (C:Ctx) (a:T Value) (s:AS):Option (R × AS) :=
 match C.un t,opnd a x,opnd a i with
  | some .string,some (.string b),some (.int _ k)=>if 0<=k then match b[k.toNat]? with
   | some c=>some (.val (.int .u8 c.toNat),s)
   | none=>none
   else none
  | some (.array n e),some (.agg cs),some (.int _ k)=>if 0<=k/\k<n then match isAggT C e,sizeT C e with
   | some true,some sz=>some (.val (.agg ((cs.toList.drop (k.toNat*sz)).take sz).toArray),s)
   | some false,some sz=>match cs.toList[k.toNat*sz]? with
    | some v=>some (.val v,s)
    | none=>none
   | _,_=>none
   else none
  | _,_,_=>none
def opLookup (t:TypeId) (x k:Operand) (ok:Bool) (C:Ctx) (a:T Value) (s:AS):Option (R × AS) :=
 match C.un t,opnd a x,opnd a k with
  | some (.map kt et),some (.map r),some kv=>match C.un kt,C.ty et with
   | some d,some ei=>match (match r with | none=>some [] | some b=>(match s.h.get b with | some (.map es _)=>some es | _=>none)),ei.zero with
    | some es,some z=>cond (plainKey d kv && closedV z) (match findK d kv es with
     | some (some (_,v))=>some (.val (cond ok (.tuple #[v,.bool true]) v),s)
     | some none=>some (.val (cond ok (.tuple #[z,.bool false]) z),s)
     | none=>none) none
    | _,_=>none
   | _,_=>none
  | _,_,_=>none
def opMapUpdate (t:TypeId) (x k v:Operand) (C:Ctx) (a:T Value) (s:AS):Option (R × AS) :=
 match C.un t,opnd a x,opnd a k,opnd a v with
  | some (.map kt _),some (.map (some r)),some kv,some vv=>match C.un kt,s.h.get r with
   | some d,some (.map es clock)=>cond (plainKey d kv) (match findK d kv es with
    | some (some (i,_))=>some (.skip,⟨s.n,s.h.put r (.map (es.modify i fun e=>{e with key:=kv,val:=vv}) clock)⟩)
    | some none=>some (.skip,⟨s.n,s.h.put r (.map (es++[{key:=kv,val:=vv,born:=clock}]) (clock+1))⟩)
    | none=>none) none
   | _,_=>none
  | _,_,_,_=>none
def failA (C:Ctx) (t:TypeId) (ok:Bool) (s:AS):Option (R × AS) :=
 match C.ty t with
 | some ti=>match ti.zero with
  | some z=>cond (ok && closedV z) (some (.val (.tuple #[z,.bool false]),s)) none
  | none=>none
 | none=>none
def hasM (got:List Method) (p:String × TypeId):Bool:=got.any fun m=>m.name==p.1 && m.sig==p.2
def missB (want:Array (String × TypeId)) (got:Array Method):Bool:=!want.toList.all (hasM got.toList)
def opTypeAssert (x:Operand) (t:TypeId) (ok:Bool) (C:Ctx) (a:T Value) (s:AS):Option (R × AS) :=
 match opnd a x,C.un t with
  | some .nilIface,some (.interface _)=>none
  | some (.iface u v),some (.interface want)=>match C.ty u with
   | some ui=>match missB want ui.methods with
    | false=>some (.val (cond ok (.tuple #[.iface u v,.bool true]) (.iface u v)),s)
    | true=>failA C t ok s
   | none=>none
  | some (.iface u v),some _=>cond (Nat.beq u t) (some (.val (cond ok (.tuple #[v,.bool true]) v),s)) (failA C t ok s)
  | _,_=>none
def opExtract (x:Operand) (i:Nat) (C:Ctx) (a:T Value) (s:AS):Option (R × AS) :=
 match opnd a x with
  | some (.tuple vs)=>match vs.toList[i]? with
   | some v=>some (.val v,s)
   | none=>none
  | _=>none
def isPtrD:TypeDesc->Bool
 | .pointer _=>true
 | _=>false
def invokeT (C:Ctx) (t:TypeId) (name:String) (v:Value) (vs:List Value) (s:AS):Option (R × AS) :=
 match C.ty t with
 | some ti=>match ti.methods.toList.find? (fun m=>m.name==name) with
  | some m=>match m.path.toList,m.func,C.un t with
   | [],some (g,true),some (.pointer _)=>some (.call g (v::vs),s)
   | [],some (g,false),some d=>cond (isPtrD d) none (some (.call g (v::vs),s))
   | _,_,_=>none
  | none=>none
 | none=>none
def invokeV (C:Ctx) (t:TypeId) (name:String) (v:Value) (vs:List Value) (s:AS):Option (R × AS) :=
 match C.meth t name v with
 | some (g,rv)=>some (.call g (rv::vs),s)
 | none=>invokeT C t name v vs s
def opCall (c:Call) (C:Ctx) (a:T Value) (s:AS):Option (R × AS) :=
 match c.callee,opnds a c.args.toList with
  | .builtin b,some vs=>builtinV C b c.argTypes.toList vs s
  | .value f,some vs=>match opnd a f with
   | some (.func (.func g) fs cs)=>some (.call g (fs.toList++vs++cs.toList),s)
   | some (.func (.yield l) _ _)=>some (.round l vs,s)
   | _=>none
  | .invoke r name,some vs=>match opnd a r with
   | some (.iface t v)=>invokeV C t name v vs s
   | _=>none
  | _,none=>none
def opRange (t:TypeId) (x:Operand) (C:Ctx) (a:T Value) (s:AS):Option (R × AS) :=
 match C.un t,opnd a x with
 | some (.map _ _),some (.map none)=>doAl s (some (.mit none 0 [] 0,ptrV))
 | some (.map _ _),some (.map (some r))=>match s.h.get r with
  | some (.map _ clock)=>doAl s (some (.mit (some r) clock [] clock,ptrV))
  | _=>none
 | some .string,some (.string b)=>doAl s (some (.sit b 0,ptrV))
 | _,_=>none
def nextSit (s:AS) (b:Nat) (q:ByteArray) (pos:Nat):Option (R × AS) :=
 cond (Nat.blt pos q.size) (some (.val (.tuple #[.bool true,.int .i64 pos,.int .i32 (Utf8.decode q pos).1]),⟨s.n,s.h.put b (.sit q (pos+(Utf8.decode q pos).2))⟩)) (some (.val (.tuple #[.bool false]),s))
def candL (es:List MapEntry) (since:Nat) (seen:List Nat):List (Option MapEntry) :=
 let left:=es.filter fun e=>!seen.contains e.born
 let old:=left.filter (·.born<since)
 (cond old.isEmpty [none] [])++(old++left.filter (·.born ≥ since)).map some
def nextMit (s:AS) (b r:Nat) (since:Nat) (seen:List Nat) (last:Nat) (es:List MapEntry) (clock:Nat):Option (R × AS) :=
 cond (!seen.isEmpty && !es.isEmpty && es.all (fun e=>decide (e.born ≥ last))) none
  (match candL es since seen with
  | [none]=>some (.val (.tuple #[.bool false]),s)
  | [some e]=>some (.val (.tuple #[.bool true,e.key,e.val]),⟨s.n,s.h.put b (.mit (some r) since (seen++[e.born]) clock)⟩)
  | _=>none)
def opNext (x:Operand) (isStr:Bool) (_:Ctx) (a:T Value) (s:AS):Option (R × AS) :=
 match opnd a x with
 | some (.pointer (some ⟨b,0,none⟩))=>match s.h.get b,isStr with
  | some (.sit q pos),true=>nextSit s b q pos
  | some (.mit none _ _ _),false=>some (.val (.tuple #[.bool false]),s)
  | some (.mit (some r) since seen last),false=>match s.h.get r with
   | some (.map es clock)=>nextMit s b r since seen last es clock
   | _=>none
  | _,_=>none
 | _=>none
def opEntry (x:Operand) (_:Ctx) (a:T Value) (s:AS):Option (R × AS) :=
 match opnd a x with
 | some (.pointer (some ⟨b,0,none⟩))=>match s.h.get b with
  | some (.mit (some r) _ seen last)=>match seen.getLast?,s.h.get r with
   | some st,some (.map es clock)=>cond (Nat.beq clock last) (match es.find? (fun e=>e.born==st) with
    | some e=>some (.val (.tuple #[e.key,e.val]),s)
    | none=>none) none
   | _,_=>none
  | _=>none
 | _=>none
def opNone (_:Ctx) (_:T Value) (_:AS):Option (R × AS):=none
def opAl (k:Ctx->T Value->Option Al) (C:Ctx) (a:T Value) (s:AS):Option (R × AS):=doAl s (k C a)
def aopK (op:Op):Ctx->T Value->AS->Option (R × AS) :=
 match op with
 | .move x | .assign x=>opMove x
 | .pick c x y=>opPick c x y
 | .alloc t=>opAl (alAlloc t)
 | .box t x=>opAl (alBox t x)
 | .build t ps=>opBuild t ps
 | .buildSlice t n ps=>opAl (alBuildSlice t n ps)
 | .load t x=>opLoad t x
 | .store t x y=>opStore t x y
 | .nilCheck x=>opNilCheck x
 | .binOp op t x y _=>opBinOp op t x y
 | .unOp op _ x=>opUnOp op x
 | .convert src dst x=>opConvert src dst x
 | .makeInterface t x=>opMakeInterface t x
 | .makeFunc (.func f) fs cs=>opMakeFunc f fs cs
 | .makeMap _ none=>opAl alMakeMap
 | .makeSlice t l c=>opAl (alMakeSlice t l c)
 | .slice t x lo hi mx=>opSlice t x lo hi mx
 | .fieldAddr t x f=>opFieldAddr t x f
 | .field t x f=>opField t x f
 | .indexAddr t x i=>opIndexAddr t x i
 | .index t x i=>opIndex t x i
 | .lookup t x k ok=>opLookup t x k ok
 | .mapUpdate t x k v | .insert t x k v=>opMapUpdate t x k v
 | .range t x=>opRange t x
 | .next x q=>opNext x q
 | .entry x=>opEntry x
 | .typeAssert x xt t ok=>opTypeAssert x t ok
 | .extract x i=>opExtract x i
 | .call c=>opCall c
 | _=>opNone
def aop (C:Ctx) (o:Oper) (a:T Value) (s:AS):Option (R × AS):=aopK o.op C a s
inductive Xt where
 | normal
 | exit (id:Nat)
 | ret
def wantedG (ops:List Oper) (a:T Value) (g:Nat × Bool):Bool :=
 match ops[g.1]? with
 | some oj=>match oj.dst with
  | some d=>match a.get d with
   | some (.bool b)=>cond g.2 b (!b)
   | _=>false
  | none=>false
 | none=>false
def wantedB (ops:List Oper) (o:Oper) (a:T Value):Bool :=
 Option.rec (motive:=fun _=>Bool) true (fun g=>wantedG ops a g) o.guard
def guardG (ops:List Oper) (a:T Value) (g:Nat × Bool):Bool :=
 match ops[g.1]? with
 | some oj=>match oj.dst with
  | some d=>match a.get d with
   | some (.chan _)=>false
   | _=>true
  | none=>true
 | none=>true
def guardB (ops:List Oper) (o:Oper) (a:T Value):Bool :=
 Option.rec (motive:=fun _=>Bool) true (fun g=>guardG ops a g) o.guard
def putA (n:Nat) (a:T Value) (d:Option Tmp) (v:Value):Option (T Value) :=
 Option.rec (motive:=fun _=>Option (T Value)) (some a) (fun t=>Bool.rec (motive:=fun _=>Option (T Value)) none (some (a.put t v)) (Nat.blt t n)) d
def resOf (C:Ctx) (s:AS) (a:T Value):List ResultVar->Option (List Value)
 | []=>some []
 | .tmp t::r=>match resOf C s a r with
  | some l=>some ((a.get t).getD undef::l)
  | none=>none
 | .cell p t::r=>match a.get p with
  | some (.pointer (some ad))=>match isAggT C t,sizeT C t,resOf C s a r with
   | some true,some n,some l=>match readN s ad n with
    | some cs=>some (.agg cs.toArray::l)
    | none=>none
   | some false,_,some l=>match readN s ad 1 with
    | some [v]=>some (v::l)
    | _=>none
   | _,_,_=>none
  | _=>none
structure Fns where
 c:Bool->Nat->Code->T Value->AS->Option (Xt × T Value × AS)
 o:Nat->List Oper->List Oper->T Value->AS->Option (T Value × AS)
 d:Nat->List Oper->Nat->Nat->T Value->AS->Option (T Value × AS)
 f:FuncId->List Value->AS->Option (Value × AS)
abbrev KRes:=Option (Xt × T Value × AS)
def kSkip (_:Ctx) (_:Fns) (_:Bool) (_:Nat) (a:T Value) (s:AS):KRes:=some (.normal,a,s)
def kRet (_:Ctx) (_:Fns) (_:Bool) (_:Nat) (a:T Value) (s:AS):KRes:=some (.ret,a,s)
def kExit (id:Nat) (_:Ctx) (_:Fns) (_:Bool) (_:Nat) (a:T Value) (s:AS):KRes:=some (.exit id,a,s)
def kSeq (x y:Code) (_:Ctx) (ih:Fns) (q:Bool) (n:Nat) (a:T Value) (s:AS):KRes :=
 match ih.c q n x a s with
 | some (.normal,a',s')=>ih.c q n y a' s'
 | r=>r
def kCond (x:Operand) (t e:Code) (_:Ctx) (ih:Fns) (q:Bool) (n:Nat) (a:T Value) (s:AS):KRes :=
 match opnd a x with
 | some (.bool b)=>ih.c q n (cond b t e) a s
 | _=>none
def kBlock (id:Nat) (b:Code) (_:Ctx) (ih:Fns) (q:Bool) (n:Nat) (a:T Value) (s:AS):KRes :=
 match ih.c q n b a s with
 | some (.exit id',a',s')=>cond (Nat.beq id id') (some (.normal,a',s')) (some (.exit id',a',s'))
 | r=>r
def kLoop (b:Code) (_:Ctx) (ih:Fns) (q:Bool) (n:Nat) (a:T Value) (s:AS):KRes :=
 match ih.c q n b a s with
 | some (.normal,a',s')=>ih.c q n (.loop b) a' s'
 | r=>r
def kRegion (ops:Array Oper) (_:Ctx) (ih:Fns) (_:Bool) (n:Nat) (a:T Value) (s:AS):KRes :=
 match ih.o n ops.toList ops.toList a s with
 | some (a',s')=>some (.normal,a',s')
 | none=>none
def kRange (g:Operand) (ps:Array Tmp) (asg bd:Code) (C:Ctx) (ih:Fns) (q:Bool) (n:Nat) (a:T Value) (s:AS):KRes :=
 cond q none
 (match opnd a g with
 | some (.func (.func h) fs cs)=>cond (Nat.beq fs.size 0 && (C.sp h).isNone)
  (match ih.f h (.func (.yield s.n) #[] #[]::cs.toList) ⟨s.n+1,s.h.put s.n (.loop a n ps.toList asg bd .ready)⟩ with
  | some (_,s')=>match s'.h.get s.n with
   | some (.loop _ _ _ _ _ .ready)=>some (.normal,a,⟨s'.n,s'.h.put s.n .dead⟩)
   | some (.loop _ _ _ _ _ (.done c))=>ih.c q n c a ⟨s'.n,s'.h.put s.n .dead⟩
   | _=>none
  | none=>none) none
 | _=>none)
def kNone (_:Ctx) (_:Fns) (_:Bool) (_:Nat) (_:T Value) (_:AS):KRes:=none
def bitB (D i:Nat):Bool:=Nat.beq (Nat.land (Nat.shiftRight D i) 1) 1
def setB (D i:Nat):Nat:=Nat.lor D (Nat.shiftLeft 1 i)
def predsIn (D:Nat):List Edge->Bool
 | []=>true
 | e::es=>cond (Region.binds .any e) (cond (bitB D e.on) (predsIn D es) false) (predsIn D es)
def stillBi:Builtin->Bool
 | .len | .cap | .min | .max=>true
 | _=>false
def stillC (c:Callee):Bool:=match c with
 | .builtin b=>stillBi b
 | _=>false
def stillB (_:Ctx) (op:Op):Bool :=
 match op with
 | .move _ | .assign _ | .pick _ _ _ | .build _ _ | .load _ _ | .nilCheck _ | .binOp _ _ _ _ _ | .unOp _ _ _ | .makeInterface _ _ | .makeFunc _ _ _ | .slice _ _ _ _ _
 | .fieldAddr _ _ _ | .field _ _ _ | .indexAddr _ _ _ | .index _ _ _ | .lookup _ _ _ _ | .typeAssert _ _ _ _ | .extract _ _=>true
 | .convert _ _ _=>true
 | .call c=>stillC c.callee
 | _=>false
def eqL (f:Value->Value->Bool):List Value->List Value->Bool
 | [],[]=>true
 | x::xs,y::ys=>cond (f x y) (eqL f xs ys) false
 | _,_=>false
def eqA (a b:Addr):Bool:=match a.spot,b.spot with
 | none,none=>Nat.beq a.block b.block && Nat.beq a.off b.off
 | _,_=>false
def eqI:Int->Int->Bool
 | .ofNat a,.ofNat b=>Nat.beq a b
 | .negSucc a,.negSucc b=>Nat.beq a b
 | _,_=>false
def eqBy:List UInt8->List UInt8->Bool
 | [],[]=>true
 | x::xs,y::ys=>cond (Nat.beq x.toNat y.toNat) (eqBy xs ys) false
 | _,_=>false
def veq:Nat->Value->Value->Bool
 | 0,_,_=>false
 | k+1,x,y=>match x,y with
  | .bool p,.bool q=>cond p q (!q)
  | .int j p,.int k q=>kindEq j k && eqI p q
  | .string p,.string q=>eqBy p.data.toList q.data.toList
  | .nilFunc,.nilFunc=>true
  | .chan none,.chan none=>true
  | .chan (some p),.chan (some q)=>Nat.beq p q
  | .nilIface,.nilIface=>true
  | .pointer none,.pointer none=>true
  | .pointer (some p),.pointer (some q)=>eqA p q
  | .slice none n c,.slice none n' c'=>Nat.beq n n' && Nat.beq c c'
  | .slice (some p) n c,.slice (some q) n' c'=>eqA p q && (Nat.beq n n' && Nat.beq c c')
  | .map none,.map none=>true
  | .map (some p),.map (some q)=>Nat.beq p q
  | .iface t v,.iface u z=>Nat.beq t u && veq k v z
  | .agg p,.agg q=>eqL (veq k) p.toList q.toList
  | .tuple p,.tuple q=>eqL (veq k) p.toList q.toList
  | .func (.func f) p r,.func (.func g) q z=>Nat.beq f g && (eqL (veq k) p.toList q.toList && eqL (veq k) r.toList z.toList)
  | _,_=>false
def dstIs (a:T Value) (d:Option Tmp) (v:Value):Bool :=
 match d with
 | none=>true
 | some t=>match a.get t with
  | some u=>veq 10 u v
  | none=>false
def readsT (t:Tmp):List Operand->Bool
 | []=>false
 | .tmp u::r=>cond (Nat.beq u t) true (readsT t r)
 | _::r=>readsT t r
def hasEdge (j:Nat):List Edge->Bool
 | []=>false
 | e::es=>cond (Region.binds .any e) (cond (Nat.beq e.on j) true (hasEdge j es)) (hasEdge j es)
def lateT (t:Tmp) (i:Nat):List Oper->Bool
 | []=>false
 | k::ks=>cond (readsT t k.op.operands.toList) (cond (hasEdge i k.after.toList) (lateT t i ks) true) (lateT t i ks)
def lateB (all:List Oper) (i:Nat) (o:Oper):Bool :=
 match o.dst with
 | some t=>lateT t i all
 | none=>false
inductive Free where
 | leave
 | fail
 | took (a:T Value) (s:AS)
def tookP (n:Nat) (a:T Value) (d:Option Tmp) (v:Value) (s:AS):Free :=
 match putA n a d v with
 | some a'=>.took a' s
 | none=>.fail
def freeRes (n:Nat) (a:T Value) (d:Option Tmp) (r:Option (R × AS)):Free :=
 match r with
 | some (.val v,s')=>tookP n a d v s'
 | _=>.fail
def freeStep (C:Ctx) (n:Nat) (all:List Oper) (i:Nat) (o:Oper) (a:T Value) (s:AS):Free :=
 cond (lateB all i o) .leave (cond (wantedB all o a)
  (match alOf o.op C a with
  | some al=>cond o.dst.isSome (freeRes n a o.dst (doAl s (some al))) .fail
  | none=>cond (stillB C o.op) (freeRes n a o.dst (aop C o a s)) .leave)
  (tookP n a o.dst undef s))
def pass (C:Ctx) (n:Nat) (all:List Oper):List Oper->Nat->Nat->T Value->AS->Option (Nat × T Value × AS)
 | [],_,D,a,s=>some (D,a,s)
 | o::os,i,D,a,s=>cond (bitB D i) (pass C n all os (i+1) D a s)
  (cond (predsIn D o.after.toList) (match freeStep C n all i o a s with
   | .leave=>pass C n all os (i+1) D a s
   | .fail=>none
   | .took a' s'=>pass C n all os (i+1) (setB D i) a' s') (pass C n all os (i+1) D a s))
def readyL (D:Nat):List Oper->Nat->List Nat
 | [],_=>[]
 | o::os,i=>cond (bitB D i) (readyL D os (i+1)) (cond (predsIn D o.after.toList) (i::readyL D os (i+1)) (readyL D os (i+1)))
def verO (C:Ctx) (all:List Oper) (a:T Value) (s:AS) (o:Oper):Bool :=
 cond (guardB all o a) (cond (wantedB all o a)
  (match alOf o.op C a with
  | some _=>true
  | none=>match aop C o a s with
   | some (.val v,_)=>cond (stillB C o.op) (dstIs a o.dst v) false
   | _=>false)
  (dstIs a o.dst undef)) false
def verL (C:Ctx) (all:List Oper) (D A:Nat) (a:T Value) (s:AS):List Oper->Nat->Bool
 | [],_=>true
 | o::os,i=>cond (bitB D i) (cond (bitB A i) (verL C all D A a s os (i+1)) (cond (verO C all a s o) (verL C all D A a s os (i+1)) false)) (verL C all D A a s os (i+1))
def preds (A:Nat):List Edge->Nat
 | []=>A
 | e::es=>cond (Region.binds .any e) (setB (preds A es) e.on) (preds A es)
def anc (all:List Oper):List Oper->Nat->Nat->Nat
 | [],_,A=>A
 | o::os,i,A =>
  let B:=anc all os (i+1) A
  cond (bitB B i) (preds B o.after.toList) B
def doneB (D:Nat):List Oper->Nat->Bool
 | [],_=>true
 | _::os,i=>cond (bitB D i) (doneB D os (i+1)) false
def dstM:List Oper->Nat
 | []=>0
 | o::os=>match o.dst with
  | some t=>setB (dstM os) t
  | none=>dstM os
def dstOnce:List Oper->Bool
 | []=>true
 | o::os=>match o.dst with
  | some t=>cond (bitB (dstM os) t) false (dstOnce os)
  | none=>dstOnce os
def ahead (i:Nat):List Edge->Bool
 | []=>true
 | e::es=>cond (Region.binds .any e) (cond (Nat.blt e.on i) (ahead i es) false) (ahead i es)
def predD (all:List Oper):List Edge->Nat
 | []=>0
 | e::es=>cond (Region.binds .any e) (match all[e.on]? with
  | some o=>(match o.dst with | some t=>setB (predD all es) t | none=>predD all es)
  | none=>predD all es) (predD all es)
def antiD (i:Nat):List Oper->Nat
 | []=>0
 | k::ks=>cond (hasEdge i k.after.toList) (match k.dst with
  | some t=>setB (antiD i ks) t
  | none=>antiD i ks) (antiD i ks)
def tmpsIn (M Q:Nat):List Operand->Bool
 | []=>true
 | .tmp t::r=>cond (bitB M t) (cond (bitB Q t) (tmpsIn M Q r) false) (tmpsIn M Q r)
 | _::r=>tmpsIn M Q r
def guardIn (all:List Oper) (Q:Nat) (g:Option (Nat × Bool)):Bool :=
 match g with
 | none=>true
 | some (j,_)=>match all[j]? with
  | some o=>(match o.dst with | some t=>bitB Q t | none=>false)
  | none=>false
def noSel:Op->Bool
 | .select _ _=>false
 | _=>true
def okOp (all:List Oper) (M i:Nat) (o:Oper):Bool :=
 ahead i o.after.toList && (tmpsIn M (Nat.lor (predD all o.after.toList) (antiD i all)) o.op.operands.toList && (guardIn all (predD all o.after.toList) o.guard && noSel o.op))
def okOps (all:List Oper) (M:Nat):List Oper->Nat->Bool
 | [],_=>true
 | o::os,i=>cond (okOp all M i o) (okOps all M os (i+1)) false
def okD (all:List Oper):Bool:=dstOnce all && okOps all (dstM all) all 0
def kDrawn (ops:Array Oper) (_:Ctx) (ih:Fns) (_:Bool) (n:Nat) (a:T Value) (s:AS):KRes :=
 cond (okD ops.toList) (match ih.d n ops.toList 0 0 a s with
 | some (a',s')=>some (.normal,a',s')
 | none=>none) none
def evK (c:Code):Ctx->Fns->Bool->Nat->T Value->AS->KRes :=
 match c with
 | .skip=>kSkip
 | .label _=>kSkip
 | .ret=>kRet
 | .exit id=>kExit id
 | .seq x y=>kSeq x y
 | .cond x t e=>kCond x t e
 | .block id b=>kBlock id b
 | .loop b=>kLoop b
 | .region _ ops false=>kRegion ops
 | .region _ ops true=>kDrawn ops
 | .rangeFunc g ps asg bd=>kRange g ps asg bd
 | _=>kNone
def evC (C:Ctx) (ih:Fns) (q:Bool) (n:Nat) (c:Code) (a:T Value) (s:AS):KRes:=evK c C ih q n a s
def rdEnd (s:AS) (l:Nat) (x:Xt):Option (Value × AS) :=
 match s.h.get l with
 | some (.loop t nt ps asg bd .busy)=>match x with
  | .normal=>some (.bool true,⟨s.n,s.h.put l (.loop t nt ps asg bd .ready)⟩)
  | .ret=>some (.bool false,⟨s.n,s.h.put l (.loop t nt ps asg bd (.done .ret))⟩)
  | .exit id=>some (.bool false,⟨s.n,s.h.put l (.loop t nt ps asg bd (.done (.exit id)))⟩)
 | _=>none
def rdBody (ih:Fns) (l nt:Nat) (bd:Code) (a:T Value) (s:AS):Option (Value × AS) :=
 match s.h.get l with
 | some (.loop t nt' ps asg bd' .ready)=>match ih.c true nt bd a ⟨s.n,s.h.put l (.loop t nt' ps asg bd' .busy)⟩ with
  | some (x,_,s')=>rdEnd s' l x
  | none=>none
 | _=>none
def rdArgs (n:Nat):List Tmp->List Value->T Value->Option (T Value)
 | [],[],t=>some t
 | p::ps,v::vs,t=>cond (Nat.blt p n) (rdArgs n ps vs (t.put p v)) none
 | _,_,_=>none
def rdRun (ih:Fns) (l:Nat) (vs:List Value) (s:AS):Option (Value × AS) :=
 match s.h.get l with
 | some (.loop t nt ps asg bd .ready)=>match rdArgs nt ps vs t with
  | some a=>match ih.c true nt asg a s with
   | some (.normal,a',s')=>rdBody ih l nt bd a' s'
   | _=>none
  | none=>none
 | _=>none
def actRes (ih:Fns) (r:Option (R × AS)):Option (Value × AS) :=
 match r with
 | some (.val v,s')=>some (v,s')
 | some (.skip,s')=>some (undef,s')
 | some (.call g vs,s')=>ih.f g vs s'
 | some (.round l vs,s')=>rdRun ih l vs s'
 | none=>none
def oPut (ih:Fns) (n:Nat) (all os:List Oper) (d:Option Tmp) (v:Value) (a:T Value) (s:AS):Option (T Value × AS) :=
 Option.rec (motive:=fun _=>Option (T Value × AS)) none (fun a'=>ih.o n all os a' s) (putA n a d v)
def oAct (ih:Fns) (n:Nat) (all os:List Oper) (d:Option Tmp) (a:T Value) (r:Option (Value × AS)):Option (T Value × AS) :=
 match r with
 | some (v,s')=>oPut ih n all os d v a s'
 | none=>none
def oStep (C:Ctx) (ih:Fns) (n:Nat) (all:List Oper) (o:Oper) (os:List Oper) (a:T Value) (s:AS):Option (T Value × AS) :=
 cond (guardB all o a) (Bool.rec (motive:=fun _=>Option (T Value × AS)) (oPut ih n all os o.dst undef a s) (oAct ih n all os o.dst a (actRes ih (aop C o a s))) (wantedB all o a)) none
def evO (C:Ctx) (ih:Fns) (n:Nat) (all os:List Oper) (a:T Value) (s:AS):Option (T Value × AS) :=
 List.rec (motive:=fun _=>Option (T Value × AS)) (some (a,s)) (fun o os _=>oStep C ih n all o os a s) os
def dAct (C:Ctx) (ih:Fns) (n:Nat) (all:List Oper) (D A i:Nat) (o:Oper) (a:T Value) (s:AS):Option (T Value × AS) :=
 cond (guardB all o a && wantedB all o a) (match actRes ih (aop C o a s) with
 | some (v,s')=>match putA n a o.dst v with
  | some a'=>ih.d n all (setB D i) (anc all all 0 (setB A i)) a' s'
  | none=>none
 | none=>none) none
def dMore (C:Ctx) (ih:Fns) (n:Nat) (all:List Oper) (D A:Nat) (a:T Value) (s:AS):Option (T Value × AS) :=
 cond (verL C all D A a s all 0)
  (match readyL D all 0 with
  | []=>cond (doneB D all 0) (some (a,s)) none
  | [i]=>match all[i]? with
   | some o=>dAct C ih n all D A i o a s
   | none=>none
  | _=>none) none
def evD (C:Ctx) (ih:Fns) (n:Nat) (all:List Oper) (D A:Nat) (a:T Value) (s:AS):Option (T Value × AS) :=
 match pass C n all all 0 D a s with
 | some (D',a',s')=>dMore C ih n all D' A a' s'
 | none=>none
def evF (C:Ctx) (ih:Fns) (g:FuncId) (vs:List Value) (s:AS):Option (Value × AS) :=
 match C.sp g with
 | some k=>k vs s
 | none=>match C.fn g with
  | some fn=>match fn.body with
   | some b=>cond (Nat.ble vs.length fn.ntmps) (match ih.c false fn.ntmps b (T.ofList vs 0 .leaf) s with
    | some (.exit _,_,_)=>none
    | some (_,a',s')=>match resOf C s' a' fn.results.toList with
     | some [v]=>some (v,s')
     | some l=>some (.tuple l.toArray,s')
     | none=>none
    | none=>none) none
   | none=>none
  | none=>none
def ev (C:Ctx) (fuel:Nat):Fns :=
 Nat.rec (motive:=fun _=>Fns) ⟨fun _ _ _ _ _=>none,fun _ _ _ _ _=>none,fun _ _ _ _ _ _=>none,fun _ _ _=>none⟩ (fun _ ih=>⟨evC C ih,evO C ih,evD C ih,evF C ih⟩) fuel
end
end Go.Proofs.YtenfkghoolegfaaGreatDoor.Ev
namespace Go.Proofs.YtenfkghoolegfaaGreatDoor.Ev
open Go.RowKit
variable {ω:Nat->Value}
theorem plain_inv {m:M ω} {v v':Value} (h:VRel m v v') (hp:plainV v=true):v'=v:=by
 cases h <;> first | rfl | (simp [plainV] at hp)
theorem cells_list (v:Value):v.cells.toList=cellsOf v:=by cases v <;> rfl
theorem arr_getD (cs:Array Value) (i:Nat) (h:i<cs.size):cs.toList[i]?=some (cs.getD i undef):=by
 simp [h]
def LRel (m:M ω) (l l':List Value):Prop:=l.length=l'.length/\∀ (i:Nat) (v v':Value),l[i]?=some v->l'[i]?=some v'->VRel m v v'
theorem LRel.nil (m:M ω):LRel m [] []:=⟨rfl,fun i v v' h=>by simp at h⟩
theorem LRel.mono {m m':M ω} (hl:Le m m') {l l':List Value} (h:LRel m l l'):LRel m' l l':=⟨h.1,fun i v v' a b=>(h.2 i v v' a b).mono hl⟩
theorem LRel.cons {m:M ω} {v v':Value} {l l':List Value} (h:VRel m v v') (k:LRel m l l'):LRel m (v::l) (v'::l') :=
 ⟨by simp [k.1],fun i=>by
  cases i with
  | zero=>intro a b ha hb;simp at ha hb;subst ha;subst hb;exact h
  | succ i=>intro a b ha hb;simp at ha hb;exact k.2 i a b ha hb⟩
theorem LRel.tail {m:M ω} {v v':Value} {l l':List Value} (h:LRel m (v::l) (v'::l')):VRel m v v'/\LRel m l l' :=
 ⟨h.2 0 v v' rfl rfl,by simpa using h.1,fun i a b ha hb=>h.2 (i+1) a b (by simpa using ha) (by simpa using hb)⟩
theorem LRel.append {m:M ω} {l l' k k':List Value} (h:LRel m l l') (j:LRel m k k'):LRel m (l++k) (l'++k') :=
 ⟨by simp [h.1,j.1],fun i a b ha hb=>by
  by_cases hi:i<l.length
  ·rw [List.getElem?_append_left hi] at ha;rw [List.getElem?_append_left (by rw [<-h.1];exact hi)] at hb;exact h.2 i a b ha hb
  ·rw [List.getElem?_append_right (by omega)] at ha;rw [List.getElem?_append_right (by rw [<-h.1];omega),<-h.1] at hb
   exact j.2 _ a b ha hb⟩
theorem LRel.plain {m:M ω} {l:List Value} (h:l.all plainV=true):LRel m l l:=⟨rfl,fun i v v' a b=>by
 rw [a] at b;cases b
 exact .plain v (List.all_eq_true.1 h v (mG a))⟩
theorem LRel.of_arr {m:M ω} {cs cs':Array Value} (hs:cs.size=cs'.size) (h:∀ i,i<cs.size->VRel m (cs.getD i undef) (cs'.getD i undef)):LRel m cs.toList cs'.toList :=
 ⟨by simpa using hs,fun i v v' a b=>by
  have hi:i<cs.size:=by have:=(lS.1 a).1;simpa using this
  rw [arr_getD cs i hi] at a;rw [arr_getD cs' i (by omega)] at b
  cases a;cases b
  exact h i hi⟩
theorem LRel.arr {m:M ω} {l l':List Value} (h:LRel m l l'):∀ i,i<l.toArray.size->VRel m (l.toArray.getD i undef) (l'.toArray.getD i undef):=fun i hi=>by
 have hi':i<l.length:=by simpa using hi
 refine h.2 i _ _ ?_ ?_
 ·simp [hi']
 ·simp [show i<l'.length by rw [<-h.1];exact hi']
theorem LRel.agg {m:M ω} {l l':List Value} (h:LRel m l l'):VRel m (.agg l.toArray) (.agg l'.toArray):=.agg _ _ (by simpa using h.1) h.arr
theorem LRel.tuple {m:M ω} {l l':List Value} (h:LRel m l l'):VRel m (.tuple l.toArray) (.tuple l'.toArray):=.tuple _ _ (by simpa using h.1) h.arr
theorem cellsOf_one {v:Value} (h:oneV v=true):cellsOf v=[v]:=by cases v <;> first | rfl | cases h
theorem oneV_cell {v:Value} (h:oneV v=true):v.oneCell'=true:=by cases v <;> first | rfl | cases h
theorem cells_rel {m:M ω} {v v':Value} (h:VRel m v v'):LRel m (cellsOf v) (cellsOf v'):=by
 cases h with
 | tok k h=>rw [cellsOf_one h];exact LRel.cons (.tok k h) (LRel.nil m)
 | any v h=>rw [cellsOf_one h];exact LRel.cons (.any _ h) (LRel.nil m)
 | agg cs cs' hs h=>exact LRel.of_arr hs h
 | plain v h=>cases v <;> first | exact LRel.cons (.plain _ h) (LRel.nil m) | (simp [plainV] at h)
 | ptr a a' h=>exact LRel.cons (.ptr a a' h) (LRel.nil m)
 | slice a a' n c c' h hc hn=>exact LRel.cons (.slice a a' n c c' h hc hn) (LRel.nil m)
 | slice0 a a' h=>exact LRel.cons (.slice0 a a' h) (LRel.nil m)
 | map b i h=>exact LRel.cons (.map b i h) (LRel.nil m)
 | iface t v v' h=>exact LRel.cons (.iface t v v' h) (LRel.nil m)
 | tuple cs cs' hs h=>exact LRel.cons (.tuple cs cs' hs h) (LRel.nil m)
 | func f fs fs' cs cs' h1 h2 h k=>exact LRel.cons (.func f fs fs' cs cs' h1 h2 h k) (LRel.nil m)
 | yield b i h=>exact LRel.cons (.yield b i h) (LRel.nil m)
theorem one_rel {m:M ω} {v v':Value} (h:VRel m v v') (ho:oneV v=true):v'.oneCell'=true:=by
 cases h with
 | tok k h=>exact oneV_cell h
 | any v h=>exact oneV_cell h
 | plain v h=>cases v <;> first | rfl | (simp [plainV] at h)
 | agg cs cs' hs h=>simp [oneV] at ho
 | tuple cs cs' hs h=>simp [oneV] at ho
 | _=>rfl
theorem add_lit (r o i:Nat):(⟨r,o,none⟩:Addr).add i=⟨r,o+i,none⟩:=by unfold Addr.add;split <;> simp_all
theorem blk_at {B:Nat} {X:Aux} {m:M ω} {s:AS} {w:World} (h:SR B X m s w) {b:Nat} {k:Blk} (hb:blkAt s b=some k) {i:Info} (hi:m b=some i) :
 s.h.get b=some (.cells k)/\ORel m w i (.cells k)/\B<=i.r/\i.r<w.heap.size:=by
 unfold blkAt at hb
 cases hg:s.h.get b with
 | none=>simp [hg] at hb
 | some o =>
  cases o with
  | cells k' =>
   simp [hg] at hb;subst hb;obtain ⟨h2,h3,h4⟩:=h.rel b _ i hg rfl hi;exact ⟨rfl,h2,h3,h4⟩
  | _=>simp [hg] at hb
theorem readN_sound {B:Nat} {X:Aux} {m:M ω} {s:AS} {w:World} (h:SR B X m s w) {a a':Addr} {n:Nat} {l:List Value} (hr:readN s a n=some l) (ha:ARel m a a') :
 ∃ l',LRel m l l'/\l'.length=n/\∀ j v,l'[j]?=some v->w.cell? (a'.add j)=some v:=by
 unfold readN at hr;obtain ⟨hs,i,hi,rfl⟩:=ha;rw [hs] at hr
 cases hk:blkAt s a.block with
 | none=>simp [hk] at hr
 | some k =>
  simp only [hk] at hr;obtain ⟨h2,⟨e1,e2,e4,e3,c',fz,hc,hsz,hcell,_⟩,_,_⟩:=blk_at h hk hi
  cases hb:Nat.ble (a.off+n) k.len with
  | false=>simp [hb] at hr
  | true =>
   simp only [hb,cond_true] at hr;have hle:a.off+n<=k.len:=Nat.le_of_ble_eq_true hb;obtain ⟨hl,hg⟩:=T.range_spec k.c n a.off l hr;refine ⟨(List.range n).map fun j=>c'.getD (i.d+(a.off+j)) undef,⟨by simp [hl],fun j v v' hv hv'=>?_⟩,by simp,fun j v hv=>?_⟩
   ·have hj:j<n:=by have:=(lS.1 hv).1;omega
    obtain ⟨x,x',hx,hx',hxr⟩:=hcell (a.off+j) (by omega);rw [<-hg j hj,hx] at hv
    cases hv
    simp [hj] at hv';rw [aS] at hx';obtain ⟨hlt,rfl⟩:=hx';simp [hlt] at hv';subst hv';exact hxr
   ·have hj:j<n:=by have:=(lS.1 hv).1;simpa using this
    simp [hj] at hv;obtain ⟨x,x',hx,hx',hxr⟩:=hcell (a.off+j) (by omega);rw [add_lit,cell_of_row w i.r _ c' k.elem fz hc]
    have e:i.d+a.off+j=i.d+(a.off+j):=by omega
    rw [e,hx'];rw [aS] at hx';obtain ⟨hlt,rfl⟩:=hx';simp [hlt] at hv;rw [hv]
theorem heap_setCells {b:Nat} {e:TypeId} {fz:Nat × Nat}:∀ (vs:List Value) (o:Nat) (w:World) (c:Array Value),w.heap[b]?=some (.cells c e fz) ->
 ∃ c2:Array Value,(w.setCells b o vs).heap[b]?=some (.cells c2 e fz)/\c2.size=c.size/\∀ j,c2[j]?=if o<=j/\j<o+vs.length/\j<c.size then vs[j-o]? else c[j]?
 | [],o,w,c,h=>⟨c,h,rfl,fun j=>by simp;intros;omega⟩
 | v::r,o,w,c,h=>by
  have h1:(w.setCell ⟨b,o,none⟩ v).heap[b]?=some (.cells (c.setIfInBounds o v) e fz):=by
   simp [World.setCell,Array.getElem?_modify,h]
  obtain ⟨c2,g1,g2,g3⟩:=heap_setCells r (o+1) _ _ h1;refine ⟨c2,g1,by simpa using g2,fun j=>?_⟩;rw [g3 j];simp only [Array.size_setIfInBounds,List.length_cons];by_cases hj:o+1<=j/\j<o+1+r.length/\j<c.size
  ·rw [if_pos hj,if_pos (by omega),show j-o=(j-(o+1))+1 by omega];rfl
  ·rw [if_neg hj];by_cases hjo:j=o
   ·subst hjo;by_cases hlt:j<c.size
    ·rw [if_pos (by omega),Array.getElem?_setIfInBounds_self_of_lt hlt,Nat.sub_self];rfl
    ·rw [if_neg (by omega),Array.getElem?_eq_none (by simp;omega),Array.getElem?_eq_none (by omega)]
   ·rw [if_neg (by omega),Array.getElem?_setIfInBounds_ne (by omega)]
theorem heap_setCells_other {b:Nat}:∀ (vs:List Value) (o:Nat) (w:World) (k:Nat),k≠b->(w.setCells b o vs).heap[k]?=w.heap[k]?
 | [],_,_,_,_=>rfl
 | v::r,o,w,k,h=>by rw [World.setCells,heap_setCells_other r (o+1) _ k h];exact Below.heap_setCell w ⟨b,o,none⟩ v k h
theorem size_setCells {b:Nat}:∀ (vs:List Value) (o:Nat) (w:World),(w.setCells b o vs).heap.size=w.heap.size
 | [],_,_=>rfl
 | v::r,o,w=>by rw [World.setCells,size_setCells r (o+1)];simp [World.setCell]
theorem below_setCells {B b:Nat} (hB:B<=b):∀ (vs:List Value) (o:Nat) (w:World),Below B w (w.setCells b o vs)
 | [],_,w=>bR _ _
 | v::r,o,w=>by rw [World.setCells];exact ((bR B w).setCell (p:=⟨b,o,none⟩) hB v).trans (below_setCells hB r (o+1) _)
theorem ORel.other {m:M ω} {w w':World} {i:Info} {o:AObj} (h:ORel m w i o) (hb:w'.heap[i.r]?=w.heap[i.r]?):ORel m w' i o:=by
 cases o with
 | cells b=>obtain ⟨a1,a2,a4,a3,c',fz,hc,r⟩:=h;exact ⟨a1,a2,a4,a3,c',fz,by rw [hb];exact hc,r⟩
 | map es c=>obtain ⟨es',hc,r⟩:=h;exact ⟨es',by rw [hb];exact hc,r⟩
 | loop t n ps a c st=>obtain ⟨r,hc,k⟩:=h;exact ⟨r,by rw [hb];exact hc,k⟩
 | mit b si se la=>obtain ⟨h0,r,hc,k⟩:=h;exact ⟨h0,r,by rw [hb];exact hc,k⟩
 | sit q p=>obtain ⟨h0,hc⟩:=h;exact ⟨h0,by rw [hb];exact hc⟩
 | dead=>trivial
theorem ORel.mono {m m':M ω} (hl:Le m m') {w:World} {i:Info} {o:AObj} (h:ORel m w i o):ORel m' w i o:=by
 cases o with
 | cells b=>obtain ⟨a1,a2,a4,a3,c',fz,hc,h1,h2,h3⟩:=h;exact ⟨a1,a2,a4,a3,c',fz,hc,h1,fun j hj=>by obtain ⟨v,v',x,y,z⟩:=h2 j hj;exact ⟨v,v',x,y,z.mono hl⟩,h3⟩
 | map es c=>obtain ⟨es',hc,h1,h2⟩:=h;exact ⟨es',hc,h1,fun k e e' a b=>by obtain ⟨x,y,z,u⟩:=h2 k e e' a b;exact ⟨x,y,z.mono hl,u⟩⟩
 | loop t n ps a c st=>obtain ⟨r,h1,h2,h3,h4,h5,h6,h7⟩:=h;exact ⟨r,h1,h2,h3,h4,h5,h6,fun k=>(h7 k).mono hl⟩
 | mit b si se la=>obtain ⟨h0,r,hc,k⟩:=h;exact ⟨h0,r,hc,k.imp id fun ⟨c,j,a1,a2,a3⟩=>⟨c,j,a1,hl _ _ a2,a3⟩⟩
 | sit q p=>exact h
 | dead=>trivial
theorem upd_sound {B:Nat} {X:Aux} {m:M ω} {s:AS} {w:World} (h:SR B X m s w) {b:Nat} {o o':AObj} {i:Info} (hg:s.h.get b=some o) (ha:o.alive=true) (hi:m b=some i) {w1:World} (hsz:w1.heap.size=w.heap.size)
 (hold:∀ k,k≠i.r->w1.heap[k]?=w.heap[k]?) (ho:ORel m w1 i o'):SR B X m ⟨s.n,s.h.put b o'⟩ w1:=by
 obtain ⟨_,e2,e3⟩:=h.rel b o i hg ha hi
 have key:∀ c p,(s.h.put b o').get c=some p->(c=b/\p=o')\/(c≠b/\s.h.get c=some p):=by
  intro c p hc;rw [T.get_put] at hc;by_cases hcb:c=b
  ·rw [if_pos hcb] at hc;cases hc;exact .inl ⟨hcb,rfl⟩
  ·rw [if_neg hcb] at hc;exact .inr ⟨hcb,hc⟩
 refine ⟨?_,?_,?_,h.freshM,?_,?_,fun c j hj=>by rw [hsz];exact h.lt c j hj⟩
 ·intro c p j hc hp hj
  rcases key c p hc with ⟨rfl,rfl⟩ | ⟨hne,hc⟩
  ·rw [hi] at hj;cases hj;exact ⟨ho,e2,by omega⟩
  ·obtain ⟨f2,f3,f4⟩:=h.rel c p j hc hp hj;exact ⟨f2.other (hold _ (h.inj c b p o j i hc hg hp ha hne hj hi)),f3,by omega⟩
 ·intro c d p q x y hc hd hp hq hne hx hy
  have al:∀ c p,(s.h.put b o').get c=some p->p.alive=true->∃ q,s.h.get c=some q/\q.alive=true:=by
   intro c p hc hp
   rcases key c p hc with ⟨rfl,rfl⟩ | ⟨hne,hc⟩
   ·exact ⟨o,hg,ha⟩
   ·exact ⟨p,hc,hp⟩
  obtain ⟨p',hc',hp'⟩:=al c p hc hp;obtain ⟨q',hd',hq'⟩:=al d q hd hq;exact h.inj c d p' q' x y hc' hd' hp' hq' hne hx hy
 ·intro c hc;have hc':s.n<=c:=hc;show (s.h.put b o').get c=none;rw [T.get_put];by_cases hcb:c=b
  ·subst hcb;rw [h.freshH c hc'] at hg;cases hg
  ·rw [if_neg hcb];exact h.freshH c hc'
 ·intro c p hc;obtain ⟨k1,k2⟩:=h.gh c p hc;refine ⟨?_,k2⟩;show (s.h.put b o').get c=some p;rw [T.get_put,if_neg (fun e=>by rw [e,hi] at k2;cases k2)];exact k1
 ·intro r q hr;obtain ⟨k1,k2,k3⟩:=h.kp r q hr;exact ⟨by rw [hold r (k3 b i hi).symm];exact k1,k2,k3⟩
theorem writeL_sound {B:Nat} {X:Aux} {m:M ω} {s s':AS} {w:World} {P:Program} (h:SR B X m s w) {a a':Addr} {l l':List Value} (hr:writeL s a l=some s') (ha:ARel m a a') (hl:LRel m l l') :
 ∃ w',(storeCells a' l').run P w=.ok () w'/\SR B X m s' w'/\Below B w w':=by
 unfold writeL at hr;obtain ⟨hs,i,hi,rfl⟩:=ha;rw [hs] at hr
 cases hk:blkAt s a.block with
 | none=>simp [hk] at hr
 | some k =>
  simp only [hk] at hr;obtain ⟨hget,⟨e1,e2,e4,e3,c',fz,hc,hsz,hcell,hfz⟩,hB,hlt⟩:=blk_at h hk hi
  cases hb:(Nat.ble (a.off+l.length) k.len && l.all oneV) with
  | false=>simp [hb] at hr
  | true =>
   simp only [hb,cond_true,Option.some.injEq] at hr;subst hr;rw [Bool.and_eq_true] at hb;have hle:a.off+l.length<=k.len:=Nat.le_of_ble_eq_true hb.1;have hone:=List.all_eq_true.1 hb.2;have hll:=hl.1
   have hst:=run_storeCells_cells (P:=P) i.r (i.d+a.off) l' 0 w
    (fun j hj=>by
     obtain ⟨x,x',hx,hx',_⟩:=hcell (a.off+j) (by omega)
     rw [cell_of_row w i.r _ c' k.elem fz hc,show i.d+a.off+0+j=i.d+(a.off+j) by omega,hx'];rfl)
    (fun j hj=>by
     simp only [World.frozen?,hc]
     rcases hfz with e | ⟨e,_⟩ <;> rw [e] <;> simp
     omega)
    (fun v hv=>by
     obtain ⟨j,hj⟩:=List.mem_iff_getElem?.1 hv
     have hjl:j<l.length:=by have:=(lS.1 hj).1;omega
     exact one_rel (hl.2 j _ v (gE hjl) hj) (hone _ (List.getElem_mem hjl)))
   simp only [Nat.add_zero] at hst;obtain ⟨c2,g1,g2,g3⟩:=heap_setCells l' (i.d+a.off) w c' hc;refine ⟨_,hst,upd_sound h hget rfl hi (size_setCells _ _ _) (fun k hk=>heap_setCells_other _ _ _ _ hk) ?_,below_setCells hB _ _ _⟩;refine ⟨e1,e2,e4,e3,c2,fz,g1,by rw [g2];exact hsz,fun j hj=>?_,hfz⟩;rw [T.get_ofList,g3];have hj':j<k.len:=hj;by_cases hin:a.off<=j/\j<a.off+l.length
   ·rw [if_pos hin,if_pos (by omega)]
    have e:i.d+j-(i.d+a.off)=j-a.off:=by omega
    rw [e];refine ⟨_,_,gE (by omega),gE (by omega),hl.2 (j-a.off) _ _ (gE (by omega)) (gE (by omega))⟩
   ·rw [if_neg hin,if_neg (by omega)];exact hcell j hj
def ext (m:M ω) (n:Nat) (i:Info):M ω:=fun b=>if b=n then some i else m b
theorem ext_le {m:M ω} {n:Nat} {i:Info} (h:m n=none):Le m (ext m n i):=fun b x hx=>by
 unfold ext;by_cases hb:b=n
 ·subst hb;rw [h] at hx;cases hx
 ·rw [if_neg hb];exact hx
theorem ext_same (m:M ω) (n:Nat) (i:Info):ext m n i n=some i:=by simp [ext]
def Aux.del (X:Aux) (b:Nat):Aux:=⟨fun c=>if c=b then none else X.G c,X.K⟩
def Aux.add (X:Aux) (b:Nat) (o:AObj):Aux:=⟨fun c=>if c=b then some o else X.G c,X.K⟩
theorem SR.ghosts {B:Nat} {X Y:Aux} {m:M ω} {s:AS} {w:World} (h:SR B X m s w) (hG:∀ b o,Y.G b=some o->X.G b=some o) (hK:∀ r o,Y.K r=some o->X.K r=some o):SR B Y m s w :=
 ⟨h.rel,h.inj,h.freshH,h.freshM,fun b o k=>h.gh b o (hG b o k),fun r o k=>h.kp r o (hK r o k),h.lt⟩
theorem ghost_sound {B:Nat} {X:Aux} {m:M ω} {s:AS} {w:World} (h:SR B X m s w) (o:AObj):SR B (X.add s.n o) m ⟨s.n+1,s.h.put s.n o⟩ w:=by
 have hm:=h.freshM s.n (nR _)
 have hg:∀ c p j,(s.h.put s.n o).get c=some p->m c=some j->s.h.get c=some p:=by
  intro c p j hc hj;rw [T.get_put] at hc;by_cases hcb:c=s.n
  ·rw [hcb,hm] at hj;cases hj
  ·rwa [if_neg hcb] at hc
 refine ⟨fun c p j hc hp hj=>h.rel c p j (hg c p j hc hj) hp hj,fun c d p q x y hc hd hp hq hne hx hy=>h.inj c d p q x y (hg c p x hc hx) (hg d q y hd hy) hp hq hne hx hy,?_,?_,?_,h.kp,h.lt⟩
 ·intro c hc;have hc':s.n+1<=c:=hc;show (s.h.put s.n o).get c=none;rw [T.get_put,if_neg (by omega)];exact h.freshH c (by omega)
 ·intro c hc;have hc':s.n+1<=c:=hc;exact h.freshM c (by omega)
 ·intro c p hc;show (s.h.put s.n o).get c=some p/\_;rw [T.get_put];have hc':(if c=s.n then some o else X.G c)=some p:=hc;by_cases hcb:c=s.n
  ·rw [if_pos hcb] at hc' ⊢;exact ⟨hc',by rw [hcb];exact hm⟩
  ·rw [if_neg hcb] at hc' ⊢;exact h.gh c p hc'
theorem real_sound {B:Nat} {X:Aux} {m:M ω} {s:AS} {w w1:World} {b:Nat} {o:AObj} (h:SR B X m s w) (hb:X.G b=some o) (i:Info) (hB:B<=w.heap.size) (hr:i.r=w.heap.size) (hsz:w1.heap.size=w.heap.size+1)
 (hold:∀ k,k<w.heap.size->w1.heap[k]?=w.heap[k]?) (ho:ORel m w1 i o):SR B (X.del b) (ext m b i) s w1/\Le m (ext m b i):=by
 obtain ⟨hg,hm⟩:=h.gh b o hb;have hle:Le m (ext m b i):=ext_le hm
 have hbn:b<s.n:=Nat.lt_of_not_le fun e=>by rw [h.freshH b e] at hg;cases hg
 have key:∀ (d:Nat) (v:Info),ext m b i d=some v->(d=b/\v=i)\/(d≠b/\m d=some v):=by
  intro d v hv;unfold ext at hv;by_cases hd:d=b
  ·rw [if_pos hd] at hv;cases hv;exact .inl ⟨hd,rfl⟩
  ·rw [if_neg hd] at hv;exact .inr ⟨hd,hv⟩
 refine ⟨⟨?_,?_,h.freshH,?_,?_,?_,fun d v hv=>by
  rcases key d v hv with ⟨rfl,rfl⟩ | ⟨_,hv'⟩
  ·omega
  ·have:=h.lt d v hv';omega⟩,hle⟩
 ·intro c p j hc hp hj
  rcases key c j hj with ⟨rfl,rfl⟩ | ⟨hne,hj'⟩
  ·rw [hg] at hc;cases hc;exact ⟨ho.mono hle,by omega,by omega⟩
  ·obtain ⟨q2,q3,q4⟩:=h.rel c p j hc hp hj';exact ⟨(q2.mono hle).other (hold _ q4),q3,by omega⟩
 ·intro c d p q x y hc hd hp hq hne hx hy
  rcases key c x hx with ⟨rfl,rfl⟩ | ⟨hne1,hx'⟩
  ·rcases key d y hy with ⟨rfl,rfl⟩ | ⟨hne2,hy'⟩
   ·exact absurd rfl hne
   ·have:=(h.rel d q y hd hq hy').2.2;omega
  ·have h1:=(h.rel c p x hc hp hx').2.2
   rcases key d y hy with ⟨rfl,rfl⟩ | ⟨hne2,hy'⟩
   ·omega
   ·exact h.inj c d p q x y hc hd hp hq hne hx' hy'
 ·intro c hc;unfold ext;rw [if_neg (by omega)];exact h.freshM c hc
 ·intro c p hc;have hc':(if c=b then none else X.G c)=some p:=hc;by_cases hcb:c=b
  ·rw [if_pos hcb] at hc';cases hc'
  ·rw [if_neg hcb] at hc';obtain ⟨k1,k2⟩:=h.gh c p hc';exact ⟨k1,by unfold ext;rw [if_neg hcb];exact k2⟩
 ·intro r q hr';obtain ⟨k1,k2,k3⟩:=h.kp r q hr';have hlt:r<w.heap.size:=(aS.1 k1).1;refine ⟨by rw [hold r hlt];exact k1,k2,fun d v hv=>?_⟩
  rcases key d v hv with ⟨rfl,rfl⟩ | ⟨_,hv'⟩
  ·omega
  ·exact k3 d v hv'
theorem new_sound {B:Nat} {X:Aux} {m:M ω} {s:AS} {w w1:World} (h:SR B X m s w) (o:AObj) (i:Info) (hB:B<=w.heap.size) (hr:i.r=w.heap.size) (hsz:w1.heap.size=w.heap.size+1)
 (hold:∀ k,k<w.heap.size->w1.heap[k]?=w.heap[k]?) (ho:ORel m w1 i o) :
 SR B X (ext m s.n i) ⟨s.n+1,s.h.put s.n o⟩ w1/\Le m (ext m s.n i):=by
 obtain ⟨h1,h2⟩:=real_sound (ghost_sound h o) (b:=s.n) (o:=o) (by simp [Aux.add]) i hB hr hsz hold ho;refine ⟨h1.ghosts (fun b p hb=>?_) (fun r p hr=>hr),h2⟩
 have hne:b≠s.n:=fun e=>by
  have:=(h.gh b p hb).1;rw [e,h.freshH s.n (nR _)] at this;cases this
 simp [Aux.del,Aux.add,hne,hb]
def NewOK (B:Nat) (m:M ω) (w:World) (o:AObj) (f:Nat->Value) (res:Result Next):Prop :=
 ∃ v' w1 i,res=.ok (.value v') w1/\i.r=w.heap.size/\w1.heap.size=w.heap.size+1/\(∀ k,k<w.heap.size->w1.heap[k]?=w.heap[k]?)/\Below B w w1/\ORel m w1 i o/\∀ (m':M ω) (b:Nat),m' b=some i->VRel m' (f b) v'
theorem blk_new {m:M ω} {w:World} {l l':List Value} (hl:LRel m l l') (e:TypeId) (esz:Nat) :
 ORel m (w.alloc (.cells l'.toArray e)) ⟨w.heap.size,0,l.length,esz,false,l.length⟩ (blkOf l e esz false false):=by
 refine ⟨rfl,rfl,rfl,by simp,l'.toArray,(0,0),heap_alloc_new w _,by simpa using hl.1.symm,fun j hj=>?_,.inl rfl⟩;have hj':j<l.length:=hj;rw [T.get_ofList,if_pos (by simp;omega)];refine ⟨l[j],l'[j]'(by rw [<-hl.1];exact hj'),by simp,by simp [show j<l'.length by rw [<-hl.1];exact hj'],?_⟩;exact hl.2 j _ _ (gE hj') (gE (by rw [<-hl.1];exact hj'))
end Go.Proofs.YtenfkghoolegfaaGreatDoor.Ev
namespace Go.Proofs.YtenfkghoolegfaaGreatDoor.Ev
open Go.RowKit
variable {ω:Nat->Value}
structure CtxOK (ω:Nat->Value) (C:Ctx):Prop where
 fn:∀ g f,C.fn g=some f->C.P.funcs[g]?=some f
 call:∀ g f,C.fn g=some f->f.body.isSome=true->∀ args w,(callFunc g args).run C.P w=.ok (.enter g args) w
 ty:∀ t i,C.ty t=some i->C.P.info? t=some i
 un:∀ t d,C.un t=some d->C.P.underlying t=some d
 zero:∀ t i z,C.ty t=some i->i.zero=some z->tupB z=false->(cellsOf z).all plainV=true/\i.size=(cellsOf z).length
 bin:∀ op t ox oy x y v,C.bin op t x y=some v->∀ (m:M ω) (x' y':Value) (w:World),VRel m x x'->VRel m y y'->∃ v',(do eqGuard op t ox oy x' y';binOp op t x' y':Sem Value).run C.P w=.ok v' w/\VRel m v v'
 len:∀ t k v,C.len t (.chan k)=some v->∀ (m:M ω) (x':Value) (ty:TypeId) (w:World),VRel m (.chan k) x'->∃ v',(Builtin.len_ #[t] ty #[x']).run C.P w=.ok v' w/\VRel m v v'
 cnv:∀ src dst x v,C.cnv src dst x=some v->∀ (m:M ω) (x':Value) (w:World),VRel m x x'->∃ v',(convert src dst x').run C.P w=.ok v' w/\VRel m v v'
 meth:∀ t name v g rv,C.meth t name v=some (g,rv)->∀ (m:M ω) (v':Value),VRel m v v'->∃ rv',VRel m rv rv'/\∀ w,(method (C.P.types.size+Made.depth) t v' name).run C.P w=.ok (g,rv') w
 places:∀ t fs,C.un t=some (.struct fs)->∃ ps,fs.toList.mapM (fun f=>(C.P.info? f.type).map fun i=>(f.offset,i.size))=some ps
def RdV (w:World) (B:Nat) (v:Value):Prop:=v=.slice none 0 0 \/
 ∃ (p:Addr) (n c:Nat) (news:List Value),v=.slice (some p) n c/\n<=1000000/\(0<n->p.block<B)/\news.length=n/\(∀ (j:Nat) (u:Value),news[j]?=some u->w.cell? (p.add j)=some u)/\∀ u∈news,oneV u=true
structure Bs (ω:Nat->Value) (C:Ctx) (B:Nat) (w:World):Prop where
 le:B<=w.heap.size
 gl:∀ g v,C.glob g=some v->g<B/\∃ v',w.cell? ⟨g,0,none⟩=some v'/\∀ m:M ω,VRel m v v'
 rd:∀ k,C.rd k=true->RdV w B (ω k)
 iv:∀ g cs,C.iv g=some cs->g<B/\∃ t fz,w.heap[g]?=some (.cells cs t fz)
theorem Bs.next {C:Ctx} {B:Nat} {w w':World} (h:Bs ω C B w) (hb:Below B w w'):Bs ω C B w' :=
 ⟨nT h.le hb.size,fun g v hv=>⟨(h.gl g v hv).1,by obtain ⟨h1,v',h2,h3⟩:=h.gl g v hv;exact ⟨v',by rw [hb.cell (p:=⟨g,0,none⟩) h1];exact h2,h3⟩⟩,fun k hk=>by
  rcases h.rd k hk with e | ⟨p,n,c,news,h1,h2,h3,h4,h5,h6⟩
  ·exact .inl e
  ·refine .inr ⟨p,n,c,news,h1,h2,h3,h4,fun j u hu=>?_,h6⟩
   have hj:j<n:=by have:=(lS.1 hu).1;omega
   rw [hb.cell (p:=p.add j) (by have:=h3 (by omega);unfold Addr.add;split <;> simpa using this)]
   exact h5 j u hu,fun g cs hv=>by
  obtain ⟨h1,t,fz,h2⟩:=h.iv g cs hv
  exact ⟨h1,t,fz,(hb.block g h1).trans h2⟩⟩
structure TR (m:M ω) (n:Nat) (a:T Value) (act:Act):Prop where
 size:act.tmps.size=n
 rel:∀ t,VRel m ((a.get t).getD undef) (act.tmps.getD t undef)
theorem TR.mono {m m':M ω} (hl:Le m m') {n:Nat} {a:T Value} {act:Act} (h:TR m n a act):TR m' n a act:=⟨h.size,fun t=>(h.rel t).mono hl⟩
def RRel (m:M ω):R->Next->Prop
 | .val v,.value v'=>VRel m v v'
 | .skip,.skip=>True
 | _,_=>False
def OpOK (C:Ctx) (B:Nat) (X:Aux) (m:M ω) (s':AS) (w:World) (r:R) (res:Result Next):Prop :=
 match r with
 | .call g vs=>∃ args',LRel m vs args'.toList/\res=(callFunc g args').run C.P w/\SR B X m s' w
 | .round b vs=>∃ i args',m b=some i/\LRel m vs args'.toList/\res=(Instr.yield i.r args').run C.P w/\SR B X m s' w
 | r=>∃ nx w' m',res=.ok nx w'/\Le m m'/\SR B X m' s' w'/\Below B w w'/\RRel m' r nx
def VOK (B:Nat) (X:Aux) (m:M ω) (s':AS) (w:World) (v:Value) (res:Result Value):Prop :=
 ∃ v' w' m',res=.ok v' w'/\Le m m'/\SR B X m' s' w'/\Below B w w'/\VRel m' v v'
section
variable {C:Ctx} {B:Nat} {X:Aux} {m:M ω} {s s':AS} {w:World} {a:T Value} {act:Act} {n:Nat}
theorem VOK.same {v v':Value} {res:Result Value} (h:SR B X m s w) (hr:res=.ok v' w) (hv:VRel m v v'):VOK B X m s w v res :=
 ⟨v',w,m,hr,Le.refl _,h,bR _ _,hv⟩
theorem VOK.op {v:Value} {t:Sem Value} (h:VOK B X m s' w v (t.run C.P w)):OpOK C B X m s' w (.val v) ((do let x <-t;pure (Next.value x):Sem Next).run C.P w):=by
 obtain ⟨v',w',m',hr,hl,hs,hb,hv⟩:=h;exact ⟨.value v',w',m',by simp [hr],hl,hs,hb,hv⟩
theorem closed_inv {v v':Value} (h:VRel m v v') (hp:closedV v=true):v'=v:=by
 cases h with
 | agg cs cs' hs h =>
  simp only [closedV] at hp
  have:cs'=cs:=by
   apply Array.ext';apply List.ext_getElem?;intro i;by_cases hi:i<cs.size
   ·have h1:=arr_getD cs i hi;have h2:=arr_getD cs' i (by omega);rw [h1,h2];have:=plain_inv (h i hi) (List.all_eq_true.1 hp _ (mG h1));rw [this]
   ·rw [List.getElem?_eq_none (by simp;omega),List.getElem?_eq_none (by simp;omega)]
  rw [this]
 | iface t u u' h=>simp only [closedV] at hp;rw [plain_inv h hp]
 | plain v h=>rfl
 | _=>simp [closedV,plainV] at hp
theorem closed_refl {v:Value} (hp:closedV v=true):VRel m v v:=by
 cases v with
 | agg cs =>
  simp only [closedV] at hp;refine .agg cs cs rfl (fun i hi=>.plain _ (List.all_eq_true.1 hp _ (mG (arr_getD cs i hi))))
 | iface t u=>simp only [closedV] at hp;exact .iface t u u (.plain _ hp)
 | _=>exact .plain _ (by simpa [closedV] using hp)
theorem oS (ht:TR m n a act) {x:Operand} {v:Value} (h:opnd a x=some v):VRel m v (act.eval x):=by
 cases x with
 | tmp t =>
  have hr:=ht.rel t;show VRel m v (act.tmps.getD t undef);have h':orUndef (a.get t)=some v:=h
  cases hg:a.get t with
  | none=>rw [hg] at h' hr;cases h';exact hr
  | some u=>rw [hg] at h' hr;cases h';exact hr
 | const u =>
  have h':opConst u=some v:=h;unfold opConst at h'
  cases hc:closedV u with
  | false=>rw [hc] at h';cases h'
  | true=>rw [hc] at h';cases h';exact closed_refl hc
 | global g=>cases h
 | func f=>cases h;exact .func f #[] #[] #[] #[] rfl rfl (fun i hi=>by simp at hi) (fun i hi=>by simp at hi)
theorem opnds_sound (ht:TR m n a act):∀ {xs:List Operand} {vs:List Value},opnds a xs=some vs->LRel m vs (xs.map act.eval)
 | [],vs,h=>by simp [opnds] at h;subst h;exact LRel.nil m
 | x::xs,vs,h=>by
  simp only [opnds] at h
  cases h1:opnd a x with
  | none=>simp [h1] at h
  | some v =>
   cases h2:opnds a xs with
   | none=>simp [h1,h2] at h
   | some vs' =>
    simp [h1,h2] at h;subst h;exact LRel.cons (oS ht h1) (opnds_sound ht h2)
theorem pureRun_run {P:Program} {α:Type}:∀ (t:Sem α) (x:α),pureRun P t=some x->∀ w,t.run P w=.ok x w:=by
 intro t
 induction t with
 | pure y=>intro x h w;simp [pureRun] at h;subst h;rfl
 | program k ih=>intro x h w;simp only [pureRun] at h;simp only [Sem.run];exact ih P x h w
 | _=>intro x h;simp [pureRun] at h
theorem move_sound (hs:SR B X m s w) (ht:TR m n a act) {x:Operand} {r:R} (h:opMove x C a s=some (r,s')) :
 OpOK C B X m s' w r ((pure (Next.value (act.eval x)):Sem Next).run C.P w):=by
 unfold opMove at h
 cases h1:opnd a x with
 | none=>rw [h1] at h;cases h
 | some v =>
  rw [h1] at h;cases h;exact ⟨_,w,m,rfl,Le.refl _,hs,bR _ _,oS ht h1⟩
theorem pick_sound (hs:SR B X m s w) (ht:TR m n a act) {c x y:Operand} {r:R} (h:opPick c x y C a s=some (r,s')) :
 OpOK C B X m s' w r ((do pure (.value (if <-asBool (act.eval c) then act.eval x else act.eval y)):Sem Next).run C.P w):=by
 unfold opPick at h
 cases h1:opnd a c with
 | none=>simp [h1] at h
 | some u =>
  cases h2:opnd a x with
  | none=>simp [h1,h2] at h
  | some v =>
   cases h3:opnd a y with
   | none=>simp [h1,h2,h3] at h
   | some z =>
    cases u <;> simp [h1,h2,h3] at h
    rename_i b;obtain ⟨rfl,rfl⟩:=h;have hc:=plain_inv (oS ht h1) rfl;refine ⟨.value (if b then act.eval x else act.eval y),w,m,by simp [hc,asBool],Le.refl _,hs,bR _ _,?_⟩;show VRel m (cond b v z) (if b then act.eval x else act.eval y)
    cases b
    ·exact oS ht h3
    ·exact oS ht h2
theorem zeroC_sound (hC:CtxOK ω C) {t:TypeId} {l:List Value} (h:zeroC C t=some l):∃ i z,C.P.info? t=some i/\i.zero=some z/\l=cellsOf z/\l.all plainV=true/\i.size=l.length:=by
 unfold zeroC at h
 cases h1:C.ty t with
 | none=>simp [h1] at h
 | some i =>
  cases h2:i.zero with
  | none=>simp [h1,h2] at h
  | some z =>
   simp only [h1,h2] at h
   cases ht:tupB z with
   | true=>rw [ht] at h;cases h
   | false =>
   rw [ht] at h;simp only [cond_false,Option.some.injEq] at h;subst h;obtain ⟨p,q⟩:=hC.zero t i z h1 h2 ht;exact ⟨i,z,hC.ty t i h1,h2,rfl,p,q⟩
theorem cells_arr (z:Value):z.cells=(cellsOf z).toArray:=by cases z <;> rfl
theorem NewOK.op {o:AObj} {f:Nat->Value} {res:Result Next} (hs:SR B X m s w) (hB:B<=w.heap.size) (h:NewOK B m w o f res):OpOK C B X m ⟨s.n+1,s.h.put s.n o⟩ w (.val (f s.n)) res:=by
 obtain ⟨v',w1,i,hr,h1,h2,h3,h4,h5,h6⟩:=h;obtain ⟨k1,k2⟩:=new_sound hs o i hB h1 h2 h3 h5;exact ⟨.value v',w1,_,hr,k2,k1,h4,h6 _ _ (ext_same _ _ _)⟩
theorem ptr_new {i:Info} (h:i.d=0) (m':M ω) (b:Nat) (hb:m' b=some i):VRel m' (ptrV b) (.pointer (some ⟨i.r,0,none⟩)):=.ptr _ _ ⟨rfl,i,hb,by simp [h]⟩
theorem alloc_new (hC:CtxOK ω C) (hB:B<=w.heap.size) {t:TypeId} {o:AObj} {f:Nat->Value} (h:alAlloc t C a=some (o,f)) :
 NewOK B m w o f ((do let x <-Instr.alloc t true (.tuple #[]);pure (Next.value x):Sem Next).run C.P w):=by
 unfold alAlloc at h
 cases h1:zeroC C t with
 | none=>simp [h1] at h
 | some l =>
  simp only [h1,Option.some.injEq,Prod.mk.injEq] at h;obtain ⟨rfl,rfl⟩:=h;obtain ⟨i,z,hi,hz,rfl,hp,_⟩:=zeroC_sound hC h1;refine ⟨.pointer (some ⟨w.heap.size,0,none⟩),w.alloc (.cells (cellsOf z).toArray t),_,?_,rfl,by simp,fun k hk=>Below.heap_alloc w _ k hk,(bR _ _).alloc hB _,blk_new (LRel.plain (m:=m) hp) t 0,fun m' b hb=>ptr_new rfl m' b hb⟩;simp [Instr.alloc,zeroValue,typeInfo,hi,hz,newVar,newRow,cells_arr]
theorem box_new (ht:TR m n a act) (hB:B<=w.heap.size) {t:TypeId} {x:Operand} {o:AObj} {f:Nat->Value} (h:alBox t x C a=some (o,f)) :
 NewOK B m w o f ((do let x <-Instr.box t (act.eval x);pure (Next.value x):Sem Next).run C.P w):=by
 unfold alBox at h
 cases h1:opnd a x with
 | none=>simp [h1] at h
 | some v =>
  simp only [h1,Option.some.injEq,Prod.mk.injEq] at h;obtain ⟨rfl,rfl⟩:=h;have hl:=cells_rel (oS ht h1);refine ⟨.pointer (some ⟨w.heap.size,0,none⟩),w.alloc (.cells (cellsOf (act.eval x)).toArray t),_,?_,rfl,by simp,fun k hk=>Below.heap_alloc w _ k hk,(bR _ _).alloc hB _,blk_new hl t 0,fun m' b hb=>ptr_new rfl m' b hb⟩;simp [Instr.box,newVar,newRow,cells_arr]
theorem sizeT_sound (hC:CtxOK ω C) {t:TypeId} {k:Nat} (h:sizeT C t=some k):∃ i,C.P.info? t=some i/\i.size=k:=by
 unfold sizeT at h
 cases h1:C.ty t with
 | none=>simp [h1] at h
 | some i=>simp [h1] at h;exact ⟨i,hC.ty t i h1,h⟩
theorem isAgg_sound (hC:CtxOK ω C) {t:TypeId} {b:Bool} (h:isAggT C t=some b):(isAgg t).run C.P w=.ok b w:=by
 unfold isAggT at h
 cases h1:C.un t with
 | none=>simp [h1] at h
 | some d =>
  simp [h1] at h;subst h;have:=hC.un t d h1
  cases d <;> simp [isAgg,run_underlying this,isAggD]
theorem loadX_sound (hC:CtxOK ω C) (hs:SR B X m s w) (ht:TR m n a act) {t:TypeId} {x:Operand} {r:R} (h:loadX t x C a s=some (r,s')) :
 OpOK C B X m s' w r ((do let x <-Instr.loadAt t (act.eval x);pure (Next.value x):Sem Next).run C.P w):=by
 unfold loadX at h
 cases h1:opnd a x with
 | none=>simp [h1] at h
 | some u =>
  rw [h1] at h
  cases u <;> try (simp at h;done)
  rename_i p
  cases p with
  | none=>simp at h
  | some p =>
   obtain ⟨p',hp',hpe⟩:∃ p',ARel m p p'/\act.eval x=.pointer (some p'):=by
    have:=oS ht h1;generalize act.eval x=y at this
    cases this with
    | plain v h=>simp [plainV] at h
    | ptr a a' h=>exact ⟨a',h,rfl⟩
   cases h2:isAggT C t with
   | none=>simp [h2] at h
   | some b =>
    cases b with
    | true =>
     cases h3:sizeT C t with
     | none=>simp [h2,h3] at h
     | some k =>
      cases h4:readN s p k with
      | none=>simp [h2,h3,h4] at h
      | some l =>
       simp [h2,h3,h4] at h;obtain ⟨rfl,rfl⟩:=h;obtain ⟨i,hi,rfl⟩:=sizeT_sound hC h3;obtain ⟨l',hl,hn,hc⟩:=readN_sound hs h4 hp';have hlc:=run_loadCells_list (P:=C.P) w p' l' hc;rw [hn] at hlc;refine VOK.op (VOK.same hs (v':=.agg l'.toArray) ?_ hl.agg);simp [Instr.loadAt,hpe,Instr.sureAddr,loadVar,isAgg_sound hC h2,sizeOf,typeInfo,hi,hlc]
    | false =>
     cases h4:readN s p 1 with
     | none=>simp [h2,h4] at h
     | some l =>
      rw [h2] at h;simp only [h4] at h;obtain ⟨l',hl,hn,hc⟩:=readN_sound hs h4 hp'
      match l,l',hn,hl with
      | [v],[v'],_,hl =>
       simp at h;obtain ⟨rfl,rfl⟩:=h;have hcell:=hc 0 v' rfl
       have he:p'.add 0=p':=by simp [Addr.add]
       rw [he] at hcell;refine VOK.op (VOK.same hs (v':=v') ?_ hl.tail.1);simp [Instr.loadAt,hpe,Instr.sureAddr,loadVar,isAgg_sound hC h2,load,Sem.run,hcell]
theorem load_sound (hC:CtxOK ω C) (hs:SR B X m s w) (ht:TR m n a act) (hB:Bs ω C B w) {t:TypeId} {x:Operand} {r:R} (h:opLoad t x C a s=some (r,s')) :
 OpOK C B X m s' w r ((do let x <-Instr.loadAt t (act.eval x);pure (Next.value x):Sem Next).run C.P w):=by
 unfold opLoad at h
 cases x with
 | global g =>
  have h':loadG t g C s=some (r,s'):=h;unfold loadG at h'
  split at h'
  ·rename_i v hag hg
   cases h'
   obtain ⟨_,v',hc,hv⟩:=hB.gl g v hg;refine VOK.op (VOK.same hs (v':=v') ?_ (hv m));show (Instr.loadAt t (.pointer (some ⟨g,0,none⟩))).run C.P w=_;simp [Instr.loadAt,Instr.sureAddr,loadVar,isAgg_sound hC hag,load,Sem.run,hc]
  ·cases h'
 | tmp k=>exact loadX_sound hC hs ht h
 | const v=>exact loadX_sound hC hs ht h
 | func f=>exact loadX_sound hC hs ht h
theorem store_sound (hC:CtxOK ω C) (hs:SR B X m s w) (ht:TR m n a act) {t:TypeId} {x y:Operand} {r:R} (h:opStore t x y C a s=some (r,s')) :
 OpOK C B X m s' w r ((do Instr.storeAt t (act.eval x) (act.eval y);pure Next.skip:Sem Next).run C.P w):=by
 unfold opStore at h
 cases h1:opnd a x with
 | none=>simp [h1] at h
 | some u =>
  cases h2:opnd a y with
  | none =>
   rw [h1,h2] at h
   cases u <;> first | (simp at h;done) | (rename_i p;cases p <;> simp at h)
  | some v =>
   rw [h1,h2] at h
   cases u <;> try (simp at h;done)
   rename_i p
   cases p with
   | none=>simp at h
   | some p =>
    obtain ⟨p',hp',hpe⟩:∃ p',ARel m p p'/\act.eval x=.pointer (some p'):=by
     have:=oS ht h1;generalize act.eval x=y at this
     cases this with
     | plain v h=>simp [plainV] at h
     | ptr a a' h=>exact ⟨a',h,rfl⟩
    cases h3:sizeT C t with
    | none=>simp [h3] at h
    | some k =>
     cases h4:Nat.beq (cellsOf v).length k with
     | false=>simp [h3,h4] at h
     | true =>
      cases h5:writeL s p (cellsOf v) with
      | none=>simp [h3,h4,h5] at h
      | some s2 =>
       simp [h3,h4,h5] at h;obtain ⟨rfl,rfl⟩:=h;obtain ⟨i,hi,rfl⟩:=sizeT_sound hC h3;have hv:=cells_rel (oS ht h2);obtain ⟨w',hw,hs',hb⟩:=writeL_sound (P:=C.P) hs h5 hp' hv
       have hlen:(act.eval y).cells.size=i.size:=by
        rw [cells_arr];simp;rw [<-hv.1];exact bE h4
       refine ⟨.skip,w',m,?_,Le.refl _,hs',hb,trivial⟩;have hcl:(act.eval y).cells.toList=cellsOf (act.eval y):=cells_list _;simp [Instr.storeAt,hpe,Instr.sureAddr,storeVar,sizeOf,typeInfo,hi,hlen,hcl,hw]
end
end Go.Proofs.YtenfkghoolegfaaGreatDoor.Ev
namespace Go.Proofs.YtenfkghoolegfaaGreatDoor.Ev
open Go.RowKit
variable {ω:Nat->Value}
theorem modK_eq (k:IntKind):(2 ^ k.bits:Int)=(modK k:Int):=by cases k <;> rfl
theorem wrapN_eq (k:IntKind) (n:Nat):wrapN k n=k.wrap n:=by
 unfold wrapN
 cases h:Nat.blt n (topK k) with
 | false =>
  rw [cond_false]
  cases hs:sgnK k with
  | true=>rfl
  | false =>
   rw [cond_false]
   cases k <;> first | (simp [sgnK] at hs;done) | (simp [IntKind.wrap,IntKind.bits,IntKind.signed,modK];rfl)
 | true =>
  rw [cond_true]
  have hlt:n<topK k:=by
   have:=Nat.le_of_ble_eq_true (show Nat.ble (n+1) (topK k)=true from h);omega
  cases k <;> simp [topK] at hlt <;> simp [IntKind.wrap,IntKind.bits,IntKind.signed] <;> omega
theorem sgn_signed (k:IntKind):k.signed=sgnK k:=by cases k <;> rfl
theorem sub_eq (k:IntKind) (a b:Nat):(cond (Nat.ble b a) (wrapN k (a-b)) (cond (sgnK k) (k.wrap (Int.negSucc (b-a-1))) (.ofNat (Nat.mod (Nat.mul (modK k) b+a-b) (modK k)))))=k.wrap ((a:Int)-b):=by
 cases h:Nat.ble b a with
 | true =>
  have:=Nat.le_of_ble_eq_true h;rw [cond_true,wrapN_eq];congr 1;omega
 | false =>
  have hlt:a<b:=by
   rcases Nat.lt_or_ge a b with h1 | h1
   ·exact h1
   ·have:=Nat.ble_eq_true_of_le h1;rw [h] at this;cases this
  rw [cond_false]
  cases hs:sgnK k with
  | true =>
   rw [cond_true];congr 1;rw [Int.negSucc_eq];omega
  | false =>
   rw [cond_false]
   have hm:0<modK k:=by cases k <;> simp [modK]
   have e1:Nat.mod (Nat.mul (modK k) b+a-b) (modK k)=(modK k*b+a-b) % modK k:=rfl;rw [e1];have hge:b<=modK k*b:=Nat.le_mul_of_pos_left b hm
   have e2:(k.wrap ((a:Int)-b))=((a:Int)-b) % (modK k:Int):=by
    unfold IntKind.wrap;rw [sgn_signed,hs,<-modK_eq];simp
   rw [e2];show ((((modK k*b+a-b) % modK k:Nat)):Int)=_;rw [Int.natCast_emod,Int.natCast_sub (by omega)]
   push_cast
   rw [show (modK k:Int)*b+a-b=((a:Int)-b)+modK k*b by omega,Int.add_mul_emod_self_left]
theorem small_of {k:IntKind} {a b:Nat} {v v':Value} (h:smallK k a b (some v)=some v'):a<topK k/\b<topK k/\v=v':=by
 unfold smallK at h
 cases h1:Nat.blt a (topK k) with
 | false=>simp [h1] at h
 | true =>
  cases h2:Nat.blt b (topK k) with
  | false=>simp [h1,h2] at h
  | true =>
   simp [h1,h2] at h;exact ⟨Nat.le_of_ble_eq_true (show Nat.ble (a+1) _=true from h1),Nat.le_of_ble_eq_true (show Nat.ble (b+1) _=true from h2),h⟩
theorem top_le (k:IntKind):topK k<=2 ^ k.bits:=by cases k <;> simp [topK,IntKind.bits]
theorem ofInt_nat (n:Nat) (x:Nat) (h:x<2 ^ n):(BitVec.ofInt n (Int.ofNat x)).toNat=x:=by
 rw [BitVec.toNat_ofInt]
 have:((Int.ofNat x) % (((2 ^ n:Nat)):Int)).toNat=x:=by
  rw [Int.ofNat_eq_natCast];rw [<-Int.natCast_emod,Int.toNat_natCast,Nat.mod_eq_of_lt h]
 simpa using this
theorem top_pow (k:IntKind):∃ p,topK k=2 ^ p:=by cases k <;> first | exact ⟨7,rfl⟩ | exact ⟨15,rfl⟩ | exact ⟨31,rfl⟩ | exact ⟨63,rfl⟩ | exact ⟨8,rfl⟩ | exact ⟨16,rfl⟩ | exact ⟨32,rfl⟩ | exact ⟨64,rfl⟩
theorem wrap_small (k:IntKind) (x:Nat) (h:x<topK k):k.wrap (x:Int)=(x:Int):=by
 rw [<-wrapN_eq];unfold wrapN;have:Nat.blt x (topK k)=true:=Nat.ble_eq_true_of_le h;rw [this];rfl
theorem opF_sound (op:BinOp) (k:IntKind) (a b:Nat) (v:Value) (t:TypeId) (h:opF op k a b=some v):binOp op t (.int k (.ofNat a)) (.int k (.ofNat b))=pure v:=by
 have htop:=top_le k;obtain ⟨p,hp⟩:=top_pow k
 cases op with
 | add =>
  have h':addF k a b=some v:=h;simp only [addF,Option.some.injEq] at h';subst h';simp only [binOp,ne_eq,not_true,if_false,Op.intArith,wrapN_eq];rfl
 | sub =>
  have h':subF k a b=some v:=h;simp only [subF,Option.some.injEq] at h';subst h';simp only [binOp,ne_eq,not_true,if_false,Op.intArith,sub_eq];rfl
 | mul =>
  have h':mulF k a b=some v:=h;simp only [mulF,Option.some.injEq] at h';subst h';simp only [binOp,ne_eq,not_true,if_false,Op.intArith,wrapN_eq];rfl
 | quo =>
  have h':quoF k a b=some v:=h;unfold quoF at h'
  cases hb:Nat.beq b 0 with
  | true=>simp [hb] at h'
  | false =>
   have hne:=Nat.ne_of_beq_eq_false hb;simp only [hb,cond_false,Option.some.injEq] at h';subst h'
   have:¬ ((Int.ofNat b)=0):=by intro e;apply hne;exact Int.ofNat.inj e
   simp only [binOp,ne_eq,not_true,if_false,Op.intDiv,this,wrapN_eq];rfl
 | rem =>
  have h':remF k a b=some v:=h;unfold remF at h'
  cases hb:Nat.beq b 0 with
  | true=>simp [hb] at h'
  | false =>
   have hne:=Nat.ne_of_beq_eq_false hb;simp only [hb,cond_false,Option.some.injEq] at h';subst h'
   have:¬ ((Int.ofNat b)=0):=by intro e;apply hne;exact Int.ofNat.inj e
   simp only [binOp,ne_eq,not_true,if_false,Op.intDiv,this];rfl
 | and =>
  obtain ⟨ha,hb,rfl⟩:=small_of (h:smallK k a b (some (.int k (.ofNat (Nat.land a b))))=some v);simp only [binOp,ne_eq,not_true,if_false,Op.intBits]
  have:(BitVec.ofInt k.bits (Int.ofNat a) &&& BitVec.ofInt k.bits (Int.ofNat b)).toNat=a &&& b:=by
   rw [BitVec.toNat_and,ofInt_nat _ a (by omega),ofInt_nat _ b (by omega)]
  rw [this,wrap_small k _ (Nat.lt_of_le_of_lt Nat.and_le_left ha)];rfl
 | or =>
  obtain ⟨ha,hb,rfl⟩:=small_of (h:smallK k a b (some (.int k (.ofNat (Nat.lor a b))))=some v);simp only [binOp,ne_eq,not_true,if_false,Op.intBits]
  have:(BitVec.ofInt k.bits (Int.ofNat a) ||| BitVec.ofInt k.bits (Int.ofNat b)).toNat=a ||| b:=by
   rw [BitVec.toNat_or,ofInt_nat _ a (by omega),ofInt_nat _ b (by omega)]
  rw [this,wrap_small k _ (by rw [hp] at *;exact Nat.or_lt_two_pow ha hb)];rfl
 | xor =>
  obtain ⟨ha,hb,rfl⟩:=small_of (h:smallK k a b (some (.int k (.ofNat (Nat.xor a b))))=some v);simp only [binOp,ne_eq,not_true,if_false,Op.intBits]
  have:(BitVec.ofInt k.bits (Int.ofNat a) ^^^ BitVec.ofInt k.bits (Int.ofNat b)).toNat=a ^^^ b:=by
   rw [BitVec.toNat_xor,ofInt_nat _ a (by omega),ofInt_nat _ b (by omega)]
  rw [this,wrap_small k _ (by rw [hp] at *;exact Nat.xor_lt_two_pow ha hb)];rfl
 | shl=>cases h
 | shr=>cases h
 | andNot=>cases h
 | eql =>
  have h':eqlF k a b=some v:=h;simp only [eqlF,Option.some.injEq] at h';subst h';simp only [binOp,ne_eq,not_true,if_false,Op.intCmp];congr 2;rw [Bool.eq_iff_iff,beq_iff_eq,Nat.beq_eq];exact ⟨fun e=>Int.ofNat.inj e,fun e=>by rw [e]⟩
 | neq =>
  have h':neqF k a b=some v:=h;simp only [neqF,Option.some.injEq] at h';subst h';simp only [binOp,ne_eq,not_true,if_false,Op.intCmp];congr 2;show (!(Int.ofNat a==Int.ofNat b))=!(Nat.beq a b);congr 1;rw [Bool.eq_iff_iff,beq_iff_eq,Nat.beq_eq];exact ⟨fun e=>Int.ofNat.inj e,fun e=>by rw [e]⟩
 | lss =>
  have h':lssF k a b=some v:=h;simp only [lssF,Option.some.injEq] at h';subst h';simp only [binOp,ne_eq,not_true,if_false,Op.intCmp];congr 2;rw [Bool.eq_iff_iff,decide_eq_true_iff];show (Int.ofNat a<Int.ofNat b)↔Nat.ble (a+1) b=true;rw [Nat.ble_eq,Int.ofNat_eq_natCast,Int.ofNat_eq_natCast];omega
 | leq =>
  have h':leqF k a b=some v:=h;simp only [leqF,Option.some.injEq] at h';subst h';simp only [binOp,ne_eq,not_true,if_false,Op.intCmp];congr 2;rw [Bool.eq_iff_iff,decide_eq_true_iff,Nat.ble_eq,Int.ofNat_eq_natCast,Int.ofNat_eq_natCast];omega
 | gtr =>
  have h':gtrF k a b=some v:=h;simp only [gtrF,Option.some.injEq] at h';subst h';simp only [binOp,ne_eq,not_true,if_false,Op.intCmp];congr 2;rw [Bool.eq_iff_iff,decide_eq_true_iff];show (Int.ofNat a > Int.ofNat b)↔Nat.ble (b+1) a=true;rw [Nat.ble_eq,Int.ofNat_eq_natCast,Int.ofNat_eq_natCast];omega
 | geq =>
  have h':geqF k a b=some v:=h;simp only [geqF,Option.some.injEq] at h';subst h';simp only [binOp,ne_eq,not_true,if_false,Op.intCmp];congr 2;rw [Bool.eq_iff_iff,decide_eq_true_iff,Nat.ble_eq,Int.ofNat_eq_natCast,Int.ofNat_eq_natCast];omega
theorem shF_sound (op:BinOp) (k j:IntKind) (a b:Nat) (v:Value) (t:TypeId) (h:shF op k a b=some v):binOp op t (.int k (.ofNat a)) (.int j (.ofNat b))=pure v:=by
 cases op <;> try (cases h;done)
 ·have h':shlF k a b=some v:=h;simp only [shlF,Option.some.injEq] at h';subst h'
  have hn:¬ (Int.ofNat b<0):=by rw [Int.ofNat_eq_natCast];omega
  simp only [binOp,Op.shift,hn,if_false,wrapN_eq];congr 3
 ·have h':shrF k a b=some v:=h;simp only [shrF,Option.some.injEq] at h';subst h'
  have hn:¬ (Int.ofNat b<0):=by rw [Int.ofNat_eq_natCast];omega
  simp only [binOp,Op.shift,hn,if_false];congr 2;show (Int.ofNat a).fdiv (2 ^ (min (Int.ofNat b).toNat k.bits))=((a / 2 ^ (Nat.min b k.bits):Nat):Int)
  have e:(2 ^ (min (Int.ofNat b).toNat k.bits):Int)=((2 ^ (Nat.min b k.bits):Nat):Int):=by push_cast;rfl
  rw [e,Int.ofNat_eq_natCast,Int.fdiv_eq_ediv_of_nonneg _ (Int.natCast_nonneg _),Int.natCast_ediv]
section
variable {C:Ctx} {B:Nat} {X:Aux} {m:M ω} {s s':AS} {w:World} {a:T Value} {act:Act} {n:Nat}
theorem eqGuard_int (P:Program) (op:BinOp) (t:TypeId) (x y:Operand) (k j:IntKind) (p q:Int):(eqGuard op t x y (.int k p) (.int j q)).run P w=.ok () w:=by
 unfold eqGuard
 cases op <;> rfl
theorem nilptr_inv {v:Value} (h:VRel m (.pointer none) v):v=.pointer none:=plain_inv h rfl
theorem nilsl_inv {v:Value} (h:VRel m (.slice none 0 0) v):v=.slice none 0 0:=plain_inv h rfl
theorem nilmap_inv {v:Value} (h:VRel m (.map none) v):v=.map none:=plain_inv h rfl
theorem nilif_inv {v:Value} (h:VRel m .nilIface v):v=.nilIface:=plain_inv h rfl
theorem nilfn_inv {v:Value} (h:VRel m .nilFunc v):v=.nilFunc:=plain_inv h rfl
theorem ptr_inv {p:Addr} {v:Value} (h:VRel m (.pointer (some p)) v):∃ p',ARel m p p'/\v=.pointer (some p'):=by
 cases h with
 | plain v h=>simp [plainV] at h
 | ptr a a' h=>exact ⟨a',h,rfl⟩
theorem slice_inv {p:Addr} {k c:Nat} {v:Value} (h:VRel m (.slice (some p) k c) v) :
 ∃ p' c',v=.slice (some p') k c'/\((ARel m p p'/\CRel m p c c'/\k<=c)\/(k=0/\c=0/\c'=0)):=by
 cases h with
 | plain v h=>simp [plainV] at h
 | slice a a' n c c' h hc hn=>exact ⟨a',c',rfl,.inl ⟨h,hc,hn⟩⟩
 | slice0 a a' h=>exact ⟨a',0,rfl,.inr ⟨rfl,rfl,rfl⟩⟩
theorem slice_map {p:Addr} {k c:Nat} {v:Value} (h:VRel m (.slice (some p) k c) v):∃ i,m p.block=some i:=by
 cases h with
 | plain v h=>simp [plainV] at h
 | slice a a' n c c' h hc hn=>obtain ⟨_,i,hi,_⟩:=h;exact ⟨i,hi⟩
 | slice0 a a' h=>exact h
theorem map_inv {b:Nat} {v:Value} (h:VRel m (.map (some b)) v):∃ i,m b=some i/\v=.map (some i.r):=by
 cases h with
 | plain v h=>simp [plainV] at h
 | map b i h=>exact ⟨i,h,rfl⟩
theorem iface_inv {t:TypeId} {u v:Value} (h:VRel m (.iface t u) v):∃ u',VRel m u u'/\v=.iface t u':=by
 cases h with
 | plain v h=>simp [plainV] at h
 | iface t v v' h=>exact ⟨v',h,rfl⟩
theorem int_inv {k:IntKind} {p:Int} {v:Value} (h:VRel m (.int k p) v):v=.int k p:=plain_inv h rfl
theorem str_inv {b:ByteArray} {v:Value} (h:VRel m (.string b) v):v=.string b:=plain_inv h rfl
theorem bool_inv {b:Bool} {v:Value} (h:VRel m (.bool b) v):v=.bool b:=plain_inv h rfl
def EqOK (P:Program) (w:World) (t:TypeId) (x' y':Value) (b:Bool):Prop :=
 (Op.equal t x' y').run P w=.ok b w/\(∀ (op:BinOp) (ox oy:Operand),(eqGuard op t ox oy x' y').run P w=.ok () w) /\
  binOp .eql t x' y'=(do pure (.bool (<-Op.equal t x' y')))/\binOp .neq t x' y'=(do pure (.bool (!(<-Op.equal t x' y'))))
theorem ARel.fn {a b a' b':Addr} (ha:ARel m a a') (hb:ARel m b b') (h:(Nat.beq a.block b.block && Nat.beq a.off b.off)=true):a'=b':=by
 rw [Bool.and_eq_true] at h;obtain ⟨_,i,hi,rfl⟩:=ha;obtain ⟨_,j,hj,rfl⟩:=hb;rw [bE h.1,hj] at hi
 cases hi
 rw [bE h.2]
theorem equal_succ (t:TypeId) (x y:Value):Op.equal t x y=Op.equalIn (9999+1) t x y:=rfl
theorem eqV_sound (hC:CtxOK ω C) {t:TypeId} {x y x' y':Value} {b:Bool} (hx:VRel m x x') (hy:VRel m y y') (h:eqV C t x y=some b):EqOK C.P w t x' y' b:=by
 unfold eqV at h
 cases hu:C.un t with
 | none=>simp [hu] at h
 | some d =>
  have hd:=hC.un t d hu;have hun:(underlying t).run C.P w=.ok d w:=run_underlying hd w;rw [hu] at h
  cases d <;> try (simp at h;done)
  ·simp only at h
   split at h
   ·cases h;obtain rfl:=nilptr_inv hx;obtain ⟨p',_,rfl⟩:=ptr_inv hy
    exact ⟨by rw [equal_succ,Op.equalIn];simp only [Sem.run_bind,hun,Result.andThen_ok];rfl,fun op _ _=>by cases op <;> rfl,rfl,rfl⟩
   ·cases h;obtain rfl:=nilptr_inv hy;obtain ⟨p',_,rfl⟩:=ptr_inv hx
    exact ⟨by rw [equal_succ,Op.equalIn];simp only [Sem.run_bind,hun,Result.andThen_ok];rfl,fun op _ _=>by cases op <;> rfl,rfl,rfl⟩
   ·rename_i ap bp
    cases hab:(Nat.beq ap.block bp.block && Nat.beq ap.off bp.off) with
    | false=>rw [hab] at h;cases h
    | true =>
     rw [hab] at h;simp only [cond_true] at h
     split at h
     ·rename_i sz hsz
      cases h
      obtain ⟨ti,hti,_⟩:=sizeT_sound hC hsz;obtain ⟨p',hp,rfl⟩:=ptr_inv hx;obtain ⟨q',hq,rfl⟩:=ptr_inv hy;obtain rfl:=ARel.fn hp hq hab;refine ⟨?_,fun op _ _=>by cases op <;> rfl,rfl,rfl⟩;rw [equal_succ,Op.equalIn];simp only [Sem.run_bind,hun,Result.andThen_ok];simp [sizeOf,typeInfo,hti,sameAddr]
     ·cases h
   ·cases h
  ·simp only at h
   split at h
   ·cases h;obtain rfl:=nilsl_inv hx;obtain ⟨p',c',rfl,_⟩:=slice_inv hy
    exact ⟨by rw [equal_succ,Op.equalIn];simp only [Sem.run_bind,hun,Result.andThen_ok];rfl,fun op _ _=>by cases op <;> rfl,rfl,rfl⟩
   ·cases h;obtain rfl:=nilsl_inv hy;obtain ⟨p',c',rfl,_⟩:=slice_inv hx
    exact ⟨by rw [equal_succ,Op.equalIn];simp only [Sem.run_bind,hun,Result.andThen_ok];rfl,fun op _ _=>by cases op <;> rfl,rfl,rfl⟩
   ·cases h
  ·simp only at h
   split at h
   ·cases h;obtain rfl:=nilmap_inv hx;obtain ⟨i,_,rfl⟩:=map_inv hy
    exact ⟨by rw [equal_succ,Op.equalIn];simp only [Sem.run_bind,hun,Result.andThen_ok];rfl,fun op _ _=>by cases op <;> rfl,rfl,rfl⟩
   ·cases h;obtain rfl:=nilmap_inv hy;obtain ⟨i,_,rfl⟩:=map_inv hx
    exact ⟨by rw [equal_succ,Op.equalIn];simp only [Sem.run_bind,hun,Result.andThen_ok];rfl,fun op _ _=>by cases op <;> rfl,rfl,rfl⟩
   ·cases h
  ·simp only at h
   split at h
   ·cases h;obtain rfl:=nilfn_inv hx
    cases hy with
    | plain v h=>simp [plainV] at h
    | func f fs fs' cs cs' h1 h2 h k=>exact ⟨by rw [equal_succ,Op.equalIn];simp only [Sem.run_bind,hun,Result.andThen_ok];rfl,fun op _ _=>by cases op <;> rfl,rfl,rfl⟩
    | yield b i h=>exact ⟨by rw [equal_succ,Op.equalIn];simp only [Sem.run_bind,hun,Result.andThen_ok];rfl,fun op _ _=>by cases op <;> rfl,rfl,rfl⟩
   ·cases h;obtain rfl:=nilfn_inv hy
    cases hx with
    | plain v h=>simp [plainV] at h
    | func f fs fs' cs cs' h1 h2 h k=>exact ⟨by rw [equal_succ,Op.equalIn];simp only [Sem.run_bind,hun,Result.andThen_ok];rfl,fun op _ _=>by cases op <;> rfl,rfl,rfl⟩
    | yield b i h=>exact ⟨by rw [equal_succ,Op.equalIn];simp only [Sem.run_bind,hun,Result.andThen_ok];rfl,fun op _ _=>by cases op <;> rfl,rfl,rfl⟩
   ·cases h
  ·simp only at h
   split at h
   ·cases h;obtain rfl:=nilif_inv hx;obtain ⟨u',_,rfl⟩:=iface_inv hy
    exact ⟨by rw [equal_succ,Op.equalIn];simp only [Sem.run_bind,hun,Result.andThen_ok];rfl,fun op _ _=>by cases op <;> rfl,rfl,rfl⟩
   ·cases h;obtain rfl:=nilif_inv hy;obtain ⟨u',_,rfl⟩:=iface_inv hx
    exact ⟨by rw [equal_succ,Op.equalIn];simp only [Sem.run_bind,hun,Result.andThen_ok];rfl,fun op _ _=>by cases op <;> rfl,rfl,rfl⟩
   ·rename_i tp vp tq vq;obtain ⟨u',_,rfl⟩:=iface_inv hx;obtain ⟨z',_,rfl⟩:=iface_inv hy
    cases hpq:Nat.beq tp tq with
    | true=>rw [hpq] at h;cases h
    | false =>
     rw [hpq] at h;cases h;have hne:tp≠tq:=Nat.ne_of_beq_eq_false hpq;exact ⟨by rw [equal_succ,Op.equalIn];simp only [Sem.run_bind,hun,Result.andThen_ok];rw [if_pos hne];rfl,fun op _ _=>by cases op <;> rfl,rfl,rfl⟩
   ·cases h
theorem genBin_sound (hC:CtxOK ω C) {op:BinOp} {t:TypeId} {ox oy:Operand} {x y x' y' v:Value} (hx:VRel m x x') (hy:VRel m y y') (h:genBin C op t ox oy x y=some v) :
 ∃ v',(do eqGuard op t ox oy x' y';binOp op t x' y':Sem Value).run C.P w=.ok v' w/\VRel m v v':=by
 have heq:∀ {v},eqBin2 C op t x y=some v->∃ v',(do eqGuard op t ox oy x' y';binOp op t x' y':Sem Value).run C.P w=.ok v' w/\VRel m v v':=by
  intro v h;unfold eqBin2 at h
  cases hb:eqBin C op t x y with
  | none =>
   rw [hb] at h;exact hC.bin op t ox oy x y v h m x' y' w hx hy
  | some u =>
  rw [hb] at h
  cases h
  have h:=hb;unfold eqBin at h
  cases he:eqV C t x y with
  | none=>simp [he] at h
  | some b =>
   obtain ⟨e1,e2,e3,e4⟩:=eqV_sound (w:=w) hC hx hy he;rw [he] at h
   cases op <;> try (cases h;done)
   ·cases h;exact ⟨_,by simp [e2,e3,e1],.plain _ rfl⟩
   ·cases h;exact ⟨_,by simp [e2,e4,e1],.plain _ rfl⟩
 unfold genBin at h
 cases h1:closedV x with
 | false=>rw [h1] at h;exact heq h
 | true =>
  cases h2:closedV y with
  | false=>rw [h1,h2] at h;exact heq h
  | true =>
   rw [h1,h2] at h;simp only [cond_true] at h;rw [closed_inv hx h1,closed_inv hy h2];unfold slowBin at h
   cases h3:pureRun C.P (do eqGuard op t ox oy x y;binOp op t x y) with
   | none=>simp [h3] at h
   | some u =>
    cases h4:plainV u with
    | false=>simp [h3,h4] at h
    | true =>
     simp [h3,h4] at h;subst h;exact ⟨_,pureRun_run _ _ h3 w,.plain _ h4⟩
theorem opF_plain {op:BinOp} {k:IntKind} {p q:Nat} {v:Value} (h:opF op k p q=some v):plainV v=true:=by
 cases op <;> first
  | (cases h;done)
  | (cases h;rfl)
  | (obtain ⟨_,_,rfl⟩:=small_of h;rfl)
  | (
   have h':quoF k p q=some v:=h;unfold quoF at h'
   cases hb:Nat.beq q 0 <;> simp [hb] at h'
   subst h';rfl)
  | (
   have h':remF k p q=some v:=h;unfold remF at h'
   cases hb:Nat.beq q 0 <;> simp [hb] at h'
   subst h';rfl)
theorem binV_sound (hC:CtxOK ω C) {op:BinOp} {t:TypeId} {ox oy:Operand} {x y x' y' v:Value} (hx:VRel m x x') (hy:VRel m y y') (h:binV C op t ox oy x y=some v) :
 ∃ v',(do eqGuard op t ox oy x' y';binOp op t x' y':Sem Value).run C.P w=.ok v' w/\VRel m v v':=by
 unfold binV at h
 split at h
 ·rename_i k p;unfold intBin at h
  split at h
  ·rename_i j q;obtain rfl:=int_inv hx;obtain rfl:=int_inv hy
   cases hsh:isShift op with
   | true =>
    simp only [hsh,cond_true] at h
    have hp:plainV v=true:=by cases op <;> first | (cases h;done) | (cases h;rfl)
    exact ⟨v,by simp only [Sem.run_bind,eqGuard_int,Result.andThen_ok,shF_sound op k j p q v t h];rfl,.plain _ hp⟩
   | false =>
    simp only [hsh,cond_false] at h
    cases hk:kindEq k j with
    | false=>simp [hk] at h
    | true =>
     simp only [hk,cond_true] at h;have hkj:k=j:=of_decide_eq_true hk;subst hkj
     cases ho:opF op k p q with
     | some u =>
      simp [ho] at h;subst h;exact ⟨u,by simp only [Sem.run_bind,eqGuard_int,Result.andThen_ok,opF_sound op k p q u t ho];rfl,.plain _ (opF_plain ho)⟩
     | none =>
      simp [ho] at h;exact genBin_sound hC hx hy h
  ·exact genBin_sound hC hx hy h
 ·exact genBin_sound hC hx hy h
theorem bin_sound (hC:CtxOK ω C) (hs:SR B X m s w) (ht:TR m n a act) {op:BinOp} {t:TypeId} {x y:Operand} {r:R} (h:opBinOp op t x y C a s=some (r,s')) :
 OpOK C B X m s' w r ((do let z <-(do eqGuard op t x y (act.eval x) (act.eval y);binOp op t (act.eval x) (act.eval y):Sem Value);pure (Next.value z):Sem Next).run C.P w):=by
 unfold opBinOp at h
 cases h1:opnd a x with
 | none=>simp [h1] at h
 | some u =>
  cases h2:opnd a y with
  | none=>simp [h1,h2] at h
  | some v =>
   cases h3:binV C op t x y u v with
   | none=>simp [h1,h2,h3] at h
   | some z =>
    simp [h1,h2,h3] at h;obtain ⟨rfl,rfl⟩:=h;obtain ⟨v',hr,hv⟩:=binV_sound (w:=w) hC (oS ht h1) (oS ht h2) h3;exact VOK.op (VOK.same hs hr hv)
end
end Go.Proofs.YtenfkghoolegfaaGreatDoor.Ev
namespace Go.Proofs.YtenfkghoolegfaaGreatDoor.Ev
open Go.RowKit
variable {ω:Nat->Value}
section
variable {C:Ctx} {B:Nat} {X:Aux} {m:M ω} {s s':AS} {w:World} {a:T Value} {act:Act} {n:Nat}
theorem nilCheck_sound (hs:SR B X m s w) (ht:TR m n a act) (o:Oper) {x:Operand} (ho:o.op=.nilCheck x) {r:R} (h:opNilCheck x C a s=some (r,s')) :
 OpOK C B X m s' w r ((execOp act.eval o).run C.P w):=by
 unfold opNilCheck at h
 cases h1:opnd a x with
 | none=>simp [h1] at h
 | some u =>
  have hu:=oS ht h1;rw [h1] at h
  have fin:∀ y,act.eval x=y->(∀ f i c,y≠.func (.method f) i c)->y≠.pointer none->y≠.nilIface->y≠.nilFunc->VRel m u y->some (R.val u,s)=some (r,s')->OpOK C B X m s' w r ((execOp act.eval o).run C.P w):=by
   intro y hy h1 h2 h3 h4 hv he
   cases he
   refine ⟨.value y,w,m,?_,Le.refl _,hs,bR _ _,hv⟩;unfold execOp;simp only [ho,hy]
   first | rfl | (split <;> first | rfl | (simp_all;done))
  cases u <;> try (simp at h;done)
  ·rename_i p
   cases p with
   | none=>simp at h
   | some p=>obtain ⟨p',hp,e⟩:=ptr_inv hu;exact fin _ e (by simp) (by simp) (by simp) (by simp) (e ▸ hu) h
  ·rename_i p k c;generalize hy:act.eval x=y at hu
   cases hu with
   | plain v hp=>exact fin _ hy (by simp) (by simp) (by simp) (by simp) (.plain _ hp) h
   | slice b b' n c c' g1 g2 g3=>exact fin _ hy (by simp) (by simp) (by simp) (by simp) (.slice _ _ _ _ _ g1 g2 g3) h
   | slice0 b b' hb0=>exact fin _ hy (by simp) (by simp) (by simp) (by simp) (.slice0 _ _ hb0) h
  ·rename_i p;generalize hy:act.eval x=y at hu
   cases hu with
   | plain v hp=>exact fin _ hy (by simp) (by simp) (by simp) (by simp) (.plain _ hp) h
   | map b i hm=>exact fin _ hy (by simp) (by simp) (by simp) (by simp) (.map b i hm) h
  ·rename_i fn f c;generalize hy:act.eval x=y at hu
   cases hu with
   | plain v hp=>simp [plainV] at hp
   | func f fs fs' cs cs' e1 e2 e3 e4=>exact fin _ hy (by simp) (by simp) (by simp) (by simp) (.func _ _ _ _ _ e1 e2 e3 e4) h
   | yield b i hm=>simp at h
  ·obtain ⟨u',hp,e⟩:=iface_inv hu;exact fin _ e (by simp) (by simp) (by simp) (by simp) (e ▸ hu) h
theorem unOp_sound (hs:SR B X m s w) (ht:TR m n a act) {op:UnOp} {x:Operand} {r:R} (h:opUnOp op x C a s=some (r,s')) :
 OpOK C B X m s' w r ((do let z <-Op.unary op (act.eval x);pure (Next.value z):Sem Next).run C.P w):=by
 unfold opUnOp at h
 cases h1:opnd a x with
 | none=>simp [h1] at h
 | some u =>
  cases h2:plainV u with
  | false=>simp [h1,h2] at h
  | true =>
   cases h3:pureRun C.P (Op.unary op u) with
   | none=>simp [h1,h2,h3] at h
   | some z =>
    cases h4:plainV z with
    | false=>simp [h1,h2,h3,h4] at h
    | true =>
     simp [h1,h2,h3,h4] at h;obtain ⟨rfl,rfl⟩:=h;rw [plain_inv (oS ht h1) h2];exact VOK.op (VOK.same hs (pureRun_run _ _ h3 w) (.plain _ h4))
theorem makeInterface_sound (hC:CtxOK ω C) (hs:SR B X m s w) (ht:TR m n a act) {t:TypeId} {x:Operand} {r:R} (h:opMakeInterface t x C a s=some (r,s')) :
 OpOK C B X m s' w r ((do let z <-Instr.makeInterface t (act.eval x);pure (Next.value z):Sem Next).run C.P w):=by
 unfold opMakeInterface at h
 cases h1:opnd a x with
 | none=>simp [h1] at h
 | some u =>
  cases h2:C.un t with
  | none=>simp [h1,h2] at h
  | some d =>
   have hd:=hC.un t d h2;refine (fun (key:some (R.val (.iface t u),s)=some (r,s')/\(Instr.makeInterface t (act.eval x)).run C.P w=.ok (.iface t (act.eval x)) w)=>?_) ?_
   ·obtain ⟨he,hr⟩:=key
    cases he
    exact VOK.op (VOK.same hs hr (.iface t _ _ (oS ht h1)))
   ·cases d <;> first | (simp [h1,h2] at h;done) | exact ⟨by simpa [h1,h2] using h,by simp [Instr.makeInterface,run_underlying hd]⟩
theorem makeFunc_sound (hs:SR B X m s w) (ht:TR m n a act) {f:FuncId} {fs cs:Array Operand} {r:R} (h:opMakeFunc f fs cs C a s=some (r,s')) :
 OpOK C B X m s' w r ((do let z <-Instr.makeFunc (.func f) (fs.map act.eval) (cs.map act.eval);pure (Next.value z):Sem Next).run C.P w):=by
 unfold opMakeFunc at h
 cases h1:opnds a fs.toList with
 | none=>simp [h1] at h
 | some l =>
  cases h2:opnds a cs.toList with
  | none=>simp [h1,h2] at h
  | some k =>
   simp [h1,h2] at h;obtain ⟨rfl,rfl⟩:=h;have g1:=opnds_sound ht h1;have g2:=opnds_sound ht h2
   have e1:fs.map act.eval=(fs.toList.map act.eval).toArray:=by apply Array.ext';simp
   have e2:cs.map act.eval=(cs.toList.map act.eval).toArray:=by apply Array.ext';simp
   rw [e1,e2];exact VOK.op (VOK.same hs rfl (.func f _ _ _ _ (by simpa using g1.1) (by simpa using g2.1) g1.arr g2.arr))
theorem makeMap_new (hB:B<=w.heap.size) {t:TypeId} {o:AObj} {f:Nat->Value} (h:alMakeMap C a=some (o,f)) :
 NewOK B m w o f ((do let z <-Instr.makeMap t none;pure (Next.value z):Sem Next).run C.P w):=by
 unfold alMakeMap at h
 cases h
 exact ⟨.map (some w.heap.size),w.alloc (.map #[] 0),⟨w.heap.size,0,0,0,false,0⟩,by simp [Instr.makeMap],rfl,by simp,fun k hk=>Below.heap_alloc w _ k hk,(bR _ _).alloc hB _,
  ⟨[],heap_alloc_new w _,rfl,fun k e e' h=>by simp at h⟩,fun m' b hb=>.map b _ hb⟩
theorem extract_sound (hs:SR B X m s w) (ht:TR m n a act) {x:Operand} {i:Nat} {r:R} (h:opExtract x i C a s=some (r,s')) :
 OpOK C B X m s' w r ((do let z <-Instr.extract (act.eval x) i;pure (Next.value z):Sem Next).run C.P w):=by
 unfold opExtract at h
 cases h1:opnd a x with
 | none=>simp [h1] at h
 | some u =>
  have hu:=oS ht h1;rw [h1] at h
  cases u <;> try (simp at h;done)
  rename_i vs;generalize hy:act.eval x=y at hu
  cases hu with
  | plain v hp=>simp [plainV] at hp
  | tuple cs cs' hsz hrel =>
   cases h2:vs.toList[i]? with
   | none=>simp [h2] at h
   | some v =>
    simp only [h2,Option.some.injEq,Prod.mk.injEq] at h;obtain ⟨rfl,rfl⟩:=h
    have hi:i<vs.size:=by have:=(lS.1 h2).1;simpa using this
    have e1:=arr_getD vs i hi;rw [h2] at e1;cases e1
    have e2:cs'[i]?=some (cs'.getD i undef):=by rw [<-Array.getElem?_toList];exact arr_getD cs' i (by omega)
    exact VOK.op (VOK.same hs (v':=cs'.getD i undef) (by simp only [Instr.extract,e2];rfl) (hrel i hi))
theorem addr_add {p p':Addr} {k:Nat} (h:ARel m p p'):ARel m ⟨p.block,p.off+k,p.spot⟩ (p'.add k):=by
 obtain ⟨h1,i,h2,rfl⟩:=h;refine ⟨h1,i,h2,?_⟩;rw [add_lit];simp;omega
theorem fieldAddr_sound (hC:CtxOK ω C) (hs:SR B X m s w) (ht:TR m n a act) {t:TypeId} {x:Operand} {f:Nat} {r:R} (h:opFieldAddr t x f C a s=some (r,s')) :
 OpOK C B X m s' w r ((do let z <-Instr.fieldAt t (act.eval x) f;pure (Next.value z):Sem Next).run C.P w):=by
 unfold opFieldAddr at h
 split at h
 ·rename_i fs p hu hx;obtain ⟨p',hp,he⟩:=ptr_inv (oS ht hx);have hun:=hC.un t _ hu
  split at h
  ·rename_i fl hf
   split at h
   ·cases h
   ·rename_i k hne hk
    cases h
    obtain ⟨i,hi,rfl⟩:=sizeT_sound hC hk
    have hf':fs[f]?=some fl:=by unfold fieldAt at hf;simpa using hf
    have hz:¬ i.size=0:=hne;exact VOK.op (VOK.same hs (v':=.pointer (some (p'.add fl.offset))) (by simp [Instr.fieldAt,run_underlying hun,hf',he,Instr.sureAddr,fieldPlace,sizeOf,typeInfo,hi,hz]) (.ptr _ _ (addr_add hp)))
   ·cases h
  ·cases h
 ·cases h
theorem indexAddr_sound (hC:CtxOK ω C) (hs:SR B X m s w) (ht:TR m n a act) {t:TypeId} {x i:Operand} {r:R} (h:opIndexAddr t x i C a s=some (r,s')) :
 OpOK C B X m s' w r ((do let z <-Instr.indexAt t (act.eval x) (act.eval i);pure (Next.value z):Sem Next).run C.P w):=by
 unfold opIndexAddr at h
 split at h
 ·rename_i e p k c kk q hu hx hi;obtain ⟨p',c',he,hor⟩:=slice_inv (oS ht hx);have hi':=int_inv (oS ht hi);have hun:=hC.un t _ hu
  split at h
  ·rename_i sz hz
   split at h
   ·rename_i hb
    cases h
    obtain ⟨ti,hti,rfl⟩:=sizeT_sound hC hz
    rcases hor with ⟨hp,_,_⟩ | ⟨rfl,_,_⟩
    ·exact VOK.op (VOK.same hs (v':=.pointer (some (p'.add (q.toNat*ti.size)))) (by simp [Instr.indexAt,run_underlying hun,he,hi',asIntOf,sizeOf,typeInfo,hti,hb.1,hb.2]) (.ptr _ _ (addr_add hp)))
    ·omega
   ·cases h
  ·cases h
 ·rename_i k e p kk q hu hx hi;obtain ⟨p',hp,he⟩:=ptr_inv (oS ht hx);have hi':=int_inv (oS ht hi);have hun:=hC.un t _ hu
  split at h
  ·rename_i sz hz
   split at h
   ·rename_i hb
    cases h
    obtain ⟨ti,hti,rfl⟩:=sizeT_sound hC hz;exact VOK.op (VOK.same hs (v':=.pointer (some (p'.add (q.toNat*ti.size)))) (by simp [Instr.indexAt,run_underlying hun,he,hi',asIntOf,Instr.sureAddr,sizeOf,typeInfo,hti,hb.1,hb.2]) (.ptr _ _ (addr_add hp)))
   ·cases h
  ·cases h
 ·cases h
end
end Go.Proofs.YtenfkghoolegfaaGreatDoor.Ev
