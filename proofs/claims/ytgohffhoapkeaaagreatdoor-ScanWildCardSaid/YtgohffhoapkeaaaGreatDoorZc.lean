/- A part of the proof of ScanWild. No condition of its own. -/
import Derived.Test.YtgohffhoapkeaaaGreatDoorVz
import Derived.Test.YtgohffhoapkeaaaGreatDoorZb
import Derived.Laws.EntriesVeiled
set_option maxHeartbeats 4000000
set_option maxRecDepth 1000000
set_option linter.unusedVariables false
namespace Go.Proofs.YtgohffhoapkeaaaGreatDoor
section
open Go.RowKit
def iO (leaf:Bool) (c:PC):Bool:=if leaf then gx c else dq c
def cB (leaf:Bool) (c:PC):List UInt8:=if leaf then gn c else fI c
def cY (leaf:Bool):Nat:=if leaf then 120 else 122
def dW (leaf:Bool):Nat:=if leaf then 121 else 123
def aO (leaf:Bool):Array Value:=#[.func (.func (cY leaf)) #[] #[],.func (.func (dW leaf)) #[] #[]]
theorem dP {B:Nat} (leaf:Bool) (x:CX) (w:World) (hB:B<=w.heap.size) (hk:Reads w B 1 x.ka x.c.key.length (bl x.c.key)) (hv:Reads w B 1 x.va x.c.val.length (bl x.c.val)) (hf:x.c.fit) :
 Calls Tryz.prog (cY leaf) #[x.val] w fun e w'=>∃ A n c,e=.returned (.tuple #[.slice A n c,.int .i64 (if iO leaf x.c=true then 0 else 70)])/\(iO leaf x.c=true->n=(cB leaf x.c).length/\w'.ownsRow w.heap.size 5 1 (.slice A n c) (cB leaf x.c).length (bl (cB leaf x.c)))/\Below w.heap.size w w':=by
 have fin:∀ (b:List UInt8) (f:Nat),cB leaf x.c=b->iO leaf x.c=true->(Calls Tryz.prog f #[x.val] w fun e w'=>∃ v,e=.returned (.tuple #[v,.int .i64 0])/\w'.ownsRow w.heap.size 5 1 v b.length (bl b)/\Below w.heap.size w w') ->
  Calls Tryz.prog f #[x.val] w fun e w'=>∃ A n c,e=.returned (.tuple #[.slice A n c,.int .i64 (if iO leaf x.c=true then 0 else 70)])/\(iO leaf x.c=true->n=(cB leaf x.c).length/\w'.ownsRow w.heap.size 5 1 (.slice A n c) (cB leaf x.c).length (bl (cB leaf x.c)))/\Below w.heap.size w w':=by
  rintro b f rfl hok h;refine h.mono ?_;rintro e w' ⟨v,rfl,ho,hb⟩;obtain ⟨A,c,rfl⟩:=bw ho;rw [if_pos hok];exact ⟨A,_,c,rfl,fun _=>⟨rfl,ho⟩,hb⟩
 have nof:∀ (f:Nat),iO leaf x.c=false->(Calls Tryz.prog f #[x.val] w fun e w'=>e=.returned (.tuple #[.slice none 0 0,.int .i64 70])/\Below w.heap.size w w') ->
  Calls Tryz.prog f #[x.val] w fun e w'=>∃ A n c,e=.returned (.tuple #[.slice A n c,.int .i64 (if iO leaf x.c=true then 0 else 70)])/\(iO leaf x.c=true->n=(cB leaf x.c).length/\w'.ownsRow w.heap.size 5 1 (.slice A n c) (cB leaf x.c).length (bl (cB leaf x.c)))/\Below w.heap.size w w':=by
  intro f hno h;refine h.mono ?_;rintro e w' ⟨rfl,hb⟩;rw [hno];exact ⟨none,0,0,rfl,fun hh=>(by cases hh),hb⟩
 cases leaf with
 | true =>
  cases hc:iY x.c.key.length x.c.size x.c.val.length x.c.over x.c.kid with
  | false=>exact nof 120 hc (xh x.ka _ x.kc x.c.size x.va _ x.vc x.c.over x.c.kid w hc)
  | true =>
   by_cases hs:x.c.size<=40
   ·exact fin _ 120 (by show gn x.c=_;unfold gn;rw [if_pos hs]) hc (u7 x.ka x.kc x.c.key x.c.size x.va x.vc x.c.val x.c.over x.c.kid w hB hk hv hc hf.1 hs)
   ·exact fin _ 120 (by show gn x.c=_;unfold gn;rw [if_neg hs]) hc (sV x.ka x.kc x.c.key x.c.size x.va x.vc x.c.val x.c.over x.c.kid w hB hk hv hc hf.1 (by omega))
 | false =>
  cases hc:mL x.c.key.length x.c.size x.c.val.length x.c.over x.c.kid with
  | false=>exact nof 122 hc (u4 x.ka _ x.kc x.c.size x.va _ x.vc x.c.over x.c.kid w hc)
  | true=>exact fin _ 122 rfl hc (u5 x.ka x.kc x.c.key x.c.size x.va _ x.vc x.c.over x.c.kid w hB hk hc hf.2)
theorem bT (kind:Int) (w:World):Calls Tryz.prog 85 #[.int .i64 kind] w fun e w'=>e=.returned (.agg (aO (decide (kind=3))))/\Below w.heap.size w w':=by
 by_cases h:kind=3
 ·subst h;go_enter Tryz.func85,Tryz.ntmps85;go_wp2;refine bodyPost_ret (results_cell_row rfl _ _ w.heap.size 191 (aO true) (0,0) _ rfl (heap_alloc_new _ _) Tryz.underlying191 rfl (by kernel_rfl)) rfl ?_;exact ⟨rfl,((bR _ _).alloc (nR _) _)⟩
 ·have k3:(kind==3)=false:=by simpa using h
  rw [dF h];go_enter Tryz.func85,Tryz.ntmps85;go_wp2;refine bodyPost_ret (results_cell_row rfl _ _ w.heap.size 191 (aO false) (0,0) _ rfl (heap_alloc_new _ _) Tryz.underlying191 rfl (by kernel_rfl)) rfl ?_;exact ⟨rfl,((bR _ _).alloc (nR _) _)⟩
theorem xj {B:Nat} (leaf:Bool) (x:CX) (w:World) (hB:B<=w.heap.size) (hk:Reads w B 1 x.ka x.c.key.length (bl x.c.key)) (hv:Reads w B 1 x.va x.c.val.length (bl x.c.val)) (hf:x.c.fit) :
 Calls Tryz.prog 87 #[.agg (aO leaf),x.val] w fun e w'=>e=.returned (.bool (iO leaf x.c))/\Below w.heap.size w w':=by
 have hC:=fun W (hW:Below w.heap.size w W)=>dP leaf x W (nT hB hW.size) (hk.below (hW.mono hB)) (hv.below (hW.mono hB)) hf
 obtain ⟨q,HQ⟩:∃ q,Hid (iO leaf x.c=q):=⟨_,lH rfl⟩
 rw [HQ.out] at hC ⊢;unfold CX.val cellV aO at *;have HC:=lH hC;clear hC hk hv;have hb2:Below w.heap.size w ((w.alloc (.cells #[.func (.func (cY leaf)) #[] #[],.func (.func (dW leaf)) #[] #[]] 191)).alloc (.cells #[.slice x.ka x.c.key.length x.kc,.int .i64 x.c.size,.slice x.va x.c.val.length x.vc,.int .u32 (x.c.over:Nat),.int .u32 (x.c.kid:Nat)] 117)):=((bR _ _).alloc (nR _) _).alloc (by simp) _
 cases q <;> cases leaf
 all_goals
  simp only [cY,dW,if_true,Bool.false_eq_true,if_false] at HC hb2 ⊢;go_enter Tryz.func87,Tryz.ntmps87
  go_wp2_with (first
   | (go_at_call 120;refine (HC.out _ hb2).mono ?_;rintro e w3 ⟨A,n,c,rfl,_,hb3⟩)
   | (go_at_call 122;refine (HC.out _ hb2).mono ?_;rintro e w3 ⟨A,n,c,rfl,_,hb3⟩))
  go_ret;exact ⟨rfl,hb2.trans (hb3.mono hb2.size)⟩
theorem vd {B g:Nat} (leaf:Bool) (x:CX) (w:World) (hB:B<=w.heap.size) (hk:Reads w B 1 x.ka x.c.key.length (bl x.c.key)) (hv:Reads w B 1 x.va x.c.val.length (bl x.c.val)) (hf:x.c.fit) (hg:aa w g 191 (aO leaf)) :
 Calls Tryz.prog 86 #[x.val,.pointer (some ⟨g,0,none⟩)] w fun e w'=>e=.returned (.bool (!iO leaf x.c))/\Below w.heap.size w w':=by
 have hb1:Below w.heap.size w (w.alloc (.cells #[.slice x.ka x.c.key.length x.kc,.int .i64 x.c.size,.slice x.va x.c.val.length x.vc,.int .u32 (x.c.over:Nat),.int .u32 (x.c.kid:Nat)] 117)):=(bR _ _).alloc (nR _) _;have hC:=xj leaf x _ (nT hB hb1.size) (hk.below (hb1.mono hB)) (hv.below (hb1.mono hB)) hf;have hg1:=hg.below hb1 hg.lt
 obtain ⟨q,HQ⟩:∃ q,Hid (iO leaf x.c=q):=⟨_,lH rfl⟩
 rw [HQ.out] at hC ⊢;unfold CX.val cellV at *;have HC:=lH hC;have HG:=lH hg1;clear hC hk hv hg hg1;go_enter Tryz.func86,Tryz.ntmps86
 go_wp2_with (first
  | (refine wpList_load_row rfl 191 (.tmp 1) rfl g rfl _ _ _ _ HG.out Tryz.underlying191 rfl (by kernel_rfl) ?_)
  | (go_at_call 87;refine HC.out.mono ?_;rintro e w3 ⟨rfl,hb3⟩))
 go_ret;exact ⟨rfl,hb1.trans (hb3.mono hb1.size)⟩
theorem rb {B g:Nat} {A:Option Addr} {l:List CX} (leaf:Bool) (c:Nat) (w:World) (h:bf w B A l) (hl:l.length<=3000000) (hB:B<=w.heap.size) (hf:∀ x∈l,x.c.fit) (hg:aa w g 191 (aO leaf)) :
 Calls Tryz.prog 124 #[.slice A l.length c,.func (.func 86) #[] #[.pointer (some ⟨g,0,none⟩)]] w fun e w'=>∃ r:Int,e=.returned (.int .i64 r)/\decide (0<=r)=!(l.all fun x=>iO leaf x.c)/\Below w.heap.size w w':=by
 have H:=lH (aI h (aI hf hg));clear h hf hg;go_enter Tryz.func124,Tryz.ntmps124;go_wp2
 go_loopw [8] (fun i wr=>∃ k:Nat,k<=l.length/\i=.int .i64 k/\(∀ j y,j<k->l[j]?=some y->iO leaf y.c=true)/\Below w.heap.size w wr) (fun i _=>l.length-(intOf i).toNat)
 case atStart=>exact ⟨0,zL _,rfl,fun j y hj=>by omega,bR _ _⟩
 case round =>
  obtain ⟨k,hk,rfl,hno,hb⟩:=hrel;have HNO:=lH hno;clear hno
  obtain ⟨wo,rfl⟩:∃ wo,wo=wr:=⟨wr,rfl⟩
  by_cases hlt:k<l.length
  ·have d1:decide (k<l.length)=true:=dT hlt
   obtain ⟨x,hx⟩:∃ x,l[k]?=some x:=⟨_,gE hlt⟩
   have hm:=mG hx;have hC:=H.out.1.below (hb.mono hB);obtain ⟨p,o,rfl,hp,hc⟩:=hC.at_ (by omega);obtain ⟨c1,c2,c3,c4,c5⟩:=hc k x hx;have hI:=vd leaf x wo (nT hB hb.size) (hC.key x hm) (hC.val x hm) (H.out.2.1 x hm) (H.out.2.2.below hb H.out.2.2.lt)
   have i0:(0:Int)<=(k:Int):=by omega
   have i1:(k:Int)<(l.length:Int):=by omega
   obtain ⟨q,HQ⟩:∃ q,Hid (iO leaf x.c=q):=⟨_,lH rfl⟩
   rw [HQ.out] at hI;have HX:=lH hx;unfold CX.val cellV at hI;clear hC hc hx hm
   cases q with
   | false =>
    go_wp2_with (go_at_call 86;refine hI.mono ?_;rintro e w9 ⟨rfl,hb9⟩)
    go_ret;refine ⟨(k:Int),rfl,?_,hb.trans (hb9.mono hb.size)⟩
    have e1:(l.all fun x=>iO leaf x.c)=false:=by
     rw [Bool.eq_false_iff];intro ht;rw [List.all_eq_true] at ht;have:=ht x (mG HX.out);rw [HQ.out] at this
     cases this
    rw [e1,dT i0];rfl
   | true =>
    go_wp2_with (go_at_call 86;refine hI.mono ?_;rintro e w9 ⟨rfl,hb9⟩)
    go_roundw
    case rel=>exact ⟨k+1,by omega,by go_num,fun j z hj hz=>by
     by_cases e:j=k
     ·subst e;rw [HX.out] at hz;cases hz;exact HQ.out
     ·exact HNO.out j z (by omega) hz,hb.trans (hb9.mono hb.size)⟩
    case measure=>simp [intOf];omega
  ·have d1:decide (k<l.length)=false:=dF hlt;go_wp2;go_ret;refine ⟨-1,rfl,?_,hb⟩
   have e1:(l.all fun x=>iO leaf x.c)=true:=by
    rw [List.all_eq_true];intro x hx;obtain ⟨j,hj⟩:=List.getElem?_of_mem hx;have:=(lS.1 hj).1;exact HNO.out j x (by omega) hj
   rw [e1];rfl
theorem pm {B g:Nat} {A:Option Addr} {l:List CX} (leaf:Bool) (c:Nat) (w:World) (h:bf w B A l) (hl:l.length<=3000000) (hB:B<=w.heap.size) (hf:∀ x∈l,x.c.fit) (hg:aa w g 191 (aO leaf)) :
 Calls Tryz.prog 88 #[.slice A l.length c,.func (.func 86) #[] #[.pointer (some ⟨g,0,none⟩)]] w fun e w'=>e=.returned (.bool (!(l.all fun x=>iO leaf x.c)))/\Below w.heap.size w w':=by
 have hI:=rb leaf c w h hl hB hf hg;clear h hf hg;go_enter Tryz.func88,Tryz.ntmps88
 go_wp2_with (go_at_call 124;refine hI.mono ?_;rintro e w9 ⟨r,rfl,hr,hb9⟩)
 go_ret;exact ⟨rfl,hb9⟩
structure NX where
 kind:Int
 lsn:Nat
 ca:Option Addr
 cc:Nat
 l:List CX
 next:Nat
 da:Option Addr
 dc:Nat
 data:List UInt8
 root:Nat
 pages:Nat
 free:Nat
 entries:Nat
def NX.n (x:NX):PN:=⟨x.kind,x.lsn,x.l.map CX.c,x.next,x.data,x.root,x.pages,x.free,x.entries⟩
def NX.val (x:NX):Value:=aJ x.kind x.lsn x.ca x.l.length x.cc x.next x.da x.data.length x.dc x.root x.pages x.free x.entries
def NX.cells (x:NX):Array Value:=#[.int .i64 x.kind,.int .u64 (x.lsn:Nat),.slice x.ca x.l.length x.cc,.int .u32 (x.next:Nat),.slice x.da x.data.length x.dc,.int .u32 (x.root:Nat),.int .u32 (x.pages:Nat),.int .u32 (x.free:Nat),.int .u64 (x.entries:Nat)]
structure aP (w:World) (B:Nat) (x:NX):Prop where
 cells:bf w B x.ca x.l
 data:Reads w B 1 x.da x.data.length (bl x.data)
 fit:∀ y∈x.l,y.c.fit
 many:x.l.length<=3000000
 long:x.data.length<=3000000
theorem aP.below {w w':World} {B:Nat} {x:NX} (h:aP w B x) (hb:Below B w w'):aP w' B x:=⟨h.cells.below hb,h.data.below hb,h.fit,h.many,h.long⟩
theorem aP.mono {w:World} {B B':Nat} {x:NX} (h:aP w B x) (hb:B<=B'):aP w B' x:=⟨h.cells.mono hb,rM h.data hb,h.fit,h.many,h.long⟩
theorem pn (x:NX):mN x.kind x.l.length x.next x.data.length x.root x.pages x.free x.entries=bA x.n:=by
 unfold mN bA NX.n;simp
theorem rN (x:NX) (leaf:Bool):(x.l.all fun y=>iO leaf y.c)=(if leaf=true then x.n.cells.all gx else x.n.cells.all dq):=by
 unfold NX.n;simp only [List.all_map]
 cases leaf <;> rfl
theorem y9 (x:NX):x.n.cells.map PC.key=cd x.l:=by
 unfold NX.n cd;rw [List.map_map];rfl
theorem ny (x:NX) (h:x.kind=3):aD x.n=(bA x.n && (((x.l.all fun y=>iO true y.c) && !Aw (cd x.l)) && y8 (cd x.l))):=by
 unfold aD;rw [show x.n.kind=3 from h,if_neg (by decide),if_neg (by decide),if_neg (by decide),if_neg (by decide),if_pos rfl,pi,y9,rN,if_pos rfl,Bool.and_assoc]
theorem lC (x:NX) (h:x.kind=2):aD x.n=(bA x.n && (decide (x.l.length≠0) && (((x.l.all fun y=>iO false y.c) && !Aw (cd x.l)) && y8 (cd x.l)))):=by
 unfold aD;rw [show x.n.kind=2 from h,if_neg (by decide),if_neg (by decide),if_neg (by decide),if_pos rfl,pi,y9,rN,if_neg (by decide),Bool.and_assoc];unfold NX.n;rw [List.length_map]
theorem ve {B:Nat} (x:NX) (w:World) (h:aP w B x) (hB:B<=w.heap.size) (hk:x.kind=3) :
 Calls Tryz.prog 57 #[x.val] w fun e w'=>e=.returned (.bool (aD x.n))/\Below w.heap.size w w':=by
 obtain ⟨w1,hw1⟩:∃ w1,w1=w.alloc (.cells x.cells 95):=⟨_,rfl⟩
 have hb1:Below w.heap.size w w1:=by rw [hw1];exact (bR _ w).alloc (nR _) _
 have hN:aa w1 w.heap.size 95 x.cells:=by rw [hw1];exact aa.new _ _ _
 have hP:=i7 x.kind x.lsn x.ca x.l.length x.cc x.next x.da x.data.length x.dc x.root x.pages x.free x.entries w1;rw [pn] at hP;rw [ny x hk]
 have HNW:Hid (∀ W,Below w1.heap.size w1 W->W.cell? ⟨w.heap.size,0,none⟩=some (.int .i64 3)/\W.cell? ⟨w.heap.size,2,none⟩=some (.slice x.ca x.l.length x.cc)):=lH fun W hW=>⟨((hN.below hW hN.lt).cell 0).trans (by rw [<-hk];rfl),(hN.below hW hN.lt).cell 2⟩
 have HHas:Hid (∀ W,Below w.heap.size w W->∀ g,aa W g 191 (aO true)->_):=lH fun W hW g hg=>pm true x.cc W (h.cells.below (hW.mono hB)) h.many (nT hB hW.size) h.fit hg;have HTw:Hid (∀ W,Below w.heap.size w W->_):=lH fun W hW=>lB x.cc W (h.cells.below (hW.mono hB)) h.many (nT hB hW.size);have HSo:Hid (∀ W,Below w.heap.size w W->_):=lH fun W hW=>pk x.cc W (h.cells.below (hW.mono hB)) h.many (nT hB hW.size);have HCo:Hid (∀ W,_):=lH fun W=>bT 3 W
 obtain ⟨p,KP⟩:∃ q,Hid (bA x.n=q):=⟨_,lH rfl⟩
 obtain ⟨q1,K1⟩:∃ q,Hid ((x.l.all fun y=>iO true y.c)=q):=⟨_,lH rfl⟩
 obtain ⟨q2,K2⟩:∃ q,Hid (Aw (cd x.l)=q):=⟨_,lH rfl⟩
 obtain ⟨q3,K3⟩:∃ q,Hid (y8 (cd x.l)=q):=⟨_,lH rfl⟩
 rw [KP.out] at hP ⊢;rw [K1.out] at HHas ⊢;rw [K2.out] at HTw ⊢;rw [K3.out] at HSo ⊢;unfold NX.val aJ NX.cells at *;rw [hk] at *;have HW1:=lH hw1;have HP:=lH hP;have HNB:=lH hN;clear hP h hN hw1 hk KP K1 K2 K3
 cases p with
 | false =>
  go_enter Tryz.func57,Tryz.ntmps57
  go_wp2_with (first
   | (rw [<-HW1.out];refine wpList_load_row rfl 95 (.tmp 1) rfl w.heap.size rfl _ _ _ _ HNB.out Tryz.underlying95 rfl (by kernel_rfl) ?_)
   | (go_at_call 83;refine HP.out.mono ?_;rintro e w3 ⟨rfl,hb3⟩))
  go_ret;exact ⟨rfl,hb1.trans (hb3.mono hb1.size)⟩
 | true =>
  cases q1 <;> cases q2 <;> cases q3
  all_goals
   go_enter Tryz.func57,Tryz.ntmps57
   go_wp2_with (first
    | (rw [<-HW1.out];refine wpList_load_row rfl 95 (.tmp 1) rfl w.heap.size rfl _ _ _ _ HNB.out Tryz.underlying95 rfl (by kernel_rfl) ?_)
    | (go_at_call 83;refine HP.out.mono ?_;rintro e w3 ⟨rfl,hb3⟩;obtain ⟨f0,f2⟩:=HNW.out _ hb3)
    | (go_at_call 85;refine (HCo.out _).mono ?_;rintro e w4 ⟨rfl,hb4⟩;have hb4a:Below w1.heap.size w1 (w4.alloc (.cells (aO true) 191)):=(hb3.trans (hb4.mono hb3.size)).alloc (nT hb3.size hb4.size) _;obtain ⟨f0a,f2a⟩:=HNW.out _ hb4a;unfold aO at f0a f2a;simp only [cY,dW,if_true,decide_true,aO] at f0a f2a ⊢)
    | (go_at_call 88;refine (HHas.out _ ?_ _ ?_).mono ?_;exact hb1.trans (hb4a.mono hb1.size);exact aa.new _ _ _;rintro e w5 ⟨rfl,hb5⟩;have hF5:=hb1.trans ((hb4a.trans (hb5.mono hb4a.size)).mono hb1.size);obtain ⟨f0b,f2b⟩:=HNW.out w5 (hb4a.trans (hb5.mono hb4a.size)))
    | (go_at_call 89;refine (HTw.out _ ?_).mono ?_;exact hF5;rintro e w6 ⟨rfl,hb6⟩;have hF6:=hF5.trans (hb6.mono hF5.size);obtain ⟨f0c,f2c⟩:=HNW.out w6 ((hb4a.trans (hb5.mono hb4a.size)).trans (hb6.mono (nT hb4a.size hb5.size))))
    | (go_at_call 90;refine (HSo.out _ ?_).mono ?_;exact hF6;rintro e w7 ⟨rfl,hb7⟩;have hF7:=hF6.trans (hb7.mono hF6.size)))
   go_ret
   first
    | exact ⟨rfl,hF7⟩
    | exact ⟨rfl,hF6⟩
    | exact ⟨rfl,hF5⟩
theorem sY {B:Nat} (x:NX) (w:World) (h:aP w B x) (hB:B<=w.heap.size) (hk:x.kind=2) :
 Calls Tryz.prog 57 #[x.val] w fun e w'=>e=.returned (.bool (aD x.n))/\Below w.heap.size w w':=by
 obtain ⟨w1,hw1⟩:∃ w1,w1=w.alloc (.cells x.cells 95):=⟨_,rfl⟩
 have hb1:Below w.heap.size w w1:=by rw [hw1];exact (bR _ w).alloc (nR _) _
 have hN:aa w1 w.heap.size 95 x.cells:=by rw [hw1];exact aa.new _ _ _
 have hP:=i7 x.kind x.lsn x.ca x.l.length x.cc x.next x.da x.data.length x.dc x.root x.pages x.free x.entries w1;rw [pn] at hP;rw [lC x hk]
 have HNW:Hid (∀ W,Below w1.heap.size w1 W->W.cell? ⟨w.heap.size,0,none⟩=some (.int .i64 2)/\W.cell? ⟨w.heap.size,2,none⟩=some (.slice x.ca x.l.length x.cc)):=lH fun W hW=>⟨((hN.below hW hN.lt).cell 0).trans (by rw [<-hk];rfl),(hN.below hW hN.lt).cell 2⟩
 have HHas:Hid (∀ W,Below w.heap.size w W->∀ g,aa W g 191 (aO false)->_):=lH fun W hW g hg=>pm false x.cc W (h.cells.below (hW.mono hB)) h.many (nT hB hW.size) h.fit hg;have HTw:Hid (∀ W,Below w.heap.size w W->_):=lH fun W hW=>lB x.cc W (h.cells.below (hW.mono hB)) h.many (nT hB hW.size);have HSo:Hid (∀ W,Below w.heap.size w W->_):=lH fun W hW=>pk x.cc W (h.cells.below (hW.mono hB)) h.many (nT hB hW.size);have HCo:Hid (∀ W,_):=lH fun W=>bT 2 W
 obtain ⟨q0,K0⟩:∃ q,Hid (decide (x.l.length≠0)=q):=⟨_,lH rfl⟩
 have e0:((x.l.length:Int)==0)=!q0:=by rw [<-K0.out,Bool.eq_iff_iff];simp
 obtain ⟨p,KP⟩:∃ q,Hid (bA x.n=q):=⟨_,lH rfl⟩
 obtain ⟨q1,K1⟩:∃ q,Hid ((x.l.all fun y=>iO false y.c)=q):=⟨_,lH rfl⟩
 obtain ⟨q2,K2⟩:∃ q,Hid (Aw (cd x.l)=q):=⟨_,lH rfl⟩
 obtain ⟨q3,K3⟩:∃ q,Hid (y8 (cd x.l)=q):=⟨_,lH rfl⟩
 rw [KP.out] at hP ⊢;rw [K0.out];rw [K1.out] at HHas ⊢;rw [K2.out] at HTw ⊢;rw [K3.out] at HSo ⊢;unfold NX.val aJ NX.cells at *;rw [hk] at *;have HW1:=lH hw1;have HP:=lH hP;have HNB:=lH hN;clear hP h hN hw1 hk K0 KP K1 K2 K3
 cases p with
 | false =>
  go_enter Tryz.func57,Tryz.ntmps57
  go_wp2_with (first
   | (rw [<-HW1.out];refine wpList_load_row rfl 95 (.tmp 1) rfl w.heap.size rfl _ _ _ _ HNB.out Tryz.underlying95 rfl (by kernel_rfl) ?_)
   | (go_at_call 83;refine HP.out.mono ?_;rintro e w3 ⟨rfl,hb3⟩))
  go_ret;exact ⟨rfl,hb1.trans (hb3.mono hb1.size)⟩
 | true =>
  cases q0 <;> cases q1 <;> cases q2 <;> cases q3
  all_goals
   go_enter Tryz.func57,Tryz.ntmps57
   go_wp2_with (first
    | (rw [<-HW1.out];refine wpList_load_row rfl 95 (.tmp 1) rfl w.heap.size rfl _ _ _ _ HNB.out Tryz.underlying95 rfl (by kernel_rfl) ?_)
    | (go_at_call 83;refine HP.out.mono ?_;rintro e w3 ⟨rfl,hb3⟩;obtain ⟨f0,f2⟩:=HNW.out _ hb3)
    | (go_at_call 85;refine (HCo.out _).mono ?_;rintro e w4 ⟨rfl,hb4⟩;have hb4a:Below w1.heap.size w1 (w4.alloc (.cells (aO false) 191)):=(hb3.trans (hb4.mono hb3.size)).alloc (nT hb3.size hb4.size) _;obtain ⟨f0a,f2a⟩:=HNW.out _ hb4a;unfold aO at f0a f2a;simp only [cY,dW,Bool.false_eq_true,if_false,show decide ((2:Int)=3)=false from rfl,aO] at f0a f2a ⊢)
    | (go_at_call 88;refine (HHas.out _ ?_ _ ?_).mono ?_;exact hb1.trans (hb4a.mono hb1.size);exact aa.new _ _ _;rintro e w5 ⟨rfl,hb5⟩;have hF5:=hb1.trans ((hb4a.trans (hb5.mono hb4a.size)).mono hb1.size);obtain ⟨f0b,f2b⟩:=HNW.out w5 (hb4a.trans (hb5.mono hb4a.size)))
    | (go_at_call 89;refine (HTw.out _ ?_).mono ?_;exact hF5;rintro e w6 ⟨rfl,hb6⟩;have hF6:=hF5.trans (hb6.mono hF5.size);obtain ⟨f0c,f2c⟩:=HNW.out w6 ((hb4a.trans (hb5.mono hb4a.size)).trans (hb6.mono (nT hb4a.size hb5.size))))
    | (go_at_call 90;refine (HSo.out _ ?_).mono ?_;exact hF6;rintro e w7 ⟨rfl,hb7⟩;have hF7:=hF6.trans (hb7.mono hF6.size)))
   go_ret
   first
    | exact ⟨rfl,hF7⟩
    | exact ⟨rfl,hF6⟩
    | exact ⟨rfl,hF5⟩
    | exact ⟨rfl,hb1.trans (hb3.mono hb1.size)⟩
theorem vf {B:Nat} (x:NX) (w:World) (hB:B<=w.heap.size) (hk2:x.kind≠2) (hk3:x.kind≠3) :
 Calls Tryz.prog 57 #[x.val] w fun e w'=>e=.returned (.bool (aD x.n))/\Below w.heap.size w w':=by
 obtain ⟨w1,hw1⟩:∃ w1,w1=w.alloc (.cells x.cells 95):=⟨_,rfl⟩
 have hb1:Below w.heap.size w w1:=by rw [hw1];exact (bR _ w).alloc (nR _) _
 have hN:aa w1 w.heap.size 95 x.cells:=by rw [hw1];exact aa.new _ _ _
 have hP:=i7 x.kind x.lsn x.ca x.l.length x.cc x.next x.da x.data.length x.dc x.root x.pages x.free x.entries w1;rw [pn] at hP
 have hOK:aD x.n=(bA x.n && (if x.kind=1 then y7 x.root x.pages x.free else if x.kind=4 then decide (1<=x.data.length/\x.data.length<=238) else decide (x.kind=5))):=by
  unfold aD;show (bA x.n && (if x.kind=1 then o4 x.n else if x.kind=4 then decide (1<=x.data.length/\x.data.length<=238) else if x.kind=5 then true else if x.kind=2 then _ else if x.kind=3 then _ else false))=_;congr 1;by_cases h1:x.kind=1
  ·rw [if_pos h1,if_pos h1];rfl
  ·rw [if_neg h1,if_neg h1];by_cases h4:x.kind=4
   ·rw [if_pos h4,if_pos h4]
   ·rw [if_neg h4,if_neg h4];by_cases h5:x.kind=5
    ·rw [if_pos h5,dT h5]
    ·rw [if_neg h5,if_neg hk2,if_neg hk3,dF h5]
 rw [hOK]
 have HNW:Hid (∀ W,Below w1.heap.size w1 W->W.cell? ⟨w.heap.size,0,none⟩=some (.int .i64 x.kind)/\W.cell? ⟨w.heap.size,4,none⟩=some (.slice x.da x.data.length x.dc) /\
  W.cell? ⟨w.heap.size,5,none⟩=some (.int .u32 (x.root:Nat))/\W.cell? ⟨w.heap.size,6,none⟩=some (.int .u32 (x.pages:Nat))/\W.cell? ⟨w.heap.size,7,none⟩=some (.int .u32 (x.free:Nat))/\W.cell? ⟨w.heap.size,8,none⟩=some (.int .u64 (x.entries:Nat))) :=
  lH fun W hW=>⟨(hN.below hW hN.lt).cell 0,(hN.below hW hN.lt).cell 4,(hN.below hW hN.lt).cell 5,(hN.below hW hN.lt).cell 6,(hN.below hW hN.lt).cell 7,(hN.below hW hN.lt).cell 8⟩
 obtain ⟨p,KP⟩:∃ q,Hid (bA x.n=q):=⟨_,lH rfl⟩
 rw [KP.out] at hP ⊢;have HH:Hid (∀ W,_):=lH fun W=>xi x.root x.pages x.free x.entries W
 obtain ⟨q,KQ⟩:∃ q,Hid (y7 x.root x.pages x.free=q):=⟨_,lH rfl⟩
 rw [KQ.out] at HH ⊢
 obtain ⟨n,KN⟩:∃ n,Hid (x.data.length=n):=⟨_,lH rfl⟩
 rw [KN.out] at HNW ⊢
 obtain ⟨kd,KK⟩:∃ n,Hid (x.kind=n):=⟨_,lH rfl⟩
 unfold NX.val aJ NX.cells at *;rw [KK.out] at hk2 hk3 HNW hP hN hw1 ⊢;rw [KN.out] at hP hN hw1 ⊢;have HW1:=lH hw1;have HP:=lH hP;have HNB:=lH hN
 have k2:(kd==2)=false:=by simpa using hk2
 have k3:(kd==3)=false:=by simpa using hk3
 clear hP hN hw1 KP KQ hOK KK KN hk2 hk3
 cases p with
 | false =>
  rw [Bool.false_and];go_enter Tryz.func57,Tryz.ntmps57
  go_wp2_with (first
   | (rw [<-HW1.out];refine wpList_load_row rfl 95 (.tmp 1) rfl w.heap.size rfl _ _ _ _ HNB.out Tryz.underlying95 rfl (by kernel_rfl) ?_)
   | (go_at_call 83;refine HP.out.mono ?_;rintro e w3 ⟨rfl,hb3⟩))
  go_ret;exact ⟨rfl,hb1.trans (hb3.mono hb1.size)⟩
 | true =>
  rw [Bool.true_and];by_cases h1:kd=1
  ·rw [if_pos h1];subst h1;go_enter Tryz.func57,Tryz.ntmps57
   go_wp2_with (first
    | (rw [<-HW1.out];refine wpList_load_row rfl 95 (.tmp 1) rfl w.heap.size rfl _ _ _ _ HNB.out Tryz.underlying95 rfl (by kernel_rfl) ?_)
    | (go_at_call 83;refine HP.out.mono ?_;rintro e w3 ⟨rfl,hb3⟩;obtain ⟨f0,f4,f5,f6,f7,f8⟩:=HNW.out _ hb3)
    | (go_at_call 84;refine (HH.out _).mono ?_;rintro e w4 ⟨rfl,hb4⟩))
   go_ret;exact ⟨rfl,hb1.trans ((hb3.trans (hb4.mono hb3.size)).mono hb1.size)⟩
  ·have k1:(kd==1)=false:=by simpa using h1
   rw [if_neg h1];by_cases h4:kd=4
   ·rw [if_pos h4];subst h4;go_enter Tryz.func57,Tryz.ntmps57
    go_wp2_with (first
     | (rw [<-HW1.out];refine wpList_load_row rfl 95 (.tmp 1) rfl w.heap.size rfl _ _ _ _ HNB.out Tryz.underlying95 rfl (by kernel_rfl) ?_)
     | (go_at_call 83;refine HP.out.mono ?_;rintro e w3 ⟨rfl,hb3⟩;obtain ⟨f0,f4,f5,f6,f7,f8⟩:=HNW.out _ hb3))
    all_goals
     go_ret;refine ⟨lz ?_,hb1.trans (hb3.mono hb1.size)⟩
     first
      | (rw [Bool.eq_iff_iff];simp only [decide_eq_true_eq,beq_iff_eq,Bool.false_eq_true,false_iff];omega)
      | (rw [Bool.eq_iff_iff];simp;omega)
   ·have k4:(kd==4)=false:=by simpa using h4
    rw [if_neg h4]
    obtain ⟨b5,k5⟩:∃ b,(kd==5)=b:=⟨_,rfl⟩
    have e5:decide (kd=5)=b5:=by rw [<-k5,Bool.eq_iff_iff];simp
    rw [e5];clear e5
    cases b5
    all_goals
     go_enter Tryz.func57,Tryz.ntmps57
     go_wp2_with (first
      | (rw [<-HW1.out];refine wpList_load_row rfl 95 (.tmp 1) rfl w.heap.size rfl _ _ _ _ HNB.out Tryz.underlying95 rfl (by kernel_rfl) ?_)
      | (go_at_call 83;refine HP.out.mono ?_;rintro e w3 ⟨rfl,hb3⟩;obtain ⟨f0,f4,f5,f6,f7,f8⟩:=HNW.out _ hb3))
     go_ret;exact ⟨rfl,hb1.trans (hb3.mono hb1.size)⟩
theorem po {B:Nat} (x:NX) (w:World) (h:aP w B x) (hB:B<=w.heap.size) :
 Calls Tryz.prog 57 #[x.val] w fun e w'=>e=.returned (.bool (aD x.n))/\Below w.heap.size w w':=by
 by_cases h3:x.kind=3
 ·exact ve x w h hB h3
 ·by_cases h2:x.kind=2
  ·exact sY x w h hB h2
  ·exact vf x w hB h2 h3
theorem kO {w:World} {g n:Nat} (h:aa w g 5 (bl (ag 4 n)).toArray):Reads w w.heap.size 1 (some ⟨g,0,none⟩) (ag 4 n).length (bl (ag 4 n)):=rB h rfl
theorem Ht {w:World} {A:Option Addr} {c:Nat} {b:List UInt8} (h1:Reads w w.heap.size 1 A b.length (bl b)) (hs:b.length<=243) :
 Calls Tryz.prog 113 #[.slice (some ⟨w.heap.size,0,none⟩) 1 1] (w.alloc (.cells #[.slice A b.length c] 23)) fun e w'=>∃ g',e=.returned (.slice (some ⟨g',0,none⟩) 243 243)/\w.heap.size<=g'/\aa w' g' 5 (bl (cR b)).toArray/\Below w.heap.size w w':=by
 have hcat:fA [⟨A,c,b⟩]=b:=by simp [fA]
 have hba:Below w.heap.size w (w.alloc (.cells #[.slice A b.length c] 23)):=(bR _ w).alloc (nR _) _
 have hC:=pf (B:=w.heap.size) w.heap.size 1 [⟨A,c,b⟩] (w.alloc (.cells #[.slice A b.length c] 23)) (by simp) (fun k p hk=>by
  have hbk:=aa.new w 23 #[.slice A b.length c];rw [hbk.cell]
  rcases k with _ | k
  ·cases hk;rfl
  ·simp at hk) (fun p hp=>by
  simp only [List.mem_singleton] at hp;subst hp
  exact h1.below hba) (by rw [hcat];exact hs) (by simp) (by simp)
 rw [hcat] at hC;refine hC.mono ?_;rintro e w' ⟨g',rfl,hg,hB,hb⟩
 exact ⟨g',rfl,by
  have:(w.alloc (.cells #[.slice A b.length c] 23)).heap.size=w.heap.size+1:=by simp
  omega,hB,hba.trans (hb.mono (by simp))⟩
theorem rO (x:NX) (w:World) (hk:x.kind=5) (hn:x.next<4294967296) :
 Calls Tryz.prog 82 #[x.val] w fun e w'=>∃ g,e=.returned (.slice (some ⟨g,0,none⟩) 243 243)/\w.heap.size<=g/\aa w' g 5 (bl (aZ x.n)).toArray/\Below w.heap.size w w':=by
 have hbd:aZ x.n=cR (ag 4 x.next):=by
  unfold aZ;rw [show x.n.kind=5 from hk,if_neg (by decide),if_neg (by decide),if_pos rfl];rfl
 rw [hbd]
 obtain ⟨w1,hw1⟩:∃ w1,w1=w.alloc (.cells x.cells 95):=⟨_,rfl⟩
 have hb1:Below w.heap.size w w1:=by rw [hw1];exact (bR _ w).alloc (nR _) _
 have hN:aa w1 w.heap.size 95 x.cells:=by rw [hw1];exact aa.new _ _ _
 have f0:w1.cell? ⟨w.heap.size,0,none⟩=some (.int .i64 5):=(hN.cell 0).trans (by rw [<-hk];rfl);have f3:w1.cell? ⟨w.heap.size,3,none⟩=some (.int .u32 (x.next:Nat)):=hN.cell 3;have hF:=fM x.next hn w1;have HL:Hid (∀ (W:World) (g:Nat),aa W g 5 (bl (ag 4 x.next)).toArray->_):=lH fun W g hB=>Ht (c:=4) (kO hB) (by rw [fL];omega);simp only [fL] at HL;have HF:=lH hF;unfold NX.val aJ NX.cells at *;rw [hk] at *;have HW1:=lH hw1;clear hF hN hw1 hk hbd;go_enter Tryz.func82,Tryz.ntmps82
 go_wp2_with (first
  | (rw [<-HW1.out];go_at_call 114;refine HF.out.mono ?_;rintro e w3 ⟨g,rfl,hg,hB3,hb3⟩)
  | (go_at_call 113;refine (HL.out _ _ hB3).mono ?_;rintro e w4 ⟨g',rfl,hg',hB4,hb4⟩))
 go_ret;exact ⟨g',rfl,nT (nT hb1.size hb3.size) hg',hB4,hb1.trans ((hb3.trans (hb4.mono hb3.size)).mono hb1.size)⟩
theorem Hu {w:World} {A1 A2 A3:Option Addr} {c1 c2 c3:Nat} {b1 b2 b3:List UInt8} (h1:Reads w w.heap.size 1 A1 b1.length (bl b1)) (h2:Reads w w.heap.size 1 A2 b2.length (bl b2)) (h3:Reads w w.heap.size 1 A3 b3.length (bl b3)) (hs:(b1++(b2++b3)).length<=243) :
 Calls Tryz.prog 113 #[.slice (some ⟨w.heap.size,0,none⟩) 3 3] (w.alloc (.cells #[.slice A1 b1.length c1,.slice A2 b2.length c2,.slice A3 b3.length c3] 23)) fun e w'=>∃ g',e=.returned (.slice (some ⟨g',0,none⟩) 243 243)/\w.heap.size<=g'/\aa w' g' 5 (bl (cR (b1++(b2++b3)))).toArray/\Below w.heap.size w w':=by
 have hcat:fA [⟨A1,c1,b1⟩,⟨A2,c2,b2⟩,⟨A3,c3,b3⟩]=b1++(b2++b3):=by simp [fA]
 have hba:Below w.heap.size w (w.alloc (.cells #[.slice A1 b1.length c1,.slice A2 b2.length c2,.slice A3 b3.length c3] 23)):=(bR _ w).alloc (nR _) _
 have hC:=pf (B:=w.heap.size) w.heap.size 3 [⟨A1,c1,b1⟩,⟨A2,c2,b2⟩,⟨A3,c3,b3⟩] (w.alloc (.cells #[.slice A1 b1.length c1,.slice A2 b2.length c2,.slice A3 b3.length c3] 23)) (by simp) (fun k p hk=>by
  have hbk:=aa.new w 23 #[.slice A1 b1.length c1,.slice A2 b2.length c2,.slice A3 b3.length c3];rw [hbk.cell]
  rcases k with _ | _ | _ | k
  ·cases hk;rfl
  ·cases hk;rfl
  ·cases hk;rfl
  ·simp at hk) (fun p hp=>by
  simp only [List.mem_cons,List.not_mem_nil,or_false] at hp
  rcases hp with rfl | rfl | rfl
  ·exact h1.below hba
  ·exact h2.below hba
  ·exact h3.below hba) (by rw [hcat];exact hs) (by simp) (by simp)
 rw [hcat] at hC;refine hC.mono ?_;rintro e w' ⟨g',rfl,hg,hB,hb⟩
 exact ⟨g',rfl,by
  have:(w.alloc (.cells #[.slice A1 b1.length c1,.slice A2 b2.length c2,.slice A3 b3.length c3] 23)).heap.size=w.heap.size+1:=by simp
  omega,hB,hba.trans (hb.mono (by simp))⟩
theorem rP {B:Nat} (x:NX) (w:World) (hk:x.kind=4) (hn:x.next<4294967296) (hB:B<=w.heap.size) (hr:Reads w B 1 x.da x.data.length (bl x.data)) (hl:x.data.length<=238) :
 Calls Tryz.prog 82 #[x.val] w fun e w'=>∃ g,e=.returned (.slice (some ⟨g,0,none⟩) 243 243)/\w.heap.size<=g/\aa w' g 5 (bl (aZ x.n)).toArray/\Below w.heap.size w w':=by
 have hbd:aZ x.n=cR (ag 4 x.next++([UInt8.ofNat x.data.length]++x.data)):=by
  unfold aZ;rw [show x.n.kind=4 from hk,if_neg (by decide),if_pos rfl];rfl
 rw [hbd]
 obtain ⟨w1,hw1⟩:∃ w1,w1=w.alloc (.cells x.cells 95):=⟨_,rfl⟩
 have hb1:Below w.heap.size w w1:=by rw [hw1];exact (bR _ w).alloc (nR _) _
 have hN:aa w1 w.heap.size 95 x.cells:=by rw [hw1];exact aa.new _ _ _
 have f0:w1.cell? ⟨w.heap.size,0,none⟩=some (.int .i64 4):=(hN.cell 0).trans (by rw [<-hk];rfl)
 have kS:Hid (∀ W,Below w1.heap.size w1 W->(W.cell? ⟨w.heap.size,3,none⟩=some (.int .u32 (x.next:Nat))/\W.cell? ⟨w.heap.size,4,none⟩=some (.slice x.da x.data.length x.dc))):=lH fun W hW=>⟨(hN.below hW hN.lt).cell 3,(hN.below hW hN.lt).cell 4⟩
 have HF:Hid (∀ W,_):=lH fun W=>fM x.next hn W
 obtain ⟨n,KN⟩:∃ n,Hid (x.data.length=n):=⟨_,lH rfl⟩
 have HL:Hid (∀ (W:World) (A1 A2:Option Addr),Reads W W.heap.size 1 A1 (ag 4 x.next).length (bl (ag 4 x.next))->Reads W W.heap.size 1 A2 [UInt8.ofNat n].length (bl [UInt8.ofNat n])->Reads W W.heap.size 1 x.da x.data.length (bl x.data)->_):=lH fun W A1 A2 h1 h2 h3=>Hu (c1:=4) (c2:=1) (c3:=x.dc) h1 h2 h3 (by rw [lQ,fL,lQ];simp;omega);rw [KN.out] at HL kS hl ⊢;simp only [fL,List.length_singleton] at HL
 have hw8:IntKind.u8.wrap (n:Int)=(n:Int):=by rw [IntKind.wrap_u8];omega
 have HR:=lH hr;unfold NX.val aJ NX.cells at *;rw [hk] at *;rw [KN.out] at hw1 ⊢;have HW1:=lH hw1;clear hN hw1 hk hbd hr;go_enter Tryz.func82,Tryz.ntmps82
 go_wp2_with fail
 rw [<-HW1.out];have hbd:Below w1.heap.size w1 w1.drew:=(bR _ w1).drew;refine bB 12 (fun W0=>W0.cell? ⟨w.heap.size,3,none⟩=some (.int .u32 (x.next:Nat))/\W0.cell? ⟨w.heap.size,4,none⟩=some (.slice x.da n x.dc)) (kS.out _ hbd) (fun hHeld hTl=>?_);refine ae 0 hTl hHeld (fun hTl=>?_)
 try simp only [pT]
 refine ae 1 hTl hHeld (fun hTl=>?_)
 try simp only [pT]
 refine ae 3 hTl hHeld (fun hTl=>?_)
 try simp only [pT]
 refine ae 4 hTl hHeld (fun hTl=>?_)
 try simp only [pT]
 refine ae 5 hTl hHeld (fun hTl=>?_)
 try simp only [pT]
 refine ae 6 hTl hHeld (fun hTl=>?_)
 try simp only [pT]
 refine ae 8 hTl hHeld (fun hTl=>?_)
 try simp only [pT]
 refine ae 9 hTl hHeld (fun hTl=>?_)
 try simp only [pT]
 clear hTl;refine gi 2 7 rfl rfl (by kernel_rfl) (fun K hK=>?_) (fun K hK=>?_)
 ·refine sC rfl 114 _ (by go_simp) (HF.out _) ?_;rintro e w3 ⟨g,e3,hg,hB3,hb3⟩;subst e3;refine ⟨_,rfl,?_⟩;have hbd3:Below w1.heap.size w1 w3:=hbd.trans (hb3.mono hbd.size);refine hK.out _ _ (fun _=>kS.out _ hbd3) ?_;clear hK K
  try simp only [pT]
  refine aA 7 (fun K hK=>?_);go_simp;refine hK.out _ _ (fun _=>kS.out _ (hbd3.alloc hbd3.size _)) ?_;clear hK K
  try simp only [pT]
  have hr1:=kO (hB3.alloc (.cells #[.int .u8 (n:Nat)] 5));have hr2:=one_byte w3 n (by omega);have hb4:Below w1.heap.size w1 (w3.alloc (.cells #[.int .u8 (n:Nat)] 5)):=hbd3.alloc hbd3.size _;have hbw4:Below w.heap.size w (w3.alloc (.cells #[.int .u8 (n:Nat)] 5)):=hb1.trans (hb4.mono hb1.size);have hr3:=rM (HR.out.below (hbw4.mono hB)) (nT hB hbw4.size);rw [fL] at hr1;rw [KN.out] at hr3;have hL:=HL.out _ _ _ hr1 hr2 hr3;refine aA 10 (fun K hK=>?_);go_simp;refine hK.out _ _ (fun _=>kS.out _ (hb4.alloc hb4.size _)) ?_;clear hK K
  try simp only [pT]
  refine sP 11 hL ?_;rintro e w5 ⟨g5,e5,hg5,hB5,hb5⟩;subst e5;refine ⟨_,rfl,(fun _=>kS.out _ (hb4.trans (hb5.mono hb4.size))),?_⟩
  try simp only [pT]
  refine az 12 (fun K hK=>?_);go_simp;refine hK.out _ _ ?_;clear hK K
  try simp only [pT]
  refine cW ?_ _;go_wp2;go_ret;exact ⟨g5,rfl,nT hbw4.size hg5,hB5,hbw4.trans (hb5.mono hbw4.size)⟩
 ·go_simp;have hb3a:Below w1.heap.size w1 (w1.drew.alloc (.cells #[.int .u8 (n:Nat)] 5)):=hbd.alloc hbd.size _;refine hK.out _ _ (fun _=>kS.out _ hb3a) ?_;clear hK K
  try simp only [pT]
  refine sP 2 (HF.out _) ?_
  rintro e w4 ⟨g,e3,hg,hB4,hb4'⟩;subst e3;have hb4:Below w1.heap.size w1 w4:=hb3a.trans (hb4'.mono hb3a.size)
  refine ⟨_,rfl,(fun _=>kS.out _ hb4),?_⟩
  try simp only [pT]
  have hr1:=kO hB4;have hr2:=rM ((one_byte w1.drew n (by omega)).below hb4') hb4'.size;have hbw4:Below w.heap.size w w4:=hb1.trans (hb4.mono hb1.size);have hr3:=rM (HR.out.below (hbw4.mono hB)) (nT hB hbw4.size);rw [fL] at hr1;rw [KN.out] at hr3;have hL:=HL.out _ _ _ hr1 hr2 hr3;refine aA 10 (fun K hK=>?_);go_simp;refine hK.out _ _ (fun _=>kS.out _ (hb4.alloc hb4.size _)) ?_;clear hK K
  try simp only [pT]
  refine sP 11 hL ?_;rintro e w5 ⟨g5,e5,hg5,hB5,hb5⟩;subst e5;refine ⟨_,rfl,(fun _=>kS.out _ (hb4.trans (hb5.mono hb4.size))),?_⟩
  try simp only [pT]
  refine az 12 (fun K hK=>?_);go_simp;refine hK.out _ _ ?_;clear hK K
  try simp only [pT]
  refine cW ?_ _;go_wp2;go_ret;exact ⟨g5,rfl,nT hbw4.size hg5,hB5,hbw4.trans (hb5.mono hbw4.size)⟩
theorem eJ (w:World):Reads (w.alloc (.cells #[.int .u8 83,.int .u8 67,.int .u8 79,.int .u8 87,.int .u8 49] 5)) (w.alloc (.cells #[.int .u8 83,.int .u8 67,.int .u8 79,.int .u8 87,.int .u8 49] 5)).heap.size 1 (some ⟨w.heap.size,0,none⟩) 5 (bl dy):=by
 have h:=aa.new w 5 #[.int .u8 83,.int .u8 67,.int .u8 79,.int .u8 87,.int .u8 49];exact rB (t:=5) (b:=dy) h rfl
theorem aV {W:World} {g:Nat} {C:Array Value} (n c:Nat) (h:aa W g 5 C):∃ W2,(convert 23 23 (.slice (some ⟨g,0,none⟩) n c)).run Tryz.prog W=.ok (.slice (some ⟨g,0,none⟩) n c) W2/\(∀ a,W2.cell? a=W.cell? a)/\W2.heap.size=W.heap.size/\∀ B,B<=g->Below B W W2:=by
 have hsh:W.shape? g=some (5,C.size):=by unfold World.shape?;rw [show W.heap[g]?=_ from h]
 refine ⟨W.freeze ⟨g,C.size,none⟩ 1,by simp [convert,run_underlying Tryz.underlying23,run_underlying Tryz.underlying5,markStringish,hsh],fun a=>?_,?_,fun B hB=>⟨?_,?_,?_,?_,fun k hk=>?_⟩⟩
 ·unfold World.freeze;rw [if_neg (by decide)];unfold World.cell?;simp only [Array.getElem?_modify];by_cases e:g=a.block
  ·subst e;rw [if_pos rfl,show W.heap[a.block]?=_ from h];rfl
  ·rw [if_neg e]
 ·unfold World.freeze;rw [if_neg (by decide)];simp
 ·unfold World.freeze;rw [if_neg (by decide)]
 ·unfold World.freeze;rw [if_neg (by decide)]
 ·unfold World.freeze;rw [if_neg (by decide)]
 ·unfold World.freeze;rw [if_neg (by decide)];simp
 ·unfold World.freeze;rw [if_neg (by decide)];simp only [Array.getElem?_modify];rw [if_neg (by omega)]
theorem rC {W W2:World} {B n:Nat} {A:Option Addr} {xs:List Value} (h:Reads W B 1 A n xs) (hc:∀ a,W2.cell? a=W.cell? a):Reads W2 B 1 A n xs :=
 ⟨h.1,fun h0=>by obtain ⟨ad,e,hb,hr⟩:=h.2 h0;exact ⟨ad,e,hb,fun j u hu=>(hc _).trans (hr j u hu)⟩⟩
theorem Hv {w:World} {A1 A2 A3 A4 A5:Option Addr} {c1 c2 c3 c4 c5:Nat} {b1 b2 b3 b4 b5:List UInt8} (h1:Reads w w.heap.size 1 A1 b1.length (bl b1)) (h2:Reads w w.heap.size 1 A2 b2.length (bl b2)) (h3:Reads w w.heap.size 1 A3 b3.length (bl b3)) (h4:Reads w w.heap.size 1 A4 b4.length (bl b4)) (h5:Reads w w.heap.size 1 A5 b5.length (bl b5)) (hs:(b1++(b2++(b3++(b4++b5)))).length<=243) :
 Calls Tryz.prog 113 #[.slice (some ⟨w.heap.size,0,none⟩) 5 5] (w.alloc (.cells #[.slice A1 b1.length c1,.slice A2 b2.length c2,.slice A3 b3.length c3,.slice A4 b4.length c4,.slice A5 b5.length c5] 23)) fun e w'=>∃ g',e=.returned (.slice (some ⟨g',0,none⟩) 243 243)/\w.heap.size<=g'/\aa w' g' 5 (bl (cR (b1++(b2++(b3++(b4++b5)))))).toArray/\Below w.heap.size w w':=by
 have hcat:fA [⟨A1,c1,b1⟩,⟨A2,c2,b2⟩,⟨A3,c3,b3⟩,⟨A4,c4,b4⟩,⟨A5,c5,b5⟩]=b1++(b2++(b3++(b4++b5))):=by simp [fA]
 have hba:Below w.heap.size w (w.alloc (.cells #[.slice A1 b1.length c1,.slice A2 b2.length c2,.slice A3 b3.length c3,.slice A4 b4.length c4,.slice A5 b5.length c5] 23)):=(bR _ w).alloc (nR _) _
 have hC:=pf (B:=w.heap.size) w.heap.size 5 [⟨A1,c1,b1⟩,⟨A2,c2,b2⟩,⟨A3,c3,b3⟩,⟨A4,c4,b4⟩,⟨A5,c5,b5⟩] (w.alloc (.cells #[.slice A1 b1.length c1,.slice A2 b2.length c2,.slice A3 b3.length c3,.slice A4 b4.length c4,.slice A5 b5.length c5] 23)) (by simp) (fun k p hk=>by
  have hbk:=aa.new w 23 #[.slice A1 b1.length c1,.slice A2 b2.length c2,.slice A3 b3.length c3,.slice A4 b4.length c4,.slice A5 b5.length c5];rw [hbk.cell]
  rcases k with _ | _ | _ | _ | _ | k
  ·cases hk;rfl
  ·cases hk;rfl
  ·cases hk;rfl
  ·cases hk;rfl
  ·cases hk;rfl
  ·simp at hk) (fun p hp=>by
  simp only [List.mem_cons,List.not_mem_nil,or_false] at hp
  rcases hp with rfl | rfl | rfl | rfl | rfl
  ·exact h1.below hba
  ·exact h2.below hba
  ·exact h3.below hba
  ·exact h4.below hba
  ·exact h5.below hba) (by rw [hcat];exact hs) (by simp) (by simp)
 rw [hcat] at hC;refine hC.mono ?_;rintro e w' ⟨g',rfl,hg,hB,hb⟩
 exact ⟨g',rfl,by
  have:(w.alloc (.cells #[.slice A1 b1.length c1,.slice A2 b2.length c2,.slice A3 b3.length c3,.slice A4 b4.length c4,.slice A5 b5.length c5] 23)).heap.size=w.heap.size+1:=by simp
  omega,hB,hba.trans (hb.mono (by simp))⟩
theorem rQ (x:NX) (w:World) (hk:x.kind=1) (hr:x.root<4294967296) (hp:x.pages<4294967296) (hf:x.free<4294967296) (he:x.entries<18446744073709551616) :
 Calls Tryz.prog 82 #[x.val] w fun e w'=>∃ g,e=.returned (.slice (some ⟨g,0,none⟩) 243 243)/\w.heap.size<=g/\aa w' g 5 (bl (aZ x.n)).toArray/\Below w.heap.size w w':=by
 have hbd:aZ x.n=cR (dy++(ag 4 x.root++(ag 4 x.pages++(ag 4 x.free++ag 8 x.entries)))):=by
  unfold aZ;rw [show x.n.kind=1 from hk,if_pos rfl];rfl
 rw [hbd]
 obtain ⟨w1,hw1⟩:∃ w1,w1=w.alloc (.cells x.cells 95):=⟨_,rfl⟩
 have hb1:Below w.heap.size w w1:=by rw [hw1];exact (bR _ w).alloc (nR _) _
 have hN:aa w1 w.heap.size 95 x.cells:=by rw [hw1];exact aa.new _ _ _
 have f0:w1.cell? ⟨w.heap.size,0,none⟩=some (.int .i64 1):=(hN.cell 0).trans (by rw [<-hk];rfl);have f5:w1.cell? ⟨w.heap.size,5,none⟩=some (.int .u32 (x.root:Nat)):=hN.cell 5;have f6:w1.cell? ⟨w.heap.size,6,none⟩=some (.int .u32 (x.pages:Nat)):=hN.cell 6;have f7:w1.cell? ⟨w.heap.size,7,none⟩=some (.int .u32 (x.free:Nat)):=hN.cell 7;have f8:w1.cell? ⟨w.heap.size,8,none⟩=some (.int .u64 (x.entries:Nat)):=hN.cell 8
 obtain ⟨w2,hw2⟩:∃ w2,w2=w1.alloc (.cells #[.int .u32 (x.root:Nat),.int .u32 (x.pages:Nat),.int .u32 (x.free:Nat),.int .u64 (x.entries:Nat)] 79):=⟨_,rfl⟩
 have hb2':Below w1.heap.size w1 w2:=by rw [hw2];exact (bR _ w1).alloc (nR _) _
 have hb2:Below w.heap.size w w2:=hb1.trans (hb2'.mono hb1.size)
 have hH:aa w2 w1.heap.size 79 #[.int .u32 (x.root:Nat),.int .u32 (x.pages:Nat),.int .u32 (x.free:Nat),.int .u64 (x.entries:Nat)]:=by rw [hw2];exact aa.new _ _ _
 have kS:Hid (∀ W,Below w2.heap.size w2 W->(W.cell? ⟨w1.heap.size,0,none⟩=some (.int .u32 (x.root:Nat))/\W.cell? ⟨w1.heap.size,1,none⟩=some (.int .u32 (x.pages:Nat))/\W.cell? ⟨w1.heap.size,2,none⟩=some (.int .u32 (x.free:Nat))/\W.cell? ⟨w1.heap.size,3,none⟩=some (.int .u64 (x.entries:Nat)))):=lH fun W hW=>⟨(hH.below hW hH.lt).cell 0,(hH.below hW hH.lt).cell 1,(hH.below hW hH.lt).cell 2,(hH.below hW hH.lt).cell 3⟩
 have HF1:Hid (∀ W,_):=lH fun W=>fM x.root hr W;have HF2:Hid (∀ W,_):=lH fun W=>fM x.pages hp W;have HF3:Hid (∀ W,_):=lH fun W=>fM x.free hf W;have HF4:Hid (∀ W,_):=lH fun W=>ea x.entries 8 (by omega) (by omega) (by omega) W;have HL:Hid (∀ (W:World) (A1 A2 A3 A4 A5:Option Addr),Reads W W.heap.size 1 A1 dy.length (bl dy)->Reads W W.heap.size 1 A2 (ag 4 x.root).length (bl (ag 4 x.root))->Reads W W.heap.size 1 A3 (ag 4 x.pages).length (bl (ag 4 x.pages))->Reads W W.heap.size 1 A4 (ag 4 x.free).length (bl (ag 4 x.free))->Reads W W.heap.size 1 A5 (ag 8 x.entries).length (bl (ag 8 x.entries))->_):=lH fun W A1 A2 A3 A4 A5 h1 h2 h3 h4 h5=>Hv (c1:=5) (c2:=4) (c3:=4) (c4:=4) (c5:=8) h1 h2 h3 h4 h5 (by simp [fL];decide);simp only [fL,show dy.length=5 from rfl] at HL;unfold NX.val aJ NX.cells at *;rw [hk] at *;have HW1:=lH hw1;have HW2:=lH hw2;clear hN hw1 hw2 hk hbd hH hr hp hf he;go_enter Tryz.func82,Tryz.ntmps82
 go_wp2_with (first | (rw [<-HW1.out]))
 rw [<-HW2.out]
 obtain ⟨v0,hv0⟩:∃ v,v=w2.drew:=⟨_,rfl⟩
 have q0:Below w2.heap.size w2 v0:=by rw [hv0];exact (bR _ w2).drew
 refine bB 16 (fun W0=>W0.cell? ⟨w1.heap.size,0,none⟩=some (.int .u32 (x.root:Nat))/\W0.cell? ⟨w1.heap.size,1,none⟩=some (.int .u32 (x.pages:Nat))/\W0.cell? ⟨w1.heap.size,2,none⟩=some (.int .u32 (x.free:Nat))/\W0.cell? ⟨w1.heap.size,3,none⟩=some (.int .u64 (x.entries:Nat))) (kS.out _ ((bR _ w2).drew)) (fun hHeld hTl=>?_);refine ae 2 hTl hHeld (fun hTl=>?_)
 try simp only [pT]
 refine ae 3 hTl hHeld (fun hTl=>?_)
 try simp only [pT]
 refine ae 5 hTl hHeld (fun hTl=>?_)
 try simp only [pT]
 refine ae 6 hTl hHeld (fun hTl=>?_)
 try simp only [pT]
 refine ae 8 hTl hHeld (fun hTl=>?_)
 try simp only [pT]
 refine ae 9 hTl hHeld (fun hTl=>?_)
 try simp only [pT]
 refine ae 11 hTl hHeld (fun hTl=>?_)
 try simp only [pT]
 refine ae 12 hTl hHeld (fun hTl=>?_)
 try simp only [pT]
 clear hTl;rw [<-hv0];clear hv0;refine gi 0 4 rfl rfl (by kernel_rfl) (fun K hK=>?_) (fun K hK=>?_)
 ·skip
  have s1:Below v0.heap.size v0 (v0.alloc (.cells #[.int .u8 83,.int .u8 67,.int .u8 79,.int .u8 87,.int .u8 49] 5)):=(bR _ _).alloc (nR _) _;have q1:Below w2.heap.size w2 (v0.alloc (.cells #[.int .u8 83,.int .u8 67,.int .u8 79,.int .u8 87,.int .u8 49] 5)):=q0.trans (s1.mono q0.size);go_simp;refine hK.out _ _ (fun _=>kS.out _ q1) ?_;clear hK K
  try simp only [pT]
  have rm1:=eJ v0;have bm1:=aa.new v0 5 #[.int .u8 83,.int .u8 67,.int .u8 79,.int .u8 87,.int .u8 49]
  obtain ⟨v1,hv1⟩:∃ v,v=(v0.alloc (.cells #[.int .u8 83,.int .u8 67,.int .u8 79,.int .u8 87,.int .u8 49] 5)):=⟨_,rfl⟩
  rw [<-hv1] at s1 q1 rm1 bm1  ⊢
  obtain ⟨hm,HM⟩:∃ n,Hid (v0.heap.size=n):=⟨_,lH rfl⟩
  have gm:w2.heap.size<=hm:=by have:=q0.size;have:=HM.out;omega
  rw [HM.out] at rm1 bm1 ⊢;clear hv1 s1 HM;refine gi 1 4 rfl rfl (by kernel_rfl) (fun K hK=>?_) (fun K hK=>?_)
  ·skip
   obtain ⟨v2,hrun2,hc2,hz2,hbl2⟩:=aV 5 5 bm1;have q2:Below w2.heap.size w2 v2:=q1.trans (hbl2 _ gm);go_simp;refine hK.out _ _ (fun _=>kS.out _ q2) ?_;clear hK K
   try simp only [pT]
   have rm1:=rC rm1 hc2;rw [<-hz2] at rm1;clear hrun2 hc2 hz2 hbl2 bm1;refine sP 4 (HF1.out _) ?_
   rintro e v3 ⟨g3,e3,hg3,hB3,s3⟩;subst e3;have q3:Below w2.heap.size w2 v3:=q2.trans (s3.mono q2.size)
   refine ⟨_,rfl,(fun _=>kS.out _ q3),?_⟩
   try simp only [pT]
   have rc3:=rB (b:=ag 4 x.root) hB3 rfl;rw [fL] at rc3;have rm1:=rM (rm1.below s3) s3.size;clear s3 hB3 hg3;refine sP 7 (HF2.out _) ?_
   rintro e v4 ⟨g4,e4,hg4,hB4,s4⟩;subst e4;have q4:Below w2.heap.size w2 v4:=q3.trans (s4.mono q3.size)
   refine ⟨_,rfl,(fun _=>kS.out _ q4),?_⟩
   try simp only [pT]
   have rc4:=rB (b:=ag 4 x.pages) hB4 rfl;rw [fL] at rc4;have rm1:=rM (rm1.below s4) s4.size;have rc3:=rM (rc3.below s4) s4.size;clear s4 hB4 hg4;refine sP 10 (HF3.out _) ?_
   rintro e v5 ⟨g5,e5,hg5,hB5,s5⟩;subst e5;have q5:Below w2.heap.size w2 v5:=q4.trans (s5.mono q4.size)
   refine ⟨_,rfl,(fun _=>kS.out _ q5),?_⟩
   try simp only [pT]
   have rc5:=rB (b:=ag 4 x.free) hB5 rfl;rw [fL] at rc5;have rm1:=rM (rm1.below s5) s5.size;have rc3:=rM (rc3.below s5) s5.size;have rc4:=rM (rc4.below s5) s5.size;clear s5 hB5 hg5;refine sP 13 (HF4.out _) ?_
   rintro e v6 ⟨g6,e6,hg6,hB6,s6⟩;subst e6;have q6:Below w2.heap.size w2 v6:=q5.trans (s6.mono q5.size)
   refine ⟨_,rfl,(fun _=>kS.out _ q6),?_⟩
   try simp only [pT]
   have rc6:=rB (b:=ag 8 x.entries) hB6 rfl;rw [fL] at rc6;have rm1:=rM (rm1.below s6) s6.size;have rc3:=rM (rc3.below s6) s6.size;have rc4:=rM (rc4.below s6) s6.size;have rc5:=rM (rc5.below s6) s6.size;clear s6 hB6 hg6;have hL:=HL.out _ _ _ _ _ _ rm1 rc3 rc4 rc5 rc6;refine aA 14 (fun K hK=>?_);go_simp;refine hK.out _ _ (fun _=>kS.out _ (q6.alloc q6.size _)) ?_;clear hK K
   try simp only [pT]
   refine sP 15 hL ?_;rintro e w5 ⟨g5,e5,hg5,hB5,hb5⟩;subst e5;refine ⟨_,rfl,(fun _=>kS.out _ (q6.trans (hb5.mono q6.size))),?_⟩
   try simp only [pT]
   refine az 16 (fun K hK=>?_);go_simp;refine hK.out _ _ ?_;clear hK K
   try simp only [pT]
   refine cW ?_ _;go_wp2;go_ret;have hz:=hb2.trans (q6.mono hb2.size);exact ⟨g5,rfl,nT hz.size hg5,hB5,hz.trans (hb5.mono hz.size)⟩
  ·skip
   refine sC rfl 114 _ (by go_simp) (HF1.out _) ?_
   rintro e v8 ⟨g8,e8,hg8,hB8,s8⟩;subst e8;refine ⟨_,rfl,?_⟩;have q8:Below w2.heap.size w2 v8:=q1.trans (s8.mono q1.size)
   refine hK.out _ _ (fun _=>kS.out _ q8) ?_;clear hK K
   try simp only [pT]
   have rc8:=rB (b:=ag 4 x.root) hB8 rfl;rw [fL] at rc8;have rm1:=rM (rm1.below s8) s8.size;have bm1:=bm1.below s8 bm1.lt;clear s8 hB8 hg8;refine gi 1 7 rfl rfl (by kernel_rfl) (fun K hK=>?_) (fun K hK=>?_)
   ·skip
    obtain ⟨v9,hrun9,hc9,hz9,hbl9⟩:=aV 5 5 bm1;have q9:Below w2.heap.size w2 v9:=q8.trans (hbl9 _ gm);go_simp;refine hK.out _ _ (fun _=>kS.out _ q9) ?_;clear hK K
    try simp only [pT]
    have rm1:=rC rm1 hc9;have rc8:=rC rc8 hc9;rw [<-hz9] at rm1 rc8;clear hrun9 hc9 hz9 hbl9 bm1;refine sP 7 (HF2.out _) ?_
    rintro e v10 ⟨g10,e10,hg10,hB10,s10⟩;subst e10;have q10:Below w2.heap.size w2 v10:=q9.trans (s10.mono q9.size)
    refine ⟨_,rfl,(fun _=>kS.out _ q10),?_⟩
    try simp only [pT]
    have rc10:=rB (b:=ag 4 x.pages) hB10 rfl;rw [fL] at rc10;have rm1:=rM (rm1.below s10) s10.size;have rc8:=rM (rc8.below s10) s10.size;clear s10 hB10 hg10;refine sP 10 (HF3.out _) ?_
    rintro e v11 ⟨g11,e11,hg11,hB11,s11⟩;subst e11;have q11:Below w2.heap.size w2 v11:=q10.trans (s11.mono q10.size)
    refine ⟨_,rfl,(fun _=>kS.out _ q11),?_⟩
    try simp only [pT]
    have rc11:=rB (b:=ag 4 x.free) hB11 rfl;rw [fL] at rc11;have rm1:=rM (rm1.below s11) s11.size;have rc8:=rM (rc8.below s11) s11.size;have rc10:=rM (rc10.below s11) s11.size;clear s11 hB11 hg11;refine sP 13 (HF4.out _) ?_
    rintro e v12 ⟨g12,e12,hg12,hB12,s12⟩;subst e12;have q12:Below w2.heap.size w2 v12:=q11.trans (s12.mono q11.size)
    refine ⟨_,rfl,(fun _=>kS.out _ q12),?_⟩
    try simp only [pT]
    have rc12:=rB (b:=ag 8 x.entries) hB12 rfl;rw [fL] at rc12;have rm1:=rM (rm1.below s12) s12.size;have rc8:=rM (rc8.below s12) s12.size;have rc10:=rM (rc10.below s12) s12.size;have rc11:=rM (rc11.below s12) s12.size;clear s12 hB12 hg12;have hL:=HL.out _ _ _ _ _ _ rm1 rc8 rc10 rc11 rc12;refine aA 14 (fun K hK=>?_);go_simp;refine hK.out _ _ (fun _=>kS.out _ (q12.alloc q12.size _)) ?_;clear hK K
    try simp only [pT]
    refine sP 15 hL ?_;rintro e w5 ⟨g5,e5,hg5,hB5,hb5⟩;subst e5;refine ⟨_,rfl,(fun _=>kS.out _ (q12.trans (hb5.mono q12.size))),?_⟩
    try simp only [pT]
    refine az 16 (fun K hK=>?_);go_simp;refine hK.out _ _ ?_;clear hK K
    try simp only [pT]
    refine cW ?_ _;go_wp2;go_ret;have hz:=hb2.trans (q12.mono hb2.size);exact ⟨g5,rfl,nT hz.size hg5,hB5,hz.trans (hb5.mono hz.size)⟩
   ·skip
    refine sC rfl 114 _ (by go_simp) (HF2.out _) ?_
    rintro e v14 ⟨g14,e14,hg14,hB14,s14⟩;subst e14;refine ⟨_,rfl,?_⟩;have q14:Below w2.heap.size w2 v14:=q8.trans (s14.mono q8.size)
    refine hK.out _ _ (fun _=>kS.out _ q14) ?_;clear hK K
    try simp only [pT]
    have rc14:=rB (b:=ag 4 x.pages) hB14 rfl;rw [fL] at rc14;have rm1:=rM (rm1.below s14) s14.size;have rc8:=rM (rc8.below s14) s14.size;have bm1:=bm1.below s14 bm1.lt;clear s14 hB14 hg14;refine gi 1 10 rfl rfl (by kernel_rfl) (fun K hK=>?_) (fun K hK=>?_)
    ·skip
     obtain ⟨v15,hrun15,hc15,hz15,hbl15⟩:=aV 5 5 bm1;have q15:Below w2.heap.size w2 v15:=q14.trans (hbl15 _ gm);go_simp;refine hK.out _ _ (fun _=>kS.out _ q15) ?_;clear hK K
     try simp only [pT]
     have rm1:=rC rm1 hc15;have rc8:=rC rc8 hc15;have rc14:=rC rc14 hc15;rw [<-hz15] at rm1 rc8 rc14;clear hrun15 hc15 hz15 hbl15 bm1;refine sP 10 (HF3.out _) ?_
     rintro e v16 ⟨g16,e16,hg16,hB16,s16⟩;subst e16;have q16:Below w2.heap.size w2 v16:=q15.trans (s16.mono q15.size)
     refine ⟨_,rfl,(fun _=>kS.out _ q16),?_⟩
     try simp only [pT]
     have rc16:=rB (b:=ag 4 x.free) hB16 rfl;rw [fL] at rc16;have rm1:=rM (rm1.below s16) s16.size;have rc8:=rM (rc8.below s16) s16.size;have rc14:=rM (rc14.below s16) s16.size;clear s16 hB16 hg16;refine sP 13 (HF4.out _) ?_
     rintro e v17 ⟨g17,e17,hg17,hB17,s17⟩;subst e17;have q17:Below w2.heap.size w2 v17:=q16.trans (s17.mono q16.size)
     refine ⟨_,rfl,(fun _=>kS.out _ q17),?_⟩
     try simp only [pT]
     have rc17:=rB (b:=ag 8 x.entries) hB17 rfl;rw [fL] at rc17;have rm1:=rM (rm1.below s17) s17.size;have rc8:=rM (rc8.below s17) s17.size;have rc14:=rM (rc14.below s17) s17.size;have rc16:=rM (rc16.below s17) s17.size;clear s17 hB17 hg17;have hL:=HL.out _ _ _ _ _ _ rm1 rc8 rc14 rc16 rc17;refine aA 14 (fun K hK=>?_);go_simp;refine hK.out _ _ (fun _=>kS.out _ (q17.alloc q17.size _)) ?_;clear hK K
     try simp only [pT]
     refine sP 15 hL ?_;rintro e w5 ⟨g5,e5,hg5,hB5,hb5⟩;subst e5;refine ⟨_,rfl,(fun _=>kS.out _ (q17.trans (hb5.mono q17.size))),?_⟩
     try simp only [pT]
     refine az 16 (fun K hK=>?_);go_simp;refine hK.out _ _ ?_;clear hK K
     try simp only [pT]
     refine cW ?_ _;go_wp2;go_ret;have hz:=hb2.trans (q17.mono hb2.size);exact ⟨g5,rfl,nT hz.size hg5,hB5,hz.trans (hb5.mono hz.size)⟩
    ·skip
     refine sC rfl 114 _ (by go_simp) (HF3.out _) ?_
     rintro e v19 ⟨g19,e19,hg19,hB19,s19⟩;subst e19;refine ⟨_,rfl,?_⟩;have q19:Below w2.heap.size w2 v19:=q14.trans (s19.mono q14.size)
     refine hK.out _ _ (fun _=>kS.out _ q19) ?_;clear hK K
     try simp only [pT]
     have rc19:=rB (b:=ag 4 x.free) hB19 rfl;rw [fL] at rc19;have rm1:=rM (rm1.below s19) s19.size;have rc8:=rM (rc8.below s19) s19.size;have rc14:=rM (rc14.below s19) s19.size;have bm1:=bm1.below s19 bm1.lt;clear s19 hB19 hg19;refine gi 1 13 rfl rfl (by kernel_rfl) (fun K hK=>?_) (fun K hK=>?_)
     ·skip
      obtain ⟨v20,hrun20,hc20,hz20,hbl20⟩:=aV 5 5 bm1;have q20:Below w2.heap.size w2 v20:=q19.trans (hbl20 _ gm);go_simp;refine hK.out _ _ (fun _=>kS.out _ q20) ?_;clear hK K
      try simp only [pT]
      have rm1:=rC rm1 hc20;have rc8:=rC rc8 hc20;have rc14:=rC rc14 hc20;have rc19:=rC rc19 hc20;rw [<-hz20] at rm1 rc8 rc14 rc19;clear hrun20 hc20 hz20 hbl20 bm1;refine sP 13 (HF4.out _) ?_
      rintro e v21 ⟨g21,e21,hg21,hB21,s21⟩;subst e21;have q21:Below w2.heap.size w2 v21:=q20.trans (s21.mono q20.size)
      refine ⟨_,rfl,(fun _=>kS.out _ q21),?_⟩
      try simp only [pT]
      have rc21:=rB (b:=ag 8 x.entries) hB21 rfl;rw [fL] at rc21;have rm1:=rM (rm1.below s21) s21.size;have rc8:=rM (rc8.below s21) s21.size;have rc14:=rM (rc14.below s21) s21.size;have rc19:=rM (rc19.below s21) s21.size;clear s21 hB21 hg21;have hL:=HL.out _ _ _ _ _ _ rm1 rc8 rc14 rc19 rc21;refine aA 14 (fun K hK=>?_);go_simp;refine hK.out _ _ (fun _=>kS.out _ (q21.alloc q21.size _)) ?_;clear hK K
      try simp only [pT]
      refine sP 15 hL ?_;rintro e w5 ⟨g5,e5,hg5,hB5,hb5⟩;subst e5;refine ⟨_,rfl,(fun _=>kS.out _ (q21.trans (hb5.mono q21.size))),?_⟩
      try simp only [pT]
      refine az 16 (fun K hK=>?_);go_simp;refine hK.out _ _ ?_;clear hK K
      try simp only [pT]
      refine cW ?_ _;go_wp2;go_ret;have hz:=hb2.trans (q21.mono hb2.size);exact ⟨g5,rfl,nT hz.size hg5,hB5,hz.trans (hb5.mono hz.size)⟩
     ·skip
      refine sC rfl 115 _ (by go_simp) (HF4.out _) ?_
      rintro e v23 ⟨g23,e23,hg23,hB23,s23⟩;subst e23;refine ⟨_,rfl,?_⟩;have q23:Below w2.heap.size w2 v23:=q19.trans (s23.mono q19.size)
      refine hK.out _ _ (fun _=>kS.out _ q23) ?_;clear hK K
      try simp only [pT]
      have rc23:=rB (b:=ag 8 x.entries) hB23 rfl;rw [fL] at rc23;have rm1:=rM (rm1.below s23) s23.size;have rc8:=rM (rc8.below s23) s23.size;have rc14:=rM (rc14.below s23) s23.size;have rc19:=rM (rc19.below s23) s23.size;have bm1:=bm1.below s23 bm1.lt;clear s23 hB23 hg23;obtain ⟨v24,hrun24,hc24,hz24,hbl24⟩:=aV 5 5 bm1;have q24:Below w2.heap.size w2 v24:=q23.trans (hbl24 _ gm);refine aA 1 (fun K hK=>?_);go_simp;refine hK.out _ _ (fun _=>kS.out _ q24) ?_;clear hK K
      try simp only [pT]
      have rm1:=rC rm1 hc24;have rc8:=rC rc8 hc24;have rc14:=rC rc14 hc24;have rc19:=rC rc19 hc24;have rc23:=rC rc23 hc24;rw [<-hz24] at rm1 rc8 rc14 rc19 rc23;clear hrun24 hc24 hz24 hbl24 bm1;have hL:=HL.out _ _ _ _ _ _ rm1 rc8 rc14 rc19 rc23;refine aA 14 (fun K hK=>?_);go_simp;refine hK.out _ _ (fun _=>kS.out _ (q24.alloc q24.size _)) ?_;clear hK K
      try simp only [pT]
      refine sP 15 hL ?_;rintro e w5 ⟨g5,e5,hg5,hB5,hb5⟩;subst e5;refine ⟨_,rfl,(fun _=>kS.out _ (q24.trans (hb5.mono q24.size))),?_⟩
      try simp only [pT]
      refine az 16 (fun K hK=>?_);go_simp;refine hK.out _ _ ?_;clear hK K
      try simp only [pT]
      refine cW ?_ _;go_wp2;go_ret;have hz:=hb2.trans (q24.mono hb2.size);exact ⟨g5,rfl,nT hz.size hg5,hB5,hz.trans (hb5.mono hz.size)⟩
 ·skip
  refine sC rfl 114 _ (by go_simp) (HF1.out _) ?_
  rintro e v26 ⟨g26,e26,hg26,hB26,s26⟩;subst e26;refine ⟨_,rfl,?_⟩;have q26:Below w2.heap.size w2 v26:=q0.trans (s26.mono q0.size)
  refine hK.out _ _ (fun _=>kS.out _ q26) ?_;clear hK K
  try simp only [pT]
  have rc26:=rB (b:=ag 4 x.root) hB26 rfl;rw [fL] at rc26;clear s26 hB26 hg26;refine gi 0 7 rfl rfl (by kernel_rfl) (fun K hK=>?_) (fun K hK=>?_)
  ·skip
   have s27:Below v26.heap.size v26 (v26.alloc (.cells #[.int .u8 83,.int .u8 67,.int .u8 79,.int .u8 87,.int .u8 49] 5)):=(bR _ _).alloc (nR _) _;have q27:Below w2.heap.size w2 (v26.alloc (.cells #[.int .u8 83,.int .u8 67,.int .u8 79,.int .u8 87,.int .u8 49] 5)):=q26.trans (s27.mono q26.size);go_simp;refine hK.out _ _ (fun _=>kS.out _ q27) ?_;clear hK K
   try simp only [pT]
   have rm27:=eJ v26;have bm27:=aa.new v26 5 #[.int .u8 83,.int .u8 67,.int .u8 79,.int .u8 87,.int .u8 49];have rc26:=rM (rc26.below s27) s27.size
   obtain ⟨v27,hv27⟩:∃ v,v=(v26.alloc (.cells #[.int .u8 83,.int .u8 67,.int .u8 79,.int .u8 87,.int .u8 49] 5)):=⟨_,rfl⟩
   rw [<-hv27] at s27 q27 rm27 bm27 rc26 ⊢
   obtain ⟨hm,HM⟩:∃ n,Hid (v26.heap.size=n):=⟨_,lH rfl⟩
   have gm:w2.heap.size<=hm:=by have:=q26.size;have:=HM.out;omega
   rw [HM.out] at rm27 bm27 ⊢;clear hv27 s27 HM;refine gi 1 7 rfl rfl (by kernel_rfl) (fun K hK=>?_) (fun K hK=>?_)
   ·skip
    obtain ⟨v28,hrun28,hc28,hz28,hbl28⟩:=aV 5 5 bm27;have q28:Below w2.heap.size w2 v28:=q27.trans (hbl28 _ gm);go_simp;refine hK.out _ _ (fun _=>kS.out _ q28) ?_;clear hK K
    try simp only [pT]
    have rc26:=rC rc26 hc28;have rm27:=rC rm27 hc28;rw [<-hz28] at rc26 rm27;clear hrun28 hc28 hz28 hbl28 bm27;refine sP 7 (HF2.out _) ?_
    rintro e v29 ⟨g29,e29,hg29,hB29,s29⟩;subst e29;have q29:Below w2.heap.size w2 v29:=q28.trans (s29.mono q28.size)
    refine ⟨_,rfl,(fun _=>kS.out _ q29),?_⟩
    try simp only [pT]
    have rc29:=rB (b:=ag 4 x.pages) hB29 rfl;rw [fL] at rc29;have rc26:=rM (rc26.below s29) s29.size;have rm27:=rM (rm27.below s29) s29.size;clear s29 hB29 hg29;refine sP 10 (HF3.out _) ?_
    rintro e v30 ⟨g30,e30,hg30,hB30,s30⟩;subst e30;have q30:Below w2.heap.size w2 v30:=q29.trans (s30.mono q29.size)
    refine ⟨_,rfl,(fun _=>kS.out _ q30),?_⟩
    try simp only [pT]
    have rc30:=rB (b:=ag 4 x.free) hB30 rfl;rw [fL] at rc30;have rc26:=rM (rc26.below s30) s30.size;have rm27:=rM (rm27.below s30) s30.size;have rc29:=rM (rc29.below s30) s30.size;clear s30 hB30 hg30;refine sP 13 (HF4.out _) ?_
    rintro e v31 ⟨g31,e31,hg31,hB31,s31⟩;subst e31;have q31:Below w2.heap.size w2 v31:=q30.trans (s31.mono q30.size)
    refine ⟨_,rfl,(fun _=>kS.out _ q31),?_⟩
    try simp only [pT]
    have rc31:=rB (b:=ag 8 x.entries) hB31 rfl;rw [fL] at rc31;have rc26:=rM (rc26.below s31) s31.size;have rm27:=rM (rm27.below s31) s31.size;have rc29:=rM (rc29.below s31) s31.size;have rc30:=rM (rc30.below s31) s31.size;clear s31 hB31 hg31;have hL:=HL.out _ _ _ _ _ _ rm27 rc26 rc29 rc30 rc31;refine aA 14 (fun K hK=>?_);go_simp;refine hK.out _ _ (fun _=>kS.out _ (q31.alloc q31.size _)) ?_;clear hK K
    try simp only [pT]
    refine sP 15 hL ?_;rintro e w5 ⟨g5,e5,hg5,hB5,hb5⟩;subst e5;refine ⟨_,rfl,(fun _=>kS.out _ (q31.trans (hb5.mono q31.size))),?_⟩
    try simp only [pT]
    refine az 16 (fun K hK=>?_);go_simp;refine hK.out _ _ ?_;clear hK K
    try simp only [pT]
    refine cW ?_ _;go_wp2;go_ret;have hz:=hb2.trans (q31.mono hb2.size);exact ⟨g5,rfl,nT hz.size hg5,hB5,hz.trans (hb5.mono hz.size)⟩
   ·skip
    refine sC rfl 114 _ (by go_simp) (HF2.out _) ?_
    rintro e v33 ⟨g33,e33,hg33,hB33,s33⟩;subst e33;refine ⟨_,rfl,?_⟩;have q33:Below w2.heap.size w2 v33:=q27.trans (s33.mono q27.size)
    refine hK.out _ _ (fun _=>kS.out _ q33) ?_;clear hK K
    try simp only [pT]
    have rc33:=rB (b:=ag 4 x.pages) hB33 rfl;rw [fL] at rc33;have rc26:=rM (rc26.below s33) s33.size;have rm27:=rM (rm27.below s33) s33.size;have bm27:=bm27.below s33 bm27.lt;clear s33 hB33 hg33;refine gi 1 10 rfl rfl (by kernel_rfl) (fun K hK=>?_) (fun K hK=>?_)
    ·skip
     obtain ⟨v34,hrun34,hc34,hz34,hbl34⟩:=aV 5 5 bm27;have q34:Below w2.heap.size w2 v34:=q33.trans (hbl34 _ gm);go_simp;refine hK.out _ _ (fun _=>kS.out _ q34) ?_;clear hK K
     try simp only [pT]
     have rc26:=rC rc26 hc34;have rm27:=rC rm27 hc34;have rc33:=rC rc33 hc34;rw [<-hz34] at rc26 rm27 rc33;clear hrun34 hc34 hz34 hbl34 bm27;refine sP 10 (HF3.out _) ?_
     rintro e v35 ⟨g35,e35,hg35,hB35,s35⟩;subst e35;have q35:Below w2.heap.size w2 v35:=q34.trans (s35.mono q34.size)
     refine ⟨_,rfl,(fun _=>kS.out _ q35),?_⟩
     try simp only [pT]
     have rc35:=rB (b:=ag 4 x.free) hB35 rfl;rw [fL] at rc35;have rc26:=rM (rc26.below s35) s35.size;have rm27:=rM (rm27.below s35) s35.size;have rc33:=rM (rc33.below s35) s35.size;clear s35 hB35 hg35;refine sP 13 (HF4.out _) ?_
     rintro e v36 ⟨g36,e36,hg36,hB36,s36⟩;subst e36;have q36:Below w2.heap.size w2 v36:=q35.trans (s36.mono q35.size)
     refine ⟨_,rfl,(fun _=>kS.out _ q36),?_⟩
     try simp only [pT]
     have rc36:=rB (b:=ag 8 x.entries) hB36 rfl;rw [fL] at rc36;have rc26:=rM (rc26.below s36) s36.size;have rm27:=rM (rm27.below s36) s36.size;have rc33:=rM (rc33.below s36) s36.size;have rc35:=rM (rc35.below s36) s36.size;clear s36 hB36 hg36;have hL:=HL.out _ _ _ _ _ _ rm27 rc26 rc33 rc35 rc36;refine aA 14 (fun K hK=>?_);go_simp;refine hK.out _ _ (fun _=>kS.out _ (q36.alloc q36.size _)) ?_;clear hK K
     try simp only [pT]
     refine sP 15 hL ?_;rintro e w5 ⟨g5,e5,hg5,hB5,hb5⟩;subst e5;refine ⟨_,rfl,(fun _=>kS.out _ (q36.trans (hb5.mono q36.size))),?_⟩
     try simp only [pT]
     refine az 16 (fun K hK=>?_);go_simp;refine hK.out _ _ ?_;clear hK K
     try simp only [pT]
     refine cW ?_ _;go_wp2;go_ret;have hz:=hb2.trans (q36.mono hb2.size);exact ⟨g5,rfl,nT hz.size hg5,hB5,hz.trans (hb5.mono hz.size)⟩
    ·skip
     refine sC rfl 114 _ (by go_simp) (HF3.out _) ?_
     rintro e v38 ⟨g38,e38,hg38,hB38,s38⟩;subst e38;refine ⟨_,rfl,?_⟩;have q38:Below w2.heap.size w2 v38:=q33.trans (s38.mono q33.size)
     refine hK.out _ _ (fun _=>kS.out _ q38) ?_;clear hK K
     try simp only [pT]
     have rc38:=rB (b:=ag 4 x.free) hB38 rfl;rw [fL] at rc38;have rc26:=rM (rc26.below s38) s38.size;have rm27:=rM (rm27.below s38) s38.size;have rc33:=rM (rc33.below s38) s38.size;have bm27:=bm27.below s38 bm27.lt;clear s38 hB38 hg38;refine gi 1 13 rfl rfl (by kernel_rfl) (fun K hK=>?_) (fun K hK=>?_)
     ·skip
      obtain ⟨v39,hrun39,hc39,hz39,hbl39⟩:=aV 5 5 bm27;have q39:Below w2.heap.size w2 v39:=q38.trans (hbl39 _ gm);go_simp;refine hK.out _ _ (fun _=>kS.out _ q39) ?_;clear hK K
      try simp only [pT]
      have rc26:=rC rc26 hc39;have rm27:=rC rm27 hc39;have rc33:=rC rc33 hc39;have rc38:=rC rc38 hc39;rw [<-hz39] at rc26 rm27 rc33 rc38;clear hrun39 hc39 hz39 hbl39 bm27;refine sP 13 (HF4.out _) ?_
      rintro e v40 ⟨g40,e40,hg40,hB40,s40⟩;subst e40;have q40:Below w2.heap.size w2 v40:=q39.trans (s40.mono q39.size)
      refine ⟨_,rfl,(fun _=>kS.out _ q40),?_⟩
      try simp only [pT]
      have rc40:=rB (b:=ag 8 x.entries) hB40 rfl;rw [fL] at rc40;have rc26:=rM (rc26.below s40) s40.size;have rm27:=rM (rm27.below s40) s40.size;have rc33:=rM (rc33.below s40) s40.size;have rc38:=rM (rc38.below s40) s40.size;clear s40 hB40 hg40;have hL:=HL.out _ _ _ _ _ _ rm27 rc26 rc33 rc38 rc40;refine aA 14 (fun K hK=>?_);go_simp;refine hK.out _ _ (fun _=>kS.out _ (q40.alloc q40.size _)) ?_;clear hK K
      try simp only [pT]
      refine sP 15 hL ?_;rintro e w5 ⟨g5,e5,hg5,hB5,hb5⟩;subst e5;refine ⟨_,rfl,(fun _=>kS.out _ (q40.trans (hb5.mono q40.size))),?_⟩
      try simp only [pT]
      refine az 16 (fun K hK=>?_);go_simp;refine hK.out _ _ ?_;clear hK K
      try simp only [pT]
      refine cW ?_ _;go_wp2;go_ret;have hz:=hb2.trans (q40.mono hb2.size);exact ⟨g5,rfl,nT hz.size hg5,hB5,hz.trans (hb5.mono hz.size)⟩
     ·skip
      refine sC rfl 115 _ (by go_simp) (HF4.out _) ?_
      rintro e v42 ⟨g42,e42,hg42,hB42,s42⟩;subst e42;refine ⟨_,rfl,?_⟩;have q42:Below w2.heap.size w2 v42:=q38.trans (s42.mono q38.size)
      refine hK.out _ _ (fun _=>kS.out _ q42) ?_;clear hK K
      try simp only [pT]
      have rc42:=rB (b:=ag 8 x.entries) hB42 rfl;rw [fL] at rc42;have rc26:=rM (rc26.below s42) s42.size;have rm27:=rM (rm27.below s42) s42.size;have rc33:=rM (rc33.below s42) s42.size;have rc38:=rM (rc38.below s42) s42.size;have bm27:=bm27.below s42 bm27.lt;clear s42 hB42 hg42;obtain ⟨v43,hrun43,hc43,hz43,hbl43⟩:=aV 5 5 bm27;have q43:Below w2.heap.size w2 v43:=q42.trans (hbl43 _ gm);refine aA 1 (fun K hK=>?_);go_simp;refine hK.out _ _ (fun _=>kS.out _ q43) ?_;clear hK K
      try simp only [pT]
      have rc26:=rC rc26 hc43;have rm27:=rC rm27 hc43;have rc33:=rC rc33 hc43;have rc38:=rC rc38 hc43;have rc42:=rC rc42 hc43;rw [<-hz43] at rc26 rm27 rc33 rc38 rc42;clear hrun43 hc43 hz43 hbl43 bm27;have hL:=HL.out _ _ _ _ _ _ rm27 rc26 rc33 rc38 rc42;refine aA 14 (fun K hK=>?_);go_simp;refine hK.out _ _ (fun _=>kS.out _ (q43.alloc q43.size _)) ?_;clear hK K
      try simp only [pT]
      refine sP 15 hL ?_;rintro e w5 ⟨g5,e5,hg5,hB5,hb5⟩;subst e5;refine ⟨_,rfl,(fun _=>kS.out _ (q43.trans (hb5.mono q43.size))),?_⟩
      try simp only [pT]
      refine az 16 (fun K hK=>?_);go_simp;refine hK.out _ _ ?_;clear hK K
      try simp only [pT]
      refine cW ?_ _;go_wp2;go_ret;have hz:=hb2.trans (q43.mono hb2.size);exact ⟨g5,rfl,nT hz.size hg5,hB5,hz.trans (hb5.mono hz.size)⟩
  ·skip
   refine sC rfl 114 _ (by go_simp) (HF2.out _) ?_
   rintro e v45 ⟨g45,e45,hg45,hB45,s45⟩;subst e45;refine ⟨_,rfl,?_⟩;have q45:Below w2.heap.size w2 v45:=q26.trans (s45.mono q26.size)
   refine hK.out _ _ (fun _=>kS.out _ q45) ?_;clear hK K
   try simp only [pT]
   have rc45:=rB (b:=ag 4 x.pages) hB45 rfl;rw [fL] at rc45;have rc26:=rM (rc26.below s45) s45.size;clear s45 hB45 hg45;refine gi 0 10 rfl rfl (by kernel_rfl) (fun K hK=>?_) (fun K hK=>?_)
   ·skip
    have s46:Below v45.heap.size v45 (v45.alloc (.cells #[.int .u8 83,.int .u8 67,.int .u8 79,.int .u8 87,.int .u8 49] 5)):=(bR _ _).alloc (nR _) _;have q46:Below w2.heap.size w2 (v45.alloc (.cells #[.int .u8 83,.int .u8 67,.int .u8 79,.int .u8 87,.int .u8 49] 5)):=q45.trans (s46.mono q45.size);go_simp;refine hK.out _ _ (fun _=>kS.out _ q46) ?_;clear hK K
    try simp only [pT]
    have rm46:=eJ v45;have bm46:=aa.new v45 5 #[.int .u8 83,.int .u8 67,.int .u8 79,.int .u8 87,.int .u8 49];have rc26:=rM (rc26.below s46) s46.size;have rc45:=rM (rc45.below s46) s46.size
    obtain ⟨v46,hv46⟩:∃ v,v=(v45.alloc (.cells #[.int .u8 83,.int .u8 67,.int .u8 79,.int .u8 87,.int .u8 49] 5)):=⟨_,rfl⟩
    rw [<-hv46] at s46 q46 rm46 bm46 rc26 rc45 ⊢
    obtain ⟨hm,HM⟩:∃ n,Hid (v45.heap.size=n):=⟨_,lH rfl⟩
    have gm:w2.heap.size<=hm:=by have:=q45.size;have:=HM.out;omega
    rw [HM.out] at rm46 bm46 ⊢;clear hv46 s46 HM;refine gi 1 10 rfl rfl (by kernel_rfl) (fun K hK=>?_) (fun K hK=>?_)
    ·skip
     obtain ⟨v47,hrun47,hc47,hz47,hbl47⟩:=aV 5 5 bm46;have q47:Below w2.heap.size w2 v47:=q46.trans (hbl47 _ gm);go_simp;refine hK.out _ _ (fun _=>kS.out _ q47) ?_;clear hK K
     try simp only [pT]
     have rc26:=rC rc26 hc47;have rc45:=rC rc45 hc47;have rm46:=rC rm46 hc47;rw [<-hz47] at rc26 rc45 rm46;clear hrun47 hc47 hz47 hbl47 bm46;refine sP 10 (HF3.out _) ?_
     rintro e v48 ⟨g48,e48,hg48,hB48,s48⟩;subst e48;have q48:Below w2.heap.size w2 v48:=q47.trans (s48.mono q47.size)
     refine ⟨_,rfl,(fun _=>kS.out _ q48),?_⟩
     try simp only [pT]
     have rc48:=rB (b:=ag 4 x.free) hB48 rfl;rw [fL] at rc48;have rc26:=rM (rc26.below s48) s48.size;have rc45:=rM (rc45.below s48) s48.size;have rm46:=rM (rm46.below s48) s48.size;clear s48 hB48 hg48;refine sP 13 (HF4.out _) ?_
     rintro e v49 ⟨g49,e49,hg49,hB49,s49⟩;subst e49;have q49:Below w2.heap.size w2 v49:=q48.trans (s49.mono q48.size)
     refine ⟨_,rfl,(fun _=>kS.out _ q49),?_⟩
     try simp only [pT]
     have rc49:=rB (b:=ag 8 x.entries) hB49 rfl;rw [fL] at rc49;have rc26:=rM (rc26.below s49) s49.size;have rc45:=rM (rc45.below s49) s49.size;have rm46:=rM (rm46.below s49) s49.size;have rc48:=rM (rc48.below s49) s49.size;clear s49 hB49 hg49;have hL:=HL.out _ _ _ _ _ _ rm46 rc26 rc45 rc48 rc49;refine aA 14 (fun K hK=>?_);go_simp;refine hK.out _ _ (fun _=>kS.out _ (q49.alloc q49.size _)) ?_;clear hK K
     try simp only [pT]
     refine sP 15 hL ?_;rintro e w5 ⟨g5,e5,hg5,hB5,hb5⟩;subst e5;refine ⟨_,rfl,(fun _=>kS.out _ (q49.trans (hb5.mono q49.size))),?_⟩
     try simp only [pT]
     refine az 16 (fun K hK=>?_);go_simp;refine hK.out _ _ ?_;clear hK K
     try simp only [pT]
     refine cW ?_ _;go_wp2;go_ret;have hz:=hb2.trans (q49.mono hb2.size);exact ⟨g5,rfl,nT hz.size hg5,hB5,hz.trans (hb5.mono hz.size)⟩
    ·skip
     refine sC rfl 114 _ (by go_simp) (HF3.out _) ?_
     rintro e v51 ⟨g51,e51,hg51,hB51,s51⟩;subst e51;refine ⟨_,rfl,?_⟩;have q51:Below w2.heap.size w2 v51:=q46.trans (s51.mono q46.size)
     refine hK.out _ _ (fun _=>kS.out _ q51) ?_;clear hK K
     try simp only [pT]
     have rc51:=rB (b:=ag 4 x.free) hB51 rfl;rw [fL] at rc51;have rc26:=rM (rc26.below s51) s51.size;have rc45:=rM (rc45.below s51) s51.size;have rm46:=rM (rm46.below s51) s51.size;have bm46:=bm46.below s51 bm46.lt;clear s51 hB51 hg51;refine gi 1 13 rfl rfl (by kernel_rfl) (fun K hK=>?_) (fun K hK=>?_)
     ·skip
      obtain ⟨v52,hrun52,hc52,hz52,hbl52⟩:=aV 5 5 bm46;have q52:Below w2.heap.size w2 v52:=q51.trans (hbl52 _ gm);go_simp;refine hK.out _ _ (fun _=>kS.out _ q52) ?_;clear hK K
      try simp only [pT]
      have rc26:=rC rc26 hc52;have rc45:=rC rc45 hc52;have rm46:=rC rm46 hc52;have rc51:=rC rc51 hc52;rw [<-hz52] at rc26 rc45 rm46 rc51;clear hrun52 hc52 hz52 hbl52 bm46;refine sP 13 (HF4.out _) ?_
      rintro e v53 ⟨g53,e53,hg53,hB53,s53⟩;subst e53;have q53:Below w2.heap.size w2 v53:=q52.trans (s53.mono q52.size)
      refine ⟨_,rfl,(fun _=>kS.out _ q53),?_⟩
      try simp only [pT]
      have rc53:=rB (b:=ag 8 x.entries) hB53 rfl;rw [fL] at rc53;have rc26:=rM (rc26.below s53) s53.size;have rc45:=rM (rc45.below s53) s53.size;have rm46:=rM (rm46.below s53) s53.size;have rc51:=rM (rc51.below s53) s53.size;clear s53 hB53 hg53;have hL:=HL.out _ _ _ _ _ _ rm46 rc26 rc45 rc51 rc53;refine aA 14 (fun K hK=>?_);go_simp;refine hK.out _ _ (fun _=>kS.out _ (q53.alloc q53.size _)) ?_;clear hK K
      try simp only [pT]
      refine sP 15 hL ?_;rintro e w5 ⟨g5,e5,hg5,hB5,hb5⟩;subst e5;refine ⟨_,rfl,(fun _=>kS.out _ (q53.trans (hb5.mono q53.size))),?_⟩
      try simp only [pT]
      refine az 16 (fun K hK=>?_);go_simp;refine hK.out _ _ ?_;clear hK K
      try simp only [pT]
      refine cW ?_ _;go_wp2;go_ret;have hz:=hb2.trans (q53.mono hb2.size);exact ⟨g5,rfl,nT hz.size hg5,hB5,hz.trans (hb5.mono hz.size)⟩
     ·skip
      refine sC rfl 115 _ (by go_simp) (HF4.out _) ?_
      rintro e v55 ⟨g55,e55,hg55,hB55,s55⟩;subst e55;refine ⟨_,rfl,?_⟩;have q55:Below w2.heap.size w2 v55:=q51.trans (s55.mono q51.size)
      refine hK.out _ _ (fun _=>kS.out _ q55) ?_;clear hK K
      try simp only [pT]
      have rc55:=rB (b:=ag 8 x.entries) hB55 rfl;rw [fL] at rc55;have rc26:=rM (rc26.below s55) s55.size;have rc45:=rM (rc45.below s55) s55.size;have rm46:=rM (rm46.below s55) s55.size;have rc51:=rM (rc51.below s55) s55.size;have bm46:=bm46.below s55 bm46.lt;clear s55 hB55 hg55;obtain ⟨v56,hrun56,hc56,hz56,hbl56⟩:=aV 5 5 bm46;have q56:Below w2.heap.size w2 v56:=q55.trans (hbl56 _ gm);refine aA 1 (fun K hK=>?_);go_simp;refine hK.out _ _ (fun _=>kS.out _ q56) ?_;clear hK K
      try simp only [pT]
      have rc26:=rC rc26 hc56;have rc45:=rC rc45 hc56;have rm46:=rC rm46 hc56;have rc51:=rC rc51 hc56;have rc55:=rC rc55 hc56;rw [<-hz56] at rc26 rc45 rm46 rc51 rc55;clear hrun56 hc56 hz56 hbl56 bm46;have hL:=HL.out _ _ _ _ _ _ rm46 rc26 rc45 rc51 rc55;refine aA 14 (fun K hK=>?_);go_simp;refine hK.out _ _ (fun _=>kS.out _ (q56.alloc q56.size _)) ?_;clear hK K
      try simp only [pT]
      refine sP 15 hL ?_;rintro e w5 ⟨g5,e5,hg5,hB5,hb5⟩;subst e5;refine ⟨_,rfl,(fun _=>kS.out _ (q56.trans (hb5.mono q56.size))),?_⟩
      try simp only [pT]
      refine az 16 (fun K hK=>?_);go_simp;refine hK.out _ _ ?_;clear hK K
      try simp only [pT]
      refine cW ?_ _;go_wp2;go_ret;have hz:=hb2.trans (q56.mono hb2.size);exact ⟨g5,rfl,nT hz.size hg5,hB5,hz.trans (hb5.mono hz.size)⟩
   ·skip
    refine sC rfl 114 _ (by go_simp) (HF3.out _) ?_
    rintro e v58 ⟨g58,e58,hg58,hB58,s58⟩;subst e58;refine ⟨_,rfl,?_⟩;have q58:Below w2.heap.size w2 v58:=q45.trans (s58.mono q45.size)
    refine hK.out _ _ (fun _=>kS.out _ q58) ?_;clear hK K
    try simp only [pT]
    have rc58:=rB (b:=ag 4 x.free) hB58 rfl;rw [fL] at rc58;have rc26:=rM (rc26.below s58) s58.size;have rc45:=rM (rc45.below s58) s58.size;clear s58 hB58 hg58;refine gi 0 13 rfl rfl (by kernel_rfl) (fun K hK=>?_) (fun K hK=>?_)
    ·skip
     have s59:Below v58.heap.size v58 (v58.alloc (.cells #[.int .u8 83,.int .u8 67,.int .u8 79,.int .u8 87,.int .u8 49] 5)):=(bR _ _).alloc (nR _) _;have q59:Below w2.heap.size w2 (v58.alloc (.cells #[.int .u8 83,.int .u8 67,.int .u8 79,.int .u8 87,.int .u8 49] 5)):=q58.trans (s59.mono q58.size);go_simp;refine hK.out _ _ (fun _=>kS.out _ q59) ?_;clear hK K
     try simp only [pT]
     have rm59:=eJ v58;have bm59:=aa.new v58 5 #[.int .u8 83,.int .u8 67,.int .u8 79,.int .u8 87,.int .u8 49];have rc26:=rM (rc26.below s59) s59.size;have rc45:=rM (rc45.below s59) s59.size;have rc58:=rM (rc58.below s59) s59.size
     obtain ⟨v59,hv59⟩:∃ v,v=(v58.alloc (.cells #[.int .u8 83,.int .u8 67,.int .u8 79,.int .u8 87,.int .u8 49] 5)):=⟨_,rfl⟩
     rw [<-hv59] at s59 q59 rm59 bm59 rc26 rc45 rc58 ⊢
     obtain ⟨hm,HM⟩:∃ n,Hid (v58.heap.size=n):=⟨_,lH rfl⟩
     have gm:w2.heap.size<=hm:=by have:=q58.size;have:=HM.out;omega
     rw [HM.out] at rm59 bm59 ⊢;clear hv59 s59 HM;refine gi 1 13 rfl rfl (by kernel_rfl) (fun K hK=>?_) (fun K hK=>?_)
     ·skip
      obtain ⟨v60,hrun60,hc60,hz60,hbl60⟩:=aV 5 5 bm59;have q60:Below w2.heap.size w2 v60:=q59.trans (hbl60 _ gm);go_simp;refine hK.out _ _ (fun _=>kS.out _ q60) ?_;clear hK K
      try simp only [pT]
      have rc26:=rC rc26 hc60;have rc45:=rC rc45 hc60;have rc58:=rC rc58 hc60;have rm59:=rC rm59 hc60;rw [<-hz60] at rc26 rc45 rc58 rm59;clear hrun60 hc60 hz60 hbl60 bm59;refine sP 13 (HF4.out _) ?_
      rintro e v61 ⟨g61,e61,hg61,hB61,s61⟩;subst e61;have q61:Below w2.heap.size w2 v61:=q60.trans (s61.mono q60.size)
      refine ⟨_,rfl,(fun _=>kS.out _ q61),?_⟩
      try simp only [pT]
      have rc61:=rB (b:=ag 8 x.entries) hB61 rfl;rw [fL] at rc61;have rc26:=rM (rc26.below s61) s61.size;have rc45:=rM (rc45.below s61) s61.size;have rc58:=rM (rc58.below s61) s61.size;have rm59:=rM (rm59.below s61) s61.size;clear s61 hB61 hg61;have hL:=HL.out _ _ _ _ _ _ rm59 rc26 rc45 rc58 rc61;refine aA 14 (fun K hK=>?_);go_simp;refine hK.out _ _ (fun _=>kS.out _ (q61.alloc q61.size _)) ?_;clear hK K
      try simp only [pT]
      refine sP 15 hL ?_;rintro e w5 ⟨g5,e5,hg5,hB5,hb5⟩;subst e5;refine ⟨_,rfl,(fun _=>kS.out _ (q61.trans (hb5.mono q61.size))),?_⟩
      try simp only [pT]
      refine az 16 (fun K hK=>?_);go_simp;refine hK.out _ _ ?_;clear hK K
      try simp only [pT]
      refine cW ?_ _;go_wp2;go_ret;have hz:=hb2.trans (q61.mono hb2.size);exact ⟨g5,rfl,nT hz.size hg5,hB5,hz.trans (hb5.mono hz.size)⟩
     ·skip
      refine sC rfl 115 _ (by go_simp) (HF4.out _) ?_
      rintro e v63 ⟨g63,e63,hg63,hB63,s63⟩;subst e63;refine ⟨_,rfl,?_⟩;have q63:Below w2.heap.size w2 v63:=q59.trans (s63.mono q59.size)
      refine hK.out _ _ (fun _=>kS.out _ q63) ?_;clear hK K
      try simp only [pT]
      have rc63:=rB (b:=ag 8 x.entries) hB63 rfl;rw [fL] at rc63;have rc26:=rM (rc26.below s63) s63.size;have rc45:=rM (rc45.below s63) s63.size;have rc58:=rM (rc58.below s63) s63.size;have rm59:=rM (rm59.below s63) s63.size;have bm59:=bm59.below s63 bm59.lt;clear s63 hB63 hg63;obtain ⟨v64,hrun64,hc64,hz64,hbl64⟩:=aV 5 5 bm59;have q64:Below w2.heap.size w2 v64:=q63.trans (hbl64 _ gm);refine aA 1 (fun K hK=>?_);go_simp;refine hK.out _ _ (fun _=>kS.out _ q64) ?_;clear hK K
      try simp only [pT]
      have rc26:=rC rc26 hc64;have rc45:=rC rc45 hc64;have rc58:=rC rc58 hc64;have rm59:=rC rm59 hc64;have rc63:=rC rc63 hc64;rw [<-hz64] at rc26 rc45 rc58 rm59 rc63;clear hrun64 hc64 hz64 hbl64 bm59;have hL:=HL.out _ _ _ _ _ _ rm59 rc26 rc45 rc58 rc63;refine aA 14 (fun K hK=>?_);go_simp;refine hK.out _ _ (fun _=>kS.out _ (q64.alloc q64.size _)) ?_;clear hK K
      try simp only [pT]
      refine sP 15 hL ?_;rintro e w5 ⟨g5,e5,hg5,hB5,hb5⟩;subst e5;refine ⟨_,rfl,(fun _=>kS.out _ (q64.trans (hb5.mono q64.size))),?_⟩
      try simp only [pT]
      refine az 16 (fun K hK=>?_);go_simp;refine hK.out _ _ ?_;clear hK K
      try simp only [pT]
      refine cW ?_ _;go_wp2;go_ret;have hz:=hb2.trans (q64.mono hb2.size);exact ⟨g5,rfl,nT hz.size hg5,hB5,hz.trans (hb5.mono hz.size)⟩
    ·skip
     refine sC rfl 115 _ (by go_simp) (HF4.out _) ?_
     rintro e v66 ⟨g66,e66,hg66,hB66,s66⟩;subst e66;refine ⟨_,rfl,?_⟩;have q66:Below w2.heap.size w2 v66:=q58.trans (s66.mono q58.size)
     refine hK.out _ _ (fun _=>kS.out _ q66) ?_;clear hK K
     try simp only [pT]
     have rc66:=rB (b:=ag 8 x.entries) hB66 rfl;rw [fL] at rc66;have rc26:=rM (rc26.below s66) s66.size;have rc45:=rM (rc45.below s66) s66.size;have rc58:=rM (rc58.below s66) s66.size;clear s66 hB66 hg66;have s67:Below v66.heap.size v66 (v66.alloc (.cells #[.int .u8 83,.int .u8 67,.int .u8 79,.int .u8 87,.int .u8 49] 5)):=(bR _ _).alloc (nR _) _;have q67:Below w2.heap.size w2 (v66.alloc (.cells #[.int .u8 83,.int .u8 67,.int .u8 79,.int .u8 87,.int .u8 49] 5)):=q66.trans (s67.mono q66.size);refine aA 0 (fun K hK=>?_);go_simp;refine hK.out _ _ (fun _=>kS.out _ q67) ?_;clear hK K
     try simp only [pT]
     have rm67:=eJ v66;have bm67:=aa.new v66 5 #[.int .u8 83,.int .u8 67,.int .u8 79,.int .u8 87,.int .u8 49];have rc26:=rM (rc26.below s67) s67.size;have rc45:=rM (rc45.below s67) s67.size;have rc58:=rM (rc58.below s67) s67.size;have rc66:=rM (rc66.below s67) s67.size
     obtain ⟨v67,hv67⟩:∃ v,v=(v66.alloc (.cells #[.int .u8 83,.int .u8 67,.int .u8 79,.int .u8 87,.int .u8 49] 5)):=⟨_,rfl⟩
     rw [<-hv67] at s67 q67 rm67 bm67 rc26 rc45 rc58 rc66 ⊢
     obtain ⟨hm,HM⟩:∃ n,Hid (v66.heap.size=n):=⟨_,lH rfl⟩
     have gm:w2.heap.size<=hm:=by have:=q66.size;have:=HM.out;omega
     rw [HM.out] at rm67 bm67 ⊢;clear hv67 s67 HM;obtain ⟨v68,hrun68,hc68,hz68,hbl68⟩:=aV 5 5 bm67;have q68:Below w2.heap.size w2 v68:=q67.trans (hbl68 _ gm);refine aA 1 (fun K hK=>?_);go_simp;refine hK.out _ _ (fun _=>kS.out _ q68) ?_;clear hK K
     try simp only [pT]
     have rc26:=rC rc26 hc68;have rc45:=rC rc45 hc68;have rc58:=rC rc58 hc68;have rc66:=rC rc66 hc68;have rm67:=rC rm67 hc68;rw [<-hz68] at rc26 rc45 rc58 rc66 rm67;clear hrun68 hc68 hz68 hbl68 bm67;have hL:=HL.out _ _ _ _ _ _ rm67 rc26 rc45 rc58 rc66;refine aA 14 (fun K hK=>?_);go_simp;refine hK.out _ _ (fun _=>kS.out _ (q68.alloc q68.size _)) ?_;clear hK K
     try simp only [pT]
     refine sP 15 hL ?_;rintro e w5 ⟨g5,e5,hg5,hB5,hb5⟩;subst e5;refine ⟨_,rfl,(fun _=>kS.out _ (q68.trans (hb5.mono q68.size))),?_⟩
     try simp only [pT]
     refine az 16 (fun K hK=>?_);go_simp;refine hK.out _ _ ?_;clear hK K
     try simp only [pT]
     refine cW ?_ _;go_wp2;go_ret;have hz:=hb2.trans (q68.mono hb2.size);exact ⟨g5,rfl,nT hz.size hg5,hB5,hz.trans (hb5.mono hz.size)⟩
def fN (e:Int):Value:=.tuple #[.agg #[.int .i64 0,.int .u64 0,.slice none 0 0],.int .i64 e]
theorem Cw (A:Option Addr) (n c:Nat) (w:World) (hn:n≠256) :
 Calls Tryz.prog 55 #[.slice A n c] w fun e w'=>e=.returned (fN 50)/\Below w.heap.size w w':=by
 have d1:((n:Int) != 256)=true:=by simp;omega
 go_enter Tryz.func55,Tryz.ntmps55;go_wp2;exact bodyPost_ret (v:=fN 50) (by simp [results,Tryz.results55,go_sem,fN]) rfl ⟨rfl,(bR _ _).alloc (nR _) _⟩
theorem Cx {B:Nat} (a:Addr) (c:Nat) (b:List UInt8) (w:World) (hB:B<=w.heap.size) (hr:Reads w B 1 (some a) b.length (bl b)) (hl:b.length=256) (hc:256<=c) (hs:eW b=false) :
 Calls Tryz.prog 55 #[.slice (some a) 256 c] w fun e w'=>e=.returned (fN 51)/\Below w.heap.size w w':=by
 obtain ⟨w1,hw1⟩:∃ w1,w1=w.alloc (.cells #[.int .i64 0,.int .u64 0,.slice none 0 0] 133):=⟨_,rfl⟩
 have hb1:Below w.heap.size w w1:=by rw [hw1];exact (bR _ w).alloc (nR _) _
 have bP1:aa w1 w.heap.size 133 #[.int .i64 0,.int .u64 0,.slice none 0 0]:=by rw [hw1];exact aa.new _ _ _
 have hC:=im a 252 c b w1 (nT hB hb1.size) (hr.below (hb1.mono hB)) hl hc (by omega);rw [kM (m:=252) hl] at hs;have HS:=lH hs;have HW1:=lH hw1;clear hl hs hr hw1;go_enter Tryz.func55,Tryz.ntmps55
 go_wp2_with fail
 rw [<-HW1.out]
 go_at_call 75
 refine hC.mono ?_;rintro e w2 ⟨_,h2,hb2⟩;have:=h2 HS.out;subst this;have bP2:=bP1.below hb2 bP1.lt;have c0:w2.cell? ⟨w.heap.size,0,none⟩=some (.int .i64 0):=bP2.cell 0;have c1:w2.cell? ⟨w.heap.size,1,none⟩=some (.int .u64 0):=bP2.cell 1;have c2:w2.cell? ⟨w.heap.size,2,none⟩=some (.slice none 0 0):=bP2.cell 2;have f0:=bP2.frozen 0;have f1:=bP2.frozen 1;have f2:=bP2.frozen 2;have bP3:=((bP2.set_ 0 (.int .i64 0)).set_ 1 (.int .u64 0)).set_ 2 (.slice none 0 0)
 have hb23:Below w.heap.size w2 (((w2.setCell ⟨w.heap.size,0,none⟩ (.int .i64 0)).setCell ⟨w.heap.size,1,none⟩ (.int .u64 0)).setCell ⟨w.heap.size,2,none⟩ (.slice none 0 0)) :=
  (((bR w.heap.size w2).setCell (p:=⟨w.heap.size,0,none⟩) (nR _) _).setCell (p:=⟨w.heap.size,1,none⟩) (nR _) _).setCell (p:=⟨w.heap.size,2,none⟩) (nR _) _
 obtain ⟨w3,hw3⟩:∃ w3,w3=(((w2.setCell ⟨w.heap.size,0,none⟩ (.int .i64 0)).setCell ⟨w.heap.size,1,none⟩ (.int .u64 0)).setCell ⟨w.heap.size,2,none⟩ (.slice none 0 0)):=⟨_,rfl⟩
 rw [<-hw3] at bP3 hb23;have e0:=bP3.cell 0;have e1:=bP3.cell 1;have e2:=bP3.cell 2;simp only [Array.setIfInBounds,List.getElem?_toArray] at e0 e1 e2;have HW3:=lH hw3;clear bP1 bP2 h2 hC HW1 bP3 hw3;go_wp2;rw [<-HW3.out];exact bodyPost_ret (v:=fN 51) (by simp [results,Tryz.results55,go_sem,fN,e0,e1,e2]) rfl ⟨rfl,(hb1.trans (hb2.mono hb1.size)).trans hb23⟩
theorem iu {w:World} {B e n:Nat} {v:Value} {l:List UInt8} (h:w.ownsRow B e 1 v n (bl l)) (hn:0<n):∃ g c,v=.slice (some ⟨g,0,none⟩) n c/\n<=c/\B<=g/\Reads w w.heap.size 1 (some ⟨g,0,none⟩) n (bl l):=by
 have hr:=h
 rcases h.2 with ⟨_,h0⟩ | ⟨g,cap,cur,rfl,hb,hh,hnc,_⟩
 ·have:=h.1;rw [h0] at this;simp at this;omega
 ·exact ⟨g,cap,rfl,hnc,hb,Reads.of_own hr⟩
theorem Ay {B:Nat} (a:Addr) (c:Nat) (b:List UInt8) (w:World) (hB:B<=w.heap.size) (hr:Reads w B 1 (some a) b.length (bl b)) (hl:b.length=256) (hc:256<=c) (hs:eW b=true) (hk:¬ (1<=dG b/\dG b<=5)) :
 Calls Tryz.prog 55 #[.slice (some a) 256 c] w fun e w'=>e=.returned (fN 50)/\Below w.heap.size w w':=by
 obtain ⟨w1,hw1⟩:∃ w1,w1=w.alloc (.cells #[.int .i64 0,.int .u64 0,.slice none 0 0] 133):=⟨_,rfl⟩
 have hb1:Below w.heap.size w w1:=by rw [hw1];exact (bR _ w).alloc (nR _) _
 have bP1:aa w1 w.heap.size 133 #[.int .i64 0,.int .u64 0,.slice none 0 0]:=by rw [hw1];exact aa.new _ _ _
 have hC:=im a 252 c b w1 (nT hB hb1.size) (hr.below (hb1.mono hB)) hl hc (by omega);rw [kM (m:=252) hl] at hs
 have hkd:(b.take 252).getD 0 0=b.getD 0 0:=by
  rw [List.getD_eq_getElem?_getD,List.getD_eq_getElem?_getD,List.getElem?_take,if_pos (by omega)]
 have hlt:(b.take 252).length=252:=by rw [lK];omega
 have HS:=lH (aI hs (aI hkd hlt));have HW1:=lH hw1;clear hl hs hr hw1 hkd hlt;go_enter Tryz.func55,Tryz.ntmps55
 go_wp2_with fail
 rw [<-HW1.out]
 go_at_call 75
 refine hC.mono ?_;rintro e w2 ⟨h2,_,hb2⟩;obtain ⟨v,rfl,ho⟩:=h2 HS.out.1;obtain ⟨g,c2,rfl,hc2,hg,hr2⟩:=iu ho (by omega);have bP2:=bP1.below hb2 bP1.lt
 have hx0:w2.cell? ⟨g,0,none⟩=some (.int .u8 (dG b:Nat)):=by
  have h:Reads w2 w2.heap.size 1 (some ⟨g,0,none⟩) (b.take 252).length (bl (b.take 252)):=by rw [HS.out.2.2];exact hr2
  have:=dA h 0 (by rw [HS.out.2.2];omega);rw [HS.out.2.1] at this;exact this
 have c0:w2.cell? ⟨w.heap.size,0,none⟩=some (.int .i64 0):=bP2.cell 0;have c1:w2.cell? ⟨w.heap.size,1,none⟩=some (.int .u64 0):=bP2.cell 1;have c2:w2.cell? ⟨w.heap.size,2,none⟩=some (.slice none 0 0):=bP2.cell 2;have f0:=bP2.frozen 0;have f1:=bP2.frozen 1;have f2:=bP2.frozen 2;have bP3:=((bP2.set_ 0 (.int .i64 0)).set_ 1 (.int .u64 0)).set_ 2 (.slice none 0 0)
 have hb23:Below w.heap.size w2 (((w2.setCell ⟨w.heap.size,0,none⟩ (.int .i64 0)).setCell ⟨w.heap.size,1,none⟩ (.int .u64 0)).setCell ⟨w.heap.size,2,none⟩ (.slice none 0 0)) :=
  (((bR w.heap.size w2).setCell (p:=⟨w.heap.size,0,none⟩) (nR _) _).setCell (p:=⟨w.heap.size,1,none⟩) (nR _) _).setCell (p:=⟨w.heap.size,2,none⟩) (nR _) _
 obtain ⟨w3,hw3⟩:∃ w3,w3=(((w2.setCell ⟨w.heap.size,0,none⟩ (.int .i64 0)).setCell ⟨w.heap.size,1,none⟩ (.int .u64 0)).setCell ⟨w.heap.size,2,none⟩ (.slice none 0 0)):=⟨_,rfl⟩
 rw [<-hw3] at bP3 hb23;have e0:=bP3.cell 0;have e1:=bP3.cell 1;have e2:=bP3.cell 2;simp only [Array.setIfInBounds,List.getElem?_toArray] at e0 e1 e2;have HW3:=lH hw3
 obtain ⟨kk,HK⟩:∃ kk,Hid (dG b=kk):=⟨_,lH rfl⟩
 have hkb:dG b<256:=(b.getD 0 0).toNat_lt;rw [HK.out] at hk hx0 hkb;have hno:=Ao (kk:Int) (by omega);clear bP1 bP2 h2 hC HW1 bP3 hw3 ho hr2
 go_wp2_with (go_at_call 76;refine (hno _).mono ?_;rintro e w4 ⟨rfl,rfl⟩)
 rw [<-HW3.out];exact bodyPost_ret (v:=fN 50) (by simp [results,Tryz.results55,go_sem,fN,e0,e1,e2]) rfl ⟨rfl,(hb1.trans (hb2.mono hb1.size)).trans hb23⟩
theorem Ex {B:Nat} (a:Addr) (c:Nat) (b:List UInt8) (w:World) (hB:B<=w.heap.size) (hr:Reads w B 1 (some a) b.length (bl b)) (hl:b.length=256) (hc:256<=c) (hs:eW b=true) (hk:1<=dG b/\dG b<=5) :
 Calls Tryz.prog 55 #[.slice (some a) 256 c] w fun e w'=>∃ a',e=.returned (.tuple #[.agg #[.int .i64 (dG b:Nat),.int .u64 (oc b:Nat),.slice (some a') 243 243],.int .i64 0])/\Reads w' w'.heap.size 1 (some a') 243 (bl (gM b))/\Below w.heap.size w w':=by
 have hkb:dG b<256:=(b.getD 0 0).toNat_lt
 obtain ⟨kk,HK⟩:∃ kk,Hid (dG b=kk):=⟨_,lH rfl⟩
 obtain ⟨ll,HL⟩:∃ ll,Hid (oc b=ll):=⟨_,lH rfl⟩
 rw [HK.out] at hk hkb ⊢;rw [HL.out]
 obtain ⟨w1,hw1⟩:∃ w1,w1=w.alloc (.cells #[.int .i64 0,.int .u64 0,.slice none 0 0] 133):=⟨_,rfl⟩
 have hb1:Below w.heap.size w w1:=by rw [hw1];exact (bR _ w).alloc (nR _) _
 have bP1:aa w1 w.heap.size 133 #[.int .i64 0,.int .u64 0,.slice none 0 0]:=by rw [hw1];exact aa.new _ _ _
 have hC:=im a 252 c b w1 (nT hB hb1.size) (hr.below (hb1.mono hB)) hl hc (by omega);rw [kM (m:=252) hl] at hs
 have hkd:(b.take 252).getD 0 0=b.getD 0 0:=by
  rw [List.getD_eq_getElem?_getD,List.getD_eq_getElem?_getD,List.getElem?_take,if_pos (by omega)]
 have hlt:(b.take 252).length=252:=by rw [lK];omega
 have hd1:((b.take 252).drop 1).take 8=(b.drop 1).take 8:=by
  rw [List.drop_take,List.take_take];rfl
 have hd9:(b.take 252).drop 9=gM b:=by rw [List.drop_take];rfl
 have hl8:((b.drop 1).take 8).length=8:=by rw [lK,lD];omega
 have HS:=lH (aI hs (aI hkd (aI hlt (aI hd1 (aI hd9 hl8)))));have HW1:=lH hw1;have HSZ:Hid (w1.heap.size=w.heap.size+1):=lH (by rw [hw1];simp);clear hl hs hr hw1 hkd hlt hd1 hd9 hl8;go_enter Tryz.func55,Tryz.ntmps55
 go_wp2_with fail
 rw [<-HW1.out]
 go_at_call 75
 refine hC.mono ?_;rintro e w2 ⟨h2,_,hb2⟩;obtain ⟨v,rfl,ho⟩:=h2 HS.out.1;obtain ⟨g,cp2,rfl,hc2,hg,hr2⟩:=iu ho (by omega)
 have j1:(9:Int)<=(cp2:Int):=by omega
 have j2:(252:Int)<=(cp2:Int):=by omega
 have bP2:=bP1.below hb2 bP1.lt
 have hx0:w2.cell? ⟨g,0,none⟩=some (.int .u8 (dG b:Nat)):=by
  have h:Reads w2 w2.heap.size 1 (some ⟨g,0,none⟩) (b.take 252).length (bl (b.take 252)):=by rw [HS.out.2.2.1];exact hr2
  have:=dA h 0 (by rw [HS.out.2.2.1];omega);rw [HS.out.2.1] at this;exact this
 have hr8:Reads w2 w2.heap.size 1 (some ⟨g,1,none⟩) ((b.drop 1).take 8).length (bl ((b.drop 1).take 8)):=by
  have h:Reads w2 w2.heap.size 1 (some ⟨g,0,none⟩) (b.take 252).length (bl (b.take 252)):=by rw [HS.out.2.2.1];exact hr2
  have h1:=bX (m:=1) (n:=251) h (by rw [HS.out.2.2.1])
  have hl1:((b.take 252).drop 1).length=251:=by rw [lD,HS.out.2.2.1]
  rw [<-hl1] at h1;have h3:=bF (n:=8) h1 (by omega);rw [HS.out.2.2.2.1] at h3;rw [HS.out.2.2.2.2.2];exact h3
 have hr9:Reads w2 w2.heap.size 1 (some ⟨g,9,none⟩) 243 (bl (gM b)):=by
  have h:Reads w2 w2.heap.size 1 (some ⟨g,0,none⟩) (b.take 252).length (bl (b.take 252)):=by rw [HS.out.2.2.1];exact hr2
  have h1:=bX (m:=9) (n:=243) h (by rw [HS.out.2.2.1]);rw [HS.out.2.2.2.2.1] at h1;exact h1
 have hN:=fun (W:World) (hW:Below w2.heap.size w2 W)=>dB (B:=w2.heap.size) (some ⟨g,1,none⟩) 8 ((b.drop 1).take 8) W (hr8.below hW) (by rw [HS.out.2.2.2.2.2];omega);rw [HS.out.2.2.2.2.2,show aC ((b.drop 1).take 8)=oc b from rfl] at hN;have hbd:Below w2.heap.size w2 w2.drew:=(bR _ w2).drew;have c0:w2.drew.cell? ⟨w.heap.size,0,none⟩=some (.int .i64 0):=bP2.cell 0;have c1:w2.drew.cell? ⟨w.heap.size,1,none⟩=some (.int .u64 0):=bP2.cell 1;have c2:w2.drew.cell? ⟨w.heap.size,2,none⟩=some (.slice none 0 0):=bP2.cell 2;have f0:w2.drew.frozen? ⟨w.heap.size,0,none⟩=false:=bP2.frozen 0;have f1:w2.drew.frozen? ⟨w.heap.size,1,none⟩=false:=bP2.frozen 1;have f2:w2.drew.frozen? ⟨w.heap.size,2,none⟩=false:=bP2.frozen 2;rw [HK.out] at hx0;rw [HL.out] at hN
 have hwk:IntKind.i64.wrap (kk:Int)=(kk:Int):=by rw [IntKind.wrap_i64];omega
 have s1:(w2.setCell ⟨w.heap.size,0,none⟩ (.int .i64 (IntKind.i64.wrap (kk:Int)))).drew.cell? ⟨w.heap.size,1,none⟩=some (.int .u64 0):=(bP2.set_ 0 (.int .i64 (IntKind.i64.wrap (kk:Int)))).cell 1;have s2:((w2.setCell ⟨w.heap.size,0,none⟩ (.int .i64 (IntKind.i64.wrap (kk:Int)))).setCell ⟨w.heap.size,1,none⟩ (.int .u64 ll)).drew.cell? ⟨w.heap.size,2,none⟩=some (.slice none 0 0):=((bP2.set_ 0 (.int .i64 (IntKind.i64.wrap (kk:Int)))).set_ 1 (.int .u64 ll)).cell 2;have t1:(w2.setCell ⟨w.heap.size,0,none⟩ (.int .i64 (IntKind.i64.wrap (kk:Int)))).drew.frozen? ⟨w.heap.size,1,none⟩=false:=(bP2.set_ 0 (.int .i64 (IntKind.i64.wrap (kk:Int)))).frozen 1;have t2:((w2.setCell ⟨w.heap.size,0,none⟩ (.int .i64 (IntKind.i64.wrap (kk:Int)))).setCell ⟨w.heap.size,1,none⟩ (.int .u64 ll)).drew.frozen? ⟨w.heap.size,2,none⟩=false:=((bP2.set_ 0 (.int .i64 (IntKind.i64.wrap (kk:Int)))).set_ 1 (.int .u64 ll)).frozen 2;have HWK:=lH hwk;clear hwk;have bP3:=((bP2.drew.set_ 0 (.int .i64 kk)).set_ 1 (.int .u64 ll)).set_ 2 (.slice (some ⟨g,9,none⟩) 243 243)
 have hb23:Below w.heap.size w2 (((w2.drew.setCell ⟨w.heap.size,0,none⟩ (.int .i64 kk)).setCell ⟨w.heap.size,1,none⟩ (.int .u64 ll)).setCell ⟨w.heap.size,2,none⟩ (.slice (some ⟨g,9,none⟩) 243 243)) :=
  (((bR w.heap.size w2).drew.setCell (p:=⟨w.heap.size,0,none⟩) (nR _) _).setCell (p:=⟨w.heap.size,1,none⟩) (nR _) _).setCell (p:=⟨w.heap.size,2,none⟩) (nR _) _
 have hyes:=rK (kk:Int) (by omega);clear bP1 h2 hC HW1 ho hr2
 go_wp2_with (go_at_call 76;refine (hyes _).mono ?_;rintro e w4 ⟨rfl,rfl⟩)
 refine bB 10 (fun W0=>W0.cell? ⟨g,0,none⟩=some (.int .u8 (kk:Nat))) (hx0) (fun hHeld hTl=>?_);refine ae 0 hTl hHeld (fun hTl=>?_)
 try simp only [pT]
 refine ae 1 hTl hHeld (fun hTl=>?_)
 try simp only [pT]
 refine ae 2 hTl hHeld (fun hTl=>?_)
 try simp only [pT]
 refine ae 3 hTl hHeld (fun hTl=>?_)
 try simp only [pT]
 refine ae 4 hTl hHeld (fun hTl=>?_)
 try simp only [pT]
 refine ae 5 hTl hHeld (fun hTl=>?_)
 try simp only [pT]
 refine ae 7 hTl hHeld (fun hTl=>?_)
 try simp only [pT]
 refine ae 8 hTl hHeld (fun hTl=>?_)
 try simp only [pT]
 have hTl2:=hTl.step 6 (by kernel_rfl) (by decide);clear hTl;refine sP 6 (hN _ hbd) ?_;rintro e w5 ⟨rfl,rfl⟩;refine ⟨_,rfl,(fun _=>hx0),?_⟩
 try simp only [pT]
 have hTl:=hTl2;clear hTl2;refine ae 9 hTl hHeld (fun hTl=>?_)
 try simp only [pT]
 clear hTl;refine az 10 (fun K hK=>?_);go_simp;refine hK.out _ _ ?_;clear hK K
 try simp only [pT]
 refine az 11 (fun K hK=>?_);go_simp;refine hK.out _ _ ?_;clear hK K
 try simp only [pT]
 refine cW ?_ _
 have hr3:Reads (((w2.drew.setCell ⟨w.heap.size,0,none⟩ (.int .i64 kk)).setCell ⟨w.heap.size,1,none⟩ (.int .u64 ll)).setCell ⟨w.heap.size,2,none⟩ (.slice (some ⟨g,9,none⟩) 243 243)) w2.heap.size 1 (some ⟨g,9,none⟩) 243 (bl (gM b)):=by
  have hgw:w.heap.size≠g:=by
   have:=bP3.lt;have:=hb1.size;have hl1:w1.heap.size=w.heap.size+1:=HSZ.out;omega
  refine ⟨hr9.1,fun h0=>?_⟩;obtain ⟨ad,e,h1,h2⟩:=hr9.2 h0
  cases e
  refine ⟨_,rfl,h1,fun j u hu=>?_⟩
  have hne:∀ (k:Nat),(⟨w.heap.size,k,none⟩:Addr)≠(⟨g,9,none⟩:Addr).add j:=fun k e=>hgw (by
   have:=congrArg Addr.block e;rw [bV] at this
   exact this)
  rw [World.cell?_setCell_other _ _ _ _ (hne 2),World.cell?_setCell_other _ _ _ _ (hne 1),World.cell?_setCell_other _ _ _ _ (hne 0)];exact h2 j u hu
 obtain ⟨w3,hw3⟩:∃ w3,w3=(((w2.drew.setCell ⟨w.heap.size,0,none⟩ (.int .i64 kk)).setCell ⟨w.heap.size,1,none⟩ (.int .u64 ll)).setCell ⟨w.heap.size,2,none⟩ (.slice (some ⟨g,9,none⟩) 243 243)):=⟨_,rfl⟩
 have hs3:w2.heap.size<=w3.heap.size:=by rw [hw3];simp [World.setCell]
 rw [<-hw3] at bP3 hb23 hr3;have e0:=bP3.cell 0;have e1:=bP3.cell 1;have e2:=bP3.cell 2;simp only [Array.setIfInBounds,List.getElem?_toArray] at e0 e1 e2;have HW3:=lH hw3;clear c0 c1 c2 f0 f1 f2 s1 s2 t1 t2 hw3 hx0;rw [HWK.out];go_wp2;rw [show (((w2.setCell ⟨w.heap.size,0,none⟩ (.int .i64 kk)).setCell ⟨w.heap.size,1,none⟩ (.int .u64 ll)).setCell ⟨w.heap.size,2,none⟩ (.slice (some ⟨g,9,none⟩) 243 243)).drew=w3 from HW3.out.symm];exact bodyPost_ret (v:=.tuple #[.agg #[.int .i64 (kk:Nat),.int .u64 (ll:Nat),.slice (some ⟨g,9,none⟩) 243 243],.int .i64 0]) (by simp [results,Tryz.results55,go_sem,e0,e1,e2]) rfl ⟨_,rfl,rM hr3 hs3,(hb1.trans (hb2.mono hb1.size)).trans hb23⟩
theorem jG (leaf:Bool) (W:World):(Instr.field 191 (.agg (aO leaf)) 0).run Tryz.prog W=.ok (.func (.func (cY leaf)) #[] #[]) W:=by cases leaf <;> kernel_rfl
theorem rR:ar []=0::243::zB 241:=by simp [ar,dZ,ii,ah,zB]
theorem ja {leaf:Bool} {c:PC} (h:iO leaf c=true):0<(cB leaf c).length/\(cB leaf c).length<=78:=by
 cases leaf
 ·have:=oX (c:=c) h;exact ⟨by show 0<(fI c).length;omega,by show (fI c).length<=78;omega⟩
 ·have:=rD (c:=c) h;exact ⟨by show 0<(gn c).length;omega,by show (gn c).length<=78;omega⟩
def eK (leaf:Bool) (l:List CX):List (List UInt8):=l.map fun y=>cB leaf y.c
theorem dt (leaf:Bool) (l:List CX):(eK leaf l).length=l.length:=by unfold eK;rw [List.length_map]
theorem lE {leaf:Bool} {l:List CX} {k:Nat} {y:CX} (h:l[k]?=some y):(eK leaf l).take (k+1)=(eK leaf l).take k++[cB leaf y.c]:=by
 unfold eK;rw [List.take_add_one,List.getElem?_map,h];rfl
theorem vg (kind:Int):∀ l:List PC,b7 kind l=2*l.length+ah (l.map (nr kind))
 | []=>rfl
 | c::l=>by
  have ih:=vg kind l;unfold b7 at ih ⊢;rw [List.map_cons,List.sum_cons,ih,List.map_cons,fv,List.length_cons];omega
theorem Az {B:Nat} (x:NX) (w:World) (hk:x.kind=3) (h:aP w B x) (hB:B<=w.heap.size) (hok:∀ y∈x.l,iO true y.c=true) (hu:2+2*x.l.length+ah (eK true x.l)<=243) :
 Calls Tryz.prog 82 #[x.val] w fun e w'=>∃ g,e=.returned (.slice (some ⟨g,0,none⟩) 243 243)/\w.heap.size<=g/\aa w' g 5 (bl (aZ x.n)).toArray/\Below w.heap.size w w':=by
 have hbd:aZ x.n=ar (eK true x.l):=by
  unfold aZ;rw [show x.n.kind=3 from hk,if_neg (by decide),if_neg (by decide),if_neg (by decide)];unfold NX.n eK;rw [List.map_map];rfl
 rw [hbd]
 obtain ⟨w1,hw1⟩:∃ w1,w1=w.alloc (.cells x.cells 95):=⟨_,rfl⟩
 have hb1:Below w.heap.size w w1:=by rw [hw1];exact (bR _ w).alloc (nR _) _
 have hN:aa w1 w.heap.size 95 x.cells:=by rw [hw1];exact aa.new _ _ _
 have f0:w1.cell? ⟨w.heap.size,0,none⟩=some (.int .i64 3):=(hN.cell 0).trans (by rw [<-hk];rfl)
 have kS:Hid (∀ W,Below w1.heap.size w1 W->(W.cell? ⟨w.heap.size,0,none⟩=some (.int .i64 3)/\W.cell? ⟨w.heap.size,2,none⟩=some (.slice x.ca x.l.length x.cc))):=lH fun W hW=>⟨((hN.below hW hN.lt).cell 0).trans (by rw [<-hk];rfl),(hN.below hW hN.lt).cell 2⟩
 have HNew:Hid (∀ W,_):=lH fun W=>uY W;have HCo:Hid (∀ W,_):=lH fun W=>bT 3 W;have hfld:=jG true;simp only [aO,cY,dW,if_true] at hfld
 have hll:x.l.length<=120:=by omega
 have HH:=lH (aI h (aI hok hu));unfold NX.val aJ NX.cells at *;rw [hk] at *;have HW1:=lH hw1;clear hN hw1 hk hbd h hok hu;go_enter Tryz.func82,Tryz.ntmps82
 go_wp2_with (first
  | (rw [<-HW1.out];go_at_call 116;refine (HNew.out _).mono ?_;rintro e w2 ⟨s,rfl,hs,hS2,hb2⟩;obtain ⟨f0a,f2a⟩:=kS.out _ hb2)
  | (go_at_call 85;refine (HCo.out _).mono ?_;rintro e w3 ⟨rfl,hb3⟩;have hb3a:=hb2.trans (hb3.mono hb2.size);obtain ⟨f0b,f2b⟩:=kS.out _ hb3a;simp only [aO,cY,dW,if_true,show decide ((3:Int)=3)=true from rfl]))
 have hS3:SB w3 s (ar ((eK true x.l).take 0)):=by rw [List.take_zero,rR];exact hS2.below hb3 hS2.lt
 have hb:Below w.heap.size w w3:=hb1.trans (hb3a.mono hb1.size);have hsw:w.heap.size<=s:=nT hb1.size hs;clear hS2 hb2 hb3 hb3a f0 f0a f2a f0b f2b hfld
 go_loopw [61] (fun i wr=>∃ k:Nat,k<=x.l.length/\i=.int .i64 k/\SB wr s (ar ((eK true x.l).take k))/\Below w.heap.size w wr) (fun i _=>x.l.length-(intOf i).toNat)
 case atStart=>exact ⟨0,zL _,rfl,hS3,hb⟩
 case round =>
  clear hS3 hb;obtain ⟨k,hk,rfl,hS,hb⟩:=hrel
  obtain ⟨wo,rfl⟩:∃ wo,wo=wr:=⟨wr,rfl⟩
  by_cases hlt:k<x.l.length
  ·have d1:decide (k<x.l.length)=true:=dT hlt
   obtain ⟨y,hy⟩:∃ y,x.l[k]?=some y:=⟨_,gE hlt⟩
   have hm:=mG hy;have hC:=HH.out.1.cells.below (hb.mono hB);obtain ⟨p,o,ec,hp,hc⟩:=hC.at_ (by omega);obtain ⟨c1,c2,c3,c4,c5⟩:=hc k y hy;have hcB:=ja (HH.out.2.1 y hm);have htk:=lE (leaf:=true) hy;have hsc:=gQ (l:=eK true x.l) (k:=k) (by rw [dt];exact hlt);have hle:=bY (eK true x.l) (k+1);have hu:=HH.out.2.2;rw [hsc] at hle
   have hyk:(eK true x.l)[k]'(by rw [dt];exact hlt)=cB true y.c:=by
    have:(eK true x.l)[k]?=some (cB true y.c):=by unfold eK;rw [List.getElem?_map,hy];rfl
    exact (lS.1 this).2
   rw [hyk] at hle;have hPut:Hid (∀ W,Below wo.heap.size wo W->_):=lH fun W hW=>dP true y W (nT hB (nT hb.size hW.size)) ((hC.key y hm).below (hW.mono (nT hB hb.size))) ((hC.val y hm).below (hW.mono (nT hB hb.size))) (HH.out.1.fit y hm);rw [HH.out.2.1 y hm] at hPut;unfold CX.val cellV at hPut
   have i0:(0:Int)<=(k:Int):=by omega
   have i1:(k:Int)<(x.l.length:Int):=by omega
   have htl:((eK true x.l).take k).length=k:=by rw [lK,dt];omega
   have HS:=lH (aI hS (aI htl (aI htk (aI hcB (aI hle hu)))));clear hsc hyk hcB htk hle hu hC hc hS htl;rw [ec]
   go_wp2_with (go_at_call 120;refine (hPut.out _ ?_).mono ?_;exact (bR _ _).alloc (nR _) _;rintro e w4 ⟨A,n,c,e4,ho4,hb4⟩;rw [if_pos rfl] at e4;subst e4;obtain ⟨rfl,ho5⟩:=ho4 rfl;clear ho4)
   have s4:Below wo.heap.size wo w4:=((bR _ wo).alloc (nR _) _).trans (hb4.mono (by simp));obtain ⟨g4,c4',e4,hcc,hg4,hr4⟩:=iu ho5 HS.out.2.2.2.1.1;simp only [Value.slice.injEq] at e4;obtain ⟨rfl,_,rfl⟩:=e4;have hS4:=HS.out.1.below s4 HS.out.1.lt
   have hgs:g4≠s:=by
    have:=HS.out.1.lt;have:wo.heap.size<g4:=by (have:(wo.alloc (.cells #[.slice y.ka y.c.key.length y.kc,.int .i64 y.c.size,.slice y.va y.c.val.length y.vc,.int .u32 (y.c.over:Nat),.int .u32 (y.c.kid:Nat)] 117)).heap.size=wo.heap.size+1:=by simp) ;omega
    omega
   have hI:=nu hS4 (some ⟨g4,0,none⟩) c (cB true y.c) hr4 (nR _) (fun ad had=>by cases had;exact hgs) HS.out.2.2.2.1.1 HS.out.2.2.2.1.2 (by have:=HS.out.2.1;have:=HS.out.2.2.2.2.1;have:=HS.out.2.2.2.2.2;rw [HS.out.2.1];omega);rw [HS.out.2.1,<-HS.out.2.2.1] at hI;have hsz:=HS.out.1.lt;clear hr4 hS4
   go_wp2_with (go_at_call 117;refine hI.mono ?_;rintro e w5 ⟨rfl,hS5,hf5⟩)
   have hb5:Below w.heap.size w w5:=(hb.trans (s4.mono hb.size)).trans (hf5.below (nT hb.size s4.size) (fun k hk=>by omega))
   go_roundw
   case rel=>exact ⟨k+1,by omega,by go_num,hS5,hb5⟩
   case measure=>simp [intOf];omega
  ·have d1:decide (k<x.l.length)=false:=dF hlt
   obtain rfl:k=x.l.length:=by omega
   have e1:(eK true x.l).take x.l.length=eK true x.l:=List.take_of_length_le (by rw [dt];exact nR _);rw [e1] at hS
   have hSB:=pd hS (by rw [dt];exact HH.out.2.2) (fun c hc=>by
    unfold eK at hc;obtain ⟨y,hy,rfl⟩:=List.mem_map.1 hc
    exact (ja (HH.out.2.1 y hy)).1)
   go_wp2_with (go_at_call 118;refine hSB.mono ?_;rintro e w5 ⟨g,rfl,hg,hG,hb5⟩)
   go_ret;exact ⟨g,rfl,nT hb.size hg,hG,hb.trans (hb5.mono hb.size)⟩
theorem xk {B:Nat} (x:NX) (w:World) (hk:x.kind=2) (h:aP w B x) (hB:B<=w.heap.size) (hok:∀ y∈x.l,iO false y.c=true) (hu:2+2*x.l.length+ah (eK false x.l)<=243) :
 Calls Tryz.prog 82 #[x.val] w fun e w'=>∃ g,e=.returned (.slice (some ⟨g,0,none⟩) 243 243)/\w.heap.size<=g/\aa w' g 5 (bl (aZ x.n)).toArray/\Below w.heap.size w w':=by
 have hbd:aZ x.n=ar (eK false x.l):=by
  unfold aZ;rw [show x.n.kind=2 from hk,if_neg (by decide),if_neg (by decide),if_neg (by decide)];unfold NX.n eK;rw [List.map_map];rfl
 rw [hbd]
 obtain ⟨w1,hw1⟩:∃ w1,w1=w.alloc (.cells x.cells 95):=⟨_,rfl⟩
 have hb1:Below w.heap.size w w1:=by rw [hw1];exact (bR _ w).alloc (nR _) _
 have hN:aa w1 w.heap.size 95 x.cells:=by rw [hw1];exact aa.new _ _ _
 have f0:w1.cell? ⟨w.heap.size,0,none⟩=some (.int .i64 2):=(hN.cell 0).trans (by rw [<-hk];rfl)
 have kS:Hid (∀ W,Below w1.heap.size w1 W->(W.cell? ⟨w.heap.size,0,none⟩=some (.int .i64 2)/\W.cell? ⟨w.heap.size,2,none⟩=some (.slice x.ca x.l.length x.cc))):=lH fun W hW=>⟨((hN.below hW hN.lt).cell 0).trans (by rw [<-hk];rfl),(hN.below hW hN.lt).cell 2⟩
 have HNew:Hid (∀ W,_):=lH fun W=>uY W;have HCo:Hid (∀ W,_):=lH fun W=>bT 2 W;have hfld:=jG false;simp only [aO,cY,dW,Bool.false_eq_true,if_false] at hfld
 have hll:x.l.length<=120:=by omega
 have HH:=lH (aI h (aI hok hu));unfold NX.val aJ NX.cells at *;rw [hk] at *;have HW1:=lH hw1;clear hN hw1 hk hbd h hok hu;go_enter Tryz.func82,Tryz.ntmps82
 go_wp2_with (first
  | (rw [<-HW1.out];go_at_call 116;refine (HNew.out _).mono ?_;rintro e w2 ⟨s,rfl,hs,hS2,hb2⟩;obtain ⟨f0a,f2a⟩:=kS.out _ hb2)
  | (go_at_call 85;refine (HCo.out _).mono ?_;rintro e w3 ⟨rfl,hb3⟩;have hb3a:=hb2.trans (hb3.mono hb2.size);obtain ⟨f0b,f2b⟩:=kS.out _ hb3a;simp only [aO,cY,dW,Bool.false_eq_true,if_false,show decide ((2:Int)=3)=false from rfl]))
 have hS3:SB w3 s (ar ((eK false x.l).take 0)):=by rw [List.take_zero,rR];exact hS2.below hb3 hS2.lt
 have hb:Below w.heap.size w w3:=hb1.trans (hb3a.mono hb1.size);have hsw:w.heap.size<=s:=nT hb1.size hs;clear hS2 hb2 hb3 hb3a f0 f0a f2a f0b f2b hfld
 go_loopw [61] (fun i wr=>∃ k:Nat,k<=x.l.length/\i=.int .i64 k/\SB wr s (ar ((eK false x.l).take k))/\Below w.heap.size w wr) (fun i _=>x.l.length-(intOf i).toNat)
 case atStart=>exact ⟨0,zL _,rfl,hS3,hb⟩
 case round =>
  clear hS3 hb;obtain ⟨k,hk,rfl,hS,hb⟩:=hrel
  obtain ⟨wo,rfl⟩:∃ wo,wo=wr:=⟨wr,rfl⟩
  by_cases hlt:k<x.l.length
  ·have d1:decide (k<x.l.length)=true:=dT hlt
   obtain ⟨y,hy⟩:∃ y,x.l[k]?=some y:=⟨_,gE hlt⟩
   have hm:=mG hy;have hC:=HH.out.1.cells.below (hb.mono hB);obtain ⟨p,o,ec,hp,hc⟩:=hC.at_ (by omega);obtain ⟨c1,c2,c3,c4,c5⟩:=hc k y hy;have hcB:=ja (HH.out.2.1 y hm);have htk:=lE (leaf:=false) hy;have hsc:=gQ (l:=eK false x.l) (k:=k) (by rw [dt];exact hlt);have hle:=bY (eK false x.l) (k+1);have hu:=HH.out.2.2;rw [hsc] at hle
   have hyk:(eK false x.l)[k]'(by rw [dt];exact hlt)=cB false y.c:=by
    have:(eK false x.l)[k]?=some (cB false y.c):=by unfold eK;rw [List.getElem?_map,hy];rfl
    exact (lS.1 this).2
   rw [hyk] at hle;have hPut:Hid (∀ W,Below wo.heap.size wo W->_):=lH fun W hW=>dP false y W (nT hB (nT hb.size hW.size)) ((hC.key y hm).below (hW.mono (nT hB hb.size))) ((hC.val y hm).below (hW.mono (nT hB hb.size))) (HH.out.1.fit y hm);rw [HH.out.2.1 y hm] at hPut;unfold CX.val cellV at hPut
   have i0:(0:Int)<=(k:Int):=by omega
   have i1:(k:Int)<(x.l.length:Int):=by omega
   have htl:((eK false x.l).take k).length=k:=by rw [lK,dt];omega
   have HS:=lH (aI hS (aI htl (aI htk (aI hcB (aI hle hu)))));clear hsc hyk hcB htk hle hu hC hc hS htl;rw [ec]
   go_wp2_with (go_at_call 122;refine (hPut.out _ ?_).mono ?_;exact (bR _ _).alloc (nR _) _;rintro e w4 ⟨A,n,c,e4,ho4,hb4⟩;rw [if_pos rfl] at e4;subst e4;obtain ⟨rfl,ho5⟩:=ho4 rfl;clear ho4)
   have s4:Below wo.heap.size wo w4:=((bR _ wo).alloc (nR _) _).trans (hb4.mono (by simp));obtain ⟨g4,c4',e4,hcc,hg4,hr4⟩:=iu ho5 HS.out.2.2.2.1.1;simp only [Value.slice.injEq] at e4;obtain ⟨rfl,_,rfl⟩:=e4;have hS4:=HS.out.1.below s4 HS.out.1.lt
   have hgs:g4≠s:=by
    have:=HS.out.1.lt;have:wo.heap.size<g4:=by (have:(wo.alloc (.cells #[.slice y.ka y.c.key.length y.kc,.int .i64 y.c.size,.slice y.va y.c.val.length y.vc,.int .u32 (y.c.over:Nat),.int .u32 (y.c.kid:Nat)] 117)).heap.size=wo.heap.size+1:=by simp) ;omega
    omega
   have hI:=nu hS4 (some ⟨g4,0,none⟩) c (cB false y.c) hr4 (nR _) (fun ad had=>by cases had;exact hgs) HS.out.2.2.2.1.1 HS.out.2.2.2.1.2 (by have:=HS.out.2.1;have:=HS.out.2.2.2.2.1;have:=HS.out.2.2.2.2.2;rw [HS.out.2.1];omega);rw [HS.out.2.1,<-HS.out.2.2.1] at hI;have hsz:=HS.out.1.lt;clear hr4 hS4
   go_wp2_with (go_at_call 117;refine hI.mono ?_;rintro e w5 ⟨rfl,hS5,hf5⟩)
   have hb5:Below w.heap.size w w5:=(hb.trans (s4.mono hb.size)).trans (hf5.below (nT hb.size s4.size) (fun k hk=>by omega))
   go_roundw
   case rel=>exact ⟨k+1,by omega,by go_num,hS5,hb5⟩
   case measure=>simp [intOf];omega
  ·have d1:decide (k<x.l.length)=false:=dF hlt
   obtain rfl:k=x.l.length:=by omega
   have e1:(eK false x.l).take x.l.length=eK false x.l:=List.take_of_length_le (by rw [dt];exact nR _);rw [e1] at hS
   have hSB:=pd hS (by rw [dt];exact HH.out.2.2) (fun c hc=>by
    unfold eK at hc;obtain ⟨y,hy,rfl⟩:=List.mem_map.1 hc
    exact (ja (HH.out.2.1 y hy)).1)
   go_wp2_with (go_at_call 118;refine hSB.mono ?_;rintro e w5 ⟨g,rfl,hg,hG,hb5⟩)
   go_ret;exact ⟨g,rfl,nT hb.size hg,hG,hb.trans (hb5.mono hb.size)⟩
theorem Ey (kind:Int) (A:Option Addr) (n c:Nat) (w:World) (h2:kind≠2) (h3:kind≠3) :
 Calls Tryz.prog 92 #[.int .i64 kind,.slice A n c] w fun e w'=>e=.returned (.tuple #[.int .i64 0,.int .i64 80])/\w'=w:=by
 have hH:=fun W=>fm kind W;rw [show pj kind=false from dF (by omega)] at hH;go_enter Tryz.func92,Tryz.ntmps92
 go_wp2_with (go_at_call 119;refine (hH _).mono ?_;rintro e w2 ⟨rfl,rfl⟩)
 go_ret2;exact ⟨rfl,rfl⟩
def rS (leaf:Bool) (l:List CX):Nat:=2*l.length+ah (eK leaf l)
theorem AA {B:Nat} (A:Option Addr) (l:List CX) (cc:Nat) (w:World) (h:bf w B A l) (hll:l.length<=3000000) (hB:B<=w.heap.size) (hf:∀ y∈l,y.c.fit) (hok:∀ y∈l,iO true y.c=true) :
 Calls Tryz.prog 92 #[.int .i64 3,.slice A l.length cc] w fun e w'=>e=.returned (.tuple #[.int .i64 (rS true l:Nat),.int .i64 0])/\Below w.heap.size w w':=by
 have hH:=fun W=>fm 3 W;rw [show pj 3=true from rfl] at hH;have HCo:Hid (∀ W,_):=lH fun W=>bT 3 W;have hfld:=jG true;simp only [aO,cY,dW,if_true] at hfld;have HH:=lH (aI h (aI hok hf));clear h hok hf;go_enter Tryz.func92,Tryz.ntmps92
 go_wp2_with (first
  | (go_at_call 119;refine (hH _).mono ?_;rintro e w2 ⟨rfl,h2⟩;have h2:=h2.symm;subst h2)
  | (go_at_call 85;refine (HCo.out _).mono ?_;rintro e w3 ⟨rfl,hb⟩;simp only [aO,cY,dW,if_true,show decide ((3:Int)=3)=true from rfl]))
 clear hfld hH
 go_loopw [7,20] (fun u i wr=>∃ k:Nat,k<=l.length/\i=.int .i64 k/\u=.int .i64 (2*k+ah ((eK true l).take k):Nat)/\Below w.heap.size w wr) (fun _ i _=>l.length-(intOf i).toNat)
 case atStart=>exact ⟨0,zL _,rfl,rfl,hb⟩
 case round =>
  clear hb;obtain ⟨k,hk,rfl,rfl,hb⟩:=hrel
  obtain ⟨wo,rfl⟩:∃ wo,wo=wr:=⟨wr,rfl⟩
  by_cases hlt:k<l.length
  ·have d1:decide (k<l.length)=true:=dT hlt
   obtain ⟨y,hy⟩:∃ y,l[k]?=some y:=⟨_,gE hlt⟩
   have hm:=mG hy;have hC:=HH.out.1.below (hb.mono hB);obtain ⟨p,o,rfl,hp,hc⟩:=hC.at_ (by omega);obtain ⟨c1,c2,c3,c4,c5⟩:=hc k y hy;have hcB:=ja (HH.out.2.1 y hm);have htk:=lE (leaf:=true) hy;have hPut:Hid (∀ W,Below wo.heap.size wo W->_):=lH fun W hW=>dP true y W (nT hB (nT hb.size hW.size)) ((hC.key y hm).below (hW.mono (nT hB hb.size))) ((hC.val y hm).below (hW.mono (nT hB hb.size))) (HH.out.2.2 y hm);rw [HH.out.2.1 y hm] at hPut;unfold CX.val cellV at hPut
   have i0:(0:Int)<=(k:Int):=by omega
   have i1:(k:Int)<(l.length:Int):=by omega
   have hbnd:ah ((eK true l).take k)<=78*k:=by
    have:∀ q:List (List UInt8),(∀ c∈q,c.length<=78)->ah q<=78*q.length:=by
     intro q
     induction q with
     | nil=>intro _;exact nR _
     | cons c q ih =>
      intro hq;rw [fv,List.length_cons];have:=ih (fun c hc=>hq c (List.mem_cons_of_mem _ hc));have:=hq c (List.mem_cons_self ..);omega
    have h2:=this ((eK true l).take k) (fun c hc=>by
     have hc:=List.mem_of_mem_take hc;unfold eK at hc;obtain ⟨z,hz,rfl⟩:=List.mem_map.1 hc
     exact (ja (HH.out.2.1 z hz)).2)
    rw [lK] at h2;exact nT h2 (Nat.mul_le_mul_left _ (Nat.min_le_left _ _))
   have hsn:ah ((eK true l).take (k+1))=ah ((eK true l).take k)+(cB true y.c).length:=by rw [htk,gK]
   obtain ⟨sm,HSM⟩:∃ n,Hid (ah ((eK true l).take k)=n):=⟨_,lH rfl⟩
   obtain ⟨nb,HNB⟩:∃ n,Hid ((cB true y.c).length=n):=⟨_,lH rfl⟩
   rw [HSM.out] at hbnd hsn ⊢;rw [HNB.out] at hcB hsn hPut
   obtain ⟨ac,HAC⟩:∃ n,Hid (2*k+sm=n):=⟨_,lH rfl⟩
   rw [HAC.out]
   have w1':IntKind.i64.wrap (2+(nb:Int))=2+(nb:Int):=by rw [IntKind.wrap_i64];omega
   have w2':IntKind.i64.wrap ((ac:Int)+(2+(nb:Int)))=(ac:Int)+(2+(nb:Int)):=by have:=HAC.out;rw [IntKind.wrap_i64];omega
   have HSN:=lH (aI hsn hcB);clear hsn hcB htk hC hc hbnd
   go_wp2_with (go_at_call 120;refine (hPut.out _ ?_).mono ?_;exact (bR _ _).alloc (nR _) _;rintro e w4 ⟨A,n,c,e4,ho4,hb4⟩;rw [if_pos rfl] at e4;subst e4;obtain ⟨rfl,ho5⟩:=ho4 rfl;clear ho4)
   have s4:Below wo.heap.size wo w4:=((bR _ wo).alloc (nR _) _).trans (hb4.mono (by simp))
   go_roundw
   case rel=>exact ⟨k+1,by omega,by go_num,by rw [HSN.out.1];have:=HAC.out;congr 1;omega,hb.trans (s4.mono hb.size)⟩
   case measure=>simp [intOf];omega
  ·have d1:decide (k<l.length)=false:=dF hlt
   obtain rfl:k=l.length:=by omega
   have e1:(eK true l).take l.length=eK true l:=List.take_of_length_le (by rw [dt];exact nR _);rw [e1];go_wp2;go_ret2;exact ⟨rfl,hb⟩
theorem xm {B:Nat} (A:Option Addr) (l:List CX) (cc:Nat) (w:World) (h:bf w B A l) (hll:l.length<=3000000) (hB:B<=w.heap.size) (hf:∀ y∈l,y.c.fit) (hok:∀ y∈l,iO false y.c=true) :
 Calls Tryz.prog 92 #[.int .i64 2,.slice A l.length cc] w fun e w'=>e=.returned (.tuple #[.int .i64 (rS false l:Nat),.int .i64 0])/\Below w.heap.size w w':=by
 have hH:=fun W=>fm 2 W;rw [show pj 2=true from rfl] at hH;have HCo:Hid (∀ W,_):=lH fun W=>bT 2 W;have hfld:=jG false;simp only [aO,cY,dW,Bool.false_eq_true,if_false] at hfld;have HH:=lH (aI h (aI hok hf));clear h hok hf;go_enter Tryz.func92,Tryz.ntmps92
 go_wp2_with (first
  | (go_at_call 119;refine (hH _).mono ?_;rintro e w2 ⟨rfl,h2⟩;have h2:=h2.symm;subst h2)
  | (go_at_call 85;refine (HCo.out _).mono ?_;rintro e w3 ⟨rfl,hb⟩;simp only [aO,cY,dW,Bool.false_eq_true,if_false,show decide ((2:Int)=3)=false from rfl]))
 clear hfld hH
 go_loopw [7,20] (fun u i wr=>∃ k:Nat,k<=l.length/\i=.int .i64 k/\u=.int .i64 (2*k+ah ((eK false l).take k):Nat)/\Below w.heap.size w wr) (fun _ i _=>l.length-(intOf i).toNat)
 case atStart=>exact ⟨0,zL _,rfl,rfl,hb⟩
 case round =>
  clear hb;obtain ⟨k,hk,rfl,rfl,hb⟩:=hrel
  obtain ⟨wo,rfl⟩:∃ wo,wo=wr:=⟨wr,rfl⟩
  by_cases hlt:k<l.length
  ·have d1:decide (k<l.length)=true:=dT hlt
   obtain ⟨y,hy⟩:∃ y,l[k]?=some y:=⟨_,gE hlt⟩
   have hm:=mG hy;have hC:=HH.out.1.below (hb.mono hB);obtain ⟨p,o,rfl,hp,hc⟩:=hC.at_ (by omega);obtain ⟨c1,c2,c3,c4,c5⟩:=hc k y hy;have hcB:=ja (HH.out.2.1 y hm);have htk:=lE (leaf:=false) hy;have hPut:Hid (∀ W,Below wo.heap.size wo W->_):=lH fun W hW=>dP false y W (nT hB (nT hb.size hW.size)) ((hC.key y hm).below (hW.mono (nT hB hb.size))) ((hC.val y hm).below (hW.mono (nT hB hb.size))) (HH.out.2.2 y hm);rw [HH.out.2.1 y hm] at hPut;unfold CX.val cellV at hPut
   have i0:(0:Int)<=(k:Int):=by omega
   have i1:(k:Int)<(l.length:Int):=by omega
   have hbnd:ah ((eK false l).take k)<=78*k:=by
    have:∀ q:List (List UInt8),(∀ c∈q,c.length<=78)->ah q<=78*q.length:=by
     intro q
     induction q with
     | nil=>intro _;exact nR _
     | cons c q ih =>
      intro hq;rw [fv,List.length_cons];have:=ih (fun c hc=>hq c (List.mem_cons_of_mem _ hc));have:=hq c (List.mem_cons_self ..);omega
    have h2:=this ((eK false l).take k) (fun c hc=>by
     have hc:=List.mem_of_mem_take hc;unfold eK at hc;obtain ⟨z,hz,rfl⟩:=List.mem_map.1 hc
     exact (ja (HH.out.2.1 z hz)).2)
    rw [lK] at h2;exact nT h2 (Nat.mul_le_mul_left _ (Nat.min_le_left _ _))
   have hsn:ah ((eK false l).take (k+1))=ah ((eK false l).take k)+(cB false y.c).length:=by rw [htk,gK]
   obtain ⟨sm,HSM⟩:∃ n,Hid (ah ((eK false l).take k)=n):=⟨_,lH rfl⟩
   obtain ⟨nb,HNB⟩:∃ n,Hid ((cB false y.c).length=n):=⟨_,lH rfl⟩
   rw [HSM.out] at hbnd hsn ⊢;rw [HNB.out] at hcB hsn hPut
   obtain ⟨ac,HAC⟩:∃ n,Hid (2*k+sm=n):=⟨_,lH rfl⟩
   rw [HAC.out]
   have w1':IntKind.i64.wrap (2+(nb:Int))=2+(nb:Int):=by rw [IntKind.wrap_i64];omega
   have w2':IntKind.i64.wrap ((ac:Int)+(2+(nb:Int)))=(ac:Int)+(2+(nb:Int)):=by have:=HAC.out;rw [IntKind.wrap_i64];omega
   have HSN:=lH (aI hsn hcB);clear hsn hcB htk hC hc hbnd
   go_wp2_with (go_at_call 122;refine (hPut.out _ ?_).mono ?_;exact (bR _ _).alloc (nR _) _;rintro e w4 ⟨A,n,c,e4,ho4,hb4⟩;rw [if_pos rfl] at e4;subst e4;obtain ⟨rfl,ho5⟩:=ho4 rfl;clear ho4)
   have s4:Below wo.heap.size wo w4:=((bR _ wo).alloc (nR _) _).trans (hb4.mono (by simp))
   go_roundw
   case rel=>exact ⟨k+1,by omega,by go_num,by rw [HSN.out.1];have:=HAC.out;congr 1;omega,hb.trans (s4.mono hb.size)⟩
   case measure=>simp [intOf];omega
  ·have d1:decide (k<l.length)=false:=dF hlt
   obtain rfl:k=l.length:=by omega
   have e1:(eK false l).take l.length=eK false l:=List.take_of_length_le (by rw [dt];exact nR _);rw [e1];go_wp2;go_ret2;exact ⟨rfl,hb⟩
theorem lG (x:NX) (leaf:Bool) (hk:x.kind=if leaf=true then 3 else 2) (h:aD x.n=true):∀ y∈x.l,iO leaf y.c=true:=by
 have:(x.l.all fun y=>iO leaf y.c)=true:=by
  cases leaf with
  | true =>
   rw [ny x hk] at h;simp only [Bool.and_eq_true] at h;exact h.2.1.1
  | false =>
   rw [lC x hk] at h;simp only [Bool.and_eq_true] at h;exact h.2.2.1.1
 rw [List.all_eq_true] at this;exact this
theorem sZ (x:NX) (leaf:Bool) (hk:x.kind=if leaf=true then 3 else 2):rS leaf x.l=b7 x.n.kind x.n.cells:=by
 rw [vg];unfold rS NX.n eK;rw [List.length_map,List.map_map];congr 2
 cases leaf with
 | true =>
  have hk:x.kind=3:=hk;rw [hk];rfl
 | false =>
  have hk:x.kind=2:=hk;rw [hk];rfl
def iP (n:PN):Int:=if n.kind=2\/n.kind=3 then (b7 n.kind n.cells:Nat) else 0
theorem AB {B:Nat} (x:NX) (w:World) (h:aP w B x) (hB:B<=w.heap.size) (hok:aD x.n=true) :
 ∃ er:Int,Calls Tryz.prog 92 #[.int .i64 x.kind,.slice x.ca x.l.length x.cc] w fun e w'=>e=.returned (.tuple #[.int .i64 (iP x.n),.int .i64 er])/\Below w.heap.size w w':=by
 unfold iP;by_cases h3:x.kind=3
 ·refine ⟨0,?_⟩;rw [if_pos (.inr h3),<-sZ x true h3,h3];exact AA x.ca x.l x.cc w h.cells h.many hB h.fit (lG x true h3 hok)
 ·by_cases h2:x.kind=2
  ·refine ⟨0,?_⟩;rw [if_pos (.inl h2),<-sZ x false h2,h2];exact xm x.ca x.l x.cc w h.cells h.many hB h.fit (lG x false h2 hok)
  ·refine ⟨80,?_⟩;rw [if_neg (by rintro (h | h);exact h2 h;exact h3 h)]
   exact (Ey x.kind x.ca x.l.length x.cc w h2 h3).mono fun e w' ⟨he,hw⟩=>⟨he,hw ▸ bR _ _⟩
theorem Ez {B:Nat} (x:NX) (w:World) (h:aP w B x) (hB:B<=w.heap.size) (hf:x.n.Fit) (hok:aD x.n=true) (hu:iP x.n<=241) :
 Calls Tryz.prog 82 #[x.val] w fun e w'=>∃ g,e=.returned (.slice (some ⟨g,0,none⟩) 243 243)/\w.heap.size<=g/\aa w' g 5 (bl (aZ x.n)).toArray/\Below w.heap.size w w':=by
 have hkk:=iV hok;have hkn:x.n.kind=x.kind:=rfl;by_cases h3:x.kind=3
 ·unfold iP at hu;rw [if_pos (.inr h3),<-sZ x true h3] at hu;unfold rS at hu;exact Az x w h3 h hB (lG x true h3 hok) (by omega)
 ·by_cases h2:x.kind=2
  ·unfold iP at hu;rw [if_pos (.inl h2),<-sZ x false h2] at hu;unfold rS at hu;exact xk x w h2 h hB (lG x false h2 hok) (by omega)
  ·by_cases h1:x.kind=1
   ·exact rQ x w h1 hf.root hf.pages hf.free hf.entries
   ·by_cases h4:x.kind=4
    ·have hl:x.data.length<=238:=by
      unfold aD at hok;rw [hkn,if_neg h1,if_pos h4,Bool.and_eq_true,decide_eq_true_eq] at hok;exact hok.2.2
     exact rP x w h4 hf.next hB h.data hl
    ·exact rO x w (by rw [hkn] at hkk;omega) hf.next
theorem vh (x:NX) (hok:aD x.n=true) (hu:iP x.n<=241):(aZ x.n).length=243:=by
 have he:putE x.n=0:=by
  unfold putE;rw [hok,if_neg (by simp),if_neg];rintro ⟨h2,h3⟩;unfold iP at hu;rw [if_pos h2] at hu;omega
 exact Cd he
theorem EA {B:Nat} (x:NX) (w:World) (h:aP w B x) (hB:B<=w.heap.size) (hf:x.n.Fit) :
 Calls Tryz.prog 58 #[x.val] w fun e w'=>∃ A n c,e=.returned (.tuple #[.slice A n c,.int .i64 (putE x.n)])/\(putE x.n=0->n=256/\w'.ownsRow w.heap.size 5 1 (.slice A n c) 256 (bl (Ai x.n)))/\Below w.heap.size w w':=by
 obtain ⟨w1,hw1⟩:∃ w1,w1=w.alloc (.cells x.cells 95):=⟨_,rfl⟩
 have hb1:Below w.heap.size w w1:=by rw [hw1];exact (bR _ w).alloc (nR _) _
 have hN:aa w1 w.heap.size 95 x.cells:=by rw [hw1];exact aa.new _ _ _
 have h1:=h.below (hb1.mono hB);have hB1:=nT hB hb1.size;have hI:=po x w1 h1 hB1
 have kS:Hid (∀ W,Below w1.heap.size w1 W->(W.cell? ⟨w.heap.size,0,none⟩=some (.int .i64 x.kind)/\W.cell? ⟨w.heap.size,1,none⟩=some (.int .u64 (x.lsn:Nat))/\W.cell? ⟨w.heap.size,2,none⟩=some (.slice x.ca x.l.length x.cc)/\W.cell? ⟨w.heap.size,3,none⟩=some (.int .u32 (x.next:Nat))/\W.cell? ⟨w.heap.size,4,none⟩=some (.slice x.da x.data.length x.dc)/\W.cell? ⟨w.heap.size,5,none⟩=some (.int .u32 (x.root:Nat))/\W.cell? ⟨w.heap.size,6,none⟩=some (.int .u32 (x.pages:Nat))/\W.cell? ⟨w.heap.size,7,none⟩=some (.int .u32 (x.free:Nat))/\W.cell? ⟨w.heap.size,8,none⟩=some (.int .u64 (x.entries:Nat)))):=lH fun W hW=>⟨(hN.below hW hN.lt).cell 0,(hN.below hW hN.lt).cell 1,(hN.below hW hN.lt).cell 2,(hN.below hW hN.lt).cell 3,(hN.below hW hN.lt).cell 4,(hN.below hW hN.lt).cell 5,(hN.below hW hN.lt).cell 6,(hN.below hW hN.lt).cell 7,(hN.below hW hN.lt).cell 8⟩
 cases hok:aD x.n with
 | false =>
  have he:putE x.n=80:=by unfold putE;rw [hok,if_pos rfl]
  rw [he];rw [hok] at hI;unfold NX.val aJ NX.cells at *;have HW1:=lH hw1;have HI:=lH hI;have HNB:=lH hN;clear hI hw1 hN h h1 hok he hf;go_enter Tryz.func58,Tryz.ntmps58
  go_wp2_with (first
   | (rw [<-HW1.out];refine wpList_load_row rfl 95 (.tmp 1) rfl w.heap.size rfl _ _ _ _ HNB.out Tryz.underlying95 rfl (by kernel_rfl) ?_)
   | (go_at_call 57;refine HI.out.mono ?_;rintro e w3 ⟨rfl,hb3⟩))
  go_ret2;exact ⟨none,0,0,rfl,fun hh=>absurd hh (by decide),hb1.trans (hb3.mono hb1.size)⟩
 | true =>
  have hU:Hid (∀ W,Below w1.heap.size w1 W->_):=lH fun W hW=>AB x W (h1.below (hW.mono hB1)) (nT hB1 hW.size) hok;have hkk:=iV hok
  obtain ⟨k,hk⟩:∃ k:Nat,x.kind=(k:Int):=⟨x.kind.toNat,by have:x.n.kind=x.kind:=rfl;omega⟩
  rw [hok] at hI;by_cases hu:iP x.n<=241
  ·have he:putE x.n=0:=by
    unfold putE;rw [hok,if_neg (by simp),if_neg];rintro ⟨h2,h3⟩;unfold iP at hu;rw [if_pos h2] at hu;omega
   have hpp:Ai x.n=uR k x.lsn (aZ x.n):=by
    unfold Ai;have:x.n.kind=(k:Int):=hk;rw [this];rfl
   rw [he,hpp];have hBd:Hid (∀ W,Below w1.heap.size w1 W->_):=lH fun W hW=>Ez x W (h1.below (hW.mono hB1)) (nT hB1 hW.size) hf hok hu;have hSl:Hid (∀ (W:World) (g:Nat),aa W g 5 (bl (aZ x.n)).toArray->_):=lH fun W g hG=>Cn k x.lsn (some ⟨g,0,none⟩) 243 (aZ x.n) W (nR _) (by have:=rB hG rfl;rwa [vh x hok hu] at this) (by have:x.n.kind=(k:Int):=hk;omega) hf.lsn
   obtain ⟨bo,HBO⟩:∃ b,Hid (aZ x.n=b):=⟨_,lH rfl⟩
   obtain ⟨u,HU⟩:∃ b,Hid (iP x.n=b):=⟨_,lH rfl⟩
   rw [HBO.out] at hBd hSl ⊢;rw [HU.out] at hU hu;have d1:decide (241<u)=false:=dF (by omega);unfold NX.val aJ NX.cells at *;rw [hk] at hI hw1 hN kS hU hBd ⊢;have HW1:=lH hw1;have HI:=lH hI;have HNB:=lH hN;clear hI hw1 hN h h1 hok he hf hpp hk hkk;go_enter Tryz.func58,Tryz.ntmps58
   go_wp2_with (first
    | (rw [<-HW1.out];refine wpList_load_row rfl 95 (.tmp 1) rfl w.heap.size rfl _ _ _ _ HNB.out Tryz.underlying95 rfl (by kernel_rfl) ?_)
    | (go_at_call 57;refine HI.out.mono ?_;rintro e w3 ⟨rfl,hb3⟩;obtain ⟨f0,f1,f2,f3,f4,f5,f6,f7,f8⟩:=kS.out _ hb3;obtain ⟨er,hU3⟩:=hU.out _ hb3)
    | (go_at_call 92;refine hU3.mono ?_;rintro e w4 ⟨rfl,hb4⟩))
   have hb4':Below w1.heap.size w1 w4:=hb3.trans (hb4.mono hb3.size);have hb5:Below w1.heap.size w1 w4.drew:=hb4'.drew;have hBd5:=hBd.out _ hb5;clear hU3 f0 f1 f2 f3 f4 f5 f6 f7 f8;refine bB 10 (fun W0=>W0.cell? ⟨w.heap.size,0,none⟩=some (.int .i64 (k:Nat))/\W0.cell? ⟨w.heap.size,1,none⟩=some (.int .u64 (x.lsn:Nat))/\W0.cell? ⟨w.heap.size,2,none⟩=some (.slice x.ca x.l.length x.cc)/\W0.cell? ⟨w.heap.size,3,none⟩=some (.int .u32 (x.next:Nat))/\W0.cell? ⟨w.heap.size,4,none⟩=some (.slice x.da x.data.length x.dc)/\W0.cell? ⟨w.heap.size,5,none⟩=some (.int .u32 (x.root:Nat))/\W0.cell? ⟨w.heap.size,6,none⟩=some (.int .u32 (x.pages:Nat))/\W0.cell? ⟨w.heap.size,7,none⟩=some (.int .u32 (x.free:Nat))/\W0.cell? ⟨w.heap.size,8,none⟩=some (.int .u64 (x.entries:Nat))) (kS.out _ hb5) (fun hHeld hTl=>?_);refine ae 0 hTl hHeld (fun hTl=>?_)
   try simp only [pT]
   refine ae 1 hTl hHeld (fun hTl=>?_)
   try simp only [pT]
   refine ae 2 hTl hHeld (fun hTl=>?_)
   try simp only [pT]
   refine ae 3 hTl hHeld (fun hTl=>?_)
   try simp only [pT]
   refine ae 4 hTl hHeld (fun hTl=>?_)
   try simp only [pT]
   have hTl2:=hTl.step 5 (by kernel_rfl) (by decide);clear hTl;refine sP 5 hBd5 ?_
   rintro e w6 ⟨g,e6,hg,hG,hb6⟩;subst e6;have hb6':=hb5.trans (hb6.mono hb5.size)
   refine ⟨_,rfl,(fun _=>kS.out _ hb6'),?_⟩
   try simp only [pT]
   have hTl:=hTl2;clear hTl2;have hSl6:=hSl.out _ _ hG;have hHeld:=kS.out _ hb6';refine ae 6 hTl hHeld (fun hTl=>?_)
   try simp only [pT]
   have hTl2:=hTl.step 7 (by kernel_rfl) (by decide);clear hTl;refine sP 7 hSl6 ?_
   rintro e w7 ⟨v7,e7,ho7,hb7⟩;subst e7;obtain ⟨A7,c7,rfl⟩:=bw ho7;have hb7':=hb6'.trans (hb7.mono hb6'.size)
   refine ⟨_,rfl,(fun _=>kS.out _ hb7'),?_⟩
   try simp only [pT]
   have hTl:=hTl2;clear hTl2;have hHeld:=kS.out _ hb7';refine ae 8 hTl hHeld (fun hTl=>?_)
   try simp only [pT]
   refine ae 9 hTl hHeld (fun hTl=>?_)
   try simp only [pT]
   clear hTl;refine az 10 (fun K hK=>?_);go_simp;refine hK.out _ _ ?_;clear hK K
   try simp only [pT]
   refine az 11 (fun K hK=>?_);go_simp;refine hK.out _ _ ?_;clear hK K
   try simp only [pT]
   refine cW ?_ _;go_wp2;go_ret2;exact ⟨A7,_,c7,rfl,fun _=>⟨rfl,cj ho7 (nT hb1.size hb6'.size)⟩,hb1.trans (hb7'.mono hb1.size)⟩
  ·have hc:(x.kind=2\/x.kind=3)/\241<b7 x.n.kind x.n.cells:=by
    unfold iP at hu;by_cases h2:x.n.kind=2\/x.n.kind=3
    ·rw [if_pos h2] at hu;exact ⟨h2,by omega⟩
    ·rw [if_neg h2] at hu;omega
   have he:putE x.n=60:=by
    unfold putE;rw [hok,if_neg (by simp)];exact if_pos hc
   rw [he]
   obtain ⟨u,HU⟩:∃ b,Hid (iP x.n=b):=⟨_,lH rfl⟩
   rw [HU.out] at hU hu;have d1:decide (241<u)=true:=dT (by omega);unfold NX.val aJ NX.cells at *;rw [hk] at hI hw1 hN kS hU ⊢;have HW1:=lH hw1;have HI:=lH hI;have HNB:=lH hN;clear hI hw1 hN h h1 hok he hf hk hkk hc;go_enter Tryz.func58,Tryz.ntmps58
   go_wp2_with (first
    | (rw [<-HW1.out];refine wpList_load_row rfl 95 (.tmp 1) rfl w.heap.size rfl _ _ _ _ HNB.out Tryz.underlying95 rfl (by kernel_rfl) ?_)
    | (go_at_call 57;refine HI.out.mono ?_;rintro e w3 ⟨rfl,hb3⟩;obtain ⟨f0,f1,f2,f3,f4,f5,f6,f7,f8⟩:=kS.out _ hb3;obtain ⟨er,hU3⟩:=hU.out _ hb3)
    | (go_at_call 92;refine hU3.mono ?_;rintro e w4 ⟨rfl,hb4⟩))
   go_ret2;exact ⟨none,0,0,rfl,fun hh=>absurd hh (by decide),hb1.trans ((hb3.trans (hb4.mono hb3.size)).mono hb1.size)⟩
end
end Go.Proofs.YtgohffhoapkeaaaGreatDoor
